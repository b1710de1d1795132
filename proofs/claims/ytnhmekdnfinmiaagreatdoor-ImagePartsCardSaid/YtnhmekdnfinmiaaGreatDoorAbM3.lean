/- Texts of this proof, merged (printed by wip/pmerge.py out of AbM3). -/
import Derived.Test.YtnhmekdnfinmiaaGreatDoorAbM2
import Derived.Test.YtnhmekdnfinmiaaGreatDoorQ1
import Derived.KernelRfl
/- The executor, part 3 of 4 (printed by wip/merge.py out of the texts Ab1 to Ab38). -/
/- Frames related; the machine's steps of control. -/
namespace Go.Ab
set_option linter.unusedSimpArgs false
set_option linter.unusedVariables false
set_option linter.unusedSectionVars false
inductive ItemR (E : Env) : Item → Item → Prop
  | code (c) : ItemR E (.code c) (.code c)
  | inBlock (i) : ItemR E (.inBlock i) (.inBlock i)
  | inLoop (b) : ItemR E (.inLoop b) (.inLoop b)
  | inScope (b) : ItemR E (.inScope b) (.inScope b)
  | inRegion (o l) : ItemR E (.inRegion o l) (.inRegion o l)
  | endRangeFunc {l l'} : E l = some (l', none) → ItemR E (.endRangeFunc l) (.endRangeFunc l')
  | beginRound : ItemR E .beginRound .beginRound
theorem ItemR.mono {E E' : Env} (h : E.le E') {a a' : Item} (r : ItemR E a a') : ItemR E' a a' := by
  cases r with
  | code c => exact .code c
  | inBlock i => exact .inBlock i
  | inLoop b => exact .inLoop b
  | inScope b => exact .inScope b
  | inRegion o l => exact .inRegion o l
  | endRangeFunc e => exact .endRangeFunc (h _ _ e)
  | beginRound => exact .beginRound
inductive ItemsR (E : Env) : List Item → List Item → Prop
  | nil : ItemsR E [] []
  | cons {a a' l l'} : ItemR E a a' → ItemsR E l l' → ItemsR E (a :: l) (a' :: l')
theorem ItemsR.mono {E E' : Env} (h : E.le E') {a a' : List Item} (r : ItemsR E a a') : ItemsR E' a a' := by
  induction r with
  | nil => exact .nil
  | cons r _ i => exact .cons (r.mono h) i
theorem exitTo_rel {E : Env} (id : Nat) {k k' : List Item} (r : ItemsR E k k') : (exitTo id k = none ∧ exitTo id k' = none) ∨ ∃ m m', exitTo id k = some m ∧ exitTo id k' = some m' ∧ ItemsR E m m' := by
  induction r with
  | nil => exact .inl ⟨rfl, rfl⟩
  | cons a r ih =>
    cases a with
    | inBlock i =>
      simp only [exitTo]
      by_cases h : (i == id) = true
      · simp only [h, if_true]; exact .inr ⟨_, _, rfl, rfl, r⟩
      · simp only [h]; exact ih
    | _ => exact ih
theorem gotoIn_rel {E : Env} (l : Nat) {k k' : List Item} (r : ItemsR E k k') : (gotoIn l k = none ∧ gotoIn l k' = none) ∨ ∃ m m', gotoIn l k = some m ∧ gotoIn l k' = some m' ∧ ItemsR E m m' := by
  induction r with
  | nil => exact .inl ⟨rfl, rfl⟩
  | cons a r ih =>
    cases a with
    | inScope b =>
      simp only [gotoIn]
      cases findLabel b l with
      | some rest => exact .inr ⟨_, _, rfl, rfl, .cons (.code _) (.cons (.inScope _) r)⟩
      | none => exact ih
    | _ => exact ih
inductive RoR (E : Env) : Option Nat → Option Nat → Prop
  | none : RoR E none none
  | some {l l'} : E l = some (l', Option.none) → RoR E (Option.some l) (Option.some l')
structure FR (E : Env) (fr fr' : Frame) : Prop where
  fn : fr'.fn = fr.fn
  tmps : VRs E fr.tmps fr'.tmps
  todo : ItemsR E fr.todo fr'.todo
  defers : DefsR E fr.defers fr'.defers
  mode : fr'.mode = fr.mode
  kind : fr'.kind = fr.kind
  ro : RoR E fr.roundOf fr'.roundOf
theorem RoR.mono {E E' : Env} (h : E.le E') {a a' : Option Nat} (r : RoR E a a') : RoR E' a a' := by
  cases r with
  | none => exact .none
  | some e => exact .some (h _ _ e)
theorem FR.mono {E E' : Env} (h : E.le E') {a a' : Frame} (r : FR E a a') : FR E' a a' := ⟨r.fn, r.tmps.mono h, r.todo.mono h, r.defers.mono h, r.mode, r.kind, r.ro.mono h⟩
theorem VRs.undefs (E : Env) (n : Nat) : VRs E (Array.replicate n undef) (Array.replicate n undef) := ⟨rfl, fun i h => by simp only [Array.getElem_replicate]; exact VR.undef E⟩
theorem FR.enter {P : Program} {E : Env} {f : FuncId} {az az' : Array Value} (r : VRs E az az') (kind : CallKind) : FR E (Frame.enter P f az kind) (Frame.enter P f az' kind) :=
  ⟨rfl, by simp only [Frame.enter]; rw [← r.size]; exact r.append (VRs.undefs E _), .cons (.code _) .nil, .nil, rfl, rfl, .none⟩
theorem FR.round {E : Env} {l l' : Nat} {f : FuncId} {ts ts' : Array Value} {a b : Code} (e : E l = some (l', none)) (r : VRs E ts ts') : FR E (Frame.round l f ts a b .normal) (Frame.round l' f ts' a b .normal) :=
  ⟨rfl, r, .cons (.code _) (.cons .beginRound (.cons (.code _) .nil)), .nil, rfl, rfl, .some e⟩
def Ends (P : Program) (fr : Frame) (cs : List Frame) (w : World) (v : Value) (w' : World) : Prop :=
  match fr.roundOf with
  | none => ∃ fr2, Steps P (lone fr cs w) (lone fr2 cs w') ∧ fr2.fn = fr.fn ∧ fr2.mode = .returning ∧ fr2.defers = [] ∧ fr2.kind = fr.kind ∧ ∃ fn, P.funcs[fr2.fn]? = some fn ∧ (results fn fr2.tmps).run P w' = .ok v w'
  | some _ => ∀ c cs', cs = c :: cs' → fr.kind = .normal → Steps P (lone fr cs w) (lone (c.finish v) cs' w')
section
variable {P : Program} {w w1 w' : World} {cs : List Frame} {fr fr1 : Frame} {v : Value}
theorem Ends.of_steps (h : Steps P (lone fr cs w) (lone fr1 cs w1)) (hf : fr1.fn = fr.fn) (hk : fr1.kind = fr.kind) (hr : fr1.roundOf = fr.roundOf) (e : Ends P fr1 cs w1 v w') : Ends P fr cs w v w' := by
  unfold Ends at e ⊢
  rw [hr] at e
  cases hro : fr.roundOf with
  | none =>
    rw [hro] at e
    obtain ⟨fr2, h1, h2, h3, h4, h5, h6⟩ := e
    exact ⟨fr2, Steps.trans h h1, by rw [h2, hf], h3, h4, by rw [h5, hk], h6⟩
  | some l =>
    rw [hro] at e
    intro c cs' hc hn
    exact Steps.trans h (e c cs' hc (by rw [hk]; exact hn))
theorem Ends.back {c : Frame} (hk : fr.kind = .normal) (e : Ends P fr (c :: cs) w v w') : Steps P (lone fr (c :: cs) w) (lone (c.finish v) cs w') := by
  unfold Ends at e
  cases hro : fr.roundOf with
  | none =>
    rw [hro] at e
    obtain ⟨fr2, h1, h2, h3, h4, h5, h6⟩ := e
    exact Steps.trans h1 (Steps.one' (step_leave_returned ⟨h3, h4, by rw [h5, hk], h6⟩))
  | some l =>
    rw [hro] at e
    exact e c cs rfl hk
theorem Ends.backD {c : Frame} (hk : fr.kind = .deferred) (hro : fr.roundOf = none) (hc : c.mode = .returning) (e : Ends P fr (c :: cs) w v w') : Steps P (lone fr (c :: cs) w) (lone c cs w') := by
  unfold Ends at e
  rw [hro] at e
  obtain ⟨fr2, h1, h2, h3, h4, h5, fn, h6, h7⟩ := e
  refine Steps.trans h1 (Steps.one' (step_lone_go ?_))
  simp [stepG, unwind, doReturn, h3, h4, h5, hk, h6, h7, hc]
variable {k : List Item} {a b c : Code}
theorem step_skipC (hm : fr.mode = .run) (ht : fr.todo = .code .skip :: k) : step P (lone fr cs w) = .next (lone { fr with todo := k } cs w) := by
  obtain ⟨fn, tmps, todo, defers, mode, kind, ro⟩ := fr; simp only at hm ht; subst hm ht; exact step_lone_go (by simp [stepG, stepG.exec])
theorem step_label {l : Nat} (hm : fr.mode = .run) (ht : fr.todo = .code (.label l) :: k) : step P (lone fr cs w) = .next (lone { fr with todo := k } cs w) := by
  obtain ⟨fn, tmps, todo, defers, mode, kind, ro⟩ := fr; simp only at hm ht; subst hm ht; exact step_lone_go (by simp [stepG, stepG.exec])
theorem step_inBlock {l : Nat} (hm : fr.mode = .run) (ht : fr.todo = .inBlock l :: k) : step P (lone fr cs w) = .next (lone { fr with todo := k } cs w) := by
  obtain ⟨fn, tmps, todo, defers, mode, kind, ro⟩ := fr; simp only at hm ht; subst hm ht; exact step_lone_go (by simp [stepG, stepG.exec])
theorem step_inScope (hm : fr.mode = .run) (ht : fr.todo = .inScope a :: k) : step P (lone fr cs w) = .next (lone { fr with todo := k } cs w) := by
  obtain ⟨fn, tmps, todo, defers, mode, kind, ro⟩ := fr; simp only at hm ht; subst hm ht; exact step_lone_go (by simp [stepG, stepG.exec])
theorem step_seq (hm : fr.mode = .run) (ht : fr.todo = .code (.seq a b) :: k) : step P (lone fr cs w) = .next (lone { fr with todo := .code a :: .code b :: k } cs w) := by
  obtain ⟨fn, tmps, todo, defers, mode, kind, ro⟩ := fr; simp only at hm ht; subst hm ht; exact step_lone_go (by simp [stepG, stepG.exec])
theorem step_cond {x : Operand} {t : Bool} (hm : fr.mode = .run) (ht : fr.todo = .code (.cond x a b) :: k) (hx : fr.eval x = .bool t) : step P (lone fr cs w) = .next (lone { fr with todo := .code (if t then a else b) :: k } cs w) := by
  obtain ⟨fn, tmps, todo, defers, mode, kind, ro⟩ := fr; simp only at hm ht; subst hm ht; exact step_lone_go (by simp [stepG, stepG.exec, hx])
theorem step_block {i : Nat} (hm : fr.mode = .run) (ht : fr.todo = .code (.block i a) :: k) : step P (lone fr cs w) = .next (lone { fr with todo := .code a :: .inBlock i :: k } cs w) := by
  obtain ⟨fn, tmps, todo, defers, mode, kind, ro⟩ := fr; simp only at hm ht; subst hm ht; exact step_lone_go (by simp [stepG, stepG.exec])
theorem step_loop (hm : fr.mode = .run) (ht : fr.todo = .code (.loop a) :: k) : step P (lone fr cs w) = .next (lone { fr with todo := .code a :: .inLoop a :: k } cs w) := by
  obtain ⟨fn, tmps, todo, defers, mode, kind, ro⟩ := fr; simp only at hm ht; subst hm ht; exact step_lone_go (by simp [stepG, stepG.exec])
theorem step_inLoop (hm : fr.mode = .run) (ht : fr.todo = .inLoop a :: k) : step P (lone fr cs w) = .next (lone { fr with todo := .code a :: .inLoop a :: k } cs w) := by
  obtain ⟨fn, tmps, todo, defers, mode, kind, ro⟩ := fr; simp only at hm ht; subst hm ht; exact step_lone_go (by simp [stepG, stepG.exec])
theorem step_scope (hm : fr.mode = .run) (ht : fr.todo = .code (.scope a) :: k) : step P (lone fr cs w) = .next (lone { fr with todo := .code a :: .inScope a :: k } cs w) := by
  obtain ⟨fn, tmps, todo, defers, mode, kind, ro⟩ := fr; simp only at hm ht; subst hm ht; exact step_lone_go (by simp [stepG, stepG.exec])
theorem step_exit {i : Nat} {m : List Item} (hm : fr.mode = .run) (ht : fr.todo = .code (.exit i) :: k) (he : exitTo i k = some m) : step P (lone fr cs w) = .next (lone { fr with todo := m } cs w) := by
  obtain ⟨fn, tmps, todo, defers, mode, kind, ro⟩ := fr; simp only at hm ht; subst hm ht; exact step_lone_go (by simp [stepG, stepG.exec, he])
theorem step_goto {i : Nat} {m : List Item} (hm : fr.mode = .run) (ht : fr.todo = .code (.goto i) :: k) (he : gotoIn i k = some m) : step P (lone fr cs w) = .next (lone { fr with todo := m } cs w) := by
  obtain ⟨fn, tmps, todo, defers, mode, kind, ro⟩ := fr; simp only at hm ht; subst hm ht; exact step_lone_go (by simp [stepG, stepG.exec, he])
theorem step_regionO {i : Nat} {ops : Array Oper} (hm : fr.mode = .run) (ht : fr.todo = .code (.region i ops false) :: k) : step P (lone fr cs w) = .next (lone { fr with todo := .inRegion ops (List.range ops.size) :: k } cs w) := by
  obtain ⟨fn, tmps, todo, defers, mode, kind, ro⟩ := fr; simp only at hm ht; subst hm ht; exact step_lone_go (by simp [stepG, stepG.exec])
theorem step_regionE {ops : Array Oper} (hm : fr.mode = .run) (ht : fr.todo = .inRegion ops [] :: k) : step P (lone fr cs w) = .next (lone { fr with todo := k } cs w) := by
  obtain ⟨fn, tmps, todo, defers, mode, kind, ro⟩ := fr; simp only at hm ht; subst hm ht; exact step_lone_go (by simp [stepG, stepG.exec])
theorem step_leaveE (hm : fr.mode = .run) (ht : fr.todo = []) (hr : fr.roundOf = none) : step P (lone fr cs w) = .next (lone { fr with mode := .returning } cs w) := by
  obtain ⟨fn, tmps, todo, defers, mode, kind, ro⟩ := fr; simp only at hm ht hr; subst hm ht hr; exact step_lone_go (by simp [stepG, stepG.exec])
theorem step_leaveR (hm : fr.mode = .run) (ht : fr.todo = .code .ret :: k) (hr : fr.roundOf = none) : step P (lone fr cs w) = .next (lone { fr with mode := .returning } cs w) := by
  obtain ⟨fn, tmps, todo, defers, mode, kind, ro⟩ := fr; simp only at hm ht hr; subst hm ht hr; exact step_lone_go (by simp [stepG, stepG.exec])
def leaves (fr : Frame) : Option Code → Prop
  | none => fr.todo = []
  | some .ret => ∃ k, fr.todo = .code .ret :: k
  | some (.exit i) => ∃ k, fr.todo = .code (.exit i) :: k ∧ exitTo i k = none
  | some (.goto i) => ∃ k, fr.todo = .code (.goto i) :: k ∧ gotoIn i k = none
  | _ => False
theorem step_leaveRound {l : Nat} {c : Frame} {jump : Option Code} (hm : fr.mode = .run) (hl : leaves fr jump) (hr : fr.roundOf = some l) (hk : fr.kind = .normal) (hd : (Instr.endRound l jump).run P w = .ok v w') :
    step P (lone fr (c :: cs) w) = .next (lone (c.finish v) cs w') := by
  obtain ⟨fn, tmps, todo, defers, mode, kind, ro⟩ := fr
  simp only at hm hr hk
  subst hm hr hk
  unfold leaves at hl
  split at hl
  · simp only at hl
    subst hl
    exact step_lone_go (by simp [stepG, stepG.exec, doReturn, hd])
  · obtain ⟨k, hl⟩ := hl
    simp only at hl
    subst hl
    exact step_lone_go (by simp [stepG, stepG.exec, doReturn, hd])
  · obtain ⟨k, hl, he⟩ := hl
    simp only at hl
    subst hl
    exact step_lone_go (by simp [stepG, stepG.exec, doReturn, hd, he])
  · obtain ⟨k, hl, he⟩ := hl
    simp only at hl
    subst hl
    exact step_lone_go (by simp [stepG, stepG.exec, doReturn, hd, he])
  · exact hl.elim
theorem step_beginRound {l : Nat} (hm : fr.mode = .run) (ht : fr.todo = .beginRound :: k) (hr : fr.roundOf = some l) (hd : (Instr.beginRound l).run P w = .ok () w') : step P (lone fr cs w) = .next (lone { fr with todo := k } cs w') := by
  obtain ⟨fn, tmps, todo, defers, mode, kind, ro⟩ := fr; simp only at hm ht hr; subst hm ht hr; exact step_lone_go (by simp [stepG, stepG.exec, stepG.apply, hd, Frame.finish])
theorem step_endRange {l : Nat} {jump : Option Code} (hm : fr.mode = .run) (ht : fr.todo = .endRangeFunc l :: k) (hd : (Instr.endLoop l).run P w = .ok jump w') : step P (lone fr cs w) = .next (lone { fr with todo := (jump.map Item.code).toList ++ k } cs w') := by
  obtain ⟨fn, tmps, todo, defers, mode, kind, ro⟩ := fr; simp only at hm ht; subst hm ht; exact step_lone_go (by simp [stepG, stepG.exec, hd])
theorem step_rangeFunc {f : Operand} {ps : Array Tmp} {l : Nat} {mark : List Deferred} {g : FuncId} {first captured : Array Value} (hm : fr.mode = .run) (ht : fr.todo = .code (.rangeFunc f ps a b) :: k) (hb : bodied P g = true)
    (hd : (Instr.enterLoop fr.fn fr.tmps ps a b fr.roundOf).run P w = .ok (l, mark) w') (hv : fr.eval f = .func (.func g) first captured) :
    step P (lone fr cs w) = .next (lone (Frame.enter P g ((first ++ #[.func (.yield l) #[] #[]]) ++ captured) .normal) ({ fr with todo := .inRangeFunc l :: k, defers := mark ++ fr.defers } :: cs) w') := by
  obtain ⟨fn, tmps, todo, defers, mode, kind, ro⟩ := fr
  simp only at hm ht hd
  subst hm ht
  have hv' : (Frame.eval { fn := fn, tmps := tmps, todo := .inRangeFunc l :: k, defers := mark ++ defers, mode := .run, kind := kind, roundOf := ro } f) = .func (.func g) first captured := by
    rw [← hv]; cases f <;> rfl
  have hcst : (Frame.eval { fn := fn, tmps := tmps, todo := .inRangeFunc l :: k, defers := mark ++ defers, mode := .run, kind := kind, roundOf := ro } (.const (.func (.yield l) #[] #[]))) = .func (.yield l) #[] #[] := rfl
  have hc := run_callFunc hb ((first ++ #[.func (.yield l) #[] #[]]) ++ captured) w'
  generalize hF : ({ fn := fn, tmps := tmps, todo := .inRangeFunc l :: k, defers := mark ++ defers, mode := .run, kind := kind, roundOf := ro } : Frame) = F at hv' hcst
  have hs : (do let d ← resolve F.eval { callee := .value f, args := #[.const (.func (.yield l) #[] #[])], argTypes := #[] } 0; invoke d.target d.args : Sem Next).run P w' = .ok (.enter g ((first ++ #[.func (.yield l) #[] #[]]) ++ captured)) w' := by
    have e1 : resolve F.eval { callee := .value f, args := #[.const (.func (.yield l) #[] #[])], argTypes := #[] } 0 = pure { target := .fn (.func g) captured, args := first ++ #[.func (.yield l) #[] #[]] } := by
      simp only [resolve, hv', Deferred.ofValue, List.map_toArray, List.map_cons, List.map_nil, hcst]
    rw [e1, pure_bind]
    exact hc
  subst hF
  exact step_lone_go (by simp only [stepG, stepG.exec, stepG.apply]; simp [hd, hs])
theorem step_collected {l : Nat} {az : Array Value} {ds calls : List Deferred} (hm : fr.mode = .returning) (hds : fr.defers = { target := .collected l, args := az } :: ds) (hd : (Instr.takeDeferred l).run P w = .ok calls w') :
    step P (lone fr cs w) = .next (lone { fr with defers := calls ++ ds } cs w') := by
  obtain ⟨fn, tmps, todo, defers, mode, kind, ro⟩ := fr; simp only at hm hds; subst hm hds; exact step_lone_go (by simp [stepG, unwind, hd])
theorem step_deferred {g : FuncId} {az cap : Array Value} {ds : List Deferred} (hb : bodied P g = true) (hm : fr.mode = .returning) (hds : fr.defers = { target := .fn (.func g) cap, args := az } :: ds) :
    step P (lone fr cs w) = .next (lone (Frame.enter P g (az ++ cap) .deferred) ({ fr with defers := ds } :: cs) w) := by
  obtain ⟨fn, tmps, todo, defers, mode, kind, ro⟩ := fr; simp only at hm hds; subst hm hds
  have hc := run_callFunc hb (az ++ cap) w
  exact step_lone_go (by simp [stepG, unwind, callDeferred, invoke, hc])
end
end Go.Ab
/- Loops over functions; one operation with what it calls. -/
namespace Go.Ab
set_option linter.unusedSimpArgs false
set_option linter.unusedVariables false
set_option linter.unusedSectionVars false
section
variable {P : Program} {w0 : W0} {E : Env} {h : AH} {w : World}
theorem sim_getLoop {l l' : Nat} (e : E l = some (l', none)) : Sim P w0 E LoopR (Instr.getLoop l) (Instr.getLoop l') :=
  sim_bind (sim_getObj e) fun E' le o o' hr => by
    obtain ⟨ro, _⟩ := hr
    cases ro with
    | loop r => exact sim_pure r
    | _ => exact sim_none fun _ => rfl
theorem sim_enterLoop (fn : FuncId) {ts ts' : Array Value} (rt : VRs E ts ts') (ps : Array Tmp) (a b : Code) {ro ro' : Option Nat} (rr : RoR E ro ro') :
    Sim P w0 E (fun E' x x' => E' x.1 = some (x'.1, none) ∧ DefsR E' x.2 x'.2) (Instr.enterLoop fn ts ps a b ro) (Instr.enterLoop fn ts' ps a b ro') := by
  have fin : ∀ (E' : Env), E.le E' → ∀ (d d' : Nat) (m m' : List Deferred), E' d = some (d', none) → DefsR E' m m' →
      Sim P w0 E' (fun E' x x' => E' x.1 = some (x'.1, none) ∧ DefsR E' x.2 x'.2) (do pure (← newObj (.loop { state := .ready, pending := none, fn, tmps := ts, params := ps, assign := a, body := b, defers := d }), m))
        (do pure (← newObj (.loop { state := .ready, pending := none, fn, tmps := ts', params := ps, assign := a, body := b, defers := d' }), m')) := fun E' le d d' m m' hd hm =>
    sim_bind (sim_newObj (.loop ⟨rfl, rfl, rfl, rt.mono le, rfl, rfl, rfl, hd⟩)) fun E2 le2 x x' hx => sim_pure ⟨hx, hm.mono le2⟩
  unfold Instr.enterLoop
  cases rr with
  | none => exact sim_bind (sim_newObj (.deferred .nil)) fun E1 le1 r r' hr => fin E1 le1 r r' [{ target := .collected r, args := #[] }] [{ target := .collected r', args := #[] }] hr (.cons ⟨.collected hr, VRs.empty _⟩ .nil)
  | some e => exact sim_bind (sim_getLoop e) fun E1 le1 r r' hr => fin E1 le1 r.defers r'.defers [] [] hr.defers .nil
theorem sim_beginRound {l l' : Nat} (e : E l = some (l', none)) : Sim P w0 E (fun _ _ _ => True) (Instr.beginRound l) (Instr.beginRound l') :=
  sim_bind (sim_getLoop e) fun E1 le1 r r' hr => sim_bind (sim_setObj (le1 _ _ e) (.loop ⟨rfl, hr.pending, hr.fn, hr.tmps, hr.params, hr.assign, hr.body, hr.defers⟩)) fun E2 le2 _ _ _ => by
    have hs := hr.state
    cases h : r.state with
    | ready => rw [h] at hs; rw [hs]; exact sim_pure trivial
    | _ => exact sim_panic _ _
theorem sim_endRound {l l' : Nat} (e : E l = some (l', none)) (jump : Option Code) : Sim P w0 E VR (Instr.endRound l jump) (Instr.endRound l' jump) :=
  sim_bind (sim_getLoop e) fun E1 le1 r r' hr => sim_bind (sim_setObj (le1 _ _ e) (.loop ⟨rfl, rfl, hr.fn, hr.tmps, hr.params, hr.assign, hr.body, hr.defers⟩)) fun E2 le2 _ _ _ => sim_pure (.bool _)
theorem sim_endLoop {l l' : Nat} (e : E l = some (l', none)) : Sim P w0 E (fun _ x x' => x' = x) (Instr.endLoop l) (Instr.endLoop l') :=
  sim_bind (sim_getLoop e) fun E1 le1 r r' hr => by
    have hs := hr.state
    rw [hs]
    by_cases hb : (r.state == .busy) = true
    · rw [if_pos hb, if_pos hb]
      exact sim_none fun x => by rw [arun_bind, fails_panic]; rfl
    · rw [if_neg hb, if_neg hb]
      exact sim_bind (sim_setObj (le1 _ _ e) (.loop ⟨rfl, hr.pending, hr.fn, hr.tmps, hr.params, hr.assign, hr.body, hr.defers⟩)) fun E2 le2 _ _ _ => sim_pure hr.pending
theorem sim_takeDeferred {l l' : Nat} (e : E l = some (l', none)) : Sim P w0 E DefsR (Instr.takeDeferred l) (Instr.takeDeferred l') :=
  sim_bind (sim_getObj e) fun E1 le1 o o' hr => by
    obtain ⟨ro, _⟩ := hr
    cases ro with
    | deferred r => exact sim_bind (sim_setObj (le1 _ _ e) .taken) fun E2 le2 _ _ _ => sim_pure (r.mono le2)
    | _ => exact sim_none fun _ => rfl
def RunOk (P : Program) (G : Nat) (rec : Run) : Prop :=
  ∀ (fr : Frame) (h : AH) (v : Value) (h' : AH), rec fr h = some (v, h') → ∀ (w0 : W0) (E : Env) (w : World) (fr' : Frame) (cs : List Frame), FR E fr fr' → Good fr' cs → GE G E → HR P w0 E h w →
    ∃ E' v' w', E.le E' ∧ VR E' v v' ∧ HR P w0 E' h' w' ∧ Ends P fr' cs w v' w'
def OrcOk (P : Program) (G : Nat) (orc : FuncId → Array Value → AH → Option (Option (Value × AH))) : Prop :=
  ∀ (f : FuncId) (xs : Array Value) (h : AH) (v : Value) (h' : AH), orc f xs h = some (some (v, h')) → ∀ (w0 : W0) (E : Env) (w : World) (xs' : Array Value) (cs : List Frame), VRs E xs xs' → GE G E → HR P w0 E h w →
    ∃ E' v' w', E.le E' ∧ VR E' v v' ∧ HR P w0 E' h' w' ∧ Ends P (Frame.enter P f xs' .normal) cs w v' w'
theorem aop_defer {o : Oper} {ρ : Operand → Value} {n : Next} {h' : AH} (e : aop P o ρ h = some (n, h')) (hn : ∀ d, n ≠ .defer d) : ∀ c, o.op ≠ .defer c := fun c hc => by
  simp only [aop, hc, Option.map_eq_some_iff] at e
  obtain ⟨d, _, he⟩ := e
  cases he
  exact hn d rfl
theorem opD_ok {G : Nat} {orc : FuncId → Array Value → AH → Option (Option (Value × AH))} {rec : Run} (hz : ZerosFlat P) (ho : OrcOk P G orc) (hr : RunOk P G rec) : DOk P G (opD P G orc rec) := by
  intro w0 E h w o ρ v h1 fr cs ops i rest k hm ht hop hw H hge hρ e
  unfold opD at e
  split at e
  case isFalse => cases e
  rename_i hok
  split at e
  · rename_i v1 h2 ha
    cases e
    obtain ⟨E', n', w', le, rn, hrun, H'⟩ := aop_ok hz H hρ ha
    cases rn with
    | value rv => exact ⟨E', _, w', le, rv, Steps.one' (step_val hm ht hop hw (.inr (aop_defer ha fun d hd => by cases hd)) hrun), H'⟩
  · rename_i h2 ha
    cases e
    obtain ⟨E', n', w', le, rn, hrun, H'⟩ := aop_ok hz H hρ ha
    cases rn with
    | skip => exact ⟨E', undef, w', le, VR.undef E', Steps.one' (step_nop hm ht hop hw (.inr (aop_defer ha fun d hd => by cases hd)) hrun), H'⟩
  · rename_i f xs h2 ha
    obtain ⟨E', n', w', le, rn, hrun, H'⟩ := aop_ok hz H hρ ha
    cases rn with
    | enter rx =>
      have st1 := Steps.one' (step_enter (cs := cs) hm ht hop hw (.inr (aop_defer ha fun d hd => by cases hd)) hrun)
      split at e
      · rename_i x hx
        subst e
        obtain ⟨E2, v2, w2, le2, rv, H2, en⟩ := ho f xs h2 v h1 hx w0 E' w' _ (fr :: cs) rx (hge.mono le) H'
        exact ⟨E2, v2, w2, Env.le_trans le le2, rv, Steps.trans st1 (en.back rfl), H2⟩
      · obtain ⟨E2, v2, w2, le2, rv, H2, en⟩ := hr _ h2 v h1 e w0 E' w' _ (fr :: cs) (FR.enter rx .normal) (.inl rfl) (hge.mono le) H'
        exact ⟨E2, v2, w2, Env.le_trans le le2, rv, Steps.trans st1 (en.back rfl), H2⟩
  · rename_i l f ts a b h2 ha
    obtain ⟨E', n', w', le, rn, hrun, H'⟩ := aop_ok hz H hρ ha
    cases rn with
    | round el rt =>
      have st1 := Steps.one' (step_round (cs := cs) hm ht hop hw (.inr (aop_defer ha fun d hd => by cases hd)) hrun)
      obtain ⟨E2, v2, w2, le2, rv, H2, en⟩ := hr _ h2 v h1 e w0 E' w' _ (fr :: cs) (FR.round el rt) (.inl rfl) (hge.mono le) H'
      exact ⟨E2, v2, w2, Env.le_trans le le2, rv, Steps.trans st1 (en.back rfl), H2⟩
  · cases e
end
end Go.Ab
/- The executor is sound. -/
namespace Go.Ab
set_option linter.unusedSimpArgs false
set_option linter.unusedVariables false
set_option linter.unusedSectionVars false
theorem VRs.getD {E : Env} {ts tm : Array Value} (r : VRs E ts tm) (d : Nat) : VR E (ts.getD d undef) (tm.getD d undef) := by
  rcases r.get? d with ⟨g1, g2⟩ | ⟨x, x', g1, g2, g3⟩
  · simp only [Array.getD_eq_getD_getElem?, g1, g2, Option.getD_none]; exact VR.undef E
  · simp only [Array.getD_eq_getD_getElem?, g1, g2, Option.getD_some]; exact g3
theorem VRs.putT {E : Env} {ts tm : Array Value} (r : VRs E ts tm) {v v' : Value} (rv : VR E v v') (d : Option Tmp) : VRs E (putT ts d v) (putT tm d v') := by
  cases d with
  | none => exact r
  | some d => exact r.set rv d
theorem operand_one {G : Nat} {E : Env} (hge : GE G E) {ts : Array Value} {fr : Frame} (rt : VRs E ts fr.tmps) {x : Operand} (hok : okOperand G x = true) : VR E (evalT ts x) (fr.eval x) := by
  cases x with
  | tmp t => exact rt.getD t
  | const v => exact flat_refl 4 hok
  | global g => exact .ptr (hge g (by simpa [okOperand, Nat.blt_eq] using hok))
  | func f => exact .func (.func f) rfl (fun i h => by simp at h) rfl (fun i h => by simp at h)
theorem opD_okOper {P : Program} {G : Nat} {orc : FuncId → Array Value → AH → Option (Option (Value × AH))} {rec : Run} {o : Oper} {ρ : Operand → Value} {h : AH} {x : Value × AH} (e : opD P G orc rec o ρ h = some x) : okOper G o = true := by
  unfold opD at e
  split at e
  · assumption
  · cases e
theorem GoodK {fr fr2 : Frame} {cs : List Frame} (hk : fr2.kind = fr.kind) (h : Good fr cs) : Good fr2 cs := by
  unfold Good at h ⊢
  rw [hk]; exact h
def Out (P : Program) (G : Nat) (w0 : W0) (E : Env) (fr' : Frame) (cs : List Frame) (w : World) (v : Value) (h' : AH) : Prop :=
  ∃ E' v' w', E.le E' ∧ VR E' v v' ∧ HR P w0 E' h' w' ∧ Ends P fr' cs w v' w'
section
variable {P : Program} {G : Nat} {orc : FuncId → Array Value → AH → Option (Option (Value × AH))} {rec : Run} {w0 : W0} {E : Env} {fr fr' : Frame} {cs : List Frame} {w : World} {h h' : AH} {v : Value}
theorem cont (hr : RunOk P G rec) {fr2 fr2' : Frame} {h2 : AH} (e : rec fr2 h2 = some (v, h')) {E2 : Env} {w2 : World} (le : E.le E2) (Gd : Good fr' cs) (hge : GE G E) (H2 : HR P w0 E2 h2 w2) (st : Steps P (lone fr' cs w) (lone fr2' cs w2))
    (F2 : FR E2 fr2 fr2') (hfn : fr2'.fn = fr'.fn) (hk : fr2'.kind = fr'.kind) (hro : fr2'.roundOf = fr'.roundOf) : Out P G w0 E fr' cs w v h' := by
  obtain ⟨E', v', w', le', rv, H', en⟩ := hr fr2 h2 v h' e w0 E2 w2 fr2' cs F2 (GoodK hk Gd) (hge.mono le) H2
  exact ⟨E', v', w', Env.le_trans le le', rv, H', en.of_steps st hfn hk hro⟩
theorem aleave_ok (hr : RunOk P G rec) (F : FR E fr fr') (hm : fr'.mode = .run) (Gd : Good fr' cs) (hge : GE G E) (H : HR P w0 E h w) {jump : Option Code} (hl : leaves fr' jump) (e : aleave P rec fr jump h = some (v, h')) : Out P G w0 E fr' cs w v h' := by
  unfold aleave at e
  have hro := F.ro
  split at e
  · rename_i hn
    rw [hn] at hro
    generalize hx : fr'.roundOf = x at hro
    cases hro
    have F2 : FR E { fr with mode := .returning } { fr' with mode := .returning } := ⟨F.fn, F.tmps, F.todo, F.defers, rfl, F.kind, F.ro⟩
    split at e
    · exact cont hr e E.le_refl Gd hge H (Steps.one' (step_leaveE hm hl hx)) F2 rfl rfl rfl
    · obtain ⟨k, hl⟩ := hl
      exact cont hr e E.le_refl Gd hge H (Steps.one' (step_leaveR hm hl hx)) F2 rfl rfl rfl
    · cases e
  · rename_i l hn
    rw [hn] at hro
    generalize hx : fr'.roundOf = x at hro
    cases hro with
    | @some _ l' el =>
      obtain ⟨E', v', w', le, rv, hrun, H'⟩ := sim_endRound (P := P) (w0 := w0) el jump h v h' e w H
      refine ⟨E', v', w', le, rv, H', ?_⟩
      unfold Ends
      rw [hx]
      intro c cs' hc hk
      subst hc
      exact Steps.one' (step_leaveRound hm hl hx hk hrun)
def quietS {α : Type} : Sem α → Prop
  | .pure _ => True
  | .load _ _ k => ∀ v, quietS (k v)
  | .program k => ∀ p, quietS (k p)
  | .mark _ k => quietS k
  | .halt _ => True
  | _ => False
theorem quiet_run {P : Program} {α : Type} : ∀ {s : Sem α}, quietS s → ∀ {w w' : World} {b : α}, s.run P w = .ok b w' → w' = w := by
  intro s
  induction s with
  | pure a => intro _ w w' b e; simp only [Sem.run, Result.ok.injEq] at e; exact e.2.symm
  | load m a k ih =>
    intro q w w' b e
    simp only [Sem.run] at e
    split at e
    · exact ih _ (q _) e
    · split at e
      · exact ih _ (q _) e
      · cases e
  | program k ih => intro q w w' b e; exact ih P (q P) e
  | mark m k ih => intro q w w' b e; exact ih q e
  | halt h => intro q w w' b e; cases e
  | _ => intro q; exact q.elim
theorem quiet_bind' {α β : Type} {f : α → Sem β} (hf : ∀ a, quietS (f a)) : ∀ (s : Sem α), quietS s → quietS (s.bind f) := by
  intro s
  induction s with
  | pure a => intro _; exact hf a
  | load m a k ih => intro q v; exact ih v (q v)
  | program k ih => intro q p; exact ih p (q p)
  | mark m k ih => intro q; exact ih q
  | halt h => intro q; trivial
  | _ => intro q; exact q.elim
theorem quiet_bind {α β : Type} {s : Sem α} {f : α → Sem β} (hs : quietS s) (hf : ∀ a, quietS (f a)) : quietS (s >>= f) := quiet_bind' hf s hs
theorem quiet_typeInfo (t : TypeId) : quietS (typeInfo t) := fun p => by
  show quietS (match p.info? t with | some i => _ | none => _)
  split <;> trivial
theorem quiet_underlying (t : TypeId) : quietS (underlying t) := fun p => by
  show quietS (match p.underlying t with | some i => _ | none => _)
  split <;> trivial
theorem quiet_loadCellsFrom (a : Addr) : ∀ (n i : Nat) (acc : Array Value), quietS (loadCellsFrom a i n acc)
  | 0, i, acc => trivial
  | n + 1, i, acc => quiet_bind (fun v => trivial) fun v => quiet_loadCellsFrom a n (i + 1) _
theorem quiet_loadVar (t : TypeId) (a : Addr) : quietS (loadVar t a) := by
  refine quiet_bind (quiet_bind (quiet_underlying t) fun d => ?_) fun b => ?_
  · cases d <;> trivial
  · cases b with
    | true => exact quiet_bind (quiet_bind (quiet_typeInfo t) fun _ => trivial) fun n => quiet_bind (quiet_loadCellsFrom a n 0 _) fun _ => trivial
    | false => exact fun v => trivial
theorem quiet_list {α β : Type} {f : α → Sem β} (hf : ∀ a, quietS (f a)) : ∀ l : List α, quietS (l.mapM f)
  | [] => by rw [List.mapM_nil]; trivial
  | a :: l => by
    rw [List.mapM_cons]
    exact quiet_bind (hf a) fun b => quiet_bind (quiet_list hf l) fun _ => trivial
def resultOf (ts : Array Value) : ResultVar → Sem Value
  | .tmp t => pure (ts.getD t undef)
  | .cell a t => do loadVar t (← asAddr (ts.getD a undef))
theorem results_eq (fn : Func) (ts : Array Value) : results fn ts = (fn.results.toList.mapM (resultOf ts) >>= fun vs => pure (if h : vs.toArray.size = 1 then vs.toArray[0] else .tuple vs.toArray)) := by
  have : results fn ts = (fn.results.mapM (resultOf ts) >>= fun vs => pure (if h : vs.size = 1 then vs[0] else .tuple vs)) := by
    unfold results
    congr 1
  rw [this, Array.mapM_eq_mapM_toList, map_eq_pure_bind, bind_assoc]
  congr 1
theorem quiet_results {P : Program} (fn : Func) (ts : Array Value) {w w' : World} {v : Value} (e : (results fn ts).run P w = .ok v w') : w' = w := by
  rw [results_eq] at e
  refine quiet_run ?_ e
  refine quiet_bind (quiet_list (fun r => ?_) _) (fun _ => trivial)
  cases r with
  | tmp t => trivial
  | cell a t =>
    refine quiet_bind ?_ fun a => quiet_loadVar t a
    unfold asAddr
    split
    · trivial
    · intro p; trivial
    · trivial
theorem sim_list {α : Type} {f g : α → Sem Value} : ∀ (l : List α) (E : Env), (∀ E', E.le E' → ∀ a, Sim P w0 E' VR (f a) (g a)) → Sim P w0 E VL (l.mapM f) (l.mapM g)
  | [], E, _ => by rw [List.mapM_nil, List.mapM_nil]; exact sim_pure .nil
  | a :: l, E, hf => by
    rw [List.mapM_cons, List.mapM_cons]
    exact sim_bind (hf E E.le_refl a) fun E1 le1 v v' rv => sim_bind (sim_list l E1 fun E2 le2 a => hf E2 (Env.le_trans le1 le2) a) fun E2 le2 vs vs' rvs => sim_pure (.cons (rv.mono le2) rvs)
theorem sim_results (fn : Func) {ts ts' : Array Value} (rt : VRs E ts ts') : Sim P w0 E VR (results fn ts) (results fn ts') := by
  rw [results_eq, results_eq]
  refine sim_bind (sim_list _ E fun E' le r => ?_) fun E' le vs vs' rv => ?_
  · cases r with
    | tmp t => exact sim_pure ((rt.mono le).getD t)
    | cell a t => exact sim_bind (sim_asAddr ((rt.mono le).getD a)) fun E2 le2 a a' ra => sim_loadVar t ra
  · have hs : VRs E' vs.toArray vs'.toArray := ⟨by simpa using rv.length.symm, fun i hi => by
      have := rv.get i (by simpa using hi) (by have := rv.length; simp at hi ⊢; omega)
      simpa using this⟩
    have h1 := hs.1
    by_cases h : vs.toArray.size = 1
    · have h' : vs'.toArray.size = 1 := by rw [← h1]; exact h
      rw [dif_pos h, dif_pos h']
      exact sim_pure (hs.2 0 (by omega))
    · have h' : ¬ vs'.toArray.size = 1 := by rw [← h1]; exact h
      rw [dif_neg h, dif_neg h']
      exact sim_pure (VR.tuple' hs)
theorem aback_ok (hr : RunOk P G rec) (F : FR E fr fr') (hm : fr.mode = .returning) (Gd : Good fr' cs) (hge : GE G E) (H : HR P w0 E h w) (hrd : fr.roundOf = none) (e : aback P rec fr h = some (v, h')) : Out P G w0 E fr' cs w v h' := by
  have hm' : fr'.mode = .returning := by rw [F.mode, hm]
  have Fd := F.defers
  unfold aback at e
  split at e
  · rename_i hd
    rw [hd] at Fd
    generalize hx : fr'.defers = x at Fd
    cases Fd
    split at e
    · rename_i fn hfn
      split at e
      · rename_i v1 hv
        cases e
        unfold aresults at hv
        obtain ⟨E', v', w', le, rv, hrun, H'⟩ := sim_results (P := P) (w0 := w0) fn F.tmps h v h (rrun_arun hv) w H
        have := quiet_results fn fr'.tmps hrun
        subst this
        refine ⟨E', v', w', le, rv, H', ?_⟩
        unfold Ends
        have hro := F.ro
        rw [hrd] at hro
        generalize hy : fr'.roundOf = y at hro
        cases hro
        exact ⟨fr', Steps.refl _ _, rfl, hm', hx, rfl, fn, by rw [F.fn]; exact hfn, hrun⟩
      · cases e
    · cases e
  · rename_i d ds hd
    rw [hd] at Fd
    generalize hx : fr'.defers = x at Fd
    cases Fd with
    | @cons _ d' _ ds' rd rds =>
      split at e
      · rename_i b ht
        obtain ⟨tg, args⟩ := d
        obtain ⟨tg', args'⟩ := d'
        simp only at ht
        subst ht
        obtain ⟨rt, ra⟩ := rd
        simp only at rt
        cases rt with
        | @collected _ b' eb =>
          split at e
          · rename_i calls h2 hc
            obtain ⟨E2, calls', w2, le, rc, hrun, H2⟩ := sim_takeDeferred (P := P) (w0 := w0) eb h calls h2 hc w H
            exact cont hr e le Gd hge H2 (Steps.one' (step_collected hm' hx hrun)) ⟨F.fn, F.tmps.mono le, F.todo.mono le, DefsR.append rc (rds.mono le), F.mode, F.kind, F.ro.mono le⟩ rfl rfl rfl
          · cases e
      · rename_i g captured ht
        obtain ⟨tg, args⟩ := d
        obtain ⟨tg', args'⟩ := d'
        simp only at ht
        subst ht
        obtain ⟨rt, ra⟩ := rd
        simp only at rt ra
        split at e
        · rename_i hb
          cases rt with
          | @fn _ f' _ cap' rf rcap =>
            cases rf
            split at e
            · rename_i v1 h2 hc
              obtain ⟨E2, v2, w2, le, rv, H2, en⟩ := hr _ h v1 h2 hc w0 E w (Frame.enter P g (args' ++ cap') .deferred) ({ fr' with defers := ds' } :: cs) (FR.enter (ra.append rcap) .deferred) (.inr ⟨rfl, _, _, rfl, hm'⟩) hge H
              exact cont hr e le Gd hge H2 (Steps.trans (Steps.one' (step_deferred hb hm' hx)) (en.backD rfl rfl hm')) ⟨F.fn, F.tmps.mono le, F.todo.mono le, rds.mono le, F.mode, F.kind, F.ro.mono le⟩ rfl rfl rfl
            · cases e
        · cases e
      · cases e
end
end Go.Ab
/- The executor is sound: every step. -/
namespace Go.Ab
set_option linter.unusedSimpArgs false
set_option linter.unusedVariables false
set_option linter.unusedSectionVars false
section
variable {P : Program} {G : Nat} {orc : FuncId → Array Value → AH → Option (Option (Value × AH))} {rec : Run} {w0 : W0} {E : Env} {fr fr' : Frame} {cs : List Frame} {w : World} {h h' : AH} {v : Value}
theorem FR.go (F : FR E fr fr') {E' : Env} (le : E.le E') {k k' : List Item} (rk : ItemsR E' k k') {ts ts' : Array Value} (rt : VRs E' ts ts') : FR E' { fr with todo := k, tmps := ts } { fr' with todo := k', tmps := ts' } :=
  ⟨F.fn, rt, rk, F.defers.mono le, F.mode, F.kind, F.ro.mono le⟩
theorem FR.jump (F : FR E fr fr') {k k' : List Item} (rk : ItemsR E k k') : FR E { fr with todo := k } { fr' with todo := k' } :=
  ⟨F.fn, F.tmps, rk, F.defers, F.mode, F.kind, F.ro⟩
theorem look_all {ts tm : Array Value} (rt : VRs E ts tm) (ops : Array Oper) (o : Oper) : ∀ t ∈ o.looksAt ops, VR E (ts.getD t undef) (tm.getD t undef) := fun t _ => rt.getD t
theorem hops {G : Nat} {fr : Frame} (hge : GE G E) {ts : Array Value} (rt : VRs E ts fr.tmps) {o : Oper} (hok : okOper G o = true) : ∀ x ∈ o.op.operands, VR E (evalT ts x) (fr.eval x) := operand_rel hge hok fun t _ => rt.getD t
def aoper (P : Program) (G : Nat) (orc : FuncId → Array Value → AH → Option (Option (Value × AH))) (rec : Run) (fr : Frame) (ops : Array Oper) (l : List Nat) (k : List Item) (o : Oper) (h : AH) : Option (Value × AH) :=
  match o.op with
  | .defer _ => match fr.roundOf, okOper G o, aop P o (evalT fr.tmps) h with
    | none, true, some (.defer d, h') => rec { fr with todo := .inRegion ops l :: k, tmps := putT fr.tmps o.dst undef, defers := d :: fr.defers } h'
    | _, _, _ => none
  | .call c => match c.callee with
    | .builtin .recover => match fr.roundOf with
      | none => rec { fr with todo := .inRegion ops l :: k, tmps := putT fr.tmps o.dst .nilIface } h
      | some _ => none
    | _ => match opD P G orc rec o (evalT fr.tmps) h with
      | some (v, h') => rec { fr with todo := .inRegion ops l :: k, tmps := putT fr.tmps o.dst v } h'
      | none => none
  | _ => match opD P G orc rec o (evalT fr.tmps) h with
    | some (v, h') => rec { fr with todo := .inRegion ops l :: k, tmps := putT fr.tmps o.dst v } h'
    | none => none
theorem aoper_ok (hz : ZerosFlat P) (ho : OrcOk P G orc) (hr : RunOk P G rec) (F : FR E fr fr') (hm : fr'.mode = .run) (Gd : Good fr' cs) (hge : GE G E) (H : HR P w0 E h w) {ops : Array Oper} {i : Nat} {l : List Nat} {k k' : List Item} {o : Oper}
    (hop : ops[i]? = some o) (hw : Region.wanted o (yielded ops fr.tmps) = true) (hx : fr'.todo = .inRegion ops (i :: l) :: k') (rk : ItemsR E k k') (e : aoper P G orc rec fr ops l k o h = some (v, h')) : Out P G w0 E fr' cs w v h' := by
  have hw' : Region.wanted o (yielded ops fr'.tmps) = true := by rw [wanted_rel F.tmps.size (look_all F.tmps ops o)]; exact hw
  have plain : ∀ {x : Value × AH}, opD P G orc rec o (evalT fr.tmps) h = some x → rec { fr with todo := .inRegion ops l :: k, tmps := putT fr.tmps o.dst x.1 } x.2 = some (v, h') → Out P G w0 E fr' cs w v h' := fun {x} hd e => by
    obtain ⟨E2, v2, w2, le, rv, st, H2⟩ := opD_ok hz ho hr w0 E h w o (evalT fr.tmps) x.1 x.2 fr' cs ops i l k' hm hx hop hw' H hge (hops hge F.tmps (opD_okOper hd)) hd
    rw [finish_put hx hop] at st
    exact cont hr e le Gd hge H2 st (F.go le (.cons (.inRegion _ _) (rk.mono le)) ((F.tmps.mono le).putT rv o.dst)) rfl rfl rfl
  have none' : ∀ {fr2 : Frame}, fr2.roundOf = none → FR E fr2 fr' → fr'.roundOf = none := fun {fr2} hn F2 => by
    have hro := F2.ro
    rw [hn] at hro
    generalize hy : fr'.roundOf = y at hro
    cases hro
    rfl
  unfold aoper at e
  split at e
  · rename_i c hc
    split at e
    · rename_i d h2 hn hok ha
      obtain ⟨E2, n2, w2, le, rn, hrun, H2⟩ := aop_ok hz H (hops hge F.tmps hok) ha
      cases rn with
      | @defer _ d' rd =>
        have st := step_defer (cs := cs) hm hx hop hw' (.inl (none' hn F)) hrun
        rw [finish_put (fr := { fr' with defers := d' :: fr'.defers }) hx hop] at st
        exact cont hr e le Gd hge H2 (Steps.one' st) ⟨F.fn, (F.tmps.mono le).putT (VR.undef E2) o.dst, .cons (.inRegion _ _) (rk.mono le), .cons rd (F.defers.mono le), F.mode, F.kind, F.ro.mono le⟩ rfl rfl rfl
    · cases e
  · rename_i c hc
    split at e
    · rename_i hcal
      split at e
      · rename_i hn
        have hrun : (execOp fr'.eval o).run P w = .ok .recover w := by simp [execOp, hc, resolve, hcal, invoke, builtin]
        have st := step_recover (cs := cs) hm hx hop hw' (none' hn F) Gd hrun
        rw [finish_put hx hop] at st
        exact cont hr e E.le_refl Gd hge H (Steps.one' st) (F.go E.le_refl (.cons (.inRegion _ _) rk) (F.tmps.putT .nilIface o.dst)) rfl rfl rfl
      · cases e
    · split at e
      · rename_i v2 h2 hd
        exact plain hd e
      · cases e
  · split at e
    · rename_i v2 h2 hd
      exact plain hd e
    · cases e
theorem astep_ok (hz : ZerosFlat P) (hmix : P.follows .mixedOrders = true) (ho : OrcOk P G orc) (hr : RunOk P G rec) : RunOk P G (astep P G orc rec) := by
  intro fr h v h' e w0 E w fr' cs F Gd hge H
  obtain ⟨fn, tmps, todo, defers, mode, kind, ro⟩ := fr
  cases mode with
  | panicking x => simp only [astep] at e; cases e
  | returning =>
    simp only [astep] at e
    split at e
    · rename_i hn
      exact aback_ok hr F rfl Gd hge H (Option.isNone_iff_eq_none.1 hn) e
    · cases e
  | run =>
    have hm' : fr'.mode = .run := F.mode
    have Ft := F.todo
    cases todo with
    | nil =>
      generalize hx : fr'.todo = x at Ft
      cases Ft
      simp only [astep] at e
      exact aleave_ok hr F hm' Gd hge H (jump := none) hx e
    | cons a k =>
      generalize hx : fr'.todo = x at Ft
      cases Ft with
      | @cons _ a' _ k' ra rk =>
        cases ra with
        | code c =>
          cases c with
          | skip => simp only [astep] at e; exact cont hr e E.le_refl Gd hge H (Steps.one' (step_skipC hm' hx)) (F.jump rk) rfl rfl rfl
          | label l => simp only [astep] at e; exact cont hr e E.le_refl Gd hge H (Steps.one' (step_label hm' hx)) (F.jump rk) rfl rfl rfl
          | seq a b => simp only [astep] at e; exact cont hr e E.le_refl Gd hge H (Steps.one' (step_seq hm' hx)) (F.jump (.cons (.code _) (.cons (.code _) rk))) rfl rfl rfl
          | cond c a b =>
            simp only [astep] at e
            split at e
            · rename_i t hok hv
              have rc := operand_one hge F.tmps hok
              rw [hv] at rc
              have hc : fr'.eval c = .bool t := flat_eq 4 rfl rc
              exact cont hr e E.le_refl Gd hge H (Steps.one' (step_cond hm' hx hc)) (F.jump (.cons (.code _) rk)) rfl rfl rfl
            · cases e
          | block i a => simp only [astep] at e; exact cont hr e E.le_refl Gd hge H (Steps.one' (step_block hm' hx)) (F.jump (.cons (.code _) (.cons (.inBlock _) rk))) rfl rfl rfl
          | loop a => simp only [astep] at e; exact cont hr e E.le_refl Gd hge H (Steps.one' (step_loop hm' hx)) (F.jump (.cons (.code _) (.cons (.inLoop _) rk))) rfl rfl rfl
          | scope a => simp only [astep] at e; exact cont hr e E.le_refl Gd hge H (Steps.one' (step_scope hm' hx)) (F.jump (.cons (.code _) (.cons (.inScope _) rk))) rfl rfl rfl
          | exit i =>
            simp only [astep] at e
            rcases exitTo_rel i rk with ⟨h1, h2⟩ | ⟨m, m', h1, h2, rm⟩
            · rw [h1] at e
              exact aleave_ok hr F hm' Gd hge H (jump := some (.exit i)) ⟨k', hx, h2⟩ e
            · rw [h1] at e
              exact cont hr e E.le_refl Gd hge H (Steps.one' (step_exit hm' hx h2)) (F.jump rm) rfl rfl rfl
          | goto i =>
            simp only [astep] at e
            rcases gotoIn_rel i rk with ⟨h1, h2⟩ | ⟨m, m', h1, h2, rm⟩
            · rw [h1] at e
              exact aleave_ok hr F hm' Gd hge H (jump := some (.goto i)) ⟨k', hx, h2⟩ e
            · rw [h1] at e
              exact cont hr e E.le_refl Gd hge H (Steps.one' (step_goto hm' hx h2)) (F.jump rm) rfl rfl rfl
          | ret => simp only [astep] at e; exact aleave_ok hr F hm' Gd hge H (jump := some .ret) ⟨k', hx⟩ e
          | refuse s => simp only [astep] at e; cases e
          | region id ops draw =>
            simp only [astep] at e
            cases draw with
            | false =>
              simp only [Bool.false_eq_true, if_false] at e
              exact cont hr e E.le_refl Gd hge H (Steps.one' (step_regionO hm' hx)) (F.jump (.cons (.inRegion _ _) rk)) rfl rfl rfl
            | true =>
              simp only [if_true] at e
              split at e
              · rename_i te h2 hreg
                obtain ⟨E2, tm2, w2, le, rt, H2, st, ge2⟩ := aregion_ok hz hmix (opD_ok hz ho hr) H hge F.tmps hreg (cs := cs) hm' rfl hx
                exact cont hr e le Gd hge H2 st (F.go le (rk.mono le) rt) rfl rfl rfl
              · cases e
          | rangeFunc f ps a b =>
            simp only [astep] at e
            split at e
            · rename_i l mark h2 hok hen
              split at e
              · rename_i g first captured hv
                split at e
                · rename_i hb
                  split at e
                  · rename_i v1 h3 hc
                    obtain ⟨E2, x2, w2, le, rx, hrun, H2⟩ := sim_enterLoop (P := P) (w0 := w0) fn F.tmps ps a b F.ro h (l, mark) h2 hen w H
                    obtain ⟨l', mark'⟩ := x2
                    simp only at rx
                    obtain ⟨el, rmark⟩ := rx
                    have rf := operand_one hge F.tmps hok
                    rw [hv] at rf
                    generalize hv' : fr'.eval f = y at rf
                    cases rf with
                    | @func _ fn' _ first' _ captured' hfn h1 g1 h2 g2 =>
                      cases hfn
                      rw [show fn = fr'.fn from F.fn.symm] at hrun
                      have st := step_rangeFunc (cs := cs) hm' hx hb hrun hv'
                      have rfirst : VRs E first first' := ⟨h1, g1⟩
                      have rcap : VRs E captured captured' := ⟨h2, g2⟩
                      have ry : VRs E2 #[.func (.yield l) #[] #[]] #[.func (.yield l') #[] #[]] := VR.one (.func (.yield el) rfl (fun i h => by simp at h) rfl (fun i h => by simp at h))
                      obtain ⟨E3, v3, w3, le3, rv3, H3, en⟩ := hr _ _ v1 h3 hc w0 E2 w2 _ ({ fr' with todo := .inRangeFunc l' :: k', defers := mark' ++ fr'.defers } :: cs) (FR.enter (((rfirst.mono le).append ry).append (rcap.mono le)) .normal) (.inl rfl) (hge.mono le) H2
                      have le' := Env.le_trans le le3
                      refine cont hr e le' Gd hge H3 (Steps.trans (Steps.one' st) (en.back rfl)) ⟨F.fn, F.tmps.mono le', .cons (.endRangeFunc (le3 _ _ el)) (rk.mono le'), DefsR.append (rmark.mono le3) (F.defers.mono le'), F.mode, F.kind, F.ro.mono le'⟩ rfl rfl rfl
                  · cases e
                · cases e
              · cases e
            · cases e
        | inBlock i => simp only [astep] at e; exact cont hr e E.le_refl Gd hge H (Steps.one' (step_inBlock hm' hx)) (F.jump rk) rfl rfl rfl
        | inLoop b => simp only [astep] at e; exact cont hr e E.le_refl Gd hge H (Steps.one' (step_inLoop hm' hx)) (F.jump (.cons (.code _) (.cons (.inLoop _) rk))) rfl rfl rfl
        | inScope b => simp only [astep] at e; exact cont hr e E.le_refl Gd hge H (Steps.one' (step_inScope hm' hx)) (F.jump rk) rfl rfl rfl
        | endRangeFunc el =>
          simp only [astep] at e
          split at e
          · rename_i jump h2 hj
            obtain ⟨E2, j2, w2, le, rj, hrun, H2⟩ := sim_endLoop (P := P) (w0 := w0) el h jump h2 hj w H
            subst rj
            refine cont hr e le Gd hge H2 (Steps.one' (step_endRange hm' hx hrun)) ⟨F.fn, F.tmps.mono le, ?_, F.defers.mono le, F.mode, F.kind, F.ro.mono le⟩ rfl rfl rfl
            cases j2 with
            | none => exact rk.mono le
            | some c => exact .cons (.code c) (rk.mono le)
          · cases e
        | beginRound =>
          simp only [astep] at e
          cases ro with
          | none => cases e
          | some l =>
            simp only at e
            split at e
            · rename_i u h2 hb
              have hro := F.ro
              generalize hy : fr'.roundOf = y at hro
              cases hro with
              | @some _ l' el =>
                obtain ⟨E2, u2, w2, le, _, hrun, H2⟩ := sim_beginRound (P := P) (w0 := w0) el h u h2 hb w H
                exact cont hr e le Gd hge H2 (Steps.one' (step_beginRound hm' hx hy hrun)) ⟨F.fn, F.tmps.mono le, rk.mono le, F.defers.mono le, F.mode, F.kind, F.ro.mono le⟩ rfl rfl rfl
            · cases e
        | inRegion ops l =>
          cases l with
          | nil => simp only [astep] at e; exact cont hr e E.le_refl Gd hge H (Steps.one' (step_regionE hm' hx)) (F.jump rk) rfl rfl rfl
          | cons i l =>
            simp only [astep] at e
            cases hop : ops[i]? with
            | none => rw [hop] at e; cases e
            | some o =>
              rw [hop] at e
              simp only at e
              split at e
              · rename_i hw
                exact aoper_ok hz ho hr F hm' Gd hge H hop hw hx rk e
              · rename_i hw
                have st := step_skip (P := P) (cs := cs) (w := w) hm' hx (by
                  rw [hop]
                  simp only [Option.map_some, Option.getD_some]
                  rw [wanted_rel F.tmps.size (look_all F.tmps ops o)]
                  simpa using hw)
                rw [finish_put hx hop] at st
                exact cont hr e E.le_refl Gd hge H (Steps.one' st) (F.go E.le_refl (.cons (.inRegion _ _) rk) (F.tmps.putT (VR.undef E) o.dst)) rfl rfl rfl
theorem afr_ok (hz : ZerosFlat P) (hmix : P.follows .mixedOrders = true) (ho : OrcOk P G orc) : ∀ n, RunOk P G (afr P G orc n)
  | 0 => fun fr h v h' e => by cases e
  | n + 1 => astep_ok hz hmix ho (afr_ok hz hmix ho n)
end
end Go.Ab
/- From a run of the executor to a contract. -/
namespace Go.Ab
set_option linter.unusedSimpArgs false
set_option linter.unusedVariables false
set_option linter.unusedSectionVars false
theorem Old.grew {w0 w : World} (o : Old w0 w) : Grew w0 w := Grew.of_parts o.os o.tape o.output o.size o.blk
section
variable {P : Program} {orc : FuncId → Array Value → AH → Option (Option (Value × AH))}
def h00 : AH := ⟨.leaf, 0, 0⟩
theorem HR.empty (P : Program) (w : World) : HR P ⟨w, fun _ => False⟩ (fun _ => none) h00 w :=
  ⟨fun i x e => (by cases e), fun i b op e => (by cases e), fun i o fl e => (by cases e), fun i j b p q x y e => (by cases e), ⟨rfl, rfl, rfl, Nat.le_refl _, fun k _ => rfl⟩, fun i b op _ e => (by cases e), by decide, fun {i x} e => (by cases e), fun i h => h.elim⟩
theorem root (hz : ZerosFlat P) (hmix : P.follows .mixedOrders = true) (ho : OrcOk P 0 orc) {f n : Nat} {v : Value} {h' : AH} (e : afr P 0 orc n (Frame.enter P f #[] .normal) h00 = some (v, h')) (hf : isFlat 4 v = true) (w : World) :
    Calls P f #[] w fun e w' => e = .returned v ∧ Grew w w' := by
  intro cs
  obtain ⟨E', v', w', le, rv, H, en⟩ := afr_ok hz hmix ho n _ _ _ _ e ⟨w, fun _ => False⟩ (fun _ => none) w (Frame.enter P f #[] .normal) cs (FR.enter (VRs.empty _) .normal) (.inl rfl) (fun g hg => absurd hg (Nat.not_lt_zero g)) (HR.empty P w)
  have hv := flat_eq 4 hf rv
  subst hv
  obtain ⟨fr2, h1, h2, h3, h4, h5, h6⟩ := en
  exact ⟨.returned _, w', fr2, ⟨rfl, H.old.grew⟩, h1, h2, h3, h4, h5, h6⟩
end
end Go.Ab
/- The executor in a form that the kernel evaluates quickly: the code is compiled to closures (each kept in a structure, so that its weak normal form is found once), temporaries lie in a tree. -/
namespace Go.Ab
set_option linter.unusedVariables false
def noOrc : FuncId → Array Value → AH → Option (Option (Value × AH)) := fun _ _ _ => none
structure Clo (α : Type) where
  run : α
noncomputable def ob {α β : Type} (o : Option α) (f : α → Option β) : Option β := @Option.rec α (fun _ => Option β) none f o
noncomputable def ci {α : Type} (b : Bool) (x y : α) : α := @Bool.rec (fun _ => α) y x b
inductive TT where
  | leaf
  | node (l : TT) (v : Value) (r : TT)
noncomputable def tget : Nat → Nat → Clo (TT → Value) :=
  @Nat.rec (fun _ => Nat → Clo (TT → Value)) (fun _ => ⟨fun _ => undef⟩)
    (fun _ ih n => ci (Nat.beq n 0) ⟨@TT.rec (fun _ => Value) undef (fun _ v _ _ _ => v)⟩
      (ci (Nat.beq (Nat.mod n 2) 1) ⟨@TT.rec (fun _ => Value) undef (fun l _ _ _ _ => (ih (Nat.div n 2)).run l)⟩
        ⟨@TT.rec (fun _ => Value) undef (fun _ _ r _ _ => (ih (Nat.sub (Nat.div n 2) 1)).run r)⟩))
noncomputable def tset : Nat → Nat → Clo (TT → Value → TT) :=
  @Nat.rec (fun _ => Nat → Clo (TT → Value → TT)) (fun _ => ⟨fun t _ => t⟩)
    (fun _ ih n => ci (Nat.beq n 0) ⟨@TT.rec (fun _ => Value → TT) (fun x => .node .leaf x .leaf) (fun l _ r _ _ x => .node l x r)⟩
      (ci (Nat.beq (Nat.mod n 2) 1) ⟨@TT.rec (fun _ => Value → TT) (fun x => .node ((ih (Nat.div n 2)).run .leaf x) undef .leaf) (fun l v r _ _ x => .node ((ih (Nat.div n 2)).run l x) v r)⟩
        ⟨@TT.rec (fun _ => Value → TT) (fun x => .node .leaf undef ((ih (Nat.sub (Nat.div n 2) 1)).run .leaf x)) (fun l v r _ _ x => .node l v ((ih (Nat.sub (Nat.div n 2) 1)).run r x))⟩))
noncomputable def mget : Nat → Nat → Clo (Tr → Option (Obj × Bool)) :=
  @Nat.rec (fun _ => Nat → Clo (Tr → Option (Obj × Bool))) (fun _ => ⟨fun _ => none⟩)
    (fun _ ih n => ci (Nat.beq n 0) ⟨@Tr.rec (fun _ => Option (Obj × Bool)) none (fun _ o _ _ _ => o)⟩
      (ci (Nat.beq (Nat.mod n 2) 1) ⟨@Tr.rec (fun _ => Option (Obj × Bool)) none (fun l _ _ _ _ => (ih (Nat.div n 2)).run l)⟩
        ⟨@Tr.rec (fun _ => Option (Obj × Bool)) none (fun _ _ r _ _ => (ih (Nat.sub (Nat.div n 2) 1)).run r)⟩))
noncomputable def mset : Nat → Nat → Clo (Tr → Option (Obj × Bool) → Tr) :=
  @Nat.rec (fun _ => Nat → Clo (Tr → Option (Obj × Bool) → Tr)) (fun _ => ⟨fun t _ => t⟩)
    (fun _ ih n => ci (Nat.beq n 0) ⟨@Tr.rec (fun _ => Option (Obj × Bool) → Tr) (fun x => .node .leaf x .leaf) (fun l _ r _ _ x => .node l x r)⟩
      (ci (Nat.beq (Nat.mod n 2) 1) ⟨@Tr.rec (fun _ => Option (Obj × Bool) → Tr) (fun x => .node ((ih (Nat.div n 2)).run .leaf x) none .leaf) (fun l v r _ _ x => .node ((ih (Nat.div n 2)).run l x) v r)⟩
        ⟨@Tr.rec (fun _ => Option (Obj × Bool) → Tr) (fun x => .node .leaf none ((ih (Nat.sub (Nat.div n 2) 1)).run .leaf x)) (fun l v r _ _ x => .node l v ((ih (Nat.sub (Nat.div n 2) 1)).run r x))⟩))
noncomputable def lget {α : Type} : Nat → Clo (List α → Option α) := @Nat.rec (fun _ => Clo (List α → Option α)) ⟨@List.rec α (fun _ => Option α) none (fun v _ _ => some v)⟩ (fun _ ih => ⟨@List.rec α (fun _ => Option α) none (fun _ t _ => ih.run t)⟩)
noncomputable def lset {α : Type} : Nat → Clo (List α → α → Option (List α)) := @Nat.rec (fun _ => Clo (List α → α → Option (List α))) ⟨@List.rec α (fun _ => α → Option (List α)) (fun _ => none) (fun _ t _ x => some (x :: t))⟩ (fun _ ih => ⟨@List.rec α (fun _ => α → Option (List α)) (fun _ => none) (fun v t _ x => ob (ih.run t x) fun r => some (v :: r))⟩)
noncomputable def ldrop : Nat → Clo (List Value → List Value) := @Nat.rec (fun _ => Clo (List Value → List Value)) ⟨fun l => l⟩ (fun _ ih => ⟨@List.rec Value (fun _ => List Value) [] (fun _ t _ => ih.run t)⟩)
noncomputable def ltake : Nat → Clo (List Value → Option (List Value)) := @Nat.rec (fun _ => Clo (List Value → Option (List Value))) ⟨fun _ => some []⟩ (fun _ ih => ⟨@List.rec Value (fun _ => Option (List Value)) none (fun v t _ => ob (ih.run t) fun r => some (v :: r))⟩)
structure Sl where
  a : Option Addr
  l : Nat
  c : Nat
structure Fv where
  f : FuncId
  p : Array Value
  q : Array Value
def kNo : IntKind → Nat
  | .i8 => 0 | .i16 => 1 | .i32 => 2 | .i64 => 3 | .u8 => 4 | .u16 => 5 | .u32 => 6 | .u64 => 7
noncomputable def iNat : Int → Option Nat := @Int.rec (fun _ => Option Nat) (fun n => some n) (fun _ => none)
def fFunc (f : Fn) (p q : Array Value) : Option Fv := match f with
  | .func f => some ⟨f, p, q⟩
  | _ => none
def isFunc : Fn → Bool
  | .func _ => true
  | _ => false
noncomputable def vBool : Value → Option Bool := @Value.rec (fun _ => Option Bool) (fun _ => PUnit) (fun _ => PUnit) (fun b => some b) (fun _ _ => none) (fun _ _ => none) (fun _ _ _ => none) (fun _ => none) (fun _ => none) (fun _ _ _ => none) (fun _ => none) (fun _ => none) (fun _ _ _ _ _ => none) (none) (fun _ _ _ => none) (none) (fun _ _ => none) (fun _ _ => none) (fun _ _ => ⟨⟩) ⟨⟩ (fun _ _ _ _ => ⟨⟩)
noncomputable def vAddr : Value → Option Addr := @Value.rec (fun _ => Option Addr) (fun _ => PUnit) (fun _ => PUnit) (fun _ => none) (fun _ _ => none) (fun _ _ => none) (fun _ _ _ => none) (fun _ => none) (fun a => a) (fun _ _ _ => none) (fun _ => none) (fun _ => none) (fun _ _ _ _ _ => none) (none) (fun _ _ _ => none) (none) (fun _ _ => none) (fun _ _ => none) (fun _ _ => ⟨⟩) ⟨⟩ (fun _ _ _ _ => ⟨⟩)
noncomputable def vStr : Value → Option ByteArray := @Value.rec (fun _ => Option ByteArray) (fun _ => PUnit) (fun _ => PUnit) (fun _ => none) (fun _ _ => none) (fun _ _ => none) (fun _ _ _ => none) (fun s => some s) (fun _ => none) (fun _ _ _ => none) (fun _ => none) (fun _ => none) (fun _ _ _ _ _ => none) (none) (fun _ _ _ => none) (none) (fun _ _ => none) (fun _ _ => none) (fun _ _ => ⟨⟩) ⟨⟩ (fun _ _ _ _ => ⟨⟩)
noncomputable def vSl : Value → Option Sl := @Value.rec (fun _ => Option Sl) (fun _ => PUnit) (fun _ => PUnit) (fun _ => none) (fun _ _ => none) (fun _ _ => none) (fun _ _ _ => none) (fun _ => none) (fun _ => none) (fun a l c => some ⟨a, l, c⟩) (fun _ => none) (fun _ => none) (fun _ _ _ _ _ => none) (none) (fun _ _ _ => none) (none) (fun _ _ => none) (fun _ _ => none) (fun _ _ => ⟨⟩) ⟨⟩ (fun _ _ _ _ => ⟨⟩)
noncomputable def vAgg : Value → Option (Array Value) := @Value.rec (fun _ => Option (Array Value)) (fun _ => PUnit) (fun _ => PUnit) (fun _ => none) (fun _ _ => none) (fun _ _ => none) (fun _ _ _ => none) (fun _ => none) (fun _ => none) (fun _ _ _ => none) (fun _ => none) (fun _ => none) (fun _ _ _ _ _ => none) (none) (fun _ _ _ => none) (none) (fun c _ => some c) (fun _ _ => none) (fun _ _ => ⟨⟩) ⟨⟩ (fun _ _ _ _ => ⟨⟩)
noncomputable def vTup : Value → Option (Array Value) := @Value.rec (fun _ => Option (Array Value)) (fun _ => PUnit) (fun _ => PUnit) (fun _ => none) (fun _ _ => none) (fun _ _ => none) (fun _ _ _ => none) (fun _ => none) (fun _ => none) (fun _ _ _ => none) (fun _ => none) (fun _ => none) (fun _ _ _ _ _ => none) (none) (fun _ _ _ => none) (none) (fun _ _ => none) (fun c _ => some c) (fun _ _ => ⟨⟩) ⟨⟩ (fun _ _ _ _ => ⟨⟩)
noncomputable def vFn : Value → Option Fv := @Value.rec (fun _ => Option Fv) (fun _ => PUnit) (fun _ => PUnit) (fun _ => none) (fun _ _ => none) (fun _ _ => none) (fun _ _ _ => none) (fun _ => none) (fun _ => none) (fun _ _ _ => none) (fun _ => none) (fun _ => none) (fun f p q _ _ => fFunc f p q) (none) (fun _ _ _ => none) (none) (fun _ _ => none) (fun _ _ => none) (fun _ _ => ⟨⟩) ⟨⟩ (fun _ _ _ _ => ⟨⟩)
noncomputable def vLive : Value → Bool := @Value.rec (fun _ => Bool) (fun _ => PUnit) (fun _ => PUnit) (fun _ => false) (fun _ _ => false) (fun _ _ => false) (fun _ _ _ => false) (fun _ => false) (fun a => a.isSome) (fun _ _ _ => false) (fun _ => false) (fun _ => false) (fun f _ _ _ _ => isFunc f) (false) (fun t _ _ => true) (false) (fun _ _ => false) (fun _ _ => false) (fun _ _ => ⟨⟩) ⟨⟩ (fun _ _ _ _ => ⟨⟩)
noncomputable def vOne : Value → Bool := @Value.rec (fun _ => Bool) (fun _ => PUnit) (fun _ => PUnit) (fun _ => true) (fun _ _ => true) (fun _ _ => true) (fun _ _ _ => true) (fun _ => true) (fun _ => true) (fun _ _ _ => true) (fun _ => true) (fun _ => true) (fun _ _ _ _ _ => true) (true) (fun _ _ _ => true) (true) (fun c _ => false) (fun c _ => false) (fun _ _ => ⟨⟩) ⟨⟩ (fun _ _ _ _ => ⟨⟩)
noncomputable def vNat (k00 : IntKind) : Clo (Value → Option Nat) := ⟨@Value.rec (fun _ => Option Nat) (fun _ => PUnit) (fun _ => PUnit) (fun _ => none) (fun k n => ci (Nat.beq (kNo k00) (kNo k)) (iNat n) none) (fun _ _ => none) (fun _ _ _ => none) (fun _ => none) (fun _ => none) (fun _ _ _ => none) (fun _ => none) (fun _ => none) (fun _ _ _ _ _ => none) (none) (fun _ _ _ => none) (none) (fun _ _ => none) (fun _ _ => none) (fun _ _ => ⟨⟩) ⟨⟩ (fun _ _ _ _ => ⟨⟩)⟩
structure Row where
  c : List Value
  t : TypeId
  lo : Nat
  hi : Nat
  op : Bool
def oRow (x : Obj × Bool) : Option Row := match x with
  | (.cells ⟨c⟩ t (lo, hi), op) => some ⟨c, t, lo, hi, op⟩
  | _ => none
noncomputable def oN {α : Type} (o : Option α) {β : Type} (x : Option β) : Option β := @Option.rec α (fun _ => Option β) x (fun _ => none) o
noncomputable def krow (h : AH) (a : Addr) : Option Row := ob ((mget depth a.block).run h.t) oRow
noncomputable def kcell (h : AH) (a : Addr) : Option Value := ob (krow h a) fun r => oN a.spot ((lget a.off).run r.c)
noncomputable def kcells (h : AH) (n : Nat) (a : Addr) : Option (List Value) := ob (krow h a) fun r => oN a.spot ((ltake n).run ((ldrop a.off).run r.c))
noncomputable def kAH {α : Type} (h : AH) (f : Tr → Nat → Nat → α) : α := @AH.rec (fun _ => α) (fun t b n => @Nat.rec (fun _ => α) (f t 0 n) (fun m _ => f t (Nat.succ m) n) b) h
noncomputable def kpush (h : AH) (o : Obj) (op : Bool) : AH := kAH h fun t b n => ⟨(mset depth n).run t (some (o, op)), b, Nat.succ n⟩
noncomputable def kval : Operand → Clo (TT → Value)
  | .tmp t => tget 12 t
  | .const v => ⟨fun _ => v⟩
  | .global g => ⟨fun _ => .pointer (some ⟨g, 0, none⟩)⟩
  | .func f => ⟨fun _ => .func (.func f) #[] #[]⟩
noncomputable def kvalF (ts : TT) : Operand → Value := fun x => (kval x).run ts
abbrev KRead := Clo (TT → AH → Option Value)
noncomputable def kslow (P : Program) (o : Oper) : KRead := ⟨fun ts h => aread P o (kvalF ts) h⟩
noncomputable def knone : KRead := ⟨fun _ _ => none⟩
noncomputable def orElse {α : Type} (o p : Option α) : Option α := @Option.rec α (fun _ => Option α) p (fun v => some v) o
def isAggT : TypeDesc → Bool
  | .struct _ | .array _ _ => true
  | _ => false
noncomputable def kinfo (P : Program) (t : TypeId) : Option TypeInfo := (lget t).run P.types.toList
noncomputable def kund (P : Program) (t : TypeId) : Option TypeDesc := ob (kinfo P t) fun i => match i.desc with
  | .named _ u => ob (kinfo P u) fun j => some j.desc
  | d => some d
noncomputable def llen {α : Type} : List α → Nat := @List.rec α (fun _ => Nat) 0 (fun _ _ ih => Nat.succ ih)
noncomputable def lover : List Value → List Value → Option (List Value) := @List.rec Value (fun _ => List Value → Option (List Value)) (fun l => some l)
  (fun v _ ih => @List.rec Value (fun _ => Option (List Value)) none (fun _ t _ => ci (vOne v) (ob (ih t) fun r => some (v :: r)) none))
noncomputable def lputs : Nat → Clo (List Value → List Value → Option (List Value)) := @Nat.rec (fun _ => Clo (List Value → List Value → Option (List Value))) ⟨fun l x => lover x l⟩
  (fun _ ih => ⟨@List.rec Value (fun _ => List Value → Option (List Value)) (fun _ => none) (fun v t _ x => ob (ih.run t x) fun r => some (v :: r))⟩)
noncomputable def vcells (v : Value) : List Value := @Option.rec (Array Value) (fun _ => List Value) [v] (fun c => c.toList) (vAgg v)
def kLim : IntKind → Nat
  | .i8 => 128 | .i16 => 32768 | .i32 => 2147483648 | .i64 => 9223372036854775808 | .u8 => 256 | .u16 => 65536 | .u32 => 4294967296 | .u64 => 18446744073709551616
noncomputable def kload (P : Program) (t : TypeId) (x : Operand) : KRead :=
  match kund P t, kinfo P t with
  | some d, some i => ci (isAggT d) ⟨fun ts h => ob (vAddr ((kval x).run ts)) fun a => ob (kcells h i.size a) fun l => some (.agg ⟨l⟩)⟩ ⟨fun ts h => ob (vAddr ((kval x).run ts)) fun a => kcell h a⟩
  | _, _ => knone
noncomputable def kfieldAddr (P : Program) (o : Oper) (s : TypeId) (x : Operand) (f : Nat) : KRead :=
  match kund P s with
  | some (.struct fields) => match fields[f]? with
    | some fd => match kinfo P fd.type with
      | some i => ci (Nat.beq i.size 0) (kslow P o) (ci (Nat.beq fd.offset 0) ⟨fun ts _ => ob (vAddr ((kval x).run ts)) fun a => some (.pointer (some a))⟩
          ⟨fun ts _ => ob (vAddr ((kval x).run ts)) fun a => some (.pointer (some ⟨a.block, a.off + fd.offset, none⟩))⟩)
      | none => knone
    | none => knone
  | _ => knone
noncomputable def kindexAddr (P : Program) (o : Oper) (t : TypeId) (x ix : Operand) : KRead :=
  match kund P t with
  | some (.slice e) => match kinfo P e with
    | some i => ⟨fun ts _ => ob (vSl ((kval x).run ts)) fun s => ob ((vNat .i64).run ((kval ix).run ts)) fun n => ci (Nat.blt n s.l) (ob s.a fun a => oN a.spot (some (.pointer (some ⟨a.block, a.off + n * i.size, none⟩)))) none⟩
    | none => knone
  | some (.array len e) => match kinfo P e with
    | some i => ⟨fun ts _ => ob (vAddr ((kval x).run ts)) fun a => ob ((vNat .i64).run ((kval ix).run ts)) fun n => ci (Nat.blt n len) (oN a.spot (some (.pointer (some ⟨a.block, a.off + n * i.size, none⟩)))) none⟩
    | none => knone
  | _ => knone
noncomputable def kpart (P : Program) (t : TypeId) (x : Operand) (off : Nat) : KRead :=
  match kund P t, kinfo P t with
  | some d, some i => ci (isAggT d) ⟨fun ts _ => ob (vAgg ((kval x).run ts)) fun c => ob ((ltake i.size).run ((ldrop off).run c.toList)) fun l => some (.agg ⟨l⟩)⟩ ⟨fun ts _ => ob (vAgg ((kval x).run ts)) fun c => (lget off).run c.toList⟩
  | _, _ => knone
noncomputable def kfield (P : Program) (s : TypeId) (x : Operand) (f : Nat) : KRead :=
  match kund P s with
  | some (.struct fields) => match fields[f]? with
    | some fd => kpart P fd.type x fd.offset
    | none => knone
  | _ => knone
noncomputable def kindex (P : Program) (o : Oper) (t : TypeId) (x ix : Operand) : KRead :=
  match kund P t with
  | some .string => ⟨fun ts _ => ob (vStr ((kval x).run ts)) fun s => ob ((vNat .i64).run ((kval ix).run ts)) fun n => ob ((lget n).run s.data.toList) fun b => some (.int .u8 b.toNat)⟩
  | some (.array len e) => match kund P e, kinfo P e with
    | some d, some i => ⟨fun ts _ => ob (vAgg ((kval x).run ts)) fun c => ob ((vNat .i64).run ((kval ix).run ts)) fun n => ci (Nat.blt n len)
        (ci (isAggT d) (ob ((ltake i.size).run ((ldrop (n * i.size)).run c.toList)) fun l => some (.agg ⟨l⟩)) ((lget (n * i.size)).run c.toList)) none⟩
    | _, _ => knone
  | _ => kslow P o
noncomputable def klen (P : Program) (o : Oper) (c : Call) : KRead :=
  match c.args.toList, c.argTypes.toList with
  | x :: _, t :: _ => match kund P t with
    | some (.slice _) => ⟨fun ts _ => ob (vSl ((kval x).run ts)) fun s => some (.int .i64 (.ofNat s.l))⟩
    | some .string => ⟨fun ts _ => ob (vStr ((kval x).run ts)) fun s => some (.int .i64 (.ofNat s.data.toList.length))⟩
    | _ => kslow P o
  | _, _ => kslow P o
noncomputable def kbound (x : Option Operand) (d : Nat) (ts : TT) : Option Nat :=
  @Option.rec Operand (fun _ => Option Nat) (some d) (fun x => (vNat .i64).run ((kval x).run ts)) x
noncomputable def kslice (P : Program) (o : Oper) (t : TypeId) (x : Operand) (lo hi : Option Operand) : KRead :=
  match kund P t with
  | some (.slice e) => match kinfo P e with
    | some i => ⟨fun ts _ => ob (vSl ((kval x).run ts)) fun s => ob (kbound hi s.l ts) fun h => ob (kbound lo 0 ts) fun l =>
        ci (Nat.ble h s.c) (ci (Nat.ble l h) (some (.slice (ci (Nat.beq s.c l) s.a (ob s.a fun a => some (a.add (l * i.size)))) (h - l) (s.c - l))) none) none⟩
    | none => knone
  | _ => kslow P o
def tyInt (d : Option TypeDesc) : Option IntKind := match d with
  | some (.int k) => some k
  | _ => none
noncomputable def kintOp (P : Program) (o : Oper) (k : IntKind) (op : BinOp) (x y : Operand) : KRead :=
  let two (f : Nat → Nat → Option Value) : KRead := ⟨fun ts h => orElse (ob ((vNat k).run ((kval x).run ts)) fun a => ob ((vNat k).run ((kval y).run ts)) fun b => f a b) ((kslow P o).run ts h)⟩
  match op with
  | .add => two fun a b => ci (Nat.blt (Nat.add a b) (kLim k)) (some (.int k (.ofNat (Nat.add a b)))) none
  | .sub => two fun a b => ci (Nat.ble b a) (ci (Nat.blt a (kLim k)) (some (.int k (.ofNat (Nat.sub a b)))) none) none
  | .mul => two fun a b => ci (Nat.blt (Nat.mul a b) (kLim k)) (some (.int k (.ofNat (Nat.mul a b)))) none
  | .eql => two fun a b => some (.bool (Nat.beq a b))
  | .neq => two fun a b => some (.bool (!(Nat.beq a b)))
  | .lss => two fun a b => some (.bool (Nat.blt a b))
  | .leq => two fun a b => some (.bool (Nat.ble a b))
  | .gtr => two fun a b => some (.bool (Nat.blt b a))
  | .geq => two fun a b => some (.bool (Nat.ble b a))
  | _ => kslow P o
noncomputable def kbinOp (P : Program) (o : Oper) (op : BinOp) (t : TypeId) (x y : Operand) : KRead :=
  match tyInt (kund P t) with
  | some k => kintOp P o k op x y
  | none => match op with
    | .eql => ⟨fun ts h => orElse (ob (aNilEq P t ((kval x).run ts) ((kval y).run ts)) fun b => some (.bool b)) (ob (aFlat P o (kvalF ts) h) fun z => valOf (some z.1))⟩
    | .neq => ⟨fun ts h => orElse (ob (aNilEq P t ((kval x).run ts) ((kval y).run ts)) fun b => some (.bool (!b))) (ob (aFlat P o (kvalF ts) h) fun z => valOf (some z.1))⟩
    | _ => ⟨fun ts h => ob (aFlat P o (kvalF ts) h) fun z => valOf (some z.1)⟩
noncomputable def kconvert (P : Program) (o : Oper) (src dst : TypeId) (x : Operand) : KRead :=
  match tyInt (kund P src), tyInt (kund P dst) with
  | some k, some l => ⟨fun ts h => orElse (ob ((vNat k).run ((kval x).run ts)) fun n => ci (Nat.blt n (kLim l)) (some (.int l (.ofNat n))) none) ((kslow P o).run ts h)⟩
  | _, _ => kslow P o
noncomputable def kvals : List Operand → Clo (TT → List Value) := @List.rec Operand (fun _ => Clo (TT → List Value)) ⟨fun _ => []⟩ (fun x _ ih => ⟨fun ts => (kval x).run ts :: ih.run ts⟩)
noncomputable def kmax (P : Program) (o : Oper) (c : Call) : KRead :=
  match c.args.toList, c.argTypes.toList with
  | [x, y], t :: _ => match tyInt (kund P t) with
    | some k => ⟨fun ts h => orElse (ob ((vNat k).run ((kval x).run ts)) fun a => ob ((vNat k).run ((kval y).run ts)) fun b => some (.int k (.ofNat (ci (Nat.blt a b) b a)))) ((kslow P o).run ts h)⟩
    | none => kslow P o
  | _, _ => kslow P o
noncomputable def kpl (P : Program) : List Field → Option (List (Nat × Nat)) := @List.rec Field (fun _ => Option (List (Nat × Nat))) (some []) (fun f _ ih => ob (kinfo P f.type) fun j => ob ih fun l => some ((f.offset, j.size) :: l))
noncomputable def kparts (pl : Nat → Option (Nat × Nat)) : List (Nat × Operand) → Clo (TT → List Value → Option (List Value)) :=
  @List.rec (Nat × Operand) (fun _ => Clo (TT → List Value → Option (List Value))) ⟨fun _ l => some l⟩ (fun p _ ih => match pl p.1 with
    | some (off, size) => ⟨fun ts l => ci (Nat.beq (llen (vcells ((kval p.2).run ts))) size) (ob ((lputs off).run l (vcells ((kval p.2).run ts))) fun l => ih.run ts l) none⟩
    | none => ⟨fun _ _ => none⟩)
noncomputable def kbuild (P : Program) (t : TypeId) (parts : List (Nat × Operand)) : KRead :=
  match kinfo P t with
  | some i => match i.zero with
    | some z => match kund P t with
      | some (.struct fields) => match kpl P fields.toList with
        | some ps => ⟨fun ts _ => ob ((kparts (fun i => (lget i).run ps) parts).run ts z.cells.toList) fun l => some (.agg ⟨l⟩)⟩
        | none => knone
      | some (.array _ e) => match kinfo P e with
        | some j => ⟨fun ts _ => ob ((kparts (fun i => some (i * j.size, j.size)) parts).run ts z.cells.toList) fun l => some (.agg ⟨l⟩)⟩
        | none => knone
      | _ => knone
    | none => knone
  | none => knone
noncomputable def kread (P : Program) (o : Oper) : KRead :=
  match o.op with
  | .move x | .assign x => ⟨fun ts _ => some ((kval x).run ts)⟩
  | .pick c a b => ⟨fun ts _ => ob (vBool ((kval c).run ts)) fun t => some (ci t ((kval a).run ts) ((kval b).run ts))⟩
  | .build t parts => kbuild P t parts.toList
  | .convert src dst x => kconvert P o src dst x
  | .makeFunc fn first captured => ci (fnOk fn) ⟨fun ts _ => some (.func fn ⟨(kvals first.toList).run ts⟩ ⟨(kvals captured.toList).run ts⟩)⟩ knone
  | .unOp .not _ x => ⟨fun ts _ => ob (vBool ((kval x).run ts)) fun b => some (.bool (!b))⟩
  | .load t x => kload P t x
  | .fieldAddr s x f => kfieldAddr P o s x f
  | .indexAddr t x ix => kindexAddr P o t x ix
  | .field s x f => kfield P s x f
  | .index t x ix => kindex P o t x ix
  | .extract x i => ⟨fun ts _ => ob (vTup ((kval x).run ts)) fun c => (lget i).run c.toList⟩
  | .makeInterface t x => match kund P t with
    | some (.interface _) => knone
    | some _ => ⟨fun ts _ => some (.iface t ((kval x).run ts))⟩
    | none => knone
  | .nilCheck x => ⟨fun ts _ => ci (vLive ((kval x).run ts)) (some ((kval x).run ts)) none⟩
  | .slice t x lo hi none => kslice P o t x lo hi
  | .binOp op t x y _ => kbinOp P o op t x y
  | .call c => match c.callee with
    | .builtin .len => klen P o c
    | .builtin .max => kmax P o c
    | _ => kslow P o
  | _ => kslow P o
end Go.Ab
/- The executor for a program whose zero values are plain: what a run says. -/
namespace Go.Ab
set_option linter.unusedSimpArgs false
set_option linter.unusedVariables false
def zerosOk (P : Program) : Bool := P.types.toList.all fun i => match i.zero with
  | some z => isFlat 4 z
  | none => true
theorem zeros_of {P : Program} (h : zerosOk P = true) : ZerosFlat P := fun t i z ht hi hz => by
  have := List.all_eq_true.1 h i (Array.mem_toList_iff.2 (Array.mem_of_getElem? (i := t) (by simp only [Tables.info?, if_pos ht] at hi; exact hi)))
  rw [hz] at this
  exact this
def isTrue : Option (Value × AH) → Bool
  | some (.bool b, _) => b
  | _ => false
def runs (P : Program) (f n : Nat) : Bool := isTrue (afr P 0 noOrc n (Frame.enter P f #[] .normal) h00)
theorem runs_calls {P : Program} (hz : zerosOk P = true) (hm : P.follows .mixedOrders = true) {f n : Nat} (h : runs P f n = true) (w : World) : Calls P f #[] w fun e w' => e = .returned (.bool true) ∧ Grew w w' := by
  unfold runs isTrue at h
  split at h
  · rename_i b h' e
    subst h
    exact root (zeros_of hz) hm (fun f xs h v h' e => by cases e) e rfl w
  · cases h
end Go.Ab
