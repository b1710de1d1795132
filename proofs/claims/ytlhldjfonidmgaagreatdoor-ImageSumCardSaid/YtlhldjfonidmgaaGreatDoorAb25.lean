/- Frames related; the machine's steps of control. -/
import Derived.Test.YtlhldjfonidmgaaGreatDoorAb24
namespace Go.Ab
set_option linter.unusedSimpArgs false
set_option linter.unusedVariables false
set_option linter.unusedSectionVars false
inductive ItemR (E : Env) : Item → Item → Prop
  | code (c) : ItemR E (.code c) (.code c)
  | inBlock (i) : ItemR E (.inBlock i) (.inBlock i)
  | inLoop (b) : ItemR E (.inLoop b) (.inLoop b)
  | inScope (b) : ItemR E (.inScope b) (.inScope b)
  | inRegion (o l) : ItemR E (.inRegion o l) (.inRegion o l)
  | endRangeFunc {l l'} : E l = some (l', none) → ItemR E (.endRangeFunc l) (.endRangeFunc l')
  | beginRound : ItemR E .beginRound .beginRound
theorem ItemR.mono {E E' : Env} (h : E.le E') {a a' : Item} (r : ItemR E a a') : ItemR E' a a' := by
  cases r with
  | code c => exact .code c
  | inBlock i => exact .inBlock i
  | inLoop b => exact .inLoop b
  | inScope b => exact .inScope b
  | inRegion o l => exact .inRegion o l
  | endRangeFunc e => exact .endRangeFunc (h _ _ e)
  | beginRound => exact .beginRound
inductive ItemsR (E : Env) : List Item → List Item → Prop
  | nil : ItemsR E [] []
  | cons {a a' l l'} : ItemR E a a' → ItemsR E l l' → ItemsR E (a :: l) (a' :: l')
theorem ItemsR.mono {E E' : Env} (h : E.le E') {a a' : List Item} (r : ItemsR E a a') : ItemsR E' a a' := by
  induction r with
  | nil => exact .nil
  | cons r _ i => exact .cons (r.mono h) i
theorem exitTo_rel {E : Env} (id : Nat) {k k' : List Item} (r : ItemsR E k k') : (exitTo id k = none ∧ exitTo id k' = none) ∨ ∃ m m', exitTo id k = some m ∧ exitTo id k' = some m' ∧ ItemsR E m m' := by
  induction r with
  | nil => exact .inl ⟨rfl, rfl⟩
  | cons a r ih =>
    cases a with
    | inBlock i =>
      simp only [exitTo]
      by_cases h : (i == id) = true
      · simp only [h, if_true]; exact .inr ⟨_, _, rfl, rfl, r⟩
      · simp only [h]; exact ih
    | _ => exact ih
theorem gotoIn_rel {E : Env} (l : Nat) {k k' : List Item} (r : ItemsR E k k') : (gotoIn l k = none ∧ gotoIn l k' = none) ∨ ∃ m m', gotoIn l k = some m ∧ gotoIn l k' = some m' ∧ ItemsR E m m' := by
  induction r with
  | nil => exact .inl ⟨rfl, rfl⟩
  | cons a r ih =>
    cases a with
    | inScope b =>
      simp only [gotoIn]
      cases findLabel b l with
      | some rest => exact .inr ⟨_, _, rfl, rfl, .cons (.code _) (.cons (.inScope _) r)⟩
      | none => exact ih
    | _ => exact ih
inductive RoR (E : Env) : Option Nat → Option Nat → Prop
  | none : RoR E none none
  | some {l l'} : E l = some (l', Option.none) → RoR E (Option.some l) (Option.some l')
structure FR (E : Env) (fr fr' : Frame) : Prop where
  fn : fr'.fn = fr.fn
  tmps : VRs E fr.tmps fr'.tmps
  todo : ItemsR E fr.todo fr'.todo
  defers : DefsR E fr.defers fr'.defers
  mode : fr'.mode = fr.mode
  kind : fr'.kind = fr.kind
  ro : RoR E fr.roundOf fr'.roundOf
theorem RoR.mono {E E' : Env} (h : E.le E') {a a' : Option Nat} (r : RoR E a a') : RoR E' a a' := by
  cases r with
  | none => exact .none
  | some e => exact .some (h _ _ e)
theorem FR.mono {E E' : Env} (h : E.le E') {a a' : Frame} (r : FR E a a') : FR E' a a' := ⟨r.fn, r.tmps.mono h, r.todo.mono h, r.defers.mono h, r.mode, r.kind, r.ro.mono h⟩
theorem VRs.undefs (E : Env) (n : Nat) : VRs E (Array.replicate n undef) (Array.replicate n undef) := ⟨rfl, fun i h => by simp only [Array.getElem_replicate]; exact VR.undef E⟩
theorem FR.enter {P : Program} {E : Env} {f : FuncId} {as as' : Array Value} (r : VRs E as as') (kind : CallKind) : FR E (Frame.enter P f as kind) (Frame.enter P f as' kind) :=
  ⟨rfl, by simp only [Frame.enter]; rw [← r.size]; exact r.append (VRs.undefs E _), .cons (.code _) .nil, .nil, rfl, rfl, .none⟩
theorem FR.round {E : Env} {l l' : Nat} {f : FuncId} {ts ts' : Array Value} {a b : Code} (e : E l = some (l', none)) (r : VRs E ts ts') : FR E (Frame.round l f ts a b .normal) (Frame.round l' f ts' a b .normal) :=
  ⟨rfl, r, .cons (.code _) (.cons .beginRound (.cons (.code _) .nil)), .nil, rfl, rfl, .some e⟩
/-- How a frame ends. -/
def Ends (P : Program) (fr : Frame) (cs : List Frame) (w : World) (v : Value) (w' : World) : Prop :=
  match fr.roundOf with
  | none => ∃ fr2, Steps P (lone fr cs w) (lone fr2 cs w') ∧ fr2.fn = fr.fn ∧ fr2.mode = .returning ∧ fr2.defers = [] ∧ fr2.kind = fr.kind ∧ ∃ fn, P.funcs[fr2.fn]? = some fn ∧ (results fn fr2.tmps).run P w' = .ok v w'
  | some _ => ∀ c cs', cs = c :: cs' → fr.kind = .normal → Steps P (lone fr cs w) (lone (c.finish v) cs' w')
section
variable {P : Program} {w w1 w' : World} {cs : List Frame} {fr fr1 : Frame} {v : Value}
theorem Ends.of_steps (h : Steps P (lone fr cs w) (lone fr1 cs w1)) (hf : fr1.fn = fr.fn) (hk : fr1.kind = fr.kind) (hr : fr1.roundOf = fr.roundOf) (e : Ends P fr1 cs w1 v w') : Ends P fr cs w v w' := by
  unfold Ends at e ⊢
  rw [hr] at e
  cases hro : fr.roundOf with
  | none =>
    rw [hro] at e
    obtain ⟨fr2, h1, h2, h3, h4, h5, h6⟩ := e
    exact ⟨fr2, Steps.trans h h1, by rw [h2, hf], h3, h4, by rw [h5, hk], h6⟩
  | some l =>
    rw [hro] at e
    intro c cs' hc hn
    exact Steps.trans h (e c cs' hc (by rw [hk]; exact hn))
theorem Ends.back {c : Frame} (hk : fr.kind = .normal) (e : Ends P fr (c :: cs) w v w') : Steps P (lone fr (c :: cs) w) (lone (c.finish v) cs w') := by
  unfold Ends at e
  cases hro : fr.roundOf with
  | none =>
    rw [hro] at e
    obtain ⟨fr2, h1, h2, h3, h4, h5, h6⟩ := e
    exact Steps.trans h1 (Steps.one' (step_leave_returned ⟨h3, h4, by rw [h5, hk], h6⟩))
  | some l =>
    rw [hro] at e
    exact e c cs rfl hk
theorem Ends.backD {c : Frame} (hk : fr.kind = .deferred) (hro : fr.roundOf = none) (hc : c.mode = .returning) (e : Ends P fr (c :: cs) w v w') : Steps P (lone fr (c :: cs) w) (lone c cs w') := by
  unfold Ends at e
  rw [hro] at e
  obtain ⟨fr2, h1, h2, h3, h4, h5, fn, h6, h7⟩ := e
  refine Steps.trans h1 (Steps.one' (step_lone_go ?_))
  simp [stepG, unwind, doReturn, h3, h4, h5, hk, h6, h7, hc]
variable {k : List Item} {a b c : Code}
theorem step_skipC (hm : fr.mode = .run) (ht : fr.todo = .code .skip :: k) : step P (lone fr cs w) = .next (lone { fr with todo := k } cs w) := by
  obtain ⟨fn, tmps, todo, defers, mode, kind, ro⟩ := fr; simp only at hm ht; subst hm ht; exact step_lone_go (by simp [stepG, stepG.exec])
theorem step_label {l : Nat} (hm : fr.mode = .run) (ht : fr.todo = .code (.label l) :: k) : step P (lone fr cs w) = .next (lone { fr with todo := k } cs w) := by
  obtain ⟨fn, tmps, todo, defers, mode, kind, ro⟩ := fr; simp only at hm ht; subst hm ht; exact step_lone_go (by simp [stepG, stepG.exec])
theorem step_inBlock {l : Nat} (hm : fr.mode = .run) (ht : fr.todo = .inBlock l :: k) : step P (lone fr cs w) = .next (lone { fr with todo := k } cs w) := by
  obtain ⟨fn, tmps, todo, defers, mode, kind, ro⟩ := fr; simp only at hm ht; subst hm ht; exact step_lone_go (by simp [stepG, stepG.exec])
theorem step_inScope (hm : fr.mode = .run) (ht : fr.todo = .inScope a :: k) : step P (lone fr cs w) = .next (lone { fr with todo := k } cs w) := by
  obtain ⟨fn, tmps, todo, defers, mode, kind, ro⟩ := fr; simp only at hm ht; subst hm ht; exact step_lone_go (by simp [stepG, stepG.exec])
theorem step_seq (hm : fr.mode = .run) (ht : fr.todo = .code (.seq a b) :: k) : step P (lone fr cs w) = .next (lone { fr with todo := .code a :: .code b :: k } cs w) := by
  obtain ⟨fn, tmps, todo, defers, mode, kind, ro⟩ := fr; simp only at hm ht; subst hm ht; exact step_lone_go (by simp [stepG, stepG.exec])
theorem step_cond {x : Operand} {t : Bool} (hm : fr.mode = .run) (ht : fr.todo = .code (.cond x a b) :: k) (hx : fr.eval x = .bool t) : step P (lone fr cs w) = .next (lone { fr with todo := .code (if t then a else b) :: k } cs w) := by
  obtain ⟨fn, tmps, todo, defers, mode, kind, ro⟩ := fr; simp only at hm ht; subst hm ht; exact step_lone_go (by simp [stepG, stepG.exec, hx])
theorem step_block {i : Nat} (hm : fr.mode = .run) (ht : fr.todo = .code (.block i a) :: k) : step P (lone fr cs w) = .next (lone { fr with todo := .code a :: .inBlock i :: k } cs w) := by
  obtain ⟨fn, tmps, todo, defers, mode, kind, ro⟩ := fr; simp only at hm ht; subst hm ht; exact step_lone_go (by simp [stepG, stepG.exec])
theorem step_loop (hm : fr.mode = .run) (ht : fr.todo = .code (.loop a) :: k) : step P (lone fr cs w) = .next (lone { fr with todo := .code a :: .inLoop a :: k } cs w) := by
  obtain ⟨fn, tmps, todo, defers, mode, kind, ro⟩ := fr; simp only at hm ht; subst hm ht; exact step_lone_go (by simp [stepG, stepG.exec])
theorem step_inLoop (hm : fr.mode = .run) (ht : fr.todo = .inLoop a :: k) : step P (lone fr cs w) = .next (lone { fr with todo := .code a :: .inLoop a :: k } cs w) := by
  obtain ⟨fn, tmps, todo, defers, mode, kind, ro⟩ := fr; simp only at hm ht; subst hm ht; exact step_lone_go (by simp [stepG, stepG.exec])
theorem step_scope (hm : fr.mode = .run) (ht : fr.todo = .code (.scope a) :: k) : step P (lone fr cs w) = .next (lone { fr with todo := .code a :: .inScope a :: k } cs w) := by
  obtain ⟨fn, tmps, todo, defers, mode, kind, ro⟩ := fr; simp only at hm ht; subst hm ht; exact step_lone_go (by simp [stepG, stepG.exec])
theorem step_exit {i : Nat} {m : List Item} (hm : fr.mode = .run) (ht : fr.todo = .code (.exit i) :: k) (he : exitTo i k = some m) : step P (lone fr cs w) = .next (lone { fr with todo := m } cs w) := by
  obtain ⟨fn, tmps, todo, defers, mode, kind, ro⟩ := fr; simp only at hm ht; subst hm ht; exact step_lone_go (by simp [stepG, stepG.exec, he])
theorem step_goto {i : Nat} {m : List Item} (hm : fr.mode = .run) (ht : fr.todo = .code (.goto i) :: k) (he : gotoIn i k = some m) : step P (lone fr cs w) = .next (lone { fr with todo := m } cs w) := by
  obtain ⟨fn, tmps, todo, defers, mode, kind, ro⟩ := fr; simp only at hm ht; subst hm ht; exact step_lone_go (by simp [stepG, stepG.exec, he])
theorem step_regionO {i : Nat} {ops : Array Oper} (hm : fr.mode = .run) (ht : fr.todo = .code (.region i ops false) :: k) : step P (lone fr cs w) = .next (lone { fr with todo := .inRegion ops (List.range ops.size) :: k } cs w) := by
  obtain ⟨fn, tmps, todo, defers, mode, kind, ro⟩ := fr; simp only at hm ht; subst hm ht; exact step_lone_go (by simp [stepG, stepG.exec])
theorem step_regionE {ops : Array Oper} (hm : fr.mode = .run) (ht : fr.todo = .inRegion ops [] :: k) : step P (lone fr cs w) = .next (lone { fr with todo := k } cs w) := by
  obtain ⟨fn, tmps, todo, defers, mode, kind, ro⟩ := fr; simp only at hm ht; subst hm ht; exact step_lone_go (by simp [stepG, stepG.exec])
theorem step_leaveE (hm : fr.mode = .run) (ht : fr.todo = []) (hr : fr.roundOf = none) : step P (lone fr cs w) = .next (lone { fr with mode := .returning } cs w) := by
  obtain ⟨fn, tmps, todo, defers, mode, kind, ro⟩ := fr; simp only at hm ht hr; subst hm ht hr; exact step_lone_go (by simp [stepG, stepG.exec])
theorem step_leaveR (hm : fr.mode = .run) (ht : fr.todo = .code .ret :: k) (hr : fr.roundOf = none) : step P (lone fr cs w) = .next (lone { fr with mode := .returning } cs w) := by
  obtain ⟨fn, tmps, todo, defers, mode, kind, ro⟩ := fr; simp only at hm ht hr; subst hm ht hr; exact step_lone_go (by simp [stepG, stepG.exec])
/-- The jumps that leave a round. -/
def leaves (fr : Frame) : Option Code → Prop
  | none => fr.todo = []
  | some .ret => ∃ k, fr.todo = .code .ret :: k
  | some (.exit i) => ∃ k, fr.todo = .code (.exit i) :: k ∧ exitTo i k = none
  | some (.goto i) => ∃ k, fr.todo = .code (.goto i) :: k ∧ gotoIn i k = none
  | _ => False
theorem step_leaveRound {l : Nat} {c : Frame} {jump : Option Code} (hm : fr.mode = .run) (hl : leaves fr jump) (hr : fr.roundOf = some l) (hk : fr.kind = .normal) (hd : (Instr.endRound l jump).run P w = .ok v w') :
    step P (lone fr (c :: cs) w) = .next (lone (c.finish v) cs w') := by
  obtain ⟨fn, tmps, todo, defers, mode, kind, ro⟩ := fr
  simp only at hm hr hk
  subst hm hr hk
  unfold leaves at hl
  split at hl
  · simp only at hl
    subst hl
    exact step_lone_go (by simp [stepG, stepG.exec, doReturn, hd])
  · obtain ⟨k, hl⟩ := hl
    simp only at hl
    subst hl
    exact step_lone_go (by simp [stepG, stepG.exec, doReturn, hd])
  · obtain ⟨k, hl, he⟩ := hl
    simp only at hl
    subst hl
    exact step_lone_go (by simp [stepG, stepG.exec, doReturn, hd, he])
  · obtain ⟨k, hl, he⟩ := hl
    simp only at hl
    subst hl
    exact step_lone_go (by simp [stepG, stepG.exec, doReturn, hd, he])
  · exact hl.elim
theorem step_beginRound {l : Nat} (hm : fr.mode = .run) (ht : fr.todo = .beginRound :: k) (hr : fr.roundOf = some l) (hd : (Instr.beginRound l).run P w = .ok () w') : step P (lone fr cs w) = .next (lone { fr with todo := k } cs w') := by
  obtain ⟨fn, tmps, todo, defers, mode, kind, ro⟩ := fr; simp only at hm ht hr; subst hm ht hr; exact step_lone_go (by simp [stepG, stepG.exec, stepG.apply, hd, Frame.finish])
theorem step_endRange {l : Nat} {jump : Option Code} (hm : fr.mode = .run) (ht : fr.todo = .endRangeFunc l :: k) (hd : (Instr.endLoop l).run P w = .ok jump w') : step P (lone fr cs w) = .next (lone { fr with todo := (jump.map Item.code).toList ++ k } cs w') := by
  obtain ⟨fn, tmps, todo, defers, mode, kind, ro⟩ := fr; simp only at hm ht; subst hm ht; exact step_lone_go (by simp [stepG, stepG.exec, hd])
theorem step_rangeFunc {f : Operand} {ps : Array Tmp} {l : Nat} {mark : List Deferred} {g : FuncId} {first captured : Array Value} (hm : fr.mode = .run) (ht : fr.todo = .code (.rangeFunc f ps a b) :: k) (hb : bodied P g = true)
    (hd : (Instr.enterLoop fr.fn fr.tmps ps a b fr.roundOf).run P w = .ok (l, mark) w') (hv : fr.eval f = .func (.func g) first captured) :
    step P (lone fr cs w) = .next (lone (Frame.enter P g ((first ++ #[.func (.yield l) #[] #[]]) ++ captured) .normal) ({ fr with todo := .inRangeFunc l :: k, defers := mark ++ fr.defers } :: cs) w') := by
  obtain ⟨fn, tmps, todo, defers, mode, kind, ro⟩ := fr
  simp only at hm ht hd
  subst hm ht
  have hv' : (Frame.eval { fn := fn, tmps := tmps, todo := .inRangeFunc l :: k, defers := mark ++ defers, mode := .run, kind := kind, roundOf := ro } f) = .func (.func g) first captured := by
    rw [← hv]; cases f <;> rfl
  have hcst : (Frame.eval { fn := fn, tmps := tmps, todo := .inRangeFunc l :: k, defers := mark ++ defers, mode := .run, kind := kind, roundOf := ro } (.const (.func (.yield l) #[] #[]))) = .func (.yield l) #[] #[] := rfl
  have hc := run_callFunc hb ((first ++ #[.func (.yield l) #[] #[]]) ++ captured) w'
  generalize hF : ({ fn := fn, tmps := tmps, todo := .inRangeFunc l :: k, defers := mark ++ defers, mode := .run, kind := kind, roundOf := ro } : Frame) = F at hv' hcst
  have hs : (do let d ← resolve F.eval { callee := .value f, args := #[.const (.func (.yield l) #[] #[])], argTypes := #[] } 0; invoke d.target d.args : Sem Next).run P w' = .ok (.enter g ((first ++ #[.func (.yield l) #[] #[]]) ++ captured)) w' := by
    have e1 : resolve F.eval { callee := .value f, args := #[.const (.func (.yield l) #[] #[])], argTypes := #[] } 0 = pure { target := .fn (.func g) captured, args := first ++ #[.func (.yield l) #[] #[]] } := by
      simp only [resolve, hv', Deferred.ofValue, List.map_toArray, List.map_cons, List.map_nil, hcst]
    rw [e1, pure_bind]
    exact hc
  subst hF
  exact step_lone_go (by simp only [stepG, stepG.exec, stepG.apply]; simp [hd, hs])
theorem step_collected {l : Nat} {as : Array Value} {ds calls : List Deferred} (hm : fr.mode = .returning) (hds : fr.defers = { target := .collected l, args := as } :: ds) (hd : (Instr.takeDeferred l).run P w = .ok calls w') :
    step P (lone fr cs w) = .next (lone { fr with defers := calls ++ ds } cs w') := by
  obtain ⟨fn, tmps, todo, defers, mode, kind, ro⟩ := fr; simp only at hm hds; subst hm hds; exact step_lone_go (by simp [stepG, unwind, hd])
theorem step_deferred {g : FuncId} {as cap : Array Value} {ds : List Deferred} (hb : bodied P g = true) (hm : fr.mode = .returning) (hds : fr.defers = { target := .fn (.func g) cap, args := as } :: ds) :
    step P (lone fr cs w) = .next (lone (Frame.enter P g (as ++ cap) .deferred) ({ fr with defers := ds } :: cs) w) := by
  obtain ⟨fn, tmps, todo, defers, mode, kind, ro⟩ := fr; simp only at hm hds; subst hm hds
  have hc := run_callFunc hb (as ++ cap) w
  exact step_lone_go (by simp [stepG, unwind, callDeferred, invoke, hc])
end
end Go.Ab
