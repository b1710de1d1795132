/- Operations, one by one: what an abstract run says of a run. -/
import Derived.Test.YtlhldjfonidmgaaGreatDoorAb3
namespace Go.Ab
set_option linter.unusedSimpArgs false
set_option linter.unusedVariables false
set_option linter.unusedSectionVars false

inductive NextR (E : Env) : Next → Next → Prop
  | value {v v'} : VR E v v' → NextR E (.value v) (.value v')
  | skip : NextR E .skip .skip
  | enter {f a a'} : VRs E a a' → NextR E (.enter f a) (.enter f a')
  | round {l l' f t t' c b} : E l = some (l', none) → VRs E t t' → NextR E (.round l f t c b) (.round l' f t' c b)
  | defer {d d'} : DefR E d d' → NextR E (.defer d) (.defer d')
  | recover : NextR E .recover .recover
section
variable {P : Program} {w0 : W0} {α β : Type} {E : Env}
theorem VRs.map {E : Env} {ι : Type} (l : Array ι) (f g : ι → Value) (h : ∀ x ∈ l, VR E (f x) (g x)) : VRs E (l.map f) (l.map g) := by
  refine ⟨by simp, fun i hi => ?_⟩
  simp only [Array.getElem_map]
  exact h _ (Array.getElem_mem _)
theorem arun_fail_bind {s : Sem α} {f : α → Sem β} (hn : ∀ a x, arun P (f a) x = none) (x : AH) : arun P (s >>= f) x = none := by
  rw [arun_bind]
  cases arun P s x with
  | none => rfl
  | some y => exact hn _ _
theorem fails_panic (e : RuntimeError) (x : AH) : arun P (runtimePanic e : Sem α) x = none := by
  cases e <;> first
    | rfl
    | exact arun_fail_bind (fun p x => arun_fail_bind (fun _ x => arun_fail_bind (fun _ _ => rfl) x) x) x
theorem fails_bounds (k : IntKind) (x y : Int) (c : BoundsCode) (h : AH) : arun P (boundsPanic k x y c : Sem α) h = none := by
  unfold boundsPanic
  dsimp only
  split <;> exact arun_fail_bind (fun a x => fails_panic _ _) h
theorem sim_panic {R : Env → α → β → Prop} (e : RuntimeError) (s' : Sem β) : Sim P w0 E R (runtimePanic e) s' := sim_none (fails_panic e)
theorem sim_bounds {R : Env → α → β → Prop} (k : IntKind) (x y : Int) (c : BoundsCode) (s' : Sem β) : Sim P w0 E R (boundsPanic k x y c) s' := sim_none (fails_bounds k x y c)

theorem sim_sureAddr {v v' : Value} (r : VR E v v') : Sim P w0 E AR (Instr.sureAddr v) (Instr.sureAddr v') := by
  cases r with
  | ptr e => exact sim_pure ⟨_, _, e, rfl⟩
  | _ => exact sim_none fun _ => rfl
theorem sim_asAddr {v v' : Value} (r : VR E v v') : Sim P w0 E AR (asAddr v) (asAddr v') := by
  cases r with
  | ptr e => exact sim_pure ⟨_, _, e, rfl⟩
  | nilPtr => exact sim_panic .nilDeref (asAddr (.pointer none))
  | _ => exact sim_none fun _ => rfl
theorem sim_asIntOf {v v' : Value} (r : VR E v v') : Sim P w0 E (fun _ a b => a = b) (asIntOf v) (asIntOf v') := by
  cases r with
  | int k n => exact sim_pure rfl
  | _ => exact sim_none fun _ => rfl
theorem sim_asInt {v v' : Value} (r : VR E v v') : Sim P w0 E (fun _ a b => a = b) (asInt v) (asInt v') :=
  sim_bind (sim_asIntOf r) fun E' le a b e => by subst e; exact sim_pure rfl
theorem sim_asBool {v v' : Value} (r : VR E v v') : Sim P w0 E (fun _ a b => a = b) (asBool v) (asBool v') := by
  cases r with
  | bool b => exact sim_pure rfl
  | _ => exact sim_none fun _ => rfl
theorem sim_asAgg {v v' : Value} (r : VR E v v') : Sim P w0 E VRs (asAgg v) (asAgg v') := by
  cases r with
  | agg h i => exact sim_pure ⟨h, i⟩
  | _ => exact sim_none fun _ => rfl
theorem sim_part (t : TypeId) {c c' : Array Value} (r : VRs E c c') (off : Nat) : Sim P w0 E VR (part t c off) (part t c' off) := by
  refine sim_bind (sim_isAgg t) fun E1 le1 x y e => ?_
  subst e
  cases x with
  | true =>
    refine sim_bind (sim_sizeOf t) fun E2 le2 n n' e2 => ?_
    obtain ⟨rfl, _⟩ := e2
    exact sim_pure (VR.agg' (((r.mono le1).mono le2).extract _ _))
  | false =>
    rcases (r.mono le1).get? off with ⟨h1, h2⟩ | ⟨x, x', h1, h2, h3⟩
    · simp only [h1, h2, Bool.false_eq_true, if_false]; exact sim_none fun _ => rfl
    · simp only [h1, h2, Bool.false_eq_true, if_false]; exact sim_pure h3
theorem sim_alloc (hz : ZerosFlat P) (t : TypeId) (ht : t < P.types.size) (o o' : Value) : Sim P w0 E VR (Instr.alloc t true o) (Instr.alloc t true o') :=
  sim_bind (sim_zeroValue hz t ht) fun E' le a b r => sim_bind (sim_newVar r) fun E'' le' x y r' => sim_pure r'.ptr
theorem sim_box (t : TypeId) {v v' : Value} (r : VR E v v') : Sim P w0 E VR (Instr.box t v) (Instr.box t v') :=
  sim_bind (sim_newVar r) fun E'' le' x y r' => sim_pure r'.ptr
theorem sim_loadAt (t : TypeId) {v v' : Value} (r : VR E v v') : Sim P w0 E VR (Instr.loadAt t v) (Instr.loadAt t v') :=
  sim_bind (sim_sureAddr r) fun E' le a b ra => sim_loadVar t ra
theorem sim_storeAt (t : TypeId) {v v' x x' : Value} (r : VR E v v') (rx : VR E x x') : Sim P w0 E (fun _ _ _ => True) (Instr.storeAt t v x) (Instr.storeAt t v' x') :=
  sim_bind (sim_sureAddr r) fun E' le a b ra => sim_storeVar t ra (rx.mono le)
theorem sim_fieldPlace {a a' : Addr} (r : AR E a a') (f : Field) : Sim P w0 E AR (fieldPlace a f) (fieldPlace a' f) := by
  refine sim_bind (sim_sizeOf f.type) fun E' le n n' e => ?_
  obtain ⟨rfl, _⟩ := e
  by_cases h : n = 0
  · rw [if_pos h, if_pos h]
    exact sim_none fun x => arun_fail_bind (fun _ _ => rfl) _
  · rw [if_neg h, if_neg h]
    exact sim_pure ((r.mono le).add _)
theorem sim_fieldAt (s : TypeId) {v v' : Value} (r : VR E v v') (n : Nat) : Sim P w0 E VR (Instr.fieldAt s v n) (Instr.fieldAt s v' n) := by
  refine sim_bind (sim_underlying s) fun E' le d d' e => ?_
  obtain ⟨rfl, _⟩ := e
  cases d with
  | struct fields =>
    simp only
    cases hf : fields[n]? with
    | none => exact sim_none fun _ => rfl
    | some f => exact sim_bind (sim_sureAddr (r.mono le)) fun E2 le2 a b ra => sim_bind (sim_fieldPlace ra f) fun E3 le3 a b ra => sim_pure ra.ptr
  | _ => exact sim_none fun _ => rfl
theorem sim_field (t : TypeId) {v v' : Value} (r : VR E v v') (n : Nat) : Sim P w0 E VR (Instr.field t v n) (Instr.field t v' n) := by
  refine sim_bind (sim_underlying t) fun E' le d d' e => ?_
  obtain ⟨rfl, _⟩ := e
  cases d with
  | struct fields =>
    simp only
    cases hf : fields[n]? with
    | none => exact sim_none fun _ => rfl
    | some f => exact sim_bind (sim_asAgg (r.mono le)) fun E2 le2 a b ra => sim_part _ ra _
  | _ => exact sim_none fun _ => rfl
theorem sim_extract {v v' : Value} (r : VR E v v') (n : Nat) : Sim P w0 E VR (Instr.extract v n) (Instr.extract v' n) := by
  cases r with
  | tuple h i =>
    rcases VRs.get? ⟨h, i⟩ n with ⟨h1, h2⟩ | ⟨x, x', h1, h2, h3⟩
    · simp only [Instr.extract, h1, h2]; exact sim_none fun _ => rfl
    · simp only [Instr.extract, h1, h2]; exact sim_pure h3
  | _ => exact sim_none fun _ => rfl
theorem sim_makeInterface (t : TypeId) {v v' : Value} (r : VR E v v') : Sim P w0 E VR (Instr.makeInterface t v) (Instr.makeInterface t v') := by
  refine sim_bind (sim_underlying t) fun E' le d d' e => ?_
  obtain ⟨rfl, _⟩ := e
  cases d with
  | interface ms => exact sim_none fun _ => rfl
  | _ => exact sim_pure (.iface t (r.mono le))
theorem sim_index (t : TypeId) {v v' i i' : Value} (r : VR E v v') (ri : VR E i i') : Sim P w0 E VR (Instr.index t v i) (Instr.index t v' i') := by
  refine sim_bind (sim_asIntOf ri) fun E1 le1 p p' e => ?_
  subst e
  obtain ⟨k, n⟩ := p
  refine sim_bind (sim_underlying t) fun E' le d d' e => ?_
  obtain ⟨rfl, _⟩ := e
  have r' := (r.mono le1).mono le
  cases d <;> cases r' <;> first | exact sim_none fun _ => rfl | skip
  · rename_i s
    simp only
    cases hq : (if 0 ≤ n then s[n.toNat]? else none) with
    | none => exact sim_bounds _ _ _ _ _
    | some b => exact sim_pure (.int _ _)
  · rename_i len elem _ cs cs' h g
    simp only
    by_cases hb : 0 ≤ n ∧ n < (len : Int)
    · rw [if_pos hb, if_pos hb]
      refine sim_bind (sim_sizeOf elem) fun E2 le2 a b e => ?_
      obtain ⟨rfl, _⟩ := e
      exact sim_part _ (VRs.mono le2 ⟨h, g⟩) _
    · rw [if_neg hb, if_neg hb]
      exact sim_bounds _ _ _ _ _
def idxTail (t : TypeId) (k : IntKind) (i : Int) (base : Option Addr) (len : Nat) (elem : TypeId) : Sem Value := do
  let tiny := len ≤ 1 && (match ← underlying t with | .array .. => true | _ => false)
  match base with
  | some a =>
    if 0 ≤ i ∧ i < len then pure (.pointer (some (a.add (i.toNat * (← sizeOf elem)))))
    else if tiny then unsupported (.noEntry "op/indexAddr.an index out of range at an array of length 0 or 1 (ledger 616)")
    else boundsPanic k i len .index
  | none => boundsPanic k i 0 .index
theorem sim_idxTail (t : TypeId) (k : IntKind) (n : Int) {a a' : Addr} (len : Nat) (elem : TypeId) (h : AR E a a' ∨ len = 0) : Sim P w0 E VR (idxTail t k n (some a) len elem) (idxTail t k n (some a') len elem) := by
  refine sim_bind (sim_underlying t) fun E' le d d' e => ?_
  obtain ⟨rfl, _⟩ := e
  simp only
  by_cases hb : 0 ≤ n ∧ n < (len : Int)
  · rw [if_pos hb, if_pos hb]
    rcases h with h | h
    · refine sim_bind (sim_sizeOf elem) fun E3 le3 a b e => ?_
      obtain ⟨rfl, _⟩ := e
      exact sim_pure (((h.mono le).mono le3).add _).ptr
    · omega
  · rw [if_neg hb, if_neg hb]
    refine sim_none fun x => ?_
    repeat' split
    all_goals first | rfl | exact fails_bounds _ _ _ _ _
theorem sim_idxNone (t : TypeId) (k : IntKind) (n : Int) (len : Nat) (elem : TypeId) : Sim P w0 E VR (idxTail t k n none len elem) (idxTail t k n none len elem) := by
  refine sim_bind (sim_underlying t) fun E' le d d' e => ?_
  exact sim_bounds _ _ _ _ _
theorem sim_indexAt (t : TypeId) {v v' i i' : Value} (r : VR E v v') (ri : VR E i i') : Sim P w0 E VR (Instr.indexAt t v i) (Instr.indexAt t v' i') := by
  refine sim_bind (sim_asIntOf ri) fun E1 le1 p p' e => ?_
  subst e
  obtain ⟨k, n⟩ := p
  refine sim_bind (sim_underlying t) fun E' le d d' e => ?_
  obtain ⟨rfl, _⟩ := e
  have r' := (r.mono le1).mono le
  cases d with
  | slice elem =>
    cases r' with
    | nilSlice l c => exact sim_idxNone t k n l elem
    | slice e _ _ => exact sim_idxTail t k n _ elem (.inl ⟨_, _, e, rfl⟩)
    | empty e => exact sim_idxTail t k n 0 elem (.inr rfl)
    | _ => exact sim_none fun _ => rfl
  | array len elem => exact sim_bind (sim_sureAddr r') fun E3 le3 a b ra => sim_idxTail t k n len elem (.inl ra)
  | _ => exact sim_none fun _ => rfl
end
end Go.Ab
