/- The executor is sound. -/
import Derived.Test.YtlhldjfonidmgaaGreatDoorAb26
namespace Go.Ab
set_option linter.unusedSimpArgs false
set_option linter.unusedVariables false
set_option linter.unusedSectionVars false
theorem VRs.getD {E : Env} {ts tm : Array Value} (r : VRs E ts tm) (d : Nat) : VR E (ts.getD d undef) (tm.getD d undef) := by
  rcases r.get? d with ⟨g1, g2⟩ | ⟨x, x', g1, g2, g3⟩
  · simp only [Array.getD_eq_getD_getElem?, g1, g2, Option.getD_none]; exact VR.undef E
  · simp only [Array.getD_eq_getD_getElem?, g1, g2, Option.getD_some]; exact g3
theorem VRs.putT {E : Env} {ts tm : Array Value} (r : VRs E ts tm) {v v' : Value} (rv : VR E v v') (d : Option Tmp) : VRs E (putT ts d v) (putT tm d v') := by
  cases d with
  | none => exact r
  | some d => exact r.set rv d
theorem operand_one {G : Nat} {E : Env} (hge : GE G E) {ts : Array Value} {fr : Frame} (rt : VRs E ts fr.tmps) {x : Operand} (hok : okOperand G x = true) : VR E (evalT ts x) (fr.eval x) := by
  cases x with
  | tmp t => exact rt.getD t
  | const v => exact flat_refl 4 hok
  | global g => exact .ptr (hge g (by simpa [okOperand, Nat.blt_eq] using hok))
  | func f => exact .func (.func f) rfl (fun i h => by simp at h) rfl (fun i h => by simp at h)
theorem opD_okOper {P : Program} {G : Nat} {orc : FuncId → Array Value → AH → Option (Option (Value × AH))} {rec : Run} {o : Oper} {ρ : Operand → Value} {h : AH} {x : Value × AH} (e : opD P G orc rec o ρ h = some x) : okOper G o = true := by
  unfold opD at e
  split at e
  · assumption
  · cases e
theorem GoodK {fr fr2 : Frame} {cs : List Frame} (hk : fr2.kind = fr.kind) (h : Good fr cs) : Good fr2 cs := by
  unfold Good at h ⊢
  rw [hk]; exact h
def Out (P : Program) (G : Nat) (w0 : W0) (E : Env) (fr' : Frame) (cs : List Frame) (w : World) (v : Value) (h' : AH) : Prop :=
  ∃ E' v' w', E.le E' ∧ VR E' v v' ∧ HR P w0 E' h' w' ∧ Ends P fr' cs w v' w'
section
variable {P : Program} {G : Nat} {orc : FuncId → Array Value → AH → Option (Option (Value × AH))} {rec : Run} {w0 : W0} {E : Env} {fr fr' : Frame} {cs : List Frame} {w : World} {h h' : AH} {v : Value}
theorem cont (hr : RunOk P G rec) {fr2 fr2' : Frame} {h2 : AH} (e : rec fr2 h2 = some (v, h')) {E2 : Env} {w2 : World} (le : E.le E2) (Gd : Good fr' cs) (hge : GE G E) (H2 : HR P w0 E2 h2 w2) (st : Steps P (lone fr' cs w) (lone fr2' cs w2))
    (F2 : FR E2 fr2 fr2') (hfn : fr2'.fn = fr'.fn) (hk : fr2'.kind = fr'.kind) (hro : fr2'.roundOf = fr'.roundOf) : Out P G w0 E fr' cs w v h' := by
  obtain ⟨E', v', w', le', rv, H', en⟩ := hr fr2 h2 v h' e w0 E2 w2 fr2' cs F2 (GoodK hk Gd) (hge.mono le) H2
  exact ⟨E', v', w', Env.le_trans le le', rv, H', en.of_steps st hfn hk hro⟩
theorem aleave_ok (hr : RunOk P G rec) (F : FR E fr fr') (hm : fr'.mode = .run) (Gd : Good fr' cs) (hge : GE G E) (H : HR P w0 E h w) {jump : Option Code} (hl : leaves fr' jump) (e : aleave P rec fr jump h = some (v, h')) : Out P G w0 E fr' cs w v h' := by
  unfold aleave at e
  have hro := F.ro
  split at e
  · rename_i hn
    rw [hn] at hro
    generalize hx : fr'.roundOf = x at hro
    cases hro
    have F2 : FR E { fr with mode := .returning } { fr' with mode := .returning } := ⟨F.fn, F.tmps, F.todo, F.defers, rfl, F.kind, F.ro⟩
    split at e
    · exact cont hr e E.le_refl Gd hge H (Steps.one' (step_leaveE hm hl hx)) F2 rfl rfl rfl
    · obtain ⟨k, hl⟩ := hl
      exact cont hr e E.le_refl Gd hge H (Steps.one' (step_leaveR hm hl hx)) F2 rfl rfl rfl
    · cases e
  · rename_i l hn
    rw [hn] at hro
    generalize hx : fr'.roundOf = x at hro
    cases hro with
    | @some _ l' el =>
      obtain ⟨E', v', w', le, rv, hrun, H'⟩ := sim_endRound (P := P) (w0 := w0) el jump h v h' e w H
      refine ⟨E', v', w', le, rv, H', ?_⟩
      unfold Ends
      rw [hx]
      intro c cs' hc hk
      subst hc
      exact Steps.one' (step_leaveRound hm hl hx hk hrun)
/-- A run that leaves the world as it is. -/
def quietS {α : Type} : Sem α → Prop
  | .pure _ => True
  | .load _ _ k => ∀ v, quietS (k v)
  | .program k => ∀ p, quietS (k p)
  | .mark _ k => quietS k
  | .halt _ => True
  | _ => False
theorem quiet_run {P : Program} {α : Type} : ∀ {s : Sem α}, quietS s → ∀ {w w' : World} {b : α}, s.run P w = .ok b w' → w' = w := by
  intro s
  induction s with
  | pure a => intro _ w w' b e; simp only [Sem.run, Result.ok.injEq] at e; exact e.2.symm
  | load m a k ih =>
    intro q w w' b e
    simp only [Sem.run] at e
    split at e
    · exact ih _ (q _) e
    · split at e
      · exact ih _ (q _) e
      · cases e
  | program k ih => intro q w w' b e; exact ih P (q P) e
  | mark m k ih => intro q w w' b e; exact ih q e
  | halt h => intro q w w' b e; cases e
  | _ => intro q; exact q.elim
theorem quiet_bind' {α β : Type} {f : α → Sem β} (hf : ∀ a, quietS (f a)) : ∀ (s : Sem α), quietS s → quietS (s.bind f) := by
  intro s
  induction s with
  | pure a => intro _; exact hf a
  | load m a k ih => intro q v; exact ih v (q v)
  | program k ih => intro q p; exact ih p (q p)
  | mark m k ih => intro q; exact ih q
  | halt h => intro q; trivial
  | _ => intro q; exact q.elim
theorem quiet_bind {α β : Type} {s : Sem α} {f : α → Sem β} (hs : quietS s) (hf : ∀ a, quietS (f a)) : quietS (s >>= f) := quiet_bind' hf s hs
theorem quiet_typeInfo (t : TypeId) : quietS (typeInfo t) := fun p => by
  show quietS (match p.info? t with | some i => _ | none => _)
  split <;> trivial
theorem quiet_underlying (t : TypeId) : quietS (underlying t) := fun p => by
  show quietS (match p.underlying t with | some i => _ | none => _)
  split <;> trivial
theorem quiet_loadCellsFrom (a : Addr) : ∀ (n i : Nat) (acc : Array Value), quietS (loadCellsFrom a i n acc)
  | 0, i, acc => trivial
  | n + 1, i, acc => quiet_bind (fun v => trivial) fun v => quiet_loadCellsFrom a n (i + 1) _
theorem quiet_loadVar (t : TypeId) (a : Addr) : quietS (loadVar t a) := by
  refine quiet_bind (quiet_bind (quiet_underlying t) fun d => ?_) fun b => ?_
  · cases d <;> trivial
  · cases b with
    | true => exact quiet_bind (quiet_bind (quiet_typeInfo t) fun _ => trivial) fun n => quiet_bind (quiet_loadCellsFrom a n 0 _) fun _ => trivial
    | false => exact fun v => trivial
theorem quiet_list {α β : Type} {f : α → Sem β} (hf : ∀ a, quietS (f a)) : ∀ l : List α, quietS (l.mapM f)
  | [] => by rw [List.mapM_nil]; trivial
  | a :: l => by
    rw [List.mapM_cons]
    exact quiet_bind (hf a) fun b => quiet_bind (quiet_list hf l) fun _ => trivial
def resultOf (ts : Array Value) : ResultVar → Sem Value
  | .tmp t => pure (ts.getD t undef)
  | .cell a t => do loadVar t (← asAddr (ts.getD a undef))
theorem results_eq (fn : Func) (ts : Array Value) : results fn ts = (fn.results.toList.mapM (resultOf ts) >>= fun vs => pure (if h : vs.toArray.size = 1 then vs.toArray[0] else .tuple vs.toArray)) := by
  have : results fn ts = (fn.results.mapM (resultOf ts) >>= fun vs => pure (if h : vs.size = 1 then vs[0] else .tuple vs)) := by
    unfold results
    congr 1
  rw [this, Array.mapM_eq_mapM_toList, map_eq_pure_bind, bind_assoc]
  congr 1
theorem quiet_results {P : Program} (fn : Func) (ts : Array Value) {w w' : World} {v : Value} (e : (results fn ts).run P w = .ok v w') : w' = w := by
  rw [results_eq] at e
  refine quiet_run ?_ e
  refine quiet_bind (quiet_list (fun r => ?_) _) (fun _ => trivial)
  cases r with
  | tmp t => trivial
  | cell a t =>
    refine quiet_bind ?_ fun a => quiet_loadVar t a
    unfold asAddr
    split
    · trivial
    · intro p; trivial
    · trivial
theorem sim_list {α : Type} {f g : α → Sem Value} : ∀ (l : List α) (E : Env), (∀ E', E.le E' → ∀ a, Sim P w0 E' VR (f a) (g a)) → Sim P w0 E VL (l.mapM f) (l.mapM g)
  | [], E, _ => by rw [List.mapM_nil, List.mapM_nil]; exact sim_pure .nil
  | a :: l, E, hf => by
    rw [List.mapM_cons, List.mapM_cons]
    exact sim_bind (hf E E.le_refl a) fun E1 le1 v v' rv => sim_bind (sim_list l E1 fun E2 le2 a => hf E2 (Env.le_trans le1 le2) a) fun E2 le2 vs vs' rvs => sim_pure (.cons (rv.mono le2) rvs)
theorem sim_results (fn : Func) {ts ts' : Array Value} (rt : VRs E ts ts') : Sim P w0 E VR (results fn ts) (results fn ts') := by
  rw [results_eq, results_eq]
  refine sim_bind (sim_list _ E fun E' le r => ?_) fun E' le vs vs' rv => ?_
  · cases r with
    | tmp t => exact sim_pure ((rt.mono le).getD t)
    | cell a t => exact sim_bind (sim_asAddr ((rt.mono le).getD a)) fun E2 le2 a a' ra => sim_loadVar t ra
  · have hs : VRs E' vs.toArray vs'.toArray := ⟨by simpa using rv.length.symm, fun i hi => by
      have := rv.get i (by simpa using hi) (by have := rv.length; simp at hi ⊢; omega)
      simpa using this⟩
    have h1 := hs.1
    by_cases h : vs.toArray.size = 1
    · have h' : vs'.toArray.size = 1 := by rw [← h1]; exact h
      rw [dif_pos h, dif_pos h']
      exact sim_pure (hs.2 0 (by omega))
    · have h' : ¬ vs'.toArray.size = 1 := by rw [← h1]; exact h
      rw [dif_neg h, dif_neg h']
      exact sim_pure (VR.tuple' hs)
theorem aback_ok (hr : RunOk P G rec) (F : FR E fr fr') (hm : fr.mode = .returning) (Gd : Good fr' cs) (hge : GE G E) (H : HR P w0 E h w) (hrd : fr.roundOf = none) (e : aback P rec fr h = some (v, h')) : Out P G w0 E fr' cs w v h' := by
  have hm' : fr'.mode = .returning := by rw [F.mode, hm]
  have Fd := F.defers
  unfold aback at e
  split at e
  · rename_i hd
    rw [hd] at Fd
    generalize hx : fr'.defers = x at Fd
    cases Fd
    split at e
    · rename_i fn hfn
      split at e
      · rename_i v1 hv
        cases e
        unfold aresults at hv
        obtain ⟨E', v', w', le, rv, hrun, H'⟩ := sim_results (P := P) (w0 := w0) fn F.tmps h v h (rrun_arun hv) w H
        have := quiet_results fn fr'.tmps hrun
        subst this
        refine ⟨E', v', w', le, rv, H', ?_⟩
        unfold Ends
        have hro := F.ro
        rw [hrd] at hro
        generalize hy : fr'.roundOf = y at hro
        cases hro
        exact ⟨fr', Steps.refl _ _, rfl, hm', hx, rfl, fn, by rw [F.fn]; exact hfn, hrun⟩
      · cases e
    · cases e
  · rename_i d ds hd
    rw [hd] at Fd
    generalize hx : fr'.defers = x at Fd
    cases Fd with
    | @cons _ d' _ ds' rd rds =>
      split at e
      · rename_i b ht
        obtain ⟨tg, args⟩ := d
        obtain ⟨tg', args'⟩ := d'
        simp only at ht
        subst ht
        obtain ⟨rt, ra⟩ := rd
        simp only at rt
        cases rt with
        | @collected _ b' eb =>
          split at e
          · rename_i calls h2 hc
            obtain ⟨E2, calls', w2, le, rc, hrun, H2⟩ := sim_takeDeferred (P := P) (w0 := w0) eb h calls h2 hc w H
            exact cont hr e le Gd hge H2 (Steps.one' (step_collected hm' hx hrun)) ⟨F.fn, F.tmps.mono le, F.todo.mono le, DefsR.append rc (rds.mono le), F.mode, F.kind, F.ro.mono le⟩ rfl rfl rfl
          · cases e
      · rename_i g captured ht
        obtain ⟨tg, args⟩ := d
        obtain ⟨tg', args'⟩ := d'
        simp only at ht
        subst ht
        obtain ⟨rt, ra⟩ := rd
        simp only at rt ra
        split at e
        · rename_i hb
          cases rt with
          | @fn _ f' _ cap' rf rcap =>
            cases rf
            split at e
            · rename_i v1 h2 hc
              obtain ⟨E2, v2, w2, le, rv, H2, en⟩ := hr _ h v1 h2 hc w0 E w (Frame.enter P g (args' ++ cap') .deferred) ({ fr' with defers := ds' } :: cs) (FR.enter (ra.append rcap) .deferred) (.inr ⟨rfl, _, _, rfl, hm'⟩) hge H
              exact cont hr e le Gd hge H2 (Steps.trans (Steps.one' (step_deferred hb hm' hx)) (en.backD rfl rfl hm')) ⟨F.fn, F.tmps.mono le, F.todo.mono le, rds.mono le, F.mode, F.kind, F.ro.mono le⟩ rfl rfl rfl
            · cases e
        · cases e
      · cases e
end
end Go.Ab
