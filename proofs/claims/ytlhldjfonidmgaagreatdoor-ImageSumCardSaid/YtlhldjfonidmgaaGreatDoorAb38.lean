/- The quick executor is sound: what it says of a run, the plain one says. -/
import Derived.Test.YtlhldjfonidmgaaGreatDoorAb37
import Derived.Test.YtlhldjfonidmgaaGreatDoorAbZ
namespace Go.Ab
set_option linter.unusedSimpArgs false
set_option linter.unusedVariables false
section
variable {P : Program} {G : Nat} {rec : K2} {run : Run}
theorem kleave_ok (hr : KOk P rec run) {jump : Option Code} {C : FC} {ds : List Deferred} {ts : TT} {h : AH} {x : Value × AH} {a : Array Value} (todo : List Item) (e : kleave P rec jump C ds ts h = some x) (r : TR C.sz ts a) :
    aleave P run ⟨C.f, a, todo, ds, .run, C.kind, C.ro⟩ jump h = some x := by
  unfold kleave at e
  unfold aleave
  cases hro : C.ro with
  | none =>
    rw [hro] at e
    simp only
    cases jump with
    | none =>
      have := hr.b e hro a todo r
      rw [hro] at this
      exact this
    | some c =>
      simp only at e ⊢
      cases c <;> first | (cases e; done) | skip
      have := hr.b e hro a todo r
      rw [hro] at this
      exact this
  | some l =>
    rw [hro] at e
    exact e
theorem kresults_ok {ts : TT} {h : AH} {a : Array Value} {sz : Nat} (r : TR sz ts a) : ∀ (l : List ResultVar) (vs : List Value), (kresults P l).run ts h = some vs → rrun P (l.mapM (resultOf a)) h = some vs
  | [], vs, e => by
    cases e
    rfl
  | .tmp t :: l, vs, e => by
    obtain ⟨us, h1, e⟩ := ob_eq e
    cases e
    rw [List.mapM_cons, rrun_bind]
    have : rrun P (resultOf a (.tmp t)) h = some ((tget 12 t).run ts) := by
      rw [r.get]
      rfl
    rw [this, Option.bind_some, rrun_bind, kresults_ok r l us h1]
    rfl
  | .cell t ty :: l, vs, e => by
    obtain ⟨v, h0, e⟩ := ob_eq e
    obtain ⟨us, h1, e⟩ := ob_eq e
    cases e
    rw [List.mapM_cons, rrun_bind]
    have : rrun P (resultOf a (.cell t ty)) h = some v := by
      obtain ⟨ad, h2, h3⟩ := kload_var h0
      rw [r.eval] at h2
      show rrun P (asAddr (a.getD t undef) >>= fun x => loadVar ty x) h = _
      have h2 : a.getD t undef = .pointer (some ad) := h2
      rw [h2]
      exact h3
    rw [this, Option.bind_some, rrun_bind, kresults_ok r l us h1]
    rfl
theorem kres_ok {f : FuncId} {ts : TT} {h : AH} {a : Array Value} {sz : Nat} {v : Value} (r : TR sz ts a) (e : (kres P f).run ts h = some v) : ∃ fn, P.funcs[f]? = some fn ∧ aresults P fn a h = some v := by
  unfold kres at e
  rw [lget_eq, Array.getElem?_toList] at e
  split at e
  · rename_i fn hf
    refine ⟨fn, hf, ?_⟩
    unfold aresults
    rw [results_eq, rrun_bind]
    split at e
    · rename_i t hl
      cases e
      rw [hl]
      have : rrun P ([ResultVar.tmp t].mapM (resultOf a)) h = some [(tget 12 t).run ts] := by
        rw [r.get]
        rfl
      rw [this]
      rfl
    · rename_i t ty hl
      rw [hl]
      have : rrun P ([ResultVar.cell t ty].mapM (resultOf a)) h = some [v] := by
        have := kresults_ok (P := P) (h := h) r [.cell t ty] [v] (by
          show (ob ((kload P ty (.tmp t)).run ts h) fun v => ob (some []) fun l => some (v :: l)) = some [v]
          rw [e]
          rfl)
        exact this
      rw [this]
      rfl
    · rename_i l hn1 hn2
      obtain ⟨vs, h1, e⟩ := ob_eq e
      cases e
      have hm := kresults_ok r _ _ h1
      rw [hm, Option.bind_some]
      have hlen : fn.results.toList.length = vs.length := by
        have key : ∀ (l : List ResultVar) (vs : List Value), (kresults P l).run ts h = some vs → l.length = vs.length := by
          intro l
          induction l with
          | nil => intro vs e; cases e; rfl
          | cons x l ih =>
            intro vs e
            cases x with
            | tmp t =>
              obtain ⟨us, h1, e⟩ := ob_eq e
              cases e
              simp [ih us h1]
            | cell t ty =>
              obtain ⟨v, h0, e⟩ := ob_eq e
              obtain ⟨us, h1, e⟩ := ob_eq e
              cases e
              simp [ih us h1]
        exact key _ _ h1
      have hne : vs.length ≠ 1 := fun hc => by
        rw [hc] at hlen
        cases hl : fn.results.toList with
        | nil => rw [hl] at hlen; simp at hlen
        | cons x l =>
          rw [hl] at hlen
          have : l = [] := by simpa using hlen
          subst this
          cases x with
          | tmp t => exact hn1 t hl
          | cell t ty => exact hn2 t ty hl
      rw [dif_neg (by simpa using hne)]
      rfl
  · cases e
theorem kback_ok (hr : KOk P rec run) {C : FC} {ds : List Deferred} {ts : TT} {h : AH} {x : Value × AH} {a : Array Value} (todo : List Item) (e : kback P rec C ds ts h = some x) (hro : C.ro = none) (r : TR C.sz ts a) :
    astep P G noOrc run ⟨C.f, a, todo, ds, .returning, C.kind, C.ro⟩ h = some x := by
  unfold astep
  simp only [hro, Option.isNone_none, if_true]
  unfold aback
  unfold kback at e
  cases ds with
  | nil =>
    obtain ⟨v, h1, e⟩ := ob_eq e
    cases e
    obtain ⟨fn, hf, h2⟩ := kres_ok r h1
    simp only [hf, h2]
  | cons d ds =>
    simp only at e ⊢
    split at e
    · rename_i b hb
      obtain ⟨⟨calls, h'⟩, h1, e⟩ := ob_eq e
      simp only [hb, h1]
      have := hr.b e hro a todo r
      rw [hro] at this
      exact this
    · rename_i g captured hb
      obtain ⟨hbd, e⟩ := ci_eq e
      obtain ⟨⟨v, h'⟩, h1, e⟩ := ob_eq e
      have h2 := kenter_ok hr (by simp) h1
      have ee : (⟨d.args.toList ++ captured.toList⟩ : Array Value) = d.args ++ captured := by
        apply Array.toList_inj.1
        simp
      rw [ee] at h2
      simp only [hb, kbodied_eq hbd, if_true, h2]
      have := hr.b e hro a todo r
      rw [hro] at this
      exact this
    · cases e
theorem koper_ok (hr : KOk P rec run) {ops : Array Oper} {i : Nat} {l : List Nat} {o : Oper} (ho : ops[i]? = some o) {C : FC} {ds : List Deferred} {k : List Item} {ts : TT} {h : AH} {x : Value × AH} {a : Array Value} (r : TR C.sz ts a)
    (e : (kopG P G ops l o).run rec C ds k ts h = some x) : astep P G noOrc run ⟨C.f, a, .inRegion ops (i :: l) :: k, ds, .run, C.kind, C.ro⟩ h = some x := by
  unfold astep
  simp only [ho]
  have hd : ∀ d, o.dst = some d → d < C.sz := by
    unfold kopG at e
    simp only at e
    split at e
    · obtain ⟨h1, _⟩ := ci_eq e
      exact dst_of h1
    · obtain ⟨h1, _⟩ := ci_eq e
      exact dst_of h1
  have nxt : ∀ {v : Value} {h' : AH} {ds' : List Deferred}, rec.k C ds' (.inRegion ops l :: k) ((kput o).run ts v) h' = some x → run ⟨C.f, putT a o.dst v, .inRegion ops l :: k, ds', .run, C.kind, C.ro⟩ h' = some x := fun e => hr.k e _ (r.put hd _)
  have goD : opD P G noOrc run o (evalT a) h = opD P G noOrc run o (kvalF ts) h := by rw [r.eval]
  -- the operation itself
  have oper : (koper P G ops l o).run rec C ds k ts h = some x → (∀ c, o.op = .call c → c.callee ≠ .builtin .recover) →
      (match o.op with
          | .defer _ => match C.ro, okOper G o, aop P o (evalT a) h with
            | none, true, some (.defer d, h') => run { fn := C.f, todo := .inRegion ops l :: k, tmps := putT a o.dst undef, defers := d :: ds, mode := .run, kind := C.kind, roundOf := C.ro } h'
            | _, _, _ => none
          | .call c => match c.callee with
            | .builtin .recover => match C.ro with
              | none => run { fn := C.f, todo := .inRegion ops l :: k, tmps := putT a o.dst .nilIface, defers := ds, mode := .run, kind := C.kind, roundOf := C.ro } h
              | some _ => none
            | _ => match opD P G noOrc run o (evalT a) h with
              | some (v, h') => run { fn := C.f, todo := .inRegion ops l :: k, tmps := putT a o.dst v, defers := ds, mode := .run, kind := C.kind, roundOf := C.ro } h'
              | none => none
          | _ => match opD P G noOrc run o (evalT a) h with
            | some (v, h') => run { fn := C.f, todo := .inRegion ops l :: k, tmps := putT a o.dst v, defers := ds, mode := .run, kind := C.kind, roundOf := C.ro } h'
            | none => none) = some x := fun e hnr => by
    unfold koper at e
    cases hok : okOper G o with
    | false => rw [hok] at e; cases e
    | true =>
      rw [hok, ci_true] at e
      have plain : (∀ c, o.op ≠ .defer c) → (match classOf P o with
          | .read => (⟨fun rec C ds k ts h => ob ((kread P o).run ts h) fun v => rec.k C ds (.inRegion ops l :: k) ((kput o).run ts v) h⟩ : KStep)
          | _ => ⟨fun rec C ds k ts h => ob ((kchain P o).run rec ts h) fun x => rec.k C ds (.inRegion ops l :: k) ((kput o).run ts x.1) x.2⟩).run rec C ds k ts h = some x →
          ∃ v h', opD P G noOrc run o (evalT a) h = some (v, h') ∧ run ⟨C.f, putT a o.dst v, .inRegion ops l :: k, ds, .run, C.kind, C.ro⟩ h' = some x := fun hnd e => by
        have chain : (ob ((kchain P o).run rec ts h) fun x => rec.k C ds (.inRegion ops l :: k) ((kput o).run ts x.1) x.2) = some x → ∃ v h', opD P G noOrc run o (evalT a) h = some (v, h') ∧ run ⟨C.f, putT a o.dst v, .inRegion ops l :: k, ds, .run, C.kind, C.ro⟩ h' = some x := fun e => by
          obtain ⟨⟨v, h'⟩, h1, e⟩ := ob_eq e
          exact ⟨v, h', by rw [goD]; exact kchain_ok hr hok h1, nxt e⟩
        split at e
        · obtain ⟨v, h1, e⟩ := ob_eq e
          refine ⟨v, h, ?_, nxt e⟩
          rw [goD]
          exact opD_of hr hok (aread_aop (kread_ok h1)) rfl
        · exact chain e
      split at e
      · rename_i c hop
        simp only [hop]
        obtain ⟨hro, e⟩ := oN_eq e
        obtain ⟨⟨n, h'⟩, h1, e⟩ := ob_eq e
        simp only at e
        split at e
        · rename_i d
          rw [r.eval] at h1
          simp only [hro, h1]
          have := nxt e
          rw [hro] at this
          exact this
        · cases e
      · rename_i hnd
        obtain ⟨v, h', h1, h2⟩ := plain (fun c hc => hnd c hc) e
        split
        · rename_i c hc
          exact absurd hc (hnd c)
        · rename_i c hc
          split
          · rename_i hcr
            exact absurd hcr (hnr c hc)
          · rw [h1]
            exact h2
        · rw [h1]
          exact h2
  have body : (match o.op with
    | .call c => match c.callee with
      | .builtin .recover => (⟨fun rec C ds k ts h => oN C.ro (rec.k C ds (.inRegion ops l :: k) ((kput o).run ts .nilIface) h)⟩ : KStep)
      | _ => koper P G ops l o
    | _ => koper P G ops l o).run rec C ds k ts h = some x →
      (match o.op with
          | .defer _ => match C.ro, okOper G o, aop P o (evalT a) h with
            | none, true, some (.defer d, h') => run { fn := C.f, todo := .inRegion ops l :: k, tmps := putT a o.dst undef, defers := d :: ds, mode := .run, kind := C.kind, roundOf := C.ro } h'
            | _, _, _ => none
          | .call c => match c.callee with
            | .builtin .recover => match C.ro with
              | none => run { fn := C.f, todo := .inRegion ops l :: k, tmps := putT a o.dst .nilIface, defers := ds, mode := .run, kind := C.kind, roundOf := C.ro } h
              | some _ => none
            | _ => match opD P G noOrc run o (evalT a) h with
              | some (v, h') => run { fn := C.f, todo := .inRegion ops l :: k, tmps := putT a o.dst v, defers := ds, mode := .run, kind := C.kind, roundOf := C.ro } h'
              | none => none
          | _ => match opD P G noOrc run o (evalT a) h with
            | some (v, h') => run { fn := C.f, todo := .inRegion ops l :: k, tmps := putT a o.dst v, defers := ds, mode := .run, kind := C.kind, roundOf := C.ro } h'
            | none => none) = some x := fun e => by
    split at e
    · rename_i c hop
      split at e
      · rename_i hc
        obtain ⟨hro, e⟩ := oN_eq e
        simp only [hop, hc, hro]
        have := nxt e
        rw [hro] at this
        exact this
      · rename_i hc
        exact oper e (fun c' hc' => by rw [hop] at hc'; cases hc'; exact hc)
    · rename_i hop
      exact oper e (fun c' hc' => absurd hc' (hop c'))
  unfold kopG at e
  simp only at e
  split at e
  · rename_i hg
    obtain ⟨_, e⟩ := ci_eq e
    have hw : Region.wanted o (yielded ops a) = true := by unfold Region.wanted; rw [hg]
    rw [if_pos hw]
    exact body e
  · rename_i g hg
    obtain ⟨_, e⟩ := ci_eq e
    rw [kwant_eq r] at e
    cases hw : Region.wanted o (yielded ops a) with
    | true =>
      rw [hw, ci_true] at e
      rw [if_pos rfl]
      exact body e
    | false =>
      rw [hw, ci_false] at e
      rw [if_neg (by simp)]
      exact nxt e
theorem kstep_ok (hr : KOk P rec run) {C : FC} {ds : List Deferred} {todo : List Item} {ts : TT} {h : AH} {x : Value × AH} (e : kstep P G rec C ds todo ts h = some x) (a : Array Value) (r : TR C.sz ts a) :
    astep P G noOrc run ⟨C.f, a, todo, ds, .run, C.kind, C.ro⟩ h = some x := by
  cases todo with
  | nil =>
    unfold astep
    exact kleave_ok hr [] e r
  | cons it k =>
    replace e : (kitem P G it).run rec C ds k ts h = some x := e
    have jmp : ∀ {k' : List Item}, rec.k C ds k' ts h = some x → run ⟨C.f, a, k', ds, .run, C.kind, C.ro⟩ h = some x := fun e => hr.k e a r
    unfold kitem at e
    split at e
    · rename_i c
      unfold kcode at e
      split at e
      · unfold astep
        exact kleave_ok hr _ e r
      · unfold astep
        exact jmp e
      · unfold astep
        exact jmp e
      · unfold astep
        exact jmp e
      · rename_i c p q
        unfold astep
        simp only
        cases hok : okOperand G c with
        | false => rw [hok] at e; cases e
        | true =>
          rw [hok, ci_true] at e
          obtain ⟨t, h1, e⟩ := ob_eq e
          have h1 : kvalF ts c = .bool t := vBool_eq h1
          rw [r.eval] at h1
          simp only [h1]
          cases t with
          | true => exact jmp e
          | false => exact jmp e
      · unfold astep
        exact jmp e
      · unfold astep
        exact jmp e
      · unfold astep
        exact jmp e
      · rename_i id
        unfold astep
        simp only
        dsimp only at e
        cases he : exitTo id k with
        | none =>
          rw [he] at e
          exact kleave_ok hr _ e r
        | some k' =>
          rw [he] at e
          exact jmp e
      · rename_i id
        unfold astep
        simp only
        dsimp only at e
        cases he : gotoIn id k with
        | none =>
          rw [he] at e
          exact kleave_ok hr _ e r
        | some k' =>
          rw [he] at e
          exact jmp e
      · rename_i id ops draw
        unfold astep
        simp only
        cases draw with
        | true =>
          rw [ci_true] at e
          obtain ⟨⟨te, h'⟩, h1, e⟩ := ob_eq e
          obtain ⟨ta, h2, h3⟩ := kregion_ok hr h1 r
          simp only [if_true, h2]
          exact hr.k e ta h3
        | false =>
          rw [ci_false] at e
          exact jmp e
      · rename_i g ps p q
        unfold astep
        simp only
        cases hok : okOperand G g with
        | false => rw [hok] at e; cases e
        | true =>
          rw [hok, ci_true] at e
          obtain ⟨⟨⟨l, mark⟩, h'⟩, h1, e⟩ := ob_eq e
          rw [r.arr] at h1
          obtain ⟨v, h2, e⟩ := ob_eq e
          have h2 : kvalF ts g = .func (.func v.f) v.p v.q := vFn_eq h2
          rw [r.eval] at h2
          obtain ⟨hb, e⟩ := ci_eq e
          obtain ⟨⟨y, h3⟩, h4, e⟩ := ob_eq e
          have h5 := kenter_ok hr (by simp) h4
          have ee : (⟨v.p.toList ++ (.func (.yield l) #[] #[] :: v.q.toList)⟩ : Array Value) = (v.p ++ #[.func (.yield l) #[] #[]]) ++ v.q := by
            apply Array.toList_inj.1
            simp
          rw [ee] at h5
          simp only [h1, h2, kbodied_eq hb, if_true, h5]
          exact hr.k e a r
      · cases e
    · unfold astep
      exact jmp e
    · unfold astep
      exact jmp e
    · unfold astep
      exact jmp e
    · rename_i ops l
      split at e
      · unfold astep
        exact jmp e
      · rename_i i l
        split at e
        · rename_i o ho
          exact koper_ok hr ho r e
        · cases e
    · obtain ⟨l, h1, e⟩ := ob_eq e
      obtain ⟨⟨u, h'⟩, h2, e⟩ := ob_eq e
      unfold astep
      simp only [h1, h2]
      have := hr.k e a r
      rw [h1] at this
      exact this
    · rename_i l
      obtain ⟨⟨j, h'⟩, h2, e⟩ := ob_eq e
      unfold astep
      simp only [h2]
      cases j with
      | none => exact hr.k e a r
      | some c => exact hr.k e a r
    · cases e
theorem krun_ok : ∀ n, KOk P (krun P G n) (afr P G noOrc n)
  | 0 => ⟨(fun e => by cases e), (fun e => by cases e)⟩
  | n + 1 => ⟨fun e a r => kstep_ok (krun_ok n) e a r, fun e hro a todo r => kback_ok (krun_ok n) todo e hro r⟩
end
theorem kruns_runs {P : Program} {f n : Nat} (h : kruns P f n = true) : runs P f n = true := by
  unfold kruns kTrue at h
  cases hf : kfunc P n f ⟨.leaf, 0, 0⟩ with
  | none => rw [hf] at h; cases h
  | some x =>
    rw [hf] at h
    replace h : @Option.rec Bool (fun _ => Bool) false (fun b => b) (vBool x.1) = true := h
    cases hv : vBool x.1 with
    | none => rw [hv] at h; cases h
    | some b =>
      rw [hv] at h
      have hb : b = true := h
      subst hb
      obtain ⟨v, h'⟩ := x
      have hv : v = .bool true := vBool_eq hv
      subst hv
      have := kenter_ok (krun_ok (G := 0) n) (as := []) rfl hf
      unfold runs
      rw [show (Frame.enter P f #[] .normal) = Frame.enter P f ⟨[]⟩ .normal from rfl, show h00 = ⟨.leaf, 0, 0⟩ from rfl, this]
      rfl
theorem kruns_calls {P : Program} (hz : zerosOk P = true) (hm : P.follows .mixedOrders = true) {f n : Nat} (h : kruns P f n = true) (w : World) : Calls P f #[] w fun e w' => e = .returned (.bool true) ∧ Grew w w' :=
  runs_calls hz hm (kruns_runs h) w
end Go.Ab
