/- One operation: what the abstract one says of it. -/
import Derived.Test.YtlhldjfonidmgaaGreatDoorAb12
namespace Go.Ab
set_option linter.unusedSimpArgs false
set_option linter.unusedVariables false
set_option linter.unusedSectionVars false
section
variable {P : Program} {w0 : W0} {E : Env} {h : AH} {w : World}
theorem ov_map {ρ ρ' : Operand → Value} (x : Option Operand) (hx : ∀ y ∈ x.toArray, VR E (ρ y) (ρ' y)) : OV E (x.map ρ) (x.map ρ') := by
  cases x with
  | none => exact .none
  | some y => exact .some (hx y (by simp))
theorem sim_makeMap (t : TypeId) {r r' : Option Value} (hr : OV E r r') : Sim P w0 E VR (Instr.makeMap t r) (Instr.makeMap t r') := by
  have fin : ∀ E', Sim P w0 E' VR (do pure (.map (some (← newObj (.map #[] 0))))) (do pure (.map (some (← newObj (.map #[] 0))))) := fun E' =>
    sim_bind (sim_newObj (.map (by simp))) fun E2 le2 a b e => sim_pure (.map e)
  cases hr with
  | none => exact fin E
  | some hr =>
    refine sim_bind (sim_underlying t) fun E1 le1 d d' e => ?_
    obtain ⟨rfl, _⟩ := e
    cases d with
    | map k v => exact sim_bind (sim_asInt (hr.mono le1)) fun E2 le2 a b e => fin E2
    | _ => exact sim_none fun _ => rfl
theorem parts_rel {ρ ρ' : Operand → Value} (parts : Array (Nat × Operand)) (hx : ∀ y ∈ (parts.toList.map (·.2)).toArray, VR E (ρ y) (ρ' y)) :
    PL E (parts.map fun (i, x) => (i, ρ x)).toList (parts.map fun (i, x) => (i, ρ' x)).toList := by
  rw [Array.toList_map, Array.toList_map]
  exact PL.map parts.toList (·.1) (fun x => ρ x.2) (fun x => ρ' x.2) fun x hxm => hx x.2 (by simp only [List.mem_toArray, List.mem_map]; exact ⟨x, hxm, rfl⟩)
theorem zip_fold {E : Env} (ps : Array Tmp) : ∀ {as as' ts ts' : Array Value}, VRs E as as' → VRs E ts ts' →
    VRs E ((ps.zip as).foldl (fun tmps (t, a) => tmps.setIfInBounds t a) ts) ((ps.zip as').foldl (fun tmps (t, a) => tmps.setIfInBounds t a) ts') := by
  intro as as' ts ts' ha ht
  have gen : ∀ (ps : List Tmp) (l l' : List Value) (ts ts' : Array Value), VL E l l' → VRs E ts ts' →
      VRs E ((ps.zip l).foldl (fun (tmps : Array Value) (x : Tmp × Value) => tmps.setIfInBounds x.1 x.2) ts) ((ps.zip l').foldl (fun (tmps : Array Value) (x : Tmp × Value) => tmps.setIfInBounds x.1 x.2) ts') := by
    intro ps
    induction ps with
    | nil => intro l l' ts ts' h r; exact r
    | cons p ps ih =>
      intro l l' ts ts' h r
      cases h with
      | nil => exact r
      | cons hv h => exact ih _ _ _ _ h (r.set hv _)
  have := gen ps.toList as.toList as'.toList ts ts' ha.list ht
  rw [← Array.foldl_toList, ← Array.foldl_toList, Array.toList_zip, Array.toList_zip]
  exact this
theorem bodied_of {g : FuncId} (hb : bodied P g = true) : ∃ fn, P.funcs[g]? = some fn ∧ fn.body.isSome = true ∧ (fn.name == "runtime.NumGoroutine") = false := by
  unfold bodied at hb
  split at hb
  · rename_i fn hf
    simp only [Bool.and_eq_true, Bool.not_eq_true'] at hb
    exact ⟨fn, hf, hb.1, hb.2⟩
  · cases hb
theorem run_callFunc {g : FuncId} (hb : bodied P g = true) (as : Array Value) (w : World) : (callFunc g as).run P w = .ok (.enter g as) w := by
  obtain ⟨fn, hf, h1, h2⟩ := bodied_of hb
  have h3 : ¬ fn.body = none := fun hq => by rw [hq] at h1; cases h1
  have h4 : ¬ fn.name = "runtime.NumGoroutine" := by simpa using h2
  simp [callFunc, hf, h3, h4]
theorem aCall_ok (H : HR P w0 E h w) {o : Oper} {c : Call} (hop : o.op = .call c) {ρ ρ' : Operand → Value} (hρ : ∀ x ∈ o.op.operands, VR E (ρ x) (ρ' x)) {n : Next} {h' : AH} (eq : aCall P o c ρ h = some (n, h')) :
    OpOk P w0 E w (execOp ρ' o) n h' := by
  have hns : noSelect o.op = true := by rw [hop]; rfl
  have hflat := fun eq => aFlat_ok (n := n) (h' := h') H hns hρ eq
  rw [hop] at hρ
  have hargs : VRs E (c.args.map ρ) (c.args.map ρ') := VRs.map _ _ _ fun x hx => hρ x (by simp only [Op.operands, Call.operands]; exact Array.mem_append.2 (.inr hx))
  unfold aCall at eq
  split at eq
  · rename_i hc
    have hx : ∀ ρ, execOp ρ o = (do pure (.value (← Builtin.len_ c.argTypes o.type (c.args.map ρ)))) := fun ρ => by simp [execOp, hop, resolve, hc, invoke, builtin]
    rw [hx] at eq ⊢
    exact OpOk.of_sim (sim_v (sim_len _ _ hargs)) H eq
  · rename_i hc
    have hx : ∀ ρ, execOp ρ o = (do pure (.value (← Builtin.copy_ c.argTypes o.type (c.args.map ρ)))) := fun ρ => by simp [execOp, hop, resolve, hc, invoke, builtin]
    rw [hx] at eq ⊢
    exact OpOk.of_sim (sim_v (sim_copy _ _ hargs)) H eq
  · rename_i hc
    split at eq
    · rename_i s x t tx h1 h2
      simp only [Option.map_eq_some_iff] at eq
      obtain ⟨⟨v, h1'⟩, ha, he⟩ := eq
      cases he
      have e1 : c.args = #[s, x] := by rw [← Array.toList_inj]; exact h1
      have e2 : c.argTypes = #[t, tx] := by rw [← Array.toList_inj]; exact h2
      have rs : VR E (ρ s) (ρ' s) := hρ s (by simp [Op.operands, Call.operands, hc, e1])
      have rx : VR E (ρ x) (ρ' x) := hρ x (by simp [Op.operands, Call.operands, hc, e1])
      obtain ⟨E', v', w', le, rv, hr, H'⟩ : ∃ E' v' w', E.le E' ∧ VR E' v v' ∧ (Builtin.append_ #[t, tx] o.type #[ρ' s, ρ' x]).run P w = .ok v' w' ∧ HR P w0 E' h1' w' := by
        rcases Option.or_eq_some_iff.1 ha with ha | ⟨_, ha⟩
        · exact aAppend_run H rs rx ha o.type
        · exact aAppendZ_run H rs rx ha o.type
      refine ⟨E', .value v', w', le, .value rv, ?_, H'⟩
      have hx : execOp ρ' o = (do pure (.value (← Builtin.append_ #[t, tx] o.type #[ρ' s, ρ' x]))) := by simp [execOp, hop, resolve, hc, invoke, builtin, e1, e2]
      rw [hx, Sem.run_bind, hr]
      rfl
    · cases eq
  · rename_i hc
    cases eq
    exact ⟨E, .recover, w, E.le_refl, .recover, by simp [execOp, hop, resolve, hc, invoke, builtin], H⟩
  · rename_i f hc
    have rf : VR E (ρ f) (ρ' f) := hρ f (by simp [Op.operands, Call.operands, hc])
    split at eq
    · rename_i g first captured hv
      split at eq
      · rename_i hb
        cases eq
        rw [hv] at rf
        generalize hv' : ρ' f = y at rf
        cases rf with
        | @func _ fn' _ first' _ captured' hfn h1 g1 h2 g2 =>
          cases hfn
          refine ⟨E, .enter g ((first' ++ c.args.map ρ') ++ captured'), w, E.le_refl, .enter (VRs.append (VRs.append ⟨h1, g1⟩ hargs) ⟨h2, g2⟩), ?_, H⟩
          simp only [execOp, hop, resolve, hc, hv', Deferred.ofValue, pure_bind, invoke]
          exact run_callFunc hb _ w
      · split at eq
        · rename_i hne
          simp only [Bool.and_eq_true, Array.isEmpty_iff] at hne
          obtain ⟨⟨hne, rfl⟩, rfl⟩ := hne
          split at eq
          · rename_i x hxs
            cases eq
            have e1 : c.args = #[x] := by rw [← Array.toList_inj]; exact hxs
            have rx : VR E (ρ x) (ρ' x) := hρ x (by simp [Op.operands, Call.operands, hc, e1])
            rw [hv] at rf
            generalize hv' : ρ' f = y at rf
            cases rf with
            | @func _ fn' _ first' _ captured' hfn h1 g1 h2 g2 =>
              cases hfn
              have e2 : first' = #[] := by simpa using h1.symm
              have e3 : captured' = #[] := by simpa using h2.symm
              subst e2 e3
              refine ⟨E, .value (ρ' x), w, E.le_refl, .value rx, ?_, H⟩
              have := run_noEsc hne (ρ' x) w
              simp [execOp, hop, resolve, hc, hv', Deferred.ofValue, invoke, e1, this]
          · cases eq
        · cases eq
    · rename_i l first captured hv
      split at eq
      · rename_i hemp
        simp only [Bool.and_eq_true, Array.isEmpty_iff] at hemp
        obtain ⟨rfl, rfl⟩ := hemp
        split at eq
        · rename_i L fl hg
          split at eq
          · rename_i hsz
            cases eq
            rw [hv] at rf
            generalize hv' : ρ' f = y at rf
            cases rf with
            | @func _ fn' _ first' _ captured' hfn h1 g1 h2 g2 =>
              cases hfn with
              | @yield _ l' el =>
                have e1 : first' = #[] := by simpa using h1.symm
                have e2 : captured' = #[] := by simpa using h2.symm
                subst e1 e2
                obtain ⟨b, op, o', e3, ef, hw, ro⟩ := H.blk l _ _ hg el
                rw [el] at e3
                cases e3
                cases ro with
                | @loop _ L' rL =>
                  refine ⟨E, .round l' L'.fn ((L'.params.zip (c.args.map ρ')).foldl (fun tmps (t, a) => tmps.setIfInBounds t a) L'.tmps) L'.assign L'.body, w, E.le_refl, ?_, ?_, H⟩
                  · rw [rL.fn, rL.params, rL.assign, rL.body]
                    exact .round el (zip_fold _ hargs rL.tmps)
                  · simp only [execOp, hop, resolve, hc, hv', Deferred.ofValue, pure_bind, invoke, Array.empty_append]
                    have hgo : (getObj l').run P w = .ok (.loop L') w := run_getObj hw (fun _ _ _ e => by cases e)
                    have hgl : (Instr.getLoop l').run P w = .ok L' w := by simp [Instr.getLoop, hgo]
                    have hs' : (c.args.map ρ').size = L'.params.size := by rw [← hargs.size, hsz, rL.params]
                    unfold Instr.yield
                    rw [Sem.run_bind, hgl, Result.andThen_ok]
                    rw [if_neg (by rw [hs']; simp)]
                    rfl
          · cases eq
        · cases eq
      · cases eq
    · cases eq
  · rename_i hc
    split at eq
    · rename_i x hxs
      have e1 : c.args = #[x] := by rw [← Array.toList_inj]; exact hxs
      have rx : VR E (ρ x) (ρ' x) := hρ x (by simp [Op.operands, Call.operands, hc, e1])
      split at eq
      · rename_i v hv
        cases eq
        obtain ⟨v', rv, hr⟩ := aSliceData_run (P := P) (w := w) rx hv c.argTypes o.type
        refine ⟨E, .value v', w, E.le_refl, .value rv, ?_, H⟩
        have hx : execOp ρ' o = (do pure (.value (← Builtin.unsafeSliceData_ c.argTypes o.type #[ρ' x]))) := by simp [execOp, hop, resolve, hc, invoke, builtin, e1]
        rw [hx, Sem.run_bind, hr]
        rfl
      · exact hflat eq
    · cases eq
  · rename_i hc
    split at eq
    · rename_i p n pt it hxs hts
      have e1 : c.args = #[p, n] := by rw [← Array.toList_inj]; exact hxs
      have e2 : c.argTypes = #[pt, it] := by rw [← Array.toList_inj]; exact hts
      have rp : VR E (ρ p) (ρ' p) := hρ p (by simp [Op.operands, Call.operands, hc, e1])
      have rn : VR E (ρ n) (ρ' n) := hρ n (by simp [Op.operands, Call.operands, hc, e1])
      split at eq
      · rename_i y hy
        obtain ⟨v, h1⟩ := y
        cases eq
        obtain ⟨w', hr, rv, H'⟩ := aUString_run H rp rn hy it o.type
        refine ⟨E, .value v, w', E.le_refl, .value rv, ?_, H'⟩
        have hx : execOp ρ' o = (do pure (.value (← Builtin.unsafeString_ #[pt, it] o.type #[ρ' p, ρ' n]))) := by simp [execOp, hop, resolve, hc, invoke, builtin, e1, e2]
        rw [hx, Sem.run_bind, hr]
        rfl
      · exact hflat eq
    · cases eq
  · exact hflat eq
end
end Go.Ab
