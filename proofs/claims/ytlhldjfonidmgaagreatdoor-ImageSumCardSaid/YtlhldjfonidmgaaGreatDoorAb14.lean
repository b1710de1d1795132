/- One operation, all kinds. -/
import Derived.Test.YtlhldjfonidmgaaGreatDoorAb13
namespace Go.Ab
set_option linter.unusedSimpArgs false
set_option linter.unusedVariables false
set_option linter.unusedSectionVars false
section
variable {P : Program} {w0 : W0} {E : Env} {h : AH} {w : World}
theorem OpOk.val {s' : Sem Next} {v v' : Value} (r : VR E v v') (hr : s'.run P w = .ok (.value v') w) (H : HR P w0 E h w) : OpOk P w0 E w s' (.value v) h := ⟨E, _, w, E.le_refl, .value r, hr, H⟩
theorem aop_ok (hz : ZerosFlat P) (H : HR P w0 E h w) {o : Oper} {ρ ρ' : Operand → Value} (hρ : ∀ x ∈ o.op.operands, VR E (ρ x) (ρ' x)) {n : Next} {h' : AH} (eq : aop P o ρ h = some (n, h')) :
    OpOk P w0 E w (execOp ρ' o) n h' := by
  cases hop : o.op with
  | move x =>
    simp only [aop, hop] at eq
    cases eq
    exact .val (hρ x (by simp [hop, Op.operands])) (by simp [execOp, hop]) H
  | assign x =>
    simp only [aop, hop] at eq
    cases eq
    exact .val (hρ x (by simp [hop, Op.operands])) (by simp [execOp, hop]) H
  | pick c a b =>
    simp only [aop, hop] at eq
    have rc := hρ c (by simp [hop, Op.operands])
    have ra := hρ a (by simp [hop, Op.operands])
    have rb := hρ b (by simp [hop, Op.operands])
    split at eq
    · rename_i t ht
      cases eq
      rw [ht] at rc
      have hc' : ρ' c = .bool t := flat_eq 4 rfl rc
      refine .val (v' := if t then ρ' a else ρ' b) ?_ (by simp [execOp, hop, hc', asBool]) H
      cases t
      · exact rb
      · exact ra
    · cases eq
  | alloc t =>
    simp only [aop, hop] at eq
    have hx : ∀ ρ, execOp ρ o = (do pure (.value (← Instr.alloc t true (.tuple #[])))) := fun ρ => by simp only [execOp, hop]
    split at eq
    · rename_i ht
      rw [Nat.blt_eq] at ht
      rw [hx] at eq ⊢
      exact OpOk.of_sim (sim_v (sim_alloc hz t ht _ _)) H eq
    · cases eq
  | box t x =>
    simp only [aop, hop] at eq
    have hx : ∀ ρ, execOp ρ o = (do pure (.value (← Instr.box t (ρ x)))) := fun ρ => by simp only [execOp, hop]
    rw [hx] at eq ⊢
    exact OpOk.of_sim (sim_v (sim_box t (hρ x (by simp [hop, Op.operands])))) H eq
  | load t x =>
    simp only [aop, hop] at eq
    have hx : ∀ ρ, execOp ρ o = (do pure (.value (← Instr.loadAt t (ρ x)))) := fun ρ => by simp only [execOp, hop]
    rw [hx] at eq ⊢
    exact OpOk.of_sim (sim_v (sim_loadAt t (hρ x (by simp [hop, Op.operands])))) H eq
  | store t x y =>
    simp only [aop, hop] at eq
    have hx : ∀ ρ, execOp ρ o = (do Instr.storeAt t (ρ x) (ρ y); pure .skip) := fun ρ => by simp only [execOp, hop]
    rw [hx] at eq ⊢
    exact OpOk.of_sim (sim_u (sim_storeAt t (hρ x (by simp [hop, Op.operands])) (hρ y (by simp [hop, Op.operands])))) H eq
  | fieldAddr t x f =>
    simp only [aop, hop] at eq
    have hx : ∀ ρ, execOp ρ o = (do pure (.value (← Instr.fieldAt t (ρ x) f))) := fun ρ => by simp only [execOp, hop]
    rw [hx] at eq ⊢
    exact OpOk.of_sim (sim_v (sim_fieldAt t (hρ x (by simp [hop, Op.operands])) f)) H eq
  | field t x f =>
    simp only [aop, hop] at eq
    have hx : ∀ ρ, execOp ρ o = (do pure (.value (← Instr.field t (ρ x) f))) := fun ρ => by simp only [execOp, hop]
    rw [hx] at eq ⊢
    exact OpOk.of_sim (sim_v (sim_field t (hρ x (by simp [hop, Op.operands])) f)) H eq
  | indexAddr t x i =>
    simp only [aop, hop] at eq
    have hx : ∀ ρ, execOp ρ o = (do pure (.value (← Instr.indexAt t (ρ x) (ρ i)))) := fun ρ => by simp only [execOp, hop]
    rw [hx] at eq ⊢
    exact OpOk.of_sim (sim_v (sim_indexAt t (hρ x (by simp [hop, Op.operands])) (hρ i (by simp [hop, Op.operands])))) H eq
  | index t x i =>
    simp only [aop, hop] at eq
    have hx : ∀ ρ, execOp ρ o = (do pure (.value (← Instr.index t (ρ x) (ρ i)))) := fun ρ => by simp only [execOp, hop]
    rw [hx] at eq ⊢
    exact OpOk.of_sim (sim_v (sim_index t (hρ x (by simp [hop, Op.operands])) (hρ i (by simp [hop, Op.operands])))) H eq
  | extract x k =>
    simp only [aop, hop] at eq
    have hx : ∀ ρ, execOp ρ o = (do pure (.value (← Instr.extract (ρ x) k))) := fun ρ => by simp only [execOp, hop]
    rw [hx] at eq ⊢
    exact OpOk.of_sim (sim_v (sim_extract (hρ x (by simp [hop, Op.operands])) k)) H eq
  | makeInterface t x =>
    simp only [aop, hop] at eq
    have hx : ∀ ρ, execOp ρ o = (do pure (.value (← Instr.makeInterface t (ρ x)))) := fun ρ => by simp only [execOp, hop]
    rw [hx] at eq ⊢
    exact OpOk.of_sim (sim_v (sim_makeInterface t (hρ x (by simp [hop, Op.operands])))) H eq
  | makeMap t r =>
    simp only [aop, hop] at eq
    have hx : ∀ ρ, execOp ρ o = (do pure (.value (← Instr.makeMap t (r.map ρ)))) := fun ρ => by simp only [execOp, hop]
    rw [hx] at eq ⊢
    exact OpOk.of_sim (sim_v (sim_makeMap t (ov_map r fun y hy => hρ y (by rw [hop]; exact hy)))) H eq
  | slice t x lo hi mx =>
    cases mx with
    | some m => simp only [aop, hop] at eq; cases eq
    | none =>
      simp only [aop, hop] at eq
      have hx : ∀ ρ, execOp ρ o = (do pure (.value (← Instr.sliceAt t (ρ x) (lo.map ρ) (hi.map ρ) none))) := fun ρ => by simp only [execOp, hop, Option.map_none]
      rw [hx] at eq ⊢
      refine OpOk.of_sim (sim_v (sim_sliceAt t (hρ x ?_) (ov_map lo fun y hy => hρ y ?_) (ov_map hi fun y hy => hρ y ?_))) H eq
      · simp [hop, Op.operands]
      · rw [hop]
        simp only [Op.operands]
        exact Array.mem_append.2 (.inl (Array.mem_append.2 (.inl (Array.mem_append.2 (.inr hy)))))
      · rw [hop]
        simp only [Op.operands]
        exact Array.mem_append.2 (.inl (Array.mem_append.2 (.inr hy)))
  | build t parts =>
    simp only [aop, hop, Option.map_eq_some_iff] at eq
    obtain ⟨c, hc, he⟩ := eq
    cases he
    split at hc
    case isFalse => cases hc
    rename_i ht
    rw [Nat.blt_eq] at ht
    obtain ⟨c', hc', rc⟩ := built_rel hz t ht (parts_rel parts fun y hy => hρ y (by rw [hop]; exact hy)) hc
    exact .val (VR.agg' rc) (by simp only [execOp, hop, Sem.run_bind, run_build w t _ c' hc', Result.andThen_ok, Sem.run_pure]) H
  | buildSlice t len parts =>
    simp only [aop, hop] at eq
    split at eq
    · rename_i e c hb
      split at eq
      · rename_i hr
        cases eq
        obtain ⟨c', rc, hrun⟩ := aBuildSlice_run hz t len (parts_rel parts fun y hy => hρ y (by rw [hop]; exact hy)) hb
        obtain ⟨le, H'⟩ := new_row H hr (e := e) rc
        exact ⟨_, .value (.slice (some ⟨w.heap.size, 0, none⟩) len len), _, le, .value (.slice (op := none) (by simp [Env.ext]) (.inl rfl) (Nat.le_refl _)), by simp only [execOp, hop, Sem.run_bind, hrun w, Result.andThen_ok, Sem.run_pure], H'⟩
      · cases eq
    · cases eq
  | nilCheck x =>
    simp only [aop, hop] at eq
    have rx := hρ x (by simp [hop, Op.operands])
    split at eq
    · rename_i a hv
      cases eq
      rw [hv] at rx
      generalize hv' : ρ' x = y at rx
      cases rx with
      | ptr e => exact .val (.ptr e) (by simp [execOp, hop, hv']) H
    · rename_i f a b hv
      cases eq
      rw [hv] at rx
      generalize hv' : ρ' x = y at rx
      cases rx with
      | func hf h1 g1 h2 g2 =>
        cases hf
        exact .val (.func (.func f) h1 g1 h2 g2) (by simp [execOp, hop, hv']) H
    · rename_i t v hv
      cases eq
      rw [hv] at rx
      generalize hv' : ρ' x = y at rx
      cases rx with
      | iface _ r => exact .val (.iface _ r) (by simp [execOp, hop, hv']) H
    · cases eq
  | binOp op t x y ty =>
    have hns : noSelect o.op = true := by rw [hop]; rfl
    have hflat := fun eq => aFlat_ok (n := n) (h' := h') H hns hρ eq
    simp only [aop, hop] at eq
    have rx := hρ x (by simp [hop, Op.operands])
    have ry := hρ y (by simp [hop, Op.operands])
    split at eq
    · rename_i b hb
      cases eq
      obtain ⟨g1, g2, g3, g4⟩ := aNilEq_run rx ry hb w x y .eql
      exact .val (.bool b) (by simp only [execOp, hop, Sem.run_bind, g1, Result.andThen_ok, g3, g2, Sem.run_pure]) H
    · rename_i b hb
      cases eq
      obtain ⟨g1, g2, g3, g4⟩ := aNilEq_run rx ry hb w x y .neq
      exact .val (.bool (!b)) (by simp only [execOp, hop, Sem.run_bind, g1, Result.andThen_ok, g4, g2, Sem.run_pure]) H
    · exact hflat eq
  | convert src dst x =>
    have hns : noSelect o.op = true := by rw [hop]; rfl
    have hflat := fun eq => aFlat_ok (n := n) (h' := h') H hns hρ eq
    simp only [aop, hop] at eq
    have rx := hρ x (by simp [hop, Op.operands])
    split at eq
    · rename_i y hy
      cases eq
      obtain ⟨v, h1⟩ := y
      obtain ⟨E', v', w', le, rv, hr, H'⟩ := aConvert_ok H rx hy
      exact ⟨E', _, w', le, .value rv, by simp only [execOp, hop, Sem.run_bind, hr, Result.andThen_ok, Sem.run_pure], H'⟩
    · split at eq
      · rename_i v hv
        cases eq
        obtain ⟨v', rv, hr⟩ := aToU_run H rx hv
        exact .val rv (by simp only [execOp, hop, Sem.run_bind, hr, Result.andThen_ok, Sem.run_pure]) H
      · exact hflat eq
  | makeFunc fn first captured =>
    simp only [aop, hop] at eq
    split at eq
    · rename_i hf
      cases eq
      cases fn with
      | func f =>
        have h1 := VRs.map (E := E) first ρ ρ' fun y hy => hρ y (by rw [hop]; simp only [Op.operands]; exact Array.mem_append.2 (.inl hy))
        have h2 := VRs.map (E := E) captured ρ ρ' fun y hy => hρ y (by rw [hop]; simp only [Op.operands]; exact Array.mem_append.2 (.inr hy))
        exact .val (.func (.func f) h1.1 h1.2 h2.1 h2.2) (by simp [execOp, hop, Instr.makeFunc]) H
      | _ => cases hf
    · cases eq
  | makeSlice t l c =>
    simp only [aop, hop, Option.map_eq_some_iff] at eq
    obtain ⟨⟨v, h1⟩, ha, he⟩ := eq
    cases he
    have rl := hρ l (by simp [hop, Op.operands])
    have rc := hρ c (by simp [hop, Op.operands])
    have hl : ρ' l = ρ l ∧ ρ' c = ρ c := by
      unfold aMakeSlice at ha
      split at ha
      · rename_i kl a kc b e1 e2
        rw [e1] at rl
        rw [e2] at rc
        exact ⟨(flat_eq 4 rfl rl).trans e1.symm, (flat_eq 4 rfl rc).trans e2.symm⟩
      · cases ha
    obtain ⟨E', v', w', le, rv, hr, H'⟩ := aMakeSlice_run H ha
    exact ⟨E', _, w', le, .value rv, by simp only [execOp, hop, hl.1, hl.2, Sem.run_bind, hr, Result.andThen_ok, Sem.run_pure], H'⟩
  | lookup t x i ok =>
    simp only [aop, hop, Option.map_eq_some_iff] at eq
    obtain ⟨v, ha, he⟩ := eq
    cases he
    obtain ⟨rv, hr⟩ := aLookup_run H (hρ x (by simp [hop, Op.operands])) (hρ i (by simp [hop, Op.operands])) ha
    exact .val rv (by simp only [execOp, hop, Sem.run_bind, hr, Result.andThen_ok, Sem.run_pure]) H
  | mapUpdate t x i v =>
    simp only [aop, hop, Option.map_eq_some_iff] at eq
    obtain ⟨h1, ha, he⟩ := eq
    cases he
    obtain ⟨w', hr, H'⟩ := aMapUpdate_run H (hρ x (by simp [hop, Op.operands])) (hρ i (by simp [hop, Op.operands])) (hρ v (by simp [hop, Op.operands])) ha
    exact ⟨E, _, w', E.le_refl, .skip, by simp only [execOp, hop, Sem.run_bind, hr, Result.andThen_ok, Sem.run_pure], H'⟩
  | insert t x i v =>
    simp only [aop, hop, Option.map_eq_some_iff] at eq
    obtain ⟨h1, ha, he⟩ := eq
    cases he
    obtain ⟨w', hr, H'⟩ := aMapUpdate_run H (hρ x (by simp [hop, Op.operands])) (hρ i (by simp [hop, Op.operands])) (hρ v (by simp [hop, Op.operands])) ha
    exact ⟨E, _, w', E.le_refl, .skip, by simp only [execOp, hop, Sem.run_bind, hr, Result.andThen_ok, Sem.run_pure], H'⟩
  | unOp op t x =>
    have hns : noSelect o.op = true := by rw [hop]; rfl
    simp only [aop, hop] at eq
    exact aFlat_ok H hns hρ eq
  | call c =>
    simp only [aop, hop] at eq
    exact aCall_ok H hop hρ eq
  | defer c =>
    simp only [aop, hop, Option.map_eq_some_iff] at eq
    obtain ⟨d, ha, he⟩ := eq
    cases he
    rw [hop] at hρ
    have hargs : VRs E (c.args.map ρ) (c.args.map ρ') := VRs.map _ _ _ fun x hx => hρ x (by simp only [Op.operands, Call.operands]; exact Array.mem_append.2 (.inr hx))
    unfold aDefer at ha
    split at ha
    · rename_i f hc
      have rf : VR E (ρ f) (ρ' f) := hρ f (by simp [Op.operands, Call.operands, hc])
      split at ha
      · rename_i g first captured hv
        split at ha
        · rename_i hb
          cases ha
          rw [hv] at rf
          generalize hv' : ρ' f = y at rf
          cases rf with
          | @func _ fn' _ first' _ captured' hfn h1 g1 h2 g2 =>
            cases hfn
            refine ⟨E, .defer { target := .fn (.func g) captured', args := first' ++ c.args.map ρ' }, w, E.le_refl, .defer ⟨.fn (.func g) ⟨h2, g2⟩, VRs.append ⟨h1, g1⟩ hargs⟩, ?_, H⟩
            simp [execOp, hop, resolve, hc, hv', Deferred.ofValue]
        · cases ha
      · cases ha
    · cases ha
  | _ => simp only [aop, hop] at eq; cases eq
end
end Go.Ab
