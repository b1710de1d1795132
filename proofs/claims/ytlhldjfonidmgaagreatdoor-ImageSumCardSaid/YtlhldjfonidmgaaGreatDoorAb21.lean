/- A region whose order is drawn: single operations, at any place. -/
import Derived.Test.YtlhldjfonidmgaaGreatDoorAb20
namespace Go.Ab
set_option linter.unusedSimpArgs false
set_option linter.unusedVariables false
set_option linter.unusedSectionVars false
section
variable {P : Program} {w0 : W0} {E : Env} {h : AH} {w : World}
theorem ext_le_none {n : Nat} (he : E n = none) (x : Nat × Option Nat) : E.le (E.ext n x) := fun j y e => by
  have : j ≠ n := fun hj => by rw [hj, he] at e; cases e
  simp [Env.ext, this, e]
theorem aFree_ok (hz : ZerosFlat P) (H : HR P w0 E h w) {o : Oper} {ρ ρ' : Operand → Value} (hρ : ∀ x ∈ o.op.operands, VR E (ρ x) (ρ' x)) {b : Obj} {s : Shape} (eq : aFree P o ρ = some (b, s))
    {n : Nat} (hg : h.get n = some (b, false)) (hp : ¬ w0.Pd n) (he : E n = none) (hb : h.base ≤ n) :
    ∃ E' v' w', E.le E' ∧ VR E' (s.val n) v' ∧ (execOp ρ' o).run P w = .ok (.value v') w' ∧ HR P w0 E' h w' := by
  have le := ext_le_none he (w.heap.size, none)
  have hE : (E.ext n (w.heap.size, none)) n = some (w.heap.size, none) := by simp [Env.ext]
  unfold aFree at eq
  split at eq
  · rename_i t hop
    split at eq
    · rename_i i hi
      split at eq
      · rename_i z hzz
        split at eq
        case isFalse => cases eq
        rename_i ht
        rw [Nat.blt_eq] at ht
        cases eq
        have rz : VR (E.ext n (w.heap.size, none)) z z := flat_refl 4 (hz t i z ht hi hzz)
        refine ⟨_, .pointer (some ⟨w.heap.size, 0, none⟩), { w with heap := w.heap.push (.cells z.cells t (0, 0)) }, le, .ptr hE, ?_, (H.comes hg he hp hb (.row rz.cells)).2⟩
        simp [execOp, hop, Instr.alloc, zeroValue, typeInfo, program, hi, hzz, newVar, newRow, newObj, Sem.run]
      · cases eq
    · cases eq
  · rename_i t x hop
    cases eq
    have rx := hρ x (by simp [hop, Op.operands])
    refine ⟨_, .pointer (some ⟨w.heap.size, 0, none⟩), { w with heap := w.heap.push (.cells (ρ' x).cells t (0, 0)) }, le, .ptr hE, ?_, (H.comes hg he hp hb (.row (rx.mono le).cells)).2⟩
    simp [execOp, hop, Instr.box, newVar, newRow, newObj, Sem.run]
  · rename_i t len parts hop
    split at eq
    · rename_i e c hbs
      cases eq
      obtain ⟨c', rc, hrun⟩ := aBuildSlice_run hz t len (parts_rel parts fun y hy => hρ y (by rw [hop]; exact hy)) hbs
      exact ⟨_, .slice (some ⟨w.heap.size, 0, none⟩) len len, _, le, .slice (op := none) hE (.inl rfl) (Nat.le_refl _), by simp only [execOp, hop, Sem.run_bind, hrun w, Result.andThen_ok, Sem.run_pure]; rfl,
        (H.comes hg he hp hb (.row (rc.mono le))).2⟩
    · cases eq
  · rename_i t hop
    cases eq
    refine ⟨_, .map (some w.heap.size), { w with heap := w.heap.push (.map #[] 0) }, le, .map hE, ?_, (H.comes hg he hp hb (.map (by simp))).2⟩
    simp [execOp, hop, Instr.makeMap, newObj, Sem.run]
  · cases eq
theorem aFlat_any {o : Oper} {ρ : Operand → Value} {h' : AH} {n : Next} (e : aFlat P o ρ h = some (n, h')) (h2 : AH) : aFlat P o ρ h2 = some (n, h2) := by
  unfold aFlat at e ⊢
  split at e
  · rename_i hf
    rw [if_pos hf]
    split at e
    · split at e
      · rename_i hn
        cases e
        simp only [hn, if_true]
      · cases e
    · cases e
  · cases e
theorem aop_any {o : Oper} {ρ : Operand → Value} {h' : AH} {n : Next} (hk : noMem o.op = true) (e : aop P o ρ h = some (n, h')) (h2 : AH) : aop P o ρ h2 = some (n, h2) := by
  cases hop : o.op with
  | move x => simp only [aop, hop] at e ⊢; cases e; rfl
  | assign x => simp only [aop, hop] at e ⊢; cases e; rfl
  | pick c a b => simp only [aop, hop] at e ⊢; split at e <;> cases e; rfl
  | build t parts => simp only [aop, hop, Option.map_eq_some_iff] at e ⊢; obtain ⟨c, hc, he⟩ := e; cases he; exact ⟨c, hc, rfl⟩
  | nilCheck x => simp only [aop, hop] at e ⊢; split at e <;> cases e <;> rfl
  | binOp op t x y ty =>
    simp only [aop, hop] at e ⊢
    split at e
    · cases e; rfl
    · cases e; rfl
    · exact aFlat_any e h2
  | unOp op t x => simp only [aop, hop] at e ⊢; exact aFlat_any e h2
  | makeFunc f a b => simp only [aop, hop] at e ⊢; split at e <;> cases e; rename_i hf; rw [if_pos hf]
  | _ => rw [hop] at hk; cases hk
end
/-- What comes ahead has a smaller number. -/
theorem masks_lt : ∀ (l : List Oper) (acc : List Nat), (∀ i j, (acc.getD i 0).testBit j = true → j < i) → (∀ (k : Nat) (o : Oper), l[k]? = some o → ∀ j ∈ prsOf o, j < acc.length + k) →
    ∀ i j, ((masks l acc).getD i 0).testBit j = true → j < i
  | [], acc, h, _ => h
  | o :: l, acc, h, hl => by
    refine masks_lt l _ (fun i j hj => ?_) (fun k o' hk j hj => ?_)
    · by_cases hlt : i < acc.length
      · rw [List.getD_eq_getElem?_getD, List.getElem?_append_left hlt, ← List.getD_eq_getElem?_getD] at hj
        exact h i j hj
      · by_cases he : i = acc.length
        · rw [he] at hj ⊢
          rw [List.getD_eq_getElem?_getD, List.getElem?_append_right (Nat.le_refl _)] at hj
          simp only [Nat.sub_self, List.getElem?_cons_zero, Option.getD_some] at hj
          have h0 := hl 0 o (by simp)
          rcases bits_fold acc j _ _ hj with hj | ⟨k, hk, hj | hj⟩
          · simp at hj
          · have := h0 k hk; omega
          · have := h0 k hk; have := h k j hj; omega
        · rw [List.getD_eq_getElem?_getD, List.getElem?_eq_none (by simp; omega)] at hj
          simp at hj
    · have := hl (k + 1) o' (by simpa using hk) j hj
      simp only [List.length_append, List.length_cons, List.length_nil]
      omega
theorem ahead_lt {ops : Array Oper} (hb : ∀ (k : Nat) (o : Oper), ops[k]? = some o → ∀ j ∈ prsOf o, j < k) {i j : Nat} (h : ahead (masks ops.toList []) j i = true) : j < i :=
  masks_lt ops.toList [] (fun i j hj => by simp at hj) (fun k o hk j hj => by have := hb k o (by simpa using hk) j hj; simpa using this) i j h
end Go.Ab
