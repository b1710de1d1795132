/- Lengths, copies, maps, conversions, comparisons with nil. -/
import Derived.Test.YtlhldjfonidmgaaGreatDoorAb9
import Derived.Laws.IdiomStrings
import Derived.Laws.BytesArg
namespace Go.Ab
set_option linter.unusedSimpArgs false
set_option linter.unusedVariables false
set_option linter.unusedSectionVars false
section
variable {P : Program} {w0 : W0} {E : Env}
theorem VRs.at? {c c' : Array Value} (r : VRs E c c') (i : Nat) {x : Value} (h : c[i]? = some x) : ∃ x', c'[i]? = some x' ∧ VR E x x' := by
  rcases r.get? i with ⟨h1, _⟩ | ⟨y, y', h1, h2, h3⟩
  · rw [h1] at h; cases h
  · rw [h1] at h; cases h; exact ⟨y', h2, h3⟩
theorem VRs.none? {c c' : Array Value} (r : VRs E c c') (i : Nat) (h : c[i]? = none) : c'[i]? = none := by
  rcases r.get? i with ⟨_, h2⟩ | ⟨y, y', h1, h2, h3⟩
  · exact h2
  · rw [h1] at h; cases h
theorem sim_len (ts : Array TypeId) (ty : TypeId) {as as' : Array Value} (r : VRs E as as') : Sim P w0 E VR (Builtin.len_ ts ty as) (Builtin.len_ ts ty as') := by
  unfold Builtin.len_
  cases ht : ts[0]? with
  | none => exact sim_none fun _ => rfl
  | some t =>
    cases hx : as[0]? with
    | none => exact sim_none fun _ => rfl
    | some x =>
      obtain ⟨x', hx', rx⟩ := r.at? 0 hx
      rw [hx']
      refine sim_bind (sim_underlying t) fun E' le d d' e => ?_
      obtain ⟨rfl, _⟩ := e
      have rx' := rx.mono le
      cases d with
      | string =>
        cases rx' with
        | string s => exact sim_pure (.int _ _)
        | _ => exact sim_none fun _ => rfl
      | array n el => exact sim_pure (.int _ _)
      | pointer arr =>
        refine sim_bind (sim_underlying arr) fun E2 le2 d d' e => ?_
        obtain ⟨rfl, _⟩ := e
        cases d with
        | array n el => exact sim_pure (.int _ _)
        | _ => exact sim_none fun _ => rfl
      | slice el =>
        cases rx' with
        | nilSlice l c => exact sim_pure (.int _ _)
        | slice _ _ _ => exact sim_pure (.int _ _)
        | empty _ => exact sim_pure (.int _ _)
        | _ => exact sim_none fun _ => rfl
      | map k v =>
        cases rx' with
        | nilMap => exact sim_pure (.int _ _)
        | map e =>
          refine sim_bind (sim_getObj e) fun E2 le2 o o' h => ?_
          obtain ⟨ro, _⟩ := h
          cases ro with
          | map hf => exact sim_pure (.int _ _)
          | _ => exact sim_none fun _ => rfl
        | _ => exact sim_none fun _ => rfl
      | _ => cases rx' <;> exact sim_none fun _ => rfl
theorem sim_lenOf {v v' : Value} (r : VR E v v') : Sim P w0 E (fun _ a b => a = b ∧ (∀ b o s, v = .slice (some ⟨b, o, s⟩) 0 0 → a = 0)) (Builtin.lenOf v) (Builtin.lenOf v') := by
  cases r with
  | nilSlice l c => exact sim_pure ⟨rfl, fun _ _ _ h => by cases h⟩
  | slice _ _ _ => exact sim_pure ⟨rfl, fun _ _ _ h => by cases h; rfl⟩
  | empty _ => exact sim_pure ⟨rfl, fun _ _ _ h => by cases h; rfl⟩
  | string s => exact sim_pure ⟨rfl, fun _ _ _ h => by cases h⟩
  | _ => exact sim_none fun _ => rfl
theorem sim_firstCells (size n : Nat) {v v' : Value} (r : VR E v v') (hn : ∀ b o s, v = .slice (some ⟨b, o, s⟩) 0 0 → n = 0) : Sim P w0 E VRs (Builtin.firstCells size n v) (Builtin.firstCells size n v') := by
  cases r with
  | nilSlice l c => exact sim_pure (VRs.empty E)
  | slice e _ _ => exact sim_loadCells ⟨_, _, e, rfl⟩ _
  | empty e =>
    have := hn _ _ _ rfl
    subst this
    show Sim P w0 E VRs (loadCells _ (0 * size)) (loadCells _ (0 * size))
    rw [Nat.zero_mul]
    exact sim_pure (VRs.empty E)
  | string s => exact sim_pure ⟨rfl, fun i hi => flat_refl 4 (by simp only [Array.getElem_map]; rfl)⟩
  | _ => exact sim_none fun _ => rfl
theorem sim_copy (ts : Array TypeId) (ty : TypeId) {as as' : Array Value} (r : VRs E as as') : Sim P w0 E VR (Builtin.copy_ ts ty as) (Builtin.copy_ ts ty as') := by
  unfold Builtin.copy_
  cases ht : ts[0]? with
  | none => exact sim_none fun _ => rfl
  | some t =>
    cases hx : as[0]? with
    | none => exact sim_none fun _ => rfl
    | some x =>
      obtain ⟨x', hx', rx⟩ := r.at? 0 hx
      rw [hx']
      cases hy : as[1]? with
      | none => exact sim_none fun _ => rfl
      | some y =>
        obtain ⟨y', hy', ry⟩ := r.at? 1 hy
        rw [hy']
        refine sim_bind (sim_underlying t) fun E1 le1 d d' e => ?_
        obtain ⟨rfl, _⟩ := e
        cases d with
        | slice el =>
          have rest : ∀ (dLen : Nat) (base base' : Option Addr) (hb : (base = none ∧ base' = none) ∨ ∃ a a', base = some a ∧ base' = some a' ∧ (AR E1 a a' ∨ dLen = 0)),
              Sim P w0 E1 VR (do
                let n := Nat.min (← Builtin.lenOf y) dLen
                let cells ← Builtin.firstCells (← sizeOf el) n y
                if let some a := base then storeCells a cells.toList
                pure (goInt n)) (do
                let n := Nat.min (← Builtin.lenOf y') dLen
                let cells ← Builtin.firstCells (← sizeOf el) n y'
                if let some a := base' then storeCells a cells.toList
                pure (goInt n)) := fun dLen base base' hb => by
            refine sim_bind (sim_lenOf (ry.mono le1)) fun E2 le2 n n' h => ?_
            obtain ⟨rfl, hz⟩ := h
            refine sim_bind (sim_sizeOf el) fun E3 le3 m m' h => ?_
            obtain ⟨rfl, _⟩ := h
            refine sim_bind (R := fun E' c c' => VRs E' c c' ∧ (dLen = 0 → c.toList = [] ∧ c'.toList = [])) ?_ fun E4 le4 c c' h => ?_
            · by_cases hd : dLen = 0
              · subst hd
                have hm : Nat.min n 0 = 0 := Nat.min_zero n
                show Sim P w0 E3 _ (Builtin.firstCells m (Nat.min n 0) y) (Builtin.firstCells m (Nat.min n 0) y')
                rw [hm]
                have hnil : ∀ (v v' : Value), VR E3 v v' → Sim P w0 E3 (fun E' c c' => VRs E' c c' ∧ (0 = 0 → c.toList = [] ∧ c'.toList = [])) (Builtin.firstCells m 0 v) (Builtin.firstCells m 0 v') := fun v v' r => by
                  cases r with
                  | nilSlice l c => exact sim_pure ⟨VRs.empty _, fun _ => ⟨rfl, rfl⟩⟩
                  | slice e _ _ =>
                    show Sim P w0 E3 _ (loadCells _ (0 * m)) (loadCells _ (0 * m))
                    rw [Nat.zero_mul]
                    exact sim_pure ⟨VRs.empty _, fun _ => ⟨rfl, rfl⟩⟩
                  | empty e =>
                    show Sim P w0 E3 _ (loadCells _ (0 * m)) (loadCells _ (0 * m))
                    rw [Nat.zero_mul]
                    exact sim_pure ⟨VRs.empty _, fun _ => ⟨rfl, rfl⟩⟩
                  | string s => exact sim_pure ⟨⟨rfl, fun i hi => flat_refl 4 (by simp only [Array.getElem_map]; rfl)⟩, fun _ => by
                      have : (s.extract 0 0).data = #[] := by apply Array.ext'; simp
                      simp [this]⟩
                  | _ => exact sim_none fun _ => rfl
                exact hnil y y' (((ry.mono le1).mono le2).mono le3)
              · refine sim_mono (sim_firstCells m (Nat.min n dLen) (((ry.mono le1).mono le2).mono le3) fun b o s e => ?_) fun _ _ _ r => ⟨r, fun h => absurd h hd⟩
                rw [hz b o s e]
                exact Nat.zero_min _
            · rcases hb with ⟨rfl, rfl⟩ | ⟨a, a', rfl, rfl, hb⟩
              · exact sim_pure (.int _ _)
              · rcases hb with hb | hb
                · exact sim_bind (sim_storeCells E4 (((hb.mono le2).mono le3).mono le4) _ _ h.1.list 0) fun _ _ _ _ _ => sim_pure (.int _ _)
                · obtain ⟨h1, h2⟩ := h.2 hb
                  simp only [h1, h2]
                  exact sim_pure (.int _ _)
          cases rx.mono le1 with
          | nilSlice l c => exact rest l none none (.inl ⟨rfl, rfl⟩)
          | slice e _ _ => exact rest _ _ _ (.inr ⟨_, _, rfl, rfl, .inl ⟨_, _, e, rfl⟩⟩)
          | empty e => exact rest 0 _ _ (.inr ⟨_, _, rfl, rfl, .inr rfl⟩)
          | _ => exact sim_none fun _ => rfl
        | _ => exact sim_none fun _ => rfl
end
end Go.Ab
