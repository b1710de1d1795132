/- Further operations: slices, maps, calls, loops over functions. -/
import Derived.Test.YtlhldjfonidmgaaGreatDoorAb4
namespace Go.Ab
set_option linter.unusedSimpArgs false
set_option linter.unusedVariables false
set_option linter.unusedSectionVars false
section
variable {P : Program} {w0 : W0} {α β : Type} {E : Env}
inductive OV (E : Env) : Option Value → Option Value → Prop
  | none : OV E none none
  | some {v v'} : VR E v v' → OV E (some v) (some v')
theorem OV.mono {E E' : Env} (h : E.le E') {v v' : Option Value} (r : OV E v v') : OV E' v v' := by
  cases r with
  | none => exact .none
  | some r => exact .some (r.mono h)
theorem sim_sliceBound {v v' : Value} (r : VR E v v') {y y' : Nat} (hy : y ≤ y') (c : BoundsCode) : Sim P w0 E (fun _ a b => a = b ∧ a ≤ y) (Instr.sliceBound v y c) (Instr.sliceBound v' y' c) := by
  refine sim_bind (sim_asIntOf r) fun E1 le1 p p' e => ?_
  subst e
  obtain ⟨k, i⟩ := p
  simp only
  by_cases h : 0 ≤ i ∧ i ≤ (y : Int)
  · rw [if_pos h, if_pos ⟨h.1, by omega⟩]
    exact sim_pure ⟨rfl, by omega⟩
  · rw [if_neg h]
    exact sim_bounds _ _ _ _ _
def sbTail (lo : Option Value) (h m : Nat) : Sem (Nat × Nat × Nat) :=
  match lo with
  | some v => Instr.sliceBound v h (if (none : Option Value).isSome then .slice3C else .sliceB) >>= fun l => pure (l, h, m)
  | none => pure 0 >>= fun l => pure (l, h, m)
theorem sim_sbTail (h m m' : Nat) {lo lo' : Option Value} (rl : OV E lo lo') : Sim P w0 E (fun _ (a b : Nat × Nat × Nat) => a.1 = b.1 ∧ a.2 = (h, m) ∧ b.2 = (h, m') ∧ a.1 ≤ h) (sbTail lo h m) (sbTail lo' h m') := by
  cases rl with
  | none => exact sim_pure ⟨rfl, rfl, rfl, Nat.zero_le _⟩
  | some rl => exact sim_bind (sim_sliceBound rl (Nat.le_refl h) _) fun E1 le1 a b e => sim_pure ⟨e.1, rfl, rfl, e.2⟩
theorem sim_sliceBounds0 (z : Bool) (len : Nat) {cap cap' : Nat} (hc : cap ≤ cap') {lo lo' hi hi' : Option Value} (rl : OV E lo lo') (rh : OV E hi hi') :
    Sim P w0 E (fun _ (a b : Nat × Nat × Nat) => ∃ h, a.1 = b.1 ∧ a.2 = (h, cap) ∧ b.2 = (h, cap') ∧ a.1 ≤ h ∧ (h = len ∨ h ≤ cap)) (Instr.sliceBounds z len cap lo hi none) (Instr.sliceBounds z len cap' lo' hi' none) := by
  cases rh with
  | none => exact sim_mono (sim_sbTail len cap cap' rl) fun _ _ _ r => ⟨len, r.1, r.2.1, r.2.2.1, r.2.2.2, .inl rfl⟩
  | some rh =>
    refine sim_bind (sim_pure (R := fun _ a b => a = cap ∧ b = cap') ⟨rfl, rfl⟩) fun E0 le0 m m' e => ?_
    obtain ⟨rfl, rfl⟩ := e
    refine sim_bind (sim_sliceBound (rh.mono le0) hc _) fun E1 le1 a b e => ?_
    obtain ⟨rfl, e⟩ := e
    exact sim_mono (sim_sbTail a m m' ((rl.mono le0).mono le1)) fun _ _ _ r => ⟨a, r.1, r.2.1, r.2.2.1, r.2.2.2, .inr e⟩
theorem sim_sliceBounds (z : Bool) (len : Nat) {cap cap' : Nat} (hl : len ≤ cap) (hc : cap ≤ cap') {lo lo' hi hi' : Option Value} (rl : OV E lo lo') (rh : OV E hi hi') :
    Sim P w0 E (fun _ (a b : Nat × Nat × Nat) => a.1 = b.1 ∧ a.2.1 = b.2.1 ∧ a.1 ≤ a.2.1 ∧ a.2.1 ≤ a.2.2 ∧ a.2.2 = cap ∧ b.2.2 = cap') (Instr.sliceBounds z len cap lo hi none) (Instr.sliceBounds z len cap' lo' hi' none) :=
  sim_mono (sim_sliceBounds0 z len hc rl rh) fun _ a b ⟨h, r1, r2, r3, r4, r5⟩ => by
    rw [r2, r3]
    exact ⟨r1, rfl, r4, by simp only; omega, rfl, rfl⟩
theorem sim_sliceBounds2 (z : Bool) (len cap : Nat) {lo lo' hi hi' : Option Value} (rl : OV E lo lo') (rh : OV E hi hi') :
    Sim P w0 E (fun _ (a b : Nat × Nat × Nat) => a = b) (Instr.sliceBounds z len cap lo hi none) (Instr.sliceBounds z len cap lo' hi' none) :=
  sim_mono (sim_sliceBounds0 z len (Nat.le_refl _) rl rh) fun _ a b ⟨h, r1, r2, r3, r4, r5⟩ => by
    obtain ⟨a1, a2⟩ := a
    obtain ⟨b1, b2⟩ := b
    simp only at r1 r2 r3
    rw [r1, r2, r3]
theorem addr_add0 (a : Addr) : a.add 0 = a := by unfold Addr.add; simp
/-- A piece of a slice, related. -/
theorem VR.sub {a a' : Addr} {b : Nat} {op : Option Nat} (e : E a.block = some (b, op)) (ha : a' = at' a b) {c c' l h size : Nat} (ho : c' = c ∨ ∃ n, op = some n ∧ c' = c + n) (h1 : l ≤ h) (h2 : h ≤ c) :
    VR E (.slice (some (if c = l then a else a.add (l * size))) (h - l) (c - l)) (.slice (some (if c' = l then a' else a'.add (l * size))) (h - l) (c' - l)) := by
  subst ha
  obtain ⟨ab, ao, as⟩ := a
  by_cases hcl : c = l
  · have hh : h = l := by omega
    subst hcl
    subst hh
    rcases ho with rfl | ⟨n, rfl, rfl⟩
    · simp only [if_true, Nat.sub_self]
      exact .slice e (.inl rfl) (Nat.le_refl _)
    · simp only [if_true, Nat.sub_self]
      exact .empty e
  · have hcl' : ¬ c' = l := by rcases ho with rfl | ⟨n, rfl, rfl⟩ <;> omega
    rw [if_neg hcl, if_neg hcl']
    have hadd : (at' ⟨ab, ao, as⟩ b).add (l * size) = at' ((⟨ab, ao, as⟩ : Addr).add (l * size)) b := by unfold Addr.add at'; split <;> rfl
    rw [hadd]
    have e2 : E ((⟨ab, ao, as⟩ : Addr).add (l * size)).block = some (b, op) := by unfold Addr.add; split <;> exact e
    generalize (⟨ab, ao, as⟩ : Addr).add (l * size) = q at *
    refine .slice e2 ?_ (by omega)
    rcases ho with rfl | ⟨n, rfl, rfl⟩
    · exact .inl rfl
    · exact .inr ⟨n, rfl, by omega⟩
theorem sim_slice (t : TypeId) {v v' : Value} (r : VR E v v') {lo lo' hi hi' : Option Value} (rl : OV E lo lo') (rh : OV E hi hi') : Sim P w0 E VR (Instr.slice t v lo hi none) (Instr.slice t v' lo' hi' none) := by
  refine sim_bind (sim_underlying t) fun E' le d d' e => ?_
  obtain ⟨rfl, _⟩ := e
  have r' := r.mono le
  cases d with
  | string =>
    cases r' with
    | string s =>
      refine sim_bind (sim_sliceBounds false s.size (Nat.le_refl _) (Nat.le_refl _) (rl.mono le) (rh.mono le)) fun E2 le2 a b h => ?_
      obtain ⟨a1, a2, a3⟩ := a
      obtain ⟨b1, b2, b3⟩ := b
      simp only at h
      obtain ⟨rfl, rfl, _⟩ := h
      exact sim_pure (.string _)
    | _ => exact sim_none fun _ => rfl
  | slice elem =>
    cases r' with
    | nilSlice l c =>
      refine sim_bind (sim_sliceBounds2 true l c (rl.mono le) (rh.mono le)) fun E2 le2 a b h => ?_
      subst h
      obtain ⟨a1, a2, a3⟩ := a
      refine sim_bind (sim_sizeOf elem) fun E3 le3 x y e => ?_
      obtain ⟨rfl, _⟩ := e
      refine sim_pure ?_
      have hn : ∀ f : Addr → Addr, (if a3 = a1 then (none : Option Addr) else Option.map f none) = none := fun f => by split <;> rfl
      simp only [hn]
      exact .nilSlice _ _
    | slice e ho hl =>
      refine sim_bind (sim_sliceBounds true _ hl (by rcases ho with rfl | ⟨n, rfl, rfl⟩ <;> omega) (rl.mono le) (rh.mono le)) fun E2 le2 a b h => ?_
      obtain ⟨a1, a2, a3⟩ := a
      obtain ⟨b1, b2, b3⟩ := b
      simp only at h
      obtain ⟨rfl, rfl, h1, h2, rfl, rfl⟩ := h
      refine sim_bind (sim_sizeOf elem) fun E3 le3 x y e' => ?_
      obtain ⟨rfl, _⟩ := e'
      rename_i b0 o0 s0 l0 b0' op0 _
      have := VR.sub (E := E3) (a := ⟨b0, o0, s0⟩) (size := x) (le3 _ _ (le2 _ _ e)) rfl ho h1 h2
      refine sim_pure ?_
      have hn : ∀ (f : Addr → Addr) (c : Nat) (q : Addr), (if c = a1 then some q else Option.map f (some q)) = some (if c = a1 then q else f q) := fun f c q => by split <;> rfl
      simp only [hn]
      exact this
    | empty e =>
      refine sim_bind (sim_sliceBounds true 0 (Nat.le_refl 0) (Nat.zero_le _) (rl.mono le) (rh.mono le)) fun E2 le2 a b h => ?_
      obtain ⟨a1, a2, a3⟩ := a
      obtain ⟨b1, b2, b3⟩ := b
      simp only at h
      obtain ⟨rfl, rfl, h1, h2, rfl, rfl⟩ := h
      refine sim_bind (sim_sizeOf elem) fun E3 le3 x y e' => ?_
      obtain ⟨rfl, _⟩ := e'
      have z1 : a2 = 0 := by omega
      have z2 : a1 = 0 := by omega
      subst z1 z2
      refine sim_pure ?_
      have hn : ∀ (c : Nat) (q : Addr), (if c = 0 then some q else Option.map (fun q : Addr => q.add (0 * x)) (some q)) = some q := fun c q => by split <;> simp [addr_add0]
      simp only [hn, Nat.sub_zero]
      exact .empty (le3 _ _ (le2 _ _ e))
    | _ => exact sim_none fun _ => rfl
  | pointer arr =>
    refine sim_bind (sim_asAddr r') fun E2 le2 a b ra => ?_
    refine sim_bind (sim_underlying arr) fun E3 le3 d d' e => ?_
    obtain ⟨rfl, _⟩ := e
    cases d with
    | array n elem =>
      refine sim_bind (sim_sliceBounds false n (Nat.le_refl n) (Nat.le_refl n) (((rl.mono le).mono le2).mono le3) (((rh.mono le).mono le2).mono le3)) fun E4 le4 p q h => ?_
      obtain ⟨a1, a2, a3⟩ := p
      obtain ⟨b1, b2, b3⟩ := q
      simp only at h
      obtain ⟨rfl, rfl, h1, h2, rfl, rfl⟩ := h
      refine sim_bind (sim_sizeOf elem) fun E5 le5 x y e' => ?_
      obtain ⟨rfl, _⟩ := e'
      obtain ⟨b', op, eb, rfl⟩ := ra
      exact sim_pure (VR.sub (le5 _ _ (le4 _ _ (le3 _ _ eb))) rfl (.inl rfl) h1 h2)
    | _ => exact sim_none fun _ => rfl
  | _ => cases r' <;> exact sim_none fun _ => rfl
theorem sim_sliceAt (t : TypeId) {v v' : Value} (r : VR E v v') {lo lo' hi hi' : Option Value} (rl : OV E lo lo') (rh : OV E hi hi') : Sim P w0 E VR (Instr.sliceAt t v lo hi none) (Instr.sliceAt t v' lo' hi' none) := by
  refine sim_bind (sim_underlying t) fun E' le d d' e => ?_
  obtain ⟨rfl, _⟩ := e
  cases d with
  | array n elem =>
    refine sim_bind (sim_sureAddr (r.mono le)) fun E2 le2 a b ra => ?_
    refine sim_bind (sim_sliceBounds false n (Nat.le_refl n) (Nat.le_refl n) ((rl.mono le).mono le2) ((rh.mono le).mono le2)) fun E4 le4 p q h => ?_
    obtain ⟨a1, a2, a3⟩ := p
    obtain ⟨b1, b2, b3⟩ := q
    simp only at h
    obtain ⟨rfl, rfl, h1, h2, rfl, rfl⟩ := h
    refine sim_bind (sim_sizeOf elem) fun E5 le5 x y e' => ?_
    obtain ⟨rfl, _⟩ := e'
    obtain ⟨b', op, eb, rfl⟩ := ra
    exact sim_pure (VR.sub (le5 _ _ (le4 _ _ eb)) rfl (.inl rfl) h1 h2)
  | _ => exact sim_slice t (r.mono le) (rl.mono le) (rh.mono le)
end
end Go.Ab
