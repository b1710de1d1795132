/- Built values, made slices, lengths, copies, maps. -/
import Derived.Test.YtlhldjfonidmgaaGreatDoorAb6
import Derived.Great.BuildSlice
import Derived.Laws.MakeOwn
import Derived.Deep.AppendSrc
namespace Go.Ab
set_option linter.unusedSimpArgs false
set_option linter.unusedVariables false
set_option linter.unusedSectionVars false
section
variable {P : Program} {w0 : W0} {α β : Type} {E : Env}
/-- Parts of a composite. -/
inductive PL (E : Env) : List (Nat × Value) → List (Nat × Value) → Prop
  | nil : PL E [] []
  | cons {i v v' l l'} : VR E v v' → PL E l l' → PL E ((i, v) :: l) ((i, v') :: l')
theorem PL.map {ι : Type} (l : List ι) (i : ι → Nat) (f g : ι → Value) (h : ∀ x ∈ l, VR E (f x) (g x)) : PL E (l.map fun x => (i x, f x)) (l.map fun x => (i x, g x)) := by
  induction l with
  | nil => exact .nil
  | cons a l ih => exact .cons (h a List.mem_cons_self) (ih fun x hx => h x (List.mem_cons_of_mem _ hx))
theorem foldl_set (off : Nat) : ∀ (l l' : List Value) (j : Nat) (cs cs' : Array Value), VL E l l' → VRs E cs cs' →
    VRs E ((l.zipIdx j).foldl (fun (cs : Array Value) (x : Value × Nat) => cs.setIfInBounds (off + x.2) x.1) cs) ((l'.zipIdx j).foldl (fun (cs : Array Value) (x : Value × Nat) => cs.setIfInBounds (off + x.2) x.1) cs')
  | [], _, j, cs, cs', h, r => by cases h; exact r
  | v :: l, _, j, cs, cs', h, r => by
    cases h with
    | cons hv h => exact foldl_set off l _ (j + 1) _ _ h (r.set hv _)
theorem fill_rel (place : Nat → Option (Nat × Nat)) : ∀ (l l' : List (Nat × Value)) (cs cs' c : Array Value), PL E l l' → VRs E cs cs' → Instr.fill place cs l = some c → ∃ c', Instr.fill place cs' l' = some c' ∧ VRs E c c'
  | [], _, cs, cs', c, h, r, e => by
    cases h
    simp only [Instr.fill, Option.some.injEq] at e
    subst e
    exact ⟨cs', rfl, r⟩
  | (i, v) :: l, _, cs, cs', c, h, r, e => by
    cases h with
    | @cons _ _ v' _ l' hv h =>
      simp only [Instr.fill] at e ⊢
      cases hp : place i with
      | none => rw [hp] at e; cases e
      | some q =>
        obtain ⟨off, size⟩ := q
        rw [hp] at e
        simp only at e ⊢
        have hs := hv.cells.size
        have hr := r.size
        rw [← hs, ← hr]
        split at e
        · cases e
        · rename_i hc
          rw [if_neg hc]
          refine fill_rel place l l' _ _ c h ?_ e
          have := foldl_set (E := E) off v.cells.toList v'.cells.toList 0 cs cs' hv.cells.list r
          rw [← Array.foldl_toList, ← Array.foldl_toList, Array.toList_zipIdx, Array.toList_zipIdx]
          exact this
theorem built_rel (hz : ZerosFlat P) (t : TypeId) (ht : t < P.types.size) {l l' : List (Nat × Value)} (h : PL E l l') {c : Array Value} (e : P.built t l = some c) : ∃ c', P.built t l' = some c' ∧ VRs E c c' := by
  unfold Program.built at e ⊢
  split at e
  · rename_i it n el hi hu
    split at e
    · rename_i z ie hz' hie
      exact fill_rel _ _ _ _ _ _ h (flat_refl 4 (hz t it z ht hi hz')).cells e
    · cases e
  · rename_i it fields hi hu
    split at e
    · rename_i z places hz' hp
      exact fill_rel _ _ _ _ _ _ h (flat_refl 4 (hz t it z ht hi hz')).cells e
    · cases e
  · cases e
/-- A row of values that stand for themselves. -/
theorem flats_refl {cs : Array Value} (h : cs.toList.all (isFlat 4) = true) : VRs E cs cs := ⟨rfl, fun i hi => flat_refl 4 (all_at h i hi)⟩
/-- buildSlice, abstractly. -/
def aBuildSlice (P : Program) (t : TypeId) (len : Nat) (parts : List (Nat × Value)) : Option (TypeId × Array Value) :=
  match P.underlying t with
  | some (.slice e) => match P.info? e with
    | some ie => match ie.zero with
      | some z => if len * ie.size > 2 ^ 24 then none else
        if len * ie.size = 0 then (if parts.isEmpty then some (e, #[]) else none)
        else
          let zs := (Array.range (len * ie.size)).map (z.cells[· % z.cells.size]!)
          if zs.toList.all (isFlat 4) then (Instr.fill (fun i => some (i * ie.size, ie.size)) zs parts).map fun c => (e, c) else none
      | none => none
    | none => none
  | _ => none
theorem run_buildSlice0 (w : World) (t e : TypeId) (len : Nat) (ie : TypeInfo) (hu : P.underlying t = some (.slice e)) (hie : P.info? e = some ie) (hsmall : ¬ len * ie.size > 2 ^ 24) (h0 : len * ie.size = 0) :
    (Instr.buildSlice t len #[]).run P w = .ok (.slice (some ⟨w.heap.size, 0, none⟩) len len) (w.alloc (.cells #[] e)) := by
  simp [Instr.buildSlice, run_underlying hu, sizeOf, typeInfo, zeroValue, hie, hsmall, h0, newRow, Instr.fill]
  congr 2
  apply Array.ext'
  simp [List.range_zero]
theorem aBuildSlice_run (hz : ZerosFlat P) (t : TypeId) (len : Nat) {l : List (Nat × Value)} {parts' : Array (Nat × Value)} (h : PL E l parts'.toList) {e : TypeId} {c : Array Value} (eq : aBuildSlice P t len l = some (e, c)) :
    ∃ c', VRs E c c' ∧ ∀ w : World, (Instr.buildSlice t len parts').run P w = .ok (.slice (some ⟨w.heap.size, 0, none⟩) len len) (w.alloc (.cells c' e)) := by
  unfold aBuildSlice at eq
  split at eq
  · rename_i e1 hu
    split at eq
    · rename_i ie hie
      split at eq
      · rename_i z hz'
        split at eq
        · cases eq
        · rename_i hsmall
          split at eq
          · rename_i h0
            split at eq
            · rename_i hemp
              cases eq
              have hl : l = [] := List.isEmpty_iff.1 hemp
              subst hl
              have hp : parts'.toList = [] := by cases hq : parts'.toList with
                | nil => rfl
                | cons a b => rw [hq] at h; cases h
              have hp' : parts' = #[] := by rw [← Array.toList_inj]; exact hp
              subst hp'
              exact ⟨#[], VRs.empty E, fun w => run_buildSlice0 w t _ len ie hu hie hsmall h0⟩
            · cases eq
          · rename_i h0
            simp only at eq
            split at eq
            · rename_i hfl
              cases hf : Instr.fill (fun i => some (i * ie.size, ie.size)) ((Array.range (len * ie.size)).map (z.cells[· % z.cells.size]!)) l with
              | none => rw [hf] at eq; cases eq
              | some c1 =>
                rw [hf] at eq
                cases eq
                obtain ⟨c', hc', r⟩ := fill_rel _ _ _ _ _ _ h (flats_refl (E := E) hfl) hf
                exact ⟨c', r, fun w => run_buildSlice w t _ len parts' c' ie z hu hie hz' hsmall h0 hc'⟩
            · cases eq
      · cases eq
    · cases eq
  · cases eq
/-- A new block in a world, by 'alloc'. -/
theorem alloc_eq (w : World) (o : Obj) : w.alloc o = { w with heap := w.heap.push o } := rfl
end
end Go.Ab
