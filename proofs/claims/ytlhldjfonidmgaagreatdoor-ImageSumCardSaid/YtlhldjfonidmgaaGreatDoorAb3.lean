/- Operations run over the abstract memory; what such a run says of a run in a world. -/
import Derived.Test.YtlhldjfonidmgaaGreatDoorAb2
import Derived.Laws.Tables
namespace Go.Ab
set_option linter.unusedSimpArgs false
set_option linter.unusedVariables false
set_option linter.unusedSectionVars false

def arun (P : Program) {α : Type} : Sem α → AH → Option (α × AH)
  | .pure a, h => some (a, h)
  | .load _ a k, h => match h.cell? a with
    | some v => arun P (k v) h
    | none => none
  | .store _ a v k, h => match h.get a.block with
    | some (.cells c t (lo, hi), op) =>
      if a.spot.isNone && Nat.blt a.off c.size && !(Nat.ble lo a.off && Nat.blt a.off hi) && v.oneCell && Nat.ble h.base a.block then
        arun P k (h.set a.block (some (.cells (c.setIfInBounds a.off v) t (lo, hi), op)))
      else none
    | _ => none
  | .new o k, h => if Nat.blt (h.next + 2) (2 ^ depth) && Nat.ble h.base h.next then arun P (k h.next) (h.push o false) else none
  | .shape _ _, _ => none
  | .freeze _ _ _, _ => none
  | .frozen _ _, _ => none
  | .getObj r k, h => match h.get r with
    | some (.cells .., _) => none
    | some (o, _) => arun P (k o) h
    | none => none
  | .setObj r o k, h => match h.get r, o with
    | some (.cells .., _), _ => none
    | some _, .cells .. => none
    | some (_, op), o => if Nat.ble h.base r then arun P k (h.set r (some (o, op))) else none
    | none, _ => none
  | .choose q k, h => if q.forced then arun P (k 0) h else none
  | .sys _ _, _ => none
  | .program k, h => arun P (k P) h
  | .mark _ k, h => arun P k h
  | .halt _, _ => none

theorem arun_bind' {P : Program} {α β : Type} (s : Sem α) (f : α → Sem β) (h : AH) : arun P (s.bind f) h = (arun P s h).bind fun x => arun P (f x.1) x.2 := by
  induction s generalizing h with
  | pure a => rfl
  | load m a k ih => simp only [Sem.bind, arun]; split <;> simp [ih]
  | store m a v k ih => simp only [Sem.bind, arun]; (repeat' split) <;> simp [ih]
  | new o k ih => simp only [Sem.bind, arun]; split <;> simp [ih]
  | shape r k ih => rfl
  | freeze a n k ih => rfl
  | frozen a k ih => rfl
  | getObj r k ih => simp only [Sem.bind, arun]; split <;> simp [ih]
  | setObj r o k ih => simp only [Sem.bind, arun]; (repeat' split) <;> simp [ih]
  | choose q k ih => simp only [Sem.bind, arun]; split <;> simp [ih]
  | sys c k ih => rfl
  | program k ih => simp only [Sem.bind, arun]; exact ih _ _
  | mark m k ih => simp only [Sem.bind, arun]; exact ih _
  | halt h => rfl
theorem arun_bind {P : Program} {α β : Type} (s : Sem α) (f : α → Sem β) (h : AH) : arun P (s >>= f) h = (arun P s h).bind fun x => arun P (f x.1) x.2 := arun_bind' s f h

/-- An abstract run says what a run does. -/
def Sim (P : Program) (w0 : W0) {α β : Type} (E : Env) (R : Env → α → β → Prop) (s : Sem α) (s' : Sem β) : Prop :=
  ∀ h a h', arun P s h = some (a, h') → ∀ w, HR P w0 E h w → ∃ E' b w', E.le E' ∧ R E' a b ∧ s'.run P w = .ok b w' ∧ HR P w0 E' h' w'
section
variable {P : Program} {w0 : W0} {α β γ δ : Type} {E : Env}
theorem sim_none {R : Env → α → β → Prop} {s : Sem α} {s' : Sem β} (hn : ∀ x, arun P s x = none) : Sim P w0 E R s s' := fun x a h' e => by rw [hn] at e; cases e
theorem sim_halt {R : Env → α → β → Prop} (x : Halt) (s' : Sem β) : Sim P w0 E R (.halt x) s' := sim_none fun _ => rfl
theorem sim_stuck {R : Env → α → β → Prop} (x : String) (s' : Sem β) : Sim P w0 E R (stuck x) s' := sim_none fun _ => rfl
theorem sim_unsupported {R : Env → α → β → Prop} (x : Unsupported) (s' : Sem β) : Sim P w0 E R (unsupported x) s' := sim_none fun _ => rfl
theorem sim_pure {R : Env → α → β → Prop} {a : α} {b : β} (r : R E a b) : Sim P w0 E R (Pure.pure a) (Pure.pure b) := fun h a' h' e w H => by
  cases e
  exact ⟨E, b, w, E.le_refl, r, rfl, H⟩
theorem sim_bind {R : Env → α → β → Prop} {R' : Env → γ → δ → Prop} {s : Sem α} {s' : Sem β} {k : α → Sem γ} {k' : β → Sem δ} (h1 : Sim P w0 E R s s') (h2 : ∀ E', E.le E' → ∀ a b, R E' a b → Sim P w0 E' R' (k a) (k' b)) :
    Sim P w0 E R' (s >>= k) (s' >>= k') := fun h a h' e w H => by
  rw [arun_bind] at e
  cases hs : arun P s h with
  | none => rw [hs] at e; cases e
  | some x =>
    rw [hs] at e
    obtain ⟨a1, h1'⟩ := x
    obtain ⟨E1, b1, w1, le1, r1, e1, H1⟩ := h1 h a1 h1' hs w H
    obtain ⟨E2, b2, w2, le2, r2, e2, H2⟩ := h2 E1 le1 a1 b1 r1 h1' a h' e w1 H1
    exact ⟨E2, b2, w2, Env.le_trans le1 le2, r2, by rw [Sem.run_bind, e1]; exact e2, H2⟩
theorem sim_mono {R R' : Env → α → β → Prop} {s : Sem α} {s' : Sem β} (h : Sim P w0 E R s s') (hr : ∀ E' a b, R E' a b → R' E' a b) : Sim P w0 E R' s s' := fun x a h' e w H =>
  let ⟨E1, b1, w1, le1, r1, e1, H1⟩ := h x a h' e w H
  ⟨E1, b1, w1, le1, hr _ _ _ r1, e1, H1⟩
theorem sim_program : Sim P w0 E (fun _ a b => a = P ∧ b = P) program program := fun h a h' e w H => by
  cases e
  exact ⟨E, P, w, E.le_refl, ⟨rfl, rfl⟩, rfl, H⟩
theorem sim_mark (m m' : Mark) : Sim P w0 E (fun _ _ _ => True) (mark m) (mark m') := fun h a h' e w H => by
  cases e
  exact ⟨E, (), w, E.le_refl, trivial, rfl, H⟩
theorem sim_underlying (t : TypeId) : Sim P w0 E (fun _ a b => a = b ∧ P.underlying t = some a) (underlying t) (underlying t) := by
  refine sim_bind sim_program fun E' le a b r => ?_
  rw [r.1, r.2]
  cases h : P.underlying t with
  | none => exact sim_stuck _ _
  | some d => exact sim_pure ⟨rfl, rfl⟩
theorem sim_typeInfo (t : TypeId) : Sim P w0 E (fun _ a b => a = b ∧ P.info? t = some a) (typeInfo t) (typeInfo t) := by
  refine sim_bind sim_program fun E' le a b r => ?_
  rw [r.1, r.2]
  cases h : P.info? t with
  | none => exact sim_stuck _ _
  | some d => exact sim_pure ⟨rfl, rfl⟩
theorem sim_sizeOf (t : TypeId) : Sim P w0 E (fun _ a b => a = b ∧ ∃ i, P.info? t = some i ∧ a = i.size) (sizeOf t) (sizeOf t) :=
  sim_bind (sim_typeInfo t) fun E' le a b r => by
    obtain ⟨rfl, r⟩ := r
    exact sim_pure ⟨rfl, a, r, rfl⟩
theorem sim_isAgg (t : TypeId) : Sim P w0 E (fun _ a b => a = b) (isAgg t) (isAgg t) := by
  refine sim_bind (sim_underlying t) fun E' le a b r => ?_
  obtain ⟨rfl, r⟩ := r
  cases a <;> exact sim_pure rfl
/-- All zero values are plain. -/
def ZerosFlat (P : Program) : Prop := ∀ t i z, t < P.types.size → P.info? t = some i → i.zero = some z → isFlat 4 z = true
theorem sim_zeroValue (hz : ZerosFlat P) (t : TypeId) (ht : t < P.types.size) : Sim P w0 E VR (zeroValue t) (zeroValue t) := by
  refine sim_bind (sim_typeInfo t) fun E' le a b r => ?_
  obtain ⟨rfl, r⟩ := r
  cases h : a.zero with
  | none => exact sim_unsupported _ _
  | some z => exact sim_pure (flat_refl 4 (hz t a z ht r h))
/-- Addresses. -/
def AR (E : Env) (a a' : Addr) : Prop := ∃ b op, E a.block = some (b, op) ∧ a' = at' a b
theorem AR.mono {E E' : Env} (h : E.le E') {a a' : Addr} (r : AR E a a') : AR E' a a' := let ⟨b, op, e, x⟩ := r; ⟨b, op, h _ _ e, x⟩
theorem AR.add {a a' : Addr} (r : AR E a a') (n : Nat) : AR E (a.add n) (a'.add n) := by
  obtain ⟨b, op, e, rfl⟩ := r
  refine ⟨b, op, ?_, ?_⟩
  · unfold Addr.add; split <;> exact e
  · unfold Addr.add at'; split <;> rfl
theorem AR.ptr {a a' : Addr} (r : AR E a a') : VR E (.pointer (some a)) (.pointer (some a')) := by
  obtain ⟨b, op, e, rfl⟩ := r
  exact .ptr e
theorem sim_load {a a' : Addr} (r : AR E a a') (m : Mode) : Sim P w0 E VR (load a m) (load a' m) := fun h v h' e w H => by
  obtain ⟨b, op, eb, rfl⟩ := r
  simp only [Go.load, arun] at e
  cases hc : h.cell? a with
  | none => rw [hc] at e; cases e
  | some x =>
    rw [hc] at e
    cases e
    obtain ⟨v', hv, rv⟩ := H.cell hc eb
    exact ⟨E, v', w, E.le_refl, rv, by rw [run_load, hv], H⟩
theorem sim_store {a a' : Addr} (r : AR E a a') {v v' : Value} (rv : VR E v v') (m : Mode) : Sim P w0 E (fun _ _ _ => True) (store a v m) (store a' v' m) := fun h u h' e w H => by
  obtain ⟨b, op, eb, rfl⟩ := r
  simp only [Go.store, arun] at e
  split at e
  · rename_i c t lo hi p hg
    split at e
    · rename_i hc
      cases e
      simp only [Bool.and_eq_true, Nat.blt_eq, Nat.ble_eq, Bool.not_eq_true', Bool.and_eq_false_iff] at hc
      obtain ⟨⟨⟨⟨h1, h2⟩, h3⟩, h4⟩, h5⟩ := hc
      obtain ⟨b1, op1, c', fr', eb1, ef, hw, s1, s2, s3⟩ := H.row hg eb
      rw [eb] at eb1
      cases eb1
      have hsp : a.spot = none := Option.isNone_iff_eq_none.1 h1
      have hlt : a.off < c'.size := by omega
      have hcell : w.cell? (at' a b) = some c'[a.off] := by
        simp [World.cell?, at', hw, hlt, hsp]
      have hfr : w.frozen? (at' a b) = false := by
        have h6 : ¬ (lo ≤ a.off ∧ a.off < hi) := fun hh => by
          rcases h3 with h3 | h3
          · rw [Nat.ble_eq_true_of_le hh.1] at h3; cases h3
          · rw [show Nat.blt a.off hi = true by rw [Nat.blt_eq]; exact hh.2] at h3; cases h3
        have h7 : ¬ (fr'.1 ≤ a.off ∧ a.off < fr'.2) := fun hh => h6 ((s2 a.off hlt).1 hh).2
        obtain ⟨lo', hi'⟩ := fr'
        have h8 : (decide (lo' ≤ a.off) && decide (a.off < hi')) = false := by
          simp only at h7
          rw [Bool.and_eq_false_iff, decide_eq_false_iff_not, decide_eq_false_iff_not]
          omega
        simp only [World.frozen?, at', hw]
        exact h8
      have hr : ObjR P E op (.cells (c.setIfInBounds a.off v) t (lo, hi)) (.cells (c'.setIfInBounds a.off v') t fr') := by
        refine .cells (by simpa using s1) (fun i g => by simpa using s2 i (by simpa using g)) (fun i g1 g2 => ?_)
        rw [Array.getElem_setIfInBounds, Array.getElem_setIfInBounds]
        by_cases hi' : a.off = i
        · simp only [hi', if_true]; exact rv
        · simp only [hi', if_false]; exact s3 i (by simpa using g1) (by simpa using g2)
      refine ⟨E, (), w.setCell (at' a b) v', E.le_refl, trivial, ?_, ?_⟩
      · cases rv <;> first | (simp [Value.oneCell] at h4; done) | simp [Go.store, Sem.run, hcell, hfr]
      · have := H.put hg h5 eb hr
        rw [ef] at this
        have hset : w.setCell (at' a b) v' = { w with heap := w.heap.setIfInBounds b (.cells (c'.setIfInBounds a.off v') t fr') } := by
          have hb := (Array.getElem?_eq_some_iff.1 hw)
          obtain ⟨hbl, hbe⟩ := hb
          have hns : a.spot.isSome = false := by rw [hsp]; rfl
          simp only [World.setCell, at']
          congr 1
          apply Array.ext
          · simp
          · intro i g1 g2
            have g3 : i < w.heap.size := by simpa using g2
            rw [Array.getElem_modify g1, Array.getElem_setIfInBounds g3]
            by_cases hbi : b = i
            · subst hbi
              simp [hbe, hns]
            · simp [hbi]
        rw [hset]; exact this
    · cases e
  · cases e
theorem sim_newObj {o o' : Obj} (r : ObjR P E none o o') : Sim P w0 E (fun E' a b => E' a = some (b, none)) (newObj o) (newObj o') := fun h v h' e w H => by
  simp only [Go.newObj, arun] at e
  split at e
  · rename_i hc
    cases e
    simp only [Bool.and_eq_true, Nat.blt_eq, Nat.ble_eq] at hc
    have le := H.ext_le (w.heap.size, none)
    exact ⟨_, w.heap.size, _, le, by simp [Env.ext], rfl, H.push (r.mono le) hc.1 hc.2⟩
  · cases e
theorem sim_newRow {t : TypeId} {c c' : Array Value} (r : VRs E c c') : Sim P w0 E AR (newRow t c) (newRow t c') :=
  sim_bind (sim_newObj (.row r)) fun E' le a b e => sim_pure ⟨b, none, e, rfl⟩
theorem sim_newVar {t : TypeId} {v v' : Value} (r : VR E v v') : Sim P w0 E AR (newVar t v) (newVar t v') := sim_newRow r.cells
theorem sim_loadCellsFrom {a a' : Addr} : ∀ (n i : Nat) (E : Env) (_ : AR E a a') (acc acc' : Array Value), VRs E acc acc' → Sim P w0 E VRs (loadCellsFrom a i n acc) (loadCellsFrom a' i n acc')
  | 0, i, E, r, acc, acc', h => sim_pure h
  | n + 1, i, E, r, acc, acc', h => sim_bind (sim_load (r.add i) _) fun E' le v v' rv => sim_loadCellsFrom n (i + 1) E' (r.mono le) _ _ ((h.mono le).push rv)
theorem sim_loadCells {a a' : Addr} (r : AR E a a') (n : Nat) : Sim P w0 E VRs (loadCells a n) (loadCells a' n) := sim_loadCellsFrom n 0 E r _ _ (VRs.empty E)
inductive VL (E : Env) : List Value → List Value → Prop
  | nil : VL E [] []
  | cons {v v' l l'} : VR E v v' → VL E l l' → VL E (v :: l) (v' :: l')
theorem VL.mono {E E' : Env} (h : E.le E') {l l' : List Value} (r : VL E l l') : VL E' l l' := by
  induction r with
  | nil => exact .nil
  | cons a _ i => exact .cons (a.mono h) i
theorem VL.of : ∀ (l l' : List Value), l.length = l'.length → (∀ i (h : i < l.length) (h' : i < l'.length), VR E l[i] l'[i]) → VL E l l'
  | [], [], _, _ => .nil
  | [], _ :: _, h, _ => by simp at h
  | _ :: _, [], h, _ => by simp at h
  | v :: l, v' :: l', h, r => .cons (r 0 (by simp) (by simp)) (VL.of l l' (by simpa using h) fun i h1 h2 => by
    have := r (i + 1) (by simpa using h1) (by simpa using h2)
    simpa only [List.getElem_cons_succ] using this)
theorem VRs.list {c c' : Array Value} (r : VRs E c c') : VL E c.toList c'.toList := VL.of _ _ (by simpa using r.1) fun i h h' => by
  simpa using r.2 i (by simpa using h)
theorem sim_storeCells {a a' : Addr} : ∀ (E : Env) (_ : AR E a a') (l l' : List Value) (_ : VL E l l') (i : Nat), Sim P w0 E (fun _ _ _ => True) (storeCells a l i) (storeCells a' l' i)
  | E, r, [], l', h, i => by cases h; exact sim_pure trivial
  | E, r, v :: l, l', h, i => by
    cases h with
    | cons rv h => exact sim_bind (sim_store (r.add i) rv _) fun E' le _ _ _ => sim_storeCells E' (r.mono le) l _ (h.mono le) (i + 1)
theorem sim_loadVar (t : TypeId) {a a' : Addr} (r : AR E a a') : Sim P w0 E VR (loadVar t a) (loadVar t a') := by
  refine sim_bind (sim_isAgg t) fun E1 le1 x y e => ?_
  subst e
  cases x with
  | true =>
    refine sim_bind (sim_sizeOf t) fun E2 le2 n n' e2 => ?_
    obtain ⟨rfl, _⟩ := e2
    exact sim_bind (sim_loadCells ((r.mono le1).mono le2) n) fun E3 le3 c c' rc => sim_pure (VR.agg' rc)
  | false => exact sim_load (r.mono le1) _
theorem sim_storeVar (t : TypeId) {a a' : Addr} (r : AR E a a') {v v' : Value} (rv : VR E v v') : Sim P w0 E (fun _ _ _ => True) (storeVar t a v) (storeVar t a' v') := by
  refine sim_bind (sim_sizeOf t) fun E1 le1 n n' e => ?_
  obtain ⟨rfl, _⟩ := e
  have hs := rv.cells.size
  rw [← hs]
  by_cases hc : v.cells.size ≠ n
  · rw [if_pos hc, if_pos hc]
    exact sim_none fun _ => rfl
  · rw [if_neg hc, if_neg hc]
    exact sim_storeCells E1 (r.mono le1) _ _ (rv.mono le1).cells.list 0
end
end Go.Ab
