/- An abstract memory: blocks by numbers of its own; what it says of a world. Values are related by a partial map of block numbers; a block may be 'open': then the world's may be longer. -/
import Derived.Calls
import Derived.Wp
namespace Go.Ab
set_option linter.unusedSimpArgs false
set_option linter.unusedVariables false

/-- A finite map from numbers to blocks; a mark: is the block open (may the world's be longer)? -/
inductive Tr where
  | leaf
  | node (l : Tr) (o : Option (Obj × Bool)) (r : Tr)
def Tr.get : Tr → Nat → Option (Obj × Bool)
  | .leaf, _ => none
  | .node l o r, n => cond (Nat.beq n 0) o (cond (Nat.beq (n % 2) 1) (l.get (n / 2)) (r.get (n / 2 - 1)))
def Tr.set : Nat → Tr → Nat → Option (Obj × Bool) → Tr
  | 0, t, _, _ => t
  | f + 1, .leaf, n, x => cond (Nat.beq n 0) (.node .leaf x .leaf) (cond (Nat.beq (n % 2) 1) (.node (Tr.set f .leaf (n / 2) x) none .leaf) (.node .leaf none (Tr.set f .leaf (n / 2 - 1) x)))
  | f + 1, .node l o r, n, x => cond (Nat.beq n 0) (.node l x r) (cond (Nat.beq (n % 2) 1) (.node (Tr.set f l (n / 2) x) o r) (.node l o (Tr.set f r (n / 2 - 1) x)))
theorem beq_false {n m : Nat} (h : n ≠ m) : Nat.beq n m = false := by
  cases h' : Nat.beq n m with
  | true => exact absurd (Nat.eq_of_beq_eq_true h') h
  | false => rfl
theorem beq_true (n : Nat) : Nat.beq n n = true := Nat.beq_refl n
theorem Tr.get_set : ∀ (f : Nat) (t : Tr) (n : Nat) (x : Option (Obj × Bool)) (m : Nat), n + 1 < 2 ^ f → (Tr.set f t n x).get m = if m = n then x else t.get m := by
  intro f
  induction f with
  | zero => intro t n x m h; simp at h
  | succ f ih =>
    intro t n x m h
    have h2 : 2 ^ (f + 1) = 2 * 2 ^ f := by rw [Nat.pow_succ, Nat.mul_comm]
    rw [h2] at h
    by_cases hn : n = 0
    · subst hn
      cases t <;> (simp only [Tr.set, beq_true, cond_true, Tr.get]; by_cases hm : m = 0 <;> simp [hm, beq_true, beq_false, Tr.get])
    · by_cases h1 : n % 2 = 1
      · have hk : n / 2 + 1 < 2 ^ f := by omega
        cases t <;>
          (simp only [Tr.set, beq_false hn, h1, beq_true, cond_true, cond_false, Tr.get]
           by_cases hm : m = 0
           · simp [hm, beq_true, Ne.symm hn]
           · by_cases hm1 : m % 2 = 1
             · simp only [beq_false hm, hm1, beq_true, cond_true, cond_false, ih _ _ _ _ hk, Tr.get]
               have : m / 2 = n / 2 ↔ m = n := by omega
               simp [this]
             · have : m ≠ n := by omega
               simp [beq_false hm, beq_false hm1, this, Tr.get])
      · have hk : n / 2 - 1 + 1 < 2 ^ f := by omega
        cases t <;>
          (simp only [Tr.set, beq_false hn, beq_false h1, cond_true, cond_false, Tr.get]
           by_cases hm : m = 0
           · simp [hm, beq_true, Ne.symm hn]
           · by_cases hm1 : m % 2 = 1
             · have : m ≠ n := by omega
               simp [beq_false hm, hm1, beq_true, this, Tr.get]
             · simp only [beq_false hm, beq_false hm1, cond_true, cond_false, ih _ _ _ _ hk, Tr.get]
               have : m / 2 - 1 = n / 2 - 1 ↔ m = n := by omega
               simp [this])

/-- The abstract memory; blocks below 'base' are not written; 'next' is fresh. -/
structure AH where
  t : Tr
  base : Nat
  next : Nat
def AH.get (h : AH) (b : Nat) : Option (Obj × Bool) := h.t.get b
def depth : Nat := 40
def AH.set (h : AH) (b : Nat) (x : Option (Obj × Bool)) : AH := { h with t := Tr.set depth h.t b x }
def AH.push (h : AH) (o : Obj) (op : Bool) : AH := { t := Tr.set depth h.t h.next (some (o, op)), base := h.base, next := h.next + 1 }
def AH.cell? (h : AH) (a : Addr) : Option Value :=
  match h.get a.block with
  | some (.cells c _ _, _) => if a.spot.isSome then none else c[a.off]?
  | _ => none
/-- The relation of the block numbers; of an open block: by how many elements the world's is longer. -/
abbrev Env := Nat → Option (Nat × Option Nat)
def Env.le (E E' : Env) : Prop := ∀ b x, E b = some x → E' b = some x
theorem Env.le_refl (E : Env) : E.le E := fun _ _ h => h
theorem Env.le_trans {E F G : Env} (h : E.le F) (g : F.le G) : E.le G := fun b x e => g b x (h b x e)

inductive FnR (E : Env) : Fn → Fn → Prop
  | func (f) : FnR E (.func f) (.func f)
  | method (n) : FnR E (.method n) (.method n)
  | methodOf (t n) : FnR E (.methodOf t n) (.methodOf t n)
  | via (t p f b) : FnR E (.via t p f b) (.via t p f b)
  | yield {l l'} : E l = some (l', none) → FnR E (.yield l) (.yield l')
theorem FnR.mono {E E' : Env} (h : E.le E') {f f' : Fn} (r : FnR E f f') : FnR E' f f' := by
  cases r with
  | func f => exact .func f
  | method n => exact .method n
  | methodOf t n => exact .methodOf t n
  | via t p f b => exact .via t p f b
  | yield e => exact .yield (h _ _ e)

inductive VR (E : Env) : Value → Value → Prop
  | bool (b) : VR E (.bool b) (.bool b)
  | int (k n) : VR E (.int k n) (.int k n)
  | float (k n) : VR E (.float k n) (.float k n)
  | string (s) : VR E (.string s) (.string s)
  | nilPtr : VR E (.pointer none) (.pointer none)
  | ptr {b o s b' op} : E b = some (b', op) → VR E (.pointer (some ⟨b, o, s⟩)) (.pointer (some ⟨b', o, s⟩))
  | nilSlice (l c) : VR E (.slice none l c) (.slice none l c)
  | slice {b o s l c b' op c'} : E b = some (b', op) → (c' = c ∨ ∃ n, op = some n ∧ c' = c + n) → l ≤ c → VR E (.slice (some ⟨b, o, s⟩) l c) (.slice (some ⟨b', o, s⟩) l c')
  | empty {b o s b' a' c' n} : E b = some (b', some n) → VR E (.slice (some ⟨b, o, s⟩) 0 0) (.slice (some a') 0 c')
  | nilMap : VR E (.map none) (.map none)
  | map {r r'} : E r = some (r', none) → VR E (.map (some r)) (.map (some r'))
  | func {fn fn' fs fs' cs cs'} : FnR E fn fn' → (h1 : fs.size = fs'.size) → (∀ i (h : i < fs.size), VR E fs[i] (fs'[i]'(h1 ▸ h))) → (h2 : cs.size = cs'.size) → (∀ i (h : i < cs.size), VR E cs[i] (cs'[i]'(h2 ▸ h))) → VR E (.func fn fs cs) (.func fn' fs' cs')
  | nilFunc : VR E .nilFunc .nilFunc
  | iface (t) {v v'} : VR E v v' → VR E (.iface t v) (.iface t v')
  | nilIface : VR E .nilIface .nilIface
  | agg {cs cs'} : (h : cs.size = cs'.size) → (∀ i (h1 : i < cs.size), VR E cs[i] (cs'[i]'(h ▸ h1))) → VR E (.agg cs) (.agg cs')
  | tuple {cs cs'} : (h : cs.size = cs'.size) → (∀ i (h1 : i < cs.size), VR E cs[i] (cs'[i]'(h ▸ h1))) → VR E (.tuple cs) (.tuple cs')
theorem VR.mono {E E' : Env} (h : E.le E') {v v' : Value} (r : VR E v v') : VR E' v v' := by
  induction r with
  | bool b => exact .bool b
  | int k n => exact .int k n
  | float k n => exact .float k n
  | string s => exact .string s
  | nilPtr => exact .nilPtr
  | ptr e => exact .ptr (h _ _ e)
  | nilSlice l c => exact .nilSlice l c
  | slice e o l => exact .slice (h _ _ e) o l
  | empty e => exact .empty (h _ _ e)
  | nilMap => exact .nilMap
  | map e => exact .map (h _ _ e)
  | func f h1 _ h2 _ i1 i2 => exact .func (f.mono h) h1 i1 h2 i2
  | nilFunc => exact .nilFunc
  | iface t _ i => exact .iface t i
  | nilIface => exact .nilIface
  | agg e _ i => exact .agg e i
  | tuple e _ i => exact .tuple e i

/-- Rows of values. -/
def VRs (E : Env) (cs cs' : Array Value) : Prop := ∃ h : cs.size = cs'.size, ∀ i (h1 : i < cs.size), VR E cs[i] (cs'[i]'(h ▸ h1))
theorem VRs.mono {E E' : Env} (h : E.le E') {v v' : Array Value} (r : VRs E v v') : VRs E' v v' := ⟨r.1, fun i hi => (r.2 i hi).mono h⟩
theorem VRs.size {E : Env} {v v' : Array Value} (r : VRs E v v') : v.size = v'.size := r.1
theorem VRs.get? {E : Env} {v v' : Array Value} (r : VRs E v v') (i : Nat) : (v[i]? = none ∧ v'[i]? = none) ∨ ∃ x x', v[i]? = some x ∧ v'[i]? = some x' ∧ VR E x x' := by
  by_cases h : i < v.size
  · have h' : i < v'.size := r.1 ▸ h
    exact .inr ⟨v[i], v'[i], by simp [h], by simp [h'], r.2 i h⟩
  · have h' : ¬ i < v'.size := r.1 ▸ h
    exact .inl ⟨by simp; omega, by simp; omega⟩
theorem VRs.empty (E : Env) : VRs E #[] #[] := ⟨rfl, fun i h => by simp at h⟩
theorem VRs.push {E : Env} {v v' : Array Value} (r : VRs E v v') {x x' : Value} (h : VR E x x') : VRs E (v.push x) (v'.push x') := by
  refine ⟨by simp [r.1], fun i hi => ?_⟩
  rw [Array.getElem_push, Array.getElem_push]
  have := r.1
  by_cases hlt : i < v.size
  · rw [dif_pos hlt, dif_pos (this ▸ hlt)]; exact r.2 i hlt
  · rw [dif_neg hlt, dif_neg (this ▸ hlt)]; exact h
theorem VRs.set {E : Env} {v v' : Array Value} (r : VRs E v v') {x x' : Value} (h : VR E x x') (n : Nat) : VRs E (v.setIfInBounds n x) (v'.setIfInBounds n x') := by
  refine ⟨by simp [r.1], fun i hi => ?_⟩
  rw [Array.getElem_setIfInBounds, Array.getElem_setIfInBounds]
  by_cases e : n = i
  · simp only [e, if_true]; exact h
  · simp only [e, if_false]; exact r.2 i (by simpa using hi)
theorem VRs.append {E : Env} {v v' u u' : Array Value} (r : VRs E v v') (s : VRs E u u') : VRs E (v ++ u) (v' ++ u') := by
  refine ⟨by simp [r.1, s.1], fun i hi => ?_⟩
  rw [Array.getElem_append, Array.getElem_append]
  have := r.1
  by_cases hlt : i < v.size
  · rw [dif_pos hlt, dif_pos (this ▸ hlt)]; exact r.2 i hlt
  · rw [dif_neg hlt, dif_neg (this ▸ hlt)]
    have h2 : i - v.size < u.size := by simp at hi; omega
    have h3 := s.2 (i - v.size) h2
    simp only [this] at h3 ⊢
    exact h3
theorem VRs.extract {E : Env} {v v' : Array Value} (r : VRs E v v') (a b : Nat) : VRs E (v.extract a b) (v'.extract a b) := by
  refine ⟨by simp [r.1], fun i hi => ?_⟩
  simp only [Array.getElem_extract]
  simp only [Array.size_extract] at hi
  have h2 : a + i < v.size := by omega
  exact r.2 (a + i) h2
theorem VR.agg' {E : Env} {cs cs' : Array Value} (h : VRs E cs cs') : VR E (.agg cs) (.agg cs') := .agg h.1 h.2
theorem VR.tuple' {E : Env} {cs cs' : Array Value} (h : VRs E cs cs') : VR E (.tuple cs) (.tuple cs') := .tuple h.1 h.2
theorem VR.one {E : Env} {v v' : Value} (h : VR E v v') : VRs E #[v] #[v'] := ⟨rfl, fun i hi => by
  have : i = 0 := by simpa using hi
  subst this; exact h⟩
theorem VR.cells {E : Env} {v v' : Value} (h : VR E v v') : VRs E v.cells v'.cells := by
  cases h with
  | agg e i => exact ⟨e, i⟩
  | func f h1 g1 h2 g2 => exact VR.one (.func f h1 g1 h2 g2)
  | bool b => exact VR.one (.bool b)
  | int k n => exact VR.one (.int k n)
  | float k n => exact VR.one (.float k n)
  | string s => exact VR.one (.string s)
  | nilPtr => exact VR.one .nilPtr
  | ptr e => exact VR.one (.ptr e)
  | nilSlice l c => exact VR.one (.nilSlice l c)
  | slice e o l => exact VR.one (.slice e o l)
  | empty e => exact VR.one (.empty e)
  | nilMap => exact VR.one .nilMap
  | map e => exact VR.one (.map e)
  | nilFunc => exact VR.one .nilFunc
  | iface t i => exact VR.one (.iface t i)
  | nilIface => exact VR.one .nilIface
  | tuple e i => exact VR.one (.tuple e i)
theorem VR.undef (E : Env) : VR E undef undef := .tuple rfl (fun i h => by simp at h)
theorem VR.oneCell {E : Env} {v v' : Value} (h : VR E v v') : v'.oneCell = v.oneCell := by cases h <;> rfl
end Go.Ab
