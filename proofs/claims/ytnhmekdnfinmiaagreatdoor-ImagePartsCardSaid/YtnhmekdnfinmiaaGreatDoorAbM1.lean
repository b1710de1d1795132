/- Texts of this proof, merged (printed by wip/pmerge.py out of AbM1). -/
import Derived.Calls
import Derived.Wp
import Derived.Laws.Tables
import Derived.Great.BuildSlice
import Derived.Laws.MakeOwn
import Derived.Deep.AppendSrc
import Derived.Deep.Upon
import Derived.Laws.IdiomStrings
import Derived.Laws.BytesArg
import Derived.Lib.Builder
import Derived.Lib.UnsafeStr
import Derived.KernelRfl
/- Texts of this proof, merged (printed by wip/pmerge.py out of AbM1). -/
/- The executor, part 1 of 4 (printed by wip/merge.py out of the texts Ab1 to Ab38). -/
/- An abstract memory: blocks by numbers of its own; what it says of a world. Values are related by a partial map of block numbers; a block may be 'open': then the world's may be longer. -/
namespace Go.Ab
set_option linter.unusedSimpArgs false
set_option linter.unusedVariables false

inductive Tr where
  | leaf
  | node (l : Tr) (o : Option (Obj × Bool)) (r : Tr)
def Tr.get : Tr → Nat → Option (Obj × Bool)
  | .leaf, _ => none
  | .node l o r, n => cond (Nat.beq n 0) o (cond (Nat.beq (n % 2) 1) (l.get (n / 2)) (r.get (n / 2 - 1)))
def Tr.set : Nat → Tr → Nat → Option (Obj × Bool) → Tr
  | 0, t, _, _ => t
  | f + 1, .leaf, n, x => cond (Nat.beq n 0) (.node .leaf x .leaf) (cond (Nat.beq (n % 2) 1) (.node (Tr.set f .leaf (n / 2) x) none .leaf) (.node .leaf none (Tr.set f .leaf (n / 2 - 1) x)))
  | f + 1, .node l o r, n, x => cond (Nat.beq n 0) (.node l x r) (cond (Nat.beq (n % 2) 1) (.node (Tr.set f l (n / 2) x) o r) (.node l o (Tr.set f r (n / 2 - 1) x)))
theorem beq_false {n m : Nat} (h : n ≠ m) : Nat.beq n m = false := by
  cases h' : Nat.beq n m with
  | true => exact absurd (Nat.eq_of_beq_eq_true h') h
  | false => rfl
theorem beq_true (n : Nat) : Nat.beq n n = true := Nat.beq_refl n
theorem Tr.get_set : ∀ (f : Nat) (t : Tr) (n : Nat) (x : Option (Obj × Bool)) (m : Nat), n + 1 < 2 ^ f → (Tr.set f t n x).get m = if m = n then x else t.get m := by
  intro f
  induction f with
  | zero => intro t n x m h; simp at h
  | succ f ih =>
    intro t n x m h
    have h2 : 2 ^ (f + 1) = 2 * 2 ^ f := by rw [Nat.pow_succ, Nat.mul_comm]
    rw [h2] at h
    by_cases hn : n = 0
    · subst hn
      cases t <;> (simp only [Tr.set, beq_true, cond_true, Tr.get]; by_cases hm : m = 0 <;> simp [hm, beq_true, beq_false, Tr.get])
    · by_cases h1 : n % 2 = 1
      · have hk : n / 2 + 1 < 2 ^ f := by omega
        cases t <;>
          (simp only [Tr.set, beq_false hn, h1, beq_true, cond_true, cond_false, Tr.get]
           by_cases hm : m = 0
           · simp [hm, beq_true, Ne.symm hn]
           · by_cases hm1 : m % 2 = 1
             · simp only [beq_false hm, hm1, beq_true, cond_true, cond_false, ih _ _ _ _ hk, Tr.get]
               have : m / 2 = n / 2 ↔ m = n := by omega
               simp [this]
             · have : m ≠ n := by omega
               simp [beq_false hm, beq_false hm1, this, Tr.get])
      · have hk : n / 2 - 1 + 1 < 2 ^ f := by omega
        cases t <;>
          (simp only [Tr.set, beq_false hn, beq_false h1, cond_true, cond_false, Tr.get]
           by_cases hm : m = 0
           · simp [hm, beq_true, Ne.symm hn]
           · by_cases hm1 : m % 2 = 1
             · have : m ≠ n := by omega
               simp [beq_false hm, hm1, beq_true, this, Tr.get]
             · simp only [beq_false hm, beq_false hm1, cond_true, cond_false, ih _ _ _ _ hk, Tr.get]
               have : m / 2 - 1 = n / 2 - 1 ↔ m = n := by omega
               simp [this])

structure AH where
  t : Tr
  base : Nat
  next : Nat
def AH.get (h : AH) (b : Nat) : Option (Obj × Bool) := h.t.get b
def depth : Nat := 40
def AH.set (h : AH) (b : Nat) (x : Option (Obj × Bool)) : AH := { h with t := Tr.set depth h.t b x }
def AH.push (h : AH) (o : Obj) (op : Bool) : AH := { t := Tr.set depth h.t h.next (some (o, op)), base := h.base, next := h.next + 1 }
def AH.cell? (h : AH) (a : Addr) : Option Value :=
  match h.get a.block with
  | some (.cells c _ _, _) => if a.spot.isSome then none else c[a.off]?
  | _ => none
abbrev Env := Nat → Option (Nat × Option Nat)
def Env.le (E E' : Env) : Prop := ∀ b x, E b = some x → E' b = some x
theorem Env.le_refl (E : Env) : E.le E := fun _ _ h => h
theorem Env.le_trans {E F G : Env} (h : E.le F) (g : F.le G) : E.le G := fun b x e => g b x (h b x e)

inductive FnR (E : Env) : Fn → Fn → Prop
  | func (f) : FnR E (.func f) (.func f)
  | method (n) : FnR E (.method n) (.method n)
  | methodOf (t n) : FnR E (.methodOf t n) (.methodOf t n)
  | via (t p f b) : FnR E (.via t p f b) (.via t p f b)
  | yield {l l'} : E l = some (l', none) → FnR E (.yield l) (.yield l')
theorem FnR.mono {E E' : Env} (h : E.le E') {f f' : Fn} (r : FnR E f f') : FnR E' f f' := by
  cases r with
  | func f => exact .func f
  | method n => exact .method n
  | methodOf t n => exact .methodOf t n
  | via t p f b => exact .via t p f b
  | yield e => exact .yield (h _ _ e)

inductive VR (E : Env) : Value → Value → Prop
  | bool (b) : VR E (.bool b) (.bool b)
  | int (k n) : VR E (.int k n) (.int k n)
  | float (k n) : VR E (.float k n) (.float k n)
  | string (s) : VR E (.string s) (.string s)
  | nilPtr : VR E (.pointer none) (.pointer none)
  | ptr {b o s b' op} : E b = some (b', op) → VR E (.pointer (some ⟨b, o, s⟩)) (.pointer (some ⟨b', o, s⟩))
  | nilSlice (l c) : VR E (.slice none l c) (.slice none l c)
  | slice {b o s l c b' op c'} : E b = some (b', op) → (c' = c ∨ ∃ n, op = some n ∧ c' = c + n) → l ≤ c → VR E (.slice (some ⟨b, o, s⟩) l c) (.slice (some ⟨b', o, s⟩) l c')
  | empty {b o s b' a' c' n} : E b = some (b', some n) → VR E (.slice (some ⟨b, o, s⟩) 0 0) (.slice (some a') 0 c')
  | nilMap : VR E (.map none) (.map none)
  | map {r r'} : E r = some (r', none) → VR E (.map (some r)) (.map (some r'))
  | func {fn fn' fs fs' cs cs'} : FnR E fn fn' → (h1 : fs.size = fs'.size) → (∀ i (h : i < fs.size), VR E fs[i] (fs'[i]'(h1 ▸ h))) → (h2 : cs.size = cs'.size) → (∀ i (h : i < cs.size), VR E cs[i] (cs'[i]'(h2 ▸ h))) → VR E (.func fn fs cs) (.func fn' fs' cs')
  | nilFunc : VR E .nilFunc .nilFunc
  | iface (t) {v v'} : VR E v v' → VR E (.iface t v) (.iface t v')
  | nilIface : VR E .nilIface .nilIface
  | agg {cs cs'} : (h : cs.size = cs'.size) → (∀ i (h1 : i < cs.size), VR E cs[i] (cs'[i]'(h ▸ h1))) → VR E (.agg cs) (.agg cs')
  | tuple {cs cs'} : (h : cs.size = cs'.size) → (∀ i (h1 : i < cs.size), VR E cs[i] (cs'[i]'(h ▸ h1))) → VR E (.tuple cs) (.tuple cs')
theorem VR.mono {E E' : Env} (h : E.le E') {v v' : Value} (r : VR E v v') : VR E' v v' := by
  induction r with
  | bool b => exact .bool b
  | int k n => exact .int k n
  | float k n => exact .float k n
  | string s => exact .string s
  | nilPtr => exact .nilPtr
  | ptr e => exact .ptr (h _ _ e)
  | nilSlice l c => exact .nilSlice l c
  | slice e o l => exact .slice (h _ _ e) o l
  | empty e => exact .empty (h _ _ e)
  | nilMap => exact .nilMap
  | map e => exact .map (h _ _ e)
  | func f h1 _ h2 _ i1 i2 => exact .func (f.mono h) h1 i1 h2 i2
  | nilFunc => exact .nilFunc
  | iface t _ i => exact .iface t i
  | nilIface => exact .nilIface
  | agg e _ i => exact .agg e i
  | tuple e _ i => exact .tuple e i

def VRs (E : Env) (cs cs' : Array Value) : Prop := ∃ h : cs.size = cs'.size, ∀ i (h1 : i < cs.size), VR E cs[i] (cs'[i]'(h ▸ h1))
theorem VRs.mono {E E' : Env} (h : E.le E') {v v' : Array Value} (r : VRs E v v') : VRs E' v v' := ⟨r.1, fun i hi => (r.2 i hi).mono h⟩
theorem VRs.size {E : Env} {v v' : Array Value} (r : VRs E v v') : v.size = v'.size := r.1
theorem VRs.get? {E : Env} {v v' : Array Value} (r : VRs E v v') (i : Nat) : (v[i]? = none ∧ v'[i]? = none) ∨ ∃ x x', v[i]? = some x ∧ v'[i]? = some x' ∧ VR E x x' := by
  by_cases h : i < v.size
  · have h' : i < v'.size := r.1 ▸ h
    exact .inr ⟨v[i], v'[i], by simp [h], by simp [h'], r.2 i h⟩
  · have h' : ¬ i < v'.size := r.1 ▸ h
    exact .inl ⟨by simp; omega, by simp; omega⟩
theorem VRs.empty (E : Env) : VRs E #[] #[] := ⟨rfl, fun i h => by simp at h⟩
theorem VRs.push {E : Env} {v v' : Array Value} (r : VRs E v v') {x x' : Value} (h : VR E x x') : VRs E (v.push x) (v'.push x') := by
  refine ⟨by simp [r.1], fun i hi => ?_⟩
  rw [Array.getElem_push, Array.getElem_push]
  have := r.1
  by_cases hlt : i < v.size
  · rw [dif_pos hlt, dif_pos (this ▸ hlt)]; exact r.2 i hlt
  · rw [dif_neg hlt, dif_neg (this ▸ hlt)]; exact h
theorem VRs.set {E : Env} {v v' : Array Value} (r : VRs E v v') {x x' : Value} (h : VR E x x') (n : Nat) : VRs E (v.setIfInBounds n x) (v'.setIfInBounds n x') := by
  refine ⟨by simp [r.1], fun i hi => ?_⟩
  rw [Array.getElem_setIfInBounds, Array.getElem_setIfInBounds]
  by_cases e : n = i
  · simp only [e, if_true]; exact h
  · simp only [e, if_false]; exact r.2 i (by simpa using hi)
theorem VRs.append {E : Env} {v v' u u' : Array Value} (r : VRs E v v') (s : VRs E u u') : VRs E (v ++ u) (v' ++ u') := by
  refine ⟨by simp [r.1, s.1], fun i hi => ?_⟩
  rw [Array.getElem_append, Array.getElem_append]
  have := r.1
  by_cases hlt : i < v.size
  · rw [dif_pos hlt, dif_pos (this ▸ hlt)]; exact r.2 i hlt
  · rw [dif_neg hlt, dif_neg (this ▸ hlt)]
    have h2 : i - v.size < u.size := by simp at hi; omega
    have h3 := s.2 (i - v.size) h2
    simp only [this] at h3 ⊢
    exact h3
theorem VRs.extract {E : Env} {v v' : Array Value} (r : VRs E v v') (a b : Nat) : VRs E (v.extract a b) (v'.extract a b) := by
  refine ⟨by simp [r.1], fun i hi => ?_⟩
  simp only [Array.getElem_extract]
  simp only [Array.size_extract] at hi
  have h2 : a + i < v.size := by omega
  exact r.2 (a + i) h2
theorem VR.agg' {E : Env} {cs cs' : Array Value} (h : VRs E cs cs') : VR E (.agg cs) (.agg cs') := .agg h.1 h.2
theorem VR.tuple' {E : Env} {cs cs' : Array Value} (h : VRs E cs cs') : VR E (.tuple cs) (.tuple cs') := .tuple h.1 h.2
theorem VR.one {E : Env} {v v' : Value} (h : VR E v v') : VRs E #[v] #[v'] := ⟨rfl, fun i hi => by
  have : i = 0 := by simpa using hi
  subst this; exact h⟩
theorem VR.cells {E : Env} {v v' : Value} (h : VR E v v') : VRs E v.cells v'.cells := by
  cases h with
  | agg e i => exact ⟨e, i⟩
  | func f h1 g1 h2 g2 => exact VR.one (.func f h1 g1 h2 g2)
  | bool b => exact VR.one (.bool b)
  | int k n => exact VR.one (.int k n)
  | float k n => exact VR.one (.float k n)
  | string s => exact VR.one (.string s)
  | nilPtr => exact VR.one .nilPtr
  | ptr e => exact VR.one (.ptr e)
  | nilSlice l c => exact VR.one (.nilSlice l c)
  | slice e o l => exact VR.one (.slice e o l)
  | empty e => exact VR.one (.empty e)
  | nilMap => exact VR.one .nilMap
  | map e => exact VR.one (.map e)
  | nilFunc => exact VR.one .nilFunc
  | iface t i => exact VR.one (.iface t i)
  | nilIface => exact VR.one .nilIface
  | tuple e i => exact VR.one (.tuple e i)
theorem VR.undef (E : Env) : VR E undef undef := .tuple rfl (fun i h => by simp at h)
theorem VR.oneCell {E : Env} {v v' : Value} (h : VR E v v') : v'.oneCell = v.oneCell := by cases h <;> rfl
end Go.Ab
/- What the abstract memory says of a world; reading, writing, new blocks. -/
namespace Go.Ab
set_option linter.unusedSimpArgs false
set_option linter.unusedVariables false

def isFlat : Nat → Value → Bool
  | _, .bool _ | _, .int _ _ | _, .float _ _ | _, .string _ | _, .pointer none | _, .slice none _ _ | _, .map none | _, .nilFunc | _, .nilIface => true
  | n + 1, .iface _ v => isFlat n v
  | n + 1, .agg cs => cs.toList.all (isFlat n)
  | n + 1, .tuple cs => cs.toList.all (isFlat n)
  | n + 1, .func (.func _) fs cs => fs.toList.all (isFlat n) && cs.toList.all (isFlat n)
  | _, _ => false
theorem arr_ext {cs cs' : Array Value} (h : cs.size = cs'.size) (hi : ∀ i (h1 : i < cs.size), cs'[i]'(h ▸ h1) = cs[i]) : cs' = cs := by
  refine Array.ext h.symm (fun i h1 h2 => hi i h2)
theorem all_at {cs : Array Value} {p : Value → Bool} (h : cs.toList.all p = true) (i : Nat) (hi : i < cs.size) : p cs[i] = true := by
  rw [List.all_eq_true] at h
  exact h _ (by simp)
theorem flat_eq {E : Env} : ∀ (n : Nat) {v v' : Value}, isFlat n v = true → VR E v v' → v' = v := by
  intro n
  induction n with
  | zero => intro v v' h r; cases r <;> first | rfl | (simp [isFlat] at h)
  | succ n ih =>
    intro v v' h r
    cases r with
    | iface t r => simp only [isFlat] at h; rw [ih h r]
    | agg e i => simp only [isFlat] at h; rw [arr_ext e (fun k hk => ih (all_at h k hk) (i k hk))]
    | tuple e i => simp only [isFlat] at h; rw [arr_ext e (fun k hk => ih (all_at h k hk) (i k hk))]
    | func f h1 g1 h2 g2 =>
      cases f with
      | func f =>
        simp only [isFlat, Bool.and_eq_true] at h
        rw [arr_ext h1 (fun k hk => ih (all_at h.1 k hk) (g1 k hk)), arr_ext h2 (fun k hk => ih (all_at h.2 k hk) (g2 k hk))]
      | _ => simp [isFlat] at h
    | _ => first | rfl | (simp [isFlat] at h)
theorem flat_refl {E : Env} : ∀ (n : Nat) {v : Value}, isFlat n v = true → VR E v v := by
  intro n
  induction n with
  | zero =>
    intro v h
    cases v with
    | bool b => exact .bool b
    | int k n => exact .int k n
    | float k n => exact .float k n
    | string s => exact .string s
    | pointer a => cases a with | none => exact .nilPtr | some a => simp [isFlat] at h
    | slice a l c => cases a with | none => exact .nilSlice l c | some a => simp [isFlat] at h
    | map a => cases a with | none => exact .nilMap | some a => simp [isFlat] at h
    | nilFunc => exact .nilFunc
    | nilIface => exact .nilIface
    | _ => simp [isFlat] at h
  | succ n ih =>
    intro v h
    cases v with
    | bool b => exact .bool b
    | int k n => exact .int k n
    | float k n => exact .float k n
    | string s => exact .string s
    | pointer a => cases a with | none => exact .nilPtr | some a => simp [isFlat] at h
    | slice a l c => cases a with | none => exact .nilSlice l c | some a => simp [isFlat] at h
    | map a => cases a with | none => exact .nilMap | some a => simp [isFlat] at h
    | nilFunc => exact .nilFunc
    | nilIface => exact .nilIface
    | iface t v => simp only [isFlat] at h; exact .iface t (ih h)
    | agg cs => simp only [isFlat] at h; exact .agg rfl (fun i hi => ih (all_at h i hi))
    | tuple cs => simp only [isFlat] at h; exact .tuple rfl (fun i hi => ih (all_at h i hi))
    | func f fs cs =>
      cases f with
      | func f =>
        simp only [isFlat, Bool.and_eq_true] at h
        exact .func (.func f) rfl (fun i hi => ih (all_at h.1 i hi)) rfl (fun i hi => ih (all_at h.2 i hi))
      | _ => simp [isFlat] at h
    | _ => simp [isFlat] at h

inductive TargetR (E : Env) : Target → Target → Prop
  | fn {f f' cs cs'} : FnR E f f' → VRs E cs cs' → TargetR E (.fn f cs) (.fn f' cs')
  | nil : TargetR E .nil .nil
  | builtin (b ts t cs) : TargetR E (.builtin b ts t cs) (.builtin b ts t cs)
  | collected {r r'} : E r = some (r', none) → TargetR E (.collected r) (.collected r')
theorem TargetR.mono {E E' : Env} (h : E.le E') {t t' : Target} (r : TargetR E t t') : TargetR E' t t' := by
  cases r with
  | fn f c => exact .fn (f.mono h) (c.mono h)
  | nil => exact .nil
  | builtin b ts t cs => exact .builtin b ts t cs
  | collected e => exact .collected (h _ _ e)
structure DefR (E : Env) (d d' : Deferred) : Prop where
  t : TargetR E d.target d'.target
  a : VRs E d.args d'.args
theorem DefR.mono {E E' : Env} (h : E.le E') {d d' : Deferred} (r : DefR E d d') : DefR E' d d' := ⟨r.t.mono h, r.a.mono h⟩
inductive DefsR (E : Env) : List Deferred → List Deferred → Prop
  | nil : DefsR E [] []
  | cons {d d' l l'} : DefR E d d' → DefsR E l l' → DefsR E (d :: l) (d' :: l')
theorem DefsR.mono {E E' : Env} (h : E.le E') {l l' : List Deferred} (r : DefsR E l l') : DefsR E' l l' := by
  induction r with
  | nil => exact .nil
  | cons d _ i => exact .cons (d.mono h) i
theorem DefsR.append {E : Env} {l l' m m' : List Deferred} (r : DefsR E l l') (s : DefsR E m m') : DefsR E (l ++ m) (l' ++ m') := by
  induction r with
  | nil => exact s
  | cons d _ i => exact .cons d i
structure LoopR (E : Env) (L L' : Loop) : Prop where
  state : L'.state = L.state
  pending : L'.pending = L.pending
  fn : L'.fn = L.fn
  tmps : VRs E L.tmps L'.tmps
  params : L'.params = L.params
  assign : L'.assign = L.assign
  body : L'.body = L.body
  defers : E L.defers = some (L'.defers, none)
theorem LoopR.mono {E E' : Env} (h : E.le E') {d d' : Loop} (r : LoopR E d d') : LoopR E' d d' := ⟨r.state, r.pending, r.fn, r.tmps.mono h, r.params, r.assign, r.body, h _ _ r.defers⟩

def FzR (c c' : Array Value) (fr fr' : Nat × Nat) : Prop := ∀ i, i < c'.size → ((fr'.1 ≤ i ∧ i < fr'.2) ↔ (i < c.size ∧ fr.1 ≤ i ∧ i < fr.2))
inductive ObjR (P : Program) (E : Env) (op : Option Nat) : Obj → Obj → Prop
  | cells {c c' t fr fr'} : c'.size = c.size + op.getD 0 * P.cellsOf t → FzR c c' fr fr' → (∀ i (h : i < c.size) (h' : i < c'.size), VR E c[i] c'[i]) → ObjR P E op (.cells c t fr) (.cells c' t fr')
  | map {es k} : (∀ e ∈ es.toList, isFlat 4 e.key = true ∧ isFlat 4 e.val = true) → ObjR P E op (.map es k) (.map es k)
  | loop {L L'} : LoopR E L L' → ObjR P E op (.loop L) (.loop L')
  | taken : ObjR P E op (.deferred none) (.deferred none)
  | deferred {ds ds'} : DefsR E ds ds' → ObjR P E op (.deferred (some ds)) (.deferred (some ds'))
  | noIter (since seen last) : ObjR P E op (.mapIter none since seen last) (.mapIter none since seen last)
  | iter {m m'} (since seen last) : E m = some (m', none) → ObjR P E op (.mapIter (some m) since seen last) (.mapIter (some m') since seen last)
  | runes (s i) : ObjR P E op (.stringIter s i) (.stringIter s i)
theorem ObjR.mono {P : Program} {E E' : Env} (h : E.le E') {op : Option Nat} {o o' : Obj} (r : ObjR P E op o o') : ObjR P E' op o o' := by
  cases r with
  | cells a f c => exact .cells a f (fun i h1 h2 => (c i h1 h2).mono h)
  | map f => exact .map f
  | loop l => exact .loop (l.mono h)
  | taken => exact .taken
  | deferred d => exact .deferred (d.mono h)
  | noIter a b c => exact .noIter a b c
  | iter a b c e => exact .iter a b c (h _ _ e)
  | runes s i => exact .runes s i
theorem ObjR.row {P : Program} {E : Env} {c c' : Array Value} {t : TypeId} {fr : Nat × Nat} (h : VRs E c c') : ObjR P E none (.cells c t fr) (.cells c' t fr) :=
  .cells (by simp [h.1]) (fun i hi => ⟨fun k => ⟨h.1 ▸ hi, k⟩, fun k => k.2⟩) (fun i h1 _ => h.2 i h1)

structure Old (w0 w : World) : Prop where
  os : w.os = w0.os
  tape : w.tape = w0.tape
  output : w.output = w0.output
  size : w0.heap.size ≤ w.heap.size
  blk : ∀ k, k < w0.heap.size → w.heap[k]? = w0.heap[k]?
structure W0 where
  w : World
  Pd : Nat → Prop
structure HR (P : Program) (w0 : W0) (E : Env) (h : AH) (w : World) : Prop where
  dom : ∀ i x, E i = some x → i < h.next
  img : ∀ i b op, E i = some (b, op) → b < w.heap.size
  blk : ∀ i o fl, h.get i = some (o, fl) → ∀ {x}, E i = some x → ∃ b op o', E i = some (b, op) ∧ op.isSome = fl ∧ w.heap[b]? = some o' ∧ ObjR P E op o o'
  inj : ∀ i j b p q x y, h.get i = some x → h.get j = some y → E i = some (b, p) → E j = some (b, q) → i = j
  old : Old w0.w w
  own : ∀ i b op, h.base ≤ i → E i = some (b, op) → w0.w.heap.size ≤ b
  dep : h.next + 1 < 2 ^ depth
  lt : ∀ {i x}, h.get i = some x → i < h.next
  pend : ∀ i, w0.Pd i → E i = none ∧ i < h.next

def at' (a : Addr) (b : Nat) : Addr := { a with block := b }
section
variable {P : Program} {w0 : W0} {E : Env} {h : AH} {w : World}
theorem HR.row (H : HR P w0 E h w) {i : Nat} {c : Array Value} {t : TypeId} {fr : Nat × Nat} {fl : Bool} (hg : h.get i = some (.cells c t fr, fl)) {x : Nat × Option Nat} (ex : E i = some x) :
    ∃ b op c' fr', E i = some (b, op) ∧ op.isSome = fl ∧ w.heap[b]? = some (.cells c' t fr') ∧ c'.size = c.size + op.getD 0 * P.cellsOf t ∧ FzR c c' fr fr' ∧ ∀ k (h : k < c.size) (h' : k < c'.size), VR E c[k] c'[k] := by
  obtain ⟨b, op, o', e, ef, hb, r⟩ := H.blk i _ fl hg ex
  cases r with
  | cells a1 a2 a3 => exact ⟨b, op, _, _, e, ef, hb, a1, a2, a3⟩
theorem HR.cell (H : HR P w0 E h w) {a : Addr} {v : Value} (hv : h.cell? a = some v) {b' : Nat} {op : Option Nat} (hb : E a.block = some (b', op)) :
    ∃ v', w.cell? (at' a b') = some v' ∧ VR E v v' := by
  unfold AH.cell? at hv
  split at hv
  · rename_i c t fr p hg
    obtain ⟨b, op1, c', fr', e, ef, hw, h1, h2, h3⟩ := H.row hg hb
    rw [hb] at e
    cases e
    by_cases hs : a.spot.isSome = true
    · simp [hs] at hv
    · simp only [hs, if_false, Bool.false_eq_true] at hv
      obtain ⟨hk, rfl⟩ := Array.getElem?_eq_some_iff.1 hv
      have hk' : a.off < c'.size := by omega
      refine ⟨c'[a.off], ?_, h3 _ hk hk'⟩
      simp [World.cell?, at', hw, hs, hk']
  · cases hv
theorem HR.put (H : HR P w0 E h w) {i : Nat} {x : Obj × Bool} (hg : h.get i = some x) (hbase : h.base ≤ i) {o o' : Obj} {op : Option Nat} {b : Nat} (hb : E i = some (b, op)) (r : ObjR P E op o o') :
    HR P w0 E (h.set i (some (o, op.isSome))) { w with heap := w.heap.setIfInBounds b o' } := by
  have hi := H.lt hg
  have hd : i + 1 < 2 ^ depth := by have := H.dep; omega
  have hb0 := H.own i b op hbase hb
  have get : ∀ j, (h.set i (some (o, op.isSome))).get j = if j = i then some (o, op.isSome) else h.get j := fun j => Tr.get_set depth h.t i _ j hd
  refine ⟨H.dom, fun j c p e => by simpa using H.img j c p e, fun j oj p hj {xj} ej => ?_, fun j k c p q x y hj hk e1 e2 => ?_, ⟨H.old.os, H.old.tape, H.old.output, by simpa using H.old.size, fun k hk => ?_⟩, H.own, H.dep, fun {j} x hx => ?_, H.pend⟩
  · rw [get] at hj
    by_cases hji : j = i
    · subst hji
      simp only [if_true, Option.some.injEq, Prod.mk.injEq] at hj
      obtain ⟨rfl, rfl⟩ := hj
      exact ⟨b, op, o', hb, rfl, by simp [H.img _ _ _ hb], r⟩
    · simp only [hji, if_false] at hj
      obtain ⟨c, q, oj', e, ef, hc, rj⟩ := H.blk j oj p hj ej
      refine ⟨c, q, oj', e, ef, ?_, rj⟩
      have hne : b ≠ c := fun hbc => hji (H.inj j i c q op _ _ hj hg e (hbc ▸ hb))
      rw [Array.getElem?_setIfInBounds_ne hne]; exact hc
  · have live : ∀ j x, (h.set i (some (o, op.isSome))).get j = some x → ∃ y, h.get j = some y := fun j x hx => by
      rw [get] at hx
      by_cases e : j = i
      · exact ⟨_, e ▸ hg⟩
      · simp only [e, if_false] at hx; exact ⟨_, hx⟩
    obtain ⟨x', hx'⟩ := live j x hj
    obtain ⟨y', hy'⟩ := live k y hk
    exact H.inj j k c p q _ _ hx' hy' e1 e2
  · simp only
    rw [Array.getElem?_setIfInBounds_ne (by omega)]
    exact H.old.blk k hk
  · rw [get] at hx
    by_cases e : j = i
    · rw [e]; exact hi
    · simp only [e, if_false] at hx; exact H.lt hx
def Env.ext (E : Env) (i : Nat) (x : Nat × Option Nat) : Env := fun j => if j = i then some x else E j
theorem HR.ext_le (H : HR P w0 E h w) (x : Nat × Option Nat) : E.le (E.ext h.next x) := fun b y e => by
  have : b ≠ h.next := Nat.ne_of_lt (H.dom b y e)
  simp [Env.ext, this, e]
theorem HR.push (H : HR P w0 E h w) {o o' : Obj} {op : Option Nat} (r : ObjR P (E.ext h.next (w.heap.size, op)) op o o') (hn : h.next + 2 < 2 ^ depth) (hbase : h.base ≤ h.next) :
    HR P w0 (E.ext h.next (w.heap.size, op)) (h.push o op.isSome) { w with heap := w.heap.push o' } := by
  have hd := H.dep
  have le := H.ext_le (w.heap.size, op)
  have get : ∀ j, (h.push o op.isSome).get j = if j = h.next then some (o, op.isSome) else h.get j := fun j => Tr.get_set depth h.t h.next _ j hd
  have old : ∀ j x, h.get j = some x → j ≠ h.next := fun j x hx => Nat.ne_of_lt (H.lt hx)
  refine ⟨fun j x e => ?_, fun j c p e => ?_, fun j oj p hj {xj} ej => ?_, fun j k c p q x y hj hk e1 e2 => ?_, ⟨H.old.os, H.old.tape, H.old.output, ?_, fun k hk => ?_⟩, fun j c p hj e => ?_, hn, fun {j} x hx => ?_, fun j hj => ?_⟩
  · show j < h.next + 1
    by_cases hj : j = h.next
    · omega
    · simp only [Env.ext, hj, if_false] at e
      have := H.dom j x e; omega
  · show c < (w.heap.push o').size
    rw [Array.size_push]
    by_cases hj : j = h.next
    · simp only [Env.ext, hj, if_true, Option.some.injEq, Prod.mk.injEq] at e; omega
    · simp only [Env.ext, hj, if_false] at e
      have := H.img j c p e; omega
  · rw [get] at hj
    by_cases hji : j = h.next
    · subst hji
      simp only [if_true, Option.some.injEq, Prod.mk.injEq] at hj
      obtain ⟨rfl, rfl⟩ := hj
      exact ⟨w.heap.size, op, o', by simp [Env.ext], rfl, by simp, r⟩
    · simp only [hji, if_false] at hj
      simp only [Env.ext, hji, if_false] at ej
      obtain ⟨c, q, oj', e, ef, hc, rj⟩ := H.blk j oj p hj ej
      refine ⟨c, q, oj', le _ _ e, ef, ?_, rj.mono le⟩
      have := H.img j c q e
      rw [show ({ w with heap := w.heap.push o' } : World).heap = w.heap.push o' from rfl, Array.getElem?_push, if_neg (by omega)]; exact hc
  · rw [get] at hj hk
    by_cases hj' : j = h.next <;> by_cases hk' : k = h.next
    · omega
    · simp only [Env.ext, hj', if_true, hk', if_false, Option.some.injEq, Prod.mk.injEq] at e1 e2
      have := H.img k c q e2; omega
    · simp only [Env.ext, hj', if_true, hk', if_false, Option.some.injEq, Prod.mk.injEq] at e1 e2
      have := H.img j c p e1; omega
    · simp only [Env.ext, hj', hk', if_false] at e1 e2 hj hk
      exact H.inj j k c p q _ _ hj hk e1 e2
  · show w0.w.heap.size ≤ (w.heap.push o').size
    rw [Array.size_push]; have := H.old.size; omega
  · show (w.heap.push o')[k]? = _
    have := H.old.size
    rw [Array.getElem?_push, if_neg (by omega)]; exact H.old.blk k hk
  · by_cases hji : j = h.next
    · simp only [Env.ext, hji, if_true, Option.some.injEq, Prod.mk.injEq] at e
      have := H.old.size; omega
    · simp only [Env.ext, hji, if_false] at e
      exact H.own j c p hj e
  · rw [get] at hx
    show j < h.next + 1
    by_cases e : j = h.next
    · omega
    · simp only [e, if_false] at hx
      have := H.lt hx; omega
  · obtain ⟨h1, h2⟩ := H.pend j hj
    have : j ≠ h.next := by omega
    exact ⟨by simp [Env.ext, this, h1], by show j < h.next + 1; omega⟩
theorem HR.await (H : HR P w0 E h w) (o : Obj) (fl : Bool) (hn : h.next + 2 < 2 ^ depth) : HR P { w0 with Pd := fun i => w0.Pd i ∨ i = h.next } E (h.push o fl) w := by
  have get : ∀ j, (h.push o fl).get j = if j = h.next then some (o, fl) else h.get j := fun j => Tr.get_set depth h.t h.next _ j H.dep
  have hne : ∀ {j x}, E j = some x → j ≠ h.next := fun e => Nat.ne_of_lt (H.dom _ _ e)
  refine ⟨fun j x e => Nat.lt_succ_of_lt (H.dom j x e), H.img, fun j oj p hj {xj} ej => ?_, fun j k c p q x y hj hk e1 e2 => ?_, H.old, H.own, hn, fun {j} x hx => ?_, fun j hj => ?_⟩
  · rw [get, if_neg (hne ej)] at hj
    exact H.blk j oj p hj ej
  · rw [get, if_neg (hne e1)] at hj
    rw [get, if_neg (hne e2)] at hk
    exact H.inj j k c p q _ _ hj hk e1 e2
  · rw [get] at hx
    show j < h.next + 1
    by_cases e : j = h.next
    · omega
    · simp only [e, if_false] at hx
      have := H.lt hx; omega
  · show _ ∧ j < h.next + 1
    rcases hj with hj | rfl
    · obtain ⟨h1, h2⟩ := H.pend j hj
      exact ⟨h1, by omega⟩
    · refine ⟨?_, by omega⟩
      cases e : E h.next with
      | none => rfl
      | some x => exact absurd rfl (hne e)
theorem HR.weaken (H : HR P w0 E h w) {Pd : Nat → Prop} (hp : ∀ i, Pd i → w0.Pd i) : HR P { w0 with Pd := Pd } E h w :=
  ⟨H.dom, H.img, H.blk, H.inj, H.old, H.own, H.dep, H.lt, fun i hi => H.pend i (hp i hi)⟩
theorem HR.comes (H : HR P w0 E h w) {i : Nat} {o o' : Obj} (hg : h.get i = some (o, false)) (he : E i = none) (hp : ¬ w0.Pd i) (hbase : h.base ≤ i) (r : ObjR P (E.ext i (w.heap.size, none)) none o o') :
    E.le (E.ext i (w.heap.size, none)) ∧ HR P w0 (E.ext i (w.heap.size, none)) h { w with heap := w.heap.push o' } := by
  have le : E.le (E.ext i (w.heap.size, none)) := fun j x e => by
    have : j ≠ i := fun hj => by rw [hj, he] at e; cases e
    simp [Env.ext, this, e]
  refine ⟨le, fun j x e => ?_, fun j c p e => ?_, fun j oj p hj {xj} ej => ?_, fun j k c p q x y hj hk e1 e2 => ?_, ⟨H.old.os, H.old.tape, H.old.output, ?_, fun k hk => ?_⟩, fun j c p hj e => ?_, H.dep, H.lt, fun j hj => ?_⟩
  · by_cases hj : j = i
    · rw [hj]; exact H.lt hg
    · simp only [Env.ext, hj, if_false] at e; exact H.dom j x e
  · show c < (w.heap.push o').size
    rw [Array.size_push]
    by_cases hj : j = i
    · simp only [Env.ext, hj, if_true, Option.some.injEq, Prod.mk.injEq] at e; omega
    · simp only [Env.ext, hj, if_false] at e
      have := H.img j c p e; omega
  · by_cases hji : j = i
    · subst hji
      rw [hg] at hj
      cases hj
      exact ⟨w.heap.size, none, o', by simp [Env.ext], rfl, by simp, r⟩
    · simp only [Env.ext, hji, if_false] at ej
      obtain ⟨c, q, oj', e, ef, hc, rj⟩ := H.blk j oj p hj ej
      refine ⟨c, q, oj', le _ _ e, ef, ?_, rj.mono le⟩
      have := H.img j c q e
      rw [show ({ w with heap := w.heap.push o' } : World).heap = w.heap.push o' from rfl, Array.getElem?_push, if_neg (by omega)]; exact hc
  · by_cases hj' : j = i <;> by_cases hk' : k = i
    · omega
    · simp only [Env.ext, hj', if_true, hk', if_false, Option.some.injEq, Prod.mk.injEq] at e1 e2
      have := H.img k c q e2; omega
    · simp only [Env.ext, hj', if_true, hk', if_false, Option.some.injEq, Prod.mk.injEq] at e1 e2
      have := H.img j c p e1; omega
    · simp only [Env.ext, hj', hk', if_false] at e1 e2
      exact H.inj j k c p q _ _ hj hk e1 e2
  · show w0.w.heap.size ≤ (w.heap.push o').size
    rw [Array.size_push]; have := H.old.size; omega
  · show (w.heap.push o')[k]? = _
    have := H.old.size
    rw [Array.getElem?_push, if_neg (by omega)]; exact H.old.blk k hk
  · by_cases hji : j = i
    · simp only [Env.ext, hji, if_true, Option.some.injEq, Prod.mk.injEq] at e
      have := H.old.size; omega
    · simp only [Env.ext, hji, if_false] at e
      exact H.own j c p hj e
  · obtain ⟨h1, h2⟩ := H.pend j hj
    have : j ≠ i := fun e => hp (e ▸ hj)
    exact ⟨by simp [Env.ext, this, h1], h2⟩
theorem HR.kill (H : HR P w0 E h w) {i : Nat} (hi : i < h.next) : HR P w0 E (h.set i none) w := by
  have hd : i + 1 < 2 ^ depth := by have := H.dep; omega
  have get : ∀ j, (h.set i none).get j = if j = i then none else h.get j := fun j => Tr.get_set depth h.t i _ j hd
  refine ⟨H.dom, H.img, fun j oj p hj {xj} ej => ?_, fun j k c p q x y hj hk e1 e2 => ?_, H.old, H.own, H.dep, fun {j} x hx => ?_, H.pend⟩
  · rw [get] at hj
    by_cases hji : j = i
    · simp [hji] at hj
    · simp only [hji, if_false] at hj; exact H.blk j oj p hj ej
  · rw [get] at hj hk
    by_cases hji : j = i
    · simp [hji] at hj
    · by_cases hki : k = i
      · simp [hki] at hk
      · simp only [hji, hki, if_false] at hj hk
        exact H.inj j k c p q _ _ hj hk e1 e2
  · rw [get] at hx
    by_cases e : j = i
    · simp [e] at hx
    · simp only [e, if_false] at hx; exact H.lt hx
theorem HR.drawn (H : HR P w0 E h w) (n : Nat) : HR P w0 E h { w with drawn := n } := ⟨H.dom, H.img, H.blk, H.inj, ⟨H.old.os, H.old.tape, H.old.output, H.old.size, H.old.blk⟩, H.own, H.dep, H.lt, H.pend⟩
end
end Go.Ab
/- Operations run over the abstract memory; what such a run says of a run in a world. -/
namespace Go.Ab
set_option linter.unusedSimpArgs false
set_option linter.unusedVariables false
set_option linter.unusedSectionVars false

def arun (P : Program) {α : Type} : Sem α → AH → Option (α × AH)
  | .pure a, h => some (a, h)
  | .load _ a k, h => match h.cell? a with
    | some v => arun P (k v) h
    | none => none
  | .store _ a v k, h => match h.get a.block with
    | some (.cells c t (lo, hi), op) =>
      if a.spot.isNone && Nat.blt a.off c.size && !(Nat.ble lo a.off && Nat.blt a.off hi) && v.oneCell && Nat.ble h.base a.block then
        arun P k (h.set a.block (some (.cells (c.setIfInBounds a.off v) t (lo, hi), op)))
      else none
    | _ => none
  | .new o k, h => if Nat.blt (h.next + 2) (2 ^ depth) && Nat.ble h.base h.next then arun P (k h.next) (h.push o false) else none
  | .shape _ _, _ => none
  | .freeze _ _ _, _ => none
  | .frozen _ _, _ => none
  | .getObj r k, h => match h.get r with
    | some (.cells .., _) => none
    | some (o, _) => arun P (k o) h
    | none => none
  | .setObj r o k, h => match h.get r, o with
    | some (.cells .., _), _ => none
    | some _, .cells .. => none
    | some (_, op), o => if Nat.ble h.base r then arun P k (h.set r (some (o, op))) else none
    | none, _ => none
  | .choose q k, h => if q.forced then arun P (k 0) h else none
  | .sys _ _, _ => none
  | .program k, h => arun P (k P) h
  | .mark _ k, h => arun P k h
  | .halt _, _ => none

theorem arun_bind' {P : Program} {α β : Type} (s : Sem α) (f : α → Sem β) (h : AH) : arun P (s.bind f) h = (arun P s h).bind fun x => arun P (f x.1) x.2 := by
  induction s generalizing h with
  | pure a => rfl
  | load m a k ih => simp only [Sem.bind, arun]; split <;> simp [ih]
  | store m a v k ih => simp only [Sem.bind, arun]; (repeat' split) <;> simp [ih]
  | new o k ih => simp only [Sem.bind, arun]; split <;> simp [ih]
  | shape r k ih => rfl
  | freeze a n k ih => rfl
  | frozen a k ih => rfl
  | getObj r k ih => simp only [Sem.bind, arun]; split <;> simp [ih]
  | setObj r o k ih => simp only [Sem.bind, arun]; (repeat' split) <;> simp [ih]
  | choose q k ih => simp only [Sem.bind, arun]; split <;> simp [ih]
  | sys c k ih => rfl
  | program k ih => simp only [Sem.bind, arun]; exact ih _ _
  | mark m k ih => simp only [Sem.bind, arun]; exact ih _
  | halt h => rfl
theorem arun_bind {P : Program} {α β : Type} (s : Sem α) (f : α → Sem β) (h : AH) : arun P (s >>= f) h = (arun P s h).bind fun x => arun P (f x.1) x.2 := arun_bind' s f h

def Sim (P : Program) (w0 : W0) {α β : Type} (E : Env) (R : Env → α → β → Prop) (s : Sem α) (s' : Sem β) : Prop :=
  ∀ h a h', arun P s h = some (a, h') → ∀ w, HR P w0 E h w → ∃ E' b w', E.le E' ∧ R E' a b ∧ s'.run P w = .ok b w' ∧ HR P w0 E' h' w'
section
variable {P : Program} {w0 : W0} {α β γ δ : Type} {E : Env}
theorem sim_none {R : Env → α → β → Prop} {s : Sem α} {s' : Sem β} (hn : ∀ x, arun P s x = none) : Sim P w0 E R s s' := fun x a h' e => by rw [hn] at e; cases e
theorem sim_stuck {R : Env → α → β → Prop} (x : String) (s' : Sem β) : Sim P w0 E R (stuck x) s' := sim_none fun _ => rfl
theorem sim_unsupported {R : Env → α → β → Prop} (x : Unsupported) (s' : Sem β) : Sim P w0 E R (unsupported x) s' := sim_none fun _ => rfl
theorem sim_pure {R : Env → α → β → Prop} {a : α} {b : β} (r : R E a b) : Sim P w0 E R (Pure.pure a) (Pure.pure b) := fun h a' h' e w H => by
  cases e
  exact ⟨E, b, w, E.le_refl, r, rfl, H⟩
theorem sim_bind {R : Env → α → β → Prop} {R' : Env → γ → δ → Prop} {s : Sem α} {s' : Sem β} {k : α → Sem γ} {k' : β → Sem δ} (h1 : Sim P w0 E R s s') (h2 : ∀ E', E.le E' → ∀ a b, R E' a b → Sim P w0 E' R' (k a) (k' b)) :
    Sim P w0 E R' (s >>= k) (s' >>= k') := fun h a h' e w H => by
  rw [arun_bind] at e
  cases hs : arun P s h with
  | none => rw [hs] at e; cases e
  | some x =>
    rw [hs] at e
    obtain ⟨a1, h1'⟩ := x
    obtain ⟨E1, b1, w1, le1, r1, e1, H1⟩ := h1 h a1 h1' hs w H
    obtain ⟨E2, b2, w2, le2, r2, e2, H2⟩ := h2 E1 le1 a1 b1 r1 h1' a h' e w1 H1
    exact ⟨E2, b2, w2, Env.le_trans le1 le2, r2, by rw [Sem.run_bind, e1]; exact e2, H2⟩
theorem sim_mono {R R' : Env → α → β → Prop} {s : Sem α} {s' : Sem β} (h : Sim P w0 E R s s') (hr : ∀ E' a b, R E' a b → R' E' a b) : Sim P w0 E R' s s' := fun x a h' e w H =>
  let ⟨E1, b1, w1, le1, r1, e1, H1⟩ := h x a h' e w H
  ⟨E1, b1, w1, le1, hr _ _ _ r1, e1, H1⟩
theorem sim_program : Sim P w0 E (fun _ a b => a = P ∧ b = P) program program := fun h a h' e w H => by
  cases e
  exact ⟨E, P, w, E.le_refl, ⟨rfl, rfl⟩, rfl, H⟩
theorem sim_underlying (t : TypeId) : Sim P w0 E (fun _ a b => a = b ∧ P.underlying t = some a) (underlying t) (underlying t) := by
  refine sim_bind sim_program fun E' le a b r => ?_
  rw [r.1, r.2]
  cases h : P.underlying t with
  | none => exact sim_stuck _ _
  | some d => exact sim_pure ⟨rfl, rfl⟩
theorem sim_typeInfo (t : TypeId) : Sim P w0 E (fun _ a b => a = b ∧ P.info? t = some a) (typeInfo t) (typeInfo t) := by
  refine sim_bind sim_program fun E' le a b r => ?_
  rw [r.1, r.2]
  cases h : P.info? t with
  | none => exact sim_stuck _ _
  | some d => exact sim_pure ⟨rfl, rfl⟩
theorem sim_sizeOf (t : TypeId) : Sim P w0 E (fun _ a b => a = b ∧ ∃ i, P.info? t = some i ∧ a = i.size) (sizeOf t) (sizeOf t) :=
  sim_bind (sim_typeInfo t) fun E' le a b r => by
    obtain ⟨rfl, r⟩ := r
    exact sim_pure ⟨rfl, a, r, rfl⟩
theorem sim_isAgg (t : TypeId) : Sim P w0 E (fun _ a b => a = b) (isAgg t) (isAgg t) := by
  refine sim_bind (sim_underlying t) fun E' le a b r => ?_
  obtain ⟨rfl, r⟩ := r
  cases a <;> exact sim_pure rfl
def ZerosFlat (P : Program) : Prop := ∀ t i z, t < P.types.size → P.info? t = some i → i.zero = some z → isFlat 4 z = true
theorem sim_zeroValue (hz : ZerosFlat P) (t : TypeId) (ht : t < P.types.size) : Sim P w0 E VR (zeroValue t) (zeroValue t) := by
  refine sim_bind (sim_typeInfo t) fun E' le a b r => ?_
  obtain ⟨rfl, r⟩ := r
  cases h : a.zero with
  | none => exact sim_unsupported _ _
  | some z => exact sim_pure (flat_refl 4 (hz t a z ht r h))
def AR (E : Env) (a a' : Addr) : Prop := ∃ b op, E a.block = some (b, op) ∧ a' = at' a b
theorem AR.mono {E E' : Env} (h : E.le E') {a a' : Addr} (r : AR E a a') : AR E' a a' := let ⟨b, op, e, x⟩ := r; ⟨b, op, h _ _ e, x⟩
theorem AR.add {a a' : Addr} (r : AR E a a') (n : Nat) : AR E (a.add n) (a'.add n) := by
  obtain ⟨b, op, e, rfl⟩ := r
  refine ⟨b, op, ?_, ?_⟩
  · unfold Addr.add; split <;> exact e
  · unfold Addr.add at'; split <;> rfl
theorem AR.ptr {a a' : Addr} (r : AR E a a') : VR E (.pointer (some a)) (.pointer (some a')) := by
  obtain ⟨b, op, e, rfl⟩ := r
  exact .ptr e
theorem sim_load {a a' : Addr} (r : AR E a a') (m : Mode) : Sim P w0 E VR (load a m) (load a' m) := fun h v h' e w H => by
  obtain ⟨b, op, eb, rfl⟩ := r
  simp only [Go.load, arun] at e
  cases hc : h.cell? a with
  | none => rw [hc] at e; cases e
  | some x =>
    rw [hc] at e
    cases e
    obtain ⟨v', hv, rv⟩ := H.cell hc eb
    exact ⟨E, v', w, E.le_refl, rv, by rw [run_load, hv], H⟩
theorem sim_store {a a' : Addr} (r : AR E a a') {v v' : Value} (rv : VR E v v') (m : Mode) : Sim P w0 E (fun _ _ _ => True) (store a v m) (store a' v' m) := fun h u h' e w H => by
  obtain ⟨b, op, eb, rfl⟩ := r
  simp only [Go.store, arun] at e
  split at e
  · rename_i c t lo hi p hg
    split at e
    · rename_i hc
      cases e
      simp only [Bool.and_eq_true, Nat.blt_eq, Nat.ble_eq, Bool.not_eq_true', Bool.and_eq_false_iff] at hc
      obtain ⟨⟨⟨⟨h1, h2⟩, h3⟩, h4⟩, h5⟩ := hc
      obtain ⟨b1, op1, c', fr', eb1, ef, hw, s1, s2, s3⟩ := H.row hg eb
      rw [eb] at eb1
      cases eb1
      have hsp : a.spot = none := Option.isNone_iff_eq_none.1 h1
      have hlt : a.off < c'.size := by omega
      have hcell : w.cell? (at' a b) = some c'[a.off] := by
        simp [World.cell?, at', hw, hlt, hsp]
      have hfr : w.frozen? (at' a b) = false := by
        have h6 : ¬ (lo ≤ a.off ∧ a.off < hi) := fun hh => by
          rcases h3 with h3 | h3
          · rw [Nat.ble_eq_true_of_le hh.1] at h3; cases h3
          · rw [show Nat.blt a.off hi = true by rw [Nat.blt_eq]; exact hh.2] at h3; cases h3
        have h7 : ¬ (fr'.1 ≤ a.off ∧ a.off < fr'.2) := fun hh => h6 ((s2 a.off hlt).1 hh).2
        obtain ⟨lo', hi'⟩ := fr'
        have h8 : (decide (lo' ≤ a.off) && decide (a.off < hi')) = false := by
          simp only at h7
          rw [Bool.and_eq_false_iff, decide_eq_false_iff_not, decide_eq_false_iff_not]
          omega
        simp only [World.frozen?, at', hw]
        exact h8
      have hr : ObjR P E op (.cells (c.setIfInBounds a.off v) t (lo, hi)) (.cells (c'.setIfInBounds a.off v') t fr') := by
        refine .cells (by simpa using s1) (fun i g => by simpa using s2 i (by simpa using g)) (fun i g1 g2 => ?_)
        rw [Array.getElem_setIfInBounds, Array.getElem_setIfInBounds]
        by_cases hi' : a.off = i
        · simp only [hi', if_true]; exact rv
        · simp only [hi', if_false]; exact s3 i (by simpa using g1) (by simpa using g2)
      refine ⟨E, (), w.setCell (at' a b) v', E.le_refl, trivial, ?_, ?_⟩
      · cases rv <;> first | (simp [Value.oneCell] at h4; done) | simp [Go.store, Sem.run, hcell, hfr]
      · have := H.put hg h5 eb hr
        rw [ef] at this
        have hset : w.setCell (at' a b) v' = { w with heap := w.heap.setIfInBounds b (.cells (c'.setIfInBounds a.off v') t fr') } := by
          have hb := (Array.getElem?_eq_some_iff.1 hw)
          obtain ⟨hbl, hbe⟩ := hb
          have hns : a.spot.isSome = false := by rw [hsp]; rfl
          simp only [World.setCell, at']
          congr 1
          apply Array.ext
          · simp
          · intro i g1 g2
            have g3 : i < w.heap.size := by simpa using g2
            rw [Array.getElem_modify g1, Array.getElem_setIfInBounds g3]
            by_cases hbi : b = i
            · subst hbi
              simp [hbe, hns]
            · simp [hbi]
        rw [hset]; exact this
    · cases e
  · cases e
theorem sim_newObj {o o' : Obj} (r : ObjR P E none o o') : Sim P w0 E (fun E' a b => E' a = some (b, none)) (newObj o) (newObj o') := fun h v h' e w H => by
  simp only [Go.newObj, arun] at e
  split at e
  · rename_i hc
    cases e
    simp only [Bool.and_eq_true, Nat.blt_eq, Nat.ble_eq] at hc
    have le := H.ext_le (w.heap.size, none)
    exact ⟨_, w.heap.size, _, le, by simp [Env.ext], rfl, H.push (r.mono le) hc.1 hc.2⟩
  · cases e
theorem sim_newRow {t : TypeId} {c c' : Array Value} (r : VRs E c c') : Sim P w0 E AR (newRow t c) (newRow t c') :=
  sim_bind (sim_newObj (.row r)) fun E' le a b e => sim_pure ⟨b, none, e, rfl⟩
theorem sim_newVar {t : TypeId} {v v' : Value} (r : VR E v v') : Sim P w0 E AR (newVar t v) (newVar t v') := sim_newRow r.cells
theorem sim_loadCellsFrom {a a' : Addr} : ∀ (n i : Nat) (E : Env) (_ : AR E a a') (acc acc' : Array Value), VRs E acc acc' → Sim P w0 E VRs (loadCellsFrom a i n acc) (loadCellsFrom a' i n acc')
  | 0, i, E, r, acc, acc', h => sim_pure h
  | n + 1, i, E, r, acc, acc', h => sim_bind (sim_load (r.add i) _) fun E' le v v' rv => sim_loadCellsFrom n (i + 1) E' (r.mono le) _ _ ((h.mono le).push rv)
theorem sim_loadCells {a a' : Addr} (r : AR E a a') (n : Nat) : Sim P w0 E VRs (loadCells a n) (loadCells a' n) := sim_loadCellsFrom n 0 E r _ _ (VRs.empty E)
inductive VL (E : Env) : List Value → List Value → Prop
  | nil : VL E [] []
  | cons {v v' l l'} : VR E v v' → VL E l l' → VL E (v :: l) (v' :: l')
theorem VL.mono {E E' : Env} (h : E.le E') {l l' : List Value} (r : VL E l l') : VL E' l l' := by
  induction r with
  | nil => exact .nil
  | cons a _ i => exact .cons (a.mono h) i
theorem VL.of : ∀ (l l' : List Value), l.length = l'.length → (∀ i (h : i < l.length) (h' : i < l'.length), VR E l[i] l'[i]) → VL E l l'
  | [], [], _, _ => .nil
  | [], _ :: _, h, _ => by simp at h
  | _ :: _, [], h, _ => by simp at h
  | v :: l, v' :: l', h, r => .cons (r 0 (by simp) (by simp)) (VL.of l l' (by simpa using h) fun i h1 h2 => by
    have := r (i + 1) (by simpa using h1) (by simpa using h2)
    simpa only [List.getElem_cons_succ] using this)
theorem VRs.list {c c' : Array Value} (r : VRs E c c') : VL E c.toList c'.toList := VL.of _ _ (by simpa using r.1) fun i h h' => by
  simpa using r.2 i (by simpa using h)
theorem sim_storeCells {a a' : Addr} : ∀ (E : Env) (_ : AR E a a') (l l' : List Value) (_ : VL E l l') (i : Nat), Sim P w0 E (fun _ _ _ => True) (storeCells a l i) (storeCells a' l' i)
  | E, r, [], l', h, i => by cases h; exact sim_pure trivial
  | E, r, v :: l, l', h, i => by
    cases h with
    | cons rv h => exact sim_bind (sim_store (r.add i) rv _) fun E' le _ _ _ => sim_storeCells E' (r.mono le) l _ (h.mono le) (i + 1)
theorem sim_loadVar (t : TypeId) {a a' : Addr} (r : AR E a a') : Sim P w0 E VR (loadVar t a) (loadVar t a') := by
  refine sim_bind (sim_isAgg t) fun E1 le1 x y e => ?_
  subst e
  cases x with
  | true =>
    refine sim_bind (sim_sizeOf t) fun E2 le2 n n' e2 => ?_
    obtain ⟨rfl, _⟩ := e2
    exact sim_bind (sim_loadCells ((r.mono le1).mono le2) n) fun E3 le3 c c' rc => sim_pure (VR.agg' rc)
  | false => exact sim_load (r.mono le1) _
theorem sim_storeVar (t : TypeId) {a a' : Addr} (r : AR E a a') {v v' : Value} (rv : VR E v v') : Sim P w0 E (fun _ _ _ => True) (storeVar t a v) (storeVar t a' v') := by
  refine sim_bind (sim_sizeOf t) fun E1 le1 n n' e => ?_
  obtain ⟨rfl, _⟩ := e
  have hs := rv.cells.size
  rw [← hs]
  by_cases hc : v.cells.size ≠ n
  · rw [if_pos hc, if_pos hc]
    exact sim_none fun _ => rfl
  · rw [if_neg hc, if_neg hc]
    exact sim_storeCells E1 (r.mono le1) _ _ (rv.mono le1).cells.list 0
end
end Go.Ab
/- Operations, one by one: what an abstract run says of a run. -/
namespace Go.Ab
set_option linter.unusedSimpArgs false
set_option linter.unusedVariables false
set_option linter.unusedSectionVars false

inductive NextR (E : Env) : Next → Next → Prop
  | value {v v'} : VR E v v' → NextR E (.value v) (.value v')
  | skip : NextR E .skip .skip
  | enter {f a a'} : VRs E a a' → NextR E (.enter f a) (.enter f a')
  | round {l l' f t t' c b} : E l = some (l', none) → VRs E t t' → NextR E (.round l f t c b) (.round l' f t' c b)
  | defer {d d'} : DefR E d d' → NextR E (.defer d) (.defer d')
  | recover : NextR E .recover .recover
section
variable {P : Program} {w0 : W0} {α β : Type} {E : Env}
theorem VRs.map {E : Env} {ι : Type} (l : Array ι) (f g : ι → Value) (h : ∀ x ∈ l, VR E (f x) (g x)) : VRs E (l.map f) (l.map g) := by
  refine ⟨by simp, fun i hi => ?_⟩
  simp only [Array.getElem_map]
  exact h _ (Array.getElem_mem _)
theorem arun_fail_bind {s : Sem α} {f : α → Sem β} (hn : ∀ a x, arun P (f a) x = none) (x : AH) : arun P (s >>= f) x = none := by
  rw [arun_bind]
  cases arun P s x with
  | none => rfl
  | some y => exact hn _ _
theorem fails_panic (e : RuntimeError) (x : AH) : arun P (runtimePanic e : Sem α) x = none := by
  cases e <;> first
    | rfl
    | exact arun_fail_bind (fun p x => arun_fail_bind (fun _ x => arun_fail_bind (fun _ _ => rfl) x) x) x
theorem fails_bounds (k : IntKind) (x y : Int) (c : BoundsCode) (h : AH) : arun P (boundsPanic k x y c : Sem α) h = none := by
  unfold boundsPanic
  dsimp only
  split <;> exact arun_fail_bind (fun a x => fails_panic _ _) h
theorem sim_panic {R : Env → α → β → Prop} (e : RuntimeError) (s' : Sem β) : Sim P w0 E R (runtimePanic e) s' := sim_none (fails_panic e)
theorem sim_bounds {R : Env → α → β → Prop} (k : IntKind) (x y : Int) (c : BoundsCode) (s' : Sem β) : Sim P w0 E R (boundsPanic k x y c) s' := sim_none (fails_bounds k x y c)

theorem sim_sureAddr {v v' : Value} (r : VR E v v') : Sim P w0 E AR (Instr.sureAddr v) (Instr.sureAddr v') := by
  cases r with
  | ptr e => exact sim_pure ⟨_, _, e, rfl⟩
  | _ => exact sim_none fun _ => rfl
theorem sim_asAddr {v v' : Value} (r : VR E v v') : Sim P w0 E AR (asAddr v) (asAddr v') := by
  cases r with
  | ptr e => exact sim_pure ⟨_, _, e, rfl⟩
  | nilPtr => exact sim_panic .nilDeref (asAddr (.pointer none))
  | _ => exact sim_none fun _ => rfl
theorem sim_asIntOf {v v' : Value} (r : VR E v v') : Sim P w0 E (fun _ a b => a = b) (asIntOf v) (asIntOf v') := by
  cases r with
  | int k n => exact sim_pure rfl
  | _ => exact sim_none fun _ => rfl
theorem sim_asInt {v v' : Value} (r : VR E v v') : Sim P w0 E (fun _ a b => a = b) (asInt v) (asInt v') :=
  sim_bind (sim_asIntOf r) fun E' le a b e => by subst e; exact sim_pure rfl
theorem sim_asAgg {v v' : Value} (r : VR E v v') : Sim P w0 E VRs (asAgg v) (asAgg v') := by
  cases r with
  | agg h i => exact sim_pure ⟨h, i⟩
  | _ => exact sim_none fun _ => rfl
theorem sim_part (t : TypeId) {c c' : Array Value} (r : VRs E c c') (off : Nat) : Sim P w0 E VR (part t c off) (part t c' off) := by
  refine sim_bind (sim_isAgg t) fun E1 le1 x y e => ?_
  subst e
  cases x with
  | true =>
    refine sim_bind (sim_sizeOf t) fun E2 le2 n n' e2 => ?_
    obtain ⟨rfl, _⟩ := e2
    exact sim_pure (VR.agg' (((r.mono le1).mono le2).extract _ _))
  | false =>
    rcases (r.mono le1).get? off with ⟨h1, h2⟩ | ⟨x, x', h1, h2, h3⟩
    · simp only [h1, h2, Bool.false_eq_true, if_false]; exact sim_none fun _ => rfl
    · simp only [h1, h2, Bool.false_eq_true, if_false]; exact sim_pure h3
theorem sim_alloc (hz : ZerosFlat P) (t : TypeId) (ht : t < P.types.size) (o o' : Value) : Sim P w0 E VR (Instr.alloc t true o) (Instr.alloc t true o') :=
  sim_bind (sim_zeroValue hz t ht) fun E' le a b r => sim_bind (sim_newVar r) fun E'' le' x y r' => sim_pure r'.ptr
theorem sim_box (t : TypeId) {v v' : Value} (r : VR E v v') : Sim P w0 E VR (Instr.box t v) (Instr.box t v') :=
  sim_bind (sim_newVar r) fun E'' le' x y r' => sim_pure r'.ptr
theorem sim_loadAt (t : TypeId) {v v' : Value} (r : VR E v v') : Sim P w0 E VR (Instr.loadAt t v) (Instr.loadAt t v') :=
  sim_bind (sim_sureAddr r) fun E' le a b ra => sim_loadVar t ra
theorem sim_storeAt (t : TypeId) {v v' x x' : Value} (r : VR E v v') (rx : VR E x x') : Sim P w0 E (fun _ _ _ => True) (Instr.storeAt t v x) (Instr.storeAt t v' x') :=
  sim_bind (sim_sureAddr r) fun E' le a b ra => sim_storeVar t ra (rx.mono le)
theorem sim_fieldPlace {a a' : Addr} (r : AR E a a') (f : Field) : Sim P w0 E AR (fieldPlace a f) (fieldPlace a' f) := by
  refine sim_bind (sim_sizeOf f.type) fun E' le n n' e => ?_
  obtain ⟨rfl, _⟩ := e
  by_cases h : n = 0
  · rw [if_pos h, if_pos h]
    exact sim_none fun x => arun_fail_bind (fun _ _ => rfl) _
  · rw [if_neg h, if_neg h]
    exact sim_pure ((r.mono le).add _)
theorem sim_fieldAt (s : TypeId) {v v' : Value} (r : VR E v v') (n : Nat) : Sim P w0 E VR (Instr.fieldAt s v n) (Instr.fieldAt s v' n) := by
  refine sim_bind (sim_underlying s) fun E' le d d' e => ?_
  obtain ⟨rfl, _⟩ := e
  cases d with
  | struct fields =>
    simp only
    cases hf : fields[n]? with
    | none => exact sim_none fun _ => rfl
    | some f => exact sim_bind (sim_sureAddr (r.mono le)) fun E2 le2 a b ra => sim_bind (sim_fieldPlace ra f) fun E3 le3 a b ra => sim_pure ra.ptr
  | _ => exact sim_none fun _ => rfl
theorem sim_field (t : TypeId) {v v' : Value} (r : VR E v v') (n : Nat) : Sim P w0 E VR (Instr.field t v n) (Instr.field t v' n) := by
  refine sim_bind (sim_underlying t) fun E' le d d' e => ?_
  obtain ⟨rfl, _⟩ := e
  cases d with
  | struct fields =>
    simp only
    cases hf : fields[n]? with
    | none => exact sim_none fun _ => rfl
    | some f => exact sim_bind (sim_asAgg (r.mono le)) fun E2 le2 a b ra => sim_part _ ra _
  | _ => exact sim_none fun _ => rfl
theorem sim_extract {v v' : Value} (r : VR E v v') (n : Nat) : Sim P w0 E VR (Instr.extract v n) (Instr.extract v' n) := by
  cases r with
  | tuple h i =>
    rcases VRs.get? ⟨h, i⟩ n with ⟨h1, h2⟩ | ⟨x, x', h1, h2, h3⟩
    · simp only [Instr.extract, h1, h2]; exact sim_none fun _ => rfl
    · simp only [Instr.extract, h1, h2]; exact sim_pure h3
  | _ => exact sim_none fun _ => rfl
theorem sim_makeInterface (t : TypeId) {v v' : Value} (r : VR E v v') : Sim P w0 E VR (Instr.makeInterface t v) (Instr.makeInterface t v') := by
  refine sim_bind (sim_underlying t) fun E' le d d' e => ?_
  obtain ⟨rfl, _⟩ := e
  cases d with
  | interface ms => exact sim_none fun _ => rfl
  | _ => exact sim_pure (.iface t (r.mono le))
theorem sim_index (t : TypeId) {v v' i i' : Value} (r : VR E v v') (ri : VR E i i') : Sim P w0 E VR (Instr.index t v i) (Instr.index t v' i') := by
  refine sim_bind (sim_asIntOf ri) fun E1 le1 p p' e => ?_
  subst e
  obtain ⟨k, n⟩ := p
  refine sim_bind (sim_underlying t) fun E' le d d' e => ?_
  obtain ⟨rfl, _⟩ := e
  have r' := (r.mono le1).mono le
  cases d <;> cases r' <;> first | exact sim_none fun _ => rfl | skip
  · rename_i s
    simp only
    cases hq : (if 0 ≤ n then s[n.toNat]? else none) with
    | none => exact sim_bounds _ _ _ _ _
    | some b => exact sim_pure (.int _ _)
  · rename_i len elem _ cs cs' h g
    simp only
    by_cases hb : 0 ≤ n ∧ n < (len : Int)
    · rw [if_pos hb, if_pos hb]
      refine sim_bind (sim_sizeOf elem) fun E2 le2 a b e => ?_
      obtain ⟨rfl, _⟩ := e
      exact sim_part _ (VRs.mono le2 ⟨h, g⟩) _
    · rw [if_neg hb, if_neg hb]
      exact sim_bounds _ _ _ _ _
def idxTail (t : TypeId) (k : IntKind) (i : Int) (base : Option Addr) (len : Nat) (elem : TypeId) : Sem Value := do
  let tiny := len ≤ 1 && (match ← underlying t with | .array .. => true | _ => false)
  match base with
  | some a =>
    if 0 ≤ i ∧ i < len then pure (.pointer (some (a.add (i.toNat * (← sizeOf elem)))))
    else if tiny then unsupported (.noEntry "op/indexAddr.an index out of range at an array of length 0 or 1 (ledger 616)")
    else boundsPanic k i len .index
  | none => boundsPanic k i 0 .index
theorem sim_idxTail (t : TypeId) (k : IntKind) (n : Int) {a a' : Addr} (len : Nat) (elem : TypeId) (h : AR E a a' ∨ len = 0) : Sim P w0 E VR (idxTail t k n (some a) len elem) (idxTail t k n (some a') len elem) := by
  refine sim_bind (sim_underlying t) fun E' le d d' e => ?_
  obtain ⟨rfl, _⟩ := e
  simp only
  by_cases hb : 0 ≤ n ∧ n < (len : Int)
  · rw [if_pos hb, if_pos hb]
    rcases h with h | h
    · refine sim_bind (sim_sizeOf elem) fun E3 le3 a b e => ?_
      obtain ⟨rfl, _⟩ := e
      exact sim_pure (((h.mono le).mono le3).add _).ptr
    · omega
  · rw [if_neg hb, if_neg hb]
    refine sim_none fun x => ?_
    repeat' split
    all_goals first | rfl | exact fails_bounds _ _ _ _ _
theorem sim_idxNone (t : TypeId) (k : IntKind) (n : Int) (len : Nat) (elem : TypeId) : Sim P w0 E VR (idxTail t k n none len elem) (idxTail t k n none len elem) := by
  refine sim_bind (sim_underlying t) fun E' le d d' e => ?_
  exact sim_bounds _ _ _ _ _
theorem sim_indexAt (t : TypeId) {v v' i i' : Value} (r : VR E v v') (ri : VR E i i') : Sim P w0 E VR (Instr.indexAt t v i) (Instr.indexAt t v' i') := by
  refine sim_bind (sim_asIntOf ri) fun E1 le1 p p' e => ?_
  subst e
  obtain ⟨k, n⟩ := p
  refine sim_bind (sim_underlying t) fun E' le d d' e => ?_
  obtain ⟨rfl, _⟩ := e
  have r' := (r.mono le1).mono le
  cases d with
  | slice elem =>
    cases r' with
    | nilSlice l c => exact sim_idxNone t k n l elem
    | slice e _ _ => exact sim_idxTail t k n _ elem (.inl ⟨_, _, e, rfl⟩)
    | empty e => exact sim_idxTail t k n 0 elem (.inr rfl)
    | _ => exact sim_none fun _ => rfl
  | array len elem => exact sim_bind (sim_sureAddr r') fun E3 le3 a b ra => sim_idxTail t k n len elem (.inl ra)
  | _ => exact sim_none fun _ => rfl
end
end Go.Ab
/- Further operations: slices, maps, calls, loops over functions. -/
namespace Go.Ab
set_option linter.unusedSimpArgs false
set_option linter.unusedVariables false
set_option linter.unusedSectionVars false
section
variable {P : Program} {w0 : W0} {α β : Type} {E : Env}
inductive OV (E : Env) : Option Value → Option Value → Prop
  | none : OV E none none
  | some {v v'} : VR E v v' → OV E (some v) (some v')
theorem OV.mono {E E' : Env} (h : E.le E') {v v' : Option Value} (r : OV E v v') : OV E' v v' := by
  cases r with
  | none => exact .none
  | some r => exact .some (r.mono h)
theorem sim_sliceBound {v v' : Value} (r : VR E v v') {y y' : Nat} (hy : y ≤ y') (c : BoundsCode) : Sim P w0 E (fun _ a b => a = b ∧ a ≤ y) (Instr.sliceBound v y c) (Instr.sliceBound v' y' c) := by
  refine sim_bind (sim_asIntOf r) fun E1 le1 p p' e => ?_
  subst e
  obtain ⟨k, i⟩ := p
  simp only
  by_cases h : 0 ≤ i ∧ i ≤ (y : Int)
  · rw [if_pos h, if_pos ⟨h.1, by omega⟩]
    exact sim_pure ⟨rfl, by omega⟩
  · rw [if_neg h]
    exact sim_bounds _ _ _ _ _
def sbTail (lo : Option Value) (h m : Nat) : Sem (Nat × Nat × Nat) :=
  match lo with
  | some v => Instr.sliceBound v h (if (none : Option Value).isSome then .slice3C else .sliceB) >>= fun l => pure (l, h, m)
  | none => pure 0 >>= fun l => pure (l, h, m)
theorem sim_sbTail (h m m' : Nat) {lo lo' : Option Value} (rl : OV E lo lo') : Sim P w0 E (fun _ (a b : Nat × Nat × Nat) => a.1 = b.1 ∧ a.2 = (h, m) ∧ b.2 = (h, m') ∧ a.1 ≤ h) (sbTail lo h m) (sbTail lo' h m') := by
  cases rl with
  | none => exact sim_pure ⟨rfl, rfl, rfl, Nat.zero_le _⟩
  | some rl => exact sim_bind (sim_sliceBound rl (Nat.le_refl h) _) fun E1 le1 a b e => sim_pure ⟨e.1, rfl, rfl, e.2⟩
theorem sim_sliceBounds0 (z : Bool) (len : Nat) {cap cap' : Nat} (hc : cap ≤ cap') {lo lo' hi hi' : Option Value} (rl : OV E lo lo') (rh : OV E hi hi') :
    Sim P w0 E (fun _ (a b : Nat × Nat × Nat) => ∃ h, a.1 = b.1 ∧ a.2 = (h, cap) ∧ b.2 = (h, cap') ∧ a.1 ≤ h ∧ (h = len ∨ h ≤ cap)) (Instr.sliceBounds z len cap lo hi none) (Instr.sliceBounds z len cap' lo' hi' none) := by
  cases rh with
  | none => exact sim_mono (sim_sbTail len cap cap' rl) fun _ _ _ r => ⟨len, r.1, r.2.1, r.2.2.1, r.2.2.2, .inl rfl⟩
  | some rh =>
    refine sim_bind (sim_pure (R := fun _ a b => a = cap ∧ b = cap') ⟨rfl, rfl⟩) fun E0 le0 m m' e => ?_
    obtain ⟨rfl, rfl⟩ := e
    refine sim_bind (sim_sliceBound (rh.mono le0) hc _) fun E1 le1 a b e => ?_
    obtain ⟨rfl, e⟩ := e
    exact sim_mono (sim_sbTail a m m' ((rl.mono le0).mono le1)) fun _ _ _ r => ⟨a, r.1, r.2.1, r.2.2.1, r.2.2.2, .inr e⟩
theorem sim_sliceBounds (z : Bool) (len : Nat) {cap cap' : Nat} (hl : len ≤ cap) (hc : cap ≤ cap') {lo lo' hi hi' : Option Value} (rl : OV E lo lo') (rh : OV E hi hi') :
    Sim P w0 E (fun _ (a b : Nat × Nat × Nat) => a.1 = b.1 ∧ a.2.1 = b.2.1 ∧ a.1 ≤ a.2.1 ∧ a.2.1 ≤ a.2.2 ∧ a.2.2 = cap ∧ b.2.2 = cap') (Instr.sliceBounds z len cap lo hi none) (Instr.sliceBounds z len cap' lo' hi' none) :=
  sim_mono (sim_sliceBounds0 z len hc rl rh) fun _ a b ⟨h, r1, r2, r3, r4, r5⟩ => by
    rw [r2, r3]
    exact ⟨r1, rfl, r4, by simp only; omega, rfl, rfl⟩
theorem sim_sliceBounds2 (z : Bool) (len cap : Nat) {lo lo' hi hi' : Option Value} (rl : OV E lo lo') (rh : OV E hi hi') :
    Sim P w0 E (fun _ (a b : Nat × Nat × Nat) => a = b) (Instr.sliceBounds z len cap lo hi none) (Instr.sliceBounds z len cap lo' hi' none) :=
  sim_mono (sim_sliceBounds0 z len (Nat.le_refl _) rl rh) fun _ a b ⟨h, r1, r2, r3, r4, r5⟩ => by
    obtain ⟨a1, a2⟩ := a
    obtain ⟨b1, b2⟩ := b
    simp only at r1 r2 r3
    rw [r1, r2, r3]
theorem addr_add0 (a : Addr) : a.add 0 = a := by unfold Addr.add; simp
theorem VR.sub {a a' : Addr} {b : Nat} {op : Option Nat} (e : E a.block = some (b, op)) (ha : a' = at' a b) {c c' l h size : Nat} (ho : c' = c ∨ ∃ n, op = some n ∧ c' = c + n) (h1 : l ≤ h) (h2 : h ≤ c) :
    VR E (.slice (some (if c = l then a else a.add (l * size))) (h - l) (c - l)) (.slice (some (if c' = l then a' else a'.add (l * size))) (h - l) (c' - l)) := by
  subst ha
  obtain ⟨ab, ao, as⟩ := a
  by_cases hcl : c = l
  · have hh : h = l := by omega
    subst hcl
    subst hh
    rcases ho with rfl | ⟨n, rfl, rfl⟩
    · simp only [if_true, Nat.sub_self]
      exact .slice e (.inl rfl) (Nat.le_refl _)
    · simp only [if_true, Nat.sub_self]
      exact .empty e
  · have hcl' : ¬ c' = l := by rcases ho with rfl | ⟨n, rfl, rfl⟩ <;> omega
    rw [if_neg hcl, if_neg hcl']
    have hadd : (at' ⟨ab, ao, as⟩ b).add (l * size) = at' ((⟨ab, ao, as⟩ : Addr).add (l * size)) b := by unfold Addr.add at'; split <;> rfl
    rw [hadd]
    have e2 : E ((⟨ab, ao, as⟩ : Addr).add (l * size)).block = some (b, op) := by unfold Addr.add; split <;> exact e
    generalize (⟨ab, ao, as⟩ : Addr).add (l * size) = q at *
    refine .slice e2 ?_ (by omega)
    rcases ho with rfl | ⟨n, rfl, rfl⟩
    · exact .inl rfl
    · exact .inr ⟨n, rfl, by omega⟩
theorem sim_slice (t : TypeId) {v v' : Value} (r : VR E v v') {lo lo' hi hi' : Option Value} (rl : OV E lo lo') (rh : OV E hi hi') : Sim P w0 E VR (Instr.slice t v lo hi none) (Instr.slice t v' lo' hi' none) := by
  refine sim_bind (sim_underlying t) fun E' le d d' e => ?_
  obtain ⟨rfl, _⟩ := e
  have r' := r.mono le
  cases d with
  | string =>
    cases r' with
    | string s =>
      refine sim_bind (sim_sliceBounds false s.size (Nat.le_refl _) (Nat.le_refl _) (rl.mono le) (rh.mono le)) fun E2 le2 a b h => ?_
      obtain ⟨a1, a2, a3⟩ := a
      obtain ⟨b1, b2, b3⟩ := b
      simp only at h
      obtain ⟨rfl, rfl, _⟩ := h
      exact sim_pure (.string _)
    | _ => exact sim_none fun _ => rfl
  | slice elem =>
    cases r' with
    | nilSlice l c =>
      refine sim_bind (sim_sliceBounds2 true l c (rl.mono le) (rh.mono le)) fun E2 le2 a b h => ?_
      subst h
      obtain ⟨a1, a2, a3⟩ := a
      refine sim_bind (sim_sizeOf elem) fun E3 le3 x y e => ?_
      obtain ⟨rfl, _⟩ := e
      refine sim_pure ?_
      have hn : ∀ f : Addr → Addr, (if a3 = a1 then (none : Option Addr) else Option.map f none) = none := fun f => by split <;> rfl
      simp only [hn]
      exact .nilSlice _ _
    | slice e ho hl =>
      refine sim_bind (sim_sliceBounds true _ hl (by rcases ho with rfl | ⟨n, rfl, rfl⟩ <;> omega) (rl.mono le) (rh.mono le)) fun E2 le2 a b h => ?_
      obtain ⟨a1, a2, a3⟩ := a
      obtain ⟨b1, b2, b3⟩ := b
      simp only at h
      obtain ⟨rfl, rfl, h1, h2, rfl, rfl⟩ := h
      refine sim_bind (sim_sizeOf elem) fun E3 le3 x y e' => ?_
      obtain ⟨rfl, _⟩ := e'
      rename_i b0 o0 s0 l0 b0' op0 _
      have := VR.sub (E := E3) (a := ⟨b0, o0, s0⟩) (size := x) (le3 _ _ (le2 _ _ e)) rfl ho h1 h2
      refine sim_pure ?_
      have hn : ∀ (f : Addr → Addr) (c : Nat) (q : Addr), (if c = a1 then some q else Option.map f (some q)) = some (if c = a1 then q else f q) := fun f c q => by split <;> rfl
      simp only [hn]
      exact this
    | empty e =>
      refine sim_bind (sim_sliceBounds true 0 (Nat.le_refl 0) (Nat.zero_le _) (rl.mono le) (rh.mono le)) fun E2 le2 a b h => ?_
      obtain ⟨a1, a2, a3⟩ := a
      obtain ⟨b1, b2, b3⟩ := b
      simp only at h
      obtain ⟨rfl, rfl, h1, h2, rfl, rfl⟩ := h
      refine sim_bind (sim_sizeOf elem) fun E3 le3 x y e' => ?_
      obtain ⟨rfl, _⟩ := e'
      have z1 : a2 = 0 := by omega
      have z2 : a1 = 0 := by omega
      subst z1 z2
      refine sim_pure ?_
      have hn : ∀ (c : Nat) (q : Addr), (if c = 0 then some q else Option.map (fun q : Addr => q.add (0 * x)) (some q)) = some q := fun c q => by split <;> simp [addr_add0]
      simp only [hn, Nat.sub_zero]
      exact .empty (le3 _ _ (le2 _ _ e))
    | _ => exact sim_none fun _ => rfl
  | pointer arr =>
    refine sim_bind (sim_asAddr r') fun E2 le2 a b ra => ?_
    refine sim_bind (sim_underlying arr) fun E3 le3 d d' e => ?_
    obtain ⟨rfl, _⟩ := e
    cases d with
    | array n elem =>
      refine sim_bind (sim_sliceBounds false n (Nat.le_refl n) (Nat.le_refl n) (((rl.mono le).mono le2).mono le3) (((rh.mono le).mono le2).mono le3)) fun E4 le4 p q h => ?_
      obtain ⟨a1, a2, a3⟩ := p
      obtain ⟨b1, b2, b3⟩ := q
      simp only at h
      obtain ⟨rfl, rfl, h1, h2, rfl, rfl⟩ := h
      refine sim_bind (sim_sizeOf elem) fun E5 le5 x y e' => ?_
      obtain ⟨rfl, _⟩ := e'
      obtain ⟨b', op, eb, rfl⟩ := ra
      exact sim_pure (VR.sub (le5 _ _ (le4 _ _ (le3 _ _ eb))) rfl (.inl rfl) h1 h2)
    | _ => exact sim_none fun _ => rfl
  | _ => cases r' <;> exact sim_none fun _ => rfl
theorem sim_sliceAt (t : TypeId) {v v' : Value} (r : VR E v v') {lo lo' hi hi' : Option Value} (rl : OV E lo lo') (rh : OV E hi hi') : Sim P w0 E VR (Instr.sliceAt t v lo hi none) (Instr.sliceAt t v' lo' hi' none) := by
  refine sim_bind (sim_underlying t) fun E' le d d' e => ?_
  obtain ⟨rfl, _⟩ := e
  cases d with
  | array n elem =>
    refine sim_bind (sim_sureAddr (r.mono le)) fun E2 le2 a b ra => ?_
    refine sim_bind (sim_sliceBounds false n (Nat.le_refl n) (Nat.le_refl n) ((rl.mono le).mono le2) ((rh.mono le).mono le2)) fun E4 le4 p q h => ?_
    obtain ⟨a1, a2, a3⟩ := p
    obtain ⟨b1, b2, b3⟩ := q
    simp only at h
    obtain ⟨rfl, rfl, h1, h2, rfl, rfl⟩ := h
    refine sim_bind (sim_sizeOf elem) fun E5 le5 x y e' => ?_
    obtain ⟨rfl, _⟩ := e'
    obtain ⟨b', op, eb, rfl⟩ := ra
    exact sim_pure (VR.sub (le5 _ _ (le4 _ _ eb)) rfl (.inl rfl) h1 h2)
  | _ => exact sim_slice t (r.mono le) (rl.mono le) (rh.mono le)
theorem sim_sliceBounds3 (z : Bool) (len : Nat) {cap cap' : Nat} (hc : cap ≤ cap') {lo lo' hi hi' : Option Value} {mx mx' : Value} (rl : OV E lo lo') (rh : OV E hi hi') (rm : VR E mx mx') :
    Sim P w0 E (fun _ (a b : Nat × Nat × Nat) => a = b ∧ a.1 ≤ a.2.1 ∧ a.2.1 ≤ a.2.2 ∧ a.2.2 ≤ cap) (Instr.sliceBounds z len cap lo hi (some mx)) (Instr.sliceBounds z len cap' lo' hi' (some mx')) := by
  refine sim_bind (sim_sliceBound rm hc _) fun E1 le1 m m' e => ?_
  obtain ⟨rfl, e⟩ := e
  cases rh with
  | none => exact sim_none fun _ => rfl
  | some rh =>
    refine sim_bind (sim_sliceBound (rh.mono le1) (Nat.le_refl _) _) fun E2 le2 h h' e2 => ?_
    obtain ⟨rfl, e2⟩ := e2
    cases rl with
    | none => exact sim_pure ⟨rfl, Nat.zero_le _, e2, e⟩
    | some rl => exact sim_bind (sim_sliceBound ((rl.mono le1).mono le2) (Nat.le_refl h) _) fun E3 le3 a b e3 => sim_pure ⟨by rw [e3.1], e3.2, e2, e⟩
theorem sim_slice3 (t : TypeId) {a : Option Addr} {l c : Nat} {v' : Value} (r : VR E (.slice a l c) v') {lo lo' hi hi' : Option Value} {mx mx' : Value} (rl : OV E lo lo') (rh : OV E hi hi') (rm : VR E mx mx') :
    Sim P w0 E VR (Instr.sliceAt t (.slice a l c) lo hi (some mx)) (Instr.sliceAt t v' lo' hi' (some mx')) := by
  refine sim_bind (sim_underlying t) fun E0 le0 d d' e => ?_
  obtain ⟨rfl, _⟩ := e
  have main : Sim P w0 E0 VR (Instr.slice t (.slice a l c) lo hi (some mx)) (Instr.slice t v' lo' hi' (some mx')) := by
    refine sim_bind (sim_underlying t) fun E' le d d' e => ?_
    obtain ⟨rfl, _⟩ := e
    have r' := (r.mono le0).mono le
    cases d with
    | slice elem =>
      cases r' with
      | nilSlice l c =>
        refine sim_bind (sim_sliceBounds3 true l (Nat.le_refl c) ((rl.mono le0).mono le) ((rh.mono le0).mono le) ((rm.mono le0).mono le)) fun E2 le2 a b h => ?_
        obtain ⟨rfl, h⟩ := h
        obtain ⟨a1, a2, a3⟩ := a
        refine sim_bind (sim_sizeOf elem) fun E3 le3 x y e => ?_
        obtain ⟨rfl, _⟩ := e
        refine sim_pure ?_
        have hn : ∀ f : Addr → Addr, (if a3 = a1 then (none : Option Addr) else Option.map f none) = none := fun f => by split <;> rfl
        simp only [hn]
        exact .nilSlice _ _
      | @slice b o s l c b' op c' e ho hl =>
        refine sim_bind (sim_sliceBounds3 true l (by rcases ho with rfl | ⟨n, rfl, rfl⟩ <;> omega) ((rl.mono le0).mono le) ((rh.mono le0).mono le) ((rm.mono le0).mono le)) fun E2 le2 a b h => ?_
        obtain ⟨rfl, h1, h2, h3⟩ := h
        obtain ⟨a1, a2, a3⟩ := a
        refine sim_bind (sim_sizeOf elem) fun E3 le3 x y e3 => ?_
        obtain ⟨rfl, _⟩ := e3
        refine sim_pure ?_
        simp only at h1 h2 h3
        have := VR.sub (E := E3) (a := ⟨b, o, s⟩) (a' := at' ⟨b, o, s⟩ b') (b := b') (op := op) (le3 _ _ (le2 _ _ e)) rfl (c := a3) (c' := a3) (l := a1) (h := a2) (size := x) (.inl rfl) h1 h2
        by_cases hk : a3 = a1
        · simpa [hk, at'] using this
        · simpa [hk, at'] using this
      | @empty b o s b' a' c' n e =>
        refine sim_bind (sim_sliceBounds3 true 0 (Nat.zero_le _) ((rl.mono le0).mono le) ((rh.mono le0).mono le) ((rm.mono le0).mono le)) fun E2 le2 a b h => ?_
        obtain ⟨rfl, h1, h2, h3⟩ := h
        obtain ⟨a1, a2, a3⟩ := a
        simp only at h1 h2 h3
        obtain rfl : a3 = 0 := by omega
        obtain rfl : a2 = 0 := by omega
        obtain rfl : a1 = 0 := by omega
        refine sim_bind (sim_sizeOf elem) fun E3 le3 x y e3 => ?_
        obtain ⟨rfl, _⟩ := e3
        refine sim_pure ?_
        simp only [if_true, Nat.sub_self]
        exact .empty (le3 _ _ (le2 _ _ e))
    | _ => cases r' <;> exact sim_none fun _ => rfl
  cases d with
  | array n elem =>
    refine sim_bind (R := fun _ _ _ => False) (sim_none fun _ => ?_) fun _ _ _ _ h => h.elim
    rfl
  | _ => exact main
end
end Go.Ab
/- Objects, maps, plain runs. -/
namespace Go.Ab
set_option linter.unusedSimpArgs false
set_option linter.unusedVariables false
set_option linter.unusedSectionVars false
def prun (P : Program) {α : Type} : Sem α → Option α
  | .pure a => some a
  | .program k => prun P (k P)
  | .mark _ k => prun P k
  | .choose q k => if q.forced then prun P (k 0) else none
  | _ => none
theorem prun_run {P : Program} {α : Type} : ∀ {s : Sem α} {a : α}, prun P s = some a → ∀ w, s.run P w = .ok a w := by
  intro s
  induction s with
  | pure x => intro a h w; cases h; rfl
  | program k ih => intro a h w; exact ih P h w
  | mark m k ih => intro a h w; exact ih h w
  | choose q k ih =>
    intro a h w
    simp only [prun] at h
    split at h
    · rename_i hq
      simp only [Sem.run, hq, if_true]
      exact ih 0 h w
    · cases h
  | _ => intro a h; simp [prun] at h
section
variable {P : Program} {w0 : W0} {α β : Type} {E : Env}
theorem sim_getObj {r r' : Nat} {op : Option Nat} (e : E r = some (r', op)) : Sim P w0 E (fun E' o o' => ObjR P E' op o o' ∧ ∀ c t fr, o ≠ .cells c t fr) (getObj r) (getObj r') := fun h o h' eq w H => by
  simp only [Go.getObj, arun] at eq
  split at eq
  · cases eq
  · rename_i o1 p hn hg
    cases eq
    obtain ⟨b, op1, o', e1, ef, hw, ro⟩ := H.blk r _ _ hg e
    rw [e] at e1
    cases e1
    refine ⟨E, o', w, E.le_refl, ⟨ro, fun c t fr hc => hn c t fr hc⟩, ?_, H⟩
    cases ro with
    | cells a1 a2 a3 => exact (hn _ _ _ rfl).elim
    | _ => simp [Go.getObj, Sem.run, hw]
  · cases eq
theorem sim_setObj {r r' : Nat} {op : Option Nat} (e : E r = some (r', op)) {o o' : Obj} (ro : ObjR P E op o o') : Sim P w0 E (fun _ _ _ => True) (setObj r o) (setObj r' o') := fun h u h' eq w H => by
  simp only [Go.setObj, arun] at eq
  split at eq
  · cases eq
  · cases eq
  · rename_i _ _ _ _ hn hg ho
    split at eq
    · rename_i hb
      cases eq
      obtain ⟨b, op1, o1', e1, ef, hw, r1⟩ := H.blk r _ _ hg e
      rw [e] at e1
      cases e1
      refine ⟨E, (), _, E.le_refl, trivial, ?_, ef ▸ H.put hg (Nat.le_of_ble_eq_true hb) e ro⟩
      cases r1 with
      | cells a1 a2 a3 => exact (hn _ _ _ rfl).elim
      | _ => simp [Go.setObj, Sem.run, hw]
    · cases eq
  · cases eq
end
end Go.Ab
/- Built values, made slices, lengths, copies, maps. -/
namespace Go.Ab
set_option linter.unusedSimpArgs false
set_option linter.unusedVariables false
set_option linter.unusedSectionVars false
section
variable {P : Program} {w0 : W0} {α β : Type} {E : Env}
inductive PL (E : Env) : List (Nat × Value) → List (Nat × Value) → Prop
  | nil : PL E [] []
  | cons {i v v' l l'} : VR E v v' → PL E l l' → PL E ((i, v) :: l) ((i, v') :: l')
theorem PL.map {ι : Type} (l : List ι) (i : ι → Nat) (f g : ι → Value) (h : ∀ x ∈ l, VR E (f x) (g x)) : PL E (l.map fun x => (i x, f x)) (l.map fun x => (i x, g x)) := by
  induction l with
  | nil => exact .nil
  | cons a l ih => exact .cons (h a List.mem_cons_self) (ih fun x hx => h x (List.mem_cons_of_mem _ hx))
theorem foldl_set (off : Nat) : ∀ (l l' : List Value) (j : Nat) (cs cs' : Array Value), VL E l l' → VRs E cs cs' →
    VRs E ((l.zipIdx j).foldl (fun (cs : Array Value) (x : Value × Nat) => cs.setIfInBounds (off + x.2) x.1) cs) ((l'.zipIdx j).foldl (fun (cs : Array Value) (x : Value × Nat) => cs.setIfInBounds (off + x.2) x.1) cs')
  | [], _, j, cs, cs', h, r => by cases h; exact r
  | v :: l, _, j, cs, cs', h, r => by
    cases h with
    | cons hv h => exact foldl_set off l _ (j + 1) _ _ h (r.set hv _)
theorem fill_rel (place : Nat → Option (Nat × Nat)) : ∀ (l l' : List (Nat × Value)) (cs cs' c : Array Value), PL E l l' → VRs E cs cs' → Instr.fill place cs l = some c → ∃ c', Instr.fill place cs' l' = some c' ∧ VRs E c c'
  | [], _, cs, cs', c, h, r, e => by
    cases h
    simp only [Instr.fill, Option.some.injEq] at e
    subst e
    exact ⟨cs', rfl, r⟩
  | (i, v) :: l, _, cs, cs', c, h, r, e => by
    cases h with
    | @cons _ _ v' _ l' hv h =>
      simp only [Instr.fill] at e ⊢
      cases hp : place i with
      | none => rw [hp] at e; cases e
      | some q =>
        obtain ⟨off, size⟩ := q
        rw [hp] at e
        simp only at e ⊢
        have hs := hv.cells.size
        have hr := r.size
        rw [← hs, ← hr]
        split at e
        · cases e
        · rename_i hc
          rw [if_neg hc]
          refine fill_rel place l l' _ _ c h ?_ e
          have := foldl_set (E := E) off v.cells.toList v'.cells.toList 0 cs cs' hv.cells.list r
          rw [← Array.foldl_toList, ← Array.foldl_toList, Array.toList_zipIdx, Array.toList_zipIdx]
          exact this
theorem built_rel (hz : ZerosFlat P) (t : TypeId) (ht : t < P.types.size) {l l' : List (Nat × Value)} (h : PL E l l') {c : Array Value} (e : P.built t l = some c) : ∃ c', P.built t l' = some c' ∧ VRs E c c' := by
  unfold Program.built at e ⊢
  split at e
  · rename_i it n el hi hu
    split at e
    · rename_i z ie hz' hie
      exact fill_rel _ _ _ _ _ _ h (flat_refl 4 (hz t it z ht hi hz')).cells e
    · cases e
  · rename_i it fields hi hu
    split at e
    · rename_i z places hz' hp
      exact fill_rel _ _ _ _ _ _ h (flat_refl 4 (hz t it z ht hi hz')).cells e
    · cases e
  · cases e
theorem flats_refl {cs : Array Value} (h : cs.toList.all (isFlat 4) = true) : VRs E cs cs := ⟨rfl, fun i hi => flat_refl 4 (all_at h i hi)⟩
def aBuildSlice (P : Program) (t : TypeId) (len : Nat) (parts : List (Nat × Value)) : Option (TypeId × Array Value) :=
  match P.underlying t with
  | some (.slice e) => match P.info? e with
    | some ie => match ie.zero with
      | some z => if len * ie.size > 2 ^ 24 then none else
        if len * ie.size = 0 then (if parts.isEmpty then some (e, #[]) else none)
        else
          let zs := (Array.range (len * ie.size)).map (z.cells[· % z.cells.size]!)
          if zs.toList.all (isFlat 4) then (Instr.fill (fun i => some (i * ie.size, ie.size)) zs parts).map fun c => (e, c) else none
      | none => none
    | none => none
  | _ => none
theorem run_buildSlice0 (w : World) (t e : TypeId) (len : Nat) (ie : TypeInfo) (hu : P.underlying t = some (.slice e)) (hie : P.info? e = some ie) (hsmall : ¬ len * ie.size > 2 ^ 24) (h0 : len * ie.size = 0) :
    (Instr.buildSlice t len #[]).run P w = .ok (.slice (some ⟨w.heap.size, 0, none⟩) len len) (w.alloc (.cells #[] e)) := by
  simp [Instr.buildSlice, run_underlying hu, sizeOf, typeInfo, zeroValue, hie, hsmall, h0, newRow, Instr.fill]
  congr 2
  apply Array.ext'
  simp [List.range_zero]
theorem aBuildSlice_run (hz : ZerosFlat P) (t : TypeId) (len : Nat) {l : List (Nat × Value)} {parts' : Array (Nat × Value)} (h : PL E l parts'.toList) {e : TypeId} {c : Array Value} (eq : aBuildSlice P t len l = some (e, c)) :
    ∃ c', VRs E c c' ∧ ∀ w : World, (Instr.buildSlice t len parts').run P w = .ok (.slice (some ⟨w.heap.size, 0, none⟩) len len) (w.alloc (.cells c' e)) := by
  unfold aBuildSlice at eq
  split at eq
  · rename_i e1 hu
    split at eq
    · rename_i ie hie
      split at eq
      · rename_i z hz'
        split at eq
        · cases eq
        · rename_i hsmall
          split at eq
          · rename_i h0
            split at eq
            · rename_i hemp
              cases eq
              have hl : l = [] := List.isEmpty_iff.1 hemp
              subst hl
              have hp : parts'.toList = [] := by cases hq : parts'.toList with
                | nil => rfl
                | cons a b => rw [hq] at h; cases h
              have hp' : parts' = #[] := by rw [← Array.toList_inj]; exact hp
              subst hp'
              exact ⟨#[], VRs.empty E, fun w => run_buildSlice0 w t _ len ie hu hie hsmall h0⟩
            · cases eq
          · rename_i h0
            simp only at eq
            split at eq
            · rename_i hfl
              cases hf : Instr.fill (fun i => some (i * ie.size, ie.size)) ((Array.range (len * ie.size)).map (z.cells[· % z.cells.size]!)) l with
              | none => rw [hf] at eq; cases eq
              | some c1 =>
                rw [hf] at eq
                cases eq
                obtain ⟨c', hc', r⟩ := fill_rel _ _ _ _ _ _ h (flats_refl (E := E) hfl) hf
                exact ⟨c', r, fun w => run_buildSlice w t _ len parts' c' ie z hu hie hz' hsmall h0 hc'⟩
            · cases eq
      · cases eq
    · cases eq
  · cases eq
end
end Go.Ab
/- append. -/
namespace Go.Ab
set_option linter.unusedSimpArgs false
set_option linter.unusedVariables false
set_option linter.unusedSectionVars false
def wr (c : Array Value) (o : Nat) : List Value → Array Value
  | [] => c
  | v :: r => wr (c.setIfInBounds o v) (o + 1) r
theorem wr_size : ∀ (l : List Value) (c : Array Value) (o : Nat), (wr c o l).size = c.size
  | [], c, o => rfl
  | v :: l, c, o => by rw [wr, wr_size l]; simp
theorem wr_get : ∀ (l : List Value) (c : Array Value) (o : Nat) (i : Nat), o + l.length ≤ c.size → (wr c o l)[i]? = if o ≤ i ∧ i < o + l.length then l[i - o]? else c[i]?
  | [], c, o, i, h => by
    have : ¬ (o ≤ i ∧ i < o + ([] : List Value).length) := by simp
    rw [if_neg this]; rfl
  | v :: l, c, o, i, h => by
    simp only [List.length_cons] at h
    rw [wr, wr_get l _ _ _ (by simp; omega)]
    by_cases h1 : o + 1 ≤ i ∧ i < o + 1 + l.length
    · rw [if_pos h1, if_pos (by simp only [List.length_cons]; omega)]
      have : i - o = (i - (o + 1)) + 1 := by omega
      rw [this, List.getElem?_cons_succ]
    · rw [if_neg h1]
      by_cases h2 : i = o
      · subst h2
        rw [if_pos (by simp only [List.length_cons]; omega), Array.getElem?_setIfInBounds_self_of_lt (by omega), Nat.sub_self]
        rfl
      · rw [if_neg (by simp only [List.length_cons]; omega), Array.getElem?_setIfInBounds_ne (by omega)]
theorem setCell_eq {w : World} {b : Nat} {c : Array Value} {t : TypeId} {fr : Nat × Nat} (hw : w.heap[b]? = some (.cells c t fr)) (o : Nat) (v : Value) :
    w.setCell ⟨b, o, none⟩ v = { w with heap := w.heap.setIfInBounds b (.cells (c.setIfInBounds o v) t fr) } := by
  obtain ⟨hbl, hbe⟩ := Array.getElem?_eq_some_iff.1 hw
  simp only [World.setCell]
  congr 1
  apply Array.ext
  · simp
  · intro i g1 g2
    have g3 : i < w.heap.size := by simpa using g2
    rw [Array.getElem_modify g1, Array.getElem_setIfInBounds g3]
    by_cases hbi : b = i
    · subst hbi
      simp [hbe]
    · simp [hbi]
theorem setCells_eq {b : Nat} {t : TypeId} {fr : Nat × Nat} : ∀ (l : List Value) {w : World} {c : Array Value} (o : Nat), w.heap[b]? = some (.cells c t fr) →
    w.setCells b o l = { w with heap := w.heap.setIfInBounds b (.cells (wr c o l) t fr) }
  | [], w, c, o, hw => by
    simp only [World.setCells, wr]
    have : w.heap.setIfInBounds b (.cells c t fr) = w.heap := by
      obtain ⟨hbl, hbe⟩ := Array.getElem?_eq_some_iff.1 hw
      apply Array.ext
      · simp
      · intro i g1 g2
        rw [Array.getElem_setIfInBounds g2]
        by_cases hbi : b = i
        · subst hbi; simp [hbe]
        · simp [hbi]
    rw [this]
  | v :: l, w, c, o, hw => by
    obtain ⟨hbl, hbe⟩ := Array.getElem?_eq_some_iff.1 hw
    rw [World.setCells, setCell_eq hw, setCells_eq (t := t) (fr := fr) l (c := c.setIfInBounds o v) (o + 1) (by simp [hbl])]
    simp only [wr]
    congr 1
    apply Array.ext
    · simp
    · intro i g1 g2
      simp only [Array.size_setIfInBounds] at g1 g2
      rw [Array.getElem_setIfInBounds (by simpa using g1), Array.getElem_setIfInBounds g2]
      by_cases hbi : b = i
      · simp [hbi]
      · simp [hbi, Array.getElem_setIfInBounds g2]
theorem growBy_le (n : Nat) : ∀ (r c : Nat), c < n → Builtin.growBy n r c ≤ 2 * n + 768
  | 0, c, h => by simp only [Builtin.growBy]; omega
  | r + 1, c, h => by
    simp only [Builtin.growBy]
    rw [if_neg (by omega)]
    by_cases h2 : c + (c + 768) / 4 < n
    · exact growBy_le n r _ h2
    · cases r with
      | zero => simp only [Builtin.growBy]; omega
      | succ r => simp only [Builtin.growBy]; rw [if_pos (by omega)]; omega
theorem nextcap_le (n c : Nat) (h : c < n) : Builtin.nextslicecap n c ≤ 2 * n + 768 := by
  unfold Builtin.nextslicecap
  split
  · omega
  · split
    · omega
    · exact growBy_le n 4 c h
section
variable {P : Program} {w0 : W0} {E : Env} {h : AH} {w : World}
theorem VR.one' {v v' : Value} (r : VR E v v') : v'.oneCell' = v.oneCell' := by cases r <;> rfl
theorem VL.one' {l l' : List Value} (r : VL E l l') (ha : ∀ u ∈ l, u.oneCell' = true) : ∀ u ∈ l', u.oneCell' = true := by
  induction r with
  | nil => simp
  | cons a _ i =>
    intro u hu
    rcases List.mem_cons.1 hu with rfl | hu
    · rw [a.one']; exact ha _ List.mem_cons_self
    · exact i (fun u hu => ha u (List.mem_cons_of_mem _ hu)) u hu
theorem VL.length {l l' : List Value} (r : VL E l l') : l'.length = l.length := by
  induction r with
  | nil => rfl
  | cons a _ i => simp [i]
theorem VL.get {l l' : List Value} (r : VL E l l') : ∀ i (h : i < l.length) (h' : i < l'.length), VR E l[i] l'[i] := by
  induction r with
  | nil => intro i h; simp at h
  | cons a _ ih =>
    intro i h h'
    cases i with
    | zero => exact a
    | succ i => exact ih i (by simpa using h) (by simpa using h')
theorem VL.arr {l l' : List Value} (r : VL E l l') : VRs E l.toArray l'.toArray := by
  refine ⟨by simp [r.length], fun i hi => ?_⟩
  simp only [List.size_toArray] at hi
  have := r.get i hi (by rw [r.length]; exact hi)
  simpa only [List.getElem_toArray] using this
theorem VL.append {l l' m m' : List Value} (r : VL E l l') (s : VL E m m') : VL E (l ++ m) (l' ++ m') := by
  induction r with
  | nil => exact s
  | cons a _ i => exact .cons a i
theorem VL.flat : ∀ {l : List Value}, l.all (isFlat 4) = true → VL E l l
  | [], _ => .nil
  | v :: l, h => by
    simp only [List.all_cons, Bool.and_eq_true] at h
    exact .cons (flat_refl 4 h.1) (VL.flat h.2)
def rowOf (h : AH) (b o n : Nat) : Option (List Value) :=
  match h.get b with
  | some (.cells c _ _, _) => if o + n ≤ c.size then some ((c.toList.drop o).take n) else none
  | _ => none
theorem rowOf_rel (H : HR P w0 E h w) {b o n : Nat} {l : List Value} (e : rowOf h b o n = some l) {b' : Nat} {op : Option Nat} (eb : E b = some (b', op)) :
    ∃ l', VL E l l' ∧ l.length = n ∧ l'.length = n ∧ ∀ j u, l'[j]? = some u → w.cell? ⟨b', o + j, none⟩ = some u := by
  unfold rowOf at e
  split at e
  · rename_i c t fr fl hg
    split at e
    · rename_i hn
      cases e
      obtain ⟨b1, op1, c', fr', e1, ef, hw, s1, s2, s3⟩ := H.row hg eb
      rw [eb] at e1
      cases e1
      refine ⟨(c'.toList.drop o).take n, VL.of _ _ (by simp; omega) (fun i h1 h2 => ?_), by simp; omega, by simp; omega, fun j u hj => ?_⟩
      · simp only [List.getElem_take, List.getElem_drop, Array.getElem_toList]
        exact s3 _ (by simp at h1; omega) (by simp at h2; omega)
      · rw [List.getElem?_take] at hj
        split at hj
        · rw [List.getElem?_drop] at hj
          simpa [World.cell?, hw] using hj
        · cases hj
    · cases e
  · cases e
def srcCells (size : Nat) (x : Value) (h : AH) : Option (Nat × List Value) :=
  match x with
  | .slice none 0 _ => some (0, [])
  | .slice (some ⟨b, o, none⟩) n _ => if n = 0 then some (0, []) else (rowOf h b o (n * size)).map fun l => (n, l)
  | .string s => if size = 1 then some (s.size, byteCells s) else none
  | _ => none
def kindOk (P : Program) (x : Value) (tx : TypeId) : Bool :=
  match x, P.underlying tx with
  | .slice .., some (.slice _) => true
  | .string _, some .string => true
  | _, _ => false
theorem src_rel (H : HR P w0 E h w) {size n : Nat} {x x' : Value} {l : List Value} (r : VR E x x') (e : srcCells size x h = some (n, l)) (ho : ∀ u ∈ l, u.oneCell' = true) {tx : TypeId} (hk : kindOk P x tx = true) :
    ∃ l', VL E l l' ∧ Src P size tx x' n l' w := by
  cases r with
  | nilSlice a c =>
    cases a with
    | zero =>
      simp only [srcCells] at e
      cases e
      unfold kindOk at hk
      split at hk
      · rename_i e' hu hx
        exact ⟨[], .nil, Src.ofNil w hx c⟩
      · rename_i hx _; cases hx
      · cases hk
    | succ a => simp [srcCells] at e
  | @slice b o s a c b' op c' eb hc hl =>
    unfold kindOk at hk
    split at hk
    · rename_i e' hu hx
      cases s with
      | some s => simp [srcCells] at e
      | none =>
        simp only [srcCells] at e
        split at e
        · rename_i hz
          cases e
          subst hz
          exact ⟨[], .nil, Src.ofSlice w hx _ 0 c' [] (by simp) (by simp) (by simp)⟩
        · cases hr : rowOf h b o (a * size) with
          | none => rw [hr] at e; cases e
          | some l1 =>
            rw [hr] at e
            cases e
            obtain ⟨l', rl, g1, g2, g3⟩ := rowOf_rel H hr eb
            refine ⟨l', rl, Src.ofSlice w hx _ _ c' l' g2 (fun j u hj => ?_) (rl.one' ho)⟩
            rw [Addr.add_lit]
            exact g3 j u hj
    · rename_i hx _; cases hx
    · cases hk
  | @empty b o s b' a' c' m eb =>
    unfold kindOk at hk
    split at hk
    · rename_i e' hu hx
      have : n = 0 ∧ l = [] := by
        cases s with
        | some s => simp [srcCells] at e
        | none => simp [srcCells] at e; exact ⟨e.1.symm, e.2⟩
      obtain ⟨rfl, rfl⟩ := this
      exact ⟨[], .nil, Src.ofSlice w hx _ 0 c' [] (by simp) (by simp) (by simp)⟩
    · rename_i hx _; cases hx
    · cases hk
  | string s =>
    unfold kindOk at hk
    split at hk
    · rename_i hx _; cases hx
    · rename_i s' hu hx
      simp only [srcCells] at e
      split at e
      · rename_i hz
        cases e
        subst hz
        refine ⟨_, VL.flat ?_, Src.ofString w hx s⟩
        rw [List.all_eq_true]
        intro u hu
        obtain ⟨_, _, rfl⟩ := List.mem_map.1 hu
        rfl
      · cases e
    · cases hk
  | _ => simp [srcCells] at e
end
end Go.Ab
/- append, all ways. -/
namespace Go.Ab
set_option linter.unusedSimpArgs false
set_option linter.unusedVariables false
set_option linter.unusedSectionVars false
section
variable {P : Program} {w0 : W0} {E : Env} {h : AH} {w : World}
theorem HR.reuse (H : HR P w0 E h w) {b : Nat} {x : Obj × Bool} (hg : h.get b = some x) (hbase : h.base ≤ b) {b' : Nat} {op op' : Option Nat} (eb : E b = some (b', op)) {o o' : Obj}
    (r : ObjR P (E.ext h.next (b', op')) op' o o') (hn : h.next + 2 < 2 ^ depth) :
    HR P w0 (E.ext h.next (b', op')) ((h.set b none).push o op'.isSome) { w with heap := w.heap.setIfInBounds b' o' } := by
  have hd := H.dep
  have hbn := H.lt hg
  have hbw := H.img b b' op eb
  have hb0 := H.own b b' op hbase eb
  have le := H.ext_le (b', op')
  have get : ∀ j, ((h.set b none).push o op'.isSome).get j = if j = h.next then some (o, op'.isSome) else if j = b then none else h.get j := fun j => by
    show (Tr.set depth (Tr.set depth h.t b none) h.next (some (o, op'.isSome))).get j = _
    rw [Tr.get_set depth _ _ _ _ hd, Tr.get_set depth _ _ _ _ (by omega)]
    rfl
  refine ⟨fun j x e => ?_, fun j c p e => ?_, fun j oj p hj {xj} ej => ?_, fun j k c p q x y hj hk e1 e2 => ?_, ⟨H.old.os, H.old.tape, H.old.output, ?_, fun k hk => ?_⟩, fun j c p hj e => ?_, hn, fun {j} x hx => ?_, fun j hj => ?_⟩
  · show j < h.next + 1
    by_cases hj : j = h.next
    · omega
    · simp only [Env.ext, hj, if_false] at e
      have := H.dom j x e; omega
  · show c < (w.heap.setIfInBounds b' o').size
    rw [Array.size_setIfInBounds]
    by_cases hj : j = h.next
    · simp only [Env.ext, hj, if_true, Option.some.injEq, Prod.mk.injEq] at e; omega
    · simp only [Env.ext, hj, if_false] at e
      exact H.img j c p e
  · rw [get] at hj
    by_cases hji : j = h.next
    · subst hji
      simp only [if_true, Option.some.injEq, Prod.mk.injEq] at hj
      obtain ⟨rfl, rfl⟩ := hj
      exact ⟨b', op', o', by simp [Env.ext], rfl, by simp [hbw], r⟩
    · simp only [hji, if_false] at hj
      by_cases hjb : j = b
      · simp [hjb] at hj
      · simp only [hjb, if_false] at hj
        simp only [Env.ext, hji, if_false] at ej
        obtain ⟨c, q, oj', e, ef, hc, rj⟩ := H.blk j oj p hj ej
        refine ⟨c, q, oj', le _ _ e, ef, ?_, rj.mono le⟩
        have hne : b' ≠ c := fun hbc => hjb (H.inj j b c q op _ _ hj hg e (hbc ▸ eb))
        show (w.heap.setIfInBounds b' o')[c]? = _
        rw [Array.getElem?_setIfInBounds_ne hne]; exact hc
  · rw [get] at hj hk
    by_cases hj' : j = h.next <;> by_cases hk' : k = h.next
    · omega
    · simp only [hj', if_true, hk', if_false] at hj hk
      by_cases hkb : k = b
      · simp [hkb] at hk
      · simp only [hkb, if_false] at hk
        simp only [Env.ext, hj', if_true, hk', if_false, Option.some.injEq, Prod.mk.injEq] at e1 e2
        exact absurd (H.inj k b c q op _ _ hk hg e2 (e1.1 ▸ eb)) hkb
    · simp only [hj', if_false, hk', if_true] at hj hk
      by_cases hjb : j = b
      · simp [hjb] at hj
      · simp only [hjb, if_false] at hj
        simp only [Env.ext, hj', if_false, hk', if_true, Option.some.injEq, Prod.mk.injEq] at e1 e2
        exact absurd (H.inj j b c p op _ _ hj hg e1 (e2.1 ▸ eb)) hjb
    · simp only [hj', hk', if_false] at hj hk
      by_cases hjb : j = b
      · simp [hjb] at hj
      · by_cases hkb : k = b
        · simp [hkb] at hk
        · simp only [hjb, hkb, if_false] at hj hk
          simp only [Env.ext, hj', hk', if_false] at e1 e2
          exact H.inj j k c p q _ _ hj hk e1 e2
  · show w0.w.heap.size ≤ (w.heap.setIfInBounds b' o').size
    rw [Array.size_setIfInBounds]; exact H.old.size
  · show (w.heap.setIfInBounds b' o')[k]? = _
    rw [Array.getElem?_setIfInBounds_ne (by omega)]; exact H.old.blk k hk
  · by_cases hji : j = h.next
    · simp only [Env.ext, hji, if_true, Option.some.injEq, Prod.mk.injEq] at e
      omega
    · simp only [Env.ext, hji, if_false] at e
      exact H.own j c p hj e
  · rw [get] at hx
    show j < h.next + 1
    by_cases e : j = h.next
    · omega
    · simp only [e, if_false] at hx
      by_cases e2 : j = b
      · simp [e2] at hx
      · simp only [e2, if_false] at hx
        have := H.lt hx; omega
  · obtain ⟨h1, h2⟩ := H.pend j hj
    have : j ≠ h.next := by omega
    exact ⟨by simp [Env.ext, this, h1], by show j < h.next + 1; omega⟩

def aGrow (e : TypeId) (cs : List Value) (n : Nat) (h : AH) : Option (Value × AH) :=
  if Nat.blt (h.next + 2) (2 ^ depth) && Nat.ble h.base h.next then some (.slice (some ⟨h.next, 0, none⟩) n n, h.push (.cells cs.toArray e (0, 0)) true) else none
def aAppend (P : Program) (t tx : TypeId) (s x : Value) (h : AH) : Option (Value × AH) :=
  match P.underlying t with
  | some (.slice e) =>
    match P.info? e with
    | some i =>
      match i.zero, srcCells i.size x h with
      | some z, some (n, news) =>
        if !(news.all (·.oneCell')) || !kindOk P x tx || !(Nat.beq z.cells.size i.size) || Nat.blt (2 ^ 16) i.bytes || Nat.blt (2 ^ 20) n then none else
        match s with
        | .slice none len cap => if !(Nat.beq len 0) || !(Nat.beq cap 0) then none else if n = 0 then some (.slice none 0 0, h) else aGrow e news n h
        | .slice (some ⟨b, o, none⟩) len cap =>
          if n = 0 then some (.slice (some ⟨b, o, none⟩) len cap, h) else
          if Nat.blt (2 ^ 20) len then none else
          match h.get b with
          | some (.cells c tt (lo, hi), fl) =>
            if cap = 0 && fl then none else
            if len + n ≤ cap then
              if Nat.ble (o + len * i.size + news.length) c.size && Nat.ble h.base b && Nat.beq lo 0 && Nat.beq hi 0 then
                some (.slice (some ⟨b, o, none⟩) (len + n) cap, h.set b (some (.cells (wr c (o + len * i.size) news) tt (0, 0), fl)))
              else none
            else
              match rowOf h b o (len * i.size) with
              | some olds =>
                if !fl then aGrow e (olds ++ news) (len + n) h
                else if Nat.beq o 0 && Nat.beq c.size (cap * i.size) && Nat.beq tt e && Nat.ble h.base b && Nat.beq lo 0 && Nat.beq hi 0 then aGrow e (olds ++ news) (len + n) (h.set b none)
                else none
              | none => none
          | _ => none
        | _ => none
      | _, _ => none
    | none => none
  | _ => none
theorem zeroCells_size (z : Array Value) (n : Nat) : (Builtin.zeroCells z n).size = n * z.size := by simp [Builtin.zeroCells]
theorem grow_new (H : HR P w0 E h w) {e : TypeId} {i : TypeInfo} {z : Value} (hi : P.info? e = some i) (hzs : z.cells.size = i.size) {cs cs' : List Value} (rc : VL E cs cs') {n m : Nat} (hcs : cs.length = n * i.size) (hm : n ≤ m)
    {v : Value} {h' : AH} (eq : aGrow e cs n h = some (v, h')) :
    ∃ E', E.le E' ∧ VR E' v (.slice (some ⟨w.heap.size, 0, none⟩) n m) ∧ HR P w0 E' h' (w.drew.alloc (.cells (cs'.toArray ++ Builtin.zeroCells z.cells (m - n)) e)) := by
  unfold aGrow at eq
  split at eq
  · rename_i hc
    cases eq
    simp only [Bool.and_eq_true, Nat.blt_eq, Nat.ble_eq] at hc
    have le := H.ext_le (w.heap.size, some (m - n))
    refine ⟨_, le, ?_, ?_⟩
    · refine .slice (op := some (m - n)) (by simp [Env.ext]) (.inr ⟨m - n, rfl, by omega⟩) (Nat.le_refl _)
    · have H' := (H.drawn (w.drawn + 1))
      have := HR.push H' (o := .cells cs.toArray e (0, 0)) (o' := .cells (cs'.toArray ++ Builtin.zeroCells z.cells (m - n)) e (0, 0)) (op := some (m - n)) ?_ hc.1 hc.2
      · exact this
      · have hl := rc.length
        have hcell : P.cellsOf e = i.size := by simp [Program.cellsOf, hi]
        refine .cells ?_ (fun j hj => by simp) (fun j h1 h2 => ?_)
        · simp only [Array.size_append, List.size_toArray, zeroCells_size, Option.getD_some, hl, hcell, hzs]
        · have hj : j < cs'.length := by simp at h1; omega
          rw [Array.getElem_append_left (by simpa using hj)]
          have := (rc.mono le).get j (by simpa using h1) hj
          simpa only [List.getElem_toArray] using this
  · cases eq
theorem olds_run {size len : Nat} {b o cap : Nat} {olds : List Value} (hl : olds.length = len * size) (ho : ∀ j u, olds[j]? = some u → w.cell? ⟨b, o + j, none⟩ = some u) :
    (Builtin.firstCells size len (.slice (some ⟨b, o, none⟩) len cap)).run P w.drew = .ok olds.toArray w.drew :=
  run_firstCells_some w.drew size len _ len cap olds hl fun j u hj => by
    rw [Addr.add_lit]
    exact ho j u hj
theorem aAppend_run (H : HR P w0 E h w) {s s' x x' : Value} (rs : VR E s s') (rx : VR E x x') {t tx : TypeId} {v : Value} {h' : AH} (eq : aAppend P t tx s x h = some (v, h')) (ty : TypeId) :
    ∃ E' v' w', E.le E' ∧ VR E' v v' ∧ (Builtin.append_ #[t, tx] ty #[s', x']).run P w = .ok v' w' ∧ HR P w0 E' h' w' := by
  unfold aAppend at eq
  split at eq
  case h_2 => cases eq
  rename_i e hu
  split at eq
  case h_2 => cases eq
  rename_i i hi
  split at eq
  case h_2 => cases eq
  rename_i z n news hz hsrc
  split at eq
  · cases eq
  rename_i hc
  simp only [Bool.not_eq_true, Bool.or_eq_false_iff, Bool.not_eq_false'] at hc
  obtain ⟨⟨⟨⟨h1, hk⟩, hzs⟩, hb⟩, hn20⟩ := hc
  have ho : ∀ u ∈ news, u.oneCell' = true := List.all_eq_true.1 h1
  have hzs : z.cells.size = i.size := Nat.eq_of_beq_eq_true hzs
  have hb16 : i.bytes ≤ 2 ^ 16 := by
    have : ¬ 2 ^ 16 < i.bytes := fun hh => by rw [show Nat.blt (2 ^ 16) i.bytes = true by rw [Nat.blt_eq]; exact hh] at hb; cases hb
    omega
  have hn : n ≤ 2 ^ 20 := by
    have : ¬ 2 ^ 20 < n := fun hh => by rw [show Nat.blt (2 ^ 20) n = true by rw [Nat.blt_eq]; exact hh] at hn20; cases hn20
    omega
  obtain ⟨news', rn, hs⟩ := src_rel H rx hsrc ho hk
  have hnl : news.length = n * i.size := by rw [← rn.length]; exact hs.newsLen
  have hfit : ∀ need c : Nat, need ≤ 2 ^ 21 → c < need → Builtin.nextslicecap need c * i.bytes ≤ 281474976710656 := fun need c g1 g2 => by
    have g3 := nextcap_le need c g2
    calc Builtin.nextslicecap need c * i.bytes ≤ (2 * 2 ^ 21 + 768) * 2 ^ 16 := Nat.mul_le_mul (by omega) hb16
      _ ≤ 281474976710656 := by decide
  cases rs with
  | nilSlice len cap =>
    simp only at eq
    split at eq
    · cases eq
    rename_i h0
    simp only [Bool.or_eq_true, Bool.not_eq_true', not_or, Bool.not_eq_false] at h0
    have hl0 : len = 0 := Nat.eq_of_beq_eq_true h0.1
    have hc0 : cap = 0 := Nat.eq_of_beq_eq_true h0.2
    subst hl0 hc0
    split at eq
    · rename_i hn0
      cases eq
      subst hn0
      have hnil : news' = [] := by
        have := hs.newsLen
        rw [Nat.zero_mul] at this
        exact List.length_eq_zero_iff.1 this
      subst hnil
      exact ⟨E, _, w, E.le_refl, .nilSlice 0 0, run_append_nothing w t tx ty e i hu hi none 0 0 (Nat.le_refl _) x' hs, H⟩
    · rename_i hn0
      have hr := run_append_grow_src w t tx ty e i z hu hi hz none 0 0 [] (by simp [Builtin.firstCells]) x' n news' hs (by omega) (by omega) (hfit _ _ (by omega) (by omega))
      simp only [Nat.zero_add, List.nil_append] at hr
      obtain ⟨E', le, rv, H'⟩ := grow_new H hi hzs rn hnl (grownCap_ge w n 0 e) eq
      exact ⟨E', _, _, le, rv, hr, H'⟩
  | @slice b o sp len cap b' op cap' eb hcap hlc =>
    cases sp with
    | some sp => cases eq
    | none =>
      have hcap' : cap ≤ cap' := by rcases hcap with rfl | ⟨m, rfl, rfl⟩ <;> omega
      simp only at eq
      split at eq
      · rename_i hn0
        cases eq
        subst hn0
        have hnil : news' = [] := by
          have := hs.newsLen
          rw [Nat.zero_mul] at this
          exact List.length_eq_zero_iff.1 this
        subst hnil
        exact ⟨E, _, w, E.le_refl, .slice eb hcap hlc, run_append_nothing w t tx ty e i hu hi _ len cap' (by omega) x' hs, H⟩
      rename_i hn1
      split at eq
      · cases eq
      rename_i hlen
      have hlen : len ≤ 2 ^ 20 := by
        have : ¬ 2 ^ 20 < len := fun hh => hlen (by rw [Nat.blt_eq]; exact hh)
        omega
      split at eq
      case h_2 => cases eq
      rename_i c tt lo hi' fl hg
      split at eq
      · cases eq
      rename_i hcf
      obtain ⟨b1, op1, c', fr', e1, ef, hw, s1, s2, s3⟩ := H.row hg eb
      rw [eb] at e1
      cases e1
      split at eq
      · rename_i hroom
        split at eq
        · rename_i hcond
          cases eq
          simp only [Bool.and_eq_true, Nat.ble_eq] at hcond
          obtain ⟨⟨⟨hfit1, hbase⟩, hlo⟩, hhi⟩ := hcond
          have hlo : lo = 0 := Nat.eq_of_beq_eq_true hlo
          have hhi : hi' = 0 := Nat.eq_of_beq_eq_true hhi
          subst hlo hhi
          have hnl' : news'.length = news.length := rn.length
          have hcs : c.size ≤ c'.size := by omega
          have hnf : ∀ j, j < c'.size → ¬ (fr'.1 ≤ j ∧ j < fr'.2) := fun j hj hh => by
            have := (s2 j hj).1 hh
            simp only at this
            omega
          have hr := run_append_room_src w t tx ty e i hu hi b' o len cap' x' n news' hs (by omega) (fun j hj => by
            have : o + len * i.size + j < c'.size := by omega
            simp [World.cell?, hw, this]) (fun j hj => by
            have hjs : o + len * i.size + j < c'.size := by omega
            have := hnf _ hjs
            obtain ⟨f1, f2⟩ := fr'
            simp only at this
            simp only [World.frozen?, hw, Bool.and_eq_false_iff, decide_eq_false_iff_not]
            omega)
          rw [setCells_eq news' _ hw] at hr
          refine ⟨E, _, _, E.le_refl, .slice eb hcap (by omega), hr, ?_⟩
          have := H.put hg hbase (o := .cells (wr c (o + len * i.size) news) tt (0, 0)) (o' := .cells (wr c' (o + len * i.size) news') tt fr') eb (.cells (by rw [wr_size, wr_size]; exact s1) (fun j hj => by
            rw [wr_size] at hj ⊢
            exact s2 j hj) (fun j g1 g2 => by
            rw [wr_size] at g1 g2
            have q1 := wr_get news c (o + len * i.size) j hfit1
            have q2 := wr_get news' c' (o + len * i.size) j (by omega)
            rw [hnl'] at q2
            by_cases hin : o + len * i.size ≤ j ∧ j < o + len * i.size + news.length
            · rw [if_pos hin] at q1 q2
              have g3 : j - (o + len * i.size) < news.length := by omega
              have g4 : j - (o + len * i.size) < news'.length := by omega
              rw [List.getElem?_eq_getElem g3] at q1
              rw [List.getElem?_eq_getElem g4] at q2
              obtain ⟨_, q1⟩ := Array.getElem?_eq_some_iff.1 q1
              obtain ⟨_, q2⟩ := Array.getElem?_eq_some_iff.1 q2
              rw [q1, q2]
              exact rn.get _ g3 g4
            · rw [if_neg hin] at q1 q2
              rw [Array.getElem?_eq_getElem g1] at q1
              rw [Array.getElem?_eq_getElem g2] at q2
              obtain ⟨_, q1⟩ := Array.getElem?_eq_some_iff.1 q1
              obtain ⟨_, q2⟩ := Array.getElem?_eq_some_iff.1 q2
              rw [q1, q2]
              exact s3 j g1 g2))
          rw [ef] at this
          exact this
        · cases eq
      · rename_i hgrow
        split at eq
        case h_2 => cases eq
        rename_i olds hro
        obtain ⟨olds', ro, q1, q2, q3⟩ := rowOf_rel H hro eb
        have rall := ro.append rn
        have hallen : (olds ++ news).length = (len + n) * i.size := by rw [List.length_append, q1, hnl, Nat.add_mul]
        have grow : cap' < len + n → (Builtin.append_ #[t, tx] ty #[.slice (some ⟨b', o, none⟩) len cap', x']).run P w = .ok (.slice (some ⟨w.heap.size, 0, none⟩) (len + n) (grownCap w (len + n) cap' e)) (w.drew.alloc (.cells ((olds' ++ news').toArray ++ Builtin.zeroCells z.cells (grownCap w (len + n) cap' e - (len + n))) e)) := fun hg =>
          run_append_grow_src w t tx ty e i z hu hi hz _ len cap' olds' (olds_run q2 q3) x' n news' hs hg (by omega) (hfit _ _ (by omega) hg)
        split at eq
        · rename_i hfl
          have hcc : cap' = cap := by
            rcases hcap with h | ⟨m, hm, _⟩
            · exact h
            · rw [hm] at ef
              simp only [Option.isSome_some] at ef
              rw [← ef] at hfl
              simp at hfl
          subst hcc
          obtain ⟨E', le, rv, H'⟩ := grow_new H hi hzs rall hallen (grownCap_ge w (len + n) cap' e) eq
          exact ⟨E', _, _, le, rv, grow (by omega), H'⟩
        · split at eq
          · rename_i hfl hcond
            simp only [Bool.and_eq_true, Nat.ble_eq] at hcond
            obtain ⟨⟨⟨⟨⟨ho0, hcsz⟩, htt⟩, hbase⟩, hlo⟩, hhi⟩ := hcond
            have ho0 : o = 0 := Nat.eq_of_beq_eq_true ho0
            have hcsz : c.size = cap * i.size := Nat.eq_of_beq_eq_true hcsz
            have htt : tt = e := Nat.eq_of_beq_eq_true htt
            have hlo : lo = 0 := Nat.eq_of_beq_eq_true hlo
            have hhi : hi' = 0 := Nat.eq_of_beq_eq_true hhi
            subst ho0 htt hlo hhi
            by_cases hreal : cap' < len + n
            · obtain ⟨E', le, rv, H'⟩ := grow_new (H.kill (H.lt hg)) hi hzs rall hallen (grownCap_ge w (len + n) cap' tt) eq
              exact ⟨E', _, _, le, rv, grow hreal, H'⟩
            · -- in place, in the world
              rcases hcap with hcap | ⟨m, rfl, hcap⟩
              · omega
              have hcell : P.cellsOf tt = i.size := by simp [Program.cellsOf, hi]
              simp only [Option.getD_some] at s1
              rw [hcell, hcsz, ← Nat.add_mul, ← hcap] at s1
              have hnf : ∀ j, j < c'.size → ¬ (fr'.1 ≤ j ∧ j < fr'.2) := fun j hj hh => by
                have := (s2 j hj).1 hh
                simp only at this
                omega
              have hsz : (len + n) * i.size ≤ c'.size := by rw [s1]; exact Nat.mul_le_mul_right _ (by omega)
              have hadd : (len + n) * i.size = len * i.size + n * i.size := Nat.add_mul _ _ _
              have hnl' : news'.length = n * i.size := hs.newsLen
              have hr := run_append_room_src w t tx ty tt i hu hi b' 0 len cap' x' n news' hs (by omega) (fun j hj => by
                have : 0 + len * i.size + j < c'.size := by omega
                simp only [World.cell?, hw]
                simp [this]; omega) (fun j hj => by
                have hjs : 0 + len * i.size + j < c'.size := by omega
                have := hnf _ hjs
                obtain ⟨f1, f2⟩ := fr'
                simp only at this
                simp only [World.frozen?, hw, Bool.and_eq_false_iff, decide_eq_false_iff_not]
                omega)
              rw [setCells_eq news' _ hw] at hr
              unfold aGrow at eq
              split at eq
              · rename_i hnx
                cases eq
                simp only [Bool.and_eq_true, Nat.blt_eq, Nat.ble_eq] at hnx
                have le := H.ext_le (b', some (cap' - (len + n)))
                refine ⟨_, _, _, le, ?_, hr, HR.reuse H hg hbase eb (op' := some (cap' - (len + n))) (o := .cells (olds ++ news).toArray tt (0, 0)) ?_ hnx.1⟩
                · refine .slice (op := some (cap' - (len + n))) ?_ (.inr ⟨_, rfl, by omega⟩) (Nat.le_refl _)
                  show (E.ext h.next _) h.next = _
                  simp [Env.ext]
                · refine .cells ?_ (fun j hj => ?_) (fun j g1 g2 => ?_)
                  · rw [wr_size, s1]
                    simp only [List.size_toArray, hallen, hcell, Option.getD_some]
                    rw [← Nat.add_mul]
                    congr 1
                    omega
                  · rw [wr_size] at hj
                    have := hnf j hj
                    simp only
                    omega
                  · simp only [List.size_toArray, hallen] at g1
                    rw [wr_size] at g2
                    have q4 := wr_get news' c' (0 + len * i.size) j (by omega)
                    have rr := rall.get j (by omega) (by rw [rall.length]; omega)
                    have e1 : ∀ (hh : j < (wr c' (0 + len * i.size) news').size), (wr c' (0 + len * i.size) news')[j] = (olds' ++ news')[j]'(by rw [rall.length]; omega) := fun hh => by
                      by_cases hin : 0 + len * i.size ≤ j ∧ j < 0 + len * i.size + news'.length
                      · rw [if_pos hin] at q4
                        have g4 : j - (0 + len * i.size) < news'.length := by omega
                        rw [List.getElem?_eq_getElem g4] at q4
                        obtain ⟨_, q4⟩ := Array.getElem?_eq_some_iff.1 q4
                        rw [q4, List.getElem_append_right (by omega)]
                        congr 1
                        omega
                      · rw [if_neg hin] at q4
                        have hjl : j < olds'.length := by omega
                        have := q3 j _ (List.getElem?_eq_getElem hjl)
                        simp only [World.cell?, hw, Nat.zero_add] at this
                        simp only [Option.isSome_none, Bool.false_eq_true, if_false] at this
                        rw [this] at q4
                        obtain ⟨_, q4⟩ := Array.getElem?_eq_some_iff.1 q4
                        rw [q4, List.getElem_append_left hjl]
                    simp only [List.getElem_toArray]
                    rw [e1]
                    exact rr.mono le
              · cases eq
          · cases eq
  | @empty b o sp b' a' cap' m eb =>
    cases sp with
    | some sp => cases eq
    | none =>
      simp only at eq
      split at eq
      · rename_i hn0
        cases eq
        subst hn0
        have hnil : news' = [] := by
          have := hs.newsLen
          rw [Nat.zero_mul] at this
          exact List.length_eq_zero_iff.1 this
        subst hnil
        exact ⟨E, _, w, E.le_refl, .empty eb, run_append_nothing w t tx ty e i hu hi _ 0 cap' (Nat.zero_le _) x' hs, H⟩
      split at eq
      · cases eq
      split at eq
      case h_2 => cases eq
      rename_i c tt lo hi' fl hg
      obtain ⟨b1, op1, c', fr', e1, ef, hw, s1, s2, s3⟩ := H.row hg eb
      rw [eb] at e1
      cases e1
      have hfl : fl = true := by rw [← ef]; rfl
      rw [hfl] at eq
      simp at eq
  | _ => cases eq
end
end Go.Ab
/- Lengths, copies, maps, conversions, comparisons with nil. -/
namespace Go.Ab
set_option linter.unusedSimpArgs false
set_option linter.unusedVariables false
set_option linter.unusedSectionVars false
section
variable {P : Program} {w0 : W0} {E : Env}
theorem VRs.at? {c c' : Array Value} (r : VRs E c c') (i : Nat) {x : Value} (h : c[i]? = some x) : ∃ x', c'[i]? = some x' ∧ VR E x x' := by
  rcases r.get? i with ⟨h1, _⟩ | ⟨y, y', h1, h2, h3⟩
  · rw [h1] at h; cases h
  · rw [h1] at h; cases h; exact ⟨y', h2, h3⟩
theorem sim_len (ts : Array TypeId) (ty : TypeId) {as as' : Array Value} (r : VRs E as as') : Sim P w0 E VR (Builtin.len_ ts ty as) (Builtin.len_ ts ty as') := by
  unfold Builtin.len_
  cases ht : ts[0]? with
  | none => exact sim_none fun _ => rfl
  | some t =>
    cases hx : as[0]? with
    | none => exact sim_none fun _ => rfl
    | some x =>
      obtain ⟨x', hx', rx⟩ := r.at? 0 hx
      rw [hx']
      refine sim_bind (sim_underlying t) fun E' le d d' e => ?_
      obtain ⟨rfl, _⟩ := e
      have rx' := rx.mono le
      cases d with
      | string =>
        cases rx' with
        | string s => exact sim_pure (.int _ _)
        | _ => exact sim_none fun _ => rfl
      | array n el => exact sim_pure (.int _ _)
      | pointer arr =>
        refine sim_bind (sim_underlying arr) fun E2 le2 d d' e => ?_
        obtain ⟨rfl, _⟩ := e
        cases d with
        | array n el => exact sim_pure (.int _ _)
        | _ => exact sim_none fun _ => rfl
      | slice el =>
        cases rx' with
        | nilSlice l c => exact sim_pure (.int _ _)
        | slice _ _ _ => exact sim_pure (.int _ _)
        | empty _ => exact sim_pure (.int _ _)
        | _ => exact sim_none fun _ => rfl
      | map k v =>
        cases rx' with
        | nilMap => exact sim_pure (.int _ _)
        | map e =>
          refine sim_bind (sim_getObj e) fun E2 le2 o o' h => ?_
          obtain ⟨ro, _⟩ := h
          cases ro with
          | map hf => exact sim_pure (.int _ _)
          | _ => exact sim_none fun _ => rfl
        | _ => exact sim_none fun _ => rfl
      | _ => cases rx' <;> exact sim_none fun _ => rfl
theorem sim_lenOf {v v' : Value} (r : VR E v v') : Sim P w0 E (fun _ a b => a = b ∧ (∀ b o s, v = .slice (some ⟨b, o, s⟩) 0 0 → a = 0)) (Builtin.lenOf v) (Builtin.lenOf v') := by
  cases r with
  | nilSlice l c => exact sim_pure ⟨rfl, fun _ _ _ h => by cases h⟩
  | slice _ _ _ => exact sim_pure ⟨rfl, fun _ _ _ h => by cases h; rfl⟩
  | empty _ => exact sim_pure ⟨rfl, fun _ _ _ h => by cases h; rfl⟩
  | string s => exact sim_pure ⟨rfl, fun _ _ _ h => by cases h⟩
  | _ => exact sim_none fun _ => rfl
theorem sim_firstCells (size n : Nat) {v v' : Value} (r : VR E v v') (hn : ∀ b o s, v = .slice (some ⟨b, o, s⟩) 0 0 → n = 0) : Sim P w0 E VRs (Builtin.firstCells size n v) (Builtin.firstCells size n v') := by
  cases r with
  | nilSlice l c => exact sim_pure (VRs.empty E)
  | slice e _ _ => exact sim_loadCells ⟨_, _, e, rfl⟩ _
  | empty e =>
    have := hn _ _ _ rfl
    subst this
    show Sim P w0 E VRs (loadCells _ (0 * size)) (loadCells _ (0 * size))
    rw [Nat.zero_mul]
    exact sim_pure (VRs.empty E)
  | string s => exact sim_pure ⟨rfl, fun i hi => flat_refl 4 (by simp only [Array.getElem_map]; rfl)⟩
  | _ => exact sim_none fun _ => rfl
theorem sim_copy (ts : Array TypeId) (ty : TypeId) {as as' : Array Value} (r : VRs E as as') : Sim P w0 E VR (Builtin.copy_ ts ty as) (Builtin.copy_ ts ty as') := by
  unfold Builtin.copy_
  cases ht : ts[0]? with
  | none => exact sim_none fun _ => rfl
  | some t =>
    cases hx : as[0]? with
    | none => exact sim_none fun _ => rfl
    | some x =>
      obtain ⟨x', hx', rx⟩ := r.at? 0 hx
      rw [hx']
      cases hy : as[1]? with
      | none => exact sim_none fun _ => rfl
      | some y =>
        obtain ⟨y', hy', ry⟩ := r.at? 1 hy
        rw [hy']
        refine sim_bind (sim_underlying t) fun E1 le1 d d' e => ?_
        obtain ⟨rfl, _⟩ := e
        cases d with
        | slice el =>
          have rest : ∀ (dLen : Nat) (base base' : Option Addr) (hb : (base = none ∧ base' = none) ∨ ∃ a a', base = some a ∧ base' = some a' ∧ (AR E1 a a' ∨ dLen = 0)),
              Sim P w0 E1 VR (do
                let n := Nat.min (← Builtin.lenOf y) dLen
                let cells ← Builtin.firstCells (← sizeOf el) n y
                if let some a := base then storeCells a cells.toList
                pure (goInt n)) (do
                let n := Nat.min (← Builtin.lenOf y') dLen
                let cells ← Builtin.firstCells (← sizeOf el) n y'
                if let some a := base' then storeCells a cells.toList
                pure (goInt n)) := fun dLen base base' hb => by
            refine sim_bind (sim_lenOf (ry.mono le1)) fun E2 le2 n n' h => ?_
            obtain ⟨rfl, hz⟩ := h
            refine sim_bind (sim_sizeOf el) fun E3 le3 m m' h => ?_
            obtain ⟨rfl, _⟩ := h
            refine sim_bind (R := fun E' c c' => VRs E' c c' ∧ (dLen = 0 → c.toList = [] ∧ c'.toList = [])) ?_ fun E4 le4 c c' h => ?_
            · by_cases hd : dLen = 0
              · subst hd
                have hm : Nat.min n 0 = 0 := Nat.min_zero n
                show Sim P w0 E3 _ (Builtin.firstCells m (Nat.min n 0) y) (Builtin.firstCells m (Nat.min n 0) y')
                rw [hm]
                have hnil : ∀ (v v' : Value), VR E3 v v' → Sim P w0 E3 (fun E' c c' => VRs E' c c' ∧ (0 = 0 → c.toList = [] ∧ c'.toList = [])) (Builtin.firstCells m 0 v) (Builtin.firstCells m 0 v') := fun v v' r => by
                  cases r with
                  | nilSlice l c => exact sim_pure ⟨VRs.empty _, fun _ => ⟨rfl, rfl⟩⟩
                  | slice e _ _ =>
                    show Sim P w0 E3 _ (loadCells _ (0 * m)) (loadCells _ (0 * m))
                    rw [Nat.zero_mul]
                    exact sim_pure ⟨VRs.empty _, fun _ => ⟨rfl, rfl⟩⟩
                  | empty e =>
                    show Sim P w0 E3 _ (loadCells _ (0 * m)) (loadCells _ (0 * m))
                    rw [Nat.zero_mul]
                    exact sim_pure ⟨VRs.empty _, fun _ => ⟨rfl, rfl⟩⟩
                  | string s => exact sim_pure ⟨⟨rfl, fun i hi => flat_refl 4 (by simp only [Array.getElem_map]; rfl)⟩, fun _ => by
                      have : (s.extract 0 0).data = #[] := by apply Array.ext'; simp
                      simp [this]⟩
                  | _ => exact sim_none fun _ => rfl
                exact hnil y y' (((ry.mono le1).mono le2).mono le3)
              · refine sim_mono (sim_firstCells m (Nat.min n dLen) (((ry.mono le1).mono le2).mono le3) fun b o s e => ?_) fun _ _ _ r => ⟨r, fun h => absurd h hd⟩
                rw [hz b o s e]
                exact Nat.zero_min _
            · rcases hb with ⟨rfl, rfl⟩ | ⟨a, a', rfl, rfl, hb⟩
              · exact sim_pure (.int _ _)
              · rcases hb with hb | hb
                · exact sim_bind (sim_storeCells E4 (((hb.mono le2).mono le3).mono le4) _ _ h.1.list 0) fun _ _ _ _ _ => sim_pure (.int _ _)
                · obtain ⟨h1, h2⟩ := h.2 hb
                  simp only [h1, h2]
                  exact sim_pure (.int _ _)
          cases rx.mono le1 with
          | nilSlice l c => exact rest l none none (.inl ⟨rfl, rfl⟩)
          | slice e _ _ => exact rest _ _ _ (.inr ⟨_, _, rfl, rfl, .inl ⟨_, _, e, rfl⟩⟩)
          | empty e => exact rest 0 _ _ (.inr ⟨_, _, rfl, rfl, .inr rfl⟩)
          | _ => exact sim_none fun _ => rfl
        | _ => exact sim_none fun _ => rfl
end
end Go.Ab
/- Made slices, maps, conversions, comparisons with nil. -/
namespace Go.Ab
set_option linter.unusedSimpArgs false
set_option linter.unusedVariables false
set_option linter.unusedSectionVars false
section
variable {P : Program} {w0 : W0} {E : Env} {h : AH} {w : World}
def room (h : AH) : Bool := Nat.blt (h.next + 2) (2 ^ depth) && Nat.ble h.base h.next
theorem room_of {h : AH} (e : room h = true) : h.next + 2 < 2 ^ depth ∧ h.base ≤ h.next := by
  simpa [room, Nat.blt_eq, Nat.ble_eq] using e
theorem new_row (H : HR P w0 E h w) (hr : room h = true) {e : TypeId} {c c' : Array Value} (r : VRs E c c') :
    E.le (E.ext h.next (w.heap.size, none)) ∧ HR P w0 (E.ext h.next (w.heap.size, none)) (h.push (.cells c e (0, 0)) false) (w.alloc (.cells c' e)) :=
  ⟨H.ext_le _, H.push (op := none) (.row (r.mono (H.ext_le _))) (room_of hr).1 (room_of hr).2⟩
def aMakeSlice (P : Program) (t : TypeId) (len cap : Value) (h : AH) : Option (Value × AH) :=
  match len, cap with
  | .int _ l, .int _ c =>
    match P.underlying t with
    | some (.slice e) =>
      match P.info? e with
      | some i =>
        match i.zero with
        | some z =>
          if decide (0 ≤ l) && decide (l ≤ c) && decide (c ≤ 1048576) && Nat.ble i.bytes 65536 && Nat.ble (c.toNat * i.size) 16777216 && (madeCells z.cells (c.toNat * i.size)).toList.all (isFlat 4) && room h then
            some (.slice (some ⟨h.next, 0, none⟩) l.toNat c.toNat, h.push (.cells (madeCells z.cells (c.toNat * i.size)) e (0, 0)) false)
          else none
        | none => none
      | none => none
    | _ => none
  | _, _ => none
theorem aMakeSlice_run (H : HR P w0 E h w) {t : TypeId} {len cap v : Value} {h' : AH} (eq : aMakeSlice P t len cap h = some (v, h')) :
    ∃ E' v' w', E.le E' ∧ VR E' v v' ∧ (Instr.makeSlice t len cap).run P w = .ok v' w' ∧ HR P w0 E' h' w' := by
  unfold aMakeSlice at eq
  split at eq
  case h_2 => cases eq
  rename_i kl l kc c
  split at eq
  case h_2 => cases eq
  rename_i e hu
  split at eq
  case h_2 => cases eq
  rename_i i hi
  split at eq
  case h_2 => cases eq
  rename_i z hz
  split at eq
  · rename_i hc
    cases eq
    simp only [Bool.and_eq_true, decide_eq_true_eq, Nat.ble_eq] at hc
    obtain ⟨⟨⟨⟨⟨⟨h0, hlc⟩, hc20⟩, hb⟩, hcell⟩, hfl⟩, hr⟩ := hc
    have hbc : (i.bytes : Int) * c ≤ 281474976710656 := by
      have h1 : (i.bytes : Int) * c ≤ 65536 * 1048576 := Int.mul_le_mul (by omega) hc20 (by omega) (by omega)
      omega
    have hrun := run_makeSlice (P := P) w t e i z hu hi hz kl kc l c h0 hlc hcell hbc (by omega)
    obtain ⟨le, H'⟩ := new_row H hr (e := e) (flats_refl (E := E) hfl)
    exact ⟨_, _, _, le, .slice (op := none) (by simp [Env.ext]) (.inl rfl) (by omega), hrun, H'⟩
  · cases eq

def lookTail (key elem : TypeId) (es : Array MapEntry) (index : Value) (ok : Bool) : Sem Value := do
  Instr.checkKey es.isEmpty 10000 key index
  let (v, b) ← match ← Instr.findKey key index es.toList with
    | some (_, v) => pure (v, true)
    | none => pure (← zeroValue elem, false)
  pure (if ok then .tuple #[v, .bool b] else v)
theorem run_getObj {o : Obj} {r : Nat} (hw : w.heap[r]? = some o) (hn : ∀ c t fr, o ≠ .cells c t fr) : (getObj r).run P w = .ok o w := by
  cases o <;> first | exact absurd rfl (hn _ _ _) | simp [getObj, Sem.run, hw]
theorem run_lookup_map {t key elem : TypeId} (hu : P.underlying t = some (.map key elem)) {r : Nat} {es : Array MapEntry} {k : Nat} (hw : w.heap[r]? = some (.map es k)) (index : Value) (ok : Bool) :
    (Instr.lookup t (.map (some r)) index ok).run P w = (lookTail key elem es index ok).run P w := by
  have hg : (getObj r).run P w = .ok (.map es k) w := run_getObj hw (fun _ _ _ e => by cases e)
  simp only [Instr.lookup, lookTail, Sem.run_bind, run_underlying hu, Result.andThen_ok, hg, Sem.run_pure]
  refine congrArg _ (funext fun _ => funext fun w1 => congrArg _ (funext fun o => funext fun w2 => ?_))
  cases o <;> rfl
theorem run_lookup_nil {t key elem : TypeId} (hu : P.underlying t = some (.map key elem)) (index : Value) (ok : Bool) :
    (Instr.lookup t (.map none) index ok).run P w = (lookTail key elem #[] index ok).run P w := by
  simp only [Instr.lookup, lookTail, Sem.run_bind, run_underlying hu, Result.andThen_ok, Sem.run_pure]
  refine congrArg _ (funext fun _ => funext fun w1 => congrArg _ (funext fun o => funext fun w2 => ?_))
  cases o <;> rfl
def aLookup (P : Program) (t : TypeId) (x index : Value) (ok : Bool) (h : AH) : Option Value :=
  if !(isFlat 4 index) then none else
  match P.underlying t with
  | some (.map key elem) =>
    match x with
    | .map none => (prun P (lookTail key elem #[] index ok)).bind fun v => if isFlat 5 v then some v else none
    | .map (some r) => match h.get r with
      | some (.map es _, _) => (prun P (lookTail key elem es index ok)).bind fun v => if isFlat 5 v then some v else none
      | _ => none
    | _ => none
  | _ => none
theorem aLookup_run (H : HR P w0 E h w) {t : TypeId} {x x' index index' v : Value} {ok : Bool} (rx : VR E x x') (ri : VR E index index') (eq : aLookup P t x index ok h = some v) :
    VR E v v ∧ (Instr.lookup t x' index' ok).run P w = .ok v w := by
  unfold aLookup at eq
  split at eq
  · cases eq
  rename_i hf
  simp only [Bool.not_eq_true', Bool.not_eq_false] at hf
  obtain rfl := flat_eq 4 hf ri
  split at eq
  case h_2 => cases eq
  rename_i key elem hu
  cases rx with
  | nilMap =>
    simp only [Option.bind_eq_some_iff] at eq
    obtain ⟨v1, h1, h2⟩ := eq
    split at h2
    · rename_i hv
      cases h2
      exact ⟨flat_refl 5 hv, by rw [run_lookup_nil hu]; exact prun_run h1 w⟩
    · cases h2
  | map e =>
    simp only at eq
    split at eq
    · rename_i es k fl hg
      simp only [Option.bind_eq_some_iff] at eq
      obtain ⟨v1, h1, h2⟩ := eq
      obtain ⟨b, op, o', e1, _, hw, ro⟩ := H.blk _ _ _ hg e
      rw [e] at e1
      cases e1
      cases ro with
      | map hfl =>
        split at h2
        · rename_i hv
          cases h2
          exact ⟨flat_refl 5 hv, by rw [run_lookup_map hu hw]; exact prun_run h1 w⟩
        · cases h2
    · cases eq
  | _ => cases eq
def updTail (key : TypeId) (es : Array MapEntry) (clock : Nat) (k v : Value) : Sem (Array MapEntry × Nat) := do
  Instr.checkKey false 10000 key k
  match ← Instr.findKey key k es.toList with
  | some (i, _) => do
    let k ← Instr.keyThatStays (((es[i]?).map (·.key)).getD k) k
    pure (es.modify i fun e => { e with key := k, val := v }, clock)
  | none => pure (es.push { key := k, val := v, born := clock }, clock + 1)
theorem andThen_assoc {α β γ : Type} (r : Result α) (f : α → World → Result β) (g : β → World → Result γ) : (r.andThen f).andThen g = r.andThen fun a w => (f a w).andThen g := by cases r <;> rfl
theorem run_mapUpdate_map {t key elem : TypeId} (hu : P.underlying t = some (.map key elem)) {r : Nat} {es : Array MapEntry} {k : Nat} (hw : w.heap[r]? = some (.map es k)) (index v : Value) :
    (Instr.mapUpdate t (.map (some r)) index v).run P w = ((updTail key es k index v).run P w).andThen fun x w' => (setObj r (.map x.1 x.2)).run P w' := by
  have hg : (getObj r).run P w = .ok (.map es k) w := run_getObj hw (fun _ _ _ e => by cases e)
  simp only [Instr.mapUpdate, updTail, Sem.run_bind, run_underlying hu, Result.andThen_ok, hg, andThen_assoc]
  congr 1
  funext _ w1
  congr 1
  funext o w2
  cases o with
  | none => simp only [Sem.run_pure, Result.andThen_ok]
  | some q => simp only [Sem.run_bind, Sem.run_pure, Result.andThen_ok, andThen_assoc]
def flatEntries (es : Array MapEntry) : Bool := es.toList.all fun e => isFlat 4 e.key && isFlat 4 e.val
def aMapUpdate (P : Program) (t : TypeId) (x index v : Value) (h : AH) : Option AH :=
  if !(isFlat 4 index && isFlat 4 v) then none else
  match P.underlying t with
  | some (.map key _) =>
    match x with
    | .map (some r) => match h.get r with
      | some (.map es k, fl) =>
        match prun P (updTail key es k index v) with
        | some (es', k') => if flatEntries es' && Nat.ble h.base r then some (h.set r (some (.map es' k', fl))) else none
        | none => none
      | _ => none
    | _ => none
  | _ => none
theorem aMapUpdate_run (H : HR P w0 E h w) {t : TypeId} {x x' index index' v v' : Value} {h' : AH} (rx : VR E x x') (ri : VR E index index') (rv : VR E v v') (eq : aMapUpdate P t x index v h = some h') :
    ∃ w', (Instr.mapUpdate t x' index' v').run P w = .ok () w' ∧ HR P w0 E h' w' := by
  unfold aMapUpdate at eq
  split at eq
  · cases eq
  rename_i hf
  simp only [Bool.not_eq_true', Bool.not_eq_false, Bool.and_eq_true] at hf
  obtain rfl := flat_eq 4 hf.1 ri
  obtain rfl := flat_eq 4 hf.2 rv
  split at eq
  case h_2 => cases eq
  rename_i key elem hu
  cases rx with
  | map e =>
    simp only at eq
    split at eq
    · rename_i es k fl hg
      split at eq
      · rename_i es' k' hp
        split at eq
        · rename_i hc
          cases eq
          simp only [Bool.and_eq_true, Nat.ble_eq] at hc
          obtain ⟨b, op, o', e1, ef, hw, ro⟩ := H.blk _ _ _ hg e
          rw [e] at e1
          cases e1
          cases ro with
          | map hfl =>
            have hput := H.put hg hc.2 e (o := .map es' k') (o' := .map es' k') (.map (fun en hen => by
              have := List.all_eq_true.1 hc.1 en hen
              simpa using this))
            rw [ef] at hput
            refine ⟨_, ?_, hput⟩
            rw [run_mapUpdate_map hu hw, prun_run hp w, Result.andThen_ok]
            simp [setObj, Sem.run, hw]
        · cases eq
      · cases eq
    · cases eq
  | _ => cases eq
def aNilEq0 (P : Program) (t : TypeId) (x y : Value) : Option Bool :=
  match P.underlying t, x, y with
  | some (.pointer _), .pointer none, .pointer b => some b.isNone
  | some (.pointer _), .pointer (some _), .pointer none => some false
  | some (.interface _), .nilIface, .iface _ _ => some false
  | some (.interface _), .iface _ _, .nilIface => some false
  | some (.slice _), .slice none _ _, .slice b _ _ => some b.isNone
  | some (.slice _), .slice (some _) _ _, .slice none _ _ => some false
  | some (.map _ _), .map none, .map b => some b.isNone
  | some (.map _ _), .map (some _), .map none => some false
  | some (.func _ _ _), .nilFunc, .func _ _ _ => some false
  | some (.func _ _ _), .func _ _ _, .nilFunc => some false
  | _, _, _ => none
theorem aNilEq0_run {t : TypeId} {x x' y y' : Value} (rx : VR E x x') (ry : VR E y y') {b : Bool} (eq : aNilEq0 P t x y = some b) (w : World) (u v : Operand) (op : BinOp) :
    (eqGuard op t u v x' y').run P w = .ok () w ∧ (Op.equal t x' y').run P w = .ok b w ∧ binOp .eql t x' y' = (do pure (.bool (← Op.equal t x' y'))) ∧ binOp .neq t x' y' = (do pure (.bool (!(← Op.equal t x' y')))) := by
  unfold aNilEq0 at eq
  split at eq <;> first | cases eq | skip
  all_goals rename_i hu
  all_goals (try cases eq)
  all_goals cases rx <;> cases ry
  all_goals refine ⟨?_, ?_, ?_, ?_⟩
  all_goals first
    | rfl
    | (cases op <;> rfl; done)
    | (show (Op.equalIn (9999 + 1) t _ _).run P w = _
       generalize 9999 = d
       rw [Op.equalIn]
       simp only [Sem.run_bind, run_underlying hu, Result.andThen_ok, Sem.run_pure, Option.isNone_none, Option.isNone_some]
       done)
theorem sim_choose (q : Question) : Sim P w0 E (fun _ a b => a = b) (choose q) (choose q) := fun h a h' eq w H => by
  unfold choose at eq
  simp only [arun] at eq
  split at eq
  · rename_i hq
    cases eq
    exact ⟨E, 0, w, E.le_refl, rfl, by simp [choose, Sem.run, hq], H⟩
  · cases eq
theorem sim_range (t : TypeId) {x x' : Value} (rx : VR E x x') : Sim P w0 E VR (Instr.range t x) (Instr.range t x') := by
  unfold Instr.range
  refine sim_bind (sim_underlying t) fun E1 le1 d d' e => ?_
  obtain ⟨rfl, _⟩ := e
  have hjp : ∀ E' {o o' : Obj}, ObjR P E' none o o' → Sim P w0 E' VR (do let l ← newObj o; pure (Value.pointer (some { block := l, off := 0 }))) (do let l ← newObj o'; pure (Value.pointer (some { block := l, off := 0 }))) := fun E' o o' r => sim_bind (sim_newObj r) fun E3 le3 a b e => sim_pure (VR.ptr e)
  have hst : ∀ E' (m : String) (k k' : Obj → Sem Value), Sim P w0 E' VR (stuck m >>= k) (stuck m >>= k') := fun E' m k k' => sim_bind (R := fun _ _ _ => False) (sim_stuck _ _) fun _ _ _ _ h => h.elim
  have hp : ∀ E' {o o' : Obj}, ObjR P E' none o o' → Sim P w0 E' VR (do let it ← pure o; let l ← newObj it; pure (Value.pointer (some { block := l, off := 0 }))) (do let it ← pure o'; let l ← newObj it; pure (Value.pointer (some { block := l, off := 0 }))) := fun E' o o' r => sim_bind (R := fun E o o' => ObjR P E none o o') (sim_pure r) fun E2 le2 it it' r => hjp _ r
  cases rx with
  | string s => cases d <;> first | exact hp _ (.runes s 0) | exact hst _ _ _ _
  | nilMap => cases d <;> first | exact hp _ (.noIter 0 #[] 0) | exact hst _ _ _ _
  | map e =>
    cases d <;> first
      | exact hst _ _ _ _
      | (refine sim_bind (sim_getObj (le1 _ _ e)) fun E2 le2 o o' ro => ?_
         obtain ⟨ro, _⟩ := ro
         cases ro <;> first
           | exact hp _ (.iter _ _ _ (le2 _ _ (le1 _ _ e)))
           | exact hst _ _ _ _)
  | _ => cases d <;> exact hst _ _ _ _
theorem sim_next {it it' : Value} (rit : VR E it it') (b : Bool) (t : TypeId) : Sim P w0 E VR (Instr.next it b t) (Instr.next it' b t) := by
  have hover : ∀ E', Sim P w0 E' VR (pure (Value.tuple #[.bool false])) (pure (Value.tuple #[.bool false])) := fun E' => sim_pure (flat_refl 4 rfl)
  unfold Instr.next
  cases rit with
  | @ptr bb o s b' op e =>
    cases o with
    | succ o => exact sim_stuck _ _
    | zero =>
    refine sim_bind (sim_getObj e) fun E1 le1 o o' ro => ?_
    obtain ⟨ro, _⟩ := ro
    cases ro with
    | noIter a1 a2 a3 => cases b <;> first | exact hover _ | exact sim_stuck _ _
    | runes str i =>
      cases b with
      | false => exact sim_stuck _ _
      | true =>
        simp only
        split
        · exact sim_bind (sim_setObj (le1 _ _ e) (.runes _ _)) fun E2 le2 _ _ _ => sim_pure (VR.tuple' (((VRs.empty _).push (.bool _)).push (.int _ _) |>.push (.int _ _)))
        · exact hover _
    | @iter m m' since seen last em =>
      cases b with
      | true => exact sim_stuck _ _
      | false =>
        refine sim_bind (sim_getObj em) fun E2 le2 o o' ro => ?_
        obtain ⟨ro, _⟩ := ro
        cases ro with
        | @map es clock hf =>
          simp only
          split
          · exact sim_unsupported _ _
          · refine sim_bind (sim_choose _) fun E3 le3 k k' hk => ?_
            cases hk
            split
            · rename_i en hen
              have hmem : en ∈ es.toList := by
                have h1 := Array.mem_of_getElem? hen
                simp only [Array.mem_append, Array.mem_map, Array.mem_filter, Option.some.injEq, exists_eq_right] at h1
                rcases h1 with h1 | h1 | h1
                · split at h1 <;> simp at h1
                · exact Array.mem_toList_iff.2 h1.1.1
                · exact Array.mem_toList_iff.2 h1.1.1
              obtain ⟨f1, f2⟩ := hf en hmem
              exact sim_bind (sim_setObj (le3 _ _ (le2 _ _ (le1 _ _ e))) (.iter _ _ _ (le3 _ _ (le2 _ _ em)))) fun E4 le4 _ _ _ => sim_pure (VR.tuple' (((VRs.empty _).push (.bool _)).push (flat_refl 4 f1) |>.push (flat_refl 4 f2)))
            · exact hover _
            · exact sim_stuck _ _
        | _ => exact sim_stuck _ _
    | _ => cases b <;> exact sim_stuck _ _
  | _ => exact sim_stuck _ _
theorem sim_entry {it it' : Value} (rit : VR E it it') : Sim P w0 E VR (Instr.entry it) (Instr.entry it') := by
  unfold Instr.entry
  cases rit with
  | @ptr bb o s b' op e =>
    cases o with
    | succ o => exact sim_stuck _ _
    | zero =>
    refine sim_bind (sim_getObj e) fun E1 le1 o o' ro => ?_
    obtain ⟨ro, _⟩ := ro
    cases ro with
    | @iter m m' since seen last em =>
      simp only
      cases hb : seen.back? with
      | none => exact sim_stuck _ _
      | some stamp =>
        refine sim_bind (sim_getObj em) fun E2 le2 o o' ro => ?_
        obtain ⟨ro, _⟩ := ro
        cases ro with
        | @map es clock hf =>
          simp only
          split
          · exact sim_unsupported _ _
          · split
            · rename_i en hen
              have hmem : en ∈ es.toList := Array.mem_toList_iff.2 (Array.mem_of_find?_eq_some hen)
              obtain ⟨f1, f2⟩ := hf en hmem
              exact sim_pure (VR.tuple' (((VRs.empty _).push (flat_refl 4 f1)).push (flat_refl 4 f2)))
            · exact sim_unsupported _ _
        | _ => exact sim_stuck _ _
    | _ => exact sim_stuck _ _
  | _ => exact sim_stuck _ _
end
end Go.Ab
/- unsafe.Pointer, internal/abi.NoEscape, unsafe.String. -/
namespace Go.Ab
set_option linter.unusedSimpArgs false
set_option linter.unusedVariables false
set_option linter.unusedSectionVars false
def aToU (P : Program) (src dst : TypeId) (x : Value) (h : AH) : Option Value :=
  match P.underlying src, P.underlying dst, x with
  | some (.pointer t), some .unsafePointer, .pointer (some ⟨b, o, none⟩) =>
    match P.info? t, h.get b with
    | some j, some (.cells c _ _, _) => if !(Nat.beq j.size 0) && Nat.blt o c.size then some (.pointer (some ⟨b, o, none⟩)) else none
    | _, _ => none
  | some .unsafePointer, some (.pointer u), .pointer (some ⟨b, o, none⟩) =>
    match P.info? u, h.get b with
    | some _, some (.cells c t _, false) => if liesAt P P.depth t (c.size / P.cellsOf t) o u 1 then some (.pointer (some ⟨b, o, none⟩)) else none
    | _, _ => none
  | _, _, _ => none
def isNoEsc (P : Program) (g : FuncId) : Bool :=
  match P.funcs[g]? with
  | some fn => fn.body.isNone && fn.name == "internal/abi.NoEscape" && (Extern.findNext fn).isNone
  | none => false
def aSliceData (x : Value) : Option Value :=
  match x with
  | .slice (some a) _ c => if Nat.blt 0 c then some (.pointer (some a)) else none
  | _ => none
def byteOf : Value → Option UInt8
  | .int .u8 (.ofNat n) => if Nat.blt n 256 then some (UInt8.ofNat n) else none
  | _ => none
def bytesOf : List Value → Option (List UInt8)
  | [] => some []
  | v :: l => match byteOf v, bytesOf l with
    | some b, some bs => some (b :: bs)
    | _, _ => none
def aUString (P : Program) (pt : TypeId) (p n : Value) (h : AH) : Option (Value × AH) :=
  match P.underlying pt, p, n with
  | some (.pointer e), .pointer (some ⟨b, 0, none⟩), .int .i64 (.ofNat k) =>
    match h.get b with
    | some (.cells c t _, _) =>
      if Nat.beq (P.cellsOf e) 1 && Nat.beq t e && Nat.blt 0 k && Nat.ble k 1048576 && Nat.ble h.base b then
        match rowOf h b 0 k with
        | some l => match bytesOf l with
          | some bs => some (.string ⟨bs.toArray⟩, h.set b none)
          | none => none
        | none => none
      else none
    | _ => none
  | _, _, _ => none
theorem find_noEscape (fn : Func) (hn : fn.name = "internal/abi.NoEscape") : Extern.find fn = some Extern.AbiNoEscape.same := by
  have h1 : Extern.allGenericRows.lookup "internal/abi.NoEscape" = none := by kernel_rfl
  have h2 : Extern.allTypedRows.lookup "internal/abi.NoEscape" = none := by kernel_rfl
  have h3 : Extern.allRows.lookup "internal/abi.NoEscape" = some Extern.AbiNoEscape.same := by kernel_rfl
  unfold Extern.find
  rw [hn]
  simp only [h1, h2, h3]
  rfl
theorem run_noEsc {P : Program} {g : FuncId} (hb : isNoEsc P g = true) (x : Value) (w : World) : (callFunc g #[x]).run P w = .ok (.value x) w := by
  unfold isNoEsc at hb
  split at hb
  · rename_i fn hf
    simp only [Bool.and_eq_true, beq_iff_eq, Option.isNone_iff_eq_none] at hb
    obtain ⟨⟨h1, h2⟩, h3⟩ := hb
    have h4 : ¬ fn.name = "runtime.NumGoroutine" := by rw [h2]; decide
    simp [callFunc, hf, h1, h4, h3, find_noEscape fn h2, Lib.run_noEscape]
  · cases hb
section
variable {P : Program} {w0 : W0} {E : Env} {h : AH} {w : World}
theorem aToU_run (H : HR P w0 E h w) {src dst : TypeId} {x x' v : Value} (rx : VR E x x') (eq : aToU P src dst x h = some v) : ∃ v', VR E v v' ∧ (convert src dst x').run P w = .ok v' w := by
  unfold aToU at eq
  split at eq
  · rename_i t b o hs hd
    split at eq
    · rename_i j c t2 fr fl hj hg
      split at eq
      · rename_i hc
        cases eq
        simp only [Bool.and_eq_true, Nat.blt_eq, Bool.not_eq_true'] at hc
        cases rx with
        | @ptr _ _ _ b' op eb =>
          obtain ⟨b1, op1, c', fr', e1, ef, hw, s1, s2, s3⟩ := H.row hg eb
          rw [eb] at e1
          cases e1
          refine ⟨_, .ptr eb, Lib.run_to_unsafe w (e := t2) (cells := c'.size) ⟨b', o, none⟩ hs hd hj (fun e => by rw [e] at hc; simp at hc) (by simp [World.shape?, hw]) ?_⟩
          show o < c'.size
          omega
      · cases eq
    · cases eq
  · rename_i u b o hs hd
    split at eq
    · rename_i j c t2 fr hj hg
      split at eq
      · rename_i hc
        cases eq
        cases rx with
        | @ptr _ _ _ b' op eb =>
          obtain ⟨b1, op1, c', fr', e1, ef, hw, s1, s2, s3⟩ := H.row hg eb
          rw [eb] at e1
          cases e1
          have hop : op = none := by
            cases op with
            | none => rfl
            | some m => cases ef
          subst hop
          simp only [Option.getD_none, Nat.zero_mul, Nat.add_zero] at s1
          exact ⟨_, .ptr eb, Lib.run_from_unsafe w (e := t2) (cells := c'.size) ⟨b', o, none⟩ hs hd hj (by simp [World.shape?, hw]) (by rw [s1]; exact hc)⟩
      · cases eq
    · cases eq
  · cases eq
theorem aSliceData_run {x x' v : Value} (rx : VR E x x') (eq : aSliceData x = some v) (ts : Array TypeId) (ty : TypeId) : ∃ v', VR E v v' ∧ (Builtin.unsafeSliceData_ ts ty #[x']).run P w = .ok v' w := by
  unfold aSliceData at eq
  split at eq
  · rename_i a n c
    split at eq
    · rename_i hc
      rw [Nat.blt_eq] at hc
      cases eq
      cases rx with
      | slice eb hcap hl => exact ⟨_, .ptr eb, Lib.run_unsafeSliceData_row w ts ty _ _ _ (by rcases hcap with rfl | ⟨m, _, rfl⟩ <;> omega)⟩
      | empty eb => omega
    · cases eq
  · cases eq
theorem HR.scrap (H : HR P w0 E h w) {i b : Nat} {op : Option Nat} {x : Obj × Bool} (hg : h.get i = some x) (hbase : h.base ≤ i) (eb : E i = some (b, op)) (f : Obj → Obj) : HR P w0 E (h.set i none) { w with heap := w.heap.modify b f } := by
  have hd : i + 1 < 2 ^ depth := by have := H.dep; have := H.lt hg; omega
  have get : ∀ j, (h.set i none).get j = if j = i then none else h.get j := fun j => Tr.get_set depth h.t i _ j hd
  have hb0 := H.own i b op hbase eb
  have K := H.kill (H.lt hg)
  refine ⟨K.dom, fun j c p e => by simpa using H.img j c p e, fun j oj p hj {xj} ej => ?_, K.inj, ⟨H.old.os, H.old.tape, H.old.output, by simpa using H.old.size, fun k hk => ?_⟩, K.own, K.dep, K.lt, K.pend⟩
  · obtain ⟨c, q, oj', e, ef, hc, rj⟩ := K.blk j oj p hj ej
    refine ⟨c, q, oj', e, ef, ?_, rj⟩
    rw [get] at hj
    by_cases hji : j = i
    · simp [hji] at hj
    · simp only [hji, if_false] at hj
      have hne : b ≠ c := fun hbc => hji (H.inj j i c q op _ _ hj hg e (hbc ▸ eb))
      show (w.heap.modify b f)[c]? = _
      rw [Array.getElem?_modify, if_neg hne]; exact hc
  · show (w.heap.modify b f)[k]? = _
    rw [Array.getElem?_modify, if_neg (by omega)]
    exact H.old.blk k hk
theorem bytesOf_at : ∀ (l : List Value) (bs : List UInt8), bytesOf l = some bs → bs.length = l.length ∧ ∀ (j : Nat) (x : UInt8), bs[j]? = some x → l[j]? = some (.int .u8 x.toNat)
  | [], bs, e => by cases e; exact ⟨rfl, fun j x h => by simp at h⟩
  | v :: l, bs, e => by
    simp only [bytesOf] at e
    split at e
    · rename_i b bs' hb hbs
      cases e
      obtain ⟨h1, h2⟩ := bytesOf_at l bs' hbs
      refine ⟨by simp [h1], fun j x hx => ?_⟩
      cases j with
      | zero =>
        simp only [List.getElem?_cons_zero, Option.some.injEq] at hx ⊢
        subst hx
        unfold byteOf at hb
        split at hb
        · rename_i n
          split at hb
          · rename_i hn
            rw [Nat.blt_eq] at hn
            cases hb
            simp [UInt8.toNat_ofNat, Nat.mod_eq_of_lt hn]
          · cases hb
        · cases hb
      | succ j => exact h2 j x (by simpa using hx)
    · cases e
theorem aUString_run (H : HR P w0 E h w) {p p' n n' v : Value} {h' : AH} (rp : VR E p p') (rn : VR E n n') {pt : TypeId} (eq : aUString P pt p n h = some (v, h')) (it ty : TypeId) :
    ∃ w', (Builtin.unsafeString_ #[pt, it] ty #[p', n']).run P w = .ok v w' ∧ VR E v v ∧ HR P w0 E h' w' := by
  unfold aUString at eq
  split at eq
  · rename_i e b k hp
    split at eq
    · rename_i c t fr fl hg
      split at eq
      · rename_i hc
        simp only [Bool.and_eq_true, Nat.blt_eq, Nat.ble_eq] at hc
        obtain ⟨⟨⟨⟨hc1, hte⟩, hk0⟩, hk20⟩, hbase⟩ := hc
        have hc1 := Nat.eq_of_beq_eq_true hc1
        have hte := Nat.eq_of_beq_eq_true hte
        subst hte
        split at eq
        · rename_i l hrow
          split at eq
          · rename_i bs hbs
            cases eq
            cases rn
            cases rp with
            | @ptr _ _ _ b' op eb =>
              obtain ⟨b1, op1, c', fr', e1, ef, hw, s1, s2, s3⟩ := H.row hg eb
              rw [eb] at e1
              cases e1
              obtain ⟨l', rl, q1, q2, q3⟩ := rowOf_rel H hrow eb
              obtain ⟨g1, g2⟩ := bytesOf_at l bs hbs
              have hll : ∀ (j : Nat) (x : UInt8), bs[j]? = some x → l'[j]? = some (.int .u8 x.toNat) := fun j x hx => by
                have h1 := g2 j x hx
                obtain ⟨hj, hj1⟩ := List.getElem?_eq_some_iff.1 h1
                have hj' : j < l'.length := by omega
                have hr := rl.get j hj hj'
                rw [hj1] at hr
                rw [List.getElem?_eq_getElem hj', flat_eq 4 rfl hr]
              have hlen : k ≤ c'.size := by
                have : w.cell? ⟨b', 0 + (k - 1), none⟩ = some l'[k - 1] := q3 _ _ (List.getElem?_eq_getElem (by omega))
                simp only [World.cell?, hw] at this
                have h2 := (Array.getElem?_eq_some_iff.1 (by simpa using this)).1
                omega
              have hbk : bs.length = k := by omega
              have hr := Lib.run_unsafeString_row (P := P) w pt it ty t hp hc1 b' c'.size (by simp [World.shape?, hw]) bs (fun e => by rw [e] at hbk; simp at hbk; omega) (by omega) (by omega) (fun j x hx => by
                rw [Addr.add_lit]
                exact q3 j _ (hll j x hx))
              rw [hbk] at hr
              refine ⟨_, hr, .string _, ?_⟩
              unfold World.freeze
              rw [if_neg (by omega)]
              exact H.scrap hg hbase eb _
          · cases eq
        · cases eq
      · cases eq
    · cases eq
  · cases eq
def aSamePtr (P : Program) (t : TypeId) (x y : Value) : Option Bool :=
  match P.underlying t, x, y with
  | some (.pointer e), .pointer (some ⟨b, o, none⟩), .pointer (some ⟨c, p, none⟩) => if Nat.beq b c && Nat.beq o p && (P.info? e).isSome then some true else none
  | _, _, _ => none
def aNilEq (P : Program) (t : TypeId) (x y : Value) : Option Bool := (aNilEq0 P t x y).or (aSamePtr P t x y)
theorem aNilEq_run {t : TypeId} {x x' y y' : Value} (rx : VR E x x') (ry : VR E y y') {b : Bool} (eq : aNilEq P t x y = some b) (w : World) (u v : Operand) (op : BinOp) :
    (eqGuard op t u v x' y').run P w = .ok () w ∧ (Op.equal t x' y').run P w = .ok b w ∧ binOp .eql t x' y' = (do pure (.bool (← Op.equal t x' y'))) ∧ binOp .neq t x' y' = (do pure (.bool (!(← Op.equal t x' y')))) := by
  rcases Option.or_eq_some_iff.1 eq with eq0 | ⟨hno, eq0⟩
  · exact aNilEq0_run rx ry eq0 w u v op
  · unfold aSamePtr at eq0
    split at eq0
    · rename_i e b1 o c p hp
      split at eq0
      · rename_i hc
        cases eq0
        simp only [Bool.and_eq_true] at hc
        obtain ⟨⟨h1, h2⟩, h3⟩ := hc
        have h1 := Nat.eq_of_beq_eq_true h1
        have h2 := Nat.eq_of_beq_eq_true h2
        subst h1 h2
        obtain ⟨j, hj⟩ := Option.isSome_iff_exists.1 h3
        cases rx with
        | ptr e1 =>
          cases ry with
          | ptr e2 =>
            rw [e1] at e2
            cases e2
            refine ⟨by cases op <;> rfl, ?_, rfl, rfl⟩
            have h : ∀ (a : Addr) (d : Nat), (Op.equalIn (d + 1) t (.pointer (some a)) (.pointer (some a))).run P w = .ok true w := fun a d => by
              simp [Op.equalIn, run_underlying hp, sizeOf, typeInfo, hj, run_sameAddr_same]
            exact h _ 9999
      · cases eq0
    · cases eq0
end
end Go.Ab
