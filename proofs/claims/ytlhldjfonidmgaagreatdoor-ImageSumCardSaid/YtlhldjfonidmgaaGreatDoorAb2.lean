/- What the abstract memory says of a world; reading, writing, new blocks. -/
import Derived.Test.YtlhldjfonidmgaaGreatDoorAb1
namespace Go.Ab
set_option linter.unusedSimpArgs false
set_option linter.unusedVariables false

/-- Has a value no address in it? -/
def isFlat : Nat → Value → Bool
  | _, .bool _ | _, .int _ _ | _, .float _ _ | _, .string _ | _, .pointer none | _, .slice none _ _ | _, .map none | _, .nilFunc | _, .nilIface => true
  | n + 1, .iface _ v => isFlat n v
  | n + 1, .agg cs => cs.toList.all (isFlat n)
  | n + 1, .tuple cs => cs.toList.all (isFlat n)
  | n + 1, .func (.func _) fs cs => fs.toList.all (isFlat n) && cs.toList.all (isFlat n)
  | _, _ => false
theorem arr_ext {cs cs' : Array Value} (h : cs.size = cs'.size) (hi : ∀ i (h1 : i < cs.size), cs'[i]'(h ▸ h1) = cs[i]) : cs' = cs := by
  refine Array.ext h.symm (fun i h1 h2 => hi i h2)
theorem all_at {cs : Array Value} {p : Value → Bool} (h : cs.toList.all p = true) (i : Nat) (hi : i < cs.size) : p cs[i] = true := by
  rw [List.all_eq_true] at h
  exact h _ (by simp)
theorem flat_eq {E : Env} : ∀ (n : Nat) {v v' : Value}, isFlat n v = true → VR E v v' → v' = v := by
  intro n
  induction n with
  | zero => intro v v' h r; cases r <;> first | rfl | (simp [isFlat] at h)
  | succ n ih =>
    intro v v' h r
    cases r with
    | iface t r => simp only [isFlat] at h; rw [ih h r]
    | agg e i => simp only [isFlat] at h; rw [arr_ext e (fun k hk => ih (all_at h k hk) (i k hk))]
    | tuple e i => simp only [isFlat] at h; rw [arr_ext e (fun k hk => ih (all_at h k hk) (i k hk))]
    | func f h1 g1 h2 g2 =>
      cases f with
      | func f =>
        simp only [isFlat, Bool.and_eq_true] at h
        rw [arr_ext h1 (fun k hk => ih (all_at h.1 k hk) (g1 k hk)), arr_ext h2 (fun k hk => ih (all_at h.2 k hk) (g2 k hk))]
      | _ => simp [isFlat] at h
    | _ => first | rfl | (simp [isFlat] at h)
theorem flat_refl {E : Env} : ∀ (n : Nat) {v : Value}, isFlat n v = true → VR E v v := by
  intro n
  induction n with
  | zero =>
    intro v h
    cases v with
    | bool b => exact .bool b
    | int k n => exact .int k n
    | float k n => exact .float k n
    | string s => exact .string s
    | pointer a => cases a with | none => exact .nilPtr | some a => simp [isFlat] at h
    | slice a l c => cases a with | none => exact .nilSlice l c | some a => simp [isFlat] at h
    | map a => cases a with | none => exact .nilMap | some a => simp [isFlat] at h
    | nilFunc => exact .nilFunc
    | nilIface => exact .nilIface
    | _ => simp [isFlat] at h
  | succ n ih =>
    intro v h
    cases v with
    | bool b => exact .bool b
    | int k n => exact .int k n
    | float k n => exact .float k n
    | string s => exact .string s
    | pointer a => cases a with | none => exact .nilPtr | some a => simp [isFlat] at h
    | slice a l c => cases a with | none => exact .nilSlice l c | some a => simp [isFlat] at h
    | map a => cases a with | none => exact .nilMap | some a => simp [isFlat] at h
    | nilFunc => exact .nilFunc
    | nilIface => exact .nilIface
    | iface t v => simp only [isFlat] at h; exact .iface t (ih h)
    | agg cs => simp only [isFlat] at h; exact .agg rfl (fun i hi => ih (all_at h i hi))
    | tuple cs => simp only [isFlat] at h; exact .tuple rfl (fun i hi => ih (all_at h i hi))
    | func f fs cs =>
      cases f with
      | func f =>
        simp only [isFlat, Bool.and_eq_true] at h
        exact .func (.func f) rfl (fun i hi => ih (all_at h.1 i hi)) rfl (fun i hi => ih (all_at h.2 i hi))
      | _ => simp [isFlat] at h
    | _ => simp [isFlat] at h

inductive TargetR (E : Env) : Target → Target → Prop
  | fn {f f' cs cs'} : FnR E f f' → VRs E cs cs' → TargetR E (.fn f cs) (.fn f' cs')
  | nil : TargetR E .nil .nil
  | builtin (b ts t cs) : TargetR E (.builtin b ts t cs) (.builtin b ts t cs)
  | collected {r r'} : E r = some (r', none) → TargetR E (.collected r) (.collected r')
theorem TargetR.mono {E E' : Env} (h : E.le E') {t t' : Target} (r : TargetR E t t') : TargetR E' t t' := by
  cases r with
  | fn f c => exact .fn (f.mono h) (c.mono h)
  | nil => exact .nil
  | builtin b ts t cs => exact .builtin b ts t cs
  | collected e => exact .collected (h _ _ e)
structure DefR (E : Env) (d d' : Deferred) : Prop where
  t : TargetR E d.target d'.target
  a : VRs E d.args d'.args
theorem DefR.mono {E E' : Env} (h : E.le E') {d d' : Deferred} (r : DefR E d d') : DefR E' d d' := ⟨r.t.mono h, r.a.mono h⟩
inductive DefsR (E : Env) : List Deferred → List Deferred → Prop
  | nil : DefsR E [] []
  | cons {d d' l l'} : DefR E d d' → DefsR E l l' → DefsR E (d :: l) (d' :: l')
theorem DefsR.mono {E E' : Env} (h : E.le E') {l l' : List Deferred} (r : DefsR E l l') : DefsR E' l l' := by
  induction r with
  | nil => exact .nil
  | cons d _ i => exact .cons (d.mono h) i
theorem DefsR.append {E : Env} {l l' m m' : List Deferred} (r : DefsR E l l') (s : DefsR E m m') : DefsR E (l ++ m) (l' ++ m') := by
  induction r with
  | nil => exact s
  | cons d _ i => exact .cons d i
structure LoopR (E : Env) (L L' : Loop) : Prop where
  state : L'.state = L.state
  pending : L'.pending = L.pending
  fn : L'.fn = L.fn
  tmps : VRs E L.tmps L'.tmps
  params : L'.params = L.params
  assign : L'.assign = L.assign
  body : L'.body = L.body
  defers : E L.defers = some (L'.defers, none)
theorem LoopR.mono {E E' : Env} (h : E.le E') {d d' : Loop} (r : LoopR E d d') : LoopR E' d d' := ⟨r.state, r.pending, r.fn, r.tmps.mono h, r.params, r.assign, r.body, h _ _ r.defers⟩

/-- What is not to be written, of a row. -/
def FzR (c c' : Array Value) (fr fr' : Nat × Nat) : Prop := ∀ i, i < c'.size → ((fr'.1 ≤ i ∧ i < fr'.2) ↔ (i < c.size ∧ fr.1 ≤ i ∧ i < fr.2))
inductive ObjR (P : Program) (E : Env) (op : Option Nat) : Obj → Obj → Prop
  | cells {c c' t fr fr'} : c'.size = c.size + op.getD 0 * P.cellsOf t → FzR c c' fr fr' → (∀ i (h : i < c.size) (h' : i < c'.size), VR E c[i] c'[i]) → ObjR P E op (.cells c t fr) (.cells c' t fr')
  | map {es k} : (∀ e ∈ es.toList, isFlat 4 e.key = true ∧ isFlat 4 e.val = true) → ObjR P E op (.map es k) (.map es k)
  | loop {L L'} : LoopR E L L' → ObjR P E op (.loop L) (.loop L')
  | taken : ObjR P E op (.deferred none) (.deferred none)
  | deferred {ds ds'} : DefsR E ds ds' → ObjR P E op (.deferred (some ds)) (.deferred (some ds'))
theorem ObjR.mono {P : Program} {E E' : Env} (h : E.le E') {op : Option Nat} {o o' : Obj} (r : ObjR P E op o o') : ObjR P E' op o o' := by
  cases r with
  | cells a f c => exact .cells a f (fun i h1 h2 => (c i h1 h2).mono h)
  | map f => exact .map f
  | loop l => exact .loop (l.mono h)
  | taken => exact .taken
  | deferred d => exact .deferred (d.mono h)
theorem ObjR.row {P : Program} {E : Env} {c c' : Array Value} {t : TypeId} {fr : Nat × Nat} (h : VRs E c c') : ObjR P E none (.cells c t fr) (.cells c' t fr) :=
  .cells (by simp [h.1]) (fun i hi => ⟨fun k => ⟨h.1 ▸ hi, k⟩, fun k => k.2⟩) (fun i h1 _ => h.2 i h1)

/-- The world is an elder one with more blocks, draws apart. -/
structure Old (w0 w : World) : Prop where
  os : w.os = w0.os
  tape : w.tape = w0.tape
  output : w.output = w0.output
  size : w0.heap.size ≤ w.heap.size
  blk : ∀ k, k < w0.heap.size → w.heap[k]? = w0.heap[k]?
/-- The elder world; the blocks that the abstract memory has and the world not yet. -/
structure W0 where
  w : World
  Pd : Nat → Prop
structure HR (P : Program) (w0 : W0) (E : Env) (h : AH) (w : World) : Prop where
  dom : ∀ i x, E i = some x → i < h.next
  img : ∀ i b op, E i = some (b, op) → b < w.heap.size
  blk : ∀ i o fl, h.get i = some (o, fl) → ∀ {x}, E i = some x → ∃ b op o', E i = some (b, op) ∧ op.isSome = fl ∧ w.heap[b]? = some o' ∧ ObjR P E op o o'
  inj : ∀ i j b p q x y, h.get i = some x → h.get j = some y → E i = some (b, p) → E j = some (b, q) → i = j
  old : Old w0.w w
  own : ∀ i b op, h.base ≤ i → E i = some (b, op) → w0.w.heap.size ≤ b
  dep : h.next + 1 < 2 ^ depth
  lt : ∀ {i x}, h.get i = some x → i < h.next
  pend : ∀ i, w0.Pd i → E i = none ∧ i < h.next

def at' (a : Addr) (b : Nat) : Addr := { a with block := b }
section
variable {P : Program} {w0 : W0} {E : Env} {h : AH} {w : World}
theorem HR.row (H : HR P w0 E h w) {i : Nat} {c : Array Value} {t : TypeId} {fr : Nat × Nat} {fl : Bool} (hg : h.get i = some (.cells c t fr, fl)) {x : Nat × Option Nat} (ex : E i = some x) :
    ∃ b op c' fr', E i = some (b, op) ∧ op.isSome = fl ∧ w.heap[b]? = some (.cells c' t fr') ∧ c'.size = c.size + op.getD 0 * P.cellsOf t ∧ FzR c c' fr fr' ∧ ∀ k (h : k < c.size) (h' : k < c'.size), VR E c[k] c'[k] := by
  obtain ⟨b, op, o', e, ef, hb, r⟩ := H.blk i _ fl hg ex
  cases r with
  | cells a1 a2 a3 => exact ⟨b, op, _, _, e, ef, hb, a1, a2, a3⟩
theorem HR.cell (H : HR P w0 E h w) {a : Addr} {v : Value} (hv : h.cell? a = some v) {b' : Nat} {op : Option Nat} (hb : E a.block = some (b', op)) :
    ∃ v', w.cell? (at' a b') = some v' ∧ VR E v v' := by
  unfold AH.cell? at hv
  split at hv
  · rename_i c t fr p hg
    obtain ⟨b, op1, c', fr', e, ef, hw, h1, h2, h3⟩ := H.row hg hb
    rw [hb] at e
    cases e
    by_cases hs : a.spot.isSome = true
    · simp [hs] at hv
    · simp only [hs, if_false, Bool.false_eq_true] at hv
      obtain ⟨hk, rfl⟩ := Array.getElem?_eq_some_iff.1 hv
      have hk' : a.off < c'.size := by omega
      refine ⟨c'[a.off], ?_, h3 _ hk hk'⟩
      simp [World.cell?, at', hw, hs, hk']
  · cases hv
/-- Another block behind a number. -/
theorem HR.put (H : HR P w0 E h w) {i : Nat} {x : Obj × Bool} (hg : h.get i = some x) (hbase : h.base ≤ i) {o o' : Obj} {op : Option Nat} {b : Nat} (hb : E i = some (b, op)) (r : ObjR P E op o o') :
    HR P w0 E (h.set i (some (o, op.isSome))) { w with heap := w.heap.setIfInBounds b o' } := by
  have hi := H.lt hg
  have hd : i + 1 < 2 ^ depth := by have := H.dep; omega
  have hb0 := H.own i b op hbase hb
  have get : ∀ j, (h.set i (some (o, op.isSome))).get j = if j = i then some (o, op.isSome) else h.get j := fun j => Tr.get_set depth h.t i _ j hd
  refine ⟨H.dom, fun j c p e => by simpa using H.img j c p e, fun j oj p hj {xj} ej => ?_, fun j k c p q x y hj hk e1 e2 => ?_, ⟨H.old.os, H.old.tape, H.old.output, by simpa using H.old.size, fun k hk => ?_⟩, H.own, H.dep, fun {j} x hx => ?_, H.pend⟩
  · rw [get] at hj
    by_cases hji : j = i
    · subst hji
      simp only [if_true, Option.some.injEq, Prod.mk.injEq] at hj
      obtain ⟨rfl, rfl⟩ := hj
      exact ⟨b, op, o', hb, rfl, by simp [H.img _ _ _ hb], r⟩
    · simp only [hji, if_false] at hj
      obtain ⟨c, q, oj', e, ef, hc, rj⟩ := H.blk j oj p hj ej
      refine ⟨c, q, oj', e, ef, ?_, rj⟩
      have hne : b ≠ c := fun hbc => hji (H.inj j i c q op _ _ hj hg e (hbc ▸ hb))
      rw [Array.getElem?_setIfInBounds_ne hne]; exact hc
  · have live : ∀ j x, (h.set i (some (o, op.isSome))).get j = some x → ∃ y, h.get j = some y := fun j x hx => by
      rw [get] at hx
      by_cases e : j = i
      · exact ⟨_, e ▸ hg⟩
      · simp only [e, if_false] at hx; exact ⟨_, hx⟩
    obtain ⟨x', hx'⟩ := live j x hj
    obtain ⟨y', hy'⟩ := live k y hk
    exact H.inj j k c p q _ _ hx' hy' e1 e2
  · simp only
    rw [Array.getElem?_setIfInBounds_ne (by omega)]
    exact H.old.blk k hk
  · rw [get] at hx
    by_cases e : j = i
    · rw [e]; exact hi
    · simp only [e, if_false] at hx; exact H.lt hx
/-- A new block. -/
def Env.ext (E : Env) (i : Nat) (x : Nat × Option Nat) : Env := fun j => if j = i then some x else E j
theorem HR.ext_le (H : HR P w0 E h w) (x : Nat × Option Nat) : E.le (E.ext h.next x) := fun b y e => by
  have : b ≠ h.next := Nat.ne_of_lt (H.dom b y e)
  simp [Env.ext, this, e]
theorem HR.push (H : HR P w0 E h w) {o o' : Obj} {op : Option Nat} (r : ObjR P (E.ext h.next (w.heap.size, op)) op o o') (hn : h.next + 2 < 2 ^ depth) (hbase : h.base ≤ h.next) :
    HR P w0 (E.ext h.next (w.heap.size, op)) (h.push o op.isSome) { w with heap := w.heap.push o' } := by
  have hd := H.dep
  have le := H.ext_le (w.heap.size, op)
  have get : ∀ j, (h.push o op.isSome).get j = if j = h.next then some (o, op.isSome) else h.get j := fun j => Tr.get_set depth h.t h.next _ j hd
  have old : ∀ j x, h.get j = some x → j ≠ h.next := fun j x hx => Nat.ne_of_lt (H.lt hx)
  refine ⟨fun j x e => ?_, fun j c p e => ?_, fun j oj p hj {xj} ej => ?_, fun j k c p q x y hj hk e1 e2 => ?_, ⟨H.old.os, H.old.tape, H.old.output, ?_, fun k hk => ?_⟩, fun j c p hj e => ?_, hn, fun {j} x hx => ?_, fun j hj => ?_⟩
  · show j < h.next + 1
    by_cases hj : j = h.next
    · omega
    · simp only [Env.ext, hj, if_false] at e
      have := H.dom j x e; omega
  · show c < (w.heap.push o').size
    rw [Array.size_push]
    by_cases hj : j = h.next
    · simp only [Env.ext, hj, if_true, Option.some.injEq, Prod.mk.injEq] at e; omega
    · simp only [Env.ext, hj, if_false] at e
      have := H.img j c p e; omega
  · rw [get] at hj
    by_cases hji : j = h.next
    · subst hji
      simp only [if_true, Option.some.injEq, Prod.mk.injEq] at hj
      obtain ⟨rfl, rfl⟩ := hj
      exact ⟨w.heap.size, op, o', by simp [Env.ext], rfl, by simp, r⟩
    · simp only [hji, if_false] at hj
      simp only [Env.ext, hji, if_false] at ej
      obtain ⟨c, q, oj', e, ef, hc, rj⟩ := H.blk j oj p hj ej
      refine ⟨c, q, oj', le _ _ e, ef, ?_, rj.mono le⟩
      have := H.img j c q e
      rw [show ({ w with heap := w.heap.push o' } : World).heap = w.heap.push o' from rfl, Array.getElem?_push, if_neg (by omega)]; exact hc
  · rw [get] at hj hk
    by_cases hj' : j = h.next <;> by_cases hk' : k = h.next
    · omega
    · simp only [Env.ext, hj', if_true, hk', if_false, Option.some.injEq, Prod.mk.injEq] at e1 e2
      have := H.img k c q e2; omega
    · simp only [Env.ext, hj', if_true, hk', if_false, Option.some.injEq, Prod.mk.injEq] at e1 e2
      have := H.img j c p e1; omega
    · simp only [Env.ext, hj', hk', if_false] at e1 e2 hj hk
      exact H.inj j k c p q _ _ hj hk e1 e2
  · show w0.w.heap.size ≤ (w.heap.push o').size
    rw [Array.size_push]; have := H.old.size; omega
  · show (w.heap.push o')[k]? = _
    have := H.old.size
    rw [Array.getElem?_push, if_neg (by omega)]; exact H.old.blk k hk
  · by_cases hji : j = h.next
    · simp only [Env.ext, hji, if_true, Option.some.injEq, Prod.mk.injEq] at e
      have := H.old.size; omega
    · simp only [Env.ext, hji, if_false] at e
      exact H.own j c p hj e
  · rw [get] at hx
    show j < h.next + 1
    by_cases e : j = h.next
    · omega
    · simp only [e, if_false] at hx
      have := H.lt hx; omega
  · obtain ⟨h1, h2⟩ := H.pend j hj
    have : j ≠ h.next := by omega
    exact ⟨by simp [Env.ext, this, h1], by show j < h.next + 1; omega⟩
/-- A block that the world has not yet. -/
theorem HR.await (H : HR P w0 E h w) (o : Obj) (fl : Bool) (hn : h.next + 2 < 2 ^ depth) : HR P { w0 with Pd := fun i => w0.Pd i ∨ i = h.next } E (h.push o fl) w := by
  have get : ∀ j, (h.push o fl).get j = if j = h.next then some (o, fl) else h.get j := fun j => Tr.get_set depth h.t h.next _ j H.dep
  have hne : ∀ {j x}, E j = some x → j ≠ h.next := fun e => Nat.ne_of_lt (H.dom _ _ e)
  refine ⟨fun j x e => Nat.lt_succ_of_lt (H.dom j x e), H.img, fun j oj p hj {xj} ej => ?_, fun j k c p q x y hj hk e1 e2 => ?_, H.old, H.own, hn, fun {j} x hx => ?_, fun j hj => ?_⟩
  · rw [get, if_neg (hne ej)] at hj
    exact H.blk j oj p hj ej
  · rw [get, if_neg (hne e1)] at hj
    rw [get, if_neg (hne e2)] at hk
    exact H.inj j k c p q _ _ hj hk e1 e2
  · rw [get] at hx
    show j < h.next + 1
    by_cases e : j = h.next
    · omega
    · simp only [e, if_false] at hx
      have := H.lt hx; omega
  · show _ ∧ j < h.next + 1
    rcases hj with hj | rfl
    · obtain ⟨h1, h2⟩ := H.pend j hj
      exact ⟨h1, by omega⟩
    · refine ⟨?_, by omega⟩
      cases e : E h.next with
      | none => rfl
      | some x => exact absurd rfl (hne e)
theorem HR.weaken (H : HR P w0 E h w) {Pd : Nat → Prop} (hp : ∀ i, Pd i → w0.Pd i) : HR P { w0 with Pd := Pd } E h w :=
  ⟨H.dom, H.img, H.blk, H.inj, H.old, H.own, H.dep, H.lt, fun i hi => H.pend i (hp i hi)⟩
/-- It comes into the world. -/
theorem HR.comes (H : HR P w0 E h w) {i : Nat} {o o' : Obj} (hg : h.get i = some (o, false)) (he : E i = none) (hp : ¬ w0.Pd i) (hbase : h.base ≤ i) (r : ObjR P (E.ext i (w.heap.size, none)) none o o') :
    E.le (E.ext i (w.heap.size, none)) ∧ HR P w0 (E.ext i (w.heap.size, none)) h { w with heap := w.heap.push o' } := by
  have le : E.le (E.ext i (w.heap.size, none)) := fun j x e => by
    have : j ≠ i := fun hj => by rw [hj, he] at e; cases e
    simp [Env.ext, this, e]
  refine ⟨le, fun j x e => ?_, fun j c p e => ?_, fun j oj p hj {xj} ej => ?_, fun j k c p q x y hj hk e1 e2 => ?_, ⟨H.old.os, H.old.tape, H.old.output, ?_, fun k hk => ?_⟩, fun j c p hj e => ?_, H.dep, H.lt, fun j hj => ?_⟩
  · by_cases hj : j = i
    · rw [hj]; exact H.lt hg
    · simp only [Env.ext, hj, if_false] at e; exact H.dom j x e
  · show c < (w.heap.push o').size
    rw [Array.size_push]
    by_cases hj : j = i
    · simp only [Env.ext, hj, if_true, Option.some.injEq, Prod.mk.injEq] at e; omega
    · simp only [Env.ext, hj, if_false] at e
      have := H.img j c p e; omega
  · by_cases hji : j = i
    · subst hji
      rw [hg] at hj
      cases hj
      exact ⟨w.heap.size, none, o', by simp [Env.ext], rfl, by simp, r⟩
    · simp only [Env.ext, hji, if_false] at ej
      obtain ⟨c, q, oj', e, ef, hc, rj⟩ := H.blk j oj p hj ej
      refine ⟨c, q, oj', le _ _ e, ef, ?_, rj.mono le⟩
      have := H.img j c q e
      rw [show ({ w with heap := w.heap.push o' } : World).heap = w.heap.push o' from rfl, Array.getElem?_push, if_neg (by omega)]; exact hc
  · by_cases hj' : j = i <;> by_cases hk' : k = i
    · omega
    · simp only [Env.ext, hj', if_true, hk', if_false, Option.some.injEq, Prod.mk.injEq] at e1 e2
      have := H.img k c q e2; omega
    · simp only [Env.ext, hj', if_true, hk', if_false, Option.some.injEq, Prod.mk.injEq] at e1 e2
      have := H.img j c p e1; omega
    · simp only [Env.ext, hj', hk', if_false] at e1 e2
      exact H.inj j k c p q _ _ hj hk e1 e2
  · show w0.w.heap.size ≤ (w.heap.push o').size
    rw [Array.size_push]; have := H.old.size; omega
  · show (w.heap.push o')[k]? = _
    have := H.old.size
    rw [Array.getElem?_push, if_neg (by omega)]; exact H.old.blk k hk
  · by_cases hji : j = i
    · simp only [Env.ext, hji, if_true, Option.some.injEq, Prod.mk.injEq] at e
      have := H.old.size; omega
    · simp only [Env.ext, hji, if_false] at e
      exact H.own j c p hj e
  · obtain ⟨h1, h2⟩ := H.pend j hj
    have : j ≠ i := fun e => hp (e ▸ hj)
    exact ⟨by simp [Env.ext, this, h1], h2⟩
/-- A block forgotten. -/
theorem HR.kill (H : HR P w0 E h w) {i : Nat} (hi : i < h.next) : HR P w0 E (h.set i none) w := by
  have hd : i + 1 < 2 ^ depth := by have := H.dep; omega
  have get : ∀ j, (h.set i none).get j = if j = i then none else h.get j := fun j => Tr.get_set depth h.t i _ j hd
  refine ⟨H.dom, H.img, fun j oj p hj {xj} ej => ?_, fun j k c p q x y hj hk e1 e2 => ?_, H.old, H.own, H.dep, fun {j} x hx => ?_, H.pend⟩
  · rw [get] at hj
    by_cases hji : j = i
    · simp [hji] at hj
    · simp only [hji, if_false] at hj; exact H.blk j oj p hj ej
  · rw [get] at hj hk
    by_cases hji : j = i
    · simp [hji] at hj
    · by_cases hki : k = i
      · simp [hki] at hk
      · simp only [hji, hki, if_false] at hj hk
        exact H.inj j k c p q _ _ hj hk e1 e2
  · rw [get] at hx
    by_cases e : j = i
    · simp [e] at hx
    · simp only [e, if_false] at hx; exact H.lt hx
theorem HR.drawn (H : HR P w0 E h w) (n : Nat) : HR P w0 E h { w with drawn := n } := ⟨H.dom, H.img, H.blk, H.inj, ⟨H.old.os, H.old.tape, H.old.output, H.old.size, H.old.blk⟩, H.own, H.dep, H.lt, H.pend⟩
end
end Go.Ab
