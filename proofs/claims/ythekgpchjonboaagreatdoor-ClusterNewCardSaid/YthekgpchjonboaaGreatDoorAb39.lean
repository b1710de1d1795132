/- A run of the executor from one block that the world has: a contract wherever that block lies. -/
import Derived.Test.YthekgpchjonboaaGreatDoorAbM4
namespace Go.Ab
set_option linter.unusedSimpArgs false
set_option linter.unusedVariables false
def h11 (c : Array Value) (t : TypeId) : AH := ⟨.node .leaf (some (.cells c t (0, 0), false)) .leaf, 1, 1⟩
def E11 (D : Nat) : Env := fun i => if i = 0 then some (D, none) else none
theorem E11_eq {D i : Nat} {x : Nat × Option Nat} (e : E11 D i = some x) : i = 0 ∧ x = (D, none) := by
  unfold E11 at e
  split at e
  · rename_i h
    cases e
    exact ⟨h, rfl⟩
  · cases e
theorem h11_get {c : Array Value} {t : TypeId} {i : Nat} {x : Obj × Bool} (e : (h11 c t).get i = some x) : i = 0 ∧ x = (.cells c t (0, 0), false) := by
  by_cases hi : i = 0
  · subst hi
    have : some ((Obj.cells c t (0, 0), false) : Obj × Bool) = some x := e
    cases this
    exact ⟨rfl, rfl⟩
  · simp only [AH.get, h11, Tr.get, beq_false hi, cond_false] at e
    cases h : Nat.beq (i % 2) 1 <;> rw [h] at e <;> cases e
theorem HR.one (P : Program) {w : World} {D : Nat} {c : Array Value} {t : TypeId} (hw : w.heap[D]? = some (.cells c t (0, 0))) (hc : c.toList.all (isFlat 4) = true) : HR P ⟨w, fun _ => False⟩ (E11 D) (h11 c t) w :=
  ⟨fun i x e => by obtain ⟨rfl, _⟩ := E11_eq e; exact Nat.zero_lt_one,
   fun i b op e => by obtain ⟨_, h⟩ := E11_eq e; cases h; exact (Array.getElem?_eq_some_iff.1 hw).1,
   fun i o fl hg {x} e => by
    obtain ⟨rfl, h⟩ := h11_get hg
    cases h
    exact ⟨D, none, _, rfl, rfl, hw, .row ⟨rfl, fun i h => flat_refl 4 (all_at hc i h)⟩⟩,
   fun i j b p q x y hi hj _ _ => by obtain ⟨rfl, _⟩ := h11_get hi; obtain ⟨rfl, _⟩ := h11_get hj; rfl,
   ⟨rfl, rfl, rfl, Nat.le_refl _, fun k _ => rfl⟩,
   fun i b op hb e => by obtain ⟨rfl, _⟩ := E11_eq e; exact absurd hb (by show ¬ (1 ≤ 0); omega),
   (by show 1 + 1 < 2 ^ depth; decide),
   fun {i x} hg => by obtain ⟨rfl, _⟩ := h11_get hg; exact Nat.zero_lt_one,
   fun i h => h.elim⟩
theorem root1 {P : Program} (hz : ZerosFlat P) (hmix : P.follows .mixedOrders = true) {f n : Nat} {c : Array Value} {t : TypeId} {v : Value} {h' : AH} (e : afr P 0 noOrc n (Frame.enter P f #[.pointer (some ⟨0, 0, none⟩)] .normal) (h11 c t) = some (v, h')) (hf : isFlat 4 v = true) (hc : c.toList.all (isFlat 4) = true)
    {w : World} {D : Nat} (hw : w.heap[D]? = some (.cells c t (0, 0))) : Calls P f #[.pointer (some ⟨D, 0, none⟩)] w fun e w' => e = .returned v ∧ Grew w w' := by
  intro cs
  have hvr : VRs (E11 D) #[.pointer (some ⟨0, 0, none⟩)] #[.pointer (some ⟨D, 0, none⟩)] := ⟨rfl, fun i hi => by
    have hi : i < 1 := hi
    obtain rfl : i = 0 := by omega
    exact .ptr (b' := D) (op := none) rfl⟩
  obtain ⟨E', v', w', le, rv, H, en⟩ := afr_ok hz hmix (fun f xs h v h' e => by cases e) n _ _ _ _ e ⟨w, fun _ => False⟩ (E11 D) w (Frame.enter P f #[.pointer (some ⟨D, 0, none⟩)] .normal) cs
    (FR.enter hvr .normal) (.inl rfl) (fun g hg => absurd hg (Nat.not_lt_zero g)) (HR.one P hw hc)
  have hv := flat_eq 4 hf rv
  subst hv
  obtain ⟨fr2, h1, h2, h3, h4, h5, h6⟩ := en
  exact ⟨.returned _, w', fr2, ⟨rfl, H.old.grew⟩, h1, h2, h3, h4, h5, h6⟩
/-- Does the quick executor give this value from one block? -/
noncomputable def kruns1 (P : Program) (f n : Nat) (c : Array Value) (t : TypeId) (v : Value) : Bool :=
  isFlat 4 v && c.toList.all (isFlat 4) && @Option.rec (Value × AH) (fun _ => Bool) false (fun x => veq 8 x.1 v) ((kenter P f 1 .normal).run (krun P 0 n) [.pointer (some ⟨0, 0, none⟩)] (h11 c t))
theorem kruns1_calls {P : Program} (hz : zerosOk P = true) (hm : P.follows .mixedOrders = true) {f n : Nat} {c : Array Value} {t : TypeId} {v : Value} (h : kruns1 P f n c t v = true) {w : World} {D : Nat} (hw : w.heap[D]? = some (.cells c t (0, 0))) :
    Calls P f #[.pointer (some ⟨D, 0, none⟩)] w fun e w' => e = .returned v ∧ Grew w w' := by
  unfold kruns1 at h
  rw [Bool.and_eq_true, Bool.and_eq_true] at h
  obtain ⟨⟨hf, hc⟩, h⟩ := h
  cases hk : (kenter P f 1 .normal).run (krun P 0 n) [.pointer (some ⟨0, 0, none⟩)] (h11 c t) with
  | none => rw [hk] at h; cases h
  | some x =>
    rw [hk] at h
    obtain ⟨u, h'⟩ := x
    have hu : u = v := veq_eq 8 h
    subst hu
    exact root1 (zeros_of hz) hm (kenter_ok (krun_ok (G := 0) n) rfl hk) hf hc hw
theorem root0 {P : Program} (hz : ZerosFlat P) (hmix : P.follows .mixedOrders = true) {f n : Nat} {as : Array Value} {v : Value} {h' : AH} (e : afr P 0 noOrc n (Frame.enter P f as .normal) h00 = some (v, h')) (hf : isFlat 4 v = true) (ha : as.toList.all (isFlat 4) = true) (w : World) :
    Calls P f as w fun e w' => e = .returned v ∧ Grew w w' := by
  intro cs
  obtain ⟨E', v', w', le, rv, H, en⟩ := afr_ok hz hmix (fun f xs h v h' e => by cases e) n _ _ _ _ e ⟨w, fun _ => False⟩ (fun _ => none) w (Frame.enter P f as .normal) cs (FR.enter (flats_refl ha) .normal) (.inl rfl) (fun g hg => absurd hg (Nat.not_lt_zero g)) (HR.empty P w)
  have hv := flat_eq 4 hf rv
  subst hv
  obtain ⟨fr2, h1, h2, h3, h4, h5, h6⟩ := en
  exact ⟨.returned _, w', fr2, ⟨rfl, H.old.grew⟩, h1, h2, h3, h4, h5, h6⟩
/-- Does the quick executor give this value from these arguments, and no memory? -/
noncomputable def kruns0 (P : Program) (f n : Nat) (as : List Value) (v : Value) : Bool :=
  isFlat 4 v && as.all (isFlat 4) && @Option.rec (Value × AH) (fun _ => Bool) false (fun x => veq 8 x.1 v) ((kenter P f as.length .normal).run (krun P 0 n) as ⟨.leaf, 0, 0⟩)
theorem kruns0_calls {P : Program} (hz : zerosOk P = true) (hm : P.follows .mixedOrders = true) {f n : Nat} {as : List Value} {v : Value} (h : kruns0 P f n as v = true) (w : World) :
    Calls P f ⟨as⟩ w fun e w' => e = .returned v ∧ Grew w w' := by
  unfold kruns0 at h
  rw [Bool.and_eq_true, Bool.and_eq_true] at h
  obtain ⟨⟨hf, hc⟩, h⟩ := h
  cases hk : (kenter P f as.length .normal).run (krun P 0 n) as ⟨.leaf, 0, 0⟩ with
  | none => rw [hk] at h; cases h
  | some x =>
    rw [hk] at h
    obtain ⟨u, h'⟩ := x
    have hu : u = v := veq_eq 8 h
    subst hu
    exact root0 (zeros_of hz) hm (kenter_ok (krun_ok (G := 0) n) rfl hk) hf hc w
end Go.Ab
