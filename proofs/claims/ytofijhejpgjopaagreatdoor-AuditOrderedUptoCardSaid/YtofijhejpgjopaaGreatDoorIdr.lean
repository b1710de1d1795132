/- Ranging over a map keyed by IDs. -/
import Derived.Test.YtofijhejpgjopaaGreatDoorIdm
namespace Go.Proofs.YtofijhejpgjopaaGreatDoor
open Go.RowKit Go.Maps
set_option linter.unusedSimpArgs false
set_option linter.unusedVariables false

/-- BLOCK r RANGES OVER THE MAP b, WHICH HOLDS f; left: what is still to come. -/
def IdRange (w : World) (b r : Nat) (f : IdD → Option Int) (left : IdD → Bool) (n cnt : Nat) : Prop :=
  ∃ (D : DataW Unit) (lf : Lit → Bool), w.ranges Tryz.prog 43 (plainElem Tryz.prog 3) b r n D lf cnt ∧
    (∀ x : IdD, x.Fits → Maps.has D (idLit x) = (f x).isSome) ∧ ∀ x : IdD, x.Fits → lf (idLit x) = left x
namespace IdRange
variable {w w' : World} {b r n cnt : Nat} {f : IdD → Option Int} {left : IdD → Bool}
theorem keep (h : IdRange w b r f left n cnt) (hb : w'.heap[b]? = w.heap[b]?) (hr : w'.heap[r]? = w.heap[r]?) : IdRange w' b r f left n cnt := by
  obtain ⟨D, lf, ⟨es, clock, since, seen, c0, h1, h2, h3, h4, h5, h6⟩, hf⟩ := h
  exact ⟨D, lf, ⟨es, clock, since, seen, c0, hb.trans h1, h2, h3, h4, hr.trans h5, h6⟩, hf⟩
theorem lt (h : IdRange w b r f left n cnt) : b < w.heap.size ∧ r < w.heap.size := by
  obtain ⟨D, lf, ⟨es, clock, since, seen, c0, h1, h2, h3, h4, h5, h6⟩, hf⟩ := h
  exact ⟨(Array.getElem?_eq_some_iff.1 h1).1, (Array.getElem?_eq_some_iff.1 h5).1⟩
theorem grew (h : IdRange w b r f left n cnt) (hg : Grew w w') : IdRange w' b r f left n cnt := h.keep (hg.block b h.lt.1) (hg.block r h.lt.2)
theorem left_eq (h : IdRange w b r f left n cnt) : w.rangeLeft b r = cnt := by
  obtain ⟨D, lf, h1, _⟩ := h
  exact h1.left_eq
end IdRange
section
variable (w : World) {ops : Array Oper} {rest : List Oper} {o : Oper} {a : Act} {Q : Exit → Act → World → Prop}
theorem wpList_id_range (hg : o.guard = none) (m : Operand) (hop : o.op = Op.range 78 m) (b n : Nat) (f : IdD → Option Int) (hm : a.eval m = .map (some b)) (hown : IdMap w b f n)
    (hK : ∀ w', IdRange w' b w.heap.size f (fun x => (f x).isSome) n n → Grew w w' → wpList Tryz.prog ops Q rest (a.put o.dst (.pointer (some ⟨w.heap.size, 0, none⟩))) w') :
    wpList Tryz.prog ops Q (o :: rest) a w := by
  obtain ⟨D, ho, hs, hf⟩ := hown
  refine wpList_range_own w hg m 78 hop 43 3 id_law Tryz.underlying78 _ b n D hm ho (fun w' h1 h2 h3 => hK w' ⟨D, _, ?_, fun x hx => (hf x hx).1, fun x hx => (hf x hx).1⟩ ?_)
  · rw [hs] at h1; exact h1
  · exact (Grew.refl w).grown h2 (fun k e => by cases e)
theorem wpList_id_next (hg : o.guard = none) (it : Operand) (hop : o.op = Op.next it false) (b r n cnt : Nat) (f : IdD → Option Int) (left : IdD → Bool) (hit : a.eval it = .pointer (some ⟨r, 0, none⟩)) (h : IdRange w b r f left n cnt)
    (hDone : (∀ x : IdD, x.Fits → left x = false) → wpList Tryz.prog ops Q rest (a.put o.dst (.tuple #[.bool false])) w)
    (hMore : ∀ (x : IdD) (c : Int) (w' : World) (cnt' : Nat), x.Fits → left x = true → IdRange w' b r f (fun y => left y && !decide (y = x)) n cnt' → cnt' < cnt → w.grownBy w' (some r) → w'.heap.size = w.heap.size →
      (Instr.entry (.pointer (some ⟨r, 0, none⟩))).run Tryz.prog w' = .ok (.tuple #[x.val, .int .i64 c]) w' → wpList Tryz.prog ops Q rest (a.put o.dst (.tuple #[.bool true, x.val, .int .i64 c])) w') :
    wpList Tryz.prog ops Q (o :: rest) a w := by
  obtain ⟨D, lf, hr, hf, hl⟩ := h
  refine wpList_next_ranges w hg it hop 43 id_law (plainElem Tryz.prog 3) IdD.val (Value.int .i64) (fun key kl hk => ?_) (fun v y hv => ?_) b r n D lf cnt hit hr (fun _ h0 => hDone (fun x hx => by rw [← hl x hx]; exact h0 _)) ?_
  · obtain ⟨x, rfl, _⟩ := keyOf_id_inv hk
    exact ⟨x, rfl⟩
  · obtain ⟨c, rfl, _⟩ := plainElem_int_inv Tryz.underlying3 hv
    exact ⟨c, rfl⟩
  · intro x c kl y w' cnt' hkey hlk hv hat hrg hlt hgr hsz hen
    obtain ⟨x', ex, hx, rfl⟩ := keyOf_id_inv hkey
    obtain rfl := IdD.val_inj ex
    refine hMore x c w' cnt' hx (by rw [← hl x hx]; exact hlk) ⟨D, _, hrg, hf, fun z hz => ?_⟩ hlt hgr hsz hen
    rw [hl z hz]
    have e1 : (idLit z).sameKey (idLit x) = decide (z = x) := by
      by_cases e : z = x
      · subst e; simp [WideAt.sameKey_self (idLit_key z)]
      · have hne : idLit z ≠ idLit x := fun h => e (idLit_inj hz hx h)
        rw [decide_eq_false e]
        cases hs : (idLit z).sameKey (idLit x) with
        | false => rfl
        | true => exact absurd (WideAt.sameKey_eq hs) hne
    rw [e1]
end
end Go.Proofs.YtofijhejpgjopaaGreatDoor
