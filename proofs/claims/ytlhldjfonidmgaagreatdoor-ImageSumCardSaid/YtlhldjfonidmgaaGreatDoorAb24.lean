/- A region whose order is drawn: the whole of it. -/
import Derived.Test.YtlhldjfonidmgaaGreatDoorAb23
namespace Go.Ab
set_option linter.unusedSimpArgs false
set_option linter.unusedVariables false
set_option linter.unusedSectionVars false
def unl (S : Array Bool) (n : Nat) : Nat := (List.range n).countP fun i => !S.getD i true
theorem countP_lt {p q : Nat → Bool} : ∀ (l : List Nat) (i : Nat), i ∈ l → (∀ j, q j = true → p j = true) → p i = true → q i = false → l.countP q < l.countP p
  | [], i, h, _, _, _ => by simp at h
  | j :: l, i, h, hpq, hp, hq => by
    have mono : l.countP q ≤ l.countP p := List.countP_mono_left fun j _ hj => hpq j hj
    rw [List.countP_cons, List.countP_cons]
    rcases List.mem_cons.1 h with h | h
    · subst h
      rw [hp, hq]
      simp; omega
    · have := countP_lt l i h hpq hp hq
      cases hqj : q j with
      | false => simp; omega
      | true => rw [hpq j hqj]; simp; omega
theorem unl_set {S : Array Bool} {n i : Nat} (hi : i < n) (hS : S.getD i true = false) : unl (S.setIfInBounds i true) n < unl S n := by
  refine countP_lt _ i (List.mem_range.2 hi) (fun j hj => ?_) (by simp [hS]) ?_
  · by_cases hji : j = i
    · rw [hji, hS]; rfl
    · rw [getD_set_ne true (Ne.symm hji)] at hj; exact hj
  · by_cases hlt : i < S.size
    · simp [hlt]
    · simp [Array.getD_eq_getD_getElem?, Array.getElem?_eq_none (Nat.le_of_not_lt hlt)] at hS
section
variable {P : Program} {G : Nat} {D : Oper → (Operand → Value) → AH → Option (Value × AH)} {ops : Array Oper} {ts : Array Value} {h0 : AH} {l : List (Nat × Oper)} {rs : List Rec} {hs : List AH} {te : Array Value}
theorem Reg.full (R : Reg P G D ops ts h0 l rs hs te) {w0 : W0} {S : Array Bool} {k : Nat} {E : Env} {tm : Array Value} {w : World} (I : Inv P G w0 ops ts l rs hs S k E tm w) (h : Region.ready .any ops S = []) : ∀ i, i < ops.size → S.getD i false = true := by
  intro i
  induction i using Nat.strongRecOn with
  | ind i ih =>
    intro hi
    have hiS : i < S.size := by rw [I.size]; exact hi
    cases hS : S.getD i false with
    | true => rfl
    | false =>
      have ho : ops[i]? = some ops[i] := Array.getElem?_eq_getElem hi
      have : i ∈ Region.ready .any ops S := mem_ready.2 ⟨by
        simp only [Array.getD_eq_getD_getElem?, Array.getElem?_eq_getElem hiS, Option.getD_some] at hS ⊢; exact hS, ops[i], ho, fun e he hb => by
        have hj : e.on ∈ prsOf ops[i] := List.mem_map.2 ⟨e, List.mem_filter.2 ⟨by simpa using he, hb⟩, rfl⟩
        have hlt := (R.op ho).2.1 e.on hj
        exact ih e.on hlt (by omega)⟩
      rw [h] at this
      cases this
theorem Reg.done (R : Reg P G D ops ts h0 l rs hs te) {w0 : W0} {S : Array Bool} {k : Nat} {E : Env} {tm : Array Value} {w : World} (I : Inv P G w0 ops ts l rs hs S k E tm w) (hall : ∀ i, i < ops.size → S.getD i false = true) {h' : AH} (hl : lastH hs = some h') :
    VRs E te tm ∧ HR P w0 E h' w := by
  obtain ⟨l1, l2, l3, l4⟩ := lex_at l ts h0 rs hs te R.lex
  have hS : ∀ {q : Nat} {x : Nat × Oper}, l[q]? = some x → S.getD x.1 false = true := fun {q x} hq => hall _ (Array.getElem?_eq_some_iff.1 (R.opAt hq)).1
  have hk : k = cnt rs := by
    rcases Nat.lt_or_ge k (cnt rs) with hlt | hge
    · rw [← ws_length l rs l1] at hlt
      obtain ⟨q, x, r, h1, h2, h3, h4, h5⟩ := ws_of l rs k _ (List.getElem?_eq_getElem hlt)
      have := (I.pre q x r h1 h2 h3).1 (hS h1)
      omega
    · have := I.kle; omega
  refine ⟨⟨by rw [l3, tsF_size]; exact I.tsz, fun t ht => ?_⟩, ?_⟩
  · have ht' : t < ts.size := by rw [l3, tsF_size] at ht; exact ht
    have htm : t < tm.size := by rw [← I.tsz]; exact ht'
    have key : VR E (te.getD t undef) (tm.getD t undef) := by
      rw [l3]
      by_cases hw : ∃ (q : Nat) (x : Nat × Oper), l[q]? = some x ∧ x.2.dst = some t
      · obtain ⟨q, x, hq, hd⟩ := hw
        have hql : q < rs.length := by rw [l1]; exact (List.getElem?_eq_some_iff.1 hq).1
        rw [tsF_some l rs ts t q x rs[q] hq (List.getElem?_eq_getElem hql) hd ht' fun m y hm hy => R.dst hm hq hy hd]
        exact I.set q x rs[q] t hq (List.getElem?_eq_getElem hql) (hS hq) hd
      · rw [tsF_none l rs ts t fun x hx hd => by
          obtain ⟨q, hq⟩ := List.mem_iff_getElem?.1 hx
          exact hw ⟨q, x, hq, hd⟩]
        exact I.unset t fun q x hq _ hd => hw ⟨q, x, hq, hd⟩
    simpa only [Array.getD_eq_getD_getElem?, Array.getElem?_eq_getElem ht, Array.getElem?_eq_getElem htm, Option.getD_some] using key
  · obtain ⟨h, hh, H⟩ := I.hr
    have := lastH_eq hs h' hl
    rw [l2, Nat.add_sub_cancel, ← hk, hh] at this
    cases this
    exact H.weaken fun n hn => .inl hn
theorem Reg.go (hz : ZerosFlat P) (hD : DOk P G D) (R : Reg P G D ops ts h0 l rs hs te) {w0 : W0} (hfr : ∀ n, w0.Pd n → n < h0.next) {h' : AH} (hl : lastH hs = some h') {cs : List Frame} {kk : List Item} :
    ∀ (fuel t : Nat) (S : Array Bool) (k : Nat) (E : Env) (tm : Array Value) (w : World) (fr : Frame), Inv P G w0 ops ts l rs hs S k E tm w → unl S ops.size ≤ fuel → fr.mode = .run → fr.tmps = tm →
      fr.todo = .inRegion ops (Region.linearise.go .any ops fuel t S []) :: kk →
      ∃ E' tm' w', E.le E' ∧ VRs E' te tm' ∧ HR P w0 E' h' w' ∧ Steps P (lone fr cs w) (lone { fr with todo := .inRegion ops [] :: kk, tmps := tm' } cs w') ∧ GE G E' := by
  have fin : ∀ {S : Array Bool} {k : Nat} {E : Env} {tm : Array Value} {w : World} {fr : Frame}, Inv P G w0 ops ts l rs hs S k E tm w → (∀ i, i < ops.size → S.getD i false = true) → fr.tmps = tm → fr.todo = .inRegion ops [] :: kk →
      ∃ E' tm' w', E.le E' ∧ VRs E' te tm' ∧ HR P w0 E' h' w' ∧ Steps P (lone fr cs w) (lone { fr with todo := .inRegion ops [] :: kk, tmps := tm' } cs w') ∧ GE G E' := fun {S k E tm w fr} I hall htm ht => by
    obtain ⟨h1, h2⟩ := R.done I hall hl
    refine ⟨E, tm, w, E.le_refl, h1, h2, ?_, I.ge⟩
    rw [← htm, ← ht]
    exact Steps.refl _ _
  intro fuel
  induction fuel with
  | zero =>
    intro t S k E tm w fr I hu hm htm ht
    refine fin I (fun i hi => ?_) htm (by simpa [Region.linearise.go] using ht)
    have h0 : unl S ops.size = 0 := by omega
    have := List.countP_eq_zero.1 h0 i (List.mem_range.2 hi)
    simp only [Bool.not_eq_true, Bool.not_eq_false'] at this
    have hiS : i < S.size := by rw [I.size]; exact hi
    simp only [Array.getD_eq_getD_getElem?, Array.getElem?_eq_getElem hiS, Option.getD_some] at this ⊢
    exact this
  | succ fuel ih =>
    intro t S k E tm w fr I hu hm htm ht
    simp only [Region.linearise.go] at ht
    change fr.todo = .inRegion ops (match (Region.ready .any ops S)[t % (Region.ready .any ops S).length]? with
      | some i => Region.linearise.go .any ops fuel (t / (Region.ready .any ops S).length) (S.setIfInBounds i true) [i]
      | none => [].reverse) :: kk at ht
    cases hi : (Region.ready .any ops S)[t % (Region.ready .any ops S).length]? with
    | none =>
      have hnil : Region.ready .any ops S = [] := by
        cases hr : Region.ready .any ops S with
        | nil => rfl
        | cons x xs =>
          rw [hr] at hi
          have hlt : t % (x :: xs).length < (x :: xs).length := Nat.mod_lt _ (by simp)
          rw [List.getElem?_eq_getElem hlt] at hi
          cases hi
      rw [hi] at ht
      exact fin I (R.full I hnil) htm (by simpa using ht)
    | some i =>
      rw [hi] at ht
      simp only at ht
      rw [linearise_go_acc, List.reverse_singleton, List.singleton_append] at ht
      have hmem : i ∈ Region.ready .any ops S := List.mem_of_getElem? hi
      obtain ⟨k', E1, tm1, w1, le1, st1, I1⟩ := R.step hz hD hfr I hmem (cs := cs) hm ht htm
      obtain ⟨hun, o, ho, _⟩ := mem_ready.1 hmem
      have hlt := unl_set (n := ops.size) (Array.getElem?_eq_some_iff.1 ho).1 hun
      obtain ⟨E2, tm2, w2, le2, rv, H2, st2, ge2⟩ := ih _ _ _ _ _ _ { fr with todo := .inRegion ops (Region.linearise.go .any ops fuel (t / (Region.ready .any ops S).length) (S.setIfInBounds i true) []) :: kk, tmps := tm1 } I1 (by omega) hm rfl rfl
      exact ⟨E2, tm2, w2, Env.le_trans le1 le2, rv, H2, Steps.trans st1 st2, ge2⟩
/-- A whole region. -/
theorem aregion_ok (hz : ZerosFlat P) (hmix : P.follows .mixedOrders = true) (hD : DOk P G D) {w0 : W0} {E : Env} {h h' : AH} {w : World} (H : HR P w0 E h w) (hge : GE G E) {tm : Array Value} (rt : VRs E ts tm) (eq : aregion P G D ops ts h = some (te, h'))
    {fr : Frame} {cs : List Frame} {kk : List Item} {id : Nat} (hm : fr.mode = .run) (htm : fr.tmps = tm) (ht : fr.todo = .code (.region id ops true) :: kk) :
    ∃ E' tm' w', E.le E' ∧ VRs E' te tm' ∧ HR P w0 E' h' w' ∧ Steps P (lone fr cs w) (lone { fr with todo := kk, tmps := tm' } cs w') ∧ GE G E' := by
  unfold aregion at eq
  simp only at eq
  split at eq
  case isFalse => cases eq
  rename_i hst
  split at eq
  case h_2 => cases eq
  rename_i rs hs te0 hlex
  split at eq
  case isFalse => cases eq
  rename_i hck
  split at eq
  case h_2 => cases eq
  rename_i h1 hlast
  cases eq
  simp only [statOk, Bool.and_eq_true] at hst hck
  obtain ⟨⟨⟨s1, s2⟩, s3⟩, s4⟩ := hst
  obtain ⟨⟨c1, c2⟩, c3⟩ := hck
  have R : Reg P G D ops ts h (listed ops (orderOf P ops (masks ops.toList []))) rs hs te :=
    ⟨hlex, s1, s4, fun i o ho => listed_mem _ i o (inL_mem.1 (List.all_eq_true.1 s2 i (List.mem_range.2 (Array.getElem?_eq_some_iff.1 ho).1))) ho, fun x hx => listed_ops _ x hx, c1, c2, c3⟩
  have hfr : ∀ n, w0.Pd n → n < h.next := fun n hn => (H.pend n hn).2
  have hrep : ∀ i d, i < ops.size → (Array.replicate ops.size false).getD i d = false := fun i d hi => by simp [hi]
  have hrep' : ∀ i, (Array.replicate ops.size false).getD i false = false := fun i => by
    by_cases hi : i < ops.size
    · exact hrep i false hi
    · simp [Array.getD_eq_getD_getElem?, Array.getElem?_eq_none, hi]
  obtain ⟨h2, e2, H2⟩ := lex_stage _ _ _ _ _ _ hlex w0 (H.drawn (w.drawn + 1))
  have I : Inv P G w0 ops ts (listed ops (orderOf P ops (masks ops.toList []))) rs hs (Array.replicate ops.size false) 0 E fr.tmps { w with drawn := w.drawn + 1 } := by
    refine ⟨by simp, fun i o _ hS => (by rw [hrep'] at hS; cases hS), fun p x r _ _ _ => by rw [hrep']; simp, Nat.zero_le _, by rw [htm]; exact rt.size, fun p x r d _ _ hS => (by rw [hrep'] at hS; cases hS), fun d _ => ?_, ⟨h2, e2, H2.weaken fun n hn => ?_⟩, hge⟩
    · rw [htm]
      rcases rt.get? d with ⟨g1, g2⟩ | ⟨x, x', g1, g2, g3⟩
      · simp only [Array.getD_eq_getD_getElem?, g1, g2, Option.getD_none]; exact VR.undef E
      · simp only [Array.getD_eq_getD_getElem?, g1, g2, Option.getD_some]; exact g3
    · rcases hn with hn | ⟨q, x, r, b, g1, g2, g3, g4, g5⟩
      · exact .inl hn
      · have hw2 : r.wr = false := by
          obtain ⟨_, hrec2⟩ := (lex_at _ _ _ _ _ _ hlex).2.2.2 q x r g1 g2
          rcases hrec2 with ⟨_, _, e, _⟩ | ⟨_, _, e, _⟩ | ⟨_, e, _⟩ | ⟨_, e, _⟩
          · exact e
          · rw [g3] at e; cases e
          · exact e
          · exact e
        exact .inr (st_mem rs q r n b g2 g3 (by omega) hw2)
  have start : step P (lone fr cs w) = .next (lone { fr with todo := .inRegion ops (Region.linearise.go .any ops ops.size (w.tape w.drawn (.order fr.fn id)) (Array.replicate ops.size false) []) :: kk } cs { w with drawn := w.drawn + 1 }) := by
    obtain ⟨fn, tmps, todo, defers, mode, kind, ro⟩ := fr
    simp only at hm ht
    subst hm ht
    exact step_lone_go (by simp [stepG, stepG.exec, choose, Sem.run, Question.forced, Question.cut, Region.schedule, hmix, Region.linearise])
  obtain ⟨E3, tm3, w3, le3, rv3, H3, st3, ge3⟩ := R.go hz hD hfr hlast (cs := cs) (kk := kk) ops.size (w.tape w.drawn (.order fr.fn id)) (Array.replicate ops.size false) 0 E fr.tmps { w with drawn := w.drawn + 1 }
    { fr with todo := .inRegion ops (Region.linearise.go .any ops ops.size (w.tape w.drawn (.order fr.fn id)) (Array.replicate ops.size false) []) :: kk } I (by
      unfold unl
      have := List.countP_le_length (p := fun i => !(Array.replicate ops.size false).getD i true) (l := List.range ops.size)
      simpa using this) hm rfl rfl
  refine ⟨E3, tm3, w3, le3, rv3, H3, Steps.head start (Steps.trans st3 (Steps.one' ?_)), ge3⟩
  obtain ⟨fn, tmps, todo, defers, mode, kind, ro⟩ := fr
  simp only at hm
  subst hm
  exact step_lone_go (by simp [stepG, stepG.exec])
end
end Go.Ab
