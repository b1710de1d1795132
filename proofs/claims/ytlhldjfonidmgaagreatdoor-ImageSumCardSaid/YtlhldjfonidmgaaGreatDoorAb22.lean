/- A region whose order is drawn: one step, wherever it is. -/
import Derived.Test.YtlhldjfonidmgaaGreatDoorAb21
namespace Go.Ab
set_option linter.unusedSimpArgs false
set_option linter.unusedVariables false
set_option linter.unusedSectionVars false
/-- The globals stand for themselves. -/
def GE (G : Nat) (E : Env) : Prop := ∀ g, g < G → E g = some (g, none)
theorem GE.mono {G : Nat} {E E' : Env} (le : E.le E') (h : GE G E) : GE G E' := fun g hg => le _ _ (h g hg)
/-- What is to be shown of the running of one operation. -/
def DOk (P : Program) (G : Nat) (D : Oper → (Operand → Value) → AH → Option (Value × AH)) : Prop :=
  ∀ (w0 : W0) (E : Env) (h : AH) (w : World) (o : Oper) (ρ : Operand → Value) (v : Value) (h1 : AH) (fr : Frame) (cs : List Frame) (ops : Array Oper) (i : Nat) (rest : List Nat) (k : List Item),
    fr.mode = .run → fr.todo = .inRegion ops (i :: rest) :: k → ops[i]? = some o → Region.wanted o (yielded ops fr.tmps) = true → HR P w0 E h w → GE G E →
    (∀ x ∈ o.op.operands, VR E (ρ x) (fr.eval x)) → D o ρ h = some (v, h1) →
    ∃ E' v' w', E.le E' ∧ VR E' v v' ∧ Steps P (lone fr cs w) (lone (fr.finish v') cs w') ∧ HR P w0 E' h1 w'
theorem Steps.one' {P : Program} {m m' : Machine} (h : step P m = .next m') : Steps P m m' := Steps.head h (Steps.refl P m')
theorem finish_put {fr : Frame} {ops : Array Oper} {i : Nat} {rest : List Nat} {k : List Item} {o : Oper} (ht : fr.todo = .inRegion ops (i :: rest) :: k) (ho : ops[i]? = some o) (v : Value) :
    fr.finish v = { fr with todo := .inRegion ops rest :: k, tmps := putT fr.tmps o.dst v } := by
  unfold Frame.finish putT
  rw [ht]
  simp only [ho, Option.bind_some]
  cases o.dst <;> rfl
theorem operand_rel {G : Nat} {E : Env} (hge : GE G E) {ts : Array Value} {fr : Frame} {o : Oper} (hok : okOper G o = true) (ht : ∀ t, .tmp t ∈ o.op.operands → VR E (ts.getD t undef) (fr.tmps.getD t undef)) :
    ∀ x ∈ o.op.operands, VR E (evalT ts x) (fr.eval x) := fun x hx => by
  simp only [okOper, Bool.and_eq_true] at hok
  have hx' := List.all_eq_true.1 hok.1 x (Array.mem_toList_iff.2 hx)
  cases x with
  | tmp t => exact ht t hx
  | const v => exact flat_refl 4 hx'
  | global g => exact .ptr (hge g (by simpa [okOperand, Nat.blt_eq] using hx'))
  | func f => exact .func (.func f) rfl (fun i h => by simp at h) rfl (fun i h => by simp at h)
theorem looks_operand {ops : Array Oper} {o : Oper} {t : Tmp} (h : .tmp t ∈ o.op.operands) : t ∈ o.looksAt ops :=
  List.mem_append_left _ (List.mem_filterMap.2 ⟨.tmp t, by simpa using h, rfl⟩)
theorem wanted_rel {E : Env} {ops : Array Oper} {o : Oper} {ts tm : Array Value} (hs : ts.size = tm.size) (h : ∀ t ∈ o.looksAt ops, VR E (ts.getD t undef) (tm.getD t undef)) :
    Region.wanted o (yielded ops tm) = Region.wanted o (yielded ops ts) := by
  unfold Region.wanted
  cases hg : o.guard with
  | none => rfl
  | some gw =>
    obtain ⟨g, want⟩ := gw
    have hy : yielded ops tm g = yielded ops ts g := by
      unfold yielded
      cases ht : (ops[g]?).bind (·.dst) with
      | none => rfl
      | some t =>
        have hr := h t (by simp [Oper.looksAt, hg, ht])
        simp only [Option.bind_some]
        by_cases hlt : t < ts.size
        · have hlt' : t < tm.size := by rw [← hs]; exact hlt
          simp only [Array.getD_eq_getD_getElem?, Array.getElem?_eq_getElem hlt, Array.getElem?_eq_getElem hlt', Option.getD_some] at hr ⊢
          generalize ts[t] = a at hr
          generalize tm[t] = b at hr
          cases hr <;> rfl
        · rw [Array.getElem?_eq_none (Nat.le_of_not_lt hlt), Array.getElem?_eq_none (by rw [← hs]; exact Nat.le_of_not_lt hlt)]
    simp only [hy]
structure Reg (P : Program) (G : Nat) (D : Oper → (Operand → Value) → AH → Option (Value × AH)) (ops : Array Oper) (ts : Array Value) (h0 : AH) (l : List (Nat × Oper)) (rs : List Rec) (hs : List AH) (te : Array Value) : Prop where
  lex : lexRun P ops D l ts h0 = some (rs, hs, te)
  opsok : opsOk G ts.size ops.toList 0 = true
  pairs : pairsOk ops (masks ops.toList []) l = true
  mem : ∀ (i : Nat) (o : Oper), ops[i]? = some o → (i, o) ∈ l
  of : ∀ x ∈ l, ops[x.1]? = some x.2
  chain : chainOk (masks ops.toList []) (wsF l rs) = true
  new : newOk rs h0.next = true
  reads : readsOk P ops (masks ops.toList []) (wsF l rs) hs l rs 0 = true
/-- The blocks that the world has not yet. -/
def Pend (w0 : W0) (l : List (Nat × Oper)) (rs : List Rec) (k : Nat) (S : Array Bool) : W0 :=
  { w0 with Pd := fun n => w0.Pd n ∨ ∃ (q : Nat) (x : Nat × Oper) (r : Rec) (b : Obj), l[q]? = some x ∧ rs[q]? = some r ∧ r.new = some (n, b) ∧ cnt (rs.take q) ≤ k ∧ S.getD x.1 false = false }
structure Inv (P : Program) (G : Nat) (w0 : W0) (ops : Array Oper) (ts : Array Value) (l : List (Nat × Oper)) (rs : List Rec) (hs : List AH) (S : Array Bool) (k : Nat) (E : Env) (tm : Array Value) (w : World) : Prop where
  size : S.size = ops.size
  closed : ∀ (i : Nat) (o : Oper), ops[i]? = some o → S.getD i false = true → ∀ j ∈ prsOf o, S.getD j false = true
  pre : ∀ (p : Nat) (x : Nat × Oper) (r : Rec), l[p]? = some x → rs[p]? = some r → r.wr = true → (S.getD x.1 false = true ↔ cnt (rs.take p) < k)
  kle : k ≤ cnt rs
  tsz : ts.size = tm.size
  set : ∀ (p : Nat) (x : Nat × Oper) (r : Rec) (d : Tmp), l[p]? = some x → rs[p]? = some r → S.getD x.1 false = true → x.2.dst = some d → VR E r.v (tm.getD d undef)
  unset : ∀ d, (∀ (p : Nat) (x : Nat × Oper), l[p]? = some x → S.getD x.1 false = true → x.2.dst ≠ some d) → VR E (ts.getD d undef) (tm.getD d undef)
  hr : ∃ h, hs[k]? = some h ∧ HR P (Pend w0 l rs k S) E h w
  ge : GE G E
section
variable {P : Program} {G : Nat} {D : Oper → (Operand → Value) → AH → Option (Value × AH)} {ops : Array Oper} {ts : Array Value} {h0 : AH} {l : List (Nat × Oper)} {rs : List Rec} {hs : List AH} {te : Array Value}
theorem Reg.uniq (R : Reg P G D ops ts h0 l rs hs te) {p q : Nat} {x y : Nat × Oper} (hp : l[p]? = some x) (hq : l[q]? = some y) (e : x.1 = y.1) : p = q := by
  rcases Nat.lt_trichotomy p q with h | h | h
  · exact absurd e (pairOk_spec (pairsOk_at l R.pairs p q x y h hp hq)).1
  · exact h
  · exact absurd e.symm (pairOk_spec (pairsOk_at l R.pairs q p y x h hq hp)).1
theorem Reg.dst (R : Reg P G D ops ts h0 l rs hs te) {p q : Nat} {x y : Nat × Oper} {d : Tmp} (hp : l[p]? = some x) (hq : l[q]? = some y) (h1 : x.2.dst = some d) (h2 : y.2.dst = some d) : p = q := by
  rcases Nat.lt_trichotomy p q with h | h | h
  · exact absurd h2 ((pairOk_spec (pairsOk_at l R.pairs p q x y h hp hq)).2.1 d h1)
  · exact h
  · exact absurd h1 ((pairOk_spec (pairsOk_at l R.pairs q p y x h hq hp)).2.1 d h2)
theorem Reg.pos (R : Reg P G D ops ts h0 l rs hs te) {i : Nat} {o : Oper} (ho : ops[i]? = some o) : ∃ (p : Nat) (r : Rec), l[p]? = some (i, o) ∧ rs[p]? = some r := by
  obtain ⟨p, hp⟩ := List.mem_iff_getElem?.1 (R.mem i o ho)
  have hl := (lex_at l ts h0 rs hs te R.lex).1
  have hlt : p < rs.length := by rw [hl]; exact (List.getElem?_eq_some_iff.1 hp).1
  exact ⟨p, rs[p], hp, List.getElem?_eq_getElem hlt⟩
theorem Reg.opAt (R : Reg P G D ops ts h0 l rs hs te) {p : Nat} {x : Nat × Oper} (hp : l[p]? = some x) : ops[x.1]? = some x.2 := R.of x (List.mem_of_getElem? hp)
theorem Reg.op (R : Reg P G D ops ts h0 l rs hs te) {i : Nat} {o : Oper} (ho : ops[i]? = some o) : okOper G o = true ∧ (∀ j ∈ prsOf o, j < i) ∧ ∀ d, o.dst = some d → d < ts.size := by
  have := opsOk_at ops.toList 0 R.opsok i o (by simpa using ho)
  simpa using this
theorem Reg.lt (R : Reg P G D ops ts h0 l rs hs te) {i j : Nat} (h : ahead (masks ops.toList []) j i = true) : j < i := ahead_lt (fun k o ho => (R.op ho).2.1) h
/-- One more is listed. -/
theorem Inv.put (R : Reg P G D ops ts h0 l rs hs te) {w0 : W0} {S : Array Bool} {k : Nat} {E : Env} {tm : Array Value} {w : World} (I : Inv P G w0 ops ts l rs hs S k E tm w)
    {p i : Nat} {o : Oper} {r : Rec} (hp : l[p]? = some (i, o)) (hr : rs[p]? = some r) (hun : S.getD i false = false) (hprs : ∀ j ∈ prsOf o, S.getD j false = true) (hcnt : r.wr = true → cnt (rs.take p) = k)
    {E' : Env} {v' : Value} {w' : World} {h' : AH} (le : E.le E') (rv : VR E' r.v v') (hk' : hs[if r.wr then k + 1 else k]? = some h') (H' : HR P (Pend w0 l rs (if r.wr then k + 1 else k) (S.setIfInBounds i true)) E' h' w') :
    Inv P G w0 ops ts l rs hs (S.setIfInBounds i true) (if r.wr then k + 1 else k) E' (putT tm o.dst v') w' := by
  have ho := R.opAt hp
  have hiN : i < S.size := by rw [I.size]; exact (Array.getElem?_eq_some_iff.1 ho).1
  have hself : (S.setIfInBounds i true).getD i false = true := by simp [hiN]
  have hother : ∀ j, j ≠ i → (S.setIfInBounds i true).getD j false = S.getD j false := fun j hj => getD_set_ne false (Ne.symm hj)
  refine ⟨by simpa using I.size, fun j oj hoj hj m hm => ?_, fun q x r2 hq hr2 hw => ?_, ?_, by rw [putT_size]; exact I.tsz, fun q x r2 d hq hr2 hS hd => ?_, fun d hd => ?_, ⟨h', hk', H'⟩, I.ge.mono le⟩
  · by_cases hji : j = i
    · subst hji
      have hoj : ops[j]? = some oj := hoj
      rw [ho] at hoj
      cases hoj
      exact getD_set_true (hprs m hm)
    · rw [hother j hji] at hj
      exact getD_set_true (I.closed j oj hoj hj m hm)
  · have hl := (lex_at l ts h0 rs hs te R.lex).1
    by_cases hxi : x.1 = i
    · have hpq : q = p := R.uniq hq hp hxi
      subst hpq
      rw [hr] at hr2
      cases hr2
      rw [hxi, hself, hw, hcnt hw]
      simp
    · rw [hother x.1 hxi, I.pre q x r2 hq hr2 hw]
      cases hrw : r.wr with
      | false => simp
      | true =>
        simp only [if_true]
        have hne : cnt (rs.take q) ≠ k := fun e => by
          have h1 := ws_at l rs q x r2 hq hr2 hw
          have h2 := ws_at l rs p (i, o) r hp hr hrw
          rw [hcnt hrw] at h2
          rw [e, h2] at h1
          exact hxi (Option.some.inj h1).symm
        omega
  · cases hrw : r.wr with
    | false => simpa using I.kle
    | true =>
      simp only [if_true]
      have h1 := ws_at l rs p (i, o) r hp hr hrw
      have h2 := (List.getElem?_eq_some_iff.1 h1).1
      rw [ws_length l rs (lex_at l ts h0 rs hs te R.lex).1, hcnt hrw] at h2
      omega
  · by_cases hxi : x.1 = i
    · have hpq : q = p := R.uniq hq hp hxi
      subst hpq
      rw [hr] at hr2
      cases hr2
      rw [hp] at hq
      cases hq
      have hdl := (R.op ho).2.2 d hd
      simp only at hd
      rw [hd, putT_eq (by rw [← I.tsz]; exact hdl)]
      exact rv
    · rw [hother x.1 hxi] at hS
      have hne : o.dst ≠ some d := fun hod => hxi (by
        have := R.dst hq hp hd hod
        subst this
        rw [hp] at hq
        cases hq
        rfl)
      rw [putT_ne hne]
      exact (I.set q x r2 d hq hr2 hS hd).mono le
  · have hne : o.dst ≠ some d := hd p (i, o) hp hself
    rw [putT_ne hne]
    refine (I.unset d fun q x hq hS => ?_).mono le
    exact hd q x hq (getD_set_true hS)
end
end Go.Ab
