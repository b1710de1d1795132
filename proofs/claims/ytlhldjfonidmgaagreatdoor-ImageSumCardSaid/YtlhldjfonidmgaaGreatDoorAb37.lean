/- The quick executor: calls, new blocks, regions of drawn order. -/
import Derived.Test.YtlhldjfonidmgaaGreatDoorAb36
import Derived.Test.YtlhldjfonidmgaaGreatDoorAb20
namespace Go.Ab
set_option linter.unusedSimpArgs false
set_option linter.unusedVariables false
section
variable {P : Program} {G : Nat} {rec : K2} {run : Run}
theorem kfree_ok {o : Oper} {ts : TT} {x : Obj × Shape} (e : (kfree P o).run ts = some x) : aFree P o (kvalF ts) = some x := by
  unfold kfree at e
  split at e
  · rename_i t hop
    split at e
    · rename_i y hy
      cases e
      have : aFree P o (kvalF ts) = aFree P o (fun _ => undef) := by simp only [aFree, hop]
      rw [this, hy]
    · cases e
  · rename_i t x hop
    cases e
    simp only [aFree, hop]
    rfl
  · exact e
theorem kbodied_eq {f : FuncId} (e : kbodied P f = true) : bodied P f = true := by
  unfold kbodied at e
  rw [lget_eq, Array.getElem?_toList] at e
  unfold bodied
  split
  · rename_i fn hf
    rw [hf] at e
    exact e
  · rename_i hf
    rw [hf] at e
    cases e
theorem kcall_ok (hr : KOk P rec run) {o : Oper} {c : Call} {f : Operand} {ts : TT} {h : AH} {y : Value × AH} (hop : o.op = .call c) (hc : c.callee = .value f) (hok : okOper G o = true) (e : (kcall P o f c.args.toList).run rec ts h = some y) : opD P G noOrc run o (kvalF ts) h = some y := by
  have main : ∀ {g : FuncId} {p q : Array Value}, kvalF ts f = .func (.func g) p q → bodied P g = true → run (Frame.enter P g ⟨p.toList ++ ((c.args.toList.map (kvalF ts)) ++ q.toList)⟩ .normal) h = some y → opD P G noOrc run o (kvalF ts) h = some y := fun {g p q} hf hb hrun => by
    have ha : aop P o (kvalF ts) h = some (.enter g ((p ++ c.args.map (kvalF ts)) ++ q), h) := by
      simp only [aop, hop, aCall, hc, hf, hb, if_true]
    unfold opD
    rw [if_pos hok, ha]
    have ee : (p ++ c.args.map (kvalF ts)) ++ q = ⟨p.toList ++ ((c.args.toList.map (kvalF ts)) ++ q.toList)⟩ := by
      apply Array.toList_inj.1
      simp
    rw [ee]
    exact hrun
  unfold kcall at e
  split at e
  · rename_i g
    cases hb : kbodied P g with
    | false => rw [hb, ci_false] at e; exact kslowC_ok hr hok e
    | true =>
      rw [hb, ci_true] at e
      replace e : (kenter P g c.args.toList.length .normal).run rec ((kvals c.args.toList).run ts) h = some y := e
      rw [kvals_eq] at e
      refine main (g := g) (p := #[]) (q := #[]) rfl (kbodied_eq hb) ?_
      have := kenter_ok hr (by simp) e
      simpa using this
  · rename_i f' hn
    dsimp only at e
    cases hv : vFn ((kval f).run ts) with
    | none => rw [hv] at e; exact kslowC_ok hr hok e
    | some v =>
      rw [hv] at e
      replace e : ci (kbodied P v.f) ((kenter P v.f (v.p.toList.length + c.args.toList.length + v.q.toList.length) .normal).run rec (v.p.toList ++ ((kvals c.args.toList).run ts ++ v.q.toList)) h) ((kslowC P o).run rec ts h) = some y := e
      cases hb : kbodied P v.f with
      | false => rw [hb, ci_false] at e; exact kslowC_ok hr hok e
      | true =>
        rw [hb, ci_true, kvals_eq] at e
        refine main (vFn_eq hv) (kbodied_eq hb) ?_
        exact kenter_ok hr (by simp; omega) e
theorem zero_run {t : TypeId} {i : TypeInfo} {z : Value} (hi : P.info? t = some i) (hz : i.zero = some z) (h : AH) : arun P (zeroValue t) h = some (z, h) := by
  show arun P (typeInfo t >>= _) h = _
  rw [arun_bind, rrun_arun (rrun_typeInfo hi)]
  show arun P (match i.zero with | some v => pure v | none => _) h = _
  rw [hz]
  rfl
theorem new_run (c : Array Value) (t : TypeId) (h : AH) (hr : room h = true) : arun P (newRow t c) h = some (⟨h.next, 0, none⟩, h.push (.cells c t (0, 0)) false) := by
  show arun P (newObj (.cells c t) >>= fun b => pure (⟨b, 0, none⟩ : Addr)) h = _
  rw [arun_bind]
  have : arun P (newObj (.cells c t)) h = some (h.next, h.push (.cells c t (0, 0)) false) := by
    simp only [newObj, arun]
    unfold room at hr
    rw [if_pos hr]
  rw [this]
  rfl
theorem free_aop {o : Oper} {ρ : Operand → Value} {b : Obj} {s : Shape} {h : AH} (hop : (∃ t, o.op = .alloc t) ∨ (∃ t x, o.op = .box t x) ∨ ∃ t l p, o.op = .buildSlice t l p) (e : aFree P o ρ = some (b, s)) (hr : room h = true) : aop P o ρ h = some (.value (s.val h.next), h.push b false) := by
  rcases hop with ⟨t, hop⟩ | ⟨t, x, hop⟩ | ⟨t, l, p, hop⟩
  · simp only [aFree, hop] at e
    split at e
    · rename_i i hi
      split at e
      · rename_i z hz
        split at e
        · rename_i ht
          cases e
          simp only [aop, hop, ht, if_true, execOp]
          show arun P (Instr.alloc t true (.tuple #[]) >>= fun v => pure (Next.value v)) h = _
          have : arun P (Instr.alloc t true (.tuple #[])) h = some (.pointer (some ⟨h.next, 0, none⟩), h.push (.cells z.cells t (0, 0)) false) := by
            show arun P (zeroValue t >>= fun zero => newVar t zero >>= fun a => pure (Value.pointer (some a))) h = _
            rw [arun_bind, zero_run hi hz]
            show arun P (newRow t z.cells >>= fun a => pure (Value.pointer (some a))) h = _
            rw [arun_bind, new_run _ _ _ hr]
            rfl
          rw [arun_bind, this]
          rfl
        · cases e
      · cases e
    · cases e
  · simp only [aFree, hop] at e
    cases e
    simp only [aop, hop, execOp]
    show arun P (Instr.box t (ρ x) >>= fun v => pure (Next.value v)) h = _
    have : arun P (Instr.box t (ρ x)) h = some (.pointer (some ⟨h.next, 0, none⟩), h.push (.cells (ρ x).cells t (0, 0)) false) := by
      show arun P (newRow t (ρ x).cells >>= fun a => pure (Value.pointer (some a))) h = _
      rw [arun_bind, new_run _ _ _ hr]
      rfl
    rw [arun_bind, this]
    rfl
  · simp only [aFree, hop] at e
    simp only [aop, hop]
    split at e
    · rename_i el c hb
      cases e
      rw [hb]
      simp only [hr, if_true]
      rfl
    · cases e
theorem kchain_ok (hr : KOk P rec run) {o : Oper} {ts : TT} {h : AH} {y : Value × AH} (hok : okOper G o = true) (e : (kchain P o).run rec ts h = some y) : opD P G noOrc run o (kvalF ts) h = some y := by
  have free : ((∃ t, o.op = .alloc t) ∨ (∃ t x, o.op = .box t x) ∨ ∃ t l p, o.op = .buildSlice t l p) → (ob ((kfree P o).run ts) fun x => ci (room h) (some (x.2.val h.next, kpush h x.1 false)) none) = some y → opD P G noOrc run o (kvalF ts) h = some y := fun hop e => by
    obtain ⟨⟨b, s⟩, h1, e⟩ := ob_eq e
    obtain ⟨h2, e⟩ := ci_eq e
    cases e
    rw [kpush_eq]
    exact opD_of hr hok (free_aop hop (kfree_ok h1) h2) rfl
  unfold kchain at e
  split at e
  · rename_i t a x hop
    exact kstore_ok hr hop hok e
  · rename_i t hop
    exact free (.inl ⟨t, hop⟩) e
  · rename_i t x hop
    exact free (.inr (.inl ⟨t, x, hop⟩)) e
  · rename_i t l p hop
    exact free (.inr (.inr ⟨t, l, p, hop⟩)) e
  · cases e
  · rename_i c hop
    split at e
    · rename_i f hc
      exact kcall_ok hr hop hc hok e
    · cases e
    · exact kslowC_ok hr hok e
  · exact kslowC_ok hr hok e
theorem kyield_eq {sz : Nat} {ts : TT} {a : Array Value} (r : TR sz ts a) (ops : Array Oper) (j : Nat) : (kyield ops j).run ts = yielded ops a j := by
  unfold kyield yielded
  cases h : (ops[j]?).bind (·.dst) with
  | none => rfl
  | some d =>
    simp only [Option.bind_some]
    show vBool ((tget 12 d).run ts) = _
    rw [r.get]
    cases hd : a[d]? with
    | none => simp only [Array.getD_eq_getD_getElem?, hd]; rfl
    | some v =>
      simp only [Array.getD_eq_getD_getElem?, hd, Option.getD_some]
      cases v <;> rfl
theorem kwant_eq {sz : Nat} {ts : TT} {a : Array Value} (r : TR sz ts a) (ops : Array Oper) (o : Oper) : (kwant ops o).run ts = Region.wanted o (yielded ops a) := by
  unfold kwant Region.wanted
  cases hg : o.guard with
  | none => rfl
  | some g =>
    obtain ⟨j, b⟩ := g
    show obeq ((kyield ops j).run ts) b = (yielded ops a j == some b)
    rw [kyield_eq r]
    cases yielded ops a j with
    | none => rfl
    | some c => cases b <;> cases c <;> rfl
theorem dst_of {sz : Nat} {o : Oper} (h : dstOk sz o = true) : ∀ d, o.dst = some d → d < sz := fun d hd => by
  unfold dstOk at h
  rw [hd] at h
  simpa using h
/-- The records of a lexical run, quick and plain. -/
structure RecR (sz : Nat) (r : KRec) (r' : Rec) : Prop where
  v : r.v = r'.v
  wr : r.wr = r'.wr
  new : r.new = r'.new
  ts : TR sz r.ts r'.ts
inductive RecsR (sz : Nat) : List KRec → List Rec → Prop
  | nil : RecsR sz [] []
  | cons {r r' rs rs'} : RecR sz r r' → RecsR sz rs rs' → RecsR sz (r :: rs) (r' :: rs')
theorem klex_ok (hr : KOk P rec run) (ops : Array Oper) {sz : Nat} : ∀ (l : List (Nat × Oper)) (ts : TT) (h : AH) (rs : List KRec) (hs : List AH) (te : TT) (a : Array Value), (klex P G ops l).run rec ts h = some (rs, hs, te) → (∀ x ∈ l, okOper G x.2 = true ∧ ∀ d, x.2.dst = some d → d < sz) → TR sz ts a →
    ∃ rs' ta, lexRun P ops (opD P G noOrc run) l a h = some (rs', hs, ta) ∧ TR sz te ta ∧ RecsR sz rs rs'
  | [], ts, h, rs, hs, te, a, e, _, r => by
    cases e
    exact ⟨[], a, rfl, r, .nil⟩
  | (i, o) :: l, ts, h, rs, hs, te, a, e, hl, r => by
    replace e : (klexG ops o (klexOp P G o (klex P G ops l)) (klex P G ops l)).run rec ts h = some (rs, hs, te) := e
    obtain ⟨hok, hd⟩ := hl (i, o) (List.mem_cons_self ..)
    have hl' : ∀ x ∈ l, okOper G x.2 = true ∧ ∀ d, x.2.dst = some d → d < sz := fun x hx => hl x (List.mem_cons_of_mem _ hx)
    have yes : Region.wanted o (yielded ops a) = true → (klexOp P G o (klex P G ops l)).run rec ts h = some (rs, hs, te) → ∃ rs' ta, lexRun P ops (opD P G noOrc run) ((i, o) :: l) a h = some (rs', hs, ta) ∧ TR sz te ta ∧ RecsR sz rs rs' := fun hw e => by
      unfold klexOp at e
      simp only [lexRun, hw, if_true]
      split at e
      · rename_i hc
        obtain ⟨v, h1, e⟩ := ob_eq e
        obtain ⟨⟨rs1, hs1, te1⟩, h2, e⟩ := ob_eq e
        cases e
        obtain ⟨rs', ta, h3, h4, h5⟩ := klex_ok hr ops l _ _ _ _ _ _ h2 hl' (r.put hd v)
        have h1 := kread_ok h1
        rw [r.eval] at h1
        rw [hc]
        simp only [h1, h3]
        exact ⟨_, _, rfl, h4, .cons ⟨rfl, rfl, rfl, r⟩ h5⟩
      · rename_i hc
        obtain ⟨⟨b, s⟩, h1, e⟩ := ob_eq e
        obtain ⟨hroom, e⟩ := ci_eq e
        obtain ⟨⟨rs1, hs1, te1⟩, h2, e⟩ := ob_eq e
        cases e
        rw [kpush_eq] at h2
        obtain ⟨rs', ta, h3, h4, h5⟩ := klex_ok hr ops l _ _ _ _ _ _ h2 hl' (r.put hd (s.val h.next))
        have h1 := kfree_ok h1
        rw [r.eval] at h1
        rw [hc]
        simp only [h1, hroom, h3]
        exact ⟨_, _, rfl, h4, .cons ⟨rfl, rfl, rfl, r⟩ h5⟩
      · rename_i hc
        obtain ⟨⟨v, h'⟩, h1, e⟩ := ob_eq e
        obtain ⟨⟨rs1, hs1, te1⟩, h2, e⟩ := ob_eq e
        cases e
        obtain ⟨rs', ta, h3, h4, h5⟩ := klex_ok hr ops l _ _ _ _ _ _ h2 hl' (r.put hd v)
        have h1 := kchain_ok (G := G) hr hok h1
        rw [r.eval] at h1
        rw [hc]
        simp only [h1, h3]
        exact ⟨_, _, rfl, h4, .cons ⟨rfl, rfl, rfl, r⟩ h5⟩
    unfold klexG at e
    split at e
    · rename_i hg
      exact yes (by unfold Region.wanted; rw [hg]) e
    · rename_i g hg
      replace e : ci ((kwant ops o).run ts) ((klexOp P G o (klex P G ops l)).run rec ts h) (ob ((klex P G ops l).run rec ((kput o).run ts undef) h) fun x => some (⟨undef, false, ts, none⟩ :: x.1, x.2.1, x.2.2)) = some (rs, hs, te) := e
      rw [kwant_eq r] at e
      cases hw : Region.wanted o (yielded ops a) with
      | true => rw [hw, ci_true] at e; exact yes hw e
      | false =>
        rw [hw, ci_false] at e
        obtain ⟨⟨rs1, hs1, te1⟩, h2, e⟩ := ob_eq e
        cases e
        obtain ⟨rs', ta, h3, h4, h5⟩ := klex_ok hr ops l _ _ _ _ _ _ h2 hl' (r.put hd undef)
        simp only [lexRun, hw, h3]
        exact ⟨_, _, rfl, h4, .cons ⟨rfl, rfl, rfl, r⟩ h5⟩
theorem kws_eq {sz : Nat} : ∀ (l : List (Nat × Oper)) {rs : List KRec} {rs' : List Rec}, RecsR sz rs rs' → kws l rs = wsF l rs'
  | [], _, _, _ => by simp [kws, wsF]
  | (i, o) :: l, _, _, .nil => by simp [kws, wsF]
  | (i, o) :: l, _, _, .cons r rr => by simp only [kws, wsF, r.wr, kws_eq l rr]
theorem knew_eq {sz : Nat} : ∀ {rs : List KRec} {rs' : List Rec} (n : Nat), RecsR sz rs rs' → knewOk rs n = newOk rs' n
  | _, _, n, .nil => rfl
  | _, _, n, .cons (r' := r') r rr => by
    simp only [knewOk, newOk, r.new]
    cases r'.new with
    | none => exact knew_eq _ rr
    | some x =>
      obtain ⟨m, b⟩ := x
      simp only
      rw [knew_eq _ rr]
theorem kreads_ok {sz : Nat} {ops : Array Oper} {mk ws : List Nat} {hs : List AH} : ∀ (l : List (Nat × Oper)) {rs : List KRec} {rs' : List Rec} (c : Nat), RecsR sz rs rs' → kreadsOk P ops mk ws hs l rs c = true → readsOk P ops mk ws hs l rs' c = true
  | [], _, _, c, _, e => by simp [readsOk]
  | (i, o) :: l, _, _, c, .nil, e => by simp [readsOk]
  | (i, o) :: l, _, _, c, .cons (r := r) (r' := r') rr rrs, e => by
    simp only [kreadsOk] at e
    simp only [readsOk, ← rr.wr]
    cases hw : r.wr with
    | true =>
      rw [hw, ci_true] at e
      simp only [if_true]
      exact kreads_ok l _ rrs e
    | false =>
      rw [hw, ci_false, Bool.and_eq_true] at e
      simp only [Bool.false_eq_true, if_false, Bool.and_eq_true]
      refine ⟨?_, kreads_ok l _ rrs e.2⟩
      have e := e.1
      cases hq : (noMem o.op && r.new.isNone) with
      | true =>
        simp only [Bool.and_eq_true, Option.isNone_iff_eq_none] at hq
        rw [← rr.new, hq.2]
        simp only [readOk, hq.1, Bool.true_or, Bool.or_true]
      | false =>
        rw [hq, ci_false, kwant_eq rr.ts, rr.new] at e
        cases hwant : Region.wanted o (yielded ops r'.ts) with
        | false => rfl
        | true =>
          rw [hwant] at e
          simp only [Bool.not_true, Bool.false_or] at e ⊢
          cases hnew : r'.new with
          | some x =>
            rw [hnew] at e
            exact e
          | none =>
            rw [hnew] at e
            simp only [readOk, Bool.or_eq_true] at e ⊢
            refine .inr ?_
            unfold kreadOk at e
            rw [List.all_eq_true] at e ⊢
            intro h hh
            have e := e h hh
            cases hk : (kread P o).run r.ts h with
            | none => rw [hk] at e; cases e
            | some v =>
              rw [hk] at e
              have hk := kread_ok hk
              rw [rr.ts.eval] at hk
              rw [hk, ← rr.v]
              exact e
theorem opsOk_mono {G n m : Nat} (hm : n ≤ m) : ∀ (l : List Oper) (i : Nat), opsOk G n l i = true → opsOk G m l i = true
  | [], i, e => rfl
  | o :: l, i, e => by
    simp only [opsOk, Bool.and_eq_true] at e ⊢
    refine ⟨⟨e.1.1, ?_⟩, opsOk_mono hm l _ e.2⟩
    have := e.1.2
    split at this
    · rename_i d hd
      simp only [Nat.blt_eq] at this ⊢
      exact Nat.lt_of_lt_of_le this hm
    · rfl
theorem kregion_ok (hr : KOk P rec run) {ops : Array Oper} {sz : Nat} {ts te : TT} {h h' : AH} {a : Array Value} (e : (kregion P G ops).run rec sz ts h = some (te, h')) (r : TR sz ts a) : ∃ ta, aregion P G (opD P G noOrc run) ops a h = some (ta, h') ∧ TR sz te ta := by
  unfold kregion at e
  simp only at e
  cases hst : statOk G (dmax ops) ops (masks ops.toList []) (orderOf P ops (masks ops.toList [])) (listed ops (orderOf P ops (masks ops.toList []))) with
  | false => rw [hst] at e; cases e
  | true =>
    rw [hst, ci_true] at e
    obtain ⟨hle, e⟩ := ci_eq e
    have hle := Nat.le_of_ble_eq_true hle
    obtain ⟨⟨rs, hs, te'⟩, h1, e⟩ := ob_eq e
    obtain ⟨h2, e⟩ := ci_eq e
    obtain ⟨h3, h4, e⟩ := ob_eq e
    cases e
    have hst2 : statOk G a.size ops (masks ops.toList []) (orderOf P ops (masks ops.toList [])) (listed ops (orderOf P ops (masks ops.toList []))) = true := by
      simp only [statOk, Bool.and_eq_true] at hst ⊢
      exact ⟨⟨⟨opsOk_mono (by rw [r.size]; exact hle) _ _ hst.1.1.1, hst.1.1.2⟩, hst.1.2⟩, hst.2⟩
    have hops := hst2
    simp only [statOk, Bool.and_eq_true] at hops
    have hall := opsOk_at _ _ hops.1.1.1
    obtain ⟨rs', ta, h5, h6, h7⟩ := klex_ok (G := G) hr ops _ _ _ _ _ _ _ h1 (fun x hx => by
      have hx := listed_ops _ x hx
      obtain ⟨h8, _, h9⟩ := hall x.1 x.2 (by rw [Array.getElem?_toList]; exact hx)
      exact ⟨h8, fun d hd => by rw [← r.size]; exact h9 d hd⟩) r
    simp only [Bool.and_eq_true] at h2
    refine ⟨ta, ?_, h6⟩
    unfold aregion
    simp only [hst2, if_true, h5, ← kws_eq _ h7, ← knew_eq _ h7, h2.1.1, h2.1.2, kreads_ok _ _ h7 h2.2, Bool.and_self, h4]
end
end Go.Ab
