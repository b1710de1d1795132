/- A region whose order is drawn: every step. -/
import Derived.Test.YtlhldjfonidmgaaGreatDoorAb22
namespace Go.Ab
set_option linter.unusedSimpArgs false
set_option linter.unusedVariables false
set_option linter.unusedSectionVars false
theorem aread_nodefer {P : Program} {o : Oper} {ρ : Operand → Value} {h : AH} {v : Value} (e : aread P o ρ h = some v) : ∀ c, o.op ≠ .defer c := fun c hc => by
  unfold aread at e
  simp [hc, readKind, plainKind] at e
theorem aFree_nodefer {P : Program} {o : Oper} {ρ : Operand → Value} {x : Obj × Shape} (e : aFree P o ρ = some x) : ∀ c, o.op ≠ .defer c := fun c hc => by
  unfold aFree at e
  simp [hc] at e
theorem HR.pend' {P : Program} {w0 : W0} {E : Env} {h : AH} {w : World} (H : HR P w0 E h w) {Pd : Nat → Prop} (hp : ∀ i, Pd i → w0.Pd i) : HR P { w0 with Pd := Pd } E h w := H.weaken hp
section
variable {P : Program} {G : Nat} {D : Oper → (Operand → Value) → AH → Option (Value × AH)} {ops : Array Oper} {ts : Array Value} {h0 : AH} {l : List (Nat × Oper)} {rs : List Rec} {hs : List AH} {te : Array Value}
theorem Reg.step (hz : ZerosFlat P) (hD : DOk P G D) (R : Reg P G D ops ts h0 l rs hs te) {w0 : W0} (hfr : ∀ n, w0.Pd n → n < h0.next) {S : Array Bool} {k : Nat} {E : Env} {tm : Array Value} {w : World}
    (I : Inv P G w0 ops ts l rs hs S k E tm w) {i : Nat} (hi : i ∈ Region.ready .any ops S) {fr : Frame} {cs : List Frame} {rest : List Nat} {kk : List Item} (hm : fr.mode = .run) (ht : fr.todo = .inRegion ops (i :: rest) :: kk) (htm : fr.tmps = tm) :
    ∃ k' E' tm' w', E.le E' ∧ Steps P (lone fr cs w) (lone { fr with todo := .inRegion ops rest :: kk, tmps := tm' } cs w') ∧ Inv P G w0 ops ts l rs hs (S.setIfInBounds i true) k' E' tm' w' := by
  subst htm
  obtain ⟨hun0, o, ho, hall⟩ := mem_ready.1 hi
  have hiN : i < S.size := by rw [I.size]; exact (Array.getElem?_eq_some_iff.1 ho).1
  have hun : S.getD i false = false := by
    simp only [Array.getD_eq_getD_getElem?, Array.getElem?_eq_getElem hiN, Option.getD_some] at hun0 ⊢
    exact hun0
  have hprs : ∀ j ∈ prsOf o, S.getD j false = true := fun j hj => by
    unfold prsOf at hj
    obtain ⟨e, he, rfl⟩ := List.mem_map.1 hj
    obtain ⟨h1, h2⟩ := List.mem_filter.1 he
    exact hall e (by simpa using h1) h2
  obtain ⟨p, r, hp, hr⟩ := R.pos ho
  obtain ⟨l1, l2, l3, l4⟩ := lex_at l ts h0 rs hs te R.lex
  obtain ⟨hts, hrec⟩ := l4 p (i, o) r hp hr
  have clos : ∀ {j j' : Nat}, S.getD j false = true → ahead (masks ops.toList []) j' j = true → S.getD j' false = true := fun {j j'} hj ha => ahead_closed (C := fun j => S.getD j false = true) I.closed hj ha
  have closi : ∀ {j : Nat}, ahead (masks ops.toList []) j i = true → S.getD j false = true := fun {j} ha => by
    have := ahead_closed (C := fun j => S.getD j false = true ∨ j = i) (fun m om hom hc n hn => by
      rcases hc with hc | rfl
      · exact .inl (I.closed m om hom hc n hn)
      · rw [ho] at hom
        cases hom
        exact .inl (hprs n hn)) (.inr rfl) ha
    rcases this with h | h
    · exact h
    · have := R.lt ha; omega
  have notS : ¬ S.getD i false = true := by rw [hun]; simp
  have rsAt : ∀ {q : Nat} {x : Nat × Oper}, l[q]? = some x → ∃ r2 : Rec, rs[q]? = some r2 := fun {q x} hq => by
    have : q < rs.length := by rw [l1]; exact (List.getElem?_eq_some_iff.1 hq).1
    exact ⟨_, List.getElem?_eq_getElem this⟩
  have look : ∀ t ∈ o.looksAt ops, VR E (r.ts.getD t undef) (fr.tmps.getD t undef) := fun t ht' => by
    rw [hts]
    by_cases hw : ∃ (q : Nat) (x : Nat × Oper), l[q]? = some x ∧ q < p ∧ x.2.dst = some t
    · obtain ⟨q, x, hq, hqp, hd⟩ := hw
      have ha := (pairOk_spec (pairsOk_at l R.pairs q p x (i, o) hqp hq hp)).2.2.1 t hd ht'
      obtain ⟨r2, hr2⟩ := rsAt hq
      have hv := I.set q x r2 t hq hr2 (closi ha) hd
      rw [tsF_some (l.take p) (rs.take p) ts t q x r2 (by rw [List.getElem?_take, if_pos hqp]; exact hq) (by rw [List.getElem?_take, if_pos hqp]; exact hr2) hd ((R.op (R.opAt hq)).2.2 t hd) (fun m y hm hy => by
        rw [List.getElem?_take] at hm
        split at hm
        · exact R.dst hm hq hy hd
        · cases hm)]
      exact hv
    · rw [tsF_none (l.take p) (rs.take p) ts t (fun x hx hd => by
        obtain ⟨q, hq⟩ := List.mem_iff_getElem?.1 hx
        rw [List.getElem?_take] at hq
        split at hq
        · exact hw ⟨q, x, hq, by assumption, hd⟩
        · cases hq)]
      refine I.unset t fun q x hq hS hd => ?_
      rcases Nat.lt_trichotomy q p with h | h | h
      · exact hw ⟨q, x, hq, h, hd⟩
      · subst h
        rw [hp] at hq
        cases hq
        exact notS hS
      · have ha := (pairOk_spec (pairsOk_at l R.pairs p q (i, o) x h hp hq)).2.2.2 t hd ht'
        exact notS (clos hS ha)
  have hsz : r.ts.size = fr.tmps.size := by rw [hts, tsF_size]; exact I.tsz
  have hwt := wanted_rel hsz look
  have hρ : ∀ x ∈ o.op.operands, VR E (evalT r.ts x) (fr.eval x) := operand_rel I.ge (R.op ho).1 fun t ht' => look t (looks_operand ht')
  obtain ⟨h, hk, H⟩ := I.hr
  have shrink : ∀ {n}, (Pend w0 l rs k (S.setIfInBounds i true)).Pd n → (Pend w0 l rs k S).Pd n := fun {n} hn => by
    rcases hn with hn | ⟨q, x, r2, b, h1, h2, h3, h4, h5⟩
    · exact .inl hn
    · refine .inr ⟨q, x, r2, b, h1, h2, h3, h4, ?_⟩
      cases hS : S.getD x.1 false with
      | false => rfl
      | true => rw [getD_set_true hS] at h5; cases h5
  have H' : HR P (Pend w0 l rs k (S.setIfInBounds i true)) E h w := H.weaken fun n hn => shrink hn
  have wsS : ∀ {a j : Nat}, (wsF l rs)[a]? = some j → (S.getD j false = true ↔ a < k) := fun {a j} hj => by
    obtain ⟨q, x, r2, h1, h2, h3, h4, h5⟩ := ws_of l rs a j hj
    subst h5 h4
    exact I.pre q x r2 h1 h2 h3
  have hlo : loF (masks ops.toList []) i (wsF l rs) 0 ≤ k := lo_le _ _ fun a x hx ha => by
    have := (wsS hx).1 (closi ha); omega
  have hhi : k ≤ hiF (masks ops.toList []) i (wsF l rs) 0 := le_hi _ _ (fun a x hx ha => by
    by_cases hak : a < k
    · exact absurd (clos ((wsS hx).2 hak) ha) notS
    · omega) (by rw [ws_length l rs l1]; have := I.kle; omega)
  have plain : ∀ {v' : Value} {E' : Env} {w' : World}, r.wr = false → E.le E' → VR E' r.v v' → Steps P (lone fr cs w) (lone (fr.finish v') cs w') → HR P (Pend w0 l rs k (S.setIfInBounds i true)) E' h w' →
      ∃ k' E' tm' w', E.le E' ∧ Steps P (lone fr cs w) (lone { fr with todo := .inRegion ops rest :: kk, tmps := tm' } cs w') ∧ Inv P G w0 ops ts l rs hs (S.setIfInBounds i true) k' E' tm' w' := fun {v' E' w'} hw le rv hst Hx => by
    have I' := I.put R hp hr hun hprs (fun e => by rw [hw] at e; cases e) le rv (h' := h) (by rw [hw]; simpa using hk) (by rw [hw]; simpa using Hx)
    exact ⟨_, E', _, w', le, by rw [finish_put ht ho] at hst; exact hst, I'⟩
  rcases hrec with ⟨hw, hv, hwr, hnew⟩ | ⟨hw, hwr, hnew, h2, h1, hk2, hd, ts', hnext⟩ | ⟨hw, hwr, n, b, s, hnew, hf, hv⟩ | ⟨hw, hwr, hnew, hx, hrd⟩
  · refine plain (v' := undef) hwr E.le_refl (by rw [hv]; exact VR.undef E) (Steps.one' (step_skip hm ht ?_)) H'
    rw [ho]
    simp only [Option.map_some, Option.getD_some]
    rw [hwt]; exact hw
  · have hcnt : cnt (rs.take p) = k := by
      have hws := ws_at l rs p (i, o) r hp hr hwr
      have h1 : ¬ cnt (rs.take p) < k := fun hh => notS ((wsS hws).2 hh)
      cases hc : cnt (rs.take p) with
      | zero => omega
      | succ a =>
        rw [hc] at hws h1
        have hlt : a < (wsF l rs).length := by have := (List.getElem?_eq_some_iff.1 hws).1; omega
        have hpa := List.getElem?_eq_getElem hlt
        have := (wsS hpa).1 (closi (chain_at _ R.chain a _ _ hpa hws))
        omega
    rw [hcnt, hk] at hk2
    cases hk2
    obtain ⟨E', v', w', le, rv, hst, H1⟩ := hD (Pend w0 l rs k (S.setIfInBounds i true)) E h w o (evalT r.ts) r.v h1 fr cs ops i rest kk hm ht ho (by rw [hwt]; exact hw) H' I.ge hρ hd
    obtain ⟨h3, e3, H3⟩ := lex_stage _ _ _ _ _ _ hnext _ H1
    rw [hcnt, List.getElem?_drop, Nat.add_zero] at e3
    have I' := I.put R hp hr hun hprs (fun _ => hcnt) le rv (h' := h3) (by rw [hwr]; exact e3) (by
      rw [hwr]
      refine H3.weaken fun m hm' => ?_
      rcases hm' with hm' | ⟨q, x, r2, b, g1, g2, g3, g4, g5⟩
      · exact .inl (.inl hm')
      · by_cases hq : cnt (rs.take q) ≤ k
        · exact .inl (.inr ⟨q, x, r2, b, g1, g2, g3, hq, g5⟩)
        · refine .inr ?_
          simp only [if_true] at g4
          have hqp : p < q := by
            rcases Nat.lt_or_ge p q with hlt | hge
            · exact hlt
            · have := cnt_mono (rs := rs) hge; omega
          have hc1 := cnt_succ rs p r hr
          rw [hwr, if_pos rfl] at hc1
          have hsp := cnt_split rs (p + 1) q hqp
          have hw2 : r2.wr = false := by
            obtain ⟨_, hrec2⟩ := l4 q x r2 g1 g2
            rcases hrec2 with ⟨_, _, e, _⟩ | ⟨_, _, e, _⟩ | ⟨_, e, _⟩ | ⟨_, e, _⟩
            · exact e
            · rw [g3] at e; cases e
            · exact e
            · exact e
          exact st_mem (rs.drop (p + 1)) (q - (p + 1)) r2 m b (by rw [List.getElem?_drop, show p + 1 + (q - (p + 1)) = q by omega]; exact g2) g3 (by omega) hw2)
    exact ⟨_, E', _, w', le, by rw [finish_put ht ho] at hst; exact hst, I'⟩
  · have hfree := reads_at l rs 0 R.reads p (i, o) r hp hr hwr hw
    rw [hnew] at hfree
    simp only [freeOk, Bool.and_eq_true] at hfree
    obtain ⟨hlc, hfa⟩ := hfree
    have hlc := Nat.eq_of_beq_eq_true hlc
    have hat := all_between hfa hk hlo hhi
    simp only [Bool.and_eq_true, Nat.ble_eq] at hat
    obtain ⟨hb, hg⟩ := hat
    have hg : h.get n = some (b, false) := by
      split at hg
      · rename_i b' hgb
        rw [hgb, oeq_eq hg]
      · cases hg
    have hpd : (Pend w0 l rs k S).Pd n := .inr ⟨p, (i, o), r, b, hp, hr, hnew, by omega, hun⟩
    have hnp : ¬ (Pend w0 l rs k (S.setIfInBounds i true)).Pd n := fun hn => by
      rcases hn with hn | ⟨q, x, r2, b2, g1, g2, g3, g4, g5⟩
      · have := hfr n hn
        have := new_at rs h0.next R.new p r n b hr hnew
        omega
      · rcases Nat.lt_trichotomy p q with hlt | heq | hlt
        · exact new_inj rs _ R.new p q r r2 n b b2 hlt hr g2 hnew g3
        · subst heq
          rw [hp] at g1
          cases g1
          simp [hiN] at g5
        · exact new_inj rs _ R.new q p r2 r n b2 b hlt g2 hr g3 hnew
    obtain ⟨E', v', w', le, rv, hrun, Hx⟩ := aFree_ok hz H' hρ hf hg hnp (H.pend n hpd).1 hb
    exact plain hwr le (by rw [hv]; exact rv) (Steps.one' (step_val hm ht ho (by rw [hwt]; exact hw) (.inr (aFree_nodefer hf)) hrun)) Hx
  · have hread := reads_at l rs 0 R.reads p (i, o) r hp hr hwr hw
    rw [hnew] at hread
    simp only [readOk, Bool.or_eq_true] at hread
    have hop : aop P o (evalT r.ts) h = some (.value r.v, h) := by
      rcases hread with hread | hread
      · exact aop_any hread (aread_aop hrd) h
      · have := all_between hread hk hlo hhi
        split at this
        · rename_i v2 hv2
          rw [veq_eq 8 this] at hv2
          exact aread_aop hv2
        · cases this
    obtain ⟨E', n', w', le, rn, hrun, Hx⟩ := aop_ok hz H' hρ hop
    cases rn with
    | value rv => exact plain hwr le rv (Steps.one' (step_val hm ht ho (by rw [hwt]; exact hw) (.inr (aread_nodefer hrd)) hrun)) Hx
end
end Go.Ab
