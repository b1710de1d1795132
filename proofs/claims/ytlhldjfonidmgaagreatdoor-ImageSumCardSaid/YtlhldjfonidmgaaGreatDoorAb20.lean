/- A region whose order is drawn: what the checks say. -/
import Derived.Test.YtlhldjfonidmgaaGreatDoorAb19
namespace Go.Ab
set_option linter.unusedSimpArgs false
set_option linter.unusedVariables false
set_option linter.unusedSectionVars false
theorem opsOk_at {G n : Nat} : ∀ (l : List Oper) (i0 : Nat), opsOk G n l i0 = true → ∀ (k : Nat) (o : Oper), l[k]? = some o → okOper G o = true ∧ (∀ j ∈ prsOf o, j < i0 + k) ∧ ∀ d, o.dst = some d → d < n
  | [], _, _, k, o, h => by simp at h
  | p :: l, i0, e, k, o, h => by
    simp only [opsOk, Bool.and_eq_true] at e
    obtain ⟨⟨⟨e1, e2⟩, e3⟩, e4⟩ := e
    cases k with
    | zero =>
      simp only [List.getElem?_cons_zero, Option.some.injEq] at h
      subst h
      refine ⟨e1, fun j hj => ?_, fun d hd => ?_⟩
      · have := List.all_eq_true.1 e2 j hj
        rw [Nat.blt_eq] at this; exact this
      · rw [hd] at e3
        simp only [Nat.blt_eq] at e3; exact e3
    | succ k =>
      obtain ⟨a1, a2, a3⟩ := opsOk_at l (i0 + 1) e4 k o (by simpa using h)
      exact ⟨a1, fun j hj => by have := a2 j hj; omega, a3⟩
theorem pairsOk_at {ops : Array Oper} {mk : List Nat} : ∀ (l : List (Nat × Oper)), pairsOk ops mk l = true → ∀ (p q : Nat) (x y : Nat × Oper), p < q → l[p]? = some x → l[q]? = some y → pairOk ops mk x y = true
  | [], _, p, q, x, y, _, h, _ => by simp at h
  | z :: l, e, p, q, x, y, hlt, hp, hq => by
    simp only [pairsOk, Bool.and_eq_true] at e
    cases q with
    | zero => omega
    | succ q =>
      simp only [List.getElem?_cons_succ] at hq
      cases p with
      | zero =>
        simp only [List.getElem?_cons_zero, Option.some.injEq] at hp
        subst hp
        exact List.all_eq_true.1 e.1 y (List.mem_of_getElem? hq)
      | succ p =>
        exact pairsOk_at l e.2 p q x y (by omega) (by simpa using hp) hq
theorem pairOk_spec {ops : Array Oper} {mk : List Nat} {x y : Nat × Oper} (h : pairOk ops mk x y = true) :
    x.1 ≠ y.1 ∧ (∀ d, x.2.dst = some d → y.2.dst ≠ some d) ∧ (∀ d, x.2.dst = some d → d ∈ y.2.looksAt ops → ahead mk x.1 y.1 = true) ∧ (∀ d, y.2.dst = some d → d ∈ x.2.looksAt ops → ahead mk x.1 y.1 = true) := by
  simp only [pairOk, Bool.and_eq_true, Bool.not_eq_true'] at h
  obtain ⟨⟨h1, h2⟩, h3⟩ := h
  refine ⟨fun e => (by rw [e, beq_true] at h1; cases h1), fun d hx hy => ?_, fun d hx hd => ?_, fun d hy hd => ?_⟩
  · rw [hx] at h2
    simp only [hy, beq_true, Bool.not_true, Bool.false_and, Bool.and_eq_true] at h2
    cases h2
  · rw [hx] at h2
    simp only [Bool.and_eq_true, Bool.or_eq_true, Bool.not_eq_true'] at h2
    rcases h2.2 with h | h
    · rw [inL_mem.2 hd] at h; cases h
    · exact h
  · rw [hy] at h3
    simp only [Bool.or_eq_true, Bool.not_eq_true'] at h3
    rcases h3 with h | h
    · rw [inL_mem.2 hd] at h; cases h
    · exact h
theorem listed_ops {ops : Array Oper} : ∀ (od : List Nat) (x : Nat × Oper), x ∈ listed ops od → ops[x.1]? = some x.2
  | [], x, h => by simp [listed] at h
  | i :: od, x, h => by
    unfold listed at h
    split at h
    · rename_i o ho
      rcases List.mem_cons.1 h with h | h
      · rw [h]; exact ho
      · exact listed_ops od x h
    · exact listed_ops od x h
theorem listed_mem {ops : Array Oper} : ∀ (od : List Nat) (i : Nat) (o : Oper), i ∈ od → ops[i]? = some o → (i, o) ∈ listed ops od
  | [], i, o, h, _ => by simp at h
  | j :: od, i, o, h, ho => by
    unfold listed
    rcases List.mem_cons.1 h with h | h
    · subst h
      rw [ho]; exact List.mem_cons_self
    · split
      · exact List.mem_cons_of_mem _ (listed_mem od i o h ho)
      · exact listed_mem od i o h ho
theorem ws_at : ∀ (l : List (Nat × Oper)) (rs : List Rec) (p : Nat) (x : Nat × Oper) (r : Rec), l[p]? = some x → rs[p]? = some r → r.wr = true → (wsF l rs)[cnt (rs.take p)]? = some x.1
  | [], _, p, x, r, h, _, _ => by simp at h
  | _ :: _, [], p, x, r, _, h, _ => by simp at h
  | (i, o) :: l, q :: rs, p, x, r, hl, hr, hw => by
    cases p with
    | zero =>
      simp only [List.getElem?_cons_zero, Option.some.injEq] at hl hr
      subst hl hr
      simp [wsF, hw, cnt]
    | succ p =>
      have := ws_at l rs p x r (by simpa using hl) (by simpa using hr) hw
      simp only [wsF, List.take_succ_cons, cnt]
      cases q.wr
      · simpa using this
      · simp only [if_true]
        rw [Nat.add_comm, List.getElem?_cons_succ]; exact this
theorem ws_of : ∀ (l : List (Nat × Oper)) (rs : List Rec) (a i : Nat), (wsF l rs)[a]? = some i → ∃ (p : Nat) (x : Nat × Oper) (r : Rec), l[p]? = some x ∧ rs[p]? = some r ∧ r.wr = true ∧ cnt (rs.take p) = a ∧ x.1 = i
  | [], _, a, i, h => by simp [wsF] at h
  | _ :: _, [], a, i, h => by simp [wsF] at h
  | (j, o) :: l, q :: rs, a, i, h => by
    simp only [wsF] at h
    cases hq : q.wr with
    | false =>
      rw [hq] at h
      obtain ⟨p, x, r, h1, h2, h3, h4, h5⟩ := ws_of l rs a i (by simpa using h)
      exact ⟨p + 1, x, r, by simpa using h1, by simpa using h2, h3, by simp [cnt, hq, h4], h5⟩
    | true =>
      rw [hq] at h
      simp only [if_true] at h
      cases a with
      | zero =>
        simp only [List.getElem?_cons_zero, Option.some.injEq] at h
        exact ⟨0, (j, o), q, by simp, by simp, hq, by simp [cnt], h⟩
      | succ a =>
        obtain ⟨p, x, r, h1, h2, h3, h4, h5⟩ := ws_of l rs a i (by simpa using h)
        exact ⟨p + 1, x, r, by simpa using h1, by simpa using h2, h3, by simp [cnt, hq, h4]; omega, h5⟩
theorem ws_length : ∀ (l : List (Nat × Oper)) (rs : List Rec), rs.length = l.length → (wsF l rs).length = cnt rs
  | [], [], _ => rfl
  | [], _ :: _, h => by simp at h
  | _ :: _, [], h => by simp at h
  | (j, o) :: l, q :: rs, h => by
    have := ws_length l rs (by simpa using h)
    simp only [wsF, cnt]
    cases q.wr
    · simpa using this
    · simp only [if_true, List.length_cons, this]; omega
theorem chain_at {mk : List Nat} : ∀ (ws : List Nat), chainOk mk ws = true → ∀ a x y, ws[a]? = some x → ws[a + 1]? = some y → ahead mk x y = true
  | [], _, a, x, y, h, _ => by simp at h
  | [z], _, a, x, y, _, h => by simp at h
  | z :: z' :: ws, e, a, x, y, hx, hy => by
    simp only [chainOk, Bool.and_eq_true] at e
    cases a with
    | zero =>
      simp only [List.getElem?_cons_zero, Option.some.injEq, List.getElem?_cons_succ] at hx hy
      subst hx hy
      exact e.1
    | succ a => exact chain_at (z' :: ws) e.2 a x y (by simpa using hx) (by simpa using hy)
theorem lo_le {mk : List Nat} {i k : Nat} : ∀ (ws : List Nat) (a0 : Nat), (∀ a x, ws[a]? = some x → ahead mk x i = true → a0 + a < k) → loF mk i ws a0 ≤ k
  | [], a0, h => by simp [loF]
  | x :: ws, a0, h => by
    have ih := lo_le (mk := mk) (i := i) (k := k) ws (a0 + 1) fun a y hy ha => by have := h (a + 1) y (by simpa using hy) ha; omega
    simp only [loF]
    split
    · rename_i hx
      have := h 0 x (by simp) hx
      exact Nat.max_le.2 ⟨by omega, ih⟩
    · exact ih
theorem le_hi {mk : List Nat} {i k : Nat} : ∀ (ws : List Nat) (a0 : Nat), (∀ a x, ws[a]? = some x → ahead mk i x = true → k ≤ a0 + a) → k ≤ a0 + ws.length → k ≤ hiF mk i ws a0
  | [], a0, h, hk => by simpa [hiF] using hk
  | x :: ws, a0, h, hk => by
    simp only [hiF]
    split
    · rename_i hx
      have := h 0 x (by simp) hx
      omega
    · exact le_hi ws (a0 + 1) (fun a y hy ha => by have := h (a + 1) y (by simpa using hy) ha; omega) (by simp at hk; omega)
theorem all_between {hs : List AH} {lo hi k : Nat} {f : AH → Bool} {h : AH} (ha : ((hs.drop lo).take (hi + 1 - lo)).all f = true) (hk : hs[k]? = some h) (h1 : lo ≤ k) (h2 : k ≤ hi) : f h = true := by
  refine List.all_eq_true.1 ha h (List.mem_iff_getElem?.2 ⟨k - lo, ?_⟩)
  rw [List.getElem?_take, if_pos (by omega), List.getElem?_drop, show lo + (k - lo) = k by omega]
  exact hk
theorem reads_at {P : Program} {ops : Array Oper} {mk ws : List Nat} {hs : List AH} : ∀ (l : List (Nat × Oper)) (rs : List Rec) (c : Nat), readsOk P ops mk ws hs l rs c = true →
    ∀ (p : Nat) (x : Nat × Oper) (r : Rec), l[p]? = some x → rs[p]? = some r → r.wr = false → Region.wanted x.2 (yielded ops r.ts) = true →
      match r.new with
      | some (n, b) => freeOk n b (loF mk x.1 ws 0) (hiF mk x.1 ws 0) (c + cnt (rs.take p)) hs = true
      | none => readOk P x.2 r (loF mk x.1 ws 0) (hiF mk x.1 ws 0) hs = true
  | [], _, c, _, p, x, r, h, _, _, _ => by simp at h
  | _ :: _, [], c, _, p, x, r, _, h, _, _ => by simp at h
  | (i, o) :: l, q :: rs, c, e, p, x, r, hl, hr, hw, hn => by
    simp only [readsOk] at e
    cases p with
    | zero =>
      simp only [List.getElem?_cons_zero, Option.some.injEq] at hl hr
      subst hl hr
      simp only [hw, Bool.false_eq_true, if_false, Bool.and_eq_true, Bool.or_eq_true, Bool.not_eq_true', hn, false_or] at e
      have e1 := e.1
      cases hq : q.new with
      | none => rw [hq] at e1; simpa using e1
      | some y =>
        obtain ⟨n, b⟩ := y
        rw [hq] at e1
        simpa [cnt] using e1
    | succ p =>
      cases hq : q.wr with
      | false =>
        rw [hq] at e
        simp only [Bool.false_eq_true, if_false, Bool.and_eq_true] at e
        have := reads_at l rs c e.2 p x r (by simpa using hl) (by simpa using hr) hw hn
        simpa only [List.take_succ_cons, cnt, hq, Bool.false_eq_true, if_false, Nat.zero_add] using this
      | true =>
        rw [hq] at e
        simp only [if_true] at e
        have := reads_at l rs (c + 1) e p x r (by simpa using hl) (by simpa using hr) hw hn
        simpa only [List.take_succ_cons, cnt, hq, if_true, Nat.add_assoc] using this
theorem new_at : ∀ (rs : List Rec) (n0 : Nat), newOk rs n0 = true → ∀ (p : Nat) (r : Rec) (n : Nat) (b : Obj), rs[p]? = some r → r.new = some (n, b) → n0 ≤ n
  | [], _, _, p, r, n, b, h, _ => by simp at h
  | q :: rs, n0, e, p, r, n, b, hr, hn => by
    simp only [newOk] at e
    cases p with
    | zero =>
      simp only [List.getElem?_cons_zero, Option.some.injEq] at hr
      subst hr
      rw [hn] at e
      simp only [Bool.and_eq_true, Nat.ble_eq] at e
      exact e.1
    | succ p =>
      split at e
      · simp only [Bool.and_eq_true, Nat.ble_eq] at e
        have := new_at rs _ e.2 p r n b (by simpa using hr) hn
        omega
      · exact new_at rs _ e p r n b (by simpa using hr) hn
theorem new_inj : ∀ (rs : List Rec) (n0 : Nat), newOk rs n0 = true → ∀ (p q : Nat) (r s : Rec) (n : Nat) (b c : Obj), p < q → rs[p]? = some r → rs[q]? = some s → r.new = some (n, b) → s.new = some (n, c) → False
  | [], _, _, p, q, r, s, n, b, c, _, h, _, _, _ => by simp at h
  | x :: rs, n0, e, p, q, r, s, n, b, c, hlt, hr, hs, hn, hm => by
    simp only [newOk] at e
    cases q with
    | zero => omega
    | succ q =>
      cases p with
      | zero =>
        simp only [List.getElem?_cons_zero, Option.some.injEq] at hr
        subst hr
        rw [hn] at e
        simp only [Bool.and_eq_true, Nat.ble_eq] at e
        have := new_at rs _ e.2 q s n c (by simpa using hs) hm
        omega
      | succ p =>
        split at e
        · simp only [Bool.and_eq_true, Nat.ble_eq] at e
          exact new_inj rs _ e.2 p q r s n b c (by omega) (by simpa using hr) (by simpa using hs) hn hm
        · exact new_inj rs _ e p q r s n b c (by omega) (by simpa using hr) (by simpa using hs) hn hm
theorem lastH_eq : ∀ (hs : List AH) (h : AH), lastH hs = some h → hs[hs.length - 1]? = some h
  | [], h, e => by cases e
  | [x], h, e => by cases e; rfl
  | x :: y :: l, h, e => by
    have := lastH_eq (y :: l) h e
    simpa using this
theorem st_mem : ∀ (rs : List Rec) (p : Nat) (r : Rec) (n : Nat) (b : Obj), rs[p]? = some r → r.new = some (n, b) → cnt (rs.take p) = 0 → r.wr = false → n ∈ st rs
  | [], p, r, n, b, h, _, _, _ => by simp at h
  | q :: rs, p, r, n, b, hr, hn, hc, hw => by
    cases p with
    | zero =>
      simp only [List.getElem?_cons_zero, Option.some.injEq] at hr
      subst hr
      simp [st, hn, hw]
    | succ p =>
      simp only [List.take_succ_cons, cnt] at hc
      cases hq : q.wr with
      | true => rw [hq] at hc; simp at hc
      | false =>
        rw [hq] at hc
        have := st_mem rs p r n b (by simpa using hr) hn (by simpa using hc) hw
        unfold st
        rw [hq]
        simp only [Bool.false_eq_true, if_false]
        split
        · exact List.mem_cons_of_mem _ this
        · exact this
theorem cnt_split : ∀ (rs : List Rec) (p q : Nat), p ≤ q → cnt (rs.take q) = cnt (rs.take p) + cnt ((rs.drop p).take (q - p))
  | rs, 0, q, _ => by simp [cnt]
  | [], p + 1, q, _ => by simp [cnt]
  | r :: rs, p + 1, 0, h => by omega
  | r :: rs, p + 1, q + 1, h => by
    have := cnt_split rs p q (by omega)
    simp only [List.take_succ_cons, cnt, List.drop_succ_cons, this, Nat.add_sub_add_right]
    omega
theorem cnt_mono {rs : List Rec} {p q : Nat} (h : p ≤ q) : cnt (rs.take p) ≤ cnt (rs.take q) := by rw [cnt_split rs p q h]; omega
theorem cnt_take_le : ∀ (rs : List Rec) (i : Nat), cnt (rs.take i) ≤ cnt rs
  | [], i => by simp [cnt]
  | r :: rs, 0 => by simp [cnt]
  | r :: rs, i + 1 => by simp only [List.take_succ_cons, cnt]; have := cnt_take_le rs i; omega
theorem cnt_succ : ∀ (rs : List Rec) (p : Nat) (r : Rec), rs[p]? = some r → cnt (rs.take (p + 1)) = cnt (rs.take p) + if r.wr then 1 else 0
  | [], p, r, h => by simp at h
  | q :: rs, 0, r, h => by
    simp only [List.getElem?_cons_zero, Option.some.injEq] at h
    subst h
    simp [cnt]
  | q :: rs, p + 1, r, h => by
    have := cnt_succ rs p r (by simpa using h)
    simp only [List.take_succ_cons, cnt, this]; omega
theorem putT_size (ts : Array Value) (d : Option Tmp) (v : Value) : (putT ts d v).size = ts.size := by cases d <;> simp [putT]
theorem putT_ne {ts : Array Value} {d : Option Tmp} {v : Value} {t : Tmp} (h : d ≠ some t) : (putT ts d v).getD t undef = ts.getD t undef := by
  cases d with
  | none => rfl
  | some d =>
    have : d ≠ t := fun e => h (by rw [e])
    simp only [putT, Array.getD_eq_getD_getElem?]
    rw [Array.getElem?_setIfInBounds_ne this]
theorem putT_eq {ts : Array Value} {v : Value} {t : Tmp} (h : t < ts.size) : (putT ts (some t) v).getD t undef = v := by
  simp [putT, Array.getD_eq_getD_getElem?, h]
theorem tsF_size : ∀ (l : List (Nat × Oper)) (rs : List Rec) (ts : Array Value), (tsF l rs ts).size = ts.size
  | [], _, _ => rfl
  | _ :: _, [], _ => rfl
  | (i, o) :: l, r :: rs, ts => by rw [tsF, tsF_size l rs, putT_size]
theorem tsF_none : ∀ (l : List (Nat × Oper)) (rs : List Rec) (ts : Array Value) (t : Tmp), (∀ x ∈ l, x.2.dst ≠ some t) → (tsF l rs ts).getD t undef = ts.getD t undef
  | [], _, _, _, _ => rfl
  | _ :: _, [], _, _, _ => rfl
  | (i, o) :: l, r :: rs, ts, t, h => by
    rw [tsF, tsF_none l rs _ t (fun p hp => h p (List.mem_cons_of_mem _ hp)), putT_ne (h (i, o) List.mem_cons_self)]
theorem tsF_some : ∀ (l : List (Nat × Oper)) (rs : List Rec) (ts : Array Value) (t : Tmp) (j : Nat) (x : Nat × Oper) (r : Rec), l[j]? = some x → rs[j]? = some r → x.2.dst = some t → t < ts.size →
    (∀ k p, l[k]? = some p → p.2.dst = some t → k = j) → (tsF l rs ts).getD t undef = r.v
  | [], _, _, _, j, o, r, h, _, _, _, _ => by simp at h
  | _ :: _, [], _, _, j, o, r, _, h, _, _, _ => by simp at h
  | (i, p) :: l, q :: rs, ts, t, j, x, r, hl, hr, hd, ht, hu => by
    rw [tsF]
    cases j with
    | zero =>
      simp only [List.getElem?_cons_zero, Option.some.injEq] at hl hr
      subst hl hr
      simp only at hd
      rw [tsF_none l rs _ t (fun x hx hxd => by
        obtain ⟨k, hk⟩ := List.mem_iff_getElem?.1 hx
        have := hu (k + 1) x (by simpa using hk) hxd
        omega), hd, putT_eq ht]
    | succ j =>
      simp only [List.getElem?_cons_succ] at hl hr
      exact tsF_some l rs _ t j x r hl hr hd (by rw [putT_size]; exact ht) (fun k x hx hxd => by
        have := hu (k + 1) x (by simpa using hx) hxd
        omega)
end Go.Ab
