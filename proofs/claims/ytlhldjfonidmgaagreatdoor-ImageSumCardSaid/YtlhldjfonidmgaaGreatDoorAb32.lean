/- The quick executor: its trees and lists say what the plain ones say. -/
import Derived.Test.YtlhldjfonidmgaaGreatDoorAb31
namespace Go.Ab
set_option linter.unusedSimpArgs false
set_option linter.unusedVariables false
theorem ob_eq {α β : Type} {o : Option α} {f : α → Option β} {b : β} (h : ob o f = some b) : ∃ a, o = some a ∧ f a = some b := by
  cases o with
  | none => cases h
  | some a => exact ⟨a, rfl, h⟩
@[simp] theorem ob_some {α β : Type} (a : α) (f : α → Option β) : ob (some a) f = f a := rfl
@[simp] theorem ci_true {α : Type} (x y : α) : ci true x y = x := rfl
@[simp] theorem ci_false {α : Type} (x y : α) : ci false x y = y := rfl
theorem ci_eq {α : Type} {b : Bool} {x : Option α} {y : α} (h : ci b x none = some y) : b = true ∧ x = some y := by
  cases b with
  | true => exact ⟨rfl, h⟩
  | false => cases h
theorem oN_eq {α β : Type} {o : Option α} {x : Option β} {y : β} (h : oN o x = some y) : o = none ∧ x = some y := by
  cases o with
  | none => exact ⟨rfl, h⟩
  | some a => cases h
theorem orElse_eq {α : Type} {o p : Option α} {y : α} (h : orElse o p = some y) : o = some y ∨ p = some y := by
  cases o with
  | none => exact .inr h
  | some a => exact .inl h
theorem ob_orElse {α β : Type} {o : Option α} {f : α → Option β} {p : Option β} {y : β} (h : orElse (ob o f) p = some y) : (∃ a, o = some a ∧ f a = some y) ∨ p = some y := by
  rcases orElse_eq h with h | h
  · exact .inl (ob_eq h)
  · exact .inr h
theorem vBool_eq {v : Value} {b : Bool} (h : vBool v = some b) : v = .bool b := by cases v <;> cases h; rfl
theorem vAddr_eq {v : Value} {b : Addr} (h : vAddr v = some b) : v = .pointer (some b) := by
  cases v <;> first | (cases h; done) | skip
  rename_i a
  have : a = some b := h
  rw [this]
theorem vStr_eq {v : Value} {b : ByteArray} (h : vStr v = some b) : v = .string b := by cases v <;> cases h; rfl
theorem vSl_eq {v : Value} {b : Sl} (h : vSl v = some b) : v = .slice b.a b.l b.c := by cases v <;> cases h; rfl
theorem vAgg_eq {v : Value} {b : Array Value} (h : vAgg v = some b) : v = .agg b := by cases v <;> cases h; rfl
theorem vTup_eq {v : Value} {b : Array Value} (h : vTup v = some b) : v = .tuple b := by cases v <;> cases h; rfl
theorem vFn_eq {v : Value} {b : Fv} (h : vFn v = some b) : v = .func (.func b.f) b.p b.q := by
  cases v <;> first | (cases h; done) | skip
  rename_i f p q
  have h : fFunc f p q = some b := h
  cases f <;> cases h
  rfl
theorem kNo_inj {k l : IntKind} (h : kNo k = kNo l) : k = l := by cases k <;> cases l <;> first | rfl | (simp [kNo] at h)
theorem vNat_eq {k : IntKind} {v : Value} {n : Nat} (h : (vNat k).run v = some n) : v = .int k (.ofNat n) := by
  cases v <;> first | (cases h; done) | skip
  rename_i l i
  have h : ci (Nat.beq (kNo k) (kNo l)) (iNat i) none = some n := h
  obtain ⟨h1, h2⟩ := ci_eq h
  have := kNo_inj (Nat.eq_of_beq_eq_true h1)
  subst this
  cases i with
  | ofNat m =>
    have h2 : some m = some n := h2
    cases h2
    rfl
  | negSucc m => cases h2
theorem vOne_eq {v : Value} (h : vOne v = true) : v.oneCell = true := by cases v <;> first | rfl | cases h
theorem vOne_cells {v : Value} (h : vOne v = true) : v.cells = #[v] := by cases v <;> first | rfl | cases h
theorem lget_eq {α : Type} : ∀ (n : Nat) (l : List α), (lget n).run l = l[n]?
  | 0, [] => rfl
  | 0, _ :: _ => rfl
  | n + 1, [] => rfl
  | n + 1, _ :: t => by
    show (lget n).run t = _
    rw [lget_eq n t]
    simp
theorem lset_eq {α : Type} : ∀ (n : Nat) (l : List α) (x : α) (r : List α), (lset n).run l x = some r → n < l.length ∧ r = l.set n x
  | 0, [], x, r, h => by cases h
  | 0, _ :: _, x, r, h => by cases h; exact ⟨Nat.succ_pos _, rfl⟩
  | n + 1, [], x, r, h => by cases h
  | n + 1, v :: t, x, r, h => by
    have h : ob ((lset n).run t x) (fun r => some (v :: r)) = some r := h
    obtain ⟨a, h1, h2⟩ := ob_eq h
    cases h2
    obtain ⟨h3, h4⟩ := lset_eq n t x a h1
    exact ⟨Nat.succ_lt_succ h3, by rw [h4]; rfl⟩
theorem ldrop_eq : ∀ (n : Nat) (l : List Value), (ldrop n).run l = l.drop n
  | 0, l => rfl
  | n + 1, [] => rfl
  | n + 1, v :: t => by
    show (ldrop n).run t = _
    rw [ldrop_eq n t]
    rfl
theorem ltake_eq : ∀ (n : Nat) (l r : List Value), (ltake n).run l = some r → n ≤ l.length ∧ r = l.take n
  | 0, l, r, h => by cases h; exact ⟨Nat.zero_le _, by simp⟩
  | n + 1, [], r, h => by cases h
  | n + 1, v :: t, r, h => by
    have h : ob ((ltake n).run t) (fun r => some (v :: r)) = some r := h
    obtain ⟨a, h1, h2⟩ := ob_eq h
    cases h2
    obtain ⟨h3, h4⟩ := ltake_eq n t a h1
    exact ⟨Nat.succ_le_succ h3, by rw [h4]; rfl⟩
theorem llen_eq {α : Type} : ∀ (l : List α), llen l = l.length
  | [] => rfl
  | _ :: t => by show Nat.succ (llen t) = _; rw [llen_eq t]; rfl
/-- Many places written at once. -/
def putL (l : List Value) (o : Nat) : List Value → List Value
  | [] => l
  | v :: x => putL (l.set o v) (o + 1) x
theorem putL_cons (u : Value) : ∀ (x l : List Value) (o : Nat), putL (u :: l) (o + 1) x = u :: putL l o x
  | [], l, o => rfl
  | v :: x, l, o => by simp only [putL, List.set_cons_succ]; exact putL_cons u x _ _
theorem lover_eq : ∀ (x l r : List Value), lover x l = some r → x.length ≤ l.length ∧ r = putL l 0 x ∧ ∀ v ∈ x, vOne v = true
  | [], l, r, h => by cases h; exact ⟨Nat.zero_le _, rfl, fun v hv => by cases hv⟩
  | v :: x, [], r, h => by cases h
  | v :: x, u :: t, r, h => by
    have h : ci (vOne v) (ob (lover x t) fun r => some (v :: r)) none = some r := h
    obtain ⟨h0, h⟩ := ci_eq h
    obtain ⟨a, h1, h2⟩ := ob_eq h
    cases h2
    obtain ⟨h3, h4, h5⟩ := lover_eq x t a h1
    refine ⟨Nat.succ_le_succ h3, ?_, fun w hw => ?_⟩
    · simp only [putL, List.set_cons_zero, putL_cons]; rw [h4]
    · rcases List.mem_cons.1 hw with rfl | hw
      · exact h0
      · exact h5 w hw
theorem lputs_eq : ∀ (n : Nat) (l x r : List Value), (lputs n).run l x = some r → n + x.length ≤ l.length ∧ r = putL l n x ∧ ∀ v ∈ x, vOne v = true
  | 0, l, x, r, h => by
    obtain ⟨h1, h2⟩ := lover_eq x l r h
    exact ⟨by omega, h2⟩
  | n + 1, [], x, r, h => by cases h
  | n + 1, u :: t, x, r, h => by
    have h : ob ((lputs n).run t x) (fun r => some (u :: r)) = some r := h
    obtain ⟨a, h1, h2⟩ := ob_eq h
    cases h2
    obtain ⟨h3, h4, h5⟩ := lputs_eq n t x a h1
    exact ⟨by simp only [List.length_cons]; omega, by rw [putL_cons, h4], h5⟩
theorem vcells_eq (v : Value) : vcells v = v.cells.toList := by cases v <;> rfl
theorem kinfo_eq {P : Program} {t : TypeId} {i : TypeInfo} (h : kinfo P t = some i) : P.info? t = some i ∧ t < P.types.size := by
  unfold kinfo at h
  rw [lget_eq, Array.getElem?_toList] at h
  obtain ⟨ht, _⟩ := Array.getElem?_eq_some_iff.1 h
  exact ⟨by simp only [Tables.info?, if_pos ht]; exact h, ht⟩
theorem kund_eq {P : Program} {t : TypeId} {d : TypeDesc} (h : kund P t = some d) : P.underlying t = some d := by
  unfold kund at h
  obtain ⟨i, h1, h2⟩ := ob_eq h
  unfold Program.underlying
  rw [(kinfo_eq h1).1]
  obtain ⟨desc, s1, s2, s3, s4, s5, s6, s7, s8, s9⟩ := i
  cases desc <;> first | exact h2 | skip
  simp only at h2 ⊢
  obtain ⟨j, h3, h4⟩ := ob_eq h2
  rw [(kinfo_eq h3).1]
  exact h4
theorem tyInt_eq {P : Program} {t : TypeId} {k : IntKind} (h : tyInt (kund P t) = some k) : P.underlying t = some (.int k) := by
  unfold tyInt at h
  split at h
  · rename_i k' e
    cases h
    exact kund_eq e
  · cases h
/- The trees. -/
theorem tget_tset : ∀ (f : Nat) (t : TT) (n : Nat) (x : Value) (m : Nat), n + 1 < 2 ^ f → (tget f m).run ((tset f n).run t x) = if m = n then x else (tget f m).run t := by
  intro f
  induction f with
  | zero => intro t n x m h; simp at h
  | succ f ih =>
    intro t n x m h
    have h2 : 2 ^ (f + 1) = 2 * 2 ^ f := by rw [Nat.pow_succ, Nat.mul_comm]
    rw [h2] at h
    have und : ∀ k, (tget f k).run .leaf = undef := fun k => by
      cases f with
      | zero => rfl
      | succ f =>
        show (ci (Nat.beq k 0) _ (ci (Nat.beq (Nat.mod k 2) 1) _ _) : Clo (TT → Value)).run .leaf = undef
        cases Nat.beq k 0 <;> cases Nat.beq (Nat.mod k 2) 1 <;> rfl
    show (ci (Nat.beq m 0) _ (ci (Nat.beq (Nat.mod m 2) 1) _ _) : Clo (TT → Value)).run ((ci (Nat.beq n 0) _ (ci (Nat.beq (Nat.mod n 2) 1) _ _) : Clo (TT → Value → TT)).run t x) = if m = n then x else (ci (Nat.beq m 0) _ (ci (Nat.beq (Nat.mod m 2) 1) _ _) : Clo (TT → Value)).run t
    by_cases hn : n = 0
    · subst hn
      rw [show Nat.beq 0 0 = true from rfl, ci_true]
      by_cases hm : m = 0
      · subst hm
        simp only [show Nat.beq 0 0 = true from rfl, ci_true, if_true]
        cases t <;> rfl
      · rw [beq_false hm, ci_false, if_neg hm]
        cases t <;> cases Nat.beq (Nat.mod m 2) 1 <;> first | rfl | exact und _
    · rw [beq_false hn, ci_false]
      by_cases h1 : n % 2 = 1
      · have hk : n / 2 + 1 < 2 ^ f := by omega
        rw [show Nat.beq (Nat.mod n 2) 1 = true from by show Nat.beq (n % 2) 1 = true; rw [h1]; rfl, ci_true]
        by_cases hm : m = 0
        · subst hm
          simp only [show Nat.beq 0 0 = true from rfl, ci_true, if_neg (Ne.symm hn)]
          cases t <;> rfl
        · rw [beq_false hm, ci_false]
          by_cases hm1 : m % 2 = 1
          · rw [show Nat.beq (Nat.mod m 2) 1 = true from by show Nat.beq (m % 2) 1 = true; rw [hm1]; rfl, ci_true]
            have e : m / 2 = n / 2 ↔ m = n := by omega
            cases t with
            | leaf =>
              show (tget f (Nat.div m 2)).run ((tset f (Nat.div n 2)).run .leaf x) = if m = n then x else undef
              rw [ih _ (Nat.div n 2) _ (Nat.div m 2) hk, und]
              simp only [show (Nat.div m 2 = Nat.div n 2) ↔ m = n from e]
            | node l v r =>
              show (tget f (Nat.div m 2)).run ((tset f (Nat.div n 2)).run l x) = if m = n then x else (tget f (Nat.div m 2)).run l
              rw [ih _ (Nat.div n 2) _ (Nat.div m 2) hk]
              simp only [show (Nat.div m 2 = Nat.div n 2) ↔ m = n from e]
          · rw [show Nat.beq (Nat.mod m 2) 1 = false from beq_false hm1, ci_false]
            have : m ≠ n := by omega
            rw [if_neg this]
            cases t <;> first | rfl | exact und _
      · have hk : n / 2 - 1 + 1 < 2 ^ f := by omega
        rw [show Nat.beq (Nat.mod n 2) 1 = false from beq_false h1, ci_false]
        by_cases hm : m = 0
        · subst hm
          simp only [show Nat.beq 0 0 = true from rfl, ci_true, if_neg (Ne.symm hn)]
          cases t <;> rfl
        · rw [beq_false hm, ci_false]
          by_cases hm1 : m % 2 = 1
          · rw [show Nat.beq (Nat.mod m 2) 1 = true from by show Nat.beq (m % 2) 1 = true; rw [hm1]; rfl, ci_true]
            have : m ≠ n := by omega
            rw [if_neg this]
            cases t <;> first | rfl | exact und _
          · rw [show Nat.beq (Nat.mod m 2) 1 = false from beq_false hm1, ci_false]
            have e : m / 2 - 1 = n / 2 - 1 ↔ m = n := by omega
            cases t with
            | leaf =>
              show (tget f (Nat.sub (Nat.div m 2) 1)).run ((tset f (Nat.sub (Nat.div n 2) 1)).run .leaf x) = if m = n then x else undef
              rw [ih _ (Nat.sub (Nat.div n 2) 1) _ (Nat.sub (Nat.div m 2) 1) hk, und]
              simp only [show (Nat.sub (Nat.div m 2) 1 = Nat.sub (Nat.div n 2) 1) ↔ m = n from e]
            | node l v r =>
              show (tget f (Nat.sub (Nat.div m 2) 1)).run ((tset f (Nat.sub (Nat.div n 2) 1)).run r x) = if m = n then x else (tget f (Nat.sub (Nat.div m 2) 1)).run r
              rw [ih _ (Nat.sub (Nat.div n 2) 1) _ (Nat.sub (Nat.div m 2) 1) hk]
              simp only [show (Nat.sub (Nat.div m 2) 1 = Nat.sub (Nat.div n 2) 1) ↔ m = n from e]
theorem mget_eq : ∀ (f n : Nat) (t : Tr) (x : Obj × Bool), (mget f n).run t = some x → t.get n = some x := by
  intro f
  induction f with
  | zero => intro n t x h; cases h
  | succ f ih =>
    intro n t x h
    replace h : (ci (Nat.beq n 0) _ (ci (Nat.beq (Nat.mod n 2) 1) _ _) : Clo (Tr → Option (Obj × Bool))).run t = some x := h
    cases t with
    | leaf => cases h0 : Nat.beq n 0 <;> rw [h0] at h <;> cases h1 : Nat.beq (Nat.mod n 2) 1 <;> rw [h1] at h <;> cases h
    | node l o r =>
      have h1' : Nat.beq (Nat.mod n 2) 1 = Nat.beq (n % 2) 1 := rfl
      simp only [Tr.get]
      cases h0 : Nat.beq n 0 with
      | true => rw [h0] at h; exact h
      | false =>
        rw [h0, ci_false, h1'] at h
        cases h1 : Nat.beq (n % 2) 1 with
        | true => rw [h1] at h; exact ih _ _ _ h
        | false => rw [h1] at h; exact ih _ _ _ h
theorem mset_eq : ∀ (f n : Nat) (t : Tr) (x : Option (Obj × Bool)), (mset f n).run t x = Tr.set f t n x := by
  intro f
  induction f with
  | zero => intro n t x; rfl
  | succ f ih =>
    intro n t x
    show (ci (Nat.beq n 0) _ (ci (Nat.beq (Nat.mod n 2) 1) _ _) : Clo (Tr → Option (Obj × Bool) → Tr)).run t x = _
    have h1' : Nat.beq (Nat.mod n 2) 1 = Nat.beq (n % 2) 1 := rfl
    rw [h1']
    cases t with
    | leaf =>
      simp only [Tr.set]
      cases h0 : Nat.beq n 0 with
      | true => rfl
      | false =>
        cases h1 : Nat.beq (n % 2) 1 with
        | true => simp only [ci_true, ci_false, cond_true, cond_false]; rw [← ih]; rfl
        | false => simp only [ci_true, ci_false, cond_true, cond_false]; rw [← ih]; rfl
    | node l o r =>
      simp only [Tr.set]
      cases h0 : Nat.beq n 0 with
      | true => rfl
      | false =>
        cases h1 : Nat.beq (n % 2) 1 with
        | true => simp only [ci_true, ci_false, cond_true, cond_false]; rw [← ih]; rfl
        | false => simp only [ci_true, ci_false, cond_true, cond_false]; rw [← ih]; rfl
theorem kAH_eq {α : Type} (h : AH) (f : Tr → Nat → Nat → α) : kAH h f = f h.t h.base h.next := by
  obtain ⟨t, b, n⟩ := h
  cases b <;> rfl
theorem kpush_eq (h : AH) (o : Obj) (op : Bool) : kpush h o op = h.push o op := by
  unfold kpush
  rw [kAH_eq, mset_eq]
  rfl
theorem krow_eq {h : AH} {a : Addr} {r : Row} (e : krow h a = some r) : h.get a.block = some (.cells ⟨r.c⟩ r.t (r.lo, r.hi), r.op) := by
  unfold krow at e
  obtain ⟨x, h1, h2⟩ := ob_eq e
  rw [AH.get, mget_eq _ _ _ _ h1]
  obtain ⟨o, op⟩ := x
  unfold oRow at h2
  split at h2
  · rename_i c t lo hi op' e'
    cases e'
    cases h2
    rfl
  · cases h2
theorem kcell_eq {h : AH} {a : Addr} {v : Value} (e : kcell h a = some v) : h.cell? a = some v := by
  unfold kcell at e
  obtain ⟨r, h1, h2⟩ := ob_eq e
  obtain ⟨h3, h4⟩ := oN_eq h2
  rw [lget_eq] at h4
  simp only [AH.cell?, krow_eq h1, h3, Option.isSome_none, Bool.false_eq_true, if_false]
  simpa using h4
theorem add_none {a : Addr} (h : a.spot = none) (n : Nat) : a.add n = ⟨a.block, a.off + n, none⟩ := by
  obtain ⟨b, o, s⟩ := a
  cases h
  unfold Addr.add
  split
  · rename_i e
    subst e
    rfl
  · rfl
theorem kcells_eq {h : AH} {n : Nat} {a : Addr} {l : List Value} (e : kcells h n a = some l) : a.spot = none ∧ l.length = n ∧ ∀ (j : Nat) (v : Value), l[j]? = some v → h.cell? (a.add j) = some v := by
  unfold kcells at e
  obtain ⟨r, h1, h2⟩ := ob_eq e
  obtain ⟨h3, h4⟩ := oN_eq h2
  rw [ldrop_eq] at h4
  obtain ⟨h5, h6⟩ := ltake_eq _ _ _ h4
  refine ⟨h3, by rw [h6]; simp at h5 ⊢; omega, fun j v hj => ?_⟩
  rw [add_none h3]
  rw [h6, List.getElem?_take] at hj
  split at hj
  · rw [List.getElem?_drop] at hj
    simp only [AH.cell?, krow_eq h1, Option.isSome_none, Bool.false_eq_true, if_false]
    simpa using hj
  · cases hj
end Go.Ab
