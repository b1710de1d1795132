/- Texts of clocks as plain data: written, read, and where they are refused. No program in sight. -/
import Derived.Lib.ItoaLen
import Derived.Lib.Join
import Derived.Test.YtaaibekhoondcaaDoorClk
namespace Go
set_option linter.unusedSimpArgs false
set_option linter.unusedVariables false

theorem C8.get_set_eq (a : C8) (k j : Nat) (v : Int) (hk : k < 8) (hj : j < 8) : (a.set k v).get j = if j = k then v else a.get j := by
  match k, hk with
  | 0, _ | 1, _ | 2, _ | 3, _ | 4, _ | 5, _ | 6, _ | 7, _ =>
    match j, hj with
    | 0, _ | 1, _ | 2, _ | 3, _ | 4, _ | 5, _ | 6, _ | 7, _ => rfl
theorem C8.ext_get {a b : C8} (h : ∀ j, j < 8 → a.get j = b.get j) : a = b := by
  obtain ⟨⟩ := a; obtain ⟨⟩ := b
  have h0 := h 0 (by decide); have h1 := h 1 (by decide); have h2 := h 2 (by decide); have h3 := h 3 (by decide)
  have h4 := h 4 (by decide); have h5 := h 5 (by decide); have h6 := h 6 (by decide); have h7 := h 7 (by decide)
  simp only [C8.get] at *
  simp_all
/-- The first k entries, then zeros. -/
def C8.cut (a : C8) (k : Nat) : C8 := ⟨if 0 < k then a.x0 else 0, if 1 < k then a.x1 else 0, if 2 < k then a.x2 else 0, if 3 < k then a.x3 else 0, if 4 < k then a.x4 else 0, if 5 < k then a.x5 else 0, if 6 < k then a.x6 else 0, if 7 < k then a.x7 else 0⟩
theorem C8.cut_get (a : C8) (k j : Nat) (hj : j < 8) : (a.cut k).get j = if j < k then a.get j else 0 := by
  match j, hj with
  | 0, _ | 1, _ | 2, _ | 3, _ | 4, _ | 5, _ | 6, _ | 7, _ => rfl
theorem C8.cut_set (a : C8) (k : Nat) (hk : k < 8) : (a.cut k).set k (a.get k) = a.cut (k + 1) :=
  C8.ext_get fun j hj => by
    rw [C8.get_set_eq _ _ _ _ hk hj, C8.cut_get _ _ _ hj, C8.cut_get _ _ _ hj]
    by_cases h : j = k
    · subst h; simp
    · by_cases h2 : j < k
      · rw [if_neg h, if_pos h2, if_pos (by omega)]
      · rw [if_neg h, if_neg h2, if_neg (by omega)]
theorem C8.cut_zero (a : C8) : a.cut 0 = ⟨0, 0, 0, 0, 0, 0, 0, 0⟩ := rfl
theorem C8.set_set (a : C8) (k : Nat) (u v : Int) (hk : k < 8) : (a.set k u).set k v = a.set k v :=
  C8.ext_get fun j hj => by
    rw [C8.get_set_eq _ _ _ _ hk hj, C8.get_set_eq _ _ _ _ hk hj, C8.get_set_eq _ _ _ _ hk hj]
    split <;> rfl

theorem Lib.join_snoc (xs : List (List UInt8)) (y sep : List UInt8) (h : xs ≠ []) : Lib.join (xs ++ [y]) sep = Lib.join xs sep ++ (sep ++ y) := by
  cases xs with
  | nil => exact absurd rfl h
  | cons x r => rw [List.cons_append, Lib.join_cons, Lib.join_cons]; simp [Lib.joinTail, List.append_assoc]

/-- The entries below k, a dot behind each. -/
def C8.ent (a : C8) : Nat → List UInt8
  | 0 => []
  | k + 1 => C8.ent a k ++ (Lib.itoa (a.get k) ++ [46])
def C8.textL (a : C8) : Nat → List UInt8
  | 0 => []
  | k + 1 => C8.ent a k ++ Lib.itoa (a.get k)
theorem C8.textL_succ (a : C8) (k : Nat) : C8.textL a (k + 2) = C8.textL a (k + 1) ++ ([46] ++ Lib.itoa (a.get (k + 1))) := by
  simp [C8.textL, C8.ent, List.append_assoc]
theorem C8.textL_join (a : C8) : ∀ n, Lib.join ((List.range n).map fun i => Lib.itoa (a.get i)) [46] = C8.textL a n
  | 0 => rfl
  | 1 => by simp [C8.textL, C8.ent, Lib.join_one]
  | k + 2 => by
    rw [List.range_succ, List.map_append, List.map_singleton, Lib.join_snoc _ _ _ (by simp), C8.textL_join a (k + 1), C8.textL_succ]
theorem C8.ent_congr {a b : C8} : ∀ k, (∀ j, j < k → a.get j = b.get j) → C8.ent a k = C8.ent b k
  | 0, _ => rfl
  | k + 1, h => by rw [C8.ent, C8.ent, C8.ent_congr k (fun j hj => h j (by omega)), h k (by omega)]
theorem C8.textL_at (a : C8) (k : Nat) : ∀ n, k < n → ∃ rest, C8.textL a n = C8.ent a k ++ (Lib.itoa (a.get k) ++ rest)
  | 0, h => absurd h (by omega)
  | n + 1, h => by
    by_cases hk : k = n
    · subst hk; exact ⟨[], by simp [C8.textL]⟩
    · obtain ⟨r, hr⟩ := C8.textL_at a k n (by omega)
      cases n with
      | zero => omega
      | succ m => exact ⟨r ++ ([46] ++ Lib.itoa (a.get (m + 1))), by rw [C8.textL_succ, hr]; simp [List.append_assoc]⟩

/-- Reading: the clock so far, which entry it is at, how many digits that has. -/
structure PS where
  a : C8
  n : Nat
  d : Nat
namespace PS
def start : PS := ⟨⟨0, 0, 0, 0, 0, 0, 0, 0⟩, 0, 0⟩
def dot (p : PS) (b : Nat) : Bool := b == 46 && decide (0 < p.d) && decide (p.n + 1 < 8)
def bad (p : PS) (b : Nat) : Bool := decide (b < 48) || decide (57 < b) || (decide (0 < p.d) && p.a.get p.n == 0) || decide ((9223372036854775807 - ((b : Int) - 48)) / 10 < p.a.get p.n)
def step (p : PS) (b : Nat) : Option PS :=
  if p.dot b then some ⟨p.a, p.n + 1, 0⟩
  else if p.bad b then none
  else some ⟨p.a.set p.n (10 * p.a.get p.n + ((b : Int) - 48)), p.n, p.d + 1⟩
/-- What is read of a text: the end, or at which byte it is refused. -/
def run : PS → List UInt8 → Nat → PS ⊕ Nat
  | p, [], i => if p.d = 0 then .inr i else .inl p
  | p, b :: l, i => match p.step b.toNat with
    | none => .inr i
    | some q => run q l (i + 1)

/-- p is reached by l. -/
structure Good (p : PS) (l : List UInt8) : Prop where
  n8 : p.n < 8
  lo : ∀ j, j < 8 → 0 ≤ p.a.get j ∧ p.a.get j ≤ 9223372036854775807
  hi : ∀ j, p.n < j → j < 8 → p.a.get j = 0
  d0 : p.d = 0 → p.a.get p.n = 0
  dl : p.d ≤ l.length
  is : l = C8.ent p.a p.n ++ (if p.d = 0 then [] else Lib.itoa (p.a.get p.n))

theorem good_start : Good start [] :=
  ⟨by decide, fun j hj => by
    match j, hj with
    | 0, _ | 1, _ | 2, _ | 3, _ | 4, _ | 5, _ | 6, _ | 7, _ => decide, fun j _ hj => by
    match j, hj with
    | 0, _ | 1, _ | 2, _ | 3, _ | 4, _ | 5, _ | 6, _ | 7, _ => rfl, fun _ => rfl, Nat.le_refl _, rfl⟩

theorem byte_digit (b : UInt8) (h : 48 ≤ b.toNat) : b = UInt8.ofNat (48 + (b.toNat - 48)) := by
  rw [show 48 + (b.toNat - 48) = b.toNat by omega]; simp
theorem itoa_digit (v : Nat) (d : Nat) (hv : v ≠ 0) (hd : d < 10) : Lib.itoa (10 * (v : Int) + d) = Lib.itoa v ++ [UInt8.ofNat (48 + d)] := by
  have e : (10 * (v : Int) + d) = ((10 * v + d : Nat) : Int) := by omega
  rw [e, Lib.itoa, if_neg (by omega), Int.toNat_natCast, Lib.decDigits, dif_neg (by omega), show (10 * v + d) / 10 = v by omega, show (10 * v + d) % 10 = d by omega, Lib.itoa, if_neg (by omega), Int.toNat_natCast]
theorem itoa_one (d : Nat) (hd : d < 10) : Lib.itoa (d : Int) = [UInt8.ofNat (48 + d)] := by
  rw [Lib.itoa, if_neg (by omega), Int.toNat_natCast, Lib.decDigits_one hd]

theorem good_step {p q : PS} {l : List UInt8} {b : UInt8} (h : Good p l) (hs : p.step b.toNat = some q) : Good q (l ++ [b]) := by
  unfold step at hs
  split at hs
  · rename_i hd
    cases hs
    simp only [dot, Bool.and_eq_true, beq_iff_eq, decide_eq_true_eq] at hd
    obtain ⟨⟨h1, h2⟩, h3⟩ := hd
    refine ⟨h3, h.lo, fun j hj h8 => h.hi j (by simp only at hj; omega) h8, fun _ => h.hi _ (by simp) h3, by simp, ?_⟩
    have hb : b = 46 := by apply UInt8.toNat_inj.1; rw [h1]; rfl
    have := h.is
    rw [if_neg (by omega)] at this
    rw [this, hb]
    simp [C8.ent, List.append_assoc]
  · split at hs
    · cases hs
    · rename_i _ hb
      cases hs
      simp only [bad, Bool.or_eq_true, Bool.and_eq_true, beq_iff_eq, decide_eq_true_eq, not_or, not_and, Nat.not_lt, Int.not_lt] at hb
      obtain ⟨⟨⟨h1, h2⟩, h3⟩, h4⟩ := hb
      have g8 := h.n8
      have hlo := h.lo p.n g8
      obtain ⟨d, hd⟩ : ∃ d : Nat, b.toNat = 48 + d := ⟨b.toNat - 48, by omega⟩
      have hd9 : d < 10 := by omega
      have hbd : b = UInt8.ofNat (48 + d) := by rw [← hd]; simp
      obtain ⟨v, hv⟩ := Int.eq_ofNat_of_zero_le hlo.1
      rw [hd] at h4
      refine ⟨g8, fun j hj => ?_, fun j hj h8 => ?_, fun e => by simp at e, by simp; exact h.dl, ?_⟩
      · simp only
        rw [C8.get_set_eq _ _ _ _ g8 hj]
        split
        · rw [hd]; omega
        · exact h.lo j hj
      · simp only at hj ⊢
        rw [C8.get_set_eq _ _ _ _ g8 h8, if_neg (by omega)]; exact h.hi j hj h8
      · simp only
        rw [if_neg (by omega), C8.get_set_eq _ _ _ _ g8 g8, if_pos rfl, C8.ent_congr (b := p.a) p.n (fun j hj => by rw [C8.get_set_eq _ _ _ _ g8 (by omega), if_neg (by omega)])]
        have his := h.is
        by_cases h0 : p.d = 0
        · rw [if_pos h0, List.append_nil] at his
          rw [his, h.d0 h0, hd, hbd, show (10 * 0 + (((48 + d : Nat) : Int) - 48)) = (d : Int) by omega, itoa_one d hd9]
        · rw [if_neg h0] at his
          have hv0 : v ≠ 0 := fun e => h3 (by omega) (by rw [hv, e]; rfl)
          rw [hd, hv, show (10 * (v : Int) + (((48 + d : Nat) : Int) - 48)) = 10 * (v : Int) + d by omega, itoa_digit v d hv0 hd9, his, hbd, hv]
          simp [List.append_assoc]

theorem good_run : ∀ (l : List UInt8) (p q : PS) (m : List UInt8) (i : Nat), Good p m → run p l i = .inl q → Good q (m ++ l) ∧ q.d ≠ 0
  | [], p, q, m, i, h, hr => by
    unfold run at hr
    split at hr
    · cases hr
    · rename_i h0; cases hr; rw [List.append_nil]; exact ⟨h, h0⟩
  | b :: l, p, q, m, i, h, hr => by
    unfold run at hr
    split at hr
    · cases hr
    · rename_i r hs
      have := good_run l r q (m ++ [b]) (i + 1) (good_step h hs) hr
      rwa [List.append_assoc, List.singleton_append] at this
/-- What is read is written so again. -/
theorem run_text {l : List UInt8} {q : PS} (h : run start l 0 = .inl q) : q.n < 8 ∧ C8.textL q.a (q.n + 1) = l := by
  obtain ⟨hg, h0⟩ := good_run l start q [] 0 good_start h
  refine ⟨hg.n8, ?_⟩
  have := hg.is
  rw [if_neg h0, List.nil_append] at this
  rw [C8.textL, this]
theorem run_fits {l : List UInt8} {q : PS} (h : run start l 0 = .inl q) : q.a.Fits := by
  obtain ⟨hg, h0⟩ := good_run l start q [] 0 good_start h
  intro j hj
  have := hg.lo j hj
  omega

theorem step_digit (p : PS) (d : Nat) (hd : d < 10) (h1 : p.d = 0 ∨ p.a.get p.n ≠ 0) (h2 : 10 * p.a.get p.n + d ≤ 9223372036854775807) : p.step (UInt8.ofNat (48 + d)).toNat = some ⟨p.a.set p.n (10 * p.a.get p.n + d), p.n, p.d + 1⟩ := by
  have e : (UInt8.ofNat (48 + d)).toNat = 48 + d := by
    rw [UInt8.toNat_ofNat']; omega
  rw [e]
  unfold step
  rw [if_neg (by simp [dot]; omega), if_neg (by
    simp only [bad, Bool.or_eq_true, Bool.and_eq_true, beq_iff_eq, decide_eq_true_eq, not_or, not_and, Nat.not_lt, Int.not_lt]
    refine ⟨⟨⟨by omega, by omega⟩, fun h => ?_⟩, by omega⟩
    rcases h1 with h1 | h1
    · omega
    · exact h1)]
  rw [show (10 * p.a.get p.n + (((48 + d : Nat) : Int) - 48)) = 10 * p.a.get p.n + d by omega]
theorem run_digits (p : PS) (h8 : p.n < 8) (h0 : p.d = 0) (hz : p.a.get p.n = 0) (u : Nat) (hu : u ≤ 9223372036854775807) :
    ∀ (rest : List UInt8) (i : Nat), run p (Lib.decDigits u ++ rest) i = run ⟨p.a.set p.n u, p.n, (Lib.decDigits u).length⟩ rest (i + (Lib.decDigits u).length) := by
  induction u using Nat.strongRecOn with
  | _ u ih =>
    intro rest i
    by_cases h : u < 10
    · rw [Lib.decDigits_one h]
      simp only [List.singleton_append, List.length_singleton]
      rw [run, step_digit p u h (.inl h0) (by rw [hz]; omega)]
      simp only [hz, h0]
      rw [show (10 * 0 + (u : Int)) = u by omega]
    · rw [Lib.decDigits, dif_neg h, List.append_assoc, ih (u / 10) (by omega) (by omega), List.singleton_append, run,
        step_digit ⟨p.a.set p.n ((u / 10 : Nat) : Int), p.n, (Lib.decDigits (u / 10)).length⟩ (u % 10) (by omega) (.inr (by simp only; rw [C8.get_set_eq _ _ _ _ h8 h8, if_pos rfl]; omega)) (by simp only; rw [C8.get_set_eq _ _ _ _ h8 h8, if_pos rfl]; omega)]
      simp only
      rw [C8.get_set_eq _ _ _ _ h8 h8, if_pos rfl, C8.set_set _ _ _ _ h8, show (10 * ((u / 10 : Nat) : Int) + ((u % 10 : Nat) : Int)) = (u : Int) by omega, List.length_append, List.length_singleton, Nat.add_assoc]
theorem itoa_pos (v : Int) (h : 0 ≤ v) : Lib.itoa v = Lib.decDigits v.toNat := by rw [Lib.itoa, if_neg (by omega)]
theorem run_itoa (p : PS) (h8 : p.n < 8) (h0 : p.d = 0) (hz : p.a.get p.n = 0) (v : Int) (hv : 0 ≤ v) (hm : v ≤ 9223372036854775807) (rest : List UInt8) (i : Nat) :
    ∃ d, 0 < d ∧ run p (Lib.itoa v ++ rest) i = run ⟨p.a.set p.n v, p.n, d⟩ rest (i + (Lib.itoa v).length) := by
  rw [itoa_pos v hv, run_digits p h8 h0 hz v.toNat (by omega) rest i, Int.toNat_of_nonneg hv]
  exact ⟨_, by rw [Lib.decDigits_length]; exact Lib.nDigits_pos _, rfl⟩
theorem run_ent (a : C8) (hm : ∀ j, j < 8 → a.get j ≤ 9223372036854775807) : ∀ (k : Nat), k ≤ 7 → (∀ j, j < k → 0 ≤ a.get j) → ∀ (rest : List UInt8) (i : Nat), run start (C8.ent a k ++ rest) i = run ⟨a.cut k, k, 0⟩ rest (i + (C8.ent a k).length)
  | 0, _, _, rest, i => by simp [C8.ent, C8.cut_zero, start]
  | k + 1, hk, hp, rest, i => by
    rw [C8.ent, List.append_assoc, run_ent a hm k (by omega) (fun j hj => hp j (by omega)), List.append_assoc]
    obtain ⟨d, hd, hr⟩ := run_itoa ⟨a.cut k, k, 0⟩ (by simp only; omega) rfl (by simp only; rw [C8.cut_get _ _ _ (by omega), if_neg (by omega)]) (a.get k) (hp k (by omega)) (hm k (by omega)) ([46] ++ rest) (i + (C8.ent a k).length)
    rw [hr]
    simp only
    rw [C8.cut_set _ _ (by omega), List.singleton_append, run]
    have hst : PS.step ⟨a.cut (k + 1), k, d⟩ (46 : UInt8).toNat = some ⟨a.cut (k + 1), k + 1, 0⟩ := by
      unfold step
      rw [if_pos (by simp [dot]; omega)]
    rw [hst]
    simp only [List.length_append, List.length_singleton]
    congr 1; omega
/-- Is a clock's text one that is read again? -/
def _root_.Go.C8.fitB (a : C8) (n : Nat) : Bool := decide (1 ≤ n) && (List.range n).all fun i => decide (0 ≤ a.get i)
theorem text_run (a : C8) (hf : a.Fits) (n : Nat) (hn : n ≤ 8) (h : a.fitB n = true) : ∃ q, run start (C8.textL a n) 0 = .inl q ∧ q.a = a.cut n ∧ q.n + 1 = n := by
  simp only [C8.fitB, Bool.and_eq_true, decide_eq_true_eq, List.all_eq_true, List.mem_range] at h
  obtain ⟨h1, h2⟩ := h
  obtain ⟨k, rfl⟩ : ∃ k, n = k + 1 := ⟨n - 1, by omega⟩
  rw [C8.textL, run_ent a (fun j hj => (hf j hj).2) k (by omega) (fun j hj => h2 j (by omega))]
  obtain ⟨d, hd, hr⟩ := run_itoa ⟨a.cut k, k, 0⟩ (by simp only; omega) rfl (by simp only; rw [C8.cut_get _ _ _ (by omega), if_neg (by omega)]) (a.get k) (h2 k (by omega)) (hf k (by omega)).2 [] (0 + (C8.ent a k).length)
  rw [List.append_nil] at hr
  rw [hr, run]
  simp only
  rw [C8.cut_set _ _ (by omega), if_neg (by omega)]
  exact ⟨_, rfl, rfl, rfl⟩
theorem least_neg (a : C8) : ∀ n, (∃ k, k < n ∧ a.get k < 0) → ∃ k, k < n ∧ a.get k < 0 ∧ ∀ j, j < k → 0 ≤ a.get j
  | 0, ⟨k, hk, _⟩ => absurd hk (by omega)
  | n + 1, h => by
    by_cases h' : ∃ k, k < n ∧ a.get k < 0
    · obtain ⟨k, h1, h2⟩ := least_neg a n h'
      exact ⟨k, by omega, h2⟩
    · obtain ⟨k, hk, hl⟩ := h
      refine ⟨k, hk, hl, fun j hj => ?_⟩
      by_cases h0 : 0 ≤ a.get j
      · exact h0
      · exact absurd ⟨j, by omega, by omega⟩ h'
theorem text_norun (a : C8) (hf : a.Fits) (n : Nat) (hn : n ≤ 8) (h : a.fitB n = false) : ∃ i, run start (C8.textL a n) 0 = .inr i := by
  by_cases h0 : n = 0
  · subst h0; exact ⟨0, rfl⟩
  · have hex : ∃ k, k < n ∧ a.get k < 0 := by
      have h' : ¬ (1 ≤ n ∧ ∀ i, i < n → 0 ≤ a.get i) := by
        intro hh
        have : a.fitB n = true := by
          simp only [C8.fitB, Bool.and_eq_true, decide_eq_true_eq, List.all_eq_true, List.mem_range]
          exact hh
        rw [h] at this; cases this
      by_cases hk : ∃ k, k < n ∧ a.get k < 0
      · exact hk
      · exact absurd ⟨by omega, fun i hi => by
          by_cases hi0 : 0 ≤ a.get i
          · exact hi0
          · exact absurd ⟨i, hi, by omega⟩ hk⟩ h'
    obtain ⟨k, hk, hneg, hlow⟩ := least_neg a n hex
    obtain ⟨rest, hr⟩ := C8.textL_at a k n hk
    rw [hr, run_ent a (fun j hj => (hf j hj).2) k (by omega) hlow, Lib.itoa, if_pos hneg, List.cons_append, run]
    have hst : PS.step ⟨a.cut k, k, 0⟩ (45 : UInt8).toNat = none := by
      unfold step
      rw [if_neg (by simp [dot]), if_pos (by simp [bad])]
    rw [hst]
    exact ⟨_, rfl⟩
end PS
end Go
namespace Go.PS
theorem run_dot {a : C8} {n d : Nat} {b : UInt8} {l : List UInt8} {i : Nat} (h1 : b.toNat = 46) (h2 : 0 < d) (h3 : n + 1 < 8) : run ⟨a, n, d⟩ (b :: l) i = run ⟨a, n + 1, 0⟩ l (i + 1) := by
  rw [run]
  have : step ⟨a, n, d⟩ b.toNat = some ⟨a, n + 1, 0⟩ := by
    unfold step
    rw [if_pos (by simp [dot, h1, h2, h3])]
  rw [this]
theorem run_other {a : C8} {n d : Nat} {b : UInt8} {l : List UInt8} {i : Nat} (h1 : b.toNat < 48 ∨ 57 < b.toNat) (h2 : ¬ (b.toNat = 46 ∧ 0 < d ∧ n + 1 < 8)) : run ⟨a, n, d⟩ (b :: l) i = .inr i := by
  rw [run]
  have : step ⟨a, n, d⟩ b.toNat = none := by
    unfold step
    rw [if_neg (by simp only [dot, Bool.and_eq_true, beq_iff_eq, decide_eq_true_eq]; omega), if_pos (by simp only [bad, Bool.or_eq_true, Bool.and_eq_true, beq_iff_eq, decide_eq_true_eq]; omega)]
  rw [this]
theorem run_over {a : C8} {n d e : Nat} {b : UInt8} {l : List UInt8} {i : Nat} (h1 : b.toNat = 48 + e) (he : e < 10) (h2 : (0 < d ∧ a.get n = 0) ∨ (9223372036854775807 - (e : Int)) / 10 < a.get n) : run ⟨a, n, d⟩ (b :: l) i = .inr i := by
  rw [run]
  have : step ⟨a, n, d⟩ b.toNat = none := by
    unfold step
    rw [if_neg (by simp only [dot, Bool.and_eq_true, beq_iff_eq, decide_eq_true_eq]; omega), if_pos (by
      simp only [bad, Bool.or_eq_true, Bool.and_eq_true, beq_iff_eq, decide_eq_true_eq]
      rw [h1, show (((48 + e : Nat) : Int) - 48) = e by omega]
      rcases h2 with h2 | h2
      · exact .inl (.inr h2)
      · exact .inr h2)]
  rw [this]
theorem run_digit {a : C8} {n d e : Nat} {b : UInt8} {l : List UInt8} {i : Nat} (h1 : b.toNat = 48 + e) (he : e < 10) (h2 : d = 0 ∨ a.get n ≠ 0) (h3 : a.get n ≤ (9223372036854775807 - (e : Int)) / 10) : run ⟨a, n, d⟩ (b :: l) i = run ⟨a.set n (10 * a.get n + e), n, d + 1⟩ l (i + 1) := by
  rw [run]
  have : step ⟨a, n, d⟩ b.toNat = some ⟨a.set n (10 * a.get n + e), n, d + 1⟩ := by
    unfold step
    rw [if_neg (by simp only [dot, Bool.and_eq_true, beq_iff_eq, decide_eq_true_eq]; omega), if_neg (by
      simp only [bad, Bool.or_eq_true, Bool.and_eq_true, beq_iff_eq, decide_eq_true_eq]
      rw [h1, show (((48 + e : Nat) : Int) - 48) = e by omega]
      omega), h1]
    simp only
    rw [show (((48 + e : Nat) : Int) - 48) = e by omega]
  rw [this]
theorem run_end {p : PS} {i : Nat} : run p [] i = if p.d = 0 then .inr i else .inl p := rfl
end Go.PS
