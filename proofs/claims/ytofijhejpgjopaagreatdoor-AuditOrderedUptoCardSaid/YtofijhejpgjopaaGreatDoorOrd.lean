/- Order of lists of elements as plain data: what is shared, the first pair that stands otherwise. No program in sight. -/
import Derived.Test.YtofijhejpgjopaaGreatDoorIdm
namespace Go
/-- Where an ID stands first. -/
def pf (l : List ElD) (x : IdD) : Option Int := (l.findIdx? (fun e => decide (e.id = x))).map Int.ofNat
theorem pf_nil (x : IdD) : pf [] x = none := rfl
theorem pf_app (l r : List ElD) (x : IdD) : pf (l ++ r) x = (pf l x).or ((pf r x).map (· + (l.length : Int))) := by
  unfold pf
  rw [List.findIdx?_append]
  cases h : l.findIdx? (fun e => decide (e.id = x)) <;> cases h2 : r.findIdx? (fun e => decide (e.id = x)) <;> simp
theorem pf_one (e : ElD) (x : IdD) : pf [e] x = if e.id = x then some 0 else none := by
  unfold pf
  by_cases h : e.id = x <;> simp [h, List.findIdx?_cons]
theorem pf_cons (e : ElD) (l : List ElD) (x : IdD) : pf (e :: l) x = if e.id = x then some 0 else (pf l x).map (· + 1) := by
  rw [show e :: l = [e] ++ l from rfl, pf_app, pf_one]
  by_cases h : e.id = x <;> simp [h]
theorem pf_snoc (l : List ElD) (e : ElD) (x : IdD) : pf (l ++ [e]) x = (pf l x).or (if e.id = x then some (l.length : Int) else none) := by
  rw [pf_app, pf_one]
  by_cases h : e.id = x <;> simp [h]
theorem pf_snoc_old {l : List ElD} {e : ElD} {p : Int} (h : pf l e.id = some p) : pf (l ++ [e]) = pf l := by
  funext x
  rw [pf_snoc]
  by_cases hx : e.id = x
  · subst hx; rw [h]; rfl
  · rw [if_neg hx, Option.or_none]
theorem pf_snoc_new {l : List ElD} {e : ElD} {k : Nat} (h : pf l e.id = none) (hk : l.length = k) : pf (l ++ [e]) = fun y => if y = e.id then some (k : Int) else pf l y := by
  funext x
  rw [pf_snoc]
  by_cases hx : e.id = x
  · subst hx; rw [h, if_pos rfl, if_pos rfl, hk]; rfl
  · rw [if_neg hx, Option.or_none, if_neg (fun h => hx h.symm)]
theorem pf_bound {l : List ElD} {x : IdD} {p : Int} (h : pf l x = some p) : 0 ≤ p ∧ p < l.length := by
  unfold pf at h
  rw [Option.map_eq_some_iff] at h
  obtain ⟨n, h1, rfl⟩ := h
  have := (List.findIdx?_eq_some_iff_getElem.1 h1).1
  exact ⟨by simp, by simpa using this⟩
theorem pf_isSome (l : List ElD) (x : IdD) : (pf l x).isSome = true ↔ ∃ e ∈ l, e.id = x := by
  induction l with
  | nil => simp [pf]
  | cons e l ih =>
    rw [pf_cons]
    by_cases h : e.id = x
    · simp [h]
    · rw [if_neg h, Option.isSome_map, ih]
      simp [h]
theorem pf_none (l : List ElD) (x : IdD) : pf l x = none ↔ ¬ ∃ e ∈ l, e.id = x := by
  rw [← pf_isSome]; cases pf l x <;> simp
theorem pf_at (l : List ElD) (k : Nat) (h : k < l.length) : pf l l[k].id = (pf (l.take k) l[k].id).or (some (k : Int)) := by
  have h0 : ∀ x, pf l x = (pf (l.take k) x).or ((pf (l.drop k) x).map (· + ((l.take k).length : Int))) := fun x => by
    conv => lhs; rw [← List.take_append_drop k l]
    rw [pf_app]
  rw [h0, List.drop_eq_getElem_cons h, pf_cons, if_pos rfl]
  simp [List.length_take, Nat.min_eq_left (Nat.le_of_lt h)]
theorem pf_in {l : List ElD} (k : Nat) (h : k < l.length) : (pf l l[k].id).isSome = true := (pf_isSome _ _).2 ⟨_, List.getElem_mem h, rfl⟩
theorem pf_old {l : List ElD} (k : Nat) (h : k < l.length) {p : Int} (hp : pf (l.take k) l[k].id = some p) : pf l l[k].id = some p ∧ 0 ≤ p ∧ p < k := by
  have := pf_bound hp
  rw [List.length_take] at this
  exact ⟨by rw [pf_at l k h, hp]; rfl, this.1, by omega⟩
theorem pf_new {l : List ElD} (k : Nat) (h : k < l.length) (hp : pf (l.take k) l[k].id = none) : pf l l[k].id = some (k : Int) := by
  rw [pf_at l k h, hp]; rfl
/-- How many IDs there are, of those that have not come yet. -/
def ndG (pre : List ElD) : List ElD → Nat
  | [] => 0
  | e :: l => (if (pf pre e.id).isNone then 1 else 0) + ndG (pre ++ [e]) l
def nd (l : List ElD) : Nat := ndG [] l
theorem ndG_le (l : List ElD) : ∀ pre : List ElD, ndG pre l ≤ l.length := by
  induction l with
  | nil => intro pre; exact Nat.le_refl _
  | cons e l ih =>
    intro pre
    have := ih (pre ++ [e])
    unfold ndG
    simp only [List.length_cons]
    split <;> omega
theorem take_succ_get {α : Type} (l : List α) (k : Nat) (h : k < l.length) : l.take (k + 1) = l.take k ++ [l[k]] := List.take_succ_eq_append_getElem h
theorem ndG_drop (l : List ElD) (k : Nat) (h : k < l.length) : ndG (l.take k) (l.drop k) = (if (pf (l.take k) l[k].id).isNone then 1 else 0) + ndG (l.take (k + 1)) (l.drop (k + 1)) := by
  rw [List.drop_eq_getElem_cons h, take_succ_get l k h, ndG]
/-- What is shared with b, with its place there, of those that have not come yet. -/
def shG (b pre : List ElD) : List ElD → List (IdD × Int)
  | [] => []
  | e :: l => (if (pf pre e.id).isNone then ((pf b e.id).map (fun p => (e.id, p))).toList else []) ++ shG b (pre ++ [e]) l
def sh (a b : List ElD) : List (IdD × Int) := shG b [] a
theorem shG_drop (b l : List ElD) (k : Nat) (h : k < l.length) : shG b (l.take k) (l.drop k) = (if (pf (l.take k) l[k].id).isNone then ((pf b l[k].id).map (fun p => (l[k].id, p))).toList else []) ++ shG b (l.take (k + 1)) (l.drop (k + 1)) := by
  rw [List.drop_eq_getElem_cons h, take_succ_get l k h, shG]
theorem shG_old (b l : List ElD) (k : Nat) (h : k < l.length) {p : Int} (hp : pf (l.take k) l[k].id = some p) : shG b (l.take k) (l.drop k) = shG b (l.take (k + 1)) (l.drop (k + 1)) := by
  rw [shG_drop b l k h, hp]; rfl
theorem shG_out (b l : List ElD) (k : Nat) (h : k < l.length) (hp : pf b l[k].id = none) : shG b (l.take k) (l.drop k) = shG b (l.take (k + 1)) (l.drop (k + 1)) := by
  rw [shG_drop b l k h, hp]; simp
theorem shG_new (b l : List ElD) (k : Nat) (h : k < l.length) {p : Int} (hn : pf (l.take k) l[k].id = none) (hp : pf b l[k].id = some p) : shG b (l.take k) (l.drop k) = (l[k].id, p) :: shG b (l.take (k + 1)) (l.drop (k + 1)) := by
  rw [shG_drop b l k h, hn, hp]; rfl
theorem shG_len (b : List ElD) (l : List ElD) : ∀ pre : List ElD, (shG b pre l).length ≤ l.length := by
  induction l with
  | nil => intro pre; exact Nat.le_refl _
  | cons e l ih =>
    intro pre
    have := ih (pre ++ [e])
    unfold shG
    rw [List.length_append, List.length_cons]
    split
    · cases pf b e.id <;> simp <;> omega
    · simp; omega
theorem mem_shG (b : List ElD) (l : List ElD) : ∀ (pre : List ElD) (x : IdD) (p : Int), (x, p) ∈ shG b pre l ↔ pf pre x = none ∧ (pf l x).isSome = true ∧ pf b x = some p := by
  induction l with
  | nil => intro pre x p; simp [shG, pf]
  | cons e l ih =>
    intro pre x p
    unfold shG
    rw [List.mem_append, ih, pf_snoc, pf_cons]
    by_cases hx : e.id = x
    · subst hx
      cases h1 : pf pre e.id with
      | none => cases h2 : pf b e.id <;> simp [@eq_comm _ p]
      | some q => simp
    · have hx' : ¬ x = e.id := fun h => hx h.symm
      rw [if_neg hx, if_neg hx]
      have : (x, p) ∉ (if (pf pre e.id).isNone then ((pf b e.id).map (fun p => (e.id, p))).toList else []) := by
        split
        · cases pf b e.id <;> simp [hx']
        · simp
      rw [Option.or_none, Option.isSome_map]
      exact ⟨fun h => h.resolve_left this, Or.inr⟩
theorem mem_sh (a b : List ElD) (x : IdD) (p : Int) : (x, p) ∈ sh a b ↔ (pf a x).isSome = true ∧ pf b x = some p := by
  unfold sh; rw [mem_shG]; simp [pf_nil]
/-- They stand in the order of the first list. -/
def pos (a : List ElD) (x : IdD) : Int := (pf a x).getD 0
theorem shG_sorted (b : List ElD) (l : List ElD) : ∀ pre : List ElD, (shG b pre l).Pairwise (fun x y => pos (pre ++ l) x.1 < pos (pre ++ l) y.1) := by
  induction l with
  | nil => intro pre; simp [shG]
  | cons e l ih =>
    intro pre
    unfold shG
    have h := ih (pre ++ [e])
    rw [List.append_assoc] at h
    rw [show pre ++ e :: l = pre ++ ([e] ++ l) from rfl]
    split
    · rename_i hn
      cases hb : pf b e.id with
      | none => simpa using h
      | some p =>
        simp only [Option.map_some, Option.toList_some, List.singleton_append, List.pairwise_cons]
        refine ⟨fun y hy => ?_, h⟩
        obtain ⟨y, q⟩ := y
        have hm := (mem_shG b l (pre ++ [e]) y q).1 hy
        simp only [Option.isNone_iff_eq_none] at hn
        have h1 : pf (pre ++ ([e] ++ l)) e.id = some (pre.length : Int) := by
          rw [pf_app, hn, List.singleton_append, pf_cons, if_pos rfl]; simp
        obtain ⟨q2, h2⟩ := Option.isSome_iff_exists.1 hm.2.1
        have h3 : pf (pre ++ ([e] ++ l)) y = some (q2 + (pre ++ [e]).length) := by
          rw [← List.append_assoc, pf_app, hm.1, h2]; rfl
        have := (pf_bound h2).1
        show pos (pre ++ ([e] ++ l)) e.id < pos (pre ++ ([e] ++ l)) y
        unfold pos
        rw [h1, h3]
        simp only [Option.getD_some, List.length_append, List.length_singleton]
        omega
    · simpa using h
theorem sh_sorted (a b : List ElD) : (sh a b).Pairwise (fun x y => pos a x.1 < pos a y.1) := by
  have := shG_sorted b a []
  rwa [List.nil_append] at this
/-- The first pair that stands otherwise. -/
def fp : List (IdD × Int) → Option (IdD × IdD)
  | [] => none
  | x :: l => match l.find? (fun y => decide (y.2 < x.2)) with
    | some y => some (x.1, y.1)
    | none => fp l
theorem fp_none_iff (l : List (IdD × Int)) : fp l = none ↔ l.Pairwise (fun x y => ¬ y.2 < x.2) := by
  induction l with
  | nil => simp [fp]
  | cons x l ih =>
    unfold fp
    rw [List.pairwise_cons]
    cases h : l.find? (fun y => decide (y.2 < x.2)) with
    | none =>
      rw [List.find?_eq_none] at h
      simp only [ih]
      exact ⟨fun k => ⟨fun y hy => by simpa using h y hy, k⟩, fun k => k.2⟩
    | some y =>
      have hm := List.mem_of_find?_eq_some h
      have hy := List.find?_some h
      simp only [decide_eq_true_eq] at hy
      simp only [reduceCtorEq, false_iff, not_and]
      exact fun k => absurd hy (k y hm)
theorem pairwise_or {α : Type} {S : α → α → Prop} : ∀ {l : List α}, l.Pairwise S → ∀ {u v : α}, u ∈ l → v ∈ l → u ≠ v → S u v ∨ S v u
  | [], _, u, v, hu, _, _ => by simp at hu
  | x :: l, h, u, v, hu, hv, hne => by
    obtain ⟨h1, h2⟩ := List.pairwise_cons.1 h
    rcases List.mem_cons.1 hu with hu' | hu'
    · rcases List.mem_cons.1 hv with hv' | hv'
      · exact absurd (hu'.trans hv'.symm) hne
      · exact .inl (hu' ▸ h1 v hv')
    · rcases List.mem_cons.1 hv with hv' | hv'
      · exact .inr (hv' ▸ h1 u hu')
      · exact pairwise_or h2 hu' hv' hne
theorem fp_sh_iff (a b : List ElD) : fp (sh a b) = none ↔ ∀ x y i j p q, pf a x = some i → pf a y = some j → i < j → pf b x = some p → pf b y = some q → ¬ q < p := by
  rw [fp_none_iff]
  constructor
  · intro h x y i j p q hi hj hij hp hq hlt
    have hx : (x, p) ∈ sh a b := (mem_sh a b x p).2 ⟨by rw [hi]; rfl, hp⟩
    have hy : (y, q) ∈ sh a b := (mem_sh a b y q).2 ⟨by rw [hj]; rfl, hq⟩
    have hb := (sh_sorted a b).and h
    rcases pairwise_or hb hx hy (fun e => by cases e; omega) with h1 | h1
    · exact h1.2 hlt
    · have := h1.1
      simp only [pos, hi, hj, Option.getD_some] at this
      omega
  · intro h
    refine List.Pairwise.imp_of_mem (fun {u v} hu hv huv => ?_) (sh_sorted a b)
    obtain ⟨x, p⟩ := u
    obtain ⟨y, q⟩ := v
    obtain ⟨hx, hp⟩ := (mem_sh a b x p).1 hu
    obtain ⟨hy, hq⟩ := (mem_sh a b y q).1 hv
    obtain ⟨i, hi⟩ := Option.isSome_iff_exists.1 hx
    obtain ⟨j, hj⟩ := Option.isSome_iff_exists.1 hy
    simp only [pos, hi, hj, Option.getD_some] at huv
    exact h x y i j p q hi hj huv hp hq
/-- There and back. -/
theorem fp_sym (a b : List ElD) : (fp (sh a b)).isSome = (fp (sh b a)).isSome := by
  have key : ∀ a b : List ElD, fp (sh a b) = none → fp (sh b a) = none := by
    intro a b h
    rw [fp_sh_iff] at h ⊢
    intro x y i j p q hi hj hij hp hq hlt
    exact h y x q p j i hq hp hlt hj hi hij
  cases h1 : fp (sh a b) <;> cases h2 : fp (sh b a) <;> simp
  · rw [key a b h1] at h2; cases h2
  · rw [key b a h2] at h1; cases h1
theorem sh_nodup (a b : List ElD) : ((sh a b).map Prod.fst).Nodup := by
  unfold List.Nodup
  rw [List.pairwise_map]
  refine (sh_sorted a b).imp (fun {u v} h e => ?_)
  rw [e] at h
  omega
theorem mem_shIds (a b : List ElD) (x : IdD) : x ∈ (sh a b).map Prod.fst ↔ (pf a x).isSome = true ∧ (pf b x).isSome = true := by
  rw [List.mem_map]
  constructor
  · rintro ⟨⟨y, p⟩, h, rfl⟩
    obtain ⟨h1, h2⟩ := (mem_sh a b y p).1 h
    exact ⟨h1, by rw [h2]; rfl⟩
  · rintro ⟨h1, h2⟩
    obtain ⟨p, hp⟩ := Option.isSome_iff_exists.1 h2
    exact ⟨(x, p), (mem_sh a b x p).2 ⟨h1, hp⟩, rfl⟩
theorem nodup_le {α : Type} [DecidableEq α] : ∀ {l r : List α}, l.Nodup → (∀ x ∈ l, x ∈ r) → l.length ≤ r.length
  | [], r, _, _ => Nat.zero_le _
  | x :: l, r, h, hs => by
    obtain ⟨h1, h2⟩ := List.nodup_cons.1 h
    have hx := hs x List.mem_cons_self
    have := nodup_le (l := l) (r := r.erase x) h2 (fun y hy => (List.mem_erase_of_ne (fun e => h1 (by rw [← e]; exact hy))).2 (hs y (List.mem_cons_of_mem _ hy)))
    rw [List.length_erase_of_mem hx] at this
    have := List.length_pos_of_mem hx
    simp only [List.length_cons]; omega
theorem sh_len_sym (a b : List ElD) : (sh a b).length = (sh b a).length := by
  have key : ∀ a b : List ElD, (sh a b).length ≤ (sh b a).length := by
    intro a b
    have := nodup_le (sh_nodup a b) (r := (sh b a).map Prod.fst) (fun x hx => (mem_shIds b a x).2 (by have := (mem_shIds a b x).1 hx; exact ⟨this.2, this.1⟩))
    simpa using this
  exact Nat.le_antisymm (key a b) (key b a)
/-- A set's elements that have been met, one more. -/
theorem met_step {α : Type} [DecidableEq α] (left : α → Bool) (x0 : α) (h0 : left x0 = true) : ∀ (S : List α), S.Nodup → S.countP (fun x => !(left x && !decide (x = x0))) = S.countP (fun x => !left x) + (if x0 ∈ S then 1 else 0)
  | [], _ => rfl
  | y :: S, h => by
    obtain ⟨h1, h2⟩ := List.nodup_cons.1 h
    have := met_step left x0 h0 S h2
    rw [List.countP_cons, List.countP_cons, this]
    by_cases e : y = x0
    · subst e
      simp [h0, h1]
    · have e' : ¬ x0 = y := fun h => e h.symm
      simp [e, e', Nat.add_right_comm]
theorem countP_none {α : Type} (q : α → Bool) : ∀ (S : List α), (∀ x ∈ S, q x = false) → S.countP q = 0 := fun S h => by
  rw [List.countP_eq_zero]; intro x hx; rw [h x hx]; exact Bool.false_ne_true
/-- Do all stand in one order? -/
def ordG (pre : List (List ElD)) : List (List ElD) → Bool
  | [] => true
  | a :: l => decide (nd a = a.length) && pre.all (fun b => (fp (sh a b)).isNone) && ordG (pre ++ [a]) l
def ordF (l : List (List ElD)) : Bool := ordG [] l
theorem ordG_drop (l : List (List ElD)) (k : Nat) (h : k < l.length) : ordG (l.take k) (l.drop k) = (decide (nd l[k] = l[k].length) && (l.take k).all (fun b => (fp (sh l[k] b)).isNone) && ordG (l.take (k + 1)) (l.drop (k + 1))) := by
  rw [List.drop_eq_getElem_cons h, take_succ_get l k h, ordG]
theorem ordF_two (a b : List ElD) : ordF [a, b] = ((fp (sh a b)).isNone && decide (nd a = a.length) && decide (nd b = b.length)) := by
  have := fp_sym a b
  simp only [ordF, ordG, List.nil_append, List.all_nil, List.all_cons, Bool.and_true]
  cases h1 : fp (sh a b) <;> cases h2 : fp (sh b a) <;> simp [h1, h2] at this ⊢
/-- The least place, and where the pair is, from behind. -/
def leastF (L : Int) : List (IdD × Int) → Int
  | [] => L
  | x :: l => min (leastF L l) x.2
def fpI : List (IdD × Int) → Int
  | [] => -1
  | x :: l => if l.any (fun y => decide (y.2 < x.2)) then 0 else if fpI l < 0 then -1 else fpI l + 1
theorem leastF_lt (L : Int) (p : Int) (hp : p ≤ L) : ∀ l : List (IdD × Int), decide (leastF L l < p) = l.any (fun y => decide (y.2 < p))
  | [] => by
    show decide (L < p) = false
    exact decide_eq_false (by omega)
  | x :: l => by
    rw [leastF, List.any_cons, ← leastF_lt L p hp l]
    by_cases h1 : x.2 < p <;> by_cases h2 : leastF L l < p <;> simp [h1, h2] <;> omega
theorem fpI_bound (l : List (IdD × Int)) : -1 ≤ fpI l ∧ fpI l < l.length := by
  induction l with
  | nil => simp [fpI]
  | cons x l ih =>
    unfold fpI
    simp only [List.length_cons]
    split
    · omega
    · split <;> omega
theorem fpI_fp (l : List (IdD × Int)) : (fpI l < 0 → fp l = none) ∧ (∀ j : Nat, fpI l = j → ∃ (h : j < l.length) (y : IdD × Int), (l.drop j).find? (fun y => decide (y.2 < l[j].2)) = some y ∧ fp l = some (l[j].1, y.1)) := by
  induction l with
  | nil => exact ⟨fun _ => rfl, fun j h => by simp [fpI] at h⟩
  | cons x l ih =>
    obtain ⟨ih1, ih2⟩ := ih
    by_cases ha : l.any (fun y => decide (y.2 < x.2)) = true
    · have hI : fpI (x :: l) = 0 := by unfold fpI; rw [if_pos ha]
      refine ⟨fun h => by omega, fun j hj => ?_⟩
      obtain rfl : j = 0 := by omega
      obtain ⟨y, hy⟩ : ∃ y, l.find? (fun y => decide (y.2 < x.2)) = some y := by
        cases h : l.find? (fun y => decide (y.2 < x.2)) with
        | some y => exact ⟨y, rfl⟩
        | none =>
          rw [List.find?_eq_none] at h
          obtain ⟨z, hz, hz2⟩ := List.any_eq_true.1 ha
          exact absurd hz2 (h z hz)
      refine ⟨Nat.zero_lt_succ _, y, ?_, ?_⟩
      · simp only [List.drop_zero, List.getElem_cons_zero]
        rw [List.find?_cons_of_neg (by simp), hy]
      · unfold fp; rw [hy]; rfl
    · have hn : l.find? (fun y => decide (y.2 < x.2)) = none := by
        rw [List.find?_eq_none]
        intro z hz h
        exact ha (List.any_eq_true.2 ⟨z, hz, h⟩)
      have hf : fp (x :: l) = fp l := by conv => lhs; unfold fp
                                         rw [hn]
      have hI : fpI (x :: l) = if fpI l < 0 then -1 else fpI l + 1 := by conv => lhs; unfold fpI
                                                                         rw [if_neg ha]
      rw [hf, hI]
      by_cases hl : fpI l < 0
      · rw [if_pos hl]
        exact ⟨fun _ => ih1 hl, fun j hj => by omega⟩
      · rw [if_neg hl]
        refine ⟨fun h => by omega, fun j hj => ?_⟩
        obtain ⟨i, rfl⟩ : ∃ i, j = i + 1 := ⟨j - 1, by omega⟩
        obtain ⟨h, y, h1, h2⟩ := ih2 i (by omega)
        exact ⟨Nat.succ_lt_succ h, y, h1, h2⟩
/-- The search behind one of the shared. -/
def fpx (p : Int) (x : IdD) (L : List (IdD × Int)) (r : Option (IdD × IdD)) : Option (IdD × IdD) :=
  match L.find? (fun y => decide (y.2 < p)) with
  | some y => some (x, y.1)
  | none => r
theorem fp_cons (x : IdD) (p : Int) (l : List (IdD × Int)) : fp ((x, p) :: l) = fpx p x l (fp l) := rfl
theorem fpx_nil (p : Int) (x : IdD) (r : Option (IdD × IdD)) : fpx p x [] r = r := rfl
theorem fpx_skip (p : Int) (x y : IdD) (q : Int) (L : List (IdD × Int)) (r : Option (IdD × IdD)) (h : ¬ q < p) : fpx p x ((y, q) :: L) r = fpx p x L r := by
  unfold fpx; rw [List.find?_cons_of_neg (by simpa using h)]
theorem fpx_hit (p : Int) (x y : IdD) (q : Int) (L : List (IdD × Int)) (r : Option (IdD × IdD)) (h : q < p) : fpx p x ((y, q) :: L) r = some (x, y) := by
  unfold fpx; rw [List.find?_cons_of_pos (by simpa using h)]
/-- A pair, as it is handed back. -/
def fpVal : Option (IdD × IdD) → Value
  | some (x, y) => .tuple #[x.val, y.val, .bool true]
  | none => .tuple #[(IdD.mk 0 0 0).val, (IdD.mk 0 0 0).val, .bool false]
end Go
