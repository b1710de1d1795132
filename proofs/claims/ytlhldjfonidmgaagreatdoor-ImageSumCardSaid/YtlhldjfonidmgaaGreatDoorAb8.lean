/- append. -/
import Derived.Test.YtlhldjfonidmgaaGreatDoorAb7
namespace Go.Ab
set_option linter.unusedSimpArgs false
set_option linter.unusedVariables false
set_option linter.unusedSectionVars false
def wr (c : Array Value) (o : Nat) : List Value → Array Value
  | [] => c
  | v :: r => wr (c.setIfInBounds o v) (o + 1) r
theorem wr_size : ∀ (l : List Value) (c : Array Value) (o : Nat), (wr c o l).size = c.size
  | [], c, o => rfl
  | v :: l, c, o => by rw [wr, wr_size l]; simp
theorem wr_get : ∀ (l : List Value) (c : Array Value) (o : Nat) (i : Nat), o + l.length ≤ c.size → (wr c o l)[i]? = if o ≤ i ∧ i < o + l.length then l[i - o]? else c[i]?
  | [], c, o, i, h => by
    have : ¬ (o ≤ i ∧ i < o + ([] : List Value).length) := by simp
    rw [if_neg this]; rfl
  | v :: l, c, o, i, h => by
    simp only [List.length_cons] at h
    rw [wr, wr_get l _ _ _ (by simp; omega)]
    by_cases h1 : o + 1 ≤ i ∧ i < o + 1 + l.length
    · rw [if_pos h1, if_pos (by simp only [List.length_cons]; omega)]
      have : i - o = (i - (o + 1)) + 1 := by omega
      rw [this, List.getElem?_cons_succ]
    · rw [if_neg h1]
      by_cases h2 : i = o
      · subst h2
        rw [if_pos (by simp only [List.length_cons]; omega), Array.getElem?_setIfInBounds_self_of_lt (by omega), Nat.sub_self]
        rfl
      · rw [if_neg (by simp only [List.length_cons]; omega), Array.getElem?_setIfInBounds_ne (by omega)]
theorem setCell_eq {w : World} {b : Nat} {c : Array Value} {t : TypeId} {fr : Nat × Nat} (hw : w.heap[b]? = some (.cells c t fr)) (o : Nat) (v : Value) :
    w.setCell ⟨b, o, none⟩ v = { w with heap := w.heap.setIfInBounds b (.cells (c.setIfInBounds o v) t fr) } := by
  obtain ⟨hbl, hbe⟩ := Array.getElem?_eq_some_iff.1 hw
  simp only [World.setCell]
  congr 1
  apply Array.ext
  · simp
  · intro i g1 g2
    have g3 : i < w.heap.size := by simpa using g2
    rw [Array.getElem_modify g1, Array.getElem_setIfInBounds g3]
    by_cases hbi : b = i
    · subst hbi
      simp [hbe]
    · simp [hbi]
theorem setCells_eq {b : Nat} {t : TypeId} {fr : Nat × Nat} : ∀ (l : List Value) {w : World} {c : Array Value} (o : Nat), w.heap[b]? = some (.cells c t fr) →
    w.setCells b o l = { w with heap := w.heap.setIfInBounds b (.cells (wr c o l) t fr) }
  | [], w, c, o, hw => by
    simp only [World.setCells, wr]
    have : w.heap.setIfInBounds b (.cells c t fr) = w.heap := by
      obtain ⟨hbl, hbe⟩ := Array.getElem?_eq_some_iff.1 hw
      apply Array.ext
      · simp
      · intro i g1 g2
        rw [Array.getElem_setIfInBounds g2]
        by_cases hbi : b = i
        · subst hbi; simp [hbe]
        · simp [hbi]
    rw [this]
  | v :: l, w, c, o, hw => by
    obtain ⟨hbl, hbe⟩ := Array.getElem?_eq_some_iff.1 hw
    rw [World.setCells, setCell_eq hw, setCells_eq (t := t) (fr := fr) l (c := c.setIfInBounds o v) (o + 1) (by simp [hbl])]
    simp only [wr]
    congr 1
    apply Array.ext
    · simp
    · intro i g1 g2
      simp only [Array.size_setIfInBounds] at g1 g2
      rw [Array.getElem_setIfInBounds (by simpa using g1), Array.getElem_setIfInBounds g2]
      by_cases hbi : b = i
      · simp [hbi]
      · simp [hbi, Array.getElem_setIfInBounds g2]
theorem growBy_le (n : Nat) : ∀ (r c : Nat), c < n → Builtin.growBy n r c ≤ 2 * n + 768
  | 0, c, h => by simp only [Builtin.growBy]; omega
  | r + 1, c, h => by
    simp only [Builtin.growBy]
    rw [if_neg (by omega)]
    by_cases h2 : c + (c + 768) / 4 < n
    · exact growBy_le n r _ h2
    · cases r with
      | zero => simp only [Builtin.growBy]; omega
      | succ r => simp only [Builtin.growBy]; rw [if_pos (by omega)]; omega
theorem nextcap_le (n c : Nat) (h : c < n) : Builtin.nextslicecap n c ≤ 2 * n + 768 := by
  unfold Builtin.nextslicecap
  split
  · omega
  · split
    · omega
    · exact growBy_le n 4 c h
section
variable {P : Program} {w0 : W0} {E : Env} {h : AH} {w : World}
theorem VR.one' {v v' : Value} (r : VR E v v') : v'.oneCell' = v.oneCell' := by cases r <;> rfl
theorem VL.one' {l l' : List Value} (r : VL E l l') (ha : ∀ u ∈ l, u.oneCell' = true) : ∀ u ∈ l', u.oneCell' = true := by
  induction r with
  | nil => simp
  | cons a _ i =>
    intro u hu
    rcases List.mem_cons.1 hu with rfl | hu
    · rw [a.one']; exact ha _ List.mem_cons_self
    · exact i (fun u hu => ha u (List.mem_cons_of_mem _ hu)) u hu
theorem VL.length {l l' : List Value} (r : VL E l l') : l'.length = l.length := by
  induction r with
  | nil => rfl
  | cons a _ i => simp [i]
theorem VL.get {l l' : List Value} (r : VL E l l') : ∀ i (h : i < l.length) (h' : i < l'.length), VR E l[i] l'[i] := by
  induction r with
  | nil => intro i h; simp at h
  | cons a _ ih =>
    intro i h h'
    cases i with
    | zero => exact a
    | succ i => exact ih i (by simpa using h) (by simpa using h')
theorem VL.arr {l l' : List Value} (r : VL E l l') : VRs E l.toArray l'.toArray := by
  refine ⟨by simp [r.length], fun i hi => ?_⟩
  simp only [List.size_toArray] at hi
  have := r.get i hi (by rw [r.length]; exact hi)
  simpa only [List.getElem_toArray] using this
theorem VL.append {l l' m m' : List Value} (r : VL E l l') (s : VL E m m') : VL E (l ++ m) (l' ++ m') := by
  induction r with
  | nil => exact s
  | cons a _ i => exact .cons a i
theorem VL.flat : ∀ {l : List Value}, l.all (isFlat 4) = true → VL E l l
  | [], _ => .nil
  | v :: l, h => by
    simp only [List.all_cons, Bool.and_eq_true] at h
    exact .cons (flat_refl 4 h.1) (VL.flat h.2)
/-- A piece of a row. -/
def rowOf (h : AH) (b o n : Nat) : Option (List Value) :=
  match h.get b with
  | some (.cells c _ _, _) => if o + n ≤ c.size then some ((c.toList.drop o).take n) else none
  | _ => none
theorem rowOf_rel (H : HR P w0 E h w) {b o n : Nat} {l : List Value} (e : rowOf h b o n = some l) {b' : Nat} {op : Option Nat} (eb : E b = some (b', op)) :
    ∃ l', VL E l l' ∧ l.length = n ∧ l'.length = n ∧ ∀ j u, l'[j]? = some u → w.cell? ⟨b', o + j, none⟩ = some u := by
  unfold rowOf at e
  split at e
  · rename_i c t fr fl hg
    split at e
    · rename_i hn
      cases e
      obtain ⟨b1, op1, c', fr', e1, ef, hw, s1, s2, s3⟩ := H.row hg eb
      rw [eb] at e1
      cases e1
      refine ⟨(c'.toList.drop o).take n, VL.of _ _ (by simp; omega) (fun i h1 h2 => ?_), by simp; omega, by simp; omega, fun j u hj => ?_⟩
      · simp only [List.getElem_take, List.getElem_drop, Array.getElem_toList]
        exact s3 _ (by simp at h1; omega) (by simp at h2; omega)
      · rw [List.getElem?_take] at hj
        split at hj
        · rw [List.getElem?_drop] at hj
          simpa [World.cell?, hw] using hj
        · cases hj
    · cases e
  · cases e
/-- What is appended. -/
def srcCells (size : Nat) (x : Value) (h : AH) : Option (Nat × List Value) :=
  match x with
  | .slice none 0 _ => some (0, [])
  | .slice (some ⟨b, o, none⟩) n _ => if n = 0 then some (0, []) else (rowOf h b o (n * size)).map fun l => (n, l)
  | .string s => if size = 1 then some (s.size, byteCells s) else none
  | _ => none
def kindOk (P : Program) (x : Value) (tx : TypeId) : Bool :=
  match x, P.underlying tx with
  | .slice .., some (.slice _) => true
  | .string _, some .string => true
  | _, _ => false
theorem src_rel (H : HR P w0 E h w) {size n : Nat} {x x' : Value} {l : List Value} (r : VR E x x') (e : srcCells size x h = some (n, l)) (ho : ∀ u ∈ l, u.oneCell' = true) {tx : TypeId} (hk : kindOk P x tx = true) :
    ∃ l', VL E l l' ∧ Src P size tx x' n l' w := by
  cases r with
  | nilSlice a c =>
    cases a with
    | zero =>
      simp only [srcCells] at e
      cases e
      unfold kindOk at hk
      split at hk
      · rename_i e' hu hx
        exact ⟨[], .nil, Src.ofNil w hx c⟩
      · rename_i hx _; cases hx
      · cases hk
    | succ a => simp [srcCells] at e
  | @slice b o s a c b' op c' eb hc hl =>
    unfold kindOk at hk
    split at hk
    · rename_i e' hu hx
      cases s with
      | some s => simp [srcCells] at e
      | none =>
        simp only [srcCells] at e
        split at e
        · rename_i hz
          cases e
          subst hz
          exact ⟨[], .nil, Src.ofSlice w hx _ 0 c' [] (by simp) (by simp) (by simp)⟩
        · cases hr : rowOf h b o (a * size) with
          | none => rw [hr] at e; cases e
          | some l1 =>
            rw [hr] at e
            cases e
            obtain ⟨l', rl, g1, g2, g3⟩ := rowOf_rel H hr eb
            refine ⟨l', rl, Src.ofSlice w hx _ _ c' l' g2 (fun j u hj => ?_) (rl.one' ho)⟩
            rw [Addr.add_lit]
            exact g3 j u hj
    · rename_i hx _; cases hx
    · cases hk
  | @empty b o s b' a' c' m eb =>
    unfold kindOk at hk
    split at hk
    · rename_i e' hu hx
      have : n = 0 ∧ l = [] := by
        cases s with
        | some s => simp [srcCells] at e
        | none => simp [srcCells] at e; exact ⟨e.1.symm, e.2⟩
      obtain ⟨rfl, rfl⟩ := this
      exact ⟨[], .nil, Src.ofSlice w hx _ 0 c' [] (by simp) (by simp) (by simp)⟩
    · rename_i hx _; cases hx
    · cases hk
  | string s =>
    unfold kindOk at hk
    split at hk
    · rename_i hx _; cases hx
    · rename_i s' hu hx
      simp only [srcCells] at e
      split at e
      · rename_i hz
        cases e
        subst hz
        refine ⟨_, VL.flat ?_, Src.ofString w hx s⟩
        rw [List.all_eq_true]
        intro u hu
        obtain ⟨_, _, rfl⟩ := List.mem_map.1 hu
        rfl
      · cases e
    · cases hk
  | _ => simp [srcCells] at e
end
end Go.Ab
