/- Runs of one hand as plain data: who wrote which text. No program in sight. -/
import Derived.Test.YtofijhejpgjopaaGreatDoorProg
import Derived.Test.YtofijhejpgjopaaGreatDoorEl
import Derived.Test.YtofijhejpgjopaaGreatDoorErrK
import Derived.Test.YtofijhejpgjopaaGreatDoorUtf
namespace Go.Proofs.YtofijhejpgjopaaGreatDoor
open Go.RowKit
set_option linter.unusedVariables false

/-- A run longer by a text of a hand. -/
def addRun (acc : List Link) (rp : Int) (s : ByteArray) : List Link :=
  match acc.getLast? with
  | none => [(s, ByteArray.empty, rp)]
  | some x => if x.2.2 = rp then acc.dropLast ++ [(x.1 ++ s, x.2.1, x.2.2)] else acc ++ [(s, ByteArray.empty, rp)]
theorem addRun_nil (rp : Int) (s : ByteArray) : addRun [] rp s = [(s, ByteArray.empty, rp)] := rfl
theorem addRun_same (i : List Link) (a b : ByteArray) (rp : Int) (s : ByteArray) : addRun (i ++ [(a, b, rp)]) rp s = i ++ [(a ++ s, b, rp)] := by
  simp [addRun]
theorem addRun_other (i : List Link) (a b : ByteArray) (r rp : Int) (s : ByteArray) (h : r ≠ rp) : addRun (i ++ [(a, b, r)]) rp s = (i ++ [(a, b, r)]) ++ [(s, ByteArray.empty, rp)] := by
  simp [addRun, h]
def runStep (acc : List Link) (e : ElD) : List Link := if e.hd ≤ 0 then addRun acc e.rp (Utf8.encode e.ch) else acc
def runs (l : List ElD) : List Link := l.foldl runStep []
theorem runs_snoc (l : List ElD) (e : ElD) : runs (l ++ [e]) = runStep (runs l) e := by simp [runs]
/-- The characters that one sees. -/
def charStep (acc : List Int) (e : ElD) : List Int := if e.hd ≤ 0 then acc ++ [e.ch] else acc
def chars (l : List ElD) : List Int := l.foldl charStep []
theorem chars_snoc (l : List ElD) (e : ElD) : chars (l ++ [e]) = charStep (chars l) e := by simp [chars]
theorem chars_fold (l : List ElD) : ∀ acc : List Int, l.foldl charStep acc = acc ++ (l.filter ElD.live).map ElD.ch := by
  induction l with
  | nil => intro acc; simp
  | cons e l ih =>
    intro acc
    rw [List.foldl_cons, ih]
    by_cases h : e.hd ≤ 0 <;> simp [charStep, ElD.live, h]
theorem chars_eq (l : List ElD) : chars l = (l.filter ElD.live).map ElD.ch := by rw [chars, chars_fold]; simp
theorem chars_len (l : List ElD) : (chars l).length ≤ l.length := by
  rw [chars_eq, List.length_map]; exact List.length_filter_le _ _
theorem chars_mem (l : List ElD) (c : Int) (h : c ∈ chars l) : ∃ e ∈ l, e.ch = c := by
  rw [chars_eq] at h
  obtain ⟨e, he, rfl⟩ := List.mem_map.1 h
  exact ⟨e, (List.mem_filter.1 he).1, rfl⟩
/-- Each run's text, joined. -/
def joined (l : List Link) : ByteArray := l.foldl (fun s x => s ++ x.1) ByteArray.empty
theorem joined_snoc (l : List Link) (x : Link) : joined (l ++ [x]) = joined l ++ x.1 := by simp [joined]
theorem runesBytes_snoc (cs : List Int) (c : Int) : runesBytes (cs ++ [c]) = runesBytes cs ++ Utf8.encode c := by simp [runesBytes]
theorem runesBytes_one (c : Int) : runesBytes [c] = Utf8.encode c := by
  show ByteArray.empty ++ Utf8.encode c = _
  simp
theorem enc_ne_empty (c : Int) : Utf8.encode c ≠ ByteArray.empty := fun h => by
  have := Scr.enc_ne c
  unfold Scr.encL at this
  rw [h] at this
  exact this rfl
theorem app_ne_empty (a b : ByteArray) (h : b ≠ ByteArray.empty) : a ++ b ≠ ByteArray.empty := fun e => h (by
  have : (a ++ b).size = 0 := by rw [e]; rfl
  rw [ByteArray.size_append] at this
  exact ByteArray.ext (by
    have hb : b.data.size = 0 := by show b.size = 0; omega
    rw [Array.size_eq_zero_iff.1 hb]; rfl))
/-- What the runs of elements are: none is empty, neighbours are of two hands, together they are what one sees. -/
structure RunsOk (acc : List Link) (cs : List Int) : Prop where
  full : ∀ x ∈ acc, x.1 ≠ ByteArray.empty
  diff : ∀ i (h : i + 1 < acc.length), (acc[i + 1]).2.2 ≠ (acc[i]'(by omega)).2.2
  all : joined acc = runesBytes cs
theorem addRun_ok {acc : List Link} {cs : List Int} (h : RunsOk acc cs) (rp c : Int) : RunsOk (addRun acc rp (Utf8.encode c)) (cs ++ [c]) := by
  rcases List.eq_nil_or_concat acc with rfl | ⟨i, x, rfl⟩
  · rw [addRun_nil]
    refine ⟨fun x hx => ?_, fun i hi => absurd hi (by simp), ?_⟩
    · simp only [List.mem_singleton] at hx; subst hx; exact enc_ne_empty c
    · have := h.all
      rw [runesBytes_snoc, ← this]
      simp [joined]
  · rw [List.concat_eq_append] at h ⊢
    obtain ⟨a, b, r⟩ := x
    by_cases hr : r = rp
    · subst hr
      rw [addRun_same]
      refine ⟨fun x hx => ?_, fun j hj => ?_, ?_⟩
      · rcases List.mem_append.1 hx with hx | hx
        · exact h.full x (List.mem_append.2 (.inl hx))
        · simp only [List.mem_singleton] at hx; subst hx; exact app_ne_empty _ _ (enc_ne_empty c)
      · have h1 := h.diff j (by simpa using hj)
        simp only [List.length_append, List.length_singleton] at hj
        by_cases hj2 : j + 1 < i.length
        · rw [List.getElem_append_left hj2, List.getElem_append_left (by omega)] at h1 ⊢; exact h1
        · have : j + 1 = i.length := by omega
          rw [List.getElem_append_left (show j < i.length by omega)] at h1 ⊢
          rw [List.getElem_append_right (by omega)] at h1 ⊢
          simpa [this] using h1
      · have := h.all
        rw [joined_snoc] at this ⊢
        rw [runesBytes_snoc, ← this]; simp [ByteArray.append_assoc]
    · rw [addRun_other _ _ _ _ _ _ hr]
      refine ⟨fun x hx => ?_, fun j hj => ?_, ?_⟩
      · rcases List.mem_append.1 hx with hx | hx
        · exact h.full x hx
        · simp only [List.mem_singleton] at hx; subst hx; exact enc_ne_empty c
      · by_cases hj2 : j + 1 < (i ++ [(a, b, r)]).length
        · have h1 := h.diff j hj2
          rw [List.getElem_append_left hj2, List.getElem_append_left (show j < (i ++ [(a, b, r)]).length by omega)]; exact h1
        · simp only [List.length_append, List.length_singleton] at hj hj2
          have hji : j = i.length := by omega
          subst hji
          rw [List.getElem_append_right (by simp)]
          rw [List.getElem_append_left (show i.length < (i ++ [(a, b, r)]).length by simp)]
          rw [List.getElem_append_right (Nat.le_refl _)]
          simp; exact fun e => hr e.symm
      · rw [joined_snoc, h.all, runesBytes_snoc]
theorem runs_ok (l : List ElD) : RunsOk (runs l) (chars l) := by
  have key : ∀ (l : List ElD) (acc : List Link) (cs : List Int), RunsOk acc cs → RunsOk (l.foldl runStep acc) (l.foldl charStep cs) := by
    intro l
    induction l with
    | nil => intro acc cs h; exact h
    | cons e l ih =>
      intro acc cs h
      rw [List.foldl_cons, List.foldl_cons]
      refine ih _ _ ?_
      by_cases h0 : e.hd ≤ 0
      · simp only [runStep, charStep, h0, if_true]; exact addRun_ok h _ _
      · simp only [runStep, charStep, h0, if_false]; exact h
  exact key l [] [] ⟨fun x hx => absurd hx (by simp), fun i hi => absurd hi (by simp), rfl⟩
theorem addRun_len (acc : List Link) (rp : Int) (s : ByteArray) : (addRun acc rp s).length ≤ acc.length + 1 := by
  rcases List.eq_nil_or_concat acc with rfl | ⟨i, x, rfl⟩
  · simp [addRun]
  · rw [List.concat_eq_append]
    obtain ⟨a, b, r⟩ := x
    by_cases hr : r = rp
    · subst hr; rw [addRun_same]; simp
    · rw [addRun_other _ _ _ _ _ _ hr]; simp
theorem runs_len (l : List ElD) : (runs l).length ≤ l.length := by
  have key : ∀ (l : List ElD) (acc : List Link), (l.foldl runStep acc).length ≤ acc.length + l.length := by
    intro l
    induction l with
    | nil => intro acc; simp
    | cons e l ih =>
      intro acc
      rw [List.foldl_cons]
      have h1 := ih (runStep acc e)
      have h2 : (runStep acc e).length ≤ acc.length + 1 := by
        unfold runStep; split
        · exact addRun_len _ _ _
        · omega
      simp only [List.length_cons]; omega
  have := key l []
  simpa [runs] using this
/-- The last link's text made longer, as the cells tell it. -/
theorem link_longer (i : List Link) (a b s : ByteArray) (r : Int) : (linkCells (i ++ [(a, b, r)])).set (i.length * 3) (.string s) = linkCells (i ++ [(s, b, r)]) := by
  unfold linkCells
  rw [List.flatMap_append, List.flatMap_append]
  have hl : (i.flatMap linkRow).length = i.length * 3 := flat_length linkRow 3 (fun _ => rfl) i
  rw [← hl, List.set_append_right _ _ (Nat.le_refl _), Nat.sub_self]
  rfl
theorem linkCells_snoc (l : List Link) (x : Link) : linkCells (l ++ [x]) = linkCells l ++ linkRow x := by
  unfold linkCells; rw [List.flatMap_append]; simp
theorem linkCells_len (l : List Link) : (linkCells l).length = l.length * 3 := flat_length linkRow 3 (fun _ => rfl) l
theorem link_last (i : List Link) (a b : ByteArray) (r : Int) : (linkCells (i ++ [(a, b, r)]))[i.length * 3]? = some (.string a) ∧ (linkCells (i ++ [(a, b, r)]))[i.length * 3 + 2]? = some (.int .i64 r) := by
  rw [linkCells_snoc]
  have hl := linkCells_len i
  constructor
  · rw [List.getElem?_append_right (by omega)]; rw [hl, Nat.sub_self]; rfl
  · rw [List.getElem?_append_right (by omega)]; rw [hl, Nat.add_sub_cancel_left]; rfl
/-- What is kept of a list: the characters that there are. -/
def rightCh (c : Int) : Bool := decide (0 ≤ c) && decide (c ≤ 1114111) && (decide (c < 55296) || decide (57343 < c))
theorem rightCh_good {c : Int} (h : rightCh c = true) : Scr.good c := by
  simp only [rightCh, Bool.and_eq_true, Bool.or_eq_true, decide_eq_true_eq] at h
  unfold Scr.good; omega
def rights (l : List ElD) : List ElD := l.filter fun e => rightCh e.ch
theorem rights_snoc (l : List ElD) (e : ElD) : rights (l ++ [e]) = if rightCh e.ch then rights l ++ [e] else rights l := by
  unfold rights; rw [List.filter_append]; cases h : rightCh e.ch <;> simp [h]
theorem rights_len (l : List ElD) : (rights l).length ≤ l.length := List.length_filter_le _ _
theorem rights_good (l : List ElD) : ∀ e ∈ rights l, Scr.good e.ch := fun e he => rightCh_good (List.mem_filter.1 he).2
end Go.Proofs.YtofijhejpgjopaaGreatDoor
