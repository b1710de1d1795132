/- Scripts as plain data, third part: plain steps are written and read again. No program in sight. -/
import Derived.Test.YtofijhejpgjopaaGreatDoorScrB
namespace Go
namespace Scr

def small (n : Int) : Bool := decide (0 ≤ n ∧ n ≤ 255)
def runesT (s : ByteArray) : List Int := runesL s.data.toList
def plainB (s : StepD) : Bool :=
  decide (0 ≤ s.kind ∧ s.kind < 14) && small s.a && small s.b && small s.c && (decide ((runesT s.text).length ≤ 15) && (decide (s.text.size = 0) || texts s.kind)) && (runesT s.text).all alpha
def least (c : Int) : UInt8 := if 97 ≤ c ∧ c ≤ 122 then UInt8.ofNat (c - 97).toNat else if c = 10 then 208 else if c = 233 then 224 else if c = 19990 then 240 else 0
def byteOf (n : Int) : UInt8 := UInt8.ofNat n.toNat
def writeOne (s : StepD) : List UInt8 :=
  [byteOf s.kind, byteOf s.a, byteOf s.b, byteOf s.c] ++ if texts s.kind then byteOf (runesT s.text).length :: (runesT s.text).map least else []
def writeL (l : List StepD) : List UInt8 := (l.filter plainB).flatMap writeOne

theorem byteOf_toNat (n : Int) (h0 : 0 ≤ n) (h1 : n ≤ 255) : ((byteOf n).toNat : Int) = n := by
  unfold byteOf
  rw [UInt8.toNat_ofNat_of_lt' (by show n.toNat < 256; omega)]; omega
theorem letter_alpha (b : Nat) : alpha (letter b) = true := by
  unfold alpha letter
  have := Nat.mod_lt b (show 0 < 26 by omega)
  repeat' split
  all_goals simp only [decide_eq_true_eq]
  all_goals first | omega | simp
theorem letter_least (c : Int) (h : alpha c = true) : letter (least c).toNat = c := by
  simp only [alpha, decide_eq_true_eq] at h
  unfold least
  split
  · rename_i hc
    have e : (UInt8.ofNat (c - 97).toNat).toNat = (c - 97).toNat := UInt8.toNat_ofNat_of_lt' (by show (c - 97).toNat < 256; omega)
    rw [e]; unfold letter
    rw [if_pos (by omega), Nat.mod_eq_of_lt (by omega)]; omega
  · split
    · rename_i h1; subst h1; decide
    · split
      · rename_i h1; subst h1; decide
      · split
        · rename_i h1; subst h1; decide +kernel
        · omega
theorem chars_least (cs : List Int) (h : ∀ c ∈ cs, alpha c = true) : chars (cs.map least) = cs := by
  unfold chars
  rw [List.map_map]
  conv => rhs; rw [← List.map_id cs]
  exact List.map_congr_left (fun c hc => letter_least c (h c hc))
theorem utf8Of_chars (l : List UInt8) : runesT (utf8Of (chars l)) = chars l := by
  unfold runesT
  rw [utf8Of_list, runes_enc]
  intro c hc
  simp only [chars, List.mem_map] at hc
  obtain ⟨b, _, rfl⟩ := hc
  exact letter_alpha _
theorem bytes_ext {s t : ByteArray} (h : s.data.toList = t.data.toList) : s = t := by
  obtain ⟨⟨l⟩⟩ := s; obtain ⟨⟨m⟩⟩ := t
  simp only at h; rw [h]
theorem runesT_utf8 (s : ByteArray) (h : ∀ c ∈ runesT s, alpha c = true) : utf8Of (runesT s) = s := by
  apply bytes_ext
  rw [utf8Of_list]
  exact (enc_runes _ h).symm
theorem size_utf8Of_nil : utf8Of [] = ByteArray.empty := rfl

theorem plain_parts {s : StepD} (h : plainB s = true) : (0 ≤ s.kind ∧ s.kind < 14) ∧ (0 ≤ s.a ∧ s.a ≤ 255) ∧ (0 ≤ s.b ∧ s.b ≤ 255) ∧ (0 ≤ s.c ∧ s.c ≤ 255) ∧ (runesT s.text).length ≤ 15 ∧ (texts s.kind = false → s.text = ByteArray.empty) ∧ ∀ c ∈ runesT s.text, alpha c = true := by
  simp only [plainB, small, Bool.and_eq_true, decide_eq_true_eq, Bool.or_eq_true, List.all_eq_true] at h
  obtain ⟨⟨⟨⟨⟨h1, h2⟩, h3⟩, h4⟩, h5, h6⟩, h7⟩ := h
  refine ⟨h1, h2, h3, h4, h5, fun ht => ?_, h7⟩
  rcases h6 with h6 | h6
  · apply bytes_ext
    have : s.text.data.toList.length = 0 := by rw [Array.length_toList]; exact h6
    rw [List.length_eq_zero_iff.1 this]; rfl
  · rw [ht] at h6; cases h6

theorem hd_cons (b : UInt8) (l : List UInt8) : hd (b :: l) = b.toNat := rfl
/-- A plain step that is written is read again, and what stands behind it is left. -/
theorem read_write (s : StepD) (r : List UInt8) (h : plainB s = true) : readOne (writeOne s ++ r) = (s, r) := by
  obtain ⟨hk, ha, hb, hc, hl, ht, hal⟩ := plain_parts h
  have ek := byteOf_toNat s.kind hk.1 (by omega)
  have ea := byteOf_toNat s.a ha.1 ha.2
  have eb := byteOf_toNat s.b hb.1 hb.2
  have ec := byteOf_toNat s.c hc.1 hc.2
  have ek' : (((byteOf s.kind).toNat % 14 : Nat) : Int) = s.kind := by omega
  unfold writeOne
  by_cases htx : texts s.kind = true
  · have el := byteOf_toNat ((runesT s.text).length : Int) (by omega) (by omega)
    have el' : (byteOf ((runesT s.text).length : Int)).toNat % 16 = ((runesT s.text).map least).length := by simp; omega
    rw [if_pos htx]
    simp only [List.cons_append, List.nil_append]
    unfold readOne
    simp only [hd_cons, List.drop_succ_cons, List.drop_zero, ek', htx, if_true, ea, eb, ec, el']
    rw [List.take_left, List.drop_left, chars_least _ hal, runesT_utf8 _ hal]
  · have htx' : texts s.kind = false := by simpa using htx
    rw [if_neg htx]
    simp only [List.cons_append, List.nil_append]
    unfold readOne
    simp only [hd_cons, List.drop_succ_cons, List.drop_zero, ek', htx', Bool.false_eq_true, if_false, ea, eb, ec, ← ht htx']
theorem writeOne_ne (s : StepD) : writeOne s ≠ [] := by simp [writeOne]
theorem read_flat : ∀ (l : List StepD), (∀ s ∈ l, plainB s = true) → ∀ r, readL (l.flatMap writeOne ++ r) = l ++ readL r
  | [], _, r => by simp
  | s :: l, h, r => by
    rw [List.flatMap_cons, List.append_assoc, readL_cons _ (by simp [writeOne_ne s]), read_write s _ (h s (by simp)), read_flat l (fun x hx => h x (by simp [hx]))]
    rfl
theorem back (l : List StepD) : readL (writeL l) = l.filter plainB := by
  have := read_flat (l.filter plainB) (fun s hs => (List.mem_filter.1 hs).2) []
  rw [List.append_nil, readL_nil, List.append_nil] at this
  exact this
theorem write_append (a b : List StepD) : writeL (a ++ b) = writeL a ++ writeL b := by simp [writeL]
theorem read_joins (a b : List StepD) : readL (writeL (a ++ b)) = readL (writeL a) ++ readL (writeL b) := by
  rw [back, back, back, List.filter_append]

theorem hd_lt (l : List UInt8) : hd l < 256 := by unfold hd; exact (l.headD 0).toNat_lt
theorem small_hd (l : List UInt8) : small (hd l) = true := by have := hd_lt l; simp [small]; omega
theorem readOne_plain (l : List UInt8) : plainB (readOne l).1 = true := by
  have hk := Nat.mod_lt (hd l) (show 0 < 14 by omega)
  have hn := Nat.mod_lt (hd (l.drop 4)) (show 0 < 16 by omega)
  unfold readOne
  split
  · rename_i ht
    simp only [plainB, small_hd, ht, utf8Of_chars, Bool.or_true, Bool.and_true, Bool.and_eq_true, decide_eq_true_eq, List.all_eq_true]
    refine ⟨⟨⟨?_, ?_⟩, ?_⟩, fun c hc => ?_⟩
    · omega
    · omega
    · simp [chars]; omega
    · simp only [chars, List.mem_map] at hc
      obtain ⟨b, _, rfl⟩ := hc
      exact letter_alpha _
  · have e : runesT ByteArray.empty = [] := rfl
    simp only [plainB, small_hd, e]
    simp; omega
theorem read_plain : ∀ (n : Nat) (l : List UInt8), l.length ≤ n → ∀ s ∈ readL l, plainB s = true
  | 0, l, h => by
    have : l = [] := List.length_eq_zero_iff.1 (by omega)
    subst this; simp [readL_nil]
  | n + 1, l, h => by
    by_cases hl : l = []
    · subst hl; simp [readL_nil]
    · rw [readL_cons l hl]
      intro s hs
      rcases List.mem_cons.1 hs with rfl | hs
      · exact readOne_plain l
      · exact read_plain n _ (by have := readOne_len l hl; omega) s hs
theorem read_all_plain (l : List UInt8) : ∀ s ∈ readL l, plainB s = true := read_plain _ l (Nat.le_refl _)
theorem read_write_read (l : List UInt8) : readL (writeL (readL l)) = readL l := by
  rw [back, List.filter_eq_self.2 (read_all_plain l)]
theorem read_nil_iff (l : List UInt8) : readL l = [] ↔ l = [] := by
  constructor
  · intro h
    by_cases hl : l = []
    · exact hl
    · rw [readL_cons l hl] at h; cases h
  · rintro rfl; rfl
/-- Written again a step is no longer than what it was read of; at the end 5 bytes more. -/
theorem len_one (l : List UInt8) (h : l ≠ []) : (writeOne (readOne l).1).length + (readOne l).2.length ≤ l.length + 4 ∧ ((readOne l).2 ≠ [] → (writeOne (readOne l).1).length + (readOne l).2.length ≤ l.length) := by
  have hp := List.length_pos_iff.2 h
  have hne : ∀ m : List UInt8, m ≠ [] → 0 < m.length := fun m hm => List.length_pos_iff.2 hm
  unfold readOne
  split
  · rename_i ht
    simp only [writeOne, ht, if_true, utf8Of_chars, List.length_append, List.length_cons, List.length_nil, List.length_map, List.length_drop]
    simp only [chars, List.length_map, List.length_take, List.length_drop]
    constructor
    · omega
    · intro hr
      have := hne _ hr
      simp only [List.length_drop] at this
      omega
  · rename_i ht
    simp only [writeOne, ht, List.length_append, List.length_cons, List.length_nil, List.length_drop, Bool.false_eq_true, if_false]
    constructor
    · omega
    · intro hr
      have := hne _ hr
      simp only [List.length_drop] at this
      omega
theorem len_all : ∀ (n : Nat) (l : List UInt8), l.length ≤ n → (((readL l).flatMap writeOne).length ≤ l.length + 5)
  | 0, l, h => by
    have : l = [] := List.length_eq_zero_iff.1 (by omega)
    subst this; simp [readL_nil]
  | n + 1, l, h => by
    by_cases hl : l = []
    · subst hl; simp [readL_nil]
    · rw [readL_cons l hl, List.flatMap_cons, List.length_append]
      obtain ⟨h1, h2⟩ := len_one l hl
      have ih := len_all n (readOne l).2 (by have := readOne_len l hl; omega)
      by_cases hr : (readOne l).2 = []
      · rw [hr] at h1 ⊢
        simp only [readL_nil, List.flatMap_nil, List.length_nil] at h1 ⊢; omega
      · have := h2 hr; omega
theorem write_read_len (l : List UInt8) : (writeL (readL l)).length ≤ l.length + 5 := by
  unfold writeL
  rw [List.filter_eq_self.2 (read_all_plain l)]
  exact len_all _ l (Nat.le_refl _)
theorem write_snoc_no (xs : List StepD) (k : Nat) (h : k < xs.length) (hp : plainB xs[k] = false) : writeL (xs.take (k + 1)) = writeL (xs.take k) := by
  rw [List.take_succ_eq_append_getElem h, write_append]
  simp [writeL, hp]
theorem write_snoc (xs : List StepD) (k : Nat) (h : k < xs.length) (hp : plainB xs[k] = true) : writeL (xs.take (k + 1)) = writeL (xs.take k) ++ writeOne xs[k] := by
  rw [List.take_succ_eq_append_getElem h, write_append]
  simp [writeL, hp]
theorem writeOne_len (s : StepD) (h : plainB s = true) : (writeOne s).length ≤ 20 := by
  obtain ⟨_, _, _, _, h5, _, _⟩ := plain_parts h
  unfold writeOne
  split <;> simp
  omega
theorem writeL_len : ∀ xs : List StepD, (writeL xs).length ≤ 20 * xs.length
  | [] => by simp [writeL]
  | s :: xs => by
    have ih := writeL_len xs
    have e : writeL (s :: xs) = writeL [s] ++ writeL xs := write_append [s] xs
    rw [e, List.length_append, List.length_cons]
    cases hp : plainB s with
    | false => simp [writeL, hp] at ih ⊢; omega
    | true =>
      have := writeOne_len s hp
      simp [writeL, hp] at ih ⊢; omega
theorem bytes4 {s : StepD} (h : plainB s = true) : ([byteOf s.kind, byteOf s.a, byteOf s.b, byteOf s.c] : List UInt8).map (fun b => (b.toNat : Int)) = [s.kind, s.a, s.b, s.c] := by
  obtain ⟨hk, ha, hb, hc, _⟩ := plain_parts h
  simp only [List.map_cons, List.map_nil]
  rw [byteOf_toNat _ hk.1 (by omega), byteOf_toNat _ ha.1 ha.2, byteOf_toNat _ hb.1 hb.2, byteOf_toNat _ hc.1 hc.2]
theorem writeOne_no {s : StepD} (h : texts s.kind = false) : writeOne s = [byteOf s.kind, byteOf s.a, byteOf s.b, byteOf s.c] := by simp [writeOne, h]
theorem writeOne_yes {s : StepD} (h : texts s.kind = true) : writeOne s = [byteOf s.kind, byteOf s.a, byteOf s.b, byteOf s.c] ++ [byteOf (runesT s.text).length] ++ (runesT s.text).map least := by simp [writeOne, h]
theorem hd_drop (l : List UInt8) (i : Nat) (h : i < l.length) : hd (l.drop i) = (l[i]).toNat := by
  rw [List.drop_eq_getElem_cons h]; rfl
theorem hd_drop_ge (l : List UInt8) (i : Nat) (h : l.length ≤ i) : hd (l.drop i) = 0 := by
  rw [List.drop_eq_nil_iff.2 h]; rfl
end Scr
end Go
