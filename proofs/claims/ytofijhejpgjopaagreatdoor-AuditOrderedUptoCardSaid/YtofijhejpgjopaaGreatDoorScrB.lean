/- Scripts as plain data, second part: a text's characters; plain steps; writing. No program in sight. -/
import Derived.Test.YtofijhejpgjopaaGreatDoorScr
import Derived.Lib.DecodeN
namespace Go
namespace Scr

def decL (l : List UInt8) : Nat × Nat := Lib.decodeN l.length (l.getD 0 0).toNat (l.getD 1 0).toNat (l.getD 2 0).toNat (l.getD 3 0).toNat
theorem get!_drop (s : ByteArray) (i k : Nat) : s.get! (i + k) = (s.data.toList.drop i).getD k 0 := by
  obtain ⟨d⟩ := s
  show d[i + k]! = _
  rw [List.getD_eq_getElem?_getD, List.getElem?_drop, Array.getElem?_toList]
  rw [getElem!_def]
  cases d[i + k]? <;> rfl
theorem decode_list (s : ByteArray) (i : Nat) : Utf8.decode s i = decL (s.data.toList.drop i) := by
  rw [Lib.decode_at, decL]
  have h0 := get!_drop s i 0
  rw [Nat.add_zero] at h0
  rw [h0, get!_drop, get!_drop, get!_drop]
  simp
def encL (c : Int) : List UInt8 := (Utf8.encode c).data.toList
/-- The characters of bytes, as a range over them tells. -/
def runesF : Nat → List UInt8 → List Int
  | 0, _ => []
  | _ + 1, [] => []
  | f + 1, l => (decL l).1 :: runesF f (l.drop (decL l).2)
def runesL (l : List UInt8) : List Int := runesF l.length l
theorem decL_pos (l : List UInt8) : 1 ≤ (decL l).2 := by
  unfold decL Lib.decodeN
  repeat' split
  all_goals simp
theorem runesF_more : ∀ (f : Nat) (l : List UInt8), l.length ≤ f → runesF f l = runesF l.length l
  | 0, l, h => by
    have : l = [] := List.length_eq_zero_iff.1 (by omega)
    subst this; rfl
  | f + 1, [], _ => rfl
  | f + 1, b :: l, h => by
    show ((decL (b :: l)).1 : Int) :: runesF f ((b :: l).drop (decL (b :: l)).2) = ((decL (b :: l)).1 : Int) :: runesF l.length ((b :: l).drop (decL (b :: l)).2)
    have h1 := decL_pos (b :: l)
    have h2 : ((b :: l).drop (decL (b :: l)).2).length ≤ l.length := by simp; omega
    simp only [List.length_cons] at h
    rw [runesF_more f _ (by omega), runesF_more l.length _ (by omega)]
theorem runesL_nil : runesL [] = [] := rfl
theorem runesL_cons (l : List UInt8) (h : l ≠ []) : runesL l = ((decL l).1 : Int) :: runesL (l.drop (decL l).2) := by
  cases l with
  | nil => exact absurd rfl h
  | cons b l =>
    show ((decL (b :: l)).1 : Int) :: runesF l.length ((b :: l).drop (decL (b :: l)).2) = _
    have h1 := decL_pos (b :: l)
    have h2 : ((b :: l).drop (decL (b :: l)).2).length ≤ l.length := by simp; omega
    rw [runesF_more l.length _ (by omega)]; rfl
theorem runesL_len (l : List UInt8) : (runesL l).length ≤ l.length := by
  have key : ∀ n (l : List UInt8), l.length ≤ n → (runesL l).length ≤ l.length := by
    intro n
    induction n with
    | zero =>
      intro l h
      have : l = [] := List.length_eq_zero_iff.1 (by omega)
      subst this; simp [runesL_nil]
    | succ n ih =>
      intro l h
      by_cases hl : l = []
      · subst hl; simp [runesL_nil]
      · rw [runesL_cons l hl]
        have h1 := decL_pos l
        have hp := List.length_pos_iff.2 hl
        have := ih (l.drop (decL l).2) (by simp; omega)
        simp at this ⊢; omega
  exact key _ l (Nat.le_refl _)
/-- The characters that a plain step's text may have. -/
def alpha (c : Int) : Bool := decide (97 ≤ c ∧ c ≤ 122 ∨ c = 10 ∨ c = 233 ∨ c = 19990)
theorem enc_233 : encL 233 = [195, 169] := by decide +kernel
theorem enc_19990 : encL 19990 = [228, 184, 150] := by decide +kernel
theorem enc_ascii_all : ∀ n : Nat, n < 128 → encL (n : Int) = [UInt8.ofNat n] := by decide +kernel
theorem enc_ascii (b : UInt8) (h : b.toNat < 128) : encL b.toNat = [b] := by
  rw [enc_ascii_all _ h, UInt8.ofNat_toNat]
theorem dec_ascii (b : UInt8) (l : List UInt8) (h : b.toNat < 128) : decL (b :: l) = (b.toNat, 1) := by
  unfold decL Lib.decodeN
  simp only [List.getD_cons_zero, if_pos h]
theorem one_of (l : List UInt8) (h : 0 < l.length) : l = l.getD 0 0 :: l.drop 1 := by
  match l, h with
  | x :: r, _ => rfl
theorem two_of (l : List UInt8) (h : 1 < l.length) : l = l.getD 0 0 :: l.getD 1 0 :: l.drop 2 := by
  match l, h with
  | x :: y :: r, _ => rfl
theorem dec_high (b : UInt8) (l : List UInt8) (h : 128 ≤ b.toNat) (ha : alpha (decL (b :: l)).1 = true) :
    (decL (b :: l) = (233, 2) ∧ ∃ r, l = 169 :: r ∧ b = 195) ∨ (decL (b :: l) = (19990, 3) ∧ ∃ r, l = 184 :: 150 :: r ∧ b = 228) := by
  have h0 := b.toNat_lt
  have h1 := (l.getD 0 0).toNat_lt
  have h2 := (l.getD 1 0).toNat_lt
  unfold decL Lib.decodeN at ha ⊢
  simp only [List.getD_cons_zero, List.getD_cons_succ, List.length_cons] at ha ⊢
  rw [if_neg (by omega)] at ha ⊢
  split at ha
  · rename_i c1
    rw [if_pos c1]
    split at ha
    · rename_i c2
      rw [if_pos c2]
      simp only [alpha, decide_eq_true_eq] at ha
      left
      have e0 : b.toNat = 195 := by omega
      have e1 : (l.getD 0 0).toNat = 169 := by omega
      have e0' : b = 195 := UInt8.toNat_inj.1 e0
      have e1' : l.getD 0 0 = 169 := UInt8.toNat_inj.1 e1
      have hl : 0 < l.length := by omega
      have ht := one_of l hl
      rw [e1'] at ht
      clear e1' ha c2 c1 h1 h2
      exact ⟨by rw [e0, e1], l.drop 1, ht, e0'⟩
    · simp only [alpha, decide_eq_true_eq] at ha; omega
  · rename_i c1
    rw [if_neg c1]
    split at ha
    · rename_i c3
      rw [if_pos c3]
      split at ha
      · rename_i c2
        rw [if_pos c2]
        simp only [alpha, decide_eq_true_eq] at ha
        right
        have e0 : b.toNat = 228 := by omega
        have e1 : (l.getD 0 0).toNat = 184 := by omega
        have e2 : (l.getD 1 0).toNat = 150 := by omega
        have e0' : b = 228 := UInt8.toNat_inj.1 e0
        have e1' : l.getD 0 0 = 184 := UInt8.toNat_inj.1 e1
        have e2' : l.getD 1 0 = 150 := UInt8.toNat_inj.1 e2
        have hl : 1 < l.length := by omega
        have ht := two_of l hl
        rw [e1', e2'] at ht
        clear e1' e2' ha c2 c1 h1 h2 c3
        exact ⟨by rw [e0, e1, e2], l.drop 2, ht, e0'⟩
      · simp only [alpha, decide_eq_true_eq] at ha; omega
    · split at ha
      · rename_i c4
        split at ha
        · rename_i c5
          simp only [alpha, decide_eq_true_eq] at ha
          exfalso; omega
        · simp only [alpha, decide_eq_true_eq] at ha; omega
      · simp only [alpha, decide_eq_true_eq] at ha; omega
theorem dec_alpha (l : List UInt8) (h : l ≠ []) (ha : alpha (decL l).1 = true) : l = encL (decL l).1 ++ l.drop (decL l).2 := by
  match l, h with
  | b :: l, _ =>
    by_cases hb : b.toNat < 128
    · rw [dec_ascii b l hb]
      simp only [enc_ascii b hb]; rfl
    · rcases dec_high b l (by omega) ha with ⟨e, r, rfl, rfl⟩ | ⟨e, r, rfl, rfl⟩
      · rw [e]; show _ = encL 233 ++ _; rw [enc_233]; rfl
      · rw [e]; show _ = encL 19990 ++ _; rw [enc_19990]; rfl
theorem alpha_cases {c : Int} (h : alpha c = true) : (∃ b : UInt8, c = b.toNat ∧ b.toNat < 128) ∨ c = 233 ∨ c = 19990 := by
  simp only [alpha, decide_eq_true_eq] at h
  rcases h with h | h | h | h
  · exact .inl ⟨UInt8.ofNat c.toNat, by rw [UInt8.toNat_ofNat_of_lt' (by show c.toNat < 256; omega)]; omega, by rw [UInt8.toNat_ofNat_of_lt' (by show c.toNat < 256; omega)]; omega⟩
  · exact .inl ⟨10, by rw [h]; rfl, by decide⟩
  · exact .inr (.inl h)
  · exact .inr (.inr h)
theorem dec_233 (n b2 b3 : Nat) : Lib.decodeN (n+1+1) 195 169 b2 b3 = (233, 2) := by
  unfold Lib.decodeN
  rw [if_neg (by omega), if_pos (by omega), if_pos (by omega)]
theorem dec_19990 (n b3 : Nat) : Lib.decodeN (n+1+1+1) 228 184 150 b3 = (19990, 3) := by
  unfold Lib.decodeN
  rw [if_neg (by omega), if_neg (by omega), if_pos (by omega), if_pos (by omega)]
theorem nat_19990 : (19990 : Int).toNat = 19990 := Int.toNat_natCast 19990
theorem dec_enc (c : Int) (l : List UInt8) (ha : alpha c = true) : decL (encL c ++ l) = (c.toNat, (encL c).length) := by
  rcases alpha_cases ha with ⟨b, rfl, hb⟩ | rfl | rfl
  · rw [enc_ascii b hb]; show decL (b :: l) = _; rw [dec_ascii b l hb]; simp
  · rw [enc_233]; exact dec_233 _ _ _
  · rw [enc_19990, nat_19990]; exact dec_19990 _ _
theorem enc_ne (c : Int) : encL c ≠ [] := by
  unfold encL Utf8.encode
  intro h
  simp only at h
  split at h
  · split at h
    · simp at h
    · split at h
      · simp at h
      · split at h <;> simp at h
  · split at h
    · simp at h
    · split at h
      · simp at h
      · split at h <;> simp at h
theorem runes_enc : ∀ (cs : List Int), (∀ c ∈ cs, alpha c = true) → runesL (cs.flatMap encL) = cs
  | [], _ => rfl
  | c :: cs, h => by
    have hc := h c (by simp)
    have h0 : 0 ≤ c := by simp only [alpha, decide_eq_true_eq] at hc; omega
    rw [List.flatMap_cons, runesL_cons _ (by simp [enc_ne c]), dec_enc c _ hc, List.drop_left, runes_enc cs (fun x hx => h x (by simp [hx]))]
    simp [Int.toNat_of_nonneg h0]
theorem enc_runes (l : List UInt8) (h : ∀ c ∈ runesL l, alpha c = true) : l = (runesL l).flatMap encL := by
  have key : ∀ n (l : List UInt8), l.length ≤ n → (∀ c ∈ runesL l, alpha c = true) → l = (runesL l).flatMap encL := by
    intro n
    induction n with
    | zero =>
      intro l hl _
      have : l = [] := List.length_eq_zero_iff.1 (by omega)
      subst this; rfl
    | succ n ih =>
      intro l hl h
      by_cases hn : l = []
      · subst hn; rfl
      · rw [runesL_cons l hn] at h ⊢
        have hp := List.length_pos_iff.2 hn
        have h1 := decL_pos l
        rw [List.flatMap_cons, ← ih (l.drop (decL l).2) (by simp; omega) (fun c hc => h c (by simp [hc]))]
        exact dec_alpha l hn (h _ (by simp))
  exact key _ l (Nat.le_refl _) h
theorem utf8Of_list (cs : List Int) : (utf8Of cs).data.toList = cs.flatMap encL := by
  have key : ∀ (cs : List Int) (s : ByteArray), (cs.foldl (fun s n => s ++ Utf8.encode n) s).data.toList = s.data.toList ++ cs.flatMap encL := by
    intro cs
    induction cs with
    | nil => intro s; simp
    | cons c cs ih => intro s; rw [List.foldl_cons, ih]; simp [encL]
  have := key cs ByteArray.empty
  simpa [utf8Of] using this

/-- A character that UTF-8 can write. -/
def good (c : Int) : Prop := 0 ≤ c ∧ c < 55296 ∨ 57344 ≤ c ∧ c ≤ 1114111
theorem good_valid {c : Int} (h : good c) : Utf8.valid c = true := by
  unfold good at h
  simp only [Utf8.valid, Bool.or_eq_true, Bool.and_eq_true, decide_eq_true_eq]
  omega
theorem alpha_good {c : Int} (h : alpha c = true) : good c := by
  simp only [alpha, decide_eq_true_eq] at h
  unfold good; omega
theorem ofNat_int (n : Nat) (h : n < 256) : ((UInt8.ofNat n).toNat : Int) = n := by
  rw [UInt8.toNat_ofNat_of_lt' (by show n < 256; omega)]
theorem enc1 (c : Int) (h0 : 0 ≤ c) (h : c < 128) : (encL c).map (fun b => (b.toNat : Int)) = [c] := by
  unfold encL Utf8.encode
  rw [good_valid (by unfold good; omega)]
  simp only [if_true]
  rw [if_pos (show c.toNat < 128 by omega)]
  simp only [List.map_cons, List.map_nil]
  rw [ofNat_int _ (by omega), Int.toNat_of_nonneg h0]
theorem enc2 (c : Int) (h0 : 128 ≤ c) (h : c < 2048) : (encL c).map (fun b => (b.toNat : Int)) = [192 + c / 64, 128 + c % 64] := by
  unfold encL Utf8.encode
  rw [good_valid (by unfold good; omega)]
  simp only [if_true]
  rw [if_neg (show ¬ c.toNat < 128 by omega), if_pos (show c.toNat < 2048 by omega)]
  simp only [List.map_cons, List.map_nil]
  rw [ofNat_int _ (by omega), ofNat_int _ (by omega)]
  congr 1
  · omega
  · congr 1; omega
theorem enc3 (c : Int) (hg : good c) (h0 : 2048 ≤ c) (h : c < 65536) : (encL c).map (fun b => (b.toNat : Int)) = [224 + c / 4096, 128 + c / 64 % 64, 128 + c % 64] := by
  unfold encL Utf8.encode
  rw [good_valid hg]
  simp only [if_true]
  rw [if_neg (show ¬ c.toNat < 128 by omega), if_neg (show ¬ c.toNat < 2048 by omega), if_pos (show c.toNat < 65536 by omega)]
  simp only [List.map_cons, List.map_nil]
  rw [ofNat_int _ (by omega), ofNat_int _ (by omega), ofNat_int _ (by omega)]
  congr 1
  · omega
  · congr 1
    · omega
    · congr 1; omega
theorem enc4 (c : Int) (hg : good c) (h0 : 65536 ≤ c) : (encL c).map (fun b => (b.toNat : Int)) = [240 + c / 262144, 128 + c / 4096 % 64, 128 + c / 64 % 64, 128 + c % 64] := by
  have hle : c ≤ 1114111 := by unfold good at hg; omega
  unfold encL Utf8.encode
  rw [good_valid hg]
  simp only [if_true]
  rw [if_neg (show ¬ c.toNat < 128 by omega), if_neg (show ¬ c.toNat < 2048 by omega), if_neg (show ¬ c.toNat < 65536 by omega)]
  simp only [List.map_cons, List.map_nil]
  rw [ofNat_int _ (by omega), ofNat_int _ (by omega), ofNat_int _ (by omega), ofNat_int _ (by omega)]
  congr 1
  · omega
  · congr 1
    · omega
    · congr 1
      · omega
      · congr 1; omega
theorem enc_len (c : Int) : (encL c).length ≤ 4 := by
  unfold encL Utf8.encode
  simp only
  repeat' split
  all_goals simp
theorem flat_len : ∀ cs : List Int, (cs.flatMap encL).length ≤ 4 * cs.length
  | [] => by simp
  | c :: cs => by
    have h1 := enc_len c
    have h2 := flat_len cs
    rw [List.flatMap_cons, List.length_append, List.length_cons]; omega
theorem flat_snoc (cs : List Int) (k : Nat) (h : k < cs.length) : (cs.take (k + 1)).flatMap encL = (cs.take k).flatMap encL ++ encL cs[k] := by
  rw [List.take_succ_eq_append_getElem h, List.flatMap_append]; simp
end Scr
end Go
