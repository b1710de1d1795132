/- Texts of this proof, merged (printed by wip/pmerge.py out of RdG, RdH, RdI, RdJ, RdK, RdL). -/
import Derived.Test.YtnhmekdnfinmiaaGreatDoorQ5
/- Walks: the document's reader of packet: Bad, form, Number, Count, Byte. -/
namespace Go.Proofs.YtnhmekdnfinmiaaGreatDoor
open Go.RowKit Go.Par
set_option linter.unusedSimpArgs false
set_option linter.unusedVariables false
def DS (w : World) (D2 D9 : Nat) (a : Option Addr) (cap : Nat) (l : List UInt8) (cb : List Nat) (s : DSt) : Prop := match s.bad with
  | none => DG w D2 D9 a cap l s.p ∧ ∀ k ∈ cb, k < w.heap.size
  | some r => DB w D2 D9 a cap l s.p cb r ∧ D2 ≠ D9 ∧ ∀ q, a = some q → q.block < w.heap.size
def DPost {α : Type} (w : World) (D2 D9 : Nat) (a : Option Addr) (cap : Nat) (l : List UInt8) (cb : List Nat) (enc : α → World → Value → Prop) (r : α × DSt) (e : Ending) (w' : World) : Prop :=
  GrewX [D2, D9] w w' ∧ (∃ v, e = .returned v ∧ enc r.1 w' v) ∧ ∃ cb', (∀ k ∈ cb', k ∈ cb ∨ w.heap.size ≤ k) ∧ DS w' D2 D9 a cap l cb' r.2
section
variable {w w' : World} {D2 D9 : Nat} {a : Option Addr} {cap : Nat} {l : List UInt8} {cb : List Nat} {s : DSt}
theorem DS.grewX {ks : List Nat} (h : DS w D2 D9 a cap l cb s) (hg : GrewX ks w w') (h2 : D2 ∉ ks) (h9 : D9 ∉ ks) (ha : ∀ q, a = some q → q.block ∉ ks) (hc : ∀ k ∈ cb, k ∉ ks) : DS w' D2 D9 a cap l cb s := by
  unfold DS at h ⊢
  split at h
  · exact ⟨h.1.grewX hg h2 h9 ha, fun k hk => Nat.lt_of_lt_of_le (h.2 k hk) hg.size⟩
  · exact ⟨h.1.grewX hg h2 h9 hc, h.2.1, fun q hq => Nat.lt_of_lt_of_le (h.2.2 q hq) hg.size⟩
theorem DS.grew (h : DS w D2 D9 a cap l cb s) (hg : Grew w w') : DS w' D2 D9 a cap l cb s := h.grewX (ks := []) (GrewX.of_grew hg) (by simp) (by simp) (by simp) (by simp)
theorem DS.lt (h : DS w D2 D9 a cap l cb s) : ∀ k ∈ cb, k < w.heap.size := by
  unfold DS at h
  split at h
  · exact h.2
  · exact h.1.lt
theorem DS.al (h : DS w D2 D9 a cap l cb s) : ∀ q, a = some q → q.block < w.heap.size := by
  unfold DS at h
  split at h
  · exact h.1.al
  · exact h.2.2
theorem DS.c9 (h : DS w D2 D9 a cap l cb s) : D2 < w.heap.size ∧ D9 < w.heap.size ∧ D2 ≠ D9 ∧ ∃ b q, w.heap[D9]? = some (.cells #[pt D2, .bool b, .int .i64 q] tD9 (0, 0)) ∧ ∃ x0 x1 x2 x3 x4, w.heap[D2]? = some (.cells #[x0, x1, .int .i64 x2, x3, x4] tD2 (0, 0)) ∧ (b || x2 != 0) = s.bad.isSome := by
  unfold DS at h
  split at h
  · rename_i hb
    obtain ⟨h, -⟩ := h
    exact ⟨(Array.getElem?_eq_some_iff.1 h.c2).1, (Array.getElem?_eq_some_iff.1 h.c9).1, h.n29, _, _, h.c9, _, _, _, _, _, h.c2, by simp [hb]⟩
  · rename_i r hb
    obtain ⟨h, hn, -⟩ := h
    cases h with
    | wire h1 h3 h4 h5 h6 h7 h8 h10 h11 h12 h13 => exact ⟨(Array.getElem?_eq_some_iff.1 h4).1, (Array.getElem?_eq_some_iff.1 h5).1, hn, _, _, h5, _, _, _, _, _, h4, by simp [hb]; omega⟩
    | form h1 h3 h4 => exact ⟨(Array.getElem?_eq_some_iff.1 h1).1, (Array.getElem?_eq_some_iff.1 h3).1, hn, _, _, h3, _, _, _, _, _, h1, by simp [hb]⟩
set_option maxRecDepth 100000 in
theorem r9_bad (h : DS w D2 D9 a cap l cb s) : Calls Tryz.prog 15 #[pt D9] w fun e w' => e = .returned (.bool s.bad.isSome) ∧ w = w' := by
  obtain ⟨l2, l9, n29, b, q, h9, x0, x1, x2, x3, x4, h2, hb⟩ := h.c9
  obtain ⟨y0, -⟩ := World.own_cell h9 0 _ rfl
  obtain ⟨y1, -⟩ := World.own_cell h9 1 _ rfl
  obtain ⟨z2, -⟩ := World.own_cell h2 2 _ rfl
  have HB := Lib.hid hb
  clear h h9 h2 hb
  cases b with
  | true =>
    go_enter Tryz.func15, Tryz.ntmps15
    go_wp2
    go_ret
    exact ⟨by rw [← HB.out]; rfl, rfl⟩
  | false =>
    by_cases h0 : x2 = 0
    · have HB2 := Lib.hid (show s.bad.isSome = false by rw [← HB.out, h0]; rfl)
      go_enter Tryz.func15, Tryz.ntmps15
      go_wp2
      go_ret
      exact ⟨by rw [HB2.out]; rfl, rfl⟩
    · have HB2 := Lib.hid (show s.bad.isSome = true by rw [← HB.out]; simp [h0])
      have h0' : (x2 != 0) = true := by simp [h0]
      go_enter Tryz.func15, Tryz.ntmps15
      go_wp2
      go_ret
      exact ⟨by rw [HB2.out]; rfl, rfl⟩
def encNV (n : Nat) (_ : World) (v : Value) : Prop := v = .int .i64 n
set_option maxRecDepth 100000 in
set_option maxHeartbeats 1000000 in
theorem r9_number (h : DS w D2 D9 a cap l cb s) (m : Int) (hm : 0 ≤ m) (hm2 : m ≤ 9223372036854775807) :
    Calls Tryz.prog 17 #[pt D9, .int .i64 m] w (DPost w D2 D9 a cap l cb encNV (dNum l m s)) := by
  have BD := Lib.hid (r9_bad h)
  have H := Lib.hid h
  obtain ⟨l2, l9, n29, b, q, h9, -⟩ := h.c9
  obtain ⟨y0, -⟩ := World.own_cell h9 0 _ rfl
  obtain ⟨p, bad⟩ := s
  cases bad with
  | some r =>
    clear h h9 y0
    go_enter Tryz.func17, Tryz.ntmps17
    go_wp2_with (go_at_call 15; refine BD.out.mono ?_; rintro e w' ⟨rfl, rfl⟩; simp only [Option.isSome])
    go_ret
    exact ⟨GrewX.refl _ _, ⟨_, rfl, rfl⟩, cb, fun k hk => .inl hk, H.out⟩
  | none =>
    have RN := Lib.hid (r2_number (show DG w D2 D9 a cap l p from h.1) m hm hm2)
    clear h
    unfold dNum dW
    simp only
    cases hw : wNumber l m p with
    | error r =>
      rw [hw] at RN
      clear hw
      go_enter Tryz.func17, Tryz.ntmps17
      go_wp2_with (first
        | (go_at_call 15; refine BD.out.mono ?_; rintro e w' ⟨rfl, rfl⟩; simp only [Option.isSome])
        | (go_at_call 44; refine RN.out.mono ?_; rintro e w1 ⟨hg1, v, cb1, rfl, ⟨k, a1, n1, c1, a2, n2, c2, rfl⟩, hcb, hdb⟩; unfold noV; have HX := Lib.hid (And.intro hg1 (And.intro hcb hdb)); clear hg1 hcb hdb))
      go_ret
      exact ⟨(HX.out.1.mono (by simp)).alloc _, ⟨_, rfl, rfl⟩, cb1, fun k hk => .inr (HX.out.2.1 k hk), HX.out.2.2.grew ((Grew.refl _).alloc _), n29, fun q hq => by have := H.out.1.al q hq; have := HX.out.1.size; rw [alloc_size1]; omega⟩
    | ok x =>
      obtain ⟨n, q⟩ := x
      rw [hw] at RN
      clear hw
      go_enter Tryz.func17, Tryz.ntmps17
      go_wp2_with (first
        | (go_at_call 15; refine BD.out.mono ?_; rintro e w' ⟨rfl, rfl⟩; simp only [Option.isSome])
        | (go_at_call 44; refine RN.out.mono ?_; rintro e w1 ⟨hg1, v, rfl, ⟨k, a1, n1, c1, a2, n2, c2, rfl⟩, hd⟩; unfold noV; have HX := Lib.hid (And.intro hg1 hd); clear hg1 hd))
      go_ret
      exact ⟨(HX.out.1.mono (by simp)).alloc _, ⟨_, rfl, rfl⟩, cb, fun k hk => .inl hk, HX.out.2.grew ((Grew.refl _).alloc _), fun k hk => by have := H.out.2 k hk; have := HX.out.1.size; rw [alloc_size1]; omega⟩
set_option maxRecDepth 100000 in
set_option maxHeartbeats 1000000 in
theorem r9_count (h : DS w D2 D9 a cap l cb s) (least : Nat) (h1 : 1 ≤ least) (h4 : least ≤ 4) :
    Calls Tryz.prog 14 #[pt D9, .int .i64 least] w (DPost w D2 D9 a cap l cb encNV (dCount l least s)) := by
  have BD := Lib.hid (r9_bad h)
  have H := Lib.hid h
  obtain ⟨l2, l9, n29, b, q, h9, -⟩ := h.c9
  obtain ⟨y0, -⟩ := World.own_cell h9 0 _ rfl
  obtain ⟨p, bad⟩ := s
  cases bad with
  | some r =>
    clear h h9 y0
    go_enter Tryz.func14, Tryz.ntmps14
    go_wp2_with (go_at_call 15; refine BD.out.mono ?_; rintro e w' ⟨rfl, rfl⟩; simp only [Option.isSome])
    go_ret
    exact ⟨GrewX.refl _ _, ⟨_, rfl, rfl⟩, cb, fun k hk => .inl hk, H.out⟩
  | none =>
    have RN := Lib.hid (r2_count (show DG w D2 D9 a cap l p from h.1) least h1 h4)
    clear h
    unfold dCount dW
    simp only
    cases hw : wCount l least 2147483647 p with
    | error r =>
      rw [hw] at RN
      clear hw
      go_enter Tryz.func14, Tryz.ntmps14
      go_wp2_with (first
        | (go_at_call 15; refine BD.out.mono ?_; rintro e w' ⟨rfl, rfl⟩; simp only [Option.isSome])
        | (go_at_call 43; refine RN.out.mono ?_; rintro e w1 ⟨hg1, v, cb1, rfl, ⟨k, a1, n1, c1, a2, n2, c2, rfl⟩, hcb, hdb⟩; unfold noV; have HX := Lib.hid (And.intro hg1 (And.intro hcb hdb)); clear hg1 hcb hdb))
      go_ret
      exact ⟨(HX.out.1.mono (by simp)).alloc _, ⟨_, rfl, rfl⟩, cb1, fun k hk => .inr (HX.out.2.1 k hk), HX.out.2.2.grew ((Grew.refl _).alloc _), n29, fun q hq => by have := H.out.1.al q hq; have := HX.out.1.size; rw [alloc_size1]; omega⟩
    | ok x =>
      obtain ⟨n, q⟩ := x
      rw [hw] at RN
      clear hw
      go_enter Tryz.func14, Tryz.ntmps14
      go_wp2_with (first
        | (go_at_call 15; refine BD.out.mono ?_; rintro e w' ⟨rfl, rfl⟩; simp only [Option.isSome])
        | (go_at_call 43; refine RN.out.mono ?_; rintro e w1 ⟨hg1, v, rfl, ⟨k, a1, n1, c1, a2, n2, c2, rfl⟩, hd⟩; unfold noV; have HX := Lib.hid (And.intro hg1 hd); clear hg1 hd))
      go_ret
      exact ⟨(HX.out.1.mono (by simp)).alloc _, ⟨_, rfl, rfl⟩, cb, fun k hk => .inl hk, HX.out.2.grew ((Grew.refl _).alloc _), fun k hk => by have := H.out.2 k hk; have := HX.out.1.size; rw [alloc_size1]; omega⟩

def formS (s : DSt) (q : Nat) (c : Bool) : DSt := match s.bad with
  | some _ => s
  | none => ⟨s.p, if c then some (.form q) else none⟩
set_option maxRecDepth 100000 in
set_option maxHeartbeats 1000000 in
theorem r9_form (h : DS w D2 D9 a cap l cb s) (q : Nat) (c : Bool) :
    Calls Tryz.prog 42 #[pt D9, .int .i64 q, .bool c] w fun e w' => e = .returned (.tuple #[]) ∧ GrewX [D9] w w' ∧ DS w' D2 D9 a cap l cb (formS s q c) := by
  have BD := Lib.hid (r9_bad h)
  have H := Lib.hid h
  obtain ⟨l2, l9, n29, b, q9, h9, -⟩ := h.c9
  obtain ⟨y1, m1⟩ := World.own_cell h9 1 _ rfl
  obtain ⟨y2, m2⟩ := World.own_cell h9 2 _ rfl
  cases c with
  | false =>
    clear h h9 y1 y2 m1 m2
    go_enter Tryz.func42, Tryz.ntmps42
    go_wp2
    go_end0
    refine ⟨rfl, GrewX.refl _ _, ?_⟩
    have : formS s q false = s := by obtain ⟨p, bad⟩ := s; cases bad <;> rfl
    rw [this]; exact H.out
  | true =>
    obtain ⟨p, bad⟩ := s
    cases bad with
    | some r =>
      clear h h9 y1 y2 m1 m2
      go_enter Tryz.func42, Tryz.ntmps42
      go_wp2_with (go_at_call 15; refine BD.out.mono ?_; rintro e w' ⟨rfl, rfl⟩; simp only [Option.isSome])
      go_end0
      exact ⟨rfl, GrewX.refl _ _, H.out⟩
    | none =>
      have HD : Hid (DG w D2 D9 a cap l p ∧ ∀ k ∈ cb, k < w.heap.size) := Lib.hid h
      clear h h9
      go_enter Tryz.func42, Tryz.ntmps42
      go_wp2_with (go_at_call 15; refine BD.out.mono ?_; rintro e w' ⟨rfl, rfl⟩; simp only [Option.isSome])
      go_end0
      refine ⟨rfl, ((GrewX.refl _ _).set (.inl (by simp)) _).set (.inl (by simp)) _, .form ?_ ?_ (fun k hk => by rw [World.setCell_size, World.setCell_size]; exact HD.out.2 k hk), n29, fun q hq => by rw [World.setCell_size, World.setCell_size]; exact HD.out.1.al q hq⟩
      · rw [World.block_setCell _ _ _ _ n29, World.block_setCell _ _ _ _ n29]; exact HD.out.1.c2
      · exact World.own_set2 (World.own_set2 HD.out.1.c9 1 (.bool true) _ rfl) 2 (.int .i64 q) _ rfl
end
end Go.Proofs.YtnhmekdnfinmiaaGreatDoor
/- Walks: the document's reader of packet: Byte; of image: n. -/
namespace Go.Proofs.YtnhmekdnfinmiaaGreatDoor
open Go.RowKit Go.Par
set_option linter.unusedSimpArgs false
set_option linter.unusedVariables false
section
variable {w w' : World} {D2 D9 : Nat} {a : Option Addr} {cap : Nat} {l : List UInt8} {cb : List Nat} {s : DSt}
def encBV (b : UInt8) (_ : World) (v : Value) : Prop := v = .int .i64 b.toNat
set_option maxRecDepth 100000 in
set_option maxHeartbeats 1000000 in
theorem r9_byte (h : DS w D2 D9 a cap l cb s) (lo hi : Nat) (hlo : lo ≤ 255) (hhi : hi ≤ 255) :
    Calls Tryz.prog 12 #[pt D9, .int .i64 lo, .int .i64 hi] w (DPost w D2 D9 a cap l cb encBV (dByte l lo hi s)) := by
  have BD := Lib.hid (r9_bad h)
  have H := Lib.hid h
  obtain ⟨l2, l9, n29, b, q, h9, x0, x1, x2, x3, x4, h2, -⟩ := h.c9
  obtain ⟨y0, -⟩ := World.own_cell h9 0 _ rfl
  obtain ⟨p, bad⟩ := s
  cases bad with
  | some r =>
    clear h h9 y0
    go_enter Tryz.func12, Tryz.ntmps12
    go_wp2_with (go_at_call 15; refine BD.out.mono ?_; rintro e w' ⟨rfl, rfl⟩; simp only [Option.isSome])
    go_ret
    exact ⟨GrewX.refl _ _, ⟨_, rfl, rfl⟩, cb, fun k hk => .inl hk, H.out⟩
  | none =>
    have hd0 : DG w D2 D9 a cap l p := h.1
    have RN := Lib.hid (r2_byte hd0)
    obtain ⟨z1, -⟩ := World.own_cell hd0.c2 1 _ rfl
    clear h hd0 h2
    have hdb : dByte l lo hi ⟨p, none⟩ = match wByte l p with
      | .ok (x, q) => (x, formS ⟨q, none⟩ p (decide (x.toNat < lo) || decide (hi < x.toNat)))
      | .error r => (0, ⟨p, some r⟩) := by
      unfold dByte dChk dW
      cases wByte l p with
      | ok x => rfl
      | error r => rfl
    rw [hdb]
    clear hdb
    cases hw : wByte l p with
    | error r =>
      rw [hw] at RN
      clear hw
      simp only
      have FM := Lib.hid (fun W cb1 c (hW : DS W D2 D9 a cap l cb1 ⟨p, some r⟩) => r9_form hW p c)
      go_enter Tryz.func12, Tryz.ntmps12
      go_wp2_with (first
        | (go_at_call 15; refine BD.out.mono ?_; rintro e w' ⟨rfl, rfl⟩; simp only [Option.isSome])
        | (go_at_call 41; refine RN.out.mono ?_; rintro e w1 ⟨hg1, v, cb1, rfl, ⟨k, a1, n1, c1, a2, n2, c2, rfl⟩, hcb, hdb⟩; unfold noV; have HX := Lib.hid (And.intro hg1 (And.intro hcb hdb)); clear hg1 hcb hdb)
        | (go_at_call 42; refine (FM.out _ cb1 _ ⟨HX.out.2.2.grew (by exact by repeat (first | with_reducible exact HG.out | with_reducible exact Grew.refl _ | with_reducible assumption | with_reducible apply Grew.plus | with_reducible apply Grew.drewN | with_reducible apply Grew.drew | with_reducible apply Grew.alloc | with_reducible refine Grew.setCell ?_ (by simp [go_sem]; try omega) _)), n29, fun q hq => by have := H.out.1.al q hq; have := HX.out.1.size; rw [alloc_size1]; omega⟩).mono ?_; rintro e w2 ⟨rfl, hg2, hd2⟩; have HY := Lib.hid (And.intro hg2 hd2); clear hg2 hd2))
      all_goals
        go_ret
        exact ⟨((HX.out.1.mono (by simp)).alloc _).trans (HY.out.1.mono (by simp)), ⟨_, rfl, rfl⟩, cb1, fun k hk => .inr (HX.out.2.1 k hk), HY.out.2⟩
    | ok x =>
      obtain ⟨b, q⟩ := x
      rw [hw] at RN
      clear hw
      simp only
      have HCB := Lib.hid H.out.2
      have FM := Lib.hid (fun W c (hW : DS W D2 D9 a cap l cb ⟨q, none⟩) => r9_form hW p c)
      have hbl : b.toNat < 256 := b.toNat_lt
      by_cases h1 : b.toNat < lo
      · simp only [decide_eq_true h1, Bool.true_or]
        have h1' : (b.toNat : Int) < lo := by omega
        go_enter Tryz.func12, Tryz.ntmps12
        go_wp2_with (first
          | (go_at_call 15; refine BD.out.mono ?_; rintro e w' ⟨rfl, rfl⟩; simp only [Option.isSome])
          | (go_at_call 41; refine RN.out.mono ?_; rintro e w1 ⟨hg1, v, rfl, ⟨k, a1, n1, c1, a2, n2, c2, rfl⟩, hd⟩; unfold noV; have HX := Lib.hid (And.intro hg1 hd); clear hg1 hd)
          | (go_at_call 42; refine (FM.out _ true ⟨HX.out.2.grew (by exact by repeat (first | with_reducible exact HG.out | with_reducible exact Grew.refl _ | with_reducible assumption | with_reducible apply Grew.plus | with_reducible apply Grew.drewN | with_reducible apply Grew.drew | with_reducible apply Grew.alloc | with_reducible refine Grew.setCell ?_ (by simp [go_sem]; try omega) _)), fun k hk => by have := HCB.out k hk; have := HX.out.1.size; rw [alloc_size1]; omega⟩).mono ?_; rintro e w2 ⟨rfl, hg2, hd2⟩; have HY := Lib.hid (And.intro hg2 hd2); clear hg2 hd2))
        go_ret
        exact ⟨((HX.out.1.mono (by simp)).alloc _).trans (HY.out.1.mono (by simp)), ⟨_, rfl, rfl⟩, cb, fun k hk => .inl hk, HY.out.2⟩
      · have h1' : ¬ ((b.toNat : Int) < lo) := by omega
        by_cases h2 : hi < b.toNat
        · simp only [decide_eq_false h1, decide_eq_true h2, Bool.or_true]
          have h2' : (hi : Int) < b.toNat := by omega
          go_enter Tryz.func12, Tryz.ntmps12
          go_wp2_with (first
            | (go_at_call 15; refine BD.out.mono ?_; rintro e w' ⟨rfl, rfl⟩; simp only [Option.isSome])
            | (go_at_call 41; refine RN.out.mono ?_; rintro e w1 ⟨hg1, v, rfl, ⟨k, a1, n1, c1, a2, n2, c2, rfl⟩, hd⟩; unfold noV; have HX := Lib.hid (And.intro hg1 hd); clear hg1 hd)
            | (go_at_call 42; refine (FM.out _ true ⟨HX.out.2.grew (by exact by repeat (first | with_reducible exact HG.out | with_reducible exact Grew.refl _ | with_reducible assumption | with_reducible apply Grew.plus | with_reducible apply Grew.drewN | with_reducible apply Grew.drew | with_reducible apply Grew.alloc | with_reducible refine Grew.setCell ?_ (by simp [go_sem]; try omega) _)), fun k hk => by have := HCB.out k hk; have := HX.out.1.size; rw [alloc_size1]; omega⟩).mono ?_; rintro e w2 ⟨rfl, hg2, hd2⟩; have HY := Lib.hid (And.intro hg2 hd2); clear hg2 hd2))
          go_ret
          exact ⟨((HX.out.1.mono (by simp)).alloc _).trans (HY.out.1.mono (by simp)), ⟨_, rfl, rfl⟩, cb, fun k hk => .inl hk, HY.out.2⟩
        · simp only [decide_eq_false h1, decide_eq_false h2, Bool.or_false]
          have h2' : ¬ ((hi : Int) < b.toNat) := by omega
          go_enter Tryz.func12, Tryz.ntmps12
          go_wp2_with (first
            | (go_at_call 15; refine BD.out.mono ?_; rintro e w' ⟨rfl, rfl⟩; simp only [Option.isSome])
            | (go_at_call 41; refine RN.out.mono ?_; rintro e w1 ⟨hg1, v, rfl, ⟨k, a1, n1, c1, a2, n2, c2, rfl⟩, hd⟩; unfold noV; have HX := Lib.hid (And.intro hg1 hd); clear hg1 hd)
            | (go_at_call 42; refine (FM.out _ false ⟨HX.out.2.grew (by exact by repeat (first | with_reducible exact HG.out | with_reducible exact Grew.refl _ | with_reducible assumption | with_reducible apply Grew.plus | with_reducible apply Grew.drewN | with_reducible apply Grew.drew | with_reducible apply Grew.alloc | with_reducible refine Grew.setCell ?_ (by simp [go_sem]; try omega) _)), fun k hk => by have := HCB.out k hk; have := HX.out.1.size; rw [alloc_size1]; omega⟩).mono ?_; rintro e w2 ⟨rfl, hg2, hd2⟩; have HY := Lib.hid (And.intro hg2 hd2); clear hg2 hd2))
          go_ret
          exact ⟨((HX.out.1.mono (by simp)).alloc _).trans (HY.out.1.mono (by simp)), ⟨_, rfl, rfl⟩, cb, fun k hk => .inl hk, HY.out.2⟩
set_option maxRecDepth 100000 in
theorem r17_n (h : DS w D2 D9 a cap l cb s) : Calls Tryz.prog 13 #[pt D9] w (DPost w D2 D9 a cap l cb encNV (dNum l most s)) := by
  have RN := Lib.hid (r9_number h 9223372036854775807 (by decide) (by decide))
  obtain ⟨l2, l9, n29, -⟩ := h.c9
  clear h
  unfold most
  go_enter Tryz.func13, Tryz.ntmps13
  go_wp2_with (go_at_call 17; refine RN.out.mono ?_; rintro e w1 ⟨hg1, ⟨v, rfl, rfl⟩, hx⟩)
  go_ret
  exact ⟨hg1, ⟨_, rfl, rfl⟩, hx⟩
end
end Go.Proofs.YtnhmekdnfinmiaaGreatDoor
/- Walks: what stands while the document reads; an ID. -/
namespace Go.Proofs.YtnhmekdnfinmiaaGreatDoor
open Go.RowKit Go.Par
set_option linter.unusedSimpArgs false
set_option linter.unusedVariables false
structure DQ (w : World) (D2 D9 : Nat) (a : Option Addr) (cap : Nat) (l : List UInt8) (cb : List Nat) (W : World) (s : DSt) (os : List Nat) : Prop where
  g : GrewX [D2, D9] w W
  st : ∃ cb', (∀ k ∈ cb', (k ∈ cb ∨ w.heap.size ≤ k) ∧ k ∉ os) ∧ DS W D2 D9 a cap l cb' s
  os : ∀ k ∈ os, w.heap.size ≤ k ∧ k < W.heap.size
  d : D2 < w.heap.size ∧ D9 < w.heap.size
  al : ∀ q, a = some q → q.block < w.heap.size
section
variable {w w' W W' : World} {D2 D9 : Nat} {a : Option Addr} {cap : Nat} {l : List UInt8} {cb os : List Nat} {s : DSt}
theorem DQ.start (h : DS w D2 D9 a cap l cb s) : DQ w D2 D9 a cap l cb w s [] :=
  ⟨GrewX.refl _ _, ⟨cb, fun k hk => ⟨.inl hk, by simp⟩, h⟩, by simp, ⟨h.c9.1, h.c9.2.1⟩, h.al⟩
theorem DQ.grew (h : DQ w D2 D9 a cap l cb W s os) (hg : Grew W W') : DQ w D2 D9 a cap l cb W' s os := by
  obtain ⟨cb', h1, h2⟩ := h.st
  exact ⟨h.g.grew hg, ⟨cb', h1, h2.grew hg⟩, fun k hk => ⟨(h.os k hk).1, Nat.lt_of_lt_of_le (h.os k hk).2 hg.size⟩, h.d, h.al⟩
theorem DQ.own (h : DQ w D2 D9 a cap l cb W s os) (hg : Grew W W') {X : Nat} (h1 : W.heap.size ≤ X) (h2 : X < W'.heap.size) : DQ w D2 D9 a cap l cb W' s (X :: os) := by
  obtain ⟨cb', h3, h4⟩ := h.st
  refine ⟨h.g.grew hg, ⟨cb', fun k hk => ⟨(h3 k hk).1, ?_⟩, h4.grew hg⟩, fun k hk => ?_, h.d, h.al⟩
  · have := h4.lt k hk
    simp only [List.mem_cons, not_or]
    exact ⟨by omega, (h3 k hk).2⟩
  · rcases List.mem_cons.1 hk with rfl | hk
    · exact ⟨Nat.le_trans h.g.size h1, h2⟩
    · exact ⟨(h.os k hk).1, Nat.lt_of_lt_of_le (h.os k hk).2 hg.size⟩
theorem DQ.writes (h : DQ w D2 D9 a cap l cb W s os) {ks : List Nat} (hg : GrewX ks W W') (hk : ∀ k ∈ ks, k ∈ os) : DQ w D2 D9 a cap l cb W' s os := by
  obtain ⟨cb', h3, h4⟩ := h.st
  have hd := h.d
  have h0 : ∀ k ∈ ks, w.heap.size ≤ k := fun k hm => (h.os k (hk k hm)).1
  refine ⟨((h.g.mono (ks' := [D2, D9] ++ ks) (fun k hk => List.mem_append_left _ hk)).trans (hg.mono (fun k hk => List.mem_append_right _ hk))).fresh (fun k hm => ?_), ⟨cb', h3, h4.grewX hg ?_ ?_ ?_ ?_⟩, fun k hk => ⟨(h.os k hk).1, Nat.lt_of_lt_of_le (h.os k hk).2 hg.size⟩, h.d, h.al⟩
  · rcases List.mem_append.1 hm with h | h
    · exact .inl h
    · exact .inr (h0 k h)
  · exact fun hm => by have := h0 _ hm; omega
  · exact fun hm => by have := h0 _ hm; omega
  · exact fun q hq hm => by have := h0 _ hm; have := h.al q hq; omega
  · exact fun k hm hm2 => (h3 k hm).2 (hk k hm2)
theorem DQ.set (h : DQ w D2 D9 a cap l cb W s os) {X : Nat} (hX : X ∈ os) (i : Nat) (v : Value) : DQ w D2 D9 a cap l cb (W.setCell ⟨X, i, none⟩ v) s os :=
  h.writes (ks := [X]) ((GrewX.refl _ _).set (.inl (by simp)) v) (by simpa using hX)
theorem DQ.call (h : DQ w D2 D9 a cap l cb W s os) {α : Type} {enc : α → World → Value → Prop} {m : DM α} {f : FuncId} {args : Array Value} (hc : ∀ cb', DS W D2 D9 a cap l cb' s → Calls Tryz.prog f args W (DPost W D2 D9 a cap l cb' enc (m s))) {X : Ending → World → Prop}
    (hX : ∀ W' v, GrewX [D2, D9] W W' → enc (m s).1 W' v → DQ w D2 D9 a cap l cb W' (m s).2 os → X (.returned v) W') : Calls Tryz.prog f args W X := by
  obtain ⟨cb', h3, h4⟩ := h.st
  refine (hc cb' h4).mono ?_
  rintro e W' ⟨hg, ⟨v, rfl, he⟩, cb2, h5, h6⟩
  refine hX W' v hg he ⟨h.g.trans hg, ⟨cb2, fun k hk => ?_, h6⟩, fun k hk => ⟨(h.os k hk).1, Nat.lt_of_lt_of_le (h.os k hk).2 hg.size⟩, h.d, h.al⟩
  rcases h5 k hk with h7 | h7
  · exact h3 k h7
  · exact ⟨.inr (Nat.le_trans h.g.size h7), fun hm => by have := (h.os k hm).2; omega⟩
theorem DQ.post (h : DQ w D2 D9 a cap l cb W s os) {α : Type} {enc : α → World → Value → Prop} {x : α} {v : Value} (he : enc x W v) {r : α × DSt} (hr : r = (x, s)) : DPost w D2 D9 a cap l cb enc r (.returned v) W := by
  obtain ⟨cb', h3, h4⟩ := h.st
  subst hr
  exact ⟨h.g, ⟨v, rfl, he⟩, cb', fun k hk => (h3 k hk).1, h4⟩
theorem DQ.kept (h : DQ w D2 D9 a cap l cb W s os) {X : Nat} (hX : X ∈ os) {o : Obj} (ho : W.heap[X]? = some o) (hg : GrewX [D2, D9] W W') : W'.heap[X]? = some o := by
  have := h.d
  have := (h.os X hX).1
  exact hg.heap ho (by simp; omega)
def encIdV (i : PId) (_ : World) (v : Value) : Prop := v = idV i
set_option maxRecDepth 100000 in
set_option maxHeartbeats 1000000 in
theorem r17_id (h : DS w D2 D9 a cap l cb s) : Calls Tryz.prog 16 #[pt D9] w (DPost w D2 D9 a cap l cb encIdV (dId l s)) := by
  have Q0 := DQ.start h
  have hZ : (.cells #[.int .i64 0, .int .i64 0, .int .i64 0] 36 : Obj) = .cells #[.int .i64 0, .int .i64 0, .int .i64 0] 36 := rfl
  have Q1 := Q0.own ((Grew.refl w).alloc (.cells #[.int .i64 0, .int .i64 0, .int .i64 0] 36)) (Nat.le_refl _) (by simp [go_sem])
  have Q2 := Q1.own ((Grew.refl _).alloc (.cells #[.int .i64 0, .int .i64 0, .int .i64 0] 36)) (Nat.le_refl _) (by simp [go_sem])
  rw [alloc_size1] at Q2
  have o2 : ((w.alloc (.cells #[.int .i64 0, .int .i64 0, .int .i64 0] 36)).alloc (.cells #[.int .i64 0, .int .i64 0, .int .i64 0] 36)).heap[w.heap.size]? = some (.cells #[.int .i64 0, .int .i64 0, .int .i64 0] 36 (0, 0)) := Grew.heap ((Grew.refl _).alloc _) (heap_alloc_new w _)
  have o3 : ((w.alloc (.cells #[.int .i64 0, .int .i64 0, .int .i64 0] 36)).alloc (.cells #[.int .i64 0, .int .i64 0, .int .i64 0] 36)).heap[w.heap.size + 1]? = some (.cells #[.int .i64 0, .int .i64 0, .int .i64 0] 36 (0, 0)) := heap_alloc_at _ _ _ (by simp [go_sem])
  have HQ2 := Lib.hid Q2
  have HO := Lib.hid (And.intro o2 o3)
  clear h Q0 Q1 Q2 o2 o3 hZ
  go_enter Tryz.func16, Tryz.ntmps16
  go_wp2_with fail
  generalize ((w.alloc (.cells #[.int .i64 0, .int .i64 0, .int .i64 0] 36)).alloc (.cells #[.int .i64 0, .int .i64 0, .int .i64 0] 36)) = W2 at *
  obtain ⟨o2, o3⟩ := HO.out
  have ne32 : w.heap.size ≠ w.heap.size + 1 := by omega
  refine HQ2.out.call (fun cb' hd => r17_n hd) (fun V0 v hg he q0 => ?_)
  obtain rfl := he
  have p2 := HQ2.out.kept (by simp) o2 hg
  have p3 := HQ2.out.kept (by simp) o3 hg
  generalize hs0 : dNum l most s = r0 at *
  obtain ⟨x0, s0⟩ := r0
  simp only at q0 ⊢
  obtain ⟨c, m⟩ := World.own_cell p3 0 _ rfl
  have lb := World.block_lt_of_cell? _ _ c
  simp only at lb
  have n3 : (V0.setCell ⟨w.heap.size + 1, 0, none⟩ (.int .i64 x0)).heap[w.heap.size + 1]? = some (.cells #[.int .i64 x0, .int .i64 0, .int .i64 0] 36 (0, 0)) := World.own_set2 p3 0 _ _ rfl
  have n2 : (V0.setCell ⟨w.heap.size + 1, 0, none⟩ (.int .i64 x0)).heap[w.heap.size]? = some (.cells #[.int .i64 0, .int .i64 0, .int .i64 0] 36 (0, 0)) := by rw [World.block_setCell _ _ _ _ ne32]; exact p2
  have HQ3 := Lib.hid (q0.set (X := w.heap.size + 1) (by simp) 0 (.int .i64 x0))
  have HS0 := Lib.hid hs0
  clear o2 o3 p2 p3 hg q0 hs0
  have n3h := Lib.hid n3
  have n2h := Lib.hid n2
  clear n2 n3
  go_wp2_with fail
  clear c m lb
  have o2 := n2h.out
  have o3 := n3h.out
  clear n2h n3h
  generalize V0.setCell ⟨w.heap.size + 1, 0, none⟩ (.int .i64 x0) = W3 at *
  refine HQ3.out.call (fun cb' hd => r17_n hd) (fun V1 v hg he q1 => ?_)
  obtain rfl := he
  have p2 := HQ3.out.kept (by simp) o2 hg
  have p3 := HQ3.out.kept (by simp) o3 hg
  generalize hs1 : dNum l most s0 = r1 at *
  obtain ⟨x1, s1⟩ := r1
  simp only at q1 ⊢
  obtain ⟨c, m⟩ := World.own_cell p3 1 _ rfl
  have lb := World.block_lt_of_cell? _ _ c
  simp only at lb
  have n3 : (V1.setCell ⟨w.heap.size + 1, 1, none⟩ (.int .i64 x1)).heap[w.heap.size + 1]? = some (.cells #[.int .i64 x0, .int .i64 x1, .int .i64 0] 36 (0, 0)) := World.own_set2 p3 1 _ _ rfl
  have n2 : (V1.setCell ⟨w.heap.size + 1, 1, none⟩ (.int .i64 x1)).heap[w.heap.size]? = some (.cells #[.int .i64 0, .int .i64 0, .int .i64 0] 36 (0, 0)) := by rw [World.block_setCell _ _ _ _ ne32]; exact p2
  have HQ4 := Lib.hid (q1.set (X := w.heap.size + 1) (by simp) 1 (.int .i64 x1))
  have HS1 := Lib.hid hs1
  clear o2 o3 p2 p3 hg q1 hs1
  have n3h := Lib.hid n3
  have n2h := Lib.hid n2
  clear n2 n3
  go_wp2_with fail
  clear c m lb
  have o2 := n2h.out
  have o3 := n3h.out
  clear n2h n3h
  generalize V1.setCell ⟨w.heap.size + 1, 1, none⟩ (.int .i64 x1) = W4 at *
  refine HQ4.out.call (fun cb' hd => r17_n hd) (fun V2 v hg he q2 => ?_)
  obtain rfl := he
  have p2 := HQ4.out.kept (by simp) o2 hg
  have p3 := HQ4.out.kept (by simp) o3 hg
  generalize hs2 : dNum l most s1 = r2 at *
  obtain ⟨x2, s2⟩ := r2
  simp only at q2 ⊢
  obtain ⟨c, m⟩ := World.own_cell p3 2 _ rfl
  have lb := World.block_lt_of_cell? _ _ c
  simp only at lb
  have n3 : (V2.setCell ⟨w.heap.size + 1, 2, none⟩ (.int .i64 x2)).heap[w.heap.size + 1]? = some (.cells #[.int .i64 x0, .int .i64 x1, .int .i64 x2] 36 (0, 0)) := World.own_set2 p3 2 _ _ rfl
  have n2 : (V2.setCell ⟨w.heap.size + 1, 2, none⟩ (.int .i64 x2)).heap[w.heap.size]? = some (.cells #[.int .i64 0, .int .i64 0, .int .i64 0] 36 (0, 0)) := by rw [World.block_setCell _ _ _ _ ne32]; exact p2
  have HQ5 := Lib.hid (q2.set (X := w.heap.size + 1) (by simp) 2 (.int .i64 x2))
  have HS2 := Lib.hid hs2
  clear o2 o3 p2 p3 hg q2 hs2
  have n3h := Lib.hid n3
  have n2h := Lib.hid n2
  clear n2 n3
  have c3 : (V2.setCell ⟨w.heap.size + 1, 2, none⟩ (.int .i64 x2)).cellsAt ⟨w.heap.size + 1, 0, none⟩ 3 = some [.int .i64 x0, .int .i64 x1, .int .i64 x2] := World.cellsAt_block n3h.out 3 rfl
  obtain ⟨d0, e0⟩ := World.own_cell n2h.out 0 _ rfl
  obtain ⟨d1, e1⟩ := World.own_cell n2h.out 1 _ rfl
  obtain ⟨d2, e2⟩ := World.own_cell n2h.out 2 _ rfl
  have lc := World.block_lt_of_cell? _ _ d0
  simp only [World.setCell_size] at lc
  go_wp2_with fail
  have h3 := own3 n2h.out (.int .i64 x0) (.int .i64 x1) (.int .i64 x2)
  have Q6 := ((HQ5.out.set (X := w.heap.size) (by simp) 0 (.int .i64 x0)).set (X := w.heap.size) (by simp) 1 (.int .i64 x1)).set (X := w.heap.size) (by simp) 2 (.int .i64 x2)
  obtain ⟨f0, -⟩ := World.own_cell h3 0 _ rfl
  obtain ⟨f1, -⟩ := World.own_cell h3 1 _ rfl
  obtain ⟨f2, -⟩ := World.own_cell h3 2 _ rfl
  have hr : dId l s = (⟨x0, x1, x2⟩, s2) := by
    unfold dId DM.bind DM.pure
    simp only [HS0.out, HS1.out, HS2.out]
  exact bodyPost_ret (v := idV ⟨x0, x1, x2⟩) (by simp [results, Tryz.results16, go_sem, f0, f1, f2, idV]) rfl (Q6.post rfl hr)
end
end Go.Proofs.YtnhmekdnfinmiaaGreatDoor
/- Walks: the document's reader of packet: Clock. -/
namespace Go.Par
theorem pad8_push {xs : List Nat} (h : xs.length < 8) (v : Nat) : (pad8 xs).set xs.length v = pad8 (xs ++ [v]) := by
  unfold pad8
  rw [List.set_append_right _ _ (Nat.le_refl _), Nat.sub_self, show 8 - xs.length = (7 - xs.length) + 1 by omega, List.replicate_succ, List.set_cons_zero, List.length_append, List.length_singleton, show 8 - (xs.length + 1) = 7 - xs.length by omega]
  simp
theorem scan_range (l : List UInt8) (m : Int) (hm : 0 ≤ m) : ∀ f k n p n' q, scan l m f k n p = .ok (n', q) → (n' : Int) ≤ m
  | 0, k, n, p, n', q, h => by rw [scan] at h; cases h
  | f + 1, k, n, p, n', q, h => by
    rw [scan] at h
    split at h
    · cases h
    · simp only at h
      split at h
      · exact scan_range l m hm f _ _ _ _ _ h
      · split at h
        · cases h
        · split at h
          · cases h
          · cases h; omega
theorem dNum_le (l : List UInt8) {m : Int} (hm : 0 ≤ m) (s : DSt) : ((dNum l m s).1 : Int) ≤ m := by
  unfold dNum dW
  split
  · exact hm
  · rename_i hb
    unfold wNumber
    cases hs : scan l m 9 0 0 s.p with
    | ok x => exact scan_range l m hm _ _ _ _ _ _ hs
    | error c => exact hm
def drowB (l : List UInt8) (m : Int) (n i : Nat) (xs : List Nat) : DM (List Nat) := (dLast l i n m).bind fun v => DM.pure (xs ++ [v])
theorem dRow_eq (l : List UInt8) (m : Int) : dRow l m = (dNum l 8).bind fun n => dLoop' (drowB l m n) n 0 [] := rfl
end Go.Par
namespace Go.Proofs.YtnhmekdnfinmiaaGreatDoor
open Go.RowKit Go.Par
set_option linter.unusedSimpArgs false
set_option linter.unusedVariables false
section
variable {w w' W W' : World} {D2 D9 : Nat} {a : Option Addr} {cap : Nat} {l : List UInt8} {cb os : List Nat} {s : DSt}
theorem DS.at_ (h : DS w D2 D9 a cap l cb s) : w.cell? ⟨D2, 1, none⟩ = some (.int .i64 s.p) := by
  unfold DS at h
  split at h
  · exact (World.own_cell h.1.c2 1 _ rfl).1
  · rename_i r hb
    obtain ⟨h, -, -⟩ := h
    cases h with
    | wire h1 h3 h4 h5 h6 h7 h8 h10 h11 h12 h13 => exact (World.own_cell h4 1 _ rfl).1
    | form h1 h3 h4 => exact (World.own_cell h1 1 _ rfl).1
theorem DQ.at_ (h : DQ w D2 D9 a cap l cb W s os) : W.cell? ⟨D2, 1, none⟩ = some (.int .i64 s.p) ∧ W.cell? ⟨D9, 0, none⟩ = some (pt D2) ∧ D2 < W.heap.size ∧ D9 < W.heap.size := by
  obtain ⟨cb', -, hd⟩ := h.st
  obtain ⟨l2, l9, n29, b, q, h9, -⟩ := hd.c9
  exact ⟨hd.at_, (World.own_cell h9 0 _ rfl).1, l2, l9⟩
theorem DQ.form (h : DQ w D2 D9 a cap l cb W s os) (q : Nat) (c : Bool) {X : Ending → World → Prop}
    (hX : ∀ W', GrewX [D2, D9] W W' → DQ w D2 D9 a cap l cb W' (formS s q c) os → X (.returned (.tuple #[])) W') : Calls Tryz.prog 42 #[pt D9, .int .i64 q, .bool c] W X := by
  obtain ⟨cb', h3, h4⟩ := h.st
  refine (r9_form h4 q c).mono ?_
  rintro e W' ⟨rfl, hg, h6⟩
  exact hX W' (hg.mono (by simp)) ⟨h.g.trans (hg.mono (by simp)), ⟨cb', h3, h6⟩, fun k hk => ⟨(h.os k hk).1, Nat.lt_of_lt_of_le (h.os k hk).2 hg.size⟩, h.d, h.al⟩
def encClk (t : List Nat) (_ : World) (v : Value) : Prop := v = .agg (arr (pad8 t)) ∧ t.length ≤ 8
theorem info_clock : (Tryz.prog.info? 29).map (·.size) = some 8 := by kernel_rfl
theorem dLast_is (i n : Nat) (m : Int) (s s1 : DSt) (v : Nat) (h : dNum l m s = (v, s1)) : dLast l i n m s = (v, formS s1 s.p (decide (i + 1 = n) && decide (v = 0))) := by
  unfold dLast dChk formS
  rw [h]
  obtain ⟨p1, b1⟩ := s1
  cases b1 <;> rfl
set_option maxRecDepth 100000 in
set_option maxHeartbeats 1000000 in
theorem r9_clock (h : DS w D2 D9 a cap l cb s) : Calls Tryz.prog 45 #[pt D9] w (DPost w D2 D9 a cap l cb encClk (dRow l most s)) := by
  have Q0 := DQ.start h
  have Q1 := Q0.own ((Grew.refl w).alloc (.cells (arr (pad8 [])) 29)) (Nat.le_refl _) (by simp [go_sem])
  have Q2 := Q1.own ((Grew.refl _).alloc (.cells (arr (pad8 [])) 29)) (Nat.le_refl _) (by simp [go_sem])
  rw [alloc_size1] at Q2
  have o2 : ((w.alloc (.cells (arr (pad8 [])) 29)).alloc (.cells (arr (pad8 [])) 29)).heap[w.heap.size]? = some (.cells (arr (pad8 [])) 29 (0, 0)) := Grew.heap ((Grew.refl _).alloc _) (heap_alloc_new w _)
  have o3 : ((w.alloc (.cells (arr (pad8 [])) 29)).alloc (.cells (arr (pad8 [])) 29)).heap[w.heap.size + 1]? = some (.cells (arr (pad8 [])) 29 (0, 0)) := heap_alloc_at _ _ _ (by simp [go_sem])
  have HQ2 := Lib.hid Q2
  have HO := Lib.hid (And.intro o2 o3)
  clear h Q0 Q1 Q2 o2 o3
  go_enter Tryz.func45, Tryz.ntmps45
  go_wp2_with fail
  rw [show #[Value.int .i64 0, .int .i64 0, .int .i64 0, .int .i64 0, .int .i64 0, .int .i64 0, .int .i64 0, .int .i64 0] = arr (pad8 []) from rfl]
  generalize ((w.alloc (.cells (arr (pad8 [])) 29)).alloc (.cells (arr (pad8 [])) 29)) = W2 at *
  refine HQ2.out.call (fun cb' hd => r9_number hd 8 (by decide) (by decide)) (fun V0 v hg he q0 => ?_)
  obtain rfl := he
  have p2 := HQ2.out.kept (by simp) HO.out.1 hg
  have p3 := HQ2.out.kept (by simp) HO.out.2 hg
  have hn8 := dNum_le l (m := 8) (by decide) s
  have HR : Hid (dRow l most s = _) := Lib.hid (congrFun (dRow_eq l most) s)
  generalize hs0 : dNum l 8 s = r0 at *
  obtain ⟨n, s0⟩ := r0
  have HR2 : Hid (dRow l most s = dLoop' (drowB l most n) n 0 [] s0) := Lib.hid (HR.out.trans (by unfold DM.bind; rw [hs0]))
  simp only at q0 hn8 ⊢
  have hn8' : n ≤ 8 := by omega
  have HX := Lib.hid (And.intro q0 (And.intro p2 p3))
  clear HR hs0 hg q0 p2 p3 HQ2 HO hn8
  go_wp2_with fail
  generalize hB2 : w.heap.size = B2 at *
  generalize hB3 : B2 + 1 = B3 at *
  have HB := Lib.hid (And.intro hB2 hB3)
  clear hB2 hB3
  go_loopw [5] (fun i wr => ∃ (k : Nat) (xs : List Nat) (s' : DSt), k ≤ n ∧ i = .int .i64 k ∧ xs.length = k ∧ dLoop' (drowB l most n) (n - k) k xs s' = dLoop' (drowB l most n) n 0 [] s0 ∧ DQ w D2 D9 a cap l cb wr s' [B3, B2] ∧ wr.heap[B2]? = some (.cells (arr (pad8 [])) 29 (0, 0)) ∧ wr.heap[B3]? = some (.cells (arr (pad8 xs)) 29 (0, 0))) (fun i _ => n - (intOf i).toNat)
  case atStart => exact ⟨0, [], s0, by omega, rfl, rfl, rfl, HX.out.1, HX.out.2.1, HX.out.2.2⟩
  case round =>
    obtain ⟨W1, hW1⟩ : ∃ W1, W1 = wr := ⟨_, rfl⟩
    subst hW1
    obtain ⟨k, xs, s', hk, rfl, hxl, hl, qe, o2, o3⟩ := hrel
    by_cases hlt : k < n
    · obtain ⟨a1, a2, a3, a4⟩ := qe.at_
      have hk8 : k < 8 := by omega
      have HL := Lib.hid hl
      have HQ := Lib.hid qe
      have HO := Lib.hid (And.intro o2 o3)
      have HXL := Lib.hid hxl
      have hki0 : (0 : Int) ≤ k := by omega
      have hki8 : (k : Int) < 8 := by omega
      clear hl qe o2 o3 hxl
      go_wp2_with fail
      refine HQ.out.call (fun cb' hd => r9_number hd 9223372036854775807 (by decide) (by decide)) (fun V1 v hg he q1 => ?_)
      obtain rfl := he
      have p2 := HQ.out.kept (by simp) HO.out.1 hg
      have p3 := HQ.out.kept (by simp) HO.out.2 hg
      generalize hs1 : dNum l 9223372036854775807 s' = r1 at *
      obtain ⟨v, s1⟩ := r1
      simp only at q1 ⊢
      have hpl : (pad8 xs).length = 8 := pad8_len (by have := HXL.out; omega)
      obtain ⟨c3, m3⟩ := World.own_cell p3 k _ (arr_get (pad8 xs) k (by omega))
      have lB3 : B3 < V1.heap.size := World.block_lt_of_cell? _ _ c3
      have n3 : (V1.setCell ⟨B3, k, none⟩ (.int .i64 v)).heap[B3]? = some (.cells (arr (pad8 (xs ++ [v]))) 29 (0, 0)) := World.own_set2 p3 k _ _ (by rw [arr_set]; have := pad8_push (xs := xs) (by have := HXL.out; omega) v; rw [HXL.out] at this; rw [this])
      have n2 : (V1.setCell ⟨B3, k, none⟩ (.int .i64 v)).heap[B2]? = some (.cells (arr (pad8 [])) 29 (0, 0)) := by rw [World.block_setCell _ _ _ _ (by have := HB.out.2; show B2 ≠ B3; omega)]; exact p2
      have HQ1 := Lib.hid (q1.set (X := B3) (by simp) k (.int .i64 v))
      have HN := Lib.hid (And.intro n2 n3)
      have HL2 : Hid (dLoop' (drowB l most n) (n - (k + 1)) (k + 1) (xs ++ [v]) (formS s1 s'.p (decide (k + 1 = n) && decide (v = 0))) = dLoop' (drowB l most n) n 0 [] s0) := Lib.hid (by
        rw [← HL.out, show n - k = (n - (k + 1)) + 1 by omega]
        show _ = dLoop' (drowB l most n) (n - (k + 1)) (k + 1) (drowB l most n k xs s').1 (drowB l most n k xs s').2
        unfold drowB DM.bind
        rw [dLast_is k n most s' s1 v hs1]
        rfl)
      obtain ⟨a1', a2', a3', a4'⟩ := HQ1.out.at_
      have c3' : (V1.setCell ⟨B3, k, none⟩ (.int .i64 v)).cell? ⟨B3, k, none⟩ = some (.int .i64 v) := World.cell?_setCell_same _ _ _ (by rw [c3])
      have hn1 : (0 : Int) ≤ n := by omega
      clear hg q1 p2 p3 n2 n3 HQ HO HL a1 a2 a3 a4
      by_cases hla : k + 1 = n
      · have hla1 : ((k : Int) == (n : Int) - 1) = true := by simp; omega
        by_cases hv : v = 0
        · have hv1 : ((v : Int) == 0) = true := by simp [hv]
          have HL3 := HL2.out
          rw [decide_eq_true hla, decide_eq_true hv] at HL3
          have HL3 := Lib.hid HL3
          clear hv hla
          go_wp2_with fail
          refine HQ1.out.form s'.p true (fun V2 hg2 q2 => ?_)
          have p2' := HQ1.out.kept (by simp) HN.out.1 hg2
          have p3' := HQ1.out.kept (by simp) HN.out.2 hg2
          have HY := Lib.hid (And.intro q2 (And.intro p2' p3'))
          clear hg2 q2 p2' p3' c3 m3 c3' hs1
          go_wp2_with fail
          exact ⟨⟨k + 1, xs ++ [v], formS s1 s'.p true, by omega, rfl, by simp [HXL.out], HL3.out, HY.out⟩, by show n - ((k : Int) + 1).toNat < n - (k : Int).toNat; omega⟩
        · have hv1 : ((v : Int) == 0) = false := by simpa using hv
          have HL3 := HL2.out
          rw [decide_eq_false hv, Bool.and_false] at HL3
          have HL3 := Lib.hid HL3
          clear hv hla
          go_wp2_with fail
          refine HQ1.out.form s'.p false (fun V2 hg2 q2 => ?_)
          have p2' := HQ1.out.kept (by simp) HN.out.1 hg2
          have p3' := HQ1.out.kept (by simp) HN.out.2 hg2
          have HY := Lib.hid (And.intro q2 (And.intro p2' p3'))
          clear hg2 q2 p2' p3' c3 m3 c3' hs1
          go_wp2_with fail
          exact ⟨⟨k + 1, xs ++ [v], formS s1 s'.p false, by omega, rfl, by simp [HXL.out], HL3.out, HY.out⟩, by show n - ((k : Int) + 1).toNat < n - (k : Int).toNat; omega⟩
      · have hla1 : ((k : Int) == (n : Int) - 1) = false := by simp; omega
        have HL3 := HL2.out
        rw [decide_eq_false hla, Bool.false_and] at HL3
        have HL3 := Lib.hid HL3
        clear hla
        go_wp2_with fail
        refine HQ1.out.form s'.p false (fun V2 hg2 q2 => ?_)
        have p2' := HQ1.out.kept (by simp) HN.out.1 hg2
        have p3' := HQ1.out.kept (by simp) HN.out.2 hg2
        have HY := Lib.hid (And.intro q2 (And.intro p2' p3'))
        clear hg2 q2 p2' p3' c3 m3 c3' hs1
        go_wp2_with fail
        exact ⟨⟨k + 1, xs ++ [v], formS s1 s'.p false, by omega, rfl, by simp [HXL.out], HL3.out, HY.out⟩, by show n - ((k : Int) + 1).toNat < n - (k : Int).toNat; omega⟩
    · have hkn : k = n := by omega
      subst hkn
      rw [Nat.sub_self] at hl
      have hl : dLoop' (drowB l most k) k 0 [] s0 = (xs, s') := hl.symm
      have HRA := Lib.hid (range_all o3)
      have HTH := Lib.hid (there_all o2)
      have hpl : (pad8 xs).length = 8 := pad8_len (by omega)
      have hg2 : GrewX [B2] W1 (W1.setCells B2 0 (arr (pad8 xs)).toList) := setCells_gx _ _ _
      have h2 : (W1.setCells B2 0 (arr (pad8 xs)).toList).heap[B2]? = some (.cells (arr (pad8 xs)) 29 (0, 0)) := by
        have := setCells_own (arr (pad8 xs)).toList W1 0 _ o2
        rwa [putA_all _ _ (by rw [arr_size, arr_size, hpl]; rfl)] at this
      have hl2 := run_loadVar_mid (P := Tryz.prog) _ B2 0 29 (arr (pad8 xs)).toList _ (range_all h2) Tryz.underlying29 rfl (by rw [Array.length_toList, arr_size, hpl]; exact info_clock)
      have Q3 := qe.writes hg2 (by simp)
      have HQ := Lib.hid Q3
      have HRR : Hid (dRow l most s = (xs, s')) := Lib.hid (HR2.out.trans hl)
      have HPL := Lib.hid hpl
      have HXL := Lib.hid hxl
      clear hl o2 o3 qe Q3 hg2 h2 hpl hxl
      go_wp2_with (first
        | (refine wpList_load_mid (by rfl) 29 (.tmp 3) (by rfl) B3 0 (by rfl) (arr (pad8 xs)).toList _ HRA.out Tryz.underlying29 rfl (by rw [Array.length_toList, arr_size, HPL.out]; exact info_clock) ?_)
        | (refine wpList_store_mid (by rfl) 29 (.tmp 2) (.tmp 38) (by rfl) B2 0 (arr (pad8 xs)) (by rfl) (by rfl) (by rw [arr_size, HPL.out]; exact HTH.out) (by rw [arr_size, HPL.out]; exact info_clock) (arr_ones _) ?_))
      exact bodyPost_ret (v := .agg (arr (pad8 xs))) (by simp [results, Tryz.results45, Sem.run_bind, Sem.run_pure, asAddr, Act.put, hl2]) rfl (HQ.out.post (x := xs) ⟨rfl, by have := HXL.out; omega⟩ HRR.out)
end
end Go.Proofs.YtnhmekdnfinmiaaGreatDoor
/- Walks: the document's reader of packet: Acts (printed by wip/gen_rdk.py). -/
namespace Go
def World.bare (w : World) : World := { w with heap := #[] }
theorem grew_bare (w : World) : Grew w.bare w := ⟨⟨w.heap, w.drawn⟩, by simp [World.plus, World.bare]⟩
end Go
namespace Go.Par
theorem pad8_c8 (t : List Nat) (ht : t.length ≤ 8) : arr (pad8 t) = #[.int .i64 (c8 t).x0, .int .i64 (c8 t).x1, .int .i64 (c8 t).x2, .int .i64 (c8 t).x3, .int .i64 (c8 t).x4, .int .i64 (c8 t).x5, .int .i64 (c8 t).x6, .int .i64 (c8 t).x7] := by
  match t, ht with
  | [], _ => simp [pad8, c8, arr]
  | [_], _ => simp [pad8, c8, arr]
  | [_, _], _ => simp [pad8, c8, arr]
  | [_, _, _], _ => simp [pad8, c8, arr]
  | [_, _, _, _], _ => simp [pad8, c8, arr]
  | [_, _, _, _, _], _ => simp [pad8, c8, arr]
  | [_, _, _, _, _, _], _ => simp [pad8, c8, arr]
  | [_, _, _, _, _, _, _], _ => simp [pad8, c8, arr]
  | [_, _, _, _, _, _, _, _], _ => simp [pad8, c8, arr]
  | _ :: _ :: _ :: _ :: _ :: _ :: _ :: _ :: _ :: _, h => simp at h
theorem dLoop_bad {σ : Type} (body : Nat → σ → DM σ) (n i : Nat) (x : σ) (s : DSt) (h : s.bad.isSome = true) : dLoop body n i x s = (x, s) := by
  cases n with
  | zero => rfl
  | succ n => simp [dLoop, h]
theorem dLoop_go {σ : Type} (body : Nat → σ → DM σ) (n i : Nat) (x : σ) (s : DSt) (h : s.bad.isSome = false) : dLoop body (n + 1) i x s = dLoop body n (i + 1) (body i x s).1 (body i x s).2 := by
  simp [dLoop, h, DM.bind]
theorem dCount_le (l : List UInt8) (least : Nat) (s : DSt) : (dCount l least s).1 ≤ 2147483647 := by
  unfold dCount dW
  split
  · exact Nat.zero_le _
  · unfold wCount
    cases hs : scan l 2147483647 9 0 0 s.p with
    | ok x =>
      have := scan_range l 2147483647 (by decide) _ _ _ _ _ _ hs
      obtain ⟨n, q⟩ := x
      simp only at this ⊢
      split
      · rename_i h; split at h
        · cases h
        · cases h; omega
      · exact Nat.zero_le _
    | error c => exact Nat.zero_le _
theorem dbind_is {α β : Type} {m : DM α} {f : α → DM β} {s s1 : DSt} {x : α} (h : m s = (x, s1)) : (m.bind f) s = f x s1 := by unfold DM.bind; rw [h]
theorem dAct_is {l : List UInt8} {s s1 s2 s3 s4 s6 s7 : DSt} {x1 : UInt8} {x2 x3 x4 x5 : Nat} {x7 : List Nat} (h1 : dByte l 1 3 s = (x1, s1)) (h2 : dNum l 7 s1 = (x2, s2)) (h3 : dNum l most s2 = (x3, s3)) (h4 : (if x1.toNat = 1 then dNum l 1114111 else DM.pure 0) s3 = (x4, s4)) (h5 : (dChk (fun n => decide (n = 0)) (dNum l most)) s4 = (x5, s6)) (h6 : dRow l most s6 = (x7, s7)) :
    dAct l s = (⟨x1.toNat, x2, x3, x4, x5, x7⟩, s7) :=
  (dbind_is h1).trans ((dbind_is h2).trans ((dbind_is h3).trans ((dbind_is h4).trans ((dbind_is h5).trans (dbind_is h6)))))
def dactsB (l : List UInt8) (_ : Nat) (xs : List PAct) : DM (List PAct) := (dAct l).bind fun a => DM.pure (xs ++ [a])
theorem dActs_eq (l : List UInt8) : dActs l = (dCount l 4).bind fun n => dLoop (dactsB l) n 0 [] := rfl
end Go.Par
namespace Go.Proofs.YtnhmekdnfinmiaaGreatDoor
open Go.RowKit Go.Par
set_option linter.unusedSimpArgs false
set_option linter.unusedVariables false
section
variable {w w' W W' : World} {D2 D9 : Nat} {a : Option Addr} {cap : Nat} {l : List UInt8} {cb os : List Nat} {s : DSt}
theorem DQ.app (h : DQ w D2 D9 a cap l cb W s os) {ks : List Nat} (hg : GrewX ks W W') (hk : ∀ k ∈ ks, k ∈ os) {g : Nat} (h1 : g ∈ os ∨ W.heap.size ≤ g) (h2 : g < W'.heap.size) : DQ w D2 D9 a cap l cb W' s (g :: os) := by
  have h5 := h.writes hg hk
  obtain ⟨cb', h3, h4⟩ := h.st
  have hd := h.d
  have h0 : ∀ k ∈ ks, w.heap.size ≤ k := fun k hm => (h.os k (hk k hm)).1
  refine ⟨h5.g, ⟨cb', fun k hm => ⟨(h3 k hm).1, ?_⟩, h4.grewX hg ?_ ?_ ?_ ?_⟩, fun k hm => ?_, h.d, h.al⟩
  · simp only [List.mem_cons, not_or]
    refine ⟨fun e => ?_, (h3 k hm).2⟩
    subst e
    rcases h1 with h1 | h1
    · exact (h3 _ hm).2 h1
    · have := h4.lt _ hm; omega
  · exact fun hm => by have := h0 _ hm; omega
  · exact fun hm => by have := h0 _ hm; omega
  · exact fun q hq hm => by have := h0 _ hm; have := h.al q hq; omega
  · exact fun k hm hm2 => (h3 k hm).2 (hk k hm2)
  · rcases List.mem_cons.1 hm with rfl | hm
    · rcases h1 with h1 | h1
      · exact ⟨(h.os _ h1).1, h2⟩
      · exact ⟨Nat.le_trans h.g.size h1, h2⟩
    · exact h5.os k hm
theorem there_mid {w : World} {b : Nat} {C : Array Value} {t : TypeId} (hb : w.heap[b]? = some (.cells C t (0, 0))) (o n : Nat) (ho : o + n ≤ C.size) : w.there b o n := fun j hj => by
  obtain ⟨h1, h2⟩ := World.own_cell hb (o + j) _ (Array.getElem?_eq_getElem (by omega))
  exact ⟨by rw [h1]; rfl, h2⟩
theorem bare_gx {V w2 : World} {v : Value} (H : Grew V.bare w2 ∧ (∀ k, k < V.heap.size → some k ≠ v.ownBlock → w2.heap[k]? = V.heap[k]?) ∧ V.heap.size ≤ w2.heap.size) : GrewX v.ownBlock.toList V w2 :=
  ⟨H.1.os, H.1.tape, H.1.output, H.2.2, fun k hk hn => H.2.1 k hk (fun e => hn (by rw [← e]; simp))⟩
theorem DQ.row (h : DQ w D2 D9 a cap l cb W s os) (o : Obj) {v : Value} {base size n : Nat} {e : TypeId} {w2 : World} {g c : Nat} {xs : List Value} (hv : ∀ b, v.ownBlock = some b → b ∈ os)
    (H : Grew (W.alloc o).bare w2 ∧ (∀ k, k < (W.alloc o).heap.size → some k ≠ v.ownBlock → w2.heap[k]? = (W.alloc o).heap[k]?) ∧ (W.alloc o).heap.size ≤ w2.heap.size)
    (hat : v.ownBlock = some g ∨ g = (W.alloc o).heap.size) (hown : w2.ownsRow base e size (.slice (some ⟨g, 0, none⟩) n c) n xs) :
    DQ w D2 D9 a cap l cb w2 s (g :: os) ∧ GrewX v.ownBlock.toList W w2 := by
  have hx := (GrewX.of_grew (ks := v.ownBlock.toList) ((Grew.refl W).alloc o)).trans (bare_gx H)
  refine ⟨h.app hx (fun k hk => hv k (Option.mem_toList.1 hk)) ?_ (hown.lt g rfl).2, hx⟩
  rcases hat with h1 | h1
  · exact .inl (hv g h1)
  · right; rw [alloc_size1] at h1; omega
def encActs (base : Nat) (xs : List PAct) (W : World) (v : Value) : Prop := ∃ ar cp, v = .slice ar xs.length cp ∧ W.ownsRow base 112 13 v xs.length ((xs.map actD).flatMap actRow)
set_option maxRecDepth 100000 in
set_option maxHeartbeats 8000000 in
theorem r9_acts (h : DS w D2 D9 a cap l cb s) : Calls Tryz.prog 18 #[pt D9] w (DPost w D2 D9 a cap l cb (encActs w.heap.size) (dActs l s)) := by
  have HQ0 := Lib.hid (DQ.start h)
  clear h
  go_enter Tryz.func18, Tryz.ntmps18
  go_wp2_with fail
  refine HQ0.out.call (fun cb' hd => r9_count hd 4 (by decide) (by decide)) (fun V0 v hg he q0 => ?_)
  obtain rfl := he
  have hn := dCount_le l 4 s
  have HR : Hid (dActs l s = _) := Lib.hid (congrFun (dActs_eq l) s)
  generalize hs0 : dCount l 4 s = r0 at *
  obtain ⟨n, s0⟩ := r0
  have HR2 : Hid (dActs l s = dLoop (dactsB l) n 0 [] s0) := Lib.hid (HR.out.trans (by unfold DM.bind; rw [hs0]))
  simp only at q0 hn ⊢
  have HX := Lib.hid q0
  clear HR hs0 hg q0 HQ0
  go_wp2_with fail
  generalize hBB : w.heap.size = B at *
  have HB := Lib.hid hBB
  clear hBB
  go_loopw [3, 5] (fun s3 i wr => ∃ (k : Nat) (xs : List PAct) (s' : DSt) (ar : Option Addr) (cp : Nat) (os : List Nat), k ≤ n ∧ i = .int .i64 k ∧ xs.length = k ∧ s3 = .slice ar k cp ∧ dLoop (dactsB l) (n - k) k xs s' = dLoop (dactsB l) n 0 [] s0 ∧ DQ w D2 D9 a cap l cb wr s' os ∧ wr.ownsRow B 112 13 (.slice ar k cp) k ((xs.map actD).flatMap actRow) ∧ ∀ b, (Value.slice ar k cp).ownBlock = some b → b ∈ os) (fun _ i _ => n - (intOf i).toNat)
  case atStart => exact ⟨0, [], s0, none, 0, [], by omega, rfl, rfl, rfl, rfl, HX.out, ⟨rfl, .inl ⟨rfl, rfl⟩⟩, fun b hb => by cases hb⟩
  case round =>
    obtain ⟨W1, hW1⟩ : ∃ W1, W1 = wr := ⟨_, rfl⟩
    subst hW1
    obtain ⟨k, xs, s', ar, cp, os, hk, rfl, hxl, rfl, hl, qe, ho, hv⟩ := hrel
    have HL := Lib.hid hl
    have HQ := Lib.hid qe
    have HO := Lib.hid (And.intro ho hv)
    have HXL := Lib.hid hxl
    have BD : Hid (Calls Tryz.prog 15 #[pt D9] W1 fun e w' => e = .returned (.bool s'.bad.isSome) ∧ W1 = w') := Lib.hid (by obtain ⟨cb', -, hd⟩ := qe.st; exact r9_bad hd)
    clear hl qe ho hv hxl
    by_cases hlt : k < n
    · cases hbd : s'.bad.isSome with
      | true =>
        have hend : dLoop (dactsB l) (n - k) k xs s' = (xs, s') := dLoop_bad _ _ _ _ _ hbd
        have HBD := Lib.hid hbd
        clear hbd
        have HRR : Hid (dActs l s = (xs, s')) := Lib.hid (HR2.out.trans (HL.out.symm.trans hend))
        clear hend
        go_wp2_with ((go_at_call 15; refine BD.out.mono ?_; rintro e w' ⟨rfl, rfl⟩; simp only [HBD.out]))
        go_ret
        have hxl := HXL.out
        subst hxl
        exact HQ.out.post (x := xs) ⟨ar, cp, rfl, HO.out.1⟩ HRR.out
      | false =>
        have HBD := Lib.hid hbd
        have HGO : Hid (∀ x s2, dAct l s' = (x, s2) → dLoop (dactsB l) (n - (k + 1)) (k + 1) (xs ++ [x]) s2 = dLoop (dactsB l) n 0 [] s0) := Lib.hid fun x s2 hx => by
          rw [← HL.out, show n - k = (n - (k + 1)) + 1 by omega, dLoop_go _ _ _ _ _ HBD.out]
          unfold dactsB DM.bind DM.pure
          rw [hx]
        have Q1 := HQ.out.own ((Grew.refl W1).alloc (.cells #[.int .i64 0, .int .i64 0, .int .i32 0, .int .i64 0, .int .i64 0, .int .i64 0, .int .i64 0, .int .i64 0, .int .i64 0, .int .i64 0, .int .i64 0, .int .i64 0, .int .i64 0] 112)) (Nat.le_refl _) (by simp [go_sem])
        have o1 : (W1.alloc (.cells #[.int .i64 0, .int .i64 0, .int .i32 0, .int .i64 0, .int .i64 0, .int .i64 0, .int .i64 0, .int .i64 0, .int .i64 0, .int .i64 0, .int .i64 0, .int .i64 0, .int .i64 0] 112)).heap[W1.heap.size]? = some (.cells #[.int .i64 0, .int .i64 0, .int .i32 0, .int .i64 0, .int .i64 0, .int .i64 0, .int .i64 0, .int .i64 0, .int .i64 0, .int .i64 0, .int .i64 0, .int .i64 0, .int .i64 0] 112 (0, 0)) := heap_alloc_new _ _
        have g1 : GrewX [D2, D9, W1.heap.size] W1 (W1.alloc (.cells #[.int .i64 0, .int .i64 0, .int .i32 0, .int .i64 0, .int .i64 0, .int .i64 0, .int .i64 0, .int .i64 0, .int .i64 0, .int .i64 0, .int .i64 0, .int .i64 0, .int .i64 0] 112)) := (GrewX.refl _ _).alloc _
        have HQ1 := Lib.hid Q1
        have HO1 := Lib.hid o1
        have HG1 := Lib.hid g1
        have hw1 := HQ.out.g.size
        clear hbd Q1 o1 g1
        go_wp2_with ((go_at_call 15; refine BD.out.mono ?_; rintro e w' ⟨rfl, rfl⟩; simp only [HBD.out]))
        generalize (W1.alloc (.cells #[.int .i64 0, .int .i64 0, .int .i32 0, .int .i64 0, .int .i64 0, .int .i64 0, .int .i64 0, .int .i64 0, .int .i64 0, .int .i64 0, .int .i64 0, .int .i64 0, .int .i64 0] 112)) = U1 at *
        generalize hAA : W1.heap.size = A at *
        have HAA := Lib.hid hAA
        clear hAA
        refine HQ1.out.call (fun cb' hd => r9_byte hd 1 3 (by decide) (by decide)) (fun V1 v hg he q1 => ?_)
        obtain rfl := he
        have p1 := HQ1.out.kept (by simp) HO1.out hg
        generalize hs1 : dByte l 1 3 s' = r1 at *
        obtain ⟨x1, s1⟩ := r1
        simp only at q1 ⊢
        obtain ⟨c1, m1⟩ := World.own_cell p1 0 _ rfl
        have lA1 : A < V1.heap.size := World.block_lt_of_cell? _ _ c1
        have HO2 := Lib.hid (show (V1.setCell ⟨A, 0, none⟩ (.int .i64 x1.toNat)).heap[A]? = some (.cells #[.int .i64 x1.toNat, .int .i64 0, .int .i32 0, .int .i64 0, .int .i64 0, .int .i64 0, .int .i64 0, .int .i64 0, .int .i64 0, .int .i64 0, .int .i64 0, .int .i64 0, .int .i64 0] 112 (0, 0)) from World.own_set2 p1 0 _ _ rfl)
        have HQ2 := Lib.hid (q1.set (X := A) (by simp) 0 (.int .i64 x1.toNat))
        have HG2 := Lib.hid ((HG1.out.trans (hg.mono (by simp))).set (p := ⟨A, 0, none⟩) (.inl (by simp)) (.int .i64 x1.toNat))
        have HS1 := Lib.hid hs1
        clear p1 hg q1 hs1 HQ1 HO1 HG1
        go_wp2_with fail
        clear c1 m1 lA1
        generalize V1.setCell ⟨A, 0, none⟩ (.int .i64 x1.toNat) = U2 at *
        refine HQ2.out.call (fun cb' hd => r9_number hd 7 (by decide) (by decide)) (fun V2 v hg he q2 => ?_)
        obtain rfl := he
        have p2 := HQ2.out.kept (by simp) HO2.out hg
        generalize hs2 : dNum l 7 s1 = r2 at *
        obtain ⟨x2, s2⟩ := r2
        simp only at q2 ⊢
        obtain ⟨c2, m2⟩ := World.own_cell p2 3 _ rfl
        have lA2 : A < V2.heap.size := World.block_lt_of_cell? _ _ c2
        have HO3 := Lib.hid (show (V2.setCell ⟨A, 3, none⟩ (.int .i64 x2)).heap[A]? = some (.cells #[.int .i64 x1.toNat, .int .i64 0, .int .i32 0, .int .i64 x2, .int .i64 0, .int .i64 0, .int .i64 0, .int .i64 0, .int .i64 0, .int .i64 0, .int .i64 0, .int .i64 0, .int .i64 0] 112 (0, 0)) from World.own_set2 p2 3 _ _ rfl)
        have HQ3 := Lib.hid (q2.set (X := A) (by simp) 3 (.int .i64 x2))
        have HG3 := Lib.hid ((HG2.out.trans (hg.mono (by simp))).set (p := ⟨A, 3, none⟩) (.inl (by simp)) (.int .i64 x2))
        have HS2 := Lib.hid hs2
        clear p2 hg q2 hs2 HQ2 HO2 HG2
        go_wp2_with fail
        clear c2 m2 lA2
        generalize V2.setCell ⟨A, 3, none⟩ (.int .i64 x2) = U3 at *
        by_cases hk1 : x1.toNat = 1
        · have hk2 : (x1.toNat : Int) = 1 := by omega
          have HK1 := Lib.hid hk1
          clear hk1

          have hk0 := HO3.out
          obtain ⟨k0, -⟩ := World.own_cell hk0 0 _ rfl
          clear hk0 k0
          refine HQ3.out.call (fun cb' hd => r9_number hd 9223372036854775807 (by decide) (by decide)) (fun V3 v hg he q3 => ?_)
          obtain rfl := he
          have p3 := HQ3.out.kept (by simp) HO3.out hg
          generalize hs3 : dNum l 9223372036854775807 s2 = r3 at *
          obtain ⟨x3, s3⟩ := r3
          simp only at q3 ⊢
          obtain ⟨c3, m3⟩ := World.own_cell p3 1 _ rfl
          have lA3 : A < V3.heap.size := World.block_lt_of_cell? _ _ c3
          have k3 : (V3.setCell ⟨A, 1, none⟩ (.int .i64 x3)).cell? ⟨A, 0, none⟩ = some (.int .i64 x1.toNat) := (World.own_cell (World.own_set2 p3 1 (.int .i64 x3) _ rfl) 0 _ rfl).1
          have HO4 := Lib.hid (show (V3.setCell ⟨A, 1, none⟩ (.int .i64 x3)).heap[A]? = some (.cells #[.int .i64 x1.toNat, .int .i64 x3, .int .i32 0, .int .i64 x2, .int .i64 0, .int .i64 0, .int .i64 0, .int .i64 0, .int .i64 0, .int .i64 0, .int .i64 0, .int .i64 0, .int .i64 0] 112 (0, 0)) from World.own_set2 p3 1 _ _ rfl)
          have HQ4 := Lib.hid (q3.set (X := A) (by simp) 1 (.int .i64 x3))
          have HG4 := Lib.hid ((HG3.out.trans (hg.mono (by simp))).set (p := ⟨A, 1, none⟩) (.inl (by simp)) (.int .i64 x3))
          have HS3 := Lib.hid hs3
          clear p3 hg q3 hs3 HQ3 HO3 HG3
          go_wp2_with fail
          clear k3
          clear c3 m3 lA3
          generalize V3.setCell ⟨A, 1, none⟩ (.int .i64 x3) = U4 at *
          refine HQ4.out.call (fun cb' hd => r9_number hd 1114111 (by decide) (by decide)) (fun V4 v hg he q4 => ?_)
          obtain rfl := he
          have p4 := HQ4.out.kept (by simp) HO4.out hg
          have hch := dNum_le l (m := 1114111) (by decide) s3
          generalize hs4 : dNum l 1114111 s3 = r4 at *
          obtain ⟨x4, s4⟩ := r4
          simp only at q4 ⊢
          obtain ⟨c4, m4⟩ := World.own_cell p4 2 _ rfl
          have lA4 : A < V4.heap.size := World.block_lt_of_cell? _ _ c4
          have hc2 : (x4 : Int) ≤ 1114111 := hch
          have hch : IntKind.i32.wrap (x4 : Int) = x4 := by rw [IntKind.wrap_i32]; omega
          clear hc2
          have HO5 := Lib.hid (show (V4.setCell ⟨A, 2, none⟩ (.int .i32 x4)).heap[A]? = some (.cells #[.int .i64 x1.toNat, .int .i64 x3, .int .i32 x4, .int .i64 x2, .int .i64 0, .int .i64 0, .int .i64 0, .int .i64 0, .int .i64 0, .int .i64 0, .int .i64 0, .int .i64 0, .int .i64 0] 112 (0, 0)) from World.own_set2 p4 2 _ _ rfl)
          have HQ5 := Lib.hid (q4.set (X := A) (by simp) 2 (.int .i32 x4))
          have HG5 := Lib.hid ((HG4.out.trans (hg.mono (by simp))).set (p := ⟨A, 2, none⟩) (.inl (by simp)) (.int .i32 x4))
          have HS4 := Lib.hid hs4
          clear p4 hg q4 hs4 HQ4 HO4 HG4
          go_upto_region 12 with (fail)
          clear hch
          clear c4 m4 lA4
          generalize V4.setCell ⟨A, 2, none⟩ (.int .i32 x4) = U5 at *
          have HC4 : Hid ((if x1.toNat = 1 then dNum l 1114111 else DM.pure 0) s3 = (x4, s4)) := Lib.hid (by rw [if_pos HK1.out]; exact HS4.out)
          clear hk2
          obtain ⟨a1, a2, a3, a4⟩ := HQ5.out.at_
          go_wp2_with fail
          clear a1 a2 a3 a4
          refine HQ5.out.call (fun cb' hd => r9_number hd 9223372036854775807 (by decide) (by decide)) (fun V5 v hg he q5 => ?_)
          obtain rfl := he
          have p5 := HQ5.out.kept (by simp) HO5.out hg
          generalize hs5 : dNum l 9223372036854775807 s4 = r5 at *
          obtain ⟨x5, s5⟩ := r5
          simp only at q5 ⊢
          obtain ⟨c5, m5⟩ := World.own_cell p5 4 _ rfl
          have lA5 : A < V5.heap.size := World.block_lt_of_cell? _ _ c5
          have k5 : (V5.setCell ⟨A, 4, none⟩ (.int .i64 x5)).cell? ⟨A, 4, none⟩ = some (.int .i64 x5) := (World.own_cell (World.own_set2 p5 4 (.int .i64 x5) _ rfl) 4 _ rfl).1
          have HO6 := Lib.hid (show (V5.setCell ⟨A, 4, none⟩ (.int .i64 x5)).heap[A]? = some (.cells #[.int .i64 x1.toNat, .int .i64 x3, .int .i32 x4, .int .i64 x2, .int .i64 x5, .int .i64 0, .int .i64 0, .int .i64 0, .int .i64 0, .int .i64 0, .int .i64 0, .int .i64 0, .int .i64 0] 112 (0, 0)) from World.own_set2 p5 4 _ _ rfl)
          have HQ6 := Lib.hid (q5.set (X := A) (by simp) 4 (.int .i64 x5))
          have HG6 := Lib.hid ((HG5.out.trans (hg.mono (by simp))).set (p := ⟨A, 4, none⟩) (.inl (by simp)) (.int .i64 x5))
          have HS5 := Lib.hid hs5
          clear p5 hg q5 hs5 HQ5 HO5 HG5
          go_upto_region 14 with (fail)
          clear c5 m5 lA5
          generalize V5.setCell ⟨A, 4, none⟩ (.int .i64 x5) = U6 at *
          have HC5 : Hid ((dChk (fun n => decide (n = 0)) (dNum l most)) s4 = (x5, formS s5 s4.p (decide (x5 = 0)))) := Lib.hid (by
            have h := HS5.out
            unfold dChk formS
            rw [show dNum l most s4 = (x5, s5) from h]
            obtain ⟨p5, b5⟩ := s5
            cases b5 <;> rfl)
          have hx1 : ((x5 : Int) == 0) = decide (x5 = 0) := by rw [Bool.eq_iff_iff]; simp
          rw [← hx1] at HC5
          have HC6 := HC5
          clear hx1
          go_wp2_with fail
          refine HQ6.out.form s4.p ((x5 : Int) == 0) (fun V6 hg6 q6 => ?_)
          have p6 := HQ6.out.kept (by simp) HO6.out hg6
          have HQ7 := Lib.hid q6
          have HO7 := Lib.hid p6
          have HG7 := Lib.hid (HG6.out.trans (hg6.mono (by simp)))
          clear q6 p6 hg6 k5
          go_wp2_with fail
          refine HQ7.out.call (fun cb' hd => r9_clock hd) (fun V7 v hg he q7 => ?_)
          obtain ⟨rfl, ht8⟩ := he
          have p7 := HQ7.out.kept (by simp) HO7.out hg
          generalize hs7 : dRow l most (formS s5 s4.p ((x5 : Int) == 0)) = r7 at *
          obtain ⟨x7, s7⟩ := r7
          simp only at q7 ht8 ⊢
          have hcc : (actRow (actD (⟨x1.toNat, x2, x3, x4, x5, x7⟩ : PAct))) = [.int .i64 x1.toNat, .int .i64 x3, .int .i32 x4, .int .i64 x2, .int .i64 x5, .int .i64 (c8 x7).x0, .int .i64 (c8 x7).x1, .int .i64 (c8 x7).x2, .int .i64 (c8 x7).x3, .int .i64 (c8 x7).x4, .int .i64 (c8 x7).x5, .int .i64 (c8 x7).x6, .int .i64 (c8 x7).x7] := rfl
          have hact : dAct l s' = ((⟨x1.toNat, x2, x3, x4, x5, x7⟩ : PAct), s7) := dAct_is HS1.out HS2.out HS3.out HC4.out HC6.out hs7
          have HL7 := Lib.hid (HGO.out _ _ hact)
          have hO8 : (V7.setCells A 5 (arr (pad8 x7)).toList).heap[A]? = some (.cells #[.int .i64 x1.toNat, .int .i64 x3, .int .i32 x4, .int .i64 x2, .int .i64 x5, .int .i64 (c8 x7).x0, .int .i64 (c8 x7).x1, .int .i64 (c8 x7).x2, .int .i64 (c8 x7).x3, .int .i64 (c8 x7).x4, .int .i64 (c8 x7).x5, .int .i64 (c8 x7).x6, .int .i64 (c8 x7).x7] 112 (0, 0)) := by
            have := setCells_own (arr (pad8 x7)).toList V7 5 _ p7
            rw [pad8_c8 x7 ht8] at this ⊢
            simpa [putA] using this
          have HT7 := Lib.hid (there_mid p7 5 8 (by simp))
          have hq8 := q7.writes (setCells_gx (b := A) (arr (pad8 x7)).toList V7 5) (by simp)
          have hg8 := (HG7.out.trans (hg.mono (by simp))).trans ((setCells_gx (b := A) (arr (pad8 x7)).toList V7 5).mono (by simp))
          have HQ8 := Lib.hid hq8
          have HG8 := Lib.hid hg8
          have HC8 := Lib.hid (show (arr (pad8 x7)).size = 8 by rw [pad8_c8 x7 ht8]; rfl)
          have HO8p := Lib.hid hO8
          clear hs7 hact p7 hg q7 hO8 HQ7 HO7 HG7 hq8 hg8
          go_upto_region 16 with (refine wpList_store_mid (by rfl) 29 (.tmp 59) (.tmp 58) (by rfl) A 5 (arr (pad8 x7)) (by rfl) (by rfl) (by rw [HC8.out]; exact HT7.out) (by rw [HC8.out]; exact info_clock) (arr_ones _) ?_)
          have hO8 := HO8p.out
          clear HO8p
          generalize (V7.setCells A 5 (arr (pad8 x7)).toList) = U8 at *
          generalize c8 x7 = cc at *
          obtain ⟨y0, y1, y2, y3, y4, y5, y6, y7⟩ := cc
          simp only at hcc hO8 ⊢
          have HCC := Lib.hid hcc
          have hA8 : U8.cellsAt ⟨A, 0, none⟩ 13 = some [.int .i64 x1.toNat, .int .i64 x3, .int .i32 x4, .int .i64 x2, .int .i64 x5, .int .i64 y0, .int .i64 y1, .int .i64 y2, .int .i64 y3, .int .i64 y4, .int .i64 y5, .int .i64 y6, .int .i64 y7] := World.cellsAt_block hO8 13 rfl
          have lA8 : A < U8.heap.size := (Array.getElem?_eq_some_iff.1 hO8).1
          have HO8 := Lib.hid hO8
          clear hcc hO8
          have HROW : Hid (U8.ownsRow B 112 13 (.slice ar k cp) k ((xs.map actD).flatMap actRow)) := Lib.hid (HO.out.1.keep fun b hb => by
            have h1 := HO.out.1.lt b hb
            have h2 := HQ.out.d
            have := HB.out
            have := HAA.out
            exact HG8.out.block b h1.2 (by simp; omega))
          have hbb : B ≤ (U8).heap.size := by have := HG8.out.size; have := HB.out; have := HQ.out.g.size; omega
          have hbs := HB.out
          go_wp2_with (at_builtin; go_loud (refine wpList_app (by rfl) (.tmp 60) (.tmp 62) 27 (by rfl) elAct B _ k ((xs.map actD).flatMap actRow) (by rfl) (HROW.out.grew (by exact by repeat (first | with_reducible exact HG.out | with_reducible exact Grew.refl _ | with_reducible assumption | with_reducible apply Grew.plus | with_reducible apply Grew.drewN | with_reducible apply Grew.drew | with_reducible apply Grew.alloc | with_reducible refine Grew.setCell ?_ (by simp [go_sem]; try omega) _))) _ 1 1 #[.int .i64 x1.toNat, .int .i64 x3, .int .i32 x4, .int .i64 x2, .int .i64 x5, .int .i64 y0, .int .i64 y1, .int .i64 y2, .int .i64 y3, .int .i64 y4, .int .i64 y5, .int .i64 y6, .int .i64 y7] 112 (by rfl) (heap_alloc_at _ _ _ rfl) (by rfl) (act_ones _ _ _ _ _ _ _ _ _ _ _ _ _) (by omega) (by omega) (by unfold maxLen; omega) _ (grew_bare _) (Nat.zero_le _) (by rw [alloc_size1]; omega) ?_); intro g c2 w2 hg2 hown2 hkeep2 hsz2 hat2; have HO9 := Lib.hid hown2; have HG9 := Lib.hid (And.intro hg2 (And.intro hkeep2 hsz2)); have HAT := Lib.hid hat2; clear hown2 hg2 hkeep2 hat2 hsz2)
          obtain ⟨q9, -⟩ := HQ8.out.row (.cells #[.int .i64 x1.toNat, .int .i64 x3, .int .i32 x4, .int .i64 x2, .int .i64 x5, .int .i64 y0, .int .i64 y1, .int .i64 y2, .int .i64 y3, .int .i64 y4, .int .i64 y5, .int .i64 y6, .int .i64 y7] 112) (v := .slice ar k cp) (fun b hb => List.mem_cons_of_mem _ (HO.out.2 b hb)) HG9.out HAT.out HO9.out
          have HXL2 := HXL.out
          exact ⟨⟨k + 1, xs ++ [(⟨x1.toNat, x2, x3, x4, x5, x7⟩ : PAct)], s7, some ⟨g, 0, none⟩, c2, _, by omega, rfl, by simp [HXL2], rfl, HL7.out, q9, by rw [List.map_append, List.flatMap_append, List.map_singleton, List.flatMap_singleton, HCC.out]; exact HO9.out, fun b hb => by cases hb; simp⟩, by show n - ((k : Int) + 1).toNat < n - (k : Int).toNat; omega⟩
        · have hk2 : ¬ ((x1.toNat : Int) = 1) := by omega
          have HK1 := Lib.hid hk1
          clear hk1

          have hk0 := HO3.out
          obtain ⟨k0, -⟩ := World.own_cell hk0 0 _ rfl
          clear hk0 k0
          refine HQ3.out.call (fun cb' hd => r9_number hd 9223372036854775807 (by decide) (by decide)) (fun V3 v hg he q3 => ?_)
          obtain rfl := he
          have p3 := HQ3.out.kept (by simp) HO3.out hg
          generalize hs3 : dNum l 9223372036854775807 s2 = r3 at *
          obtain ⟨x3, s3⟩ := r3
          simp only at q3 ⊢
          obtain ⟨c3, m3⟩ := World.own_cell p3 1 _ rfl
          have lA3 : A < V3.heap.size := World.block_lt_of_cell? _ _ c3
          have k3 : (V3.setCell ⟨A, 1, none⟩ (.int .i64 x3)).cell? ⟨A, 0, none⟩ = some (.int .i64 x1.toNat) := (World.own_cell (World.own_set2 p3 1 (.int .i64 x3) _ rfl) 0 _ rfl).1
          have HO4 := Lib.hid (show (V3.setCell ⟨A, 1, none⟩ (.int .i64 x3)).heap[A]? = some (.cells #[.int .i64 x1.toNat, .int .i64 x3, .int .i32 0, .int .i64 x2, .int .i64 0, .int .i64 0, .int .i64 0, .int .i64 0, .int .i64 0, .int .i64 0, .int .i64 0, .int .i64 0, .int .i64 0] 112 (0, 0)) from World.own_set2 p3 1 _ _ rfl)
          have HQ4 := Lib.hid (q3.set (X := A) (by simp) 1 (.int .i64 x3))
          have HG4 := Lib.hid ((HG3.out.trans (hg.mono (by simp))).set (p := ⟨A, 1, none⟩) (.inl (by simp)) (.int .i64 x3))
          have HS3 := Lib.hid hs3
          clear p3 hg q3 hs3 HQ3 HO3 HG3
          go_upto_region 12 with (fail)
          clear k3
          clear c3 m3 lA3
          generalize V3.setCell ⟨A, 1, none⟩ (.int .i64 x3) = U4 at *
          obtain ⟨x4, hx4⟩ : ∃ x4, x4 = 0 := ⟨_, rfl⟩
          obtain ⟨s4, hs4⟩ : ∃ s4, s4 = s3 := ⟨_, rfl⟩
          have HC4 : Hid ((if x1.toNat = 1 then dNum l 1114111 else DM.pure 0) s3 = (x4, s4)) := Lib.hid (by rw [if_neg HK1.out, hx4, hs4]; rfl)
          have hO4 := HO4.out
          have hQ4 := HQ4.out
          rw [← hs4] at hQ4
          rw [show (Value.int .i32 0) = .int .i32 ((x4 : Nat) : Int) by rw [hx4]; rfl] at hO4
          have HO5 := Lib.hid hO4
          have HQ5 := Lib.hid hQ4
          have HG5 := HG4
          clear HO4 HQ4 HG4 hO4 hQ4 hx4 hs4
          obtain ⟨U5, hU5⟩ : ∃ U5, U5 = U4 := ⟨_, rfl⟩
          rw [← hU5] at HO5 HQ5 HG5 ⊢
          clear hU5
          clear hk2
          obtain ⟨a1, a2, a3, a4⟩ := HQ5.out.at_
          go_wp2_with fail
          clear a1 a2 a3 a4
          refine HQ5.out.call (fun cb' hd => r9_number hd 9223372036854775807 (by decide) (by decide)) (fun V5 v hg he q5 => ?_)
          obtain rfl := he
          have p5 := HQ5.out.kept (by simp) HO5.out hg
          generalize hs5 : dNum l 9223372036854775807 s4 = r5 at *
          obtain ⟨x5, s5⟩ := r5
          simp only at q5 ⊢
          obtain ⟨c5, m5⟩ := World.own_cell p5 4 _ rfl
          have lA5 : A < V5.heap.size := World.block_lt_of_cell? _ _ c5
          have k5 : (V5.setCell ⟨A, 4, none⟩ (.int .i64 x5)).cell? ⟨A, 4, none⟩ = some (.int .i64 x5) := (World.own_cell (World.own_set2 p5 4 (.int .i64 x5) _ rfl) 4 _ rfl).1
          have HO6 := Lib.hid (show (V5.setCell ⟨A, 4, none⟩ (.int .i64 x5)).heap[A]? = some (.cells #[.int .i64 x1.toNat, .int .i64 x3, .int .i32 x4, .int .i64 x2, .int .i64 x5, .int .i64 0, .int .i64 0, .int .i64 0, .int .i64 0, .int .i64 0, .int .i64 0, .int .i64 0, .int .i64 0] 112 (0, 0)) from World.own_set2 p5 4 _ _ rfl)
          have HQ6 := Lib.hid (q5.set (X := A) (by simp) 4 (.int .i64 x5))
          have HG6 := Lib.hid ((HG5.out.trans (hg.mono (by simp))).set (p := ⟨A, 4, none⟩) (.inl (by simp)) (.int .i64 x5))
          have HS5 := Lib.hid hs5
          clear p5 hg q5 hs5 HQ5 HO5 HG5
          go_upto_region 14 with (fail)
          clear c5 m5 lA5
          generalize V5.setCell ⟨A, 4, none⟩ (.int .i64 x5) = U6 at *
          have HC5 : Hid ((dChk (fun n => decide (n = 0)) (dNum l most)) s4 = (x5, formS s5 s4.p (decide (x5 = 0)))) := Lib.hid (by
            have h := HS5.out
            unfold dChk formS
            rw [show dNum l most s4 = (x5, s5) from h]
            obtain ⟨p5, b5⟩ := s5
            cases b5 <;> rfl)
          have hx1 : ((x5 : Int) == 0) = decide (x5 = 0) := by rw [Bool.eq_iff_iff]; simp
          rw [← hx1] at HC5
          have HC6 := HC5
          clear hx1
          go_wp2_with fail
          refine HQ6.out.form s4.p ((x5 : Int) == 0) (fun V6 hg6 q6 => ?_)
          have p6 := HQ6.out.kept (by simp) HO6.out hg6
          have HQ7 := Lib.hid q6
          have HO7 := Lib.hid p6
          have HG7 := Lib.hid (HG6.out.trans (hg6.mono (by simp)))
          clear q6 p6 hg6 k5
          go_wp2_with fail
          refine HQ7.out.call (fun cb' hd => r9_clock hd) (fun V7 v hg he q7 => ?_)
          obtain ⟨rfl, ht8⟩ := he
          have p7 := HQ7.out.kept (by simp) HO7.out hg
          generalize hs7 : dRow l most (formS s5 s4.p ((x5 : Int) == 0)) = r7 at *
          obtain ⟨x7, s7⟩ := r7
          simp only at q7 ht8 ⊢
          have hcc : (actRow (actD (⟨x1.toNat, x2, x3, x4, x5, x7⟩ : PAct))) = [.int .i64 x1.toNat, .int .i64 x3, .int .i32 x4, .int .i64 x2, .int .i64 x5, .int .i64 (c8 x7).x0, .int .i64 (c8 x7).x1, .int .i64 (c8 x7).x2, .int .i64 (c8 x7).x3, .int .i64 (c8 x7).x4, .int .i64 (c8 x7).x5, .int .i64 (c8 x7).x6, .int .i64 (c8 x7).x7] := rfl
          have hact : dAct l s' = ((⟨x1.toNat, x2, x3, x4, x5, x7⟩ : PAct), s7) := dAct_is HS1.out HS2.out HS3.out HC4.out HC6.out hs7
          have HL7 := Lib.hid (HGO.out _ _ hact)
          have hO8 : (V7.setCells A 5 (arr (pad8 x7)).toList).heap[A]? = some (.cells #[.int .i64 x1.toNat, .int .i64 x3, .int .i32 x4, .int .i64 x2, .int .i64 x5, .int .i64 (c8 x7).x0, .int .i64 (c8 x7).x1, .int .i64 (c8 x7).x2, .int .i64 (c8 x7).x3, .int .i64 (c8 x7).x4, .int .i64 (c8 x7).x5, .int .i64 (c8 x7).x6, .int .i64 (c8 x7).x7] 112 (0, 0)) := by
            have := setCells_own (arr (pad8 x7)).toList V7 5 _ p7
            rw [pad8_c8 x7 ht8] at this ⊢
            simpa [putA] using this
          have HT7 := Lib.hid (there_mid p7 5 8 (by simp))
          have hq8 := q7.writes (setCells_gx (b := A) (arr (pad8 x7)).toList V7 5) (by simp)
          have hg8 := (HG7.out.trans (hg.mono (by simp))).trans ((setCells_gx (b := A) (arr (pad8 x7)).toList V7 5).mono (by simp))
          have HQ8 := Lib.hid hq8
          have HG8 := Lib.hid hg8
          have HC8 := Lib.hid (show (arr (pad8 x7)).size = 8 by rw [pad8_c8 x7 ht8]; rfl)
          have HO8p := Lib.hid hO8
          clear hs7 hact p7 hg q7 hO8 HQ7 HO7 HG7 hq8 hg8
          go_upto_region 16 with (refine wpList_store_mid (by rfl) 29 (.tmp 59) (.tmp 58) (by rfl) A 5 (arr (pad8 x7)) (by rfl) (by rfl) (by rw [HC8.out]; exact HT7.out) (by rw [HC8.out]; exact info_clock) (arr_ones _) ?_)
          have hO8 := HO8p.out
          clear HO8p
          generalize (V7.setCells A 5 (arr (pad8 x7)).toList) = U8 at *
          generalize c8 x7 = cc at *
          obtain ⟨y0, y1, y2, y3, y4, y5, y6, y7⟩ := cc
          simp only at hcc hO8 ⊢
          have HCC := Lib.hid hcc
          have hA8 : U8.cellsAt ⟨A, 0, none⟩ 13 = some [.int .i64 x1.toNat, .int .i64 x3, .int .i32 x4, .int .i64 x2, .int .i64 x5, .int .i64 y0, .int .i64 y1, .int .i64 y2, .int .i64 y3, .int .i64 y4, .int .i64 y5, .int .i64 y6, .int .i64 y7] := World.cellsAt_block hO8 13 rfl
          have lA8 : A < U8.heap.size := (Array.getElem?_eq_some_iff.1 hO8).1
          have HO8 := Lib.hid hO8
          clear hcc hO8
          have HROW : Hid (U8.ownsRow B 112 13 (.slice ar k cp) k ((xs.map actD).flatMap actRow)) := Lib.hid (HO.out.1.keep fun b hb => by
            have h1 := HO.out.1.lt b hb
            have h2 := HQ.out.d
            have := HB.out
            have := HAA.out
            exact HG8.out.block b h1.2 (by simp; omega))
          have hbb : B ≤ (U8).heap.size := by have := HG8.out.size; have := HB.out; have := HQ.out.g.size; omega
          have hbs := HB.out
          go_wp2_with (at_builtin; go_loud (refine wpList_app (by rfl) (.tmp 60) (.tmp 62) 27 (by rfl) elAct B _ k ((xs.map actD).flatMap actRow) (by rfl) (HROW.out.grew (by exact by repeat (first | with_reducible exact HG.out | with_reducible exact Grew.refl _ | with_reducible assumption | with_reducible apply Grew.plus | with_reducible apply Grew.drewN | with_reducible apply Grew.drew | with_reducible apply Grew.alloc | with_reducible refine Grew.setCell ?_ (by simp [go_sem]; try omega) _))) _ 1 1 #[.int .i64 x1.toNat, .int .i64 x3, .int .i32 x4, .int .i64 x2, .int .i64 x5, .int .i64 y0, .int .i64 y1, .int .i64 y2, .int .i64 y3, .int .i64 y4, .int .i64 y5, .int .i64 y6, .int .i64 y7] 112 (by rfl) (heap_alloc_at _ _ _ rfl) (by rfl) (act_ones _ _ _ _ _ _ _ _ _ _ _ _ _) (by omega) (by omega) (by unfold maxLen; omega) _ (grew_bare _) (Nat.zero_le _) (by rw [alloc_size1]; omega) ?_); intro g c2 w2 hg2 hown2 hkeep2 hsz2 hat2; have HO9 := Lib.hid hown2; have HG9 := Lib.hid (And.intro hg2 (And.intro hkeep2 hsz2)); have HAT := Lib.hid hat2; clear hown2 hg2 hkeep2 hat2 hsz2)
          obtain ⟨q9, -⟩ := HQ8.out.row (.cells #[.int .i64 x1.toNat, .int .i64 x3, .int .i32 x4, .int .i64 x2, .int .i64 x5, .int .i64 y0, .int .i64 y1, .int .i64 y2, .int .i64 y3, .int .i64 y4, .int .i64 y5, .int .i64 y6, .int .i64 y7] 112) (v := .slice ar k cp) (fun b hb => List.mem_cons_of_mem _ (HO.out.2 b hb)) HG9.out HAT.out HO9.out
          have HXL2 := HXL.out
          exact ⟨⟨k + 1, xs ++ [(⟨x1.toNat, x2, x3, x4, x5, x7⟩ : PAct)], s7, some ⟨g, 0, none⟩, c2, _, by omega, rfl, by simp [HXL2], rfl, HL7.out, q9, by rw [List.map_append, List.flatMap_append, List.map_singleton, List.flatMap_singleton, HCC.out]; exact HO9.out, fun b hb => by cases hb; simp⟩, by show n - ((k : Int) + 1).toNat < n - (k : Int).toNat; omega⟩
    · have hkn : k = n := by omega
      subst hkn
      have hend : dLoop (dactsB l) (k - k) k xs s' = (xs, s') := by rw [Nat.sub_self]; rfl
      have HRR : Hid (dActs l s = (xs, s')) := Lib.hid (HR2.out.trans (HL.out.symm.trans hend))
      clear hend
      go_wp2_with fail
      go_ret
      have hxl := HXL.out
      subst hxl
      exact HQ.out.post (x := xs) ⟨ar, cp, rfl, HO.out.1⟩ HRR.out
end
end Go.Proofs.YtnhmekdnfinmiaaGreatDoor
/- Walks: the document's reader of image: edits. -/
namespace Go.Par
def deditB (l : List UInt8) (_ : Nat) (xs : List PChange) : DM (List PChange) := (dChange l).bind fun c => DM.pure (xs ++ [c])
def deditsB (l : List UInt8) (_ : Nat) (xs : List (List PChange)) : DM (List (List PChange)) := (dEdit l).bind fun c => DM.pure (xs ++ [c])
theorem dEdit_eq (l : List UInt8) : dEdit l = (dCount l 4).bind fun n => dLoop (deditB l) n 0 [] := rfl
theorem dEdits_eq (l : List UInt8) : dEdits l = (dCount l 1).bind fun n => dLoop (deditsB l) n 0 [] := rfl
end Go.Par
namespace Go.Proofs.YtnhmekdnfinmiaaGreatDoor
open Go.RowKit Go.Par
set_option linter.unusedSimpArgs false
set_option linter.unusedVariables false
section
variable {w w' W W' : World} {D2 D9 : Nat} {a : Option Addr} {cap : Nat} {l : List UInt8} {cb os : List Nat} {s : DSt}
def encEdits (base : Nat) (xs : List (List PChange)) (W : World) (v : Value) : Prop := ∃ ar cp vs, v = .slice ar xs.length cp ∧ W.ownsRow base 114 1 v xs.length vs ∧ HistsIn W base v.ownBlock vs xs
set_option maxRecDepth 100000 in
set_option maxHeartbeats 8000000 in
theorem r17_edits (h : DS w D2 D9 a cap l cb s) : Calls Tryz.prog 20 #[pt D9] w (DPost w D2 D9 a cap l cb (encEdits w.heap.size) (dEdits l s)) := by
  have HQ0 := Lib.hid (DQ.start h)
  obtain ⟨ld2, ld9, -⟩ := h.c9
  clear h
  go_enter Tryz.func20, Tryz.ntmps20
  go_wp2_with fail
  refine HQ0.out.call (fun cb' hd => r9_count hd 1 (by decide) (by decide)) (fun V0 v hg he q0 => ?_)
  obtain rfl := he
  have hn := dCount_le l 1 s
  have HR : Hid (dEdits l s = _) := Lib.hid (congrFun (dEdits_eq l) s)
  generalize hs0 : dCount l 1 s = r0 at *
  obtain ⟨n, s0⟩ := r0
  have HR2 : Hid (dEdits l s = dLoop (deditsB l) n 0 [] s0) := Lib.hid (HR.out.trans (by unfold DM.bind; rw [hs0]))
  simp only at q0 hn ⊢
  have HX := Lib.hid q0
  clear HR hs0 hg q0 HQ0
  go_wp2_with fail
  generalize hBB : w.heap.size = B at *
  have HB := Lib.hid hBB
  clear hBB
  go_loopw [3, 5] (fun s3 i wr => ∃ (k : Nat) (xs : List (List PChange)) (s' : DSt) (ar : Option Addr) (cp : Nat) (vs : List Value) (os : List Nat), k ≤ n ∧ i = .int .i64 k ∧ xs.length = k ∧ s3 = .slice ar k cp ∧ dLoop (deditsB l) (n - k) k xs s' = dLoop (deditsB l) n 0 [] s0 ∧ DQ w D2 D9 a cap l cb wr s' os ∧ wr.ownsRow B 114 1 (.slice ar k cp) k vs ∧ HistsIn wr B (Value.slice ar k cp).ownBlock vs xs ∧ ∀ b, (Value.slice ar k cp).ownBlock = some b → b ∈ os) (fun _ i _ => n - (intOf i).toNat)
  case atStart => exact ⟨0, [], s0, none, 0, [], [], by omega, rfl, rfl, rfl, rfl, HX.out, ⟨rfl, .inl ⟨rfl, rfl⟩⟩, ⟨rfl, fun i h => absurd h (Nat.not_lt_zero _)⟩, fun b hb => by cases hb⟩
  case round =>
    obtain ⟨W1, hW1⟩ : ∃ W1, W1 = wr := ⟨_, rfl⟩
    subst hW1
    obtain ⟨k, xs, s', ar, cp, vs, os, hk, rfl, hxl, rfl, hl, qe, ho, hh, hv⟩ := hrel
    have HL := Lib.hid hl
    have HQ := Lib.hid qe
    have HO := Lib.hid (And.intro ho (And.intro hh hv))
    have HXL := Lib.hid hxl
    have BD : Hid (Calls Tryz.prog 15 #[pt D9] W1 fun e w' => e = .returned (.bool s'.bad.isSome) ∧ W1 = w') := Lib.hid (by obtain ⟨cb', -, hd⟩ := qe.st; exact r9_bad hd)
    have hw1 := qe.g.size
    clear hl qe ho hv hxl hh
    by_cases hlt : k < n
    · cases hbd : s'.bad.isSome with
      | true =>
        have hend : dLoop (deditsB l) (n - k) k xs s' = (xs, s') := dLoop_bad _ _ _ _ _ hbd
        have HBD := Lib.hid hbd
        clear hbd
        have HRR : Hid (dEdits l s = (xs, s')) := Lib.hid (HR2.out.trans (HL.out.symm.trans hend))
        clear hend
        go_wp2_with ((go_at_call 15; refine BD.out.mono ?_; rintro e w' ⟨rfl, rfl⟩; simp only [HBD.out]))
        go_ret
        have hxl := HXL.out
        subst hxl
        exact HQ.out.post (x := xs) ⟨ar, cp, vs, rfl, HO.out.1, HO.out.2.1⟩ HRR.out
      | false =>
        have HBD := Lib.hid hbd
        have HGO : Hid (∀ x s2, dEdit l s' = (x, s2) → dLoop (deditsB l) (n - (k + 1)) (k + 1) (xs ++ [x]) s2 = dLoop (deditsB l) n 0 [] s0) := Lib.hid fun x s2 hx => by
          rw [← HL.out, show n - k = (n - (k + 1)) + 1 by omega, dLoop_go _ _ _ _ _ HBD.out]
          unfold deditsB DM.bind DM.pure
          rw [hx]
        clear hbd
        go_wp2_with ((go_at_call 15; refine BD.out.mono ?_; rintro e w' ⟨rfl, rfl⟩; simp only [HBD.out]))
        refine HQ.out.call (fun cb' hd => r9_count hd 4 (by decide) (by decide)) (fun V1 v hg he q1 => ?_)
        obtain rfl := he
        have hn2 := dCount_le l 4 s'
        have HE : Hid (dEdit l s' = _) := Lib.hid (congrFun (dEdit_eq l) s')
        generalize hs1 : dCount l 4 s' = r1 at *
        obtain ⟨n2, s1⟩ := r1
        have HE2 : Hid (dEdit l s' = dLoop (deditB l) n2 0 [] s1) := Lib.hid (HE.out.trans (by unfold DM.bind; rw [hs1]))
        simp only at q1 hn2 ⊢
        have HX1 := Lib.hid (And.intro q1 hg)
        clear HE hs1 hg q1
        go_wp2_with fail
        generalize hDD : W1.heap.size = D at *
        have HDD := Lib.hid hDD
        clear hDD
        go_loopw [6, 8] (fun s6 i V => ∃ (k2 : Nat) (ys : List PChange) (s2 : DSt) (ar2 : Option Addr) (cp2 : Nat) (os2 : List Nat), k2 ≤ n2 ∧ i = .int .i64 k2 ∧ ys.length = k2 ∧ s6 = .slice ar2 k2 cp2 ∧ dLoop (deditB l) (n2 - k2) k2 ys s2 = dLoop (deditB l) n2 0 [] s1 ∧ DQ w D2 D9 a cap l cb V s2 os2 ∧ GrewX [D2, D9] W1 V ∧ V.ownsRow D 116 4 (.slice ar2 k2 cp2) k2 (ys.flatMap chRow) ∧ (∀ b, (Value.slice ar2 k2 cp2).ownBlock = some b → b ∈ os2) ∧ ∀ b ∈ os, b ∈ os2) (fun _ i _ => n2 - (intOf i).toNat)
        case atStart => exact ⟨0, [], s1, none, 0, os, by omega, rfl, rfl, rfl, rfl, HX1.out.1, HX1.out.2, ⟨rfl, .inl ⟨rfl, rfl⟩⟩, (fun b hb => by cases hb), (fun b hb => hb)⟩
        case round =>
          obtain ⟨W2, hW2⟩ : ∃ W2, W2 = wr := ⟨_, rfl⟩
          subst hW2
          obtain ⟨k2, ys, s2, ar2, cp2, os2, hk2, rfl, hyl, rfl, hl2, qe2, hg2, ho2, hv2, hsub⟩ := hrel
          have HL2 := Lib.hid hl2
          have HQ2 := Lib.hid qe2
          have HO2 := Lib.hid (And.intro ho2 (And.intro hv2 (And.intro hg2 hsub)))
          have HYL := Lib.hid hyl
          have BD2 : Hid (Calls Tryz.prog 15 #[pt D9] W2 fun e w' => e = .returned (.bool s2.bad.isSome) ∧ W2 = w') := Lib.hid (by obtain ⟨cb', -, hd⟩ := qe2.st; exact r9_bad hd)
          have hw2 := hg2.size
          clear hl2 qe2 ho2 hv2 hyl hg2 hsub
          by_cases hlt2 : k2 < n2
          · cases hbd2 : s2.bad.isSome with
            | true =>
              have hend : dLoop (deditB l) (n2 - k2) k2 ys s2 = (ys, s2) := dLoop_bad _ _ _ _ _ hbd2
              have HBD2 := Lib.hid hbd2
              clear hbd2
              have HRR : Hid (dEdit l s' = (ys, s2)) := Lib.hid (HE2.out.trans (HL2.out.symm.trans hend))
              clear hend
              go_upto_region 14 with ((go_at_call 15; refine BD2.out.mono ?_; rintro e w' ⟨rfl, rfl⟩; simp only [HBD2.out]))
              have HL5 := Lib.hid (HGO.out _ _ HRR.out)
              obtain ⟨ar3, cp3, he3, hcp3, hcp4, hin3, hb3, hn3⟩ := HO2.out.1.rd
              cases he3
              have HIN := Lib.hid (And.intro hin3 (And.intro hb3 (And.intro hcp3 hcp4)))
              have HROW : Hid (W2.ownsRow B 114 1 (.slice ar k cp) k vs) := Lib.hid (HO.out.1.grewX HO2.out.2.2.1 (fun x hx => by have := HB.out; rcases (by simpa using hx : x = D2 ∨ x = D9) with rfl | rfl <;> omega))
              have hbs : B ≤ W2.heap.size := by have := HB.out; have := HDD.out; omega
              clear hin3 hb3 hcp3 hcp4 hn3
              go_wp2_with (at_builtin; go_loud (refine wpList_app (by rfl) (.tmp 54) (.tmp 56) 34 (by rfl) elEdit B _ k vs (by rfl) (HROW.out.grew (by exact by repeat (first | with_reducible exact HG.out | with_reducible exact Grew.refl _ | with_reducible assumption | with_reducible apply Grew.plus | with_reducible apply Grew.drewN | with_reducible apply Grew.drew | with_reducible apply Grew.alloc | with_reducible refine Grew.setCell ?_ (by simp [go_sem]; try omega) _))) _ 1 1 #[.slice ar2 k2 cp2] 114 (by rfl) (heap_alloc_at _ _ _ rfl) (by rfl) (by simp [Value.oneCell']) (by omega) (by omega) (by unfold maxLen; omega) _ (grew_bare _) (Nat.zero_le _) (by rw [alloc_size1]; omega) ?_); intro g c2 w2 hg2 hown2 hkeep2 hsz2 hat2; have HO9 := Lib.hid hown2; have HG9 := Lib.hid (And.intro hg2 (And.intro hkeep2 hsz2)); have HAT := Lib.hid hat2; clear hown2 hg2 hkeep2 hat2 hsz2)
              obtain ⟨q9, hx9⟩ := HQ2.out.row (.cells #[.slice ar2 k2 cp2] 114) (v := .slice ar k cp) (fun b hb => HO2.out.2.2.2 b (HO.out.2.2 b hb)) HG9.out HAT.out HO9.out
              have hlo : ∀ b, (Value.slice ar k cp).ownBlock = some b → B ≤ b ∧ b < D := fun b hb => by have := HO.out.1.lt b hb; have := HDD.out; omega
              have hat := HAT.out
              rw [alloc_size1] at hat
              have hnew : ∀ b, b < W2.heap.size → some b ≠ (Value.slice ar k cp).ownBlock → some b ≠ (Value.slice (some ⟨g, 0, none⟩) (k + 1) c2).ownBlock := fun b hb hn e => by
                simp only [Value.ownBlock, Option.some.injEq] at e
                rcases hat with h | h
                · exact hn (by rw [h, e])
                · omega
              have hsz := HO2.out.2.2.1.size
              have hxl := HXL.out
              have hBB := HB.out
              have hDD := HDD.out
              refine ⟨⟨k + 1, xs ++ [ys], s2, some ⟨g, 0, none⟩, c2, vs ++ [.slice ar2 k2 cp2], _, by omega, rfl, by simp [hxl], rfl, HL5.out, q9, HO9.out, HistsIn.push ?_ ?_, fun b hb => by cases hb; simp⟩, by show n - ((k : Int) + 1).toNat < n - (k : Int).toNat; omega⟩
              · refine HO.out.2.1.grewX (ks := [D2, D9] ++ (Value.slice ar k cp).ownBlock.toList) ((HO2.out.2.2.1.mono (fun x hx => List.mem_append_left _ hx)).trans (hx9.mono (fun x hx => List.mem_append_right _ hx))) (fun x hx => ?_) (fun b _ hb hn => hnew b (by omega) hn)
                rcases List.mem_append.1 hx with h | h
                · left; rcases (by simpa using h : x = D2 ∨ x = D9) with rfl | rfl <;> omega
                · exact .inr (Option.mem_toList.1 h).symm
              · have hyl := HYL.out
                refine ⟨ar2, cp2, by rw [hyl], by rw [hyl]; exact HIN.out.2.2.1, HIN.out.2.2.2, hx9.cells HIN.out.1 (fun x hx hm => ?_), fun b hb => ?_⟩
                · have h1 := (HIN.out.2.1 x hx).1
                  have h2 := hlo x.block (Option.mem_toList.1 hm)
                  omega
                · obtain ⟨h1, h2⟩ := HIN.out.2.1 b hb
                  have h3 := hx9.size
                  exact ⟨by omega, by omega, hnew _ h2 (fun e => by have := hlo _ e.symm; omega)⟩
            | false =>
              have HBD2 := Lib.hid hbd2
              have HGI : Hid (∀ x s3, dChange l s2 = (x, s3) → dLoop (deditB l) (n2 - (k2 + 1)) (k2 + 1) (ys ++ [x]) s3 = dLoop (deditB l) n2 0 [] s1) := Lib.hid fun x s3 hx => by
                rw [← HL2.out, show n2 - k2 = (n2 - (k2 + 1)) + 1 by omega, dLoop_go _ _ _ _ _ HBD2.out]
                unfold deditB DM.bind DM.pure
                rw [hx]
              clear hbd2
              go_wp2_with ((go_at_call 15; refine BD2.out.mono ?_; rintro e w' ⟨rfl, rfl⟩; simp only [HBD2.out]))
              refine HQ2.out.call (fun cb' hd => r9_byte hd 1 3 (by decide) (by decide)) (fun V3 v hg he q3 => ?_)
              obtain rfl := he
              generalize hs3 : dByte l 1 3 s2 = r3 at *
              obtain ⟨x0, s3⟩ := r3
              simp only at q3 ⊢
              have Q4 := q3.own ((Grew.refl V3).alloc (.cells #[.int .i64 x0.toNat, .int .i64 0, .int .i64 0, .int .i64 0] 116)) (Nat.le_refl _) (by simp [go_sem])
              have o4 : (V3.alloc (.cells #[.int .i64 x0.toNat, .int .i64 0, .int .i64 0, .int .i64 0] 116)).heap[V3.heap.size]? = some (.cells #[.int .i64 x0.toNat, .int .i64 0, .int .i64 0, .int .i64 0] 116 (0, 0)) := heap_alloc_new _ _
              have g4 := Lib.hid (hg.alloc (.cells #[.int .i64 x0.toNat, .int .i64 0, .int .i64 0, .int .i64 0] 116))
              have HQ4 := Lib.hid Q4
              have HO4 := Lib.hid o4
              have hw3 := hg.size
              have HS3 := Lib.hid hs3
              clear q3 Q4 o4 hg hs3
              go_wp2_with fail
              generalize (V3.alloc (.cells #[.int .i64 x0.toNat, .int .i64 0, .int .i64 0, .int .i64 0] 116)) = U4 at *
              generalize hAA : V3.heap.size = A at *
              have HAA := Lib.hid hAA
              clear hAA
              refine HQ4.out.call (fun cb' hd => r17_id hd) (fun V5 v hg he q5 => ?_)
              obtain rfl := he
              have p5 := HQ4.out.kept (by simp) HO4.out hg
              generalize hs5 : dId l s3 = r5 at *
              obtain ⟨⟨i0, i1, i2⟩, s5⟩ := r5
              simp only [idV] at q5 ⊢
              have hch : dChange l s2 = (⟨x0.toNat, ⟨i0, i1, i2⟩⟩, s5) := (dbind_is HS3.out).trans (dbind_is hs5)
              have HL6 := Lib.hid (HGI.out _ _ hch)
              obtain ⟨e1, f1⟩ := World.own_cell p5 1 _ rfl
              obtain ⟨e2, f2⟩ := World.own_cell p5 2 _ rfl
              obtain ⟨e3, f3⟩ := World.own_cell p5 3 _ rfl
              have lA5 : A < V5.heap.size := World.block_lt_of_cell? _ _ e1
              have hO6 : (((V5.setCell ⟨A, 1, none⟩ (.int .i64 i0)).setCell ⟨A, 2, none⟩ (.int .i64 i1)).setCell ⟨A, 3, none⟩ (.int .i64 i2)).heap[A]? = some (.cells #[.int .i64 x0.toNat, .int .i64 i0, .int .i64 i1, .int .i64 i2] 116 (0, 0)) := World.own_set2 (World.own_set2 (World.own_set2 p5 1 (.int .i64 i0) _ rfl) 2 (.int .i64 i1) _ rfl) 3 (.int .i64 i2) _ rfl
              have HQ6 := Lib.hid (((q5.set (X := A) (by simp) 1 (.int .i64 i0)).set (X := A) (by simp) 2 (.int .i64 i1)).set (X := A) (by simp) 3 (.int .i64 i2))
              have hA6 := World.cellsAt_block hO6 4 rfl
              have hgr : GrewX [D2, D9] W2 (((V5.setCell ⟨A, 1, none⟩ (.int .i64 i0)).setCell ⟨A, 2, none⟩ (.int .i64 i1)).setCell ⟨A, 3, none⟩ (.int .i64 i2)) := by
                have hAA := HAA.out
                exact (((g4.out.trans hg).set (.inr (by show W2.heap.size ≤ A; omega)) _).set (.inr (by show W2.heap.size ≤ A; omega)) _).set (.inr (by show W2.heap.size ≤ A; omega)) _
              have HGR := Lib.hid hgr
              have HO6 := Lib.hid hO6
              clear p5 q5 hg hs5 hch hO6 hgr
              go_upto_region 13 with (fail)
              clear e1 f1 e2 f2 e3 f3 lA5
              generalize (((V5.setCell ⟨A, 1, none⟩ (.int .i64 i0)).setCell ⟨A, 2, none⟩ (.int .i64 i1)).setCell ⟨A, 3, none⟩ (.int .i64 i2)) = U6 at *
              have lA6 : A < U6.heap.size := (Array.getElem?_eq_some_iff.1 HO6.out).1
              have HROW : Hid (U6.ownsRow D 116 4 (.slice ar2 k2 cp2) k2 (ys.flatMap chRow)) := Lib.hid (HO2.out.1.grewX HGR.out (fun x hx => by have := HB.out; have := HDD.out; rcases (by simpa using hx : x = D2 ∨ x = D9) with rfl | rfl <;> omega))
              have hbs : D ≤ U6.heap.size := by have := HGR.out.size; have := HDD.out; have := HO2.out.2.2.1.size; omega
              go_wp2_with (at_builtin; go_loud (refine wpList_app (by rfl) (.tmp 50) (.tmp 52) 114 (by rfl) elChange D _ k2 (ys.flatMap chRow) (by rfl) (HROW.out.grew (by exact by repeat (first | with_reducible exact HG.out | with_reducible exact Grew.refl _ | with_reducible assumption | with_reducible apply Grew.plus | with_reducible apply Grew.drewN | with_reducible apply Grew.drew | with_reducible apply Grew.alloc | with_reducible refine Grew.setCell ?_ (by simp [go_sem]; try omega) _))) _ 1 1 #[.int .i64 x0.toNat, .int .i64 i0, .int .i64 i1, .int .i64 i2] 116 (by rfl) (heap_alloc_at _ _ _ rfl) (by rfl) (ch_ones _ _ _ _) (by omega) (by omega) (by unfold maxLen; omega) _ (grew_bare _) (Nat.zero_le _) (by rw [alloc_size1]; omega) ?_); intro g c2 w2 hg2 hown2 hkeep2 hsz2 hat2; have HO9 := Lib.hid hown2; have HG9 := Lib.hid (And.intro hg2 (And.intro hkeep2 hsz2)); have HAT := Lib.hid hat2; clear hown2 hg2 hkeep2 hat2 hsz2)
              obtain ⟨q9, hx9⟩ := HQ6.out.row (.cells #[.int .i64 x0.toNat, .int .i64 i0, .int .i64 i1, .int .i64 i2] 116) (v := .slice ar2 k2 cp2) (fun b hb => List.mem_cons_of_mem _ (HO2.out.2.1 b hb)) HG9.out HAT.out HO9.out
              have hyl := HYL.out
              have hDD := HDD.out
              exact ⟨⟨k2 + 1, ys ++ [⟨x0.toNat, ⟨i0, i1, i2⟩⟩], s5, some ⟨g, 0, none⟩, c2, _, by omega, rfl, by simp [hyl], rfl, HL6.out, q9, (((HO2.out.2.2.1.trans HGR.out).mono (ks' := [D2, D9] ++ (Value.slice ar2 k2 cp2).ownBlock.toList) (fun x hx => List.mem_append_left _ hx)).trans (hx9.mono (fun x hx => List.mem_append_right _ hx))).fresh (fun x hx => by
                  rcases List.mem_append.1 hx with h | h
                  · exact .inl h
                  · exact .inr (by have := (HO2.out.1.lt x (Option.mem_toList.1 h)).1; omega)), by rw [List.flatMap_append, List.flatMap_singleton]; exact HO9.out, fun b hb => by cases hb; simp, fun b hb => List.mem_cons_of_mem _ (List.mem_cons_of_mem _ (HO2.out.2.2.2 b hb))⟩, by show n2 - ((k2 : Int) + 1).toNat < n2 - (k2 : Int).toNat; omega⟩
          · have hkn2 : k2 = n2 := by omega
            subst hkn2
            have hend : dLoop (deditB l) (k2 - k2) k2 ys s2 = (ys, s2) := by rw [Nat.sub_self]; rfl
            have HRR : Hid (dEdit l s' = (ys, s2)) := Lib.hid (HE2.out.trans (HL2.out.symm.trans hend))
            clear hend
            go_upto_region 14 with (fail)
            have HL5 := Lib.hid (HGO.out _ _ HRR.out)
            obtain ⟨ar3, cp3, he3, hcp3, hcp4, hin3, hb3, hn3⟩ := HO2.out.1.rd
            cases he3
            have HIN := Lib.hid (And.intro hin3 (And.intro hb3 (And.intro hcp3 hcp4)))
            have HROW : Hid (W2.ownsRow B 114 1 (.slice ar k cp) k vs) := Lib.hid (HO.out.1.grewX HO2.out.2.2.1 (fun x hx => by have := HB.out; rcases (by simpa using hx : x = D2 ∨ x = D9) with rfl | rfl <;> omega))
            have hbs : B ≤ W2.heap.size := by have := HB.out; have := HDD.out; omega
            clear hin3 hb3 hcp3 hcp4 hn3
            go_wp2_with (at_builtin; go_loud (refine wpList_app (by rfl) (.tmp 54) (.tmp 56) 34 (by rfl) elEdit B _ k vs (by rfl) (HROW.out.grew (by exact by repeat (first | with_reducible exact HG.out | with_reducible exact Grew.refl _ | with_reducible assumption | with_reducible apply Grew.plus | with_reducible apply Grew.drewN | with_reducible apply Grew.drew | with_reducible apply Grew.alloc | with_reducible refine Grew.setCell ?_ (by simp [go_sem]; try omega) _))) _ 1 1 #[.slice ar2 k2 cp2] 114 (by rfl) (heap_alloc_at _ _ _ rfl) (by rfl) (by simp [Value.oneCell']) (by omega) (by omega) (by unfold maxLen; omega) _ (grew_bare _) (Nat.zero_le _) (by rw [alloc_size1]; omega) ?_); intro g c2 w2 hg2 hown2 hkeep2 hsz2 hat2; have HO9 := Lib.hid hown2; have HG9 := Lib.hid (And.intro hg2 (And.intro hkeep2 hsz2)); have HAT := Lib.hid hat2; clear hown2 hg2 hkeep2 hat2 hsz2)
            obtain ⟨q9, hx9⟩ := HQ2.out.row (.cells #[.slice ar2 k2 cp2] 114) (v := .slice ar k cp) (fun b hb => HO2.out.2.2.2 b (HO.out.2.2 b hb)) HG9.out HAT.out HO9.out
            have hlo : ∀ b, (Value.slice ar k cp).ownBlock = some b → B ≤ b ∧ b < D := fun b hb => by have := HO.out.1.lt b hb; have := HDD.out; omega
            have hat := HAT.out
            rw [alloc_size1] at hat
            have hnew : ∀ b, b < W2.heap.size → some b ≠ (Value.slice ar k cp).ownBlock → some b ≠ (Value.slice (some ⟨g, 0, none⟩) (k + 1) c2).ownBlock := fun b hb hn e => by
              simp only [Value.ownBlock, Option.some.injEq] at e
              rcases hat with h | h
              · exact hn (by rw [h, e])
              · omega
            have hsz := HO2.out.2.2.1.size
            have hxl := HXL.out
            have hBB := HB.out
            have hDD := HDD.out
            refine ⟨⟨k + 1, xs ++ [ys], s2, some ⟨g, 0, none⟩, c2, vs ++ [.slice ar2 k2 cp2], _, by omega, rfl, by simp [hxl], rfl, HL5.out, q9, HO9.out, HistsIn.push ?_ ?_, fun b hb => by cases hb; simp⟩, by show n - ((k : Int) + 1).toNat < n - (k : Int).toNat; omega⟩
            · refine HO.out.2.1.grewX (ks := [D2, D9] ++ (Value.slice ar k cp).ownBlock.toList) ((HO2.out.2.2.1.mono (fun x hx => List.mem_append_left _ hx)).trans (hx9.mono (fun x hx => List.mem_append_right _ hx))) (fun x hx => ?_) (fun b _ hb hn => hnew b (by omega) hn)
              rcases List.mem_append.1 hx with h | h
              · left; rcases (by simpa using h : x = D2 ∨ x = D9) with rfl | rfl <;> omega
              · exact .inr (Option.mem_toList.1 h).symm
            · have hyl := HYL.out
              refine ⟨ar2, cp2, by rw [hyl], by rw [hyl]; exact HIN.out.2.2.1, HIN.out.2.2.2, hx9.cells HIN.out.1 (fun x hx hm => ?_), fun b hb => ?_⟩
              · have h1 := (HIN.out.2.1 x hx).1
                have h2 := hlo x.block (Option.mem_toList.1 hm)
                omega
              · obtain ⟨h1, h2⟩ := HIN.out.2.1 b hb
                have h3 := hx9.size
                exact ⟨by omega, by omega, hnew _ h2 (fun e => by have := hlo _ e.symm; omega)⟩
    · have hkn : k = n := by omega
      subst hkn
      have hend : dLoop (deditsB l) (k - k) k xs s' = (xs, s') := by rw [Nat.sub_self]; rfl
      have HRR : Hid (dEdits l s = (xs, s')) := Lib.hid (HR2.out.trans (HL.out.symm.trans hend))
      clear hend
      go_wp2_with fail
      go_ret
      have hxl := HXL.out
      subst hxl
      exact HQ.out.post (x := xs) ⟨ar, cp, vs, rfl, HO.out.1, HO.out.2.1⟩ HRR.out
end
end Go.Proofs.YtnhmekdnfinmiaaGreatDoor
