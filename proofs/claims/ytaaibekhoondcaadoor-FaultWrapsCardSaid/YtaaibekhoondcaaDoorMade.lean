/- Walk: what is made of a tree, the program's and the document's. -/
import Derived.Test.YtaaibekhoondcaaDoorRJoin
namespace Go.Proofs.YtaaibekhoondcaaDoor
open Go.RowKit
set_option linter.unusedSimpArgs false
set_option linter.unusedVariables false

theorem tmod_emod (n m : Int) (h : 0 < m) : n % m = if n.tmod m < 0 then n.tmod m + m else n.tmod m := by
  by_cases hn : 0 ≤ n
  · have h2 := Int.emod_nonneg n (show m ≠ 0 by omega)
    rw [Int.tmod_eq_emod_of_nonneg hn, if_neg (by omega)]
  · obtain ⟨k, rfl⟩ : ∃ k, n = -k := ⟨-n, by omega⟩
    have h3 : (-k).tmod m = -(k % m) := by rw [Int.neg_tmod, Int.tmod_eq_emod_of_nonneg (by omega)]
    have h4 := Int.emod_nonneg k (show m ≠ 0 by omega)
    have h5 := Int.emod_lt_of_pos k h
    have h6 := Int.emod_nonneg (-k) (show m ≠ 0 by omega)
    have h7 := Int.emod_lt_of_pos (-k) h
    have h8 := Int.mul_ediv_add_emod k m
    have h9 := Int.mul_ediv_add_emod (-k) m
    rw [h3]
    have h10 : m * (k / m + (-k) / m) = -(k % m) - (-k) % m := by rw [Int.mul_add]; omega
    by_cases hz : k % m = 0
    · rw [if_neg (by omega)]
      have : (k / m + (-k) / m) = 0 := by
        rcases Int.lt_trichotomy (k / m + (-k) / m) 0 with hh | hh | hh
        · have := Int.mul_le_mul_of_nonneg_left (show (k / m + (-k) / m) ≤ -1 by omega) (Int.le_of_lt h); omega
        · exact hh
        · have := Int.mul_le_mul_of_nonneg_left (show 1 ≤ (k / m + (-k) / m) by omega) (Int.le_of_lt h); omega
      rw [this] at h10; omega
    · rw [if_pos (by omega)]
      have : (k / m + (-k) / m) = -1 := by
        rcases Int.lt_trichotomy (k / m + (-k) / m) (-1) with hh | hh | hh
        · have := Int.mul_le_mul_of_nonneg_left (show (k / m + (-k) / m) ≤ -2 by omega) (Int.le_of_lt h); omega
        · exact hh
        · have := Int.mul_le_mul_of_nonneg_left (show 0 ≤ (k / m + (-k) / m) by omega) (Int.le_of_lt h); omega
      rw [this] at h10; omega

set_option maxHeartbeats 1000000 in
theorem within_any (n m : Int) (hn : In64 n) (hm0 : 1 ≤ m) (hm1 : m ≤ 1000) (w : World) : Calls Tryd.prog 86 #[.int .i64 n, .int .i64 m] w fun e w' => e = .returned (.int .i64 (n % m)) ∧ Grew w w' := by
  obtain ⟨hn0, hn1⟩ := hn
  have ht := tmod_emod n m (by omega)
  have hz : (m == 0) = false := by rw [beq_eq_false_iff_ne]; omega
  have hb1 : -m < n.tmod m := by have := Int.lt_tmod_of_pos n (show 0 < m by omega); omega
  have hb2 : n.tmod m < m := Int.tmod_lt_of_pos n (show 0 < m by omega)
  have HT := Lib.hid ht
  clear ht
  by_cases h0 : n.tmod m < 0
  · go_enter Tryd.func86, Tryd.ntmps86
    go_wp2
    go_ret
    exact ⟨ret_int (by have := HT.out; rw [if_pos h0] at this; omega), by repeat (first | with_reducible exact HG.out | with_reducible exact Grew.refl _ | with_reducible assumption | with_reducible apply Grew.plus | with_reducible apply Grew.drewN | with_reducible apply Grew.drew | with_reducible apply Grew.alloc | with_reducible refine Grew.setCell ?_ (by simp [go_sem]; try omega) _)⟩
  · go_enter Tryd.func86, Tryd.ntmps86
    go_wp2
    go_ret
    exact ⟨ret_int (by have := HT.out; rw [if_neg (by omega)] at this; omega), by repeat (first | with_reducible exact HG.out | with_reducible exact Grew.refl _ | with_reducible assumption | with_reducible apply Grew.plus | with_reducible apply Grew.drewN | with_reducible apply Grew.drew | with_reducible apply Grew.alloc | with_reducible refine Grew.setCell ?_ (by simp [go_sem]; try omega) _)⟩

set_option maxHeartbeats 1000000 in
theorem reason_any (c : Int) (hc : In64 c) (w : World) : Calls Tryd.prog 87 #[.int .i64 c] w fun e w' => e = .returned (.int .i64 (codeI (rsn c))) ∧ Grew w w' := by
  have WC := Lib.hid (fun w => within_any c 14 hc (by omega) (by omega) w)
  have h0 := Int.emod_nonneg c (show (14 : Int) ≠ 0 by omega)
  have h1 := Int.emod_lt_of_pos c (show (0 : Int) < 14 by omega)
  have hr : codeI (rsn c) = if c % 14 = 0 then 99 else c % 14 := by
    unfold rsn codeI
    by_cases h : c % 14 = 0
    · rw [if_pos h, if_pos h]; rfl
    · rw [if_neg h, if_neg h, if_neg (by omega)]; omega
  rw [hr]
  clear hr
  generalize c % 14 = k at *
  by_cases h : k = 0
  · subst h
    rw [if_pos rfl]
    go_enter Tryd.func87, Tryd.ntmps87
    go_wp2_with (go_at_call 86; refine (WC.out _).mono ?_; rintro e w' ⟨rfl, gx, rfl⟩)
    go_ret
    exact ⟨rfl, by repeat (first | with_reducible exact HG.out | with_reducible exact Grew.refl _ | with_reducible assumption | with_reducible apply Grew.plus | with_reducible apply Grew.drewN | with_reducible apply Grew.drew | with_reducible apply Grew.alloc | with_reducible refine Grew.setCell ?_ (by simp [go_sem]; try omega) _)⟩
  · rw [if_neg h]
    have hk : (k == 0) = false := by simpa using h
    go_enter Tryd.func87, Tryd.ntmps87
    go_wp2_with (go_at_call 86; refine (WC.out _).mono ?_; rintro e w' ⟨rfl, gx, rfl⟩)
    go_ret
    exact ⟨rfl, by repeat (first | with_reducible exact HG.out | with_reducible exact Grew.refl _ | with_reducible assumption | with_reducible apply Grew.plus | with_reducible apply Grew.drewN | with_reducible apply Grew.drew | with_reducible apply Grew.alloc | with_reducible refine Grew.setCell ?_ (by simp [go_sem]; try omega) _)⟩

set_option maxHeartbeats 2000000 in
theorem named_any {S : Nat → Addr} {w : World} (hS : Sents S w) (k : Nat) (h0 : 1 ≤ k) (h1 : k ≤ 14) :
    Calls Tryd.prog 44 #[.int .i64 (codeI k)] w fun e w' => e = .returned (errV (S k)) ∧ Grew w w' := by
  by_cases h : k = 14
  · subst h
    have hs := hS.s14
    have hc : codeI 14 = 99 := rfl
    rw [hc]
    go_enter Tryd.func44, Tryd.ntmps44
    go_wp2_with fail
    go_ret
    exact ⟨rfl, by repeat (first | with_reducible exact HG.out | with_reducible exact Grew.refl _ | with_reducible assumption | with_reducible apply Grew.plus | with_reducible apply Grew.drewN | with_reducible apply Grew.drew | with_reducible apply Grew.alloc | with_reducible refine Grew.setCell ?_ (by simp [go_sem]; try omega) _)⟩
  · have hc : codeI k = k := by unfold codeI; rw [if_neg h]
    rw [hc]
    have := named_in hS (k : Int) (by omega) (by omega)
    rwa [Int.toNat_natCast] at this

def RoomAt (p : Nat) (r : Int) (w : World) : Prop := w.heap[p]? = some (.cells #[.int .i64 r] 3 (0, 0))
/-- All blocks but p are as they were. -/
def Kp (p : Nat) (w w' : World) : Prop := w.heap.size ≤ w'.heap.size ∧ ∀ k, k < w.heap.size → k ≠ p → w'.heap[k]? = w.heap[k]?
theorem Kp.trans {p : Nat} {w w' w'' : World} (h : Kp p w w') (h' : Kp p w' w'') : Kp p w w'' :=
  ⟨Nat.le_trans h.1 h'.1, fun k hk hp => by rw [h'.2 k (by have := h.1; omega) hp, h.2 k hk hp]⟩
theorem Kp.of_grew {p : Nat} {w w' : World} (g : Grew w w') : Kp p w w' := ⟨g.size, fun k hk _ => g.block k hk⟩

theorem hb_set {W : World} {q B i : Nat} {u : Value} {o : Obj} (hne : q ≠ B) (h : W.heap[q]? = some o) : (W.setCell ⟨B, i, none⟩ u).heap[q]? = some o := by rw [World.block_setCell _ _ _ _ hne]; exact h
theorem hb_plus {W : World} {x : More} {q : Nat} {o : Obj} (h : W.heap[q]? = some o) : (W.plus x).heap[q]? = some o := Grew.heap ((Grew.refl _).plus x) h
theorem hb_alloc {W : World} {q : Nat} {o o' : Obj} (h : W.heap[q]? = some o) : (W.alloc o').heap[q]? = some o := keep_a h
theorem hb_drew {W : World} {q : Nat} {o : Obj} (h : W.heap[q]? = some o) : W.drew.heap[q]? = some o := h
def Ex (B : Nat) (w w' : World) : Prop := w'.heap.size = w.heap.size ∧ ∀ q, q ≠ B → w'.heap[q]? = w.heap[q]?
/-- A world of which another has grown, with no more than B blocks. -/
def sub0 (W : World) (B : Nat) : World := { W with heap := W.heap.extract 0 B }
theorem sub0_size (W : World) (B : Nat) (hB : B < W.heap.size) : (sub0 W B).heap.size ≤ B := by simp [sub0]; omega
theorem sub0_grew (W : World) (B : Nat) : Grew (sub0 W B) W := Grew.of_parts rfl rfl rfl (by simp [sub0]; omega) (fun j hj => by
  have : j < B ∧ j < W.heap.size := by simp [sub0] at hj; omega
  simp [sub0, Array.getElem?_extract]; omega)
/-- Six cells written one by one, at the end of a walk. -/
theorem chain6 {Q : World → Prop} {W2 : World} {B : Nat} {o0 o1 o2 o3 o4 o5 c0 c1 c2 c3 c4 c5 : Value} {t : TypeId} (h : W2.heap[B]? = some (.cells #[o0, o1, o2, o3, o4, o5] t (0, 0)))
    (k : ∀ W9 : World, W9.heap[B]? = some (.cells #[c0, c1, c2, c3, c4, c5] t (0, 0)) → Ex B W2 W9 → (∀ W0 : World, W0.heap.size ≤ B → Grew W0 W2 → Grew W0 W9) → Q W9) :
    Q ((((((W2.setCell ⟨B, 0, none⟩ c0).setCell ⟨B, 1, none⟩ c1).setCell ⟨B, 2, none⟩ c2).setCell ⟨B, 3, none⟩ c3).setCell ⟨B, 4, none⟩ c4).setCell ⟨B, 5, none⟩ c5) := by
  have hB := (Array.getElem?_eq_some_iff.1 h).1
  refine k _ ?_ ?_ (fun W0 h0 g => (set6 h h0 g c0 c1 c2 c3 c4 c5 _ rfl).2.2.2)
  · exact (set6 h (show (sub0 W2 B).heap.size ≤ B from sub0_size W2 B hB) (sub0_grew W2 B) c0 c1 c2 c3 c4 c5 _ rfl).1
  · have := set6 h (show (sub0 W2 B).heap.size ≤ B from sub0_size W2 B hB) (sub0_grew W2 B) c0 c1 c2 c3 c4 c5 _ rfl
    exact ⟨this.2.2.1, this.2.1⟩
theorem kp_fin {p B : Nat} {w wd W2 W9 : World} (hx : Ex B W2 W9) (g : Grew wd W2) (hk : Kp p w wd) (hB : w.heap.size ≤ B) : Kp p w W9 :=
  ⟨by have := hx.1; have := g.size; have := hk.1; omega, fun q hq hp => by rw [hx.2 q (by omega), g.block q (by have := hk.1; omega), hk.2 q hq hp]⟩
theorem room_fin {p B : Nat} {r : Int} {wd W2 W9 : World} (hx : Ex B W2 W9) (hne : p ≠ B) (g : Grew wd W2) (h : RoomAt p r wd) : RoomAt p r W9 := by
  unfold RoomAt; rw [hx.2 p hne]; exact Grew.heap g h
theorem rin_fin {B : Nat} {U U' : Nat → Prop} {e : Err} {cs : List Value} {W2 W9 : World} (hx : Ex B W2 W9) (h : RIn W2 U e cs) (hU : ∀ q, U q → q ≠ B ∧ U' q) : RIn W9 U' e cs :=
  h.keep (fun q hq _ => ⟨(hU q hq).2, hx.2 q (hU q hq).1⟩)
theorem errin_fin {S : Nat → Addr} {B : Nat} {U U' : Nat → Prop} {e : Err} {v : Value} {W2 W9 : World} (hx : Ex B W2 W9) (h : ErrIn S W2 U e v) (hU : ∀ q, U q → q ≠ B ∧ U' q) : ErrIn S W9 U' e v :=
  h.keep (fun q hq _ => ⟨(hU q hq).2, hx.2 q (hU q hq).1⟩)
theorem b2_new {w wc w4 : World} {gx : More} {Z : Obj} {p : Nat} (hsz : wc.heap.size = w.heap.size + 2) (hp : p < w.heap.size) (hk : Kp p ((wc.plus gx).alloc Z) w4) : w4.heap[w.heap.size + 2 + gx.blocks.size]? = some Z := by
  have h1 : ((wc.plus gx).alloc Z).heap.size = wc.heap.size + gx.blocks.size + 1 := by simp [go_sem]
  rw [hk.2 _ (by omega) (by omega)]
  exact heap_alloc_at _ _ _ (by simp [go_sem]; omega)
theorem u_b2 {w wc : World} {gx : More} {Z : Obj} (hsz : wc.heap.size = w.heap.size + 2) {q : Nat} (hq : ((wc.plus gx).alloc Z).heap.size ≤ q) : q ≠ w.heap.size + 2 + gx.blocks.size ∧ w.heap.size + 2 ≤ q := by
  have h1 : ((wc.plus gx).alloc Z).heap.size = wc.heap.size + gx.blocks.size + 1 := by simp [go_sem]
  constructor <;> omega
theorem blk_fin {p B q : Nat} {wc W w4 w9 : World} {o : Obj} (hx : Ex B w4 w9) (hk : Kp p W w4) (g : Grew wc W) (h : wc.heap[q]? = some o) (h1 : q ≠ B) (h2 : q ≠ p) : w9.heap[q]? = some o := by
  have hl := (Array.getElem?_eq_some_iff.1 h).1
  rw [hx.2 q h1, hk.2 q (by have := g.size; omega) h2]; exact Grew.heap g h
theorem u_ge {w wd W : World} (h : w.heap.size + 2 ≤ wd.heap.size) (g : Grew wd W) {q : Nat} (hq : q = W.heap.size) : w.heap.size + 2 ≤ q := by
  have := g.size; omega
theorem alloc_grew {W w1 : World} {o : Obj} (h : w1 = W.alloc o) : Grew W w1 := by subst h; exact (Grew.refl _).alloc _
theorem ex_plus {B : Nat} {w w' : World} {x : More} (h : Ex B w w') : Ex B (w.plus x) (w'.plus x) := by
  refine ⟨by simp only [World.size_plus, h.1], fun q hq => ?_⟩
  simp only [World.plus, Array.getElem?_append, h.1]
  split
  · exact h.2 q hq
  · rfl
theorem u_fin {w wd W : World} (h : w.heap.size + 2 ≤ wd.heap.size) (g : Grew wd W) {q : Nat} (hq : W.heap.size ≤ q) : q ≠ w.heap.size + 1 ∧ w.heap.size ≤ q := by
  have := g.size; constructor <;> omega
theorem new_let (l c : ByteArray) (i : Int) (u : TypeId) (z : Value) (w : World) :
    Calls Tryd.prog 48 #[.string l, .string c, .int .i64 i, .iface u z] w fun e w' => ∃ Bf, Bf = w.heap.size ∧ e = .returned (faultV ⟨Bf, 0, none⟩) ∧ w' = w.alloc (.cells #[.string l, .string c, .int .i64 (max i (-1)), .iface u z] 106) :=
  (new_any l c i u z w).mono fun e w' ⟨h1, h2⟩ => ⟨_, rfl, h1, h2⟩
theorem rin_lit {w : World} {U : Nat → Prop} {e : Err} {rc : Array Value} (h : RIn w U e rc.toList) : ∃ (k c i : Int) (l b : ByteArray) (sa : Option Addr) (sn sc : Nat), rc = #[.int .i64 k, .int .i64 c, .string l, .string b, .int .i64 i, .slice sa sn sc] := by
  obtain ⟨k, c, i, l, b, sa, sn, sc, h1, _⟩ := h.kind
  obtain ⟨rl⟩ := rc
  simp only at h1
  subst h1
  exact ⟨k, c, i, l, b, sa, sn, sc, rfl⟩
def callsN : Nat → Int
  | 0 => 1
  | f + 1 => 1 + 6 * callsN f
theorem callsN_pos : ∀ f, 1 ≤ callsN f
  | 0 => by simp [callsN]
  | f + 1 => by have := callsN_pos f; rw [callsN]; omega
theorem mkL_low (g : Int → TreeD → Err × Int) (c : Int) (h : ∀ r t, r - c ≤ (g r t).2 ∧ (g r t).2 ≤ r) (hc : 0 ≤ c) : ∀ (l : List TreeD) (r : Int), r - l.length * c ≤ (mkL g r l).2 ∧ (mkL g r l).2 ≤ r
  | [], r => by simp [mkL]
  | t :: l, r => by
    have h1 := h r t
    have h2 := mkL_low g c h hc l (g r t).2
    rw [mkL, List.length_cons]
    have h3 : (((l.length + 1 : Nat) : Int)) * c = (l.length : Int) * c + c := by rw [Int.natCast_add, Int.add_mul]; omega
    simp only
    omega
theorem mk_succ (f : Nat) (r k c a : Int) (l b : ByteArray) (kids : List TreeD) : mk (f + 1) r (.node k c a l b kids) =
    if r - 1 < 0 then (.none, r - 1)
    else if k % 4 = 1 then (.reason (rsn c), r - 1)
    else if k % 4 = 2 then
      match kids with
      | [] => (.none, r - 1)
      | t :: _ => (newE l b a (mk f (r - 1) t).1, (mk f (r - 1) t).2)
    else if k % 4 = 3 then (joinE (mkL (mk f) (r - 1) (kids.take 6)).1, (mkL (mk f) (r - 1) (kids.take 6)).2)
    else (.none, r - 1) := rfl
theorem mk_zero (r : Int) (t : TreeD) : mk 0 r t = (.none, r - 1) := by cases t; rfl
theorem mk_low : ∀ (f : Nat) (r : Int) (t : TreeD), r - callsN f ≤ (mk f r t).2 ∧ (mk f r t).2 ≤ r
  | 0, r, t => by simp [mk, callsN]; omega
  | f + 1, r, .node k c a l b kids => by
    have hp := callsN_pos f
    have ih := mk_low f
    have h6 := mkL_low (mk f) (callsN f) ih (by omega) (kids.take 6) (r - 1)
    have h7 : (((kids.take 6).length : Nat) : Int) * callsN f ≤ 6 * callsN f := Int.mul_le_mul_of_nonneg_right (by rw [List.length_take]; omega) (by omega)
    rw [callsN, mk_succ]
    split
    · simp only; omega
    · split
      · simp only; omega
      · split
        · cases kids with
          | nil => simp only; omega
          | cons t l' => have := ih (r - 1) t; simp only; omega
        · split
          · simp only; omega
          · simp only; omega
theorem mkL_snoc (g : Int → TreeD → Err × Int) (t : TreeD) : ∀ (l : List TreeD) (r : Int), mkL g r (l ++ [t]) = ((mkL g r l).1 ++ [(g (mkL g r l).2 t).1], (g (mkL g r l).2 t).2)
  | [], r => rfl
  | x :: l, r => by
    rw [List.cons_append, mkL, mkL_snoc g t l, mkL]
    rfl
theorem mkL_len (g : Int → TreeD → Err × Int) : ∀ (l : List TreeD) (r : Int), (mkL g r l).1.length = l.length
  | [], r => rfl
  | x :: l, r => by rw [mkL, List.length_cons, List.length_cons, mkL_len g l]


theorem size_alloc' (w : World) (o : Obj) : (w.alloc o).heap.size = w.heap.size + 1 := by simp [go_sem]
def UU (w : World) (v u : Value) (q : Nat) : Prop := w.heap.size + 2 ≤ q ∧ v.ownBlock ≠ some q ∧ u.ownBlock ≠ some q
/-- The loop over a tree's kids: what has been made of the first j. -/
structure Lp (S : Nat → Addr) (w0 w wr : World) (p : Nat) (g : Int → TreeD → Err × Int) (r : Int) (kids : List TreeD) (box one : Obj) (j : Nat) (v u : Value) (zs : List (Err × Value × List Value)) (r' : Int) : Prop where
  jl : j ≤ kids.length
  j6 : j ≤ 6
  zl : zs.length = j
  hm : mkL g r (kids.take j) = (zs.map (·.1), r')
  ov : wr.ownsRow (w.heap.size + 2) 33 1 v j (zs.map (·.2.1))
  ou : wr.ownsRow (w.heap.size + 2) 66 6 u j (zs.flatMap (·.2.2))
  ne : ∀ q, v.ownBlock = some q → u.ownBlock ≠ some q
  el : ∀ z ∈ zs, ErrIn S wr (UU w v u) z.1 z.2.1 ∧ RIn wr (UU w v u) z.1 z.2.2
  rm : RoomAt p r' wr
  hg : Grew w0 wr
  kp : Kp p w wr
  bx : wr.heap[w.heap.size]? = some box
  b1 : wr.heap[w.heap.size + 1]? = some one
  hp : p < w.heap.size
section
variable {S : Nat → Addr} {w0 w wr w4 w5 w6 : World} {p : Nat} {g : Int → TreeD → Err × Int} {r r' r'' : Int} {kids : List TreeD} {box one o1 o2 o3 : Obj} {j : Nat} {v u v' u' : Value} {zs : List (Err × Value × List Value)}
theorem Lp.ov4 (L : Lp S w0 w wr p g r kids box one j v u zs r') (hk : Kp p wr w4) : w4.ownsRow (w.heap.size + 2) 33 1 v j (zs.map (·.2.1)) :=
  L.ov.keep (fun k h => hk.2 k (L.ov.lt k h).2 (by have := (L.ov.lt k h).1; have := L.hp; omega))
theorem Lp.ou5 (L : Lp S w0 w wr p g r kids box one j v u zs r') (hk : Kp p wr w4) (h5 : ∀ k, k < ((w4.alloc o1).alloc o2).heap.size → some k ≠ v.ownBlock → w5.heap[k]? = ((w4.alloc o1).alloc o2).heap[k]?) : w5.ownsRow (w.heap.size + 2) 66 6 u j (zs.flatMap (·.2.2)) :=
  L.ou.keep (fun k h => by
    have hl := (L.ou.lt k h).2
    have h0 := (L.ou.lt k h).1
    have hs : ∀ (W : World) (o : Obj), (W.alloc o).heap.size = W.heap.size + 1 := fun W o => by simp [go_sem]
    have hs4 := hk.1
    have hp := L.hp
    rw [h5 k (by rw [hs, hs]; omega) (fun e => L.ne k e.symm h), heap_alloc_past _ _ _ (by rw [hs]; omega), heap_alloc_past _ _ _ (by omega), hk.2 k hl (by omega)])
theorem Lp.next (L : Lp S w0 w wr p g r kids box one j v u zs r') {e : Err} {ev : Value} {rcl : List Value} {t : TreeD} (ht : kids[j]? = some t) (hj6 : j < 6) (hgt : g r' t = (e, r''))
    (he : ErrIn S w4 (fun q => wr.heap.size ≤ q) e ev) (hri : RIn w4 (fun q => wr.heap.size ≤ q) e rcl) (hrm : RoomAt p r'' w4) (hk : Kp p wr w4)
    {g5 c5 : Nat} (hv' : v' = .slice (some ⟨g5, 0, none⟩) (j + 1) c5) (hown5 : w5.ownsRow (w.heap.size + 2) 33 1 v' (j + 1) (zs.map (·.2.1) ++ [ev]))
    (h5 : ∀ k, k < ((w4.alloc o1).alloc o2).heap.size → some k ≠ v.ownBlock → w5.heap[k]? = ((w4.alloc o1).alloc o2).heap[k]?) (s5 : ((w4.alloc o1).alloc o2).heap.size ≤ w5.heap.size) (at5 : v.ownBlock = some g5 ∨ g5 = ((w4.alloc o1).alloc o2).heap.size)
    {g6 c6 : Nat} (hu' : u' = .slice (some ⟨g6, 0, none⟩) (j + 1) c6) (hown6 : w6.ownsRow (w.heap.size + 2) 66 6 u' (j + 1) (zs.flatMap (·.2.2) ++ rcl))
    (h6 : ∀ k, k < (w5.alloc o3).heap.size → some k ≠ u.ownBlock → w6.heap[k]? = (w5.alloc o3).heap[k]?) (s6 : (w5.alloc o3).heap.size ≤ w6.heap.size) (at6 : u.ownBlock = some g6 ∨ g6 = (w5.alloc o3).heap.size) (hg6 : Grew w0 w6) :
    Lp S w0 w w6 p g r kids box one (j + 1) v' u' (zs ++ [(e, ev, rcl)]) r'' := by
  have hs : ∀ (W : World) (o : Obj), (W.alloc o).heap.size = W.heap.size + 1 := fun W o => by simp [go_sem]
  rw [hs, hs] at s5 at5
  rw [hs] at s6 at6
  have hs4 := hk.1
  have hp := L.hp
  have hjl : j < kids.length := (List.getElem?_eq_some_iff.1 ht).1
  have key : ∀ q, q < w4.heap.size → v.ownBlock ≠ some q → u.ownBlock ≠ some q → w6.heap[q]? = w4.heap[q]? := fun q hq hqv hqu => by
    rw [h6 q (by rw [hs]; omega) (fun e => hqu e.symm), heap_alloc_past _ _ _ (by omega), h5 q (by rw [hs, hs]; omega) (fun e => hqv e.symm), heap_alloc_past _ _ _ (by rw [hs]; omega), heap_alloc_past _ _ _ hq]
  have vlt : ∀ q, v.ownBlock = some q → w.heap.size + 2 ≤ q ∧ q < wr.heap.size := fun q h => L.ov.lt q h
  have ult : ∀ q, u.ownBlock = some q → w.heap.size + 2 ≤ q ∧ q < wr.heap.size := fun q h => L.ou.lt q h
  have hv5 : v'.ownBlock = some g5 := by rw [hv']; rfl
  have hu6 : u'.ownBlock = some g6 := by rw [hu']; rfl
  have g5lt : g5 < w5.heap.size := (hown5.lt g5 hv5).2
  have g5u : u.ownBlock ≠ some g5 := fun h => by
    rcases at5 with h' | h'
    · exact L.ne g5 h' h
    · have := (ult g5 h).2; omega
  have g56 : g5 ≠ g6 := fun h => by
    subst h
    rcases at6 with h' | h'
    · exact g5u h'
    · omega
  -- an element's block is none of the two rows'
  have up : ∀ q, q < w4.heap.size → (v.ownBlock ≠ some q ∧ u.ownBlock ≠ some q) → v'.ownBlock ≠ some q ∧ u'.ownBlock ≠ some q := fun q hq ⟨h1, h2⟩ => by
    rw [hv5, hu6]
    refine ⟨fun h => ?_, fun h => ?_⟩
    · cases h
      rcases at5 with h' | h'
      · exact h1 h'
      · omega
    · cases h
      rcases at6 with h' | h'
      · exact h2 h'
      · omega
  have oldU : ∀ q, UU w v u q → q < wr.heap.size → UU w v' u' q ∧ w6.heap[q]? = wr.heap[q]? := fun q ⟨h0, h1, h2⟩ hq =>
    ⟨⟨h0, up q (by omega) ⟨h1, h2⟩⟩, by rw [key q (by omega) h1 h2, hk.2 q hq (by omega)]⟩
  have newU : ∀ q, wr.heap.size ≤ q → q < w4.heap.size → UU w v' u' q ∧ w6.heap[q]? = w4.heap[q]? := fun q h0 hq => by
    have h1 : v.ownBlock ≠ some q := fun h => by have := (vlt q h).2; omega
    have h2 : u.ownBlock ≠ some q := fun h => by have := (ult q h).2; omega
    exact ⟨⟨by have := L.kp.1; have := (Array.getElem?_eq_some_iff.1 L.b1).1; omega, up q hq ⟨h1, h2⟩⟩, key q hq h1 h2⟩
  have lowB : ∀ q, q < w.heap.size + 2 → v.ownBlock ≠ some q ∧ u.ownBlock ≠ some q := fun q hq => ⟨fun h => by have := (vlt q h).1; omega, fun h => by have := (ult q h).1; omega⟩
  have hw2 := (Array.getElem?_eq_some_iff.1 L.b1).1
  have low6 : ∀ q, q < w.heap.size + 2 → w6.heap[q]? = w4.heap[q]? := fun q hq => key q (by omega) (lowB q hq).1 (lowB q hq).2
  refine ⟨by omega, by omega, by simp [L.zl], ?_, ?_, ?_, ?_, ?_, ?_, hg6, ?_, ?_, ?_, hp⟩
  · rw [List.take_add_one, ht, Option.toList_some, mkL_snoc, L.hm, hgt]; simp
  · rw [List.map_append]
    exact hown5.keep (fun k h => by
      rw [hv5] at h; cases h
      rw [h6 g5 (by rw [hs]; omega) (fun e => g5u e.symm), heap_alloc_past _ _ _ g5lt])
  · rw [List.flatMap_append]; simpa using hown6
  · intro q h; rw [hv5] at h; cases h; rw [hu6]; exact fun e => g56 (Option.some.inj e).symm
  · intro z hz
    rcases List.mem_append.1 hz with hz | hz
    · obtain ⟨h1, h2⟩ := L.el z hz
      exact ⟨h1.keep oldU, h2.keep oldU⟩
    · simp only [List.mem_singleton] at hz
      subst hz
      exact ⟨he.keep newU, hri.keep newU⟩
  · unfold RoomAt at *; rw [low6 p (by omega)]; exact hrm
  · refine ⟨by have := L.kp.1; omega, fun q hq hqp => ?_⟩
    rw [low6 q (by omega), hk.2 q (by have := L.kp.1; omega) hqp, L.kp.2 q hq hqp]
  · rw [low6 _ (by omega), hk.2 _ (by omega) (by omega)]; exact L.bx
  · rw [low6 _ (by omega), hk.2 _ (by omega) (by omega)]; exact L.b1
end
theorem made_start {w0 w : World} {p : Nat} {r : Int} (hp0 : w0.heap.size ≤ p) (hg : Grew w0 w) (hrm : RoomAt p r w) (A Z : Array Value) (T E : TypeId) (wc : World)
    (hwc : ((w.setCell ⟨p, 0, none⟩ (.int .i64 (r - 1))).alloc (.cells A T)).alloc (.cells Z E) = wc) :
    RoomAt p (r - 1) wc ∧ wc.heap[w.heap.size]? = some (.cells A T (0, 0)) ∧ wc.heap[w.heap.size + 1]? = some (.cells Z E (0, 0)) ∧ wc.heap.size = w.heap.size + 2 ∧ Grew w0 wc ∧ Kp p w wc := by
  subst hwc
  have hplt := (Array.getElem?_eq_some_iff.1 hrm).1
  have h1 := World.own_setCell (i := 0) hrm (.int .i64 (r - 1))
  have hs := World.setCell_size w ⟨p, 0, none⟩ (.int .i64 (r - 1))
  have h2 : ∀ (W : World) (o : Obj), (W.alloc o).heap.size = W.heap.size + 1 := fun W o => by simp [go_sem]
  refine ⟨?_, ?_, ?_, by rw [h2, h2, hs], ((hg.setCell (p := ⟨p, 0, none⟩) hp0 _).alloc _).alloc _, by rw [h2, h2, hs]; omega, fun q hq hqp => ?_⟩
  · exact keep_a (keep_a h1)
  · exact keep_a (heap_alloc_at _ _ _ hs.symm)
  · exact heap_alloc_at _ _ _ (by rw [h2, hs])
  · rw [heap_alloc_past _ _ _ (by rw [h2, hs]; omega), heap_alloc_past _ _ _ (by rw [hs]; exact hq), World.block_setCell _ _ _ _ hqp]

set_option maxRecDepth 100000 in
set_option maxHeartbeats 8000000 in
theorem made_any {S : Nat → Addr} {w0 : World} (p : Nat) (hp0 : w0.heap.size ≤ p) (hS : Sents S w0) : ∀ (f : Nat), f ≤ 13 → ∀ (d : Int), d = 13 - f → ∀ (t : TreeD) (cs : Array Value) (r : Int) (w : World), TreeAt w0 t cs.toList → Grew w0 w → RoomAt p r w → callsN f - 1000000000000000 ≤ r → r ≤ 1000 →
    Calls Tryd.prog 63 #[.agg cs, .int .i64 d, .pointer (some ⟨p, 0, none⟩)] w fun x w' => ∃ v rc, x = .returned (.tuple #[v, .agg rc]) ∧ ErrIn S w' (fun q => w.heap.size ≤ q) (mk f r t).1 v ∧ RIn w' (fun q => w.heap.size ≤ q) (mk f r t).1 rc.toList ∧ RoomAt p (mk f r t).2 w' ∧ Grew w0 w' ∧ Kp p w w' := by
  have HS := Lib.hid hS
  clear hS
  intro f
  induction f with
  | zero =>
    intro hf d hd t cs r w ht hg hrm hr0 hr1
    have hplt := (Array.getElem?_eq_some_iff.1 hrm).1
    obtain ⟨hpc, hpf⟩ := World.own_cell hrm 0 _ rfl
    obtain ⟨cs⟩ := cs
    cases ht with
    | @node k c a l b kids ad cap rows hk hc ha hlc hcm hrl hrows hkids =>
    have HROW := Lib.hid hrows
    have HKID := Lib.hid hkids
    clear hrows hkids
    rw [callsN] at hr0
    rw [mk_zero]
    go_enter Tryd.func63, Tryd.ntmps63
    go_upto_region 2 with fail
    generalize hwc : ((w.setCell ⟨p, 0, none⟩ (.int .i64 (r - 1))).alloc (.cells ⟨[.int .i64 k, .int .i64 c, .int .i64 a, .string l, .string b, .slice ad kids.length cap]⟩ 63)).alloc (.cells #[.int .i64 0, .int .i64 0, .string ⟨#[]⟩, .string ⟨#[]⟩, .int .i64 0, .slice none 0 0] 66) = wc
    obtain ⟨hrm1, hbx, hb1, hsz, hg1, hk1⟩ := made_start hp0 hg hrm _ _ _ _ wc hwc
    have HRM := Lib.hid hrm1
    have HBX := Lib.hid hbx
    have HB1 := Lib.hid hb1
    have HG := Lib.hid hg1
    have HK := Lib.hid hk1
    have hg0 := hg.size
    clear hpc hpf hwc hg1 hk1
    obtain ⟨hpc, hpf⟩ := World.own_cell hrm1 0 _ rfl
    obtain ⟨⟨p0, r0⟩, ⟨p1, r1⟩, ⟨p2, r2⟩, ⟨p3, r3⟩, ⟨p4, r4⟩, ⟨p5, r5⟩⟩ := six hb1
    obtain ⟨⟨x0, z0⟩, ⟨x1, z1⟩, ⟨x2, z2⟩, ⟨x3, z3⟩, ⟨x4, z4⟩, ⟨x5, z5⟩⟩ := six hbx
    clear hrm hrm1 hbx hb1
    go_wp2_with fail
    obtain ⟨e6, o6, s6, g6⟩ := set6 HB1.out (show w0.heap.size ≤ w.heap.size + 1 by omega) HG.out (.int .i64 0) (.int .i64 0) (.string ⟨#[]⟩) (.string ⟨#[]⟩) (.int .i64 0) (.slice none 0 0) _ rfl
    generalize (World.setCell (World.setCell (World.setCell (World.setCell (World.setCell (World.setCell wc ⟨w.heap.size + 1, 0, none⟩ (.int .i64 0)) ⟨w.heap.size + 1, 1, none⟩ (.int .i64 0)) ⟨w.heap.size + 1, 2, none⟩ (.string ⟨#[]⟩)) ⟨w.heap.size + 1, 3, none⟩ (.string ⟨#[]⟩)) ⟨w.heap.size + 1, 4, none⟩ (.int .i64 0)) ⟨w.heap.size + 1, 5, none⟩ (.slice none 0 0)) = w9 at *
    obtain ⟨⟨y0, _⟩, ⟨y1, _⟩, ⟨y2, _⟩, ⟨y3, _⟩, ⟨y4, _⟩, ⟨y5, _⟩⟩ := six e6
    exact bodyPost_ret (v := .tuple #[.nilIface, .agg #[.int .i64 0, .int .i64 0, .string ⟨#[]⟩, .string ⟨#[]⟩, .int .i64 0, .slice none 0 0]]) (by simp [results, Tryd.results63, go_sem, y0, y1, y2, y3, y4, y5]) rfl ⟨.nilIface, _, rfl, .none, RIn.nothing _ _, Grew.heap (by repeat (first | with_reducible exact Grew.refl _ | with_reducible apply Grew.plus | with_reducible apply Grew.alloc | with_reducible apply Grew.drewN | with_reducible apply Grew.drew)) (show w9.heap[p]? = _ by rw [o6 p (by omega)]; exact HRM.out), g6.trans (by repeat (first | with_reducible exact Grew.refl _ | with_reducible apply Grew.plus | with_reducible apply Grew.alloc | with_reducible apply Grew.drewN | with_reducible apply Grew.drew)), Kp.trans (⟨by have := HK.out.1; omega, fun q hq hp => by rw [o6 q (by omega)]; exact HK.out.2 q hq hp⟩ : Kp p w w9) (Kp.of_grew (by repeat (first | with_reducible exact Grew.refl _ | with_reducible apply Grew.plus | with_reducible apply Grew.alloc | with_reducible apply Grew.drewN | with_reducible apply Grew.drew)))⟩
  | succ f ih =>
    intro hf d hd t cs r w ht hg hrm hr0 hr1
    have IH := Lib.hid (ih (by omega))
    clear ih
    have hplt := (Array.getElem?_eq_some_iff.1 hrm).1
    obtain ⟨hpc, hpf⟩ := World.own_cell hrm 0 _ rfl
    have hcp := callsN_pos f
    rw [callsN] at hr0
    obtain ⟨cs⟩ := cs
    cases ht with
    | @node k c a l b kids ad cap rows hk hc ha hlc hcm hrl hrows hkids =>
    have HROW := Lib.hid hrows
    have HKID := Lib.hid hkids
    clear hrows hkids
    rw [mk_succ]
    by_cases hr : r - 1 < 0
    · rw [if_pos hr]
      go_enter Tryd.func63, Tryd.ntmps63
      go_upto_region 2 with fail
      generalize hwc : ((w.setCell ⟨p, 0, none⟩ (.int .i64 (r - 1))).alloc (.cells ⟨[.int .i64 k, .int .i64 c, .int .i64 a, .string l, .string b, .slice ad kids.length cap]⟩ 63)).alloc (.cells #[.int .i64 0, .int .i64 0, .string ⟨#[]⟩, .string ⟨#[]⟩, .int .i64 0, .slice none 0 0] 66) = wc
      obtain ⟨hrm1, hbx, hb1, hsz, hg1, hk1⟩ := made_start hp0 hg hrm _ _ _ _ wc hwc
      have HRM := Lib.hid hrm1
      have HBX := Lib.hid hbx
      have HB1 := Lib.hid hb1
      have HG := Lib.hid hg1
      have HK := Lib.hid hk1
      have hg0 := hg.size
      clear hpc hpf hwc hg1 hk1
      obtain ⟨hpc, hpf⟩ := World.own_cell hrm1 0 _ rfl
      obtain ⟨⟨p0, r0⟩, ⟨p1, r1⟩, ⟨p2, r2⟩, ⟨p3, r3⟩, ⟨p4, r4⟩, ⟨p5, r5⟩⟩ := six hb1
      obtain ⟨⟨x0, z0⟩, ⟨x1, z1⟩, ⟨x2, z2⟩, ⟨x3, z3⟩, ⟨x4, z4⟩, ⟨x5, z5⟩⟩ := six hbx
      clear hrm hrm1 hbx hb1
      go_wp2_with fail
      obtain ⟨e6, o6, s6, g6⟩ := set6 HB1.out (show w0.heap.size ≤ w.heap.size + 1 by omega) HG.out (.int .i64 0) (.int .i64 0) (.string ⟨#[]⟩) (.string ⟨#[]⟩) (.int .i64 0) (.slice none 0 0) _ rfl
      generalize (World.setCell (World.setCell (World.setCell (World.setCell (World.setCell (World.setCell wc ⟨w.heap.size + 1, 0, none⟩ (.int .i64 0)) ⟨w.heap.size + 1, 1, none⟩ (.int .i64 0)) ⟨w.heap.size + 1, 2, none⟩ (.string ⟨#[]⟩)) ⟨w.heap.size + 1, 3, none⟩ (.string ⟨#[]⟩)) ⟨w.heap.size + 1, 4, none⟩ (.int .i64 0)) ⟨w.heap.size + 1, 5, none⟩ (.slice none 0 0)) = w9 at *
      obtain ⟨⟨y0, _⟩, ⟨y1, _⟩, ⟨y2, _⟩, ⟨y3, _⟩, ⟨y4, _⟩, ⟨y5, _⟩⟩ := six e6
      exact bodyPost_ret (v := .tuple #[.nilIface, .agg #[.int .i64 0, .int .i64 0, .string ⟨#[]⟩, .string ⟨#[]⟩, .int .i64 0, .slice none 0 0]]) (by simp [results, Tryd.results63, go_sem, y0, y1, y2, y3, y4, y5]) rfl ⟨.nilIface, _, rfl, .none, RIn.nothing _ _, Grew.heap (by repeat (first | with_reducible exact Grew.refl _ | with_reducible apply Grew.plus | with_reducible apply Grew.alloc | with_reducible apply Grew.drewN | with_reducible apply Grew.drew)) (show w9.heap[p]? = _ by rw [o6 p (by omega)]; exact HRM.out), g6.trans (by repeat (first | with_reducible exact Grew.refl _ | with_reducible apply Grew.plus | with_reducible apply Grew.alloc | with_reducible apply Grew.drewN | with_reducible apply Grew.drew)), Kp.trans (⟨by have := HK.out.1; omega, fun q hq hp => by rw [o6 q (by omega)]; exact HK.out.2 q hq hp⟩ : Kp p w w9) (Kp.of_grew (by repeat (first | with_reducible exact Grew.refl _ | with_reducible apply Grew.plus | with_reducible apply Grew.alloc | with_reducible apply Grew.drewN | with_reducible apply Grew.drew)))⟩
    · rw [if_neg hr]
      have WC := Lib.hid (fun w => within_any k 4 hk (by omega) (by omega) w)
      have hk0 := Int.emod_nonneg k (show (4 : Int) ≠ 0 by omega)
      have hk4 := Int.emod_lt_of_pos k (show (0 : Int) < 4 by omega)
      generalize k % 4 = km at *
      have hkm : km = 0 ∨ km = 1 ∨ km = 2 ∨ km = 3 := by omega
      clear hk0 hk4
      rcases hkm with rfl | rfl | rfl | rfl
      · rw [if_neg (by omega), if_neg (by omega), if_neg (by omega)]
        go_enter Tryd.func63, Tryd.ntmps63
        go_upto_region 2 with fail
        generalize hwc : ((w.setCell ⟨p, 0, none⟩ (.int .i64 (r - 1))).alloc (.cells ⟨[.int .i64 k, .int .i64 c, .int .i64 a, .string l, .string b, .slice ad kids.length cap]⟩ 63)).alloc (.cells #[.int .i64 0, .int .i64 0, .string ⟨#[]⟩, .string ⟨#[]⟩, .int .i64 0, .slice none 0 0] 66) = wc
        obtain ⟨hrm1, hbx, hb1, hsz, hg1, hk1⟩ := made_start hp0 hg hrm _ _ _ _ wc hwc
        have HRM := Lib.hid hrm1
        have HBX := Lib.hid hbx
        have HB1 := Lib.hid hb1
        have HG := Lib.hid hg1
        have HK := Lib.hid hk1
        have hg0 := hg.size
        clear hpc hpf hwc hg1 hk1
        obtain ⟨hpc, hpf⟩ := World.own_cell hrm1 0 _ rfl
        obtain ⟨⟨p0, r0⟩, ⟨p1, r1⟩, ⟨p2, r2⟩, ⟨p3, r3⟩, ⟨p4, r4⟩, ⟨p5, r5⟩⟩ := six hb1
        obtain ⟨⟨x0, z0⟩, ⟨x1, z1⟩, ⟨x2, z2⟩, ⟨x3, z3⟩, ⟨x4, z4⟩, ⟨x5, z5⟩⟩ := six hbx
        clear hrm hrm1 hbx hb1
        go_wp2_with (go_at_call 86; refine (WC.out _).mono ?_; rintro e w' ⟨rfl, gx, rfl⟩)
        obtain ⟨e6, o6, s6, g6⟩ := set6 HB1.out (show w0.heap.size ≤ w.heap.size + 1 by omega) HG.out (.int .i64 0) (.int .i64 0) (.string ⟨#[]⟩) (.string ⟨#[]⟩) (.int .i64 0) (.slice none 0 0) _ rfl
        generalize (World.setCell (World.setCell (World.setCell (World.setCell (World.setCell (World.setCell wc ⟨w.heap.size + 1, 0, none⟩ (.int .i64 0)) ⟨w.heap.size + 1, 1, none⟩ (.int .i64 0)) ⟨w.heap.size + 1, 2, none⟩ (.string ⟨#[]⟩)) ⟨w.heap.size + 1, 3, none⟩ (.string ⟨#[]⟩)) ⟨w.heap.size + 1, 4, none⟩ (.int .i64 0)) ⟨w.heap.size + 1, 5, none⟩ (.slice none 0 0)) = w9 at *
        obtain ⟨⟨y0, _⟩, ⟨y1, _⟩, ⟨y2, _⟩, ⟨y3, _⟩, ⟨y4, _⟩, ⟨y5, _⟩⟩ := six e6
        exact bodyPost_ret (v := .tuple #[.nilIface, .agg #[.int .i64 0, .int .i64 0, .string ⟨#[]⟩, .string ⟨#[]⟩, .int .i64 0, .slice none 0 0]]) (by simp [results, Tryd.results63, go_sem, y0, y1, y2, y3, y4, y5]) rfl ⟨.nilIface, _, rfl, .none, RIn.nothing _ _, Grew.heap (by repeat (first | with_reducible exact Grew.refl _ | with_reducible apply Grew.plus | with_reducible apply Grew.alloc | with_reducible apply Grew.drewN | with_reducible apply Grew.drew)) (show w9.heap[p]? = _ by rw [o6 p (by omega)]; exact HRM.out), g6.trans (by repeat (first | with_reducible exact Grew.refl _ | with_reducible apply Grew.plus | with_reducible apply Grew.alloc | with_reducible apply Grew.drewN | with_reducible apply Grew.drew)), Kp.trans (⟨by have := HK.out.1; omega, fun q hq hp => by rw [o6 q (by omega)]; exact HK.out.2 q hq hp⟩ : Kp p w w9) (Kp.of_grew (by repeat (first | with_reducible exact Grew.refl _ | with_reducible apply Grew.plus | with_reducible apply Grew.alloc | with_reducible apply Grew.drewN | with_reducible apply Grew.drew)))⟩
      · rw [if_pos rfl]
        have RC := Lib.hid (fun w => reason_any c hc w)
        obtain ⟨hn0, hn1⟩ := rsn_bounds c
        have NC := Lib.hid (fun W (hW : Grew w0 W) => named_any (HS.out.grew hW) (rsn c) hn0 hn1)
        go_enter Tryd.func63, Tryd.ntmps63
        go_upto_region 2 with fail
        generalize hwc : ((w.setCell ⟨p, 0, none⟩ (.int .i64 (r - 1))).alloc (.cells ⟨[.int .i64 k, .int .i64 c, .int .i64 a, .string l, .string b, .slice ad kids.length cap]⟩ 63)).alloc (.cells #[.int .i64 0, .int .i64 0, .string ⟨#[]⟩, .string ⟨#[]⟩, .int .i64 0, .slice none 0 0] 66) = wc
        obtain ⟨hrm1, hbx, hb1, hsz, hg1, hk1⟩ := made_start hp0 hg hrm _ _ _ _ wc hwc
        have HRM := Lib.hid hrm1
        have HBX := Lib.hid hbx
        have HB1 := Lib.hid hb1
        have HG := Lib.hid hg1
        have HK := Lib.hid hk1
        have hg0 := hg.size
        clear hpc hpf hwc hg1 hk1
        obtain ⟨hpc, hpf⟩ := World.own_cell hrm1 0 _ rfl
        obtain ⟨⟨p0, r0⟩, ⟨p1, r1⟩, ⟨p2, r2⟩, ⟨p3, r3⟩, ⟨p4, r4⟩, ⟨p5, r5⟩⟩ := six hb1
        obtain ⟨⟨x0, z0⟩, ⟨x1, z1⟩, ⟨x2, z2⟩, ⟨x3, z3⟩, ⟨x4, z4⟩, ⟨x5, z5⟩⟩ := six hbx
        clear hrm hrm1 hbx hb1
        go_wp2_with (first | (go_at_call 86; refine (WC.out _).mono ?_; rintro e w' ⟨rfl, gx, rfl⟩) | (go_at_call 87; refine (RC.out _).mono ?_; rintro e w' ⟨rfl, gx, rfl⟩) | (go_at_call 44; refine (NC.out _ (by repeat (first | with_reducible exact HG.out | with_reducible exact Grew.refl _ | with_reducible assumption | with_reducible apply Grew.plus | with_reducible apply Grew.drewN | with_reducible apply Grew.drew | with_reducible apply Grew.alloc | with_reducible refine Grew.setCell ?_ (by simp [go_sem]; try omega) _))).mono ?_; rintro e w' ⟨rfl, gx, rfl⟩))
        obtain ⟨e6, o6, s6, g6⟩ := set6 HB1.out (show w0.heap.size ≤ w.heap.size + 1 by omega) HG.out (.int .i64 1) (.int .i64 (codeI (rsn c))) (.string ⟨#[]⟩) (.string ⟨#[]⟩) (.int .i64 0) (.slice none 0 0) _ rfl
        generalize (World.setCell (World.setCell (World.setCell (World.setCell (World.setCell (World.setCell wc ⟨w.heap.size + 1, 0, none⟩ (.int .i64 1)) ⟨w.heap.size + 1, 1, none⟩ (.int .i64 (codeI (rsn c)))) ⟨w.heap.size + 1, 2, none⟩ (.string ⟨#[]⟩)) ⟨w.heap.size + 1, 3, none⟩ (.string ⟨#[]⟩)) ⟨w.heap.size + 1, 4, none⟩ (.int .i64 0)) ⟨w.heap.size + 1, 5, none⟩ (.slice none 0 0)) = w9 at *
        obtain ⟨⟨y0, _⟩, ⟨y1, _⟩, ⟨y2, _⟩, ⟨y3, _⟩, ⟨y4, _⟩, ⟨y5, _⟩⟩ := six e6
        exact bodyPost_ret (v := .tuple #[errV (S (rsn c)), .agg #[.int .i64 1, .int .i64 (codeI (rsn c)), .string ⟨#[]⟩, .string ⟨#[]⟩, .int .i64 0, .slice none 0 0]]) (by simp [results, Tryd.results63, go_sem, y0, y1, y2, y3, y4, y5]) rfl ⟨_, _, rfl, .reason _ hn0 hn1, RIn.reasons _ _ _ hn0 hn1, Grew.heap (by repeat (first | with_reducible exact Grew.refl _ | with_reducible apply Grew.plus | with_reducible apply Grew.alloc | with_reducible apply Grew.drewN | with_reducible apply Grew.drew)) (show w9.heap[p]? = _ by rw [o6 p (by omega)]; exact HRM.out), g6.trans (by repeat (first | with_reducible exact Grew.refl _ | with_reducible apply Grew.plus | with_reducible apply Grew.alloc | with_reducible apply Grew.drewN | with_reducible apply Grew.drew)), Kp.trans (⟨by have := HK.out.1; omega, fun q hq hp => by rw [o6 q (by omega)]; exact HK.out.2 q hq hp⟩ : Kp p w w9) (Kp.of_grew (by repeat (first | with_reducible exact Grew.refl _ | with_reducible apply Grew.plus | with_reducible apply Grew.alloc | with_reducible apply Grew.drewN | with_reducible apply Grew.drew)))⟩
      · rw [if_neg (by omega), if_pos rfl]
        cases kids with
        | nil =>
          simp only [List.length_nil] at hlc hrl
          go_enter Tryd.func63, Tryd.ntmps63
          go_upto_region 2 with fail
          generalize hwc : ((w.setCell ⟨p, 0, none⟩ (.int .i64 (r - 1))).alloc (.cells ⟨[.int .i64 k, .int .i64 c, .int .i64 a, .string l, .string b, .slice ad 0 cap]⟩ 63)).alloc (.cells #[.int .i64 0, .int .i64 0, .string ⟨#[]⟩, .string ⟨#[]⟩, .int .i64 0, .slice none 0 0] 66) = wc
          obtain ⟨hrm1, hbx, hb1, hsz, hg1, hk1⟩ := made_start hp0 hg hrm _ _ _ _ wc hwc
          have HRM := Lib.hid hrm1
          have HBX := Lib.hid hbx
          have HB1 := Lib.hid hb1
          have HG := Lib.hid hg1
          have HK := Lib.hid hk1
          have hg0 := hg.size
          clear hpc hpf hwc hg1 hk1
          obtain ⟨hpc, hpf⟩ := World.own_cell hrm1 0 _ rfl
          obtain ⟨⟨p0, r0⟩, ⟨p1, r1⟩, ⟨p2, r2⟩, ⟨p3, r3⟩, ⟨p4, r4⟩, ⟨p5, r5⟩⟩ := six hb1
          obtain ⟨⟨x0, z0⟩, ⟨x1, z1⟩, ⟨x2, z2⟩, ⟨x3, z3⟩, ⟨x4, z4⟩, ⟨x5, z5⟩⟩ := six hbx
          clear hrm hrm1 hbx hb1
          go_upto_region 13 with (go_at_call 86; refine (WC.out _).mono ?_; rintro e w' ⟨rfl, gx, rfl⟩)
          have HD : Hid (∀ W, W = (wc.plus gx).alloc (.cells #[.int .i64 0, .int .i64 0, .string ⟨#[]⟩, .string ⟨#[]⟩, .int .i64 0, .slice none 0 0] 66) → W.heap[w.heap.size + 2 + gx.blocks.size]? = some (.cells #[.int .i64 0, .int .i64 0, .string ⟨#[]⟩, .string ⟨#[]⟩, .int .i64 0, .slice none 0 0] 66 (0, 0)) ∧ Grew wc W) := fun W hW => by
            subst hW
            exact ⟨heap_alloc_at _ _ _ (by simp [go_sem]; omega), (by repeat (first | with_reducible exact Grew.refl _ | with_reducible apply Grew.plus | with_reducible apply Grew.alloc | with_reducible apply Grew.drewN | with_reducible apply Grew.drew))⟩
          generalize hwd : (wc.plus gx).alloc (.cells #[.int .i64 0, .int .i64 0, .string ⟨#[]⟩, .string ⟨#[]⟩, .int .i64 0, .slice none 0 0] 66) = wd
          obtain ⟨hb2, hgd⟩ := HD.out wd hwd.symm
          generalize hB2 : w.heap.size + 2 + gx.blocks.size = B2 at *
          have hB2s : w.heap.size + 2 ≤ B2 := by omega
          have HRW : RIn wd (fun q => w.heap.size + 2 ≤ q) .none (#[.int .i64 0, .int .i64 0, .string ⟨#[]⟩, .string ⟨#[]⟩, .int .i64 0, .slice none 0 0] : Array Value).toList := RIn.nothing _ _
          have HEW := Lib.hid (show ErrIn S wd (fun q => w.heap.size + 2 ≤ q) .none .nilIface from .none)
          have HRMD : Hid (RoomAt p (r - 1) wd) := Lib.hid (Grew.heap hgd HRM.out)
          have HGD := Lib.hid (HG.out.trans hgd)
          have HKD := Lib.hid (Kp.trans HK.out (Kp.of_grew hgd))
          have HBXD := Lib.hid (Grew.heap hgd HBX.out)
          have HB1D := Lib.hid (Grew.heap hgd HB1.out)
          have HB2D := Lib.hid hb2
          have hszd := hgd.size
          clear HD hwd hB2 hgd HRM HG HK HBX HB1 hpc hpf p0 r0 p1 r1 p2 r2 p3 r3 p4 r4 p5 r5 x0 z0 x1 z1 x2 z2 x3 z3 x4 z4 x5 z5
          obtain ⟨⟨p0, r0⟩, ⟨p1, r1⟩, ⟨p2, r2⟩, ⟨p3, r3⟩, ⟨p4, r4⟩, ⟨p5, r5⟩⟩ := six HB1D.out
          have HS13 : Hid (∀ W : World, W.heap[w.heap.size]? = some (.cells #[.int .i64 k, .int .i64 c, .int .i64 a, .string l, .string b, .slice ad 0 cap] 63 (0, 0)) → W.heap[B2]? = some (.cells #[.int .i64 0, .int .i64 0, .string ⟨#[]⟩, .string ⟨#[]⟩, .int .i64 0, .slice none 0 0] 66 (0, 0)) → W.cell? ⟨w.heap.size, 2, none⟩ = some (.int .i64 a) ∧ W.cell? ⟨w.heap.size, 3, none⟩ = some (.string l) ∧ W.cell? ⟨w.heap.size, 4, none⟩ = some (.string b) ∧ W.cellsAt ⟨B2, 0, none⟩ 6 = some [.int .i64 0, .int .i64 0, .string ⟨#[]⟩, .string ⟨#[]⟩, .int .i64 0, .slice none 0 0]) := fun W hW hW2 => by
            obtain ⟨_, _, ⟨u2, _⟩, ⟨u3, _⟩, ⟨u4, _⟩, _⟩ := six hW
            exact ⟨u2, u3, u4, World.cellsAt_block hW2 6 rfl⟩
          obtain ⟨u2, u3, u4, ub⟩ := HS13.out wd HBXD.out HB2D.out
          have HG := HGD
          have hszd' : w.heap.size + 2 ≤ wd.heap.size := by omega
          go_region_held3 (fun w' => w'.cell? ⟨w.heap.size, 2, none⟩ = some (.int .i64 a) ∧ w'.cell? ⟨w.heap.size, 3, none⟩ = some (.string l) ∧ w'.cell? ⟨w.heap.size, 4, none⟩ = some (.string b) ∧ w'.cellsAt ⟨B2, 0, none⟩ 6 = some [.int .i64 0, .int .i64 0, .string ⟨#[]⟩, .string ⟨#[]⟩, .int .i64 0, .slice none 0 0]) (exact HS13.out _ (by repeat (first | with_reducible exact HBXD.out | with_reducible exact Grew.heap HGN.out HBXD.out | with_reducible refine hb_set (by omega) ?_ | with_reducible apply hb_plus | with_reducible apply hb_alloc | with_reducible apply hb_drew)) (by repeat (first | with_reducible exact HB2D.out | with_reducible exact Grew.heap HGN.out HB2D.out | with_reducible refine hb_set (by omega) ?_ | with_reducible apply hb_plus | with_reducible apply hb_alloc | with_reducible apply hb_drew))) (first | (go_at_call 48; refine (new_nil _ _ _ _).mono ?_; rintro x1 w1 ⟨rfl, rfl⟩) | (go_at_call 88; refine (rnew_any l b a _ (RIn.grew (by repeat (first | with_reducible exact Grew.refl _ | with_reducible exact HGW.out | with_reducible exact HGN.out | with_reducible apply Grew.plus | with_reducible apply Grew.alloc | with_reducible apply Grew.drewN | with_reducible apply Grew.drew)) HRW)).mono ?_; rintro x2 w2 ⟨rc', rfl, hri, gy, rfl⟩; obtain ⟨n0, n1, n2, n3, n4, na, nn, nc, hrl'⟩ := rin_lit hri; subst hrl'; have HRI := Lib.hid hri; clear hri))
          all_goals
            go_wp2_with fail
            refine chain6 (Q := bodyPost _ _ _ _ _) (by repeat (first | with_reducible exact HB1D.out | with_reducible exact Grew.heap HGN.out HB1D.out | with_reducible refine hb_set (by omega) ?_ | with_reducible apply hb_plus | with_reducible apply hb_alloc | with_reducible apply hb_drew)) (fun w9 e6 hx gw => ?_)
            obtain ⟨⟨y0, _⟩, ⟨y1, _⟩, ⟨y2, _⟩, ⟨y3, _⟩, ⟨y4, _⟩, ⟨y5, _⟩⟩ := six e6
            exact bodyPost_ret (v := .tuple #[.nilIface, .agg #[.int .i64 n0, .int .i64 n1, .string n3, .string n4, .int .i64 n2, .slice na nn nc]]) (by simp [results, Tryd.results63, go_sem, y0, y1, y2, y3, y4, y5]) rfl ⟨_, _, rfl, .none, rin_fin hx (RIn.grew (by repeat (first | with_reducible exact Grew.refl _ | with_reducible exact HGW.out | with_reducible exact HGN.out | with_reducible apply Grew.plus | with_reducible apply Grew.alloc | with_reducible apply Grew.drewN | with_reducible apply Grew.drew)) HRI.out) (fun q hq => hq.elim (fun h => ⟨by omega, by omega⟩) (fun h => u_fin (wd := wd) (by omega) (by repeat (first | with_reducible exact Grew.refl _ | with_reducible exact HGW.out | with_reducible exact HGN.out | with_reducible apply Grew.plus | with_reducible apply Grew.alloc | with_reducible apply Grew.drewN | with_reducible apply Grew.drew)) h)), room_fin hx (by omega) (by repeat (first | with_reducible exact Grew.refl _ | with_reducible exact HGW.out | with_reducible exact HGN.out | with_reducible apply Grew.plus | with_reducible apply Grew.alloc | with_reducible apply Grew.drewN | with_reducible apply Grew.drew)) HRMD.out, gw _ (by omega) (HGD.out.trans (by repeat (first | with_reducible exact Grew.refl _ | with_reducible exact HGW.out | with_reducible exact HGN.out | with_reducible apply Grew.plus | with_reducible apply Grew.alloc | with_reducible apply Grew.drewN | with_reducible apply Grew.drew))), kp_fin hx (by repeat (first | with_reducible exact Grew.refl _ | with_reducible exact HGW.out | with_reducible exact HGN.out | with_reducible apply Grew.plus | with_reducible apply Grew.alloc | with_reducible apply Grew.drewN | with_reducible apply Grew.drew)) HKD.out (by omega)⟩
        | cons t0 ts =>
          obtain ⟨row0, hr0w⟩ : ∃ row0, rows[0]? = some row0 := ⟨rows[0]'(by rw [hrl]; simp), List.getElem?_eq_getElem _⟩
          obtain ⟨bl, off, rfl, hrow0⟩ := HROW.out 0 row0 hr0w
          have htr0 := HKID.out 0 t0 row0 rfl hr0w
          rw [Nat.zero_mul, Nat.add_zero] at hrow0
          have HTR := Lib.hid htr0
          have hlow := mk_low f (r - 1) t0
          clear htr0 hr0w
          have hkl : (t0 :: ts).length = ts.length + 1 := List.length_cons
          rw [hkl] at hlc hrl
          simp only
          generalize hmk : mk f (r - 1) t0 = m at *
          obtain ⟨ew, rw'⟩ := m
          simp only at hlow
          have HMK := Lib.hid hmk
          clear hmk
          go_enter Tryd.func63, Tryd.ntmps63
          go_upto_region 2 with fail
          generalize hwc : ((w.setCell ⟨p, 0, none⟩ (.int .i64 (r - 1))).alloc (.cells ⟨[.int .i64 k, .int .i64 c, .int .i64 a, .string l, .string b, .slice (some ⟨bl, off, none⟩) (t0 :: ts).length cap]⟩ 63)).alloc (.cells #[.int .i64 0, .int .i64 0, .string ⟨#[]⟩, .string ⟨#[]⟩, .int .i64 0, .slice none 0 0] 66) = wc
          obtain ⟨hrm1, hbx, hb1, hsz, hg1, hk1⟩ := made_start hp0 hg hrm _ _ _ _ wc hwc
          have HRM := Lib.hid hrm1
          have HBX := Lib.hid hbx
          have HB1 := Lib.hid hb1
          have HG := Lib.hid hg1
          have HK := Lib.hid hk1
          have hg0 := hg.size
          clear hpc hpf hwc hg1 hk1
          obtain ⟨hpc, hpf⟩ := World.own_cell hrm1 0 _ rfl
          obtain ⟨⟨p0, r0⟩, ⟨p1, r1⟩, ⟨p2, r2⟩, ⟨p3, r3⟩, ⟨p4, r4⟩, ⟨p5, r5⟩⟩ := six hb1
          obtain ⟨⟨x0, z0⟩, ⟨x1, z1⟩, ⟨x2, z2⟩, ⟨x3, z3⟩, ⟨x4, z4⟩, ⟨x5, z5⟩⟩ := six hbx
          clear hrm hrm1 hbx hb1
          have hrowc := cellsAt_grew HG.out hrow0
          rw [hkl] at x5
          go_upto_region 12 with (go_at_call 86; refine (WC.out _).mono ?_; rintro e w' ⟨rfl, gx, rfl⟩)
          go_cut [9, 10] (fun s9 s10 wd => ∃ (v : Value) (B2 : Nat) (c0 c1 c2 : Int) (c3 c4 : ByteArray) (ca : Option Addr) (cn cc : Nat), s9 = v ∧ s10 = .pointer (some ⟨B2, 0, none⟩) ∧ w.heap.size + 2 ≤ B2 ∧ w.heap.size + 2 ≤ wd.heap.size ∧ wd.heap[B2]? = some (.cells #[.int .i64 c0, .int .i64 c1, .string c3, .string c4, .int .i64 c2, .slice ca cn cc] 66 (0, 0)) ∧ ErrIn S wd (fun q => w.heap.size + 2 ≤ q) ew v ∧ RIn wd (fun q => w.heap.size + 2 ≤ q) ew [.int .i64 c0, .int .i64 c1, .string c3, .string c4, .int .i64 c2, .slice ca cn cc] ∧ RoomAt p rw' wd ∧ Grew w0 wd ∧ Kp p w wd ∧ wd.heap[w.heap.size]? = some (.cells #[.int .i64 k, .int .i64 c, .int .i64 a, .string l, .string b, .slice (some ⟨bl, off, none⟩) (ts.length + 1) cap] 63 (0, 0)) ∧ wd.heap[w.heap.size + 1]? = some (.cells #[.int .i64 0, .int .i64 0, .string ⟨#[]⟩, .string ⟨#[]⟩, .int .i64 0, .slice none 0 0] 66 (0, 0)))
          case first =>
            have IHC := Lib.hid (fun d W (hd : d = 13 - (f : Int)) (hW : Grew w0 W) (hR : RoomAt p (r - 1) W) => by
              have h := IH.out d hd t0 row0.toArray (r - 1) W HTR.out hW hR (by omega) (by omega)
              rw [HMK.out] at h
              exact h)
            go_wp2_with (go_at_call 63; refine (IHC.out _ _ (by omega) (by repeat (first | with_reducible exact HG.out | with_reducible exact Grew.refl _ | with_reducible assumption | with_reducible apply Grew.plus | with_reducible apply Grew.drewN | with_reducible apply Grew.drew | with_reducible apply Grew.alloc | with_reducible refine Grew.setCell ?_ (by simp [go_sem]; try omega) _)) (Grew.heap (by repeat (first | with_reducible exact Grew.refl _ | with_reducible apply Grew.plus | with_reducible apply Grew.alloc | with_reducible apply Grew.drewN | with_reducible apply Grew.drew)) HRM.out)).mono ?_; rintro x4 w4 ⟨v, rc, rfl, hev, hri, hrm4, hg4, hk4⟩; obtain ⟨c0, c1, c2, c3, c4, ca, cn, cc, hrl4⟩ := rin_lit hri; subst hrl4; have hB2f : w4.heap[w.heap.size + 2 + gx.blocks.size]? = some (.cells #[.int .i64 0, .int .i64 0, .string ⟨#[]⟩, .string ⟨#[]⟩, .int .i64 0, .slice none 0 0] 66 (0, 0)) := b2_new hsz hplt hk4; obtain ⟨⟨b0, e0⟩, ⟨b1, e1⟩, ⟨b2, e2⟩, ⟨b3, e3⟩, ⟨b4, e4⟩, ⟨b5, e5⟩⟩ := six hB2f; have HB2F := Lib.hid hB2f; have HEV := Lib.hid hev; have HRI := Lib.hid hri; have HRM4 := Lib.hid hrm4; have HG4 := Lib.hid hg4; have HK4 := Lib.hid hk4; clear hB2f hev hri hrm4 hg4 hk4)
            refine chain6 (HB2F.out) (fun w9 e6 hx gw => ?_)
            go_meet
            exact ⟨v, _, c0, c1, c2, c3, c4, ca, cn, cc, rfl, rfl, by omega, by have := hx.1; have := HK4.out.1; have := u_b2 (gx := gx) (Z := .cells #[.int .i64 0, .int .i64 0, .string ⟨#[]⟩, .string ⟨#[]⟩, .int .i64 0, .slice none 0 0] 66) hsz (Nat.le_refl _); omega, e6, errin_fin hx HEV.out (fun q hq => u_b2 hsz hq), rin_fin hx HRI.out (fun q hq => u_b2 hsz hq), by unfold RoomAt; rw [hx.2 p (by omega)]; exact HRM4.out, gw w0 (by omega) HG4.out, kp_fin hx (Grew.refl _) (Kp.trans (Kp.trans HK.out (Kp.of_grew (by repeat (first | with_reducible exact Grew.refl _ | with_reducible apply Grew.plus | with_reducible apply Grew.alloc | with_reducible apply Grew.drewN | with_reducible apply Grew.drew)))) HK4.out) (by omega), blk_fin hx HK4.out (by repeat (first | with_reducible exact Grew.refl _ | with_reducible apply Grew.plus | with_reducible apply Grew.alloc | with_reducible apply Grew.drewN | with_reducible apply Grew.drew)) HBX.out (by omega) (by omega), blk_fin hx HK4.out (by repeat (first | with_reducible exact Grew.refl _ | with_reducible apply Grew.plus | with_reducible apply Grew.alloc | with_reducible apply Grew.drewN | with_reducible apply Grew.drew)) HB1.out (by omega) (by omega)⟩
          case rest =>
            obtain ⟨v, B2, c0, c1, c2, c3, c4, ca, cn, cc, rfl, rfl, hB2s, hszd, hb2, hev, hri, hrmd, hgd, hkd, hbxd, hb1d⟩ := hcut
            obtain ⟨wd, hwd⟩ : ∃ wd, wd = wc := ⟨_, rfl⟩
            subst hwd
            have HRW : RIn wd (fun q => w.heap.size + 2 ≤ q) ew (#[.int .i64 c0, .int .i64 c1, .string c3, .string c4, .int .i64 c2, .slice ca cn cc] : Array Value).toList := hri
            have HRMD := Lib.hid hrmd
            have HGD := Lib.hid hgd
            have HKD := Lib.hid hkd
            have HBXD := Lib.hid hbxd
            have HB1D := Lib.hid hb1d
            have HB2D := Lib.hid hb2
            clear hri hrmd hgd hkd hbxd hb1d HRM HG HK HBX HB1 hpc hpf p0 r0 p1 r1 p2 r2 p3 r3 p4 r4 p5 r5 x0 z0 x1 z1 x2 z2 x3 z3 x4 z4 x5 z5 hrowc hsz
            rcases hev.nil_iff with ⟨hn, rfl⟩ | ⟨hn, t', u', rfl⟩
            · have hne : ew = .none := by cases ew <;> simp [Err.isNone] at hn <;> rfl
              subst hne
              have HEW := Lib.hid hev
              clear hev
              go_upto_region 13 with fail
              obtain ⟨⟨p0, r0⟩, ⟨p1, r1⟩, ⟨p2, r2⟩, ⟨p3, r3⟩, ⟨p4, r4⟩, ⟨p5, r5⟩⟩ := six HB1D.out
              have HS13 : Hid (∀ W : World, W.heap[w.heap.size]? = some (.cells #[.int .i64 k, .int .i64 c, .int .i64 a, .string l, .string b, .slice (some ⟨bl, off, none⟩) (ts.length + 1) cap] 63 (0, 0)) → W.heap[B2]? = some (.cells #[.int .i64 c0, .int .i64 c1, .string c3, .string c4, .int .i64 c2, .slice ca cn cc] 66 (0, 0)) → W.cell? ⟨w.heap.size, 2, none⟩ = some (.int .i64 a) ∧ W.cell? ⟨w.heap.size, 3, none⟩ = some (.string l) ∧ W.cell? ⟨w.heap.size, 4, none⟩ = some (.string b) ∧ W.cellsAt ⟨B2, 0, none⟩ 6 = some [.int .i64 c0, .int .i64 c1, .string c3, .string c4, .int .i64 c2, .slice ca cn cc]) := fun W hW hW2 => by
                obtain ⟨_, _, ⟨u2, _⟩, ⟨u3, _⟩, ⟨u4, _⟩, _⟩ := six hW
                exact ⟨u2, u3, u4, World.cellsAt_block hW2 6 rfl⟩
              obtain ⟨u2, u3, u4, ub⟩ := HS13.out wd HBXD.out HB2D.out
              have HG := HGD
              have hszd' : w.heap.size + 2 ≤ wd.heap.size := by omega
              go_region_held3 (fun w' => w'.cell? ⟨w.heap.size, 2, none⟩ = some (.int .i64 a) ∧ w'.cell? ⟨w.heap.size, 3, none⟩ = some (.string l) ∧ w'.cell? ⟨w.heap.size, 4, none⟩ = some (.string b) ∧ w'.cellsAt ⟨B2, 0, none⟩ 6 = some [.int .i64 c0, .int .i64 c1, .string c3, .string c4, .int .i64 c2, .slice ca cn cc]) (exact HS13.out _ (by repeat (first | with_reducible exact HBXD.out | with_reducible exact Grew.heap HGN.out HBXD.out | with_reducible refine hb_set (by omega) ?_ | with_reducible apply hb_plus | with_reducible apply hb_alloc | with_reducible apply hb_drew)) (by repeat (first | with_reducible exact HB2D.out | with_reducible exact Grew.heap HGN.out HB2D.out | with_reducible refine hb_set (by omega) ?_ | with_reducible apply hb_plus | with_reducible apply hb_alloc | with_reducible apply hb_drew))) (first | (go_at_call 48; refine (new_nil _ _ _ _).mono ?_; rintro x1 w1 ⟨rfl, rfl⟩) | (go_at_call 88; refine (rnew_any l b a _ (RIn.grew (by repeat (first | with_reducible exact Grew.refl _ | with_reducible exact HGW.out | with_reducible exact HGN.out | with_reducible apply Grew.plus | with_reducible apply Grew.alloc | with_reducible apply Grew.drewN | with_reducible apply Grew.drew)) HRW)).mono ?_; rintro x2 w2 ⟨rc', rfl, hri, gy, rfl⟩; obtain ⟨n0, n1, n2, n3, n4, na, nn, nc, hrl'⟩ := rin_lit hri; subst hrl'; have HRI := Lib.hid hri; clear hri))
              all_goals
                go_wp2_with fail
                refine chain6 (Q := bodyPost _ _ _ _ _) (by repeat (first | with_reducible exact HB1D.out | with_reducible exact Grew.heap HGN.out HB1D.out | with_reducible refine hb_set (by omega) ?_ | with_reducible apply hb_plus | with_reducible apply hb_alloc | with_reducible apply hb_drew)) (fun w9 e6 hx gw => ?_)
                obtain ⟨⟨y0, _⟩, ⟨y1, _⟩, ⟨y2, _⟩, ⟨y3, _⟩, ⟨y4, _⟩, ⟨y5, _⟩⟩ := six e6
                exact bodyPost_ret (v := .tuple #[.nilIface, .agg #[.int .i64 n0, .int .i64 n1, .string n3, .string n4, .int .i64 n2, .slice na nn nc]]) (by simp [results, Tryd.results63, go_sem, y0, y1, y2, y3, y4, y5]) rfl ⟨_, _, rfl, .none, rin_fin hx (RIn.grew (by repeat (first | with_reducible exact Grew.refl _ | with_reducible exact HGW.out | with_reducible exact HGN.out | with_reducible apply Grew.plus | with_reducible apply Grew.alloc | with_reducible apply Grew.drewN | with_reducible apply Grew.drew)) HRI.out) (fun q hq => hq.elim (fun h => ⟨by omega, by omega⟩) (fun h => u_fin (wd := wd) (by omega) (by repeat (first | with_reducible exact Grew.refl _ | with_reducible exact HGW.out | with_reducible exact HGN.out | with_reducible apply Grew.plus | with_reducible apply Grew.alloc | with_reducible apply Grew.drewN | with_reducible apply Grew.drew)) h)), room_fin hx (by omega) (by repeat (first | with_reducible exact Grew.refl _ | with_reducible exact HGW.out | with_reducible exact HGN.out | with_reducible apply Grew.plus | with_reducible apply Grew.alloc | with_reducible apply Grew.drewN | with_reducible apply Grew.drew)) HRMD.out, gw _ (by omega) (HGD.out.trans (by repeat (first | with_reducible exact Grew.refl _ | with_reducible exact HGW.out | with_reducible exact HGN.out | with_reducible apply Grew.plus | with_reducible apply Grew.alloc | with_reducible apply Grew.drewN | with_reducible apply Grew.drew))), kp_fin hx (by repeat (first | with_reducible exact Grew.refl _ | with_reducible exact HGW.out | with_reducible exact HGN.out | with_reducible apply Grew.plus | with_reducible apply Grew.alloc | with_reducible apply Grew.drewN | with_reducible apply Grew.drew)) HKD.out (by omega)⟩
            · have hnw : newE l b a ew = .fault l b (max a (-1)) ew := by simp [newE, hn]
              have HNW := Lib.hid hnw
              have HEW := Lib.hid hev
              clear hev hnw
              go_upto_region 13 with fail
              obtain ⟨⟨p0, r0⟩, ⟨p1, r1⟩, ⟨p2, r2⟩, ⟨p3, r3⟩, ⟨p4, r4⟩, ⟨p5, r5⟩⟩ := six HB1D.out
              have HS13 : Hid (∀ W : World, W.heap[w.heap.size]? = some (.cells #[.int .i64 k, .int .i64 c, .int .i64 a, .string l, .string b, .slice (some ⟨bl, off, none⟩) (ts.length + 1) cap] 63 (0, 0)) → W.heap[B2]? = some (.cells #[.int .i64 c0, .int .i64 c1, .string c3, .string c4, .int .i64 c2, .slice ca cn cc] 66 (0, 0)) → W.cell? ⟨w.heap.size, 2, none⟩ = some (.int .i64 a) ∧ W.cell? ⟨w.heap.size, 3, none⟩ = some (.string l) ∧ W.cell? ⟨w.heap.size, 4, none⟩ = some (.string b) ∧ W.cellsAt ⟨B2, 0, none⟩ 6 = some [.int .i64 c0, .int .i64 c1, .string c3, .string c4, .int .i64 c2, .slice ca cn cc]) := fun W hW hW2 => by
                obtain ⟨_, _, ⟨u2, _⟩, ⟨u3, _⟩, ⟨u4, _⟩, _⟩ := six hW
                exact ⟨u2, u3, u4, World.cellsAt_block hW2 6 rfl⟩
              obtain ⟨u2, u3, u4, ub⟩ := HS13.out wd HBXD.out HB2D.out
              have HG := HGD
              have hszd' : w.heap.size + 2 ≤ wd.heap.size := by omega
              go_region_held3 (fun w' => w'.cell? ⟨w.heap.size, 2, none⟩ = some (.int .i64 a) ∧ w'.cell? ⟨w.heap.size, 3, none⟩ = some (.string l) ∧ w'.cell? ⟨w.heap.size, 4, none⟩ = some (.string b) ∧ w'.cellsAt ⟨B2, 0, none⟩ 6 = some [.int .i64 c0, .int .i64 c1, .string c3, .string c4, .int .i64 c2, .slice ca cn cc]) (exact HS13.out _ (by repeat (first | with_reducible exact HBXD.out | with_reducible exact Grew.heap HGN.out HBXD.out | with_reducible refine hb_set (by omega) ?_ | with_reducible apply hb_plus | with_reducible apply hb_alloc | with_reducible apply hb_drew)) (by repeat (first | with_reducible exact HB2D.out | with_reducible exact Grew.heap HGN.out HB2D.out | with_reducible refine hb_set (by omega) ?_ | with_reducible apply hb_plus | with_reducible apply hb_alloc | with_reducible apply hb_drew))) (first | (go_at_call 48; refine (new_let _ _ _ _ _ _).mono ?_; rintro x1 w1 ⟨Bf, hBf, rfl, hw1⟩; have HGW := Lib.hid (alloc_grew hw1); have HGN := Lib.hid (show Grew wd w1 from (by rw [hw1]; exact (by repeat (first | with_reducible exact Grew.refl _ | with_reducible apply Grew.plus | with_reducible apply Grew.alloc | with_reducible apply Grew.drewN | with_reducible apply Grew.drew)))); have HFB := Lib.hid (show w1.heap[Bf]? = some (.cells #[.string l, .string b, .int .i64 (max a (-1)), .iface t' u'] 106 (0, 0)) from (by rw [hw1]; exact heap_alloc_at _ _ Bf hBf)); have hBfs := u_ge hszd' (by repeat (first | with_reducible exact Grew.refl _ | with_reducible apply Grew.plus | with_reducible apply Grew.alloc | with_reducible apply Grew.drewN | with_reducible apply Grew.drew)) hBf; have hB1N := Grew.heap HGN.out HB1D.out; obtain ⟨⟨p0, r0⟩, ⟨p1, r1⟩, ⟨p2, r2⟩, ⟨p3, r3⟩, ⟨p4, r4⟩, ⟨p5, r5⟩⟩ := six hB1N; clear hw1 hBf hB1N) | (go_at_call 88; refine (rnew_any l b a _ (RIn.grew (by repeat (first | with_reducible exact Grew.refl _ | with_reducible exact HGW.out | with_reducible exact HGN.out | with_reducible apply Grew.plus | with_reducible apply Grew.alloc | with_reducible apply Grew.drewN | with_reducible apply Grew.drew)) HRW)).mono ?_; rintro x2 w2 ⟨rc', rfl, hri, gy, rfl⟩; obtain ⟨n0, n1, n2, n3, n4, na, nn, nc, hrl'⟩ := rin_lit hri; subst hrl'; have HRI := Lib.hid hri; clear hri))
              all_goals
                go_wp2_with fail
                refine chain6 (Q := bodyPost _ _ _ _ _) (by repeat (first | with_reducible exact HB1D.out | with_reducible exact Grew.heap HGN.out HB1D.out | with_reducible refine hb_set (by omega) ?_ | with_reducible apply hb_plus | with_reducible apply hb_alloc | with_reducible apply hb_drew)) (fun w9 e6 hx gw => ?_)
                obtain ⟨⟨y0, _⟩, ⟨y1, _⟩, ⟨y2, _⟩, ⟨y3, _⟩, ⟨y4, _⟩, ⟨y5, _⟩⟩ := six e6
                exact bodyPost_ret (v := .tuple #[faultV ⟨Bf, 0, none⟩, .agg #[.int .i64 n0, .int .i64 n1, .string n3, .string n4, .int .i64 n2, .slice na nn nc]]) (by simp [results, Tryd.results63, go_sem, y0, y1, y2, y3, y4, y5]) rfl ⟨_, _, rfl, by rw [HNW.out]; exact errin_fin hx (ErrIn.fault (U := fun q => w.heap.size + 2 ≤ q) hBfs (Grew.heap (by repeat (first | with_reducible exact Grew.refl _ | with_reducible apply Grew.plus | with_reducible apply Grew.alloc | with_reducible apply Grew.drewN | with_reducible apply Grew.drew)) HFB.out) ((HEW.out).grew (by repeat (first | with_reducible exact Grew.refl _ | with_reducible exact HGW.out | with_reducible exact HGN.out | with_reducible apply Grew.plus | with_reducible apply Grew.alloc | with_reducible apply Grew.drewN | with_reducible apply Grew.drew)))) (fun q hq => ⟨by omega, by omega⟩), rin_fin hx (RIn.grew (by repeat (first | with_reducible exact Grew.refl _ | with_reducible exact HGW.out | with_reducible exact HGN.out | with_reducible apply Grew.plus | with_reducible apply Grew.alloc | with_reducible apply Grew.drewN | with_reducible apply Grew.drew)) HRI.out) (fun q hq => hq.elim (fun h => ⟨by omega, by omega⟩) (fun h => u_fin (wd := wd) (by omega) (by repeat (first | with_reducible exact Grew.refl _ | with_reducible exact HGW.out | with_reducible exact HGN.out | with_reducible apply Grew.plus | with_reducible apply Grew.alloc | with_reducible apply Grew.drewN | with_reducible apply Grew.drew)) h)), room_fin hx (by omega) (by repeat (first | with_reducible exact Grew.refl _ | with_reducible exact HGW.out | with_reducible exact HGN.out | with_reducible apply Grew.plus | with_reducible apply Grew.alloc | with_reducible apply Grew.drewN | with_reducible apply Grew.drew)) HRMD.out, gw _ (by omega) (HGD.out.trans (by repeat (first | with_reducible exact Grew.refl _ | with_reducible exact HGW.out | with_reducible exact HGN.out | with_reducible apply Grew.plus | with_reducible apply Grew.alloc | with_reducible apply Grew.drewN | with_reducible apply Grew.drew))), kp_fin hx (by repeat (first | with_reducible exact Grew.refl _ | with_reducible exact HGW.out | with_reducible exact HGN.out | with_reducible apply Grew.plus | with_reducible apply Grew.alloc | with_reducible apply Grew.drewN | with_reducible apply Grew.drew)) HKD.out (by omega)⟩
      · rw [if_neg (by omega), if_neg (by omega), if_pos rfl]
        go_enter Tryd.func63, Tryd.ntmps63
        go_upto_region 2 with fail
        generalize hwc : ((w.setCell ⟨p, 0, none⟩ (.int .i64 (r - 1))).alloc (.cells ⟨[.int .i64 k, .int .i64 c, .int .i64 a, .string l, .string b, .slice ad kids.length cap]⟩ 63)).alloc (.cells #[.int .i64 0, .int .i64 0, .string ⟨#[]⟩, .string ⟨#[]⟩, .int .i64 0, .slice none 0 0] 66) = wc
        obtain ⟨hrm1, hbx, hb1, hsz, hg1, hk1⟩ := made_start hp0 hg hrm _ _ _ _ wc hwc
        have HRM := Lib.hid hrm1
        have HBX := Lib.hid hbx
        have HB1 := Lib.hid hb1
        have HG := Lib.hid hg1
        have HK := Lib.hid hk1
        have hg0 := hg.size
        clear hpc hpf hwc hg1 hk1
        obtain ⟨hpc, hpf⟩ := World.own_cell hrm1 0 _ rfl
        obtain ⟨⟨p0, r0⟩, ⟨p1, r1⟩, ⟨p2, r2⟩, ⟨p3, r3⟩, ⟨p4, r4⟩, ⟨p5, r5⟩⟩ := six hb1
        obtain ⟨⟨x0, z0⟩, ⟨x1, z1⟩, ⟨x2, z2⟩, ⟨x3, z3⟩, ⟨x4, z4⟩, ⟨x5, z5⟩⟩ := six hbx
        clear hrm hrm1 hbx hb1
        go_wp2_with (go_at_call 86; refine (WC.out _).mono ?_; rintro e w' ⟨rfl, gx, rfl⟩)
        have hplt2 := hplt
        go_loopw [11, 12, 13] (fun s11 s12 s13 wr => ∃ (j : Nat) (va ua : Option Addr) (vc uc : Nat) (zs : List (Err × Value × List Value)) (r' : Int), s11 = .slice va j vc ∧ s12 = .slice ua j uc ∧ s13 = .int .i64 j ∧ Lp S w0 w wr p (mk f) (r - 1) kids (.cells #[.int .i64 k, .int .i64 c, .int .i64 a, .string l, .string b, .slice ad kids.length cap] 63) (.cells #[.int .i64 0, .int .i64 0, .string ⟨#[]⟩, .string ⟨#[]⟩, .int .i64 0, .slice none 0 0] 66) j (.slice va j vc) (.slice ua j uc) zs r') (fun _ _ i _ => 6 - (intOf i).toNat)
        case atStart => exact ⟨0, none, none, 0, 0, [], r - 1, rfl, rfl, rfl, ⟨by omega, by omega, rfl, rfl, World.ownsRow_nil _ _ _ _, World.ownsRow_nil _ _ _ _, fun q h => by simp [Value.ownBlock] at h, fun z hz => by simp at hz, Grew.heap (by repeat (first | with_reducible exact Grew.refl _ | with_reducible apply Grew.plus | with_reducible apply Grew.alloc | with_reducible apply Grew.drewN | with_reducible apply Grew.drew)) HRM.out, HG.out.trans (by repeat (first | with_reducible exact Grew.refl _ | with_reducible apply Grew.plus | with_reducible apply Grew.alloc | with_reducible apply Grew.drewN | with_reducible apply Grew.drew)), Kp.trans HK.out (Kp.of_grew (by repeat (first | with_reducible exact Grew.refl _ | with_reducible apply Grew.plus | with_reducible apply Grew.alloc | with_reducible apply Grew.drewN | with_reducible apply Grew.drew))), Grew.heap (by repeat (first | with_reducible exact Grew.refl _ | with_reducible apply Grew.plus | with_reducible apply Grew.alloc | with_reducible apply Grew.drewN | with_reducible apply Grew.drew)) HBX.out, Grew.heap (by repeat (first | with_reducible exact Grew.refl _ | with_reducible apply Grew.plus | with_reducible apply Grew.alloc | with_reducible apply Grew.drewN | with_reducible apply Grew.drew)) HB1.out, hplt⟩⟩
        case round =>
          obtain ⟨j, va, ua, vc, uc, zs, r', rfl, rfl, rfl, hL⟩ := hrel
          have HL := Lib.hid hL
          have hjl := hL.jl
          have hj6 := hL.j6
          have hwr2 := (Array.getElem?_eq_some_iff.1 hL.b1).1
          obtain ⟨⟨x0, z0⟩, ⟨x1, z1⟩, ⟨x2, z2⟩, ⟨x3, z3⟩, ⟨x4, z4⟩, ⟨x5, z5⟩⟩ := six hL.bx
          have hb0 := mkL_low (mk f) (callsN f) (mk_low f) (by omega) (kids.take j) (r - 1)
          rw [hL.hm] at hb0
          have hb1 : (((kids.take j).length : Nat) : Int) * callsN f ≤ j * callsN f := Int.mul_le_mul_of_nonneg_right (by rw [List.length_take]; omega) (by omega)
          simp only at hb0
          clear hL
          by_cases hlt : j < kids.length
          · by_cases h6 : j < 6
            · have hb2 : (j : Int) * callsN f ≤ 5 * callsN f := Int.mul_le_mul_of_nonneg_right (by omega) (by omega)
              have hr'0 : callsN f - 1000000000000000 ≤ r' := by omega
              have hr'1 : r' ≤ 1000 := by omega
              clear hb0 hb1 hb2
              obtain ⟨row, hrow⟩ : ∃ row, rows[j]? = some row := ⟨rows[j]'(by omega), List.getElem?_eq_getElem _⟩
              obtain ⟨t, htj⟩ : ∃ t, kids[j]? = some t := ⟨kids[j]'(by omega), List.getElem?_eq_getElem _⟩
              obtain ⟨bl, off, rfl, hcell⟩ := HROW.out j row hrow
              have HTR := Lib.hid (HKID.out j t row htj hrow)
              have HTJ := Lib.hid htj
              have hrc := cellsAt_grew HL.out.hg hcell
              have IHC := Lib.hid (fun d W (hd : d = 13 - (f : Int)) (hW : Grew w0 W) (hR : RoomAt p r' W) => IH.out d hd t row.toArray r' W HTR.out hW hR hr'0 hr'1)
              clear htj hrow hcell
              cases hnn : (mk f r' t).1.isNone
              case true =>
                have HN := Lib.hid hnn
                clear hnn
                go_wp2_with (first
                  | (go_at_call 63; refine (IHC.out _ _ (by omega) HL.out.hg HL.out.rm).mono ?_; rintro x4 w4 ⟨ev, rc, rfl, hev, hri, hrm4, hg4, hk4⟩; obtain ⟨c0, c1, c2, c3, c4, ca, cn, cc, hrl4⟩ := rin_lit hri; obtain rfl : ev = .nilIface := (by rcases hev.nil_iff with ⟨_, h⟩ | ⟨h, _⟩; exact h; rw [HN.out] at h; cases h); subst hrl4; have HEV := Lib.hid hev; have HRI := Lib.hid hri; have HRM4 := Lib.hid hrm4; have HG4 := Lib.hid hg4; have HK4 := Lib.hid hk4; have HO4 := Lib.hid (HL.out.ov4 hk4); have h1c := hev.at'.one; have hs4 := hk4.1; clear hev hri hrm4 hg4 hk4)
                  | (at_builtin; go_loud (refine wpList_app (by rfl) _ _ 130 (by rfl) elErr (w.heap.size + 2) _ j (zs.map (·.2.1)) (by rfl) ((HO4.out.alloc _).alloc _) _ 1 1 #[.nilIface] 33 (by rfl) (heap_alloc_at _ _ _ (by rw [size_alloc'])) (by rfl) (by intro u' hu; rw [List.mem_singleton.1 hu]; exact h1c) (by omega) (by omega) (by unfold maxLen; omega) w0 ((HG4.out.alloc _).alloc _) (by omega) (by rw [size_alloc', size_alloc']; omega) ?_); intro g5 c5 w5 hg5 hown5 hk5 hs5 hat5; go_loud (have hb15 := World.kept_block hk5 (keep_a (heap_alloc_at w4 _ _ rfl)) (fun e => absurd (HO4.out.lt _ e).2 (Nat.lt_irrefl _))); have hc15 := World.cellsAt_block hb15 6 rfl; have HO5 := Lib.hid (HL.out.ou5 HK4.out hk5); have HG5 := Lib.hid hg5; have HW5 := Lib.hid hown5; have HK5 := Lib.hid hk5; have HAT5 := Lib.hid hat5; have hs5' := hs5; simp only [size_alloc'] at hs5'; have HS5 := Lib.hid hs5; clear hb15 hg5 hown5 hk5 hat5 hs5)
                  | (at_builtin; go_loud (refine wpList_app (by rfl) _ _ 64 (by rfl) elRErr (w.heap.size + 2) _ j (zs.flatMap (·.2.2)) (by rfl) (HO5.out.alloc _) _ 1 1 #[.int .i64 c0, .int .i64 c1, .string c3, .string c4, .int .i64 c2, .slice ca cn cc] 66 (by rfl) (heap_alloc_at _ _ _ (by simp [go_sem])) (by rfl) (by intro u' hu; simp at hu; rcases hu with rfl | rfl | rfl | rfl | rfl | rfl <;> rfl) (by omega) (by omega) (by unfold maxLen; omega) w0 (HG5.out.alloc _) (by omega) (by rw [size_alloc']; omega) ?_); intro g6 c6 w6 hg6 hown6 hk6 hs6 hat6; have HG6 := Lib.hid hg6; have HW6 := Lib.hid hown6; have HK6 := Lib.hid hk6; have HAT6 := Lib.hid hat6; have HS6 := Lib.hid hs6; clear hg6 hown6 hk6 hat6 hs6))
                go_roundw
                case rel => exact ⟨j + 1, _, _, c5, c6, zs ++ [((mk f r' t).1, .nilIface, [.int .i64 c0, .int .i64 c1, .string c3, .string c4, .int .i64 c2, .slice ca cn cc])], (mk f r' t).2, rfl, rfl, by go_num, Lp.next HL.out HTJ.out h6 rfl HEV.out HRI.out HRM4.out HK4.out rfl HW5.out HK5.out HS5.out HAT5.out rfl HW6.out HK6.out HS6.out HAT6.out HG6.out⟩
                case measure => simp [intOf]; omega
              case false =>
                have HN := Lib.hid hnn
                clear hnn
                go_wp2_with (first
                  | (go_at_call 63; refine (IHC.out _ _ (by omega) HL.out.hg HL.out.rm).mono ?_; rintro x4 w4 ⟨ev, rc, rfl, hev, hri, hrm4, hg4, hk4⟩; obtain ⟨c0, c1, c2, c3, c4, ca, cn, cc, hrl4⟩ := rin_lit hri; obtain ⟨t', u', rfl⟩ : ∃ t u, ev = .iface t u := (by rcases hev.nil_iff with ⟨h, _⟩ | ⟨_, h⟩; rw [HN.out] at h; cases h; exact h); subst hrl4; have HEV := Lib.hid hev; have HRI := Lib.hid hri; have HRM4 := Lib.hid hrm4; have HG4 := Lib.hid hg4; have HK4 := Lib.hid hk4; have HO4 := Lib.hid (HL.out.ov4 hk4); have h1c := hev.at'.one; have hs4 := hk4.1; clear hev hri hrm4 hg4 hk4)
                  | (at_builtin; go_loud (refine wpList_app (by rfl) _ _ 130 (by rfl) elErr (w.heap.size + 2) _ j (zs.map (·.2.1)) (by rfl) ((HO4.out.alloc _).alloc _) _ 1 1 #[.iface t' u'] 33 (by rfl) (heap_alloc_at _ _ _ (by rw [size_alloc'])) (by rfl) (by intro u' hu; rw [List.mem_singleton.1 hu]; exact h1c) (by omega) (by omega) (by unfold maxLen; omega) w0 ((HG4.out.alloc _).alloc _) (by omega) (by rw [size_alloc', size_alloc']; omega) ?_); intro g5 c5 w5 hg5 hown5 hk5 hs5 hat5; go_loud (have hb15 := World.kept_block hk5 (keep_a (heap_alloc_at w4 _ _ rfl)) (fun e => absurd (HO4.out.lt _ e).2 (Nat.lt_irrefl _))); have hc15 := World.cellsAt_block hb15 6 rfl; have HO5 := Lib.hid (HL.out.ou5 HK4.out hk5); have HG5 := Lib.hid hg5; have HW5 := Lib.hid hown5; have HK5 := Lib.hid hk5; have HAT5 := Lib.hid hat5; have hs5' := hs5; simp only [size_alloc'] at hs5'; have HS5 := Lib.hid hs5; clear hb15 hg5 hown5 hk5 hat5 hs5)
                  | (at_builtin; go_loud (refine wpList_app (by rfl) _ _ 64 (by rfl) elRErr (w.heap.size + 2) _ j (zs.flatMap (·.2.2)) (by rfl) (HO5.out.alloc _) _ 1 1 #[.int .i64 c0, .int .i64 c1, .string c3, .string c4, .int .i64 c2, .slice ca cn cc] 66 (by rfl) (heap_alloc_at _ _ _ (by simp [go_sem])) (by rfl) (by intro u' hu; simp at hu; rcases hu with rfl | rfl | rfl | rfl | rfl | rfl <;> rfl) (by omega) (by omega) (by unfold maxLen; omega) w0 (HG5.out.alloc _) (by omega) (by rw [size_alloc']; omega) ?_); intro g6 c6 w6 hg6 hown6 hk6 hs6 hat6; have HG6 := Lib.hid hg6; have HW6 := Lib.hid hown6; have HK6 := Lib.hid hk6; have HAT6 := Lib.hid hat6; have HS6 := Lib.hid hs6; clear hg6 hown6 hk6 hat6 hs6))
                go_roundw
                case rel => exact ⟨j + 1, _, _, c5, c6, zs ++ [((mk f r' t).1, .iface t' u', [.int .i64 c0, .int .i64 c1, .string c3, .string c4, .int .i64 c2, .slice ca cn cc])], (mk f r' t).2, rfl, rfl, by go_num, Lp.next HL.out HTJ.out h6 rfl HEV.out HRI.out HRM4.out HK4.out rfl HW5.out HK5.out HS5.out HAT5.out rfl HW6.out HK6.out HS6.out HAT6.out HG6.out⟩
                case measure => simp [intOf]; omega
            · have hkt : kids.take j = kids.take 6 := by rw [show j = 6 by omega]
              have hmk : mkL (mk f) (r - 1) (kids.take 6) = (zs.map (·.1), r') := by rw [← hkt]; exact HL.out.hm
              have HMK := Lib.hid hmk
              have hzl := HL.out.zl
              have hmx : j ≤ 1000 := by omega
              have JC : Hid (∀ W, Grew wr W → Calls Tryd.prog 89 #[.slice va j vc] W fun x w' => ∃ v, x = .returned v ∧ ErrIn S w' (fun q => UU w (.slice va j vc) (.slice ua j uc) q ∨ W.heap.size ≤ q) (joinE (zs.map (·.1))) v ∧ Grew W w') := fun W hW => by
                have hrd := HL.out.ov.rd
                obtain ⟨a', c', he', h1', h2', h3', _, _⟩ := hrd
                cases he'
                have h := join_errs (S := S) (U := UU w (.slice va j vc) (.slice ua j uc)) (zs.map fun z => (z.1, z.2.1)) va vc W (by rw [List.map_map]; exact h3'.grew hW) (by rw [List.length_map]; omega) (by rw [List.length_map]; omega) h2' (fun z hz => by
                  obtain ⟨z', hz', rfl⟩ := List.mem_map.1 hz
                  exact (HL.out.el z' hz').1.grew hW)
                rw [List.length_map, hzl, List.map_map] at h
                exact h
              have RC : Hid (∀ W, Grew wr W → Calls Tryd.prog 90 #[.slice ua j uc] W fun x w' => ∃ rc : Array Value, x = .returned (.agg rc) ∧ RIn w' (fun q => UU w (.slice va j vc) (.slice ua j uc) q ∨ W.heap.size ≤ q) (joinE (zs.map (·.1))) rc.toList ∧ Grew W w') := fun W hW => by
                have hrd := HL.out.ou.rd
                obtain ⟨a', c', he', h1', h2', h3', _, _⟩ := hrd
                cases he'
                have hrr : RRows W ua (zs.map fun z => (z.1, z.2.2)) := RRows.of_cells (by rw [List.flatMap_map]; exact h3'.grew hW) (fun z hz => by
                  obtain ⟨z', hz', rfl⟩ := List.mem_map.1 hz
                  exact (HL.out.el z' hz').2.len)
                have h := rjoin_errs (U := UU w (.slice va j vc) (.slice ua j uc)) (zs.map fun z => (z.1, z.2.2)) ua uc W hrr (by rw [List.length_map]; omega) (by rw [List.length_map]; omega) h2' (fun z hz => by
                  obtain ⟨z', hz', rfl⟩ := List.mem_map.1 hz
                  exact (HL.out.el z' hz').2.grew hW)
                rw [List.length_map, hzl, List.map_map] at h
                exact h
              obtain ⟨⟨p0, r0⟩, ⟨p1, r1⟩, ⟨p2, r2⟩, ⟨p3, r3⟩, ⟨p4, r4⟩, ⟨p5, r5⟩⟩ := six HL.out.b1
              clear hkt hmk hzl hb0 hb1
              go_wp2_with (first
                | (go_at_call 89; refine (JC.out _ (by repeat (first | with_reducible exact Grew.refl _ | with_reducible apply Grew.plus | with_reducible apply Grew.alloc | with_reducible apply Grew.drewN | with_reducible apply Grew.drew))).mono ?_; rintro x4 w4 ⟨v, rfl, hev, gx, rfl⟩; have HEV := Lib.hid hev; clear hev)
                | (go_at_call 90; refine (RC.out _ (by repeat (first | with_reducible exact Grew.refl _ | with_reducible apply Grew.plus | with_reducible apply Grew.alloc | with_reducible apply Grew.drewN | with_reducible apply Grew.drew))).mono ?_; rintro x4 w4 ⟨rc, rfl, hri, gy, rfl⟩; obtain ⟨n0, n1, n2, n3, n4, na, nn, nc, hrl'⟩ := rin_lit hri; subst hrl'; have HRI := Lib.hid hri; clear hri))
              refine chain6 (Q := fun W => bodyPost _ _ _ _ _ ((W.plus gx).plus gy)) HL.out.b1 (fun w9 e6 hx gw => ?_)
              obtain ⟨⟨y0, _⟩, ⟨y1, _⟩, ⟨y2, _⟩, ⟨y3, _⟩, ⟨y4, _⟩, ⟨y5, _⟩⟩ := six e6
              exact bodyPost_ret (v := .tuple #[v, .agg #[.int .i64 n0, .int .i64 n1, .string n3, .string n4, .int .i64 n2, .slice na nn nc]]) (by simp [results, Tryd.results63, go_sem, y0, y1, y2, y3, y4, y5]) rfl ⟨_, _, rfl, by rw [HMK.out]; exact errin_fin (ex_plus (ex_plus hx)) (HEV.out.grew (by repeat (first | with_reducible exact Grew.refl _ | with_reducible apply Grew.plus | with_reducible apply Grew.alloc | with_reducible apply Grew.drewN | with_reducible apply Grew.drew))) (fun q hq => hq.elim (fun h => ⟨by have := h.1; omega, by have := h.1; omega⟩) (fun h => u_fin (wd := wr) (by omega) (by repeat (first | with_reducible exact Grew.refl _ | with_reducible apply Grew.plus | with_reducible apply Grew.alloc | with_reducible apply Grew.drewN | with_reducible apply Grew.drew)) h)), by rw [HMK.out]; exact rin_fin (ex_plus (ex_plus hx)) HRI.out (fun q hq => hq.elim (fun h => ⟨by have := h.1; omega, by have := h.1; omega⟩) (fun h => u_fin (wd := wr) (by omega) (by repeat (first | with_reducible exact Grew.refl _ | with_reducible apply Grew.plus | with_reducible apply Grew.alloc | with_reducible apply Grew.drewN | with_reducible apply Grew.drew)) h)), by rw [HMK.out]; exact room_fin (ex_plus (ex_plus hx)) (by omega) (by repeat (first | with_reducible exact Grew.refl _ | with_reducible apply Grew.plus | with_reducible apply Grew.alloc | with_reducible apply Grew.drewN | with_reducible apply Grew.drew)) HL.out.rm, (gw w0 (by omega) HL.out.hg).trans (by repeat (first | with_reducible exact Grew.refl _ | with_reducible apply Grew.plus | with_reducible apply Grew.alloc | with_reducible apply Grew.drewN | with_reducible apply Grew.drew)), kp_fin (ex_plus (ex_plus hx)) (by repeat (first | with_reducible exact Grew.refl _ | with_reducible apply Grew.plus | with_reducible apply Grew.alloc | with_reducible apply Grew.drewN | with_reducible apply Grew.drew)) HL.out.kp (by omega)⟩
          · have hkt : kids.take j = kids.take 6 := by rw [List.take_of_length_le (by omega), List.take_of_length_le (by omega)]
            have hmk : mkL (mk f) (r - 1) (kids.take 6) = (zs.map (·.1), r') := by rw [← hkt]; exact HL.out.hm
            have HMK := Lib.hid hmk
            have hzl := HL.out.zl
            have hmx : j ≤ 1000 := by omega
            have JC : Hid (∀ W, Grew wr W → Calls Tryd.prog 89 #[.slice va j vc] W fun x w' => ∃ v, x = .returned v ∧ ErrIn S w' (fun q => UU w (.slice va j vc) (.slice ua j uc) q ∨ W.heap.size ≤ q) (joinE (zs.map (·.1))) v ∧ Grew W w') := fun W hW => by
              have hrd := HL.out.ov.rd
              obtain ⟨a', c', he', h1', h2', h3', _, _⟩ := hrd
              cases he'
              have h := join_errs (S := S) (U := UU w (.slice va j vc) (.slice ua j uc)) (zs.map fun z => (z.1, z.2.1)) va vc W (by rw [List.map_map]; exact h3'.grew hW) (by rw [List.length_map]; omega) (by rw [List.length_map]; omega) h2' (fun z hz => by
                obtain ⟨z', hz', rfl⟩ := List.mem_map.1 hz
                exact (HL.out.el z' hz').1.grew hW)
              rw [List.length_map, hzl, List.map_map] at h
              exact h
            have RC : Hid (∀ W, Grew wr W → Calls Tryd.prog 90 #[.slice ua j uc] W fun x w' => ∃ rc : Array Value, x = .returned (.agg rc) ∧ RIn w' (fun q => UU w (.slice va j vc) (.slice ua j uc) q ∨ W.heap.size ≤ q) (joinE (zs.map (·.1))) rc.toList ∧ Grew W w') := fun W hW => by
              have hrd := HL.out.ou.rd
              obtain ⟨a', c', he', h1', h2', h3', _, _⟩ := hrd
              cases he'
              have hrr : RRows W ua (zs.map fun z => (z.1, z.2.2)) := RRows.of_cells (by rw [List.flatMap_map]; exact h3'.grew hW) (fun z hz => by
                obtain ⟨z', hz', rfl⟩ := List.mem_map.1 hz
                exact (HL.out.el z' hz').2.len)
              have h := rjoin_errs (U := UU w (.slice va j vc) (.slice ua j uc)) (zs.map fun z => (z.1, z.2.2)) ua uc W hrr (by rw [List.length_map]; omega) (by rw [List.length_map]; omega) h2' (fun z hz => by
                obtain ⟨z', hz', rfl⟩ := List.mem_map.1 hz
                exact (HL.out.el z' hz').2.grew hW)
              rw [List.length_map, hzl, List.map_map] at h
              exact h
            obtain ⟨⟨p0, r0⟩, ⟨p1, r1⟩, ⟨p2, r2⟩, ⟨p3, r3⟩, ⟨p4, r4⟩, ⟨p5, r5⟩⟩ := six HL.out.b1
            clear hkt hmk hzl hb0 hb1
            go_wp2_with (first
              | (go_at_call 89; refine (JC.out _ (by repeat (first | with_reducible exact Grew.refl _ | with_reducible apply Grew.plus | with_reducible apply Grew.alloc | with_reducible apply Grew.drewN | with_reducible apply Grew.drew))).mono ?_; rintro x4 w4 ⟨v, rfl, hev, gx, rfl⟩; have HEV := Lib.hid hev; clear hev)
              | (go_at_call 90; refine (RC.out _ (by repeat (first | with_reducible exact Grew.refl _ | with_reducible apply Grew.plus | with_reducible apply Grew.alloc | with_reducible apply Grew.drewN | with_reducible apply Grew.drew))).mono ?_; rintro x4 w4 ⟨rc, rfl, hri, gy, rfl⟩; obtain ⟨n0, n1, n2, n3, n4, na, nn, nc, hrl'⟩ := rin_lit hri; subst hrl'; have HRI := Lib.hid hri; clear hri))
            refine chain6 (Q := fun W => bodyPost _ _ _ _ _ ((W.plus gx).plus gy)) HL.out.b1 (fun w9 e6 hx gw => ?_)
            obtain ⟨⟨y0, _⟩, ⟨y1, _⟩, ⟨y2, _⟩, ⟨y3, _⟩, ⟨y4, _⟩, ⟨y5, _⟩⟩ := six e6
            exact bodyPost_ret (v := .tuple #[v, .agg #[.int .i64 n0, .int .i64 n1, .string n3, .string n4, .int .i64 n2, .slice na nn nc]]) (by simp [results, Tryd.results63, go_sem, y0, y1, y2, y3, y4, y5]) rfl ⟨_, _, rfl, by rw [HMK.out]; exact errin_fin (ex_plus (ex_plus hx)) (HEV.out.grew (by repeat (first | with_reducible exact Grew.refl _ | with_reducible apply Grew.plus | with_reducible apply Grew.alloc | with_reducible apply Grew.drewN | with_reducible apply Grew.drew))) (fun q hq => hq.elim (fun h => ⟨by have := h.1; omega, by have := h.1; omega⟩) (fun h => u_fin (wd := wr) (by omega) (by repeat (first | with_reducible exact Grew.refl _ | with_reducible apply Grew.plus | with_reducible apply Grew.alloc | with_reducible apply Grew.drewN | with_reducible apply Grew.drew)) h)), by rw [HMK.out]; exact rin_fin (ex_plus (ex_plus hx)) HRI.out (fun q hq => hq.elim (fun h => ⟨by have := h.1; omega, by have := h.1; omega⟩) (fun h => u_fin (wd := wr) (by omega) (by repeat (first | with_reducible exact Grew.refl _ | with_reducible apply Grew.plus | with_reducible apply Grew.alloc | with_reducible apply Grew.drewN | with_reducible apply Grew.drew)) h)), by rw [HMK.out]; exact room_fin (ex_plus (ex_plus hx)) (by omega) (by repeat (first | with_reducible exact Grew.refl _ | with_reducible apply Grew.plus | with_reducible apply Grew.alloc | with_reducible apply Grew.drewN | with_reducible apply Grew.drew)) HL.out.rm, (gw w0 (by omega) HL.out.hg).trans (by repeat (first | with_reducible exact Grew.refl _ | with_reducible apply Grew.plus | with_reducible apply Grew.alloc | with_reducible apply Grew.drewN | with_reducible apply Grew.drew)), kp_fin (ex_plus (ex_plus hx)) (by repeat (first | with_reducible exact Grew.refl _ | with_reducible apply Grew.plus | with_reducible apply Grew.alloc | with_reducible apply Grew.drewN | with_reducible apply Grew.drew)) HL.out.kp (by omega)⟩
end Go.Proofs.YtaaibekhoondcaaDoor
