/- Walk: make1; how great an error is that is made of a tree. -/
import Derived.Test.YtaaibekhoondcaaDoorMade
namespace Go.Proofs.YtaaibekhoondcaaDoor
open Go.RowKit
set_option linter.unusedSimpArgs false
set_option linter.unusedVariables false

theorem sizeL_append : ∀ (a b : List Err), Err.sizeL (a ++ b) = Err.sizeL a + Err.sizeL b
  | [], b => by simp [Err.sizeL]
  | e :: a, b => by rw [List.cons_append, Err.sizeL, Err.sizeL, sizeL_append a b]; omega
theorem sizeL_filter (p : Err → Bool) : ∀ (a : List Err), Err.sizeL (a.filter p) ≤ Err.sizeL a
  | [] => by simp
  | e :: a => by
    have := sizeL_filter p a
    by_cases h : p e = true
    · rw [List.filter_cons_of_pos h, Err.sizeL, Err.sizeL]; omega
    · rw [List.filter_cons_of_neg h, Err.sizeL]; omega
theorem join_size (es : List Err) : (joinE es).size ≤ Err.sizeL es + 1 := by
  have h := sizeL_filter (fun e => !e.isNone) es
  unfold joinE
  split
  · simp [Err.size]
  · rename_i e he
    rw [he, Err.sizeL] at h; omega
  · rename_i e e' l he
    rw [he] at h; rw [Err.size]; omega
theorem newE_size (l b : ByteArray) (a : Int) (e : Err) : (newE l b a e).size ≤ e.size + 1 := by
  unfold newE; split
  · simp [Err.size]
  · rw [Err.size]; exact Nat.le_refl _
theorem mkL_size (g : Int → TreeD → Err × Int) (h : ∀ r t, ((g r t).1.size : Int) + max (g r t).2 0 ≤ max r 0) : ∀ (l : List TreeD) (r : Int), (Err.sizeL (mkL g r l).1 : Int) + max (mkL g r l).2 0 ≤ max r 0
  | [], r => by simp [mkL, Err.sizeL]
  | t :: l, r => by
    have h1 := h r t
    have h2 := mkL_size g h l (g r t).2
    rw [mkL]
    simp only [Err.sizeL]
    omega
theorem mk_size : ∀ (f : Nat) (r : Int) (t : TreeD), ((mk f r t).1.size : Int) + max (mk f r t).2 0 ≤ max r 0
  | 0, r, t => by rw [mk_zero]; simp only [Err.size]; omega
  | f + 1, r, .node k c a l b kids => by
    have ih := mk_size f
    have h6 := mkL_size (mk f) ih (kids.take 6) (r - 1)
    rw [mk_succ]
    split
    · simp only [Err.size]; omega
    · split
      · simp only [Err.size]; omega
      · split
        · cases kids with
          | nil => simp only [Err.size]; omega
          | cons t l' => have h1 := ih (r - 1) t; have h2 := newE_size l b a (mk f (r - 1) t).1; simp only; omega
        · split
          · have h1 := join_size (mkL (mk f) (r - 1) (kids.take 6)).1; simp only; omega
          · simp only [Err.size]; omega

set_option maxRecDepth 100000 in
set_option maxHeartbeats 4000000 in
theorem make1_any {S : Nat → Addr} (t : TreeD) (cs : Array Value) (w : World) (ht : TreeAt w t cs.toList) (hS : Sents S w) :
    Calls Tryd.prog 42 #[.agg cs] w fun x w' => ∃ v rc, x = .returned (.tuple #[v, .agg rc]) ∧ ErrIn S w' (fun q => w.heap.size ≤ q) (mk 13 60 t).1 v ∧ RIn w' (fun q => w.heap.size ≤ q) (mk 13 60 t).1 rc.toList ∧ Grew w w' := by
  have hc : callsN 13 - 1000000000000000 ≤ 60 := by simp [callsN]
  have MC := Lib.hid (fun W (hW : Grew w W) (hR : RoomAt (w.heap.size + 1 + 1) 60 W) => made_any (w.heap.size + 1 + 1) (by omega) hS 13 (Nat.le_refl _) 0 (by omega) t cs 60 W ht hW hR hc (by omega))
  generalize mk 13 60 t = m at *
  obtain ⟨e, r'⟩ := m
  obtain ⟨cs⟩ := cs
  cases ht with
  | @node k c a l b kids ad cap rows hk hc ha hlc hcm hrl hrows hkids =>
  clear hS hrows hkids
  go_enter Tryd.func42, Tryd.ntmps42
  go_wp2_with (go_at_call 63; refine (MC.out _ (by repeat (first | with_reducible exact Grew.refl _ | with_reducible apply Grew.plus | with_reducible apply Grew.alloc | with_reducible apply Grew.drewN)) (heap_alloc_at _ _ _ (by simp [go_sem]))).mono ?_; rintro x4 w4 ⟨v, rc, rfl, hev, hri, hrm4, hg4, hk4⟩; obtain ⟨c0, c1, c2, c3, c4, ca, cn, cc, hrl4⟩ := rin_lit hri; subst hrl4; have hb1 : w4.heap[w.heap.size + 1]? = some (.cells #[.int .i64 0, .int .i64 0, .string ⟨#[]⟩, .string ⟨#[]⟩, .int .i64 0, .slice none 0 0] 66 (0, 0)) := (by rw [hk4.2 _ (by simp [size_alloc']) (by omega)]; exact keep_a (heap_alloc_at _ _ _ (by simp [size_alloc']))); obtain ⟨⟨p0, r0⟩, ⟨p1, r1⟩, ⟨p2, r2⟩, ⟨p3, r3⟩, ⟨p4, r4⟩, ⟨p5, r5⟩⟩ := six hb1; have HB1 := Lib.hid hb1; have HEV := Lib.hid hev; have HRI := Lib.hid hri; have HG4 := Lib.hid hg4; clear hb1 hev hri hrm4 hg4 hk4)
  refine chain6 (Q := fun W => bodyPost _ _ _ _ _ W) HB1.out (fun w9 e6 hx gw => ?_)
  obtain ⟨⟨y0, _⟩, ⟨y1, _⟩, ⟨y2, _⟩, ⟨y3, _⟩, ⟨y4, _⟩, ⟨y5, _⟩⟩ := six e6
  exact bodyPost_ret (v := .tuple #[v, .agg #[.int .i64 c0, .int .i64 c1, .string c3, .string c4, .int .i64 c2, .slice ca cn cc]]) (by simp [results, Tryd.results42, go_sem, y0, y1, y2, y3, y4, y5]) rfl ⟨_, _, rfl, errin_fin hx HEV.out (fun q hq => by simp only [size_alloc'] at hq; omega), rin_fin hx HRI.out (fun q hq => by simp only [size_alloc'] at hq; omega), gw w (by omega) HG4.out⟩
end Go.Proofs.YtaaibekhoondcaaDoor
