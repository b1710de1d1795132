/- The walk of the law ClockText: what Text writes, and what Parse reads of it. -/
import Derived.Test.YtaaibekhoondcaaDoorParse
import Derived.Test.YtaaibekhoondcaaDoorClkX
import Derived.Deep.DeepCutAuto
namespace Go.Proofs.YtaaibekhoondcaaDoor
open Go.RowKit
set_option linter.unusedSimpArgs false
set_option linter.unusedVariables false

theorem textB_list (a : C8) (n : Nat) : (textB a n).data.toList = C8.textL a n := by simp [textB]

def FitTo (a : C8) (m : Int) (f : Bool) (k : Nat) : Prop := f = true ↔ (1 ≤ m ∧ ∀ j : Nat, j < k → (j : Int) < m → 0 ≤ a.get j)
def ZapTo (a : C8) (m : Int) (x : C8) (k : Nat) : Prop := ∀ j, j < 8 → x.get j = if m ≤ (j : Int) ∧ j < k then 0 else a.get j
theorem fit_zero (a : C8) (m : Int) (f : Bool) (h : f = true ↔ 1 ≤ m) : FitTo a m f 0 := by
  unfold FitTo; rw [h]; constructor
  · intro h; exact ⟨h, fun j hj => absurd hj (Nat.not_lt_zero _)⟩
  · intro h; exact h.1
theorem fit_next {a : C8} {m : Int} {f : Bool} {k : Nat} (h : FitTo a m f k) (hk : (k : Int) < m → 0 ≤ a.get k) : FitTo a m f (k + 1) := by
  unfold FitTo at *; rw [h]; constructor
  · intro ⟨h1, h2⟩
    refine ⟨h1, fun j hj hm => ?_⟩
    by_cases e : j = k
    · subst e; exact hk hm
    · exact h2 j (by omega) hm
  · intro ⟨h1, h2⟩; exact ⟨h1, fun j hj hm => h2 j (by omega) hm⟩
theorem fit_bad {a : C8} {m : Int} {k : Nat} (h1 : (k : Int) < m) (h2 : a.get k < 0) : FitTo a m false (k + 1) := by
  unfold FitTo; constructor
  · intro h; cases h
  · intro ⟨_, h⟩; have := h k (by omega) h1; omega
theorem zap_zero (a : C8) (m : Int) : ZapTo a m a 0 := fun j hj => by rw [if_neg (by omega)]
theorem zap_keep {a : C8} {m : Int} {x : C8} {k : Nat} (h : ZapTo a m x k) (hk : (k : Int) < m) : ZapTo a m x (k + 1) := fun j hj => by
  rw [h j hj]
  by_cases e : m ≤ (j : Int) ∧ j < k
  · rw [if_pos e, if_pos (by omega)]
  · rw [if_neg e, if_neg (by omega)]
theorem zap_set {a : C8} {m : Int} {x : C8} {k : Nat} (h : ZapTo a m x k) (hk : m ≤ (k : Int)) (h8 : k < 8) : ZapTo a m (x.set k 0) (k + 1) := fun j hj => by
  rw [C8.get_set_eq _ _ _ _ h8 hj, h j hj]
  by_cases e : j = k
  · subst e; rw [if_pos rfl, if_pos (by omega)]
  · rw [if_neg e]
    by_cases e2 : m ≤ (j : Int) ∧ j < k
    · rw [if_pos e2, if_pos (by omega)]
    · rw [if_neg e2, if_neg (by omega)]
theorem zap_cut {a : C8} {m : Int} {x : C8} (h : ZapTo a m x 8) : x = a.cut m.toNat := C8.ext_get fun j hj => by
  rw [h j hj, C8.cut_get _ _ _ hj]
  by_cases e : m ≤ (j : Int)
  · rw [if_pos ⟨e, hj⟩, if_neg (by omega)]
  · rw [if_neg (by omega), if_pos (by omega)]
theorem fit_all {a : C8} {m : Int} {f : Bool} (hm : m ≤ 8) (h : FitTo a m f 8) : f = a.fitB m.toNat := by
  have : a.fitB m.toNat = true ↔ (1 ≤ m ∧ ∀ j : Nat, j < 8 → (j : Int) < m → 0 ≤ a.get j) := by
    simp only [C8.fitB, Bool.and_eq_true, decide_eq_true_eq, List.all_eq_true, List.mem_range]
    constructor
    · intro ⟨h1, h2⟩; exact ⟨by omega, fun i _ hi => h2 i (by omega)⟩
    · intro ⟨h1, h2⟩; exact ⟨by omega, fun i hi => h2 i (by omega) (by omega)⟩
  have h2 : f = true ↔ a.fitB m.toNat = true := h.trans this.symm
  cases f <;> cases hq : a.fitB m.toNat <;> simp_all

set_option maxRecDepth 100000 in
set_option maxHeartbeats 4000000 in
theorem clockText_walk (a : C8) (n : Int) (w : World) (ha : a.Fits) (h0 : -9223372036854775808 ≤ n) (h1 : n ≤ 9223372036854775807) (ht : Tab w) (te : TypeId) (ue : Value) (hS : w.cell? ⟨1, 0, none⟩ = some (.iface te ue)) :
    Calls Tryd.prog 10 #[.agg a.cells, .int .i64 n] w fun e w' => e = .returned (.bool true) ∧ Grew w w' := by
  have HT := Lib.hid ht
  have HS := Lib.hid hS
  have HA := Lib.hid ha
  have C1 := Lib.hid (fun W (hW : Grew w W) => ctext_any a n W ha h0 h1 (ht.grew hW))
  have C2 := Lib.hid (fun W => rtext_any a n W ha h0 h1)
  have hsz := text_len a ha (min n 8).toNat (by omega)
  have PC := Lib.hid (fun W (hW : Grew w W) => parse_any (textB a (min n 8).toNat) W (by omega) te ue (cell_grew hW hS))
  rw [textB_list] at PC
  have HR1 := Lib.hid (PS.text_run a ha (min n 8).toNat (by omega))
  have HR2 := Lib.hid (PS.text_norun a ha (min n 8).toNat (by omega))
  clear ht hS ha
  generalize textB a (min n 8).toNat = s at *
  go_enter Tryd.func10, Tryd.ntmps10
  go_wp2_with (first | (go_at_call 39; refine (C1.out _ (by repeat (first | with_reducible exact HG.out | with_reducible exact Grew.refl _ | with_reducible assumption | with_reducible apply Grew.plus | with_reducible apply Grew.drewN | with_reducible apply Grew.drew | with_reducible apply Grew.alloc | with_reducible refine Grew.setCell ?_ (by simp [go_sem]; try omega) _))).mono ?_; rintro e w' ⟨rfl, gx, rfl⟩) | (go_at_call 40; refine (C2.out _).mono ?_; rintro e w' ⟨rfl, gx, rfl⟩))
  all_goals
    go_loopw [7, 8] (fun s7 s8 wr => ∃ (f : Bool) (x : C8) (k : Nat), k ≤ 8 ∧ s7 = .bool f ∧ s8 = .int .i64 k ∧ FitTo a (min n 8) f k ∧ ZapTo a (min n 8) x k ∧ wr.heap[w.heap.size]? = some (.cells x.cells 24 (0, 0)) ∧ Grew w wr) (fun _ i _ => 8 - (intOf i).toNat)
    case atStart => exact ⟨_, a, 0, by omega, rfl, rfl, fit_zero _ _ _ (by simp <;> omega), zap_zero _ _, keep_g (by repeat (first | with_reducible exact Grew.refl _ | with_reducible apply Grew.plus | with_reducible apply Grew.drewN)) (heap_alloc_at w (.cells a.cells 24) _ rfl), by repeat (first | with_reducible exact HG.out | with_reducible exact Grew.refl _ | with_reducible assumption | with_reducible apply Grew.plus | with_reducible apply Grew.drewN | with_reducible apply Grew.drew | with_reducible apply Grew.alloc | with_reducible refine Grew.setCell ?_ (by simp [go_sem]; try omega) _)⟩
    case round =>
      obtain ⟨f, x, k, hk8, rfl, rfl, hf, hx, hb, hg⟩ := hrel
      have HG := Lib.hid hg
      have HB := Lib.hid hb
      have HF := Lib.hid hf
      have HX := Lib.hid hx
      clear hg hb hf hx
      by_cases hlt : k < 8
      · have hxk := HX.out k hlt
        rw [if_neg (by omega)] at hxk
        have hc := x.cells_get k hlt
        have hst := fun v => x.cells_set k v hlt
        rw [hxk] at hc
        obtain ⟨hc1, hc2⟩ := World.own_cell HB.out k _ hc
        clear hc
        go_wp2_with fail
        all_goals
          go_roundw
          case rel => first
            | exact ⟨false, x, k + 1, by omega, rfl, by go_num, fit_bad (by omega) (by omega), zap_keep HX.out (by omega), HB.out, HG.out⟩
            | exact ⟨f, x, k + 1, by omega, rfl, by go_num, fit_next HF.out (by omega), zap_keep HX.out (by omega), HB.out, HG.out⟩
            | exact ⟨f, x.set k 0, k + 1, by omega, rfl, by go_num, fit_next HF.out (by omega), zap_set HX.out (by omega) hlt, by rw [World.own_setCell HB.out, hst], HG.out.setCell (by simp) _⟩
          case measure => simp [intOf]; omega
      · obtain rfl : k = 8 := by omega
        obtain rfl := zap_cut HX.out
        have hff := fit_all (by omega) HF.out
        have q1 := World.cellsAt_block HB.out 8 (by simp [go_sem])
        cases hfit : a.fitB (min n 8).toNat
        case true =>
          rw [hfit] at hff
          obtain ⟨q, hq1, hq2, hq3⟩ := HR1.out hfit
          have PK : Hid (∀ W, Grew w W → Calls Tryd.prog 41 #[.string s] W fun e w' => e = .returned (.tuple #[.agg (a.cut (min n 8).toNat).cells, .int .i64 (min n 8), .nilIface]) ∧ Grew W w') := fun W hW => (PC.out W hW).mono fun e w' ⟨h, g⟩ => ⟨by
            rw [h.1 q hq1, hq2, show ((q.n : Int) + 1) = min n 8 by omega], g⟩
          subst hff
          generalize a.cut (min n 8).toNat = y at *
          go_wp2_with (first | (go_at_call 41; refine (PK.out _ (by repeat (first | with_reducible exact HG.out | with_reducible exact Grew.refl _ | with_reducible assumption | with_reducible apply Grew.plus | with_reducible apply Grew.drewN | with_reducible apply Grew.drew | with_reducible apply Grew.alloc | with_reducible refine Grew.setCell ?_ (by simp [go_sem]; try omega) _))).mono ?_; rintro e w' ⟨rfl, gx, rfl⟩) | (go_at_call 15; refine (wakes3 _).mono ?_; rintro e w' ⟨rfl, gx, rfl⟩))
          go_ret
          exact ⟨rfl, by repeat (first | with_reducible exact HG.out | with_reducible exact Grew.refl _ | with_reducible assumption | with_reducible apply Grew.plus | with_reducible apply Grew.drewN | with_reducible apply Grew.drew | with_reducible apply Grew.alloc | with_reducible refine Grew.setCell ?_ (by simp [go_sem]; try omega) _)⟩
        case false =>
          rw [hfit] at hff
          obtain ⟨i, hi⟩ := HR2.out hfit
          have PK : Hid (∀ W, Grew w W → Calls Tryd.prog 41 #[.string s] W fun e w' => ∃ t u, e = .returned (.tuple #[.agg (C8.mk 0 0 0 0 0 0 0 0).cells, .int .i64 0, .iface t u]) ∧ Grew W w') := fun W hW => (PC.out W hW).mono fun e w' ⟨h, g⟩ => by
            obtain ⟨B, h1, h2⟩ := h.2 i hi
            exact ⟨_, _, h1, g⟩
          subst hff
          go_wp2_with (first | (go_at_call 41; refine (PK.out _ (by repeat (first | with_reducible exact HG.out | with_reducible exact Grew.refl _ | with_reducible assumption | with_reducible apply Grew.plus | with_reducible apply Grew.drewN | with_reducible apply Grew.drew | with_reducible apply Grew.alloc | with_reducible refine Grew.setCell ?_ (by simp [go_sem]; try omega) _))).mono ?_; rintro e w' ⟨t, u, rfl, gx, rfl⟩) | (go_at_call 15; refine (wakes3 _).mono ?_; rintro e w' ⟨rfl, gx, rfl⟩))
          go_ret
          exact ⟨rfl, by repeat (first | with_reducible exact HG.out | with_reducible exact Grew.refl _ | with_reducible assumption | with_reducible apply Grew.plus | with_reducible apply Grew.drewN | with_reducible apply Grew.drew | with_reducible apply Grew.alloc | with_reducible refine Grew.setCell ?_ (by simp [go_sem]; try omega) _)⟩
end Go.Proofs.YtaaibekhoondcaaDoor
