/- The walk of the law AuditCausal: may any acts be those of a log? -/
import Derived.Test.YtofijhejpgjopaaGreatDoorCau
import Derived.Test.YtofijhejpgjopaaGreatDoorAudW
namespace Go.Proofs.YtofijhejpgjopaaGreatDoor
open Go.RowKit
set_option linter.unusedSimpArgs false
set_option linter.unusedVariables false

theorem flat_take {α : Type} (f : α → List Value) (n : Nat) (hf : ∀ x, (f x).length = n) (l : List α) (k : Nat) (hk : k ≤ l.length) : (l.flatMap f).take (k * n) = (l.take k).flatMap f := by
  have h1 : (l.take k).length = k := List.length_take_of_le hk
  have h2 := flat_length f n hf (l.take k)
  rw [h1] at h2
  have h3 : l.flatMap f = (l.take k).flatMap f ++ (l.drop k).flatMap f := by rw [← List.flatMap_append, List.take_append_drop]
  rw [h3, ← h2, List.take_left]
theorem lend_acts_n (n : Nat) (l : List ActD) (hn : l.length = n) (a : Option Addr) (cap : Nat) (w : World) (ha : CellsIn w a (l.flatMap actRow)) (hnil : a = none → l.length = 0 ∧ cap = 0) (hcap : n ≤ cap) (hm : cap ≤ 9223372036854775807) (hl : n ≤ 1000000) :
    Calls Tryz.prog 6 #[.slice a n cap] w fun e w' => ∃ g c, e = .returned (.slice (some ⟨g, 0, none⟩) n c) ∧ w'.ownsRow w.heap.size 52 13 (.slice (some ⟨g, 0, none⟩) (n + 4) c) (n + 4) ((l ++ actMarks 4).flatMap actRow) ∧ Grew w w' := by
  subst hn; exact lend_acts l a cap w ha hnil hcap hm hl
theorem causal_n (n : Nat) (l : List ActD) (hn : l.length = n) (a : Option Addr) (cap : Nat) (w : World) (ha : CellsIn w a (l.flatMap actRow)) (hl : n ≤ 1000000) :
    Calls Tryz.prog 7 #[.slice a n cap] w fun e w' => e = .returned (.bool (causalF ⟨0, 0, 0, 0, 0, 0, 0, 0⟩ l)) ∧ Grew w w' := by
  subst hn; exact causal_any l a cap w ha hl
theorem rcausal_n (n : Nat) (l : List ActD) (hn : l.length = n) (a : Option Addr) (cap : Nat) (w : World) (ha : CellsIn w a (l.flatMap actRow)) (hl : n ≤ 1000000) :
    Calls Tryz.prog 9 #[.slice a n cap] w fun e w' => e = .returned (.bool (causalF ⟨0, 0, 0, 0, 0, 0, 0, 0⟩ l)) ∧ Grew w w' := by
  subst hn; exact rcausal_any l a cap w ha hl
theorem intact_acts_n (n : Nat) (l : List ActD) (hn : l.length = n) (g c base : Nat) (b : Option Addr) (cb : Nat) (w w0 : World) (hown : w.ownsRow base 52 13 (.slice (some ⟨g, 0, none⟩) (n + 4) c) (n + 4) ((l ++ actMarks 4).flatMap actRow)) (hb : CellsIn w b (l.flatMap actRow)) (hcb : n ≤ cb) (hmb : cb ≤ 9223372036854775807) (hl : n ≤ 1000000) (hg0 : Grew w0 w) (h0 : w0.heap.size ≤ base) :
    Calls Tryz.prog 8 #[.slice (some ⟨g, 0, none⟩) n c, .slice b n cb] w fun e w' => e = .returned (.bool true) ∧ Grew w0 w' := by
  subst hn; exact (intact_acts g c base b cb l w w0 hown hb hcb hmb hl hg0 h0).mono fun e w' ⟨h1, h2, _⟩ => ⟨h1, h2⟩
theorem own_take {w : World} {g c n base : Nat} {l : List ActD} (hn : l.length = n) (ho : w.ownsRow base 52 13 (.slice (some ⟨g, 0, none⟩) (n + 4) c) (n + 4) ((l ++ actMarks 4).flatMap actRow)) : CellsIn w (some ⟨g, 0, none⟩) (l.flatMap actRow) := by
  have := ho.cin.take (n * 13)
  rw [List.flatMap_append, ← hn, ← flat_length actRow 13 actRow_len l, List.take_left] at this
  exact this

set_option maxRecDepth 100000 in
set_option maxHeartbeats 2000000 in
theorem auditCausal_walk {S0 : Nat → Addr} (l : List ActD) (a : Option Addr) (cap : Nat) (w : World) (ha : CellsIn w a (l.flatMap actRow)) (hnil : a = none → l.length = 0 ∧ cap = 0) (hcap : l.length ≤ cap) (hm : cap ≤ 9223372036854775807) (hS : Sents S0 w) :
    Calls Tryz.prog 3 #[.slice a l.length cap] w fun e w' => e = .returned (.bool true) ∧ Grew w w' := by
  have HS := Lib.hid hS
  clear hS
  by_cases h60 : l.length ≤ 60
  · generalize hn : l.length = n at *
    have HL := Lib.hid (fun W (hW : Grew w W) => lend_acts_n n l hn a cap W (ha.grew hW) (fun h => by rw [hn]; exact hnil h) hcap hm (by omega))
    have HN := Lib.hid hn
    have HA := Lib.hid ha
    clear hn ha hnil
    go_enter Tryz.func3, Tryz.ntmps3
    go_wp2_with (first
      | (go_at_call 6; refine (HL.out _ (by repeat (first | with_reducible exact HG.out | with_reducible exact Grew.refl _ | with_reducible assumption | with_reducible apply Grew.plus | with_reducible apply Grew.drewN | with_reducible apply Grew.drew | with_reducible apply Grew.alloc | with_reducible refine Grew.setCell ?_ (by simp [go_sem]; try omega) _))).mono ?_; rintro e w1 ⟨g, c, rfl, ho1, hg1⟩; have HO1 := Lib.hid ho1; have HG1 := Lib.hid (Grew.trans (show Grew w _ from by repeat (first | with_reducible exact HG.out | with_reducible exact Grew.refl _ | with_reducible assumption | with_reducible apply Grew.plus | with_reducible apply Grew.drewN | with_reducible apply Grew.drew | with_reducible apply Grew.alloc | with_reducible refine Grew.setCell ?_ (by simp [go_sem]; try omega) _)) hg1); clear ho1 hg1)
      | (go_at_call 7; refine (causal_n n l HN.out _ c w1 (own_take HN.out HO1.out) (by omega)).mono ?_; rintro e w2 ⟨rfl, hg2⟩; have HO2 := Lib.hid (HO1.out.grew hg2); have HG2 := Lib.hid (HG1.out.trans hg2); clear hg2)
      | (go_at_call 8; refine (intact_acts_n n l HN.out g c w.heap.size a cap w2 w HO2.out (HA.out.grew HG2.out) (by omega) hm (by omega) HG2.out (Nat.le_refl _)).mono ?_; rintro e w3 ⟨rfl, hg3⟩; have HG3 := Lib.hid hg3; clear hg3)
      | (go_at_call 9; refine (rcausal_n n l HN.out a cap w3 (HA.out.grew HG3.out) (by omega)).mono ?_; rintro e w4 ⟨rfl, hg4⟩; have HG4 := Lib.hid (HG3.out.trans hg4); clear hg4)
      | (go_at_call 10; refine (wakes20 (HS.out.grew HG4.out)).mono ?_; rintro e w5 ⟨rfl, hg5⟩; have HG5 := Lib.hid (HG4.out.trans hg5); clear hg5))
    go_ret
    exact ⟨rfl, HG5.out⟩
  · have hx : (l.take 60).length = 60 := List.length_take_of_le (by omega)
    have hn60 : (60 : Int) < l.length := by omega
    have ha' : CellsIn w a ((l.take 60).flatMap actRow) := by
      have := ha.take (60 * 13)
      rwa [flat_take actRow 13 actRow_len l 60 (by omega)] at this
    have hnil' : a = none → (l.take 60).length = 0 ∧ cap = 0 := fun h => by have := hnil h; omega
    have hcap' : 60 ≤ cap := by omega
    generalize l.take 60 = l' at *
    have HL := Lib.hid (fun W (hW : Grew w W) => lend_acts_n 60 l' hx a cap W (ha'.grew hW) hnil' hcap' hm (by omega))
    have HN := Lib.hid hx
    have HA := Lib.hid ha'
    clear hx ha ha' hnil hnil'
    go_enter Tryz.func3, Tryz.ntmps3
    go_wp2_with (first
      | (go_at_call 6; refine (HL.out _ (by repeat (first | with_reducible exact HG.out | with_reducible exact Grew.refl _ | with_reducible assumption | with_reducible apply Grew.plus | with_reducible apply Grew.drewN | with_reducible apply Grew.drew | with_reducible apply Grew.alloc | with_reducible refine Grew.setCell ?_ (by simp [go_sem]; try omega) _))).mono ?_; rintro e w1 ⟨g, c, rfl, ho1, hg1⟩; have HO1 := Lib.hid ho1; have HG1 := Lib.hid (Grew.trans (show Grew w _ from by repeat (first | with_reducible exact HG.out | with_reducible exact Grew.refl _ | with_reducible assumption | with_reducible apply Grew.plus | with_reducible apply Grew.drewN | with_reducible apply Grew.drew | with_reducible apply Grew.alloc | with_reducible refine Grew.setCell ?_ (by simp [go_sem]; try omega) _)) hg1); clear ho1 hg1)
      | (go_at_call 7; refine (causal_n 60 l' HN.out _ c w1 (own_take HN.out HO1.out) (by omega)).mono ?_; rintro e w2 ⟨rfl, hg2⟩; have HO2 := Lib.hid (HO1.out.grew hg2); have HG2 := Lib.hid (HG1.out.trans hg2); clear hg2)
      | (go_at_call 8; refine (intact_acts_n 60 l' HN.out g c w.heap.size a cap w2 w HO2.out (HA.out.grew HG2.out) (by omega) hm (by omega) HG2.out (Nat.le_refl _)).mono ?_; rintro e w3 ⟨rfl, hg3⟩; have HG3 := Lib.hid hg3; clear hg3)
      | (go_at_call 9; refine (rcausal_n 60 l' HN.out a cap w3 (HA.out.grew HG3.out) (by omega)).mono ?_; rintro e w4 ⟨rfl, hg4⟩; have HG4 := Lib.hid (HG3.out.trans hg4); clear hg4)
      | (go_at_call 10; refine (wakes20 (HS.out.grew HG4.out)).mono ?_; rintro e w5 ⟨rfl, hg5⟩; have HG5 := Lib.hid (HG4.out.trans hg5); clear hg5))
    go_ret
    exact ⟨rfl, HG5.out⟩
end Go.Proofs.YtofijhejpgjopaaGreatDoor
