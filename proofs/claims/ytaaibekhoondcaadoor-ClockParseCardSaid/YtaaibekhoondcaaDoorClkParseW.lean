/- The walk of the law ClockParse: Parse of any text, and what is written of what is read. -/
import Derived.Test.YtaaibekhoondcaaDoorRParse
import Derived.Test.YtaaibekhoondcaaDoorClkX
import Derived.Test.YtaaibekhoondcaaDoorClkTicks
namespace Go.Proofs.YtaaibekhoondcaaDoor
open Go.RowKit
set_option linter.unusedSimpArgs false
set_option linter.unusedVariables false

theorem parsed_text {s : ByteArray} {q : PS} (h : PS.run PS.start s.data.toList 0 = .inl q) : textB q.a (min ((q.n : Int) + 1) 8).toNat = s := by
  obtain ⟨h8, ht⟩ := PS.run_text h
  rw [show (min ((q.n : Int) + 1) 8).toNat = q.n + 1 by omega]
  unfold textB
  rw [ht]
theorem faultV_iface (a : Addr) : ∃ t u, faultV a = .iface t u := ⟨_, _, rfl⟩

set_option maxRecDepth 100000 in
set_option maxHeartbeats 4000000 in
theorem clockParse_walk {S : Nat → Addr} (s : ByteArray) (w : World) (hs : s.size ≤ 9223372036854775807) (ht : Tab w) (hS : Sents S w) :
    Calls Tryd.prog 12 #[.string s] w fun e w' => e = .returned (.bool true) ∧ Grew w w' := by
  have HT := Lib.hid ht
  have HS := Lib.hid hS
  have P1 := Lib.hid (fun W (hW : Grew w W) => parse_any s W hs _ _ (hS.grew hW).s6)
  have P2 := Lib.hid (fun W => rparse_any s W hs)
  clear ht hS
  cases hR : PS.run PS.start s.data.toList 0 with
  | inl q =>
    rw [hR] at P1 P2
    have hn8 := (PS.run_text hR).1
    have HQ := Lib.hid (PS.run_fits hR)
    have HX := Lib.hid (parsed_text hR)
    have C1 : Hid (∀ W, Grew w W → Calls Tryd.prog 41 #[.string s] W fun e w' => e = .returned (.tuple #[.agg q.a.cells, .int .i64 ((q.n : Int) + 1), .nilIface]) ∧ Grew W w') := fun W hW => (P1.out W hW).mono fun e w' ⟨h, g⟩ => ⟨h.1 q rfl, g⟩
    have C2 : Hid (∀ W, Calls Tryd.prog 47 #[.string s] W fun e w' => e = .returned (.tuple #[.agg q.a.cells, .int .i64 ((q.n : Int) + 1), noV 0 none 0 0 none 0 0]) ∧ Grew W w') := fun W => (P2.out W).mono fun e w' ⟨h, g⟩ => ⟨h.1 q rfl, g⟩
    have C3 : Hid (∀ W, Grew w W → Calls Tryd.prog 39 #[.agg q.a.cells, .int .i64 ((q.n : Int) + 1)] W fun e w' => e = .returned (.string s) ∧ Grew W w') := fun W hW => by
      have := ctext_any q.a ((q.n : Int) + 1) W HQ.out (by omega) (by omega) (HT.out.grew hW)
      rwa [HX.out] at this
    clear P1 P2 hR
    obtain ⟨a, n, d⟩ := q
    simp only at C1 C2 C3 hn8
    go_enter Tryd.func12, Tryd.ntmps12
    go_wp2_with (first | (go_at_call 41; refine (C1.out _ (by repeat (first | with_reducible exact HG.out | with_reducible exact Grew.refl _ | with_reducible assumption | with_reducible apply Grew.plus | with_reducible apply Grew.drewN | with_reducible apply Grew.drew | with_reducible apply Grew.alloc | with_reducible refine Grew.setCell ?_ (by simp [go_sem]; try omega) _))).mono ?_; rintro e w' ⟨rfl, gx, rfl⟩) | (go_at_call 47; refine (C2.out _).mono ?_; rintro e w' ⟨rfl, gx, rfl⟩) | (go_at_call 37; refine (refused_none none none 0 0 0 0 _).mono ?_; rintro e w' ⟨rfl, gx, rfl⟩) | (go_at_call 39; refine (C3.out _ (by repeat (first | with_reducible exact HG.out | with_reducible exact Grew.refl _ | with_reducible assumption | with_reducible apply Grew.plus | with_reducible apply Grew.drewN | with_reducible apply Grew.drew | with_reducible apply Grew.alloc | with_reducible refine Grew.setCell ?_ (by simp [go_sem]; try omega) _))).mono ?_; rintro e w' ⟨rfl, gx, rfl⟩) | (go_at_call 15; refine (wakes3 _).mono ?_; rintro e w' ⟨rfl, gx, rfl⟩))
    go_ret
    exact ⟨rfl, by repeat (first | with_reducible exact HG.out | with_reducible exact Grew.refl _ | with_reducible assumption | with_reducible apply Grew.plus | with_reducible apply Grew.drewN | with_reducible apply Grew.drew | with_reducible apply Grew.alloc | with_reducible refine Grew.setCell ?_ (by simp [go_sem]; try omega) _)⟩
  | inr i =>
    rw [hR] at P1 P2
    have C1 : Hid (∀ W, Grew w W → Calls Tryd.prog 41 #[.string s] W fun e w' => ∃ v, e = .returned (.tuple #[.agg (C8.mk 0 0 0 0 0 0 0 0).cells, .int .i64 0, v]) ∧ ErrAt S w' (parseErr i) v ∧ (∃ B, v = faultV ⟨B, 0, none⟩) ∧ Grew W w') := fun W hW => (P1.out W hW).mono fun e w' ⟨h, g⟩ => by
      obtain ⟨B, h1, h2⟩ := h.2 i rfl
      exact ⟨_, h1, parse_err h2, ⟨B, rfl⟩, g⟩
    have C2 : Hid (∀ W, Calls Tryd.prog 47 #[.string s] W fun e w' => ∃ ar cp b, e = .returned (.tuple #[.agg (C8.mk 0 0 0 0 0 0 0 0).cells, .int .i64 0, noV 6 ar 1 cp b 1 1]) ∧ CellsIn w' ar (linkCells (parseErr i).chain) ∧ 1 ≤ cp ∧ cp ≤ 9223372036854775807 ∧ CellsIn w' b (nats [6]) ∧ (∀ q, ar = some q → W.heap.size ≤ q.block) ∧ (∀ q, b = some q → W.heap.size ≤ q.block) ∧ Grew W w') := fun W => (P2.out W).mono fun e w' ⟨h, g⟩ => by
      obtain ⟨ar, cp, b, h1, h2, h3, h4, h5, h6, h7⟩ := h.2 i rfl
      exact ⟨ar, cp, b, h1, h2, h3, h4, h5, h6, h7, g⟩
    clear P1 P2 hR
    have hez : ∀ W, (Op.equalIn 10000 24 (.agg #[.int .i64 0, .int .i64 0, .int .i64 0, .int .i64 0, .int .i64 0, .int .i64 0, .int .i64 0, .int .i64 0]) (.agg #[.int .i64 0, .int .i64 0, .int .i64 0, .int .i64 0, .int .i64 0, .int .i64 0, .int .i64 0, .int .i64 0])).run Tryd.prog W = .ok true W := fun W => equalIn_clk (C8.mk 0 0 0 0 0 0 0 0) (C8.mk 0 0 0 0 0 0 0 0) W
    go_enter Tryd.func12, Tryd.ntmps12
    go_upto_region 2 with (go_at_call 41; refine (C1.out _ (by repeat (first | with_reducible exact HG.out | with_reducible exact Grew.refl _ | with_reducible assumption | with_reducible apply Grew.plus | with_reducible apply Grew.drewN | with_reducible apply Grew.drew | with_reducible apply Grew.alloc | with_reducible refine Grew.setCell ?_ (by simp [go_sem]; try omega) _))).mono ?_; rintro e w1 ⟨v, rfl, hev, ⟨B, rfl⟩, gx, rfl⟩; have HEV := Lib.hid hev; clear hev)
    go_cut [6, 7, 8] (fun s6 s7 s8 wd => ∃ (q q' : Nat) (ar : Option Addr) (cp : Nat) (b2 : Option Addr), s6 = .pointer (some ⟨q, 0, none⟩) ∧ s7 = .int .i64 0 ∧ s8 = .pointer (some ⟨q', 0, none⟩) ∧ wd.cellsAt ⟨w.heap.size + gx.blocks.size, 0, none⟩ 8 = some (C8.mk 0 0 0 0 0 0 0 0).cells.toList ∧ wd.cellsAt ⟨q, 0, none⟩ 8 = some (C8.mk 0 0 0 0 0 0 0 0).cells.toList ∧ wd.cellsAt ⟨q', 0, none⟩ 3 = some [.int .i64 6, .slice ar 1 cp, .slice b2 1 1] ∧ ErrAt S wd (parseErr i) (faultV ⟨B, 0, none⟩) ∧ CellsIn wd ar (linkCells (parseErr i).chain) ∧ 1 ≤ cp ∧ cp ≤ 9223372036854775807 ∧ CellsIn wd b2 (nats [6]) ∧ Grew w wd)
    case first =>
      go_wp2_with (go_at_call 47; refine (C2.out _).mono ?_; rintro e w1 ⟨ar, cp, b2, rfl, hin, hc1, hcm, hinb, _, _, gy, rfl⟩; have HIN := Lib.hid hin; have HIB := Lib.hid hinb; clear hin hinb)
      go_meet
      exact ⟨_, _, ar, cp, b2, rfl, rfl, rfl, by simp [go_sem], by simp [go_sem], by simp [go_sem], HEV.out.grew (by repeat (first | with_reducible exact HG.out | with_reducible exact Grew.refl _ | with_reducible assumption | with_reducible apply Grew.plus | with_reducible apply Grew.drewN | with_reducible apply Grew.drew | with_reducible apply Grew.alloc | with_reducible refine Grew.setCell ?_ (by simp [go_sem]; try omega) _)), HIN.out.grew (by repeat (first | with_reducible exact HG.out | with_reducible exact Grew.refl _ | with_reducible assumption | with_reducible apply Grew.plus | with_reducible apply Grew.drewN | with_reducible apply Grew.drew | with_reducible apply Grew.alloc | with_reducible refine Grew.setCell ?_ (by simp [go_sem]; try omega) _)), hc1, hcm, HIB.out.grew (by repeat (first | with_reducible exact HG.out | with_reducible exact Grew.refl _ | with_reducible assumption | with_reducible apply Grew.plus | with_reducible apply Grew.drewN | with_reducible apply Grew.drew | with_reducible apply Grew.alloc | with_reducible refine Grew.setCell ?_ (by simp [go_sem]; try omega) _)), by repeat (first | with_reducible exact HG.out | with_reducible exact Grew.refl _ | with_reducible assumption | with_reducible apply Grew.plus | with_reducible apply Grew.drewN | with_reducible apply Grew.drew | with_reducible apply Grew.alloc | with_reducible refine Grew.setCell ?_ (by simp [go_sem]; try omega) _)⟩
    case rest =>
      obtain ⟨q, q', ar, cp, b2, rfl, rfl, rfl, hp, hq, hq', hev, hin, hc1, hcm, hinb, hgd⟩ := hcut
      have HG := Lib.hid hgd
      have HRF := Lib.hid (refused_one (HS.out.grew hgd) (k := 6) (by omega) (by omega) hev ar b2 cp hin hinb hc1 hcm)
      clear hgd hev hin hinb HEV
      go_wp2_with (first | (go_at_call 37; refine (HRF.out).mono ?_; rintro e w' ⟨rfl, gx, rfl⟩) | (go_at_call 15; refine (wakes3 _).mono ?_; rintro e w' ⟨rfl, gx, rfl⟩))
      go_ret
      exact ⟨rfl, by repeat (first | with_reducible exact HG.out | with_reducible exact Grew.refl _ | with_reducible assumption | with_reducible apply Grew.plus | with_reducible apply Grew.drewN | with_reducible apply Grew.drew | with_reducible apply Grew.alloc | with_reducible refine Grew.setCell ?_ (by simp [go_sem]; try omega) _)⟩
end Go.Proofs.YtaaibekhoondcaaDoor
