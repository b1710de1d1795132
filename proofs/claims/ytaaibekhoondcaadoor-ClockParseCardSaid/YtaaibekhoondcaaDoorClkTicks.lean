/- The walk of the law ClockTicks: Tick and Has of any clock and numbers. -/
import Derived.Test.YtaaibekhoondcaaDoorTickR
import Derived.Test.YtaaibekhoondcaaDoorLag
import Derived.Deep.DeepCutAuto
namespace Go.Proofs.YtaaibekhoondcaaDoor
open Go.RowKit
set_option linter.unusedSimpArgs false
set_option linter.unusedVariables false

structure AskD where
  a : C8
  replica : Int
  number : Int
def askRow (x : AskD) : List Value := x.a.cells.toList ++ [.int .i64 x.replica, .int .i64 x.number]
def AsksAt (w : World) (s : Option Addr) (xs : List AskD) : Prop :=
  0 < xs.length → ∃ b off, s = some ⟨b, off, none⟩ ∧ b < w.heap.size ∧ ∀ i (h : i < xs.length), w.cellsAt ⟨b, off + i * 10, none⟩ 10 = some (askRow (xs[i]'h))

theorem tick_compare (a : C8) (r : Nat) (h : r < 8) : a.compare (a.set r (a.get r + 1)) = 1 := by
  unfold C8.compare
  match r, h with
  | 0, _ | 1, _ | 2, _ | 3, _ | 4, _ | 5, _ | 6, _ | 7, _ =>
    rw [if_neg (by intro e; cases a; simp [C8.set, C8.get] at e <;> omega), if_pos (by simp [C8.covers, C8.set, C8.get] <;> omega)]
theorem tick_lag (a : C8) (r : Nat) (h : r < 8) : a.lag (a.set r (a.get r + 1)) = 1 := by
  match r, h with
  | 0, _ | 1, _ | 2, _ | 3, _ | 4, _ | 5, _ | 6, _ | 7, _ =>
    simp only [C8.lag, C8.lagTo, C8.set, C8.get, Int.le_refl, if_true]
    repeat' split
    all_goals omega

theorem tickErr_iface {S : Nat → Addr} {w : World} {r : Int} {v : Value} (h : ErrAt S w (tickErr r) v) : ∃ t u, v = .iface t u := by
  unfold tickErr at h
  cases h; exact ⟨_, _, rfl⟩
theorem refused_one {S : Nat → Addr} {w : World} (hS : Sents S w) {l c : ByteArray} {i : Int} {k : Nat} (h0 : 1 ≤ k) (h1 : k ≤ 13) {v : Value} (he : ErrAt S w (.fault l c i (.reason k)) v) (a b : Option Addr) (cp : Nat) (ha : CellsIn w a (linkCells (Err.fault l c i (.reason k)).chain)) (hb : CellsIn w b (nats [k])) (hc : 1 ≤ cp) (hm : cp ≤ 9223372036854775807) :
    Calls Tryd.prog 37 #[v, noV k a 1 cp b 1 1] w fun x w' => x = .returned (.bool true) ∧ Grew w w' := by
  have hn : numOf k = k := by unfold numOf; rw [if_pos h1]
  have e1 : (Err.fault l c i (.reason k)).code = k := by
    show ((Err.fault l c i (.reason k)).walk codeF 99).1 = k
    rw [Err.walk, Err.walk, hn]
    simp [codeF]; omega
  have e2 : (Err.fault l c i (.reason k)).codes = [k] := by
    show ((Err.fault l c i (.reason k)).walk codesF []).1 = [k]
    rw [Err.walk, Err.walk, hn]
    simp [codesF]; omega
  have e3 : (Err.fault l c i (.reason k)).chain = [(l, c, i)] := by rw [Err.chain, Err.chain]
  have h := refused_some hS he (by rw [Err.size, Err.size]; omega) (by simp) (by rw [e1]; omega) a b cp 1 ha (by rw [e2]; exact hb) (by rw [e3]; exact hc) (by rw [e2]; simp) hm (by decide)
  rw [e1, e2, e3] at h
  exact h
theorem plus_fresh {W W' : World} (hs : W'.heap.size = W.heap.size) (gx : More) (k : Nat) (hk : W.heap.size ≤ k) : (W'.plus gx).heap[k]? = (W.plus gx).heap[k]? := by
  simp [World.plus, Array.getElem?_append, hs, Nat.not_lt.2 hk]
theorem tick_get_set (a : C8) (k j : Nat) (v : Int) (hk : k < 8) (hj : j < 8) : (a.set k v).get j = if j = k then v else a.get j := by
  match k, hk, j, hj with
  | 0, _, 0, _ | 0, _, 1, _ | 0, _, 2, _ | 0, _, 3, _ | 0, _, 4, _ | 0, _, 5, _ | 0, _, 6, _ | 0, _, 7, _ => rfl
  | 1, _, 0, _ | 1, _, 1, _ | 1, _, 2, _ | 1, _, 3, _ | 1, _, 4, _ | 1, _, 5, _ | 1, _, 6, _ | 1, _, 7, _ => rfl
  | 2, _, 0, _ | 2, _, 1, _ | 2, _, 2, _ | 2, _, 3, _ | 2, _, 4, _ | 2, _, 5, _ | 2, _, 6, _ | 2, _, 7, _ => rfl
  | 3, _, 0, _ | 3, _, 1, _ | 3, _, 2, _ | 3, _, 3, _ | 3, _, 4, _ | 3, _, 5, _ | 3, _, 6, _ | 3, _, 7, _ => rfl
  | 4, _, 0, _ | 4, _, 1, _ | 4, _, 2, _ | 4, _, 3, _ | 4, _, 4, _ | 4, _, 5, _ | 4, _, 6, _ | 4, _, 7, _ => rfl
  | 5, _, 0, _ | 5, _, 1, _ | 5, _, 2, _ | 5, _, 3, _ | 5, _, 4, _ | 5, _, 5, _ | 5, _, 6, _ | 5, _, 7, _ => rfl
  | 6, _, 0, _ | 6, _, 1, _ | 6, _, 2, _ | 6, _, 3, _ | 6, _, 4, _ | 6, _, 5, _ | 6, _, 6, _ | 6, _, 7, _ => rfl
  | 7, _, 0, _ | 7, _, 1, _ | 7, _, 2, _ | 7, _, 3, _ | 7, _, 4, _ | 7, _, 5, _ | 7, _, 6, _ | 7, _, 7, _ => rfl

set_option maxRecDepth 100000 in
set_option maxHeartbeats 4000000 in
theorem clockTicks_walk {S : Nat → Addr} (s : Option Addr) (xs : List AskD) (cap : Nat) (w : World) (hS : Sents S w) (hl : xs.length ≤ cap) (hm : cap ≤ 9223372036854775807) (hx : AsksAt w s xs) (hf : ∀ x ∈ xs, x.a.Fits) :
    Calls Tryd.prog 9 #[.slice s xs.length cap] w fun e w' => e = .returned (.bool true) ∧ Grew w w' := by
  have hX := Lib.hid hx
  have HS := Lib.hid hS
  have HFA := Lib.hid hf
  clear hx hS hf
  go_enter Tryd.func9, Tryd.ntmps9
  go_wp2_with fail
  go_loopw [3] (fun i wr => ∃ (k : Nat), k ≤ xs.length ∧ i = .int .i64 k ∧ Grew w wr) (fun i _ => xs.length - (intOf i).toNat)
  case atStart => exact ⟨0, by omega, rfl, Grew.refl _⟩
  case round =>
    obtain ⟨k, hk, rfl, hg⟩ := hrel
    have HG := Lib.hid hg
    clear hg
    by_cases hlt : k < xs.length
    · obtain ⟨b, off, rfl, hb, hc⟩ := hX.out (by omega)
      have hrow := hc k hlt
      have hfit := HFA.out xs[k] (List.getElem_mem hlt)
      clear hc
      generalize xs[k] = x at *
      obtain ⟨a, r, n⟩ := x
      have HF := Lib.hid hfit
      clear hfit
      have r1 : w.cellsAt ⟨b, off + k * 10, none⟩ 8 = some a.cells.toList := by
        have := World.cellsAt_sub hrow 0 8 (by omega)
        rw [Nat.add_zero] at this
        rw [this]; cases a; rfl
      have r2 : w.cell? ⟨b, off + k * 10 + 8, none⟩ = some (.int .i64 r) := by
        rw [World.cellsAt_cell hrow 8 (by omega)]; cases a; rfl
      have r3 : w.cell? ⟨b, off + k * 10 + 9, none⟩ = some (.int .i64 n) := by
        rw [World.cellsAt_cell hrow 9 (by omega)]; cases a; rfl
      have HR : Hid (∀ W, Grew w W → W.cellsAt ⟨b, off + k * 10, none⟩ 8 = some a.cells.toList ∧ W.cell? ⟨b, off + k * 10 + 8, none⟩ = some (.int .i64 r) ∧ W.cell? ⟨b, off + k * 10 + 9, none⟩ = some (.int .i64 n)) := fun W hW => by
        obtain ⟨y, rfl⟩ := hW
        exact ⟨by rw [World.cellsAt_plus, r1]; rfl, by rw [World.cell?_plus _ _ _ (by rw [r2]; rfl), r2], by rw [World.cell?_plus _ _ _ (by rw [r3]; rfl), r3]⟩
      obtain ⟨q1, q2, q3⟩ := HR.out wr HG.out
      clear r1 r2 r3 hrow
      by_cases hno : C8.noTick a r = true
      · have T1 := Lib.hid (fun W (hW : Grew w W) => tick_no a r W (HS.out.grew hW) hno)
        have T2 := Lib.hid (fun W => rtick_no a r W hno)
        clear hno
        have hzl : (C8.mk 0 0 0 0 0 0 0 0).cells = (#[.int .i64 0, .int .i64 0, .int .i64 0, .int .i64 0, .int .i64 0, .int .i64 0, .int .i64 0, .int .i64 0] : Array Value) := rfl
        rw [hzl] at T1 T2
        go_upto_region 4 with fail
        go_cut [4, 5] (fun s4 s5 wc => ∃ (p t : Nat) (u : Value), s4 = .pointer (some ⟨p, 0, none⟩) ∧ s5 = .iface t u ∧ wc.cellsAt ⟨p, 0, none⟩ 8 = some (C8.mk 0 0 0 0 0 0 0 0).cells.toList ∧ ErrAt S wc (tickErr r) (.iface t u) ∧ Grew wr wc)
        case first =>
          go_region_held3 (fun w' => w'.cellsAt ⟨b, off + k * 10, none⟩ 8 = some a.cells.toList ∧ w'.cell? ⟨b, off + k * 10 + 8, none⟩ = some (.int .i64 r)) (exact ⟨(HR.out _ (by repeat (first | with_reducible exact HG.out | with_reducible exact Grew.refl _ | with_reducible assumption | with_reducible apply Grew.plus | with_reducible apply Grew.drewN | with_reducible apply Grew.drew | with_reducible apply Grew.alloc | with_reducible refine Grew.setCell ?_ (by simp [go_sem]; try omega) _))).1, (HR.out _ (by repeat (first | with_reducible exact HG.out | with_reducible exact Grew.refl _ | with_reducible assumption | with_reducible apply Grew.plus | with_reducible apply Grew.drewN | with_reducible apply Grew.drew | with_reducible apply Grew.alloc | with_reducible refine Grew.setCell ?_ (by simp [go_sem]; try omega) _))).2.1⟩) (first | (go_at_call 19; refine (T1.out _ (by repeat (first | with_reducible exact HG.out | with_reducible exact Grew.refl _ | with_reducible assumption | with_reducible apply Grew.plus | with_reducible apply Grew.drewN | with_reducible apply Grew.drew | with_reducible apply Grew.alloc | with_reducible refine Grew.setCell ?_ (by simp [go_sem]; try omega) _))).mono ?_; rintro e w1 ⟨v, rfl, hev, gx, rfl⟩; obtain ⟨t, u, rfl⟩ := tickErr_iface hev; have HEV := Lib.hid hev; clear hev))
          all_goals
            go_wp2_with fail
            go_meet
            exact ⟨_, _, _, rfl, rfl, by simp [go_sem], HEV.out.grew (by repeat (first | with_reducible exact HG.out | with_reducible exact Grew.refl _ | with_reducible assumption | with_reducible apply Grew.plus | with_reducible apply Grew.drewN | with_reducible apply Grew.drew | with_reducible apply Grew.alloc | with_reducible refine Grew.setCell ?_ (by simp [go_sem]; try omega) _)), by repeat (first | with_reducible exact HG.out | with_reducible exact Grew.refl _ | with_reducible assumption | with_reducible apply Grew.plus | with_reducible apply Grew.drewN | with_reducible apply Grew.drew | with_reducible apply Grew.alloc | with_reducible refine Grew.setCell ?_ (by simp [go_sem]; try omega) _)⟩
        case rest =>
          obtain ⟨p, t, u, rfl, rfl, hp, hev, hgc⟩ := hcut
          have HEV := Lib.hid hev
          have HGR := HG
          clear HG q1 q2 q3 hev
          have HG := Lib.hid (HGR.out.trans hgc)
          obtain ⟨q1, q2, q3⟩ := HR.out _ HG.out
          clear hgc HGR
          go_upto_region 5 with fail
          go_cut [6, 7] (fun s6 s7 wd => ∃ (q q' : Nat) (ar : Option Addr) (cp : Nat) (b2 : Option Addr), s6 = .pointer (some ⟨q, 0, none⟩) ∧ s7 = .pointer (some ⟨q', 0, none⟩) ∧ wd.cellsAt ⟨p, 0, none⟩ 8 = some (C8.mk 0 0 0 0 0 0 0 0).cells.toList ∧ wd.cellsAt ⟨q, 0, none⟩ 8 = some (C8.mk 0 0 0 0 0 0 0 0).cells.toList ∧ wd.cellsAt ⟨q', 0, none⟩ 3 = some [.int .i64 1, .slice ar 1 cp, .slice b2 1 1] ∧ CellsIn wd ar (linkCells (tickErr r).chain) ∧ 1 ≤ cp ∧ cp ≤ 9223372036854775807 ∧ CellsIn wd b2 (nats [1]) ∧ Grew wc wd)
          case first =>
            go_region_held3 (fun w' => w'.cellsAt ⟨b, off + k * 10, none⟩ 8 = some a.cells.toList ∧ w'.cell? ⟨b, off + k * 10 + 8, none⟩ = some (.int .i64 r)) (exact ⟨(HR.out _ (by repeat (first | with_reducible exact HG.out | with_reducible exact Grew.refl _ | with_reducible assumption | with_reducible apply Grew.plus | with_reducible apply Grew.drewN | with_reducible apply Grew.drew | with_reducible apply Grew.alloc | with_reducible refine Grew.setCell ?_ (by simp [go_sem]; try omega) _))).1, (HR.out _ (by repeat (first | with_reducible exact HG.out | with_reducible exact Grew.refl _ | with_reducible assumption | with_reducible apply Grew.plus | with_reducible apply Grew.drewN | with_reducible apply Grew.drew | with_reducible apply Grew.alloc | with_reducible refine Grew.setCell ?_ (by simp [go_sem]; try omega) _))).2.1⟩) (first | (go_at_call 36; refine (T2.out _).mono ?_; rintro e w1 ⟨ar, cp, b2, rfl, hin, hc1, hcm, hinb, har, hbr, gx, rfl⟩; have HAR := Lib.hid har; have HBR := Lib.hid hbr; clear har hbr; have HIN := Lib.hid hin; have HIB := Lib.hid hinb; clear hin hinb))
            all_goals
              go_wp2_with fail
              go_meet
              exact ⟨_, _, ar, cp, b2, rfl, rfl, by simp [go_sem, hp], by simp [go_sem], by simp [go_sem], (by first | exact HIN.out.keepB (fun q hq _ => plus_fresh (by simp [go_sem]) gx q.block (HAR.out q hq)) | exact (HIN.out.keepB (fun q hq _ => plus_fresh (by simp [go_sem]) gx q.block (HAR.out q hq))).grew ((Grew.refl (World.plus _ gx)).alloc _) | exact HIN.out.grew (by repeat (first | with_reducible exact Grew.refl _ | with_reducible apply Grew.plus | with_reducible apply Grew.alloc | with_reducible refine Grew.setCell ?_ (by simp [go_sem] <;> omega) _))), hc1, hcm, (by first | exact HIB.out.keepB (fun q hq _ => plus_fresh (by simp [go_sem]) gx q.block (HBR.out q hq)) | exact (HIB.out.keepB (fun q hq _ => plus_fresh (by simp [go_sem]) gx q.block (HBR.out q hq))).grew ((Grew.refl (World.plus _ gx)).alloc _) | exact HIB.out.grew (by repeat (first | with_reducible exact Grew.refl _ | with_reducible apply Grew.plus | with_reducible apply Grew.alloc | with_reducible refine Grew.setCell ?_ (by simp [go_sem] <;> omega) _))), by repeat (first | with_reducible exact HG.out | with_reducible exact Grew.refl _ | with_reducible assumption | with_reducible apply Grew.plus | with_reducible apply Grew.drewN | with_reducible apply Grew.drew | with_reducible apply Grew.alloc | with_reducible refine Grew.setCell ?_ (by simp [go_sem]; try omega) _)⟩
          case rest =>
            obtain ⟨q, q', ar, cp, b2, rfl, rfl, hpd, hq, hq', hin, hc1, hcm, hinb, hgd⟩ := hcut
            have HEV2 := Lib.hid (HEV.out.grew hgd)
            have HIN := Lib.hid hin
            have HIB := Lib.hid hinb
            have HGR := HG
            clear HG q1 q2 q3 hp hin hinb
            have HG := Lib.hid (HGR.out.trans hgd)
            obtain ⟨q1, q2, q3⟩ := HR.out _ HG.out
            have HRF := Lib.hid (refused_one (HS.out.grew HG.out) (k := 1) (by omega) (by omega) HEV2.out ar b2 cp HIN.out HIB.out hc1 hcm)
            clear hgd HGR HEV HEV2
            have hez : ∀ W, (Op.equalIn 10000 24 (.agg #[.int .i64 0, .int .i64 0, .int .i64 0, .int .i64 0, .int .i64 0, .int .i64 0, .int .i64 0, .int .i64 0]) (.agg #[.int .i64 0, .int .i64 0, .int .i64 0, .int .i64 0, .int .i64 0, .int .i64 0, .int .i64 0, .int .i64 0])).run Tryd.prog W = .ok true W := fun W => equalIn_clk (C8.mk 0 0 0 0 0 0 0 0) (C8.mk 0 0 0 0 0 0 0 0) W
            go_wp2_with (go_at_call 37; refine (HRF.out).mono ?_; rintro e w' ⟨rfl, gx, rfl⟩)
            refine wp_region_plus (by kernel_rfl) (by kernel_rfl) ?_
            repeat (go_big_quiet_step ((first | (go_at_call 18; exact Calls.grew_of (has_any _ _ _ _)) | (go_at_call 38; exact Calls.grew_of (rhas_any _ _ _ _)))))
            refine wpQuiet_nil ?_
            intro _ hw'
            obtain ⟨nx, rfl⟩ := hw'
            go_wp2_with fail
            refine wp_region_plus (by kernel_rfl) (by kernel_rfl) ?_
            repeat (go_big_quiet_step ((first | fail)))
            refine wpQuiet_nil ?_
            intro _ hw'
            obtain ⟨nx, rfl⟩ := hw'
            go_wp2_with fail
            go_roundw
            case measure => simp [intOf]; omega
            case rel => exact ⟨k + 1, by omega, by go_num, by repeat (first | with_reducible exact HG.out | with_reducible exact Grew.refl _ | with_reducible assumption | with_reducible apply Grew.plus | with_reducible apply Grew.drewN | with_reducible apply Grew.drew | with_reducible apply Grew.alloc | with_reducible refine Grew.setCell ?_ (by simp [go_sem]; try omega) _)⟩
      · have hno' : C8.noTick a r = false := by simpa using hno
        obtain ⟨hi, hmx⟩ : C8.isIn r = true ∧ (a.get r.toNat == 9223372036854775807) = false := by simpa [C8.noTick] using hno'
        have h0 : 0 ≤ r := by simp [C8.isIn] at hi; omega
        have h8 : r < 8 := by simp [C8.isIn] at hi; omega
        have T1 := Lib.hid (fun W => tick_ok a r W HF.out h0 h8 hmx)
        have T2 := Lib.hid (fun W => rtick_ok a r W HF.out h0 h8 hmx)
        have HCM := Lib.hid (tick_compare a r.toNat (by omega))
        have HLG := Lib.hid (tick_lag a r.toNat (by omega))
        have FN : Hid ((a.set r.toNat (a.get r.toNat + 1)).Fits) := Lib.hid (by
          have hf1 : -9223372036854775808 ≤ a.get r.toNat ∧ a.get r.toNat ≤ 9223372036854775807 := HF.out r.toNat (by omega)
          have := beq_eq_false_iff_ne.1 hmx
          intro j hj
          rw [tick_get_set a r.toNat j _ (by omega) hj]; split
          · constructor <;> omega
          · exact HF.out j hj)
        clear hi hmx hno hno' h0 h8
        generalize a.set r.toNat (a.get r.toNat + 1) = a' at *
        go_upto_region 4 with fail
        go_cut [4, 5] (fun s4 s5 wc => ∃ p : Nat, s4 = .pointer (some ⟨p, 0, none⟩) ∧ s5 = .nilIface ∧ wc.cellsAt ⟨p, 0, none⟩ 8 = some a'.cells.toList ∧ Grew wr wc)
        case first =>
          go_region_held3 (fun w' => w'.cellsAt ⟨b, off + k * 10, none⟩ 8 = some a.cells.toList ∧ w'.cell? ⟨b, off + k * 10 + 8, none⟩ = some (.int .i64 r)) (exact ⟨(HR.out _ (by repeat (first | with_reducible exact HG.out | with_reducible exact Grew.refl _ | with_reducible assumption | with_reducible apply Grew.plus | with_reducible apply Grew.drewN | with_reducible apply Grew.drew | with_reducible apply Grew.alloc | with_reducible refine Grew.setCell ?_ (by simp [go_sem]; try omega) _))).1, (HR.out _ (by repeat (first | with_reducible exact HG.out | with_reducible exact Grew.refl _ | with_reducible assumption | with_reducible apply Grew.plus | with_reducible apply Grew.drewN | with_reducible apply Grew.drew | with_reducible apply Grew.alloc | with_reducible refine Grew.setCell ?_ (by simp [go_sem]; try omega) _))).2.1⟩) (first | (go_at_call 19; refine (T1.out _).mono ?_; rintro e w1 ⟨rfl, gx, rfl⟩))
          all_goals
            go_wp2_with fail
            go_meet
            exact ⟨_, rfl, rfl, by simp [go_sem], by repeat (first | with_reducible exact HG.out | with_reducible exact Grew.refl _ | with_reducible assumption | with_reducible apply Grew.plus | with_reducible apply Grew.drewN | with_reducible apply Grew.drew | with_reducible apply Grew.alloc | with_reducible refine Grew.setCell ?_ (by simp [go_sem]; try omega) _)⟩
        case rest =>
          obtain ⟨p, rfl, rfl, hp, hgc⟩ := hcut
          have HGR := HG
          clear HG q1 q2 q3
          have HG := Lib.hid (HGR.out.trans hgc)
          obtain ⟨q1, q2, q3⟩ := HR.out wc HG.out
          clear hgc HGR
          go_upto_region 5 with fail
          go_cut [6, 7] (fun s6 s7 wd => ∃ q q' : Nat, s6 = .pointer (some ⟨q, 0, none⟩) ∧ s7 = .pointer (some ⟨q', 0, none⟩) ∧ wd.cellsAt ⟨p, 0, none⟩ 8 = some a'.cells.toList ∧ wd.cellsAt ⟨q, 0, none⟩ 8 = some a'.cells.toList ∧ wd.cellsAt ⟨q', 0, none⟩ 3 = some [.int .i64 0, .slice none 0 0, .slice none 0 0] ∧ Grew wc wd)
          case first =>
            go_region_held3 (fun w' => w'.cellsAt ⟨b, off + k * 10, none⟩ 8 = some a.cells.toList ∧ w'.cell? ⟨b, off + k * 10 + 8, none⟩ = some (.int .i64 r)) (exact ⟨(HR.out _ (by repeat (first | with_reducible exact HG.out | with_reducible exact Grew.refl _ | with_reducible assumption | with_reducible apply Grew.plus | with_reducible apply Grew.drewN | with_reducible apply Grew.drew | with_reducible apply Grew.alloc | with_reducible refine Grew.setCell ?_ (by simp [go_sem]; try omega) _))).1, (HR.out _ (by repeat (first | with_reducible exact HG.out | with_reducible exact Grew.refl _ | with_reducible assumption | with_reducible apply Grew.plus | with_reducible apply Grew.drewN | with_reducible apply Grew.drew | with_reducible apply Grew.alloc | with_reducible refine Grew.setCell ?_ (by simp [go_sem]; try omega) _))).2.1⟩) (first | (go_at_call 36; refine (T2.out _).mono ?_; rintro e w1 ⟨rfl, gx, rfl⟩))
            all_goals
              go_wp2_with fail
              go_meet
              exact ⟨_, _, rfl, rfl, by simp [go_sem, hp], by simp [go_sem], by simp [go_sem], by repeat (first | with_reducible exact HG.out | with_reducible exact Grew.refl _ | with_reducible assumption | with_reducible apply Grew.plus | with_reducible apply Grew.drewN | with_reducible apply Grew.drew | with_reducible apply Grew.alloc | with_reducible refine Grew.setCell ?_ (by simp [go_sem]; try omega) _)⟩
          case rest =>
            obtain ⟨q, q', rfl, rfl, hpd, hq, hq', hgd⟩ := hcut
            have HGR := HG
            clear HG q1 q2 q3 hp
            have HG := Lib.hid (HGR.out.trans hgd)
            obtain ⟨q1, q2, q3⟩ := HR.out _ HG.out
            clear hgd HGR
            have CMP : Hid (∀ W, Calls Tryd.prog 22 #[.agg a.cells, .agg a'.cells] W fun e w' => e = .returned (.int .i64 1) ∧ Grew W w') := fun W => by
              have := compare_any a a' W
              rwa [HCM.out] at this
            have LGC : Hid (∀ W, Calls Tryd.prog 32 #[.agg a.cells, .agg a'.cells] W fun e w' => e = .returned (.int .i64 1) ∧ Grew W w') := fun W => by
              have := lag_any a a' W HF.out FN.out
              rwa [HLG.out] at this
            go_wp2_with (go_at_call 37; refine (refused_none none none 0 0 0 0 _).mono ?_; rintro e w' ⟨rfl, gx, rfl⟩)
            refine wp_region_plus (by kernel_rfl) (by kernel_rfl) ?_
            repeat (go_big_quiet_step ((first | (go_at_call 18; exact Calls.grew_of (has_any _ _ _ _)) | (go_at_call 38; exact Calls.grew_of (rhas_any _ _ _ _)))))
            refine wpQuiet_nil ?_
            intro _ hw'
            obtain ⟨nx, rfl⟩ := hw'
            go_wp2_with fail
            refine wp_region_plus (by kernel_rfl) (by kernel_rfl) ?_
            repeat (go_big_quiet_step ((first | (go_at_call 22; exact Calls.grew_of (CMP.out _)) | (go_at_call 32; exact Calls.grew_of (LGC.out _)))))
            refine wpQuiet_nil ?_
            intro _ hw'
            obtain ⟨nx, rfl⟩ := hw'
            go_wp2_with fail
            go_roundw
            case measure => simp [intOf]; omega
            case rel => exact ⟨k + 1, by omega, by go_num, by repeat (first | with_reducible exact HG.out | with_reducible exact Grew.refl _ | with_reducible assumption | with_reducible apply Grew.plus | with_reducible apply Grew.drewN | with_reducible apply Grew.drew | with_reducible apply Grew.alloc | with_reducible refine Grew.setCell ?_ (by simp [go_sem]; try omega) _)⟩
    · obtain rfl : k = xs.length := by omega
      go_wp2_with (go_at_call 15; refine (wakes3 _).mono ?_; rintro e w' ⟨rfl, gx, rfl⟩)
      go_ret
      exact ⟨rfl, by repeat (first | with_reducible exact HG.out | with_reducible exact Grew.refl _ | with_reducible assumption | with_reducible apply Grew.plus | with_reducible apply Grew.drewN | with_reducible apply Grew.drew | with_reducible apply Grew.alloc | with_reducible refine Grew.setCell ?_ (by simp [go_sem]; try omega) _)⟩
end Go.Proofs.YtaaibekhoondcaaDoor
