/- Walks: reading a clock, the program's. -/
import Derived.Test.YtaaibekhoondcaaDoorClkP
import Derived.Test.YtaaibekhoondcaaDoorTickR
namespace Go.Proofs.YtaaibekhoondcaaDoor
open Go.RowKit
set_option linter.unusedSimpArgs false
set_option linter.unusedVariables false

def parseErr (i : Nat) : Err := .fault ⟨#[99, 108, 111, 99, 107]⟩ ⟨#[80, 97, 114, 115, 101]⟩ (max (i : Int) (-1)) (.reason 6)
theorem cell_grew {w w' : World} (g : Grew w w') {a : Addr} {v : Value} (h : w.cell? a = some v) : w'.cell? a = some v := by
  obtain ⟨x, rfl⟩ := g
  rw [World.cell?_plus _ _ _ (by rw [h]; rfl), h]
theorem bytes_get (s : ByteArray) (i : Nat) (h : i < s.size) : s.data.toList.drop i = s[i] :: s.data.toList.drop (i + 1) := by
  have hl : i < s.data.toList.length := by rw [Array.length_toList]; exact h
  rw [List.drop_eq_getElem_cons hl]
  rfl
def parseCells (i : Nat) (E : Value) : Array Value := #[.string ⟨#[99, 108, 111, 99, 107]⟩, .string ⟨#[80, 97, 114, 115, 101]⟩, .int .i64 (max (i : Int) (-1)), E]
def ParsePost (E : Value) (R : PS ⊕ Nat) (e : Ending) (w' : World) : Prop :=
  (∀ q, R = .inl q → e = .returned (.tuple #[.agg q.a.cells, .int .i64 ((q.n : Int) + 1), .nilIface])) ∧
  (∀ i, R = .inr i → ∃ B, e = .returned (.tuple #[.agg (C8.mk 0 0 0 0 0 0 0 0).cells, .int .i64 0, faultV ⟨B, 0, none⟩]) ∧ w'.heap[B]? = some (.cells (parseCells i E) 106 (0, 0)))
theorem post_ok {E : Value} {R : PS ⊕ Nat} {q : PS} {w' : World} (h : R = .inl q) : ParsePost E R (.returned (.tuple #[.agg q.a.cells, .int .i64 ((q.n : Int) + 1), .nilIface])) w' :=
  ⟨fun q' h' => by rw [h] at h'; cases h'; rfl, fun i h' => by rw [h] at h'; cases h'⟩
theorem post_no {E : Value} {R : PS ⊕ Nat} {i B : Nat} {w' : World} (h : R = .inr i) (he : w'.heap[B]? = some (.cells (parseCells i E) 106 (0, 0))) : ParsePost E R (.returned (.tuple #[.agg (C8.mk 0 0 0 0 0 0 0 0).cells, .int .i64 0, faultV ⟨B, 0, none⟩])) w' :=
  ⟨fun q' h' => (by rw [h] at h'; cases h'), fun j h' => (by rw [h] at h'; cases h'; exact ⟨B, rfl, he⟩)⟩
theorem parse_err {S : Nat → Addr} {w : World} {i B : Nat} (h : w.heap[B]? = some (.cells (parseCells i (errV (S 6))) 106 (0, 0))) : ErrAt S w (parseErr i) (faultV ⟨B, 0, none⟩) := .fault h (.reason 6 (by omega) (by omega))

set_option maxRecDepth 100000 in
set_option maxHeartbeats 4000000 in
theorem parse_any (s : ByteArray) (w : World) (hs : s.size ≤ 9223372036854775807) (te : TypeId) (ue : Value) (hE : w.cell? ⟨1, 0, none⟩ = some (.iface te ue)) :
    Calls Tryd.prog 41 #[.string s] w fun e w' => ParsePost (.iface te ue) (PS.run PS.start s.data.toList 0) e w' ∧ Grew w w' := by
  have HSS := Lib.hid hE
  have key : ∀ (W : World) (j B : Nat), B = W.heap.size → (W.alloc (.cells #[.string ⟨#[99, 108, 111, 99, 107]⟩, .string ⟨#[80, 97, 114, 115, 101]⟩, .int .i64 (max (j : Int) (-1)), .iface te ue] 106)).heap[B]? = some (.cells (parseCells j (.iface te ue)) 106 (0, 0)) := fun W _ B hB => heap_alloc_at W _ B hB
  have KEY := Lib.hid key
  clear key hE
  generalize hR : PS.run PS.start s.data.toList 0 = R
  go_enter Tryd.func41, Tryd.ntmps41
  go_wp2_with fail
  go_loopw [6, 7, 12] (fun s6 s7 s12 wr => ∃ (a : C8) (pn pd i n : Nat), i ≤ s.size ∧ s6 = .int .i64 pn ∧ s7 = .int .i64 pd ∧ s12 = .int .i64 i ∧ PS.run ⟨a, pn, pd⟩ (s.data.toList.drop i) i = R ∧ pn < 8 ∧ pd ≤ i ∧ (∀ j, j < 8 → 0 ≤ a.get j ∧ a.get j ≤ 9223372036854775807) ∧ wr = ((w.alloc (.cells (C8.mk 0 0 0 0 0 0 0 0).cells 24)).alloc (.cells a.cells 24)).drewN n) (fun _ _ i _ => s.size - (intOf i).toNat)
  case atStart => exact ⟨⟨0, 0, 0, 0, 0, 0, 0, 0⟩, 0, 0, 0, 0, by omega, rfl, rfl, rfl, hR, by omega, by omega, PS.good_start.lo, rfl⟩
  case round =>
    obtain ⟨a, pn, pd, i, n, hi, rfl, rfl, rfl, hrun, hn8, hpd, hlo, rfl⟩ := hrel
    have hs6 : ∀ (o1 o2 : Obj), ((w.alloc o1).alloc o2).cell? ⟨1, 0, none⟩ = some (.iface te ue) := fun o1 o2 => cell_grew (((Grew.refl w).alloc o1).alloc o2) HSS.out
    have hca := a.cells_get pn hn8
    have hst := fun v => a.cells_set pn v hn8
    have HLO := Lib.hid hlo
    obtain ⟨hv0, hv1⟩ := hlo pn hn8
    clear hlo hR
    by_cases hlt : i < s.size
    · have hbs := bytes_get s i hlt
      rw [hbs] at hrun
      have hb256 : s[i].toNat < 256 := s[i].toNat_lt
      by_cases hdg : 48 ≤ s[i].toNat ∧ s[i].toNat ≤ 57
      · obtain ⟨e, hbe⟩ : ∃ e : Nat, s[i].toNat = 48 + e := ⟨s[i].toNat - 48, by omega⟩
        have he : e < 10 := by omega
        have HOV := Lib.hid (fun h => hrun.symm.trans (PS.run_over (a := a) (n := pn) (d := pd) (l := s.data.toList.drop (i + 1)) (i := i) hbe he h))
        have HDG := Lib.hid (fun h h' => (PS.run_digit (a := a) (n := pn) (d := pd) (l := s.data.toList.drop (i + 1)) (i := i) hbe he h h').symm.trans hrun)
        have hbi : (s[i].toNat : Int) = 48 + (e : Int) := by omega
        have h48 : (48 + (e : Int) - 48) = e := by omega
        clear hrun hbs hdg hbe
        go_wp2_with (go_at_call 48; refine (new_any _ _ _ _ _ _).mono ?_; rintro e w' ⟨rfl, rfl⟩)
        all_goals first
          | (go_roundw
             case rel => exact ⟨a.set pn (10 * a.get pn + e), pn, pd + 1, i + 1, n, by omega, rfl, by go_num, by go_num, HDG.out (by (try simp only [beq_iff_eq, beq_eq_false_iff_ne, ne_eq] at *); omega) (by omega), hn8, by omega, fun j hj => by rw [C8.get_set_eq _ _ _ _ hn8 hj]; (split; omega; exact HLO.out j hj), rfl⟩
             case measure => simp [intOf]; omega)
          | skip
        all_goals exact bodyPost_ret (v := .tuple #[.agg (C8.mk 0 0 0 0 0 0 0 0).cells, .int .i64 0, faultV ⟨w.heap.size + 1 + 1, 0, none⟩]) (by simp [results, Tryd.results41, go_sem]; try rfl) rfl ⟨post_no (HOV.out (by (try simp only [beq_iff_eq, beq_eq_false_iff_ne, ne_eq] at *); omega)) (KEY.out _ _ _ (by simp [go_sem])), by repeat (first | with_reducible exact HG.out | with_reducible exact Grew.refl _ | with_reducible assumption | with_reducible apply Grew.plus | with_reducible apply Grew.drewN | with_reducible apply Grew.drew | with_reducible apply Grew.alloc | with_reducible refine Grew.setCell ?_ (by simp [go_sem]; try omega) _)⟩
      · have HOT := Lib.hid (fun h => hrun.symm.trans (PS.run_other (a := a) (n := pn) (d := pd) (l := s.data.toList.drop (i + 1)) (i := i) (by omega) h))
        have HDT := Lib.hid (fun h1 h2 h3 => (PS.run_dot (a := a) (n := pn) (d := pd) (l := s.data.toList.drop (i + 1)) (i := i) h1 h2 h3).symm.trans hrun)
        clear hrun hbs
        go_wp2_with (go_at_call 48; refine (new_any _ _ _ _ _ _).mono ?_; rintro e w' ⟨rfl, rfl⟩)
        all_goals first
          | (go_roundw
             case rel => exact ⟨a, pn + 1, 0, i + 1, n, by omega, by go_num, by go_num, by go_num, HDT.out (by omega) (by omega) (by omega), by omega, by omega, HLO.out, rfl⟩
             case measure => simp [intOf]; omega)
          | skip
        all_goals exact bodyPost_ret (v := .tuple #[.agg (C8.mk 0 0 0 0 0 0 0 0).cells, .int .i64 0, faultV ⟨w.heap.size + 1 + 1, 0, none⟩]) (by simp [results, Tryd.results41, go_sem]; try rfl) rfl ⟨post_no (HOT.out (by omega)) (KEY.out _ _ _ (by simp [go_sem])), by repeat (first | with_reducible exact HG.out | with_reducible exact Grew.refl _ | with_reducible assumption | with_reducible apply Grew.plus | with_reducible apply Grew.drewN | with_reducible apply Grew.drew | with_reducible apply Grew.alloc | with_reducible refine Grew.setCell ?_ (by simp [go_sem]; try omega) _)⟩
    · obtain rfl : i = s.size := by omega
      have hdn : s.data.toList.drop s.size = [] := List.drop_of_length_le (by rw [Array.length_toList]; exact Nat.le_refl _)
      rw [hdn, PS.run_end] at hrun
      simp only at hrun
      have HRN := Lib.hid hrun
      clear hrun hdn
      go_wp2_with (go_at_call 48; refine (new_any _ _ _ _ _ _).mono ?_; rintro e w' ⟨rfl, rfl⟩)
      · exact bodyPost_ret (v := .tuple #[.agg (C8.mk 0 0 0 0 0 0 0 0).cells, .int .i64 0, faultV ⟨w.heap.size + 1 + 1, 0, none⟩]) (by simp [results, Tryd.results41, go_sem]; try rfl) rfl ⟨post_no (i := s.size) (by rw [← HRN.out, if_pos (by simp only [beq_iff_eq] at *; omega)]) (KEY.out _ _ _ (by simp [go_sem])), by repeat (first | with_reducible exact HG.out | with_reducible exact Grew.refl _ | with_reducible assumption | with_reducible apply Grew.plus | with_reducible apply Grew.drewN | with_reducible apply Grew.drew | with_reducible apply Grew.alloc | with_reducible refine Grew.setCell ?_ (by simp [go_sem]; try omega) _)⟩
      · exact bodyPost_ret (v := .tuple #[.agg a.cells, .int .i64 ((pn : Int) + 1), .nilIface]) (by simp [results, Tryd.results41, go_sem]; try rfl) rfl ⟨post_ok (q := ⟨a, pn, pd⟩) (by rw [← HRN.out, if_neg (by simp only [beq_eq_false_iff_ne, ne_eq] at *; omega)]), by repeat (first | with_reducible exact HG.out | with_reducible exact Grew.refl _ | with_reducible assumption | with_reducible apply Grew.plus | with_reducible apply Grew.drewN | with_reducible apply Grew.drew | with_reducible apply Grew.alloc | with_reducible refine Grew.setCell ?_ (by simp [go_sem]; try omega) _)⟩
end Go.Proofs.YtaaibekhoondcaaDoor

namespace Go.Proofs.YtaaibekhoondcaaDoor
open Go.RowKit Go.ChangeShapes
set_option maxRecDepth 100000 in
theorem form_of_laid {W : World} {laid : List (String × DataW Unit)} (h : laidMetH Tryd.prog laid W)
    (hk : (laid.filter fun x => (x.1 == "barrow/api.ErrForm") && x.2.handleName?.isNone) = [("barrow/api.ErrForm", [98, 97, 100, 32, 102, 111, 114, 109])].map (laidErr "*errors.errorString")) :
    ∃ u, W.cell? ⟨1, 0, none⟩ = some (.iface 179 u) := by
  have h1 := (laidMetH_iff.1 h).1.filter (fun x => x.1 == "barrow/api.ErrForm")
  rw [List.filter_filter, hk] at h1
  obtain ⟨ps, hl, hnd, hrows⟩ := h1
  obtain ⟨ads, ⟨hlen, h2⟩, hpl, h3⟩ := errs_of_laid Tryd.underlying33 row_errString Tryd.underlying179 Tryd.underlying198 rfl rfl Tryd.underlying9 (by kernel_rfl) (by kernel_rfl) [("barrow/api.ErrForm", [98, 97, 100, 32, 102, 111, 114, 109])] ps (by kernel_rfl) hl hnd (fun b off hb => (hrows b off hb).2)
  have hlen' : ads.length = 1 := hlen
  obtain ⟨⟨g', hg', hc⟩, _⟩ := h2 0 _ (ads[0]'(by omega)) rfl (List.getElem?_eq_getElem (by omega))
  have hg : Tryd.prog.globalNamed "barrow/api.ErrForm" = some 1 := by kernel_rfl
  obtain rfl := Option.some.inj (hg.symm.trans hg')
  exact ⟨_, hc⟩
end Go.Proofs.YtaaibekhoondcaaDoor
