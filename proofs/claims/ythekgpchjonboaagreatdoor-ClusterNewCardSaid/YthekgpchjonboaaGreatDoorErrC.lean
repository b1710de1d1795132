/- Walks: Code and Codes of an error that lies as a tree. -/
import Derived.Test.YthekgpchjonboaaGreatDoorErr
import Derived.Conc.MuLone
namespace Go.Proofs.YthekgpchjonboaaGreatDoor
open Go.RowKit
set_option linter.unusedSimpArgs false
set_option linter.unusedVariables false

theorem elInt : Elem Tryz.prog 31 3 1 8 := Elem.of Tryz.underlying31 (by kernel_rfl) (by decide)

/-- One step of Code, of Codes. -/
def codeF (s n : Nat) : Nat × Bool := (if n = 0 then s else n, n == 0)
def codesF (l : List Nat) (n : Nat) : List Nat × Bool := (if n = 0 then l else l ++ [n], true)
def Err.code (e : Err) : Nat := match e with | .none => 0 | e => (e.walk codeF 99).1
def Err.codes (e : Err) : List Nat := (e.walk codesF []).1
def nats (l : List Nat) : List Value := l.map fun n : Nat => Value.int .i64 (n : Int)

def CodeInv (w0 : World) (B : Nat) (m : Nat) (s : Nat) (w : World) : Prop := Grew w0 w ∧ w.heap[B]? = some (.cells #[.int .i64 s] 3 (0, 0))
def CodesInv (w0 : World) (B : Nat) (m : Nat) (l : List Nat) (w : World) : Prop :=
  Grew w0 w ∧ l.length + m ≤ 1000000000000 ∧ ∃ v, w.heap[B]? = some (.cells #[v] 31 (0, 0)) ∧ w.ownsRow (B + 1) 3 1 v l.length (nats l)

theorem mine_one {B : Nat} {w : World} {u : Value} {t : TypeId} (h : w.heap[B]? = some (.cells #[u] t (0, 0))) {k : Nat} (hm : Mine ⟨B, 0, none⟩ w k) : k = B ∨ u.ownBlock = some k := by
  rcases hm with e | ⟨v, hv, ho⟩
  · exact .inl e
  · rw [World.own_cell1 h] at hv
    cases hv
    exact .inr ho

theorem Keeps.setCell {B : Nat} {w : World} {u : Value} {t : TypeId} (h : w.heap[B]? = some (.cells #[u] t (0, 0))) (u' : Value) (hu : ∀ q, q < w.heap.size → ¬ Mine ⟨B, 0, none⟩ w q → u'.ownBlock ≠ some q) : Keeps ⟨B, 0, none⟩ w (w.setCell ⟨B, 0, none⟩ u') :=
  ⟨by rw [World.setCell_size]; exact Nat.le_refl _, fun q hq hm => ⟨World.block_setCell _ _ _ _ (fun e => hm (.inl e)), fun hm' => by
    rcases mine_one (by rw [World.own_setCell h]; rfl) hm' with e | e
    · exact hm (.inl e)
    · exact hu q hq hm e⟩⟩

set_option maxRecDepth 100000 in
set_option maxHeartbeats 2000000 in
theorem code1_any {S : Nat → Addr} {w0 : World} (hS : Sents S w0) (B : Nat) (hB : w0.heap.size ≤ B) (v : Value) (k m s : Nat) (w : World) (hk : IsNum S w0 v k) (hi : CodeInv w0 B (m + 1) s w) :
    Calls Tryz.prog 49 #[v, .pointer (some ⟨B, 0, none⟩)] w fun e w' => e = .returned (.bool (codeF s (numOf k)).2) ∧ CodeInv w0 B m (codeF s (numOf k)).1 w' ∧ Keeps ⟨B, 0, none⟩ w w' := by
  obtain ⟨hg, hb⟩ := hi
  have hlt := (Array.getElem?_eq_some_iff.1 hb).1
  have NC := Lib.hid (number_any hS v k hk hg)
  have HG0 := Lib.hid hg
  have HB0 := Lib.hid hb
  have hc : ∀ gx, (w.plus gx).cell? ⟨B, 0, none⟩ = some (.int .i64 s) := fun gx => (World.own_cell (Grew.heap ((Grew.refl w).plus gx) hb) 0 _ rfl).1
  have hf : ∀ gx, (w.plus gx).frozen? ⟨B, 0, none⟩ = false := fun gx => (World.own_cell (Grew.heap ((Grew.refl w).plus gx) hb) 0 _ rfl).2
  clear hg hb hk hS
  generalize numOf k = n at *
  by_cases h0 : n = 0
  · subst h0
    go_enter Tryz.func49, Tryz.ntmps49
    go_wp2_with (go_at_call 50; refine NC.out.mono ?_; rintro e w' ⟨rfl, gx, rfl⟩)
    go_ret
    exact ⟨rfl, ⟨HG0.out.plus gx, Grew.heap ((Grew.refl w).plus gx) HB0.out⟩, Keeps.of_grew ((Grew.refl w).plus gx) hlt⟩
  · have hn : ((n : Int) = 0) = False := by simp [h0]
    go_enter Tryz.func49, Tryz.ntmps49
    go_wp2_with (go_at_call 50; refine NC.out.mono ?_; rintro e w' ⟨rfl, gx, rfl⟩)
    go_ret
    have hb1 := World.own_setCell (i := 0) HB0.out (.int .i64 n)
    have hk1 := Keeps.setCell HB0.out (.int .i64 n) (fun q _ _ => by simp [Value.ownBlock])
    refine ⟨ret_bool (by rw [show (codeF s n).2 = (n == 0) from rfl, Bool.eq_iff_iff]; simp), ⟨(HG0.out.setCell hB _).plus gx, ?_⟩, hk1.trans (Keeps.of_grew ((Grew.refl _).plus gx) (by rw [World.setCell_size]; exact hlt))⟩
    rw [show (codeF s n).1 = n by simp [codeF, h0]]
    exact Grew.heap ((Grew.refl _).plus gx) hb1

set_option maxRecDepth 100000 in
set_option maxHeartbeats 4000000 in
theorem codes1_any {S : Nat → Addr} {w0 : World} (hS : Sents S w0) (B : Nat) (hB : w0.heap.size ≤ B) (v : Value) (k m : Nat) (l : List Nat) (w : World) (hk : IsNum S w0 v k) (hi : CodesInv w0 B (m + 1) l w) :
    Calls Tryz.prog 52 #[v, .pointer (some ⟨B, 0, none⟩)] w fun e w' => e = .returned (.bool (codesF l (numOf k)).2) ∧ CodesInv w0 B m (codesF l (numOf k)).1 w' ∧ Keeps ⟨B, 0, none⟩ w w' := by
  obtain ⟨hg, hlm, u, hb, ho⟩ := hi
  have hlt := (Array.getElem?_eq_some_iff.1 hb).1
  have NC := Lib.hid (number_any hS v k hk hg)
  have HG0 := Lib.hid hg
  have HB0 := Lib.hid hb
  have HO0 := Lib.hid ho
  have hc : ∀ gx, (w.plus gx).cell? ⟨B, 0, none⟩ = some u := fun gx => (World.own_cell (Grew.heap ((Grew.refl w).plus gx) hb) 0 _ rfl).1
  have hne : u.ownBlock ≠ some B := by
    rcases ho.2 with ⟨rfl, _⟩ | ⟨g, cap, cur, rfl, hb', _⟩
    · simp [Value.ownBlock]
    · simp [Value.ownBlock]; omega
  clear hg hb hk hS ho
  generalize numOf k = n at *
  by_cases h0 : n = 0
  · subst h0
    go_enter Tryz.func52, Tryz.ntmps52
    go_wp2_with (go_at_call 50; refine NC.out.mono ?_; rintro e w' ⟨rfl, gx, rfl⟩)
    go_ret
    exact ⟨rfl, ⟨HG0.out.plus gx, by simp [codesF]; omega, u, Grew.heap ((Grew.refl w).plus gx) HB0.out, HO0.out.grew ((Grew.refl w).plus gx)⟩, Keeps.of_grew ((Grew.refl w).plus gx) hlt⟩
  · have hn : ((n : Int) = 0) = False := by simp [h0]
    go_enter Tryz.func52, Tryz.ntmps52
    go_wp2_with (first | (go_at_call 50; refine NC.out.mono ?_; rintro e w' ⟨rfl, gx, rfl⟩) | (at_builtin; go_loud (refine wpList_app (by rfl) _ _ 31 (by rfl) elInt (B + 1) u l.length (nats l) (by rfl) ((HO0.out.grew ((Grew.refl w).plus gx)).grew ((Grew.refl _).alloc _)) _ 1 1 #[.int .i64 n] 3 (by rfl) (heap_alloc_at _ _ _ (by simp [go_sem])) (by rfl) (by intro u hu; simp at hu; subst hu; rfl) (by omega) (by omega) (by unfold maxLen; omega) w0 ((HG0.out.plus gx).alloc _) (by omega) (by simp [go_sem]; omega) ?_); intro g c2 w2 hg2 hown2 hkeep2 hsz2 hat2; have hB2 := World.kept_block hkeep2 (Grew.heap (((Grew.refl w).plus gx).alloc _) HB0.out) hne; have HB2 := Lib.hid hB2; have hc2 := (World.own_cell hB2 0 _ rfl).1; have hf2 := (World.own_cell hB2 0 _ rfl).2; have HK2 := Lib.hid hkeep2; have HO2 := Lib.hid hown2; have HG2 := Lib.hid hg2; clear hB2 hkeep2 hown2 hg2))
    go_ret
    have hW := ((Grew.refl w).plus gx).alloc (.cells #[.int .i64 n] 3)
    have hWs := hW.size
    have hgB : g ≠ B := by
      rcases hat2 with h | h
      · rintro rfl; exact hne h
      · omega
    have hb3 := World.own_setCell (i := 0) HB2.out (.slice (some ⟨g, 0, none⟩) (l.length + 1) c2)
    refine ⟨by simp [codesF], ⟨HG2.out.setCell hB _, ?_, .slice (some ⟨g, 0, none⟩) (l.length + 1) c2, hb3, ?_⟩, ?_, fun q hq hm => ?_⟩
    · simp [codesF, h0]; omega
    · have := HO2.out.setOther (q := B) (i := 0) (by simp [Value.ownBlock, hgB]) (.slice (some ⟨g, 0, none⟩) (l.length + 1) c2)
      simpa [codesF, h0, nats] using this
    · rw [World.setCell_size]; omega
    · have hqB : q ≠ B := fun e => hm (.inl e)
      have hqu : u.ownBlock ≠ some q := fun e => hm (.inr ⟨u, World.own_cell1 HB0.out, e⟩)
      refine ⟨?_, fun hm' => ?_⟩
      · rw [World.block_setCell _ _ _ _ hqB, HK2.out q (by omega) (fun e => hqu e.symm), hW.block q hq]
      · rcases mine_one hb3 hm' with e | e
        · exact hqB e
        · simp only [Value.ownBlock, Option.some.injEq] at e
          subst e
          rcases hat2 with h | h
          · exact hqu h
          · omega

set_option maxHeartbeats 2000000 in
/-- Code of an error. -/
theorem code_any {S : Nat → Addr} {w : World} (hS : Sents S w) {e : Err} {v : Value} (he : ErrAt S w e v) (hs : e.size ≤ 1000000000000) :
    Calls Tryz.prog 19 #[v] w fun x w' => x = .returned (.int .i64 e.code) ∧ Grew w w' := by
  by_cases h0 : e = .none
  · subst h0
    obtain rfl := he.nil_iff.2 rfl
    go_enter Tryz.func19, Tryz.ntmps19
    go_wp2_with fail
    go_ret
    exact ⟨rfl, by repeat (first | with_reducible exact HG.out | with_reducible exact Grew.refl _ | with_reducible assumption | with_reducible apply Grew.plus | with_reducible apply Grew.drewN | with_reducible apply Grew.drew | with_reducible apply Grew.alloc | with_reducible refine Grew.setCell ?_ (by simp [go_sem]; try omega) _)⟩
  · have hc : (e.code : Int) = (e.walk codeF 99).1 := by cases e <;> first | exact absurd rfl h0 | rfl
    have hv : ∃ t u, v = .iface t u := by cases he <;> first | exact absurd rfl h0 | exact ⟨_, _, rfl⟩
    obtain ⟨t, u, rfl⟩ := hv
    have hin := fun v' w' => (Go.MuLone.run_callFunc_enter (P := Tryz.prog) (f := 49) Tryz.func49 (by kernel_rfl) rfl #[v', .pointer (some ⟨w.heap.size, 0, none⟩)] w')
    have T := Lib.hid (through_any 49 ⟨w.heap.size, 0, none⟩ codeF (CodeInv w w.heap.size)
      (fun m s w1 w2 h hg => ⟨h.1.trans hg, Grew.heap hg h.2⟩) (fun m s w1 h => h.1)
      (fun m s w1 h k hk => by rcases mine_one h.2 hk with rfl | e; exact (Array.getElem?_eq_some_iff.1 h.2).1; cases e)
      (fun m m' s w1 _ h => h) hin
      (fun v' k m s w1 hk _ hi => code1_any hS _ (Nat.le_refl _) v' k m s w1 hk hi) hS he 0 99)
    have HC := Lib.hid hc
    clear hc hin
    go_enter Tryz.func19, Tryz.ntmps19
    go_wp2_with (go_at_call 48; refine (T.out _ ⟨by repeat (first | with_reducible exact HG.out | with_reducible exact Grew.refl _ | with_reducible assumption | with_reducible apply Grew.plus | with_reducible apply Grew.drewN | with_reducible apply Grew.drew | with_reducible apply Grew.alloc | with_reducible refine Grew.setCell ?_ (by simp [go_sem]; try omega) _), heap_alloc_new w _⟩).mono ?_; rintro x w' ⟨rfl, hci, _⟩; have hc2 := (World.own_cell hci.2 0 _ rfl).1; have HCI := Lib.hid hci; clear hci)
    go_ret
    exact ⟨by rw [HC.out]; rfl, HCI.out.1⟩

set_option maxHeartbeats 2000000 in
/-- Codes of an error: a list of the caller's own. -/
theorem codes_any {S : Nat → Addr} {w : World} (hS : Sents S w) {e : Err} {v : Value} (he : ErrAt S w e v) (hs : e.size ≤ 1000000000000) :
    Calls Tryz.prog 23 #[v] w fun x w' => ∃ s, x = .returned s ∧ w'.ownsRow w.heap.size 3 1 s e.codes.length (nats e.codes) ∧ Grew w w' := by
  have hin := fun v' w' => (Go.MuLone.run_callFunc_enter (P := Tryz.prog) (f := 52) Tryz.func52 (by kernel_rfl) rfl #[v', .pointer (some ⟨w.heap.size, 0, none⟩)] w')
  have T := Lib.hid (through_any 52 ⟨w.heap.size, 0, none⟩ codesF (CodesInv w w.heap.size)
    (fun m s w1 w2 h hg => ⟨h.1.trans hg, h.2.1, by obtain ⟨u, h1, h2⟩ := h.2.2; exact ⟨u, Grew.heap hg h1, h2.grew hg⟩⟩) (fun m s w1 h => h.1)
    (fun m s w1 h k hk => by
      obtain ⟨u, h1, h2⟩ := h.2.2
      rcases mine_one h1 hk with rfl | e
      · exact (Array.getElem?_eq_some_iff.1 h1).1
      · exact (h2.lt k e).2)
    (fun m m' s w1 hm h => ⟨h.1, by have := h.2.1; omega, h.2.2⟩) hin
    (fun v' k m s w1 hk _ hi => codes1_any hS _ (Nat.le_refl _) v' k m s w1 hk hi) hS he 0 [])
  clear hin
  go_enter Tryz.func23, Tryz.ntmps23
  go_wp2_with (go_at_call 48; refine (T.out _ ⟨by repeat (first | with_reducible exact HG.out | with_reducible exact Grew.refl _ | with_reducible assumption | with_reducible apply Grew.plus | with_reducible apply Grew.drewN | with_reducible apply Grew.drew | with_reducible apply Grew.alloc | with_reducible refine Grew.setCell ?_ (by simp [go_sem]; try omega) _), by simpa using hs, _, heap_alloc_new w _, ⟨rfl, .inl ⟨rfl, rfl⟩⟩⟩).mono ?_; rintro x w' ⟨rfl, hci, _⟩; obtain ⟨hg1, _, u1, hb1, ho1⟩ := hci; have hc2 := (World.own_cell hb1 0 _ rfl).1; have HG1 := Lib.hid hg1; have HO1 := Lib.hid ho1; clear hg1 ho1 hb1)
  go_ret
  exact ⟨u1, rfl, HO1.out.low (by omega), HG1.out⟩
end Go.Proofs.YthekgpchjonboaaGreatDoor
