/- An error as a tree, and where it lies: a reason, a refusal around an error, several errors. The walk through it. -/
import Derived.Test.YthekgpchjonboaaGreatDoorFaultA

namespace Go.Proofs.YthekgpchjonboaaGreatDoor
open Go.RowKit
set_option linter.unusedSimpArgs false
set_option linter.unusedVariables false

inductive Err where
  | none
  | reason (c : Nat)
  | fault (l c : ByteArray) (i : Int) (e : Err)
  | many (es : List Err)

mutual
/-- The walk: a step per node, which is told the node's number, and says whether to go on. -/
def Err.walk {σ : Type} (f : σ → Nat → σ × Bool) : Err → σ → σ × Bool
  | .none, s => (s, true)
  | .reason c, s => f s (numOf c)
  | .fault _ _ _ e, s => if (f s 0).2 then e.walk f (f s 0).1 else ((f s 0).1, false)
  | .many es, s => if (f s 0).2 then Err.walkL f es (f s 0).1 else ((f s 0).1, false)
def Err.walkL {σ : Type} (f : σ → Nat → σ × Bool) : List Err → σ → σ × Bool
  | [], s => (s, true)
  | e :: es, s => if (e.walk f s).2 then Err.walkL f es (e.walk f s).1 else ((e.walk f s).1, false)
end

mutual
/-- How many nodes. -/
def Err.size : Err → Nat
  | .none => 0
  | .reason _ => 1
  | .fault _ _ _ e => e.size + 1
  | .many es => Err.sizeL es + 1
def Err.sizeL : List Err → Nat
  | [] => 0
  | e :: es => e.size + Err.sizeL es
end

/-- An error's value, in a world that holds the tree. -/
inductive ErrAt (S : Nat → Addr) (w : World) : Err → Value → Prop
  | none : ErrAt S w .none .nilIface
  | reason (c : Nat) : 1 ≤ c → c ≤ 14 → ErrAt S w (.reason c) (errV (S c))
  | fault {l c : ByteArray} {i : Int} {e : Err} {v : Value} {b : Nat} : w.heap[b]? = some (.cells #[.string l, .string c, .int .i64 i, v] 120 (0, 0)) → ErrAt S w e v → ErrAt S w (.fault l c i e) (faultV ⟨b, 0, none⟩)
  | many {b cap : Nat} {a : Option Addr} {es : List Err} {vs : List Value} : w.heap[b]? = some (.cells #[.slice a es.length cap] 205 (0, 0)) → CellsIn w a vs → (a = Option.none → vs.length = 0 ∧ cap = 0) → vs.length = es.length → es.length ≤ 1000000000000 → (∀ u ∈ vs, u.oneCell' = true) →
      (∀ (i : Nat) e v, es[i]? = some e → vs[i]? = some v → ErrAt S w e v) → ErrAt S w (.many es) (manyV ⟨b, 0, none⟩)

theorem Grew.heap {w w' : World} (h : Grew w w') {b : Nat} {o : Obj} (hb : w.heap[b]? = some o) : w'.heap[b]? = some o := by
  rw [h.block b (Array.getElem?_eq_some_iff.1 hb).1]; exact hb

theorem ErrAt.grew {S : Nat → Addr} {w w' : World} (g : Grew w w') {e : Err} {v : Value} (h : ErrAt S w e v) : ErrAt S w' e v := by
  induction h with
  | none => exact .none
  | reason c h0 h1 => exact .reason c h0 h1
  | fault hc _ ih => exact .fault (Grew.heap g hc) ih
  | many hc hs hn hl hb h1 _ ih => exact .many (Grew.heap g hc) (hs.grew g) hn hl hb h1 ih

/-- The blocks that a closure has to itself: that of the variable that it has captured, and that of the slice in it. -/
def Mine (p : Addr) (w : World) (k : Nat) : Prop := k = p.block ∨ ∃ v, w.cell? p = some v ∧ v.ownBlock = some k
/-- All other memory stays. -/
def Keeps (p : Addr) (w w' : World) : Prop := w.heap.size ≤ w'.heap.size ∧ ∀ k, k < w.heap.size → ¬ Mine p w k → w'.heap[k]? = w.heap[k]? ∧ ¬ Mine p w' k
theorem Keeps.refl (p : Addr) (w : World) : Keeps p w w := ⟨Nat.le_refl _, fun _ _ h => ⟨rfl, h⟩⟩
theorem Keeps.trans {p : Addr} {w w' w'' : World} (h : Keeps p w w') (h' : Keeps p w' w'') : Keeps p w w'' :=
  ⟨Nat.le_trans h.1 h'.1, fun k hk hm => by
    obtain ⟨e1, m1⟩ := h.2 k hk hm
    obtain ⟨e2, m2⟩ := h'.2 k (by have := h.1; omega) m1
    exact ⟨e2.trans e1, m2⟩⟩
theorem Mine.grew {p : Addr} {w w' : World} (hg : Grew w w') (hp : p.block < w.heap.size) {k : Nat} (h : Mine p w' k) : Mine p w k := by
  rcases h with h | ⟨v, hv, ho⟩
  · exact .inl h
  · exact .inr ⟨v, by rw [← hg.cell hp]; exact hv, ho⟩
theorem Keeps.of_grew {p : Addr} {w w' : World} (hg : Grew w w') (hp : p.block < w.heap.size) : Keeps p w w' :=
  ⟨hg.size, fun k hk hm => ⟨hg.block k hk, fun h => hm (h.grew hg hp)⟩⟩
theorem _root_.Go.CellsIn.keepB {w w' : World} {a : Option Addr} {xs : List Value} (h : CellsIn w a xs) (hb : ∀ b, a = some b → b.block < w.heap.size → w'.heap[b.block]? = w.heap[b.block]?) : CellsIn w' a xs := fun hn => by
  obtain ⟨b, off, ha, hc⟩ := h hn
  refine ⟨b, off, ha, ?_⟩
  have hlt := World.cellsAt_lt hc (List.length_pos_iff.2 hn)
  rw [World.cellsAt_congr (w := w) _ _ (fun o s => World.cell?_of_block (w := w) (hb ⟨b, off, none⟩ ha hlt))]
  exact hc

theorem ErrAt.one {S : Nat → Addr} {w : World} {e : Err} {v : Value} (h : ErrAt S w e v) : v.oneCell' = true := by
  cases h <;> rfl
theorem ErrAt.nil_iff {S : Nat → Addr} {w : World} {e : Err} {v : Value} (h : ErrAt S w e v) : v = .nilIface ↔ e = .none := by
  cases h <;> simp [errV, faultV, manyV]

@[go_sem] theorem as_E_F (v : Value) (w : World) : (Instr.typeAssert (.iface 478 v) 26 118 true).run Tryz.prog w = .ok (.tuple #[.pointer none, .bool false]) w := by kernel_rfl
@[go_sem] theorem as_E_M (v : Value) (w : World) : (Instr.typeAssert (.iface 478 v) 26 165 true).run Tryz.prog w = .ok (.tuple #[.pointer none, .bool false]) w := by kernel_rfl
@[go_sem] theorem as_F_F (v : Value) (w : World) : (Instr.typeAssert (.iface 118 v) 26 118 true).run Tryz.prog w = .ok (.tuple #[v, .bool true]) w := by kernel_rfl
@[go_sem] theorem as_F_M (v : Value) (w : World) : (Instr.typeAssert (.iface 118 v) 26 165 true).run Tryz.prog w = .ok (.tuple #[.pointer none, .bool false]) w := by kernel_rfl
@[go_sem] theorem as_M_F (v : Value) (w : World) : (Instr.typeAssert (.iface 165 v) 26 118 true).run Tryz.prog w = .ok (.tuple #[.pointer none, .bool false]) w := by kernel_rfl
@[go_sem] theorem as_M_M (v : Value) (w : World) : (Instr.typeAssert (.iface 165 v) 26 165 true).run Tryz.prog w = .ok (.tuple #[v, .bool true]) w := by kernel_rfl
@[go_sem] theorem as_N_F (w : World) : (Instr.typeAssert .nilIface 26 118 true).run Tryz.prog w = .ok (.tuple #[.pointer none, .bool false]) w := by kernel_rfl
@[go_sem] theorem as_N_M (w : World) : (Instr.typeAssert .nilIface 26 165 true).run Tryz.prog w = .ok (.tuple #[.pointer none, .bool false]) w := by kernel_rfl

theorem elErr : Elem Tryz.prog 166 26 1 16 := Elem.of Tryz.underlying166 (by kernel_rfl) (by decide)

set_option maxHeartbeats 1000000 in
/-- New around an error: a new place. -/
theorem new_any (l c : ByteArray) (i : Int) (u : TypeId) (z : Value) (w : World) :
    Calls Tryz.prog 14 #[.string l, .string c, .int .i64 i, .iface u z] w fun e w' => e = .returned (faultV ⟨w.heap.size, 0, none⟩) ∧ w' = w.alloc (.cells #[.string l, .string c, .int .i64 (max i (-1)), .iface u z] 120) := by
  go_enter Tryz.func14, Tryz.ntmps14
  go_wp2_with fail
  go_ret
  exact ⟨rfl, rfl⟩
theorem new_nil (l c : ByteArray) (i : Int) (w : World) :
    Calls Tryz.prog 14 #[.string l, .string c, .int .i64 i, .nilIface] w fun e w' => e = .returned .nilIface ∧ w' = w := by
  go_enter Tryz.func14, Tryz.ntmps14
  go_wp2_with fail
  go_ret
  exact ⟨rfl, rfl⟩

theorem unwrapF_any {l c : ByteArray} {i : Int} {v : Value} {b : Nat} (w : World) (h : w.heap[b]? = some (.cells #[.string l, .string c, .int .i64 i, v] 120 (0, 0))) :
    Calls Tryz.prog 72 #[.pointer (some ⟨b, 0, none⟩)] w fun e w' => e = .returned v ∧ w' = w := by
  have h3 := (World.own_cell h 3 _ rfl).1
  go_enter Tryz.func72, Tryz.ntmps72
  go_wp2_with fail
  go_ret
  exact ⟨rfl, rfl⟩
theorem unwrapM_any {b n cap : Nat} {a : Option Addr} {vs : List Value} (w : World) (h : w.heap[b]? = some (.cells #[.slice a n cap] 205 (0, 0))) (hin : CellsIn w a vs) (hn : a = none → vs.length = 0 ∧ cap = 0) (hl : vs.length = n) (hb : n ≤ 1000000000000) (h1 : ∀ u ∈ vs, u.oneCell' = true) :
    Calls Tryz.prog 73 #[.pointer (some ⟨b, 0, none⟩)] w fun e w' => ∃ ar cp, e = .returned (.slice ar n cp) ∧ CellsIn w' ar vs ∧ Grew w w' ∧ ∀ q, ar = some q → w.heap.size ≤ q.block := by
  have h0 := (World.own_cell h 0 _ rfl).1
  have HN := Lib.hid hn
  have HI := Lib.hid hin
  have H1 := Lib.hid h1
  clear hn hin h1
  go_enter Tryz.func73, Tryz.ntmps73
  go_wp2_with (at_builtin; go_loud (refine wpList_apps (by rfl) _ _ 166 (by rfl) elErr w.heap.size _ 0 [] (by rfl) ⟨rfl, .inl ⟨rfl, rfl⟩⟩ a n cap vs (by rfl) HI.out (by rw [hl]; omega) H1.out (fun h => by have := HN.out h; omega) (by omega) (by unfold maxLen; omega) w (Grew.refl w) (Nat.le_refl _) (Nat.le_refl _) ?_); intro ar cp w1 hg1 hown1 hkeep hsz1; simp only [Nat.zero_add, List.nil_append] at hown1; have HO1 := Lib.hid hown1; have HG1 := Lib.hid hg1; clear hown1 hg1 hkeep)
  go_ret
  simp only [Nat.zero_add]
  obtain ⟨ar', cp', e', _, _, _, hfr, _⟩ := HO1.out.rd
  cases e'
  exact ⟨ar, cp, rfl, HO1.out.cin, HG1.out, fun q hq => (hfr q hq).1⟩
theorem link_any {l c : ByteArray} {i : Int} {v : Value} {b : Nat} (w0 w : World) (hg : Grew w0 w) (h : w0.heap[b]? = some (.cells #[.string l, .string c, .int .i64 i, v] 120 (0, 0))) :
    Calls Tryz.prog 75 #[.pointer (some ⟨b, 0, none⟩)] w fun e w' => e = .returned (.agg #[.string l, .string c, .int .i64 i]) ∧ Grew w w' := by
  have hh := fun (o : Obj) (gx : More) => Grew.heap ((hg.alloc o).plus gx) h
  have h0 : ∀ (o : Obj) (gx : More), ((w.alloc o).plus gx).cell? ⟨b, 0, none⟩ = some (.string l) := fun o gx => (World.own_cell (hh o gx) 0 _ rfl).1
  have h1 : ∀ (o : Obj) (gx : More), ((w.alloc o).plus gx).cell? ⟨b, 1, none⟩ = some (.string c) := fun o gx => (World.own_cell (hh o gx) 1 _ rfl).1
  have h2 : ∀ (o : Obj) (gx : More), ((w.alloc o).plus gx).cell? ⟨b, 2, none⟩ = some (.int .i64 i) := fun o gx => (World.own_cell (hh o gx) 2 _ rfl).1
  clear h hg hh
  go_enter Tryz.func75, Tryz.ntmps75
  go_wp2_with fail
  refine wp_region_plus_tail 13 (by kernel_rfl) (by kernel_rfl) ?_
  simp only [List.take_succ_cons, List.take_zero, List.drop_succ_cons, List.drop_zero]
  repeat (go_big_quiet_step ((first | fail)))
  refine wpQuiet_nil ?_
  intro _ hw'
  obtain ⟨nx, rfl⟩ := hw'
  go_wp2_with fail
  exact bodyPost_ret (v := .agg #[.string l, .string c, .int .i64 i]) (by simp [results, Tryz.results75, go_sem]) rfl ⟨rfl, by repeat (first | with_reducible exact HG.out | with_reducible exact Grew.refl _ | with_reducible assumption | with_reducible apply Grew.plus | with_reducible apply Grew.drewN | with_reducible apply Grew.drew | with_reducible apply Grew.alloc | with_reducible refine Grew.setCell ?_ (by simp [go_sem]; try omega) _)⟩
set_option maxRecDepth 100000 in
set_option maxHeartbeats 4000000 in
/-- The walk through an error, by what a step does to a state that the worlds carry. -/
theorem through_any {S : Nat → Addr} {w0 : World} {σ : Type} (fn : Nat) (p : Addr) (f : σ → Nat → σ × Bool) (Inv : Nat → σ → World → Prop) (hI : ∀ m s w w', Inv m s w → Grew w w' → Inv m s w') (hG : ∀ m s w, Inv m s w → Grew w0 w) (hM : ∀ m s w, Inv m s w → ∀ k, Mine p w k → k < w.heap.size) (hD : ∀ m m' s w, m' ≤ m → Inv m s w → Inv m' s w)
    (hfn : ∀ v w, (callFunc fn #[v, .pointer (some p)]).run Tryz.prog w = .ok (.enter fn #[v, .pointer (some p)]) w)
    (hcl : ∀ v k m s w, IsNum S w0 v k → v.oneCell' = true → Inv (m + 1) s w → Calls Tryz.prog fn #[v, .pointer (some p)] w fun e w' => e = .returned (.bool (f s (numOf k)).2) ∧ Inv m (f s (numOf k)).1 w' ∧ Keeps p w w') (hS : Sents S w0)
    {e : Err} {v : Value} (he : ErrAt S w0 e v) : ∀ m s w, Inv (e.size + m) s w → Calls Tryz.prog 48 #[v, .func (.func fn) #[] #[.pointer (some p)]] w fun x w' => x = .returned (.bool (e.walk f s).2) ∧ Inv m (e.walk f s).1 w' ∧ Keeps p w w' := by
  have HI := Lib.hid hI
  have HGW := Lib.hid hG
  have HM := Lib.hid hM
  have HD := Lib.hid hD
  have HC := Lib.hid hcl
  have HS := Lib.hid hS
  clear hI hG hM hD hcl hS
  induction he with
  | none =>
    intro m s w hi
    rw [Err.size, Nat.zero_add] at hi
    have HV := Lib.hid hi
    clear hi
    go_enter Tryz.func48, Tryz.ntmps48
    go_wp2_with fail
    go_ret
    exact ⟨rfl, HV.out, Keeps.refl _ _⟩
  | reason c h0 h1 =>
    intro m s w hi
    rw [Err.size, Nat.add_comm] at hi
    have HV := Lib.hid hi
    clear hi
    have NC := Lib.hid (HC.out (errV (S c)) c m s w (isNum_reason HS.out c h0 h1) rfl HV.out)
    have hw : Err.walk f (.reason c) s = f s (numOf c) := by rw [Err.walk]
    rw [hw]
    generalize f s (numOf c) = r at *
    obtain ⟨s1, b1⟩ := r
    go_enter Tryz.func48, Tryz.ntmps48
    cases b1
    case false =>
      go_wp2_with (with_reducible (show Calls _ fn _ _ _); refine NC.out.mono ?_; rintro e w' ⟨rfl, hv, hkp⟩; have HV1 := Lib.hid hv; have HK1 := Lib.hid hkp; clear hv hkp)
      go_ret
      exact ⟨rfl, HV1.out, HK1.out⟩
    case true =>
      go_wp2_with (with_reducible (show Calls _ fn _ _ _); refine NC.out.mono ?_; rintro e w' ⟨rfl, hv, hkp⟩; have HV1 := Lib.hid hv; have HK1 := Lib.hid hkp; clear hv hkp)
      go_ret
      exact ⟨rfl, HV1.out, HK1.out⟩
  | @fault l c i e v b hc ht ih =>
    intro m s w hi
    rw [Err.size, Nat.add_right_comm] at hi
    have HV := Lib.hid hi
    clear hi
    have NC := Lib.hid (HC.out (faultV ⟨b, 0, none⟩) 0 (e.size + m) s w (isNum_other _ _ (by decide)) rfl HV.out)
    rw [Err.walk]
    rw [show numOf 0 = 0 from rfl] at NC
    generalize f s 0 = r at *
    obtain ⟨s1, b1⟩ := r
    go_enter Tryz.func48, Tryz.ntmps48
    cases b1
    case false =>
      go_wp2_with (with_reducible (show Calls _ fn _ _ _); refine NC.out.mono ?_; rintro e w' ⟨rfl, hv, hkp⟩; have HV1 := Lib.hid hv; have HK1 := Lib.hid hkp; clear hv hkp)
      go_ret
      exact ⟨rfl, HD.out _ _ _ _ (by omega) HV1.out, HK1.out⟩
    case true =>
      rw [if_pos rfl]
      go_wp2_with (first | (go_at_call 72; refine (unwrapF_any _ (Grew.heap (HGW.out _ _ _ HV1.out) hc)).mono ?_; rintro e w2 ⟨rfl, rfl⟩) | (go_at_call 48; refine (ih m s1 _ HV1.out).mono ?_; rintro e w3 ⟨rfl, hv2, hkp2⟩; have HV2 := Lib.hid hv2; have HK2 := Lib.hid hkp2; clear hv2 hkp2) | (with_reducible (show Calls _ fn _ _ _); refine NC.out.mono ?_; rintro e w' ⟨rfl, hv, hkp⟩; have HV1 := Lib.hid hv; have HK1 := Lib.hid hkp; clear hv hkp))
      go_ret
      exact ⟨rfl, HV2.out, HK1.out.trans HK2.out⟩
  | @many b cap a es vs hc hin hn hl hb h1 hk ih =>
    intro m s w hi
    rw [Err.size, Nat.add_right_comm] at hi
    have HV := Lib.hid hi
    clear hi
    have NC := Lib.hid (HC.out (manyV ⟨b, 0, none⟩) 0 (Err.sizeL es + m) s w (isNum_other _ _ (by decide)) rfl HV.out)
    rw [Err.walk]
    rw [show numOf 0 = 0 from rfl] at NC
    generalize f s 0 = r at *
    obtain ⟨s1, b1⟩ := r
    have HIN := Lib.hid hin
    have HN := Lib.hid hn
    have H1 := Lib.hid h1
    have IH := Lib.hid ih
    have HK := Lib.hid hk
    clear hin hn h1 ih hk
    cases b1
    case false =>
      go_enter Tryz.func48, Tryz.ntmps48
      go_wp2_with (with_reducible (show Calls _ fn _ _ _); refine NC.out.mono ?_; rintro e w' ⟨rfl, hv, hkp⟩; have HV1 := Lib.hid hv; have HK1 := Lib.hid hkp; clear hv hkp)
      go_ret
      exact ⟨rfl, HD.out _ _ _ _ (by omega) HV1.out, HK1.out⟩
    case true =>
      rw [if_pos rfl]
      simp only []
      generalize hr : Err.walkL f es s1 = rr
      obtain ⟨sr, br⟩ := rr
      have HR := Lib.hid hr
      clear hr
      go_enter Tryz.func48, Tryz.ntmps48
      go_wp2_with (first | (go_at_call 73; refine (unwrapM_any _ (Grew.heap (HGW.out _ _ _ HV1.out) hc) (HIN.out.grew (HGW.out _ _ _ HV1.out)) HN.out hl hb H1.out).mono ?_; rintro e w2 ⟨ar, cp, rfl, hin2, hg2, hfr2⟩; have HI2 := Lib.hid hin2; have HG2 := Lib.hid hg2; have HF2 := Lib.hid hfr2; clear hin2 hg2 hfr2) | (with_reducible (show Calls _ fn _ _ _); refine NC.out.mono ?_; rintro e w' ⟨rfl, hv, hkp⟩; have HV1 := Lib.hid hv; have HK1 := Lib.hid hkp; clear hv hkp))
      go_loopg [29] es.length (fun g s29 wr => ∃ i : Nat, ∃ si : σ, i ≤ es.length ∧ s29 = .int .i64 i ∧ g = es.length - i ∧ Err.walkL f (es.drop i) si = (sr, br) ∧ Inv (Err.sizeL (es.drop i) + m) si wr ∧ CellsIn wr ar vs ∧ Keeps p w wr ∧ ∀ q, ar = some q → ¬ Mine p wr q.block)
      case atStart => exact ⟨0, s1, by omega, rfl, by omega, by rw [List.drop_zero]; exact HR.out, by rw [List.drop_zero]; exact HI.out _ _ _ _ HV1.out HG2.out, HI2.out, HK1.out.trans (Keeps.of_grew HG2.out (HM.out _ _ _ HV1.out _ (.inl rfl))), fun q hq hm => by have h1 := HM.out _ _ _ HV1.out _ (hm.grew HG2.out (HM.out _ _ _ HV1.out _ (.inl rfl))); have h2 := HF2.out q hq; omega⟩
      case round =>
        obtain ⟨i, si, hi, rfl, hgm, hwk, hiv, hcin, hkp, hnm⟩ := hrel
        have HGM := Lib.hid hgm
        have HVI := Lib.hid hiv
        have HCI := Lib.hid hcin
        have HKP := Lib.hid hkp
        have HNM := Lib.hid hnm
        clear hgm hiv hcin hkp hnm
        by_cases hlt : i < es.length
        · have hlv : i < vs.length := by omega
          obtain ⟨bq, off, rfl, hbq, hcell⟩ := HCI.out.at' (by omega)
          have hci := hcell i hlv
          clear hcell
          rw [List.drop_eq_getElem_cons hlt, Err.walkL] at hwk
          have hv0 := HVI.out
          rw [List.drop_eq_getElem_cons hlt, Err.sizeL, Nat.add_assoc] at hv0
          have NC2 := Lib.hid (IH.out i es[i] vs[i] (List.getElem?_eq_getElem hlt) (List.getElem?_eq_getElem hlv) (Err.sizeL (es.drop (i + 1)) + m) si wr hv0)
          clear hv0
          generalize hvi : vs[i] = vi at *
          generalize hei : es[i] = ei at *
          generalize Err.walk f ei si = ri at *
          obtain ⟨s', b'⟩ := ri
          cases b'
          case false =>
            simp only [Bool.false_eq_true, if_false, Prod.mk.injEq] at hwk
            obtain ⟨rfl, rfl⟩ := hwk
            go_wp2_with (go_at_call 48; refine NC2.out.mono ?_; rintro e w3 ⟨rfl, hv3, hk3⟩; have HV3 := Lib.hid hv3; have HK3 := Lib.hid hk3; clear hv3 hk3)
            go_ret
            exact ⟨rfl, HD.out _ _ _ _ (by omega) HV3.out, HKP.out.trans HK3.out⟩
          case true =>
            rw [if_pos rfl] at hwk
            have HWK := Lib.hid hwk
            clear hwk
            go_wp2_with (go_at_call 48; refine NC2.out.mono ?_; rintro e w3 ⟨rfl, hv3, hk3⟩; have HV3 := Lib.hid hv3; have HK3 := Lib.hid hk3; clear hv3 hk3)
            go_roundg (es.length - (i + 1))
            case measure => rw [HGM.out]; omega
            case rel => exact ⟨i + 1, s', by omega, by go_num, rfl, HWK.out, HV3.out, HCI.out.keepB (fun q hq hlt => (HK3.out.2 _ hlt (HNM.out q hq)).1), HKP.out.trans HK3.out, fun q hq => by cases hq; exact (HK3.out.2 _ hbq (HNM.out _ rfl)).2⟩
        · obtain rfl : i = es.length := by omega
          rw [List.drop_length, Err.walkL] at hwk
          simp only [Prod.mk.injEq] at hwk
          obtain ⟨rfl, rfl⟩ := hwk
          go_wp2_with fail
          go_ret
          exact ⟨rfl, HD.out _ _ _ _ (by omega) HVI.out, HKP.out⟩
end Go.Proofs.YthekgpchjonboaaGreatDoor
