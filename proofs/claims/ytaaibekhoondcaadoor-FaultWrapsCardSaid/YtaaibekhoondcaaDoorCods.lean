/- Walks: Codes and Has, the document's. -/
import Derived.Test.YtaaibekhoondcaaDoorRJoin
import Derived.Test.YtaaibekhoondcaaDoorErrC
namespace Go.Proofs.YtaaibekhoondcaaDoor
open Go.RowKit
set_option linter.unusedSimpArgs false
set_option linter.unusedVariables false

mutual
/-- The numbers of the reasons, by the document. -/
def Err.cods : Err → List Nat
  | .none => []
  | .reason c => if c ≤ 13 then [c] else []
  | .fault _ _ _ e => e.cods
  | .many es => Err.codsL es
def Err.codsL : List Err → List Nat
  | [] => []
  | e :: es => e.cods ++ Err.codsL es
end
theorem codsL_append : ∀ (a b : List Err), Err.codsL (a ++ b) = Err.codsL a ++ Err.codsL b
  | [], b => by simp [Err.codsL]
  | e :: a, b => by rw [List.cons_append, Err.codsL, Err.codsL, codsL_append a b, List.append_assoc]
mutual
theorem cods_len : ∀ e : Err, e.cods.length ≤ e.size
  | .none => by simp [Err.cods]
  | .reason c => by rw [Err.cods, Err.size]; split <;> simp
  | .fault _ _ _ e => by have := cods_len e; rw [Err.cods, Err.size]; omega
  | .many es => by have := codsL_len es; rw [Err.cods, Err.size]; omega
theorem codsL_len : ∀ es : List Err, (Err.codsL es).length ≤ Err.sizeL es
  | [] => by simp [Err.codsL]
  | e :: es => by have h1 := cods_len e; have h2 := codsL_len es; rw [Err.codsL, Err.sizeL, List.length_append]; omega
end
theorem nats_append (a b : List Nat) : nats (a ++ b) = nats a ++ nats b := by simp [nats]
theorem nats_len (a : List Nat) : (nats a).length = a.length := by simp [nats]
theorem nats_one (a : List Nat) : ∀ u ∈ nats a, u.oneCell' = true := by
  intro u hu
  obtain ⟨n, _, rfl⟩ := List.mem_map.1 hu
  rfl
theorem kids_cods {e : Err} {k c i : Int} {l b : ByteArray} (h : RHead e k c l b i) (hk : k ≠ 1) : e.cods = Err.codsL (kidsOf e) := by
  cases h
  · rfl
  · exact absurd rfl hk
  · simp [kidsOf, Err.cods, Err.codsL]
  · rfl
theorem kid_size {e : Err} {j : Nat} {t : Err} (h : (kidsOf e)[j]? = some t) : t.size < e.size := by
  cases e with
  | none => simp [kidsOf] at h
  | reason c => simp [kidsOf] at h
  | fault l b i e =>
    cases j with
    | zero => simp [kidsOf] at h; subst h; rw [Err.size]; omega
    | succ n => simp [kidsOf] at h
  | many es =>
    have key : ∀ (es : List Err) (j : Nat), es[j]? = some t → t.size ≤ Err.sizeL es := by
      intro es
      induction es with
      | nil => intro j h; simp at h
      | cons e es ih =>
        intro j h
        rw [Err.sizeL]
        cases j with
        | zero => simp at h; subst h; omega
        | succ n => have := ih n (by simpa using h); omega
    have := key es j h
    rw [Err.size]; omega
theorem kids_size (e : Err) : Err.sizeL (kidsOf e) ≤ e.size := by
  cases e <;> simp [kidsOf, Err.sizeL, Err.size]
theorem sizeL_take : ∀ (l : List Err) (j : Nat), Err.sizeL (l.take j) ≤ Err.sizeL l
  | [], j => by simp
  | e :: l, 0 => by simp [Err.sizeL]
  | e :: l, j + 1 => by have := sizeL_take l j; rw [List.take_succ_cons, Err.sizeL, Err.sizeL]; omega
theorem kgrew {w w' : World} (g : Grew w w') {q : Nat} {o : Obj} (h : w.heap[q]? = some o) : w'.heap[q]? = some o := Grew.heap g h

set_option maxRecDepth 100000 in
set_option maxHeartbeats 4000000 in
theorem rcodes_any : ∀ (n : Nat) (e : Err) (cs : List Value) (U : Nat → Prop) (w : World), e.size ≤ n → e.size ≤ 1000000 → RIn w U e cs →
    Calls Tryd.prog 66 #[.agg ⟨cs⟩] w fun x w' => ∃ v, x = .returned v ∧ w'.ownsRow w.heap.size 3 1 v e.cods.length (nats e.cods) ∧ Grew w w' := by
  intro n
  induction n with
  | zero =>
    intro e cs U w hn hm h
    have hH := Lib.hid h
    cases h with
    | @mk e k c i l b ad cap rows hd hrl hlc hcm hno hrows hkids =>
    have hk0 : k = 0 ∧ e = .none := by cases hd <;> first | exact ⟨rfl, rfl⟩ | (simp [Err.size] at hn)
    obtain ⟨rfl, rfl⟩ := hk0
    have hr0 : rows.length = 0 := by simpa [kidsOf] using hrl
    rw [hr0]
    go_enter Tryd.func66, Tryd.ntmps66
    go_wp2_with fail
    refine wp_loop_rounds 1 ?_
    rw [rounds_succ]
    go_wp2_with fail
    go_ret
    exact ⟨_, rfl, World.ownsRow_nil _ _ _ _, by repeat (first | with_reducible exact HG.out | with_reducible exact Grew.refl _ | with_reducible assumption | with_reducible apply Grew.plus | with_reducible apply Grew.drewN | with_reducible apply Grew.drew | with_reducible apply Grew.alloc | with_reducible refine Grew.setCell ?_ (by simp [go_sem]; try omega) _)⟩
  | succ n ih =>
    intro e cs U w hn hm h
    have IH := Lib.hid ih
    clear ih
    cases h with
    | @mk e k c i l b ad cap rows hd hrl hlc hcm hno hrows hkids =>
    have HROW := Lib.hid hrows
    have HKID := Lib.hid hkids
    clear hrows hkids hno
    by_cases hk1 : k = 1
    · subst hk1
      cases hd with
      | reason c h0 h1 =>
      have hr0 : rows.length = 0 := by simpa [kidsOf] using hrl
      rw [hr0] at *
      by_cases h13 : c ≤ 13
      · have hcI : codeI c = c := by unfold codeI; rw [if_neg (by omega)]
        have hcc : (Err.reason c).cods = [c] := by rw [Err.cods, if_pos h13]
        rw [hcc, hcI]
        have hne : ((c : Int) == 99) = false := by rw [beq_eq_false_iff_ne]; omega
        go_enter Tryd.func66, Tryd.ntmps66
        go_wp2_with fail
        go_ret
        exact ⟨_, rfl, ⟨rfl, .inr ⟨w.heap.size + 1, 1, #[.int .i64 c], rfl, by omega, heap_alloc_at _ _ _ (by simp [go_sem]), Nat.le_refl _, by decide, rfl, rfl⟩⟩, by repeat (first | with_reducible exact HG.out | with_reducible exact Grew.refl _ | with_reducible assumption | with_reducible apply Grew.plus | with_reducible apply Grew.drewN | with_reducible apply Grew.drew | with_reducible apply Grew.alloc | with_reducible refine Grew.setCell ?_ (by simp [go_sem]; try omega) _)⟩
      · have hc14 : c = 14 := by omega
        subst hc14
        have hcI : codeI 14 = 99 := rfl
        have hcc : (Err.reason 14).cods = [] := by rw [Err.cods, if_neg (by omega)]
        rw [hcc, hcI]
        go_enter Tryd.func66, Tryd.ntmps66
        go_wp2_with fail
        go_ret
        exact ⟨_, rfl, World.ownsRow_nil _ _ _ _, by repeat (first | with_reducible exact HG.out | with_reducible exact Grew.refl _ | with_reducible assumption | with_reducible apply Grew.plus | with_reducible apply Grew.drewN | with_reducible apply Grew.drew | with_reducible apply Grew.alloc | with_reducible refine Grew.setCell ?_ (by simp [go_sem]; try omega) _)⟩
    · have hcs := kids_cods hd hk1
      have hks := kids_size e
      have hk1' : (k == 1) = false := by simpa using hk1
      rw [hcs]
      have hkb : 0 ≤ k ∧ k < 4 := by cases hd <;> omega
      generalize hkk : kidsOf e = kids at *
      have HKS := Lib.hid (fun (j : Nat) (t : Err) (h : kids[j]? = some t) => (show t.size < e.size by rw [← hkk] at h; exact kid_size h))
      have HKB := Lib.hid (fun (j : Nat) => (show (Err.codsL (kids.take j)).length ≤ 1000000 by have := codsL_len (kids.take j); have := sizeL_take kids j; omega))
      rw [hrl] at hlc ⊢
      have HRL := Lib.hid hrl
      clear hkk hcs hd hks hrl
      go_enter Tryd.func66, Tryd.ntmps66
      go_wp2_with fail
      go_loopw [3, 4] (fun s3 s4 wr => ∃ (j : Nat) (va : Option Addr) (vc m : Nat), j ≤ kids.length ∧ s4 = .int .i64 j ∧ s3 = .slice va m vc ∧ m = (Err.codsL (kids.take j)).length ∧ wr.ownsRow (w.heap.size + 1) 3 1 (.slice va m vc) m (nats (Err.codsL (kids.take j))) ∧ wr.heap[w.heap.size]? = some (.cells #[.int .i64 k, .int .i64 c, .string l, .string b, .int .i64 i, .slice ad kids.length cap] 66 (0, 0)) ∧ Grew w wr) (fun _ i _ => kids.length - (intOf i).toNat)
      case atStart => exact ⟨0, none, 0, 0, by omega, rfl, rfl, by simp [Err.codsL], World.ownsRow_nil _ _ _ _, heap_alloc_at _ _ _ rfl, by repeat (first | with_reducible exact HG.out | with_reducible exact Grew.refl _ | with_reducible assumption | with_reducible apply Grew.plus | with_reducible apply Grew.drewN | with_reducible apply Grew.drew | with_reducible apply Grew.alloc | with_reducible refine Grew.setCell ?_ (by simp [go_sem]; try omega) _)⟩
      case round =>
        obtain ⟨j, va, vc, m, hj, rfl, rfl, hm1, hown, hbx, hg⟩ := hrel
        have HG := Lib.hid hg
        have HO := Lib.hid hown
        have HB := Lib.hid hbx
        have HM := Lib.hid hm1
        obtain ⟨⟨x0, z0⟩, ⟨x1, z1⟩, ⟨x2, z2⟩, ⟨x3, z3⟩, ⟨x4, z4⟩, ⟨x5, z5⟩⟩ := six hbx
        have hmb : m ≤ 1000000 := by rw [hm1]; exact HKB.out j
        have hsz0 := (Array.getElem?_eq_some_iff.1 hbx).1
        clear hg hown hbx hm1
        by_cases hlt : j < kids.length
        · obtain ⟨t, ht⟩ : ∃ t, kids[j]? = some t := ⟨kids[j], List.getElem?_eq_getElem hlt⟩
          obtain ⟨row, hrow⟩ : ∃ row, rows[j]? = some row := ⟨rows[j]'(by rw [HRL.out]; exact hlt), List.getElem?_eq_getElem _⟩
          obtain ⟨bl, off, rfl, hu, hcell⟩ := HROW.out j row hrow
          have hts := HKS.out j t ht
          have hrt := HKID.out j t row ht hrow
          have hrc := cellsAt_grew HG.out hcell
          have hct : (Err.codsL (kids.take (j + 1))) = Err.codsL (kids.take j) ++ t.cods := by
            rw [List.take_add_one, ht, Option.toList_some, codsL_append]; simp [Err.codsL]
          have hmb2 : (Err.codsL (kids.take j)).length + t.cods.length ≤ 1000000 := by
            have := HKB.out (j + 1); rw [hct, List.length_append] at this; exact this
          rw [← HM.out] at hmb2
          have HCT := Lib.hid hct
          have IHC := Lib.hid (fun W (hW : Grew w W) => IH.out t row U W (by omega) (by omega) (hrt.grew hW))
          generalize hnt : t.cods.length = tn at *
          have HNT := Lib.hid hnt
          clear hct ht hrow hcell hrt hu hnt
          go_wp2_with (first
            | (go_at_call 66; refine (IHC.out _ HG.out).mono ?_; rintro x4 w4 ⟨v, rfl, ho4, hg4⟩; obtain ⟨xa, xc, rfl, hx1, hx2, hxin, _, hxno⟩ := ho4.rd; have HXIN := Lib.hid hxin; have HXNO := Lib.hid hxno; have HG4 := Lib.hid hg4; have hs4 := hg4.size; clear ho4 hg4 hxin hxno)
            | (at_builtin; go_loud (refine wpList_apps (by rfl) _ _ 51 (by rfl) elInt (w.heap.size + 1) _ m (nats (Err.codsL (kids.take j))) (by rfl) (HO.out.grew HG4.out) xa tn xc (nats t.cods) (by rfl) HXIN.out (by rw [nats_len, HNT.out]; omega) (nats_one _) HXNO.out (by omega) (by unfold maxLen; omega) w (HG.out.trans HG4.out) (Nat.le_succ _) (by omega) ?_); intro ar cp w5 hg5 hown5 hk5 hs5; rw [← nats_append, ← HCT.out] at hown5; have HO5 := Lib.hid hown5; have HG5 := Lib.hid hg5; go_loud (have HB5 := Lib.hid (World.kept_block hk5 (kgrew HG4.out HB.out) (own_ne' HO.out w.heap.size (Nat.lt_succ_self _)))); clear hown5 hg5 hk5))
          go_roundw
          case rel => exact ⟨j + 1, ar, cp, m + tn, by omega, by go_num, rfl, by rw [HCT.out, List.length_append, HNT.out, HM.out], HO5.out, HB5.out, HG5.out⟩
          case measure => simp [intOf]; omega
        · obtain rfl : j = kids.length := by omega
          rw [List.take_length] at *
          go_wp2_with fail
          go_ret
          exact ⟨_, rfl, by rw [← HM.out]; exact HO.out.low (Nat.le_succ _), by repeat (first | with_reducible exact HG.out | with_reducible exact Grew.refl _ | with_reducible assumption | with_reducible apply Grew.plus | with_reducible apply Grew.drewN | with_reducible apply Grew.drew | with_reducible apply Grew.alloc | with_reducible refine Grew.setCell ?_ (by simp [go_sem]; try omega) _)⟩
end Go.Proofs.YtaaibekhoondcaaDoor
