/- Walk: errors.Is, at a reason, of any error that lies in memory. -/
import Derived.Test.YtaaibekhoondcaaDoorCods
import Derived.Stop.Asserts
import Derived.RowKitTokens
namespace Go.Proofs.YtaaibekhoondcaaDoor
open Go.RowKit Go.Extern.Stop Go.Stop Go.Extern
set_option linter.unusedSimpArgs false
set_option linter.unusedVariables false

/- 136, 138, 140: interface{ Is(error) bool }, interface{ Unwrap() error }, interface{ Unwrap() []error } -/
theorem noIsE (v : Value) (xT : TypeId) (w : World) : (Instr.typeAssert (.iface 179 v) xT 136 true).run Tryd.prog w = .ok (.tuple #[.nilIface, .bool false]) w := run_typeAssert_lacksB Tryd.underlying136 (by kernel_rfl) (by kernel_rfl) v xT w
theorem noUnE (v : Value) (xT : TypeId) (w : World) : (Instr.typeAssert (.iface 179 v) xT 138 true).run Tryd.prog w = .ok (.tuple #[.nilIface, .bool false]) w := run_typeAssert_lacksB Tryd.underlying138 (by kernel_rfl) (by kernel_rfl) v xT w
theorem noUsE (v : Value) (xT : TypeId) (w : World) : (Instr.typeAssert (.iface 179 v) xT 140 true).run Tryd.prog w = .ok (.tuple #[.nilIface, .bool false]) w := run_typeAssert_lacksB Tryd.underlying140 (by kernel_rfl) (by kernel_rfl) v xT w
theorem noIsF (v : Value) (xT : TypeId) (w : World) : (Instr.typeAssert (.iface 104 v) xT 136 true).run Tryd.prog w = .ok (.tuple #[.nilIface, .bool false]) w := run_typeAssert_lacksB Tryd.underlying136 (by kernel_rfl) (by kernel_rfl) v xT w
theorem hasUnF (v : Value) (xT : TypeId) (w : World) : (Instr.typeAssert (.iface 104 v) xT 138 true).run Tryd.prog w = .ok (.tuple #[.iface 104 v, .bool true]) w := run_typeAssert_hasB Tryd.underlying138 (by kernel_rfl) v xT w
theorem noIsM (v : Value) (xT : TypeId) (w : World) : (Instr.typeAssert (.iface 142 v) xT 136 true).run Tryd.prog w = .ok (.tuple #[.nilIface, .bool false]) w := run_typeAssert_lacksB Tryd.underlying136 (by kernel_rfl) (by kernel_rfl) v xT w
theorem noUnM (v : Value) (xT : TypeId) (w : World) : (Instr.typeAssert (.iface 142 v) xT 138 true).run Tryd.prog w = .ok (.tuple #[.nilIface, .bool false]) w := run_typeAssert_lacksB Tryd.underlying138 (by kernel_rfl) (by kernel_rfl) v xT w
theorem hasUsM (v : Value) (xT : TypeId) (w : World) : (Instr.typeAssert (.iface 142 v) xT 140 true).run Tryd.prog w = .ok (.tuple #[.iface 142 v, .bool true]) w := run_typeAssert_hasB Tryd.underlying140 (by kernel_rfl) v xT w
theorem nilAs136 (xT : TypeId) (w : World) : (Instr.typeAssert .nilIface xT 136 true).run Tryd.prog w = .ok (.tuple #[.nilIface, .bool false]) w := by kernel_rfl
theorem nilAs138 (xT : TypeId) (w : World) : (Instr.typeAssert .nilIface xT 138 true).run Tryd.prog w = .ok (.tuple #[.nilIface, .bool false]) w := by kernel_rfl
theorem nilAs140 (xT : TypeId) (w : World) : (Instr.typeAssert .nilIface xT 140 true).run Tryd.prog w = .ok (.tuple #[.nilIface, .bool false]) w := by kernel_rfl
theorem nil_eq (w : World) (u : TypeId) (v : Value) : (binOp .eql 33 .nilIface (.iface u v)).run Tryd.prog w = .ok (.bool false) w := run_eql_iface_nil_left (P := Tryd.prog) w u v Tryd.underlying33

theorem unOfF (v : Value) (w : World) : (Go.method 310 104 v "Unwrap").run Tryd.prog w = .ok (96, v) w := by kernel_rfl
theorem unOfM (v : Value) (w : World) : (Go.method 310 142 v "Unwrap").run Tryd.prog w = .ok (91, v) w := by kernel_rfl
theorem codsL_has {es : List Err} {j k : Nat} {l : List Nat} (h : Err.codsL (es.take (j + 1)) = Err.codsL (es.take j) ++ l) (hk : l.contains k = true) : (Err.codsL es).contains k = true := by
  have : Err.codsL es = Err.codsL (es.take (j + 1)) ++ Err.codsL (es.drop (j + 1)) := by rw [← codsL_append, List.take_append_drop]
  rw [this, h]
  simp only [List.contains_iff_mem, List.mem_append] at *
  exact .inl (.inr hk)
theorem codsL_hasnt {es : List Err} {j k : Nat} {l : List Nat} (h : Err.codsL (es.take (j + 1)) = Err.codsL (es.take j) ++ l) (h1 : (Err.codsL (es.take j)).contains k = false) (hk : l.contains k = false) : (Err.codsL (es.take (j + 1))).contains k = false := by
  rw [h]
  cases hc : (Err.codsL (es.take j) ++ l).contains k
  · rfl
  · rw [List.contains_iff_mem, List.mem_append] at hc
    rcases hc with hc | hc
    · rw [← List.contains_iff_mem, h1] at hc; cases hc
    · rw [← List.contains_iff_mem, hk] at hc; cases hc
theorem cods_of_none {k : Nat} : Err.none.cods.contains k = false := rfl
theorem cods_hit {k : Nat} (h : k ≤ 13) : (Err.reason k).cods.contains k = true := by rw [Err.cods, if_pos h]; simp
theorem cods_miss {k c : Nat} (h : k ≠ c) : (Err.reason c).cods.contains k = false := by
  rw [Err.cods]; split
  · simp [h]
  · rfl
theorem cods_fault {l c : ByteArray} {i : Int} {e : Err} : (Err.fault l c i e).cods = e.cods := by rw [Err.cods]
theorem codsL_take {es : List Err} {j : Nat} {e : Err} (h : es[j]? = some e) : Err.codsL (es.take (j + 1)) = Err.codsL (es.take j) ++ e.cods := by
  rw [List.take_add_one, h, Option.toList_some, codsL_append]; simp [Err.codsL]

set_option maxRecDepth 1000000 in
set_option maxHeartbeats 4000000 in
theorem is_fault {S : Nat → Addr} {w0 : World} (k : Nat) (h0 : 1 ≤ k) (h1 : k ≤ 13) (hS : Sents S w0) : ∀ (n : Nat) (e : Err) (v : Value), e.size ≤ n → ErrAt S w0 e v → ∀ w, Grew w0 w →
    Calls Tryd.prog 65 #[v, errV (S k), .bool true] w fun x w' => x = .returned (.bool (e.cods.contains k)) ∧ Grew w w' := by
  intro n
  induction n using Nat.strongRecOn with
  | _ n ih =>
    intro e v hn he w hg
    have IH := Lib.hid ih
    have HS := Lib.hid hS
    clear ih hS
    have nE := noIsE
    have uE := noUnE
    have sE := noUsE
    have nF := noIsF
    have uF := hasUnF
    have nM := noIsM
    have uM := noUnM
    have sM := hasUsM
    have nN := nilAs136
    have uN := nilAs138
    have sN := nilAs140
    have eN := nil_eq
    have mF := unOfF
    have mM := unOfM
    go_enter Tryd.func65, Tryd.ntmps65
    go_wp2_with fail
    go_loopg [0] e.size (fun g s0 wl => ∃ (e' : Err), ErrAt S w0 e' s0 ∧ e'.cods.contains k = e.cods.contains k ∧ e'.size ≤ e.size ∧ g = e'.size ∧ Grew w wl)
    case atStart => exact ⟨e, he, rfl, Nat.le_refl _, rfl, Grew.refl _⟩
    case round =>
      obtain ⟨e', he', hc, hsz, rfl, hgl⟩ := hrel
      have HC := Lib.hid hc
      have HG := Lib.hid hgl
      have HG0 := Lib.hid (hg.trans hgl)
      have HGW0 := Lib.hid hg
      clear hc hgl he hg
      cases he' with
      | none =>
        go_wp2_with fail
        go_ret
        exact ⟨by rw [← HC.out]; rfl, HG.out⟩
      | reason c hc0 hc1 =>
        have hq := isNum_reason HS.out c hc0 hc1 k h0 h1 wr HG0.out
        by_cases hck : k = c
        · subst hck
          rw [decide_eq_true rfl] at hq
          go_wp2_with fail
          go_ret
          exact ⟨by rw [← HC.out, cods_hit h1]; rfl, HG.out⟩
        · rw [decide_eq_false hck] at hq
          have HM := Lib.hid (cods_miss hck)
          go_wp2_with fail
          go_ret
          exact ⟨by rw [← HC.out, HM.out]; rfl, HG.out⟩
      | @fault l c i e1 v1 b hb hv1 =>
        have hq := isNum_other (S := S) (w := w0) 104 (.pointer (some ⟨b, 0, none⟩)) (by decide) k h0 h1 wr HG0.out
        rw [decide_eq_false (by omega)] at hq
        have HV := Lib.hid hv1
        have HB := Lib.hid (Grew.heap HG0.out hb)
        rw [Err.size] at hsz
        rw [cods_fault] at HC
        by_cases hnil : v1 = .nilIface
        · have hn1 := hv1.nil_iff.1 hnil
          subst hnil
          subst hn1
          clear hv1 hb
          go_wp2_with (go_at_call 96; refine (unwrapF_any _ HB.out).mono ?_; rintro x w1 ⟨rfl, rfl⟩)
          go_ret
          exact ⟨by rw [← HC.out]; rfl, HG.out⟩
        · obtain ⟨t', u', rfl⟩ : ∃ t u, v1 = .iface t u := by cases hv1 <;> first | exact ⟨_, _, rfl⟩ | exact absurd rfl hnil
          clear hv1 hb hnil
          go_wp2_with (go_at_call 96; refine (unwrapF_any _ HB.out).mono ?_; rintro x w1 ⟨rfl, rfl⟩)
          go_roundg (e1.size)
          case rel => exact ⟨e1, HV.out, HC.out, by omega, rfl, HG.out⟩
          case measure => rw [Err.size]; omega
      | @many b cap a es vs hb hin hno hl hm1 h1c hkid =>
        have hq := isNum_other (S := S) (w := w0) 142 (.pointer (some ⟨b, 0, none⟩)) (by decide) k h0 h1 wr HG0.out
        rw [decide_eq_false (by omega)] at hq
        have HB := Lib.hid (Grew.heap HG0.out hb)
        have HIN := Lib.hid (hin.grew HG0.out)
        have HNO := Lib.hid hno
        have H1C := Lib.hid h1c
        have HKID := Lib.hid hkid
        have hcm : (Err.many es).cods = Err.codsL es := by rw [Err.cods]
        rw [hcm] at HC
        rw [Err.size] at hsz
        have HSZ := Lib.hid (fun (j : Nat) (t : Err) (h : es[j]? = some t) => (show t.size < n by have := kid_size (e := .many es) h; rw [Err.size] at this; omega))
        clear hb hin hno h1c hkid hcm
        go_wp2_with (go_at_call 91; refine (unwrapM_any _ HB.out HIN.out HNO.out hl hm1 H1C.out).mono ?_; rintro x w2 ⟨ar, cp, rfl, hin2, hg2, _⟩; have HI2 := Lib.hid hin2; have HG2 := Lib.hid (HG.out.trans hg2); clear hin2 hg2)
        go_loopw [45] (fun i wl => ∃ j : Nat, j ≤ es.length ∧ i = .int .i64 j ∧ Grew w2 wl ∧ (Err.codsL (es.take j)).contains k = false) (fun i _ => es.length - (intOf i).toNat)
        case atStart => exact ⟨0, by omega, rfl, Grew.refl _, rfl⟩
        case round =>
          obtain ⟨j, hj, rfl, hgw, hcj⟩ := hrel
          have HGW := Lib.hid hgw
          have HCJ := Lib.hid hcj
          clear hgw hcj
          by_cases hlt : j < es.length
          · obtain ⟨b', off, rfl, hb', hcc⟩ := (HI2.out.grew HGW.out).at' (by omega)
            have hck := hcc j (by omega)
            obtain ⟨t, ht⟩ : ∃ t, es[j]? = some t := ⟨es[j], List.getElem?_eq_getElem hlt⟩
            have hvj : vs[j]? = some (vs[j]'(by omega)) := List.getElem?_eq_getElem _
            have IHC := Lib.hid (fun W (hW : Grew w0 W) => IH.out t.size (HSZ.out j t ht) t _ (Nat.le_refl _) (HKID.out j t _ ht hvj) W hW)
            generalize vs[j]'(by omega) = vj at *
            have HCT := Lib.hid (codsL_take ht)
            clear hcc ht hvj
            cases hc2 : t.cods.contains k
            case true =>
              have HC2 := Lib.hid hc2
              rw [hc2] at IHC
              clear hc2
              go_wp2_with (go_at_call 65; refine (IHC.out _ (HGW0.out.trans (HG2.out.trans HGW.out))).mono ?_; rintro x w3 ⟨rfl, hg3⟩)
              go_ret
              exact ⟨by rw [← HC.out, codsL_has HCT.out HC2.out]; rfl, (HG2.out.trans HGW.out).trans hg3⟩
            case false =>
              have HC2 := Lib.hid hc2
              rw [hc2] at IHC
              clear hc2
              go_wp2_with (go_at_call 65; refine (IHC.out _ (HGW0.out.trans (HG2.out.trans HGW.out))).mono ?_; rintro x w3 ⟨rfl, hg3⟩; have HG3 := Lib.hid hg3; clear hg3)
              go_roundw
              case rel => exact ⟨j + 1, by omega, by go_num, HGW.out.trans HG3.out, codsL_hasnt HCT.out HCJ.out HC2.out⟩
              case measure => simp [intOf]; omega
          · obtain rfl : j = es.length := by omega
            rw [List.take_length] at HCJ
            go_wp2_with fail
            go_ret
            exact ⟨by rw [← HC.out, HCJ.out]; rfl, HG2.out.trans HGW.out⟩

/- what reflectlite.TypeOf(target).Comparable() tells at a reason -/
theorem isTypeOf (v : Value) (w : World) : (Extern.ReflectliteType.typeOf #[.iface 179 v]).run Tryd.prog w = .ok (.iface 134 (.agg #[.pointer (some ⟨19, 179, none⟩)])) w := by kernel_rfl
theorem isComparable (w : World) : ((Extern.ReflectliteType.method fun t => do Go.Extern.Rtype.noPackHeld "Comparable" t; pure (.bool (← typeInfo t).comparable)) #[.agg #[.pointer (some ⟨19, 179, none⟩)]]).run Tryd.prog w = .ok (.bool true) w := by kernel_rfl
theorem isMethodComparable (v : Value) (w : World) : (Go.method 310 134 v "Comparable").run Tryd.prog w = .ok (138, v) w := by kernel_rfl

set_option maxRecDepth 1000000 in
set_option maxHeartbeats 4000000 in
theorem is_any {S : Nat → Addr} {w : World} (k : Nat) (h0 : 1 ≤ k) (h1 : k ≤ 13) (hS : Sents S w) (e : Err) (v : Value) (he : ErrAt S w e v) (wr : World) (hg : Grew w wr) :
    Calls Tryd.prog 43 #[v, errV (S k)] wr fun x w' => x = .returned (.bool (e.cods.contains k)) ∧ Grew wr w' := by
  have IC := Lib.hid (fun W (hW : Grew w W) => is_fault k h0 h1 hS e.size e v (Nat.le_refl _) he W hW)
  have h8 := @run_callFunc_extern Tryd.prog 64 _ Extern.ReflectliteType.typeOf Tryd.func64 (by kernel_rfl) (by kernel_rfl) (by kernel_rfl) (by kernel_rfl)
  have h32 := @run_callFunc_extern Tryd.prog 138 _ (Extern.ReflectliteType.method fun t => do Go.Extern.Rtype.noPackHeld "Comparable" t; pure (.bool (← typeInfo t).comparable)) Tryd.func138 (by kernel_rfl) (by kernel_rfl) (by kernel_rfl) (by kernel_rfl)
  have c32 : ∀ w, (callFunc 138 #[.agg #[.pointer (some ⟨19, 179, none⟩)]]).run Tryd.prog w = .ok (.value (.bool true)) w := fun w => by rw [h32, isComparable]; rfl
  clear h32
  have tT := isTypeOf
  have mR := isMethodComparable
  have eN := nil_eq
  have HG := Lib.hid hg
  by_cases hnil : v = .nilIface
  · have hn := he.nil_iff.1 hnil
    subst hnil
    subst hn
    clear he hS hg IC
    go_enter Tryd.func43, Tryd.ntmps43
    go_wp2_with fail
    go_ret
    exact ⟨rfl, Grew.refl _⟩
  · obtain ⟨t', u', rfl⟩ : ∃ t u, v = .iface t u := by cases he <;> first | exact ⟨_, _, rfl⟩ | exact absurd rfl hnil
    generalize e.cods.contains k = r at *
    clear he hS hg hnil
    go_enter Tryd.func43, Tryd.ntmps43
    go_wp2_with (go_at_call 65; refine (IC.out _ HG.out).mono ?_; rintro x w1 ⟨rfl, hg1⟩)
    go_ret
    exact ⟨rfl, hg1⟩
end Go.Proofs.YtaaibekhoondcaaDoor
