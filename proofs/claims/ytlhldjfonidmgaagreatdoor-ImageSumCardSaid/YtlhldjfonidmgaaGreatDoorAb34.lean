/- The quick executor: what it reckons is what the plain one reckons. -/
import Derived.Test.YtlhldjfonidmgaaGreatDoorAb33
import Derived.IntWalk
import Derived.Laws.Entries
namespace Go.Ab
set_option linter.unusedSimpArgs false
set_option linter.unusedVariables false
theorem orElse_cases {α : Type} {o p : Option α} {y : α} (h : orElse o p = some y) : o = some y ∨ (o = none ∧ p = some y) := by
  cases o with
  | none => exact .inr ⟨rfl, h⟩
  | some a => exact .inl h
theorem prun_bind' {P : Program} {α β : Type} (s : Sem α) (f : α → Sem β) : prun P (s.bind f) = (prun P s).bind fun x => prun P (f x) := by
  induction s with
  | pure a => rfl
  | program k ih => simp only [Sem.bind, prun]; exact ih _
  | mark m k ih => simp only [Sem.bind, prun]; exact ih
  | choose q k ih => simp only [Sem.bind, prun]; split <;> simp [ih]
  | _ => simp [Sem.bind, prun]
theorem prun_bind {P : Program} {α β : Type} (s : Sem α) (f : α → Sem β) : prun P (s >>= f) = (prun P s).bind fun x => prun P (f x) := prun_bind' s f
theorem prun_pure {P : Program} {α : Type} (a : α) : prun P (pure a : Sem α) = some a := rfl
theorem wrap_lim {k : IntKind} {n : Nat} (h : n < kLim k) : k.wrap (Int.ofNat n) = Int.ofNat n := by
  have h0 : (0 : Int) ≤ Int.ofNat n := Int.natCast_nonneg n
  have h1 : Int.ofNat n = (n : Int) := rfl
  cases k <;> simp only [kLim] at h
  · exact IntWalk.i8_in _ (by omega)
  · exact IntWalk.i16_in _ (by omega)
  · exact IntWalk.i32_in _ (by omega)
  · exact IntWalk.i64_in _ (by omega)
  · exact IntWalk.u8_in _ (by omega)
  · exact IntWalk.u16_in _ (by omega)
  · exact IntWalk.u32_in _ (by omega)
  · exact IntWalk.u64_in _ (by omega)
section
variable {P : Program} {h : AH} {o : Oper} {ts : TT} {v : Value}
theorem prun_underlying {t : TypeId} {d : TypeDesc} (e : P.underlying t = some d) : prun P (underlying t) = some d := by
  show prun P (program >>= _) = _
  rw [prun_bind]
  show prun P (match P.underlying t with | some d => pure d | none => stuck "no such type") = _
  rw [e]
  rfl
/-- An operation on flat operands. -/
theorem aFlat_of {ρ : Operand → Value} (hf : ∀ x ∈ o.op.operands.toList, isFlat 4 (ρ x) = true) (hr : prun P (execOp ρ o) = some (.value v)) (hv : isFlat 5 v = true) : aFlat P o ρ h = some (.value v, h) := by
  unfold aFlat
  rw [if_pos (List.all_eq_true.2 hf), hr]
  simp only [flatNext, hv, if_true]
theorem prun_v {s : Sem Value} (e : prun P s = some v) : prun P (s >>= fun x => pure (Next.value x)) = some (.value v) := by
  rw [prun_bind, e]
  rfl
theorem aFlat_int {ρ : Operand → Value} {op : BinOp} {t ty : TypeId} {x y : Operand} {k : IntKind} {a b : Int} (hop : o.op = .binOp op t x y ty) (hx : ρ x = .int k a) (hy : ρ y = .int k b) (e : binOp op t (.int k a) (.int k b) = pure v) (hv : isFlat 5 v = true) : aFlat P o ρ h = some (.value v, h) := by
  refine aFlat_of (fun z hz => ?_) ?_ hv
  · rw [hop] at hz
    have hz : z ∈ [x, y] := hz
    rcases List.mem_cons.1 hz with rfl | hz
    · rw [hx]; rfl
    · rcases List.mem_cons.1 hz with rfl | hz
      · rw [hy]; rfl
      · cases hz
  · simp only [execOp, hop]
    refine prun_v ?_
    show prun P (eqGuard op t x y (ρ x) (ρ y) >>= fun _ => binOp op t (ρ x) (ρ y)) = _
    rw [prun_bind, hx, hy, e]
    cases op <;> rfl
theorem aop_int {ρ : Operand → Value} {op : BinOp} {t ty : TypeId} {x y : Operand} {k : IntKind} (hop : o.op = .binOp op t x y ty) (hu : P.underlying t = some (.int k)) : aop P o ρ h = aFlat P o ρ h := by
  have hn : aNilEq P t (ρ x) (ρ y) = none := by
    unfold aNilEq aNilEq0 aSamePtr
    rw [hu]
    rfl
  simp only [aop, hop, hn]
theorem kintOp_ok {op : BinOp} {t ty : TypeId} {x y : Operand} {k : IntKind} (hop : o.op = .binOp op t x y ty) (hu : P.underlying t = some (.int k)) (e : (kintOp P o k op x y).run ts h = some v) : aread P o (kvalF ts) h = some v := by
  have fin : ∀ {a b : Nat} {u : Value}, kvalF ts x = .int k (.ofNat a) → kvalF ts y = .int k (.ofNat b) → binOp op t (.int k (.ofNat a)) (.int k (.ofNat b)) = pure u → isFlat 5 u = true → aread P o (kvalF ts) h = some u := fun hx hy hb hf =>
    aread_p (by rw [hop]; rfl) (by rw [hop]; rfl) (fun s d z c => by rw [hop] at c; cases c) (by rw [aop_int hop hu]; exact aFlat_int hop hx hy hb hf)
  have two : ∀ {f : Nat → Nat → Option Value}, orElse (ob ((vNat k).run ((kval x).run ts)) fun a => ob ((vNat k).run ((kval y).run ts)) fun b => f a b) ((kslow P o).run ts h) = some v →
      (∀ a b, f a b = some v → ∃ u, u = v ∧ binOp op t (.int k (.ofNat a)) (.int k (.ofNat b)) = pure u ∧ isFlat 5 u = true) → aread P o (kvalF ts) h = some v := fun e hf => by
    rcases ob_orElse e with ⟨a, h1, e⟩ | e
    · obtain ⟨b, h2, e⟩ := ob_eq e
      obtain ⟨u, rfl, hb, hu⟩ := hf a b e
      exact fin (vNat_eq h1) (vNat_eq h2) hb hu
    · exact e
  unfold kintOp at e
  cases op <;> first | exact e | skip
  · refine two e fun a b e => ?_
    obtain ⟨h1, e⟩ := ci_eq e
    cases e
    refine ⟨_, rfl, ?_, rfl⟩
    have hb : a + b < kLim k := by simpa using h1
    show (if k ≠ k then stuck _ else Op.intArith .add k (Int.ofNat a) (Int.ofNat b)) = _
    rw [if_neg (by simp)]
    show pure (Value.int k (k.wrap (Int.ofNat (a + b)))) = _
    rw [wrap_lim hb]
    rfl
  · refine two e fun a b e => ?_
    obtain ⟨h1, e⟩ := ci_eq e
    obtain ⟨h2, e⟩ := ci_eq e
    cases e
    refine ⟨_, rfl, ?_, rfl⟩
    have hba : b ≤ a := Nat.le_of_ble_eq_true h1
    have ha : a < kLim k := by simpa using h2
    show (if k ≠ k then stuck _ else Op.intArith .sub k (Int.ofNat a) (Int.ofNat b)) = _
    rw [if_neg (by simp)]
    show pure (Value.int k (k.wrap (Int.ofNat a - Int.ofNat b))) = _
    rw [show Int.ofNat a - Int.ofNat b = Int.ofNat (a - b) from by show (a : Int) - (b : Int) = ((a - b : Nat) : Int); omega, wrap_lim (by omega)]
    rfl
  · refine two e fun a b e => ?_
    obtain ⟨h1, e⟩ := ci_eq e
    cases e
    refine ⟨_, rfl, ?_, rfl⟩
    have hb : a * b < kLim k := by simpa using h1
    show (if k ≠ k then stuck _ else Op.intArith .mul k (Int.ofNat a) (Int.ofNat b)) = _
    rw [if_neg (by simp)]
    show pure (Value.int k (k.wrap (Int.ofNat (a * b)))) = _
    rw [wrap_lim hb]
    rfl
  · refine two e fun a b e => ?_
    cases e
    refine ⟨_, rfl, ?_, rfl⟩
    rw [binOp_eql]
    congr 2
    by_cases hab : a = b
    · subst hab; simp
    · rw [beq_false hab]; simp; omega
  · refine two e fun a b e => ?_
    cases e
    refine ⟨_, rfl, ?_, rfl⟩
    rw [binOp_neq]
    congr 2
    by_cases hab : a = b
    · subst hab; simp
    · rw [beq_false hab]; simp; omega
  · refine two e fun a b e => ?_
    cases e
    refine ⟨_, rfl, ?_, rfl⟩
    rw [binOp_lss]
    congr 2
    rw [Bool.eq_iff_iff]
    simp
  · refine two e fun a b e => ?_
    cases e
    refine ⟨_, rfl, ?_, rfl⟩
    rw [binOp_leq]
    congr 2
    rw [Bool.eq_iff_iff]
    simp
  · refine two e fun a b e => ?_
    cases e
    refine ⟨_, rfl, ?_, rfl⟩
    rw [binOp_gtr]
    congr 2
    rw [Bool.eq_iff_iff]
    simp
  · refine two e fun a b e => ?_
    cases e
    refine ⟨_, rfl, ?_, rfl⟩
    rw [binOp_geq]
    congr 2
    rw [Bool.eq_iff_iff]
    simp
theorem valOf_eq {n : Next} (e : valOf (some n) = some v) : n = .value v := by
  cases n <;> first | (cases e; done) | skip
  cases e
  rfl
theorem kbinOp_ok {op : BinOp} {t ty : TypeId} {x y : Operand} (hop : o.op = .binOp op t x y ty) (e : (kbinOp P o op t x y).run ts h = some v) : aread P o (kvalF ts) h = some v := by
  unfold kbinOp at e
  split at e
  · rename_i k hk
    exact kintOp_ok hop (tyInt_eq hk) e
  · have flat : (∀ n h', aFlat P o (kvalF ts) h = some (n, h') → aop P o (kvalF ts) h = some (n, h')) → (ob (aFlat P o (kvalF ts) h) fun z => valOf (some z.1)) = some v → aread P o (kvalF ts) h = some v := fun hf e => by
      obtain ⟨⟨n, h'⟩, h1, h2⟩ := ob_eq e
      have h2 : n = .value v := valOf_eq h2
      subst h2
      exact aread_p (by rw [hop]; rfl) (by rw [hop]; rfl) (fun s d z c => by rw [hop] at c; cases c) (hf _ _ h1)
    split at e
    · rcases orElse_cases e with e | ⟨e0, e⟩
      · obtain ⟨b, h1, h2⟩ := ob_eq e
        cases h2
        refine aread_p (h' := h) (by rw [hop]; rfl) (by rw [hop]; rfl) (fun s d z c => by rw [hop] at c; cases c) ?_
        have h1 : aNilEq P t (kvalF ts x) (kvalF ts y) = some b := h1
        simp only [aop, hop, h1]
      · refine flat (fun n h' hn => ?_) e
        have h1 : aNilEq P t (kvalF ts x) (kvalF ts y) = none := by
          cases hc : aNilEq P t (kvalF ts x) (kvalF ts y) with
          | none => rfl
          | some b =>
            have hc : aNilEq P t ((kval x).run ts) ((kval y).run ts) = some b := hc
            rw [hc] at e0
            cases e0
        simp only [aop, hop, h1]
        exact hn
    · rcases orElse_cases e with e | ⟨e0, e⟩
      · obtain ⟨b, h1, h2⟩ := ob_eq e
        cases h2
        refine aread_p (h' := h) (by rw [hop]; rfl) (by rw [hop]; rfl) (fun s d z c => by rw [hop] at c; cases c) ?_
        have h1 : aNilEq P t (kvalF ts x) (kvalF ts y) = some b := h1
        simp only [aop, hop, h1]
      · refine flat (fun n h' hn => ?_) e
        have h1 : aNilEq P t (kvalF ts x) (kvalF ts y) = none := by
          cases hc : aNilEq P t (kvalF ts x) (kvalF ts y) with
          | none => rfl
          | some b =>
            have hc : aNilEq P t ((kval x).run ts) ((kval y).run ts) = some b := hc
            rw [hc] at e0
            cases e0
        simp only [aop, hop, h1]
        exact hn
    · rename_i n1 n2
      refine flat (fun n h' hn => ?_) e
      simp only [aop, hop]
      split
      · rename_i e1 e2
        exact absurd rfl n1
      · rename_i e1 e2
        exact absurd rfl n2
      · exact hn
theorem rrun_bound {n m : Nat} (hn : n ≤ m) (c : BoundsCode) : rrun P (Instr.sliceBound (.int .i64 (.ofNat n)) m c) h = some n := by
  simp only [Instr.sliceBound, asIntOf, rrun_bind, rrun_pure, Option.bind_some]
  rw [if_pos ⟨Int.natCast_nonneg n, by show (n : Int) ≤ (m : Int); omega⟩]
  rfl
theorem kslice_ok {t : TypeId} {x : Operand} {lo hi : Option Operand} (hop : o.op = .slice t x lo hi none) (e : (kslice P o t x lo hi).run ts h = some v) : aread P o (kvalF ts) h = some v := by
  unfold kslice at e
  split at e
  · rename_i el hu
    have hu := kund_eq hu
    split at e
    · rename_i i hi'
      have hi' := (kinfo_eq hi').1
      obtain ⟨s, h1, e⟩ := ob_eq e
      obtain ⟨hh, h2, e⟩ := ob_eq e
      obtain ⟨ll, h3, e⟩ := ob_eq e
      obtain ⟨h4, e⟩ := ci_eq e
      obtain ⟨h5, e⟩ := ci_eq e
      cases e
      have hx : kvalF ts x = .slice s.a s.l s.c := vSl_eq h1
      have h4 := Nat.le_of_ble_eq_true h4
      have h5 := Nat.le_of_ble_eq_true h5
      refine aread_r (by rw [hop]; rfl) ?_
      simp only [execOp, hop]
      refine rrun_v ?_
      simp only [Instr.sliceAt, rrun_bind, rrun_underlying hu, Option.bind_some, Instr.slice, hx]
      have hb : rrun P (Instr.sliceBounds true s.l s.c (lo.map (kvalF ts)) (hi.map (kvalF ts)) (none.map (kvalF ts))) h = some (ll, hh, s.c) := by
        cases hi with
        | none =>
          have h2 : some s.l = some hh := h2
          cases h2
          cases lo with
          | none =>
            have h3 : some 0 = some ll := h3
            cases h3
            rfl
          | some y =>
            have h3 : kvalF ts y = .int .i64 (.ofNat ll) := vNat_eq h3
            simp only [Instr.sliceBounds, Option.map_some, Option.map_none, rrun_bind, rrun_pure, Option.bind_some, h3, rrun_bound h5]
        | some z =>
          have h2 : kvalF ts z = .int .i64 (.ofNat hh) := vNat_eq h2
          cases lo with
          | none =>
            have h3 : some 0 = some ll := h3
            cases h3
            simp only [Instr.sliceBounds, Option.map_some, Option.map_none, rrun_bind, rrun_pure, Option.bind_some, h2, rrun_bound h4]
          | some y =>
            have h3 : kvalF ts y = .int .i64 (.ofNat ll) := vNat_eq h3
            simp only [Instr.sliceBounds, Option.map_some, Option.map_none, rrun_bind, rrun_pure, Option.bind_some, h3, h2, rrun_bound h4, rrun_bound h5]
      simp only [rrun_bind, hb, Option.bind_some, rrun_sizeOf hi', rrun_pure]
      congr 2
      cases hc : Nat.beq s.c ll with
      | true => rw [if_pos (Nat.eq_of_beq_eq_true hc)]; rfl
      | false =>
        have : s.c ≠ ll := fun c => by rw [c, beq_true] at hc; cases hc
        rw [if_neg this]
        cases s.a <;> rfl
    · cases e
  · exact e
theorem klen_ok {c : Call} (hop : o.op = .call c) (hc : c.callee = .builtin .len) (e : (klen P o c).run ts h = some v) : aread P o (kvalF ts) h = some v := by
  unfold klen at e
  split at e
  · rename_i x xs t tys ha ht
    have hx : (c.args.map (kvalF ts))[0]? = some (kvalF ts x) := by
      rw [← Array.getElem?_toList, Array.toList_map, ha]
      rfl
    have htt : c.argTypes[0]? = some t := by
      rw [← Array.getElem?_toList, ht]
      rfl
    have main : rrun P (Builtin.len_ c.argTypes o.type (c.args.map (kvalF ts))) h = some v → aread P o (kvalF ts) h = some v := fun hr => by
      refine aread_r (by rw [hop]; simp only [readKind, hc]) ?_
      simp only [execOp, hop]
      have : (resolve (kvalF ts) c o.type >>= fun d => invoke d.target d.args) = (Builtin.len_ c.argTypes o.type (c.args.map (kvalF ts)) >>= fun x => pure (Next.value x)) := by
        simp only [resolve, hc]
        rfl
      rw [this]
      exact rrun_v hr
    split at e
    · rename_i el hu
      have hu := kund_eq hu
      obtain ⟨s, h1, e⟩ := ob_eq e
      cases e
      have hx2 : kvalF ts x = .slice s.a s.l s.c := vSl_eq h1
      refine main ?_
      rw [hx2] at hx
      simp only [Builtin.len_, hx, htt, rrun_bind, rrun_underlying hu, Option.bind_some]
      rfl
    · rename_i hu
      have hu := kund_eq hu
      obtain ⟨s, h1, e⟩ := ob_eq e
      cases e
      have hx2 : kvalF ts x = .string s := vStr_eq h1
      refine main ?_
      rw [hx2] at hx
      simp only [Builtin.len_, hx, htt, rrun_bind, rrun_underlying hu, Option.bind_some]
      rfl
    · exact e
  · exact e
end
end Go.Ab
