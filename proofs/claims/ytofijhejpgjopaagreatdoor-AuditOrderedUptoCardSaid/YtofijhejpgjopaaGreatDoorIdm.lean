/- IDs as keys: what a map from IDs to numbers holds, as a function; its operations, at the walk. -/
import Derived.Test.YtofijhejpgjopaaGreatDoorProg
import Derived.Test.YtofijhejpgjopaaGreatDoorEl
import Derived.DeepKeys4
import Derived.Maps.RangeWalk
import Derived.Maps.OwnOps
namespace Go
/-- An ID. -/
structure IdD where
  ep : Int
  rp : Int
  nb : Int
deriving DecidableEq
def ElD.id (e : ElD) : IdD := ⟨e.ep, e.rp, e.nb⟩
abbrev IdD.val (x : IdD) : Value := .agg #[.int .i64 x.ep, .int .i64 x.rp, .int .i64 x.nb]
def IdD.Fits (x : IdD) : Prop := (-9223372036854775808 ≤ x.ep ∧ x.ep ≤ 9223372036854775807) ∧ (-9223372036854775808 ≤ x.rp ∧ x.rp ≤ 9223372036854775807) ∧ (-9223372036854775808 ≤ x.nb ∧ x.nb ≤ 9223372036854775807)
theorem ElD.Fits.id {e : ElD} (h : e.Fits) : e.id.Fits := ⟨h.1, h.2.1, h.2.2.1⟩
theorem IdD.val_inj {x y : IdD} (h : x.val = y.val) : x = y := by
  cases x; cases y
  simpa using h
theorem wf_i64_iff (n : Int) : (Lit.int .i64 n).wf = true ↔ -9223372036854775808 ≤ n ∧ n ≤ 9223372036854775807 := by
  simp [Lit.wf, IntKind.min, IntKind.max, IntKind.signed, IntKind.bits]
end Go
namespace Go.Proofs.YtofijhejpgjopaaGreatDoor
open Go.RowKit Go.Maps
open Go.WideMaps (KeyLaw)
set_option linter.unusedSimpArgs false
set_option linter.unusedVariables false

theorem id_laid : laidOutB Tryz.prog = true := by kernel_rfl
theorem id_wide : (match Tryz.prog.underlying 43 with | some (.array _ _) | some (.struct _) => true | _ => false) = true := by rw [Tryz.underlying43]
set_option maxRecDepth 100000 in
theorem id_row : (43 : TypeId) < Tryz.prog.types.size := of_decide_eq_true (by kernel_rfl)
set_option maxRecDepth 100000 in
theorem id_law : Keyed Tryz.prog 43 := Keyed.of_law (deep_law_laid id_laid (m := 2) (by omega) id_row (by kernel_rfl) id_wide)
theorem id_keyType : Tryz.prog.keyType 43 = true := by kernel_rfl
theorem id_cells : Tryz.prog.cellsOf 43 = 3 := by kernel_rfl
theorem int_cells : Tryz.prog.cellsOf 3 = 1 := by kernel_rfl
theorem size_types : ∃ m, Tryz.prog.types.size + 1 = m + 2 := ⟨Tryz.prog.types.size - 1, by have : 0 < Tryz.prog.types.size := Nat.lt_of_le_of_lt (Nat.zero_le _) id_row; omega⟩
theorem id_zero (w : World) : (zeroValue 3).run Tryz.prog w = .ok (.int .i64 0) w := by kernel_rfl
set_option maxRecDepth 100000 in
theorem keyLits_id (m : Nat) (x : IdD) (h : x.Fits) : Tryz.prog.keyLits (m + 2) 43 x.val.cells.toList = some [.int .i64 x.ep, .int .i64 x.rp, .int .i64 x.nb] := by
  obtain ⟨h1, h2, h3⟩ := h
  have q1 := (wf_i64_iff _).2 h1
  have q2 := (wf_i64_iff _).2 h2
  have q3 := (wf_i64_iff _).2 h3
  simp [Program.keyLits, Tryz.underlying43, Tryz.underlying3, id_cells, int_cells, Value.cells, q1, q2, q3]
/-- What an ID reads as. -/
noncomputable def idLit (x : IdD) : Lit := .string (keyBytes [.int .i64 x.ep, .int .i64 x.rp, .int .i64 x.nb])
set_option maxRecDepth 100000 in
theorem keyOf_id (x : IdD) (h : x.Fits) : keyOf Tryz.prog 43 x.val = some (idLit x) := by
  obtain ⟨m, hm⟩ := size_types
  have hf : x.val.formed Tryz.prog 43 = true := by simp [Value.formed, Tryz.underlying43, id_cells]
  have hk := keyLits_id m x h
  unfold keyOf
  rw [Tryz.underlying43, hm, hk]
  simp only [id_keyType, hf, Bool.and_self, if_true, Option.map_some]
  rfl
set_option maxRecDepth 100000 in
theorem keyOf_id_inv {v : Value} {l : Lit} (h : keyOf Tryz.prog 43 v = some l) : ∃ x : IdD, v = x.val ∧ x.Fits ∧ l = idLit x := by
  obtain ⟨xs, L, rfl, hl, rfl⟩ := keyOf_top id_wide h
  obtain ⟨m, hm⟩ := size_types
  rw [hm] at hl
  have one : ∀ (d : Nat) (cs : List Value) (L : List Lit), Tryz.prog.keyLits (d + 1) 3 cs = some L → ∃ n, cs = [.int .i64 n] ∧ (Lit.int .i64 n).wf = true ∧ L = [.int .i64 n] := by
    intro d cs L h
    simp only [Program.keyLits, Tryz.underlying3] at h
    rcases cs with _ | ⟨v, _ | ⟨v', r⟩⟩
    · cases h
    · cases v
      case int q n =>
        simp only at h
        split at h
        · rename_i hc
          obtain ⟨rfl, hw⟩ := hc
          cases h
          exact ⟨n, rfl, hw, rfl⟩
        · cases h
      all_goals cases h
    · cases v <;> cases h
  simp only [Program.keyLits, Tryz.underlying43] at hl
  split at hl
  · rename_i hc
    rw [id_cells] at hc
    obtain ⟨a, b, c, hx⟩ : ∃ a b c, xs.toList = [a, b, c] := by
      rcases xs with ⟨_ | ⟨a, _ | ⟨b, _ | ⟨c, _ | ⟨d, r⟩⟩⟩⟩⟩ <;> simp_all
    rw [hx] at hl
    simp only [List.mapM_cons, List.mapM_nil, Option.map_eq_some_iff, Option.bind_eq_bind, Option.bind_eq_some_iff, int_cells, List.drop_zero, List.drop_succ_cons, List.take_succ_cons, List.take_zero, Option.pure_def, Option.some.injEq] at hl
    obtain ⟨_, ⟨l1, h1, _, ⟨l2, h2, _, ⟨l3, h3, _, rfl, rfl⟩, rfl⟩, rfl⟩, rfl⟩ := hl
    obtain ⟨n1, e1, w1, rfl⟩ := one _ _ _ h1
    obtain ⟨n2, e2, w2, rfl⟩ := one _ _ _ h2
    obtain ⟨n3, e3, w3, rfl⟩ := one _ _ _ h3
    simp only [List.cons.injEq, and_true] at e1 e2 e3
    subst e1 e2 e3
    refine ⟨⟨n1, n2, n3⟩, ?_, ⟨(wf_i64_iff _).1 w1, (wf_i64_iff _).1 w2, (wf_i64_iff _).1 w3⟩, rfl⟩
    rcases xs with ⟨xs⟩
    simp only at hx
    rw [hx]
  · cases hl
theorem idLit_inj {x y : IdD} (hx : x.Fits) (hy : y.Fits) (h : (idLit x) = (idLit y)) : x = y :=
  IdD.val_inj (id_law.inj (keyOf_id x hx) (by rw [h]; exact keyOf_id y hy))
theorem idLit_key (x : IdD) : WideAt.IsKeyLit (idLit x) := by unfold idLit; trivial

/-- BLOCK b IS A MAP OF n IDs THAT HOLDS f. -/
def IdMap (w : World) (b : Nat) (f : IdD → Option Int) (n : Nat) : Prop :=
  ∃ D : DataW Unit, w.ownsMap Tryz.prog 43 (plainElem Tryz.prog 3) b n D ∧ Maps.size D = n ∧
    ∀ x : IdD, x.Fits → Maps.has D (idLit x) = (f x).isSome ∧ D.atKey (idLit x) (.lit (.int .i64 0)) = .lit (.int .i64 ((f x).getD 0))
namespace IdMap
variable {w w' : World} {b n : Nat} {f : IdD → Option Int}
theorem made (w : World) : IdMap (w.alloc (.map #[] 0)) w.heap.size (fun _ => none) 0 :=
  ⟨.map [], World.ownsMap_made _ _ _ _, rfl, fun x _ => ⟨rfl, rfl⟩⟩
theorem lt (h : IdMap w b f n) : b < w.heap.size := by
  obtain ⟨D, ho, _⟩ := h
  exact ho.lt
theorem keep (h : IdMap w b f n) (hb : w'.heap[b]? = w.heap[b]?) : IdMap w' b f n := by
  obtain ⟨D, ⟨es, clock, hm, r⟩, hr⟩ := h
  exact ⟨D, ⟨es, clock, hb.trans hm, r⟩, hr⟩
theorem grew (h : IdMap w b f n) (hg : Grew w w') : IdMap w' b f n := h.keep (hg.block b h.lt)
theorem look_ok (h : IdMap w b f n) (x : IdD) (hx : x.Fits) : (Instr.lookup 78 (.map (some b)) x.val true).run Tryz.prog w = .ok (.tuple #[.int .i64 ((f x).getD 0), .bool (f x).isSome]) w := by
  obtain ⟨D, ho, _, hf⟩ := h
  obtain ⟨v, ps, hrun, hv⟩ := ho.look_ok id_law Tryz.underlying78 (id_zero w) (plainElem_int Tryz.underlying3 (by decide)) (keyOf_id x hx)
  obtain ⟨c, rfl, hc, hwc⟩ := plainElem_int_inv Tryz.underlying3 hv
  obtain ⟨h1, h2⟩ := hf x hx
  have hc1 := congrArg Prod.fst hc
  simp only at hc1
  rw [h2] at hc1
  simp only [DataW.lit.injEq, Lit.int.injEq, true_and] at hc1
  rw [hrun, h1, ← hc1]
theorem look (h : IdMap w b f n) (x : IdD) (hx : x.Fits) : (Instr.lookup 78 (.map (some b)) x.val false).run Tryz.prog w = .ok (.int .i64 ((f x).getD 0)) w := by
  obtain ⟨D, ho, _, hf⟩ := h
  obtain ⟨c, hrun, hat, hwc⟩ := ho.lookup_int id_law Tryz.underlying78 Tryz.underlying3 (id_zero w) (keyOf_id x hx)
  rw [(hf x hx).2] at hat
  simp only [DataW.lit.injEq, Lit.int.injEq, true_and] at hat
  rw [hrun, hat]
theorem len (h : IdMap w b f n) (ty : TypeId) : (Builtin.len_ #[78] ty #[.map (some b)]).run Tryz.prog w = .ok (.int .i64 n) w := by
  obtain ⟨D, ho, hs, _⟩ := h
  rw [ho.len Tryz.underlying78 ty, hs]
theorem put (h : IdMap w b f n) (x : IdD) (hx : x.Fits) (v : Int) (hv : -9223372036854775808 ≤ v ∧ v ≤ 9223372036854775807) (hn : n < 9223372036854775807) (hnew : f x = none) :
    ∃ w', (Instr.mapUpdate 78 (.map (some b)) x.val (.int .i64 v)).run Tryz.prog w = .ok () w' ∧ IdMap w' b (fun y => if y = x then some v else f y) (n + 1) ∧ w.grownBy w' (some b) := by
  obtain ⟨D, ho, hs, hf⟩ := h
  obtain ⟨w', hrun, ho', hg⟩ := ho.update id_law Tryz.underlying78 (by unfold maxLen; omega) (keyOf_id x hx) (plainElem_int Tryz.underlying3 ((wf_i64_iff v).2 hv))
  refine ⟨w', hrun, ⟨_, ho', ?_, fun y hy => ?_⟩, hg⟩
  · rw [size_put (ho.tidy id_law), (hf x hx).1, hnew, hs]; rfl
  · by_cases e : y = x
    · subst e
      rw [has_put_same ho.isMap (idLit_key y), atKey_put_same ho.isMap (idLit_key y)]
      simp
    · have hne : (idLit y) ≠ (idLit x) := fun h => e (idLit_inj hy hx h)
      rw [has_put_other hne, atKey_put_other hne, (hf y hy).1, (hf y hy).2]
      simp only [if_neg e, and_self]
end IdMap

section
variable {P : Program} (w : World) {ops : Array Oper} {rest : List Oper} {o : Oper} {a : Act} {Q : Exit → Act → World → Prop}
theorem wpList_id_look_ok (hg : o.guard = none) (m x : Operand) (hop : o.op = Op.lookup 78 m x true) (b n : Nat) (f : IdD → Option Int) (hm : a.eval m = .map (some b)) (hown : IdMap w b f n)
    (id : IdD) (hx : a.eval x = id.val) (hid : id.Fits) (hK : wpList Tryz.prog ops Q rest (a.put o.dst (.tuple #[.int .i64 ((f id).getD 0), .bool (f id).isSome])) w) : wpList Tryz.prog ops Q (o :: rest) a w := by
  refine wpList_plain hg fun K' hK' => ?_
  have hrun := hown.look_ok id hid
  unfold Oper.wp
  simp only [execOp, hop, hm, hx]
  simp [hrun, Result.andThen]
  exact hK' _ _ hK
theorem wpList_id_look (hg : o.guard = none) (m x : Operand) (hop : o.op = Op.lookup 78 m x false) (b n : Nat) (f : IdD → Option Int) (hm : a.eval m = .map (some b)) (hown : IdMap w b f n)
    (id : IdD) (hx : a.eval x = id.val) (hid : id.Fits) (hK : wpList Tryz.prog ops Q rest (a.put o.dst (.int .i64 ((f id).getD 0))) w) : wpList Tryz.prog ops Q (o :: rest) a w := by
  refine wpList_plain hg fun K' hK' => ?_
  have hrun := hown.look id hid
  unfold Oper.wp
  simp only [execOp, hop, hm, hx]
  simp [hrun, Result.andThen]
  exact hK' _ _ hK
theorem wpList_id_len (hg : o.guard = none) (m : Operand) (hop : o.op = Op.call { callee := Callee.builtin Builtin.len, args := #[m], argTypes := #[78] }) (b n : Nat) (f : IdD → Option Int) (hm : a.eval m = .map (some b)) (hown : IdMap w b f n)
    (hK : wpList Tryz.prog ops Q rest (a.put o.dst (.int .i64 n)) w) : wpList Tryz.prog ops Q (o :: rest) a w := by
  refine wpList_plain hg fun K' hK' => ?_
  have hrun := hown.len o.type
  unfold Oper.wp
  simp [execOp, hop, resolve, invoke, builtin, hm, hrun, Result.andThen]
  exact hK' _ _ hK
theorem wpList_id_put (hg : o.guard = none) (m x v : Operand) (hop : o.op = Op.mapUpdate 78 m x v) (b n : Nat) (f : IdD → Option Int) (hm : a.eval m = .map (some b)) (hown : IdMap w b f n)
    (id : IdD) (hx : a.eval x = id.val) (hid : id.Fits) (z : Int) (hz : a.eval v = .int .i64 z) (hv : -9223372036854775808 ≤ z ∧ z ≤ 9223372036854775807) (hn : n < 9223372036854775807) (hnew : f id = none)
    (hK : ∀ w', IdMap w' b (fun y => if y = id then some z else f y) (n + 1) → w.grownBy w' (some b) → wpList Tryz.prog ops Q rest (a.put o.dst undef) w') : wpList Tryz.prog ops Q (o :: rest) a w := by
  refine wpList_plain hg fun K' hK' => ?_
  obtain ⟨w', hrun, r1, r2⟩ := hown.put id hid z hv hn hnew
  unfold Oper.wp
  simp only [execOp, hop, hm, hx, hz]
  simp [hrun, Result.andThen]
  exact hK' _ _ (hK w' r1 r2)
end
set_option maxRecDepth 100000 in
theorem id_eq (x y : IdD) (hx : x.Fits) (hy : y.Fits) (W : World) : (Op.equalIn 10000 43 x.val y.val).run Tryz.prog W = .ok (decide (x = y)) W := by
  obtain ⟨r, h1, h2⟩ := run_equal_deep (P := Tryz.prog) W (m := 2) (by omega) (k := 43) (by kernel_rfl) id_wide (keyOf_id x hx) (keyOf_id y hy)
  have : r = decide (x = y) := by
    by_cases e : x = y
    · subst e; rw [h2.2 rfl]; simp
    · have : r ≠ true := fun h => e (idLit_inj hx hy (h2.1 h))
      rw [decide_eq_false e]; simpa using this
  rw [← this]
  exact h1
end Go.Proofs.YtofijhejpgjopaaGreatDoor
