/- One operation, abstractly. -/
import Derived.Test.YtlhldjfonidmgaaGreatDoorAb17
import Derived.Orders
import Derived.Lib.AppendZeros
namespace Go.Ab
set_option linter.unusedSimpArgs false
set_option linter.unusedVariables false
set_option linter.unusedSectionVars false
def flatNext : Next → Bool
  | .value v => isFlat 5 v
  | .skip => true
  | .enter _ as => as.toList.all (isFlat 4)
  | _ => false
def aFlat (P : Program) (o : Oper) (ρ : Operand → Value) (h : AH) : Option (Next × AH) :=
  if o.op.operands.toList.all (fun x => isFlat 4 (ρ x)) then
    match prun P (execOp ρ o) with
    | some n => if flatNext n then some (n, h) else none
    | none => none
  else none
def noSelect : Op → Bool
  | .select _ _ => false
  | _ => true
/-- string(b), []rune(s), []byte(s). -/
def aConvert (P : Program) (src dst : TypeId) (x : Value) (h : AH) : Option (Value × AH) :=
  match P.underlying src, P.underlying dst, x with
  | some (.slice e), some .string, .slice (some ⟨b, o, none⟩) len _ =>
    match P.underlying e, rowOf h b o len with
    | some (.int .u8), some l => if l.all (fun v => match v with | .int .u8 _ => true | _ => false) && !(Nat.beq len 0) then some (.string (strOfNums (l.map fun v => match v with | .int _ n => n | _ => 0)), h) else none
    | _, _ => none
  | some .string, some (.slice e), .string s =>
    match P.underlying e with
    | some (.int .i32) =>
      let rs := Conv.runesFrom s s.size 0 #[]
      if Nat.ble rs.size 1048576 && rs.toList.all (isFlat 4) && room h && Nat.beq (P.cellsOf e) 1 then some (.slice (some ⟨h.next, 0, none⟩) rs.size rs.size, h.push (.cells rs e (0, 0)) true) else none
    | some (.int .u8) =>
      let rs := s.data.map fun b => Value.int .u8 b.toNat
      if rs.toList.all (isFlat 4) && room h && Nat.beq (P.cellsOf e) 1 then some (.slice (some ⟨h.next, 0, none⟩) s.size s.size, h.push (.cells rs e (0, 0)) true) else none
    | _ => none
  | _, _, _ => none
/-- append(nil, make([]T, n)...). -/
def aAppendZ (P : Program) (t tx : TypeId) (s x : Value) (h : AH) : Option (Value × AH) :=
  match P.underlying t, P.underlying tx, s, x with
  | some (.slice e), some (.int _), .slice none 0 0, .int _ (.ofNat n) =>
    match P.info? e with
    | some i => match i.zero with
      | some z => if Nat.blt 0 n && Nat.ble n 65536 && Nat.ble i.bytes 65536 && Nat.blt 0 i.size && Nat.beq z.cells.size i.size && (Builtin.zeroCells z.cells n).toList.all (isFlat 4) then aGrow e (Builtin.zeroCells z.cells n).toList n h else none
      | none => none
    | none => none
  | _, _, _, _ => none
def fnOk : Fn → Bool
  | .func _ => true
  | _ => false
def bodied (P : Program) (f : FuncId) : Bool :=
  match P.funcs[f]? with
  | some fn => fn.body.isSome && !(fn.name == "runtime.NumGoroutine")
  | none => false
def aCall (P : Program) (o : Oper) (c : Call) (ρ : Operand → Value) (h : AH) : Option (Next × AH) :=
  match c.callee with
  | .builtin .len | .builtin .copy => arun P (execOp ρ o) h
  | .builtin .append =>
    match c.args.toList, c.argTypes.toList with
    | [s, x], [t, tx] => ((aAppend P t tx (ρ s) (ρ x) h).or (aAppendZ P t tx (ρ s) (ρ x) h)).map fun y => (.value y.1, y.2)
    | _, _ => none
  | .builtin .recover => some (.recover, h)
  | .value f =>
    match ρ f with
    | .func (.func g) first captured => if bodied P g then some (.enter g ((first ++ c.args.map ρ) ++ captured), h)
      else if isNoEsc P g && first.isEmpty && captured.isEmpty then match c.args.toList with
        | [x] => some (.value (ρ x), h)
        | _ => none
      else none
    | .func (.yield l) first captured =>
      if first.isEmpty && captured.isEmpty then
        match h.get l with
        | some (.loop L, _) => if (c.args.map ρ).size = L.params.size then some (.round l L.fn ((L.params.zip (c.args.map ρ)).foldl (fun tmps (t, a) => tmps.setIfInBounds t a) L.tmps) L.assign L.body, h) else none
        | _ => none
      else none
    | _ => none
  | .builtin .unsafeSliceData => match c.args.toList with
    | [x] => match aSliceData (ρ x) with
      | some v => some (.value v, h)
      | none => aFlat P o ρ h
    | _ => none
  | .builtin .unsafeString => match c.args.toList, c.argTypes.toList with
    | [p, n], [pt, _] => match aUString P pt (ρ p) (ρ n) h with
      | some y => some (.value y.1, y.2)
      | none => aFlat P o ρ h
    | _, _ => none
  | _ => aFlat P o ρ h
def aDefer (P : Program) (c : Call) (ρ : Operand → Value) : Option Deferred :=
  match c.callee with
  | .value f =>
    match ρ f with
    | .func (.func g) first captured => if bodied P g then some { target := .fn (.func g) captured, args := first ++ c.args.map ρ } else none
    | _ => none
  | _ => none
def aop (P : Program) (o : Oper) (ρ : Operand → Value) (h : AH) : Option (Next × AH) :=
  match o.op with
  | .move x | .assign x => some (.value (ρ x), h)
  | .pick c a b => match ρ c with
    | .bool t => some (.value (if t then ρ a else ρ b), h)
    | _ => none
  | .alloc t => if Nat.blt t P.types.size then arun P (execOp ρ o) h else none
  | .box _ _ | .load _ _ | .store _ _ _ | .fieldAddr _ _ _ | .field _ _ _ | .indexAddr _ _ _ | .index _ _ _ | .extract _ _ | .makeInterface _ _ | .makeMap _ _ | .slice _ _ _ _ none => arun P (execOp ρ o) h
  | .build t parts => (if Nat.blt t P.types.size then P.built t (parts.map fun (i, x) => (i, ρ x)).toList else none).map fun c => (.value (.agg c), h)
  | .buildSlice t len parts => match aBuildSlice P t len (parts.map fun (i, x) => (i, ρ x)).toList with
    | some (e, c) => if room h then some (.value (.slice (some ⟨h.next, 0, none⟩) len len), h.push (.cells c e (0, 0)) false) else none
    | none => none
  | .nilCheck x => match ρ x with
    | .pointer (some a) => some (.value (.pointer (some a)), h)
    | .func (.func f) a b => some (.value (.func (.func f) a b), h)
    | .iface t v => some (.value (.iface t v), h)
    | _ => none
  | .binOp op t x y _ => match op, aNilEq P t (ρ x) (ρ y) with
    | .eql, some b => some (.value (.bool b), h)
    | .neq, some b => some (.value (.bool (!b)), h)
    | _, _ => aFlat P o ρ h
  | .convert src dst x => match aConvert P src dst (ρ x) h with
    | some y => some (.value y.1, y.2)
    | none => match aToU P src dst (ρ x) h with
      | some v => some (.value v, h)
      | none => aFlat P o ρ h
  | .makeFunc fn first captured => if fnOk fn then some (.value (.func fn (first.map ρ) (captured.map ρ)), h) else none
  | .makeSlice t l c => (aMakeSlice P t (ρ l) (ρ c) h).map fun y => (.value y.1, y.2)
  | .lookup t x i ok => (aLookup P t (ρ x) (ρ i) ok h).map fun v => (.value v, h)
  | .mapUpdate t x i v | .insert t x i v => (aMapUpdate P t (ρ x) (ρ i) (ρ v) h).map fun h' => (.skip, h')
  | .unOp _ _ _ => aFlat P o ρ h
  | .call c => aCall P o c ρ h
  | .defer c => (aDefer P c ρ).map fun d => (.defer d, h)
  | _ => none

section
variable {P : Program} {w0 : W0} {E : Env} {h : AH} {w : World}
theorem sim_v {s s' : Sem Value} (hs : Sim P w0 E VR s s') : Sim P w0 E NextR (do pure (.value (← s))) (do pure (.value (← s'))) :=
  sim_bind hs fun E' le a b r => sim_pure (.value r)
theorem sim_u {s s' : Sem Unit} (hs : Sim P w0 E (fun _ _ _ => True) s s') : Sim P w0 E NextR (do s; pure .skip) (do s'; pure .skip) :=
  sim_bind hs fun E' le a b r => sim_pure .skip
/-- What is shown of an operation. -/
def OpOk (P : Program) (w0 : W0) (E : Env) (w : World) (s' : Sem Next) (n : Next) (h' : AH) : Prop :=
  ∃ E' n' w', E.le E' ∧ NextR E' n n' ∧ s'.run P w = .ok n' w' ∧ HR P w0 E' h' w'
theorem OpOk.of_sim {s s' : Sem Next} (hs : Sim P w0 E NextR s s') (H : HR P w0 E h w) {n : Next} {h' : AH} (eq : arun P s h = some (n, h')) : OpOk P w0 E w s' n h' := hs h n h' eq w H
theorem aFlat_ok (H : HR P w0 E h w) {o : Oper} {ρ ρ' : Operand → Value} (hns : noSelect o.op = true) (hρ : ∀ x ∈ o.op.operands, VR E (ρ x) (ρ' x)) {n : Next} {h' : AH} (eq : aFlat P o ρ h = some (n, h')) : OpOk P w0 E w (execOp ρ' o) n h' := by
  unfold aFlat at eq
  split at eq
  · rename_i hf
    have same : execOp ρ' o = execOp ρ o := (execOp_congr o (fun cs b e => by rw [e] at hns; cases hns) (fun x hx => (flat_eq 4 (List.all_eq_true.1 hf x (Array.mem_toList_iff.2 hx)) (hρ x hx)).symm)).symm
    split at eq
    · rename_i n1 hp
      split at eq
      · rename_i hfn
        cases eq
        refine ⟨E, n, w, E.le_refl, ?_, by rw [same]; exact prun_run hp w, H⟩
        cases n with
        | value v => exact .value (flat_refl 5 hfn)
        | skip => exact .skip
        | enter f as => exact .enter (flats_refl hfn)
        | _ => cases hfn
      · cases eq
    · cases eq
  · cases eq
theorem aAppendZ_run (H : HR P w0 E h w) {s s' x x' : Value} (rs : VR E s s') (rx : VR E x x') {t tx : TypeId} {v : Value} {h' : AH} (eq : aAppendZ P t tx s x h = some (v, h')) (ty : TypeId) :
    ∃ E' v' w', E.le E' ∧ VR E' v v' ∧ (Builtin.append_ #[t, tx] ty #[s', x']).run P w = .ok v' w' ∧ HR P w0 E' h' w' := by
  unfold aAppendZ at eq
  split at eq
  · rename_i e kx k n ht hx
    split at eq
    · rename_i i hi
      split at eq
      · rename_i z hz
        split at eq
        · rename_i hc
          simp only [Bool.and_eq_true, Nat.ble_eq, Nat.blt_eq] at hc
          obtain ⟨⟨⟨⟨⟨h1, h2⟩, h3⟩, h4⟩, h5⟩, h6⟩ := hc
          have h5 := Nat.eq_of_beq_eq_true h5
          cases rs
          cases rx
          have hle : n * i.bytes ≤ 65536 * 65536 := Nat.mul_le_mul h2 h3
          have hr := Lib.run_append_nil_zeros w t tx ty e i z k kx ht hx hi hz n h1 h4 (by omega) (by omega)
          have hvl : VL E (Builtin.zeroCells z.cells n).toList (Builtin.zeroCells z.cells n).toList := VL.of _ _ rfl fun j g1 g2 => flat_refl 4 (List.all_eq_true.1 h6 _ (List.getElem_mem g1))
          obtain ⟨E', le, rv, H'⟩ := grow_new H hi h5 hvl (n := n) (m := grownCap w n 0 e) (by simp [zeroCells_size, h5]) (grownCap_ge w n 0 e) eq
          refine ⟨E', _, _, le, rv, hr, ?_⟩
          simpa using H'
        · cases eq
      · cases eq
    · cases eq
  · cases eq
theorem aConvert_ok (H : HR P w0 E h w) {src dst : TypeId} {x x' v : Value} {h' : AH} (rx : VR E x x') (eq : aConvert P src dst x h = some (v, h')) :
    ∃ E' v' w', E.le E' ∧ VR E' v v' ∧ (convert src dst x').run P w = .ok v' w' ∧ HR P w0 E' h' w' := by
  unfold aConvert at eq
  split at eq
  · rename_i e b o len cap hs hd
    split at eq
    · rename_i l he hr
      split at eq
      · rename_i hc
        cases eq
        simp only [Bool.and_eq_true, Bool.not_eq_true'] at hc
        cases rx with
        | @slice _ _ _ _ _ b' op cap' eb hcap hlc =>
          obtain ⟨l', rl, q1, q2, q3⟩ := rowOf_rel H hr eb
          have hll : l' = l := by
            apply List.ext_getElem (by omega)
            intro i g1 g2
            have hv := List.all_eq_true.1 hc.1 l[i] (List.getElem_mem g2)
            have hr2 := rl.get i g2 g1
            cases hli : l[i] with
            | int k n =>
              rw [hli] at hr2
              exact flat_eq 4 rfl hr2
            | _ => rw [hli] at hv; cases hv
          subst hll
          refine ⟨E, _, w, E.le_refl, .string _, run_convert_bytes_arg (P := P) w src e hs he b' o len cap' _ (by simpa using q2) (fun i hi => ?_) dst hd, H⟩
          have hil : i < l'.length := by omega
          rw [q3 i _ (List.getElem?_eq_getElem hil)]
          have hv := List.all_eq_true.1 hc.1 l'[i] (List.getElem_mem hil)
          simp only [List.getD_eq_getElem?_getD, List.getElem?_map, List.getElem?_eq_getElem hil, Option.map_some, Option.getD_some]
          cases hli : l'[i] with
          | int k n =>
            rw [hli] at hv
            cases k <;> first | rfl | cases hv
          | _ => rw [hli] at hv; cases hv
        | empty eb =>
          simp at hc
      · cases eq
    · cases eq
  · rename_i e s hs hd
    split at eq
    · rename_i he
      simp only at eq
      split at eq
      · rename_i hc
        cases eq
        cases rx
        simp only [Bool.and_eq_true, Nat.ble_eq] at hc
        obtain ⟨⟨⟨hsz, hfl⟩, hr⟩, hcell⟩ := hc
        have hcell : P.cellsOf e = 1 := Nat.eq_of_beq_eq_true hcell
        have hrun := run_runes_of_string w src dst e s hs hd he (by omega)
        generalize Conv.runesFrom s s.size 0 #[] = rs at *
        have hge := grownCap_ge w rs.size 0 e
        generalize grownCap w rs.size 0 e = m at *
        have le := H.ext_le (w.heap.size, some (m - rs.size))
        refine ⟨_, _, _, le, .slice (op := some (m - rs.size)) (by simp [Env.ext]) (.inr ⟨_, rfl, by omega⟩) (Nat.le_refl _), hrun, ?_⟩
        have H' := H.drawn (w.drawn + 1)
        exact HR.push H' (op := some (m - rs.size)) (.cells (by simp [hcell]) (fun j hj => by simp) (fun j g1 g2 => by
          rw [Array.getElem_append_left g1]
          exact flat_refl 4 (all_at hfl j g1))) (room_of hr).1 (room_of hr).2
      · cases eq
    · rename_i he
      simp only at eq
      split at eq
      · rename_i hc
        cases eq
        cases rx
        simp only [Bool.and_eq_true] at hc
        obtain ⟨⟨hfl, hr⟩, hcell⟩ := hc
        have hcell : P.cellsOf e = 1 := Nat.eq_of_beq_eq_true hcell
        have hrun := run_bytes_of_string w src dst e s hs hd he
        have hge := grownCap_ge w s.size 0 e
        have hds : s.data.size = s.size := rfl
        generalize grownCap w s.size 0 e = m at *
        have le := H.ext_le (w.heap.size, some (m - s.size))
        refine ⟨_, _, _, le, .slice (op := some (m - s.size)) (by simp [Env.ext]) (.inr ⟨_, rfl, by omega⟩) (Nat.le_refl _), hrun, ?_⟩
        have H' := H.drawn (w.drawn + 1)
        have hsize : (bytesRow s m).size = s.size + (m - s.size) := by simp [bytesRow, hds]
        exact HR.push H' (op := some (m - s.size)) (.cells (by simp only [Array.size_map, hds, Option.getD_some, hcell, Nat.mul_one]; exact hsize) (fun j hj => by simp only; omega) (fun j g1 g2 => by
          have this : (bytesRow s m)[j]? = (s.data.map fun b => Value.int .u8 b.toNat)[j]? := by
            unfold bytesRow
            rw [Array.getElem?_append_left g1]
          rw [Array.getElem?_eq_getElem g2, Array.getElem?_eq_getElem g1] at this
          rw [Option.some.inj this]
          exact flat_refl 4 (all_at hfl j g1))) (room_of hr).1 (room_of hr).2
      · cases eq
    · cases eq
  · cases eq
end
end Go.Ab
