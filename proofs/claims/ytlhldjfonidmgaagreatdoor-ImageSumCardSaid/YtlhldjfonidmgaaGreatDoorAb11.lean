/- Made slices, maps, conversions, comparisons with nil. -/
import Derived.Test.YtlhldjfonidmgaaGreatDoorAb10
namespace Go.Ab
set_option linter.unusedSimpArgs false
set_option linter.unusedVariables false
set_option linter.unusedSectionVars false
section
variable {P : Program} {w0 : W0} {E : Env} {h : AH} {w : World}
def room (h : AH) : Bool := Nat.blt (h.next + 2) (2 ^ depth) && Nat.ble h.base h.next
theorem room_of {h : AH} (e : room h = true) : h.next + 2 < 2 ^ depth ∧ h.base ≤ h.next := by
  simpa [room, Nat.blt_eq, Nat.ble_eq] using e
/-- A new closed block. -/
theorem new_row (H : HR P w0 E h w) (hr : room h = true) {e : TypeId} {c c' : Array Value} (r : VRs E c c') :
    E.le (E.ext h.next (w.heap.size, none)) ∧ HR P w0 (E.ext h.next (w.heap.size, none)) (h.push (.cells c e (0, 0)) false) (w.alloc (.cells c' e)) :=
  ⟨H.ext_le _, H.push (op := none) (.row (r.mono (H.ext_le _))) (room_of hr).1 (room_of hr).2⟩
def aMakeSlice (P : Program) (t : TypeId) (len cap : Value) (h : AH) : Option (Value × AH) :=
  match len, cap with
  | .int _ l, .int _ c =>
    match P.underlying t with
    | some (.slice e) =>
      match P.info? e with
      | some i =>
        match i.zero with
        | some z =>
          if decide (0 ≤ l) && decide (l ≤ c) && decide (c ≤ 1048576) && Nat.ble i.bytes 65536 && Nat.ble (c.toNat * i.size) 16777216 && (madeCells z.cells (c.toNat * i.size)).toList.all (isFlat 4) && room h then
            some (.slice (some ⟨h.next, 0, none⟩) l.toNat c.toNat, h.push (.cells (madeCells z.cells (c.toNat * i.size)) e (0, 0)) false)
          else none
        | none => none
      | none => none
    | _ => none
  | _, _ => none
theorem aMakeSlice_run (H : HR P w0 E h w) {t : TypeId} {len cap v : Value} {h' : AH} (eq : aMakeSlice P t len cap h = some (v, h')) :
    ∃ E' v' w', E.le E' ∧ VR E' v v' ∧ (Instr.makeSlice t len cap).run P w = .ok v' w' ∧ HR P w0 E' h' w' := by
  unfold aMakeSlice at eq
  split at eq
  case h_2 => cases eq
  rename_i kl l kc c
  split at eq
  case h_2 => cases eq
  rename_i e hu
  split at eq
  case h_2 => cases eq
  rename_i i hi
  split at eq
  case h_2 => cases eq
  rename_i z hz
  split at eq
  · rename_i hc
    cases eq
    simp only [Bool.and_eq_true, decide_eq_true_eq, Nat.ble_eq] at hc
    obtain ⟨⟨⟨⟨⟨⟨h0, hlc⟩, hc20⟩, hb⟩, hcell⟩, hfl⟩, hr⟩ := hc
    have hbc : (i.bytes : Int) * c ≤ 281474976710656 := by
      have h1 : (i.bytes : Int) * c ≤ 65536 * 1048576 := Int.mul_le_mul (by omega) hc20 (by omega) (by omega)
      omega
    have hrun := run_makeSlice (P := P) w t e i z hu hi hz kl kc l c h0 hlc hcell hbc (by omega)
    obtain ⟨le, H'⟩ := new_row H hr (e := e) (flats_refl (E := E) hfl)
    exact ⟨_, _, _, le, .slice (op := none) (by simp [Env.ext]) (.inl rfl) (by omega), hrun, H'⟩
  · cases eq

/-- What a lookup does behind the map's reading. -/
def lookTail (key elem : TypeId) (es : Array MapEntry) (index : Value) (ok : Bool) : Sem Value := do
  Instr.checkKey es.isEmpty 10000 key index
  let (v, b) ← match ← Instr.findKey key index es.toList with
    | some (_, v) => pure (v, true)
    | none => pure (← zeroValue elem, false)
  pure (if ok then .tuple #[v, .bool b] else v)
theorem run_getObj {o : Obj} {r : Nat} (hw : w.heap[r]? = some o) (hn : ∀ c t fr, o ≠ .cells c t fr) : (getObj r).run P w = .ok o w := by
  cases o <;> first | exact absurd rfl (hn _ _ _) | simp [getObj, Sem.run, hw]
theorem run_lookup_map {t key elem : TypeId} (hu : P.underlying t = some (.map key elem)) {r : Nat} {es : Array MapEntry} {k : Nat} (hw : w.heap[r]? = some (.map es k)) (index : Value) (ok : Bool) :
    (Instr.lookup t (.map (some r)) index ok).run P w = (lookTail key elem es index ok).run P w := by
  have hg : (getObj r).run P w = .ok (.map es k) w := run_getObj hw (fun _ _ _ e => by cases e)
  simp only [Instr.lookup, lookTail, Sem.run_bind, run_underlying hu, Result.andThen_ok, hg, Sem.run_pure]
  refine congrArg _ (funext fun _ => funext fun w1 => congrArg _ (funext fun o => funext fun w2 => ?_))
  cases o <;> rfl
theorem run_lookup_nil {t key elem : TypeId} (hu : P.underlying t = some (.map key elem)) (index : Value) (ok : Bool) :
    (Instr.lookup t (.map none) index ok).run P w = (lookTail key elem #[] index ok).run P w := by
  simp only [Instr.lookup, lookTail, Sem.run_bind, run_underlying hu, Result.andThen_ok, Sem.run_pure]
  refine congrArg _ (funext fun _ => funext fun w1 => congrArg _ (funext fun o => funext fun w2 => ?_))
  cases o <;> rfl
def aLookup (P : Program) (t : TypeId) (x index : Value) (ok : Bool) (h : AH) : Option Value :=
  if !(isFlat 4 index) then none else
  match P.underlying t with
  | some (.map key elem) =>
    match x with
    | .map none => (prun P (lookTail key elem #[] index ok)).bind fun v => if isFlat 5 v then some v else none
    | .map (some r) => match h.get r with
      | some (.map es _, _) => (prun P (lookTail key elem es index ok)).bind fun v => if isFlat 5 v then some v else none
      | _ => none
    | _ => none
  | _ => none
theorem aLookup_run (H : HR P w0 E h w) {t : TypeId} {x x' index index' v : Value} {ok : Bool} (rx : VR E x x') (ri : VR E index index') (eq : aLookup P t x index ok h = some v) :
    VR E v v ∧ (Instr.lookup t x' index' ok).run P w = .ok v w := by
  unfold aLookup at eq
  split at eq
  · cases eq
  rename_i hf
  simp only [Bool.not_eq_true', Bool.not_eq_false] at hf
  obtain rfl := flat_eq 4 hf ri
  split at eq
  case h_2 => cases eq
  rename_i key elem hu
  cases rx with
  | nilMap =>
    simp only [Option.bind_eq_some_iff] at eq
    obtain ⟨v1, h1, h2⟩ := eq
    split at h2
    · rename_i hv
      cases h2
      exact ⟨flat_refl 5 hv, by rw [run_lookup_nil hu]; exact prun_run h1 w⟩
    · cases h2
  | map e =>
    simp only at eq
    split at eq
    · rename_i es k fl hg
      simp only [Option.bind_eq_some_iff] at eq
      obtain ⟨v1, h1, h2⟩ := eq
      obtain ⟨b, op, o', e1, _, hw, ro⟩ := H.blk _ _ _ hg e
      rw [e] at e1
      cases e1
      cases ro with
      | map hfl =>
        split at h2
        · rename_i hv
          cases h2
          exact ⟨flat_refl 5 hv, by rw [run_lookup_map hu hw]; exact prun_run h1 w⟩
        · cases h2
    · cases eq
  | _ => cases eq
def updTail (key : TypeId) (es : Array MapEntry) (clock : Nat) (k v : Value) : Sem (Array MapEntry × Nat) := do
  Instr.checkKey false 10000 key k
  match ← Instr.findKey key k es.toList with
  | some (i, _) => do
    let k ← Instr.keyThatStays (((es[i]?).map (·.key)).getD k) k
    pure (es.modify i fun e => { e with key := k, val := v }, clock)
  | none => pure (es.push { key := k, val := v, born := clock }, clock + 1)
theorem andThen_assoc {α β γ : Type} (r : Result α) (f : α → World → Result β) (g : β → World → Result γ) : (r.andThen f).andThen g = r.andThen fun a w => (f a w).andThen g := by cases r <;> rfl
theorem run_mapUpdate_map {t key elem : TypeId} (hu : P.underlying t = some (.map key elem)) {r : Nat} {es : Array MapEntry} {k : Nat} (hw : w.heap[r]? = some (.map es k)) (index v : Value) :
    (Instr.mapUpdate t (.map (some r)) index v).run P w = ((updTail key es k index v).run P w).andThen fun x w' => (setObj r (.map x.1 x.2)).run P w' := by
  have hg : (getObj r).run P w = .ok (.map es k) w := run_getObj hw (fun _ _ _ e => by cases e)
  simp only [Instr.mapUpdate, updTail, Sem.run_bind, run_underlying hu, Result.andThen_ok, hg, andThen_assoc]
  congr 1
  funext _ w1
  congr 1
  funext o w2
  cases o with
  | none => simp only [Sem.run_pure, Result.andThen_ok]
  | some q => simp only [Sem.run_bind, Sem.run_pure, Result.andThen_ok, andThen_assoc]
def flatEntries (es : Array MapEntry) : Bool := es.toList.all fun e => isFlat 4 e.key && isFlat 4 e.val
def aMapUpdate (P : Program) (t : TypeId) (x index v : Value) (h : AH) : Option AH :=
  if !(isFlat 4 index && isFlat 4 v) then none else
  match P.underlying t with
  | some (.map key _) =>
    match x with
    | .map (some r) => match h.get r with
      | some (.map es k, fl) =>
        match prun P (updTail key es k index v) with
        | some (es', k') => if flatEntries es' && Nat.ble h.base r then some (h.set r (some (.map es' k', fl))) else none
        | none => none
      | _ => none
    | _ => none
  | _ => none
theorem aMapUpdate_run (H : HR P w0 E h w) {t : TypeId} {x x' index index' v v' : Value} {h' : AH} (rx : VR E x x') (ri : VR E index index') (rv : VR E v v') (eq : aMapUpdate P t x index v h = some h') :
    ∃ w', (Instr.mapUpdate t x' index' v').run P w = .ok () w' ∧ HR P w0 E h' w' := by
  unfold aMapUpdate at eq
  split at eq
  · cases eq
  rename_i hf
  simp only [Bool.not_eq_true', Bool.not_eq_false, Bool.and_eq_true] at hf
  obtain rfl := flat_eq 4 hf.1 ri
  obtain rfl := flat_eq 4 hf.2 rv
  split at eq
  case h_2 => cases eq
  rename_i key elem hu
  cases rx with
  | map e =>
    simp only at eq
    split at eq
    · rename_i es k fl hg
      split at eq
      · rename_i es' k' hp
        split at eq
        · rename_i hc
          cases eq
          simp only [Bool.and_eq_true, Nat.ble_eq] at hc
          obtain ⟨b, op, o', e1, ef, hw, ro⟩ := H.blk _ _ _ hg e
          rw [e] at e1
          cases e1
          cases ro with
          | map hfl =>
            have hput := H.put hg hc.2 e (o := .map es' k') (o' := .map es' k') (.map (fun en hen => by
              have := List.all_eq_true.1 hc.1 en hen
              simpa using this))
            rw [ef] at hput
            refine ⟨_, ?_, hput⟩
            rw [run_mapUpdate_map hu hw, prun_run hp w, Result.andThen_ok]
            simp [setObj, Sem.run, hw]
        · cases eq
      · cases eq
    · cases eq
  | _ => cases eq
/-- Comparison where one side is nil, the other one is not. -/
def aNilEq0 (P : Program) (t : TypeId) (x y : Value) : Option Bool :=
  match P.underlying t, x, y with
  | some (.pointer _), .pointer none, .pointer b => some b.isNone
  | some (.pointer _), .pointer (some _), .pointer none => some false
  | some (.interface _), .nilIface, .iface _ _ => some false
  | some (.interface _), .iface _ _, .nilIface => some false
  | some (.slice _), .slice none _ _, .slice b _ _ => some b.isNone
  | some (.slice _), .slice (some _) _ _, .slice none _ _ => some false
  | some (.map _ _), .map none, .map b => some b.isNone
  | some (.map _ _), .map (some _), .map none => some false
  | some (.func _ _ _), .nilFunc, .func _ _ _ => some false
  | some (.func _ _ _), .func _ _ _, .nilFunc => some false
  | _, _, _ => none
theorem aNilEq0_run {t : TypeId} {x x' y y' : Value} (rx : VR E x x') (ry : VR E y y') {b : Bool} (eq : aNilEq0 P t x y = some b) (w : World) (u v : Operand) (op : BinOp) :
    (eqGuard op t u v x' y').run P w = .ok () w ∧ (Op.equal t x' y').run P w = .ok b w ∧ binOp .eql t x' y' = (do pure (.bool (← Op.equal t x' y'))) ∧ binOp .neq t x' y' = (do pure (.bool (!(← Op.equal t x' y')))) := by
  unfold aNilEq0 at eq
  split at eq <;> first | cases eq | skip
  all_goals rename_i hu
  all_goals (try cases eq)
  all_goals cases rx <;> cases ry
  all_goals refine ⟨?_, ?_, ?_, ?_⟩
  all_goals first
    | rfl
    | (cases op <;> rfl; done)
    | (show (Op.equalIn (9999 + 1) t _ _).run P w = _
       generalize 9999 = d
       rw [Op.equalIn]
       simp only [Sem.run_bind, run_underlying hu, Result.andThen_ok, Sem.run_pure, Option.isNone_none, Option.isNone_some]
       done)
end
end Go.Ab
