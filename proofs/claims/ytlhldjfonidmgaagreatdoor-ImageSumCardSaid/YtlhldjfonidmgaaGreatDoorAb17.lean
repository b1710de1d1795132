/- unsafe.Pointer, internal/abi.NoEscape, unsafe.String. -/
import Derived.Test.YtlhldjfonidmgaaGreatDoorAb11
import Derived.Lib.Builder
import Derived.Lib.UnsafeStr
import Derived.KernelRfl
namespace Go.Ab
set_option linter.unusedSimpArgs false
set_option linter.unusedVariables false
set_option linter.unusedSectionVars false
/-- A pointer to an unsafe.Pointer and back. -/
def aToU (P : Program) (src dst : TypeId) (x : Value) (h : AH) : Option Value :=
  match P.underlying src, P.underlying dst, x with
  | some (.pointer t), some .unsafePointer, .pointer (some ⟨b, o, none⟩) =>
    match P.info? t, h.get b with
    | some j, some (.cells c _ _, _) => if !(Nat.beq j.size 0) && Nat.blt o c.size then some (.pointer (some ⟨b, o, none⟩)) else none
    | _, _ => none
  | some .unsafePointer, some (.pointer u), .pointer (some ⟨b, o, none⟩) =>
    match P.info? u, h.get b with
    | some _, some (.cells c t _, false) => if liesAt P P.depth t (c.size / P.cellsOf t) o u 1 then some (.pointer (some ⟨b, o, none⟩)) else none
    | _, _ => none
  | _, _, _ => none
def isNoEsc (P : Program) (g : FuncId) : Bool :=
  match P.funcs[g]? with
  | some fn => fn.body.isNone && fn.name == "internal/abi.NoEscape" && (Extern.findNext fn).isNone
  | none => false
def aSliceData (x : Value) : Option Value :=
  match x with
  | .slice (some a) _ c => if Nat.blt 0 c then some (.pointer (some a)) else none
  | _ => none
def byteOf : Value → Option UInt8
  | .int .u8 (.ofNat n) => if Nat.blt n 256 then some (UInt8.ofNat n) else none
  | _ => none
def bytesOf : List Value → Option (List UInt8)
  | [] => some []
  | v :: l => match byteOf v, bytesOf l with
    | some b, some bs => some (b :: bs)
    | _, _ => none
def aUString (P : Program) (pt : TypeId) (p n : Value) (h : AH) : Option (Value × AH) :=
  match P.underlying pt, p, n with
  | some (.pointer e), .pointer (some ⟨b, 0, none⟩), .int .i64 (.ofNat k) =>
    match h.get b with
    | some (.cells c t _, _) =>
      if Nat.beq (P.cellsOf e) 1 && Nat.beq t e && Nat.blt 0 k && Nat.ble k 1048576 && Nat.ble h.base b then
        match rowOf h b 0 k with
        | some l => match bytesOf l with
          | some bs => some (.string ⟨bs.toArray⟩, h.set b none)
          | none => none
        | none => none
      else none
    | _ => none
  | _, _, _ => none
theorem find_noEscape (fn : Func) (hn : fn.name = "internal/abi.NoEscape") : Extern.find fn = some Extern.AbiNoEscape.same := by
  have h1 : Extern.allGenericRows.lookup "internal/abi.NoEscape" = none := by kernel_rfl
  have h2 : Extern.allTypedRows.lookup "internal/abi.NoEscape" = none := by kernel_rfl
  have h3 : Extern.allRows.lookup "internal/abi.NoEscape" = some Extern.AbiNoEscape.same := by kernel_rfl
  unfold Extern.find
  rw [hn]
  simp only [h1, h2, h3]
  rfl
theorem run_noEsc {P : Program} {g : FuncId} (hb : isNoEsc P g = true) (x : Value) (w : World) : (callFunc g #[x]).run P w = .ok (.value x) w := by
  unfold isNoEsc at hb
  split at hb
  · rename_i fn hf
    simp only [Bool.and_eq_true, beq_iff_eq, Option.isNone_iff_eq_none] at hb
    obtain ⟨⟨h1, h2⟩, h3⟩ := hb
    have h4 : ¬ fn.name = "runtime.NumGoroutine" := by rw [h2]; decide
    simp [callFunc, hf, h1, h4, h3, find_noEscape fn h2, Lib.run_noEscape]
  · cases hb
section
variable {P : Program} {w0 : W0} {E : Env} {h : AH} {w : World}
theorem aToU_run (H : HR P w0 E h w) {src dst : TypeId} {x x' v : Value} (rx : VR E x x') (eq : aToU P src dst x h = some v) : ∃ v', VR E v v' ∧ (convert src dst x').run P w = .ok v' w := by
  unfold aToU at eq
  split at eq
  · rename_i t b o hs hd
    split at eq
    · rename_i j c t2 fr fl hj hg
      split at eq
      · rename_i hc
        cases eq
        simp only [Bool.and_eq_true, Nat.blt_eq, Bool.not_eq_true'] at hc
        cases rx with
        | @ptr _ _ _ b' op eb =>
          obtain ⟨b1, op1, c', fr', e1, ef, hw, s1, s2, s3⟩ := H.row hg eb
          rw [eb] at e1
          cases e1
          refine ⟨_, .ptr eb, Lib.run_to_unsafe w (e := t2) (cells := c'.size) ⟨b', o, none⟩ hs hd hj (fun e => by rw [e] at hc; simp at hc) (by simp [World.shape?, hw]) ?_⟩
          show o < c'.size
          omega
      · cases eq
    · cases eq
  · rename_i u b o hs hd
    split at eq
    · rename_i j c t2 fr hj hg
      split at eq
      · rename_i hc
        cases eq
        cases rx with
        | @ptr _ _ _ b' op eb =>
          obtain ⟨b1, op1, c', fr', e1, ef, hw, s1, s2, s3⟩ := H.row hg eb
          rw [eb] at e1
          cases e1
          have hop : op = none := by
            cases op with
            | none => rfl
            | some m => cases ef
          subst hop
          simp only [Option.getD_none, Nat.zero_mul, Nat.add_zero] at s1
          exact ⟨_, .ptr eb, Lib.run_from_unsafe w (e := t2) (cells := c'.size) ⟨b', o, none⟩ hs hd hj (by simp [World.shape?, hw]) (by rw [s1]; exact hc)⟩
      · cases eq
    · cases eq
  · cases eq
theorem aSliceData_run {x x' v : Value} (rx : VR E x x') (eq : aSliceData x = some v) (ts : Array TypeId) (ty : TypeId) : ∃ v', VR E v v' ∧ (Builtin.unsafeSliceData_ ts ty #[x']).run P w = .ok v' w := by
  unfold aSliceData at eq
  split at eq
  · rename_i a n c
    split at eq
    · rename_i hc
      rw [Nat.blt_eq] at hc
      cases eq
      cases rx with
      | slice eb hcap hl => exact ⟨_, .ptr eb, Lib.run_unsafeSliceData_row w ts ty _ _ _ (by rcases hcap with rfl | ⟨m, _, rfl⟩ <;> omega)⟩
      | empty eb => omega
    · cases eq
  · cases eq
/-- A block forgotten, and then changed. -/
theorem HR.scrap (H : HR P w0 E h w) {i b : Nat} {op : Option Nat} {x : Obj × Bool} (hg : h.get i = some x) (hbase : h.base ≤ i) (eb : E i = some (b, op)) (f : Obj → Obj) : HR P w0 E (h.set i none) { w with heap := w.heap.modify b f } := by
  have hd : i + 1 < 2 ^ depth := by have := H.dep; have := H.lt hg; omega
  have get : ∀ j, (h.set i none).get j = if j = i then none else h.get j := fun j => Tr.get_set depth h.t i _ j hd
  have hb0 := H.own i b op hbase eb
  have K := H.kill (H.lt hg)
  refine ⟨K.dom, fun j c p e => by simpa using H.img j c p e, fun j oj p hj {xj} ej => ?_, K.inj, ⟨H.old.os, H.old.tape, H.old.output, by simpa using H.old.size, fun k hk => ?_⟩, K.own, K.dep, K.lt, K.pend⟩
  · obtain ⟨c, q, oj', e, ef, hc, rj⟩ := K.blk j oj p hj ej
    refine ⟨c, q, oj', e, ef, ?_, rj⟩
    rw [get] at hj
    by_cases hji : j = i
    · simp [hji] at hj
    · simp only [hji, if_false] at hj
      have hne : b ≠ c := fun hbc => hji (H.inj j i c q op _ _ hj hg e (hbc ▸ eb))
      show (w.heap.modify b f)[c]? = _
      rw [Array.getElem?_modify, if_neg hne]; exact hc
  · show (w.heap.modify b f)[k]? = _
    rw [Array.getElem?_modify, if_neg (by omega)]
    exact H.old.blk k hk
theorem bytesOf_at : ∀ (l : List Value) (bs : List UInt8), bytesOf l = some bs → bs.length = l.length ∧ ∀ (j : Nat) (x : UInt8), bs[j]? = some x → l[j]? = some (.int .u8 x.toNat)
  | [], bs, e => by cases e; exact ⟨rfl, fun j x h => by simp at h⟩
  | v :: l, bs, e => by
    simp only [bytesOf] at e
    split at e
    · rename_i b bs' hb hbs
      cases e
      obtain ⟨h1, h2⟩ := bytesOf_at l bs' hbs
      refine ⟨by simp [h1], fun j x hx => ?_⟩
      cases j with
      | zero =>
        simp only [List.getElem?_cons_zero, Option.some.injEq] at hx ⊢
        subst hx
        unfold byteOf at hb
        split at hb
        · rename_i n
          split at hb
          · rename_i hn
            rw [Nat.blt_eq] at hn
            cases hb
            simp [UInt8.toNat_ofNat, Nat.mod_eq_of_lt hn]
          · cases hb
        · cases hb
      | succ j => exact h2 j x (by simpa using hx)
    · cases e
theorem aUString_run (H : HR P w0 E h w) {p p' n n' v : Value} {h' : AH} (rp : VR E p p') (rn : VR E n n') {pt : TypeId} (eq : aUString P pt p n h = some (v, h')) (it ty : TypeId) :
    ∃ w', (Builtin.unsafeString_ #[pt, it] ty #[p', n']).run P w = .ok v w' ∧ VR E v v ∧ HR P w0 E h' w' := by
  unfold aUString at eq
  split at eq
  · rename_i e b k hp
    split at eq
    · rename_i c t fr fl hg
      split at eq
      · rename_i hc
        simp only [Bool.and_eq_true, Nat.blt_eq, Nat.ble_eq] at hc
        obtain ⟨⟨⟨⟨hc1, hte⟩, hk0⟩, hk20⟩, hbase⟩ := hc
        have hc1 := Nat.eq_of_beq_eq_true hc1
        have hte := Nat.eq_of_beq_eq_true hte
        subst hte
        split at eq
        · rename_i l hrow
          split at eq
          · rename_i bs hbs
            cases eq
            cases rn
            cases rp with
            | @ptr _ _ _ b' op eb =>
              obtain ⟨b1, op1, c', fr', e1, ef, hw, s1, s2, s3⟩ := H.row hg eb
              rw [eb] at e1
              cases e1
              obtain ⟨l', rl, q1, q2, q3⟩ := rowOf_rel H hrow eb
              obtain ⟨g1, g2⟩ := bytesOf_at l bs hbs
              have hll : ∀ (j : Nat) (x : UInt8), bs[j]? = some x → l'[j]? = some (.int .u8 x.toNat) := fun j x hx => by
                have h1 := g2 j x hx
                obtain ⟨hj, hj1⟩ := List.getElem?_eq_some_iff.1 h1
                have hj' : j < l'.length := by omega
                have hr := rl.get j hj hj'
                rw [hj1] at hr
                rw [List.getElem?_eq_getElem hj', flat_eq 4 rfl hr]
              have hlen : k ≤ c'.size := by
                have : w.cell? ⟨b', 0 + (k - 1), none⟩ = some l'[k - 1] := q3 _ _ (List.getElem?_eq_getElem (by omega))
                simp only [World.cell?, hw] at this
                have h2 := (Array.getElem?_eq_some_iff.1 (by simpa using this)).1
                omega
              have hbk : bs.length = k := by omega
              have hr := Lib.run_unsafeString_row (P := P) w pt it ty t hp hc1 b' c'.size (by simp [World.shape?, hw]) bs (fun e => by rw [e] at hbk; simp at hbk; omega) (by omega) (by omega) (fun j x hx => by
                rw [Addr.add_lit]
                exact q3 j _ (hll j x hx))
              rw [hbk] at hr
              refine ⟨_, hr, .string _, ?_⟩
              unfold World.freeze
              rw [if_neg (by omega)]
              exact H.scrap hg hbase eb _
          · cases eq
        · cases eq
      · cases eq
    · cases eq
  · cases eq
/-- The same pointer twice. -/
def aSamePtr (P : Program) (t : TypeId) (x y : Value) : Option Bool :=
  match P.underlying t, x, y with
  | some (.pointer e), .pointer (some ⟨b, o, none⟩), .pointer (some ⟨c, p, none⟩) => if Nat.beq b c && Nat.beq o p && (P.info? e).isSome then some true else none
  | _, _, _ => none
def aNilEq (P : Program) (t : TypeId) (x y : Value) : Option Bool := (aNilEq0 P t x y).or (aSamePtr P t x y)
theorem aNilEq_run {t : TypeId} {x x' y y' : Value} (rx : VR E x x') (ry : VR E y y') {b : Bool} (eq : aNilEq P t x y = some b) (w : World) (u v : Operand) (op : BinOp) :
    (eqGuard op t u v x' y').run P w = .ok () w ∧ (Op.equal t x' y').run P w = .ok b w ∧ binOp .eql t x' y' = (do pure (.bool (← Op.equal t x' y'))) ∧ binOp .neq t x' y' = (do pure (.bool (!(← Op.equal t x' y')))) := by
  rcases Option.or_eq_some_iff.1 eq with eq0 | ⟨hno, eq0⟩
  · exact aNilEq0_run rx ry eq0 w u v op
  · unfold aSamePtr at eq0
    split at eq0
    · rename_i e b1 o c p hp
      split at eq0
      · rename_i hc
        cases eq0
        simp only [Bool.and_eq_true] at hc
        obtain ⟨⟨h1, h2⟩, h3⟩ := hc
        have h1 := Nat.eq_of_beq_eq_true h1
        have h2 := Nat.eq_of_beq_eq_true h2
        subst h1 h2
        obtain ⟨j, hj⟩ := Option.isSome_iff_exists.1 h3
        cases rx with
        | ptr e1 =>
          cases ry with
          | ptr e2 =>
            rw [e1] at e2
            cases e2
            refine ⟨by cases op <;> rfl, ?_, rfl, rfl⟩
            have h : ∀ (a : Addr) (d : Nat), (Op.equalIn (d + 1) t (.pointer (some a)) (.pointer (some a))).run P w = .ok true w := fun a d => by
              simp [Op.equalIn, run_underlying hp, sizeOf, typeInfo, hj, run_sameAddr_same]
            exact h _ 9999
      · cases eq0
    · cases eq0
end
end Go.Ab
