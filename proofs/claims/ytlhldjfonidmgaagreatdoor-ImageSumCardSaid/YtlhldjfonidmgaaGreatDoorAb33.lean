/- The quick executor: what it reads is what the plain one reads. -/
import Derived.Test.YtlhldjfonidmgaaGreatDoorAb32
namespace Go.Ab
set_option linter.unusedSimpArgs false
set_option linter.unusedVariables false
theorem rrun_bind' {P : Program} {α β : Type} (s : Sem α) (f : α → Sem β) (h : AH) : rrun P (s.bind f) h = (rrun P s h).bind fun x => rrun P (f x) h := by
  induction s with
  | pure a => rfl
  | load m a k ih => simp only [Sem.bind, rrun]; split <;> simp [ih]
  | getObj r k ih => simp only [Sem.bind, rrun]; (repeat' split) <;> simp [ih]
  | program k ih => simp only [Sem.bind, rrun]; exact ih _
  | mark m k ih => simp only [Sem.bind, rrun]; exact ih
  | _ => simp [Sem.bind, rrun]
theorem rrun_bind {P : Program} {α β : Type} (s : Sem α) (f : α → Sem β) (h : AH) : rrun P (s >>= f) h = (rrun P s h).bind fun x => rrun P (f x) h := rrun_bind' s f h
theorem rrun_pure {P : Program} {α : Type} (a : α) (h : AH) : rrun P (pure a : Sem α) h = some a := rfl
theorem rrun_load {P : Program} (a : Addr) (h : AH) {v : Value} (e : h.cell? a = some v) : rrun P (load a) h = some v := by
  simp only [load, rrun, e]
section
variable {P : Program} {h : AH}
theorem rrun_underlying {t : TypeId} {d : TypeDesc} (e : P.underlying t = some d) : rrun P (underlying t) h = some d := by
  show rrun P (program >>= _) h = _
  rw [rrun_bind]
  show rrun P (match P.underlying t with | some d => pure d | none => stuck "no such type") h = _
  rw [e]
  rfl
theorem rrun_typeInfo {t : TypeId} {i : TypeInfo} (e : P.info? t = some i) : rrun P (typeInfo t) h = some i := by
  show rrun P (program >>= _) h = _
  rw [rrun_bind]
  show rrun P (match P.info? t with | some d => pure d | none => stuck "no such type") h = _
  rw [e]
  rfl
theorem rrun_sizeOf {t : TypeId} {i : TypeInfo} (e : P.info? t = some i) : rrun P (sizeOf t) h = some i.size := by
  show rrun P (typeInfo t >>= _) h = _
  rw [rrun_bind, rrun_typeInfo e]
  rfl
theorem rrun_isAgg {t : TypeId} {d : TypeDesc} (e : P.underlying t = some d) : rrun P (isAgg t) h = some (isAggT d) := by
  show rrun P (underlying t >>= _) h = _
  rw [rrun_bind, rrun_underlying e]
  cases d <;> rfl
theorem rrun_cells {a : Addr} : ∀ (n i : Nat) (acc : Array Value) (l : List Value), l.length = n → (∀ (j : Nat) (v : Value), l[j]? = some v → h.cell? (a.add (i + j)) = some v) → rrun P (loadCellsFrom a i n acc) h = some (acc ++ l.toArray)
  | 0, i, acc, l, hl, _ => by
    have : l = [] := List.length_eq_zero_iff.1 hl
    subst this
    simp [loadCellsFrom, rrun_pure]
  | n + 1, i, acc, l, hl, hc => by
    cases l with
    | nil => simp at hl
    | cons v l =>
      show rrun P (load (a.add i) >>= fun v => loadCellsFrom a (i + 1) n (acc.push v)) h = _
      have h0 : h.cell? (a.add i) = some v := hc 0 v rfl
      rw [rrun_bind, rrun_load _ _ h0]
      show rrun P (loadCellsFrom a (i + 1) n (acc.push v)) h = _
      rw [rrun_cells n (i + 1) (acc.push v) l (by simpa using hl) (fun j u hj => by
        have := hc (j + 1) u (by simpa using hj)
        rw [show i + 1 + j = i + (j + 1) by omega]
        exact this)]
      congr 1
      apply Array.toList_inj.1
      simp
theorem kload_var {t : TypeId} {x : Operand} {ts : TT} {v : Value} (e : (kload P t x).run ts h = some v) : ∃ a, kvalF ts x = .pointer (some a) ∧ rrun P (loadVar t a) h = some v := by
  unfold kload at e
  split at e
  · rename_i d i hd hi
    have hd := kund_eq hd
    have hi := (kinfo_eq hi).1
    cases hg : isAggT d with
    | true =>
      rw [hg, ci_true] at e
      obtain ⟨a, h1, h2⟩ := ob_eq e
      obtain ⟨l, h3, h4⟩ := ob_eq h2
      cases h4
      obtain ⟨hs, hl, hc⟩ := kcells_eq h3
      refine ⟨a, vAddr_eq h1, ?_⟩
      show rrun P (isAgg t >>= fun b => if b then (do pure (.agg (← loadCells a (← sizeOf t)))) else load a) h = _
      rw [rrun_bind, rrun_isAgg hd, hg]
      show rrun P (sizeOf t >>= fun n => loadCells a n >>= fun c => pure (Value.agg c)) h = _
      rw [rrun_bind, rrun_sizeOf hi]
      show rrun P (loadCellsFrom a 0 i.size #[] >>= fun c => pure (Value.agg c)) h = _
      rw [rrun_bind, rrun_cells i.size 0 #[] l hl (fun j u hj => by rw [Nat.zero_add]; exact hc j u hj)]
      simp [rrun_pure]
    | false =>
      rw [hg, ci_false] at e
      obtain ⟨a, h1, h2⟩ := ob_eq e
      refine ⟨a, vAddr_eq h1, ?_⟩
      show rrun P (isAgg t >>= fun b => if b then (do pure (.agg (← loadCells a (← sizeOf t)))) else load a) h = _
      rw [rrun_bind, rrun_isAgg hd, hg]
      exact rrun_load _ _ (kcell_eq h2)
  · cases e
variable {o : Oper} {ts : TT} {v : Value}
theorem aread_r {ρ : Operand → Value} (hk : readKind o.op = true) (e : rrun P (execOp ρ o) h = some (.value v)) : aread P o ρ h = some v := by
  unfold aread
  rw [if_pos hk, e]
  rfl
theorem rrun_v {s : Sem Value} (e : rrun P s h = some v) : rrun P (s >>= fun x => pure (Next.value x)) h = some (.value v) := by
  rw [rrun_bind, e]
  rfl
theorem aread_p {ρ : Operand → Value} {h' : AH} (hr : readKind o.op = false) (hk : plainKind o.op = true) (hc : ∀ s d x, o.op ≠ .convert s d x) (e : aop P o ρ h = some (.value v, h')) : aread P o ρ h = some v := by
  unfold aread
  rw [if_neg (by rw [hr]; decide), if_pos hk]
  split
  · rename_i s d x hop
    exact absurd hop (hc s d x)
  · rw [e]
theorem kload_ok {t : TypeId} {x : Operand} (hop : o.op = .load t x) (e : (kload P t x).run ts h = some v) : aread P o (kvalF ts) h = some v := by
  obtain ⟨a, h1, h2⟩ := kload_var e
  refine aread_r (by rw [hop]; rfl) ?_
  simp only [execOp, hop]
  refine rrun_v ?_
  show rrun P (Instr.sureAddr (kvalF ts x) >>= fun a => loadVar t a) h = _
  rw [h1]
  exact h2
theorem rrun_place {a : Addr} {f : Field} {i : TypeInfo} (hi : P.info? f.type = some i) (hn : i.size ≠ 0) : rrun P (fieldPlace a f) h = some (a.add f.offset) := by
  show rrun P (sizeOf f.type >>= fun n => if n = 0 then partAt a f.offset f.byteOffset else pure (a.add f.offset)) h = _
  rw [rrun_bind, rrun_sizeOf hi]
  show rrun P (if i.size = 0 then partAt a f.offset f.byteOffset else pure (a.add f.offset)) h = _
  rw [if_neg hn]
  rfl
theorem kfieldAddr_ok {s : TypeId} {x : Operand} {f : Nat} (hop : o.op = .fieldAddr s x f) (e : (kfieldAddr P o s x f).run ts h = some v) : aread P o (kvalF ts) h = some v := by
  unfold kfieldAddr at e
  split at e
  · rename_i fields hu
    have hu := kund_eq hu
    split at e
    · rename_i fd hf
      split at e
      · rename_i i hi
        have hi := (kinfo_eq hi).1
        cases h0 : Nat.beq i.size 0 with
        | true => rw [h0] at e; exact e
        | false =>
          have hn : i.size ≠ 0 := fun c => by rw [c] at h0; cases h0
          rw [h0, ci_false] at e
          have key : ∀ a, kvalF ts x = .pointer (some a) → rrun P (execOp (kvalF ts) o) h = some (.value (.pointer (some (a.add fd.offset)))) := fun a ha => by
            simp only [execOp, hop]
            refine rrun_v ?_
            simp only [Instr.fieldAt]
            rw [rrun_bind, rrun_underlying hu]
            simp only [Option.bind_some, hf]
            rw [ha]
            show rrun P (fieldPlace a fd >>= fun p => pure (Value.pointer (some p))) h = _
            rw [rrun_bind, rrun_place hi hn]
            rfl
          cases h1 : Nat.beq fd.offset 0 with
          | true =>
            rw [h1, ci_true] at e
            obtain ⟨a, h2, h3⟩ := ob_eq e
            cases h3
            refine aread_r (by rw [hop]; rfl) ?_
            have := key a (vAddr_eq h2)
            rw [Nat.eq_of_beq_eq_true h1] at this
            exact this
          | false =>
            rw [h1, ci_false] at e
            obtain ⟨a, h2, h3⟩ := ob_eq e
            cases h3
            refine aread_r (by rw [hop]; rfl) ?_
            have := key a (vAddr_eq h2)
            have ho : fd.offset ≠ 0 := fun c => by rw [c] at h1; cases h1
            rw [Addr.add, if_neg ho] at this
            exact this
      · cases e
    · cases e
  · cases e
theorem kindexAddr_ok {t : TypeId} {x ix : Operand} (hop : o.op = .indexAddr t x ix) (e : (kindexAddr P o t x ix).run ts h = some v) : aread P o (kvalF ts) h = some v := by
  unfold kindexAddr at e
  refine aread_r (by rw [hop]; rfl) ?_
  simp only [execOp, hop]
  refine rrun_v ?_
  split at e
  · rename_i el hu
    have hu := kund_eq hu
    split at e
    · rename_i i hi
      have hi := (kinfo_eq hi).1
      obtain ⟨s, h1, e⟩ := ob_eq e
      obtain ⟨n, h2, e⟩ := ob_eq e
      obtain ⟨h3, e⟩ := ci_eq e
      obtain ⟨a, h4, e⟩ := ob_eq e
      obtain ⟨h5, e⟩ := oN_eq e
      cases e
      have hx : kvalF ts x = .slice (some a) s.l s.c := by rw [← h4]; exact vSl_eq h1
      have hi2 : kvalF ts ix = .int .i64 (.ofNat n) := vNat_eq h2
      have hlt : n < s.l := by simpa using h3
      simp only [Instr.indexAt, hx, hi2, asIntOf, rrun_bind, rrun_pure, Option.bind_some, rrun_underlying hu]
      rw [if_pos ⟨Int.natCast_nonneg _, by show (n : Int) < (s.l : Int); omega⟩]
      simp only [rrun_bind, rrun_sizeOf hi, Option.bind_some, rrun_pure]
      rw [add_none h5]
      simp
    · cases e
  · rename_i len el hu
    have hu := kund_eq hu
    split at e
    · rename_i i hi
      have hi := (kinfo_eq hi).1
      obtain ⟨a, h1, e⟩ := ob_eq e
      obtain ⟨n, h2, e⟩ := ob_eq e
      obtain ⟨h3, e⟩ := ci_eq e
      obtain ⟨h5, e⟩ := oN_eq e
      cases e
      have hx : kvalF ts x = .pointer (some a) := vAddr_eq h1
      have hi2 : kvalF ts ix = .int .i64 (.ofNat n) := vNat_eq h2
      have hlt : n < len := by simpa using h3
      simp only [Instr.indexAt, hx, hi2, asIntOf, rrun_bind, rrun_pure, Option.bind_some, rrun_underlying hu, Instr.sureAddr]
      rw [if_pos ⟨Int.natCast_nonneg _, by show (n : Int) < (len : Int); omega⟩]
      simp only [rrun_bind, rrun_sizeOf hi, Option.bind_some, rrun_pure]
      rw [add_none h5]
      simp
    · cases e
  · cases e
theorem rrun_part {t : TypeId} {d : TypeDesc} {i : TypeInfo} (hu : P.underlying t = some d) (hi : P.info? t = some i) (c : Array Value) (off : Nat) :
    (isAggT d = true → ∀ l, (ltake i.size).run ((ldrop off).run c.toList) = some l → rrun P (part t c off) h = some (.agg ⟨l⟩)) ∧ (isAggT d = false → ∀ u, (lget off).run c.toList = some u → rrun P (part t c off) h = some u) := by
  refine ⟨fun hg l hl => ?_, fun hg u hl => ?_⟩
  · rw [ldrop_eq] at hl
    obtain ⟨_, rfl⟩ := ltake_eq _ _ _ hl
    show rrun P (isAgg t >>= fun b => if b then (do pure (.agg (c.extract off (off + (← sizeOf t))))) else match c[off]? with | some v => pure v | none => stuck "part: no such cell") h = _
    rw [rrun_bind, rrun_isAgg hu, hg]
    show rrun P (sizeOf t >>= fun n => pure (Value.agg (c.extract off (off + n)))) h = _
    rw [rrun_bind, rrun_sizeOf hi]
    show some (Value.agg (c.extract off (off + i.size))) = _
    congr 2
    apply Array.toList_inj.1
    simp [List.extract_eq_take_drop]
  · rw [lget_eq, Array.getElem?_toList] at hl
    show rrun P (isAgg t >>= fun b => if b then (do pure (.agg (c.extract off (off + (← sizeOf t))))) else match c[off]? with | some v => pure v | none => stuck "part: no such cell") h = _
    rw [rrun_bind, rrun_isAgg hu, hg]
    show rrun P (match c[off]? with | some v => pure v | none => stuck "part: no such cell") h = _
    rw [hl]
    rfl
theorem kpart_ok {t : TypeId} {x : Operand} {off : Nat} (e : (kpart P t x off).run ts h = some v) : ∃ c, kvalF ts x = .agg c ∧ rrun P (part t c off) h = some v := by
  unfold kpart at e
  split at e
  · rename_i d i hd hi
    have hd := kund_eq hd
    have hi := (kinfo_eq hi).1
    cases hg : isAggT d with
    | true =>
      rw [hg, ci_true] at e
      obtain ⟨c, h1, e⟩ := ob_eq e
      obtain ⟨l, h2, e⟩ := ob_eq e
      cases e
      exact ⟨c, vAgg_eq h1, (rrun_part hd hi c off).1 hg l h2⟩
    | false =>
      rw [hg, ci_false] at e
      obtain ⟨c, h1, e⟩ := ob_eq e
      exact ⟨c, vAgg_eq h1, (rrun_part hd hi c off).2 hg v e⟩
  · cases e
theorem kfield_ok {s : TypeId} {x : Operand} {f : Nat} (hop : o.op = .field s x f) (e : (kfield P s x f).run ts h = some v) : aread P o (kvalF ts) h = some v := by
  unfold kfield at e
  refine aread_r (by rw [hop]; rfl) ?_
  simp only [execOp, hop]
  refine rrun_v ?_
  split at e
  · rename_i fields hu
    have hu := kund_eq hu
    split at e
    · rename_i fd hf
      obtain ⟨c, h1, h2⟩ := kpart_ok e
      simp only [Instr.field]
      rw [rrun_bind, rrun_underlying hu]
      simp only [Option.bind_some, hf, h1]
      exact h2
    · cases e
  · cases e
theorem bytes_get {s : ByteArray} {n : Nat} {b : UInt8} (h : s.data.toList[n]? = some b) : s[n]? = some b := by
  rw [Array.getElem?_toList] at h
  obtain ⟨hn, he⟩ := Array.getElem?_eq_some_iff.1 h
  have hn2 : n < s.size := hn
  rw [getElem?_pos s n hn2]
  exact congrArg some he
theorem kindex_ok {t : TypeId} {x ix : Operand} (hop : o.op = .index t x ix) (e : (kindex P o t x ix).run ts h = some v) : aread P o (kvalF ts) h = some v := by
  unfold kindex at e
  split at e
  · rename_i hu
    have hu := kund_eq hu
    obtain ⟨s, h1, e⟩ := ob_eq e
    obtain ⟨n, h2, e⟩ := ob_eq e
    obtain ⟨b, h3, e⟩ := ob_eq e
    cases e
    refine aread_r (by rw [hop]; rfl) ?_
    simp only [execOp, hop]
    refine rrun_v ?_
    have hx : kvalF ts x = .string s := vStr_eq h1
    have hi2 : kvalF ts ix = .int .i64 (.ofNat n) := vNat_eq h2
    rw [lget_eq] at h3
    simp only [Instr.index, hx, hi2, asIntOf, rrun_bind, rrun_pure, Option.bind_some, rrun_underlying hu]
    rw [if_pos (show (0 : Int) ≤ Int.ofNat n from Int.natCast_nonneg n), show (Int.ofNat n).toNat = n from rfl, bytes_get h3]
    rfl
  · rename_i len el hu
    have hu := kund_eq hu
    split at e
    · rename_i d i hd hi
      have hd := kund_eq hd
      have hi := (kinfo_eq hi).1
      obtain ⟨c, h1, e⟩ := ob_eq e
      obtain ⟨n, h2, e⟩ := ob_eq e
      obtain ⟨h3, e⟩ := ci_eq e
      refine aread_r (by rw [hop]; rfl) ?_
      simp only [execOp, hop]
      refine rrun_v ?_
      have hx : kvalF ts x = .agg c := vAgg_eq h1
      have hi2 : kvalF ts ix = .int .i64 (.ofNat n) := vNat_eq h2
      have hlt : n < len := by simpa using h3
      simp only [Instr.index, hx, hi2, asIntOf, rrun_bind, rrun_pure, Option.bind_some, rrun_underlying hu]
      rw [if_pos ⟨Int.natCast_nonneg _, by show (n : Int) < (len : Int); omega⟩, rrun_bind, rrun_sizeOf hi]
      show rrun P (part el c (n * i.size)) h = _
      cases hg : isAggT d with
      | true =>
        rw [hg, ci_true] at e
        obtain ⟨l, h4, e⟩ := ob_eq e
        cases e
        exact (rrun_part hd hi c _).1 hg l h4
      | false =>
        rw [hg, ci_false] at e
        exact (rrun_part hd hi c _).2 hg v e
    · cases e
  · exact e
end
end Go.Ab
