/- The quick executor: temporaries, entering, writing. -/
import Derived.Test.YtlhldjfonidmgaaGreatDoorAb35
namespace Go.Ab
set_option linter.unusedSimpArgs false
set_option linter.unusedVariables false
theorem tget_leaf : ∀ (f k : Nat), (tget f k).run .leaf = undef
  | 0, k => rfl
  | f + 1, k => by
    show (ci (Nat.beq k 0) _ (ci (Nat.beq (Nat.mod k 2) 1) _ _) : Clo (TT → Value)).run .leaf = undef
    cases Nat.beq k 0 <;> cases Nat.beq (Nat.mod k 2) 1 <;> rfl
/-- A tree of temporaries for an array of them. -/
structure TR (sz : Nat) (ts : TT) (a : Array Value) : Prop where
  size : a.size = sz
  lim : sz < 4000
  get : ∀ i, (tget 12 i).run ts = a.getD i undef
theorem TR.eval {sz : Nat} {ts : TT} {a : Array Value} (r : TR sz ts a) : kvalF ts = evalT a := by
  funext x
  cases x with
  | tmp t => exact r.get t
  | const v => rfl
  | global g => rfl
  | func f => rfl
theorem TR.put {sz : Nat} {ts : TT} {a : Array Value} (r : TR sz ts a) {o : Oper} (hd : ∀ d, o.dst = some d → d < sz) (v : Value) : TR sz ((kput o).run ts v) (putT a o.dst v) := by
  unfold kput
  cases hc : o.dst with
  | none => exact r
  | some d =>
    have hd : @LT.lt Nat _ d sz := hd d hc
    refine ⟨by simp only [putT, Array.size_setIfInBounds]; exact r.size, r.lim, fun i => ?_⟩
    have hl := r.lim
    show (tget 12 i).run ((tset 12 d).run ts v) = _
    rw [tget_tset 12 ts d v i (by have : (2:Nat) ^ 12 = 4096 := rfl; omega), r.get]
    simp only [putT, Array.getD_eq_getD_getElem?, Array.getElem?_setIfInBounds]
    by_cases hi : i = d
    · subst hi
      rw [if_pos rfl, if_pos rfl, if_pos (by rw [r.size]; exact hd)]
      rfl
    · rw [if_neg hi, if_neg (Ne.symm hi)]
theorem tfill_get : ∀ (l : List Value) (i : Nat) (t : TT) (j : Nat), i + l.length < 4095 → (tget 12 j).run (tfill l i t) = if i ≤ j ∧ j < i + l.length then l.getD (j - i) undef else (tget 12 j).run t
  | [], i, t, j, h => by
    rw [if_neg (by simp <;> omega)]
    rfl
  | v :: l, i, t, j, h => by
    simp only [List.length_cons] at h
    show (tget 12 j).run (tfill l (Nat.succ i) ((tset 12 i).run t v)) = _
    rw [tfill_get l (i + 1) _ j (by omega), tget_tset 12 t i v j (by have : (2:Nat) ^ 12 = 4096 := rfl; omega)]
    simp only [List.length_cons]
    by_cases h1 : j = i
    · subst h1
      rw [if_neg (by omega), if_pos rfl, if_pos (by omega)]
      simp
    · rw [if_neg h1]
      by_cases h2 : i + 1 ≤ j ∧ j < i + 1 + l.length
      · rw [if_pos h2, if_pos (by omega)]
        obtain ⟨k, hk⟩ : ∃ k, j - i = k + 1 := ⟨j - i - 1, by omega⟩
        rw [hk, show j - (i + 1) = k by omega]
        simp
      · rw [if_neg h2, if_neg (by omega)]
theorem TR.fill (as : List Value) (n : Nat) (h : as.length ≤ n) (hn : n < 4000) : TR n (tfill as 0 .leaf) (⟨as⟩ ++ Array.replicate (n - as.length) undef) := by
  refine ⟨by simp; omega, hn, fun i => ?_⟩
  rw [tfill_get as 0 .leaf i (by omega), tget_leaf]
  simp only [Array.getD_eq_getD_getElem?, Array.getElem?_append]
  by_cases hi : i < as.length
  · rw [if_pos ⟨Nat.zero_le _, by omega⟩, if_pos (by simpa using hi)]
    simp [List.getD_eq_getElem?_getD]
  · rw [if_neg (by omega), if_neg (by simpa using hi)]
    simp only [Array.getElem?_replicate]
    split <;> rfl
theorem TR.full (a : Array Value) (hn : a.size < 4000) : TR a.size (tfill a.toList 0 .leaf) a := by
  have := TR.fill a.toList a.size (by simp) hn
  simpa using this
theorem TR.arr {sz : Nat} {ts : TT} {a : Array Value} (r : TR sz ts a) : tarr sz ts = a := by
  apply Array.ext
  · simp [tarr, r.size]
  · intro i h1 h2
    simp only [tarr, List.getElem_toArray, List.getElem_map, List.getElem_range, r.get]
    simp [Array.getD_eq_getD_getElem?, h2]
/-- What a quick run says of the plain one. -/
structure KOk (P : Program) (rec : K2) (run : Run) : Prop where
  k : ∀ {C : FC} {ds : List Deferred} {todo : List Item} {ts : TT} {h : AH} {x : Value × AH}, rec.k C ds todo ts h = some x → ∀ a, TR C.sz ts a → run ⟨C.f, a, todo, ds, .run, C.kind, C.ro⟩ h = some x
  b : ∀ {C : FC} {ds : List Deferred} {ts : TT} {h : AH} {x : Value × AH}, rec.b C ds ts h = some x → C.ro = none → ∀ a todo, TR C.sz ts a → run ⟨C.f, a, todo, ds, .returning, C.kind, C.ro⟩ h = some x
section
variable {P : Program} {G : Nat} {rec : K2} {run : Run}
theorem kenter_ok (hr : KOk P rec run) {f : FuncId} {n : Nat} {kind : CallKind} {as : List Value} {h : AH} {x : Value × AH} (hn : as.length = n) (e : (kenter P f n kind).run rec as h = some x) : run (Frame.enter P f ⟨as⟩ kind) h = some x := by
  unfold kenter at e
  rw [lget_eq, Array.getElem?_toList] at e
  split at e
  · rename_i fn hf
    split at e
    · rename_i c hb
      cases hc : (Nat.blt fn.ntmps 4000 && Nat.ble n fn.ntmps) with
      | false => rw [hc] at e; cases e
      | true =>
        rw [hc, ci_true] at e
        simp only [Bool.and_eq_true, Nat.blt_eq, Nat.ble_eq] at hc
        have := hr.k e _ (TR.fill as fn.ntmps (by omega) hc.1)
        have e2 : Frame.enter P f ⟨as⟩ kind = ⟨f, ⟨as⟩ ++ Array.replicate (fn.ntmps - as.length) undef, [.code c], [], .run, kind, none⟩ := by
          simp [Frame.enter, hf, hb]
        rw [e2]
        exact this
    · cases e
  · cases e
theorem opD_of (hr : KOk P rec run) {o : Oper} {ρ : Operand → Value} {h : AH} {x : Next × AH} {y : Value × AH} (hok : okOper G o = true) (ha : aop P o ρ h = some x) (e : kNext P rec x = some y) : opD P G noOrc run o ρ h = some y := by
  unfold opD
  rw [if_pos hok, ha]
  obtain ⟨n, h'⟩ := x
  cases n with
  | value v => exact e
  | skip => exact e
  | enter f as => exact kenter_ok hr rfl e
  | round l f ts a b =>
    replace e : ci (Nat.blt ts.toList.length 4000) (rec.k ⟨f, ts.toList.length, .normal, some l⟩ [] [.code a, .beginRound, .code b] (tfill ts.toList 0 .leaf) h') none = some y := e
    obtain ⟨h1, e⟩ := ci_eq e
    have h1 : ts.size < 4000 := by simpa using h1
    exact hr.k e ts (TR.full ts h1)
  | _ => cases e
theorem kslowC_ok (hr : KOk P rec run) {o : Oper} {ts : TT} {h : AH} {y : Value × AH} (hok : okOper G o = true) (e : (kslowC P o).run rec ts h = some y) : opD P G noOrc run o (kvalF ts) h = some y := by
  obtain ⟨x, h1, h2⟩ := ob_eq e
  exact opD_of hr hok h1 h2
theorem mget_set : ∀ (f n : Nat) (t : Tr) (x : Obj × Bool) (y : Option (Obj × Bool)), (mget f n).run t = some x → (mget f n).run (Tr.set f t n y) = y := by
  intro f
  induction f with
  | zero => intro n t x y h; cases h
  | succ f ih =>
    intro n t x y h
    replace h : (ci (Nat.beq n 0) _ (ci (Nat.beq (Nat.mod n 2) 1) _ _) : Clo (Tr → Option (Obj × Bool))).run t = some x := h
    show (ci (Nat.beq n 0) _ (ci (Nat.beq (Nat.mod n 2) 1) _ _) : Clo (Tr → Option (Obj × Bool))).run (Tr.set (f + 1) t n y) = y
    have h1' : Nat.beq (Nat.mod n 2) 1 = Nat.beq (n % 2) 1 := rfl
    cases t with
    | leaf => cases h0 : Nat.beq n 0 <;> rw [h0] at h <;> cases h1 : Nat.beq (Nat.mod n 2) 1 <;> rw [h1] at h <;> cases h
    | node l o r =>
      simp only [Tr.set]
      cases h0 : Nat.beq n 0 with
      | true => rfl
      | false =>
        rw [h0, ci_false, h1'] at h
        rw [ci_false, h1']
        cases h1 : Nat.beq (n % 2) 1 with
        | true => rw [h1] at h; exact ih _ _ _ _ h
        | false => rw [h1] at h; exact ih _ _ _ _ h
theorem set_set : ∀ (f n : Nat) (t : Tr) (x y : Option (Obj × Bool)), Tr.set f (Tr.set f t n x) n y = Tr.set f t n y := by
  intro f
  induction f with
  | zero => intro n t x y; rfl
  | succ f ih =>
    intro n t x y
    cases t <;>
      (simp only [Tr.set]
       cases h0 : Nat.beq n 0 with
       | true => simp only [cond_true, Tr.set, h0]
       | false =>
         cases h1 : Nat.beq (n % 2) 1 with
         | true => simp only [cond_true, cond_false, Tr.set, h0, h1, ih]
         | false => simp only [cond_true, cond_false, Tr.set, h0, h1, ih])
theorem arun_cells {a : Addr} (hs : a.spot = none) {t : TypeId} {lo hi : Nat} {op : Bool} (hhi : hi ≤ a.off) : ∀ (x : List Value) (l : List Value) (h : AH) (i : Nat), (mget depth a.block).run h.t = some (.cells ⟨l⟩ t (lo, hi), op) → a.off + i + x.length ≤ l.length → (∀ v ∈ x, vOne v = true) →
    Nat.ble h.base a.block = true → x ≠ [] → arun P (storeCells a x i) h = some ((), h.set a.block (some (.cells ⟨putL l (a.off + i) x⟩ t (lo, hi), op)))
  | [], l, h, i, _, _, _, _, hn => absurd rfl hn
  | v :: x, l, h, i, hm, hl, ho, hb, _ => by
    simp only [List.length_cons] at hl
    have hv := vOne_eq (ho v (List.mem_cons_self ..))
    have hg : h.get a.block = some (.cells ⟨l⟩ t (lo, hi), op) := mget_eq _ _ _ _ hm
    have one : arun P (store (a.add i) v) h = some ((), h.set a.block (some (.cells ⟨l.set (a.off + i) v⟩ t (lo, hi), op))) := by
      rw [add_none hs]
      simp only [store, arun, hg]
      rw [if_pos (by
        simp only [Option.isNone_none, hv, hb, Bool.and_true, Bool.true_and, Bool.and_eq_true, Nat.blt_eq, Bool.not_eq_true']
        refine ⟨by show a.off + i < l.length; omega, ?_⟩
        rw [Bool.and_eq_false_iff]
        exact .inr (by cases hc : Nat.blt (a.off + i) hi with
          | false => rfl
          | true => rw [Nat.blt_eq] at hc; omega))]
      congr 5
      apply congrArg (fun z => Obj.cells z t (lo, hi))
      apply Array.toList_inj.1
      simp
    show arun P (store (a.add i) v >>= fun _ => storeCells a x (i + 1)) h = _
    rw [arun_bind, one]
    simp only [Option.bind_some]
    cases x with
    | nil => rfl
    | cons u x =>
      have hm2 : (mget depth a.block).run (h.set a.block (some (.cells ⟨l.set (a.off + i) v⟩ t (lo, hi), op))).t = some (.cells ⟨l.set (a.off + i) v⟩ t (lo, hi), op) := mget_set _ _ _ _ _ hm
      rw [arun_cells hs hhi (u :: x) (l.set (a.off + i) v) _ (i + 1) hm2 (by simp only [List.length_set, List.length_cons] at hl ⊢; omega) (fun w hw => ho w (List.mem_cons_of_mem _ hw)) hb (by simp)]
      simp only [AH.set, set_set]
      rfl
theorem arun_sizeOf {t : TypeId} {i : TypeInfo} (hi : P.info? t = some i) (h : AH) : arun P (sizeOf t) h = some (i.size, h) := by
  show arun P (program >>= _ >>= _) h = _
  exact rrun_arun (rrun_sizeOf hi)
theorem kstore_ok (hr : KOk P rec run) {o : Oper} {t : TypeId} {ad x : Operand} {ts : TT} {h : AH} {y : Value × AH} (hop : o.op = .store t ad x) (hok : okOper G o = true) (e : (kstore P o t ad x).run rec ts h = some y) : opD P G noOrc run o (kvalF ts) h = some y := by
  unfold kstore at e
  split at e
  · rename_i d i hd hi
    have hi := (kinfo_eq hi).1
    have main : ∀ {a : Addr} {r : Row} {c : List Value}, kvalF ts ad = .pointer (some a) → krow h a = some r → (kvalF ts x).cells.toList.length = i.size → i.size ≠ 0 → Nat.ble r.hi a.off = true → Nat.ble h.base a.block = true → a.spot = none →
        (a.off + (kvalF ts x).cells.toList.length ≤ r.c.length ∧ c = putL r.c a.off (kvalF ts x).cells.toList ∧ ∀ v ∈ (kvalF ts x).cells.toList, vOne v = true) →
        opD P G noOrc run o (kvalF ts) h = some (undef, kAH h fun t b n => ⟨(mset depth a.block).run t (some (.cells ⟨c⟩ r.t (r.lo, r.hi), r.op)), b, n⟩) := fun {a r c} ha hrow hlen hne hhi hb hs hput => by
      have hm : (mget depth a.block).run h.t = some (.cells ⟨r.c⟩ r.t (r.lo, r.hi), r.op) := by
        obtain ⟨z, h1, h2⟩ := ob_eq hrow
        rw [h1]
        have := krow_eq hrow
        rw [AH.get, mget_eq _ _ _ _ h1] at this
        exact this
      refine opD_of (x := (.skip, kAH h fun t b n => ⟨(mset depth a.block).run t (some (.cells ⟨c⟩ r.t (r.lo, r.hi), r.op)), b, n⟩)) hr hok ?_ rfl
      rw [kAH_eq, mset_eq]
      simp only [aop, hop, execOp]
      show arun P (Instr.storeAt t (kvalF ts ad) (kvalF ts x) >>= fun _ => pure Next.skip) h = _
      rw [ha]
      show arun P (storeVar t a (kvalF ts x) >>= fun _ => pure Next.skip) h = _
      have : arun P (storeVar t a (kvalF ts x)) h = some ((), h.set a.block (some (.cells ⟨c⟩ r.t (r.lo, r.hi), r.op))) := by
        show arun P (sizeOf t >>= fun n => if (kvalF ts x).cells.size ≠ n then stuck _ else storeCells a (kvalF ts x).cells.toList) h = _
        rw [arun_bind, arun_sizeOf hi]
        simp only [Option.bind_some]
        rw [if_neg (by rw [← hlen]; simp)]
        have hz : (kvalF ts x).cells.toList ≠ [] := fun c => by rw [c] at hlen; exact hne hlen.symm
        have := arun_cells (P := P) hs (Nat.le_of_ble_eq_true hhi) (kvalF ts x).cells.toList r.c h 0 hm (by rw [Nat.add_zero]; exact hput.1) hput.2.2 hb hz
        rw [Nat.add_zero, ← hput.2.1] at this
        exact this
      rw [arun_bind, this]
      rfl
    cases h0 : Nat.beq i.size 0 with
    | true => rw [h0, ci_true] at e; exact kslowC_ok hr hok e
    | false =>
      have hne : i.size ≠ 0 := fun c => by rw [c] at h0; cases h0
      rw [h0, ci_false] at e
      cases hg : isAggT d with
      | true =>
        rw [hg, ci_true] at e
        obtain ⟨a, h1, e⟩ := ob_eq e
        obtain ⟨r, h2, e⟩ := ob_eq e
        obtain ⟨c, h3, e⟩ := ob_eq e
        obtain ⟨h4, e⟩ := ci_eq e
        obtain ⟨h5, e⟩ := ci_eq e
        obtain ⟨h6, e⟩ := ci_eq e
        obtain ⟨h7, e⟩ := oN_eq e
        obtain ⟨l, h8, e⟩ := ob_eq e
        cases e
        have hx : kvalF ts x = .agg c := vAgg_eq h3
        have hc : (kvalF ts x).cells.toList = c.toList := by rw [hx]; rfl
        refine main (vAddr_eq h1) h2 ?_ hne h5 h6 h7 ?_
        · rw [hc, ← llen_eq]
          exact Nat.eq_of_beq_eq_true h4
        · rw [hc]
          exact lputs_eq _ _ _ _ h8
      | false =>
        rw [hg, ci_false] at e
        cases h1s : Nat.beq i.size 1 with
        | false => rw [h1s, ci_false] at e; cases e
        | true =>
          rw [h1s, ci_true] at e
          obtain ⟨a, h1, e⟩ := ob_eq e
          obtain ⟨r, h2, e⟩ := ob_eq e
          obtain ⟨h4, e⟩ := ci_eq e
          obtain ⟨h5, e⟩ := ci_eq e
          obtain ⟨h6, e⟩ := ci_eq e
          obtain ⟨h7, e⟩ := oN_eq e
          obtain ⟨l, h8, e⟩ := ob_eq e
          cases e
          have h4 : vOne (kvalF ts x) = true := h4
          have hc : (kvalF ts x).cells.toList = [kvalF ts x] := by rw [vOne_cells h4]
          have h8 : (lset a.off).run r.c (kvalF ts x) = some l := h8
          obtain ⟨h9, h10⟩ := lset_eq _ _ _ _ h8
          refine main (vAddr_eq h1) h2 ?_ hne h5 h6 h7 ?_
          · rw [hc, Nat.eq_of_beq_eq_true h1s]
            rfl
          · rw [hc]
            exact ⟨by simp only [List.length_cons, List.length_nil]; omega, h10, fun v hv => by
              rcases List.mem_cons.1 hv with rfl | hv
              · exact h4
              · cases hv⟩
  · cases e
end
end Go.Ab
