/- The quick executor: all reading operations; new blocks. -/
import Derived.Test.YtlhldjfonidmgaaGreatDoorAb34
namespace Go.Ab
set_option linter.unusedSimpArgs false
set_option linter.unusedVariables false
theorem putL_len : ∀ (x l : List Value) (o : Nat), (putL l o x).length = l.length
  | [], l, o => rfl
  | v :: x, l, o => by simp only [putL]; rw [putL_len x]; simp
theorem fold_put (off : Nat) : ∀ (x l : List Value) (k : Nat), (x.zipIdx k).foldl (fun (cs : Array Value) (c : Value × Nat) => cs.setIfInBounds (off + c.2) c.1) ⟨l⟩ = ⟨putL l (off + k) x⟩
  | [], l, k => rfl
  | v :: x, l, k => by
    simp only [List.zipIdx_cons, List.foldl_cons, putL]
    rw [show (Array.mk l).setIfInBounds (off + k) v = ⟨l.set (off + k) v⟩ from by apply Array.toList_inj.1; simp, fold_put off x _ (k + 1)]
    rfl
section
variable {P : Program} {h : AH} {o : Oper} {ts : TT} {v : Value}
theorem prun_max {k : IntKind} {a b : Nat} (at_ : Array TypeId) (ty : TypeId) {as : Array Value} (e : as.toList = [.int k (.ofNat a), .int k (.ofNat b)]) : prun P (Builtin.max_ at_ ty as) = some (.int k (.ofNat (ci (Nat.blt a b) b a))) := by
  unfold Builtin.max_
  rw [e]
  show prun P (Builtin.max2 _ _ >>= fun v => pure v) = _
  rw [prun_bind]
  show some (Value.int k (if Int.ofNat b > Int.ofNat a then Int.ofNat b else Int.ofNat a)) = _
  congr 2
  cases hc : Nat.blt a b with
  | true =>
    have : a < b := by simpa using hc
    rw [if_pos (by show (a : Int) < (b : Int); omega)]
    rfl
  | false =>
    have : ¬ a < b := fun c => by
      have : Nat.blt a b = true := by rw [Nat.blt_eq]; exact c
      rw [this] at hc
      cases hc
    rw [if_neg (by show ¬ (a : Int) < (b : Int); omega)]
    rfl
theorem kmax_ok {c : Call} (hop : o.op = .call c) (hc : c.callee = .builtin .max) (e : (kmax P o c).run ts h = some v) : aread P o (kvalF ts) h = some v := by
  unfold kmax at e
  split at e
  · rename_i x y t tys ha ht
    split at e
    · rename_i k hk
      rcases ob_orElse e with ⟨a, h1, e⟩ | e
      · obtain ⟨b, h2, e⟩ := ob_eq e
        cases e
        have hx : kvalF ts x = .int k (.ofNat a) := vNat_eq h1
        have hy : kvalF ts y = .int k (.ofNat b) := vNat_eq h2
        refine aread_p (h' := h) (by rw [hop]; simp only [readKind, hc]) (by rw [hop]; simp only [plainKind, hc]) (fun s d z c => by rw [hop] at c; cases c) ?_
        have : aop P o (kvalF ts) h = aFlat P o (kvalF ts) h := by simp only [aop, hop, aCall, hc]
        rw [this]
        refine aFlat_of (fun z hz => ?_) ?_ rfl
        · rw [hop] at hz
          have hz : z ∈ c.args.toList := by
            simp only [Op.operands, Call.operands, hc] at hz
            simpa using hz
          rw [ha] at hz
          rcases List.mem_cons.1 hz with rfl | hz
          · rw [hx]; rfl
          · rcases List.mem_cons.1 hz with rfl | hz
            · rw [hy]; rfl
            · cases hz
        · simp only [execOp, hop]
          have : (resolve (kvalF ts) c o.type >>= fun d => invoke d.target d.args) = (Builtin.max_ c.argTypes o.type (c.args.map (kvalF ts)) >>= fun x => pure (Next.value x)) := by
            simp only [resolve, hc]
            rfl
          rw [this]
          refine prun_v (prun_max _ _ ?_)
          rw [Array.toList_map, ha]
          simp only [List.map_cons, List.map_nil, hx, hy]
      · exact e
    · exact e
  · exact e
theorem kconvert_ok {src dst : TypeId} {x : Operand} (hop : o.op = .convert src dst x) (e : (kconvert P o src dst x).run ts h = some v) : aread P o (kvalF ts) h = some v := by
  unfold kconvert at e
  split at e
  · rename_i k l hk hl
    have hk := tyInt_eq hk
    have hl := tyInt_eq hl
    rcases ob_orElse e with ⟨n, h1, e⟩ | e
    · obtain ⟨h2, e⟩ := ci_eq e
      cases e
      have hn : n < kLim l := by simpa using h2
      have hx : kvalF ts x = .int k (.ofNat n) := vNat_eq h1
      have ha : aop P o (kvalF ts) h = some (.value (.int l (.ofNat n)), h) := by
        have h3 : aConvert P src dst (kvalF ts x) h = none := by
          unfold aConvert
          rw [hk, hl]
        have h4 : aToU P src dst (kvalF ts x) h = none := by
          unfold aToU
          rw [hk, hl]
        simp only [aop, hop, h3, h4]
        refine aFlat_of (fun z hz => ?_) ?_ rfl
        · rw [hop] at hz
          have hz : z ∈ [x] := hz
          rcases List.mem_cons.1 hz with rfl | hz
          · rw [hx]; rfl
          · cases hz
        · simp only [execOp, hop]
          refine prun_v ?_
          show prun P (underlying src >>= fun a => underlying dst >>= fun b => _) = _
          rw [prun_bind, prun_underlying hk, Option.bind_some, prun_bind, prun_underlying hl, Option.bind_some, hx]
          show some (Value.int l (l.wrap (Int.ofNat n))) = _
          rw [wrap_lim hn]
      unfold aread
      rw [if_neg (by rw [hop]; exact Bool.false_ne_true), if_pos (by rw [hop]; rfl)]
      simp only [hop, hk, hl, ha]
    · exact e
  · exact e
theorem kvals_eq : ∀ (l : List Operand), (kvals l).run ts = l.map (kvalF ts)
  | [] => rfl
  | x :: l => by
    show (kval x).run ts :: (kvals l).run ts = _
    rw [kvals_eq l]
    rfl
theorem kpl_eq : ∀ (l : List Field) (ps : List (Nat × Nat)), kpl P l = some ps → l.mapM (fun f => (P.info? f.type).map fun i => (f.offset, i.size)) = some ps
  | [], ps, e => by cases e; rfl
  | f :: l, ps, e => by
    replace e : (ob (kinfo P f.type) fun j => ob (kpl P l) fun l => some ((f.offset, j.size) :: l)) = some ps := e
    obtain ⟨j, h1, e⟩ := ob_eq e
    obtain ⟨qs, h2, e⟩ := ob_eq e
    cases e
    simp only [List.mapM_cons, (kinfo_eq h1).1, Option.map_some, kpl_eq l qs h2]
    rfl
theorem kparts_eq {pl pl' : Nat → Option (Nat × Nat)} (hpl : ∀ i q, pl i = some q → pl' i = some q) : ∀ (parts : List (Nat × Operand)) (l r : List Value), (kparts pl parts).run ts l = some r → Instr.fill pl' ⟨l⟩ (parts.map fun x => (x.1, kvalF ts x.2)) = some ⟨r⟩
  | [], l, r, e => by cases e; rfl
  | p :: parts, l, r, e => by
    replace e : (match pl p.1 with
      | some (off, size) => (⟨fun ts l => ci (Nat.beq (llen (vcells ((kval p.2).run ts))) size) (ob ((lputs off).run l (vcells ((kval p.2).run ts))) fun l => (kparts pl parts).run ts l) none⟩ : Clo (TT → List Value → Option (List Value)))
      | none => ⟨fun _ _ => none⟩).run ts l = some r := e
    split at e
    · rename_i off size hp
      obtain ⟨h1, e⟩ := ci_eq e
      obtain ⟨l1, h2, e⟩ := ob_eq e
      have h1 := Nat.eq_of_beq_eq_true h1
      rw [llen_eq, vcells_eq] at h1
      rw [vcells_eq] at h2
      obtain ⟨h3, h4, _⟩ := lputs_eq _ _ _ _ h2
      simp only [List.map_cons, Instr.fill, hpl _ _ hp]
      have hs : (kvalF ts p.2).cells.size = size := by rw [← h1]; rfl
      have hle : ¬ (off + (kvalF ts p.2).cells.size > (Array.mk l).size) := by
        have : off + (kvalF ts p.2).cells.toList.length ≤ l.length := h3
        simp only [Array.length_toList] at this
        show ¬ _ > l.length
        omega
      rw [if_neg (by simp only [hs, ne_eq, not_true_eq_false, decide_false, Bool.false_or, decide_eq_true_eq]; rw [hs] at hle; exact hle)]
      rw [← Array.foldl_toList, Array.toList_zipIdx, fold_put]
      have h4 : putL l off (kvalF ts p.2).cells.toList = l1 := h4.symm
      rw [Nat.add_zero, h4]
      exact kparts_eq hpl parts l1 r e
    · cases e
theorem kbuild_ok {t : TypeId} {parts : Array (Nat × Operand)} (hop : o.op = .build t parts) (e : (kbuild P t parts.toList).run ts h = some v) : aread P o (kvalF ts) h = some v := by
  unfold kbuild at e
  split at e
  · rename_i i hi
    obtain ⟨hi, ht⟩ := kinfo_eq hi
    have hm : (parts.map fun (i, x) => (i, kvalF ts x)).toList = parts.toList.map fun x => (x.1, kvalF ts x.2) := by simp
    have main : ∀ l, P.built t (parts.toList.map fun x => (x.1, kvalF ts x.2)) = some ⟨l⟩ → aread P o (kvalF ts) h = some (.agg ⟨l⟩) := fun l hb => by
      refine aread_p (h' := h) (by rw [hop]; rfl) (by rw [hop]; rfl) (fun s d z c => by rw [hop] at c; cases c) ?_
      rw [← hm] at hb
      simp only [aop, hop, hb]
      rw [if_pos (by simpa using ht)]
      rfl
    split at e
    · rename_i z hz
      split at e
      · rename_i fields hu
        have hu := kund_eq hu
        split at e
        · rename_i ps hp
          obtain ⟨l, h1, e⟩ := ob_eq e
          cases e
          refine main l ?_
          unfold Program.built
          simp only [hi, hu, hz, kpl_eq _ _ hp]
          refine kparts_eq (fun i q hq => ?_) _ _ _ h1
          rw [lget_eq] at hq
          simpa using hq
        · cases e
      · rename_i n el hu
        have hu := kund_eq hu
        split at e
        · rename_i j hj
          obtain ⟨l, h1, e⟩ := ob_eq e
          cases e
          refine main l ?_
          unfold Program.built
          simp only [hi, hu, hz, (kinfo_eq hj).1]
          exact kparts_eq (fun i q hq => hq) _ _ _ h1
        · cases e
      · cases e
    · cases e
  · cases e
theorem kread_ok (e : (kread P o).run ts h = some v) : aread P o (kvalF ts) h = some v := by
  unfold kread at e
  split at e
  · rename_i x hop
    cases e
    exact aread_p (h' := h) (by rw [hop]; rfl) (by rw [hop]; rfl) (fun s d z c => by rw [hop] at c; cases c) (by simp only [aop, hop]; rfl)
  · rename_i x hop
    cases e
    exact aread_p (h' := h) (by rw [hop]; rfl) (by rw [hop]; rfl) (fun s d z c => by rw [hop] at c; cases c) (by simp only [aop, hop]; rfl)
  · rename_i c a b hop
    obtain ⟨t, h1, e⟩ := ob_eq e
    cases e
    have h1 : kvalF ts c = .bool t := vBool_eq h1
    exact aread_p (h' := h) (by rw [hop]; rfl) (by rw [hop]; rfl) (fun s d z c => by rw [hop] at c; cases c) (by simp only [aop, hop, h1]; cases t <;> rfl)
  · rename_i t parts hop
    exact kbuild_ok hop e
  · rename_i src dst x hop
    exact kconvert_ok hop e
  · rename_i fn first captured hop
    cases hf : fnOk fn with
    | true =>
      rw [hf, ci_true] at e
      cases e
      refine aread_p (h' := h) (by rw [hop]; rfl) (by rw [hop]; rfl) (fun s d z c => by rw [hop] at c; cases c) ?_
      simp only [aop, hop, hf, if_true]
      have e1 : ∀ a : Array Operand, (⟨(kvals a.toList).run ts⟩ : Array Value) = a.map (kvalF ts) := fun a => by
        apply Array.toList_inj.1
        rw [Array.toList_map]
        exact kvals_eq _
      rw [e1, e1]
    | false => rw [hf, ci_false] at e; cases e
  · rename_i t x hop
    obtain ⟨b, h1, e⟩ := ob_eq e
    cases e
    have h1 : kvalF ts x = .bool b := vBool_eq h1
    refine aread_p (h' := h) (by rw [hop]; rfl) (by rw [hop]; rfl) (fun s d z c => by rw [hop] at c; cases c) ?_
    simp only [aop, hop]
    refine aFlat_of (fun z hz => ?_) ?_ rfl
    · rw [hop] at hz
      have hz : z ∈ [x] := hz
      rcases List.mem_cons.1 hz with rfl | hz
      · rw [h1]; rfl
      · cases hz
    · simp only [execOp, hop]
      refine prun_v ?_
      rw [h1]
      rfl
  · rename_i t x hop
    exact kload_ok hop e
  · rename_i s x f hop
    exact kfieldAddr_ok hop e
  · rename_i t x ix hop
    exact kindexAddr_ok hop e
  · rename_i s x f hop
    exact kfield_ok hop e
  · rename_i t x ix hop
    exact kindex_ok hop e
  · rename_i x i hop
    obtain ⟨c, h1, e⟩ := ob_eq e
    have h1 : kvalF ts x = .tuple c := vTup_eq h1
    rw [lget_eq, Array.getElem?_toList] at e
    refine aread_r (by rw [hop]; rfl) ?_
    simp only [execOp, hop]
    refine rrun_v ?_
    simp only [h1, Instr.extract, e]
    rfl
  · rename_i t x hop
    split at e
    · cases e
    · rename_i d hn hd
      cases e
      refine aread_r (by rw [hop]; rfl) ?_
      simp only [execOp, hop]
      refine rrun_v ?_
      simp only [Instr.makeInterface, rrun_bind, rrun_underlying (kund_eq hd), Option.bind_some]
      rfl
    · cases e
  · rename_i x hop
    obtain ⟨h1, e⟩ := ci_eq e
    cases e
    refine aread_p (h' := h) (by rw [hop]; rfl) (by rw [hop]; rfl) (fun s d z c => by rw [hop] at c; cases c) ?_
    simp only [aop, hop]
    show (match kvalF ts x with
      | .pointer (some a) => some (Next.value (.pointer (some a)), h)
      | .func (.func f) a b => some (.value (.func (.func f) a b), h)
      | .iface t v => some (.value (.iface t v), h)
      | _ => none) = some (Next.value (kvalF ts x), h)
    have h1 : vLive (kvalF ts x) = true := h1
    cases hv : kvalF ts x with
    | pointer a =>
      rw [hv] at h1
      cases a with
      | none => cases h1
      | some a => rfl
    | func f p q =>
      rw [hv] at h1
      cases f <;> first | rfl | cases h1
    | iface t u => rfl
    | _ => rw [hv] at h1; cases h1
  · rename_i t x lo hi hop
    exact kslice_ok hop e
  · rename_i op t x y ty hop
    exact kbinOp_ok hop e
  · rename_i c hop
    split at e
    · rename_i hc
      exact klen_ok hop hc e
    · rename_i hc
      exact kmax_ok hop hc e
    · exact e
  · exact e
end
end Go.Ab
