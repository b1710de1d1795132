/- Texts of this proof, merged (printed by wip/pmerge.py out of AbM4). -/
import Derived.Test.YtnhmekdnfinmiaaGreatDoorAbM3
import Derived.IntWalk
import Derived.Laws.Entries
/- The executor, part 4 of 4 (printed by wip/merge.py out of the texts Ab1 to Ab38). -/
/- The quick executor: writing, calls, regions, frames. -/
namespace Go.Ab
set_option linter.unusedVariables false
structure FC where
  f : FuncId
  sz : Nat
  kind : CallKind
  ro : Option Nat
abbrev KR := FC → List Deferred → List Item → TT → AH → Option (Value × AH)
abbrev KB := FC → List Deferred → TT → AH → Option (Value × AH)
structure K2 where
  k : KR
  b : KB
abbrev KStep := Clo (K2 → FC → List Deferred → List Item → TT → AH → Option (Value × AH))
abbrev KChain := Clo (K2 → TT → AH → Option (Value × AH))
noncomputable def tfill : List Value → Nat → TT → TT := @List.rec Value (fun _ => Nat → TT → TT) (fun _ t => t) (fun v _ ih i t => ih (Nat.succ i) ((tset 12 i).run t v))
noncomputable def kbodied (P : Program) (f : FuncId) : Bool := @Option.rec Func (fun _ => Bool) false (fun fn => fn.body.isSome && !(fn.name == "runtime.NumGoroutine")) ((lget f).run P.funcs.toList)
noncomputable def kenter (P : Program) (f : FuncId) (n : Nat) (kind : CallKind) : Clo (K2 → List Value → AH → Option (Value × AH)) :=
  match (lget f).run P.funcs.toList with
  | some fn => match fn.body with
    | some c => ci (Nat.blt fn.ntmps 4000 && Nat.ble n fn.ntmps) ⟨fun rec az h => rec.k ⟨f, fn.ntmps, kind, none⟩ [] [.code c] (tfill az 0 .leaf) h⟩ ⟨fun _ _ _ => none⟩
    | none => ⟨fun _ _ _ => none⟩
  | none => ⟨fun _ _ _ => none⟩
noncomputable def kNext (P : Program) (rec : K2) (x : Next × AH) : Option (Value × AH) := match x.1 with
  | .value v => some (v, x.2)
  | .skip => some (undef, x.2)
  | .enter f az => (kenter P f az.toList.length .normal).run rec az.toList x.2
  | .round l f ts a b => ci (Nat.blt ts.toList.length 4000) (rec.k ⟨f, ts.toList.length, .normal, some l⟩ [] [.code a, .beginRound, .code b] (tfill ts.toList 0 .leaf) x.2) none
  | _ => none
noncomputable def kslowC (P : Program) (o : Oper) : KChain := ⟨fun rec ts h => ob (aop P o (kvalF ts) h) (kNext P rec)⟩
noncomputable def knoneC : KChain := ⟨fun _ _ _ => none⟩
noncomputable def kstore (P : Program) (o : Oper) (t : TypeId) (a x : Operand) : KChain :=
  match kund P t, kinfo P t with
  | some d, some i => ci (Nat.beq i.size 0) (kslowC P o) <| ci (isAggT d) ⟨fun _ ts h => ob (vAddr ((kval a).run ts)) fun a => ob (krow h a) fun r => ob (vAgg ((kval x).run ts)) fun c => ci (Nat.beq (llen c.toList) i.size) (ci (Nat.ble r.hi a.off) (ci (Nat.ble h.base a.block)
      (oN a.spot (ob ((lputs a.off).run r.c c.toList) fun c => some (undef, kAH h fun t b n => ⟨(mset depth a.block).run t (some (.cells ⟨c⟩ r.t (r.lo, r.hi), r.op)), b, n⟩))) none) none) none⟩ (ci (Nat.beq i.size 1) ⟨fun _ ts h => ob (vAddr ((kval a).run ts)) fun a => ob (krow h a) fun r => ci (vOne ((kval x).run ts)) (ci (Nat.ble r.hi a.off) (ci (Nat.ble h.base a.block)
      (oN a.spot (ob ((lset a.off).run r.c ((kval x).run ts)) fun c => some (undef, kAH h fun t b n => ⟨(mset depth a.block).run t (some (.cells ⟨c⟩ r.t (r.lo, r.hi), r.op)), b, n⟩))) none) none) none⟩ knoneC)
  | _, _ => knoneC
noncomputable def kcall (P : Program) (o : Oper) (f : Operand) (args : List Operand) : KChain :=
  match f with
  | .func f => ci (kbodied P f) ⟨fun rec ts h => (kenter P f args.length .normal).run rec ((kvals args).run ts) h⟩ (kslowC P o)
  | f => ⟨fun rec ts h => @Option.rec Fv (fun _ => Option (Value × AH)) ((kslowC P o).run rec ts h) (fun v => ci (kbodied P v.f) ((kenter P v.f (v.p.toList.length + args.length + v.q.toList.length) .normal).run rec (v.p.toList ++ ((kvals args).run ts ++ v.q.toList)) h) ((kslowC P o).run rec ts h)) (vFn ((kval f).run ts))⟩
abbrev KFree := Clo (TT → Option (Obj × Shape))
noncomputable def kfree (P : Program) (o : Oper) : KFree :=
  match o.op with
  | .alloc t => match aFree P o (fun _ => undef) with
    | some x => ⟨fun _ => some x⟩
    | none => ⟨fun _ => none⟩
  | .box t x => ⟨fun ts => some (.cells ((kval x).run ts).cells t (0, 0), .ptr)⟩
  | _ => ⟨fun ts => aFree P o (kvalF ts)⟩
noncomputable def kchain (P : Program) (o : Oper) : KChain :=
  match o.op with
  | .store t a x => kstore P o t a x
  | .alloc _ | .box _ _ | .buildSlice _ _ _ => ⟨fun _ ts h => ob ((kfree P o).run ts) fun x => ci (room h) (some (x.2.val h.next, kpush h x.1 false)) none⟩
  | .defer _ => knoneC
  | .call c => match c.callee with
    | .value f => kcall P o f c.args.toList
    | .builtin .recover => knoneC
    | _ => kslowC P o
  | _ => kslowC P o
noncomputable def kput (o : Oper) : Clo (TT → Value → TT) := match o.dst with
  | some d => tset 12 d
  | none => ⟨fun ts _ => ts⟩
def dstOk (sz : Nat) (o : Oper) : Bool := match o.dst with
  | some d => Nat.blt d sz
  | none => true
noncomputable def kyield (ops : Array Oper) (j : Nat) : Clo (TT → Option Bool) := match (ops[j]?).bind (·.dst) with
  | some d => ⟨fun ts => vBool ((tget 12 d).run ts)⟩
  | none => ⟨fun _ => none⟩
def obeq (o : Option Bool) (b : Bool) : Bool := match o with
  | some c => c == b
  | none => false
noncomputable def kwant (ops : Array Oper) (o : Oper) : Clo (TT → Bool) := match o.guard with
  | none => ⟨fun _ => true⟩
  | some (j, b) => ⟨fun ts => obeq ((kyield ops j).run ts) b⟩
structure KRec where
  v : Value
  wr : Bool
  ts : TT
  new : Option (Nat × Obj)
abbrev KLex := Clo (K2 → TT → AH → Option (List KRec × List AH × TT))
noncomputable def klexOp (P : Program) (G : Nat) (o : Oper) (next : KLex) : KLex :=
  match classOf P o with
  | .read => ⟨fun rec ts h => ob ((kread P o).run ts h) fun v => ob (next.run rec ((kput o).run ts v) h) fun x => some (⟨v, false, ts, none⟩ :: x.1, x.2.1, x.2.2)⟩
  | .free => ⟨fun rec ts h => ob ((kfree P o).run ts) fun b => ci (room h) (ob (next.run rec ((kput o).run ts (b.2.val h.next)) (kpush h b.1 false)) fun x => some (⟨b.2.val h.next, false, ts, some (h.next, b.1)⟩ :: x.1, x.2.1, x.2.2)) none⟩
  | .chain => ⟨fun rec ts h => ob ((kchain P o).run rec ts h) fun y => ob (next.run rec ((kput o).run ts y.1) y.2) fun x => some (⟨y.1, true, ts, none⟩ :: x.1, h :: x.2.1, x.2.2)⟩
noncomputable def klexG (ops : Array Oper) (o : Oper) (yes next : KLex) : KLex :=
  match o.guard with
  | none => yes
  | some _ => ⟨fun rec ts h => ci ((kwant ops o).run ts) (yes.run rec ts h) (ob (next.run rec ((kput o).run ts undef) h) fun x => some (⟨undef, false, ts, none⟩ :: x.1, x.2.1, x.2.2))⟩
noncomputable def klex (P : Program) (G : Nat) (ops : Array Oper) : List (Nat × Oper) → KLex :=
  @List.rec (Nat × Oper) (fun _ => KLex) ⟨fun _ ts h => some ([], [h], ts)⟩ (fun x _ ih => klexG ops x.2 (klexOp P G x.2 ih) ih)
noncomputable def kreadOk (P : Program) (o : Oper) (r : KRec) (lo hi : Nat) (hs : List AH) : Bool :=
  ((hs.drop lo).take (hi + 1 - lo)).all fun h => @Option.rec Value (fun _ => Bool) false (fun v => veq 8 v r.v) ((kread P o).run r.ts h)
noncomputable def kreadsOk (P : Program) (ops : Array Oper) (mk ws : List Nat) (hs : List AH) : List (Nat × Oper) → List KRec → Nat → Bool
  | (i, o) :: l, r :: rs, c =>
    ci r.wr (kreadsOk P ops mk ws hs l rs (c + 1))
     ((ci (noMem o.op && r.new.isNone) true (!((kwant ops o).run r.ts) || match r.new with
       | some (n, b) => freeOk n b (loF mk i ws 0) (hiF mk i ws 0) c hs
       | none => kreadOk P o r (loF mk i ws 0) (hiF mk i ws 0) hs)) && kreadsOk P ops mk ws hs l rs c)
  | _, _, _ => true
def kws : List (Nat × Oper) → List KRec → List Nat
  | (i, _) :: l, r :: rs => if r.wr then i :: kws l rs else kws l rs
  | _, _ => []
def knewOk : List KRec → Nat → Bool
  | r :: rs, n => match r.new with
    | some (m, _) => Nat.ble n m && knewOk rs (m + 1)
    | none => knewOk rs n
  | [], _ => true
def dmax (ops : Array Oper) : Nat := ops.toList.foldl (fun m o => match o.dst with
  | some d => Nat.max m (d + 1)
  | none => m) 0
noncomputable def kregion (P : Program) (G : Nat) (ops : Array Oper) : Clo (K2 → Nat → TT → AH → Option (TT × AH)) :=
  let mk := masks ops.toList []
  let l := listed ops (orderOf P ops mk)
  ci (statOk G (dmax ops) ops mk (orderOf P ops mk) l)
    ⟨fun rec sz ts h => ci (Nat.ble (dmax ops) sz) (ob ((klex P G ops l).run rec ts h) fun x =>
      ci (chainOk mk (kws l x.1) && knewOk x.1 h.next && kreadsOk P ops mk (kws l x.1) x.2.1 l x.1 0) (ob (lastH x.2.1) fun h' => some (x.2.2, h')) none) none⟩
    ⟨fun _ _ _ _ => none⟩
noncomputable def kresults (P : Program) : List ResultVar → Clo (TT → AH → Option (List Value)) :=
  @List.rec ResultVar (fun _ => Clo (TT → AH → Option (List Value))) ⟨fun _ _ => some []⟩ (fun x _ ih => match x with
    | .tmp t => ⟨fun ts h => ob (ih.run ts h) fun l => some ((tget 12 t).run ts :: l)⟩
    | .cell a t => ⟨fun ts h => ob ((kload P t (.tmp a)).run ts h) fun v => ob (ih.run ts h) fun l => some (v :: l)⟩)
noncomputable def kres (P : Program) (f : FuncId) : KRead :=
  match (lget f).run P.funcs.toList with
  | some fn => match fn.results.toList with
    | [.tmp t] => ⟨fun ts _ => some ((tget 12 t).run ts)⟩
    | [.cell a t] => kload P t (.tmp a)
    | l => ⟨fun ts h => ob ((kresults P l).run ts h) fun vs => some (.tuple ⟨vs⟩)⟩
  | none => knone
noncomputable def tarr (sz : Nat) (ts : TT) : Array Value := ⟨(List.range sz).map fun i => (tget 12 i).run ts⟩
noncomputable def kleave (P : Program) (rec : K2) (jump : Option Code) : KB := fun C ds ts h =>
  @Option.rec Nat (fun _ => Option (Value × AH)) (@Option.rec Code (fun _ => Option (Value × AH)) (rec.b C ds ts h) (fun c => match c with
    | .ret => rec.b C ds ts h
    | _ => none) jump) (fun l => arun P (Instr.endRound l jump) h) C.ro
noncomputable def kback (P : Program) (rec : K2) : KB := fun C ds ts h =>
  @List.rec Deferred (fun _ => Option (Value × AH)) (ob ((kres P C.f).run ts h) fun v => some (v, h)) (fun d ds _ => match d.target with
    | .collected b => ob (arun P (Instr.takeDeferred b) h) fun x => rec.b C (x.1 ++ ds) ts x.2
    | .fn (.func g) captured => ci (kbodied P g) (ob ((kenter P g (d.args.toList.length + captured.toList.length) .deferred).run rec (d.args.toList ++ captured.toList) h) fun x => rec.b C ds ts x.2) none
    | _ => none) ds
noncomputable def kno : KStep := ⟨fun _ _ _ _ _ _ => none⟩
noncomputable def kcode (P : Program) (G : Nat) (c : Code) : KStep :=
  match c with
  | .ret => ⟨fun rec C ds k ts h => kleave P rec (some .ret) C ds ts h⟩
  | .skip | .label _ => ⟨fun rec C ds k ts h => rec.k C ds k ts h⟩
  | .seq a b => ⟨fun rec C ds k ts h => rec.k C ds (.code a :: .code b :: k) ts h⟩
  | .cond c a b => ci (okOperand G c) ⟨fun rec C ds k ts h => ob (vBool ((kval c).run ts)) fun t => ci t (rec.k C ds (.code a :: k) ts h) (rec.k C ds (.code b :: k) ts h)⟩ kno
  | .block id b => ⟨fun rec C ds k ts h => rec.k C ds (.code b :: .inBlock id :: k) ts h⟩
  | .loop b => ⟨fun rec C ds k ts h => rec.k C ds (.code b :: .inLoop b :: k) ts h⟩
  | .scope b => ⟨fun rec C ds k ts h => rec.k C ds (.code b :: .inScope b :: k) ts h⟩
  | .exit id => ⟨fun rec C ds k ts h => @Option.rec (List Item) (fun _ => Option (Value × AH)) (kleave P rec (some (.exit id)) C ds ts h) (fun k => rec.k C ds k ts h) (exitTo id k)⟩
  | .goto l => ⟨fun rec C ds k ts h => @Option.rec (List Item) (fun _ => Option (Value × AH)) (kleave P rec (some (.goto l)) C ds ts h) (fun k => rec.k C ds k ts h) (gotoIn l k)⟩
  | .region _ ops draw => ci draw ⟨fun rec C ds k ts h => ob ((kregion P G ops).run rec C.sz ts h) fun x => rec.k C ds k x.1 x.2⟩ ⟨fun rec C ds k ts h => rec.k C ds (.inRegion ops (List.range ops.size) :: k) ts h⟩
  | .rangeFunc g ps a b => ci (okOperand G g) ⟨fun rec C ds k ts h => ob (arun P (Instr.enterLoop C.f (tarr C.sz ts) ps a b C.ro) h) fun x => ob (vFn ((kval g).run ts)) fun v =>
      ci (kbodied P v.f) (ob ((kenter P v.f (v.p.toList.length + Nat.succ v.q.toList.length) .normal).run rec (v.p.toList ++ (.func (.yield x.1.1) #[] #[] :: v.q.toList)) x.2) fun y => rec.k C (x.1.2 ++ ds) (.endRangeFunc x.1.1 :: k) ts y.2) none⟩ kno
  | _ => kno
noncomputable def koper (P : Program) (G : Nat) (ops : Array Oper) (l : List Nat) (o : Oper) : KStep :=
  ci (okOper G o)
    (match o.op with
    | .defer _ => ⟨fun rec C ds k ts h => oN C.ro (ob (aop P o (kvalF ts) h) fun x => match x.1 with
      | .defer d => rec.k C (d :: ds) (.inRegion ops l :: k) ((kput o).run ts undef) x.2
      | _ => none)⟩
    | _ => match classOf P o with
      | .read => ⟨fun rec C ds k ts h => ob ((kread P o).run ts h) fun v => rec.k C ds (.inRegion ops l :: k) ((kput o).run ts v) h⟩
      | _ => ⟨fun rec C ds k ts h => ob ((kchain P o).run rec ts h) fun x => rec.k C ds (.inRegion ops l :: k) ((kput o).run ts x.1) x.2⟩) kno
noncomputable def kopG (P : Program) (G : Nat) (ops : Array Oper) (l : List Nat) (o : Oper) : KStep :=
  let yes : KStep := match o.op with
    | .call c => match c.callee with
      | .builtin .recover => ⟨fun rec C ds k ts h => oN C.ro (rec.k C ds (.inRegion ops l :: k) ((kput o).run ts .nilIface) h)⟩
      | _ => koper P G ops l o
    | _ => koper P G ops l o
  match o.guard with
  | none => ⟨fun rec C ds k ts h => ci (dstOk C.sz o) (yes.run rec C ds k ts h) none⟩
  | some _ => ⟨fun rec C ds k ts h => ci (dstOk C.sz o) (ci ((kwant ops o).run ts) (yes.run rec C ds k ts h) (rec.k C ds (.inRegion ops l :: k) ((kput o).run ts undef) h)) none⟩
noncomputable def kitem (P : Program) (G : Nat) (it : Item) : KStep :=
  match it with
  | .code c => kcode P G c
  | .inBlock _ | .inScope _ => ⟨fun rec C ds k ts h => rec.k C ds k ts h⟩
  | .inLoop b => ⟨fun rec C ds k ts h => rec.k C ds (.code b :: .inLoop b :: k) ts h⟩
  | .inRegion ops l => match l with
    | [] => ⟨fun rec C ds k ts h => rec.k C ds k ts h⟩
    | i :: l => match ops[i]? with
      | some o => kopG P G ops l o
      | none => kno
  | .beginRound => ⟨fun rec C ds k ts h => ob C.ro fun l => ob (arun P (Instr.beginRound l) h) fun x => rec.k C ds k ts x.2⟩
  | .endRangeFunc l => ⟨fun rec C ds k ts h => ob (arun P (Instr.endLoop l) h) fun x => @Option.rec Code (fun _ => Option (Value × AH)) (rec.k C ds k ts x.2) (fun c => rec.k C ds (.code c :: k) ts x.2) x.1⟩
  | _ => kno
noncomputable def kstep (P : Program) (G : Nat) (rec : K2) : KR := fun C ds todo ts h =>
  @List.rec Item (fun _ => Option (Value × AH)) (kleave P rec none C ds ts h) (fun it k _ => (kitem P G it).run rec C ds k ts h) todo
noncomputable def krun (P : Program) (G : Nat) : Nat → K2 := @Nat.rec (fun _ => K2) ⟨fun _ _ _ _ _ => none, fun _ _ _ _ => none⟩ (fun _ ih => ⟨kstep P G ih, kback P ih⟩)
noncomputable def kfunc (P : Program) (n f : Nat) (h : AH) : Option (Value × AH) := (kenter P f 0 .normal).run (krun P 0 n) [] h
noncomputable def kTrue (o : Option (Value × AH)) : Bool := @Option.rec (Value × AH) (fun _ => Bool) false (fun x => @Option.rec Bool (fun _ => Bool) false (fun b => b) (vBool x.1)) o
noncomputable def kruns (P : Program) (f n : Nat) : Bool := kTrue (kfunc P n f ⟨.leaf, 0, 0⟩)
end Go.Ab
/- The quick executor: its trees and lists say what the plain ones say. -/
namespace Go.Ab
set_option linter.unusedSimpArgs false
set_option linter.unusedVariables false
theorem ob_eq {α β : Type} {o : Option α} {f : α → Option β} {b : β} (h : ob o f = some b) : ∃ a, o = some a ∧ f a = some b := by
  cases o with
  | none => cases h
  | some a => exact ⟨a, rfl, h⟩
@[simp] theorem ob_some {α β : Type} (a : α) (f : α → Option β) : ob (some a) f = f a := rfl
@[simp] theorem ci_true {α : Type} (x y : α) : ci true x y = x := rfl
@[simp] theorem ci_false {α : Type} (x y : α) : ci false x y = y := rfl
theorem ci_eq {α : Type} {b : Bool} {x : Option α} {y : α} (h : ci b x none = some y) : b = true ∧ x = some y := by
  cases b with
  | true => exact ⟨rfl, h⟩
  | false => cases h
theorem oN_eq {α β : Type} {o : Option α} {x : Option β} {y : β} (h : oN o x = some y) : o = none ∧ x = some y := by
  cases o with
  | none => exact ⟨rfl, h⟩
  | some a => cases h
theorem orElse_eq {α : Type} {o p : Option α} {y : α} (h : orElse o p = some y) : o = some y ∨ p = some y := by
  cases o with
  | none => exact .inr h
  | some a => exact .inl h
theorem ob_orElse {α β : Type} {o : Option α} {f : α → Option β} {p : Option β} {y : β} (h : orElse (ob o f) p = some y) : (∃ a, o = some a ∧ f a = some y) ∨ p = some y := by
  rcases orElse_eq h with h | h
  · exact .inl (ob_eq h)
  · exact .inr h
theorem vBool_eq {v : Value} {b : Bool} (h : vBool v = some b) : v = .bool b := by cases v <;> cases h; rfl
theorem vAddr_eq {v : Value} {b : Addr} (h : vAddr v = some b) : v = .pointer (some b) := by
  cases v <;> first | (cases h; done) | skip
  rename_i a
  have : a = some b := h
  rw [this]
theorem vStr_eq {v : Value} {b : ByteArray} (h : vStr v = some b) : v = .string b := by cases v <;> cases h; rfl
theorem vSl_eq {v : Value} {b : Sl} (h : vSl v = some b) : v = .slice b.a b.l b.c := by cases v <;> cases h; rfl
theorem vAgg_eq {v : Value} {b : Array Value} (h : vAgg v = some b) : v = .agg b := by cases v <;> cases h; rfl
theorem vTup_eq {v : Value} {b : Array Value} (h : vTup v = some b) : v = .tuple b := by cases v <;> cases h; rfl
theorem vFn_eq {v : Value} {b : Fv} (h : vFn v = some b) : v = .func (.func b.f) b.p b.q := by
  cases v <;> first | (cases h; done) | skip
  rename_i f p q
  have h : fFunc f p q = some b := h
  cases f <;> cases h
  rfl
theorem kNo_inj {k l : IntKind} (h : kNo k = kNo l) : k = l := by cases k <;> cases l <;> first | rfl | (simp [kNo] at h)
theorem vNat_eq {k : IntKind} {v : Value} {n : Nat} (h : (vNat k).run v = some n) : v = .int k (.ofNat n) := by
  cases v <;> first | (cases h; done) | skip
  rename_i l i
  have h : ci (Nat.beq (kNo k) (kNo l)) (iNat i) none = some n := h
  obtain ⟨h1, h2⟩ := ci_eq h
  have := kNo_inj (Nat.eq_of_beq_eq_true h1)
  subst this
  cases i with
  | ofNat m =>
    have h2 : some m = some n := h2
    cases h2
    rfl
  | negSucc m => cases h2
theorem vOne_eq {v : Value} (h : vOne v = true) : v.oneCell = true := by cases v <;> first | rfl | cases h
theorem vOne_cells {v : Value} (h : vOne v = true) : v.cells = #[v] := by cases v <;> first | rfl | cases h
theorem lget_eq {α : Type} : ∀ (n : Nat) (l : List α), (lget n).run l = l[n]?
  | 0, [] => rfl
  | 0, _ :: _ => rfl
  | n + 1, [] => rfl
  | n + 1, _ :: t => by
    show (lget n).run t = _
    rw [lget_eq n t]
    simp
theorem lset_eq {α : Type} : ∀ (n : Nat) (l : List α) (x : α) (r : List α), (lset n).run l x = some r → n < l.length ∧ r = l.set n x
  | 0, [], x, r, h => by cases h
  | 0, _ :: _, x, r, h => by cases h; exact ⟨Nat.succ_pos _, rfl⟩
  | n + 1, [], x, r, h => by cases h
  | n + 1, v :: t, x, r, h => by
    have h : ob ((lset n).run t x) (fun r => some (v :: r)) = some r := h
    obtain ⟨a, h1, h2⟩ := ob_eq h
    cases h2
    obtain ⟨h3, h4⟩ := lset_eq n t x a h1
    exact ⟨Nat.succ_lt_succ h3, by rw [h4]; rfl⟩
theorem ldrop_eq : ∀ (n : Nat) (l : List Value), (ldrop n).run l = l.drop n
  | 0, l => rfl
  | n + 1, [] => rfl
  | n + 1, v :: t => by
    show (ldrop n).run t = _
    rw [ldrop_eq n t]
    rfl
theorem ltake_eq : ∀ (n : Nat) (l r : List Value), (ltake n).run l = some r → n ≤ l.length ∧ r = l.take n
  | 0, l, r, h => by cases h; exact ⟨Nat.zero_le _, by simp⟩
  | n + 1, [], r, h => by cases h
  | n + 1, v :: t, r, h => by
    have h : ob ((ltake n).run t) (fun r => some (v :: r)) = some r := h
    obtain ⟨a, h1, h2⟩ := ob_eq h
    cases h2
    obtain ⟨h3, h4⟩ := ltake_eq n t a h1
    exact ⟨Nat.succ_le_succ h3, by rw [h4]; rfl⟩
theorem llen_eq {α : Type} : ∀ (l : List α), llen l = l.length
  | [] => rfl
  | _ :: t => by show Nat.succ (llen t) = _; rw [llen_eq t]; rfl
def putL (l : List Value) (o : Nat) : List Value → List Value
  | [] => l
  | v :: x => putL (l.set o v) (o + 1) x
theorem putL_cons (u : Value) : ∀ (x l : List Value) (o : Nat), putL (u :: l) (o + 1) x = u :: putL l o x
  | [], l, o => rfl
  | v :: x, l, o => by simp only [putL, List.set_cons_succ]; exact putL_cons u x _ _
theorem lover_eq : ∀ (x l r : List Value), lover x l = some r → x.length ≤ l.length ∧ r = putL l 0 x ∧ ∀ v ∈ x, vOne v = true
  | [], l, r, h => by cases h; exact ⟨Nat.zero_le _, rfl, fun v hv => by cases hv⟩
  | v :: x, [], r, h => by cases h
  | v :: x, u :: t, r, h => by
    have h : ci (vOne v) (ob (lover x t) fun r => some (v :: r)) none = some r := h
    obtain ⟨h0, h⟩ := ci_eq h
    obtain ⟨a, h1, h2⟩ := ob_eq h
    cases h2
    obtain ⟨h3, h4, h5⟩ := lover_eq x t a h1
    refine ⟨Nat.succ_le_succ h3, ?_, fun w hw => ?_⟩
    · simp only [putL, List.set_cons_zero, putL_cons]; rw [h4]
    · rcases List.mem_cons.1 hw with rfl | hw
      · exact h0
      · exact h5 w hw
theorem lputs_eq : ∀ (n : Nat) (l x r : List Value), (lputs n).run l x = some r → n + x.length ≤ l.length ∧ r = putL l n x ∧ ∀ v ∈ x, vOne v = true
  | 0, l, x, r, h => by
    obtain ⟨h1, h2⟩ := lover_eq x l r h
    exact ⟨by omega, h2⟩
  | n + 1, [], x, r, h => by cases h
  | n + 1, u :: t, x, r, h => by
    have h : ob ((lputs n).run t x) (fun r => some (u :: r)) = some r := h
    obtain ⟨a, h1, h2⟩ := ob_eq h
    cases h2
    obtain ⟨h3, h4, h5⟩ := lputs_eq n t x a h1
    exact ⟨by simp only [List.length_cons]; omega, by rw [putL_cons, h4], h5⟩
theorem vcells_eq (v : Value) : vcells v = v.cells.toList := by cases v <;> rfl
theorem kinfo_eq {P : Program} {t : TypeId} {i : TypeInfo} (h : kinfo P t = some i) : P.info? t = some i ∧ t < P.types.size := by
  unfold kinfo at h
  rw [lget_eq, Array.getElem?_toList] at h
  obtain ⟨ht, _⟩ := Array.getElem?_eq_some_iff.1 h
  exact ⟨by simp only [Tables.info?, if_pos ht]; exact h, ht⟩
theorem kund_eq {P : Program} {t : TypeId} {d : TypeDesc} (h : kund P t = some d) : P.underlying t = some d := by
  unfold kund at h
  obtain ⟨i, h1, h2⟩ := ob_eq h
  unfold Program.underlying
  rw [(kinfo_eq h1).1]
  obtain ⟨desc, s1, s2, s3, s4, s5, s6, s7, s8, s9⟩ := i
  cases desc <;> first | exact h2 | skip
  simp only at h2 ⊢
  obtain ⟨j, h3, h4⟩ := ob_eq h2
  rw [(kinfo_eq h3).1]
  exact h4
theorem tyInt_eq {P : Program} {t : TypeId} {k : IntKind} (h : tyInt (kund P t) = some k) : P.underlying t = some (.int k) := by
  unfold tyInt at h
  split at h
  · rename_i k' e
    cases h
    exact kund_eq e
  · cases h
/- The trees. -/
theorem tget_tset : ∀ (f : Nat) (t : TT) (n : Nat) (x : Value) (m : Nat), n + 1 < 2 ^ f → (tget f m).run ((tset f n).run t x) = if m = n then x else (tget f m).run t := by
  intro f
  induction f with
  | zero => intro t n x m h; simp at h
  | succ f ih =>
    intro t n x m h
    have h2 : 2 ^ (f + 1) = 2 * 2 ^ f := by rw [Nat.pow_succ, Nat.mul_comm]
    rw [h2] at h
    have und : ∀ k, (tget f k).run .leaf = undef := fun k => by
      cases f with
      | zero => rfl
      | succ f =>
        show (ci (Nat.beq k 0) _ (ci (Nat.beq (Nat.mod k 2) 1) _ _) : Clo (TT → Value)).run .leaf = undef
        cases Nat.beq k 0 <;> cases Nat.beq (Nat.mod k 2) 1 <;> rfl
    show (ci (Nat.beq m 0) _ (ci (Nat.beq (Nat.mod m 2) 1) _ _) : Clo (TT → Value)).run ((ci (Nat.beq n 0) _ (ci (Nat.beq (Nat.mod n 2) 1) _ _) : Clo (TT → Value → TT)).run t x) = if m = n then x else (ci (Nat.beq m 0) _ (ci (Nat.beq (Nat.mod m 2) 1) _ _) : Clo (TT → Value)).run t
    by_cases hn : n = 0
    · subst hn
      rw [show Nat.beq 0 0 = true from rfl, ci_true]
      by_cases hm : m = 0
      · subst hm
        simp only [show Nat.beq 0 0 = true from rfl, ci_true, if_true]
        cases t <;> rfl
      · rw [beq_false hm, ci_false, if_neg hm]
        cases t <;> cases Nat.beq (Nat.mod m 2) 1 <;> first | rfl | exact und _
    · rw [beq_false hn, ci_false]
      by_cases h1 : n % 2 = 1
      · have hk : n / 2 + 1 < 2 ^ f := by omega
        rw [show Nat.beq (Nat.mod n 2) 1 = true from by show Nat.beq (n % 2) 1 = true; rw [h1]; rfl, ci_true]
        by_cases hm : m = 0
        · subst hm
          simp only [show Nat.beq 0 0 = true from rfl, ci_true, if_neg (Ne.symm hn)]
          cases t <;> rfl
        · rw [beq_false hm, ci_false]
          by_cases hm1 : m % 2 = 1
          · rw [show Nat.beq (Nat.mod m 2) 1 = true from by show Nat.beq (m % 2) 1 = true; rw [hm1]; rfl, ci_true]
            have e : m / 2 = n / 2 ↔ m = n := by omega
            cases t with
            | leaf =>
              show (tget f (Nat.div m 2)).run ((tset f (Nat.div n 2)).run .leaf x) = if m = n then x else undef
              rw [ih _ (Nat.div n 2) _ (Nat.div m 2) hk, und]
              simp only [show (Nat.div m 2 = Nat.div n 2) ↔ m = n from e]
            | node l v r =>
              show (tget f (Nat.div m 2)).run ((tset f (Nat.div n 2)).run l x) = if m = n then x else (tget f (Nat.div m 2)).run l
              rw [ih _ (Nat.div n 2) _ (Nat.div m 2) hk]
              simp only [show (Nat.div m 2 = Nat.div n 2) ↔ m = n from e]
          · rw [show Nat.beq (Nat.mod m 2) 1 = false from beq_false hm1, ci_false]
            have : m ≠ n := by omega
            rw [if_neg this]
            cases t <;> first | rfl | exact und _
      · have hk : n / 2 - 1 + 1 < 2 ^ f := by omega
        rw [show Nat.beq (Nat.mod n 2) 1 = false from beq_false h1, ci_false]
        by_cases hm : m = 0
        · subst hm
          simp only [show Nat.beq 0 0 = true from rfl, ci_true, if_neg (Ne.symm hn)]
          cases t <;> rfl
        · rw [beq_false hm, ci_false]
          by_cases hm1 : m % 2 = 1
          · rw [show Nat.beq (Nat.mod m 2) 1 = true from by show Nat.beq (m % 2) 1 = true; rw [hm1]; rfl, ci_true]
            have : m ≠ n := by omega
            rw [if_neg this]
            cases t <;> first | rfl | exact und _
          · rw [show Nat.beq (Nat.mod m 2) 1 = false from beq_false hm1, ci_false]
            have e : m / 2 - 1 = n / 2 - 1 ↔ m = n := by omega
            cases t with
            | leaf =>
              show (tget f (Nat.sub (Nat.div m 2) 1)).run ((tset f (Nat.sub (Nat.div n 2) 1)).run .leaf x) = if m = n then x else undef
              rw [ih _ (Nat.sub (Nat.div n 2) 1) _ (Nat.sub (Nat.div m 2) 1) hk, und]
              simp only [show (Nat.sub (Nat.div m 2) 1 = Nat.sub (Nat.div n 2) 1) ↔ m = n from e]
            | node l v r =>
              show (tget f (Nat.sub (Nat.div m 2) 1)).run ((tset f (Nat.sub (Nat.div n 2) 1)).run r x) = if m = n then x else (tget f (Nat.sub (Nat.div m 2) 1)).run r
              rw [ih _ (Nat.sub (Nat.div n 2) 1) _ (Nat.sub (Nat.div m 2) 1) hk]
              simp only [show (Nat.sub (Nat.div m 2) 1 = Nat.sub (Nat.div n 2) 1) ↔ m = n from e]
theorem mget_eq : ∀ (f n : Nat) (t : Tr) (x : Obj × Bool), (mget f n).run t = some x → t.get n = some x := by
  intro f
  induction f with
  | zero => intro n t x h; cases h
  | succ f ih =>
    intro n t x h
    replace h : (ci (Nat.beq n 0) _ (ci (Nat.beq (Nat.mod n 2) 1) _ _) : Clo (Tr → Option (Obj × Bool))).run t = some x := h
    cases t with
    | leaf => cases h0 : Nat.beq n 0 <;> rw [h0] at h <;> cases h1 : Nat.beq (Nat.mod n 2) 1 <;> rw [h1] at h <;> cases h
    | node l o r =>
      have h1' : Nat.beq (Nat.mod n 2) 1 = Nat.beq (n % 2) 1 := rfl
      simp only [Tr.get]
      cases h0 : Nat.beq n 0 with
      | true => rw [h0] at h; exact h
      | false =>
        rw [h0, ci_false, h1'] at h
        cases h1 : Nat.beq (n % 2) 1 with
        | true => rw [h1] at h; exact ih _ _ _ h
        | false => rw [h1] at h; exact ih _ _ _ h
theorem mset_eq : ∀ (f n : Nat) (t : Tr) (x : Option (Obj × Bool)), (mset f n).run t x = Tr.set f t n x := by
  intro f
  induction f with
  | zero => intro n t x; rfl
  | succ f ih =>
    intro n t x
    show (ci (Nat.beq n 0) _ (ci (Nat.beq (Nat.mod n 2) 1) _ _) : Clo (Tr → Option (Obj × Bool) → Tr)).run t x = _
    have h1' : Nat.beq (Nat.mod n 2) 1 = Nat.beq (n % 2) 1 := rfl
    rw [h1']
    cases t with
    | leaf =>
      simp only [Tr.set]
      cases h0 : Nat.beq n 0 with
      | true => rfl
      | false =>
        cases h1 : Nat.beq (n % 2) 1 with
        | true => simp only [ci_true, ci_false, cond_true, cond_false]; rw [← ih]; rfl
        | false => simp only [ci_true, ci_false, cond_true, cond_false]; rw [← ih]; rfl
    | node l o r =>
      simp only [Tr.set]
      cases h0 : Nat.beq n 0 with
      | true => rfl
      | false =>
        cases h1 : Nat.beq (n % 2) 1 with
        | true => simp only [ci_true, ci_false, cond_true, cond_false]; rw [← ih]; rfl
        | false => simp only [ci_true, ci_false, cond_true, cond_false]; rw [← ih]; rfl
theorem kAH_eq {α : Type} (h : AH) (f : Tr → Nat → Nat → α) : kAH h f = f h.t h.base h.next := by
  obtain ⟨t, b, n⟩ := h
  cases b <;> rfl
theorem kpush_eq (h : AH) (o : Obj) (op : Bool) : kpush h o op = h.push o op := by
  unfold kpush
  rw [kAH_eq, mset_eq]
  rfl
theorem krow_eq {h : AH} {a : Addr} {r : Row} (e : krow h a = some r) : h.get a.block = some (.cells ⟨r.c⟩ r.t (r.lo, r.hi), r.op) := by
  unfold krow at e
  obtain ⟨x, h1, h2⟩ := ob_eq e
  rw [AH.get, mget_eq _ _ _ _ h1]
  obtain ⟨o, op⟩ := x
  unfold oRow at h2
  split at h2
  · rename_i c t lo hi op' e'
    cases e'
    cases h2
    rfl
  · cases h2
theorem kcell_eq {h : AH} {a : Addr} {v : Value} (e : kcell h a = some v) : h.cell? a = some v := by
  unfold kcell at e
  obtain ⟨r, h1, h2⟩ := ob_eq e
  obtain ⟨h3, h4⟩ := oN_eq h2
  rw [lget_eq] at h4
  simp only [AH.cell?, krow_eq h1, h3, Option.isSome_none, Bool.false_eq_true, if_false]
  simpa using h4
theorem add_none {a : Addr} (h : a.spot = none) (n : Nat) : a.add n = ⟨a.block, a.off + n, none⟩ := by
  obtain ⟨b, o, s⟩ := a
  cases h
  unfold Addr.add
  split
  · rename_i e
    subst e
    rfl
  · rfl
theorem kcells_eq {h : AH} {n : Nat} {a : Addr} {l : List Value} (e : kcells h n a = some l) : a.spot = none ∧ l.length = n ∧ ∀ (j : Nat) (v : Value), l[j]? = some v → h.cell? (a.add j) = some v := by
  unfold kcells at e
  obtain ⟨r, h1, h2⟩ := ob_eq e
  obtain ⟨h3, h4⟩ := oN_eq h2
  rw [ldrop_eq] at h4
  obtain ⟨h5, h6⟩ := ltake_eq _ _ _ h4
  refine ⟨h3, by rw [h6]; simp at h5 ⊢; omega, fun j v hj => ?_⟩
  rw [add_none h3]
  rw [h6, List.getElem?_take] at hj
  split at hj
  · rw [List.getElem?_drop] at hj
    simp only [AH.cell?, krow_eq h1, Option.isSome_none, Bool.false_eq_true, if_false]
    simpa using hj
  · cases hj
end Go.Ab
/- The quick executor: what it reads is what the plain one reads. -/
namespace Go.Ab
set_option linter.unusedSimpArgs false
set_option linter.unusedVariables false
theorem rrun_bind' {P : Program} {α β : Type} (s : Sem α) (f : α → Sem β) (h : AH) : rrun P (s.bind f) h = (rrun P s h).bind fun x => rrun P (f x) h := by
  induction s with
  | pure a => rfl
  | load m a k ih => simp only [Sem.bind, rrun]; split <;> simp [ih]
  | getObj r k ih => simp only [Sem.bind, rrun]; (repeat' split) <;> simp [ih]
  | program k ih => simp only [Sem.bind, rrun]; exact ih _
  | mark m k ih => simp only [Sem.bind, rrun]; exact ih
  | _ => simp [Sem.bind, rrun]
theorem rrun_bind {P : Program} {α β : Type} (s : Sem α) (f : α → Sem β) (h : AH) : rrun P (s >>= f) h = (rrun P s h).bind fun x => rrun P (f x) h := rrun_bind' s f h
theorem rrun_pure {P : Program} {α : Type} (a : α) (h : AH) : rrun P (pure a : Sem α) h = some a := rfl
theorem rrun_load {P : Program} (a : Addr) (h : AH) {v : Value} (e : h.cell? a = some v) : rrun P (load a) h = some v := by
  simp only [load, rrun, e]
section
variable {P : Program} {h : AH}
theorem rrun_underlying {t : TypeId} {d : TypeDesc} (e : P.underlying t = some d) : rrun P (underlying t) h = some d := by
  show rrun P (program >>= _) h = _
  rw [rrun_bind]
  show rrun P (match P.underlying t with | some d => pure d | none => stuck "no such type") h = _
  rw [e]
  rfl
theorem rrun_typeInfo {t : TypeId} {i : TypeInfo} (e : P.info? t = some i) : rrun P (typeInfo t) h = some i := by
  show rrun P (program >>= _) h = _
  rw [rrun_bind]
  show rrun P (match P.info? t with | some d => pure d | none => stuck "no such type") h = _
  rw [e]
  rfl
theorem rrun_sizeOf {t : TypeId} {i : TypeInfo} (e : P.info? t = some i) : rrun P (sizeOf t) h = some i.size := by
  show rrun P (typeInfo t >>= _) h = _
  rw [rrun_bind, rrun_typeInfo e]
  rfl
theorem rrun_isAgg {t : TypeId} {d : TypeDesc} (e : P.underlying t = some d) : rrun P (isAgg t) h = some (isAggT d) := by
  show rrun P (underlying t >>= _) h = _
  rw [rrun_bind, rrun_underlying e]
  cases d <;> rfl
theorem rrun_cells {a : Addr} : ∀ (n i : Nat) (acc : Array Value) (l : List Value), l.length = n → (∀ (j : Nat) (v : Value), l[j]? = some v → h.cell? (a.add (i + j)) = some v) → rrun P (loadCellsFrom a i n acc) h = some (acc ++ l.toArray)
  | 0, i, acc, l, hl, _ => by
    have : l = [] := List.length_eq_zero_iff.1 hl
    subst this
    simp [loadCellsFrom, rrun_pure]
  | n + 1, i, acc, l, hl, hc => by
    cases l with
    | nil => simp at hl
    | cons v l =>
      show rrun P (load (a.add i) >>= fun v => loadCellsFrom a (i + 1) n (acc.push v)) h = _
      have h0 : h.cell? (a.add i) = some v := hc 0 v rfl
      rw [rrun_bind, rrun_load _ _ h0]
      show rrun P (loadCellsFrom a (i + 1) n (acc.push v)) h = _
      rw [rrun_cells n (i + 1) (acc.push v) l (by simpa using hl) (fun j u hj => by
        have := hc (j + 1) u (by simpa using hj)
        rw [show i + 1 + j = i + (j + 1) by omega]
        exact this)]
      congr 1
      apply Array.toList_inj.1
      simp
theorem kload_var {t : TypeId} {x : Operand} {ts : TT} {v : Value} (e : (kload P t x).run ts h = some v) : ∃ a, kvalF ts x = .pointer (some a) ∧ rrun P (loadVar t a) h = some v := by
  unfold kload at e
  split at e
  · rename_i d i hd hi
    have hd := kund_eq hd
    have hi := (kinfo_eq hi).1
    cases hg : isAggT d with
    | true =>
      rw [hg, ci_true] at e
      obtain ⟨a, h1, h2⟩ := ob_eq e
      obtain ⟨l, h3, h4⟩ := ob_eq h2
      cases h4
      obtain ⟨hs, hl, hc⟩ := kcells_eq h3
      refine ⟨a, vAddr_eq h1, ?_⟩
      show rrun P (isAgg t >>= fun b => if b then (do pure (.agg (← loadCells a (← sizeOf t)))) else load a) h = _
      rw [rrun_bind, rrun_isAgg hd, hg]
      show rrun P (sizeOf t >>= fun n => loadCells a n >>= fun c => pure (Value.agg c)) h = _
      rw [rrun_bind, rrun_sizeOf hi]
      show rrun P (loadCellsFrom a 0 i.size #[] >>= fun c => pure (Value.agg c)) h = _
      rw [rrun_bind, rrun_cells i.size 0 #[] l hl (fun j u hj => by rw [Nat.zero_add]; exact hc j u hj)]
      simp [rrun_pure]
    | false =>
      rw [hg, ci_false] at e
      obtain ⟨a, h1, h2⟩ := ob_eq e
      refine ⟨a, vAddr_eq h1, ?_⟩
      show rrun P (isAgg t >>= fun b => if b then (do pure (.agg (← loadCells a (← sizeOf t)))) else load a) h = _
      rw [rrun_bind, rrun_isAgg hd, hg]
      exact rrun_load _ _ (kcell_eq h2)
  · cases e
variable {o : Oper} {ts : TT} {v : Value}
theorem aread_r {ρ : Operand → Value} (hk : readKind o.op = true) (e : rrun P (execOp ρ o) h = some (.value v)) : aread P o ρ h = some v := by
  unfold aread
  rw [if_pos hk, e]
  rfl
theorem rrun_v {s : Sem Value} (e : rrun P s h = some v) : rrun P (s >>= fun x => pure (Next.value x)) h = some (.value v) := by
  rw [rrun_bind, e]
  rfl
theorem aread_p {ρ : Operand → Value} {h' : AH} (hr : readKind o.op = false) (hk : plainKind o.op = true) (hc : ∀ s d x, o.op ≠ .convert s d x) (e : aop P o ρ h = some (.value v, h')) : aread P o ρ h = some v := by
  unfold aread
  rw [if_neg (by rw [hr]; decide), if_pos hk]
  split
  · rename_i s d x hop
    exact absurd hop (hc s d x)
  · rw [e]
theorem kload_ok {t : TypeId} {x : Operand} (hop : o.op = .load t x) (e : (kload P t x).run ts h = some v) : aread P o (kvalF ts) h = some v := by
  obtain ⟨a, h1, h2⟩ := kload_var e
  refine aread_r (by rw [hop]; rfl) ?_
  simp only [execOp, hop]
  refine rrun_v ?_
  show rrun P (Instr.sureAddr (kvalF ts x) >>= fun a => loadVar t a) h = _
  rw [h1]
  exact h2
theorem rrun_place {a : Addr} {f : Field} {i : TypeInfo} (hi : P.info? f.type = some i) (hn : i.size ≠ 0) : rrun P (fieldPlace a f) h = some (a.add f.offset) := by
  show rrun P (sizeOf f.type >>= fun n => if n = 0 then partAt a f.offset f.byteOffset else pure (a.add f.offset)) h = _
  rw [rrun_bind, rrun_sizeOf hi]
  show rrun P (if i.size = 0 then partAt a f.offset f.byteOffset else pure (a.add f.offset)) h = _
  rw [if_neg hn]
  rfl
theorem kfieldAddr_ok {s : TypeId} {x : Operand} {f : Nat} (hop : o.op = .fieldAddr s x f) (e : (kfieldAddr P o s x f).run ts h = some v) : aread P o (kvalF ts) h = some v := by
  unfold kfieldAddr at e
  split at e
  · rename_i fields hu
    have hu := kund_eq hu
    split at e
    · rename_i fd hf
      split at e
      · rename_i i hi
        have hi := (kinfo_eq hi).1
        cases h0 : Nat.beq i.size 0 with
        | true => rw [h0] at e; exact e
        | false =>
          have hn : i.size ≠ 0 := fun c => by rw [c] at h0; cases h0
          rw [h0, ci_false] at e
          have key : ∀ a, kvalF ts x = .pointer (some a) → rrun P (execOp (kvalF ts) o) h = some (.value (.pointer (some (a.add fd.offset)))) := fun a ha => by
            simp only [execOp, hop]
            refine rrun_v ?_
            simp only [Instr.fieldAt]
            rw [rrun_bind, rrun_underlying hu]
            simp only [Option.bind_some, hf]
            rw [ha]
            show rrun P (fieldPlace a fd >>= fun p => pure (Value.pointer (some p))) h = _
            rw [rrun_bind, rrun_place hi hn]
            rfl
          cases h1 : Nat.beq fd.offset 0 with
          | true =>
            rw [h1, ci_true] at e
            obtain ⟨a, h2, h3⟩ := ob_eq e
            cases h3
            refine aread_r (by rw [hop]; rfl) ?_
            have := key a (vAddr_eq h2)
            rw [Nat.eq_of_beq_eq_true h1] at this
            exact this
          | false =>
            rw [h1, ci_false] at e
            obtain ⟨a, h2, h3⟩ := ob_eq e
            cases h3
            refine aread_r (by rw [hop]; rfl) ?_
            have := key a (vAddr_eq h2)
            have ho : fd.offset ≠ 0 := fun c => by rw [c] at h1; cases h1
            rw [Addr.add, if_neg ho] at this
            exact this
      · cases e
    · cases e
  · cases e
theorem kindexAddr_ok {t : TypeId} {x ix : Operand} (hop : o.op = .indexAddr t x ix) (e : (kindexAddr P o t x ix).run ts h = some v) : aread P o (kvalF ts) h = some v := by
  unfold kindexAddr at e
  refine aread_r (by rw [hop]; rfl) ?_
  simp only [execOp, hop]
  refine rrun_v ?_
  split at e
  · rename_i el hu
    have hu := kund_eq hu
    split at e
    · rename_i i hi
      have hi := (kinfo_eq hi).1
      obtain ⟨s, h1, e⟩ := ob_eq e
      obtain ⟨n, h2, e⟩ := ob_eq e
      obtain ⟨h3, e⟩ := ci_eq e
      obtain ⟨a, h4, e⟩ := ob_eq e
      obtain ⟨h5, e⟩ := oN_eq e
      cases e
      have hx : kvalF ts x = .slice (some a) s.l s.c := by rw [← h4]; exact vSl_eq h1
      have hi2 : kvalF ts ix = .int .i64 (.ofNat n) := vNat_eq h2
      have hlt : n < s.l := by simpa using h3
      simp only [Instr.indexAt, hx, hi2, asIntOf, rrun_bind, rrun_pure, Option.bind_some, rrun_underlying hu]
      rw [if_pos ⟨Int.natCast_nonneg _, by show (n : Int) < (s.l : Int); omega⟩]
      simp only [rrun_bind, rrun_sizeOf hi, Option.bind_some, rrun_pure]
      rw [add_none h5]
      simp
    · cases e
  · rename_i len el hu
    have hu := kund_eq hu
    split at e
    · rename_i i hi
      have hi := (kinfo_eq hi).1
      obtain ⟨a, h1, e⟩ := ob_eq e
      obtain ⟨n, h2, e⟩ := ob_eq e
      obtain ⟨h3, e⟩ := ci_eq e
      obtain ⟨h5, e⟩ := oN_eq e
      cases e
      have hx : kvalF ts x = .pointer (some a) := vAddr_eq h1
      have hi2 : kvalF ts ix = .int .i64 (.ofNat n) := vNat_eq h2
      have hlt : n < len := by simpa using h3
      simp only [Instr.indexAt, hx, hi2, asIntOf, rrun_bind, rrun_pure, Option.bind_some, rrun_underlying hu, Instr.sureAddr]
      rw [if_pos ⟨Int.natCast_nonneg _, by show (n : Int) < (len : Int); omega⟩]
      simp only [rrun_bind, rrun_sizeOf hi, Option.bind_some, rrun_pure]
      rw [add_none h5]
      simp
    · cases e
  · cases e
theorem rrun_part {t : TypeId} {d : TypeDesc} {i : TypeInfo} (hu : P.underlying t = some d) (hi : P.info? t = some i) (c : Array Value) (off : Nat) :
    (isAggT d = true → ∀ l, (ltake i.size).run ((ldrop off).run c.toList) = some l → rrun P (part t c off) h = some (.agg ⟨l⟩)) ∧ (isAggT d = false → ∀ u, (lget off).run c.toList = some u → rrun P (part t c off) h = some u) := by
  refine ⟨fun hg l hl => ?_, fun hg u hl => ?_⟩
  · rw [ldrop_eq] at hl
    obtain ⟨_, rfl⟩ := ltake_eq _ _ _ hl
    show rrun P (isAgg t >>= fun b => if b then (do pure (.agg (c.extract off (off + (← sizeOf t))))) else match c[off]? with | some v => pure v | none => stuck "part: no such cell") h = _
    rw [rrun_bind, rrun_isAgg hu, hg]
    show rrun P (sizeOf t >>= fun n => pure (Value.agg (c.extract off (off + n)))) h = _
    rw [rrun_bind, rrun_sizeOf hi]
    show some (Value.agg (c.extract off (off + i.size))) = _
    congr 2
    apply Array.toList_inj.1
    simp [List.extract_eq_take_drop]
  · rw [lget_eq, Array.getElem?_toList] at hl
    show rrun P (isAgg t >>= fun b => if b then (do pure (.agg (c.extract off (off + (← sizeOf t))))) else match c[off]? with | some v => pure v | none => stuck "part: no such cell") h = _
    rw [rrun_bind, rrun_isAgg hu, hg]
    show rrun P (match c[off]? with | some v => pure v | none => stuck "part: no such cell") h = _
    rw [hl]
    rfl
theorem kpart_ok {t : TypeId} {x : Operand} {off : Nat} (e : (kpart P t x off).run ts h = some v) : ∃ c, kvalF ts x = .agg c ∧ rrun P (part t c off) h = some v := by
  unfold kpart at e
  split at e
  · rename_i d i hd hi
    have hd := kund_eq hd
    have hi := (kinfo_eq hi).1
    cases hg : isAggT d with
    | true =>
      rw [hg, ci_true] at e
      obtain ⟨c, h1, e⟩ := ob_eq e
      obtain ⟨l, h2, e⟩ := ob_eq e
      cases e
      exact ⟨c, vAgg_eq h1, (rrun_part hd hi c off).1 hg l h2⟩
    | false =>
      rw [hg, ci_false] at e
      obtain ⟨c, h1, e⟩ := ob_eq e
      exact ⟨c, vAgg_eq h1, (rrun_part hd hi c off).2 hg v e⟩
  · cases e
theorem kfield_ok {s : TypeId} {x : Operand} {f : Nat} (hop : o.op = .field s x f) (e : (kfield P s x f).run ts h = some v) : aread P o (kvalF ts) h = some v := by
  unfold kfield at e
  refine aread_r (by rw [hop]; rfl) ?_
  simp only [execOp, hop]
  refine rrun_v ?_
  split at e
  · rename_i fields hu
    have hu := kund_eq hu
    split at e
    · rename_i fd hf
      obtain ⟨c, h1, h2⟩ := kpart_ok e
      simp only [Instr.field]
      rw [rrun_bind, rrun_underlying hu]
      simp only [Option.bind_some, hf, h1]
      exact h2
    · cases e
  · cases e
theorem bytes_get {s : ByteArray} {n : Nat} {b : UInt8} (h : s.data.toList[n]? = some b) : s[n]? = some b := by
  rw [Array.getElem?_toList] at h
  obtain ⟨hn, he⟩ := Array.getElem?_eq_some_iff.1 h
  have hn2 : n < s.size := hn
  rw [getElem?_pos s n hn2]
  exact congrArg some he
theorem kindex_ok {t : TypeId} {x ix : Operand} (hop : o.op = .index t x ix) (e : (kindex P o t x ix).run ts h = some v) : aread P o (kvalF ts) h = some v := by
  unfold kindex at e
  split at e
  · rename_i hu
    have hu := kund_eq hu
    obtain ⟨s, h1, e⟩ := ob_eq e
    obtain ⟨n, h2, e⟩ := ob_eq e
    obtain ⟨b, h3, e⟩ := ob_eq e
    cases e
    refine aread_r (by rw [hop]; rfl) ?_
    simp only [execOp, hop]
    refine rrun_v ?_
    have hx : kvalF ts x = .string s := vStr_eq h1
    have hi2 : kvalF ts ix = .int .i64 (.ofNat n) := vNat_eq h2
    rw [lget_eq] at h3
    simp only [Instr.index, hx, hi2, asIntOf, rrun_bind, rrun_pure, Option.bind_some, rrun_underlying hu]
    rw [if_pos (show (0 : Int) ≤ Int.ofNat n from Int.natCast_nonneg n), show (Int.ofNat n).toNat = n from rfl, bytes_get h3]
    rfl
  · rename_i len el hu
    have hu := kund_eq hu
    split at e
    · rename_i d i hd hi
      have hd := kund_eq hd
      have hi := (kinfo_eq hi).1
      obtain ⟨c, h1, e⟩ := ob_eq e
      obtain ⟨n, h2, e⟩ := ob_eq e
      obtain ⟨h3, e⟩ := ci_eq e
      refine aread_r (by rw [hop]; rfl) ?_
      simp only [execOp, hop]
      refine rrun_v ?_
      have hx : kvalF ts x = .agg c := vAgg_eq h1
      have hi2 : kvalF ts ix = .int .i64 (.ofNat n) := vNat_eq h2
      have hlt : n < len := by simpa using h3
      simp only [Instr.index, hx, hi2, asIntOf, rrun_bind, rrun_pure, Option.bind_some, rrun_underlying hu]
      rw [if_pos ⟨Int.natCast_nonneg _, by show (n : Int) < (len : Int); omega⟩, rrun_bind, rrun_sizeOf hi]
      show rrun P (part el c (n * i.size)) h = _
      cases hg : isAggT d with
      | true =>
        rw [hg, ci_true] at e
        obtain ⟨l, h4, e⟩ := ob_eq e
        cases e
        exact (rrun_part hd hi c _).1 hg l h4
      | false =>
        rw [hg, ci_false] at e
        exact (rrun_part hd hi c _).2 hg v e
    · cases e
  · exact e
end
end Go.Ab
/- The quick executor: what it reckons is what the plain one reckons. -/
namespace Go.Ab
set_option linter.unusedSimpArgs false
set_option linter.unusedVariables false
theorem orElse_cases {α : Type} {o p : Option α} {y : α} (h : orElse o p = some y) : o = some y ∨ (o = none ∧ p = some y) := by
  cases o with
  | none => exact .inr ⟨rfl, h⟩
  | some a => exact .inl h
theorem prun_bind' {P : Program} {α β : Type} (s : Sem α) (f : α → Sem β) : prun P (s.bind f) = (prun P s).bind fun x => prun P (f x) := by
  induction s with
  | pure a => rfl
  | program k ih => simp only [Sem.bind, prun]; exact ih _
  | mark m k ih => simp only [Sem.bind, prun]; exact ih
  | choose q k ih => simp only [Sem.bind, prun]; split <;> simp [ih]
  | _ => simp [Sem.bind, prun]
theorem prun_bind {P : Program} {α β : Type} (s : Sem α) (f : α → Sem β) : prun P (s >>= f) = (prun P s).bind fun x => prun P (f x) := prun_bind' s f
theorem wrap_lim {k : IntKind} {n : Nat} (h : n < kLim k) : k.wrap (Int.ofNat n) = Int.ofNat n := by
  have h0 : (0 : Int) ≤ Int.ofNat n := Int.natCast_nonneg n
  have h1 : Int.ofNat n = (n : Int) := rfl
  cases k <;> simp only [kLim] at h
  · exact IntWalk.i8_in _ (by omega)
  · exact IntWalk.i16_in _ (by omega)
  · exact IntWalk.i32_in _ (by omega)
  · exact IntWalk.i64_in _ (by omega)
  · exact IntWalk.u8_in _ (by omega)
  · exact IntWalk.u16_in _ (by omega)
  · exact IntWalk.u32_in _ (by omega)
  · exact IntWalk.u64_in _ (by omega)
section
variable {P : Program} {h : AH} {o : Oper} {ts : TT} {v : Value}
theorem prun_underlying {t : TypeId} {d : TypeDesc} (e : P.underlying t = some d) : prun P (underlying t) = some d := by
  show prun P (program >>= _) = _
  rw [prun_bind]
  show prun P (match P.underlying t with | some d => pure d | none => stuck "no such type") = _
  rw [e]
  rfl
theorem aFlat_of {ρ : Operand → Value} (hf : ∀ x ∈ o.op.operands.toList, isFlat 4 (ρ x) = true) (hr : prun P (execOp ρ o) = some (.value v)) (hv : isFlat 5 v = true) : aFlat P o ρ h = some (.value v, h) := by
  unfold aFlat
  rw [if_pos (List.all_eq_true.2 hf), hr]
  simp only [flatNext, hv, if_true]
theorem prun_v {s : Sem Value} (e : prun P s = some v) : prun P (s >>= fun x => pure (Next.value x)) = some (.value v) := by
  rw [prun_bind, e]
  rfl
theorem aFlat_int {ρ : Operand → Value} {op : BinOp} {t ty : TypeId} {x y : Operand} {k : IntKind} {a b : Int} (hop : o.op = .binOp op t x y ty) (hx : ρ x = .int k a) (hy : ρ y = .int k b) (e : binOp op t (.int k a) (.int k b) = pure v) (hv : isFlat 5 v = true) : aFlat P o ρ h = some (.value v, h) := by
  refine aFlat_of (fun z hz => ?_) ?_ hv
  · rw [hop] at hz
    have hz : z ∈ [x, y] := hz
    rcases List.mem_cons.1 hz with rfl | hz
    · rw [hx]; rfl
    · rcases List.mem_cons.1 hz with rfl | hz
      · rw [hy]; rfl
      · cases hz
  · simp only [execOp, hop]
    refine prun_v ?_
    show prun P (eqGuard op t x y (ρ x) (ρ y) >>= fun _ => binOp op t (ρ x) (ρ y)) = _
    rw [prun_bind, hx, hy, e]
    cases op <;> rfl
theorem aop_int {ρ : Operand → Value} {op : BinOp} {t ty : TypeId} {x y : Operand} {k : IntKind} (hop : o.op = .binOp op t x y ty) (hu : P.underlying t = some (.int k)) : aop P o ρ h = aFlat P o ρ h := by
  have hn : aNilEq P t (ρ x) (ρ y) = none := by
    unfold aNilEq aNilEq0 aSamePtr
    rw [hu]
    rfl
  simp only [aop, hop, hn]
theorem kintOp_ok {op : BinOp} {t ty : TypeId} {x y : Operand} {k : IntKind} (hop : o.op = .binOp op t x y ty) (hu : P.underlying t = some (.int k)) (e : (kintOp P o k op x y).run ts h = some v) : aread P o (kvalF ts) h = some v := by
  have fin : ∀ {a b : Nat} {u : Value}, kvalF ts x = .int k (.ofNat a) → kvalF ts y = .int k (.ofNat b) → binOp op t (.int k (.ofNat a)) (.int k (.ofNat b)) = pure u → isFlat 5 u = true → aread P o (kvalF ts) h = some u := fun hx hy hb hf =>
    aread_p (by rw [hop]; rfl) (by rw [hop]; rfl) (fun s d z c => by rw [hop] at c; cases c) (by rw [aop_int hop hu]; exact aFlat_int hop hx hy hb hf)
  have two : ∀ {f : Nat → Nat → Option Value}, orElse (ob ((vNat k).run ((kval x).run ts)) fun a => ob ((vNat k).run ((kval y).run ts)) fun b => f a b) ((kslow P o).run ts h) = some v →
      (∀ a b, f a b = some v → ∃ u, u = v ∧ binOp op t (.int k (.ofNat a)) (.int k (.ofNat b)) = pure u ∧ isFlat 5 u = true) → aread P o (kvalF ts) h = some v := fun e hf => by
    rcases ob_orElse e with ⟨a, h1, e⟩ | e
    · obtain ⟨b, h2, e⟩ := ob_eq e
      obtain ⟨u, rfl, hb, hu⟩ := hf a b e
      exact fin (vNat_eq h1) (vNat_eq h2) hb hu
    · exact e
  unfold kintOp at e
  cases op <;> first | exact e | skip
  · refine two e fun a b e => ?_
    obtain ⟨h1, e⟩ := ci_eq e
    cases e
    refine ⟨_, rfl, ?_, rfl⟩
    have hb : a + b < kLim k := by simpa using h1
    show (if k ≠ k then stuck _ else Op.intArith .add k (Int.ofNat a) (Int.ofNat b)) = _
    rw [if_neg (by simp)]
    show pure (Value.int k (k.wrap (Int.ofNat (a + b)))) = _
    rw [wrap_lim hb]
    rfl
  · refine two e fun a b e => ?_
    obtain ⟨h1, e⟩ := ci_eq e
    obtain ⟨h2, e⟩ := ci_eq e
    cases e
    refine ⟨_, rfl, ?_, rfl⟩
    have hba : b ≤ a := Nat.le_of_ble_eq_true h1
    have ha : a < kLim k := by simpa using h2
    show (if k ≠ k then stuck _ else Op.intArith .sub k (Int.ofNat a) (Int.ofNat b)) = _
    rw [if_neg (by simp)]
    show pure (Value.int k (k.wrap (Int.ofNat a - Int.ofNat b))) = _
    rw [show Int.ofNat a - Int.ofNat b = Int.ofNat (a - b) from by show (a : Int) - (b : Int) = ((a - b : Nat) : Int); omega, wrap_lim (by omega)]
    rfl
  · refine two e fun a b e => ?_
    obtain ⟨h1, e⟩ := ci_eq e
    cases e
    refine ⟨_, rfl, ?_, rfl⟩
    have hb : a * b < kLim k := by simpa using h1
    show (if k ≠ k then stuck _ else Op.intArith .mul k (Int.ofNat a) (Int.ofNat b)) = _
    rw [if_neg (by simp)]
    show pure (Value.int k (k.wrap (Int.ofNat (a * b)))) = _
    rw [wrap_lim hb]
    rfl
  · refine two e fun a b e => ?_
    cases e
    refine ⟨_, rfl, ?_, rfl⟩
    rw [binOp_eql]
    congr 2
    by_cases hab : a = b
    · subst hab; simp
    · rw [beq_false hab]; simp; omega
  · refine two e fun a b e => ?_
    cases e
    refine ⟨_, rfl, ?_, rfl⟩
    rw [binOp_neq]
    congr 2
    by_cases hab : a = b
    · subst hab; simp
    · rw [beq_false hab]; simp; omega
  · refine two e fun a b e => ?_
    cases e
    refine ⟨_, rfl, ?_, rfl⟩
    rw [binOp_lss]
    congr 2
    rw [Bool.eq_iff_iff]
    simp
  · refine two e fun a b e => ?_
    cases e
    refine ⟨_, rfl, ?_, rfl⟩
    rw [binOp_leq]
    congr 2
    rw [Bool.eq_iff_iff]
    simp
  · refine two e fun a b e => ?_
    cases e
    refine ⟨_, rfl, ?_, rfl⟩
    rw [binOp_gtr]
    congr 2
    rw [Bool.eq_iff_iff]
    simp
  · refine two e fun a b e => ?_
    cases e
    refine ⟨_, rfl, ?_, rfl⟩
    rw [binOp_geq]
    congr 2
    rw [Bool.eq_iff_iff]
    simp
theorem valOf_eq {n : Next} (e : valOf (some n) = some v) : n = .value v := by
  cases n <;> first | (cases e; done) | skip
  cases e
  rfl
theorem kbinOp_ok {op : BinOp} {t ty : TypeId} {x y : Operand} (hop : o.op = .binOp op t x y ty) (e : (kbinOp P o op t x y).run ts h = some v) : aread P o (kvalF ts) h = some v := by
  unfold kbinOp at e
  split at e
  · rename_i k hk
    exact kintOp_ok hop (tyInt_eq hk) e
  · have flat : (∀ n h', aFlat P o (kvalF ts) h = some (n, h') → aop P o (kvalF ts) h = some (n, h')) → (ob (aFlat P o (kvalF ts) h) fun z => valOf (some z.1)) = some v → aread P o (kvalF ts) h = some v := fun hf e => by
      obtain ⟨⟨n, h'⟩, h1, h2⟩ := ob_eq e
      have h2 : n = .value v := valOf_eq h2
      subst h2
      exact aread_p (by rw [hop]; rfl) (by rw [hop]; rfl) (fun s d z c => by rw [hop] at c; cases c) (hf _ _ h1)
    split at e
    · rcases orElse_cases e with e | ⟨e0, e⟩
      · obtain ⟨b, h1, h2⟩ := ob_eq e
        cases h2
        refine aread_p (h' := h) (by rw [hop]; rfl) (by rw [hop]; rfl) (fun s d z c => by rw [hop] at c; cases c) ?_
        have h1 : aNilEq P t (kvalF ts x) (kvalF ts y) = some b := h1
        simp only [aop, hop, h1]
      · refine flat (fun n h' hn => ?_) e
        have h1 : aNilEq P t (kvalF ts x) (kvalF ts y) = none := by
          cases hc : aNilEq P t (kvalF ts x) (kvalF ts y) with
          | none => rfl
          | some b =>
            have hc : aNilEq P t ((kval x).run ts) ((kval y).run ts) = some b := hc
            rw [hc] at e0
            cases e0
        simp only [aop, hop, h1]
        exact hn
    · rcases orElse_cases e with e | ⟨e0, e⟩
      · obtain ⟨b, h1, h2⟩ := ob_eq e
        cases h2
        refine aread_p (h' := h) (by rw [hop]; rfl) (by rw [hop]; rfl) (fun s d z c => by rw [hop] at c; cases c) ?_
        have h1 : aNilEq P t (kvalF ts x) (kvalF ts y) = some b := h1
        simp only [aop, hop, h1]
      · refine flat (fun n h' hn => ?_) e
        have h1 : aNilEq P t (kvalF ts x) (kvalF ts y) = none := by
          cases hc : aNilEq P t (kvalF ts x) (kvalF ts y) with
          | none => rfl
          | some b =>
            have hc : aNilEq P t ((kval x).run ts) ((kval y).run ts) = some b := hc
            rw [hc] at e0
            cases e0
        simp only [aop, hop, h1]
        exact hn
    · rename_i n1 n2
      refine flat (fun n h' hn => ?_) e
      simp only [aop, hop]
      split
      · rename_i e1 e2
        exact absurd rfl n1
      · rename_i e1 e2
        exact absurd rfl n2
      · exact hn
theorem rrun_bound {n m : Nat} (hn : n ≤ m) (c : BoundsCode) : rrun P (Instr.sliceBound (.int .i64 (.ofNat n)) m c) h = some n := by
  simp only [Instr.sliceBound, asIntOf, rrun_bind, rrun_pure, Option.bind_some]
  rw [if_pos ⟨Int.natCast_nonneg n, by show (n : Int) ≤ (m : Int); omega⟩]
  rfl
theorem kslice_ok {t : TypeId} {x : Operand} {lo hi : Option Operand} (hop : o.op = .slice t x lo hi none) (e : (kslice P o t x lo hi).run ts h = some v) : aread P o (kvalF ts) h = some v := by
  unfold kslice at e
  split at e
  · rename_i el hu
    have hu := kund_eq hu
    split at e
    · rename_i i hi'
      have hi' := (kinfo_eq hi').1
      obtain ⟨s, h1, e⟩ := ob_eq e
      obtain ⟨hh, h2, e⟩ := ob_eq e
      obtain ⟨ll, h3, e⟩ := ob_eq e
      obtain ⟨h4, e⟩ := ci_eq e
      obtain ⟨h5, e⟩ := ci_eq e
      cases e
      have hx : kvalF ts x = .slice s.a s.l s.c := vSl_eq h1
      have h4 := Nat.le_of_ble_eq_true h4
      have h5 := Nat.le_of_ble_eq_true h5
      refine aread_r (by rw [hop]; rfl) ?_
      simp only [execOp, hop]
      refine rrun_v ?_
      simp only [Instr.sliceAt, rrun_bind, rrun_underlying hu, Option.bind_some, Instr.slice, hx]
      have hb : rrun P (Instr.sliceBounds true s.l s.c (lo.map (kvalF ts)) (hi.map (kvalF ts)) (none.map (kvalF ts))) h = some (ll, hh, s.c) := by
        cases hi with
        | none =>
          have h2 : some s.l = some hh := h2
          cases h2
          cases lo with
          | none =>
            have h3 : some 0 = some ll := h3
            cases h3
            rfl
          | some y =>
            have h3 : kvalF ts y = .int .i64 (.ofNat ll) := vNat_eq h3
            simp only [Instr.sliceBounds, Option.map_some, Option.map_none, rrun_bind, rrun_pure, Option.bind_some, h3, rrun_bound h5]
        | some z =>
          have h2 : kvalF ts z = .int .i64 (.ofNat hh) := vNat_eq h2
          cases lo with
          | none =>
            have h3 : some 0 = some ll := h3
            cases h3
            simp only [Instr.sliceBounds, Option.map_some, Option.map_none, rrun_bind, rrun_pure, Option.bind_some, h2, rrun_bound h4]
          | some y =>
            have h3 : kvalF ts y = .int .i64 (.ofNat ll) := vNat_eq h3
            simp only [Instr.sliceBounds, Option.map_some, Option.map_none, rrun_bind, rrun_pure, Option.bind_some, h3, h2, rrun_bound h4, rrun_bound h5]
      simp only [rrun_bind, hb, Option.bind_some, rrun_sizeOf hi', rrun_pure]
      congr 2
      cases hc : Nat.beq s.c ll with
      | true => rw [if_pos (Nat.eq_of_beq_eq_true hc)]; rfl
      | false =>
        have : s.c ≠ ll := fun c => by rw [c, beq_true] at hc; cases hc
        rw [if_neg this]
        cases s.a <;> rfl
    · cases e
  · exact e
theorem klen_ok {c : Call} (hop : o.op = .call c) (hc : c.callee = .builtin .len) (e : (klen P o c).run ts h = some v) : aread P o (kvalF ts) h = some v := by
  unfold klen at e
  split at e
  · rename_i x xs t tys ha ht
    have hx : (c.args.map (kvalF ts))[0]? = some (kvalF ts x) := by
      rw [← Array.getElem?_toList, Array.toList_map, ha]
      rfl
    have htt : c.argTypes[0]? = some t := by
      rw [← Array.getElem?_toList, ht]
      rfl
    have main : rrun P (Builtin.len_ c.argTypes o.type (c.args.map (kvalF ts))) h = some v → aread P o (kvalF ts) h = some v := fun hr => by
      refine aread_r (by rw [hop]; simp only [readKind, hc]) ?_
      simp only [execOp, hop]
      have : (resolve (kvalF ts) c o.type >>= fun d => invoke d.target d.args) = (Builtin.len_ c.argTypes o.type (c.args.map (kvalF ts)) >>= fun x => pure (Next.value x)) := by
        simp only [resolve, hc]
        rfl
      rw [this]
      exact rrun_v hr
    split at e
    · rename_i el hu
      have hu := kund_eq hu
      obtain ⟨s, h1, e⟩ := ob_eq e
      cases e
      have hx2 : kvalF ts x = .slice s.a s.l s.c := vSl_eq h1
      refine main ?_
      rw [hx2] at hx
      simp only [Builtin.len_, hx, htt, rrun_bind, rrun_underlying hu, Option.bind_some]
      rfl
    · rename_i hu
      have hu := kund_eq hu
      obtain ⟨s, h1, e⟩ := ob_eq e
      cases e
      have hx2 : kvalF ts x = .string s := vStr_eq h1
      refine main ?_
      rw [hx2] at hx
      simp only [Builtin.len_, hx, htt, rrun_bind, rrun_underlying hu, Option.bind_some]
      rfl
    · exact e
  · exact e
end
end Go.Ab
/- The quick executor: all reading operations; new blocks. -/
namespace Go.Ab
set_option linter.unusedSimpArgs false
set_option linter.unusedVariables false
theorem fold_put (off : Nat) : ∀ (x l : List Value) (k : Nat), (x.zipIdx k).foldl (fun (cs : Array Value) (c : Value × Nat) => cs.setIfInBounds (off + c.2) c.1) ⟨l⟩ = ⟨putL l (off + k) x⟩
  | [], l, k => rfl
  | v :: x, l, k => by
    simp only [List.zipIdx_cons, List.foldl_cons, putL]
    rw [show (Array.mk l).setIfInBounds (off + k) v = ⟨l.set (off + k) v⟩ from by apply Array.toList_inj.1; simp, fold_put off x _ (k + 1)]
    rfl
section
variable {P : Program} {h : AH} {o : Oper} {ts : TT} {v : Value}
theorem prun_max {k : IntKind} {a b : Nat} (at_ : Array TypeId) (ty : TypeId) {az : Array Value} (e : az.toList = [.int k (.ofNat a), .int k (.ofNat b)]) : prun P (Builtin.max_ at_ ty az) = some (.int k (.ofNat (ci (Nat.blt a b) b a))) := by
  unfold Builtin.max_
  rw [e]
  show prun P (Builtin.max2 _ _ >>= fun v => pure v) = _
  rw [prun_bind]
  show some (Value.int k (if Int.ofNat b > Int.ofNat a then Int.ofNat b else Int.ofNat a)) = _
  congr 2
  cases hc : Nat.blt a b with
  | true =>
    have : a < b := by simpa using hc
    rw [if_pos (by show (a : Int) < (b : Int); omega)]
    rfl
  | false =>
    have : ¬ a < b := fun c => by
      have : Nat.blt a b = true := by rw [Nat.blt_eq]; exact c
      rw [this] at hc
      cases hc
    rw [if_neg (by show ¬ (a : Int) < (b : Int); omega)]
    rfl
theorem kmax_ok {c : Call} (hop : o.op = .call c) (hc : c.callee = .builtin .max) (e : (kmax P o c).run ts h = some v) : aread P o (kvalF ts) h = some v := by
  unfold kmax at e
  split at e
  · rename_i x y t tys ha ht
    split at e
    · rename_i k hk
      rcases ob_orElse e with ⟨a, h1, e⟩ | e
      · obtain ⟨b, h2, e⟩ := ob_eq e
        cases e
        have hx : kvalF ts x = .int k (.ofNat a) := vNat_eq h1
        have hy : kvalF ts y = .int k (.ofNat b) := vNat_eq h2
        refine aread_p (h' := h) (by rw [hop]; simp only [readKind, hc]) (by rw [hop]; simp only [plainKind, hc]) (fun s d z c => by rw [hop] at c; cases c) ?_
        have : aop P o (kvalF ts) h = aFlat P o (kvalF ts) h := by simp only [aop, hop, aCall, hc]
        rw [this]
        refine aFlat_of (fun z hz => ?_) ?_ rfl
        · rw [hop] at hz
          have hz : z ∈ c.args.toList := by
            simp only [Op.operands, Call.operands, hc] at hz
            simpa using hz
          rw [ha] at hz
          rcases List.mem_cons.1 hz with rfl | hz
          · rw [hx]; rfl
          · rcases List.mem_cons.1 hz with rfl | hz
            · rw [hy]; rfl
            · cases hz
        · simp only [execOp, hop]
          have : (resolve (kvalF ts) c o.type >>= fun d => invoke d.target d.args) = (Builtin.max_ c.argTypes o.type (c.args.map (kvalF ts)) >>= fun x => pure (Next.value x)) := by
            simp only [resolve, hc]
            rfl
          rw [this]
          refine prun_v (prun_max _ _ ?_)
          rw [Array.toList_map, ha]
          simp only [List.map_cons, List.map_nil, hx, hy]
      · exact e
    · exact e
  · exact e
theorem kconvert_ok {src dst : TypeId} {x : Operand} (hop : o.op = .convert src dst x) (e : (kconvert P o src dst x).run ts h = some v) : aread P o (kvalF ts) h = some v := by
  unfold kconvert at e
  split at e
  · rename_i k l hk hl
    have hk := tyInt_eq hk
    have hl := tyInt_eq hl
    rcases ob_orElse e with ⟨n, h1, e⟩ | e
    · obtain ⟨h2, e⟩ := ci_eq e
      cases e
      have hn : n < kLim l := by simpa using h2
      have hx : kvalF ts x = .int k (.ofNat n) := vNat_eq h1
      have ha : aop P o (kvalF ts) h = some (.value (.int l (.ofNat n)), h) := by
        have h3 : aConvert P src dst (kvalF ts x) h = none := by
          unfold aConvert
          rw [hk, hl]
        have h4 : aToU P src dst (kvalF ts x) h = none := by
          unfold aToU
          rw [hk, hl]
        simp only [aop, hop, h3, h4]
        refine aFlat_of (fun z hz => ?_) ?_ rfl
        · rw [hop] at hz
          have hz : z ∈ [x] := hz
          rcases List.mem_cons.1 hz with rfl | hz
          · rw [hx]; rfl
          · cases hz
        · simp only [execOp, hop]
          refine prun_v ?_
          show prun P (underlying src >>= fun a => underlying dst >>= fun b => _) = _
          rw [prun_bind, prun_underlying hk, Option.bind_some, prun_bind, prun_underlying hl, Option.bind_some, hx]
          show some (Value.int l (l.wrap (Int.ofNat n))) = _
          rw [wrap_lim hn]
      unfold aread
      rw [if_neg (by rw [hop]; exact Bool.false_ne_true), if_pos (by rw [hop]; rfl)]
      simp only [hop, hk, hl, ha]
    · exact e
  · exact e
theorem kvals_eq : ∀ (l : List Operand), (kvals l).run ts = l.map (kvalF ts)
  | [] => rfl
  | x :: l => by
    show (kval x).run ts :: (kvals l).run ts = _
    rw [kvals_eq l]
    rfl
theorem kpl_eq : ∀ (l : List Field) (ps : List (Nat × Nat)), kpl P l = some ps → l.mapM (fun f => (P.info? f.type).map fun i => (f.offset, i.size)) = some ps
  | [], ps, e => by cases e; rfl
  | f :: l, ps, e => by
    replace e : (ob (kinfo P f.type) fun j => ob (kpl P l) fun l => some ((f.offset, j.size) :: l)) = some ps := e
    obtain ⟨j, h1, e⟩ := ob_eq e
    obtain ⟨qs, h2, e⟩ := ob_eq e
    cases e
    simp only [List.mapM_cons, (kinfo_eq h1).1, Option.map_some, kpl_eq l qs h2]
    rfl
theorem kparts_eq {pl pl' : Nat → Option (Nat × Nat)} (hpl : ∀ i q, pl i = some q → pl' i = some q) : ∀ (parts : List (Nat × Operand)) (l r : List Value), (kparts pl parts).run ts l = some r → Instr.fill pl' ⟨l⟩ (parts.map fun x => (x.1, kvalF ts x.2)) = some ⟨r⟩
  | [], l, r, e => by cases e; rfl
  | p :: parts, l, r, e => by
    replace e : (match pl p.1 with
      | some (off, size) => (⟨fun ts l => ci (Nat.beq (llen (vcells ((kval p.2).run ts))) size) (ob ((lputs off).run l (vcells ((kval p.2).run ts))) fun l => (kparts pl parts).run ts l) none⟩ : Clo (TT → List Value → Option (List Value)))
      | none => ⟨fun _ _ => none⟩).run ts l = some r := e
    split at e
    · rename_i off size hp
      obtain ⟨h1, e⟩ := ci_eq e
      obtain ⟨l1, h2, e⟩ := ob_eq e
      have h1 := Nat.eq_of_beq_eq_true h1
      rw [llen_eq, vcells_eq] at h1
      rw [vcells_eq] at h2
      obtain ⟨h3, h4, _⟩ := lputs_eq _ _ _ _ h2
      simp only [List.map_cons, Instr.fill, hpl _ _ hp]
      have hs : (kvalF ts p.2).cells.size = size := by rw [← h1]; rfl
      have hle : ¬ (off + (kvalF ts p.2).cells.size > (Array.mk l).size) := by
        have : off + (kvalF ts p.2).cells.toList.length ≤ l.length := h3
        simp only [Array.length_toList] at this
        show ¬ _ > l.length
        omega
      rw [if_neg (by simp only [hs, ne_eq, not_true_eq_false, decide_false, Bool.false_or, decide_eq_true_eq]; rw [hs] at hle; exact hle)]
      rw [← Array.foldl_toList, Array.toList_zipIdx, fold_put]
      have h4 : putL l off (kvalF ts p.2).cells.toList = l1 := h4.symm
      rw [Nat.add_zero, h4]
      exact kparts_eq hpl parts l1 r e
    · cases e
theorem kbuild_ok {t : TypeId} {parts : Array (Nat × Operand)} (hop : o.op = .build t parts) (e : (kbuild P t parts.toList).run ts h = some v) : aread P o (kvalF ts) h = some v := by
  unfold kbuild at e
  split at e
  · rename_i i hi
    obtain ⟨hi, ht⟩ := kinfo_eq hi
    have hm : (parts.map fun (i, x) => (i, kvalF ts x)).toList = parts.toList.map fun x => (x.1, kvalF ts x.2) := by simp
    have main : ∀ l, P.built t (parts.toList.map fun x => (x.1, kvalF ts x.2)) = some ⟨l⟩ → aread P o (kvalF ts) h = some (.agg ⟨l⟩) := fun l hb => by
      refine aread_p (h' := h) (by rw [hop]; rfl) (by rw [hop]; rfl) (fun s d z c => by rw [hop] at c; cases c) ?_
      rw [← hm] at hb
      simp only [aop, hop, hb]
      rw [if_pos (by simpa using ht)]
      rfl
    split at e
    · rename_i z hz
      split at e
      · rename_i fields hu
        have hu := kund_eq hu
        split at e
        · rename_i ps hp
          obtain ⟨l, h1, e⟩ := ob_eq e
          cases e
          refine main l ?_
          unfold Program.built
          simp only [hi, hu, hz, kpl_eq _ _ hp]
          refine kparts_eq (fun i q hq => ?_) _ _ _ h1
          rw [lget_eq] at hq
          simpa using hq
        · cases e
      · rename_i n el hu
        have hu := kund_eq hu
        split at e
        · rename_i j hj
          obtain ⟨l, h1, e⟩ := ob_eq e
          cases e
          refine main l ?_
          unfold Program.built
          simp only [hi, hu, hz, (kinfo_eq hj).1]
          exact kparts_eq (fun i q hq => hq) _ _ _ h1
        · cases e
      · cases e
    · cases e
  · cases e
theorem kread_ok (e : (kread P o).run ts h = some v) : aread P o (kvalF ts) h = some v := by
  unfold kread at e
  split at e
  · rename_i x hop
    cases e
    exact aread_p (h' := h) (by rw [hop]; rfl) (by rw [hop]; rfl) (fun s d z c => by rw [hop] at c; cases c) (by simp only [aop, hop]; rfl)
  · rename_i x hop
    cases e
    exact aread_p (h' := h) (by rw [hop]; rfl) (by rw [hop]; rfl) (fun s d z c => by rw [hop] at c; cases c) (by simp only [aop, hop]; rfl)
  · rename_i c a b hop
    obtain ⟨t, h1, e⟩ := ob_eq e
    cases e
    have h1 : kvalF ts c = .bool t := vBool_eq h1
    exact aread_p (h' := h) (by rw [hop]; rfl) (by rw [hop]; rfl) (fun s d z c => by rw [hop] at c; cases c) (by simp only [aop, hop, h1]; cases t <;> rfl)
  · rename_i t parts hop
    exact kbuild_ok hop e
  · rename_i src dst x hop
    exact kconvert_ok hop e
  · rename_i fn first captured hop
    cases hf : fnOk fn with
    | true =>
      rw [hf, ci_true] at e
      cases e
      refine aread_p (h' := h) (by rw [hop]; rfl) (by rw [hop]; rfl) (fun s d z c => by rw [hop] at c; cases c) ?_
      simp only [aop, hop, hf, if_true]
      have e1 : ∀ a : Array Operand, (⟨(kvals a.toList).run ts⟩ : Array Value) = a.map (kvalF ts) := fun a => by
        apply Array.toList_inj.1
        rw [Array.toList_map]
        exact kvals_eq _
      rw [e1, e1]
    | false => rw [hf, ci_false] at e; cases e
  · rename_i t x hop
    obtain ⟨b, h1, e⟩ := ob_eq e
    cases e
    have h1 : kvalF ts x = .bool b := vBool_eq h1
    refine aread_p (h' := h) (by rw [hop]; rfl) (by rw [hop]; rfl) (fun s d z c => by rw [hop] at c; cases c) ?_
    simp only [aop, hop]
    refine aFlat_of (fun z hz => ?_) ?_ rfl
    · rw [hop] at hz
      have hz : z ∈ [x] := hz
      rcases List.mem_cons.1 hz with rfl | hz
      · rw [h1]; rfl
      · cases hz
    · simp only [execOp, hop]
      refine prun_v ?_
      rw [h1]
      rfl
  · rename_i t x hop
    exact kload_ok hop e
  · rename_i s x f hop
    exact kfieldAddr_ok hop e
  · rename_i t x ix hop
    exact kindexAddr_ok hop e
  · rename_i s x f hop
    exact kfield_ok hop e
  · rename_i t x ix hop
    exact kindex_ok hop e
  · rename_i x i hop
    obtain ⟨c, h1, e⟩ := ob_eq e
    have h1 : kvalF ts x = .tuple c := vTup_eq h1
    rw [lget_eq, Array.getElem?_toList] at e
    refine aread_r (by rw [hop]; rfl) ?_
    simp only [execOp, hop]
    refine rrun_v ?_
    simp only [h1, Instr.extract, e]
    rfl
  · rename_i t x hop
    split at e
    · cases e
    · rename_i d hn hd
      cases e
      refine aread_r (by rw [hop]; rfl) ?_
      simp only [execOp, hop]
      refine rrun_v ?_
      simp only [Instr.makeInterface, rrun_bind, rrun_underlying (kund_eq hd), Option.bind_some]
      rfl
    · cases e
  · rename_i x hop
    obtain ⟨h1, e⟩ := ci_eq e
    cases e
    refine aread_p (h' := h) (by rw [hop]; rfl) (by rw [hop]; rfl) (fun s d z c => by rw [hop] at c; cases c) ?_
    simp only [aop, hop]
    show (match kvalF ts x with
      | .pointer (some a) => some (Next.value (.pointer (some a)), h)
      | .func (.func f) a b => some (.value (.func (.func f) a b), h)
      | .iface t v => some (.value (.iface t v), h)
      | _ => none) = some (Next.value (kvalF ts x), h)
    have h1 : vLive (kvalF ts x) = true := h1
    cases hv : kvalF ts x with
    | pointer a =>
      rw [hv] at h1
      cases a with
      | none => cases h1
      | some a => rfl
    | func f p q =>
      rw [hv] at h1
      cases f <;> first | rfl | cases h1
    | iface t u => rfl
    | _ => rw [hv] at h1; cases h1
  · rename_i t x lo hi hop
    exact kslice_ok hop e
  · rename_i op t x y ty hop
    exact kbinOp_ok hop e
  · rename_i c hop
    split at e
    · rename_i hc
      exact klen_ok hop hc e
    · rename_i hc
      exact kmax_ok hop hc e
    · exact e
  · exact e
end
end Go.Ab
/- The quick executor: temporaries, entering, writing. -/
namespace Go.Ab
set_option linter.unusedSimpArgs false
set_option linter.unusedVariables false
theorem tget_leaf : ∀ (f k : Nat), (tget f k).run .leaf = undef
  | 0, k => rfl
  | f + 1, k => by
    show (ci (Nat.beq k 0) _ (ci (Nat.beq (Nat.mod k 2) 1) _ _) : Clo (TT → Value)).run .leaf = undef
    cases Nat.beq k 0 <;> cases Nat.beq (Nat.mod k 2) 1 <;> rfl
structure TR (sz : Nat) (ts : TT) (a : Array Value) : Prop where
  size : a.size = sz
  lim : sz < 4000
  get : ∀ i, (tget 12 i).run ts = a.getD i undef
theorem TR.eval {sz : Nat} {ts : TT} {a : Array Value} (r : TR sz ts a) : kvalF ts = evalT a := by
  funext x
  cases x with
  | tmp t => exact r.get t
  | const v => rfl
  | global g => rfl
  | func f => rfl
theorem TR.put {sz : Nat} {ts : TT} {a : Array Value} (r : TR sz ts a) {o : Oper} (hd : ∀ d, o.dst = some d → d < sz) (v : Value) : TR sz ((kput o).run ts v) (putT a o.dst v) := by
  unfold kput
  cases hc : o.dst with
  | none => exact r
  | some d =>
    have hd : @LT.lt Nat _ d sz := hd d hc
    refine ⟨by simp only [putT, Array.size_setIfInBounds]; exact r.size, r.lim, fun i => ?_⟩
    have hl := r.lim
    show (tget 12 i).run ((tset 12 d).run ts v) = _
    rw [tget_tset 12 ts d v i (by have : (2:Nat) ^ 12 = 4096 := rfl; omega), r.get]
    simp only [putT, Array.getD_eq_getD_getElem?, Array.getElem?_setIfInBounds]
    by_cases hi : i = d
    · subst hi
      rw [if_pos rfl, if_pos rfl, if_pos (by rw [r.size]; exact hd)]
      rfl
    · rw [if_neg hi, if_neg (Ne.symm hi)]
theorem tfill_get : ∀ (l : List Value) (i : Nat) (t : TT) (j : Nat), i + l.length < 4095 → (tget 12 j).run (tfill l i t) = if i ≤ j ∧ j < i + l.length then l.getD (j - i) undef else (tget 12 j).run t
  | [], i, t, j, h => by
    rw [if_neg (by simp <;> omega)]
    rfl
  | v :: l, i, t, j, h => by
    simp only [List.length_cons] at h
    show (tget 12 j).run (tfill l (Nat.succ i) ((tset 12 i).run t v)) = _
    rw [tfill_get l (i + 1) _ j (by omega), tget_tset 12 t i v j (by have : (2:Nat) ^ 12 = 4096 := rfl; omega)]
    simp only [List.length_cons]
    by_cases h1 : j = i
    · subst h1
      rw [if_neg (by omega), if_pos rfl, if_pos (by omega)]
      simp
    · rw [if_neg h1]
      by_cases h2 : i + 1 ≤ j ∧ j < i + 1 + l.length
      · rw [if_pos h2, if_pos (by omega)]
        obtain ⟨k, hk⟩ : ∃ k, j - i = k + 1 := ⟨j - i - 1, by omega⟩
        rw [hk, show j - (i + 1) = k by omega]
        simp
      · rw [if_neg h2, if_neg (by omega)]
theorem TR.fill (az : List Value) (n : Nat) (h : az.length ≤ n) (hn : n < 4000) : TR n (tfill az 0 .leaf) (⟨az⟩ ++ Array.replicate (n - az.length) undef) := by
  refine ⟨by simp; omega, hn, fun i => ?_⟩
  rw [tfill_get az 0 .leaf i (by omega), tget_leaf]
  simp only [Array.getD_eq_getD_getElem?, Array.getElem?_append]
  by_cases hi : i < az.length
  · rw [if_pos ⟨Nat.zero_le _, by omega⟩, if_pos (by simpa using hi)]
    simp [List.getD_eq_getElem?_getD]
  · rw [if_neg (by omega), if_neg (by simpa using hi)]
    simp only [Array.getElem?_replicate]
    split <;> rfl
theorem TR.full (a : Array Value) (hn : a.size < 4000) : TR a.size (tfill a.toList 0 .leaf) a := by
  have := TR.fill a.toList a.size (by simp) hn
  simpa using this
theorem TR.arr {sz : Nat} {ts : TT} {a : Array Value} (r : TR sz ts a) : tarr sz ts = a := by
  apply Array.ext
  · simp [tarr, r.size]
  · intro i h1 h2
    simp only [tarr, List.getElem_toArray, List.getElem_map, List.getElem_range, r.get]
    simp [Array.getD_eq_getD_getElem?, h2]
structure KOk (P : Program) (rec : K2) (run : Run) : Prop where
  k : ∀ {C : FC} {ds : List Deferred} {todo : List Item} {ts : TT} {h : AH} {x : Value × AH}, rec.k C ds todo ts h = some x → ∀ a, TR C.sz ts a → run ⟨C.f, a, todo, ds, .run, C.kind, C.ro⟩ h = some x
  b : ∀ {C : FC} {ds : List Deferred} {ts : TT} {h : AH} {x : Value × AH}, rec.b C ds ts h = some x → C.ro = none → ∀ a todo, TR C.sz ts a → run ⟨C.f, a, todo, ds, .returning, C.kind, C.ro⟩ h = some x
section
variable {P : Program} {G : Nat} {rec : K2} {run : Run}
theorem kenter_ok (hr : KOk P rec run) {f : FuncId} {n : Nat} {kind : CallKind} {az : List Value} {h : AH} {x : Value × AH} (hn : az.length = n) (e : (kenter P f n kind).run rec az h = some x) : run (Frame.enter P f ⟨az⟩ kind) h = some x := by
  unfold kenter at e
  rw [lget_eq, Array.getElem?_toList] at e
  split at e
  · rename_i fn hf
    split at e
    · rename_i c hb
      cases hc : (Nat.blt fn.ntmps 4000 && Nat.ble n fn.ntmps) with
      | false => rw [hc] at e; cases e
      | true =>
        rw [hc, ci_true] at e
        simp only [Bool.and_eq_true, Nat.blt_eq, Nat.ble_eq] at hc
        have := hr.k e _ (TR.fill az fn.ntmps (by omega) hc.1)
        have e2 : Frame.enter P f ⟨az⟩ kind = ⟨f, ⟨az⟩ ++ Array.replicate (fn.ntmps - az.length) undef, [.code c], [], .run, kind, none⟩ := by
          simp [Frame.enter, hf, hb]
        rw [e2]
        exact this
    · cases e
  · cases e
theorem opD_of (hr : KOk P rec run) {o : Oper} {ρ : Operand → Value} {h : AH} {x : Next × AH} {y : Value × AH} (hok : okOper G o = true) (ha : aop P o ρ h = some x) (e : kNext P rec x = some y) : opD P G noOrc run o ρ h = some y := by
  unfold opD
  rw [if_pos hok, ha]
  obtain ⟨n, h'⟩ := x
  cases n with
  | value v => exact e
  | skip => exact e
  | enter f az => exact kenter_ok hr rfl e
  | round l f ts a b =>
    replace e : ci (Nat.blt ts.toList.length 4000) (rec.k ⟨f, ts.toList.length, .normal, some l⟩ [] [.code a, .beginRound, .code b] (tfill ts.toList 0 .leaf) h') none = some y := e
    obtain ⟨h1, e⟩ := ci_eq e
    have h1 : ts.size < 4000 := by simpa using h1
    exact hr.k e ts (TR.full ts h1)
  | _ => cases e
theorem kslowC_ok (hr : KOk P rec run) {o : Oper} {ts : TT} {h : AH} {y : Value × AH} (hok : okOper G o = true) (e : (kslowC P o).run rec ts h = some y) : opD P G noOrc run o (kvalF ts) h = some y := by
  obtain ⟨x, h1, h2⟩ := ob_eq e
  exact opD_of hr hok h1 h2
theorem mget_set : ∀ (f n : Nat) (t : Tr) (x : Obj × Bool) (y : Option (Obj × Bool)), (mget f n).run t = some x → (mget f n).run (Tr.set f t n y) = y := by
  intro f
  induction f with
  | zero => intro n t x y h; cases h
  | succ f ih =>
    intro n t x y h
    replace h : (ci (Nat.beq n 0) _ (ci (Nat.beq (Nat.mod n 2) 1) _ _) : Clo (Tr → Option (Obj × Bool))).run t = some x := h
    show (ci (Nat.beq n 0) _ (ci (Nat.beq (Nat.mod n 2) 1) _ _) : Clo (Tr → Option (Obj × Bool))).run (Tr.set (f + 1) t n y) = y
    have h1' : Nat.beq (Nat.mod n 2) 1 = Nat.beq (n % 2) 1 := rfl
    cases t with
    | leaf => cases h0 : Nat.beq n 0 <;> rw [h0] at h <;> cases h1 : Nat.beq (Nat.mod n 2) 1 <;> rw [h1] at h <;> cases h
    | node l o r =>
      simp only [Tr.set]
      cases h0 : Nat.beq n 0 with
      | true => rfl
      | false =>
        rw [h0, ci_false, h1'] at h
        rw [ci_false, h1']
        cases h1 : Nat.beq (n % 2) 1 with
        | true => rw [h1] at h; exact ih _ _ _ _ h
        | false => rw [h1] at h; exact ih _ _ _ _ h
theorem set_set : ∀ (f n : Nat) (t : Tr) (x y : Option (Obj × Bool)), Tr.set f (Tr.set f t n x) n y = Tr.set f t n y := by
  intro f
  induction f with
  | zero => intro n t x y; rfl
  | succ f ih =>
    intro n t x y
    cases t <;>
      (simp only [Tr.set]
       cases h0 : Nat.beq n 0 with
       | true => simp only [cond_true, Tr.set, h0]
       | false =>
         cases h1 : Nat.beq (n % 2) 1 with
         | true => simp only [cond_true, cond_false, Tr.set, h0, h1, ih]
         | false => simp only [cond_true, cond_false, Tr.set, h0, h1, ih])
theorem arun_cells {a : Addr} (hs : a.spot = none) {t : TypeId} {lo hi : Nat} {op : Bool} (hhi : hi ≤ a.off) : ∀ (x : List Value) (l : List Value) (h : AH) (i : Nat), (mget depth a.block).run h.t = some (.cells ⟨l⟩ t (lo, hi), op) → a.off + i + x.length ≤ l.length → (∀ v ∈ x, vOne v = true) →
    Nat.ble h.base a.block = true → x ≠ [] → arun P (storeCells a x i) h = some ((), h.set a.block (some (.cells ⟨putL l (a.off + i) x⟩ t (lo, hi), op)))
  | [], l, h, i, _, _, _, _, hn => absurd rfl hn
  | v :: x, l, h, i, hm, hl, ho, hb, _ => by
    simp only [List.length_cons] at hl
    have hv := vOne_eq (ho v (List.mem_cons_self ..))
    have hg : h.get a.block = some (.cells ⟨l⟩ t (lo, hi), op) := mget_eq _ _ _ _ hm
    have one : arun P (store (a.add i) v) h = some ((), h.set a.block (some (.cells ⟨l.set (a.off + i) v⟩ t (lo, hi), op))) := by
      rw [add_none hs]
      simp only [store, arun, hg]
      rw [if_pos (by
        simp only [Option.isNone_none, hv, hb, Bool.and_true, Bool.true_and, Bool.and_eq_true, Nat.blt_eq, Bool.not_eq_true']
        refine ⟨by show a.off + i < l.length; omega, ?_⟩
        rw [Bool.and_eq_false_iff]
        exact .inr (by cases hc : Nat.blt (a.off + i) hi with
          | false => rfl
          | true => rw [Nat.blt_eq] at hc; omega))]
      congr 5
      apply congrArg (fun z => Obj.cells z t (lo, hi))
      apply Array.toList_inj.1
      simp
    show arun P (store (a.add i) v >>= fun _ => storeCells a x (i + 1)) h = _
    rw [arun_bind, one]
    simp only [Option.bind_some]
    cases x with
    | nil => rfl
    | cons u x =>
      have hm2 : (mget depth a.block).run (h.set a.block (some (.cells ⟨l.set (a.off + i) v⟩ t (lo, hi), op))).t = some (.cells ⟨l.set (a.off + i) v⟩ t (lo, hi), op) := mget_set _ _ _ _ _ hm
      rw [arun_cells hs hhi (u :: x) (l.set (a.off + i) v) _ (i + 1) hm2 (by simp only [List.length_set, List.length_cons] at hl ⊢; omega) (fun w hw => ho w (List.mem_cons_of_mem _ hw)) hb (by simp)]
      simp only [AH.set, set_set]
      rfl
theorem arun_sizeOf {t : TypeId} {i : TypeInfo} (hi : P.info? t = some i) (h : AH) : arun P (sizeOf t) h = some (i.size, h) := by
  show arun P (program >>= _ >>= _) h = _
  exact rrun_arun (rrun_sizeOf hi)
theorem kstore_ok (hr : KOk P rec run) {o : Oper} {t : TypeId} {ad x : Operand} {ts : TT} {h : AH} {y : Value × AH} (hop : o.op = .store t ad x) (hok : okOper G o = true) (e : (kstore P o t ad x).run rec ts h = some y) : opD P G noOrc run o (kvalF ts) h = some y := by
  unfold kstore at e
  split at e
  · rename_i d i hd hi
    have hi := (kinfo_eq hi).1
    have main : ∀ {a : Addr} {r : Row} {c : List Value}, kvalF ts ad = .pointer (some a) → krow h a = some r → (kvalF ts x).cells.toList.length = i.size → i.size ≠ 0 → Nat.ble r.hi a.off = true → Nat.ble h.base a.block = true → a.spot = none →
        (a.off + (kvalF ts x).cells.toList.length ≤ r.c.length ∧ c = putL r.c a.off (kvalF ts x).cells.toList ∧ ∀ v ∈ (kvalF ts x).cells.toList, vOne v = true) →
        opD P G noOrc run o (kvalF ts) h = some (undef, kAH h fun t b n => ⟨(mset depth a.block).run t (some (.cells ⟨c⟩ r.t (r.lo, r.hi), r.op)), b, n⟩) := fun {a r c} ha hrow hlen hne hhi hb hs hput => by
      have hm : (mget depth a.block).run h.t = some (.cells ⟨r.c⟩ r.t (r.lo, r.hi), r.op) := by
        obtain ⟨z, h1, h2⟩ := ob_eq hrow
        rw [h1]
        have := krow_eq hrow
        rw [AH.get, mget_eq _ _ _ _ h1] at this
        exact this
      refine opD_of (x := (.skip, kAH h fun t b n => ⟨(mset depth a.block).run t (some (.cells ⟨c⟩ r.t (r.lo, r.hi), r.op)), b, n⟩)) hr hok ?_ rfl
      rw [kAH_eq, mset_eq]
      simp only [aop, hop, execOp]
      show arun P (Instr.storeAt t (kvalF ts ad) (kvalF ts x) >>= fun _ => pure Next.skip) h = _
      rw [ha]
      show arun P (storeVar t a (kvalF ts x) >>= fun _ => pure Next.skip) h = _
      have : arun P (storeVar t a (kvalF ts x)) h = some ((), h.set a.block (some (.cells ⟨c⟩ r.t (r.lo, r.hi), r.op))) := by
        show arun P (sizeOf t >>= fun n => if (kvalF ts x).cells.size ≠ n then stuck _ else storeCells a (kvalF ts x).cells.toList) h = _
        rw [arun_bind, arun_sizeOf hi]
        simp only [Option.bind_some]
        rw [if_neg (by rw [← hlen]; simp)]
        have hz : (kvalF ts x).cells.toList ≠ [] := fun c => by rw [c] at hlen; exact hne hlen.symm
        have := arun_cells (P := P) hs (Nat.le_of_ble_eq_true hhi) (kvalF ts x).cells.toList r.c h 0 hm (by rw [Nat.add_zero]; exact hput.1) hput.2.2 hb hz
        rw [Nat.add_zero, ← hput.2.1] at this
        exact this
      rw [arun_bind, this]
      rfl
    cases h0 : Nat.beq i.size 0 with
    | true => rw [h0, ci_true] at e; exact kslowC_ok hr hok e
    | false =>
      have hne : i.size ≠ 0 := fun c => by rw [c] at h0; cases h0
      rw [h0, ci_false] at e
      cases hg : isAggT d with
      | true =>
        rw [hg, ci_true] at e
        obtain ⟨a, h1, e⟩ := ob_eq e
        obtain ⟨r, h2, e⟩ := ob_eq e
        obtain ⟨c, h3, e⟩ := ob_eq e
        obtain ⟨h4, e⟩ := ci_eq e
        obtain ⟨h5, e⟩ := ci_eq e
        obtain ⟨h6, e⟩ := ci_eq e
        obtain ⟨h7, e⟩ := oN_eq e
        obtain ⟨l, h8, e⟩ := ob_eq e
        cases e
        have hx : kvalF ts x = .agg c := vAgg_eq h3
        have hc : (kvalF ts x).cells.toList = c.toList := by rw [hx]; rfl
        refine main (vAddr_eq h1) h2 ?_ hne h5 h6 h7 ?_
        · rw [hc, ← llen_eq]
          exact Nat.eq_of_beq_eq_true h4
        · rw [hc]
          exact lputs_eq _ _ _ _ h8
      | false =>
        rw [hg, ci_false] at e
        cases h1s : Nat.beq i.size 1 with
        | false => rw [h1s, ci_false] at e; cases e
        | true =>
          rw [h1s, ci_true] at e
          obtain ⟨a, h1, e⟩ := ob_eq e
          obtain ⟨r, h2, e⟩ := ob_eq e
          obtain ⟨h4, e⟩ := ci_eq e
          obtain ⟨h5, e⟩ := ci_eq e
          obtain ⟨h6, e⟩ := ci_eq e
          obtain ⟨h7, e⟩ := oN_eq e
          obtain ⟨l, h8, e⟩ := ob_eq e
          cases e
          have h4 : vOne (kvalF ts x) = true := h4
          have hc : (kvalF ts x).cells.toList = [kvalF ts x] := by rw [vOne_cells h4]
          have h8 : (lset a.off).run r.c (kvalF ts x) = some l := h8
          obtain ⟨h9, h10⟩ := lset_eq _ _ _ _ h8
          refine main (vAddr_eq h1) h2 ?_ hne h5 h6 h7 ?_
          · rw [hc, Nat.eq_of_beq_eq_true h1s]
            rfl
          · rw [hc]
            exact ⟨by simp only [List.length_cons, List.length_nil]; omega, h10, fun v hv => by
              rcases List.mem_cons.1 hv with rfl | hv
              · exact h4
              · cases hv⟩
  · cases e
end
end Go.Ab
/- The quick executor: calls, new blocks, regions of drawn order. -/
namespace Go.Ab
set_option linter.unusedSimpArgs false
set_option linter.unusedVariables false
section
variable {P : Program} {G : Nat} {rec : K2} {run : Run}
theorem kfree_ok {o : Oper} {ts : TT} {x : Obj × Shape} (e : (kfree P o).run ts = some x) : aFree P o (kvalF ts) = some x := by
  unfold kfree at e
  split at e
  · rename_i t hop
    split at e
    · rename_i y hy
      cases e
      have : aFree P o (kvalF ts) = aFree P o (fun _ => undef) := by simp only [aFree, hop]
      rw [this, hy]
    · cases e
  · rename_i t x hop
    cases e
    simp only [aFree, hop]
    rfl
  · exact e
theorem kbodied_eq {f : FuncId} (e : kbodied P f = true) : bodied P f = true := by
  unfold kbodied at e
  rw [lget_eq, Array.getElem?_toList] at e
  unfold bodied
  split
  · rename_i fn hf
    rw [hf] at e
    exact e
  · rename_i hf
    rw [hf] at e
    cases e
theorem kcall_ok (hr : KOk P rec run) {o : Oper} {c : Call} {f : Operand} {ts : TT} {h : AH} {y : Value × AH} (hop : o.op = .call c) (hc : c.callee = .value f) (hok : okOper G o = true) (e : (kcall P o f c.args.toList).run rec ts h = some y) : opD P G noOrc run o (kvalF ts) h = some y := by
  have main : ∀ {g : FuncId} {p q : Array Value}, kvalF ts f = .func (.func g) p q → bodied P g = true → run (Frame.enter P g ⟨p.toList ++ ((c.args.toList.map (kvalF ts)) ++ q.toList)⟩ .normal) h = some y → opD P G noOrc run o (kvalF ts) h = some y := fun {g p q} hf hb hrun => by
    have ha : aop P o (kvalF ts) h = some (.enter g ((p ++ c.args.map (kvalF ts)) ++ q), h) := by
      simp only [aop, hop, aCall, hc, hf, hb, if_true]
    unfold opD
    rw [if_pos hok, ha]
    have ee : (p ++ c.args.map (kvalF ts)) ++ q = ⟨p.toList ++ ((c.args.toList.map (kvalF ts)) ++ q.toList)⟩ := by
      apply Array.toList_inj.1
      simp
    rw [ee]
    exact hrun
  unfold kcall at e
  split at e
  · rename_i g
    cases hb : kbodied P g with
    | false => rw [hb, ci_false] at e; exact kslowC_ok hr hok e
    | true =>
      rw [hb, ci_true] at e
      replace e : (kenter P g c.args.toList.length .normal).run rec ((kvals c.args.toList).run ts) h = some y := e
      rw [kvals_eq] at e
      refine main (g := g) (p := #[]) (q := #[]) rfl (kbodied_eq hb) ?_
      have := kenter_ok hr (by simp) e
      simpa using this
  · rename_i f' hn
    dsimp only at e
    cases hv : vFn ((kval f).run ts) with
    | none => rw [hv] at e; exact kslowC_ok hr hok e
    | some v =>
      rw [hv] at e
      replace e : ci (kbodied P v.f) ((kenter P v.f (v.p.toList.length + c.args.toList.length + v.q.toList.length) .normal).run rec (v.p.toList ++ ((kvals c.args.toList).run ts ++ v.q.toList)) h) ((kslowC P o).run rec ts h) = some y := e
      cases hb : kbodied P v.f with
      | false => rw [hb, ci_false] at e; exact kslowC_ok hr hok e
      | true =>
        rw [hb, ci_true, kvals_eq] at e
        refine main (vFn_eq hv) (kbodied_eq hb) ?_
        exact kenter_ok hr (by simp; omega) e
theorem zero_run {t : TypeId} {i : TypeInfo} {z : Value} (hi : P.info? t = some i) (hz : i.zero = some z) (h : AH) : arun P (zeroValue t) h = some (z, h) := by
  show arun P (typeInfo t >>= _) h = _
  rw [arun_bind, rrun_arun (rrun_typeInfo hi)]
  show arun P (match i.zero with | some v => pure v | none => _) h = _
  rw [hz]
  rfl
theorem new_run (c : Array Value) (t : TypeId) (h : AH) (hr : room h = true) : arun P (newRow t c) h = some (⟨h.next, 0, none⟩, h.push (.cells c t (0, 0)) false) := by
  show arun P (newObj (.cells c t) >>= fun b => pure (⟨b, 0, none⟩ : Addr)) h = _
  rw [arun_bind]
  have : arun P (newObj (.cells c t)) h = some (h.next, h.push (.cells c t (0, 0)) false) := by
    simp only [newObj, arun]
    unfold room at hr
    rw [if_pos hr]
  rw [this]
  rfl
theorem free_aop {o : Oper} {ρ : Operand → Value} {b : Obj} {s : Shape} {h : AH} (hop : (∃ t, o.op = .alloc t) ∨ (∃ t x, o.op = .box t x) ∨ ∃ t l p, o.op = .buildSlice t l p) (e : aFree P o ρ = some (b, s)) (hr : room h = true) : aop P o ρ h = some (.value (s.val h.next), h.push b false) := by
  rcases hop with ⟨t, hop⟩ | ⟨t, x, hop⟩ | ⟨t, l, p, hop⟩
  · simp only [aFree, hop] at e
    split at e
    · rename_i i hi
      split at e
      · rename_i z hz
        split at e
        · rename_i ht
          cases e
          simp only [aop, hop, ht, if_true, execOp]
          show arun P (Instr.alloc t true (.tuple #[]) >>= fun v => pure (Next.value v)) h = _
          have : arun P (Instr.alloc t true (.tuple #[])) h = some (.pointer (some ⟨h.next, 0, none⟩), h.push (.cells z.cells t (0, 0)) false) := by
            show arun P (zeroValue t >>= fun zero => newVar t zero >>= fun a => pure (Value.pointer (some a))) h = _
            rw [arun_bind, zero_run hi hz]
            show arun P (newRow t z.cells >>= fun a => pure (Value.pointer (some a))) h = _
            rw [arun_bind, new_run _ _ _ hr]
            rfl
          rw [arun_bind, this]
          rfl
        · cases e
      · cases e
    · cases e
  · simp only [aFree, hop] at e
    cases e
    simp only [aop, hop, execOp]
    show arun P (Instr.box t (ρ x) >>= fun v => pure (Next.value v)) h = _
    have : arun P (Instr.box t (ρ x)) h = some (.pointer (some ⟨h.next, 0, none⟩), h.push (.cells (ρ x).cells t (0, 0)) false) := by
      show arun P (newRow t (ρ x).cells >>= fun a => pure (Value.pointer (some a))) h = _
      rw [arun_bind, new_run _ _ _ hr]
      rfl
    rw [arun_bind, this]
    rfl
  · simp only [aFree, hop] at e
    simp only [aop, hop]
    split at e
    · rename_i el c hb
      cases e
      first
        | rw [hb]
        | skip
      simp only [hr, if_true]
      rfl
    · cases e
theorem kchain_ok (hr : KOk P rec run) {o : Oper} {ts : TT} {h : AH} {y : Value × AH} (hok : okOper G o = true) (e : (kchain P o).run rec ts h = some y) : opD P G noOrc run o (kvalF ts) h = some y := by
  have free : ((∃ t, o.op = .alloc t) ∨ (∃ t x, o.op = .box t x) ∨ ∃ t l p, o.op = .buildSlice t l p) → (ob ((kfree P o).run ts) fun x => ci (room h) (some (x.2.val h.next, kpush h x.1 false)) none) = some y → opD P G noOrc run o (kvalF ts) h = some y := fun hop e => by
    obtain ⟨⟨b, s⟩, h1, e⟩ := ob_eq e
    obtain ⟨h2, e⟩ := ci_eq e
    cases e
    rw [kpush_eq]
    exact opD_of hr hok (free_aop hop (kfree_ok h1) h2) rfl
  unfold kchain at e
  split at e
  · rename_i t a x hop
    exact kstore_ok hr hop hok e
  · rename_i t hop
    exact free (.inl ⟨t, hop⟩) e
  · rename_i t x hop
    exact free (.inr (.inl ⟨t, x, hop⟩)) e
  · rename_i t l p hop
    exact free (.inr (.inr ⟨t, l, p, hop⟩)) e
  · cases e
  · rename_i c hop
    split at e
    · rename_i f hc
      exact kcall_ok hr hop hc hok e
    · cases e
    · exact kslowC_ok hr hok e
  · exact kslowC_ok hr hok e
theorem kyield_eq {sz : Nat} {ts : TT} {a : Array Value} (r : TR sz ts a) (ops : Array Oper) (j : Nat) : (kyield ops j).run ts = yielded ops a j := by
  unfold kyield yielded
  cases h : (ops[j]?).bind (·.dst) with
  | none => rfl
  | some d =>
    simp only [Option.bind_some]
    show vBool ((tget 12 d).run ts) = _
    rw [r.get]
    cases hd : a[d]? with
    | none => simp only [Array.getD_eq_getD_getElem?, hd]; rfl
    | some v =>
      simp only [Array.getD_eq_getD_getElem?, hd, Option.getD_some]
      cases v <;> rfl
theorem kwant_eq {sz : Nat} {ts : TT} {a : Array Value} (r : TR sz ts a) (ops : Array Oper) (o : Oper) : (kwant ops o).run ts = Region.wanted o (yielded ops a) := by
  unfold kwant Region.wanted
  cases hg : o.guard with
  | none => rfl
  | some g =>
    obtain ⟨j, b⟩ := g
    show obeq ((kyield ops j).run ts) b = (yielded ops a j == some b)
    rw [kyield_eq r]
    cases yielded ops a j with
    | none => rfl
    | some c => cases b <;> cases c <;> rfl
theorem dst_of {sz : Nat} {o : Oper} (h : dstOk sz o = true) : ∀ d, o.dst = some d → d < sz := fun d hd => by
  unfold dstOk at h
  rw [hd] at h
  simpa using h
structure RecR (sz : Nat) (r : KRec) (r' : Rec) : Prop where
  v : r.v = r'.v
  wr : r.wr = r'.wr
  new : r.new = r'.new
  ts : TR sz r.ts r'.ts
inductive RecsR (sz : Nat) : List KRec → List Rec → Prop
  | nil : RecsR sz [] []
  | cons {r r' rs rs'} : RecR sz r r' → RecsR sz rs rs' → RecsR sz (r :: rs) (r' :: rs')
theorem klex_ok (hr : KOk P rec run) (ops : Array Oper) {sz : Nat} : ∀ (l : List (Nat × Oper)) (ts : TT) (h : AH) (rs : List KRec) (hs : List AH) (te : TT) (a : Array Value), (klex P G ops l).run rec ts h = some (rs, hs, te) → (∀ x ∈ l, okOper G x.2 = true ∧ ∀ d, x.2.dst = some d → d < sz) → TR sz ts a →
    ∃ rs' ta, lexRun P ops (opD P G noOrc run) l a h = some (rs', hs, ta) ∧ TR sz te ta ∧ RecsR sz rs rs'
  | [], ts, h, rs, hs, te, a, e, _, r => by
    cases e
    exact ⟨[], a, rfl, r, .nil⟩
  | (i, o) :: l, ts, h, rs, hs, te, a, e, hl, r => by
    replace e : (klexG ops o (klexOp P G o (klex P G ops l)) (klex P G ops l)).run rec ts h = some (rs, hs, te) := e
    obtain ⟨hok, hd⟩ := hl (i, o) (List.mem_cons_self ..)
    have hl' : ∀ x ∈ l, okOper G x.2 = true ∧ ∀ d, x.2.dst = some d → d < sz := fun x hx => hl x (List.mem_cons_of_mem _ hx)
    have yes : Region.wanted o (yielded ops a) = true → (klexOp P G o (klex P G ops l)).run rec ts h = some (rs, hs, te) → ∃ rs' ta, lexRun P ops (opD P G noOrc run) ((i, o) :: l) a h = some (rs', hs, ta) ∧ TR sz te ta ∧ RecsR sz rs rs' := fun hw e => by
      unfold klexOp at e
      simp only [lexRun, hw, if_true]
      split at e
      · rename_i hc
        obtain ⟨v, h1, e⟩ := ob_eq e
        obtain ⟨⟨rs1, hs1, te1⟩, h2, e⟩ := ob_eq e
        cases e
        obtain ⟨rs', ta, h3, h4, h5⟩ := klex_ok hr ops l _ _ _ _ _ _ h2 hl' (r.put hd v)
        have h1 := kread_ok h1
        rw [r.eval] at h1
        rw [hc]
        simp only [h1, h3]
        exact ⟨_, _, rfl, h4, .cons ⟨rfl, rfl, rfl, r⟩ h5⟩
      · rename_i hc
        obtain ⟨⟨b, s⟩, h1, e⟩ := ob_eq e
        obtain ⟨hroom, e⟩ := ci_eq e
        obtain ⟨⟨rs1, hs1, te1⟩, h2, e⟩ := ob_eq e
        cases e
        rw [kpush_eq] at h2
        obtain ⟨rs', ta, h3, h4, h5⟩ := klex_ok hr ops l _ _ _ _ _ _ h2 hl' (r.put hd (s.val h.next))
        have h1 := kfree_ok h1
        rw [r.eval] at h1
        rw [hc]
        simp only [h1, hroom, h3]
        exact ⟨_, _, rfl, h4, .cons ⟨rfl, rfl, rfl, r⟩ h5⟩
      · rename_i hc
        obtain ⟨⟨v, h'⟩, h1, e⟩ := ob_eq e
        obtain ⟨⟨rs1, hs1, te1⟩, h2, e⟩ := ob_eq e
        cases e
        obtain ⟨rs', ta, h3, h4, h5⟩ := klex_ok hr ops l _ _ _ _ _ _ h2 hl' (r.put hd v)
        have h1 := kchain_ok (G := G) hr hok h1
        rw [r.eval] at h1
        rw [hc]
        simp only [h1, h3]
        exact ⟨_, _, rfl, h4, .cons ⟨rfl, rfl, rfl, r⟩ h5⟩
    unfold klexG at e
    split at e
    · rename_i hg
      exact yes (by unfold Region.wanted; rw [hg]) e
    · rename_i g hg
      replace e : ci ((kwant ops o).run ts) ((klexOp P G o (klex P G ops l)).run rec ts h) (ob ((klex P G ops l).run rec ((kput o).run ts undef) h) fun x => some (⟨undef, false, ts, none⟩ :: x.1, x.2.1, x.2.2)) = some (rs, hs, te) := e
      rw [kwant_eq r] at e
      cases hw : Region.wanted o (yielded ops a) with
      | true => rw [hw, ci_true] at e; exact yes hw e
      | false =>
        rw [hw, ci_false] at e
        obtain ⟨⟨rs1, hs1, te1⟩, h2, e⟩ := ob_eq e
        cases e
        obtain ⟨rs', ta, h3, h4, h5⟩ := klex_ok hr ops l _ _ _ _ _ _ h2 hl' (r.put hd undef)
        simp only [lexRun, hw, h3]
        exact ⟨_, _, rfl, h4, .cons ⟨rfl, rfl, rfl, r⟩ h5⟩
theorem kws_eq {sz : Nat} : ∀ (l : List (Nat × Oper)) {rs : List KRec} {rs' : List Rec}, RecsR sz rs rs' → kws l rs = wsF l rs'
  | [], _, _, _ => by simp [kws, wsF]
  | (i, o) :: l, _, _, .nil => by simp [kws, wsF]
  | (i, o) :: l, _, _, .cons r rr => by simp only [kws, wsF, r.wr, kws_eq l rr]
theorem knew_eq {sz : Nat} : ∀ {rs : List KRec} {rs' : List Rec} (n : Nat), RecsR sz rs rs' → knewOk rs n = newOk rs' n
  | _, _, n, .nil => rfl
  | _, _, n, .cons (r' := r') r rr => by
    simp only [knewOk, newOk, r.new]
    cases r'.new with
    | none => exact knew_eq _ rr
    | some x =>
      obtain ⟨m, b⟩ := x
      simp only
      rw [knew_eq _ rr]
theorem kreads_ok {sz : Nat} {ops : Array Oper} {mk ws : List Nat} {hs : List AH} : ∀ (l : List (Nat × Oper)) {rs : List KRec} {rs' : List Rec} (c : Nat), RecsR sz rs rs' → kreadsOk P ops mk ws hs l rs c = true → readsOk P ops mk ws hs l rs' c = true
  | [], _, _, c, _, e => by simp [readsOk]
  | (i, o) :: l, _, _, c, .nil, e => by simp [readsOk]
  | (i, o) :: l, _, _, c, .cons (r := r) (r' := r') rr rrs, e => by
    simp only [kreadsOk] at e
    simp only [readsOk, ← rr.wr]
    cases hw : r.wr with
    | true =>
      rw [hw, ci_true] at e
      simp only [if_true]
      exact kreads_ok l _ rrs e
    | false =>
      rw [hw, ci_false, Bool.and_eq_true] at e
      simp only [Bool.false_eq_true, if_false, Bool.and_eq_true]
      refine ⟨?_, kreads_ok l _ rrs e.2⟩
      have e := e.1
      cases hq : (noMem o.op && r.new.isNone) with
      | true =>
        simp only [Bool.and_eq_true, Option.isNone_iff_eq_none] at hq
        rw [← rr.new, hq.2]
        simp only [readOk, hq.1, Bool.true_or, Bool.or_true]
      | false =>
        rw [hq, ci_false, kwant_eq rr.ts, rr.new] at e
        cases hwant : Region.wanted o (yielded ops r'.ts) with
        | false => rfl
        | true =>
          rw [hwant] at e
          simp only [Bool.not_true, Bool.false_or] at e ⊢
          cases hnew : r'.new with
          | some x =>
            rw [hnew] at e
            exact e
          | none =>
            rw [hnew] at e
            simp only [readOk, Bool.or_eq_true] at e ⊢
            refine .inr ?_
            unfold kreadOk at e
            rw [List.all_eq_true] at e ⊢
            intro h hh
            have e := e h hh
            cases hk : (kread P o).run r.ts h with
            | none => rw [hk] at e; cases e
            | some v =>
              rw [hk] at e
              have hk := kread_ok hk
              rw [rr.ts.eval] at hk
              rw [hk, ← rr.v]
              exact e
theorem opsOk_mono {G n m : Nat} (hm : n ≤ m) : ∀ (l : List Oper) (i : Nat), opsOk G n l i = true → opsOk G m l i = true
  | [], i, e => rfl
  | o :: l, i, e => by
    simp only [opsOk, Bool.and_eq_true] at e ⊢
    refine ⟨⟨e.1.1, ?_⟩, opsOk_mono hm l _ e.2⟩
    have := e.1.2
    split at this
    · rename_i d hd
      simp only [Nat.blt_eq] at this ⊢
      exact Nat.lt_of_lt_of_le this hm
    · rfl
theorem kregion_ok (hr : KOk P rec run) {ops : Array Oper} {sz : Nat} {ts te : TT} {h h' : AH} {a : Array Value} (e : (kregion P G ops).run rec sz ts h = some (te, h')) (r : TR sz ts a) : ∃ ta, aregion P G (opD P G noOrc run) ops a h = some (ta, h') ∧ TR sz te ta := by
  unfold kregion at e
  simp only at e
  cases hst : statOk G (dmax ops) ops (masks ops.toList []) (orderOf P ops (masks ops.toList [])) (listed ops (orderOf P ops (masks ops.toList []))) with
  | false => rw [hst] at e; cases e
  | true =>
    rw [hst, ci_true] at e
    obtain ⟨hle, e⟩ := ci_eq e
    have hle := Nat.le_of_ble_eq_true hle
    obtain ⟨⟨rs, hs, te'⟩, h1, e⟩ := ob_eq e
    obtain ⟨h2, e⟩ := ci_eq e
    obtain ⟨h3, h4, e⟩ := ob_eq e
    cases e
    have hst2 : statOk G a.size ops (masks ops.toList []) (orderOf P ops (masks ops.toList [])) (listed ops (orderOf P ops (masks ops.toList []))) = true := by
      simp only [statOk, Bool.and_eq_true] at hst ⊢
      exact ⟨⟨⟨opsOk_mono (by rw [r.size]; exact hle) _ _ hst.1.1.1, hst.1.1.2⟩, hst.1.2⟩, hst.2⟩
    have hops := hst2
    simp only [statOk, Bool.and_eq_true] at hops
    have hall := opsOk_at _ _ hops.1.1.1
    obtain ⟨rs', ta, h5, h6, h7⟩ := klex_ok (G := G) hr ops _ _ _ _ _ _ _ h1 (fun x hx => by
      have hx := listed_ops _ x hx
      obtain ⟨h8, _, h9⟩ := hall x.1 x.2 (by rw [Array.getElem?_toList]; exact hx)
      exact ⟨h8, fun d hd => by rw [← r.size]; exact h9 d hd⟩) r
    simp only [Bool.and_eq_true] at h2
    refine ⟨ta, ?_, h6⟩
    unfold aregion
    simp only [hst2, if_true, h5, ← kws_eq _ h7, ← knew_eq _ h7, h2.1.1, h2.1.2, kreads_ok _ _ h7 h2.2, Bool.and_self, h4]
end
end Go.Ab
/- The quick executor is sound: what it says of a run, the plain one says. -/
namespace Go.Ab
set_option linter.unusedSimpArgs false
set_option linter.unusedVariables false
section
variable {P : Program} {G : Nat} {rec : K2} {run : Run}
theorem kleave_ok (hr : KOk P rec run) {jump : Option Code} {C : FC} {ds : List Deferred} {ts : TT} {h : AH} {x : Value × AH} {a : Array Value} (todo : List Item) (e : kleave P rec jump C ds ts h = some x) (r : TR C.sz ts a) :
    aleave P run ⟨C.f, a, todo, ds, .run, C.kind, C.ro⟩ jump h = some x := by
  unfold kleave at e
  unfold aleave
  cases hro : C.ro with
  | none =>
    rw [hro] at e
    simp only
    cases jump with
    | none =>
      have := hr.b e hro a todo r
      rw [hro] at this
      exact this
    | some c =>
      simp only at e ⊢
      cases c <;> first | (cases e; done) | skip
      have := hr.b e hro a todo r
      rw [hro] at this
      exact this
  | some l =>
    rw [hro] at e
    exact e
theorem kresults_ok {ts : TT} {h : AH} {a : Array Value} {sz : Nat} (r : TR sz ts a) : ∀ (l : List ResultVar) (vs : List Value), (kresults P l).run ts h = some vs → rrun P (l.mapM (resultOf a)) h = some vs
  | [], vs, e => by
    cases e
    rfl
  | .tmp t :: l, vs, e => by
    obtain ⟨us, h1, e⟩ := ob_eq e
    cases e
    rw [List.mapM_cons, rrun_bind]
    have : rrun P (resultOf a (.tmp t)) h = some ((tget 12 t).run ts) := by
      rw [r.get]
      rfl
    rw [this, Option.bind_some, rrun_bind, kresults_ok r l us h1]
    rfl
  | .cell t ty :: l, vs, e => by
    obtain ⟨v, h0, e⟩ := ob_eq e
    obtain ⟨us, h1, e⟩ := ob_eq e
    cases e
    rw [List.mapM_cons, rrun_bind]
    have : rrun P (resultOf a (.cell t ty)) h = some v := by
      obtain ⟨ad, h2, h3⟩ := kload_var h0
      rw [r.eval] at h2
      show rrun P (asAddr (a.getD t undef) >>= fun x => loadVar ty x) h = _
      have h2 : a.getD t undef = .pointer (some ad) := h2
      rw [h2]
      exact h3
    rw [this, Option.bind_some, rrun_bind, kresults_ok r l us h1]
    rfl
theorem kres_ok {f : FuncId} {ts : TT} {h : AH} {a : Array Value} {sz : Nat} {v : Value} (r : TR sz ts a) (e : (kres P f).run ts h = some v) : ∃ fn, P.funcs[f]? = some fn ∧ aresults P fn a h = some v := by
  unfold kres at e
  rw [lget_eq, Array.getElem?_toList] at e
  split at e
  · rename_i fn hf
    refine ⟨fn, hf, ?_⟩
    unfold aresults
    rw [results_eq, rrun_bind]
    split at e
    · rename_i t hl
      cases e
      rw [hl]
      have : rrun P ([ResultVar.tmp t].mapM (resultOf a)) h = some [(tget 12 t).run ts] := by
        rw [r.get]
        rfl
      rw [this]
      rfl
    · rename_i t ty hl
      rw [hl]
      have : rrun P ([ResultVar.cell t ty].mapM (resultOf a)) h = some [v] := by
        have := kresults_ok (P := P) (h := h) r [.cell t ty] [v] (by
          show (ob ((kload P ty (.tmp t)).run ts h) fun v => ob (some []) fun l => some (v :: l)) = some [v]
          rw [e]
          rfl)
        exact this
      rw [this]
      rfl
    · rename_i l hn1 hn2
      obtain ⟨vs, h1, e⟩ := ob_eq e
      cases e
      have hm := kresults_ok r _ _ h1
      rw [hm, Option.bind_some]
      have hlen : fn.results.toList.length = vs.length := by
        have key : ∀ (l : List ResultVar) (vs : List Value), (kresults P l).run ts h = some vs → l.length = vs.length := by
          intro l
          induction l with
          | nil => intro vs e; cases e; rfl
          | cons x l ih =>
            intro vs e
            cases x with
            | tmp t =>
              obtain ⟨us, h1, e⟩ := ob_eq e
              cases e
              simp [ih us h1]
            | cell t ty =>
              obtain ⟨v, h0, e⟩ := ob_eq e
              obtain ⟨us, h1, e⟩ := ob_eq e
              cases e
              simp [ih us h1]
        exact key _ _ h1
      have hne : vs.length ≠ 1 := fun hc => by
        rw [hc] at hlen
        cases hl : fn.results.toList with
        | nil => rw [hl] at hlen; simp at hlen
        | cons x l =>
          rw [hl] at hlen
          have : l = [] := by simpa using hlen
          subst this
          cases x with
          | tmp t => exact hn1 t hl
          | cell t ty => exact hn2 t ty hl
      rw [dif_neg (by simpa using hne)]
      rfl
  · cases e
theorem kback_ok (hr : KOk P rec run) {C : FC} {ds : List Deferred} {ts : TT} {h : AH} {x : Value × AH} {a : Array Value} (todo : List Item) (e : kback P rec C ds ts h = some x) (hro : C.ro = none) (r : TR C.sz ts a) :
    astep P G noOrc run ⟨C.f, a, todo, ds, .returning, C.kind, C.ro⟩ h = some x := by
  unfold astep
  simp only [hro, Option.isNone_none, if_true]
  unfold aback
  unfold kback at e
  cases ds with
  | nil =>
    obtain ⟨v, h1, e⟩ := ob_eq e
    cases e
    obtain ⟨fn, hf, h2⟩ := kres_ok r h1
    simp only [hf, h2]
  | cons d ds =>
    simp only at e ⊢
    split at e
    · rename_i b hb
      obtain ⟨⟨calls, h'⟩, h1, e⟩ := ob_eq e
      simp only [hb, h1]
      have := hr.b e hro a todo r
      rw [hro] at this
      exact this
    · rename_i g captured hb
      obtain ⟨hbd, e⟩ := ci_eq e
      obtain ⟨⟨v, h'⟩, h1, e⟩ := ob_eq e
      have h2 := kenter_ok hr (by simp) h1
      have ee : (⟨d.args.toList ++ captured.toList⟩ : Array Value) = d.args ++ captured := by
        apply Array.toList_inj.1
        simp
      rw [ee] at h2
      simp only [hb, kbodied_eq hbd, if_true, h2]
      have := hr.b e hro a todo r
      rw [hro] at this
      exact this
    · cases e
theorem koper_ok (hr : KOk P rec run) {ops : Array Oper} {i : Nat} {l : List Nat} {o : Oper} (ho : ops[i]? = some o) {C : FC} {ds : List Deferred} {k : List Item} {ts : TT} {h : AH} {x : Value × AH} {a : Array Value} (r : TR C.sz ts a)
    (e : (kopG P G ops l o).run rec C ds k ts h = some x) : astep P G noOrc run ⟨C.f, a, .inRegion ops (i :: l) :: k, ds, .run, C.kind, C.ro⟩ h = some x := by
  unfold astep
  simp only [ho]
  have hd : ∀ d, o.dst = some d → d < C.sz := by
    unfold kopG at e
    simp only at e
    split at e
    · obtain ⟨h1, _⟩ := ci_eq e
      exact dst_of h1
    · obtain ⟨h1, _⟩ := ci_eq e
      exact dst_of h1
  have nxt : ∀ {v : Value} {h' : AH} {ds' : List Deferred}, rec.k C ds' (.inRegion ops l :: k) ((kput o).run ts v) h' = some x → run ⟨C.f, putT a o.dst v, .inRegion ops l :: k, ds', .run, C.kind, C.ro⟩ h' = some x := fun e => hr.k e _ (r.put hd _)
  have goD : opD P G noOrc run o (evalT a) h = opD P G noOrc run o (kvalF ts) h := by rw [r.eval]
  -- the operation itself
  have oper : (koper P G ops l o).run rec C ds k ts h = some x → (∀ c, o.op = .call c → c.callee ≠ .builtin .recover) →
      (match o.op with
          | .defer _ => match C.ro, okOper G o, aop P o (evalT a) h with
            | none, true, some (.defer d, h') => run { fn := C.f, todo := .inRegion ops l :: k, tmps := putT a o.dst undef, defers := d :: ds, mode := .run, kind := C.kind, roundOf := C.ro } h'
            | _, _, _ => none
          | .call c => match c.callee with
            | .builtin .recover => match C.ro with
              | none => run { fn := C.f, todo := .inRegion ops l :: k, tmps := putT a o.dst .nilIface, defers := ds, mode := .run, kind := C.kind, roundOf := C.ro } h
              | some _ => none
            | _ => match opD P G noOrc run o (evalT a) h with
              | some (v, h') => run { fn := C.f, todo := .inRegion ops l :: k, tmps := putT a o.dst v, defers := ds, mode := .run, kind := C.kind, roundOf := C.ro } h'
              | none => none
          | _ => match opD P G noOrc run o (evalT a) h with
            | some (v, h') => run { fn := C.f, todo := .inRegion ops l :: k, tmps := putT a o.dst v, defers := ds, mode := .run, kind := C.kind, roundOf := C.ro } h'
            | none => none) = some x := fun e hnr => by
    unfold koper at e
    cases hok : okOper G o with
    | false => rw [hok] at e; cases e
    | true =>
      rw [hok, ci_true] at e
      have plain : (∀ c, o.op ≠ .defer c) → (match classOf P o with
          | .read => (⟨fun rec C ds k ts h => ob ((kread P o).run ts h) fun v => rec.k C ds (.inRegion ops l :: k) ((kput o).run ts v) h⟩ : KStep)
          | _ => ⟨fun rec C ds k ts h => ob ((kchain P o).run rec ts h) fun x => rec.k C ds (.inRegion ops l :: k) ((kput o).run ts x.1) x.2⟩).run rec C ds k ts h = some x →
          ∃ v h', opD P G noOrc run o (evalT a) h = some (v, h') ∧ run ⟨C.f, putT a o.dst v, .inRegion ops l :: k, ds, .run, C.kind, C.ro⟩ h' = some x := fun hnd e => by
        have chain : (ob ((kchain P o).run rec ts h) fun x => rec.k C ds (.inRegion ops l :: k) ((kput o).run ts x.1) x.2) = some x → ∃ v h', opD P G noOrc run o (evalT a) h = some (v, h') ∧ run ⟨C.f, putT a o.dst v, .inRegion ops l :: k, ds, .run, C.kind, C.ro⟩ h' = some x := fun e => by
          obtain ⟨⟨v, h'⟩, h1, e⟩ := ob_eq e
          exact ⟨v, h', by rw [goD]; exact kchain_ok hr hok h1, nxt e⟩
        split at e
        · obtain ⟨v, h1, e⟩ := ob_eq e
          refine ⟨v, h, ?_, nxt e⟩
          rw [goD]
          exact opD_of hr hok (aread_aop (kread_ok h1)) rfl
        · exact chain e
      split at e
      · rename_i c hop
        simp only [hop]
        obtain ⟨hro, e⟩ := oN_eq e
        obtain ⟨⟨n, h'⟩, h1, e⟩ := ob_eq e
        simp only at e
        split at e
        · rename_i d
          rw [r.eval] at h1
          simp only [hro, h1]
          have := nxt e
          rw [hro] at this
          exact this
        · cases e
      · rename_i hnd
        obtain ⟨v, h', h1, h2⟩ := plain (fun c hc => hnd c hc) e
        split
        · rename_i c hc
          exact absurd hc (hnd c)
        · rename_i c hc
          split
          · rename_i hcr
            exact absurd hcr (hnr c hc)
          · rw [h1]
            exact h2
        · rw [h1]
          exact h2
  have body : (match o.op with
    | .call c => match c.callee with
      | .builtin .recover => (⟨fun rec C ds k ts h => oN C.ro (rec.k C ds (.inRegion ops l :: k) ((kput o).run ts .nilIface) h)⟩ : KStep)
      | _ => koper P G ops l o
    | _ => koper P G ops l o).run rec C ds k ts h = some x →
      (match o.op with
          | .defer _ => match C.ro, okOper G o, aop P o (evalT a) h with
            | none, true, some (.defer d, h') => run { fn := C.f, todo := .inRegion ops l :: k, tmps := putT a o.dst undef, defers := d :: ds, mode := .run, kind := C.kind, roundOf := C.ro } h'
            | _, _, _ => none
          | .call c => match c.callee with
            | .builtin .recover => match C.ro with
              | none => run { fn := C.f, todo := .inRegion ops l :: k, tmps := putT a o.dst .nilIface, defers := ds, mode := .run, kind := C.kind, roundOf := C.ro } h
              | some _ => none
            | _ => match opD P G noOrc run o (evalT a) h with
              | some (v, h') => run { fn := C.f, todo := .inRegion ops l :: k, tmps := putT a o.dst v, defers := ds, mode := .run, kind := C.kind, roundOf := C.ro } h'
              | none => none
          | _ => match opD P G noOrc run o (evalT a) h with
            | some (v, h') => run { fn := C.f, todo := .inRegion ops l :: k, tmps := putT a o.dst v, defers := ds, mode := .run, kind := C.kind, roundOf := C.ro } h'
            | none => none) = some x := fun e => by
    split at e
    · rename_i c hop
      split at e
      · rename_i hc
        obtain ⟨hro, e⟩ := oN_eq e
        simp only [hop, hc, hro]
        have := nxt e
        rw [hro] at this
        exact this
      · rename_i hc
        exact oper e (fun c' hc' => by rw [hop] at hc'; cases hc'; exact hc)
    · rename_i hop
      exact oper e (fun c' hc' => absurd hc' (hop c'))
  unfold kopG at e
  simp only at e
  split at e
  · rename_i hg
    obtain ⟨_, e⟩ := ci_eq e
    have hw : Region.wanted o (yielded ops a) = true := by unfold Region.wanted; rw [hg]
    rw [if_pos hw]
    exact body e
  · rename_i g hg
    obtain ⟨_, e⟩ := ci_eq e
    rw [kwant_eq r] at e
    cases hw : Region.wanted o (yielded ops a) with
    | true =>
      rw [hw, ci_true] at e
      rw [if_pos rfl]
      exact body e
    | false =>
      rw [hw, ci_false] at e
      rw [if_neg (by simp)]
      exact nxt e
theorem kstep_ok (hr : KOk P rec run) {C : FC} {ds : List Deferred} {todo : List Item} {ts : TT} {h : AH} {x : Value × AH} (e : kstep P G rec C ds todo ts h = some x) (a : Array Value) (r : TR C.sz ts a) :
    astep P G noOrc run ⟨C.f, a, todo, ds, .run, C.kind, C.ro⟩ h = some x := by
  cases todo with
  | nil =>
    unfold astep
    exact kleave_ok hr [] e r
  | cons it k =>
    replace e : (kitem P G it).run rec C ds k ts h = some x := e
    have jmp : ∀ {k' : List Item}, rec.k C ds k' ts h = some x → run ⟨C.f, a, k', ds, .run, C.kind, C.ro⟩ h = some x := fun e => hr.k e a r
    unfold kitem at e
    split at e
    · rename_i c
      unfold kcode at e
      split at e
      · unfold astep
        exact kleave_ok hr _ e r
      · unfold astep
        exact jmp e
      · unfold astep
        exact jmp e
      · unfold astep
        exact jmp e
      · rename_i c p q
        unfold astep
        simp only
        cases hok : okOperand G c with
        | false => rw [hok] at e; cases e
        | true =>
          rw [hok, ci_true] at e
          obtain ⟨t, h1, e⟩ := ob_eq e
          have h1 : kvalF ts c = .bool t := vBool_eq h1
          rw [r.eval] at h1
          simp only [h1]
          cases t with
          | true => exact jmp e
          | false => exact jmp e
      · unfold astep
        exact jmp e
      · unfold astep
        exact jmp e
      · unfold astep
        exact jmp e
      · rename_i id
        unfold astep
        simp only
        dsimp only at e
        cases he : exitTo id k with
        | none =>
          rw [he] at e
          exact kleave_ok hr _ e r
        | some k' =>
          rw [he] at e
          exact jmp e
      · rename_i id
        unfold astep
        simp only
        dsimp only at e
        cases he : gotoIn id k with
        | none =>
          rw [he] at e
          exact kleave_ok hr _ e r
        | some k' =>
          rw [he] at e
          exact jmp e
      · rename_i id ops draw
        unfold astep
        simp only
        cases draw with
        | true =>
          rw [ci_true] at e
          obtain ⟨⟨te, h'⟩, h1, e⟩ := ob_eq e
          obtain ⟨ta, h2, h3⟩ := kregion_ok hr h1 r
          simp only [if_true, h2]
          exact hr.k e ta h3
        | false =>
          rw [ci_false] at e
          exact jmp e
      · rename_i g ps p q
        unfold astep
        simp only
        cases hok : okOperand G g with
        | false => rw [hok] at e; cases e
        | true =>
          rw [hok, ci_true] at e
          obtain ⟨⟨⟨l, mark⟩, h'⟩, h1, e⟩ := ob_eq e
          rw [r.arr] at h1
          obtain ⟨v, h2, e⟩ := ob_eq e
          have h2 : kvalF ts g = .func (.func v.f) v.p v.q := vFn_eq h2
          rw [r.eval] at h2
          obtain ⟨hb, e⟩ := ci_eq e
          obtain ⟨⟨y, h3⟩, h4, e⟩ := ob_eq e
          have h5 := kenter_ok hr (by simp) h4
          have ee : (⟨v.p.toList ++ (.func (.yield l) #[] #[] :: v.q.toList)⟩ : Array Value) = (v.p ++ #[.func (.yield l) #[] #[]]) ++ v.q := by
            apply Array.toList_inj.1
            simp
          rw [ee] at h5
          simp only [h1, h2, kbodied_eq hb, if_true, h5]
          exact hr.k e a r
      · cases e
    · unfold astep
      exact jmp e
    · unfold astep
      exact jmp e
    · unfold astep
      exact jmp e
    · rename_i ops l
      split at e
      · unfold astep
        exact jmp e
      · rename_i i l
        split at e
        · rename_i o ho
          exact koper_ok hr ho r e
        · cases e
    · obtain ⟨l, h1, e⟩ := ob_eq e
      obtain ⟨⟨u, h'⟩, h2, e⟩ := ob_eq e
      unfold astep
      simp only [h1, h2]
      have := hr.k e a r
      rw [h1] at this
      exact this
    · rename_i l
      obtain ⟨⟨j, h'⟩, h2, e⟩ := ob_eq e
      unfold astep
      simp only [h2]
      cases j with
      | none => exact hr.k e a r
      | some c => exact hr.k e a r
    · cases e
theorem krun_ok : ∀ n, KOk P (krun P G n) (afr P G noOrc n)
  | 0 => ⟨(fun e => by cases e), (fun e => by cases e)⟩
  | n + 1 => ⟨fun e a r => kstep_ok (krun_ok n) e a r, fun e hro a todo r => kback_ok (krun_ok n) todo e hro r⟩
end
theorem kruns_runs {P : Program} {f n : Nat} (h : kruns P f n = true) : runs P f n = true := by
  unfold kruns kTrue at h
  cases hf : kfunc P n f ⟨.leaf, 0, 0⟩ with
  | none => rw [hf] at h; cases h
  | some x =>
    rw [hf] at h
    replace h : @Option.rec Bool (fun _ => Bool) false (fun b => b) (vBool x.1) = true := h
    cases hv : vBool x.1 with
    | none => rw [hv] at h; cases h
    | some b =>
      rw [hv] at h
      have hb : b = true := h
      subst hb
      obtain ⟨v, h'⟩ := x
      have hv : v = .bool true := vBool_eq hv
      subst hv
      have := kenter_ok (krun_ok (G := 0) n) (az := []) rfl hf
      unfold runs
      rw [show (Frame.enter P f #[] .normal) = Frame.enter P f ⟨[]⟩ .normal from rfl, show h00 = ⟨.leaf, 0, 0⟩ from rfl, this]
      rfl
theorem kruns_calls {P : Program} (hz : zerosOk P = true) (hm : P.follows .mixedOrders = true) {f n : Nat} (h : kruns P f n = true) (w : World) : Calls P f #[] w fun e w' => e = .returned (.bool true) ∧ Grew w w' :=
  runs_calls hz hm (kruns_runs h) w
end Go.Ab
