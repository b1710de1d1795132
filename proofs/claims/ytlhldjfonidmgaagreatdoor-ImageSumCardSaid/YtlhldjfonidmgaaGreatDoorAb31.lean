/- The quick executor: writing, calls, regions, frames. -/
import Derived.Test.YtlhldjfonidmgaaGreatDoorAb30
namespace Go.Ab
set_option linter.unusedVariables false
/-- What a frame keeps as it is: its function, how many temporaries, its kind, the loop whose round it is. -/
structure FC where
  f : FuncId
  sz : Nat
  kind : CallKind
  ro : Option Nat
abbrev KR := FC → List Deferred → List Item → TT → AH → Option (Value × AH)
abbrev KB := FC → List Deferred → TT → AH → Option (Value × AH)
/-- The runs of one step less: on, and back. -/
structure K2 where
  k : KR
  b : KB
abbrev KStep := Clo (K2 → FC → List Deferred → List Item → TT → AH → Option (Value × AH))
abbrev KChain := Clo (K2 → TT → AH → Option (Value × AH))
/-- The arguments as the first temporaries. -/
noncomputable def tfill : List Value → Nat → TT → TT := @List.rec Value (fun _ => Nat → TT → TT) (fun _ t => t) (fun v _ ih i t => ih (Nat.succ i) ((tset 12 i).run t v))
/-- A function with a body of its own. -/
noncomputable def kbodied (P : Program) (f : FuncId) : Bool := @Option.rec Func (fun _ => Bool) false (fun fn => fn.body.isSome && !(fn.name == "runtime.NumGoroutine")) ((lget f).run P.funcs.toList)
noncomputable def kenter (P : Program) (f : FuncId) (n : Nat) (kind : CallKind) : Clo (K2 → List Value → AH → Option (Value × AH)) :=
  match (lget f).run P.funcs.toList with
  | some fn => match fn.body with
    | some c => ci (Nat.blt fn.ntmps 4000 && Nat.ble n fn.ntmps) ⟨fun rec as h => rec.k ⟨f, fn.ntmps, kind, none⟩ [] [.code c] (tfill as 0 .leaf) h⟩ ⟨fun _ _ _ => none⟩
    | none => ⟨fun _ _ _ => none⟩
  | none => ⟨fun _ _ _ => none⟩
noncomputable def kNext (P : Program) (rec : K2) (x : Next × AH) : Option (Value × AH) := match x.1 with
  | .value v => some (v, x.2)
  | .skip => some (undef, x.2)
  | .enter f as => (kenter P f as.toList.length .normal).run rec as.toList x.2
  | .round l f ts a b => ci (Nat.blt ts.toList.length 4000) (rec.k ⟨f, ts.toList.length, .normal, some l⟩ [] [.code a, .beginRound, .code b] (tfill ts.toList 0 .leaf) x.2) none
  | _ => none
noncomputable def kslowC (P : Program) (o : Oper) : KChain := ⟨fun rec ts h => ob (aop P o (kvalF ts) h) (kNext P rec)⟩
noncomputable def knoneC : KChain := ⟨fun _ _ _ => none⟩
noncomputable def kstore (P : Program) (o : Oper) (t : TypeId) (a x : Operand) : KChain :=
  match kund P t, kinfo P t with
  | some d, some i => ci (Nat.beq i.size 0) (kslowC P o) <| ci (isAggT d) ⟨fun _ ts h => ob (vAddr ((kval a).run ts)) fun a => ob (krow h a) fun r => ob (vAgg ((kval x).run ts)) fun c => ci (Nat.beq (llen c.toList) i.size) (ci (Nat.ble r.hi a.off) (ci (Nat.ble h.base a.block)
      (oN a.spot (ob ((lputs a.off).run r.c c.toList) fun c => some (undef, kAH h fun t b n => ⟨(mset depth a.block).run t (some (.cells ⟨c⟩ r.t (r.lo, r.hi), r.op)), b, n⟩))) none) none) none⟩ (ci (Nat.beq i.size 1) ⟨fun _ ts h => ob (vAddr ((kval a).run ts)) fun a => ob (krow h a) fun r => ci (vOne ((kval x).run ts)) (ci (Nat.ble r.hi a.off) (ci (Nat.ble h.base a.block)
      (oN a.spot (ob ((lset a.off).run r.c ((kval x).run ts)) fun c => some (undef, kAH h fun t b n => ⟨(mset depth a.block).run t (some (.cells ⟨c⟩ r.t (r.lo, r.hi), r.op)), b, n⟩))) none) none) none⟩ knoneC)
  | _, _ => knoneC
noncomputable def kcall (P : Program) (o : Oper) (f : Operand) (args : List Operand) : KChain :=
  match f with
  | .func f => ci (kbodied P f) ⟨fun rec ts h => (kenter P f args.length .normal).run rec ((kvals args).run ts) h⟩ (kslowC P o)
  | f => ⟨fun rec ts h => @Option.rec Fv (fun _ => Option (Value × AH)) ((kslowC P o).run rec ts h) (fun v => ci (kbodied P v.f) ((kenter P v.f (v.p.toList.length + args.length + v.q.toList.length) .normal).run rec (v.p.toList ++ ((kvals args).run ts ++ v.q.toList)) h) ((kslowC P o).run rec ts h)) (vFn ((kval f).run ts))⟩
/-- A new block. -/
abbrev KFree := Clo (TT → Option (Obj × Shape))
noncomputable def kfree (P : Program) (o : Oper) : KFree :=
  match o.op with
  | .alloc t => match aFree P o (fun _ => undef) with
    | some x => ⟨fun _ => some x⟩
    | none => ⟨fun _ => none⟩
  | .box t x => ⟨fun ts => some (.cells ((kval x).run ts).cells t (0, 0), .ptr)⟩
  | _ => ⟨fun ts => aFree P o (kvalF ts)⟩
noncomputable def kchain (P : Program) (o : Oper) : KChain :=
  match o.op with
  | .store t a x => kstore P o t a x
  | .alloc _ | .box _ _ | .buildSlice _ _ _ => ⟨fun _ ts h => ob ((kfree P o).run ts) fun x => ci (room h) (some (x.2.val h.next, kpush h x.1 false)) none⟩
  | .defer _ => knoneC
  | .call c => match c.callee with
    | .value f => kcall P o f c.args.toList
    | .builtin .recover => knoneC
    | _ => kslowC P o
  | _ => kslowC P o
noncomputable def kput (o : Oper) : Clo (TT → Value → TT) := match o.dst with
  | some d => tset 12 d
  | none => ⟨fun ts _ => ts⟩
def dstOk (sz : Nat) (o : Oper) : Bool := match o.dst with
  | some d => Nat.blt d sz
  | none => true
noncomputable def kyield (ops : Array Oper) (j : Nat) : Clo (TT → Option Bool) := match (ops[j]?).bind (·.dst) with
  | some d => ⟨fun ts => vBool ((tget 12 d).run ts)⟩
  | none => ⟨fun _ => none⟩
def obeq (o : Option Bool) (b : Bool) : Bool := match o with
  | some c => c == b
  | none => false
/-- Is an operation to be done? -/
noncomputable def kwant (ops : Array Oper) (o : Oper) : Clo (TT → Bool) := match o.guard with
  | none => ⟨fun _ => true⟩
  | some (j, b) => ⟨fun ts => obeq ((kyield ops j).run ts) b⟩
structure KRec where
  v : Value
  wr : Bool
  ts : TT
  new : Option (Nat × Obj)
abbrev KLex := Clo (K2 → TT → AH → Option (List KRec × List AH × TT))
noncomputable def klexOp (P : Program) (G : Nat) (o : Oper) (next : KLex) : KLex :=
  match classOf P o with
  | .read => ⟨fun rec ts h => ob ((kread P o).run ts h) fun v => ob (next.run rec ((kput o).run ts v) h) fun x => some (⟨v, false, ts, none⟩ :: x.1, x.2.1, x.2.2)⟩
  | .free => ⟨fun rec ts h => ob ((kfree P o).run ts) fun b => ci (room h) (ob (next.run rec ((kput o).run ts (b.2.val h.next)) (kpush h b.1 false)) fun x => some (⟨b.2.val h.next, false, ts, some (h.next, b.1)⟩ :: x.1, x.2.1, x.2.2)) none⟩
  | .chain => ⟨fun rec ts h => ob ((kchain P o).run rec ts h) fun y => ob (next.run rec ((kput o).run ts y.1) y.2) fun x => some (⟨y.1, true, ts, none⟩ :: x.1, h :: x.2.1, x.2.2)⟩
noncomputable def klexG (ops : Array Oper) (o : Oper) (yes next : KLex) : KLex :=
  match o.guard with
  | none => yes
  | some _ => ⟨fun rec ts h => ci ((kwant ops o).run ts) (yes.run rec ts h) (ob (next.run rec ((kput o).run ts undef) h) fun x => some (⟨undef, false, ts, none⟩ :: x.1, x.2.1, x.2.2))⟩
noncomputable def klex (P : Program) (G : Nat) (ops : Array Oper) : List (Nat × Oper) → KLex :=
  @List.rec (Nat × Oper) (fun _ => KLex) ⟨fun _ ts h => some ([], [h], ts)⟩ (fun x _ ih => klexG ops x.2 (klexOp P G x.2 ih) ih)
noncomputable def kreadOk (P : Program) (o : Oper) (r : KRec) (lo hi : Nat) (hs : List AH) : Bool :=
  ((hs.drop lo).take (hi + 1 - lo)).all fun h => @Option.rec Value (fun _ => Bool) false (fun v => veq 8 v r.v) ((kread P o).run r.ts h)
noncomputable def kreadsOk (P : Program) (ops : Array Oper) (mk ws : List Nat) (hs : List AH) : List (Nat × Oper) → List KRec → Nat → Bool
  | (i, o) :: l, r :: rs, c =>
    ci r.wr (kreadsOk P ops mk ws hs l rs (c + 1))
     ((ci (noMem o.op && r.new.isNone) true (!((kwant ops o).run r.ts) || match r.new with
       | some (n, b) => freeOk n b (loF mk i ws 0) (hiF mk i ws 0) c hs
       | none => kreadOk P o r (loF mk i ws 0) (hiF mk i ws 0) hs)) && kreadsOk P ops mk ws hs l rs c)
  | _, _, _ => true
def kws : List (Nat × Oper) → List KRec → List Nat
  | (i, _) :: l, r :: rs => if r.wr then i :: kws l rs else kws l rs
  | _, _ => []
def knewOk : List KRec → Nat → Bool
  | r :: rs, n => match r.new with
    | some (m, _) => Nat.ble n m && knewOk rs (m + 1)
    | none => knewOk rs n
  | [], _ => true
def dmax (ops : Array Oper) : Nat := ops.toList.foldl (fun m o => match o.dst with
  | some d => Nat.max m (d + 1)
  | none => m) 0
noncomputable def kregion (P : Program) (G : Nat) (ops : Array Oper) : Clo (K2 → Nat → TT → AH → Option (TT × AH)) :=
  let mk := masks ops.toList []
  let l := listed ops (orderOf P ops mk)
  ci (statOk G (dmax ops) ops mk (orderOf P ops mk) l)
    ⟨fun rec sz ts h => ci (Nat.ble (dmax ops) sz) (ob ((klex P G ops l).run rec ts h) fun x =>
      ci (chainOk mk (kws l x.1) && knewOk x.1 h.next && kreadsOk P ops mk (kws l x.1) x.2.1 l x.1 0) (ob (lastH x.2.1) fun h' => some (x.2.2, h')) none) none⟩
    ⟨fun _ _ _ _ => none⟩
noncomputable def kresults (P : Program) : List ResultVar → Clo (TT → AH → Option (List Value)) :=
  @List.rec ResultVar (fun _ => Clo (TT → AH → Option (List Value))) ⟨fun _ _ => some []⟩ (fun x _ ih => match x with
    | .tmp t => ⟨fun ts h => ob (ih.run ts h) fun l => some ((tget 12 t).run ts :: l)⟩
    | .cell a t => ⟨fun ts h => ob ((kload P t (.tmp a)).run ts h) fun v => ob (ih.run ts h) fun l => some (v :: l)⟩)
noncomputable def kres (P : Program) (f : FuncId) : KRead :=
  match (lget f).run P.funcs.toList with
  | some fn => match fn.results.toList with
    | [.tmp t] => ⟨fun ts _ => some ((tget 12 t).run ts)⟩
    | [.cell a t] => kload P t (.tmp a)
    | l => ⟨fun ts h => ob ((kresults P l).run ts h) fun vs => some (.tuple ⟨vs⟩)⟩
  | none => knone
noncomputable def tarr (sz : Nat) (ts : TT) : Array Value := ⟨(List.range sz).map fun i => (tget 12 i).run ts⟩
/-- A frame is left by its end, or by a jump. -/
noncomputable def kleave (P : Program) (rec : K2) (jump : Option Code) : KB := fun C ds ts h =>
  @Option.rec Nat (fun _ => Option (Value × AH)) (@Option.rec Code (fun _ => Option (Value × AH)) (rec.b C ds ts h) (fun c => match c with
    | .ret => rec.b C ds ts h
    | _ => none) jump) (fun l => arun P (Instr.endRound l jump) h) C.ro
noncomputable def kback (P : Program) (rec : K2) : KB := fun C ds ts h =>
  @List.rec Deferred (fun _ => Option (Value × AH)) (ob ((kres P C.f).run ts h) fun v => some (v, h)) (fun d ds _ => match d.target with
    | .collected b => ob (arun P (Instr.takeDeferred b) h) fun x => rec.b C (x.1 ++ ds) ts x.2
    | .fn (.func g) captured => ci (kbodied P g) (ob ((kenter P g (d.args.toList.length + captured.toList.length) .deferred).run rec (d.args.toList ++ captured.toList) h) fun x => rec.b C ds ts x.2) none
    | _ => none) ds
noncomputable def kno : KStep := ⟨fun _ _ _ _ _ _ => none⟩
noncomputable def kcode (P : Program) (G : Nat) (c : Code) : KStep :=
  match c with
  | .ret => ⟨fun rec C ds k ts h => kleave P rec (some .ret) C ds ts h⟩
  | .skip | .label _ => ⟨fun rec C ds k ts h => rec.k C ds k ts h⟩
  | .seq a b => ⟨fun rec C ds k ts h => rec.k C ds (.code a :: .code b :: k) ts h⟩
  | .cond c a b => ci (okOperand G c) ⟨fun rec C ds k ts h => ob (vBool ((kval c).run ts)) fun t => ci t (rec.k C ds (.code a :: k) ts h) (rec.k C ds (.code b :: k) ts h)⟩ kno
  | .block id b => ⟨fun rec C ds k ts h => rec.k C ds (.code b :: .inBlock id :: k) ts h⟩
  | .loop b => ⟨fun rec C ds k ts h => rec.k C ds (.code b :: .inLoop b :: k) ts h⟩
  | .scope b => ⟨fun rec C ds k ts h => rec.k C ds (.code b :: .inScope b :: k) ts h⟩
  | .exit id => ⟨fun rec C ds k ts h => @Option.rec (List Item) (fun _ => Option (Value × AH)) (kleave P rec (some (.exit id)) C ds ts h) (fun k => rec.k C ds k ts h) (exitTo id k)⟩
  | .goto l => ⟨fun rec C ds k ts h => @Option.rec (List Item) (fun _ => Option (Value × AH)) (kleave P rec (some (.goto l)) C ds ts h) (fun k => rec.k C ds k ts h) (gotoIn l k)⟩
  | .region _ ops draw => ci draw ⟨fun rec C ds k ts h => ob ((kregion P G ops).run rec C.sz ts h) fun x => rec.k C ds k x.1 x.2⟩ ⟨fun rec C ds k ts h => rec.k C ds (.inRegion ops (List.range ops.size) :: k) ts h⟩
  | .rangeFunc g ps a b => ci (okOperand G g) ⟨fun rec C ds k ts h => ob (arun P (Instr.enterLoop C.f (tarr C.sz ts) ps a b C.ro) h) fun x => ob (vFn ((kval g).run ts)) fun v =>
      ci (kbodied P v.f) (ob ((kenter P v.f (v.p.toList.length + Nat.succ v.q.toList.length) .normal).run rec (v.p.toList ++ (.func (.yield x.1.1) #[] #[] :: v.q.toList)) x.2) fun y => rec.k C (x.1.2 ++ ds) (.endRangeFunc x.1.1 :: k) ts y.2) none⟩ kno
  | _ => kno
noncomputable def koper (P : Program) (G : Nat) (ops : Array Oper) (l : List Nat) (o : Oper) : KStep :=
  ci (okOper G o)
    (match o.op with
    | .defer _ => ⟨fun rec C ds k ts h => oN C.ro (ob (aop P o (kvalF ts) h) fun x => match x.1 with
      | .defer d => rec.k C (d :: ds) (.inRegion ops l :: k) ((kput o).run ts undef) x.2
      | _ => none)⟩
    | _ => match classOf P o with
      | .read => ⟨fun rec C ds k ts h => ob ((kread P o).run ts h) fun v => rec.k C ds (.inRegion ops l :: k) ((kput o).run ts v) h⟩
      | _ => ⟨fun rec C ds k ts h => ob ((kchain P o).run rec ts h) fun x => rec.k C ds (.inRegion ops l :: k) ((kput o).run ts x.1) x.2⟩) kno
/-- The guard of an operation; 'recover' is one where nothing panics. -/
noncomputable def kopG (P : Program) (G : Nat) (ops : Array Oper) (l : List Nat) (o : Oper) : KStep :=
  let yes : KStep := match o.op with
    | .call c => match c.callee with
      | .builtin .recover => ⟨fun rec C ds k ts h => oN C.ro (rec.k C ds (.inRegion ops l :: k) ((kput o).run ts .nilIface) h)⟩
      | _ => koper P G ops l o
    | _ => koper P G ops l o
  match o.guard with
  | none => ⟨fun rec C ds k ts h => ci (dstOk C.sz o) (yes.run rec C ds k ts h) none⟩
  | some _ => ⟨fun rec C ds k ts h => ci (dstOk C.sz o) (ci ((kwant ops o).run ts) (yes.run rec C ds k ts h) (rec.k C ds (.inRegion ops l :: k) ((kput o).run ts undef) h)) none⟩
noncomputable def kitem (P : Program) (G : Nat) (it : Item) : KStep :=
  match it with
  | .code c => kcode P G c
  | .inBlock _ | .inScope _ => ⟨fun rec C ds k ts h => rec.k C ds k ts h⟩
  | .inLoop b => ⟨fun rec C ds k ts h => rec.k C ds (.code b :: .inLoop b :: k) ts h⟩
  | .inRegion ops l => match l with
    | [] => ⟨fun rec C ds k ts h => rec.k C ds k ts h⟩
    | i :: l => match ops[i]? with
      | some o => kopG P G ops l o
      | none => kno
  | .beginRound => ⟨fun rec C ds k ts h => ob C.ro fun l => ob (arun P (Instr.beginRound l) h) fun x => rec.k C ds k ts x.2⟩
  | .endRangeFunc l => ⟨fun rec C ds k ts h => ob (arun P (Instr.endLoop l) h) fun x => @Option.rec Code (fun _ => Option (Value × AH)) (rec.k C ds k ts x.2) (fun c => rec.k C ds (.code c :: k) ts x.2) x.1⟩
  | _ => kno
noncomputable def kstep (P : Program) (G : Nat) (rec : K2) : KR := fun C ds todo ts h =>
  @List.rec Item (fun _ => Option (Value × AH)) (kleave P rec none C ds ts h) (fun it k _ => (kitem P G it).run rec C ds k ts h) todo
noncomputable def krun (P : Program) (G : Nat) : Nat → K2 := @Nat.rec (fun _ => K2) ⟨fun _ _ _ _ _ => none, fun _ _ _ _ => none⟩ (fun _ ih => ⟨kstep P G ih, kback P ih⟩)
noncomputable def kfunc (P : Program) (n f : Nat) (h : AH) : Option (Value × AH) := (kenter P f 0 .normal).run (krun P 0 n) [] h
noncomputable def kTrue (o : Option (Value × AH)) : Bool := @Option.rec (Value × AH) (fun _ => Bool) false (fun x => @Option.rec Bool (fun _ => Bool) false (fun b => b) (vBool x.1)) o
noncomputable def kruns (P : Program) (f n : Nat) : Bool := kTrue (kfunc P n f ⟨.leaf, 0, 0⟩)
end Go.Ab
