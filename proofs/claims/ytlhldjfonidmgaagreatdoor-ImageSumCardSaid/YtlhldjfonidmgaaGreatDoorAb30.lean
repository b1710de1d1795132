/- The executor in a form that the kernel evaluates quickly: the code is compiled to closures (each kept in a structure, so that its weak normal form is found once), temporaries lie in a tree. -/
import Derived.Test.YtlhldjfonidmgaaGreatDoorAb18
namespace Go.Ab
set_option linter.unusedVariables false
def noOrc : FuncId → Array Value → AH → Option (Option (Value × AH)) := fun _ _ _ => none
structure Clo (α : Type) where
  run : α
noncomputable def ob {α β : Type} (o : Option α) (f : α → Option β) : Option β := @Option.rec α (fun _ => Option β) none f o
noncomputable def ci {α : Type} (b : Bool) (x y : α) : α := @Bool.rec (fun _ => α) y x b
inductive TT where
  | leaf
  | node (l : TT) (v : Value) (r : TT)
noncomputable def tget : Nat → Nat → Clo (TT → Value) :=
  @Nat.rec (fun _ => Nat → Clo (TT → Value)) (fun _ => ⟨fun _ => undef⟩)
    (fun _ ih n => ci (Nat.beq n 0) ⟨@TT.rec (fun _ => Value) undef (fun _ v _ _ _ => v)⟩
      (ci (Nat.beq (Nat.mod n 2) 1) ⟨@TT.rec (fun _ => Value) undef (fun l _ _ _ _ => (ih (Nat.div n 2)).run l)⟩
        ⟨@TT.rec (fun _ => Value) undef (fun _ _ r _ _ => (ih (Nat.sub (Nat.div n 2) 1)).run r)⟩))
noncomputable def tset : Nat → Nat → Clo (TT → Value → TT) :=
  @Nat.rec (fun _ => Nat → Clo (TT → Value → TT)) (fun _ => ⟨fun t _ => t⟩)
    (fun _ ih n => ci (Nat.beq n 0) ⟨@TT.rec (fun _ => Value → TT) (fun x => .node .leaf x .leaf) (fun l _ r _ _ x => .node l x r)⟩
      (ci (Nat.beq (Nat.mod n 2) 1) ⟨@TT.rec (fun _ => Value → TT) (fun x => .node ((ih (Nat.div n 2)).run .leaf x) undef .leaf) (fun l v r _ _ x => .node ((ih (Nat.div n 2)).run l x) v r)⟩
        ⟨@TT.rec (fun _ => Value → TT) (fun x => .node .leaf undef ((ih (Nat.sub (Nat.div n 2) 1)).run .leaf x)) (fun l v r _ _ x => .node l v ((ih (Nat.sub (Nat.div n 2) 1)).run r x))⟩))
noncomputable def mget : Nat → Nat → Clo (Tr → Option (Obj × Bool)) :=
  @Nat.rec (fun _ => Nat → Clo (Tr → Option (Obj × Bool))) (fun _ => ⟨fun _ => none⟩)
    (fun _ ih n => ci (Nat.beq n 0) ⟨@Tr.rec (fun _ => Option (Obj × Bool)) none (fun _ o _ _ _ => o)⟩
      (ci (Nat.beq (Nat.mod n 2) 1) ⟨@Tr.rec (fun _ => Option (Obj × Bool)) none (fun l _ _ _ _ => (ih (Nat.div n 2)).run l)⟩
        ⟨@Tr.rec (fun _ => Option (Obj × Bool)) none (fun _ _ r _ _ => (ih (Nat.sub (Nat.div n 2) 1)).run r)⟩))
noncomputable def mset : Nat → Nat → Clo (Tr → Option (Obj × Bool) → Tr) :=
  @Nat.rec (fun _ => Nat → Clo (Tr → Option (Obj × Bool) → Tr)) (fun _ => ⟨fun t _ => t⟩)
    (fun _ ih n => ci (Nat.beq n 0) ⟨@Tr.rec (fun _ => Option (Obj × Bool) → Tr) (fun x => .node .leaf x .leaf) (fun l _ r _ _ x => .node l x r)⟩
      (ci (Nat.beq (Nat.mod n 2) 1) ⟨@Tr.rec (fun _ => Option (Obj × Bool) → Tr) (fun x => .node ((ih (Nat.div n 2)).run .leaf x) none .leaf) (fun l v r _ _ x => .node ((ih (Nat.div n 2)).run l x) v r)⟩
        ⟨@Tr.rec (fun _ => Option (Obj × Bool) → Tr) (fun x => .node .leaf none ((ih (Nat.sub (Nat.div n 2) 1)).run .leaf x)) (fun l v r _ _ x => .node l v ((ih (Nat.sub (Nat.div n 2) 1)).run r x))⟩))
noncomputable def lget {α : Type} : Nat → Clo (List α → Option α) := @Nat.rec (fun _ => Clo (List α → Option α)) ⟨@List.rec α (fun _ => Option α) none (fun v _ _ => some v)⟩ (fun _ ih => ⟨@List.rec α (fun _ => Option α) none (fun _ t _ => ih.run t)⟩)
/-- As List.set where the place is in the list. -/
noncomputable def lset {α : Type} : Nat → Clo (List α → α → Option (List α)) := @Nat.rec (fun _ => Clo (List α → α → Option (List α))) ⟨@List.rec α (fun _ => α → Option (List α)) (fun _ => none) (fun _ t _ x => some (x :: t))⟩ (fun _ ih => ⟨@List.rec α (fun _ => α → Option (List α)) (fun _ => none) (fun v t _ x => ob (ih.run t x) fun r => some (v :: r))⟩)
noncomputable def ldrop : Nat → Clo (List Value → List Value) := @Nat.rec (fun _ => Clo (List Value → List Value)) ⟨fun l => l⟩ (fun _ ih => ⟨@List.rec Value (fun _ => List Value) [] (fun _ t _ => ih.run t)⟩)
noncomputable def ltake : Nat → Clo (List Value → Option (List Value)) := @Nat.rec (fun _ => Clo (List Value → Option (List Value))) ⟨fun _ => some []⟩ (fun _ ih => ⟨@List.rec Value (fun _ => Option (List Value)) none (fun v t _ => ob (ih.run t) fun r => some (v :: r))⟩)
structure Sl where
  a : Option Addr
  l : Nat
  c : Nat
structure Fv where
  f : FuncId
  p : Array Value
  q : Array Value
def kNo : IntKind → Nat
  | .i8 => 0 | .i16 => 1 | .i32 => 2 | .i64 => 3 | .u8 => 4 | .u16 => 5 | .u32 => 6 | .u64 => 7
noncomputable def iNat : Int → Option Nat := @Int.rec (fun _ => Option Nat) (fun n => some n) (fun _ => none)
def fFunc (f : Fn) (p q : Array Value) : Option Fv := match f with
  | .func f => some ⟨f, p, q⟩
  | _ => none
def isFunc : Fn → Bool
  | .func _ => true
  | _ => false
noncomputable def vBool : Value → Option Bool := @Value.rec (fun _ => Option Bool) (fun _ => PUnit) (fun _ => PUnit) (fun b => some b) (fun _ _ => none) (fun _ _ => none) (fun _ _ _ => none) (fun _ => none) (fun _ => none) (fun _ _ _ => none) (fun _ => none) (fun _ => none) (fun _ _ _ _ _ => none) (none) (fun _ _ _ => none) (none) (fun _ _ => none) (fun _ _ => none) (fun _ _ => ⟨⟩) ⟨⟩ (fun _ _ _ _ => ⟨⟩)
noncomputable def vAddr : Value → Option Addr := @Value.rec (fun _ => Option Addr) (fun _ => PUnit) (fun _ => PUnit) (fun _ => none) (fun _ _ => none) (fun _ _ => none) (fun _ _ _ => none) (fun _ => none) (fun a => a) (fun _ _ _ => none) (fun _ => none) (fun _ => none) (fun _ _ _ _ _ => none) (none) (fun _ _ _ => none) (none) (fun _ _ => none) (fun _ _ => none) (fun _ _ => ⟨⟩) ⟨⟩ (fun _ _ _ _ => ⟨⟩)
noncomputable def vStr : Value → Option ByteArray := @Value.rec (fun _ => Option ByteArray) (fun _ => PUnit) (fun _ => PUnit) (fun _ => none) (fun _ _ => none) (fun _ _ => none) (fun _ _ _ => none) (fun s => some s) (fun _ => none) (fun _ _ _ => none) (fun _ => none) (fun _ => none) (fun _ _ _ _ _ => none) (none) (fun _ _ _ => none) (none) (fun _ _ => none) (fun _ _ => none) (fun _ _ => ⟨⟩) ⟨⟩ (fun _ _ _ _ => ⟨⟩)
noncomputable def vSl : Value → Option Sl := @Value.rec (fun _ => Option Sl) (fun _ => PUnit) (fun _ => PUnit) (fun _ => none) (fun _ _ => none) (fun _ _ => none) (fun _ _ _ => none) (fun _ => none) (fun _ => none) (fun a l c => some ⟨a, l, c⟩) (fun _ => none) (fun _ => none) (fun _ _ _ _ _ => none) (none) (fun _ _ _ => none) (none) (fun _ _ => none) (fun _ _ => none) (fun _ _ => ⟨⟩) ⟨⟩ (fun _ _ _ _ => ⟨⟩)
noncomputable def vAgg : Value → Option (Array Value) := @Value.rec (fun _ => Option (Array Value)) (fun _ => PUnit) (fun _ => PUnit) (fun _ => none) (fun _ _ => none) (fun _ _ => none) (fun _ _ _ => none) (fun _ => none) (fun _ => none) (fun _ _ _ => none) (fun _ => none) (fun _ => none) (fun _ _ _ _ _ => none) (none) (fun _ _ _ => none) (none) (fun c _ => some c) (fun _ _ => none) (fun _ _ => ⟨⟩) ⟨⟩ (fun _ _ _ _ => ⟨⟩)
noncomputable def vTup : Value → Option (Array Value) := @Value.rec (fun _ => Option (Array Value)) (fun _ => PUnit) (fun _ => PUnit) (fun _ => none) (fun _ _ => none) (fun _ _ => none) (fun _ _ _ => none) (fun _ => none) (fun _ => none) (fun _ _ _ => none) (fun _ => none) (fun _ => none) (fun _ _ _ _ _ => none) (none) (fun _ _ _ => none) (none) (fun _ _ => none) (fun c _ => some c) (fun _ _ => ⟨⟩) ⟨⟩ (fun _ _ _ _ => ⟨⟩)
noncomputable def vFn : Value → Option Fv := @Value.rec (fun _ => Option Fv) (fun _ => PUnit) (fun _ => PUnit) (fun _ => none) (fun _ _ => none) (fun _ _ => none) (fun _ _ _ => none) (fun _ => none) (fun _ => none) (fun _ _ _ => none) (fun _ => none) (fun _ => none) (fun f p q _ _ => fFunc f p q) (none) (fun _ _ _ => none) (none) (fun _ _ => none) (fun _ _ => none) (fun _ _ => ⟨⟩) ⟨⟩ (fun _ _ _ _ => ⟨⟩)
noncomputable def vLive : Value → Bool := @Value.rec (fun _ => Bool) (fun _ => PUnit) (fun _ => PUnit) (fun _ => false) (fun _ _ => false) (fun _ _ => false) (fun _ _ _ => false) (fun _ => false) (fun a => a.isSome) (fun _ _ _ => false) (fun _ => false) (fun _ => false) (fun f _ _ _ _ => isFunc f) (false) (fun t _ _ => true) (false) (fun _ _ => false) (fun _ _ => false) (fun _ _ => ⟨⟩) ⟨⟩ (fun _ _ _ _ => ⟨⟩)
noncomputable def vOne : Value → Bool := @Value.rec (fun _ => Bool) (fun _ => PUnit) (fun _ => PUnit) (fun _ => true) (fun _ _ => true) (fun _ _ => true) (fun _ _ _ => true) (fun _ => true) (fun _ => true) (fun _ _ _ => true) (fun _ => true) (fun _ => true) (fun _ _ _ _ _ => true) (true) (fun _ _ _ => true) (true) (fun c _ => false) (fun c _ => false) (fun _ _ => ⟨⟩) ⟨⟩ (fun _ _ _ _ => ⟨⟩)
noncomputable def vNat (k00 : IntKind) : Clo (Value → Option Nat) := ⟨@Value.rec (fun _ => Option Nat) (fun _ => PUnit) (fun _ => PUnit) (fun _ => none) (fun k n => ci (Nat.beq (kNo k00) (kNo k)) (iNat n) none) (fun _ _ => none) (fun _ _ _ => none) (fun _ => none) (fun _ => none) (fun _ _ _ => none) (fun _ => none) (fun _ => none) (fun _ _ _ _ _ => none) (none) (fun _ _ _ => none) (none) (fun _ _ => none) (fun _ _ => none) (fun _ _ => ⟨⟩) ⟨⟩ (fun _ _ _ _ => ⟨⟩)⟩
structure Row where
  c : List Value
  t : TypeId
  lo : Nat
  hi : Nat
  op : Bool
def oRow (x : Obj × Bool) : Option Row := match x with
  | (.cells ⟨c⟩ t (lo, hi), op) => some ⟨c, t, lo, hi, op⟩
  | _ => none
noncomputable def oN {α : Type} (o : Option α) {β : Type} (x : Option β) : Option β := @Option.rec α (fun _ => Option β) x (fun _ => none) o
/-- The row that an address points into. -/
noncomputable def krow (h : AH) (a : Addr) : Option Row := ob ((mget depth a.block).run h.t) oRow
noncomputable def kcell (h : AH) (a : Addr) : Option Value := ob (krow h a) fun r => oN a.spot ((lget a.off).run r.c)
noncomputable def kcells (h : AH) (n : Nat) (a : Addr) : Option (List Value) := ob (krow h a) fun r => oN a.spot ((ltake n).run ((ldrop a.off).run r.c))
/-- The parts of a memory; its base is reckoned at once (else each memory would hang on the one before). -/
noncomputable def kAH {α : Type} (h : AH) (f : Tr → Nat → Nat → α) : α := @AH.rec (fun _ => α) (fun t b n => @Nat.rec (fun _ => α) (f t 0 n) (fun m _ => f t (Nat.succ m) n) b) h
noncomputable def kpush (h : AH) (o : Obj) (op : Bool) : AH := kAH h fun t b n => ⟨(mset depth n).run t (some (o, op)), b, Nat.succ n⟩
/-- An operand. -/
noncomputable def kval : Operand → Clo (TT → Value)
  | .tmp t => tget 12 t
  | .const v => ⟨fun _ => v⟩
  | .global g => ⟨fun _ => .pointer (some ⟨g, 0, none⟩)⟩
  | .func f => ⟨fun _ => .func (.func f) #[] #[]⟩
noncomputable def kvalF (ts : TT) : Operand → Value := fun x => (kval x).run ts
abbrev KRead := Clo (TT → AH → Option Value)
/-- Reading: where the quick form does not know, the plain one. -/
noncomputable def kslow (P : Program) (o : Oper) : KRead := ⟨fun ts h => aread P o (kvalF ts) h⟩
noncomputable def knone : KRead := ⟨fun _ _ => none⟩
noncomputable def orElse {α : Type} (o p : Option α) : Option α := @Option.rec α (fun _ => Option α) p (fun v => some v) o
def isAggT : TypeDesc → Bool
  | .struct _ | .array _ _ => true
  | _ => false
/-- The program's tables, looked up quickly. -/
noncomputable def kinfo (P : Program) (t : TypeId) : Option TypeInfo := (lget t).run P.types.toList
noncomputable def kund (P : Program) (t : TypeId) : Option TypeDesc := ob (kinfo P t) fun i => match i.desc with
  | .named _ u => ob (kinfo P u) fun j => some j.desc
  | d => some d
noncomputable def llen {α : Type} : List α → Nat := @List.rec α (fun _ => Nat) 0 (fun _ _ ih => Nat.succ ih)
/-- A list laid over the head of a longer one. -/
noncomputable def lover : List Value → List Value → Option (List Value) := @List.rec Value (fun _ => List Value → Option (List Value)) (fun l => some l)
  (fun v _ ih => @List.rec Value (fun _ => Option (List Value)) none (fun _ t _ => ci (vOne v) (ob (ih t) fun r => some (v :: r)) none))
noncomputable def lputs : Nat → Clo (List Value → List Value → Option (List Value)) := @Nat.rec (fun _ => Clo (List Value → List Value → Option (List Value))) ⟨fun l x => lover x l⟩
  (fun _ ih => ⟨@List.rec Value (fun _ => List Value → Option (List Value)) (fun _ => none) (fun v t _ x => ob (ih.run t x) fun r => some (v :: r))⟩)
noncomputable def vcells (v : Value) : List Value := @Option.rec (Array Value) (fun _ => List Value) [v] (fun c => c.toList) (vAgg v)
def kLim : IntKind → Nat
  | .i8 => 128 | .i16 => 32768 | .i32 => 2147483648 | .i64 => 9223372036854775808 | .u8 => 256 | .u16 => 65536 | .u32 => 4294967296 | .u64 => 18446744073709551616
noncomputable def kload (P : Program) (t : TypeId) (x : Operand) : KRead :=
  match kund P t, kinfo P t with
  | some d, some i => ci (isAggT d) ⟨fun ts h => ob (vAddr ((kval x).run ts)) fun a => ob (kcells h i.size a) fun l => some (.agg ⟨l⟩)⟩ ⟨fun ts h => ob (vAddr ((kval x).run ts)) fun a => kcell h a⟩
  | _, _ => knone
noncomputable def kfieldAddr (P : Program) (o : Oper) (s : TypeId) (x : Operand) (f : Nat) : KRead :=
  match kund P s with
  | some (.struct fields) => match fields[f]? with
    | some fd => match kinfo P fd.type with
      | some i => ci (Nat.beq i.size 0) (kslow P o) (ci (Nat.beq fd.offset 0) ⟨fun ts _ => ob (vAddr ((kval x).run ts)) fun a => some (.pointer (some a))⟩
          ⟨fun ts _ => ob (vAddr ((kval x).run ts)) fun a => some (.pointer (some ⟨a.block, a.off + fd.offset, none⟩))⟩)
      | none => knone
    | none => knone
  | _ => knone
noncomputable def kindexAddr (P : Program) (o : Oper) (t : TypeId) (x ix : Operand) : KRead :=
  match kund P t with
  | some (.slice e) => match kinfo P e with
    | some i => ⟨fun ts _ => ob (vSl ((kval x).run ts)) fun s => ob ((vNat .i64).run ((kval ix).run ts)) fun n => ci (Nat.blt n s.l) (ob s.a fun a => oN a.spot (some (.pointer (some ⟨a.block, a.off + n * i.size, none⟩)))) none⟩
    | none => knone
  | some (.array len e) => match kinfo P e with
    | some i => ⟨fun ts _ => ob (vAddr ((kval x).run ts)) fun a => ob ((vNat .i64).run ((kval ix).run ts)) fun n => ci (Nat.blt n len) (oN a.spot (some (.pointer (some ⟨a.block, a.off + n * i.size, none⟩)))) none⟩
    | none => knone
  | _ => knone
/-- A part of an aggregate. -/
noncomputable def kpart (P : Program) (t : TypeId) (x : Operand) (off : Nat) : KRead :=
  match kund P t, kinfo P t with
  | some d, some i => ci (isAggT d) ⟨fun ts _ => ob (vAgg ((kval x).run ts)) fun c => ob ((ltake i.size).run ((ldrop off).run c.toList)) fun l => some (.agg ⟨l⟩)⟩ ⟨fun ts _ => ob (vAgg ((kval x).run ts)) fun c => (lget off).run c.toList⟩
  | _, _ => knone
noncomputable def kfield (P : Program) (s : TypeId) (x : Operand) (f : Nat) : KRead :=
  match kund P s with
  | some (.struct fields) => match fields[f]? with
    | some fd => kpart P fd.type x fd.offset
    | none => knone
  | _ => knone
noncomputable def kindex (P : Program) (o : Oper) (t : TypeId) (x ix : Operand) : KRead :=
  match kund P t with
  | some .string => ⟨fun ts _ => ob (vStr ((kval x).run ts)) fun s => ob ((vNat .i64).run ((kval ix).run ts)) fun n => ob ((lget n).run s.data.toList) fun b => some (.int .u8 b.toNat)⟩
  | some (.array len e) => match kund P e, kinfo P e with
    | some d, some i => ⟨fun ts _ => ob (vAgg ((kval x).run ts)) fun c => ob ((vNat .i64).run ((kval ix).run ts)) fun n => ci (Nat.blt n len)
        (ci (isAggT d) (ob ((ltake i.size).run ((ldrop (n * i.size)).run c.toList)) fun l => some (.agg ⟨l⟩)) ((lget (n * i.size)).run c.toList)) none⟩
    | _, _ => knone
  | _ => kslow P o
noncomputable def klen (P : Program) (o : Oper) (c : Call) : KRead :=
  match c.args.toList, c.argTypes.toList with
  | x :: _, t :: _ => match kund P t with
    | some (.slice _) => ⟨fun ts _ => ob (vSl ((kval x).run ts)) fun s => some (.int .i64 (.ofNat s.l))⟩
    | some .string => ⟨fun ts _ => ob (vStr ((kval x).run ts)) fun s => some (.int .i64 (.ofNat s.data.toList.length))⟩
    | _ => kslow P o
  | _, _ => kslow P o
noncomputable def kbound (x : Option Operand) (d : Nat) (ts : TT) : Option Nat :=
  @Option.rec Operand (fun _ => Option Nat) (some d) (fun x => (vNat .i64).run ((kval x).run ts)) x
noncomputable def kslice (P : Program) (o : Oper) (t : TypeId) (x : Operand) (lo hi : Option Operand) : KRead :=
  match kund P t with
  | some (.slice e) => match kinfo P e with
    | some i => ⟨fun ts _ => ob (vSl ((kval x).run ts)) fun s => ob (kbound hi s.l ts) fun h => ob (kbound lo 0 ts) fun l =>
        ci (Nat.ble h s.c) (ci (Nat.ble l h) (some (.slice (ci (Nat.beq s.c l) s.a (ob s.a fun a => some (a.add (l * i.size)))) (h - l) (s.c - l))) none) none⟩
    | none => knone
  | _ => kslow P o
def tyInt (d : Option TypeDesc) : Option IntKind := match d with
  | some (.int k) => some k
  | _ => none
noncomputable def kintOp (P : Program) (o : Oper) (k : IntKind) (op : BinOp) (x y : Operand) : KRead :=
  let two (f : Nat → Nat → Option Value) : KRead := ⟨fun ts h => orElse (ob ((vNat k).run ((kval x).run ts)) fun a => ob ((vNat k).run ((kval y).run ts)) fun b => f a b) ((kslow P o).run ts h)⟩
  match op with
  | .add => two fun a b => ci (Nat.blt (Nat.add a b) (kLim k)) (some (.int k (.ofNat (Nat.add a b)))) none
  | .sub => two fun a b => ci (Nat.ble b a) (ci (Nat.blt a (kLim k)) (some (.int k (.ofNat (Nat.sub a b)))) none) none
  | .mul => two fun a b => ci (Nat.blt (Nat.mul a b) (kLim k)) (some (.int k (.ofNat (Nat.mul a b)))) none
  | .eql => two fun a b => some (.bool (Nat.beq a b))
  | .neq => two fun a b => some (.bool (!(Nat.beq a b)))
  | .lss => two fun a b => some (.bool (Nat.blt a b))
  | .leq => two fun a b => some (.bool (Nat.ble a b))
  | .gtr => two fun a b => some (.bool (Nat.blt b a))
  | .geq => two fun a b => some (.bool (Nat.ble b a))
  | _ => kslow P o
noncomputable def kbinOp (P : Program) (o : Oper) (op : BinOp) (t : TypeId) (x y : Operand) : KRead :=
  match tyInt (kund P t) with
  | some k => kintOp P o k op x y
  | none => match op with
    | .eql => ⟨fun ts h => orElse (ob (aNilEq P t ((kval x).run ts) ((kval y).run ts)) fun b => some (.bool b)) (ob (aFlat P o (kvalF ts) h) fun z => valOf (some z.1))⟩
    | .neq => ⟨fun ts h => orElse (ob (aNilEq P t ((kval x).run ts) ((kval y).run ts)) fun b => some (.bool (!b))) (ob (aFlat P o (kvalF ts) h) fun z => valOf (some z.1))⟩
    | _ => ⟨fun ts h => ob (aFlat P o (kvalF ts) h) fun z => valOf (some z.1)⟩
noncomputable def kconvert (P : Program) (o : Oper) (src dst : TypeId) (x : Operand) : KRead :=
  match tyInt (kund P src), tyInt (kund P dst) with
  | some k, some l => ⟨fun ts h => orElse (ob ((vNat k).run ((kval x).run ts)) fun n => ci (Nat.blt n (kLim l)) (some (.int l (.ofNat n))) none) ((kslow P o).run ts h)⟩
  | _, _ => kslow P o
noncomputable def kvals : List Operand → Clo (TT → List Value) := @List.rec Operand (fun _ => Clo (TT → List Value)) ⟨fun _ => []⟩ (fun x _ ih => ⟨fun ts => (kval x).run ts :: ih.run ts⟩)
noncomputable def kmax (P : Program) (o : Oper) (c : Call) : KRead :=
  match c.args.toList, c.argTypes.toList with
  | [x, y], t :: _ => match tyInt (kund P t) with
    | some k => ⟨fun ts h => orElse (ob ((vNat k).run ((kval x).run ts)) fun a => ob ((vNat k).run ((kval y).run ts)) fun b => some (.int k (.ofNat (ci (Nat.blt a b) b a)))) ((kslow P o).run ts h)⟩
    | none => kslow P o
  | _, _ => kslow P o
/-- Where the parts of a struct lie, and how long they are. -/
noncomputable def kpl (P : Program) : List Field → Option (List (Nat × Nat)) := @List.rec Field (fun _ => Option (List (Nat × Nat))) (some []) (fun f _ ih => ob (kinfo P f.type) fun j => ob ih fun l => some ((f.offset, j.size) :: l))
noncomputable def kparts (pl : Nat → Option (Nat × Nat)) : List (Nat × Operand) → Clo (TT → List Value → Option (List Value)) :=
  @List.rec (Nat × Operand) (fun _ => Clo (TT → List Value → Option (List Value))) ⟨fun _ l => some l⟩ (fun p _ ih => match pl p.1 with
    | some (off, size) => ⟨fun ts l => ci (Nat.beq (llen (vcells ((kval p.2).run ts))) size) (ob ((lputs off).run l (vcells ((kval p.2).run ts))) fun l => ih.run ts l) none⟩
    | none => ⟨fun _ _ => none⟩)
noncomputable def kbuild (P : Program) (t : TypeId) (parts : List (Nat × Operand)) : KRead :=
  match kinfo P t with
  | some i => match i.zero with
    | some z => match kund P t with
      | some (.struct fields) => match kpl P fields.toList with
        | some ps => ⟨fun ts _ => ob ((kparts (fun i => (lget i).run ps) parts).run ts z.cells.toList) fun l => some (.agg ⟨l⟩)⟩
        | none => knone
      | some (.array _ e) => match kinfo P e with
        | some j => ⟨fun ts _ => ob ((kparts (fun i => some (i * j.size, j.size)) parts).run ts z.cells.toList) fun l => some (.agg ⟨l⟩)⟩
        | none => knone
      | _ => knone
    | none => knone
  | none => knone
/-- Operations that only read, or look at nothing. -/
noncomputable def kread (P : Program) (o : Oper) : KRead :=
  match o.op with
  | .move x | .assign x => ⟨fun ts _ => some ((kval x).run ts)⟩
  | .pick c a b => ⟨fun ts _ => ob (vBool ((kval c).run ts)) fun t => some (ci t ((kval a).run ts) ((kval b).run ts))⟩
  | .build t parts => kbuild P t parts.toList
  | .convert src dst x => kconvert P o src dst x
  | .makeFunc fn first captured => ci (fnOk fn) ⟨fun ts _ => some (.func fn ⟨(kvals first.toList).run ts⟩ ⟨(kvals captured.toList).run ts⟩)⟩ knone
  | .unOp .not _ x => ⟨fun ts _ => ob (vBool ((kval x).run ts)) fun b => some (.bool (!b))⟩
  | .load t x => kload P t x
  | .fieldAddr s x f => kfieldAddr P o s x f
  | .indexAddr t x ix => kindexAddr P o t x ix
  | .field s x f => kfield P s x f
  | .index t x ix => kindex P o t x ix
  | .extract x i => ⟨fun ts _ => ob (vTup ((kval x).run ts)) fun c => (lget i).run c.toList⟩
  | .makeInterface t x => match kund P t with
    | some (.interface _) => knone
    | some _ => ⟨fun ts _ => some (.iface t ((kval x).run ts))⟩
    | none => knone
  | .nilCheck x => ⟨fun ts _ => ci (vLive ((kval x).run ts)) (some ((kval x).run ts)) none⟩
  | .slice t x lo hi none => kslice P o t x lo hi
  | .binOp op t x y _ => kbinOp P o op t x y
  | .call c => match c.callee with
    | .builtin .len => klen P o c
    | .builtin .max => kmax P o c
    | _ => kslow P o
  | _ => kslow P o
end Go.Ab
