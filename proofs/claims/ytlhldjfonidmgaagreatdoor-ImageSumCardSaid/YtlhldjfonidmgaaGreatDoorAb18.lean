/- A region whose order is drawn: the checks; a frame run to its end over the abstract memory. -/
import Derived.Test.YtlhldjfonidmgaaGreatDoorAb16
namespace Go.Ab
set_option linter.unusedSimpArgs false
set_option linter.unusedVariables false
set_option linter.unusedSectionVars false
/-- Are two values the same? (Where it says yes they are.) -/
def veq : Nat → Value → Value → Bool
  | n + 1, .bool a, .bool b => a == b
  | n + 1, .int k a, .int l b => decide (k = l) && decide (a = b)
  | n + 1, .string a, .string b => decide (a = b)
  | n + 1, .pointer none, .pointer none => true
  | n + 1, .pointer (some ⟨a, i, none⟩), .pointer (some ⟨b, j, none⟩) => Nat.beq a b && Nat.beq i j
  | n + 1, .slice none l c, .slice none m d => Nat.beq l m && Nat.beq c d
  | n + 1, .slice (some ⟨a, i, none⟩) l c, .slice (some ⟨b, j, none⟩) m d => Nat.beq a b && Nat.beq i j && Nat.beq l m && Nat.beq c d
  | n + 1, .map none, .map none => true
  | n + 1, .map (some a), .map (some b) => Nat.beq a b
  | n + 1, .func (.func f) as bs, .func (.func g) cs ds => Nat.beq f g && Nat.beq as.size cs.size && (as.toList.zip cs.toList).all (fun x => veq n x.1 x.2) && Nat.beq bs.size ds.size && (bs.toList.zip ds.toList).all (fun x => veq n x.1 x.2)
  | n + 1, .nilFunc, .nilFunc => true
  | n + 1, .iface t v, .iface u w => Nat.beq t u && veq n v w
  | n + 1, .nilIface, .nilIface => true
  | n + 1, .agg as, .agg bs => Nat.beq as.size bs.size && (as.toList.zip bs.toList).all (fun x => veq n x.1 x.2)
  | n + 1, .tuple as, .tuple bs => Nat.beq as.size bs.size && (as.toList.zip bs.toList).all (fun x => veq n x.1 x.2)
  | _, _, _ => false
def prsOf (o : Oper) : List Nat := (o.after.toList.filter (Region.binds .any)).map (·.on)
def inL (n : Nat) (l : List Nat) : Bool := l.any (Nat.beq n)
/-- Of each operation: what comes ahead of it in every order. -/
def masks : List Oper → List Nat → List Nat
  | [], acc => acc
  | o :: l, acc => masks l (acc ++ [(prsOf o).foldl (fun m j => (m ||| (1 <<< j)) ||| acc.getD j 0) 0])
def ahead (mk : List Nat) (j i : Nat) : Bool := (mk.getD i 0).testBit j
/-- May an operand be looked at? -/
def okOperand (G : Nat) : Operand → Bool
  | .const v => isFlat 4 v
  | .global g => Nat.blt g G
  | _ => true
def okOper (G : Nat) (o : Oper) : Bool := o.op.operands.toList.all (okOperand G) && noSelect o.op
/-- A new block's address. -/
inductive Shape where
  | ptr
  | slice (n : Nat)
  | map
def Shape.val : Shape → Nat → Value
  | .ptr, i => .pointer (some ⟨i, 0, none⟩)
  | .slice n, i => .slice (some ⟨i, 0, none⟩) n n
  | .map, i => .map (some i)
/-- Operations that do nothing but make one new block. -/
def aFree (P : Program) (o : Oper) (ρ : Operand → Value) : Option (Obj × Shape) :=
  match o.op with
  | .alloc t => match P.info? t with
    | some i => match i.zero with
      | some z => if Nat.blt t P.types.size then some (.cells z.cells t (0, 0), .ptr) else none
      | none => none
    | none => none
  | .box t x => some (.cells (ρ x).cells t (0, 0), .ptr)
  | .buildSlice t len parts => match aBuildSlice P t len (parts.map fun (i, x) => (i, ρ x)).toList with
    | some (e, c) => some (.cells c e (0, 0), .slice len)
    | none => none
  | .makeMap _ none => some (.map #[] 0, .map)
  | _ => none
inductive Class where
  | read
  | free
  | chain
def classOf (P : Program) (o : Oper) : Class :=
  match o.op with
  | .alloc _ | .box _ _ | .buildSlice _ _ _ | .makeMap _ none => .free
  | .convert src dst _ => match P.underlying src, P.underlying dst with
    | some .string, some (.slice _) => .chain
    | _, _ => .read
  | _ => if readKind o.op || plainKind o.op then .read else .chain
def oeq : Obj → Obj → Bool
  | .cells a t (i, j), .cells b u (k, l) => Nat.beq t u && Nat.beq i k && Nat.beq j l && Nat.beq a.size b.size && (a.toList.zip b.toList).all (fun x => veq 8 x.1 x.2)
  | .map a k, .map b l => Nat.beq a.size 0 && Nat.beq b.size 0 && Nat.beq k l
  | _, _ => false
structure Rec where
  v : Value
  wr : Bool
  ts : Array Value
  new : Option (Nat × Obj)
/-- An order of the operations: all that can come before a link of the chain does. -/
def below (mk cs : List Nat) (i : Nat) : Nat := cs.countP fun j => ahead mk j i
def orderOf (P : Program) (ops : Array Oper) (mk : List Nat) : List Nat :=
  let l := ops.toList.zipIdx
  let cs := (l.filter fun x => match classOf P x.1 with | .chain => true | _ => false).map (·.2)
  (List.range (cs.length + 1)).flatMap fun k => (List.range ops.size).filter (fun i => !(inL i cs) && Nat.beq (below mk cs i) k) ++ ((cs[k]?).map fun j => [j]).getD []
def lexRun (P : Program) (ops : Array Oper) (D : Oper → (Operand → Value) → AH → Option (Value × AH)) : List (Nat × Oper) → Array Value → AH → Option (List Rec × List AH × Array Value)
  | [], ts, h => some ([], [h], ts)
  | (_, o) :: l, ts, h =>
    if Region.wanted o (yielded ops ts) then
      match classOf P o with
      | .read => match aread P o (evalT ts) h with
        | some v => match lexRun P ops D l (putT ts o.dst v) h with
          | some (rs, hs, te) => some (⟨v, false, ts, none⟩ :: rs, hs, te)
          | none => none
        | none => none
      | .free => match aFree P o (evalT ts), room h with
        | some (b, s), true => match lexRun P ops D l (putT ts o.dst (s.val h.next)) (h.push b false) with
          | some (rs, hs, te) => some (⟨s.val h.next, false, ts, some (h.next, b)⟩ :: rs, hs, te)
          | none => none
        | _, _ => none
      | .chain => match D o (evalT ts) h with
        | some (v, h1) => match lexRun P ops D l (putT ts o.dst v) h1 with
          | some (rs, hs, te) => some (⟨v, true, ts, none⟩ :: rs, h :: hs, te)
          | none => none
        | none => none
    else match lexRun P ops D l (putT ts o.dst undef) h with
      | some (rs, hs, te) => some (⟨undef, false, ts, none⟩ :: rs, hs, te)
      | none => none
/-- What the edges must bear, whatever the run. -/
def opsOk (G n : Nat) : List Oper → Nat → Bool
  | o :: l, i => okOper G o && (prsOf o).all (fun j => Nat.blt j i) && (match o.dst with
    | some d => Nat.blt d n
    | none => true) && opsOk G n l (i + 1)
  | [], _ => true
/-- Two operations, the first before the second in our order. -/
def pairOk (ops : Array Oper) (mk : List Nat) (x y : Nat × Oper) : Bool :=
  !(Nat.beq x.1 y.1) &&
  (match x.2.dst with
    | some d => (match y.2.dst with
      | some e => !(Nat.beq d e)
      | none => true) && (!(inL d (y.2.looksAt ops)) || ahead mk x.1 y.1)
    | none => true) &&
  (match y.2.dst with
    | some e => !(inL e (x.2.looksAt ops)) || ahead mk x.1 y.1
    | none => true)
def pairsOk (ops : Array Oper) (mk : List Nat) : List (Nat × Oper) → Bool
  | x :: l => l.all (pairOk ops mk x) && pairsOk ops mk l
  | [] => true
def statOk (G n : Nat) (ops : Array Oper) (mk od : List Nat) (l : List (Nat × Oper)) : Bool :=
  opsOk G n ops.toList 0 && (List.range ops.size).all (fun i => inL i od) && od.all (fun i => Nat.blt i ops.size) && pairsOk ops mk l
/-- The links of the chain. -/
def wsF : List (Nat × Oper) → List Rec → List Nat
  | (i, _) :: l, r :: rs => if r.wr then i :: wsF l rs else wsF l rs
  | _, _ => []
def chainOk (mk : List Nat) : List Nat → Bool
  | x :: y :: ws => ahead mk x y && chainOk mk (y :: ws)
  | _ => true
def loF (mk : List Nat) (i : Nat) : List Nat → Nat → Nat
  | x :: ws, a => if ahead mk x i then Nat.max (a + 1) (loF mk i ws (a + 1)) else loF mk i ws (a + 1)
  | [], _ => 0
def hiF (mk : List Nat) (i : Nat) : List Nat → Nat → Nat
  | x :: ws, a => if ahead mk i x then a else hiF mk i ws (a + 1)
  | [], a => a
/-- Kinds that look at no memory. -/
def noMem : Op → Bool
  | .move _ | .assign _ | .pick _ _ _ | .build _ _ | .nilCheck _ | .binOp _ _ _ _ _ | .unOp _ _ _ | .makeFunc _ _ _ => true
  | _ => false
def readOk (P : Program) (o : Oper) (r : Rec) (lo hi : Nat) (hs : List AH) : Bool :=
  noMem o.op || ((hs.drop lo).take (hi + 1 - lo)).all fun h => match aread P o (evalT r.ts) h with
    | some v => veq 8 v r.v
    | none => false
def freeOk (n : Nat) (b : Obj) (lo hi c : Nat) (hs : List AH) : Bool :=
  Nat.beq lo c && ((hs.drop lo).take (hi + 1 - lo)).all fun h => Nat.ble h.base n && match h.get n with
    | some (b', false) => oeq b' b
    | _ => false
/-- The new blocks' numbers go up. -/
def newOk : List Rec → Nat → Bool
  | r :: rs, n => match r.new with
    | some (m, _) => Nat.ble n m && newOk rs (m + 1)
    | none => newOk rs n
  | [], _ => true
def readsOk (P : Program) (ops : Array Oper) (mk ws : List Nat) (hs : List AH) : List (Nat × Oper) → List Rec → Nat → Bool
  | (i, o) :: l, r :: rs, c =>
    (if r.wr then readsOk P ops mk ws hs l rs (c + 1)
     else (!(Region.wanted o (yielded ops r.ts)) || match r.new with
       | some (n, b) => freeOk n b (loF mk i ws 0) (hiF mk i ws 0) c hs
       | none => readOk P o r (loF mk i ws 0) (hiF mk i ws 0) hs) && readsOk P ops mk ws hs l rs c)
  | _, _, _ => true
def lastH : List AH → Option AH
  | [] => none
  | [h] => some h
  | _ :: l => lastH l
def listed (ops : Array Oper) : List Nat → List (Nat × Oper)
  | [] => []
  | i :: l => match ops[i]? with
    | some o => (i, o) :: listed ops l
    | none => listed ops l
/-- A whole region of drawn order. -/
def aregion (P : Program) (G : Nat) (D : Oper → (Operand → Value) → AH → Option (Value × AH)) (ops : Array Oper) (ts : Array Value) (h : AH) : Option (Array Value × AH) :=
  let mk := masks ops.toList []
  let od := orderOf P ops mk
  let l := listed ops od
  if statOk G ts.size ops mk od l then
    match lexRun P ops D l ts h with
    | some (rs, hs, te) =>
      let ws := wsF l rs
      if chainOk mk ws && newOk rs h.next && readsOk P ops mk ws hs l rs 0 then
        match lastH hs with
        | some h' => some (te, h')
        | none => none
      else none
    | none => none
  else none
abbrev Run := Frame → AH → Option (Value × AH)
def opD (P : Program) (G : Nat) (orc : FuncId → Array Value → AH → Option (Option (Value × AH))) (rec : Run) (o : Oper) (ρ : Operand → Value) (h : AH) : Option (Value × AH) :=
  if okOper G o then
    match aop P o ρ h with
    | some (.value v, h') => some (v, h')
    | some (.skip, h') => some (undef, h')
    | some (.enter f as, h') => match orc f as h' with
      | some x => x
      | none => rec (Frame.enter P f as .normal) h'
    | some (.round l f ts a b, h') => rec (Frame.round l f ts a b .normal) h'
    | _ => none
  else none
def aresults (P : Program) (fn : Func) (tmps : Array Value) (h : AH) : Option Value := rrun P (results fn tmps) h
/-- A frame is left: by its end, or a jump. -/
def aleave (P : Program) (rec : Run) (fr : Frame) (jump : Option Code) (h : AH) : Option (Value × AH) :=
  match fr.roundOf with
  | none => match jump with
    | none | some .ret => rec { fr with mode := .returning } h
    | _ => none
  | some l => arun P (Instr.endRound l jump) h
def aback (P : Program) (rec : Run) (fr : Frame) (h : AH) : Option (Value × AH) :=
  match fr.defers with
  | [] => match P.funcs[fr.fn]? with
    | some fn => match aresults P fn fr.tmps h with
      | some v => some (v, h)
      | none => none
    | none => none
  | d :: ds => match d.target with
    | .collected b => match arun P (Instr.takeDeferred b) h with
      | some (calls, h') => rec { fr with defers := calls ++ ds } h'
      | none => none
    | .fn (.func g) captured => if bodied P g then
        match rec (Frame.enter P g (d.args ++ captured) .deferred) h with
        | some (_, h') => rec { fr with defers := ds } h'
        | none => none
      else none
    | _ => none
def astep (P : Program) (G : Nat) (orc : FuncId → Array Value → AH → Option (Option (Value × AH))) (rec : Run) (fr : Frame) (h : AH) : Option (Value × AH) :=
  match fr.mode with
  | .run => match fr.todo with
    | [] => aleave P rec fr none h
    | .code .ret :: _ => aleave P rec fr (some .ret) h
    | .code .skip :: k | .code (.label _) :: k | .inBlock _ :: k | .inScope _ :: k => rec { fr with todo := k } h
    | .code (.seq a b) :: k => rec { fr with todo := .code a :: .code b :: k } h
    | .code (.cond c thn els) :: k => match okOperand G c, evalT fr.tmps c with
      | true, .bool b => rec { fr with todo := .code (if b then thn else els) :: k } h
      | _, _ => none
    | .code (.block id body) :: k => rec { fr with todo := .code body :: .inBlock id :: k } h
    | .code (.loop body) :: k | .inLoop body :: k => rec { fr with todo := .code body :: .inLoop body :: k } h
    | .code (.scope body) :: k => rec { fr with todo := .code body :: .inScope body :: k } h
    | .code (.exit id) :: k => match exitTo id k with
      | some k' => rec { fr with todo := k' } h
      | none => aleave P rec fr (some (.exit id)) h
    | .code (.goto l) :: k => match gotoIn l k with
      | some k' => rec { fr with todo := k' } h
      | none => aleave P rec fr (some (.goto l)) h
    | .code (.region id ops draw) :: k =>
      if draw then match aregion P G (opD P G orc rec) ops fr.tmps h with
        | some (te, h') => rec { fr with todo := k, tmps := te } h'
        | none => none
      else rec { fr with todo := .inRegion ops (List.range ops.size) :: k } h
    | .inRegion _ [] :: k => rec { fr with todo := k } h
    | .inRegion ops (i :: l) :: k =>
      match ops[i]? with
      | none => none
      | some o =>
        if Region.wanted o (yielded ops fr.tmps) then
          match o.op with
          | .defer _ => match fr.roundOf, okOper G o, aop P o (evalT fr.tmps) h with
            | none, true, some (.defer d, h') => rec { fr with todo := .inRegion ops l :: k, tmps := putT fr.tmps o.dst undef, defers := d :: fr.defers } h'
            | _, _, _ => none
          | .call c => match c.callee with
            | .builtin .recover => match fr.roundOf with
              | none => rec { fr with todo := .inRegion ops l :: k, tmps := putT fr.tmps o.dst .nilIface } h
              | some _ => none
            | _ => match opD P G orc rec o (evalT fr.tmps) h with
              | some (v, h') => rec { fr with todo := .inRegion ops l :: k, tmps := putT fr.tmps o.dst v } h'
              | none => none
          | _ => match opD P G orc rec o (evalT fr.tmps) h with
            | some (v, h') => rec { fr with todo := .inRegion ops l :: k, tmps := putT fr.tmps o.dst v } h'
            | none => none
        else rec { fr with todo := .inRegion ops l :: k, tmps := putT fr.tmps o.dst undef } h
    | .code (.rangeFunc f params assign body) :: k =>
      match okOperand G f, arun P (Instr.enterLoop fr.fn fr.tmps params assign body fr.roundOf) h with
      | true, some ((l, mark), h') =>
        match evalT fr.tmps f with
        | .func (.func g) first captured => if bodied P g then
            match rec (Frame.enter P g ((first ++ #[.func (.yield l) #[] #[]]) ++ captured) .normal) h' with
            | some (_, h2) => rec { fr with todo := .endRangeFunc l :: k, defers := mark ++ fr.defers } h2
            | none => none
          else none
        | _ => none
      | _, _ => none
    | .beginRound :: k => match fr.roundOf with
      | some l => match arun P (Instr.beginRound l) h with
        | some (_, h') => rec { fr with todo := k } h'
        | none => none
      | none => none
    | .endRangeFunc l :: k => match arun P (Instr.endLoop l) h with
      | some (jump, h') => rec { fr with todo := (jump.map Item.code).toList ++ k } h'
      | none => none
    | _ => none
  | .returning => if fr.roundOf.isNone then aback P rec fr h else none
  | .panicking _ => none
def afr (P : Program) (G : Nat) (orc : FuncId → Array Value → AH → Option (Option (Value × AH))) : Nat → Run
  | 0 => fun _ _ => none
  | n + 1 => astep P G orc (afr P G orc n)
end Go.Ab
