/- The interpreter: operations, regions, code, calls. -/
import Derived.Test.YtdfkffmddgffkaaAi0
set_option linter.unusedVariables false
namespace Go.Ai

section
variable (P : Program) (call : FuncId → List AV → St → Option (AV × St))

def aBuiltin (b : Builtin) (argTypes : Array TypeId) (args : List AV) (s : St) : Option (AV × St) :=
  match b, args with
  | .append, [a, x] => aAppend P argTypes a x s
  | .copy, [a, x] => aCopy P argTypes a x s
  | .len, [x] => do some (← aLen P (← argTypes[0]?) x s, s)
  | .cap, [x] => do some (← aCap P (← argTypes[0]?) x, s)
  | .min, [.int k a, .int _ b] => some (.int k (if b < a then b else a), s)
  | .max, [.int k a, .int _ b] => some (.int k (if b > a then b else a), s)
  | _, _ => none

def isC : Operand → Bool
  | .const _ => true
  | _ => false

def aOp (o : Oper) (fr : List AV) (s : St) : Option (AV × St) :=
  match o.op with
  | .move x | .assign x => (aEval fr x).map (·, s)
  | .pick c a b => do
    let .bool t ← aEval fr c | none
    some (← aEval fr (if t then a else b), s)
  | .alloc t => aAlloc P t s
  | .box t x => do aNewVar (← aEval fr x) s
  | .build t parts => do
    let ps ← parts.toList.mapM fun (i, x) => (aEval fr x).map (i, ·)
    some (← aBuild P t ps, s)
  | .buildSlice t len parts => do
    let ps ← parts.toList.mapM fun (i, x) => (aEval fr x).map (i, ·)
    some (← aBuildSlice P t len ps, s)
  | .load t a => do some (← aLoad P t (← aEval fr a) s, s)
  | .store t a x => do some (.undef, ← aStore P t (← aEval fr a) (← aEval fr x) s)
  | .nilCheck x => do
    match ← aEval fr x with
    | .nilp | .nifc | .nilfn => none
    | v => some (v, s)
  | .binOp op t x y _ => do some (← aBinOp P op t (← aEval fr x) (← aEval fr y) (isC x) (isC y), s)
  | .unOp op _ x => do some (← aUnOp op (← aEval fr x), s)
  | .convert src dst x => do aConvert P src dst (← aEval fr x) s
  | .makeInterface t x => do
    match ← P.underlying t with
    | .interface _ => none
    | _ => some (.ifc t (← aEval fr x), s)
  | .makeFunc fn first captured => do
    match fn with
    | .func f => some (.fn f (← aEvals fr first.toList) (← aEvals fr captured.toList), s)
    | _ => none
  | .makeMap t none => some (.mp s.c, s.new (.map []))
  | .makeSlice t l c => do aMakeSlice P t (← aEval fr l) (← aEval fr c) s
  | .slice t x lo hi mx => do some (← aSlice P t (← aEval fr x) (← aEvalO fr lo) (← aEvalO fr hi) (← aEvalO fr mx) s, s)
  | .fieldAddr t x f => do some (← aFieldAddr P t (← aEval fr x) f, s)
  | .field t x f => do some (← aField P t (← aEval fr x) f, s)
  | .indexAddr t x i => do some (← aIndexAddr P t (← aEval fr x) (← aEval fr i), s)
  | .index t x i => do some (← aIndex P t (← aEval fr x) (← aEval fr i), s)
  | .lookup t x i ok => do some (← aLookup P t (← aEval fr x) (← aEval fr i) ok s, s)
  | .mapUpdate t m k x => do some (.undef, ← aMapUpdate P t (← aEval fr m) (← aEval fr k) (← aEval fr x) s)
  | .range t x => do
    match ← P.underlying t, ← aEval fr x with
    | .string, .str l => some (.ptr s.c 0, s.new (.siter l 0))
    | _, _ => none
  | .next it true => do
    match ← aEval fr it with
    | .ptr n 0 => aNext n s
    | _ => none
  | .typeAssert x xt t ok => do some (← aAssert P (← aEval fr x) t ok, s)
  | .extract t i => do
    match ← aEval fr t with
    | .tup vs => (vs[i]?).map (·, s)
    | _ => none
  | .call c => do
    let args ← aEvals fr c.args.toList
    match c.callee with
    | .builtin b => aBuiltin P b c.argTypes args s
    | .value f => do
      match ← aEval fr f with
      | .fn g first captured => call g (first ++ args ++ captured) s
      | _ => none
    | .invoke _ _ => none
  | _ => none

def aYield (ops : Array Oper) (fr : List AV) (j : Nat) : Option Bool :=
  match ((ops[j]?).bind (·.dst)).bind (fr[·]?) with
  | some (.bool b) => some b
  | _ => none

def aOps (ops : Array Oper) : List Oper → List AV → St → Option (List AV × St)
  | [], fr, s => some (fr, s)
  | o :: l, fr, s =>
    if Region.wanted o (aYield ops fr) then
      match aOp P call o fr s with
      | some (v, s') => aOps ops l (aPut fr o.dst v) s'
      | none => none
    else aOps ops l (aPut fr o.dst .undef) s

/-! ### A region that draws its order: in the text's order; whatever changes the state is ordered against all that looks at it. -/
/-- Does an operation look at the state? -/
def looks : Op → Bool
  | .alloc _ | .box _ _ | .load _ _ | .store _ _ _ | .convert _ _ _ | .makeMap _ _ | .makeSlice _ _ _ | .slice _ _ _ _ _ | .lookup _ _ _ _ | .mapUpdate _ _ _ _ | .range _ _ | .next _ _ | .call _ => true
  | _ => false
/-- May it change the state? -/
def convTurns (P : Program) (dst : TypeId) : Bool :=
  match P.underlying dst with
  | some (.slice _) => true
  | _ => false
def turns (P : Program) (prims : Prims) (fr : List AV) : Op → Bool
  | .convert _ dst _ => convTurns P dst
  | .load _ _ | .slice _ _ _ _ _ | .lookup _ _ _ _ => false
  | .call c =>
    match c.callee with
    | .builtin .len | .builtin .cap | .builtin .min | .builtin .max => false
    | .value f =>
      match aEval fr f with
      | some (.fn g _ _) => (prims g).isNone
      | _ => true
    | _ => true
  | op => looks op
def comparable (b : Array Nat) (i j : Nat) : Bool := (b.getD i 0).testBit j || (b.getD j 0).testBit i
def clash (ops : Array Oper) (b : Array Nat) (i : Nat) (o : Oper) : Bool :=
  match o.dst with
  | none => false
  | some d => (List.range ops.size).any fun j => j != i && !comparable b i j && match ops[j]? with
    | some p => (p.looksAt ops).contains d || p.dst == some d
    | none => false
/-- What the order's freedom asks of a region's text. -/
def drawOk (P : Program) (ops : Array Oper) : Bool :=
  let b := Region.before ops
  P.follows .mixedOrders && ops.toList.zipIdx.all fun (o, i) => !clash ops b i o && (o.after.all fun e => decide (e.on < i)) && (match o.op with | .select _ _ => false | _ => true)
def lone (ops : Array Oper) (b : Array Nat) (i : Nat) : Bool :=
  (List.range ops.size).all fun j => j == i || comparable b i j || match ops[j]? with
    | some p => !looks p.op
    | none => true
def aDraw (prims : Prims) (ops : Array Oper) (b : Array Nat) : List Nat → List AV → St → Option (List AV × St)
  | [], fr, s => some (fr, s)
  | i :: l, fr, s =>
    match ops[i]? with
    | none => none
    | some o =>
      if Region.wanted o (aYield ops fr) then
        if turns P prims fr o.op && !lone ops b i then none else
        match aOp P call o fr s with
        | some (v, s') => aDraw prims ops b l (aPut fr o.dst v) s'
        | none => none
      else aDraw prims ops b l (aPut fr o.dst .undef) s

def aCode (prims : Prims) : Nat → Code → List AV → St → Option (AExit × List AV × St)
  | 0, _, _, _ => none
  | n + 1, c, fr, s =>
    match c with
    | .skip => some (.normal, fr, s)
    | .region _ ops false => (aOps P call ops ops.toList fr s).map fun r => (.normal, r.1, r.2)
    | .region _ ops true => if drawOk P ops then (aDraw P call prims ops (Region.before ops) (List.range ops.size) fr s).map fun r => (.normal, r.1, r.2) else none
    | .seq a b =>
      match aCode prims n a fr s with
      | some (.normal, fr', s') => aCode prims n b fr' s'
      | r => r
    | .cond c a b =>
      match aEval fr c with
      | some (.bool true) => aCode prims n a fr s
      | some (.bool false) => aCode prims n b fr s
      | _ => none
    | .block id body =>
      match aCode prims n body fr s with
      | some (.exit id', fr', s') => some (if id' = id then .normal else .exit id', fr', s')
      | r => r
    | .loop body =>
      match aCode prims n body fr s with
      | some (.normal, fr', s') => aCode prims n (.loop body) fr' s'
      | r => r
    | .scope body => aCode prims n body fr s
    | .label _ => some (.normal, fr, s)
    | .exit id => some (.exit id, fr, s)
    | .ret => some (.ret, fr, s)
    | _ => none

def aResult (fr : List AV) (s : St) : ResultVar → Option AV
  | .tmp t => some (fr.getD t .undef)
  | .cell a t => aLoad P t (fr.getD a .undef) s
def aResults (fn : Func) (fr : List AV) (s : St) : Option AV := do
  match ← fn.results.toList.mapM (aResult P fr s) with
  | [v] => some v
  | vs => some (.tup vs)
def enters (fn : Func) : Bool := fn.name != "runtime.NumGoroutine" && fn.body.isSome
end

def aCall (P : Program) (prims : Prims) : Nat → FuncId → List AV → St → Option (AV × St)
  | 0, _, _, _ => none
  | n + 1, f, args, s =>
    match P.funcs[f]? with
    | none => none
    | some fn =>
      if enters fn then
        match prims f with
        | some p => callPrim p args s
        | none =>
          match fn.body with
          | none => none
          | some c =>
            match aCode P (aCall P prims n) prims n c (args ++ List.replicate (fn.ntmps - args.length) .undef) s with
            | some (.normal, fr, s') | some (.ret, fr, s') => do
              let v ← aResults P fn fr s'
              freezeTop s.c v s'
            | _ => none
      else none

end Go.Ai
