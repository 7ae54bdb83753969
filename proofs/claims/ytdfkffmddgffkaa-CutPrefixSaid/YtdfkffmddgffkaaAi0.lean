/- The abstract values and the abstract interpreter: a program's code run on values without memory. -/
import Derived.Calls
import Derived.Orders
import Derived.Below
set_option linter.unusedVariables false
namespace Go.Ai

inductive Cap where
  | tight
  | unk
  | tok (t : Nat)
  deriving DecidableEq

/-- Abstract values. k: the shape of a row's elements: 0: one cell, no struct; else structs (arrays) of k cells. -/
inductive AV where
  | int (k : IntKind) (n : Int)
  | bool (b : Bool)
  | str (s : List UInt8)
  | nilp
  | ptr (n off : Nat)
  | rptr (k : Nat) (xs : List AV) (i off : Nat)
  | nils
  | emp (z : Bool)
  | vec (k : Nat) (xs : List AV) (c : Cap)
  | hs (k n off len cap : Nat)
  | agg (cs : List AV)
  | tup (vs : List AV)
  | ifc (t : TypeId) (v : AV)
  | nifc
  | fn (f : FuncId) (first captured : List AV)
  | nilfn
  | mp (n : Nat)
  | nilmp
  | gptr (g off : Nat)

instance : Inhabited AV := ⟨.tup []⟩

abbrev AV.undef : AV := .tup []
def esz (k : Nat) : Nat := if k = 0 then 1 else k

inductive AO where
  | cells (cs : List AV)
  | tok
  | map (es : List (AV × AV))
  | siter (s : List UInt8) (pos : Nat)

structure St where
  h : List (Nat × AO)
  c : Nat
  low : Nat
  g : Nat → Option (List AV)

def hget : List (Nat × AO) → Nat → Option AO
  | [], _ => none
  | (m, o) :: h, n => if n = m then some o else hget h n
def hset : List (Nat × AO) → Nat → AO → List (Nat × AO)
  | [], _, _ => []
  | (m, o) :: h, n, o' => if n = m then (m, o') :: h else (m, o) :: hset h n o'
def hdel : List (Nat × AO) → Nat → List (Nat × AO)
  | [], _ => []
  | (m, o) :: h, n => if n = m then hdel h n else (m, o) :: hdel h n

def St.new (s : St) (o : AO) : St := { s with h := (s.c, o) :: s.h, c := s.c + 1 }
def St.put (s : St) (n : Nat) (o : AO) : St := { s with h := hset s.h n o, low := min s.low n }
def St.del (s : St) (n : Nat) : St := { s with h := hdel s.h n, low := min s.low n }

def AV.cells : AV → List AV
  | .agg cs => cs
  | v => [v]
def AV.one : AV → Bool
  | .agg _ | .tup _ => false
  | _ => true

/-! ### Constants and zero values -/
def ofCell : Value → Option AV
  | .bool b => some (.bool b)
  | .int k n => some (.int k n)
  | .string s => some (.str s.data.toList)
  | .pointer none => some .nilp
  | .slice none 0 0 => some .nils
  | .map none => some .nilmp
  | .nilFunc => some .nilfn
  | .nilIface => some .nifc
  | .func (.func f) first captured => if first.size = 0 ∧ captured.size = 0 then some (.fn f [] []) else none
  | _ => none
def ofVal : Value → Option AV
  | .agg cs => (cs.toList.mapM ofCell).map .agg
  | .tuple cs => if cs.size = 0 then some .undef else none
  | v => ofCell v

def aEval (fr : List AV) : Operand → Option AV
  | .tmp t => some (fr.getD t .undef)
  | .const v => ofVal v
  | .global g => some (.gptr g 0)
  | .func f => some (.fn f [] [])
def aEvals (fr : List AV) (xs : List Operand) : Option (List AV) := xs.mapM (aEval fr)
def aEvalO (fr : List AV) : Option Operand → Option (Option AV)
  | none => some none
  | some x => (aEval fr x).map some

def aPut (fr : List AV) (dst : Option Tmp) (v : AV) : List AV :=
  match dst with
  | some d => fr.set d v
  | none => fr

section
variable (P : Program)
def szT (t : TypeId) : Option Nat := (P.info? t).map (·.size)
def aggT (t : TypeId) : Option Bool :=
  match P.underlying t with
  | some (.struct _) | some (.array _ _) => some true
  | some _ => some false
  | none => none
/-- A type's shape as a row's elements. -/
def shapeT (t : TypeId) : Option Nat := do
  let z ← szT P t
  if ← aggT P t then (if z = 0 then none else some z) else (if z = 1 then some 0 else none)
def zeroT (t : TypeId) : Option AV := do
  let i ← P.info? t
  ofVal (← i.zero)

/-- A part of a struct's or an array's cells. -/
def aPart (t : TypeId) (cs : List AV) (off : Nat) : Option AV := do
  if ← aggT P t then
    let z ← szT P t
    if off + z ≤ cs.length then some (.agg ((cs.drop off).take z)) else none
  else cs[off]?

/-! ### Memory -/
def aLoad (t : TypeId) (a : AV) (s : St) : Option AV :=
  match a with
  | .ptr n off =>
    match hget s.h n with
    | some (.cells cs) => aPart P t cs off
    | _ => none
  | .rptr _ xs i off => do
    let x ← xs[i]?
    aPart P t x.cells off
  | .gptr g off => do
    let cs ← s.g g
    aPart P t cs off
  | _ => none
def splice (cs : List AV) (off : Nat) (vs : List AV) : List AV := cs.take off ++ vs ++ cs.drop (off + vs.length)
def aStoreAt (n off : Nat) (vs : List AV) (s : St) : Option St :=
  match hget s.h n with
  | some (.cells cs) => if off + vs.length ≤ cs.length ∧ vs.all AV.one then some (s.put n (.cells (splice cs off vs))) else none
  | _ => none
def aStore (t : TypeId) (a v : AV) (s : St) : Option St :=
  match a with
  | .ptr n off => if szT P t = some v.cells.length then aStoreAt n off v.cells s else none
  | _ => none
def aNewVar (v : AV) (s : St) : Option (AV × St) := if v.cells.all AV.one then some (.ptr s.c 0, s.new (.cells v.cells)) else none
def aAlloc (t : TypeId) (s : St) : Option (AV × St) := do aNewVar (← zeroT P t) s

/-! ### Rows -/
/-- The elements of a stretch of cells. -/
def chunk (k : Nat) (cs : List AV) : Nat → List AV
  | 0 => []
  | n + 1 => (if k = 0 then cs.headD .undef else .agg (cs.take k)) :: chunk k (cs.drop (esz k)) n
/-- A slice's elements. -/
def elems (x : AV) (s : St) : Option (Nat × List AV) :=
  match x with
  | .vec k xs _ => some (k, xs)
  | .hs k n off len _ =>
    match hget s.h n with
    | some (.cells cs) => if off + len * esz k ≤ cs.length then some (k, chunk k (cs.drop off) len) else none
    | _ => none
  | _ => none
/-- The elements that are appended or copied: a slice's, or a string's bytes. -/
def source (k : Nat) (x : AV) (s : St) : Option (List AV) :=
  match x with
  | .nils | .emp _ => some []
  | .str l => if k = 0 then some (l.map fun b => .int .u8 b.toNat) else none
  | x => do
    let (k', xs) ← elems x s
    if k' = k then some xs else none
/-- Few enough elements for every memory: n of so many bytes. -/
def roomy (n bytes : Nat) : Bool := decide (n ≤ 137438953472) && decide (n * bytes ≤ 137438953472)   -- 2^37
def aGrow (k bytes : Nat) (xs ys : List AV) (s : St) : Option (AV × St) :=
  if roomy (xs.length + ys.length) bytes then some (.vec k (xs ++ ys) (.tok s.c), s.new .tok) else none
def aAppend (argTypes : Array TypeId) (a x : AV) (s : St) : Option (AV × St) := do
  let t ← argTypes[0]?
  let .slice e ← P.underlying t | none
  let t1 ← argTypes[1]?
  match P.underlying t1 with
  | some (.int _) | none => none
  | _ =>
    let k ← shapeT P e
    let i ← P.info? e
    let z ← zeroT P e
    let ys ← source k x s
    if z.cells.length ≠ esz k then none else
    match a with
    | .nils => if ys.isEmpty then some (.nils, s) else aGrow k i.bytes [] ys s
    | .emp z => if ys.isEmpty then some (.emp z, s) else if z then aGrow k i.bytes [] ys s else none
    | .vec k' xs c =>
      if k' ≠ k then none else
      if ys.isEmpty then some (.vec k xs c, s) else
      match c with
      | .tight => aGrow k i.bytes xs ys s
      | .tok t => match hget s.h t with
        | some .tok => aGrow k i.bytes xs ys (s.del t)
        | _ => none
      | .unk => none
    | .hs k' n off len cap =>
      if k' ≠ k then none else
      if cap < len then none else
      if ys.isEmpty then some (a, s) else
      if len + ys.length ≤ cap then do
        let s' ← aStoreAt n (off + len * esz k) (ys.flatMap AV.cells) s
        some (.hs k n off (len + ys.length) cap, s')
      else do
        let (_, xs) ← elems a s
        aGrow k i.bytes xs ys s
    | _ => none
def aCopy (argTypes : Array TypeId) (a x : AV) (s : St) : Option (AV × St) := do
  let t ← argTypes[0]?
  let .slice e ← P.underlying t | none
  let k ← shapeT P e
  let ys ← source k x s
  match a with
  | .nils | .emp _ => some (.int .i64 0, s)
  | .hs k' n off len _ =>
    if k' ≠ k then none else
    let m := min ys.length len
    let s' ← aStoreAt n off ((ys.take m).flatMap AV.cells) s
    some (.int .i64 m, s')
  | _ => none
def aLen (t : TypeId) (x : AV) (s : St) : Option AV := do
  match ← P.underlying t, x with
  | .string, .str l => some (.int .i64 l.length)
  | .array n _, _ => some (.int .i64 n)
  | .slice _, .nils => some (.int .i64 0)
  | .slice _, .emp _ => some (.int .i64 0)
  | .slice _, .vec _ xs _ => some (.int .i64 xs.length)
  | .slice _, .hs _ _ _ len _ => some (.int .i64 len)
  | .map _ _, .nilmp => some (.int .i64 0)
  | .map _ _, .mp n => match hget s.h n with
    | some (.map es) => some (.int .i64 es.length)
    | _ => none
  | _, _ => none
def aCap (t : TypeId) (x : AV) : Option AV := do
  match ← P.underlying t, x with
  | .slice _, .nils => some (.int .i64 0)
  | .slice _, .vec _ xs .tight => some (.int .i64 xs.length)
  | .slice _, .hs _ _ _ _ cap => some (.int .i64 cap)
  | _, _ => none
def aInt : AV → Option Int
  | .int _ n => some n
  | _ => none
def aMakeSlice (t : TypeId) (l c : AV) (s : St) : Option (AV × St) := do
  let .slice e ← P.underlying t | none
  let i ← P.info? e
  let k ← shapeT P e
  let l ← aInt l
  let c ← aInt c
  let z ← zeroT P e
  if 0 ≤ l ∧ l ≤ c ∧ roomy c.toNat i.bytes ∧ z.cells.length = esz k ∧ z.cells.all AV.one ∧ i.size = esz k then
    some (.hs k s.c 0 l.toNat c.toNat, s.new (.cells ((List.replicate c.toNat z.cells).flatten)))
  else none
def bnd (x : Option AV) (d y : Nat) : Option Nat :=
  match x with
  | none => some d
  | some (.int _ i) => if 0 ≤ i ∧ i ≤ y then some i.toNat else none
  | _ => none
/-- Bounds of a slice expression: low, high, and the new capacity's end. -/
def bnds (len cap : Nat) (lo hi mx : Option AV) : Option (Nat × Nat × Nat) := do
  let m ← bnd mx cap cap
  if mx.isSome ∧ hi.isNone then none else
  let h ← bnd hi len m
  let l ← bnd lo 0 h
  some (l, h, m)
def aSlice (t : TypeId) (x : AV) (lo hi mx : Option AV) (s : St) : Option AV := do
  match ← P.underlying t, x with
  | .string, .str l =>
    if mx.isSome then none else
    let (a, b, _) ← bnds l.length l.length lo hi none
    some (.str ((l.take b).drop a))
  | .slice e, .nils => do
    let (_, _, _) ← bnds 0 0 lo hi mx
    let _ ← shapeT P e
    some .nils
  | .slice e, .emp z => do
    let (_, _, _) ← bnds 0 0 lo hi mx
    let _ ← shapeT P e
    some (.emp (z || mx.isSome))
  | .slice e, .vec k xs c => do
    let k' ← shapeT P e
    if k' ≠ k then none else
    let (a, b, m) ← bnds xs.length xs.length lo hi mx
    let c' : Cap := if mx.isSome then (if b = m then .tight else .unk)
      else if b = xs.length then (match c with
        | .tight => .tight
        | .unk => .unk
        | .tok t => if a < xs.length then .tok t else .unk)
      else .unk
    some (.vec k ((xs.take b).drop a) c')
  | .slice e, .hs k n off len cap => do
    let k' ← shapeT P e
    if k' ≠ k then none else
    let (a, b, m) ← bnds len cap lo hi mx
    if cap < len then none else
    some (.hs k n (if m = a then off else off + a * esz k) (b - a) (m - a))
  | .array n e, .ptr p off => do
    let k ← shapeT P e
    let (a, b, m) ← bnds n n lo hi mx
    some (.hs k p (if m = a then off else off + a * esz k) (b - a) (m - a))
  | _, _ => none
def aFieldAddr (t : TypeId) (x : AV) (f : Nat) : Option AV := do
  let .struct fs ← P.underlying t | none
  let f ← fs[f]?
  if (← szT P f.type) = 0 then none else
  match x with
  | .ptr n off => some (.ptr n (off + f.offset))
  | .gptr g off => some (.gptr g (off + f.offset))
  | .rptr k xs i off => if off + f.offset < esz k then some (.rptr k xs i (off + f.offset)) else none
  | _ => none
def aField (t : TypeId) (x : AV) (f : Nat) : Option AV := do
  let .struct fs ← P.underlying t | none
  let f ← fs[f]?
  match x with
  | .agg cs => aPart P f.type cs f.offset
  | _ => none
def aIndexAddr (t : TypeId) (x : AV) (i : AV) : Option AV := do
  let i ← aInt i
  match ← P.underlying t, x with
  | .array len e, .ptr n off => do
    let z ← szT P e
    if 0 ≤ i ∧ i < len then some (.ptr n (off + i.toNat * z)) else none
  | .array len e, .gptr g off => do
    let z ← szT P e
    if 0 ≤ i ∧ i < len then some (.gptr g (off + i.toNat * z)) else none
  | .array len e, .rptr k xs j off => do
    let z ← szT P e
    if 0 ≤ i ∧ i < len ∧ off + i.toNat * z < esz k then some (.rptr k xs j (off + i.toNat * z)) else none
  | .slice e, .vec k xs _ => do
    let k' ← shapeT P e
    if k' = k ∧ 0 ≤ i ∧ i < xs.length then some (.rptr k xs i.toNat 0) else none
  | .slice e, .hs k n off len _ => do
    let k' ← shapeT P e
    if k' = k ∧ 0 ≤ i ∧ i < len then some (.ptr n (off + i.toNat * esz k)) else none
  | _, _ => none
def aIndex (t : TypeId) (x : AV) (i : AV) : Option AV := do
  let i ← aInt i
  match ← P.underlying t, x with
  | .string, .str l => if 0 ≤ i then (l[i.toNat]?).map fun b => .int .u8 b.toNat else none
  | .array len e, .agg cs => do
    let z ← szT P e
    if 0 ≤ i ∧ i < len then aPart P e cs (i.toNat * z) else none
  | _, _ => none

/-! ### Structs and literals -/
def aFill (place : Nat → Option (Nat × Nat)) (cells : List AV) : List (Nat × AV) → Option (List AV)
  | [] => some cells
  | (i, v) :: rest => do
    let (off, size) ← place i
    if v.cells.length ≠ size ∨ off + size > cells.length then none else
    aFill place (splice cells off v.cells) rest
def aBuild (t : TypeId) (parts : List (Nat × AV)) : Option AV := do
  let z ← zeroT P t
  match ← P.underlying t with
  | .struct fs => do
    let places ← fs.toList.mapM fun f => (szT P f.type).map fun z => (f.offset, z)
    (aFill (places[·]?) z.cells parts).map .agg
  | .array _ e => do
    let size ← szT P e
    (aFill (fun i => some (i * size, size)) z.cells parts).map .agg
  | _ => none
def aBuildSlice (t : TypeId) (len : Nat) (parts : List (Nat × AV)) : Option AV := do
  let .slice e ← P.underlying t | none
  let k ← shapeT P e
  let i ← P.info? e
  if len * esz k > 16777216 ∨ i.size ≠ esz k then none else
  let z ← zeroT P e
  if z.cells.length ≠ esz k then none else
  let cs ← aFill (fun i => some (i * esz k, esz k)) ((List.replicate len z.cells).flatten) parts
  if cs.all AV.one ∧ cs.length = len * esz k then some (.vec k (chunk k cs len) .tight) else none

/-! ### Operators -/
def cmpB (op : BinOp) (eq lt : Bool) : Option AV :=
  match op with
  | .eql => some (.bool eq)
  | .neq => some (.bool !eq)
  | .lss => some (.bool lt)
  | .leq => some (.bool (lt || eq))
  | .gtr => some (.bool !(lt || eq))
  | .geq => some (.bool !lt)
  | _ => none
def aIntOp (op : BinOp) (k : IntKind) (a b : Int) : Option AV :=
  match op with
  | .add => some (.int k (k.wrap (a + b)))
  | .sub => some (.int k (k.wrap (a - b)))
  | .mul => some (.int k (k.wrap (a * b)))
  | .quo => if b = 0 then none else some (.int k (k.wrap (a.tdiv b)))
  | .rem => if b = 0 then none else some (.int k (a.tmod b))
  | .and => some (.int k (k.wrap (BitVec.ofInt k.bits a &&& BitVec.ofInt k.bits b).toNat))
  | .or => some (.int k (k.wrap (BitVec.ofInt k.bits a ||| BitVec.ofInt k.bits b).toNat))
  | .xor => some (.int k (k.wrap (BitVec.ofInt k.bits a ^^^ BitVec.ofInt k.bits b).toNat))
  | .andNot => some (.int k (k.wrap (BitVec.ofInt k.bits a &&& ~~~ BitVec.ofInt k.bits b).toNat))
  | .eql => some (.bool (a == b))
  | .neq => some (.bool (a != b))
  | .lss => some (.bool (a < b))
  | .leq => some (.bool (a ≤ b))
  | .gtr => some (.bool (a > b))
  | .geq => some (.bool (a ≥ b))
  | _ => none
def aShift (op : BinOp) (k : IntKind) (a b : Int) : Option AV :=
  if b < 0 then none else
  match op with
  | .shl => some (.int k (k.wrap (a * 2 ^ (min b.toNat k.bits))))
  | .shr => some (.int k (a.fdiv (2 ^ (min b.toNat k.bits))))
  | _ => none
/-- Is a value of this type nil? -/
def nilAs (d : TypeDesc) (x : AV) : Option Bool :=
  match d, x with
  | .pointer _, .nilp => some true
  | .pointer _, .ptr _ _ | .pointer _, .rptr _ _ _ _ => some false
  | .slice _, .nils => some true
  | .slice _, .vec _ _ _ | .slice _, .hs _ _ _ _ _ => some false
  | .map _ _, .nilmp => some true
  | .map _ _, .mp _ => some false
  | .func _ _ _, .nilfn => some true
  | .func _ _ _, .fn _ _ _ => some false
  | .interface _, .nifc => some true
  | .interface _, .ifc _ _ => some false
  | _, _ => none
def isIfc : TypeDesc → Bool
  | .interface _ => true
  | _ => false
/-- One of the two is nil. (Two nils of an interface type: one of them is written so.) -/
def aNilEq (t : TypeId) (x y : AV) (c : Bool) : Option Bool := do
  let d ← P.underlying t
  let a ← nilAs d x
  let b ← nilAs d y
  if a || b then (if a && b && (isIfc d && !c) then none else some (a && b)) else none
def aBinOp (op : BinOp) (t : TypeId) (x y : AV) (cx cy : Bool) : Option AV :=
  match op, x, y with
  | .shl, .int k a, .int _ b | .shr, .int k a, .int _ b => aShift op k a b
  | op, .int k a, .int k' b => if k = k' then aIntOp op k a b else none
  | .add, .str a, .str b => if (a.length + b.length : Int) > 9223372036854775807 then none else some (.str (a ++ b))
  | op, .str a, .str b => cmpB op (a == b) (Op.bytesLess a b)
  | .eql, .bool a, .bool b => match P.underlying t with | some .bool => some (.bool (a == b)) | _ => none
  | .neq, .bool a, .bool b => match P.underlying t with | some .bool => some (.bool (a != b)) | _ => none
  | .eql, x, y => (aNilEq P t x y (cx || cy)).map .bool
  | .neq, x, y => (aNilEq P t x y (cx || cy)).map fun b => .bool !b
  | _, _, _ => none
def aUnOp (op : UnOp) (x : AV) : Option AV :=
  match op, x with
  | .neg, .int k n => some (.int k (k.wrap (0 - n)))
  | .xor, .int k n => aIntOp .xor k (if k.signed then -1 else k.max) n
  | .not, .bool b => some (.bool !b)
  | _, _ => none
def bytesOf : List AV → Option (List UInt8)
  | [] => some []
  | .int .u8 n :: l => (bytesOf l).map (UInt8.ofNat n.toNat :: ·)
  | _ => none
def aConvert (src dst : TypeId) (x : AV) (s : St) : Option (AV × St) := do
  match ← P.underlying src, ← P.underlying dst, x with
  | _, .int k, .int _ n => some (.int k (k.wrap n), s)
  | _, .string, .int _ n => some (.str (Utf8.encode n).data.toList, s)
  | _, .string, .str l => some (.str l, s)
  | _, .slice e, .str l =>
    match P.underlying e with
    | some (.int .u8) => if roomy l.length 1 then some (.vec 0 (l.map fun b => .int .u8 b.toNat) (.tok s.c), s.new .tok) else none
    | _ => none
  | .slice e, .string, x =>
    match P.underlying e with
    | some (.int .u8) => match x with
      | .nils | .emp _ => some (.str [], s)
      | x => do
        let (k, xs) ← elems x s
        if k = 0 then (bytesOf xs).map fun l => (.str l, s) else none
    | _ => none
  | _, _, _ => none

/-! ### Maps -/
def keyEq (x y : AV) : Option Bool :=
  match x, y with
  | .int k a, .int k' b => if k = k' then some (a == b) else none
  | .str a, .str b => some (a == b)
  | .bool a, .bool b => some (a == b)
  | _, _ => none
def mfind (k : AV) : List (AV × AV) → Option (Option AV)
  | [] => some none
  | (x, v) :: es => match keyEq k x with
    | some true => some (some v)
    | some false => mfind k es
    | none => none
def mset (k v : AV) : List (AV × AV) → Option (List (AV × AV))
  | [] => some [(k, v)]
  | (x, u) :: es => match keyEq k x with
    | some true => some ((k, v) :: es)
    | some false => (mset k v es).map ((x, u) :: ·)
    | none => none
/-- A key of a type that compares at once. -/
def keyKind (d : TypeDesc) (k : AV) : Bool :=
  match d, k with
  | .int _, .int _ _ => true
  | .string, .str _ => true
  | .bool, .bool _ => true
  | _, _ => false
def mapEnts (x : AV) (s : St) : Option (List (AV × AV)) :=
  match x with
  | .nilmp => some []
  | .mp n => match hget s.h n with
    | some (.map es) => some es
    | _ => none
  | _ => none
def aLookup (t : TypeId) (x k : AV) (ok : Bool) (s : St) : Option AV := do
  let .map kt e ← P.underlying t | none
  let d ← P.underlying kt
  if !keyKind d k then none else
  let z ← zeroT P e
  let es ← mapEnts x s
  let r ← mfind k es
  let v := r.getD z
  some (if ok then .tup [v, .bool r.isSome] else v)
def aMapUpdate (t : TypeId) (m k v : AV) (s : St) : Option St := do
  let .map kt _ ← P.underlying t | none
  let d ← P.underlying kt
  if !keyKind d k then none else
  match m with
  | .mp n => match hget s.h n with
    | some (.map es) => (mset k v es).map fun es' => s.put n (.map es')
    | _ => none
  | _ => none

def aAssert (x : AV) (asserted : TypeId) (ok : Bool) : Option AV := do
  match ← P.underlying asserted, x with
  | .interface _, _ => none
  | _, .nifc => if ok then (zeroT P asserted).map fun z => .tup [z, .bool false] else none
  | _, .ifc t v => if t = asserted then some (if ok then .tup [v, .bool true] else v) else if ok then (zeroT P asserted).map fun z => .tup [z, .bool false] else none
  | _, _ => none

def aNext (n : Nat) (s : St) : Option (AV × St) :=
  match hget s.h n with
  | some (.siter l pos) =>
    if pos < l.length then
      let r := Utf8.decode ⟨l.toArray⟩ pos
      some (.tup [.bool true, .int .i64 pos, .int .i32 r.1], s.put n (.siter l (pos + r.2)))
    else some (.tup [.bool false], s)
  | _ => none
end

/-! ### Results: slices of memory that the call made become rows -/
def freezeV (c0 : Nat) (s : St) : AV → Option AV
  | .hs k n off len cap => if n < c0 then some (.hs k n off len cap) else if cap < len then none else (elems (.hs k n off len cap) s).map fun x => .vec x.1 x.2 (if len = cap then .tight else .unk)
  | v => some v
def frozenNames (c0 : Nat) : AV → List Nat
  | .hs _ n _ _ _ => if n < c0 then [] else [n]
  | _ => []
def freezeTop (c0 : Nat) (v : AV) (s : St) : Option (AV × St) :=
  match v with
  | .tup vs => do
    let us ← vs.mapM (freezeV c0 s)
    some (.tup us, (vs.flatMap (frozenNames c0)).foldl St.del s)
  | .agg vs => do
    let us ← vs.mapM (freezeV c0 s)
    some (.agg us, (vs.flatMap (frozenNames c0)).foldl St.del s)
  | v => do
    let u ← freezeV c0 s v
    some (u, (frozenNames c0 v).foldl St.del s)

/-! ### The interpreter -/
inductive AExit where
  | normal
  | exit (id : Nat)
  | ret
  deriving DecidableEq

/-- What is known of functions: what they answer to rows without names. -/
abbrev Glob := Nat → Option (List AV)
abbrev Prims := FuncId → Option (Glob → List AV → Option AV)

mutual
/-- A value without names. -/
def pureV : AV → Bool
  | .int _ _ | .bool _ | .str _ | .nilp | .nils | .emp _ | .nifc | .nilfn | .nilmp | .gptr _ _ => true
  | .ptr _ _ | .hs _ _ _ _ _ | .mp _ => false
  | .rptr _ xs _ _ => pureL xs
  | .vec _ xs c => (match c with | .tok _ => false | _ => true) && pureL xs
  | .agg xs => pureL xs
  | .tup xs => pureL xs
  | .ifc _ x => pureV x
  | .fn _ xs ys => pureL xs && pureL ys
def pureL : List AV → Bool
  | [] => true
  | x :: xs => pureV x && pureL xs
end
mutual
/-- A value without the room that its rows own. -/
def stripV : AV → AV
  | .vec k xs c => if xs.isEmpty then .emp false else .vec k (stripL xs) .unk
  | .rptr k xs i off => .rptr k (stripL xs) i off
  | .agg xs => .agg (stripL xs)
  | .tup xs => .tup (stripL xs)
  | .ifc t x => .ifc t (stripV x)
  | .fn f xs ys => .fn f (stripL xs) (stripL ys)
  | .int k n => .int k n
  | .bool b => .bool b
  | .str s => .str s
  | .nilp => .nilp
  | .ptr n off => .ptr n off
  | .nils => .emp false
  | .emp z => .emp false
  | .gptr g off => .gptr g off
  | .hs k n off len cap => .hs k n off len cap
  | .nifc => .nifc
  | .nilfn => .nilfn
  | .mp n => .mp n
  | .nilmp => .nilmp
def stripL : List AV → List AV
  | [] => []
  | x :: xs => stripV x :: stripL xs
end
/-- A value as a callee that only looks sees it: no names. 'true': memory that may turn was looked into. -/
def view (s : St) (x : AV) : Option (AV × Bool) :=
  match x with
  | .hs k n off len cap =>
    match elems (.hs k n off len cap) s with
    | some (_, xs) => if pureV (stripV (.vec k xs .unk)) && decide (len ≤ cap) then some (stripV (.vec k xs .unk), true) else none
    | none => none
  | .ptr n off =>
    match hget s.h n with
    | some (.cells cs) => if off < cs.length && pureL (stripL cs) then some (.rptr cs.length [.agg (stripL cs)] 0 off, true) else none
    | _ => none
  | v => if pureV (stripV v) then some (stripV v, false) else none
/-- A value that no memory bears. -/
def flat : AV → Bool
  | .int _ _ | .bool _ | .str _ | .nilp | .nils | .emp _ | .nifc | .nilfn | .nilmp | .gptr _ _ => true
  | _ => false
def solid : AV → Bool
  | .tup vs => vs.all flat
  | .agg vs => vs.all flat
  | v => flat v
def callPrim (p : Glob → List AV → Option AV) (args : List AV) (s : St) : Option (AV × St) := do
  let vs ← args.mapM (view s)
  let r ← p s.g (vs.map (·.1))
  if vs.any (·.2) && !solid r then none else some (r, s)

def heapOp : Op → Bool
  | .move _ | .assign _ | .pick _ _ _ | .build _ _ | .binOp _ _ _ _ _ | .unOp _ _ _ | .makeInterface _ _ | .makeFunc _ _ _ | .fieldAddr _ _ _ | .field _ _ _ | .index _ _ _ | .extract _ _ | .nilCheck _ => false
  | _ => true

end Go.Ai
