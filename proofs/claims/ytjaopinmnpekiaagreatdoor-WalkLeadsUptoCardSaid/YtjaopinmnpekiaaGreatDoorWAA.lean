/- My own texts DevAi0, DevAi1, DevAi2, DevAi3, DevAi4, DevAi5, DevAi6, DevAi7, one behind the other. -/
import Derived.Calls
import Derived.Orders
import Derived.Below
import Derived.Laws.Cells
import Derived.Laws.World
import Derived.Laws.Rows
import Derived.Laws.CopyRow
import Derived.Laws.Entries
import Derived.ChangeKeysEq
import Derived.Lib.Props
set_option linter.unusedVariables false
set_option linter.unusedSimpArgs false
section
namespace Go.Ai
theorem oB {α β:Type _} {o:Option α} {f:α→Option β} {b:β}:o.bind f=some b↔∃a,o=some a∧f a=some b:=Option.bind_eq_some_iff
theorem oC {α β:Type _} (f:α→Option β) (o:Option α):(o >>=f)=o.bind f:=rfl
theorem lM {α:Type _} (y:α) {a:α} {l:List α} (h:a∈l):a∈y::l:=List.mem_cons_of_mem y h
theorem oi {α:Type} {a b:α} (h:some a=some b):a=b:=Option.some.inj h

inductive Cap where
 | tight
 | unk
 | tok (t:Nat)
 deriving DecidableEq

inductive AV where
 | int (k:IntKind) (n:Int)
 | bool (b:Bool)
 | str (s:List UInt8)
 | nilp
 | ptr (n off:Nat)
 | rptr (k:Nat) (xs:List AV) (i off:Nat)
 | nils
 | emp (z:Bool)
 | vec (k:Nat) (xs:List AV) (c:Cap)
 | hs (k n off len cap:Nat)
 | agg (cs:List AV)
 | tup (vs:List AV)
 | ifc (t:TypeId) (v:AV)
 | nifc
 | fn (f:FuncId) (first captured:List AV)
 | nilfn
 | mp (n:Nat)
 | nilmp
 | gptr (g off:Nat)


abbrev AV.undef:AV:= .tup []
def esz (k:Nat):Nat:=if k=0 then 1 else k

inductive AO where
 | cells (cs:List AV)
 | tok
 | map (es:List (AV×AV))
 | siter (s:List UInt8) (pos:Nat)
 | tc (t:TypeId) (cs:List AV)
 | mapb (es:List (AV×AV)) (bs:List Nat) (clock:Nat)
 | miter (m since:Nat) (seen:List Nat) (last:Nat)

structure St where
 h:List (Nat×AO)
 c:Nat
 low:Nat
 g:Nat→Option (List AV)

def hget:List (Nat×AO)→Nat→Option AO
 | [],_=>none
 | (m,o)::h,n=>if n=m then some o else hget h n
def hset:List (Nat×AO)→Nat→AO→List (Nat×AO)
 | [],_,_=>[]
 | (m,o)::h,n,o' =>if n=m then(m,o')::h else(m,o)::hset h n o'
def hdel:List (Nat×AO)→Nat→List (Nat×AO)
 | [],_=>[]
 | (m,o)::h,n=>if n=m then hdel h n else(m,o)::hdel h n

def St.new (s:St) (o:AO):St:={s with h:=(s.c,o)::s.h,c:=s.c+1}
def St.put (s:St) (n:Nat) (o:AO):St:={s with h:=hset s.h n o,low:=min s.low n}
def St.del (s:St) (n:Nat):St:={s with h:=hdel s.h n,low:=min s.low n}

def AV.cells:AV→List AV
 | .agg cs=>cs
 | v=>[v]
def AV.one:AV→Bool
 | .agg _ | .tup _=>false
 | _=>true

/-! ### Constants and zero values -/
def ZLw:Value→Option AV
 | .bool b=>some (.bool b)
 | .int k n=>some (.int k n)
 | .string s=>some (.str s.data.toList)
 | .pointer none=>some .nilp
 | .slice none 0 0=>some .nils
 | .map none=>some .nilmp
 | .nilFunc=>some .nilfn
 | .nilIface=>some .nifc
 | .func (.func f) first captured=>if first.size=0∧captured.size=0 then some (.fn f [] []) else none
 | _=>none
def ZLx:Value→Option AV
 | .agg cs=>(cs.toList.mapM ZLw).map .agg
 | .tuple cs=>if cs.size=0 then some .undef else none
 | v=>ZLw v

def ZAp (fr:List AV):Operand→Option AV
 | .tmp t=>some (fr.getD t .undef)
 | .const v=>ZLx v
 | .global g=>some (.gptr g 0)
 | .func f=>some (.fn f [] [])
def ZBq (fr:List AV) (xs:List Operand):Option (List AV):=xs.mapM (ZAp fr)
def ZEU (fr:List AV):Option Operand→Option (Option AV)
 | none=>some none
 | some x=>(ZAp fr x).map some

def aPut (fr:List AV) (dst:Option Tmp) (v:AV):List AV:=
 match dst with
 | some d=>fr.set d v
 | none=>fr

section
variable (P:Program)
def szT (t:TypeId):Option Nat:=(P.info? t).map (·.size)
def aggT (t:TypeId):Option Bool:=
 match P.underlying t with
 | some (.struct _) | some (.array _ _)=>some true
 | some _=>some false
 | none=>none
def ZBF (t:TypeId):Option Nat:=do
 let z ←szT P t
 if ←aggT P t then(if z=0 then none else some z) else(if z=1 then some 0 else none)
def ZBM (t:TypeId):Option AV:=do
 let i ←P.info? t
 ZLx (←i.zero)

def ZEx (t:TypeId) (cs:List AV) (off:Nat):Option AV:=do
 if ←aggT P t then
  let z ←szT P t
  if off+z≤cs.length then some (.agg ((cs.drop off).take z)) else none
 else cs[off]?

/-! ### Memory -/
def ZEy (t:TypeId) (a:AV) (s:St):Option AV:=
 match a with
 | .ptr n off=>
  match hget s.h n with
  | some (.cells cs)=>ZEx P t cs off
  | _=>none
 | .rptr _ xs i off=>do
  let x ←xs[i]?
  ZEx P t x.cells off
 | .gptr g off=>do
  let cs ←s.g g
  ZEx P t cs off
 | _=>none
def ZBC (cs:List AV) (off:Nat) (vs:List AV):List AV:=cs.take off++vs++cs.drop (off+vs.length)
def ZBu (n off:Nat) (vs:List AV) (s:St):Option St:=
 match hget s.h n with
 | some (.cells cs)=>if off+vs.length≤cs.length∧vs.all AV.one then some (s.put n (.cells (ZBC cs off vs))) else none
 | _=>none
def ZED (t:TypeId) (a v:AV) (s:St):Option St:=
 match a with
 | .ptr n off=>if szT P t=some v.cells.length then ZBu n off v.cells s else none
 | _=>none
def ZC6 (v:AV) (s:St):Option (AV×St):=if v.cells.all AV.one then some (.ptr s.c 0,s.new (.cells v.cells)) else none
def ZIi (t:TypeId) (s:St):Option (AV×St):=do ZC6 (←ZBM P t) s

/-! ### Rows -/
def ZC2 (k:Nat) (cs:List AV):Nat→List AV
 | 0=>[]
 | n+1=>(if k=0 then cs.headD .undef else .agg (cs.take k))::ZC2 k (cs.drop (esz k)) n
def elems (x:AV) (s:St):Option (Nat×List AV):=
 match x with
 | .vec k xs _=>some (k,xs)
 | .hs k n off len _=>
  match hget s.h n with
  | some (.cells cs)=>if off+len*esz k≤cs.length then some (k,ZC2 k (cs.drop off) len) else none
  | _=>none
 | _=>none
def ZEE (k:Nat) (x:AV) (s:St):Option (List AV):=
 match x with
 | .nils | .emp _=>some []
 | .str l=>if k=0 then some (l.map fun b=> .int .u8 b.toNat) else none
 | x=>do
  let(k',xs) ←elems x s
  if k' =k then some xs else none
def ZES (n bytes : Nat) : Bool := decide (n ≤ 137438953472) && decide (n * bytes ≤ 137438953472)   -- 2^37
def ZFo (k bytes:Nat) (xs ys:List AV) (s:St):Option (AV×St):=
 if ZES (xs.length+ys.length) bytes then some (.vec k (xs++ys) (.tok s.c),s.new .tok) else none
def ZC7 (argTypes:Array TypeId) (a x:AV) (s:St):Option (AV×St):=do
 let t ←argTypes[0]?
 let .slice e ←P.underlying t | none
 let t1 ←argTypes[1]?
 match P.underlying t1 with
 | some (.int _) | none=>none
 | _=>
  let k ←ZBF P e
  let i ←P.info? e
  let z ←ZBM P e
  let ys ←ZEE k x s
  if z.cells.length≠esz k then none else
  match a with
  | .nils=>if ys.isEmpty then some (.nils,s) else ZFo k i.bytes [] ys s
  | .emp z=>if ys.isEmpty then some (.emp z,s) else if z then ZFo k i.bytes [] ys s else none
  | .vec k' xs c=>
   if k' ≠k then none else
   if ys.isEmpty then some (.vec k xs c,s) else
   match c with
   | .tight=>ZFo k i.bytes xs ys s
   | .tok t=>match hget s.h t with
    | some .tok=>ZFo k i.bytes xs ys (s.del t)
    | _=>none
   | .unk=>none
  | .hs k' n off len cap=>
   if k' ≠k then none else
   if cap<len then none else
   if ys.isEmpty then some (a,s) else
   if len+ys.length≤cap then do
    let s' ←ZBu n (off+len*esz k) (ys.flatMap AV.cells) s
    some (.hs k n off (len+ys.length) cap,s')
   else do
    let(_,xs) ←elems a s
    ZFo k i.bytes xs ys s
  | _=>none
def ZSV (argTypes:Array TypeId) (a x:AV) (s:St):Option (AV×St):=do
 let t ←argTypes[0]?
 let .slice e ←P.underlying t | none
 let k ←ZBF P e
 let ys ←ZEE k x s
 match a with
 | .nils | .emp _=>some (.int .i64 0,s)
 | .hs k' n off len _=>
  if k' ≠k then none else
  let m:=min ys.length len
  let s' ←ZBu n off ((ys.take m).flatMap AV.cells) s
  some (.int .i64 m,s')
 | _=>none
def aLen (t:TypeId) (x:AV) (s:St):Option AV:=do
 match ←P.underlying t,x with
 | .string, .str l=>some (.int .i64 l.length)
 | .array n _,_=>some (.int .i64 n)
 | .slice _, .nils=>some (.int .i64 0)
 | .slice _, .emp _=>some (.int .i64 0)
 | .slice _, .vec _ xs _=>some (.int .i64 xs.length)
 | .slice _, .hs _ _ _ len _=>some (.int .i64 len)
 | .map _ _, .nilmp=>some (.int .i64 0)
 | .map _ _, .mp n=>match hget s.h n with
  | some (.map es)=>some (.int .i64 es.length)
  | _=>none
 | _,_=>none
def aCap (t:TypeId) (x:AV):Option AV:=do
 match ←P.underlying t,x with
 | .slice _, .nils=>some (.int .i64 0)
 | .slice _, .vec _ xs .tight=>some (.int .i64 xs.length)
 | .slice _, .hs _ _ _ _ cap=>some (.int .i64 cap)
 | _,_=>none
def aInt:AV→Option Int
 | .int _ n=>some n
 | _=>none
def ZGS (t:TypeId) (l c:AV) (s:St):Option (AV×St):=do
 let .slice e ←P.underlying t | none
 let i ←P.info? e
 let k ←ZBF P e
 let l ←aInt l
 let c ←aInt c
 let z ←ZBM P e
 if 0≤l∧l≤c∧ZES c.toNat i.bytes∧z.cells.length=esz k∧z.cells.all AV.one∧i.size=esz k then
  some (.hs k s.c 0 l.toNat c.toNat,s.new (.cells ((List.replicate c.toNat z.cells).flatten)))
 else none
def bnd (x:Option AV) (d y:Nat):Option Nat:=
 match x with
 | none=>some d
 | some (.int _ i)=>if 0≤i∧i≤y then some i.toNat else none
 | _=>none
def bnds (len cap:Nat) (lo hi mx:Option AV):Option (Nat×Nat×Nat):=do
 let m ←bnd mx cap cap
 if mx.isSome∧hi.isNone then none else
 let h ←bnd hi len m
 let l ←bnd lo 0 h
 some (l,h,m)
def ZEz (t:TypeId) (x:AV) (lo hi mx:Option AV) (s:St):Option AV:=do
 match ←P.underlying t,x with
 | .string, .str l=>
  if mx.isSome then none else
  let(a,b,_) ←bnds l.length l.length lo hi none
  some (.str ((l.take b).drop a))
 | .slice e, .nils=>do
  let(_,_,_) ←bnds 0 0 lo hi mx
  let _ ←ZBF P e
  some .nils
 | .slice e, .emp z=>do
  let(_,_,_) ←bnds 0 0 lo hi mx
  let _ ←ZBF P e
  some (.emp (z || mx.isSome))
 | .slice e, .vec k xs c=>do
  let k' ←ZBF P e
  if k' ≠k then none else
  let(a,b,m) ←bnds xs.length xs.length lo hi mx
  let c' :Cap:=if mx.isSome then(if b=m then .tight else .unk)
   else if b=xs.length then(match c with
    | .tight=> .tight
    | .unk=> .unk
    | .tok t=>if a<xs.length then .tok t else .unk)
   else .unk
  some (.vec k ((xs.take b).drop a) c')
 | .slice e, .hs k n off len cap=>do
  let k' ←ZBF P e
  if k' ≠k then none else
  let(a,b,m) ←bnds len cap lo hi mx
  if cap<len then none else
  some (.hs k n (if m=a then off else off+a*esz k) (b - a) (m - a))
 | .array n e, .ptr p off=>do
  let k ←ZBF P e
  let(a,b,m) ←bnds n n lo hi mx
  some (.hs k p (if m=a then off else off+a*esz k) (b - a) (m - a))
 | _,_=>none
def ZCc (t:TypeId) (x:AV) (f:Nat):Option AV:=do
 let .struct fs ←P.underlying t | none
 let f ←fs[f]?
 if(←szT P f.type)=0 then none else
 match x with
 | .ptr n off=>some (.ptr n (off+f.offset))
 | .gptr g off=>some (.gptr g (off+f.offset))
 | .rptr k xs i off=>if off+f.offset<esz k then some (.rptr k xs i (off+f.offset)) else none
 | _=>none
def ZOb (t:TypeId) (x:AV) (f:Nat):Option AV:=do
 let .struct fs ←P.underlying t | none
 let f ←fs[f]?
 match x with
 | .agg cs=>ZEx P f.type cs f.offset
 | _=>none
def ZD5 (t:TypeId) (x:AV) (i:AV):Option AV:=do
 let i ←aInt i
 match ←P.underlying t,x with
 | .array len e, .ptr n off=>do
  let z ←szT P e
  if 0≤i∧i<len then some (.ptr n (off+i.toNat*z)) else none
 | .array len e, .gptr g off=>do
  let z ←szT P e
  if 0≤i∧i<len then some (.gptr g (off+i.toNat*z)) else none
 | .array len e, .rptr k xs j off=>do
  let z ←szT P e
  if 0≤i∧i<len∧off+i.toNat*z<esz k then some (.rptr k xs j (off+i.toNat*z)) else none
 | .slice e, .vec k xs _=>do
  let k' ←ZBF P e
  if k' =k∧0≤i∧i<xs.length then some (.rptr k xs i.toNat 0) else none
 | .slice e, .hs k n off len _=>do
  let k' ←ZBF P e
  if k' =k∧0≤i∧i<len then some (.ptr n (off+i.toNat*esz k)) else none
 | _,_=>none
def ZOc (t:TypeId) (x:AV) (i:AV):Option AV:=do
 let i ←aInt i
 match ←P.underlying t,x with
 | .string, .str l=>if 0≤i then(l[i.toNat]?).map fun b=> .int .u8 b.toNat else none
 | .array len e, .agg cs=>do
  let z ←szT P e
  if 0≤i∧i<len then ZEx P e cs (i.toNat*z) else none
 | _,_=>none

/-! ### Structs and literals -/
def ZGq (place:Nat→Option (Nat×Nat)) (cells:List AV):List (Nat×AV)→Option (List AV)
 | []=>some cells
 | (i,v)::rest=>do
  let(off,size) ←place i
  if v.cells.length≠size∨off+size > cells.length then none else
  ZGq place (ZBC cells off v.cells) rest
def ZLy (t:TypeId) (parts:List (Nat×AV)):Option AV:=do
 let z ←ZBM P t
 match ←P.underlying t with
 | .struct fs=>do
  let places ←fs.toList.mapM fun f=>(szT P f.type).map fun z=>(f.offset,z)
  (ZGq (places[·]?) z.cells parts).map .agg
 | .array _ e=>do
  let size ←szT P e
  (ZGq (fun i=>some (i*size,size)) z.cells parts).map .agg
 | _=>none
def ZC8 (t:TypeId) (len:Nat) (parts:List (Nat×AV)):Option AV:=do
 let .slice e ←P.underlying t | none
 let k ←ZBF P e
 let i ←P.info? e
 if len*esz k > 16777216∨i.size≠esz k then none else
 let z ←ZBM P e
 if z.cells.length≠esz k then none else
 let cs ←ZGq (fun i=>some (i*esz k,esz k)) ((List.replicate len z.cells).flatten) parts
 if cs.all AV.one∧cs.length=len*esz k then some (.vec k (ZC2 k cs len) .tight) else none

/-! ### Operators -/
def cmpB (op:BinOp) (eq lt:Bool):Option AV:=
 match op with
 | .eql=>some (.bool eq)
 | .neq=>some (.bool !eq)
 | .lss=>some (.bool lt)
 | .leq=>some (.bool (lt || eq))
 | .gtr=>some (.bool !(lt || eq))
 | .geq=>some (.bool !lt)
 | _=>none
def ZIj (op:BinOp) (k:IntKind) (a b:Int):Option AV:=
 match op with
 | .add=>some (.int k (k.wrap (a+b)))
 | .sub=>some (.int k (k.wrap (a - b)))
 | .mul=>some (.int k (k.wrap (a*b)))
 | .quo=>if b=0 then none else some (.int k (k.wrap (a.tdiv b)))
 | .rem=>if b=0 then none else some (.int k (a.tmod b))
 | .and=>some (.int k (k.wrap (BitVec.ofInt k.bits a &&& BitVec.ofInt k.bits b).toNat))
 | .or=>some (.int k (k.wrap (BitVec.ofInt k.bits a ||| BitVec.ofInt k.bits b).toNat))
 | .xor=>some (.int k (k.wrap (BitVec.ofInt k.bits a ^^^ BitVec.ofInt k.bits b).toNat))
 | .andNot=>some (.int k (k.wrap (BitVec.ofInt k.bits a &&& ~~~ BitVec.ofInt k.bits b).toNat))
 | .eql=>some (.bool (a==b))
 | .neq=>some (.bool (a !=b))
 | .lss=>some (.bool (a<b))
 | .leq=>some (.bool (a≤b))
 | .gtr=>some (.bool (a > b))
 | .geq=>some (.bool (a≥b))
 | _=>none
def ZIk (op:BinOp) (k:IntKind) (a b:Int):Option AV:=
 if b<0 then none else
 match op with
 | .shl=>some (.int k (k.wrap (a*2 ^ (min b.toNat k.bits))))
 | .shr=>some (.int k (a.fdiv (2 ^ (min b.toNat k.bits))))
 | _=>none
def ZIl (d:TypeDesc) (x:AV):Option Bool:=
 match d,x with
 | .pointer _, .nilp=>some true
 | .pointer _, .ptr _ _ | .pointer _, .rptr _ _ _ _=>some false
 | .slice _, .nils=>some true
 | .slice _, .vec _ _ _ | .slice _, .hs _ _ _ _ _=>some false
 | .map _ _, .nilmp=>some true
 | .map _ _, .mp _=>some false
 | .func _ _ _, .nilfn=>some true
 | .func _ _ _, .fn _ _ _=>some false
 | .interface _, .nifc=>some true
 | .interface _, .ifc _ _=>some false
 | _,_=>none
def ZNP:TypeDesc→Bool
 | .interface _=>true
 | _=>false
def ZHH (t:TypeId) (x y:AV) (c:Bool):Option Bool:=do
 let d ←P.underlying t
 let a ←ZIl d x
 let b ←ZIl d y
 if a || b then(if a && b && (ZNP d && !c) then none else some (a && b)) else none
def ZC4 (op:BinOp) (t:TypeId) (x y:AV) (cx cy:Bool):Option AV:=
 match op,x,y with
 | .shl, .int k a, .int _ b | .shr, .int k a, .int _ b=>ZIk op k a b
 | op, .int k a, .int k' b=>if k=k' then ZIj op k a b else none
 | .add, .str a, .str b=>if(a.length+b.length:Int) > 9223372036854775807 then none else some (.str (a++b))
 | op, .str a, .str b=>cmpB op (a==b) (Op.bytesLess a b)
 | .eql, .bool a, .bool b=>match P.underlying t with | some .bool=>some (.bool (a==b)) | _=>none
 | .neq, .bool a, .bool b=>match P.underlying t with | some .bool=>some (.bool (a !=b)) | _=>none
 | .eql,x,y=>(ZHH P t x y (cx || cy)).map .bool
 | .neq,x,y=>(ZHH P t x y (cx || cy)).map fun b=> .bool !b
 | _,_,_=>none
def ZQP (op:UnOp) (x:AV):Option AV:=
 match op,x with
 | .neg, .int k n=>some (.int k (k.wrap (0 - n)))
 | .xor, .int k n=>ZIj .xor k (if k.signed then -1 else k.max) n
 | .not, .bool b=>some (.bool !b)
 | _,_=>none
def ZIm:List AV→Option (List UInt8)
 | []=>some []
 | .int .u8 n::l=>(ZIm l).map (UInt8.ofNat n.toNat::·)
 | _=>none
def ZFL (src dst:TypeId) (x:AV) (s:St):Option (AV×St):=do
 match ←P.underlying src,←P.underlying dst,x with
 | _, .int k, .int _ n=>some (.int k (k.wrap n),s)
 | _, .string, .int _ n=>some (.str (Utf8.encode n).data.toList,s)
 | _, .string, .str l=>some (.str l,s)
 | _, .slice e, .str l=>
  match P.underlying e with
  | some (.int .u8)=>if ZES l.length 1 then some (.vec 0 (l.map fun b=> .int .u8 b.toNat) (.tok s.c),s.new .tok) else none
  | _=>none
 | .slice e, .string,x=>
  match P.underlying e with
  | some (.int .u8)=>match x with
   | .nils | .emp _=>some (.str [],s)
   | x=>do
    let(k,xs) ←elems x s
    if k=0 then(ZIm xs).map fun l=>(.str l,s) else none
  | _=>none
 | _,_,_=>none

/-! ### Maps -/
def ZPd (x y:AV):Option Bool:=
 match x,y with
 | .int k a, .int k' b=>if k=k' then some (a==b) else none
 | .str a, .str b=>some (a==b)
 | .bool a, .bool b=>some (a==b)
 | _,_=>none
def ZIP (k:AV):List (AV×AV)→Option (Option AV)
 | []=>some none
 | (x,v)::es=>match ZPd k x with
  | some true=>some (some v)
  | some false=>ZIP k es
  | none=>none
def mset (k v:AV):List (AV×AV)→Option (List (AV×AV))
 | []=>some [(k,v)]
 | (x,u)::es=>match ZPd k x with
  | some true=>some ((k,v)::es)
  | some false=>(mset k v es).map ((x,u)::·)
  | none=>none
def ZB5 (d:TypeDesc) (k:AV):Bool:=
 match d,k with
 | .int _, .int _ _=>true
 | .string, .str _=>true
 | .bool, .bool _=>true
 | _,_=>false
def ZFq (x:AV) (s:St):Option (List (AV×AV)):=
 match x with
 | .nilmp=>some []
 | .mp n=>match hget s.h n with
  | some (.map es)=>some es
  | _=>none
 | _=>none
def ZFr (t:TypeId) (x k:AV) (ok:Bool) (s:St):Option AV:=do
 let .map kt e ←P.underlying t | none
 let d ←P.underlying kt
 if !ZB5 d k then none else
 let z ←ZBM P e
 let es ←ZFq x s
 let r ←ZIP k es
 let v:=r.getD z
 some (if ok then .tup [v, .bool r.isSome] else v)
def ZE0 (t:TypeId) (m k v:AV) (s:St):Option St:=do
 let .map kt _ ←P.underlying t | none
 let d ←P.underlying kt
 if !ZB5 d k then none else
 match m with
 | .mp n=>match hget s.h n with
  | some (.map es)=>(mset k v es).map fun es' =>s.put n (.map es')
  | _=>none
 | _=>none

def ZGr (x:AV) (asserted:TypeId) (ok:Bool):Option AV:=do
 match ←P.underlying asserted,x with
 | .interface _,_=>none
 | _, .nifc=>if ok then(ZBM P asserted).map fun z=> .tup [z, .bool false] else none
 | _, .ifc t v=>if t=asserted then some (if ok then .tup [v, .bool true] else v) else if ok then(ZBM P asserted).map fun z=> .tup [z, .bool false] else none
 | _,_=>none

def ZQQ (n:Nat) (s:St):Option (AV×St):=
 match hget s.h n with
 | some (.siter l pos)=>
  if pos<l.length then
   let r:=Utf8.decode ⟨l.toArray⟩ pos
   some (.tup [.bool true, .int .i64 pos, .int .i32 r.1],s.put n (.siter l (pos+r.2)))
  else some (.tup [.bool false],s)
 | _=>none
end

/-! ### Results: slices of memory that the call made become rows -/
def ZDj (c0:Nat) (s:St):AV→Option AV
 | .hs k n off len cap=>if n<c0 then some (.hs k n off len cap) else if cap<len then none else(elems (.hs k n off len cap) s).map fun x=> .vec x.1 x.2 (if len=cap then .tight else .unk)
 | v=>some v
def ZA8 (c0:Nat):AV→List Nat
 | .hs _ n _ _ _=>if n<c0 then[] else[n]
 | _=>[]
def ZDT (c0:Nat) (v:AV) (s:St):Option (AV×St):=
 match v with
 | .tup vs=>do
  let us ←vs.mapM (ZDj c0 s)
  some (.tup us,(vs.flatMap (ZA8 c0)).foldl St.del s)
 | .agg vs=>do
  let us ←vs.mapM (ZDj c0 s)
  some (.agg us,(vs.flatMap (ZA8 c0)).foldl St.del s)
 | v=>do
  let u ←ZDj c0 s v
  some (u,(ZA8 c0 v).foldl St.del s)

/-! ### The interpreter -/
inductive AExit where
 | normal
 | exit (id:Nat)
 | ret
 deriving DecidableEq

abbrev Glob:=Nat→Option (List AV)
abbrev Prims:=FuncId→Option (Glob→List AV→Option AV)

mutual
def ZB6:AV→Bool
 | .int _ _ | .bool _ | .str _ | .nilp | .nils | .emp _ | .nifc | .nilfn | .nilmp | .gptr _ _=>true
 | .ptr _ _ | .hs _ _ _ _ _ | .mp _=>false
 | .rptr _ xs _ _=>ZCR xs
 | .vec _ xs c=>(match c with | .tok _=>false | _=>true) && ZCR xs
 | .agg xs=>ZCR xs
 | .tup xs=>ZCR xs
 | .ifc _ x=>ZB6 x
 | .fn _ xs ys=>ZCR xs && ZCR ys
def ZCR:List AV→Bool
 | []=>true
 | x::xs=>ZB6 x && ZCR xs
end
mutual
def ZAv:AV→AV
 | .vec k xs c=>if xs.isEmpty then .emp false else .vec k (ZA9 xs) .unk
 | .rptr k xs i off=> .rptr k (ZA9 xs) i off
 | .agg xs=> .agg (ZA9 xs)
 | .tup xs=> .tup (ZA9 xs)
 | .ifc t x=> .ifc t (ZAv x)
 | .fn f xs ys=> .fn f (ZA9 xs) (ZA9 ys)
 | .int k n=> .int k n
 | .bool b=> .bool b
 | .str s=> .str s
 | .nilp=> .nilp
 | .ptr n off=> .ptr n off
 | .nils=> .emp false
 | .emp z=> .emp false
 | .gptr g off=> .gptr g off
 | .hs k n off len cap=> .hs k n off len cap
 | .nifc=> .nifc
 | .nilfn=> .nilfn
 | .mp n=> .mp n
 | .nilmp=> .nilmp
def ZA9:List AV→List AV
 | []=>[]
 | x::xs=>ZAv x::ZA9 xs
end
def view (s:St) (x:AV):Option (AV×Bool):=
 match x with
 | .hs k n off len cap=>
  match elems (.hs k n off len cap) s with
  | some (_,xs)=>if ZB6 (ZAv (.vec k xs .unk)) && decide (len≤cap) then some (ZAv (.vec k xs .unk),true) else none
  | none=>none
 | .ptr n off=>
  match hget s.h n with
  | some (.cells cs)=>if off<cs.length && ZCR (ZA9 cs) then some (.rptr cs.length [.agg (ZA9 cs)] 0 off,true) else none
  | _=>none
 | v=>if ZB6 (ZAv v) then some (ZAv v,false) else none
def flat:AV→Bool
 | .int _ _ | .bool _ | .str _ | .nilp | .nils | .emp _ | .nifc | .nilfn | .nilmp | .gptr _ _=>true
 | _=>false
def ZQR:AV→Bool
 | .tup vs=>vs.all flat
 | .agg vs=>vs.all flat
 | v=>flat v
def ZBc (p:Glob→List AV→Option AV) (args:List AV) (s:St):Option (AV×St):=do
 let vs ←args.mapM (view s)
 let r ←p s.g (vs.map (·.1))
 if vs.any (·.2) && !ZQR r then none else some (r,s)


end Go.Ai
end
section
namespace Go.Ai

section
variable (P:Program) (call:FuncId→List AV→St→Option (AV×St))

def ZCI (b:Builtin) (argTypes:Array TypeId) (args:List AV) (s:St):Option (AV×St):=
 match b,args with
 | .append,[a,x]=>ZC7 P argTypes a x s
 | .copy,[a,x]=>ZSV P argTypes a x s
 | .len,[x]=>do some (←aLen P (←argTypes[0]?) x s,s)
 | .cap,[x]=>do some (←aCap P (←argTypes[0]?) x,s)
 | .min,[.int k a, .int _ b]=>some (.int k (if b<a then b else a),s)
 | .max,[.int k a, .int _ b]=>some (.int k (if b > a then b else a),s)
 | _,_=>none

def isC:Operand→Bool
 | .const _=>true
 | _=>false

def aOp (o:Oper) (fr:List AV) (s:St):Option (AV×St):=
 match o.op with
 | .move x | .assign x=>(ZAp fr x).map (·,s)
 | .pick c a b=>do
  let .bool t ←ZAp fr c | none
  some (←ZAp fr (if t then a else b),s)
 | .alloc t=>ZIi P t s
 | .box t x=>do ZC6 (←ZAp fr x) s
 | .build t parts=>do
  let ps ←parts.toList.mapM fun(i,x)=>(ZAp fr x).map (i,·)
  some (←ZLy P t ps,s)
 | .buildSlice t len parts=>do
  let ps ←parts.toList.mapM fun(i,x)=>(ZAp fr x).map (i,·)
  some (←ZC8 P t len ps,s)
 | .load t a=>do some (←ZEy P t (←ZAp fr a) s,s)
 | .store t a x=>do some (.undef,←ZED P t (←ZAp fr a) (←ZAp fr x) s)
 | .nilCheck x=>do
  match ←ZAp fr x with
  | .nilp | .nifc | .nilfn=>none
  | v=>some (v,s)
 | .binOp op t x y _=>do some (←ZC4 P op t (←ZAp fr x) (←ZAp fr y) (isC x) (isC y),s)
 | .unOp op _ x=>do some (←ZQP op (←ZAp fr x),s)
 | .convert src dst x=>do ZFL P src dst (←ZAp fr x) s
 | .makeInterface t x=>do
  match ←P.underlying t with
  | .interface _=>none
  | _=>some (.ifc t (←ZAp fr x),s)
 | .makeFunc fn first captured=>do
  match fn with
  | .func f=>some (.fn f (←ZBq fr first.toList) (←ZBq fr captured.toList),s)
  | _=>none
 | .makeMap t none=>some (.mp s.c,s.new (.map []))
 | .makeSlice t l c=>do ZGS P t (←ZAp fr l) (←ZAp fr c) s
 | .slice t x lo hi mx=>do some (←ZEz P t (←ZAp fr x) (←ZEU fr lo) (←ZEU fr hi) (←ZEU fr mx) s,s)
 | .fieldAddr t x f=>do some (←ZCc P t (←ZAp fr x) f,s)
 | .field t x f=>do some (←ZOb P t (←ZAp fr x) f,s)
 | .indexAddr t x i=>do some (←ZD5 P t (←ZAp fr x) (←ZAp fr i),s)
 | .index t x i=>do some (←ZOc P t (←ZAp fr x) (←ZAp fr i),s)
 | .lookup t x i ok=>do some (←ZFr P t (←ZAp fr x) (←ZAp fr i) ok s,s)
 | .mapUpdate t m k x=>do some (.undef,←ZE0 P t (←ZAp fr m) (←ZAp fr k) (←ZAp fr x) s)
 | .range t x=>do
  match ←P.underlying t,←ZAp fr x with
  | .string, .str l=>some (.ptr s.c 0,s.new (.siter l 0))
  | _,_=>none
 | .next it true=>do
  match ←ZAp fr it with
  | .ptr n 0=>ZQQ n s
  | _=>none
 | .typeAssert x xt t ok=>do some (←ZGr P (←ZAp fr x) t ok,s)
 | .extract t i=>do
  match ←ZAp fr t with
  | .tup vs=>(vs[i]?).map (·,s)
  | _=>none
 | .call c=>do
  let args ←ZBq fr c.args.toList
  match c.callee with
  | .builtin b=>ZCI P b c.argTypes args s
  | .value f=>do
   match ←ZAp fr f with
   | .fn g first captured=>call g (first++args++captured) s
   | _=>none
  | .invoke _ _=>none
 | _=>none

def ZBP (ops:Array Oper) (fr:List AV) (j:Nat):Option Bool:=
 match ((ops[j]?).bind (·.dst)).bind (fr[·]?) with
 | some (.bool b)=>some b
 | _=>none

def aOps (ops:Array Oper):List Oper→List AV→St→Option (List AV×St)
 | [],fr,s=>some (fr,s)
 | o::l,fr,s=>
  if Region.wanted o (ZBP ops fr) then
   match aOp P call o fr s with
   | some (v,s')=>aOps ops l (aPut fr o.dst v) s'
   | none=>none
  else aOps ops l (aPut fr o.dst .undef) s

/-! ### A region that draws its order: in the text's order; whatever changes the state is ordered against all that looks at it. -/
def looks:Op→Bool
 | .alloc _ | .box _ _ | .load _ _ | .store _ _ _ | .convert _ _ _ | .makeMap _ _ | .makeSlice _ _ _ | .lookup _ _ _ _ | .mapUpdate _ _ _ _ | .range _ _ | .next _ _ | .call _=>true
 | _=>false
def ZIn (P:Program) (dst:TypeId):Bool:=
 match P.underlying dst with
 | some (.slice _)=>true
 | _=>false
def ZCm (P:Program) (prims:Prims) (fr:List AV):Op→Bool
 | .convert _ dst _=>ZIn P dst
 | .load _ _ | .slice _ _ _ _ _ | .lookup _ _ _ _=>false
 | .call c=>
  match c.callee with
  | .builtin .len | .builtin .cap | .builtin .min | .builtin .max=>false
  | .value f=>
   match ZAp fr f with
   | some (.fn g _ _)=>(prims g).isNone
   | _=>true
  | _=>true
 | op=>looks op
def comparable (b:Array Nat) (i j:Nat):Bool:=(b.getD i 0).testBit j || (b.getD j 0).testBit i
def ZSW (ops:Array Oper) (b:Array Nat) (i:Nat) (o:Oper):Bool:=
 match o.dst with
 | none=>false
 | some d=>(List.range ops.size).any fun j=>j !=i && !comparable b i j && match ops[j]? with
  | some p=>(p.looksAt ops).contains d || p.dst==some d
  | none=>false
def ZKM (P:Program) (ops:Array Oper):Bool:=
 let b:=Region.before ops
 P.follows .mixedOrders && ops.toList.zipIdx.all fun(o,i)=> !ZSW ops b i o && (o.after.all fun e=> !Region.binds .any e || decide (e.on<i)) && (match o.op with | .select _ _=>false | _=>true)
def ZPe (ops:Array Oper) (t:Tmp):Nat→Option Nat
 | 0=>none
 | m+1=>if((ops[m]?).bind (·.dst))==some t then some m else ZPe ops t m
def ZQS:Op→Option Tmp
 | .call ⟨.builtin .append,args,_⟩=>match args.toList with | .tmp t::_=>some t | _=>none
 | _=>none
def ZQT:Op→Bool
 | .buildSlice _ _ _=>true
 | _=>false
def ZSX (ops:Array Oper):Nat→Nat→Bool
 | 0,_=>false
 | k+1,i=>match (ops[i]?).bind (fun o=>ZQS o.op) with
  | some t=>match ZPe ops t i with
   | some d=>((ops[d]?).map (fun o=>ZQT o.op))==some true || ZSX ops k d
   | none=>false
  | none=>false
def seer (prims:Prims):Op→Bool
 | .load _ _=>true
 | .call ⟨.value (.func g),_,_⟩=>(prims g).isSome
 | _=>false
def ZVz:Op→Bool
 | .alloc _ | .box _ _=>true
 | _=>false
def ZPf (ops:Array Oper) (i:Nat):Bool:=ZSX ops ops.size i || match ops[i]? with | some o=>ZVz o.op | none=>false
def tame (prims:Prims):Op→Bool
 | .call ⟨.value (.func g),_,_⟩=>(prims g).isSome
 | .load _ _ | .store _ _ _=>true
 | .call ⟨.builtin .len,_,_⟩ | .call ⟨.builtin .cap,_,_⟩ | .call ⟨.builtin .min,_,_⟩ | .call ⟨.builtin .max,_,_⟩=>true
 | op=> !looks op
def ZJ2 (prims:Prims) (ops:Array Oper):Bool:=(List.range ops.size).all fun j=>match ops[j]? with
 | some o=>ZPf ops j || tame prims o.op
 | none=>true
def ZGs (ops:Array Oper) (i:Nat):Option Nat:=match (ops[i]?).map Oper.op with
 | some (Op.store _ (.tmp a) _)=>match ZPe ops a i with
  | some d=>match (ops[d]?).map Oper.op with
   | some (Op.alloc _)=>some d
   | _=>none
  | none=>none
 | _=>none
def ZSY (i:Nat):Option Nat→Bool
 | some d=>decide (i<d)
 | none=>false
def lone (prims:Prims) (ops:Array Oper) (b:Array Nat) (i:Nat):Bool:=
 (List.range ops.size).all fun j=>j==i || comparable b i j || (match ops[j]? with
  | some p=> !looks p.op
  | none=>true) || ((ZPf ops i || ZSY j (ZGs ops i)) && (match ops[j]? with | some p=>seer prims p.op | none=>false) && ZJ2 prims ops)
def ZHp (prims:Prims) (ops:Array Oper) (b:Array Nat):List Nat→List AV→St→Option (List AV×St)
 | [],fr,s=>some (fr,s)
 | i::l,fr,s=>
  match ops[i]? with
  | none=>none
  | some o=>
   if Region.wanted o (ZBP ops fr) then
    if ZCm P prims fr o.op && !lone prims ops b i then none else
    match aOp P call o fr s with
    | some (v,s')=>ZHp prims ops b l (aPut fr o.dst v) s'
    | none=>none
   else ZHp prims ops b l (aPut fr o.dst .undef) s

def ZC3 (prims:Prims):Nat→Code→List AV→St→Option (AExit×List AV×St)
 | 0,_,_,_=>none
 | n+1,c,fr,s=>
  match c with
  | .skip=>some (.normal,fr,s)
  | .region _ ops false=>(aOps P call ops ops.toList fr s).map fun r=>(.normal,r.1,r.2)
  | .region _ ops true=>if ZKM P ops then(ZHp P call prims ops (Region.before ops) (List.range ops.size) fr s).map fun r=>(.normal,r.1,r.2) else none
  | .seq a b=>
   match ZC3 prims n a fr s with
   | some (.normal,fr',s')=>ZC3 prims n b fr' s'
   | r=>r
  | .cond c a b=>
   match ZAp fr c with
   | some (.bool true)=>ZC3 prims n a fr s
   | some (.bool false)=>ZC3 prims n b fr s
   | _=>none
  | .block id body=>
   match ZC3 prims n body fr s with
   | some (.exit id',fr',s')=>some (if id' =id then .normal else .exit id',fr',s')
   | r=>r
  | .loop body=>
   match ZC3 prims n body fr s with
   | some (.normal,fr',s')=>ZC3 prims n (.loop body) fr' s'
   | r=>r
  | .scope body=>ZC3 prims n body fr s
  | .label _=>some (.normal,fr,s)
  | .exit id=>some (.exit id,fr,s)
  | .ret=>some (.ret,fr,s)
  | _=>none

def ZEF (fr:List AV) (s:St):ResultVar→Option AV
 | .tmp t=>some (fr.getD t .undef)
 | .cell a t=>ZEy P t (fr.getD a .undef) s
def ZBv (fn:Func) (fr:List AV) (s:St):Option AV:=do
 match ←fn.results.toList.mapM (ZEF P fr s) with
 | [v]=>some v
 | vs=>some (.tup vs)
def ZCn (fn:Func):Bool:=fn.name != "runtime.NumGoroutine" && fn.body.isSome
end

def ZEm (P:Program) (prims:Prims):Nat→FuncId→List AV→St→Option (AV×St)
 | 0,_,_,_=>none
 | n+1,f,args,s=>
  match P.funcs[f]? with
  | none=>none
  | some fn=>
   if ZCn fn then
    match prims f with
    | some p=>ZBc p args s
    | none=>
     match fn.body with
     | none=>none
     | some c=>
      match ZC3 P (ZEm P prims n) prims n c (args++List.replicate (fn.ntmps - args.length) .undef) s with
      | some (.normal,fr,s') | some (.ret,fr,s')=>do
       let v ←ZBv P fn fr s'
       ZDT s.c v s'
      | _=>none
   else none

end Go.Ai
end
section
namespace Go.Ai

abbrev Reg:=Nat→Nat→Prop
abbrev Pl:=Nat→Nat×Nat

def Row (w:World) (U:Reg) (a:Addr) (cs:List Value):Prop:=
 ∀j u,cs[j]? =some u→w.cell? (a.add j)=some u∧¬U a.block (a.off+j)
def ZA4 (k:Nat) (x:AV):Prop:=
 x.cells.length=esz k∧(∀y∈x.cells,y.one=true)∧(k=0→x.one=true)∧(k≠0→x.one=false)
def CapOk (w:World) (ρ:Pl) (c:Nat) (cp:Cap) (a:Addr) (z len cap:Nat):Prop:=
 match cp with
 | .tight=>cap=len
 | .unk=>True
 | .tok t=>t<c∧a.block=(ρ t).1∧a.spot=none∧a.off+len*z=(ρ t).2∧∀j,j<cap*z→(w.cell? ⟨a.block,a.off+j,none⟩).isSome=true

section
variable (w:World) (ρ:Pl) (U:Reg) (c:Nat)
mutual
def Rel:AV→Value→Prop
 | .int k n,v=>v= .int k n
 | .bool b,v=>v= .bool b
 | .str l,v=>v= .string ⟨l.toArray⟩
 | .nilp,v=>v= .pointer none
 | .ptr n off,v=>n<c∧v= .pointer (some ⟨(ρ n).1,off,none⟩)
 | .rptr k xs i off,v=>i<xs.length∧off<esz k∧∃a:Addr,v= .pointer (some (a.add (i*esz k+off)))∧∃cs,RelC k xs cs∧Row w U a cs
 | .nils,v=>v= .slice none 0 0
 | .emp z,v=>∃(a:Option Addr) (cap:Nat),v= .slice a 0 cap∧(a=none→cap=0)∧(z=true→cap=0)
 | .vec k xs cp,v=>∃(a:Addr) (cap:Nat) (cs:List Value),v= .slice (some a) xs.length cap∧xs.length≤cap∧RelC k xs cs∧Row w U a cs∧CapOk w ρ c cp a (esz k) xs.length cap
 | .hs _ n off len cap,v=>n<c∧v= .slice (some ⟨(ρ n).1,off,none⟩) len cap
 | .agg xs,v=>∃vs:List Value,v= .agg vs.toArray∧RelL xs vs
 | .tup xs,v=>∃vs:List Value,v= .tuple vs.toArray∧RelL xs vs
 | .ifc t x,v=>∃u,v= .iface t u∧Rel x u
 | .nifc,v=>v= .nilIface
 | .fn f xs ys,v=>∃us vs:List Value,v= .func (.func f) us.toArray vs.toArray∧RelL xs us∧RelL ys vs
 | .nilfn,v=>v= .nilFunc
 | .mp n,v=>n<c∧v= .map (some (ρ n).1)
 | .nilmp,v=>v= .map none
 | .gptr g off,v=>v= .pointer (some ⟨g,off,none⟩)
def RelL:List AV→List Value→Prop
 | [],vs=>vs=[]
 | x::xs,vs=>∃v us,vs=v::us∧Rel x v∧RelL xs us
def RelC (k:Nat):List AV→List Value→Prop
 | [],cs=>cs=[]
 | x::xs,cs=>∃v us,cs=v.cells.toList++us∧ZA4 k x∧Rel x v∧RelC k xs us
end
end

structure Fr (U:Reg) (w w' :World):Prop where
 os:w'.os=w.os
 tape:w'.tape=w.tape
 output:w'.output=w.output
 size:w.heap.size≤w'.heap.size
 blk:∀b,b<w.heap.size→(∀j,¬U b j)→w'.heap[b]? =w.heap[b]?
 cell:∀(a:Addr) u,w.cell? a=some u→¬U a.block a.off→w'.cell? a=some u
 keep:∀a:Addr,(w.cell? a).isSome=true→(w'.cell? a).isSome=true

theorem Fr.refl (U:Reg) (w:World):Fr U w w:=⟨rfl,rfl,rfl,Nat.le_refl _,fun _ _ _=>rfl,fun _ _ h _=>h,fun _ h=>h⟩
theorem Fr.trans {U U' :Reg} {w w1 w2:World} (h:Fr U w w1) (k:Fr U' w1 w2) (hU:∀b j,b<w.heap.size→U' b j→U b j):Fr U w w2:=
 ⟨k.os.trans h.os,k.tape.trans h.tape,k.output.trans h.output,Nat.le_trans h.size k.size,
  fun b hb hn=>(k.blk b (Nat.lt_of_lt_of_le hb h.size) (fun j hj=>hn j (hU b j hb hj))).trans (h.blk b hb hn),
  fun a u hc hn=>k.cell a u (h.cell a u hc hn) (fun hj=>hn (hU _ _ (World.block_lt_of_cell? w a hc) hj)),
  fun a ha=>k.keep a (h.keep a ha)⟩
theorem Fr.weaken {U U' :Reg} {w w' :World} (h:Fr U w w') (hU:∀b j,U b j→U' b j):Fr U' w w' :=
 ⟨h.os,h.tape,h.output,h.size,fun b hb hn=>h.blk b hb (fun j hj=>hn j (hU b j hj)),fun a u hc hn=>h.cell a u hc (fun hj=>hn (hU _ _ hj)),h.keep⟩

structure Mono (w:World) (ρ:Pl) (U:Reg) (c:Nat) (w' :World) (ρ' :Pl) (U' :Reg) (c' :Nat):Prop where
 le:c≤c'
 pl:∀n,n<c→ρ' n=ρ n
 cell:∀(a:Addr) u,w.cell? a=some u→¬U a.block a.off→w'.cell? a=some u
 keep:∀a:Addr,(w.cell? a).isSome=true→(w'.cell? a).isSome=true
 reg:∀b j,b<w.heap.size→U' b j→U b j

section
variable {w w' :World} {ρ ρ' :Pl} {U U' :Reg} {c c' :Nat}
theorem ZFs (a:Addr) (j:Nat):(a.add j).block=a.block:=by unfold Addr.add;split<;> rfl
theorem ZKl (a:Addr) (j:Nat):(a.add j).off=a.off+j:=by unfold Addr.add;split<;> simp_all
theorem ZIX (a:Addr) (i j:Nat):(a.add i).add j=a.add (i+j):=by
 unfold Addr.add;by_cases hj:j=0
 ·subst hj;simp
 by_cases hi:i=0
 ·subst hi;simp
 simp[hi,hj];omega
theorem ZBf (b o j:Nat):(⟨b,o,none⟩:Addr).add j=⟨b,o+j,none⟩:=by unfold Addr.add;split<;> simp_all

theorem Row.mono {a:Addr} {cs:List Value} (h:Row w U a cs) (m:Mono w ρ U c w' ρ' U' c'):Row w' U' a cs:=fun j u hj=>by
 obtain⟨h1,h2⟩:=h j u hj;refine⟨m.cell _ _ h1 (by rw[ZFs,ZKl];exact h2),fun hU=>h2 (m.reg _ _ ?_ hU)⟩
 have:=World.block_lt_of_cell? w _ h1
 rwa [ZFs] at this
theorem CapOk.mono {cp:Cap} {a:Addr} {z len cap:Nat} (h:CapOk w ρ c cp a z len cap) (m:Mono w ρ U c w' ρ' U' c'):CapOk w' ρ' c' cp a z len cap:=by
 cases cp with
 | tight=>exact h
 | unk=>trivial
 | tok t=>
  obtain⟨h1,h2,h3,h4,h5⟩:=h;have e:=m.pl t h1;exact⟨Nat.lt_of_lt_of_le h1 m.le,by rw[e];exact h2,h3,by rw[e];exact h4,fun j hj=>m.keep _ (h5 j hj)⟩

mutual
theorem Rel.mono (m:Mono w ρ U c w' ρ' U' c'):∀(x:AV) (v:Value),Rel w ρ U c x v→Rel w' ρ' U' c' x v
 | .int _ _,_,h=>h
 | .bool _,_,h=>h
 | .str _,_,h=>h
 | .nilp,_,h=>h
 | .ptr n off,v,h=>by
  simp only[Rel] at h ⊢;exact⟨Nat.lt_of_lt_of_le h.1 m.le,by rw[m.pl n h.1];exact h.2⟩
 | .rptr k xs i off,v,h=>by
  simp only[Rel] at h ⊢;obtain⟨h1,h2,a,h3,cs,h4,h5⟩:=h;exact⟨h1,h2,a,h3,cs,RelC.mono m k xs cs h4,h5.mono m⟩
 | .nils,_,h=>h
 | .emp _,_,h=>h
 | .gptr _ _,_,h=>h
 | .vec k xs cp,v,h=>by
  simp only[Rel] at h ⊢;obtain⟨a,cap,cs,h1,h2,h3,h4,h5⟩:=h;exact⟨a,cap,cs,h1,h2,RelC.mono m k xs cs h3,h4.mono m,h5.mono m⟩
 | .hs k n off len cap,v,h=>by
  simp only[Rel] at h ⊢;exact⟨Nat.lt_of_lt_of_le h.1 m.le,by rw[m.pl n h.1];exact h.2⟩
 | .agg xs,v,h=>by
  simp only[Rel] at h ⊢;obtain⟨vs,h1,h2⟩:=h;exact⟨vs,h1,RelL.mono m xs vs h2⟩
 | .tup xs,v,h=>by
  simp only[Rel] at h ⊢;obtain⟨vs,h1,h2⟩:=h;exact⟨vs,h1,RelL.mono m xs vs h2⟩
 | .ifc t x,v,h=>by
  simp only[Rel] at h ⊢;obtain⟨u,h1,h2⟩:=h;exact⟨u,h1,Rel.mono m x u h2⟩
 | .nifc,_,h=>h
 | .fn f xs ys,v,h=>by
  simp only[Rel] at h ⊢;obtain⟨us,vs,h1,h2,h3⟩:=h;exact⟨us,vs,h1,RelL.mono m xs us h2,RelL.mono m ys vs h3⟩
 | .nilfn,_,h=>h
 | .mp n,v,h=>by
  simp only[Rel] at h ⊢;exact⟨Nat.lt_of_lt_of_le h.1 m.le,by rw[m.pl n h.1];exact h.2⟩
 | .nilmp,_,h=>h
theorem RelL.mono (m:Mono w ρ U c w' ρ' U' c'):∀(xs:List AV) (vs:List Value),RelL w ρ U c xs vs→RelL w' ρ' U' c' xs vs
 | [],_,h=>h
 | x::xs,vs,h=>by
  simp only[RelL] at h ⊢;obtain⟨v,us,h1,h2,h3⟩:=h;exact⟨v,us,h1,Rel.mono m x v h2,RelL.mono m xs us h3⟩
theorem RelC.mono (m:Mono w ρ U c w' ρ' U' c') (k:Nat):∀(xs:List AV) (cs:List Value),RelC w ρ U c k xs cs→RelC w' ρ' U' c' k xs cs
 | [],_,h=>h
 | x::xs,cs,h=>by
  simp only[RelC] at h ⊢;obtain⟨v,us,h1,h2,h3,h4⟩:=h;exact⟨v,us,h1,h2,Rel.mono m x v h3,RelC.mono m k xs us h4⟩
end

/-! ### Lists -/
theorem RelL.length:∀{xs:List AV} {vs:List Value},RelL w ρ U c xs vs→vs.length=xs.length
 | [],_,h=>by simp only[RelL] at h;simp[h]
 | x::xs,vs,h=>by
  simp only[RelL] at h;obtain⟨v,us,rfl,_,h3⟩:=h;simp[RelL.length h3]
theorem RelL.get:∀{xs:List AV} {vs:List Value},RelL w ρ U c xs vs→∀{i:Nat} {x:AV},xs[i]? =some x→∃v,vs[i]? =some v∧Rel w ρ U c x v
 | [],_,_,i,x,hx=>by simp at hx
 | y::xs,vs,h,i,x,hx=>by
  simp only[RelL] at h;obtain⟨v,us,rfl,h2,h3⟩:=h
  cases i with
  | zero=>simp at hx;subst hx;exact⟨v,by simp,h2⟩
  | succ i=>simp only[List.getElem?_cons_succ] at hx ⊢;exact RelL.get h3 hx
theorem RelL.get' :∀{xs:List AV} {vs:List Value},RelL w ρ U c xs vs→∀{i:Nat} {v:Value},vs[i]? =some v→∃x,xs[i]? =some x∧Rel w ρ U c x v:=by
 intro xs vs h i v hv;have hl:=h.length;have hi:i<xs.length:=by rw[←hl];exact(List.getElem?_eq_some_iff.1 hv).1
 obtain⟨v',hv',hr⟩:=h.get (i:=i) (x:=xs[i]) (List.getElem?_eq_getElem hi);rw[hv] at hv';injection hv' with e
 subst e;exact⟨xs[i],List.getElem?_eq_getElem hi,hr⟩
theorem RelL.of:∀{xs:List AV} {vs:List Value},vs.length=xs.length→(∀(i:Nat) (x:AV) (v:Value),xs[i]? =some x→vs[i]? =some v→Rel w ρ U c x v)→RelL w ρ U c xs vs
 | [],vs,hl,_=>by simp only[RelL];exact List.eq_nil_of_length_eq_zero (by simpa using hl)
 | x::xs,[],hl,_=>by simp at hl
 | x::xs,v::vs,hl,h=>by
  simp only[RelL];exact⟨v,vs,rfl,h 0 x v (by simp) (by simp),RelL.of (by simpa using hl) (fun i x' v' hx hv=>h (i+1) x' v' (by simpa using hx) (by simpa using hv))⟩
theorem RelL.append {xs ys:List AV} {us vs:List Value} (h:RelL w ρ U c xs us) (k:RelL w ρ U c ys vs):RelL w ρ U c (xs++ys) (us++vs):=by
 induction xs generalizing us with
 | nil=>simp only[RelL] at h;subst h;simpa using k
 | cons x xs ih=>
  simp only[RelL] at h;obtain⟨v,us',rfl,h2,h3⟩:=h;simp only[List.cons_append,RelL];exact⟨v,us' ++vs,rfl,h2,ih h3⟩
theorem RelL.take {xs:List AV} {us:List Value} (h:RelL w ρ U c xs us) (n:Nat):RelL w ρ U c (xs.take n) (us.take n):=by
 refine RelL.of (by simp[h.length]) fun i x v hx hv=> ?_
 rw[List.getElem?_take] at hx hv;split at hx
 ·rw[if_pos ‹_›] at hv;obtain⟨v',hv',hr⟩:=h.get hx;rw[hv] at hv';injection hv' with e;subst e;exact hr
 simp at hx
theorem RelL.drop {xs:List AV} {us:List Value} (h:RelL w ρ U c xs us) (n:Nat):RelL w ρ U c (xs.drop n) (us.drop n):=by
 refine RelL.of (by simp[h.length]) fun i x v hx hv=> ?_
 rw[List.getElem?_drop] at hx hv;obtain⟨v',hv',hr⟩:=h.get hx;rw[hv] at hv';injection hv' with e;subst e;exact hr
theorem RelL.set {xs:List AV} {us:List Value} (h:RelL w ρ U c xs us) (n:Nat) {x:AV} {v:Value} (hr:Rel w ρ U c x v):RelL w ρ U c (xs.set n x) (us.set n v):=by
 refine RelL.of (by simp[h.length]) fun i y u hy hu=> ?_
 rw[List.getElem?_set] at hy hu;split at hy
 ·rename_i hni;subst hni;rw[if_pos rfl] at hu;split at hy
  ·rw[if_pos (by rw[h.length];assumption)] at hu
   simp at hy hu;subst hy;subst hu;exact hr
  simp at hy
 rw[if_neg ‹_›] at hu;obtain⟨v',hv',hr'⟩:=h.get hy;rw[hu] at hv';injection hv' with e;subst e;exact hr'
theorem RelL.getD {xs:List AV} {us:List Value} (h:RelL w ρ U c xs us) (n:Nat):Rel w ρ U c (xs.getD n .undef) (us.getD n undef):=by
 rw[List.getD_eq_getElem?_getD,List.getD_eq_getElem?_getD]
 cases hx:xs[n]? with
 | some x=>
  obtain⟨v,hv,hr⟩:=h.get hx;simpa[hv] using hr
 | none=>
  have:us[n]? =none:=by
   rw[List.getElem?_eq_none_iff] at hx ⊢;rw[h.length];exact hx
  simp[this,Rel,RelL,undef]

/-! ### Cells of a value -/
theorem Rel.one {x:AV} {v:Value} (h:Rel w ρ U c x v) (ho:x.one=true):v.oneCell' =true:=by
 cases x<;> simp only[Rel,AV.one] at h ho<;> first
  | (subst h;rfl)
  | (obtain⟨_,rfl⟩:=h;rfl)
  | (obtain⟨_,_,_,rfl,_⟩:=h;rfl)
  | (obtain⟨_,rfl,_⟩:=h;rfl)
  | (obtain⟨_,_,rfl,_⟩:=h;rfl)
  | (simp at ho)
theorem Rel.cells {x:AV} {v:Value} (h:Rel w ρ U c x v):RelL w ρ U c x.cells v.cells.toList:=by
 by_cases ha:∃xs,x= .agg xs
 ·obtain⟨xs,rfl⟩:=ha;simp only[Rel] at h;obtain⟨vs,rfl,hl⟩:=h;simpa[AV.cells,Value.cells] using hl
 have e1:x.cells=[x]:=by cases x<;> simp_all [AV.cells]
 have e2:v.cells.toList=[v]:=by
  cases v with
  | agg vs=>
   exfalso
   cases x<;> simp only[Rel] at h<;> simp_all
  | _=>rfl
 rw[e1,e2];simp only[RelL];exact⟨v,[],rfl,h,rfl⟩
theorem Rel.cells_size {x:AV} {v:Value} (h:Rel w ρ U c x v):v.cells.size=x.cells.length:=by
 have:=h.cells.length
 simpa using this
theorem RelL.one {xs:List AV} {vs:List Value} (h:RelL w ρ U c xs vs) (ho:∀x∈xs,x.one=true):∀v∈vs,v.oneCell' =true:=by
 intro v hv;obtain⟨i,hi⟩:=List.mem_iff_getElem?.1 hv;obtain⟨x,hx,hr⟩:=h.get' hi;exact hr.one (ho x (List.mem_iff_getElem?.2 ⟨i,hx⟩))

theorem RelC.length {k:Nat}:∀{xs:List AV} {cs:List Value},RelC w ρ U c k xs cs→cs.length=xs.length*esz k
 | [],_,h=>by simp only[RelC] at h;simp[h]
 | x::xs,cs,h=>by
  simp only[RelC] at h;obtain⟨v,us,rfl,h1,h2,h3⟩:=h;have:=RelC.length h3
  have h4:=h2.cells_size;rw[h1.1] at h4;simp only[List.length_append,Array.length_toList,List.length_cons,this,h4,Nat.succ_mul];omega
theorem ZEG (k:Nat):0<esz k:=by unfold esz;split<;> omega
theorem RelC.get {k:Nat}:∀{xs:List AV} {cs:List Value},RelC w ρ U c k xs cs→∀{i:Nat} {x:AV},xs[i]? =some x→
  ∃v,ZA4 k x∧Rel w ρ U c x v∧∀j u,v.cells[j]? =some u→cs[i*esz k+j]? =some u
 | [],_,_,i,x,hx=>by simp at hx
 | y::xs,cs,h,i,x,hx=>by
  simp only[RelC] at h;obtain⟨v,us,rfl,h1,h2,h3⟩:=h;have hs:v.cells.toList.length=esz k:=by have:=h2.cells_size;rw[h1.1] at this;simpa using this
  cases i with
  | zero=>
   simp at hx;subst hx;refine⟨v,h1,h2,fun j u hj=> ?_⟩
   rw[Nat.zero_mul,Nat.zero_add,List.getElem?_append_left]
   ·simpa using hj
   simpa using(Array.getElem?_eq_some_iff.1 hj).1
  | succ i=>
   simp only[List.getElem?_cons_succ] at hx;obtain⟨v',h4,h5,h6⟩:=RelC.get h3 hx;refine⟨v',h4,h5,fun j u hj=> ?_⟩
   rw[List.getElem?_append_right (by rw[hs,Nat.succ_mul];omega),hs,show(i+1)*esz k+j - esz k=i*esz k+j by rw[Nat.succ_mul];omega]
   exact h6 j u hj
theorem RelC.append {k:Nat} {xs ys:List AV} {us vs:List Value} (h:RelC w ρ U c k xs us) (g:RelC w ρ U c k ys vs):RelC w ρ U c k (xs++ys) (us++vs):=by
 induction xs generalizing us with
 | nil=>simp only[RelC] at h;subst h;simpa using g
 | cons x xs ih=>
  simp only[RelC] at h;obtain⟨v,us',rfl,h1,h2,h3⟩:=h;simp only[List.cons_append,RelC];exact⟨v,us' ++vs,by simp,h1,h2,ih h3⟩
theorem RelC.take {k:Nat}:∀{xs:List AV} {cs:List Value},RelC w ρ U c k xs cs→∀n,RelC w ρ U c k (xs.take n) (cs.take (n*esz k))
 | [],_,h,n=>by simp only[RelC] at h;subst h;simp[RelC]
 | x::xs,cs,h,0=>by simp[RelC]
 | x::xs,cs,h,n+1=>by
  simp only[RelC] at h;obtain⟨v,us,rfl,h1,h2,h3⟩:=h;have hs:v.cells.toList.length=esz k:=by have:=h2.cells_size;rw[h1.1] at this;simpa using this
  simp only[List.take_succ_cons,RelC];refine⟨v,us.take (n*esz k),?_,h1,h2,RelC.take h3 n⟩
  rw[List.take_append,hs,List.take_of_length_le (by rw[hs,Nat.succ_mul];omega),show(n+1)*esz k - esz k=n*esz k by rw[Nat.succ_mul];omega]
theorem RelC.drop {k:Nat}:∀{xs:List AV} {cs:List Value},RelC w ρ U c k xs cs→∀n,RelC w ρ U c k (xs.drop n) (cs.drop (n*esz k))
 | [],_,h,n=>by simp only[RelC] at h;subst h;simp[RelC]
 | x::xs,cs,h,0=>by simpa using h
 | x::xs,cs,h,n+1=>by
  simp only[RelC] at h;obtain⟨v,us,rfl,h1,h2,h3⟩:=h;have hs:v.cells.toList.length=esz k:=by have:=h2.cells_size;rw[h1.1] at this;simpa using this
  rw[List.drop_succ_cons,List.drop_append,hs,List.drop_of_length_le (i:=(n+1)*esz k) (l:=v.cells.toList) (by rw[hs,Nat.succ_mul];omega),show(n+1)*esz k - esz k=n*esz k by rw[Nat.succ_mul];omega]
  simpa using RelC.drop h3 n
theorem Row.take {a:Addr} {cs:List Value} (h:Row w U a cs) (n:Nat):Row w U a (cs.take n):=fun j u hj=>by
 rw[List.getElem?_take] at hj;split at hj
 ·exact h j u hj
 simp at hj
theorem Row.drop {a:Addr} {cs:List Value} (h:Row w U a cs) (n:Nat):Row w U (a.add n) (cs.drop n):=fun j u hj=>by
 rw[List.getElem?_drop] at hj;obtain⟨h1,h2⟩:=h _ u hj;rw[ZIX,ZFs,ZKl,Nat.add_assoc];exact⟨h1,h2⟩
theorem Row.nil (a:Addr):Row w U a []:=fun j u hj=>by simp at hj
theorem RelC.one {k:Nat}:∀{xs:List AV} {cs:List Value},RelC w ρ U c k xs cs→∀v∈cs,v.oneCell' =true
 | [],_,h=>by simp only[RelC] at h;subst h;simp
 | x::xs,cs,h=>by
  simp only[RelC] at h;obtain⟨v,us,rfl,h1,h2,h3⟩:=h;intro u hu;rcases List.mem_append.1 hu with hu | hu
  ·exact h2.cells.one h1.2.1 u hu
  exact RelC.one h3 u hu
theorem RelC.cells {k:Nat}:∀{xs:List AV} {cs:List Value},RelC w ρ U c k xs cs→RelL w ρ U c (xs.flatMap AV.cells) cs
 | [],_,h=>by simp only[RelC] at h;subst h;simp[RelL]
 | x::xs,cs,h=>by
  simp only[RelC] at h;obtain⟨v,us,rfl,h1,h2,h3⟩:=h;simp only[List.flatMap_cons];exact h2.cells.append (RelC.cells h3)
end
end Go.Ai
end
section
namespace Go.Ai

def Umap (ρ:Pl) (h:List (Nat×AO)):Reg:=fun b j=>∃n o,hget h n=some o∧(ρ n).1=b∧(match o with | .tok=>(ρ n).2≤j | _=>True)
def UX (ρ:Pl) (h:List (Nat×AO)) (X:Reg):Reg:=fun b j=>Umap ρ h b j∨X b j
def ZLz (C:Array Value) (fz:Nat×Nat):Prop:=∀j,j<C.size→¬(fz.1≤j∧j<fz.2)
def thawedE (C:Array Value) (fz:Nat×Nat):Prop:=∀j,j≤C.size→¬(fz.1≤j∧j<fz.2)
theorem thawedE.weak {C:Array Value} {fz:Nat×Nat} (h:thawedE C fz):ZLz C fz:=fun j hj=>h j (Nat.le_of_lt hj)
def ZOd (ents:Array MapEntry) (clock:Nat):Prop:=(ents.toList.map (·.born)).Nodup∧∀e∈ents.toList,e.born<clock
def ObjOk (w:World) (ρ:Pl) (U:Reg) (c:Nat) (o:AO) (p:Nat×Nat):Prop:=
 match o with
 | .cells cs=>∃C e fz,w.heap[p.1]? =some (.cells C e fz)∧thawedE C fz∧RelL w ρ U c cs C.toList∧∀x∈cs,x.one=true
 | .tok=>∃C e fz,w.heap[p.1]? =some (.cells C e fz)∧ZLz C fz∧p.2≤C.size
 | .map es=>∃(ents:Array MapEntry) (clock:Nat),w.heap[p.1]? =some (.map ents clock)∧RelL w ρ U c (es.map (·.1)) (ents.toList.map (·.key))∧RelL w ρ U c (es.map (·.2)) (ents.toList.map (·.val))∧ZOd ents clock
 | .siter l pos=>w.heap[p.1]? =some (.stringIter ⟨l.toArray⟩ pos)
 | .mapb es bs clock=>∃(ents:Array MapEntry),w.heap[p.1]? =some (.map ents clock)∧RelL w ρ U c (es.map (·.1)) (ents.toList.map (·.key))∧RelL w ρ U c (es.map (·.2)) (ents.toList.map (·.val))∧ZOd ents clock∧ents.toList.map (·.born)=bs
 | .miter m since seen last=>m<c∧w.heap[p.1]? =some (.mapIter (some (ρ m).1) since seen.toArray last)
 | .tc t cs=>∃C fz,w.heap[p.1]? =some (.cells C t fz)∧thawedE C fz∧RelL w ρ U c cs C.toList∧∀x∈cs,x.one=true

def GlobOk (w:World) (ρ:Pl) (U:Reg) (c:Nat) (G:Glob):Prop:=
 ∀g cs,G g=some cs→ZCR cs=true∧∃vs:List Value,RelL w ρ U c cs vs∧∀j u,vs[j]? =some u→w.cell? ⟨g,j,none⟩=some u∧¬U g j
structure Sim (base:Nat) (ρ:Pl) (X:Reg) (s:St) (w:World):Prop where
 lt:∀n o,hget s.h n=some o→n<s.c
 obj:∀n o,hget s.h n=some o→ObjOk w ρ (UX ρ s.h X) s.c o (ρ n)
 inj:∀n m o o',hget s.h n=some o→hget s.h m=some o' →n≠m→(ρ n).1≠(ρ m).1
 base:∀n o,hget s.h n=some o→base≤(ρ n).1
 apart:∀n o,hget s.h n=some o→∀j,¬X (ρ n).1 j
 old:∀b j,X b j→b<w.heap.size
 glob:GlobOk w ρ (UX ρ s.h X) s.c s.g
theorem GlobOk.mono {w w' :World} {ρ ρ' :Pl} {U U' :Reg} {c c' :Nat} {G:Glob} (h:GlobOk w ρ U c G) (m:Mono w ρ U c w' ρ' U' c'):GlobOk w' ρ' U' c' G:=fun g cs hg=>by
 obtain⟨h1,vs,h2,h3⟩:=h g cs hg;refine⟨h1,vs,RelL.mono m _ _ h2,fun j u hj=> ?_⟩
 obtain⟨k1,k2⟩:=h3 j u hj;exact⟨m.cell _ _ k1 k2,fun hu=>k2 (m.reg _ _ (World.block_lt_of_cell? w _ k1) hu)⟩

theorem ObjOk.lt {w:World} {ρ:Pl} {U:Reg} {c:Nat} {o:AO} {p:Nat×Nat} (h:ObjOk w ρ U c o p):p.1<w.heap.size:=by
 have key:∀x,w.heap[p.1]? =some x→p.1<w.heap.size:=fun x hx=>(Array.getElem?_eq_some_iff.1 hx).1
 cases o with
 | cells cs=>obtain⟨C,e,fz,hb,_⟩:=h;exact key _ hb
 | tok=>obtain⟨C,e,fz,hb,_⟩:=h;exact key _ hb
 | map es=>obtain⟨a,b,hb,_⟩:=h;exact key _ hb
 | mapb es bs ck=>obtain⟨a,hb,_⟩:=h;exact key _ hb
 | miter m si sn la=>exact key _ h.2
 | siter l pos=>exact key _ h
 | tc t cs=>obtain⟨C,fz,hb,_⟩:=h;exact key _ hb
theorem ObjOk.mono {w w' :World} {ρ ρ' :Pl} {U U' :Reg} {c c' :Nat} {o:AO} {p:Nat×Nat} (h:ObjOk w ρ U c o p) (m:Mono w ρ U c w' ρ' U' c') (hb:w'.heap[p.1]? =w.heap[p.1]?):ObjOk w' ρ' U' c' o p:=by
 cases o with
 | cells cs=>obtain⟨C,e,fz,h1,h2,h3,h4⟩:=h;exact⟨C,e,fz,hb.trans h1,h2,RelL.mono m _ _ h3,h4⟩
 | tok=>obtain⟨C,e,fz,h1,h2⟩:=h;exact⟨C,e,fz,hb.trans h1,h2⟩
 | map es=>obtain⟨a,b,h1,h2,h3,h4⟩:=h;exact⟨a,b,hb.trans h1,RelL.mono m _ _ h2,RelL.mono m _ _ h3,h4⟩
 | mapb es bs ck=>obtain⟨a,h1,h2,h3,h4⟩:=h;exact⟨a,hb.trans h1,RelL.mono m _ _ h2,RelL.mono m _ _ h3,h4⟩
 | miter q si sn la=>obtain⟨h0,h1⟩:=h;exact⟨Nat.lt_of_lt_of_le h0 m.le,by rw[m.pl q h0];exact hb.trans h1⟩
 | siter l pos=>exact hb.trans h
 | tc t cs=>obtain⟨C,fz,h1,h2,h3,h4⟩:=h;exact⟨C,fz,hb.trans h1,h2,RelL.mono m _ _ h3,h4⟩

section
variable {base:Nat} {ρ ρ' :Pl} {X:Reg} {s s' :St} {w w' :World}
theorem Sim.blk_lt (h:Sim base ρ X s w) {n:Nat} {o:AO} (ho:hget s.h n=some o):(ρ n).1<w.heap.size:=(h.obj n o ho).lt

theorem Mono.step (hX:∀b j,X b j→b<w.heap.size) (hfr:Fr (Umap ρ s.h) w w') (hρ:∀n,n<s.c→ρ' n=ρ n) (hc:s.c≤s'.c) (hU:∀b j,b<w.heap.size→Umap ρ' s'.h b j→Umap ρ s.h b j):
  Mono w ρ (UX ρ s.h X) s.c w' ρ' (UX ρ' s'.h X) s'.c:=
 ⟨hc,hρ,fun a u hu hn=>hfr.cell a u hu (fun hj=>hn (.inl hj)),hfr.keep,fun b j hb hj=>hj.imp (hU b j hb) id⟩

theorem Sim.step (h:Sim base ρ X s w) (hfr:Fr (Umap ρ s.h) w w') (hρ:∀n,n<s.c→ρ' n=ρ n) (hc:s.c≤s'.c)
  (hlt:∀n o,hget s'.h n=some o→n<s'.c)
  (hobj:∀n o,hget s'.h n=some o→(n<s.c∧hget s.h n=some o∧w'.heap[(ρ n).1]? =w.heap[(ρ n).1]?)∨ObjOk w' ρ' (UX ρ' s'.h X) s'.c o (ρ' n))
  (hU:∀b j,b<w.heap.size→Umap ρ' s'.h b j→Umap ρ s.h b j)
  (hinj:∀n m o o',hget s'.h n=some o→hget s'.h m=some o' →n≠m→(ρ' n).1≠(ρ' m).1)
  (hbase:∀n o,hget s'.h n=some o→base≤(ρ' n).1) (hG:s'.g=s.g:=by rfl):Sim base ρ' X s' w' :=by
 have m:Mono w ρ (UX ρ s.h X) s.c w' ρ' (UX ρ' s'.h X) s'.c:= .step h.old hfr hρ hc hU
 refine⟨hlt,fun n o ho=> ?_,hinj,hbase,fun n o ho j hj=> ?_,fun b j hj=>Nat.lt_of_lt_of_le (h.old b j hj) hfr.size,by rw[hG];exact h.glob.mono m⟩
 ·rcases hobj n o ho with⟨h1,h2,h3⟩ | h1
  ·rw[hρ n h1];exact(h.obj n o h2).mono m h3
  exact h1
 have hlt' :=h.old _ _ hj
 have hu:Umap ρ s.h (ρ' n).1 ((ρ' n).2):=hU _ _ hlt' ⟨n,o,ho,rfl,by cases o<;> simp⟩
 obtain⟨k,o',hk,hkb,_⟩:=hu;exact h.apart k o' hk j (by rw[hkb];exact hj)

def Post (base:Nat) (ρ:Pl) (X:Reg) (s:St) (w:World) (v:AV) (s' :St) (v' :Value) (w' :World):Prop:=
 ∃ρ' :Pl,(∀n,n<s.c→ρ' n=ρ n)∧s.c≤s'.c∧Sim base ρ' X s' w' ∧Rel w' ρ' (UX ρ' s'.h X) s'.c v v' ∧Fr (Umap ρ s.h) w w' ∧(∀b j,b<w.heap.size→Umap ρ' s'.h b j→Umap ρ s.h b j)

theorem Post.mono_of {v:AV} {v' :Value} (h:Sim base ρ X s w) (hp:Post base ρ X s w v s' v' w'):∃ρ',Sim base ρ' X s' w' ∧Rel w' ρ' (UX ρ' s'.h X) s'.c v v' ∧Mono w ρ (UX ρ s.h X) s.c w' ρ' (UX ρ' s'.h X) s'.c∧(∀n,n<s.c→ρ' n=ρ n)∧Fr (Umap ρ s.h) w w' ∧(∀b j,b<w.heap.size→Umap ρ' s'.h b j→Umap ρ s.h b j):=by
 obtain⟨ρ',h1,h2,h3,h4,h5,h6⟩:=hp;exact⟨ρ',h3,h4, .step h.old h5 h1 h2 h6,h1,h5,h6⟩
theorem Post.same {v:AV} {v' :Value} (h:Sim base ρ X s w) (hr:Rel w ρ (UX ρ s.h X) s.c v v'):Post base ρ X s w v s v' w:=
 ⟨ρ,fun _ _=>rfl,Nat.le_refl _,h,hr,Fr.refl _ _,fun _ _ _ hj=>hj⟩

/-! ### The world grows, nothing ZCm -/
theorem Fr.grow {U:Reg} (w w' :World) (hos:w'.os=w.os) (ht:w'.tape=w.tape) (ho:w'.output=w.output) (hsz:w.heap.size≤w'.heap.size) (hb:∀b,b<w.heap.size→w'.heap[b]? =w.heap[b]?):Fr U w w' :=
 ⟨hos,ht,ho,hsz,fun b h _=>hb b h,fun a u hu _=>by rw[World.cell?_of_block (w:=w) (hb a.block (World.block_lt_of_cell? w a hu))];exact hu,
  fun a ha=>by
   obtain⟨u,hu⟩:=Option.isSome_iff_exists.1 ha;rw[World.cell?_of_block (w:=w) (hb a.block (World.block_lt_of_cell? w a hu))];exact ha⟩
theorem Fr.alloc {U:Reg} (w:World) (o:Obj):Fr U w (w.alloc o):=
 Fr.grow w _ rfl rfl rfl (by simp) (fun b hb=>by
  show(w.heap.push o)[b]? =_
  rw[Array.getElem?_push,if_neg (by omega)])
theorem Fr.drew {U:Reg} (w:World):Fr U w w.drew:=Fr.grow w _ rfl rfl rfl (by simp) (fun b hb=>rfl)
theorem Fr.below {U:Reg} {w w' :World} (h:RowKit.Below w.heap.size w w'):Fr U w w' :=Fr.grow w w' h.os h.tape h.output h.size (fun b hb=>h.block b hb)

theorem Sim.grow (h:Sim base ρ X s w) (hos:w'.os=w.os) (ht:w'.tape=w.tape) (ho:w'.output=w.output) (hsz:w.heap.size≤w'.heap.size) (hb:∀b,b<w.heap.size→w'.heap[b]? =w.heap[b]?):Sim base ρ X s w' :=
 h.step (s' :=s) (Fr.grow w w' hos ht ho hsz hb) (fun _ _=>rfl) (Nat.le_refl _) h.lt (fun n o hn=> .inl ⟨h.lt n o hn,hn,hb _ (h.blk_lt hn)⟩) (fun _ _ _ hj=>hj) h.inj h.base
theorem Mono.grow {U:Reg} {c:Nat} (hfr:∀U:Reg,Fr U w w'):Mono w ρ U c w' ρ U c:=
 ⟨Nat.le_refl _,fun _ _=>rfl,fun a u hu _=>(hfr (fun _ _=>False)).cell a u hu (fun h=>h),(hfr U).keep,fun _ _ _ h=>h⟩
theorem Post.grow {v:AV} {v' :Value} (h:Sim base ρ X s w) (hos:w'.os=w.os) (ht:w'.tape=w.tape) (ho:w'.output=w.output) (hsz:w.heap.size≤w'.heap.size) (hb:∀b,b<w.heap.size→w'.heap[b]? =w.heap[b]?)
  (hr:Rel w' ρ (UX ρ s.h X) s.c v v'):Post base ρ X s w v s v' w' :=
 ⟨ρ,fun _ _=>rfl,Nat.le_refl _,h.grow hos ht ho hsz hb,hr,Fr.grow w w' hos ht ho hsz hb,fun _ _ _ hj=>hj⟩
theorem Post.drew {v:AV} {v' :Value} (h:Sim base ρ X s w) (hr:Rel w ρ (UX ρ s.h X) s.c v v'):Post base ρ X s w v s v' w.drew:=
 Post.grow h rfl rfl rfl (by simp) (fun _ _=>rfl) (Rel.mono (Mono.grow (w' :=w.drew) (fun U=>Fr.drew w)) _ _ hr)

/-! ### A new object -/
def Pl.new (ρ:Pl) (n:Nat) (p:Nat×Nat):Pl:=fun m=>if m=n then p else ρ m
theorem Pl.new_old {n m:Nat} {p:Nat×Nat} (h:m<n):Pl.new ρ n p m=ρ m:=by unfold Pl.new;rw[if_neg (by omega)]
theorem Pl.new_same {n:Nat} {p:Nat×Nat}:Pl.new ρ n p n=p:=by simp[Pl.new]

theorem Post.new (h:Sim base ρ X s w) (hos:w'.os=w.os) (ht:w'.tape=w.tape) (ho:w'.output=w.output) (hsz:w.heap.size≤w'.heap.size) (hb:∀b,b<w.heap.size→w'.heap[b]? =w.heap[b]?) (hbase:base≤w.heap.size)
  (o:AO) (b pos:Nat) (hnew:w.heap.size≤b) (v:AV) (v' :Value)
  (hobj:∀ρ' U' c',Mono w ρ (UX ρ s.h X) s.c w' ρ' U' c' →ρ' s.c=(b,pos)→(∀j,U' b j→o= .tok→pos≤j)→c' =s.c+1→ObjOk w' ρ' U' c' o (b,pos)∧Rel w' ρ' U' c' v v'):
  Post base ρ X s w v (s.new o) v' w' :=by
 have hfr:∀U:Reg,Fr U w w' :=fun U=>Fr.grow w w' hos ht ho hsz hb
 have hg:∀n o',hget (s.new o).h n=some o' →(n=s.c∧o' =o)∨(n≠s.c∧hget s.h n=some o'):=by
  intro n o' hn;simp only[St.new,hget] at hn;split at hn
  ·injection hn with e;exact .inl ⟨‹_›,e.symm⟩
  exact .inr ⟨‹_›,hn⟩
 have hρ:∀n,n<s.c→Pl.new ρ s.c (b,pos) n=ρ n:=fun n hn=>Pl.new_old hn
 have hU:∀b' j,b' <w.heap.size→Umap (Pl.new ρ s.c (b,pos)) (s.new o).h b' j→Umap ρ s.h b' j:=by
  rintro b' j hb' ⟨n,o',hn,hnb,hj⟩;rcases hg n o' hn with⟨rfl,rfl⟩ | ⟨hne,hn'⟩
  ·rw[Pl.new_same] at hnb;simp at hnb;omega
  rw[hρ n (h.lt n o' hn')] at hnb hj;exact⟨n,o',hn',hnb,hj⟩
 have hm:Mono w ρ (UX ρ s.h X) s.c w' (Pl.new ρ s.c (b,pos)) (UX (Pl.new ρ s.c (b,pos)) (s.new o).h X) (s.c+1):= .step (s' :=s.new o) h.old (hfr _) hρ (Nat.le_succ _) hU
 obtain⟨h1,h2⟩:=hobj _ _ _ hm Pl.new_same (by
  rintro j (hj | hj) he
  ·obtain⟨n,o',hn,hnb,hj⟩:=hj;rcases hg n o' hn with⟨rfl,rfl⟩ | ⟨hne,hn'⟩
   ·subst he;rw[Pl.new_same] at hj;exact hj
   rw[hρ n (h.lt n o' hn')] at hnb;have:=h.blk_lt hn'
   omega
  have:=h.old _ _ hj;omega) rfl
 refine⟨Pl.new ρ s.c (b,pos),hρ,Nat.le_succ _,?_,h2,hfr _,hU⟩
 refine h.step (s' :=s.new o) (hfr _) hρ (Nat.le_succ _) (fun n o' hn=> ?_) (fun n o' hn=> ?_) hU (fun n m o1 o2 hn hm' hne=> ?_) (fun n o' hn=> ?_)
 ·show n<s.c+1
  rcases hg n o' hn with⟨rfl,_⟩ | ⟨_,hn'⟩
  ·omega
  have:=h.lt n o' hn';omega
 ·rcases hg n o' hn with⟨rfl,rfl⟩ | ⟨_,hn'⟩
  ·right;rw[Pl.new_same];exact h1
  exact .inl ⟨h.lt n o' hn',hn',hb _ (h.blk_lt hn')⟩
 ·rcases hg n o1 hn with⟨rfl,_⟩ | ⟨hn1,hn'⟩<;> rcases hg m o2 hm' with⟨rfl,_⟩ | ⟨hm1,hm''⟩
  ·exact absurd rfl hne
  ·rw[Pl.new_same,hρ m (h.lt m o2 hm'')];have:=h.blk_lt hm''
   simp only;omega
  ·rw[Pl.new_same,hρ n (h.lt n o1 hn')];have:=h.blk_lt hn'
   simp only;omega
  rw[hρ n (h.lt n o1 hn'),hρ m (h.lt m o2 hm'')];exact h.inj n m o1 o2 hn' hm'' hne
 rcases hg n o' hn with⟨rfl,_⟩ | ⟨_,hn'⟩
 ·rw[Pl.new_same];simp only;omega
 rw[hρ n (h.lt n o' hn')];exact h.base n o' hn'

/-! ### An object is put anew -/
theorem ZEn:∀{h:List (Nat×AO)} {n:Nat} {o o' :AO},hget h n=some o→hget (hset h n o') n=some o'
 | [],_,_,_,h=>by simp[hget] at h
 | (m,x)::h,n,o,o',hh=>by
  simp only[hget] at hh;by_cases e:n=m
  ·simp[hset,e,hget]
  simp only[if_neg e] at hh;simp[hset,e,hget,ZEn hh]
theorem ZCo:∀{h:List (Nat×AO)} {n m:Nat} {o' :AO},m≠n→hget (hset h n o') m=hget h m
 | [],_,_,_,_=>by simp[hset,hget]
 | (k,x)::h,n,m,o',hne=>by
  simp only[hset];split
  ·rename_i e;subst e;simp[hget,hne]
  simp only[hget];split
  ·rfl
  exact ZCo hne
theorem ZDK:∀{h:List (Nat×AO)} {n:Nat},hget (hdel h n) n=none
 | [],_=>by simp[hdel,hget]
 | (k,x)::h,n=>by
  simp only[hdel];split
  ·exact ZDK
  rename_i hne;simp[hget,hne,ZDK]
theorem ZB7:∀{h:List (Nat×AO)} {n m:Nat},m≠n→hget (hdel h n) m=hget h m
 | [],_,_,_=>by simp[hdel,hget]
 | (k,x)::h,n,m,hne=>by
  simp only[hdel];split
  ·rename_i e;subst e;simp[hget,hne,ZB7 hne]
  simp only[hget];split
  ·rfl
  exact ZB7 hne
theorem ZBk {h:List (Nat×AO)} {n m:Nat} {o:AO} (hh:hget (hdel h n) m=some o):m≠n∧hget h m=some o:=by
 by_cases e:m=n
 ·subst e;rw[ZDK] at hh;cases hh
 exact⟨e,by rwa [ZB7 e] at hh⟩
theorem ZL0 {h:List (Nat×AO)} {n m:Nat} {o o' x:AO} (hn:hget h n=some x) (hh:hget (hset h n o') m=some o):(m=n∧o=o')∨(m≠n∧hget h m=some o):=by
 by_cases e:m=n
 ·subst e;rw[ZEn hn] at hh;injection hh with hh;exact .inl ⟨rfl,hh.symm⟩
 exact .inr ⟨e,by rwa [ZCo e] at hh⟩

theorem Post.put (h:Sim base ρ X s w) {n:Nat} {o0:AO} (hn:hget s.h n=some o0) (hnt:o0≠ .tok) (o:AO) (hot:o≠ .tok)
  (hos:w'.os=w.os) (ht:w'.tape=w.tape) (ho:w'.output=w.output) (hsz:w'.heap.size=w.heap.size) (hb:∀b,b≠(ρ n).1→w'.heap[b]? =w.heap[b]?)
  (hkeep:∀a:Addr,(w.cell? a).isSome=true→(w'.cell? a).isSome=true) (v:AV) (v' :Value)
  (hobj:∀U',Mono w ρ (UX ρ s.h X) s.c w' ρ U' s.c→ObjOk w' ρ U' s.c o (ρ n)∧Rel w' ρ U' s.c v v'):
  Post base ρ X s w v (s.put n o) v' w' :=by
 have hfr:Fr (Umap ρ s.h) w w' :=by
  have hno:∀j,Umap ρ s.h (ρ n).1 j:=fun j=>⟨n,o0,hn,rfl,by cases o0<;> simp_all⟩
  refine⟨hos,ht,ho,Nat.le_of_eq hsz.symm,fun b _ hj=>hb b (fun e=>hj 0 (e▸hno 0)),fun a u hu hj=> ?_,hkeep⟩
  rw[World.cell?_of_block (w:=w) (hb a.block (fun e=>hj (e▸hno _)))];exact hu
 have hg:∀m o',hget (s.put n o).h m=some o' →(m=n∧o' =o)∨(m≠n∧hget s.h m=some o'):=fun m o' hm=>ZL0 hn hm
 have hU:∀b j,b<w.heap.size→Umap ρ (s.put n o).h b j→Umap ρ s.h b j:=by
  rintro b j _ ⟨m,o',hm,hmb,hj⟩;rcases hg m o' hm with⟨rfl,rfl⟩ | ⟨_,hm'⟩
  ·exact⟨m,o0,hn,hmb,by cases o0<;> simp_all⟩
  exact⟨m,o',hm',hmb,hj⟩
 have hm:Mono w ρ (UX ρ s.h X) s.c w' ρ (UX ρ (s.put n o).h X) s.c:= .step (s' :=s.put n o) h.old hfr (fun _ _=>rfl) (Nat.le_refl _) hU
 obtain⟨h1,h2⟩:=hobj _ hm;refine⟨ρ,fun _ _=>rfl,Nat.le_refl _,?_,h2,hfr,hU⟩
 refine h.step (s' :=s.put n o) hfr (fun _ _=>rfl) (Nat.le_refl _) (fun m o' hm' => ?_) (fun m o' hm' => ?_) hU (fun m k o1 o2 hm' hk hne=> ?_) (fun m o' hm' => ?_)
 ·rcases hg m o' hm' with⟨rfl,_⟩ | ⟨_,hm''⟩
  ·exact h.lt m o0 hn
  exact h.lt m o' hm''
 ·rcases hg m o' hm' with⟨rfl,rfl⟩ | ⟨hne,hm''⟩
  ·exact .inr h1
  exact .inl ⟨h.lt m o' hm'',hm'',hb _ (h.inj m n o' o0 hm'' hn hne)⟩
 ·obtain⟨x,hx⟩:∃x,hget s.h m=some x:=(hg m o1 hm').elim (fun e=>⟨_,e.1▸hn⟩) (fun e=>⟨_,e.2⟩)
  obtain⟨y,hy⟩:∃x,hget s.h k=some x:=(hg k o2 hk).elim (fun e=>⟨_,e.1▸hn⟩) (fun e=>⟨_,e.2⟩)
  exact h.inj m k x y hx hy hne
 rcases hg m o' hm' with⟨rfl,_⟩ | ⟨_,hm''⟩
 ·exact h.base m o0 hn
 exact h.base m o' hm''

theorem Sim.del (h:Sim base ρ X s w) (n:Nat):Sim base ρ X (s.del n) w:=
 h.step (s' :=s.del n) (Fr.refl _ _) (fun _ _=>rfl) (Nat.le_refl _) (fun m o hm=>h.lt m o (ZBk hm).2)
  (fun m o hm=> .inl ⟨h.lt m o (ZBk hm).2,(ZBk hm).2,rfl⟩)
  (by rintro b j _ ⟨m,o,hm,hr⟩;exact⟨m,o,(ZBk hm).2,hr⟩)
  (fun m k o1 o2 hm hk hne=>h.inj m k o1 o2 (ZBk hm).2 (ZBk hk).2 hne) (fun m o hm=>h.base m o (ZBk hm).2)
theorem Umap.del {n b j:Nat} (h:Umap ρ (s.del n).h b j):Umap ρ s.h b j:=by
 obtain⟨m,o,hm,hr⟩:=h;exact⟨m,o,(ZBk hm).2,hr⟩

theorem Post.trans {v1 v2:AV} {u1 u2:Value} {s1 s2:St} {w1 w2:World} (h:Post base ρ X s w v1 s1 u1 w1)
  (k:∀ρ1,Sim base ρ1 X s1 w1→Rel w1 ρ1 (UX ρ1 s1.h X) s1.c v1 u1→(∀n,n<s.c→ρ1 n=ρ n)→Post base ρ1 X s1 w1 v2 s2 u2 w2):Post base ρ X s w v2 s2 u2 w2:=by
 obtain⟨ρ1,h1,h2,h3,h4,h5,h6⟩:=h;obtain⟨ρ2,k1,k2,k3,k4,k5,k6⟩:=k ρ1 h3 h4 h1;refine⟨ρ2,fun n hn=>(k1 n (Nat.lt_of_lt_of_le hn h2)).trans (h1 n hn),Nat.le_trans h2 k2,k3,k4,h5.trans k5 h6,fun b j hb hj=>h6 b j hb (k6 b j (Nat.lt_of_lt_of_le hb h5.size) hj)⟩
end
end Go.Ai
end
section
namespace Go.Ai
section
variable {P:Program} {base:Nat} {ρ:Pl} {X U:Reg} {c:Nat} {s s' :St} {w:World}

def Does (P:Program) (base:Nat) (ρ:Pl) (X:Reg) (s:St) (w:World) (m:Sem Value) (v:AV) (s' :St):Prop:=
 ∃v' w',m.run P w= .ok v' w' ∧Post base ρ X s w v s' v' w'
def Gives (P:Program) (w:World) (ρ:Pl) (U:Reg) (c:Nat) (m:Sem Value) (v:AV):Prop:=
 ∃v',m.run P w= .ok v' w∧Rel w ρ U c v v'
theorem Gives.does {m:Sem Value} {v:AV} (h:Sim base ρ X s w) (g:Gives P w ρ (UX ρ s.h X) s.c m v):Does P base ρ X s w m v s:=by
 obtain⟨v',h1,h2⟩:=g;exact⟨v',w,h1, .same h h2⟩

/-! ### Constants -/
theorem ZKN:∀{v:Value} {x:AV},ZLw v=some x→Rel w ρ U c x v:=by
 intro v x h;unfold ZLw at h;split at h;all_goals first
  | (injection h with h;subst h;simp[Rel];done)
  | skip
 ·split at h
  ·rename_i f first captured hsz;injection h with h;subst h
   simp only[Rel,RelL];refine⟨[],[],?_,rfl,rfl⟩
   have e1:first= #[]:=by simpa using hsz.1
   have e2:captured= #[]:=by simpa using hsz.2
   simp[e1,e2]
  cases h
 cases h
theorem ZIo:∀{vs:List Value} {xs:List AV},vs.mapM ZLw=some xs→RelL w ρ U c xs vs
 | [],xs,h=>by simp at h;subst h;simp[RelL]
 | v::vs,xs,h=>by
  simp only[List.mapM_cons,oC,oB,Option.pure_def] at h;obtain⟨x,hx,ys,hys,h⟩:=h;injection h with h;subst h
  simp only[RelL];exact⟨v,vs,rfl,ZKN hx,ZIo hys⟩
theorem ZEH {v:Value} {x:AV} (h:ZLx v=some x):Rel w ρ U c x v:=by
 unfold ZLx at h;split at h
 ·rename_i cs;simp only[Option.map_eq_some_iff] at h;obtain⟨xs,h1,rfl⟩:=h;simp only[Rel];exact⟨cs.toList,by simp,ZIo h1⟩
 ·rename_i cs;split at h
  ·injection h with h;subst h
   have e:cs= #[]:=by simpa using ‹cs.size=0›
   subst e;simp only[Rel,RelL];exact⟨[],rfl,rfl⟩
  cases h
 exact ZKN h

theorem ZAW {fr:List AV} {a:Act} (hf:RelL w ρ U c fr a.tmps.toList) {x:Operand} {v:AV} (h:ZAp fr x=some v):Rel w ρ U c v (a.eval x):=by
 cases x with
 | tmp t=>
  simp only[ZAp] at h;injection h with h;subst h
  have:=hf.getD t
  simpa[Act.eval] using this
 | const v' =>exact ZEH h
 | global g=>
  simp only[ZAp] at h;injection h with h;subst h
  simp[Rel,Act.eval]
 | func f=>
  simp only[ZAp] at h;injection h with h;subst h
  simp only[Rel,RelL,Act.eval];exact⟨[],[],rfl,rfl,rfl⟩
theorem ZB2 {fr:List AV} {a:Act} (hf:RelL w ρ U c fr a.tmps.toList):∀{xs:List Operand} {vs:List AV},ZBq fr xs=some vs→RelL w ρ U c vs (xs.map a.eval)
 | [],vs,h=>by simp[ZBq] at h;subst h;simp[RelL]
 | x::xs,vs,h=>by
  simp only[ZBq,List.mapM_cons,oC,oB,Option.pure_def] at h;obtain⟨v,hv,us,hus,h⟩:=h;injection h with h;subst h
  simp only[RelL,List.map_cons];exact⟨_,_,rfl,ZAW hf hv,ZB2 hf hus⟩
theorem ZIY {fr:List AV} {a:Act} (hf:RelL w ρ U c fr a.tmps.toList) (d:Option Tmp) {v:AV} {v' :Value} (hr:Rel w ρ U c v v'):RelL w ρ U c (aPut fr d v) (a.put d v').tmps.toList:=by
 cases d with
 | none=>exact hf
 | some d=>simpa[aPut,Act.put] using hf.set d hr

/-! ### Types -/
theorem ZSZ {t:TypeId} {z:Nat} (h:szT P t=some z):∃i,P.info? t=some i∧i.size=z:=by
 simpa[szT,Option.map_eq_some_iff] using h
theorem ZAe {t:TypeId} {z:Nat} (h:szT P t=some z) (w:World):(sizeOf t).run P w= .ok z w:=by
 obtain⟨i,h1,h2⟩:=ZSZ h;simp[sizeOf,typeInfo,h1,h2]
theorem ZGT {t:TypeId} {b:Bool} (h:aggT P t=some b) (w:World):(isAgg t).run P w= .ok b w:=by
 unfold aggT at h;unfold isAgg;split at h<;> try cases h
 all_goals
  rename_i hu;simp[run_underlying hu]
 all_goals (split<;> simp_all)
theorem ZGU {t:TypeId} {z:AV} (h:ZBM P t=some z) (w:World):∃zv,(zeroValue t).run P w= .ok zv w∧∀w ρ U c,Rel w ρ U c z zv:=by
 simp only[ZBM,oC,oB] at h;obtain⟨i,h1,zv,h2,h3⟩:=h;exact⟨zv,by simp[zeroValue,typeInfo,h1,h2],fun w ρ U c=>ZEH h3⟩
theorem ZA3 {t:TypeId} {k:Nat} (h:ZBF P t=some k):szT P t=some (esz k)∧aggT P t=some (decide (k≠0)):=by
 simp only[ZBF,oC,oB] at h;obtain⟨z,h1,b,h2,h3⟩:=h
 cases b with
 | true=>
  simp at h3
  obtain⟨h3,rfl⟩:=h3;simp[esz,h3,h1,h2]
 | false=>
  simp at h3
  obtain⟨rfl,rfl⟩:=h3;simp[esz,h1,h2]

/-! ### Parts of a row of cells -/
theorem ZHq {t:TypeId} {A:Addr} {cs:List AV} {vs:List Value} {off:Nat} {v:AV} (hcs:RelL w ρ U c cs vs)
  (hcell:∀j u,vs[off+j]? =some u→w.cell? (A.add j)=some u) (h:ZEx P t cs off=some v):Gives P w ρ U c (loadVar t A) v:=by
 simp only[ZEx,oC,oB] at h;obtain⟨b,hb,h⟩:=h
 cases b with
 | true=>
  simp only[if_true,oB] at h;obtain⟨z,hz,h⟩:=h;split at h
  ·rename_i hle;injection h with h;subst h
   have hl:((vs.drop off).take z).length=z:=by
    have:=hcs.length
    simp;omega
   have hrun:=run_loadCells_list (P:=P) w A ((vs.drop off).take z) (fun j u hj=>hcell j u (by
    rw[List.getElem?_take] at hj;split at hj
    ·rwa [List.getElem?_drop] at hj
    cases hj))
   rw[hl] at hrun;refine⟨.agg ((vs.drop off).take z).toArray,?_,?_⟩
   ·unfold loadVar;simp[ZGT hb,ZAe hz,hrun]
   simp only[Rel];exact⟨_,rfl,(hcs.drop off).take z⟩
  cases h
 | false=>
  simp only[Bool.false_eq_true,if_false] at h;obtain⟨u,hu,hr⟩:=hcs.get h;refine⟨u,?_,hr⟩
  unfold loadVar;have:=hcell 0 u (by simpa using hu)
  simp only[Addr.add,if_true] at this;simp[ZGT hb,this]
theorem ZL1 {t:TypeId} {cs:List AV} {vs:List Value} {off:Nat} {v:AV} (hcs:RelL w ρ U c cs vs) (h:ZEx P t cs off=some v):Gives P w ρ U c (part t vs.toArray off) v:=by
 simp only[ZEx,oC,oB] at h;obtain⟨b,hb,h⟩:=h
 cases b with
 | true=>
  simp only[if_true,oB] at h;obtain⟨z,hz,h⟩:=h;split at h
  ·rename_i hle;injection h with h;subst h
   refine⟨.agg (vs.toArray.extract off (off+z)),?_,?_⟩
   ·unfold part;simp[ZGT hb,ZAe hz]
   simp only[Rel];refine⟨(vs.drop off).take z,?_,(hcs.drop off).take z⟩
   congr 1
   apply Array.ext'
   simp[List.extract_eq_take_drop]
  cases h
 | false=>
  simp only[Bool.false_eq_true,if_false] at h;obtain⟨u,hu,hr⟩:=hcs.get h;refine⟨u,?_,hr⟩
  unfold part;simp[ZGT hb,hu]

theorem ZFM {g:Nat} {C:Array Value} {e:TypeId} {fz:Nat×Nat} (hg:w.heap[g]? =some (.cells C e fz)) (j:Nat):w.cell? ⟨g,j,none⟩=C[j]? :=cell_of_row w g j C e fz hg

theorem ZKO {t:TypeId} {a v:AV} {av:Value} (h:Sim base ρ X s w) (ha:Rel w ρ (UX ρ s.h X) s.c a av) (hl:ZEy P t a s=some v):Gives P w ρ (UX ρ s.h X) s.c (Instr.loadAt t av) v:=by
 unfold ZEy at hl;split at hl
 ·rename_i n off;split at hl
  ·rename_i cs hg;simp only[Rel] at ha;obtain⟨_,rfl⟩:=ha;obtain⟨C,e,fz,h1,h2,h3,h4⟩:=h.obj n _ hg;obtain⟨v',hrun,hr⟩:=ZHq (P:=P) (A:=⟨(ρ n).1,off,none⟩) h3 (fun j u hj=>by
    rw[ZBf,ZFM h1];simpa using hj) hl
   exact⟨v',by simpa[Instr.loadAt,Instr.sureAddr] using hrun,hr⟩
  cases hl
 ·rename_i k xs i off;simp only[oC,oB] at hl;obtain⟨x,hx,hl⟩:=hl;simp only[Rel] at ha;obtain⟨h1,h2,A,rfl,cs,h4,h5⟩:=ha;obtain⟨u,h6,h7,h8⟩:=h4.get hx;obtain⟨v',hrun,hr⟩:=ZHq (P:=P) (A:=A.add (i*esz k+off)) h7.cells (fun j y hj=>by
   rw[ZIX];have:=(h5 _ y (h8 (off+j) y (by simpa using hj))).1
   rwa [show i*esz k+off+j=i*esz k+(off+j) by omega]) hl
  exact⟨v',by simpa[Instr.loadAt,Instr.sureAddr] using hrun,hr⟩
 ·rename_i g off;simp only[oC,oB] at hl;obtain⟨cs,hg,hl⟩:=hl;simp only[Rel] at ha;subst ha;obtain⟨_,vs,h2,h3⟩:=h.glob g cs hg;obtain⟨v',hrun,hr⟩:=ZHq (P:=P) (A:=⟨g,off,none⟩) h2 (fun j u hj=>by
   rw[ZBf];exact(h3 _ u hj).1) hl
  exact⟨v',by simpa[Instr.loadAt,Instr.sureAddr] using hrun,hr⟩
 cases hl

/-! ### Stores -/
theorem ZEI (P:Program) (g o:Nat) (t:TypeId) (fz:Nat×Nat):∀(vs:List Value) (i:Nat) (cur:Array Value) (w:World),w.heap[g]? =some (.cells cur t fz)→ZLz cur fz→o+i+vs.length≤cur.size→(∀v∈vs,v.oneCell' =true)→
  (storeCells ⟨g,o,none⟩ vs i).run P w= .ok () (w.setRow g (cur.toList.take (o+i)++vs++cur.toList.drop (o+i+vs.length)).toArray)
 | [],i,cur,w,hg,_,_,_=>by
  simp only[storeCells,List.append_nil,List.length_nil,Nat.add_zero,List.take_append_drop,Array.toArray_toList];rw[setRow_self w g cur t fz hg];rfl
 | v::rest,i,cur,w,hg,hfz,hl,h1=>by
  have hi:o+i<cur.size:=by simp at hl;omega
  have hcell:w.cell? ⟨g,o+i,none⟩=some cur[o+i]:=by simp[World.cell?,hg,hi]
  have hfro:w.frozen? ⟨g,o+i,none⟩=false:=by
   obtain⟨lo,hi'⟩:=fz;have:=hfz (o+i) hi
   simp only[World.frozen?,hg];simp only at this
   by_cases h1:lo≤o+i
   ·have:¬(o+i<hi'):=fun h2=>this ⟨h1,h2⟩
    simp[this]
   simp[h1]
  have hst:(store ((⟨g,o,none⟩:Addr).add i) v).run P w= .ok () (w.setRow g (cur.setIfInBounds (o+i) v)):=by
   rw[ZBf,run_store P w _ v _ (h1 v (by simp)),hcell]
   simp[hfro,setCell_eq_setRow w g (o+i) cur t fz v hg]
  have ih:=ZEI P g o t fz rest (i+1) (cur.setIfInBounds (o+i) v) (w.setRow g (cur.setIfInBounds (o+i) v)) (setRow_heap w g cur _ t _ hg) (by simpa[ZLz] using hfz) (by simp at hl ⊢;omega) (fun x hx=>h1 x (by simp[hx]))
  simp only[storeCells,Sem.run_bind,hst,Result.andThen_ok,ih,setRow_setRow];congr 3
  have e:=list_seg_step cur.toList (o+i) v rest (by simp at hl ⊢;omega)
  simpa[Array.toList_setIfInBounds,Nat.add_assoc] using e

theorem ZKP {cs vs:List AV} {us ys:List Value} (h:RelL w ρ U c cs us) (k:RelL w ρ U c vs ys) (off:Nat):RelL w ρ U c (ZBC cs off vs) (us.take off++ys++us.drop (off+ys.length)):=by
 unfold ZBC;rw[k.length];exact((h.take off).append k).append (h.drop _)
theorem ZKm {cs vs:List AV} {off:Nat} (h:off+vs.length≤cs.length):(ZBC cs off vs).length=cs.length:=by
 unfold ZBC;simp;omega
theorem ZPg {cs vs:List AV} {off:Nat} (h1:∀x∈cs,x.one=true) (h2:∀x∈vs,x.one=true):∀x∈ZBC cs off vs,x.one=true:=by
 intro x hx;unfold ZBC at hx;rcases List.mem_append.1 hx with hx | hx
 ·rcases List.mem_append.1 hx with hx | hx
  ·exact h1 x (List.mem_of_mem_take hx)
  exact h2 x hx
 exact h1 x (List.mem_of_mem_drop hx)
theorem ZIp {g:Nat} {cur new:Array Value} {t:TypeId} {fz:Nat×Nat} (hg:w.heap[g]? =some (.cells cur t fz)) (hs:new.size=cur.size) (a:Addr) (h:(w.cell? a).isSome=true):((w.setRow g new).cell? a).isSome=true:=by
 by_cases e:a.block=g
 ·obtain⟨b,o,sp⟩:=a;simp only at e;subst e
  cases sp with
  | some q=>simp[World.cell?,hg] at h
  | none=>
   rw[cell_of_row w b o cur t fz hg] at h;rw[cell_setRow_same w b o cur new t fz hg];simp at h ⊢;omega
 rwa [cell_setRow_other w g new a e]

theorem ZFt {n off:Nat} {vs:List AV} {us:List Value} (h:Sim base ρ X s w) (hvs:RelL w ρ (UX ρ s.h X) s.c vs us) (ha:ZBu n off vs s=some s'):
  ∃w',(storeCells ⟨(ρ n).1,off,none⟩ us).run P w= .ok () w' ∧∀(v:AV) (v' :Value),Rel w ρ (UX ρ s.h X) s.c v v' →Post base ρ X s w v s' v' w' :=by
 unfold ZBu at ha;split at ha
 ·rename_i cs hg;split at ha
  ·rename_i hle;injection ha with ha;subst ha
   obtain⟨C,e,fz,h1,h2,h3,h4⟩:=h.obj n _ hg;have hl:=h3.length;have hl2:=hvs.length;simp only[Array.length_toList] at hl;have hone:∀x∈vs,x.one=true:=by simpa using hle.2
   have hrun:=ZEI P (ρ n).1 off e fz us 0 C w h1 h2.weak (by omega) (hvs.one hone)
   simp only[Nat.add_zero] at hrun;refine⟨_,hrun,fun v v' hr=> ?_⟩
   have hsz:((C.toList.take off++us++C.toList.drop (off+us.length)).toArray).size=C.size:=by simp;omega
   refine Post.put (w' :=w.setRow (ρ n).1 (C.toList.take off++us++C.toList.drop (off+us.length)).toArray) h hg (by simp) (.cells (ZBC cs off vs)) (by simp) rfl rfl rfl (by simp) (fun b hb=>setRow_other w _ b _ hb) (fun a ha=>ZIp h1 hsz a ha) v v' (fun U' m=>⟨?_,Rel.mono m _ _ hr⟩)
   refine⟨_,e,fz,setRow_heap w _ C _ e fz h1,?_,?_,ZPg h4 hone⟩
   ·intro j hj;rw[hsz] at hj;exact h2 j hj
   exact RelL.mono m _ _ (ZKP h3 hvs off)
  cases ha
 cases ha

theorem ZPh {t:TypeId} {a x:AV} {av xv:Value} (h:Sim base ρ X s w) (ha:Rel w ρ (UX ρ s.h X) s.c a av) (hx:Rel w ρ (UX ρ s.h X) s.c x xv) (hs:ZED P t a x s=some s'):
  ∃w',(Instr.storeAt t av xv).run P w= .ok () w' ∧Post base ρ X s w .undef s' undef w' :=by
 unfold ZED at hs;split at hs
 ·rename_i n off;split at hs
  ·rename_i hz;simp only[Rel] at ha;obtain⟨_,rfl⟩:=ha;obtain⟨w',h1,h2⟩:=ZFt (P:=P) h hx.cells hs;refine⟨w',?_,h2 _ _ (by simp[Rel,RelL,undef])⟩
   unfold Instr.storeAt storeVar;have:=hx.cells_size
   simp[Instr.sureAddr,ZAe hz,this,h1]
  cases hs
 cases hs

/-! ### New variables -/
theorem ZIq {x v:AV} {xv:Value} (hb:base≤w.heap.size) (h:Sim base ρ X s w) (hx:Rel w ρ (UX ρ s.h X) s.c x xv) (t:TypeId) (hn:ZC6 x s=some (v,s')):
  ∃a w',(newVar t xv).run P w= .ok a w' ∧Post base ρ X s w v s' (.pointer (some a)) w' :=by
 unfold ZC6 at hn;split at hn
 ·rename_i hone;injection hn with hn
  injection hn with hv hs
  subst hv;subst hs;refine⟨⟨w.heap.size,0,none⟩,w.alloc (.cells xv.cells t),by simp[newVar,newRow],?_⟩
  refine Post.new (w' :=w.alloc (.cells xv.cells t)) h rfl rfl rfl (by simp) (fun b hb=> ?_) hb (.cells x.cells) w.heap.size 0 (Nat.le_refl _) _ _ (fun ρ' U' c' m hρ' _ hc' =>⟨?_,?_⟩)
  ·show(w.heap.push _)[b]? =_
   rw[Array.getElem?_push,if_neg (by omega)]
  ·refine⟨xv.cells,t,(0,0),heap_alloc_new w _,by simp[thawedE],RelL.mono m _ _ hx.cells,by simpa using hone⟩
  simp only[Rel];exact⟨by rw[hc'];omega,by rw[hρ']⟩
 cases hn
theorem ZSa {x v:AV} {xv:Value} (hb:base≤w.heap.size) (h:Sim base ρ X s w) (hx:Rel w ρ (UX ρ s.h X) s.c x xv) (t:TypeId) (hn:ZC6 x s=some (v,s')):Does P base ρ X s w (Instr.box t xv) v s' :=by
 obtain⟨a,w',h1,h2⟩:=ZIq (P:=P) hb h hx t hn;exact⟨_,w',by simp[Instr.box,h1],h2⟩
theorem ZPi {v:AV} (hb:base≤w.heap.size) (h:Sim base ρ X s w) (t:TypeId) (hn:ZIi P t s=some (v,s')):Does P base ρ X s w (Instr.alloc t true (.tuple #[])) v s' :=by
 simp only[ZIi,oC,oB] at hn;obtain⟨z,hz,hn⟩:=hn;obtain⟨zv,hzr,hzz⟩:=ZGU hz w;obtain⟨a,w',h1,h2⟩:=ZIq (P:=P) hb h (hzz w ρ _ _) t hn;exact⟨_,w',by simp[Instr.alloc,hzr,h1],h2⟩
end
end Go.Ai
end
section
namespace Go.Ai
section
variable {P:Program} {ρ:Pl} {U:Reg} {c:Nat} {w:World}

theorem ZQU (l:List UInt8):(⟨l.toArray⟩:ByteArray).toList=l:=by
 rw[ByteArray.toList_eq]
theorem ZQV (a b:List UInt8):(⟨a.toArray⟩:ByteArray)++⟨b.toArray⟩=⟨(a++b).toArray⟩:=by
 apply ByteArray.ext
 simp

theorem ZIr {op:BinOp} {k yk:IntKind} {a b:Int} {v:AV} (h:ZIk op k a b=some v):Gives P w ρ U c (Op.shift op k a yk b) v:=by
 unfold ZIk at h;split at h
 ·cases h
 rename_i hb;split at h<;> first | (cases h;done) | (injection h with h;subst h;exact⟨_,by simp[Op.shift,hb];rfl,by simp[Rel]⟩)
theorem ZQW {op:BinOp} {t:TypeId} {k:IntKind} {a b:Int} {v:AV} (hs:op≠ .shl) (hr:op≠ .shr) (h:ZIj op k a b=some v):Gives P w ρ U c (binOp op t (.int k a) (.int k b)) v:=by
 cases op<;> simp only[ZIj] at h<;> first
  | (exact absurd rfl hs)
  | (exact absurd rfl hr)
  | (injection h with h;subst h;exact⟨_,by simp[binOp,Op.intArith,Op.intCmp,Op.intBits];rfl,by simp[Rel]⟩)
  | skip
 all_goals
  split at h
  ·cases h
  rename_i hb;injection h with h;subst h
  exact⟨_,by simp[binOp,Op.intDiv,hb];rfl,by simp[Rel]⟩
theorem ZQX {op:BinOp} {a b:List UInt8} {v:AV} (h:cmpB op (a==b) (Op.bytesLess a b)=some v):Gives P w ρ U c (Op.stringOp op ⟨a.toArray⟩ ⟨b.toArray⟩) v:=by
 cases op<;> simp only[cmpB] at h<;> first
  | (cases h;done)
  | (injection h with h;subst h;exact⟨_,by simp[Op.stringOp,ZQU];rfl,by simp[Rel]⟩)
theorem ZQY {a b:List UInt8} (h:¬((a.length+b.length:Int) > 9223372036854775807)):Gives P w ρ U c (Op.stringOp .add ⟨a.toArray⟩ ⟨b.toArray⟩) (.str (a++b)):=by
 refine⟨.string ⟨(a++b).toArray⟩,?_,by simp[Rel]⟩
 have e1:(⟨a.toArray⟩:ByteArray).size=a.length:=by simp[ByteArray.size]
 have e2:(⟨b.toArray⟩:ByteArray).size=b.length:=by simp[ByteArray.size]
 have:¬(((a.length+b.length:Nat):Int) > 9223372036854775807):=by omega
 simp only[Op.stringOp,e1,e2,IntKind.max_i64,if_neg this,ZQV,Sem.run_pure]

theorem ZGk {t:TypeId} (ht:P.underlying t=some .bool) (a b:Bool) (w:World):(Op.equal t (.bool a) (.bool b)).run P w= .ok (a==b) w:=by
 show(Op.equalIn (9999+1) t _ _).run P w=_
 generalize 9999=d
 simp[Op.equalIn,run_underlying ht]
inductive NilV:TypeDesc→Bool→Value→Prop where
 | p0 {e}:NilV (.pointer e) true (.pointer none)
 | p1 {e a}:NilV (.pointer e) false (.pointer (some a))
 | s0 {e}:NilV (.slice e) true (.slice none 0 0)
 | s1 {e a n m}:NilV (.slice e) false (.slice (some a) n m)
 | m0 {k e}:NilV (.map k e) true (.map none)
 | m1 {k e a}:NilV (.map k e) false (.map (some a))
 | f0 {a b v}:NilV (.func a b v) true .nilFunc
 | f1 {a b v f x y}:NilV (.func a b v) false (.func f x y)
 | i0 {ms}:NilV (.interface ms) true .nilIface
 | i1 {ms t v}:NilV (.interface ms) false (.iface t v)
theorem ZHr {d:TypeDesc} {x:AV} {xv:Value} {a:Bool} (hx:Rel w ρ U c x xv) (ha:ZIl d x=some a):NilV d a xv:=by
 unfold ZIl at ha;split at ha<;> first | (cases ha;done) | (injection ha with ha;subst ha)
 all_goals
  simp only[Rel] at hx;first
   | (subst hx;constructor;done)
   | (obtain⟨_,rfl⟩:=hx;constructor;done)
   | (obtain⟨_,_,_,rfl,_⟩:=hx;constructor;done)
   | (obtain⟨_,_,rfl,_⟩:=hx;constructor;done)
   | (obtain⟨_,rfl,_⟩:=hx;constructor;done)
theorem ZDu {d:TypeDesc} {t:TypeId} (ht:P.underlying t=some d) {xv yv:Value} {a b:Bool} (hx:NilV d a xv) (hy:NilV d b yv) (hab:(a || b)=true) (w:World):
  (Op.equal t xv yv).run P w= .ok (a && b) w:=by
 show(Op.equalIn (9999+1) t _ _).run P w=_
 generalize 9999=q
 cases hx<;> cases hy<;> first
  | (simp at hab;done)
  | (simp[Op.equalIn,run_underlying ht];done)
theorem NilV.noBin {d:TypeDesc} {t:TypeId} {xv yv:Value} {a b:Bool} (hx:NilV d a xv) (hy:NilV d b yv):
  binOp .eql t xv yv=(do pure (.bool (←Op.equal t xv yv)))∧binOp .neq t xv yv=(do pure (.bool (!(←Op.equal t xv yv)))):=by
 cases hx<;> cases hy<;> exact⟨rfl,rfl⟩
theorem NilV.noAgg {d:TypeDesc} {xv:Value} {a:Bool} (hx:NilV d a xv) (cs:Array Value):xv≠ .agg cs:=by cases hx<;> simp
theorem NilV.ifc {d:TypeDesc} {a:Bool} (hx:NilV d a .nilIface):a=true:=by cases hx;rfl
theorem ZGt {op:BinOp} {t:TypeId} {ox oy:Operand} {xv yv:Value} (hnn:xv= .nilIface→yv= .nilIface→(isC ox || isC oy)=true) (hna:∀cs,xv≠ .agg cs) (w:World):
  (eqGuard op t ox oy xv yv).run P w= .ok () w:=by
 cases xv with
 | nilIface=>
  cases yv with
  | nilIface=>
   have:=hnn rfl rfl
   cases ox<;> simp[isC] at this
   case const v=>rw[eqGuard_nil_constL];rfl
   all_goals
    cases oy<;> simp[isC] at this
    rw[eqGuard_nil_constR];rfl
  | _=>cases op<;> rfl
 | agg cs=>exact absurd rfl (hna cs)
 | _=>cases op<;> rfl

theorem ZGu {t:TypeId} {x y:AV} {cc:Bool} {b:Bool} (h:ZHH P t x y cc=some b):
  ∃d a1 a2,P.underlying t=some d∧ZIl d x=some a1∧ZIl d y=some a2∧(a1 || a2)=true∧b=(a1 && a2)∧(x= .nifc∧y= .nifc→cc=true):=by
 simp only[ZHH,oC,oB] at h;obtain⟨d,hd,a1,h1,a2,h2,h⟩:=h;by_cases hor:(a1 || a2)=true
 ·rw[if_pos hor] at h;by_cases hno:(a1 && a2 && (ZNP d && !cc))=true
  ·rw[if_pos hno] at h;cases h
  rw[if_neg hno] at h;injection h with h
  refine⟨d,a1,a2,hd,h1,h2,hor,h.symm,?_⟩
  rintro⟨rfl,rfl⟩
  cases d<;> simp[ZIl] at h1 h2
  subst h1;subst h2;simpa[ZNP] using hno
 rw[if_neg hor] at h;cases h

theorem ZIs {op:BinOp} {t:TypeId} {ox oy:Operand} {x y v:AV} {xv yv:Value} (hx:Rel w ρ U c x xv) (hy:Rel w ρ U c y yv) (h:ZC4 P op t x y (isC ox) (isC oy)=some v):
  Gives P w ρ U c (do eqGuard op t ox oy xv yv;binOp op t xv yv) v:=by
 have fin:(eqGuard op t ox oy xv yv).run P w= .ok () w→Gives P w ρ U c (binOp op t xv yv) v→Gives P w ρ U c (do eqGuard op t ox oy xv yv;binOp op t xv yv) v:=by
  rintro h1 ⟨v',h2,h3⟩;exact⟨v',by simp[h1,h2],h3⟩
 unfold ZC4 at h;split at h
 ·rename_i k a yk b;simp only[Rel] at hx hy;subst hx;subst hy;exact fin (by simp[eqGuard]) (ZIr (yk:=yk) h)
 ·rename_i k a yk b;simp only[Rel] at hx hy;subst hx;subst hy;exact fin (by simp[eqGuard]) (ZIr (yk:=yk) h)
 ·rename_i k a k' b hn1 hn2;split at h
  ·rename_i e;subst e;simp only[Rel] at hx hy;subst hx;subst hy;exact fin (by rw[eqGuard_at_int];rfl) (ZQW hn1 hn2 h)
  cases h
 ·rename_i a b;simp only[Rel] at hx hy;subst hx;subst hy;split at h
  ·cases h
  injection h with h;subst h
  exact fin (by rw[eqGuard_at_string];rfl) (ZQY ‹_›)
 ·rename_i a b _;simp only[Rel] at hx hy;subst hx;subst hy;exact fin (by rw[eqGuard_at_string];rfl) (by simpa[binOp] using ZQX h)
 ·rename_i a b;simp only[Rel] at hx hy;subst hx;subst hy;split at h
  ·rename_i ht;injection h with h;subst h
   exact fin (by rw[eqGuard_at_bool];rfl) ⟨.bool (a==b),by simp[binOp,ZGk ht],by simp[Rel]⟩
  cases h
 ·rename_i a b;simp only[Rel] at hx hy;subst hx;subst hy;split at h
  ·rename_i ht;injection h with h;subst h
   exact fin (by rw[eqGuard_at_bool];rfl) ⟨.bool (a !=b),by simp[binOp,ZGk ht,bne],by simp[Rel]⟩
  cases h
 ·simp only[Option.map_eq_some_iff] at h;obtain⟨b,h,rfl⟩:=h;obtain⟨d,a1,a2,hd,h1,h2,hor,rfl,hnn⟩:=ZGu h;have n1:=ZHr hx h1;have n2:=ZHr hy h2;refine fin (ZGt (fun e1 e2=>hnn ⟨?_,?_⟩) n1.noAgg w) ⟨.bool (a1 && a2),?_,by simp[Rel]⟩
  ·subst e1;have:=n1.ifc;cases x<;> simp only[Rel] at hx<;> simp_all
  ·subst e2;have:=n2.ifc;cases y<;> simp only[Rel] at hy<;> simp_all
  rw[(n1.noBin n2).1];simp[ZDu hd n1 n2 hor]
 ·simp only[Option.map_eq_some_iff] at h;obtain⟨b,h,rfl⟩:=h;obtain⟨d,a1,a2,hd,h1,h2,hor,rfl,hnn⟩:=ZGu h;have n1:=ZHr hx h1;have n2:=ZHr hy h2;refine fin (ZGt (fun e1 e2=>hnn ⟨?_,?_⟩) n1.noAgg w) ⟨.bool !(a1 && a2),?_,by simp[Rel]⟩
  ·subst e1;have:=n1.ifc;cases x<;> simp only[Rel] at hx<;> simp_all
  ·subst e2;have:=n2.ifc;cases y<;> simp only[Rel] at hy<;> simp_all
  rw[(n1.noBin n2).2];simp[ZDu hd n1 n2 hor]
 cases h

theorem ZKQ {op:UnOp} {x v:AV} {xv:Value} (hx:Rel w ρ U c x xv) (h:ZQP op x=some v):Gives P w ρ U c (Op.unary op xv) v:=by
 unfold ZQP at h;split at h
 ·simp only[Rel] at hx;subst hx;injection h with h;subst h
  exact⟨_,by simp[Op.unary,Op.intArith];rfl,by simp[Rel]⟩
 ·simp only[Rel] at hx;subst hx;simp only[ZIj] at h;injection h with h;subst h
  exact⟨_,by simp[Op.unary,Op.intBits];rfl,by simp[Rel]⟩
 ·simp only[Rel] at hx;subst hx;injection h with h;subst h
  exact⟨_,by simp[Op.unary];rfl,by simp[Rel]⟩
 cases h
end
end Go.Ai
end
section
namespace Go.Ai
section
variable {P:Program} {base:Nat} {ρ:Pl} {X U:Reg} {c:Nat} {s:St} {w:World}

theorem ZIZ {x:AV} {xv:Value} {i:Int} (hx:Rel w ρ U c x xv) (h:aInt x=some i):∃k,xv= .int k i:=by
 cases x<;> simp only[aInt] at h<;> first
  | (cases h;done)
  | (injection h with h;subst h;simp only[Rel] at hx;exact⟨_,hx⟩)

theorem mk_getElem? (l:List UInt8) (i:Nat):(⟨l.toArray⟩:ByteArray)[i]? =l[i]? :=by
 have hs:(⟨l.toArray⟩:ByteArray).size=l.length:=by simp[ByteArray.size]
 by_cases h:i<l.length
 ·rw[getElem?_pos (⟨l.toArray⟩:ByteArray) i (by rw[hs];exact h),List.getElem?_eq_getElem h]
  rfl
 rw[getElem?_neg (⟨l.toArray⟩:ByteArray) i (by rw[hs];exact h),List.getElem?_eq_none (by omega)]

theorem ZNQ {t:TypeId} {x i v:AV} {xv iv:Value} (hx:Rel w ρ U c x xv) (hi:Rel w ρ U c i iv) (h:ZOc P t x i=some v):Gives P w ρ U c (Instr.index t xv iv) v:=by
 simp only[ZOc,oC,oB] at h;obtain⟨n,hn,d,hd,h⟩:=h;obtain⟨k,rfl⟩:=ZIZ hi hn;unfold Instr.index;split at h
 ·rename_i l;simp only[Rel] at hx;subst hx;split at h
  ·rename_i h0;simp only[Option.map_eq_some_iff] at h;obtain⟨b,hb,rfl⟩:=h;refine⟨.int .u8 b.toNat,?_,by simp[Rel]⟩
   simp[asIntOf,run_underlying hd,h0,mk_getElem?,hb]
  cases h
 ·rename_i len e cs;simp only[oB] at h;obtain⟨z,hz,h⟩:=h;split at h
  ·rename_i h01;simp only[Rel] at hx;obtain⟨vs,rfl,hl⟩:=hx;obtain⟨v',h1,h2⟩:=ZL1 (P:=P) hl h;refine⟨v',?_,h2⟩
   simp[asIntOf,run_underlying hd,ZAe hz,h01,h1]
  cases h
 cases h

theorem ZIt {t:TypeId} {x i v:AV} {xv iv:Value} (hx:Rel w ρ U c x xv) (hi:Rel w ρ U c i iv) (h:ZD5 P t x i=some v):Gives P w ρ U c (Instr.indexAt t xv iv) v:=by
 simp only[ZD5,oC,oB] at h;obtain⟨n,hn,d,hd,h⟩:=h;obtain⟨k,rfl⟩:=ZIZ hi hn;unfold Instr.indexAt;split at h
 ·rename_i len e m off;simp only[oB] at h;obtain⟨z,hz,h⟩:=h;split at h
  ·rename_i h01;injection h with h;subst h
   simp only[Rel] at hx;obtain⟨h1,rfl⟩:=hx;refine⟨.pointer (some ⟨(ρ m).1,off+n.toNat*z,none⟩),?_,?_⟩
   ·simp[asIntOf,run_underlying hd,ZAe hz,h01,Instr.sureAddr,ZBf]
   simp[Rel,h1]
  cases h
 ·rename_i len e g off;simp only[oB] at h;obtain⟨z,hz,h⟩:=h;split at h
  ·rename_i h01;injection h with h;subst h
   simp only[Rel] at hx;subst hx;refine⟨.pointer (some ⟨g,off+n.toNat*z,none⟩),?_,by simp[Rel]⟩
   simp[asIntOf,run_underlying hd,ZAe hz,h01,Instr.sureAddr,ZBf]
  cases h
 ·rename_i len e kk xs j off;simp only[oB] at h;obtain⟨z,hz,h⟩:=h;split at h
  ·rename_i h01;injection h with h;subst h
   simp only[Rel] at hx;obtain⟨h1,h2,A,rfl,cs,h3,h4⟩:=hx;refine⟨.pointer (some ((A.add (j*esz kk+off)).add (n.toNat*z))),?_,?_⟩
   ·simp[asIntOf,run_underlying hd,ZAe hz,h01,Instr.sureAddr]
   simp only[Rel];exact⟨h1,h01.2.2,A,by rw[ZIX,Nat.add_assoc],cs,h3,h4⟩
  cases h
 ·rename_i e kk xs cp;simp only[oB] at h;obtain⟨z,hz,h⟩:=h;split at h
  ·rename_i h01;injection h with h;subst h
   obtain⟨rfl,h0,h1⟩:=h01;simp only[Rel] at hx;obtain⟨A,cap,cs,rfl,h2,h3,h4,h5⟩:=hx;refine⟨.pointer (some (A.add (n.toNat*esz z))),?_,?_⟩
   ·simp[asIntOf,run_underlying hd,ZAe (ZA3 hz).1,h0,h1]
   simp only[Rel];exact⟨by omega,ZEG _,A,by rw[Nat.add_zero],cs,h3,h4⟩
  cases h
 ·rename_i e kk m off len cap;simp only[oB] at h;obtain⟨z,hz,h⟩:=h;split at h
  ·rename_i h01;injection h with h;subst h
   obtain⟨rfl,h0,h1⟩:=h01;simp only[Rel] at hx;obtain⟨h2,rfl⟩:=hx;refine⟨.pointer (some ⟨(ρ m).1,off+n.toNat*esz z,none⟩),?_,?_⟩
   ·simp[asIntOf,run_underlying hd,ZAe (ZA3 hz).1,h0,h1,ZBf]
   simp[Rel,h2]
  cases h
 cases h

theorem ZIu {t:TypeId} {x v:AV} {xv:Value} {f:Nat} (hx:Rel w ρ U c x xv) (h:ZCc P t x f=some v):Gives P w ρ U c (Instr.fieldAt t xv f) v:=by
 simp only[ZCc,oC,oB] at h;obtain⟨d,hd,h⟩:=h;split at h
 ·rename_i fs;simp only[oB] at h;obtain⟨fd,hf,z,hz,h⟩:=h;split at h
  ·cases h
  rename_i hz0;unfold Instr.fieldAt fieldPlace;split at h
  ·rename_i n off;injection h with h;subst h
   simp only[Rel] at hx;obtain⟨h1,rfl⟩:=hx;refine⟨.pointer (some ⟨(ρ n).1,off+fd.offset,none⟩),?_,?_⟩
   ·simp[run_underlying hd,hf,Instr.sureAddr,ZAe hz,hz0,ZBf]
   simp[Rel,h1]
  ·rename_i g off;injection h with h;subst h
   simp only[Rel] at hx;subst hx;refine⟨.pointer (some ⟨g,off+fd.offset,none⟩),?_,by simp[Rel]⟩
   simp[run_underlying hd,hf,Instr.sureAddr,ZAe hz,hz0,ZBf]
  ·rename_i k xs i off;split at h
   ·rename_i hlt;injection h with h;subst h
    simp only[Rel] at hx;obtain⟨h1,h2,A,rfl,cs,h3,h4⟩:=hx;refine⟨.pointer (some ((A.add (i*esz k+off)).add fd.offset)),?_,?_⟩
    ·simp[run_underlying hd,hf,Instr.sureAddr,ZAe hz,hz0]
    simp only[Rel];exact⟨h1,hlt,A,by rw[ZIX,Nat.add_assoc],cs,h3,h4⟩
   cases h
  cases h
 cases h

theorem ZNR {t:TypeId} {x v:AV} {xv:Value} {f:Nat} (hx:Rel w ρ U c x xv) (h:ZOb P t x f=some v):Gives P w ρ U c (Instr.field t xv f) v:=by
 simp only[ZOb,oC,oB] at h;obtain⟨d,hd,h⟩:=h;split at h
 ·simp only[oB] at h;obtain⟨fd,hf,h⟩:=h;split at h
  ·rename_i cs;simp only[Rel] at hx;obtain⟨vs,rfl,hl⟩:=hx;obtain⟨v',h1,h2⟩:=ZL1 (P:=P) hl h;refine⟨v',?_,h2⟩
   unfold Instr.field;simp[run_underlying hd,hf,asAgg,h1]
  cases h
 cases h

/-! ### Bounds of a slice -/
def RelO (w:World) (ρ:Pl) (U:Reg) (c:Nat):Option AV→Option Value→Prop
 | none,none=>True
 | some x,some v=>Rel w ρ U c x v
 | _,_=>False
theorem ZE1 {x:AV} {xv:Value} {d y y' n:Nat} {cd:BoundsCode} (hx:Rel w ρ U c x xv) (hy:y≤y') (h:bnd (some x) d y=some n):(Instr.sliceBound xv y' cd).run P w= .ok n w∧n≤y:=by
 unfold bnd at h;split at h
 ·rename_i he;cases he
 ·rename_i k i he;injection he with he;subst he
  simp only[Rel] at hx;subst hx;split at h
  ·rename_i h01;injection h with h;subst h
   have:i≤y' :=by omega
   exact⟨by simp[Instr.sliceBound,asIntOf,h01.1,this],by omega⟩
  cases h
 cases h
theorem ZD6 {isSlice:Bool} {len cap cap' :Nat} {lo hi mx:Option AV} {lov hiv mxv:Option Value} {a b m:Nat} (hlo:RelO w ρ U c lo lov) (hhi:RelO w ρ U c hi hiv) (hmx:RelO w ρ U c mx mxv) (hc:cap≤cap') (hl:len≤cap)
  (h:bnds len cap lo hi mx=some (a,b,m)):(Instr.sliceBounds isSlice len cap' lov hiv mxv).run P w= .ok (a,b,if mx.isSome then m else cap') w∧a≤b∧b≤m∧m≤cap∧(mx=none→m=cap)∧(hi=none→b=len):=by
 simp only[bnds,oC,oB] at h;obtain⟨m',hm,h⟩:=h;split at h
 ·cases h
 rename_i hno;simp only[oB] at h;obtain⟨h',hh,l',hl',h⟩:=h;injection h with h
 injection h with e1 h
 injection h with e2 e3
 subst e1;subst e2;subst e3;unfold Instr.sliceBounds
 cases mx with
 | none=>
  cases mxv with
  | some _=>exact hmx.elim
  | none=>
   simp only[bnd] at hm;injection hm with hm;subst hm
   cases hi with
   | none=>
    cases hiv with
    | some _=>exact hhi.elim
    | none=>
     simp only[bnd] at hh;injection hh with hh;subst hh
     cases lo with
     | none=>
      cases lov with
      | some _=>exact hlo.elim
      | none=>
       simp only[bnd] at hl';injection hl' with hl';subst hl'
       exact⟨by simp,by omega,by omega,by omega,fun _=>rfl,fun _=>rfl⟩
     | some lo=>
      cases lov with
      | none=>exact hlo.elim
      | some lov=>
       have hb:=ZE1 (P:=P) (cd:= .sliceB) hlo (Nat.le_refl _) hl';exact⟨by simp[hb.1],hb.2,by omega,by omega,fun _=>rfl,fun _=>rfl⟩
   | some hi=>
    cases hiv with
    | none=>exact hhi.elim
    | some hiv=>
     have hb1:=ZE1 (P:=P) (y' :=cap') (cd:=if isSlice then .sliceAcap else .sliceAlen) hhi hc hh
     cases lo with
     | none=>
      cases lov with
      | some _=>exact hlo.elim
      | none=>
       simp only[bnd] at hl';injection hl' with hl';subst hl'
       exact⟨by simp[hb1.1],by omega,by omega,by omega,fun _=>rfl,fun e=>by cases e⟩
     | some lo=>
      cases lov with
      | none=>exact hlo.elim
      | some lov=>
       have hb:=ZE1 (P:=P) (cd:= .sliceB) hlo (Nat.le_refl _) hl';exact⟨by simp[hb1.1,hb.1],hb.2,hb1.2,by omega,fun _=>rfl,fun e=>by cases e⟩
 | some mx=>
  cases mxv with
  | none=>exact hmx.elim
  | some mxv=>
   have hb0:=ZE1 (P:=P) (y' :=cap') (cd:=if isSlice then .slice3Acap else .slice3Alen) hmx hc hm
   cases hi with
   | none=>exact absurd ⟨rfl,rfl⟩ hno
   | some hi=>
    cases hiv with
    | none=>exact hhi.elim
    | some hiv=>
     have hb1:=ZE1 (P:=P) (cd:= .slice3B) hhi (Nat.le_refl _) hh
     cases lo with
     | none=>
      cases lov with
      | some _=>exact hlo.elim
      | none=>
       simp only[bnd] at hl';injection hl' with hl';subst hl'
       exact⟨by simp[hb0.1,hb1.1],by omega,hb1.2,hb0.2,fun e=>(by cases e),fun e=>(by cases e)⟩
     | some lo=>
      cases lov with
      | none=>exact hlo.elim
      | some lov=>
       have hb:=ZE1 (P:=P) (cd:= .slice3C) hlo (Nat.le_refl _) hl';exact⟨by simp[hb0.1,hb1.1,hb.1],hb.2,hb1.2,hb0.2,fun e=>(by cases e),fun e=>(by cases e)⟩
end
end Go.Ai
end
section
namespace Go.Ai
section
variable {P:Program} {base:Nat} {ρ:Pl} {X U:Reg} {c:Nat} {s:St} {w:World}

theorem ZHs (l:List UInt8) (a b:Nat):(⟨l.toArray⟩:ByteArray).extract a b=⟨((l.take b).drop a).toArray⟩:=by
 apply ByteArray.ext
 rw[ByteArray.data_extract];apply Array.ext'
 simp[List.extract_eq_take_drop,List.drop_take]

theorem ZNS {t:TypeId} {x v:AV} {lo hi mx:Option AV} {xv:Value} {lov hiv mxv:Option Value} (hx:Rel w ρ U c x xv) (hlo:RelO w ρ U c lo lov) (hhi:RelO w ρ U c hi hiv) (hmx:RelO w ρ U c mx mxv)
  (h:ZEz P t x lo hi mx s=some v):Gives P w ρ U c (Instr.sliceAt t xv lov hiv mxv) v:=by
 simp only[ZEz,oC,oB] at h;obtain⟨d,hd,h⟩:=h;unfold Instr.sliceAt;split at h
 ·rename_i l;simp only[Rel] at hx;subst hx;split at h
  ·cases h
  rename_i hm;simp only[oB] at h;obtain⟨⟨a,b,m⟩,hb,h⟩:=h;injection h with h;subst h
  cases mx with
  | some _=>simp at hm
  | none=>
   cases mxv with
   | some _=>exact hmx.elim
   | none=>
    have hs:(⟨l.toArray⟩:ByteArray).size=l.length:=by simp[ByteArray.size]
    have hr:=ZD6 (P:=P) (isSlice:=false) hlo hhi (show RelO w ρ U c none none from trivial) (Nat.le_refl _) (Nat.le_refl _) hb
    refine⟨.string ⟨((l.take b).drop a).toArray⟩,?_,by simp[Rel]⟩
    simp only[Sem.run_bind,run_underlying hd,Result.andThen_ok,Instr.slice,hs,hr.1,ZHs,Sem.run_pure];simp[Sem.run_bind,run_underlying hd,Result.andThen_ok,hs,hr.1,ZHs]
 ·rename_i e;simp only[oB] at h;obtain⟨⟨a,b,m⟩,hb,k,hk,h⟩:=h;injection h with h;subst h
  simp only[Rel] at hx;subst hx;have hr:=ZD6 (P:=P) (isSlice:=true) hlo hhi hmx (Nat.le_refl 0) (Nat.le_refl 0) hb;have ha:a=0:=by omega
  have hb' :b=0:=by omega
  have hm' :m=0:=by omega
  subst ha;subst hb';subst hm';refine⟨.slice none 0 0,?_,by simp[Rel]⟩
  simp[run_underlying hd,Instr.slice,hr.1,ZAe (ZA3 hk).1]
 ·rename_i e z;simp only[oB] at h;obtain⟨⟨a,b,m⟩,hb,k,hk,h⟩:=h;injection h with h;subst h
  simp only[Rel] at hx;obtain⟨A,cap,rfl,hA,hz⟩:=hx;have hr:=ZD6 (P:=P) (isSlice:=true) (len:=0) hlo hhi hmx (Nat.zero_le cap) (Nat.le_refl 0) hb;have ha:a=0:=by omega
  have hb' :b=0:=by omega
  have hm' :m=0:=by omega
  subst ha;subst hb';subst hm';obtain⟨hr1,_⟩:=hr;obtain⟨M,hM⟩:∃M,M=(if mx.isSome then 0 else cap):=⟨_,rfl⟩
  rw[←hM] at hr1
  cases A with
  | none=>
   have hc0:cap=0:=hA rfl
   subst hc0;have hM0:M=0:=by rw[hM];split<;> rfl
   subst hM0;refine⟨.slice none 0 0,?_,?_⟩
   ·simp only[Sem.run_bind,run_underlying hd,Result.andThen_ok,Instr.slice,hr1,ZAe (ZA3 hk).1,Sem.run_pure];simp
   simp only[Rel];exact⟨none,0,rfl,fun _=>rfl,fun _=>rfl⟩
  | some A=>
   refine⟨.slice (some (if M=0 then A else A.add (0*esz k))) (0 - 0) (M - 0),?_,?_⟩
   ·simp only[Sem.run_bind,run_underlying hd,Result.andThen_ok,Instr.slice,hr1,ZAe (ZA3 hk).1,Sem.run_pure];split<;> rfl
   simp only[Rel];refine⟨_,_,rfl,?_,?_⟩
   ·intro e;cases e
   intro e;simp only[Bool.or_eq_true] at e;rcases e with e | e
   ·have:=hz e
    rw[hM];split<;> omega
   rw[hM,if_pos e]
 ·rename_i e k xs cp;simp only[oB] at h;obtain⟨k',hk,h⟩:=h;split at h
  ·cases h
  rename_i hkk;have hkk:k' =k:=by simpa using hkk
  subst hkk;simp only[oB] at h;obtain⟨⟨a,b,m⟩,hb,h⟩:=h;injection h with h;subst h
  simp only[Rel] at hx;obtain⟨A,cap,cs,rfl,h2,h3,h4,h5⟩:=hx;have hr:=ZD6 (P:=P) (isSlice:=true) (len:=xs.length) hlo hhi hmx h2 (Nat.le_refl _) hb;obtain⟨hr1,hab,hbm,hmc,hmn,hhn⟩:=hr;obtain⟨M,hM⟩:∃M,M=(if mx.isSome then m else cap):=⟨_,rfl⟩
  have hml:m≤M:=by rw[hM];split<;> omega
  rw[←hM] at hr1;refine⟨.slice (some (if M=a then A else A.add (a*esz k'))) (b - a) (M - a),?_,?_⟩
  ·simp only[Sem.run_bind,run_underlying hd,Result.andThen_ok,Instr.slice,hr1,ZAe (ZA3 hk).1,Sem.run_pure];split<;> rfl
  have hlen:((xs.take b).drop a).length=b - a:=by
   simp
   omega
  simp only[Rel];refine⟨_,_,(cs.take (b*esz k')).drop (a*esz k'),by rw[hlen],by rw[hlen];omega,(h3.take b).drop a,?_,?_⟩
  ·by_cases hma:M=a
   ·have:cs.take (b*esz k')=(cs.take (b*esz k')).take (a*esz k'):=by
     rw[List.take_take,Nat.min_eq_right];exact Nat.mul_le_mul_right _ (by omega)
    rw[this,List.drop_of_length_le (by simp;omega)]
    exact Row.nil _
   rw[if_neg hma];exact(h4.take _).drop _
  rw[hlen];by_cases hmx' :mx.isSome=true
  ·simp only[hmx',if_true] at hM ⊢;by_cases hbm' :b=m
   ·simp[hbm',CapOk,hM]
   simp[hbm',CapOk]
  simp only[hmx',if_false,Bool.false_eq_true] at hM ⊢;have hmx0:mx=none:=by cases mx<;> simp_all
  by_cases hbl:b=xs.length
  ·simp only[hbl,if_true]
   cases cp with
   | tight=>simp only[CapOk] at h5 ⊢;simp[hM,h5]
   | unk=>simp[CapOk]
   | tok tk=>
    by_cases hal:a<xs.length
    ·simp only[hal,if_true];simp only[CapOk] at h5 ⊢;obtain⟨g1,g2,g3,g4,g5⟩:=h5;have hca:¬(M=a):=by omega
     simp only[hca,if_false];refine⟨g1,by rw[ZFs];exact g2,?_,?_,?_⟩
     ·unfold Addr.add;split<;> simp[g3]
     ·rw[ZKl,←g4,Nat.add_assoc,←Nat.add_mul,show a+(xs.length - a)=xs.length by omega]
     intro j hj;have:=g5 (a*esz k' +j) (by
      have:(M - a)*esz k' =M*esz k' - a*esz k' :=Nat.sub_mul _ _ _
      rw[hM] at*;omega)
     rw[ZFs,ZKl,Nat.add_assoc];exact this
    simp[hal,CapOk]
  simp[hbl,CapOk]
 ·rename_i e k n off len cap;simp only[oB] at h;obtain⟨k',hk,h⟩:=h;split at h
  ·cases h
  rename_i hkk;have hkk:k' =k:=by simpa using hkk
  subst hkk;simp only[oB] at h;obtain⟨⟨a,b,m⟩,hb,h⟩:=h;split at h
  ·cases h
  rename_i hlc;injection h with h;subst h
  simp only[Rel] at hx;obtain⟨h1,rfl⟩:=hx;obtain⟨hr1,hab,hbm,hmc,hmn,hhn⟩:=ZD6 (P:=P) (isSlice:=true) hlo hhi hmx (Nat.le_refl cap) (by omega) hb
  have hmm:(if mx.isSome then m else cap)=m:=by
   cases mx with
   | none=>simp[hmn rfl]
   | some _=>simp
  rw[hmm] at hr1;refine⟨.slice (some (if m=a then⟨(ρ n).1,off,none⟩ else⟨(ρ n).1,off+a*esz k',none⟩)) (b - a) (m - a),?_,?_⟩
  ·simp only[Sem.run_bind,run_underlying hd,Result.andThen_ok,Instr.slice,hr1,ZAe (ZA3 hk).1,Sem.run_pure];split<;> simp[ZBf]
  simp only[Rel];refine⟨h1,?_⟩
  split<;> rfl
 ·rename_i n e p off;simp only[oB] at h;obtain⟨k,hk,⟨a,b,m⟩,hb,h⟩:=h;injection h with h;subst h
  simp only[Rel] at hx;obtain⟨h1,rfl⟩:=hx;obtain⟨hr1,hab,hbm,hmc,hmn,hhn⟩:=ZD6 (P:=P) (isSlice:=false) hlo hhi hmx (Nat.le_refl n) (Nat.le_refl n) hb;have hmm:(if mx.isSome then m else n)=m:=by
   cases mx with
   | none=>simp[hmn rfl]
   | some _=>simp
  rw[hmm] at hr1;refine⟨.slice (some (if m=a then⟨(ρ p).1,off,none⟩ else⟨(ρ p).1,off+a*esz k,none⟩)) (b - a) (m - a),?_,?_⟩
  ·simp only[Sem.run_bind,run_underlying hd,Result.andThen_ok,Instr.sureAddr,hr1,ZAe (ZA3 hk).1,Sem.run_pure];split<;> simp[ZBf]
  simp only[Rel];refine⟨h1,?_⟩
  split<;> rfl
 cases h

/-! ### A slice's elements aS they lie -/
theorem ZHt {k:Nat}:∀{n:Nat} {cs:List AV} {us:List Value},RelL w ρ U c cs us→(∀x∈cs,x.one=true)→n*esz k≤cs.length→RelC w ρ U c k (ZC2 k cs n) (us.take (n*esz k))
 | 0,cs,us,h,_,_=>by simp[ZC2,RelC]
 | n+1,cs,us,h,ho,hl=>by
  have hl' :esz k≤cs.length:=by rw[Nat.succ_mul] at hl;omega
  have hu:=h.length;simp only[ZC2,RelC];refine⟨if k=0 then us.headD undef else .agg (us.take k).toArray,(us.drop (esz k)).take (n*esz k),?_,?_,?_,?_⟩
  ·have e:us.take ((n+1)*esz k)=us.take (esz k)++(us.drop (esz k)).take (n*esz k):=by
    rw[Nat.succ_mul,Nat.add_comm,List.take_add]
   rw[e];congr 1
   by_cases hk:k=0
   ·subst hk;simp only[esz,if_true] at hl' ⊢
    cases us with
    | nil=>simp at hu;omega
    | cons u us=>
     obtain⟨x,hx,hr⟩:=h.get' (i:=0) (v:=u) (by simp)
     have:=hr.one (ho x (List.mem_iff_getElem?.2 ⟨0,hx⟩))
     cases u<;> simp_all [Value.cells,Value.oneCell']
   simp only[hk,if_false,Value.cells,esz]
  ·by_cases hk:k=0
   ·subst hk;simp only[if_true]
    cases cs with
    | nil=>simp[esz] at hl'
    | cons x cs=>
     have hx:=ho x (by simp)
     refine⟨?_,?_,fun _=>hx,fun e=>absurd rfl e⟩
     ·cases x<;> simp_all [AV.cells,AV.one,esz]
     intro y hy
     cases x<;> simp_all [AV.cells,AV.one]
   simp only[hk,if_false];refine⟨?_,?_,fun e=>absurd e hk,fun _=>rfl⟩
   ·simp only[AV.cells,esz,hk,if_false] at hl' ⊢;simp;omega
   intro y hy;exact ho y (List.mem_of_mem_take hy)
  ·by_cases hk:k=0
   ·subst hk;simp only[if_true]
    cases cs with
    | nil=>simp[esz] at hl'
    | cons x cs=>
     simp only[RelL] at h;obtain⟨v,us',rfl,h1,h2⟩:=h;simpa using h1
   simp only[hk,if_false,Rel];exact⟨_,rfl,h.take k⟩
  exact ZHt (h.drop (esz k)) (fun x hx=>ho x (List.mem_of_mem_drop hx)) (by rw[List.length_drop];rw[Nat.succ_mul] at hl;omega)
theorem ZEV {k n:Nat} {cs:List AV}:(ZC2 k cs n).length=n:=by
 induction n generalizing cs with
 | zero=>rfl
 | succ n ih=>simp[ZC2,ih]

theorem ZE2 {x:AV} {xv:Value} {k:Nat} {xs:List AV} (h:Sim base ρ X s w) (hx:Rel w ρ (UX ρ s.h X) s.c x xv) (he:elems x s=some (k,xs)):
  ∃A cap cs,xv= .slice (some A) xs.length cap∧RelC w ρ (UX ρ s.h X) s.c k xs cs∧∀j u,cs[j]? =some u→w.cell? (A.add j)=some u:=by
 unfold elems at he;split at he
 ·rename_i k' xs' cp;injection he with he
  injection he with e1 e2
  subst e1;subst e2;simp only[Rel] at hx;obtain⟨A,cap,cs,rfl,h2,h3,h4,h5⟩:=hx;exact⟨A,cap,cs,rfl,h3,fun j u hj=>(h4 j u hj).1⟩
 ·rename_i k' n off len cap;split at he
  ·rename_i cs hg;split at he
   ·rename_i hle;injection he with he
    injection he with e1 e2
    subst e1;subst e2;simp only[Rel] at hx;obtain⟨h1,rfl⟩:=hx;obtain⟨C,e,fz,g1,g2,g3,g4⟩:=h.obj n _ hg;refine⟨_,cap,((C.toList.drop off).take (len*esz k')),by rw[ZEV],ZHt (g3.drop off) (fun x hx=>g4 x (List.mem_of_mem_drop hx)) (by simp;omega),fun j u hj=> ?_⟩
    rw[ZBf,ZFM g1];rw[List.getElem?_take] at hj;split at hj
    ·rw[List.getElem?_drop] at hj;simpa using hj
    cases hj
   cases he
  cases he
 cases he

theorem ZNT (l:List UInt8):(⟨l.toArray⟩:ByteArray).size=l.length:=rfl
theorem ZQZ {t ty:TypeId} {x v:AV} {xv:Value} (h:Sim base ρ X s w) (hx:Rel w ρ (UX ρ s.h X) s.c x xv) (hl:aLen P t x s=some v):Gives P w ρ (UX ρ s.h X) s.c (Builtin.len_ #[t] ty #[xv]) v:=by
 simp only[aLen,oC,oB] at hl;obtain⟨d,hd,hl⟩:=hl;split at hl
 ·simp only[Rel] at hx;subst hx;injection hl with hl;subst hl
  exact⟨_,by simp[Builtin.len_,run_underlying hd,goInt,ZNT];rfl,by simp[Rel]⟩
 ·injection hl with hl;subst hl
  exact⟨_,by simp[Builtin.len_,run_underlying hd,goInt];rfl,by simp[Rel]⟩
 ·simp only[Rel] at hx;subst hx;injection hl with hl;subst hl
  exact⟨_,by simp[Builtin.len_,run_underlying hd,goInt];rfl,by simp[Rel]⟩
 ·simp only[Rel] at hx;obtain⟨A,cap,rfl,_⟩:=hx;injection hl with hl;subst hl
  exact⟨_,by simp[Builtin.len_,run_underlying hd,goInt];rfl,by simp[Rel]⟩
 ·simp only[Rel] at hx;obtain⟨A,cap,cs,rfl,_⟩:=hx;injection hl with hl;subst hl
  exact⟨_,by simp[Builtin.len_,run_underlying hd,goInt];rfl,by simp[Rel]⟩
 ·simp only[Rel] at hx;obtain⟨_,rfl⟩:=hx;injection hl with hl;subst hl
  exact⟨_,by simp[Builtin.len_,run_underlying hd,goInt];rfl,by simp[Rel]⟩
 ·simp only[Rel] at hx;subst hx;injection hl with hl;subst hl
  exact⟨_,by simp[Builtin.len_,run_underlying hd,goInt];rfl,by simp[Rel]⟩
 ·rename_i n;split at hl
  ·rename_i es hg;simp only[Rel] at hx;obtain⟨_,rfl⟩:=hx;injection hl with hl;subst hl
   obtain⟨ents,clock,h1,h2,h3⟩:=h.obj n _ hg;have:=h2.length
   simp at this
   refine⟨.int .i64 ents.size,?_,by simp[Rel,this]⟩
   simp[Builtin.len_,run_underlying hd,goInt,getObj,Sem.run,h1]
  cases hl
 cases hl
theorem ZQa {t ty:TypeId} {x v:AV} {xv:Value} (hx:Rel w ρ U c x xv) (hl:aCap P t x=some v):Gives P w ρ U c (Builtin.cap_ #[t] ty #[xv]) v:=by
 simp only[aCap,oC,oB] at hl;obtain⟨d,hd,hl⟩:=hl;split at hl
 ·simp only[Rel] at hx;subst hx;injection hl with hl;subst hl
  exact⟨_,by simp[Builtin.cap_,run_underlying hd,goInt];rfl,by simp[Rel]⟩
 ·simp only[Rel] at hx;obtain⟨A,cap,cs,rfl,_,_,_,h5⟩:=hx;simp only[CapOk] at h5;injection hl with hl;subst hl
  exact⟨_,by simp[Builtin.cap_,run_underlying hd,goInt];rfl,by simp[Rel,h5]⟩
 ·simp only[Rel] at hx;obtain⟨_,rfl⟩:=hx;injection hl with hl;subst hl
  exact⟨_,by simp[Builtin.cap_,run_underlying hd,goInt];rfl,by simp[Rel]⟩
 cases hl
end
end Go.Ai
end
