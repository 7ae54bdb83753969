/- My own texts DevTg0, DevTg1, DevTg2, DevTg3, DevTg4, DevTg5, DevTg6, DevTg7, DevTg8, one behind the other. -/
import Derived.Test.YtjaopinmnpekiaaGreatDoorWAC
import Derived.Tactics
import Derived.DataShut
set_option linter.unusedVariables false
set_option linter.unusedSimpArgs false
section
namespace Go.Ai

def Sub (w w' :World):Prop:=∀(k:Nat) (o:Obj),w.heap[k]? =some o→w'.heap[k]? =some o
theorem Sub.refl (w:World):Sub w w:=fun _ _ h=>h
theorem Sub.below {w w' :World} (h:RowKit.Below w.heap.size w w'):Sub w w' :=fun k o hk=>by
 rw[h.block k (Array.getElem?_eq_some_iff.1 hk).1];exact hk

def Lk {α:Type} (P:Program) (r:Bool) (m:Sem α):Prop:=∀w v w1,m.run P w= .ok v w1→w1=w∧∀w',(r=true→Sub w w')→m.run P w' = .ok v w'
section
variable {P:Program} {r:Bool} {α β:Type}
theorem Lk.pure (a:α):Lk P r (Pure.pure a:Sem α):=fun w v w1 h=>by
 simp only[Sem.run_pure] at h ⊢;injection h with h1 h2
 subst h1;subst h2;exact⟨rfl,fun _ _=>rfl⟩
theorem Lk.never {m:Sem α} (h:∀w,∃x w',m.run P w= .halt x w'):Lk P r m:=fun w v w1 h' =>by
 obtain⟨x,w',e⟩:=h w;rw[e] at h';cases h'
theorem Lk.halt (h:Halt):Lk P r (.halt h:Sem α):=Lk.never fun w=>⟨_,_,rfl⟩
theorem Lk.bind {m:Sem α} {f:α→Sem β} (h:Lk P r m) (k:∀a,Lk P r (f a)):Lk P r (m >>=f):=fun w v w1 h' =>by
 rw[Sem.run_bind] at h'
 cases hm:m.run P w with
 | ok a wa=>
  rw[hm] at h';obtain⟨rfl,h2⟩:=h w a wa hm;obtain⟨h3,h4⟩:=k a _ _ _ h';refine⟨h3,fun w' hw' => ?_⟩
  rw[Sem.run_bind,h2 w' hw'];exact h4 w' hw'
 | halt x wa=>rw[hm] at h';cases h'
theorem Lk.weak {m:Sem α} (h:Lk P false m):Lk P r m:=fun w v w1 h' =>⟨(h w v w1 h').1,fun w' _=>(h w v w1 h').2 w' (fun e=>by cases e)⟩
theorem Lk.program:Lk P r Go.program:=fun w v w1 h=>by
 have e:∀w,Go.program.run P w= .ok P w:=fun w=>rfl
 rw[e] at h;injection h with h1 h2
 subst h1;subst h2;exact⟨rfl,fun _ _=>e _⟩
theorem ZHQ {m:Sem α} {f:α→Sem β} (h:∀a w,∃x w',(f a).run P w= .halt x w') (w:World):∃x w',(m >>=f).run P w= .halt x w' :=by
 rw[Sem.run_bind]
 cases hm:m.run P w with
 | ok a wa=>exact h a wa
 | halt x wa=>exact⟨_,_,rfl⟩
theorem ZMI (x:Halt) (w:World):∃y w',(Sem.halt x:Sem α).run P w= .halt y w' :=⟨_,_,rfl⟩
theorem ZKT (e:RuntimeError) (w:World):∃x w',(Go.runtimePanic e:Sem α).run P w= .halt x w' :=by
 unfold Go.runtimePanic;refine ZHQ (fun p w=> ?_) w
 cases e<;> first
  | exact ZMI _ _
  | exact ZHQ (fun _ w=>ZHQ (fun _ w=>ZMI _ _) w) w
theorem Lk.runtimePanic (e:RuntimeError):Lk P r (Go.runtimePanic e:Sem α):=Lk.never (ZKT e)
theorem Lk.dies {m:Sem α} {f:α→Sem β} (h:∀a w,∃x w',(f a).run P w= .halt x w'):Lk P r (m >>=f):=Lk.never (ZHQ h)
theorem Lk.boundsPanic (k:IntKind) (x y:Int) (c:BoundsCode):Lk P r (Go.boundsPanic k x y c:Sem α):=by
 unfold Go.boundsPanic;simp only[];split<;> exact Lk.dies fun a w=>ZKT _ _
theorem Lk.underlying (t:TypeId):Lk P r (Go.underlying t):=by
 unfold Go.underlying;refine Lk.bind Lk.program fun p=> ?_
 split
 ·exact Lk.pure _
 exact Lk.halt _
theorem Lk.typeInfo (t:TypeId):Lk P r (Go.typeInfo t):=by
 unfold Go.typeInfo;refine Lk.bind Lk.program fun p=> ?_
 split
 ·exact Lk.pure _
 exact Lk.halt _
theorem Lk.sizeOf (t:TypeId):Lk P r (Go.sizeOf t):=by
 unfold Go.sizeOf;exact Lk.bind (Lk.typeInfo t) fun i=>Lk.pure _
theorem Lk.isAgg (t:TypeId):Lk P r (Go.isAgg t):=by
 unfold Go.isAgg;refine Lk.bind (Lk.underlying t) fun d=> ?_
 split<;> exact Lk.pure _
theorem Lk.asIntOf (v:Value):Lk P r (Go.asIntOf v):=by
 unfold Go.asIntOf;split
 ·exact Lk.pure _
 ·exact Lk.halt _
 exact Lk.halt _
theorem Lk.asBool (v:Value):Lk P r (Go.asBool v):=by
 unfold Go.asBool;split
 ·exact Lk.pure _
 exact Lk.halt _
theorem Lk.asAgg (v:Value):Lk P r (Go.asAgg v):=by
 unfold Go.asAgg;split
 ·exact Lk.pure _
 exact Lk.halt _
theorem Lk.asAddr (v:Value):Lk P r (Go.asAddr v):=by
 unfold Go.asAddr;split
 ·exact Lk.pure _
 ·exact Lk.runtimePanic _
 exact Lk.halt _
theorem Lk.sureAddr (v:Value):Lk P r (Instr.sureAddr v):=by
 unfold Instr.sureAddr;split
 ·exact Lk.pure _
 exact Lk.halt _
theorem Lk.part (t:TypeId) (cs:Array Value) (off:Nat):Lk P r (Go.part t cs off):=by
 unfold Go.part;refine Lk.bind (Lk.isAgg t) fun b=> ?_
 split
 ·exact Lk.bind (Lk.sizeOf t) fun z=>Lk.pure _
 split
 ·exact Lk.pure _
 exact Lk.halt _
theorem Lk.sliceBound (x:Value) (y:Nat) (c:BoundsCode):Lk P r (Instr.sliceBound x y c):=by
 unfold Instr.sliceBound;refine Lk.bind (Lk.asIntOf x) fun q=> ?_
 obtain⟨k,i⟩:=q;simp only[];split
 ·exact Lk.pure _
 exact Lk.boundsPanic _ _ _ _
theorem Lk.sliceBounds (s:Bool) (len cap:Nat) (lo hi mx:Option Value):Lk P r (Instr.sliceBounds s len cap lo hi mx):=by
 unfold Instr.sliceBounds
 cases mx<;> cases hi<;> cases lo<;> simp only[]<;> repeat' first
  | exact Lk.pure _
  | exact Lk.halt _
  | exact Lk.sliceBound _ _ _
  | refine Lk.bind ?_ fun _=> ?_
theorem Lk.load {a:Addr}:Lk P true (Go.load a):=fun w v w1 h=>by
 have e:∀w,(Go.load a).run P w=(match w.cell? a with
  | some v=> .ok v w
  | none=>match w.farLoad P a false with
   | .ok (v,_)=> .ok v w
   | .error h=> .halt h w):=fun w=>by
  unfold Go.load;simp only[Sem.run];rfl
 rw[e] at h;have hcell:∀(w w' :World) u,Sub w w' →w.cell? a=some u→w'.cell? a=some u:=fun w w' u hs hc=>by
  unfold World.cell? at hc ⊢
  cases hb:w.heap[a.block]? with
  | none=>rw[hb] at hc;cases hc
  | some o=>rw[hb] at hc;rw[hs _ _ hb];exact hc
 cases hc:w.cell? a with
 | some u=>
  rw[hc] at h;injection h with h1 h2
  subst h1;subst h2;refine⟨rfl,fun w' hw=> ?_⟩
  rw[e,hcell _ _ _ (hw rfl) hc]
 | none=>
  rw[hc] at h;simp only[] at h
  cases hf:w.farLoad P a false with
  | error x=>rw[hf] at h;cases h
  | ok q=>
   obtain⟨u,t⟩:=q;rw[hf] at h;injection h with h1 h2
   subst h1;subst h2;refine⟨rfl,fun w' hw=> ?_⟩
   have hs:=hw rfl;unfold World.farLoad at hf
   cases hb:w.heap[a.block]? with
   | none=>rw[hb] at hf;cases hf
   | some o=>
    rw[hb] at hf;have hn:w'.cell? a=none:=by
     unfold World.cell? at hc ⊢;rw[hb] at hc;rw[hs _ _ hb];exact hc
    rw[e,hn];simp only[];have:w'.farLoad P a false= .ok (u,t):=by
     unfold World.farLoad;rw[hs _ _ hb]
     cases o<;> simp only[] at hf ⊢<;> first | (cases hf;done) | skip
     rename_i at_ ut;have hv:∀q,w.viewLoad P at_ ut a false= .ok q→w'.viewLoad P at_ ut a false= .ok q:=by
      intro q hq;unfold World.viewLoad World.seen at hq ⊢
      cases hb2:w.heap[at_.block]? with
      | some o2=>rw[hb2] at hq;rw[hs _ _ hb2];exact hq
      | none=>
       exfalso
       rw[hb2] at hq;clear hf
       revert hq
       simp only[bind,Except.bind,pure,Except.pure,throw,throwThe,MonadExceptOf.throw];intro hq;repeat' (split at hq<;> first | (cases hq;done) | skip)
       all_goals first
        | (cases hq;done)
        | (rename_i hx _;revert hx;repeat' split<;> simp_all)
        | skip
     cases hvl:w.viewLoad P at_ ut a false with
     | ok q=>rw[hvl] at hf;rw[hv q hvl];exact hf
     | error x=>rw[hvl] at hf;cases hf
    rw[this]
theorem Lk.loadCellsFrom (a:Addr):∀(n i:Nat) (acc:Array Value),Lk P true (Go.loadCellsFrom a i n acc)
 | 0,i,acc=>Lk.pure _
 | n+1,i,acc=>Lk.bind Lk.load fun v=>Lk.loadCellsFrom a n (i+1) _
theorem Lk.loadVar (t:TypeId) (a:Addr):Lk P true (Go.loadVar t a):=by
 unfold Go.loadVar;refine Lk.bind (Lk.isAgg t) fun b=> ?_
 split
 ·exact Lk.bind (Lk.sizeOf t) fun z=>Lk.bind (Lk.loadCellsFrom _ _ _ _) fun _=>Lk.pure _
 exact Lk.load
theorem Lk.getObj (n:Nat):Lk P true (Go.getObj n):=fun w v w1 h=>by
 have e:∀w,(Go.getObj n).run P w=(match w.heap[n]? with
  | some (.cells ..)=> .halt (.stuck "getObj: a row of cells") w
  | some o=> .ok o w
  | none=> .halt (.stuck "getObj: no such block") w):=fun w=>by
  unfold Go.getObj;simp only[Sem.run];rfl
 rw[e] at h
 cases hb:w.heap[n]? with
 | none=>rw[hb] at h;cases h
 | some o=>
  rw[hb] at h
  cases o<;> simp only[reduceCtorEq] at h<;> (
   injection h with h1 h2
   subst h1;subst h2;refine⟨rfl,fun w' hw=> ?_⟩
   rw[e,hw rfl _ _ hb])
theorem Lk.fieldPlace0 {a:Addr} {f:Field} {z:Nat} (hz:szT P f.type=some z) (h0:z≠0):Lk P r (Go.fieldPlace a f):=by
 intro w v w1 hr;have e:∀w,(Go.fieldPlace a f).run P w= .ok (a.add f.offset) w:=fun w=>by
  unfold Go.fieldPlace;simp[ZAe hz,h0]
 rw[e] at hr;injection hr with h3 h4
 subst h3;subst h4;exact⟨rfl,fun w' _=>e w'⟩
end

def Steady (P:Program) (m:Sem Next):Prop:=∃v,∀w,m.run P w= .ok (.value v) w
def ZFz (P:Program):Op→Bool
 | .move _ | .assign _ | .pick _ _ _ | .fieldAddr _ _ _ | .field _ _ _ | .indexAddr _ _ _ | .index _ _ _ | .extract _ _ | .slice _ _ _ _ _ | .makeFunc _ _ _ | .makeInterface _ _ | .binOp _ _ _ _ _ | .unOp _ _ _ | .nilCheck _=>true
 | .convert src dst _=>match P.underlying src,P.underlying dst with
  | some (.int _),some (.int _) | some (.int _),some .string | some .string,some .string=>true
  | _,_=>false
 | .call ⟨.builtin .min,_,_⟩ | .call ⟨.builtin .max,_,_⟩ | .call ⟨.builtin .unsafeSliceData,_,_⟩=>true
 | _=>false
def rdOp:Op→Bool
 | .load _ _=>true
 | .call ⟨.builtin .len,_,_⟩=>true
 | _=>false
section
variable {P:Program} {r:Bool}
def ZEW (m:Sem Value):Sem Next:=do Pure.pure (Next.value (←m))
theorem Lk.val {m:Sem Value} (h:Lk P r m):Lk P r (ZEW m):=Lk.bind h fun _=>Lk.pure _
theorem ZV5 {ρ:Operand→Value} {o:Oper} (h:rdOp o.op=true):Lk P true (execOp ρ o):=by
 obtain⟨dst,op,type,pos,after,guard⟩:=o;unfold rdOp at h;split at h
 ·simp only at*
  rename_i t x hop;subst hop;simp only[execOp];exact Lk.val (Lk.bind (Lk.sureAddr _) fun a=>Lk.loadVar _ _)
 ·simp only at*
  rename_i xs ts hop;subst hop;simp only[execOp];have e:resolve ρ {callee:= .builtin .len,args:=xs,argTypes:=ts} type=pure {target:= .builtin .len ts type (xs.map fun | .const _=>true | _=>false),args:=xs.map ρ}:=rfl
  rw[e,pure_bind];show Lk P true (invoke (.builtin .len ts type _) (xs.map ρ))
  unfold invoke builtin;refine Lk.val ?_
  unfold Builtin.len_;split
  ·refine Lk.bind (Lk.underlying _) fun d=> ?_
   split<;> first
    | exact Lk.pure _
    | exact Lk.halt _
    | (
     refine Lk.bind (Lk.underlying _) fun d=> ?_
     split<;> first | exact Lk.pure _ | exact Lk.halt _)
    | skip
   all_goals
    refine Lk.bind ?_ fun o=> ?_
    ·exact Lk.getObj _
    split<;> first | exact Lk.pure _ | exact Lk.halt _
  exact Lk.halt _
 cases h
theorem Lk.slice (t:TypeId) (x:Value) (lo hi mx:Option Value):Lk P r (Instr.slice t x lo hi mx):=by
 unfold Instr.slice;refine Lk.bind (Lk.underlying _) fun d=> ?_
 split
 ·split
  ·exact Lk.bind (Lk.halt _) fun _=>Lk.bind (Lk.sliceBounds _ _ _ _ _ _) fun q=>Lk.pure _
  exact Lk.bind (Lk.sliceBounds _ _ _ _ _ _) fun q=>Lk.pure _
 ·refine Lk.bind (Lk.sliceBounds _ _ _ _ _ _) fun q=> ?_
  exact Lk.bind (Lk.sizeOf _) fun _=>Lk.pure _
 ·refine Lk.bind (Lk.asAddr _) fun a=>Lk.bind (Lk.underlying _) fun d=> ?_
  split
  ·exact Lk.bind (Lk.sliceBounds _ _ _ _ _ _) fun q=>Lk.bind (Lk.sizeOf _) fun _=>Lk.pure _
  exact Lk.halt _
 exact Lk.halt _
theorem Lk.sliceAt (t:TypeId) (x:Value) (lo hi mx:Option Value):Lk P r (Instr.sliceAt t x lo hi mx):=by
 unfold Instr.sliceAt;refine Lk.bind (Lk.underlying _) fun d=> ?_
 split
 ·refine Lk.bind (Lk.sureAddr _) fun a=>Lk.bind (Lk.sliceBounds _ _ _ _ _ _) fun q=> ?_
  exact Lk.bind (Lk.sizeOf _) fun _=>Lk.pure _
 exact Lk.slice _ _ _ _ _
theorem Lk.indexAt (t:TypeId) (x i:Value):Lk P r (Instr.indexAt t x i):=by
 unfold Instr.indexAt;repeat' first
  | exact Lk.pure _
  | exact Lk.halt _
  | exact Lk.boundsPanic _ _ _ _
  | exact Lk.sizeOf _
  | exact Lk.underlying _
  | exact Lk.sureAddr _
  | exact Lk.part _ _ _
  | exact Lk.asIntOf _
  | refine Lk.bind ?_ fun _=> ?_
  | split
  | simp only[]
theorem Lk.index (t:TypeId) (x i:Value):Lk P r (Instr.index t x i):=by
 unfold Instr.index;repeat' first
  | exact Lk.pure _
  | exact Lk.halt _
  | exact Lk.boundsPanic _ _ _ _
  | exact Lk.sizeOf _
  | exact Lk.underlying _
  | exact Lk.sureAddr _
  | exact Lk.part _ _ _
  | exact Lk.asIntOf _
  | refine Lk.bind ?_ fun _=> ?_
  | split
  | simp only[]
theorem Lk.field (t:TypeId) (x:Value) (f:Nat):Lk P r (Instr.field t x f):=by
 unfold Instr.field;refine Lk.bind (Lk.underlying _) fun d=> ?_
 split
 ·split
  ·exact Lk.bind (Lk.asAgg _) fun _=>Lk.part _ _ _
  exact Lk.halt _
 exact Lk.halt _
theorem Lk.extract (t:Value) (i:Nat):Lk P r (Instr.extract t i):=by
 unfold Instr.extract;split
 ·split
  ·exact Lk.pure _
  exact Lk.halt _
 exact Lk.halt _
theorem Lk.makeInterface (t:TypeId) (x:Value):Lk P r (Instr.makeInterface t x):=by
 unfold Instr.makeInterface;refine Lk.bind (Lk.underlying _) fun d=> ?_
 split
 ·exact Lk.halt _
 exact Lk.pure _
theorem Lk.fieldAt {t:TypeId} {x v:AV} {xv:Value} {f:Nat} (h:ZCc P t x f=some v):Lk P r (Instr.fieldAt t xv f):=by
 simp only[ZCc,oC,oB] at h;obtain⟨d,hd,h⟩:=h;split at h
 ·rename_i fs;simp only[oB] at h;obtain⟨fd,hf,z,hz,h⟩:=h;split at h
  ·cases h
  rename_i hz0;intro w v' w1 hr;have e:∀w,(Instr.fieldAt t xv f).run P w=(do let a ←Instr.sureAddr xv;Pure.pure (.pointer (some (←Go.fieldPlace a fd))):Sem Value).run P w:=fun w=>by
   unfold Instr.fieldAt;rw[Sem.run_bind,run_underlying hd];simp only[Result.andThen_ok,hf]
  have hl:Lk P r (do let a ←Instr.sureAddr xv;Pure.pure (.pointer (some (←Go.fieldPlace a fd))):Sem Value):=Lk.bind (Lk.sureAddr _) fun a=>Lk.bind (Lk.fieldPlace0 hz hz0) fun _=>Lk.pure _
  rw[e] at hr;obtain⟨h1,h2⟩:=hl _ _ _ hr;exact⟨h1,fun w' hw=>by rw[e];exact h2 w' hw⟩
 cases h
end

/-! ### Values that no memory bears -/
def lit:AV→Bool
 | .int _ _ | .bool _ | .str _=>true
 | _=>false
def litV:AV→Value
 | .int k n=> .int k n
 | .bool b=> .bool b
 | .str l=> .string ⟨l.toArray⟩
 | _=>undef
theorem ZF0 {w:World} {ρ:Pl} {U:Reg} {c:Nat} {x:AV} {v:Value} (h:lit x=true):Rel w ρ U c x v↔v=litV x:=by
 cases x<;> first | (cases h;done) | exact Iff.rfl
theorem ZSj {op:BinOp} {a b:Bool} {v:AV} (h:cmpB op a b=some v):lit v=true:=by
 unfold cmpB at h;split at h<;> first | (injection h with h;subst h;rfl) | cases h
theorem ZPq {P:Program} {op:BinOp} {t:TypeId} {x y v:AV} {cx cy:Bool} (h:ZC4 P op t x y cx cy=some v):lit v=true∧((lit x=true∧lit y=true)∨∃b,ZHH P t x y (cx || cy)=some b∧((op= .eql∧v= .bool b)∨(op= .neq∧v= .bool !b))):=by
 unfold ZC4 at h;split at h
 ·refine⟨?_, .inl ⟨rfl,rfl⟩⟩
  unfold ZIk at h;split at h
  ·cases h
  split at h<;> first | (injection h with h;subst h;rfl) | cases h
 ·refine⟨?_, .inl ⟨rfl,rfl⟩⟩
  unfold ZIk at h;split at h
  ·cases h
  split at h<;> first | (injection h with h;subst h;rfl) | cases h
 ·refine⟨?_, .inl ⟨rfl,rfl⟩⟩
  split at h
  ·unfold ZIj at h;split at h<;> first | (injection h with h;subst h;rfl) | (split at h<;> first | (injection h with h;subst h;rfl) | cases h) | cases h
  cases h
 ·refine⟨?_, .inl ⟨rfl,rfl⟩⟩
  split at h
  ·cases h
  injection h with h;subst h;rfl
 ·exact⟨ZSj h, .inl ⟨rfl,rfl⟩⟩
 ·refine⟨?_, .inl ⟨rfl,rfl⟩⟩
  split at h
  ·injection h with h;subst h;rfl
  cases h
 ·refine⟨?_, .inl ⟨rfl,rfl⟩⟩
  split at h
  ·injection h with h;subst h;rfl
  cases h
 ·simp only[Option.map_eq_some_iff] at h;obtain⟨b,h,rfl⟩:=h;exact⟨rfl, .inr ⟨b,h, .inl ⟨rfl,rfl⟩⟩⟩
 ·simp only[Option.map_eq_some_iff] at h;obtain⟨b,h,rfl⟩:=h;exact⟨rfl, .inr ⟨b,h, .inr ⟨rfl,rfl⟩⟩⟩
 cases h

section
variable {P:Program} {base:Nat} {ρ:Pl} {X U:Reg} {c:Nat} {s s' :St} {w:World}
theorem Steady.of_lk {m:Sem Value} (h:Lk P false m) {v:Value} {w w1:World} (hr:m.run P w= .ok v w1):Steady P (ZEW m):=⟨v,fun w' =>by
 unfold ZEW;rw[Sem.run_bind,(h _ _ _ hr).2 w' (fun e=>by cases e)];rfl⟩
theorem Steady.of_all {m:Sem Value} {v:Value} (h:∀w,m.run P w= .ok v w):Steady P (ZEW m):=⟨v,fun w' =>by
 unfold ZEW;rw[Sem.run_bind,h w'];rfl⟩
theorem ZPr {op:BinOp} {t:TypeId} {ox oy:Operand} {x y v:AV} {xv yv:Value} (hx:Rel w ρ U c x xv) (hy:Rel w ρ U c y yv) (h:ZC4 P op t x y (isC ox) (isC oy)=some v):
  Steady P (ZEW (do eqGuard op t ox oy xv yv;binOp op t xv yv)):=by
 obtain⟨hl,h2⟩:=ZPq h;rcases h2 with⟨h1,h2⟩ | ⟨b,hb,h2⟩
 ·refine Steady.of_all (v:=litV v) fun w' => ?_
  have hx' :Rel w' ρ U c x xv:=(ZF0 h1).2 ((ZF0 h1).1 hx)
  have hy' :Rel w' ρ U c y yv:=(ZF0 h2).2 ((ZF0 h2).1 hy)
  obtain⟨v',hr,hv⟩:=ZIs hx' hy' h;rw[(ZF0 hl).1 hv] at hr;exact hr
 obtain⟨d,a1,a2,hd,k1,k2,hor,rfl,hnn⟩:=ZGu hb;have n1:=ZHr hx k1;have n2:=ZHr hy k2;have hg:∀w,(eqGuard op t ox oy xv yv).run P w= .ok () w:=fun w=>by
  refine ZGt (fun e1 e2=>hnn ⟨?_,?_⟩) n1.noAgg w
  ·subst e1;have:=n1.ifc;cases x<;> simp only[Rel] at hx<;> simp_all
  subst e2;have:=n2.ifc;cases y<;> simp only[Rel] at hy<;> simp_all
 rcases h2 with⟨rfl,rfl⟩ | ⟨rfl,rfl⟩
 ·refine Steady.of_all (v:= .bool (a1 && a2)) fun w' => ?_
  rw[(n1.noBin n2).1];simp[hg,ZDu hd n1 n2 hor]
 refine Steady.of_all (v:= .bool !(a1 && a2)) fun w' => ?_
 rw[(n1.noBin n2).2];simp[hg,ZDu hd n1 n2 hor]
theorem ZBr {o:Oper} {a:Act} {m:Sem Value} (he:execOp a.eval o=ZEW m) (hl:Lk P false m) (hw:∃A,o.wp P a w A fun _ _ _=>False):Steady P (execOp a.eval o):=by
 rw[he];obtain⟨A,hw⟩:=hw;unfold Oper.wp at hw;rw[he] at hw
 cases hr:m.run P w with
 | ok v w1=>exact Steady.of_lk hl hr
 | halt x w1=>
  exfalso
  unfold ZEW at hw;rw[Sem.run_bind,hr] at hw
  cases x<;> exact hw
theorem ZMJ {call:FuncId→List AV→St→Option (AV×St)} (hcall:ZHJ P base call) {o:Oper} {fr:List AV} {a:Act} {v:AV} (hv:ZFz P o.op=true) (hb:base≤w.heap.size) (h:Sim base ρ X s w) (hf:RelL w ρ (UX ρ s.h X) s.c fr a.tmps.toList) (ho:aOp P call o fr s=some (v,s')):Steady P (execOp a.eval o):=by
 have hwp:∃A,o.wp P a w A fun _ _ _=>False:=⟨fun _ _=>True,ZPn hcall hb h hf ho fun _ _ _=>trivial⟩
 obtain⟨dst,op,type,pos,after,guard⟩:=o
 cases op with
 | move x=>exact⟨a.eval x,fun w=>by simp[execOp]⟩
 | assign x=>exact⟨a.eval x,fun w=>by simp[execOp]⟩
 | pick c x y=>
  simp only[aOp,oC,oB] at ho;obtain⟨b,hbv,ho⟩:=ho;split at ho
  ·rename_i t;have hc:=ZAW hf hbv;simp only[Rel] at hc;refine⟨a.eval (if t then x else y),fun w=> ?_⟩
   simp only[execOp,hc,asBool]
   cases t<;> simp
  cases ho
 | binOp op t x y yt=>
  simp only[aOp,oC,oB] at ho;obtain⟨u,hu,y',hy,z,hz,ho⟩:=ho;exact ZPr (ZAW hf hu) (ZAW hf hy) hz
 | unOp op t x=>
  simp only[aOp,oC,oB] at ho;obtain⟨u,hu,z,hz,ho⟩:=ho;have hr:=ZAW hf hu;have hl:lit u=true∧lit z=true:=by
   unfold ZQP at hz;split at hz
   ·injection hz with hz;subst hz;exact⟨rfl,rfl⟩
   ·refine⟨rfl,?_⟩
    simp only[ZIj] at hz;injection hz with hz;subst hz;rfl
   ·injection hz with hz;subst hz;exact⟨rfl,rfl⟩
   cases hz
  refine Steady.of_all (v:=litV z) fun w' => ?_
  have hx' :Rel w' ρ (UX ρ s.h X) s.c u (a.eval x):=(ZF0 hl.1).2 ((ZF0 hl.1).1 hr)
  obtain⟨v',hr,hv⟩:=ZKQ (P:=P) hx' hz;rw[(ZF0 hl.2).1 hv] at hr;exact hr
 | nilCheck x=>
  simp only[aOp,oC,oB] at ho;obtain⟨u,hu,ho⟩:=ho;have hr:=ZAW hf hu;split at ho
  ·cases ho
  ·cases ho
  ·cases ho
  rename_i hn1 hn2 hn3;refine⟨a.eval x,fun w=> ?_⟩
  simp only[execOp];generalize a.eval x=xv at hr
  cases u<;> simp only[Rel] at hr<;> first
   | exact absurd rfl hn1
   | exact absurd rfl hn2
   | exact absurd rfl hn3
   | (subst hr;rfl)
   | (obtain⟨_,rfl⟩:=hr;rfl)
   | (obtain⟨_,_,_,rfl,_⟩:=hr;rfl)
   | (obtain⟨_,_,rfl,_⟩:=hr;rfl)
   | (obtain⟨_,rfl,_⟩:=hr;rfl)
 | convert src dt x=>
  simp only[aOp,oC,oB] at ho;obtain⟨u,hu,ho⟩:=ho;have hr:=ZAW hf hu;simp only[ZFL,oC,oB] at ho;obtain⟨d1,h1,d2,h2,ho⟩:=ho;simp only[ZFz,h1,h2] at hv;have key:∀v' :Value,(∀w,(convert src dt (a.eval x)).run P w= .ok v' w)→Steady P (execOp a.eval ⟨dst, .convert src dt x,type,pos,after,guard⟩):=fun v' h=>Steady.of_all h
  split at ho
  ·simp only[Rel] at hr;exact key _ fun w=>by rw[hr];unfold convert;simp[run_underlying h1,run_underlying h2,Conv.intToInt];rfl
  ·simp only[Rel] at hr;exact key _ fun w=>by rw[hr];unfold convert;simp[run_underlying h1,run_underlying h2,Conv.intToString];rfl
  ·simp only[Rel] at hr;exact key _ fun w=>by
    rw[hr];unfold convert;simp only[Sem.run_bind,run_underlying h1,run_underlying h2,Result.andThen_ok];simp<;> rfl
  all_goals (first | (cases ho;done) | (split at hv<;> simp_all))
 | makeInterface t x=>exact ZBr (m:=Instr.makeInterface t (a.eval x)) rfl (Lk.makeInterface _ _) hwp
 | makeFunc f first captured=>exact ZBr (m:=Instr.makeFunc f (first.map a.eval) (captured.map a.eval)) rfl (Lk.pure _) hwp
 | slice t x lo hi mx=>exact ZBr (m:=Instr.sliceAt t (a.eval x) (lo.map a.eval) (hi.map a.eval) (mx.map a.eval)) rfl (Lk.sliceAt _ _ _ _ _) hwp
 | fieldAddr t x f=>
  simp only[aOp,oC,oB] at ho;obtain⟨u,hu,z,hz,ho⟩:=ho;exact ZBr (m:=Instr.fieldAt t (a.eval x) f) rfl (Lk.fieldAt hz) hwp
 | field t x f=>exact ZBr (m:=Instr.field t (a.eval x) f) rfl (Lk.field _ _ _) hwp
 | indexAddr t x i=>exact ZBr (m:=Instr.indexAt t (a.eval x) (a.eval i)) rfl (Lk.indexAt _ _ _) hwp
 | index t x i=>exact ZBr (m:=Instr.index t (a.eval x) (a.eval i)) rfl (Lk.index _ _ _) hwp
 | extract x i=>exact ZBr (m:=Instr.extract (a.eval x) i) rfl (Lk.extract _ _) hwp
 | call c=>
  obtain⟨cal,xs,ts⟩:=c;simp only[aOp,oC,oB] at ho;obtain⟨us,hus,ho⟩:=ho;have hr:=ZB2 hf hus
  cases cal with
  | value f=>cases hv
  | invoke r m=>cases hv
  | builtin b=>
   have hres:∀(m:Sem Value),(∀consts,builtin b ts type consts (xs.map a.eval)=ZEW m)→execOp a.eval ⟨dst, .call ⟨.builtin b,xs,ts⟩,type,pos,after,guard⟩=ZEW m:=fun m hm=>by
    simp only[execOp,resolve,pure_bind,invoke,hm]
   have hmap:xs.map a.eval=(xs.toList.map a.eval).toArray:=by
    apply Array.ext'
    simp
   cases b<;> first | (cases hv;done) | skip
   ·have ho' :∃k x k' y,us=[.int k x, .int k' y]:=by
     simp only[ZCI] at ho;split at ho<;> first | (cases ho;done) | (rename_i hh _;cases hh;done) | (rename_i hh;cases hh;done) | exact⟨_,_,_,_,rfl⟩
    obtain⟨k,x,k',y,rfl⟩:=ho';obtain⟨xv,us,e1,hx,har⟩:=(by simpa only[RelL] using hr:∃v us,xs.toList.map a.eval=v::us∧_∧∃v' us',us=v' ::us' ∧_∧us' =[])
    obtain⟨yv,us',e2,hy,e3⟩:=har;subst e3;subst e2;simp only[Rel] at hx hy;subst hx;subst hy;rw[hres (Builtin.max_ ts type #[.int k x, .int k' y]) (fun consts=>by rw[hmap,e1];rfl)]
    exact Steady.of_all (v:= .int k (if y > x then y else x)) fun w=>by simp[Builtin.max_,Builtin.max2]
   ·have ho' :∃k x k' y,us=[.int k x, .int k' y]:=by
     simp only[ZCI] at ho;split at ho<;> first | (cases ho;done) | (rename_i hh _;cases hh;done) | (rename_i hh;cases hh;done) | exact⟨_,_,_,_,rfl⟩
    obtain⟨k,x,k',y,rfl⟩:=ho';obtain⟨xv,us,e1,hx,har⟩:=(by simpa only[RelL] using hr:∃v us,xs.toList.map a.eval=v::us∧_∧∃v' us',us=v' ::us' ∧_∧us' =[])
    obtain⟨yv,us',e2,hy,e3⟩:=har;subst e3;subst e2;simp only[Rel] at hx hy;subst hx;subst hy;rw[hres (Builtin.min_ ts type #[.int k x, .int k' y]) (fun consts=>by rw[hmap,e1];rfl)]
    exact Steady.of_all (v:= .int k (if y<x then y else x)) fun w=>by simp[Builtin.min_,Builtin.min2]
   simp only[ZCI] at ho
   cases ho
 | _=>cases hv
end
end Go.Ai
end
section
namespace Go.Ai

/-! ### Loops aS a fixed point -/
inductive Runs {σ ρ:Type} (body:σ→Option (σ ⊕ ρ)):σ→ρ→Prop
 | done {a:σ} {r:ρ}:body a=some (.inr r)→Runs body a r
 | next {a b:σ} {r:ρ}:body a=some (.inl b)→Runs body b r→Runs body a r
open Classical in
noncomputable def loop {σ ρ:Type} (body:σ→Option (σ ⊕ ρ)) (a:σ):Option ρ:=
 if h:∃r,Runs body a r then some h.choose else none
section
variable {σ ρ:Type} {body:σ→Option (σ ⊕ ρ)}
theorem Runs.unique {a:σ} {r r' :ρ} (h:Runs body a r) (h' :Runs body a r'):r=r' :=by
 induction h with
 | done e=>
  cases h' with
  | done e' =>rw[e] at e';injection e' with e';injection e'
  | next e' _=>rw[e] at e';injection e' with e';cases e'
 | next e _ ih=>
  cases h' with
  | done e' =>rw[e] at e';injection e' with e';cases e'
  | next e' k=>rw[e] at e';injection e' with e';injection e' with e';subst e';exact ih k
theorem ZFP {a:σ} {r:ρ}:loop body a=some r↔Runs body a r:=by
 unfold loop;constructor
 ·intro h;split at h
  ·rename_i h';injection h with h;subst h;exact h'.choose_spec
  cases h
 intro h;have h' :∃r,Runs body a r:=⟨r,h⟩
 rw[dif_pos h'];exact congrArg some (h'.choose_spec.unique h)
theorem ZQw (a:σ):loop body a=match body a with | none=>none | some (.inl b)=>loop body b | some (.inr r)=>some r:=by
 cases hb:body a with
 | none=>
  simp only
  cases h:loop body a with
  | none=>rfl
  | some r=>
   have:=ZFP.1 h
   cases this with
   | done e=>rw[hb] at e;cases e
   | next e _=>rw[hb] at e;cases e
 | some o=>
  cases o with
  | inr r=>exact ZFP.2 (.done hb)
  | inl b=>
   simp only
   cases h:loop body b with
   | some r=>exact ZFP.2 (.next hb (ZFP.1 h))
   | none=>
    cases h' :loop body a with
    | none=>rfl
    | some r=>
     have:=ZFP.1 h'
     cases this with
     | done e=>rw[hb] at e;cases e
     | next e k=>
      rw[hb] at e;injection e with e;injection e with e;subst e
      rw[ZFP.2 k] at h;cases h
theorem ZAc {a b:σ} (h:body a=some (.inl b)):loop body a=loop body b:=by rw[ZQw,h]
theorem ZAT {a:σ} {r:ρ} (h:body a=some (.inr r)):loop body a=some r:=by rw[ZQw,h]
end
theorem bs {α β:Type} {x:Option α} {f:α→Option β} {r:β} (h:x.bind f=some r):∃a,x=some a∧f a=some r:=by
 cases x with
 | none=>cases h
 | some a=>exact⟨a,rfl,h⟩

/-! ### Frames -/
abbrev Fm:=Nat→AV
def frm (n:Nat) (φ:Fm):List AV:=(List.range n).map φ
def upd (φ:Fm) (d:Nat) (v:AV):Fm:=fun t=>match Nat.beq t d with | true=>v | false=>φ t
def ups (φ:Fm):List (Nat×AV)→Fm
 | []=>φ
 | (t,v)::l=>upd (ups φ l) t v
def Fx (φ:Fm):List (Nat×AV)→Prop
 | []=>True
 | (t,v)::l=>φ t=v∧Fx φ l
def fxL (φ:Fm):List (Nat×AV)→List AV
  | []=>[]
  | (t,_)::l=>φ t::fxL φ l
def fxV:List (Nat×AV)→List AV
  | []=>[]
  | (_,v)::l=>v::fxV l
theorem FxR {φ:Fm}:∀{l:List (Nat×AV)},fxL φ l=fxV l→Fx φ l
  | [],_=>trivial
  | (t,v)::l,h=>⟨(List.cons.inj h).1,FxR (List.cons.inj h).2⟩
theorem ZOm (φ:Fm) (d:Nat):upd φ d (φ d)=φ:=by
 funext t
 unfold upd;split
 ·rename_i h;rw[Nat.eq_of_beq_eq_true h]
 rfl
theorem Fx.eq {φ:Fm}:∀{l:List (Nat×AV)},Fx φ l→ups φ l=φ
 | [],_=>rfl
 | (t,v)::l,⟨h,k⟩=>by
  show upd (ups φ l) t v=φ
  rw[k.eq,←h,ZOm]
def ZAb (n:Nat) (φ:Fm):Operand→Option AV
 | .tmp t=>match Nat.blt t n with | true=>some (φ t) | false=>none
 | .const v=>ZLx v
 | .global g=>some (.gptr g 0)
 | .func f=>some (.fn f [] [])
theorem ZKq {n:Nat} {φ:Fm} {t:Nat} (h:t<n):(frm n φ).getD t .undef=φ t:=by
 simp[frm,List.getD_eq_getElem?_getD,List.getElem?_range,h]
theorem ZNe {n:Nat} {φ:Fm} {d:Nat} {v:AV}:(frm n φ).set d v=frm n (upd φ d v):=by
 apply List.ext_getElem?
 intro t;unfold frm upd;rw[List.getElem?_set];by_cases h:d=t
 ·subst h;simp only[if_true,List.length_map,List.length_range,List.getElem?_map];by_cases hd:d<n
  ·simp[hd,List.getElem?_range]
  simp[hd]
 rw[if_neg h];simp only[List.getElem?_map];have e:Nat.beq t d=false:=by
  cases e:Nat.beq t d with
  | false=>rfl
  | true=>exact absurd (Nat.eq_of_beq_eq_true e).symm h
 cases hx:(List.range n)[t]? with
 | none=>rfl
 | some u=>
  have:u=t:=by
   have:=List.getElem?_eq_some_iff.1 hx
   obtain⟨h1,h2⟩:=this;simpa using h2.symm
  subst this;simp[e]
theorem ZAM {n:Nat} {φ:Fm} {x:Operand} {v:AV} (h:ZAb n φ x=some v):ZAp (frm n φ) x=some v:=by
 cases x with
 | tmp t=>
  simp only[ZAb] at h;split at h
  ·rename_i hb;rw[ZAp,ZKq (Nat.le_of_ble_eq_true hb)];exact h
  cases h
 | _=>exact h
theorem ZHR {n:Nat} {φ:Fm} {d:Nat} {v:AV}:aPut (frm n φ) (some d) v=frm n (upd φ d v):=ZNe

/-! ### What a piece of code comes to, on the machine -/
def ZHS (q:Prims):Op→Bool
 | .call ⟨.value (.func g),_,_⟩=>(q g).isSome
 | _=>false
def wl (P:Program) (q:Prims) (ops:Array Oper) (R:Exit→Act→World→Prop) (A:Act→World→Prop):List Oper→Act→World→Prop
 | [],a,w=>A a w
 | o::l,a,w=>if Region.wanted o (yielded ops a.tmps) then(ZFz P o.op=true→Steady P (execOp a.eval o))∧o.wp P a w (fun a' w' =>(ZHS q o.op=true→Sub w w')∧wl P q ops R A l a' w') R else wl P q ops R A l (a.put o.dst undef) w
theorem ZTm {P:Program} {q:Prims} {ops:Array Oper} {R:Exit→Act→World→Prop} {A:Act→World→Prop} {l2:List Oper}:∀l1:List Oper,wl P q ops R A (l1++l2)=wl P q ops R (wl P q ops R A l2) l1
 | []=>rfl
 | o::l1=>by funext a w;simp only[List.cons_append,wl,ZTm l1]
theorem ZNf {P:Program} {q:Prims} {ops:Array Oper} {R:Exit→Act→World→Prop}:∀(l:List Oper) {a:Act} {w:World},wl P q ops R (R .normal) l a w→wpList P ops R l a w
 | [],_,_,h=>h
 | o::l,a,w,h=>by
  unfold wl at h;unfold wpList;split
  ·rename_i hw;rw[if_pos hw] at h;exact .inl (Oper.wp_mono (fun a w h=>ZNf l h.2) h.2)
  rename_i hw;rw[if_neg hw] at h;exact ZNf l h
section
variable (P:Program) (prims:Prims) (n:Nat)
def endK (K:Fm→St→Prop) (Q:AExit→Fm→St→Prop):AExit→Fm→St→Prop
 | .normal=>K
 | e=>Q e
def TC (c:Code) (K:Fm→St→Prop) (Q:AExit→Fm→St→Prop) (φ:Fm) (s:St):Prop:=
 ZAX P prims→∀(base:Nat) (ρ:Pl) (X:Reg) (w:World) (a:Act) (R:Exit→Act→World→Prop),base≤w.heap.size→Sim base ρ X s w→RelL w ρ (UX ρ s.h X) s.c (frm n φ) a.tmps.toList→a.defers=[]→
  (∀e φ' s' a' w',endK K Q e φ' s' →PostF base ρ X s w (frm n φ') s' a' w' →R (ZMA e) a' w')→c.wp P R a w
def TO (b:Bool) (ops:Array Oper) (l:List Oper) (K:Fm→St→Prop) (φ:Fm) (s:St):Prop:=
 match b with
 | true=>WO P prims ops l (fun fr' s' =>∃φ',fr' =frm n φ' ∧K φ' s') (frm n φ) s
 | false=>ZAX P prims→∀(base:Nat) (ρ:Pl) (X:Reg) (w:World) (a:Act) (R:Exit→Act→World→Prop) (A:Act→World→Prop),base≤w.heap.size→Sim base ρ X s w→RelL w ρ (UX ρ s.h X) s.c (frm n φ) a.tmps.toList→a.defers=[]→
  (∀φ' s' a' w',K φ' s' →PostF base ρ X s w (frm n φ') s' a' w' →A a' w')→wl P prims ops R A l a w
end
section
variable {P:Program} {prims:Prims} {n:Nat} {b:Bool} {K K' :Fm→St→Prop} {Q Q' :AExit→Fm→St→Prop} {φ φ' :Fm} {s s' :St}
theorem TC.mono {c:Code} (h:TC P prims n c K Q φ s) (hK:∀φ s,K φ s→K' φ s) (hQ:∀e φ s,Q e φ s→Q' e φ s):TC P prims n c K' Q' φ s:=
 fun hp base ρ X w a R hb hs hr hd hR=>h hp base ρ X w a R hb hs hr hd fun e φ' s' a' w' he=>hR e φ' s' a' w' (by cases e<;> first | exact hK _ _ he | exact hQ _ _ _ he)
theorem ZAB {x y:Code} (h:TC P prims n x (fun φ s=>TC P prims n y K Q φ s) Q φ s):TC P prims n (.seq x y) K Q φ s:=
 fun hp base ρ X w a R hb hs hr hd hR=>wp_seq (h hp base ρ X w a _ hb hs hr hd fun e φ' s' a' w' he hpf=>by
  cases e with
  | normal=>
   obtain⟨ρ1,g1,g2,g3,g4,g5,g6,g7⟩:=hpf;exact he hp base ρ1 X w' a' R (Nat.le_trans hb g5.size) g3 g4 g7 fun e φ'' s'' a'' w'' he' hq=>hR e φ'' s'' a'' w'' he' (PostF.cons g1 g2 g5 g6 hq)
  | exit id=>exact hR _ _ _ _ _ he hpf
  | ret=>exact hR _ _ _ _ _ he hpf)
theorem ZAL (h:K φ s):TC P prims n .skip K Q φ s:=fun hp base ρ X w a R hb hs hr hd hR=>wp_skip (hR .normal φ s a w h (.refl hs hr hd))
theorem ZOn {l:_} (h:K φ s):TC P prims n (.label l) K Q φ s:=fun hp base ρ X w a R hb hs hr hd hR=>wp_label (hR .normal φ s a w h (.refl hs hr hd))
theorem ZAf {id:Nat} (h:Q (.exit id) φ s):TC P prims n (.exit id) K Q φ s:=fun hp base ρ X w a R hb hs hr hd hR=>wp_exit (hR (.exit id) φ s a w h (.refl hs hr hd))
theorem ZAN (h:Q .ret φ s):TC P prims n .ret K Q φ s:=fun hp base ρ X w a R hb hs hr hd hR=>wp_ret (hR .ret φ s a w h (.refl hs hr hd))
theorem ZOo {c:Code} (h:TC P prims n c K Q φ s):TC P prims n (.scope c) K Q φ s:=fun hp base ρ X w a R hb hs hr hd hR=>wp_scope_straight (h hp base ρ X w a _ hb hs hr hd fun e φ' s' a' w' he hpf=>by cases e<;> exact hR _ _ _ _ _ he hpf)
theorem ZAH {c:Operand} {x y:Code} {t:Bool} (hc:ZAb n φ c=some (.bool t)) (ht:t=true) (k:TC P prims n x K Q φ s):TC P prims n (.cond c x y) K Q φ s:=by
 subst ht;intro hp base ρ X w a R hb hs hr hd hR;have hv:=ZAW hr (ZAM hc);simp only[Rel] at hv;exact wp_cond_true hv (k hp base ρ X w a R hb hs hr hd hR)
theorem ZAI {c:Operand} {x y:Code} {t:Bool} (hc:ZAb n φ c=some (.bool t)) (ht:¬t=true) (k:TC P prims n y K Q φ s):TC P prims n (.cond c x y) K Q φ s:=by
 have:t=false:=by simpa using ht
 subst this;intro hp base ρ X w a R hb hs hr hd hR;have hv:=ZAW hr (ZAM hc);simp only[Rel] at hv;exact wp_cond_false hv (k hp base ρ X w a R hb hs hr hd hR)
theorem ZAQ {id:Nat} {c:Code} (h:TC P prims n c K (fun e φ s=>if e= .exit id then K φ s else Q e φ s) φ s):TC P prims n (.block id c) K Q φ s:=
 fun hp base ρ X w a R hb hs hr hd hR=>wp_block (h hp base ρ X w a _ hb hs hr hd fun e φ' s' a' w' he hpf=>by
  cases e with
  | normal=>exact hR .normal _ _ _ _ he hpf
  | exit id' =>
   show Exit.inBlock id R (.exit id') a' w'
   simp only[Exit.inBlock];have he:if(AExit.exit id')= .exit id then K φ' s' else Q (.exit id') φ' s' :=he
   split
   ·rename_i hid;subst hid;rw[if_pos rfl] at he;exact hR .normal _ _ _ _ he hpf
   rename_i hid;rw[if_neg (by simpa using hid)] at he;exact hR (.exit id') _ _ _ _ he hpf
  | ret=>
   have he:if AExit.ret= .exit id then K φ' s' else Q .ret φ' s' :=he
   rw[if_neg (by simp)] at he
   exact hR .ret _ _ _ _ he hpf)
theorem ZAC {id:Nat} {ops:Array Oper} (h:TO P prims n false ops ops.toList K φ s):TC P prims n (.region id ops false) K Q φ s:=
 fun hp base ρ X w a R hb hs hr hd hR=>wp_region_list (ZNf _ (h hp base ρ X w a R _ hb hs hr hd fun φ' s' a' w' hk hpf=>hR .normal _ _ _ _ hk hpf))
theorem ZSk {ops:Array Oper} {H:List AV→St→Prop} {fr:List AV} (hc:calm P prims ops (Region.before ops)=true) (h:WO P prims ops ops.toList H fr s):∃fr' s' m,H fr' s' ∧ZHp P (ZEm P prims m) prims ops (Region.before ops) (List.range ops.size) fr s=some (fr',s'):=by
 unfold WO at h;obtain⟨fr1,s1,h1,N,hN⟩:=h;refine⟨fr1,s1,N,h1,?_⟩
 rw[List.range_eq_range',show ops.size=ops.toList.length by simp,ZNd (P:=P) (call:=ZEm P prims N) hc ops.toList 0 rfl fr s]
 exact hN N (Nat.le_refl _)
theorem ZBJ {id:Nat} {ops:Array Oper} (hok:ZKM P ops=true) (hc:calm P prims ops (Region.before ops)=true) (h:TO P prims n true ops ops.toList K φ s):TC P prims n (.region id ops true) K Q φ s:=by
 intro hp base ρ X w a R hb hs hr hd hR;obtain⟨fr1,s1,m,⟨φ',e,hK⟩,hrun⟩:=ZSk hc h;subst e;exact ZQl (ZDB hp m) (ZI7 m) ops R id hok hb hs hr hd hrun fun a' w' hpf=>hR .normal _ _ _ _ hK hpf
inductive ZSl {σ ρ:Type} (body:σ→Option (σ ⊕ ρ)):Nat→σ→ρ→Prop
 | done {a:σ} {r:ρ}:body a=some (.inr r)→ZSl body 1 a r
 | next {k:Nat} {a b:σ} {r:ρ}:body a=some (.inl b)→ZSl body k b r→ZSl body (k+1) a r
theorem Runs.count {σ ρ:Type} {body:σ→Option (σ ⊕ ρ)} {a:σ} {r:ρ} (h:Runs body a r):∃k,ZSl body k a r:=by
 induction h with
 | done h=>exact⟨1, .done h⟩
 | next h _ ih=>obtain⟨k,hk⟩:=ih;exact⟨k+1, .next h hk⟩
theorem ZAk {σ τ:Type} {body:σ→Option (σ ⊕ τ)} {c:Code} (I:σ→Fm→St→Prop) (E:τ→AExit→Fm→St→Prop)
  (step:∀a o,body a=some o→∀φ s,I a φ s→TC P prims n c (fun φ' s' =>∃b,o= .inl b∧I b φ' s') (fun e φ' s' =>∃r,o= .inr r∧E r e φ' s') φ s)
  {a:σ} {r:τ} (hr:loop body a=some r) (h0:I a φ s) (hE:∀e φ s,E r e φ s→Q e φ s):TC P prims n (.loop c) K Q φ s:=by
 obtain⟨k,hk⟩:=(ZFP.1 hr).count;intro hp base ρ X w ac R hb hs hrl hd hR;refine wp_loop_rounds k ?_
 clear hr
 induction hk generalizing φ s ρ w ac with
 | @done a r hb' =>
  rw[rounds_succ];refine step a _ hb' φ s h0 hp base ρ X w ac _ hb hs hrl hd fun e φ' s' a' w' he hpf=> ?_
  cases e with
  | normal=>obtain⟨b,e2,_⟩:=he;cases e2
  | exit id=>obtain⟨r',e2,h⟩:=he;injection e2 with e2;subst e2;exact hR (.exit id) _ _ _ _ (hE _ _ _ h) hpf
  | ret=>obtain⟨r',e2,h⟩:=he;injection e2 with e2;subst e2;exact hR .ret _ _ _ _ (hE _ _ _ h) hpf
 | @next k a b r hb' hk ih=>
  rw[rounds_succ];refine step a _ hb' φ s h0 hp base ρ X w ac _ hb hs hrl hd fun e φ' s' a' w' he hpf=> ?_
  cases e with
  | normal=>
   obtain⟨b',e2,hI⟩:=he;injection e2 with e2;subst e2
   obtain⟨ρ1,g1,g2,g3,g4,g5,g6,g7⟩:=hpf;exact ih hI hE ρ1 w' a' (Nat.le_trans hb g5.size) g3 g4 g7 fun e φ'' s'' a'' w'' he' hq=>hR e φ'' s'' a'' w'' he' (PostF.cons g1 g2 g5 g6 hq)
  | exit id=>obtain⟨r',e2,h⟩:=he;cases e2
  | ret=>obtain⟨r',e2,h⟩:=he;cases e2
/-! ### Operations -/
theorem ZAA {ops:Array Oper} (h:K φ s):TO P prims n b ops [] K φ s:=by
 cases b with
 | true=>exact ZV0 ⟨φ,rfl,h⟩
 | false=>exact fun hp base ρ X w a R A hb hs hr hd hR=>hR φ s a w h (.refl hs hr hd)
theorem ZG2 {ops:Array Oper} {o:Oper} {l:List Oper} (hg:o.guard=none)
  (h:ZAX P prims→∀(base:Nat) (ρ:Pl) (X:Reg) (w:World) (a:Act) (A:Act→World→Prop) (B:Exit→Act→World→Prop),base≤w.heap.size→Sim base ρ X s w→RelL w ρ (UX ρ s.h X) s.c (frm n φ) a.tmps.toList→a.defers=[]→
   (∀v s' v' w',TO P prims n false ops l K (match o.dst with | some d=>upd φ d v | none=>φ) s' →Post base ρ X s w v s' v' w' →(ZHS prims o.op=true→Sub w w')→A (a.put o.dst v') w')→(ZFz P o.op=true→Steady P (execOp a.eval o))∧o.wp P a w A B):TO P prims n false ops (o::l) K φ s:=by
 intro hp base ρ X w a R A hb hs hr hd hR;have hw:Region.wanted o (yielded ops a.tmps)=true:=by simp[Region.wanted,hg]
 unfold wl;rw[if_pos hw];refine h hp base ρ X w a _ _ hb hs hr hd fun v s' v' w' hk hpost hsub=>⟨hsub,?_⟩
 have hpf:=Post.frame (dst:=o.dst) hs hr hd hpost;have e:aPut (frm n φ) o.dst v=frm n (match o.dst with | some d=>upd φ d v | none=>φ):=by
  cases o.dst with
  | none=>rfl
  | some d=>exact ZHR
 rw[e] at hpf;obtain⟨ρ1,g1,g2,g3,g4,g5,g6,g7⟩:=hpf;exact hk hp base ρ1 X w' _ R A (Nat.le_trans hb g5.size) g3 g4 g7 fun φ'' s'' a'' w'' hk' hq=>hR φ'' s'' a'' w'' hk' (PostF.cons g1 g2 g5 g6 hq)
theorem ZHT {ops:Array Oper} {o:Oper} {l:List Oper} (hg:o.guard=none) (hv:ZFz P o.op=false) (hq:ZAX P prims→ZHS prims o.op=false)
  (h:ZAX P prims→∀(base:Nat) (ρ:Pl) (X:Reg) (w:World) (a:Act) (A:Act→World→Prop) (B:Exit→Act→World→Prop),base≤w.heap.size→Sim base ρ X s w→RelL w ρ (UX ρ s.h X) s.c (frm n φ) a.tmps.toList→a.defers=[]→
   (∀v s' v' w',TO P prims n false ops l K (match o.dst with | some d=>upd φ d v | none=>φ) s' →Post base ρ X s w v s' v' w' →A (a.put o.dst v') w')→o.wp P a w A B):TO P prims n false ops (o::l) K φ s:=
 ZG2 hg fun hp base ρ X w a A B hb hs hr hd hA=>⟨fun e=>(by rw[hv] at e;cases e),h hp base ρ X w a A B hb hs hr hd fun v s' v' w' hk hpost=>hA v s' v' w' hk hpost fun e=>by rw[hq hp] at e;cases e⟩
theorem ZOp {o:Oper} {v:AV} (h:∀call,aOp P call o (frm n φ) s=some (v,s')):ZHS prims o.op=false:=by
 cases hop:o.op with
 | call c=>
  obtain⟨cal,xs,ts⟩:=c
  cases cal with
  | value f=>
   exfalso
   have:=h fun _ _ _=>none
   simp only[aOp,hop,oC,oB] at this;obtain⟨us,hus,fv,hf,this⟩:=this;split at this<;> cases this
  | _=>rfl
 | _=>rfl
theorem ZJC {base:Nat} {ρ:Pl} {X:Reg} {w:World} {f:FuncId} {F:Glob→List AV→Option AV} (hF:ZAq P f F) {args:List AV} {v:AV} {vs:List Value} (h:Sim base ρ X s w) (hr:RelL w ρ (UX ρ s.h X) s.c args vs) (hc:ZBc F args s=some (v,s')):
  Calls P f vs.toArray w fun e w' =>∃v',e= .returned v' ∧Post base ρ X s w v s' v' w' ∧Sub w w' :=by
 simp only[ZBc,oC,oB] at hc;obtain⟨us,hus,r,hr',hc⟩:=hc;split at hc
 ·cases hc
 rename_i hno;injection hc with hc;injection hc with e1 e2;subst e1;subst e2
 have hold:∀b j,UX ρ s.h X b j→b<w.heap.size:=by
  rintro b j (⟨n,o,hn,hnb,_⟩ | hx)
  ·rw[←hnb];exact h.blk_lt hn
  exact h.old b j hx
 cases hany:us.any (·.2) with
 | false=>
  have hv:=ZFw (U:=UX ρ s.h X) h hr hus (fun x y hxy=>⟨hany,hxy⟩)
  have hG:GlobOk w ρ0 (UX ρ s.h X) 0 s.g:=fun g cs hg=>by
   obtain⟨g1,ws,g2,g3⟩:=h.glob g cs hg;exact⟨g1,ws,RelL.pure (fun _ _ hj=>hj) _ _ g1 g2,g3⟩
  refine(hF.2 _ _ r hr' w (UX ρ s.h X) vs hold hG hv).mono fun e w' he=> ?_
  obtain⟨v',rfl,hr2,hb⟩:=he;refine⟨v',rfl,Post.grow h hb.os hb.tape hb.output hb.size (fun b hb' =>hb.block b hb') ?_,Sub.below hb⟩
  exact Rel.mono ⟨Nat.zero_le _,fun n hn=>absurd hn (Nat.not_lt_zero _),fun a u hu _=>hu,fun a ha=>ha,fun _ _ _ hj=>hj⟩ _ _ hr2
 | true=>
  have hs:ZQR r=true:=by simpa[hany] using hno
  have hv:=ZFw (U:=ZFv) h hr hus (fun x y hxy=>hxy.elim)
  have hG:GlobOk w ρ0 ZFv 0 s.g:=fun g cs hg=>by
   obtain⟨g1,ws,g2,g3⟩:=h.glob g cs hg;exact⟨g1,ws,RelL.pure (fun _ _ hj=>hj.elim) _ _ g1 g2,fun j u hj=>⟨(g3 j u hj).1,fun hj=>hj.elim⟩⟩
  refine(hF.2 _ _ r hr' w ZFv vs (fun b j hj=>hj.elim) hG hv).mono fun e w' he=> ?_
  obtain⟨v',rfl,hr2,hb⟩:=he;exact⟨v',rfl,Post.grow h hb.os hb.tape hb.output hb.size (fun b hb' =>hb.block b hb') (ZMB hs hr2),Sub.below hb⟩
section
variable {ops:Array Oper} {l:List Oper} {d:Tmp} {v:AV}
theorem ZA2 {o:Oper} (hg:o.guard=none) (hd:o.dst=some d) (h:∀call,aOp P call o (frm n φ) s=some (v,s')) (k:TO P prims n b ops l K (upd φ d v) s'):TO P prims n b ops (o::l) K φ s:=by
 cases b with
 | true=>
  refine ZQp hg h ?_ k
  rw[hd];exact ZHR
 | false=>
  refine ZG2 hg fun hp base ρ X w a A B hb hs hr hdf hA=>⟨fun hv=>ZMJ (ZDB hp 0) hv hb hs hr (h _),?_⟩
  exact ZPn (ZDB hp 0) hb hs hr (h _) fun v' w' hpost=>hA v s' v' w' (by rw[hd];exact k) hpost fun e=>by rw[ZOp h] at e;cases e
theorem ZJD {o:Oper} (hg:o.guard=none) (hd:o.dst=none) (h:∀call,aOp P call o (frm n φ) s=some (v,s')) (k:TO P prims n b ops l K φ s'):TO P prims n b ops (o::l) K φ s:=by
 cases b with
 | true=>
  refine ZQp hg h ?_ k
  rw[hd];rfl
 | false=>
  refine ZG2 hg fun hp base ρ X w a A B hb hs hr hdf hA=>⟨fun hv=>ZMJ (ZDB hp 0) hv hb hs hr (h _),?_⟩
  exact ZPn (ZDB hp 0) hb hs hr (h _) fun v' w' hpost=>hA v s' v' w' (by rw[hd];exact k) hpost fun e=>by rw[ZOp h] at e;cases e
theorem ZQx {g:FuncId} {fn:Func} {aS:Array Operand} {ts:Array TypeId} {F:Glob→List AV→Option AV} {vs:List AV} {r:AV} {ty:TypeId} {pos:String} {af:Array Edge} (hp:prims g=some F) (hf:P.funcs[g]? =some fn) (hn:ZCn fn=true)
  (ha:ZBq (frm n φ) aS.toList=some vs) (hc:ZBc F vs s=some (r,s)) (k:TO P prims n b ops l K (upd φ d r) s):TO P prims n b ops (⟨some d, .call ⟨.value (.func g),aS,ts⟩,ty,pos,af,none⟩::l) K φ s:=by
 cases b with
 | true=>exact ZU0 hp hf hn ha hc ZHR k
 | false=>
  refine ZG2 rfl fun hpr base ρ X w a A B hb hs hr hdf hA=>⟨fun e=>(by cases e),?_⟩
  have hcl:=ZJC (base:=base) (hpr g F hp) hs (ZB2 hr ha) hc;unfold Oper.wp;have e:a.eval (.func g)= .func (.func g) #[] #[]:=rfl
  have hrun:(execOp a.eval (⟨some d, .call ⟨.value (.func g),aS,ts⟩,ty,pos,af,none⟩:Oper)).run P w= .ok (.enter g (aS.toList.map a.eval).toArray) w:=by
   simp only[execOp,resolve,e,Deferred.ofValue,pure_bind,invoke];rw[ZDU hf hn];congr 2
   apply Array.ext'
   simp
  rw[hrun];refine hcl.mono fun e' w' he=> ?_
  obtain⟨v',rfl,h1,h2⟩:=he;exact hA r s v' w' k h1 fun _=>h2
end
end
end Go.Ai
end
section
namespace Go.Ai
def Str:Type:=List UInt8

class Enc (T:Type) where
 enc:T→AV
 k:Nat
 is:AV→T→Prop
 inj:∀{a b},enc a=enc b→a=b
 strip:∀{x a},is x a→ZAv x=enc a
 self:∀a,is (enc a) a
 el:∀{x a},is x a→ZA4 k x
 pu:∀a,ZB6 (enc a)=true
open Enc (enc is)
theorem ZBS {x:AV} (h1:x.cells=[x]) (h2:x.one=true):ZA4 0 x:=
 ⟨by rw[h1];rfl,fun y hy=>by rw[h1] at hy;simp at hy;subst hy;exact h2,fun _=>h2,fun h=>absurd rfl h⟩
instance:Enc Int where
 enc n:= .int .i64 n
 k:=0
 is x n:=x= .int .i64 n
 inj h:=by injection h
 strip h:=by subst h;rfl
 self _:=rfl
 el h:=by subst h;exact ZBS rfl rfl
 pu _:=rfl
instance:Enc Bool where
 enc b:= .bool b
 k:=0
 is x b:=x= .bool b
 inj h:=by injection h
 strip h:=by subst h;rfl
 self _:=rfl
 el h:=by subst h;exact ZBS rfl rfl
 pu _:=rfl
instance:Enc Str where
 enc b:= .str b
 k:=0
 is x b:=x= .str b
 inj h:=by injection h
 strip h:=by subst h;rfl
 self _:=rfl
 el h:=by subst h;exact ZBS rfl rfl
 pu _:=rfl
instance:Enc UInt8 where
 enc b:= .int .u8 (b.toNat:Int)
 k:=0
 is x b:=x= .int .u8 (b.toNat:Int)
 inj h:=by injection h with _ h;exact UInt8.toNat_inj.1 (by omega)
 strip h:=by subst h;rfl
 self _:=rfl
 el h:=by subst h;exact ZBS rfl rfl
 pu _:=rfl
instance:Enc UInt64 where
 enc b:= .int .u64 (b.toNat:Int)
 k:=0
 is x b:=x= .int .u64 (b.toNat:Int)
 inj h:=by injection h with _ h;exact UInt64.toNat_inj.1 (by omega)
 strip h:=by subst h;rfl
 self _:=rfl
 el h:=by subst h;exact ZBS rfl rfl
 pu _:=rfl
structure Rune where
 v:Int
 deriving DecidableEq
instance:Enc Rune where
 enc b:= .int .i32 b.v
 k:=0
 is x b:=x= .int .i32 b.v
 inj {a b} h:=by injection h with _ h;cases a;cases b;simp_all
 strip h:=by subst h;rfl
 self _:=rfl
 el h:=by subst h;exact ZBS rfl rfl
 pu _:=rfl

/-! ### Rows -/
section
variable {T:Type} [Enc T]
def encL:List T→AV
 | []=> .emp false
 | a::l=> .vec (Enc.k T) ((a::l).map enc) .unk
def isR:List AV→List T→Prop
 | [],[]=>True
 | x::xs,a::l=>is x a∧isR xs l
 | _,_=>False
def isL (x:AV) (l:List T):Prop:=((x= .nils∨∃z,x= .emp z)∧l=[])∨∃xs c,x= .vec (Enc.k T) xs c∧isR xs l
theorem ZU1 {l m:List T} (h:l.map (enc (T:=T))=m.map enc):l=m:=by
 induction l generalizing m with
 | nil=>cases m with
  | nil=>rfl
  | cons b m=>simp at h
 | cons a l ih=>cases m with
  | nil=>simp at h
  | cons b m=>
   simp only[List.map_cons,List.cons.injEq] at h;rw[Enc.inj h.1,ih h.2]
theorem isR.len {xs:List AV} {l:List T} (h:isR xs l):xs.length=l.length:=by
 induction xs generalizing l with
 | nil=>cases l with
  | nil=>rfl
  | cons=>exact h.elim
 | cons x xs ih=>cases l with
  | nil=>exact h.elim
  | cons a l=>simp only[List.length_cons];rw[ih h.2]
theorem isR.strip {xs:List AV} {l:List T} (h:isR xs l):ZA9 xs=l.map enc:=by
 induction xs generalizing l with
 | nil=>cases l with
  | nil=>rfl
  | cons=>exact h.elim
 | cons x xs ih=>cases l with
  | nil=>exact h.elim
  | cons a l=>simp only[ZA9,List.map_cons];rw[ih h.2,Enc.strip h.1]
theorem isR.self:∀l:List T,isR (l.map enc) l
 | []=>trivial
 | a::l=>⟨Enc.self a,isR.self l⟩
theorem isR.append {xs ys:List AV} {l m:List T} (h:isR xs l) (k:isR ys m):isR (xs++ys) (l++m):=by
 induction xs generalizing l with
 | nil=>cases l with
  | nil=>exact k
  | cons=>exact h.elim
 | cons x xs ih=>cases l with
  | nil=>exact h.elim
  | cons a l=>exact⟨h.1,ih h.2⟩
theorem isR.take {xs:List AV} {l:List T} (h:isR xs l) (n:Nat):isR (xs.take n) (l.take n):=by
 induction xs generalizing l n with
 | nil=>cases l with
  | nil=>simp[isR]
  | cons=>exact h.elim
 | cons x xs ih=>cases l with
  | nil=>exact h.elim
  | cons a l=>cases n with
   | zero=>simp[isR]
   | succ n=>exact⟨h.1,ih h.2 n⟩
theorem isR.drop {xs:List AV} {l:List T} (h:isR xs l) (n:Nat):isR (xs.drop n) (l.drop n):=by
 induction xs generalizing l n with
 | nil=>cases l with
  | nil=>simp[isR]
  | cons=>exact h.elim
 | cons x xs ih=>cases l with
  | nil=>exact h.elim
  | cons a l=>cases n with
   | zero=>exact h
   | succ n=>exact ih h.2 n
theorem isR.get {xs:List AV} {l:List T} (h:isR xs l) {i:Nat} {a:T} (ha:l[i]? =some a):∃x,xs[i]? =some x∧is x a:=by
 induction xs generalizing l i with
 | nil=>cases l with
  | nil=>simp at ha
  | cons=>exact h.elim
 | cons x xs ih=>cases l with
  | nil=>exact h.elim
  | cons b l=>cases i with
   | zero=>simp at ha;subst ha;exact⟨x,rfl,h.1⟩
   | succ i=>simp only[List.getElem?_cons_succ] at ha ⊢;exact ih h.2 ha
theorem isR.set {xs:List AV} {l:List T} (h:isR xs l) (i:Nat) {x:AV} {a:T} (ha:is x a):isR (xs.set i x) (l.set i a):=by
 induction xs generalizing l i with
 | nil=>cases l with
  | nil=>exact h
  | cons=>exact h.elim
 | cons y xs ih=>cases l with
  | nil=>exact h.elim
  | cons b l=>cases i with
   | zero=>exact⟨ha,h.2⟩
   | succ i=>exact⟨h.1,ih h.2 i⟩
theorem ZMK:∀l:List T,ZCR (l.map enc)=true
 | []=>rfl
 | a::l=>by simp only[List.map_cons,ZCR,Enc.pu a,ZMK l,Bool.and_self]
theorem isL.strip {x:AV} {l:List T} (h:isL x l):ZAv x=encL l:=by
 rcases h with⟨rfl | ⟨z,rfl⟩,rfl⟩ | ⟨xs,c,rfl,h⟩
 ·rfl
 ·rfl
 cases l with
 | nil=>cases xs with
  | nil=>rfl
  | cons=>exact h.elim
 | cons a l=>cases xs with
  | nil=>exact h.elim
  | cons x xs=>simp only[ZAv,List.isEmpty_cons,Bool.false_eq_true,if_false,h.strip];rfl
instance:Enc (List T) where
 enc:=encL
 k:=0
 is:=isL
 inj {a b} h:=by
  cases a with
  | nil=>cases b with
   | nil=>rfl
   | cons=>cases h
  | cons a l=>cases b with
   | nil=>cases h
   | cons b m=>injection h with _ h;exact ZU1 h
 strip:=isL.strip
 self l:=by
  cases l with
  | nil=>exact .inl ⟨.inr ⟨_,rfl⟩,rfl⟩
  | cons a l=>exact .inr ⟨_,_,rfl,isR.self _⟩
 el h:=by rcases h with⟨rfl | ⟨z,rfl⟩,_⟩ | ⟨xs,c,rfl,_⟩<;> exact ZBS rfl rfl
 pu l:=by
  cases l with
  | nil=>rfl
  | cons a l=>simp only[encL,ZB6,ZMK,Bool.and_self]
theorem isL.nil:isL .nils ([]:List T):= .inl ⟨.inl rfl,rfl⟩
theorem isL.vec {xs:List AV} {c:Cap} {l:List T} (h:isR xs l):isL (.vec (Enc.k T) xs c) l:= .inr ⟨_,_,rfl,h⟩
end

theorem ZU2 {T:Type} [Enc T] {x:AV} {a:T} {s:St} (h:is x a):view s x=some (enc a,false):=by
 have h1:=Enc.strip h;have h2:=Enc.pu a;unfold view;split
 ·rw[ZAv] at h1;rw[←h1] at h2;cases h2
 ·rw[ZAv] at h1;rw[←h1] at h2;cases h2
 rw[h1,h2];rfl

/-! ### Results -/
theorem ZQy {x u:AV} (h:ZAv x=u) (hp:ZB6 u=true):out x=some u:=by
 unfold out;rw[h,hp];rfl
class Res (R:Type) where
 res:R→AV
 ris:AV→R→Prop
 out:∀{x r},ris x r→out x=some (res r)
open Res (res ris)
instance {T:Type} [Enc T]:Res T where
 res:=enc
 ris:=is
 out h:=ZQy (Enc.strip h) (Enc.pu _)
instance {A B:Type} [Enc A] [Enc B]:Res (A×B) where
 res r:= .tup [enc r.1,enc r.2]
 ris x r:=∃u v,x= .tup [u,v]∧is u r.1∧is v r.2
 out h:=by
  obtain⟨u,v,rfl,h1,h2⟩:=h;exact ZQy (by simp only[ZAv,ZA9,Enc.strip h1,Enc.strip h2]) (by simp only[ZB6,ZCR,Enc.pu,Bool.and_self])
instance {A B C:Type} [Enc A] [Enc B] [Enc C]:Res (A×B×C) where
 res r:= .tup [enc r.1,enc r.2.1,enc r.2.2]
 ris x r:=∃u v w,x= .tup [u,v,w]∧is u r.1∧is v r.2.1∧is w r.2.2
 out h:=by
  obtain⟨u,v,w,rfl,h1,h2,h3⟩:=h;exact ZQy (by simp only[ZAv,ZA9,Enc.strip h1,Enc.strip h2,Enc.strip h3]) (by simp only[ZB6,ZCR,Enc.pu,Bool.and_self])

/-! ### Arguments; a contract of a function of values with types -/
class Args (A:Type) where
 args:A→List AV
 inj:∀{a b},args a=args b→a=b
open Args (args)
instance:Args Unit:=⟨fun _=>[],fun _=>rfl⟩
instance {T A:Type} [Enc T] [Args A]:Args (T×A) where
 args a:=enc a.1::args a.2
 inj {a b} h:=by
  injection h with h1 h2
  have e1:=Enc.inj h1;have e2:=Args.inj h2
  cases a;cases b;simp_all
open Classical in
noncomputable def Fn {A R:Type} [Args A] [Res R] (f:A→Option R) (xs:List AV):Option AV:=
 if h:∃a r,xs=args a∧f a=some r then some (res h.choose_spec.choose) else none
theorem ZV6 {A R:Type} [Args A] [Res R] {f:A→Option R} {a:A} {r:R} (h:f a=some r):Fn f (args a)=some (res r):=by
 have h' :∃b r,args a=args b∧f b=some r:=⟨a,r,rfl,h⟩
 unfold Fn;rw[dif_pos h'];obtain⟨e1,e2⟩:=h'.choose_spec.choose_spec;have e3:=Args.inj e1;have e4:=congrArg f e3;rw[h,e2] at e4;injection e4 with e4
 exact congrArg (fun x=>some (res x)) e4.symm
theorem ZJE {A R:Type} [Args A] [Res R] {f:A→Option R} {xs:List AV} {v:AV} (h:Fn f xs=some v):∃a r,xs=args a∧f a=some r∧v=res r:=by
 unfold Fn at h;split at h
 ·rename_i h';injection h with h
  exact⟨_,_,h'.choose_spec.choose_spec.1,h'.choose_spec.choose_spec.2,h.symm⟩
 cases h
end Go.Ai
end
section
open Go.Ai.Enc (enc is)
open Go.Ai.Res (res ris)
open Go.Ai.Args (args)
namespace Go.Ai
/-! ### What is known of a state: objects, and rows that may be appended to -/
inductive En where
 | cells (n:Nat) (cs:List AV)
 | own (x:AV)
 | mp (n:Nat) (es:List (AV×AV))
 | it (n:Nat) (l:List UInt8) (pos:Nat)
 | gl (G:Glob)
 | tc (n:Nat) (t:TypeId) (cs:List AV)
 | two (n1:Nat) (o1:AO) (n2:Nat) (o2:AO)
 | grp (l:List (Nat×AO))
def En.ents:En→List (Nat×AO)
 | .cells n cs=>[(n, .cells cs)]
 | .own (.vec _ _ (.tok t))=>[(t, .tok)]
 | .own _=>[]
 | .mp n es=>[(n, .map es)]
 | .it n l p=>[(n, .siter l p)]
 | .gl _=>[]
 | .tc n t cs=>[(n, .tc t cs)]
 | .two n1 o1 n2 o2=>[(n1,o1),(n2,o2)]
 | .grp l=>l
def En.gok (s:St):En→Prop
 | .gl G=>s.g=G
 | _=>True
theorem En.gok_of {s:St} {e:En} {n:Nat} {o:AO} (h:e.ents=[(n,o)]):e.gok s:=by
 cases e<;> first | trivial | cases h
theorem En.gok_eq {s s' :St} (h:s'.g=s.g) (e:En) (k:e.gok s):e.gok s' :=by
 cases e<;> first | trivial | exact h.trans k
def ZBA (es:List En):List (Nat×AO):=es.flatMap En.ents
def Hp (s:St) (es:List En):Prop:=((ZBA es).map (·.1)).Nodup∧(∀p∈ZBA es,p.1<s.c∧hget s.h p.1=some p.2)∧∀e∈es,En.gok s e
theorem Hp.nil {s:St}:Hp s []:=⟨List.nodup_nil,fun p hp=>(by cases hp),fun e he=>(by cases he)⟩
theorem Hp.glob {s:St} {es:List En} {G:Glob} (h:Hp s es) (k:En.gl G∈es):s.g=G:=h.2.2 _ k
theorem Hp.gl0 {G:Glob}:Hp (sG G) [.gl G]:=⟨List.nodup_nil,fun p hp=>(by cases hp),fun e he=>(by
 simp only[List.mem_singleton] at he;subst he;rfl)⟩
theorem Hp.perm {s:St} {es es' :List En} (h:Hp s es) (k:(ZBA es').Perm (ZBA es)) (hm:∀e∈es',e∈es):Hp s es' :=
 ⟨(k.map _).nodup_iff.2 h.1,fun p hp=>h.2.1 p (k.mem_iff.1 hp),fun e he=>h.2.2 e (hm e he)⟩
theorem ZCJ (a b:List En):ZBA (a++b)=ZBA a++ZBA b:=by simp[ZBA]
theorem ZBD (e:En) (b:List En):ZBA (e::b)=e.ents++ZBA b:=by simp[ZBA]
def En.noGl:En→Bool
 | .gl _=>false
 | _=>true
theorem Hp.unpack {s:St} (a:List En) {es:List En} (hn:es.all En.noGl=true) (h:Hp s (a++[.grp (ZBA es)])):Hp s (a++es):=by
 have e:ZBA (a++[.grp (ZBA es)])=ZBA (a++es):=by simp[ZBA,En.ents]
 refine⟨by rw[←e];exact h.1,by rw[←e];exact h.2.1,fun x hx=> ?_⟩
 rcases List.mem_append.1 hx with hx | hx
 ·exact h.2.2 x (List.mem_append_left _ hx)
 have:=List.all_eq_true.1 hn x hx
 cases x<;> first | trivial | cases this
theorem Hp.front {s:St} (a:List En) {e:En} {b:List En} (h:Hp s (a++e::b)):Hp s (e::(a++b)):=by
 refine h.perm ?_ (fun x hx=>by
  simp only[List.mem_cons,List.mem_append] at hx ⊢;rcases hx with h | h | h<;> simp[h])
 rw[ZBD,ZCJ,ZCJ,ZBD,←List.append_assoc,←List.append_assoc];exact List.perm_append_comm.append_right _
theorem Hp.back {s:St} (a:List En) {e:En} {b:List En} (h:Hp s (e::(a++b))):Hp s (a++e::b):=by
 refine h.perm ?_ (fun x hx=>by
  simp only[List.mem_cons,List.mem_append] at hx ⊢;rcases hx with h | h | h<;> simp[h])
 rw[ZBD,ZCJ,ZCJ,ZBD,←List.append_assoc,←List.append_assoc];exact List.perm_append_comm.append_right _
theorem Hp.tail {s:St} {e:En} {es:List En} (h:Hp s (e::es)):Hp s es:=by
 obtain⟨h1,h2,h3⟩:=h;rw[ZBD] at h1 h2;rw[List.map_append] at h1;exact⟨(List.nodup_append.1 h1).2.1,fun p hp=>h2 p (List.mem_append_right _ hp),fun x hx=>h3 x (lM _ hx)⟩
theorem Hp.drop {s:St} (a:List En) {e:En} {b:List En} (h:Hp s (a++e::b)):Hp s (a++b):=(h.front a).tail
def ZPs:AV→Bool
 | .vec _ _ (.tok _)=>false
 | _=>true
theorem Hp.add {s:St} {x:AV} {es:List En} (h:Hp s es) (hx:ZPs x=true):Hp s (.own x::es):=by
 have:En.ents (.own x)=[]:=by
  cases x<;> try rfl
  rename_i c;cases c<;> first | rfl | cases hx
 unfold Hp;rw[ZBD,this];exact⟨h.1,h.2.1,fun e he=>by
  rcases List.mem_cons.1 he with rfl | he
  ·trivial
  exact h.2.2 e he⟩
theorem Hp.new {s:St} {es:List En} (h:Hp s es) (o:AO) (e:En) (he:e.ents=[(s.c,o)]):Hp (s.new o) (e::es):=by
 obtain⟨h1,h2,h3⟩:=h;refine⟨?_,?_,fun x hx=> ?_⟩
 rotate_left 2
 ·rcases List.mem_cons.1 hx with rfl | hx
  ·exact En.gok_of he
  exact En.gok_eq rfl x (h3 x hx)
 ·rw[ZBD,he,List.map_append];refine List.nodup_append.2 ⟨by simp,h1,?_⟩
  intro a ha b hb;simp at ha;subst ha;obtain⟨p,hp,rfl⟩:=List.mem_map.1 hb;have:=(h2 p hp).1
  omega
 intro p hp;rw[ZBD,he] at hp;simp only[St.new,hget];rcases List.mem_append.1 hp with hp | hp
 ·simp at hp;subst hp;exact⟨Nat.lt_succ_self _,by simp⟩
 obtain⟨k1,k2⟩:=h2 p hp;refine⟨by omega,?_⟩
 rw[if_neg (by omega)];exact k2
theorem Hp.del {s:St} {es:List En} {e:En} {n:Nat} {o:AO} (h:Hp s (e::es)) (he:e.ents=[(n,o)]):Hp (s.del n) es:=by
 obtain⟨h1,h2,h3⟩:=h;rw[ZBD,he] at h1 h2;simp only[List.singleton_append,List.map_cons,List.nodup_cons] at h1;refine⟨h1.2,fun p hp=> ?_,fun x hx=>En.gok_eq rfl x (h3 x (lM _ hx))⟩
 obtain⟨k1,k2⟩:=h2 p (by simp[hp])
 have hne:p.1≠n:=fun e=>h1.1 (List.mem_map.2 ⟨p,hp,e⟩)
 exact⟨k1,by show hget (hdel s.h n) p.1=_;rw[ZB7 hne];exact k2⟩
theorem Hp.put {s:St} {es:List En} {e e' :En} {n:Nat} {o o' :AO} (h:Hp s (e::es)) (he:e.ents=[(n,o)]) (he' :e'.ents=[(n,o')]):Hp (s.put n o') (e' ::es):=by
 obtain⟨h1,h2,h3⟩:=h;rw[ZBD,he] at h1 h2;have hn:=h2 (n,o) (by simp)
 refine⟨?_,?_,fun x hx=> ?_⟩
 rotate_left 2
 ·rcases List.mem_cons.1 hx with rfl | hx
  ·exact En.gok_of he'
  exact En.gok_eq rfl x (h3 x (lM _ hx))
 ·rw[ZBD,he'];simpa using h1
 intro p hp;rw[ZBD,he'] at hp;simp only[List.singleton_append,List.map_cons,List.nodup_cons] at h1;rcases List.mem_append.1 hp with hp | hp
 ·simp at hp;subst hp;exact⟨hn.1,ZEn hn.2⟩
 obtain⟨k1,k2⟩:=h2 p (by simp[hp])
 have hne:p.1≠n:=fun e=>h1.1 (List.mem_map.2 ⟨p,hp,e⟩)
 exact⟨k1,by show hget (hset s.h n o') p.1=_;rw[ZCo hne];exact k2⟩
theorem Hp.get {s:St} {es:List En} {e:En} {n:Nat} {o:AO} (h:Hp s (e::es)) (he:e.ents=[(n,o)]):hget s.h n=some o:=(h.2.1 (n,o) (by rw[ZBD,he];simp)).2
def ZBd:AV→Bool
 | .nils | .emp true | .vec _ _ .tight | .vec _ _ (.tok _)=>true
 | _=>false

section
variable {P:Program} {prims:Prims} {n:Nat} {b:Bool} {K:Fm→St→Prop} {Q:AExit→Fm→St→Prop} {φ:Fm} {s:St} {ops:Array Oper} {l:List Oper} {d:Tmp} {ty t e:TypeId} {pos:String} {af:Array Edge} {gd:Option (Nat×Bool)} {x y z:Operand} {u v w:AV}
theorem ZOq {g d' :Nat} {b:Bool} (hd:(ops[g]?).bind (·.dst)=some d') (hv:ZAb n φ (.tmp d')=some (.bool b)):ZBP ops (frm n φ) g=some b:=by
 simp only[ZAb] at hv;split at hv
 ·rename_i hb;injection hv with hv
  have hlt:d' <n:=Nat.le_of_ble_eq_true hb
  unfold ZBP;rw[hd,Option.bind_some];have:(frm n φ)[d']? =some (.bool b):=by simp[frm,List.getElem?_range,hlt,hv]
  rw[this]
 cases hv
theorem ZAF {op:Op} {od:Option Tmp} {g d' :Nat} {b' w:Bool} (hd:(ops[g]?).bind (·.dst)=some d') (hv:ZAb n φ (.tmp d')=some (.bool b')) (hb:b' =w) (k:TO P prims n b ops (⟨od,op,ty,pos,af,none⟩::l) K φ s):TO P prims n b ops (⟨od,op,ty,pos,af,some (g,w)⟩::l) K φ s:=by
 have hw:Region.wanted ⟨od,op,ty,pos,af,some (g,w)⟩ (ZBP ops (frm n φ))=true:=by
  rw[ZJA,ZOq hd hv,hb];simp
 cases b with
 | true=>
  unfold TO WO at k ⊢;obtain⟨fr',s',hK,N,hN⟩:=k;refine⟨fr',s',hK,N,fun m hm=> ?_⟩
  have:=hN m hm
  simp only[aOps,hw,ZI9,if_true] at this ⊢;exact this
 | false=>
  intro hp base ρ X wd a R A hba hs hr hdf hR;have hw' :Region.wanted ⟨od,op,ty,pos,af,some (g,w)⟩ (yielded ops a.tmps)=true:=by rw[←ZHK (ops:=ops) hr];exact hw
  have h2:=k hp base ρ X wd a R A hba hs hr hdf hR;unfold wl at h2 ⊢;rw[ZI9,if_pos rfl] at h2;rw[hw',if_pos rfl];exact h2
theorem ZQz {o:Oper} (hd:o.dst=some d) (hw:Region.wanted o (ZBP ops (frm n φ))=false) (k:TO P prims n b ops l K (upd φ d .undef) s):TO P prims n b ops (o::l) K φ s:=by
 cases b with
 | true=>exact ZSh hw (by rw[hd];exact ZHR) k
 | false=>
  intro hp base ρ X wd a R A hba hs hr hdf hR;have hw' :Region.wanted o (yielded ops a.tmps)=false:=by rw[←ZHK (ops:=ops) hr];exact hw
  unfold wl;rw[hw',if_neg (by simp)]
  have hr' :RelL wd ρ (UX ρ s.h X) s.c (frm n (upd φ d .undef)) (a.put o.dst undef).tmps.toList:=by
   have:=ZIY hr o.dst (v:= .undef) (v' :=undef) (by simp[Rel,RelL,undef])
   rwa [hd,ZHR,←hd] at this
  exact k hp base ρ X wd _ R A hba hs hr' (by rw[hd];exact hdf) hR
theorem ZAD {op:Op} {g d' :Nat} {b' w:Bool} (hd:(ops[g]?).bind (·.dst)=some d') (hv:ZAb n φ (.tmp d')=some (.bool b')) (hb:¬b' =w) (k:TO P prims n b ops l K (upd φ d .undef) s):TO P prims n b ops (⟨some d,op,ty,pos,af,some (g,w)⟩::l) K φ s:=by
 refine ZQz rfl ?_ k
 rw[ZJA,ZOq hd hv]
 cases b' <;> cases w<;> simp_all
theorem ZAE (hx:ZAb n φ x=some v) (k:TO P prims n b ops l K (upd φ d v) s):TO P prims n b ops (⟨some d, .move x,ty,pos,af,none⟩::l) K φ s:=
 ZA2 rfl rfl (fun _=>by simp only[aOp,ZAM hx,Option.map_some]) k
theorem ZAG (hx:ZAb n φ x=some v) (k:TO P prims n b ops l K (upd φ d v) s):TO P prims n b ops (⟨some d, .assign x,ty,pos,af,none⟩::l) K φ s:=
 ZA2 rfl rfl (fun _=>by simp only[aOp,ZAM hx,Option.map_some]) k
theorem ZAJ {op:BinOp} {t' :TypeId} (hx:ZAb n φ x=some u) (hy:ZAb n φ y=some w) (hv:ZC4 P op t u w (isC x) (isC y)=some v) (k:TO P prims n b ops l K (upd φ d v) s):TO P prims n b ops (⟨some d, .binOp op t x y t',ty,pos,af,none⟩::l) K φ s:=
 ZA2 rfl rfl (fun _=>ZV2 (ZAM hx) (ZAM hy) hv) k
theorem ZBO {op:UnOp} {t' :TypeId} (hx:ZAb n φ x=some u) (hv:ZQP op u=some v) (k:TO P prims n b ops l K (upd φ d v) s):TO P prims n b ops (⟨some d, .unOp op t' x,ty,pos,af,none⟩::l) K φ s:=
 ZA2 rfl rfl (fun _=>by simp only[aOp,ZAM hx,hv,oC,Option.bind_some]) k
theorem ZAa {c:Operand} {b' :Bool} (hc:ZAb n φ c=some (.bool b')) (hb:b' =true) (hx:ZAb n φ x=some v) (k:TO P prims n b ops l K (upd φ d v) s):TO P prims n b ops (⟨some d, .pick c x y,ty,pos,af,none⟩::l) K φ s:=by
 subst hb;exact ZA2 rfl rfl (fun _=>by simp only[aOp,ZAM hc,ZAM hx,oC,Option.bind_some,if_true]) k
theorem ZAZ {c:Operand} {b' :Bool} (hc:ZAb n φ c=some (.bool b')) (hb:¬b' =true) (hy:ZAb n φ y=some v) (k:TO P prims n b ops l K (upd φ d v) s):TO P prims n b ops (⟨some d, .pick c x y,ty,pos,af,none⟩::l) K φ s:=by
 have hb:b' =false:=by simpa using hb
 subst hb;exact ZA2 rfl rfl (fun _=>by simp only[aOp,ZAM hc,ZAM hy,oC,Option.bind_some,Bool.false_eq_true,if_false]) k

/-! ### Rows: lengths, elements, parts -/
variable {T:Type} [Enc T] {xs:List T} {m:List T}
theorem ZAo {ts:Array TypeId} (hu:P.underlying t=some (.slice e)) (ht:ts[0]? =some t) (hx:ZAb n φ x=some u) (h:is u xs) (k:TO P prims n b ops l K (upd φ d (enc (xs.length:Int))) s):TO P prims n b ops (⟨some d, .call ⟨.builtin .len, #[x],ts⟩,ty,pos,af,none⟩::l) K φ s:=by
 refine ZA2 rfl rfl (fun _=>ZQs (ZAM hx) ht ?_) k
 rcases h with⟨rfl | ⟨z,rfl⟩,rfl⟩ | ⟨ys,c,rfl,h⟩
 ·simp[aLen,hu,enc]
 ·simp[aLen,hu,enc]
 simp[aLen,hu,h.len,enc]
theorem ZE6 {ts:Array TypeId} {sT:Str} (hu:P.underlying t=some .string) (ht:ts[0]? =some t) (hx:ZAb n φ x=some (.str sT)) (k:TO P prims n b ops l K (upd φ d (enc ((List.length sT:Nat):Int))) s):TO P prims n b ops (⟨some d, .call ⟨.builtin .len, #[x],ts⟩,ty,pos,af,none⟩::l) K φ s:=
 ZA2 rfl rfl (fun _=>ZQs (ZAM hx) ht (by simp[aLen,hu,enc])) k
def nth {α:Type} (l:List α) (i:Int):Option α:=if 0≤i then l[i.toNat]? else none
theorem ZDL {α:Type} {l:List α} {i:Int} {a:α} (h:nth l i=some a):0≤i∧i<l.length∧l[i.toNat]? =some a:=by
 unfold nth at h;split at h
 ·rename_i h0;have:=(List.getElem?_eq_some_iff.1 h).1
  exact⟨h0,by omega,h⟩
 cases h
def EPtr (p:AV) (a:T):Prop:=∃ys i y,p= .rptr (Enc.k T) ys i 0∧ys[i]? =some y∧is y a
theorem ZAu {kk:IntKind} {i:Int} {a:T} (hu:P.underlying t=some (.slice e)) (hs:ZBF P e=some (Enc.k T)) (hx:ZAb n φ x=some u) (hy:ZAb n φ y=some (.int kk i)) (h:is u xs) (ha:nth xs i=some a)
  (k:∀p,EPtr p a→TO P prims n b ops l K (upd φ d p) s):TO P prims n b ops (⟨some d, .indexAddr t x y,ty,pos,af,none⟩::l) K φ s:=by
 obtain⟨h0,h1,h2⟩:=ZDL ha;rcases h with⟨_,rfl⟩ | ⟨ys,c,rfl,h⟩
 ·simp at h1;omega
 obtain⟨w,hw,hw2⟩:=h.get h2;refine ZA2 rfl rfl (fun _=>ZQt (ZAM hx) (ZAM hy) (v:= .rptr (Enc.k T) ys i.toNat 0) ?_) (k _ ⟨ys,i.toNat,w,rfl,hw,hw2⟩)
 have:=h.len
 simp[ZD5,aInt,hu,hs]
 omega
theorem ZB8 {a:T} (hk:Enc.k T=0) (hg:aggT P t=some false) (hx:ZAb n φ x=some u) (hp:EPtr u a) (k:∀v,is v a→TO P prims n b ops l K (upd φ d v) s):TO P prims n b ops (⟨some d, .load t x,ty,pos,af,none⟩::l) K φ s:=by
 obtain⟨ys,i,y,rfl,h1,h2⟩:=hp;refine ZA2 rfl rfl (fun _=>ZFO (ZAM hx) (v:=y) ?_) (k _ h2)
 have:=(Enc.el h2).1
 have h4:=(Enc.el h2).2.2.1 hk;have hc:y.cells=[y]:=by cases y<;> first | rfl | simp[AV.one] at h4
 simp[ZEy,h1,ZEx,hg,hc]
theorem ZFm {kk:IntKind} {i:Int} {sT:Str} {a:UInt8} (hu:P.underlying t=some .string) (hx:ZAb n φ x=some (.str sT)) (hy:ZAb n φ y=some (.int kk i)) (ha:nth sT i=some a)
  (k:TO P prims n b ops l K (upd φ d (enc a)) s):TO P prims n b ops (⟨some d, .index t x y,ty,pos,af,none⟩::l) K φ s:=by
 obtain⟨h0,h1,h2⟩:=ZDL ha;refine ZA2 rfl rfl (fun _=> ?_) k
 simp only[aOp,ZAM hx,ZAM hy,oC,Option.bind_some,ZOc,aInt,hu,if_pos h0];rw[h2];rfl

def sub {α:Type} (l:List α) (a b:Int):Option (List α):=if 0≤a∧a≤b∧b≤l.length then some ((l.take b.toNat).drop a.toNat) else none
theorem ZKr {α:Type} {l r:List α} {a b:Int} (h:sub l a b=some r):0≤a∧a≤b∧b≤l.length∧r=(l.take b.toNat).drop a.toNat:=by
 unfold sub at h;split at h
 ·rename_i h0;injection h with h;exact⟨h0.1,h0.2.1,h0.2.2,h.symm⟩
 cases h
def ZHU (n:Nat) (φ:Fm):Option Operand→Option (Option AV)
 | none=>some none
 | some x=>(ZAb n φ x).map some
theorem ZCq {x:Option Operand} {v:Option AV} (h:ZHU n φ x=some v):ZEU (frm n φ) x=some v:=by
 cases x with
 | none=>exact h
 | some x=>
  simp only[ZHU,Option.map_eq_some_iff] at h;obtain⟨w,h1,rfl⟩:=h;simp only[ZEU,ZAM h1,Option.map_some]
theorem ZBw {x:Operand} {v:AV} (h:ZAb n φ x=some v):ZHU n φ (some x)=some (some v):=by simp only[ZHU,h,Option.map_some]
theorem ZSm {lo hi mx:Option AV} {a b c:Nat} (hu:P.underlying t=some (.slice e)) (hs:ZBF P e=some (Enc.k T)) (h:is u xs) (hb:bnds xs.length xs.length lo hi mx=some (a,b,c)):∃z,ZEz P t u lo hi mx s=some z∧is z ((xs.take b).drop a):=by
 rcases h with⟨rfl | ⟨z,rfl⟩,rfl⟩ | ⟨ys,cp,rfl,h⟩
 ·refine⟨.nils,?_, .inl ⟨.inl rfl,by simp⟩⟩
  simp only[List.length_nil] at hb;simp only[ZEz,hu,hb,hs,oC,Option.bind_some]
 ·refine⟨.emp (z || mx.isSome),?_, .inl ⟨.inr ⟨_,rfl⟩,by simp⟩⟩
  simp only[List.length_nil] at hb;simp only[ZEz,hu,hb,hs,oC,Option.bind_some]
 refine⟨_,by simp only[ZEz,hu,hs,h.len,hb,oC,Option.bind_some,ne_eq,not_true_eq_false,if_false];rfl, .inr ⟨_,_,rfl,(h.take b).drop a⟩⟩
theorem ZTn {lo hi mx:Option Operand} {lo' hi' mx' :Option AV} {a b2 c:Nat} (hu:P.underlying t=some (.slice e)) (hs:ZBF P e=some (Enc.k T)) (hx:ZAb n φ x=some u) (hlo:ZHU n φ lo=some lo') (hhi:ZHU n φ hi=some hi') (hmx:ZHU n φ mx=some mx')
  (h:is u xs) (hb:bnds xs.length xs.length lo' hi' mx' =some (a,b2,c)) (k:∀z,is z ((xs.take b2).drop a)→TO P prims n b ops l K (upd φ d z) s):TO P prims n b ops (⟨some d, .slice t x lo hi mx,ty,pos,af,none⟩::l) K φ s:=by
 obtain⟨z,hz,hz2⟩:=ZSm (s:=s) hu hs h hb;exact ZA2 rfl rfl (fun _=>ZGX (ZAM hx) (ZCq hlo) (ZCq hhi) (ZCq hmx) hz) (k _ hz2)
variable {r:List T} {k1 k2 k3:IntKind} {a c:Int} {p q:Operand}
theorem ZQ0 (hu:P.underlying t=some (.slice e)) (hs:ZBF P e=some (Enc.k T)) (hx:ZAb n φ x=some u) (hp:ZAb n φ p=some (.int k1 a)) (h:is u xs) (hr:sub xs a xs.length=some r)
  (k:∀z,is z r→TO P prims n b ops l K (upd φ d z) s):TO P prims n b ops (⟨some d, .slice t x (some p) none none,ty,pos,af,none⟩::l) K φ s:=by
 obtain⟨h0,h1,h2,rfl⟩:=ZKr hr;exact ZTn hu hs hx (ZBw hp) rfl rfl h (ZQu h0 h1) (by simpa using k)
/-! ### Parts of texts -/
theorem ZQ1 {lo hi:Option Operand} {lo' hi' :Option AV} {a b2 c:Nat} {sT:Str} (hu:P.underlying t=some .string) (hx:ZAb n φ x=some (.str sT)) (hlo:ZHU n φ lo=some lo') (hhi:ZHU n φ hi=some hi')
  (hb:bnds (List.length sT) (List.length sT) lo' hi' none=some (a,b2,c)) (k:TO P prims n b ops l K (upd φ d (.str ((List.take b2 sT).drop a))) s):TO P prims n b ops (⟨some d, .slice t x lo hi none,ty,pos,af,none⟩::l) K φ s:=
 ZA2 rfl rfl (fun _=>ZGX (c:=none) (ZAM hx) (ZCq hlo) (ZCq hhi) rfl (by simp[ZEz,hu,hb])) k
variable {sT rt:Str}
theorem ZSn {b2:Int} (hu:P.underlying t=some .string) (hx:ZAb n φ x=some (.str sT)) (hp:ZAb n φ p=some (.int k1 a)) (hq:ZAb n φ q=some (.int k2 b2)) (hr:sub (α:=UInt8) sT a b2=some rt)
  (k:TO P prims n b ops l K (upd φ d (enc rt)) s):TO P prims n b ops (⟨some d, .slice t x (some p) (some q) none,ty,pos,af,none⟩::l) K φ s:=by
 obtain⟨h0,h1,h2,rfl⟩:=ZKr hr;exact ZQ1 hu hx (ZBw hp) (ZBw hq) (ZQv h0 h1 h2) k
theorem ZOr (hu:P.underlying t=some .string) (hx:ZAb n φ x=some (.str sT)) (hp:ZAb n φ p=some (.int k1 a)) (hr:sub (α:=UInt8) sT a (List.length sT)=some rt)
  (k:TO P prims n b ops l K (upd φ d (enc rt)) s):TO P prims n b ops (⟨some d, .slice t x (some p) none none,ty,pos,af,none⟩::l) K φ s:=by
 obtain⟨h0,h1,h2,rfl⟩:=ZKr hr;exact ZQ1 hu hx (ZBw hp) rfl (ZQu h0 h1) (by simpa[enc] using k)
end
end Go.Ai
end
section
open Go.Ai.Enc (enc is)
open Go.Ai.Res (res ris)
open Go.Ai.Args (args)
namespace Go.Ai
structure EF (P:Program) (e:TypeId) (k bytes:Nat):Prop where
 sh:ZBF P e=some k
 info:∃i,P.info? e=some i∧i.size=esz k∧i.bytes=bytes
 zero:∃z,ZBM P e=some z∧z.cells.length=esz k∧z.cells.all AV.one=true
def efB (P:Program) (e:TypeId) (k bytes:Nat):Bool:=
 decide (ZBF P e=some k) && (match P.info? e with | some i=>decide (i.size=esz k) && decide (i.bytes=bytes) | none=>false) && (match ZBM P e with | some z=>decide (z.cells.length=esz k) && z.cells.all AV.one | none=>false)
theorem ZML {P:Program} {e:TypeId} {k bytes:Nat} (h:efB P e k bytes=true):EF P e k bytes:=by
 unfold efB at h;simp only[Bool.and_eq_true,decide_eq_true_eq] at h;obtain⟨⟨h1,h2⟩,h3⟩:=h;refine⟨h1,?_,?_⟩
 ·cases hi:P.info? e with
  | none=>rw[hi] at h2;cases h2
  | some i=>rw[hi] at h2;simp only[Bool.and_eq_true,decide_eq_true_eq] at h2;exact⟨i,rfl,h2⟩
 cases hz:ZBM P e with
 | none=>rw[hz] at h3;cases h3
 | some z=>rw[hz] at h3;simp only[Bool.and_eq_true,decide_eq_true_eq] at h3;exact⟨z,rfl,h3⟩

theorem isR.ok {T:Type} [Enc T] {xs:List AV} {l:List T} (h:isR xs l):∀x∈xs,ZA4 (Enc.k T) x:=by
 induction xs generalizing l with
 | nil=>intro x hx;cases hx
 | cons y ys ih=>cases l with
  | nil=>exact h.elim
  | cons a l=>
   intro x hx;rcases List.mem_cons.1 hx with rfl | hx
   ·exact Enc.el h.1
   exact ih h.2 x hx
theorem ZOs (z:Nat):∀(vs done zs:List AV) (i0:Nat),(∀v∈vs,v.cells.length=z)→done.length=i0*z→zs.length=vs.length*z→ZGq (fun i=>some (i*z,z)) (done++zs) ((vs.zipIdx i0).map fun p=>(p.2,p.1))=some (done++vs.flatMap AV.cells)
 | [],done,zs,i0,_,_,h=>by
  have:zs=[]:=List.eq_nil_of_length_eq_zero (by simpa using h)
  subst this;simp[ZGq]
 | v::vs,done,zs,i0,hv,hd,hz=>by
  have h1:=hv v (by simp)
  have hz' :zs.length=z+vs.length*z:=by rw[hz,List.length_cons,Nat.succ_mul,Nat.add_comm]
  simp only[List.zipIdx_cons,List.map_cons,ZGq,oC,Option.bind_some];rw[if_neg (by simp[h1];omega)]
  have e:ZBC (done++zs) (i0*z) v.cells=(done++v.cells)++zs.drop z:=by
   unfold ZBC;rw[←hd,List.take_left,h1];congr 1
   rw[show done.length+z=done.length+z from rfl,List.drop_append,List.drop_of_length_le (by omega)]
   simp
  rw[e,ZOs z vs (done++v.cells) (zs.drop z) (i0+1) (fun w hw=>hv w (by simp[hw])) (by simp[hd,h1,Nat.succ_mul]) (by rw[List.length_drop,hz'];omega)]
  simp
theorem ZHx {k:Nat}:∀(vs:List AV),(∀v∈vs,ZA4 k v)→ZC2 k (vs.flatMap AV.cells) vs.length=vs
 | [],_=>rfl
 | v::vs,h=>by
  obtain⟨h1,h2,h3,h4⟩:=h v (by simp)
  simp only[List.flatMap_cons,List.length_cons,ZC2];have e:(v.cells++vs.flatMap AV.cells).drop (esz k)=vs.flatMap AV.cells:=by rw[←h1,List.drop_left]
  rw[e,ZHx vs (fun w hw=>h w (by simp[hw]))]
  congr 1
  by_cases hk:k=0
  ·rw[if_pos hk];have:=h3 hk
   cases v<;> first | rfl | simp[AV.one] at this
  rw[if_neg hk];have h5:=h4 hk;have h6:esz k=k:=by simp[esz,hk]
  rw[←h6,←h1,List.take_left]
  cases v<;> first | rfl | (simp[AV.one] at h5;done) | skip
  rename_i ts;simp only[AV.cells,List.length_cons,List.length_nil] at h1;have:=h2 (.tup ts) (by simp[AV.cells])
  simp[AV.one] at this
theorem ZCK {z:Nat}:∀(vs:List AV),(∀v∈vs,v.cells.length=z)→(vs.flatMap AV.cells).length=vs.length*z
 | [],_=>by simp
 | v::vs,h=>by simp only[List.flatMap_cons,List.length_append,List.length_cons,h v (by simp),ZCK vs (fun w hw=>h w (by simp[hw])),Nat.succ_mul];omega
theorem ZSo {P:Program} {T:Type} [Enc T] {t e:TypeId} {by_:Nat} {vs:List AV} {l:List T} (hu:P.underlying t=some (.slice e)) (he:EF P e (Enc.k T) by_) (h:isR vs l) (hn:vs.length*esz (Enc.k T)≤16777216):
  ZC8 P t vs.length (vs.zipIdx.map fun p=>(p.2,p.1))=some (.vec (Enc.k T) vs .tight):=by
 obtain⟨i,hi,hi1,_⟩:=he.info;obtain⟨z,hz,hz1,hz2⟩:=he.zero;have hok:=h.ok;have hfill:=ZOs (esz (Enc.k T)) vs [] ((List.replicate vs.length z.cells).flatten) 0 (fun v hv=>(hok v hv).1) (by simp) (by simp[hz1])
 simp only[List.nil_append] at hfill;simp only[ZC8,hu,he.sh,hi,hz,oC,Option.bind_some];rw[if_neg (by simp[hi1];omega),if_neg (by simp[hz1])]
 rw[hfill,Option.bind_some,if_pos,ZHx vs hok];refine⟨?_,ZCK vs (fun v hv=>(hok v hv).1)⟩
 rw[List.all_eq_true];intro y hy;obtain⟨v,hv,hy⟩:=List.mem_flatMap.1 hy;exact(hok v hv).2.1 y hy

section
variable {P:Program} {prims:Prims} {n:Nat} {b:Bool} {K:Fm→St→Prop} {Q:AExit→Fm→St→Prop} {φ:Fm} {s:St} {ops:Array Oper} {l:List Oper} {d:Tmp} {ty t t' e:TypeId} {pos:String} {af:Array Edge} {gd:Option (Nat×Bool)} {x y z:Operand} {u v w:AV}
variable {T:Type} [Enc T] {xs:List T} {m:List T}
theorem ZDv {by_:Nat} {parts:Array (Nat×Operand)} {ps:List (Nat×AV)} {len:Nat} (vs:List AV) (xs:List T) (hu:P.underlying t=some (.slice e)) (he:EF P e (Enc.k T) by_) (hp:(parts.toList.mapM fun(i,x)=>(ZAb n φ x).map (i,·))=some ps) (hps:ps=vs.zipIdx.map fun p=>(p.2,p.1)) (hl:len=vs.length) (hn:vs.length*esz (Enc.k T)≤16777216)
  (h:isR vs xs) (k:∀z,is z xs→ZBd z=true→ZPs z=true→TO P prims n b ops l K (upd φ d z) s):TO P prims n b ops (⟨some d, .buildSlice t len parts,ty,pos,af,none⟩::l) K φ s:=by
 refine ZA2 rfl rfl (fun _=> ?_) (k (.vec (Enc.k T) vs .tight) (.inr ⟨_,_,rfl,h⟩) rfl rfl)
 have hp' :(parts.toList.mapM fun(i,x)=>(ZAp (frm n φ) x).map (i,·))=some ps:=by
  clear hps
  generalize parts.toList=q at hp
  induction q generalizing ps with
  | nil=>exact hp
  | cons a q ih=>
   simp only[List.mapM_cons,oC,oB,Option.map_eq_some_iff,Option.pure_def] at hp ⊢;obtain⟨b,⟨w,hw,rfl⟩,bs,hbs,h⟩:=hp;exact⟨_,⟨w,ZAM hw,rfl⟩,bs,ih hbs,h⟩
 subst hps;subst hl;simp only[aOp,oC] at hp' ⊢;rw[hp',Option.bind_some,ZSo hu he h hn];rfl
theorem ZMM {bv:AV} {m:List T} (h:is bv m):∃ys,ZEE (Enc.k T) bv s=some ys∧isR ys m:=by
 rcases h with⟨rfl | ⟨z,rfl⟩,rfl⟩ | ⟨ys,c,rfl,h⟩
 ·exact⟨[],rfl,trivial⟩
 ·exact⟨[],rfl,trivial⟩
 exact⟨ys,by simp[ZEE,elems],h⟩
def app {α:Type} (z:Nat) (l m:List α):Option (List α):=if ZES (l.length+m.length) z then some (l++m) else none
theorem ZKs {α:Type} {z:Nat} {l m r:List α} (h:app z l m=some r):ZES (l.length+m.length) z=true∧r=l++m:=by
 unfold app at h;split at h
 ·rename_i h0;injection h with h;exact⟨h0,h.symm⟩
 cases h
theorem ZPt {by_:Nat} {a bv:AV} {xs m r:List T} {ys:List AV} {es:List En} {ts:Array TypeId} (hu:P.underlying t=some (.slice e)) (hu' :∃q,P.underlying t' =some q∧∀k,q≠ .int k) (h0:ts[0]? =some t) (h1:ts[1]? =some t') (he:EF P e (Enc.k T) by_)
  (ha:is a xs) (hc:ZBd a=true) (hs:Hp s (.own a::es)) (hsrc:ZEE (Enc.k T) bv s=some ys) (hys:isR ys m) (hr:app by_ xs m=some r):
  ∃y s',ZC7 P ts a bv s=some (y,s')∧is y r∧ZBd y=true∧Hp s' (.own y::es):=by
 obtain⟨hroom,rfl⟩:=ZKs hr;obtain⟨i,hi,hi1,hi2⟩:=he.info;obtain⟨z,hz,hz1,hz2⟩:=he.zero;obtain⟨q,hq,hqn⟩:=hu';have hyl:=hys.len;have hgrow:∀(zs:List AV) (s0:St),isR zs xs→Hp s0 es→∃y s',ZFo (Enc.k T) i.bytes zs ys s0=some (y,s')∧is y (xs++m)∧ZBd y=true∧Hp s' (.own y::es):=by
  intro zs s0 hzs hs0;refine⟨_,_,by unfold ZFo;rw[if_pos (by rw[hzs.len,hyl,hi2];exact hroom)], .inr ⟨_,_,rfl,hzs.append hys⟩,rfl,hs0.new _ _ rfl⟩
 have hpre:∀R,(match a with
   | .nils=>if ys.isEmpty then some (.nils,s) else ZFo (Enc.k T) i.bytes [] ys s
   | .emp z=>if ys.isEmpty then some (.emp z,s) else if z then ZFo (Enc.k T) i.bytes [] ys s else none
   | .vec k' zs c=>
    if k' ≠Enc.k T then none else
    if ys.isEmpty then some (.vec (Enc.k T) zs c,s) else
    match c with
    | .tight=>ZFo (Enc.k T) i.bytes zs ys s
    | .tok t=>match hget s.h t with
     | some .tok=>ZFo (Enc.k T) i.bytes zs ys (s.del t)
     | _=>none
    | .unk=>none
   | _=>none)=some R→ZC7 P ts a bv s=some R:=by
  intro R hR;unfold ZC7;simp only[h0,h1,hu,hq,he.sh,hi,hz,hsrc,oC,Option.bind_some]
  cases q
  case int k=>exact absurd rfl (hqn k)
  all_goals
   simp only
   rw[if_neg (by simp[hz1])]
   rcases ha with⟨rfl | ⟨z,rfl⟩,rfl⟩ | ⟨zs,c,rfl,ha⟩<;> exact hR
 have hemp:ys.isEmpty=true→m=[]∧ys=[]:=fun h=>by
  have:ys=[]:=List.isEmpty_iff.1 h
  subst this;exact⟨List.eq_nil_of_length_eq_zero (by simpa using hyl.symm),rfl⟩
 rcases ha with⟨rfl | ⟨z,rfl⟩,rfl⟩ | ⟨zs,c,rfl,ha⟩
 ·by_cases h:ys.isEmpty=true
  ·obtain⟨rfl,rfl⟩:=hemp h;exact⟨_,_,hpre _ rfl,isL.nil,rfl,hs⟩
  obtain⟨y,s',g1,g2⟩:=hgrow [] s trivial hs.tail;exact⟨y,s',hpre _ (by simp only[if_neg h,g1]),g2⟩
 ·cases z with
  | false=>cases hc
  | true=>
   by_cases h:ys.isEmpty=true
   ·obtain⟨rfl,rfl⟩:=hemp h;exact⟨_,_,hpre _ rfl, .inl ⟨.inr ⟨_,rfl⟩,rfl⟩,rfl,hs⟩
   obtain⟨y,s',g1,g2⟩:=hgrow [] s trivial hs.tail;exact⟨y,s',hpre _ (by simp only[if_neg h,if_true,g1]),g2⟩
 by_cases h:ys.isEmpty=true
 ·obtain⟨rfl,rfl⟩:=hemp h;exact⟨_,_,hpre _ (by simp only[ne_eq,not_true_eq_false,if_false,List.isEmpty_nil,if_true]),by rw[List.append_nil];exact .inr ⟨_,_,rfl,ha⟩,hc,hs⟩
 cases c with
 | unk=>cases hc
 | tight=>
  obtain⟨y,s',g1,g2⟩:=hgrow zs s ha hs.tail;exact⟨y,s',hpre _ (by simp only[ne_eq,not_true_eq_false,if_false,if_neg h,g1]),g2⟩
 | tok tk=>
  obtain⟨y,s',g1,g2⟩:=hgrow zs (s.del tk) ha (hs.del rfl);have hg:hget s.h tk=some .tok:=hs.get rfl
  exact⟨y,s',hpre _ (by simp only[ne_eq,not_true_eq_false,if_false,if_neg h,hg,g1]),g2⟩
theorem ZKt {by_:Nat} {a bv:AV} {xs m r:List T} (es1:List En) {es2:List En} {ts:Array TypeId} (hu:P.underlying t=some (.slice e)) (hu' :P.underlying t' =some (.slice e)) (h0:ts[0]? =some t) (h1:ts[1]? =some t') (he:EF P e (Enc.k T) by_) (hx:ZAb n φ x=some a) (hy:ZAb n φ y=some bv)
  (ha:is a xs) (hc:ZBd a=true) (hs:Hp s (es1++ .own a::es2)) (hb:is bv m) (hr:app by_ xs m=some r)
  (k:∀z s',is z r→ZBd z=true→Hp s' (es1++ .own z::es2)→TO P prims n b ops l K (upd φ d z) s'):TO P prims n b ops (⟨some d, .call ⟨.builtin .append, #[x,y],ts⟩,ty,pos,af,none⟩::l) K φ s:=by
 obtain⟨ys,hsrc,hys⟩:=ZMM (s:=s) hb;obtain⟨z,s',g1,g2,g3,g4⟩:=ZPt (t' :=t') hu ⟨_,hu',fun k h=>by cases h⟩ h0 h1 he ha hc (hs.front es1) hsrc hys hr
 exact ZA2 rfl rfl (fun _=>ZMH (ZAM hx) (ZAM hy) g1) (k z s' g2 g3 (g4.back es1))

/-! ### Calls of what is known -/
inductive Vs:List AV→List AV→Prop
 | nil:Vs [] []
 | cons {T:Type} [Enc T] {x:AV} {a:T} {xs ys:List AV}:is x a→Vs xs ys→Vs (x::xs) (enc a::ys)
theorem Vs.view {xs ys:List AV} (h:Vs xs ys):xs.mapM (view s)=some (ys.map fun y=>(y,false)):=by
 induction h with
 | nil=>rfl
 | cons h _ ih=>simp only[List.mapM_cons,ZU2 h,ih,oC,Option.bind_some,Option.pure_def,List.map_cons]
theorem ZJF {A R:Type} [Args A] [Res R] {f:A→Option R} {a:A} {r:R} {xs:List AV} (h:Vs xs (args a)) (hr:f a=some r):ZBc (fun _=>Fn f) xs s=some (res r,s):=by
 have e:(((args a).map fun v=>((v,false):AV×Bool)).map (·.1))=args a:=by rw[List.map_map];exact List.map_id _
 have e2:((args a).map fun v=>((v,false):AV×Bool)).any (·.2)=false:=by simp
 simp only[ZBc,h.view,oC,Option.bind_some,e,ZV6 hr,e2,Bool.false_and,Bool.false_eq_true,if_false]
def ZF1 (n:Nat) (φ:Fm) (xs:List Operand):Option (List AV):=xs.mapM (ZAb n φ)
theorem ZDW:∀{xs:List Operand} {vs:List AV},ZF1 n φ xs=some vs→ZBq (frm n φ) xs=some vs
 | [],_,h=>h
 | x::xs,vs,h=>by
  simp only[ZF1,ZBq,List.mapM_cons,oC,oB,Option.pure_def] at h ⊢;obtain⟨v,hv,us,hus,h⟩:=h;exact⟨v,ZAM hv,us,ZDW hus,h⟩
theorem ZCr {g:FuncId} {fn:Func} {aS:Array Operand} {ts:Array TypeId} {A R:Type} [Args A] [Res R] {f:A→Option R} {a:A} {r:R} {vs:List AV} (hp:prims g=some fun _=>Fn f) (hf:P.funcs[g]? =some fn) (hn:ZCn fn=true)
  (ha:ZF1 n φ aS.toList=some vs) (hv:Vs vs (args a)) (hr:f a=some r) (k:TO P prims n b ops l K (upd φ d (res r)) s):TO P prims n b ops (⟨some d, .call ⟨.value (.func g),aS,ts⟩,ty,pos,af,none⟩::l) K φ s:=
 ZQx hp hf hn (ZDW ha) (ZJF hv hr) k
theorem ZXJ {g:FuncId} {fn:Func} {aS:Array Operand} {ts:Array TypeId} {F:Glob→List AV→Option AV} {vs us:List AV} {r:AV} (hp:prims g=some F) (hf:P.funcs[g]? =some fn) (hn:ZCn fn=true)
  (ha:ZF1 n φ aS.toList=some vs) (hv:Vs vs us) (hr:F s.g us=some r) (k:TO P prims n b ops l K (upd φ d r) s):TO P prims n b ops (⟨some d, .call ⟨.value (.func g),aS,ts⟩,ty,pos,af,none⟩::l) K φ s:=by
 refine ZQx hp hf hn (ZDW ha) ?_ k
 have e:((us.map fun v=>((v,false):AV×Bool)).map (·.1))=us:=by rw[List.map_map];exact List.map_id _
 have e2:(us.map fun v=>((v,false):AV×Bool)).any (·.2)=false:=by simp
 simp only[ZBc,hv.view,oC,Option.bind_some,e,hr,e2,Bool.false_and,Bool.false_eq_true,if_false]
theorem ZAy {i:Nat} {vs:List AV} (hx:ZAb n φ x=some (.tup vs)) (hv:vs[i]? =some v) (k:TO P prims n b ops l K (upd φ d v) s):TO P prims n b ops (⟨some d, .extract x i,ty,pos,af,none⟩::l) K φ s:=
 ZA2 rfl rfl (fun _=>by simp only[aOp,ZAM hx,oC,Option.bind_some,hv,Option.map_some]) k

/-! ### Numbers -/
theorem ZPu {src dst:TypeId} {d0:TypeDesc} {k1 k2:IntKind} {i:Int} (h1:P.underlying src=some d0) (h2:P.underlying dst=some (.int k2)) (hx:ZAb n φ x=some (.int k1 i)) (k:TO P prims n b ops l K (upd φ d (.int k2 (k2.wrap i))) s):TO P prims n b ops (⟨some d, .convert src dst x,ty,pos,af,none⟩::l) K φ s:=
 ZA2 rfl rfl (fun _=>by simp only[aOp,ZAM hx,oC,Option.bind_some,ZFL,h1,h2]) k
def imax (i j:Int):Int:=if j > i then j else i
theorem ZU3 {k1 k2:IntKind} {i j:Int} {ts:Array TypeId} (hx:ZAb n φ x=some (.int k1 i)) (hy:ZAb n φ y=some (.int k2 j)) (k:TO P prims n b ops l K (upd φ d (.int k1 (imax i j))) s):TO P prims n b ops (⟨some d, .call ⟨.builtin .max, #[x,y],ts⟩,ty,pos,af,none⟩::l) K φ s:=
 ZA2 rfl rfl (fun _=>ZV4 (ZAM hx) (ZAM hy)) k

/-! ### A function's run and its end -/
def Kend (P:Program) (fn:Func) (c0:Nat) (H:AV→St→Prop) (φ:Fm) (s:St):Prop:=∃r,ZBv P fn (frm fn.ntmps φ) s=some r∧∃v s2,ZDT c0 r s=some (v,s2)∧H v s2
def MF (P:Program) (prims:Prims) (f:FuncId) (aS:List AV) (s:St) (H:AV→St→Prop):Prop:=
 ZAX P prims→∀(base:Nat) (ρ:Pl) (X:Reg) (w:World) (vs:List Value),base≤w.heap.size→Sim base ρ X s w→RelL w ρ (UX ρ s.h X) s.c aS vs→
  Calls P f vs.toArray w fun e w' =>∃v',e= .returned v' ∧∃v s',H v s' ∧Post base ρ X s w v s' v' w'
theorem MF.mono {f:FuncId} {aS:List AV} {H H' :AV→St→Prop} (h:MF P prims f aS s H) (k:∀v s,H v s→H' v s):MF P prims f aS s H' :=
 fun hp base ρ X w vs hb hs hr=>(h hp base ρ X w vs hb hs hr).mono fun e w' ⟨v',e1,v,s',h1,h2⟩=>⟨v',e1,v,s',k v s' h1,h2⟩
theorem ZAh {f:FuncId} {fn:Func} {c:Code} {aS:List AV} {H:AV→St→Prop} (lz:List (Nat×AV)) (hf:P.funcs[f]? =some fn) (hb:fn.body=some c)
  (hfr:aS++List.replicate (fn.ntmps - aS.length) .undef=frm fn.ntmps (ups (fun _=> .undef) lz))
  (h:∀ψ,TC P prims fn.ntmps c (Kend P fn s.c H) (fun e φ s1=>e= .ret∧Kend P fn s.c H φ s1) (ups ψ lz) s):MF P prims f aS s H:=by
 intro hp base ρ X w vs hba hs hr;have hfr' :RelL w ρ (UX ρ s.h X) s.c (frm fn.ntmps (ups (fun _=> .undef) lz)) (vs.toArray++Array.replicate (fn.ntmps - vs.toArray.size) undef).toList:=by
  rw[←hfr];have hl:=hr.length;simp only[Array.toList_append,Array.toList_replicate,List.size_toArray];rw[hl];exact hr.append (ZGW _)
 refine calls_of_wp hf hb (h _ hp base ρ X w _ _ hba hs hfr' rfl fun e φ' s' a' w' he hpf=> ?_)
 have key:Kend P fn s.c H φ' s' ∧(e= .normal∨e= .ret):=by
  cases e with
  | normal=>exact⟨he, .inl rfl⟩
  | exit id=>cases he.1
  | ret=>exact⟨he.2, .inr rfl⟩
 obtain⟨⟨r,hres,v,s2,hfz,hH⟩,he'⟩:=key;obtain⟨ρ1,g1,g2,g3,g4,g5,g6,g7⟩:=hpf;obtain⟨v',k1,k2⟩:=ZGv g3 g4 hres;obtain⟨f1,f2,f3,f4⟩:=ZHL g3 k2 hfz;have fin:bodyPost P fn (fun e w' =>∃v',e= .returned v' ∧∃v s',H v s' ∧Post base ρ X s w v s' v' w') .ret a' w' :=
  ⟨g7,v',k1,v',rfl,v,s2,hH,ρ1,g1,by rw[f2];exact g2,f1,f3,g5,fun b j hb' hj=>g6 b j hb' (f4 b j hj)⟩
 rcases he' with rfl | rfl<;> exact fin
theorem ZSp {g:FuncId} (hp:ZAX P prims) {aS:List AV} {R:Type} [Res R] {r:R} (h:MF P prims g aS s0 fun v _=>ris v r) {w:World} {U:Reg} {vs:List Value} (hU:∀b j,U b j→b<w.heap.size) (hr:RelL w ρ0 U 0 aS vs):
  Calls P g vs.toArray w fun e w' =>∃v',e= .returned v' ∧Rel w' ρ0 U 0 (res r) v' ∧RowKit.Below w.heap.size w w' :=by
 have hUX:∀b j,UX ρ0 s0.h U b j→U b j:=by
  rintro b j (⟨n,o,hn,_⟩ | hx)
  ·simp[s0,sG,hget] at hn
  exact hx
 have hr' :RelL w ρ0 (UX ρ0 s0.h U) s0.c aS vs:=RelL.mono ⟨Nat.le_refl _,fun _ _=>rfl,fun a u hu _=>hu,fun a ha=>ha,fun b j _ hj=>hUX b j hj⟩ _ _ hr
 refine(h hp w.heap.size ρ0 U w vs (Nat.le_refl _) (simG hU ZNc) hr').mono fun e w' he=> ?_
 obtain⟨v',rfl,v,s',hv,ρ',g1,g2,g3,g4,g5,g6⟩:=he;refine⟨v',rfl,ZQm (fun b j hj=> .inr hj) (Res.out hv) g4,⟨g5.os,g5.tape,g5.output,g5.size,fun k hk=>g5.blk k hk ?_⟩⟩
 rintro j ⟨m,o,hm,_⟩;simp[s0,sG,hget] at hm
theorem fnC {g:FuncId} (hp:ZAX P prims) (he:∃fn,P.funcs[g]? =some fn∧ZCn fn=true) {A R:Type} [Args A] [Res R] {f:A→Option R}
  (h:∀a r,f a=some r→MF P prims g (args a) s0 fun v _=>ris v r):ZAq P g (fun _=>Fn f):=
 ⟨he,fun G xs v hv w U vs hU hG hr=>by
  obtain⟨a,r,rfl,h1,rfl⟩:=ZJE hv;exact ZSp hp (h a r h1) hU hr⟩
theorem ZJG {c0:Nat} {v:AV} (h:ZB6 (ZAv v)=true):ZDT c0 v s=some (v,s):=by
 have h1:∀x:AV,ZB6 (ZAv x)=true→ZDj c0 s x=some x∧ZA8 c0 x=[]:=by
  intro x hx
  cases x<;> first | exact⟨rfl,rfl⟩ | (simp[ZAv,ZB6] at hx;done)
 have h2:∀xs:List AV,ZCR (ZA9 xs)=true→xs.mapM (ZDj c0 s)=some xs∧xs.flatMap (ZA8 c0)=[]:=by
  intro xs;induction xs with
  | nil=>intro _;exact⟨rfl,rfl⟩
  | cons x xs ih=>
   intro hx;simp only[ZA9,ZCR,Bool.and_eq_true] at hx;obtain⟨g1,g2⟩:=h1 x hx.1;obtain⟨g3,g4⟩:=ih hx.2;exact⟨by simp only[List.mapM_cons,g1,g3,oC,Option.bind_some,Option.pure_def],by simp only[List.flatMap_cons,g2,g4,List.append_nil]⟩
 unfold ZDT;split
 ·rename_i vs;simp only[ZAv,ZB6] at h;obtain⟨g1,g2⟩:=h2 vs h;simp only[g1,g2,oC,Option.bind_some,List.foldl_nil]
 ·rename_i vs;simp only[ZAv,ZB6] at h;obtain⟨g1,g2⟩:=h2 vs h;simp only[g1,g2,oC,Option.bind_some,List.foldl_nil]
 obtain⟨g1,g2⟩:=h1 v h;simp only[g1,g2,oC,Option.bind_some,List.foldl_nil]
theorem ZQ2 {T:Type} [Enc T] {a:T} {c0:Nat} {v:AV} (h:is v a):ZDT c0 v s=some (v,s):=ZJG (by rw[Enc.strip h];exact Enc.pu a)
theorem ZPv {T:Type} [Enc T] {a:T} {v:AV} (h:is v a):ZB6 (ZAv v)=true:=by rw[Enc.strip h];exact Enc.pu a
theorem KE1 {fn:Func} {c0:Nat} {H:AV→St→Prop} {t1:Nat} {a:T} (hr:fn.results= #[.tmp t1]) (hv:ZAb fn.ntmps φ (.tmp t1)=some v) (h:is v a) (k:H v s):Kend P fn c0 H φ s:=by
 have h1:=ZAM hv;simp only[ZAp] at h1;refine⟨v,by simp only[ZBv,hr,ZEF,h1,List.mapM_cons,List.mapM_nil,Option.pure_def,oC,Option.bind_some],v,s,ZQ2 h,k⟩
theorem KEn {fn:Func} {c0:Nat} {H:AV→St→Prop} {r:AV} (hr:ZBv P fn (frm fn.ntmps φ) s=some r) (hp:ZB6 (ZAv r)=true) (k:H r s):Kend P fn c0 H φ s:=⟨r,hr,r,s,ZJG hp,k⟩
theorem KE2 {A B:Type} [Enc A] [Enc B] {fn:Func} {c0:Nat} {H:AV→St→Prop} {t1 t2:Nat} {v1 v2:AV} {a1:A} {a2:B} (hr:fn.results= #[.tmp t1, .tmp t2]) (g1:ZAb fn.ntmps φ (.tmp t1)=some v1) (g2:ZAb fn.ntmps φ (.tmp t2)=some v2) (h1:is v1 a1) (h2:is v2 a2) (k:H (.tup [v1,v2]) s):Kend P fn c0 H φ s:=by
 have e1:=ZAM g1;have e2:=ZAM g2;simp only[ZAp] at e1 e2;exact KEn (by simp only[ZBv,hr,ZEF,e1,e2,List.mapM_cons,List.mapM_nil,Option.pure_def,oC,Option.bind_some]) (by simp only[ZAv,ZA9,ZB6,ZCR,ZPv h1,ZPv h2,Bool.and_self]) k
theorem KE3 {A B C:Type} [Enc A] [Enc B] [Enc C] {fn:Func} {c0:Nat} {H:AV→St→Prop} {t1 t2 t3:Nat} {v1 v2 v3:AV} {a1:A} {a2:B} {a3:C} (hr:fn.results= #[.tmp t1, .tmp t2, .tmp t3]) (g1:ZAb fn.ntmps φ (.tmp t1)=some v1) (g2:ZAb fn.ntmps φ (.tmp t2)=some v2) (g3:ZAb fn.ntmps φ (.tmp t3)=some v3) (h1:is v1 a1) (h2:is v2 a2) (h3:is v3 a3) (k:H (.tup [v1,v2,v3]) s):Kend P fn c0 H φ s:=by
 have e1:=ZAM g1;have e2:=ZAM g2;have e3:=ZAM g3;simp only[ZAp] at e1 e2 e3;exact KEn (by simp only[ZBv,hr,ZEF,e1,e2,e3,List.mapM_cons,List.mapM_nil,Option.pure_def,oC,Option.bind_some]) (by simp only[ZAv,ZA9,ZB6,ZCR,ZPv h1,ZPv h2,ZPv h3,Bool.and_self]) k
end
end Go.Ai
end
section
open Go.Ai.Enc (enc is)
open Go.Ai.Res (res ris)
open Go.Ai.Args (args)
namespace Go.Ai
def eqS (a b:List UInt8):Bool:=a==b
def ltS (a b:List UInt8):Bool:=Op.bytesLess a b
def catS (a b:List UInt8):Option (List UInt8):=if(a.length+b.length:Int) > 9223372036854775807 then none else some (a++b)
theorem ZQ3 {a b r:List UInt8} (h:catS a b=some r):¬((a.length+b.length:Int) > 9223372036854775807)∧r=a++b:=by
 unfold catS at h;split at h
 ·cases h
 rename_i h0;injection h with h;exact⟨h0,h.symm⟩
def ZSq (k:IntKind) (a b:Int):Int:=((BitVec.ofInt k.bits a ||| BitVec.ofInt k.bits b).toNat:Int)
def ZJH (k:IntKind) (a b:Int):Int:=((BitVec.ofInt k.bits a &&& ~~~ BitVec.ofInt k.bits b).toNat:Int)
theorem wrap_u8 (z:Int):IntKind.u8.wrap z=((UInt8.ofInt z).toNat:Int):=by
 have h:IntKind.u8.wrap z=z % 256:=IntKind.wrap_u8 z
 rw[h];simp only[UInt8.ofInt,UInt8.toNat_ofNat'];omega
theorem wrap_u64 (z:Int):IntKind.u64.wrap z=((UInt64.ofInt z).toNat:Int):=by
 have h:IntKind.u64.wrap z=z % 18446744073709551616:=IntKind.wrap_u64 z
 rw[h];simp only[UInt64.ofInt,UInt64.toNat_ofNat'];omega
theorem ZG3 (b:UInt8):IntKind.i64.wrap (b.toNat:Int)=(b.toNat:Int):=IntWalk.i64_in _ (by have:=b.toNat_lt;omega)
theorem ZCd {P:Program} {prims:Prims} {n:Nat} {K:Fm→St→Prop} {Q:AExit→Fm→St→Prop} {φ:Fm} {s:St} {x y:Code} (I:Fm→St→Prop) (ha:TC P prims n x I Q φ s) (hb:∀φ s,I φ s→TC P prims n y K Q φ s):TC P prims n (.seq x y) K Q φ s:=
 ZAB (ha.mono hb fun _ _ _ h=>h)
section
variable {P:Program} {prims:Prims} {n:Nat} {b:Bool} {K:Fm→St→Prop} {Q:AExit→Fm→St→Prop} {φ:Fm} {s:St} {ops:Array Oper} {l:List Oper} {d:Tmp} {ty t t' e:TypeId} {pos:String} {af:Array Edge} {gd:Option (Nat×Bool)} {x y z:Operand} {u v w:AV}
theorem ZKu {call:FuncId→List AV→St→Option (AV×St)} {l2:List Oper} {fr2:List AV} {s2:St}:∀(l1:List Oper) {fr fr1:List AV} {s s1:St},aOps P call ops l1 fr s=some (fr1,s1)→aOps P call ops l2 fr1 s1=some (fr2,s2)→aOps P call ops (l1++l2) fr s=some (fr2,s2)
 | [],fr,fr1,s,s1,h,k=>by simp only[aOps] at h;injection h with h;injection h with e1 e2;subst e1;subst e2;exact k
 | o::l1,fr,fr1,s,s1,h,k=>by
  simp only[List.cons_append,aOps] at h ⊢;by_cases hw:Region.wanted o (ZBP ops fr)=true
  ·rw[if_pos hw] at h ⊢
   cases ho:aOp P call o fr s with
   | none=>rw[ho] at h;cases h
   | some r=>rw[ho] at h;exact ZKu l1 h k
  rw[if_neg hw] at h ⊢;exact ZKu l1 h k
theorem ZV7 {I K:List AV→St→Prop} {l1 l2:List Oper} {fr:List AV} {s:St} (h1:WO P prims ops l1 I fr s) (h2:∀fr s,I fr s→WO P prims ops l2 K fr s):WO P prims ops (l1++l2) K fr s:=by
 unfold WO at h1;obtain⟨fr1,s1,hI,N,hN⟩:=h1;have h3:=h2 fr1 s1 hI;unfold WO at h3 ⊢;obtain⟨fr2,s2,hK,M,hM⟩:=h3;exact⟨fr2,s2,hK,N+M,fun m hm=>ZKu l1 (hN m (by omega)) (hM m (by omega))⟩
theorem ZAS (k:Nat) (I:Fm→St→Prop) (h1:TO P prims n b ops (l.take k) I φ s) (h2:∀φ s,I φ s→TO P prims n b ops (l.drop k) K φ s):TO P prims n b ops l K φ s:=by
 cases b with
 | true=>
  have:=ZV7 (P:=P) (prims:=prims) (ops:=ops) h1 (K:=fun fr' s' =>∃φ',fr' =frm n φ' ∧K φ' s') (l2:=l.drop k) (fun fr s ⟨φ,e,h⟩=>by subst e;exact h2 φ s h)
  rw[List.take_append_drop] at this;exact this
 | false=>
  intro hp base ρ X w a R A hb hs hr hd hR;rw[←List.take_append_drop k l,ZTm];refine h1 hp base ρ X w a R _ hb hs hr hd fun φ' s' a' w' hk hpf=> ?_
  obtain⟨ρ1,g1,g2,g3,g4,g5,g6,g7⟩:=hpf;exact h2 φ' s' hk hp base ρ1 X w' a' R A (Nat.le_trans hb g5.size) g3 g4 g7 fun φ'' s'' a'' w'' hk' hq=>hR φ'' s'' a'' w'' hk' (PostF.cons g1 g2 g5 g6 hq)
theorem ZAP {op:Op} {g d' :Nat} {w:Bool} (hd:(ops[g]?).bind (·.dst)=some d') (hv:ZAb n φ (.tmp d')=some .undef) (k:TO P prims n b ops l K (upd φ d .undef) s):TO P prims n b ops (⟨some d,op,ty,pos,af,some (g,w)⟩::l) K φ s:=by
 refine ZQz rfl ?_ k
 rw[ZJA];simp only[ZAb] at hv;split at hv
 ·rename_i hb;injection hv with hv
  have hlt:d' <n:=Nat.le_of_ble_eq_true hb
  unfold ZBP;rw[hd,Option.bind_some];have:(frm n φ)[d']? =some .undef:=by simp[frm,List.getElem?_range,hlt,hv]
  rw[this];cases w<;> rfl
 cases hv
theorem ZV8 {a b' :Bool} {t' :TypeId} (hu:P.underlying t=some .bool) (hx:ZAb n φ x=some (.bool a)) (hy:ZAb n φ y=some (.bool b')) (k:TO P prims n b ops l K (upd φ d (.bool (a==b'))) s):TO P prims n b ops (⟨some d, .binOp .eql t x y t',ty,pos,af,none⟩::l) K φ s:=
 ZAJ hx hy (by simp[ZC4,hu]) k
theorem ZMN {a b' r:Str} {t' :TypeId} (hx:ZAb n φ x=some (.str a)) (hy:ZAb n φ y=some (.str b')) (hr:catS a b' =some r) (k:TO P prims n b ops l K (upd φ d (enc r)) s):TO P prims n b ops (⟨some d, .binOp .add t x y t',ty,pos,af,none⟩::l) K φ s:=by
 obtain⟨h1,rfl⟩:=ZQ3 hr;exact ZAJ hx hy (by simp only[ZC4];rw[if_neg h1];rfl) k
theorem ZQ4 {op:BinOp} {t' :TypeId} {z:Int} (hx:ZAb n φ x=some u) (hy:ZAb n φ y=some w) (hv:ZC4 P op t u w (isC x) (isC y)=some (.int .u8 (IntKind.u8.wrap z))) (k:TO P prims n b ops l K (upd φ d (enc (UInt8.ofInt z))) s):TO P prims n b ops (⟨some d, .binOp op t x y t',ty,pos,af,none⟩::l) K φ s:=
 ZAJ hx hy (by rw[hv,wrap_u8];rfl) k
theorem ZJI {z:Int} (h0:0≤z) (h1:z<18446744073709551616):((UInt64.ofInt z).toNat:Int)=z:=by rw[←wrap_u64,IntKind.wrap_u64];omega
theorem ZF2 {op:BinOp} {t' :TypeId} {z:Int} (hx:ZAb n φ x=some u) (hy:ZAb n φ y=some w) (hv:ZC4 P op t u w (isC x) (isC y)=some (.int .u64 z)) (hz:0≤z∧z<18446744073709551616) (k:TO P prims n b ops l K (upd φ d (enc (UInt64.ofInt z))) s):TO P prims n b ops (⟨some d, .binOp op t x y t',ty,pos,af,none⟩::l) K φ s:=
 ZAJ hx hy (v:=enc (UInt64.ofInt z)) (by rw[hv];show _=some (AV.int .u64 ((UInt64.ofInt z).toNat:Int));rw[ZJI hz.1 hz.2]) k
theorem ZNg {src dst:TypeId} {d0:TypeDesc} {k1:IntKind} {i:Int} (h1:P.underlying src=some d0) (h2:P.underlying dst=some (.int .u8)) (hx:ZAb n φ x=some (.int k1 i)) (k:TO P prims n b ops l K (upd φ d (enc (UInt8.ofInt i))) s):TO P prims n b ops (⟨some d, .convert src dst x,ty,pos,af,none⟩::l) K φ s:=
 ZPu h1 h2 hx (by rw[wrap_u8];exact k)
theorem ZIb {src dst:TypeId} {d0:TypeDesc} {k1:IntKind} {i:Int} (h1:P.underlying src=some d0) (h2:P.underlying dst=some (.int .u64)) (hx:ZAb n φ x=some (.int k1 i)) (k:TO P prims n b ops l K (upd φ d (enc (UInt64.ofInt i))) s):TO P prims n b ops (⟨some d, .convert src dst x,ty,pos,af,none⟩::l) K φ s:=
 ZPu h1 h2 hx (by rw[wrap_u64];exact k)
end
end Go.Ai
end
section
open Go.Ai.Enc (enc is)
open Go.Ai.Res (res ris)
open Go.Ai.Args (args)
namespace Go.Ai
section
variable {P:Program} {prims:Prims} {n:Nat} {K:Fm→St→Prop} {φ:Fm} {s:St} {ops:Array Oper} {l:List Oper} {d:Tmp} {ty t t' e:TypeId} {pos:String} {af:Array Edge} {x y z:Operand} {u v w:AV}
variable {T:Type} [Enc T]
def ZAg (xs sp:List AV):List AV:=xs.flatMap AV.cells++sp
theorem ZQ5 {k m cap:Nat} {xs sp:List AV} (hx:∀v∈xs,ZA4 k v) (hg:hget s.h m=some (.cells (ZAg xs sp))):elems (.hs k m 0 xs.length cap) s=some (k,xs):=by
 have hl:=ZCK (z:=esz k) xs (fun v hv=>(hx v hv).1)
 have hc:ZC2 k (ZAg xs sp) xs.length=xs:=by
  have h1:∀(ys:List AV) (sp:List AV),(∀v∈ys,ZA4 k v)→ZC2 k (ys.flatMap AV.cells++sp) ys.length=ZC2 k (ys.flatMap AV.cells) ys.length:=by
   intro ys;induction ys with
   | nil=>intro sp _;rfl
   | cons v ys ih=>
    intro sp h;have hv:=(h v (by simp)).1
    simp only[List.flatMap_cons,List.length_cons,ZC2,List.append_assoc];have e1:(v.cells++(ys.flatMap AV.cells++sp)).drop (esz k)=ys.flatMap AV.cells++sp:=by rw[←hv,List.drop_left]
    have e2:(v.cells++ys.flatMap AV.cells).drop (esz k)=ys.flatMap AV.cells:=by rw[←hv,List.drop_left]
    rw[e1,e2,ih sp (fun w hw=>h w (by simp[hw]))]
    congr 1
    by_cases hk:k=0
    ·subst hk;simp only[if_true];have hp:0<v.cells.length:=by rw[hv];exact ZEG 0
     cases hc:v.cells with
     | nil=>rw[hc] at hp;simp at hp
     | cons c cs=>simp
    simp only[if_neg hk];have h6:esz k=k:=by simp[esz,hk]
    congr 1
    rw[h6] at hv;rw[List.take_append_of_le_length (by omega),List.take_append_of_le_length (by omega)]
  unfold ZAg;rw[h1 xs sp hx,ZHx xs hx]
 simp only[elems,hg,List.drop_zero];rw[if_pos (by simp[ZAg,hl]),hc]
def isO (x:AV) (es:En) (xs:List T):Prop:=∃(m cap:Nat) (ys sp:List AV),x= .hs (Enc.k T) m 0 xs.length cap∧es= .cells m (ZAg ys sp)∧isR ys xs∧sp.length=(cap - xs.length)*esz (Enc.k T)∧xs.length≤cap∧∀y∈sp,y.one=true
def isM (x:AV) (es:En) (xs:List T):Prop:=isO x es xs∨(xs=[]∧is x ([]:List T)∧ZBd x=true∧ZPs x=true∧es= .own .nils)
theorem ZSr {x:AV} {en:En} {xs:List T} {es:List En} (h:isO x en xs) (hs:Hp s (en::es)):∃m z,is z xs∧ZA8 0 x=[m]∧ZDj 0 s x=some z∧Hp (s.del m) es:=by
 obtain⟨m,cap,ys,sp,rfl,rfl,h1,h2,h3,_⟩:=h;have hg:hget s.h m=some (.cells (ZAg ys sp)):=hs.get rfl
 have he:=ZQ5 (k:=Enc.k T) (m:=m) (cap:=cap) h1.ok hg;rw[h1.len] at he;refine⟨m, .vec (Enc.k T) ys (if xs.length=cap then .tight else .unk), .inr ⟨_,_,rfl,h1⟩,?_,?_,hs.del rfl⟩
 ·simp[ZA8]
 simp only[ZDj,Nat.not_lt_zero,if_false];rw[if_neg (by omega),he]
 rfl
theorem ZV9 {k1 k2:IntKind} {i j:Int} {by_:Nat} {zv:T} {es:List En} {b:Bool} (hu:P.underlying t=some (.slice e)) (he:EF P e (Enc.k T) by_) (hz:∃a,ZBM P e=some a∧is a zv) (hx:ZAb n φ x=some (.int k1 i)) (hy:ZAb n φ y=some (.int k2 j)) (h0:0≤i∧i≤j) (hr:ZES j.toNat by_=true) (hs:Hp s es)
  (k:∀z en s',isM z en (List.replicate i.toNat zv)→Hp s' (en::es)→TO P prims n b ops l K (upd φ d z) s'):TO P prims n b ops (⟨some d, .makeSlice t x y,ty,pos,af,none⟩::l) K φ s:=by
 obtain⟨a,ha,hiz⟩:=hz;obtain⟨inf,hi,hi1,hi2⟩:=he.info;obtain⟨z0,hz0,hz1,hz2⟩:=he.zero;rw[ha] at hz0;injection hz0 with hz0;subst hz0
 have hrep:∀q,isR (List.replicate q a) (List.replicate q zv):=by
  intro q;induction q with
  | zero=>trivial
  | succ q ih=>exact⟨hiz,ih⟩
 have hsplit:(List.replicate j.toNat a.cells).flatten=ZAg (List.replicate i.toNat a) ((List.replicate (j.toNat - i.toNat) a.cells).flatten):=by
  unfold ZAg;rw[List.flatMap,List.map_replicate,←List.flatten_append,List.replicate_append_replicate];congr 2;omega
 refine ZA2 rfl rfl (v:= .hs (Enc.k T) s.c 0 i.toNat j.toNat) (s' :=s.new (.cells ((List.replicate j.toNat a.cells).flatten))) (fun _=> ?_) (k _ (.cells s.c (ZAg (List.replicate i.toNat a) ((List.replicate (j.toNat - i.toNat) a.cells).flatten))) _ ?_ ?_)
 ·simp only[aOp,ZAM hx,ZAM hy,oC,Option.bind_some,ZGS,hu,hi,he.sh,aInt,ha];rw[if_pos ⟨h0.1,h0.2,by rw[hi2];exact hr,hz1,hz2,hi1⟩]
 ·refine .inl ⟨s.c,j.toNat,List.replicate i.toNat a,_,by simp,rfl,hrep _,?_,?_,?_⟩
  ·simp[List.length_flatten,hz1]
  ·simp;omega
  intro y hy;obtain⟨q,hq1,hq2⟩:=List.mem_flatten.1 hy;obtain⟨_,rfl⟩:=List.mem_replicate.1 hq1;exact List.all_eq_true.1 hz2 y hq2
 rw[hsplit];exact Hp.new hs _ _ rfl
def MPtr (p:AV) (en:En) (i:Nat) (T:Type) [Enc T]:Prop:=∃m cs,en= .cells m cs∧p= .ptr m (i*esz (Enc.k T))
theorem ZQ6 {b:Bool} {kk:IntKind} {i:Int} {en:En} {xs:List T} (hu:P.underlying t=some (.slice e)) (hsh:ZBF P e=some (Enc.k T)) (hx:ZAb n φ x=some u) (hy:ZAb n φ y=some (.int kk i)) (h:isM u en xs) (h0:0≤i) (h1:i<xs.length)
  (k:∀p,MPtr p en i.toNat T→TO P prims n b ops l K (upd φ d p) s):TO P prims n b ops (⟨some d, .indexAddr t x y,ty,pos,af,none⟩::l) K φ s:=by
 obtain⟨m,cap,ys,sp,rfl,rfl,h2,h3,h4,h5⟩ | ⟨rfl,_⟩:=h;rotate_left
 ·simp at h1;omega
 refine ZA2 rfl rfl (fun _=>ZQt (ZAM hx) (ZAM hy) (v:= .ptr m (i.toNat*esz (Enc.k T))) ?_) (k _ ⟨m,_,rfl,rfl⟩)
 simp[ZD5,aInt,hu,hsh,h0,h1]
theorem ZPw {k:Nat} {xs sp:List AV} {i:Nat} {v:AV} (hx:∀v∈xs,ZA4 k v) (hv:v.cells.length=esz k) (hi:i<xs.length):ZBC (ZAg xs sp) (i*esz k) v.cells=ZAg (xs.set i v) sp:=by
 induction xs generalizing i with
 | nil=>simp at hi
 | cons y xs ih=>
  have hy:=(hx y (by simp)).1
  cases i with
  | zero=>
   unfold ZBC ZAg;simp only[Nat.zero_mul,List.take_zero,List.nil_append,Nat.zero_add,List.set_cons_zero,List.flatMap_cons,List.append_assoc,hv];congr 1
   rw[←hy,List.drop_left]
  | succ i=>
   have ih' :=ih (fun v hv=>hx v (by simp[hv])) (i:=i) (by simpa using hi)
   unfold ZBC ZAg at ih' ⊢;simp only[List.set_cons_succ,List.flatMap_cons,List.append_assoc];have e1:(i+1)*esz k=y.cells.length+i*esz k:=by rw[hy,Nat.succ_mul,Nat.add_comm]
   rw[e1,List.take_append,List.take_of_length_le (by omega),List.drop_append,List.drop_of_length_le (by omega)]
   simp only[List.nil_append,List.append_assoc];congr 1
   rw[show y.cells.length+i*esz k - y.cells.length=i*esz k by omega,show y.cells.length+i*esz k+v.cells.length - y.cells.length=i*esz k+v.cells.length by omega]
   rw[←ih'];simp[List.append_assoc]
theorem ZTo {b:Bool} {i:Nat} {en:En} {es:List En} {m0:AV} {xs:List T} {a:T} (hp:ZAb n φ x=some u) (hy:ZAb n φ y=some v) (hm:MPtr u en i T) (h:isM m0 en xs) (hi:i<xs.length) (ha:is v a) (hsz:szT P t=some (esz (Enc.k T))) (hs:Hp s (en::es))
  (k:∀en' s',isM m0 en' (xs.set i a)→Hp s' (en' ::es)→TO P prims n b ops l K φ s'):TO P prims n b ops (⟨none, .store t x y,ty,pos,af,none⟩::l) K φ s:=by
 obtain⟨m,cap,ys,sp,rfl,rfl,h2,h3,h4,h5⟩ | ⟨rfl,_⟩:=h;rotate_left
 ·simp at hi
 obtain⟨m',cs,e1,rfl⟩:=hm;injection e1 with e1 e2;subst e1;subst e2
 have hg:hget s.h m=some (.cells (ZAg ys sp)):=hs.get rfl
 have hel:=Enc.el ha;have hl:=ZCK (z:=esz (Enc.k T)) ys (fun v hv=>(h2.ok v hv).1)
 have hyl:=h2.len;refine ZJD rfl rfl (v:= .undef) (s' :=s.put m (.cells (ZAg (ys.set i v) sp))) (fun _=> ?_) (k (.cells m (ZAg (ys.set i v) sp)) _ (.inl ⟨m,cap,ys.set i v,sp,by simp,rfl,h2.set i ha,by simpa using h3,by simpa using h4,h5⟩) (Hp.put hs rfl rfl))
 simp only[aOp,ZAM hp,ZAM hy,oC,Option.bind_some,ZED,ZBu,hg,hsz,hel.1,if_true];have hle:i*esz (Enc.k T)+esz (Enc.k T)≤(ZAg ys sp).length:=by
  have:(i+1)*esz (Enc.k T)≤ys.length*esz (Enc.k T):=Nat.mul_le_mul_right _ (by omega)
  rw[Nat.succ_mul] at this;simp only[ZAg,List.length_append,hl];omega
 rw[if_pos ⟨hle,List.all_eq_true.2 hel.2.1⟩,ZPw h2.ok hel.1 (by omega)]
 rfl
theorem ZOt {α:Type} (l:List α) (q:Nat) (d:α):l.set q (l.getD q d)=l:=by
 apply List.ext_getElem?
 intro i;rw[List.getElem?_set];split
 ·rename_i h;subst h;split
  ·rename_i h;rw[List.getD_eq_getElem?_getD,List.getElem?_eq_getElem h];rfl
  rename_i h;rw[List.getElem?_eq_none (by omega)]
 rfl
theorem ZJJ {en:En} {es:List En} {xs:List T} {q:Nat} (hq:φ q=u) (h:isM u en xs) (hs:Hp s (en::es)) (k:∀z s',is z xs→Hp s' es→TO P prims n false ops l K (upd φ q z) s'):TO P prims n false ops l K φ s:=by
 rcases h with h | ⟨rfl,h,_,_,rfl⟩
 rotate_left
 ·have:=k u s h hs.tail
  rwa [←hq,ZOm] at this
 obtain⟨m,z,h1,h2,h3,h4⟩:=ZSr h hs;intro hp base ρ X wd ac R A hb hsim hrl hd hA;have hk:=k z _ h1 h4 hp base ρ X wd ac R A hb (hsim.del m);have hU:∀b j,UX ρ (s.del m).h X b j→UX ρ s.h X b j:=fun b j hj=>hj.imp Umap.del id
 have hm:Mono wd ρ (UX ρ s.h X) s.c wd ρ (UX ρ (s.del m).h X) (s.del m).c:=⟨Nat.le_refl _,fun _ _=>rfl,fun a u hu _=>hu,fun a ha=>ha,fun b j _ hj=>hU b j hj⟩
 have hrl' :RelL wd ρ (UX ρ (s.del m).h X) (s.del m).c (frm n (upd φ q z)) ac.tmps.toList:=by
  rw[←ZNe];have hr2:=RelL.mono hm _ _ hrl;by_cases hqn:q<n
  ·have hz:Rel wd ρ (UX ρ (s.del m).h X) (s.del m).c z (ac.tmps.toList.getD q undef):=by
    have:=hrl.getD q
    rw[ZKq hqn,hq] at this;exact ZFN hsim this h3 rfl (fun k o hk=>by
     rw[h2];have:=ZBk hk
     exact⟨by simpa using this.1,this.2⟩)
   have:=hr2.set q hz
   rwa [ZOt] at this
  rw[List.set_eq_of_length_le (by simp[frm];omega)]
  exact hr2
 refine hk hrl' hd fun φ' s' a' w' hK hpf=>hA φ' s' a' w' hK ?_
 obtain⟨ρ',g1,g2,g3,g4,g5,g6,g7⟩:=hpf;exact⟨ρ',g1,g2,g3,g4,g5.weaken (fun b j hj=>hj.del),fun b j hb hj=>(g6 b j hb hj).del,g7⟩
/-! ### append onto what is written into -/
theorem ZHy {base:Nat} {ρ:Pl} {X:Reg} {wd:World} {k:Nat} {xs ys zc:List AV} {e:TypeId} {cs us:List Value} {zv:Value} {newCap:Nat} (hb:base≤wd.heap.size) (h:Sim base ρ X s wd)
  (hcs:RelC wd ρ (UX ρ s.h X) s.c k xs cs) (hus:RelC wd ρ (UX ρ s.h X) s.c k ys us) (hx:∀v∈xs,ZA4 k v) (hy:∀v∈ys,ZA4 k v) (hz:RelL wd ρ (UX ρ s.h X) s.c zc zv.cells.toList) (hz1:∀y∈zc,y.one=true) (hzp:0<zv.cells.size) (hle:xs.length+ys.length≤newCap):
  Post base ρ X s wd (.hs k s.c 0 (xs.length+ys.length) newCap) (s.new (.cells (ZAg (xs++ys) ((List.replicate (newCap - (xs.length+ys.length)) zc).flatten)))) (.slice (some ⟨wd.heap.size,0,none⟩) (xs.length+ys.length) newCap) (wd.drew.alloc (.cells (cs.toArray++us.toArray++Builtin.zeroCells zv.cells (newCap - (xs.length+ys.length))) e)):=by
 refine Post.new (w' :=wd.drew.alloc (.cells (cs.toArray++us.toArray++Builtin.zeroCells zv.cells (newCap - (xs.length+ys.length))) e)) h rfl rfl rfl (by simp) (fun b hb=> ?_) hb (.cells (ZAg (xs++ys) ((List.replicate (newCap - (xs.length+ys.length)) zc).flatten))) wd.heap.size 0 (Nat.le_refl _) _ _ (fun ρ' U' c' m hρ' hU' hc' =>⟨?_,?_⟩)
 ·show(wd.heap.push _)[b]? =_
  rw[Array.getElem?_push,if_neg (by omega)]
 ·refine⟨_,e,(0,0),heap_alloc_new wd.drew _,by simp[thawedE],?_,?_⟩
  ·have e1:(cs.toArray++us.toArray++Builtin.zeroCells zv.cells (newCap - (xs.length+ys.length))).toList=(cs++us)++(List.replicate (newCap - (xs.length+ys.length)) zv.cells.toList).flatten:=by
    rw[←ZHI _ _ hzp];simp;rfl
   rw[e1];unfold ZAg;refine RelL.append ?_ ?_
   ·rw[List.flatMap_append];exact(RelL.mono m _ _ hcs.cells).append (RelL.mono m _ _ hus.cells)
   exact(RelL.mono m _ _ hz).flatten _
  intro y hy';unfold ZAg at hy';rcases List.mem_append.1 hy' with hy' | hy'
  ·obtain⟨v,hv,hy'⟩:=List.mem_flatMap.1 hy';rcases List.mem_append.1 hv with hv | hv
   ·exact(hx v hv).2.1 y hy'
   exact(hy v hv).2.1 y hy'
  obtain⟨q,hq1,hq2⟩:=List.mem_flatten.1 hy';obtain⟨_,rfl⟩:=List.mem_replicate.1 hq1;exact hz1 y hq2
 simp only[Rel];exact⟨by rw[hc'];omega,by rw[hρ']⟩
theorem ZJK {by_:Nat} {a bv:AV} {ea:En} {es:List En} {xs m r:List T} {ts:Array TypeId} (hu:P.underlying t=some (.slice e)) (hu' :P.underlying t' =some (.slice e)) (h0:ts[0]? =some t) (h1:ts[1]? =some t') (he:EF P e (Enc.k T) by_) (hx:ZAb n φ x=some a) (hy:ZAb n φ y=some bv)
  (ha:isO a ea xs∨(xs=[]∧is a ([]:List T)∧ZBd a=true∧ZPs a=true∧ea= .own .nils)) (hb:is bv m) (hr:app by_ xs m=some r) (hs:Hp s (ea::es))
  (k:∀z en s',isM z en r→Hp s' (en::es)→TO P prims n false ops l K (upd φ d z) s'):TO P prims n false ops (⟨some d, .call ⟨.builtin .append, #[x,y],ts⟩,ty,pos,af,none⟩::l) K φ s:=by
 obtain⟨hroom,rfl⟩:=ZKs hr;obtain⟨i,hi,hi1,hi2⟩:=he.info;obtain⟨z,hz,hz1,hz2⟩:=he.zero;obtain⟨ys,hsrc,hys⟩:=ZMM (s:=s) hb;have hyl:=hys.len;refine ZHT rfl rfl (fun _=>rfl) fun hp base ρ X wd ac A B hba hsim hrl hd hA=> ?_
 have hxr := ZAW hrl (ZAM hx); have hyr := ZAW hrl (ZAM hy); -- a run of the machine
 have hexec:∀{v' :Value} {w' :World},(Builtin.append_ ts ty #[ac.eval x,ac.eval y]).run P wd= .ok v' w' →A (ac.put (some d) v') w' →Oper.wp P ⟨some d, .call ⟨.builtin .append, #[x,y],ts⟩,ty,pos,af,none⟩ ac wd A B:=by
  intro v' w' hrun hA';refine ZC5 (v' :=v') (w' :=w') ?_ hA'
  have:execOp ac.eval ⟨some d, .call ⟨.builtin .append, #[x,y],ts⟩,ty,pos,af,none⟩=(do pure (.value (←Builtin.append_ ts ty #[ac.eval x,ac.eval y])):Sem Next):=by
   simp only[execOp,resolve,pure_bind,invoke,List.map_toArray,List.map_cons,List.map_nil];rfl
  rw[this];simp[hrun]
 -- what the interpreter can do
 have hdet:∀{v:AV} {s' :St} {en:En},ZC7 P ts a bv s=some (v,s')→isM v en (xs++m)→Hp s' (en::es)→Oper.wp P ⟨some d, .call ⟨.builtin .append, #[x,y],ts⟩,ty,pos,af,none⟩ ac wd A B:=by
  intro v s' en happ hm hs';refine ZPn (ZDB hp 0) hba hsim hrl (ZMH (ZAM hx) (ZAM hy) happ) fun v' w' hpost=>hA v s' v' w' (k v en s' hm hs') hpost
 -- a new row
 have hgrow:∀(base0:Option Addr) (cap:Nat) (zs:List AV) (cs:List Value),ac.eval x= .slice base0 zs.length cap→isR zs xs→RelC wd ρ (UX ρ s.h X) s.c (Enc.k T) zs cs→(∀w' :World,w'.heap=wd.heap→(Builtin.firstCells (esz (Enc.k T)) zs.length (.slice base0 zs.length cap)).run P w' = .ok cs.toArray w')→cap<zs.length+ys.length→ys≠[]→Hp s es→
   Oper.wp P ⟨some d, .call ⟨.builtin .append, #[x,y],ts⟩,ty,pos,af,none⟩ ac wd A B:=by
  intro base0 cap zs cs hxe hzs hcs hold hgt hne hs0;obtain⟨i',hi',zv,hzv,hz'⟩:∃i',P.info? e=some i' ∧∃zv,i'.zero=some zv∧ZLx zv=some z:=by
   simp only[ZBM,oC,oB] at hz;exact hz
  have hzr:∀w,(zeroValue e).run P w= .ok zv w:=fun w=>by simp[zeroValue,typeInfo,hi',hzv]
  have hzrel:=ZEH (w:=wd) (ρ:=ρ) (U:=UX ρ s.h X) (c:=s.c) hz';have hzs' :zv.cells.size=esz (Enc.k T):=by rw[hzrel.cells_size,hz1]
  obtain⟨us,hus,hlen,hfirst⟩:=ZGV (P:=P) hsim hyr hsrc;have hul:=hus.length;have hfull:us.take (ys.length*esz (Enc.k T))=us:=List.take_of_length_le (by omega)
  have hf:∀w' :World,w'.heap=wd.heap→(Builtin.firstCells (esz (Enc.k T)) ys.length (ac.eval y)).run P w' = .ok us.toArray w' :=fun w' e=>by
   have:=hfirst w' (fun a u hu=>by unfold World.cell? at hu ⊢;rw[e];exact hu) ys.length (Nat.le_refl _)
   rwa [hfull] at this
  obtain⟨newCap,hle,hrun⟩:=ZFl (P:=P) (w:=wd) (ty:=ty) (base0:=base0) (n:=zs.length) (m:=ys.length) (cap:=cap) (zv:=zv) (i:=i) (us:=cs) (ys:=us) h0 h1 hu hu' (fun q h=>by cases h) hi (ZA3 he.sh).1 hzr hzs' hlen hf hold hgt (by rw[hzs.len,hyl,hi2];exact hroom)
  refine hexec (by rw[hxe];exact hrun) ?_
  have hpost:=ZHy (e:=e) hba hsim hcs hus hzs.ok hys.ok hzrel.cells (fun y hy=>List.all_eq_true.1 hz2 y hy) (by rw[hzs'];exact ZEG _) hle
  refine hA _ _ _ _ (k _ (.cells s.c _) _ (.inl ⟨s.c,newCap,zs++ys,_,?_,rfl,hzs.append hys,?_,?_,?_⟩) (Hp.new hs0 _ _ rfl)) hpost
  ·rw[List.length_append,hzs.len,hyl]
  ·rw[List.length_flatten,List.map_replicate,List.sum_replicate_nat,hz1,List.length_append,hzs.len,hyl]
  ·rw[List.length_append,←hzs.len,←hyl];exact hle
  intro y hy;obtain⟨q,hq1,hq2⟩:=List.mem_flatten.1 hy;obtain⟨_,rfl⟩:=List.mem_replicate.1 hq1;exact List.all_eq_true.1 hz2 y hq2
 by_cases hye:ys.isEmpty=true
 ·have hy0:ys=[]:=List.isEmpty_iff.1 hye
  subst hy0;have hm0:m=[]:=List.eq_nil_of_length_eq_zero (by simpa using hyl.symm)
  subst hm0;have hpre:∀R,(match a with
    | .nils=>some (.nils,s)
    | .emp z=>some (.emp z,s)
    | .vec k' zs c=>if k' ≠Enc.k T then none else some (.vec (Enc.k T) zs c,s)
    | .hs k' n off len cap=>if k' ≠Enc.k T then none else if cap<len then none else some (a,s)
    | _=>none)=some R→ZC7 P ts a bv s=some R:=by
   intro R hR;unfold ZC7;simp only[h0,h1,hu,hu',he.sh,hi,hz,hsrc,oC,Option.bind_some,List.isEmpty_nil,if_true];rw[if_neg (by simp[hz1])]
   rw[←hR]
   cases a<;> rfl
  rw[List.append_nil] at*;rcases ha with ho | ⟨rfl,hi0,hc,hn,rfl⟩
  ·obtain⟨q,cap,zs,sp,rfl,rfl,g1,g2,g3,g4⟩:=ho;exact hdet (hpre _ (by simp only[ne_eq,not_true_eq_false,if_false];rw[if_neg (by omega)])) (.inl ⟨q,cap,zs,sp,rfl,rfl,g1,g2,g3,g4⟩) hs
  refine hdet (v:=a) (s' :=s) (hpre _ ?_) (.inr ⟨rfl,hi0,hc,hn,rfl⟩) hs
  rcases hi0 with⟨rfl | ⟨z,rfl⟩,_⟩ | ⟨zs,c,rfl,_⟩
  ·rfl
  ·rfl
  simp
 have hne:ys≠[]:=fun h=>hye (by rw[h];rfl)
 have hpos:0<ys.length:=List.length_pos_iff.2 hne
 rcases ha with ho | ⟨rfl,hi0,hc,hn,rfl⟩
 ·obtain⟨q,cap,zs,sp,rfl,rfl,g1,g2,g3,g4⟩:=ho;have hg:hget s.h q=some (.cells (ZAg zs sp)):=hs.get rfl
  have hel:=ZQ5 (k:=Enc.k T) (m:=q) (cap:=cap) g1.ok hg;rw[g1.len] at hel;have hl:=ZCK (z:=esz (Enc.k T)) zs (fun v hv=>(g1.ok v hv).1)
  have hxr' :=hxr
  simp only[Rel] at hxr;obtain⟨hq1,hxe⟩:=hxr;by_cases hfit:xs.length+ys.length≤cap
  ·have hly:=ZCK (z:=esz (Enc.k T)) ys (fun v hv=>(hys.ok v hv).1)
   have hcap:(cap - xs.length)*esz (Enc.k T)=cap*esz (Enc.k T) - xs.length*esz (Enc.k T):=Nat.sub_mul _ _ _
   have hle2:(xs.length+ys.length)*esz (Enc.k T)≤cap*esz (Enc.k T):=Nat.mul_le_mul_right _ hfit
   rw[Nat.add_mul] at hle2;have hspl:ZBC (ZAg zs sp) (0+xs.length*esz (Enc.k T)) (ys.flatMap AV.cells)=ZAg (zs++ys) (sp.drop (ys.length*esz (Enc.k T))):=by
    unfold ZBC ZAg;rw[Nat.zero_add,←g1.len,←hl,List.take_left,List.flatMap_append,hly];congr 1
    rw[List.drop_append,List.drop_of_length_le (by omega)]
    simp
   refine hdet (v:= .hs (Enc.k T) q 0 (xs.length+ys.length) cap) (s' :=s.put q (.cells (ZAg (zs++ys) (sp.drop (ys.length*esz (Enc.k T)))))) (en:= .cells q (ZAg (zs++ys) (sp.drop (ys.length*esz (Enc.k T))))) ?_ (.inl ⟨q,cap,zs++ys,_,by rw[List.length_append,hyl],rfl,g1.append hys,?_,?_,fun y hy=>g4 y (List.mem_of_mem_drop hy)⟩) (Hp.put hs rfl rfl)
   ·unfold ZC7;simp only[h0,h1,hu,hu',he.sh,hi,hz,hsrc,oC,Option.bind_some,if_neg hye,ne_eq,not_true_eq_false,if_false];rw[if_neg (by simp[hz1]),if_neg (by omega),if_pos hfit]
    unfold ZBu;rw[hg];simp only[];rw[if_pos ⟨by simp only[ZAg,List.length_append,hl,hly,g2,Nat.zero_add];rw[←g1.len] at*;omega,by
     rw[List.all_eq_true];intro y hy;obtain⟨v,hv,hy⟩:=List.mem_flatMap.1 hy;exact(hys.ok v hv).2.1 y hy⟩,hspl]
    rfl
   ·rw[List.length_drop,g2,List.length_append,←hyl,hcap,Nat.sub_mul,Nat.add_mul];omega
   rw[List.length_append,←hyl];exact hfit
  obtain⟨A0,cap',cs,e0,k1,k2⟩:=ZE2 hsim hxr' hel;rw[hxe] at e0;injection e0 with e0 e1 e2
  subst e2;refine hgrow (some A0) cap zs cs (by rw[hxe,e0,g1.len]) g1 k1 (fun w' e=> ?_) (by rw[g1.len];omega) hne hs.tail
  have hr:=run_loadCells_list (P:=P) w' A0 cs (fun j u hj=>by
   have:=k2 j u hj
   unfold World.cell? at this ⊢;rw[e];exact this)
  rw[k1.length] at hr;simpa[Builtin.firstCells] using hr
 rcases hi0 with⟨rfl | ⟨zb,rfl⟩,_⟩ | ⟨zs,c,rfl,hz0⟩
 ·simp only[Rel] at hxr;exact hgrow none 0 [] [] hxr trivial (by simp[RelC]) (fun w' _=>by simp[Builtin.firstCells]) (by simpa using hpos) hne hs.tail
 ·simp only[Rel] at hxr;obtain⟨a0,cap,hxe,_,hcap⟩:=hxr;have hzb:zb=true:=by cases zb<;> simp[ZBd] at hc ⊢
  have hc0:=hcap hzb;subst hc0;exact hgrow a0 0 [] [] hxe trivial (by simp[RelC]) (fun w' _=>by cases a0<;> simp[Builtin.firstCells,loadCells,loadCellsFrom]) (by simpa using hpos) hne hs.tail
 have hzs:zs=[]:=List.eq_nil_of_length_eq_zero (by simpa using hz0.len)
 subst hzs;have hct:c= .tight:=by cases c<;> simp[ZBd,ZPs] at hc hn ⊢
 subst hct;simp only[Rel] at hxr;obtain⟨a0,cap,cs,hxe,_,hcs,_,hcap⟩:=hxr;simp only[CapOk] at hcap;simp only[RelC] at hcs;subst hcs;exact hgrow (some a0) cap [] [] hxe trivial (by simp[RelC]) (fun w' _=>by simp[Builtin.firstCells,loadCells,loadCellsFrom]) (by rw[hcap];simpa using hpos) hne hs.tail
end
end Go.Ai
end
section
open Go.Ai.Enc (enc is)
open Go.Ai.Res (res ris)
open Go.Ai.Args (args)
namespace Go.Ai
def mkz {α:Type} (by_:Nat) (i:Int) (z:α):Option (List α):=if 0≤i∧ZES i.toNat by_=true then some (List.replicate i.toNat z) else none
theorem ZSs {α:Type} {by_:Nat} {i:Int} {z:α} {r:List α} (h:mkz by_ i z=some r):0≤i∧ZES i.toNat by_=true∧r=List.replicate i.toNat z:=by
 unfold mkz at h;split at h
 ·rename_i h0;injection h with h;exact⟨h0.1,h0.2,h.symm⟩
 cases h
theorem ZTp {α:Type} {l:List α} {i:Int} {a:α} (h:nth l i=some a):i.toNat<l.length:=by
 obtain⟨h0,h1,_⟩:=ZDL h;omega
section
variable {P:Program} {prims:Prims} {n:Nat} {b:Bool} {K:Fm→St→Prop} {φ:Fm} {s:St} {ops:Array Oper} {l:List Oper} {d:Tmp} {ty t t' e:TypeId} {pos:String} {af:Array Edge} {x y z:Operand} {u v w:AV}
variable {T:Type} [Enc T]
theorem isM.ap {x:AV} {en:En} {xs:List T} (h:isM x en xs):isO x en xs∨(xs=[]∧is x ([]:List T)∧ZBd x=true∧ZPs x=true∧en= .own .nils):=h
theorem ZSt {k1 k2:IntKind} {i:Int} {by_:Nat} {zv:T} {r:List T} {es:List En} (hu:P.underlying t=some (.slice e)) (he:EF P e (Enc.k T) by_) (hz:∃a,ZBM P e=some a∧is a zv) (hx:ZAb n φ x=some (.int k1 i)) (hy:ZAb n φ y=some (.int k2 i)) (hr:mkz by_ i zv=some r) (hs:Hp s es)
  (k:∀z en s',isM z en r→Hp s' (en::es)→TO P prims n b ops l K (upd φ d z) s'):TO P prims n b ops (⟨some d, .makeSlice t x y,ty,pos,af,none⟩::l) K φ s:=by
 obtain⟨h0,h1,rfl⟩:=ZSs hr;exact ZV9 hu he hz hx hy ⟨h0,Int.le_refl _⟩ h1 hs k
theorem ZQ7 {en:En} {xs:List T} {ts:Array TypeId} (hu:P.underlying t=some (.slice e)) (ht:ts[0]? =some t) (hx:ZAb n φ x=some u) (h:isM u en xs) (k:TO P prims n b ops l K (upd φ d (enc (xs.length:Int))) s):TO P prims n b ops (⟨some d, .call ⟨.builtin .len, #[x],ts⟩,ty,pos,af,none⟩::l) K φ s:=by
 rcases h with⟨m,cap,ys,sp,rfl,_⟩ | ⟨rfl,h,_⟩
 ·exact ZA2 rfl rfl (fun _=>ZQs (ZAM hx) ht (by simp[aLen,hu,enc])) k
 exact ZAo hu ht hx h k
theorem ZWA {en:En} {es:List En} {xs:List T} {i:Int} {a:T} {m0:AV} (hk:Enc.k T=0) (hg:aggT P t=some false) (hx:ZAb n φ x=some u) (hp:MPtr u en i.toNat T) (h:isM m0 en xs) (ha:nth xs i=some a) (hs:Hp s (en::es))
  (k:∀v,is v a→TO P prims n b ops l K (upd φ d v) s):TO P prims n b ops (⟨some d, .load t x,ty,pos,af,none⟩::l) K φ s:=by
 obtain⟨h0,h1,h2⟩:=ZDL ha;rcases h with⟨m,cap,ys,sp,rfl,rfl,g1,g2,g3,g4⟩ | ⟨rfl,_⟩
 ·obtain⟨m',cs,e1,rfl⟩:=hp;injection e1 with e1 e2;subst e1;subst e2
  obtain⟨w,hw,hw2⟩:=g1.get h2;have hgt:hget s.h m=some (.cells (ZAg ys sp)):=hs.get rfl
  refine ZA2 rfl rfl (fun _=>ZFO (ZAM hx) (v:=w) ?_) (k w hw2)
  have e1:esz (Enc.k T)=1:=by rw[hk];rfl
  have hcells:∀(ys:List AV),(∀v∈ys,ZA4 (Enc.k T) v)→ys.flatMap AV.cells=ys:=by
   intro ys;induction ys with
   | nil=>intro _;rfl
   | cons y ys ih=>
    intro hy;have h4:=(hy y (by simp)).2.2.1 hk
    have hc:y.cells=[y]:=by cases y<;> first | rfl | simp[AV.one] at h4
    rw[List.flatMap_cons,hc,ih (fun v hv=>hy v (by simp[hv]))];rfl
  simp only[ZEy,hgt,ZEx,hg,oC,Option.bind_some,Bool.false_eq_true,if_false,e1,Nat.mul_one];rw[ZAg,hcells ys g1.ok,List.getElem?_append_left (List.getElem?_eq_some_iff.1 hw).1];exact hw
 simp at h1;omega
end
end Go.Ai
end
section
open Go.Ai.Enc (enc is)
open Go.Ai.Res (res ris)
open Go.Ai.Args (args)
namespace Go.Ai
end Go.Ai
end
