/- My own texts DevTg9, DevTg10, DevT0Tryz, DevTg11, DevTg12, DevTg13, DevTg14, DevTg15, DevTg16, DevTg17, one behind the other. -/
import Derived.Test.YtjaopinmnpekiaaGreatDoorWAD
import Derived.Test.YtjaopinmnpekiaaGreatDoorWAC
import Derived.Test.YtjaopinmnpekiaaGreatDoorProg
import Derived.KernelRfl
import Derived.Shelf.Strings.Builder1
import Derived.Lib.UnsafeStr
set_option linter.unusedVariables false
set_option linter.unusedSimpArgs false
section
open Go.Ai.Enc (enc is)
open Go.Ai.Res (res ris)
open Go.Ai.Args (args)
namespace Go.Ai
def ZCS (l:Str) (p:Nat):Rune:=⟨(Utf8.decode ⟨List.toArray (show List UInt8 from l)⟩ p).1⟩
def ZBg (l:Str) (p:Nat):Nat:=(Utf8.decode ⟨List.toArray (show List UInt8 from l)⟩ p).2
abbrev str (l:List UInt8):Str:=l
def subT (l:Str) (a b:Int):Option Str:=sub (α:=UInt8) l a b
def catT (a b:Str):Option Str:=catS a b
def encR (r:Rune):Str:=(Utf8.encode r.v).data.toList
section
variable {P:Program} {prims:Prims} {n:Nat} {b:Bool} {K:Fm→St→Prop} {φ:Fm} {s:St} {ops:Array Oper} {l:List Oper} {d:Tmp} {x:Operand} {t ty:TypeId} {pos:String} {af:Array Edge} {es:List En}
theorem ZXK {sT:Str} (hu:P.underlying t=some .string) (hx:ZAb n φ x=some (enc sT)) (hs:Hp s es)
  (k:∀m s',Hp s' (.it m sT 0::es)→TO P prims n b ops l K (upd φ d (.ptr m 0)) s'):TO P prims n b ops (⟨some d, .range t x,ty,pos,af,none⟩::l) K φ s:=by
 refine ZA2 rfl rfl (v:= .ptr s.c 0) (s' :=s.new (.siter sT 0)) (fun _=> ?_) (k s.c _ (hs.new _ _ rfl))
 simp only[aOp,ZAM hx,hu,oC,Option.bind_some];rfl
theorem ZU4 {sT:Str} {m p:Nat} (hx:ZAb n φ x=some (.ptr m 0)) (hs:Hp s (.it m sT p::es)) (h:p<List.length sT)
  (k:∀s',Hp s' (.it m sT (p+ZBg sT p)::es)→TO P prims n b ops l K (upd φ d (.tup [enc true,enc ((p:Nat):Int),enc (ZCS sT p)])) s'):TO P prims n b ops (⟨some d, .next x true,ty,pos,af,none⟩::l) K φ s:=by
 have hg:=(hs.2.1 (m, .siter sT p) (by simp[ZBA,En.ents])).2
 refine ZA2 rfl rfl (fun _=> ?_) (k (s.put m (.siter sT (p+ZBg sT p))) (hs.put rfl rfl))
 simp only[aOp,ZAM hx,oC,Option.bind_some,ZQQ,hg,if_pos h];rfl
theorem ZU5 {sT:Str} {m p:Nat} (hx:ZAb n φ x=some (.ptr m 0)) (hs:Hp s (.it m sT p::es)) (h:¬p<List.length sT)
  (k:TO P prims n b ops l K (upd φ d (.tup [enc false])) s):TO P prims n b ops (⟨some d, .next x true,ty,pos,af,none⟩::l) K φ s:=by
 have hg:=(hs.2.1 (m, .siter sT p) (by simp[ZBA,En.ents])).2
 refine ZA2 rfl rfl (fun _=> ?_) k
 simp only[aOp,ZAM hx,oC,Option.bind_some,ZQQ,hg,if_neg h];rfl
end
end Go.Ai
end
section
open Go.Ai.Enc (enc is)
open Go.Ai.Res (res ris)
open Go.Ai.Args (args)
namespace Go.Ai
section
variable {P:Program} {prims:Prims} {n:Nat} {b:Bool} {K:Fm→St→Prop} {φ:Fm} {s:St} {ops:Array Oper} {l:List Oper} {d:Tmp} {x y:Operand} {t ty e:TypeId} {pos:String} {af:Array Edge} {es:List En}
theorem ZQ8 {g:FuncId} (hp:ZAX P prims) {aS:List AV} {R:Type} [Res R] {r:R} {G:Glob} (h:MF P prims g aS (sG G) fun v _=>ris v r) {w:World} {U:Reg} {vs:List Value} (hU:∀b j,U b j→b<w.heap.size) (hG:GlobOk w ρ0 U 0 G) (hr:RelL w ρ0 U 0 aS vs):
  Calls P g vs.toArray w fun e w' =>∃v',e= .returned v' ∧Rel w' ρ0 U 0 (res r) v' ∧RowKit.Below w.heap.size w w' :=by
 have hUX:∀b j,UX ρ0 (sG G).h U b j→U b j:=by
  rintro b j (⟨n,o,hn,_⟩ | hx)
  ·simp[sG,hget] at hn
  exact hx
 have hr' :RelL w ρ0 (UX ρ0 (sG G).h U) (sG G).c aS vs:=RelL.mono ⟨Nat.le_refl _,fun _ _=>rfl,fun a u hu _=>hu,fun a ha=>ha,fun b j _ hj=>hUX b j hj⟩ _ _ hr
 refine(h hp w.heap.size ρ0 U w vs (Nat.le_refl _) (simG hU hG) hr').mono fun e w' he=> ?_
 obtain⟨v',rfl,v,s',hv,ρ',g1,g2,g3,g4,g5,g6⟩:=he;refine⟨v',rfl,ZQm (fun b j hj=> .inr hj) (Res.out hv) g4,⟨g5.os,g5.tape,g5.output,g5.size,fun k hk=>g5.blk k hk ?_⟩⟩
 rintro j ⟨m,o,hm,_⟩;simp[sG,hget] at hm
open Classical in
noncomputable def FnG {A R:Type} [Args A] [Res R] (G0:Glob) (f:A→Option R):Glob→List AV→Option AV:=fun G xs=>if G=G0 then Fn f xs else none
theorem ZIc {A R:Type} [Args A] [Res R] {G0 G:Glob} {f:A→Option R} {xs:List AV} {v:AV} (h:FnG G0 f G xs=some v):G=G0∧∃a r,xs=args a∧f a=some r∧v=res r:=by
 unfold FnG at h;split at h
 ·exact⟨by assumption,ZJE h⟩
 cases h
theorem ZTq {A R:Type} [Args A] [Res R] {G0:Glob} {f:A→Option R} {a:A} {r:R} (h:f a=some r):FnG G0 f G0 (args a)=some (res r):=by
 unfold FnG;rw[if_pos rfl];exact ZV6 h
theorem fnCG {G0:Glob} {g:FuncId} (hp:ZAX P prims) (he:∃fn,P.funcs[g]? =some fn∧ZCn fn=true) {A R:Type} [Args A] [Res R] {f:A→Option R}
  (h:∀a r,f a=some r→MF P prims g (args a) (sG G0) fun v _=>ris v r):ZAq P g (FnG G0 f):=
 ⟨he,fun G xs v hv w U vs hU hG hr=>by
  obtain⟨rfl,a,r,rfl,h1,rfl⟩:=ZIc hv;exact ZQ8 hp (h a r h1) hU hG hr⟩
theorem ZAY {g:FuncId} {fn:Func} {aS:Array Operand} {ts:Array TypeId} {A R:Type} [Args A] [Res R] {G0:Glob} {f:A→Option R} {a:A} {r:R} {vs:List AV} (hp:prims g=some (FnG G0 f)) (hf:P.funcs[g]? =some fn) (hn:ZCn fn=true)
  (ha:ZF1 n φ aS.toList=some vs) (hv:Vs vs (args a)) (hs:Hp s es) (hg:En.gl G0∈es) (hr:f a=some r) (k:TO P prims n b ops l K (upd φ d (res r)) s):TO P prims n b ops (⟨some d, .call ⟨.value (.func g),aS,ts⟩,ty,pos,af,none⟩::l) K φ s:=by
 refine ZXJ hp hf hn ha hv ?_ k
 rw[hs.glob hg];exact ZTq hr
end
section
theorem ZMO {T:Type} [Enc T] (hk:Enc.k T=0) {w:World} {ρ:Pl} {U:Reg} {c:Nat}:∀{l:List T} {cs:List Value},RelC w ρ U c 0 (l.map enc) cs→cs.length=l.length∧∀(i:Nat) (a:T) (v:Value),l[i]? =some a→cs[i]? =some v→Rel w ρ U c (enc a) v
 | [],cs,h=>by simp only[List.map_nil,RelC] at h;subst h;simp
 | a::l,cs,h=>by
  simp only[List.map_cons,RelC] at h;obtain⟨v,us,rfl,h1,h2,h3⟩:=h;obtain⟨g1,g2⟩:=ZMO hk h3;have hv:v.cells.toList=[v]:=by
   have h5:=h2.one (h1.2.2.1 rfl)
   cases v<;> first | rfl | (simp[Value.oneCell'] at h5;done)
  rw[hv];refine⟨by simp[g1],fun i b u hb hu=> ?_⟩
  cases i with
  | zero=>simp at hb hu;subst hb;subst hu;exact h2
  | succ i=>simp only[List.getElem?_cons_succ,List.singleton_append] at hb hu;exact g2 i b u hb hu
end
end Go.Ai
end
section
namespace Go.Ai.TTryz
open Go.Proofs
theorem sz3:szT Tryz.prog 3=some 1:=by kernel_rfl
theorem ag3:aggT Tryz.prog 3=some false:=by kernel_rfl
theorem sh3:ZBF Tryz.prog 3=some 0:=by kernel_rfl
theorem sz4:szT Tryz.prog 4=some 1:=by kernel_rfl
theorem ag4:aggT Tryz.prog 4=some false:=by kernel_rfl
theorem sz5:szT Tryz.prog 5=some 1:=by kernel_rfl
theorem ag5:aggT Tryz.prog 5=some false:=by kernel_rfl
theorem sh5:ZBF Tryz.prog 5=some 0:=by kernel_rfl
theorem ag9:aggT Tryz.prog 9=some false:=by kernel_rfl
theorem sh9:ZBF Tryz.prog 9=some 0:=by kernel_rfl
theorem ag20:aggT Tryz.prog 20=some false:=by kernel_rfl
theorem sh20:ZBF Tryz.prog 20=some 0:=by kernel_rfl
theorem ag22:aggT Tryz.prog 22=some false:=by kernel_rfl
theorem sz24:szT Tryz.prog 24=some 2:=by kernel_rfl
theorem ag24:aggT Tryz.prog 24=some true:=by kernel_rfl
theorem sz29:szT Tryz.prog 29=some 4:=by kernel_rfl
theorem ag29:aggT Tryz.prog 29=some true:=by kernel_rfl
theorem ag30:aggT Tryz.prog 30=some false:=by kernel_rfl
theorem sh30:ZBF Tryz.prog 30=some 0:=by kernel_rfl
theorem ag41:aggT Tryz.prog 41=some false:=by kernel_rfl
theorem ag42:aggT Tryz.prog 42=some false:=by kernel_rfl
theorem sz43:szT Tryz.prog 43=some 1:=by kernel_rfl
theorem ag43:aggT Tryz.prog 43=some false:=by kernel_rfl
theorem sh43:ZBF Tryz.prog 43=some 0:=by kernel_rfl
theorem ag44:aggT Tryz.prog 44=some false:=by kernel_rfl
theorem ag45:aggT Tryz.prog 45=some false:=by kernel_rfl
theorem sz47:szT Tryz.prog 47=some 9:=by kernel_rfl
theorem ag47:aggT Tryz.prog 47=some true:=by kernel_rfl
theorem sh47:ZBF Tryz.prog 47=some 9:=by kernel_rfl
theorem ZQ9:aggT Tryz.prog 118=some false:=by kernel_rfl
theorem ZSu:szT Tryz.prog 120=some 7:=by kernel_rfl
theorem ZU6:aggT Tryz.prog 120=some true:=by kernel_rfl
theorem ZSv:szT Tryz.prog 147=some 2:=by kernel_rfl
theorem ZWB:aggT Tryz.prog 147=some true:=by kernel_rfl
theorem ZSw:ZBF Tryz.prog 147=some 2:=by kernel_rfl
theorem ZSx:aggT Tryz.prog 148=some false:=by kernel_rfl
theorem ZNh:szT Tryz.prog 150=some 4:=by kernel_rfl
theorem ZSy:aggT Tryz.prog 150=some true:=by kernel_rfl
theorem ZU7:ZBF Tryz.prog 150=some 4:=by kernel_rfl
end Go.Ai.TTryz
end
section
open Go.Ai.Enc (enc is)
namespace Go.Ai
section
variable {P:Program} {base:Nat} {ρ:Pl} {X:Reg} {s s' :St} {w:World}
end
section
variable {P:Program} {prims:Prims} {n:Nat} {K:Fm→St→Prop} {φ:Fm} {s:St} {ops:Array Oper} {l:List Oper} {d:Tmp} {x y:Operand} {t ty:TypeId} {pos:String} {af:Array Edge} {es:List En}
end
end Go.Ai
end
section
namespace Go.Ai
open Go.Proofs
section
variable {P:Program} {prims:Prims} {n:Nat} {K:Fm→St→Prop} {φ:Fm} {s:St} {ops:Array Oper} {l:List Oper} {d:Tmp} {x y:Operand} {t ty:TypeId} {pos:String} {af:Array Edge} {es:List En}
theorem ZAt {g:FuncId} {fn:Func} {xs:Array Operand} {ts:Array TypeId} {vs:List AV} {H:AV→St→Prop} (hq:prims g=none) (hf:P.funcs[g]? =some fn) (hn:ZCn fn=true) (ha:ZF1 n φ xs.toList=some vs) (hm:MF P prims g vs s H)
  (k:∀v s',H v s' →TO P prims n false ops l K (upd φ d v) s'):TO P prims n false ops (⟨some d, .call ⟨.value (.func g),xs,ts⟩,ty,pos,af,none⟩::l) K φ s:=by
 refine ZHT rfl rfl (fun _=>by simp[ZHS,hq]) fun hp base ρ X w a A B hb hsim hrl hdf hA=> ?_
 have har:=ZB2 hrl (ZDW ha);have hcl:=hm hp base ρ X w _ hb hsim har;unfold Oper.wp;have e:a.eval (.func g)= .func (.func g) #[] #[]:=rfl
 have hrun:(execOp a.eval (⟨some d, .call ⟨.value (.func g),xs,ts⟩,ty,pos,af,none⟩:Oper)).run P w= .ok (.enter g (xs.toList.map a.eval).toArray) w:=by
  simp only[execOp,resolve,e,Deferred.ofValue,pure_bind,invoke];rw[ZDU hf hn];congr 2
  apply Array.ext'
  simp
 rw[hrun];refine hcl.mono fun e' w' he=> ?_
 obtain⟨v',rfl,v,s',h1,h2⟩:=he;exact hA v s' v' w' (k v s' h1) h2
end
end Go.Ai
end
section
namespace Go.Ai
section
variable {P:Program} {q:Prims} {ops:Array Oper}
def noQ:Exit→Act→World→Prop:=fun _ _ _=>False
def sT (P:Program) (q:Prims) (ops:Array Oper) (K:Act→World→Prop) (o:Oper) (a:Act) (w:World):Prop:=
 if Region.wanted o (yielded ops a.tmps) then(ZFz P o.op=true→Steady P (execOp a.eval o))∧o.wp P a w (fun a' w' =>(ZHS q o.op=true→Sub w w')∧K a' w') noQ else K (a.put o.dst undef) w
theorem ZWC {A:Act→World→Prop} {o:Oper} {l:List Oper} {a:Act} {w:World}:wl P q ops noQ A (o::l) a w=sT P q ops (wl P q ops noQ A l) o a w:=rfl
def Yl (P:Program) (ops:Array Oper) (S:World→Prop) (o:Oper) (v:Value) (a:Act):Prop:=
 (Region.wanted o (yielded ops a.tmps)=true∧∀w',S w' →(execOp a.eval o).run P w' = .ok (.value v) w')∨(Region.wanted o (yielded ops a.tmps)=false∧v=undef)
theorem Yl.put {S:World→Prop} {x y:Oper} {v u:Value} {a:Act} (hap:∀d,y.dst=some d→d ∉ x.looksAt ops) (hs:∀cs b,x.op≠ .select cs b) (h:Yl P ops S x v a):Yl P ops S x v (a.put y.dst u):=by
 unfold Yl at*;rw[execOp_put x hs a y.dst u hap,wanted_put x a y.dst u hap];exact h
theorem Yl.unput {S:World→Prop} {x y:Oper} {v u:Value} {a:Act} (hap:∀d,y.dst=some d→d ∉ x.looksAt ops) (hs:∀cs b,x.op≠ .select cs b) (h:Yl P ops S x v (a.put y.dst u)):Yl P ops S x v a:=by
 unfold Yl at*;rw[execOp_put x hs a y.dst u hap,wanted_put x a y.dst u hap] at h;exact h
theorem ZRA {op:Op} (h:ZFz P op=true):ZHS q op=false:=by
 unfold ZHS;split
 ·simp[ZFz] at h
 rfl
theorem ZWD {op:Op} (h:rdOp op=true):ZHS q op=false:=by
 unfold ZHS;split
 ·simp[rdOp] at h
 rfl
theorem ZRB {ρ:Operand→Value} {o:Oper} (h:rdOp o.op=true) {w:World} {r:Next} {w1:World} (hr:(execOp ρ o).run P w= .ok r w1):∃v,r= .value v:=by
 obtain⟨dst,op,type,pos,after,guard⟩:=o;have key:∀m:Sem Value,(ZEW m).run P w= .ok r w1→∃v,r= .value v:=fun m hm=>by
  unfold ZEW at hm;rw[Sem.run_bind] at hm
  cases hx:m.run P w with
  | ok v w2=>rw[hx] at hm;simp at hm;exact⟨v,hm.1.symm⟩
  | halt x w2=>rw[hx] at hm;cases hm
 unfold rdOp at h;split at h
 ·simp only at*
  rename_i t x hop;subst hop;exact key (Instr.loadAt t (ρ x)) hr
 ·simp only at*
  rename_i xs ts hop;subst hop;refine key (Builtin.len_ ts type (xs.map ρ)) ?_
  exact hr
 cases h
theorem ZRC {K:Act→World→Prop} {o:Oper} {a:Act} {w:World} (hv:ZFz P o.op=true) (h:sT P q ops K o a w):∃v,Yl P ops (fun _=>True) o v a∧K (a.put o.dst v) w:=by
 unfold sT at h;split at h
 ·rename_i hw;obtain⟨h1,h2⟩:=h;obtain⟨v,hr⟩:=h1 hv;unfold Oper.wp at h2;rw[hr w] at h2;exact⟨v, .inl ⟨hw,fun w' _=>hr w'⟩,h2.2⟩
 rename_i hw;exact⟨undef, .inr ⟨by simpa using hw,rfl⟩,h⟩
theorem ZXL {K:Act→World→Prop} {o:Oper} {a:Act} {w:World} (hv:rdOp o.op=true) (h:sT P q ops K o a w):∃v,Yl P ops (Sub w) o v a∧K (a.put o.dst v) w:=by
 unfold sT at h;split at h
 ·rename_i hw;obtain⟨h1,h2⟩:=h;unfold Oper.wp at h2
  cases hr:(execOp a.eval o).run P w with
  | halt x w1=>exfalso;rw[hr] at h2;cases x<;> exact h2
  | ok r w1=>
   obtain⟨v,rfl⟩:=ZRB hv hr;obtain⟨rfl,h3⟩:=ZV5 (P:=P) hv _ _ _ hr;rw[hr] at h2;exact⟨v, .inl ⟨hw,fun w' hw' =>h3 w' fun _=>hw'⟩,h2.2⟩
 rename_i hw;exact⟨undef, .inr ⟨by simpa using hw,rfl⟩,h⟩
theorem ZU8 {S:World→Prop} {K:Act→World→Prop} {o:Oper} {v:Value} {a:Act} {w:World} (hst:ZFz P o.op=true→Yl P ops (fun _=>True) o v a) (hq:ZHS q o.op=false) (hS:S w) (h:Yl P ops S o v a) (k:K (a.put o.dst v) w):sT P q ops K o a w:=by
 unfold sT;rcases h with⟨hw,h⟩ | ⟨hw,rfl⟩
 ·rw[if_pos hw];refine⟨fun hv=> ?_,?_⟩
  ·rcases hst hv with⟨_,h2⟩ | ⟨h2,_⟩
   ·exact⟨v,fun w=>h2 w trivial⟩
   rw[hw] at h2;cases h2
  unfold Oper.wp;rw[h w hS];exact⟨fun e=>(by rw[hq] at e;cases e),k⟩
 rw[if_neg (by simp[hw])]
 exact k

def gOp:Op→Bool
 | .buildSlice _ _ _=>true
 | _=>false
def Gr {α:Type} (P:Program) (m:Sem α):Prop:=∀w v w1,m.run P w= .ok v w1→Sub w w1
theorem Gr.of_lk {α:Type} {m:Sem α} {r:Bool} (h:Lk P r m):Gr P m:=fun w v w1 hr=>by rw[(h w v w1 hr).1];exact Sub.refl w
theorem Gr.bind {α β:Type} {m:Sem α} {f:α→Sem β} (h:Gr P m) (k:∀a,Gr P (f a)):Gr P (m >>=f):=fun w v w1 hr=>by
 rw[Sem.run_bind] at hr
 cases hm:m.run P w with
 | ok a w2=>rw[hm] at hr;exact fun i o hi=>k a w2 v w1 hr i o (h w a w2 hm i o hi)
 | halt x w2=>rw[hm] at hr;cases hr
theorem Gr.newRow (e:TypeId) (cs:Array Value):Gr P (Go.newRow e cs):=fun w v w1 hr=>by
 simp only[Go.newRow,Go.newObj,Sem.run_bind,Sem.run,Sem.run_pure,Result.andThen] at hr;injection hr with _ hr
 subst hr;intro k o hk;show(w.heap.push _)[k]? =_
 have hl:=(Array.getElem?_eq_some_iff.1 hk).1;rw[Array.getElem?_push_lt hl,←Array.getElem?_eq_getElem hl];exact hk
theorem Gr.buildSlice (t:TypeId) (n:Nat) (ps:Array (Nat×Value)):Gr P (Instr.buildSlice t n ps):=by
 have hz:∀e,Gr P (zeroValue e):=fun e=>by
  unfold zeroValue;refine Gr.bind (Gr.of_lk (r:=false) (Lk.typeInfo e)) fun i=> ?_
  split
  ·exact Gr.of_lk (r:=false) (Lk.pure _)
  exact Gr.of_lk (r:=false) (Lk.halt _)
 unfold Instr.buildSlice;refine Gr.bind (Gr.of_lk (r:=false) (Lk.underlying t)) fun dd=> ?_
 split
 ·rename_i elem;refine Gr.bind (Gr.of_lk (r:=false) (Lk.sizeOf _)) fun z=> ?_
  have rest:∀zero:Array Value,Gr P (match Instr.fill (fun i=>some (i*z,z)) ((Array.range (n*z)).map (zero[· % zero.size]!)) ps.toList with
    | some cells=>do pure (Value.slice (some (←Go.newRow elem cells)) n n)
    | _=>(stuck "buildSlice: a part of the wrong size" :Sem Value)):=fun zero=>by
   split
   ·exact Gr.bind (Gr.newRow _ _) fun a=>Gr.of_lk (r:=false) (Lk.pure _)
   exact Gr.of_lk (r:=false) (Lk.halt _)
  dsimp only
  repeat' first
   | exact rest _
   | exact Gr.of_lk (r:=false) (Lk.pure _)
   | exact Gr.of_lk (r:=false) (Lk.halt _)
   | exact hz _
   | refine Gr.bind ?_ fun _=> ?_
   | split
 exact Gr.of_lk (r:=false) (Lk.halt _)
theorem ZXM {ρ:Operand→Value} {o:Oper} (h:gOp o.op=true) {w:World} {r:Next} {w1:World} (hr:(execOp ρ o).run P w= .ok r w1):(∃v,r= .value v)∧Sub w w1:=by
 obtain⟨dst,op,type,pos,after,guard⟩:=o;unfold gOp at h;split at h
 ·rename_i t n parts hop;simp only at hop
  subst hop;have hr:(ZEW (Instr.buildSlice t n (parts.map fun p=>(p.1,ρ p.2)))).run P w= .ok r w1:=hr
  unfold ZEW at hr;rw[Sem.run_bind] at hr
  cases hx:(Instr.buildSlice t n (parts.map fun p=>(p.1,ρ p.2))).run P w with
  | ok v w2=>
   rw[hx] at hr;simp at hr
   obtain⟨h1,h2⟩:=hr;subst h2;exact⟨⟨v,h1.symm⟩,Gr.buildSlice _ _ _ w v w2 hx⟩
  | halt x w2=>rw[hx] at hr;cases hr
 cases h
def comm (P:Program) (q:Prims) (ops:Array Oper) (x y:Oper):Bool:=
 x.apart ops y && (match x.op with | .select _ _=>false | _=>true) && (match y.op with | .select _ _=>false | _=>true) && (ZFz P x.op || ZFz P y.op || (rdOp x.op && (rdOp y.op || ZHS q y.op || gOp y.op)))

theorem ZRD {K K' :Act→World→Prop} {x y:Oper} {v:Value} {a:Act} {w:World} (h1:∀d,x.dst=some d→d ∉ y.looksAt ops) (h2:∀d,x.dst=some d→y.dst≠some d) (hsy:∀cs b,y.op≠ .select cs b)
  (hK:∀(a' :Act) (u:Value) w',(a' =a∨∃d,a' ={a with defers:=d::a.defers})→(ZHS q y.op=true→Sub w w')→(rdOp y.op=true→w' =w)→(gOp y.op=true→Sub w w')→K ((a'.put x.dst v).put y.dst u) w' →K' (a'.put y.dst u) w')
  (h:sT P q ops K y (a.put x.dst v) w):sT P q ops K' y a w:=by
 unfold sT at*;rw[wanted_put y a x.dst v h1] at h;split
 ·rename_i hw;rw[if_pos hw] at h;rw[execOp_put y hsy a x.dst v h1] at h;refine⟨h.1,?_⟩
  replace h:=h.2
  unfold Oper.wp at*;rw[execOp_put y hsy a x.dst v h1] at h;have hrd:∀r w1,(execOp a.eval y).run P w= .ok r w1→rdOp y.op=true→w1=w∧∃v,r= .value v:=fun r w1 hr hy=>⟨(ZV5 (P:=P) hy _ _ _ hr).1,ZRB hy hr⟩
  have hgs:∀r w1,(execOp a.eval y).run P w= .ok r w1→gOp y.op=true→(∃v,r= .value v)∧Sub w w1:=fun r w1 hr hy=>ZXM hy hr
  generalize (execOp a.eval y).run P w=r at*
  cases r with
  | ok n w' =>
   replace hrd:=hrd n w' rfl
   replace hgs:=hgs n w' rfl
   cases n<;> simp only[Oper.upon] at h ⊢
   case value u=>exact⟨h.1,hK a u w' (.inl rfl) h.1 (fun e=>(hrd e).1) (fun e=>(hgs e).2) h.2⟩
   case skip=>exact⟨h.1,hK a undef w' (.inl rfl) h.1 (fun e=>(hrd e).1) (fun e=>(hgs e).2) h.2⟩
   case defer d=>
    refine⟨h.1,hK {a with defers:=d::a.defers} undef w' (.inr ⟨d,rfl⟩) h.1 (fun e=>(hrd e).1) (fun e=>(hgs e).2) ?_⟩
    rw[←Act.put_defers a x.dst v d];exact h.2
   case enter f args=>
    refine Calls.mono h fun e w'' he=> ?_
    cases e with
    | returned u=>exact⟨he.1,hK a u w'' (.inl rfl) he.1 (fun e=>by obtain⟨_,v,hv⟩:=hrd e;cases hv) (fun e=>by obtain⟨⟨v,hv⟩,_⟩:=hgs e;cases hv) he.2⟩
    | panicked c=>exact he
    | outgrown=>exact he
   case row row args=>exact Rows.mono h fun u w'' he=>⟨he.1,hK a u w'' (.inl rfl) he.1 (fun e=>by obtain⟨_,v,hv⟩:=hrd e;cases hv) (fun e=>by obtain⟨⟨v,hv⟩,_⟩:=hgs e;cases hv) he.2⟩
  | halt x w' =>
   cases x<;> exact h
 rename_i hw;rw[if_neg hw] at h;by_cases hq:ZHS q y.op=true
 ·exact hK a undef w (.inl rfl) (fun _=>Sub.refl w) (fun _=>rfl) (fun _=>Sub.refl w) h
 exact hK a undef w (.inl rfl) (fun _=>Sub.refl w) (fun _=>rfl) (fun _=>Sub.refl w) h
theorem ZSz {K K' :Act→World→Prop} {x y:Oper} {v:Value} {a:Act} {w:World} (h1:∀d,x.dst=some d→d ∉ y.looksAt ops) (h2:∀d,x.dst=some d→y.dst≠some d) (hsy:∀cs b,y.op≠ .select cs b)
  (hK:∀(a' :Act) (u:Value) w',(a' =a∨∃d,a' ={a with defers:=d::a.defers})→K (a'.put y.dst u) w' →K' ((a'.put x.dst v).put y.dst u) w')
  (h:sT P q ops K y a w):sT P q ops K' y (a.put x.dst v) w:=by
 unfold sT at*;rw[wanted_put y a x.dst v h1];split
 ·rename_i hw;rw[if_pos hw] at h;rw[execOp_put y hsy a x.dst v h1];refine⟨h.1,?_⟩
  replace h:=h.2
  unfold Oper.wp at*;rw[execOp_put y hsy a x.dst v h1];generalize (execOp a.eval y).run P w=r at*
  cases r with
  | ok n w' =>
   cases n<;> simp only[Oper.upon] at h ⊢
   case value u=>exact⟨h.1,hK a u w' (.inl rfl) h.2⟩
   case skip=>exact⟨h.1,hK a undef w' (.inl rfl) h.2⟩
   case defer d=>exact⟨h.1,by rw[Act.put_defers];exact hK {a with defers:=d::a.defers} undef w' (.inr ⟨d,rfl⟩) h.2⟩
   case enter f args=>
    refine Calls.mono h fun e w'' he=> ?_
    cases e with
    | returned u=>exact⟨he.1,hK a u w'' (.inl rfl) he.2⟩
    | panicked c=>exact he
    | outgrown=>exact he
   case row row args=>exact Rows.mono h fun u w'' he=>⟨he.1,hK a u w'' (.inl rfl) he.2⟩
  | halt x w' =>cases x<;> exact h
 rename_i hw;rw[if_neg hw] at h;exact hK a undef w (.inl rfl) h
theorem ZU9 {K:Act→World→Prop} {x:Oper} {a:Act} {w:World} (h:sT P q ops K x a w):∃(a' :Act) (u:Value) (w' :World),(a' =a∨∃d,a' ={a with defers:=d::a.defers})∧K (a'.put x.dst u) w' :=by
 unfold sT at h;split at h
 ·have h:=h.2;unfold Oper.wp at h;generalize (execOp a.eval x).run P w=r at*
  cases r with
  | ok n w' =>
   cases n<;> simp only[Oper.upon] at h
   case value u=>exact⟨a,u,w', .inl rfl,h.2⟩
   case skip=>exact⟨a,undef,w', .inl rfl,h.2⟩
   case defer d=>exact⟨_,undef,w', .inr ⟨d,rfl⟩,h.2⟩
   case enter f args=>
    obtain⟨e,w'',fr,he,_⟩:=h []
    cases e with
    | returned u=>exact⟨a,u,w'', .inl rfl,he.2⟩
    | panicked c=>exact he.elim
    | outgrown=>obtain⟨_,_,he⟩:=he;exact he.elim
   case row row args=>
    obtain⟨u,w'',he,_⟩:=h (Frame.ofRow P row args .normal) [];exact⟨a,u,w'', .inl rfl,he.2⟩
  | halt x w' =>cases x<;> exact h.elim
 exact⟨a,undef,w, .inl rfl,h⟩
theorem ZVA {K K' :Act→World→Prop} {x:Oper} {a:Act} {w:World} (hK:∀(a' :Act) (u:Value) w',(a' =a∨∃d,a' ={a with defers:=d::a.defers})→K (a'.put x.dst u) w' →K' (a'.put x.dst u) w') (h:sT P q ops K x a w):sT P q ops K' x a w:=by
 unfold sT at*;split
 ·rename_i hw;rw[if_pos hw] at h;refine⟨h.1,?_⟩
  replace h:=h.2
  unfold Oper.wp at*;generalize (execOp a.eval x).run P w=r at*
  cases r with
  | ok n w' =>
   cases n<;> simp only[Oper.upon] at h ⊢
   case value u=>exact⟨h.1,hK a u w' (.inl rfl) h.2⟩
   case skip=>exact⟨h.1,hK a undef w' (.inl rfl) h.2⟩
   case defer d=>exact⟨h.1,hK _ undef w' (.inr ⟨d,rfl⟩) h.2⟩
   case enter f args=>
    refine Calls.mono h fun e w'' he=> ?_
    cases e with
    | returned u=>exact⟨he.1,hK a u w'' (.inl rfl) he.2⟩
    | panicked c=>exact he
    | outgrown=>exact he
   case row row args=>exact Rows.mono h fun u w'' he=>⟨he.1,hK a u w'' (.inl rfl) he.2⟩
  | halt x w' =>cases x<;> exact h
 rename_i hw;rw[if_neg hw] at h;exact hK a undef w (.inl rfl) h
theorem Yl.defers {S:World→Prop} {o:Oper} {v:Value} {a a' :Act} (h:Yl P ops S o v a) (ha:a' =a∨∃d,a' ={a with defers:=d::a.defers}):Yl P ops S o v a' :=by
 rcases ha with rfl | ⟨d,rfl⟩
 ·exact h
 exact h
theorem Yl.defers' {S:World→Prop} {o:Oper} {v:Value} {a a' :Act} (h:Yl P ops S o v a') (ha:a' =a∨∃d,a' ={a with defers:=d::a.defers}):Yl P ops S o v a:=by
 rcases ha with rfl | ⟨d,rfl⟩
 ·exact h
 exact h
theorem swap {K:Act→World→Prop} {x y:Oper} (hc:comm P q ops x y=true) {a:Act} {w:World} (h:sT P q ops (sT P q ops K y) x a w):sT P q ops (sT P q ops K x) y a w:=by
 unfold comm at hc;simp only[Bool.and_eq_true] at hc;obtain⟨⟨⟨hap,hsx⟩,hsy⟩,hk⟩:=hc;obtain⟨h1,h2,h3⟩:=Oper.apart_spec hap;have hsx:∀cs b,x.op≠ .select cs b:=fun cs b e=>by rw[e] at hsx;cases hsx
 have hsy:∀cs b,y.op≠ .select cs b:=fun cs b e=>by rw[e] at hsy;cases hsy
 have h2' :∀d,y.dst=some d→x.dst≠some d:=fun d hd e=>h2 d e hd
 by_cases hvx:ZFz P x.op=true
 ·obtain⟨v,hy1,hk1⟩:=ZRC hvx h;refine ZRD (x:=x) (v:=v) h1 h2 hsy (fun a' u w' ha' _ _ _ hK=> ?_) hk1
  have hy2:Yl P ops (fun _=>True) x v (a'.put y.dst u):=(hy1.defers ha').put h3 hsx
  refine ZU8 (S:=fun _=>True) (fun _=>hy2) (ZRA hvx) trivial hy2 ?_
  rw[Act.put_comm a' u v h2'];exact hK
 by_cases hvy:ZFz P y.op=true
 ·obtain⟨a1,u,w1,ha1,hs1⟩:=ZU9 h;obtain⟨v,hy1,_⟩:=ZRC hvy hs1;have hy0:Yl P ops (fun _=>True) y v a:=(hy1.unput h1 hsy).defers' ha1
  refine ZU8 (S:=fun _=>True) (fun _=>hy0) (ZRA hvy) trivial hy0 ?_
  refine ZSz (x:=y) (v:=v) h3 h2' hsx (fun a' u w' ha' hK=> ?_) h
  obtain⟨v',hy2,hk⟩:=ZRC hvy hK;have hy3:Yl P ops (fun _=>True) y v (a'.put x.dst u):=(hy0.defers ha').put h1 hsy
  have:v' =v:=by
   rcases hy2 with⟨g1,g2⟩ | ⟨g1,rfl⟩<;> rcases hy3 with⟨g3,g4⟩ | ⟨g3,rfl⟩
   ·have e1:=g2 w trivial;have e2:=g4 w trivial;rw[e1] at e2;injection e2 with e2
    injection e2
   ·rw[g1] at g3;cases g3
   ·rw[g1] at g3;cases g3
   rfl
  subst this;rw[Act.put_comm a' v' u h2'];exact hk
 simp only[hvx,hvy,Bool.false_or,Bool.or_eq_true,Bool.and_eq_true] at hk;obtain⟨hrx,hk⟩:=hk;obtain⟨v,hy1,hk1⟩:=ZXL hrx h;refine ZRD (x:=x) (v:=v) h1 h2 hsy (fun a' u w' ha' hsub hsame hgr hK=> ?_) hk1
 have hy2:Yl P ops (Sub w) x v (a'.put y.dst u):=(hy1.defers ha').put h3 hsx
 refine ZU8 (S:=Sub w) (fun e=>absurd e hvx) (ZWD hrx) ?_ hy2 ?_
 ·rcases hk with(hk | hk) | hk
  ·rw[hsame hk];exact Sub.refl w
  ·exact hsub hk
  exact hgr hk
 rw[Act.put_comm a' u v h2'];exact hK

/-! ### Orders -/
def ZDC (ops:Array Oper) (l:List Nat):List Oper:=l.filterMap (ops[·]?)
theorem ZOu {A:Act→World→Prop} {y:Oper} {post:List Oper}:∀(pre:List Oper) {a:Act} {w:World},(∀x∈pre,comm P q ops x y=true)→wl P q ops noQ A (pre++y::post) a w→wl P q ops noQ A (y::(pre++post)) a w
 | [],_,_,_,h=>h
 | x::pre,a,w,hc,h=>by
  rw[List.cons_append,ZWC] at h;have h2:sT P q ops (sT P q ops (wl P q ops noQ A (pre++post)) y) x a w:=ZVA (fun a' u w' _ hk=>ZOu pre (fun z hz=>hc z (by simp[hz])) hk) h
  have h3:=swap (hc x (by simp)) h2
  exact h3
def ZWE (P:Program) (q:Prims) (ops:Array Oper) (l:List Nat):Prop:=l.Pairwise fun i j=>((Region.before ops).getD j 0).testBit i=true∨∃x y,ops[i]? =some x∧ops[j]? =some y∧comm P q ops x y=true
theorem ZWF {Q:Exit→Act→World→Prop} {A:Act→World→Prop} (hlt:∀(i:Nat) (o:Oper),ops[i]? =some o→∀e∈o.after,Region.binds .any e=true→e.on<i) (hQ:∀a w,A a w→Q .normal a w):
  ∀(fuel:Nat) (l:List Nat) (listed:Array Bool) (a:Act) (w:World),listed.size=ops.size→l.Nodup→(∀i,i∈l↔i<ops.size∧listed.getD i false=false)→l.length≤fuel→
   (∀k j,listed.getD k false=true→((Region.before ops).getD k 0).testBit j=true→listed.getD j false=true)→ZWE P q ops l→wl P q ops noQ A (ZDC ops l) a w→wpAny P .any ops Q fuel listed a w:=by
 have hdone:∀(l:List Nat) (listed:Array Bool) (a:Act) (w:World),listed.size=ops.size→(∀i,i∈l↔i<ops.size∧listed.getD i false=false)→Region.ready .any ops listed=[]→wl P q ops noQ A (ZDC ops l) a w→Q .normal a w:=by
  intro l listed a w hsz hl hr h;have hall:∀j,j<ops.size→listed.getD j false=true:=by
   intro j;induction j using Nat.strongRecOn with
   | ind j ih=>
    intro hj
    cases hs:listed.getD j false with
    | true=>rfl
    | false=>
     exfalso
     have hj' :ops[j]? =some ops[j]:=Array.getElem?_eq_getElem hj
     have:j∈Region.ready .any ops listed:=mem_ready.2 ⟨by
      rw[Array.getD_eq_getD_getElem?] at hs ⊢;rw[Array.getElem?_eq_getElem (by omega)] at hs ⊢
      exact hs,ops[j],hj',fun e he hb=>ih e.on (hlt j _ hj' e he hb) (Nat.lt_trans (hlt j _ hj' e he hb) hj)⟩
     rw[hr] at this;cases this
  have:l=[]:=List.eq_nil_iff_forall_not_mem.2 fun i hi=>by
   obtain⟨h1,h2⟩:=(hl i).1 hi;rw[hall i h1] at h2;cases h2
  subst this;exact hQ a w h
 intro fuel;induction fuel with
 | zero=>
  intro l listed a w hsz hnd hl hf hcl hor h;have:l=[]:=List.eq_nil_of_length_eq_zero (by omega)
  subst this;refine⟨?_,hQ a w h⟩
  rw[List.eq_nil_iff_forall_not_mem];intro i hi;obtain⟨h1,o,h2,_⟩:=mem_ready.1 hi;have hin:i<ops.size:=(Array.getElem?_eq_some_iff.1 h2).1
  have h3:=(hl i).2 ⟨hin,by
   rw[Array.getD_eq_getD_getElem?] at h1 ⊢;rw[Array.getElem?_eq_getElem (by omega)] at h1 ⊢
   exact h1⟩
  cases h3
 | succ fuel ih=>
  intro l listed a w hsz hnd hl hf hcl hor h;refine⟨fun hr=>hdone l listed a w hsz hl hr h,fun j hj=> ?_⟩
  obtain⟨h1,o,hoj,haft⟩:=mem_ready.1 hj;have hjn:j<ops.size:=(Array.getElem?_eq_some_iff.1 hoj).1
  have hSj:listed.getD j false=false:=by
   rw[Array.getD_eq_getD_getElem?] at h1 ⊢;rw[Array.getElem?_eq_getElem (by omega)] at h1 ⊢
   exact h1
  have hbef:∀k,((Region.before ops).getD j 0).testBit k=true→listed.getD k false=true:=fun k hk=>by
   obtain⟨e,he,hbi,h'⟩:=(ZGy hoj (hlt j o hoj) k).1 hk;have:=haft e he hbi
   rcases h' with rfl | h'
   ·exact this
   exact hcl _ _ this h'
  obtain⟨pre,post,rfl⟩:=List.append_of_mem ((hl j).2 ⟨hjn,hSj⟩);have hpick:ZDC ops (pre++j::post)=ZDC ops pre++o::ZDC ops post:=by
   unfold ZDC;rw[List.filterMap_append,List.filterMap_cons,hoj]
  have hpick2:ZDC ops (pre++post)=ZDC ops pre++ZDC ops post:=by
   unfold ZDC;rw[List.filterMap_append]
  have hnd' :j ∉ pre∧j ∉ post:=by
   rw[List.nodup_append] at hnd;obtain⟨g1,g2,g3⟩:=hnd;exact⟨fun hm=>g3 j hm j (by simp) rfl,(List.nodup_cons.1 g2).1⟩
  rw[hpick] at h;have hfr:=ZOu (ZDC ops pre) (fun x hx=>by
   obtain⟨i,hi,hxi⟩:=List.mem_filterMap.1 hx;have:=(List.pairwise_append.1 hor).2.2 i hi j (by simp)
   rcases this with hbit | ⟨x',y',g1,g2,g3⟩
   ·have:=hbef i hbit
    rw[((hl i).1 (by simp[hi])).2] at this;cases this
   rw[hxi] at g1;injection g1 with g1;subst g1
   rw[hoj] at g2;injection g2 with g2;subst g2
   exact g3) h
  rw[←hpick2,ZWC] at hfr;have hset:∀i,(listed.setIfInBounds j true).getD i false=if i=j then true else listed.getD i false:=fun i=>by
   by_cases e:i=j
   ·subst e;rw[if_pos rfl];simp[Array.getD_eq_getD_getElem?,hsz,hjn]
   rw[if_neg e,getD_set_ne false (Ne.symm e)]
  have next:∀a' w',wl P q ops noQ A (ZDC ops (pre++post)) a' w' →wpAny P .any ops Q fuel (listed.setIfInBounds j true) a' w' :=fun a' w' h' =>by
   refine ih (pre++post) (listed.setIfInBounds j true) a' w' (by simpa using hsz) ?_ ?_ ?_ ?_ ?_ h'
   ·exact(List.nodup_append.2 ⟨(List.nodup_append.1 hnd).1,(List.nodup_cons.1 (List.nodup_append.1 hnd).2.1).2,fun x hx y hy=>(List.nodup_append.1 hnd).2.2 x hx y (by simp[hy])⟩)
   ·intro i;rw[hset i];have:=hl i
    simp only[List.mem_append,List.mem_cons] at this ⊢;by_cases e:i=j
    ·subst e;simp[hnd'.1,hnd'.2]
    simp only[e,false_or,if_false] at this ⊢;exact this
   ·simp only[List.length_append,List.length_cons] at hf ⊢;omega
   ·intro k i hk hbit;rw[hset k] at hk;rw[hset i];split
    ·rfl
    split at hk
    ·rename_i e;subst e;exact hbef i hbit
    exact hcl k i hk hbit
   refine List.pairwise_append.2 ⟨(List.pairwise_append.1 hor).1,(List.pairwise_cons.1 (List.pairwise_append.1 hor).2.1).2,fun x hx y hy=>(List.pairwise_append.1 hor).2.2 x hx y (by simp[hy])⟩
  unfold wpOp;simp only[hoj];unfold sT at hfr;split
  ·rename_i hw;rw[if_pos hw] at hfr;left
   have h2:=hfr.2;unfold Oper.wp at*;generalize (execOp a.eval o).run P w=r at*
   cases r with
   | ok n w' =>
    cases n<;> simp only[Oper.upon] at h2 ⊢
    case value u=>exact next _ _ h2.2
    case skip=>exact next _ _ h2.2
    case defer d=>exact next _ _ h2.2
    case enter f args=>
     refine Calls.mono h2 fun e w'' he=> ?_
     cases e with
     | returned u=>exact next _ _ he.2
     | panicked c=>exact he.elim
     | outgrown=>obtain⟨_,_,he⟩:=he;exact he.elim
    case row row args=>exact Rows.mono h2 fun u w'' he=>next _ _ he.2
   | halt x w' =>cases x<;> exact h2.elim
  rename_i hw;rw[if_neg hw] at hfr;exact next _ _ hfr
end
theorem ZKv:∀(n:Nat) (l:List Nat),l.Nodup→(∀i∈l,i<n)→l.length≤n
 | 0,[],_,_=>Nat.le_refl _
 | 0,i::l,_,h=>absurd (h i (by simp)) (Nat.not_lt_zero i)
 | n+1,l,hn,h=>by
  by_cases hm:n∈l
  ·have:=ZKv n (l.erase n) (hn.erase n) (fun i hi=>by
    have h1:=(List.Nodup.mem_erase_iff hn).1 hi;have:=h i h1.2
    have:=h1.1
    omega)
   rw[List.length_erase_of_mem hm] at this;omega
  have:=ZKv n l hn (fun i hi=>by
   have:=h i hi
   have:i≠n:=fun e=>hm (e▸hi)
   omega)
  omega
theorem ZOv:∀(n:Nat) (l:List Nat),l.Nodup→(∀i∈l,i<n)→l.length=n→∀i,i<n→i∈l
 | 0,_,_,_,_,i,hi=>absurd hi (Nat.not_lt_zero i)
 | n+1,l,hn,h,hl,i,hi=>by
  have hm:n∈l:=Classical.byContradiction fun hm=>by
   have:=ZKv n l hn (fun i hi=>by
    have:=h i hi
    have:i≠n:=fun e=>hm (e▸hi)
    omega)
   omega
  by_cases e:i=n
  ·subst e;exact hm
  have:=ZOv n (l.erase n) (hn.erase n) (fun i hi=>by
   have h1:=(List.Nodup.mem_erase_iff hn).1 hi;have:=h i h1.2
   have:=h1.1
   omega) (by rw[List.length_erase_of_mem hm];omega) i (by omega)
  exact((List.Nodup.mem_erase_iff hn).1 this).2
def orderOk (P:Program) (q:Prims) (ops:Array Oper) (l:List Nat):Bool:=
 P.follows .mixedOrders && (ops.toList.zipIdx.all fun(o,i)=>o.after.all fun e=> !Region.binds .any e || decide (e.on<i)) &&
 (
  let b:=Region.before ops
  let rec go:List Nat→Bool
   | []=>true
   | i::l=>(l.all fun j=>j !=i && ((b.getD j 0).testBit i || match ops[i]?,ops[j]? with | some x,some y=>comm P q ops x y | _,_=>false)) && decide (i<ops.size) && go l
  go l) && decide (l.length=ops.size)
section
variable {P:Program} {prims:Prims} {n:Nat} {K:Fm→St→Prop} {Q:AExit→Fm→St→Prop} {φ:Fm} {s:St}
theorem ZOw {ops:Array Oper}:∀{l:List Nat},orderOk.go P prims ops (Region.before ops) l=true→l.Nodup∧(∀i∈l,i<ops.size)∧ZWE P prims ops l
 | [],_=>⟨List.nodup_nil,fun i hi=>by simp at hi,List.Pairwise.nil⟩
 | i::l,h=>by
  unfold orderOk.go at h;simp only[Bool.and_eq_true,List.all_eq_true,decide_eq_true_eq] at h;obtain⟨⟨h1,h2⟩,h3⟩:=h;obtain⟨g1,g2,g3⟩:=ZOw h3;refine⟨List.nodup_cons.2 ⟨fun hi=> ?_,g1⟩,?_,List.Pairwise.cons (fun j hj=> ?_) g3⟩
  ·have:=(h1 i hi).1
   simp at this
  ·intro k hk;rcases List.mem_cons.1 hk with rfl | hk
   ·exact h2
   exact g2 k hk
  have:=(h1 j hj).2
  rw[Bool.or_eq_true] at this;rcases this with h | h
  ·exact .inl h
  right
  split at h
  ·rename_i x y hx hy;exact⟨x,y,hx,hy,h⟩
  cases h
theorem ZRE {id:Nat} {ops:Array Oper} (l:List Nat) (hok:orderOk P prims ops l=true) (h:TO P prims n false ops (ZDC ops l) K φ s):TC P prims n (.region id ops true) K Q φ s:=by
 unfold orderOk at hok;simp only[Bool.and_eq_true,decide_eq_true_eq] at hok;obtain⟨⟨⟨hm,hed⟩,hgo⟩,hlen⟩:=hok;obtain⟨g1,g2,g3⟩:=ZOw hgo;intro hp base ρ X w a R hb hs hr hd hR;have hlt:∀(i:Nat) (o:Oper),ops[i]? =some o→∀e∈o.after,Region.binds .any e=true→e.on<i:=fun i o ho e he hb=>by
  rw[List.all_eq_true] at hed;have:=hed (o,i) (by
   rw[List.mem_zipIdx_iff_getElem?];simpa using ho)
  have:=Array.all_eq_true_iff_forall_mem.1 this e he
  simpa[hb] using this
 have hall:∀i,i∈l↔i<ops.size∧(Array.replicate ops.size false).getD i false=false:=fun i=>by
  constructor
  ·intro hi;refine⟨g2 i hi,?_⟩
   rw[Array.getD_eq_getD_getElem?,Array.getElem?_replicate];split<;> rfl
  rintro⟨hi,_⟩;exact ZOv ops.size l g1 g2 hlen i hi
 have hu:Rel w ρ (UX ρ s.h X) s.c .undef undef:=by simp[Rel,RelL,undef]
 have hpost:=Post.grow (v:= .undef) (v' :=undef) (w' :={w with drawn:=w.drawn+1}) hs rfl rfl rfl (Nat.le_refl _) (fun _ _=>rfl) (by simp[Rel,RelL,undef])
 have hpf:=Post.frame (dst:=none) hs hr hd hpost;obtain⟨ρ1,k1,k2,k3,k4,k5,k6,k7⟩:=hpf;refine wp_region_any hm (ZWF (q:=prims) (A:=fun a' w' =>R .normal a' w') hlt (fun _ _ h=>h) ops.size l _ a _ (by simp) g1 hall (by omega) ?_ g3 ?_)
 ·intro k j hk;exfalso
  rw[Array.getD_eq_getD_getElem?,Array.getElem?_replicate] at hk;split at hk<;> simp at hk
 exact h hp base ρ1 X {w with drawn:=w.drawn+1} a noQ _ (Nat.le_trans hb k5.size) k3 k4 k7 fun φ' s' a' w' hk hpf=>hR .normal φ' s' a' w' hk (PostF.cons k1 k2 k5 k6 hpf)
end
end Go.Ai
end
section
open Go.Ai.Enc (enc is)
namespace Go.Ai
section
variable {P:Program} {base:Nat} {ρ:Pl} {X:Reg} {s s' :St} {w:World}
end
def isT (e:TypeId) (x:AV) (en:En) (l:List UInt8):Prop:=∃q cap sp,x= .hs 0 q 0 l.length cap∧en= .tc q e (l.map (enc:UInt8→AV)++sp)∧sp.length=cap - l.length∧l.length≤cap∧0<l.length∧∀y∈sp,y.one=true
def isR0 (e:TypeId) (x:AV) (en:En) (l:List UInt8):Prop:=isT e x en l∨(x= .nils∧en= .own .nils∧l=[])
section
variable {P:Program} {prims:Prims} {n:Nat} {b:Bool} {K:Fm→St→Prop} {φ:Fm} {s:St} {ops:Array Oper} {l:List Oper} {d:Tmp} {x y:Operand} {t t' e ty:TypeId} {pos:String} {af:Array Edge} {es:List En}
def ZPx (P:Program) (fn:Func) (H:AV→St→Prop) (φ:Fm) (s:St):Prop:=∃r,ZBv P fn (frm fn.ntmps φ) s=some r∧H r s
theorem ZB9 {f:FuncId} {fn:Func} {c:Code} {avs:List AV} {H:AV→St→Prop} (lz:List (Nat×AV)) (hf:P.funcs[f]? =some fn) (hb:fn.body=some c)
  (hfr:avs++List.replicate (fn.ntmps - avs.length) .undef=frm fn.ntmps (ups (fun _=> .undef) lz))
  (h:∀ψ,TC P prims fn.ntmps c (ZPx P fn H) (fun e φ s1=>e= .ret∧ZPx P fn H φ s1) (ups ψ lz) s):MF P prims f avs s H:=by
 intro hp base ρ X w vs hba hs hr;have hfr' :RelL w ρ (UX ρ s.h X) s.c (frm fn.ntmps (ups (fun _=> .undef) lz)) (vs.toArray++Array.replicate (fn.ntmps - vs.toArray.size) undef).toList:=by
  rw[←hfr];have hl:=hr.length;simp only[Array.toList_append,Array.toList_replicate,List.size_toArray];rw[hl];exact hr.append (ZGW _)
 refine calls_of_wp hf hb (h _ hp base ρ X w _ _ hba hs hfr' rfl fun e φ' s' a' w' he hpf=> ?_)
 have key:ZPx P fn H φ' s' ∧(e= .normal∨e= .ret):=by
  cases e with
  | normal=>exact⟨he, .inl rfl⟩
  | exit id=>cases he.1
  | ret=>exact⟨he.2, .inr rfl⟩
 obtain⟨⟨r,hres,hH⟩,he'⟩:=key;obtain⟨ρ1,g1,g2,g3,g4,g5,g6,g7⟩:=hpf;obtain⟨v',k1,k2⟩:=ZGv g3 g4 hres;have fin:bodyPost P fn (fun e w' =>∃v',e= .returned v' ∧∃v s',H v s' ∧Post base ρ X s w v s' v' w') .ret a' w' :=
  ⟨g7,v',k1,v',rfl,r,s',hH,ρ1,g1,g2,g3,k2,g5,g6⟩
 rcases he' with rfl | rfl<;> exact fin
theorem isR0.one {e:TypeId} {y:AV} {en:En} {l:List UInt8} (h:isR0 e y en l):y.cells=[y]∧y.one=true:=by
 rcases h with⟨q,cap,sp,rfl,_⟩ | ⟨rfl,_⟩<;> exact⟨rfl,rfl⟩
end
end Go.Ai
end
section
open Go.Ai.Enc (enc is)
namespace Go.Ai
section
variable {P:Program} {prims:Prims} {n:Nat} {b:Bool} {K:Fm→St→Prop} {φ:Fm} {s:St} {ops:Array Oper} {l:List Oper} {d:Tmp} {x y:Operand} {t t' e ty:TypeId} {pos:String} {af:Array Edge} {es:List En}
variable {T:Type} [Enc T] {A:List T} {m len:Nat} {i:Int} {kk:IntKind} {v:T}
/-! ### A shift by a number that is not written out -/
theorem ZJL {a:Nat} {N:Int} (k:Nat) (h:(a:Int)<N):0≤(a:Int).fdiv (2 ^ k)∧(a:Int).fdiv (2 ^ k)<N:=by
 have hp:(0:Int)<2 ^ k:=Int.pow_pos (by omega)
 rw[Int.fdiv_eq_ediv_of_nonneg _ (Int.le_of_lt hp)];exact⟨Int.ediv_nonneg (by omega) (Int.le_of_lt hp),Int.lt_of_le_of_lt (Int.ediv_le_self _ (by omega)) h⟩
end
end Go.Ai
end
section
open Go.Ai.Enc (enc is)
namespace Go.Ai
class Flds (A:Type) where
 fe:A→List AV
 fi:List AV→A→Prop
 fk:Nat
 inj:∀{a b},fe a=fe b→a=b
 strip:∀{xs a},fi xs a→ZA9 xs=fe a
 self:∀a,fi (fe a) a
 len:∀{xs a},fi xs a→xs.length=fk
 el:∀{xs a},fi xs a→∀x∈xs,x.one=true
 pu:∀a,ZCR (fe a)=true
open Flds (fe fi fk)
class Enc0 (T:Type) [Enc T]:Prop where
 k0:Enc.k T=0
instance:Enc0 Int:=⟨rfl⟩
instance:Enc0 Bool:=⟨rfl⟩
instance:Enc0 Str:=⟨rfl⟩
instance {T:Type} [Enc T]:Enc0 (List T):=⟨rfl⟩
theorem ZJM {T:Type} [Enc T] [Enc0 T] {x:AV} {a:T} (h:is x a):x.one=true:=(Enc.el h).2.2.1 Enc0.k0
theorem ZEK {x:AV} (h:x.one=true):x.cells=[x]:=by cases x<;> first | rfl | simp[AV.one] at h
instance:Flds Unit where
 fe _:=[]
 fi xs _:=xs=[]
 fk:=0
 inj _:=rfl
 strip h:=by subst h;rfl
 self _:=rfl
 len h:=by subst h;rfl
 el h x hx:=by subst h;cases hx
 pu _:=rfl
instance {T A:Type} [Enc T] [Enc0 T] [Flds A]:Flds (T×A) where
 fe a:=enc a.1::fe a.2
 fi xs a:=∃y ys,xs=y::ys∧is y a.1∧fi ys a.2
 fk:=fk A+1
 inj {a b} h:=by
  injection h with h1 h2
  have e1:=Enc.inj h1;have e2:=Flds.inj h2
  cases a;cases b;simp_all
 strip h:=by
  obtain⟨y,ys,rfl,h1,h2⟩:=h;simp only[ZA9,Enc.strip h1,Flds.strip h2]
 self a:=⟨_,_,rfl,Enc.self _,Flds.self _⟩
 len h:=by
  obtain⟨y,ys,rfl,h1,h2⟩:=h;simp[Flds.len h2]
 el h x hx:=by
  obtain⟨y,ys,rfl,h1,h2⟩:=h;rcases List.mem_cons.1 hx with rfl | hx
  ·exact ZJM h1
  exact Flds.el h2 x hx
 pu a:=by simp only[ZCR,Enc.pu,Flds.pu,Bool.and_self]
structure Rec (A:Type) where
 v:A
instance {T A:Type} [Enc T] [Enc0 T] [Flds A]:Enc (Rec (T×A)) where
 enc r:= .agg (fe r.v)
 k:=fk (T×A)
 is x r:=∃xs,x= .agg xs∧fi xs r.v
 inj {a b} h:=by
  injection h with h
  have:=Flds.inj h
  cases a;cases b;simp_all
 strip h:=by
  obtain⟨xs,rfl,h⟩:=h;simp only[ZAv,Flds.strip h]
 self r:=⟨_,rfl,Flds.self _⟩
 el h:=by
  obtain⟨xs,rfl,h⟩:=h;refine⟨?_,Flds.el h,fun e=> ?_,fun _=>rfl⟩
  ·show xs.length=_
   rw[Flds.len h];rfl
  cases e
 pu r:=by simp only[ZB6,Flds.pu]
def Sel (A T:Type) [Flds A] [Enc T] (n:Nat) (get:A→T) (set:A→T→A):Prop:=
 ∀xs a,fi xs a→(∃x,xs[n]? =some x∧is x (get a))∧∀y t,is y t→fi (xs.set n y) (set a t)
theorem Sz {T A:Type} [Enc T] [Enc0 T] [Flds A]:Sel (T×A) T 0 (·.1) (fun a t=>(t,a.2)):=fun xs a h=>by
 obtain⟨y,ys,rfl,h1,h2⟩:=h;exact⟨⟨y,rfl,h1⟩,fun z t hz=>⟨z,ys,rfl,hz,h2⟩⟩
theorem Ss {T A U:Type} [Enc T] [Enc0 T] [Flds A] [Enc U] {n:Nat} {get:A→U} {set:A→U→A} (h:Sel A U n get set):Sel (T×A) U (n+1) (fun a=>get a.2) (fun a t=>(a.1,set a.2 t)):=fun xs a hx=>by
 obtain⟨y,ys,rfl,h1,h2⟩:=hx;obtain⟨q1,q2⟩:=h ys a.2 h2;exact⟨q1,fun z t hz=>⟨y,_,rfl,h1,q2 z t hz⟩⟩
def flB (P:Program) (t:TypeId) (f:Nat):Bool:=
 match P.underlying t with
 | some (.struct fs)=>match fs[f]? with
  | some fd=>decide (fd.offset=f) && (match szT P fd.type with | some z=>decide (z=1) | none=>false) && (match aggT P fd.type with | some a=> !a | none=>false)
  | none=>false
 | _=>false
theorem ZRF {P:Program} {t:TypeId} {f:Nat} (h:flB P t f=true):∃fs fd,P.underlying t=some (.struct fs)∧fs[f]? =some fd∧fd.offset=f∧szT P fd.type=some 1∧aggT P fd.type=some false:=by
 unfold flB at h;split at h
 ·rename_i fs hu;split at h
  ·rename_i fd hf;simp only[Bool.and_eq_true,decide_eq_true_eq] at h;obtain⟨⟨h1,h2⟩,h3⟩:=h;refine⟨fs,fd,hu,hf,h1,?_,?_⟩
   ·split at h2
    ·rename_i z hz;rw[hz];simp at h2;rw[h2]
    cases h2
   split at h3
   ·rename_i a ha;rw[ha];simp at h3;rw[h3]
   cases h3
  cases h
 cases h
section
variable {P:Program} {prims:Prims} {n:Nat} {b:Bool} {K:Fm→St→Prop} {φ:Fm} {s:St} {ops:Array Oper} {l:List Oper} {d:Tmp} {x y:Operand} {t t' e ty:TypeId} {pos:String} {af:Array Edge} {u v:AV} {es:List En}
theorem ZS0 {T A U:Type} [Enc T] [Enc0 T] [Flds A] [Enc U] {f:Nat} {r:Rec (T×A)} {get:T×A→U} {set:T×A→U→T×A} (hf:flB P t f=true) (hl:Sel (T×A) U f get set) (hx:ZAb n φ x=some u) (h:is u r)
  (k:∀v,is v (get r.v)→TO P prims n b ops l K (upd φ d v) s):TO P prims n b ops (⟨some d, .field t x f,ty,pos,af,none⟩::l) K φ s:=by
 obtain⟨xs,rfl,h⟩:=h;obtain⟨⟨w,hw,hi⟩,_⟩:=hl xs r.v h;obtain⟨fs,fd,h1,h2,h3,h4,h5⟩:=ZRF hf;refine ZA2 rfl rfl (v:=w) (s' :=s) (fun _=> ?_) (k w hi)
 simp only[aOp,ZAM hx,oC,Option.bind_some,ZOb,h1,h2,ZEx,h5,h3,hw,Option.map_some,if_neg,Bool.false_eq_true,if_false]
def FPtr {U:Type} [Enc U] (p:AV) (a:U):Prop:=∃k ys i off y cs w,p= .rptr k ys i off∧ys[i]? =some y∧y.cells=cs∧cs[off]? =some w∧is w a
theorem ZCT {T A U:Type} [Enc T] [Enc0 T] [Flds A] [Enc U] {f:Nat} {r:Rec (T×A)} {get:T×A→U} {set:T×A→U→T×A} (hf:flB P t f=true) (hl:Sel (T×A) U f get set) (hx:ZAb n φ x=some u) (h:EPtr u r)
  (k:∀v,FPtr v (get r.v)→TO P prims n b ops l K (upd φ d v) s):TO P prims n b ops (⟨some d, .fieldAddr t x f,ty,pos,af,none⟩::l) K φ s:=by
 obtain⟨ys,i,y,rfl,h1,xs,rfl,h⟩:=h;obtain⟨⟨w,hw,hi⟩,_⟩:=hl xs r.v h;obtain⟨fs,fd,g1,g2,g3,g4,g5⟩:=ZRF hf;have hlen:xs.length=fk (T×A):=Flds.len h
 have hlt:f<xs.length:=(List.getElem?_eq_some_iff.1 hw).1
 refine ZA2 rfl rfl (v:= .rptr (Enc.k (Rec (T×A))) ys i f) (s' :=s) (fun _=> ?_) (k _ ⟨_,ys,i,f,_,xs,w,rfl,h1,rfl,hw,hi⟩)
 have e:0+f<esz (Enc.k (Rec (T×A))):=by
  show 0+f<fk (T×A)
  omega
 simp only[aOp,ZAM hx,oC,Option.bind_some,ZCc,g1,g2,g4,g3,Nat.zero_add,if_pos (Nat.zero_add f▸e),Option.map_some,Option.some.injEq,Nat.one_ne_zero,if_false]
theorem ZBQ {U:Type} [Enc U] {a:U} (hg:aggT P t=some false) (hx:ZAb n φ x=some u) (hp:FPtr u a) (k:∀v,is v a→TO P prims n b ops l K (upd φ d v) s):TO P prims n b ops (⟨some d, .load t x,ty,pos,af,none⟩::l) K φ s:=by
 obtain⟨kk,ys,i,off,w,cs,z,rfl,h1,rfl,h2,h3⟩:=hp;refine ZA2 rfl rfl (fun _=>ZFO (ZAM hx) (v:=z) ?_) (k _ h3)
 simp[ZEy,h1,ZEx,hg,h2]
theorem ZDs {T A:Type} [Enc T] [Enc0 T] [Flds A] {r:Rec (T×A)} (hg:aggT P t=some true) (hz:szT P t=some (fk (T×A))) (hx:ZAb n φ x=some u) (hp:EPtr u r) (k:∀v,is v r→TO P prims n b ops l K (upd φ d v) s):TO P prims n b ops (⟨some d, .load t x,ty,pos,af,none⟩::l) K φ s:=by
 obtain⟨ys,i,y,rfl,h1,xs,rfl,h⟩:=hp;have hlen:xs.length=fk (T×A):=Flds.len h
 refine ZA2 rfl rfl (fun _=>ZFO (ZAM hx) (v:= .agg xs) ?_) (k _ ⟨xs,rfl,h⟩)
 simp[ZEy,h1,ZEx,hg,hz,AV.cells,←hlen]
/-! ### Structs in variables of their own -/
theorem ZMP {A:Type} [Flds A] {xs:List AV} {a:A} (h:fi xs a):xs.all AV.one=true:=List.all_eq_true.2 (Flds.el h)
theorem ZBG {T A:Type} [Enc T] [Enc0 T] [Flds A] {r:Rec (T×A)} {xs0:List AV} (hz:ZBM P t=some (.agg xs0)) (hr:fi xs0 r.v) (hs:Hp s es)
  (k:∀m s',Hp s' (.cells m xs0::es)→TO P prims n b ops l K (upd φ d (.ptr m 0)) s'):TO P prims n b ops (⟨some d, .alloc t,ty,pos,af,none⟩::l) K φ s:=by
 refine ZA2 rfl rfl (v:= .ptr s.c 0) (s' :=s.new (.cells xs0)) (fun _=> ?_) (k s.c _ (hs.new _ _ rfl))
 simp only[aOp,ZIi,hz,ZC6,AV.cells,oC,Option.bind_some];exact if_pos (ZMP hr)
theorem ZAx {T A:Type} [Enc T] [Enc0 T] [Flds A] {r r0:Rec (T×A)} {m:Nat} {xs0:List AV} (hz:szT P t=some (fk (T×A))) (hx:ZAb n φ x=some (.ptr m 0)) (hy:ZAb n φ y=some v) (h0:fi xs0 r0.v) (h:is v r) (hs:Hp s (.cells m xs0::es))
  (k:∀xs s',fi xs r.v→Hp s' (.cells m xs::es)→TO P prims n b ops l K φ s'):TO P prims n b ops (⟨none, .store t x y,ty,pos,af,none⟩::l) K φ s:=by
 obtain⟨xs,rfl,h⟩:=h;have l1:xs0.length=fk (T×A):=Flds.len h0
 have l2:xs.length=fk (T×A):=Flds.len h
 have hg:=hs.get rfl;have hst:ZED P t (.ptr m 0) (.agg xs) s=some (s.put m (.cells xs)):=by
  have hsp:ZBC xs0 0 xs=xs:=by
   unfold ZBC;rw[List.take_zero,List.nil_append,Nat.zero_add,List.drop_of_length_le (by omega),List.append_nil]
  simp only[ZED,AV.cells,hz,l2,if_pos,ZBu,hg,Nat.zero_add,l1,Nat.le_refl,true_and,ZMP h,hsp]
 refine ZJD rfl rfl (v:= .undef) (s' :=s.put m (.cells xs)) (fun _=> ?_) (k xs _ h (hs.put rfl rfl))
 simp only[aOp,ZAM hx,ZAM hy,oC,Option.bind_some,hst]
theorem ZA5 {T A:Type} [Enc T] [Enc0 T] [Flds A] {r:Rec (T×A)} (hx:ZAb n φ x=some u) (h:is u r) (hs:Hp s es)
  (k:∀m xs s',fi xs r.v→Hp s' (.cells m xs::es)→TO P prims n b ops l K (upd φ d (.ptr m 0)) s'):TO P prims n b ops (⟨some d, .box t x,ty,pos,af,none⟩::l) K φ s:=by
 obtain⟨xs,rfl,h⟩:=h;refine ZA2 rfl rfl (v:= .ptr s.c 0) (s' :=s.new (.cells xs)) (fun _=> ?_) (k s.c xs _ h (hs.new _ _ rfl))
 simp only[aOp,ZAM hx,ZC6,AV.cells,oC,Option.bind_some];exact if_pos (ZMP h)
theorem ZAV {f m:Nat} (hf:flB P t f=true) (hx:ZAb n φ x=some (.ptr m 0)) (k:TO P prims n b ops l K (upd φ d (.ptr m f)) s):TO P prims n b ops (⟨some d, .fieldAddr t x f,ty,pos,af,none⟩::l) K φ s:=by
 obtain⟨fs,fd,g1,g2,g3,g4,g5⟩:=ZRF hf;refine ZA2 rfl rfl (v:= .ptr m f) (s' :=s) (fun _=> ?_) k
 simp only[aOp,ZAM hx,oC,Option.bind_some,ZCc,g1,g2,g4,g3,Nat.zero_add,Option.map_some,Option.some.injEq,Nat.one_ne_zero,if_false]
theorem ZAK {A U:Type} [Flds A] [Enc U] {f m:Nat} {a:A} {get:A→U} {set:A→U→A} {xs:List AV} (hg:aggT P t=some false) (hl:Sel A U f get set) (hx:ZAb n φ x=some (.ptr m f)) (h:fi xs a) (hs:Hp s (.cells m xs::es))
  (k:∀v,is v (get a)→TO P prims n b ops l K (upd φ d v) s):TO P prims n b ops (⟨some d, .load t x,ty,pos,af,none⟩::l) K φ s:=by
 obtain⟨⟨w,hw,hi⟩,_⟩:=hl xs a h;have hgt:=hs.get rfl;refine ZA2 rfl rfl (fun _=>ZFO (ZAM hx) (v:=w) ?_) (k _ hi)
 simp[ZEy,hgt,ZEx,hg,hw]
theorem ZEX {A U:Type} [Flds A] [Enc U] [Enc0 U] {f m:Nat} {a:A} {z:U} {get:A→U} {set:A→U→A} {xs:List AV} (hz:szT P t=some 1) (hl:Sel A U f get set) (hx:ZAb n φ x=some (.ptr m f)) (hy:ZAb n φ y=some v) (hv:is v z) (h:fi xs a) (hs:Hp s (.cells m xs::es))
  (k:∀xs' s',fi xs' (set a z)→Hp s' (.cells m xs' ::es)→TO P prims n b ops l K φ s'):TO P prims n b ops (⟨none, .store t x y,ty,pos,af,none⟩::l) K φ s:=by
 obtain⟨⟨w,hw,hi⟩,h2⟩:=hl xs a h;have hg:=hs.get rfl;have hlt:f<xs.length:=(List.getElem?_eq_some_iff.1 hw).1
 have h1:v.one=true:=ZJM hv
 have hst:ZED P t (.ptr m f) v s=some (s.put m (.cells (xs.set f v))):=by
  have hsp:ZBC xs f [v]=xs.set f v:=by
   unfold ZBC;rw[List.set_eq_take_append_cons_drop,if_pos hlt,List.append_assoc];rfl
  simp only[ZED,ZEK h1,hz,List.length_singleton,if_pos,ZBu,hg,List.all_cons,List.all_nil,h1,Bool.and_true,and_true,if_pos (Nat.succ_le_of_lt hlt),hsp]
 refine ZJD rfl rfl (v:= .undef) (s' :=s.put m (.cells (xs.set f v))) (fun _=> ?_) (k _ _ (h2 v z hv) (hs.put rfl rfl))
 simp only[aOp,ZAM hx,ZAM hy,oC,Option.bind_some,hst]
theorem ZAm {T A:Type} [Enc T] [Enc0 T] [Flds A] {m:Nat} {r:Rec (T×A)} {xs:List AV} (hg:aggT P t=some true) (hz:szT P t=some (fk (T×A))) (hx:ZAb n φ x=some (.ptr m 0)) (h:fi xs r.v) (hs:Hp s (.cells m xs::es))
  (k:∀v,is v r→TO P prims n b ops l K (upd φ d v) s):TO P prims n b ops (⟨some d, .load t x,ty,pos,af,none⟩::l) K φ s:=by
 have hgt:=hs.get rfl;have hlen:xs.length=fk (T×A):=Flds.len h
 refine ZA2 rfl rfl (fun _=>ZFO (ZAM hx) (v:= .agg xs) ?_) (k _ ⟨xs,rfl,h⟩)
 simp[ZEy,hgt,ZEx,hg,hz,←hlen]
/-! ### A struct is built -/
def buB (P:Program) (t:TypeId) (q:Nat):Bool:=
 match P.underlying t with
 | some (.struct fs)=>decide ((fs.toList.mapM fun f=>(szT P f.type).map fun z=>(f.offset,z))=some ((List.range q).map fun i=>(i,1)))
 | _=>false
inductive Fil (A:Type) [Flds A]:A→List (Nat×AV)→A→Prop where
 | nil {r:A}:Fil A r [] r
 | cons {U:Type} [Enc U] [Enc0 U] {f:Nat} {get:A→U} {set:A→U→A} {v:AV} {z:U} {r r' :A} {ps:List (Nat×AV)} (hl:Sel A U f get set) (hv:is v z) (h:Fil A (set r z) ps r'):Fil A r ((f,v)::ps) r'
theorem ZS1 {A:Type} [Flds A] {q:Nat} {r r' :A} {ps:List (Nat×AV)} (h:Fil A r ps r'):∀{xs:List AV},fi xs r→xs.length=q→∃ys,ZGq (((List.range q).map fun i=>(i,1))[·]?) xs ps=some ys∧fi ys r' :=by
 induction h with
 | nil=>intro xs h _;exact⟨xs,rfl,h⟩
 | @cons U _ _ f get set v z r r' ps hl hv h ih=>
  intro xs hx hq;obtain⟨⟨w,hw,hi⟩,h2⟩:=hl xs r hx;have hlt:f<xs.length:=(List.getElem?_eq_some_iff.1 hw).1
  have h1:v.one=true:=ZJM hv
  obtain⟨ys,e,hy⟩:=ih (h2 v z hv) (by simpa using hq)
  refine⟨ys,?_,hy⟩
  have hsp:ZBC xs f [v]=xs.set f v:=by
   unfold ZBC;rw[List.set_eq_take_append_cons_drop,if_pos hlt,List.append_assoc];rfl
  have hpl:((List.range q).map fun i=>(i,1))[f]? =some (f,1):=by
   have:f<q:=by omega
   simp[this]
  simp only[ZGq,hpl,oC,Option.bind_some,ZEK h1,List.length_singleton];rw[if_neg (by omega),hsp]
  exact e
theorem ZBZ {T A:Type} [Enc T] [Enc0 T] [Flds A] {q:Nat} {r0 r:T×A} {xs0:List AV} {ps:List (Nat×AV)} {parts:Array (Nat×Operand)} (hb:buB P t q=true) (hz:ZBM P t=some (.agg xs0)) (h0:fi xs0 r0) (hq:fk (T×A)=q)
  (hp:(parts.toList.mapM fun(i,x)=>(ZAb n φ x).map (i,·))=some ps) (hF:Fil (T×A) r0 ps r) (k:∀v,is v (Rec.mk r)→TO P prims n b ops l K (upd φ d v) s):TO P prims n b ops (⟨some d, .build t parts,ty,pos,af,none⟩::l) K φ s:=by
 unfold buB at hb;split at hb
 ·rename_i fs hu;have hm:=of_decide_eq_true hb;obtain⟨ys,e,hy⟩:=ZS1 (q:=q) hF h0 (by rw[Flds.len h0,hq])
  refine ZA2 rfl rfl (v:= .agg ys) (s' :=s) (fun _=> ?_) (k _ ⟨ys,rfl,hy⟩)
  have hp' :(parts.toList.mapM fun(i,x)=>(ZAp (frm n φ) x).map (i,·))=some ps:=by
   clear hF e
   generalize parts.toList=q at hp
   induction q generalizing ps with
   | nil=>exact hp
   | cons a q ih=>
    simp only[List.mapM_cons,oC,oB,Option.map_eq_some_iff,Option.pure_def] at hp ⊢;obtain⟨b,⟨w,hw,rfl⟩,bs,hbs,h⟩:=hp;exact⟨_,⟨w,ZAM hw,rfl⟩,bs,ih hbs,h⟩
  simp only[aOp,oC] at hp' ⊢;rw[hp',Option.bind_some];simp only[oC,Option.bind_some,ZLy,hz,hu,hm,AV.cells,e,Option.map_some]
 cases hb
theorem ldW {T A:Type} [Enc T] [Enc0 T] [Flds A] {m:Nat} {r:Rec (T×A)} {xs:List AV} (hg:aggT P t=some true) (hz:szT P t=some (fk (T×A))) (h:fi xs r.v) (hs:Hp s (.cells m xs::es)):∃v,ZEy P t (.ptr m 0) s=some v∧is v r:=by
 have hgt:=hs.get rfl;have hlen:xs.length=fk (T×A):=Flds.len h
 refine⟨.agg xs,?_,⟨xs,rfl,h⟩⟩
 simp[ZEy,hgt,ZEx,hg,hz,←hlen]
/-! ### Results, some of them in variables -/
inductive RVs (P:Program) (n:Nat) (φ:Fm) (s:St):List ResultVar→List AV→Prop where
 | nil:RVs P n φ s [] []
 | tmp {t:Tmp} {v:AV} {rs:List ResultVar} {vs:List AV} (h:ZAb n φ (.tmp t)=some v) (k:RVs P n φ s rs vs):RVs P n φ s (.tmp t::rs) (v::vs)
 | cell {a:Tmp} {t:TypeId} {m:Nat} {v:AV} {rs:List ResultVar} {vs:List AV} (h:ZAb n φ (.tmp a)=some (.ptr m 0)) (hv:ZEy P t (.ptr m 0) s=some v) (k:RVs P n φ s rs vs):RVs P n φ s (.cell a t::rs) (v::vs)
theorem RVs.eq {rs:List ResultVar} {vs:List AV} (h:RVs P n φ s rs vs):rs.mapM (ZEF P (frm n φ) s)=some vs:=by
 induction h with
 | nil=>rfl
 | tmp h k ih=>
  have e:=ZAM h;simp only[ZAp] at e;rw[List.mapM_cons,ih];simp only[ZEF,e];rfl
 | cell h hv k ih=>
  have e:=ZAM h;simp only[ZAp] at e;rw[List.mapM_cons,ih];simp only[ZEF,oi e,oC,hv];rfl
theorem KEc1 {T:Type} [Enc T] {fn:Func} {c0:Nat} {H:AV→St→Prop} {rs:Array ResultVar} {a:T} (hr:fn.results=rs) (hv:RVs P fn.ntmps φ s rs.toList [v]) (h:is v a) (k:H v s):Kend P fn c0 H φ s:=by
 refine KEn (r:=v) ?_ (ZPv h) k
 unfold ZBv;rw[hr,hv.eq];rfl
theorem KEc2 {A B:Type} [Enc A] [Enc B] {fn:Func} {c0:Nat} {H:AV→St→Prop} {rs:Array ResultVar} {v1 v2:AV} {a1:A} {a2:B} (hr:fn.results=rs) (hv:RVs P fn.ntmps φ s rs.toList [v1,v2]) (h1:is v1 a1) (h2:is v2 a2) (k:H (.tup [v1,v2]) s):Kend P fn c0 H φ s:=by
 refine KEn (r:= .tup [v1,v2]) ?_ ?_ k
 ·unfold ZBv;rw[hr,hv.eq];rfl
 simp only[ZAv,ZA9,ZB6,ZCR,Enc.strip h1,Enc.strip h2,Enc.pu,Bool.and_self]
end
end Go.Ai
end
section
open Go.Ai.Enc (enc is)
open Go.Ai.Flds (fe fi fk)
namespace Go.Ai
inductive Prim1 where
 | int (n:Int)
 | bool (b:Bool)
 | str (s:Str)
 | bytes (l:List UInt8)
def Prim1.enc:Prim1→AV
 | .int n=>Enc.enc n
 | .bool b=>Enc.enc b
 | .str s=>Enc.enc s
 | .bytes l=>Enc.enc l
def Prim1.is (x:AV):Prim1→Prop
 | .int n=>Enc.is x n
 | .bool b=>Enc.is x b
 | .str s=>Enc.is x s
 | .bytes l=>Enc.is x l
theorem Prim1.strip {x:AV}:∀{p:Prim1},Prim1.is x p→ZAv x=p.enc
 | .int _,h=>Enc.strip (T:=Int) h
 | .bool _,h=>Enc.strip (T:=Bool) h
 | .str _,h=>Enc.strip (T:=Str) h
 | .bytes _,h=>Enc.strip (T:=List UInt8) h
theorem Prim1.pu:∀p:Prim1,ZB6 p.enc=true
 | .int _=>Enc.pu _
 | .bool _=>Enc.pu _
 | .str _=>Enc.pu _
 | .bytes _=>Enc.pu _
theorem ZDD (l:List UInt8):(enc l:AV)= .emp false∨∃xs,(enc l:AV)= .vec 0 xs .unk:=by
 cases l with
 | nil=>exact .inl rfl
 | cons a l=>exact .inr ⟨_,rfl⟩
theorem Prim1.inj {p q:Prim1} (h:p.enc=q.enc):p=q:=by
 cases p<;> cases q<;> simp only[Prim1.enc] at h
 case int.int a b=>exact congrArg _ (Enc.inj h)
 case bool.bool a b=>exact congrArg _ (Enc.inj h)
 case str.str a b=>exact congrArg _ (Enc.inj h)
 case bytes.bytes a b=>exact congrArg _ (Enc.inj h)
 case bytes.int a b=>rcases ZDD a with e | ⟨xs,e⟩<;> rw[e] at h<;> cases h
 case bytes.bool a b=>rcases ZDD a with e | ⟨xs,e⟩<;> rw[e] at h<;> cases h
 case bytes.str a b=>rcases ZDD a with e | ⟨xs,e⟩<;> rw[e] at h<;> cases h
 case int.bytes a b=>rcases ZDD b with e | ⟨xs,e⟩<;> rw[e] at h<;> cases h
 case bool.bytes a b=>rcases ZDD b with e | ⟨xs,e⟩<;> rw[e] at h<;> cases h
 case str.bytes a b=>rcases ZDD b with e | ⟨xs,e⟩<;> rw[e] at h<;> cases h
 all_goals cases h
inductive AnyV where
 | nil
 | mk (t:TypeId) (p:Prim1)
instance:Enc AnyV where
 enc i:=match i with
  | .nil=> .nifc
  | .mk t p=> .ifc t p.enc
 k:=0
 is x i:=match i with
  | .nil=>x= .nifc
  | .mk t p=>∃y,x= .ifc t y∧p.is y
 inj {a b} h:=by
  cases a with
  | nil=>cases b with
   | nil=>rfl
   | mk t' p' =>cases h
  | mk t p=>cases b with
   | nil=>cases h
   | mk t' p' =>
    injection h with h1 h2
    rw[h1,Prim1.inj h2]
 strip {x a} h:=by
  cases a with
  | nil=>simp only at h;subst h;rfl
  | mk t p=>
   obtain⟨y,rfl,h⟩:=h;simp only[ZAv,Prim1.strip h]
 self a:=by
  cases a with
  | nil=>rfl
  | mk t p=>exact⟨_,rfl,by cases p<;> exact Enc.self _⟩
 el {x a} h:=by
  cases a with
  | nil=>simp only at h;subst h;exact ZBS rfl rfl
  | mk t p=>obtain⟨y,rfl,h⟩:=h;exact ZBS rfl rfl
 pu a:=by
  cases a with
  | nil=>rfl
  | mk t p=>simp only[ZB6];exact Prim1.pu p
class AsP (T:Type) [Enc T] where
 to1:T→Prim1
 un:Prim1→Option T
 to:∀{x:AV} {a:T},is x a→(to1 a).is x
 from_:∀{x:AV} {p:Prim1} {a:T},un p=some a→p.is x→is x a
 um:∀a,un (to1 a)=some a
instance:AsP Int where
 to1 n:= .int n
 un p:=match p with | .int n=>some n | _=>none
 to h:=h
 from_ {x p a} h k:=by
  cases p<;> simp only at h<;> cases h
  exact k
 um _:=rfl
instance:AsP Bool where
 to1 n:= .bool n
 un p:=match p with | .bool n=>some n | _=>none
 to h:=h
 from_ {x p a} h k:=by
  cases p<;> simp only at h<;> cases h
  exact k
 um _:=rfl
instance:AsP Str where
 to1 n:= .str n
 un p:=match p with | .str n=>some n | _=>none
 to h:=h
 from_ {x p a} h k:=by
  cases p<;> simp only at h<;> cases h
  exact k
 um _:=rfl
instance:AsP (List UInt8) where
 to1 n:= .bytes n
 un p:=match p with | .bytes n=>some n | _=>none
 to h:=h
 from_ {x p a} h k:=by
  cases p<;> simp only at h<;> cases h
  exact k
 um _:=rfl
def asT {T:Type} [Enc T] [AsP T] (t:TypeId) (z:T):AnyV→Option (T×Bool)
 | .nil=>some (z,false)
 | .mk t' p=>if t' =t then(AsP.un p).map (·,true) else some (z,false)
def ZAs {T:Type} [Enc T] [AsP T] (t:TypeId) (a:T):AnyV:= .mk t (AsP.to1 a)
section
variable {P:Program} {prims:Prims} {n:Nat} {b:Bool} {K:Fm→St→Prop} {φ:Fm} {s:St} {ops:Array Oper} {l:List Oper} {d:Tmp} {x y:Operand} {t t' e ty:TypeId} {pos:String} {af:Array Edge} {u v:AV} {es:List En}
def ZIG (P:Program) (t:TypeId):Bool:=match P.underlying t with | some (.interface _)=>false | some _=>true | none=>false
theorem ZET {T:Type} [Enc T] [AsP T] {a:T} (hn:ZIG P t=true) (hx:ZAb n φ x=some u) (h:is u a) (k:∀v,is v (ZAs t a)→TO P prims n b ops l K (upd φ d v) s):TO P prims n b ops (⟨some d, .makeInterface t x,ty,pos,af,none⟩::l) K φ s:=by
 refine ZA2 rfl rfl (v:= .ifc t u) (s' :=s) (fun _=> ?_) (k _ ⟨u,rfl,AsP.to h⟩)
 unfold ZIG at hn
 cases hu:P.underlying t with
 | none=>rw[hu] at hn;cases hn
 | some q=>
  rw[hu] at hn;simp only[aOp,hu,ZAM hx,oC,Option.bind_some]
  cases q<;> first | rfl | cases hn
theorem ZRG {T:Type} [Enc T] [AsP T] {i:AnyV} {z:T} {r:T×Bool} {xt:TypeId} (hn:ZIG P t=true) (hz:∃w,ZBM P t=some w∧is w z) (hx:ZAb n φ x=some u) (h:is u i) (hr:asT t z i=some r)
  (k:∀v,is v r.1→TO P prims n b ops l K (upd φ d (.tup [v, .bool r.2])) s):TO P prims n b ops (⟨some d, .typeAssert x xt t true,ty,pos,af,none⟩::l) K φ s:=by
 obtain⟨w,hw,hwz⟩:=hz;have key:∃v,is v r.1∧ZGr P u t true=some (.tup [v, .bool r.2]):=by
  unfold ZIG at hn
  cases hu:P.underlying t with
  | none=>rw[hu] at hn;cases hn
  | some q=>
   rw[hu] at hn;have hq:∀ms,q≠ .interface ms:=fun ms e=>by subst e;cases hn
   cases i with
   | nil=>
    have h:u= .nifc:=h
    subst h;injection hr with hr
    subst hr;refine⟨w,hwz,?_⟩
    unfold ZGr;rw[hu]
    cases q<;> first | exact absurd rfl (hq _) | simp[hw]
   | mk t' p=>
    obtain⟨y,rfl,h⟩:=h;have hr:(if t' =t then(AsP.un p).map (·,true) else some (z,false))=some r:=hr
    by_cases e:t' =t
    ·rw[if_pos e] at hr;obtain⟨a,ha,rfl⟩:=Option.map_eq_some_iff.1 hr;refine⟨y,AsP.from_ ha h,?_⟩
     unfold ZGr;rw[hu]
     cases q<;> first | exact absurd rfl (hq _) | simp[e]
    rw[if_neg e] at hr;injection hr with hr
    subst hr;refine⟨w,hwz,?_⟩
    unfold ZGr;rw[hu]
    cases q<;> first | exact absurd rfl (hq _) | simp[e,hw]
 obtain⟨v,hv,ha⟩:=key;refine ZA2 rfl rfl (v:= .tup [v, .bool r.2]) (s' :=s) (fun _=> ?_) (k v hv)
 simp only[aOp,ZAM hx,oC,Option.bind_some,ha]
end
/-! ### Function values -/
structure Clo (g:FuncId) (A:Type) where
 cap:A
instance {g:FuncId} {A:Type} [Flds A]:Enc (Clo g A) where
 enc c:= .fn g [] (fe c.cap)
 k:=0
 is x c:=∃ys,x= .fn g [] ys∧fi ys c.cap
 inj {a b} h:=by
  injection h with _ _ h
  have:=Flds.inj h
  cases a;cases b;simp_all
 strip {x a} h:=by
  obtain⟨ys,rfl,h⟩:=h;simp only[ZAv,ZA9,Flds.strip h]
 self a:=⟨_,rfl,Flds.self _⟩
 el {x a} h:=by obtain⟨ys,rfl,h⟩:=h;exact ZBS rfl rfl
 pu a:=by simp only[ZB6,ZCR,Flds.pu,Bool.and_self]
end Go.Ai
end
