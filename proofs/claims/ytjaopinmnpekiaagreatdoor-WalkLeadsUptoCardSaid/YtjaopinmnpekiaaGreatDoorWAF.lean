/- My own texts DevPn0, DevPgA, DevTg18, DevTg19, DevTg20, one behind the other. -/
import Derived.Test.YtjaopinmnpekiaaGreatDoorWAE
set_option linter.unusedVariables false
set_option linter.unusedSimpArgs false
section
namespace Go.Ai.Rab
open Go.Proofs
def pz0:Prims:=fun _=>none
theorem ZOx:ZAX Tryz.prog pz0:=fun g F h=>by simp[pz0] at h
end Go.Ai.Rab
end
section
set_option maxRecDepth 100000
set_option maxHeartbeats 16000000
attribute [local irreducible] Go.Ai.TC Go.Ai.TO Go.Ai.MF Go.Ai.ZCS Go.Ai.ZBg Go.Ai.encR
open Go.Ai.Enc (enc is)
open Go.Ai.Res (res ris)
open Go.Ai.Args (args)
open Go.Ai.Flds (fe fi fk)
namespace Go.Ai
abbrev ZAi:Type:=(Rec (Str×(List UInt8)×Unit))
abbrev ZAO:Type:=(Rec (Int×Int×Int×Int×(List UInt8)×Str×(List Str)×(List Int)×(List ZAi)×Unit))
abbrev FsR:Type:=(Rec ((List ZAO)×Int×Unit))
end Go.Ai
namespace Go.Ai.TTryz
open Go.Proofs
theorem ZAz:flB Tryz.prog 24 0=true:=by kernel_rfl
theorem ZMQ:flB Tryz.prog 47 4=true:=by kernel_rfl
end Go.Ai.TTryz
namespace Go.Ai.Rab
open Go.Proofs TTryz Tryz
noncomputable def ZEY (f:FsR):(Int×Int)→Option ((Int×Int) ⊕ Int)
 | (n,i)=>((if(decide (i<(f.v.1.length:Int))) then some (decide (n≤50000)) else some false).bind fun b=>(if b then((nth f.v.1 i).bind fun v=>some (.inl ((IntKind.i64.wrap (n+(v.v.2.2.2.2.1.length:Int))),(IntKind.i64.wrap (i+1))))) else some (.inr n)))
noncomputable def ZIH:Int→Option (Bool)
 | n1=>some ((decide (n1≤50000)))
noncomputable def ZDX (f:FsR):Option (Bool):=
 (if(decide ((f.v.1.length:Int) > 60)) then some (false) else((loop (ZEY f) (0,0)).bind (ZIH)))
theorem ZMR (f:FsR) (r:Bool) (h:ZDX f=some r):MF Tryz.prog pz0 8 [enc f] s0 fun v _=>ris v r:=by
 refine ZAh [(0,enc f)] func8 rfl (by simp only[Tryz.f8];rfl) fun ψ=> ?_
 unfold ZDX at h;refine ZAB<|ZAC<|ZA5 (r:=f) rfl (Enc.self f) Hp.nil fun m xs s hxs hs=>ZAG (v:=enc false) rfl<|ZAA<|ZAB<|ZAB<|ZAC<|ZAV ZAz rfl<|ZAK ag22 Sz rfl hxs hs fun y hy=>ZAo underlying22 rfl rfl hy<|ZAJ (v:=enc (decide ((f.v.1.length:Int) > 60))) rfl rfl rfl<|ZAA ?_
 split at h
 ·rename_i c';refine ZAH rfl c'<|ZAB<|ZAC<|ZAG (v:=enc false) rfl<|ZAA<|ZAN ?_
  rw[←oi h];exact⟨rfl,KE1 (a:=(false:Bool)) rfl rfl (rfl:is _ (false:Bool)) (rfl:is _ (false:Bool))⟩
 rename_i c';refine ZAI rfl c'<|ZAL<|ZAB<|ZAC<|ZAG (v:=enc (0:Int)) rfl<|ZAA<|ZAB<|ZAB<|ZAC<|ZAG (v:=enc (0:Int)) rfl<|ZAA<|ZAQ ?_
 obtain⟨n1,hl,h⟩:=bs h;refine ZAk (fun(p:(Int×Int)) φ s=>match p with | (n,i)=>Fx φ [(1,(.ptr m 0)),(3,(enc n)),(4,(enc i))]∧Hp s [(.cells m xs)]) (fun(o:Int) e φ s=>match o with | n1=>e= .exit 0∧Fx φ [(3,(enc n1))]) ?_ hl ⟨FxR rfl,hs⟩ ?_
 ·rintro⟨n,i⟩ o h φ s ⟨hF,hs⟩;rw[←hF.eq];rw[ZEY] at h;refine ZAB<|ZAB<|ZAC<|ZAE rfl<|ZAV ZAz rfl<|ZAK ag22 Sz rfl hxs hs fun y1 hy1=>ZAo underlying22 rfl rfl hy1<|ZAJ (v:=enc (decide (i<(f.v.1.length:Int)))) rfl rfl rfl<|ZAE rfl ?_
  obtain⟨b,hb_b,h⟩:=bs h;refine ZAS 3 (fun φ s=>Hp s [(.cells m xs)]∧Fx φ [(1,(.ptr m 0)),(3,(enc n)),(4,(enc i)),(17,(enc b))]) ?_ ?_
  ·split at hb_b
   ·rename_i cg;refine ZAF rfl rfl cg<|ZAE rfl<|ZAF rfl rfl cg<|ZAJ (v:=enc (decide (n≤50000))) rfl rfl rfl<|ZAa rfl cg rfl<|ZAA ?_
    rw[←oi hb_b];exact⟨hs,FxR rfl⟩
   rename_i cg1;refine ZAD rfl rfl cg1<|ZAD rfl rfl cg1<|ZAZ (v:=enc false) rfl cg1 rfl<|ZAA ?_
   rw[←oi hb_b];exact⟨hs,FxR rfl⟩
  rintro φ s ⟨hs,hF⟩;rw[←hF.eq];refine ZAA ?_
  split at h
  ·rename_i c';refine ZAH rfl c'<|ZAL<|ZAB<|ZAQ<|ZAC<|ZAE rfl<|ZAV ZAz rfl<|ZAK ag22 Sz rfl hxs hs fun y2 hy2=>ZAE rfl ?_
   obtain⟨v,hx,h⟩:=bs h;refine ZAu underlying22 sh47 rfl rfl hy2 hx fun p hp=>ZCT ZMQ (Ss (Ss (Ss (Ss Sz)))) rfl hp fun p1 hp1=>ZBQ ag42 rfl hp1 fun y3 hy3=>ZAo underlying42 rfl rfl hy3<|ZAJ (v:=enc (IntKind.i64.wrap (n+(v.v.2.2.2.2.1.length:Int)))) rfl rfl rfl<|ZAG rfl<|ZAA<|ZAC<|ZAE rfl<|ZAJ (v:=enc (IntKind.i64.wrap (i+1))) rfl rfl rfl<|ZAG rfl<|ZAA ?_
   rw[←oi h];exact⟨_,rfl,⟨FxR rfl,hs⟩⟩
  rename_i c';refine ZAI rfl c'<|ZAf ?_
  rw[←oi h];exact⟨_,rfl,rfl,FxR rfl⟩
 intro e φ s hE;obtain⟨rfl,hF⟩:=hE;rw[←hF.eq];rw[ZIH] at h;show if _ then _ else _
 rw[if_pos rfl];refine ZAB<|ZAC<|ZAE rfl<|ZAJ (v:=enc (decide (n1≤50000))) rfl rfl rfl<|ZAG rfl<|ZAA<|ZAN ?_
 rw[←oi h];exact⟨rfl,KE1 (a:=((decide (n1≤50000)):Bool)) rfl rfl (rfl:is _ ((decide (n1≤50000)):Bool)) (rfl:is _ ((decide (n1≤50000)):Bool))⟩
theorem ZMS:ZAq Tryz.prog 8 (fun _=>Fn (fun a:FsR×Unit=>ZDX a.1)):=fnC ZOx ⟨_,func8,rfl⟩<|fun a r h=>ZMR a.1 r h
noncomputable def pz1:Prims:=pz0.add 8 (Fn (fun a:FsR×Unit=>ZDX a.1))
theorem ZTr:ZAX Tryz.prog pz1:=ZAn ZOx ZMS
end Go.Ai.Rab
end
section
open Go.Ai.Enc (enc is)
open Go.Ai.Res (res ris)
open Go.Ai.Args (args)
open Go.Ai.Flds (fe fi fk)
namespace Go.Ai
section
variable {P:Program} {prims:Prims} {n:Nat} {b:Bool} {K:Fm→St→Prop} {φ:Fm} {s:St} {ops:Array Oper} {l:List Oper} {d:Tmp} {x y:Operand} {t t' e ty:TypeId} {pos:String} {af:Array Edge} {u v:AV} {es:List En}
theorem ZVB {base:Nat} {ρ:Pl} {X:Reg} {wd:World} {k m:Nat} {cs:List AV} {w:AV} {v' :Value} (h:Sim base ρ X s wd) (hg:hget s.h m=some (.cells cs)) (hc:ZC2 k cs 1=[w]) (hl:esz k≤cs.length) (hr:Rel wd ρ (UX ρ s.h X) s.c (.ptr m 0) v'):
  Rel wd ρ (UX ρ (s.del m).h X) (s.del m).c (.rptr k [w] 0 0) v' :=by
 simp only[Rel] at hr;obtain⟨h1,rfl⟩:=hr;have he:elems (.hs k m 0 1 1) s=some (k,[w]):=by
  simp only[elems,hg,List.drop_zero,hc];rw[if_pos (by omega)]
 have hf:ZDj 0 s (.hs k m 0 1 1)=some (.vec k [w] .tight):=by
  simp only[ZDj,Nat.not_lt_zero,if_false,Nat.lt_irrefl,he,Option.map_some,if_true]
 have hr2:Rel wd ρ (UX ρ s.h X) s.c (.hs k m 0 1 1) (.slice (some ⟨(ρ m).1,0,none⟩) 1 1):=by
  simp only[Rel];exact⟨h1,trivial⟩
 have hz:=ZFN (s' :=s.del m) h hr2 hf rfl (fun q o hk=>by
  have:=ZBk hk
  exact⟨by simpa[ZA8] using this.1,this.2⟩)
 simp only[Rel] at hz ⊢;obtain⟨a,cap,us,e0,_,g1,g2,_⟩:=hz;injection e0 with e0
 injection e0 with e0
 subst e0;refine⟨by simp,?_,_,?_,us,g1,g2⟩
 ·unfold esz;split<;> omega
 simp[Addr.add]
theorem ZRH {k m:Nat} {cs:List AV} {w:AV} {es:List En} {q:Nat} (hq:φ q= .ptr m 0) (hc:ZC2 k cs 1=[w]) (hl:esz k≤cs.length) (hs:Hp s (.cells m cs::es)) (kk:∀s',Hp s' es→TO P prims n false ops l K (upd φ q (.rptr k [w] 0 0)) s'):TO P prims n false ops l K φ s:=by
 intro hp base ρ X wd ac R A hb hsim hrl hd hA;have hg:hget s.h m=some (.cells cs):=hs.get rfl
 have hk:=kk _ (hs.del rfl) hp base ρ X wd ac R A hb (hsim.del m);have hU:∀b j,UX ρ (s.del m).h X b j→UX ρ s.h X b j:=fun b j hj=>hj.imp Umap.del id
 have hm:Mono wd ρ (UX ρ s.h X) s.c wd ρ (UX ρ (s.del m).h X) (s.del m).c:=⟨Nat.le_refl _,fun _ _=>rfl,fun a u hu _=>hu,fun a ha=>ha,fun b j _ hj=>hU b j hj⟩
 have hrl' :RelL wd ρ (UX ρ (s.del m).h X) (s.del m).c (frm n (upd φ q (.rptr k [w] 0 0))) ac.tmps.toList:=by
  rw[←ZNe];have hr2:=RelL.mono hm _ _ hrl;by_cases hqn:q<n
  ·have hz:Rel wd ρ (UX ρ (s.del m).h X) (s.del m).c (.rptr k [w] 0 0) (ac.tmps.toList.getD q undef):=by
    have:=hrl.getD q
    rw[ZKq hqn,hq] at this;exact ZVB hsim hg hc hl this
   have:=hr2.set q hz
   rwa [ZOt] at this
  rw[List.set_eq_of_length_le (by simp[frm];omega)]
  exact hr2
 refine hk hrl' hd fun φ' s' a' w' hK hpf=>hA φ' s' a' w' hK ?_
 obtain⟨ρ',g1,g2,g3,g4,g5,g6,g7⟩:=hpf;exact⟨ρ',g1,g2,g3,g4,g5.weaken (fun b j hj=>hj.del),fun b j hb hj=>(g6 b j hb hj).del,g7⟩
end
/-! ### The place of a variable that holds a value for good -/
structure PtrC (T:Type) where
 v:T
instance {T:Type} [Enc T]:Enc (PtrC T) where
 enc p:= .rptr (Enc.k T) [enc p.v] 0 0
 k:=0
 is x p:=∃y,x= .rptr (Enc.k T) [y] 0 0∧is y p.v
 inj {a b} h:=by
  injection h with _ h
  injection h with h
  have:=Enc.inj h
  cases a;cases b;simp_all
 strip {x a} h:=by
  obtain⟨y,rfl,h⟩:=h;simp only[ZAv,ZA9,Enc.strip h]
 self a:=⟨_,rfl,Enc.self _⟩
 el {x a} h:=by obtain⟨y,rfl,h⟩:=h;exact ZBS rfl rfl
 pu a:=by simp only[ZB6,ZCR,Enc.pu,Bool.and_self]
theorem PtrC.ep {T:Type} [Enc T] {u:AV} {p:PtrC T} (h:is u p):EPtr u p.v:=by
 obtain⟨y,rfl,h⟩:=h;exact⟨[y],0,y,rfl,rfl,h⟩
instance {T:Type} [Enc T]:Enc0 (PtrC T):=⟨rfl⟩
section
variable {P:Program} {prims:Prims} {n:Nat} {b:Bool} {K:Fm→St→Prop} {φ:Fm} {s:St} {ops:Array Oper} {l:List Oper} {d:Tmp} {x y:Operand} {t t' e ty:TypeId} {pos:String} {af:Array Edge} {u v:AV} {es:List En}
variable {T:Type} [Enc T] [Enc0 T]
theorem ZTs {a:T} (hx:ZAb n φ x=some u) (h:is u a) (hs:Hp s es)
  (k:∀m s',Hp s' (.cells m [u]::es)→TO P prims n b ops l K (upd φ d (.ptr m 0)) s'):TO P prims n b ops (⟨some d, .box t x,ty,pos,af,none⟩::l) K φ s:=by
 refine ZA2 rfl rfl (v:= .ptr s.c 0) (s' :=s.new (.cells [u])) (fun _=> ?_) (k s.c _ (hs.new _ _ rfl))
 have h1:=ZJM h;simp only[aOp,ZAM hx,ZC6,ZEK h1,oC,Option.bind_some];exact if_pos (by simp[h1])
theorem ZVC {m:Nat} {w:AV} {q:Nat} {a:T} (hq:φ q= .ptr m 0) (h:is w a) (hs:Hp s (.cells m [w]::es)) (kk:∀z s',is z (PtrC.mk a)→Hp s' es→TO P prims n false ops l K (upd φ q z) s'):TO P prims n false ops l K φ s:=
 ZRH (k:=0) (w:=w) hq rfl (Nat.le_refl _) hs fun s' hs' =>kk _ s' ⟨w,by rw[Enc0.k0 (T:=T)],h⟩ hs'
theorem ZNi {T A:Type} [Enc T] [Enc0 T] [Flds A] {m:Nat} {xs:List AV} {q:Nat} {r:Rec (T×A)} (hq:φ q= .ptr m 0) (h:fi xs r.v) (hs:Hp s (.cells m xs::es)) (kk:∀z s',is z (PtrC.mk r)→Hp s' es→TO P prims n false ops l K (upd φ q z) s'):TO P prims n false ops l K φ s:=by
 have hl:xs.length=fk (T×A):=Flds.len h
 refine ZRH (k:=fk (T×A)) (w:= .agg xs) hq ?_ ?_ hs fun s' hs' =>kk _ s' ⟨.agg xs,rfl,xs,rfl,h⟩ hs'
 ·have h0:¬fk (T×A)=0:=fun e=>by cases e
  rw[←hl] at h0 ⊢;simp only[ZC2,if_neg h0,List.take_length]
 have h0:¬fk (T×A)=0:=fun e=>by cases e
 simp only[esz,if_neg h0];omega
theorem ZWG {a:PtrC T} (hg:aggT P t=some false) (hx:ZAb n φ x=some u) (h:is u a) (k:∀v,is v a.v→TO P prims n b ops l K (upd φ d v) s):TO P prims n b ops (⟨some d, .load t x,ty,pos,af,none⟩::l) K φ s:=by
 obtain⟨y,rfl,h⟩:=h;refine ZA2 rfl rfl (fun _=>ZFO (ZAM hx) (v:=y) ?_) (k _ h)
 simp[ZEy,ZEx,hg,ZEK (ZJM h)]
end
/-! ### Function values -/
class FA (A:Type) [Flds A] [Args A]:Prop where
 vs:∀{ys:List AV} {c:A},fi ys c→Vs ys (args c)
instance:FA Unit:=⟨fun h=>by subst h;exact .nil⟩
instance {T A:Type} [Enc T] [Enc0 T] [Flds A] [Args A] [FA A]:FA (T×A):=⟨fun h=>by
 obtain⟨y,ys,rfl,h1,h2⟩:=h;exact .cons h1 (FA.vs h2)⟩
section
variable {P:Program} {prims:Prims} {n:Nat} {b:Bool} {K:Fm→St→Prop} {φ:Fm} {s:St} {ops:Array Oper} {l:List Oper} {d:Tmp} {x y:Operand} {t t' e ty:TypeId} {pos:String} {af:Array Edge} {u v:AV} {es:List En}
theorem ZTt {g:FuncId} {C:Type} [Flds C] {c:C} {cap:Array Operand} {ys:List AV} (hc:ZF1 n φ cap.toList=some ys) (h:fi ys c) (k:∀v,is v (Clo.mk c:Clo g C)→TO P prims n b ops l K (upd φ d v) s):TO P prims n b ops (⟨some d, .makeFunc (.func g) #[] cap,ty,pos,af,none⟩::l) K φ s:=by
 refine ZA2 rfl rfl (v:= .fn g [] ys) (s' :=s) (fun _=> ?_) (k _ ⟨ys,rfl,h⟩)
 have e1:ZBq (frm n φ) (#[]:Array Operand).toList=some []:=rfl
 simp only[aOp,ZDW hc,e1,oC,Option.bind_some]
theorem ZS2 {g:FuncId} {fn:Func} {os:Array Operand} {ts:Array TypeId} {F:Glob→List AV→Option AV} {vs ys:List AV} {r:AV} (hp:prims g=some F) (hf:P.funcs[g]? =some fn) (hn:ZCn fn=true)
  (hx:ZAb n φ x=some (.fn g [] ys)) (ha:ZF1 n φ os.toList=some vs) (hc:ZBc F (vs++ys) s=some (r,s)) (k:TO P prims n false ops l K (upd φ d r) s):TO P prims n false ops (⟨some d, .call ⟨.value x,os,ts⟩,ty,pos,af,none⟩::l) K φ s:=by
 refine ZG2 rfl fun hpr base ρ X w a A B hb hs hr hdf hA=>⟨fun e=>(by cases e),?_⟩
 have hrx:=ZAW hr (ZAM hx);simp only[Rel,RelL] at hrx;obtain⟨us,cs,e,rfl,hcs⟩:=hrx;have hall:RelL w ρ (UX ρ s.h X) s.c (vs++ys) (os.toList.map a.eval++cs):=RelL.append (ZB2 hr (ZDW ha)) hcs
 have hcl:=ZJC (base:=base) (hpr g F hp) hs hall hc;unfold Oper.wp;have hrun:(execOp a.eval (⟨some d, .call ⟨.value x,os,ts⟩,ty,pos,af,none⟩:Oper)).run P w= .ok (.enter g (os.toList.map a.eval++cs).toArray) w:=by
  simp only[execOp,resolve,e,Deferred.ofValue,pure_bind,invoke];rw[ZDU hf hn];congr 2
  apply Array.ext'
  simp
 rw[hrun];refine hcl.mono fun e' w' he=> ?_
 obtain⟨v',rfl,h1,h2⟩:=he;exact hA r s v' w' k h1 fun _=>h2
theorem Vs.append {xs ys us vs:List AV} (h:Vs xs us) (k:Vs ys vs):Vs (xs++ys) (us++vs):=by
 induction h with
 | nil=>exact k
 | cons h _ ih=>exact .cons h ih
theorem ZTu {g:FuncId} {fn:Func} {os:Array Operand} {ts:Array TypeId} {A C R:Type} [Args A] [Res R] [Flds C] [Args C] [FA C] {c:Clo g C} {f:A→Option R} {a:A} {r:R} {vs:List AV} (hp:prims g=some fun _=>Fn f) (hf:P.funcs[g]? =some fn) (hn:ZCn fn=true)
  (hx:ZAb n φ x=some u) (hu:is u c) (ha:ZF1 n φ os.toList=some vs) (hv:∀ys,Vs ys (args c.cap)→Vs (vs++ys) (args a)) (hr:f a=some r) (k:TO P prims n false ops l K (upd φ d (res r)) s):TO P prims n false ops (⟨some d, .call ⟨.value x,os,ts⟩,ty,pos,af,none⟩::l) K φ s:=by
 obtain⟨ys,rfl,hy⟩:=hu;exact ZS2 hp hf hn hx ha (ZJF (hv ys (FA.vs hy)) hr) k
end
end Go.Ai
end
section
open Go.Ai.Enc (enc is)
open Go.Ai.Flds (fe fi fk)
namespace Go.Ai
structure Err (t:TypeId) where
 c:Option Int
def Err.av (t:TypeId):Option Int→AV
 | none=> .nifc
 | some n=> .ifc t (.rptr 1 [.agg [.int .i64 n]] 0 0)
instance {t:TypeId}:Enc (Err t) where
 enc e:=Err.av t e.c
 k:=0
 is x e:=x=Err.av t e.c
 inj {a b} h:=by
  obtain⟨a⟩:=a;obtain⟨b⟩:=b
  cases a with
  | none=>cases b with
   | none=>rfl
   | some b=>cases h
  | some a=>cases b with
   | none=>cases h
   | some b=>injection h with _ h;injection h with _ h;injection h with h _;injection h with h;injection h with h _;injection h with _ h;rw[h]
 strip {x a} h:=by
  subst h;obtain⟨a⟩:=a
  cases a<;> rfl
 self _:=rfl
 el {x a} h:=by
  subst h;obtain⟨a⟩:=a
  cases a<;> exact ZBS rfl rfl
 pu a:=by
  obtain⟨a⟩:=a
  cases a<;> rfl
section
variable {P:Program} {prims:Prims} {n:Nat} {b:Bool} {K:Fm→St→Prop} {φ:Fm} {s:St} {ops:Array Oper} {l:List Oper} {d:Tmp} {x y:Operand} {t t' e ty:TypeId} {pos:String} {af:Array Edge} {u v:AV} {es:List En}
theorem ZWH {r:Rec (Int×Unit)} (hn:ZIG P t=true) (hx:ZAb n φ x=some u) (h:is u (PtrC.mk r)) (k:TO P prims n b ops l K (upd φ d (enc (Err.mk (some r.v.1):Err t))) s):TO P prims n b ops (⟨some d, .makeInterface t x,ty,pos,af,none⟩::l) K φ s:=by
 obtain⟨y,rfl,ys,rfl,z,zs,rfl,h1,h2⟩:=h;have h1:z= .int .i64 r.v.1:=h1
 have h2:zs=[]:=h2
 subst h1;subst h2;refine ZA2 rfl rfl (v:=enc (Err.mk (some r.v.1):Err t)) (s' :=s) (fun _=> ?_) k
 unfold ZIG at hn
 cases hu:P.underlying t with
 | none=>rw[hu] at hn;cases hn
 | some q=>
  rw[hu] at hn;simp only[aOp,hu,ZAM hx,oC,Option.bind_some]
  cases q<;> first | rfl | cases hn
theorem ZTv {ms:Array (String×TypeId)} {r:Err t} {t0:TypeId} (hu:P.underlying t0=some (.interface ms)) (hx:ZAb n φ x=some u) (h:is u r) (k:TO P prims n b ops l K (upd φ d (enc r.c.isSome)) s):TO P prims n b ops (⟨some d, .binOp .neq t0 x (.const .nilIface) t',ty,pos,af,none⟩::l) K φ s:=by
 have h:u=Err.av t r.c:=h
 subst h;refine ZAJ (v:=enc r.c.isSome) hx (w:= .nifc) rfl ?_ k
 cases hc:r.c with
 | none=>simp[Err.av,ZC4,ZHH,hu,ZIl,isC,ZNP];rfl
 | some c=>simp[Err.av,ZC4,ZHH,hu,ZIl,isC,ZNP];rfl
def shrU (a:UInt64) (i:Int):Option UInt64:=if 0≤i then some (UInt64.ofInt ((a.toNat:Int).fdiv (2 ^ (min i.toNat 64)))) else none
theorem ZVD {a r:UInt64} {i:Int} {kk:IntKind} {t0:TypeId} (hx:ZAb n φ x=some (enc a)) (hy:ZAb n φ y=some (.int kk i)) (hr:shrU a i=some r) (k:TO P prims n b ops l K (upd φ d (enc r)) s):TO P prims n b ops (⟨some d, .binOp .shr t0 x y t',ty,pos,af,none⟩::l) K φ s:=by
 unfold shrU at hr;split at hr
 ·rename_i h0;injection hr with hr
  subst hr;refine ZF2 (z:=(a.toNat:Int).fdiv (2 ^ (min i.toNat 64))) hx hy ?_ (ZJL _ (by have:=a.toNat_lt;omega)) k
  show ZIk .shr .u64 _ i=_
  unfold ZIk;rw[if_neg (by omega)]
  rfl
 cases hr
theorem ZVE {src dst:TypeId} {tx:Str} {r:List UInt8} (h1:P.underlying src=some .string) (h2:P.underlying dst=some (.slice e)) (h3:P.underlying e=some (.int .u8)) (hx:ZAb n φ x=some (.str tx)) (hr:app 1 ([]:List UInt8) tx=some r) (hs:Hp s es)
  (k:∀z s',is z r→ZBd z=true→Hp s' (.own z::es)→TO P prims n b ops l K (upd φ d z) s'):TO P prims n b ops (⟨some d, .convert src dst x,ty,pos,af,none⟩::l) K φ s:=by
 obtain⟨hro,rfl⟩:=ZKs hr;have hro:ZES (List.length (show List UInt8 from r)) 1=true:=by simpa using hro
 refine ZA2 rfl rfl (v:= .vec 0 ((show List UInt8 from r).map fun b=> .int .u8 b.toNat) (.tok s.c)) (s' :=s.new .tok) (fun _=> ?_) (k _ _ (.inr ⟨_,_,rfl,isR.self (T:=UInt8) r⟩) rfl (hs.new .tok _ rfl))
 simp only[aOp,ZAM hx,oC,Option.bind_some,ZFL,h1,h2,h3];exact if_pos hro
end
end Go.Ai
end
section
open Go.Ai.Enc (enc is)
open Go.Ai.Res (res ris)
open Go.Ai.Args (args)
namespace Go.Ai
theorem Hp.packG {s:St} (a es:List En) (h:Hp s (a++es)):Hp s (a++[.grp (ZBA es), .gl s.g]):=by
 have e:ZBA (a++[.grp (ZBA es), .gl s.g])=ZBA (a++es):=by simp[ZBA,En.ents]
 refine⟨by rw[e];exact h.1,by rw[e];exact h.2.1,fun x hx=> ?_⟩
 rcases List.mem_append.1 hx with hx | hx
 ·exact h.2.2 x (List.mem_append_left _ hx)
 simp only[List.mem_cons,List.not_mem_nil,or_false] at hx;rcases hx with rfl | rfl
 ·trivial
 exact rfl
theorem Hp.unpackG {s s' :St} (a a' es:List En) (h:Hp s (a++es)) (h' :Hp s' (a' ++[.grp (ZBA es), .gl s.g])):Hp s' (a' ++es):=by
 have e:ZBA (a' ++[.grp (ZBA es), .gl s.g])=ZBA (a' ++es):=by simp[ZBA,En.ents]
 refine⟨by rw[←e];exact h'.1,by rw[←e];exact h'.2.1,fun x hx=> ?_⟩
 rcases List.mem_append.1 hx with hx | hx
 ·exact h'.2.2 x (List.mem_append_left _ hx)
 have hg:s'.g=s.g:=h'.2.2 (.gl s.g) (List.mem_append_right _ (by simp))
 exact En.gok_eq hg x (h.2.2 x (List.mem_append_right _ hx))
theorem MF.any {P:Program} {p q:Prims} {f:FuncId} {vs:List AV} {s:St} {H:AV→St→Prop} (h:MF P p f vs s H) (hp:ZAX P p):MF P q f vs s H:=
 fun _=>h hp
section
variable {P:Program} {prims:Prims} {n:Nat} {K:Fm→St→Prop} {φ:Fm} {s:St} {v:AV}
theorem KN1 {fn:Func} {H:AV→St→Prop} {t1:Nat} (hr:fn.results= #[.tmp t1]) (hv:ZAb fn.ntmps φ (.tmp t1)=some v) (k:H v s):ZPx P fn H φ s:=by
 have h1:=ZAM hv;simp only[ZAp] at h1;exact⟨v,by simp only[ZBv,hr,ZEF,h1,List.mapM_cons,List.mapM_nil,Option.pure_def,oC,Option.bind_some],k⟩
end
end Go.Ai
end
