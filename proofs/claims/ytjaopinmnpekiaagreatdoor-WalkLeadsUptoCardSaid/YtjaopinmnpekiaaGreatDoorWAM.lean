/- My own texts DevWer, DevWe2, DevWs5, DevPgK, DevWid, DevTg32, one behind the other. -/
import Derived.Test.YtjaopinmnpekiaaGreatDoorChecked
import Derived.WalkKit
import Derived.LaidEql
import Derived.Lib.IfaceEq
import Derived.Stop.Asserts
import Derived.RowKitTokens
import Derived.Test.YtjaopinmnpekiaaGreatDoorWAG
import Derived.Test.YtjaopinmnpekiaaGreatDoorWAL
import Derived.Test.YtjaopinmnpekiaaGreatDoorWAE
import Derived.Test.YtjaopinmnpekiaaGreatDoorWAH
set_option linter.unusedVariables false
set_option linter.unusedSimpArgs false
section
set_option maxRecDepth 100000
namespace Go.Proofs.Es
open Go.Proofs Go.RowKit Go.Extern.Stop Go.Stop Go.Extern
theorem Tryz.isTypeOf (v:Value) (w:World):(Extern.ReflectliteType.typeOf #[.iface 91 v]).run Tryz.prog w= .ok (.iface 133 (.agg #[.pointer (some ⟨4,91,none⟩)])) w:=by kernel_rfl
theorem Tryz.isComparable (w:World):((Extern.ReflectliteType.method fun t=>do Extern.Rtype.noPackHeld "Comparable" t;(fun a=>Value.bool a.comparable)<$> typeInfo t) #[.agg #[.pointer (some ⟨4,91,none⟩)]]).run Tryz.prog w= .ok (.bool true) w:=by kernel_rfl
theorem Tryz.isMethodComparable (v:Value) (w:World):(Go.method 347 133 v "Comparable").run Tryz.prog w= .ok (176,v) w:=by kernel_rfl
theorem Tryz.isComp:(Tryz.prog.info? 91).map (·.comparable)=some true:=by kernel_rfl
theorem Tryz.noIsE (v:Value) (xT:TypeId) (w:World):(Instr.typeAssert (.iface 91 v) xT 135 true).run Tryz.prog w= .ok (.tuple #[.nilIface, .bool false]) w:=run_typeAssert_lacksB Tryz.underlying135 (by kernel_rfl) (by kernel_rfl) v xT w
theorem Tryz.noUnwrapE (v:Value) (xT:TypeId) (w:World):(Instr.typeAssert (.iface 91 v) xT 138 true).run Tryz.prog w= .ok (.tuple #[.nilIface, .bool false]) w:=run_typeAssert_lacksB Tryz.underlying138 (by kernel_rfl) (by kernel_rfl) v xT w
theorem Tryz.noUnwrapsE (v:Value) (xT:TypeId) (w:World):(Instr.typeAssert (.iface 91 v) xT 140 true).run Tryz.prog w= .ok (.tuple #[.nilIface, .bool false]) w:=run_typeAssert_lacksB Tryz.underlying140 (by kernel_rfl) (by kernel_rfl) v xT w
theorem Tryz.noIsW (v:Value) (xT:TypeId) (w:World):(Instr.typeAssert (.iface 104 v) xT 135 true).run Tryz.prog w= .ok (.tuple #[.nilIface, .bool false]) w:=run_typeAssert_lacksB Tryz.underlying135 (by kernel_rfl) (by kernel_rfl) v xT w
theorem Tryz.hasUnwrapW (v:Value) (xT:TypeId) (w:World):(Instr.typeAssert (.iface 104 v) xT 138 true).run Tryz.prog w= .ok (.tuple #[.iface 104 v, .bool true]) w:=run_typeAssert_hasB Tryz.underlying138 (by kernel_rfl) v xT w
theorem Tryz.methodUnwrap (v:Value) (w:World):(Go.method 347 104 v "Unwrap").run Tryz.prog w= .ok (173,v) w:=by kernel_rfl
set_option maxHeartbeats 4000000 in
theorem is_nil (e:Int) (w:World):Calls Tryz.prog 52 #[.nilIface, .iface 91 (.int .i64 e)] w fun r w' =>r= .returned (.bool false)∧w' =w:=by
 have hnl:=run_eql_iface_nil_left (P:=Tryz.prog) (w:=w) 91 (.int .i64 e) Tryz.underlying60;go_enter Tryz.func52,Tryz.ntmps52
 go_wp2
 go_ret
 exact⟨rfl,rfl⟩
set_option maxHeartbeats 4000000 in
theorem is_at (pb po:Nat) (c e:Int) (w:World) (h1:w.cell? ⟨pb,po+1,none⟩=some (.int .i64 c)):
  Calls Tryz.prog 52 #[.iface 104 (.pointer (some ⟨pb,po,none⟩)), .iface 91 (.int .i64 e)] w fun r w' =>r= .returned (.bool (c==e))∧w' =w:=by
 have h8:= @run_callFunc_extern Tryz.prog 69 _ Extern.ReflectliteType.typeOf Tryz.func69 (by kernel_rfl) (by kernel_rfl) (by kernel_rfl) (by kernel_rfl)
 have h32:= @run_callFunc_extern Tryz.prog 176 _ (Extern.ReflectliteType.method fun t=>do Extern.Rtype.noPackHeld "Comparable" t;pure (.bool (←typeInfo t).comparable)) Tryz.func176 (by kernel_rfl) (by kernel_rfl) (by kernel_rfl) (by kernel_rfl)
 have tT:=Tryz.isTypeOf;have cT:=Tryz.isComparable;have mR:=Tryz.isMethodComparable;have nE:=Tryz.noIsE;have uE:=Tryz.noUnwrapE;have vE:=Tryz.noUnwrapsE;have nW:=Tryz.noIsW;have uW:=Tryz.hasUnwrapW;have mU:=Tryz.methodUnwrap;have hint:=Go.Lib.run_eql_iface_int (P:=Tryz.prog) w (k:= .i64) c e Tryz.underlying60 Tryz.isComp Tryz.underlying91;have hty:=run_eql_iface_types (P:=Tryz.prog) 104 91 (.pointer (some ⟨pb,po,none⟩)) (.int .i64 e) Tryz.underlying60 (by decide) w
 by_cases hce:c=e
 ·subst hce;have hb:(c==c)=true:=by simp
  rw[hb] at hint ⊢;go_enter Tryz.func52,Tryz.ntmps52
  go_wp2
  refine wp_loop_rounds 2 ?_
  rw[rounds_succ];go_wp2
  rw[rounds_succ];go_wp2
  go_ret
  exact⟨rfl,rfl⟩
 have hb:(c==e)=false:=by simp[hce]
 rw[hb] at hint ⊢;go_enter Tryz.func52,Tryz.ntmps52
 go_wp2
 refine wp_loop_rounds 2 ?_
 rw[rounds_succ];go_wp2
 rw[rounds_succ];go_wp2
 go_ret
 exact⟨rfl,rfl⟩
end Go.Proofs.Es
end
section
set_option maxRecDepth 100000
namespace Go.Ai.Rab
open Go.Proofs
open Go.Ai.Enc (enc is)
open Go.Ai.Args (args)
def hitN (ec:Option (Str×Int)) (n:Int):Bool:=match ec with | none=>false | some p=>p.2==n
def ZFA (e:ErrN 104):AnyV→Option Bool
 | .mk t (.int n)=>if t=91 then some (hitN e.c n) else none
 | _=>none
theorem ZMm:ZAq Tryz.prog 52 (fun _=>Fn (fun a:(ErrN 104)×AnyV×Unit=>ZFA a.1 a.2.1)):=by
 refine⟨⟨_,Tryz.func52,rfl⟩,fun G ar r hr w U vs hU hG hrel=> ?_⟩
 obtain⟨⟨⟨ec⟩,a,_⟩,r',rfl,h1,rfl⟩:=ZJE hr;obtain⟨n,rfl,h2⟩:∃n,a= .mk 91 (.int n)∧hitN ec n=r' :=by
  replace h1:ZFA ⟨ec⟩ a=some r' :=h1
  cases a with
  | nil=>cases h1
  | mk t p=>
   cases p with
   | int n=>
    replace h1:(if t=91 then some (hitN ec n) else none)=some r' :=h1
    by_cases ht:t=91
    ·rw[if_pos ht] at h1;exact⟨n,by rw[ht],Option.some.inj h1⟩
    rw[if_neg ht] at h1;cases h1
   | bool b=>cases h1
   | str s=>cases h1
   | bytes l=>cases h1
 subst h2;have hrel:RelL w ρ0 U 0 [ErrN.av 104 ec, .ifc 91 (.int .i64 n)] vs:=hrel
 simp only[RelL] at hrel;obtain⟨v,us,rfl,hv,v2,us2,rfl,hv2,rfl⟩:=hrel;simp only[Rel] at hv2;obtain⟨u2,rfl,hu2⟩:=hv2;subst hu2
 cases ec with
 | none=>
  simp only[ErrN.av,Rel] at hv;subst hv;refine(Es.is_nil n w).mono ?_
  rintro e w' ⟨rfl,rfl⟩;exact⟨_,rfl,rfl,ZH5⟩
 | some sc=>
  obtain⟨s,c⟩:=sc;simp only[ErrN.av,Rel] at hv;obtain⟨u,rfl,_,_,a,rfl,cs,hcs,hrow⟩:=hv;have hcs' :cs=[.string (ba s), .int .i64 c]:=by
   simp only[RelC] at hcs;obtain⟨q,qs,rfl,_,hq,rfl⟩:=hcs;simp only[Rel,RelL] at hq;obtain⟨ws,rfl,x,xs,rfl,hx,y,ys,rfl,rfl,rfl⟩:=hq;rw[ZFR hx];rfl
  subst hcs';have h0:=(hrow 0 _ rfl).1;have h1:=(hrow 1 _ rfl).1;have ha0:a.add (0*esz 2+0)=a:=by cases a;rfl
  rw[ha0];obtain⟨b,o,sp⟩:=a;have hsp:sp=none:=by
   simp only[Addr.add,if_true,World.cell?] at h0
   cases sp with
   | none=>rfl
   | some q=>split at h0<;> simp at h0
  subst hsp;refine(Es.is_at b o c n w h1).mono ?_
  rintro e w' ⟨rfl,rfl⟩;exact⟨_,rfl,rfl,ZH5⟩
end Go.Ai.Rab
end
section
open Go.Ai.Enc (enc is)
namespace Go.Ai.Rab
open Go.Proofs
noncomputable def pq0 (mx:Int):Prims:=(pn1 mx).add 52 (Fn (fun a:(ErrN 104)×AnyV×Unit=>ZFA a.1 a.2.1))
theorem ZUU (mx:Int):ZAX Tryz.prog (pq0 mx):=ZAn (ZWu mx) ZMm
end Go.Ai.Rab
end
section
set_option maxRecDepth 100000
set_option maxHeartbeats 16000000
attribute [local irreducible] Go.Ai.TC Go.Ai.TO Go.Ai.MF Go.Ai.ZCS Go.Ai.ZBg Go.Ai.encR
open Go.Ai.Enc (enc is)
open Go.Ai.Res (res ris)
open Go.Ai.Args (args)
open Go.Ai.Flds (fe fi fk)
namespace Go.Ai

end Go.Ai
namespace Go.Ai.TTryz
open Go.Proofs
theorem ef30:EF Tryz.prog 30 0 8:=ZML (by kernel_rfl)
end Go.Ai.TTryz
namespace Go.Ai.Rab
open Go.Proofs TTryz Tryz
noncomputable def ZDy (err:(ErrN 104)):Int→Option (Int ⊕ (Unit ⊕ Int))
 | v=>(if(decide (v<([2,206,208,201,203,209].length:Int))) then((nth [2,206,208,201,203,209] v).bind fun v2=>((ZFA err (ZAs 91 (v2:Int))).bind fun r_=>(if r_ then some (.inr (.inr v2)) else some (.inl (IntKind.i64.wrap (v+1)))))) else some (.inr (.inl ())))
noncomputable def ZFW:(Unit ⊕ Int)→Option (Int)
 | (.inl _)=>some (0)
 | (.inr v1)=>some (v1)
noncomputable def ZCi (err:(ErrN 104)):Option (Int):=
 ((loop (ZDy err) 0).bind (ZFW))
noncomputable def ZA1 (f:FsR) (path:Str) (follow:Bool):Option (ZAU×Int):=
 ((ZDf f path follow).bind fun r_=>((ZCi r_.2).bind fun r_1=>some (r_.1,r_1)))
noncomputable def ZHd (s_:(List Int)) (x:Int):Int→Option (Int ⊕ (Unit ⊕ Int))
 | v=>(if(decide (v<(s_.length:Int))) then((nth s_ v).bind fun v2=>(if(x==v2) then some (.inr (.inr v)) else some (.inl (IntKind.i64.wrap (v+1))))) else some (.inr (.inl ())))
noncomputable def ZHe:(Unit ⊕ Int)→Option (Int)
 | (.inl _)=>some ((-1))
 | (.inr v1)=>some (v1)
noncomputable def ZJd (s_:(List Int)) (x:Int):Option (Int):=
 ((loop (ZHd s_ x) 0).bind (ZHe))
theorem ZLE (mx:Int) (err:(ErrN 104)) (r:Int) (h:ZCi err=some r):MF Tryz.prog (pq0 mx) 29 [enc err] (sG (NG mx)) fun v _=>ris v r:=by
 refine ZAh [(0,enc err)] func29 rfl (by simp only[Tryz.f29];rfl) fun ψ=> ?_
 unfold ZCi at h;have hs:Hp (sG (NG mx)) [.gl (NG mx)]:=Hp.gl0
 refine ZAB<|ZAC<|ZAG (v:=enc (0:Int)) rfl<|ZAA<|ZAB<|ZAB<|ZAC<|ZDv [(enc (2:Int)),(enc (206:Int)),(enc (208:Int)),(enc (201:Int)),(enc (203:Int)),(enc (209:Int))] ([2,206,208,201,203,209]:(List Int)) underlying89 ef30 rfl rfl rfl (Nat.le_of_ble_eq_true rfl) ⟨(rfl:is _ (2:Int)),(rfl:is _ (206:Int)),(rfl:is _ (208:Int)),(rfl:is _ (201:Int)),(rfl:is _ (203:Int)),(rfl:is _ (209:Int)),trivial⟩ fun z hz hzc hzn=>ZAo underlying89 rfl rfl hz<|ZAE (v:=enc (0:Int)) rfl<|ZAA<|ZAQ ?_
 obtain⟨o,hl,h⟩:=bs h;refine ZAk (fun(p:Int) φ s=>match p with | v=>Fx φ [(0,(enc (err:(ErrN 104)))),(5,z),(6,(enc (([2,206,208,201,203,209].length:Int):Int))),(7,(enc v))]∧Hp s [(.gl (NG mx))]) (fun(o:(Unit ⊕ Int)) e φ s=>match o with | (.inl _)=>e= .exit 0∧Fx φ []∧Hp s [(.gl (NG mx))] | (.inr v1)=>e= .ret∧Fx φ [(2,(enc v1))]∧Hp s [(.gl (NG mx))]) ?_ hl ⟨FxR rfl,hs⟩ ?_
 ·rintro v o h φ s ⟨hF,hs⟩;rw[←hF.eq];rw[ZDy] at h;refine ZAB<|ZAC<|ZAJ (v:=enc (decide (v<([2,206,208,201,203,209].length:Int)))) rfl rfl rfl<|ZAA<|ZAB ?_
  split at h
  ·rename_i c';refine ZAH rfl c'<|ZAL<|ZAB<|ZAQ<|ZAB<|ZAC ?_
   obtain⟨v2,hx,h⟩:=bs h;refine ZAu underlying89 sh30 rfl rfl hz hx fun p hp=>ZB8 rfl ag30 rfl hp fun y hy=> ?_
   cases hy;refine ZAG rfl<|ZAA<|ZAB<|ZAC<|ZAE rfl<|ZAE rfl<|ZET (t:=91) (a:=v2) (by kernel_rfl) rfl (rfl:is _ v2) fun z1 hz1=> ?_
   obtain⟨r_,hx1,h⟩:=bs h;refine ZCr (f:=fun a:(ErrN 104)×AnyV×Unit=>ZFA a.1 a.2.1) (a:=(err,(ZAs 91 (v2:Int)),())) rfl func52 rfl rfl (.cons (a:=(err:(ErrN 104))) (Enc.self err) (.cons (a:=((ZAs 91 (v2:Int)):AnyV)) hz1 .nil)) hx1<|ZAA ?_
   split at h
   ·rename_i c';refine ZAH rfl c'<|ZAB<|ZAC<|ZAE rfl<|ZAG rfl<|ZAA<|ZAN ?_
    show if _ then _ else _
    rw[if_neg (by simp)]
    rw[←oi h];exact⟨_,rfl,rfl,⟨FxR rfl,hs⟩⟩
   rename_i c';refine ZAI rfl c'<|ZAL<|ZAC<|ZAJ (v:=enc (IntKind.i64.wrap (v+1))) rfl rfl rfl<|ZAE rfl<|ZAA ?_
   rw[←oi h];exact⟨_,rfl,⟨FxR rfl,hs⟩⟩
  rename_i c';refine ZAI rfl c'<|ZAf ?_
  rw[←oi h];exact⟨_,rfl,rfl,⟨trivial,hs⟩⟩
 intro e φ s hE;rcases o with _u | v1
 ·obtain⟨rfl,hF,hs⟩:=hE;rw[←hF.eq];rw[ZFW] at h;show if _ then _ else _
  rw[if_pos rfl];refine ZAB<|ZAC<|ZAG (v:=enc (0:Int)) rfl<|ZAA<|ZAN ?_
  rw[←oi h];exact⟨rfl,KE1 (a:=(0:Int)) rfl rfl (rfl:is _ (0:Int)) (rfl:is _ (0:Int))⟩
 obtain⟨rfl,hF,hs⟩:=hE;rw[←hF.eq];rw[ZFW] at h;show if _ then _ else _
 rw[if_neg (by simp)]
 rw[←oi h];exact⟨rfl,KE1 (a:=v1) rfl rfl (rfl:is _ v1) (rfl:is _ v1)⟩
theorem ZLF (mx:Int):ZAq Tryz.prog 29 (FnG (NG mx) (fun a:(ErrN 104)×Unit=>ZCi a.1)):=fnCG (ZUU mx) ⟨_,func29,rfl⟩<|fun a r h=>ZLE mx a.1 r h
noncomputable def pq1 (mx:Int):Prims:=(pq0 mx).addG 29 (FnG (NG mx) (fun a:(ErrN 104)×Unit=>ZCi a.1))
theorem ZUV (mx:Int):ZAX Tryz.prog (pq1 mx):=ZAR (ZUU mx) (ZLF mx)
theorem ZMn (mx:Int) (f:FsR) (path:Str) (follow:Bool) (r:ZAU×Int) (h:ZA1 f path follow=some r):MF Tryz.prog (pq1 mx) 11 [enc f,enc path,enc follow] (sG (NG mx)) fun v _=>ris v r:=by
 refine ZAh [(0,enc f),(1,enc path),(2,enc follow)] func11 rfl (by simp only[Tryz.f11];rfl) fun ψ=> ?_
 unfold ZA1 at h;have hs:Hp (sG (NG mx)) [.gl (NG mx)]:=Hp.gl0
 refine ZAB<|ZAC<|ZA5 (r:=f) rfl (Enc.self f) hs fun m xs s hxs hs=>ZBG (r:=(Rec.mk ((0:Int),(str []),(0:Int),false,()):ZAU)) zr29 zf29 hs fun m1 s hs=>ZAG (v:=enc (0:Int)) rfl<|ZAA<|ZAB<|ZAC ?_
 replace hs:=Hp.front [(.cells m1 zx29)] (b:=[(.gl (NG mx))]) hs;refine ZAm (r:=f) ag24 sz24 rfl hxs hs fun y hy=>ZAE rfl<|ZAE rfl ?_
 obtain⟨r_,hx,h⟩:=bs h;refine ZAY (f:=fun a:FsR×Str×Bool×Unit=>ZDf a.1 a.2.1 a.2.2.1) (a:=(f,path,follow,())) rfl func28 rfl rfl (.cons (a:=f) hy (.cons (a:=path) (Enc.self _) (.cons (a:=follow) (Enc.self _) .nil))) hs (lM _ (lM _ List.mem_cons_self)) hx<|ZAE (v:=res r_) rfl<|ZAy rfl rfl<|ZAy rfl rfl<|ZBG (r:=(Rec.mk ((0:Int),(str []),(0:Int),false,()):ZAU)) zr29 zf29 hs fun m2 s hs=>ZAx (r:=r_.1) sz29 rfl rfl zf29 (Enc.self r_.1) hs fun xs1 s hxs1 hs=>ZAG rfl<|ZAA<|ZAB<|ZBJ (by decide+kernel) (by kernel_rfl)<|ZAm (r:=r_.1) ag29 sz29 rfl hxs1 hs fun y1 hy1=>ZAE rfl ?_
 obtain⟨r_1,hx1,h⟩:=bs h;refine ZAY (f:=fun a:(ErrN 104)×Unit=>ZCi a.1) (a:=(r_.2,())) rfl func29 rfl rfl (.cons (a:=(r_.2:(ErrN 104))) (Enc.self r_.2) .nil) hs (lM _ (lM _ (lM _ List.mem_cons_self))) hx1 ?_
 replace hs:=Hp.front [(.cells m2 xs1),(.cells m xs)] (b:=[(.gl (NG mx))]) hs;refine ZAx (r:=r_.1) sz29 rfl rfl zf29 hy1 hs fun xs2 s hxs2 hs=>ZAG rfl<|ZAA<|ZAN ?_
 obtain⟨w,hlw,hw⟩:=ldW (r:=r_.1) ag29 sz29 hxs2 hs;rw[←oi h];exact⟨rfl,KEc2 (a1:=(r_.1:ZAU)) (a2:=r_1) rfl (.cell rfl hlw (.tmp rfl .nil)) hw (rfl:is _ r_1) ⟨_,_,rfl,hw,(rfl:is _ r_1)⟩⟩
theorem ZMo (mx:Int):ZAq Tryz.prog 11 (FnG (NG mx) (fun a:FsR×Str×Bool×Unit=>ZA1 a.1 a.2.1 a.2.2.1)):=fnCG (ZUV mx) ⟨_,func11,rfl⟩<|fun a r h=>ZMn mx a.1 a.2.1 a.2.2.1 r h
noncomputable def pq2 (mx:Int):Prims:=(pq1 mx).addG 11 (FnG (NG mx) (fun a:FsR×Str×Bool×Unit=>ZA1 a.1 a.2.1 a.2.2.1))
theorem ZUW (mx:Int):ZAX Tryz.prog (pq2 mx):=ZAR (ZUV mx) (ZMo mx)
theorem ZRa (mx:Int) (s_:(List Int)) (x:Int) (r:Int) (h:ZJd s_ x=some r):MF Tryz.prog (pq2 mx) 26 [enc s_,enc x] (sG (NG mx)) fun v _=>ris v r:=by
 refine ZAh [(0,enc s_),(1,enc x)] func26 rfl (by simp only[Tryz.f26];rfl) fun ψ=> ?_
 unfold ZJd at h;have hs:Hp (sG (NG mx)) [.gl (NG mx)]:=Hp.gl0
 refine ZAB<|ZAC<|ZAG (v:=enc (0:Int)) rfl<|ZAA<|ZAB<|ZAB<|ZAC<|ZAE rfl<|ZAo underlying44 rfl rfl (Enc.self s_)<|ZAE (v:=enc (0:Int)) rfl<|ZAA<|ZAQ ?_
 obtain⟨o,hl,h⟩:=bs h;refine ZAk (fun(p:Int) φ s=>match p with | v=>Fx φ [(0,(enc (s_:(List Int)))),(1,(enc x)),(7,(enc ((s_.length:Int):Int))),(8,(enc v))]∧Hp s [(.gl (NG mx))]) (fun(o:(Unit ⊕ Int)) e φ s=>match o with | (.inl _)=>e= .exit 0∧Fx φ []∧Hp s [(.gl (NG mx))] | (.inr v1)=>e= .ret∧Fx φ [(4,(enc v1))]∧Hp s [(.gl (NG mx))]) ?_ hl ⟨FxR rfl,hs⟩ ?_
 ·rintro v o h φ s ⟨hF,hs⟩;rw[←hF.eq];rw[ZHd] at h;refine ZAB<|ZAC<|ZAJ (v:=enc (decide (v<(s_.length:Int)))) rfl rfl rfl<|ZAA<|ZAB ?_
  split at h
  ·rename_i c';refine ZAH rfl c'<|ZAL<|ZAB<|ZAQ<|ZAB<|ZAC<|ZAE rfl<|ZAG rfl<|ZAA<|ZAB<|ZAC<|ZAE rfl<|ZAE rfl<|ZAE rfl ?_
   obtain⟨v2,hx,h⟩:=bs h;refine ZAu underlying44 sh3 rfl rfl (Enc.self s_) hx fun p hp=>ZB8 rfl ag3 rfl hp fun y hy=> ?_
   cases hy;refine ZAJ (v:=enc (x==v2)) rfl rfl rfl<|ZAA ?_
   split at h
   ·rename_i c';refine ZAH rfl c'<|ZAB<|ZAC<|ZAE rfl<|ZAG rfl<|ZAA<|ZAN ?_
    show if _ then _ else _
    rw[if_neg (by simp)]
    rw[←oi h];exact⟨_,rfl,rfl,⟨FxR rfl,hs⟩⟩
   rename_i c';refine ZAI rfl c'<|ZAL<|ZAC<|ZAJ (v:=enc (IntKind.i64.wrap (v+1))) rfl rfl rfl<|ZAE rfl<|ZAA ?_
   rw[←oi h];exact⟨_,rfl,⟨FxR rfl,hs⟩⟩
  rename_i c';refine ZAI rfl c'<|ZAf ?_
  rw[←oi h];exact⟨_,rfl,rfl,⟨trivial,hs⟩⟩
 intro e φ s hE;rcases o with _u | v1
 ·obtain⟨rfl,hF,hs⟩:=hE;rw[←hF.eq];rw[ZHe] at h;show if _ then _ else _
  rw[if_pos rfl];refine ZAB<|ZAC<|ZAG (v:=enc ((-1):Int)) rfl<|ZAA<|ZAN ?_
  rw[←oi h];exact⟨rfl,KE1 (a:=((-1):Int)) rfl rfl (rfl:is _ ((-1):Int)) (rfl:is _ ((-1):Int))⟩
 obtain⟨rfl,hF,hs⟩:=hE;rw[←hF.eq];rw[ZHe] at h;show if _ then _ else _
 rw[if_neg (by simp)]
 rw[←oi h];exact⟨rfl,KE1 (a:=v1) rfl rfl (rfl:is _ v1) (rfl:is _ v1)⟩
theorem ZRb (mx:Int):ZAq Tryz.prog 26 (FnG (NG mx) (fun a:(List Int)×Int×Unit=>ZJd a.1 a.2.1)):=fnCG (ZUW mx) ⟨_,func26,rfl⟩<|fun a r h=>ZRa mx a.1 a.2.1 r h
noncomputable def pq3 (mx:Int):Prims:=(pq2 mx).addG 26 (FnG (NG mx) (fun a:(List Int)×Int×Unit=>ZJd a.1 a.2.1))
theorem ZO6 (mx:Int):ZAX Tryz.prog (pq3 mx):=ZAR (ZUW mx) (ZRb mx)
end Go.Ai.Rab
end
section
set_option maxRecDepth 100000
set_option maxHeartbeats 4000000
attribute [local irreducible] Go.Ai.TC Go.Ai.TO Go.Ai.MF
open Go.Ai.Enc (enc is)
open Go.Ai.Res (res ris)
open Go.Ai.Args (args)
namespace Go.Ai.Rab
open Go.Proofs
noncomputable def ZFB (s_:List Str) (i_:Int) (v_:List Str):Option (List Str):=ins 16 s_ i_ v_
theorem ZLG (s_:List Str) (i_:Int) (v_ r:List Str) (h:ZFB s_ i_ v_=some r) {x_s:AV} {en_s:En} (hm:isM x_s en_s s_) {x_v:AV} (hv:is x_v v_) {s:St} {enF:En} {G:Glob} (hs:Hp s [en_s,enF, .gl G]):MF Tryz.prog pz0 25 [x_s,enc i_,x_v] s fun v s' =>∃en',isM v en' r∧Hp s' [en',enF, .gl G]:=by
 unfold ZFB at h;obtain⟨j,rfl,hj,hroom,hr⟩:=ZS8 h;have hro:=(ZE3 hroom).1;obtain⟨za,hza,hzok⟩:=ZT7 (T:=Str) TTryz.wze9;refine ZB9 [(0,x_s),(1,(.int .i64 ((j:Nat):Int))),(2,x_v)] Tryz.func25 rfl (by simp only[Tryz.f25];rfl) fun ψ=> ?_
 repeat refine ZAB ?_
 refine ZAC<|ZAG (v:= .nils) rfl<|ZAA ?_
 repeat refine ZAB ?_
 refine ZAC<|ZAE (v:=x_s) rfl<|ZAE (v:=(.int .i64 ((j:Nat):Int))) rfl<|ZWM Tryz.underlying43 TTryz.wef9.sh rfl rfl hm hj hs fun _=>ZAA ?_
 repeat refine ZAB ?_
 refine ZAC<|ZAE (v:=x_v) rfl<|ZAo Tryz.underlying43 rfl rfl hv<|ZAG (v:=(.int .i64 ((v_.length:Nat):Int))) rfl<|ZAA ?_
 repeat refine ZAB ?_
 refine ZAC<|ZAE (v:=(.int .i64 ((v_.length:Nat):Int))) rfl<|ZAJ (v:= .bool (((v_.length:Nat):Int)==0)) rfl rfl rfl<|ZAA ?_
 by_cases hv0:v_=[]
 ·refine ZAH rfl (by rw[hv0];rfl) ?_
  repeat refine ZAB ?_
  refine ZAC<|ZAE (v:=x_s) rfl<|ZAG (v:=x_s) rfl<|ZAA<|ZAN ?_
  have hr' :r=s_:=by rw[hr,hv0];simp
  subst hr';exact⟨rfl,KN1 rfl rfl ⟨_,hm,hs⟩⟩
 have hvl:0<v_.length:=List.length_pos_iff.2 hv0
 obtain⟨us,cp,rfl,hus⟩:∃us cp,x_v= .vec (Enc.k Str) us cp∧isR us v_:=by
  rcases hv with⟨_,h0⟩ | ⟨us,c,h1,h2⟩
  ·exact absurd h0 hv0
  exact⟨us,c,h1,h2⟩
 have hul:=hus.len;have hsrcv:∀s,ZEE (Enc.k Str) (.vec (Enc.k Str) us cp) s=some us:=fun s=>by simp[ZEE,elems]
 refine ZAI rfl (by simp;omega)<|ZAL ?_
 repeat refine ZAB ?_
 refine ZAC<|ZAE (v:=x_s) rfl<|ZQ7 Tryz.underlying43 rfl rfl hm<|ZAG (v:=(.int .i64 ((s_.length:Nat):Int))) rfl<|ZAA ?_
 repeat refine ZAB ?_
 refine ZAC<|ZAE (v:=(.int .i64 ((j:Nat):Int))) rfl<|ZAE (v:=(.int .i64 ((s_.length:Nat):Int))) rfl<|ZAJ (v:= .bool (((j:Nat):Int)==((s_.length:Nat):Int))) rfl rfl rfl<|ZAA ?_
 by_cases hjn:j=s_.length
 ·refine ZAH rfl (by rw[hjn];simp) ?_
  have hx:app 16 s_ v_=some r:=by unfold app;rw[if_pos hroom,hr,hjn];simp
  repeat refine ZAB ?_
  refine ZAC<|ZAE (v:=x_s) rfl<|ZAE (v:=(.vec (Enc.k Str) us cp)) rfl<|ZJK Tryz.underlying43 Tryz.underlying43 rfl rfl TTryz.wef9 rfl rfl (isM.ap hm) hv hx hs fun z en s hz hs=>ZAG (v:=z) rfl<|ZAA<|ZAN ?_
  exact⟨rfl,KN1 rfl rfl ⟨_,hz,hs⟩⟩
 refine ZAI rfl (by simp;omega)<|ZAL ?_
 obtain⟨m,cap,ys,sp,rfl,rfl,hys,hsp,hcap,hone⟩:isO x_s en_s s_:=by
  rcases hm with h | ⟨h0,_⟩
  ·exact h
  exfalso;subst h0;simp at hj hjn;omega
 have hyl:=hys.len;have hrl:r.length=s_.length+v_.length:=by rw[hr];simp;omega
 have hfin:isR (ys.take j++us++ys.drop j) r:=by rw[hr];exact((hys.take j).append hus).append (hys.drop j)
 repeat refine ZAB ?_
 refine ZAC<|ZAE (v:=(.int .i64 ((s_.length:Nat):Int))) rfl<|ZAE (v:=(.int .i64 ((v_.length:Nat):Int))) rfl<|ZAJ (v:= .int .i64 (((s_.length:Nat):Int)+((v_.length:Nat):Int))) rfl rfl (ZKW (by omega))<|ZAE (v:=(.hs (Enc.k Str) m 0 s_.length cap)) rfl<|ZVI Tryz.underlying43 rfl rfl<|ZAJ (v:= .bool (decide (((s_.length:Nat):Int)+((v_.length:Nat):Int) > ((cap:Nat):Int)))) rfl rfl rfl<|ZAA ?_
 by_cases hgr:cap<s_.length+v_.length
 ·refine ZAH rfl (by simp;omega) ?_
  obtain⟨q,hq⟩:∃q,q=s_.length+v_.length - j:=⟨_,rfl⟩;repeat refine ZAB ?_
  refine ZAC<|ZAE (v:=(.hs (Enc.k Str) m 0 s_.length cap)) rfl<|ZAE (v:=(.int .i64 ((j:Nat):Int))) rfl<|ZNp Tryz.underlying43 TTryz.wef9.sh rfl rfl (by omega) hcap<|ZAE (v:=(.int .i64 ((s_.length:Nat):Int))) rfl<|ZAE (v:=(.int .i64 ((v_.length:Nat):Int))) rfl<|ZAJ (v:= .int .i64 (((s_.length:Nat):Int)+((v_.length:Nat):Int))) rfl rfl (ZKW (by omega))<|ZAE (v:=(.int .i64 ((j:Nat):Int))) rfl<|ZAJ (v:= .int .i64 ((q:Nat):Int)) rfl rfl ((ZWL (by omega)).trans (by congr 2;omega))<|ZWJ (i:=j) (q:=q) Tryz.underlying43 Tryz.underlying3 rfl rfl rfl TTryz.wef9 hza hzok rfl rfl hs hys.ok (by omega) (by omega) (by omega) (by rw[show j+q=s_.length+v_.length by omega];exact hroom) fun m' nc zs s hnc hzl hzo hs=>ZAG (v:=(.hs (Enc.k Str) m' 0 (j+q) nc)) rfl<|ZAA ?_
  obtain⟨L0,hL0⟩:∃L,L=ys.take j++List.replicate q za:=⟨_,rfl⟩;rw[←hL0] at hs;have hl0:L0.length=j+q:=by rw[hL0];simp;omega
  have hk0:∀v∈L0,ZA4 (Enc.k Str) v:=by
   intro v hv;rw[hL0] at hv;rcases List.mem_append.1 hv with hv | hv
   ·exact hys.ok v (List.mem_of_mem_take hv)
   rw[List.eq_of_mem_replicate hv];exact hzok
  repeat refine ZAB ?_
  refine ZAC<|ZAE (v:=(.hs (Enc.k Str) m' 0 (j+q) nc)) rfl<|ZAE (v:=(.int .i64 ((j:Nat):Int))) rfl<|ZH2 Tryz.underlying43 TTryz.wef9.sh rfl rfl (by omega) hnc (by omega)<|ZAE (v:=(.vec (Enc.k Str) us cp)) rfl<|ZOz (a:=j) Tryz.underlying43 rfl TTryz.wef9.sh rfl rfl (hsrcv s) hs hk0 hus.ok (by omega) fun _ s hs=>ZAA ?_
  obtain⟨L1,hL1⟩:∃L,L=L0.take j++us.take (min us.length (j+q - j))++L0.drop (j+min us.length (j+q - j)):=⟨_,rfl⟩;rw[←hL1] at hs;have hk1:∀v∈L1,ZA4 (Enc.k Str) v:=by rw[hL1];exact ZT5 hk0 (fun v hv=>hus.ok v (List.mem_of_mem_take hv))
  have hl1:L1.length=j+q:=by rw[hL1];simp;omega
  repeat refine ZAB ?_
  refine ZBJ (by decide+kernel) (by decide+kernel)<|ZAE (v:=(.hs (Enc.k Str) m' 0 (j+q) nc)) rfl<|ZAE (v:=(.int .i64 ((j:Nat):Int))) rfl<|ZAE (v:=(.int .i64 ((v_.length:Nat):Int))) rfl<|ZAJ (v:= .int .i64 ((j+v_.length:Nat):Int)) rfl rfl ((ZKW (by omega)).trans (by congr 2))<|ZH2 (i:=j+v_.length) Tryz.underlying43 TTryz.wef9.sh rfl rfl (by omega) hnc (by omega)<|ZAE (v:=(.hs (Enc.k Str) m 0 s_.length cap)) rfl<|ZAE (v:=(.int .i64 ((j:Nat):Int))) rfl<|ZNq (i:=j) Tryz.underlying43 TTryz.wef9.sh rfl rfl (by omega) hcap (Hp.front [_] (b:=[enF, .gl G]) hs) hys.ok (by omega) fun w hw=>ZOz (a:=j+v_.length) Tryz.underlying43 rfl TTryz.wef9.sh rfl rfl hw hs hk1 (fun v hv=>hys.ok v (List.mem_of_mem_take (List.mem_of_mem_drop hv))) (by omega) fun _ s hs=>ZAA ?_
  rw[ZS9 (n:=s_.length) (m:=v_.length) hyl hul hj (by rw[hL0,hq]) (by rw[hq]) (by rw[hq]) hL1 rfl] at hs
  repeat refine ZAB ?_
  refine ZAC<|ZAE (v:=(.hs (Enc.k Str) m' 0 (j+q) nc)) rfl<|ZAG (v:=(.hs (Enc.k Str) m' 0 (j+q) nc)) rfl<|ZAA<|ZAN ?_
  exact⟨rfl,KN1 rfl rfl ⟨_,ZT6 (by omega) hfin (by rw[hzl,hrl];congr 1;omega) (by omega) hzo,Hp.drop [_] (b:=[enF, .gl G]) hs⟩⟩
 refine ZAI rfl (by simp;omega)<|ZAL ?_
 repeat refine ZAB ?_
 refine ZAC<|ZAE (v:=(.hs (Enc.k Str) m 0 s_.length cap)) rfl<|ZAE (v:=(.int .i64 ((s_.length:Nat):Int))) rfl<|ZAE (v:=(.int .i64 ((v_.length:Nat):Int))) rfl<|ZAJ (v:= .int .i64 ((s_.length+v_.length:Nat):Int)) rfl rfl ((ZKW (by omega)).trans (by congr 2))<|ZNp (j:=s_.length+v_.length) Tryz.underlying43 TTryz.wef9.sh rfl rfl (by omega) hcap<|ZAG (v:=(.hs (Enc.k Str) m 0 (s_.length+v_.length) cap)) rfl<|ZAA ?_
 have hsl:v_.length*esz (Enc.k Str)≤sp.length:=by rw[hsp];exact Nat.mul_le_mul_right _ (by omega)
 obtain⟨hrm,hko,hcl⟩:=ZNo (k:=Enc.k Str) (m:=v_.length) (ys:=ys) hone hsl;rw[hrm] at hs;obtain⟨ws,hws⟩:∃L,L=ZC2 (Enc.k Str) sp v_.length:=⟨_,rfl⟩;rw[←hws] at hs hko hcl;obtain⟨sp',hsp'⟩:∃L,L=sp.drop (v_.length*esz (Enc.k Str)):=⟨_,rfl⟩;rw[←hsp'] at hs;obtain⟨L0,hL0⟩:∃L,L=ys++ws:=⟨_,rfl⟩;rw[←hL0] at hs;have hl0:L0.length=s_.length+v_.length:=by rw[hL0];simp;omega
 have hk0:∀v∈L0,ZA4 (Enc.k Str) v:=by
  intro v hv;rw[hL0] at hv;rcases List.mem_append.1 hv with hv | hv
  ·exact hys.ok v hv
  exact hko v hv
 repeat refine ZAB ?_
 refine ZAC<|ZAE (v:=(.vec (Enc.k Str) us cp)) rfl<|ZAE (v:=(.hs (Enc.k Str) m 0 (s_.length+v_.length) cap)) rfl<|ZAE (v:=(.int .i64 ((j:Nat):Int))) rfl<|ZAE (v:=(.int .i64 ((v_.length:Nat):Int))) rfl<|ZAJ (v:= .int .i64 ((j+v_.length:Nat):Int)) rfl rfl ((ZKW (by omega)).trans (by congr 2))<|ZH2 (i:=j+v_.length) Tryz.underlying43 TTryz.wef9.sh rfl rfl (by omega) (by omega) (by omega)<|ZWK (tR:=4) Tryz.func44 (by kernel_rfl) (by kernel_rfl) (by kernel_rfl) (by kernel_rfl) Tryz.underlying43 TTryz.wef9.sh rfl (by intro h0;rw[h0] at hul;simp at hul;omega) rfl hs hk0 (by omega)<|ZBO (v:= .bool true) rfl rfl<|ZAA<|ZAH rfl rfl ?_
 repeat refine ZAB ?_
 refine ZBJ (by decide+kernel) (by decide+kernel)<|ZAE (v:=(.hs (Enc.k Str) m 0 (s_.length+v_.length) cap)) rfl<|ZAE (v:=(.int .i64 ((j:Nat):Int))) rfl<|ZAE (v:=(.int .i64 ((v_.length:Nat):Int))) rfl<|ZAJ (v:= .int .i64 ((j+v_.length:Nat):Int)) rfl rfl ((ZKW (by omega)).trans (by congr 2))<|ZH2 (i:=j+v_.length) Tryz.underlying43 TTryz.wef9.sh rfl rfl (by omega) (by omega) (by omega)<|ZAE (v:=(.hs (Enc.k Str) m 0 (s_.length+v_.length) cap)) rfl<|ZAE (v:=(.int .i64 ((j:Nat):Int))) rfl<|ZNq (i:=j) Tryz.underlying43 TTryz.wef9.sh rfl rfl (by omega) (by omega) hs hk0 (by omega) fun w hw=>ZOz (a:=j+v_.length) Tryz.underlying43 rfl TTryz.wef9.sh rfl rfl hw hs hk0 (fun v hv=>hk0 v (List.mem_of_mem_take (List.mem_of_mem_drop hv))) (by omega) fun _ s hs=>ZAA ?_
 obtain⟨src,hsr⟩:∃L,L=(L0.take (s_.length+v_.length)).drop j:=⟨_,rfl⟩;rw[←hsr] at hs;have hks:∀v∈src,ZA4 (Enc.k Str) v:=fun v hv=>by rw[hsr] at hv;exact hk0 v (List.mem_of_mem_take (List.mem_of_mem_drop hv))
 have hsl2:src.length=s_.length+v_.length - j:=by rw[hsr];simp;omega
 obtain⟨q,hq⟩:∃q,q=s_.length+v_.length - (j+v_.length):=⟨_,rfl⟩;rw[←hq] at hs;obtain⟨L1,hL1⟩:∃L,L=L0.take (j+v_.length)++src.take (min src.length q)++L0.drop (j+v_.length+min src.length q):=⟨_,rfl⟩;rw[←hL1] at hs;have hk1:∀v∈L1,ZA4 (Enc.k Str) v:=by rw[hL1];exact ZT5 hk0 (fun v hv=>hks v (List.mem_of_mem_take hv))
 have hl1:L1.length=s_.length+v_.length:=by rw[hL1];simp;omega
 repeat refine ZAB ?_
 refine ZAC<|ZAE (v:=(.hs (Enc.k Str) m 0 (s_.length+v_.length) cap)) rfl<|ZAE (v:=(.int .i64 ((j:Nat):Int))) rfl<|ZH2 (i:=j) Tryz.underlying43 TTryz.wef9.sh rfl rfl (by omega) (by omega) (by omega)<|ZAE (v:=(.vec (Enc.k Str) us cp)) rfl<|ZOz (a:=j) Tryz.underlying43 rfl TTryz.wef9.sh rfl rfl (hsrcv s) hs hk1 hus.ok (by omega) fun _ s hs=>ZAA ?_
 rw[ZRQ (n:=s_.length) (m:=v_.length) hyl hcl hul hj hL0 hsr hq hL1] at hs;repeat refine ZAB ?_
 refine ZAC<|ZAE (v:=(.hs (Enc.k Str) m 0 (s_.length+v_.length) cap)) rfl<|ZAG (v:=(.hs (Enc.k Str) m 0 (s_.length+v_.length) cap)) rfl<|ZAA<|ZAN ?_
 exact⟨rfl,KN1 rfl rfl ⟨_,ZT6 hrl.symm hfin (by rw[hsp',List.length_drop,hsp,←Nat.sub_mul,hrl,Nat.sub_sub]) (by omega) (fun y hy=>hone y (by rw[hsp'] at hy;exact List.mem_of_mem_drop hy)),hs⟩⟩
end Go.Ai.Rab
end
section
open Go.Ai.Enc (enc is)
namespace Go.Ai
section
variable {P:Program} {prims:Prims} {n:Nat} {b:Bool} {K:Fm→St→Prop} {φ:Fm} {s:St} {ops:Array Oper} {l:List Oper} {d:Tmp} {x y:Operand} {t t' e ty:TypeId} {pos:String} {af:Array Edge} {u v:AV} {es:List En}
theorem ZMp {q:Nat} {g:FuncId} {fn:Func} {os:Array Operand} {ts:Array TypeId} {vs ys:List AV} {H:AV→St→Prop} (hf:P.funcs[g]? =some fn) (hn:ZCn fn=true) (hx:ZAb n φ (.tmp q)=some (.fn g [] ys)) (ha:ZF1 n φ os.toList=some vs) (hm:MF P prims g (vs++ys) s H)
  (k:∀v s',H v s' →TO P prims n false ops l K (upd φ d v) s'):TO P prims n false ops (⟨some d, .call ⟨.value (.tmp q),os,ts⟩,ty,pos,af,none⟩::l) K φ s:=by
 refine ZG2 rfl fun hpr base ρ X w a A B hb hs hr hdf hA=>⟨fun e=>(by cases e),?_⟩
 have hrx:=ZAW hr (ZAM hx);simp only[Rel,RelL] at hrx;obtain⟨us,cs,e,rfl,hcs⟩:=hrx;have hall:RelL w ρ (UX ρ s.h X) s.c (vs++ys) (os.toList.map a.eval++cs):=RelL.append (ZB2 hr (ZDW ha)) hcs
 have hcl:=hm hpr base ρ X w _ hb hs hall;unfold Oper.wp;have hrun:(execOp a.eval (⟨some d, .call ⟨.value (.tmp q),os,ts⟩,ty,pos,af,none⟩:Oper)).run P w= .ok (.enter g (os.toList.map a.eval++cs).toArray) w:=by
  simp only[execOp,resolve,e,Deferred.ofValue,pure_bind,invoke];rw[ZDU hf hn];congr 2
  apply Array.ext'
  simp
 rw[hrun];refine hcl.mono fun e' w' he=> ?_
 obtain⟨v',rfl,v,s',h1,h2⟩:=he;exact hA v s' v' w' (k v s' h1) h2 fun hq=>by cases hq
theorem ZRc {g:FuncId} {cap:Array Operand} {ys:List AV} (hc:ZF1 n φ cap.toList=some ys) (k:TO P prims n b ops l K (upd φ d (.fn g [] ys)) s):TO P prims n b ops (⟨some d, .makeFunc (.func g) #[] cap,ty,pos,af,none⟩::l) K φ s:=by
 refine ZA2 rfl rfl (v:= .fn g [] ys) (s' :=s) (fun _=> ?_) k
 have e1:ZBq (frm n φ) (#[]:Array Operand).toList=some []:=rfl
 simp only[aOp,ZDW hc,e1,oC,Option.bind_some]
/-! ### Variables of one cell, caught and turned -/
theorem ZJe {m:Nat} {w:AV} (hg:aggT P t=some false) (hx:ZAb n φ x=some (.ptr m 0)) (hs:Hp s (.cells m [w]::es)) (k:TO P prims n b ops l K (upd φ d w) s):TO P prims n b ops (⟨some d, .load t x,ty,pos,af,none⟩::l) K φ s:=by
 have hgt:=hs.get rfl;refine ZA2 rfl rfl (fun _=>ZFO (ZAM hx) (v:=w) ?_) k
 simp[ZEy,hgt,ZEx,hg]
theorem ZMq {m:Nat} {w:AV} (hz:szT P t=some 1) (hx:ZAb n φ x=some (.ptr m 0)) (hy:ZAb n φ y=some v) (h1:v.one=true) (hs:Hp s (.cells m [w]::es))
  (k:∀s',Hp s' (.cells m [v]::es)→TO P prims n b ops l K φ s'):TO P prims n b ops (⟨none, .store t x y,ty,pos,af,none⟩::l) K φ s:=by
 have hg:=hs.get rfl;have hst:ZED P t (.ptr m 0) v s=some (s.put m (.cells [v])):=by
  simp only[ZED,ZEK h1,hz,List.length_singleton,if_pos,ZBu,hg,List.all_cons,List.all_nil,h1,Bool.and_true,and_true,Nat.zero_add,Nat.le_refl];rfl
 refine ZJD rfl rfl (v:= .undef) (s' :=s.put m (.cells [v])) (fun _=> ?_) (k _ (hs.put rfl rfl))
 simp only[aOp,ZAM hx,ZAM hy,oC,Option.bind_some,hst]
theorem ZRd {w:AV} (hz:ZBM P t=some w) (h1:w.one=true) (hs:Hp s es)
  (k:∀m s',Hp s' (.cells m [w]::es)→TO P prims n b ops l K (upd φ d (.ptr m 0)) s'):TO P prims n b ops (⟨some d, .alloc t,ty,pos,af,none⟩::l) K φ s:=by
 refine ZA2 rfl rfl (v:= .ptr s.c 0) (s' :=s.new (.cells [w])) (fun _=> ?_) (k s.c _ (hs.new _ _ rfl))
 simp only[aOp,ZIi,hz,ZC6,ZEK h1,oC,Option.bind_some];exact if_pos (by simp[h1])
theorem isM.one {T:Type} [Enc T] {x:AV} {en:En} {xs:List T} (h:isM x en xs):x.one=true:=by
 rcases h with⟨m,cap,ys,sp,rfl,_⟩ | ⟨_,h1,_,_,_⟩
 ·rfl
 exact ZJM h1
end
end Go.Ai
end
