/- My own texts DevPgC, DevPgD, one behind the other. -/
import Derived.Test.YtjaopinmnpekiaaGreatDoorWAE
import Derived.Test.YtjaopinmnpekiaaGreatDoorWAI
import Derived.Test.YtjaopinmnpekiaaGreatDoorWAH
set_option linter.unusedVariables false
set_option linter.unusedSimpArgs false
section
set_option maxRecDepth 100000
set_option maxHeartbeats 16000000
attribute [local irreducible] Go.Ai.TC Go.Ai.TO Go.Ai.MF Go.Ai.ZCS Go.Ai.ZBg Go.Ai.encR
open Go.Ai.Enc (enc is)
open Go.Ai.Res (res ris)
open Go.Ai.Args (args)
open Go.Ai.Flds (fe fi fk)
namespace Go.Ai
abbrev RefR:Type:=(Rec (Str×Int×Int×Int×Unit))
abbrev ZBi:Type:=(Rec (Int×Int×Int×Int×Str×(List ZAi)×(List RefR)×Unit))
end Go.Ai
namespace Go.Ai.TTryz
open Go.Proofs
theorem ef9:EF Tryz.prog 9 0 16:=ZML (by kernel_rfl)
theorem ef20:EF Tryz.prog 20 0 16:=ZML (by kernel_rfl)
def ZWf:List AV:=[enc (0:Int),enc (0:Int),enc (0:Int),enc (0:Int),enc (str []), .nils, .nils]
theorem ZVO:ZBM Tryz.prog 120=some (.agg ZWf):=by kernel_rfl
theorem ZTC:fi ZWf (Rec.mk ((0:Int),(0:Int),(0:Int),(0:Int),(str []),([]:(List ZAi)),([]:(List RefR)),()):ZBi).v:=⟨_,_,rfl,rfl,⟨_,_,rfl,rfl,⟨_,_,rfl,rfl,⟨_,_,rfl,rfl,⟨_,_,rfl,rfl,⟨_,_,rfl,isL.nil,⟨_,_,rfl,isL.nil,rfl⟩⟩⟩⟩⟩⟩⟩
theorem ZWg:buB Tryz.prog 120 7=true:=by kernel_rfl
def ZWh:List AV:=[enc false, .nils, .nils]
theorem ZWi:ZBM Tryz.prog 123=some (.agg ZWh):=by kernel_rfl
theorem ZWj:fi ZWh (Rec.mk (false,([]:(List Str)),([]:(List Int)),()):ZAd).v:=⟨_,_,rfl,rfl,⟨_,_,rfl,isL.nil,⟨_,_,rfl,isL.nil,rfl⟩⟩⟩
theorem ZWk:buB Tryz.prog 123 3=true:=by kernel_rfl
def ZWl:List AV:=[enc (str []), .nils]
theorem ZWm:ZBM Tryz.prog 147=some (.agg ZWl):=by kernel_rfl
theorem ZTD:fi ZWl (Rec.mk ((str []),([]:(List UInt8)),()):ZAi).v:=⟨_,_,rfl,rfl,⟨_,_,rfl,isL.nil,rfl⟩⟩
def ZWn:List AV:=[enc (str []),enc (0:Int),enc (0:Int),enc (0:Int)]
theorem ZVP:ZBM Tryz.prog 150=some (.agg ZWn):=by kernel_rfl
theorem ZP6:fi ZWn (Rec.mk ((str []),(0:Int),(0:Int),(0:Int),()):RefR).v:=⟨_,_,rfl,rfl,⟨_,_,rfl,rfl,⟨_,_,rfl,rfl,⟨_,_,rfl,rfl,rfl⟩⟩⟩⟩
theorem ZB4:flB Tryz.prog 47 1=true:=by kernel_rfl
theorem ZUA:flB Tryz.prog 47 2=true:=by kernel_rfl
theorem ZKX:flB Tryz.prog 47 3=true:=by kernel_rfl
theorem ZO2:flB Tryz.prog 47 5=true:=by kernel_rfl
theorem ZEZ:flB Tryz.prog 47 6=true:=by kernel_rfl
theorem ZDt:flB Tryz.prog 47 7=true:=by kernel_rfl
theorem ZUB:flB Tryz.prog 47 8=true:=by kernel_rfl
theorem ZF5:flB Tryz.prog 120 0=true:=by kernel_rfl
theorem ZK2:flB Tryz.prog 120 1=true:=by kernel_rfl
theorem ZK3:flB Tryz.prog 120 2=true:=by kernel_rfl
theorem ZF6:flB Tryz.prog 120 3=true:=by kernel_rfl
theorem ZF7:flB Tryz.prog 120 4=true:=by kernel_rfl
theorem ZG6:flB Tryz.prog 120 5=true:=by kernel_rfl
theorem ZJS:flB Tryz.prog 120 6=true:=by kernel_rfl
theorem ZF8:flB Tryz.prog 123 1=true:=by kernel_rfl
theorem ZG7:flB Tryz.prog 123 2=true:=by kernel_rfl
theorem ZNr:flB Tryz.prog 147 0=true:=by kernel_rfl
theorem ZNs:flB Tryz.prog 147 1=true:=by kernel_rfl
theorem ZK4:flB Tryz.prog 150 0=true:=by kernel_rfl
theorem ZNt:flB Tryz.prog 150 1=true:=by kernel_rfl
theorem ZNu:flB Tryz.prog 150 2=true:=by kernel_rfl
theorem ZJT:flB Tryz.prog 150 3=true:=by kernel_rfl
end Go.Ai.TTryz
namespace Go.Ai.Rab
open Go.Proofs TTryz Tryz
noncomputable def ZCt (s_:Str):Nat→Option (Nat ⊕ (Unit ⊕ Int))
 | v=>(if v<List.length s_ then((if(((ZCS s_ v)).v==((Rune.mk 47)).v) then some true else some (((ZCS s_ v)).v==((Rune.mk 0)).v)).bind fun b2=>(if b2 then some (.inr (.inr 206)) else some (.inl (v+ZBg s_ v)))) else some (.inr (.inl ())))
noncomputable def ZDw:(Unit ⊕ Int)→Option (Int)
 | (.inl _)=>some (0)
 | (.inr v1)=>some (v1)
noncomputable def ZBa (s_:Str):Option (Int):=
 (if(eqS s_ (str [])) then some (206) else(if(decide (((List.length s_:Nat):Int) > 100)) then some (208) else((if(eqS s_ (str [46])) then some true else some (eqS s_ (str [46,46]))).bind fun b=>((if b then some true else((utf8_ValidString s_).bind fun r_=>some (!r_))).bind fun b1=>(if b1 then some (206) else((loop (ZCt s_) 0).bind (ZDw)))))))
noncomputable def ZFS (l:(List Str)):Int→Option (Int ⊕ (Unit ⊕ Bool))
 | v=>(if(decide (v<(l.length:Int))) then((nth l v).bind fun v2=>((ZBa v2).bind fun r_=>((if(r_ !=0) then some true else((if(decide (v > 0)) then((nth l (IntKind.i64.wrap (v - 1))).bind fun v3=>some (ltS v2 v3 || eqS v2 v3)) else some false).bind fun b1=>some b1)).bind fun b=>(if b then some (.inr (.inr false)) else some (.inl (IntKind.i64.wrap (v+1))))))) else some (.inr (.inl ())))
noncomputable def ZFT:(Unit ⊕ Bool)→Option (Bool)
 | (.inl _)=>some (true)
 | (.inr v1)=>some (v1)
noncomputable def ZBl (l:(List Str)):Option (Bool):=
 ((loop (ZFS l) 0).bind (ZFT))
noncomputable def ZF9 (l:(List ZAi)):((List Str)×Int)→Option (((List Str)×Int) ⊕ ((List Str) ⊕ Bool))
 | (names,v)=>(if(decide (v<(l.length:Int))) then((nth l v).bind fun v2=>((app 16 names [v2.v.1]).bind fun l1=>(if(decide ((v2.v.2.1.length:Int) > 256)) then some (.inr (.inr false)) else some (.inl (l1,(IntKind.i64.wrap (v+1))))))) else some (.inr (.inl names)))
noncomputable def ZGA (l:(List ZAi)):((List Str) ⊕ Bool)→Option (Bool)
 | (.inl names1)=>((if(decide ((l.length:Int)≤8)) then((ZBl names1).bind fun r_=>some r_) else some false).bind fun b=>some (b))
 | (.inr v1)=>some (v1)
noncomputable def ZDY (l:(List ZAi)):Option (Bool):=
 ((loop (ZF9 l) ([],0)).bind (ZGA l))
noncomputable def ZCM (m:ZBi):Option (Bool):=
 (if(m.v.1 !=3) then some ((eqS m.v.2.2.2.2.1 (str []))) else((if(!eqS m.v.2.2.2.2.1 (str [])) then some (decide (((List.length m.v.2.2.2.2.1:Nat):Int)≤1000)) else some false).bind fun b=>((if b then((ZBs m.v.2.2.2.2.1 (str [0])).bind fun r_=>some (!r_)) else some false).bind fun b1=>((if b1 then some (m.v.2.2.2.1==0) else some false).bind fun b2=>some (b2)))))
noncomputable def ZFU (m:ZBi):(Int×Int)→Option ((Int×Int) ⊕ (Int ⊕ Bool))
 | (n,v)=>(if(decide (v<(m.v.2.2.2.2.2.2.1.length:Int))) then((nth m.v.2.2.2.2.2.2.1 v).bind fun v2=>none) else some (.inr (.inl n)))
noncomputable def ZEL (m:ZBi):(Int ⊕ Bool)→Option (Bool)
 | (.inl n1)=>some ((n1==m.v.2.2.2.1))
 | (.inr v1)=>some (v1)
noncomputable def ZEa (m:ZBi):Option (Bool):=
 ((if(decide (m.v.2.1≥0)) then some (decide (m.v.2.1≤4095)) else some false).bind fun b=>((if b then some (decide (m.v.2.2.1≥0)) else some false).bind fun b1=>((if b1 then some (decide (m.v.2.2.1≤64)) else some false).bind fun b2=>((if b2 then some (decide (m.v.2.2.2.1≥0)) else some false).bind fun b3=>((if b3 then some (decide (m.v.2.2.2.1≤32768)) else some false).bind fun b4=>((if b4 then some (decide ((m.v.2.2.2.2.2.2.1.length:Int)≤128)) else some false).bind fun b5=>((if(decide (m.v.1<1)) then some true else some (decide (m.v.1 > 3))).bind fun b6=>((if b6 then some true else some (!b5)).bind fun b7=>((if b7 then some true else((ZCM m).bind fun r_=>some (!r_))).bind fun b8=>((if b8 then some true else((ZDY m.v.2.2.2.2.2.1).bind fun r_1=>some (!r_1))).bind fun b9=>(if b9 then some (false) else((loop (ZFU m) (0,0)).bind (ZEL m)))))))))))))
noncomputable def ZEp (m:ZBi):((List UInt8)×Int)→Option (((List UInt8)×Int) ⊕ (List UInt8))
 | (b,v)=>(if(decide (v<(m.v.2.2.2.2.2.1.length:Int))) then((nth m.v.2.2.2.2.2.1 v).bind fun v1=>((ZDo b [(ZAs 9 (v1.v.1:Str)),(ZAs 42 (v1.v.2.1:(List UInt8)))]).bind fun r_2=>some (.inl (r_2,(IntKind.i64.wrap (v+1)))))) else some (.inr b))
noncomputable def ZDN (v2:Int) (b4:(List UInt8)):Option (((List UInt8)×Int) ⊕ (List UInt8)):=
 some (.inl (b4,(IntKind.i64.wrap (v2+1))))
noncomputable def ZEq (m:ZBi):((List UInt8)×Int)→Option (((List UInt8)×Int) ⊕ (List UInt8))
 | (b2,v2)=>(if(decide (v2<(m.v.2.2.2.2.2.2.1.length:Int))) then((nth m.v.2.2.2.2.2.2.1 v2).bind fun v3=>(if(!eqS v3.v.1 (str [])) then((ZDo b2 [(ZAs 4 (true:Bool)),(ZAs 148 (v3.v.1:Str)),(ZAs 3 (v3.v.2.2.2.1:Int))]).bind fun r_4=>(ZDN v2 r_4)) else((ZDo b2 [(ZAs 4 (false:Bool)),(ZAs 3 (v3.v.2.1:Int)),(ZAs 3 (v3.v.2.2.1:Int)),(ZAs 3 (v3.v.2.2.2.1:Int))]).bind fun r_5=>(ZDN v2 r_5)))) else some (.inr b2))
noncomputable def ZGm:(List UInt8)→Option ((List UInt8)×Int)
 | b3=>some (b3,0)
noncomputable def ZGn (m:ZBi):(List UInt8)→Option ((List UInt8)×Int)
 | b1=>((ZDo b1 [(ZAs 3 ((m.v.2.2.2.2.2.2.1.length:Int):Int))]).bind fun r_3=>((loop (ZEq m) (r_3,0)).bind (ZGm)))
noncomputable def ZCA (m:ZBi):Option ((List UInt8)×Int):=
 ((ZEa m).bind fun r_=>(if(!r_) then some ([],80) else((ZDo [] [(ZAs 3 (m.v.1:Int)),(ZAs 3 (m.v.2.1:Int)),(ZAs 3 (m.v.2.2.1:Int)),(ZAs 3 (m.v.2.2.2.1:Int)),(ZAs 9 (m.v.2.2.2.2.1:Str)),(ZAs 3 ((m.v.2.2.2.2.2.1.length:Int):Int))]).bind fun r_1=>((loop (ZEp m) (r_1,0)).bind (ZGn m)))))
noncomputable def ZDE (l:ZAd):((List UInt8)×Int)→Option (((List UInt8)×Int) ⊕ (List UInt8))
 | (b3,v)=>(if(decide (v<(l.v.2.1.length:Int))) then((nth l.v.2.1 v).bind fun v1=>((ZDo b3 [(ZAs 9 (v1:Str))]).bind fun r_3=>some (.inl (r_3,(IntKind.i64.wrap (v+1)))))) else some (.inr b3))
noncomputable def ZDF (l:ZAd):((List UInt8)×Int)→Option (((List UInt8)×Int) ⊕ (List UInt8))
 | (b5,v2)=>(if(decide (v2<(l.v.2.2.1.length:Int))) then((nth l.v.2.2.1 v2).bind fun v3=>((ZDo b5 [(ZAs 3 (v3:Int))]).bind fun r_4=>some (.inl (r_4,(IntKind.i64.wrap (v2+1)))))) else some (.inr b5))
noncomputable def ZE7:(List UInt8)→Option ((List UInt8)×Int)
 | b6=>some (b6,0)
noncomputable def ZE8 (l:ZAd):(List UInt8)→Option ((List UInt8)×Int)
 | b4=>((loop (ZDF l) (b4,0)).bind (ZE7))
noncomputable def ZBR (l:ZAd):Option ((List UInt8)×Int):=
 ((if(decide ((l.v.2.1.length:Int) > 256)) then some true else some ((l.v.2.2.1.length:Int) !=(l.v.2.1.length:Int))).bind fun b=>((if b then some true else((ZBl l.v.2.1).bind fun r_=>some (!r_))).bind fun b1=>((if b1 then some true else((ZBH l.v.2.2.1 (Clo.mk ((PtrC.mk l:PtrC ZAd),()):Clo 88 ((PtrC ZAd)×Unit))).bind fun r_1=>some r_1)).bind fun b2=>(if b2 then some ([],80) else((ZDo [] [(ZAs 4 (l.v.1:Bool)),(ZAs 3 ((l.v.2.1.length:Int):Int))]).bind fun r_2=>((loop (ZDE l) (r_2,0)).bind (ZE8 l)))))))
noncomputable def ZCB (x:ZAO):Option (Bool):=
 ((ZCA (Rec.mk (x.v.2.1,x.v.2.2.1,x.v.2.2.2.1,(0:Int),x.v.2.2.2.2.2.1,x.v.2.2.2.2.2.2.2.2.1,([]:(List RefR)),()):ZBi)).bind fun r_=>((if((x.v.2.2.2.2.1.length:Int)==0) then some true else((if(x.v.2.1==1) then some (decide ((x.v.2.2.2.2.1.length:Int)≤32768)) else some false).bind fun b1=>some b1)).bind fun b=>((if(r_.2 !=0) then some true else some (!b)).bind fun b2=>((if b2 then some true else some (decide (x.v.1<1))).bind fun b3=>((if b3 then some true else some (decide (x.v.1 > 1024))).bind fun b4=>(if b4 then some (false) else(if(x.v.2.1 !=2) then some (((IntKind.i64.wrap ((x.v.2.2.2.2.2.2.1.length:Int)+(x.v.2.2.2.2.2.2.2.1.length:Int)))==0)) else((ZBR (Rec.mk (true,x.v.2.2.2.2.2.2.1,x.v.2.2.2.2.2.2.2.1,()):ZAd)).bind fun r_1=>((if(r_1.2==0) then some (x.v.2.2.2.1==1) else some false).bind fun b5=>((if b5 then some (decide ((x.v.2.2.2.2.2.2.1.length:Int)≤128)) else some false).bind fun b6=>some (b6)))))))))))
theorem ZK5 (mx:Int) (s_:Str) (r:Int) (h:ZBa s_=some r):MF Tryz.prog (pv0 mx) 66 [enc s_] (sG (NG mx)) fun v _=>ris v r:=by
 refine ZAh [(0,enc s_)] func66 rfl (by simp only[Tryz.f66];rfl) fun ψ=> ?_
 unfold ZBa at h;have hs:Hp (sG (NG mx)) [.gl (NG mx)]:=Hp.gl0
 refine ZAB<|ZAC<|ZAG (v:=enc (0:Int)) rfl<|ZAA<|ZAB<|ZAQ<|ZAB<|ZAC<|ZAE rfl<|ZAJ (v:=enc ((eqS s_ (str [])):Bool)) rfl rfl rfl<|ZAG rfl<|ZAA ?_
 split at h
 ·rename_i c';refine ZAH rfl c'<|ZAB<|ZAC<|ZAG (v:=enc (206:Int)) rfl<|ZAA<|ZAN ?_
  show if _ then _ else _
  rw[if_neg (by simp)]
  rw[←oi h];exact⟨rfl,KE1 (a:=(206:Int)) rfl rfl (rfl:is _ (206:Int)) (rfl:is _ (206:Int))⟩
 rename_i c';refine ZAI rfl c'<|ZAB<|ZAC<|ZAE rfl<|ZE6 underlying9 rfl rfl<|ZAJ (v:=enc (decide (((List.length s_:Nat):Int) > 100))) rfl rfl rfl<|ZAG rfl<|ZAA ?_
 split at h
 ·rename_i c';refine ZAH rfl c'<|ZAB<|ZAC<|ZAG (v:=enc (208:Int)) rfl<|ZAA<|ZAN ?_
  show if _ then _ else _
  rw[if_neg (by simp)]
  rw[←oi h];exact⟨rfl,KE1 (a:=(208:Int)) rfl rfl (rfl:is _ (208:Int)) (rfl:is _ (208:Int))⟩
 rename_i c';refine ZAI rfl c'<|ZAB<|ZAC<|ZAE rfl<|ZAJ (v:=enc ((eqS s_ (str [46])):Bool)) rfl rfl rfl<|ZAE rfl ?_
 obtain⟨b,hb_b,h⟩:=bs h;refine ZAS 3 (fun φ s=>Hp s [(.gl (NG mx))]∧Fx φ [(0,(enc s_)),(18,(enc b))]) ?_ ?_
 ·split at hb_b
  ·rename_i cg;refine ZAD rfl rfl (by simpa using cg)<|ZAD rfl rfl (by simpa using cg)<|ZAa (v:=enc true) rfl cg rfl<|ZAA ?_
   rw[←oi hb_b];exact⟨hs,FxR rfl⟩
  rename_i cg1;refine ZAF rfl rfl (by simpa using cg1)<|ZAE rfl<|ZAF rfl rfl (by simpa using cg1)<|ZAJ (v:=enc ((eqS s_ (str [46,46])):Bool)) rfl rfl rfl<|ZAZ rfl cg1 rfl<|ZAA ?_
  rw[←oi hb_b];exact⟨hs,FxR rfl⟩
 rintro φ s ⟨hs,hF⟩;rw[←hF.eq];refine ZAE rfl ?_
 obtain⟨b1,hb_b1,h⟩:=bs h;refine ZAS 4 (fun φ s=>Hp s [(.gl (NG mx))]∧Fx φ [(0,(enc s_)),(23,(enc b1))]) ?_ ?_
 ·split at hb_b1
  ·rename_i cg2;refine ZAD rfl rfl (by simpa using cg2)<|ZAD rfl rfl (by simpa using cg2)<|ZAD rfl rfl (by simpa using cg2)<|ZAa (v:=enc true) rfl cg2 rfl<|ZAA ?_
   rw[←oi hb_b1];exact⟨hs,FxR rfl⟩
  rename_i cg3;refine ZAF rfl rfl (by simpa using cg3)<|ZAE rfl<|ZAF rfl rfl (by simpa using cg3) ?_
  obtain⟨r_,hx,hb_b1⟩:=bs hb_b1;refine ZAY (f:=fun a:Str×Unit=>utf8_ValidString a.1) (a:=(s_,())) rfl func79 rfl rfl (.cons (a:=s_) (Enc.self _) .nil) hs List.mem_cons_self hx<|ZAF rfl rfl (by simpa using cg3)<|ZBO (v:=enc (!r_)) rfl rfl<|ZAZ rfl cg3 rfl<|ZAA ?_
  rw[←oi hb_b1];exact⟨hs,FxR rfl⟩
 rintro φ s ⟨hs,hF⟩;rw[←hF.eq];refine ZAG rfl<|ZAA ?_
 split at h
 ·rename_i c';refine ZAH rfl c'<|ZAB<|ZAC<|ZAG (v:=enc (206:Int)) rfl<|ZAA<|ZAN ?_
  show if _ then _ else _
  rw[if_neg (by simp)]
  rw[←oi h];exact⟨rfl,KE1 (a:=(206:Int)) rfl rfl (rfl:is _ (206:Int)) (rfl:is _ (206:Int))⟩
 rename_i c';refine ZAI rfl c'<|ZAL<|ZAB<|ZAB<|ZAC<|ZAE rfl<|ZXK underlying9 rfl hs fun m s hs=>ZAA<|ZAQ ?_
 obtain⟨o,hl,h⟩:=bs h;refine ZAk (fun(p:Nat) φ s=>match p with | v=>Fx φ [(25,(.ptr m 0))]∧Hp s [(.gl (NG mx)),(.it m s_ v)]) (fun(o:(Unit ⊕ Int)) e φ s=>match o with | (.inl _)=>e= .exit 1∧Fx φ []∧Hp s [(.gl (NG mx))] | (.inr v1)=>e= .ret∧Fx φ [(2,(enc v1))]∧Hp s [(.gl (NG mx))]) ?_ hl ⟨FxR rfl,(Hp.front [(.it m s_ 0)] (b:=[]) (Hp.front [] (b:=[(.gl (NG mx))]) hs))⟩ ?_
 ·rintro v o h φ s ⟨hF,hs⟩;rw[←hF.eq];rw[ZCt] at h;refine ZAB<|ZAC ?_
  replace hs:=Hp.front [(.gl (NG mx))] (b:=[]) hs;split at h
  ·rename_i cn;refine ZU4 rfl hs cn fun s hs=>ZAy rfl rfl<|ZAA<|ZAB<|ZAH rfl rfl<|ZAL<|ZAQ<|ZAB<|ZAC<|ZAy rfl rfl<|ZAG rfl<|ZAA<|ZAB<|ZAC<|ZAE rfl ?_
   refine ZAJ (v:=enc ((((ZCS s_ v)).v==((Rune.mk 47)).v):Bool)) rfl rfl rfl<|ZAE rfl ?_
   obtain⟨b2,hb_b2,h⟩:=bs h;refine ZAS 3 (fun φ s=>Hp s [(.it m s_ (v+ZBg s_ v)),(.gl (NG mx))]∧Fx φ [(25,(.ptr m 0)),(34,(enc b2))]) ?_ ?_
   ·split at hb_b2
    ·rename_i cg4;refine ZAD rfl rfl (by simpa using cg4)<|ZAD rfl rfl (by simpa using cg4)<|ZAa (v:=enc true) rfl cg4 rfl<|ZAA ?_
     rw[←oi hb_b2];exact⟨hs,FxR rfl⟩
    rename_i cg5;refine ZAF rfl rfl (by simpa using cg5)<|ZAE rfl<|ZAF rfl rfl (by simpa using cg5)<|ZAJ (v:=enc ((((ZCS s_ v)).v==((Rune.mk 0)).v):Bool)) rfl rfl rfl<|ZAZ rfl cg5 rfl<|ZAA ?_
    rw[←oi hb_b2];exact⟨hs,FxR rfl⟩
   rintro φ s ⟨hs,hF⟩;rw[←hF.eq];refine ZAA ?_
   split at h
   ·rename_i c';refine ZAH rfl c'<|ZAB<|ZAC<|ZAG (v:=enc (206:Int)) rfl<|ZAA<|ZAN ?_
    show if _ then _ else _
    rw[if_neg (by simp)]
    rw[←oi h];exact⟨_,rfl,rfl,⟨FxR rfl,(Hp.drop [] (b:=[(.gl (NG mx))]) hs)⟩⟩
   rename_i c';refine ZAI rfl c'<|ZAL ?_
   rw[←oi h];exact⟨_,rfl,⟨FxR rfl,(Hp.front [(.it m s_ (v+ZBg s_ v))] (b:=[]) (Hp.front [] (b:=[(.gl (NG mx))]) hs))⟩⟩
  rename_i cn;refine ZU5 rfl hs cn<|ZAy rfl rfl<|ZAA<|ZAB<|ZAI rfl Bool.false_ne_true<|ZAf ?_
  rw[←oi h];exact⟨_,rfl,rfl,⟨trivial,(Hp.drop [] (b:=[(.gl (NG mx))]) hs)⟩⟩
 intro e φ s hE;rcases o with _u | v1
 ·obtain⟨rfl,hF,hs⟩:=hE;rw[←hF.eq];rw[ZDw] at h;show if _ then _ else _
  rw[if_pos rfl];refine ZAB<|ZAC<|ZAG (v:=enc (0:Int)) rfl<|ZAA<|ZAN ?_
  rw[←oi h];exact⟨rfl,KE1 (a:=(0:Int)) rfl rfl (rfl:is _ (0:Int)) (rfl:is _ (0:Int))⟩
 obtain⟨rfl,hF,hs⟩:=hE;rw[←hF.eq];rw[ZDw] at h;show if _ then _ else _
 rw[if_neg (by simp)]
 rw[←oi h];exact⟨rfl,KE1 (a:=v1) rfl rfl (rfl:is _ v1) (rfl:is _ v1)⟩
theorem ZK6 (mx:Int):ZAq Tryz.prog 66 (FnG (NG mx) (fun a:Str×Unit=>ZBa a.1)):=fnCG (ZT9 mx) ⟨_,func66,rfl⟩<|fun a r h=>ZK5 mx a.1 r h
noncomputable def pv1 (mx:Int):Prims:=(pv0 mx).addG 66 (FnG (NG mx) (fun a:Str×Unit=>ZBa a.1))
theorem ZUC (mx:Int):ZAX Tryz.prog (pv1 mx):=ZAR (ZT9 mx) (ZK6 mx)
theorem ZK7 (mx:Int) (l:(List Str)) (r:Bool) (h:ZBl l=some r):MF Tryz.prog (pv1 mx) 89 [enc l] (sG (NG mx)) fun v _=>ris v r:=by
 refine ZAh [(0,enc l)] func89 rfl (by simp only[Tryz.f89];rfl) fun ψ=> ?_
 unfold ZBl at h;have hs:Hp (sG (NG mx)) [.gl (NG mx)]:=Hp.gl0
 refine ZAB<|ZAC<|ZAG (v:=enc false) rfl<|ZAA<|ZAB<|ZAB<|ZAC<|ZAE rfl<|ZAo underlying43 rfl rfl (Enc.self l)<|ZAE (v:=enc (0:Int)) rfl<|ZAA<|ZAQ ?_
 obtain⟨o,hl,h⟩:=bs h;refine ZAk (fun(p:Int) φ s=>match p with | v=>Fx φ [(0,(enc (l:(List Str)))),(5,(enc (l:(List Str)))),(6,(enc ((l.length:Int):Int))),(7,(enc v))]∧Hp s [(.gl (NG mx))]) (fun(o:(Unit ⊕ Bool)) e φ s=>match o with | (.inl _)=>e= .exit 0∧Fx φ []∧Hp s [(.gl (NG mx))] | (.inr v1)=>e= .ret∧Fx φ [(2,(enc v1))]∧Hp s [(.gl (NG mx))]) ?_ hl ⟨FxR rfl,hs⟩ ?_
 ·rintro v o h φ s ⟨hF,hs⟩;rw[←hF.eq];rw[ZFS] at h;refine ZAB<|ZAC<|ZAJ (v:=enc (decide (v<(l.length:Int)))) rfl rfl rfl<|ZAA<|ZAB ?_
  split at h
  ·rename_i c';refine ZAH rfl c'<|ZAL<|ZAB<|ZAQ<|ZAB<|ZAC<|ZAE rfl ?_
   obtain⟨v2,hx,h⟩:=bs h;refine ZAu underlying43 sh9 rfl rfl (Enc.self l) hx fun p hp=>ZB8 rfl ag9 rfl hp fun y hy=> ?_
   cases hy;refine ZAG rfl<|ZAG rfl<|ZAA<|ZAB<|ZAC<|ZAE rfl ?_
   obtain⟨r_,hx1,h⟩:=bs h;refine ZAY (f:=fun a:Str×Unit=>ZBa a.1) (a:=(v2,())) rfl func66 rfl rfl (.cons (a:=v2) (Enc.self _) .nil) hs List.mem_cons_self hx1<|ZAJ (v:=enc (r_ !=0)) rfl rfl rfl<|ZAE rfl ?_
   obtain⟨b,hb_b,h⟩:=bs h;refine ZAS 12 (fun φ s=>Hp s [(.gl (NG mx))]∧Fx φ [(0,(enc (l:(List Str)))),(5,(enc (l:(List Str)))),(6,(enc ((l.length:Int):Int))),(7,(enc v)),(27,(enc b))]) ?_ ?_
   ·split at hb_b
    ·rename_i cg;refine ZAD rfl rfl (by simpa using cg)<|ZAD rfl rfl (by simpa using cg)<|ZAD rfl rfl (by simpa using cg)<|ZAP rfl rfl<|ZAP rfl rfl<|ZAP rfl rfl<|ZAP rfl rfl<|ZAP rfl rfl<|ZAP rfl rfl<|ZAP rfl rfl<|ZAD rfl rfl (by simpa using cg)<|ZAa (v:=enc true) rfl cg rfl<|ZAA ?_
     rw[←oi hb_b];exact⟨hs,FxR rfl⟩
    rename_i cg1;refine ZAF rfl rfl (by simpa using cg1)<|ZAE rfl<|ZAF rfl rfl (by simpa using cg1)<|ZAJ (v:=enc (decide (v > 0))) rfl rfl rfl<|ZAF rfl rfl (by simpa using cg1)<|ZAE rfl ?_
    obtain⟨b1,hb_b1,hb_b⟩:=bs hb_b;refine ZAS 8 (fun φ s=>Hp s [(.gl (NG mx))]∧Fx φ [(0,(enc (l:(List Str)))),(5,(enc (l:(List Str)))),(6,(enc ((l.length:Int):Int))),(7,(enc v)),(15,(enc (r_ !=0))),(26,(enc b1))]) ?_ ?_
    ·split at hb_b1
     ·rename_i cg2;refine ZAF rfl rfl cg2<|ZAE rfl<|ZAF rfl rfl cg2<|ZAE rfl<|ZAF rfl rfl cg2<|ZAE rfl<|ZAF rfl rfl cg2<|ZAJ (v:=enc (IntKind.i64.wrap (v - 1))) rfl rfl rfl<|ZAF rfl rfl cg2 ?_
      obtain⟨v3,hx2,hb_b1⟩:=bs hb_b1;refine ZAu underlying43 sh9 rfl rfl (Enc.self l) hx2 fun p1 hp1=>ZAF rfl rfl cg2<|ZB8 rfl ag9 rfl hp1 fun y1 hy1=> ?_
      cases hy1;refine ZAF rfl rfl cg2<|ZAJ (v:=enc ((ltS v2 v3 || eqS v2 v3):Bool)) rfl rfl rfl<|ZAF rfl rfl (by simpa using cg1)<|ZAa rfl cg2 rfl<|ZAA ?_
      rw[←oi hb_b1];exact⟨hs,FxR rfl⟩
     rename_i cg3;refine ZAD rfl rfl cg3<|ZAD rfl rfl cg3<|ZAD rfl rfl cg3<|ZAD rfl rfl cg3<|ZAD rfl rfl cg3<|ZAD rfl rfl cg3<|ZAD rfl rfl cg3<|ZAF rfl rfl (by simpa using cg1)<|ZAZ (v:=enc false) rfl cg3 rfl<|ZAA ?_
     rw[←oi hb_b1];exact⟨hs,FxR rfl⟩
    rintro φ s ⟨hs,hF⟩;rw[←hF.eq];refine ZAZ rfl cg1 rfl<|ZAA ?_
    rw[←oi hb_b];exact⟨hs,FxR rfl⟩
   rintro φ s ⟨hs,hF⟩;rw[←hF.eq];refine ZAA ?_
   split at h
   ·rename_i c';refine ZAH rfl c'<|ZAB<|ZAC<|ZAG (v:=enc false) rfl<|ZAA<|ZAN ?_
    show if _ then _ else _
    rw[if_neg (by simp)]
    rw[←oi h];exact⟨_,rfl,rfl,⟨FxR rfl,hs⟩⟩
   rename_i c';refine ZAI rfl c'<|ZAL<|ZAC<|ZAJ (v:=enc (IntKind.i64.wrap (v+1))) rfl rfl rfl<|ZAE rfl<|ZAA ?_
   rw[←oi h];exact⟨_,rfl,⟨FxR rfl,hs⟩⟩
  rename_i c';refine ZAI rfl c'<|ZAf ?_
  rw[←oi h];exact⟨_,rfl,rfl,⟨trivial,hs⟩⟩
 intro e φ s hE;rcases o with _u | v1
 ·obtain⟨rfl,hF,hs⟩:=hE;rw[←hF.eq];rw[ZFT] at h;show if _ then _ else _
  rw[if_pos rfl];refine ZAB<|ZAC<|ZAG (v:=enc true) rfl<|ZAA<|ZAN ?_
  rw[←oi h];exact⟨rfl,KE1 (a:=(true:Bool)) rfl rfl (rfl:is _ (true:Bool)) (rfl:is _ (true:Bool))⟩
 obtain⟨rfl,hF,hs⟩:=hE;rw[←hF.eq];rw[ZFT] at h;show if _ then _ else _
 rw[if_neg (by simp)]
 rw[←oi h];exact⟨rfl,KE1 (a:=v1) rfl rfl (rfl:is _ v1) (rfl:is _ v1)⟩
theorem ZK8 (mx:Int):ZAq Tryz.prog 89 (FnG (NG mx) (fun a:(List Str)×Unit=>ZBl a.1)):=fnCG (ZUC mx) ⟨_,func89,rfl⟩<|fun a r h=>ZK7 mx a.1 r h
noncomputable def pv2 (mx:Int):Prims:=(pv1 mx).addG 89 (FnG (NG mx) (fun a:(List Str)×Unit=>ZBl a.1))
theorem ZUD (mx:Int):ZAX Tryz.prog (pv2 mx):=ZAR (ZUC mx) (ZK8 mx)
theorem ZMZ (mx:Int) (l:(List ZAi)) (r:Bool) (h:ZDY l=some r):MF Tryz.prog (pv2 mx) 107 [enc l] (sG (NG mx)) fun v _=>ris v r:=by
 refine ZAh [(0,enc l)] func107 rfl (by simp only[Tryz.f107];rfl) fun ψ=> ?_
 unfold ZDY at h;have hs:Hp (sG (NG mx)) [.gl (NG mx)]:=Hp.gl0
 refine ZAB<|ZAC<|ZAG (v:=enc false) rfl<|ZAA<|ZAB<|ZAC<|ZAG (v:= .nils) rfl<|ZAA<|ZAB<|ZAB<|ZAC<|ZAE rfl<|ZAo underlying45 rfl rfl (Enc.self l)<|ZAE (v:=enc (0:Int)) rfl<|ZAA ?_
 refine ZAQ ?_
 obtain⟨o,hl,h⟩:=bs h;refine ZAk (fun(p:((List Str)×Int)) φ s=>match p with | (names,v)=>∃(x_names:AV),is x_names names∧ZBd x_names=true∧Fx φ [(0,(enc (l:(List ZAi)))),(3,x_names),(6,(enc (l:(List ZAi)))),(7,(enc ((l.length:Int):Int))),(8,(enc v))]∧Hp s [(.gl (NG mx)), .own x_names]) (fun(o:((List Str) ⊕ Bool)) e φ s=>match o with | (.inl names1)=>e= .exit 0∧∃(x_names1:AV),is x_names1 names1∧ZBd x_names1=true∧Fx φ [(0,(enc (l:(List ZAi)))),(3,x_names1)]∧Hp s [(.gl (NG mx)), .own x_names1] | (.inr v1)=>e= .ret∧Fx φ [(2,(enc v1))]∧Hp s [(.gl (NG mx))]) ?_ hl ⟨.nils,isL.nil,rfl,FxR rfl,(Hp.front [.own .nils] (b:=[]) (Hp.front [] (b:=[(.gl (NG mx))]) (Hp.add hs rfl)))⟩ ?_
 ·rintro⟨names,v⟩ o h φ s ⟨x_names,h_names,h_namesc,hF,hs⟩;rw[←hF.eq];rw[ZF9] at h;refine ZAB<|ZAC<|ZAJ (v:=enc (decide (v<(l.length:Int)))) rfl rfl rfl<|ZAA<|ZAB ?_
  split at h
  ·rename_i c';refine ZAH rfl c'<|ZAL<|ZAB<|ZAQ<|ZAB<|ZAC ?_
   obtain⟨v2,hx,h⟩:=bs h;refine ZAu underlying45 ZSw rfl rfl (Enc.self l) hx fun p hp=>ZDs ZWB ZSv rfl hp fun y hy=>ZBG (r:=(Rec.mk ((str []),([]:(List UInt8)),()):ZAi)) ZWm ZTD hs fun m s hs=>ZAx (r:=v2) ZSv rfl rfl ZTD hy hs fun xs s hxs hs=>ZAA<|ZAB<|ZAC<|ZAE (v:=x_names) rfl<|ZAV ZNr rfl<|ZAK ag9 Sz rfl hxs hs fun y1 hy1=> ?_
   cases hy1;refine ZDv [(enc v2.v.1)] ([v2.v.1]:(List Str)) underlying43 ef9 rfl rfl rfl (Nat.le_of_ble_eq_true rfl) ⟨(rfl:is _ v2.v.1),trivial⟩ fun z hz hzc hzn=> ?_
   obtain⟨l1,hx1,h⟩:=bs h;refine ZKt [(.cells m xs),(.gl (NG mx))] (es2:=[]) underlying43 underlying43 rfl rfl ef9 rfl rfl h_names h_namesc hs hz hx1 fun z1 s hz1 hz1c hs=>ZAG (v:=z1) rfl<|ZAA<|ZAB<|ZAC<|ZAV ZNs rfl<|ZAK ag42 (Ss Sz) rfl hxs hs fun y2 hy2=>ZAo underlying42 rfl rfl hy2<|ZAJ (v:=enc (decide ((v2.v.2.1.length:Int) > 256))) rfl rfl rfl<|ZAA ?_
   split at h
   ·rename_i c';refine ZAH rfl c'<|ZAB<|ZAC<|ZAG (v:=enc false) rfl<|ZAA<|ZAN ?_
    show if _ then _ else _
    rw[if_neg (by simp)]
    rw[←oi h];exact⟨_,rfl,rfl,⟨FxR rfl,(Hp.drop [(.gl (NG mx))] (b:=[]) (Hp.drop [] (b:=[(.gl (NG mx)), .own z1]) hs))⟩⟩
   rename_i c';refine ZAI rfl c'<|ZAL<|ZAC<|ZAJ (v:=enc (IntKind.i64.wrap (v+1))) rfl rfl rfl<|ZAE rfl<|ZAA ?_
   rw[←oi h];exact⟨_,rfl,⟨z1,hz1,hz1c,FxR rfl,(Hp.drop [] (b:=[(.gl (NG mx)), .own z1]) hs)⟩⟩
  rename_i c';refine ZAI rfl c'<|ZAf ?_
  rw[←oi h];exact⟨_,rfl,rfl,⟨x_names,h_names,h_namesc,FxR rfl,hs⟩⟩
 intro e φ s hE;rcases o with names1 | v1
 ·obtain⟨rfl,x_names1,h_names1,h_names1c,hF,hs⟩:=hE;rw[←hF.eq];rw[ZGA] at h;show if _ then _ else _
  rw[if_pos rfl];refine ZAB<|ZAC<|ZAE rfl<|ZAo underlying45 rfl rfl (Enc.self l)<|ZAJ (v:=enc (decide ((l.length:Int)≤8))) rfl rfl rfl<|ZAE rfl ?_
  obtain⟨b,hb_b,h⟩:=bs h;refine ZAS 3 (fun φ s=>Hp s [(.gl (NG mx)), .own x_names1]∧Fx φ [(28,(enc b))]) ?_ ?_
  ·split at hb_b
   ·rename_i cg;refine ZAF rfl rfl cg<|ZAE (v:=x_names1) rfl<|ZAF rfl rfl cg ?_
    obtain⟨r_,hx2,hb_b⟩:=bs hb_b;refine ZAY (f:=fun a:(List Str)×Unit=>ZBl a.1) (a:=(names1,())) rfl func89 rfl rfl (.cons (a:=names1) h_names1 .nil) hs List.mem_cons_self hx2<|ZAa rfl cg rfl<|ZAA ?_
    rw[←oi hb_b];exact⟨hs,FxR rfl⟩
   rename_i cg1;refine ZAD rfl rfl cg1<|ZAD rfl rfl cg1<|ZAZ (v:=enc false) rfl cg1 rfl<|ZAA ?_
   rw[←oi hb_b];exact⟨hs,FxR rfl⟩
  rintro φ s ⟨hs,hF⟩;rw[←hF.eq];refine ZAG rfl<|ZAA<|ZAN ?_
  rw[←oi h];exact⟨rfl,KE1 (a:=b) rfl rfl (rfl:is _ b) (rfl:is _ b)⟩
 obtain⟨rfl,hF,hs⟩:=hE;rw[←hF.eq];rw[ZGA] at h;show if _ then _ else _
 rw[if_neg (by simp)]
 rw[←oi h];exact⟨rfl,KE1 (a:=v1) rfl rfl (rfl:is _ v1) (rfl:is _ v1)⟩
theorem ZMa (mx:Int):ZAq Tryz.prog 107 (FnG (NG mx) (fun a:(List ZAi)×Unit=>ZDY a.1)):=fnCG (ZUD mx) ⟨_,func107,rfl⟩<|fun a r h=>ZMZ mx a.1 r h
noncomputable def pv3 (mx:Int):Prims:=(pv2 mx).addG 107 (FnG (NG mx) (fun a:(List ZAi)×Unit=>ZDY a.1))
theorem ZUE (mx:Int):ZAX Tryz.prog (pv3 mx):=ZAR (ZUD mx) (ZMa mx)
theorem ZK9 (mx:Int) (m:ZBi) (r:Bool) (h:ZCM m=some r):MF Tryz.prog (pv3 mx) 106 [enc m] (sG (NG mx)) fun v _=>ris v r:=by
 refine ZAh [(0,enc m)] func106 rfl (by simp only[Tryz.f106];rfl) fun ψ=> ?_
 unfold ZCM at h;have hs:Hp (sG (NG mx)) [.gl (NG mx)]:=Hp.gl0
 refine ZAB<|ZAC<|ZA5 (r:=m) rfl (Enc.self m) hs fun m1 xs s hxs hs=>ZAG (v:=enc false) rfl<|ZAA<|ZAB<|ZAB<|ZAC<|ZAV ZF5 rfl<|ZAK ag41 Sz rfl hxs hs fun y hy=> ?_
 cases hy;refine ZAJ (v:=enc (m.v.1 !=3)) rfl rfl rfl<|ZAA ?_
 split at h
 ·rename_i c';refine ZAH rfl c'<|ZAB<|ZAC<|ZAV ZF7 rfl<|ZAK ag9 (Ss (Ss (Ss (Ss Sz)))) rfl hxs hs fun y1 hy1=> ?_
  cases hy1;refine ZAJ (v:=enc ((eqS m.v.2.2.2.2.1 (str [])):Bool)) rfl rfl rfl<|ZAG rfl<|ZAA<|ZAN ?_
  rw[←oi h];exact⟨rfl,KE1 (a:=((eqS m.v.2.2.2.2.1 (str [])):Bool)) rfl rfl (rfl:is _ ((eqS m.v.2.2.2.2.1 (str [])):Bool)) (rfl:is _ ((eqS m.v.2.2.2.2.1 (str [])):Bool))⟩
 rename_i c';refine ZAI rfl c'<|ZAL<|ZAB<|ZAC<|ZAV ZF7 rfl<|ZAK ag9 (Ss (Ss (Ss (Ss Sz)))) rfl hxs hs fun y2 hy2=> ?_
 cases hy2;refine ZAJ (v:=enc (!eqS m.v.2.2.2.2.1 (str []))) rfl rfl rfl<|ZAE rfl ?_
 obtain⟨b,hb_b,h⟩:=bs h;refine ZAS 5 (fun φ s=>Hp s [(.cells m1 xs),(.gl (NG mx))]∧Fx φ [(1,(.ptr m1 0)),(17,(enc b))]) ?_ ?_
 ·split at hb_b
  ·rename_i cg;refine ZAF rfl rfl cg<|ZAV ZF7 rfl<|ZAF rfl rfl cg<|ZAK ag9 (Ss (Ss (Ss (Ss Sz)))) rfl hxs hs fun y3 hy3=> ?_
   cases hy3;refine ZAF rfl rfl cg<|ZE6 underlying9 rfl rfl<|ZAF rfl rfl cg<|ZAJ (v:=enc (decide (((List.length m.v.2.2.2.2.1:Nat):Int)≤1000))) rfl rfl rfl<|ZAa rfl cg rfl<|ZAA ?_
   rw[←oi hb_b];exact⟨hs,FxR rfl⟩
  rename_i cg1;refine ZAD rfl rfl cg1<|ZAD rfl rfl cg1<|ZAD rfl rfl cg1<|ZAD rfl rfl cg1<|ZAZ (v:=enc false) rfl cg1 rfl<|ZAA ?_
  rw[←oi hb_b];exact⟨hs,FxR rfl⟩
 rintro φ s ⟨hs,hF⟩;rw[←hF.eq];refine ZAE rfl ?_
 obtain⟨b1,hb_b1,h⟩:=bs h;refine ZAS 5 (fun φ s=>Hp s [(.cells m1 xs),(.gl (NG mx))]∧Fx φ [(1,(.ptr m1 0)),(23,(enc b1))]) ?_ ?_
 ·split at hb_b1
  ·rename_i cg2;refine ZAF rfl rfl cg2<|ZAV ZF7 rfl<|ZAF rfl rfl cg2<|ZAK ag9 (Ss (Ss (Ss (Ss Sz)))) rfl hxs hs fun y4 hy4=> ?_
   cases hy4;refine ZAF rfl rfl cg2 ?_
   obtain⟨r_,hx,hb_b1⟩:=bs hb_b1;refine ZCr (f:=fun a:Str×Str×Unit=>ZBs a.1 a.2.1) (a:=(m.v.2.2.2.2.1,(str [0]),())) rfl func123 rfl rfl (.cons (a:=m.v.2.2.2.2.1) (Enc.self _) (.cons (a:=((str [0]):Str)) (Enc.self _) .nil)) hx<|ZAF rfl rfl cg2<|ZBO (v:=enc (!r_)) rfl rfl<|ZAa rfl cg2 rfl<|ZAA ?_
   rw[←oi hb_b1];exact⟨hs,FxR rfl⟩
  rename_i cg3;refine ZAD rfl rfl cg3<|ZAD rfl rfl cg3<|ZAD rfl rfl cg3<|ZAD rfl rfl cg3<|ZAZ (v:=enc false) rfl cg3 rfl<|ZAA ?_
  rw[←oi hb_b1];exact⟨hs,FxR rfl⟩
 rintro φ s ⟨hs,hF⟩;rw[←hF.eq];refine ZAE rfl ?_
 obtain⟨b2,hb_b2,h⟩:=bs h;refine ZAS 4 (fun φ s=>Hp s [(.cells m1 xs),(.gl (NG mx))]∧Fx φ [(28,(enc b2))]) ?_ ?_
 ·split at hb_b2
  ·rename_i cg4;refine ZAF rfl rfl cg4<|ZAV ZF6 rfl<|ZAF rfl rfl cg4<|ZAK ag3 (Ss (Ss (Ss Sz))) rfl hxs hs fun y5 hy5=> ?_
   cases hy5;refine ZAF rfl rfl cg4<|ZAJ (v:=enc (m.v.2.2.2.1==0)) rfl rfl rfl<|ZAa rfl cg4 rfl<|ZAA ?_
   rw[←oi hb_b2];exact⟨hs,FxR rfl⟩
  rename_i cg5;refine ZAD rfl rfl cg5<|ZAD rfl rfl cg5<|ZAD rfl rfl cg5<|ZAZ (v:=enc false) rfl cg5 rfl<|ZAA ?_
  rw[←oi hb_b2];exact⟨hs,FxR rfl⟩
 rintro φ s ⟨hs,hF⟩;rw[←hF.eq];refine ZAG rfl<|ZAA<|ZAN ?_
 rw[←oi h];exact⟨rfl,KE1 (a:=b2) rfl rfl (rfl:is _ b2) (rfl:is _ b2)⟩
theorem ZLA (mx:Int):ZAq Tryz.prog 106 (FnG (NG mx) (fun a:ZBi×Unit=>ZCM a.1)):=fnCG (ZUE mx) ⟨_,func106,rfl⟩<|fun a r h=>ZK9 mx a.1 r h
noncomputable def pv4 (mx:Int):Prims:=(pv3 mx).addG 106 (FnG (NG mx) (fun a:ZBi×Unit=>ZCM a.1))
theorem ZUF (mx:Int):ZAX Tryz.prog (pv4 mx):=ZAR (ZUE mx) (ZLA mx)
theorem ZNv (mx:Int) (m:ZBi) (r:Bool) (h:ZEa m=some r):MF Tryz.prog (pv4 mx) 86 [enc m] (sG (NG mx)) fun v _=>ris v r:=by
 refine ZAh [(0,enc m)] func86 rfl (by simp only[Tryz.f86];rfl) fun ψ=> ?_
 unfold ZEa at h;have hs:Hp (sG (NG mx)) [.gl (NG mx)]:=Hp.gl0
 refine ZAB<|ZAC<|ZA5 (r:=m) rfl (Enc.self m) hs fun m1 xs s hxs hs=>ZAG (v:=enc false) rfl<|ZAA<|ZAB<|ZAC<|ZAV ZK2 rfl<|ZAK ag3 (Ss Sz) rfl hxs hs fun y hy=> ?_
 cases hy;refine ZAJ (v:=enc (decide (m.v.2.1≥0))) rfl rfl rfl<|ZAE rfl ?_
 obtain⟨b,hb_b,h⟩:=bs h;refine ZAS 4 (fun φ s=>Hp s [(.cells m1 xs),(.gl (NG mx))]∧Fx φ [(1,(.ptr m1 0)),(14,(enc b))]) ?_ ?_
 ·split at hb_b
  ·rename_i cg;refine ZAF rfl rfl cg<|ZAV ZK2 rfl<|ZAF rfl rfl cg<|ZAK ag3 (Ss Sz) rfl hxs hs fun y1 hy1=> ?_
   cases hy1;refine ZAF rfl rfl cg<|ZAJ (v:=enc (decide (m.v.2.1≤4095))) rfl rfl rfl<|ZAa rfl cg rfl<|ZAA ?_
   rw[←oi hb_b];exact⟨hs,FxR rfl⟩
  rename_i cg1;refine ZAD rfl rfl cg1<|ZAD rfl rfl cg1<|ZAD rfl rfl cg1<|ZAZ (v:=enc false) rfl cg1 rfl<|ZAA ?_
  rw[←oi hb_b];exact⟨hs,FxR rfl⟩
 rintro φ s ⟨hs,hF⟩;rw[←hF.eq];refine ZAE rfl ?_
 obtain⟨b1,hb_b1,h⟩:=bs h;refine ZAS 4 (fun φ s=>Hp s [(.cells m1 xs),(.gl (NG mx))]∧Fx φ [(1,(.ptr m1 0)),(19,(enc b1))]) ?_ ?_
 ·split at hb_b1
  ·rename_i cg2;refine ZAF rfl rfl cg2<|ZAV ZK3 rfl<|ZAF rfl rfl cg2<|ZAK ag3 (Ss (Ss Sz)) rfl hxs hs fun y2 hy2=> ?_
   cases hy2;refine ZAF rfl rfl cg2<|ZAJ (v:=enc (decide (m.v.2.2.1≥0))) rfl rfl rfl<|ZAa rfl cg2 rfl<|ZAA ?_
   rw[←oi hb_b1];exact⟨hs,FxR rfl⟩
  rename_i cg3;refine ZAD rfl rfl cg3<|ZAD rfl rfl cg3<|ZAD rfl rfl cg3<|ZAZ (v:=enc false) rfl cg3 rfl<|ZAA ?_
  rw[←oi hb_b1];exact⟨hs,FxR rfl⟩
 rintro φ s ⟨hs,hF⟩;rw[←hF.eq];refine ZAE rfl ?_
 obtain⟨b2,hb_b2,h⟩:=bs h;refine ZAS 4 (fun φ s=>Hp s [(.cells m1 xs),(.gl (NG mx))]∧Fx φ [(1,(.ptr m1 0)),(24,(enc b2))]) ?_ ?_
 ·split at hb_b2
  ·rename_i cg4;refine ZAF rfl rfl cg4<|ZAV ZK3 rfl<|ZAF rfl rfl cg4<|ZAK ag3 (Ss (Ss Sz)) rfl hxs hs fun y3 hy3=> ?_
   cases hy3;refine ZAF rfl rfl cg4<|ZAJ (v:=enc (decide (m.v.2.2.1≤64))) rfl rfl rfl<|ZAa rfl cg4 rfl<|ZAA ?_
   rw[←oi hb_b2];exact⟨hs,FxR rfl⟩
  rename_i cg5;refine ZAD rfl rfl cg5<|ZAD rfl rfl cg5<|ZAD rfl rfl cg5<|ZAZ (v:=enc false) rfl cg5 rfl<|ZAA ?_
  rw[←oi hb_b2];exact⟨hs,FxR rfl⟩
 rintro φ s ⟨hs,hF⟩;rw[←hF.eq];refine ZAE rfl ?_
 obtain⟨b3,hb_b3,h⟩:=bs h;refine ZAS 4 (fun φ s=>Hp s [(.cells m1 xs),(.gl (NG mx))]∧Fx φ [(1,(.ptr m1 0)),(29,(enc b3))]) ?_ ?_
 ·split at hb_b3
  ·rename_i cg6;refine ZAF rfl rfl cg6<|ZAV ZF6 rfl<|ZAF rfl rfl cg6<|ZAK ag3 (Ss (Ss (Ss Sz))) rfl hxs hs fun y4 hy4=> ?_
   cases hy4;refine ZAF rfl rfl cg6<|ZAJ (v:=enc (decide (m.v.2.2.2.1≥0))) rfl rfl rfl<|ZAa rfl cg6 rfl<|ZAA ?_
   rw[←oi hb_b3];exact⟨hs,FxR rfl⟩
  rename_i cg7;refine ZAD rfl rfl cg7<|ZAD rfl rfl cg7<|ZAD rfl rfl cg7<|ZAZ (v:=enc false) rfl cg7 rfl<|ZAA ?_
  rw[←oi hb_b3];exact⟨hs,FxR rfl⟩
 rintro φ s ⟨hs,hF⟩;rw[←hF.eq];refine ZAE rfl ?_
 obtain⟨b4,hb_b4,h⟩:=bs h;refine ZAS 4 (fun φ s=>Hp s [(.cells m1 xs),(.gl (NG mx))]∧Fx φ [(1,(.ptr m1 0)),(34,(enc b4))]) ?_ ?_
 ·split at hb_b4
  ·rename_i cg8;refine ZAF rfl rfl cg8<|ZAV ZF6 rfl<|ZAF rfl rfl cg8<|ZAK ag3 (Ss (Ss (Ss Sz))) rfl hxs hs fun y5 hy5=> ?_
   cases hy5;refine ZAF rfl rfl cg8<|ZAJ (v:=enc (decide (m.v.2.2.2.1≤32768))) rfl rfl rfl<|ZAa rfl cg8 rfl<|ZAA ?_
   rw[←oi hb_b4];exact⟨hs,FxR rfl⟩
  rename_i cg9;refine ZAD rfl rfl cg9<|ZAD rfl rfl cg9<|ZAD rfl rfl cg9<|ZAZ (v:=enc false) rfl cg9 rfl<|ZAA ?_
  rw[←oi hb_b4];exact⟨hs,FxR rfl⟩
 rintro φ s ⟨hs,hF⟩;rw[←hF.eq];refine ZAE rfl ?_
 obtain⟨b5,hb_b5,h⟩:=bs h;refine ZAS 5 (fun φ s=>Hp s [(.cells m1 xs),(.gl (NG mx))]∧Fx φ [(1,(.ptr m1 0)),(40,(enc b5))]) ?_ ?_
 ·split at hb_b5
  ·rename_i cg10;refine ZAF rfl rfl cg10<|ZAV ZJS rfl<|ZAF rfl rfl cg10<|ZAK ZQ9 (Ss (Ss (Ss (Ss (Ss (Ss Sz)))))) rfl hxs hs fun y6 hy6=>ZAF rfl rfl cg10<|ZAo underlying118 rfl rfl hy6<|ZAF rfl rfl cg10<|ZAJ (v:=enc (decide ((m.v.2.2.2.2.2.2.1.length:Int)≤128))) rfl rfl rfl<|ZAa rfl cg10 rfl<|ZAA ?_
   rw[←oi hb_b5];exact⟨hs,FxR rfl⟩
  rename_i cg11;refine ZAD rfl rfl cg11<|ZAD rfl rfl cg11<|ZAD rfl rfl cg11<|ZAD rfl rfl cg11<|ZAZ (v:=enc false) rfl cg11 rfl<|ZAA ?_
  rw[←oi hb_b5];exact⟨hs,FxR rfl⟩
 rintro φ s ⟨hs,hF⟩;rw[←hF.eq];refine ZAG rfl<|ZAA<|ZAB<|ZAB<|ZAC<|ZAV ZF5 rfl<|ZAK ag41 Sz rfl hxs hs fun y7 hy7=> ?_
 cases hy7;refine ZAJ (v:=enc (decide (m.v.1<1))) rfl rfl rfl<|ZAE rfl ?_
 obtain⟨b6,hb_b6,h⟩:=bs h;refine ZAS 4 (fun φ s=>Hp s [(.cells m1 xs),(.gl (NG mx))]∧Fx φ [(1,(.ptr m1 0)),(3,(enc b5)),(48,(enc b6))]) ?_ ?_
 ·split at hb_b6
  ·rename_i cg12;refine ZAD rfl rfl (by simpa using cg12)<|ZAD rfl rfl (by simpa using cg12)<|ZAD rfl rfl (by simpa using cg12)<|ZAa (v:=enc true) rfl cg12 rfl<|ZAA ?_
   rw[←oi hb_b6];exact⟨hs,FxR rfl⟩
  rename_i cg13;refine ZAF rfl rfl (by simpa using cg13)<|ZAV ZF5 rfl<|ZAF rfl rfl (by simpa using cg13)<|ZAK ag41 Sz rfl hxs hs fun y8 hy8=> ?_
  cases hy8;refine ZAF rfl rfl (by simpa using cg13)<|ZAJ (v:=enc (decide (m.v.1 > 3))) rfl rfl rfl<|ZAZ rfl cg13 rfl<|ZAA ?_
  rw[←oi hb_b6];exact⟨hs,FxR rfl⟩
 rintro φ s ⟨hs,hF⟩;rw[←hF.eq];refine ZAE rfl ?_
 obtain⟨b7,hb_b7,h⟩:=bs h;refine ZAS 3 (fun φ s=>Hp s [(.cells m1 xs),(.gl (NG mx))]∧Fx φ [(1,(.ptr m1 0)),(52,(enc b7))]) ?_ ?_
 ·split at hb_b7
  ·rename_i cg14;refine ZAD rfl rfl (by simpa using cg14)<|ZAD rfl rfl (by simpa using cg14)<|ZAa (v:=enc true) rfl cg14 rfl<|ZAA ?_
   rw[←oi hb_b7];exact⟨hs,FxR rfl⟩
  rename_i cg15;refine ZAF rfl rfl (by simpa using cg15)<|ZAE rfl<|ZAF rfl rfl (by simpa using cg15)<|ZBO (v:=enc (!b5)) rfl rfl<|ZAZ rfl cg15 rfl<|ZAA ?_
  rw[←oi hb_b7];exact⟨hs,FxR rfl⟩
 rintro φ s ⟨hs,hF⟩;rw[←hF.eq];refine ZAE rfl ?_
 obtain⟨b8,hb_b8,h⟩:=bs h;refine ZAS 4 (fun φ s=>Hp s [(.cells m1 xs),(.gl (NG mx))]∧Fx φ [(1,(.ptr m1 0)),(57,(enc b8))]) ?_ ?_
 ·split at hb_b8
  ·rename_i cg16;refine ZAD rfl rfl (by simpa using cg16)<|ZAD rfl rfl (by simpa using cg16)<|ZAD rfl rfl (by simpa using cg16)<|ZAa (v:=enc true) rfl cg16 rfl<|ZAA ?_
   rw[←oi hb_b8];exact⟨hs,FxR rfl⟩
  rename_i cg17;refine ZAF rfl rfl (by simpa using cg17)<|ZAm (r:=m) ZU6 ZSu rfl hxs hs fun y9 hy9=>ZAF rfl rfl (by simpa using cg17) ?_
  obtain⟨r_,hx,hb_b8⟩:=bs hb_b8;refine ZAY (f:=fun a:ZBi×Unit=>ZCM a.1) (a:=(m,())) rfl func106 rfl rfl (.cons (a:=(m:ZBi)) hy9 .nil) hs (lM _ List.mem_cons_self) hx<|ZAF rfl rfl (by simpa using cg17)<|ZBO (v:=enc (!r_)) rfl rfl<|ZAZ rfl cg17 rfl<|ZAA ?_
  rw[←oi hb_b8];exact⟨hs,FxR rfl⟩
 rintro φ s ⟨hs,hF⟩;rw[←hF.eq];refine ZAE rfl ?_
 obtain⟨b9,hb_b9,h⟩:=bs h;refine ZAS 5 (fun φ s=>Hp s [(.cells m1 xs),(.gl (NG mx))]∧Fx φ [(1,(.ptr m1 0)),(63,(enc b9))]) ?_ ?_
 ·split at hb_b9
  ·rename_i cg18;refine ZAD rfl rfl (by simpa using cg18)<|ZAD rfl rfl (by simpa using cg18)<|ZAD rfl rfl (by simpa using cg18)<|ZAD rfl rfl (by simpa using cg18)<|ZAa (v:=enc true) rfl cg18 rfl<|ZAA ?_
   rw[←oi hb_b9];exact⟨hs,FxR rfl⟩
  rename_i cg19;refine ZAF rfl rfl (by simpa using cg19)<|ZAV ZG6 rfl<|ZAF rfl rfl (by simpa using cg19)<|ZAK ag45 (Ss (Ss (Ss (Ss (Ss Sz))))) rfl hxs hs fun y10 hy10=>ZAF rfl rfl (by simpa using cg19) ?_
  obtain⟨r_1,hx1,hb_b9⟩:=bs hb_b9;refine ZAY (f:=fun a:(List ZAi)×Unit=>ZDY a.1) (a:=(m.v.2.2.2.2.2.1,())) rfl func107 rfl rfl (.cons (a:=m.v.2.2.2.2.2.1) hy10 .nil) hs (lM _ List.mem_cons_self) hx1<|ZAF rfl rfl (by simpa using cg19)<|ZBO (v:=enc (!r_1)) rfl rfl<|ZAZ rfl cg19 rfl<|ZAA ?_
  rw[←oi hb_b9];exact⟨hs,FxR rfl⟩
 rintro φ s ⟨hs,hF⟩;rw[←hF.eq];refine ZAA ?_
 split at h
 ·rename_i c';refine ZAH rfl c'<|ZAB<|ZAC<|ZAG (v:=enc false) rfl<|ZAA<|ZAN ?_
  rw[←oi h];exact⟨rfl,KE1 (a:=(false:Bool)) rfl rfl (rfl:is _ (false:Bool)) (rfl:is _ (false:Bool))⟩
 rename_i c';refine ZAI rfl c'<|ZAL<|ZAB<|ZAC<|ZAG (v:=enc (0:Int)) rfl<|ZAA<|ZAB<|ZAB<|ZAC<|ZAV ZJS rfl<|ZAK ZQ9 (Ss (Ss (Ss (Ss (Ss (Ss Sz)))))) rfl hxs hs fun y11 hy11=>ZAo underlying118 rfl rfl hy11<|ZAE (v:=enc (0:Int)) rfl<|ZAA<|ZAQ ?_
 obtain⟨o,hl,h⟩:=bs h;refine ZAk (fun(p:(Int×Int)) φ s=>match p with | (n,v)=>Fx φ [(1,(.ptr m1 0)),(4,(enc n)),(65,y11),(66,(enc ((m.v.2.2.2.2.2.2.1.length:Int):Int))),(67,(enc v))]∧Hp s [(.cells m1 xs),(.gl (NG mx))]) (fun(o:(Int ⊕ Bool)) e φ s=>match o with | (.inl n1)=>e= .exit 0∧Fx φ [(1,(.ptr m1 0)),(4,(enc n1))]∧Hp s [(.cells m1 xs),(.gl (NG mx))] | (.inr v1)=>e= .ret∧Fx φ [(2,(enc v1))]∧Hp s [(.gl (NG mx))]) ?_ hl ⟨FxR rfl,hs⟩ ?_
 ·rintro⟨n,v⟩ o h φ s ⟨hF,hs⟩;rw[←hF.eq];rw[ZFU] at h;refine ZAB<|ZAC<|ZAJ (v:=enc (decide (v<(m.v.2.2.2.2.2.2.1.length:Int)))) rfl rfl rfl<|ZAA<|ZAB ?_
  split at h
  ·rename_i c';refine ZAH rfl c'<|ZAL<|ZAB<|ZAQ<|ZAB<|ZAC ?_
   obtain⟨v2,hx2,h⟩:=bs h;refine ZAu underlying118 ZU7 rfl rfl hy11 hx2 fun p hp=>ZDs ZSy ZNh rfl hp fun y12 hy12=>ZBG (r:=(Rec.mk ((str []),(0:Int),(0:Int),(0:Int),()):RefR)) ZVP ZP6 hs fun m2 s hs=>ZAx (r:=v2) ZNh rfl rfl ZP6 hy12 hs fun xs1 s hxs1 hs=>ZAA<|ZAB<|ZAB<|ZAC<|ZAm (r:=v2) ZSy ZNh rfl hxs1 hs fun y13 hy13=> ?_
   cases h
  rename_i c';refine ZAI rfl c'<|ZAf ?_
  rw[←oi h];exact⟨_,rfl,rfl,⟨FxR rfl,hs⟩⟩
 intro e φ s hE;rcases o with n1 | v1
 ·obtain⟨rfl,hF,hs⟩:=hE;rw[←hF.eq];rw[ZEL] at h;show if _ then _ else _
  rw[if_pos rfl];refine ZAB<|ZAC<|ZAE rfl<|ZAV ZF6 rfl<|ZAK ag3 (Ss (Ss (Ss Sz))) rfl hxs hs fun y14 hy14=> ?_
  cases hy14;refine ZAJ (v:=enc (n1==m.v.2.2.2.1)) rfl rfl rfl<|ZAG rfl<|ZAA<|ZAN ?_
  rw[←oi h];exact⟨rfl,KE1 (a:=((n1==m.v.2.2.2.1):Bool)) rfl rfl (rfl:is _ ((n1==m.v.2.2.2.1):Bool)) (rfl:is _ ((n1==m.v.2.2.2.1):Bool))⟩
 obtain⟨rfl,hF,hs⟩:=hE;rw[←hF.eq];rw[ZEL] at h;show if _ then _ else _
 rw[if_neg (by simp)]
 rw[←oi h];exact⟨rfl,KE1 (a:=v1) rfl rfl (rfl:is _ v1) (rfl:is _ v1)⟩
theorem ZNw (mx:Int):ZAq Tryz.prog 86 (FnG (NG mx) (fun a:ZBi×Unit=>ZEa a.1)):=fnCG (ZUF mx) ⟨_,func86,rfl⟩<|fun a r h=>ZNv mx a.1 r h
noncomputable def pv5 (mx:Int):Prims:=(pv4 mx).addG 86 (FnG (NG mx) (fun a:ZBi×Unit=>ZEa a.1))
theorem ZUG (mx:Int):ZAX Tryz.prog (pv5 mx):=ZAR (ZUF mx) (ZNw mx)
theorem ZJ9 (mx:Int) (m:ZBi) (r:(List UInt8)×Int) (h:ZCA m=some r):MF Tryz.prog (pv5 mx) 72 [enc m] (sG (NG mx)) fun v _=>ris v r:=by
 refine ZAh [(0,enc m)] func72 rfl (by simp only[Tryz.f72];rfl) fun ψ=> ?_
 unfold ZCA at h;have hs:Hp (sG (NG mx)) [.gl (NG mx)]:=Hp.gl0
 refine ZAB<|ZAC<|ZA5 (r:=m) rfl (Enc.self m) hs fun m1 xs s hxs hs=>ZAG (v:= .nils) rfl<|ZAG (v:=enc (0:Int)) rfl<|ZAA<|ZAB<|ZAB<|ZAC<|ZAm (r:=m) ZU6 ZSu rfl hxs hs fun y hy=> ?_
 obtain⟨r_,hx,h⟩:=bs h;refine ZAY (f:=fun a:ZBi×Unit=>ZEa a.1) (a:=(m,())) rfl func86 rfl rfl (.cons (a:=(m:ZBi)) hy .nil) hs (lM _ List.mem_cons_self) hx<|ZBO (v:=enc (!r_)) rfl rfl<|ZAA ?_
 split at h
 ·rename_i c';refine ZAH rfl c'<|ZAB<|ZAC<|ZAG (v:= .nils) rfl<|ZAG (v:=enc (80:Int)) rfl<|ZAA<|ZAN ?_
  rw[←oi h];exact⟨rfl,KE2 (a1:=([]:(List UInt8))) (a2:=(80:Int)) rfl rfl rfl isL.nil (rfl:is _ (80:Int)) ⟨_,_,rfl,isL.nil,(rfl:is _ (80:Int))⟩⟩
 rename_i c';refine ZAI rfl c'<|ZAL<|ZAB<|ZAC<|ZAV ZF5 rfl<|ZAK ag41 Sz rfl hxs hs fun y1 hy1=> ?_
 cases hy1;refine ZET (t:=3) (a:=m.v.1) (by kernel_rfl) rfl (rfl:is _ m.v.1) fun z hz=>ZAV ZK2 rfl<|ZAK ag3 (Ss Sz) rfl hxs hs fun y2 hy2=> ?_
 cases hy2;refine ZET (t:=3) (a:=m.v.2.1) (by kernel_rfl) rfl (rfl:is _ m.v.2.1) fun z1 hz1=>ZAV ZK3 rfl<|ZAK ag3 (Ss (Ss Sz)) rfl hxs hs fun y3 hy3=> ?_
 cases hy3;refine ZET (t:=3) (a:=m.v.2.2.1) (by kernel_rfl) rfl (rfl:is _ m.v.2.2.1) fun z2 hz2=>ZAV ZF6 rfl<|ZAK ag3 (Ss (Ss (Ss Sz))) rfl hxs hs fun y4 hy4=> ?_
 cases hy4;refine ZET (t:=3) (a:=m.v.2.2.2.1) (by kernel_rfl) rfl (rfl:is _ m.v.2.2.2.1) fun z3 hz3=>ZAV ZF7 rfl<|ZAK ag9 (Ss (Ss (Ss (Ss Sz)))) rfl hxs hs fun y5 hy5=> ?_
 cases hy5;refine ZET (t:=9) (a:=m.v.2.2.2.2.1) (by kernel_rfl) rfl (rfl:is _ m.v.2.2.2.2.1) fun z4 hz4=>ZAV ZG6 rfl<|ZAK ag45 (Ss (Ss (Ss (Ss (Ss Sz))))) rfl hxs hs fun y6 hy6=>ZAo underlying45 rfl rfl hy6<|ZET (t:=3) (a:=((m.v.2.2.2.2.2.1.length:Int):Int)) (by kernel_rfl) rfl (rfl:is _ ((m.v.2.2.2.2.2.1.length:Int):Int)) fun z5 hz5=>ZDv [z,z1,z2,z3,z4,z5] ([(ZAs 3 (m.v.1:Int)),(ZAs 3 (m.v.2.1:Int)),(ZAs 3 (m.v.2.2.1:Int)),(ZAs 3 (m.v.2.2.2.1:Int)),(ZAs 9 (m.v.2.2.2.2.1:Str)),(ZAs 3 ((m.v.2.2.2.2.2.1.length:Int):Int))]:(List AnyV)) underlying176 ef20 rfl rfl rfl (Nat.le_of_ble_eq_true rfl) ⟨hz,hz1,hz2,hz3,hz4,hz5,trivial⟩ fun z6 hz6 hz6c hz6n=> ?_
 replace hs:=Hp.add (x:= .nils) hs rfl;obtain⟨r_1,hx1,h⟩:=bs h;refine ZAt (by kernel_rfl) func87 rfl (vs:=[.nils,z6]) rfl (MF.any (ZCf [] [(ZAs 3 (m.v.1:Int)),(ZAs 3 (m.v.2.1:Int)),(ZAs 3 (m.v.2.2.1:Int)),(ZAs 3 (m.v.2.2.2.1:Int)),(ZAs 9 (m.v.2.2.2.2.1:Str)),(ZAs 3 ((m.v.2.2.2.2.2.1.length:Int):Int))] _ hx1 (.inr ⟨rfl,isL.nil,rfl,rfl,rfl⟩) hz6 (Hp.packG [(.own .nils)] [(.cells m1 xs),(.gl (NG mx))] hs)) ZEo) fun w s ⟨en,hm,hq_⟩=> ?_
 replace hs:=Hp.unpackG [(.own .nils)] [en] [(.cells m1 xs),(.gl (NG mx))] hs hq_;refine ZAG (v:=w) rfl<|ZAA<|ZAB<|ZAB<|ZAC<|ZAV ZG6 rfl ?_
 replace hs:=Hp.front [en] (b:=[(.gl (NG mx))]) hs;refine ZAK ag45 (Ss (Ss (Ss (Ss (Ss Sz))))) rfl hxs hs fun y7 hy7=>ZAo underlying45 rfl rfl hy7<|ZAE (v:=enc (0:Int)) rfl<|ZAA<|ZAQ ?_
 obtain⟨b1,hl,h⟩:=bs h;refine ZAk (fun(p:((List UInt8)×Int)) φ s=>match p with | (b,v)=>∃(x_b:AV) (en1:En),isM x_b en1 b∧Fx φ [(1,(.ptr m1 0)),(4,x_b),(34,y7),(35,(enc ((m.v.2.2.2.2.2.1.length:Int):Int))),(36,(enc v))]∧Hp s [(.cells m1 xs),(.gl (NG mx)),en1]) (fun(o:(List UInt8)) e φ s=>match o with | b1=>e= .exit 0∧∃(x_b1:AV) (en2:En),isM x_b1 en2 b1∧Fx φ [(1,(.ptr m1 0)),(4,x_b1)]∧Hp s [(.cells m1 xs),(.gl (NG mx)),en2]) ?_ hl ⟨w,en,hm,FxR rfl,(Hp.front [(.gl (NG mx)),en] (b:=[]) (Hp.front [en,(.cells m1 xs)] (b:=[]) (Hp.front [(.cells m1 xs)] (b:=[(.gl (NG mx))]) hs)))⟩ ?_
 ·rintro⟨b,v⟩ o h φ s ⟨x_b,en1,hm_x_b,hF,hs⟩;rw[←hF.eq];rw[ZEp] at h;refine ZAB<|ZAC<|ZAJ (v:=enc (decide (v<(m.v.2.2.2.2.2.1.length:Int)))) rfl rfl rfl<|ZAA<|ZAB ?_
  split at h
  ·rename_i c';refine ZAH rfl c'<|ZAL<|ZAB<|ZAQ<|ZAB<|ZAC ?_
   obtain⟨v1,hx2,h⟩:=bs h;refine ZAu underlying45 ZSw rfl rfl hy7 hx2 fun p hp=>ZDs ZWB ZSv rfl hp fun y8 hy8=>ZBG (r:=(Rec.mk ((str []),([]:(List UInt8)),()):ZAi)) ZWm ZTD hs fun m2 s hs=>ZAx (r:=v1) ZSv rfl rfl ZTD hy8 hs fun xs1 s hxs1 hs=>ZAA<|ZAC<|ZAE (v:=x_b) rfl<|ZAV ZNr rfl<|ZAK ag9 Sz rfl hxs1 hs fun y9 hy9=> ?_
   cases hy9;refine ZET (t:=9) (a:=v1.v.1) (by kernel_rfl) rfl (rfl:is _ v1.v.1) fun z7 hz7=>ZAV ZNs rfl<|ZAK ag42 (Ss Sz) rfl hxs1 hs fun y10 hy10=>ZET (t:=42) (a:=v1.v.2.1) (by kernel_rfl) rfl hy10 fun z8 hz8=>ZDv [z7,z8] ([(ZAs 9 (v1.v.1:Str)),(ZAs 42 (v1.v.2.1:(List UInt8)))]:(List AnyV)) underlying176 ef20 rfl rfl rfl (Nat.le_of_ble_eq_true rfl) ⟨hz7,hz8,trivial⟩ fun z9 hz9 hz9c hz9n=> ?_
   replace hs:=Hp.front [(.cells m2 xs1),(.cells m1 xs),(.gl (NG mx))] (b:=[]) hs;obtain⟨r_2,hx3,h⟩:=bs h;refine ZAt (by kernel_rfl) func87 rfl (vs:=[x_b,z9]) rfl (MF.any (ZCf b [(ZAs 9 (v1.v.1:Str)),(ZAs 42 (v1.v.2.1:(List UInt8)))] _ hx3 hm_x_b hz9 (Hp.packG [en1] [(.cells m2 xs1),(.cells m1 xs),(.gl (NG mx))] hs)) ZEo) fun w1 s ⟨en3,hm1,hq_⟩=> ?_
   replace hs:=Hp.unpackG [en1] [en3] [(.cells m2 xs1),(.cells m1 xs),(.gl (NG mx))] hs hq_;refine ZAG (v:=w1) rfl<|ZAA<|ZAC<|ZAJ (v:=enc (IntKind.i64.wrap (v+1))) rfl rfl rfl<|ZAE rfl<|ZAA ?_
   rw[←oi h];exact⟨_,rfl,⟨w1,en3,hm1,FxR rfl,(Hp.front [(.gl (NG mx)),en3] (b:=[]) (Hp.front [en3,(.cells m1 xs)] (b:=[]) (Hp.front [] (b:=[(.cells m1 xs),(.gl (NG mx))]) (Hp.drop [en3] (b:=[(.cells m1 xs),(.gl (NG mx))]) hs))))⟩⟩
  rename_i c';refine ZAI rfl c'<|ZAf ?_
  rw[←oi h];exact⟨_,rfl,rfl,⟨x_b,en1,hm_x_b,FxR rfl,hs⟩⟩
 intro e φ s hE;obtain⟨rfl,x_b1,en2,hm_x_b1,hF,hs⟩:=hE;rw[←hF.eq];rw[ZGn] at h;show if _ then _ else _
 rw[if_pos rfl];refine ZAB<|ZAC<|ZAE (v:=x_b1) rfl<|ZAV ZJS rfl<|ZAK ZQ9 (Ss (Ss (Ss (Ss (Ss (Ss Sz)))))) rfl hxs hs fun y11 hy11=>ZAo underlying118 rfl rfl hy11<|ZET (t:=3) (a:=((m.v.2.2.2.2.2.2.1.length:Int):Int)) (by kernel_rfl) rfl (rfl:is _ ((m.v.2.2.2.2.2.2.1.length:Int):Int)) fun z10 hz10=>ZDv [z10] ([(ZAs 3 ((m.v.2.2.2.2.2.2.1.length:Int):Int))]:(List AnyV)) underlying176 ef20 rfl rfl rfl (Nat.le_of_ble_eq_true rfl) ⟨hz10,trivial⟩ fun z11 hz11 hz11c hz11n=> ?_
 replace hs:=Hp.front [(.cells m1 xs),(.gl (NG mx))] (b:=[]) hs;obtain⟨r_3,hx4,h⟩:=bs h;refine ZAt (by kernel_rfl) func87 rfl (vs:=[x_b1,z11]) rfl (MF.any (ZCf b1 [(ZAs 3 ((m.v.2.2.2.2.2.2.1.length:Int):Int))] _ hx4 hm_x_b1 hz11 (Hp.packG [en2] [(.cells m1 xs),(.gl (NG mx))] hs)) ZEo) fun w2 s ⟨en4,hm2,hq_⟩=> ?_
 replace hs:=Hp.unpackG [en2] [en4] [(.cells m1 xs),(.gl (NG mx))] hs hq_;refine ZAG (v:=w2) rfl<|ZAA<|ZAB<|ZAB<|ZAC<|ZAV ZJS rfl ?_
 replace hs:=Hp.front [en4] (b:=[(.gl (NG mx))]) hs;refine ZAK ZQ9 (Ss (Ss (Ss (Ss (Ss (Ss Sz)))))) rfl hxs hs fun y12 hy12=>ZAo underlying118 rfl rfl hy12<|ZAE (v:=enc (0:Int)) rfl<|ZAA<|ZAQ ?_
 obtain⟨b3,hl,h⟩:=bs h;refine ZAk (fun(p:((List UInt8)×Int)) φ s=>match p with | (b2,v2)=>∃(x_b2:AV) (en5:En),isM x_b2 en5 b2∧Fx φ [(4,x_b2),(58,y12),(59,(enc ((m.v.2.2.2.2.2.2.1.length:Int):Int))),(60,(enc v2))]∧Hp s [(.gl (NG mx)),en5]) (fun(o:(List UInt8)) e φ s=>match o with | b3=>e= .exit 2∧∃(x_b3:AV) (en6:En),isM x_b3 en6 b3∧Fx φ [(4,x_b3)]∧Hp s [(.gl (NG mx)),en6]) ?_ hl ⟨w2,en4,hm2,FxR rfl,(Hp.front [en4] (b:=[]) (Hp.front [] (b:=[(.gl (NG mx))]) (Hp.drop [] (b:=[en4,(.gl (NG mx))]) hs)))⟩ ?_
 ·rintro⟨b2,v2⟩ o h φ s ⟨x_b2,en5,hm_x_b2,hF,hs⟩;rw[←hF.eq];rw[ZEq] at h;refine ZAB<|ZAC<|ZAJ (v:=enc (decide (v2<(m.v.2.2.2.2.2.2.1.length:Int)))) rfl rfl rfl<|ZAA<|ZAB ?_
  split at h
  ·rename_i c';refine ZAH rfl c'<|ZAL<|ZCd (fun φ s=>∃(b4:(List UInt8)) (x_b4:AV) (en7:En),isM x_b4 en7 b4∧Fx φ [(4,x_b4),(58,y12),(59,(enc ((m.v.2.2.2.2.2.2.1.length:Int):Int))),(60,(enc v2))]∧Hp s [(.gl (NG mx)),en7]∧ZDN v2 b4=some o) ?_ ?_
   ·refine ZAQ ?_
    refine ZAB<|ZAC ?_
    obtain⟨v3,hx5,h⟩:=bs h;refine ZAu underlying118 ZU7 rfl rfl hy12 hx5 fun p1 hp1=>ZDs ZSy ZNh rfl hp1 fun y13 hy13=>ZBG (r:=(Rec.mk ((str []),(0:Int),(0:Int),(0:Int),()):RefR)) ZVP ZP6 hs fun m3 s hs=>ZAx (r:=v3) ZNh rfl rfl ZP6 hy13 hs fun xs2 s hxs2 hs=>ZAA<|ZAB<|ZAC<|ZAV ZK4 rfl<|ZAK ZSx Sz rfl hxs2 hs fun y14 hy14=> ?_
    cases hy14;refine ZAJ (v:=enc (!eqS v3.v.1 (str []))) rfl rfl rfl<|ZAA ?_
    split at h
    ·rename_i c';refine ZAH rfl c'<|ZAC<|ZAE (v:=x_b2) rfl<|ZET (t:=4) (a:=(true:Bool)) (by kernel_rfl) rfl (rfl:is _ (true:Bool)) fun z12 hz12=>ZAV ZK4 rfl<|ZAK ZSx Sz rfl hxs2 hs fun y15 hy15=> ?_
     cases hy15;refine ZET (t:=148) (a:=v3.v.1) (by kernel_rfl) rfl (rfl:is _ v3.v.1) fun z13 hz13=>ZAV ZJT rfl<|ZAK ag3 (Ss (Ss (Ss Sz))) rfl hxs2 hs fun y16 hy16=> ?_
     cases hy16;refine ZET (t:=3) (a:=v3.v.2.2.2.1) (by kernel_rfl) rfl (rfl:is _ v3.v.2.2.2.1) fun z14 hz14=>ZDv [z12,z13,z14] ([(ZAs 4 (true:Bool)),(ZAs 148 (v3.v.1:Str)),(ZAs 3 (v3.v.2.2.2.1:Int))]:(List AnyV)) underlying176 ef20 rfl rfl rfl (Nat.le_of_ble_eq_true rfl) ⟨hz12,hz13,hz14,trivial⟩ fun z15 hz15 hz15c hz15n=> ?_
     replace hs:=Hp.front [(.cells m3 xs2),(.gl (NG mx))] (b:=[]) hs;obtain⟨r_4,hx6,h⟩:=bs h;refine ZAt (by kernel_rfl) func87 rfl (vs:=[x_b2,z15]) rfl (MF.any (ZCf b2 [(ZAs 4 (true:Bool)),(ZAs 148 (v3.v.1:Str)),(ZAs 3 (v3.v.2.2.2.1:Int))] _ hx6 hm_x_b2 hz15 (Hp.packG [en5] [(.cells m3 xs2),(.gl (NG mx))] hs)) ZEo) fun w3 s ⟨en8,hm3,hq_⟩=> ?_
     replace hs:=Hp.unpackG [en5] [en8] [(.cells m3 xs2),(.gl (NG mx))] hs hq_;refine ZAG (v:=w3) rfl<|ZAA ?_
     exact⟨r_4,w3,en8,hm3,FxR rfl,(Hp.front [en8] (b:=[]) (Hp.front [] (b:=[(.gl (NG mx))]) (Hp.drop [en8] (b:=[(.gl (NG mx))]) hs))),h⟩
    rename_i c';refine ZAI rfl c'<|ZAC<|ZAE (v:=x_b2) rfl<|ZET (t:=4) (a:=(false:Bool)) (by kernel_rfl) rfl (rfl:is _ (false:Bool)) fun z16 hz16=>ZAV ZNt rfl<|ZAK ag3 (Ss Sz) rfl hxs2 hs fun y17 hy17=> ?_
    cases hy17;refine ZET (t:=3) (a:=v3.v.2.1) (by kernel_rfl) rfl (rfl:is _ v3.v.2.1) fun z17 hz17=>ZAV ZNu rfl<|ZAK ag3 (Ss (Ss Sz)) rfl hxs2 hs fun y18 hy18=> ?_
    cases hy18;refine ZET (t:=3) (a:=v3.v.2.2.1) (by kernel_rfl) rfl (rfl:is _ v3.v.2.2.1) fun z18 hz18=>ZAV ZJT rfl<|ZAK ag3 (Ss (Ss (Ss Sz))) rfl hxs2 hs fun y19 hy19=> ?_
    cases hy19;refine ZET (t:=3) (a:=v3.v.2.2.2.1) (by kernel_rfl) rfl (rfl:is _ v3.v.2.2.2.1) fun z19 hz19=>ZDv [z16,z17,z18,z19] ([(ZAs 4 (false:Bool)),(ZAs 3 (v3.v.2.1:Int)),(ZAs 3 (v3.v.2.2.1:Int)),(ZAs 3 (v3.v.2.2.2.1:Int))]:(List AnyV)) underlying176 ef20 rfl rfl rfl (Nat.le_of_ble_eq_true rfl) ⟨hz16,hz17,hz18,hz19,trivial⟩ fun z20 hz20 hz20c hz20n=> ?_
    replace hs:=Hp.front [(.cells m3 xs2),(.gl (NG mx))] (b:=[]) hs;obtain⟨r_5,hx7,h⟩:=bs h;refine ZAt (by kernel_rfl) func87 rfl (vs:=[x_b2,z20]) rfl (MF.any (ZCf b2 [(ZAs 4 (false:Bool)),(ZAs 3 (v3.v.2.1:Int)),(ZAs 3 (v3.v.2.2.1:Int)),(ZAs 3 (v3.v.2.2.2.1:Int))] _ hx7 hm_x_b2 hz20 (Hp.packG [en5] [(.cells m3 xs2),(.gl (NG mx))] hs)) ZEo) fun w4 s ⟨en9,hm4,hq_⟩=> ?_
    replace hs:=Hp.unpackG [en5] [en9] [(.cells m3 xs2),(.gl (NG mx))] hs hq_;refine ZAG (v:=w4) rfl<|ZAA ?_
    exact⟨r_5,w4,en9,hm4,FxR rfl,(Hp.front [en9] (b:=[]) (Hp.front [] (b:=[(.gl (NG mx))]) (Hp.drop [en9] (b:=[(.gl (NG mx))]) hs))),h⟩
   rintro φ s ⟨b4,x_b4,en7,hm_x_b4,hF,hs,h⟩;rw[←hF.eq];unfold ZDN at h;refine ZAC<|ZAJ (v:=enc (IntKind.i64.wrap (v2+1))) rfl rfl rfl<|ZAE rfl<|ZAA ?_
   rw[←oi h];exact⟨_,rfl,⟨x_b4,en7,hm_x_b4,FxR rfl,hs⟩⟩
  rename_i c';refine ZAI rfl c'<|ZAf ?_
  rw[←oi h];exact⟨_,rfl,rfl,⟨x_b2,en5,hm_x_b2,FxR rfl,hs⟩⟩
 intro e φ s hE;obtain⟨rfl,x_b3,en6,hm_x_b3,hF,hs⟩:=hE;rw[←hF.eq];rw[ZGm] at h;show if _ then _ else _
 rw[if_pos rfl];refine ZAB<|ZAC ?_
 replace hs:=Hp.front [(.gl (NG mx))] (b:=[]) hs;refine ZJJ (q:=4) rfl hm_x_b3 hs fun z21 s hz21 hs=>ZAE (v:=z21) rfl<|ZAG (v:=z21) rfl<|ZAG (v:=enc (0:Int)) rfl<|ZAA<|ZAN ?_
 rw[←oi h];exact⟨rfl,KE2 (a1:=b3) (a2:=(0:Int)) rfl rfl rfl hz21 (rfl:is _ (0:Int)) ⟨_,_,rfl,hz21,(rfl:is _ (0:Int))⟩⟩
theorem ZKA (mx:Int):ZAq Tryz.prog 72 (FnG (NG mx) (fun a:ZBi×Unit=>ZCA a.1)):=fnCG (ZUG mx) ⟨_,func72,rfl⟩<|fun a r h=>ZJ9 mx a.1 r h
noncomputable def pv6 (mx:Int):Prims:=(pv5 mx).addG 72 (FnG (NG mx) (fun a:ZBi×Unit=>ZCA a.1))
theorem ZUH (mx:Int):ZAX Tryz.prog (pv6 mx):=ZAR (ZUG mx) (ZKA mx)
theorem ZH3 (mx:Int) (l:ZAd) (r:(List UInt8)×Int) (h:ZBR l=some r):MF Tryz.prog (pv6 mx) 73 [enc l] (sG (NG mx)) fun v _=>ris v r:=by
 refine ZAh [(0,enc l)] func73 rfl (by simp only[Tryz.f73];rfl) fun ψ=> ?_
 unfold ZBR at h;have hs:Hp (sG (NG mx)) [.gl (NG mx)]:=Hp.gl0
 refine ZAB<|ZAC<|ZA5 (r:=l) rfl (Enc.self l) hs fun m xs s hxs hs=>ZAG (v:= .nils) rfl<|ZAG (v:=enc (0:Int)) rfl<|ZAA<|ZAB<|ZAC<|ZNi (q:=1) (r:=l) rfl hxs hs fun z s hz hs=>ZTt (c:=((PtrC.mk l:PtrC ZAd),())) rfl ⟨_,_,rfl,hz,rfl⟩ fun z1 hz1=>ZAG (v:=z1) rfl<|ZAA<|ZAB<|ZAB<|ZAC ?_
 refine ZCT ZF8 (Ss Sz) rfl (PtrC.ep hz) fun p hp=>ZBQ ag43 rfl hp fun y hy=>ZAo underlying43 rfl rfl hy<|ZAJ (v:=enc (decide ((l.v.2.1.length:Int) > 256))) rfl rfl rfl<|ZAE rfl ?_
 obtain⟨b,hb_b,h⟩:=bs h;refine ZAS 8 (fun φ s=>Hp s [(.gl (NG mx))]∧Fx φ [(1,z),(4,z1),(23,(enc b))]) ?_ ?_
 ·split at hb_b
  ·rename_i cg;refine ZAD rfl rfl (by simpa using cg)<|ZAD rfl rfl (by simpa using cg)<|ZAD rfl rfl (by simpa using cg)<|ZAD rfl rfl (by simpa using cg)<|ZAD rfl rfl (by simpa using cg)<|ZAD rfl rfl (by simpa using cg)<|ZAD rfl rfl (by simpa using cg)<|ZAa (v:=enc true) rfl cg rfl<|ZAA ?_
   rw[←oi hb_b];exact⟨hs,FxR rfl⟩
  rename_i cg1;refine ZAF rfl rfl (by simpa using cg1)<|ZCT ZG7 (Ss (Ss Sz)) rfl (PtrC.ep hz) fun p1 hp1=>ZAF rfl rfl (by simpa using cg1)<|ZBQ ag44 rfl hp1 fun y1 hy1=>ZAF rfl rfl (by simpa using cg1)<|ZAo underlying44 rfl rfl hy1<|ZAF rfl rfl (by simpa using cg1)<|ZCT ZF8 (Ss Sz) rfl (PtrC.ep hz) fun p2 hp2=>ZAF rfl rfl (by simpa using cg1)<|ZBQ ag43 rfl hp2 fun y2 hy2=>ZAF rfl rfl (by simpa using cg1)<|ZAo underlying43 rfl rfl hy2<|ZAF rfl rfl (by simpa using cg1)<|ZAJ (v:=enc (((l.v.2.2.1.length:Int) !=(l.v.2.1.length:Int)):Bool)) rfl rfl rfl<|ZAZ rfl cg1 rfl ?_
  refine ZAA ?_
  rw[←oi hb_b];exact⟨hs,FxR rfl⟩
 rintro φ s ⟨hs,hF⟩;rw[←hF.eq];refine ZAE rfl ?_
 obtain⟨b1,hb_b1,h⟩:=bs h;refine ZAS 5 (fun φ s=>Hp s [(.gl (NG mx))]∧Fx φ [(1,z),(4,z1),(29,(enc b1))]) ?_ ?_
 ·split at hb_b1
  ·rename_i cg2;refine ZAD rfl rfl (by simpa using cg2)<|ZAD rfl rfl (by simpa using cg2)<|ZAD rfl rfl (by simpa using cg2)<|ZAD rfl rfl (by simpa using cg2)<|ZAa (v:=enc true) rfl cg2 rfl<|ZAA ?_
   rw[←oi hb_b1];exact⟨hs,FxR rfl⟩
  rename_i cg3;refine ZAF rfl rfl (by simpa using cg3)<|ZCT ZF8 (Ss Sz) rfl (PtrC.ep hz) fun p3 hp3=>ZAF rfl rfl (by simpa using cg3)<|ZBQ ag43 rfl hp3 fun y3 hy3=>ZAF rfl rfl (by simpa using cg3) ?_
  obtain⟨r_,hx,hb_b1⟩:=bs hb_b1;refine ZAY (f:=fun a:(List Str)×Unit=>ZBl a.1) (a:=(l.v.2.1,())) rfl func89 rfl rfl (.cons (a:=l.v.2.1) hy3 .nil) hs List.mem_cons_self hx<|ZAF rfl rfl (by simpa using cg3)<|ZBO (v:=enc (!r_)) rfl rfl<|ZAZ rfl cg3 rfl<|ZAA ?_
  rw[←oi hb_b1];exact⟨hs,FxR rfl⟩
 rintro φ s ⟨hs,hF⟩;rw[←hF.eq];refine ZAE rfl ?_
 obtain⟨b2,hb_b2,h⟩:=bs h;refine ZAS 5 (fun φ s=>Hp s [(.gl (NG mx))]∧Fx φ [(1,z),(35,(enc b2))]) ?_ ?_
 ·split at hb_b2
  ·rename_i cg4;refine ZAD rfl rfl (by simpa using cg4)<|ZAD rfl rfl (by simpa using cg4)<|ZAD rfl rfl (by simpa using cg4)<|ZAD rfl rfl (by simpa using cg4)<|ZAa (v:=enc true) rfl cg4 rfl<|ZAA ?_
   rw[←oi hb_b2];exact⟨hs,FxR rfl⟩
  rename_i cg5;refine ZAF rfl rfl (by simpa using cg5)<|ZCT ZG7 (Ss (Ss Sz)) rfl (PtrC.ep hz) fun p4 hp4=>ZAF rfl rfl (by simpa using cg5)<|ZBQ ag44 rfl hp4 fun y4 hy4=>ZAF rfl rfl (by simpa using cg5)<|ZAE (v:=z1) rfl<|ZAF rfl rfl (by simpa using cg5) ?_
  obtain⟨r_1,hx1,hb_b2⟩:=bs hb_b2;refine ZCr (f:=fun a:(List Int)×(Clo 88 ((PtrC ZAd)×Unit))×Unit=>ZBH a.1 a.2.1) (a:=(l.v.2.2.1,(Clo.mk ((PtrC.mk l:PtrC ZAd),()):Clo 88 ((PtrC ZAd)×Unit)),())) rfl func90 rfl rfl (.cons (a:=l.v.2.2.1) hy4 (.cons (a:=((Clo.mk ((PtrC.mk l:PtrC ZAd),()):Clo 88 ((PtrC ZAd)×Unit)):(Clo 88 ((PtrC ZAd)×Unit)))) hz1 .nil)) hx1<|ZAZ rfl cg5 rfl<|ZAA ?_
  rw[←oi hb_b2];exact⟨hs,FxR rfl⟩
 rintro φ s ⟨hs,hF⟩;rw[←hF.eq];refine ZAA ?_
 split at h
 ·rename_i c';refine ZAH rfl c'<|ZAB<|ZAC<|ZAG (v:= .nils) rfl<|ZAG (v:=enc (80:Int)) rfl<|ZAA<|ZAN ?_
  rw[←oi h];exact⟨rfl,KE2 (a1:=([]:(List UInt8))) (a2:=(80:Int)) rfl rfl rfl isL.nil (rfl:is _ (80:Int)) ⟨_,_,rfl,isL.nil,(rfl:is _ (80:Int))⟩⟩
 rename_i c';refine ZAI rfl c'<|ZAL<|ZAB<|ZAC<|ZCT ZNj Sz rfl (PtrC.ep hz) fun p5 hp5=>ZBQ ag4 rfl hp5 fun y5 hy5=> ?_
 cases hy5;refine ZET (t:=4) (a:=l.v.1) (by kernel_rfl) rfl (rfl:is _ l.v.1) fun z2 hz2=>ZCT ZF8 (Ss Sz) rfl (PtrC.ep hz) fun p6 hp6=>ZBQ ag43 rfl hp6 fun y6 hy6=>ZAo underlying43 rfl rfl hy6<|ZET (t:=3) (a:=((l.v.2.1.length:Int):Int)) (by kernel_rfl) rfl (rfl:is _ ((l.v.2.1.length:Int):Int)) fun z3 hz3=>ZDv [z2,z3] ([(ZAs 4 (l.v.1:Bool)),(ZAs 3 ((l.v.2.1.length:Int):Int))]:(List AnyV)) underlying176 ef20 rfl rfl rfl (Nat.le_of_ble_eq_true rfl) ⟨hz2,hz3,trivial⟩ fun z4 hz4 hz4c hz4n=> ?_
 replace hs:=Hp.add (x:= .nils) hs rfl;obtain⟨r_2,hx2,h⟩:=bs h;refine ZAt (by kernel_rfl) func87 rfl (vs:=[.nils,z4]) rfl (MF.any (ZCf [] [(ZAs 4 (l.v.1:Bool)),(ZAs 3 ((l.v.2.1.length:Int):Int))] _ hx2 (.inr ⟨rfl,isL.nil,rfl,rfl,rfl⟩) hz4 (Hp.packG [(.own .nils)] [(.gl (NG mx))] hs)) ZEo) fun w s ⟨en,hm,hq_⟩=> ?_
 replace hs:=Hp.unpackG [(.own .nils)] [en] [(.gl (NG mx))] hs hq_;refine ZAG (v:=w) rfl<|ZAA<|ZAB<|ZAB<|ZAC<|ZCT ZF8 (Ss Sz) rfl (PtrC.ep hz) fun p7 hp7=>ZBQ ag43 rfl hp7 fun y7 hy7=>ZAo underlying43 rfl rfl hy7<|ZAE (v:=enc (0:Int)) rfl<|ZAA<|ZAQ ?_
 obtain⟨b4,hl,h⟩:=bs h;refine ZAk (fun(p:((List UInt8)×Int)) φ s=>match p with | (b3,v)=>∃(x_b3:AV) (en1:En),isM x_b3 en1 b3∧Fx φ [(1,z),(5,x_b3),(46,y7),(47,(enc ((l.v.2.1.length:Int):Int))),(48,(enc v))]∧Hp s [(.gl (NG mx)),en1]) (fun(o:(List UInt8)) e φ s=>match o with | b4=>e= .exit 0∧∃(x_b4:AV) (en2:En),isM x_b4 en2 b4∧Fx φ [(1,z),(5,x_b4)]∧Hp s [(.gl (NG mx)),en2]) ?_ hl ⟨w,en,hm,FxR rfl,(Hp.front [en] (b:=[]) (Hp.front [] (b:=[(.gl (NG mx))]) hs))⟩ ?_
 ·rintro⟨b3,v⟩ o h φ s ⟨x_b3,en1,hm_x_b3,hF,hs⟩;rw[←hF.eq];rw[ZDE] at h;refine ZAB<|ZAC<|ZAJ (v:=enc (decide (v<(l.v.2.1.length:Int)))) rfl rfl rfl<|ZAA<|ZAB ?_
  split at h
  ·rename_i c';refine ZAH rfl c'<|ZAL<|ZAB<|ZAQ<|ZAB<|ZAC ?_
   obtain⟨v1,hx3,h⟩:=bs h;refine ZAu underlying43 sh9 rfl rfl hy7 hx3 fun p8 hp8=>ZB8 rfl ag9 rfl hp8 fun y8 hy8=> ?_
   cases hy8;refine ZAG rfl<|ZAA<|ZAC<|ZAE (v:=x_b3) rfl<|ZAE rfl<|ZET (t:=9) (a:=v1) (by kernel_rfl) rfl (rfl:is _ v1) fun z5 hz5=>ZDv [z5] ([(ZAs 9 (v1:Str))]:(List AnyV)) underlying176 ef20 rfl rfl rfl (Nat.le_of_ble_eq_true rfl) ⟨hz5,trivial⟩ fun z6 hz6 hz6c hz6n=> ?_
   replace hs:=Hp.front [(.gl (NG mx))] (b:=[]) hs;obtain⟨r_3,hx4,h⟩:=bs h;refine ZAt (by kernel_rfl) func87 rfl (vs:=[x_b3,z6]) rfl (MF.any (ZCf b3 [(ZAs 9 (v1:Str))] _ hx4 hm_x_b3 hz6 (Hp.packG [en1] [(.gl (NG mx))] hs)) ZEo) fun w1 s ⟨en3,hm1,hq_⟩=> ?_
   replace hs:=Hp.unpackG [en1] [en3] [(.gl (NG mx))] hs hq_;refine ZAG (v:=w1) rfl<|ZAA<|ZAC<|ZAJ (v:=enc (IntKind.i64.wrap (v+1))) rfl rfl rfl<|ZAE rfl<|ZAA ?_
   rw[←oi h];exact⟨_,rfl,⟨w1,en3,hm1,FxR rfl,(Hp.front [en3] (b:=[]) (Hp.front [] (b:=[(.gl (NG mx))]) hs))⟩⟩
  rename_i c';refine ZAI rfl c'<|ZAf ?_
  rw[←oi h];exact⟨_,rfl,rfl,⟨x_b3,en1,hm_x_b3,FxR rfl,hs⟩⟩
 intro e φ s hE;obtain⟨rfl,x_b4,en2,hm_x_b4,hF,hs⟩:=hE;rw[←hF.eq];rw[ZE8] at h;show if _ then _ else _
 rw[if_pos rfl];refine ZAB<|ZAB<|ZAC<|ZCT ZG7 (Ss (Ss Sz)) rfl (PtrC.ep hz) fun p9 hp9=>ZBQ ag44 rfl hp9 fun y9 hy9=>ZAo underlying44 rfl rfl hy9<|ZAE (v:=enc (0:Int)) rfl<|ZAA<|ZAQ ?_
 obtain⟨b6,hl,h⟩:=bs h;refine ZAk (fun(p:((List UInt8)×Int)) φ s=>match p with | (b5,v2)=>∃(x_b5:AV) (en4:En),isM x_b5 en4 b5∧Fx φ [(5,x_b5),(59,y9),(60,(enc ((l.v.2.2.1.length:Int):Int))),(61,(enc v2))]∧Hp s [(.gl (NG mx)),en4]) (fun(o:(List UInt8)) e φ s=>match o with | b6=>e= .exit 2∧∃(x_b6:AV) (en5:En),isM x_b6 en5 b6∧Fx φ [(5,x_b6)]∧Hp s [(.gl (NG mx)),en5]) ?_ hl ⟨x_b4,en2,hm_x_b4,FxR rfl,hs⟩ ?_
 ·rintro⟨b5,v2⟩ o h φ s ⟨x_b5,en4,hm_x_b5,hF,hs⟩;rw[←hF.eq];rw[ZDF] at h;refine ZAB<|ZAC<|ZAJ (v:=enc (decide (v2<(l.v.2.2.1.length:Int)))) rfl rfl rfl<|ZAA<|ZAB ?_
  split at h
  ·rename_i c';refine ZAH rfl c'<|ZAL<|ZAB<|ZAQ<|ZAB<|ZAC ?_
   obtain⟨v3,hx5,h⟩:=bs h;refine ZAu underlying44 sh3 rfl rfl hy9 hx5 fun p10 hp10=>ZB8 rfl ag3 rfl hp10 fun y10 hy10=> ?_
   cases hy10;refine ZAG rfl<|ZAA<|ZAC<|ZAE (v:=x_b5) rfl<|ZAE rfl<|ZET (t:=3) (a:=v3) (by kernel_rfl) rfl (rfl:is _ v3) fun z7 hz7=>ZDv [z7] ([(ZAs 3 (v3:Int))]:(List AnyV)) underlying176 ef20 rfl rfl rfl (Nat.le_of_ble_eq_true rfl) ⟨hz7,trivial⟩ fun z8 hz8 hz8c hz8n=> ?_
   replace hs:=Hp.front [(.gl (NG mx))] (b:=[]) hs;obtain⟨r_4,hx6,h⟩:=bs h;refine ZAt (by kernel_rfl) func87 rfl (vs:=[x_b5,z8]) rfl (MF.any (ZCf b5 [(ZAs 3 (v3:Int))] _ hx6 hm_x_b5 hz8 (Hp.packG [en4] [(.gl (NG mx))] hs)) ZEo) fun w2 s ⟨en6,hm2,hq_⟩=> ?_
   replace hs:=Hp.unpackG [en4] [en6] [(.gl (NG mx))] hs hq_;refine ZAG (v:=w2) rfl<|ZAA<|ZAC<|ZAJ (v:=enc (IntKind.i64.wrap (v2+1))) rfl rfl rfl<|ZAE rfl<|ZAA ?_
   rw[←oi h];exact⟨_,rfl,⟨w2,en6,hm2,FxR rfl,(Hp.front [en6] (b:=[]) (Hp.front [] (b:=[(.gl (NG mx))]) hs))⟩⟩
  rename_i c';refine ZAI rfl c'<|ZAf ?_
  rw[←oi h];exact⟨_,rfl,rfl,⟨x_b5,en4,hm_x_b5,FxR rfl,hs⟩⟩
 intro e φ s hE;obtain⟨rfl,x_b6,en5,hm_x_b6,hF,hs⟩:=hE;rw[←hF.eq];rw[ZE7] at h;show if _ then _ else _
 rw[if_pos rfl];refine ZAB<|ZAC ?_
 replace hs:=Hp.front [(.gl (NG mx))] (b:=[]) hs;refine ZJJ (q:=5) rfl hm_x_b6 hs fun z9 s hz9 hs=>ZAE (v:=z9) rfl<|ZAG (v:=z9) rfl<|ZAG (v:=enc (0:Int)) rfl<|ZAA<|ZAN ?_
 rw[←oi h];exact⟨rfl,KE2 (a1:=b6) (a2:=(0:Int)) rfl rfl rfl hz9 (rfl:is _ (0:Int)) ⟨_,_,rfl,hz9,(rfl:is _ (0:Int))⟩⟩
theorem ZH4 (mx:Int):ZAq Tryz.prog 73 (FnG (NG mx) (fun a:ZAd×Unit=>ZBR a.1)):=fnCG (ZUH mx) ⟨_,func73,rfl⟩<|fun a r h=>ZH3 mx a.1 r h
noncomputable def pv7 (mx:Int):Prims:=(pv6 mx).addG 73 (FnG (NG mx) (fun a:ZAd×Unit=>ZBR a.1))
theorem ZUI (mx:Int):ZAX Tryz.prog (pv7 mx):=ZAR (ZUH mx) (ZH4 mx)
theorem ZKB (mx:Int) (x:ZAO) (r:Bool) (h:ZCB x=some r):MF Tryz.prog (pv7 mx) 57 [enc x] (sG (NG mx)) fun v _=>ris v r:=by
 refine ZAh [(0,enc x)] func57 rfl (by simp only[Tryz.f57];rfl) fun ψ=> ?_
 unfold ZCB at h;have hs:Hp (sG (NG mx)) [.gl (NG mx)]:=Hp.gl0
 refine ZAB<|ZAC<|ZA5 (r:=x) rfl (Enc.self x) hs fun m xs s hxs hs=>ZAG (v:=enc false) rfl<|ZAA<|ZAB<|ZAC<|ZAV ZB4 rfl<|ZAK ag41 (Ss Sz) rfl hxs hs fun y hy=> ?_
 cases hy;refine ZAV ZUA rfl<|ZAK ag3 (Ss (Ss Sz)) rfl hxs hs fun y1 hy1=> ?_
 cases hy1;refine ZAV ZKX rfl<|ZAK ag3 (Ss (Ss (Ss Sz))) rfl hxs hs fun y2 hy2=> ?_
 cases hy2;refine ZAV ZO2 rfl<|ZAK ag9 (Ss (Ss (Ss (Ss (Ss Sz))))) rfl hxs hs fun y3 hy3=> ?_
 cases hy3;refine ZAV ZUB rfl<|ZAK ag45 (Ss (Ss (Ss (Ss (Ss (Ss (Ss (Ss Sz)))))))) rfl hxs hs fun y4 hy4=>ZBZ (r0:=((0:Int),(0:Int),(0:Int),(0:Int),(str []),([]:(List ZAi)),([]:(List RefR)),())) ZWg ZVO ZTC rfl rfl (r:=(x.v.2.1,x.v.2.2.1,x.v.2.2.2.1,(0:Int),x.v.2.2.2.2.2.1,x.v.2.2.2.2.2.2.2.2.1,([]:(List RefR)),())) (.cons (z:=x.v.2.1) Sz (rfl:is _ x.v.2.1) (.cons (z:=x.v.2.2.1) (Ss Sz) (rfl:is _ x.v.2.2.1) (.cons (z:=x.v.2.2.2.1) (Ss (Ss Sz)) (rfl:is _ x.v.2.2.2.1) (.cons (z:=x.v.2.2.2.2.2.1) (Ss (Ss (Ss (Ss Sz)))) (rfl:is _ x.v.2.2.2.2.2.1) (.cons (z:=x.v.2.2.2.2.2.2.2.2.1) (Ss (Ss (Ss (Ss (Ss Sz))))) hy4 .nil))))) fun y5 hy5=> ?_
 obtain⟨r_,hx,h⟩:=bs h;refine ZAY (f:=fun a:ZBi×Unit=>ZCA a.1) (a:=((Rec.mk (x.v.2.1,x.v.2.2.1,x.v.2.2.2.1,(0:Int),x.v.2.2.2.2.2.1,x.v.2.2.2.2.2.2.2.2.1,([]:(List RefR)),()):ZBi),())) rfl func72 rfl rfl (.cons (a:=((Rec.mk (x.v.2.1,x.v.2.2.1,x.v.2.2.2.1,(0:Int),x.v.2.2.2.2.2.1,x.v.2.2.2.2.2.2.2.2.1,([]:(List RefR)),()):ZBi):ZBi)) hy5 .nil) hs (lM _ List.mem_cons_self) hx<|ZAE (v:=res r_) rfl<|ZAy rfl rfl<|ZAy rfl rfl<|ZAG rfl<|ZAG rfl<|ZAA<|ZAB<|ZAC<|ZAV ZMQ rfl<|ZAK ag42 (Ss (Ss (Ss (Ss Sz)))) rfl hxs hs fun y6 hy6=>ZAo underlying42 rfl rfl hy6<|ZAJ (v:=enc (((x.v.2.2.2.2.1.length:Int)==0):Bool)) rfl rfl rfl<|ZAE rfl ?_
 obtain⟨b,hb_b,h⟩:=bs h;refine ZAS 10 (fun φ s=>Hp s [(.cells m xs),(.gl (NG mx))]∧Fx φ [(1,(.ptr m 0)),(4,(enc r_.2)),(35,(enc b))]) ?_ ?_
 ·split at hb_b
  ·rename_i cg;refine ZAD rfl rfl (by simpa using cg)<|ZAD rfl rfl (by simpa using cg)<|ZAD rfl rfl (by simpa using cg)<|ZAD rfl rfl (by simpa using cg)<|ZAP rfl rfl<|ZAP rfl rfl<|ZAP rfl rfl<|ZAP rfl rfl<|ZAD rfl rfl (by simpa using cg)<|ZAa (v:=enc true) rfl cg rfl<|ZAA ?_
   rw[←oi hb_b];exact⟨hs,FxR rfl⟩
  rename_i cg1;refine ZAF rfl rfl (by simpa using cg1)<|ZAV ZB4 rfl<|ZAF rfl rfl (by simpa using cg1)<|ZAK ag41 (Ss Sz) rfl hxs hs fun y7 hy7=> ?_
  cases hy7;refine ZAF rfl rfl (by simpa using cg1)<|ZAJ (v:=enc (x.v.2.1==1)) rfl rfl rfl<|ZAF rfl rfl (by simpa using cg1)<|ZAE rfl ?_
  obtain⟨b1,hb_b1,hb_b⟩:=bs hb_b;refine ZAS 5 (fun φ s=>Hp s [(.cells m xs),(.gl (NG mx))]∧Fx φ [(1,(.ptr m 0)),(4,(enc r_.2)),(25,(enc (((x.v.2.2.2.2.1.length:Int)==0):Bool))),(34,(enc b1))]) ?_ ?_
  ·split at hb_b1
   ·rename_i cg2;refine ZAF rfl rfl cg2<|ZAV ZMQ rfl<|ZAF rfl rfl cg2<|ZAK ag42 (Ss (Ss (Ss (Ss Sz)))) rfl hxs hs fun y8 hy8=>ZAF rfl rfl cg2<|ZAo underlying42 rfl rfl hy8<|ZAF rfl rfl cg2<|ZAJ (v:=enc (decide ((x.v.2.2.2.2.1.length:Int)≤32768))) rfl rfl rfl<|ZAF rfl rfl (by simpa using cg1)<|ZAa rfl cg2 rfl<|ZAA ?_
    rw[←oi hb_b1];exact⟨hs,FxR rfl⟩
   rename_i cg3;refine ZAD rfl rfl cg3<|ZAD rfl rfl cg3<|ZAD rfl rfl cg3<|ZAD rfl rfl cg3<|ZAF rfl rfl (by simpa using cg1)<|ZAZ (v:=enc false) rfl cg3 rfl<|ZAA ?_
   rw[←oi hb_b1];exact⟨hs,FxR rfl⟩
  rintro φ s ⟨hs,hF⟩;rw[←hF.eq];refine ZAZ rfl cg1 rfl<|ZAA ?_
  rw[←oi hb_b];exact⟨hs,FxR rfl⟩
 rintro φ s ⟨hs,hF⟩;rw[←hF.eq];refine ZAG rfl<|ZAA<|ZAB<|ZAB<|ZAC<|ZAE rfl<|ZAJ (v:=enc (r_.2 !=0)) rfl rfl rfl<|ZAE rfl ?_
 obtain⟨b2,hb_b2,h⟩:=bs h;refine ZAS 3 (fun φ s=>Hp s [(.cells m xs),(.gl (NG mx))]∧Fx φ [(1,(.ptr m 0)),(41,(enc b2))]) ?_ ?_
 ·split at hb_b2
  ·rename_i cg4;refine ZAD rfl rfl (by simpa using cg4)<|ZAD rfl rfl (by simpa using cg4)<|ZAa (v:=enc true) rfl cg4 rfl<|ZAA ?_
   rw[←oi hb_b2];exact⟨hs,FxR rfl⟩
  rename_i cg5;refine ZAF rfl rfl (by simpa using cg5)<|ZAE rfl<|ZAF rfl rfl (by simpa using cg5)<|ZBO (v:=enc (!b)) rfl rfl<|ZAZ rfl cg5 rfl<|ZAA ?_
  rw[←oi hb_b2];exact⟨hs,FxR rfl⟩
 rintro φ s ⟨hs,hF⟩;rw[←hF.eq];refine ZAE rfl ?_
 obtain⟨b3,hb_b3,h⟩:=bs h;refine ZAS 4 (fun φ s=>Hp s [(.cells m xs),(.gl (NG mx))]∧Fx φ [(1,(.ptr m 0)),(46,(enc b3))]) ?_ ?_
 ·split at hb_b3
  ·rename_i cg6;refine ZAD rfl rfl (by simpa using cg6)<|ZAD rfl rfl (by simpa using cg6)<|ZAD rfl rfl (by simpa using cg6)<|ZAa (v:=enc true) rfl cg6 rfl<|ZAA ?_
   rw[←oi hb_b3];exact⟨hs,FxR rfl⟩
  rename_i cg7;refine ZAF rfl rfl (by simpa using cg7)<|ZAV ZCe rfl<|ZAF rfl rfl (by simpa using cg7)<|ZAK ag3 Sz rfl hxs hs fun y9 hy9=> ?_
  cases hy9;refine ZAF rfl rfl (by simpa using cg7)<|ZAJ (v:=enc (decide (x.v.1<1))) rfl rfl rfl<|ZAZ rfl cg7 rfl<|ZAA ?_
  rw[←oi hb_b3];exact⟨hs,FxR rfl⟩
 rintro φ s ⟨hs,hF⟩;rw[←hF.eq];refine ZAE rfl ?_
 obtain⟨b4,hb_b4,h⟩:=bs h;refine ZAS 4 (fun φ s=>Hp s [(.cells m xs),(.gl (NG mx))]∧Fx φ [(1,(.ptr m 0)),(51,(enc b4))]) ?_ ?_
 ·split at hb_b4
  ·rename_i cg8;refine ZAD rfl rfl (by simpa using cg8)<|ZAD rfl rfl (by simpa using cg8)<|ZAD rfl rfl (by simpa using cg8)<|ZAa (v:=enc true) rfl cg8 rfl<|ZAA ?_
   rw[←oi hb_b4];exact⟨hs,FxR rfl⟩
  rename_i cg9;refine ZAF rfl rfl (by simpa using cg9)<|ZAV ZCe rfl<|ZAF rfl rfl (by simpa using cg9)<|ZAK ag3 Sz rfl hxs hs fun y10 hy10=> ?_
  cases hy10;refine ZAF rfl rfl (by simpa using cg9)<|ZAJ (v:=enc (decide (x.v.1 > 1024))) rfl rfl rfl<|ZAZ rfl cg9 rfl<|ZAA ?_
  rw[←oi hb_b4];exact⟨hs,FxR rfl⟩
 rintro φ s ⟨hs,hF⟩;rw[←hF.eq];refine ZAA ?_
 split at h
 ·rename_i c';refine ZAH rfl c'<|ZAB<|ZAC<|ZAG (v:=enc false) rfl<|ZAA<|ZAN ?_
  rw[←oi h];exact⟨rfl,KE1 (a:=(false:Bool)) rfl rfl (rfl:is _ (false:Bool)) (rfl:is _ (false:Bool))⟩
 rename_i c';refine ZAI rfl c'<|ZAL<|ZAB<|ZAB<|ZAC<|ZAV ZB4 rfl<|ZAK ag41 (Ss Sz) rfl hxs hs fun y11 hy11=> ?_
 cases hy11;refine ZAJ (v:=enc (x.v.2.1 !=2)) rfl rfl rfl<|ZAA ?_
 split at h
 ·rename_i c';refine ZAH rfl c'<|ZAB<|ZAC<|ZAV ZEZ rfl<|ZAK ag43 (Ss (Ss (Ss (Ss (Ss (Ss Sz)))))) rfl hxs hs fun y12 hy12=>ZAo underlying43 rfl rfl hy12<|ZAV ZDt rfl<|ZAK ag44 (Ss (Ss (Ss (Ss (Ss (Ss (Ss Sz))))))) rfl hxs hs fun y13 hy13=>ZAo underlying44 rfl rfl hy13<|ZAJ (v:=enc (IntKind.i64.wrap ((x.v.2.2.2.2.2.2.1.length:Int)+(x.v.2.2.2.2.2.2.2.1.length:Int)))) rfl rfl rfl<|ZAJ (v:=enc ((IntKind.i64.wrap ((x.v.2.2.2.2.2.2.1.length:Int)+(x.v.2.2.2.2.2.2.2.1.length:Int)))==0)) rfl rfl rfl<|ZAG rfl<|ZAA<|ZAN ?_
  rw[←oi h];exact⟨rfl,KE1 (a:=(((IntKind.i64.wrap ((x.v.2.2.2.2.2.2.1.length:Int)+(x.v.2.2.2.2.2.2.2.1.length:Int)))==0):Bool)) rfl rfl (rfl:is _ (((IntKind.i64.wrap ((x.v.2.2.2.2.2.2.1.length:Int)+(x.v.2.2.2.2.2.2.2.1.length:Int)))==0):Bool)) (rfl:is _ (((IntKind.i64.wrap ((x.v.2.2.2.2.2.2.1.length:Int)+(x.v.2.2.2.2.2.2.2.1.length:Int)))==0):Bool))⟩
 rename_i c';refine ZAI rfl c'<|ZAL<|ZAB<|ZAC<|ZAV ZEZ rfl<|ZAK ag43 (Ss (Ss (Ss (Ss (Ss (Ss Sz)))))) rfl hxs hs fun y14 hy14=>ZAV ZDt rfl<|ZAK ag44 (Ss (Ss (Ss (Ss (Ss (Ss (Ss Sz))))))) rfl hxs hs fun y15 hy15=>ZBZ (r0:=(false,([]:(List Str)),([]:(List Int)),())) ZWk ZWi ZWj rfl rfl (r:=(true,x.v.2.2.2.2.2.2.1,x.v.2.2.2.2.2.2.2.1,())) (.cons (z:=(true:Bool)) Sz (rfl:is _ (true:Bool)) (.cons (z:=x.v.2.2.2.2.2.2.1) (Ss Sz) hy14 (.cons (z:=x.v.2.2.2.2.2.2.2.1) (Ss (Ss Sz)) hy15 .nil))) fun y16 hy16=> ?_
 obtain⟨r_1,hx1,h⟩:=bs h;refine ZAY (f:=fun a:ZAd×Unit=>ZBR a.1) (a:=((Rec.mk (true,x.v.2.2.2.2.2.2.1,x.v.2.2.2.2.2.2.2.1,()):ZAd),())) rfl func73 rfl rfl (.cons (a:=((Rec.mk (true,x.v.2.2.2.2.2.2.1,x.v.2.2.2.2.2.2.2.1,()):ZAd):ZAd)) hy16 .nil) hs (lM _ List.mem_cons_self) hx1<|ZAE (v:=res r_1) rfl<|ZAy rfl rfl<|ZAy rfl rfl<|ZAG rfl<|ZAA<|ZAB<|ZAC<|ZAE rfl<|ZAJ (v:=enc (r_1.2==0)) rfl rfl rfl<|ZAE rfl ?_
 obtain⟨b5,hb_b5,h⟩:=bs h;refine ZAS 4 (fun φ s=>Hp s [(.cells m xs),(.gl (NG mx))]∧Fx φ [(1,(.ptr m 0)),(78,(enc b5))]) ?_ ?_
 ·split at hb_b5
  ·rename_i cg10;refine ZAF rfl rfl cg10<|ZAV ZKX rfl<|ZAF rfl rfl cg10<|ZAK ag3 (Ss (Ss (Ss Sz))) rfl hxs hs fun y17 hy17=> ?_
   cases hy17;refine ZAF rfl rfl cg10<|ZAJ (v:=enc (x.v.2.2.2.1==1)) rfl rfl rfl<|ZAa rfl cg10 rfl<|ZAA ?_
   rw[←oi hb_b5];exact⟨hs,FxR rfl⟩
  rename_i cg11;refine ZAD rfl rfl cg11<|ZAD rfl rfl cg11<|ZAD rfl rfl cg11<|ZAZ (v:=enc false) rfl cg11 rfl<|ZAA ?_
  rw[←oi hb_b5];exact⟨hs,FxR rfl⟩
 rintro φ s ⟨hs,hF⟩;rw[←hF.eq];refine ZAE rfl ?_
 obtain⟨b6,hb_b6,h⟩:=bs h;refine ZAS 5 (fun φ s=>Hp s [(.cells m xs),(.gl (NG mx))]∧Fx φ [(84,(enc b6))]) ?_ ?_
 ·split at hb_b6
  ·rename_i cg12;refine ZAF rfl rfl cg12<|ZAV ZEZ rfl<|ZAF rfl rfl cg12<|ZAK ag43 (Ss (Ss (Ss (Ss (Ss (Ss Sz)))))) rfl hxs hs fun y18 hy18=>ZAF rfl rfl cg12<|ZAo underlying43 rfl rfl hy18<|ZAF rfl rfl cg12<|ZAJ (v:=enc (decide ((x.v.2.2.2.2.2.2.1.length:Int)≤128))) rfl rfl rfl<|ZAa rfl cg12 rfl<|ZAA ?_
   rw[←oi hb_b6];exact⟨hs,FxR rfl⟩
  rename_i cg13;refine ZAD rfl rfl cg13<|ZAD rfl rfl cg13<|ZAD rfl rfl cg13<|ZAD rfl rfl cg13<|ZAZ (v:=enc false) rfl cg13 rfl<|ZAA ?_
  rw[←oi hb_b6];exact⟨hs,FxR rfl⟩
 rintro φ s ⟨hs,hF⟩;rw[←hF.eq];refine ZAG rfl<|ZAA<|ZAN ?_
 rw[←oi h];exact⟨rfl,KE1 (a:=b6) rfl rfl (rfl:is _ b6) (rfl:is _ b6)⟩
theorem ZKC (mx:Int):ZAq Tryz.prog 57 (FnG (NG mx) (fun a:ZAO×Unit=>ZCB a.1)):=fnCG (ZUI mx) ⟨_,func57,rfl⟩<|fun a r h=>ZKB mx a.1 r h
noncomputable def pv8 (mx:Int):Prims:=(pv7 mx).addG 57 (FnG (NG mx) (fun a:ZAO×Unit=>ZCB a.1))
theorem ZUJ (mx:Int):ZAX Tryz.prog (pv8 mx):=ZAR (ZUI mx) (ZKC mx)
end Go.Ai.Rab
end
section
set_option maxRecDepth 100000
set_option maxHeartbeats 16000000
attribute [local irreducible] Go.Ai.TC Go.Ai.TO Go.Ai.MF Go.Ai.ZCS Go.Ai.ZBg Go.Ai.encR
open Go.Ai.Enc (enc is)
open Go.Ai.Res (res ris)
open Go.Ai.Args (args)
open Go.Ai.Flds (fe fi fk)
namespace Go.Ai

end Go.Ai
namespace Go.Ai.TTryz
open Go.Proofs
theorem ef3:EF Tryz.prog 3 0 8:=ZML (by kernel_rfl)
def zx47:List AV:=[enc (0:Int),enc (0:Int),enc (0:Int),enc (0:Int), .nils,enc (str []), .nils, .nils, .nils]
theorem zr47:ZBM Tryz.prog 47=some (.agg zx47):=by kernel_rfl
theorem zf47:fi zx47 (Rec.mk ((0:Int),(0:Int),(0:Int),(0:Int),([]:(List UInt8)),(str []),([]:(List Str)),([]:(List Int)),([]:(List ZAi)),()):ZAO).v:=⟨_,_,rfl,rfl,⟨_,_,rfl,rfl,⟨_,_,rfl,rfl,⟨_,_,rfl,rfl,⟨_,_,rfl,isL.nil,⟨_,_,rfl,rfl,⟨_,_,rfl,isL.nil,⟨_,_,rfl,isL.nil,⟨_,_,rfl,isL.nil,rfl⟩⟩⟩⟩⟩⟩⟩⟩⟩
theorem bu47:buB Tryz.prog 47 9=true:=by kernel_rfl
end Go.Ai.TTryz
namespace Go.Ai.Rab
open Go.Proofs TTryz Tryz
noncomputable def ZDZ (v1:ZAO):((List (Int×(List Int)))×Int)→Option (((List (Int×(List Int)))×Int) ⊕ (List (Int×(List Int))))
 | (out_2,v2)=>(if(decide (v2<(v1.v.2.2.2.2.2.2.2.1.length:Int))) then((nth v1.v.2.2.2.2.2.2.2.1 v2).bind fun v3=>((app 8 ((mget out_2 v3).getD []) [v1.v.1]).bind fun l=>some (.inl ((mput out_2 v3 l),(IntKind.i64.wrap (v2+1)))))) else some (.inr out_2))
noncomputable def ZGB (v:Int):(List (Int×(List Int)))→Option (((List (Int×(List Int)))×Int) ⊕ (List (Int×(List Int))))
 | out_3=>some (.inl (out_3,(IntKind.i64.wrap (v+1))))
noncomputable def ZGC (f:FsR):((List (Int×(List Int)))×Int)→Option (((List (Int×(List Int)))×Int) ⊕ (List (Int×(List Int))))
 | (out_,v)=>(if(decide (v<(f.v.1.length:Int))) then((nth f.v.1 v).bind fun v1=>((loop (ZDZ v1) (out_,0)).bind (ZGB v))) else some (.inr out_))
noncomputable def ZII:(List (Int×(List Int)))→Option ((List (Int×(List Int))))
 | out_1=>some (out_1)
noncomputable def ZE9 (f:FsR):Option ((List (Int×(List Int)))):=
 ((loop (ZGC f) (([]:(List (Int×(List Int)))),0)).bind (ZII))
noncomputable def ZDx (most:Int) (up:(List (Int×(List Int)))):(Int×Int)→Option ((Int×Int) ⊕ (Unit ⊕ Bool))
 | (num1,v)=>(if(decide (v<(IntKind.i64.wrap (most+1)))) then(if((((mget up num1).getD []).length:Int)==0) then some (.inr (.inr true)) else((nth ((mget up num1).getD []) 0).bind fun v2=>some (.inl (v2,(IntKind.i64.wrap (v+1)))))) else some (.inr (.inl ())))
noncomputable def ZFV:(Unit ⊕ Bool)→Option (Bool)
 | (.inl _)=>some (false)
 | (.inr v1)=>some (v1)
noncomputable def ZGd (up:(List (Int×(List Int)))) (num:Int) (most:Int):Option (Bool):=
 ((loop (ZDx most up) (num,0)).bind (ZFV))
theorem ZIJ (f:FsR) (r:(List (Int×(List Int)))) (h:ZE9 f=some r) {x_f:AV} (hy_f:is x_f f) {s:St} {enF:En} {G:Glob} (hs:Hp s [enF,(.gl G)]):MF Tryz.prog pct 58 [x_f] s fun v s' =>∃en',isMR v en' r∧Hp s' [en',enF, .gl G]:=by
 refine ZB9 [(0,x_f)] func58 rfl (by simp only[Tryz.f58];rfl) fun ψ=> ?_
 unfold ZE9 at h;refine ZAB<|ZAC<|ZA5 (r:=f) rfl hy_f hs fun m xs s hxs hs=>ZAG (v:= .nilmp) rfl<|ZAA<|ZAB<|ZAC<|ZT8 hs fun m1 s hs=>ZAG (v:= .mp m1) rfl<|ZAA<|ZAB<|ZAB<|ZAC<|ZAV ZAz rfl ?_
 replace hs:=Hp.front [(.grp [(m1, .map [])])] (b:=[enF,(.gl G)]) hs;refine ZAK ag22 Sz rfl hxs hs fun y hy=>ZAo underlying22 rfl rfl hy<|ZAE (v:=enc (0:Int)) rfl<|ZAA<|ZAQ ?_
 obtain⟨out_1,hl,h⟩:=bs h;refine ZAk (fun(p:((List (Int×(List Int)))×Int)) φ s=>match p with | (out_,v)=>∃(en:En),isMR (.mp m1) en out_∧Fx φ [(3,(.mp m1)),(10,y),(11,(enc ((f.v.1.length:Int):Int))),(12,(enc v))]∧Hp s [enF,(.gl G),en]) (fun(o:(List (Int×(List Int)))) e φ s=>match o with | out_1=>e= .exit 0∧∃(en1:En),isMR (.mp m1) en1 out_1∧Fx φ [(3,(.mp m1))]∧Hp s [enF,(.gl G),en1]) ?_ hl ⟨(.grp [(m1, .map [])]),ZTB,FxR rfl,(Hp.front [(.gl G),(.grp [(m1, .map [])])] (b:=[]) (Hp.front [(.grp [(m1, .map [])]),enF] (b:=[]) (Hp.front [] (b:=[enF,(.gl G)]) (Hp.drop [] (b:=[(.grp [(m1, .map [])]),enF,(.gl G)]) hs))))⟩ ?_
 ·rintro⟨out_,v⟩ o h φ s ⟨en,hb_en,hF,hs⟩;rw[←hF.eq];rw[ZGC] at h;refine ZAB<|ZAC<|ZAJ (v:=enc (decide (v<(f.v.1.length:Int)))) rfl rfl rfl<|ZAA<|ZAB ?_
  split at h
  ·rename_i c';refine ZAH rfl c'<|ZAL<|ZAB<|ZAQ<|ZAB<|ZAC ?_
   obtain⟨v1,hx,h⟩:=bs h;refine ZAu underlying22 sh47 rfl rfl hy hx fun p hp=>ZDs ag47 sz47 rfl hp fun y1 hy1=>ZBG (r:=(Rec.mk ((0:Int),(0:Int),(0:Int),(0:Int),([]:(List UInt8)),(str []),([]:(List Str)),([]:(List Int)),([]:(List ZAi)),()):ZAO)) zr47 zf47 hs fun m2 s hs=>ZAx (r:=v1) sz47 rfl rfl zf47 hy1 hs fun xs1 s hxs1 hs=>ZAA<|ZAB<|ZAC<|ZAV ZDt rfl<|ZAK ag44 (Ss (Ss (Ss (Ss (Ss (Ss (Ss Sz))))))) rfl hxs1 hs fun y2 hy2=>ZAo underlying44 rfl rfl hy2<|ZAE (v:=enc (0:Int)) rfl<|ZAA<|ZAQ ?_
   obtain⟨out_3,hl,h⟩:=bs h;refine ZAk (fun(p:((List (Int×(List Int)))×Int)) φ s=>match p with | (out_2,v2)=>∃(en2:En),isMR (.mp m1) en2 out_2∧Fx φ [(3,(.mp m1)),(5,(.ptr m2 0)),(10,y),(11,(enc ((f.v.1.length:Int):Int))),(12,(enc v)),(17,y2),(18,(enc ((v1.v.2.2.2.2.2.2.2.1.length:Int):Int))),(19,(enc v2))]∧Hp s [(.cells m2 xs1),enF,(.gl G),en2]) (fun(o:(List (Int×(List Int)))) e φ s=>match o with | out_3=>e= .exit 2∧∃(en3:En),isMR (.mp m1) en3 out_3∧Fx φ [(3,(.mp m1)),(10,y),(11,(enc ((f.v.1.length:Int):Int))),(12,(enc v))]∧Hp s [enF,(.gl G),en3]) ?_ hl ⟨en,hb_en,FxR rfl,hs⟩ ?_
   ·rintro⟨out_2,v2⟩ o h φ s ⟨en2,hb_en2,hF,hs⟩;rw[←hF.eq];rw[ZDZ] at h;refine ZAB<|ZAC<|ZAJ (v:=enc (decide (v2<(v1.v.2.2.2.2.2.2.2.1.length:Int)))) rfl rfl rfl<|ZAA<|ZAB ?_
    split at h
    ·rename_i c';refine ZAH rfl c'<|ZAL<|ZAB<|ZAQ<|ZAB<|ZAC ?_
     obtain⟨v3,hx1,h⟩:=bs h;refine ZAu underlying44 sh3 rfl rfl hy2 hx1 fun p1 hp1=>ZB8 rfl ag3 rfl hp1 fun y3 hy3=> ?_
     cases hy3;refine ZAG rfl<|ZAA<|ZAC<|ZAE (v:= .mp m1) rfl<|ZAE rfl<|ZAE (v:= .mp m1) rfl<|ZAE rfl ?_
     replace hs:=Hp.front [(.cells m2 xs1),enF,(.gl G)] (b:=[]) hs;refine ZWb (xs:=out_2) (k:=v3) underlying93 underlying3 (by kernel_rfl) rfl rfl hb_en2 hs fun w en4 hw hwc hmx_en4 hs=>ZAV ZCe rfl ?_
     replace hs:=Hp.front [.own w,en4] (b:=[enF,(.gl G)]) hs;refine ZAK ag3 Sz rfl hxs1 hs fun y4 hy4=> ?_
     cases hy4;refine ZDv [(enc v1.v.1)] ([v1.v.1]:(List Int)) underlying44 ef3 rfl rfl rfl (Nat.le_of_ble_eq_true rfl) ⟨(rfl:is _ v1.v.1),trivial⟩ fun z hz hzc hzn=> ?_
     obtain⟨l,hx2,h⟩:=bs h;refine ZKt [(.cells m2 xs1)] (es2:=[en4,enF,(.gl G)]) underlying44 underlying44 rfl rfl ef3 rfl rfl hw hwc hs hz hx2 fun z1 s hz1 hz1c hs=> ?_
     replace hs:=Hp.front [(.cells m2 xs1), .own z1] (b:=[enF,(.gl G)]) hs;replace hs:=Hp.front [en4,(.cells m2 xs1)] (b:=[enF,(.gl G)]) hs;refine ZWc (k:=v3) (r:=l) underlying93 underlying3 rfl rfl rfl hmx_en4 hz1 hz1c hs fun en5 s hb_en5 hs=>ZAA<|ZAC<|ZAJ (v:=enc (IntKind.i64.wrap (v2+1))) rfl rfl rfl<|ZAE rfl<|ZAA ?_
     rw[←oi h];exact⟨_,rfl,⟨en5,hb_en5,FxR rfl,(Hp.front [enF,(.gl G),en5] (b:=[]) (Hp.front [(.gl G),en5,(.cells m2 xs1)] (b:=[]) (Hp.front [en5,(.cells m2 xs1),enF] (b:=[]) (Hp.front [] (b:=[(.cells m2 xs1),enF,(.gl G)]) hs))))⟩⟩
    rename_i c';refine ZAI rfl c'<|ZAf ?_
    rw[←oi h];exact⟨_,rfl,rfl,⟨en2,hb_en2,FxR rfl,(Hp.drop [] (b:=[enF,(.gl G),en2]) hs)⟩⟩
   intro e φ s hE;obtain⟨rfl,en3,hb_en3,hF,hs⟩:=hE;rw[←hF.eq];rw[ZGB] at h;show if _ then _ else _
   rw[if_pos rfl];refine ZAC<|ZAJ (v:=enc (IntKind.i64.wrap (v+1))) rfl rfl rfl<|ZAE rfl<|ZAA ?_
   rw[←oi h];exact⟨_,rfl,⟨en3,hb_en3,FxR rfl,hs⟩⟩
  rename_i c';refine ZAI rfl c'<|ZAf ?_
  rw[←oi h];exact⟨_,rfl,rfl,⟨en,hb_en,FxR rfl,hs⟩⟩
 intro e φ s hE;obtain⟨rfl,en1,hb_en1,hF,hs⟩:=hE;rw[←hF.eq];rw[ZII] at h;show if _ then _ else _
 rw[if_pos rfl];refine ZAB<|ZAC<|ZAE (v:= .mp m1) rfl<|ZAG (v:= .mp m1) rfl<|ZAA<|ZAN ?_
 rw[←oi h];exact⟨rfl,KN1 rfl rfl ⟨_,hb_en1,(Hp.front [enF,(.gl G)] (b:=[]) (Hp.front [(.gl G)] (b:=[en1]) (Hp.front [enF] (b:=[en1]) hs)))⟩⟩
theorem ZLB (up:(List (Int×(List Int)))) (num:Int) (most:Int) (r:Bool) (h:ZGd up num most=some r) {x_up:AV} {en_up:En} (hm_up:isMR x_up en_up up) {s:St} {enF:En} {G:Glob} (hs:Hp s [en_up,enF,(.gl G)]):MF Tryz.prog pct 59 [x_up,(enc num),(enc most)] s fun v s' =>ris v r∧Hp s' [en_up,enF, .gl G]:=by
 refine ZB9 [(0,x_up),(1,(enc num)),(2,(enc most))] func59 rfl (by simp only[Tryz.f59];rfl) fun ψ=> ?_
 unfold ZGd at h;refine ZAB<|ZAC<|ZAG (v:=enc false) rfl<|ZAA<|ZAB<|ZAB<|ZAC<|ZAE rfl<|ZAJ (v:=enc (IntKind.i64.wrap (most+1))) rfl rfl rfl<|ZAE (v:=enc (0:Int)) rfl<|ZAA<|ZAQ ?_
 obtain⟨o,hl,h⟩:=bs h;refine ZAk (fun(p:(Int×Int)) φ s=>match p with | (num1,v)=>Fx φ [(0,x_up),(1,(enc num1)),(9,(enc (IntKind.i64.wrap (most+1)))),(10,(enc v))]∧Hp s [en_up,enF,(.gl G)]) (fun(o:(Unit ⊕ Bool)) e φ s=>match o with | (.inl _)=>e= .exit 0∧Fx φ []∧Hp s [en_up,enF,(.gl G)] | (.inr v1)=>e= .ret∧Fx φ [(6,(enc v1))]∧Hp s [en_up,enF,(.gl G)]) ?_ hl ⟨FxR rfl,hs⟩ ?_
 ·rintro⟨num1,v⟩ o h φ s ⟨hF,hs⟩;rw[←hF.eq];rw[ZDx] at h;refine ZAB<|ZAC<|ZAJ (v:=enc (decide (v<(IntKind.i64.wrap (most+1))))) rfl rfl rfl<|ZAA<|ZAB ?_
  split at h
  ·rename_i c';refine ZAH rfl c'<|ZAL<|ZAB<|ZAQ<|ZAB<|ZAC<|ZAE (v:=x_up) rfl<|ZAE rfl<|ZRW (xs:=up) (k:=num1) underlying93 underlying3 (by kernel_rfl) rfl rfl hm_up hs fun w hw=>ZAG (v:=w) rfl<|ZAA<|ZAB<|ZAB<|ZAC<|ZAE (v:=w) rfl ?_
   refine ZAo underlying44 rfl rfl hw<|ZAJ (v:=enc (((((mget up num1).getD []).length:Int)==0):Bool)) rfl rfl rfl<|ZAA ?_
   split at h
   ·rename_i c';refine ZAH rfl c'<|ZAB<|ZAC<|ZAG (v:=enc true) rfl<|ZAA<|ZAN ?_
    show if _ then _ else _
    rw[if_neg (by simp)]
    rw[←oi h];exact⟨_,rfl,rfl,⟨FxR rfl,hs⟩⟩
   rename_i c';refine ZAI rfl c'<|ZAL<|ZAC<|ZAE (v:=w) rfl ?_
   obtain⟨v2,hx,h⟩:=bs h;refine ZAu underlying44 sh3 rfl rfl hw hx fun p hp=>ZB8 rfl ag3 rfl hp fun y hy=> ?_
   cases hy;refine ZAG rfl<|ZAA<|ZAC<|ZAJ (v:=enc (IntKind.i64.wrap (v+1))) rfl rfl rfl<|ZAE rfl<|ZAA ?_
   rw[←oi h];exact⟨_,rfl,⟨FxR rfl,hs⟩⟩
  rename_i c';refine ZAI rfl c'<|ZAf ?_
  rw[←oi h];exact⟨_,rfl,rfl,⟨trivial,hs⟩⟩
 intro e φ s hE;rcases o with _u | v1
 ·obtain⟨rfl,hF,hs⟩:=hE;rw[←hF.eq];rw[ZFV] at h;show if _ then _ else _
  rw[if_pos rfl];refine ZAB<|ZAC<|ZAG (v:=enc false) rfl<|ZAA<|ZAN ?_
  rw[←oi h];exact⟨rfl,KN1 rfl rfl ⟨(rfl:is _ (false:Bool)),hs⟩⟩
 obtain⟨rfl,hF,hs⟩:=hE;rw[←hF.eq];rw[ZFV] at h;show if _ then _ else _
 rw[if_neg (by simp)]
 rw[←oi h];exact⟨rfl,KN1 rfl rfl ⟨(rfl:is _ v1),hs⟩⟩
end Go.Ai.Rab
end
