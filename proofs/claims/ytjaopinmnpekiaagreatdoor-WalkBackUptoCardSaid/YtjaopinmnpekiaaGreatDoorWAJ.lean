/- My own texts DevPgC, DevPgD, one behind the other. -/
import Derived.Test.YtjaopinmnpekiaaGreatDoorWAE
import Derived.Test.YtjaopinmnpekiaaGreatDoorWAI
import Derived.Test.YtjaopinmnpekiaaGreatDoorWAH
set_option linter.unusedVariables false
set_option linter.unusedSimpArgs false
section
set_option maxRecDepth 100000
set_option maxHeartbeats 16000000
attribute [local irreducible] Go.Ai.TC Go.Ai.TO Go.Ai.MF Go.Ai.ZCC Go.Ai.ZBU Go.Ai.encR
open Go.Ai.Enc (enc is)
open Go.Ai.Res (res ris)
open Go.Ai.Args (args)
open Go.Ai.Flds (fe fi fk)
namespace Go.Ai
abbrev RefR:Type:=(Rec (Str×Int×Int×Int×Unit))
abbrev ZCO:Type:=(Rec (Int×Int×Int×Int×Str×(List ZAc)×(List RefR)×Unit))
end Go.Ai
namespace Go.Ai.TTryz
open Go.Proofs
theorem ef9:EF Tryz.prog 9 0 16:=ZJj (by kernel_rfl)
theorem ef20:EF Tryz.prog 20 0 16:=ZJj (by kernel_rfl)
def ZSU:List AV:=[enc (0:Int),enc (0:Int),enc (0:Int),enc (0:Int),enc (str []), .nils, .nils]
theorem ZTJ:ZBC Tryz.prog 120=some (.agg ZSU):=by kernel_rfl
theorem ZTK:fi ZSU (Rec.mk ((0:Int),(0:Int),(0:Int),(0:Int),(str []),([]:(List ZAc)),([]:(List RefR)),()):ZCO).v:=⟨_,_,rfl,rfl,⟨_,_,rfl,rfl,⟨_,_,rfl,rfl,⟨_,_,rfl,rfl,⟨_,_,rfl,rfl,⟨_,_,rfl,isL.nil,⟨_,_,rfl,isL.nil,rfl⟩⟩⟩⟩⟩⟩⟩
theorem ZTL:buB Tryz.prog 120 7=true:=by kernel_rfl
def ZSV:List AV:=[enc false, .nils, .nils]
theorem ZTM:ZBC Tryz.prog 123=some (.agg ZSV):=by kernel_rfl
theorem ZTN:fi ZSV (Rec.mk (false,([]:(List Str)),([]:(List Int)),()):ZAa).v:=⟨_,_,rfl,rfl,⟨_,_,rfl,isL.nil,⟨_,_,rfl,isL.nil,rfl⟩⟩⟩
theorem ZTO:buB Tryz.prog 123 3=true:=by kernel_rfl
def ZSW:List AV:=[enc (str []), .nils]
theorem ZSX:ZBC Tryz.prog 147=some (.agg ZSW):=by kernel_rfl
theorem ZPQ:fi ZSW (Rec.mk ((str []),([]:(List UInt8)),()):ZAc).v:=⟨_,_,rfl,rfl,⟨_,_,rfl,isL.nil,rfl⟩⟩
def ZSY:List AV:=[enc (str []),enc (0:Int),enc (0:Int),enc (0:Int)]
theorem ZSZ:ZBC Tryz.prog 150=some (.agg ZSY):=by kernel_rfl
theorem ZPR:fi ZSY (Rec.mk ((str []),(0:Int),(0:Int),(0:Int),()):RefR).v:=⟨_,_,rfl,rfl,⟨_,_,rfl,rfl,⟨_,_,rfl,rfl,⟨_,_,rfl,rfl,rfl⟩⟩⟩⟩
theorem ZEN:flB Tryz.prog 47 1=true:=by kernel_rfl
theorem ZSa:flB Tryz.prog 47 2=true:=by kernel_rfl
theorem ZN3:flB Tryz.prog 47 3=true:=by kernel_rfl
theorem ZQF:flB Tryz.prog 47 5=true:=by kernel_rfl
theorem ZJv:flB Tryz.prog 47 6=true:=by kernel_rfl
theorem ZJw:flB Tryz.prog 47 7=true:=by kernel_rfl
theorem ZSb:flB Tryz.prog 47 8=true:=by kernel_rfl
theorem ZIu:flB Tryz.prog 120 0=true:=by kernel_rfl
theorem ZKw:flB Tryz.prog 120 1=true:=by kernel_rfl
theorem ZKx:flB Tryz.prog 120 2=true:=by kernel_rfl
theorem ZHY:flB Tryz.prog 120 3=true:=by kernel_rfl
theorem ZHZ:flB Tryz.prog 120 4=true:=by kernel_rfl
theorem ZKy:flB Tryz.prog 120 5=true:=by kernel_rfl
theorem ZIv:flB Tryz.prog 120 6=true:=by kernel_rfl
theorem ZHa:flB Tryz.prog 123 1=true:=by kernel_rfl
theorem ZKz:flB Tryz.prog 123 2=true:=by kernel_rfl
theorem ZN4:flB Tryz.prog 147 0=true:=by kernel_rfl
theorem ZN5:flB Tryz.prog 147 1=true:=by kernel_rfl
theorem ZN6:flB Tryz.prog 150 0=true:=by kernel_rfl
theorem ZRL:flB Tryz.prog 150 1=true:=by kernel_rfl
theorem ZRM:flB Tryz.prog 150 2=true:=by kernel_rfl
theorem ZN7:flB Tryz.prog 150 3=true:=by kernel_rfl
end Go.Ai.TTryz
namespace Go.Ai.Rab
open Go.Proofs TTryz Tryz
noncomputable def ZCG (s_:Str):Nat→Option (Nat ⊕ (Unit ⊕ Int))
 | v=>(if v<List.length s_ then((if(((ZCC s_ v)).v==((Rune.mk 47)).v) then some true else some (((ZCC s_ v)).v==((Rune.mk 0)).v)).bind fun b2=>(if b2 then some (.inr (.inr 206)) else some (.inl (v+ZBU s_ v)))) else some (.inr (.inl ())))
noncomputable def ZDA:(Unit ⊕ Int)→Option (Int)
 | (.inl _)=>some (0)
 | (.inr v1)=>some (v1)
noncomputable def ZBI (s_:Str):Option (Int):=
 (if(eqS s_ (str [])) then some (206) else(if(decide (((List.length s_:Nat):Int) > 100)) then some (208) else((if(eqS s_ (str [46])) then some true else some (eqS s_ (str [46,46]))).bind fun b=>((if b then some true else((utf8_ValidString s_).bind fun r_=>some (!r_))).bind fun b1=>(if b1 then some (206) else((loop (ZCG s_) 0).bind (ZDA)))))))
noncomputable def ZEE (l:(List Str)):Int→Option (Int ⊕ (Unit ⊕ Bool))
 | v=>(if(decide (v<(l.length:Int))) then((nth l v).bind fun v2=>((ZBI v2).bind fun r_=>((if(r_ !=0) then some true else((if(decide (v > 0)) then((nth l (IntKind.i64.wrap (v - 1))).bind fun v3=>some (ltS v2 v3 || eqS v2 v3)) else some false).bind fun b1=>some b1)).bind fun b=>(if b then some (.inr (.inr false)) else some (.inl (IntKind.i64.wrap (v+1))))))) else some (.inr (.inl ())))
noncomputable def ZEF:(Unit ⊕ Bool)→Option (Bool)
 | (.inl _)=>some (true)
 | (.inr v1)=>some (v1)
noncomputable def ZBN (l:(List Str)):Option (Bool):=
 ((loop (ZEE l) 0).bind (ZEF))
noncomputable def ZEj (l:(List ZAc)):((List Str)×Int)→Option (((List Str)×Int) ⊕ ((List Str) ⊕ Bool))
 | (names,v)=>(if(decide (v<(l.length:Int))) then((nth l v).bind fun v2=>((app 16 names [v2.v.1]).bind fun l1=>(if(decide ((v2.v.2.1.length:Int) > 256)) then some (.inr (.inr false)) else some (.inl (l1,(IntKind.i64.wrap (v+1))))))) else some (.inr (.inl names)))
noncomputable def ZEk (l:(List ZAc)):((List Str) ⊕ Bool)→Option (Bool)
 | (.inl names1)=>((if(decide ((l.length:Int)≤8)) then((ZBN names1).bind fun r_=>some r_) else some false).bind fun b=>some (b))
 | (.inr v1)=>some (v1)
noncomputable def ZCr (l:(List ZAc)):Option (Bool):=
 ((loop (ZEj l) ([],0)).bind (ZEk l))
noncomputable def ZBp (m:ZCO):Option (Bool):=
 (if(m.v.1 !=3) then some ((eqS m.v.2.2.2.2.1 (str []))) else((if(!eqS m.v.2.2.2.2.1 (str [])) then some (decide (((List.length m.v.2.2.2.2.1:Nat):Int)≤1000)) else some false).bind fun b=>((if b then((ZBR m.v.2.2.2.2.1 (str [0])).bind fun r_=>some (!r_)) else some false).bind fun b1=>((if b1 then some (m.v.2.2.2.1==0) else some false).bind fun b2=>some (b2)))))
noncomputable def ZEG (m:ZCO):(Int×Int)→Option ((Int×Int) ⊕ (Int ⊕ Bool))
 | (n,v)=>(if(decide (v<(m.v.2.2.2.2.2.2.1.length:Int))) then((nth m.v.2.2.2.2.2.2.1 v).bind fun v2=>none) else some (.inr (.inl n)))
noncomputable def ZDS (m:ZCO):(Int ⊕ Bool)→Option (Bool)
 | (.inl n1)=>some ((n1==m.v.2.2.2.1))
 | (.inr v1)=>some (v1)
noncomputable def ZDg (m:ZCO):Option (Bool):=
 ((if(decide (m.v.2.1≥0)) then some (decide (m.v.2.1≤4095)) else some false).bind fun b=>((if b then some (decide (m.v.2.2.1≥0)) else some false).bind fun b1=>((if b1 then some (decide (m.v.2.2.1≤64)) else some false).bind fun b2=>((if b2 then some (decide (m.v.2.2.2.1≥0)) else some false).bind fun b3=>((if b3 then some (decide (m.v.2.2.2.1≤32768)) else some false).bind fun b4=>((if b4 then some (decide ((m.v.2.2.2.2.2.2.1.length:Int)≤128)) else some false).bind fun b5=>((if(decide (m.v.1<1)) then some true else some (decide (m.v.1 > 3))).bind fun b6=>((if b6 then some true else some (!b5)).bind fun b7=>((if b7 then some true else((ZBp m).bind fun r_=>some (!r_))).bind fun b8=>((if b8 then some true else((ZCr m.v.2.2.2.2.2.1).bind fun r_1=>some (!r_1))).bind fun b9=>(if b9 then some (false) else((loop (ZEG m) (0,0)).bind (ZDS m)))))))))))))
noncomputable def ZDl (m:ZCO):((List UInt8)×Int)→Option (((List UInt8)×Int) ⊕ (List UInt8))
 | (b,v)=>(if(decide (v<(m.v.2.2.2.2.2.1.length:Int))) then((nth m.v.2.2.2.2.2.1 v).bind fun v1=>((ZC5 b [(ZAk 9 (v1.v.1:Str)),(ZAk 42 (v1.v.2.1:(List UInt8)))]).bind fun r_2=>some (.inl (r_2,(IntKind.i64.wrap (v+1)))))) else some (.inr b))
noncomputable def ZCf (v2:Int) (b4:(List UInt8)):Option (((List UInt8)×Int) ⊕ (List UInt8)):=
 some (.inl (b4,(IntKind.i64.wrap (v2+1))))
noncomputable def ZDm (m:ZCO):((List UInt8)×Int)→Option (((List UInt8)×Int) ⊕ (List UInt8))
 | (b2,v2)=>(if(decide (v2<(m.v.2.2.2.2.2.2.1.length:Int))) then((nth m.v.2.2.2.2.2.2.1 v2).bind fun v3=>(if(!eqS v3.v.1 (str [])) then((ZC5 b2 [(ZAk 4 (true:Bool)),(ZAk 148 (v3.v.1:Str)),(ZAk 3 (v3.v.2.2.2.1:Int))]).bind fun r_4=>(ZCf v2 r_4)) else((ZC5 b2 [(ZAk 4 (false:Bool)),(ZAk 3 (v3.v.2.1:Int)),(ZAk 3 (v3.v.2.2.1:Int)),(ZAk 3 (v3.v.2.2.2.1:Int))]).bind fun r_5=>(ZCf v2 r_5)))) else some (.inr b2))
noncomputable def ZFC:(List UInt8)→Option ((List UInt8)×Int)
 | b3=>some (b3,0)
noncomputable def ZFD (m:ZCO):(List UInt8)→Option ((List UInt8)×Int)
 | b1=>((ZC5 b1 [(ZAk 3 ((m.v.2.2.2.2.2.2.1.length:Int):Int))]).bind fun r_3=>((loop (ZDm m) (r_3,0)).bind (ZFC)))
noncomputable def ZBf (m:ZCO):Option ((List UInt8)×Int):=
 ((ZDg m).bind fun r_=>(if(!r_) then some ([],80) else((ZC5 [] [(ZAk 3 (m.v.1:Int)),(ZAk 3 (m.v.2.1:Int)),(ZAk 3 (m.v.2.2.1:Int)),(ZAk 3 (m.v.2.2.2.1:Int)),(ZAk 9 (m.v.2.2.2.2.1:Str)),(ZAk 3 ((m.v.2.2.2.2.2.1.length:Int):Int))]).bind fun r_1=>((loop (ZDl m) (r_1,0)).bind (ZFD m)))))
noncomputable def ZCY (l:ZAa):((List UInt8)×Int)→Option (((List UInt8)×Int) ⊕ (List UInt8))
 | (b3,v)=>(if(decide (v<(l.v.2.1.length:Int))) then((nth l.v.2.1 v).bind fun v1=>((ZC5 b3 [(ZAk 9 (v1:Str))]).bind fun r_3=>some (.inl (r_3,(IntKind.i64.wrap (v+1)))))) else some (.inr b3))
noncomputable def ZCZ (l:ZAa):((List UInt8)×Int)→Option (((List UInt8)×Int) ⊕ (List UInt8))
 | (b5,v2)=>(if(decide (v2<(l.v.2.2.1.length:Int))) then((nth l.v.2.2.1 v2).bind fun v3=>((ZC5 b5 [(ZAk 3 (v3:Int))]).bind fun r_4=>some (.inl (r_4,(IntKind.i64.wrap (v2+1)))))) else some (.inr b5))
noncomputable def ZDy:(List UInt8)→Option ((List UInt8)×Int)
 | b6=>some (b6,0)
noncomputable def ZDz (l:ZAa):(List UInt8)→Option ((List UInt8)×Int)
 | b4=>((loop (ZCZ l) (b4,0)).bind (ZDy))
noncomputable def ZBF (l:ZAa):Option ((List UInt8)×Int):=
 ((if(decide ((l.v.2.1.length:Int) > 256)) then some true else some ((l.v.2.2.1.length:Int) !=(l.v.2.1.length:Int))).bind fun b=>((if b then some true else((ZBN l.v.2.1).bind fun r_=>some (!r_))).bind fun b1=>((if b1 then some true else((ZA8 l.v.2.2.1 (Clo.mk ((PtrC.mk l:PtrC ZAa),()):Clo 88 ((PtrC ZAa)×Unit))).bind fun r_1=>some r_1)).bind fun b2=>(if b2 then some ([],80) else((ZC5 [] [(ZAk 4 (l.v.1:Bool)),(ZAk 3 ((l.v.2.1.length:Int):Int))]).bind fun r_2=>((loop (ZCY l) (r_2,0)).bind (ZDz l)))))))
noncomputable def ZBg (x:ZAK):Option (Bool):=
 ((ZBf (Rec.mk (x.v.2.1,x.v.2.2.1,x.v.2.2.2.1,(0:Int),x.v.2.2.2.2.2.1,x.v.2.2.2.2.2.2.2.2.1,([]:(List RefR)),()):ZCO)).bind fun r_=>((if((x.v.2.2.2.2.1.length:Int)==0) then some true else((if(x.v.2.1==1) then some (decide ((x.v.2.2.2.2.1.length:Int)≤32768)) else some false).bind fun b1=>some b1)).bind fun b=>((if(r_.2 !=0) then some true else some (!b)).bind fun b2=>((if b2 then some true else some (decide (x.v.1<1))).bind fun b3=>((if b3 then some true else some (decide (x.v.1 > 1024))).bind fun b4=>(if b4 then some (false) else(if(x.v.2.1 !=2) then some (((IntKind.i64.wrap ((x.v.2.2.2.2.2.2.1.length:Int)+(x.v.2.2.2.2.2.2.2.1.length:Int)))==0)) else((ZBF (Rec.mk (true,x.v.2.2.2.2.2.2.1,x.v.2.2.2.2.2.2.2.1,()):ZAa)).bind fun r_1=>((if(r_1.2==0) then some (x.v.2.2.2.1==1) else some false).bind fun b5=>((if b5 then some (decide ((x.v.2.2.2.2.2.2.1.length:Int)≤128)) else some false).bind fun b6=>some (b6)))))))))))
theorem ZIw (mx:Int) (s_:Str) (r:Int) (h:ZBI s_=some r):MF Tryz.prog (pv0 mx) 66 [enc s_] (sG (NG mx)) fun v _=>ris v r:=by
 refine ZAo [(0,enc s_)] func66 rfl (by simp only[Tryz.f66];rfl) fun ψ=> ?_
 unfold ZBI at h;have hs:Hp (sG (NG mx)) [.gl (NG mx)]:=Hp.gl0
 refine ZAB<|ZAC<|ZAG (v:=enc (0:Int)) rfl<|ZAA<|ZAB<|ZAQ<|ZAB<|ZAC<|ZAD rfl<|ZAL (v:=enc ((eqS s_ (str [])):Bool)) rfl rfl rfl<|ZAG rfl<|ZAA ?_
 split at h
 ·rename_i c';refine ZAH rfl c'<|ZAB<|ZAC<|ZAG (v:=enc (206:Int)) rfl<|ZAA<|ZAP ?_
  show if _ then _ else _
  rw[if_neg (by simp)]
  rw[←oi h];exact⟨rfl,KE1 (a:=(206:Int)) rfl rfl (rfl:is _ (206:Int)) (rfl:is _ (206:Int))⟩
 rename_i c';refine ZAI rfl c'<|ZAB<|ZAC<|ZAD rfl<|ZJi underlying9 rfl rfl<|ZAL (v:=enc (decide (((List.length s_:Nat):Int) > 100))) rfl rfl rfl<|ZAG rfl<|ZAA ?_
 split at h
 ·rename_i c';refine ZAH rfl c'<|ZAB<|ZAC<|ZAG (v:=enc (208:Int)) rfl<|ZAA<|ZAP ?_
  show if _ then _ else _
  rw[if_neg (by simp)]
  rw[←oi h];exact⟨rfl,KE1 (a:=(208:Int)) rfl rfl (rfl:is _ (208:Int)) (rfl:is _ (208:Int))⟩
 rename_i c';refine ZAI rfl c'<|ZAB<|ZAC<|ZAD rfl<|ZAL (v:=enc ((eqS s_ (str [46])):Bool)) rfl rfl rfl<|ZAD rfl ?_
 obtain⟨b,hb_b,h⟩:=bs h;refine ZAV 3 (fun φ s=>Hp s [(.gl (NG mx))]∧Fx φ [(0,(enc s_)),(18,(enc b))]) ?_ ?_
 ·split at hb_b
  ·rename_i cg;refine ZAE rfl rfl (by simpa using cg)<|ZAE rfl rfl (by simpa using cg)<|ZAh (v:=enc true) rfl cg rfl<|ZAA ?_
   rw[←oi hb_b];exact⟨hs,FxR rfl⟩
  rename_i cg1;refine ZAF rfl rfl (by simpa using cg1)<|ZAD rfl<|ZAF rfl rfl (by simpa using cg1)<|ZAL (v:=enc ((eqS s_ (str [46,46])):Bool)) rfl rfl rfl<|ZAf rfl cg1 rfl<|ZAA ?_
  rw[←oi hb_b];exact⟨hs,FxR rfl⟩
 rintro φ s ⟨hs,hF⟩;rw[←hF.eq];refine ZAD rfl ?_
 obtain⟨b1,hb_b1,h⟩:=bs h;refine ZAV 4 (fun φ s=>Hp s [(.gl (NG mx))]∧Fx φ [(0,(enc s_)),(23,(enc b1))]) ?_ ?_
 ·split at hb_b1
  ·rename_i cg2;refine ZAE rfl rfl (by simpa using cg2)<|ZAE rfl rfl (by simpa using cg2)<|ZAE rfl rfl (by simpa using cg2)<|ZAh (v:=enc true) rfl cg2 rfl<|ZAA ?_
   rw[←oi hb_b1];exact⟨hs,FxR rfl⟩
  rename_i cg3;refine ZAF rfl rfl (by simpa using cg3)<|ZAD rfl<|ZAF rfl rfl (by simpa using cg3) ?_
  obtain⟨r_,hx,hb_b1⟩:=bs hb_b1;refine ZAe (f:=fun a:Str×Unit=>utf8_ValidString a.1) (a:=(s_,())) rfl func79 rfl rfl (.cons (a:=s_) (Enc.self _) .nil) hs List.mem_cons_self hx<|ZAF rfl rfl (by simpa using cg3)<|ZC0 (v:=enc (!r_)) rfl rfl<|ZAf rfl cg3 rfl<|ZAA ?_
  rw[←oi hb_b1];exact⟨hs,FxR rfl⟩
 rintro φ s ⟨hs,hF⟩;rw[←hF.eq];refine ZAG rfl<|ZAA ?_
 split at h
 ·rename_i c';refine ZAH rfl c'<|ZAB<|ZAC<|ZAG (v:=enc (206:Int)) rfl<|ZAA<|ZAP ?_
  show if _ then _ else _
  rw[if_neg (by simp)]
  rw[←oi h];exact⟨rfl,KE1 (a:=(206:Int)) rfl rfl (rfl:is _ (206:Int)) (rfl:is _ (206:Int))⟩
 rename_i c';refine ZAI rfl c'<|ZAO<|ZAB<|ZAB<|ZAC<|ZAD rfl<|ZTB underlying9 rfl hs fun m s hs=>ZAA<|ZAQ ?_
 obtain⟨o,hl,h⟩:=bs h;refine ZA2 (fun(p:Nat) φ s=>match p with | v=>Fx φ [(25,(.ptr m 0))]∧Hp s [(.gl (NG mx)),(.it m s_ v)]) (fun(o:(Unit ⊕ Int)) e φ s=>match o with | (.inl _)=>e= .exit 1∧Fx φ []∧Hp s [(.gl (NG mx))] | (.inr v1)=>e= .ret∧Fx φ [(2,(enc v1))]∧Hp s [(.gl (NG mx))]) ?_ hl ⟨FxR rfl,(Hp.front [(.it m s_ 0)] (b:=[]) (Hp.front [] (b:=[(.gl (NG mx))]) hs))⟩ ?_
 ·rintro v o h φ s ⟨hF,hs⟩;rw[←hF.eq];rw[ZCG] at h;refine ZAB<|ZAC ?_
  replace hs:=Hp.front [(.gl (NG mx))] (b:=[]) hs;split at h
  ·rename_i cn;refine ZQ2 rfl hs cn fun s hs=>ZBB rfl rfl<|ZAA<|ZAB<|ZAH rfl rfl<|ZAO<|ZAQ<|ZAB<|ZAC<|ZBB rfl rfl<|ZAG rfl<|ZAA<|ZAB<|ZAC<|ZAD rfl ?_
   refine ZAL (v:=enc ((((ZCC s_ v)).v==((Rune.mk 47)).v):Bool)) rfl rfl rfl<|ZAD rfl ?_
   obtain⟨b2,hb_b2,h⟩:=bs h;refine ZAV 3 (fun φ s=>Hp s [(.it m s_ (v+ZBU s_ v)),(.gl (NG mx))]∧Fx φ [(25,(.ptr m 0)),(34,(enc b2))]) ?_ ?_
   ·split at hb_b2
    ·rename_i cg4;refine ZAE rfl rfl (by simpa using cg4)<|ZAE rfl rfl (by simpa using cg4)<|ZAh (v:=enc true) rfl cg4 rfl<|ZAA ?_
     rw[←oi hb_b2];exact⟨hs,FxR rfl⟩
    rename_i cg5;refine ZAF rfl rfl (by simpa using cg5)<|ZAD rfl<|ZAF rfl rfl (by simpa using cg5)<|ZAL (v:=enc ((((ZCC s_ v)).v==((Rune.mk 0)).v):Bool)) rfl rfl rfl<|ZAf rfl cg5 rfl<|ZAA ?_
    rw[←oi hb_b2];exact⟨hs,FxR rfl⟩
   rintro φ s ⟨hs,hF⟩;rw[←hF.eq];refine ZAA ?_
   split at h
   ·rename_i c';refine ZAH rfl c'<|ZAB<|ZAC<|ZAG (v:=enc (206:Int)) rfl<|ZAA<|ZAP ?_
    show if _ then _ else _
    rw[if_neg (by simp)]
    rw[←oi h];exact⟨_,rfl,rfl,⟨FxR rfl,(Hp.drop [] (b:=[(.gl (NG mx))]) hs)⟩⟩
   rename_i c';refine ZAI rfl c'<|ZAO ?_
   rw[←oi h];exact⟨_,rfl,⟨FxR rfl,(Hp.front [(.it m s_ (v+ZBU s_ v))] (b:=[]) (Hp.front [] (b:=[(.gl (NG mx))]) hs))⟩⟩
  rename_i cn;refine ZQ3 rfl hs cn<|ZBB rfl rfl<|ZAA<|ZAB<|ZAI rfl Bool.false_ne_true<|ZAw ?_
  rw[←oi h];exact⟨_,rfl,rfl,⟨trivial,(Hp.drop [] (b:=[(.gl (NG mx))]) hs)⟩⟩
 intro e φ s hE;rcases o with _u | v1
 ·obtain⟨rfl,hF,hs⟩:=hE;rw[←hF.eq];rw[ZDA] at h;show if _ then _ else _
  rw[if_pos rfl];refine ZAB<|ZAC<|ZAG (v:=enc (0:Int)) rfl<|ZAA<|ZAP ?_
  rw[←oi h];exact⟨rfl,KE1 (a:=(0:Int)) rfl rfl (rfl:is _ (0:Int)) (rfl:is _ (0:Int))⟩
 obtain⟨rfl,hF,hs⟩:=hE;rw[←hF.eq];rw[ZDA] at h;show if _ then _ else _
 rw[if_neg (by simp)]
 rw[←oi h];exact⟨rfl,KE1 (a:=v1) rfl rfl (rfl:is _ v1) (rfl:is _ v1)⟩
theorem ZIx (mx:Int):ZA0 Tryz.prog 66 (FnG (NG mx) (fun a:Str×Unit=>ZBI a.1)):=fnCG (ZQE mx) ⟨_,func66,rfl⟩<|fun a r h=>ZIw mx a.1 r h
noncomputable def pv1 (mx:Int):Prims:=(pv0 mx).addG 66 (FnG (NG mx) (fun a:Str×Unit=>ZBI a.1))
theorem ZQG (mx:Int):ZAT Tryz.prog (pv1 mx):=ZAU (ZQE mx) (ZIx mx)
theorem ZIy (mx:Int) (l:(List Str)) (r:Bool) (h:ZBN l=some r):MF Tryz.prog (pv1 mx) 89 [enc l] (sG (NG mx)) fun v _=>ris v r:=by
 refine ZAo [(0,enc l)] func89 rfl (by simp only[Tryz.f89];rfl) fun ψ=> ?_
 unfold ZBN at h;have hs:Hp (sG (NG mx)) [.gl (NG mx)]:=Hp.gl0
 refine ZAB<|ZAC<|ZAG (v:=enc false) rfl<|ZAA<|ZAB<|ZAB<|ZAC<|ZAD rfl<|ZA7 underlying43 rfl rfl (Enc.self l)<|ZAD (v:=enc (0:Int)) rfl<|ZAA<|ZAQ ?_
 obtain⟨o,hl,h⟩:=bs h;refine ZA2 (fun(p:Int) φ s=>match p with | v=>Fx φ [(0,(enc (l:(List Str)))),(5,(enc (l:(List Str)))),(6,(enc ((l.length:Int):Int))),(7,(enc v))]∧Hp s [(.gl (NG mx))]) (fun(o:(Unit ⊕ Bool)) e φ s=>match o with | (.inl _)=>e= .exit 0∧Fx φ []∧Hp s [(.gl (NG mx))] | (.inr v1)=>e= .ret∧Fx φ [(2,(enc v1))]∧Hp s [(.gl (NG mx))]) ?_ hl ⟨FxR rfl,hs⟩ ?_
 ·rintro v o h φ s ⟨hF,hs⟩;rw[←hF.eq];rw[ZEE] at h;refine ZAB<|ZAC<|ZAL (v:=enc (decide (v<(l.length:Int)))) rfl rfl rfl<|ZAA<|ZAB ?_
  split at h
  ·rename_i c';refine ZAH rfl c'<|ZAO<|ZAB<|ZAQ<|ZAB<|ZAC<|ZAD rfl ?_
   obtain⟨v2,hx,h⟩:=bs h;refine ZBY underlying43 sh9 rfl rfl (Enc.self l) hx fun p hp=>ZDx rfl ag9 rfl hp fun y hy=> ?_
   cases hy;refine ZAG rfl<|ZAG rfl<|ZAA<|ZAB<|ZAC<|ZAD rfl ?_
   obtain⟨r_,hx1,h⟩:=bs h;refine ZAe (f:=fun a:Str×Unit=>ZBI a.1) (a:=(v2,())) rfl func66 rfl rfl (.cons (a:=v2) (Enc.self _) .nil) hs List.mem_cons_self hx1<|ZAL (v:=enc (r_ !=0)) rfl rfl rfl<|ZAD rfl ?_
   obtain⟨b,hb_b,h⟩:=bs h;refine ZAV 12 (fun φ s=>Hp s [(.gl (NG mx))]∧Fx φ [(0,(enc (l:(List Str)))),(5,(enc (l:(List Str)))),(6,(enc ((l.length:Int):Int))),(7,(enc v)),(27,(enc b))]) ?_ ?_
   ·split at hb_b
    ·rename_i cg;refine ZAE rfl rfl (by simpa using cg)<|ZAE rfl rfl (by simpa using cg)<|ZAE rfl rfl (by simpa using cg)<|ZAS rfl rfl<|ZAS rfl rfl<|ZAS rfl rfl<|ZAS rfl rfl<|ZAS rfl rfl<|ZAS rfl rfl<|ZAS rfl rfl<|ZAE rfl rfl (by simpa using cg)<|ZAh (v:=enc true) rfl cg rfl<|ZAA ?_
     rw[←oi hb_b];exact⟨hs,FxR rfl⟩
    rename_i cg1;refine ZAF rfl rfl (by simpa using cg1)<|ZAD rfl<|ZAF rfl rfl (by simpa using cg1)<|ZAL (v:=enc (decide (v > 0))) rfl rfl rfl<|ZAF rfl rfl (by simpa using cg1)<|ZAD rfl ?_
    obtain⟨b1,hb_b1,hb_b⟩:=bs hb_b;refine ZAV 8 (fun φ s=>Hp s [(.gl (NG mx))]∧Fx φ [(0,(enc (l:(List Str)))),(5,(enc (l:(List Str)))),(6,(enc ((l.length:Int):Int))),(7,(enc v)),(15,(enc (r_ !=0))),(26,(enc b1))]) ?_ ?_
    ·split at hb_b1
     ·rename_i cg2;refine ZAF rfl rfl cg2<|ZAD rfl<|ZAF rfl rfl cg2<|ZAD rfl<|ZAF rfl rfl cg2<|ZAD rfl<|ZAF rfl rfl cg2<|ZAL (v:=enc (IntKind.i64.wrap (v - 1))) rfl rfl rfl<|ZAF rfl rfl cg2 ?_
      obtain⟨v3,hx2,hb_b1⟩:=bs hb_b1;refine ZBY underlying43 sh9 rfl rfl (Enc.self l) hx2 fun p1 hp1=>ZAF rfl rfl cg2<|ZDx rfl ag9 rfl hp1 fun y1 hy1=> ?_
      cases hy1;refine ZAF rfl rfl cg2<|ZAL (v:=enc ((ltS v2 v3 || eqS v2 v3):Bool)) rfl rfl rfl<|ZAF rfl rfl (by simpa using cg1)<|ZAh rfl cg2 rfl<|ZAA ?_
      rw[←oi hb_b1];exact⟨hs,FxR rfl⟩
     rename_i cg3;refine ZAE rfl rfl cg3<|ZAE rfl rfl cg3<|ZAE rfl rfl cg3<|ZAE rfl rfl cg3<|ZAE rfl rfl cg3<|ZAE rfl rfl cg3<|ZAE rfl rfl cg3<|ZAF rfl rfl (by simpa using cg1)<|ZAf (v:=enc false) rfl cg3 rfl<|ZAA ?_
     rw[←oi hb_b1];exact⟨hs,FxR rfl⟩
    rintro φ s ⟨hs,hF⟩;rw[←hF.eq];refine ZAf rfl cg1 rfl<|ZAA ?_
    rw[←oi hb_b];exact⟨hs,FxR rfl⟩
   rintro φ s ⟨hs,hF⟩;rw[←hF.eq];refine ZAA ?_
   split at h
   ·rename_i c';refine ZAH rfl c'<|ZAB<|ZAC<|ZAG (v:=enc false) rfl<|ZAA<|ZAP ?_
    show if _ then _ else _
    rw[if_neg (by simp)]
    rw[←oi h];exact⟨_,rfl,rfl,⟨FxR rfl,hs⟩⟩
   rename_i c';refine ZAI rfl c'<|ZAO<|ZAC<|ZAL (v:=enc (IntKind.i64.wrap (v+1))) rfl rfl rfl<|ZAD rfl<|ZAA ?_
   rw[←oi h];exact⟨_,rfl,⟨FxR rfl,hs⟩⟩
  rename_i c';refine ZAI rfl c'<|ZAw ?_
  rw[←oi h];exact⟨_,rfl,rfl,⟨trivial,hs⟩⟩
 intro e φ s hE;rcases o with _u | v1
 ·obtain⟨rfl,hF,hs⟩:=hE;rw[←hF.eq];rw[ZEF] at h;show if _ then _ else _
  rw[if_pos rfl];refine ZAB<|ZAC<|ZAG (v:=enc true) rfl<|ZAA<|ZAP ?_
  rw[←oi h];exact⟨rfl,KE1 (a:=(true:Bool)) rfl rfl (rfl:is _ (true:Bool)) (rfl:is _ (true:Bool))⟩
 obtain⟨rfl,hF,hs⟩:=hE;rw[←hF.eq];rw[ZEF] at h;show if _ then _ else _
 rw[if_neg (by simp)]
 rw[←oi h];exact⟨rfl,KE1 (a:=v1) rfl rfl (rfl:is _ v1) (rfl:is _ v1)⟩
theorem ZIz (mx:Int):ZA0 Tryz.prog 89 (FnG (NG mx) (fun a:(List Str)×Unit=>ZBN a.1)):=fnCG (ZQG mx) ⟨_,func89,rfl⟩<|fun a r h=>ZIy mx a.1 r h
noncomputable def pv2 (mx:Int):Prims:=(pv1 mx).addG 89 (FnG (NG mx) (fun a:(List Str)×Unit=>ZBN a.1))
theorem ZQH (mx:Int):ZAT Tryz.prog (pv2 mx):=ZAU (ZQG mx) (ZIz mx)
theorem ZJx (mx:Int) (l:(List ZAc)) (r:Bool) (h:ZCr l=some r):MF Tryz.prog (pv2 mx) 107 [enc l] (sG (NG mx)) fun v _=>ris v r:=by
 refine ZAo [(0,enc l)] func107 rfl (by simp only[Tryz.f107];rfl) fun ψ=> ?_
 unfold ZCr at h;have hs:Hp (sG (NG mx)) [.gl (NG mx)]:=Hp.gl0
 refine ZAB<|ZAC<|ZAG (v:=enc false) rfl<|ZAA<|ZAB<|ZAC<|ZAG (v:= .nils) rfl<|ZAA<|ZAB<|ZAB<|ZAC<|ZAD rfl<|ZA7 underlying45 rfl rfl (Enc.self l)<|ZAD (v:=enc (0:Int)) rfl<|ZAA ?_
 refine ZAQ ?_
 obtain⟨o,hl,h⟩:=bs h;refine ZA2 (fun(p:((List Str)×Int)) φ s=>match p with | (names,v)=>∃(x_names:AV),is x_names names∧ZBr x_names=true∧Fx φ [(0,(enc (l:(List ZAc)))),(3,x_names),(6,(enc (l:(List ZAc)))),(7,(enc ((l.length:Int):Int))),(8,(enc v))]∧Hp s [(.gl (NG mx)), .own x_names]) (fun(o:((List Str) ⊕ Bool)) e φ s=>match o with | (.inl names1)=>e= .exit 0∧∃(x_names1:AV),is x_names1 names1∧ZBr x_names1=true∧Fx φ [(0,(enc (l:(List ZAc)))),(3,x_names1)]∧Hp s [(.gl (NG mx)), .own x_names1] | (.inr v1)=>e= .ret∧Fx φ [(2,(enc v1))]∧Hp s [(.gl (NG mx))]) ?_ hl ⟨.nils,isL.nil,rfl,FxR rfl,(Hp.front [.own .nils] (b:=[]) (Hp.front [] (b:=[(.gl (NG mx))]) (Hp.add hs rfl)))⟩ ?_
 ·rintro⟨names,v⟩ o h φ s ⟨x_names,h_names,h_namesc,hF,hs⟩;rw[←hF.eq];rw[ZEj] at h;refine ZAB<|ZAC<|ZAL (v:=enc (decide (v<(l.length:Int)))) rfl rfl rfl<|ZAA<|ZAB ?_
  split at h
  ·rename_i c';refine ZAH rfl c'<|ZAO<|ZAB<|ZAQ<|ZAB<|ZAC ?_
   obtain⟨v2,hx,h⟩:=bs h;refine ZBY underlying45 ZRx rfl rfl (Enc.self l) hx fun p hp=>ZEe ZRw ZPD rfl hp fun y hy=>ZBZ (r:=(Rec.mk ((str []),([]:(List UInt8)),()):ZAc)) ZSX ZPQ hs fun m s hs=>ZBE (r:=v2) ZPD rfl rfl ZPQ hy hs fun xs s hxs hs=>ZAA<|ZAB<|ZAC<|ZAD (v:=x_names) rfl<|ZAb ZN4 rfl<|ZAN ag9 Sz rfl hxs hs fun y1 hy1=> ?_
   cases hy1;refine ZEC [(enc v2.v.1)] ([v2.v.1]:(List Str)) underlying43 ef9 rfl rfl rfl (Nat.le_of_ble_eq_true rfl) ⟨(rfl:is _ v2.v.1),trivial⟩ fun z hz hzc hzn=> ?_
   obtain⟨l1,hx1,h⟩:=bs h;refine ZQ0 [(.cells m xs),(.gl (NG mx))] (es2:=[]) underlying43 underlying43 rfl rfl ef9 rfl rfl h_names h_namesc hs hz hx1 fun z1 s hz1 hz1c hs=>ZAG (v:=z1) rfl<|ZAA<|ZAB<|ZAC<|ZAb ZN5 rfl<|ZAN ag42 (Ss Sz) rfl hxs hs fun y2 hy2=>ZA7 underlying42 rfl rfl hy2<|ZAL (v:=enc (decide ((v2.v.2.1.length:Int) > 256))) rfl rfl rfl<|ZAA ?_
   split at h
   ·rename_i c';refine ZAH rfl c'<|ZAB<|ZAC<|ZAG (v:=enc false) rfl<|ZAA<|ZAP ?_
    show if _ then _ else _
    rw[if_neg (by simp)]
    rw[←oi h];exact⟨_,rfl,rfl,⟨FxR rfl,(Hp.drop [(.gl (NG mx))] (b:=[]) (Hp.drop [] (b:=[(.gl (NG mx)), .own z1]) hs))⟩⟩
   rename_i c';refine ZAI rfl c'<|ZAO<|ZAC<|ZAL (v:=enc (IntKind.i64.wrap (v+1))) rfl rfl rfl<|ZAD rfl<|ZAA ?_
   rw[←oi h];exact⟨_,rfl,⟨z1,hz1,hz1c,FxR rfl,(Hp.drop [] (b:=[(.gl (NG mx)), .own z1]) hs)⟩⟩
  rename_i c';refine ZAI rfl c'<|ZAw ?_
  rw[←oi h];exact⟨_,rfl,rfl,⟨x_names,h_names,h_namesc,FxR rfl,hs⟩⟩
 intro e φ s hE;rcases o with names1 | v1
 ·obtain⟨rfl,x_names1,h_names1,h_names1c,hF,hs⟩:=hE;rw[←hF.eq];rw[ZEk] at h;show if _ then _ else _
  rw[if_pos rfl];refine ZAB<|ZAC<|ZAD rfl<|ZA7 underlying45 rfl rfl (Enc.self l)<|ZAL (v:=enc (decide ((l.length:Int)≤8))) rfl rfl rfl<|ZAD rfl ?_
  obtain⟨b,hb_b,h⟩:=bs h;refine ZAV 3 (fun φ s=>Hp s [(.gl (NG mx)), .own x_names1]∧Fx φ [(28,(enc b))]) ?_ ?_
  ·split at hb_b
   ·rename_i cg;refine ZAF rfl rfl cg<|ZAD (v:=x_names1) rfl<|ZAF rfl rfl cg ?_
    obtain⟨r_,hx2,hb_b⟩:=bs hb_b;refine ZAe (f:=fun a:(List Str)×Unit=>ZBN a.1) (a:=(names1,())) rfl func89 rfl rfl (.cons (a:=names1) h_names1 .nil) hs List.mem_cons_self hx2<|ZAh rfl cg rfl<|ZAA ?_
    rw[←oi hb_b];exact⟨hs,FxR rfl⟩
   rename_i cg1;refine ZAE rfl rfl cg1<|ZAE rfl rfl cg1<|ZAf (v:=enc false) rfl cg1 rfl<|ZAA ?_
   rw[←oi hb_b];exact⟨hs,FxR rfl⟩
  rintro φ s ⟨hs,hF⟩;rw[←hF.eq];refine ZAG rfl<|ZAA<|ZAP ?_
  rw[←oi h];exact⟨rfl,KE1 (a:=b) rfl rfl (rfl:is _ b) (rfl:is _ b)⟩
 obtain⟨rfl,hF,hs⟩:=hE;rw[←hF.eq];rw[ZEk] at h;show if _ then _ else _
 rw[if_neg (by simp)]
 rw[←oi h];exact⟨rfl,KE1 (a:=v1) rfl rfl (rfl:is _ v1) (rfl:is _ v1)⟩
theorem ZJy (mx:Int):ZA0 Tryz.prog 107 (FnG (NG mx) (fun a:(List ZAc)×Unit=>ZCr a.1)):=fnCG (ZQH mx) ⟨_,func107,rfl⟩<|fun a r h=>ZJx mx a.1 r h
noncomputable def pv3 (mx:Int):Prims:=(pv2 mx).addG 107 (FnG (NG mx) (fun a:(List ZAc)×Unit=>ZCr a.1))
theorem ZQI (mx:Int):ZAT Tryz.prog (pv3 mx):=ZAU (ZQH mx) (ZJy mx)
theorem ZI0 (mx:Int) (m:ZCO) (r:Bool) (h:ZBp m=some r):MF Tryz.prog (pv3 mx) 106 [enc m] (sG (NG mx)) fun v _=>ris v r:=by
 refine ZAo [(0,enc m)] func106 rfl (by simp only[Tryz.f106];rfl) fun ψ=> ?_
 unfold ZBp at h;have hs:Hp (sG (NG mx)) [.gl (NG mx)]:=Hp.gl0
 refine ZAB<|ZAC<|ZBe (r:=m) rfl (Enc.self m) hs fun m1 xs s hxs hs=>ZAG (v:=enc false) rfl<|ZAA<|ZAB<|ZAB<|ZAC<|ZAb ZIu rfl<|ZAN ag41 Sz rfl hxs hs fun y hy=> ?_
 cases hy;refine ZAL (v:=enc (m.v.1 !=3)) rfl rfl rfl<|ZAA ?_
 split at h
 ·rename_i c';refine ZAH rfl c'<|ZAB<|ZAC<|ZAb ZHZ rfl<|ZAN ag9 (Ss (Ss (Ss (Ss Sz)))) rfl hxs hs fun y1 hy1=> ?_
  cases hy1;refine ZAL (v:=enc ((eqS m.v.2.2.2.2.1 (str [])):Bool)) rfl rfl rfl<|ZAG rfl<|ZAA<|ZAP ?_
  rw[←oi h];exact⟨rfl,KE1 (a:=((eqS m.v.2.2.2.2.1 (str [])):Bool)) rfl rfl (rfl:is _ ((eqS m.v.2.2.2.2.1 (str [])):Bool)) (rfl:is _ ((eqS m.v.2.2.2.2.1 (str [])):Bool))⟩
 rename_i c';refine ZAI rfl c'<|ZAO<|ZAB<|ZAC<|ZAb ZHZ rfl<|ZAN ag9 (Ss (Ss (Ss (Ss Sz)))) rfl hxs hs fun y2 hy2=> ?_
 cases hy2;refine ZAL (v:=enc (!eqS m.v.2.2.2.2.1 (str []))) rfl rfl rfl<|ZAD rfl ?_
 obtain⟨b,hb_b,h⟩:=bs h;refine ZAV 5 (fun φ s=>Hp s [(.cells m1 xs),(.gl (NG mx))]∧Fx φ [(1,(.ptr m1 0)),(17,(enc b))]) ?_ ?_
 ·split at hb_b
  ·rename_i cg;refine ZAF rfl rfl cg<|ZAb ZHZ rfl<|ZAF rfl rfl cg<|ZAN ag9 (Ss (Ss (Ss (Ss Sz)))) rfl hxs hs fun y3 hy3=> ?_
   cases hy3;refine ZAF rfl rfl cg<|ZJi underlying9 rfl rfl<|ZAF rfl rfl cg<|ZAL (v:=enc (decide (((List.length m.v.2.2.2.2.1:Nat):Int)≤1000))) rfl rfl rfl<|ZAh rfl cg rfl<|ZAA ?_
   rw[←oi hb_b];exact⟨hs,FxR rfl⟩
  rename_i cg1;refine ZAE rfl rfl cg1<|ZAE rfl rfl cg1<|ZAE rfl rfl cg1<|ZAE rfl rfl cg1<|ZAf (v:=enc false) rfl cg1 rfl<|ZAA ?_
  rw[←oi hb_b];exact⟨hs,FxR rfl⟩
 rintro φ s ⟨hs,hF⟩;rw[←hF.eq];refine ZAD rfl ?_
 obtain⟨b1,hb_b1,h⟩:=bs h;refine ZAV 5 (fun φ s=>Hp s [(.cells m1 xs),(.gl (NG mx))]∧Fx φ [(1,(.ptr m1 0)),(23,(enc b1))]) ?_ ?_
 ·split at hb_b1
  ·rename_i cg2;refine ZAF rfl rfl cg2<|ZAb ZHZ rfl<|ZAF rfl rfl cg2<|ZAN ag9 (Ss (Ss (Ss (Ss Sz)))) rfl hxs hs fun y4 hy4=> ?_
   cases hy4;refine ZAF rfl rfl cg2 ?_
   obtain⟨r_,hx,hb_b1⟩:=bs hb_b1;refine ZCB (f:=fun a:Str×Str×Unit=>ZBR a.1 a.2.1) (a:=(m.v.2.2.2.2.1,(str [0]),())) rfl func123 rfl rfl (.cons (a:=m.v.2.2.2.2.1) (Enc.self _) (.cons (a:=((str [0]):Str)) (Enc.self _) .nil)) hx<|ZAF rfl rfl cg2<|ZC0 (v:=enc (!r_)) rfl rfl<|ZAh rfl cg2 rfl<|ZAA ?_
   rw[←oi hb_b1];exact⟨hs,FxR rfl⟩
  rename_i cg3;refine ZAE rfl rfl cg3<|ZAE rfl rfl cg3<|ZAE rfl rfl cg3<|ZAE rfl rfl cg3<|ZAf (v:=enc false) rfl cg3 rfl<|ZAA ?_
  rw[←oi hb_b1];exact⟨hs,FxR rfl⟩
 rintro φ s ⟨hs,hF⟩;rw[←hF.eq];refine ZAD rfl ?_
 obtain⟨b2,hb_b2,h⟩:=bs h;refine ZAV 4 (fun φ s=>Hp s [(.cells m1 xs),(.gl (NG mx))]∧Fx φ [(28,(enc b2))]) ?_ ?_
 ·split at hb_b2
  ·rename_i cg4;refine ZAF rfl rfl cg4<|ZAb ZHY rfl<|ZAF rfl rfl cg4<|ZAN ag3 (Ss (Ss (Ss Sz))) rfl hxs hs fun y5 hy5=> ?_
   cases hy5;refine ZAF rfl rfl cg4<|ZAL (v:=enc (m.v.2.2.2.1==0)) rfl rfl rfl<|ZAh rfl cg4 rfl<|ZAA ?_
   rw[←oi hb_b2];exact⟨hs,FxR rfl⟩
  rename_i cg5;refine ZAE rfl rfl cg5<|ZAE rfl rfl cg5<|ZAE rfl rfl cg5<|ZAf (v:=enc false) rfl cg5 rfl<|ZAA ?_
  rw[←oi hb_b2];exact⟨hs,FxR rfl⟩
 rintro φ s ⟨hs,hF⟩;rw[←hF.eq];refine ZAG rfl<|ZAA<|ZAP ?_
 rw[←oi h];exact⟨rfl,KE1 (a:=b2) rfl rfl (rfl:is _ b2) (rfl:is _ b2)⟩
theorem ZI1 (mx:Int):ZA0 Tryz.prog 106 (FnG (NG mx) (fun a:ZCO×Unit=>ZBp a.1)):=fnCG (ZQI mx) ⟨_,func106,rfl⟩<|fun a r h=>ZI0 mx a.1 r h
noncomputable def pv4 (mx:Int):Prims:=(pv3 mx).addG 106 (FnG (NG mx) (fun a:ZCO×Unit=>ZBp a.1))
theorem ZQJ (mx:Int):ZAT Tryz.prog (pv4 mx):=ZAU (ZQI mx) (ZI1 mx)
theorem ZK0 (mx:Int) (m:ZCO) (r:Bool) (h:ZDg m=some r):MF Tryz.prog (pv4 mx) 86 [enc m] (sG (NG mx)) fun v _=>ris v r:=by
 refine ZAo [(0,enc m)] func86 rfl (by simp only[Tryz.f86];rfl) fun ψ=> ?_
 unfold ZDg at h;have hs:Hp (sG (NG mx)) [.gl (NG mx)]:=Hp.gl0
 refine ZAB<|ZAC<|ZBe (r:=m) rfl (Enc.self m) hs fun m1 xs s hxs hs=>ZAG (v:=enc false) rfl<|ZAA<|ZAB<|ZAC<|ZAb ZKw rfl<|ZAN ag3 (Ss Sz) rfl hxs hs fun y hy=> ?_
 cases hy;refine ZAL (v:=enc (decide (m.v.2.1≥0))) rfl rfl rfl<|ZAD rfl ?_
 obtain⟨b,hb_b,h⟩:=bs h;refine ZAV 4 (fun φ s=>Hp s [(.cells m1 xs),(.gl (NG mx))]∧Fx φ [(1,(.ptr m1 0)),(14,(enc b))]) ?_ ?_
 ·split at hb_b
  ·rename_i cg;refine ZAF rfl rfl cg<|ZAb ZKw rfl<|ZAF rfl rfl cg<|ZAN ag3 (Ss Sz) rfl hxs hs fun y1 hy1=> ?_
   cases hy1;refine ZAF rfl rfl cg<|ZAL (v:=enc (decide (m.v.2.1≤4095))) rfl rfl rfl<|ZAh rfl cg rfl<|ZAA ?_
   rw[←oi hb_b];exact⟨hs,FxR rfl⟩
  rename_i cg1;refine ZAE rfl rfl cg1<|ZAE rfl rfl cg1<|ZAE rfl rfl cg1<|ZAf (v:=enc false) rfl cg1 rfl<|ZAA ?_
  rw[←oi hb_b];exact⟨hs,FxR rfl⟩
 rintro φ s ⟨hs,hF⟩;rw[←hF.eq];refine ZAD rfl ?_
 obtain⟨b1,hb_b1,h⟩:=bs h;refine ZAV 4 (fun φ s=>Hp s [(.cells m1 xs),(.gl (NG mx))]∧Fx φ [(1,(.ptr m1 0)),(19,(enc b1))]) ?_ ?_
 ·split at hb_b1
  ·rename_i cg2;refine ZAF rfl rfl cg2<|ZAb ZKx rfl<|ZAF rfl rfl cg2<|ZAN ag3 (Ss (Ss Sz)) rfl hxs hs fun y2 hy2=> ?_
   cases hy2;refine ZAF rfl rfl cg2<|ZAL (v:=enc (decide (m.v.2.2.1≥0))) rfl rfl rfl<|ZAh rfl cg2 rfl<|ZAA ?_
   rw[←oi hb_b1];exact⟨hs,FxR rfl⟩
  rename_i cg3;refine ZAE rfl rfl cg3<|ZAE rfl rfl cg3<|ZAE rfl rfl cg3<|ZAf (v:=enc false) rfl cg3 rfl<|ZAA ?_
  rw[←oi hb_b1];exact⟨hs,FxR rfl⟩
 rintro φ s ⟨hs,hF⟩;rw[←hF.eq];refine ZAD rfl ?_
 obtain⟨b2,hb_b2,h⟩:=bs h;refine ZAV 4 (fun φ s=>Hp s [(.cells m1 xs),(.gl (NG mx))]∧Fx φ [(1,(.ptr m1 0)),(24,(enc b2))]) ?_ ?_
 ·split at hb_b2
  ·rename_i cg4;refine ZAF rfl rfl cg4<|ZAb ZKx rfl<|ZAF rfl rfl cg4<|ZAN ag3 (Ss (Ss Sz)) rfl hxs hs fun y3 hy3=> ?_
   cases hy3;refine ZAF rfl rfl cg4<|ZAL (v:=enc (decide (m.v.2.2.1≤64))) rfl rfl rfl<|ZAh rfl cg4 rfl<|ZAA ?_
   rw[←oi hb_b2];exact⟨hs,FxR rfl⟩
  rename_i cg5;refine ZAE rfl rfl cg5<|ZAE rfl rfl cg5<|ZAE rfl rfl cg5<|ZAf (v:=enc false) rfl cg5 rfl<|ZAA ?_
  rw[←oi hb_b2];exact⟨hs,FxR rfl⟩
 rintro φ s ⟨hs,hF⟩;rw[←hF.eq];refine ZAD rfl ?_
 obtain⟨b3,hb_b3,h⟩:=bs h;refine ZAV 4 (fun φ s=>Hp s [(.cells m1 xs),(.gl (NG mx))]∧Fx φ [(1,(.ptr m1 0)),(29,(enc b3))]) ?_ ?_
 ·split at hb_b3
  ·rename_i cg6;refine ZAF rfl rfl cg6<|ZAb ZHY rfl<|ZAF rfl rfl cg6<|ZAN ag3 (Ss (Ss (Ss Sz))) rfl hxs hs fun y4 hy4=> ?_
   cases hy4;refine ZAF rfl rfl cg6<|ZAL (v:=enc (decide (m.v.2.2.2.1≥0))) rfl rfl rfl<|ZAh rfl cg6 rfl<|ZAA ?_
   rw[←oi hb_b3];exact⟨hs,FxR rfl⟩
  rename_i cg7;refine ZAE rfl rfl cg7<|ZAE rfl rfl cg7<|ZAE rfl rfl cg7<|ZAf (v:=enc false) rfl cg7 rfl<|ZAA ?_
  rw[←oi hb_b3];exact⟨hs,FxR rfl⟩
 rintro φ s ⟨hs,hF⟩;rw[←hF.eq];refine ZAD rfl ?_
 obtain⟨b4,hb_b4,h⟩:=bs h;refine ZAV 4 (fun φ s=>Hp s [(.cells m1 xs),(.gl (NG mx))]∧Fx φ [(1,(.ptr m1 0)),(34,(enc b4))]) ?_ ?_
 ·split at hb_b4
  ·rename_i cg8;refine ZAF rfl rfl cg8<|ZAb ZHY rfl<|ZAF rfl rfl cg8<|ZAN ag3 (Ss (Ss (Ss Sz))) rfl hxs hs fun y5 hy5=> ?_
   cases hy5;refine ZAF rfl rfl cg8<|ZAL (v:=enc (decide (m.v.2.2.2.1≤32768))) rfl rfl rfl<|ZAh rfl cg8 rfl<|ZAA ?_
   rw[←oi hb_b4];exact⟨hs,FxR rfl⟩
  rename_i cg9;refine ZAE rfl rfl cg9<|ZAE rfl rfl cg9<|ZAE rfl rfl cg9<|ZAf (v:=enc false) rfl cg9 rfl<|ZAA ?_
  rw[←oi hb_b4];exact⟨hs,FxR rfl⟩
 rintro φ s ⟨hs,hF⟩;rw[←hF.eq];refine ZAD rfl ?_
 obtain⟨b5,hb_b5,h⟩:=bs h;refine ZAV 5 (fun φ s=>Hp s [(.cells m1 xs),(.gl (NG mx))]∧Fx φ [(1,(.ptr m1 0)),(40,(enc b5))]) ?_ ?_
 ·split at hb_b5
  ·rename_i cg10;refine ZAF rfl rfl cg10<|ZAb ZIv rfl<|ZAF rfl rfl cg10<|ZAN ZPC (Ss (Ss (Ss (Ss (Ss (Ss Sz)))))) rfl hxs hs fun y6 hy6=>ZAF rfl rfl cg10<|ZA7 underlying118 rfl rfl hy6<|ZAF rfl rfl cg10<|ZAL (v:=enc (decide ((m.v.2.2.2.2.2.2.1.length:Int)≤128))) rfl rfl rfl<|ZAh rfl cg10 rfl<|ZAA ?_
   rw[←oi hb_b5];exact⟨hs,FxR rfl⟩
  rename_i cg11;refine ZAE rfl rfl cg11<|ZAE rfl rfl cg11<|ZAE rfl rfl cg11<|ZAE rfl rfl cg11<|ZAf (v:=enc false) rfl cg11 rfl<|ZAA ?_
  rw[←oi hb_b5];exact⟨hs,FxR rfl⟩
 rintro φ s ⟨hs,hF⟩;rw[←hF.eq];refine ZAG rfl<|ZAA<|ZAB<|ZAB<|ZAC<|ZAb ZIu rfl<|ZAN ag41 Sz rfl hxs hs fun y7 hy7=> ?_
 cases hy7;refine ZAL (v:=enc (decide (m.v.1<1))) rfl rfl rfl<|ZAD rfl ?_
 obtain⟨b6,hb_b6,h⟩:=bs h;refine ZAV 4 (fun φ s=>Hp s [(.cells m1 xs),(.gl (NG mx))]∧Fx φ [(1,(.ptr m1 0)),(3,(enc b5)),(48,(enc b6))]) ?_ ?_
 ·split at hb_b6
  ·rename_i cg12;refine ZAE rfl rfl (by simpa using cg12)<|ZAE rfl rfl (by simpa using cg12)<|ZAE rfl rfl (by simpa using cg12)<|ZAh (v:=enc true) rfl cg12 rfl<|ZAA ?_
   rw[←oi hb_b6];exact⟨hs,FxR rfl⟩
  rename_i cg13;refine ZAF rfl rfl (by simpa using cg13)<|ZAb ZIu rfl<|ZAF rfl rfl (by simpa using cg13)<|ZAN ag41 Sz rfl hxs hs fun y8 hy8=> ?_
  cases hy8;refine ZAF rfl rfl (by simpa using cg13)<|ZAL (v:=enc (decide (m.v.1 > 3))) rfl rfl rfl<|ZAf rfl cg13 rfl<|ZAA ?_
  rw[←oi hb_b6];exact⟨hs,FxR rfl⟩
 rintro φ s ⟨hs,hF⟩;rw[←hF.eq];refine ZAD rfl ?_
 obtain⟨b7,hb_b7,h⟩:=bs h;refine ZAV 3 (fun φ s=>Hp s [(.cells m1 xs),(.gl (NG mx))]∧Fx φ [(1,(.ptr m1 0)),(52,(enc b7))]) ?_ ?_
 ·split at hb_b7
  ·rename_i cg14;refine ZAE rfl rfl (by simpa using cg14)<|ZAE rfl rfl (by simpa using cg14)<|ZAh (v:=enc true) rfl cg14 rfl<|ZAA ?_
   rw[←oi hb_b7];exact⟨hs,FxR rfl⟩
  rename_i cg15;refine ZAF rfl rfl (by simpa using cg15)<|ZAD rfl<|ZAF rfl rfl (by simpa using cg15)<|ZC0 (v:=enc (!b5)) rfl rfl<|ZAf rfl cg15 rfl<|ZAA ?_
  rw[←oi hb_b7];exact⟨hs,FxR rfl⟩
 rintro φ s ⟨hs,hF⟩;rw[←hF.eq];refine ZAD rfl ?_
 obtain⟨b8,hb_b8,h⟩:=bs h;refine ZAV 4 (fun φ s=>Hp s [(.cells m1 xs),(.gl (NG mx))]∧Fx φ [(1,(.ptr m1 0)),(57,(enc b8))]) ?_ ?_
 ·split at hb_b8
  ·rename_i cg16;refine ZAE rfl rfl (by simpa using cg16)<|ZAE rfl rfl (by simpa using cg16)<|ZAE rfl rfl (by simpa using cg16)<|ZAh (v:=enc true) rfl cg16 rfl<|ZAA ?_
   rw[←oi hb_b8];exact⟨hs,FxR rfl⟩
  rename_i cg17;refine ZAF rfl rfl (by simpa using cg17)<|ZBK (r:=m) ZRv ZRu rfl hxs hs fun y9 hy9=>ZAF rfl rfl (by simpa using cg17) ?_
  obtain⟨r_,hx,hb_b8⟩:=bs hb_b8;refine ZAe (f:=fun a:ZCO×Unit=>ZBp a.1) (a:=(m,())) rfl func106 rfl rfl (.cons (a:=(m:ZCO)) hy9 .nil) hs (lM _ List.mem_cons_self) hx<|ZAF rfl rfl (by simpa using cg17)<|ZC0 (v:=enc (!r_)) rfl rfl<|ZAf rfl cg17 rfl<|ZAA ?_
  rw[←oi hb_b8];exact⟨hs,FxR rfl⟩
 rintro φ s ⟨hs,hF⟩;rw[←hF.eq];refine ZAD rfl ?_
 obtain⟨b9,hb_b9,h⟩:=bs h;refine ZAV 5 (fun φ s=>Hp s [(.cells m1 xs),(.gl (NG mx))]∧Fx φ [(1,(.ptr m1 0)),(63,(enc b9))]) ?_ ?_
 ·split at hb_b9
  ·rename_i cg18;refine ZAE rfl rfl (by simpa using cg18)<|ZAE rfl rfl (by simpa using cg18)<|ZAE rfl rfl (by simpa using cg18)<|ZAE rfl rfl (by simpa using cg18)<|ZAh (v:=enc true) rfl cg18 rfl<|ZAA ?_
   rw[←oi hb_b9];exact⟨hs,FxR rfl⟩
  rename_i cg19;refine ZAF rfl rfl (by simpa using cg19)<|ZAb ZKy rfl<|ZAF rfl rfl (by simpa using cg19)<|ZAN ag45 (Ss (Ss (Ss (Ss (Ss Sz))))) rfl hxs hs fun y10 hy10=>ZAF rfl rfl (by simpa using cg19) ?_
  obtain⟨r_1,hx1,hb_b9⟩:=bs hb_b9;refine ZAe (f:=fun a:(List ZAc)×Unit=>ZCr a.1) (a:=(m.v.2.2.2.2.2.1,())) rfl func107 rfl rfl (.cons (a:=m.v.2.2.2.2.2.1) hy10 .nil) hs (lM _ List.mem_cons_self) hx1<|ZAF rfl rfl (by simpa using cg19)<|ZC0 (v:=enc (!r_1)) rfl rfl<|ZAf rfl cg19 rfl<|ZAA ?_
  rw[←oi hb_b9];exact⟨hs,FxR rfl⟩
 rintro φ s ⟨hs,hF⟩;rw[←hF.eq];refine ZAA ?_
 split at h
 ·rename_i c';refine ZAH rfl c'<|ZAB<|ZAC<|ZAG (v:=enc false) rfl<|ZAA<|ZAP ?_
  rw[←oi h];exact⟨rfl,KE1 (a:=(false:Bool)) rfl rfl (rfl:is _ (false:Bool)) (rfl:is _ (false:Bool))⟩
 rename_i c';refine ZAI rfl c'<|ZAO<|ZAB<|ZAC<|ZAG (v:=enc (0:Int)) rfl<|ZAA<|ZAB<|ZAB<|ZAC<|ZAb ZIv rfl<|ZAN ZPC (Ss (Ss (Ss (Ss (Ss (Ss Sz)))))) rfl hxs hs fun y11 hy11=>ZA7 underlying118 rfl rfl hy11<|ZAD (v:=enc (0:Int)) rfl<|ZAA<|ZAQ ?_
 obtain⟨o,hl,h⟩:=bs h;refine ZA2 (fun(p:(Int×Int)) φ s=>match p with | (n,v)=>Fx φ [(1,(.ptr m1 0)),(4,(enc n)),(65,y11),(66,(enc ((m.v.2.2.2.2.2.2.1.length:Int):Int))),(67,(enc v))]∧Hp s [(.cells m1 xs),(.gl (NG mx))]) (fun(o:(Int ⊕ Bool)) e φ s=>match o with | (.inl n1)=>e= .exit 0∧Fx φ [(1,(.ptr m1 0)),(4,(enc n1))]∧Hp s [(.cells m1 xs),(.gl (NG mx))] | (.inr v1)=>e= .ret∧Fx φ [(2,(enc v1))]∧Hp s [(.gl (NG mx))]) ?_ hl ⟨FxR rfl,hs⟩ ?_
 ·rintro⟨n,v⟩ o h φ s ⟨hF,hs⟩;rw[←hF.eq];rw[ZEG] at h;refine ZAB<|ZAC<|ZAL (v:=enc (decide (v<(m.v.2.2.2.2.2.2.1.length:Int)))) rfl rfl rfl<|ZAA<|ZAB ?_
  split at h
  ·rename_i c';refine ZAH rfl c'<|ZAO<|ZAB<|ZAQ<|ZAB<|ZAC ?_
   obtain⟨v2,hx2,h⟩:=bs h;refine ZBY underlying118 ZRz rfl rfl hy11 hx2 fun p hp=>ZEe ZQ4 ZNe rfl hp fun y12 hy12=>ZBZ (r:=(Rec.mk ((str []),(0:Int),(0:Int),(0:Int),()):RefR)) ZSZ ZPR hs fun m2 s hs=>ZBE (r:=v2) ZNe rfl rfl ZPR hy12 hs fun xs1 s hxs1 hs=>ZAA<|ZAB<|ZAB<|ZAC<|ZBK (r:=v2) ZQ4 ZNe rfl hxs1 hs fun y13 hy13=> ?_
   cases h
  rename_i c';refine ZAI rfl c'<|ZAw ?_
  rw[←oi h];exact⟨_,rfl,rfl,⟨FxR rfl,hs⟩⟩
 intro e φ s hE;rcases o with n1 | v1
 ·obtain⟨rfl,hF,hs⟩:=hE;rw[←hF.eq];rw[ZDS] at h;show if _ then _ else _
  rw[if_pos rfl];refine ZAB<|ZAC<|ZAD rfl<|ZAb ZHY rfl<|ZAN ag3 (Ss (Ss (Ss Sz))) rfl hxs hs fun y14 hy14=> ?_
  cases hy14;refine ZAL (v:=enc (n1==m.v.2.2.2.1)) rfl rfl rfl<|ZAG rfl<|ZAA<|ZAP ?_
  rw[←oi h];exact⟨rfl,KE1 (a:=((n1==m.v.2.2.2.1):Bool)) rfl rfl (rfl:is _ ((n1==m.v.2.2.2.1):Bool)) (rfl:is _ ((n1==m.v.2.2.2.1):Bool))⟩
 obtain⟨rfl,hF,hs⟩:=hE;rw[←hF.eq];rw[ZDS] at h;show if _ then _ else _
 rw[if_neg (by simp)]
 rw[←oi h];exact⟨rfl,KE1 (a:=v1) rfl rfl (rfl:is _ v1) (rfl:is _ v1)⟩
theorem ZK1 (mx:Int):ZA0 Tryz.prog 86 (FnG (NG mx) (fun a:ZCO×Unit=>ZDg a.1)):=fnCG (ZQJ mx) ⟨_,func86,rfl⟩<|fun a r h=>ZK0 mx a.1 r h
noncomputable def pv5 (mx:Int):Prims:=(pv4 mx).addG 86 (FnG (NG mx) (fun a:ZCO×Unit=>ZDg a.1))
theorem ZQK (mx:Int):ZAT Tryz.prog (pv5 mx):=ZAU (ZQJ mx) (ZK1 mx)
theorem ZIB (mx:Int) (m:ZCO) (r:(List UInt8)×Int) (h:ZBf m=some r):MF Tryz.prog (pv5 mx) 72 [enc m] (sG (NG mx)) fun v _=>ris v r:=by
 refine ZAo [(0,enc m)] func72 rfl (by simp only[Tryz.f72];rfl) fun ψ=> ?_
 unfold ZBf at h;have hs:Hp (sG (NG mx)) [.gl (NG mx)]:=Hp.gl0
 refine ZAB<|ZAC<|ZBe (r:=m) rfl (Enc.self m) hs fun m1 xs s hxs hs=>ZAG (v:= .nils) rfl<|ZAG (v:=enc (0:Int)) rfl<|ZAA<|ZAB<|ZAB<|ZAC<|ZBK (r:=m) ZRv ZRu rfl hxs hs fun y hy=> ?_
 obtain⟨r_,hx,h⟩:=bs h;refine ZAe (f:=fun a:ZCO×Unit=>ZDg a.1) (a:=(m,())) rfl func86 rfl rfl (.cons (a:=(m:ZCO)) hy .nil) hs (lM _ List.mem_cons_self) hx<|ZC0 (v:=enc (!r_)) rfl rfl<|ZAA ?_
 split at h
 ·rename_i c';refine ZAH rfl c'<|ZAB<|ZAC<|ZAG (v:= .nils) rfl<|ZAG (v:=enc (80:Int)) rfl<|ZAA<|ZAP ?_
  rw[←oi h];exact⟨rfl,KE2 (a1:=([]:(List UInt8))) (a2:=(80:Int)) rfl rfl rfl isL.nil (rfl:is _ (80:Int)) ⟨_,_,rfl,isL.nil,(rfl:is _ (80:Int))⟩⟩
 rename_i c';refine ZAI rfl c'<|ZAO<|ZAB<|ZAC<|ZAb ZIu rfl<|ZAN ag41 Sz rfl hxs hs fun y1 hy1=> ?_
 cases hy1;refine ZDa (t:=3) (a:=m.v.1) (by kernel_rfl) rfl (rfl:is _ m.v.1) fun z hz=>ZAb ZKw rfl<|ZAN ag3 (Ss Sz) rfl hxs hs fun y2 hy2=> ?_
 cases hy2;refine ZDa (t:=3) (a:=m.v.2.1) (by kernel_rfl) rfl (rfl:is _ m.v.2.1) fun z1 hz1=>ZAb ZKx rfl<|ZAN ag3 (Ss (Ss Sz)) rfl hxs hs fun y3 hy3=> ?_
 cases hy3;refine ZDa (t:=3) (a:=m.v.2.2.1) (by kernel_rfl) rfl (rfl:is _ m.v.2.2.1) fun z2 hz2=>ZAb ZHY rfl<|ZAN ag3 (Ss (Ss (Ss Sz))) rfl hxs hs fun y4 hy4=> ?_
 cases hy4;refine ZDa (t:=3) (a:=m.v.2.2.2.1) (by kernel_rfl) rfl (rfl:is _ m.v.2.2.2.1) fun z3 hz3=>ZAb ZHZ rfl<|ZAN ag9 (Ss (Ss (Ss (Ss Sz)))) rfl hxs hs fun y5 hy5=> ?_
 cases hy5;refine ZDa (t:=9) (a:=m.v.2.2.2.2.1) (by kernel_rfl) rfl (rfl:is _ m.v.2.2.2.2.1) fun z4 hz4=>ZAb ZKy rfl<|ZAN ag45 (Ss (Ss (Ss (Ss (Ss Sz))))) rfl hxs hs fun y6 hy6=>ZA7 underlying45 rfl rfl hy6<|ZDa (t:=3) (a:=((m.v.2.2.2.2.2.1.length:Int):Int)) (by kernel_rfl) rfl (rfl:is _ ((m.v.2.2.2.2.2.1.length:Int):Int)) fun z5 hz5=>ZEC [z,z1,z2,z3,z4,z5] ([(ZAk 3 (m.v.1:Int)),(ZAk 3 (m.v.2.1:Int)),(ZAk 3 (m.v.2.2.1:Int)),(ZAk 3 (m.v.2.2.2.1:Int)),(ZAk 9 (m.v.2.2.2.2.1:Str)),(ZAk 3 ((m.v.2.2.2.2.2.1.length:Int):Int))]:(List AnyV)) underlying176 ef20 rfl rfl rfl (Nat.le_of_ble_eq_true rfl) ⟨hz,hz1,hz2,hz3,hz4,hz5,trivial⟩ fun z6 hz6 hz6c hz6n=> ?_
 replace hs:=Hp.add (x:= .nils) hs rfl;obtain⟨r_1,hx1,h⟩:=bs h;refine ZAn (by kernel_rfl) func87 rfl (vs:=[.nils,z6]) rfl (MF.any (ZB3 [] [(ZAk 3 (m.v.1:Int)),(ZAk 3 (m.v.2.1:Int)),(ZAk 3 (m.v.2.2.1:Int)),(ZAk 3 (m.v.2.2.2.1:Int)),(ZAk 9 (m.v.2.2.2.2.1:Str)),(ZAk 3 ((m.v.2.2.2.2.2.1.length:Int):Int))] _ hx1 (.inr ⟨rfl,isL.nil,rfl,rfl,rfl⟩) hz6 (Hp.packG [(.own .nils)] [(.cells m1 xs),(.gl (NG mx))] hs)) ZDk) fun w s ⟨en,hm,hq_⟩=> ?_
 replace hs:=Hp.unpackG [(.own .nils)] [en] [(.cells m1 xs),(.gl (NG mx))] hs hq_;refine ZAG (v:=w) rfl<|ZAA<|ZAB<|ZAB<|ZAC<|ZAb ZKy rfl ?_
 replace hs:=Hp.front [en] (b:=[(.gl (NG mx))]) hs;refine ZAN ag45 (Ss (Ss (Ss (Ss (Ss Sz))))) rfl hxs hs fun y7 hy7=>ZA7 underlying45 rfl rfl hy7<|ZAD (v:=enc (0:Int)) rfl<|ZAA<|ZAQ ?_
 obtain⟨b1,hl,h⟩:=bs h;refine ZA2 (fun(p:((List UInt8)×Int)) φ s=>match p with | (b,v)=>∃(x_b:AV) (en1:En),isM x_b en1 b∧Fx φ [(1,(.ptr m1 0)),(4,x_b),(34,y7),(35,(enc ((m.v.2.2.2.2.2.1.length:Int):Int))),(36,(enc v))]∧Hp s [(.cells m1 xs),(.gl (NG mx)),en1]) (fun(o:(List UInt8)) e φ s=>match o with | b1=>e= .exit 0∧∃(x_b1:AV) (en2:En),isM x_b1 en2 b1∧Fx φ [(1,(.ptr m1 0)),(4,x_b1)]∧Hp s [(.cells m1 xs),(.gl (NG mx)),en2]) ?_ hl ⟨w,en,hm,FxR rfl,(Hp.front [(.gl (NG mx)),en] (b:=[]) (Hp.front [en,(.cells m1 xs)] (b:=[]) (Hp.front [(.cells m1 xs)] (b:=[(.gl (NG mx))]) hs)))⟩ ?_
 ·rintro⟨b,v⟩ o h φ s ⟨x_b,en1,hm_x_b,hF,hs⟩;rw[←hF.eq];rw[ZDl] at h;refine ZAB<|ZAC<|ZAL (v:=enc (decide (v<(m.v.2.2.2.2.2.1.length:Int)))) rfl rfl rfl<|ZAA<|ZAB ?_
  split at h
  ·rename_i c';refine ZAH rfl c'<|ZAO<|ZAB<|ZAQ<|ZAB<|ZAC ?_
   obtain⟨v1,hx2,h⟩:=bs h;refine ZBY underlying45 ZRx rfl rfl hy7 hx2 fun p hp=>ZEe ZRw ZPD rfl hp fun y8 hy8=>ZBZ (r:=(Rec.mk ((str []),([]:(List UInt8)),()):ZAc)) ZSX ZPQ hs fun m2 s hs=>ZBE (r:=v1) ZPD rfl rfl ZPQ hy8 hs fun xs1 s hxs1 hs=>ZAA<|ZAC<|ZAD (v:=x_b) rfl<|ZAb ZN4 rfl<|ZAN ag9 Sz rfl hxs1 hs fun y9 hy9=> ?_
   cases hy9;refine ZDa (t:=9) (a:=v1.v.1) (by kernel_rfl) rfl (rfl:is _ v1.v.1) fun z7 hz7=>ZAb ZN5 rfl<|ZAN ag42 (Ss Sz) rfl hxs1 hs fun y10 hy10=>ZDa (t:=42) (a:=v1.v.2.1) (by kernel_rfl) rfl hy10 fun z8 hz8=>ZEC [z7,z8] ([(ZAk 9 (v1.v.1:Str)),(ZAk 42 (v1.v.2.1:(List UInt8)))]:(List AnyV)) underlying176 ef20 rfl rfl rfl (Nat.le_of_ble_eq_true rfl) ⟨hz7,hz8,trivial⟩ fun z9 hz9 hz9c hz9n=> ?_
   replace hs:=Hp.front [(.cells m2 xs1),(.cells m1 xs),(.gl (NG mx))] (b:=[]) hs;obtain⟨r_2,hx3,h⟩:=bs h;refine ZAn (by kernel_rfl) func87 rfl (vs:=[x_b,z9]) rfl (MF.any (ZB3 b [(ZAk 9 (v1.v.1:Str)),(ZAk 42 (v1.v.2.1:(List UInt8)))] _ hx3 hm_x_b hz9 (Hp.packG [en1] [(.cells m2 xs1),(.cells m1 xs),(.gl (NG mx))] hs)) ZDk) fun w1 s ⟨en3,hm1,hq_⟩=> ?_
   replace hs:=Hp.unpackG [en1] [en3] [(.cells m2 xs1),(.cells m1 xs),(.gl (NG mx))] hs hq_;refine ZAG (v:=w1) rfl<|ZAA<|ZAC<|ZAL (v:=enc (IntKind.i64.wrap (v+1))) rfl rfl rfl<|ZAD rfl<|ZAA ?_
   rw[←oi h];exact⟨_,rfl,⟨w1,en3,hm1,FxR rfl,(Hp.front [(.gl (NG mx)),en3] (b:=[]) (Hp.front [en3,(.cells m1 xs)] (b:=[]) (Hp.front [] (b:=[(.cells m1 xs),(.gl (NG mx))]) (Hp.drop [en3] (b:=[(.cells m1 xs),(.gl (NG mx))]) hs))))⟩⟩
  rename_i c';refine ZAI rfl c'<|ZAw ?_
  rw[←oi h];exact⟨_,rfl,rfl,⟨x_b,en1,hm_x_b,FxR rfl,hs⟩⟩
 intro e φ s hE;obtain⟨rfl,x_b1,en2,hm_x_b1,hF,hs⟩:=hE;rw[←hF.eq];rw[ZFD] at h;show if _ then _ else _
 rw[if_pos rfl];refine ZAB<|ZAC<|ZAD (v:=x_b1) rfl<|ZAb ZIv rfl<|ZAN ZPC (Ss (Ss (Ss (Ss (Ss (Ss Sz)))))) rfl hxs hs fun y11 hy11=>ZA7 underlying118 rfl rfl hy11<|ZDa (t:=3) (a:=((m.v.2.2.2.2.2.2.1.length:Int):Int)) (by kernel_rfl) rfl (rfl:is _ ((m.v.2.2.2.2.2.2.1.length:Int):Int)) fun z10 hz10=>ZEC [z10] ([(ZAk 3 ((m.v.2.2.2.2.2.2.1.length:Int):Int))]:(List AnyV)) underlying176 ef20 rfl rfl rfl (Nat.le_of_ble_eq_true rfl) ⟨hz10,trivial⟩ fun z11 hz11 hz11c hz11n=> ?_
 replace hs:=Hp.front [(.cells m1 xs),(.gl (NG mx))] (b:=[]) hs;obtain⟨r_3,hx4,h⟩:=bs h;refine ZAn (by kernel_rfl) func87 rfl (vs:=[x_b1,z11]) rfl (MF.any (ZB3 b1 [(ZAk 3 ((m.v.2.2.2.2.2.2.1.length:Int):Int))] _ hx4 hm_x_b1 hz11 (Hp.packG [en2] [(.cells m1 xs),(.gl (NG mx))] hs)) ZDk) fun w2 s ⟨en4,hm2,hq_⟩=> ?_
 replace hs:=Hp.unpackG [en2] [en4] [(.cells m1 xs),(.gl (NG mx))] hs hq_;refine ZAG (v:=w2) rfl<|ZAA<|ZAB<|ZAB<|ZAC<|ZAb ZIv rfl ?_
 replace hs:=Hp.front [en4] (b:=[(.gl (NG mx))]) hs;refine ZAN ZPC (Ss (Ss (Ss (Ss (Ss (Ss Sz)))))) rfl hxs hs fun y12 hy12=>ZA7 underlying118 rfl rfl hy12<|ZAD (v:=enc (0:Int)) rfl<|ZAA<|ZAQ ?_
 obtain⟨b3,hl,h⟩:=bs h;refine ZA2 (fun(p:((List UInt8)×Int)) φ s=>match p with | (b2,v2)=>∃(x_b2:AV) (en5:En),isM x_b2 en5 b2∧Fx φ [(4,x_b2),(58,y12),(59,(enc ((m.v.2.2.2.2.2.2.1.length:Int):Int))),(60,(enc v2))]∧Hp s [(.gl (NG mx)),en5]) (fun(o:(List UInt8)) e φ s=>match o with | b3=>e= .exit 2∧∃(x_b3:AV) (en6:En),isM x_b3 en6 b3∧Fx φ [(4,x_b3)]∧Hp s [(.gl (NG mx)),en6]) ?_ hl ⟨w2,en4,hm2,FxR rfl,(Hp.front [en4] (b:=[]) (Hp.front [] (b:=[(.gl (NG mx))]) (Hp.drop [] (b:=[en4,(.gl (NG mx))]) hs)))⟩ ?_
 ·rintro⟨b2,v2⟩ o h φ s ⟨x_b2,en5,hm_x_b2,hF,hs⟩;rw[←hF.eq];rw[ZDm] at h;refine ZAB<|ZAC<|ZAL (v:=enc (decide (v2<(m.v.2.2.2.2.2.2.1.length:Int)))) rfl rfl rfl<|ZAA<|ZAB ?_
  split at h
  ·rename_i c';refine ZAH rfl c'<|ZAO<|ZEM (fun φ s=>∃(b4:(List UInt8)) (x_b4:AV) (en7:En),isM x_b4 en7 b4∧Fx φ [(4,x_b4),(58,y12),(59,(enc ((m.v.2.2.2.2.2.2.1.length:Int):Int))),(60,(enc v2))]∧Hp s [(.gl (NG mx)),en7]∧ZCf v2 b4=some o) ?_ ?_
   ·refine ZAQ ?_
    refine ZAB<|ZAC ?_
    obtain⟨v3,hx5,h⟩:=bs h;refine ZBY underlying118 ZRz rfl rfl hy12 hx5 fun p1 hp1=>ZEe ZQ4 ZNe rfl hp1 fun y13 hy13=>ZBZ (r:=(Rec.mk ((str []),(0:Int),(0:Int),(0:Int),()):RefR)) ZSZ ZPR hs fun m3 s hs=>ZBE (r:=v3) ZNe rfl rfl ZPR hy13 hs fun xs2 s hxs2 hs=>ZAA<|ZAB<|ZAC<|ZAb ZN6 rfl<|ZAN ZRy Sz rfl hxs2 hs fun y14 hy14=> ?_
    cases hy14;refine ZAL (v:=enc (!eqS v3.v.1 (str []))) rfl rfl rfl<|ZAA ?_
    split at h
    ·rename_i c';refine ZAH rfl c'<|ZAC<|ZAD (v:=x_b2) rfl<|ZDa (t:=4) (a:=(true:Bool)) (by kernel_rfl) rfl (rfl:is _ (true:Bool)) fun z12 hz12=>ZAb ZN6 rfl<|ZAN ZRy Sz rfl hxs2 hs fun y15 hy15=> ?_
     cases hy15;refine ZDa (t:=148) (a:=v3.v.1) (by kernel_rfl) rfl (rfl:is _ v3.v.1) fun z13 hz13=>ZAb ZN7 rfl<|ZAN ag3 (Ss (Ss (Ss Sz))) rfl hxs2 hs fun y16 hy16=> ?_
     cases hy16;refine ZDa (t:=3) (a:=v3.v.2.2.2.1) (by kernel_rfl) rfl (rfl:is _ v3.v.2.2.2.1) fun z14 hz14=>ZEC [z12,z13,z14] ([(ZAk 4 (true:Bool)),(ZAk 148 (v3.v.1:Str)),(ZAk 3 (v3.v.2.2.2.1:Int))]:(List AnyV)) underlying176 ef20 rfl rfl rfl (Nat.le_of_ble_eq_true rfl) ⟨hz12,hz13,hz14,trivial⟩ fun z15 hz15 hz15c hz15n=> ?_
     replace hs:=Hp.front [(.cells m3 xs2),(.gl (NG mx))] (b:=[]) hs;obtain⟨r_4,hx6,h⟩:=bs h;refine ZAn (by kernel_rfl) func87 rfl (vs:=[x_b2,z15]) rfl (MF.any (ZB3 b2 [(ZAk 4 (true:Bool)),(ZAk 148 (v3.v.1:Str)),(ZAk 3 (v3.v.2.2.2.1:Int))] _ hx6 hm_x_b2 hz15 (Hp.packG [en5] [(.cells m3 xs2),(.gl (NG mx))] hs)) ZDk) fun w3 s ⟨en8,hm3,hq_⟩=> ?_
     replace hs:=Hp.unpackG [en5] [en8] [(.cells m3 xs2),(.gl (NG mx))] hs hq_;refine ZAG (v:=w3) rfl<|ZAA ?_
     exact⟨r_4,w3,en8,hm3,FxR rfl,(Hp.front [en8] (b:=[]) (Hp.front [] (b:=[(.gl (NG mx))]) (Hp.drop [en8] (b:=[(.gl (NG mx))]) hs))),h⟩
    rename_i c';refine ZAI rfl c'<|ZAC<|ZAD (v:=x_b2) rfl<|ZDa (t:=4) (a:=(false:Bool)) (by kernel_rfl) rfl (rfl:is _ (false:Bool)) fun z16 hz16=>ZAb ZRL rfl<|ZAN ag3 (Ss Sz) rfl hxs2 hs fun y17 hy17=> ?_
    cases hy17;refine ZDa (t:=3) (a:=v3.v.2.1) (by kernel_rfl) rfl (rfl:is _ v3.v.2.1) fun z17 hz17=>ZAb ZRM rfl<|ZAN ag3 (Ss (Ss Sz)) rfl hxs2 hs fun y18 hy18=> ?_
    cases hy18;refine ZDa (t:=3) (a:=v3.v.2.2.1) (by kernel_rfl) rfl (rfl:is _ v3.v.2.2.1) fun z18 hz18=>ZAb ZN7 rfl<|ZAN ag3 (Ss (Ss (Ss Sz))) rfl hxs2 hs fun y19 hy19=> ?_
    cases hy19;refine ZDa (t:=3) (a:=v3.v.2.2.2.1) (by kernel_rfl) rfl (rfl:is _ v3.v.2.2.2.1) fun z19 hz19=>ZEC [z16,z17,z18,z19] ([(ZAk 4 (false:Bool)),(ZAk 3 (v3.v.2.1:Int)),(ZAk 3 (v3.v.2.2.1:Int)),(ZAk 3 (v3.v.2.2.2.1:Int))]:(List AnyV)) underlying176 ef20 rfl rfl rfl (Nat.le_of_ble_eq_true rfl) ⟨hz16,hz17,hz18,hz19,trivial⟩ fun z20 hz20 hz20c hz20n=> ?_
    replace hs:=Hp.front [(.cells m3 xs2),(.gl (NG mx))] (b:=[]) hs;obtain⟨r_5,hx7,h⟩:=bs h;refine ZAn (by kernel_rfl) func87 rfl (vs:=[x_b2,z20]) rfl (MF.any (ZB3 b2 [(ZAk 4 (false:Bool)),(ZAk 3 (v3.v.2.1:Int)),(ZAk 3 (v3.v.2.2.1:Int)),(ZAk 3 (v3.v.2.2.2.1:Int))] _ hx7 hm_x_b2 hz20 (Hp.packG [en5] [(.cells m3 xs2),(.gl (NG mx))] hs)) ZDk) fun w4 s ⟨en9,hm4,hq_⟩=> ?_
    replace hs:=Hp.unpackG [en5] [en9] [(.cells m3 xs2),(.gl (NG mx))] hs hq_;refine ZAG (v:=w4) rfl<|ZAA ?_
    exact⟨r_5,w4,en9,hm4,FxR rfl,(Hp.front [en9] (b:=[]) (Hp.front [] (b:=[(.gl (NG mx))]) (Hp.drop [en9] (b:=[(.gl (NG mx))]) hs))),h⟩
   rintro φ s ⟨b4,x_b4,en7,hm_x_b4,hF,hs,h⟩;rw[←hF.eq];unfold ZCf at h;refine ZAC<|ZAL (v:=enc (IntKind.i64.wrap (v2+1))) rfl rfl rfl<|ZAD rfl<|ZAA ?_
   rw[←oi h];exact⟨_,rfl,⟨x_b4,en7,hm_x_b4,FxR rfl,hs⟩⟩
  rename_i c';refine ZAI rfl c'<|ZAw ?_
  rw[←oi h];exact⟨_,rfl,rfl,⟨x_b2,en5,hm_x_b2,FxR rfl,hs⟩⟩
 intro e φ s hE;obtain⟨rfl,x_b3,en6,hm_x_b3,hF,hs⟩:=hE;rw[←hF.eq];rw[ZFC] at h;show if _ then _ else _
 rw[if_pos rfl];refine ZAB<|ZAC ?_
 replace hs:=Hp.front [(.gl (NG mx))] (b:=[]) hs;refine ZHP (q:=4) rfl hm_x_b3 hs fun z21 s hz21 hs=>ZAD (v:=z21) rfl<|ZAG (v:=z21) rfl<|ZAG (v:=enc (0:Int)) rfl<|ZAA<|ZAP ?_
 rw[←oi h];exact⟨rfl,KE2 (a1:=b3) (a2:=(0:Int)) rfl rfl rfl hz21 (rfl:is _ (0:Int)) ⟨_,_,rfl,hz21,(rfl:is _ (0:Int))⟩⟩
theorem ZIC (mx:Int):ZA0 Tryz.prog 72 (FnG (NG mx) (fun a:ZCO×Unit=>ZBf a.1)):=fnCG (ZQK mx) ⟨_,func72,rfl⟩<|fun a r h=>ZIB mx a.1 r h
noncomputable def pv6 (mx:Int):Prims:=(pv5 mx).addG 72 (FnG (NG mx) (fun a:ZCO×Unit=>ZBf a.1))
theorem ZQL (mx:Int):ZAT Tryz.prog (pv6 mx):=ZAU (ZQK mx) (ZIC mx)
theorem ZGD (mx:Int) (l:ZAa) (r:(List UInt8)×Int) (h:ZBF l=some r):MF Tryz.prog (pv6 mx) 73 [enc l] (sG (NG mx)) fun v _=>ris v r:=by
 refine ZAo [(0,enc l)] func73 rfl (by simp only[Tryz.f73];rfl) fun ψ=> ?_
 unfold ZBF at h;have hs:Hp (sG (NG mx)) [.gl (NG mx)]:=Hp.gl0
 refine ZAB<|ZAC<|ZBe (r:=l) rfl (Enc.self l) hs fun m xs s hxs hs=>ZAG (v:= .nils) rfl<|ZAG (v:=enc (0:Int)) rfl<|ZAA<|ZAB<|ZAC<|ZKo (q:=1) (r:=l) rfl hxs hs fun z s hz hs=>ZPy (c:=((PtrC.mk l:PtrC ZAa),())) rfl ⟨_,_,rfl,hz,rfl⟩ fun z1 hz1=>ZAG (v:=z1) rfl<|ZAA<|ZAB<|ZAB<|ZAC ?_
 refine ZEd ZHa (Ss Sz) rfl (PtrC.ep hz) fun p hp=>ZCp ag43 rfl hp fun y hy=>ZA7 underlying43 rfl rfl hy<|ZAL (v:=enc (decide ((l.v.2.1.length:Int) > 256))) rfl rfl rfl<|ZAD rfl ?_
 obtain⟨b,hb_b,h⟩:=bs h;refine ZAV 8 (fun φ s=>Hp s [(.gl (NG mx))]∧Fx φ [(1,z),(4,z1),(23,(enc b))]) ?_ ?_
 ·split at hb_b
  ·rename_i cg;refine ZAE rfl rfl (by simpa using cg)<|ZAE rfl rfl (by simpa using cg)<|ZAE rfl rfl (by simpa using cg)<|ZAE rfl rfl (by simpa using cg)<|ZAE rfl rfl (by simpa using cg)<|ZAE rfl rfl (by simpa using cg)<|ZAE rfl rfl (by simpa using cg)<|ZAh (v:=enc true) rfl cg rfl<|ZAA ?_
   rw[←oi hb_b];exact⟨hs,FxR rfl⟩
  rename_i cg1;refine ZAF rfl rfl (by simpa using cg1)<|ZEd ZKz (Ss (Ss Sz)) rfl (PtrC.ep hz) fun p1 hp1=>ZAF rfl rfl (by simpa using cg1)<|ZCp ag44 rfl hp1 fun y1 hy1=>ZAF rfl rfl (by simpa using cg1)<|ZA7 underlying44 rfl rfl hy1<|ZAF rfl rfl (by simpa using cg1)<|ZEd ZHa (Ss Sz) rfl (PtrC.ep hz) fun p2 hp2=>ZAF rfl rfl (by simpa using cg1)<|ZCp ag43 rfl hp2 fun y2 hy2=>ZAF rfl rfl (by simpa using cg1)<|ZA7 underlying43 rfl rfl hy2<|ZAF rfl rfl (by simpa using cg1)<|ZAL (v:=enc (((l.v.2.2.1.length:Int) !=(l.v.2.1.length:Int)):Bool)) rfl rfl rfl<|ZAf rfl cg1 rfl ?_
  refine ZAA ?_
  rw[←oi hb_b];exact⟨hs,FxR rfl⟩
 rintro φ s ⟨hs,hF⟩;rw[←hF.eq];refine ZAD rfl ?_
 obtain⟨b1,hb_b1,h⟩:=bs h;refine ZAV 5 (fun φ s=>Hp s [(.gl (NG mx))]∧Fx φ [(1,z),(4,z1),(29,(enc b1))]) ?_ ?_
 ·split at hb_b1
  ·rename_i cg2;refine ZAE rfl rfl (by simpa using cg2)<|ZAE rfl rfl (by simpa using cg2)<|ZAE rfl rfl (by simpa using cg2)<|ZAE rfl rfl (by simpa using cg2)<|ZAh (v:=enc true) rfl cg2 rfl<|ZAA ?_
   rw[←oi hb_b1];exact⟨hs,FxR rfl⟩
  rename_i cg3;refine ZAF rfl rfl (by simpa using cg3)<|ZEd ZHa (Ss Sz) rfl (PtrC.ep hz) fun p3 hp3=>ZAF rfl rfl (by simpa using cg3)<|ZCp ag43 rfl hp3 fun y3 hy3=>ZAF rfl rfl (by simpa using cg3) ?_
  obtain⟨r_,hx,hb_b1⟩:=bs hb_b1;refine ZAe (f:=fun a:(List Str)×Unit=>ZBN a.1) (a:=(l.v.2.1,())) rfl func89 rfl rfl (.cons (a:=l.v.2.1) hy3 .nil) hs List.mem_cons_self hx<|ZAF rfl rfl (by simpa using cg3)<|ZC0 (v:=enc (!r_)) rfl rfl<|ZAf rfl cg3 rfl<|ZAA ?_
  rw[←oi hb_b1];exact⟨hs,FxR rfl⟩
 rintro φ s ⟨hs,hF⟩;rw[←hF.eq];refine ZAD rfl ?_
 obtain⟨b2,hb_b2,h⟩:=bs h;refine ZAV 5 (fun φ s=>Hp s [(.gl (NG mx))]∧Fx φ [(1,z),(35,(enc b2))]) ?_ ?_
 ·split at hb_b2
  ·rename_i cg4;refine ZAE rfl rfl (by simpa using cg4)<|ZAE rfl rfl (by simpa using cg4)<|ZAE rfl rfl (by simpa using cg4)<|ZAE rfl rfl (by simpa using cg4)<|ZAh (v:=enc true) rfl cg4 rfl<|ZAA ?_
   rw[←oi hb_b2];exact⟨hs,FxR rfl⟩
  rename_i cg5;refine ZAF rfl rfl (by simpa using cg5)<|ZEd ZKz (Ss (Ss Sz)) rfl (PtrC.ep hz) fun p4 hp4=>ZAF rfl rfl (by simpa using cg5)<|ZCp ag44 rfl hp4 fun y4 hy4=>ZAF rfl rfl (by simpa using cg5)<|ZAD (v:=z1) rfl<|ZAF rfl rfl (by simpa using cg5) ?_
  obtain⟨r_1,hx1,hb_b2⟩:=bs hb_b2;refine ZCB (f:=fun a:(List Int)×(Clo 88 ((PtrC ZAa)×Unit))×Unit=>ZA8 a.1 a.2.1) (a:=(l.v.2.2.1,(Clo.mk ((PtrC.mk l:PtrC ZAa),()):Clo 88 ((PtrC ZAa)×Unit)),())) rfl func90 rfl rfl (.cons (a:=l.v.2.2.1) hy4 (.cons (a:=((Clo.mk ((PtrC.mk l:PtrC ZAa),()):Clo 88 ((PtrC ZAa)×Unit)):(Clo 88 ((PtrC ZAa)×Unit)))) hz1 .nil)) hx1<|ZAf rfl cg5 rfl<|ZAA ?_
  rw[←oi hb_b2];exact⟨hs,FxR rfl⟩
 rintro φ s ⟨hs,hF⟩;rw[←hF.eq];refine ZAA ?_
 split at h
 ·rename_i c';refine ZAH rfl c'<|ZAB<|ZAC<|ZAG (v:= .nils) rfl<|ZAG (v:=enc (80:Int)) rfl<|ZAA<|ZAP ?_
  rw[←oi h];exact⟨rfl,KE2 (a1:=([]:(List UInt8))) (a2:=(80:Int)) rfl rfl rfl isL.nil (rfl:is _ (80:Int)) ⟨_,_,rfl,isL.nil,(rfl:is _ (80:Int))⟩⟩
 rename_i c';refine ZAI rfl c'<|ZAO<|ZAB<|ZAC<|ZEd ZNn Sz rfl (PtrC.ep hz) fun p5 hp5=>ZCp ag4 rfl hp5 fun y5 hy5=> ?_
 cases hy5;refine ZDa (t:=4) (a:=l.v.1) (by kernel_rfl) rfl (rfl:is _ l.v.1) fun z2 hz2=>ZEd ZHa (Ss Sz) rfl (PtrC.ep hz) fun p6 hp6=>ZCp ag43 rfl hp6 fun y6 hy6=>ZA7 underlying43 rfl rfl hy6<|ZDa (t:=3) (a:=((l.v.2.1.length:Int):Int)) (by kernel_rfl) rfl (rfl:is _ ((l.v.2.1.length:Int):Int)) fun z3 hz3=>ZEC [z2,z3] ([(ZAk 4 (l.v.1:Bool)),(ZAk 3 ((l.v.2.1.length:Int):Int))]:(List AnyV)) underlying176 ef20 rfl rfl rfl (Nat.le_of_ble_eq_true rfl) ⟨hz2,hz3,trivial⟩ fun z4 hz4 hz4c hz4n=> ?_
 replace hs:=Hp.add (x:= .nils) hs rfl;obtain⟨r_2,hx2,h⟩:=bs h;refine ZAn (by kernel_rfl) func87 rfl (vs:=[.nils,z4]) rfl (MF.any (ZB3 [] [(ZAk 4 (l.v.1:Bool)),(ZAk 3 ((l.v.2.1.length:Int):Int))] _ hx2 (.inr ⟨rfl,isL.nil,rfl,rfl,rfl⟩) hz4 (Hp.packG [(.own .nils)] [(.gl (NG mx))] hs)) ZDk) fun w s ⟨en,hm,hq_⟩=> ?_
 replace hs:=Hp.unpackG [(.own .nils)] [en] [(.gl (NG mx))] hs hq_;refine ZAG (v:=w) rfl<|ZAA<|ZAB<|ZAB<|ZAC<|ZEd ZHa (Ss Sz) rfl (PtrC.ep hz) fun p7 hp7=>ZCp ag43 rfl hp7 fun y7 hy7=>ZA7 underlying43 rfl rfl hy7<|ZAD (v:=enc (0:Int)) rfl<|ZAA<|ZAQ ?_
 obtain⟨b4,hl,h⟩:=bs h;refine ZA2 (fun(p:((List UInt8)×Int)) φ s=>match p with | (b3,v)=>∃(x_b3:AV) (en1:En),isM x_b3 en1 b3∧Fx φ [(1,z),(5,x_b3),(46,y7),(47,(enc ((l.v.2.1.length:Int):Int))),(48,(enc v))]∧Hp s [(.gl (NG mx)),en1]) (fun(o:(List UInt8)) e φ s=>match o with | b4=>e= .exit 0∧∃(x_b4:AV) (en2:En),isM x_b4 en2 b4∧Fx φ [(1,z),(5,x_b4)]∧Hp s [(.gl (NG mx)),en2]) ?_ hl ⟨w,en,hm,FxR rfl,(Hp.front [en] (b:=[]) (Hp.front [] (b:=[(.gl (NG mx))]) hs))⟩ ?_
 ·rintro⟨b3,v⟩ o h φ s ⟨x_b3,en1,hm_x_b3,hF,hs⟩;rw[←hF.eq];rw[ZCY] at h;refine ZAB<|ZAC<|ZAL (v:=enc (decide (v<(l.v.2.1.length:Int)))) rfl rfl rfl<|ZAA<|ZAB ?_
  split at h
  ·rename_i c';refine ZAH rfl c'<|ZAO<|ZAB<|ZAQ<|ZAB<|ZAC ?_
   obtain⟨v1,hx3,h⟩:=bs h;refine ZBY underlying43 sh9 rfl rfl hy7 hx3 fun p8 hp8=>ZDx rfl ag9 rfl hp8 fun y8 hy8=> ?_
   cases hy8;refine ZAG rfl<|ZAA<|ZAC<|ZAD (v:=x_b3) rfl<|ZAD rfl<|ZDa (t:=9) (a:=v1) (by kernel_rfl) rfl (rfl:is _ v1) fun z5 hz5=>ZEC [z5] ([(ZAk 9 (v1:Str))]:(List AnyV)) underlying176 ef20 rfl rfl rfl (Nat.le_of_ble_eq_true rfl) ⟨hz5,trivial⟩ fun z6 hz6 hz6c hz6n=> ?_
   replace hs:=Hp.front [(.gl (NG mx))] (b:=[]) hs;obtain⟨r_3,hx4,h⟩:=bs h;refine ZAn (by kernel_rfl) func87 rfl (vs:=[x_b3,z6]) rfl (MF.any (ZB3 b3 [(ZAk 9 (v1:Str))] _ hx4 hm_x_b3 hz6 (Hp.packG [en1] [(.gl (NG mx))] hs)) ZDk) fun w1 s ⟨en3,hm1,hq_⟩=> ?_
   replace hs:=Hp.unpackG [en1] [en3] [(.gl (NG mx))] hs hq_;refine ZAG (v:=w1) rfl<|ZAA<|ZAC<|ZAL (v:=enc (IntKind.i64.wrap (v+1))) rfl rfl rfl<|ZAD rfl<|ZAA ?_
   rw[←oi h];exact⟨_,rfl,⟨w1,en3,hm1,FxR rfl,(Hp.front [en3] (b:=[]) (Hp.front [] (b:=[(.gl (NG mx))]) hs))⟩⟩
  rename_i c';refine ZAI rfl c'<|ZAw ?_
  rw[←oi h];exact⟨_,rfl,rfl,⟨x_b3,en1,hm_x_b3,FxR rfl,hs⟩⟩
 intro e φ s hE;obtain⟨rfl,x_b4,en2,hm_x_b4,hF,hs⟩:=hE;rw[←hF.eq];rw[ZDz] at h;show if _ then _ else _
 rw[if_pos rfl];refine ZAB<|ZAB<|ZAC<|ZEd ZKz (Ss (Ss Sz)) rfl (PtrC.ep hz) fun p9 hp9=>ZCp ag44 rfl hp9 fun y9 hy9=>ZA7 underlying44 rfl rfl hy9<|ZAD (v:=enc (0:Int)) rfl<|ZAA<|ZAQ ?_
 obtain⟨b6,hl,h⟩:=bs h;refine ZA2 (fun(p:((List UInt8)×Int)) φ s=>match p with | (b5,v2)=>∃(x_b5:AV) (en4:En),isM x_b5 en4 b5∧Fx φ [(5,x_b5),(59,y9),(60,(enc ((l.v.2.2.1.length:Int):Int))),(61,(enc v2))]∧Hp s [(.gl (NG mx)),en4]) (fun(o:(List UInt8)) e φ s=>match o with | b6=>e= .exit 2∧∃(x_b6:AV) (en5:En),isM x_b6 en5 b6∧Fx φ [(5,x_b6)]∧Hp s [(.gl (NG mx)),en5]) ?_ hl ⟨x_b4,en2,hm_x_b4,FxR rfl,hs⟩ ?_
 ·rintro⟨b5,v2⟩ o h φ s ⟨x_b5,en4,hm_x_b5,hF,hs⟩;rw[←hF.eq];rw[ZCZ] at h;refine ZAB<|ZAC<|ZAL (v:=enc (decide (v2<(l.v.2.2.1.length:Int)))) rfl rfl rfl<|ZAA<|ZAB ?_
  split at h
  ·rename_i c';refine ZAH rfl c'<|ZAO<|ZAB<|ZAQ<|ZAB<|ZAC ?_
   obtain⟨v3,hx5,h⟩:=bs h;refine ZBY underlying44 sh3 rfl rfl hy9 hx5 fun p10 hp10=>ZDx rfl ag3 rfl hp10 fun y10 hy10=> ?_
   cases hy10;refine ZAG rfl<|ZAA<|ZAC<|ZAD (v:=x_b5) rfl<|ZAD rfl<|ZDa (t:=3) (a:=v3) (by kernel_rfl) rfl (rfl:is _ v3) fun z7 hz7=>ZEC [z7] ([(ZAk 3 (v3:Int))]:(List AnyV)) underlying176 ef20 rfl rfl rfl (Nat.le_of_ble_eq_true rfl) ⟨hz7,trivial⟩ fun z8 hz8 hz8c hz8n=> ?_
   replace hs:=Hp.front [(.gl (NG mx))] (b:=[]) hs;obtain⟨r_4,hx6,h⟩:=bs h;refine ZAn (by kernel_rfl) func87 rfl (vs:=[x_b5,z8]) rfl (MF.any (ZB3 b5 [(ZAk 3 (v3:Int))] _ hx6 hm_x_b5 hz8 (Hp.packG [en4] [(.gl (NG mx))] hs)) ZDk) fun w2 s ⟨en6,hm2,hq_⟩=> ?_
   replace hs:=Hp.unpackG [en4] [en6] [(.gl (NG mx))] hs hq_;refine ZAG (v:=w2) rfl<|ZAA<|ZAC<|ZAL (v:=enc (IntKind.i64.wrap (v2+1))) rfl rfl rfl<|ZAD rfl<|ZAA ?_
   rw[←oi h];exact⟨_,rfl,⟨w2,en6,hm2,FxR rfl,(Hp.front [en6] (b:=[]) (Hp.front [] (b:=[(.gl (NG mx))]) hs))⟩⟩
  rename_i c';refine ZAI rfl c'<|ZAw ?_
  rw[←oi h];exact⟨_,rfl,rfl,⟨x_b5,en4,hm_x_b5,FxR rfl,hs⟩⟩
 intro e φ s hE;obtain⟨rfl,x_b6,en5,hm_x_b6,hF,hs⟩:=hE;rw[←hF.eq];rw[ZDy] at h;show if _ then _ else _
 rw[if_pos rfl];refine ZAB<|ZAC ?_
 replace hs:=Hp.front [(.gl (NG mx))] (b:=[]) hs;refine ZHP (q:=5) rfl hm_x_b6 hs fun z9 s hz9 hs=>ZAD (v:=z9) rfl<|ZAG (v:=z9) rfl<|ZAG (v:=enc (0:Int)) rfl<|ZAA<|ZAP ?_
 rw[←oi h];exact⟨rfl,KE2 (a1:=b6) (a2:=(0:Int)) rfl rfl rfl hz9 (rfl:is _ (0:Int)) ⟨_,_,rfl,hz9,(rfl:is _ (0:Int))⟩⟩
theorem ZGE (mx:Int):ZA0 Tryz.prog 73 (FnG (NG mx) (fun a:ZAa×Unit=>ZBF a.1)):=fnCG (ZQL mx) ⟨_,func73,rfl⟩<|fun a r h=>ZGD mx a.1 r h
noncomputable def pv7 (mx:Int):Prims:=(pv6 mx).addG 73 (FnG (NG mx) (fun a:ZAa×Unit=>ZBF a.1))
theorem ZQM (mx:Int):ZAT Tryz.prog (pv7 mx):=ZAU (ZQL mx) (ZGE mx)
theorem ZID (mx:Int) (x:ZAK) (r:Bool) (h:ZBg x=some r):MF Tryz.prog (pv7 mx) 57 [enc x] (sG (NG mx)) fun v _=>ris v r:=by
 refine ZAo [(0,enc x)] func57 rfl (by simp only[Tryz.f57];rfl) fun ψ=> ?_
 unfold ZBg at h;have hs:Hp (sG (NG mx)) [.gl (NG mx)]:=Hp.gl0
 refine ZAB<|ZAC<|ZBe (r:=x) rfl (Enc.self x) hs fun m xs s hxs hs=>ZAG (v:=enc false) rfl<|ZAA<|ZAB<|ZAC<|ZAb ZEN rfl<|ZAN ag41 (Ss Sz) rfl hxs hs fun y hy=> ?_
 cases hy;refine ZAb ZSa rfl<|ZAN ag3 (Ss (Ss Sz)) rfl hxs hs fun y1 hy1=> ?_
 cases hy1;refine ZAb ZN3 rfl<|ZAN ag3 (Ss (Ss (Ss Sz))) rfl hxs hs fun y2 hy2=> ?_
 cases hy2;refine ZAb ZQF rfl<|ZAN ag9 (Ss (Ss (Ss (Ss (Ss Sz))))) rfl hxs hs fun y3 hy3=> ?_
 cases hy3;refine ZAb ZSb rfl<|ZAN ag45 (Ss (Ss (Ss (Ss (Ss (Ss (Ss (Ss Sz)))))))) rfl hxs hs fun y4 hy4=>ZCD (r0:=((0:Int),(0:Int),(0:Int),(0:Int),(str []),([]:(List ZAc)),([]:(List RefR)),())) ZTL ZTJ ZTK rfl rfl (r:=(x.v.2.1,x.v.2.2.1,x.v.2.2.2.1,(0:Int),x.v.2.2.2.2.2.1,x.v.2.2.2.2.2.2.2.2.1,([]:(List RefR)),())) (.cons (z:=x.v.2.1) Sz (rfl:is _ x.v.2.1) (.cons (z:=x.v.2.2.1) (Ss Sz) (rfl:is _ x.v.2.2.1) (.cons (z:=x.v.2.2.2.1) (Ss (Ss Sz)) (rfl:is _ x.v.2.2.2.1) (.cons (z:=x.v.2.2.2.2.2.1) (Ss (Ss (Ss (Ss Sz)))) (rfl:is _ x.v.2.2.2.2.2.1) (.cons (z:=x.v.2.2.2.2.2.2.2.2.1) (Ss (Ss (Ss (Ss (Ss Sz))))) hy4 .nil))))) fun y5 hy5=> ?_
 obtain⟨r_,hx,h⟩:=bs h;refine ZAe (f:=fun a:ZCO×Unit=>ZBf a.1) (a:=((Rec.mk (x.v.2.1,x.v.2.2.1,x.v.2.2.2.1,(0:Int),x.v.2.2.2.2.2.1,x.v.2.2.2.2.2.2.2.2.1,([]:(List RefR)),()):ZCO),())) rfl func72 rfl rfl (.cons (a:=((Rec.mk (x.v.2.1,x.v.2.2.1,x.v.2.2.2.1,(0:Int),x.v.2.2.2.2.2.1,x.v.2.2.2.2.2.2.2.2.1,([]:(List RefR)),()):ZCO):ZCO)) hy5 .nil) hs (lM _ List.mem_cons_self) hx<|ZAD (v:=res r_) rfl<|ZBB rfl rfl<|ZBB rfl rfl<|ZAG rfl<|ZAG rfl<|ZAA<|ZAB<|ZAC<|ZAb ZNl rfl<|ZAN ag42 (Ss (Ss (Ss (Ss Sz)))) rfl hxs hs fun y6 hy6=>ZA7 underlying42 rfl rfl hy6<|ZAL (v:=enc (((x.v.2.2.2.2.1.length:Int)==0):Bool)) rfl rfl rfl<|ZAD rfl ?_
 obtain⟨b,hb_b,h⟩:=bs h;refine ZAV 10 (fun φ s=>Hp s [(.cells m xs),(.gl (NG mx))]∧Fx φ [(1,(.ptr m 0)),(4,(enc r_.2)),(35,(enc b))]) ?_ ?_
 ·split at hb_b
  ·rename_i cg;refine ZAE rfl rfl (by simpa using cg)<|ZAE rfl rfl (by simpa using cg)<|ZAE rfl rfl (by simpa using cg)<|ZAE rfl rfl (by simpa using cg)<|ZAS rfl rfl<|ZAS rfl rfl<|ZAS rfl rfl<|ZAS rfl rfl<|ZAE rfl rfl (by simpa using cg)<|ZAh (v:=enc true) rfl cg rfl<|ZAA ?_
   rw[←oi hb_b];exact⟨hs,FxR rfl⟩
  rename_i cg1;refine ZAF rfl rfl (by simpa using cg1)<|ZAb ZEN rfl<|ZAF rfl rfl (by simpa using cg1)<|ZAN ag41 (Ss Sz) rfl hxs hs fun y7 hy7=> ?_
  cases hy7;refine ZAF rfl rfl (by simpa using cg1)<|ZAL (v:=enc (x.v.2.1==1)) rfl rfl rfl<|ZAF rfl rfl (by simpa using cg1)<|ZAD rfl ?_
  obtain⟨b1,hb_b1,hb_b⟩:=bs hb_b;refine ZAV 5 (fun φ s=>Hp s [(.cells m xs),(.gl (NG mx))]∧Fx φ [(1,(.ptr m 0)),(4,(enc r_.2)),(25,(enc (((x.v.2.2.2.2.1.length:Int)==0):Bool))),(34,(enc b1))]) ?_ ?_
  ·split at hb_b1
   ·rename_i cg2;refine ZAF rfl rfl cg2<|ZAb ZNl rfl<|ZAF rfl rfl cg2<|ZAN ag42 (Ss (Ss (Ss (Ss Sz)))) rfl hxs hs fun y8 hy8=>ZAF rfl rfl cg2<|ZA7 underlying42 rfl rfl hy8<|ZAF rfl rfl cg2<|ZAL (v:=enc (decide ((x.v.2.2.2.2.1.length:Int)≤32768))) rfl rfl rfl<|ZAF rfl rfl (by simpa using cg1)<|ZAh rfl cg2 rfl<|ZAA ?_
    rw[←oi hb_b1];exact⟨hs,FxR rfl⟩
   rename_i cg3;refine ZAE rfl rfl cg3<|ZAE rfl rfl cg3<|ZAE rfl rfl cg3<|ZAE rfl rfl cg3<|ZAF rfl rfl (by simpa using cg1)<|ZAf (v:=enc false) rfl cg3 rfl<|ZAA ?_
   rw[←oi hb_b1];exact⟨hs,FxR rfl⟩
  rintro φ s ⟨hs,hF⟩;rw[←hF.eq];refine ZAf rfl cg1 rfl<|ZAA ?_
  rw[←oi hb_b];exact⟨hs,FxR rfl⟩
 rintro φ s ⟨hs,hF⟩;rw[←hF.eq];refine ZAG rfl<|ZAA<|ZAB<|ZAB<|ZAC<|ZAD rfl<|ZAL (v:=enc (r_.2 !=0)) rfl rfl rfl<|ZAD rfl ?_
 obtain⟨b2,hb_b2,h⟩:=bs h;refine ZAV 3 (fun φ s=>Hp s [(.cells m xs),(.gl (NG mx))]∧Fx φ [(1,(.ptr m 0)),(41,(enc b2))]) ?_ ?_
 ·split at hb_b2
  ·rename_i cg4;refine ZAE rfl rfl (by simpa using cg4)<|ZAE rfl rfl (by simpa using cg4)<|ZAh (v:=enc true) rfl cg4 rfl<|ZAA ?_
   rw[←oi hb_b2];exact⟨hs,FxR rfl⟩
  rename_i cg5;refine ZAF rfl rfl (by simpa using cg5)<|ZAD rfl<|ZAF rfl rfl (by simpa using cg5)<|ZC0 (v:=enc (!b)) rfl rfl<|ZAf rfl cg5 rfl<|ZAA ?_
  rw[←oi hb_b2];exact⟨hs,FxR rfl⟩
 rintro φ s ⟨hs,hF⟩;rw[←hF.eq];refine ZAD rfl ?_
 obtain⟨b3,hb_b3,h⟩:=bs h;refine ZAV 4 (fun φ s=>Hp s [(.cells m xs),(.gl (NG mx))]∧Fx φ [(1,(.ptr m 0)),(46,(enc b3))]) ?_ ?_
 ·split at hb_b3
  ·rename_i cg6;refine ZAE rfl rfl (by simpa using cg6)<|ZAE rfl rfl (by simpa using cg6)<|ZAE rfl rfl (by simpa using cg6)<|ZAh (v:=enc true) rfl cg6 rfl<|ZAA ?_
   rw[←oi hb_b3];exact⟨hs,FxR rfl⟩
  rename_i cg7;refine ZAF rfl rfl (by simpa using cg7)<|ZAb ZEf rfl<|ZAF rfl rfl (by simpa using cg7)<|ZAN ag3 Sz rfl hxs hs fun y9 hy9=> ?_
  cases hy9;refine ZAF rfl rfl (by simpa using cg7)<|ZAL (v:=enc (decide (x.v.1<1))) rfl rfl rfl<|ZAf rfl cg7 rfl<|ZAA ?_
  rw[←oi hb_b3];exact⟨hs,FxR rfl⟩
 rintro φ s ⟨hs,hF⟩;rw[←hF.eq];refine ZAD rfl ?_
 obtain⟨b4,hb_b4,h⟩:=bs h;refine ZAV 4 (fun φ s=>Hp s [(.cells m xs),(.gl (NG mx))]∧Fx φ [(1,(.ptr m 0)),(51,(enc b4))]) ?_ ?_
 ·split at hb_b4
  ·rename_i cg8;refine ZAE rfl rfl (by simpa using cg8)<|ZAE rfl rfl (by simpa using cg8)<|ZAE rfl rfl (by simpa using cg8)<|ZAh (v:=enc true) rfl cg8 rfl<|ZAA ?_
   rw[←oi hb_b4];exact⟨hs,FxR rfl⟩
  rename_i cg9;refine ZAF rfl rfl (by simpa using cg9)<|ZAb ZEf rfl<|ZAF rfl rfl (by simpa using cg9)<|ZAN ag3 Sz rfl hxs hs fun y10 hy10=> ?_
  cases hy10;refine ZAF rfl rfl (by simpa using cg9)<|ZAL (v:=enc (decide (x.v.1 > 1024))) rfl rfl rfl<|ZAf rfl cg9 rfl<|ZAA ?_
  rw[←oi hb_b4];exact⟨hs,FxR rfl⟩
 rintro φ s ⟨hs,hF⟩;rw[←hF.eq];refine ZAA ?_
 split at h
 ·rename_i c';refine ZAH rfl c'<|ZAB<|ZAC<|ZAG (v:=enc false) rfl<|ZAA<|ZAP ?_
  rw[←oi h];exact⟨rfl,KE1 (a:=(false:Bool)) rfl rfl (rfl:is _ (false:Bool)) (rfl:is _ (false:Bool))⟩
 rename_i c';refine ZAI rfl c'<|ZAO<|ZAB<|ZAB<|ZAC<|ZAb ZEN rfl<|ZAN ag41 (Ss Sz) rfl hxs hs fun y11 hy11=> ?_
 cases hy11;refine ZAL (v:=enc (x.v.2.1 !=2)) rfl rfl rfl<|ZAA ?_
 split at h
 ·rename_i c';refine ZAH rfl c'<|ZAB<|ZAC<|ZAb ZJv rfl<|ZAN ag43 (Ss (Ss (Ss (Ss (Ss (Ss Sz)))))) rfl hxs hs fun y12 hy12=>ZA7 underlying43 rfl rfl hy12<|ZAb ZJw rfl<|ZAN ag44 (Ss (Ss (Ss (Ss (Ss (Ss (Ss Sz))))))) rfl hxs hs fun y13 hy13=>ZA7 underlying44 rfl rfl hy13<|ZAL (v:=enc (IntKind.i64.wrap ((x.v.2.2.2.2.2.2.1.length:Int)+(x.v.2.2.2.2.2.2.2.1.length:Int)))) rfl rfl rfl<|ZAL (v:=enc ((IntKind.i64.wrap ((x.v.2.2.2.2.2.2.1.length:Int)+(x.v.2.2.2.2.2.2.2.1.length:Int)))==0)) rfl rfl rfl<|ZAG rfl<|ZAA<|ZAP ?_
  rw[←oi h];exact⟨rfl,KE1 (a:=(((IntKind.i64.wrap ((x.v.2.2.2.2.2.2.1.length:Int)+(x.v.2.2.2.2.2.2.2.1.length:Int)))==0):Bool)) rfl rfl (rfl:is _ (((IntKind.i64.wrap ((x.v.2.2.2.2.2.2.1.length:Int)+(x.v.2.2.2.2.2.2.2.1.length:Int)))==0):Bool)) (rfl:is _ (((IntKind.i64.wrap ((x.v.2.2.2.2.2.2.1.length:Int)+(x.v.2.2.2.2.2.2.2.1.length:Int)))==0):Bool))⟩
 rename_i c';refine ZAI rfl c'<|ZAO<|ZAB<|ZAC<|ZAb ZJv rfl<|ZAN ag43 (Ss (Ss (Ss (Ss (Ss (Ss Sz)))))) rfl hxs hs fun y14 hy14=>ZAb ZJw rfl<|ZAN ag44 (Ss (Ss (Ss (Ss (Ss (Ss (Ss Sz))))))) rfl hxs hs fun y15 hy15=>ZCD (r0:=(false,([]:(List Str)),([]:(List Int)),())) ZTO ZTM ZTN rfl rfl (r:=(true,x.v.2.2.2.2.2.2.1,x.v.2.2.2.2.2.2.2.1,())) (.cons (z:=(true:Bool)) Sz (rfl:is _ (true:Bool)) (.cons (z:=x.v.2.2.2.2.2.2.1) (Ss Sz) hy14 (.cons (z:=x.v.2.2.2.2.2.2.2.1) (Ss (Ss Sz)) hy15 .nil))) fun y16 hy16=> ?_
 obtain⟨r_1,hx1,h⟩:=bs h;refine ZAe (f:=fun a:ZAa×Unit=>ZBF a.1) (a:=((Rec.mk (true,x.v.2.2.2.2.2.2.1,x.v.2.2.2.2.2.2.2.1,()):ZAa),())) rfl func73 rfl rfl (.cons (a:=((Rec.mk (true,x.v.2.2.2.2.2.2.1,x.v.2.2.2.2.2.2.2.1,()):ZAa):ZAa)) hy16 .nil) hs (lM _ List.mem_cons_self) hx1<|ZAD (v:=res r_1) rfl<|ZBB rfl rfl<|ZBB rfl rfl<|ZAG rfl<|ZAA<|ZAB<|ZAC<|ZAD rfl<|ZAL (v:=enc (r_1.2==0)) rfl rfl rfl<|ZAD rfl ?_
 obtain⟨b5,hb_b5,h⟩:=bs h;refine ZAV 4 (fun φ s=>Hp s [(.cells m xs),(.gl (NG mx))]∧Fx φ [(1,(.ptr m 0)),(78,(enc b5))]) ?_ ?_
 ·split at hb_b5
  ·rename_i cg10;refine ZAF rfl rfl cg10<|ZAb ZN3 rfl<|ZAF rfl rfl cg10<|ZAN ag3 (Ss (Ss (Ss Sz))) rfl hxs hs fun y17 hy17=> ?_
   cases hy17;refine ZAF rfl rfl cg10<|ZAL (v:=enc (x.v.2.2.2.1==1)) rfl rfl rfl<|ZAh rfl cg10 rfl<|ZAA ?_
   rw[←oi hb_b5];exact⟨hs,FxR rfl⟩
  rename_i cg11;refine ZAE rfl rfl cg11<|ZAE rfl rfl cg11<|ZAE rfl rfl cg11<|ZAf (v:=enc false) rfl cg11 rfl<|ZAA ?_
  rw[←oi hb_b5];exact⟨hs,FxR rfl⟩
 rintro φ s ⟨hs,hF⟩;rw[←hF.eq];refine ZAD rfl ?_
 obtain⟨b6,hb_b6,h⟩:=bs h;refine ZAV 5 (fun φ s=>Hp s [(.cells m xs),(.gl (NG mx))]∧Fx φ [(84,(enc b6))]) ?_ ?_
 ·split at hb_b6
  ·rename_i cg12;refine ZAF rfl rfl cg12<|ZAb ZJv rfl<|ZAF rfl rfl cg12<|ZAN ag43 (Ss (Ss (Ss (Ss (Ss (Ss Sz)))))) rfl hxs hs fun y18 hy18=>ZAF rfl rfl cg12<|ZA7 underlying43 rfl rfl hy18<|ZAF rfl rfl cg12<|ZAL (v:=enc (decide ((x.v.2.2.2.2.2.2.1.length:Int)≤128))) rfl rfl rfl<|ZAh rfl cg12 rfl<|ZAA ?_
   rw[←oi hb_b6];exact⟨hs,FxR rfl⟩
  rename_i cg13;refine ZAE rfl rfl cg13<|ZAE rfl rfl cg13<|ZAE rfl rfl cg13<|ZAE rfl rfl cg13<|ZAf (v:=enc false) rfl cg13 rfl<|ZAA ?_
  rw[←oi hb_b6];exact⟨hs,FxR rfl⟩
 rintro φ s ⟨hs,hF⟩;rw[←hF.eq];refine ZAG rfl<|ZAA<|ZAP ?_
 rw[←oi h];exact⟨rfl,KE1 (a:=b6) rfl rfl (rfl:is _ b6) (rfl:is _ b6)⟩
theorem ZIE (mx:Int):ZA0 Tryz.prog 57 (FnG (NG mx) (fun a:ZAK×Unit=>ZBg a.1)):=fnCG (ZQM mx) ⟨_,func57,rfl⟩<|fun a r h=>ZID mx a.1 r h
noncomputable def pv8 (mx:Int):Prims:=(pv7 mx).addG 57 (FnG (NG mx) (fun a:ZAK×Unit=>ZBg a.1))
theorem ZQN (mx:Int):ZAT Tryz.prog (pv8 mx):=ZAU (ZQM mx) (ZIE mx)
end Go.Ai.Rab
end
section
set_option maxRecDepth 100000
set_option maxHeartbeats 16000000
attribute [local irreducible] Go.Ai.TC Go.Ai.TO Go.Ai.MF Go.Ai.ZCC Go.Ai.ZBU Go.Ai.encR
open Go.Ai.Enc (enc is)
open Go.Ai.Res (res ris)
open Go.Ai.Args (args)
open Go.Ai.Flds (fe fi fk)
namespace Go.Ai

end Go.Ai
namespace Go.Ai.TTryz
open Go.Proofs
theorem ef3:EF Tryz.prog 3 0 8:=ZJj (by kernel_rfl)
def zx47:List AV:=[enc (0:Int),enc (0:Int),enc (0:Int),enc (0:Int), .nils,enc (str []), .nils, .nils, .nils]
theorem zr47:ZBC Tryz.prog 47=some (.agg zx47):=by kernel_rfl
theorem zf47:fi zx47 (Rec.mk ((0:Int),(0:Int),(0:Int),(0:Int),([]:(List UInt8)),(str []),([]:(List Str)),([]:(List Int)),([]:(List ZAc)),()):ZAK).v:=⟨_,_,rfl,rfl,⟨_,_,rfl,rfl,⟨_,_,rfl,rfl,⟨_,_,rfl,rfl,⟨_,_,rfl,isL.nil,⟨_,_,rfl,rfl,⟨_,_,rfl,isL.nil,⟨_,_,rfl,isL.nil,⟨_,_,rfl,isL.nil,rfl⟩⟩⟩⟩⟩⟩⟩⟩⟩
theorem bu47:buB Tryz.prog 47 9=true:=by kernel_rfl
end Go.Ai.TTryz
namespace Go.Ai.Rab
open Go.Proofs TTryz Tryz
noncomputable def ZCs (v1:ZAK):((List (Int×(List Int)))×Int)→Option (((List (Int×(List Int)))×Int) ⊕ (List (Int×(List Int))))
 | (out_2,v2)=>(if(decide (v2<(v1.v.2.2.2.2.2.2.2.1.length:Int))) then((nth v1.v.2.2.2.2.2.2.2.1 v2).bind fun v3=>((app 8 ((mget out_2 v3).getD []) [v1.v.1]).bind fun l=>some (.inl ((mput out_2 v3 l),(IntKind.i64.wrap (v2+1)))))) else some (.inr out_2))
noncomputable def ZEl (v:Int):(List (Int×(List Int)))→Option (((List (Int×(List Int)))×Int) ⊕ (List (Int×(List Int))))
 | out_3=>some (.inl (out_3,(IntKind.i64.wrap (v+1))))
noncomputable def ZEm (f:FsR):((List (Int×(List Int)))×Int)→Option (((List (Int×(List Int)))×Int) ⊕ (List (Int×(List Int))))
 | (out_,v)=>(if(decide (v<(f.v.1.length:Int))) then((nth f.v.1 v).bind fun v1=>((loop (ZCs v1) (out_,0)).bind (ZEl v))) else some (.inr out_))
noncomputable def ZGT:(List (Int×(List Int)))→Option ((List (Int×(List Int))))
 | out_1=>some (out_1)
noncomputable def ZD0 (f:FsR):Option ((List (Int×(List Int)))):=
 ((loop (ZEm f) (([]:(List (Int×(List Int)))),0)).bind (ZGT))
noncomputable def ZDB (most:Int) (up:(List (Int×(List Int)))):(Int×Int)→Option ((Int×Int) ⊕ (Unit ⊕ Bool))
 | (num1,v)=>(if(decide (v<(IntKind.i64.wrap (most+1)))) then(if((((mget up num1).getD []).length:Int)==0) then some (.inr (.inr true)) else((nth ((mget up num1).getD []) 0).bind fun v2=>some (.inl (v2,(IntKind.i64.wrap (v+1)))))) else some (.inr (.inl ())))
noncomputable def ZEH:(Unit ⊕ Bool)→Option (Bool)
 | (.inl _)=>some (false)
 | (.inr v1)=>some (v1)
noncomputable def ZE6 (up:(List (Int×(List Int)))) (num:Int) (most:Int):Option (Bool):=
 ((loop (ZDB most up) (num,0)).bind (ZEH))
theorem ZGU (f:FsR) (r:(List (Int×(List Int)))) (h:ZD0 f=some r) {x_f:AV} (hy_f:is x_f f) {s:St} {enF:En} {G:Glob} (hs:Hp s [enF,(.gl G)]):MF Tryz.prog pct 58 [x_f] s fun v s' =>∃en',isMR v en' r∧Hp s' [en',enF, .gl G]:=by
 refine ZBz [(0,x_f)] func58 rfl (by simp only[Tryz.f58];rfl) fun ψ=> ?_
 unfold ZD0 at h;refine ZAB<|ZAC<|ZBe (r:=f) rfl hy_f hs fun m xs s hxs hs=>ZAG (v:= .nilmp) rfl<|ZAA<|ZAB<|ZAC<|ZQD hs fun m1 s hs=>ZAG (v:= .mp m1) rfl<|ZAA<|ZAB<|ZAB<|ZAC<|ZAb ZCE rfl ?_
 replace hs:=Hp.front [(.grp [(m1, .map [])])] (b:=[enF,(.gl G)]) hs;refine ZAN ag22 Sz rfl hxs hs fun y hy=>ZA7 underlying22 rfl rfl hy<|ZAD (v:=enc (0:Int)) rfl<|ZAA<|ZAQ ?_
 obtain⟨out_1,hl,h⟩:=bs h;refine ZA2 (fun(p:((List (Int×(List Int)))×Int)) φ s=>match p with | (out_,v)=>∃(en:En),isMR (.mp m1) en out_∧Fx φ [(3,(.mp m1)),(10,y),(11,(enc ((f.v.1.length:Int):Int))),(12,(enc v))]∧Hp s [enF,(.gl G),en]) (fun(o:(List (Int×(List Int)))) e φ s=>match o with | out_1=>e= .exit 0∧∃(en1:En),isMR (.mp m1) en1 out_1∧Fx φ [(3,(.mp m1))]∧Hp s [enF,(.gl G),en1]) ?_ hl ⟨(.grp [(m1, .map [])]),ZPP,FxR rfl,(Hp.front [(.gl G),(.grp [(m1, .map [])])] (b:=[]) (Hp.front [(.grp [(m1, .map [])]),enF] (b:=[]) (Hp.front [] (b:=[enF,(.gl G)]) (Hp.drop [] (b:=[(.grp [(m1, .map [])]),enF,(.gl G)]) hs))))⟩ ?_
 ·rintro⟨out_,v⟩ o h φ s ⟨en,hb_en,hF,hs⟩;rw[←hF.eq];rw[ZEm] at h;refine ZAB<|ZAC<|ZAL (v:=enc (decide (v<(f.v.1.length:Int)))) rfl rfl rfl<|ZAA<|ZAB ?_
  split at h
  ·rename_i c';refine ZAH rfl c'<|ZAO<|ZAB<|ZAQ<|ZAB<|ZAC ?_
   obtain⟨v1,hx,h⟩:=bs h;refine ZBY underlying22 sh47 rfl rfl hy hx fun p hp=>ZEe ag47 sz47 rfl hp fun y1 hy1=>ZBZ (r:=(Rec.mk ((0:Int),(0:Int),(0:Int),(0:Int),([]:(List UInt8)),(str []),([]:(List Str)),([]:(List Int)),([]:(List ZAc)),()):ZAK)) zr47 zf47 hs fun m2 s hs=>ZBE (r:=v1) sz47 rfl rfl zf47 hy1 hs fun xs1 s hxs1 hs=>ZAA<|ZAB<|ZAC<|ZAb ZJw rfl<|ZAN ag44 (Ss (Ss (Ss (Ss (Ss (Ss (Ss Sz))))))) rfl hxs1 hs fun y2 hy2=>ZA7 underlying44 rfl rfl hy2<|ZAD (v:=enc (0:Int)) rfl<|ZAA<|ZAQ ?_
   obtain⟨out_3,hl,h⟩:=bs h;refine ZA2 (fun(p:((List (Int×(List Int)))×Int)) φ s=>match p with | (out_2,v2)=>∃(en2:En),isMR (.mp m1) en2 out_2∧Fx φ [(3,(.mp m1)),(5,(.ptr m2 0)),(10,y),(11,(enc ((f.v.1.length:Int):Int))),(12,(enc v)),(17,y2),(18,(enc ((v1.v.2.2.2.2.2.2.2.1.length:Int):Int))),(19,(enc v2))]∧Hp s [(.cells m2 xs1),enF,(.gl G),en2]) (fun(o:(List (Int×(List Int)))) e φ s=>match o with | out_3=>e= .exit 2∧∃(en3:En),isMR (.mp m1) en3 out_3∧Fx φ [(3,(.mp m1)),(10,y),(11,(enc ((f.v.1.length:Int):Int))),(12,(enc v))]∧Hp s [enF,(.gl G),en3]) ?_ hl ⟨en,hb_en,FxR rfl,hs⟩ ?_
   ·rintro⟨out_2,v2⟩ o h φ s ⟨en2,hb_en2,hF,hs⟩;rw[←hF.eq];rw[ZCs] at h;refine ZAB<|ZAC<|ZAL (v:=enc (decide (v2<(v1.v.2.2.2.2.2.2.2.1.length:Int)))) rfl rfl rfl<|ZAA<|ZAB ?_
    split at h
    ·rename_i c';refine ZAH rfl c'<|ZAO<|ZAB<|ZAQ<|ZAB<|ZAC ?_
     obtain⟨v3,hx1,h⟩:=bs h;refine ZBY underlying44 sh3 rfl rfl hy2 hx1 fun p1 hp1=>ZDx rfl ag3 rfl hp1 fun y3 hy3=> ?_
     cases hy3;refine ZAG rfl<|ZAA<|ZAC<|ZAD (v:= .mp m1) rfl<|ZAD rfl<|ZAD (v:= .mp m1) rfl<|ZAD rfl ?_
     replace hs:=Hp.front [(.cells m2 xs1),enF,(.gl G)] (b:=[]) hs;refine ZSQ (xs:=out_2) (k:=v3) underlying93 underlying3 (by kernel_rfl) rfl rfl hb_en2 hs fun w en4 hw hwc hmx_en4 hs=>ZAb ZEf rfl ?_
     replace hs:=Hp.front [.own w,en4] (b:=[enF,(.gl G)]) hs;refine ZAN ag3 Sz rfl hxs1 hs fun y4 hy4=> ?_
     cases hy4;refine ZEC [(enc v1.v.1)] ([v1.v.1]:(List Int)) underlying44 ef3 rfl rfl rfl (Nat.le_of_ble_eq_true rfl) ⟨(rfl:is _ v1.v.1),trivial⟩ fun z hz hzc hzn=> ?_
     obtain⟨l,hx2,h⟩:=bs h;refine ZQ0 [(.cells m2 xs1)] (es2:=[en4,enF,(.gl G)]) underlying44 underlying44 rfl rfl ef3 rfl rfl hw hwc hs hz hx2 fun z1 s hz1 hz1c hs=> ?_
     replace hs:=Hp.front [(.cells m2 xs1), .own z1] (b:=[enF,(.gl G)]) hs;replace hs:=Hp.front [en4,(.cells m2 xs1)] (b:=[enF,(.gl G)]) hs;refine ZSR (k:=v3) (r:=l) underlying93 underlying3 rfl rfl rfl hmx_en4 hz1 hz1c hs fun en5 s hb_en5 hs=>ZAA<|ZAC<|ZAL (v:=enc (IntKind.i64.wrap (v2+1))) rfl rfl rfl<|ZAD rfl<|ZAA ?_
     rw[←oi h];exact⟨_,rfl,⟨en5,hb_en5,FxR rfl,(Hp.front [enF,(.gl G),en5] (b:=[]) (Hp.front [(.gl G),en5,(.cells m2 xs1)] (b:=[]) (Hp.front [en5,(.cells m2 xs1),enF] (b:=[]) (Hp.front [] (b:=[(.cells m2 xs1),enF,(.gl G)]) hs))))⟩⟩
    rename_i c';refine ZAI rfl c'<|ZAw ?_
    rw[←oi h];exact⟨_,rfl,rfl,⟨en2,hb_en2,FxR rfl,(Hp.drop [] (b:=[enF,(.gl G),en2]) hs)⟩⟩
   intro e φ s hE;obtain⟨rfl,en3,hb_en3,hF,hs⟩:=hE;rw[←hF.eq];rw[ZEl] at h;show if _ then _ else _
   rw[if_pos rfl];refine ZAC<|ZAL (v:=enc (IntKind.i64.wrap (v+1))) rfl rfl rfl<|ZAD rfl<|ZAA ?_
   rw[←oi h];exact⟨_,rfl,⟨en3,hb_en3,FxR rfl,hs⟩⟩
  rename_i c';refine ZAI rfl c'<|ZAw ?_
  rw[←oi h];exact⟨_,rfl,rfl,⟨en,hb_en,FxR rfl,hs⟩⟩
 intro e φ s hE;obtain⟨rfl,en1,hb_en1,hF,hs⟩:=hE;rw[←hF.eq];rw[ZGT] at h;show if _ then _ else _
 rw[if_pos rfl];refine ZAB<|ZAC<|ZAD (v:= .mp m1) rfl<|ZAG (v:= .mp m1) rfl<|ZAA<|ZAP ?_
 rw[←oi h];exact⟨rfl,KN1 rfl rfl ⟨_,hb_en1,(Hp.front [enF,(.gl G)] (b:=[]) (Hp.front [(.gl G)] (b:=[en1]) (Hp.front [enF] (b:=[en1]) hs)))⟩⟩
theorem ZI2 (up:(List (Int×(List Int)))) (num:Int) (most:Int) (r:Bool) (h:ZE6 up num most=some r) {x_up:AV} {en_up:En} (hm_up:isMR x_up en_up up) {s:St} {enF:En} {G:Glob} (hs:Hp s [en_up,enF,(.gl G)]):MF Tryz.prog pct 59 [x_up,(enc num),(enc most)] s fun v s' =>ris v r∧Hp s' [en_up,enF, .gl G]:=by
 refine ZBz [(0,x_up),(1,(enc num)),(2,(enc most))] func59 rfl (by simp only[Tryz.f59];rfl) fun ψ=> ?_
 unfold ZE6 at h;refine ZAB<|ZAC<|ZAG (v:=enc false) rfl<|ZAA<|ZAB<|ZAB<|ZAC<|ZAD rfl<|ZAL (v:=enc (IntKind.i64.wrap (most+1))) rfl rfl rfl<|ZAD (v:=enc (0:Int)) rfl<|ZAA<|ZAQ ?_
 obtain⟨o,hl,h⟩:=bs h;refine ZA2 (fun(p:(Int×Int)) φ s=>match p with | (num1,v)=>Fx φ [(0,x_up),(1,(enc num1)),(9,(enc (IntKind.i64.wrap (most+1)))),(10,(enc v))]∧Hp s [en_up,enF,(.gl G)]) (fun(o:(Unit ⊕ Bool)) e φ s=>match o with | (.inl _)=>e= .exit 0∧Fx φ []∧Hp s [en_up,enF,(.gl G)] | (.inr v1)=>e= .ret∧Fx φ [(6,(enc v1))]∧Hp s [en_up,enF,(.gl G)]) ?_ hl ⟨FxR rfl,hs⟩ ?_
 ·rintro⟨num1,v⟩ o h φ s ⟨hF,hs⟩;rw[←hF.eq];rw[ZDB] at h;refine ZAB<|ZAC<|ZAL (v:=enc (decide (v<(IntKind.i64.wrap (most+1))))) rfl rfl rfl<|ZAA<|ZAB ?_
  split at h
  ·rename_i c';refine ZAH rfl c'<|ZAO<|ZAB<|ZAQ<|ZAB<|ZAC<|ZAD (v:=x_up) rfl<|ZAD rfl<|ZN2 (xs:=up) (k:=num1) underlying93 underlying3 (by kernel_rfl) rfl rfl hm_up hs fun w hw=>ZAG (v:=w) rfl<|ZAA<|ZAB<|ZAB<|ZAC<|ZAD (v:=w) rfl ?_
   refine ZA7 underlying44 rfl rfl hw<|ZAL (v:=enc (((((mget up num1).getD []).length:Int)==0):Bool)) rfl rfl rfl<|ZAA ?_
   split at h
   ·rename_i c';refine ZAH rfl c'<|ZAB<|ZAC<|ZAG (v:=enc true) rfl<|ZAA<|ZAP ?_
    show if _ then _ else _
    rw[if_neg (by simp)]
    rw[←oi h];exact⟨_,rfl,rfl,⟨FxR rfl,hs⟩⟩
   rename_i c';refine ZAI rfl c'<|ZAO<|ZAC<|ZAD (v:=w) rfl ?_
   obtain⟨v2,hx,h⟩:=bs h;refine ZBY underlying44 sh3 rfl rfl hw hx fun p hp=>ZDx rfl ag3 rfl hp fun y hy=> ?_
   cases hy;refine ZAG rfl<|ZAA<|ZAC<|ZAL (v:=enc (IntKind.i64.wrap (v+1))) rfl rfl rfl<|ZAD rfl<|ZAA ?_
   rw[←oi h];exact⟨_,rfl,⟨FxR rfl,hs⟩⟩
  rename_i c';refine ZAI rfl c'<|ZAw ?_
  rw[←oi h];exact⟨_,rfl,rfl,⟨trivial,hs⟩⟩
 intro e φ s hE;rcases o with _u | v1
 ·obtain⟨rfl,hF,hs⟩:=hE;rw[←hF.eq];rw[ZEH] at h;show if _ then _ else _
  rw[if_pos rfl];refine ZAB<|ZAC<|ZAG (v:=enc false) rfl<|ZAA<|ZAP ?_
  rw[←oi h];exact⟨rfl,KN1 rfl rfl ⟨(rfl:is _ (false:Bool)),hs⟩⟩
 obtain⟨rfl,hF,hs⟩:=hE;rw[←hF.eq];rw[ZEH] at h;show if _ then _ else _
 rw[if_neg (by simp)]
 rw[←oi h];exact⟨rfl,KN1 rfl rfl ⟨(rfl:is _ v1),hs⟩⟩
end Go.Ai.Rab
end
