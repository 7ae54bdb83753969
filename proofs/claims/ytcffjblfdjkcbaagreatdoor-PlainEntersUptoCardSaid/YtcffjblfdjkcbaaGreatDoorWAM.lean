/- My own texts DevPgC, DevPgD, one behind the other. -/
import Derived.Test.YtcffjblfdjkcbaaGreatDoorWAE
import Derived.Test.YtcffjblfdjkcbaaGreatDoorWAL
import Derived.Test.YtcffjblfdjkcbaaGreatDoorWAJ
set_option linter.unusedVariables false
set_option linter.unusedSimpArgs false
section
set_option maxRecDepth 100000
set_option maxHeartbeats 16000000
attribute [local irreducible] Go.Ai.TC Go.Ai.TO Go.Ai.MF Go.Ai.ZE6 Go.Ai.ZDC Go.Ai.encR
open Go.Ai.Enc (enc is)
open Go.Ai.Res (res ris)
open Go.Ai.Args (args)
open Go.Ai.Flds (fe fi fk)
namespace Go.Ai

end Go.Ai
namespace Go.Ai.TTryz
open Go.Proofs
theorem ef20:EF Tryz.prog 20 0 16:=ZPm (by kernel_rfl)
def zx89:List AV:=[enc (str []), .nils]
theorem zr89:ZBd Tryz.prog 89=some (.agg zx89):=by kernel_rfl
theorem zf89:fi zx89 (Rec.mk ((str []),([]:(List UInt8)),()):ZAd).v:=⟨_,_,rfl,rfl,⟨_,_,rfl,isL.nil,rfl⟩⟩
end Go.Ai.TTryz
namespace Go.Ai.Rab
open Go.Proofs TTryz Tryz
noncomputable def ZCv (s_:Str):Nat→Option (Nat ⊕ (Unit ⊕ Int))
 | v=>(if v<List.length s_ then((if(((ZE6 s_ v)).v==((Rune.mk 47)).v) then some true else some (((ZE6 s_ v)).v==((Rune.mk 0)).v)).bind fun b2=>(if b2 then some (.inr (.inr 206)) else some (.inl (v+ZDC s_ v)))) else some (.inr (.inl ())))
noncomputable def ZDt:(Unit ⊕ Int)→Option (Int)
 | (.inl _)=>some (0)
 | (.inr v1)=>some (v1)
noncomputable def ZB2 (s_:Str):Option (Int):=
 (if(eqS s_ (str [])) then some (206) else(if(decide (((List.length s_:Nat):Int) > 100)) then some (208) else((if(eqS s_ (str [46])) then some true else some (eqS s_ (str [46,46]))).bind fun b=>((if b then some true else((utf8_ValidString s_).bind fun r_=>some (!r_))).bind fun b1=>(if b1 then some (206) else((loop (ZCv s_) 0).bind (ZDt)))))))
noncomputable def ZFc (l:(List Str)):Int→Option (Int ⊕ (Unit ⊕ Bool))
 | v=>(if(decide (v<(l.length:Int))) then((nth l v).bind fun v2=>((ZB2 v2).bind fun r_=>((if(r_ !=0) then some true else((if(decide (v > 0)) then((nth l (IntKind.i64.wrap (v - 1))).bind fun v3=>some (ltS v2 v3 || eqS v2 v3)) else some false).bind fun b1=>some b1)).bind fun b=>(if b then some (.inr (.inr false)) else some (.inl (IntKind.i64.wrap (v+1))))))) else some (.inr (.inl ())))
noncomputable def ZFd:(Unit ⊕ Bool)→Option (Bool)
 | (.inl _)=>some (true)
 | (.inr v1)=>some (v1)
noncomputable def ZBj (l:(List Str)):Option (Bool):=
 ((loop (ZFc l) 0).bind (ZFd))
noncomputable def ZGN (l:(List ZAd)):((List Str)×Int)→Option (((List Str)×Int) ⊕ ((List Str) ⊕ Bool))
 | (names,v)=>(if(decide (v<(l.length:Int))) then((nth l v).bind fun v2=>((app 16 names [v2.v.1]).bind fun l1=>(if(decide ((v2.v.2.1.length:Int) > 256)) then some (.inr (.inr false)) else some (.inl (l1,(IntKind.i64.wrap (v+1))))))) else some (.inr (.inl names)))
noncomputable def ZGO (l:(List ZAd)):((List Str) ⊕ Bool)→Option (Bool)
 | (.inl names1)=>((if(decide ((l.length:Int)≤8)) then((ZBj names1).bind fun r_=>some r_) else some false).bind fun b=>some (b))
 | (.inr v1)=>some (v1)
noncomputable def ZDd (l:(List ZAd)):Option (Bool):=
 ((loop (ZGN l) ([],0)).bind (ZGO l))
noncomputable def ZCO (m:ZBg):Option (Bool):=
 (if(m.v.1 !=3) then some ((eqS m.v.2.2.2.2.1 (str []))) else((if(!eqS m.v.2.2.2.2.1 (str [])) then some (decide (((List.length m.v.2.2.2.2.1:Nat):Int)≤1000)) else some false).bind fun b=>((if b then((ZBo m.v.2.2.2.2.1 (str [0])).bind fun r_=>some (!r_)) else some false).bind fun b1=>((if b1 then some (m.v.2.2.2.1==0) else some false).bind fun b2=>some (b2)))))
noncomputable def ZFe (m:ZBg):(Int×Int)→Option ((Int×Int) ⊕ (Int ⊕ Bool))
 | (n,v)=>(if(decide (v<(m.v.2.2.2.2.2.2.1.length:Int))) then((nth m.v.2.2.2.2.2.2.1 v).bind fun v2=>none) else some (.inr (.inl n)))
noncomputable def ZEK (m:ZBg):(Int ⊕ Bool)→Option (Bool)
 | (.inl n1)=>some ((n1==m.v.2.2.2.1))
 | (.inr v1)=>some (v1)
noncomputable def ZEe (m:ZBg):Option (Bool):=
 ((if(decide (m.v.2.1≥0)) then some (decide (m.v.2.1≤4095)) else some false).bind fun b=>((if b then some (decide (m.v.2.2.1≥0)) else some false).bind fun b1=>((if b1 then some (decide (m.v.2.2.1≤64)) else some false).bind fun b2=>((if b2 then some (decide (m.v.2.2.2.1≥0)) else some false).bind fun b3=>((if b3 then some (decide (m.v.2.2.2.1≤32768)) else some false).bind fun b4=>((if b4 then some (decide ((m.v.2.2.2.2.2.2.1.length:Int)≤128)) else some false).bind fun b5=>((if(decide (m.v.1<1)) then some true else some (decide (m.v.1 > 3))).bind fun b6=>((if b6 then some true else some (!b5)).bind fun b7=>((if b7 then some true else((ZCO m).bind fun r_=>some (!r_))).bind fun b8=>((if b8 then some true else((ZDd m.v.2.2.2.2.2.1).bind fun r_1=>some (!r_1))).bind fun b9=>(if b9 then some (false) else((loop (ZFe m) (0,0)).bind (ZEK m)))))))))))))
noncomputable def ZEt (m:ZBg):((List UInt8)×Int)→Option (((List UInt8)×Int) ⊕ (List UInt8))
 | (b,v)=>(if(decide (v<(m.v.2.2.2.2.2.1.length:Int))) then((nth m.v.2.2.2.2.2.1 v).bind fun v1=>((ZDn b [(ZAz 9 (v1.v.1:Str)),(ZAz 33 (v1.v.2.1:(List UInt8)))]).bind fun r_2=>some (.inl (r_2,(IntKind.i64.wrap (v+1)))))) else some (.inr b))
noncomputable def ZDP (v2:Int) (b4:(List UInt8)):Option (((List UInt8)×Int) ⊕ (List UInt8)):=
 some (.inl (b4,(IntKind.i64.wrap (v2+1))))
noncomputable def ZEu (m:ZBg):((List UInt8)×Int)→Option (((List UInt8)×Int) ⊕ (List UInt8))
 | (b2,v2)=>(if(decide (v2<(m.v.2.2.2.2.2.2.1.length:Int))) then((nth m.v.2.2.2.2.2.2.1 v2).bind fun v3=>(if(!eqS v3.v.1 (str [])) then((ZDn b2 [(ZAz 4 (true:Bool)),(ZAz 122 (v3.v.1:Str)),(ZAz 3 (v3.v.2.2.2.1:Int))]).bind fun r_4=>(ZDP v2 r_4)) else((ZDn b2 [(ZAz 4 (false:Bool)),(ZAz 3 (v3.v.2.1:Int)),(ZAz 3 (v3.v.2.2.1:Int)),(ZAz 3 (v3.v.2.2.2.1:Int))]).bind fun r_5=>(ZDP v2 r_5)))) else some (.inr b2))
noncomputable def ZGt:(List UInt8)→Option ((List UInt8)×Int)
 | b3=>some (b3,0)
noncomputable def ZGu (m:ZBg):(List UInt8)→Option ((List UInt8)×Int)
 | b1=>((ZDn b1 [(ZAz 3 ((m.v.2.2.2.2.2.2.1.length:Int):Int))]).bind fun r_3=>((loop (ZEu m) (r_3,0)).bind (ZGt)))
noncomputable def ZCE (m:ZBg):Option ((List UInt8)×Int):=
 ((ZEe m).bind fun r_=>(if(!r_) then some ([],80) else((ZDn [] [(ZAz 3 (m.v.1:Int)),(ZAz 3 (m.v.2.1:Int)),(ZAz 3 (m.v.2.2.1:Int)),(ZAz 3 (m.v.2.2.2.1:Int)),(ZAz 9 (m.v.2.2.2.2.1:Str)),(ZAz 3 ((m.v.2.2.2.2.2.1.length:Int):Int))]).bind fun r_1=>((loop (ZEt m) (r_1,0)).bind (ZGu m)))))
noncomputable def ZDI (l:ZAb):((List UInt8)×Int)→Option (((List UInt8)×Int) ⊕ (List UInt8))
 | (b3,v)=>(if(decide (v<(l.v.2.1.length:Int))) then((nth l.v.2.1 v).bind fun v1=>((ZDn b3 [(ZAz 9 (v1:Str))]).bind fun r_3=>some (.inl (r_3,(IntKind.i64.wrap (v+1)))))) else some (.inr b3))
noncomputable def ZDJ (l:ZAb):((List UInt8)×Int)→Option (((List UInt8)×Int) ⊕ (List UInt8))
 | (b5,v2)=>(if(decide (v2<(l.v.2.2.1.length:Int))) then((nth l.v.2.2.1 v2).bind fun v3=>((ZDn b5 [(ZAz 3 (v3:Int))]).bind fun r_4=>some (.inl (r_4,(IntKind.i64.wrap (v2+1)))))) else some (.inr b5))
noncomputable def ZFD:(List UInt8)→Option ((List UInt8)×Int)
 | b6=>some (b6,0)
noncomputable def ZFE (l:ZAb):(List UInt8)→Option ((List UInt8)×Int)
 | b4=>((loop (ZDJ l) (b4,0)).bind (ZFD))
noncomputable def ZBR (l:ZAb):Option ((List UInt8)×Int):=
 ((if(decide ((l.v.2.1.length:Int) > 256)) then some true else some ((l.v.2.2.1.length:Int) !=(l.v.2.1.length:Int))).bind fun b=>((if b then some true else((ZBj l.v.2.1).bind fun r_=>some (!r_))).bind fun b1=>((if b1 then some true else((ZBL l.v.2.2.1 (Clo.mk ((PtrC.mk l:PtrC ZAb),()):Clo 74 ((PtrC ZAb)×Unit))).bind fun r_1=>some r_1)).bind fun b2=>(if b2 then some ([],80) else((ZDn [] [(ZAz 4 (l.v.1:Bool)),(ZAz 3 ((l.v.2.1.length:Int):Int))]).bind fun r_2=>((loop (ZDI l) (r_2,0)).bind (ZFE l)))))))
noncomputable def ZBe (x:ZAF):Option (Bool):=
 ((ZCE (Rec.mk (x.v.2.1,x.v.2.2.1,x.v.2.2.2.1,(0:Int),x.v.2.2.2.2.2.1,x.v.2.2.2.2.2.2.2.2.1,([]:(List RefR)),()):ZBg)).bind fun r_=>((if((x.v.2.2.2.2.1.length:Int)==0) then some true else((if(x.v.2.1==1) then some (decide ((x.v.2.2.2.2.1.length:Int)≤32768)) else some false).bind fun b1=>some b1)).bind fun b=>((if(r_.2 !=0) then some true else some (!b)).bind fun b2=>((if b2 then some true else some (decide (x.v.1<1))).bind fun b3=>((if b3 then some true else some (decide (x.v.1 > 1024))).bind fun b4=>(if b4 then some (false) else(if(x.v.2.1 !=2) then some (((IntKind.i64.wrap ((x.v.2.2.2.2.2.2.1.length:Int)+(x.v.2.2.2.2.2.2.2.1.length:Int)))==0)) else((ZBR (Rec.mk (true,x.v.2.2.2.2.2.2.1,x.v.2.2.2.2.2.2.2.1,()):ZAb)).bind fun r_1=>((if(r_1.2==0) then some (x.v.2.2.2.1==1) else some false).bind fun b5=>((if b5 then some (decide ((x.v.2.2.2.2.2.2.1.length:Int)≤128)) else some false).bind fun b6=>some (b6)))))))))))
theorem ZLs (mx:Int) (s_:Str) (r:Int) (h:ZB2 s_=some r):MF Tryz.prog (pv0 mx) 64 [enc s_] (sG (NG mx)) fun v _=>ris v r:=by
 refine ZAe [(0,enc s_)] func64 rfl (by simp only[Tryz.f64];rfl) fun ψ=> ?_
 unfold ZB2 at h;have hs:Hp (sG (NG mx)) [.gl (NG mx)]:=Hp.gl0
 refine ZAB<|ZAC<|ZAG (v:=enc (0:Int)) rfl<|ZAA<|ZAB<|ZAQ<|ZAB<|ZAC<|ZAD rfl<|ZAL (v:=enc ((eqS s_ (str [])):Bool)) rfl rfl rfl<|ZAG rfl<|ZAA ?_
 split at h
 ·rename_i c';refine ZAI rfl c'<|ZAB<|ZAC<|ZAG (v:=enc (206:Int)) rfl<|ZAA<|ZAN ?_
  show if _ then _ else _
  rw[if_neg (by simp)]
  rw[←oi h];exact⟨rfl,KE1 (a:=(206:Int)) rfl rfl (rfl:is _ (206:Int)) (rfl:is _ (206:Int))⟩
 rename_i c';refine ZAJ rfl c'<|ZAB<|ZAC<|ZAD rfl<|ZHe underlying9 rfl rfl<|ZAL (v:=enc (decide (((List.length s_:Nat):Int) > 100))) rfl rfl rfl<|ZAG rfl<|ZAA ?_
 split at h
 ·rename_i c';refine ZAI rfl c'<|ZAB<|ZAC<|ZAG (v:=enc (208:Int)) rfl<|ZAA<|ZAN ?_
  show if _ then _ else _
  rw[if_neg (by simp)]
  rw[←oi h];exact⟨rfl,KE1 (a:=(208:Int)) rfl rfl (rfl:is _ (208:Int)) (rfl:is _ (208:Int))⟩
 rename_i c';refine ZAJ rfl c'<|ZAB<|ZAC<|ZAD rfl<|ZAL (v:=enc ((eqS s_ (str [46])):Bool)) rfl rfl rfl<|ZAD rfl ?_
 obtain⟨b,hb_b,h⟩:=bs h;refine ZAT 3 (fun φ s=>Hp s [(.gl (NG mx))]∧Fx φ [(0,(enc s_)),(18,(enc b))]) ?_ ?_
 ·split at hb_b
  ·rename_i cg;refine ZAE rfl rfl (by simpa using cg)<|ZAE rfl rfl (by simpa using cg)<|ZAY (v:=enc true) rfl cg rfl<|ZAA ?_
   rw[←oi hb_b];exact⟨hs,FxR rfl⟩
  rename_i cg1;refine ZAH rfl rfl (by simpa using cg1)<|ZAD rfl<|ZAH rfl rfl (by simpa using cg1)<|ZAL (v:=enc ((eqS s_ (str [46,46])):Bool)) rfl rfl rfl<|ZAX rfl cg1 rfl<|ZAA ?_
  rw[←oi hb_b];exact⟨hs,FxR rfl⟩
 rintro φ s ⟨hs,hF⟩;rw[←hF.eq];refine ZAD rfl ?_
 obtain⟨b1,hb_b1,h⟩:=bs h;refine ZAT 4 (fun φ s=>Hp s [(.gl (NG mx))]∧Fx φ [(0,(enc s_)),(23,(enc b1))]) ?_ ?_
 ·split at hb_b1
  ·rename_i cg2;refine ZAE rfl rfl (by simpa using cg2)<|ZAE rfl rfl (by simpa using cg2)<|ZAE rfl rfl (by simpa using cg2)<|ZAY (v:=enc true) rfl cg2 rfl<|ZAA ?_
   rw[←oi hb_b1];exact⟨hs,FxR rfl⟩
  rename_i cg3;refine ZAH rfl rfl (by simpa using cg3)<|ZAD rfl<|ZAH rfl rfl (by simpa using cg3) ?_
  obtain⟨r_,hx,hb_b1⟩:=bs hb_b1;refine ZA4 (f:=fun a:Str×Unit=>utf8_ValidString a.1) (a:=(s_,())) rfl func87 rfl rfl (.cons (a:=s_) (Enc.self _) .nil) hs List.mem_cons_self hx<|ZAH rfl rfl (by simpa using cg3)<|ZBS (v:=enc (!r_)) rfl rfl<|ZAX rfl cg3 rfl<|ZAA ?_
  rw[←oi hb_b1];exact⟨hs,FxR rfl⟩
 rintro φ s ⟨hs,hF⟩;rw[←hF.eq];refine ZAG rfl<|ZAA ?_
 split at h
 ·rename_i c';refine ZAI rfl c'<|ZAB<|ZAC<|ZAG (v:=enc (206:Int)) rfl<|ZAA<|ZAN ?_
  show if _ then _ else _
  rw[if_neg (by simp)]
  rw[←oi h];exact⟨rfl,KE1 (a:=(206:Int)) rfl rfl (rfl:is _ (206:Int)) (rfl:is _ (206:Int))⟩
 rename_i c';refine ZAJ rfl c'<|ZAM<|ZAB<|ZAB<|ZAC<|ZAD rfl<|ZWG underlying9 rfl hs fun m s hs=>ZAA<|ZAQ ?_
 obtain⟨o,hl,h⟩:=bs h;refine ZAm (fun(p:Nat) φ s=>match p with | v=>Fx φ [(25,(.ptr m 0))]∧Hp s [(.gl (NG mx)),(.it m s_ v)]) (fun(o:(Unit ⊕ Int)) e φ s=>match o with | (.inl _)=>e= .exit 1∧Fx φ []∧Hp s [(.gl (NG mx))] | (.inr v1)=>e= .ret∧Fx φ [(2,(enc v1))]∧Hp s [(.gl (NG mx))]) ?_ hl ⟨FxR rfl,(Hp.front [(.it m s_ 0)] (b:=[]) (Hp.front [] (b:=[(.gl (NG mx))]) hs))⟩ ?_
 ·rintro v o h φ s ⟨hF,hs⟩;rw[←hF.eq];rw[ZCv] at h;refine ZAB<|ZAC ?_
  replace hs:=Hp.front [(.gl (NG mx))] (b:=[]) hs;split at h
  ·rename_i cn;refine ZUi rfl hs cn fun s hs=>ZAs rfl rfl<|ZAA<|ZAB<|ZAI rfl rfl<|ZAM<|ZAQ<|ZAB<|ZAC<|ZAs rfl rfl<|ZAG rfl<|ZAA<|ZAB<|ZAC<|ZAD rfl ?_
   refine ZAL (v:=enc ((((ZE6 s_ v)).v==((Rune.mk 47)).v):Bool)) rfl rfl rfl<|ZAD rfl ?_
   obtain⟨b2,hb_b2,h⟩:=bs h;refine ZAT 3 (fun φ s=>Hp s [(.it m s_ (v+ZDC s_ v)),(.gl (NG mx))]∧Fx φ [(25,(.ptr m 0)),(34,(enc b2))]) ?_ ?_
   ·split at hb_b2
    ·rename_i cg4;refine ZAE rfl rfl (by simpa using cg4)<|ZAE rfl rfl (by simpa using cg4)<|ZAY (v:=enc true) rfl cg4 rfl<|ZAA ?_
     rw[←oi hb_b2];exact⟨hs,FxR rfl⟩
    rename_i cg5;refine ZAH rfl rfl (by simpa using cg5)<|ZAD rfl<|ZAH rfl rfl (by simpa using cg5)<|ZAL (v:=enc ((((ZE6 s_ v)).v==((Rune.mk 0)).v):Bool)) rfl rfl rfl<|ZAX rfl cg5 rfl<|ZAA ?_
    rw[←oi hb_b2];exact⟨hs,FxR rfl⟩
   rintro φ s ⟨hs,hF⟩;rw[←hF.eq];refine ZAA ?_
   split at h
   ·rename_i c';refine ZAI rfl c'<|ZAB<|ZAC<|ZAG (v:=enc (206:Int)) rfl<|ZAA<|ZAN ?_
    show if _ then _ else _
    rw[if_neg (by simp)]
    rw[←oi h];exact⟨_,rfl,rfl,⟨FxR rfl,(Hp.drop [] (b:=[(.gl (NG mx))]) hs)⟩⟩
   rename_i c';refine ZAJ rfl c'<|ZAM ?_
   rw[←oi h];exact⟨_,rfl,⟨FxR rfl,(Hp.front [(.it m s_ (v+ZDC s_ v))] (b:=[]) (Hp.front [] (b:=[(.gl (NG mx))]) hs))⟩⟩
  rename_i cn;refine ZUj rfl hs cn<|ZAs rfl rfl<|ZAA<|ZAB<|ZAJ rfl Bool.false_ne_true<|ZAl ?_
  rw[←oi h];exact⟨_,rfl,rfl,⟨trivial,(Hp.drop [] (b:=[(.gl (NG mx))]) hs)⟩⟩
 intro e φ s hE;rcases o with _u | v1
 ·obtain⟨rfl,hF,hs⟩:=hE;rw[←hF.eq];rw[ZDt] at h;show if _ then _ else _
  rw[if_pos rfl];refine ZAB<|ZAC<|ZAG (v:=enc (0:Int)) rfl<|ZAA<|ZAN ?_
  rw[←oi h];exact⟨rfl,KE1 (a:=(0:Int)) rfl rfl (rfl:is _ (0:Int)) (rfl:is _ (0:Int))⟩
 obtain⟨rfl,hF,hs⟩:=hE;rw[←hF.eq];rw[ZDt] at h;show if _ then _ else _
 rw[if_neg (by simp)]
 rw[←oi h];exact⟨rfl,KE1 (a:=v1) rfl rfl (rfl:is _ v1) (rfl:is _ v1)⟩
theorem ZLt (mx:Int):ZAr Tryz.prog 64 (FnG (NG mx) (fun a:Str×Unit=>ZB2 a.1)):=fnCG (ZT6 mx) ⟨_,func64,rfl⟩<|fun a r h=>ZLs mx a.1 r h
noncomputable def pv1 (mx:Int):Prims:=(pv0 mx).addG 64 (FnG (NG mx) (fun a:Str×Unit=>ZB2 a.1))
theorem ZT7 (mx:Int):ZAV Tryz.prog (pv1 mx):=ZAi (ZT6 mx) (ZLt mx)
theorem ZLu (mx:Int) (l:(List Str)) (r:Bool) (h:ZBj l=some r):MF Tryz.prog (pv1 mx) 75 [enc l] (sG (NG mx)) fun v _=>ris v r:=by
 refine ZAe [(0,enc l)] func75 rfl (by simp only[Tryz.f75];rfl) fun ψ=> ?_
 unfold ZBj at h;have hs:Hp (sG (NG mx)) [.gl (NG mx)]:=Hp.gl0
 refine ZAB<|ZAC<|ZAG (v:=enc false) rfl<|ZAA<|ZAB<|ZAB<|ZAC<|ZAD rfl<|ZAp underlying34 rfl rfl (Enc.self l)<|ZAD (v:=enc (0:Int)) rfl<|ZAA<|ZAQ ?_
 obtain⟨o,hl,h⟩:=bs h;refine ZAm (fun(p:Int) φ s=>match p with | v=>Fx φ [(0,(enc (l:(List Str)))),(5,(enc (l:(List Str)))),(6,(enc ((l.length:Int):Int))),(7,(enc v))]∧Hp s [(.gl (NG mx))]) (fun(o:(Unit ⊕ Bool)) e φ s=>match o with | (.inl _)=>e= .exit 0∧Fx φ []∧Hp s [(.gl (NG mx))] | (.inr v1)=>e= .ret∧Fx φ [(2,(enc v1))]∧Hp s [(.gl (NG mx))]) ?_ hl ⟨FxR rfl,hs⟩ ?_
 ·rintro v o h φ s ⟨hF,hs⟩;rw[←hF.eq];rw[ZFc] at h;refine ZAB<|ZAC<|ZAL (v:=enc (decide (v<(l.length:Int)))) rfl rfl rfl<|ZAA<|ZAB ?_
  split at h
  ·rename_i c';refine ZAI rfl c'<|ZAM<|ZAB<|ZAQ<|ZAB<|ZAC<|ZAD rfl ?_
   obtain⟨v2,hx,h⟩:=bs h;refine ZAv underlying34 sh9 rfl rfl (Enc.self l) hx fun p hp=>ZCq rfl ag9 rfl hp fun y hy=> ?_
   cases hy;refine ZAG rfl<|ZAG rfl<|ZAA<|ZAB<|ZAC<|ZAD rfl ?_
   obtain⟨r_,hx1,h⟩:=bs h;refine ZA4 (f:=fun a:Str×Unit=>ZB2 a.1) (a:=(v2,())) rfl func64 rfl rfl (.cons (a:=v2) (Enc.self _) .nil) hs List.mem_cons_self hx1<|ZAL (v:=enc (r_ !=0)) rfl rfl rfl<|ZAD rfl ?_
   obtain⟨b,hb_b,h⟩:=bs h;refine ZAT 12 (fun φ s=>Hp s [(.gl (NG mx))]∧Fx φ [(0,(enc (l:(List Str)))),(5,(enc (l:(List Str)))),(6,(enc ((l.length:Int):Int))),(7,(enc v)),(27,(enc b))]) ?_ ?_
   ·split at hb_b
    ·rename_i cg;refine ZAE rfl rfl (by simpa using cg)<|ZAE rfl rfl (by simpa using cg)<|ZAE rfl rfl (by simpa using cg)<|ZAR rfl rfl<|ZAR rfl rfl<|ZAR rfl rfl<|ZAR rfl rfl<|ZAR rfl rfl<|ZAR rfl rfl<|ZAR rfl rfl<|ZAE rfl rfl (by simpa using cg)<|ZAY (v:=enc true) rfl cg rfl<|ZAA ?_
     rw[←oi hb_b];exact⟨hs,FxR rfl⟩
    rename_i cg1;refine ZAH rfl rfl (by simpa using cg1)<|ZAD rfl<|ZAH rfl rfl (by simpa using cg1)<|ZAL (v:=enc (decide (v > 0))) rfl rfl rfl<|ZAH rfl rfl (by simpa using cg1)<|ZAD rfl ?_
    obtain⟨b1,hb_b1,hb_b⟩:=bs hb_b;refine ZAT 8 (fun φ s=>Hp s [(.gl (NG mx))]∧Fx φ [(0,(enc (l:(List Str)))),(5,(enc (l:(List Str)))),(6,(enc ((l.length:Int):Int))),(7,(enc v)),(15,(enc (r_ !=0))),(26,(enc b1))]) ?_ ?_
    ·split at hb_b1
     ·rename_i cg2;refine ZAH rfl rfl cg2<|ZAD rfl<|ZAH rfl rfl cg2<|ZAD rfl<|ZAH rfl rfl cg2<|ZAD rfl<|ZAH rfl rfl cg2<|ZAL (v:=enc (IntKind.i64.wrap (v - 1))) rfl rfl rfl<|ZAH rfl rfl cg2 ?_
      obtain⟨v3,hx2,hb_b1⟩:=bs hb_b1;refine ZAv underlying34 sh9 rfl rfl (Enc.self l) hx2 fun p1 hp1=>ZAH rfl rfl cg2<|ZCq rfl ag9 rfl hp1 fun y1 hy1=> ?_
      cases hy1;refine ZAH rfl rfl cg2<|ZAL (v:=enc ((ltS v2 v3 || eqS v2 v3):Bool)) rfl rfl rfl<|ZAH rfl rfl (by simpa using cg1)<|ZAY rfl cg2 rfl<|ZAA ?_
      rw[←oi hb_b1];exact⟨hs,FxR rfl⟩
     rename_i cg3;refine ZAE rfl rfl cg3<|ZAE rfl rfl cg3<|ZAE rfl rfl cg3<|ZAE rfl rfl cg3<|ZAE rfl rfl cg3<|ZAE rfl rfl cg3<|ZAE rfl rfl cg3<|ZAH rfl rfl (by simpa using cg1)<|ZAX (v:=enc false) rfl cg3 rfl<|ZAA ?_
     rw[←oi hb_b1];exact⟨hs,FxR rfl⟩
    rintro φ s ⟨hs,hF⟩;rw[←hF.eq];refine ZAX rfl cg1 rfl<|ZAA ?_
    rw[←oi hb_b];exact⟨hs,FxR rfl⟩
   rintro φ s ⟨hs,hF⟩;rw[←hF.eq];refine ZAA ?_
   split at h
   ·rename_i c';refine ZAI rfl c'<|ZAB<|ZAC<|ZAG (v:=enc false) rfl<|ZAA<|ZAN ?_
    show if _ then _ else _
    rw[if_neg (by simp)]
    rw[←oi h];exact⟨_,rfl,rfl,⟨FxR rfl,hs⟩⟩
   rename_i c';refine ZAJ rfl c'<|ZAM<|ZAC<|ZAL (v:=enc (IntKind.i64.wrap (v+1))) rfl rfl rfl<|ZAD rfl<|ZAA ?_
   rw[←oi h];exact⟨_,rfl,⟨FxR rfl,hs⟩⟩
  rename_i c';refine ZAJ rfl c'<|ZAl ?_
  rw[←oi h];exact⟨_,rfl,rfl,⟨trivial,hs⟩⟩
 intro e φ s hE;rcases o with _u | v1
 ·obtain⟨rfl,hF,hs⟩:=hE;rw[←hF.eq];rw[ZFd] at h;show if _ then _ else _
  rw[if_pos rfl];refine ZAB<|ZAC<|ZAG (v:=enc true) rfl<|ZAA<|ZAN ?_
  rw[←oi h];exact⟨rfl,KE1 (a:=(true:Bool)) rfl rfl (rfl:is _ (true:Bool)) (rfl:is _ (true:Bool))⟩
 obtain⟨rfl,hF,hs⟩:=hE;rw[←hF.eq];rw[ZFd] at h;show if _ then _ else _
 rw[if_neg (by simp)]
 rw[←oi h];exact⟨rfl,KE1 (a:=v1) rfl rfl (rfl:is _ v1) (rfl:is _ v1)⟩
theorem ZLv (mx:Int):ZAr Tryz.prog 75 (FnG (NG mx) (fun a:(List Str)×Unit=>ZBj a.1)):=fnCG (ZT7 mx) ⟨_,func75,rfl⟩<|fun a r h=>ZLu mx a.1 r h
noncomputable def pv2 (mx:Int):Prims:=(pv1 mx).addG 75 (FnG (NG mx) (fun a:(List Str)×Unit=>ZBj a.1))
theorem ZT8 (mx:Int):ZAV Tryz.prog (pv2 mx):=ZAi (ZT7 mx) (ZLv mx)
theorem ZNP (mx:Int) (l:(List ZAd)) (r:Bool) (h:ZDd l=some r):MF Tryz.prog (pv2 mx) 97 [enc l] (sG (NG mx)) fun v _=>ris v r:=by
 refine ZAe [(0,enc l)] func97 rfl (by simp only[Tryz.f97];rfl) fun ψ=> ?_
 unfold ZDd at h;have hs:Hp (sG (NG mx)) [.gl (NG mx)]:=Hp.gl0
 refine ZAB<|ZAC<|ZAG (v:=enc false) rfl<|ZAA<|ZAB<|ZAC<|ZAG (v:= .nils) rfl<|ZAA<|ZAB<|ZAB<|ZAC<|ZAD rfl<|ZAp underlying36 rfl rfl (Enc.self l)<|ZAD (v:=enc (0:Int)) rfl<|ZAA ?_
 refine ZAQ ?_
 obtain⟨o,hl,h⟩:=bs h;refine ZAm (fun(p:((List Str)×Int)) φ s=>match p with | (names,v)=>∃(x_names:AV),is x_names names∧ZCB x_names=true∧Fx φ [(0,(enc (l:(List ZAd)))),(3,x_names),(6,(enc (l:(List ZAd)))),(7,(enc ((l.length:Int):Int))),(8,(enc v))]∧Hp s [(.gl (NG mx)), .own x_names]) (fun(o:((List Str) ⊕ Bool)) e φ s=>match o with | (.inl names1)=>e= .exit 0∧∃(x_names1:AV),is x_names1 names1∧ZCB x_names1=true∧Fx φ [(0,(enc (l:(List ZAd)))),(3,x_names1)]∧Hp s [(.gl (NG mx)), .own x_names1] | (.inr v1)=>e= .ret∧Fx φ [(2,(enc v1))]∧Hp s [(.gl (NG mx))]) ?_ hl ⟨.nils,isL.nil,rfl,FxR rfl,(Hp.front [.own .nils] (b:=[]) (Hp.front [] (b:=[(.gl (NG mx))]) (Hp.add hs rfl)))⟩ ?_
 ·rintro⟨names,v⟩ o h φ s ⟨x_names,h_names,h_namesc,hF,hs⟩;rw[←hF.eq];rw[ZGN] at h;refine ZAB<|ZAC<|ZAL (v:=enc (decide (v<(l.length:Int)))) rfl rfl rfl<|ZAA<|ZAB ?_
  split at h
  ·rename_i c';refine ZAI rfl c'<|ZAM<|ZAB<|ZAQ<|ZAB<|ZAC ?_
   obtain⟨v2,hx,h⟩:=bs h;refine ZAv underlying36 sh89 rfl rfl (Enc.self l) hx fun p hp=>ZBb ag89 sz89 rfl hp fun y hy=>ZAw (r:=(Rec.mk ((str []),([]:(List UInt8)),()):ZAd)) zr89 zf89 hs fun m s hs=>ZAZ (r:=v2) sz89 rfl rfl zf89 hy hs fun xs s hxs hs=>ZAA<|ZAB<|ZAC<|ZAD (v:=x_names) rfl<|ZAO ZMp rfl<|ZAK ag9 Sz rfl hxs hs fun y1 hy1=> ?_
   cases hy1;refine ZBs [(enc v2.v.1)] ([v2.v.1]:(List Str)) underlying34 ef9 rfl rfl rfl (Nat.le_of_ble_eq_true rfl) ⟨(rfl:is _ v2.v.1),trivial⟩ fun z hz hzc hzn=> ?_
   obtain⟨l1,hx1,h⟩:=bs h;refine ZEB [(.cells m xs),(.gl (NG mx))] (es2:=[]) underlying34 underlying34 rfl rfl ef9 rfl rfl h_names h_namesc hs hz hx1 fun z1 s hz1 hz1c hs=>ZAG (v:=z1) rfl<|ZAA<|ZAB<|ZAC<|ZAO ZMq rfl<|ZAK ag33 (Ss Sz) rfl hxs hs fun y2 hy2=>ZAp underlying33 rfl rfl hy2<|ZAL (v:=enc (decide ((v2.v.2.1.length:Int) > 256))) rfl rfl rfl<|ZAA ?_
   split at h
   ·rename_i c';refine ZAI rfl c'<|ZAB<|ZAC<|ZAG (v:=enc false) rfl<|ZAA<|ZAN ?_
    show if _ then _ else _
    rw[if_neg (by simp)]
    rw[←oi h];exact⟨_,rfl,rfl,⟨FxR rfl,(Hp.drop [(.gl (NG mx))] (b:=[]) (Hp.drop [] (b:=[(.gl (NG mx)), .own z1]) hs))⟩⟩
   rename_i c';refine ZAJ rfl c'<|ZAM<|ZAC<|ZAL (v:=enc (IntKind.i64.wrap (v+1))) rfl rfl rfl<|ZAD rfl<|ZAA ?_
   rw[←oi h];exact⟨_,rfl,⟨z1,hz1,hz1c,FxR rfl,(Hp.drop [] (b:=[(.gl (NG mx)), .own z1]) hs)⟩⟩
  rename_i c';refine ZAJ rfl c'<|ZAl ?_
  rw[←oi h];exact⟨_,rfl,rfl,⟨x_names,h_names,h_namesc,FxR rfl,hs⟩⟩
 intro e φ s hE;rcases o with names1 | v1
 ·obtain⟨rfl,x_names1,h_names1,h_names1c,hF,hs⟩:=hE;rw[←hF.eq];rw[ZGO] at h;show if _ then _ else _
  rw[if_pos rfl];refine ZAB<|ZAC<|ZAD rfl<|ZAp underlying36 rfl rfl (Enc.self l)<|ZAL (v:=enc (decide ((l.length:Int)≤8))) rfl rfl rfl<|ZAD rfl ?_
  obtain⟨b,hb_b,h⟩:=bs h;refine ZAT 3 (fun φ s=>Hp s [(.gl (NG mx)), .own x_names1]∧Fx φ [(28,(enc b))]) ?_ ?_
  ·split at hb_b
   ·rename_i cg;refine ZAH rfl rfl cg<|ZAD (v:=x_names1) rfl<|ZAH rfl rfl cg ?_
    obtain⟨r_,hx2,hb_b⟩:=bs hb_b;refine ZA4 (f:=fun a:(List Str)×Unit=>ZBj a.1) (a:=(names1,())) rfl func75 rfl rfl (.cons (a:=names1) h_names1 .nil) hs List.mem_cons_self hx2<|ZAY rfl cg rfl<|ZAA ?_
    rw[←oi hb_b];exact⟨hs,FxR rfl⟩
   rename_i cg1;refine ZAE rfl rfl cg1<|ZAE rfl rfl cg1<|ZAX (v:=enc false) rfl cg1 rfl<|ZAA ?_
   rw[←oi hb_b];exact⟨hs,FxR rfl⟩
  rintro φ s ⟨hs,hF⟩;rw[←hF.eq];refine ZAG rfl<|ZAA<|ZAN ?_
  rw[←oi h];exact⟨rfl,KE1 (a:=b) rfl rfl (rfl:is _ b) (rfl:is _ b)⟩
 obtain⟨rfl,hF,hs⟩:=hE;rw[←hF.eq];rw[ZGO] at h;show if _ then _ else _
 rw[if_neg (by simp)]
 rw[←oi h];exact⟨rfl,KE1 (a:=v1) rfl rfl (rfl:is _ v1) (rfl:is _ v1)⟩
theorem ZNQ (mx:Int):ZAr Tryz.prog 97 (FnG (NG mx) (fun a:(List ZAd)×Unit=>ZDd a.1)):=fnCG (ZT8 mx) ⟨_,func97,rfl⟩<|fun a r h=>ZNP mx a.1 r h
noncomputable def pv3 (mx:Int):Prims:=(pv2 mx).addG 97 (FnG (NG mx) (fun a:(List ZAd)×Unit=>ZDd a.1))
theorem ZT9 (mx:Int):ZAV Tryz.prog (pv3 mx):=ZAi (ZT8 mx) (ZNQ mx)
theorem ZLw (mx:Int) (m:ZBg) (r:Bool) (h:ZCO m=some r):MF Tryz.prog (pv3 mx) 96 [enc m] (sG (NG mx)) fun v _=>ris v r:=by
 refine ZAe [(0,enc m)] func96 rfl (by simp only[Tryz.f96];rfl) fun ψ=> ?_
 unfold ZCO at h;have hs:Hp (sG (NG mx)) [.gl (NG mx)]:=Hp.gl0
 refine ZAB<|ZAC<|ZA1 (r:=m) rfl (Enc.self m) hs fun m1 xs s hxs hs=>ZAG (v:=enc false) rfl<|ZAA<|ZAB<|ZAB<|ZAC<|ZAO ZIg rfl<|ZAK ag25 Sz rfl hxs hs fun y hy=> ?_
 cases hy;refine ZAL (v:=enc (m.v.1 !=3)) rfl rfl rfl<|ZAA ?_
 split at h
 ·rename_i c';refine ZAI rfl c'<|ZAB<|ZAC<|ZAO ZIi rfl<|ZAK ag9 (Ss (Ss (Ss (Ss Sz)))) rfl hxs hs fun y1 hy1=> ?_
  cases hy1;refine ZAL (v:=enc ((eqS m.v.2.2.2.2.1 (str [])):Bool)) rfl rfl rfl<|ZAG rfl<|ZAA<|ZAN ?_
  rw[←oi h];exact⟨rfl,KE1 (a:=((eqS m.v.2.2.2.2.1 (str [])):Bool)) rfl rfl (rfl:is _ ((eqS m.v.2.2.2.2.1 (str [])):Bool)) (rfl:is _ ((eqS m.v.2.2.2.2.1 (str [])):Bool))⟩
 rename_i c';refine ZAJ rfl c'<|ZAM<|ZAB<|ZAC<|ZAO ZIi rfl<|ZAK ag9 (Ss (Ss (Ss (Ss Sz)))) rfl hxs hs fun y2 hy2=> ?_
 cases hy2;refine ZAL (v:=enc (!eqS m.v.2.2.2.2.1 (str []))) rfl rfl rfl<|ZAD rfl ?_
 obtain⟨b,hb_b,h⟩:=bs h;refine ZAT 5 (fun φ s=>Hp s [(.cells m1 xs),(.gl (NG mx))]∧Fx φ [(1,(.ptr m1 0)),(17,(enc b))]) ?_ ?_
 ·split at hb_b
  ·rename_i cg;refine ZAH rfl rfl cg<|ZAO ZIi rfl<|ZAH rfl rfl cg<|ZAK ag9 (Ss (Ss (Ss (Ss Sz)))) rfl hxs hs fun y3 hy3=> ?_
   cases hy3;refine ZAH rfl rfl cg<|ZHe underlying9 rfl rfl<|ZAH rfl rfl cg<|ZAL (v:=enc (decide (((List.length m.v.2.2.2.2.1:Nat):Int)≤1000))) rfl rfl rfl<|ZAY rfl cg rfl<|ZAA ?_
   rw[←oi hb_b];exact⟨hs,FxR rfl⟩
  rename_i cg1;refine ZAE rfl rfl cg1<|ZAE rfl rfl cg1<|ZAE rfl rfl cg1<|ZAE rfl rfl cg1<|ZAX (v:=enc false) rfl cg1 rfl<|ZAA ?_
  rw[←oi hb_b];exact⟨hs,FxR rfl⟩
 rintro φ s ⟨hs,hF⟩;rw[←hF.eq];refine ZAD rfl ?_
 obtain⟨b1,hb_b1,h⟩:=bs h;refine ZAT 5 (fun φ s=>Hp s [(.cells m1 xs),(.gl (NG mx))]∧Fx φ [(1,(.ptr m1 0)),(23,(enc b1))]) ?_ ?_
 ·split at hb_b1
  ·rename_i cg2;refine ZAH rfl rfl cg2<|ZAO ZIi rfl<|ZAH rfl rfl cg2<|ZAK ag9 (Ss (Ss (Ss (Ss Sz)))) rfl hxs hs fun y4 hy4=> ?_
   cases hy4;refine ZAH rfl rfl cg2 ?_
   obtain⟨r_,hx,hb_b1⟩:=bs hb_b1;refine ZAj (f:=fun a:Str×Str×Unit=>ZBo a.1 a.2.1) (a:=(m.v.2.2.2.2.1,(str [0]),())) rfl func114 rfl rfl (.cons (a:=m.v.2.2.2.2.1) (Enc.self _) (.cons (a:=((str [0]):Str)) (Enc.self _) .nil)) hx<|ZAH rfl rfl cg2<|ZBS (v:=enc (!r_)) rfl rfl<|ZAY rfl cg2 rfl<|ZAA ?_
   rw[←oi hb_b1];exact⟨hs,FxR rfl⟩
  rename_i cg3;refine ZAE rfl rfl cg3<|ZAE rfl rfl cg3<|ZAE rfl rfl cg3<|ZAE rfl rfl cg3<|ZAX (v:=enc false) rfl cg3 rfl<|ZAA ?_
  rw[←oi hb_b1];exact⟨hs,FxR rfl⟩
 rintro φ s ⟨hs,hF⟩;rw[←hF.eq];refine ZAD rfl ?_
 obtain⟨b2,hb_b2,h⟩:=bs h;refine ZAT 4 (fun φ s=>Hp s [(.cells m1 xs),(.gl (NG mx))]∧Fx φ [(28,(enc b2))]) ?_ ?_
 ·split at hb_b2
  ·rename_i cg4;refine ZAH rfl rfl cg4<|ZAO ZIh rfl<|ZAH rfl rfl cg4<|ZAK ag3 (Ss (Ss (Ss Sz))) rfl hxs hs fun y5 hy5=> ?_
   cases hy5;refine ZAH rfl rfl cg4<|ZAL (v:=enc (m.v.2.2.2.1==0)) rfl rfl rfl<|ZAY rfl cg4 rfl<|ZAA ?_
   rw[←oi hb_b2];exact⟨hs,FxR rfl⟩
  rename_i cg5;refine ZAE rfl rfl cg5<|ZAE rfl rfl cg5<|ZAE rfl rfl cg5<|ZAX (v:=enc false) rfl cg5 rfl<|ZAA ?_
  rw[←oi hb_b2];exact⟨hs,FxR rfl⟩
 rintro φ s ⟨hs,hF⟩;rw[←hF.eq];refine ZAG rfl<|ZAA<|ZAN ?_
 rw[←oi h];exact⟨rfl,KE1 (a:=b2) rfl rfl (rfl:is _ b2) (rfl:is _ b2)⟩
theorem ZLx (mx:Int):ZAr Tryz.prog 96 (FnG (NG mx) (fun a:ZBg×Unit=>ZCO a.1)):=fnCG (ZT9 mx) ⟨_,func96,rfl⟩<|fun a r h=>ZLw mx a.1 r h
noncomputable def pv4 (mx:Int):Prims:=(pv3 mx).addG 96 (FnG (NG mx) (fun a:ZBg×Unit=>ZCO a.1))
theorem ZUA (mx:Int):ZAV Tryz.prog (pv4 mx):=ZAi (ZT9 mx) (ZLx mx)
theorem ZOc (mx:Int) (m:ZBg) (r:Bool) (h:ZEe m=some r):MF Tryz.prog (pv4 mx) 72 [enc m] (sG (NG mx)) fun v _=>ris v r:=by
 refine ZAe [(0,enc m)] func72 rfl (by simp only[Tryz.f72];rfl) fun ψ=> ?_
 unfold ZEe at h;have hs:Hp (sG (NG mx)) [.gl (NG mx)]:=Hp.gl0
 refine ZAB<|ZAC<|ZA1 (r:=m) rfl (Enc.self m) hs fun m1 xs s hxs hs=>ZAG (v:=enc false) rfl<|ZAA<|ZAB<|ZAC<|ZAO ZPA rfl<|ZAK ag3 (Ss Sz) rfl hxs hs fun y hy=> ?_
 cases hy;refine ZAL (v:=enc (decide (m.v.2.1≥0))) rfl rfl rfl<|ZAD rfl ?_
 obtain⟨b,hb_b,h⟩:=bs h;refine ZAT 4 (fun φ s=>Hp s [(.cells m1 xs),(.gl (NG mx))]∧Fx φ [(1,(.ptr m1 0)),(14,(enc b))]) ?_ ?_
 ·split at hb_b
  ·rename_i cg;refine ZAH rfl rfl cg<|ZAO ZPA rfl<|ZAH rfl rfl cg<|ZAK ag3 (Ss Sz) rfl hxs hs fun y1 hy1=> ?_
   cases hy1;refine ZAH rfl rfl cg<|ZAL (v:=enc (decide (m.v.2.1≤4095))) rfl rfl rfl<|ZAY rfl cg rfl<|ZAA ?_
   rw[←oi hb_b];exact⟨hs,FxR rfl⟩
  rename_i cg1;refine ZAE rfl rfl cg1<|ZAE rfl rfl cg1<|ZAE rfl rfl cg1<|ZAX (v:=enc false) rfl cg1 rfl<|ZAA ?_
  rw[←oi hb_b];exact⟨hs,FxR rfl⟩
 rintro φ s ⟨hs,hF⟩;rw[←hF.eq];refine ZAD rfl ?_
 obtain⟨b1,hb_b1,h⟩:=bs h;refine ZAT 4 (fun φ s=>Hp s [(.cells m1 xs),(.gl (NG mx))]∧Fx φ [(1,(.ptr m1 0)),(19,(enc b1))]) ?_ ?_
 ·split at hb_b1
  ·rename_i cg2;refine ZAH rfl rfl cg2<|ZAO ZPB rfl<|ZAH rfl rfl cg2<|ZAK ag3 (Ss (Ss Sz)) rfl hxs hs fun y2 hy2=> ?_
   cases hy2;refine ZAH rfl rfl cg2<|ZAL (v:=enc (decide (m.v.2.2.1≥0))) rfl rfl rfl<|ZAY rfl cg2 rfl<|ZAA ?_
   rw[←oi hb_b1];exact⟨hs,FxR rfl⟩
  rename_i cg3;refine ZAE rfl rfl cg3<|ZAE rfl rfl cg3<|ZAE rfl rfl cg3<|ZAX (v:=enc false) rfl cg3 rfl<|ZAA ?_
  rw[←oi hb_b1];exact⟨hs,FxR rfl⟩
 rintro φ s ⟨hs,hF⟩;rw[←hF.eq];refine ZAD rfl ?_
 obtain⟨b2,hb_b2,h⟩:=bs h;refine ZAT 4 (fun φ s=>Hp s [(.cells m1 xs),(.gl (NG mx))]∧Fx φ [(1,(.ptr m1 0)),(24,(enc b2))]) ?_ ?_
 ·split at hb_b2
  ·rename_i cg4;refine ZAH rfl rfl cg4<|ZAO ZPB rfl<|ZAH rfl rfl cg4<|ZAK ag3 (Ss (Ss Sz)) rfl hxs hs fun y3 hy3=> ?_
   cases hy3;refine ZAH rfl rfl cg4<|ZAL (v:=enc (decide (m.v.2.2.1≤64))) rfl rfl rfl<|ZAY rfl cg4 rfl<|ZAA ?_
   rw[←oi hb_b2];exact⟨hs,FxR rfl⟩
  rename_i cg5;refine ZAE rfl rfl cg5<|ZAE rfl rfl cg5<|ZAE rfl rfl cg5<|ZAX (v:=enc false) rfl cg5 rfl<|ZAA ?_
  rw[←oi hb_b2];exact⟨hs,FxR rfl⟩
 rintro φ s ⟨hs,hF⟩;rw[←hF.eq];refine ZAD rfl ?_
 obtain⟨b3,hb_b3,h⟩:=bs h;refine ZAT 4 (fun φ s=>Hp s [(.cells m1 xs),(.gl (NG mx))]∧Fx φ [(1,(.ptr m1 0)),(29,(enc b3))]) ?_ ?_
 ·split at hb_b3
  ·rename_i cg6;refine ZAH rfl rfl cg6<|ZAO ZIh rfl<|ZAH rfl rfl cg6<|ZAK ag3 (Ss (Ss (Ss Sz))) rfl hxs hs fun y4 hy4=> ?_
   cases hy4;refine ZAH rfl rfl cg6<|ZAL (v:=enc (decide (m.v.2.2.2.1≥0))) rfl rfl rfl<|ZAY rfl cg6 rfl<|ZAA ?_
   rw[←oi hb_b3];exact⟨hs,FxR rfl⟩
  rename_i cg7;refine ZAE rfl rfl cg7<|ZAE rfl rfl cg7<|ZAE rfl rfl cg7<|ZAX (v:=enc false) rfl cg7 rfl<|ZAA ?_
  rw[←oi hb_b3];exact⟨hs,FxR rfl⟩
 rintro φ s ⟨hs,hF⟩;rw[←hF.eq];refine ZAD rfl ?_
 obtain⟨b4,hb_b4,h⟩:=bs h;refine ZAT 4 (fun φ s=>Hp s [(.cells m1 xs),(.gl (NG mx))]∧Fx φ [(1,(.ptr m1 0)),(34,(enc b4))]) ?_ ?_
 ·split at hb_b4
  ·rename_i cg8;refine ZAH rfl rfl cg8<|ZAO ZIh rfl<|ZAH rfl rfl cg8<|ZAK ag3 (Ss (Ss (Ss Sz))) rfl hxs hs fun y5 hy5=> ?_
   cases hy5;refine ZAH rfl rfl cg8<|ZAL (v:=enc (decide (m.v.2.2.2.1≤32768))) rfl rfl rfl<|ZAY rfl cg8 rfl<|ZAA ?_
   rw[←oi hb_b4];exact⟨hs,FxR rfl⟩
  rename_i cg9;refine ZAE rfl rfl cg9<|ZAE rfl rfl cg9<|ZAE rfl rfl cg9<|ZAX (v:=enc false) rfl cg9 rfl<|ZAA ?_
  rw[←oi hb_b4];exact⟨hs,FxR rfl⟩
 rintro φ s ⟨hs,hF⟩;rw[←hF.eq];refine ZAD rfl ?_
 obtain⟨b5,hb_b5,h⟩:=bs h;refine ZAT 5 (fun φ s=>Hp s [(.cells m1 xs),(.gl (NG mx))]∧Fx φ [(1,(.ptr m1 0)),(40,(enc b5))]) ?_ ?_
 ·split at hb_b5
  ·rename_i cg10;refine ZAH rfl rfl cg10<|ZAO ZMr rfl<|ZAH rfl rfl cg10<|ZAK ag94 (Ss (Ss (Ss (Ss (Ss (Ss Sz)))))) rfl hxs hs fun y6 hy6=>ZAH rfl rfl cg10<|ZAp underlying94 rfl rfl hy6<|ZAH rfl rfl cg10<|ZAL (v:=enc (decide ((m.v.2.2.2.2.2.2.1.length:Int)≤128))) rfl rfl rfl<|ZAY rfl cg10 rfl<|ZAA ?_
   rw[←oi hb_b5];exact⟨hs,FxR rfl⟩
  rename_i cg11;refine ZAE rfl rfl cg11<|ZAE rfl rfl cg11<|ZAE rfl rfl cg11<|ZAE rfl rfl cg11<|ZAX (v:=enc false) rfl cg11 rfl<|ZAA ?_
  rw[←oi hb_b5];exact⟨hs,FxR rfl⟩
 rintro φ s ⟨hs,hF⟩;rw[←hF.eq];refine ZAG rfl<|ZAA<|ZAB<|ZAB<|ZAC<|ZAO ZIg rfl<|ZAK ag25 Sz rfl hxs hs fun y7 hy7=> ?_
 cases hy7;refine ZAL (v:=enc (decide (m.v.1<1))) rfl rfl rfl<|ZAD rfl ?_
 obtain⟨b6,hb_b6,h⟩:=bs h;refine ZAT 4 (fun φ s=>Hp s [(.cells m1 xs),(.gl (NG mx))]∧Fx φ [(1,(.ptr m1 0)),(3,(enc b5)),(48,(enc b6))]) ?_ ?_
 ·split at hb_b6
  ·rename_i cg12;refine ZAE rfl rfl (by simpa using cg12)<|ZAE rfl rfl (by simpa using cg12)<|ZAE rfl rfl (by simpa using cg12)<|ZAY (v:=enc true) rfl cg12 rfl<|ZAA ?_
   rw[←oi hb_b6];exact⟨hs,FxR rfl⟩
  rename_i cg13;refine ZAH rfl rfl (by simpa using cg13)<|ZAO ZIg rfl<|ZAH rfl rfl (by simpa using cg13)<|ZAK ag25 Sz rfl hxs hs fun y8 hy8=> ?_
  cases hy8;refine ZAH rfl rfl (by simpa using cg13)<|ZAL (v:=enc (decide (m.v.1 > 3))) rfl rfl rfl<|ZAX rfl cg13 rfl<|ZAA ?_
  rw[←oi hb_b6];exact⟨hs,FxR rfl⟩
 rintro φ s ⟨hs,hF⟩;rw[←hF.eq];refine ZAD rfl ?_
 obtain⟨b7,hb_b7,h⟩:=bs h;refine ZAT 3 (fun φ s=>Hp s [(.cells m1 xs),(.gl (NG mx))]∧Fx φ [(1,(.ptr m1 0)),(52,(enc b7))]) ?_ ?_
 ·split at hb_b7
  ·rename_i cg14;refine ZAE rfl rfl (by simpa using cg14)<|ZAE rfl rfl (by simpa using cg14)<|ZAY (v:=enc true) rfl cg14 rfl<|ZAA ?_
   rw[←oi hb_b7];exact⟨hs,FxR rfl⟩
  rename_i cg15;refine ZAH rfl rfl (by simpa using cg15)<|ZAD rfl<|ZAH rfl rfl (by simpa using cg15)<|ZBS (v:=enc (!b5)) rfl rfl<|ZAX rfl cg15 rfl<|ZAA ?_
  rw[←oi hb_b7];exact⟨hs,FxR rfl⟩
 rintro φ s ⟨hs,hF⟩;rw[←hF.eq];refine ZAD rfl ?_
 obtain⟨b8,hb_b8,h⟩:=bs h;refine ZAT 4 (fun φ s=>Hp s [(.cells m1 xs),(.gl (NG mx))]∧Fx φ [(1,(.ptr m1 0)),(57,(enc b8))]) ?_ ?_
 ·split at hb_b8
  ·rename_i cg16;refine ZAE rfl rfl (by simpa using cg16)<|ZAE rfl rfl (by simpa using cg16)<|ZAE rfl rfl (by simpa using cg16)<|ZAY (v:=enc true) rfl cg16 rfl<|ZAA ?_
   rw[←oi hb_b8];exact⟨hs,FxR rfl⟩
  rename_i cg17;refine ZAH rfl rfl (by simpa using cg17)<|ZAU (r:=m) ag96 sz96 rfl hxs hs fun y9 hy9=>ZAH rfl rfl (by simpa using cg17) ?_
  obtain⟨r_,hx,hb_b8⟩:=bs hb_b8;refine ZA4 (f:=fun a:ZBg×Unit=>ZCO a.1) (a:=(m,())) rfl func96 rfl rfl (.cons (a:=(m:ZBg)) hy9 .nil) hs (lM _ List.mem_cons_self) hx<|ZAH rfl rfl (by simpa using cg17)<|ZBS (v:=enc (!r_)) rfl rfl<|ZAX rfl cg17 rfl<|ZAA ?_
  rw[←oi hb_b8];exact⟨hs,FxR rfl⟩
 rintro φ s ⟨hs,hF⟩;rw[←hF.eq];refine ZAD rfl ?_
 obtain⟨b9,hb_b9,h⟩:=bs h;refine ZAT 5 (fun φ s=>Hp s [(.cells m1 xs),(.gl (NG mx))]∧Fx φ [(1,(.ptr m1 0)),(63,(enc b9))]) ?_ ?_
 ·split at hb_b9
  ·rename_i cg18;refine ZAE rfl rfl (by simpa using cg18)<|ZAE rfl rfl (by simpa using cg18)<|ZAE rfl rfl (by simpa using cg18)<|ZAE rfl rfl (by simpa using cg18)<|ZAY (v:=enc true) rfl cg18 rfl<|ZAA ?_
   rw[←oi hb_b9];exact⟨hs,FxR rfl⟩
  rename_i cg19;refine ZAH rfl rfl (by simpa using cg19)<|ZAO ZJZ rfl<|ZAH rfl rfl (by simpa using cg19)<|ZAK ag36 (Ss (Ss (Ss (Ss (Ss Sz))))) rfl hxs hs fun y10 hy10=>ZAH rfl rfl (by simpa using cg19) ?_
  obtain⟨r_1,hx1,hb_b9⟩:=bs hb_b9;refine ZA4 (f:=fun a:(List ZAd)×Unit=>ZDd a.1) (a:=(m.v.2.2.2.2.2.1,())) rfl func97 rfl rfl (.cons (a:=m.v.2.2.2.2.2.1) hy10 .nil) hs (lM _ List.mem_cons_self) hx1<|ZAH rfl rfl (by simpa using cg19)<|ZBS (v:=enc (!r_1)) rfl rfl<|ZAX rfl cg19 rfl<|ZAA ?_
  rw[←oi hb_b9];exact⟨hs,FxR rfl⟩
 rintro φ s ⟨hs,hF⟩;rw[←hF.eq];refine ZAA ?_
 split at h
 ·rename_i c';refine ZAI rfl c'<|ZAB<|ZAC<|ZAG (v:=enc false) rfl<|ZAA<|ZAN ?_
  rw[←oi h];exact⟨rfl,KE1 (a:=(false:Bool)) rfl rfl (rfl:is _ (false:Bool)) (rfl:is _ (false:Bool))⟩
 rename_i c';refine ZAJ rfl c'<|ZAM<|ZAB<|ZAC<|ZAG (v:=enc (0:Int)) rfl<|ZAA<|ZAB<|ZAB<|ZAC<|ZAO ZMr rfl<|ZAK ag94 (Ss (Ss (Ss (Ss (Ss (Ss Sz)))))) rfl hxs hs fun y11 hy11=>ZAp underlying94 rfl rfl hy11<|ZAD (v:=enc (0:Int)) rfl<|ZAA<|ZAQ ?_
 obtain⟨o,hl,h⟩:=bs h;refine ZAm (fun(p:(Int×Int)) φ s=>match p with | (n,v)=>Fx φ [(1,(.ptr m1 0)),(4,(enc n)),(65,y11),(66,(enc ((m.v.2.2.2.2.2.2.1.length:Int):Int))),(67,(enc v))]∧Hp s [(.cells m1 xs),(.gl (NG mx))]) (fun(o:(Int ⊕ Bool)) e φ s=>match o with | (.inl n1)=>e= .exit 0∧Fx φ [(1,(.ptr m1 0)),(4,(enc n1))]∧Hp s [(.cells m1 xs),(.gl (NG mx))] | (.inr v1)=>e= .ret∧Fx φ [(2,(enc v1))]∧Hp s [(.gl (NG mx))]) ?_ hl ⟨FxR rfl,hs⟩ ?_
 ·rintro⟨n,v⟩ o h φ s ⟨hF,hs⟩;rw[←hF.eq];rw[ZFe] at h;refine ZAB<|ZAC<|ZAL (v:=enc (decide (v<(m.v.2.2.2.2.2.2.1.length:Int)))) rfl rfl rfl<|ZAA<|ZAB ?_
  split at h
  ·rename_i c';refine ZAI rfl c'<|ZAM<|ZAB<|ZAQ<|ZAB<|ZAC ?_
   obtain⟨v2,hx2,h⟩:=bs h;refine ZAv underlying94 ZUk rfl rfl hy11 hx2 fun p hp=>ZBb ZS1 ZN8 rfl hp fun y12 hy12=>ZAw (r:=(Rec.mk ((str []),(0:Int),(0:Int),(0:Int),()):RefR)) ZUm ZPq hs fun m2 s hs=>ZAZ (r:=v2) ZN8 rfl rfl ZPq hy12 hs fun xs1 s hxs1 hs=>ZAA<|ZAB<|ZAB<|ZAC<|ZAU (r:=v2) ZS1 ZN8 rfl hxs1 hs fun y13 hy13=> ?_
   cases h
  rename_i c';refine ZAJ rfl c'<|ZAl ?_
  rw[←oi h];exact⟨_,rfl,rfl,⟨FxR rfl,hs⟩⟩
 intro e φ s hE;rcases o with n1 | v1
 ·obtain⟨rfl,hF,hs⟩:=hE;rw[←hF.eq];rw[ZEK] at h;show if _ then _ else _
  rw[if_pos rfl];refine ZAB<|ZAC<|ZAD rfl<|ZAO ZIh rfl<|ZAK ag3 (Ss (Ss (Ss Sz))) rfl hxs hs fun y14 hy14=> ?_
  cases hy14;refine ZAL (v:=enc (n1==m.v.2.2.2.1)) rfl rfl rfl<|ZAG rfl<|ZAA<|ZAN ?_
  rw[←oi h];exact⟨rfl,KE1 (a:=((n1==m.v.2.2.2.1):Bool)) rfl rfl (rfl:is _ ((n1==m.v.2.2.2.1):Bool)) (rfl:is _ ((n1==m.v.2.2.2.1):Bool))⟩
 obtain⟨rfl,hF,hs⟩:=hE;rw[←hF.eq];rw[ZEK] at h;show if _ then _ else _
 rw[if_neg (by simp)]
 rw[←oi h];exact⟨rfl,KE1 (a:=v1) rfl rfl (rfl:is _ v1) (rfl:is _ v1)⟩
theorem ZOd (mx:Int):ZAr Tryz.prog 72 (FnG (NG mx) (fun a:ZBg×Unit=>ZEe a.1)):=fnCG (ZUA mx) ⟨_,func72,rfl⟩<|fun a r h=>ZOc mx a.1 r h
noncomputable def pv5 (mx:Int):Prims:=(pv4 mx).addG 72 (FnG (NG mx) (fun a:ZBg×Unit=>ZEe a.1))
theorem ZUB (mx:Int):ZAV Tryz.prog (pv5 mx):=ZAi (ZUA mx) (ZOd mx)
theorem ZKN (mx:Int) (m:ZBg) (r:(List UInt8)×Int) (h:ZCE m=some r):MF Tryz.prog (pv5 mx) 54 [enc m] (sG (NG mx)) fun v _=>ris v r:=by
 refine ZAe [(0,enc m)] func54 rfl (by simp only[Tryz.f54];rfl) fun ψ=> ?_
 unfold ZCE at h;have hs:Hp (sG (NG mx)) [.gl (NG mx)]:=Hp.gl0
 refine ZAB<|ZAC<|ZA1 (r:=m) rfl (Enc.self m) hs fun m1 xs s hxs hs=>ZAG (v:= .nils) rfl<|ZAG (v:=enc (0:Int)) rfl<|ZAA<|ZAB<|ZAB<|ZAC<|ZAU (r:=m) ag96 sz96 rfl hxs hs fun y hy=> ?_
 obtain⟨r_,hx,h⟩:=bs h;refine ZA4 (f:=fun a:ZBg×Unit=>ZEe a.1) (a:=(m,())) rfl func72 rfl rfl (.cons (a:=(m:ZBg)) hy .nil) hs (lM _ List.mem_cons_self) hx<|ZBS (v:=enc (!r_)) rfl rfl<|ZAA ?_
 split at h
 ·rename_i c';refine ZAI rfl c'<|ZAB<|ZAC<|ZAG (v:= .nils) rfl<|ZAG (v:=enc (80:Int)) rfl<|ZAA<|ZAN ?_
  rw[←oi h];exact⟨rfl,KE2 (a1:=([]:(List UInt8))) (a2:=(80:Int)) rfl rfl rfl isL.nil (rfl:is _ (80:Int)) ⟨_,_,rfl,isL.nil,(rfl:is _ (80:Int))⟩⟩
 rename_i c';refine ZAJ rfl c'<|ZAM<|ZAB<|ZAC<|ZAO ZIg rfl<|ZAK ag25 Sz rfl hxs hs fun y1 hy1=> ?_
 cases hy1;refine ZE7 (t:=3) (a:=m.v.1) (by kernel_rfl) rfl (rfl:is _ m.v.1) fun z hz=>ZAO ZPA rfl<|ZAK ag3 (Ss Sz) rfl hxs hs fun y2 hy2=> ?_
 cases hy2;refine ZE7 (t:=3) (a:=m.v.2.1) (by kernel_rfl) rfl (rfl:is _ m.v.2.1) fun z1 hz1=>ZAO ZPB rfl<|ZAK ag3 (Ss (Ss Sz)) rfl hxs hs fun y3 hy3=> ?_
 cases hy3;refine ZE7 (t:=3) (a:=m.v.2.2.1) (by kernel_rfl) rfl (rfl:is _ m.v.2.2.1) fun z2 hz2=>ZAO ZIh rfl<|ZAK ag3 (Ss (Ss (Ss Sz))) rfl hxs hs fun y4 hy4=> ?_
 cases hy4;refine ZE7 (t:=3) (a:=m.v.2.2.2.1) (by kernel_rfl) rfl (rfl:is _ m.v.2.2.2.1) fun z3 hz3=>ZAO ZIi rfl<|ZAK ag9 (Ss (Ss (Ss (Ss Sz)))) rfl hxs hs fun y5 hy5=> ?_
 cases hy5;refine ZE7 (t:=9) (a:=m.v.2.2.2.2.1) (by kernel_rfl) rfl (rfl:is _ m.v.2.2.2.2.1) fun z4 hz4=>ZAO ZJZ rfl<|ZAK ag36 (Ss (Ss (Ss (Ss (Ss Sz))))) rfl hxs hs fun y6 hy6=>ZAp underlying36 rfl rfl hy6<|ZE7 (t:=3) (a:=((m.v.2.2.2.2.2.1.length:Int):Int)) (by kernel_rfl) rfl (rfl:is _ ((m.v.2.2.2.2.2.1.length:Int):Int)) fun z5 hz5=>ZBs [z,z1,z2,z3,z4,z5] ([(ZAz 3 (m.v.1:Int)),(ZAz 3 (m.v.2.1:Int)),(ZAz 3 (m.v.2.2.1:Int)),(ZAz 3 (m.v.2.2.2.1:Int)),(ZAz 9 (m.v.2.2.2.2.1:Str)),(ZAz 3 ((m.v.2.2.2.2.2.1.length:Int):Int))]:(List AnyV)) underlying152 ef20 rfl rfl rfl (Nat.le_of_ble_eq_true rfl) ⟨hz,hz1,hz2,hz3,hz4,hz5,trivial⟩ fun z6 hz6 hz6c hz6n=> ?_
 replace hs:=Hp.add (x:= .nils) hs rfl;obtain⟨r_1,hx1,h⟩:=bs h;refine ZAt (by kernel_rfl) func73 rfl (vs:=[.nils,z6]) rfl (MF.any (ZCk [] [(ZAz 3 (m.v.1:Int)),(ZAz 3 (m.v.2.1:Int)),(ZAz 3 (m.v.2.2.1:Int)),(ZAz 3 (m.v.2.2.2.1:Int)),(ZAz 9 (m.v.2.2.2.2.1:Str)),(ZAz 3 ((m.v.2.2.2.2.2.1.length:Int):Int))] _ hx1 (.inr ⟨rfl,isL.nil,rfl,rfl,rfl⟩) hz6 (Hp.packG [(.own .nils)] [(.cells m1 xs),(.gl (NG mx))] hs)) ZEr) fun w s ⟨en,hm,hq_⟩=> ?_
 replace hs:=Hp.unpackG [(.own .nils)] [en] [(.cells m1 xs),(.gl (NG mx))] hs hq_;refine ZAG (v:=w) rfl<|ZAA<|ZAB<|ZAB<|ZAC<|ZAO ZJZ rfl ?_
 replace hs:=Hp.front [en] (b:=[(.gl (NG mx))]) hs;refine ZAK ag36 (Ss (Ss (Ss (Ss (Ss Sz))))) rfl hxs hs fun y7 hy7=>ZAp underlying36 rfl rfl hy7<|ZAD (v:=enc (0:Int)) rfl<|ZAA<|ZAQ ?_
 obtain⟨b1,hl,h⟩:=bs h;refine ZAm (fun(p:((List UInt8)×Int)) φ s=>match p with | (b,v)=>∃(x_b:AV) (en1:En),isM x_b en1 b∧Fx φ [(1,(.ptr m1 0)),(4,x_b),(34,y7),(35,(enc ((m.v.2.2.2.2.2.1.length:Int):Int))),(36,(enc v))]∧Hp s [(.cells m1 xs),(.gl (NG mx)),en1]) (fun(o:(List UInt8)) e φ s=>match o with | b1=>e= .exit 0∧∃(x_b1:AV) (en2:En),isM x_b1 en2 b1∧Fx φ [(1,(.ptr m1 0)),(4,x_b1)]∧Hp s [(.cells m1 xs),(.gl (NG mx)),en2]) ?_ hl ⟨w,en,hm,FxR rfl,(Hp.front [(.gl (NG mx)),en] (b:=[]) (Hp.front [en,(.cells m1 xs)] (b:=[]) (Hp.front [(.cells m1 xs)] (b:=[(.gl (NG mx))]) hs)))⟩ ?_
 ·rintro⟨b,v⟩ o h φ s ⟨x_b,en1,hm_x_b,hF,hs⟩;rw[←hF.eq];rw[ZEt] at h;refine ZAB<|ZAC<|ZAL (v:=enc (decide (v<(m.v.2.2.2.2.2.1.length:Int)))) rfl rfl rfl<|ZAA<|ZAB ?_
  split at h
  ·rename_i c';refine ZAI rfl c'<|ZAM<|ZAB<|ZAQ<|ZAB<|ZAC ?_
   obtain⟨v1,hx2,h⟩:=bs h;refine ZAv underlying36 sh89 rfl rfl hy7 hx2 fun p hp=>ZBb ag89 sz89 rfl hp fun y8 hy8=>ZAw (r:=(Rec.mk ((str []),([]:(List UInt8)),()):ZAd)) zr89 zf89 hs fun m2 s hs=>ZAZ (r:=v1) sz89 rfl rfl zf89 hy8 hs fun xs1 s hxs1 hs=>ZAA<|ZAC<|ZAD (v:=x_b) rfl<|ZAO ZMp rfl<|ZAK ag9 Sz rfl hxs1 hs fun y9 hy9=> ?_
   cases hy9;refine ZE7 (t:=9) (a:=v1.v.1) (by kernel_rfl) rfl (rfl:is _ v1.v.1) fun z7 hz7=>ZAO ZMq rfl<|ZAK ag33 (Ss Sz) rfl hxs1 hs fun y10 hy10=>ZE7 (t:=33) (a:=v1.v.2.1) (by kernel_rfl) rfl hy10 fun z8 hz8=>ZBs [z7,z8] ([(ZAz 9 (v1.v.1:Str)),(ZAz 33 (v1.v.2.1:(List UInt8)))]:(List AnyV)) underlying152 ef20 rfl rfl rfl (Nat.le_of_ble_eq_true rfl) ⟨hz7,hz8,trivial⟩ fun z9 hz9 hz9c hz9n=> ?_
   replace hs:=Hp.front [(.cells m2 xs1),(.cells m1 xs),(.gl (NG mx))] (b:=[]) hs;obtain⟨r_2,hx3,h⟩:=bs h;refine ZAt (by kernel_rfl) func73 rfl (vs:=[x_b,z9]) rfl (MF.any (ZCk b [(ZAz 9 (v1.v.1:Str)),(ZAz 33 (v1.v.2.1:(List UInt8)))] _ hx3 hm_x_b hz9 (Hp.packG [en1] [(.cells m2 xs1),(.cells m1 xs),(.gl (NG mx))] hs)) ZEr) fun w1 s ⟨en3,hm1,hq_⟩=> ?_
   replace hs:=Hp.unpackG [en1] [en3] [(.cells m2 xs1),(.cells m1 xs),(.gl (NG mx))] hs hq_;refine ZAG (v:=w1) rfl<|ZAA<|ZAC<|ZAL (v:=enc (IntKind.i64.wrap (v+1))) rfl rfl rfl<|ZAD rfl<|ZAA ?_
   rw[←oi h];exact⟨_,rfl,⟨w1,en3,hm1,FxR rfl,(Hp.front [(.gl (NG mx)),en3] (b:=[]) (Hp.front [en3,(.cells m1 xs)] (b:=[]) (Hp.front [] (b:=[(.cells m1 xs),(.gl (NG mx))]) (Hp.drop [en3] (b:=[(.cells m1 xs),(.gl (NG mx))]) hs))))⟩⟩
  rename_i c';refine ZAJ rfl c'<|ZAl ?_
  rw[←oi h];exact⟨_,rfl,rfl,⟨x_b,en1,hm_x_b,FxR rfl,hs⟩⟩
 intro e φ s hE;obtain⟨rfl,x_b1,en2,hm_x_b1,hF,hs⟩:=hE;rw[←hF.eq];rw[ZGu] at h;show if _ then _ else _
 rw[if_pos rfl];refine ZAB<|ZAC<|ZAD (v:=x_b1) rfl<|ZAO ZMr rfl<|ZAK ag94 (Ss (Ss (Ss (Ss (Ss (Ss Sz)))))) rfl hxs hs fun y11 hy11=>ZAp underlying94 rfl rfl hy11<|ZE7 (t:=3) (a:=((m.v.2.2.2.2.2.2.1.length:Int):Int)) (by kernel_rfl) rfl (rfl:is _ ((m.v.2.2.2.2.2.2.1.length:Int):Int)) fun z10 hz10=>ZBs [z10] ([(ZAz 3 ((m.v.2.2.2.2.2.2.1.length:Int):Int))]:(List AnyV)) underlying152 ef20 rfl rfl rfl (Nat.le_of_ble_eq_true rfl) ⟨hz10,trivial⟩ fun z11 hz11 hz11c hz11n=> ?_
 replace hs:=Hp.front [(.cells m1 xs),(.gl (NG mx))] (b:=[]) hs;obtain⟨r_3,hx4,h⟩:=bs h;refine ZAt (by kernel_rfl) func73 rfl (vs:=[x_b1,z11]) rfl (MF.any (ZCk b1 [(ZAz 3 ((m.v.2.2.2.2.2.2.1.length:Int):Int))] _ hx4 hm_x_b1 hz11 (Hp.packG [en2] [(.cells m1 xs),(.gl (NG mx))] hs)) ZEr) fun w2 s ⟨en4,hm2,hq_⟩=> ?_
 replace hs:=Hp.unpackG [en2] [en4] [(.cells m1 xs),(.gl (NG mx))] hs hq_;refine ZAG (v:=w2) rfl<|ZAA<|ZAB<|ZAB<|ZAC<|ZAO ZMr rfl ?_
 replace hs:=Hp.front [en4] (b:=[(.gl (NG mx))]) hs;refine ZAK ag94 (Ss (Ss (Ss (Ss (Ss (Ss Sz)))))) rfl hxs hs fun y12 hy12=>ZAp underlying94 rfl rfl hy12<|ZAD (v:=enc (0:Int)) rfl<|ZAA<|ZAQ ?_
 obtain⟨b3,hl,h⟩:=bs h;refine ZAm (fun(p:((List UInt8)×Int)) φ s=>match p with | (b2,v2)=>∃(x_b2:AV) (en5:En),isM x_b2 en5 b2∧Fx φ [(4,x_b2),(58,y12),(59,(enc ((m.v.2.2.2.2.2.2.1.length:Int):Int))),(60,(enc v2))]∧Hp s [(.gl (NG mx)),en5]) (fun(o:(List UInt8)) e φ s=>match o with | b3=>e= .exit 2∧∃(x_b3:AV) (en6:En),isM x_b3 en6 b3∧Fx φ [(4,x_b3)]∧Hp s [(.gl (NG mx)),en6]) ?_ hl ⟨w2,en4,hm2,FxR rfl,(Hp.front [en4] (b:=[]) (Hp.front [] (b:=[(.gl (NG mx))]) (Hp.drop [] (b:=[en4,(.gl (NG mx))]) hs)))⟩ ?_
 ·rintro⟨b2,v2⟩ o h φ s ⟨x_b2,en5,hm_x_b2,hF,hs⟩;rw[←hF.eq];rw[ZEu] at h;refine ZAB<|ZAC<|ZAL (v:=enc (decide (v2<(m.v.2.2.2.2.2.2.1.length:Int)))) rfl rfl rfl<|ZAA<|ZAB ?_
  split at h
  ·rename_i c';refine ZAI rfl c'<|ZAM<|ZDW (fun φ s=>∃(b4:(List UInt8)) (x_b4:AV) (en7:En),isM x_b4 en7 b4∧Fx φ [(4,x_b4),(58,y12),(59,(enc ((m.v.2.2.2.2.2.2.1.length:Int):Int))),(60,(enc v2))]∧Hp s [(.gl (NG mx)),en7]∧ZDP v2 b4=some o) ?_ ?_
   ·refine ZAQ ?_
    refine ZAB<|ZAC ?_
    obtain⟨v3,hx5,h⟩:=bs h;refine ZAv underlying94 ZUk rfl rfl hy12 hx5 fun p1 hp1=>ZBb ZS1 ZN8 rfl hp1 fun y13 hy13=>ZAw (r:=(Rec.mk ((str []),(0:Int),(0:Int),(0:Int),()):RefR)) ZUm ZPq hs fun m3 s hs=>ZAZ (r:=v3) ZN8 rfl rfl ZPq hy13 hs fun xs2 s hxs2 hs=>ZAA<|ZAB<|ZAC<|ZAO ZLM rfl<|ZAK ZS0 Sz rfl hxs2 hs fun y14 hy14=> ?_
    cases hy14;refine ZAL (v:=enc (!eqS v3.v.1 (str []))) rfl rfl rfl<|ZAA ?_
    split at h
    ·rename_i c';refine ZAI rfl c'<|ZAC<|ZAD (v:=x_b2) rfl<|ZE7 (t:=4) (a:=(true:Bool)) (by kernel_rfl) rfl (rfl:is _ (true:Bool)) fun z12 hz12=>ZAO ZLM rfl<|ZAK ZS0 Sz rfl hxs2 hs fun y15 hy15=> ?_
     cases hy15;refine ZE7 (t:=122) (a:=v3.v.1) (by kernel_rfl) rfl (rfl:is _ v3.v.1) fun z13 hz13=>ZAO ZJb rfl<|ZAK ag3 (Ss (Ss (Ss Sz))) rfl hxs2 hs fun y16 hy16=> ?_
     cases hy16;refine ZE7 (t:=3) (a:=v3.v.2.2.2.1) (by kernel_rfl) rfl (rfl:is _ v3.v.2.2.2.1) fun z14 hz14=>ZBs [z12,z13,z14] ([(ZAz 4 (true:Bool)),(ZAz 122 (v3.v.1:Str)),(ZAz 3 (v3.v.2.2.2.1:Int))]:(List AnyV)) underlying152 ef20 rfl rfl rfl (Nat.le_of_ble_eq_true rfl) ⟨hz12,hz13,hz14,trivial⟩ fun z15 hz15 hz15c hz15n=> ?_
     replace hs:=Hp.front [(.cells m3 xs2),(.gl (NG mx))] (b:=[]) hs;obtain⟨r_4,hx6,h⟩:=bs h;refine ZAt (by kernel_rfl) func73 rfl (vs:=[x_b2,z15]) rfl (MF.any (ZCk b2 [(ZAz 4 (true:Bool)),(ZAz 122 (v3.v.1:Str)),(ZAz 3 (v3.v.2.2.2.1:Int))] _ hx6 hm_x_b2 hz15 (Hp.packG [en5] [(.cells m3 xs2),(.gl (NG mx))] hs)) ZEr) fun w3 s ⟨en8,hm3,hq_⟩=> ?_
     replace hs:=Hp.unpackG [en5] [en8] [(.cells m3 xs2),(.gl (NG mx))] hs hq_;refine ZAG (v:=w3) rfl<|ZAA ?_
     exact⟨r_4,w3,en8,hm3,FxR rfl,(Hp.front [en8] (b:=[]) (Hp.front [] (b:=[(.gl (NG mx))]) (Hp.drop [en8] (b:=[(.gl (NG mx))]) hs))),h⟩
    rename_i c';refine ZAJ rfl c'<|ZAC<|ZAD (v:=x_b2) rfl<|ZE7 (t:=4) (a:=(false:Bool)) (by kernel_rfl) rfl (rfl:is _ (false:Bool)) fun z16 hz16=>ZAO ZOA rfl<|ZAK ag3 (Ss Sz) rfl hxs2 hs fun y17 hy17=> ?_
    cases hy17;refine ZE7 (t:=3) (a:=v3.v.2.1) (by kernel_rfl) rfl (rfl:is _ v3.v.2.1) fun z17 hz17=>ZAO ZOB rfl<|ZAK ag3 (Ss (Ss Sz)) rfl hxs2 hs fun y18 hy18=> ?_
    cases hy18;refine ZE7 (t:=3) (a:=v3.v.2.2.1) (by kernel_rfl) rfl (rfl:is _ v3.v.2.2.1) fun z18 hz18=>ZAO ZJb rfl<|ZAK ag3 (Ss (Ss (Ss Sz))) rfl hxs2 hs fun y19 hy19=> ?_
    cases hy19;refine ZE7 (t:=3) (a:=v3.v.2.2.2.1) (by kernel_rfl) rfl (rfl:is _ v3.v.2.2.2.1) fun z19 hz19=>ZBs [z16,z17,z18,z19] ([(ZAz 4 (false:Bool)),(ZAz 3 (v3.v.2.1:Int)),(ZAz 3 (v3.v.2.2.1:Int)),(ZAz 3 (v3.v.2.2.2.1:Int))]:(List AnyV)) underlying152 ef20 rfl rfl rfl (Nat.le_of_ble_eq_true rfl) ⟨hz16,hz17,hz18,hz19,trivial⟩ fun z20 hz20 hz20c hz20n=> ?_
    replace hs:=Hp.front [(.cells m3 xs2),(.gl (NG mx))] (b:=[]) hs;obtain⟨r_5,hx7,h⟩:=bs h;refine ZAt (by kernel_rfl) func73 rfl (vs:=[x_b2,z20]) rfl (MF.any (ZCk b2 [(ZAz 4 (false:Bool)),(ZAz 3 (v3.v.2.1:Int)),(ZAz 3 (v3.v.2.2.1:Int)),(ZAz 3 (v3.v.2.2.2.1:Int))] _ hx7 hm_x_b2 hz20 (Hp.packG [en5] [(.cells m3 xs2),(.gl (NG mx))] hs)) ZEr) fun w4 s ⟨en9,hm4,hq_⟩=> ?_
    replace hs:=Hp.unpackG [en5] [en9] [(.cells m3 xs2),(.gl (NG mx))] hs hq_;refine ZAG (v:=w4) rfl<|ZAA ?_
    exact⟨r_5,w4,en9,hm4,FxR rfl,(Hp.front [en9] (b:=[]) (Hp.front [] (b:=[(.gl (NG mx))]) (Hp.drop [en9] (b:=[(.gl (NG mx))]) hs))),h⟩
   rintro φ s ⟨b4,x_b4,en7,hm_x_b4,hF,hs,h⟩;rw[←hF.eq];unfold ZDP at h;refine ZAC<|ZAL (v:=enc (IntKind.i64.wrap (v2+1))) rfl rfl rfl<|ZAD rfl<|ZAA ?_
   rw[←oi h];exact⟨_,rfl,⟨x_b4,en7,hm_x_b4,FxR rfl,hs⟩⟩
  rename_i c';refine ZAJ rfl c'<|ZAl ?_
  rw[←oi h];exact⟨_,rfl,rfl,⟨x_b2,en5,hm_x_b2,FxR rfl,hs⟩⟩
 intro e φ s hE;obtain⟨rfl,x_b3,en6,hm_x_b3,hF,hs⟩:=hE;rw[←hF.eq];rw[ZGt] at h;show if _ then _ else _
 rw[if_pos rfl];refine ZAB<|ZAC ?_
 replace hs:=Hp.front [(.gl (NG mx))] (b:=[]) hs;refine ZED (q:=4) rfl hm_x_b3 hs fun z21 s hz21 hs=>ZAD (v:=z21) rfl<|ZAG (v:=z21) rfl<|ZAG (v:=enc (0:Int)) rfl<|ZAA<|ZAN ?_
 rw[←oi h];exact⟨rfl,KE2 (a1:=b3) (a2:=(0:Int)) rfl rfl rfl hz21 (rfl:is _ (0:Int)) ⟨_,_,rfl,hz21,(rfl:is _ (0:Int))⟩⟩
theorem ZKO (mx:Int):ZAr Tryz.prog 54 (FnG (NG mx) (fun a:ZBg×Unit=>ZCE a.1)):=fnCG (ZUB mx) ⟨_,func54,rfl⟩<|fun a r h=>ZKN mx a.1 r h
noncomputable def pv6 (mx:Int):Prims:=(pv5 mx).addG 54 (FnG (NG mx) (fun a:ZBg×Unit=>ZCE a.1))
theorem ZUC (mx:Int):ZAV Tryz.prog (pv6 mx):=ZAi (ZUB mx) (ZKO mx)
theorem ZIU (mx:Int) (l:ZAb) (r:(List UInt8)×Int) (h:ZBR l=some r):MF Tryz.prog (pv6 mx) 55 [enc l] (sG (NG mx)) fun v _=>ris v r:=by
 refine ZAe [(0,enc l)] func55 rfl (by simp only[Tryz.f55];rfl) fun ψ=> ?_
 unfold ZBR at h;have hs:Hp (sG (NG mx)) [.gl (NG mx)]:=Hp.gl0
 refine ZAB<|ZAC<|ZA1 (r:=l) rfl (Enc.self l) hs fun m xs s hxs hs=>ZAG (v:= .nils) rfl<|ZAG (v:=enc (0:Int)) rfl<|ZAA<|ZAB<|ZAC<|ZRV (q:=1) (r:=l) rfl hxs hs fun z s hz hs=>ZRW (c:=((PtrC.mk l:PtrC ZAb),())) rfl ⟨_,_,rfl,hz,rfl⟩ fun z1 hz1=>ZAG (v:=z1) rfl<|ZAA<|ZAB<|ZAB<|ZAC ?_
 refine ZB5 ZIj (Ss Sz) rfl (PtrC.ep hz) fun p hp=>ZBG ag34 rfl hp fun y hy=>ZAp underlying34 rfl rfl hy<|ZAL (v:=enc (decide ((l.v.2.1.length:Int) > 256))) rfl rfl rfl<|ZAD rfl ?_
 obtain⟨b,hb_b,h⟩:=bs h;refine ZAT 8 (fun φ s=>Hp s [(.gl (NG mx))]∧Fx φ [(1,z),(4,z1),(23,(enc b))]) ?_ ?_
 ·split at hb_b
  ·rename_i cg;refine ZAE rfl rfl (by simpa using cg)<|ZAE rfl rfl (by simpa using cg)<|ZAE rfl rfl (by simpa using cg)<|ZAE rfl rfl (by simpa using cg)<|ZAE rfl rfl (by simpa using cg)<|ZAE rfl rfl (by simpa using cg)<|ZAE rfl rfl (by simpa using cg)<|ZAY (v:=enc true) rfl cg rfl<|ZAA ?_
   rw[←oi hb_b];exact⟨hs,FxR rfl⟩
  rename_i cg1;refine ZAH rfl rfl (by simpa using cg1)<|ZB5 ZJa (Ss (Ss Sz)) rfl (PtrC.ep hz) fun p1 hp1=>ZAH rfl rfl (by simpa using cg1)<|ZBG ag35 rfl hp1 fun y1 hy1=>ZAH rfl rfl (by simpa using cg1)<|ZAp underlying35 rfl rfl hy1<|ZAH rfl rfl (by simpa using cg1)<|ZB5 ZIj (Ss Sz) rfl (PtrC.ep hz) fun p2 hp2=>ZAH rfl rfl (by simpa using cg1)<|ZBG ag34 rfl hp2 fun y2 hy2=>ZAH rfl rfl (by simpa using cg1)<|ZAp underlying34 rfl rfl hy2<|ZAH rfl rfl (by simpa using cg1)<|ZAL (v:=enc (((l.v.2.2.1.length:Int) !=(l.v.2.1.length:Int)):Bool)) rfl rfl rfl<|ZAX rfl cg1 rfl ?_
  refine ZAA ?_
  rw[←oi hb_b];exact⟨hs,FxR rfl⟩
 rintro φ s ⟨hs,hF⟩;rw[←hF.eq];refine ZAD rfl ?_
 obtain⟨b1,hb_b1,h⟩:=bs h;refine ZAT 5 (fun φ s=>Hp s [(.gl (NG mx))]∧Fx φ [(1,z),(4,z1),(29,(enc b1))]) ?_ ?_
 ·split at hb_b1
  ·rename_i cg2;refine ZAE rfl rfl (by simpa using cg2)<|ZAE rfl rfl (by simpa using cg2)<|ZAE rfl rfl (by simpa using cg2)<|ZAE rfl rfl (by simpa using cg2)<|ZAY (v:=enc true) rfl cg2 rfl<|ZAA ?_
   rw[←oi hb_b1];exact⟨hs,FxR rfl⟩
  rename_i cg3;refine ZAH rfl rfl (by simpa using cg3)<|ZB5 ZIj (Ss Sz) rfl (PtrC.ep hz) fun p3 hp3=>ZAH rfl rfl (by simpa using cg3)<|ZBG ag34 rfl hp3 fun y3 hy3=>ZAH rfl rfl (by simpa using cg3) ?_
  obtain⟨r_,hx,hb_b1⟩:=bs hb_b1;refine ZA4 (f:=fun a:(List Str)×Unit=>ZBj a.1) (a:=(l.v.2.1,())) rfl func75 rfl rfl (.cons (a:=l.v.2.1) hy3 .nil) hs List.mem_cons_self hx<|ZAH rfl rfl (by simpa using cg3)<|ZBS (v:=enc (!r_)) rfl rfl<|ZAX rfl cg3 rfl<|ZAA ?_
  rw[←oi hb_b1];exact⟨hs,FxR rfl⟩
 rintro φ s ⟨hs,hF⟩;rw[←hF.eq];refine ZAD rfl ?_
 obtain⟨b2,hb_b2,h⟩:=bs h;refine ZAT 5 (fun φ s=>Hp s [(.gl (NG mx))]∧Fx φ [(1,z),(35,(enc b2))]) ?_ ?_
 ·split at hb_b2
  ·rename_i cg4;refine ZAE rfl rfl (by simpa using cg4)<|ZAE rfl rfl (by simpa using cg4)<|ZAE rfl rfl (by simpa using cg4)<|ZAE rfl rfl (by simpa using cg4)<|ZAY (v:=enc true) rfl cg4 rfl<|ZAA ?_
   rw[←oi hb_b2];exact⟨hs,FxR rfl⟩
  rename_i cg5;refine ZAH rfl rfl (by simpa using cg5)<|ZB5 ZJa (Ss (Ss Sz)) rfl (PtrC.ep hz) fun p4 hp4=>ZAH rfl rfl (by simpa using cg5)<|ZBG ag35 rfl hp4 fun y4 hy4=>ZAH rfl rfl (by simpa using cg5)<|ZAD (v:=z1) rfl<|ZAH rfl rfl (by simpa using cg5) ?_
  obtain⟨r_1,hx1,hb_b2⟩:=bs hb_b2;refine ZAj (f:=fun a:(List Int)×(Clo 74 ((PtrC ZAb)×Unit))×Unit=>ZBL a.1 a.2.1) (a:=(l.v.2.2.1,(Clo.mk ((PtrC.mk l:PtrC ZAb),()):Clo 74 ((PtrC ZAb)×Unit)),())) rfl func76 rfl rfl (.cons (a:=l.v.2.2.1) hy4 (.cons (a:=((Clo.mk ((PtrC.mk l:PtrC ZAb),()):Clo 74 ((PtrC ZAb)×Unit)):(Clo 74 ((PtrC ZAb)×Unit)))) hz1 .nil)) hx1<|ZAX rfl cg5 rfl<|ZAA ?_
  rw[←oi hb_b2];exact⟨hs,FxR rfl⟩
 rintro φ s ⟨hs,hF⟩;rw[←hF.eq];refine ZAA ?_
 split at h
 ·rename_i c';refine ZAI rfl c'<|ZAB<|ZAC<|ZAG (v:= .nils) rfl<|ZAG (v:=enc (80:Int)) rfl<|ZAA<|ZAN ?_
  rw[←oi h];exact⟨rfl,KE2 (a1:=([]:(List UInt8))) (a2:=(80:Int)) rfl rfl rfl isL.nil (rfl:is _ (80:Int)) ⟨_,_,rfl,isL.nil,(rfl:is _ (80:Int))⟩⟩
 rename_i c';refine ZAJ rfl c'<|ZAM<|ZAB<|ZAC<|ZB5 ZQ4 Sz rfl (PtrC.ep hz) fun p5 hp5=>ZBG ag4 rfl hp5 fun y5 hy5=> ?_
 cases hy5;refine ZE7 (t:=4) (a:=l.v.1) (by kernel_rfl) rfl (rfl:is _ l.v.1) fun z2 hz2=>ZB5 ZIj (Ss Sz) rfl (PtrC.ep hz) fun p6 hp6=>ZBG ag34 rfl hp6 fun y6 hy6=>ZAp underlying34 rfl rfl hy6<|ZE7 (t:=3) (a:=((l.v.2.1.length:Int):Int)) (by kernel_rfl) rfl (rfl:is _ ((l.v.2.1.length:Int):Int)) fun z3 hz3=>ZBs [z2,z3] ([(ZAz 4 (l.v.1:Bool)),(ZAz 3 ((l.v.2.1.length:Int):Int))]:(List AnyV)) underlying152 ef20 rfl rfl rfl (Nat.le_of_ble_eq_true rfl) ⟨hz2,hz3,trivial⟩ fun z4 hz4 hz4c hz4n=> ?_
 replace hs:=Hp.add (x:= .nils) hs rfl;obtain⟨r_2,hx2,h⟩:=bs h;refine ZAt (by kernel_rfl) func73 rfl (vs:=[.nils,z4]) rfl (MF.any (ZCk [] [(ZAz 4 (l.v.1:Bool)),(ZAz 3 ((l.v.2.1.length:Int):Int))] _ hx2 (.inr ⟨rfl,isL.nil,rfl,rfl,rfl⟩) hz4 (Hp.packG [(.own .nils)] [(.gl (NG mx))] hs)) ZEr) fun w s ⟨en,hm,hq_⟩=> ?_
 replace hs:=Hp.unpackG [(.own .nils)] [en] [(.gl (NG mx))] hs hq_;refine ZAG (v:=w) rfl<|ZAA<|ZAB<|ZAB<|ZAC<|ZB5 ZIj (Ss Sz) rfl (PtrC.ep hz) fun p7 hp7=>ZBG ag34 rfl hp7 fun y7 hy7=>ZAp underlying34 rfl rfl hy7<|ZAD (v:=enc (0:Int)) rfl<|ZAA<|ZAQ ?_
 obtain⟨b4,hl,h⟩:=bs h;refine ZAm (fun(p:((List UInt8)×Int)) φ s=>match p with | (b3,v)=>∃(x_b3:AV) (en1:En),isM x_b3 en1 b3∧Fx φ [(1,z),(5,x_b3),(46,y7),(47,(enc ((l.v.2.1.length:Int):Int))),(48,(enc v))]∧Hp s [(.gl (NG mx)),en1]) (fun(o:(List UInt8)) e φ s=>match o with | b4=>e= .exit 0∧∃(x_b4:AV) (en2:En),isM x_b4 en2 b4∧Fx φ [(1,z),(5,x_b4)]∧Hp s [(.gl (NG mx)),en2]) ?_ hl ⟨w,en,hm,FxR rfl,(Hp.front [en] (b:=[]) (Hp.front [] (b:=[(.gl (NG mx))]) hs))⟩ ?_
 ·rintro⟨b3,v⟩ o h φ s ⟨x_b3,en1,hm_x_b3,hF,hs⟩;rw[←hF.eq];rw[ZDI] at h;refine ZAB<|ZAC<|ZAL (v:=enc (decide (v<(l.v.2.1.length:Int)))) rfl rfl rfl<|ZAA<|ZAB ?_
  split at h
  ·rename_i c';refine ZAI rfl c'<|ZAM<|ZAB<|ZAQ<|ZAB<|ZAC ?_
   obtain⟨v1,hx3,h⟩:=bs h;refine ZAv underlying34 sh9 rfl rfl hy7 hx3 fun p8 hp8=>ZCq rfl ag9 rfl hp8 fun y8 hy8=> ?_
   cases hy8;refine ZAG rfl<|ZAA<|ZAC<|ZAD (v:=x_b3) rfl<|ZAD rfl<|ZE7 (t:=9) (a:=v1) (by kernel_rfl) rfl (rfl:is _ v1) fun z5 hz5=>ZBs [z5] ([(ZAz 9 (v1:Str))]:(List AnyV)) underlying152 ef20 rfl rfl rfl (Nat.le_of_ble_eq_true rfl) ⟨hz5,trivial⟩ fun z6 hz6 hz6c hz6n=> ?_
   replace hs:=Hp.front [(.gl (NG mx))] (b:=[]) hs;obtain⟨r_3,hx4,h⟩:=bs h;refine ZAt (by kernel_rfl) func73 rfl (vs:=[x_b3,z6]) rfl (MF.any (ZCk b3 [(ZAz 9 (v1:Str))] _ hx4 hm_x_b3 hz6 (Hp.packG [en1] [(.gl (NG mx))] hs)) ZEr) fun w1 s ⟨en3,hm1,hq_⟩=> ?_
   replace hs:=Hp.unpackG [en1] [en3] [(.gl (NG mx))] hs hq_;refine ZAG (v:=w1) rfl<|ZAA<|ZAC<|ZAL (v:=enc (IntKind.i64.wrap (v+1))) rfl rfl rfl<|ZAD rfl<|ZAA ?_
   rw[←oi h];exact⟨_,rfl,⟨w1,en3,hm1,FxR rfl,(Hp.front [en3] (b:=[]) (Hp.front [] (b:=[(.gl (NG mx))]) hs))⟩⟩
  rename_i c';refine ZAJ rfl c'<|ZAl ?_
  rw[←oi h];exact⟨_,rfl,rfl,⟨x_b3,en1,hm_x_b3,FxR rfl,hs⟩⟩
 intro e φ s hE;obtain⟨rfl,x_b4,en2,hm_x_b4,hF,hs⟩:=hE;rw[←hF.eq];rw[ZFE] at h;show if _ then _ else _
 rw[if_pos rfl];refine ZAB<|ZAB<|ZAC<|ZB5 ZJa (Ss (Ss Sz)) rfl (PtrC.ep hz) fun p9 hp9=>ZBG ag35 rfl hp9 fun y9 hy9=>ZAp underlying35 rfl rfl hy9<|ZAD (v:=enc (0:Int)) rfl<|ZAA<|ZAQ ?_
 obtain⟨b6,hl,h⟩:=bs h;refine ZAm (fun(p:((List UInt8)×Int)) φ s=>match p with | (b5,v2)=>∃(x_b5:AV) (en4:En),isM x_b5 en4 b5∧Fx φ [(5,x_b5),(59,y9),(60,(enc ((l.v.2.2.1.length:Int):Int))),(61,(enc v2))]∧Hp s [(.gl (NG mx)),en4]) (fun(o:(List UInt8)) e φ s=>match o with | b6=>e= .exit 2∧∃(x_b6:AV) (en5:En),isM x_b6 en5 b6∧Fx φ [(5,x_b6)]∧Hp s [(.gl (NG mx)),en5]) ?_ hl ⟨x_b4,en2,hm_x_b4,FxR rfl,hs⟩ ?_
 ·rintro⟨b5,v2⟩ o h φ s ⟨x_b5,en4,hm_x_b5,hF,hs⟩;rw[←hF.eq];rw[ZDJ] at h;refine ZAB<|ZAC<|ZAL (v:=enc (decide (v2<(l.v.2.2.1.length:Int)))) rfl rfl rfl<|ZAA<|ZAB ?_
  split at h
  ·rename_i c';refine ZAI rfl c'<|ZAM<|ZAB<|ZAQ<|ZAB<|ZAC ?_
   obtain⟨v3,hx5,h⟩:=bs h;refine ZAv underlying35 sh3 rfl rfl hy9 hx5 fun p10 hp10=>ZCq rfl ag3 rfl hp10 fun y10 hy10=> ?_
   cases hy10;refine ZAG rfl<|ZAA<|ZAC<|ZAD (v:=x_b5) rfl<|ZAD rfl<|ZE7 (t:=3) (a:=v3) (by kernel_rfl) rfl (rfl:is _ v3) fun z7 hz7=>ZBs [z7] ([(ZAz 3 (v3:Int))]:(List AnyV)) underlying152 ef20 rfl rfl rfl (Nat.le_of_ble_eq_true rfl) ⟨hz7,trivial⟩ fun z8 hz8 hz8c hz8n=> ?_
   replace hs:=Hp.front [(.gl (NG mx))] (b:=[]) hs;obtain⟨r_4,hx6,h⟩:=bs h;refine ZAt (by kernel_rfl) func73 rfl (vs:=[x_b5,z8]) rfl (MF.any (ZCk b5 [(ZAz 3 (v3:Int))] _ hx6 hm_x_b5 hz8 (Hp.packG [en4] [(.gl (NG mx))] hs)) ZEr) fun w2 s ⟨en6,hm2,hq_⟩=> ?_
   replace hs:=Hp.unpackG [en4] [en6] [(.gl (NG mx))] hs hq_;refine ZAG (v:=w2) rfl<|ZAA<|ZAC<|ZAL (v:=enc (IntKind.i64.wrap (v2+1))) rfl rfl rfl<|ZAD rfl<|ZAA ?_
   rw[←oi h];exact⟨_,rfl,⟨w2,en6,hm2,FxR rfl,(Hp.front [en6] (b:=[]) (Hp.front [] (b:=[(.gl (NG mx))]) hs))⟩⟩
  rename_i c';refine ZAJ rfl c'<|ZAl ?_
  rw[←oi h];exact⟨_,rfl,rfl,⟨x_b5,en4,hm_x_b5,FxR rfl,hs⟩⟩
 intro e φ s hE;obtain⟨rfl,x_b6,en5,hm_x_b6,hF,hs⟩:=hE;rw[←hF.eq];rw[ZFD] at h;show if _ then _ else _
 rw[if_pos rfl];refine ZAB<|ZAC ?_
 replace hs:=Hp.front [(.gl (NG mx))] (b:=[]) hs;refine ZED (q:=5) rfl hm_x_b6 hs fun z9 s hz9 hs=>ZAD (v:=z9) rfl<|ZAG (v:=z9) rfl<|ZAG (v:=enc (0:Int)) rfl<|ZAA<|ZAN ?_
 rw[←oi h];exact⟨rfl,KE2 (a1:=b6) (a2:=(0:Int)) rfl rfl rfl hz9 (rfl:is _ (0:Int)) ⟨_,_,rfl,hz9,(rfl:is _ (0:Int))⟩⟩
theorem ZIV (mx:Int):ZAr Tryz.prog 55 (FnG (NG mx) (fun a:ZAb×Unit=>ZBR a.1)):=fnCG (ZUC mx) ⟨_,func55,rfl⟩<|fun a r h=>ZIU mx a.1 r h
noncomputable def pv7 (mx:Int):Prims:=(pv6 mx).addG 55 (FnG (NG mx) (fun a:ZAb×Unit=>ZBR a.1))
theorem ZUD (mx:Int):ZAV Tryz.prog (pv7 mx):=ZAi (ZUC mx) (ZIV mx)
theorem ZKP (mx:Int) (x:ZAF) (r:Bool) (h:ZBe x=some r):MF Tryz.prog (pv7 mx) 27 [enc x] (sG (NG mx)) fun v _=>ris v r:=by
 refine ZAe [(0,enc x)] func27 rfl (by simp only[Tryz.f27];rfl) fun ψ=> ?_
 unfold ZBe at h;have hs:Hp (sG (NG mx)) [.gl (NG mx)]:=Hp.gl0
 refine ZAB<|ZAC<|ZA1 (r:=x) rfl (Enc.self x) hs fun m xs s hxs hs=>ZAG (v:=enc false) rfl<|ZAA<|ZAB<|ZAC<|ZAO ZCR rfl<|ZAK ag25 (Ss Sz) rfl hxs hs fun y hy=> ?_
 cases hy;refine ZAO ZKl rfl<|ZAK ag3 (Ss (Ss Sz)) rfl hxs hs fun y1 hy1=> ?_
 cases hy1;refine ZAO ZCD rfl<|ZAK ag3 (Ss (Ss (Ss Sz))) rfl hxs hs fun y2 hy2=> ?_
 cases hy2;refine ZAO ZO9 rfl<|ZAK ag9 (Ss (Ss (Ss (Ss (Ss Sz))))) rfl hxs hs fun y3 hy3=> ?_
 cases hy3;refine ZAO ZKm rfl<|ZAK ag36 (Ss (Ss (Ss (Ss (Ss (Ss (Ss (Ss Sz)))))))) rfl hxs hs fun y4 hy4=>ZCr (r0:=((0:Int),(0:Int),(0:Int),(0:Int),(str []),([]:(List ZAd)),([]:(List RefR)),())) bu96 zr96 zf96 rfl rfl (r:=(x.v.2.1,x.v.2.2.1,x.v.2.2.2.1,(0:Int),x.v.2.2.2.2.2.1,x.v.2.2.2.2.2.2.2.2.1,([]:(List RefR)),())) (.cons (z:=x.v.2.1) Sz (rfl:is _ x.v.2.1) (.cons (z:=x.v.2.2.1) (Ss Sz) (rfl:is _ x.v.2.2.1) (.cons (z:=x.v.2.2.2.1) (Ss (Ss Sz)) (rfl:is _ x.v.2.2.2.1) (.cons (z:=x.v.2.2.2.2.2.1) (Ss (Ss (Ss (Ss Sz)))) (rfl:is _ x.v.2.2.2.2.2.1) (.cons (z:=x.v.2.2.2.2.2.2.2.2.1) (Ss (Ss (Ss (Ss (Ss Sz))))) hy4 .nil))))) fun y5 hy5=> ?_
 obtain⟨r_,hx,h⟩:=bs h;refine ZA4 (f:=fun a:ZBg×Unit=>ZCE a.1) (a:=((Rec.mk (x.v.2.1,x.v.2.2.1,x.v.2.2.2.1,(0:Int),x.v.2.2.2.2.2.1,x.v.2.2.2.2.2.2.2.2.1,([]:(List RefR)),()):ZBg),())) rfl func54 rfl rfl (.cons (a:=((Rec.mk (x.v.2.1,x.v.2.2.1,x.v.2.2.2.1,(0:Int),x.v.2.2.2.2.2.1,x.v.2.2.2.2.2.2.2.2.1,([]:(List RefR)),()):ZBg):ZBg)) hy5 .nil) hs (lM _ List.mem_cons_self) hx<|ZAD (v:=res r_) rfl<|ZAs rfl rfl<|ZAs rfl rfl<|ZAG rfl<|ZAG rfl<|ZAA<|ZAB<|ZAC<|ZAO ZHi rfl<|ZAK ag33 (Ss (Ss (Ss (Ss Sz)))) rfl hxs hs fun y6 hy6=>ZAp underlying33 rfl rfl hy6<|ZAL (v:=enc (((x.v.2.2.2.2.1.length:Int)==0):Bool)) rfl rfl rfl<|ZAD rfl ?_
 obtain⟨b,hb_b,h⟩:=bs h;refine ZAT 10 (fun φ s=>Hp s [(.cells m xs),(.gl (NG mx))]∧Fx φ [(1,(.ptr m 0)),(4,(enc r_.2)),(35,(enc b))]) ?_ ?_
 ·split at hb_b
  ·rename_i cg;refine ZAE rfl rfl (by simpa using cg)<|ZAE rfl rfl (by simpa using cg)<|ZAE rfl rfl (by simpa using cg)<|ZAE rfl rfl (by simpa using cg)<|ZAR rfl rfl<|ZAR rfl rfl<|ZAR rfl rfl<|ZAR rfl rfl<|ZAE rfl rfl (by simpa using cg)<|ZAY (v:=enc true) rfl cg rfl<|ZAA ?_
   rw[←oi hb_b];exact⟨hs,FxR rfl⟩
  rename_i cg1;refine ZAH rfl rfl (by simpa using cg1)<|ZAO ZCR rfl<|ZAH rfl rfl (by simpa using cg1)<|ZAK ag25 (Ss Sz) rfl hxs hs fun y7 hy7=> ?_
  cases hy7;refine ZAH rfl rfl (by simpa using cg1)<|ZAL (v:=enc (x.v.2.1==1)) rfl rfl rfl<|ZAH rfl rfl (by simpa using cg1)<|ZAD rfl ?_
  obtain⟨b1,hb_b1,hb_b⟩:=bs hb_b;refine ZAT 5 (fun φ s=>Hp s [(.cells m xs),(.gl (NG mx))]∧Fx φ [(1,(.ptr m 0)),(4,(enc r_.2)),(25,(enc (((x.v.2.2.2.2.1.length:Int)==0):Bool))),(34,(enc b1))]) ?_ ?_
  ·split at hb_b1
   ·rename_i cg2;refine ZAH rfl rfl cg2<|ZAO ZHi rfl<|ZAH rfl rfl cg2<|ZAK ag33 (Ss (Ss (Ss (Ss Sz)))) rfl hxs hs fun y8 hy8=>ZAH rfl rfl cg2<|ZAp underlying33 rfl rfl hy8<|ZAH rfl rfl cg2<|ZAL (v:=enc (decide ((x.v.2.2.2.2.1.length:Int)≤32768))) rfl rfl rfl<|ZAH rfl rfl (by simpa using cg1)<|ZAY rfl cg2 rfl<|ZAA ?_
    rw[←oi hb_b1];exact⟨hs,FxR rfl⟩
   rename_i cg3;refine ZAE rfl rfl cg3<|ZAE rfl rfl cg3<|ZAE rfl rfl cg3<|ZAE rfl rfl cg3<|ZAH rfl rfl (by simpa using cg1)<|ZAX (v:=enc false) rfl cg3 rfl<|ZAA ?_
   rw[←oi hb_b1];exact⟨hs,FxR rfl⟩
  rintro φ s ⟨hs,hF⟩;rw[←hF.eq];refine ZAX rfl cg1 rfl<|ZAA ?_
  rw[←oi hb_b];exact⟨hs,FxR rfl⟩
 rintro φ s ⟨hs,hF⟩;rw[←hF.eq];refine ZAG rfl<|ZAA<|ZAB<|ZAB<|ZAC<|ZAD rfl<|ZAL (v:=enc (r_.2 !=0)) rfl rfl rfl<|ZAD rfl ?_
 obtain⟨b2,hb_b2,h⟩:=bs h;refine ZAT 3 (fun φ s=>Hp s [(.cells m xs),(.gl (NG mx))]∧Fx φ [(1,(.ptr m 0)),(41,(enc b2))]) ?_ ?_
 ·split at hb_b2
  ·rename_i cg4;refine ZAE rfl rfl (by simpa using cg4)<|ZAE rfl rfl (by simpa using cg4)<|ZAY (v:=enc true) rfl cg4 rfl<|ZAA ?_
   rw[←oi hb_b2];exact⟨hs,FxR rfl⟩
  rename_i cg5;refine ZAH rfl rfl (by simpa using cg5)<|ZAD rfl<|ZAH rfl rfl (by simpa using cg5)<|ZBS (v:=enc (!b)) rfl rfl<|ZAX rfl cg5 rfl<|ZAA ?_
  rw[←oi hb_b2];exact⟨hs,FxR rfl⟩
 rintro φ s ⟨hs,hF⟩;rw[←hF.eq];refine ZAD rfl ?_
 obtain⟨b3,hb_b3,h⟩:=bs h;refine ZAT 4 (fun φ s=>Hp s [(.cells m xs),(.gl (NG mx))]∧Fx φ [(1,(.ptr m 0)),(46,(enc b3))]) ?_ ?_
 ·split at hb_b3
  ·rename_i cg6;refine ZAE rfl rfl (by simpa using cg6)<|ZAE rfl rfl (by simpa using cg6)<|ZAE rfl rfl (by simpa using cg6)<|ZAY (v:=enc true) rfl cg6 rfl<|ZAA ?_
   rw[←oi hb_b3];exact⟨hs,FxR rfl⟩
  rename_i cg7;refine ZAH rfl rfl (by simpa using cg7)<|ZAO ZBO rfl<|ZAH rfl rfl (by simpa using cg7)<|ZAK ag3 Sz rfl hxs hs fun y9 hy9=> ?_
  cases hy9;refine ZAH rfl rfl (by simpa using cg7)<|ZAL (v:=enc (decide (x.v.1<1))) rfl rfl rfl<|ZAX rfl cg7 rfl<|ZAA ?_
  rw[←oi hb_b3];exact⟨hs,FxR rfl⟩
 rintro φ s ⟨hs,hF⟩;rw[←hF.eq];refine ZAD rfl ?_
 obtain⟨b4,hb_b4,h⟩:=bs h;refine ZAT 4 (fun φ s=>Hp s [(.cells m xs),(.gl (NG mx))]∧Fx φ [(1,(.ptr m 0)),(51,(enc b4))]) ?_ ?_
 ·split at hb_b4
  ·rename_i cg8;refine ZAE rfl rfl (by simpa using cg8)<|ZAE rfl rfl (by simpa using cg8)<|ZAE rfl rfl (by simpa using cg8)<|ZAY (v:=enc true) rfl cg8 rfl<|ZAA ?_
   rw[←oi hb_b4];exact⟨hs,FxR rfl⟩
  rename_i cg9;refine ZAH rfl rfl (by simpa using cg9)<|ZAO ZBO rfl<|ZAH rfl rfl (by simpa using cg9)<|ZAK ag3 Sz rfl hxs hs fun y10 hy10=> ?_
  cases hy10;refine ZAH rfl rfl (by simpa using cg9)<|ZAL (v:=enc (decide (x.v.1 > 1024))) rfl rfl rfl<|ZAX rfl cg9 rfl<|ZAA ?_
  rw[←oi hb_b4];exact⟨hs,FxR rfl⟩
 rintro φ s ⟨hs,hF⟩;rw[←hF.eq];refine ZAA ?_
 split at h
 ·rename_i c';refine ZAI rfl c'<|ZAB<|ZAC<|ZAG (v:=enc false) rfl<|ZAA<|ZAN ?_
  rw[←oi h];exact⟨rfl,KE1 (a:=(false:Bool)) rfl rfl (rfl:is _ (false:Bool)) (rfl:is _ (false:Bool))⟩
 rename_i c';refine ZAJ rfl c'<|ZAM<|ZAB<|ZAB<|ZAC<|ZAO ZCR rfl<|ZAK ag25 (Ss Sz) rfl hxs hs fun y11 hy11=> ?_
 cases hy11;refine ZAL (v:=enc (x.v.2.1 !=2)) rfl rfl rfl<|ZAA ?_
 split at h
 ·rename_i c';refine ZAI rfl c'<|ZAB<|ZAC<|ZAO ZBJ rfl<|ZAK ag34 (Ss (Ss (Ss (Ss (Ss (Ss Sz)))))) rfl hxs hs fun y12 hy12=>ZAp underlying34 rfl rfl hy12<|ZAO ZBY rfl<|ZAK ag35 (Ss (Ss (Ss (Ss (Ss (Ss (Ss Sz))))))) rfl hxs hs fun y13 hy13=>ZAp underlying35 rfl rfl hy13<|ZAL (v:=enc (IntKind.i64.wrap ((x.v.2.2.2.2.2.2.1.length:Int)+(x.v.2.2.2.2.2.2.2.1.length:Int)))) rfl rfl rfl<|ZAL (v:=enc ((IntKind.i64.wrap ((x.v.2.2.2.2.2.2.1.length:Int)+(x.v.2.2.2.2.2.2.2.1.length:Int)))==0)) rfl rfl rfl<|ZAG rfl<|ZAA<|ZAN ?_
  rw[←oi h];exact⟨rfl,KE1 (a:=(((IntKind.i64.wrap ((x.v.2.2.2.2.2.2.1.length:Int)+(x.v.2.2.2.2.2.2.2.1.length:Int)))==0):Bool)) rfl rfl (rfl:is _ (((IntKind.i64.wrap ((x.v.2.2.2.2.2.2.1.length:Int)+(x.v.2.2.2.2.2.2.2.1.length:Int)))==0):Bool)) (rfl:is _ (((IntKind.i64.wrap ((x.v.2.2.2.2.2.2.1.length:Int)+(x.v.2.2.2.2.2.2.2.1.length:Int)))==0):Bool))⟩
 rename_i c';refine ZAJ rfl c'<|ZAM<|ZAB<|ZAC<|ZAO ZBJ rfl<|ZAK ag34 (Ss (Ss (Ss (Ss (Ss (Ss Sz)))))) rfl hxs hs fun y14 hy14=>ZAO ZBY rfl<|ZAK ag35 (Ss (Ss (Ss (Ss (Ss (Ss (Ss Sz))))))) rfl hxs hs fun y15 hy15=>ZCr (r0:=(false,([]:(List Str)),([]:(List Int)),())) bu99 zr99 zf99 rfl rfl (r:=(true,x.v.2.2.2.2.2.2.1,x.v.2.2.2.2.2.2.2.1,())) (.cons (z:=(true:Bool)) Sz (rfl:is _ (true:Bool)) (.cons (z:=x.v.2.2.2.2.2.2.1) (Ss Sz) hy14 (.cons (z:=x.v.2.2.2.2.2.2.2.1) (Ss (Ss Sz)) hy15 .nil))) fun y16 hy16=> ?_
 obtain⟨r_1,hx1,h⟩:=bs h;refine ZA4 (f:=fun a:ZAb×Unit=>ZBR a.1) (a:=((Rec.mk (true,x.v.2.2.2.2.2.2.1,x.v.2.2.2.2.2.2.2.1,()):ZAb),())) rfl func55 rfl rfl (.cons (a:=((Rec.mk (true,x.v.2.2.2.2.2.2.1,x.v.2.2.2.2.2.2.2.1,()):ZAb):ZAb)) hy16 .nil) hs (lM _ List.mem_cons_self) hx1<|ZAD (v:=res r_1) rfl<|ZAs rfl rfl<|ZAs rfl rfl<|ZAG rfl<|ZAA<|ZAB<|ZAC<|ZAD rfl<|ZAL (v:=enc (r_1.2==0)) rfl rfl rfl<|ZAD rfl ?_
 obtain⟨b5,hb_b5,h⟩:=bs h;refine ZAT 4 (fun φ s=>Hp s [(.cells m xs),(.gl (NG mx))]∧Fx φ [(1,(.ptr m 0)),(78,(enc b5))]) ?_ ?_
 ·split at hb_b5
  ·rename_i cg10;refine ZAH rfl rfl cg10<|ZAO ZCD rfl<|ZAH rfl rfl cg10<|ZAK ag3 (Ss (Ss (Ss Sz))) rfl hxs hs fun y17 hy17=> ?_
   cases hy17;refine ZAH rfl rfl cg10<|ZAL (v:=enc (x.v.2.2.2.1==1)) rfl rfl rfl<|ZAY rfl cg10 rfl<|ZAA ?_
   rw[←oi hb_b5];exact⟨hs,FxR rfl⟩
  rename_i cg11;refine ZAE rfl rfl cg11<|ZAE rfl rfl cg11<|ZAE rfl rfl cg11<|ZAX (v:=enc false) rfl cg11 rfl<|ZAA ?_
  rw[←oi hb_b5];exact⟨hs,FxR rfl⟩
 rintro φ s ⟨hs,hF⟩;rw[←hF.eq];refine ZAD rfl ?_
 obtain⟨b6,hb_b6,h⟩:=bs h;refine ZAT 5 (fun φ s=>Hp s [(.cells m xs),(.gl (NG mx))]∧Fx φ [(84,(enc b6))]) ?_ ?_
 ·split at hb_b6
  ·rename_i cg12;refine ZAH rfl rfl cg12<|ZAO ZBJ rfl<|ZAH rfl rfl cg12<|ZAK ag34 (Ss (Ss (Ss (Ss (Ss (Ss Sz)))))) rfl hxs hs fun y18 hy18=>ZAH rfl rfl cg12<|ZAp underlying34 rfl rfl hy18<|ZAH rfl rfl cg12<|ZAL (v:=enc (decide ((x.v.2.2.2.2.2.2.1.length:Int)≤128))) rfl rfl rfl<|ZAY rfl cg12 rfl<|ZAA ?_
   rw[←oi hb_b6];exact⟨hs,FxR rfl⟩
  rename_i cg13;refine ZAE rfl rfl cg13<|ZAE rfl rfl cg13<|ZAE rfl rfl cg13<|ZAE rfl rfl cg13<|ZAX (v:=enc false) rfl cg13 rfl<|ZAA ?_
  rw[←oi hb_b6];exact⟨hs,FxR rfl⟩
 rintro φ s ⟨hs,hF⟩;rw[←hF.eq];refine ZAG rfl<|ZAA<|ZAN ?_
 rw[←oi h];exact⟨rfl,KE1 (a:=b6) rfl rfl (rfl:is _ b6) (rfl:is _ b6)⟩
theorem ZKQ (mx:Int):ZAr Tryz.prog 27 (FnG (NG mx) (fun a:ZAF×Unit=>ZBe a.1)):=fnCG (ZUD mx) ⟨_,func27,rfl⟩<|fun a r h=>ZKP mx a.1 r h
noncomputable def pv8 (mx:Int):Prims:=(pv7 mx).addG 27 (FnG (NG mx) (fun a:ZAF×Unit=>ZBe a.1))
theorem ZUE (mx:Int):ZAV Tryz.prog (pv8 mx):=ZAi (ZUD mx) (ZKQ mx)
end Go.Ai.Rab
end
section
set_option maxRecDepth 100000
set_option maxHeartbeats 16000000
attribute [local irreducible] Go.Ai.TC Go.Ai.TO Go.Ai.MF Go.Ai.ZE6 Go.Ai.ZDC Go.Ai.encR
open Go.Ai.Enc (enc is)
open Go.Ai.Res (res ris)
open Go.Ai.Args (args)
open Go.Ai.Flds (fe fi fk)
namespace Go.Ai

end Go.Ai
namespace Go.Ai.TTryz
open Go.Proofs

end Go.Ai.TTryz
namespace Go.Ai.Rab
open Go.Proofs TTryz Tryz
noncomputable def ZDe (v1:ZAF):((List (Int×(List Int)))×Int)→Option (((List (Int×(List Int)))×Int) ⊕ (List (Int×(List Int))))
 | (out_2,v2)=>(if(decide (v2<(v1.v.2.2.2.2.2.2.2.1.length:Int))) then((nth v1.v.2.2.2.2.2.2.2.1 v2).bind fun v3=>((app 8 ((mget out_2 v3).getD []) [v1.v.1]).bind fun l=>some (.inl ((mput out_2 v3 l),(IntKind.i64.wrap (v2+1)))))) else some (.inr out_2))
noncomputable def ZGP (v:Int):(List (Int×(List Int)))→Option (((List (Int×(List Int)))×Int) ⊕ (List (Int×(List Int))))
 | out_3=>some (.inl (out_3,(IntKind.i64.wrap (v+1))))
noncomputable def ZGQ (f:FsR):((List (Int×(List Int)))×Int)→Option (((List (Int×(List Int)))×Int) ⊕ (List (Int×(List Int))))
 | (out_,v)=>(if(decide (v<(f.v.1.length:Int))) then((nth f.v.1 v).bind fun v1=>((loop (ZDe v1) (out_,0)).bind (ZGP v))) else some (.inr out_))
noncomputable def ZIm:(List (Int×(List Int)))→Option ((List (Int×(List Int))))
 | out_1=>some (out_1)
noncomputable def ZEL (f:FsR):Option ((List (Int×(List Int)))):=
 ((loop (ZGQ f) (([]:(List (Int×(List Int)))),0)).bind (ZIm))
noncomputable def ZDu (most:Int) (up:(List (Int×(List Int)))):(Int×Int)→Option ((Int×Int) ⊕ (Unit ⊕ Bool))
 | (num1,v)=>(if(decide (v<(IntKind.i64.wrap (most+1)))) then(if((((mget up num1).getD []).length:Int)==0) then some (.inr (.inr true)) else((nth ((mget up num1).getD []) 0).bind fun v2=>some (.inl (v2,(IntKind.i64.wrap (v+1)))))) else some (.inr (.inl ())))
noncomputable def ZFf:(Unit ⊕ Bool)→Option (Bool)
 | (.inl _)=>some (false)
 | (.inr v1)=>some (v1)
noncomputable def ZGk (up:(List (Int×(List Int)))) (num:Int) (most:Int):Option (Bool):=
 ((loop (ZDu most up) (num,0)).bind (ZFf))
theorem ZGR (f:FsR) (r:(List (Int×(List Int)))) (h:ZEL f=some r) {x_f:AV} (hy_f:is x_f f) {s:St} {enF:En} {G:Glob} (hs:Hp s [enF,(.gl G)]):MF Tryz.prog pct 32 [x_f] s fun v s' =>∃en',isMR v en' r∧Hp s' [en',enF, .gl G]:=by
 refine ZDD [(0,x_f)] func32 rfl (by simp only[Tryz.f32];rfl) fun ψ=> ?_
 unfold ZEL at h;refine ZAB<|ZAC<|ZA1 (r:=f) rfl hy_f hs fun m xs s hxs hs=>ZAG (v:= .nilmp) rfl<|ZAA<|ZAB<|ZAC<|ZT5 hs fun m1 s hs=>ZAG (v:= .mp m1) rfl<|ZAA<|ZAB<|ZAB<|ZAC<|ZAO ZAk rfl ?_
 replace hs:=Hp.front [(.grp [(m1, .map [])])] (b:=[enF,(.gl G)]) hs;refine ZAK ag22 Sz rfl hxs hs fun y hy=>ZAp underlying22 rfl rfl hy<|ZAD (v:=enc (0:Int)) rfl<|ZAA<|ZAQ ?_
 obtain⟨out_1,hl,h⟩:=bs h;refine ZAm (fun(p:((List (Int×(List Int)))×Int)) φ s=>match p with | (out_,v)=>∃(en:En),isMR (.mp m1) en out_∧Fx φ [(3,(.mp m1)),(10,y),(11,(enc ((f.v.1.length:Int):Int))),(12,(enc v))]∧Hp s [enF,(.gl G),en]) (fun(o:(List (Int×(List Int)))) e φ s=>match o with | out_1=>e= .exit 0∧∃(en1:En),isMR (.mp m1) en1 out_1∧Fx φ [(3,(.mp m1))]∧Hp s [enF,(.gl G),en1]) ?_ hl ⟨(.grp [(m1, .map [])]),ZTE,FxR rfl,(Hp.front [(.gl G),(.grp [(m1, .map [])])] (b:=[]) (Hp.front [(.grp [(m1, .map [])]),enF] (b:=[]) (Hp.front [] (b:=[enF,(.gl G)]) (Hp.drop [] (b:=[(.grp [(m1, .map [])]),enF,(.gl G)]) hs))))⟩ ?_
 ·rintro⟨out_,v⟩ o h φ s ⟨en,hb_en,hF,hs⟩;rw[←hF.eq];rw[ZGQ] at h;refine ZAB<|ZAC<|ZAL (v:=enc (decide (v<(f.v.1.length:Int)))) rfl rfl rfl<|ZAA<|ZAB ?_
  split at h
  ·rename_i c';refine ZAI rfl c'<|ZAM<|ZAB<|ZAQ<|ZAB<|ZAC ?_
   obtain⟨v1,hx,h⟩:=bs h;refine ZAv underlying22 sh38 rfl rfl hy hx fun p hp=>ZBb ag38 sz38 rfl hp fun y1 hy1=>ZAw (r:=(Rec.mk ((0:Int),(0:Int),(0:Int),(0:Int),([]:(List UInt8)),(str []),([]:(List Str)),([]:(List Int)),([]:(List ZAd)),()):ZAF)) zr38 zf38 hs fun m2 s hs=>ZAZ (r:=v1) sz38 rfl rfl zf38 hy1 hs fun xs1 s hxs1 hs=>ZAA<|ZAB<|ZAC<|ZAO ZBY rfl<|ZAK ag35 (Ss (Ss (Ss (Ss (Ss (Ss (Ss Sz))))))) rfl hxs1 hs fun y2 hy2=>ZAp underlying35 rfl rfl hy2<|ZAD (v:=enc (0:Int)) rfl<|ZAA<|ZAQ ?_
   obtain⟨out_3,hl,h⟩:=bs h;refine ZAm (fun(p:((List (Int×(List Int)))×Int)) φ s=>match p with | (out_2,v2)=>∃(en2:En),isMR (.mp m1) en2 out_2∧Fx φ [(3,(.mp m1)),(5,(.ptr m2 0)),(10,y),(11,(enc ((f.v.1.length:Int):Int))),(12,(enc v)),(17,y2),(18,(enc ((v1.v.2.2.2.2.2.2.2.1.length:Int):Int))),(19,(enc v2))]∧Hp s [(.cells m2 xs1),enF,(.gl G),en2]) (fun(o:(List (Int×(List Int)))) e φ s=>match o with | out_3=>e= .exit 2∧∃(en3:En),isMR (.mp m1) en3 out_3∧Fx φ [(3,(.mp m1)),(10,y),(11,(enc ((f.v.1.length:Int):Int))),(12,(enc v))]∧Hp s [enF,(.gl G),en3]) ?_ hl ⟨en,hb_en,FxR rfl,hs⟩ ?_
   ·rintro⟨out_2,v2⟩ o h φ s ⟨en2,hb_en2,hF,hs⟩;rw[←hF.eq];rw[ZDe] at h;refine ZAB<|ZAC<|ZAL (v:=enc (decide (v2<(v1.v.2.2.2.2.2.2.2.1.length:Int)))) rfl rfl rfl<|ZAA<|ZAB ?_
    split at h
    ·rename_i c';refine ZAI rfl c'<|ZAM<|ZAB<|ZAQ<|ZAB<|ZAC ?_
     obtain⟨v3,hx1,h⟩:=bs h;refine ZAv underlying35 sh3 rfl rfl hy2 hx1 fun p1 hp1=>ZCq rfl ag3 rfl hp1 fun y3 hy3=> ?_
     cases hy3;refine ZAG rfl<|ZAA<|ZAC<|ZAD (v:= .mp m1) rfl<|ZAD rfl<|ZAD (v:= .mp m1) rfl<|ZAD rfl ?_
     replace hs:=Hp.front [(.cells m2 xs1),enF,(.gl G)] (b:=[]) hs;refine ZVr (xs:=out_2) (k:=v3) underlying64 underlying3 (by kernel_rfl) rfl rfl hb_en2 hs fun w en4 hw hwc hmx_en4 hs=>ZAO ZBO rfl ?_
     replace hs:=Hp.front [.own w,en4] (b:=[enF,(.gl G)]) hs;refine ZAK ag3 Sz rfl hxs1 hs fun y4 hy4=> ?_
     cases hy4;refine ZBs [(enc v1.v.1)] ([v1.v.1]:(List Int)) underlying35 ef3 rfl rfl rfl (Nat.le_of_ble_eq_true rfl) ⟨(rfl:is _ v1.v.1),trivial⟩ fun z hz hzc hzn=> ?_
     obtain⟨l,hx2,h⟩:=bs h;refine ZEB [(.cells m2 xs1)] (es2:=[en4,enF,(.gl G)]) underlying35 underlying35 rfl rfl ef3 rfl rfl hw hwc hs hz hx2 fun z1 s hz1 hz1c hs=> ?_
     replace hs:=Hp.front [(.cells m2 xs1), .own z1] (b:=[enF,(.gl G)]) hs;replace hs:=Hp.front [en4,(.cells m2 xs1)] (b:=[enF,(.gl G)]) hs;refine ZVs (k:=v3) (r:=l) underlying64 underlying3 rfl rfl rfl hmx_en4 hz1 hz1c hs fun en5 s hb_en5 hs=>ZAA<|ZAC<|ZAL (v:=enc (IntKind.i64.wrap (v2+1))) rfl rfl rfl<|ZAD rfl<|ZAA ?_
     rw[←oi h];exact⟨_,rfl,⟨en5,hb_en5,FxR rfl,(Hp.front [enF,(.gl G),en5] (b:=[]) (Hp.front [(.gl G),en5,(.cells m2 xs1)] (b:=[]) (Hp.front [en5,(.cells m2 xs1),enF] (b:=[]) (Hp.front [] (b:=[(.cells m2 xs1),enF,(.gl G)]) hs))))⟩⟩
    rename_i c';refine ZAJ rfl c'<|ZAl ?_
    rw[←oi h];exact⟨_,rfl,rfl,⟨en2,hb_en2,FxR rfl,(Hp.drop [] (b:=[enF,(.gl G),en2]) hs)⟩⟩
   intro e φ s hE;obtain⟨rfl,en3,hb_en3,hF,hs⟩:=hE;rw[←hF.eq];rw[ZGP] at h;show if _ then _ else _
   rw[if_pos rfl];refine ZAC<|ZAL (v:=enc (IntKind.i64.wrap (v+1))) rfl rfl rfl<|ZAD rfl<|ZAA ?_
   rw[←oi h];exact⟨_,rfl,⟨en3,hb_en3,FxR rfl,hs⟩⟩
  rename_i c';refine ZAJ rfl c'<|ZAl ?_
  rw[←oi h];exact⟨_,rfl,rfl,⟨en,hb_en,FxR rfl,hs⟩⟩
 intro e φ s hE;obtain⟨rfl,en1,hb_en1,hF,hs⟩:=hE;rw[←hF.eq];rw[ZIm] at h;show if _ then _ else _
 rw[if_pos rfl];refine ZAB<|ZAC<|ZAD (v:= .mp m1) rfl<|ZAG (v:= .mp m1) rfl<|ZAA<|ZAN ?_
 rw[←oi h];exact⟨rfl,KN1 rfl rfl ⟨_,hb_en1,(Hp.front [enF,(.gl G)] (b:=[]) (Hp.front [(.gl G)] (b:=[en1]) (Hp.front [enF] (b:=[en1]) hs)))⟩⟩
theorem ZLy (up:(List (Int×(List Int)))) (num:Int) (most:Int) (r:Bool) (h:ZGk up num most=some r) {x_up:AV} {en_up:En} (hm_up:isMR x_up en_up up) {s:St} {enF:En} {G:Glob} (hs:Hp s [en_up,enF,(.gl G)]):MF Tryz.prog pct 53 [x_up,(enc num),(enc most)] s fun v s' =>ris v r∧Hp s' [en_up,enF, .gl G]:=by
 refine ZDD [(0,x_up),(1,(enc num)),(2,(enc most))] func53 rfl (by simp only[Tryz.f53];rfl) fun ψ=> ?_
 unfold ZGk at h;refine ZAB<|ZAC<|ZAG (v:=enc false) rfl<|ZAA<|ZAB<|ZAB<|ZAC<|ZAD rfl<|ZAL (v:=enc (IntKind.i64.wrap (most+1))) rfl rfl rfl<|ZAD (v:=enc (0:Int)) rfl<|ZAA<|ZAQ ?_
 obtain⟨o,hl,h⟩:=bs h;refine ZAm (fun(p:(Int×Int)) φ s=>match p with | (num1,v)=>Fx φ [(0,x_up),(1,(enc num1)),(9,(enc (IntKind.i64.wrap (most+1)))),(10,(enc v))]∧Hp s [en_up,enF,(.gl G)]) (fun(o:(Unit ⊕ Bool)) e φ s=>match o with | (.inl _)=>e= .exit 0∧Fx φ []∧Hp s [en_up,enF,(.gl G)] | (.inr v1)=>e= .ret∧Fx φ [(6,(enc v1))]∧Hp s [en_up,enF,(.gl G)]) ?_ hl ⟨FxR rfl,hs⟩ ?_
 ·rintro⟨num1,v⟩ o h φ s ⟨hF,hs⟩;rw[←hF.eq];rw[ZDu] at h;refine ZAB<|ZAC<|ZAL (v:=enc (decide (v<(IntKind.i64.wrap (most+1))))) rfl rfl rfl<|ZAA<|ZAB ?_
  split at h
  ·rename_i c';refine ZAI rfl c'<|ZAM<|ZAB<|ZAQ<|ZAB<|ZAC<|ZAD (v:=x_up) rfl<|ZAD rfl<|ZPF (xs:=up) (k:=num1) underlying64 underlying3 (by kernel_rfl) rfl rfl hm_up hs fun w hw=>ZAG (v:=w) rfl<|ZAA<|ZAB<|ZAB<|ZAC<|ZAD (v:=w) rfl ?_
   refine ZAp underlying35 rfl rfl hw<|ZAL (v:=enc (((((mget up num1).getD []).length:Int)==0):Bool)) rfl rfl rfl<|ZAA ?_
   split at h
   ·rename_i c';refine ZAI rfl c'<|ZAB<|ZAC<|ZAG (v:=enc true) rfl<|ZAA<|ZAN ?_
    show if _ then _ else _
    rw[if_neg (by simp)]
    rw[←oi h];exact⟨_,rfl,rfl,⟨FxR rfl,hs⟩⟩
   rename_i c';refine ZAJ rfl c'<|ZAM<|ZAC<|ZAD (v:=w) rfl ?_
   obtain⟨v2,hx,h⟩:=bs h;refine ZAv underlying35 sh3 rfl rfl hw hx fun p hp=>ZCq rfl ag3 rfl hp fun y hy=> ?_
   cases hy;refine ZAG rfl<|ZAA<|ZAC<|ZAL (v:=enc (IntKind.i64.wrap (v+1))) rfl rfl rfl<|ZAD rfl<|ZAA ?_
   rw[←oi h];exact⟨_,rfl,⟨FxR rfl,hs⟩⟩
  rename_i c';refine ZAJ rfl c'<|ZAl ?_
  rw[←oi h];exact⟨_,rfl,rfl,⟨trivial,hs⟩⟩
 intro e φ s hE;rcases o with _u | v1
 ·obtain⟨rfl,hF,hs⟩:=hE;rw[←hF.eq];rw[ZFf] at h;show if _ then _ else _
  rw[if_pos rfl];refine ZAB<|ZAC<|ZAG (v:=enc false) rfl<|ZAA<|ZAN ?_
  rw[←oi h];exact⟨rfl,KN1 rfl rfl ⟨(rfl:is _ (false:Bool)),hs⟩⟩
 obtain⟨rfl,hF,hs⟩:=hE;rw[←hF.eq];rw[ZFf] at h;show if _ then _ else _
 rw[if_neg (by simp)]
 rw[←oi h];exact⟨rfl,KN1 rfl rfl ⟨(rfl:is _ v1),hs⟩⟩
end Go.Ai.Rab
end
