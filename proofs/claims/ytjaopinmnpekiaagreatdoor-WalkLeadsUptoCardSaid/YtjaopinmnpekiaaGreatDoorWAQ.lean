/- My own texts DevPgF, DevP0, DevPp1, DevPp2, DevPp3, DevPp4, DevPp5, DevPp6, one behind the other. -/
import Derived.Test.YtjaopinmnpekiaaGreatDoorWAE
import Derived.Test.YtjaopinmnpekiaaGreatDoorWAP
import Derived.Test.YtjaopinmnpekiaaGreatDoorWAN
import Derived.Test.YtjaopinmnpekiaaGreatDoorWAD
import Derived.Lib.TrimUEq
import Derived.Lib.QuoteLoop
import Derived.Lib.ValidLaws
import Derived.Lib.IndexLaws
set_option linter.unusedVariables false
set_option linter.unusedSimpArgs false
section
set_option maxRecDepth 100000
set_option maxHeartbeats 16000000
attribute [local irreducible] Go.Ai.TC Go.Ai.TO Go.Ai.MF Go.Ai.ZCS Go.Ai.ZBg Go.Ai.encR
open Go.Ai.Enc (enc is)
open Go.Ai.Res (res ris)
open Go.Ai.Args (args)
open Go.Ai.Flds (fe fi fk)
namespace Go.Ai

end Go.Ai
namespace Go.Ai.TTryz
open Go.Proofs
theorem ef47:EF Tryz.prog 47 9 144:=ZML (by kernel_rfl)
def zx24:List AV:=[.nils,enc (0:Int)]
theorem zr24:ZBM Tryz.prog 24=some (.agg zx24):=by kernel_rfl
theorem zf24:fi zx24 (Rec.mk (([]:(List ZAO)),(0:Int),()):FsR).v:=⟨_,_,rfl,isL.nil,⟨_,_,rfl,rfl,rfl⟩⟩
theorem bu24:buB Tryz.prog 24 2=true:=by kernel_rfl
theorem ZUi:flB Tryz.prog 29 0=true:=by kernel_rfl
theorem ZUj:flB Tryz.prog 29 1=true:=by kernel_rfl
end Go.Ai.TTryz
namespace Go.Ai.Rab
open Go.Proofs TTryz Tryz
noncomputable def ZBL:Option (FsR):=
 some ((Rec.mk ([(Rec.mk (1,2,(0:Int),1,([]:(List UInt8)),(str []),[(str [97]),(str [98])],[2,4],([]:(List ZAi)),()):ZAO),(Rec.mk (2,2,(0:Int),1,([]:(List UInt8)),(str []),[(str [108])],[3],([]:(List ZAi)),()):ZAO),(Rec.mk (3,3,(0:Int),1,([]:(List UInt8)),(str [46,46]),([]:(List Str)),([]:(List Int)),([]:(List ZAi)),()):ZAO),(Rec.mk (4,1,(0:Int),1,([]:(List UInt8)),(str []),([]:(List Str)),([]:(List Int)),([]:(List ZAi)),()):ZAO)],2,()):FsR))
noncomputable def ZEi (p:ZAU) (dir:Int) (s_:Str) (num:Int):Option (Bool):=
 ((if(p.v.1==dir) then some (eqS p.v.2.1 s_) else some false).bind fun b=>((if b then some (p.v.2.2.1==num) else some false).bind fun b1=>((if b1 then some (!p.v.2.2.2.1) else some false).bind fun b2=>some (b2))))
noncomputable def ZCY:Option (Bool):=
 ((ZBL).bind fun r_=>((ZA1 r_ (str [47,97,47,108,47,97]) true).bind fun r_1=>((ZBL).bind fun r_2=>((ZA1 r_2 (str [47,97,47,108]) false).bind fun r_3=>((ZBL).bind fun r_4=>((ZA1 r_4 (str [47,98,47,120]) true).bind fun r_5=>((ZBL).bind fun r_6=>((ZA1 r_6 (str [47,97,47,110,101,119]) true).bind fun r_7=>((ZBL).bind fun r_8=>((ZA1 r_8 (str [47,98,47]) true).bind fun r_9=>((ZBL).bind fun r_10=>((ZA1 r_10 (str [47,46,46]) true).bind fun r_11=>((if(r_1.2==0) then some (r_1.1.v.2.2.1==2) else some false).bind fun b=>((if b then some (r_1.1.v.1==1) else some false).bind fun b1=>((if b1 then some (eqS r_1.1.v.2.1 (str [97])) else some false).bind fun b2=>((if b2 then some (r_3.2==0) else some false).bind fun b3=>((if b3 then some (r_3.1.v.2.2.1==3) else some false).bind fun b4=>((if b4 then some (r_5.2==203) else some false).bind fun b5=>((if b5 then some (r_7.2==0) else some false).bind fun b6=>((if b6 then((ZEi r_7.1 2 (str [110,101,119]) 0).bind fun r_12=>some r_12) else some false).bind fun b7=>((if b7 then some (r_9.2==203) else some false).bind fun b8=>((if b8 then some (r_11.2==0) else some false).bind fun b9=>((if b9 then((ZEi r_11.1 1 (str []) 1).bind fun r_13=>some r_13) else some false).bind fun b10=>((if b10 then((ZBL).bind fun r_14=>((ZBT r_14 2 1).bind fun r_15=>some r_15)) else some false).bind fun b11=>((if b11 then((ZBL).bind fun r_16=>((ZCF r_16 2).bind fun r_17=>some (eqS r_17 (str [47,97])))) else some false).bind fun b12=>some (b12))))))))))))))))))))))))))
noncomputable def ZFG (f:FsR) (path:Str) (follow:Bool) (num:Int) (dir:Int):Option (Bool):=
 ((ZDX f).bind fun r_=>(if(!r_) then((ZCY).bind fun r_1=>some (r_1)) else((ZA1 f path follow).bind fun r_2=>((ZEg f path follow).bind fun r_3=>((if(eqPl r_2.1 r_3.1) then some (r_2.2==r_3.2) else some false).bind fun b=>((if b then((ZBT f num dir).bind fun r_4=>((ZCl f num dir).bind fun r_5=>some (r_4==r_5))) else some false).bind fun b1=>((if b1 then((ZCF f num).bind fun r_6=>((ZEh f num).bind fun r_7=>some (eqS r_6 r_7))) else some false).bind fun b2=>((if b2 then((ZCY).bind fun r_8=>some r_8) else some false).bind fun b3=>some (b3)))))))))
theorem ZOG (mx:Int) (r:FsR) (h:ZBL=some r):MF Tryz.prog (ZVY mx) 21 [] (sG (NG mx)) fun v _=>ris v r:=by
 refine ZAh [] func21 rfl (by simp only[Tryz.f21];rfl) fun ψ=> ?_
 unfold ZBL at h;have hs:Hp (sG (NG mx)) [.gl (NG mx)]:=Hp.gl0
 refine ZAB<|ZAC<|ZBG (r:=(Rec.mk (([]:(List ZAO)),(0:Int),()):FsR)) zr24 zf24 hs fun m s hs=>ZAA<|ZAB<|ZAC<|ZDv [(enc ((str [97]):Str)),(enc ((str [98]):Str))] ([(str [97]),(str [98])]:(List Str)) underlying43 ef9 rfl rfl rfl (Nat.le_of_ble_eq_true rfl) ⟨(rfl:is _ ((str [97]):Str)),(rfl:is _ ((str [98]):Str)),trivial⟩ fun z hz hzc hzn=>ZDv [(enc (2:Int)),(enc (4:Int))] ([2,4]:(List Int)) underlying44 ef3 rfl rfl rfl (Nat.le_of_ble_eq_true rfl) ⟨(rfl:is _ (2:Int)),(rfl:is _ (4:Int)),trivial⟩ fun z1 hz1 hz1c hz1n=>ZBZ (r0:=((0:Int),(0:Int),(0:Int),(0:Int),([]:(List UInt8)),(str []),([]:(List Str)),([]:(List Int)),([]:(List ZAi)),())) bu47 zr47 zf47 rfl rfl (r:=(1,2,(0:Int),1,([]:(List UInt8)),(str []),[(str [97]),(str [98])],[2,4],([]:(List ZAi)),())) (.cons (z:=(1:Int)) Sz (rfl:is _ (1:Int)) (.cons (z:=(2:Int)) (Ss Sz) (rfl:is _ (2:Int)) (.cons (z:=(1:Int)) (Ss (Ss (Ss Sz))) (rfl:is _ (1:Int)) (.cons (z:=([(str [97]),(str [98])]:(List Str))) (Ss (Ss (Ss (Ss (Ss (Ss Sz)))))) hz (.cons (z:=([2,4]:(List Int))) (Ss (Ss (Ss (Ss (Ss (Ss (Ss Sz))))))) hz1 .nil))))) fun y hy=>ZDv [(enc ((str [108]):Str))] ([(str [108])]:(List Str)) underlying43 ef9 rfl rfl rfl (Nat.le_of_ble_eq_true rfl) ⟨(rfl:is _ ((str [108]):Str)),trivial⟩ fun z2 hz2 hz2c hz2n=> ?_
 refine ZDv [(enc (3:Int))] ([3]:(List Int)) underlying44 ef3 rfl rfl rfl (Nat.le_of_ble_eq_true rfl) ⟨(rfl:is _ (3:Int)),trivial⟩ fun z3 hz3 hz3c hz3n=>ZBZ (r0:=((0:Int),(0:Int),(0:Int),(0:Int),([]:(List UInt8)),(str []),([]:(List Str)),([]:(List Int)),([]:(List ZAi)),())) bu47 zr47 zf47 rfl rfl (r:=(2,2,(0:Int),1,([]:(List UInt8)),(str []),[(str [108])],[3],([]:(List ZAi)),())) (.cons (z:=(2:Int)) Sz (rfl:is _ (2:Int)) (.cons (z:=(2:Int)) (Ss Sz) (rfl:is _ (2:Int)) (.cons (z:=(1:Int)) (Ss (Ss (Ss Sz))) (rfl:is _ (1:Int)) (.cons (z:=([(str [108])]:(List Str))) (Ss (Ss (Ss (Ss (Ss (Ss Sz)))))) hz2 (.cons (z:=([3]:(List Int))) (Ss (Ss (Ss (Ss (Ss (Ss (Ss Sz))))))) hz3 .nil))))) fun y1 hy1=>ZBZ (r0:=((0:Int),(0:Int),(0:Int),(0:Int),([]:(List UInt8)),(str []),([]:(List Str)),([]:(List Int)),([]:(List ZAi)),())) bu47 zr47 zf47 rfl rfl (r:=(3,3,(0:Int),1,([]:(List UInt8)),(str [46,46]),([]:(List Str)),([]:(List Int)),([]:(List ZAi)),())) (.cons (z:=(3:Int)) Sz (rfl:is _ (3:Int)) (.cons (z:=(3:Int)) (Ss Sz) (rfl:is _ (3:Int)) (.cons (z:=(1:Int)) (Ss (Ss (Ss Sz))) (rfl:is _ (1:Int)) (.cons (z:=((str [46,46]):Str)) (Ss (Ss (Ss (Ss (Ss Sz))))) (rfl:is _ ((str [46,46]):Str)) .nil)))) fun y2 hy2=> ?_
 refine ZBZ (r0:=((0:Int),(0:Int),(0:Int),(0:Int),([]:(List UInt8)),(str []),([]:(List Str)),([]:(List Int)),([]:(List ZAi)),())) bu47 zr47 zf47 rfl rfl (r:=(4,1,(0:Int),1,([]:(List UInt8)),(str []),([]:(List Str)),([]:(List Int)),([]:(List ZAi)),())) (.cons (z:=(4:Int)) Sz (rfl:is _ (4:Int)) (.cons (z:=(1:Int)) (Ss Sz) (rfl:is _ (1:Int)) (.cons (z:=(1:Int)) (Ss (Ss (Ss Sz))) (rfl:is _ (1:Int)) .nil))) fun y3 hy3=>ZDv [y,y1,y2,y3] ([(Rec.mk (1,2,(0:Int),1,([]:(List UInt8)),(str []),[(str [97]),(str [98])],[2,4],([]:(List ZAi)),()):ZAO),(Rec.mk (2,2,(0:Int),1,([]:(List UInt8)),(str []),[(str [108])],[3],([]:(List ZAi)),()):ZAO),(Rec.mk (3,3,(0:Int),1,([]:(List UInt8)),(str [46,46]),([]:(List Str)),([]:(List Int)),([]:(List ZAi)),()):ZAO),(Rec.mk (4,1,(0:Int),1,([]:(List UInt8)),(str []),([]:(List Str)),([]:(List Int)),([]:(List ZAi)),()):ZAO)]:(List ZAO)) underlying22 ef47 rfl rfl rfl (Nat.le_of_ble_eq_true rfl) ⟨hy,hy1,hy2,hy3,trivial⟩ fun z4 hz4 hz4c hz4n=>ZBZ (r0:=(([]:(List ZAO)),(0:Int),())) bu24 zr24 zf24 rfl rfl (r:=([(Rec.mk (1,2,(0:Int),1,([]:(List UInt8)),(str []),[(str [97]),(str [98])],[2,4],([]:(List ZAi)),()):ZAO),(Rec.mk (2,2,(0:Int),1,([]:(List UInt8)),(str []),[(str [108])],[3],([]:(List ZAi)),()):ZAO),(Rec.mk (3,3,(0:Int),1,([]:(List UInt8)),(str [46,46]),([]:(List Str)),([]:(List Int)),([]:(List ZAi)),()):ZAO),(Rec.mk (4,1,(0:Int),1,([]:(List UInt8)),(str []),([]:(List Str)),([]:(List Int)),([]:(List ZAi)),()):ZAO)],2,())) (.cons (z:=(2:Int)) (Ss Sz) (rfl:is _ (2:Int)) (.cons (z:=([(Rec.mk (1,2,(0:Int),1,([]:(List UInt8)),(str []),[(str [97]),(str [98])],[2,4],([]:(List ZAi)),()):ZAO),(Rec.mk (2,2,(0:Int),1,([]:(List UInt8)),(str []),[(str [108])],[3],([]:(List ZAi)),()):ZAO),(Rec.mk (3,3,(0:Int),1,([]:(List UInt8)),(str [46,46]),([]:(List Str)),([]:(List Int)),([]:(List ZAi)),()):ZAO),(Rec.mk (4,1,(0:Int),1,([]:(List UInt8)),(str []),([]:(List Str)),([]:(List Int)),([]:(List ZAi)),()):ZAO)]:(List ZAO))) Sz hz4 .nil)) fun y4 hy4=> ?_
 refine ZAx (r:=(Rec.mk ([(Rec.mk (1,2,(0:Int),1,([]:(List UInt8)),(str []),[(str [97]),(str [98])],[2,4],([]:(List ZAi)),()):ZAO),(Rec.mk (2,2,(0:Int),1,([]:(List UInt8)),(str []),[(str [108])],[3],([]:(List ZAi)),()):ZAO),(Rec.mk (3,3,(0:Int),1,([]:(List UInt8)),(str [46,46]),([]:(List Str)),([]:(List Int)),([]:(List ZAi)),()):ZAO),(Rec.mk (4,1,(0:Int),1,([]:(List UInt8)),(str []),([]:(List Str)),([]:(List Int)),([]:(List ZAi)),()):ZAO)],2,()):FsR)) sz24 rfl rfl zf24 hy4 hs fun xs s hxs hs=>ZAA<|ZAN ?_
 obtain⟨w,hlw,hw⟩:=ldW (r:=(Rec.mk ([(Rec.mk (1,2,(0:Int),1,([]:(List UInt8)),(str []),[(str [97]),(str [98])],[2,4],([]:(List ZAi)),()):ZAO),(Rec.mk (2,2,(0:Int),1,([]:(List UInt8)),(str []),[(str [108])],[3],([]:(List ZAi)),()):ZAO),(Rec.mk (3,3,(0:Int),1,([]:(List UInt8)),(str [46,46]),([]:(List Str)),([]:(List Int)),([]:(List ZAi)),()):ZAO),(Rec.mk (4,1,(0:Int),1,([]:(List UInt8)),(str []),([]:(List Str)),([]:(List Int)),([]:(List ZAi)),()):ZAO)],2,()):FsR)) ag24 sz24 hxs hs;rw[←oi h];exact⟨rfl,KEc1 (a:=((Rec.mk ([(Rec.mk (1,2,(0:Int),1,([]:(List UInt8)),(str []),[(str [97]),(str [98])],[2,4],([]:(List ZAi)),()):ZAO),(Rec.mk (2,2,(0:Int),1,([]:(List UInt8)),(str []),[(str [108])],[3],([]:(List ZAi)),()):ZAO),(Rec.mk (3,3,(0:Int),1,([]:(List UInt8)),(str [46,46]),([]:(List Str)),([]:(List Int)),([]:(List ZAi)),()):ZAO),(Rec.mk (4,1,(0:Int),1,([]:(List UInt8)),(str []),([]:(List Str)),([]:(List Int)),([]:(List ZAi)),()):ZAO)],2,()):FsR):FsR)) rfl (.cell rfl hlw .nil) hw hw⟩
theorem ZOH (mx:Int):ZAq Tryz.prog 21 (FnG (NG mx) (fun a:Unit=>ZBL)):=fnCG (ZPF mx) ⟨_,func21,rfl⟩<|fun a r h=>ZOG mx r h
noncomputable def ps1 (mx:Int):Prims:=(ZVY mx).addG 21 (FnG (NG mx) (fun a:Unit=>ZBL))
theorem ZUk (mx:Int):ZAX Tryz.prog (ps1 mx):=ZAR (ZPF mx) (ZOH mx)
theorem ZOI (mx:Int) (p:ZAU) (dir:Int) (s_:Str) (num:Int) (r:Bool) (h:ZEi p dir s_ num=some r):MF Tryz.prog (ps1 mx) 13 [enc p,enc dir,enc s_,enc num] (sG (NG mx)) fun v _=>ris v r:=by
 refine ZAh [(0,enc p),(1,enc dir),(2,enc s_),(3,enc num)] func13 rfl (by simp only[Tryz.f13];rfl) fun ψ=> ?_
 unfold ZEi at h;have hs:Hp (sG (NG mx)) [.gl (NG mx)]:=Hp.gl0
 refine ZAB<|ZAC<|ZA5 (r:=p) rfl (Enc.self p) hs fun m xs s hxs hs=>ZAG (v:=enc false) rfl<|ZAA<|ZAB<|ZAC<|ZAV ZUi rfl<|ZAK ag3 Sz rfl hxs hs fun y hy=> ?_
 cases hy;refine ZAE rfl<|ZAJ (v:=enc (p.v.1==dir)) rfl rfl rfl<|ZAE rfl ?_
 obtain⟨b,hb_b,h⟩:=bs h;refine ZAS 5 (fun φ s=>Hp s [(.cells m xs),(.gl (NG mx))]∧Fx φ [(3,(enc num)),(4,(.ptr m 0)),(18,(enc b))]) ?_ ?_
 ·split at hb_b
  ·rename_i cg;refine ZAF rfl rfl cg<|ZAV ZUj rfl<|ZAF rfl rfl cg<|ZAK ag9 (Ss Sz) rfl hxs hs fun y1 hy1=> ?_
   cases hy1;refine ZAF rfl rfl cg<|ZAE rfl<|ZAF rfl rfl cg<|ZAJ (v:=enc ((eqS p.v.2.1 s_):Bool)) rfl rfl rfl<|ZAa rfl cg rfl<|ZAA ?_
   rw[←oi hb_b];exact⟨hs,FxR rfl⟩
  rename_i cg1;refine ZAD rfl rfl cg1<|ZAD rfl rfl cg1<|ZAD rfl rfl cg1<|ZAD rfl rfl cg1<|ZAZ (v:=enc false) rfl cg1 rfl<|ZAA ?_
  rw[←oi hb_b];exact⟨hs,FxR rfl⟩
 rintro φ s ⟨hs,hF⟩;rw[←hF.eq];refine ZAE rfl ?_
 obtain⟨b1,hb_b1,h⟩:=bs h;refine ZAS 5 (fun φ s=>Hp s [(.cells m xs),(.gl (NG mx))]∧Fx φ [(4,(.ptr m 0)),(24,(enc b1))]) ?_ ?_
 ·split at hb_b1
  ·rename_i cg2;refine ZAF rfl rfl cg2<|ZAV ZJc rfl<|ZAF rfl rfl cg2<|ZAK ag3 (Ss (Ss Sz)) rfl hxs hs fun y2 hy2=> ?_
   cases hy2;refine ZAF rfl rfl cg2<|ZAE rfl<|ZAF rfl rfl cg2<|ZAJ (v:=enc (p.v.2.2.1==num)) rfl rfl rfl<|ZAa rfl cg2 rfl<|ZAA ?_
   rw[←oi hb_b1];exact⟨hs,FxR rfl⟩
  rename_i cg3;refine ZAD rfl rfl cg3<|ZAD rfl rfl cg3<|ZAD rfl rfl cg3<|ZAD rfl rfl cg3<|ZAZ (v:=enc false) rfl cg3 rfl<|ZAA ?_
  rw[←oi hb_b1];exact⟨hs,FxR rfl⟩
 rintro φ s ⟨hs,hF⟩;rw[←hF.eq];refine ZAE rfl ?_
 obtain⟨b2,hb_b2,h⟩:=bs h;refine ZAS 4 (fun φ s=>Hp s [(.cells m xs),(.gl (NG mx))]∧Fx φ [(29,(enc b2))]) ?_ ?_
 ·split at hb_b2
  ·rename_i cg4;refine ZAF rfl rfl cg4<|ZAV ZO5 rfl<|ZAF rfl rfl cg4<|ZAK ag4 (Ss (Ss (Ss Sz))) rfl hxs hs fun y3 hy3=> ?_
   cases hy3;refine ZAF rfl rfl cg4<|ZBO (v:=enc (!p.v.2.2.2.1)) rfl rfl<|ZAa rfl cg4 rfl<|ZAA ?_
   rw[←oi hb_b2];exact⟨hs,FxR rfl⟩
  rename_i cg5;refine ZAD rfl rfl cg5<|ZAD rfl rfl cg5<|ZAD rfl rfl cg5<|ZAZ (v:=enc false) rfl cg5 rfl<|ZAA ?_
  rw[←oi hb_b2];exact⟨hs,FxR rfl⟩
 rintro φ s ⟨hs,hF⟩;rw[←hF.eq];refine ZAG rfl<|ZAA<|ZAN ?_
 rw[←oi h];exact⟨rfl,KE1 (a:=b2) rfl rfl (rfl:is _ b2) (rfl:is _ b2)⟩
theorem ZOJ (mx:Int):ZAq Tryz.prog 13 (FnG (NG mx) (fun a:ZAU×Int×Str×Int×Unit=>ZEi a.1 a.2.1 a.2.2.1 a.2.2.2.1)):=fnCG (ZUk mx) ⟨_,func13,rfl⟩<|fun a r h=>ZOI mx a.1 a.2.1 a.2.2.1 a.2.2.2.1 r h
noncomputable def ps2 (mx:Int):Prims:=(ps1 mx).addG 13 (FnG (NG mx) (fun a:ZAU×Int×Str×Int×Unit=>ZEi a.1 a.2.1 a.2.2.1 a.2.2.2.1))
theorem ZUl (mx:Int):ZAX Tryz.prog (ps2 mx):=ZAR (ZUk mx) (ZOJ mx)
theorem ZM6 (mx:Int) (r:Bool) (h:ZCY=some r):MF Tryz.prog (ps2 mx) 9 [] (sG (NG mx)) fun v _=>ris v r:=by
 refine ZAh [] func9 rfl (by simp only[Tryz.f9];rfl) fun ψ=> ?_
 unfold ZCY at h;have hs:Hp (sG (NG mx)) [.gl (NG mx)]:=Hp.gl0
 refine ZAB<|ZAC<|ZAG (v:=enc false) rfl<|ZAA<|ZAB<|ZAC ?_
 obtain⟨r_,hx,h⟩:=bs h;refine ZAY (f:=fun a:Unit=>ZBL) (a:=()) rfl func21 rfl rfl .nil hs List.mem_cons_self hx ?_
 obtain⟨r_1,hx1,h⟩:=bs h;refine ZAY (f:=fun a:FsR×Str×Bool×Unit=>ZA1 a.1 a.2.1 a.2.2.1) (a:=(r_,(str [47,97,47,108,47,97]),true,())) rfl func11 rfl rfl (.cons (a:=r_) (Enc.self r_) (.cons (a:=((str [47,97,47,108,47,97]):Str)) (Enc.self _) (.cons (a:=(true:Bool)) (rfl:is _ (true:Bool)) .nil))) hs List.mem_cons_self hx1<|ZAE (v:=res r_1) rfl<|ZAy rfl rfl<|ZAy rfl rfl<|ZBG (r:=(Rec.mk ((0:Int),(str []),(0:Int),false,()):ZAU)) zr29 zf29 hs fun m s hs=>ZAx (r:=r_1.1) sz29 rfl rfl zf29 (Enc.self r_1.1) hs fun xs s hxs hs=>ZAG rfl<|ZAA<|ZAB<|ZAC ?_
 obtain⟨r_2,hx2,h⟩:=bs h;refine ZAY (f:=fun a:Unit=>ZBL) (a:=()) rfl func21 rfl rfl .nil hs (lM _ List.mem_cons_self) hx2 ?_
 obtain⟨r_3,hx3,h⟩:=bs h;refine ZAY (f:=fun a:FsR×Str×Bool×Unit=>ZA1 a.1 a.2.1 a.2.2.1) (a:=(r_2,(str [47,97,47,108]),false,())) rfl func11 rfl rfl (.cons (a:=r_2) (Enc.self r_2) (.cons (a:=((str [47,97,47,108]):Str)) (Enc.self _) (.cons (a:=(false:Bool)) (rfl:is _ (false:Bool)) .nil))) hs (lM _ List.mem_cons_self) hx3<|ZAE (v:=res r_3) rfl<|ZAy rfl rfl<|ZAy rfl rfl<|ZBG (r:=(Rec.mk ((0:Int),(str []),(0:Int),false,()):ZAU)) zr29 zf29 hs fun m1 s hs=>ZAx (r:=r_3.1) sz29 rfl rfl zf29 (Enc.self r_3.1) hs fun xs1 s hxs1 hs=>ZAG rfl<|ZAA<|ZAB<|ZAC ?_
 obtain⟨r_4,hx4,h⟩:=bs h;refine ZAY (f:=fun a:Unit=>ZBL) (a:=()) rfl func21 rfl rfl .nil hs (lM _ (lM _ List.mem_cons_self)) hx4 ?_
 obtain⟨r_5,hx5,h⟩:=bs h;refine ZAY (f:=fun a:FsR×Str×Bool×Unit=>ZA1 a.1 a.2.1 a.2.2.1) (a:=(r_4,(str [47,98,47,120]),true,())) rfl func11 rfl rfl (.cons (a:=r_4) (Enc.self r_4) (.cons (a:=((str [47,98,47,120]):Str)) (Enc.self _) (.cons (a:=(true:Bool)) (rfl:is _ (true:Bool)) .nil))) hs (lM _ (lM _ List.mem_cons_self)) hx5<|ZAE (v:=res r_5) rfl<|ZAy rfl rfl<|ZAy rfl rfl<|ZBG (r:=(Rec.mk ((0:Int),(str []),(0:Int),false,()):ZAU)) zr29 zf29 hs fun m2 s hs=>ZAx (r:=r_5.1) sz29 rfl rfl zf29 (Enc.self r_5.1) hs fun xs2 s hxs2 hs=>ZAG rfl<|ZAA<|ZAB<|ZAC ?_
 obtain⟨r_6,hx6,h⟩:=bs h;refine ZAY (f:=fun a:Unit=>ZBL) (a:=()) rfl func21 rfl rfl .nil hs (lM _ (lM _ (lM _ List.mem_cons_self))) hx6 ?_
 obtain⟨r_7,hx7,h⟩:=bs h;refine ZAY (f:=fun a:FsR×Str×Bool×Unit=>ZA1 a.1 a.2.1 a.2.2.1) (a:=(r_6,(str [47,97,47,110,101,119]),true,())) rfl func11 rfl rfl (.cons (a:=r_6) (Enc.self r_6) (.cons (a:=((str [47,97,47,110,101,119]):Str)) (Enc.self _) (.cons (a:=(true:Bool)) (rfl:is _ (true:Bool)) .nil))) hs (lM _ (lM _ (lM _ List.mem_cons_self))) hx7<|ZAE (v:=res r_7) rfl<|ZAy rfl rfl<|ZAy rfl rfl<|ZBG (r:=(Rec.mk ((0:Int),(str []),(0:Int),false,()):ZAU)) zr29 zf29 hs fun m3 s hs=>ZAx (r:=r_7.1) sz29 rfl rfl zf29 (Enc.self r_7.1) hs fun xs3 s hxs3 hs=>ZAG rfl<|ZAA<|ZAB<|ZAC ?_
 obtain⟨r_8,hx8,h⟩:=bs h;refine ZAY (f:=fun a:Unit=>ZBL) (a:=()) rfl func21 rfl rfl .nil hs (lM _ (lM _ (lM _ (lM _ List.mem_cons_self)))) hx8 ?_
 obtain⟨r_9,hx9,h⟩:=bs h;refine ZAY (f:=fun a:FsR×Str×Bool×Unit=>ZA1 a.1 a.2.1 a.2.2.1) (a:=(r_8,(str [47,98,47]),true,())) rfl func11 rfl rfl (.cons (a:=r_8) (Enc.self r_8) (.cons (a:=((str [47,98,47]):Str)) (Enc.self _) (.cons (a:=(true:Bool)) (rfl:is _ (true:Bool)) .nil))) hs (lM _ (lM _ (lM _ (lM _ List.mem_cons_self)))) hx9<|ZAE (v:=res r_9) rfl<|ZAy rfl rfl<|ZAy rfl rfl<|ZBG (r:=(Rec.mk ((0:Int),(str []),(0:Int),false,()):ZAU)) zr29 zf29 hs fun m4 s hs=>ZAx (r:=r_9.1) sz29 rfl rfl zf29 (Enc.self r_9.1) hs fun xs4 s hxs4 hs=>ZAG rfl<|ZAA<|ZAB<|ZAC ?_
 obtain⟨r_10,hx10,h⟩:=bs h;refine ZAY (f:=fun a:Unit=>ZBL) (a:=()) rfl func21 rfl rfl .nil hs (lM _ (lM _ (lM _ (lM _ (lM _ List.mem_cons_self))))) hx10 ?_
 obtain⟨r_11,hx11,h⟩:=bs h;refine ZAY (f:=fun a:FsR×Str×Bool×Unit=>ZA1 a.1 a.2.1 a.2.2.1) (a:=(r_10,(str [47,46,46]),true,())) rfl func11 rfl rfl (.cons (a:=r_10) (Enc.self r_10) (.cons (a:=((str [47,46,46]):Str)) (Enc.self _) (.cons (a:=(true:Bool)) (rfl:is _ (true:Bool)) .nil))) hs (lM _ (lM _ (lM _ (lM _ (lM _ List.mem_cons_self))))) hx11<|ZAE (v:=res r_11) rfl<|ZAy rfl rfl<|ZAy rfl rfl<|ZBG (r:=(Rec.mk ((0:Int),(str []),(0:Int),false,()):ZAU)) zr29 zf29 hs fun m5 s hs=>ZAx (r:=r_11.1) sz29 rfl rfl zf29 (Enc.self r_11.1) hs fun xs5 s hxs5 hs=>ZAG rfl<|ZAA<|ZAB<|ZAC<|ZAE rfl<|ZAJ (v:=enc (r_1.2==0)) rfl rfl rfl<|ZAE rfl ?_
 obtain⟨b,hb_b,h⟩:=bs h;refine ZAS 4 (fun φ s=>Hp s [(.cells m5 xs5),(.cells m4 xs4),(.cells m3 xs3),(.cells m2 xs2),(.cells m1 xs1),(.cells m xs),(.gl (NG mx))]∧Fx φ [(1,(.ptr m 0)),(3,(.ptr m1 0)),(4,(enc r_3.2)),(6,(enc r_5.2)),(7,(.ptr m3 0)),(8,(enc r_7.2)),(10,(enc r_9.2)),(11,(.ptr m5 0)),(12,(enc r_11.2)),(49,(enc b))]) ?_ ?_
 ·split at hb_b
  ·rename_i cg;refine ZAF rfl rfl cg<|ZAV ZJc rfl<|ZAF rfl rfl cg ?_
   replace hs:=Hp.front [(.cells m5 xs5),(.cells m4 xs4),(.cells m3 xs3),(.cells m2 xs2),(.cells m1 xs1)] (b:=[(.gl (NG mx))]) hs;refine ZAK ag3 (Ss (Ss Sz)) rfl hxs hs fun y hy=> ?_
   cases hy;refine ZAF rfl rfl cg<|ZAJ (v:=enc (r_1.1.v.2.2.1==2)) rfl rfl rfl<|ZAa rfl cg rfl<|ZAA ?_
   rw[←oi hb_b];exact⟨(Hp.front [(.cells m4 xs4),(.cells m3 xs3),(.cells m2 xs2),(.cells m1 xs1),(.cells m xs),(.gl (NG mx))] (b:=[]) (Hp.front [(.cells m3 xs3),(.cells m2 xs2),(.cells m1 xs1),(.cells m xs),(.gl (NG mx)),(.cells m5 xs5)] (b:=[]) (Hp.front [(.cells m2 xs2),(.cells m1 xs1),(.cells m xs),(.gl (NG mx)),(.cells m5 xs5),(.cells m4 xs4)] (b:=[]) (Hp.front [(.cells m1 xs1),(.cells m xs),(.gl (NG mx)),(.cells m5 xs5),(.cells m4 xs4),(.cells m3 xs3)] (b:=[]) (Hp.front [(.cells m xs),(.gl (NG mx)),(.cells m5 xs5),(.cells m4 xs4),(.cells m3 xs3),(.cells m2 xs2)] (b:=[]) (Hp.front [(.gl (NG mx))] (b:=[(.cells m5 xs5),(.cells m4 xs4),(.cells m3 xs3),(.cells m2 xs2),(.cells m1 xs1)]) (Hp.front [(.cells m xs),(.cells m5 xs5),(.cells m4 xs4),(.cells m3 xs3),(.cells m2 xs2),(.cells m1 xs1)] (b:=[]) hs))))))),FxR rfl⟩
  rename_i cg1;refine ZAD rfl rfl cg1<|ZAD rfl rfl cg1<|ZAD rfl rfl cg1<|ZAZ (v:=enc false) rfl cg1 rfl<|ZAA ?_
  rw[←oi hb_b];exact⟨hs,FxR rfl⟩
 rintro φ s ⟨hs,hF⟩;rw[←hF.eq];refine ZAE rfl ?_
 obtain⟨b1,hb_b1,h⟩:=bs h;refine ZAS 4 (fun φ s=>Hp s [(.cells m5 xs5),(.cells m4 xs4),(.cells m3 xs3),(.cells m2 xs2),(.cells m1 xs1),(.cells m xs),(.gl (NG mx))]∧Fx φ [(1,(.ptr m 0)),(3,(.ptr m1 0)),(4,(enc r_3.2)),(6,(enc r_5.2)),(7,(.ptr m3 0)),(8,(enc r_7.2)),(10,(enc r_9.2)),(11,(.ptr m5 0)),(12,(enc r_11.2)),(54,(enc b1))]) ?_ ?_
 ·split at hb_b1
  ·rename_i cg2;refine ZAF rfl rfl cg2<|ZAV ZUi rfl<|ZAF rfl rfl cg2 ?_
   replace hs:=Hp.front [(.cells m5 xs5),(.cells m4 xs4),(.cells m3 xs3),(.cells m2 xs2),(.cells m1 xs1)] (b:=[(.gl (NG mx))]) hs;refine ZAK ag3 Sz rfl hxs hs fun y1 hy1=> ?_
   cases hy1;refine ZAF rfl rfl cg2<|ZAJ (v:=enc (r_1.1.v.1==1)) rfl rfl rfl<|ZAa rfl cg2 rfl<|ZAA ?_
   rw[←oi hb_b1];exact⟨(Hp.front [(.cells m4 xs4),(.cells m3 xs3),(.cells m2 xs2),(.cells m1 xs1),(.cells m xs),(.gl (NG mx))] (b:=[]) (Hp.front [(.cells m3 xs3),(.cells m2 xs2),(.cells m1 xs1),(.cells m xs),(.gl (NG mx)),(.cells m5 xs5)] (b:=[]) (Hp.front [(.cells m2 xs2),(.cells m1 xs1),(.cells m xs),(.gl (NG mx)),(.cells m5 xs5),(.cells m4 xs4)] (b:=[]) (Hp.front [(.cells m1 xs1),(.cells m xs),(.gl (NG mx)),(.cells m5 xs5),(.cells m4 xs4),(.cells m3 xs3)] (b:=[]) (Hp.front [(.cells m xs),(.gl (NG mx)),(.cells m5 xs5),(.cells m4 xs4),(.cells m3 xs3),(.cells m2 xs2)] (b:=[]) (Hp.front [(.gl (NG mx))] (b:=[(.cells m5 xs5),(.cells m4 xs4),(.cells m3 xs3),(.cells m2 xs2),(.cells m1 xs1)]) (Hp.front [(.cells m xs),(.cells m5 xs5),(.cells m4 xs4),(.cells m3 xs3),(.cells m2 xs2),(.cells m1 xs1)] (b:=[]) hs))))))),FxR rfl⟩
  rename_i cg3;refine ZAD rfl rfl cg3<|ZAD rfl rfl cg3<|ZAD rfl rfl cg3<|ZAZ (v:=enc false) rfl cg3 rfl<|ZAA ?_
  rw[←oi hb_b1];exact⟨hs,FxR rfl⟩
 rintro φ s ⟨hs,hF⟩;rw[←hF.eq];refine ZAE rfl ?_
 obtain⟨b2,hb_b2,h⟩:=bs h;refine ZAS 4 (fun φ s=>Hp s [(.cells m5 xs5),(.cells m4 xs4),(.cells m3 xs3),(.cells m2 xs2),(.cells m1 xs1),(.cells m xs),(.gl (NG mx))]∧Fx φ [(3,(.ptr m1 0)),(4,(enc r_3.2)),(6,(enc r_5.2)),(7,(.ptr m3 0)),(8,(enc r_7.2)),(10,(enc r_9.2)),(11,(.ptr m5 0)),(12,(enc r_11.2)),(59,(enc b2))]) ?_ ?_
 ·split at hb_b2
  ·rename_i cg4;refine ZAF rfl rfl cg4<|ZAV ZUj rfl<|ZAF rfl rfl cg4 ?_
   replace hs:=Hp.front [(.cells m5 xs5),(.cells m4 xs4),(.cells m3 xs3),(.cells m2 xs2),(.cells m1 xs1)] (b:=[(.gl (NG mx))]) hs;refine ZAK ag9 (Ss Sz) rfl hxs hs fun y2 hy2=> ?_
   cases hy2;refine ZAF rfl rfl cg4<|ZAJ (v:=enc ((eqS r_1.1.v.2.1 (str [97])):Bool)) rfl rfl rfl<|ZAa rfl cg4 rfl<|ZAA ?_
   rw[←oi hb_b2];exact⟨(Hp.front [(.cells m4 xs4),(.cells m3 xs3),(.cells m2 xs2),(.cells m1 xs1),(.cells m xs),(.gl (NG mx))] (b:=[]) (Hp.front [(.cells m3 xs3),(.cells m2 xs2),(.cells m1 xs1),(.cells m xs),(.gl (NG mx)),(.cells m5 xs5)] (b:=[]) (Hp.front [(.cells m2 xs2),(.cells m1 xs1),(.cells m xs),(.gl (NG mx)),(.cells m5 xs5),(.cells m4 xs4)] (b:=[]) (Hp.front [(.cells m1 xs1),(.cells m xs),(.gl (NG mx)),(.cells m5 xs5),(.cells m4 xs4),(.cells m3 xs3)] (b:=[]) (Hp.front [(.cells m xs),(.gl (NG mx)),(.cells m5 xs5),(.cells m4 xs4),(.cells m3 xs3),(.cells m2 xs2)] (b:=[]) (Hp.front [(.gl (NG mx))] (b:=[(.cells m5 xs5),(.cells m4 xs4),(.cells m3 xs3),(.cells m2 xs2),(.cells m1 xs1)]) (Hp.front [(.cells m xs),(.cells m5 xs5),(.cells m4 xs4),(.cells m3 xs3),(.cells m2 xs2),(.cells m1 xs1)] (b:=[]) hs))))))),FxR rfl⟩
  rename_i cg5;refine ZAD rfl rfl cg5<|ZAD rfl rfl cg5<|ZAD rfl rfl cg5<|ZAZ (v:=enc false) rfl cg5 rfl<|ZAA ?_
  rw[←oi hb_b2];exact⟨hs,FxR rfl⟩
 rintro φ s ⟨hs,hF⟩;rw[←hF.eq];refine ZAE rfl ?_
 obtain⟨b3,hb_b3,h⟩:=bs h;refine ZAS 3 (fun φ s=>Hp s [(.cells m5 xs5),(.cells m4 xs4),(.cells m3 xs3),(.cells m2 xs2),(.cells m1 xs1),(.cells m xs),(.gl (NG mx))]∧Fx φ [(3,(.ptr m1 0)),(6,(enc r_5.2)),(7,(.ptr m3 0)),(8,(enc r_7.2)),(10,(enc r_9.2)),(11,(.ptr m5 0)),(12,(enc r_11.2)),(63,(enc b3))]) ?_ ?_
 ·split at hb_b3
  ·rename_i cg6;refine ZAF rfl rfl cg6<|ZAE rfl<|ZAF rfl rfl cg6<|ZAJ (v:=enc (r_3.2==0)) rfl rfl rfl<|ZAa rfl cg6 rfl<|ZAA ?_
   rw[←oi hb_b3];exact⟨hs,FxR rfl⟩
  rename_i cg7;refine ZAD rfl rfl cg7<|ZAD rfl rfl cg7<|ZAZ (v:=enc false) rfl cg7 rfl<|ZAA ?_
  rw[←oi hb_b3];exact⟨hs,FxR rfl⟩
 rintro φ s ⟨hs,hF⟩;rw[←hF.eq];refine ZAE rfl ?_
 obtain⟨b4,hb_b4,h⟩:=bs h;refine ZAS 4 (fun φ s=>Hp s [(.cells m5 xs5),(.cells m4 xs4),(.cells m3 xs3),(.cells m2 xs2),(.cells m1 xs1),(.cells m xs),(.gl (NG mx))]∧Fx φ [(6,(enc r_5.2)),(7,(.ptr m3 0)),(8,(enc r_7.2)),(10,(enc r_9.2)),(11,(.ptr m5 0)),(12,(enc r_11.2)),(68,(enc b4))]) ?_ ?_
 ·split at hb_b4
  ·rename_i cg8;refine ZAF rfl rfl cg8<|ZAV ZJc rfl<|ZAF rfl rfl cg8 ?_
   replace hs:=Hp.front [(.cells m5 xs5),(.cells m4 xs4),(.cells m3 xs3),(.cells m2 xs2)] (b:=[(.cells m xs),(.gl (NG mx))]) hs;refine ZAK ag3 (Ss (Ss Sz)) rfl hxs1 hs fun y3 hy3=> ?_
   cases hy3;refine ZAF rfl rfl cg8<|ZAJ (v:=enc (r_3.1.v.2.2.1==3)) rfl rfl rfl<|ZAa rfl cg8 rfl<|ZAA ?_
   rw[←oi hb_b4];exact⟨(Hp.front [(.cells m4 xs4),(.cells m3 xs3),(.cells m2 xs2),(.cells m1 xs1),(.cells m xs),(.gl (NG mx))] (b:=[]) (Hp.front [(.cells m3 xs3),(.cells m2 xs2),(.cells m1 xs1),(.cells m xs),(.gl (NG mx)),(.cells m5 xs5)] (b:=[]) (Hp.front [(.cells m2 xs2),(.cells m1 xs1),(.cells m xs),(.gl (NG mx)),(.cells m5 xs5),(.cells m4 xs4)] (b:=[]) (Hp.front [(.cells m1 xs1),(.cells m xs),(.gl (NG mx)),(.cells m5 xs5),(.cells m4 xs4),(.cells m3 xs3)] (b:=[]) (Hp.front [(.cells m xs),(.gl (NG mx))] (b:=[(.cells m5 xs5),(.cells m4 xs4),(.cells m3 xs3),(.cells m2 xs2)]) (Hp.front [(.gl (NG mx)),(.cells m1 xs1),(.cells m5 xs5),(.cells m4 xs4),(.cells m3 xs3),(.cells m2 xs2)] (b:=[]) (Hp.front [(.cells m1 xs1),(.cells m5 xs5),(.cells m4 xs4),(.cells m3 xs3),(.cells m2 xs2),(.cells m xs)] (b:=[]) hs))))))),FxR rfl⟩
  rename_i cg9;refine ZAD rfl rfl cg9<|ZAD rfl rfl cg9<|ZAD rfl rfl cg9<|ZAZ (v:=enc false) rfl cg9 rfl<|ZAA ?_
  rw[←oi hb_b4];exact⟨hs,FxR rfl⟩
 rintro φ s ⟨hs,hF⟩;rw[←hF.eq];refine ZAE rfl ?_
 obtain⟨b5,hb_b5,h⟩:=bs h;refine ZAS 3 (fun φ s=>Hp s [(.cells m5 xs5),(.cells m4 xs4),(.cells m3 xs3),(.cells m2 xs2),(.cells m1 xs1),(.cells m xs),(.gl (NG mx))]∧Fx φ [(7,(.ptr m3 0)),(8,(enc r_7.2)),(10,(enc r_9.2)),(11,(.ptr m5 0)),(12,(enc r_11.2)),(72,(enc b5))]) ?_ ?_
 ·split at hb_b5
  ·rename_i cg10;refine ZAF rfl rfl cg10<|ZAE rfl<|ZAF rfl rfl cg10<|ZAJ (v:=enc (r_5.2==203)) rfl rfl rfl<|ZAa rfl cg10 rfl<|ZAA ?_
   rw[←oi hb_b5];exact⟨hs,FxR rfl⟩
  rename_i cg11;refine ZAD rfl rfl cg11<|ZAD rfl rfl cg11<|ZAZ (v:=enc false) rfl cg11 rfl<|ZAA ?_
  rw[←oi hb_b5];exact⟨hs,FxR rfl⟩
 rintro φ s ⟨hs,hF⟩;rw[←hF.eq];refine ZAE rfl ?_
 obtain⟨b6,hb_b6,h⟩:=bs h;refine ZAS 3 (fun φ s=>Hp s [(.cells m5 xs5),(.cells m4 xs4),(.cells m3 xs3),(.cells m2 xs2),(.cells m1 xs1),(.cells m xs),(.gl (NG mx))]∧Fx φ [(7,(.ptr m3 0)),(10,(enc r_9.2)),(11,(.ptr m5 0)),(12,(enc r_11.2)),(76,(enc b6))]) ?_ ?_
 ·split at hb_b6
  ·rename_i cg12;refine ZAF rfl rfl cg12<|ZAE rfl<|ZAF rfl rfl cg12<|ZAJ (v:=enc (r_7.2==0)) rfl rfl rfl<|ZAa rfl cg12 rfl<|ZAA ?_
   rw[←oi hb_b6];exact⟨hs,FxR rfl⟩
  rename_i cg13;refine ZAD rfl rfl cg13<|ZAD rfl rfl cg13<|ZAZ (v:=enc false) rfl cg13 rfl<|ZAA ?_
  rw[←oi hb_b6];exact⟨hs,FxR rfl⟩
 rintro φ s ⟨hs,hF⟩;rw[←hF.eq];refine ZAE rfl ?_
 obtain⟨b7,hb_b7,h⟩:=bs h;refine ZAS 3 (fun φ s=>Hp s [(.cells m5 xs5),(.cells m4 xs4),(.cells m3 xs3),(.cells m2 xs2),(.cells m1 xs1),(.cells m xs),(.gl (NG mx))]∧Fx φ [(10,(enc r_9.2)),(11,(.ptr m5 0)),(12,(enc r_11.2)),(80,(enc b7))]) ?_ ?_
 ·split at hb_b7
  ·rename_i cg14;refine ZAF rfl rfl cg14 ?_
   replace hs:=Hp.front [(.cells m5 xs5),(.cells m4 xs4)] (b:=[(.cells m2 xs2),(.cells m1 xs1),(.cells m xs),(.gl (NG mx))]) hs;refine ZAm (r:=r_7.1) ag29 sz29 rfl hxs3 hs fun y4 hy4=>ZAF rfl rfl cg14 ?_
   obtain⟨r_12,hx12,hb_b7⟩:=bs hb_b7;refine ZAY (f:=fun a:ZAU×Int×Str×Int×Unit=>ZEi a.1 a.2.1 a.2.2.1 a.2.2.2.1) (a:=(r_7.1,2,(str [110,101,119]),0,())) rfl func13 rfl rfl (.cons (a:=(r_7.1:ZAU)) hy4 (.cons (a:=(2:Int)) (rfl:is _ (2:Int)) (.cons (a:=((str [110,101,119]):Str)) (Enc.self _) (.cons (a:=(0:Int)) (rfl:is _ (0:Int)) .nil)))) hs (lM _ (lM _ (lM _ (lM _ (lM _ (lM _ List.mem_cons_self)))))) hx12<|ZAa rfl cg14 rfl<|ZAA ?_
   rw[←oi hb_b7];exact⟨(Hp.front [(.cells m4 xs4),(.cells m3 xs3),(.cells m2 xs2),(.cells m1 xs1),(.cells m xs),(.gl (NG mx))] (b:=[]) (Hp.front [(.cells m3 xs3),(.cells m2 xs2),(.cells m1 xs1),(.cells m xs),(.gl (NG mx)),(.cells m5 xs5)] (b:=[]) (Hp.front [(.cells m2 xs2),(.cells m1 xs1),(.cells m xs),(.gl (NG mx))] (b:=[(.cells m5 xs5),(.cells m4 xs4)]) (Hp.front [(.cells m1 xs1),(.cells m xs),(.gl (NG mx)),(.cells m3 xs3),(.cells m5 xs5),(.cells m4 xs4)] (b:=[]) (Hp.front [(.cells m xs),(.gl (NG mx)),(.cells m3 xs3),(.cells m5 xs5),(.cells m4 xs4),(.cells m2 xs2)] (b:=[]) (Hp.front [(.gl (NG mx)),(.cells m3 xs3),(.cells m5 xs5),(.cells m4 xs4),(.cells m2 xs2),(.cells m1 xs1)] (b:=[]) (Hp.front [(.cells m3 xs3),(.cells m5 xs5),(.cells m4 xs4),(.cells m2 xs2),(.cells m1 xs1),(.cells m xs)] (b:=[]) hs))))))),FxR rfl⟩
  rename_i cg15;refine ZAD rfl rfl cg15<|ZAD rfl rfl cg15<|ZAZ (v:=enc false) rfl cg15 rfl<|ZAA ?_
  rw[←oi hb_b7];exact⟨hs,FxR rfl⟩
 rintro φ s ⟨hs,hF⟩;rw[←hF.eq];refine ZAE rfl ?_
 obtain⟨b8,hb_b8,h⟩:=bs h;refine ZAS 3 (fun φ s=>Hp s [(.cells m5 xs5),(.cells m4 xs4),(.cells m3 xs3),(.cells m2 xs2),(.cells m1 xs1),(.cells m xs),(.gl (NG mx))]∧Fx φ [(11,(.ptr m5 0)),(12,(enc r_11.2)),(84,(enc b8))]) ?_ ?_
 ·split at hb_b8
  ·rename_i cg16;refine ZAF rfl rfl cg16<|ZAE rfl<|ZAF rfl rfl cg16<|ZAJ (v:=enc (r_9.2==203)) rfl rfl rfl<|ZAa rfl cg16 rfl<|ZAA ?_
   rw[←oi hb_b8];exact⟨hs,FxR rfl⟩
  rename_i cg17;refine ZAD rfl rfl cg17<|ZAD rfl rfl cg17<|ZAZ (v:=enc false) rfl cg17 rfl<|ZAA ?_
  rw[←oi hb_b8];exact⟨hs,FxR rfl⟩
 rintro φ s ⟨hs,hF⟩;rw[←hF.eq];refine ZAE rfl ?_
 obtain⟨b9,hb_b9,h⟩:=bs h;refine ZAS 3 (fun φ s=>Hp s [(.cells m5 xs5),(.cells m4 xs4),(.cells m3 xs3),(.cells m2 xs2),(.cells m1 xs1),(.cells m xs),(.gl (NG mx))]∧Fx φ [(11,(.ptr m5 0)),(88,(enc b9))]) ?_ ?_
 ·split at hb_b9
  ·rename_i cg18;refine ZAF rfl rfl cg18<|ZAE rfl<|ZAF rfl rfl cg18<|ZAJ (v:=enc (r_11.2==0)) rfl rfl rfl<|ZAa rfl cg18 rfl<|ZAA ?_
   rw[←oi hb_b9];exact⟨hs,FxR rfl⟩
  rename_i cg19;refine ZAD rfl rfl cg19<|ZAD rfl rfl cg19<|ZAZ (v:=enc false) rfl cg19 rfl<|ZAA ?_
  rw[←oi hb_b9];exact⟨hs,FxR rfl⟩
 rintro φ s ⟨hs,hF⟩;rw[←hF.eq];refine ZAE rfl ?_
 obtain⟨b10,hb_b10,h⟩:=bs h;refine ZAS 3 (fun φ s=>Hp s [(.cells m5 xs5),(.cells m4 xs4),(.cells m3 xs3),(.cells m2 xs2),(.cells m1 xs1),(.cells m xs),(.gl (NG mx))]∧Fx φ [(92,(enc b10))]) ?_ ?_
 ·split at hb_b10
  ·rename_i cg20;refine ZAF rfl rfl cg20<|ZAm (r:=r_11.1) ag29 sz29 rfl hxs5 hs fun y5 hy5=>ZAF rfl rfl cg20 ?_
   obtain⟨r_13,hx13,hb_b10⟩:=bs hb_b10;refine ZAY (f:=fun a:ZAU×Int×Str×Int×Unit=>ZEi a.1 a.2.1 a.2.2.1 a.2.2.2.1) (a:=(r_11.1,1,(str []),1,())) rfl func13 rfl rfl (.cons (a:=(r_11.1:ZAU)) hy5 (.cons (a:=(1:Int)) (rfl:is _ (1:Int)) (.cons (a:=((str []):Str)) (Enc.self _) (.cons (a:=(1:Int)) (rfl:is _ (1:Int)) .nil)))) hs (lM _ (lM _ (lM _ (lM _ (lM _ (lM _ List.mem_cons_self)))))) hx13<|ZAa rfl cg20 rfl<|ZAA ?_
   rw[←oi hb_b10];exact⟨hs,FxR rfl⟩
  rename_i cg21;refine ZAD rfl rfl cg21<|ZAD rfl rfl cg21<|ZAZ (v:=enc false) rfl cg21 rfl<|ZAA ?_
  rw[←oi hb_b10];exact⟨hs,FxR rfl⟩
 rintro φ s ⟨hs,hF⟩;rw[←hF.eq];refine ZAE rfl ?_
 obtain⟨b11,hb_b11,h⟩:=bs h;refine ZAS 3 (fun φ s=>Hp s [(.cells m5 xs5),(.cells m4 xs4),(.cells m3 xs3),(.cells m2 xs2),(.cells m1 xs1),(.cells m xs),(.gl (NG mx))]∧Fx φ [(96,(enc b11))]) ?_ ?_
 ·split at hb_b11
  ·rename_i cg22;refine ZAF rfl rfl cg22 ?_
   obtain⟨r_14,hx14,hb_b11⟩:=bs hb_b11;refine ZAY (f:=fun a:Unit=>ZBL) (a:=()) rfl func21 rfl rfl .nil hs (lM _ (lM _ (lM _ (lM _ (lM _ (lM _ List.mem_cons_self)))))) hx14<|ZAF rfl rfl cg22 ?_
   obtain⟨r_15,hx15,hb_b11⟩:=bs hb_b11;refine ZAY (f:=fun a:FsR×Int×Int×Unit=>ZBT a.1 a.2.1 a.2.2.1) (a:=(r_14,2,1,())) rfl func15 rfl rfl (.cons (a:=r_14) (Enc.self r_14) (.cons (a:=(2:Int)) (rfl:is _ (2:Int)) (.cons (a:=(1:Int)) (rfl:is _ (1:Int)) .nil))) hs (lM _ (lM _ (lM _ (lM _ (lM _ (lM _ List.mem_cons_self)))))) hx15<|ZAa rfl cg22 rfl<|ZAA ?_
   rw[←oi hb_b11];exact⟨hs,FxR rfl⟩
  rename_i cg23;refine ZAD rfl rfl cg23<|ZAD rfl rfl cg23<|ZAZ (v:=enc false) rfl cg23 rfl<|ZAA ?_
  rw[←oi hb_b11];exact⟨hs,FxR rfl⟩
 rintro φ s ⟨hs,hF⟩;rw[←hF.eq];refine ZAE rfl ?_
 obtain⟨b12,hb_b12,h⟩:=bs h;refine ZAS 4 (fun φ s=>Hp s [(.cells m5 xs5),(.cells m4 xs4),(.cells m3 xs3),(.cells m2 xs2),(.cells m1 xs1),(.cells m xs),(.gl (NG mx))]∧Fx φ [(101,(enc b12))]) ?_ ?_
 ·split at hb_b12
  ·rename_i cg24;refine ZAF rfl rfl cg24 ?_
   obtain⟨r_16,hx16,hb_b12⟩:=bs hb_b12;refine ZAY (f:=fun a:Unit=>ZBL) (a:=()) rfl func21 rfl rfl .nil hs (lM _ (lM _ (lM _ (lM _ (lM _ (lM _ List.mem_cons_self)))))) hx16<|ZAF rfl rfl cg24 ?_
   obtain⟨r_17,hx17,hb_b12⟩:=bs hb_b12;refine ZAY (f:=fun a:FsR×Int×Unit=>ZCF a.1 a.2.1) (a:=(r_16,2,())) rfl func10 rfl rfl (.cons (a:=r_16) (Enc.self r_16) (.cons (a:=(2:Int)) (rfl:is _ (2:Int)) .nil)) hs (lM _ (lM _ (lM _ (lM _ (lM _ (lM _ List.mem_cons_self)))))) hx17<|ZAF rfl rfl cg24<|ZAJ (v:=enc ((eqS r_17 (str [47,97])):Bool)) rfl rfl rfl<|ZAa rfl cg24 rfl<|ZAA ?_
   rw[←oi hb_b12];exact⟨hs,FxR rfl⟩
  rename_i cg25;refine ZAD rfl rfl cg25<|ZAD rfl rfl cg25<|ZAD rfl rfl cg25<|ZAZ (v:=enc false) rfl cg25 rfl<|ZAA ?_
  rw[←oi hb_b12];exact⟨hs,FxR rfl⟩
 rintro φ s ⟨hs,hF⟩;rw[←hF.eq];refine ZAG rfl<|ZAA<|ZAN ?_
 rw[←oi h];exact⟨rfl,KE1 (a:=b12) rfl rfl (rfl:is _ b12) (rfl:is _ b12)⟩
theorem ZM7 (mx:Int):ZAq Tryz.prog 9 (FnG (NG mx) (fun a:Unit=>ZCY)):=fnCG (ZUl mx) ⟨_,func9,rfl⟩<|fun a r h=>ZM6 mx r h
noncomputable def ps3 (mx:Int):Prims:=(ps2 mx).addG 9 (FnG (NG mx) (fun a:Unit=>ZCY))
theorem ZWv (mx:Int):ZAX Tryz.prog (ps3 mx):=ZAR (ZUl mx) (ZM7 mx)
theorem ZM8 (mx:Int) (f:FsR) (path:Str) (follow:Bool) (num:Int) (dir:Int) (r:Bool) (h:ZFG f path follow num dir=some r):MF Tryz.prog (ps3 mx) 4 [enc f,enc path,enc follow,enc num,enc dir] (sG (NG mx)) fun v _=>ris v r:=by
 refine ZAh [(0,enc f),(1,enc path),(2,enc follow),(3,enc num),(4,enc dir)] func4 rfl (by simp only[Tryz.f4];rfl) fun ψ=> ?_
 unfold ZFG at h;have hs:Hp (sG (NG mx)) [.gl (NG mx)]:=Hp.gl0
 refine ZAB<|ZAC<|ZA5 (r:=f) rfl (Enc.self f) hs fun m xs s hxs hs=>ZAG (v:=enc false) rfl<|ZAA<|ZAB<|ZAB<|ZAC<|ZAm (r:=f) ag24 sz24 rfl hxs hs fun y hy=> ?_
 obtain⟨r_,hx,h⟩:=bs h;refine ZCr (f:=fun a:FsR×Unit=>ZDX a.1) (a:=(f,())) rfl func8 rfl rfl (.cons (a:=f) hy .nil) hx<|ZBO (v:=enc (!r_)) rfl rfl<|ZAA ?_
 split at h
 ·rename_i c';refine ZAH rfl c'<|ZAB<|ZAC ?_
  obtain⟨r_1,hx1,h⟩:=bs h;refine ZAY (f:=fun a:Unit=>ZCY) (a:=()) rfl func9 rfl rfl .nil hs (lM _ List.mem_cons_self) hx1<|ZAG rfl<|ZAA<|ZAN ?_
  rw[←oi h];exact⟨rfl,KE1 (a:=r_1) rfl rfl (rfl:is _ r_1) (rfl:is _ r_1)⟩
 rename_i c';refine ZAI rfl c'<|ZAL<|ZAB<|ZAC<|ZAm (r:=f) ag24 sz24 rfl hxs hs fun y1 hy1=>ZAE rfl<|ZAE rfl ?_
 obtain⟨r_2,hx2,h⟩:=bs h;refine ZAY (f:=fun a:FsR×Str×Bool×Unit=>ZA1 a.1 a.2.1 a.2.2.1) (a:=(f,path,follow,())) rfl func11 rfl rfl (.cons (a:=f) hy1 (.cons (a:=path) (Enc.self _) (.cons (a:=follow) (Enc.self _) .nil))) hs (lM _ List.mem_cons_self) hx2<|ZAE (v:=res r_2) rfl<|ZAy rfl rfl<|ZAy rfl rfl<|ZBG (r:=(Rec.mk ((0:Int),(str []),(0:Int),false,()):ZAU)) zr29 zf29 hs fun m1 s hs=>ZAx (r:=r_2.1) sz29 rfl rfl zf29 (Enc.self r_2.1) hs fun xs1 s hxs1 hs=>ZAG rfl<|ZAA<|ZAB<|ZAC ?_
 replace hs:=Hp.front [(.cells m1 xs1)] (b:=[(.gl (NG mx))]) hs;refine ZAm (r:=f) ag24 sz24 rfl hxs hs fun y2 hy2=>ZAE rfl<|ZAE rfl ?_
 obtain⟨r_3,hx3,h⟩:=bs h;refine ZAY (f:=fun a:FsR×Str×Bool×Unit=>ZEg a.1 a.2.1 a.2.2.1) (a:=(f,path,follow,())) rfl func14 rfl rfl (.cons (a:=f) hy2 (.cons (a:=path) (Enc.self _) (.cons (a:=follow) (Enc.self _) .nil))) hs (lM _ (lM _ List.mem_cons_self)) hx3<|ZAE (v:=res r_3) rfl<|ZAy rfl rfl<|ZAy rfl rfl<|ZBG (r:=(Rec.mk ((0:Int),(str []),(0:Int),false,()):ZAU)) zr29 zf29 hs fun m2 s hs=>ZAx (r:=r_3.1) sz29 rfl rfl zf29 (Enc.self r_3.1) hs fun xs2 s hxs2 hs=>ZAG rfl<|ZAA<|ZAB<|ZRE [0,1,2,3,4,5,6,7,8,9,10,11,13,14,15,12,16,17,18,19,20,21,23,24,22,25,26,27,28,29,30,31] (by kernel_rfl) ?_
 replace hs:=Hp.front [(.cells m2 xs2),(.cells m xs)] (b:=[(.gl (NG mx))]) hs;refine ZAm (r:=r_2.1) ag29 sz29 rfl hxs1 hs fun y3 hy3=> ?_
 replace hs:=Hp.front [(.cells m1 xs1)] (b:=[(.cells m xs),(.gl (NG mx))]) hs;refine ZAm (r:=r_3.1) ag29 sz29 rfl hxs2 hs fun y4 hy4=>ZVR (a:=r_2.1) (b:=r_3.1) rfl rfl hy3 hy4<|ZAE rfl ?_
 obtain⟨b,hb_b,h⟩:=bs h;refine ZAS 4 (fun φ s=>Hp s [(.cells m2 xs2),(.cells m1 xs1),(.cells m xs),(.gl (NG mx))]∧Fx φ [(3,(enc num)),(4,(enc dir)),(5,(.ptr m 0)),(40,(enc b))]) ?_ ?_
 ·split at hb_b
  ·rename_i cg;refine ZAF rfl rfl cg<|ZAE rfl<|ZAF rfl rfl cg<|ZAE rfl<|ZAF rfl rfl cg<|ZAJ (v:=enc (r_2.2==r_3.2)) rfl rfl rfl<|ZAa rfl cg rfl<|ZAA ?_
   rw[←oi hb_b];exact⟨hs,FxR rfl⟩
  rename_i cg1;refine ZAD rfl rfl cg1<|ZAD rfl rfl cg1<|ZAD rfl rfl cg1<|ZAZ (v:=enc false) rfl cg1 rfl<|ZAA ?_
  rw[←oi hb_b];exact⟨hs,FxR rfl⟩
 rintro φ s ⟨hs,hF⟩;rw[←hF.eq];refine ZAE rfl ?_
 obtain⟨b1,hb_b1,h⟩:=bs h;refine ZAS 10 (fun φ s=>Hp s [(.cells m2 xs2),(.cells m1 xs1),(.cells m xs),(.gl (NG mx))]∧Fx φ [(3,(enc num)),(5,(.ptr m 0)),(51,(enc b1))]) ?_ ?_
 ·split at hb_b1
  ·rename_i cg2;refine ZAF rfl rfl cg2 ?_
   replace hs:=Hp.front [(.cells m2 xs2),(.cells m1 xs1)] (b:=[(.gl (NG mx))]) hs;refine ZAm (r:=f) ag24 sz24 rfl hxs hs fun y5 hy5=>ZAF rfl rfl cg2<|ZAE rfl<|ZAF rfl rfl cg2<|ZAE rfl<|ZAF rfl rfl cg2<|ZAm (r:=f) ag24 sz24 rfl hxs hs fun y6 hy6=>ZAF rfl rfl cg2<|ZAE rfl<|ZAF rfl rfl cg2<|ZAE rfl<|ZAF rfl rfl cg2 ?_
   obtain⟨r_4,hx4,hb_b1⟩:=bs hb_b1;refine ZAY (f:=fun a:FsR×Int×Int×Unit=>ZBT a.1 a.2.1 a.2.2.1) (a:=(f,num,dir,())) rfl func15 rfl rfl (.cons (a:=f) hy5 (.cons (a:=num) (Enc.self _) (.cons (a:=dir) (Enc.self _) .nil))) hs (lM _ (lM _ (lM _ List.mem_cons_self))) hx4<|ZAF rfl rfl cg2 ?_
   obtain⟨r_5,hx5,hb_b1⟩:=bs hb_b1;refine ZAY (f:=fun a:FsR×Int×Int×Unit=>ZCl a.1 a.2.1 a.2.2.1) (a:=(f,num,dir,())) rfl func16 rfl rfl (.cons (a:=f) hy6 (.cons (a:=num) (Enc.self _) (.cons (a:=dir) (Enc.self _) .nil))) hs (lM _ (lM _ (lM _ List.mem_cons_self))) hx5<|ZAF rfl rfl cg2<|ZV8 underlying4 rfl rfl<|ZAa rfl cg2 rfl<|ZAA ?_
   rw[←oi hb_b1];exact⟨(Hp.front [(.cells m1 xs1),(.cells m xs),(.gl (NG mx))] (b:=[]) (Hp.front [(.cells m xs),(.gl (NG mx)),(.cells m2 xs2)] (b:=[]) (Hp.front [(.gl (NG mx))] (b:=[(.cells m2 xs2),(.cells m1 xs1)]) (Hp.front [(.cells m xs),(.cells m2 xs2),(.cells m1 xs1)] (b:=[]) hs)))),FxR rfl⟩
  rename_i cg3;refine ZAD rfl rfl cg3<|ZAD rfl rfl cg3<|ZAD rfl rfl cg3<|ZAD rfl rfl cg3<|ZAD rfl rfl cg3<|ZAD rfl rfl cg3<|ZAD rfl rfl cg3<|ZAD rfl rfl cg3<|ZAD rfl rfl cg3<|ZAZ (v:=enc false) rfl cg3 rfl<|ZAA ?_
  rw[←oi hb_b1];exact⟨hs,FxR rfl⟩
 rintro φ s ⟨hs,hF⟩;rw[←hF.eq];refine ZAE rfl ?_
 obtain⟨b2,hb_b2,h⟩:=bs h;refine ZAS 8 (fun φ s=>Hp s [(.cells m2 xs2),(.cells m1 xs1),(.cells m xs),(.gl (NG mx))]∧Fx φ [(60,(enc b2))]) ?_ ?_
 ·split at hb_b2
  ·rename_i cg4;refine ZAF rfl rfl cg4 ?_
   replace hs:=Hp.front [(.cells m2 xs2),(.cells m1 xs1)] (b:=[(.gl (NG mx))]) hs;refine ZAm (r:=f) ag24 sz24 rfl hxs hs fun y7 hy7=>ZAF rfl rfl cg4<|ZAE rfl<|ZAF rfl rfl cg4<|ZAm (r:=f) ag24 sz24 rfl hxs hs fun y8 hy8=>ZAF rfl rfl cg4<|ZAE rfl<|ZAF rfl rfl cg4 ?_
   obtain⟨r_6,hx6,hb_b2⟩:=bs hb_b2;refine ZAY (f:=fun a:FsR×Int×Unit=>ZCF a.1 a.2.1) (a:=(f,num,())) rfl func10 rfl rfl (.cons (a:=f) hy7 (.cons (a:=num) (Enc.self _) .nil)) hs (lM _ (lM _ (lM _ List.mem_cons_self))) hx6<|ZAF rfl rfl cg4 ?_
   obtain⟨r_7,hx7,hb_b2⟩:=bs hb_b2;refine ZAY (f:=fun a:FsR×Int×Unit=>ZEh a.1 a.2.1) (a:=(f,num,())) rfl func17 rfl rfl (.cons (a:=f) hy8 (.cons (a:=num) (Enc.self _) .nil)) hs (lM _ (lM _ (lM _ List.mem_cons_self))) hx7<|ZAF rfl rfl cg4<|ZAJ (v:=enc ((eqS r_6 r_7):Bool)) rfl rfl rfl<|ZAa rfl cg4 rfl<|ZAA ?_
   rw[←oi hb_b2];exact⟨(Hp.front [(.cells m1 xs1),(.cells m xs),(.gl (NG mx))] (b:=[]) (Hp.front [(.cells m xs),(.gl (NG mx)),(.cells m2 xs2)] (b:=[]) (Hp.front [(.gl (NG mx))] (b:=[(.cells m2 xs2),(.cells m1 xs1)]) (Hp.front [(.cells m xs),(.cells m2 xs2),(.cells m1 xs1)] (b:=[]) hs)))),FxR rfl⟩
  rename_i cg5;refine ZAD rfl rfl cg5<|ZAD rfl rfl cg5<|ZAD rfl rfl cg5<|ZAD rfl rfl cg5<|ZAD rfl rfl cg5<|ZAD rfl rfl cg5<|ZAD rfl rfl cg5<|ZAZ (v:=enc false) rfl cg5 rfl<|ZAA ?_
  rw[←oi hb_b2];exact⟨hs,FxR rfl⟩
 rintro φ s ⟨hs,hF⟩;rw[←hF.eq];refine ZAE rfl ?_
 obtain⟨b3,hb_b3,h⟩:=bs h;refine ZAS 2 (fun φ s=>Hp s [(.cells m2 xs2),(.cells m1 xs1),(.cells m xs),(.gl (NG mx))]∧Fx φ [(63,(enc b3))]) ?_ ?_
 ·split at hb_b3
  ·rename_i cg6;refine ZAF rfl rfl cg6 ?_
   obtain⟨r_8,hx8,hb_b3⟩:=bs hb_b3;refine ZAY (f:=fun a:Unit=>ZCY) (a:=()) rfl func9 rfl rfl .nil hs (lM _ (lM _ (lM _ List.mem_cons_self))) hx8<|ZAa rfl cg6 rfl<|ZAA ?_
   rw[←oi hb_b3];exact⟨hs,FxR rfl⟩
  rename_i cg7;refine ZAD rfl rfl cg7<|ZAZ (v:=enc false) rfl cg7 rfl<|ZAA ?_
  rw[←oi hb_b3];exact⟨hs,FxR rfl⟩
 rintro φ s ⟨hs,hF⟩;rw[←hF.eq];refine ZAG rfl<|ZAA<|ZAN ?_
 rw[←oi h];exact⟨rfl,KE1 (a:=b3) rfl rfl (rfl:is _ b3) (rfl:is _ b3)⟩
theorem ZM9 (mx:Int):ZAq Tryz.prog 4 (FnG (NG mx) (fun a:FsR×Str×Bool×Int×Int×Unit=>ZFG a.1 a.2.1 a.2.2.1 a.2.2.2.1 a.2.2.2.2.1)):=fnCG (ZWv mx) ⟨_,func4,rfl⟩<|fun a r h=>ZM8 mx a.1 a.2.1 a.2.2.1 a.2.2.2.1 a.2.2.2.2.1 r h
end Go.Ai.Rab
end
section
open Go.Ai.Enc (enc is)
open Go.Ai.Res (res ris)
open Go.Ai.Args (args)
namespace Go.Ai
theorem ZVZ {α:Type} (l:List α) (i:Nat):nth l (i:Int)=l[i]? :=by simp[nth]
theorem ZBo {α:Type} {l:List α} {i:Nat} (h:i<l.length):nth l (i:Int)=some l[i]:=by rw[ZVZ,List.getElem?_eq_getElem h]
theorem ZLc {α:Type} (l:List α) (a b:Nat) (h:a≤b) (h' :b≤l.length):sub l (a:Int) (b:Int)=some ((l.take b).drop a):=by
 unfold sub;rw[if_pos (by omega)];simp
theorem ZEj {α:Type} {z:Nat} (l m:List α) (h:l.length+m.length≤137438953472) (h' :(l.length+m.length)*z≤137438953472):app z l m=some (l++m):=by
 unfold app ZES;rw[if_pos (by simp[h,h'])]
theorem ZWw {α:Type} {z:α} {by_ n:Nat} (h:n≤137438953472) (h' :n*by_≤137438953472):mkz by_ (n:Int) z=some (List.replicate n z):=by
 unfold mkz ZES;rw[if_pos (by simp[h,h'])];simp
theorem ZEk {ρ:Type} {body:Int→Option (Int ⊕ (Unit ⊕ ρ))} (n:Nat) (p:Nat→Bool) (r:ρ) (h:∀i:Nat,i<n→body i=if p i then some (.inl ((i+1:Nat):Int)) else some (.inr (.inr r))) (hn:body n=some (.inr (.inl ()))):
  ∀i:Nat,i≤n→loop body i=some (if(List.range' i (n - i)).all p then .inl () else .inr r):=by
 intro i hi;obtain⟨d,rfl⟩:∃d,n=i+d:=⟨n - i,by omega⟩
 clear hi
 induction d generalizing i with
 | zero=>simp only[Nat.add_zero,Nat.sub_self,List.range'_zero,List.all_nil,if_true];exact ZAT hn
 | succ d ih=>
  have e:i+(d+1) - i=d+1:=by omega
  rw[e,List.range'_succ,List.all_cons];have h1:=h i (by omega)
  by_cases hp:p i=true
  ·rw[if_pos hp] at h1;rw[ZAc h1,show i+(d+1)=(i+1)+d by omega] at*
   have:=ih (i+1) (fun j hj=>h j (by omega)) hn
   rw[show i+1+d - (i+1)=d by omega] at this
   rw[this,hp,Bool.true_and]
  rw[if_neg hp] at h1;have hp' :p i=false:=by simpa using hp
  rw[ZAT h1,hp',Bool.false_and];rfl
theorem ZBp {n:Nat} {p:Nat→Bool}:(List.range' 0 n).all p=true↔∀i,i<n→p i=true:=by
 simp[List.all_eq_true,List.mem_range'_1]
end Go.Ai
end
section
open Go.Ai.Enc (enc is)
namespace Go.Ai.Rab
open Go.Lib (decodeL decodeN)

def rn (l:List UInt8):Nat:=(decodeL l).1
def wd (l:List UInt8):Nat:=(decodeL l).2
def okr (l:List UInt8):Bool:= !decide (rn l=65533∧wd l=1)
theorem ZUm (l:List UInt8):1≤wd l:=by unfold wd;rw[Go.Lib.decodeL_N];exact Go.Lib.decodeN_ge1 _ _ _ _ _
theorem ZWx {l:List UInt8} (h:l≠[]):wd l≤l.length:=by
 unfold wd;rw[Go.Lib.decodeL_N];exact Go.Lib.decodeN_width_le _ _ _ _ _ (by have:=List.length_pos_iff.2 h;omega)
theorem ZRx (s:List UInt8) (p:Nat):ZCS s p=⟨(rn (List.drop p s):Nat)⟩:=by
 unfold ZCS rn;rw[←Go.Lib.decodeL_drop]
theorem ZQG (s:List UInt8) (p:Nat):ZBg s p=wd (List.drop p s):=by
 unfold ZBg wd;rw[←Go.Lib.decodeL_drop]
/-! ### The document's rune -/
theorem ZKb {l:List UInt8} {i:Nat} (h:i<l.length):nth l (i:Int)=some (l.getD i 0):=by
 rw[ZBo h];simp[List.getD,h]
theorem i64w {n:Int} (h: -9223372036854775808≤n∧n≤9223372036854775807):IntKind.i64.wrap n=n:=IntWalk.i64_in n h
theorem bds {α β:Type} {o:Option α} {x:α} {f:α→Option β} (h:o=some x):o.bind f=f x:=by rw[h];rfl
theorem bd {α β:Type} (x:α) (f:α→Option β):(some x).bind f=f x:=rfl
def ZLd:Nat→List UInt8→Bool
 | 0,_=>true
 | f+1,l=>if l=[] then true else okr l && (rn l !=47 && (rn l !=0 && ZLd f (l.drop (wd l))))
def ZGo:Nat→List UInt8→Bool
 | 0,_=>true
 | f+1,l=>if l=[] then true else rn l !=47 && (rn l !=0 && ZGo f (l.drop (wd l)))
theorem ZPG:∀(f:Nat) (l:List UInt8),ZLd f l=(Go.Lib.validGoD f l && ZGo f l)
 | 0,_=>rfl
 | f+1,l=>by
  unfold ZLd ZGo Go.Lib.validGoD;by_cases h:l=[]
  ·simp[h]
  rw[if_neg h,if_neg h,if_neg h,ZPG f];by_cases h1:rn l=65533∧wd l=1
  ·have h2:(decodeL l).1=65533∧(decodeL l).2=1:=h1
   rw[if_pos h2];simp[okr,h1]
  have h2:¬((decodeL l).1=65533∧(decodeL l).2=1):=h1
  rw[if_neg h2];have:okr l=true:=by unfold okr;rw[decide_eq_false h1];rfl
  rw[this];show(true && (rn l !=47 && (rn l !=0 && (Go.Lib.validGoD f (l.drop (wd l)) && ZGo f (l.drop (wd l))))))=(Go.Lib.validGoD f (l.drop (wd l)) && (rn l !=47 && (rn l !=0 && ZGo f (l.drop (wd l)))))
  cases(rn l !=47)<;> cases(rn l !=0)<;> cases Go.Lib.validGoD f (l.drop (wd l))<;> simp
def chkS (s:List UInt8):Int:=if s=[] then 206 else if s.length > 100 then 208 else if s=[46]∨s=[46,46] then 206 else if ZLd s.length s then 0 else 206
theorem ZRy {s:List UInt8} {p:Nat} (hp:p<s.length):List.drop p s≠[]:=fun e=>by
 have:=congrArg List.length e
 rw[List.length_drop] at this;simp at this;omega
theorem ZKc {s:List UInt8}:∀(f p:Nat),p≤s.length→s.length≤p+f→loop (ZCt s) p=some (if ZGo f (List.drop p s) then .inl () else .inr 206)
 | 0,p,h1,h2=>by
  refine(ZAT (r:= .inl ()) ?_).trans (by rfl)
  show(if p<List.length s then _ else _)=_
  rw[if_neg (by omega)]
 | f+1,p,h1,h2=>by
  by_cases hp:p<s.length
  ·have hne:=ZRy hp;have hw:=ZUm (List.drop p s);have hw2:=ZWx hne;rw[List.length_drop] at hw2;have hstep:ZCt s p=if rn (List.drop p s)=47∨rn (List.drop p s)=0 then some (.inr (.inr 206)) else some (.inl (p+wd (List.drop p s))):=by
    show(if p<List.length s then _ else _)=_
    rw[if_pos hp,ZQG,ZRx];show Option.bind (if(((rn (List.drop p s):Nat):Int)==47)=true then some true else some (((rn (List.drop p s):Nat):Int)==0)) _=_
    by_cases e1:rn (List.drop p s)=47
    ·rw[e1];rfl
    have:(((rn (List.drop p s):Nat):Int)==47)=false:=by simp;omega
    rw[this];by_cases e2:rn (List.drop p s)=0
    ·rw[e2];rfl
    have:(((rn (List.drop p s):Nat):Int)==0)=false:=by simp;omega
    rw[this,if_neg (show ¬(rn (List.drop p s)=47∨rn (List.drop p s)=0) by omega)]
    rfl
   have hpl:ZGo (f+1) (List.drop p s)=(rn (List.drop p s) !=47 && (rn (List.drop p s) !=0 && ZGo f (List.drop (p+wd (List.drop p s)) s))):=by
    show(if List.drop p s=[] then true else _)=_
    rw[if_neg hne,List.drop_drop]
   by_cases hb:rn (List.drop p s)=47∨rn (List.drop p s)=0
   ·rw[if_pos hb] at hstep;rw[ZAT hstep,hpl];rcases hb with hb | hb<;> simp[hb]
   rw[if_neg hb] at hstep;rw[ZAc hstep,ZKc f _ (by omega) (by omega),hpl]
   have e1:(rn (List.drop p s) !=47)=true:=by simp;omega
   have e2:(rn (List.drop p s) !=0)=true:=by simp;omega
   rw[e1,e2,Bool.true_and,Bool.true_and]
  refine(ZAT (r:= .inl ()) ?_).trans ?_
  ·show(if p<List.length s then _ else _)=_
   rw[if_neg hp]
  have:List.drop p s=[]:=List.drop_of_length_le (by omega)
  rw[this];rfl
theorem ZGL (a b:List UInt8):eqS a b=decide (a=b):=by
 unfold eqS;by_cases h:a=b
 ·simp[h]
 simp[h]
theorem ZPH (s:List UInt8):ZBa s=some (chkS s):=by
 unfold ZBa chkS;rw[ZGL,ZGL,ZGL];by_cases h0:s=[]
 ·rw[if_pos (decide_eq_true h0),if_pos h0]
 rw[if_neg (by simpa using h0),if_neg h0]
 by_cases h1:s.length > 100
 ·rw[if_pos (decide_eq_true (by omega)),if_pos h1]
 rw[if_neg (by simp;omega),if_neg h1]
 by_cases h2:s=[46]
 ·rw[if_pos (decide_eq_true h2),if_pos (.inl h2)];rfl
 rw[if_neg (by simpa using h2)]
 by_cases h3:s=[46,46]
 ·rw[decide_eq_true h3,if_pos (.inr h3)];rfl
 rw[decide_eq_false h3,if_neg (by simp[h2,h3])]
 have hv:utf8_ValidString s=some (Go.Lib.validD s):=by
  unfold utf8_ValidString;exact if_pos (by omega)
 show((utf8_ValidString s).bind fun r_=>some (!r_)).bind _=_
 rw[hv];show(if(!Go.Lib.validD s)=true then some 206 else(loop (ZCt s) 0).bind ZDw)=_
 rw[ZKc s.length 0 (by omega) (by omega),List.drop_zero,ZPG]
 show _=some (if(Go.Lib.validD s && ZGo s.length s)=true then 0 else 206)
 cases Go.Lib.validD s<;> cases ZGo s.length s<;> rfl
end Go.Ai.Rab
end
section
set_option maxRecDepth 10000
open Go.Ai.Enc (enc is)
namespace Go.Ai.Rab
theorem ZPI {σ ρ:Type} {body:σ→Option (σ ⊕ ρ)} (I:σ→Prop) (Q:ρ→Prop) (m:σ→Nat)
  (h:∀a,I a→(∃b,body a=some (.inl b)∧I b∧m b<m a)∨(∃r,body a=some (.inr r)∧Q r)):∀(n:Nat) (a:σ),m a≤n→I a→∃r,loop body a=some r∧Q r
 | n,a,hn,hI=>by
  rcases h a hI with⟨b,h1,h2,h3⟩ | ⟨r,h1,h2⟩
  ·obtain⟨n,rfl⟩:∃k,n=k+1:=⟨n - 1,by omega⟩
   rw[ZAc h1];exact ZPI I Q m h n b (by omega) h2
  exact⟨r,ZAT h1,h2⟩
theorem andS (a b:Bool):(if a=true then some b else some false)=some (a && b):=by cases a<;> rfl
theorem nthD {α:Type} {l:List α} {i:Nat} (d:α) (h:i<l.length):nth l (i:Int)=some (l.getD i d):=by
 rw[ZBo h];simp[List.getD,h]
theorem ZC0 {σ ρ:Type} {body:σ×Int→Option ((σ×Int) ⊕ ρ)} (n:Nat) (I:Nat→σ→Prop) (Q:ρ→Prop) (h:∀i s,i<n→I i s→∃s',body (s,(i:Int))=some (.inl (s',((i+1:Nat):Int)))∧I (i+1) s')
  (he:∀s,I n s→∃r,body (s,(n:Int))=some (.inr r)∧Q r):∀i s,i≤n→I i s→∃r,loop body (s,(i:Int))=some r∧Q r:=by
 intro i s hi hI;obtain⟨d,rfl⟩:∃d,n=i+d:=⟨n - i,by omega⟩
 clear hi
 induction d generalizing i s with
 | zero=>
  obtain⟨r,h1,h2⟩:=he s hI;exact⟨r,ZAT h1,h2⟩
 | succ d ih=>
  obtain⟨s',h1,h2⟩:=h i s (by omega) hI
  rw[ZAc h1];have e:i+(d+1)=(i+1)+d:=by omega
  rw[e] at h he;exact ih (i+1) s' h2 h he
theorem lim {n:Nat} (h:n<9223372036854775807):IntKind.i64.wrap ((n:Int)+1)=((n+1:Nat):Int):=by rw[i64w (by omega)];rfl
/-! ### Numbers aS bytes -/
theorem ZRz (x:UInt64) (n:Int) (hn:0≤n∧n≤1000):∃r,ZGY x n=some r∧0≤r∧r≤n+255:=by
 unfold ZGY;have hx:((UInt8.ofInt ((x).toNat:Int))).toNat<256:=UInt8.toNat_lt _
 obtain⟨c,hc⟩:∃c,(nth (α:=UInt8) (str [0,1,2,2,3,3,3,3,4,4,4,4,4,4,4,4,5,5,5,5,5,5,5,5,5,5,5,5,5,5,5,5,6,6,6,6,6,6,6,6,6,6,6,6,6,6,6,6,6,6,6,6,6,6,6,6,6,6,6,6,6,6,6,6,7,7,7,7,7,7,7,7,7,7,7,7,7,7,7,7,7,7,7,7,7,7,7,7,7,7,7,7,7,7,7,7,7,7,7,7,7,7,7,7,7,7,7,7,7,7,7,7,7,7,7,7,7,7,7,7,7,7,7,7,7,7,7,7,8,8,8,8,8,8,8,8,8,8,8,8,8,8,8,8,8,8,8,8,8,8,8,8,8,8,8,8,8,8,8,8,8,8,8,8,8,8,8,8,8,8,8,8,8,8,8,8,8,8,8,8,8,8,8,8,8,8,8,8,8,8,8,8,8,8,8,8,8,8,8,8,8,8,8,8,8,8,8,8,8,8,8,8,8,8,8,8,8,8,8,8,8,8,8,8,8,8,8,8,8,8,8,8,8,8,8,8,8,8,8,8,8,8,8,8,8,8,8,8,8,8,8,8,8,8,8,8]) (((UInt8.ofInt ((x).toNat:Int))).toNat:Int))=some c:=⟨_,nthD 0 (by rw[show(List.length (str _)=256) from rfl];exact hx)⟩
 refine⟨_,bds hc,?_⟩
 have:=c.toNat_lt
 rw[i64w (by omega)]
 omega
theorem ZQH (x:UInt64):∃r,ZMU x=some r∧0≤r∧r≤1000:=by
 have w1:∀n:Int,0≤n∧n≤1000→IntKind.i64.wrap (n+8)=n+8:=fun n h=>i64w (by omega)
 have w2:∀n:Int,0≤n∧n≤1000→IntKind.i64.wrap (n+16)=n+16:=fun n h=>i64w (by omega)
 have h2:∀(x:UInt64) (n:Int),0≤n∧n≤100→∃r,ZGZ x n=some r∧0≤r∧r≤n+300:=fun x n hn=>by
  unfold ZGZ;split
  ·rw[w1 n (by omega)]
   obtain⟨r,h1,h2,h3⟩:=ZRz (UInt64.ofInt ((((x).toNat:Int)).fdiv (2 ^ 8))) (n+8) (by omega)
   exact⟨r,h1,h2,by omega⟩
  obtain⟨r,h1,h2,h3⟩:=ZRz x n (by omega)
  exact⟨r,h1,h2,by omega⟩
 have h1:∀(x:UInt64) (n:Int),0≤n∧n≤50→∃r,ZGa x n=some r∧0≤r∧r≤n+400:=fun x n hn=>by
  unfold ZGa;split
  ·rw[w2 n (by omega)]
   obtain⟨r,h1,h2,h3⟩:=h2 (UInt64.ofInt ((((x).toNat:Int)).fdiv (2 ^ 16))) (n+16) (by omega)
   exact⟨r,h1,h2,by omega⟩
  obtain⟨r,h1,h2,h3⟩:=h2 x n (by omega)
  exact⟨r,h1,h2,by omega⟩
 unfold ZMU;split
 ·obtain⟨r,h1,h2,h3⟩:=h1 (UInt64.ofInt ((((x).toNat:Int)).fdiv (2 ^ 32))) 32 (by omega)
  exact⟨r,h1,h2,by omega⟩
 obtain⟨r,h1,h2,h3⟩:=h1 x 0 (by omega)
 exact⟨r,h1,h2,by omega⟩
theorem ZNA (x:UInt64):∃r:Nat,ZFQ x=some (r:Int)∧1≤r∧r≤200:=by
 obtain⟨r,h1,h2,h3⟩:=ZQH x;have e1:IntKind.i64.wrap (r+7)=r+7:=i64w (by omega)
 have e2:IntKind.i64.wrap (r+7 - 1)=r+7 - 1:=i64w (by omega)
 have e3:(r+7 - 1).tdiv 7=(r+6) / 7:=by rw[show r+7 - 1=r+6 by omega];exact Int.tdiv_eq_ediv_of_nonneg (by omega)
 have e4:IntKind.i64.wrap ((r+6) / 7)=(r+6) / 7:=i64w (by omega)
 have e0:ZFQ x=some (imax 1 ((r+6) / 7)):=by
  unfold ZFQ;refine(bds h1).trans ?_
  show some (imax 1 (IntKind.i64.wrap ((IntKind.i64.wrap (IntKind.i64.wrap (r+7) - 1)).tdiv 7)))=_
  rw[e1,e2,e3,e4]
 refine⟨(imax 1 ((r+6) / 7)).toNat,?_,?_⟩
 ·rw[e0];unfold imax;split<;> congr 1<;> omega
 unfold imax;split<;> omega
theorem ZGM (x:UInt64):∃b,ZG4 x=some b∧b.length≤200:=by
 obtain⟨r,h1,h2,h3⟩:=ZNA x;have e0:ZG4 x=_:=bds h1
 have e0:=e0.trans (bds (ZWw (z:=(0:UInt8)) (by omega) (by omega)))
 obtain⟨b,hb,hbl⟩:=ZC0 (body:=ZH0 (List.replicate r (0:UInt8)) x) r (fun _ s=>s.length=r) (fun s=>s.length=r) (fun i s hi hs=>by
   have hw:IntKind.i64.wrap (7*(i:Int))=7*(i:Int):=i64w (by omega)
   have hu:shrU x (IntKind.i64.wrap (7*(i:Int)))=some (UInt64.ofInt ((x.toNat:Int).fdiv (2 ^ (min (7*(i:Int)).toNat 64)))):=by
    rw[hw];unfold shrU;exact if_pos (by omega)
   have hn:nth s (i:Int)=some (s.getD i 0):=nthD 0 (by omega)
   refine⟨s.set i (UInt8.ofInt (ZSq .u8 (((UInt8.ofInt (((UInt64.ofInt ((x.toNat:Int).fdiv (2 ^ (min (7*(i:Int)).toNat 64)))).toNat:Int))).toNat:Int)) 128)),?_,by simp[hs]⟩
   show(if decide ((i:Int)<((List.replicate r (0:UInt8)).length:Int))=true then _ else _)=_
   rw[if_pos (decide_eq_true (by simp;omega))]
   refine(bds hu).trans ((bds hn).trans ?_)
   rw[lim (by omega)];rfl) (fun s hs=>by
   refine⟨s,?_,hs⟩
   show(if decide ((r:Int)<((List.replicate r (0:UInt8)).length:Int))=true then _ else _)=_
   rw[if_neg (by simp)]) 0 (List.replicate r 0) (by omega) (by simp)
 have e0:=e0.trans (bds hb);have hw:IntKind.i64.wrap ((b.length:Int) - 1)=((b.length - 1:Nat):Int):=by rw[i64w (by omega)];omega
 have hn:nth b (IntKind.i64.wrap ((b.length:Int) - 1))=some (b.getD (b.length - 1) 0):=by rw[hw];exact nthD 0 (by omega)
 have e0:=e0.trans ((bds hn).trans (bds hn));exact⟨_,e0,by simp;omega⟩
theorem ZGp (b:List UInt8) (h:b.length≤100000):∃r,ZCs b=some r∧r.length≤b.length+200:=by
 obtain⟨c,h1,h2⟩:=ZGM (UInt64.ofInt (b.length:Int));refine⟨_,(bds h1).trans (bds (ZEj c b (by omega) (by omega))),by simp;omega⟩
/-! ### Fields -/
def okF:AnyV→Prop
 | .mk 3 (.int _)=>True
 | .mk 9 (.str s)=>List.length s≤2000
 | .mk 42 (.bytes s)=>s.length≤2000
 | .mk 4 (.bool _)=>True
 | _=>False
theorem ZTF {fields:List AnyV} {b:List UInt8} (hb:b.length≤100000000) (hf:fields.length≤100) (h:∀v∈fields,okF v):∃r,ZDo b fields=some r∧r.length≤b.length+3000*fields.length:=by
 obtain⟨r,h1,h2⟩:=ZC0 (body:=ZGc fields) fields.length (fun i s=>s.length≤b.length+3000*i) (fun s=>s.length≤b.length+3000*fields.length) (fun i s hi hs=>by
   have hn:nth fields (i:Int)=some fields[i]:=ZBo hi
   have hk:=h fields[i] (List.getElem_mem hi);have e0:ZGc fields (s,(i:Int))=_:=if_pos (decide_eq_true (show(i:Int)<(fields.length:Int) by omega))
   have e0:=e0.trans (bds hn);generalize fields[i]=v at e0 hk
   have fin:∀t:List UInt8,t.length≤2900→∃s',(((app 1 s t).bind fun l=>ZCL (i:Int) l)=some (.inl (s',((i+1:Nat):Int))))∧s'.length≤b.length+3000*(i+1):=fun t ht=>by
    refine⟨s++t,?_,by simp;omega⟩
    refine(bds (ZEj s t (by omega) (by omega))).trans ?_
    unfold ZCL;rw[lim (by omega)]
   unfold okF at hk;split at hk
   ·rename_i n;obtain⟨c,c1,c2⟩:=ZGM (UInt64.ofInt n);obtain⟨s',f1,f2⟩:=fin c (by omega)
    refine⟨s',?_,f2⟩
    refine e0.trans (Eq.trans (bds (x:=(n,true)) rfl) ?_)
    exact(if_pos rfl).trans ((bds c1).trans f1)
   ·rename_i t;obtain⟨c,c1,c2⟩:=ZGp t (by omega)
    obtain⟨s',f1,f2⟩:=fin c (by omega)
    refine⟨s',?_,f2⟩
    refine e0.trans (Eq.trans (bds (x:=((0:Int),false)) rfl) ?_)
    refine(if_neg Bool.false_ne_true).trans (Eq.trans (bds (x:=((t:Str),true)) rfl) ?_)
    exact(if_pos rfl).trans ((bds (ZEj [] t (by simp;omega) (by simp;omega))).trans ((bds c1).trans f1))
   ·rename_i t;obtain⟨c,c1,c2⟩:=ZGp t (by omega)
    obtain⟨s',f1,f2⟩:=fin c (by omega)
    refine⟨s',?_,f2⟩
    refine e0.trans (Eq.trans (bds (x:=((0:Int),false)) rfl) ?_)
    refine(if_neg Bool.false_ne_true).trans (Eq.trans (bds (x:=((str []:Str),false)) rfl) ?_)
    refine(if_neg Bool.false_ne_true).trans (Eq.trans (bds (x:=((t:List UInt8),true)) rfl) ?_)
    exact(if_pos rfl).trans ((bds c1).trans f1)
   ·rename_i t;obtain⟨c,c1,c2⟩:=ZGM (UInt64.ofInt (if t=true then 1 else 0))
    obtain⟨s',f1,f2⟩:=fin c (by omega)
    refine⟨s',?_,f2⟩
    refine e0.trans (Eq.trans (bds (x:=((0:Int),false)) rfl) ?_)
    refine(if_neg Bool.false_ne_true).trans (Eq.trans (bds (x:=((str []:Str),false)) rfl) ?_)
    refine(if_neg Bool.false_ne_true).trans (Eq.trans (bds (x:=(([]:List UInt8),false)) rfl) ?_)
    refine(if_neg Bool.false_ne_true).trans (Eq.trans (bds (x:=((str []:Str),false)) rfl) ?_)
    refine(if_neg Bool.false_ne_true).trans (Eq.trans (bds (x:=(t,true)) rfl) ?_)
    refine(if_pos rfl).trans ?_
    cases t with
    | true=>exact(if_pos rfl).trans ((bds c1).trans f1)
    | false=>exact(if_neg Bool.false_ne_true).trans ((bds c1).trans f1)
   ·cases hk) (fun s hs=>by
   refine⟨s,?_,hs⟩
   exact if_neg (by simp)) 0 b (by omega) (by simp)
 exact⟨r,bds h1,h2⟩
theorem ZFH {fields:List AnyV} {b:List UInt8} (n:Nat) (hn:fields.length=n) (hb:b.length≤100000000) (hf:n≤100) (h:∀v∈fields,okF v):∃r,ZDo b fields=some r∧r.length≤b.length+3000*n:=by
 subst hn;exact ZTF hb hf h
theorem ZGN (a b:List UInt8):eqS a b=true↔a=b:=by unfold eqS;simp
end Go.Ai.Rab
end
section
set_option maxRecDepth 10000
open Go.Ai.Enc (enc is)
namespace Go.Ai.Rab
/-! ### Rows of names that rise -/
def nmAt (l:List Str) (i:Nat):Str:=l.getD i (str [])
theorem nthN {l:List Str} {i:Nat} (h:i<l.length):nth l (i:Int)=some (nmAt l i):=nthD (str []) h
theorem ZLe {l:List Str} {i:Nat} (h:i<l.length):nmAt l i=l[i]:=by unfold nmAt;simp only[List.getD_eq_getElem?_getD,List.getElem?_eq_getElem h,Option.getD_some]
def risP (l:List Str) (i:Nat):Bool:=chkS (nmAt l i)==0 && !(decide (0<i) && (ltS (nmAt l i) (nmAt l (i - 1)) || eqS (nmAt l i) (nmAt l (i - 1))))
def risB (l:List Str):Bool:=(List.range' 0 l.length).all (risP l)
theorem ZUn {l:List Str} {i:Nat} (h:i<l.length) (hl:l.length<9000000000000000000):
  (if decide ((i:Int) > 0)=true then((nth l (IntKind.i64.wrap ((i:Int) - 1))).bind fun v3=>some (ltS (nmAt l i) v3 || eqS (nmAt l i) v3)) else some false)=some (decide (0<i) && (ltS (nmAt l i) (nmAt l (i - 1)) || eqS (nmAt l i) (nmAt l (i - 1)))):=by
 by_cases h0:0<i
 ·have hw:IntKind.i64.wrap ((i:Int) - 1)=((i - 1:Nat):Int):=by rw[i64w (by omega)];omega
  rw[if_pos (decide_eq_true (by omega)),hw,decide_eq_true h0,Bool.true_and]
  exact bds (nthN (by omega))
 rw[if_neg (by simp;omega),decide_eq_false h0,Bool.false_and]
theorem ZR0 (c:Int) (x:Bool) {α:Type} (a b:Option α):((if(c !=0)=true then some true else((some x).bind fun b1=>some b1)).bind fun b' =>if b' =true then a else b)=if(c==0 && !x)=true then b else a:=by
 by_cases h:c=0
 ·subst h;cases x<;> rfl
 have e1:(c !=0)=true:=by simp[h]
 have e2:(c==0)=false:=by simp[h]
 rw[e1,e2];rfl
theorem ZHl {l:List Str} (hl:l.length<9000000000000000000):ZBl l=some (risB l):=by
 have h:=ZEk (body:=ZFS l) l.length (risP l) false (fun i hi=>by
  show(if decide ((i:Int)<(l.length:Int))=true then _ else _)=_
  rw[if_pos (decide_eq_true (by omega))]
  refine(bds (nthN hi)).trans ((bds (ZPH _)).trans ?_)
  rw[ZUn hi hl,ZR0,lim (by omega)]
  rfl) (by
  show(if decide ((l.length:Int)<(l.length:Int))=true then _ else _)=_
  rw[if_neg (by simp)]) 0 (Nat.zero_le _)
 refine(bds h).trans ?_
 show _=some ((List.range' 0 l.length).all (risP l))
 cases(List.range' 0 (l.length - 0)).all (risP l)<;> rfl
theorem ZOK {l:List Str} (h:risB l=true):∀s∈l,chkS s=0:=by
 intro s hs;obtain⟨i,hi,rfl⟩:=List.getElem_of_mem hs;have:=ZBp.1 h i hi
 unfold risP at this;simp only[Bool.and_eq_true,beq_iff_eq] at this;have h1:=this.1;rw[ZLe hi] at h1;exact h1
theorem ZIf {s:Str} (h:chkS s=0):List.length s≤100:=by
 unfold chkS at h;split at h
 ·cases h
 split at h
 ·cases h
 omega
/-! ### Attributes -/
def atP (l:List ZAi) (i:Nat):Bool:=decide ((l[i]?.map fun a=>a.v.2.1.length).getD 0≤256)
def ZJl (l:List ZAi):Bool:=(List.range' 0 l.length).all (atP l) && (decide (l.length≤8) && risB (l.map fun a=>a.v.1))
theorem ZH7 {α:Type} {body:(List Str×Int)→Option ((List Str×Int) ⊕ (List Str ⊕ Bool))} {l:List α} (nm:α→Str) (p:Nat→Bool) (h:∀(i:Nat) (hi:i<l.length) (s:List Str),s.length=i→body (s,(i:Int))=if p i then some (.inl (s++[nm l[i]],((i+1:Nat):Int))) else some (.inr (.inr false)))
  (he:∀s,body (s,(l.length:Int))=some (.inr (.inl s))):∀(d i:Nat) (hi:i+d=l.length) (s:List Str),s.length=i→loop body (s,(i:Int))=some (if(List.range' i d).all p then .inl (s++(l.drop i).map nm) else .inr false)
 | 0,i,hi,s,hs=>by
  have:i=l.length:=by omega
  subst this;rw[ZAT (he s)];simp
 | d+1,i,hi,s,hs=>by
  have h1:=h i (by omega) s hs
  rw[List.range'_succ,List.all_cons]
  cases hp:p i with
  | false=>rw[hp,if_neg Bool.false_ne_true] at h1;rw[ZAT h1];rfl
  | true=>
   rw[hp,if_pos rfl] at h1;rw[ZAc h1,ZH7 nm p h he d (i+1) (by omega) _ (by simp[hs]),Bool.true_and]
   have:s++[nm l[i]]++(l.drop (i+1)).map nm=s++(l.drop i).map nm:=by
    rw[List.drop_eq_getElem_cons (show i<l.length by omega),List.map_cons,List.append_assoc];rfl
   rw[this]
theorem ZNB {l:List ZAi} (hl:l.length≤2000000):ZDY l=some (ZJl l):=by
 have h:=ZH7 (body:=ZF9 l) (l:=l) (fun a=>a.v.1) (atP l) (fun i hi s hs=>by
  show(if decide ((i:Int)<(l.length:Int))=true then _ else _)=_
  rw[if_pos (decide_eq_true (by omega))]
  refine(bds (ZBo hi)).trans ((bds (ZEj s [l[i].v.1] (by simp;omega) (by simp;omega))).trans ?_)
  have:atP l i=decide (l[i].v.2.1.length≤256):=by simp[atP,hi]
  rw[this,lim (by omega)]
  by_cases hc:l[i].v.2.1.length≤256
  ·rw[decide_eq_true hc,if_neg (by simp;omega),if_pos rfl]
  ·rw[decide_eq_false hc,if_pos (decide_eq_true (by omega)),if_neg Bool.false_ne_true]) (fun s=>by
  show(if decide ((l.length:Int)<(l.length:Int))=true then _ else _)=_
  rw[if_neg (by simp)]) l.length 0 (by omega) [] rfl
 refine(bds h).trans ?_
 unfold ZJl
 cases(List.range' 0 l.length).all (atP l) with
 | false=>rfl
 | true=>
  rw[if_pos rfl,Bool.true_and];show((if decide ((l.length:Int)≤8)=true then((ZBl (List.map (fun a:ZAi=>a.v.1) l)).bind fun r_=>some r_) else some false).bind fun b=>some b)=_
  rw[ZHl (by simp;omega)]
  have:decide ((l.length:Int)≤8)=decide (l.length≤8):=by rw[decide_eq_decide];omega
  rw[this]
  cases decide (l.length≤8)<;> rfl
/-! ### Nodes -/
def tgB (k:Int) (t:Str):Bool:=if k !=3 then eqS t (str []) else !eqS t (str []) && (decide (List.length t≤1000) && !decide (Go.Lib.indexByte t 0≥0))
def ZGj (k m n:Int) (t:Str) (l:List ZAi):Bool:=decide (0≤m∧m≤4095) && (decide (0≤n∧n≤64) && (decide (1≤k∧k≤3) && (tgB k t && ZJl l)))
theorem ZOL (t:Str):ZBs t (str [0])=some (decide (Go.Lib.indexByte t 0≥0)):=rfl
abbrev ZEl (k m n:Int) (t:Str) (l:List ZAi):ZBi:=Rec.mk (k,m,n,(0:Int),t,l,([]:List RefR),())
theorem ZLf (k m n:Int) (t:Str) (l:List ZAi):ZCM (ZEl k m n t l)=some (tgB k t):=by
 unfold ZCM tgB;show(if(k !=3)=true then some (eqS t (str [])) else _)=_
 by_cases hk:(k !=3)=true
 ·rw[if_pos hk,if_pos hk]
 rw[if_neg hk,if_neg hk];show((if(!eqS t (str []))=true then some (decide (((List.length t:Nat):Int)≤1000)) else some false).bind fun b=>((if b=true then((ZBs t (str [0])).bind fun r_=>some (!r_)) else some false).bind fun b1=>((if b1=true then some ((0:Int)==0) else some false).bind fun b2=>some b2)))=_
 have e:decide (((List.length t:Nat):Int)≤1000)=decide (List.length t≤1000):=by rw[decide_eq_decide];omega
 rw[e,ZOL]
 cases(!eqS t (str []))<;> cases decide (List.length t≤1000)<;> cases decide (Go.Lib.indexByte t 0≥0)<;> rfl
theorem dec2 (a lo hi:Int):(if decide (a≥lo)=true then some (decide (a≤hi)) else some false)=some (decide (lo≤a∧a≤hi)):=by
 by_cases h:a≥lo
 ·rw[if_pos (decide_eq_true h)];congr 1;rw[decide_eq_decide];omega
 rw[if_neg (by simpa using h),decide_eq_false (by omega)]
theorem ZOM {k m n:Int} {t:Str} {l:List ZAi} (hl:l.length≤2000000):ZEa (ZEl k m n t l)=some (ZGj k m n t l):=by
 unfold ZEa ZGj;have e1:∀(b:Bool) (g:Bool→Option Bool),((if b=true then some (decide ((0:Int)≥0)) else some false).bind fun b3=>((if b3=true then some (decide ((0:Int)≤32768)) else some false).bind fun b4=>((if b4=true then some (decide ((([]:List RefR).length:Int)≤128)) else some false).bind g)))=g b:=fun b g=>by cases b<;> rfl
 show((if decide (m≥0)=true then some (decide (m≤4095)) else some false).bind fun b=>((if b=true then some (decide (n≥0)) else some false).bind fun b1=>((if b1=true then some (decide (n≤64)) else some false).bind fun b2=>((if b2=true then some (decide ((0:Int)≥0)) else some false).bind fun b3=>((if b3=true then some (decide ((0:Int)≤32768)) else some false).bind fun b4=>((if b4=true then some (decide ((([]:List RefR).length:Int)≤128)) else some false).bind fun b5=>((if decide (k<1)=true then some true else some (decide (k > 3))).bind fun b6=>((if b6=true then some true else some (!b5)).bind fun b7=>((if b7=true then some true else((ZCM (ZEl k m n t l)).bind fun r_=>some (!r_))).bind fun b8=>((if b8=true then some true else((ZDY l).bind fun r_1=>some (!r_1))).bind fun b9=>(if b9=true then some false else((loop (ZFU (ZEl k m n t l)) (0,0)).bind (ZEL (ZEl k m n t l))))))))))))))  =_
 have e2:∀b:Bool,((if b=true then some (decide (n≥0)) else some false).bind fun b1=>(if b1=true then some (decide (n≤64)) else some false))=some (b && decide (0≤n∧n≤64)):=fun b=>by
  cases b with
  | false=>rfl
  | true=>rw[if_pos rfl,bd,dec2];rfl
 have e3:(if decide (k<1)=true then some true else some (decide (k > 3)))=some (!decide (1≤k∧k≤3)):=by
  by_cases h:k<1
  ·rw[if_pos (decide_eq_true h),decide_eq_false (by omega)];rfl
  rw[if_neg (by simpa using h)];congr 1
  by_cases h2:k≤3
  ·rw[decide_eq_false (by omega),decide_eq_true (by omega)];rfl
  rw[decide_eq_true (by omega),decide_eq_false (by omega)];rfl
 have e4:loop (ZFU (ZEl k m n t l)) (0,0)=some (.inl 0):=ZAT rfl
 rw[dec2,bd];have e5:∀(b:Bool) (g:Bool→Option Bool),((if b=true then some (decide (n≥0)) else some false).bind fun b1=>((if b1=true then some (decide (n≤64)) else some false).bind g))=g (b && decide (0≤n∧n≤64)):=fun b g=>by
  rw[←Option.bind_assoc,e2,bd]
 rw[e5,e1,e3,bd,ZLf,ZNB hl,e4];have hz:(Option.bind (some (Sum.inl (0:Int))) (ZEL (ZEl k m n t l)):Option Bool)=some true:=rfl
 rw[hz]
 cases decide (0≤m∧m≤4095)<;> cases decide (0≤n∧n≤64)<;> cases decide (1≤k∧k≤3)<;> cases tgB k t<;> cases ZJl l<;> rfl
theorem ZNC {l:List ZAi} (h:ZJl l=true):l.length≤8∧∀a∈l,List.length a.v.1≤100∧a.v.2.1.length≤256:=by
 unfold ZJl at h;simp only[Bool.and_eq_true,decide_eq_true_eq] at h;obtain⟨h1,h2,h3⟩:=h;refine⟨h2,fun a ha=>⟨ZIf (ZOK h3 _ (List.mem_map_of_mem ha)),?_⟩⟩
 obtain⟨i,hi,rfl⟩:=List.getElem_of_mem ha;have:=ZBp.1 h1 i hi
 simpa[atP,hi] using this
theorem ZUo {k:Int} {t:Str} (h:tgB k t=true):List.length t≤1000:=by
 unfold tgB at h;split at h
 ·have:=congrArg List.length ((ZGN t []).1 h)
  rw[this];decide
 simp only[Bool.and_eq_true,decide_eq_true_eq] at h;exact h.2.1
theorem aux6 {i a b:Nat} (h:a≤20000+7000*i) (k:b≤a+6000):b≤20000+7000*(i+1):=by rw[Nat.mul_succ,←Nat.add_assoc];exact Nat.le_trans k (Nat.add_le_add h (by decide))
theorem ZQI {k m n:Int} {t:Str} {l:List ZAi} (hl:l.length≤2000000):∃b,ZCA (ZEl k m n t l)=some (b,if ZGj k m n t l=true then 0 else 80):=by
 have e0:ZCA (ZEl k m n t l)=_:=bds (ZOM hl)
 cases hm:ZGj k m n t l with
 | false=>
  rw[hm] at e0;exact⟨[],e0.trans (if_pos rfl)⟩
 | true=>
  rw[hm] at e0;have hm' :=hm
  unfold ZGj at hm';simp only[Bool.and_eq_true,decide_eq_true_eq] at hm';obtain⟨_,_,_,h4,h5⟩:=hm';obtain⟨l1,l2⟩:=ZNC h5;have l3:=ZUo h4;have e0:=e0.trans (if_neg (show ¬(!true)=true by decide))
  obtain⟨b1,p1,p2⟩:=ZFH 6 (b:=[]) (fields:=[ZAs 3 (k:Int),ZAs 3 (m:Int),ZAs 3 (n:Int),ZAs 3 (0:Int),ZAs 9 (t:Str),ZAs 3 ((l.length:Int):Int)]) rfl (by simp) (by decide) (by
   intro v hv;simp only[List.mem_cons,List.not_mem_nil,or_false] at hv;rcases hv with rfl | rfl | rfl | rfl | rfl | rfl<;> first | trivial | (show List.length t≤2000;omega))
  have e0:=e0.trans (bds p1);rw[List.length_nil] at p2;obtain⟨b2,q1,q2⟩:=ZC0 (body:=ZEp (ZEl k m n t l)) l.length (fun i s=>s.length≤20000+7000*i) (fun s=>s.length≤20000+7000*l.length) (fun i s hi hs=>by
   obtain⟨h6,h7⟩:=l2 l[i] (List.getElem_mem hi);obtain⟨b',r1,r2⟩:=ZFH 2 (b:=s) (fields:=[ZAs 9 (l[i].v.1:Str),ZAs 42 (l[i].v.2.1:List UInt8)]) rfl (by omega) (by decide) (by
    intro v hv;simp only[List.mem_cons,List.not_mem_nil,or_false] at hv;rcases hv with rfl | rfl
    ·show List.length l[i].v.1≤2000;omega
    show List.length l[i].v.2.1≤2000;omega)
   refine⟨b',?_,aux6 hs r2⟩
   refine(if_pos (decide_eq_true (show(i:Int)<(l.length:Int) by omega))).trans ?_
   refine(bds (ZBo hi)).trans ((bds r1).trans ?_)
   rw[lim (by omega)]) (fun s hs=>⟨s,if_neg (by simp),hs⟩) 0 b1 (by omega) (by omega)
  have e0:=e0.trans (bds q1);obtain⟨b3,s1,s2⟩:=ZFH 1 (b:=b2) (fields:=[ZAs 3 ((([]:List RefR).length:Int):Int)]) rfl (by omega) (by decide) (by
   intro v hv;simp only[List.mem_cons,List.not_mem_nil,or_false] at hv;subst hv;trivial)
  have e0:=e0.trans (bds s1);have e4:loop (ZEq (ZEl k m n t l)) (b3,0)=some b3:=ZAT rfl
  exact⟨b3,e0.trans (bds e4)⟩
/-! ### Listings -/
def numB (n:Int):Bool:=decide (1≤n∧n≤1024)
def ZHF (a:List Str) (b:List Int):Bool:=decide (a.length≤256) && (decide (b.length=a.length) && (risB a && b.all numB))
abbrev ZGO (a:List Str) (b:List Int):ZAd:=Rec.mk (true,a,b,())
theorem ZWy (n:Int) (a:List Str) (b:List Int):ZF3 n (PtrC.mk (ZGO a b))=some (!numB n):=by
 unfold ZF3 numB;show((if decide (n<0)=true then some true else some (decide (n > 1024))).bind fun b=>((if b=true then some true else((if true=true then some (n==0) else some false).bind fun b2=>some b2)).bind fun b1=>some b1))=_
 by_cases h1:n<0
 ·rw[if_pos (decide_eq_true h1),decide_eq_false (by omega)];rfl
 rw[if_neg (by simpa using h1)]
 by_cases h2:n > 1024
 ·rw[decide_eq_true h2,decide_eq_false (by omega)];rfl
 rw[decide_eq_false h2];by_cases h3:n=0
 ·subst h3;rfl
 have:(n==0)=false:=by simpa using h3
 rw[this,decide_eq_true (show 1≤n∧n≤1024 by omega)];rfl
theorem ZGf {body:Int→Option (Int ⊕ (Unit ⊕ Int))} (n:Nat) (p:Nat→Bool) (h:∀i:Nat,i<n→body i=if p i then some (.inr (.inr (i:Int))) else some (.inl ((i+1:Nat):Int))) (hn:body n=some (.inr (.inl ()))):
  ∀(d i:Nat),i+d=n→loop body i=some (match (List.range' i d).find? p with | some k=> .inr (k:Int) | none=> .inl ())
 | 0,i,hi=>by
  have:i=n:=by omega
  subst this;exact ZAT hn
 | d+1,i,hi=>by
  have h1:=h i (by omega)
  rw[List.range'_succ,List.find?_cons]
  cases hp:p i with
  | true=>rw[hp,if_pos rfl] at h1;rw[ZAT h1]
  | false=>rw[hp,if_neg Bool.false_ne_true] at h1;rw[ZAc h1,ZGf n p h hn d (i+1) (by omega)]
theorem ZTG {p:Nat→Bool} {d i:Nat}:(List.range' i d).find? p=none↔(List.range' i d).all (fun k=> !p k)=true:=by
 rw[List.find?_eq_none,List.all_eq_true];simp
theorem ZON {a:List Str} {b:List Int} (hb:b.length<9000000000000000000) (f:Clo 88 ((PtrC ZAd)×Unit)) (hf:f.cap.1=PtrC.mk (ZGO a b)):ZBH b f=some (!b.all numB):=by
 have h:=ZGf (body:=ZDm b f) b.length (fun i=> !numB (b.getD i 0)) (fun i hi=>by
  refine(if_pos (decide_eq_true (show(i:Int)<(b.length:Int) by omega))).trans ?_
  refine(bds (nthD 0 hi)).trans ?_
  rw[hf];refine(bds (ZWy _ _ _)).trans ?_
  rw[lim (by omega)]) (if_neg (by simp)) b.length 0 (by omega)
 have e0:ZBy b f=_:=bds h
 have hall:b.all numB=(List.range' 0 b.length).all fun i=>numB (b.getD i 0):=by
  rw[Bool.eq_iff_iff,List.all_eq_true,ZBp];constructor
  ·intro h i hi;simp only[List.getD_eq_getElem?_getD,List.getElem?_eq_getElem hi,Option.getD_some];exact h _ (List.getElem_mem hi)
  intro h x hx;obtain⟨i,hi,rfl⟩:=List.getElem_of_mem hx;have:=h i hi
  simpa only[List.getD_eq_getElem?_getD,List.getElem?_eq_getElem hi,Option.getD_some] using this
 rw[hall]
 cases hf:(List.range' 0 b.length).find? (fun i=> !numB (b.getD i 0)) with
 | none=>
  rw[hf] at e0;refine(bds e0).trans ?_
  have:=ZTG.1 hf
  simp only[Bool.not_not] at this;rw[this];rfl
 | some k=>
  rw[hf] at e0;refine(bds e0).trans ?_
  have:(List.range' 0 b.length).all (fun i=>numB (b.getD i 0))=false:=by
   rw[Bool.eq_false_iff];intro h;have h1:=List.find?_some hf;have h2:=List.all_eq_true.1 h k (List.mem_of_find?_eq_some hf);rw[h2] at h1;cases h1
  rw[this];show some (decide ((k:Int)≥0))=_
  rw[decide_eq_true (by omega)];rfl
theorem ZLg {a:List Str} {b:List Int} (ha:a.length≤2000000) (hb:b.length≤2000000):∃c,ZBR (ZGO a b)=some (c,if ZHF a b=true then 0 else 80):=by
 have g1:(if decide ((a.length:Int) > 256)=true then some true else some ((b.length:Int) !=(a.length:Int)))=some (!(decide (a.length≤256) && decide (b.length=a.length))):=by
  by_cases h:a.length≤256
  ·rw[if_neg (by simp;omega),decide_eq_true h,Bool.true_and]
   congr 1
   by_cases h2:b.length=a.length
   ·simp[h2]
   rw[decide_eq_false h2];simp;omega
  rw[if_pos (decide_eq_true (by omega)),decide_eq_false h];rfl
 have e0:ZBR (ZGO a b)=_:=bds g1
 have g2:∀x:Bool,(if(!x)=true then some true else((ZBl a).bind fun r_=>some (!r_)))=some (!(x && risB a)):=fun x=>by
  rw[ZHl (by omega)];cases x<;> rfl
 have e0:=e0.trans (bds (g2 _));have g3:∀x:Bool,(if(!x)=true then some true else((ZBH b (Clo.mk ((PtrC.mk (ZGO a b):PtrC ZAd),()):Clo 88 ((PtrC ZAd)×Unit))).bind fun r_1=>some r_1))=some (!(x && b.all numB)):=fun x=>by
  rw[ZON (by omega) _ rfl];cases x<;> rfl
 have e0:=e0.trans (bds (g3 _));have hL:(((decide (a.length≤256) && decide (b.length=a.length)) && risB a) && b.all numB)=ZHF a b:=by
  unfold ZHF;simp only[Bool.and_assoc]
 rw[hL] at e0
 cases hm:ZHF a b with
 | false=>
  rw[hm] at e0;exact⟨[],e0.trans (if_pos rfl)⟩
 | true=>
  rw[hm] at e0;have hm' :=hm
  unfold ZHF at hm';simp only[Bool.and_eq_true,decide_eq_true_eq] at hm';obtain⟨h1,h2,h3,h4⟩:=hm';have e0:=e0.trans (if_neg (show ¬(!true)=true by decide))
  obtain⟨b1,p1,p2⟩:=ZFH 2 (b:=[]) (fields:=[ZAs 4 (true:Bool),ZAs 3 ((a.length:Int):Int)]) rfl (by simp) (by decide) (by
   intro v hv;simp only[List.mem_cons,List.not_mem_nil,or_false] at hv;rcases hv with rfl | rfl<;> trivial)
  have e0:=e0.trans (bds p1);rw[List.length_nil] at p2;obtain⟨b2,q1,q2⟩:=ZC0 (body:=ZDE (ZGO a b)) a.length (fun i s=>s.length≤20000+6000*i) (fun s=>s.length≤20000+6000*a.length) (fun i s hi hs=>by
   have h6:=ZIf (ZOK h3 a[i] (List.getElem_mem hi));obtain⟨b',r1,r2⟩:=ZFH 1 (b:=s) (fields:=[ZAs 9 (a[i]:Str)]) rfl (by omega) (by decide) (by
    intro v hv;simp only[List.mem_cons,List.not_mem_nil,or_false] at hv;subst hv;show List.length a[i]≤2000;omega)
   refine⟨b',?_,by omega⟩
   refine(if_pos (decide_eq_true (show(i:Int)<(a.length:Int) by omega))).trans ?_
   refine(bds (ZBo hi)).trans ((bds r1).trans ?_)
   rw[lim (by omega)]) (fun s hs=>⟨s,if_neg (by simp),hs⟩) 0 b1 (by omega) (by omega)
  have e0:=e0.trans (bds q1);obtain⟨b3,s1,s2⟩:=ZC0 (body:=ZDF (ZGO a b)) b.length (fun i s=>s.length≤2000000+6000*i) (fun s=>True) (fun i s hi hs=>by
   obtain⟨b',r1,r2⟩:=ZFH 1 (b:=s) (fields:=[ZAs 3 (b[i]:Int)]) rfl (by omega) (by decide) (by
    intro v hv;simp only[List.mem_cons,List.not_mem_nil,or_false] at hv;subst hv;trivial)
   refine⟨b',?_,by omega⟩
   refine(if_pos (decide_eq_true (show(i:Int)<(b.length:Int) by omega))).trans ?_
   refine(bds (ZBo hi)).trans ((bds r1).trans ?_)
   rw[lim (by omega)]) (fun s hs=>⟨s,if_neg (by simp),trivial⟩) 0 b2 (by omega) (by omega)
  have e0:=e0.trans (bds s1);exact⟨b3,e0⟩
/-! ### Inodes -/
def ZC1 (x:ZAO):Bool:=ZGj x.v.2.1 x.v.2.2.1 x.v.2.2.2.1 x.v.2.2.2.2.2.1 x.v.2.2.2.2.2.2.2.2.1 && ((decide (x.v.2.2.2.2.1.length=0) || decide (x.v.2.1=1∧x.v.2.2.2.2.1.length≤32768)) && (decide (1≤x.v.1∧x.v.1≤1024) &&
 (if x.v.2.1 !=2 then decide (x.v.2.2.2.2.2.2.1.length=0∧x.v.2.2.2.2.2.2.2.1.length=0) else ZHF x.v.2.2.2.2.2.2.1 x.v.2.2.2.2.2.2.2.1 && (decide (x.v.2.2.2.1=1) && decide (x.v.2.2.2.2.2.2.1.length≤128)))))
def ZND (x:ZAO):Prop:=x.v.2.2.2.2.1.length≤2000000∧x.v.2.2.2.2.2.2.1.length≤2000000∧x.v.2.2.2.2.2.2.2.1.length≤2000000∧x.v.2.2.2.2.2.2.2.2.1.length≤2000000
theorem ZTH {x:ZAO} (h:ZND x):ZCB x=some (ZC1 x):=by
 obtain⟨h1,h2,h3,h4⟩:=h;obtain⟨⟨num,k,m,n,d,t,ns,is,at_,u⟩⟩:=x;simp only at h1 h2 h3 h4
 obtain⟨b,hb⟩:=ZQI (k:=k) (m:=m) (n:=n) (t:=t) (l:=at_) h4;have e0:ZCB (Rec.mk (num,k,m,n,d,t,ns,is,at_,u))=_:=bds hb
 have g1:(if((d.length:Int)==0)=true then some true else((if(k==1)=true then some (decide ((d.length:Int)≤32768)) else some false).bind fun b1=>some b1))=some (decide (d.length=0) || decide (k=1∧d.length≤32768)):=by
  by_cases hd:d.length=0
  ·rw[if_pos (by simp[hd]),decide_eq_true hd];rfl
  rw[if_neg (by simp;intro e;exact hd (by rw[e];rfl)),decide_eq_false hd,Bool.false_or]
  by_cases hk:k=1
  ·rw[if_pos (by simp[hk]),bd];congr 1;rw[decide_eq_decide];omega
  rw[if_neg (by simpa using hk),decide_eq_false (by omega)];rfl
 have e0:=e0.trans (bds g1);have g2:∀x y:Bool,(if((if x=true then(0:Int) else 80) !=0)=true then some true else some (!y))=some (!(x && y)):=fun x y=>by cases x<;> cases y<;> rfl
 have e0:=e0.trans (bds (g2 _ _));have g3:∀x:Bool,((if(!x)=true then some true else some (decide (num<1))).bind fun b3=>(if b3=true then some true else some (decide (num > 1024))))=some (!(x && decide (1≤num∧num≤1024))):=fun x=>by
  cases x with
  | false=>rfl
  | true=>
   rw[if_neg (by decide),bd,Bool.true_and]
   by_cases hn:num<1
   ·rw[if_pos (decide_eq_true hn),decide_eq_false (by omega)];rfl
   rw[if_neg (by simpa using hn)]
   by_cases hn2:num > 1024
   ·rw[decide_eq_true hn2,decide_eq_false (by omega)];rfl
   rw[decide_eq_false hn2,decide_eq_true (by omega)];rfl
 rw[←Option.bind_assoc,g3] at e0;refine e0.trans ?_
 show(if(!((ZGj k m n t at_ && (decide (d.length=0) || decide (k=1∧d.length≤32768))) && decide (1≤num∧num≤1024)))=true then some false else _)=some (ZGj k m n t at_ && ((decide (d.length=0) || decide (k=1∧d.length≤32768)) && (decide (1≤num∧num≤1024) && (if k !=2 then decide (ns.length=0∧is.length=0) else ZHF ns is && (decide (n=1) && decide (ns.length≤128))))))
 rw[←Bool.and_assoc,←Bool.and_assoc]
 cases((ZGj k m n t at_ && (decide (d.length=0) || decide (k=1∧d.length≤32768))) && decide (1≤num∧num≤1024)) with
 | false=>rfl
 | true=>
  rw[if_neg (by decide),Bool.true_and]
  by_cases hk:(k !=2)=true
  ·rw[if_pos hk];show some (IntKind.i64.wrap ((ns.length:Int)+(is.length:Int))==0)=_
   rw[if_pos hk];rw[i64w (by omega)]
   congr 1
   by_cases hz:ns.length=0∧is.length=0
   ·rw[decide_eq_true hz,hz.1,hz.2];rfl
   rw[decide_eq_false hz];simp;intro e;apply hz;constructor<;> simp only[List.length_eq_zero_iff]<;> (first | (apply List.eq_nil_of_length_eq_zero;omega))
  rw[if_neg hk];obtain⟨c,hc⟩:=ZLg (a:=ns) (b:=is) h2 h3;refine(bds hc).trans ?_
  rw[if_neg hk];show((if((if ZHF ns is=true then(0:Int) else 80)==0)=true then some (n==1) else some false).bind fun b5=>((if b5=true then some (decide ((ns.length:Int)≤128)) else some false).bind fun b6=>some b6))=_
  have e1:(n==1)=decide (n=1):=by rw[Bool.eq_iff_iff];simp
  have e2:decide ((ns.length:Int)≤128)=decide (ns.length≤128):=by rw[decide_eq_decide];omega
  rw[e1,e2]
  cases ZHF ns is<;> cases decide (n=1)<;> cases decide (ns.length≤128)<;> rfl
end Go.Ai.Rab
end
section
set_option maxRecDepth 10000
open Go.Ai.Enc (enc is)
namespace Go.Ai.Rab
/-! ### Inodes in their row -/
def noI:ZAO:=Rec.mk (0,0,0,0,[],str [],[],[],[],())
def inAt (l:List ZAO) (i:Nat):ZAO:=l.getD i noI
theorem ZD4 {l:List ZAO} {i:Nat} (h:i<l.length):nth l (i:Int)=some (inAt l i):=nthD noI h
theorem ZB1 {l:List ZAO} {i:Nat} (h:i<l.length):inAt l i=l[i]:=by unfold inAt;simp only[List.getD_eq_getElem?_getD,List.getElem?_eq_getElem h,Option.getD_some]
theorem ZBX {l:List ZAO} {i:Nat} (h:i<l.length):inAt l i∈l:=by rw[ZB1 h];exact List.getElem_mem h
def posI (l:List ZAO) (n:Int):Option Nat:=(List.range' 0 l.length).find? fun i=>(inAt l i).v.1==n
def fndI (l:List ZAO) (n:Int):Int:=match posI l n with | some k=>(k:Int) | none=> -1
theorem ZJm {f:FsR} (hl:f.v.1.length<9000000000000000000) (n:Int):ZA6 f n=some (fndI f.v.1 n):=by
 have h:=ZGf (body:=ZDk f.v.1 (Clo.mk ((PtrC.mk n:PtrC Int),()):Clo 43 ((PtrC Int)×Unit))) f.v.1.length (fun i=>(inAt f.v.1 i).v.1==n) (fun i hi=>by
  refine(if_pos (decide_eq_true (show(i:Int)<(f.v.1.length:Int) by omega))).trans ?_
  refine(bds (ZD4 hi)).trans ?_
  refine(bds (x:=((inAt f.v.1 i).v.1==n)) rfl).trans ?_
  rw[lim (by omega)]) (if_neg (by simp)) f.v.1.length 0 (by omega)
 have e0:ZBx f.v.1 (Clo.mk ((PtrC.mk n:PtrC Int),()):Clo 43 ((PtrC Int)×Unit))=_:=bds h
 refine(bds (e0.trans ?_)).trans rfl
 unfold fndI posI
 cases(List.range' 0 f.v.1.length).find? (fun i=>(inAt f.v.1 i).v.1==n)<;> rfl
theorem ZBV {l:List ZAO} {n:Int} {k:Nat} (h:posI l n=some k):k<l.length∧(inAt l k).v.1=n:=by
 unfold posI at h;have h1:=List.find?_some h;have h2:=List.mem_of_find?_eq_some h;simp only[List.mem_range'_1] at h2;exact⟨by omega,by simpa using h1⟩
theorem ZJn {l:List ZAO} {n:Int} (h:posI l n=none):∀i,i<l.length→(inAt l i).v.1≠n:=by
 intro i hi e;unfold posI at h;rw[List.find?_eq_none] at h;exact h i (by simp[List.mem_range'_1,hi]) (by simpa using e)
theorem ZPJ {l:List ZAO} {n:Int}:fndI l n<0↔posI l n=none:=by
 unfold fndI
 cases posI l n with
 | none=>simp
 | some k=>simp
/-! ### Maps -/
theorem ZJo {V:Type}:∀(m:List (Int×V)) (i k:Int) (x:V),mget (mput m i x) k=if k=i then some x else mget m k
 | [],i,k,x=>by
  unfold mput mget mget;by_cases h:k=i
  ·rw[if_pos h.symm,if_pos h]
  rw[if_neg (fun e=>h e.symm),if_neg h]
 | (j,v)::m,i,k,x=>by
  unfold mput;by_cases h:j=i
  ·rw[if_pos h];unfold mget;by_cases h2:k=i
   ·rw[if_pos h2.symm,if_pos h2]
   rw[if_neg (fun e=>h2 e.symm),if_neg h2,if_neg (fun e=>h2 (by rw[←e,h]))]
  rw[if_neg h];unfold mget;by_cases h2:j=k
  ·rw[if_pos h2,if_neg (fun e=>h (by rw[h2,e])),if_pos h2]
  rw[if_neg h2,ZJo m i k x,if_neg h2]
theorem ZPK {V:Type}:∀(m:List (Int×V)) (i n:Int) (x:V),(∃v,(n,v)∈mput m i x)↔n=i∨∃v,(n,v)∈m
 | [],i,n,x=>by simp[mput]
 | (j,v)::m,i,n,x=>by
  unfold mput;by_cases h:j=i
  ·rw[if_pos h];subst h;constructor
   ·rintro⟨w,hw⟩;rcases List.mem_cons.1 hw with hw | hw
    ·injection hw with e1 e2;exact .inl e1
    exact .inr ⟨w,lM _ hw⟩
   rintro(rfl | ⟨w,hw⟩)
   ·exact⟨x,List.mem_cons_self⟩
   rcases List.mem_cons.1 hw with hw | hw
   ·injection hw with e1 e2;subst e1;exact⟨x,List.mem_cons_self⟩
   exact⟨w,lM _ hw⟩
  rw[if_neg h];have ih:=ZPK m i n x;constructor
  ·rintro⟨w,hw⟩;rcases List.mem_cons.1 hw with hw | hw
   ·exact .inr ⟨w,by rw[hw];exact List.mem_cons_self⟩
   rcases ih.1 ⟨w,hw⟩ with h1 | ⟨u,hu⟩
   ·exact .inl h1
   exact .inr ⟨u,lM _ hu⟩
  rintro(h1 | ⟨w,hw⟩)
  ·obtain⟨u,hu⟩:=ih.2 (.inl h1);exact⟨u,lM _ hu⟩
  rcases List.mem_cons.1 hw with hw | hw
  ·exact⟨w,by rw[hw];exact List.mem_cons_self⟩
  obtain⟨u,hu⟩:=ih.2 (.inr ⟨w,hw⟩);exact⟨u,lM _ hu⟩
/-! ### Where numbers stand -/
def upsX (x:ZAO) (l:List Int) (k:Int):List Int:=(l.filter (·==k)).map fun _=>x.v.1
def upsL (l:List ZAO) (k:Int):List Int:=l.flatMap fun x=>upsX x x.v.2.2.2.2.2.2.2.1 k
def ZFi (l:List ZAO):List Int:=l.flatMap fun x=>x.v.2.2.2.2.2.2.2.1
theorem ZLh (x:ZAO) (l:List Int) (k:Int):(upsX x l k).length≤l.length:=by unfold upsX;rw[List.length_map];exact List.length_filter_le _ _
theorem ZLi (k:Int):∀(l:List ZAO),(∀x∈l,x.v.2.2.2.2.2.2.2.1.length≤200)→(upsL l k).length≤200*l.length
 | [],_=>by simp[upsL]
 | x::l,h=>by
  have h1:=ZLi k l (fun y hy=>h y (lM _ hy))
  have h2:=ZLh x x.v.2.2.2.2.2.2.2.1 k;have h3:=h x List.mem_cons_self;unfold upsL at h1 ⊢;rw[List.flatMap_cons,List.length_append,List.length_cons];omega
theorem ZWz {x:ZAO} (hx:x.v.2.2.2.2.2.2.2.1.length≤200) (m0:List (Int×List Int)) (base:Int→List Int) (S:List Int) (hb:∀k,(base k).length≤200000) (h0:∀k,(mget m0 k).getD []=base k) (hk:∀n,(∃v,(n,v)∈m0)↔n∈S):
  ∃m,loop (ZDZ x) (m0,0)=some m∧(∀k,(mget m k).getD []=base k++upsX x x.v.2.2.2.2.2.2.2.1 k)∧∀n,(∃v,(n,v)∈m)↔n∈S++x.v.2.2.2.2.2.2.2.1:=by
 generalize hns:x.v.2.2.2.2.2.2.2.1=ns at*
 refine ZC0 (body:=ZDZ x) ns.length (fun j m=>(∀k,(mget m k).getD []=base k++upsX x (ns.take j) k)∧∀n,(∃v,(n,v)∈m)↔n∈S++ns.take j) _ (fun i m hi hI=> ?_) (fun m hI=> ?_) 0 m0 (by omega) ?_
 ·obtain⟨I1,I2⟩:=hI;have hn:nth ns (i:Int)=some ns[i]:=ZBo hi
  have hlen:((mget m ns[i]).getD []).length≤200200:=by
   rw[I1,List.length_append];have:=hb ns[i]
   have h2:=ZLh x (ns.take i) ns[i];rw[List.length_take] at h2;omega
  refine⟨mput m ns[i] ((mget m ns[i]).getD []++[x.v.1]),?_,?_,?_⟩
  ·show(if decide ((i:Int)<(x.v.2.2.2.2.2.2.2.1.length:Int))=true then((nth x.v.2.2.2.2.2.2.2.1 (i:Int)).bind fun v3=>((app 8 ((mget m v3).getD []) [x.v.1]).bind fun l=>some (Sum.inl ((mput m v3 l),(IntKind.i64.wrap ((i:Int)+1)))))) else some (Sum.inr m))=_
   rw[hns,if_pos (decide_eq_true (by omega))]
   refine(bds hn).trans ((bds (ZEj _ [x.v.1] (by simp only[List.length_singleton];omega) (by simp only[List.length_singleton];omega))).trans ?_)
   rw[lim (by omega)]
  ·intro k;rw[ZJo];have ht:ns.take (i+1)=ns.take i++[ns[i]]:=by rw[List.take_add_one,List.getElem?_eq_getElem hi];rfl
   rw[ht];unfold upsX;rw[List.filter_append,List.map_append];by_cases e:k=ns[i]
   ·rw[if_pos e,Option.getD_some,I1,←e];have:([k]:List Int).filter (·==k)=[k]:=by simp
    rw[this,←List.append_assoc];rfl
   rw[if_neg e,I1];have:([ns[i]]:List Int).filter (·==k)=[]:=by simp;exact fun e' =>e e'.symm
   rw[this,List.map_nil,List.append_nil];rfl
  intro n;rw[ZPK,I2];have ht:ns.take (i+1)=ns.take i++[ns[i]]:=by rw[List.take_add_one,List.getElem?_eq_getElem hi];rfl
  rw[ht,←List.append_assoc];simp only[List.mem_append,List.mem_singleton];constructor
  ·rintro(h | h)
   ·exact .inr h
   exact .inl h
  rintro(h | h)
  ·exact .inr h
  exact .inl h
 ·refine⟨m,?_,?_⟩
  ·show(if decide ((ns.length:Int)<(x.v.2.2.2.2.2.2.2.1.length:Int))=true then _ else some (Sum.inr m))=_
   rw[hns,if_neg (by simp)]
  rw[List.take_length] at hI;exact hI
 refine⟨fun k=> ?_,fun n=> ?_⟩
 ·rw[h0];simp[upsX]
 rw[hk];simp
theorem ZPL {f:FsR} (hl:f.v.1.length≤512) (hx:∀x∈f.v.1,x.v.2.2.2.2.2.2.2.1.length≤200):∃m,ZE9 f=some m∧(∀k,(mget m k).getD []=upsL f.v.1 k)∧∀n,(∃v,(n,v)∈m)↔n∈ZFi f.v.1:=by
 generalize hf:f.v.1=l at*
 obtain⟨m,h1,h2,h3⟩:=ZC0 (body:=ZGC f) l.length (fun i m=>(∀k,(mget m k).getD []=upsL (l.take i) k)∧∀n,(∃v,(n,v)∈m)↔n∈ZFi (l.take i)) (fun m=>(∀k,(mget m k).getD []=upsL l k)∧∀n,(∃v,(n,v)∈m)↔n∈ZFi l) (fun i m hi hI=>by
   obtain⟨I1,I2⟩:=hI;have hb:∀k,(upsL (l.take i) k).length≤200000:=fun k=>by
    have h1:=ZLi k (l.take i) (fun x hx' =>hx x (List.mem_of_mem_take hx'))
    rw[List.length_take] at h1;omega
   obtain⟨m',g1,g2,g3⟩:=ZWz (hx l[i] (List.getElem_mem hi)) m _ _ hb I1 I2;have ht:l.take (i+1)=l.take i++[l[i]]:=by rw[List.take_add_one,List.getElem?_eq_getElem hi];rfl
   refine⟨m',?_,?_,?_⟩
   ·show(if decide ((i:Int)<(f.v.1.length:Int))=true then((nth f.v.1 (i:Int)).bind fun v1=>((loop (ZDZ v1) (m,0)).bind (ZGB (i:Int)))) else some (Sum.inr m))=_
    rw[hf,if_pos (decide_eq_true (by omega))]
    refine(bds (ZBo hi)).trans ((bds g1).trans ?_)
    show some (Sum.inl (m',IntKind.i64.wrap ((i:Int)+1)))=_
    rw[lim (by omega)]
   ·intro k;rw[g2,ht];unfold upsL;rw[List.flatMap_append,List.flatMap_cons,List.flatMap_nil,List.append_nil]
   ·intro n;rw[g3,ht];unfold ZFi;rw[List.flatMap_append,List.flatMap_cons,List.flatMap_nil,List.append_nil]) (fun m hI=>by
   refine⟨m,?_,?_⟩
   ·show(if decide ((l.length:Int)<(f.v.1.length:Int))=true then _ else some (Sum.inr m))=_
    rw[hf,if_neg (by simp)]
   rw[List.take_length] at hI;exact hI) 0 [] (by omega) ⟨fun k=>by simp[upsL,mget],fun n=>by simp[ZFi]⟩
 exact⟨m,bds h1,h2,h3⟩
def ZDJ (l:List ZAO):Nat→Int→Bool
 | 0,_=>false
 | d+1,n=>match upsL l n with
  | []=>true
  | p::_=>ZDJ l d p
theorem ZNE {m:List (Int×List Int)} {l:List ZAO} (hm:∀k,(mget m k).getD []=upsL l k) (most:Nat) (hmost:most≤10000):∀(d v:Nat) (n:Int),v+d=most+1→loop (ZDx (most:Int) m) (n,(v:Int))=some (if ZDJ l d n=true then .inr true else .inl ())
 | 0,v,n,hv=>by
  refine ZAT ?_
  show(if decide ((v:Int)<IntKind.i64.wrap ((most:Int)+1))=true then _ else _)=_
  rw[lim (by omega),if_neg (by simp;omega)];rfl
 | d+1,v,n,hv=>by
  have e0:ZDx (most:Int) m (n,(v:Int))=if((((mget m n).getD []).length:Int)==0)=true then some (.inr (.inr true)) else((nth ((mget m n).getD []) 0).bind fun v2=>some (.inl (v2,(IntKind.i64.wrap ((v:Int)+1))))):=by
   show(if decide ((v:Int)<IntKind.i64.wrap ((most:Int)+1))=true then _ else _)=_
   rw[lim (by omega),if_pos (decide_eq_true (by omega))]
  rw[hm] at e0;unfold ZDJ
  cases hu:upsL l n with
  | nil=>
   rw[hu] at e0;exact ZAT e0
  | cons p q=>
   rw[hu] at e0;have e0:=e0.trans ((if_neg (show ¬((((p::q).length:Nat):Int)==0)=true by simp;omega)).trans (bds (x:=p) rfl))
   rw[lim (by omega)] at e0
   rw[ZAc e0];exact ZNE hm most hmost d (v+1) p (by omega)
theorem ZVa {m:List (Int×List Int)} {l:List ZAO} (hm:∀k,(mget m k).getD []=upsL l k) (most:Nat) (hmost:most≤10000) (n:Int):ZGd m n (most:Int)=some (ZDJ l (most+1) n):=by
 refine(bds (ZNE hm most hmost (most+1) 0 n (by omega))).trans ?_
 cases ZDJ l (most+1) n<;> rfl
/-! ### Check -/
def hdB (l:List ZAO) (nx:Int):Bool:=decide (l.length≠0∧l.length≤512) && (decide ((inAt l 0).v.1=1) && (decide ((inAt l 0).v.2.1=2) && decide (2≤nx∧nx≤513)))
def sorP (l:List ZAO) (i:Nat):Bool:=ZC1 (inAt l i) && !(decide (0<i) && decide ((inAt l (i - 1)).v.1≥(inAt l i).v.1))
def knB (l:List ZAO) (k:Int):Bool:=(List.range' 0 l.length).any fun i=>(inAt l i).v.1==k
def cndX (l:List ZAO) (x:ZAO):Bool:=if x.v.2.1 !=2 then decide (((upsL l x.v.1).length:Int)=x.v.2.2.2.1) else decide ((upsL l x.v.1).length≤1) && (!(decide (0<(upsL l x.v.1).length) && decide (x.v.1=1)) && ZDJ l (l.length+1) x.v.1)
def chkL (l:List ZAO) (nx:Int):Bool:=hdB l nx && ((List.range' 0 l.length).all (sorP l) && ((ZFi l).all (knB l) && (List.range' 0 l.length).all fun i=>cndX l (inAt l i)))
theorem ZLj {l:List ZAO} {k:Int}:knB l k=true↔∃i,i<l.length∧(inAt l i).v.1=k:=by
 unfold knB;rw[List.any_eq_true];constructor
 ·rintro⟨i,hi,h⟩;simp only[List.mem_range'_1] at hi;exact⟨i,by omega,by simpa using h⟩
 rintro⟨i,hi,h⟩;exact⟨i,by simp[List.mem_range'_1,hi],by simpa using h⟩
theorem ZPM {σ ρ:Type} {body:σ×Int→Option ((σ×Int) ⊕ (σ ⊕ ρ))} (n:Nat) (p:Nat→Bool) (J:Nat→σ→Prop) (r0:ρ) (h:∀i s,i<n→J i s→(p i=true→∃s',body (s,(i:Int))=some (.inl (s',((i+1:Nat):Int)))∧J (i+1) s')∧(p i=false→body (s,(i:Int))=some (.inr (.inr r0))))
  (he:∀s,body (s,(n:Int))=some (.inr (.inl s))):∀d i s,i+d=n→J i s→∃s',((List.range' i d).all p=true→J n s')∧loop body (s,(i:Int))=some (if(List.range' i d).all p=true then .inl s' else .inr r0)
 | 0,i,s,hi,hJ=>by
  have:i=n:=by omega
  subst this;exact⟨s,fun _=>hJ,ZAT (he s)⟩
 | d+1,i,s,hi,hJ=>by
  obtain⟨h1,h2⟩:=h i s (by omega) hJ
  rw[List.range'_succ,List.all_cons]
  cases hp:p i with
  | false=>exact⟨s,fun e=>by simp at e,ZAT (h2 hp)⟩
  | true=>
   obtain⟨s1,g1,g2⟩:=h1 hp;obtain⟨s',g3,g4⟩:=ZPM n p J r0 h he d (i+1) s1 (by omega) g2
   exact⟨s',by rw[Bool.true_and];exact g3,by rw[ZAc g1,Bool.true_and];exact g4⟩
def ZBh (l:List ZAO):Prop:=l.length≤2000000∧∀x∈l,ZND x
theorem ZKd {x:ZAO} (h:ZC1 x=true):x.v.2.2.2.2.2.2.2.1.length≤200∧x.v.2.2.2.2.2.2.1.length=x.v.2.2.2.2.2.2.2.1.length:=by
 unfold ZC1 at h;simp only[Bool.and_eq_true] at h;obtain⟨_,_,_,h⟩:=h;split at h
 ·have:=of_decide_eq_true h
  omega
 simp only[Bool.and_eq_true,decide_eq_true_eq] at h;unfold ZHF at h;simp only[Bool.and_eq_true,decide_eq_true_eq] at h;omega
theorem ZW0 {l:List ZAO} {i:Nat} (h:i<l.length) (hl:l.length≤512):
  (if decide ((i:Int) > 0)=true then((nth l (IntKind.i64.wrap ((i:Int) - 1))).bind fun v5=>some (decide (v5.v.1≥(inAt l i).v.1))) else some false)=some (decide (0<i) && decide ((inAt l (i - 1)).v.1≥(inAt l i).v.1)):=by
 by_cases h0:0<i
 ·have hw:IntKind.i64.wrap ((i:Int) - 1)=((i - 1:Nat):Int):=by rw[i64w (by omega)];omega
  rw[if_pos (decide_eq_true (by omega)),hw,decide_eq_true h0,Bool.true_and]
  exact bds (ZD4 (by omega))
 rw[if_neg (by simp;omega),decide_eq_false h0,Bool.false_and]
theorem ZTI {f:FsR} {m:List (Int×List Int)} (hl:f.v.1.length≤512) (hm:∀k,(mget m k).getD []=upsL f.v.1 k):
  loop (ZCW f m) 0=some (if(List.range' 0 f.v.1.length).all (fun i=>cndX f.v.1 (inAt f.v.1 i)) then .inl () else .inr false):=by
 refine ZEk (body:=ZCW f m) f.v.1.length (fun i=>cndX f.v.1 (inAt f.v.1 i)) false (fun i hi=> ?_) (if_neg (by simp)) 0 (Nat.zero_le _)
 refine(if_pos (decide_eq_true (show(i:Int)<(f.v.1.length:Int) by omega))).trans ?_
 refine(bds (ZD4 hi)).trans ?_
 rw[hm,ZVa hm f.v.1.length (by omega),lim (by omega)]
 generalize inAt f.v.1 i=x
 unfold cndX;generalize hu:upsL f.v.1 x.v.1=u
 have e1:((u.length:Int) !=x.v.2.2.2.1)= !decide ((u.length:Int)=x.v.2.2.2.1):=by rw[Bool.eq_iff_iff];simp
 have e2:decide ((u.length:Int) > 1)= !decide (u.length≤1):=by rw[Bool.eq_iff_iff];simp;omega
 have e3:decide ((u.length:Int) > 0)=decide (0<u.length):=by rw[decide_eq_decide];omega
 have e4:(x.v.1==1)=decide (x.v.1=1):=by rw[Bool.eq_iff_iff];simp
 rw[e1,e2,e3,e4];by_cases hk:x.v.2.1=2
 ·have k1:(x.v.2.1 !=2)=false:=by simp[hk]
  have k2:(x.v.2.1==2)=true:=by simp[hk]
  rw[k1,k2]
  cases decide (u.length≤1)<;> cases decide (0<u.length)<;> cases decide (x.v.1=1)<;> cases ZDJ f.v.1 (f.v.1.length+1) x.v.1<;> rfl
 have k1:(x.v.2.1 !=2)=true:=by simpa using hk
 have k2:(x.v.2.1==2)=false:=by simpa using hk
 rw[k1,k2]
 cases decide ((u.length:Int)=x.v.2.2.2.1)<;> rfl
theorem ZOO {f:FsR} {m:List (Int×List Int)} {kn:List (Int×Bool)} (hk:∀k,(mget kn k).getD false=true↔∃i,i<f.v.1.length∧(inAt f.v.1 i).v.1=k) (hm:∀n,(∃v,(n,v)∈m)↔n∈ZFi f.v.1):
  ZHZ m (ZCV kn)=some (if(ZFi f.v.1).all (knB f.v.1)=true then .inl () else .inr false):=by
 have e0:∀k,ZCV kn k=if knB f.v.1 k=true then some (.inl ()) else some (.inr false):=fun k=>by
  show(if(!((mget kn k).getD false))=true then _ else _)=_
  have:(mget kn k).getD false=knB f.v.1 k:=by rw[Bool.eq_iff_iff,hk,ZLj]
  rw[this]
  cases knB f.v.1 k<;> rfl
 refine ZRU ?_
 cases hb:(ZFi f.v.1).all (knB f.v.1) with
 | true=>
  refine .inl ⟨rfl,fun kv hkv=> ?_⟩
  rw[e0,if_pos (List.all_eq_true.1 hb kv.1 ((hm kv.1).1 ⟨kv.2,hkv⟩))]
 | false=>
  refine .inr ⟨false,rfl,?_,fun kv hkv=> ?_⟩
  ·rw[List.all_eq_false] at hb;obtain⟨k,hk1,hk2⟩:=hb;obtain⟨v,hv⟩:=(hm k).2 hk1;exact⟨(k,v),hv,by rw[e0,if_neg hk2]⟩
  rw[e0];split
  ·exact .inl rfl
  exact .inr rfl
theorem ZJp {f:FsR} (hs:ZBh f.v.1):ZAw f=some (chkL f.v.1 f.v.2.1):=by
 obtain⟨hs1,hs2⟩:=hs;have g0:(if((f.v.1.length:Int)==0)=true then some true else some (decide ((f.v.1.length:Int) > 512)))=some (!decide (f.v.1.length≠0∧f.v.1.length≤512)):=by
  by_cases h:f.v.1.length=0
  ·rw[if_pos (by simp[h]),decide_eq_false (by omega)];rfl
  rw[if_neg (by simp;intro e;exact h (by rw[e];rfl))]
  by_cases h2:f.v.1.length≤512
  ·rw[decide_eq_false (by omega),decide_eq_true ⟨h,h2⟩];rfl
  rw[decide_eq_true (by omega),decide_eq_false (by omega)];rfl
 have e0:ZAw f=_:=bds g0
 by_cases hsz:f.v.1.length≠0∧f.v.1.length≤512
 ·rw[decide_eq_true hsz] at e0;have hn0:nth f.v.1 0=some (inAt f.v.1 0):=ZD4 (i:=0) (by omega)
  have e0:=e0.trans (bds (x:= !decide ((inAt f.v.1 0).v.1=1)) (by
   rw[if_neg (by decide),hn0]
   show some ((inAt f.v.1 0).v.1 !=1)=_
   congr 1))
  have e0:=e0.trans (bds (x:= !(decide ((inAt f.v.1 0).v.1=1) && decide ((inAt f.v.1 0).v.2.1=2))) (by
   rw[hn0];show(if(!decide ((inAt f.v.1 0).v.1=1))=true then some true else some ((inAt f.v.1 0).v.2.1 !=2))=_
   have:((inAt f.v.1 0).v.2.1 !=2)= !decide ((inAt f.v.1 0).v.2.1=2):=by rw[Bool.eq_iff_iff];simp
   rw[this]
   cases decide ((inAt f.v.1 0).v.1=1)<;> rfl))
  generalize hd0:decide ((inAt f.v.1 0).v.1=1)=d1 at e0
  generalize hd1:decide ((inAt f.v.1 0).v.2.1=2)=d2 at e0
  have g3:∀x:Bool,((if(!x)=true then some true else some (decide (f.v.2.1<2))).bind fun b3=>(if b3=true then some true else some (decide (f.v.2.1 > 513))))=some (!(x && decide (2≤f.v.2.1∧f.v.2.1≤513))):=fun x=>by
   cases x with
   | false=>rfl
   | true=>
    rw[if_neg (by decide),bd,Bool.true_and]
    by_cases hn:f.v.2.1<2
    ·rw[if_pos (decide_eq_true hn),decide_eq_false (by omega)];rfl
    rw[if_neg (by simpa using hn)]
    by_cases hn2:f.v.2.1 > 513
    ·rw[decide_eq_true hn2,decide_eq_false (by omega)];rfl
    rw[decide_eq_false hn2,decide_eq_true (by omega)];rfl
  rw[←Option.bind_assoc,g3] at e0;refine e0.trans ?_
  have hhd:hdB f.v.1 f.v.2.1=((d1 && d2) && decide (2≤f.v.2.1∧f.v.2.1≤513)):=by
   unfold hdB;rw[decide_eq_true hsz,Bool.true_and,hd0,hd1,Bool.and_assoc]
  unfold chkL;rw[bd,hhd]
  cases((d1 && d2) && decide (2≤f.v.2.1∧f.v.2.1≤513)) with
  | false=>rfl
  | true=>
   rw[if_neg (by decide),Bool.true_and]
   obtain⟨kn,k1,k2⟩:=ZPM (body:=ZDO f) f.v.1.length (sorP f.v.1) (fun i s=>(∀k,(mget s k).getD false=true↔∃j,j<i∧(inAt f.v.1 j).v.1=k)) false (fun i s hi hJ=>by
    have e0:ZDO f (s,(i:Int))=_:=if_pos (decide_eq_true (show(i:Int)<(f.v.1.length:Int) by omega))
    have e0:=e0.trans ((bds (ZD4 hi)).trans (bds (ZTH (hs2 _ (ZBX hi)))));have e0:=e0.trans (bds (x:= !sorP f.v.1 i) (by
     rw[ZW0 hi hsz.2];unfold sorP;generalize (decide (0<i) && decide ((inAt f.v.1 (i - 1)).v.1≥(inAt f.v.1 i).v.1))=q
     cases ZC1 (inAt f.v.1 i)<;> cases q<;> rfl))
    rw[lim (by omega)] at e0
    refine⟨fun hp=> ?_,fun hp=> ?_⟩
    ·rw[hp] at e0;refine⟨_,e0.trans (if_neg (by decide)),fun k=> ?_⟩
     rw[ZJo];by_cases e:k=(inAt f.v.1 i).v.1
     ·rw[if_pos e];exact⟨fun _=>⟨i,by omega,e.symm⟩,fun _=>rfl⟩
     rw[if_neg e,hJ];constructor
     ·rintro⟨j,h1,h2⟩;exact⟨j,by omega,h2⟩
     rintro⟨j,h1,h2⟩;refine⟨j,?_,h2⟩
     have:j≠i:=fun e' =>e (by rw[←h2,e'])
     omega
    rw[hp] at e0;exact e0.trans (if_pos rfl)) (fun s=>if_neg (by simp)) f.v.1.length 0 [] (by omega) (fun k=>⟨fun h=>by simp[mget] at h,fun⟨j,h,_⟩=>by omega⟩)
   refine(bds k2).trans ?_
   cases hsor:(List.range' 0 f.v.1.length).all (sorP f.v.1) with
   | false=>rfl
   | true=>
    rw[if_pos rfl,Bool.true_and];have hal:∀x∈f.v.1,x.v.2.2.2.2.2.2.2.1.length≤200:=fun x hx=>by
     obtain⟨i,hi,rfl⟩:=List.getElem_of_mem hx;have:=ZBp.1 hsor i hi
     unfold sorP at this;simp only[Bool.and_eq_true] at this;have h2:=(ZKd this.1).1;rwa [ZB1 hi] at h2
    obtain⟨m,m1,m2,m3⟩:=ZPL hsz.2 hal;show((ZE9 f).bind fun r_1=>((ZHZ r_1 (ZCV kn)).bind (ZDQ f r_1)))=_
    refine(bds m1).trans ((bds (ZOO (k1 hsor) m3)).trans ?_)
    cases hkn:(ZFi f.v.1).all (knB f.v.1) with
    | false=>rfl
    | true=>
     rw[if_pos rfl,Bool.true_and];show((loop (ZCW f m) 0).bind ZDP)=_
     refine(bds (ZTI hsz.2 m2)).trans ?_
     cases(List.range' 0 f.v.1.length).all (fun i=>cndX f.v.1 (inAt f.v.1 i))<;> rfl
 have:chkL f.v.1 f.v.2.1=false:=by unfold chkL hdB;rw[decide_eq_false hsz];rfl
 rw[decide_eq_false hsz] at e0;rw[this];exact e0.trans rfl
end Go.Ai.Rab
end
section
set_option maxRecDepth 10000
open Go.Ai.Enc (enc is)
namespace Go.Ai.Rab
/-! ### The order of texts -/
theorem ZTJ (a b:Str):eqS a b=true↔a=b:=ZGN a b
theorem lt_trans:∀{a b c:List UInt8},ltS a b=true→ltS b c=true→ltS a c=true
 | [],[],_,h,_=>by simp[ltS,Op.bytesLess] at h
 | _::_,[],_,h,_=>by simp[ltS,Op.bytesLess] at h
 | _,_::_,[],_,h=>by simp[ltS,Op.bytesLess] at h
 | [],_::_,_::_,_,_=>by simp[ltS,Op.bytesLess]
 | a::x,b::y,c::z,h,k=>by
  unfold ltS Op.bytesLess at h k ⊢;simp only[Bool.or_eq_true,Bool.and_eq_true,decide_eq_true_eq,beq_iff_eq] at h k ⊢;rcases h with h | ⟨rfl,h⟩
  ·rcases k with k | ⟨rfl,k⟩
   ·exact .inl (UInt8.lt_trans h k)
   exact .inl h
  rcases k with k | ⟨rfl,k⟩
  ·exact .inl k
  exact .inr ⟨rfl,lt_trans (a:=x) (b:=y) h k⟩
theorem ZUp:∀{a b:List UInt8},ltS a b=false→ltS b a=false→a=b
 | [],[],_,_=>rfl
 | [],_::_,h,_=>by simp[ltS,Op.bytesLess] at h
 | _::_,[],_,h=>by simp[ltS,Op.bytesLess] at h
 | a::x,b::y,h,k=>by
  unfold ltS Op.bytesLess at h k;simp only[Bool.or_eq_false_iff,Bool.and_eq_false_iff,decide_eq_false_iff_not,beq_eq_false_iff_ne] at h k;have hab:a=b:=UInt8.le_antisymm (UInt8.not_lt.1 k.1) (UInt8.not_lt.1 h.1)
  subst hab;rw[ZUp (a:=x) (b:=y) (h.2.resolve_left fun e=>e rfl) (k.2.resolve_left fun e=>e rfl)]
/-! ### How many stand ZSY -/
def pt {α:Type} (less:α→Bool) (l:List α):Nat:=(l.takeWhile less).length
theorem ZTK {α:Type} (less:α→Bool):∀l:List α,pt less l≤l.length
 | []=>Nat.le_refl _
 | a::l=>by
  have:=ZTK less l
  unfold pt at this ⊢;rw[List.takeWhile_cons];split
  ·simp only[List.length_cons];omega
  simp
theorem ZLk {α:Type} (less:α→Bool) (a:α) (l:List α):pt less (a::l)=if less a=true then pt less l+1 else 0:=by
 unfold pt;rw[List.takeWhile_cons];split<;> rfl
theorem ZW1 {α:Type} (less:α→Bool):∀(l:List α) (k:Nat) (h:k<l.length),k<pt less l→less l[k]=true
 | a::l,k,h,hk=>by
  rw[ZLk] at hk;split at hk
  ·rename_i ha
   cases k with
   | zero=>exact ha
   | succ k=>exact ZW1 less l k (by simpa using h) (by omega)
  omega
theorem ZW2 {α:Type} (less:α→Bool):∀(l:List α) (h:pt less l<l.length),less l[pt less l]=false
 | [],h=>by simp at h
 | a::l,h=>by
  cases ha:less a with
  | false=>
   have:pt less (a::l)=0:=by rw[ZLk,ha,if_neg Bool.false_ne_true]
   simp only[this,List.getElem_cons_zero];exact ha
  | true=>
   have e:pt less (a::l)=pt less l+1:=by rw[ZLk,ha,if_pos rfl]
   have h2:pt less l<l.length:=by rw[e] at h;simpa using h
   have:=ZW2 less l h2
   simp only[e,List.getElem_cons_succ];exact this
theorem ZVb {α:Type} {less:α→Bool} {l:List α} {p:Nat} (hp:p≤l.length) (h1:∀k (h:k<l.length),k<p→less l[k]=true) (h2:∀h:p<l.length,less l[p]=false):p=pt less l:=by
 rcases Nat.lt_trichotomy p (pt less l) with h | h | h
 ·have hl:=ZTK less l;have:=ZW1 less l p (by omega) h
  rw[h2 (by omega)] at this;cases this
 ·exact h
 have h3:=ZW2 less l (by omega)
 rw[h1 _ (by omega) h] at h3;cases h3
theorem half {i j:Nat} (h:i+j<9000000000000000000):IntKind.i64.wrap (((UInt64.ofInt (((((UInt64.ofInt (IntKind.i64.wrap ((i:Int)+(j:Int))))).toNat:Int)).fdiv (2 ^ 1)))).toNat:Int)=(((i+j) / 2:Nat):Int):=by
 rw[i64w (show -9223372036854775808≤(i:Int)+j∧(i:Int)+j≤9223372036854775807 by omega),ZJI (z:=(i:Int)+j) (by omega) (by omega)]
 have:((i:Int)+(j:Int)).fdiv (2 ^ 1)=(((i+j) / 2:Nat):Int):=by
  rw[Int.fdiv_eq_ediv_of_nonneg _ (by decide)]
  omega
 rw[this,ZJI (by omega) (by omega),i64w (by omega)]
theorem ZTL {body:Int×Int→Option ((Int×Int) ⊕ Int)} (n:Nat) (less:Nat→Bool) (hmono:∀i j,i≤j→j<n→less j=true→less i=true)
  (h:∀i j:Nat,i<j→j≤n→body ((i:Int),(j:Int))=if less ((i+j) / 2)=true then some (.inl ((((i+j) / 2+1:Nat):Int),(j:Int))) else some (.inl ((i:Int),(((i+j) / 2:Nat):Int))))
  (he:∀i:Nat,i≤n→body ((i:Int),(i:Int))=some (.inr (i:Int))):∀(d i j:Nat),i≤j→j≤n→j - i≤d→(∀k,k<i→less k=true)→(∀k,j≤k→k<n→less k=false)→
   ∃p:Nat,loop body ((i:Int),(j:Int))=some (p:Int)∧p≤n∧(∀k,k<p→less k=true)∧(∀k,p≤k→k<n→less k=false):=by
 intro d;induction d with
 | zero=>
  intro i j h1 h2 h3 h4 h5;have:i=j:=by omega
  subst this;exact⟨i,ZAT (he i h2),h2,h4,h5⟩
 | succ d ih=>
  intro i j h1 h2 h3 h4 h5;by_cases e:i=j
  ·subst e;exact⟨i,ZAT (he i h2),h2,h4,h5⟩
  have hb:=h i j (by omega) h2
  cases hl:less ((i+j) / 2) with
  | true=>
   rw[hl,if_pos rfl] at hb;rw[ZAc hb];exact ih _ _ (by omega) h2 (by omega) (fun k hk=>hmono k ((i+j) / 2) (by omega) (by omega) hl) h5
  | false=>
   rw[hl,if_neg Bool.false_ne_true] at hb;rw[ZAc hb];refine ih _ _ (by omega) (by omega) (by omega) h4 (fun k hk hkn=> ?_)
   cases hlk:less k with
   | false=>rfl
   | true=>rw[hmono ((i+j) / 2) k hk hkn hlk] at hl;cases hl
theorem ZW3 {α:Type} {body:Int×Int→Option ((Int×Int) ⊕ Int)} (l:List α) (less:α→Bool) (hmono:∀i j (h:j<l.length) (h' :i≤j),less l[j]=true→less l[i]=true)
  (h:∀i j:Nat,i<j→(hj:j≤l.length)→(hh:(i+j) / 2<l.length)→body ((i:Int),(j:Int))=if less l[(i+j) / 2]=true then some (.inl ((((i+j) / 2+1:Nat):Int),(j:Int))) else some (.inl ((i:Int),(((i+j) / 2:Nat):Int))))
  (he:∀i:Nat,i≤l.length→body ((i:Int),(i:Int))=some (.inr (i:Int))):loop body (0,(l.length:Int))=some ((pt less l:Nat):Int):=by
 let lk:Nat→Bool:=fun k=>if h:k<l.length then less l[k] else false
 have hlk:∀k (h:k<l.length),lk k=less l[k]:=fun k h=>dif_pos h
 obtain⟨p,h1,h2,h3,h4⟩:=ZTL (body:=body) l.length lk (fun i j hij hj hl=>by rw[hlk j hj] at hl;rw[hlk i (by omega)];exact hmono i j hj hij hl)
  (fun i j hij hj=>by rw[h i j hij hj (by omega),hlk _ (by omega)]) he l.length 0 l.length (Nat.zero_le _) (Nat.le_refl _) (by omega) (fun k hk=>by omega) (fun k hk hk' =>by omega)
 have:p=pt less l:=ZVb h2 (fun k hk hkp=>by rw[←hlk k hk];exact h3 k hkp) (fun hp=>by rw[←hlk p hp];exact h4 p (Nat.le_refl _) hp)
 subst this;exact h1
/-! ### Names -/
theorem ZW4 {l:List Str} (h:risB l=true):∀i j (hj:j<l.length),(hij:i<j)→ltS l[i] l[j]=true:=by
 have step:∀i (hi:i+1<l.length),ltS l[i] l[i+1]=true:=fun i hi=>by
  have:=ZBp.1 h (i+1) hi
  unfold risP at this;simp only[Bool.and_eq_true,Bool.not_eq_true',Bool.and_eq_false_iff,Bool.or_eq_false_iff,decide_eq_false_iff_not,Nat.add_sub_cancel] at this;have h1:=this.2.resolve_left (by omega)
  rw[ZLe hi,ZLe (show i<l.length by omega)] at h1
  cases hx:ltS l[i] l[i+1] with
  | true=>rfl
  | false=>
   have e:=ZUp hx h1.1;have h2:=h1.2;rw[←Bool.not_eq_true,ZTJ] at h2;exact absurd e.symm h2
 intro i j;induction j with
 | zero=>intro _ h;omega
 | succ j ih=>
  intro hj hij;by_cases e:i=j
  ·subst e;exact step i hj
  exact lt_trans (ih (by omega) (by omega)) (step j hj)
def ptN (l:List Str) (s:Str):Nat:=pt (fun a:Str=>ltS a s) l
def hasN (l:List Str) (s:Str):Bool:=decide (ptN l s<l.length) && eqS (nmAt l (ptN l s)) s
theorem ZVc (a b:Str):ZMT a b=some (ltS a b):=by
 unfold ZMT ZHV;have e:∀c:Str,(!eqS c c)=false:=fun c=>by rw[(ZGN c c).2 rfl];rfl
 show Option.bind (if(!eqS a a)=true then some (!(!eqS b b)) else some false) _=_
 rw[e,if_neg Bool.false_ne_true];rfl
theorem ZW5 {l:List Str} (hr:risB l=true) (hl:l.length≤2000000) (s:Str):binS l s=some (((ptN l s:Nat):Int),hasN l s):=by
 have h1:loop (ZNk l s) (0,(l.length:Int))=some ((ptN l s:Nat):Int):=by
  refine ZW3 l (fun a:Str=>ltS a s) (fun i j hj hij h=> ?_) (fun i j hij hj hh=> ?_) (fun i hi=> ?_)
  ·by_cases e:i=j
   ·subst e;exact h
   exact lt_trans (ZW4 hr i j hj (by omega)) h
  ·refine(if_pos (decide_eq_true (show(i:Int)<(j:Int) by omega))).trans ?_
   rw[half (by omega),lim (by omega)]
   refine(bds (ZBo hh)).trans ((bds (ZVc _ _)).trans ?_)
   rfl
  exact if_neg (by simp)
 refine(bds h1).trans ?_
 have hp:=ZTK (fun a:Str=>ltS a s) l
 show((if decide (((ptN l s:Nat):Int)<(l.length:Int))=true then((nth l ((ptN l s:Nat):Int)).bind fun v1=>((if(eqS v1 s)=true then some true else((nth l ((ptN l s:Nat):Int)).bind fun v2=>((ZCZ v2).bind fun r_1=>((if r_1=true then((ZCZ s).bind fun r_2=>some r_2) else some false).bind fun b2=>some b2)))).bind fun b1=>some b1)) else some false).bind fun b=>some (((ptN l s:Nat):Int),b))=_
 unfold hasN;by_cases h:ptN l s<l.length
 ·rw[if_pos (decide_eq_true (by omega)),decide_eq_true h,Bool.true_and]
  rw[nthN h];have e:∀c:Str,(!eqS c c)=false:=fun c=>by rw[(ZGN c c).2 rfl];rfl
  have e2:((ZCZ (nmAt l (ptN l s))).bind fun r_1=>((if r_1=true then((ZCZ s).bind fun r_2=>some r_2) else some false).bind fun b2=>some b2))=some false:=by
   unfold ZCZ;rw[e];rfl
  show(Option.bind (if eqS (nmAt l (ptN l s)) s=true then some true else((ZCZ (nmAt l (ptN l s))).bind fun r_1=>((if r_1=true then((ZCZ s).bind fun r_2=>some r_2) else some false).bind fun b2=>some b2))) (fun b1=>some b1)).bind _=_
  rw[e2]
  cases eqS (nmAt l (ptN l s)) s<;> rfl
 rw[if_neg (by simp;omega),decide_eq_false h];rfl
/-! ### Inodes -/
def ZNF (l:List ZAO):Prop:=∀i j (hj:j<l.length) (hij:i<j),l[i].v.1<l[j].v.1
end Go.Ai.Rab
end
section
set_option maxRecDepth 10000
open Go.Ai.Enc (enc is)
namespace Go.Ai.Rab
structure Ok (l:List ZAO) (nx:Int):Prop where
 len0:0<l.length
 len:l.length≤512
 n0:(inAt l 0).v.1=1
 k0:(inAt l 0).v.2.1=2
 nx:2≤nx∧nx≤513
 al:∀x∈l,ZC1 x=true
 so:ZNF l
 kn:∀k∈ZFi l,∃x∈l,x.v.1=k
 cn:∀x∈l,cndX l x=true
theorem ZUq {l:List ZAO} {p:ZAO→Bool}:((List.range' 0 l.length).all fun i=>p (inAt l i))=true↔∀x∈l,p x=true:=by
 rw[ZBp];constructor
 ·intro h x hx;obtain⟨i,hi,rfl⟩:=List.getElem_of_mem hx;rw[←ZB1 hi];exact h i hi
 intro h i hi;exact h _ (ZBX hi)
theorem ZR1 {l:List ZAO}:(List.range' 0 l.length).all (sorP l)=true↔(∀x∈l,ZC1 x=true)∧ZNF l:=by
 rw[ZBp];constructor
 ·intro h;have h1:∀i,i<l.length→ZC1 (inAt l i)=true:=fun i hi=>by
   have:=h i hi
   unfold sorP at this;simp only[Bool.and_eq_true] at this;exact this.1
  have h2:∀i (hi:i+1<l.length),l[i].v.1<l[i+1].v.1:=fun i hi=>by
   have:=h (i+1) hi
   unfold sorP at this;simp only[Bool.and_eq_true,Bool.not_eq_true',Bool.and_eq_false_iff,decide_eq_false_iff_not,Nat.add_sub_cancel] at this;have h3:=this.2.resolve_left (by omega)
   rw[ZB1 hi,ZB1 (show i<l.length by omega)] at h3
   omega
  refine⟨fun x hx=> ?_,fun i j=> ?_⟩
  ·obtain⟨i,hi,rfl⟩:=List.getElem_of_mem hx;rw[←ZB1 hi];exact h1 i hi
  induction j with
  | zero=>intro _ h;omega
  | succ j ih=>
   intro hj hij;have:=h2 j hj
   by_cases e:i=j
   ·subst e;exact this
   have:=ih (by omega) (by omega);omega
 rintro⟨h1,h2⟩ i hi;unfold sorP;rw[h1 _ (ZBX hi),Bool.true_and];by_cases h0:0<i
 ·have:=h2 (i - 1) i hi (by omega)
  rw[ZB1 hi,ZB1 (show i - 1<l.length by omega),decide_eq_false (show ¬l[i - 1].v.1≥l[i].v.1 by omega)]
  simp
 rw[decide_eq_false h0];rfl
theorem ZUr {l:List ZAO} {k:Int}:knB l k=true↔∃x∈l,x.v.1=k:=by
 rw[ZLj];constructor
 ·rintro⟨i,hi,h⟩;exact⟨_,ZBX hi,h⟩
 rintro⟨x,hx,h⟩;obtain⟨i,hi,rfl⟩:=List.getElem_of_mem hx;exact⟨i,hi,by rw[ZB1 hi];exact h⟩
theorem ZDS {l:List ZAO} {nx:Int}:chkL l nx=true↔Ok l nx:=by
 unfold chkL hdB;simp only[Bool.and_eq_true];rw[ZR1,ZUq (p:=cndX l),List.all_eq_true];simp only[decide_eq_true_eq];constructor
 ·rintro⟨⟨h1,h2,h3,h4⟩,⟨h5,h6⟩,h7,h8⟩;exact⟨by omega,h1.2,h2,h3,h4,h5,h6,fun k hk=>ZUr.1 (h7 k hk),h8⟩
 intro h;exact⟨⟨⟨by have:=h.len0;omega,h.len⟩,h.n0,h.k0,h.nx⟩,⟨h.al,h.so⟩,fun k hk=>ZUr.2 (h.kn k hk),h.cn⟩
theorem ZEQ {x:ZAO} (h:ZC1 x=true) (hk:x.v.2.1=2):risB x.v.2.2.2.2.2.2.1=true∧x.v.2.2.2.2.2.2.2.1.length=x.v.2.2.2.2.2.2.1.length∧x.v.2.2.2.2.2.2.1.length≤128∧x.v.2.2.2.1=1∧x.v.2.2.2.2.2.2.2.1.all numB=true:=by
 unfold ZC1 at h;simp only[Bool.and_eq_true] at h;obtain⟨_,_,_,h⟩:=h;rw[if_neg (by simp[hk])] at h
 simp only[Bool.and_eq_true,decide_eq_true_eq] at h;unfold ZHF at h;simp only[Bool.and_eq_true,decide_eq_true_eq] at h;exact⟨h.1.2.2.1,h.1.2.1,h.2.2,h.2.1,h.1.2.2.2⟩
theorem ZER {x:ZAO} (h:ZC1 x=true):x.v.2.2.2.2.1.length≤32768∧x.v.2.2.2.2.2.2.1.length≤128∧x.v.2.2.2.2.2.2.2.1.length≤128∧x.v.2.2.2.2.2.2.2.2.1.length≤8∧0≤x.v.2.2.2.1∧x.v.2.2.2.1≤64∧1≤x.v.1∧x.v.1≤1024:=by
 have h0:=h;unfold ZC1 ZGj at h;simp only[Bool.and_eq_true,decide_eq_true_eq] at h;obtain⟨⟨_,h1,_,_,h2⟩,h3,h4,h5⟩:=h;have h6:=(ZNC h2).1;have h7:x.v.2.2.2.2.1.length≤32768:=by
  simp only[Bool.or_eq_true,decide_eq_true_eq] at h3;omega
 refine⟨h7,?_,?_,h6,h1.1,h1.2,h4.1,h4.2⟩
 ·by_cases hk:x.v.2.1=2
  ·exact(ZEQ h0 hk).2.2.1
  rw[if_pos (by simpa using hk)] at h5
  have:=of_decide_eq_true h5
  omega
 by_cases hk:x.v.2.1=2
 ·have:=ZEQ h0 hk;omega
 rw[if_pos (by simpa using hk)] at h5
 have:=of_decide_eq_true h5
 omega
theorem ZNG {x:ZAO} (h:ZC1 x=true):ZND x:=by
 have:=ZER h
 exact⟨by omega,by omega,by omega,by omega⟩
theorem Ok.small {l:List ZAO} {nx:Int} (h:Ok l nx):ZBh l:=⟨by have:=h.len;omega,fun x hx=>ZNG (h.al x hx)⟩
/-! ### What they ZI8 -/
def dirS (f:FsR) (n:Int):ZAO×Err 154:=
 if chkL f.v.1 f.v.2.1=true then match posI f.v.1 n with
  | none=>(noI,Err.mk (some 201))
  | some i=>if((inAt f.v.1 i).v.2.1 !=2)=true then(noI,Err.mk (some 203)) else(inAt f.v.1 i,Err.mk none)
 else(noI,Err.mk (some 2))
def ZBY (f:FsR) (n:Int) (s:Str):Int×Int:=match (dirS f n).2.c with
 | some e=>(0,e)
 | none=>if hasN (dirS f n).1.v.2.2.2.2.2.2.1 s=true then((dirS f n).1.v.2.2.2.2.2.2.2.1.getD (ptN (dirS f n).1.v.2.2.2.2.2.2.1 s) 0,0) else(0,201)
def parS (f:FsR) (n:Int):Int:=match (dirS f n).2.c with
 | some _=>0
 | none=>(upsL f.v.1 n).headD 0
theorem ZUs {f:FsR} (hs:ZBh f.v.1) (n:Int):ZBB f n=some (dirS f n):=by
 refine(bds (ZJm (by have:=hs.1;omega) n)).trans ((bds (ZJp hs)).trans ?_)
 unfold dirS
 cases chkL f.v.1 f.v.2.1 with
 | false=>rfl
 | true=>
  rw[if_neg (by decide),if_pos rfl]
  unfold fndI
  cases hp:posI f.v.1 n with
  | none=>rfl
  | some i=>
   obtain⟨h1,h2⟩:=ZBV hp;show(if decide ((i:Int)<0)=true then _ else _)=_
   rw[if_neg (by simp)]
   refine(bds (ZD4 h1)).trans ?_
   show _=some (if((inAt f.v.1 i).v.2.1 !=2)=true then _ else _)
   by_cases hk:((inAt f.v.1 i).v.2.1 !=2)=true
   ·rw[if_pos hk,if_pos hk];rfl
   rw[if_neg hk,if_neg hk];exact(bds (ZD4 h1))
theorem ZJq {f:FsR} {n:Int} (h:(dirS f n).2.c=none):Ok f.v.1 f.v.2.1∧∃i,posI f.v.1 n=some i∧i<f.v.1.length∧(inAt f.v.1 i).v.1=n∧(inAt f.v.1 i).v.2.1=2∧(dirS f n).1=inAt f.v.1 i:=by
 unfold dirS at h ⊢
 cases hc:chkL f.v.1 f.v.2.1 with
 | false=>rw[hc] at h;simp at h
 | true=>
  rw[hc,if_pos rfl] at h;rw[if_pos rfl];refine⟨ZDS.1 hc,?_⟩
  cases hp:posI f.v.1 n with
  | none=>rw[hp] at h;simp at h
  | some i=>
   rw[hp] at h;obtain⟨h1,h2⟩:=ZBV hp;simp only at h ⊢
   by_cases hk:((inAt f.v.1 i).v.2.1 !=2)=true
   ·rw[if_pos hk] at h;simp at h
   rw[if_neg hk];exact⟨i,rfl,h1,h2,by simpa using hk,rfl⟩
theorem ZR2 {f:FsR} (hs:ZBh f.v.1) (n:Int) (s:Str):ZCC f n s=some (ZBY f n s):=by
 refine(bds (ZUs hs n)).trans ?_
 unfold ZBY
 cases he:(dirS f n).2.c with
 | some e=>
  refine(if_pos rfl).trans ?_
  show((ZCa (dirS f n).2).bind fun r_1=>some ((0:Int),r_1))=_
  unfold ZCa;rw[he];rfl
 | none=>
  refine(if_neg (by decide)).trans ?_
  obtain⟨hok,i,p1,p2,p3,p4,p5⟩:=ZJq he;rw[p5];have hal:=hok.al _ (ZBX p2);obtain⟨d1,d2,d3,d4,d5⟩:=ZEQ hal p4;refine(bds (ZW5 d1 (by omega) s)).trans ?_
  show(if(!(hasN (inAt f.v.1 i).v.2.2.2.2.2.2.1 s))=true then _ else _)=_
  cases hh:hasN (inAt f.v.1 i).v.2.2.2.2.2.2.1 s with
  | false=>rfl
  | true=>
   rw[if_neg (by decide)]
   have:ptN (inAt f.v.1 i).v.2.2.2.2.2.2.1 s<(inAt f.v.1 i).v.2.2.2.2.2.2.2.1.length:=by
    unfold hasN at hh;simp only[Bool.and_eq_true,decide_eq_true_eq] at hh;omega
   exact(bds (nthD 0 this))
theorem Ok.nums {l:List ZAO} {nx:Int} (h:Ok l nx):∀x∈l,x.v.2.2.2.2.2.2.2.1.length≤200:=fun x hx=>by have:=ZER (h.al x hx);omega
theorem ZJr {f:FsR} (hs:ZBh f.v.1) (n:Int):ZBI f n=some (parS f n):=by
 refine(bds (ZUs hs n)).trans ?_
 unfold parS
 cases he:(dirS f n).2.c with
 | some e=>
  exact(if_pos rfl).trans rfl
 | none=>
  refine(if_neg (by decide)).trans ?_
  obtain⟨hok,_⟩:=ZJq he;obtain⟨m,m1,m2,m3⟩:=ZPL hok.len hok.nums;refine(bds m1).trans ?_
  rw[m2]
  cases hu:upsL f.v.1 n with
  | nil=>rfl
  | cons p q=>exact(if_pos (decide_eq_true (by simp))).trans rfl
theorem ZR3 {f:FsR} {d:Int} {s:Str} (h:(ZBY f d s).2=0):Ok f.v.1 f.v.2.1∧∃i,posI f.v.1 d=some i∧i<f.v.1.length∧(inAt f.v.1 i).v.1=d∧(inAt f.v.1 i).v.2.1=2∧hasN (inAt f.v.1 i).v.2.2.2.2.2.2.1 s=true∧(ZBY f d s).1=(inAt f.v.1 i).v.2.2.2.2.2.2.2.1.getD (ptN (inAt f.v.1 i).v.2.2.2.2.2.2.1 s) 0∧
  ptN (inAt f.v.1 i).v.2.2.2.2.2.2.1 s<(inAt f.v.1 i).v.2.2.2.2.2.2.1.length∧(inAt f.v.1 i).v.2.2.2.2.2.2.2.1.length=(inAt f.v.1 i).v.2.2.2.2.2.2.1.length∧∃k,posI f.v.1 (ZBY f d s).1=some k∧k<f.v.1.length∧(inAt f.v.1 k).v.1=(ZBY f d s).1:=by
 unfold ZBY at h ⊢
 cases he:(dirS f d).2.c with
 | some e=>
  rw[he] at h;exfalso
  have h:e=0:=h
  subst h;unfold dirS at he;split at he
  ·split at he
   ·simp at he
   split at he<;> simp at he
  simp at he
 | none=>
  obtain⟨hok,i,p1,p2,p3,p4,p5⟩:=ZJq he;rw[he] at h;simp only[p5] at h ⊢
  cases hh:hasN (inAt f.v.1 i).v.2.2.2.2.2.2.1 s with
  | false=>rw[hh] at h;simp at h
  | true=>
   obtain⟨d1,d2,d3,d4,d5⟩:=ZEQ (hok.al _ (ZBX p2)) p4;have hlt:ptN (inAt f.v.1 i).v.2.2.2.2.2.2.1 s<(inAt f.v.1 i).v.2.2.2.2.2.2.1.length:=by
    unfold hasN at hh;simp only[Bool.and_eq_true,decide_eq_true_eq] at hh;exact hh.1
   refine⟨hok,i,p1,p2,p3,p4,hh,rfl,hlt,d2,?_⟩
   simp only[if_true];have hm:(inAt f.v.1 i).v.2.2.2.2.2.2.2.1.getD (ptN (inAt f.v.1 i).v.2.2.2.2.2.2.1 s) 0∈ZFi f.v.1:=by
    unfold ZFi;rw[List.mem_flatMap];refine⟨_,ZBX p2,?_⟩
    rw[List.getD_eq_getElem?_getD,List.getElem?_eq_getElem (by omega),Option.getD_some]
    exact List.getElem_mem _
   obtain⟨x,x1,x2⟩:=hok.kn _ hm
   cases hp:posI f.v.1 ((inAt f.v.1 i).v.2.2.2.2.2.2.2.1.getD (ptN (inAt f.v.1 i).v.2.2.2.2.2.2.1 s) 0) with
   | none=>
    exfalso
    obtain⟨k,hk,rfl⟩:=List.getElem_of_mem x1;exact ZJn hp k hk (by rw[ZB1 hk];exact x2)
   | some k=>exact⟨k,rfl,(ZBV hp).1,(ZBV hp).2⟩
end Go.Ai.Rab
end
