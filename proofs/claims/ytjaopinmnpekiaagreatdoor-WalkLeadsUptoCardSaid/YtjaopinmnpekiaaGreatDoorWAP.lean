/- My own texts DevPgV, one behind the other. -/
import Derived.Test.YtjaopinmnpekiaaGreatDoorWAE
import Derived.Test.YtjaopinmnpekiaaGreatDoorWAO
import Derived.Test.YtjaopinmnpekiaaGreatDoorWAN
set_option linter.unusedVariables false
set_option linter.unusedSimpArgs false
set_option maxRecDepth 100000
set_option maxHeartbeats 16000000
attribute [local irreducible] Go.Ai.TC Go.Ai.TO Go.Ai.MF Go.Ai.ZCS Go.Ai.ZBg Go.Ai.encR
open Go.Ai.Enc (enc is)
open Go.Ai.Res (res ris)
open Go.Ai.Args (args)
open Go.Ai.Flds (fe fi fk)
namespace Go.Ai
abbrev WR:Type:=(Rec ((List Str)×Bool×Int×ZAU×Int×Unit))
end Go.Ai
namespace Go.Ai.TTryz
open Go.Proofs
def zx68:List AV:=[.nils,enc false,enc (0:Int),enc (0:Int),enc (str []),enc (0:Int),enc false,enc (0:Int)]
theorem zr68:ZBM Tryz.prog 68=some (.agg zx68):=by kernel_rfl
theorem zf68:fi zx68 (Rec.mk (([]:(List Str)),false,(0:Int),(Rec.mk ((0:Int),(str []),(0:Int),false,()):ZAU),(0:Int),()):WR).v:=⟨_,_,rfl,isL.nil,⟨_,_,rfl,rfl,⟨_,_,rfl,rfl,⟨[enc (0:Int),enc (str []),enc (0:Int),enc false],_,rfl,⟨_,_,rfl,rfl,⟨_,_,rfl,rfl,⟨_,_,rfl,rfl,⟨_,_,rfl,rfl,rfl⟩⟩⟩⟩,⟨_,_,rfl,rfl,rfl⟩⟩⟩⟩⟩
theorem pl68:plB Tryz.prog 68 [(0,1),(1,1),(2,1),(3,4),(7,1)]=true:=by kernel_rfl
theorem ZHj:flO Tryz.prog 68 0 0=true:=by kernel_rfl
theorem ZO8:flO Tryz.prog 68 1 1=true:=by kernel_rfl
theorem ZFn:flO Tryz.prog 68 2 2=true:=by kernel_rfl
theorem ZM3:flO Tryz.prog 68 3 3=true:=by kernel_rfl
theorem ZRv:flO Tryz.prog 68 4 7=true:=by kernel_rfl
end Go.Ai.TTryz
namespace Go.Ai.Rab
open Go.Proofs TTryz Tryz
noncomputable def ZBK (f:FsR) (num:Int):Option (Int):=
 ((ZBj f num).bind fun r_=>((ZBN f).bind fun r_1=>((if(!r_1) then some true else some (decide (r_<0))).bind fun b=>((if b then some true else((nth f.v.1 r_).bind fun v=>some (v.v.2.1 !=2))).bind fun b1=>(if b1 then some (0) else((ZHh f num).bind fun r_2=>some (r_2)))))))
noncomputable def ZBt (i:Int) (out_2:(List Str)) (last2:Str) (from_1:Int):Option (((List Str)×Str×Int×Int) ⊕ (((List Str)×Str) ⊕ ((List Str)×Bool×Int))):=
 some (.inl (out_2,last2,from_1,(IntKind.i64.wrap (i+1))))
noncomputable def ZCk (out_:(List Str)) (t:Str) (i:Int):Option (((List Str)×Str×Int×Int) ⊕ (((List Str)×Str) ⊕ ((List Str)×Bool×Int))):=
 ((app 16 out_ [t]).bind fun l=>(ZBt i l t (IntKind.i64.wrap (i+1))))
noncomputable def ZCG (s_:Str):((List Str)×Str×Int×Int)→Option (((List Str)×Str×Int×Int) ⊕ (((List Str)×Str) ⊕ ((List Str)×Bool×Int)))
 | (out_,last,from_,i)=>(if(decide (i≤((List.length s_:Nat):Int))) then((if(decide (i<((List.length s_:Nat):Int))) then((nth (α:=UInt8) s_ i).bind fun c1=>some (((c1).toNat:Int) !=47)) else some false).bind fun b=>(if b then(ZBt i out_ last from_) else((subT s_ from_ i).bind fun t=>((if(eqS t (str [])) then some true else some (eqS t (str [46]))).bind fun b1=>(if b1 then(ZBt i out_ t (IntKind.i64.wrap (i+1))) else(if(!eqS t (str [46,46])) then((ZBb t).bind fun r_=>(if(r_ !=0) then some (.inr (.inr ([],false,r_))) else(ZCk out_ t i))) else(ZCk out_ t i))))))) else some (.inr (.inl (out_,last))))
noncomputable def ZEf:(((List Str)×Str) ⊕ ((List Str)×Bool×Int))→Option ((List Str)×Bool×Int)
 | (.inl (out_1,last1))=>((if(eqS last1 (str [])) then some true else some (eqS last1 (str [46]))).bind fun b2=>some (out_1,b2,0))
 | (.inr (v,v1,v2))=>some (v,v1,v2)
noncomputable def ZCX (s_:Str):Option ((List Str)×Bool×Int):=
 (if(eqS s_ (str [])) then some ([],false,206) else(if(decide (((List.length s_:Nat):Int) > 1000)) then some ([],false,208) else((nth (α:=UInt8) s_ 0).bind fun c=>(if(((c).toNat:Int) !=47) then some ([],false,206) else((loop (ZCG s_) ([],(str []),1,1)).bind (ZEf))))))
noncomputable def ZFc (l:(List Str)):(Str×Int)→Option ((Str×Int) ⊕ Str)
 | (s_,i)=>(if(decide (i<(l.length:Int))) then((catT s_ (str [47])).bind fun s_2=>((nth l i).bind fun v=>((catT s_2 v).bind fun s_3=>some (.inl (s_3,(IntKind.i64.wrap (i+1))))))) else some (.inr s_))
noncomputable def ZJk (l:(List Str)):Str→Option (Str)
 | s_1=>(if((l.length:Int)==0) then some ((str [47])) else some (s_1))
noncomputable def ZD3 (l:(List Str)):Option (Str):=
 ((loop (ZFc l) ((str []),0)).bind (ZJk l))
noncomputable def ZBW (f:FsR) (num:Int):Option (ZAO):=
 ((ZBj f num).bind fun r_=>((nth f.v.1 r_).bind fun v=>some (v)))
noncomputable def ZDp (f:FsR) (num:Int):Option (Bool):=
 ((ZBj f num).bind fun r_=>((if(decide (r_≥0)) then((nth f.v.1 r_).bind fun v=>some (v.v.2.1==2)) else some false).bind fun b=>some (b)))
noncomputable def ZCO (r_:((List Str)×Bool×Int)) (w2:WR):Option (WR×Int):=
 ((app 16 ([]:(List Str)) r_.1).bind fun l=>((app 16 l w2.v.1).bind fun l1=>some ((Rec.mk (l1,w2.v.2.1,w2.v.2.2.1,(Rec.mk (w2.v.2.2.1,(str []),w2.v.2.2.1,false,()):ZAU),w2.v.2.2.2.2.1,()):WR),0)))
noncomputable def ZBe (w1:WR) (t:Str):Option (WR×Int):=
 ((ZCX t).bind fun r_=>(if(r_.2.2 !=0) then some (w1,r_.2.2) else(if((w1.v.1.length:Int)==0) then((if w1.v.2.1 then some true else some r_.2.1).bind fun b=>(ZCO r_ (Rec.mk (w1.v.1,b,w1.v.2.2.1,w1.v.2.2.2.1,w1.v.2.2.2.2.1,()):WR))) else(ZCO r_ w1))))
noncomputable def ZFF (w:WR) (target:Str):Option (WR×Int):=
 (if(w.v.2.2.2.2.1==8) then some (w,209) else((nth (α:=UInt8) target 0).bind fun c=>(if(((c).toNat:Int)==47) then(ZBe (Rec.mk (w.v.1,w.v.2.1,1,w.v.2.2.2.1,(IntKind.i64.wrap (w.v.2.2.2.2.1+1)),()):WR) target) else((catT (str [47]) target).bind fun s_=>(ZBe (Rec.mk (w.v.1,w.v.2.1,w.v.2.2.1,w.v.2.2.2.1,(IntKind.i64.wrap (w.v.2.2.2.2.1+1)),()):WR) s_)))))
noncomputable def ZFd (w1:WR):Option (WR×Int):=
 some ((Rec.mk (w1.v.1,w1.v.2.1,w1.v.2.2.1,(Rec.mk (w1.v.2.2.1,(str []),w1.v.2.2.1,false,()):ZAU),w1.v.2.2.2.2.1,()):WR),0)
noncomputable def ZHk (w:WR) (f:FsR) (follow:Bool):Option (WR×Int):=
 ((nth w.v.1 0).bind fun v=>((sub w.v.1 1 (w.v.1.length:Nat)).bind fun l=>((ZBW f w.v.2.2.1).bind fun r_=>(if(r_.v.2.1 !=2) then some ((Rec.mk (l,w.v.2.1,w.v.2.2.1,w.v.2.2.2.1,w.v.2.2.2.2.1,()):WR),203) else(if(eqS v (str [46,46])) then((ZBK f w.v.2.2.1).bind fun r_1=>(if(decide (r_1 > 0)) then(ZFd (Rec.mk (l,w.v.2.1,r_1,w.v.2.2.2.1,w.v.2.2.2.2.1,()):WR)) else(ZFd (Rec.mk (l,w.v.2.1,w.v.2.2.1,w.v.2.2.2.1,w.v.2.2.2.2.1,()):WR)))) else((ZCj f w.v.2.2.1 v).bind fun r_2=>((if(r_2.2 !=0) then some (decide ((l.length:Int) > 0)) else some false).bind fun b=>(if b then some ((Rec.mk (l,w.v.2.1,w.v.2.2.1,w.v.2.2.2.1,w.v.2.2.2.2.1,()):WR),201) else(if(r_2.2 !=0) then some ((Rec.mk (l,w.v.2.1,w.v.2.2.1,(Rec.mk (w.v.2.2.1,v,(0:Int),false,()):ZAU),w.v.2.2.2.2.1,()):WR),0) else((ZBW f r_2.1).bind fun r_3=>((if(r_3.v.2.1==3) then((if(decide ((l.length:Int) > 0)) then some true else some follow).bind fun b2=>((if b2 then some true else some w.v.2.1).bind fun b3=>some b3)) else some false).bind fun b1=>(if b1 then((ZFF (Rec.mk (l,w.v.2.1,w.v.2.2.1,w.v.2.2.2.1,w.v.2.2.2.2.1,()):WR) r_3.v.2.2.2.2.2.1).bind fun r_4=>some (r_4.1,r_4.2)) else some ((Rec.mk (l,w.v.2.1,r_2.1,(Rec.mk (w.v.2.2.1,v,r_2.1,false,()):ZAU),w.v.2.2.2.2.1,()):WR),0)))))))))))))
noncomputable def ZFe (f:FsR) (follow:Bool):(ZAU×WR)→Option ((ZAU×WR) ⊕ ((ZAU×WR) ⊕ (ZAU×Int)))
 | (v,w2)=>(if(decide ((w2.v.1.length:Int) > 0)) then((ZHk w2 f follow).bind fun r_2=>(if(r_2.2 !=0) then some (.inr (.inr ((Rec.mk ((0:Int),(str []),(0:Int),false,()):ZAU),r_2.2))) else some (.inl (v,r_2.1)))) else some (.inr (.inl (v,w2))))
noncomputable def ZFf (f:FsR):((ZAU×WR) ⊕ (ZAU×Int))→Option (ZAU×Int)
 | (.inl (v1,w3))=>((if(w3.v.2.2.2.1.v.2.2.1 !=0) then some w3.v.2.1 else some false).bind fun b=>((if b then((ZBW f w3.v.2.2.2.1.v.2.2.1).bind fun r_3=>some (r_3.v.2.1 !=2)) else some false).bind fun b1=>(if b1 then some ((Rec.mk ((0:Int),(str []),(0:Int),false,()):ZAU),203) else some ((Rec.mk (w3.v.2.2.2.1.v.1,w3.v.2.2.2.1.v.2.1,w3.v.2.2.2.1.v.2.2.1,w3.v.2.1,()):ZAU),0))))
 | (.inr (v2,v3))=>some (v2,v3)
noncomputable def ZEg (f:FsR) (path:Str) (follow:Bool):Option (ZAU×Int):=
 ((ZBN f).bind fun r_=>(if(!r_) then some ((Rec.mk ((0:Int),(str []),(0:Int),false,()):ZAU),2) else((ZCX path).bind fun r_1=>(if(r_1.2.2 !=0) then some ((Rec.mk ((0:Int),(str []),(0:Int),false,()):ZAU),r_1.2.2) else((loop (ZFe f follow) ((Rec.mk ((0:Int),(str []),(0:Int),false,()):ZAU),(Rec.mk (r_1.1,r_1.2.1,1,(Rec.mk (1,(str []),1,false,()):ZAU),(0:Int),()):WR))).bind (ZFf f))))))
noncomputable def ZCP (f:FsR) (in_:Int):(Int×Int)→Option ((Int×Int) ⊕ (Unit ⊕ Bool))
 | (n,i)=>((if(decide (i≤(f.v.1.length:Int))) then some (decide (n > 0)) else some false).bind fun b2=>(if b2 then(if(n==in_) then some (.inr (.inr true)) else((ZBK f n).bind fun r_3=>some (.inl (r_3,(IntKind.i64.wrap (i+1)))))) else some (.inr (.inl ()))))
noncomputable def ZCz:(Unit ⊕ Bool)→Option (Bool)
 | (.inl _)=>some (false)
 | (.inr v)=>some (v)
noncomputable def ZCl (f:FsR) (num:Int) (in_:Int):Option (Bool):=
 ((ZBN f).bind fun r_=>((if(!r_) then some true else((ZDp f num).bind fun r_1=>some (!r_1))).bind fun b=>((if b then some true else((ZDp f in_).bind fun r_2=>some (!r_2))).bind fun b1=>(if b1 then some (false) else((loop (ZCP f in_) (num,0)).bind (ZCz))))))
noncomputable def ZFg (k:Int) (l4:(List Str)):Option (((List Str)×Int) ⊕ (List Str)):=
 some (.inl (l4,(IntKind.i64.wrap (k+1))))
noncomputable def ZDI (r_3:ZAO) (n:Int):((List Str)×Int)→Option (((List Str)×Int) ⊕ (List Str))
 | (l2,k)=>((if(decide (k<(r_3.v.2.2.2.2.2.2.2.1.length:Int))) then some (decide (k<(r_3.v.2.2.2.2.2.2.1.length:Int))) else some false).bind fun b2=>(if b2 then((nth r_3.v.2.2.2.2.2.2.2.1 k).bind fun v1=>(if(v1==n) then((nth r_3.v.2.2.2.2.2.2.1 k).bind fun v2=>((app 16 [v2] l2).bind fun l5=>(ZFg k l5))) else(ZFg k l2))) else some (.inr l2)))
noncomputable def ZEO (r_2:Int) (i:Int):(List Str)→Option (((List Str)×Int×Int) ⊕ ((List Str) ⊕ Str))
 | l3=>some (.inl (l3,r_2,(IntKind.i64.wrap (i+1))))
noncomputable def ZEP (f:FsR):((List Str)×Int×Int)→Option (((List Str)×Int×Int) ⊕ ((List Str) ⊕ Str))
 | (l,n,i)=>((if(decide (i≤(f.v.1.length:Int))) then some (n !=1) else some false).bind fun b1=>(if b1 then((ZBK f n).bind fun r_2=>(if(r_2==0) then some (.inr (.inr (str []))) else((ZBW f r_2).bind fun r_3=>((loop (ZDI r_3 n) (l,0)).bind (ZEO r_2 i))))) else some (.inr (.inl l))))
noncomputable def ZFh:((List Str) ⊕ Str)→Option (Str)
 | (.inl l1)=>((ZD3 l1).bind fun r_4=>some (r_4))
 | (.inr v)=>some (v)
noncomputable def ZEh (f:FsR) (num:Int):Option (Str):=
 ((ZBN f).bind fun r_=>((if(!r_) then some true else((ZDp f num).bind fun r_1=>some (!r_1))).bind fun b=>(if b then some ((str [])) else((loop (ZEP f) ([],num,0)).bind (ZFh)))))
theorem ZLX (mx:Int) (f:FsR) (num:Int) (r:Int) (h:ZBK f num=some r):MF Tryz.prog (pt20 mx) 12 [enc f,enc num] (sG (NG mx)) fun v _=>ris v r:=by
 refine ZAh [(0,enc f),(1,enc num)] func12 rfl (by simp only[Tryz.f12];rfl) fun ψ=> ?_
 unfold ZBK at h;have hs:Hp (sG (NG mx)) [.gl (NG mx)]:=Hp.gl0
 refine ZAB<|ZAC<|ZA5 (r:=f) rfl (Enc.self f) hs fun m xs s hxs hs=>ZAG (v:=enc (0:Int)) rfl<|ZAA<|ZAB<|ZAC<|ZAm (r:=f) ag24 sz24 rfl hxs hs fun y hy=>ZAE rfl ?_
 obtain⟨r_,hx,h⟩:=bs h;refine ZAY (f:=fun a:FsR×Int×Unit=>ZBj a.1 a.2.1) (a:=(f,num,())) rfl func18 rfl rfl (.cons (a:=f) hy (.cons (a:=num) (Enc.self _) .nil)) hs (lM _ List.mem_cons_self) hx<|ZAG rfl<|ZAA<|ZAB<|ZAB<|ZAC<|ZAm (r:=f) ag24 sz24 rfl hxs hs fun y1 hy1=> ?_
 obtain⟨r_1,hx1,h⟩:=bs h;refine ZAY (f:=fun a:FsR×Unit=>ZBN a.1) (a:=(f,())) rfl func30 rfl rfl (.cons (a:=f) hy1 .nil) hs (lM _ List.mem_cons_self) hx1<|ZBO (v:=enc (!r_1)) rfl rfl<|ZAE rfl ?_
 obtain⟨b,hb_b,h⟩:=bs h;refine ZAS 3 (fun φ s=>Hp s [(.cells m xs),(.gl (NG mx))]∧Fx φ [(1,(enc num)),(2,(.ptr m 0)),(5,(enc r_)),(15,(enc b))]) ?_ ?_
 ·split at hb_b
  ·rename_i cg;refine ZAD rfl rfl (by first | simpa using cg | (rw[cg];decide))<|ZAD rfl rfl (by first | simpa using cg | (rw[cg];decide))<|ZAa (v:=enc true) rfl cg rfl<|ZAA ?_
   rw[←oi hb_b];exact⟨hs,FxR rfl⟩
  rename_i cg1;refine ZAF rfl rfl (by first | simpa using cg1 | (rw[cg1];decide))<|ZAE rfl<|ZAF rfl rfl (by first | simpa using cg1 | (rw[cg1];decide))<|ZAJ (v:=enc (decide (r_<0))) rfl rfl rfl<|ZAZ rfl cg1 rfl<|ZAA ?_
  rw[←oi hb_b];exact⟨hs,FxR rfl⟩
 rintro φ s ⟨hs,hF⟩;rw[←hF.eq];refine ZAE rfl ?_
 obtain⟨b1,hb_b1,h⟩:=bs h;refine ZAS 8 (fun φ s=>Hp s [(.cells m xs),(.gl (NG mx))]∧Fx φ [(1,(enc num)),(2,(.ptr m 0)),(24,(enc b1))]) ?_ ?_
 ·split at hb_b1
  ·rename_i cg2;refine ZAD rfl rfl (by first | simpa using cg2 | (rw[cg2];decide))<|ZAD rfl rfl (by first | simpa using cg2 | (rw[cg2];decide))<|ZAD rfl rfl (by first | simpa using cg2 | (rw[cg2];decide))<|ZAD rfl rfl (by first | simpa using cg2 | (rw[cg2];decide))<|ZAD rfl rfl (by first | simpa using cg2 | (rw[cg2];decide))<|ZAD rfl rfl (by first | simpa using cg2 | (rw[cg2];decide))<|ZAD rfl rfl (by first | simpa using cg2 | (rw[cg2];decide))<|ZAa (v:=enc true) rfl cg2 rfl<|ZAA ?_
   rw[←oi hb_b1];exact⟨hs,FxR rfl⟩
  rename_i cg3;refine ZAF rfl rfl (by first | simpa using cg3 | (rw[cg3];decide))<|ZAV ZAz rfl<|ZAF rfl rfl (by first | simpa using cg3 | (rw[cg3];decide))<|ZAK ag22 Sz rfl hxs hs fun y2 hy2=>ZAF rfl rfl (by first | simpa using cg3 | (rw[cg3];decide))<|ZAE rfl<|ZAF rfl rfl (by first | simpa using cg3 | (rw[cg3];decide)) ?_
  obtain⟨v,hx2,hb_b1⟩:=bs hb_b1;refine ZAu underlying22 sh47 rfl rfl hy2 hx2 fun p hp=>ZAF rfl rfl (by first | simpa using cg3 | (rw[cg3];decide))<|ZCT ZB4 (Ss Sz) rfl hp fun p1 hp1=>ZAF rfl rfl (by first | simpa using cg3 | (rw[cg3];decide))<|ZBQ ag41 rfl hp1 fun y3 hy3=> ?_
  cases hy3;refine ZAF rfl rfl (by first | simpa using cg3 | (rw[cg3];decide))<|ZAJ (v:=enc (v.v.2.1 !=2)) rfl rfl rfl<|ZAZ rfl cg3 rfl<|ZAA ?_
  rw[←oi hb_b1];exact⟨hs,FxR rfl⟩
 rintro φ s ⟨hs,hF⟩;rw[←hF.eq];refine ZAA ?_
 split at h
 ·rename_i c';refine ZAH rfl c'<|ZAB<|ZAC<|ZAG (v:=enc (0:Int)) rfl<|ZAA<|ZAN ?_
  rw[←oi h];exact⟨rfl,KE1 (a:=(0:Int)) rfl rfl (rfl:is _ (0:Int)) (rfl:is _ (0:Int))⟩
 rename_i c';refine ZAI rfl c'<|ZAL<|ZAB<|ZAC<|ZAm (r:=f) ag24 sz24 rfl hxs hs fun y4 hy4=>ZAE rfl ?_
 obtain⟨r_2,hx3,h⟩:=bs h;refine ZAY (f:=fun a:FsR×Int×Unit=>ZHh a.1 a.2.1) (a:=(f,num,())) rfl func31 rfl rfl (.cons (a:=f) hy4 (.cons (a:=num) (Enc.self _) .nil)) hs (lM _ List.mem_cons_self) hx3<|ZAG rfl<|ZAA<|ZAN ?_
 rw[←oi h];exact⟨rfl,KE1 (a:=r_2) rfl rfl (rfl:is _ r_2) (rfl:is _ r_2)⟩
theorem ZLY (mx:Int):ZAq Tryz.prog 12 (FnG (NG mx) (fun a:FsR×Int×Unit=>ZBK a.1 a.2.1)):=fnCG (ZRu mx) ⟨_,func12,rfl⟩<|fun a r h=>ZLX mx a.1 a.2.1 r h
noncomputable def ZVS (mx:Int):Prims:=(pt20 mx).addG 12 (FnG (NG mx) (fun a:FsR×Int×Unit=>ZBK a.1 a.2.1))
theorem ZO9 (mx:Int):ZAX Tryz.prog (ZVS mx):=ZAR (ZRu mx) (ZLY mx)
theorem ZM4 (mx:Int) (s_:Str) (r:(List Str)×Bool×Int) (h:ZCX s_=some r):MF Tryz.prog (ZVS mx) 32 [enc s_] (sG (NG mx)) fun v _=>ris v r:=by
 refine ZAh [(0,enc s_)] func32 rfl (by simp only[Tryz.f32];rfl) fun ψ=> ?_
 unfold ZCX at h;have hs:Hp (sG (NG mx)) [.gl (NG mx)]:=Hp.gl0
 refine ZAB<|ZAC<|ZAG (v:= .nils) rfl<|ZAG (v:=enc false) rfl<|ZAG (v:=enc (0:Int)) rfl<|ZAA<|ZAB<|ZAB<|ZAC<|ZAE rfl<|ZAJ (v:=enc ((eqS s_ (str [])):Bool)) rfl rfl rfl<|ZAA ?_
 split at h
 ·rename_i c';refine ZAH rfl c'<|ZAB<|ZAC<|ZAG (v:= .nils) rfl<|ZAG (v:=enc false) rfl<|ZAG (v:=enc (206:Int)) rfl<|ZAA<|ZAN ?_
  rw[←oi h];exact⟨rfl,KE3 (a1:=([]:(List Str))) (a2:=(false:Bool)) (a3:=(206:Int)) rfl rfl rfl rfl isL.nil (rfl:is _ (false:Bool)) (rfl:is _ (206:Int)) ⟨_,_,_,rfl,isL.nil,(rfl:is _ (false:Bool)),(rfl:is _ (206:Int))⟩⟩
 rename_i c';refine ZAI rfl c'<|ZAL<|ZAB<|ZAB<|ZAC<|ZAE rfl<|ZE6 underlying9 rfl rfl<|ZAJ (v:=enc (decide (((List.length s_:Nat):Int) > 1000))) rfl rfl rfl<|ZAA ?_
 split at h
 ·rename_i c';refine ZAH rfl c'<|ZAB<|ZAC<|ZAG (v:= .nils) rfl<|ZAG (v:=enc false) rfl<|ZAG (v:=enc (208:Int)) rfl<|ZAA<|ZAN ?_
  rw[←oi h];exact⟨rfl,KE3 (a1:=([]:(List Str))) (a2:=(false:Bool)) (a3:=(208:Int)) rfl rfl rfl rfl isL.nil (rfl:is _ (false:Bool)) (rfl:is _ (208:Int)) ⟨_,_,_,rfl,isL.nil,(rfl:is _ (false:Bool)),(rfl:is _ (208:Int))⟩⟩
 rename_i c';refine ZAI rfl c'<|ZAL<|ZAB<|ZAB<|ZAC<|ZAE rfl ?_
 obtain⟨c,hx,h⟩:=bs h;refine ZFm underlying9 rfl rfl hx<|ZAJ (v:=enc ((((c).toNat:Int) !=47):Bool)) rfl rfl rfl<|ZAA ?_
 split at h
 ·rename_i c';refine ZAH rfl c'<|ZAB<|ZAC<|ZAG (v:= .nils) rfl<|ZAG (v:=enc false) rfl<|ZAG (v:=enc (206:Int)) rfl<|ZAA<|ZAN ?_
  rw[←oi h];exact⟨rfl,KE3 (a1:=([]:(List Str))) (a2:=(false:Bool)) (a3:=(206:Int)) rfl rfl rfl rfl isL.nil (rfl:is _ (false:Bool)) (rfl:is _ (206:Int)) ⟨_,_,_,rfl,isL.nil,(rfl:is _ (false:Bool)),(rfl:is _ (206:Int))⟩⟩
 rename_i c';refine ZAI rfl c'<|ZAL<|ZAB<|ZAC<|ZAG (v:= .nils) rfl<|ZAA<|ZAB<|ZAC<|ZAG (v:=enc ((str []):Str)) rfl<|ZAA<|ZAB<|ZAC<|ZAG (v:=enc (1:Int)) rfl<|ZAA<|ZAB ?_
 refine ZAB<|ZAC<|ZAG (v:=enc (1:Int)) rfl<|ZAA<|ZAQ ?_
 obtain⟨o,hl,h⟩:=bs h;refine ZAk (fun(p:((List Str)×Str×Int×Int)) φ s=>match p with | (out_,last,from_,i)=>∃(x_out_:AV),is x_out_ out_∧ZBd x_out_=true∧Fx φ [(0,(enc s_)),(5,x_out_),(6,(enc last)),(7,(enc from_)),(8,(enc i))]∧Hp s [(.gl (NG mx)), .own x_out_]) (fun(o:(((List Str)×Str) ⊕ ((List Str)×Bool×Int))) e φ s=>match o with | (.inl (out_1,last1))=>e= .exit 0∧∃(x_out_1:AV),is x_out_1 out_1∧ZBd x_out_1=true∧Fx φ [(5,x_out_1),(6,(enc last1))]∧Hp s [(.gl (NG mx)), .own x_out_1] | (.inr (v,v1,v2))=>e= .ret∧∃(x_v:AV),is x_v v∧Fx φ [(2,x_v),(3,(enc v1)),(4,(enc v2))]∧Hp s [(.gl (NG mx))]) ?_ hl ⟨.nils,isL.nil,rfl,FxR rfl,(Hp.front [.own .nils] (b:=[]) (Hp.front [] (b:=[(.gl (NG mx))]) (Hp.add hs rfl)))⟩ ?_
 ·rintro⟨out_,last,from_,i⟩ o h φ s ⟨x_out_,h_out_,h_out_c,hF,hs⟩;rw[←hF.eq];rw[ZCG] at h;refine ZAB<|ZAB<|ZAC<|ZAE rfl<|ZAE rfl<|ZE6 underlying9 rfl rfl<|ZAJ (v:=enc (decide (i≤((List.length s_:Nat):Int)))) rfl rfl rfl<|ZAA ?_
  split at h
  ·rename_i c';refine ZAH rfl c'<|ZAL<|ZCd (fun φ s=>∃(out_2:(List Str)) (last2:Str) (from_1:Int) (x_out_2:AV),is x_out_2 out_2∧ZBd x_out_2=true∧Fx φ [(0,(enc s_)),(5,x_out_2),(6,(enc last2)),(7,(enc from_1)),(8,(enc i))]∧Hp s [(.gl (NG mx)), .own x_out_2]∧ZBt i out_2 last2 from_1=some o) ?_ ?_
   ·refine ZAQ ?_
    refine ZAB<|ZAB<|ZAC<|ZAE rfl<|ZAE rfl<|ZE6 underlying9 rfl rfl<|ZAJ (v:=enc (decide (i<((List.length s_:Nat):Int)))) rfl rfl rfl<|ZAE rfl ?_
    obtain⟨b,hb_b,h⟩:=bs h;refine ZAS 5 (fun φ s=>Hp s [(.gl (NG mx)), .own x_out_]∧Fx φ [(0,(enc s_)),(5,x_out_),(6,(enc last)),(7,(enc from_)),(8,(enc i)),(33,(enc b))]) ?_ ?_
    ·split at hb_b
     ·rename_i cg;refine ZAF rfl rfl cg<|ZAE rfl<|ZAF rfl rfl cg<|ZAE rfl<|ZAF rfl rfl cg ?_
      obtain⟨c1,hx1,hb_b⟩:=bs hb_b;refine ZFm underlying9 rfl rfl hx1<|ZAF rfl rfl cg<|ZAJ (v:=enc ((((c1).toNat:Int) !=47):Bool)) rfl rfl rfl<|ZAa rfl cg rfl<|ZAA ?_
      rw[←oi hb_b];exact⟨hs,FxR rfl⟩
     rename_i cg1;refine ZAD rfl rfl cg1<|ZAD rfl rfl cg1<|ZAD rfl rfl cg1<|ZAD rfl rfl cg1<|ZAZ (v:=enc false) rfl cg1 rfl<|ZAA ?_
     rw[←oi hb_b];exact⟨hs,FxR rfl⟩
    rintro φ s ⟨hs,hF⟩;rw[←hF.eq];refine ZAA ?_
    split at h
    ·rename_i c';refine ZAH rfl c'<|ZAf ?_
     show if _ then _ else _
     rw[if_pos rfl];exact⟨out_,last,from_,x_out_,h_out_,h_out_c,FxR rfl,hs,h⟩
    rename_i c';refine ZAI rfl c'<|ZAL<|ZAB<|ZAC<|ZAE rfl<|ZAE rfl<|ZAE rfl ?_
    obtain⟨t,hx2,h⟩:=bs h;refine ZSn underlying9 rfl rfl rfl hx2<|ZAG rfl<|ZAA<|ZAB<|ZAC<|ZAE rfl<|ZAJ (v:=enc (IntKind.i64.wrap (i+1))) rfl rfl rfl<|ZAG rfl<|ZAA<|ZAB<|ZAB<|ZAC<|ZAE rfl<|ZAJ (v:=enc ((eqS t (str [])):Bool)) rfl rfl rfl<|ZAE rfl ?_
    obtain⟨b1,hb_b1,h⟩:=bs h;refine ZAS 3 (fun φ s=>Hp s [(.gl (NG mx)), .own x_out_]∧Fx φ [(0,(enc s_)),(5,x_out_),(6,(enc t)),(7,(enc (IntKind.i64.wrap (i+1)))),(8,(enc i)),(45,(enc b1))]) ?_ ?_
    ·split at hb_b1
     ·rename_i cg2;refine ZAD rfl rfl (by first | simpa using cg2 | (rw[cg2];decide))<|ZAD rfl rfl (by first | simpa using cg2 | (rw[cg2];decide))<|ZAa (v:=enc true) rfl cg2 rfl<|ZAA ?_
      rw[←oi hb_b1];exact⟨hs,FxR rfl⟩
     rename_i cg3;refine ZAF rfl rfl (by first | simpa using cg3 | (rw[cg3];decide))<|ZAE rfl<|ZAF rfl rfl (by first | simpa using cg3 | (rw[cg3];decide))<|ZAJ (v:=enc ((eqS t (str [46])):Bool)) rfl rfl rfl<|ZAZ rfl cg3 rfl<|ZAA ?_
     rw[←oi hb_b1];exact⟨hs,FxR rfl⟩
    rintro φ s ⟨hs,hF⟩;rw[←hF.eq];refine ZAA ?_
    split at h
    ·rename_i c';refine ZAH rfl c'<|ZAf ?_
     show if _ then _ else _
     rw[if_pos rfl];exact⟨out_,t,(IntKind.i64.wrap (i+1)),x_out_,h_out_,h_out_c,FxR rfl,hs,h⟩
    rename_i c';refine ZAI rfl c'<|ZAL<|ZCd (fun φ s=>Fx φ [(0,(enc s_)),(5,x_out_),(6,(enc t)),(7,(enc (IntKind.i64.wrap (i+1)))),(8,(enc i))]∧Hp s [(.gl (NG mx)), .own x_out_]∧ZCk out_ t i=some o) ?_ ?_
    ·refine ZAB ?_
     refine ZAC<|ZAE rfl<|ZAJ (v:=enc (!eqS t (str [46,46]))) rfl rfl rfl<|ZAA ?_
     split at h
     ·rename_i c';refine ZAH rfl c'<|ZAB<|ZAC<|ZAE rfl ?_
      obtain⟨r_,hx4,h⟩:=bs h;refine ZAY (f:=fun a:Str×Unit=>ZBb a.1) (a:=(t,())) rfl func20 rfl rfl (.cons (a:=t) (Enc.self _) .nil) hs List.mem_cons_self hx4<|ZAG rfl<|ZAA<|ZAB<|ZAC<|ZAE rfl<|ZAJ (v:=enc (r_ !=0)) rfl rfl rfl<|ZAA ?_
      split at h
      ·rename_i c';refine ZAH rfl c'<|ZAB<|ZAC<|ZAE rfl<|ZAG (v:= .nils) rfl<|ZAG (v:=enc false) rfl<|ZAG rfl<|ZAA<|ZAN ?_
       show if _ then _ else _
       rw[if_neg (by simp)]
       rw[←oi h];exact⟨_,rfl,rfl,⟨.nils,isL.nil,FxR rfl,(Hp.drop [(.gl (NG mx))] (b:=[]) hs)⟩⟩
      rename_i c';refine ZAI rfl c'<|ZAL ?_
      exact⟨FxR rfl,hs,h⟩
     rename_i c';refine ZAI rfl c'<|ZAL ?_
     exact⟨FxR rfl,hs,h⟩
    rintro φ s ⟨hF,hs,h⟩;rw[←hF.eq];unfold ZCk at h;refine ZAC<|ZAE (v:=x_out_) rfl<|ZAE rfl<|ZDv [(enc t)] ([t]:(List Str)) underlying43 ef9 rfl rfl rfl (Nat.le_of_ble_eq_true rfl) ⟨(rfl:is _ t),trivial⟩ fun z hz hzc hzn=> ?_
    obtain⟨l,hx3,h⟩:=bs h;refine ZKt [(.gl (NG mx))] (es2:=[]) underlying43 underlying43 rfl rfl ef9 rfl rfl h_out_ h_out_c hs hz hx3 fun z1 s hz1 hz1c hs=>ZAG (v:=z1) rfl<|ZAA ?_
    exact⟨l,t,(IntKind.i64.wrap (i+1)),z1,hz1,hz1c,FxR rfl,hs,h⟩
   rintro φ s ⟨out_2,last2,from_1,x_out_2,h_out_2,h_out_2c,hF,hs,h⟩;rw[←hF.eq];unfold ZBt at h;refine ZAC<|ZAE rfl<|ZAJ (v:=enc (IntKind.i64.wrap (i+1))) rfl rfl rfl<|ZAG rfl<|ZAA ?_
   rw[←oi h];exact⟨_,rfl,⟨x_out_2,h_out_2,h_out_2c,FxR rfl,hs⟩⟩
  rename_i c';refine ZAI rfl c'<|ZAf ?_
  rw[←oi h];exact⟨_,rfl,rfl,⟨x_out_,h_out_,h_out_c,FxR rfl,hs⟩⟩
 intro e φ s hE;rcases o with⟨out_1,last1⟩ | ⟨v,v1,v2⟩
 ·obtain⟨rfl,x_out_1,h_out_1,h_out_1c,hF,hs⟩:=hE;rw[←hF.eq];rw[ZEf] at h;show if _ then _ else _
  rw[if_pos rfl];refine ZAB<|ZAC<|ZAE (v:=x_out_1) rfl<|ZAE rfl<|ZAJ (v:=enc ((eqS last1 (str [])):Bool)) rfl rfl rfl<|ZAE rfl ?_
  obtain⟨b2,hb_b2,h⟩:=bs h;refine ZAS 3 (fun φ s=>Hp s [(.gl (NG mx)), .own x_out_1]∧Fx φ [(57,x_out_1),(63,(enc b2))]) ?_ ?_
  ·split at hb_b2
   ·rename_i cg4;refine ZAD rfl rfl (by first | simpa using cg4 | (rw[cg4];decide))<|ZAD rfl rfl (by first | simpa using cg4 | (rw[cg4];decide))<|ZAa (v:=enc true) rfl cg4 rfl<|ZAA ?_
    rw[←oi hb_b2];exact⟨hs,FxR rfl⟩
   rename_i cg5;refine ZAF rfl rfl (by first | simpa using cg5 | (rw[cg5];decide))<|ZAE rfl<|ZAF rfl rfl (by first | simpa using cg5 | (rw[cg5];decide))<|ZAJ (v:=enc ((eqS last1 (str [46])):Bool)) rfl rfl rfl<|ZAZ rfl cg5 rfl<|ZAA ?_
   rw[←oi hb_b2];exact⟨hs,FxR rfl⟩
  rintro φ s ⟨hs,hF⟩;rw[←hF.eq];refine ZAG (v:=x_out_1) rfl<|ZAG rfl<|ZAG (v:=enc (0:Int)) rfl<|ZAA<|ZAN ?_
  rw[←oi h];exact⟨rfl,KE3 (a1:=out_1) (a2:=b2) (a3:=(0:Int)) rfl rfl rfl rfl h_out_1 (rfl:is _ b2) (rfl:is _ (0:Int)) ⟨_,_,_,rfl,h_out_1,(rfl:is _ b2),(rfl:is _ (0:Int))⟩⟩
 obtain⟨rfl,x_v,h_v,hF,hs⟩:=hE;rw[←hF.eq];rw[ZEf] at h;show if _ then _ else _
 rw[if_neg (by simp)]
 rw[←oi h];exact⟨rfl,KE3 (a1:=v) (a2:=v1) (a3:=v2) rfl rfl rfl rfl h_v (rfl:is _ v1) (rfl:is _ v2) ⟨_,_,_,rfl,h_v,(rfl:is _ v1),(rfl:is _ v2)⟩⟩
theorem ZM5 (mx:Int):ZAq Tryz.prog 32 (FnG (NG mx) (fun a:Str×Unit=>ZCX a.1)):=fnCG (ZO9 mx) ⟨_,func32,rfl⟩<|fun a r h=>ZM4 mx a.1 r h
noncomputable def ZVT (mx:Int):Prims:=(ZVS mx).addG 32 (FnG (NG mx) (fun a:Str×Unit=>ZCX a.1))
theorem ZPA (mx:Int):ZAX Tryz.prog (ZVT mx):=ZAR (ZO9 mx) (ZM5 mx)
theorem ZN7 (mx:Int) (l:(List Str)) (r:Str) (h:ZD3 l=some r):MF Tryz.prog (ZVT mx) 37 [enc l] (sG (NG mx)) fun v _=>ris v r:=by
 refine ZAh [(0,enc l)] func37 rfl (by simp only[Tryz.f37];rfl) fun ψ=> ?_
 unfold ZD3 at h;have hs:Hp (sG (NG mx)) [.gl (NG mx)]:=Hp.gl0
 refine ZAB<|ZAC<|ZAG (v:=enc ((str []):Str)) rfl<|ZAA<|ZAB<|ZAC<|ZAG (v:=enc ((str []):Str)) rfl<|ZAA<|ZAB<|ZAB<|ZAC<|ZAG (v:=enc (0:Int)) rfl<|ZAA<|ZAQ ?_
 obtain⟨s_1,hl,h⟩:=bs h;refine ZAk (fun(p:(Str×Int)) φ s=>match p with | (s_,i)=>Fx φ [(0,(enc (l:(List Str)))),(3,(enc s_)),(4,(enc i))]∧Hp s [(.gl (NG mx))]) (fun(o:Str) e φ s=>match o with | s_1=>e= .exit 0∧Fx φ [(0,(enc (l:(List Str)))),(3,(enc s_1))]∧Hp s [(.gl (NG mx))]) ?_ hl ⟨FxR rfl,hs⟩ ?_
 ·rintro⟨s_,i⟩ o h φ s ⟨hF,hs⟩;rw[←hF.eq];rw[ZFc] at h;refine ZAB<|ZAB<|ZAC<|ZAE rfl<|ZAE rfl<|ZAo underlying43 rfl rfl (Enc.self l)<|ZAJ (v:=enc (decide (i<(l.length:Int)))) rfl rfl rfl<|ZAA ?_
  split at h
  ·rename_i c';refine ZAH rfl c'<|ZAL<|ZAB<|ZAQ<|ZAC<|ZAE rfl ?_
   obtain⟨s_2,hx,h⟩:=bs h;refine ZMN rfl rfl hx<|ZAE rfl<|ZAE rfl ?_
   obtain⟨v,hx1,h⟩:=bs h;refine ZAu underlying43 sh9 rfl rfl (Enc.self l) hx1 fun p hp=>ZB8 rfl ag9 rfl hp fun y hy=> ?_
   cases hy;obtain⟨s_3,hx2,h⟩:=bs h;refine ZMN rfl rfl hx2<|ZAG rfl<|ZAA<|ZAC<|ZAE rfl<|ZAJ (v:=enc (IntKind.i64.wrap (i+1))) rfl rfl rfl<|ZAG rfl<|ZAA ?_
   rw[←oi h];exact⟨_,rfl,⟨FxR rfl,hs⟩⟩
  rename_i c';refine ZAI rfl c'<|ZAf ?_
  rw[←oi h];exact⟨_,rfl,rfl,⟨FxR rfl,hs⟩⟩
 intro e φ s hE;obtain⟨rfl,hF,hs⟩:=hE;rw[←hF.eq];rw[ZJk] at h;show if _ then _ else _
 rw[if_pos rfl];refine ZAB<|ZAB<|ZAC<|ZAE rfl<|ZAo underlying43 rfl rfl (Enc.self l)<|ZAJ (v:=enc (((l.length:Int)==0):Bool)) rfl rfl rfl<|ZAA ?_
 split at h
 ·rename_i c';refine ZAH rfl c'<|ZAB<|ZAC<|ZAG (v:=enc ((str [47]):Str)) rfl<|ZAA<|ZAN ?_
  rw[←oi h];exact⟨rfl,KE1 (a:=((str [47]):Str)) rfl rfl (rfl:is _ ((str [47]):Str)) (rfl:is _ ((str [47]):Str))⟩
 rename_i c';refine ZAI rfl c'<|ZAL<|ZAB<|ZAC<|ZAE rfl<|ZAG rfl<|ZAA<|ZAN ?_
 rw[←oi h];exact⟨rfl,KE1 (a:=s_1) rfl rfl (rfl:is _ s_1) (rfl:is _ s_1)⟩
theorem ZN8 (mx:Int):ZAq Tryz.prog 37 (FnG (NG mx) (fun a:(List Str)×Unit=>ZD3 a.1)):=fnCG (ZPA mx) ⟨_,func37,rfl⟩<|fun a r h=>ZN7 mx a.1 r h
noncomputable def ZVU (mx:Int):Prims:=(ZVT mx).addG 37 (FnG (NG mx) (fun a:(List Str)×Unit=>ZD3 a.1))
theorem ZPB (mx:Int):ZAX Tryz.prog (ZVU mx):=ZAR (ZPA mx) (ZN8 mx)
theorem ZN9 (mx:Int) (f:FsR) (num:Int) (r:ZAO) (h:ZBW f num=some r):MF Tryz.prog (ZVU mx) 34 [enc f,enc num] (sG (NG mx)) fun v _=>ris v r:=by
 refine ZAh [(0,enc f),(1,enc num)] func34 rfl (by simp only[Tryz.f34];rfl) fun ψ=> ?_
 unfold ZBW at h;have hs:Hp (sG (NG mx)) [.gl (NG mx)]:=Hp.gl0
 refine ZAB<|ZAC<|ZA5 (r:=f) rfl (Enc.self f) hs fun m xs s hxs hs=>ZBG (r:=(Rec.mk ((0:Int),(0:Int),(0:Int),(0:Int),([]:(List UInt8)),(str []),([]:(List Str)),([]:(List Int)),([]:(List ZAi)),()):ZAO)) zr47 zf47 hs fun m1 s hs=>ZAA<|ZAB<|ZBJ (by decide+kernel) (by kernel_rfl)<|ZAV ZAz rfl ?_
 replace hs:=Hp.front [(.cells m1 zx47)] (b:=[(.gl (NG mx))]) hs;refine ZAK ag22 Sz rfl hxs hs fun y hy=>ZAm (r:=f) ag24 sz24 rfl hxs hs fun y1 hy1=>ZAE rfl ?_
 obtain⟨r_,hx,h⟩:=bs h;refine ZAY (f:=fun a:FsR×Int×Unit=>ZBj a.1 a.2.1) (a:=(f,num,())) rfl func18 rfl rfl (.cons (a:=f) hy1 (.cons (a:=num) (Enc.self _) .nil)) hs (lM _ (lM _ List.mem_cons_self)) hx ?_
 obtain⟨v,hx1,h⟩:=bs h;refine ZAu underlying22 sh47 rfl rfl hy hx1 fun p hp=>ZDs ag47 sz47 rfl hp fun y2 hy2=> ?_
 replace hs:=Hp.front [(.cells m xs)] (b:=[(.gl (NG mx))]) hs;refine ZAx (r:=v) sz47 rfl rfl zf47 hy2 hs fun xs1 s hxs1 hs=>ZAA<|ZAN ?_
 obtain⟨w,hlw,hw⟩:=ldW (r:=v) ag47 sz47 hxs1 hs;rw[←oi h];exact⟨rfl,KEc1 (a:=v) rfl (.cell rfl hlw .nil) hw hw⟩
theorem ZOA (mx:Int):ZAq Tryz.prog 34 (FnG (NG mx) (fun a:FsR×Int×Unit=>ZBW a.1 a.2.1)):=fnCG (ZPB mx) ⟨_,func34,rfl⟩<|fun a r h=>ZN9 mx a.1 a.2.1 r h
noncomputable def ZVV (mx:Int):Prims:=(ZVU mx).addG 34 (FnG (NG mx) (fun a:FsR×Int×Unit=>ZBW a.1 a.2.1))
theorem ZPC (mx:Int):ZAX Tryz.prog (ZVV mx):=ZAR (ZPB mx) (ZOA mx)
theorem ZQE (mx:Int) (f:FsR) (num:Int) (r:Bool) (h:ZDp f num=some r):MF Tryz.prog (ZVV mx) 36 [enc f,enc num] (sG (NG mx)) fun v _=>ris v r:=by
 refine ZAh [(0,enc f),(1,enc num)] func36 rfl (by simp only[Tryz.f36];rfl) fun ψ=> ?_
 unfold ZDp at h;have hs:Hp (sG (NG mx)) [.gl (NG mx)]:=Hp.gl0
 refine ZAB<|ZAC<|ZA5 (r:=f) rfl (Enc.self f) hs fun m xs s hxs hs=>ZAG (v:=enc false) rfl<|ZAA<|ZAB<|ZAC<|ZAm (r:=f) ag24 sz24 rfl hxs hs fun y hy=>ZAE rfl ?_
 obtain⟨r_,hx,h⟩:=bs h;refine ZAY (f:=fun a:FsR×Int×Unit=>ZBj a.1 a.2.1) (a:=(f,num,())) rfl func18 rfl rfl (.cons (a:=f) hy (.cons (a:=num) (Enc.self _) .nil)) hs (lM _ List.mem_cons_self) hx<|ZAG rfl<|ZAA<|ZAB<|ZAC<|ZAE rfl<|ZAJ (v:=enc (decide (r_≥0))) rfl rfl rfl<|ZAE rfl ?_
 obtain⟨b,hb_b,h⟩:=bs h;refine ZAS 8 (fun φ s=>Hp s [(.cells m xs),(.gl (NG mx))]∧Fx φ [(19,(enc b))]) ?_ ?_
 ·split at hb_b
  ·rename_i cg;refine ZAF rfl rfl cg<|ZAV ZAz rfl<|ZAF rfl rfl cg<|ZAK ag22 Sz rfl hxs hs fun y1 hy1=>ZAF rfl rfl cg<|ZAE rfl<|ZAF rfl rfl cg ?_
   obtain⟨v,hx1,hb_b⟩:=bs hb_b;refine ZAu underlying22 sh47 rfl rfl hy1 hx1 fun p hp=>ZAF rfl rfl cg<|ZCT ZB4 (Ss Sz) rfl hp fun p1 hp1=>ZAF rfl rfl cg<|ZBQ ag41 rfl hp1 fun y2 hy2=> ?_
   cases hy2;refine ZAF rfl rfl cg<|ZAJ (v:=enc (v.v.2.1==2)) rfl rfl rfl<|ZAa rfl cg rfl<|ZAA ?_
   rw[←oi hb_b];exact⟨hs,FxR rfl⟩
  rename_i cg1;refine ZAD rfl rfl cg1<|ZAD rfl rfl cg1<|ZAD rfl rfl cg1<|ZAD rfl rfl cg1<|ZAD rfl rfl cg1<|ZAD rfl rfl cg1<|ZAD rfl rfl cg1<|ZAZ (v:=enc false) rfl cg1 rfl<|ZAA ?_
  rw[←oi hb_b];exact⟨hs,FxR rfl⟩
 rintro φ s ⟨hs,hF⟩;rw[←hF.eq];refine ZAG rfl<|ZAA<|ZAN ?_
 rw[←oi h];exact⟨rfl,KE1 (a:=b) rfl rfl (rfl:is _ b) (rfl:is _ b)⟩
theorem ZQF (mx:Int):ZAq Tryz.prog 36 (FnG (NG mx) (fun a:FsR×Int×Unit=>ZDp a.1 a.2.1)):=fnCG (ZPC mx) ⟨_,func36,rfl⟩<|fun a r h=>ZQE mx a.1 a.2.1 r h
noncomputable def ZRw (mx:Int):Prims:=(ZVV mx).addG 36 (FnG (NG mx) (fun a:FsR×Int×Unit=>ZDp a.1 a.2.1))
theorem ZIe (mx:Int):ZAX Tryz.prog (ZRw mx):=ZAR (ZPC mx) (ZQF mx)
theorem ZLZ (mx:Int) (w:WR) (target:Str) (r:WR×Int) (h:ZFF w target=some r) {m_w:Nat} {xs_w:List AV} (hr_w:fi xs_w w.v) {s:St} {enF:En} (hs:Hp s [(.cells m_w xs_w),enF,(.gl (NG mx))]):MF Tryz.prog (ZRw mx) 56 [(.ptr m_w 0),(enc target)] s fun v s' =>∃xs'w,fi xs'w r.1.v∧ris v r.2∧Hp s' [(.cells m_w xs'w),enF,(.gl (NG mx))]:=by
 refine ZB9 [(0,(.ptr m_w 0)),(1,(enc target))] func56 rfl (by simp only[Tryz.f56];rfl) fun ψ=> ?_
 unfold ZFF at h;refine ZAB<|ZAC<|ZAG (v:=enc (0:Int)) rfl<|ZAA<|ZAB<|ZAB<|ZAC<|ZAE (v:= .ptr m_w 0) rfl<|ZA0 rfl<|ZAj (q:=7) ZRv rfl rfl<|ZAK ag3 (Ss (Ss (Ss (Sel.skip Sz)))) rfl hr_w hs fun y hy=> ?_
 cases hy;refine ZAJ (v:=enc (w.v.2.2.2.2.1==8)) rfl rfl rfl<|ZAA ?_
 split at h
 ·rename_i c';refine ZAH rfl c'<|ZAB<|ZAC<|ZAG (v:=enc (209:Int)) rfl<|ZAA<|ZAN ?_
  rw[←oi h];exact⟨rfl,KN1 rfl rfl ⟨_,hr_w,(rfl:is _ (209:Int)),hs⟩⟩
 rename_i c';refine ZAI rfl c'<|ZAL<|ZAB<|ZAC<|ZAE (v:= .ptr m_w 0) rfl<|ZA0 rfl<|ZAj (q:=7) ZRv rfl rfl<|ZAK ag3 (Ss (Ss (Ss (Sel.skip Sz)))) rfl hr_w hs fun y1 hy1=> ?_
 cases hy1;refine ZAJ (v:=enc (IntKind.i64.wrap (w.v.2.2.2.2.1+1))) rfl rfl rfl<|ZA0 rfl<|ZAj (q:=7) ZRv rfl rfl<|ZEX (z:=((IntKind.i64.wrap (w.v.2.2.2.2.1+1)):Int)) sz3 (Ss (Ss (Ss (Sel.skip Sz)))) rfl rfl (rfl:is _ ((IntKind.i64.wrap (w.v.2.2.2.2.1+1)):Int)) hr_w hs fun xs s hxs hs=>ZAA<|ZAB<|ZAC<|ZAE rfl<|ZAG rfl<|ZAA<|ZCd (fun φ s=>∃(w1:WR) (t:Str) (xs_w1:List AV),fi xs_w1 w1.v∧Fx φ [(0,(.ptr m_w 0)),(5,(enc t))]∧Hp s [enF,(.gl (NG mx)),(.cells m_w xs_w1)]∧ZBe w1 t=some r) ?_ ?_
 ·refine ZAB ?_
  refine ZAC<|ZAE rfl ?_
  obtain⟨c,hx3,h⟩:=bs h;refine ZFm underlying9 rfl rfl hx3<|ZAJ (v:=enc ((((c).toNat:Int)==47):Bool)) rfl rfl rfl<|ZAA ?_
  split at h
  ·rename_i c';refine ZAH rfl c'<|ZAC<|ZAE (v:= .ptr m_w 0) rfl<|ZA0 rfl<|ZAj (q:=2) ZFn rfl rfl<|ZEX (z:=(1:Int)) sz3 (Ss (Ss Sz)) rfl rfl (rfl:is _ (1:Int)) hxs hs fun xs4 s hxs4 hs=>ZAA ?_
   exact⟨(Rec.mk (w.v.1,w.v.2.1,1,w.v.2.2.2.1,(IntKind.i64.wrap (w.v.2.2.2.2.1+1)),()):WR),target,xs4,hxs4,FxR rfl,(Hp.front [(.gl (NG mx)),(.cells m_w xs4)] (b:=[]) (Hp.front [(.cells m_w xs4),enF] (b:=[]) (Hp.front [] (b:=[enF,(.gl (NG mx))]) hs))),h⟩
  rename_i c';refine ZAI rfl c'<|ZAC<|ZAE rfl ?_
  obtain⟨s_,hx4,h⟩:=bs h;refine ZMN rfl rfl hx4<|ZAG rfl<|ZAA ?_
  exact⟨(Rec.mk (w.v.1,w.v.2.1,w.v.2.2.1,w.v.2.2.2.1,(IntKind.i64.wrap (w.v.2.2.2.2.1+1)),()):WR),s_,xs,hxs,FxR rfl,(Hp.front [(.gl (NG mx)),(.cells m_w xs)] (b:=[]) (Hp.front [(.cells m_w xs),enF] (b:=[]) (Hp.front [] (b:=[enF,(.gl (NG mx))]) hs))),h⟩
 rintro φ s ⟨w1,t,xs_w1,hxs_w1,hF,hs,h⟩;rw[←hF.eq];unfold ZBe at h;refine ZAB<|ZAC<|ZAE rfl ?_
 obtain⟨r_,hx,h⟩:=bs h;refine ZAY (f:=fun a:Str×Unit=>ZCX a.1) (a:=(t,())) rfl func32 rfl rfl (.cons (a:=t) (Enc.self _) .nil) hs (lM _ List.mem_cons_self) hx<|ZAE (v:=res r_) rfl<|ZAy rfl rfl<|ZAy rfl rfl<|ZAy rfl rfl<|ZAG rfl<|ZAG rfl<|ZAG rfl<|ZAA<|ZAB<|ZAB<|ZAC<|ZAE rfl<|ZAJ (v:=enc (r_.2.2 !=0)) rfl rfl rfl<|ZAA ?_
 split at h
 ·rename_i c';refine ZAH rfl c'<|ZAB<|ZAC<|ZAE rfl<|ZAG rfl<|ZAA<|ZAN ?_
  rw[←oi h];exact⟨rfl,KN1 rfl rfl ⟨_,hxs_w1,(rfl:is _ r_.2.2),(Hp.front [enF,(.gl (NG mx))] (b:=[]) (Hp.front [(.gl (NG mx))] (b:=[(.cells m_w xs_w1)]) (Hp.front [enF] (b:=[(.cells m_w xs_w1)]) hs)))⟩⟩
 rename_i c';refine ZAI rfl c'<|ZAL<|ZCd (fun φ s=>∃(w2:WR) (xs_w2:List AV),fi xs_w2 w2.v∧Fx φ [(0,(.ptr m_w 0)),(6,(enc (r_.1:(List Str))))]∧Hp s [enF,(.gl (NG mx)),(.cells m_w xs_w2)]∧ZCO r_ w2=some r) ?_ ?_
 ·refine ZAB ?_
  refine ZAC<|ZAE (v:= .ptr m_w 0) rfl<|ZA0 rfl<|ZAj (q:=0) ZHj rfl rfl ?_
  replace hs:=Hp.front [enF,(.gl (NG mx))] (b:=[]) hs;refine ZAK ag43 Sz rfl hxs_w1 hs fun y6 hy6=>ZAo underlying43 rfl rfl hy6<|ZAJ (v:=enc (((w1.v.1.length:Int)==0):Bool)) rfl rfl rfl<|ZAA ?_
  split at h
  ·rename_i c';refine ZAH rfl c'<|ZAC<|ZAE (v:= .ptr m_w 0) rfl<|ZAE (v:= .ptr m_w 0) rfl<|ZA0 rfl<|ZAj (q:=1) ZO8 rfl rfl<|ZAK ag4 (Ss Sz) rfl hxs_w1 hs fun y7 hy7=> ?_
   cases hy7;refine ZAE rfl ?_
   obtain⟨b,hb_b,h⟩:=bs h;refine ZAS 2 (fun φ s=>Hp s [(.cells m_w xs_w1),enF,(.gl (NG mx))]∧Fx φ [(0,(.ptr m_w 0)),(6,(enc (r_.1:(List Str)))),(45,(.ptr m_w 0)),(52,(enc b))]) ?_ ?_
   ·split at hb_b
    ·rename_i cg;refine ZAD rfl rfl (by first | simpa using cg | (rw[cg];decide))<|ZAa (v:=enc true) rfl cg rfl<|ZAA ?_
     rw[←oi hb_b];exact⟨hs,FxR rfl⟩
    rename_i cg1;refine ZAF rfl rfl (by first | simpa using cg1 | (rw[cg1];decide))<|ZAE rfl<|ZAZ rfl cg1 rfl<|ZAA ?_
    rw[←oi hb_b];exact⟨hs,FxR rfl⟩
   rintro φ s ⟨hs,hF⟩;rw[←hF.eq];refine ZA0 rfl<|ZAj (q:=1) ZO8 rfl rfl<|ZEX (z:=b) sz4 (Ss Sz) rfl rfl (rfl:is _ b) hxs_w1 hs fun xs3 s hxs3 hs=>ZAA ?_
   exact⟨(Rec.mk (w1.v.1,b,w1.v.2.2.1,w1.v.2.2.2.1,w1.v.2.2.2.2.1,()):WR),xs3,hxs3,FxR rfl,(Hp.front [(.gl (NG mx)),(.cells m_w xs3)] (b:=[]) (Hp.front [(.cells m_w xs3),enF] (b:=[]) (Hp.front [] (b:=[enF,(.gl (NG mx))]) hs))),h⟩
  rename_i c';refine ZAI rfl c'<|ZAL ?_
  exact⟨w1,xs_w1,hxs_w1,FxR rfl,(Hp.front [(.gl (NG mx)),(.cells m_w xs_w1)] (b:=[]) (Hp.front [(.cells m_w xs_w1),enF] (b:=[]) (Hp.front [] (b:=[enF,(.gl (NG mx))]) hs))),h⟩
 rintro φ s ⟨w2,xs_w2,hxs_w2,hF,hs,h⟩;rw[←hF.eq];unfold ZCO at h;refine ZAB<|ZBJ (by decide+kernel) (by kernel_rfl)<|ZAE (v:= .ptr m_w 0) rfl<|ZDv [] ([]:(List Str)) underlying43 ef9 rfl rfl rfl (Nat.le_of_ble_eq_true rfl) trivial fun z hz hzc hzn=>ZAE rfl ?_
 obtain⟨l,hx1,h⟩:=bs h;refine ZKt [] (es2:=[enF,(.gl (NG mx)),(.cells m_w xs_w2)]) underlying43 underlying43 rfl rfl ef9 rfl rfl hz hzc (Hp.add hs hzn) (Enc.self r_.1) hx1 fun z1 s hz1 hz1c hs=>ZAE (v:= .ptr m_w 0) rfl<|ZA0 rfl<|ZAj (q:=0) ZHj rfl rfl ?_
 replace hs:=Hp.front [.own z1,enF,(.gl (NG mx))] (b:=[]) hs;refine ZAK ag43 Sz rfl hxs_w2 hs fun y2 hy2=> ?_
 obtain⟨l1,hx2,h⟩:=bs h;refine ZKt [(.cells m_w xs_w2)] (es2:=[enF,(.gl (NG mx))]) underlying43 underlying43 rfl rfl ef9 rfl rfl hz1 hz1c hs hy2 hx2 fun z2 s hz2 hz2c hs=>ZA0 rfl<|ZAj (q:=0) ZHj rfl rfl<|ZEX (z:=l1) sz43 Sz rfl rfl hz2 hxs_w2 hs fun xs1 s hxs1 hs=>ZAA<|ZAB<|ZBJ (by decide+kernel) (by kernel_rfl)<|ZAE (v:= .ptr m_w 0) rfl<|ZAE (v:= .ptr m_w 0) rfl<|ZA0 rfl<|ZAj (q:=2) ZFn rfl rfl<|ZAK ag3 (Ss (Ss Sz)) rfl hxs1 hs fun y3 hy3=> ?_
 cases hy3;refine ZAE (v:= .ptr m_w 0) rfl<|ZA0 rfl<|ZAj (q:=2) ZFn rfl rfl<|ZAK ag3 (Ss (Ss Sz)) rfl hxs1 hs fun y4 hy4=> ?_
 cases hy4;refine ZBZ (r0:=((0:Int),(str []),(0:Int),false,())) bu29 zr29 zf29 rfl rfl (r:=(w2.v.2.2.1,(str []),w2.v.2.2.1,false,())) (.cons (z:=w2.v.2.2.1) Sz (rfl:is _ w2.v.2.2.1) (.cons (z:=w2.v.2.2.1) (Ss (Ss Sz)) (rfl:is _ w2.v.2.2.1) .nil)) fun y5 hy5=>ZA0 rfl<|ZAj (q:=3) ZM3 rfl rfl<|ZKa (c:=(Rec.mk (w2.v.2.2.1,(str []),w2.v.2.2.1,false,()):ZAU)) sz29 (SelR.succ (SelR.succ (SelR.succ SelR.zero))) rfl rfl hy5 hxs1 hs fun xs2 s hxs2 hs=>ZAA<|ZAB<|ZAC<|ZAG (v:=enc (0:Int)) rfl<|ZAA<|ZAN ?_
 rw[←oi h];exact⟨rfl,KN1 rfl rfl ⟨_,hxs2,(rfl:is _ (0:Int)),(Hp.drop [(.cells m_w xs2)] (b:=[enF,(.gl (NG mx))]) hs)⟩⟩
theorem ZOB (mx:Int) (w:WR) (f:FsR) (follow:Bool) (r:WR×Int) (h:ZHk w f follow=some r) {m_w:Nat} {xs_w:List AV} (hr_w:fi xs_w w.v) {x_f:AV} (hy_f:is x_f f) {s:St} {enF:En} (hs:Hp s [(.cells m_w xs_w),enF,(.gl (NG mx))]):MF Tryz.prog (ZRw mx) 33 [(.ptr m_w 0),x_f,(enc follow)] s fun v s' =>∃xs'w,fi xs'w r.1.v∧ris v r.2∧Hp s' [(.cells m_w xs'w),enF,(.gl (NG mx))]:=by
 refine ZB9 [(0,(.ptr m_w 0)),(1,x_f),(2,(enc follow))] func33 rfl (by simp only[Tryz.f33];rfl) fun ψ=> ?_
 unfold ZHk at h;refine ZAB<|ZAC<|ZA5 (r:=f) rfl hy_f hs fun m xs s hxs hs=>ZAG (v:=enc (0:Int)) rfl<|ZAA<|ZAB<|ZAC<|ZAE (v:= .ptr m_w 0) rfl<|ZA0 rfl<|ZAj (q:=0) ZHj rfl rfl ?_
 replace hs:=Hp.front [(.cells m xs)] (b:=[enF,(.gl (NG mx))]) hs;refine ZAK ag43 Sz rfl hr_w hs fun y hy=> ?_
 obtain⟨v,hx,h⟩:=bs h;refine ZAu underlying43 sh9 rfl rfl hy hx fun p hp=>ZB8 rfl ag9 rfl hp fun y1 hy1=> ?_
 cases hy1;refine ZAG rfl<|ZAA<|ZAB<|ZAC<|ZAE (v:= .ptr m_w 0) rfl<|ZAE (v:= .ptr m_w 0) rfl<|ZA0 rfl<|ZAj (q:=0) ZHj rfl rfl<|ZAK ag43 Sz rfl hr_w hs fun y2 hy2=> ?_
 obtain⟨l,hx1,h⟩:=bs h;refine ZQ0 underlying43 sh9 rfl rfl hy2 hx1 fun z hz=>ZA0 rfl<|ZAj (q:=0) ZHj rfl rfl<|ZEX (z:=l) sz43 Sz rfl rfl hz hr_w hs fun xs1 s hxs1 hs=>ZAA<|ZAB<|ZAB<|ZBJ (by decide+kernel) (by kernel_rfl) ?_
 replace hs:=Hp.front [(.cells m_w xs1)] (b:=[enF,(.gl (NG mx))]) hs;refine ZAm (r:=f) ag24 sz24 rfl hxs hs fun y3 hy3=>ZAE (v:= .ptr m_w 0) rfl<|ZA0 rfl<|ZAj (q:=2) ZFn rfl rfl ?_
 replace hs:=Hp.front [(.cells m xs)] (b:=[enF,(.gl (NG mx))]) hs;refine ZAK ag3 (Ss (Ss Sz)) rfl hxs1 hs fun y4 hy4=> ?_
 cases hy4;obtain⟨r_,hx2,h⟩:=bs h;refine ZAY (f:=fun a:FsR×Int×Unit=>ZBW a.1 a.2.1) (a:=(f,w.v.2.2.1,())) rfl func34 rfl rfl (.cons (a:=f) hy3 (.cons (a:=w.v.2.2.1) (Enc.self _) .nil)) hs (lM _ (lM _ (lM _ List.mem_cons_self))) hx2<|ZS0 ZB4 (Ss Sz) rfl (Enc.self r_) fun y5 hy5=> ?_
 cases hy5;refine ZAJ (v:=enc (r_.v.2.1 !=2)) rfl rfl rfl<|ZAA ?_
 split at h
 ·rename_i c';refine ZAH rfl c'<|ZAB<|ZAC<|ZAG (v:=enc (203:Int)) rfl<|ZAA<|ZAN ?_
  rw[←oi h];exact⟨rfl,KN1 rfl rfl ⟨_,hxs1,(rfl:is _ (203:Int)),(Hp.drop [(.cells m_w xs1)] (b:=[enF,(.gl (NG mx))]) hs)⟩⟩
 rename_i c';refine ZAI rfl c'<|ZAL<|ZAB<|ZAB<|ZAC<|ZAE rfl<|ZAJ (v:=enc ((eqS v (str [46,46])):Bool)) rfl rfl rfl<|ZAA ?_
 split at h
 ·rename_i c';refine ZAH rfl c'<|ZAB<|ZBJ (by decide+kernel) (by kernel_rfl) ?_
  replace hs:=Hp.front [(.cells m_w xs1)] (b:=[enF,(.gl (NG mx))]) hs;refine ZAm (r:=f) ag24 sz24 rfl hxs hs fun y6 hy6=>ZAE (v:= .ptr m_w 0) rfl<|ZA0 rfl<|ZAj (q:=2) ZFn rfl rfl ?_
  replace hs:=Hp.front [(.cells m xs)] (b:=[enF,(.gl (NG mx))]) hs;refine ZAK ag3 (Ss (Ss Sz)) rfl hxs1 hs fun y7 hy7=> ?_
  cases hy7;obtain⟨r_1,hx3,h⟩:=bs h;refine ZAY (f:=fun a:FsR×Int×Unit=>ZBK a.1 a.2.1) (a:=(f,w.v.2.2.1,())) rfl func12 rfl rfl (.cons (a:=f) hy6 (.cons (a:=w.v.2.2.1) (Enc.self _) .nil)) hs (lM _ (lM _ (lM _ List.mem_cons_self))) hx3<|ZAG rfl<|ZAA<|ZCd (fun φ s=>∃(w1:WR) (xs_w1:List AV),fi xs_w1 w1.v∧Fx φ [(0,(.ptr m_w 0))]∧Hp s [enF,(.gl (NG mx)),(.cells m_w xs_w1)]∧ZFd w1=some r) ?_ ?_
  ·refine ZAB ?_
   refine ZAC<|ZAE rfl<|ZAJ (v:=enc (decide (r_1 > 0))) rfl rfl rfl<|ZAA ?_
   split at h
   ·rename_i c';refine ZAH rfl c'<|ZAC<|ZAE (v:= .ptr m_w 0) rfl<|ZAE rfl<|ZA0 rfl<|ZAj (q:=2) ZFn rfl rfl<|ZEX (z:=r_1) sz3 (Ss (Ss Sz)) rfl rfl (rfl:is _ r_1) hxs1 hs fun xs3 s hxs3 hs=>ZAA ?_
    exact⟨(Rec.mk (l,w.v.2.1,r_1,w.v.2.2.2.1,w.v.2.2.2.2.1,()):WR),xs3,hxs3,FxR rfl,(Hp.front [(.gl (NG mx)),(.cells m_w xs3)] (b:=[]) (Hp.front [(.cells m_w xs3),enF] (b:=[]) (Hp.front [] (b:=[enF,(.gl (NG mx))]) (Hp.drop [(.cells m_w xs3)] (b:=[enF,(.gl (NG mx))]) hs)))),h⟩
   rename_i c';refine ZAI rfl c'<|ZAL ?_
   exact⟨(Rec.mk (l,w.v.2.1,w.v.2.2.1,w.v.2.2.2.1,w.v.2.2.2.2.1,()):WR),xs1,hxs1,FxR rfl,(Hp.front [(.gl (NG mx)),(.cells m_w xs1)] (b:=[]) (Hp.front [(.cells m_w xs1),enF] (b:=[]) (Hp.front [] (b:=[enF,(.gl (NG mx))]) (Hp.drop [(.cells m_w xs1)] (b:=[enF,(.gl (NG mx))]) hs)))),h⟩
  rintro φ s ⟨w1,xs_w1,hxs_w1,hF,hs,h⟩;rw[←hF.eq];unfold ZFd at h;refine ZAB<|ZBJ (by decide+kernel) (by kernel_rfl)<|ZAE (v:= .ptr m_w 0) rfl<|ZAE (v:= .ptr m_w 0) rfl<|ZA0 rfl<|ZAj (q:=2) ZFn rfl rfl ?_
  replace hs:=Hp.front [enF,(.gl (NG mx))] (b:=[]) hs;refine ZAK ag3 (Ss (Ss Sz)) rfl hxs_w1 hs fun y8 hy8=> ?_
  cases hy8;refine ZAE (v:= .ptr m_w 0) rfl<|ZA0 rfl<|ZAj (q:=2) ZFn rfl rfl<|ZAK ag3 (Ss (Ss Sz)) rfl hxs_w1 hs fun y9 hy9=> ?_
  cases hy9;refine ZBZ (r0:=((0:Int),(str []),(0:Int),false,())) bu29 zr29 zf29 rfl rfl (r:=(w1.v.2.2.1,(str []),w1.v.2.2.1,false,())) (.cons (z:=w1.v.2.2.1) Sz (rfl:is _ w1.v.2.2.1) (.cons (z:=w1.v.2.2.1) (Ss (Ss Sz)) (rfl:is _ w1.v.2.2.1) .nil)) fun y10 hy10=>ZA0 rfl<|ZAj (q:=3) ZM3 rfl rfl<|ZKa (c:=(Rec.mk (w1.v.2.2.1,(str []),w1.v.2.2.1,false,()):ZAU)) sz29 (SelR.succ (SelR.succ (SelR.succ SelR.zero))) rfl rfl hy10 hxs_w1 hs fun xs2 s hxs2 hs=>ZAA<|ZAB<|ZAC<|ZAG (v:=enc (0:Int)) rfl<|ZAA<|ZAN ?_
  rw[←oi h];exact⟨rfl,KN1 rfl rfl ⟨_,hxs2,(rfl:is _ (0:Int)),hs⟩⟩
 rename_i c';refine ZAI rfl c'<|ZAL<|ZAB<|ZBJ (by decide+kernel) (by kernel_rfl) ?_
 replace hs:=Hp.front [(.cells m_w xs1)] (b:=[enF,(.gl (NG mx))]) hs;refine ZAm (r:=f) ag24 sz24 rfl hxs hs fun y11 hy11=>ZAE (v:= .ptr m_w 0) rfl<|ZA0 rfl<|ZAj (q:=2) ZFn rfl rfl ?_
 replace hs:=Hp.front [(.cells m xs)] (b:=[enF,(.gl (NG mx))]) hs;refine ZAK ag3 (Ss (Ss Sz)) rfl hxs1 hs fun y12 hy12=> ?_
 cases hy12;refine ZAE rfl ?_
 obtain⟨r_2,hx4,h⟩:=bs h;refine ZAY (f:=fun a:FsR×Int×Str×Unit=>ZCj a.1 a.2.1 a.2.2.1) (a:=(f,w.v.2.2.1,v,())) rfl func19 rfl rfl (.cons (a:=f) hy11 (.cons (a:=w.v.2.2.1) (Enc.self _) (.cons (a:=v) (Enc.self _) .nil))) hs (lM _ (lM _ (lM _ List.mem_cons_self))) hx4<|ZAE (v:=res r_2) rfl<|ZAy rfl rfl<|ZAy rfl rfl<|ZAG rfl<|ZAG rfl<|ZAA<|ZAB<|ZAB<|ZAC<|ZAE rfl<|ZAJ (v:=enc (r_2.2 !=0)) rfl rfl rfl<|ZAE rfl ?_
 obtain⟨b,hb_b,h⟩:=bs h;refine ZAS 7 (fun φ s=>Hp s [(.cells m_w xs1),(.cells m xs),enF,(.gl (NG mx))]∧Fx φ [(0,(.ptr m_w 0)),(2,(enc follow)),(4,(.ptr m 0)),(7,(enc v)),(9,(enc r_2.1)),(10,(enc r_2.2)),(79,(enc b))]) ?_ ?_
 ·split at hb_b
  ·rename_i cg;refine ZAF rfl rfl cg<|ZAE (v:= .ptr m_w 0) rfl<|ZAF rfl rfl cg<|ZA0 rfl<|ZAF rfl rfl cg<|ZAj (q:=0) ZHj rfl rfl<|ZAF rfl rfl cg<|ZAK ag43 Sz rfl hxs1 hs fun y13 hy13=>ZAF rfl rfl cg<|ZAo underlying43 rfl rfl hy13<|ZAF rfl rfl cg<|ZAJ (v:=enc (decide ((l.length:Int) > 0))) rfl rfl rfl<|ZAa rfl cg rfl<|ZAA ?_
   rw[←oi hb_b];exact⟨hs,FxR rfl⟩
  rename_i cg1;refine ZAD rfl rfl cg1<|ZAD rfl rfl cg1<|ZAD rfl rfl cg1<|ZAD rfl rfl cg1<|ZAD rfl rfl cg1<|ZAD rfl rfl cg1<|ZAZ (v:=enc false) rfl cg1 rfl<|ZAA ?_
  rw[←oi hb_b];exact⟨hs,FxR rfl⟩
 rintro φ s ⟨hs,hF⟩;rw[←hF.eq];refine ZAA ?_
 split at h
 ·rename_i c';refine ZAH rfl c'<|ZAB<|ZAC<|ZAG (v:=enc (201:Int)) rfl<|ZAA<|ZAN ?_
  rw[←oi h];exact⟨rfl,KN1 rfl rfl ⟨_,hxs1,(rfl:is _ (201:Int)),(Hp.drop [(.cells m_w xs1)] (b:=[enF,(.gl (NG mx))]) hs)⟩⟩
 rename_i c';refine ZAI rfl c'<|ZAL<|ZAB<|ZAB<|ZAC<|ZAE rfl<|ZAJ (v:=enc (r_2.2 !=0)) rfl rfl rfl<|ZAA ?_
 split at h
 ·rename_i c';refine ZAH rfl c'<|ZAB<|ZAC<|ZAE (v:= .ptr m_w 0) rfl<|ZAE (v:= .ptr m_w 0) rfl<|ZA0 rfl<|ZAj (q:=2) ZFn rfl rfl<|ZAK ag3 (Ss (Ss Sz)) rfl hxs1 hs fun y14 hy14=> ?_
  cases hy14;refine ZAE rfl<|ZBZ (r0:=((0:Int),(str []),(0:Int),false,())) bu29 zr29 zf29 rfl rfl (r:=(w.v.2.2.1,v,(0:Int),false,())) (.cons (z:=w.v.2.2.1) Sz (rfl:is _ w.v.2.2.1) (.cons (z:=v) (Ss Sz) (rfl:is _ v) .nil)) fun y15 hy15=>ZA0 rfl<|ZAj (q:=3) ZM3 rfl rfl<|ZKa (c:=(Rec.mk (w.v.2.2.1,v,(0:Int),false,()):ZAU)) sz29 (SelR.succ (SelR.succ (SelR.succ SelR.zero))) rfl rfl hy15 hxs1 hs fun xs4 s hxs4 hs=>ZAA<|ZAB<|ZAC<|ZAG (v:=enc (0:Int)) rfl<|ZAA<|ZAN ?_
  rw[←oi h];exact⟨rfl,KN1 rfl rfl ⟨_,hxs4,(rfl:is _ (0:Int)),(Hp.drop [(.cells m_w xs4)] (b:=[enF,(.gl (NG mx))]) hs)⟩⟩
 rename_i c';refine ZAI rfl c'<|ZAL<|ZAB<|ZAC ?_
 replace hs:=Hp.front [(.cells m_w xs1)] (b:=[enF,(.gl (NG mx))]) hs;refine ZAm (r:=f) ag24 sz24 rfl hxs hs fun y16 hy16=>ZAE rfl ?_
 obtain⟨r_3,hx5,h⟩:=bs h;refine ZAY (f:=fun a:FsR×Int×Unit=>ZBW a.1 a.2.1) (a:=(f,r_2.1,())) rfl func34 rfl rfl (.cons (a:=f) hy16 (.cons (a:=r_2.1) (Enc.self _) .nil)) hs (lM _ (lM _ (lM _ List.mem_cons_self))) hx5<|ZBG (r:=(Rec.mk ((0:Int),(0:Int),(0:Int),(0:Int),([]:(List UInt8)),(str []),([]:(List Str)),([]:(List Int)),([]:(List ZAi)),()):ZAO)) zr47 zf47 hs fun m1 s hs=>ZAx (r:=r_3) sz47 rfl rfl zf47 (Enc.self r_3) hs fun xs5 s hxs5 hs=>ZAA<|ZAB<|ZAB<|ZAC<|ZAV ZB4 rfl<|ZAK ag41 (Ss Sz) rfl hxs5 hs fun y17 hy17=> ?_
 cases hy17;refine ZAJ (v:=enc (r_3.v.2.1==3)) rfl rfl rfl<|ZAE rfl ?_
 obtain⟨b1,hb_b1,h⟩:=bs h;refine ZAS 16 (fun φ s=>Hp s [(.cells m1 xs5),(.cells m xs),(.cells m_w xs1),enF,(.gl (NG mx))]∧Fx φ [(0,(.ptr m_w 0)),(7,(enc v)),(9,(enc r_2.1)),(11,(.ptr m1 0)),(113,(enc b1))]) ?_ ?_
 ·split at hb_b1
  ·rename_i cg2;refine ZAF rfl rfl cg2<|ZAE (v:= .ptr m_w 0) rfl<|ZAF rfl rfl cg2<|ZA0 rfl<|ZAF rfl rfl cg2<|ZAj (q:=0) ZHj rfl rfl<|ZAF rfl rfl cg2 ?_
   replace hs:=Hp.front [(.cells m1 xs5),(.cells m xs)] (b:=[enF,(.gl (NG mx))]) hs;refine ZAK ag43 Sz rfl hxs1 hs fun y18 hy18=>ZAF rfl rfl cg2<|ZAo underlying43 rfl rfl hy18<|ZAF rfl rfl cg2<|ZAJ (v:=enc (decide ((l.length:Int) > 0))) rfl rfl rfl<|ZAF rfl rfl cg2<|ZAE rfl ?_
   obtain⟨b2,hb_b2,hb_b1⟩:=bs hb_b1;refine ZAS 2 (fun φ s=>Hp s [(.cells m_w xs1),(.cells m1 xs5),(.cells m xs),enF,(.gl (NG mx))]∧Fx φ [(0,(.ptr m_w 0)),(7,(enc v)),(9,(enc r_2.1)),(11,(.ptr m1 0)),(97,(enc (r_3.v.2.1==3))),(106,(enc b2))]) ?_ ?_
   ·split at hb_b2
    ·rename_i cg3;refine ZAD rfl rfl (by first | simpa using cg3 | (rw[cg3];decide))<|ZAF rfl rfl cg2<|ZAa (v:=enc true) rfl cg3 rfl<|ZAA ?_
     rw[←oi hb_b2];exact⟨hs,FxR rfl⟩
    rename_i cg4;refine ZAF rfl rfl (by first | simpa using cg4 | (rw[cg4];decide))<|ZAE rfl<|ZAF rfl rfl cg2<|ZAZ rfl cg4 rfl<|ZAA ?_
    rw[←oi hb_b2];exact⟨hs,FxR rfl⟩
   rintro φ s ⟨hs,hF⟩;rw[←hF.eq];refine ZAF rfl rfl cg2<|ZAE rfl ?_
   obtain⟨b3,hb_b3,hb_b1⟩:=bs hb_b1;refine ZAS 5 (fun φ s=>Hp s [(.cells m_w xs1),(.cells m1 xs5),(.cells m xs),enF,(.gl (NG mx))]∧Fx φ [(0,(.ptr m_w 0)),(7,(enc v)),(9,(enc r_2.1)),(11,(.ptr m1 0)),(97,(enc (r_3.v.2.1==3))),(112,(enc b3))]) ?_ ?_
   ·split at hb_b3
    ·rename_i cg5;refine ZAD rfl rfl (by first | simpa using cg5 | (rw[cg5];decide))<|ZAD rfl rfl (by first | simpa using cg5 | (rw[cg5];decide))<|ZAD rfl rfl (by first | simpa using cg5 | (rw[cg5];decide))<|ZAD rfl rfl (by first | simpa using cg5 | (rw[cg5];decide))<|ZAF rfl rfl cg2<|ZAa (v:=enc true) rfl cg5 rfl<|ZAA ?_
     rw[←oi hb_b3];exact⟨hs,FxR rfl⟩
    rename_i cg6;refine ZAF rfl rfl (by first | simpa using cg6 | (rw[cg6];decide))<|ZAE (v:= .ptr m_w 0) rfl<|ZAF rfl rfl (by first | simpa using cg6 | (rw[cg6];decide))<|ZA0 rfl<|ZAF rfl rfl (by first | simpa using cg6 | (rw[cg6];decide))<|ZAj (q:=1) ZO8 rfl rfl<|ZAF rfl rfl (by first | simpa using cg6 | (rw[cg6];decide))<|ZAK ag4 (Ss Sz) rfl hxs1 hs fun y19 hy19=> ?_
    cases hy19;refine ZAF rfl rfl cg2<|ZAZ rfl cg6 rfl<|ZAA ?_
    rw[←oi hb_b3];exact⟨hs,FxR rfl⟩
   rintro φ s ⟨hs,hF⟩;rw[←hF.eq];refine ZAa rfl cg2 rfl<|ZAA ?_
   rw[←oi hb_b1];exact⟨(Hp.front [(.cells m xs),(.cells m_w xs1),enF,(.gl (NG mx))] (b:=[]) (Hp.front [(.cells m_w xs1),enF,(.gl (NG mx)),(.cells m1 xs5)] (b:=[]) (Hp.front [enF,(.gl (NG mx))] (b:=[(.cells m1 xs5),(.cells m xs)]) (Hp.front [(.gl (NG mx)),(.cells m_w xs1),(.cells m1 xs5),(.cells m xs)] (b:=[]) (Hp.front [(.cells m_w xs1),(.cells m1 xs5),(.cells m xs),enF] (b:=[]) hs))))),FxR rfl⟩
  rename_i cg7;refine ZAD rfl rfl cg7<|ZAD rfl rfl cg7<|ZAD rfl rfl cg7<|ZAD rfl rfl cg7<|ZAD rfl rfl cg7<|ZAD rfl rfl cg7<|ZAD rfl rfl cg7<|ZAP rfl rfl<|ZAD rfl rfl cg7<|ZAD rfl rfl cg7<|ZAP rfl rfl<|ZAP rfl rfl<|ZAP rfl rfl<|ZAP rfl rfl<|ZAD rfl rfl cg7 ?_
  refine ZAZ (v:=enc false) rfl cg7 rfl<|ZAA ?_
  rw[←oi hb_b1];exact⟨hs,FxR rfl⟩
 rintro φ s ⟨hs,hF⟩;rw[←hF.eq];refine ZAA ?_
 split at h
 ·rename_i c';refine ZAH rfl c'<|ZAB<|ZAC<|ZAE (v:= .ptr m_w 0) rfl<|ZAV ZO2 rfl<|ZAK ag9 (Ss (Ss (Ss (Ss (Ss Sz))))) rfl hxs5 hs fun y20 hy20=> ?_
  cases hy20;replace hs:=Hp.front [(.cells m1 xs5),(.cells m xs)] (b:=[enF,(.gl (NG mx))]) hs;obtain⟨r_4,hx6,h⟩:=bs h;refine ZAt (by kernel_rfl) func56 rfl (vs:=[(.ptr m_w 0),(enc r_3.v.2.2.2.2.2.1)]) rfl (MF.any (ZLZ mx (Rec.mk (l,w.v.2.1,w.v.2.2.1,w.v.2.2.2.1,w.v.2.2.2.2.1,()):WR) r_3.v.2.2.2.2.2.1 _ hx6 hxs1 (Hp.packN [(.cells m_w xs1)] [(.cells m1 xs5),(.cells m xs),enF,(.gl (NG mx))] hs (Hp.glob hs (lM _ (lM _ (lM _ (lM _ List.mem_cons_self))))))) (ZIe mx)) fun z1 s ⟨xs6,hxs6,hz1,hq_⟩=> ?_
  replace hs:=Hp.unpackN [(.cells m_w xs1)] [(.cells m_w xs6)] [(.cells m1 xs5),(.cells m xs),enF,(.gl (NG mx))] hs (Hp.glob hs (lM _ (lM _ (lM _ (lM _ List.mem_cons_self))))) hq_
  cases hz1;refine ZAG rfl<|ZAA<|ZAN ?_
  rw[←oi h];exact⟨rfl,KN1 rfl rfl ⟨_,hxs6,(rfl:is _ r_4.2),(Hp.drop [(.cells m_w xs6)] (b:=[enF,(.gl (NG mx))]) (Hp.drop [(.cells m_w xs6)] (b:=[(.cells m xs),enF,(.gl (NG mx))]) hs))⟩⟩
 rename_i c';refine ZAI rfl c'<|ZAL<|ZAB<|ZAC<|ZAE (v:= .ptr m_w 0) rfl<|ZAE (v:= .ptr m_w 0) rfl<|ZA0 rfl<|ZAj (q:=2) ZFn rfl rfl ?_
 replace hs:=Hp.front [(.cells m1 xs5),(.cells m xs)] (b:=[enF,(.gl (NG mx))]) hs;refine ZAK ag3 (Ss (Ss Sz)) rfl hxs1 hs fun y21 hy21=> ?_
 cases hy21;refine ZAE rfl<|ZAE rfl<|ZBZ (r0:=((0:Int),(str []),(0:Int),false,())) bu29 zr29 zf29 rfl rfl (r:=(w.v.2.2.1,v,r_2.1,false,())) (.cons (z:=w.v.2.2.1) Sz (rfl:is _ w.v.2.2.1) (.cons (z:=v) (Ss Sz) (rfl:is _ v) (.cons (z:=r_2.1) (Ss (Ss Sz)) (rfl:is _ r_2.1) .nil))) fun y22 hy22=>ZA0 rfl<|ZAj (q:=3) ZM3 rfl rfl<|ZKa (c:=(Rec.mk (w.v.2.2.1,v,r_2.1,false,()):ZAU)) sz29 (SelR.succ (SelR.succ (SelR.succ SelR.zero))) rfl rfl hy22 hxs1 hs fun xs7 s hxs7 hs=>ZAA<|ZAB<|ZAC<|ZAE (v:= .ptr m_w 0) rfl<|ZAE rfl<|ZA0 rfl<|ZAj (q:=2) ZFn rfl rfl<|ZEX (z:=r_2.1) sz3 (Ss (Ss Sz)) rfl rfl (rfl:is _ r_2.1) hxs7 hs fun xs8 s hxs8 hs=>ZAA ?_
 refine ZAB<|ZAC<|ZAG (v:=enc (0:Int)) rfl<|ZAA<|ZAN ?_
 rw[←oi h];exact⟨rfl,KN1 rfl rfl ⟨_,hxs8,(rfl:is _ (0:Int)),(Hp.drop [(.cells m_w xs8)] (b:=[enF,(.gl (NG mx))]) (Hp.drop [(.cells m_w xs8)] (b:=[(.cells m xs),enF,(.gl (NG mx))]) hs))⟩⟩
theorem ZOC (mx:Int) (f:FsR) (path:Str) (follow:Bool) (r:ZAU×Int) (h:ZEg f path follow=some r):MF Tryz.prog (ZRw mx) 14 [enc f,enc path,enc follow] (sG (NG mx)) fun v _=>ris v r:=by
 refine ZAh [(0,enc f),(1,enc path),(2,enc follow)] func14 rfl (by simp only[Tryz.f14];rfl) fun ψ=> ?_
 unfold ZEg at h;have hs:Hp (sG (NG mx)) [.gl (NG mx)]:=Hp.gl0
 refine ZAB<|ZAC<|ZA5 (r:=f) rfl (Enc.self f) hs fun m xs s hxs hs=>ZBG (r:=(Rec.mk ((0:Int),(str []),(0:Int),false,()):ZAU)) zr29 zf29 hs fun m1 s hs=>ZAG (v:=enc (0:Int)) rfl<|ZAA<|ZAB<|ZAB<|ZAC ?_
 replace hs:=Hp.front [(.cells m1 zx29)] (b:=[(.gl (NG mx))]) hs;refine ZAm (r:=f) ag24 sz24 rfl hxs hs fun y hy=> ?_
 obtain⟨r_,hx,h⟩:=bs h;refine ZAY (f:=fun a:FsR×Unit=>ZBN a.1) (a:=(f,())) rfl func30 rfl rfl (.cons (a:=f) hy .nil) hs (lM _ (lM _ List.mem_cons_self)) hx<|ZBO (v:=enc (!r_)) rfl rfl<|ZAA ?_
 split at h
 ·rename_i c';refine ZAH rfl c'<|ZAB<|ZAC<|ZBZ (r0:=((0:Int),(str []),(0:Int),false,())) bu29 zr29 zf29 rfl rfl (r:=((0:Int),(str []),(0:Int),false,())) .nil fun y1 hy1=> ?_
  replace hs:=Hp.front [(.cells m xs)] (b:=[(.gl (NG mx))]) hs;refine ZAx (r:=(Rec.mk ((0:Int),(str []),(0:Int),false,()):ZAU)) sz29 rfl rfl zf29 hy1 hs fun xs1 s hxs1 hs=>ZAG (v:=enc (2:Int)) rfl<|ZAA<|ZAN ?_
  obtain⟨w,hlw,hw⟩:=ldW (r:=(Rec.mk ((0:Int),(str []),(0:Int),false,()):ZAU)) ag29 sz29 hxs1 hs;rw[←oi h];exact⟨rfl,KEc2 (a1:=((Rec.mk ((0:Int),(str []),(0:Int),false,()):ZAU):ZAU)) (a2:=(2:Int)) rfl (.cell rfl hlw (.tmp rfl .nil)) hw (rfl:is _ (2:Int)) ⟨_,_,rfl,hw,(rfl:is _ (2:Int))⟩⟩
 rename_i c';refine ZAI rfl c'<|ZAL<|ZAB<|ZAC<|ZAE rfl ?_
 obtain⟨r_1,hx1,h⟩:=bs h;refine ZAY (f:=fun a:Str×Unit=>ZCX a.1) (a:=(path,())) rfl func32 rfl rfl (.cons (a:=path) (Enc.self _) .nil) hs (lM _ (lM _ List.mem_cons_self)) hx1<|ZAE (v:=res r_1) rfl<|ZAy rfl rfl<|ZAy rfl rfl<|ZAy rfl rfl<|ZAG rfl<|ZAG rfl<|ZAG rfl<|ZAA<|ZAB<|ZAB<|ZAC<|ZAE rfl<|ZAJ (v:=enc (r_1.2.2 !=0)) rfl rfl rfl<|ZAA ?_
 split at h
 ·rename_i c';refine ZAH rfl c'<|ZAB<|ZAC<|ZBZ (r0:=((0:Int),(str []),(0:Int),false,())) bu29 zr29 zf29 rfl rfl (r:=((0:Int),(str []),(0:Int),false,())) .nil fun y2 hy2=>ZAE rfl ?_
  replace hs:=Hp.front [(.cells m xs)] (b:=[(.gl (NG mx))]) hs;refine ZAx (r:=(Rec.mk ((0:Int),(str []),(0:Int),false,()):ZAU)) sz29 rfl rfl zf29 hy2 hs fun xs2 s hxs2 hs=>ZAG rfl<|ZAA<|ZAN ?_
  obtain⟨w1,hlw1,hw1⟩:=ldW (r:=(Rec.mk ((0:Int),(str []),(0:Int),false,()):ZAU)) ag29 sz29 hxs2 hs;rw[←oi h];exact⟨rfl,KEc2 (a1:=((Rec.mk ((0:Int),(str []),(0:Int),false,()):ZAU):ZAU)) (a2:=r_1.2.2) rfl (.cell rfl hlw1 (.tmp rfl .nil)) hw1 (rfl:is _ r_1.2.2) ⟨_,_,rfl,hw1,(rfl:is _ r_1.2.2)⟩⟩
 rename_i c';refine ZAI rfl c'<|ZAL<|ZAB<|ZAC<|ZAE rfl<|ZAE rfl<|ZBZ (r0:=((0:Int),(str []),(0:Int),false,())) bu29 zr29 zf29 rfl rfl (r:=(1,(str []),1,false,())) (.cons (z:=(1:Int)) Sz (rfl:is _ (1:Int)) (.cons (z:=(1:Int)) (Ss (Ss Sz)) (rfl:is _ (1:Int)) .nil)) fun y3 hy3=>ZUL (r0:=(Rec.mk (([]:(List Str)),false,(0:Int),(Rec.mk ((0:Int),(str []),(0:Int),false,()):ZAU),(0:Int),()):WR).v) (r:=(r_1.1,r_1.2.1,1,(Rec.mk (1,(str []),1,false,()):ZAU),(0:Int),())) pl68 zr68 zf68 rfl (.cons (z:=r_1.1) rfl Sz (Enc.self r_1.1) (.cons (z:=r_1.2.1) rfl (Ss Sz) (rfl:is _ r_1.2.1) (.cons (z:=(1:Int)) rfl (Ss (Ss Sz)) (rfl:is _ (1:Int)) (.str (z:=(Rec.mk (1,(str []),1,false,()):ZAU)) rfl (SelR.succ (SelR.succ (SelR.succ SelR.zero))) hy3 .nil)))) fun y4 hy4=>ZUM (r:=(Rec.mk (r_1.1,r_1.2.1,1,(Rec.mk (1,(str []),1,false,()):ZAU),(0:Int),()):WR).v) rfl hy4 hs fun m2 xs3 s hxs3 hs=>ZAG (v:= .ptr m2 0) rfl<|ZAA<|ZAB<|ZAQ ?_
 obtain⟨o,hl,h⟩:=bs h;refine ZAk (fun(p:(ZAU×WR)) φ s=>match p with | (v,w2)=>∃(xs_v:List AV) (xs_w2:List AV),fi xs_v v.v∧fi xs_w2 w2.v∧Fx φ [(2,(enc follow)),(3,(.ptr m 0)),(6,(.ptr m1 0)),(11,(.ptr m2 0))]∧Hp s [(.cells m xs),(.gl (NG mx)),(.cells m1 xs_v),(.cells m2 xs_w2)]) (fun(o:((ZAU×WR) ⊕ (ZAU×Int))) e φ s=>match o with | (.inl (v1,w3))=>e= .exit 0∧∃(xs_v1:List AV) (xs_w3:List AV),fi xs_v1 v1.v∧fi xs_w3 w3.v∧Fx φ [(3,(.ptr m 0)),(6,(.ptr m1 0)),(11,(.ptr m2 0))]∧Hp s [(.cells m xs),(.gl (NG mx)),(.cells m1 xs_v1),(.cells m2 xs_w3)] | (.inr (v2,v3))=>e= .ret∧∃(xs_v2:List AV),fi xs_v2 v2.v∧Fx φ [(6,(.ptr m1 0)),(7,(enc v3))]∧Hp s [(.gl (NG mx)),(.cells m1 xs_v2)]) ?_ hl ⟨zx29,xs3,zf29,hxs3,FxR rfl,(Hp.front [(.gl (NG mx)),(.cells m1 zx29),(.cells m2 xs3)] (b:=[]) (Hp.front [(.cells m1 zx29),(.cells m2 xs3),(.cells m xs)] (b:=[]) (Hp.front [(.cells m2 xs3),(.cells m xs)] (b:=[(.gl (NG mx))]) (Hp.front [] (b:=[(.cells m xs),(.cells m1 zx29),(.gl (NG mx))]) hs))))⟩ ?_
 ·rintro⟨v,w2⟩ o h φ s ⟨xs_v,xs_w2,hxs_v,hxs_w2,hF,hs⟩;rw[←hF.eq];rw[ZFe] at h;refine ZAB<|ZAB<|ZAC<|ZAE (v:= .ptr m2 0) rfl<|ZA0 rfl<|ZAj (q:=0) ZHj rfl rfl ?_
  replace hs:=Hp.front [(.cells m xs),(.gl (NG mx)),(.cells m1 xs_v)] (b:=[]) hs;refine ZAK ag43 Sz rfl hxs_w2 hs fun y5 hy5=>ZAo underlying43 rfl rfl hy5<|ZAJ (v:=enc (decide ((w2.v.1.length:Int) > 0))) rfl rfl rfl<|ZAA ?_
  split at h
  ·rename_i c';refine ZAH rfl c'<|ZAL<|ZAQ<|ZAB<|ZAC<|ZAE (v:= .ptr m2 0) rfl ?_
   replace hs:=Hp.front [(.cells m2 xs_w2)] (b:=[(.gl (NG mx)),(.cells m1 xs_v)]) hs;refine ZAm (r:=f) ag24 sz24 rfl hxs hs fun y6 hy6=>ZAE rfl ?_
   replace hs:=Hp.front [(.cells m xs)] (b:=[(.gl (NG mx)),(.cells m1 xs_v)]) hs;obtain⟨r_2,hx2,h⟩:=bs h;refine ZAt (by kernel_rfl) func33 rfl (vs:=[(.ptr m2 0),y6,(enc follow)]) rfl (MF.any (ZOB mx w2 f follow _ hx2 hxs_w2 hy6 (Hp.packN [(.cells m2 xs_w2)] [(.cells m xs),(.gl (NG mx)),(.cells m1 xs_v)] hs (Hp.glob hs (lM _ (lM _ List.mem_cons_self))))) (ZIe mx)) fun z s ⟨xs4,hxs4,hz,hq_⟩=> ?_
   replace hs:=Hp.unpackN [(.cells m2 xs_w2)] [(.cells m2 xs4)] [(.cells m xs),(.gl (NG mx)),(.cells m1 xs_v)] hs (Hp.glob hs (lM _ (lM _ List.mem_cons_self))) hq_
   cases hz;refine ZAG rfl<|ZAA<|ZAB<|ZAC<|ZAE rfl<|ZAJ (v:=enc (r_2.2 !=0)) rfl rfl rfl<|ZAA ?_
   split at h
   ·rename_i c';refine ZAH rfl c'<|ZAB<|ZAC<|ZBZ (r0:=((0:Int),(str []),(0:Int),false,())) bu29 zr29 zf29 rfl rfl (r:=((0:Int),(str []),(0:Int),false,())) .nil fun y7 hy7=>ZAE rfl ?_
    replace hs:=Hp.front [(.cells m2 xs4),(.cells m xs),(.gl (NG mx))] (b:=[]) hs;refine ZAx (r:=(Rec.mk ((0:Int),(str []),(0:Int),false,()):ZAU)) sz29 rfl rfl hxs_v hy7 hs fun xs5 s hxs5 hs=>ZAG rfl<|ZAA<|ZAN ?_
    show if _ then _ else _
    rw[if_neg (by simp)]
    rw[←oi h];exact⟨_,rfl,rfl,⟨xs5,hxs5,FxR rfl,(Hp.front [(.cells m1 xs5)] (b:=[]) (Hp.front [] (b:=[(.gl (NG mx))]) (Hp.drop [(.cells m1 xs5)] (b:=[(.gl (NG mx))]) (Hp.drop [(.cells m1 xs5)] (b:=[(.cells m xs),(.gl (NG mx))]) hs))))⟩⟩
   rename_i c';refine ZAI rfl c'<|ZAL ?_
   rw[←oi h];exact⟨_,rfl,⟨xs_v,xs4,hxs_v,hxs4,FxR rfl,(Hp.front [(.gl (NG mx)),(.cells m1 xs_v),(.cells m2 xs4)] (b:=[]) (Hp.front [(.cells m1 xs_v),(.cells m2 xs4),(.cells m xs)] (b:=[]) (Hp.front [(.cells m2 xs4),(.cells m xs),(.gl (NG mx))] (b:=[]) (Hp.front [] (b:=[(.cells m xs),(.gl (NG mx)),(.cells m1 xs_v)]) hs))))⟩⟩
  rename_i c';refine ZAI rfl c'<|ZAf ?_
  rw[←oi h];exact⟨_,rfl,rfl,⟨xs_v,xs_w2,hxs_v,hxs_w2,FxR rfl,(Hp.front [(.gl (NG mx)),(.cells m1 xs_v),(.cells m2 xs_w2)] (b:=[]) (Hp.front [(.cells m1 xs_v),(.cells m2 xs_w2),(.cells m xs)] (b:=[]) (Hp.front [(.cells m2 xs_w2),(.cells m xs),(.gl (NG mx))] (b:=[]) (Hp.front [] (b:=[(.cells m xs),(.gl (NG mx)),(.cells m1 xs_v)]) hs))))⟩⟩
 intro e φ s hE;rcases o with⟨v1,w3⟩ | ⟨v2,v3⟩
 ·obtain⟨rfl,xs_v1,xs_w3,hxs_v1,hxs_w3,hF,hs⟩:=hE;rw[←hF.eq];rw[ZFf] at h;show if _ then _ else _
  rw[if_pos rfl];refine ZAB<|ZAC<|ZAE (v:= .ptr m2 0) rfl<|ZA0 rfl<|ZAj (q:=3) ZM3 rfl rfl ?_
  replace hs:=Hp.front [(.cells m xs),(.gl (NG mx)),(.cells m1 xs_v1)] (b:=[]) hs;refine ZKZ ag29 sz29 (SelR.succ (SelR.succ (SelR.succ SelR.zero))) rfl hxs_w3 hs fun y8 hy8=>ZBG (r:=(Rec.mk ((0:Int),(str []),(0:Int),false,()):ZAU)) zr29 zf29 hs fun m3 s hs=>ZAx (r:=w3.v.2.2.2.1) sz29 rfl rfl zf29 hy8 hs fun xs6 s hxs6 hs=>ZAA<|ZAB<|ZAC<|ZAE (v:= .ptr m2 0) rfl<|ZA0 rfl<|ZAj (q:=1) ZO8 rfl rfl ?_
  replace hs:=Hp.front [(.cells m3 xs6)] (b:=[(.cells m xs),(.gl (NG mx)),(.cells m1 xs_v1)]) hs;refine ZAK ag4 (Ss Sz) rfl hxs_w3 hs fun y9 hy9=> ?_
  cases hy9;refine ZAV ZO5 rfl ?_
  replace hs:=Hp.front [(.cells m2 xs_w3)] (b:=[(.cells m xs),(.gl (NG mx)),(.cells m1 xs_v1)]) hs;refine ZEX (z:=w3.v.2.1) sz4 (Ss (Ss (Ss Sz))) rfl rfl (rfl:is _ w3.v.2.1) hxs6 hs fun xs7 s hxs7 hs=>ZAA<|ZAB<|ZAB<|ZAC<|ZAV ZJc rfl<|ZAK ag3 (Ss (Ss Sz)) rfl hxs7 hs fun y10 hy10=> ?_
  cases hy10;refine ZAJ (v:=enc (w3.v.2.2.2.1.v.2.2.1 !=0)) rfl rfl rfl<|ZAE rfl ?_
  obtain⟨b,hb_b,h⟩:=bs h;refine ZAS 3 (fun φ s=>Hp s [(.cells m3 xs7),(.cells m2 xs_w3),(.cells m xs),(.gl (NG mx)),(.cells m1 xs_v1)]∧Fx φ [(3,(.ptr m 0)),(6,(.ptr m1 0)),(13,(.ptr m3 0)),(62,(enc b))]) ?_ ?_
  ·split at hb_b
   ·rename_i cg;refine ZAF rfl rfl cg<|ZAV ZO5 rfl<|ZAF rfl rfl cg<|ZAK ag4 (Ss (Ss (Ss Sz))) rfl hxs7 hs fun y11 hy11=> ?_
    cases hy11;refine ZAa rfl cg rfl<|ZAA ?_
    rw[←oi hb_b];exact⟨hs,FxR rfl⟩
   rename_i cg1;refine ZAD rfl rfl cg1<|ZAD rfl rfl cg1<|ZAZ (v:=enc false) rfl cg1 rfl<|ZAA ?_
   rw[←oi hb_b];exact⟨hs,FxR rfl⟩
  rintro φ s ⟨hs,hF⟩;rw[←hF.eq];refine ZAE rfl ?_
  obtain⟨b1,hb_b1,h⟩:=bs h;refine ZAS 7 (fun φ s=>Hp s [(.cells m3 xs7),(.cells m2 xs_w3),(.cells m xs),(.gl (NG mx)),(.cells m1 xs_v1)]∧Fx φ [(6,(.ptr m1 0)),(13,(.ptr m3 0)),(70,(enc b1))]) ?_ ?_
  ·split at hb_b1
   ·rename_i cg2;refine ZAF rfl rfl cg2 ?_
    replace hs:=Hp.front [(.cells m3 xs7),(.cells m2 xs_w3)] (b:=[(.gl (NG mx)),(.cells m1 xs_v1)]) hs;refine ZAm (r:=f) ag24 sz24 rfl hxs hs fun y12 hy12=>ZAF rfl rfl cg2<|ZAV ZJc rfl<|ZAF rfl rfl cg2 ?_
    replace hs:=Hp.front [(.cells m xs)] (b:=[(.cells m2 xs_w3),(.gl (NG mx)),(.cells m1 xs_v1)]) hs;refine ZAK ag3 (Ss (Ss Sz)) rfl hxs7 hs fun y13 hy13=> ?_
    cases hy13;refine ZAF rfl rfl cg2 ?_
    obtain⟨r_3,hx3,hb_b1⟩:=bs hb_b1;refine ZAY (f:=fun a:FsR×Int×Unit=>ZBW a.1 a.2.1) (a:=(f,w3.v.2.2.2.1.v.2.2.1,())) rfl func34 rfl rfl (.cons (a:=f) hy12 (.cons (a:=w3.v.2.2.2.1.v.2.2.1) (Enc.self _) .nil)) hs (lM _ (lM _ (lM _ List.mem_cons_self))) hx3<|ZAF rfl rfl cg2<|ZS0 ZB4 (Ss Sz) rfl (Enc.self r_3) fun y14 hy14=> ?_
    cases hy14;refine ZAF rfl rfl cg2<|ZAJ (v:=enc (r_3.v.2.1 !=2)) rfl rfl rfl<|ZAa rfl cg2 rfl<|ZAA ?_
    rw[←oi hb_b1];exact⟨(Hp.front [(.cells m2 xs_w3),(.cells m xs),(.gl (NG mx)),(.cells m1 xs_v1)] (b:=[]) (Hp.front [(.cells m xs),(.gl (NG mx)),(.cells m1 xs_v1),(.cells m3 xs7)] (b:=[]) (Hp.front [(.gl (NG mx)),(.cells m1 xs_v1),(.cells m3 xs7)] (b:=[(.cells m2 xs_w3)]) (Hp.front [(.cells m1 xs_v1),(.cells m3 xs7),(.cells m xs),(.cells m2 xs_w3)] (b:=[]) (Hp.front [(.cells m3 xs7),(.cells m xs),(.cells m2 xs_w3),(.gl (NG mx))] (b:=[]) hs))))),FxR rfl⟩
   rename_i cg3;refine ZAD rfl rfl cg3<|ZAD rfl rfl cg3<|ZAD rfl rfl cg3<|ZAD rfl rfl cg3<|ZAD rfl rfl cg3<|ZAD rfl rfl cg3<|ZAZ (v:=enc false) rfl cg3 rfl<|ZAA ?_
   rw[←oi hb_b1];exact⟨hs,FxR rfl⟩
  rintro φ s ⟨hs,hF⟩;rw[←hF.eq];refine ZAA ?_
  split at h
  ·rename_i c';refine ZAH rfl c'<|ZAB<|ZAC<|ZBZ (r0:=((0:Int),(str []),(0:Int),false,())) bu29 zr29 zf29 rfl rfl (r:=((0:Int),(str []),(0:Int),false,())) .nil fun y15 hy15=> ?_
   replace hs:=Hp.front [(.cells m3 xs7),(.cells m2 xs_w3),(.cells m xs),(.gl (NG mx))] (b:=[]) hs;refine ZAx (r:=(Rec.mk ((0:Int),(str []),(0:Int),false,()):ZAU)) sz29 rfl rfl hxs_v1 hy15 hs fun xs8 s hxs8 hs=>ZAG (v:=enc (203:Int)) rfl<|ZAA<|ZAN ?_
   obtain⟨w4,hlw4,hw4⟩:=ldW (r:=(Rec.mk ((0:Int),(str []),(0:Int),false,()):ZAU)) ag29 sz29 hxs8 hs;rw[←oi h];exact⟨rfl,KEc2 (a1:=((Rec.mk ((0:Int),(str []),(0:Int),false,()):ZAU):ZAU)) (a2:=(203:Int)) rfl (.cell rfl hlw4 (.tmp rfl .nil)) hw4 (rfl:is _ (203:Int)) ⟨_,_,rfl,hw4,(rfl:is _ (203:Int))⟩⟩
  rename_i c';refine ZAI rfl c'<|ZAL<|ZAB<|ZAC<|ZAm (r:=(Rec.mk (w3.v.2.2.2.1.v.1,w3.v.2.2.2.1.v.2.1,w3.v.2.2.2.1.v.2.2.1,w3.v.2.1,()):ZAU)) ag29 sz29 rfl hxs7 hs fun y16 hy16=> ?_
  replace hs:=Hp.front [(.cells m3 xs7),(.cells m2 xs_w3),(.cells m xs),(.gl (NG mx))] (b:=[]) hs;refine ZAx (r:=(Rec.mk (w3.v.2.2.2.1.v.1,w3.v.2.2.2.1.v.2.1,w3.v.2.2.2.1.v.2.2.1,w3.v.2.1,()):ZAU)) sz29 rfl rfl hxs_v1 hy16 hs fun xs9 s hxs9 hs=>ZAG (v:=enc (0:Int)) rfl<|ZAA<|ZAN ?_
  obtain⟨w5,hlw5,hw5⟩:=ldW (r:=(Rec.mk (w3.v.2.2.2.1.v.1,w3.v.2.2.2.1.v.2.1,w3.v.2.2.2.1.v.2.2.1,w3.v.2.1,()):ZAU)) ag29 sz29 hxs9 hs;rw[←oi h];exact⟨rfl,KEc2 (a1:=((Rec.mk (w3.v.2.2.2.1.v.1,w3.v.2.2.2.1.v.2.1,w3.v.2.2.2.1.v.2.2.1,w3.v.2.1,()):ZAU):ZAU)) (a2:=(0:Int)) rfl (.cell rfl hlw5 (.tmp rfl .nil)) hw5 (rfl:is _ (0:Int)) ⟨_,_,rfl,hw5,(rfl:is _ (0:Int))⟩⟩
 obtain⟨rfl,xs_v2,hxs_v2,hF,hs⟩:=hE;rw[←hF.eq];rw[ZFf] at h;show if _ then _ else _
 rw[if_neg (by simp)]
 replace hs:=Hp.front [(.gl (NG mx))] (b:=[]) hs;obtain⟨w6,hlw6,hw6⟩:=ldW (r:=v2) ag29 sz29 hxs_v2 hs;rw[←oi h];exact⟨rfl,KEc2 (a1:=(v2:ZAU)) (a2:=v3) rfl (.cell rfl hlw6 (.tmp rfl .nil)) hw6 (rfl:is _ v3) ⟨_,_,rfl,hw6,(rfl:is _ v3)⟩⟩
theorem ZOD (mx:Int):ZAq Tryz.prog 14 (FnG (NG mx) (fun a:FsR×Str×Bool×Unit=>ZEg a.1 a.2.1 a.2.2.1)):=fnCG (ZIe mx) ⟨_,func14,rfl⟩<|fun a r h=>ZOC mx a.1 a.2.1 a.2.2.1 r h
noncomputable def ZVW (mx:Int):Prims:=(ZRw mx).addG 14 (FnG (NG mx) (fun a:FsR×Str×Bool×Unit=>ZEg a.1 a.2.1 a.2.2.1))
theorem ZPD (mx:Int):ZAX Tryz.prog (ZVW mx):=ZAR (ZIe mx) (ZOD mx)
theorem ZLa (mx:Int) (f:FsR) (num:Int) (in_:Int) (r:Bool) (h:ZCl f num in_=some r):MF Tryz.prog (ZVW mx) 16 [enc f,enc num,enc in_] (sG (NG mx)) fun v _=>ris v r:=by
 refine ZAh [(0,enc f),(1,enc num),(2,enc in_)] func16 rfl (by simp only[Tryz.f16];rfl) fun ψ=> ?_
 unfold ZCl at h;have hs:Hp (sG (NG mx)) [.gl (NG mx)]:=Hp.gl0
 refine ZAB<|ZAC<|ZA5 (r:=f) rfl (Enc.self f) hs fun m xs s hxs hs=>ZAG (v:=enc false) rfl<|ZAA<|ZAB<|ZAB<|ZAC<|ZAm (r:=f) ag24 sz24 rfl hxs hs fun y hy=> ?_
 obtain⟨r_,hx,h⟩:=bs h;refine ZAY (f:=fun a:FsR×Unit=>ZBN a.1) (a:=(f,())) rfl func30 rfl rfl (.cons (a:=f) hy .nil) hs (lM _ List.mem_cons_self) hx<|ZBO (v:=enc (!r_)) rfl rfl<|ZAE rfl ?_
 obtain⟨b,hb_b,h⟩:=bs h;refine ZAS 5 (fun φ s=>Hp s [(.cells m xs),(.gl (NG mx))]∧Fx φ [(1,(enc num)),(2,(enc in_)),(3,(.ptr m 0)),(17,(enc b))]) ?_ ?_
 ·split at hb_b
  ·rename_i cg;refine ZAD rfl rfl (by first | simpa using cg | (rw[cg];decide))<|ZAD rfl rfl (by first | simpa using cg | (rw[cg];decide))<|ZAD rfl rfl (by first | simpa using cg | (rw[cg];decide))<|ZAD rfl rfl (by first | simpa using cg | (rw[cg];decide))<|ZAa (v:=enc true) rfl cg rfl<|ZAA ?_
   rw[←oi hb_b];exact⟨hs,FxR rfl⟩
  rename_i cg1;refine ZAF rfl rfl (by first | simpa using cg1 | (rw[cg1];decide))<|ZAm (r:=f) ag24 sz24 rfl hxs hs fun y1 hy1=>ZAF rfl rfl (by first | simpa using cg1 | (rw[cg1];decide))<|ZAE rfl<|ZAF rfl rfl (by first | simpa using cg1 | (rw[cg1];decide)) ?_
  obtain⟨r_1,hx1,hb_b⟩:=bs hb_b;refine ZAY (f:=fun a:FsR×Int×Unit=>ZDp a.1 a.2.1) (a:=(f,num,())) rfl func36 rfl rfl (.cons (a:=f) hy1 (.cons (a:=num) (Enc.self _) .nil)) hs (lM _ List.mem_cons_self) hx1<|ZAF rfl rfl (by first | simpa using cg1 | (rw[cg1];decide))<|ZBO (v:=enc (!r_1)) rfl rfl<|ZAZ rfl cg1 rfl<|ZAA ?_
  rw[←oi hb_b];exact⟨hs,FxR rfl⟩
 rintro φ s ⟨hs,hF⟩;rw[←hF.eq];refine ZAE rfl ?_
 obtain⟨b1,hb_b1,h⟩:=bs h;refine ZAS 5 (fun φ s=>Hp s [(.cells m xs),(.gl (NG mx))]∧Fx φ [(1,(enc num)),(2,(enc in_)),(3,(.ptr m 0)),(23,(enc b1))]) ?_ ?_
 ·split at hb_b1
  ·rename_i cg2;refine ZAD rfl rfl (by first | simpa using cg2 | (rw[cg2];decide))<|ZAD rfl rfl (by first | simpa using cg2 | (rw[cg2];decide))<|ZAD rfl rfl (by first | simpa using cg2 | (rw[cg2];decide))<|ZAD rfl rfl (by first | simpa using cg2 | (rw[cg2];decide))<|ZAa (v:=enc true) rfl cg2 rfl<|ZAA ?_
   rw[←oi hb_b1];exact⟨hs,FxR rfl⟩
  rename_i cg3;refine ZAF rfl rfl (by first | simpa using cg3 | (rw[cg3];decide))<|ZAm (r:=f) ag24 sz24 rfl hxs hs fun y2 hy2=>ZAF rfl rfl (by first | simpa using cg3 | (rw[cg3];decide))<|ZAE rfl<|ZAF rfl rfl (by first | simpa using cg3 | (rw[cg3];decide)) ?_
  obtain⟨r_2,hx2,hb_b1⟩:=bs hb_b1;refine ZAY (f:=fun a:FsR×Int×Unit=>ZDp a.1 a.2.1) (a:=(f,in_,())) rfl func36 rfl rfl (.cons (a:=f) hy2 (.cons (a:=in_) (Enc.self _) .nil)) hs (lM _ List.mem_cons_self) hx2<|ZAF rfl rfl (by first | simpa using cg3 | (rw[cg3];decide))<|ZBO (v:=enc (!r_2)) rfl rfl<|ZAZ rfl cg3 rfl<|ZAA ?_
  rw[←oi hb_b1];exact⟨hs,FxR rfl⟩
 rintro φ s ⟨hs,hF⟩;rw[←hF.eq];refine ZAA ?_
 split at h
 ·rename_i c';refine ZAH rfl c'<|ZAB<|ZAC<|ZAG (v:=enc false) rfl<|ZAA<|ZAN ?_
  rw[←oi h];exact⟨rfl,KE1 (a:=(false:Bool)) rfl rfl (rfl:is _ (false:Bool)) (rfl:is _ (false:Bool))⟩
 rename_i c';refine ZAI rfl c'<|ZAL<|ZAB<|ZAC<|ZAE rfl<|ZAG rfl<|ZAA<|ZAB<|ZAB<|ZAC<|ZAG (v:=enc (0:Int)) rfl<|ZAA<|ZAQ ?_
 obtain⟨o,hl,h⟩:=bs h;refine ZAk (fun(p:(Int×Int)) φ s=>match p with | (n,i)=>Fx φ [(2,(enc in_)),(3,(.ptr m 0)),(7,(enc n)),(8,(enc i))]∧Hp s [(.cells m xs),(.gl (NG mx))]) (fun(o:(Unit ⊕ Bool)) e φ s=>match o with | (.inl _)=>e= .exit 0∧Fx φ []∧Hp s [(.gl (NG mx))] | (.inr v)=>e= .ret∧Fx φ [(6,(enc v))]∧Hp s [(.gl (NG mx))]) ?_ hl ⟨FxR rfl,hs⟩ ?_
 ·rintro⟨n,i⟩ o h φ s ⟨hF,hs⟩;rw[←hF.eq];rw[ZCP] at h;refine ZAB<|ZAB<|ZAC<|ZAE rfl<|ZAV ZAz rfl<|ZAK ag22 Sz rfl hxs hs fun y3 hy3=>ZAo underlying22 rfl rfl hy3<|ZAJ (v:=enc (decide (i≤(f.v.1.length:Int)))) rfl rfl rfl<|ZAE rfl ?_
  obtain⟨b2,hb_b2,h⟩:=bs h;refine ZAS 3 (fun φ s=>Hp s [(.cells m xs),(.gl (NG mx))]∧Fx φ [(2,(enc in_)),(3,(.ptr m 0)),(7,(enc n)),(8,(enc i)),(33,(enc b2))]) ?_ ?_
  ·split at hb_b2
   ·rename_i cg4;refine ZAF rfl rfl cg4<|ZAE rfl<|ZAF rfl rfl cg4<|ZAJ (v:=enc (decide (n > 0))) rfl rfl rfl<|ZAa rfl cg4 rfl<|ZAA ?_
    rw[←oi hb_b2];exact⟨hs,FxR rfl⟩
   rename_i cg5;refine ZAD rfl rfl cg5<|ZAD rfl rfl cg5<|ZAZ (v:=enc false) rfl cg5 rfl<|ZAA ?_
   rw[←oi hb_b2];exact⟨hs,FxR rfl⟩
  rintro φ s ⟨hs,hF⟩;rw[←hF.eq];refine ZAA ?_
  split at h
  ·rename_i c';refine ZAH rfl c'<|ZAL<|ZAB<|ZAQ<|ZAB<|ZAB<|ZAC<|ZAE rfl<|ZAE rfl<|ZAJ (v:=enc (n==in_)) rfl rfl rfl<|ZAA ?_
   split at h
   ·rename_i c';refine ZAH rfl c'<|ZAB<|ZAC<|ZAG (v:=enc true) rfl<|ZAA<|ZAN ?_
    show if _ then _ else _
    rw[if_neg (by simp)]
    rw[←oi h];exact⟨_,rfl,rfl,⟨FxR rfl,(Hp.drop [] (b:=[(.gl (NG mx))]) hs)⟩⟩
   rename_i c';refine ZAI rfl c'<|ZAL<|ZAC<|ZAm (r:=f) ag24 sz24 rfl hxs hs fun y4 hy4=>ZAE rfl ?_
   obtain⟨r_3,hx3,h⟩:=bs h;refine ZAY (f:=fun a:FsR×Int×Unit=>ZBK a.1 a.2.1) (a:=(f,n,())) rfl func12 rfl rfl (.cons (a:=f) hy4 (.cons (a:=n) (Enc.self _) .nil)) hs (lM _ List.mem_cons_self) hx3<|ZAG rfl<|ZAA<|ZAC<|ZAE rfl<|ZAJ (v:=enc (IntKind.i64.wrap (i+1))) rfl rfl rfl<|ZAG rfl<|ZAA ?_
   rw[←oi h];exact⟨_,rfl,⟨FxR rfl,hs⟩⟩
  rename_i c';refine ZAI rfl c'<|ZAf ?_
  rw[←oi h];exact⟨_,rfl,rfl,⟨trivial,(Hp.drop [] (b:=[(.gl (NG mx))]) hs)⟩⟩
 intro e φ s hE;rcases o with _u | v
 ·obtain⟨rfl,hF,hs⟩:=hE;rw[←hF.eq];rw[ZCz] at h;show if _ then _ else _
  rw[if_pos rfl];refine ZAB<|ZAC<|ZAG (v:=enc false) rfl<|ZAA<|ZAN ?_
  rw[←oi h];exact⟨rfl,KE1 (a:=(false:Bool)) rfl rfl (rfl:is _ (false:Bool)) (rfl:is _ (false:Bool))⟩
 obtain⟨rfl,hF,hs⟩:=hE;rw[←hF.eq];rw[ZCz] at h;show if _ then _ else _
 rw[if_neg (by simp)]
 rw[←oi h];exact⟨rfl,KE1 (a:=v) rfl rfl (rfl:is _ v) (rfl:is _ v)⟩
theorem ZLb (mx:Int):ZAq Tryz.prog 16 (FnG (NG mx) (fun a:FsR×Int×Int×Unit=>ZCl a.1 a.2.1 a.2.2.1)):=fnCG (ZPD mx) ⟨_,func16,rfl⟩<|fun a r h=>ZLa mx a.1 a.2.1 a.2.2.1 r h
noncomputable def ZVX (mx:Int):Prims:=(ZVW mx).addG 16 (FnG (NG mx) (fun a:FsR×Int×Int×Unit=>ZCl a.1 a.2.1 a.2.2.1))
theorem ZPE (mx:Int):ZAX Tryz.prog (ZVX mx):=ZAR (ZPD mx) (ZLb mx)
theorem ZOE (mx:Int) (f:FsR) (num:Int) (r:Str) (h:ZEh f num=some r):MF Tryz.prog (ZVX mx) 17 [enc f,enc num] (sG (NG mx)) fun v _=>ris v r:=by
 refine ZAh [(0,enc f),(1,enc num)] func17 rfl (by simp only[Tryz.f17];rfl) fun ψ=> ?_
 unfold ZEh at h;have hs:Hp (sG (NG mx)) [.gl (NG mx)]:=Hp.gl0
 refine ZAB<|ZAC<|ZA5 (r:=f) rfl (Enc.self f) hs fun m xs s hxs hs=>ZAG (v:=enc ((str []):Str)) rfl<|ZAA<|ZAB<|ZAB<|ZAC<|ZAm (r:=f) ag24 sz24 rfl hxs hs fun y hy=> ?_
 obtain⟨r_,hx,h⟩:=bs h;refine ZAY (f:=fun a:FsR×Unit=>ZBN a.1) (a:=(f,())) rfl func30 rfl rfl (.cons (a:=f) hy .nil) hs (lM _ List.mem_cons_self) hx<|ZBO (v:=enc (!r_)) rfl rfl<|ZAE rfl ?_
 obtain⟨b,hb_b,h⟩:=bs h;refine ZAS 5 (fun φ s=>Hp s [(.cells m xs),(.gl (NG mx))]∧Fx φ [(1,(enc num)),(2,(.ptr m 0)),(19,(enc b))]) ?_ ?_
 ·split at hb_b
  ·rename_i cg;refine ZAD rfl rfl (by first | simpa using cg | (rw[cg];decide))<|ZAD rfl rfl (by first | simpa using cg | (rw[cg];decide))<|ZAD rfl rfl (by first | simpa using cg | (rw[cg];decide))<|ZAD rfl rfl (by first | simpa using cg | (rw[cg];decide))<|ZAa (v:=enc true) rfl cg rfl<|ZAA ?_
   rw[←oi hb_b];exact⟨hs,FxR rfl⟩
  rename_i cg1;refine ZAF rfl rfl (by first | simpa using cg1 | (rw[cg1];decide))<|ZAm (r:=f) ag24 sz24 rfl hxs hs fun y1 hy1=>ZAF rfl rfl (by first | simpa using cg1 | (rw[cg1];decide))<|ZAE rfl<|ZAF rfl rfl (by first | simpa using cg1 | (rw[cg1];decide)) ?_
  obtain⟨r_1,hx1,hb_b⟩:=bs hb_b;refine ZAY (f:=fun a:FsR×Int×Unit=>ZDp a.1 a.2.1) (a:=(f,num,())) rfl func36 rfl rfl (.cons (a:=f) hy1 (.cons (a:=num) (Enc.self _) .nil)) hs (lM _ List.mem_cons_self) hx1<|ZAF rfl rfl (by first | simpa using cg1 | (rw[cg1];decide))<|ZBO (v:=enc (!r_1)) rfl rfl<|ZAZ rfl cg1 rfl<|ZAA ?_
  rw[←oi hb_b];exact⟨hs,FxR rfl⟩
 rintro φ s ⟨hs,hF⟩;rw[←hF.eq];refine ZAA ?_
 split at h
 ·rename_i c';refine ZAH rfl c'<|ZAB<|ZAC<|ZAG (v:=enc ((str []):Str)) rfl<|ZAA<|ZAN ?_
  rw[←oi h];exact⟨rfl,KE1 (a:=((str []):Str)) rfl rfl (rfl:is _ ((str []):Str)) (rfl:is _ ((str []):Str))⟩
 rename_i c';refine ZAI rfl c'<|ZAL<|ZAB<|ZAC<|ZAG (v:= .nils) rfl<|ZAA<|ZAB<|ZAC<|ZAE rfl<|ZAG rfl<|ZAA<|ZAB<|ZAB<|ZAC<|ZAG (v:=enc (0:Int)) rfl ?_
 refine ZAA<|ZAQ ?_
 obtain⟨o,hl,h⟩:=bs h;refine ZAk (fun(p:((List Str)×Int×Int)) φ s=>match p with | (l,n,i)=>∃(x_l:AV),is x_l l∧Fx φ [(2,(.ptr m 0)),(5,x_l),(6,(enc n)),(7,(enc i))]∧Hp s [(.cells m xs),(.gl (NG mx))]) (fun(o:((List Str) ⊕ Str)) e φ s=>match o with | (.inl l1)=>e= .exit 0∧∃(x_l1:AV),is x_l1 l1∧Fx φ [(5,x_l1)]∧Hp s [(.gl (NG mx))] | (.inr v)=>e= .ret∧Fx φ [(4,(enc v))]∧Hp s [(.gl (NG mx))]) ?_ hl ⟨.nils,isL.nil,FxR rfl,hs⟩ ?_
 ·rintro⟨l,n,i⟩ o h φ s ⟨x_l,h_l,hF,hs⟩;rw[←hF.eq];rw[ZEP] at h;refine ZAB<|ZAB<|ZAC<|ZAE rfl<|ZAV ZAz rfl<|ZAK ag22 Sz rfl hxs hs fun y2 hy2=>ZAo underlying22 rfl rfl hy2<|ZAJ (v:=enc (decide (i≤(f.v.1.length:Int)))) rfl rfl rfl<|ZAE rfl ?_
  obtain⟨b1,hb_b1,h⟩:=bs h;refine ZAS 3 (fun φ s=>Hp s [(.cells m xs),(.gl (NG mx))]∧Fx φ [(2,(.ptr m 0)),(5,x_l),(6,(enc n)),(7,(enc i)),(29,(enc b1))]) ?_ ?_
  ·split at hb_b1
   ·rename_i cg2;refine ZAF rfl rfl cg2<|ZAE rfl<|ZAF rfl rfl cg2<|ZAJ (v:=enc (n !=1)) rfl rfl rfl<|ZAa rfl cg2 rfl<|ZAA ?_
    rw[←oi hb_b1];exact⟨hs,FxR rfl⟩
   rename_i cg3;refine ZAD rfl rfl cg3<|ZAD rfl rfl cg3<|ZAZ (v:=enc false) rfl cg3 rfl<|ZAA ?_
   rw[←oi hb_b1];exact⟨hs,FxR rfl⟩
  rintro φ s ⟨hs,hF⟩;rw[←hF.eq];refine ZAA ?_
  split at h
  ·rename_i c';refine ZAH rfl c'<|ZAL<|ZAB<|ZAQ<|ZAB<|ZAC<|ZAm (r:=f) ag24 sz24 rfl hxs hs fun y3 hy3=>ZAE rfl ?_
   obtain⟨r_2,hx2,h⟩:=bs h;refine ZAY (f:=fun a:FsR×Int×Unit=>ZBK a.1 a.2.1) (a:=(f,n,())) rfl func12 rfl rfl (.cons (a:=f) hy3 (.cons (a:=n) (Enc.self _) .nil)) hs (lM _ List.mem_cons_self) hx2<|ZAG rfl<|ZAA<|ZAB<|ZAB<|ZAC<|ZAE rfl<|ZAJ (v:=enc (r_2==0)) rfl rfl rfl<|ZAA ?_
   split at h
   ·rename_i c';refine ZAH rfl c'<|ZAB<|ZAC<|ZAG (v:=enc ((str []):Str)) rfl<|ZAA<|ZAN ?_
    show if _ then _ else _
    rw[if_neg (by simp)]
    rw[←oi h];exact⟨_,rfl,rfl,⟨FxR rfl,(Hp.drop [] (b:=[(.gl (NG mx))]) hs)⟩⟩
   rename_i c';refine ZAI rfl c'<|ZAL<|ZAB<|ZAC<|ZAm (r:=f) ag24 sz24 rfl hxs hs fun y4 hy4=>ZAE rfl ?_
   obtain⟨r_3,hx3,h⟩:=bs h;refine ZAY (f:=fun a:FsR×Int×Unit=>ZBW a.1 a.2.1) (a:=(f,r_2,())) rfl func34 rfl rfl (.cons (a:=f) hy4 (.cons (a:=r_2) (Enc.self _) .nil)) hs (lM _ List.mem_cons_self) hx3<|ZBG (r:=(Rec.mk ((0:Int),(0:Int),(0:Int),(0:Int),([]:(List UInt8)),(str []),([]:(List Str)),([]:(List Int)),([]:(List ZAi)),()):ZAO)) zr47 zf47 hs fun m1 s hs=>ZAx (r:=r_3) sz47 rfl rfl zf47 (Enc.self r_3) hs fun xs1 s hxs1 hs=>ZAA<|ZAB<|ZAB<|ZAC<|ZAG (v:=enc (0:Int)) rfl<|ZAA<|ZAQ ?_
   obtain⟨l3,hl,h⟩:=bs h;refine ZAk (fun(p:((List Str)×Int)) φ s=>match p with | (l2,k)=>∃(x_l2:AV),is x_l2 l2∧Fx φ [(2,(.ptr m 0)),(5,x_l2),(6,(enc n)),(7,(enc i)),(8,(enc r_2)),(9,(.ptr m1 0)),(10,(enc k))]∧Hp s [(.cells m1 xs1),(.cells m xs),(.gl (NG mx))]) (fun(o:(List Str)) e φ s=>match o with | l3=>e= .exit 2∧∃(x_l3:AV),is x_l3 l3∧Fx φ [(2,(.ptr m 0)),(5,x_l3),(7,(enc i)),(8,(enc r_2))]∧Hp s [(.cells m xs),(.gl (NG mx))]) ?_ hl ⟨x_l,h_l,FxR rfl,hs⟩ ?_
   ·rintro⟨l2,k⟩ o h φ s ⟨x_l2,h_l2,hF,hs⟩;rw[←hF.eq];rw[ZDI] at h;refine ZAB<|ZAB<|ZAC<|ZAE rfl<|ZAV ZDt rfl<|ZAK ag44 (Ss (Ss (Ss (Ss (Ss (Ss (Ss Sz))))))) rfl hxs1 hs fun y5 hy5=>ZAo underlying44 rfl rfl hy5<|ZAJ (v:=enc (decide (k<(r_3.v.2.2.2.2.2.2.2.1.length:Int)))) rfl rfl rfl<|ZAE rfl ?_
    obtain⟨b2,hb_b2,h⟩:=bs h;refine ZAS 6 (fun φ s=>Hp s [(.cells m1 xs1),(.cells m xs),(.gl (NG mx))]∧Fx φ [(2,(.ptr m 0)),(5,x_l2),(6,(enc n)),(7,(enc i)),(8,(enc r_2)),(9,(.ptr m1 0)),(10,(enc k)),(51,(enc b2))]) ?_ ?_
    ·split at hb_b2
     ·rename_i cg4;refine ZAF rfl rfl cg4<|ZAE rfl<|ZAF rfl rfl cg4<|ZAV ZEZ rfl<|ZAF rfl rfl cg4<|ZAK ag43 (Ss (Ss (Ss (Ss (Ss (Ss Sz)))))) rfl hxs1 hs fun y6 hy6=>ZAF rfl rfl cg4<|ZAo underlying43 rfl rfl hy6<|ZAF rfl rfl cg4<|ZAJ (v:=enc (decide (k<(r_3.v.2.2.2.2.2.2.1.length:Int)))) rfl rfl rfl<|ZAa rfl cg4 rfl<|ZAA ?_
      rw[←oi hb_b2];exact⟨hs,FxR rfl⟩
     rename_i cg5;refine ZAD rfl rfl cg5<|ZAD rfl rfl cg5<|ZAD rfl rfl cg5<|ZAD rfl rfl cg5<|ZAD rfl rfl cg5<|ZAZ (v:=enc false) rfl cg5 rfl<|ZAA ?_
     rw[←oi hb_b2];exact⟨hs,FxR rfl⟩
    rintro φ s ⟨hs,hF⟩;rw[←hF.eq];refine ZAA ?_
    split at h
    ·rename_i c';refine ZAH rfl c'<|ZAL<|ZCd (fun φ s=>∃(l4:(List Str)) (x_l4:AV),is x_l4 l4∧Fx φ [(2,(.ptr m 0)),(5,x_l4),(6,(enc n)),(7,(enc i)),(8,(enc r_2)),(9,(.ptr m1 0)),(10,(enc k))]∧Hp s [(.cells m1 xs1),(.cells m xs),(.gl (NG mx))]∧ZFg k l4=some o) ?_ ?_
     ·refine ZAQ ?_
      refine ZAB<|ZAC<|ZAV ZDt rfl<|ZAK ag44 (Ss (Ss (Ss (Ss (Ss (Ss (Ss Sz))))))) rfl hxs1 hs fun y7 hy7=>ZAE rfl ?_
      obtain⟨v1,hx4,h⟩:=bs h;refine ZAu underlying44 sh3 rfl rfl hy7 hx4 fun p hp=>ZB8 rfl ag3 rfl hp fun y8 hy8=> ?_
      cases hy8;refine ZAE rfl<|ZAJ (v:=enc (v1==n)) rfl rfl rfl<|ZAA ?_
      split at h
      ·rename_i c';refine ZAH rfl c'<|ZAC<|ZAV ZEZ rfl<|ZAK ag43 (Ss (Ss (Ss (Ss (Ss (Ss Sz)))))) rfl hxs1 hs fun y9 hy9=>ZAE rfl ?_
       obtain⟨v2,hx5,h⟩:=bs h;refine ZAu underlying43 sh9 rfl rfl hy9 hx5 fun p1 hp1=>ZB8 rfl ag9 rfl hp1 fun y10 hy10=> ?_
       cases hy10;refine ZDv [(enc v2)] ([v2]:(List Str)) underlying43 ef9 rfl rfl rfl (Nat.le_of_ble_eq_true rfl) ⟨(rfl:is _ v2),trivial⟩ fun z hz hzc hzn=>ZAE (v:=x_l2) rfl ?_
       obtain⟨l5,hx6,h⟩:=bs h;refine ZKt [] (es2:=[(.cells m1 xs1),(.cells m xs),(.gl (NG mx))]) underlying43 underlying43 rfl rfl ef9 rfl rfl hz hzc (Hp.add hs hzn) h_l2 hx6 fun z1 s hz1 hz1c hs=>ZAG (v:=z1) rfl<|ZAA ?_
       exact⟨l5,z1,hz1,FxR rfl,(Hp.drop [] (b:=[(.cells m1 xs1),(.cells m xs),(.gl (NG mx))]) hs),h⟩
      rename_i c';refine ZAI rfl c'<|ZAL ?_
      exact⟨l2,x_l2,h_l2,FxR rfl,hs,h⟩
     rintro φ s ⟨l4,x_l4,h_l4,hF,hs,h⟩;rw[←hF.eq];unfold ZFg at h;refine ZAC<|ZAE rfl<|ZAJ (v:=enc (IntKind.i64.wrap (k+1))) rfl rfl rfl<|ZAG rfl<|ZAA ?_
     rw[←oi h];exact⟨_,rfl,⟨x_l4,h_l4,FxR rfl,hs⟩⟩
    rename_i c';refine ZAI rfl c'<|ZAf ?_
    rw[←oi h];exact⟨_,rfl,rfl,⟨x_l2,h_l2,FxR rfl,(Hp.drop [] (b:=[(.cells m xs),(.gl (NG mx))]) hs)⟩⟩
   intro e φ s hE;obtain⟨rfl,x_l3,h_l3,hF,hs⟩:=hE;rw[←hF.eq];rw[ZEO] at h;show if _ then _ else _
   rw[if_pos rfl];refine ZAC<|ZAE rfl<|ZAG rfl<|ZAA<|ZAC<|ZAE rfl<|ZAJ (v:=enc (IntKind.i64.wrap (i+1))) rfl rfl rfl<|ZAG rfl<|ZAA ?_
   rw[←oi h];exact⟨_,rfl,⟨x_l3,h_l3,FxR rfl,hs⟩⟩
  rename_i c';refine ZAI rfl c'<|ZAf ?_
  rw[←oi h];exact⟨_,rfl,rfl,⟨x_l,h_l,FxR rfl,(Hp.drop [] (b:=[(.gl (NG mx))]) hs)⟩⟩
 intro e φ s hE;rcases o with l1 | v
 ·obtain⟨rfl,x_l1,h_l1,hF,hs⟩:=hE;rw[←hF.eq];rw[ZFh] at h;show if _ then _ else _
  rw[if_pos rfl];refine ZAB<|ZAC<|ZAE (v:=x_l1) rfl ?_
  obtain⟨r_4,hx7,h⟩:=bs h;refine ZAY (f:=fun a:(List Str)×Unit=>ZD3 a.1) (a:=(l1,())) rfl func37 rfl rfl (.cons (a:=l1) h_l1 .nil) hs List.mem_cons_self hx7<|ZAG rfl<|ZAA<|ZAN ?_
  rw[←oi h];exact⟨rfl,KE1 (a:=r_4) rfl rfl (rfl:is _ r_4) (rfl:is _ r_4)⟩
 obtain⟨rfl,hF,hs⟩:=hE;rw[←hF.eq];rw[ZFh] at h;show if _ then _ else _
 rw[if_neg (by simp)]
 rw[←oi h];exact⟨rfl,KE1 (a:=v) rfl rfl (rfl:is _ v) (rfl:is _ v)⟩
theorem ZOF (mx:Int):ZAq Tryz.prog 17 (FnG (NG mx) (fun a:FsR×Int×Unit=>ZEh a.1 a.2.1)):=fnCG (ZPE mx) ⟨_,func17,rfl⟩<|fun a r h=>ZOE mx a.1 a.2.1 r h
noncomputable def ZVY (mx:Int):Prims:=(ZVX mx).addG 17 (FnG (NG mx) (fun a:FsR×Int×Unit=>ZEh a.1 a.2.1))
theorem ZPF (mx:Int):ZAX Tryz.prog (ZVY mx):=ZAR (ZPE mx) (ZOF mx)
end Go.Ai.Rab
