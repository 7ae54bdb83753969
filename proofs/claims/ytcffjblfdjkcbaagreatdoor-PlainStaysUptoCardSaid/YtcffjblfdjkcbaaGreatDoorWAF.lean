/- My own texts DevPgA, DevTg18, DevTg19, DevTg20, one behind the other. -/
import Derived.Test.YtcffjblfdjkcbaaGreatDoorWAE
set_option linter.unusedVariables false
set_option linter.unusedSimpArgs false
section
set_option maxRecDepth 100000
set_option maxHeartbeats 4000000
attribute [local irreducible] Go.Ai.TC Go.Ai.TO Go.Ai.MF Go.Ai.ZEO Go.Ai.ZCl Go.Ai.encR
open Go.Ai.Enc (enc is)
open Go.Ai.Res (res ris)
open Go.Ai.Args (args)
open Go.Ai.Flds (fe fi fk)
namespace Go.Ai
abbrev ZAd:Type:=(Rec (Str×(List UInt8)×Unit))
abbrev ZAD:Type:=(Rec (Int×Int×Int×Int×(List UInt8)×Str×(List Str)×(List Int)×(List ZAd)×Unit))
abbrev FsR:Type:=(Rec ((List ZAD)×Int×Unit))
abbrev RefR:Type:=(Rec (Str×Int×Int×Int×Unit))
abbrev ZCc:Type:=(Rec (Int×Int×Int×Int×Str×(List ZAd)×(List RefR)×Unit))
abbrev ZAc:Type:=(Rec (Bool×(List Str)×(List Int)×Unit))
end Go.Ai
namespace Go.Ai.TTryz
open Go.Proofs
theorem ef3:EF Tryz.prog 3 0 8:=ZNO (by kernel_rfl)
theorem ef5:EF Tryz.prog 5 0 1:=ZNO (by kernel_rfl)
theorem ef9:EF Tryz.prog 9 0 16:=ZNO (by kernel_rfl)
theorem ef38:EF Tryz.prog 38 9 144:=ZNO (by kernel_rfl)
theorem ef89:EF Tryz.prog 89 2 40:=ZNO (by kernel_rfl)
def zx24:List AV:=[.nils,enc (0:Int)]
theorem zr24:ZBU Tryz.prog 24=some (.agg zx24):=by kernel_rfl
theorem zf24:fi zx24 (Rec.mk (([]:(List ZAD)),(0:Int),()):FsR).v:=⟨_,_,rfl,isL.nil,⟨_,_,rfl,rfl,rfl⟩⟩
theorem bu24:buB Tryz.prog 24 2=true:=by kernel_rfl
def zx38:List AV:=[enc (0:Int),enc (0:Int),enc (0:Int),enc (0:Int), .nils,enc (str []), .nils, .nils, .nils]
theorem zr38:ZBU Tryz.prog 38=some (.agg zx38):=by kernel_rfl
theorem zf38:fi zx38 (Rec.mk ((0:Int),(0:Int),(0:Int),(0:Int),([]:(List UInt8)),(str []),([]:(List Str)),([]:(List Int)),([]:(List ZAd)),()):ZAD).v:=⟨_,_,rfl,rfl,⟨_,_,rfl,rfl,⟨_,_,rfl,rfl,⟨_,_,rfl,rfl,⟨_,_,rfl,isL.nil,⟨_,_,rfl,rfl,⟨_,_,rfl,isL.nil,⟨_,_,rfl,isL.nil,⟨_,_,rfl,isL.nil,rfl⟩⟩⟩⟩⟩⟩⟩⟩⟩
theorem bu38:buB Tryz.prog 38 9=true:=by kernel_rfl
def zx96:List AV:=[enc (0:Int),enc (0:Int),enc (0:Int),enc (0:Int),enc (str []), .nils, .nils]
theorem zr96:ZBU Tryz.prog 96=some (.agg zx96):=by kernel_rfl
theorem zf96:fi zx96 (Rec.mk ((0:Int),(0:Int),(0:Int),(0:Int),(str []),([]:(List ZAd)),([]:(List RefR)),()):ZCc).v:=⟨_,_,rfl,rfl,⟨_,_,rfl,rfl,⟨_,_,rfl,rfl,⟨_,_,rfl,rfl,⟨_,_,rfl,rfl,⟨_,_,rfl,isL.nil,⟨_,_,rfl,isL.nil,rfl⟩⟩⟩⟩⟩⟩⟩
theorem bu96:buB Tryz.prog 96 7=true:=by kernel_rfl
def zx99:List AV:=[enc false, .nils, .nils]
theorem zr99:ZBU Tryz.prog 99=some (.agg zx99):=by kernel_rfl
theorem zf99:fi zx99 (Rec.mk (false,([]:(List Str)),([]:(List Int)),()):ZAc).v:=⟨_,_,rfl,rfl,⟨_,_,rfl,isL.nil,⟨_,_,rfl,isL.nil,rfl⟩⟩⟩
theorem bu99:buB Tryz.prog 99 3=true:=by kernel_rfl
def ZSR:List AV:=[enc (str []),enc (0:Int),enc (0:Int),enc (0:Int)]
theorem ZSS:ZBU Tryz.prog 124=some (.agg ZSR):=by kernel_rfl
theorem ZQI:fi ZSR (Rec.mk ((str []),(0:Int),(0:Int),(0:Int),()):RefR).v:=⟨_,_,rfl,rfl,⟨_,_,rfl,rfl,⟨_,_,rfl,rfl,⟨_,_,rfl,rfl,rfl⟩⟩⟩⟩
theorem ZBA:flB Tryz.prog 24 0=true:=by kernel_rfl
theorem ZHW:flB Tryz.prog 24 1=true:=by kernel_rfl
theorem ZB6:flB Tryz.prog 38 0=true:=by kernel_rfl
theorem ZEu:flB Tryz.prog 38 1=true:=by kernel_rfl
theorem ZKr:flB Tryz.prog 38 2=true:=by kernel_rfl
theorem ZDz:flB Tryz.prog 38 3=true:=by kernel_rfl
theorem ZFw:flB Tryz.prog 38 4=true:=by kernel_rfl
theorem ZOd:flB Tryz.prog 38 5=true:=by kernel_rfl
theorem ZBp:flB Tryz.prog 38 6=true:=by kernel_rfl
theorem ZC4:flB Tryz.prog 38 7=true:=by kernel_rfl
theorem ZKs:flB Tryz.prog 38 8=true:=by kernel_rfl
theorem ZMi:flB Tryz.prog 89 0=true:=by kernel_rfl
theorem ZMj:flB Tryz.prog 89 1=true:=by kernel_rfl
theorem ZMk:flB Tryz.prog 96 0=true:=by kernel_rfl
theorem ZOe:flB Tryz.prog 96 1=true:=by kernel_rfl
theorem ZOf:flB Tryz.prog 96 2=true:=by kernel_rfl
theorem ZKt:flB Tryz.prog 96 3=true:=by kernel_rfl
theorem ZKu:flB Tryz.prog 96 4=true:=by kernel_rfl
theorem ZOg:flB Tryz.prog 96 5=true:=by kernel_rfl
theorem ZMl:flB Tryz.prog 96 6=true:=by kernel_rfl
theorem ZQp:flB Tryz.prog 99 0=true:=by kernel_rfl
theorem ZKv:flB Tryz.prog 99 1=true:=by kernel_rfl
theorem ZOh:flB Tryz.prog 99 2=true:=by kernel_rfl
theorem ZOi:flB Tryz.prog 124 0=true:=by kernel_rfl
theorem ZRg:flB Tryz.prog 124 1=true:=by kernel_rfl
theorem ZRh:flB Tryz.prog 124 2=true:=by kernel_rfl
theorem ZOj:flB Tryz.prog 124 3=true:=by kernel_rfl
end Go.Ai.TTryz
namespace Go.Ai.Rab
open Go.Proofs TTryz Tryz
noncomputable def ZD0 (f:FsR):(Int×Int)→Option ((Int×Int) ⊕ Int)
 | (n,i)=>((if(decide (i<(f.v.1.length:Int))) then some (decide (n≤50000)) else some false).bind fun b=>(if b then((nth f.v.1 i).bind fun v=>some (.inl ((IntKind.i64.wrap (n+(v.v.2.2.2.2.1.length:Int))),(IntKind.i64.wrap (i+1))))) else some (.inr n)))
noncomputable def ZHX:Int→Option (Bool)
 | n1=>some ((decide (n1≤50000)))
noncomputable def ZC5 (f:FsR):Option (Bool):=
 (if(decide ((f.v.1.length:Int) > 60)) then some (false) else((loop (ZD0 f) (0,0)).bind (ZHX)))
noncomputable def ZFC (a:(List ZAd)) (b:(List ZAd)):Int→Option (Int ⊕ (Unit ⊕ Bool))
 | i=>(if(decide (i<(a.length:Int))) then((nth a i).bind fun v1=>((nth b i).bind fun v2=>((if(!eqS v1.v.1 v2.v.1) then some true else((nth a i).bind fun v3=>((nth b i).bind fun v4=>some (!eqS (str v3.v.2.1) (str v4.v.2.1))))).bind fun b1=>(if b1 then some (.inr (.inr false)) else some (.inl (IntKind.i64.wrap (i+1))))))) else some (.inr (.inl ())))
noncomputable def ZFD:(Unit ⊕ Bool)→Option (Bool)
 | (.inl _)=>some (true)
 | (.inr v)=>some (v)
noncomputable def ZC6 (a:(List ZAd)) (b:(List ZAd)):Option (Bool):=
 (if((a.length:Int) !=(b.length:Int)) then some (false) else((loop (ZFC a b) 0).bind (ZFD)))
noncomputable def ZFE (a:ZAD) (b:ZAD):Int→Option (Int ⊕ (Unit ⊕ Bool))
 | i=>(if(decide (i<(a.v.2.2.2.2.2.2.1.length:Int))) then((nth a.v.2.2.2.2.2.2.1 i).bind fun v1=>((nth b.v.2.2.2.2.2.2.1 i).bind fun v2=>(if(!eqS v1 v2) then some (.inr (.inr false)) else some (.inl (IntKind.i64.wrap (i+1)))))) else some (.inr (.inl ())))
noncomputable def ZFF (a:ZAD) (b:ZAD):Int→Option (Int ⊕ (Unit ⊕ Bool))
 | i1=>(if(decide (i1<(a.v.2.2.2.2.2.2.2.1.length:Int))) then((nth a.v.2.2.2.2.2.2.2.1 i1).bind fun v4=>((nth b.v.2.2.2.2.2.2.2.1 i1).bind fun v5=>(if(v4 !=v5) then some (.inr (.inr false)) else some (.inl (IntKind.i64.wrap (i1+1)))))) else some (.inr (.inl ())))
noncomputable def ZFG:(Unit ⊕ Bool)→Option (Bool)
 | (.inl _)=>some (true)
 | (.inr v3)=>some (v3)
noncomputable def ZFH (a:ZAD) (b:ZAD):(Unit ⊕ Bool)→Option (Bool)
 | (.inl _)=>((loop (ZFF a b) 0).bind (ZFG))
 | (.inr v)=>some (v)
noncomputable def ZC7 (a:ZAD) (b:ZAD):Option (Bool):=
 ((if(a.v.1 !=b.v.1) then some true else some (a.v.2.1 !=b.v.2.1)).bind fun b1=>((if b1 then some true else some (a.v.2.2.1 !=b.v.2.2.1)).bind fun b2=>((if b2 then some true else some (a.v.2.2.2.1 !=b.v.2.2.2.1)).bind fun b3=>((if b3 then some true else some (!eqS (str a.v.2.2.2.2.1) (str b.v.2.2.2.2.1))).bind fun b4=>((if b4 then some true else some (!eqS a.v.2.2.2.2.2.1 b.v.2.2.2.2.2.1)).bind fun b5=>((if b5 then some true else some ((a.v.2.2.2.2.2.2.1.length:Int) !=(b.v.2.2.2.2.2.2.1.length:Int))).bind fun b6=>((if b6 then some true else some ((a.v.2.2.2.2.2.2.2.1.length:Int) !=(b.v.2.2.2.2.2.2.2.1.length:Int))).bind fun b7=>((if b7 then some true else((ZC6 a.v.2.2.2.2.2.2.2.2.1 b.v.2.2.2.2.2.2.2.2.1).bind fun r_=>some (!r_))).bind fun b8=>(if b8 then some (false) else((loop (ZFE a b) 0).bind (ZFH a b)))))))))))
noncomputable def ZGF (a:FsR) (b:FsR):Int→Option (Int ⊕ (Unit ⊕ Bool))
 | i=>(if(decide (i<(a.v.1.length:Int))) then((nth a.v.1 i).bind fun v1=>((nth b.v.1 i).bind fun v2=>((ZC7 v1 v2).bind fun r_=>(if(!r_) then some (.inr (.inr false)) else some (.inl (IntKind.i64.wrap (i+1))))))) else some (.inr (.inl ())))
noncomputable def ZGG:(Unit ⊕ Bool)→Option (Bool)
 | (.inl _)=>some (true)
 | (.inr v)=>some (v)
noncomputable def ZD1 (a:FsR) (b:FsR):Option (Bool):=
 ((if(a.v.2.1 !=b.v.2.1) then some true else some ((a.v.1.length:Int) !=(b.v.1.length:Int))).bind fun b1=>(if b1 then some (false) else((loop (ZGF a b) 0).bind (ZGG))))
theorem ZKw (f:FsR) (r:Bool) (h:ZC5 f=some r):MF Tryz.prog pz0 9 [enc f] s0 fun v _=>ris v r:=by
 refine ZAm [(0,enc f)] func9 rfl (by simp only[Tryz.f9];rfl) fun ψ=> ?_
 unfold ZC5 at h;refine ZAB<|ZAC<|ZBM (r:=f) rfl (Enc.self f) Hp.nil fun m xs s hxs hs=>ZAG (v:=enc false) rfl<|ZAA<|ZAB<|ZAB<|ZAC<|ZAP ZBA rfl<|ZAL ag22 Sz rfl hxs hs fun y hy=>ZAu underlying22 rfl rfl hy<|ZAM (v:=enc (decide ((f.v.1.length:Int) > 60))) rfl rfl rfl<|ZAA ?_
 split at h
 ·rename_i c';refine ZAH rfl c'<|ZAB<|ZAC<|ZAG (v:=enc false) rfl<|ZAA<|ZAN ?_
  rw[←oi h];exact⟨rfl,KE1 (a:=(false:Bool)) rfl rfl (rfl:is _ (false:Bool)) (rfl:is _ (false:Bool))⟩
 rename_i c';refine ZAI rfl c'<|ZAO<|ZAB<|ZAC<|ZAG (v:=enc (0:Int)) rfl<|ZAA<|ZAB<|ZAB<|ZAC<|ZAG (v:=enc (0:Int)) rfl<|ZAA<|ZAR ?_
 obtain⟨n1,hl,h⟩:=bs h;refine ZA6 (fun(p:(Int×Int)) φ s=>match p with | (n,i)=>Fx φ [(1,(.ptr m 0)),(3,(enc n)),(4,(enc i))]∧Hp s [(.cells m xs)]) (fun(o:Int) e φ s=>match o with | n1=>e= .exit 0∧Fx φ [(3,(enc n1))]) ?_ hl ⟨FxR rfl,hs⟩ ?_
 ·rintro⟨n,i⟩ o h φ s ⟨hF,hs⟩;rw[←hF.eq];rw[ZD0] at h;refine ZAB<|ZAB<|ZAC<|ZAE rfl<|ZAP ZBA rfl<|ZAL ag22 Sz rfl hxs hs fun y1 hy1=>ZAu underlying22 rfl rfl hy1<|ZAM (v:=enc (decide (i<(f.v.1.length:Int)))) rfl rfl rfl<|ZAE rfl ?_
  obtain⟨b,hb_b,h⟩:=bs h;refine ZAX 3 (fun φ s=>Hp s [(.cells m xs)]∧Fx φ [(1,(.ptr m 0)),(3,(enc n)),(4,(enc i)),(17,(enc b))]) ?_ ?_
  ·split at hb_b
   ·rename_i cg;refine ZAJ rfl rfl cg<|ZAE rfl<|ZAJ rfl rfl cg<|ZAM (v:=enc (decide (n≤50000))) rfl rfl rfl<|ZAl rfl cg rfl<|ZAA ?_
    rw[←oi hb_b];exact⟨hs,FxR rfl⟩
   rename_i cg1;refine ZAF rfl rfl cg1<|ZAF rfl rfl cg1<|ZAi (v:=enc false) rfl cg1 rfl<|ZAA ?_
   rw[←oi hb_b];exact⟨hs,FxR rfl⟩
  rintro φ s ⟨hs,hF⟩;rw[←hF.eq];refine ZAA ?_
  split at h
  ·rename_i c';refine ZAH rfl c'<|ZAO<|ZAB<|ZAR<|ZAC<|ZAE rfl<|ZAP ZBA rfl<|ZAL ag22 Sz rfl hxs hs fun y2 hy2=>ZAE rfl ?_
   obtain⟨v,hx,h⟩:=bs h;refine ZBG underlying22 sh38 rfl rfl hy2 hx fun p hp=>ZD9 ZFw (Ss (Ss (Ss (Ss Sz)))) rfl hp fun p1 hp1=>ZB5 ag33 rfl hp1 fun y3 hy3=>ZAu underlying33 rfl rfl hy3<|ZAM (v:=enc (IntKind.i64.wrap (n+(v.v.2.2.2.2.1.length:Int)))) rfl rfl rfl<|ZAG rfl<|ZAA<|ZAC<|ZAE rfl<|ZAM (v:=enc (IntKind.i64.wrap (i+1))) rfl rfl rfl<|ZAG rfl<|ZAA ?_
   rw[←oi h];exact⟨_,rfl,⟨FxR rfl,hs⟩⟩
  rename_i c';refine ZAI rfl c'<|ZA0 ?_
  rw[←oi h];exact⟨_,rfl,rfl,FxR rfl⟩
 intro e φ s hE;obtain⟨rfl,hF⟩:=hE;rw[←hF.eq];rw[ZHX] at h;show if _ then _ else _
 rw[if_pos rfl];refine ZAB<|ZAC<|ZAE rfl<|ZAM (v:=enc (decide (n1≤50000))) rfl rfl rfl<|ZAG rfl<|ZAA<|ZAN ?_
 rw[←oi h];exact⟨rfl,KE1 (a:=((decide (n1≤50000)):Bool)) rfl rfl (rfl:is _ ((decide (n1≤50000)):Bool)) (rfl:is _ ((decide (n1≤50000)):Bool))⟩
theorem ZKx:ZAv Tryz.prog 9 (fun _=>Fn (fun a:FsR×Unit=>ZC5 a.1)):=fnC ZQo ⟨_,func9,rfl⟩<|fun a r h=>ZKw a.1 r h
noncomputable def pz1:Prims:=pz0.add 9 (Fn (fun a:FsR×Unit=>ZC5 a.1))
theorem ZQq:ZAS Tryz.prog pz1:=ZAV ZQo ZKx
theorem ZKy (a:(List ZAd)) (b:(List ZAd)) (r:Bool) (h:ZC6 a b=some r):MF Tryz.prog pz1 59 [enc a,enc b] s0 fun v _=>ris v r:=by
 refine ZAm [(0,enc a),(1,enc b)] func59 rfl (by simp only[Tryz.f59];rfl) fun ψ=> ?_
 unfold ZC6 at h;refine ZAB<|ZAC<|ZAG (v:=enc false) rfl<|ZAA<|ZAB<|ZAB<|ZAC<|ZAE rfl<|ZAu underlying36 rfl rfl (Enc.self a)<|ZAE rfl<|ZAu underlying36 rfl rfl (Enc.self b)<|ZAM (v:=enc (((a.length:Int) !=(b.length:Int)):Bool)) rfl rfl rfl<|ZAA ?_
 split at h
 ·rename_i c';refine ZAH rfl c'<|ZAB<|ZAC<|ZAG (v:=enc false) rfl<|ZAA<|ZAN ?_
  rw[←oi h];exact⟨rfl,KE1 (a:=(false:Bool)) rfl rfl (rfl:is _ (false:Bool)) (rfl:is _ (false:Bool))⟩
 rename_i c';refine ZAI rfl c'<|ZAO<|ZAB<|ZAB<|ZAC<|ZAG (v:=enc (0:Int)) rfl<|ZAA<|ZAR ?_
 obtain⟨o,hl,h⟩:=bs h;refine ZA6 (fun(p:Int) φ s=>match p with | i=>Fx φ [(0,(enc (a:(List ZAd)))),(1,(enc (b:(List ZAd)))),(5,(enc i))]) (fun(o:(Unit ⊕ Bool)) e φ s=>match o with | (.inl _)=>e= .exit 0∧Fx φ [] | (.inr v)=>e= .ret∧Fx φ [(4,(enc v))]) ?_ hl (FxR rfl) ?_
 ·rintro i o h φ s hF;rw[←hF.eq];rw[ZFC] at h;refine ZAB<|ZAB<|ZAC<|ZAE rfl<|ZAE rfl<|ZAu underlying36 rfl rfl (Enc.self a)<|ZAM (v:=enc (decide (i<(a.length:Int)))) rfl rfl rfl<|ZAA ?_
  split at h
  ·rename_i c';refine ZAH rfl c'<|ZAO<|ZAB<|ZAR<|ZAB<|ZA1 (by decide+kernel) (by decide+kernel)<|ZAE rfl<|ZAE rfl ?_
   obtain⟨v1,hx,h⟩:=bs h;refine ZBG underlying36 sh89 rfl rfl (Enc.self a) hx fun p hp=>ZD9 ZMi Sz rfl hp fun p1 hp1=>ZB5 ag9 rfl hp1 fun y hy=> ?_
   cases hy;refine ZAE rfl<|ZAE rfl ?_
   obtain⟨v2,hx1,h⟩:=bs h;refine ZBG underlying36 sh89 rfl rfl (Enc.self b) hx1 fun p2 hp2=>ZD9 ZMi Sz rfl hp2 fun p3 hp3=>ZB5 ag9 rfl hp3 fun y1 hy1=> ?_
   cases hy1;refine ZAM (v:=enc (!eqS v1.v.1 v2.v.1)) rfl rfl rfl<|ZAE rfl ?_
   obtain⟨b1,hb_b1,h⟩:=bs h;refine ZAX 14 (fun φ s=>Fx φ [(0,(enc (a:(List ZAd)))),(1,(enc (b:(List ZAd)))),(5,(enc i)),(42,(enc b1))]) ?_ ?_
   ·split at hb_b1
    ·rename_i cg;refine ZAF rfl rfl (by simpa using cg)<|ZAF rfl rfl (by simpa using cg)<|ZAF rfl rfl (by simpa using cg)<|ZAF rfl rfl (by simpa using cg)<|ZAF rfl rfl (by simpa using cg)<|ZAF rfl rfl (by simpa using cg)<|ZAF rfl rfl (by simpa using cg)<|ZAF rfl rfl (by simpa using cg)<|ZAF rfl rfl (by simpa using cg)<|ZAF rfl rfl (by simpa using cg)<|ZAF rfl rfl (by simpa using cg)<|ZAF rfl rfl (by simpa using cg)<|ZAF rfl rfl (by simpa using cg)<|ZAl (v:=enc true) rfl cg rfl<|ZAA ?_
     rw[←oi hb_b1];exact(FxR rfl)
    rename_i cg1;refine ZAJ rfl rfl (by simpa using cg1)<|ZAE rfl<|ZAJ rfl rfl (by simpa using cg1)<|ZAE rfl<|ZAJ rfl rfl (by simpa using cg1) ?_
    obtain⟨v3,hx2,hb_b1⟩:=bs hb_b1;refine ZBG underlying36 sh89 rfl rfl (Enc.self a) hx2 fun p4 hp4=>ZAJ rfl rfl (by simpa using cg1)<|ZD9 ZMj (Ss Sz) rfl hp4 fun p5 hp5=>ZAJ rfl rfl (by simpa using cg1)<|ZB5 ag33 rfl hp5 fun y2 hy2=>ZAJ rfl rfl (by simpa using cg1)<|ZJh (sT:=str v3.v.2.1) underlying33 underlying5 underlying9 rfl hy2<|ZAJ rfl rfl (by simpa using cg1)<|ZAE rfl<|ZAJ rfl rfl (by simpa using cg1)<|ZAE rfl<|ZAJ rfl rfl (by simpa using cg1) ?_
    obtain⟨v4,hx3,hb_b1⟩:=bs hb_b1;refine ZBG underlying36 sh89 rfl rfl (Enc.self b) hx3 fun p6 hp6=>ZAJ rfl rfl (by simpa using cg1)<|ZD9 ZMj (Ss Sz) rfl hp6 fun p7 hp7=>ZAJ rfl rfl (by simpa using cg1)<|ZB5 ag33 rfl hp7 fun y3 hy3=>ZAJ rfl rfl (by simpa using cg1)<|ZJh (sT:=str v4.v.2.1) underlying33 underlying5 underlying9 rfl hy3<|ZAJ rfl rfl (by simpa using cg1)<|ZAM (v:=enc (!eqS (str v3.v.2.1) (str v4.v.2.1))) rfl rfl rfl<|ZAi rfl cg1 rfl<|ZAA ?_
    rw[←oi hb_b1];exact(FxR rfl)
   rintro φ s hF;rw[←hF.eq];refine ZAA ?_
   split at h
   ·rename_i c';refine ZAH rfl c'<|ZAB<|ZAC<|ZAG (v:=enc false) rfl<|ZAA<|ZAN ?_
    show if _ then _ else _
    rw[if_neg (by simp)]
    rw[←oi h];exact⟨_,rfl,rfl,FxR rfl⟩
   rename_i c';refine ZAI rfl c'<|ZAO<|ZAC<|ZAE rfl<|ZAM (v:=enc (IntKind.i64.wrap (i+1))) rfl rfl rfl<|ZAG rfl<|ZAA ?_
   rw[←oi h];exact⟨_,rfl,FxR rfl⟩
  rename_i c';refine ZAI rfl c'<|ZA0 ?_
  rw[←oi h];exact⟨_,rfl,rfl,trivial⟩
 intro e φ s hE;rcases o with _u | v
 ·obtain⟨rfl,hF⟩:=hE;rw[←hF.eq];rw[ZFD] at h;show if _ then _ else _
  rw[if_pos rfl];refine ZAB<|ZAC<|ZAG (v:=enc true) rfl<|ZAA<|ZAN ?_
  rw[←oi h];exact⟨rfl,KE1 (a:=(true:Bool)) rfl rfl (rfl:is _ (true:Bool)) (rfl:is _ (true:Bool))⟩
 obtain⟨rfl,hF⟩:=hE;rw[←hF.eq];rw[ZFD] at h;show if _ then _ else _
 rw[if_neg (by simp)]
 rw[←oi h];exact⟨rfl,KE1 (a:=v) rfl rfl (rfl:is _ v) (rfl:is _ v)⟩
theorem ZKz:ZAv Tryz.prog 59 (fun _=>Fn (fun a:(List ZAd)×(List ZAd)×Unit=>ZC6 a.1 a.2.1)):=fnC ZQq ⟨_,func59,rfl⟩<|fun a r h=>ZKy a.1 a.2.1 r h
noncomputable def pz2:Prims:=pz1.add 59 (Fn (fun a:(List ZAd)×(List ZAd)×Unit=>ZC6 a.1 a.2.1))
theorem ZQr:ZAS Tryz.prog pz2:=ZAV ZQq ZKz
theorem ZK0 (a:ZAD) (b:ZAD) (r:Bool) (h:ZC7 a b=some r):MF Tryz.prog pz2 29 [enc a,enc b] s0 fun v _=>ris v r:=by
 refine ZAm [(0,enc a),(1,enc b)] func29 rfl (by simp only[Tryz.f29];rfl) fun ψ=> ?_
 unfold ZC7 at h;refine ZAB<|ZAC<|ZBM (r:=a) rfl (Enc.self a) Hp.nil fun m xs s hxs hs=>ZBM (r:=b) rfl (Enc.self b) hs fun m1 xs1 s hxs1 hs=>ZAG (v:=enc false) rfl<|ZAA<|ZAB<|ZAB<|ZAC<|ZAP ZB6 rfl ?_
 replace hs:=Hp.front [(.cells m1 xs1)] (b:=[]) hs;refine ZAL ag3 Sz rfl hxs hs fun y hy=> ?_
 cases hy;refine ZAP ZB6 rfl ?_
 replace hs:=Hp.front [(.cells m xs)] (b:=[]) hs;refine ZAL ag3 Sz rfl hxs1 hs fun y1 hy1=> ?_
 cases hy1;refine ZAM (v:=enc (a.v.1 !=b.v.1)) rfl rfl rfl<|ZAE rfl ?_
 obtain⟨b1,hb_b1,h⟩:=bs h;refine ZAX 6 (fun φ s=>Hp s [(.cells m1 xs1),(.cells m xs)]∧Fx φ [(2,(.ptr m 0)),(3,(.ptr m1 0)),(18,(enc b1))]) ?_ ?_
 ·split at hb_b1
  ·rename_i cg;refine ZAF rfl rfl (by simpa using cg)<|ZAF rfl rfl (by simpa using cg)<|ZAF rfl rfl (by simpa using cg)<|ZAF rfl rfl (by simpa using cg)<|ZAF rfl rfl (by simpa using cg)<|ZAl (v:=enc true) rfl cg rfl<|ZAA ?_
   rw[←oi hb_b1];exact⟨hs,FxR rfl⟩
  rename_i cg1;refine ZAJ rfl rfl (by simpa using cg1)<|ZAP ZEu rfl<|ZAJ rfl rfl (by simpa using cg1) ?_
  replace hs:=Hp.front [(.cells m1 xs1)] (b:=[]) hs;refine ZAL ag25 (Ss Sz) rfl hxs hs fun y2 hy2=> ?_
  cases hy2;refine ZAJ rfl rfl (by simpa using cg1)<|ZAP ZEu rfl<|ZAJ rfl rfl (by simpa using cg1) ?_
  replace hs:=Hp.front [(.cells m xs)] (b:=[]) hs;refine ZAL ag25 (Ss Sz) rfl hxs1 hs fun y3 hy3=> ?_
  cases hy3;refine ZAJ rfl rfl (by simpa using cg1)<|ZAM (v:=enc (a.v.2.1 !=b.v.2.1)) rfl rfl rfl<|ZAi rfl cg1 rfl<|ZAA ?_
  rw[←oi hb_b1];exact⟨hs,FxR rfl⟩
 rintro φ s ⟨hs,hF⟩;rw[←hF.eq];refine ZAE rfl ?_
 obtain⟨b2,hb_b2,h⟩:=bs h;refine ZAX 6 (fun φ s=>Hp s [(.cells m1 xs1),(.cells m xs)]∧Fx φ [(2,(.ptr m 0)),(3,(.ptr m1 0)),(25,(enc b2))]) ?_ ?_
 ·split at hb_b2
  ·rename_i cg2;refine ZAF rfl rfl (by simpa using cg2)<|ZAF rfl rfl (by simpa using cg2)<|ZAF rfl rfl (by simpa using cg2)<|ZAF rfl rfl (by simpa using cg2)<|ZAF rfl rfl (by simpa using cg2)<|ZAl (v:=enc true) rfl cg2 rfl<|ZAA ?_
   rw[←oi hb_b2];exact⟨hs,FxR rfl⟩
  rename_i cg3;refine ZAJ rfl rfl (by simpa using cg3)<|ZAP ZKr rfl<|ZAJ rfl rfl (by simpa using cg3) ?_
  replace hs:=Hp.front [(.cells m1 xs1)] (b:=[]) hs;refine ZAL ag3 (Ss (Ss Sz)) rfl hxs hs fun y4 hy4=> ?_
  cases hy4;refine ZAJ rfl rfl (by simpa using cg3)<|ZAP ZKr rfl<|ZAJ rfl rfl (by simpa using cg3) ?_
  replace hs:=Hp.front [(.cells m xs)] (b:=[]) hs;refine ZAL ag3 (Ss (Ss Sz)) rfl hxs1 hs fun y5 hy5=> ?_
  cases hy5;refine ZAJ rfl rfl (by simpa using cg3)<|ZAM (v:=enc (a.v.2.2.1 !=b.v.2.2.1)) rfl rfl rfl<|ZAi rfl cg3 rfl<|ZAA ?_
  rw[←oi hb_b2];exact⟨hs,FxR rfl⟩
 rintro φ s ⟨hs,hF⟩;rw[←hF.eq];refine ZAE rfl ?_
 obtain⟨b3,hb_b3,h⟩:=bs h;refine ZAX 6 (fun φ s=>Hp s [(.cells m1 xs1),(.cells m xs)]∧Fx φ [(2,(.ptr m 0)),(3,(.ptr m1 0)),(32,(enc b3))]) ?_ ?_
 ·split at hb_b3
  ·rename_i cg4;refine ZAF rfl rfl (by simpa using cg4)<|ZAF rfl rfl (by simpa using cg4)<|ZAF rfl rfl (by simpa using cg4)<|ZAF rfl rfl (by simpa using cg4)<|ZAF rfl rfl (by simpa using cg4)<|ZAl (v:=enc true) rfl cg4 rfl<|ZAA ?_
   rw[←oi hb_b3];exact⟨hs,FxR rfl⟩
  rename_i cg5;refine ZAJ rfl rfl (by simpa using cg5)<|ZAP ZDz rfl<|ZAJ rfl rfl (by simpa using cg5) ?_
  replace hs:=Hp.front [(.cells m1 xs1)] (b:=[]) hs;refine ZAL ag3 (Ss (Ss (Ss Sz))) rfl hxs hs fun y6 hy6=> ?_
  cases hy6;refine ZAJ rfl rfl (by simpa using cg5)<|ZAP ZDz rfl<|ZAJ rfl rfl (by simpa using cg5) ?_
  replace hs:=Hp.front [(.cells m xs)] (b:=[]) hs;refine ZAL ag3 (Ss (Ss (Ss Sz))) rfl hxs1 hs fun y7 hy7=> ?_
  cases hy7;refine ZAJ rfl rfl (by simpa using cg5)<|ZAM (v:=enc (a.v.2.2.2.1 !=b.v.2.2.2.1)) rfl rfl rfl<|ZAi rfl cg5 rfl<|ZAA ?_
  rw[←oi hb_b3];exact⟨hs,FxR rfl⟩
 rintro φ s ⟨hs,hF⟩;rw[←hF.eq];refine ZAE rfl ?_
 obtain⟨b4,hb_b4,h⟩:=bs h;refine ZAX 8 (fun φ s=>Hp s [(.cells m1 xs1),(.cells m xs)]∧Fx φ [(2,(.ptr m 0)),(3,(.ptr m1 0)),(41,(enc b4))]) ?_ ?_
 ·split at hb_b4
  ·rename_i cg6;refine ZAF rfl rfl (by simpa using cg6)<|ZAF rfl rfl (by simpa using cg6)<|ZAF rfl rfl (by simpa using cg6)<|ZAF rfl rfl (by simpa using cg6)<|ZAF rfl rfl (by simpa using cg6)<|ZAF rfl rfl (by simpa using cg6)<|ZAF rfl rfl (by simpa using cg6)<|ZAl (v:=enc true) rfl cg6 rfl<|ZAA ?_
   rw[←oi hb_b4];exact⟨hs,FxR rfl⟩
  rename_i cg7;refine ZAJ rfl rfl (by simpa using cg7)<|ZAP ZFw rfl<|ZAJ rfl rfl (by simpa using cg7) ?_
  replace hs:=Hp.front [(.cells m1 xs1)] (b:=[]) hs;refine ZAL ag33 (Ss (Ss (Ss (Ss Sz)))) rfl hxs hs fun y8 hy8=>ZAJ rfl rfl (by simpa using cg7)<|ZJh (sT:=str a.v.2.2.2.2.1) underlying33 underlying5 underlying9 rfl hy8<|ZAJ rfl rfl (by simpa using cg7)<|ZAP ZFw rfl<|ZAJ rfl rfl (by simpa using cg7) ?_
  replace hs:=Hp.front [(.cells m xs)] (b:=[]) hs;refine ZAL ag33 (Ss (Ss (Ss (Ss Sz)))) rfl hxs1 hs fun y9 hy9=>ZAJ rfl rfl (by simpa using cg7)<|ZJh (sT:=str b.v.2.2.2.2.1) underlying33 underlying5 underlying9 rfl hy9<|ZAJ rfl rfl (by simpa using cg7)<|ZAM (v:=enc (!eqS (str a.v.2.2.2.2.1) (str b.v.2.2.2.2.1))) rfl rfl rfl<|ZAi rfl cg7 rfl<|ZAA ?_
  rw[←oi hb_b4];exact⟨hs,FxR rfl⟩
 rintro φ s ⟨hs,hF⟩;rw[←hF.eq];refine ZAE rfl ?_
 obtain⟨b5,hb_b5,h⟩:=bs h;refine ZAX 6 (fun φ s=>Hp s [(.cells m1 xs1),(.cells m xs)]∧Fx φ [(2,(.ptr m 0)),(3,(.ptr m1 0)),(48,(enc b5))]) ?_ ?_
 ·split at hb_b5
  ·rename_i cg8;refine ZAF rfl rfl (by simpa using cg8)<|ZAF rfl rfl (by simpa using cg8)<|ZAF rfl rfl (by simpa using cg8)<|ZAF rfl rfl (by simpa using cg8)<|ZAF rfl rfl (by simpa using cg8)<|ZAl (v:=enc true) rfl cg8 rfl<|ZAA ?_
   rw[←oi hb_b5];exact⟨hs,FxR rfl⟩
  rename_i cg9;refine ZAJ rfl rfl (by simpa using cg9)<|ZAP ZOd rfl<|ZAJ rfl rfl (by simpa using cg9) ?_
  replace hs:=Hp.front [(.cells m1 xs1)] (b:=[]) hs;refine ZAL ag9 (Ss (Ss (Ss (Ss (Ss Sz))))) rfl hxs hs fun y10 hy10=> ?_
  cases hy10;refine ZAJ rfl rfl (by simpa using cg9)<|ZAP ZOd rfl<|ZAJ rfl rfl (by simpa using cg9) ?_
  replace hs:=Hp.front [(.cells m xs)] (b:=[]) hs;refine ZAL ag9 (Ss (Ss (Ss (Ss (Ss Sz))))) rfl hxs1 hs fun y11 hy11=> ?_
  cases hy11;refine ZAJ rfl rfl (by simpa using cg9)<|ZAM (v:=enc (!eqS a.v.2.2.2.2.2.1 b.v.2.2.2.2.2.1)) rfl rfl rfl<|ZAi rfl cg9 rfl<|ZAA ?_
  rw[←oi hb_b5];exact⟨hs,FxR rfl⟩
 rintro φ s ⟨hs,hF⟩;rw[←hF.eq];refine ZAE rfl ?_
 obtain⟨b6,hb_b6,h⟩:=bs h;refine ZAX 8 (fun φ s=>Hp s [(.cells m1 xs1),(.cells m xs)]∧Fx φ [(2,(.ptr m 0)),(3,(.ptr m1 0)),(57,(enc b6))]) ?_ ?_
 ·split at hb_b6
  ·rename_i cg10;refine ZAF rfl rfl (by simpa using cg10)<|ZAF rfl rfl (by simpa using cg10)<|ZAF rfl rfl (by simpa using cg10)<|ZAF rfl rfl (by simpa using cg10)<|ZAF rfl rfl (by simpa using cg10)<|ZAF rfl rfl (by simpa using cg10)<|ZAF rfl rfl (by simpa using cg10)<|ZAl (v:=enc true) rfl cg10 rfl<|ZAA ?_
   rw[←oi hb_b6];exact⟨hs,FxR rfl⟩
  rename_i cg11;refine ZAJ rfl rfl (by simpa using cg11)<|ZAP ZBp rfl<|ZAJ rfl rfl (by simpa using cg11) ?_
  replace hs:=Hp.front [(.cells m1 xs1)] (b:=[]) hs;refine ZAL ag34 (Ss (Ss (Ss (Ss (Ss (Ss Sz)))))) rfl hxs hs fun y12 hy12=>ZAJ rfl rfl (by simpa using cg11)<|ZAu underlying34 rfl rfl hy12<|ZAJ rfl rfl (by simpa using cg11)<|ZAP ZBp rfl<|ZAJ rfl rfl (by simpa using cg11) ?_
  replace hs:=Hp.front [(.cells m xs)] (b:=[]) hs;refine ZAL ag34 (Ss (Ss (Ss (Ss (Ss (Ss Sz)))))) rfl hxs1 hs fun y13 hy13=>ZAJ rfl rfl (by simpa using cg11)<|ZAu underlying34 rfl rfl hy13<|ZAJ rfl rfl (by simpa using cg11)<|ZAM (v:=enc (((a.v.2.2.2.2.2.2.1.length:Int) !=(b.v.2.2.2.2.2.2.1.length:Int)):Bool)) rfl rfl rfl<|ZAi rfl cg11 rfl<|ZAA ?_
  rw[←oi hb_b6];exact⟨hs,FxR rfl⟩
 rintro φ s ⟨hs,hF⟩;rw[←hF.eq];refine ZAE rfl ?_
 obtain⟨b7,hb_b7,h⟩:=bs h;refine ZAX 8 (fun φ s=>Hp s [(.cells m1 xs1),(.cells m xs)]∧Fx φ [(2,(.ptr m 0)),(3,(.ptr m1 0)),(66,(enc b7))]) ?_ ?_
 ·split at hb_b7
  ·rename_i cg12;refine ZAF rfl rfl (by simpa using cg12)<|ZAF rfl rfl (by simpa using cg12)<|ZAF rfl rfl (by simpa using cg12)<|ZAF rfl rfl (by simpa using cg12)<|ZAF rfl rfl (by simpa using cg12)<|ZAF rfl rfl (by simpa using cg12)<|ZAF rfl rfl (by simpa using cg12)<|ZAl (v:=enc true) rfl cg12 rfl<|ZAA ?_
   rw[←oi hb_b7];exact⟨hs,FxR rfl⟩
  rename_i cg13;refine ZAJ rfl rfl (by simpa using cg13)<|ZAP ZC4 rfl<|ZAJ rfl rfl (by simpa using cg13) ?_
  replace hs:=Hp.front [(.cells m1 xs1)] (b:=[]) hs;refine ZAL ag35 (Ss (Ss (Ss (Ss (Ss (Ss (Ss Sz))))))) rfl hxs hs fun y14 hy14=>ZAJ rfl rfl (by simpa using cg13)<|ZAu underlying35 rfl rfl hy14<|ZAJ rfl rfl (by simpa using cg13)<|ZAP ZC4 rfl<|ZAJ rfl rfl (by simpa using cg13) ?_
  replace hs:=Hp.front [(.cells m xs)] (b:=[]) hs;refine ZAL ag35 (Ss (Ss (Ss (Ss (Ss (Ss (Ss Sz))))))) rfl hxs1 hs fun y15 hy15=>ZAJ rfl rfl (by simpa using cg13)<|ZAu underlying35 rfl rfl hy15<|ZAJ rfl rfl (by simpa using cg13)<|ZAM (v:=enc (((a.v.2.2.2.2.2.2.2.1.length:Int) !=(b.v.2.2.2.2.2.2.2.1.length:Int)):Bool)) rfl rfl rfl<|ZAi rfl cg13 rfl<|ZAA ?_
  rw[←oi hb_b7];exact⟨hs,FxR rfl⟩
 rintro φ s ⟨hs,hF⟩;rw[←hF.eq];refine ZAE rfl ?_
 obtain⟨b8,hb_b8,h⟩:=bs h;refine ZAX 7 (fun φ s=>Hp s [(.cells m1 xs1),(.cells m xs)]∧Fx φ [(2,(.ptr m 0)),(3,(.ptr m1 0)),(74,(enc b8))]) ?_ ?_
 ·split at hb_b8
  ·rename_i cg14;refine ZAF rfl rfl (by simpa using cg14)<|ZAF rfl rfl (by simpa using cg14)<|ZAF rfl rfl (by simpa using cg14)<|ZAF rfl rfl (by simpa using cg14)<|ZAF rfl rfl (by simpa using cg14)<|ZAF rfl rfl (by simpa using cg14)<|ZAl (v:=enc true) rfl cg14 rfl<|ZAA ?_
   rw[←oi hb_b8];exact⟨hs,FxR rfl⟩
  rename_i cg15;refine ZAJ rfl rfl (by simpa using cg15)<|ZAP ZKs rfl<|ZAJ rfl rfl (by simpa using cg15) ?_
  replace hs:=Hp.front [(.cells m1 xs1)] (b:=[]) hs;refine ZAL ag36 (Ss (Ss (Ss (Ss (Ss (Ss (Ss (Ss Sz)))))))) rfl hxs hs fun y16 hy16=>ZAJ rfl rfl (by simpa using cg15)<|ZAP ZKs rfl<|ZAJ rfl rfl (by simpa using cg15) ?_
  replace hs:=Hp.front [(.cells m xs)] (b:=[]) hs;refine ZAL ag36 (Ss (Ss (Ss (Ss (Ss (Ss (Ss (Ss Sz)))))))) rfl hxs1 hs fun y17 hy17=>ZAJ rfl rfl (by simpa using cg15) ?_
  obtain⟨r_,hx,hb_b8⟩:=bs hb_b8;refine ZBJ (f:=fun a:(List ZAd)×(List ZAd)×Unit=>ZC6 a.1 a.2.1) (a:=(a.v.2.2.2.2.2.2.2.2.1,b.v.2.2.2.2.2.2.2.2.1,())) rfl func59 rfl rfl (.cons (a:=a.v.2.2.2.2.2.2.2.2.1) hy16 (.cons (a:=b.v.2.2.2.2.2.2.2.2.1) hy17 .nil)) hx<|ZAJ rfl rfl (by simpa using cg15)<|ZCk (v:=enc (!r_)) rfl rfl<|ZAi rfl cg15 rfl<|ZAA ?_
  rw[←oi hb_b8];exact⟨hs,FxR rfl⟩
 rintro φ s ⟨hs,hF⟩;rw[←hF.eq];refine ZAA ?_
 split at h
 ·rename_i c';refine ZAH rfl c'<|ZAB<|ZAC<|ZAG (v:=enc false) rfl<|ZAA<|ZAN ?_
  rw[←oi h];exact⟨rfl,KE1 (a:=(false:Bool)) rfl rfl (rfl:is _ (false:Bool)) (rfl:is _ (false:Bool))⟩
 rename_i c';refine ZAI rfl c'<|ZAO<|ZAB<|ZAB<|ZAC<|ZAG (v:=enc (0:Int)) rfl<|ZAA<|ZAR ?_
 obtain⟨o,hl,h⟩:=bs h;refine ZA6 (fun(p:Int) φ s=>match p with | i=>Fx φ [(2,(.ptr m 0)),(3,(.ptr m1 0)),(5,(enc i))]∧Hp s [(.cells m1 xs1),(.cells m xs)]) (fun(o:(Unit ⊕ Bool)) e φ s=>match o with | (.inl _)=>e= .exit 0∧Fx φ [(2,(.ptr m 0)),(3,(.ptr m1 0))]∧Hp s [(.cells m1 xs1),(.cells m xs)] | (.inr v)=>e= .ret∧Fx φ [(4,(enc v))]) ?_ hl ⟨FxR rfl,hs⟩ ?_
 ·rintro i o h φ s ⟨hF,hs⟩;rw[←hF.eq];rw[ZFE] at h;refine ZAB<|ZAB<|ZAC<|ZAE rfl<|ZAP ZBp rfl ?_
  replace hs:=Hp.front [(.cells m1 xs1)] (b:=[]) hs;refine ZAL ag34 (Ss (Ss (Ss (Ss (Ss (Ss Sz)))))) rfl hxs hs fun y18 hy18=>ZAu underlying34 rfl rfl hy18<|ZAM (v:=enc (decide (i<(a.v.2.2.2.2.2.2.1.length:Int)))) rfl rfl rfl<|ZAA ?_
  split at h
  ·rename_i c';refine ZAH rfl c'<|ZAO<|ZAB<|ZAR<|ZAB<|ZA1 (by decide+kernel) (by decide+kernel)<|ZAP ZBp rfl<|ZAL ag34 (Ss (Ss (Ss (Ss (Ss (Ss Sz)))))) rfl hxs hs fun y19 hy19=>ZAE rfl ?_
   obtain⟨v1,hx1,h⟩:=bs h;refine ZBG underlying34 sh9 rfl rfl hy19 hx1 fun p hp=>ZEz rfl ag9 rfl hp fun y20 hy20=> ?_
   cases hy20;refine ZAP ZBp rfl ?_
   replace hs:=Hp.front [(.cells m xs)] (b:=[]) hs;refine ZAL ag34 (Ss (Ss (Ss (Ss (Ss (Ss Sz)))))) rfl hxs1 hs fun y21 hy21=>ZAE rfl ?_
   obtain⟨v2,hx2,h⟩:=bs h;refine ZBG underlying34 sh9 rfl rfl hy21 hx2 fun p1 hp1=>ZEz rfl ag9 rfl hp1 fun y22 hy22=> ?_
   cases hy22;refine ZAM (v:=enc (!eqS v1 v2)) rfl rfl rfl<|ZAA ?_
   split at h
   ·rename_i c';refine ZAH rfl c'<|ZAB<|ZAC<|ZAG (v:=enc false) rfl<|ZAA<|ZAN ?_
    show if _ then _ else _
    rw[if_neg (by simp)]
    rw[←oi h];exact⟨_,rfl,rfl,FxR rfl⟩
   rename_i c';refine ZAI rfl c'<|ZAO<|ZAC<|ZAE rfl<|ZAM (v:=enc (IntKind.i64.wrap (i+1))) rfl rfl rfl<|ZAG rfl<|ZAA ?_
   rw[←oi h];exact⟨_,rfl,⟨FxR rfl,hs⟩⟩
  rename_i c';refine ZAI rfl c'<|ZA0 ?_
  rw[←oi h];exact⟨_,rfl,rfl,⟨FxR rfl,(Hp.front [(.cells m xs)] (b:=[]) (Hp.front [] (b:=[(.cells m1 xs1)]) hs))⟩⟩
 intro e φ s hE;rcases o with _u | v
 ·obtain⟨rfl,hF,hs⟩:=hE;rw[←hF.eq];rw[ZFH] at h;show if _ then _ else _
  rw[if_pos rfl];refine ZAB<|ZAB<|ZAC<|ZAG (v:=enc (0:Int)) rfl<|ZAA<|ZAR ?_
  obtain⟨o,hl,h⟩:=bs h;refine ZA6 (fun(p:Int) φ s=>match p with | i1=>Fx φ [(2,(.ptr m 0)),(3,(.ptr m1 0)),(6,(enc i1))]∧Hp s [(.cells m1 xs1),(.cells m xs)]) (fun(o:(Unit ⊕ Bool)) e φ s=>match o with | (.inl _)=>e= .exit 2∧Fx φ [] | (.inr v3)=>e= .ret∧Fx φ [(4,(enc v3))]) ?_ hl ⟨FxR rfl,hs⟩ ?_
  ·rintro i1 o h φ s ⟨hF,hs⟩;rw[←hF.eq];rw[ZFF] at h;refine ZAB<|ZAB<|ZAC<|ZAE rfl<|ZAP ZC4 rfl ?_
   replace hs:=Hp.front [(.cells m1 xs1)] (b:=[]) hs;refine ZAL ag35 (Ss (Ss (Ss (Ss (Ss (Ss (Ss Sz))))))) rfl hxs hs fun y23 hy23=>ZAu underlying35 rfl rfl hy23<|ZAM (v:=enc (decide (i1<(a.v.2.2.2.2.2.2.2.1.length:Int)))) rfl rfl rfl<|ZAA ?_
   split at h
   ·rename_i c';refine ZAH rfl c'<|ZAO<|ZAB<|ZAR<|ZAB<|ZA1 (by decide+kernel) (by decide+kernel)<|ZAP ZC4 rfl<|ZAL ag35 (Ss (Ss (Ss (Ss (Ss (Ss (Ss Sz))))))) rfl hxs hs fun y24 hy24=>ZAE rfl ?_
    obtain⟨v4,hx3,h⟩:=bs h;refine ZBG underlying35 sh3 rfl rfl hy24 hx3 fun p2 hp2=>ZEz rfl ag3 rfl hp2 fun y25 hy25=> ?_
    cases hy25;refine ZAP ZC4 rfl ?_
    replace hs:=Hp.front [(.cells m xs)] (b:=[]) hs;refine ZAL ag35 (Ss (Ss (Ss (Ss (Ss (Ss (Ss Sz))))))) rfl hxs1 hs fun y26 hy26=>ZAE rfl ?_
    obtain⟨v5,hx4,h⟩:=bs h;refine ZBG underlying35 sh3 rfl rfl hy26 hx4 fun p3 hp3=>ZEz rfl ag3 rfl hp3 fun y27 hy27=> ?_
    cases hy27;refine ZAM (v:=enc (v4 !=v5)) rfl rfl rfl<|ZAA ?_
    split at h
    ·rename_i c';refine ZAH rfl c'<|ZAB<|ZAC<|ZAG (v:=enc false) rfl<|ZAA<|ZAN ?_
     show if _ then _ else _
     rw[if_neg (by simp)]
     rw[←oi h];exact⟨_,rfl,rfl,FxR rfl⟩
    rename_i c';refine ZAI rfl c'<|ZAO<|ZAC<|ZAE rfl<|ZAM (v:=enc (IntKind.i64.wrap (i1+1))) rfl rfl rfl<|ZAG rfl<|ZAA ?_
    rw[←oi h];exact⟨_,rfl,⟨FxR rfl,hs⟩⟩
   rename_i c';refine ZAI rfl c'<|ZA0 ?_
   rw[←oi h];exact⟨_,rfl,rfl,trivial⟩
  intro e φ s hE;rcases o with _u | v3
  ·obtain⟨rfl,hF⟩:=hE;rw[←hF.eq];rw[ZFG] at h;show if _ then _ else _
   rw[if_pos rfl];refine ZAB<|ZAC<|ZAG (v:=enc true) rfl<|ZAA<|ZAN ?_
   rw[←oi h];exact⟨rfl,KE1 (a:=(true:Bool)) rfl rfl (rfl:is _ (true:Bool)) (rfl:is _ (true:Bool))⟩
  obtain⟨rfl,hF⟩:=hE;rw[←hF.eq];rw[ZFG] at h;show if _ then _ else _
  rw[if_neg (by simp)]
  rw[←oi h];exact⟨rfl,KE1 (a:=v3) rfl rfl (rfl:is _ v3) (rfl:is _ v3)⟩
 obtain⟨rfl,hF⟩:=hE;rw[←hF.eq];rw[ZFH] at h;show if _ then _ else _
 rw[if_neg (by simp)]
 rw[←oi h];exact⟨rfl,KE1 (a:=v) rfl rfl (rfl:is _ v) (rfl:is _ v)⟩
theorem ZK1:ZAv Tryz.prog 29 (fun _=>Fn (fun a:ZAD×ZAD×Unit=>ZC7 a.1 a.2.1)):=fnC ZQr ⟨_,func29,rfl⟩<|fun a r h=>ZK0 a.1 a.2.1 r h
noncomputable def pz3:Prims:=pz2.add 29 (Fn (fun a:ZAD×ZAD×Unit=>ZC7 a.1 a.2.1))
theorem ZQs:ZAS Tryz.prog pz3:=ZAV ZQr ZK1
theorem ZL2 (a:FsR) (b:FsR) (r:Bool) (h:ZD1 a b=some r):MF Tryz.prog pz3 12 [enc a,enc b] s0 fun v _=>ris v r:=by
 refine ZAm [(0,enc a),(1,enc b)] func12 rfl (by simp only[Tryz.f12];rfl) fun ψ=> ?_
 unfold ZD1 at h;refine ZAB<|ZAC<|ZBM (r:=a) rfl (Enc.self a) Hp.nil fun m xs s hxs hs=>ZBM (r:=b) rfl (Enc.self b) hs fun m1 xs1 s hxs1 hs=>ZAG (v:=enc false) rfl<|ZAA<|ZAB<|ZAB<|ZAC<|ZAP ZHW rfl ?_
 replace hs:=Hp.front [(.cells m1 xs1)] (b:=[]) hs;refine ZAL ag3 (Ss Sz) rfl hxs hs fun y hy=> ?_
 cases hy;refine ZAP ZHW rfl ?_
 replace hs:=Hp.front [(.cells m xs)] (b:=[]) hs;refine ZAL ag3 (Ss Sz) rfl hxs1 hs fun y1 hy1=> ?_
 cases hy1;refine ZAM (v:=enc (a.v.2.1 !=b.v.2.1)) rfl rfl rfl<|ZAE rfl ?_
 obtain⟨b1,hb_b1,h⟩:=bs h;refine ZAX 8 (fun φ s=>Hp s [(.cells m1 xs1),(.cells m xs)]∧Fx φ [(2,(.ptr m 0)),(3,(.ptr m1 0)),(19,(enc b1))]) ?_ ?_
 ·split at hb_b1
  ·rename_i cg;refine ZAF rfl rfl (by simpa using cg)<|ZAF rfl rfl (by simpa using cg)<|ZAF rfl rfl (by simpa using cg)<|ZAF rfl rfl (by simpa using cg)<|ZAF rfl rfl (by simpa using cg)<|ZAF rfl rfl (by simpa using cg)<|ZAF rfl rfl (by simpa using cg)<|ZAl (v:=enc true) rfl cg rfl<|ZAA ?_
   rw[←oi hb_b1];exact⟨hs,FxR rfl⟩
  rename_i cg1;refine ZAJ rfl rfl (by simpa using cg1)<|ZAP ZBA rfl<|ZAJ rfl rfl (by simpa using cg1) ?_
  replace hs:=Hp.front [(.cells m1 xs1)] (b:=[]) hs;refine ZAL ag22 Sz rfl hxs hs fun y2 hy2=>ZAJ rfl rfl (by simpa using cg1)<|ZAu underlying22 rfl rfl hy2<|ZAJ rfl rfl (by simpa using cg1)<|ZAP ZBA rfl<|ZAJ rfl rfl (by simpa using cg1) ?_
  replace hs:=Hp.front [(.cells m xs)] (b:=[]) hs;refine ZAL ag22 Sz rfl hxs1 hs fun y3 hy3=>ZAJ rfl rfl (by simpa using cg1)<|ZAu underlying22 rfl rfl hy3<|ZAJ rfl rfl (by simpa using cg1)<|ZAM (v:=enc (((a.v.1.length:Int) !=(b.v.1.length:Int)):Bool)) rfl rfl rfl<|ZAi rfl cg1 rfl<|ZAA ?_
  rw[←oi hb_b1];exact⟨hs,FxR rfl⟩
 rintro φ s ⟨hs,hF⟩;rw[←hF.eq];refine ZAA ?_
 split at h
 ·rename_i c';refine ZAH rfl c'<|ZAB<|ZAC<|ZAG (v:=enc false) rfl<|ZAA<|ZAN ?_
  rw[←oi h];exact⟨rfl,KE1 (a:=(false:Bool)) rfl rfl (rfl:is _ (false:Bool)) (rfl:is _ (false:Bool))⟩
 rename_i c';refine ZAI rfl c'<|ZAO<|ZAB<|ZAB<|ZAC<|ZAG (v:=enc (0:Int)) rfl<|ZAA<|ZAR ?_
 obtain⟨o,hl,h⟩:=bs h;refine ZA6 (fun(p:Int) φ s=>match p with | i=>Fx φ [(2,(.ptr m 0)),(3,(.ptr m1 0)),(5,(enc i))]∧Hp s [(.cells m1 xs1),(.cells m xs)]) (fun(o:(Unit ⊕ Bool)) e φ s=>match o with | (.inl _)=>e= .exit 0∧Fx φ [] | (.inr v)=>e= .ret∧Fx φ [(4,(enc v))]) ?_ hl ⟨FxR rfl,hs⟩ ?_
 ·rintro i o h φ s ⟨hF,hs⟩;rw[←hF.eq];rw[ZGF] at h;refine ZAB<|ZAB<|ZAC<|ZAE rfl<|ZAP ZBA rfl ?_
  replace hs:=Hp.front [(.cells m1 xs1)] (b:=[]) hs;refine ZAL ag22 Sz rfl hxs hs fun y4 hy4=>ZAu underlying22 rfl rfl hy4<|ZAM (v:=enc (decide (i<(a.v.1.length:Int)))) rfl rfl rfl<|ZAA ?_
  split at h
  ·rename_i c';refine ZAH rfl c'<|ZAO<|ZAB<|ZAR<|ZAB<|ZA1 (by decide+kernel) (by decide+kernel)<|ZAP ZBA rfl<|ZAL ag22 Sz rfl hxs hs fun y5 hy5=>ZAE rfl ?_
   obtain⟨v1,hx,h⟩:=bs h;refine ZBG underlying22 sh38 rfl rfl hy5 hx fun p hp=>ZB1 ag38 sz38 rfl hp fun y6 hy6=>ZAP ZBA rfl ?_
   replace hs:=Hp.front [(.cells m xs)] (b:=[]) hs;refine ZAL ag22 Sz rfl hxs1 hs fun y7 hy7=>ZAE rfl ?_
   obtain⟨v2,hx1,h⟩:=bs h;refine ZBG underlying22 sh38 rfl rfl hy7 hx1 fun p1 hp1=>ZB1 ag38 sz38 rfl hp1 fun y8 hy8=> ?_
   obtain⟨r_,hx2,h⟩:=bs h;refine ZBJ (f:=fun a:ZAD×ZAD×Unit=>ZC7 a.1 a.2.1) (a:=(v1,v2,())) rfl func29 rfl rfl (.cons (a:=v1) hy6 (.cons (a:=v2) hy8 .nil)) hx2<|ZCk (v:=enc (!r_)) rfl rfl<|ZAA ?_
   split at h
   ·rename_i c';refine ZAH rfl c'<|ZAB<|ZAC<|ZAG (v:=enc false) rfl<|ZAA<|ZAN ?_
    show if _ then _ else _
    rw[if_neg (by simp)]
    rw[←oi h];exact⟨_,rfl,rfl,FxR rfl⟩
   rename_i c';refine ZAI rfl c'<|ZAO<|ZAC<|ZAE rfl<|ZAM (v:=enc (IntKind.i64.wrap (i+1))) rfl rfl rfl<|ZAG rfl<|ZAA ?_
   rw[←oi h];exact⟨_,rfl,⟨FxR rfl,hs⟩⟩
  rename_i c';refine ZAI rfl c'<|ZA0 ?_
  rw[←oi h];exact⟨_,rfl,rfl,trivial⟩
 intro e φ s hE;rcases o with _u | v
 ·obtain⟨rfl,hF⟩:=hE;rw[←hF.eq];rw[ZGG] at h;show if _ then _ else _
  rw[if_pos rfl];refine ZAB<|ZAC<|ZAG (v:=enc true) rfl<|ZAA<|ZAN ?_
  rw[←oi h];exact⟨rfl,KE1 (a:=(true:Bool)) rfl rfl (rfl:is _ (true:Bool)) (rfl:is _ (true:Bool))⟩
 obtain⟨rfl,hF⟩:=hE;rw[←hF.eq];rw[ZGG] at h;show if _ then _ else _
 rw[if_neg (by simp)]
 rw[←oi h];exact⟨rfl,KE1 (a:=v) rfl rfl (rfl:is _ v) (rfl:is _ v)⟩
theorem ZL3:ZAv Tryz.prog 12 (fun _=>Fn (fun a:FsR×FsR×Unit=>ZD1 a.1 a.2.1)):=fnC ZQs ⟨_,func12,rfl⟩<|fun a r h=>ZL2 a.1 a.2.1 r h
noncomputable def pz4:Prims:=pz3.add 12 (Fn (fun a:FsR×FsR×Unit=>ZD1 a.1 a.2.1))
theorem ZST:ZAS Tryz.prog pz4:=ZAV ZQs ZL3
noncomputable def pz30:Prims:=pz4
theorem ZDJ:ZAS Tryz.prog pz30:=ZST
end Go.Ai.Rab
end
section
open Go.Ai.Enc (enc is)
open Go.Ai.Res (res ris)
open Go.Ai.Args (args)
open Go.Ai.Flds (fe fi fk)
namespace Go.Ai
section
variable {P:Program} {prims:Prims} {n:Nat} {b:Bool} {K:Fm→St→Prop} {φ:Fm} {s:St} {ops:Array Oper} {l:List Oper} {d:Tmp} {x y:Operand} {t t' e ty:TypeId} {pos:String} {af:Array Edge} {u v:AV} {es:List En}
theorem ZRi {base:Nat} {ρ:Pl} {X:Reg} {wd:World} {k m:Nat} {cs:List AV} {w:AV} {v' :Value} (h:Sim base ρ X s wd) (hg:hget s.h m=some (.cells cs)) (hc:ZCN k cs 1=[w]) (hl:esz k≤cs.length) (hr:Rel wd ρ (UX ρ s.h X) s.c (.ptr m 0) v'):
  Rel wd ρ (UX ρ (s.del m).h X) (s.del m).c (.rptr k [w] 0 0) v' :=by
 simp only[Rel] at hr;obtain⟨h1,rfl⟩:=hr;have he:elems (.hs k m 0 1 1) s=some (k,[w]):=by
  simp only[elems,hg,List.drop_zero,hc];rw[if_pos (by omega)]
 have hf:ZDI 0 s (.hs k m 0 1 1)=some (.vec k [w] .tight):=by
  simp only[ZDI,Nat.not_lt_zero,if_false,Nat.lt_irrefl,he,Option.map_some,if_true]
 have hr2:Rel wd ρ (UX ρ s.h X) s.c (.hs k m 0 1 1) (.slice (some ⟨(ρ m).1,0,none⟩) 1 1):=by
  simp only[Rel];exact⟨h1,trivial⟩
 have hz:=ZEd (s' :=s.del m) h hr2 hf rfl (fun q o hk=>by
  have:=ZBX hk
  exact⟨by simpa[ZAy] using this.1,this.2⟩)
 simp only[Rel] at hz ⊢;obtain⟨a,cap,us,e0,_,g1,g2,_⟩:=hz;injection e0 with e0
 injection e0 with e0
 subst e0;refine⟨by simp,?_,_,?_,us,g1,g2⟩
 ·unfold esz;split<;> omega
 simp[Addr.add]
theorem ZOk {k m:Nat} {cs:List AV} {w:AV} {es:List En} {q:Nat} (hq:φ q= .ptr m 0) (hc:ZCN k cs 1=[w]) (hl:esz k≤cs.length) (hs:Hp s (.cells m cs::es)) (kk:∀s',Hp s' es→TO P prims n false ops l K (upd φ q (.rptr k [w] 0 0)) s'):TO P prims n false ops l K φ s:=by
 intro hp base ρ X wd ac R A hb hsim hrl hd hA;have hg:hget s.h m=some (.cells cs):=hs.get rfl
 have hk:=kk _ (hs.del rfl) hp base ρ X wd ac R A hb (hsim.del m);have hU:∀b j,UX ρ (s.del m).h X b j→UX ρ s.h X b j:=fun b j hj=>hj.imp Umap.del id
 have hm:Mono wd ρ (UX ρ s.h X) s.c wd ρ (UX ρ (s.del m).h X) (s.del m).c:=⟨Nat.le_refl _,fun _ _=>rfl,fun a u hu _=>hu,fun a ha=>ha,fun b j _ hj=>hU b j hj⟩
 have hrl' :RelL wd ρ (UX ρ (s.del m).h X) (s.del m).c (frm n (upd φ q (.rptr k [w] 0 0))) ac.tmps.toList:=by
  rw[←ZJf];have hr2:=RelL.mono hm _ _ hrl;by_cases hqn:q<n
  ·have hz:Rel wd ρ (UX ρ (s.del m).h X) (s.del m).c (.rptr k [w] 0 0) (ac.tmps.toList.getD q undef):=by
    have:=hrl.getD q
    rw[ZHm hqn,hq] at this;exact ZRi hsim hg hc hl this
   have:=hr2.set q hz
   rwa [ZJj] at this
  rw[List.set_eq_of_length_le (by simp[frm];omega)]
  exact hr2
 refine hk hrl' hd fun φ' s' a' w' hK hpf=>hA φ' s' a' w' hK ?_
 obtain⟨ρ',g1,g2,g3,g4,g5,g6,g7⟩:=hpf;exact⟨ρ',g1,g2,g3,g4,g5.weaken (fun b j hj=>hj.del),fun b j hb hj=>(g6 b j hb hj).del,g7⟩
end
/-! ### The place of a variable that holds a value for good -/
structure PtrC (T:Type) where
 v:T
instance {T:Type} [Enc T]:Enc (PtrC T) where
 enc p:= .rptr (Enc.k T) [enc p.v] 0 0
 k:=0
 is x p:=∃y,x= .rptr (Enc.k T) [y] 0 0∧is y p.v
 inj {a b} h:=by
  injection h with _ h
  injection h with h
  have:=Enc.inj h
  cases a;cases b;simp_all
 strip {x a} h:=by
  obtain⟨y,rfl,h⟩:=h;simp only[ZAq,ZBC,Enc.strip h]
 self a:=⟨_,rfl,Enc.self _⟩
 el {x a} h:=by obtain⟨y,rfl,h⟩:=h;exact ZBS rfl rfl
 pu a:=by simp only[ZBn,ZCa,Enc.pu,Bool.and_self]
theorem PtrC.ep {T:Type} [Enc T] {u:AV} {p:PtrC T} (h:is u p):EPtr u p.v:=by
 obtain⟨y,rfl,h⟩:=h;exact⟨[y],0,y,rfl,rfl,h⟩
instance {T:Type} [Enc T]:Enc0 (PtrC T):=⟨rfl⟩
section
variable {P:Program} {prims:Prims} {n:Nat} {b:Bool} {K:Fm→St→Prop} {φ:Fm} {s:St} {ops:Array Oper} {l:List Oper} {d:Tmp} {x y:Operand} {t t' e ty:TypeId} {pos:String} {af:Array Edge} {u v:AV} {es:List En}
variable {T:Type} [Enc T] [Enc0 T]
theorem ZQt {a:T} (hx:ZAT n φ x=some u) (h:is u a) (hs:Hp s es)
  (k:∀m s',Hp s' (.cells m [u]::es)→TO P prims n b ops l K (upd φ d (.ptr m 0)) s'):TO P prims n b ops (⟨some d, .box t x,ty,pos,af,none⟩::l) K φ s:=by
 refine ZA4 rfl rfl (v:= .ptr s.c 0) (s' :=s.new (.cells [u])) (fun _=> ?_) (k s.c _ (hs.new _ _ rfl))
 have h1:=ZIL h;simp only[aOp,ZAK hx,ZDc,ZEP h1,oC,Option.bind_some];exact if_pos (by simp[h1])
theorem ZOl {m:Nat} {w:AV} {q:Nat} {a:T} (hq:φ q= .ptr m 0) (h:is w a) (hs:Hp s (.cells m [w]::es)) (kk:∀z s',is z (PtrC.mk a)→Hp s' es→TO P prims n false ops l K (upd φ q z) s'):TO P prims n false ops l K φ s:=
 ZOk (k:=0) (w:=w) hq rfl (Nat.le_refl _) hs fun s' hs' =>kk _ s' ⟨w,by rw[Enc0.k0 (T:=T)],h⟩ hs'
theorem ZOm {T A:Type} [Enc T] [Enc0 T] [Flds A] {m:Nat} {xs:List AV} {q:Nat} {r:Rec (T×A)} (hq:φ q= .ptr m 0) (h:fi xs r.v) (hs:Hp s (.cells m xs::es)) (kk:∀z s',is z (PtrC.mk r)→Hp s' es→TO P prims n false ops l K (upd φ q z) s'):TO P prims n false ops l K φ s:=by
 have hl:xs.length=fk (T×A):=Flds.len h
 refine ZOk (k:=fk (T×A)) (w:= .agg xs) hq ?_ ?_ hs fun s' hs' =>kk _ s' ⟨.agg xs,rfl,xs,rfl,h⟩ hs'
 ·have h0:¬fk (T×A)=0:=fun e=>by cases e
  rw[←hl] at h0 ⊢;simp only[ZCN,if_neg h0,List.take_length]
 have h0:¬fk (T×A)=0:=fun e=>by cases e
 simp only[esz,if_neg h0];omega
theorem ZQu {a:PtrC T} (hg:aggT P t=some false) (hx:ZAT n φ x=some u) (h:is u a) (k:∀v,is v a.v→TO P prims n b ops l K (upd φ d v) s):TO P prims n b ops (⟨some d, .load t x,ty,pos,af,none⟩::l) K φ s:=by
 obtain⟨y,rfl,h⟩:=h;refine ZA4 rfl rfl (fun _=>ZE9 (ZAK hx) (v:=y) ?_) (k _ h)
 simp[ZEb,ZEw,hg,ZEP (ZIL h)]
end
/-! ### Function values -/
class FA (A:Type) [Flds A] [Args A]:Prop where
 vs:∀{ys:List AV} {c:A},fi ys c→Vs ys (args c)
instance:FA Unit:=⟨fun h=>by subst h;exact .nil⟩
instance {T A:Type} [Enc T] [Enc0 T] [Flds A] [Args A] [FA A]:FA (T×A):=⟨fun h=>by
 obtain⟨y,ys,rfl,h1,h2⟩:=h;exact .cons h1 (FA.vs h2)⟩
section
variable {P:Program} {prims:Prims} {n:Nat} {b:Bool} {K:Fm→St→Prop} {φ:Fm} {s:St} {ops:Array Oper} {l:List Oper} {d:Tmp} {x y:Operand} {t t' e ty:TypeId} {pos:String} {af:Array Edge} {u v:AV} {es:List En}
theorem ZOn {g:FuncId} {C:Type} [Flds C] {c:C} {cap:Array Operand} {ys:List AV} (hc:ZFu n φ cap.toList=some ys) (h:fi ys c) (k:∀v,is v (Clo.mk c:Clo g C)→TO P prims n b ops l K (upd φ d v) s):TO P prims n b ops (⟨some d, .makeFunc (.func g) #[] cap,ty,pos,af,none⟩::l) K φ s:=by
 refine ZA4 rfl rfl (v:= .fn g [] ys) (s' :=s) (fun _=> ?_) (k _ ⟨ys,rfl,h⟩)
 have e1:ZBl (frm n φ) (#[]:Array Operand).toList=some []:=rfl
 simp only[aOp,ZDi hc,e1,oC,Option.bind_some]
theorem ZQJ {g:FuncId} {fn:Func} {os:Array Operand} {ts:Array TypeId} {F:Glob→List AV→Option AV} {vs ys:List AV} {r:AV} (hp:prims g=some F) (hf:P.funcs[g]? =some fn) (hn:ZCP fn=true)
  (hx:ZAT n φ x=some (.fn g [] ys)) (ha:ZFu n φ os.toList=some vs) (hc:ZBP F (vs++ys) s=some (r,s)) (k:TO P prims n false ops l K (upd φ d r) s):TO P prims n false ops (⟨some d, .call ⟨.value x,os,ts⟩,ty,pos,af,none⟩::l) K φ s:=by
 refine ZIE rfl fun hpr base ρ X w a A B hb hs hr hdf hA=>⟨fun e=>(by cases e),?_⟩
 have hrx:=ZAQ hr (ZAK hx);simp only[Rel,RelL] at hrx;obtain⟨us,cs,e,rfl,hcs⟩:=hrx;have hall:RelL w ρ (UX ρ s.h X) s.c (vs++ys) (os.toList.map a.eval++cs):=RelL.append (ZBv hr (ZDi ha)) hcs
 have hcl:=ZIF (base:=base) (hpr g F hp) hs hall hc;unfold Oper.wp;have hrun:(execOp a.eval (⟨some d, .call ⟨.value x,os,ts⟩,ty,pos,af,none⟩:Oper)).run P w= .ok (.enter g (os.toList.map a.eval++cs).toArray) w:=by
  simp only[execOp,resolve,e,Deferred.ofValue,pure_bind,invoke];rw[ZDw hf hn];congr 2
  apply Array.ext'
  simp
 rw[hrun];refine hcl.mono fun e' w' he=> ?_
 obtain⟨v',rfl,h1,h2⟩:=he;exact hA r s v' w' k h1 fun _=>h2
theorem Vs.append {xs ys us vs:List AV} (h:Vs xs us) (k:Vs ys vs):Vs (xs++ys) (us++vs):=by
 induction h with
 | nil=>exact k
 | cons h _ ih=>exact .cons h ih
theorem ZK2 {g:FuncId} {fn:Func} {os:Array Operand} {ts:Array TypeId} {A C R:Type} [Args A] [Res R] [Flds C] [Args C] [FA C] {c:Clo g C} {f:A→Option R} {a:A} {r:R} {vs:List AV} (hp:prims g=some fun _=>Fn f) (hf:P.funcs[g]? =some fn) (hn:ZCP fn=true)
  (hx:ZAT n φ x=some u) (hu:is u c) (ha:ZFu n φ os.toList=some vs) (hv:∀ys,Vs ys (args c.cap)→Vs (vs++ys) (args a)) (hr:f a=some r) (k:TO P prims n false ops l K (upd φ d (res r)) s):TO P prims n false ops (⟨some d, .call ⟨.value x,os,ts⟩,ty,pos,af,none⟩::l) K φ s:=by
 obtain⟨ys,rfl,hy⟩:=hu;exact ZQJ hp hf hn hx ha (ZIH (hv ys (FA.vs hy)) hr) k
theorem ZSU {z:Bool} {q kk:Nat} (hq:φ q= .emp z) (k1:TO P prims n false ops l K (upd φ q .nils) s) (k2:TO P prims n false ops l K (upd φ q (.vec kk [] .unk)) s):TO P prims n false ops l K φ s:=by
 intro hp base ρ X wd ac R A hb hsim hrl hd hA;have key:∀u:AV,(q<n→Rel wd ρ (UX ρ s.h X) s.c u (ac.tmps.toList.getD q undef))→RelL wd ρ (UX ρ s.h X) s.c (frm n (upd φ q u)) ac.tmps.toList:=by
  intro u hu;rw[←ZJf];by_cases hqn:q<n
  ·have:=hrl.set q (hu hqn)
   rwa [ZJj] at this
  rw[List.set_eq_of_length_le (by simp[frm];omega)]
  exact hrl
 by_cases hqn:q<n
 ·have hv:=hrl.getD q;rw[ZHm hqn,hq] at hv;simp only[Rel] at hv;obtain⟨a,cap,e1,e2,e3⟩:=hv
  cases a with
  | none=>
   refine k1 hp base ρ X wd ac R A hb hsim (key _ fun _=> ?_) hd hA
   simp only[Rel];rw[e1,e2 rfl]
  | some a=>
   refine k2 hp base ρ X wd ac R A hb hsim (key _ fun _=> ?_) hd hA
   simp only[Rel];exact⟨a,cap,[],e1,Nat.zero_le _,by simp[RelC],fun j u hj=>(by simp at hj),trivial⟩
 exact k1 hp base ρ X wd ac R A hb hsim (key _ fun h=>absurd h hqn) hd hA
theorem ZIM {T:Type} [Enc T] {xs:List T} {q:Nat} (hu:P.underlying t=some (.slice e)) (hq:ZAT n φ (.tmp q)=some u) (h:is u xs) (k1:∀u',is u' xs→xs=[]→TO P prims n false ops l K (upd (upd φ q u') d (enc true)) s) (k2:∀u',is u' xs→TO P prims n false ops l K (upd (upd φ q u') d (enc false)) s):TO P prims n false ops (⟨some d, .binOp .eql t (.tmp q) (.const (.slice none 0 0)) t',ty,pos,af,none⟩::l) K φ s:=by
 have hqn:Nat.blt q n=true∧φ q=u:=by
  have hq' :(match Nat.blt q n with | true=>some (φ q) | false=>none)=some u:=hq
  cases hb:Nat.blt q n with
  | true=>rw[hb] at hq';injection hq' with hq';exact⟨rfl,hq'⟩
  | false=>rw[hb] at hq';cases hq'
 have hn:∀φ' :Fm,ZAT n φ' (.const (.slice none 0 0))=some .nils:=fun _=>rfl
 have hx:∀v:AV,ZAT n (upd φ q v) (.tmp q)=some v:=fun v=>by
  show(match Nat.blt q n with | true=>some (upd φ q v q) | false=>none)=some v
  rw[hqn.1];simp[upd]
 rcases h with⟨rfl | ⟨z,rfl⟩,rfl⟩ | ⟨ys,c,rfl,hr⟩
 ·have:=k1 .nils isL.nil rfl
  have hs:upd φ q .nils=φ:=by rw[←hqn.2];exact ZHl _ _
  rw[hs] at this;exact ZAM (v:=enc true) hq (hn _) (by simp[ZCe,ZE0,hu,ZGw,isC,ZJY];rfl) this
 ·refine ZSU (kk:=Enc.k T) hqn.2 ?_ ?_
  ·exact ZAM (v:=enc true) (hx _) (hn _) (by simp[ZCe,ZE0,hu,ZGw,isC,ZJY];rfl) (k1 .nils isL.nil rfl)
  exact ZAM (v:=enc false) (hx _) (hn _) (by simp[ZCe,ZE0,hu,ZGw,isC,ZJY];rfl) (k2 _ (.inr ⟨[],_,rfl,trivial⟩))
 have:=k2 _ (.inr ⟨ys,c,rfl,hr⟩)
 have hs:upd φ q (.vec (Enc.k T) ys c)=φ:=by rw[←hqn.2];exact ZHl _ _
 rw[hs] at this;exact ZAM (v:=enc false) hq (hn _) (by simp[ZCe,ZE0,hu,ZGw,isC,ZJY];rfl) this
end
end Go.Ai
end
section
open Go.Ai.Enc (enc is)
open Go.Ai.Flds (fe fi fk)
namespace Go.Ai
structure Err (t:TypeId) where
 c:Option Int
def Err.av (t:TypeId):Option Int→AV
 | none=> .nifc
 | some n=> .ifc t (.rptr 1 [.agg [.int .i64 n]] 0 0)
instance {t:TypeId}:Enc (Err t) where
 enc e:=Err.av t e.c
 k:=0
 is x e:=x=Err.av t e.c
 inj {a b} h:=by
  obtain⟨a⟩:=a;obtain⟨b⟩:=b
  cases a with
  | none=>cases b with
   | none=>rfl
   | some b=>cases h
  | some a=>cases b with
   | none=>cases h
   | some b=>injection h with _ h;injection h with _ h;injection h with h _;injection h with h;injection h with h _;injection h with _ h;rw[h]
 strip {x a} h:=by
  subst h;obtain⟨a⟩:=a
  cases a<;> rfl
 self _:=rfl
 el {x a} h:=by
  subst h;obtain⟨a⟩:=a
  cases a<;> exact ZBS rfl rfl
 pu a:=by
  obtain⟨a⟩:=a
  cases a<;> rfl
section
variable {P:Program} {prims:Prims} {n:Nat} {b:Bool} {K:Fm→St→Prop} {φ:Fm} {s:St} {ops:Array Oper} {l:List Oper} {d:Tmp} {x y:Operand} {t t' e ty:TypeId} {pos:String} {af:Array Edge} {u v:AV} {es:List En}
theorem ZSV {r:Rec (Int×Unit)} (hn:ZJI P t=true) (hx:ZAT n φ x=some u) (h:is u (PtrC.mk r)) (k:TO P prims n b ops l K (upd φ d (enc (Err.mk (some r.v.1):Err t))) s):TO P prims n b ops (⟨some d, .makeInterface t x,ty,pos,af,none⟩::l) K φ s:=by
 obtain⟨y,rfl,ys,rfl,z,zs,rfl,h1,h2⟩:=h;have h1:z= .int .i64 r.v.1:=h1
 have h2:zs=[]:=h2
 subst h1;subst h2;refine ZA4 rfl rfl (v:=enc (Err.mk (some r.v.1):Err t)) (s' :=s) (fun _=> ?_) k
 unfold ZJI at hn
 cases hu:P.underlying t with
 | none=>rw[hu] at hn;cases hn
 | some q=>
  rw[hu] at hn;simp only[aOp,hu,ZAK hx,oC,Option.bind_some]
  cases q<;> first | rfl | cases hn
theorem ZOo {ms:Array (String×TypeId)} {r:Err t} {t0:TypeId} (hu:P.underlying t0=some (.interface ms)) (hx:ZAT n φ x=some u) (h:is u r) (k:TO P prims n b ops l K (upd φ d (enc r.c.isSome)) s):TO P prims n b ops (⟨some d, .binOp .neq t0 x (.const .nilIface) t',ty,pos,af,none⟩::l) K φ s:=by
 have h:u=Err.av t r.c:=h
 subst h;refine ZAM (v:=enc r.c.isSome) hx (w:= .nifc) rfl ?_ k
 cases hc:r.c with
 | none=>simp[Err.av,ZCe,ZE0,hu,ZGw,isC,ZJY];rfl
 | some c=>simp[Err.av,ZCe,ZE0,hu,ZGw,isC,ZJY];rfl
def shrU (a:UInt64) (i:Int):Option UInt64:=if 0≤i then some (UInt64.ofInt ((a.toNat:Int).fdiv (2 ^ (min i.toNat 64)))) else none
theorem ZRj {a r:UInt64} {i:Int} {kk:IntKind} {t0:TypeId} (hx:ZAT n φ x=some (enc a)) (hy:ZAT n φ y=some (.int kk i)) (hr:shrU a i=some r) (k:TO P prims n b ops l K (upd φ d (enc r)) s):TO P prims n b ops (⟨some d, .binOp .shr t0 x y t',ty,pos,af,none⟩::l) K φ s:=by
 unfold shrU at hr;split at hr
 ·rename_i h0;injection hr with hr
  subst hr;refine ZEN (z:=(a.toNat:Int).fdiv (2 ^ (min i.toNat 64))) hx hy ?_ (ZG7 _ (by have:=a.toNat_lt;omega)) k
  show ZHq .shr .u64 _ i=_
  unfold ZHq;rw[if_neg (by omega)]
  rfl
 cases hr
theorem ZRk {src dst:TypeId} {tx:Str} {r:List UInt8} (h1:P.underlying src=some .string) (h2:P.underlying dst=some (.slice e)) (h3:P.underlying e=some (.int .u8)) (hx:ZAT n φ x=some (.str tx)) (hr:app 1 ([]:List UInt8) tx=some r) (hs:Hp s es)
  (k:∀z s',is z r→ZB4 z=true→Hp s' (.own z::es)→TO P prims n b ops l K (upd φ d z) s'):TO P prims n b ops (⟨some d, .convert src dst x,ty,pos,af,none⟩::l) K φ s:=by
 obtain⟨hro,rfl⟩:=ZJg hr;have hro:ZEF (List.length (show List UInt8 from r)) 1=true:=by simpa using hro
 refine ZA4 rfl rfl (v:= .vec 0 ((show List UInt8 from r).map fun b=> .int .u8 b.toNat) (.tok s.c)) (s' :=s.new .tok) (fun _=> ?_) (k _ _ (.inr ⟨_,_,rfl,isR.self (T:=UInt8) r⟩) rfl (hs.new .tok _ rfl))
 simp only[aOp,ZAK hx,oC,Option.bind_some,ZCs,h1,h2,h3];exact if_pos hro
end
end Go.Ai
end
section
open Go.Ai.Enc (enc is)
open Go.Ai.Res (res ris)
open Go.Ai.Args (args)
namespace Go.Ai
theorem Hp.packG {s:St} (a es:List En) (h:Hp s (a++es)):Hp s (a++[.grp (ZA8 es), .gl s.g]):=by
 have e:ZA8 (a++[.grp (ZA8 es), .gl s.g])=ZA8 (a++es):=by simp[ZA8,En.ents]
 refine⟨by rw[e];exact h.1,by rw[e];exact h.2.1,fun x hx=> ?_⟩
 rcases List.mem_append.1 hx with hx | hx
 ·exact h.2.2 x (List.mem_append_left _ hx)
 simp only[List.mem_cons,List.not_mem_nil,or_false] at hx;rcases hx with rfl | rfl
 ·trivial
 exact rfl
theorem Hp.unpackG {s s' :St} (a a' es:List En) (h:Hp s (a++es)) (h' :Hp s' (a' ++[.grp (ZA8 es), .gl s.g])):Hp s' (a' ++es):=by
 have e:ZA8 (a' ++[.grp (ZA8 es), .gl s.g])=ZA8 (a' ++es):=by simp[ZA8,En.ents]
 refine⟨by rw[←e];exact h'.1,by rw[←e];exact h'.2.1,fun x hx=> ?_⟩
 rcases List.mem_append.1 hx with hx | hx
 ·exact h'.2.2 x (List.mem_append_left _ hx)
 have hg:s'.g=s.g:=h'.2.2 (.gl s.g) (List.mem_append_right _ (by simp))
 exact En.gok_eq hg x (h.2.2 x (List.mem_append_right _ hx))
theorem MF.any {P:Program} {p q:Prims} {f:FuncId} {vs:List AV} {s:St} {H:AV→St→Prop} (h:MF P p f vs s H) (hp:ZAS P p):MF P q f vs s H:=
 fun _=>h hp
section
variable {P:Program} {prims:Prims} {n:Nat} {K:Fm→St→Prop} {φ:Fm} {s:St} {v:AV}
theorem KN1 {fn:Func} {H:AV→St→Prop} {t1:Nat} (hr:fn.results= #[.tmp t1]) (hv:ZAT fn.ntmps φ (.tmp t1)=some v) (k:H v s):ZQG P fn H φ s:=by
 have h1:=ZAK hv;simp only[ZAk] at h1;exact⟨v,by simp only[ZBu,hr,ZD5,h1,List.mapM_cons,List.mapM_nil,Option.pure_def,oC,Option.bind_some],k⟩
end
end Go.Ai
end
