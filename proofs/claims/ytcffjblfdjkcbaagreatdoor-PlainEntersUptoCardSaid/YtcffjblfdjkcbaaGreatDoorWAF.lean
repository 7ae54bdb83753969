/- My own texts DevPgAa, one behind the other. -/
import Derived.Test.YtcffjblfdjkcbaaGreatDoorWAE
set_option linter.unusedVariables false
set_option linter.unusedSimpArgs false
set_option maxRecDepth 100000
set_option maxHeartbeats 16000000
attribute [local irreducible] Go.Ai.TC Go.Ai.TO Go.Ai.MF Go.Ai.ZE6 Go.Ai.ZDC Go.Ai.encR
open Go.Ai.Enc (enc is)
open Go.Ai.Res (res ris)
open Go.Ai.Args (args)
open Go.Ai.Flds (fe fi fk)
namespace Go.Ai
abbrev ZAd:Type:=(Rec (Str×(List UInt8)×Unit))
abbrev ZAF:Type:=(Rec (Int×Int×Int×Int×(List UInt8)×Str×(List Str)×(List Int)×(List ZAd)×Unit))
abbrev FsR:Type:=(Rec ((List ZAF)×Int×Unit))
abbrev RefR:Type:=(Rec (Str×Int×Int×Int×Unit))
abbrev ZBg:Type:=(Rec (Int×Int×Int×Int×Str×(List ZAd)×(List RefR)×Unit))
abbrev ZAb:Type:=(Rec (Bool×(List Str)×(List Int)×Unit))
end Go.Ai
namespace Go.Ai.TTryz
open Go.Proofs
theorem ef3:EF Tryz.prog 3 0 8:=ZPm (by kernel_rfl)
theorem ef5:EF Tryz.prog 5 0 1:=ZPm (by kernel_rfl)
theorem ef9:EF Tryz.prog 9 0 16:=ZPm (by kernel_rfl)
theorem ef38:EF Tryz.prog 38 9 144:=ZPm (by kernel_rfl)
theorem ef89:EF Tryz.prog 89 2 40:=ZPm (by kernel_rfl)
def zx24:List AV:=[.nils,enc (0:Int)]
theorem zr24:ZBd Tryz.prog 24=some (.agg zx24):=by kernel_rfl
theorem zf24:fi zx24 (Rec.mk (([]:(List ZAF)),(0:Int),()):FsR).v:=⟨_,_,rfl,isL.nil,⟨_,_,rfl,rfl,rfl⟩⟩
theorem bu24:buB Tryz.prog 24 2=true:=by kernel_rfl
def zx38:List AV:=[enc (0:Int),enc (0:Int),enc (0:Int),enc (0:Int), .nils,enc (str []), .nils, .nils, .nils]
theorem zr38:ZBd Tryz.prog 38=some (.agg zx38):=by kernel_rfl
theorem zf38:fi zx38 (Rec.mk ((0:Int),(0:Int),(0:Int),(0:Int),([]:(List UInt8)),(str []),([]:(List Str)),([]:(List Int)),([]:(List ZAd)),()):ZAF).v:=⟨_,_,rfl,rfl,⟨_,_,rfl,rfl,⟨_,_,rfl,rfl,⟨_,_,rfl,rfl,⟨_,_,rfl,isL.nil,⟨_,_,rfl,rfl,⟨_,_,rfl,isL.nil,⟨_,_,rfl,isL.nil,⟨_,_,rfl,isL.nil,rfl⟩⟩⟩⟩⟩⟩⟩⟩⟩
theorem bu38:buB Tryz.prog 38 9=true:=by kernel_rfl
def zx96:List AV:=[enc (0:Int),enc (0:Int),enc (0:Int),enc (0:Int),enc (str []), .nils, .nils]
theorem zr96:ZBd Tryz.prog 96=some (.agg zx96):=by kernel_rfl
theorem zf96:fi zx96 (Rec.mk ((0:Int),(0:Int),(0:Int),(0:Int),(str []),([]:(List ZAd)),([]:(List RefR)),()):ZBg).v:=⟨_,_,rfl,rfl,⟨_,_,rfl,rfl,⟨_,_,rfl,rfl,⟨_,_,rfl,rfl,⟨_,_,rfl,rfl,⟨_,_,rfl,isL.nil,⟨_,_,rfl,isL.nil,rfl⟩⟩⟩⟩⟩⟩⟩
theorem bu96:buB Tryz.prog 96 7=true:=by kernel_rfl
def zx99:List AV:=[enc false, .nils, .nils]
theorem zr99:ZBd Tryz.prog 99=some (.agg zx99):=by kernel_rfl
theorem zf99:fi zx99 (Rec.mk (false,([]:(List Str)),([]:(List Int)),()):ZAb).v:=⟨_,_,rfl,rfl,⟨_,_,rfl,isL.nil,⟨_,_,rfl,isL.nil,rfl⟩⟩⟩
theorem bu99:buB Tryz.prog 99 3=true:=by kernel_rfl
def ZVZ:List AV:=[enc (str []),enc (0:Int),enc (0:Int),enc (0:Int)]
theorem ZUm:ZBd Tryz.prog 124=some (.agg ZVZ):=by kernel_rfl
theorem ZPq:fi ZVZ (Rec.mk ((str []),(0:Int),(0:Int),(0:Int),()):RefR).v:=⟨_,_,rfl,rfl,⟨_,_,rfl,rfl,⟨_,_,rfl,rfl,⟨_,_,rfl,rfl,rfl⟩⟩⟩⟩
theorem ZAk:flB Tryz.prog 24 0=true:=by kernel_rfl
theorem ZFp:flB Tryz.prog 24 1=true:=by kernel_rfl
theorem ZBO:flB Tryz.prog 38 0=true:=by kernel_rfl
theorem ZCR:flB Tryz.prog 38 1=true:=by kernel_rfl
theorem ZKl:flB Tryz.prog 38 2=true:=by kernel_rfl
theorem ZCD:flB Tryz.prog 38 3=true:=by kernel_rfl
theorem ZHi:flB Tryz.prog 38 4=true:=by kernel_rfl
theorem ZO9:flB Tryz.prog 38 5=true:=by kernel_rfl
theorem ZBJ:flB Tryz.prog 38 6=true:=by kernel_rfl
theorem ZBY:flB Tryz.prog 38 7=true:=by kernel_rfl
theorem ZKm:flB Tryz.prog 38 8=true:=by kernel_rfl
theorem ZMp:flB Tryz.prog 89 0=true:=by kernel_rfl
theorem ZMq:flB Tryz.prog 89 1=true:=by kernel_rfl
theorem ZIg:flB Tryz.prog 96 0=true:=by kernel_rfl
theorem ZPA:flB Tryz.prog 96 1=true:=by kernel_rfl
theorem ZPB:flB Tryz.prog 96 2=true:=by kernel_rfl
theorem ZIh:flB Tryz.prog 96 3=true:=by kernel_rfl
theorem ZIi:flB Tryz.prog 96 4=true:=by kernel_rfl
theorem ZJZ:flB Tryz.prog 96 5=true:=by kernel_rfl
theorem ZMr:flB Tryz.prog 96 6=true:=by kernel_rfl
theorem ZQ4:flB Tryz.prog 99 0=true:=by kernel_rfl
theorem ZIj:flB Tryz.prog 99 1=true:=by kernel_rfl
theorem ZJa:flB Tryz.prog 99 2=true:=by kernel_rfl
theorem ZLM:flB Tryz.prog 124 0=true:=by kernel_rfl
theorem ZOA:flB Tryz.prog 124 1=true:=by kernel_rfl
theorem ZOB:flB Tryz.prog 124 2=true:=by kernel_rfl
theorem ZJb:flB Tryz.prog 124 3=true:=by kernel_rfl
end Go.Ai.TTryz
namespace Go.Ai.Rab
open Go.Proofs TTryz Tryz
noncomputable def ZHD (f:FsR) (num:Int):Int→Option (Int ⊕ (Unit ⊕ Int))
 | i=>(if(decide (i<(f.v.1.length:Int))) then((nth f.v.1 i).bind fun v1=>(if(v1.v.1==num) then some (.inr (.inr i)) else some (.inl (IntKind.i64.wrap (i+1))))) else some (.inr (.inl ())))
noncomputable def ZHE:(Unit ⊕ Int)→Option (Int)
 | (.inl _)=>some ((-1))
 | (.inr v)=>some (v)
noncomputable def ZA8 (f:FsR) (num:Int):Option (Int):=
 ((loop (ZHD f num) 0).bind (ZHE))
noncomputable def ZCs (k:Int) (n4:Int):Option ((Int×Int) ⊕ Int):=
 some (.inl (n4,(IntKind.i64.wrap (k+1))))
noncomputable def ZCL (f:FsR) (i:Int) (num:Int):(Int×Int)→Option ((Int×Int) ⊕ Int)
 | (n2,k)=>((nth f.v.1 i).bind fun v=>(if(decide (k<(v.v.2.2.2.2.2.2.2.1.length:Int))) then((nth f.v.1 i).bind fun v1=>((nth v1.v.2.2.2.2.2.2.2.1 k).bind fun v2=>(if(v2==num) then(ZCs k (IntKind.i64.wrap (n2+1))) else(ZCs k n2)))) else some (.inr n2)))
noncomputable def ZHj (i:Int):Int→Option ((Int×Int) ⊕ Int)
 | n3=>some (.inl (n3,(IntKind.i64.wrap (i+1))))
noncomputable def ZDp (f:FsR) (num:Int):(Int×Int)→Option ((Int×Int) ⊕ Int)
 | (n,i)=>(if(decide (i<(f.v.1.length:Int))) then((loop (ZCL f i num) (n,0)).bind (ZHj i)) else some (.inr n))
noncomputable def ZHk:Int→Option (Int)
 | n1=>some (n1)
noncomputable def ZCM (f:FsR) (num:Int):Option (Int):=
 ((loop (ZDp f num) (0,0)).bind (ZHk))
noncomputable def ZE8 (f:FsR) (i:Int) (num:Int):Int→Option (Int ⊕ (Unit ⊕ Int))
 | k=>((nth f.v.1 i).bind fun v2=>(if(decide (k<(v2.v.2.2.2.2.2.2.2.1.length:Int))) then((nth f.v.1 i).bind fun v3=>((nth v3.v.2.2.2.2.2.2.2.1 k).bind fun v4=>(if(v4==num) then((nth f.v.1 i).bind fun v5=>some (.inr (.inr v5.v.1))) else some (.inl (IntKind.i64.wrap (k+1)))))) else some (.inr (.inl ()))))
noncomputable def ZJc (i:Int):(Unit ⊕ Int)→Option (Int ⊕ (Unit ⊕ Int))
 | (.inl _)=>some (.inl (IntKind.i64.wrap (i+1)))
 | (.inr v1)=>some (.inr (.inr v1))
noncomputable def ZE9 (f:FsR) (num:Int):Int→Option (Int ⊕ (Unit ⊕ Int))
 | i=>(if(decide (i<(f.v.1.length:Int))) then((loop (ZE8 f i num) 0).bind (ZJc i)) else some (.inr (.inl ())))
noncomputable def ZJd:(Unit ⊕ Int)→Option (Int)
 | (.inl _)=>some (0)
 | (.inr v)=>some (v)
noncomputable def ZJe (f:FsR) (num:Int):Option (Int):=
 ((loop (ZE9 f num) 0).bind (ZJd))
noncomputable def ZEX (f:FsR):(Int×Int)→Option ((Int×Int) ⊕ Int)
 | (n,i)=>((if(decide (i<(f.v.1.length:Int))) then some (decide (n≤50000)) else some false).bind fun b=>(if b then((nth f.v.1 i).bind fun v=>some (.inl ((IntKind.i64.wrap (n+(v.v.2.2.2.2.1.length:Int))),(IntKind.i64.wrap (i+1))))) else some (.inr n)))
noncomputable def ZIk:Int→Option (Bool)
 | n1=>some ((decide (n1≤50000)))
noncomputable def ZDX (f:FsR):Option (Bool):=
 (if(decide ((f.v.1.length:Int) > 60)) then some (false) else((loop (ZEX f) (0,0)).bind (ZIk)))
noncomputable def ZF7 (x:ZAF) (s_:Str):Int→Option (Int ⊕ Int)
 | i=>((if(decide (i<(x.v.2.2.2.2.2.2.1.length:Int))) then((nth x.v.2.2.2.2.2.2.1 i).bind fun v=>some (ltS v s_)) else some false).bind fun b=>(if b then some (.inl (IntKind.i64.wrap (i+1))) else some (.inr i)))
noncomputable def ZMs (x:ZAF) (s_:Str):Int→Option (Int×Bool)
 | i1=>((if(decide (i1<(x.v.2.2.2.2.2.2.1.length:Int))) then((nth x.v.2.2.2.2.2.2.1 i1).bind fun v1=>some (eqS v1 s_)) else some false).bind fun b1=>some (i1,b1))
noncomputable def ZF8 (x:ZAF) (s_:Str):Option (Int×Bool):=
 ((loop (ZF7 x s_) 0).bind (ZMs x s_))
noncomputable def ZEE (f:FsR):(Int×Int)→Option ((Int×Int) ⊕ (Unit ⊕ Bool))
 | (n,i)=>(if(decide (i≤(f.v.1.length:Int))) then(if(n==0) then some (.inr (.inr true)) else((ZJe f n).bind fun r_=>some (.inl (r_,(IntKind.i64.wrap (i+1)))))) else some (.inr (.inl ())))
noncomputable def ZHF:(Unit ⊕ Bool)→Option (Bool)
 | (.inl _)=>some (false)
 | (.inr v)=>some (v)
noncomputable def ZEY (f:FsR) (num:Int):Option (Bool):=
 ((loop (ZEE f) (num,0)).bind (ZHF))
noncomputable def ZFS (n:Int) (s_:Str):(Int×Int)→Option ((Int×Int) ⊕ (Int ⊕ (Int×Int×Bool)))
 | (x1,i)=>(if(decide (i<n)) then((nth (α:=UInt8) s_ i).bind fun c1=>((if(decide (((c1).toNat:Int)<128)) then some true else some (decide (((c1).toNat:Int)≥192))).bind fun b=>(if b then some (.inr (.inr (65533,1,false))) else some (.inl ((IntKind.i64.wrap ((IntKind.i64.wrap ((IntKind.i64.wrap (x1*64))+((c1).toNat:Int))) - 128)),(IntKind.i64.wrap (i+1))))))) else some (.inr (.inl x1)))
noncomputable def ZFT (least:Int) (n:Int):(Int ⊕ (Int×Int×Bool))→Option (Int×Int×Bool)
 | (.inl x2)=>((if(decide (x2<least)) then some true else some (decide (x2 > 1114111))).bind fun b1=>((if b1 then some true else((if(decide (x2≥55296)) then some (decide (x2<57344)) else some false).bind fun b3=>some b3)).bind fun b2=>(if b2 then some (65533,1,false) else some (x2,n,true))))
 | (.inr (v,v1,v2))=>some (v,v1,v2)
noncomputable def ZBT (s_:Str) (n:Int) (x:Int) (least:Int):Option (Int×Int×Bool):=
 (if(decide (((List.length s_:Nat):Int)<n)) then some (65533,1,false) else((loop (ZFS n s_) (x,1)).bind (ZFT least n)))
noncomputable def ZDq (s_:Str):Option (Int×Int×Bool):=
 ((nth (α:=UInt8) s_ 0).bind fun c=>(if(decide (((c).toNat:Int)<128)) then some (((c).toNat:Int),1,true) else((if(decide (((c).toNat:Int)≥194)) then some (decide (((c).toNat:Int)<224)) else some false).bind fun b4=>(if b4 then(ZBT s_ 2 (IntKind.i64.wrap (((c).toNat:Int) - 192)) 128) else((if(decide (((c).toNat:Int)≥224)) then some (decide (((c).toNat:Int)<240)) else some false).bind fun b5=>(if b5 then(ZBT s_ 3 (IntKind.i64.wrap (((c).toNat:Int) - 224)) 2048) else((if(decide (((c).toNat:Int)≥240)) then some (decide (((c).toNat:Int)<245)) else some false).bind fun b6=>(if b6 then(ZBT s_ 4 (IntKind.i64.wrap (((c).toNat:Int) - 240)) 65536) else some (65533,1,false)))))))))
noncomputable def ZCt (s_:Str):Int→Option (Int ⊕ (Unit ⊕ Int))
 | i=>(if(decide (i<((List.length s_:Nat):Int))) then((subT s_ i (List.length s_:Nat)).bind fun t=>((ZDq t).bind fun r_=>((if(!r_.2.2) then some true else some (r_.1==47)).bind fun b1=>((if b1 then some true else some (r_.1==0)).bind fun b2=>(if b2 then some (.inr (.inr 206)) else some (.inl (IntKind.i64.wrap (i+r_.2.1)))))))) else some (.inr (.inl ())))
noncomputable def ZDr:(Unit ⊕ Int)→Option (Int)
 | (.inl _)=>some (0)
 | (.inr v)=>some (v)
noncomputable def ZB0 (s_:Str):Option (Int):=
 (if(eqS s_ (str [])) then some (206) else(if(decide (((List.length s_:Nat):Int) > 100)) then some (208) else((if(eqS s_ (str [46])) then some true else some (eqS s_ (str [46,46]))).bind fun b=>(if b then some (206) else((loop (ZCt s_) 0).bind (ZDr))))))
noncomputable def ZAn (n:Int) (low:Int) (high:Int):Option (Bool):=
 ((if(decide (n≥low)) then some (decide (n≤high)) else some false).bind fun b=>some (b))
noncomputable def ZEZ (s_:Str):Int→Option (Int ⊕ (Unit ⊕ Bool))
 | i=>(if(decide (i<((List.length s_:Nat):Int))) then((nth (α:=UInt8) s_ i).bind fun c=>(if(((c).toNat:Int)==0) then some (.inr (.inr false)) else some (.inl (IntKind.i64.wrap (i+1))))) else some (.inr (.inl ())))
noncomputable def ZF9:(Unit ⊕ Bool)→Option (Bool)
 | (.inl _)=>some (true)
 | (.inr v)=>some (v)
noncomputable def ZDY (s_:Str):Option (Bool):=
 ((loop (ZEZ s_) 0).bind (ZF9))
noncomputable def ZIl (c:UInt8):Int→Option (Int ⊕ (Unit ⊕ Int))
 | i=>(if(decide (i<16)) then((nth (α:=UInt8) (str [48,49,50,51,52,53,54,55,56,57,97,98,99,100,101,102]) i).bind fun c1=>(if(((c1).toNat:Int)==((c).toNat:Int)) then some (.inr (.inr i)) else some (.inl (IntKind.i64.wrap (i+1))))) else some (.inr (.inl ())))
noncomputable def ZGA:(Unit ⊕ Int)→Option (Int)
 | (.inl _)=>some ((-1))
 | (.inr v)=>some (v)
noncomputable def ZDZ (c:UInt8):Option (Int):=
 ((loop (ZIl c) 0).bind (ZGA))
noncomputable def ZHl (k:Str):((List UInt8)×Int)→Option (((List UInt8)×Int) ⊕ ((List UInt8) ⊕ ((List UInt8)×Int)))
 | (b,i)=>(if(decide (i<64)) then((nth (α:=UInt8) k i).bind fun c=>((ZDZ c).bind fun r_=>((nth (α:=UInt8) k (IntKind.i64.wrap (i+1))).bind fun c1=>((ZDZ c1).bind fun r_1=>((if(decide (r_<0)) then some true else some (decide (r_1<0))).bind fun b2=>(if b2 then some (.inr (.inr ([],70))) else((app 1 b [(UInt8.ofInt (IntKind.i64.wrap ((IntKind.i64.wrap (16*r_))+r_1)))]).bind fun l=>some (.inl (l,(IntKind.i64.wrap (i+2))))))))))) else some (.inr (.inl b)))
noncomputable def ZFU:((List UInt8) ⊕ ((List UInt8)×Int))→Option ((List UInt8)×Int)
 | (.inl b1)=>some (b1,0)
 | (.inr (v,v1))=>some (v,v1)
noncomputable def ZD1 (k:Str):Option ((List UInt8)×Int):=
 (if(((List.length k:Nat):Int) !=64) then some ([],70) else((loop (ZHl k) ([],0)).bind (ZFU)))
noncomputable def ZD2 (k:Str):Option (Bool):=
 ((ZD1 k).bind fun r_=>some ((r_.2==0)))
noncomputable def ZJf (l:(List RefR)):(Int×Int)→Option ((Int×Int) ⊕ (Int ⊕ (Int×Bool)))
 | (n,i)=>(if(decide (i<(l.length:Int))) then((nth l i).bind fun v2=>((ZD2 v2.v.1).bind fun r_=>((if r_ then some (v2.v.2.1==0) else some false).bind fun b=>((if b then some (v2.v.2.2.1==0) else some false).bind fun b1=>((if b1 then((ZAn v2.v.2.2.2.1 1 2048).bind fun r_1=>some r_1) else some false).bind fun b2=>((if(eqS v2.v.1 (str [])) then((ZAn v2.v.2.1 1 512).bind fun r_2=>some r_2) else some false).bind fun b3=>((if b3 then((ZAn v2.v.2.2.1 0 32768).bind fun r_3=>some r_3) else some false).bind fun b4=>((if b4 then((ZAn v2.v.2.2.2.1 1 32768).bind fun r_4=>some r_4) else some false).bind fun b5=>((if(!b2) then some (!b5) else some false).bind fun b6=>(if b6 then some (.inr (.inr (0,false))) else some (.inl ((IntKind.i64.wrap (n+v2.v.2.2.2.1)),(IntKind.i64.wrap (i+1)))))))))))))) else some (.inr (.inl n)))
noncomputable def ZHG:(Int ⊕ (Int×Bool))→Option (Int×Bool)
 | (.inl n1)=>some (n1,true)
 | (.inr (v,v1))=>some (v,v1)
noncomputable def ZDs (l:(List RefR)):Option (Int×Bool):=
 (if(decide ((l.length:Int) > 128)) then some (0,false) else((loop (ZJf l) (0,0)).bind (ZHG)))
noncomputable def ZFV (l:(List Str)):Int→Option (Int ⊕ (Unit ⊕ Bool))
 | i=>(if(decide (i<(l.length:Int))) then((nth l i).bind fun v1=>((ZB0 v1).bind fun r_=>((if(r_ !=0) then some true else((if(decide (i > 0)) then((nth l i).bind fun v2=>((nth l (IntKind.i64.wrap (i - 1))).bind fun v3=>some (ltS v2 v3 || eqS v2 v3))) else some false).bind fun b1=>some b1)).bind fun b=>(if b then some (.inr (.inr false)) else some (.inl (IntKind.i64.wrap (i+1))))))) else some (.inr (.inl ())))
noncomputable def ZFW:(Unit ⊕ Bool)→Option (Bool)
 | (.inl _)=>some (true)
 | (.inr v)=>some (v)
noncomputable def ZBi (l:(List Str)):Option (Bool):=
 ((loop (ZFV l) 0).bind (ZFW))
noncomputable def ZHH (m:ZBg):((List Str)×Int)→Option (((List Str)×Int) ⊕ ((List Str) ⊕ Bool))
 | (names,i)=>(if(decide (i<(m.v.2.2.2.2.2.1.length:Int))) then((nth m.v.2.2.2.2.2.1 i).bind fun v1=>((app 16 names [v1.v.1]).bind fun l=>((nth m.v.2.2.2.2.2.1 i).bind fun v2=>(if(decide ((v2.v.2.1.length:Int) > 256)) then some (.inr (.inr false)) else some (.inl (l,(IntKind.i64.wrap (i+1)))))))) else some (.inr (.inl names)))
noncomputable def ZHI (m:ZBg):((List Str) ⊕ Bool)→Option (Bool)
 | (.inl names1)=>((ZDs m.v.2.2.2.2.2.2.1).bind fun r_6=>((ZBi names1).bind fun r_7=>((if r_7 then some r_6.2 else some false).bind fun b8=>((if b8 then some (r_6.1==m.v.2.2.2.1) else some false).bind fun b9=>((if b9 then((if(m.v.1 !=3) then some true else some (m.v.2.2.2.1==0)).bind fun b11=>some b11) else some false).bind fun b10=>some (b10))))))
 | (.inr v)=>some (v)
noncomputable def ZEa (m:ZBg):Option (Bool):=
 ((ZAn m.v.1 1 3).bind fun r_=>((if(!r_) then some true else((ZAn m.v.2.1 0 4095).bind fun r_1=>some (!r_1))).bind fun b=>((if b then some true else((ZAn m.v.2.2.1 0 64).bind fun r_2=>some (!r_2))).bind fun b1=>((if b1 then some true else((ZAn m.v.2.2.2.1 0 32768).bind fun r_3=>some (!r_3))).bind fun b2=>((if b2 then some true else some (decide ((m.v.2.2.2.2.2.1.length:Int) > 8))).bind fun b3=>(if b3 then some (false) else((if(m.v.1==3) then((ZAn ((List.length m.v.2.2.2.2.1:Nat):Int) 1 1000).bind fun r_4=>((if(!r_4) then some true else((ZDY m.v.2.2.2.2.1).bind fun r_5=>some (!r_5))).bind fun b5=>some b5)) else some false).bind fun b4=>((if b4 then some true else((if(m.v.1 !=3) then some (!eqS m.v.2.2.2.2.1 (str [])) else some false).bind fun b7=>some b7)).bind fun b6=>(if b6 then some (false) else((loop (ZHH m) ([],0)).bind (ZHI m)))))))))))
noncomputable def ZEm (l:ZAb):Int→Option (Int ⊕ (Unit ⊕ Bool))
 | i=>(if(decide (i<(l.v.2.2.1.length:Int))) then((nth l.v.2.2.1 i).bind fun v1=>((ZAn v1 0 1024).bind fun r_1=>((if(!r_1) then some true else((if l.v.1 then((nth l.v.2.2.1 i).bind fun v2=>some (v2==0)) else some false).bind fun b3=>some b3)).bind fun b2=>(if b2 then some (.inr (.inr false)) else some (.inl (IntKind.i64.wrap (i+1))))))) else some (.inr (.inl ())))
noncomputable def ZEn:(Unit ⊕ Bool)→Option (Bool)
 | (.inl _)=>some (true)
 | (.inr v)=>some (v)
noncomputable def ZBt (l:ZAb):Option (Bool):=
 ((if(decide ((l.v.2.1.length:Int) > 256)) then some true else((ZBi l.v.2.1).bind fun r_=>some (!r_))).bind fun b=>((if b then some true else some ((l.v.2.2.1.length:Int) !=(l.v.2.1.length:Int))).bind fun b1=>(if b1 then some (false) else((loop (ZEm l) 0).bind (ZEn)))))
noncomputable def ZBy (x:ZAF):Option (Bool):=
 ((ZEa (Rec.mk (x.v.2.1,x.v.2.2.1,x.v.2.2.2.1,(0:Int),x.v.2.2.2.2.2.1,x.v.2.2.2.2.2.2.2.2.1,([]:(List RefR)),()):ZBg)).bind fun r_=>((if(!r_) then some true else some (decide ((x.v.2.2.2.2.1.length:Int) > 32768))).bind fun b=>((if b then some true else((if(x.v.2.1 !=1) then some (decide ((x.v.2.2.2.2.1.length:Int) > 0)) else some false).bind fun b2=>some b2)).bind fun b1=>((if b1 then some true else some (decide (x.v.1<1))).bind fun b3=>((if b3 then some true else some (decide (x.v.1 > 1024))).bind fun b4=>(if b4 then some (false) else(if(x.v.2.1 !=2) then((if((x.v.2.2.2.2.2.2.1.length:Int)==0) then some ((x.v.2.2.2.2.2.2.2.1.length:Int)==0) else some false).bind fun b5=>some (b5)) else((if(x.v.2.2.2.1==1) then some (decide ((x.v.2.2.2.2.2.2.1.length:Int)≤128)) else some false).bind fun b6=>((if b6 then((ZBt (Rec.mk (true,x.v.2.2.2.2.2.2.1,x.v.2.2.2.2.2.2.2.1,()):ZAb)).bind fun r_1=>some r_1) else some false).bind fun b7=>some (b7))))))))))
noncomputable def ZDN (v1:ZAF) (f:FsR):Int→Option (Int ⊕ (Unit ⊕ Bool))
 | k=>(if(decide (k<(v1.v.2.2.2.2.2.2.2.1.length:Int))) then((nth v1.v.2.2.2.2.2.2.2.1 k).bind fun v4=>((ZA8 f v4).bind fun r_1=>(if(decide (r_1<0)) then some (.inr (.inr false)) else some (.inl (IntKind.i64.wrap (k+1)))))) else some (.inr (.inl ())))
noncomputable def ZEo (i:Int):(Unit ⊕ Bool)→Option (Int ⊕ (Unit ⊕ Bool))
 | (.inl _)=>some (.inl (IntKind.i64.wrap (i+1)))
 | (.inr v3)=>some (.inr (.inr v3))
noncomputable def ZEp (f:FsR):Int→Option (Int ⊕ (Unit ⊕ Bool))
 | i=>(if(decide (i<(f.v.1.length:Int))) then((nth f.v.1 i).bind fun v1=>((ZBy v1).bind fun r_=>((if(!r_) then some true else((if(decide (i > 0)) then((nth f.v.1 (IntKind.i64.wrap (i - 1))).bind fun v2=>some (decide (v1.v.1≤v2.v.1))) else some false).bind fun b1=>some b1)).bind fun b=>(if b then some (.inr (.inr false)) else((loop (ZDN v1 f) 0).bind (ZEo i)))))) else some (.inr (.inl ())))
noncomputable def ZEq:(Unit ⊕ Bool)→Option (Bool)
 | (.inl _)=>some (true)
 | (.inr v)=>some (v)
noncomputable def ZCf (f:FsR):Option (Bool):=
 ((loop (ZEp f) 0).bind (ZEq))
noncomputable def ZEb (f:FsR):Int→Option (Int ⊕ (Unit ⊕ Bool))
 | i=>(if(decide (i<(f.v.1.length:Int))) then((nth f.v.1 i).bind fun v3=>((ZCM f v3.v.1).bind fun r_1=>((if(v3.v.2.1 !=2) then some (r_1 !=v3.v.2.2.2.1) else some false).bind fun b6=>((if b6 then some true else((if(v3.v.2.1==2) then((if(decide (r_1 > 1)) then some true else((if(i==0) then some (decide (r_1 > 0)) else some false).bind fun b10=>some b10)).bind fun b9=>((if b9 then some true else((ZEY f v3.v.1).bind fun r_2=>some (!r_2))).bind fun b11=>some b11)) else some false).bind fun b8=>some b8)).bind fun b7=>(if b7 then some (.inr (.inr false)) else some (.inl (IntKind.i64.wrap (i+1)))))))) else some (.inr (.inl ())))
noncomputable def ZGB:(Unit ⊕ Bool)→Option (Bool)
 | (.inl _)=>some (true)
 | (.inr v2)=>some (v2)
noncomputable def ZBP (f:FsR):Option (Bool):=
 ((if(decide ((f.v.1.length:Int)<1)) then some true else some (decide ((f.v.1.length:Int) > 512))).bind fun b=>((if b then some true else((nth f.v.1 0).bind fun v=>some (v.v.1 !=1))).bind fun b1=>((if b1 then some true else((nth f.v.1 0).bind fun v1=>some (v1.v.2.1 !=2))).bind fun b2=>((if b2 then some true else some (decide (f.v.2.1<2))).bind fun b3=>((if b3 then some true else some (decide (f.v.2.1 > 513))).bind fun b4=>((if b4 then some true else((ZCf f).bind fun r_=>some (!r_))).bind fun b5=>(if b5 then some (false) else((loop (ZEb f) 0).bind (ZGB)))))))))
noncomputable def ZDF (f:FsR) (x:ZAF):Int→Option (Int ⊕ Int)
 | i=>((if(decide (i<(f.v.1.length:Int))) then((nth f.v.1 i).bind fun v=>some (decide (v.v.1<x.v.1))) else some false).bind fun b=>(if b then some (.inl (IntKind.i64.wrap (i+1))) else some (.inr i)))
noncomputable def ZDG (f:FsR) (i1:Int) (x:ZAF) (k:Int):Option (FsR):=
 ((sub f.v.1 0 i1).bind fun l=>((app 144 ([]:(List ZAF)) l).bind fun l1=>((app 144 l1 [x]).bind fun l2=>((sub f.v.1 k (f.v.1.length:Nat)).bind fun l3=>((app 144 l2 l3).bind fun l4=>some ((Rec.mk (l4,f.v.2.1,()):FsR)))))))
noncomputable def ZJg (f:FsR) (x:ZAF):Int→Option (FsR)
 | i1=>((if(decide (i1<(f.v.1.length:Int))) then((nth f.v.1 i1).bind fun v1=>some (v1.v.1==x.v.1)) else some false).bind fun b1=>(if b1 then(ZDG f i1 x (IntKind.i64.wrap (i1+1))) else(ZDG f i1 x i1)))
noncomputable def ZBc (f:FsR) (x:ZAF):Option (FsR):=
 ((loop (ZDF f x) 0).bind (ZJg f x))
noncomputable def ZEF (f:FsR):Int→Option (Int ⊕ Int)
 | num=>((ZA8 f num).bind fun r_1=>((if(decide (r_1≥0)) then some (decide (num≤1024)) else some false).bind fun b=>(if b then some (.inl (IntKind.i64.wrap (num+1))) else some (.inr num))))
noncomputable def ZEG (f:FsR) (num1:Int) (x:ZAF):Option (FsR×Int×Int):=
 ((ZBy x).bind fun r_2=>(if(!r_2) then some (f,0,2) else((ZBc f x).bind fun r_3=>some (r_3,num1,0))))
noncomputable def ZHJ (kind:Int) (f:FsR) (mode:Int) (target:Str):Int→Option (FsR×Int×Int)
 | num1=>(if(kind==2) then(ZEG f num1 (Rec.mk (num1,kind,mode,1,([]:(List UInt8)),target,([]:(List Str)),([]:(List Int)),([]:(List ZAd)),()):ZAF)) else(ZEG f num1 (Rec.mk (num1,kind,mode,(0:Int),([]:(List UInt8)),target,([]:(List Str)),([]:(List Int)),([]:(List ZAd)),()):ZAF)))
noncomputable def ZEc (f:FsR) (kind:Int) (mode:Int) (target:Str):Option (FsR×Int×Int):=
 ((ZBP f).bind fun r_=>(if(!r_) then some (f,0,2) else(if((f.v.1.length:Int)==512) then some (f,0,211) else((loop (ZEF f) f.v.2.1).bind (ZHJ kind f mode target)))))
noncomputable def ZB1 (f:FsR) (dir:Int) (s_:Str):Option (Int×Int):=
 ((ZBP f).bind fun r_=>(if(!r_) then some (0,2) else((ZA8 f dir).bind fun r_1=>(if(decide (r_1<0)) then some (0,201) else((nth f.v.1 r_1).bind fun v=>(if(v.v.2.1 !=2) then some (0,203) else((nth f.v.1 r_1).bind fun v1=>((ZF8 v1 s_).bind fun r_2=>(if(!r_2.2) then some (0,201) else((nth f.v.1 r_1).bind fun v2=>((nth v2.v.2.2.2.2.2.2.2.1 r_2.1).bind fun v3=>some (v3,0))))))))))))
noncomputable def ZGd (f:FsR) (num:Int):Option (FsR×Int):=
 ((ZBP f).bind fun r_=>(if(!r_) then some (f,2) else((ZA8 f num).bind fun r_1=>(if(decide (r_1<0)) then some (f,201) else((ZCM f num).bind fun r_2=>((if(decide (r_2 > 0)) then some true else some (num==1)).bind fun b=>((if b then some true else((nth f.v.1 r_1).bind fun v=>some (decide ((v.v.2.2.2.2.2.2.1.length:Int) > 0)))).bind fun b1=>(if b1 then some (f,215) else((sub f.v.1 0 r_1).bind fun l=>((app 144 ([]:(List ZAF)) l).bind fun l1=>((sub f.v.1 (IntKind.i64.wrap (r_1+1)) (f.v.1.length:Nat)).bind fun l2=>((app 144 l1 l2).bind fun l3=>some ((Rec.mk (l3,f.v.2.1,()):FsR),0)))))))))))))
noncomputable def ZEd (r_:(Int×Int)) (out_:FsR):Option (FsR×Int×Int):=
 some (out_,r_.1,0)
noncomputable def ZHm (f:FsR) (dir:Int) (s_:Str):Option (FsR×Int×Int):=
 ((ZB1 f dir s_).bind fun r_=>(if(r_.2 !=0) then some (f,0,r_.2) else((ZA8 f dir).bind fun r_1=>((nth f.v.1 r_1).bind fun v=>((ZA8 f r_.1).bind fun r_2=>((nth f.v.1 r_2).bind fun v1=>((ZF8 v s_).bind fun r_3=>((sub v.v.2.2.2.2.2.2.1 0 r_3.1).bind fun l=>((app 16 ([]:(List Str)) l).bind fun l1=>((sub v.v.2.2.2.2.2.2.1 (IntKind.i64.wrap (r_3.1+1)) (v.v.2.2.2.2.2.2.1.length:Nat)).bind fun l2=>((app 16 l1 l2).bind fun l3=>((sub v.v.2.2.2.2.2.2.2.1 0 r_3.1).bind fun l4=>((app 8 ([]:(List Int)) l4).bind fun l5=>((sub v.v.2.2.2.2.2.2.2.1 (IntKind.i64.wrap (r_3.1+1)) (v.v.2.2.2.2.2.2.2.1.length:Nat)).bind fun l6=>((app 8 l5 l6).bind fun l7=>((ZBc f (Rec.mk (v.v.1,v.v.2.1,v.v.2.2.1,v.v.2.2.2.1,v.v.2.2.2.2.1,v.v.2.2.2.2.2.1,l3,l7,v.v.2.2.2.2.2.2.2.2.1,()):ZAF)).bind fun r_4=>(if(v1.v.2.1 !=2) then((ZBc r_4 (Rec.mk (v1.v.1,v1.v.2.1,v1.v.2.2.1,(IntKind.i64.wrap (v1.v.2.2.2.1 - 1)),v1.v.2.2.2.2.1,v1.v.2.2.2.2.2.1,v1.v.2.2.2.2.2.2.1,v1.v.2.2.2.2.2.2.2.1,v1.v.2.2.2.2.2.2.2.2.1,()):ZAF)).bind fun r_5=>(ZEd r_ r_5)) else(ZEd r_ r_4))))))))))))))))))
noncomputable def ZLN (f:FsR) (x:ZAF):Option (FsR×Int):=
 ((ZBP f).bind fun r_=>(if(!r_) then some (f,2) else((ZA8 f x.v.1).bind fun r_1=>(if(decide (r_1<0)) then some (f,201) else((nth f.v.1 r_1).bind fun v=>((app 1 ([]:(List UInt8)) x.v.2.2.2.2.1).bind fun l=>((app 40 ([]:(List ZAd)) x.v.2.2.2.2.2.2.2.2.1).bind fun l1=>((ZBy (Rec.mk (v.v.1,v.v.2.1,x.v.2.2.1,v.v.2.2.2.1,l,v.v.2.2.2.2.2.1,v.v.2.2.2.2.2.2.1,v.v.2.2.2.2.2.2.2.1,l1,()):ZAF)).bind fun r_2=>(if(!r_2) then some (f,2) else((ZBc f (Rec.mk (v.v.1,v.v.2.1,x.v.2.2.1,v.v.2.2.2.1,l,v.v.2.2.2.2.2.1,v.v.2.2.2.2.2.2.1,v.v.2.2.2.2.2.2.2.1,l1,()):ZAF)).bind fun r_3=>some (r_3,0)))))))))))
noncomputable def ZBn (f:FsR) (out_:FsR):Option (FsR×Int):=
 ((ZBP out_).bind fun r_6=>(if(!r_6) then some (f,2) else some (out_,0)))
noncomputable def ZCi (v1:ZAF) (s_:Str) (num:Int) (f:FsR) (dir:Int) (y16:ZAF):Option (FsR×Int):=
 ((ZF8 v1 s_).bind fun r_4=>((sub v1.v.2.2.2.2.2.2.1 0 r_4.1).bind fun l=>((app 16 ([]:(List Str)) l).bind fun l1=>((app 16 l1 [s_]).bind fun l2=>((sub v1.v.2.2.2.2.2.2.1 r_4.1 (v1.v.2.2.2.2.2.2.1.length:Nat)).bind fun l3=>((app 16 l2 l3).bind fun l4=>((sub v1.v.2.2.2.2.2.2.2.1 0 r_4.1).bind fun l5=>((app 8 ([]:(List Int)) l5).bind fun l6=>((app 8 l6 [num]).bind fun l7=>((sub v1.v.2.2.2.2.2.2.2.1 r_4.1 (v1.v.2.2.2.2.2.2.2.1.length:Nat)).bind fun l8=>((app 8 l7 l8).bind fun l9=>((ZBc f (Rec.mk (v1.v.1,v1.v.2.1,v1.v.2.2.1,v1.v.2.2.2.1,v1.v.2.2.2.2.1,v1.v.2.2.2.2.2.1,l4,l9,v1.v.2.2.2.2.2.2.2.2.1,()):ZAF)).bind fun r_5=>(if(num !=dir) then((ZBc r_5 y16).bind fun r_7=>(ZBn f r_7)) else(ZBn f r_5))))))))))))))
noncomputable def ZDa (f:FsR) (dir:Int) (s_:Str) (num:Int):Option (FsR×Int):=
 ((ZB1 f dir s_).bind fun r_=>((ZA8 f dir).bind fun r_1=>((if(r_.2==2) then some true else some (r_.2==203)).bind fun b=>((if b then some true else some (decide (r_1<0))).bind fun b1=>(if b1 then some (f,r_.2) else((ZB0 s_).bind fun r_2=>(if(r_2 !=0) then some (f,r_2) else(if(r_.2==0) then some (f,202) else((ZA8 f num).bind fun r_3=>(if(decide (r_3<0)) then some (f,201) else((nth f.v.1 r_3).bind fun v=>((if(v.v.2.1 !=2) then some (v.v.2.2.2.1==64) else some false).bind fun b2=>(if b2 then some (f,210) else((nth f.v.1 r_1).bind fun v1=>(if((v1.v.2.2.2.2.2.2.1.length:Int)==128) then some (f,211) else(if(v.v.2.1 !=2) then(ZCi v1 s_ num f dir (Rec.mk (v.v.1,v.v.2.1,v.v.2.2.1,(IntKind.i64.wrap (v.v.2.2.2.1+1)),v.v.2.2.2.2.1,v.v.2.2.2.2.2.1,v.v.2.2.2.2.2.2.1,v.v.2.2.2.2.2.2.2.1,v.v.2.2.2.2.2.2.2.2.1,()):ZAF)) else(ZCi v1 s_ num f dir v)))))))))))))))))
noncomputable def ZGC (a:(List ZAd)) (b:(List ZAd)):Int→Option (Int ⊕ (Unit ⊕ Bool))
 | i=>(if(decide (i<(a.length:Int))) then((nth a i).bind fun v1=>((nth b i).bind fun v2=>((if(!eqS v1.v.1 v2.v.1) then some true else((nth a i).bind fun v3=>((nth b i).bind fun v4=>some (!eqS (str v3.v.2.1) (str v4.v.2.1))))).bind fun b1=>(if b1 then some (.inr (.inr false)) else some (.inl (IntKind.i64.wrap (i+1))))))) else some (.inr (.inl ())))
noncomputable def ZGD:(Unit ⊕ Bool)→Option (Bool)
 | (.inl _)=>some (true)
 | (.inr v)=>some (v)
noncomputable def ZDb (a:(List ZAd)) (b:(List ZAd)):Option (Bool):=
 (if((a.length:Int) !=(b.length:Int)) then some (false) else((loop (ZGC a b) 0).bind (ZGD)))
noncomputable def ZGE (a:ZAF) (b:ZAF):Int→Option (Int ⊕ (Unit ⊕ Bool))
 | i=>(if(decide (i<(a.v.2.2.2.2.2.2.1.length:Int))) then((nth a.v.2.2.2.2.2.2.1 i).bind fun v1=>((nth b.v.2.2.2.2.2.2.1 i).bind fun v2=>(if(!eqS v1 v2) then some (.inr (.inr false)) else some (.inl (IntKind.i64.wrap (i+1)))))) else some (.inr (.inl ())))
noncomputable def ZGF (a:ZAF) (b:ZAF):Int→Option (Int ⊕ (Unit ⊕ Bool))
 | i1=>(if(decide (i1<(a.v.2.2.2.2.2.2.2.1.length:Int))) then((nth a.v.2.2.2.2.2.2.2.1 i1).bind fun v4=>((nth b.v.2.2.2.2.2.2.2.1 i1).bind fun v5=>(if(v4 !=v5) then some (.inr (.inr false)) else some (.inl (IntKind.i64.wrap (i1+1)))))) else some (.inr (.inl ())))
noncomputable def ZGG:(Unit ⊕ Bool)→Option (Bool)
 | (.inl _)=>some (true)
 | (.inr v3)=>some (v3)
noncomputable def ZGH (a:ZAF) (b:ZAF):(Unit ⊕ Bool)→Option (Bool)
 | (.inl _)=>((loop (ZGF a b) 0).bind (ZGG))
 | (.inr v)=>some (v)
noncomputable def ZDc (a:ZAF) (b:ZAF):Option (Bool):=
 ((if(a.v.1 !=b.v.1) then some true else some (a.v.2.1 !=b.v.2.1)).bind fun b1=>((if b1 then some true else some (a.v.2.2.1 !=b.v.2.2.1)).bind fun b2=>((if b2 then some true else some (a.v.2.2.2.1 !=b.v.2.2.2.1)).bind fun b3=>((if b3 then some true else some (!eqS (str a.v.2.2.2.2.1) (str b.v.2.2.2.2.1))).bind fun b4=>((if b4 then some true else some (!eqS a.v.2.2.2.2.2.1 b.v.2.2.2.2.2.1)).bind fun b5=>((if b5 then some true else some ((a.v.2.2.2.2.2.2.1.length:Int) !=(b.v.2.2.2.2.2.2.1.length:Int))).bind fun b6=>((if b6 then some true else some ((a.v.2.2.2.2.2.2.2.1.length:Int) !=(b.v.2.2.2.2.2.2.2.1.length:Int))).bind fun b7=>((if b7 then some true else((ZDb a.v.2.2.2.2.2.2.2.2.1 b.v.2.2.2.2.2.2.2.2.1).bind fun r_=>some (!r_))).bind fun b8=>(if b8 then some (false) else((loop (ZGE a b) 0).bind (ZGH a b)))))))))))
noncomputable def ZHK (a:FsR) (b:FsR):Int→Option (Int ⊕ (Unit ⊕ Bool))
 | i=>(if(decide (i<(a.v.1.length:Int))) then((nth a.v.1 i).bind fun v1=>((nth b.v.1 i).bind fun v2=>((ZDc v1 v2).bind fun r_=>(if(!r_) then some (.inr (.inr false)) else some (.inl (IntKind.i64.wrap (i+1))))))) else some (.inr (.inl ())))
noncomputable def ZHL:(Unit ⊕ Bool)→Option (Bool)
 | (.inl _)=>some (true)
 | (.inr v)=>some (v)
noncomputable def ZDO (a:FsR) (b:FsR):Option (Bool):=
 ((if(a.v.2.1 !=b.v.2.1) then some true else some ((a.v.1.length:Int) !=(b.v.1.length:Int))).bind fun b1=>(if b1 then some (false) else((loop (ZHK a b) 0).bind (ZHL))))
theorem ZOC (f:FsR) (num:Int) (r:Int) (h:ZA8 f num=some r):MF Tryz.prog pz0 36 [enc f,enc num] s0 fun v _=>ris v r:=by
 refine ZAe [(0,enc f),(1,enc num)] func36 rfl (by simp only[Tryz.f36];rfl) fun ψ=> ?_
 unfold ZA8 at h;refine ZAB<|ZAC<|ZA1 (r:=f) rfl (Enc.self f) Hp.nil fun m xs s hxs hs=>ZAG (v:=enc (0:Int)) rfl<|ZAA<|ZAB<|ZAB<|ZAC<|ZAG (v:=enc (0:Int)) rfl<|ZAA<|ZAQ ?_
 obtain⟨o,hl,h⟩:=bs h;refine ZAm (fun(p:Int) φ s=>match p with | i=>Fx φ [(1,(enc num)),(2,(.ptr m 0)),(5,(enc i))]∧Hp s [(.cells m xs)]) (fun(o:(Unit ⊕ Int)) e φ s=>match o with | (.inl _)=>e= .exit 0∧Fx φ [] | (.inr v)=>e= .ret∧Fx φ [(4,(enc v))]) ?_ hl ⟨FxR rfl,hs⟩ ?_
 ·rintro i o h φ s ⟨hF,hs⟩;rw[←hF.eq];rw[ZHD] at h;refine ZAB<|ZAB<|ZAC<|ZAD rfl<|ZAO ZAk rfl<|ZAK ag22 Sz rfl hxs hs fun y hy=>ZAp underlying22 rfl rfl hy<|ZAL (v:=enc (decide (i<(f.v.1.length:Int)))) rfl rfl rfl<|ZAA ?_
  split at h
  ·rename_i c';refine ZAI rfl c'<|ZAM<|ZAB<|ZAQ<|ZAB<|ZAC<|ZAO ZAk rfl<|ZAK ag22 Sz rfl hxs hs fun y1 hy1=>ZAD rfl ?_
   obtain⟨v1,hx,h⟩:=bs h;refine ZAv underlying22 sh38 rfl rfl hy1 hx fun p hp=>ZB5 ZBO Sz rfl hp fun p1 hp1=>ZBG ag3 rfl hp1 fun y2 hy2=> ?_
   cases hy2;refine ZAD rfl<|ZAL (v:=enc (v1.v.1==num)) rfl rfl rfl<|ZAA ?_
   split at h
   ·rename_i c';refine ZAI rfl c'<|ZAB<|ZAC<|ZAD rfl<|ZAG rfl<|ZAA<|ZAN ?_
    show if _ then _ else _
    rw[if_neg (by simp)]
    rw[←oi h];exact⟨_,rfl,rfl,FxR rfl⟩
   rename_i c';refine ZAJ rfl c'<|ZAM<|ZAC<|ZAD rfl<|ZAL (v:=enc (IntKind.i64.wrap (i+1))) rfl rfl rfl<|ZAG rfl<|ZAA ?_
   rw[←oi h];exact⟨_,rfl,⟨FxR rfl,hs⟩⟩
  rename_i c';refine ZAJ rfl c'<|ZAl ?_
  rw[←oi h];exact⟨_,rfl,rfl,trivial⟩
 intro e φ s hE;rcases o with _u | v
 ·obtain⟨rfl,hF⟩:=hE;rw[←hF.eq];rw[ZHE] at h;show if _ then _ else _
  rw[if_pos rfl];refine ZAB<|ZAC<|ZAG (v:=enc ((-1):Int)) rfl<|ZAA<|ZAN ?_
  rw[←oi h];exact⟨rfl,KE1 (a:=((-1):Int)) rfl rfl (rfl:is _ ((-1):Int)) (rfl:is _ ((-1):Int))⟩
 obtain⟨rfl,hF⟩:=hE;rw[←hF.eq];rw[ZHE] at h;show if _ then _ else _
 rw[if_neg (by simp)]
 rw[←oi h];exact⟨rfl,KE1 (a:=v) rfl rfl (rfl:is _ v) (rfl:is _ v)⟩
theorem ZOD:ZAr Tryz.prog 36 (fun _=>Fn (fun a:FsR×Int×Unit=>ZA8 a.1 a.2.1)):=fnC ZTj ⟨_,func36,rfl⟩<|fun a r h=>ZOC a.1 a.2.1 r h
noncomputable def pz1:Prims:=pz0.add 36 (Fn (fun a:FsR×Int×Unit=>ZA8 a.1 a.2.1))
theorem ZTk:ZAV Tryz.prog pz1:=ZAS ZTj ZOD
theorem ZLO (f:FsR) (num:Int) (r:Int) (h:ZCM f num=some r):MF Tryz.prog pz1 50 [enc f,enc num] s0 fun v _=>ris v r:=by
 refine ZAe [(0,enc f),(1,enc num)] func50 rfl (by simp only[Tryz.f50];rfl) fun ψ=> ?_
 unfold ZCM at h;refine ZAB<|ZAC<|ZA1 (r:=f) rfl (Enc.self f) Hp.nil fun m xs s hxs hs=>ZAG (v:=enc (0:Int)) rfl<|ZAA<|ZAB<|ZAC<|ZAG (v:=enc (0:Int)) rfl<|ZAA<|ZAB<|ZAB<|ZAC<|ZAG (v:=enc (0:Int)) rfl<|ZAA<|ZAQ ?_
 obtain⟨n1,hl,h⟩:=bs h;refine ZAm (fun(p:(Int×Int)) φ s=>match p with | (n,i)=>Fx φ [(1,(enc num)),(2,(.ptr m 0)),(5,(enc n)),(6,(enc i))]∧Hp s [(.cells m xs)]) (fun(o:Int) e φ s=>match o with | n1=>e= .exit 0∧Fx φ [(5,(enc n1))]) ?_ hl ⟨FxR rfl,hs⟩ ?_
 ·rintro⟨n,i⟩ o h φ s ⟨hF,hs⟩;rw[←hF.eq];rw[ZDp] at h;refine ZAB<|ZAB<|ZAC<|ZAD rfl<|ZAO ZAk rfl<|ZAK ag22 Sz rfl hxs hs fun y hy=>ZAp underlying22 rfl rfl hy<|ZAL (v:=enc (decide (i<(f.v.1.length:Int)))) rfl rfl rfl<|ZAA ?_
  split at h
  ·rename_i c';refine ZAI rfl c'<|ZAM<|ZAB<|ZAQ<|ZAB<|ZAC<|ZAG (v:=enc (0:Int)) rfl<|ZAA<|ZAQ ?_
   obtain⟨n3,hl,h⟩:=bs h;refine ZAm (fun(p:(Int×Int)) φ s=>match p with | (n2,k)=>Fx φ [(1,(enc num)),(2,(.ptr m 0)),(5,(enc n2)),(6,(enc i)),(7,(enc k))]∧Hp s [(.cells m xs)]) (fun(o:Int) e φ s=>match o with | n3=>e= .exit 2∧Fx φ [(1,(enc num)),(2,(.ptr m 0)),(5,(enc n3)),(6,(enc i))]∧Hp s [(.cells m xs)]) ?_ hl ⟨FxR rfl,hs⟩ ?_
   ·rintro⟨n2,k⟩ o h φ s ⟨hF,hs⟩;rw[←hF.eq];rw[ZCL] at h;refine ZAB<|ZAB<|ZAC<|ZAD rfl<|ZAO ZAk rfl<|ZAK ag22 Sz rfl hxs hs fun y1 hy1=>ZAD rfl ?_
    obtain⟨v,hx,h⟩:=bs h;refine ZAv underlying22 sh38 rfl rfl hy1 hx fun p hp=>ZB5 ZBY (Ss (Ss (Ss (Ss (Ss (Ss (Ss Sz))))))) rfl hp fun p1 hp1=>ZBG ag35 rfl hp1 fun y2 hy2=>ZAp underlying35 rfl rfl hy2<|ZAL (v:=enc (decide (k<(v.v.2.2.2.2.2.2.2.1.length:Int)))) rfl rfl rfl<|ZAA ?_
    split at h
    ·rename_i c';refine ZAI rfl c'<|ZAM<|ZDW (fun φ s=>∃(n4:Int),Fx φ [(1,(enc num)),(2,(.ptr m 0)),(5,(enc n4)),(6,(enc i)),(7,(enc k))]∧Hp s [(.cells m xs)]∧ZCs k n4=some o) ?_ ?_
     ·refine ZAQ ?_
      refine ZAB<|ZAC<|ZAO ZAk rfl<|ZAK ag22 Sz rfl hxs hs fun y3 hy3=>ZAD rfl ?_
      obtain⟨v1,hx1,h⟩:=bs h;refine ZAv underlying22 sh38 rfl rfl hy3 hx1 fun p2 hp2=>ZB5 ZBY (Ss (Ss (Ss (Ss (Ss (Ss (Ss Sz))))))) rfl hp2 fun p3 hp3=>ZBG ag35 rfl hp3 fun y4 hy4=>ZAD rfl ?_
      obtain⟨v2,hx2,h⟩:=bs h;refine ZAv underlying35 sh3 rfl rfl hy4 hx2 fun p4 hp4=>ZCq rfl ag3 rfl hp4 fun y5 hy5=> ?_
      cases hy5;refine ZAD rfl<|ZAL (v:=enc (v2==num)) rfl rfl rfl<|ZAA ?_
      split at h
      ·rename_i c';refine ZAI rfl c'<|ZAC<|ZAD rfl<|ZAL (v:=enc (IntKind.i64.wrap (n2+1))) rfl rfl rfl<|ZAG rfl<|ZAA ?_
       exact⟨(IntKind.i64.wrap (n2+1)),FxR rfl,hs,h⟩
      rename_i c';refine ZAJ rfl c'<|ZAM ?_
      exact⟨n2,FxR rfl,hs,h⟩
     rintro φ s ⟨n4,hF,hs,h⟩;rw[←hF.eq];unfold ZCs at h;refine ZAC<|ZAD rfl<|ZAL (v:=enc (IntKind.i64.wrap (k+1))) rfl rfl rfl<|ZAG rfl<|ZAA ?_
     rw[←oi h];exact⟨_,rfl,⟨FxR rfl,hs⟩⟩
    rename_i c';refine ZAJ rfl c'<|ZAl ?_
    rw[←oi h];exact⟨_,rfl,rfl,⟨FxR rfl,hs⟩⟩
   intro e φ s hE;obtain⟨rfl,hF,hs⟩:=hE;rw[←hF.eq];rw[ZHj] at h;show if _ then _ else _
   rw[if_pos rfl];refine ZAC<|ZAD rfl<|ZAL (v:=enc (IntKind.i64.wrap (i+1))) rfl rfl rfl<|ZAG rfl<|ZAA ?_
   rw[←oi h];exact⟨_,rfl,⟨FxR rfl,hs⟩⟩
  rename_i c';refine ZAJ rfl c'<|ZAl ?_
  rw[←oi h];exact⟨_,rfl,rfl,FxR rfl⟩
 intro e φ s hE;obtain⟨rfl,hF⟩:=hE;rw[←hF.eq];rw[ZHk] at h;show if _ then _ else _
 rw[if_pos rfl];refine ZAB<|ZAC<|ZAD rfl<|ZAG rfl<|ZAA<|ZAN ?_
 rw[←oi h];exact⟨rfl,KE1 (a:=n1) rfl rfl (rfl:is _ n1) (rfl:is _ n1)⟩
theorem ZLP:ZAr Tryz.prog 50 (fun _=>Fn (fun a:FsR×Int×Unit=>ZCM a.1 a.2.1)):=fnC ZTk ⟨_,func50,rfl⟩<|fun a r h=>ZLO a.1 a.2.1 r h
noncomputable def pz2:Prims:=pz1.add 50 (Fn (fun a:FsR×Int×Unit=>ZCM a.1 a.2.1))
theorem ZTl:ZAV Tryz.prog pz2:=ZAS ZTk ZLP
theorem ZQ5 (f:FsR) (num:Int) (r:Int) (h:ZJe f num=some r):MF Tryz.prog pz2 82 [enc f,enc num] s0 fun v _=>ris v r:=by
 refine ZAe [(0,enc f),(1,enc num)] func82 rfl (by simp only[Tryz.f82];rfl) fun ψ=> ?_
 unfold ZJe at h;refine ZAB<|ZAC<|ZA1 (r:=f) rfl (Enc.self f) Hp.nil fun m xs s hxs hs=>ZAG (v:=enc (0:Int)) rfl<|ZAA<|ZAB<|ZAB<|ZAC<|ZAG (v:=enc (0:Int)) rfl<|ZAA<|ZAQ ?_
 obtain⟨o,hl,h⟩:=bs h;refine ZAm (fun(p:Int) φ s=>match p with | i=>Fx φ [(1,(enc num)),(2,(.ptr m 0)),(5,(enc i))]∧Hp s [(.cells m xs)]) (fun(o:(Unit ⊕ Int)) e φ s=>match o with | (.inl _)=>e= .exit 0∧Fx φ [] | (.inr v)=>e= .ret∧Fx φ [(4,(enc v))]) ?_ hl ⟨FxR rfl,hs⟩ ?_
 ·rintro i o h φ s ⟨hF,hs⟩;rw[←hF.eq];rw[ZE9] at h;refine ZAB<|ZAB<|ZAC<|ZAD rfl<|ZAO ZAk rfl<|ZAK ag22 Sz rfl hxs hs fun y hy=>ZAp underlying22 rfl rfl hy<|ZAL (v:=enc (decide (i<(f.v.1.length:Int)))) rfl rfl rfl<|ZAA ?_
  split at h
  ·rename_i c';refine ZAI rfl c'<|ZAM<|ZAB<|ZAQ<|ZAB<|ZAC<|ZAG (v:=enc (0:Int)) rfl<|ZAA<|ZAQ ?_
   obtain⟨o,hl,h⟩:=bs h;refine ZAm (fun(p:Int) φ s=>match p with | k=>Fx φ [(1,(enc num)),(2,(.ptr m 0)),(5,(enc i)),(6,(enc k))]∧Hp s [(.cells m xs)]) (fun(o:(Unit ⊕ Int)) e φ s=>match o with | (.inl _)=>e= .exit 2∧Fx φ [(1,(enc num)),(2,(.ptr m 0)),(5,(enc i))]∧Hp s [(.cells m xs)] | (.inr v1)=>e= .ret∧Fx φ [(4,(enc v1))]) ?_ hl ⟨FxR rfl,hs⟩ ?_
   ·rintro k o h φ s ⟨hF,hs⟩;rw[←hF.eq];rw[ZE8] at h;refine ZAB<|ZAB<|ZAC<|ZAD rfl<|ZAO ZAk rfl<|ZAK ag22 Sz rfl hxs hs fun y1 hy1=>ZAD rfl ?_
    obtain⟨v2,hx,h⟩:=bs h;refine ZAv underlying22 sh38 rfl rfl hy1 hx fun p hp=>ZB5 ZBY (Ss (Ss (Ss (Ss (Ss (Ss (Ss Sz))))))) rfl hp fun p1 hp1=>ZBG ag35 rfl hp1 fun y2 hy2=>ZAp underlying35 rfl rfl hy2<|ZAL (v:=enc (decide (k<(v2.v.2.2.2.2.2.2.2.1.length:Int)))) rfl rfl rfl<|ZAA ?_
    split at h
    ·rename_i c';refine ZAI rfl c'<|ZAM<|ZAB<|ZAQ<|ZAB<|ZAC<|ZAO ZAk rfl<|ZAK ag22 Sz rfl hxs hs fun y3 hy3=>ZAD rfl ?_
     obtain⟨v3,hx1,h⟩:=bs h;refine ZAv underlying22 sh38 rfl rfl hy3 hx1 fun p2 hp2=>ZB5 ZBY (Ss (Ss (Ss (Ss (Ss (Ss (Ss Sz))))))) rfl hp2 fun p3 hp3=>ZBG ag35 rfl hp3 fun y4 hy4=>ZAD rfl ?_
     obtain⟨v4,hx2,h⟩:=bs h;refine ZAv underlying35 sh3 rfl rfl hy4 hx2 fun p4 hp4=>ZCq rfl ag3 rfl hp4 fun y5 hy5=> ?_
     cases hy5;refine ZAD rfl<|ZAL (v:=enc (v4==num)) rfl rfl rfl<|ZAA ?_
     split at h
     ·rename_i c';refine ZAI rfl c'<|ZAB<|ZAC<|ZAO ZAk rfl<|ZAK ag22 Sz rfl hxs hs fun y6 hy6=>ZAD rfl ?_
      obtain⟨v5,hx3,h⟩:=bs h;refine ZAv underlying22 sh38 rfl rfl hy6 hx3 fun p5 hp5=>ZB5 ZBO Sz rfl hp5 fun p6 hp6=>ZBG ag3 rfl hp6 fun y7 hy7=> ?_
      cases hy7;refine ZAG rfl<|ZAA<|ZAN ?_
      show if _ then _ else _
      rw[if_neg (by simp)]
      rw[←oi h];exact⟨_,rfl,rfl,FxR rfl⟩
     rename_i c';refine ZAJ rfl c'<|ZAM<|ZAC<|ZAD rfl<|ZAL (v:=enc (IntKind.i64.wrap (k+1))) rfl rfl rfl<|ZAG rfl<|ZAA ?_
     rw[←oi h];exact⟨_,rfl,⟨FxR rfl,hs⟩⟩
    rename_i c';refine ZAJ rfl c'<|ZAl ?_
    rw[←oi h];exact⟨_,rfl,rfl,⟨FxR rfl,hs⟩⟩
   intro e φ s hE;rcases o with _u | v1
   ·obtain⟨rfl,hF,hs⟩:=hE;rw[←hF.eq];rw[ZJc] at h;show if _ then _ else _
    rw[if_pos rfl];refine ZAC<|ZAD rfl<|ZAL (v:=enc (IntKind.i64.wrap (i+1))) rfl rfl rfl<|ZAG rfl<|ZAA ?_
    rw[←oi h];exact⟨_,rfl,⟨FxR rfl,hs⟩⟩
   obtain⟨rfl,hF⟩:=hE;rw[←hF.eq];rw[ZJc] at h;show if _ then _ else _
   rw[if_neg (by simp)]
   show if _ then _ else _
   rw[if_neg (by simp)]
   rw[←oi h];exact⟨_,rfl,rfl,FxR rfl⟩
  rename_i c';refine ZAJ rfl c'<|ZAl ?_
  rw[←oi h];exact⟨_,rfl,rfl,trivial⟩
 intro e φ s hE;rcases o with _u | v
 ·obtain⟨rfl,hF⟩:=hE;rw[←hF.eq];rw[ZJd] at h;show if _ then _ else _
  rw[if_pos rfl];refine ZAB<|ZAC<|ZAG (v:=enc (0:Int)) rfl<|ZAA<|ZAN ?_
  rw[←oi h];exact⟨rfl,KE1 (a:=(0:Int)) rfl rfl (rfl:is _ (0:Int)) (rfl:is _ (0:Int))⟩
 obtain⟨rfl,hF⟩:=hE;rw[←hF.eq];rw[ZJd] at h;show if _ then _ else _
 rw[if_neg (by simp)]
 rw[←oi h];exact⟨rfl,KE1 (a:=v) rfl rfl (rfl:is _ v) (rfl:is _ v)⟩
theorem ZQ6:ZAr Tryz.prog 82 (fun _=>Fn (fun a:FsR×Int×Unit=>ZJe a.1 a.2.1)):=fnC ZTl ⟨_,func82,rfl⟩<|fun a r h=>ZQ5 a.1 a.2.1 r h
noncomputable def pz3:Prims:=pz2.add 82 (Fn (fun a:FsR×Int×Unit=>ZJe a.1 a.2.1))
theorem ZTm:ZAV Tryz.prog pz3:=ZAS ZTl ZQ6
theorem ZMt (f:FsR) (r:Bool) (h:ZDX f=some r):MF Tryz.prog pz3 9 [enc f] s0 fun v _=>ris v r:=by
 refine ZAe [(0,enc f)] func9 rfl (by simp only[Tryz.f9];rfl) fun ψ=> ?_
 unfold ZDX at h;refine ZAB<|ZAC<|ZA1 (r:=f) rfl (Enc.self f) Hp.nil fun m xs s hxs hs=>ZAG (v:=enc false) rfl<|ZAA<|ZAB<|ZAB<|ZAC<|ZAO ZAk rfl<|ZAK ag22 Sz rfl hxs hs fun y hy=>ZAp underlying22 rfl rfl hy<|ZAL (v:=enc (decide ((f.v.1.length:Int) > 60))) rfl rfl rfl<|ZAA ?_
 split at h
 ·rename_i c';refine ZAI rfl c'<|ZAB<|ZAC<|ZAG (v:=enc false) rfl<|ZAA<|ZAN ?_
  rw[←oi h];exact⟨rfl,KE1 (a:=(false:Bool)) rfl rfl (rfl:is _ (false:Bool)) (rfl:is _ (false:Bool))⟩
 rename_i c';refine ZAJ rfl c'<|ZAM<|ZAB<|ZAC<|ZAG (v:=enc (0:Int)) rfl<|ZAA<|ZAB<|ZAB<|ZAC<|ZAG (v:=enc (0:Int)) rfl<|ZAA<|ZAQ ?_
 obtain⟨n1,hl,h⟩:=bs h;refine ZAm (fun(p:(Int×Int)) φ s=>match p with | (n,i)=>Fx φ [(1,(.ptr m 0)),(3,(enc n)),(4,(enc i))]∧Hp s [(.cells m xs)]) (fun(o:Int) e φ s=>match o with | n1=>e= .exit 0∧Fx φ [(3,(enc n1))]) ?_ hl ⟨FxR rfl,hs⟩ ?_
 ·rintro⟨n,i⟩ o h φ s ⟨hF,hs⟩;rw[←hF.eq];rw[ZEX] at h;refine ZAB<|ZAB<|ZAC<|ZAD rfl<|ZAO ZAk rfl<|ZAK ag22 Sz rfl hxs hs fun y1 hy1=>ZAp underlying22 rfl rfl hy1<|ZAL (v:=enc (decide (i<(f.v.1.length:Int)))) rfl rfl rfl<|ZAD rfl ?_
  obtain⟨b,hb_b,h⟩:=bs h;refine ZAT 3 (fun φ s=>Hp s [(.cells m xs)]∧Fx φ [(1,(.ptr m 0)),(3,(enc n)),(4,(enc i)),(17,(enc b))]) ?_ ?_
  ·split at hb_b
   ·rename_i cg;refine ZAH rfl rfl cg<|ZAD rfl<|ZAH rfl rfl cg<|ZAL (v:=enc (decide (n≤50000))) rfl rfl rfl<|ZAY rfl cg rfl<|ZAA ?_
    rw[←oi hb_b];exact⟨hs,FxR rfl⟩
   rename_i cg1;refine ZAE rfl rfl cg1<|ZAE rfl rfl cg1<|ZAX (v:=enc false) rfl cg1 rfl<|ZAA ?_
   rw[←oi hb_b];exact⟨hs,FxR rfl⟩
  rintro φ s ⟨hs,hF⟩;rw[←hF.eq];refine ZAA ?_
  split at h
  ·rename_i c';refine ZAI rfl c'<|ZAM<|ZAB<|ZAQ<|ZAC<|ZAD rfl<|ZAO ZAk rfl<|ZAK ag22 Sz rfl hxs hs fun y2 hy2=>ZAD rfl ?_
   obtain⟨v,hx,h⟩:=bs h;refine ZAv underlying22 sh38 rfl rfl hy2 hx fun p hp=>ZB5 ZHi (Ss (Ss (Ss (Ss Sz)))) rfl hp fun p1 hp1=>ZBG ag33 rfl hp1 fun y3 hy3=>ZAp underlying33 rfl rfl hy3<|ZAL (v:=enc (IntKind.i64.wrap (n+(v.v.2.2.2.2.1.length:Int)))) rfl rfl rfl<|ZAG rfl<|ZAA<|ZAC<|ZAD rfl<|ZAL (v:=enc (IntKind.i64.wrap (i+1))) rfl rfl rfl<|ZAG rfl<|ZAA ?_
   rw[←oi h];exact⟨_,rfl,⟨FxR rfl,hs⟩⟩
  rename_i c';refine ZAJ rfl c'<|ZAl ?_
  rw[←oi h];exact⟨_,rfl,rfl,FxR rfl⟩
 intro e φ s hE;obtain⟨rfl,hF⟩:=hE;rw[←hF.eq];rw[ZIk] at h;show if _ then _ else _
 rw[if_pos rfl];refine ZAB<|ZAC<|ZAD rfl<|ZAL (v:=enc (decide (n1≤50000))) rfl rfl rfl<|ZAG rfl<|ZAA<|ZAN ?_
 rw[←oi h];exact⟨rfl,KE1 (a:=((decide (n1≤50000)):Bool)) rfl rfl (rfl:is _ ((decide (n1≤50000)):Bool)) (rfl:is _ ((decide (n1≤50000)):Bool))⟩
theorem ZMu:ZAr Tryz.prog 9 (fun _=>Fn (fun a:FsR×Unit=>ZDX a.1)):=fnC ZTm ⟨_,func9,rfl⟩<|fun a r h=>ZMt a.1 r h
noncomputable def pz4:Prims:=pz3.add 9 (Fn (fun a:FsR×Unit=>ZDX a.1))
theorem ZTn:ZAV Tryz.prog pz4:=ZAS ZTm ZMu
theorem ZQ7 (x:ZAF) (s_:Str) (r:Int×Bool) (h:ZF8 x s_=some r):MF Tryz.prog pz4 43 [enc x,enc s_] s0 fun v _=>ris v r:=by
 refine ZAe [(0,enc x),(1,enc s_)] func43 rfl (by simp only[Tryz.f43];rfl) fun ψ=> ?_
 unfold ZF8 at h;refine ZAB<|ZAC<|ZA1 (r:=x) rfl (Enc.self x) Hp.nil fun m xs s hxs hs=>ZAG (v:=enc (0:Int)) rfl<|ZAG (v:=enc false) rfl<|ZAA<|ZAB<|ZAC<|ZAG (v:=enc (0:Int)) rfl<|ZAA<|ZAB<|ZAQ ?_
 obtain⟨i1,hl,h⟩:=bs h;refine ZAm (fun(p:Int) φ s=>match p with | i=>Fx φ [(1,(enc s_)),(2,(.ptr m 0)),(6,(enc i))]∧Hp s [(.cells m xs)]) (fun(o:Int) e φ s=>match o with | i1=>e= .exit 0∧Fx φ [(1,(enc s_)),(2,(.ptr m 0)),(6,(enc i1))]∧Hp s [(.cells m xs)]) ?_ hl ⟨FxR rfl,hs⟩ ?_
 ·rintro i o h φ s ⟨hF,hs⟩;rw[←hF.eq];rw[ZF7] at h;refine ZAB<|ZAB<|ZAC<|ZAD rfl<|ZAO ZBJ rfl<|ZAK ag34 (Ss (Ss (Ss (Ss (Ss (Ss Sz)))))) rfl hxs hs fun y hy=>ZAp underlying34 rfl rfl hy<|ZAL (v:=enc (decide (i<(x.v.2.2.2.2.2.2.1.length:Int)))) rfl rfl rfl<|ZAD rfl ?_
  obtain⟨b,hb_b,h⟩:=bs h;refine ZAT 8 (fun φ s=>Hp s [(.cells m xs)]∧Fx φ [(1,(enc s_)),(2,(.ptr m 0)),(6,(enc i)),(20,(enc b))]) ?_ ?_
  ·split at hb_b
   ·rename_i cg;refine ZAH rfl rfl cg<|ZAO ZBJ rfl<|ZAH rfl rfl cg<|ZAK ag34 (Ss (Ss (Ss (Ss (Ss (Ss Sz)))))) rfl hxs hs fun y1 hy1=>ZAH rfl rfl cg<|ZAD rfl<|ZAH rfl rfl cg ?_
    obtain⟨v,hx,hb_b⟩:=bs hb_b;refine ZAv underlying34 sh9 rfl rfl hy1 hx fun p hp=>ZAH rfl rfl cg<|ZCq rfl ag9 rfl hp fun y2 hy2=> ?_
    cases hy2;refine ZAH rfl rfl cg<|ZAD rfl<|ZAH rfl rfl cg<|ZAL (v:=enc ((ltS v s_):Bool)) rfl rfl rfl<|ZAY rfl cg rfl<|ZAA ?_
    rw[←oi hb_b];exact⟨hs,FxR rfl⟩
   rename_i cg1;refine ZAE rfl rfl cg1<|ZAE rfl rfl cg1<|ZAE rfl rfl cg1<|ZAE rfl rfl cg1<|ZAE rfl rfl cg1<|ZAE rfl rfl cg1<|ZAE rfl rfl cg1<|ZAX (v:=enc false) rfl cg1 rfl<|ZAA ?_
   rw[←oi hb_b];exact⟨hs,FxR rfl⟩
  rintro φ s ⟨hs,hF⟩;rw[←hF.eq];refine ZAA ?_
  split at h
  ·rename_i c';refine ZAI rfl c'<|ZAM<|ZAQ<|ZAC<|ZAD rfl<|ZAL (v:=enc (IntKind.i64.wrap (i+1))) rfl rfl rfl<|ZAG rfl<|ZAA ?_
   rw[←oi h];exact⟨_,rfl,⟨FxR rfl,hs⟩⟩
  rename_i c';refine ZAJ rfl c'<|ZAl ?_
  rw[←oi h];exact⟨_,rfl,rfl,⟨FxR rfl,hs⟩⟩
 intro e φ s hE;obtain⟨rfl,hF,hs⟩:=hE;rw[←hF.eq];rw[ZMs] at h;show if _ then _ else _
 rw[if_pos rfl];refine ZAB<|ZAo (by decide+kernel) (by decide+kernel)<|ZAD rfl<|ZAD rfl<|ZAO ZBJ rfl<|ZAK ag34 (Ss (Ss (Ss (Ss (Ss (Ss Sz)))))) rfl hxs hs fun y3 hy3=>ZAp underlying34 rfl rfl hy3<|ZAL (v:=enc (decide (i1<(x.v.2.2.2.2.2.2.1.length:Int)))) rfl rfl rfl<|ZAD rfl ?_
 obtain⟨b1,hb_b1,h⟩:=bs h;refine ZAT 8 (fun φ s=>Hp s [(.cells m xs)]∧Fx φ [(23,(enc i1)),(37,(enc b1))]) ?_ ?_
 ·split at hb_b1
  ·rename_i cg2;refine ZAH rfl rfl cg2<|ZAO ZBJ rfl<|ZAH rfl rfl cg2<|ZAK ag34 (Ss (Ss (Ss (Ss (Ss (Ss Sz)))))) rfl hxs hs fun y4 hy4=>ZAH rfl rfl cg2<|ZAD rfl<|ZAH rfl rfl cg2 ?_
   obtain⟨v1,hx1,hb_b1⟩:=bs hb_b1;refine ZAv underlying34 sh9 rfl rfl hy4 hx1 fun p1 hp1=>ZAH rfl rfl cg2<|ZCq rfl ag9 rfl hp1 fun y5 hy5=> ?_
   cases hy5;refine ZAH rfl rfl cg2<|ZAD rfl<|ZAH rfl rfl cg2<|ZAL (v:=enc ((eqS v1 s_):Bool)) rfl rfl rfl<|ZAY rfl cg2 rfl<|ZAA ?_
   rw[←oi hb_b1];exact⟨hs,FxR rfl⟩
  rename_i cg3;refine ZAE rfl rfl cg3<|ZAE rfl rfl cg3<|ZAE rfl rfl cg3<|ZAE rfl rfl cg3<|ZAE rfl rfl cg3<|ZAE rfl rfl cg3<|ZAE rfl rfl cg3<|ZAX (v:=enc false) rfl cg3 rfl<|ZAA ?_
  rw[←oi hb_b1];exact⟨hs,FxR rfl⟩
 rintro φ s ⟨hs,hF⟩;rw[←hF.eq];refine ZAG rfl<|ZAG rfl<|ZAA<|ZAN ?_
 rw[←oi h];exact⟨rfl,KE2 (a1:=i1) (a2:=b1) rfl rfl rfl (rfl:is _ i1) (rfl:is _ b1) ⟨_,_,rfl,(rfl:is _ i1),(rfl:is _ b1)⟩⟩
theorem ZQ8:ZAr Tryz.prog 43 (fun _=>Fn (fun a:ZAF×Str×Unit=>ZF8 a.1 a.2.1)):=fnC ZTn ⟨_,func43,rfl⟩<|fun a r h=>ZQ7 a.1 a.2.1 r h
noncomputable def pz5:Prims:=pz4.add 43 (Fn (fun a:ZAF×Str×Unit=>ZF8 a.1 a.2.1))
theorem ZTo:ZAV Tryz.prog pz5:=ZAS ZTn ZQ8
theorem ZOE (f:FsR) (num:Int) (r:Bool) (h:ZEY f num=some r):MF Tryz.prog pz5 61 [enc f,enc num] s0 fun v _=>ris v r:=by
 refine ZAe [(0,enc f),(1,enc num)] func61 rfl (by simp only[Tryz.f61];rfl) fun ψ=> ?_
 unfold ZEY at h;refine ZAB<|ZAC<|ZA1 (r:=f) rfl (Enc.self f) Hp.nil fun m xs s hxs hs=>ZAG (v:=enc false) rfl<|ZAA<|ZAB<|ZAC<|ZAD rfl<|ZAG rfl<|ZAA<|ZAB<|ZAB<|ZAC<|ZAG (v:=enc (0:Int)) rfl<|ZAA ?_
 refine ZAQ ?_
 obtain⟨o,hl,h⟩:=bs h;refine ZAm (fun(p:(Int×Int)) φ s=>match p with | (n,i)=>Fx φ [(2,(.ptr m 0)),(5,(enc n)),(6,(enc i))]∧Hp s [(.cells m xs)]) (fun(o:(Unit ⊕ Bool)) e φ s=>match o with | (.inl _)=>e= .exit 0∧Fx φ [] | (.inr v)=>e= .ret∧Fx φ [(4,(enc v))]) ?_ hl ⟨FxR rfl,hs⟩ ?_
 ·rintro⟨n,i⟩ o h φ s ⟨hF,hs⟩;rw[←hF.eq];rw[ZEE] at h;refine ZAB<|ZAB<|ZAC<|ZAD rfl<|ZAO ZAk rfl<|ZAK ag22 Sz rfl hxs hs fun y hy=>ZAp underlying22 rfl rfl hy<|ZAL (v:=enc (decide (i≤(f.v.1.length:Int)))) rfl rfl rfl<|ZAA ?_
  split at h
  ·rename_i c';refine ZAI rfl c'<|ZAM<|ZAB<|ZAQ<|ZAB<|ZAB<|ZAC<|ZAD rfl<|ZAL (v:=enc (n==0)) rfl rfl rfl<|ZAA ?_
   split at h
   ·rename_i c';refine ZAI rfl c'<|ZAB<|ZAC<|ZAG (v:=enc true) rfl<|ZAA<|ZAN ?_
    show if _ then _ else _
    rw[if_neg (by simp)]
    rw[←oi h];exact⟨_,rfl,rfl,FxR rfl⟩
   rename_i c';refine ZAJ rfl c'<|ZAM<|ZAC<|ZAU (r:=f) ag24 sz24 rfl hxs hs fun y1 hy1=>ZAD rfl ?_
   obtain⟨r_,hx,h⟩:=bs h;refine ZAj (f:=fun a:FsR×Int×Unit=>ZJe a.1 a.2.1) (a:=(f,n,())) rfl func82 rfl rfl (.cons (a:=f) hy1 (.cons (a:=n) (Enc.self _) .nil)) hx<|ZAG rfl<|ZAA<|ZAC<|ZAD rfl<|ZAL (v:=enc (IntKind.i64.wrap (i+1))) rfl rfl rfl<|ZAG rfl<|ZAA ?_
   rw[←oi h];exact⟨_,rfl,⟨FxR rfl,hs⟩⟩
  rename_i c';refine ZAJ rfl c'<|ZAl ?_
  rw[←oi h];exact⟨_,rfl,rfl,trivial⟩
 intro e φ s hE;rcases o with _u | v
 ·obtain⟨rfl,hF⟩:=hE;rw[←hF.eq];rw[ZHF] at h;show if _ then _ else _
  rw[if_pos rfl];refine ZAB<|ZAC<|ZAG (v:=enc false) rfl<|ZAA<|ZAN ?_
  rw[←oi h];exact⟨rfl,KE1 (a:=(false:Bool)) rfl rfl (rfl:is _ (false:Bool)) (rfl:is _ (false:Bool))⟩
 obtain⟨rfl,hF⟩:=hE;rw[←hF.eq];rw[ZHF] at h;show if _ then _ else _
 rw[if_neg (by simp)]
 rw[←oi h];exact⟨rfl,KE1 (a:=v) rfl rfl (rfl:is _ v) (rfl:is _ v)⟩
theorem ZOF:ZAr Tryz.prog 61 (fun _=>Fn (fun a:FsR×Int×Unit=>ZEY a.1 a.2.1)):=fnC ZTo ⟨_,func61,rfl⟩<|fun a r h=>ZOE a.1 a.2.1 r h
noncomputable def pz6:Prims:=pz5.add 61 (Fn (fun a:FsR×Int×Unit=>ZEY a.1 a.2.1))
theorem ZTp:ZAV Tryz.prog pz6:=ZAS ZTo ZOF
theorem ZOG (s_:Str) (r:Int×Int×Bool) (h:ZDq s_=some r):MF Tryz.prog pz6 69 [enc s_] s0 fun v _=>ris v r:=by
 refine ZAe [(0,enc s_)] func69 rfl (by simp only[Tryz.f69];rfl) fun ψ=> ?_
 unfold ZDq at h;refine ZAB<|ZAC<|ZAG (v:=enc (0:Int)) rfl<|ZAG (v:=enc (0:Int)) rfl<|ZAG (v:=enc false) rfl<|ZAA<|ZAB<|ZAC<|ZAD rfl ?_
 obtain⟨c,hx,h⟩:=bs h;refine ZIe underlying9 rfl rfl hx<|ZN5 underlying5 underlying3 rfl ?_
 rw[ZHB];refine ZAG rfl<|ZAA<|ZAB<|ZAC<|ZAG (v:=enc (0:Int)) rfl<|ZAG (v:=enc (0:Int)) rfl<|ZAG (v:=enc (0:Int)) rfl<|ZAA<|ZDW (fun φ s=>∃(n:Int) (x:Int) (least:Int),Fx φ [(0,(enc s_)),(6,(enc n)),(7,(enc x)),(8,(enc least))]∧ZBT s_ n x least=some r) ?_ ?_
 ·refine ZAQ ?_
  refine ZAB<|ZAC<|ZAD rfl<|ZAL (v:=enc (decide (((c).toNat:Int)<128))) rfl rfl rfl<|ZAG rfl<|ZAA ?_
  split at h
  ·rename_i c';refine ZAI rfl c'<|ZAB<|ZAC<|ZAD rfl<|ZAG rfl<|ZAG (v:=enc (1:Int)) rfl<|ZAG (v:=enc true) rfl<|ZAA<|ZAN ?_
   show if _ then _ else _
   rw[if_neg (by simp)]
   rw[←oi h];exact⟨rfl,KE3 (a1:=(((c).toNat:Int):Int)) (a2:=(1:Int)) (a3:=(true:Bool)) rfl rfl rfl rfl (rfl:is _ (((c).toNat:Int):Int)) (rfl:is _ (1:Int)) (rfl:is _ (true:Bool)) ⟨_,_,_,rfl,(rfl:is _ (((c).toNat:Int):Int)),(rfl:is _ (1:Int)),(rfl:is _ (true:Bool))⟩⟩
  rename_i c';refine ZAJ rfl c'<|ZAB<|ZAC<|ZAD rfl<|ZAL (v:=enc (decide (((c).toNat:Int)≥194))) rfl rfl rfl<|ZAD rfl ?_
  obtain⟨b4,hb_b4,h⟩:=bs h;refine ZAT 3 (fun φ s=>Fx φ [(0,(enc s_)),(5,(enc (((c).toNat:Int):Int))),(24,(enc b4))]) ?_ ?_
  ·split at hb_b4
   ·rename_i cg8;refine ZAH rfl rfl cg8<|ZAD rfl<|ZAH rfl rfl cg8<|ZAL (v:=enc (decide (((c).toNat:Int)<224))) rfl rfl rfl<|ZAY rfl cg8 rfl<|ZAA ?_
    rw[←oi hb_b4];exact(FxR rfl)
   rename_i cg9;refine ZAE rfl rfl cg9<|ZAE rfl rfl cg9<|ZAX (v:=enc false) rfl cg9 rfl<|ZAA ?_
   rw[←oi hb_b4];exact(FxR rfl)
  rintro φ s hF;rw[←hF.eq];refine ZAG rfl<|ZAA ?_
  split at h
  ·rename_i c';refine ZAI rfl c'<|ZAC<|ZAD rfl<|ZAL (v:=enc (IntKind.i64.wrap (((c).toNat:Int) - 192))) rfl rfl rfl<|ZAG (v:=enc (2:Int)) rfl<|ZAG rfl<|ZAG (v:=enc (128:Int)) rfl<|ZAA ?_
   exact⟨2,(IntKind.i64.wrap (((c).toNat:Int) - 192)),128,FxR rfl,h⟩
  rename_i c';refine ZAJ rfl c'<|ZAB<|ZAC<|ZAD rfl<|ZAL (v:=enc (decide (((c).toNat:Int)≥224))) rfl rfl rfl<|ZAD rfl ?_
  obtain⟨b5,hb_b5,h⟩:=bs h;refine ZAT 3 (fun φ s=>Fx φ [(0,(enc s_)),(5,(enc (((c).toNat:Int):Int))),(33,(enc b5))]) ?_ ?_
  ·split at hb_b5
   ·rename_i cg10;refine ZAH rfl rfl cg10<|ZAD rfl<|ZAH rfl rfl cg10<|ZAL (v:=enc (decide (((c).toNat:Int)<240))) rfl rfl rfl<|ZAY rfl cg10 rfl<|ZAA ?_
    rw[←oi hb_b5];exact(FxR rfl)
   rename_i cg11;refine ZAE rfl rfl cg11<|ZAE rfl rfl cg11<|ZAX (v:=enc false) rfl cg11 rfl<|ZAA ?_
   rw[←oi hb_b5];exact(FxR rfl)
  rintro φ s hF;rw[←hF.eq];refine ZAG rfl<|ZAA ?_
  split at h
  ·rename_i c';refine ZAI rfl c'<|ZAC<|ZAD rfl<|ZAL (v:=enc (IntKind.i64.wrap (((c).toNat:Int) - 224))) rfl rfl rfl<|ZAG (v:=enc (3:Int)) rfl<|ZAG rfl<|ZAG (v:=enc (2048:Int)) rfl<|ZAA ?_
   exact⟨3,(IntKind.i64.wrap (((c).toNat:Int) - 224)),2048,FxR rfl,h⟩
  rename_i c';refine ZAJ rfl c'<|ZAB<|ZAC<|ZAD rfl<|ZAL (v:=enc (decide (((c).toNat:Int)≥240))) rfl rfl rfl<|ZAD rfl ?_
  obtain⟨b6,hb_b6,h⟩:=bs h;refine ZAT 3 (fun φ s=>Fx φ [(0,(enc s_)),(5,(enc (((c).toNat:Int):Int))),(42,(enc b6))]) ?_ ?_
  ·split at hb_b6
   ·rename_i cg12;refine ZAH rfl rfl cg12<|ZAD rfl<|ZAH rfl rfl cg12<|ZAL (v:=enc (decide (((c).toNat:Int)<245))) rfl rfl rfl<|ZAY rfl cg12 rfl<|ZAA ?_
    rw[←oi hb_b6];exact(FxR rfl)
   rename_i cg13;refine ZAE rfl rfl cg13<|ZAE rfl rfl cg13<|ZAX (v:=enc false) rfl cg13 rfl<|ZAA ?_
   rw[←oi hb_b6];exact(FxR rfl)
  rintro φ s hF;rw[←hF.eq];refine ZAG rfl<|ZAA ?_
  split at h
  ·rename_i c';refine ZAI rfl c'<|ZAC<|ZAD rfl<|ZAL (v:=enc (IntKind.i64.wrap (((c).toNat:Int) - 240))) rfl rfl rfl<|ZAG (v:=enc (4:Int)) rfl<|ZAG rfl<|ZAG (v:=enc (65536:Int)) rfl<|ZAA ?_
   exact⟨4,(IntKind.i64.wrap (((c).toNat:Int) - 240)),65536,FxR rfl,h⟩
  rename_i c';refine ZAJ rfl c'<|ZAB<|ZAC<|ZAG (v:=enc (65533:Int)) rfl<|ZAG (v:=enc (1:Int)) rfl<|ZAG (v:=enc false) rfl<|ZAA<|ZAN ?_
  show if _ then _ else _
  rw[if_neg (by simp)]
  rw[←oi h];exact⟨rfl,KE3 (a1:=(65533:Int)) (a2:=(1:Int)) (a3:=(false:Bool)) rfl rfl rfl rfl (rfl:is _ (65533:Int)) (rfl:is _ (1:Int)) (rfl:is _ (false:Bool)) ⟨_,_,_,rfl,(rfl:is _ (65533:Int)),(rfl:is _ (1:Int)),(rfl:is _ (false:Bool))⟩⟩
 rintro φ s ⟨n,x,least,hF,h⟩;rw[←hF.eq];unfold ZBT at h;refine ZAB<|ZAB<|ZAC<|ZAD rfl<|ZHe underlying9 rfl rfl<|ZAD rfl<|ZAL (v:=enc (decide (((List.length s_:Nat):Int)<n))) rfl rfl rfl<|ZAA ?_
 split at h
 ·rename_i c';refine ZAI rfl c'<|ZAB<|ZAC<|ZAG (v:=enc (65533:Int)) rfl<|ZAG (v:=enc (1:Int)) rfl<|ZAG (v:=enc false) rfl<|ZAA<|ZAN ?_
  rw[←oi h];exact⟨rfl,KE3 (a1:=(65533:Int)) (a2:=(1:Int)) (a3:=(false:Bool)) rfl rfl rfl rfl (rfl:is _ (65533:Int)) (rfl:is _ (1:Int)) (rfl:is _ (false:Bool)) ⟨_,_,_,rfl,(rfl:is _ (65533:Int)),(rfl:is _ (1:Int)),(rfl:is _ (false:Bool))⟩⟩
 rename_i c';refine ZAJ rfl c'<|ZAM<|ZAB<|ZAB<|ZAC<|ZAG (v:=enc (1:Int)) rfl<|ZAA<|ZAQ ?_
 obtain⟨o,hl,h⟩:=bs h;refine ZAm (fun(p:(Int×Int)) φ s=>match p with | (x1,i)=>Fx φ [(0,(enc s_)),(6,(enc n)),(7,(enc x1)),(8,(enc least)),(9,(enc i))]) (fun(o:(Int ⊕ (Int×Int×Bool))) e φ s=>match o with | (.inl x2)=>e= .exit 1∧Fx φ [(6,(enc n)),(7,(enc x2)),(8,(enc least))] | (.inr (v,v1,v2))=>e= .ret∧Fx φ [(2,(enc v)),(3,(enc v1)),(4,(enc v2))]) ?_ hl (FxR rfl) ?_
 ·rintro⟨x1,i⟩ o h φ s hF;rw[←hF.eq];rw[ZFS] at h;refine ZAB<|ZAB<|ZAC<|ZAD rfl<|ZAD rfl<|ZAL (v:=enc (decide (i<n))) rfl rfl rfl<|ZAA ?_
  split at h
  ·rename_i c';refine ZAI rfl c'<|ZAM<|ZAB<|ZAQ<|ZAB<|ZAC<|ZAD rfl<|ZAD rfl ?_
   obtain⟨c1,hx1,h⟩:=bs h;refine ZIe underlying9 rfl rfl hx1<|ZN5 underlying5 underlying3 rfl ?_
   rw[ZHB];refine ZAG rfl<|ZAA<|ZAB<|ZAB<|ZAC<|ZAD rfl<|ZAL (v:=enc (decide (((c1).toNat:Int)<128))) rfl rfl rfl<|ZAD rfl ?_
   obtain⟨b,hb_b,h⟩:=bs h;refine ZAT 3 (fun φ s=>Fx φ [(0,(enc s_)),(6,(enc n)),(7,(enc x1)),(8,(enc least)),(9,(enc i)),(10,(enc (((c1).toNat:Int):Int))),(63,(enc b))]) ?_ ?_
   ·split at hb_b
    ·rename_i cg;refine ZAE rfl rfl (by simpa using cg)<|ZAE rfl rfl (by simpa using cg)<|ZAY (v:=enc true) rfl cg rfl<|ZAA ?_
     rw[←oi hb_b];exact(FxR rfl)
    rename_i cg1;refine ZAH rfl rfl (by simpa using cg1)<|ZAD rfl<|ZAH rfl rfl (by simpa using cg1)<|ZAL (v:=enc (decide (((c1).toNat:Int)≥192))) rfl rfl rfl<|ZAX rfl cg1 rfl<|ZAA ?_
    rw[←oi hb_b];exact(FxR rfl)
   rintro φ s hF;rw[←hF.eq];refine ZAA ?_
   split at h
   ·rename_i c';refine ZAI rfl c'<|ZAB<|ZAC<|ZAG (v:=enc (65533:Int)) rfl<|ZAG (v:=enc (1:Int)) rfl<|ZAG (v:=enc false) rfl<|ZAA<|ZAN ?_
    show if _ then _ else _
    rw[if_neg (by simp)]
    rw[←oi h];exact⟨_,rfl,rfl,FxR rfl⟩
   rename_i c';refine ZAJ rfl c'<|ZAM<|ZAC<|ZAD rfl<|ZAL (v:=enc (IntKind.i64.wrap (x1*64))) rfl rfl rfl<|ZAD rfl<|ZAL (v:=enc (IntKind.i64.wrap ((IntKind.i64.wrap (x1*64))+((c1).toNat:Int)))) rfl rfl rfl<|ZAL (v:=enc (IntKind.i64.wrap ((IntKind.i64.wrap ((IntKind.i64.wrap (x1*64))+((c1).toNat:Int))) - 128))) rfl rfl rfl<|ZAG rfl<|ZAA<|ZAC<|ZAD rfl<|ZAL (v:=enc (IntKind.i64.wrap (i+1))) rfl rfl rfl<|ZAG rfl<|ZAA ?_
   rw[←oi h];exact⟨_,rfl,FxR rfl⟩
  rename_i c';refine ZAJ rfl c'<|ZAl ?_
  rw[←oi h];exact⟨_,rfl,rfl,FxR rfl⟩
 intro e φ s hE;rcases o with x2 | ⟨v,v1,v2⟩
 ·obtain⟨rfl,hF⟩:=hE;rw[←hF.eq];rw[ZFT] at h;show if _ then _ else _
  rw[if_pos rfl];refine ZAB<|ZAB<|ZAC<|ZAD rfl<|ZAD rfl<|ZAL (v:=enc (decide (x2<least))) rfl rfl rfl<|ZAD rfl ?_
  obtain⟨b1,hb_b1,h⟩:=bs h;refine ZAT 3 (fun φ s=>Fx φ [(6,(enc n)),(7,(enc x2)),(75,(enc b1))]) ?_ ?_
  ·split at hb_b1
   ·rename_i cg2;refine ZAE rfl rfl (by simpa using cg2)<|ZAE rfl rfl (by simpa using cg2)<|ZAY (v:=enc true) rfl cg2 rfl<|ZAA ?_
    rw[←oi hb_b1];exact(FxR rfl)
   rename_i cg3;refine ZAH rfl rfl (by simpa using cg3)<|ZAD rfl<|ZAH rfl rfl (by simpa using cg3)<|ZAL (v:=enc (decide (x2 > 1114111))) rfl rfl rfl<|ZAX rfl cg3 rfl<|ZAA ?_
   rw[←oi hb_b1];exact(FxR rfl)
  rintro φ s hF;rw[←hF.eq];refine ZAD rfl ?_
  obtain⟨b2,hb_b2,h⟩:=bs h;refine ZAT 7 (fun φ s=>Fx φ [(6,(enc n)),(7,(enc x2)),(83,(enc b2))]) ?_ ?_
  ·split at hb_b2
   ·rename_i cg4;refine ZAE rfl rfl (by simpa using cg4)<|ZAE rfl rfl (by simpa using cg4)<|ZAE rfl rfl (by simpa using cg4)<|ZAR rfl rfl<|ZAR rfl rfl<|ZAE rfl rfl (by simpa using cg4)<|ZAY (v:=enc true) rfl cg4 rfl<|ZAA ?_
    rw[←oi hb_b2];exact(FxR rfl)
   rename_i cg5;refine ZAH rfl rfl (by simpa using cg5)<|ZAD rfl<|ZAH rfl rfl (by simpa using cg5)<|ZAL (v:=enc (decide (x2≥55296))) rfl rfl rfl<|ZAH rfl rfl (by simpa using cg5)<|ZAD rfl ?_
   obtain⟨b3,hb_b3,hb_b2⟩:=bs hb_b2;refine ZAT 3 (fun φ s=>Fx φ [(6,(enc n)),(7,(enc x2)),(76,(enc b1)),(82,(enc b3))]) ?_ ?_
   ·split at hb_b3
    ·rename_i cg6;refine ZAH rfl rfl cg6<|ZAD rfl<|ZAH rfl rfl cg6<|ZAL (v:=enc (decide (x2<57344))) rfl rfl rfl<|ZAH rfl rfl (by simpa using cg5)<|ZAY rfl cg6 rfl<|ZAA ?_
     rw[←oi hb_b3];exact(FxR rfl)
    rename_i cg7;refine ZAE rfl rfl cg7<|ZAE rfl rfl cg7<|ZAH rfl rfl (by simpa using cg5)<|ZAX (v:=enc false) rfl cg7 rfl<|ZAA ?_
    rw[←oi hb_b3];exact(FxR rfl)
   rintro φ s hF;rw[←hF.eq];refine ZAX rfl cg5 rfl<|ZAA ?_
   rw[←oi hb_b2];exact(FxR rfl)
  rintro φ s hF;rw[←hF.eq];refine ZAA ?_
  split at h
  ·rename_i c';refine ZAI rfl c'<|ZAB<|ZAC<|ZAG (v:=enc (65533:Int)) rfl<|ZAG (v:=enc (1:Int)) rfl<|ZAG (v:=enc false) rfl<|ZAA<|ZAN ?_
   rw[←oi h];exact⟨rfl,KE3 (a1:=(65533:Int)) (a2:=(1:Int)) (a3:=(false:Bool)) rfl rfl rfl rfl (rfl:is _ (65533:Int)) (rfl:is _ (1:Int)) (rfl:is _ (false:Bool)) ⟨_,_,_,rfl,(rfl:is _ (65533:Int)),(rfl:is _ (1:Int)),(rfl:is _ (false:Bool))⟩⟩
  rename_i c';refine ZAJ rfl c'<|ZAM<|ZAB<|ZAC<|ZAD rfl<|ZAD rfl<|ZAG rfl<|ZAG rfl<|ZAG (v:=enc true) rfl<|ZAA<|ZAN ?_
  rw[←oi h];exact⟨rfl,KE3 (a1:=x2) (a2:=n) (a3:=(true:Bool)) rfl rfl rfl rfl (rfl:is _ x2) (rfl:is _ n) (rfl:is _ (true:Bool)) ⟨_,_,_,rfl,(rfl:is _ x2),(rfl:is _ n),(rfl:is _ (true:Bool))⟩⟩
 obtain⟨rfl,hF⟩:=hE;rw[←hF.eq];rw[ZFT] at h;show if _ then _ else _
 rw[if_neg (by simp)]
 rw[←oi h];exact⟨rfl,KE3 (a1:=v) (a2:=v1) (a3:=v2) rfl rfl rfl rfl (rfl:is _ v) (rfl:is _ v1) (rfl:is _ v2) ⟨_,_,_,rfl,(rfl:is _ v),(rfl:is _ v1),(rfl:is _ v2)⟩⟩
theorem ZOH:ZAr Tryz.prog 69 (fun _=>Fn (fun a:Str×Unit=>ZDq a.1)):=fnC ZTp ⟨_,func69,rfl⟩<|fun a r h=>ZOG a.1 r h
noncomputable def pz7:Prims:=pz6.add 69 (Fn (fun a:Str×Unit=>ZDq a.1))
theorem ZTq:ZAV Tryz.prog pz7:=ZAS ZTp ZOH
theorem ZLQ (s_:Str) (r:Int) (h:ZB0 s_=some r):MF Tryz.prog pz7 42 [enc s_] s0 fun v _=>ris v r:=by
 refine ZAe [(0,enc s_)] func42 rfl (by simp only[Tryz.f42];rfl) fun ψ=> ?_
 unfold ZB0 at h;refine ZAB<|ZAC<|ZAG (v:=enc (0:Int)) rfl<|ZAA<|ZAB<|ZAB<|ZAC<|ZAD rfl<|ZAL (v:=enc ((eqS s_ (str [])):Bool)) rfl rfl rfl<|ZAA ?_
 split at h
 ·rename_i c';refine ZAI rfl c'<|ZAB<|ZAC<|ZAG (v:=enc (206:Int)) rfl<|ZAA<|ZAN ?_
  rw[←oi h];exact⟨rfl,KE1 (a:=(206:Int)) rfl rfl (rfl:is _ (206:Int)) (rfl:is _ (206:Int))⟩
 rename_i c';refine ZAJ rfl c'<|ZAM<|ZAB<|ZAB<|ZAC<|ZAD rfl<|ZHe underlying9 rfl rfl<|ZAL (v:=enc (decide (((List.length s_:Nat):Int) > 100))) rfl rfl rfl<|ZAA ?_
 split at h
 ·rename_i c';refine ZAI rfl c'<|ZAB<|ZAC<|ZAG (v:=enc (208:Int)) rfl<|ZAA<|ZAN ?_
  rw[←oi h];exact⟨rfl,KE1 (a:=(208:Int)) rfl rfl (rfl:is _ (208:Int)) (rfl:is _ (208:Int))⟩
 rename_i c';refine ZAJ rfl c'<|ZAM<|ZAB<|ZAB<|ZAC<|ZAD rfl<|ZAL (v:=enc ((eqS s_ (str [46])):Bool)) rfl rfl rfl<|ZAD rfl ?_
 obtain⟨b,hb_b,h⟩:=bs h;refine ZAT 3 (fun φ s=>Fx φ [(0,(enc s_)),(17,(enc b))]) ?_ ?_
 ·split at hb_b
  ·rename_i cg;refine ZAE rfl rfl (by simpa using cg)<|ZAE rfl rfl (by simpa using cg)<|ZAY (v:=enc true) rfl cg rfl<|ZAA ?_
   rw[←oi hb_b];exact(FxR rfl)
  rename_i cg1;refine ZAH rfl rfl (by simpa using cg1)<|ZAD rfl<|ZAH rfl rfl (by simpa using cg1)<|ZAL (v:=enc ((eqS s_ (str [46,46])):Bool)) rfl rfl rfl<|ZAX rfl cg1 rfl<|ZAA ?_
  rw[←oi hb_b];exact(FxR rfl)
 rintro φ s hF;rw[←hF.eq];refine ZAA ?_
 split at h
 ·rename_i c';refine ZAI rfl c'<|ZAB<|ZAC<|ZAG (v:=enc (206:Int)) rfl<|ZAA<|ZAN ?_
  rw[←oi h];exact⟨rfl,KE1 (a:=(206:Int)) rfl rfl (rfl:is _ (206:Int)) (rfl:is _ (206:Int))⟩
 rename_i c';refine ZAJ rfl c'<|ZAM<|ZAB<|ZAB<|ZAC<|ZAG (v:=enc (0:Int)) rfl<|ZAA<|ZAQ ?_
 obtain⟨o,hl,h⟩:=bs h;refine ZAm (fun(p:Int) φ s=>match p with | i=>Fx φ [(0,(enc s_)),(3,(enc i))]) (fun(o:(Unit ⊕ Int)) e φ s=>match o with | (.inl _)=>e= .exit 0∧Fx φ [] | (.inr v)=>e= .ret∧Fx φ [(2,(enc v))]) ?_ hl (FxR rfl) ?_
 ·rintro i o h φ s hF;rw[←hF.eq];rw[ZCt] at h;refine ZAB<|ZAB<|ZAC<|ZAD rfl<|ZAD rfl<|ZHe underlying9 rfl rfl<|ZAL (v:=enc (decide (i<((List.length s_:Nat):Int)))) rfl rfl rfl<|ZAA ?_
  split at h
  ·rename_i c';refine ZAI rfl c'<|ZAM<|ZAQ<|ZAB<|ZAC<|ZAD rfl<|ZAD rfl ?_
   obtain⟨t,hx,h⟩:=bs h;refine ZSt underlying9 rfl rfl hx ?_
   obtain⟨r_,hx1,h⟩:=bs h;refine ZAj (f:=fun a:Str×Unit=>ZDq a.1) (a:=(t,())) rfl func69 rfl rfl (.cons (a:=t) (Enc.self _) .nil) hx1<|ZAD (v:=res r_) rfl<|ZAs rfl rfl<|ZAs rfl rfl<|ZAs rfl rfl<|ZAG rfl<|ZAG rfl<|ZAG rfl<|ZAA<|ZAB<|ZAB<|ZAC<|ZAD rfl<|ZBS (v:=enc (!r_.2.2)) rfl rfl<|ZAD rfl ?_
   obtain⟨b1,hb_b1,h⟩:=bs h;refine ZAT 3 (fun φ s=>Fx φ [(0,(enc s_)),(3,(enc i)),(4,(enc r_.1)),(5,(enc r_.2.1)),(35,(enc b1))]) ?_ ?_
   ·split at hb_b1
    ·rename_i cg2;refine ZAE rfl rfl (by simpa using cg2)<|ZAE rfl rfl (by simpa using cg2)<|ZAY (v:=enc true) rfl cg2 rfl<|ZAA ?_
     rw[←oi hb_b1];exact(FxR rfl)
    rename_i cg3;refine ZAH rfl rfl (by simpa using cg3)<|ZAD rfl<|ZAH rfl rfl (by simpa using cg3)<|ZAL (v:=enc (r_.1==47)) rfl rfl rfl<|ZAX rfl cg3 rfl<|ZAA ?_
    rw[←oi hb_b1];exact(FxR rfl)
   rintro φ s hF;rw[←hF.eq];refine ZAD rfl ?_
   obtain⟨b2,hb_b2,h⟩:=bs h;refine ZAT 3 (fun φ s=>Fx φ [(0,(enc s_)),(3,(enc i)),(5,(enc r_.2.1)),(39,(enc b2))]) ?_ ?_
   ·split at hb_b2
    ·rename_i cg4;refine ZAE rfl rfl (by simpa using cg4)<|ZAE rfl rfl (by simpa using cg4)<|ZAY (v:=enc true) rfl cg4 rfl<|ZAA ?_
     rw[←oi hb_b2];exact(FxR rfl)
    rename_i cg5;refine ZAH rfl rfl (by simpa using cg5)<|ZAD rfl<|ZAH rfl rfl (by simpa using cg5)<|ZAL (v:=enc (r_.1==0)) rfl rfl rfl<|ZAX rfl cg5 rfl<|ZAA ?_
    rw[←oi hb_b2];exact(FxR rfl)
   rintro φ s hF;rw[←hF.eq];refine ZAA ?_
   split at h
   ·rename_i c';refine ZAI rfl c'<|ZAB<|ZAC<|ZAG (v:=enc (206:Int)) rfl<|ZAA<|ZAN ?_
    show if _ then _ else _
    rw[if_neg (by simp)]
    rw[←oi h];exact⟨_,rfl,rfl,FxR rfl⟩
   rename_i c';refine ZAJ rfl c'<|ZAM<|ZAC<|ZAD rfl<|ZAD rfl<|ZAL (v:=enc (IntKind.i64.wrap (i+r_.2.1))) rfl rfl rfl<|ZAG rfl<|ZAA ?_
   rw[←oi h];exact⟨_,rfl,FxR rfl⟩
  rename_i c';refine ZAJ rfl c'<|ZAl ?_
  rw[←oi h];exact⟨_,rfl,rfl,trivial⟩
 intro e φ s hE;rcases o with _u | v
 ·obtain⟨rfl,hF⟩:=hE;rw[←hF.eq];rw[ZDr] at h;show if _ then _ else _
  rw[if_pos rfl];refine ZAB<|ZAC<|ZAG (v:=enc (0:Int)) rfl<|ZAA<|ZAN ?_
  rw[←oi h];exact⟨rfl,KE1 (a:=(0:Int)) rfl rfl (rfl:is _ (0:Int)) (rfl:is _ (0:Int))⟩
 obtain⟨rfl,hF⟩:=hE;rw[←hF.eq];rw[ZDr] at h;show if _ then _ else _
 rw[if_neg (by simp)]
 rw[←oi h];exact⟨rfl,KE1 (a:=v) rfl rfl (rfl:is _ v) (rfl:is _ v)⟩
theorem ZLR:ZAr Tryz.prog 42 (fun _=>Fn (fun a:Str×Unit=>ZB0 a.1)):=fnC ZTq ⟨_,func42,rfl⟩<|fun a r h=>ZLQ a.1 r h
noncomputable def pz8:Prims:=pz7.add 42 (Fn (fun a:Str×Unit=>ZB0 a.1))
theorem ZTr:ZAV Tryz.prog pz8:=ZAS ZTq ZLR
theorem ZLS (n:Int) (low:Int) (high:Int) (r:Bool) (h:ZAn n low high=some r):MF Tryz.prog pz8 83 [enc n,enc low,enc high] s0 fun v _=>ris v r:=by
 refine ZAe [(0,enc n),(1,enc low),(2,enc high)] func83 rfl (by simp only[Tryz.f83];rfl) fun ψ=> ?_
 unfold ZAn at h;refine ZAB<|ZAC<|ZAG (v:=enc false) rfl<|ZAA<|ZAB<|ZAC<|ZAD rfl<|ZAD rfl<|ZAL (v:=enc (decide (n≥low))) rfl rfl rfl<|ZAD rfl ?_
 obtain⟨b,hb_b,h⟩:=bs h;refine ZAT 4 (fun φ s=>Fx φ [(14,(enc b))]) ?_ ?_
 ·split at hb_b
  ·rename_i cg;refine ZAH rfl rfl cg<|ZAD rfl<|ZAH rfl rfl cg<|ZAD rfl<|ZAH rfl rfl cg<|ZAL (v:=enc (decide (n≤high))) rfl rfl rfl<|ZAY rfl cg rfl<|ZAA ?_
   rw[←oi hb_b];exact(FxR rfl)
  rename_i cg1;refine ZAE rfl rfl cg1<|ZAE rfl rfl cg1<|ZAE rfl rfl cg1<|ZAX (v:=enc false) rfl cg1 rfl<|ZAA ?_
  rw[←oi hb_b];exact(FxR rfl)
 rintro φ s hF;rw[←hF.eq];refine ZAG rfl<|ZAA<|ZAN ?_
 rw[←oi h];exact⟨rfl,KE1 (a:=b) rfl rfl (rfl:is _ b) (rfl:is _ b)⟩
theorem ZLT:ZAr Tryz.prog 83 (fun _=>Fn (fun a:Int×Int×Int×Unit=>ZAn a.1 a.2.1 a.2.2.1)):=fnC ZTr ⟨_,func83,rfl⟩<|fun a r h=>ZLS a.1 a.2.1 a.2.2.1 r h
noncomputable def pz9:Prims:=pz8.add 83 (Fn (fun a:Int×Int×Int×Unit=>ZAn a.1 a.2.1 a.2.2.1))
theorem ZTs:ZAV Tryz.prog pz9:=ZAS ZTr ZLT
theorem ZMv (s_:Str) (r:Bool) (h:ZDY s_=some r):MF Tryz.prog pz9 84 [enc s_] s0 fun v _=>ris v r:=by
 refine ZAe [(0,enc s_)] func84 rfl (by simp only[Tryz.f84];rfl) fun ψ=> ?_
 unfold ZDY at h;refine ZAB<|ZAC<|ZAG (v:=enc false) rfl<|ZAA<|ZAB<|ZAB<|ZAC<|ZAG (v:=enc (0:Int)) rfl<|ZAA<|ZAQ ?_
 obtain⟨o,hl,h⟩:=bs h;refine ZAm (fun(p:Int) φ s=>match p with | i=>Fx φ [(0,(enc s_)),(3,(enc i))]) (fun(o:(Unit ⊕ Bool)) e φ s=>match o with | (.inl _)=>e= .exit 0∧Fx φ [] | (.inr v)=>e= .ret∧Fx φ [(2,(enc v))]) ?_ hl (FxR rfl) ?_
 ·rintro i o h φ s hF;rw[←hF.eq];rw[ZEZ] at h;refine ZAB<|ZAB<|ZAC<|ZAD rfl<|ZAD rfl<|ZHe underlying9 rfl rfl<|ZAL (v:=enc (decide (i<((List.length s_:Nat):Int)))) rfl rfl rfl<|ZAA ?_
  split at h
  ·rename_i c';refine ZAI rfl c'<|ZAM<|ZAB<|ZAQ<|ZAB<|ZAC<|ZAD rfl<|ZAD rfl ?_
   obtain⟨c,hx,h⟩:=bs h;refine ZIe underlying9 rfl rfl hx<|ZAL (v:=enc ((((c).toNat:Int)==0):Bool)) rfl rfl rfl<|ZAA ?_
   split at h
   ·rename_i c';refine ZAI rfl c'<|ZAB<|ZAC<|ZAG (v:=enc false) rfl<|ZAA<|ZAN ?_
    show if _ then _ else _
    rw[if_neg (by simp)]
    rw[←oi h];exact⟨_,rfl,rfl,FxR rfl⟩
   rename_i c';refine ZAJ rfl c'<|ZAM<|ZAC<|ZAD rfl<|ZAL (v:=enc (IntKind.i64.wrap (i+1))) rfl rfl rfl<|ZAG rfl<|ZAA ?_
   rw[←oi h];exact⟨_,rfl,FxR rfl⟩
  rename_i c';refine ZAJ rfl c'<|ZAl ?_
  rw[←oi h];exact⟨_,rfl,rfl,trivial⟩
 intro e φ s hE;rcases o with _u | v
 ·obtain⟨rfl,hF⟩:=hE;rw[←hF.eq];rw[ZF9] at h;show if _ then _ else _
  rw[if_pos rfl];refine ZAB<|ZAC<|ZAG (v:=enc true) rfl<|ZAA<|ZAN ?_
  rw[←oi h];exact⟨rfl,KE1 (a:=(true:Bool)) rfl rfl (rfl:is _ (true:Bool)) (rfl:is _ (true:Bool))⟩
 obtain⟨rfl,hF⟩:=hE;rw[←hF.eq];rw[ZF9] at h;show if _ then _ else _
 rw[if_neg (by simp)]
 rw[←oi h];exact⟨rfl,KE1 (a:=v) rfl rfl (rfl:is _ v) (rfl:is _ v)⟩
theorem ZMw:ZAr Tryz.prog 84 (fun _=>Fn (fun a:Str×Unit=>ZDY a.1)):=fnC ZTs ⟨_,func84,rfl⟩<|fun a r h=>ZMv a.1 r h
noncomputable def pz10:Prims:=pz9.add 84 (Fn (fun a:Str×Unit=>ZDY a.1))
theorem ZQ9:ZAV Tryz.prog pz10:=ZAS ZTs ZMw
theorem ZMx (c:UInt8) (r:Int) (h:ZDZ c=some r):MF Tryz.prog pz10 133 [enc c] s0 fun v _=>ris v r:=by
 refine ZAe [(0,enc c)] func133 rfl (by simp only[Tryz.f133];rfl) fun ψ=> ?_
 unfold ZDZ at h;refine ZAB<|ZAC<|ZAG (v:=enc (0:Int)) rfl<|ZAA<|ZAB<|ZAB<|ZAC<|ZAG (v:=enc (0:Int)) rfl<|ZAA<|ZAQ ?_
 obtain⟨o,hl,h⟩:=bs h;refine ZAm (fun(p:Int) φ s=>match p with | i=>Fx φ [(0,(enc c)),(3,(enc i))]) (fun(o:(Unit ⊕ Int)) e φ s=>match o with | (.inl _)=>e= .exit 0∧Fx φ [] | (.inr v)=>e= .ret∧Fx φ [(2,(enc v))]) ?_ hl (FxR rfl) ?_
 ·rintro i o h φ s hF;rw[←hF.eq];rw[ZIl] at h;refine ZAB<|ZAB<|ZAC<|ZAD rfl<|ZAL (v:=enc (decide (i<16))) rfl rfl rfl<|ZAA ?_
  split at h
  ·rename_i c';refine ZAI rfl c'<|ZAM<|ZAB<|ZAQ<|ZAB<|ZAC<|ZAD rfl ?_
   obtain⟨c1,hx,h⟩:=bs h;refine ZIe underlying9 rfl rfl hx<|ZAD rfl<|ZAL (v:=enc ((((c1).toNat:Int)==((c).toNat:Int)):Bool)) rfl rfl rfl<|ZAA ?_
   split at h
   ·rename_i c';refine ZAI rfl c'<|ZAB<|ZAC<|ZAD rfl<|ZAG rfl<|ZAA<|ZAN ?_
    show if _ then _ else _
    rw[if_neg (by simp)]
    rw[←oi h];exact⟨_,rfl,rfl,FxR rfl⟩
   rename_i c';refine ZAJ rfl c'<|ZAM<|ZAC<|ZAD rfl<|ZAL (v:=enc (IntKind.i64.wrap (i+1))) rfl rfl rfl<|ZAG rfl<|ZAA ?_
   rw[←oi h];exact⟨_,rfl,FxR rfl⟩
  rename_i c';refine ZAJ rfl c'<|ZAl ?_
  rw[←oi h];exact⟨_,rfl,rfl,trivial⟩
 intro e φ s hE;rcases o with _u | v
 ·obtain⟨rfl,hF⟩:=hE;rw[←hF.eq];rw[ZGA] at h;show if _ then _ else _
  rw[if_pos rfl];refine ZAB<|ZAC<|ZAG (v:=enc ((-1):Int)) rfl<|ZAA<|ZAN ?_
  rw[←oi h];exact⟨rfl,KE1 (a:=((-1):Int)) rfl rfl (rfl:is _ ((-1):Int)) (rfl:is _ ((-1):Int))⟩
 obtain⟨rfl,hF⟩:=hE;rw[←hF.eq];rw[ZGA] at h;show if _ then _ else _
 rw[if_neg (by simp)]
 rw[←oi h];exact⟨rfl,KE1 (a:=v) rfl rfl (rfl:is _ v) (rfl:is _ v)⟩
theorem ZMy:ZAr Tryz.prog 133 (fun _=>Fn (fun a:UInt8×Unit=>ZDZ a.1)):=fnC ZQ9 ⟨_,func133,rfl⟩<|fun a r h=>ZMx a.1 r h
noncomputable def pz11:Prims:=pz10.add 133 (Fn (fun a:UInt8×Unit=>ZDZ a.1))
theorem ZRA:ZAV Tryz.prog pz11:=ZAS ZQ9 ZMy
theorem ZLU (k:Str) (r:(List UInt8)×Int) (h:ZD1 k=some r):MF Tryz.prog pz11 120 [enc k] s0 fun v _=>ris v r:=by
 refine ZAe [(0,enc k)] func120 rfl (by simp only[Tryz.f120];rfl) fun ψ=> ?_
 unfold ZD1 at h;refine ZAB<|ZAC<|ZAG (v:= .nils) rfl<|ZAG (v:=enc (0:Int)) rfl<|ZAA<|ZAB<|ZAB<|ZAC<|ZAD rfl<|ZHe underlying122 rfl rfl<|ZAL (v:=enc ((((List.length k:Nat):Int) !=64):Bool)) rfl rfl rfl<|ZAA ?_
 split at h
 ·rename_i c';refine ZAI rfl c'<|ZAB<|ZAC<|ZAG (v:= .nils) rfl<|ZAG (v:=enc (70:Int)) rfl<|ZAA<|ZAN ?_
  rw[←oi h];exact⟨rfl,KE2 (a1:=([]:(List UInt8))) (a2:=(70:Int)) rfl rfl rfl isL.nil (rfl:is _ (70:Int)) ⟨_,_,rfl,isL.nil,(rfl:is _ (70:Int))⟩⟩
 rename_i c';refine ZAJ rfl c'<|ZAM<|ZAB<|ZAC<|ZAG (v:= .nils) rfl<|ZAA<|ZAB<|ZAB<|ZAC<|ZAG (v:=enc (0:Int)) rfl<|ZAA<|ZAQ ?_
 obtain⟨o,hl,h⟩:=bs h;refine ZAm (fun(p:((List UInt8)×Int)) φ s=>match p with | (b,i)=>∃(x_b:AV),is x_b b∧ZCB x_b=true∧Fx φ [(0,(enc k)),(4,x_b),(5,(enc i))]∧Hp s [.own x_b]) (fun(o:((List UInt8) ⊕ ((List UInt8)×Int))) e φ s=>match o with | (.inl b1)=>e= .exit 0∧∃(x_b1:AV),is x_b1 b1∧ZCB x_b1=true∧Fx φ [(4,x_b1)]∧Hp s [.own x_b1] | (.inr (v,v1))=>e= .ret∧∃(x_v:AV),is x_v v∧Fx φ [(2,x_v),(3,(enc v1))]) ?_ hl ⟨.nils,isL.nil,rfl,FxR rfl,(Hp.add Hp.nil rfl)⟩ ?_
 ·rintro⟨b,i⟩ o h φ s ⟨x_b,h_b,h_bc,hF,hs⟩;rw[←hF.eq];rw[ZHl] at h;refine ZAB<|ZAB<|ZAC<|ZAD rfl<|ZAL (v:=enc (decide (i<64))) rfl rfl rfl<|ZAA ?_
  split at h
  ·rename_i c';refine ZAI rfl c'<|ZAM<|ZAB<|ZAQ<|ZAB<|ZAo (by decide+kernel) (by decide+kernel)<|ZAD rfl<|ZAD rfl ?_
   obtain⟨c,hx,h⟩:=bs h;refine ZIe underlying122 rfl rfl hx ?_
   obtain⟨r_,hx1,h⟩:=bs h;refine ZAj (f:=fun a:UInt8×Unit=>ZDZ a.1) (a:=(c,())) rfl func133 rfl rfl (.cons (a:=c) (Enc.self _) .nil) hx1<|ZAD rfl<|ZAD rfl<|ZAL (v:=enc (IntKind.i64.wrap (i+1))) rfl rfl rfl ?_
   obtain⟨c1,hx2,h⟩:=bs h;refine ZIe underlying122 rfl rfl hx2 ?_
   obtain⟨r_1,hx3,h⟩:=bs h;refine ZAj (f:=fun a:UInt8×Unit=>ZDZ a.1) (a:=(c1,())) rfl func133 rfl rfl (.cons (a:=c1) (Enc.self _) .nil) hx3<|ZAG rfl<|ZAG rfl<|ZAA<|ZAB<|ZAB<|ZAC<|ZAD rfl<|ZAL (v:=enc (decide (r_<0))) rfl rfl rfl<|ZAD rfl ?_
   obtain⟨b2,hb_b2,h⟩:=bs h;refine ZAT 3 (fun φ s=>Hp s [.own x_b]∧Fx φ [(0,(enc k)),(4,x_b),(5,(enc i)),(6,(enc r_)),(7,(enc r_1)),(29,(enc b2))]) ?_ ?_
   ·split at hb_b2
    ·rename_i cg;refine ZAE rfl rfl (by simpa using cg)<|ZAE rfl rfl (by simpa using cg)<|ZAY (v:=enc true) rfl cg rfl<|ZAA ?_
     rw[←oi hb_b2];exact⟨hs,FxR rfl⟩
    rename_i cg1;refine ZAH rfl rfl (by simpa using cg1)<|ZAD rfl<|ZAH rfl rfl (by simpa using cg1)<|ZAL (v:=enc (decide (r_1<0))) rfl rfl rfl<|ZAX rfl cg1 rfl<|ZAA ?_
    rw[←oi hb_b2];exact⟨hs,FxR rfl⟩
   rintro φ s ⟨hs,hF⟩;rw[←hF.eq];refine ZAA ?_
   split at h
   ·rename_i c';refine ZAI rfl c'<|ZAB<|ZAC<|ZAG (v:= .nils) rfl<|ZAG (v:=enc (70:Int)) rfl<|ZAA<|ZAN ?_
    show if _ then _ else _
    rw[if_neg (by simp)]
    rw[←oi h];exact⟨_,rfl,rfl,⟨.nils,isL.nil,FxR rfl⟩⟩
   rename_i c';refine ZAJ rfl c'<|ZAM<|ZAC<|ZAD (v:=x_b) rfl<|ZAD rfl<|ZAL (v:=enc (IntKind.i64.wrap (16*r_))) rfl rfl rfl<|ZAD rfl<|ZAL (v:=enc (IntKind.i64.wrap ((IntKind.i64.wrap (16*r_))+r_1))) rfl rfl rfl<|ZN6 underlying3 underlying5 rfl<|ZBs [(enc ((UInt8.ofInt (IntKind.i64.wrap ((IntKind.i64.wrap (16*r_))+r_1))):UInt8))] ([(UInt8.ofInt (IntKind.i64.wrap ((IntKind.i64.wrap (16*r_))+r_1)))]:(List UInt8)) underlying33 ef5 rfl rfl rfl (Nat.le_of_ble_eq_true rfl) ⟨(rfl:is _ ((UInt8.ofInt (IntKind.i64.wrap ((IntKind.i64.wrap (16*r_))+r_1))):UInt8)),trivial⟩ fun z hz hzc hzn=> ?_
   obtain⟨l,hx4,h⟩:=bs h;refine ZEB [] (es2:=[]) underlying33 underlying33 rfl rfl ef5 rfl rfl h_b h_bc hs hz hx4 fun z1 s hz1 hz1c hs=>ZAG (v:=z1) rfl<|ZAA<|ZAC<|ZAD rfl<|ZAL (v:=enc (IntKind.i64.wrap (i+2))) rfl rfl rfl<|ZAG rfl<|ZAA ?_
   rw[←oi h];exact⟨_,rfl,⟨z1,hz1,hz1c,FxR rfl,hs⟩⟩
  rename_i c';refine ZAJ rfl c'<|ZAl ?_
  rw[←oi h];exact⟨_,rfl,rfl,⟨x_b,h_b,h_bc,FxR rfl,hs⟩⟩
 intro e φ s hE;rcases o with b1 | ⟨v,v1⟩
 ·obtain⟨rfl,x_b1,h_b1,h_b1c,hF,hs⟩:=hE;rw[←hF.eq];rw[ZFU] at h;show if _ then _ else _
  rw[if_pos rfl];refine ZAB<|ZAC<|ZAD (v:=x_b1) rfl<|ZAG (v:=x_b1) rfl<|ZAG (v:=enc (0:Int)) rfl<|ZAA<|ZAN ?_
  rw[←oi h];exact⟨rfl,KE2 (a1:=b1) (a2:=(0:Int)) rfl rfl rfl h_b1 (rfl:is _ (0:Int)) ⟨_,_,rfl,h_b1,(rfl:is _ (0:Int))⟩⟩
 obtain⟨rfl,x_v,h_v,hF⟩:=hE;rw[←hF.eq];rw[ZFU] at h;show if _ then _ else _
 rw[if_neg (by simp)]
 rw[←oi h];exact⟨rfl,KE2 (a1:=v) (a2:=v1) rfl rfl rfl h_v (rfl:is _ v1) ⟨_,_,rfl,h_v,(rfl:is _ v1)⟩⟩
theorem ZLV:ZAr Tryz.prog 120 (fun _=>Fn (fun a:Str×Unit=>ZD1 a.1)):=fnC ZRA ⟨_,func120,rfl⟩<|fun a r h=>ZLU a.1 r h
noncomputable def pz12:Prims:=pz11.add 120 (Fn (fun a:Str×Unit=>ZD1 a.1))
theorem ZRB:ZAV Tryz.prog pz12:=ZAS ZRA ZLV
theorem ZLW (k:Str) (r:Bool) (h:ZD2 k=some r):MF Tryz.prog pz12 105 [enc k] s0 fun v _=>ris v r:=by
 refine ZAe [(0,enc k)] func105 rfl (by simp only[Tryz.f105];rfl) fun ψ=> ?_
 unfold ZD2 at h;refine ZAB<|ZAC<|ZAG (v:=enc false) rfl<|ZAA<|ZAB<|ZAC<|ZAD rfl ?_
 obtain⟨r_,hx,h⟩:=bs h;refine ZAj (f:=fun a:Str×Unit=>ZD1 a.1) (a:=(k,())) rfl func120 rfl rfl (.cons (a:=k) (Enc.self _) .nil) hx<|ZAD (v:=res r_) rfl<|ZAs rfl rfl<|ZAs rfl rfl<|ZAG rfl<|ZAG rfl<|ZAA<|ZAB<|ZAC<|ZAD rfl<|ZAL (v:=enc (r_.2==0)) rfl rfl rfl<|ZAG rfl<|ZAA<|ZAN ?_
 rw[←oi h];exact⟨rfl,KE1 (a:=((r_.2==0):Bool)) rfl rfl (rfl:is _ ((r_.2==0):Bool)) (rfl:is _ ((r_.2==0):Bool))⟩
theorem ZLX:ZAr Tryz.prog 105 (fun _=>Fn (fun a:Str×Unit=>ZD2 a.1)):=fnC ZRB ⟨_,func105,rfl⟩<|fun a r h=>ZLW a.1 r h
noncomputable def pz13:Prims:=pz12.add 105 (Fn (fun a:Str×Unit=>ZD2 a.1))
theorem ZRC:ZAV Tryz.prog pz13:=ZAS ZRB ZLX
theorem ZOI (l:(List RefR)) (r:Int×Bool) (h:ZDs l=some r):MF Tryz.prog pz13 85 [enc l] s0 fun v _=>ris v r:=by
 refine ZAe [(0,enc l)] func85 rfl (by simp only[Tryz.f85];rfl) fun ψ=> ?_
 unfold ZDs at h;refine ZAB<|ZAC<|ZAG (v:=enc (0:Int)) rfl<|ZAG (v:=enc false) rfl<|ZAA<|ZAB<|ZAB<|ZAC<|ZAD rfl<|ZAp underlying94 rfl rfl (Enc.self l)<|ZAL (v:=enc (decide ((l.length:Int) > 128))) rfl rfl rfl<|ZAA ?_
 split at h
 ·rename_i c';refine ZAI rfl c'<|ZAB<|ZAC<|ZAG (v:=enc (0:Int)) rfl<|ZAG (v:=enc false) rfl<|ZAA<|ZAN ?_
  rw[←oi h];exact⟨rfl,KE2 (a1:=(0:Int)) (a2:=(false:Bool)) rfl rfl rfl (rfl:is _ (0:Int)) (rfl:is _ (false:Bool)) ⟨_,_,rfl,(rfl:is _ (0:Int)),(rfl:is _ (false:Bool))⟩⟩
 rename_i c';refine ZAJ rfl c'<|ZAM<|ZAB<|ZAC<|ZAG (v:=enc (0:Int)) rfl<|ZAA<|ZAB<|ZAB<|ZAC<|ZAG (v:=enc (0:Int)) rfl<|ZAA<|ZAQ ?_
 obtain⟨o,hl,h⟩:=bs h;refine ZAm (fun(p:(Int×Int)) φ s=>match p with | (n,i)=>Fx φ [(0,(enc (l:(List RefR)))),(4,(enc n)),(5,(enc i))]) (fun(o:(Int ⊕ (Int×Bool))) e φ s=>match o with | (.inl n1)=>e= .exit 0∧Fx φ [(4,(enc n1))] | (.inr (v,v1))=>e= .ret∧Fx φ [(2,(enc v)),(3,(enc v1))]) ?_ hl (FxR rfl) ?_
 ·rintro⟨n,i⟩ o h φ s hF;rw[←hF.eq];rw[ZJf] at h;refine ZAB<|ZAB<|ZAC<|ZAD rfl<|ZAD rfl<|ZAp underlying94 rfl rfl (Enc.self l)<|ZAL (v:=enc (decide (i<(l.length:Int)))) rfl rfl rfl<|ZAA ?_
  split at h
  ·rename_i c';refine ZAI rfl c'<|ZAM<|ZAB<|ZAQ<|ZAB<|ZAC<|ZAD rfl<|ZAD rfl ?_
   obtain⟨v2,hx,h⟩:=bs h;refine ZAv underlying94 ZUk rfl rfl (Enc.self l) hx fun p hp=>ZBb ZS1 ZN8 rfl hp fun y hy=>ZAw (r:=(Rec.mk ((str []),(0:Int),(0:Int),(0:Int),()):RefR)) ZUm ZPq Hp.nil fun m s hs=>ZAZ (r:=v2) ZN8 rfl rfl ZPq hy hs fun xs s hxs hs=>ZAA<|ZAB<|ZAC<|ZAO ZLM rfl<|ZAK ZS0 Sz rfl hxs hs fun y1 hy1=> ?_
   cases hy1;obtain⟨r_,hx1,h⟩:=bs h;refine ZAj (f:=fun a:Str×Unit=>ZD2 a.1) (a:=(v2.v.1,())) rfl func105 rfl rfl (.cons (a:=v2.v.1) (Enc.self _) .nil) hx1<|ZAD rfl ?_
   obtain⟨b,hb_b,h⟩:=bs h;refine ZAT 4 (fun φ s=>Hp s [(.cells m xs)]∧Fx φ [(0,(enc (l:(List RefR)))),(4,(enc n)),(5,(enc i)),(6,(.ptr m 0)),(29,(enc b))]) ?_ ?_
   ·split at hb_b
    ·rename_i cg;refine ZAH rfl rfl cg<|ZAO ZOA rfl<|ZAH rfl rfl cg<|ZAK ag3 (Ss Sz) rfl hxs hs fun y2 hy2=> ?_
     cases hy2;refine ZAH rfl rfl cg<|ZAL (v:=enc (v2.v.2.1==0)) rfl rfl rfl<|ZAY rfl cg rfl<|ZAA ?_
     rw[←oi hb_b];exact⟨hs,FxR rfl⟩
    rename_i cg1;refine ZAE rfl rfl cg1<|ZAE rfl rfl cg1<|ZAE rfl rfl cg1<|ZAX (v:=enc false) rfl cg1 rfl<|ZAA ?_
    rw[←oi hb_b];exact⟨hs,FxR rfl⟩
   rintro φ s ⟨hs,hF⟩;rw[←hF.eq];refine ZAD rfl ?_
   obtain⟨b1,hb_b1,h⟩:=bs h;refine ZAT 4 (fun φ s=>Hp s [(.cells m xs)]∧Fx φ [(0,(enc (l:(List RefR)))),(4,(enc n)),(5,(enc i)),(6,(.ptr m 0)),(34,(enc b1))]) ?_ ?_
   ·split at hb_b1
    ·rename_i cg2;refine ZAH rfl rfl cg2<|ZAO ZOB rfl<|ZAH rfl rfl cg2<|ZAK ag3 (Ss (Ss Sz)) rfl hxs hs fun y3 hy3=> ?_
     cases hy3;refine ZAH rfl rfl cg2<|ZAL (v:=enc (v2.v.2.2.1==0)) rfl rfl rfl<|ZAY rfl cg2 rfl<|ZAA ?_
     rw[←oi hb_b1];exact⟨hs,FxR rfl⟩
    rename_i cg3;refine ZAE rfl rfl cg3<|ZAE rfl rfl cg3<|ZAE rfl rfl cg3<|ZAX (v:=enc false) rfl cg3 rfl<|ZAA ?_
    rw[←oi hb_b1];exact⟨hs,FxR rfl⟩
   rintro φ s ⟨hs,hF⟩;rw[←hF.eq];refine ZAD rfl ?_
   obtain⟨b2,hb_b2,h⟩:=bs h;refine ZAT 4 (fun φ s=>Hp s [(.cells m xs)]∧Fx φ [(0,(enc (l:(List RefR)))),(4,(enc n)),(5,(enc i)),(6,(.ptr m 0)),(39,(enc b2))]) ?_ ?_
   ·split at hb_b2
    ·rename_i cg4;refine ZAH rfl rfl cg4<|ZAO ZJb rfl<|ZAH rfl rfl cg4<|ZAK ag3 (Ss (Ss (Ss Sz))) rfl hxs hs fun y4 hy4=> ?_
     cases hy4;refine ZAH rfl rfl cg4 ?_
     obtain⟨r_1,hx2,hb_b2⟩:=bs hb_b2;refine ZAj (f:=fun a:Int×Int×Int×Unit=>ZAn a.1 a.2.1 a.2.2.1) (a:=(v2.v.2.2.2.1,1,2048,())) rfl func83 rfl rfl (.cons (a:=v2.v.2.2.2.1) (Enc.self _) (.cons (a:=(1:Int)) (rfl:is _ (1:Int)) (.cons (a:=(2048:Int)) (rfl:is _ (2048:Int)) .nil))) hx2<|ZAY rfl cg4 rfl<|ZAA ?_
     rw[←oi hb_b2];exact⟨hs,FxR rfl⟩
    rename_i cg5;refine ZAE rfl rfl cg5<|ZAE rfl rfl cg5<|ZAE rfl rfl cg5<|ZAX (v:=enc false) rfl cg5 rfl<|ZAA ?_
    rw[←oi hb_b2];exact⟨hs,FxR rfl⟩
   rintro φ s ⟨hs,hF⟩;rw[←hF.eq];refine ZAG rfl<|ZAA<|ZAB<|ZAC<|ZAO ZLM rfl<|ZAK ZS0 Sz rfl hxs hs fun y5 hy5=> ?_
   cases hy5;refine ZAL (v:=enc ((eqS v2.v.1 (str [])):Bool)) rfl rfl rfl<|ZAD rfl ?_
   obtain⟨b3,hb_b3,h⟩:=bs h;refine ZAT 4 (fun φ s=>Hp s [(.cells m xs)]∧Fx φ [(0,(enc (l:(List RefR)))),(4,(enc n)),(5,(enc i)),(6,(.ptr m 0)),(7,(enc b2)),(47,(enc b3))]) ?_ ?_
   ·split at hb_b3
    ·rename_i cg6;refine ZAH rfl rfl cg6<|ZAO ZOA rfl<|ZAH rfl rfl cg6<|ZAK ag3 (Ss Sz) rfl hxs hs fun y6 hy6=> ?_
     cases hy6;refine ZAH rfl rfl cg6 ?_
     obtain⟨r_2,hx3,hb_b3⟩:=bs hb_b3;refine ZAj (f:=fun a:Int×Int×Int×Unit=>ZAn a.1 a.2.1 a.2.2.1) (a:=(v2.v.2.1,1,512,())) rfl func83 rfl rfl (.cons (a:=v2.v.2.1) (Enc.self _) (.cons (a:=(1:Int)) (rfl:is _ (1:Int)) (.cons (a:=(512:Int)) (rfl:is _ (512:Int)) .nil))) hx3<|ZAY rfl cg6 rfl<|ZAA ?_
     rw[←oi hb_b3];exact⟨hs,FxR rfl⟩
    rename_i cg7;refine ZAE rfl rfl cg7<|ZAE rfl rfl cg7<|ZAE rfl rfl cg7<|ZAX (v:=enc false) rfl cg7 rfl<|ZAA ?_
    rw[←oi hb_b3];exact⟨hs,FxR rfl⟩
   rintro φ s ⟨hs,hF⟩;rw[←hF.eq];refine ZAD rfl ?_
   obtain⟨b4,hb_b4,h⟩:=bs h;refine ZAT 4 (fun φ s=>Hp s [(.cells m xs)]∧Fx φ [(0,(enc (l:(List RefR)))),(4,(enc n)),(5,(enc i)),(6,(.ptr m 0)),(7,(enc b2)),(52,(enc b4))]) ?_ ?_
   ·split at hb_b4
    ·rename_i cg8;refine ZAH rfl rfl cg8<|ZAO ZOB rfl<|ZAH rfl rfl cg8<|ZAK ag3 (Ss (Ss Sz)) rfl hxs hs fun y7 hy7=> ?_
     cases hy7;refine ZAH rfl rfl cg8 ?_
     obtain⟨r_3,hx4,hb_b4⟩:=bs hb_b4;refine ZAj (f:=fun a:Int×Int×Int×Unit=>ZAn a.1 a.2.1 a.2.2.1) (a:=(v2.v.2.2.1,0,32768,())) rfl func83 rfl rfl (.cons (a:=v2.v.2.2.1) (Enc.self _) (.cons (a:=(0:Int)) (rfl:is _ (0:Int)) (.cons (a:=(32768:Int)) (rfl:is _ (32768:Int)) .nil))) hx4<|ZAY rfl cg8 rfl<|ZAA ?_
     rw[←oi hb_b4];exact⟨hs,FxR rfl⟩
    rename_i cg9;refine ZAE rfl rfl cg9<|ZAE rfl rfl cg9<|ZAE rfl rfl cg9<|ZAX (v:=enc false) rfl cg9 rfl<|ZAA ?_
    rw[←oi hb_b4];exact⟨hs,FxR rfl⟩
   rintro φ s ⟨hs,hF⟩;rw[←hF.eq];refine ZAD rfl ?_
   obtain⟨b5,hb_b5,h⟩:=bs h;refine ZAT 4 (fun φ s=>Hp s [(.cells m xs)]∧Fx φ [(0,(enc (l:(List RefR)))),(4,(enc n)),(5,(enc i)),(6,(.ptr m 0)),(7,(enc b2)),(57,(enc b5))]) ?_ ?_
   ·split at hb_b5
    ·rename_i cg10;refine ZAH rfl rfl cg10<|ZAO ZJb rfl<|ZAH rfl rfl cg10<|ZAK ag3 (Ss (Ss (Ss Sz))) rfl hxs hs fun y8 hy8=> ?_
     cases hy8;refine ZAH rfl rfl cg10 ?_
     obtain⟨r_4,hx5,hb_b5⟩:=bs hb_b5;refine ZAj (f:=fun a:Int×Int×Int×Unit=>ZAn a.1 a.2.1 a.2.2.1) (a:=(v2.v.2.2.2.1,1,32768,())) rfl func83 rfl rfl (.cons (a:=v2.v.2.2.2.1) (Enc.self _) (.cons (a:=(1:Int)) (rfl:is _ (1:Int)) (.cons (a:=(32768:Int)) (rfl:is _ (32768:Int)) .nil))) hx5<|ZAY rfl cg10 rfl<|ZAA ?_
     rw[←oi hb_b5];exact⟨hs,FxR rfl⟩
    rename_i cg11;refine ZAE rfl rfl cg11<|ZAE rfl rfl cg11<|ZAE rfl rfl cg11<|ZAX (v:=enc false) rfl cg11 rfl<|ZAA ?_
    rw[←oi hb_b5];exact⟨hs,FxR rfl⟩
   rintro φ s ⟨hs,hF⟩;rw[←hF.eq];refine ZAG rfl<|ZAA<|ZAB<|ZAB<|ZAC<|ZAD rfl<|ZBS (v:=enc (!b2)) rfl rfl<|ZAD rfl ?_
   obtain⟨b6,hb_b6,h⟩:=bs h;refine ZAT 3 (fun φ s=>Hp s [(.cells m xs)]∧Fx φ [(0,(enc (l:(List RefR)))),(4,(enc n)),(5,(enc i)),(6,(.ptr m 0)),(63,(enc b6))]) ?_ ?_
   ·split at hb_b6
    ·rename_i cg12;refine ZAH rfl rfl cg12<|ZAD rfl<|ZAH rfl rfl cg12<|ZBS (v:=enc (!b5)) rfl rfl<|ZAY rfl cg12 rfl<|ZAA ?_
     rw[←oi hb_b6];exact⟨hs,FxR rfl⟩
    rename_i cg13;refine ZAE rfl rfl cg13<|ZAE rfl rfl cg13<|ZAX (v:=enc false) rfl cg13 rfl<|ZAA ?_
    rw[←oi hb_b6];exact⟨hs,FxR rfl⟩
   rintro φ s ⟨hs,hF⟩;rw[←hF.eq];refine ZAA ?_
   split at h
   ·rename_i c';refine ZAI rfl c'<|ZAB<|ZAC<|ZAG (v:=enc (0:Int)) rfl<|ZAG (v:=enc false) rfl<|ZAA<|ZAN ?_
    show if _ then _ else _
    rw[if_neg (by simp)]
    rw[←oi h];exact⟨_,rfl,rfl,FxR rfl⟩
   rename_i c';refine ZAJ rfl c'<|ZAM<|ZAC<|ZAD rfl<|ZAO ZJb rfl<|ZAK ag3 (Ss (Ss (Ss Sz))) rfl hxs hs fun y9 hy9=> ?_
   cases hy9;refine ZAL (v:=enc (IntKind.i64.wrap (n+v2.v.2.2.2.1))) rfl rfl rfl<|ZAG rfl<|ZAA<|ZAC<|ZAD rfl<|ZAL (v:=enc (IntKind.i64.wrap (i+1))) rfl rfl rfl<|ZAG rfl<|ZAA ?_
   rw[←oi h];exact⟨_,rfl,FxR rfl⟩
  rename_i c';refine ZAJ rfl c'<|ZAl ?_
  rw[←oi h];exact⟨_,rfl,rfl,FxR rfl⟩
 intro e φ s hE;rcases o with n1 | ⟨v,v1⟩
 ·obtain⟨rfl,hF⟩:=hE;rw[←hF.eq];rw[ZHG] at h;show if _ then _ else _
  rw[if_pos rfl];refine ZAB<|ZAC<|ZAD rfl<|ZAG rfl<|ZAG (v:=enc true) rfl<|ZAA<|ZAN ?_
  rw[←oi h];exact⟨rfl,KE2 (a1:=n1) (a2:=(true:Bool)) rfl rfl rfl (rfl:is _ n1) (rfl:is _ (true:Bool)) ⟨_,_,rfl,(rfl:is _ n1),(rfl:is _ (true:Bool))⟩⟩
 obtain⟨rfl,hF⟩:=hE;rw[←hF.eq];rw[ZHG] at h;show if _ then _ else _
 rw[if_neg (by simp)]
 rw[←oi h];exact⟨rfl,KE2 (a1:=v) (a2:=v1) rfl rfl rfl (rfl:is _ v) (rfl:is _ v1) ⟨_,_,rfl,(rfl:is _ v),(rfl:is _ v1)⟩⟩
theorem ZOJ:ZAr Tryz.prog 85 (fun _=>Fn (fun a:(List RefR)×Unit=>ZDs a.1)):=fnC ZRC ⟨_,func85,rfl⟩<|fun a r h=>ZOI a.1 r h
noncomputable def pz14:Prims:=pz13.add 85 (Fn (fun a:(List RefR)×Unit=>ZDs a.1))
theorem ZRD:ZAV Tryz.prog pz14:=ZAS ZRC ZOJ
theorem ZLY (l:(List Str)) (r:Bool) (h:ZBi l=some r):MF Tryz.prog pz14 86 [enc l] s0 fun v _=>ris v r:=by
 refine ZAe [(0,enc l)] func86 rfl (by simp only[Tryz.f86];rfl) fun ψ=> ?_
 unfold ZBi at h;refine ZAB<|ZAC<|ZAG (v:=enc false) rfl<|ZAA<|ZAB<|ZAB<|ZAC<|ZAG (v:=enc (0:Int)) rfl<|ZAA<|ZAQ ?_
 obtain⟨o,hl,h⟩:=bs h;refine ZAm (fun(p:Int) φ s=>match p with | i=>Fx φ [(0,(enc (l:(List Str)))),(3,(enc i))]) (fun(o:(Unit ⊕ Bool)) e φ s=>match o with | (.inl _)=>e= .exit 0∧Fx φ [] | (.inr v)=>e= .ret∧Fx φ [(2,(enc v))]) ?_ hl (FxR rfl) ?_
 ·rintro i o h φ s hF;rw[←hF.eq];rw[ZFV] at h;refine ZAB<|ZAB<|ZAC<|ZAD rfl<|ZAD rfl<|ZAp underlying34 rfl rfl (Enc.self l)<|ZAL (v:=enc (decide (i<(l.length:Int)))) rfl rfl rfl<|ZAA ?_
  split at h
  ·rename_i c';refine ZAI rfl c'<|ZAM<|ZAB<|ZAQ<|ZAB<|ZAo (by decide+kernel) (by decide+kernel)<|ZAD rfl<|ZAD rfl ?_
   obtain⟨v1,hx,h⟩:=bs h;refine ZAv underlying34 sh9 rfl rfl (Enc.self l) hx fun p hp=>ZCq rfl ag9 rfl hp fun y hy=> ?_
   cases hy;obtain⟨r_,hx1,h⟩:=bs h;refine ZAj (f:=fun a:Str×Unit=>ZB0 a.1) (a:=(v1,())) rfl func42 rfl rfl (.cons (a:=v1) (Enc.self _) .nil) hx1<|ZAL (v:=enc (r_ !=0)) rfl rfl rfl<|ZAD rfl ?_
   obtain⟨b,hb_b,h⟩:=bs h;refine ZAT 15 (fun φ s=>Fx φ [(0,(enc (l:(List Str)))),(3,(enc i)),(31,(enc b))]) ?_ ?_
   ·split at hb_b
    ·rename_i cg;refine ZAE rfl rfl (by simpa using cg)<|ZAE rfl rfl (by simpa using cg)<|ZAE rfl rfl (by simpa using cg)<|ZAR rfl rfl<|ZAR rfl rfl<|ZAR rfl rfl<|ZAR rfl rfl<|ZAR rfl rfl<|ZAR rfl rfl<|ZAR rfl rfl<|ZAR rfl rfl<|ZAR rfl rfl<|ZAR rfl rfl<|ZAE rfl rfl (by simpa using cg)<|ZAY (v:=enc true) rfl cg rfl ?_
     refine ZAA ?_
     rw[←oi hb_b];exact(FxR rfl)
    rename_i cg1;refine ZAH rfl rfl (by simpa using cg1)<|ZAD rfl<|ZAH rfl rfl (by simpa using cg1)<|ZAL (v:=enc (decide (i > 0))) rfl rfl rfl<|ZAH rfl rfl (by simpa using cg1)<|ZAD rfl ?_
    obtain⟨b1,hb_b1,hb_b⟩:=bs hb_b;refine ZAT 11 (fun φ s=>Fx φ [(0,(enc (l:(List Str)))),(3,(enc i)),(16,(enc (r_ !=0))),(30,(enc b1))]) ?_ ?_
    ·split at hb_b1
     ·rename_i cg2;refine ZAH rfl rfl cg2<|ZAD rfl<|ZAH rfl rfl cg2<|ZAD rfl<|ZAH rfl rfl cg2 ?_
      obtain⟨v2,hx2,hb_b1⟩:=bs hb_b1;refine ZAv underlying34 sh9 rfl rfl (Enc.self l) hx2 fun p1 hp1=>ZAH rfl rfl cg2<|ZCq rfl ag9 rfl hp1 fun y1 hy1=> ?_
      cases hy1;refine ZAH rfl rfl cg2<|ZAD rfl<|ZAH rfl rfl cg2<|ZAD rfl<|ZAH rfl rfl cg2<|ZAL (v:=enc (IntKind.i64.wrap (i - 1))) rfl rfl rfl<|ZAH rfl rfl cg2 ?_
      obtain⟨v3,hx3,hb_b1⟩:=bs hb_b1;refine ZAv underlying34 sh9 rfl rfl (Enc.self l) hx3 fun p2 hp2=>ZAH rfl rfl cg2<|ZCq rfl ag9 rfl hp2 fun y2 hy2=> ?_
      cases hy2;refine ZAH rfl rfl cg2<|ZAL (v:=enc ((ltS v2 v3 || eqS v2 v3):Bool)) rfl rfl rfl<|ZAH rfl rfl (by simpa using cg1)<|ZAY rfl cg2 rfl<|ZAA ?_
      rw[←oi hb_b1];exact(FxR rfl)
     rename_i cg3;refine ZAE rfl rfl cg3<|ZAE rfl rfl cg3<|ZAE rfl rfl cg3<|ZAE rfl rfl cg3<|ZAE rfl rfl cg3<|ZAE rfl rfl cg3<|ZAE rfl rfl cg3<|ZAE rfl rfl cg3<|ZAE rfl rfl cg3<|ZAE rfl rfl cg3<|ZAH rfl rfl (by simpa using cg1)<|ZAX (v:=enc false) rfl cg3 rfl<|ZAA ?_
     rw[←oi hb_b1];exact(FxR rfl)
    rintro φ s hF;rw[←hF.eq];refine ZAX rfl cg1 rfl<|ZAA ?_
    rw[←oi hb_b];exact(FxR rfl)
   rintro φ s hF;rw[←hF.eq];refine ZAA ?_
   split at h
   ·rename_i c';refine ZAI rfl c'<|ZAB<|ZAC<|ZAG (v:=enc false) rfl<|ZAA<|ZAN ?_
    show if _ then _ else _
    rw[if_neg (by simp)]
    rw[←oi h];exact⟨_,rfl,rfl,FxR rfl⟩
   rename_i c';refine ZAJ rfl c'<|ZAM<|ZAC<|ZAD rfl<|ZAL (v:=enc (IntKind.i64.wrap (i+1))) rfl rfl rfl<|ZAG rfl<|ZAA ?_
   rw[←oi h];exact⟨_,rfl,FxR rfl⟩
  rename_i c';refine ZAJ rfl c'<|ZAl ?_
  rw[←oi h];exact⟨_,rfl,rfl,trivial⟩
 intro e φ s hE;rcases o with _u | v
 ·obtain⟨rfl,hF⟩:=hE;rw[←hF.eq];rw[ZFW] at h;show if _ then _ else _
  rw[if_pos rfl];refine ZAB<|ZAC<|ZAG (v:=enc true) rfl<|ZAA<|ZAN ?_
  rw[←oi h];exact⟨rfl,KE1 (a:=(true:Bool)) rfl rfl (rfl:is _ (true:Bool)) (rfl:is _ (true:Bool))⟩
 obtain⟨rfl,hF⟩:=hE;rw[←hF.eq];rw[ZFW] at h;show if _ then _ else _
 rw[if_neg (by simp)]
 rw[←oi h];exact⟨rfl,KE1 (a:=v) rfl rfl (rfl:is _ v) (rfl:is _ v)⟩
theorem ZLZ:ZAr Tryz.prog 86 (fun _=>Fn (fun a:(List Str)×Unit=>ZBi a.1)):=fnC ZRD ⟨_,func86,rfl⟩<|fun a r h=>ZLY a.1 r h
noncomputable def pz15:Prims:=pz14.add 86 (Fn (fun a:(List Str)×Unit=>ZBi a.1))
theorem ZRE:ZAV Tryz.prog pz15:=ZAS ZRD ZLZ
theorem ZOK (m:ZBg) (r:Bool) (h:ZEa m=some r):MF Tryz.prog pz15 62 [enc m] s0 fun v _=>ris v r:=by
 refine ZAe [(0,enc m)] func62 rfl (by simp only[Tryz.f62];rfl) fun ψ=> ?_
 unfold ZEa at h;refine ZAB<|ZAC<|ZA1 (r:=m) rfl (Enc.self m) Hp.nil fun m1 xs s hxs hs=>ZAG (v:=enc false) rfl<|ZAA<|ZAB<|ZAB<|ZAC<|ZAO ZIg rfl<|ZAK ag25 Sz rfl hxs hs fun y hy=> ?_
 cases hy;obtain⟨r_,hx,h⟩:=bs h;refine ZAj (f:=fun a:Int×Int×Int×Unit=>ZAn a.1 a.2.1 a.2.2.1) (a:=(m.v.1,1,3,())) rfl func83 rfl rfl (.cons (a:=m.v.1) (Enc.self _) (.cons (a:=(1:Int)) (rfl:is _ (1:Int)) (.cons (a:=(3:Int)) (rfl:is _ (3:Int)) .nil))) hx<|ZBS (v:=enc (!r_)) rfl rfl<|ZAD rfl ?_
 obtain⟨b,hb_b,h⟩:=bs h;refine ZAT 5 (fun φ s=>Hp s [(.cells m1 xs)]∧Fx φ [(1,(.ptr m1 0)),(16,(enc b))]) ?_ ?_
 ·split at hb_b
  ·rename_i cg;refine ZAE rfl rfl (by simpa using cg)<|ZAE rfl rfl (by simpa using cg)<|ZAE rfl rfl (by simpa using cg)<|ZAE rfl rfl (by simpa using cg)<|ZAY (v:=enc true) rfl cg rfl<|ZAA ?_
   rw[←oi hb_b];exact⟨hs,FxR rfl⟩
  rename_i cg1;refine ZAH rfl rfl (by simpa using cg1)<|ZAO ZPA rfl<|ZAH rfl rfl (by simpa using cg1)<|ZAK ag3 (Ss Sz) rfl hxs hs fun y1 hy1=> ?_
  cases hy1;refine ZAH rfl rfl (by simpa using cg1) ?_
  obtain⟨r_1,hx1,hb_b⟩:=bs hb_b;refine ZAj (f:=fun a:Int×Int×Int×Unit=>ZAn a.1 a.2.1 a.2.2.1) (a:=(m.v.2.1,0,4095,())) rfl func83 rfl rfl (.cons (a:=m.v.2.1) (Enc.self _) (.cons (a:=(0:Int)) (rfl:is _ (0:Int)) (.cons (a:=(4095:Int)) (rfl:is _ (4095:Int)) .nil))) hx1<|ZAH rfl rfl (by simpa using cg1)<|ZBS (v:=enc (!r_1)) rfl rfl<|ZAX rfl cg1 rfl<|ZAA ?_
  rw[←oi hb_b];exact⟨hs,FxR rfl⟩
 rintro φ s ⟨hs,hF⟩;rw[←hF.eq];refine ZAD rfl ?_
 obtain⟨b1,hb_b1,h⟩:=bs h;refine ZAT 5 (fun φ s=>Hp s [(.cells m1 xs)]∧Fx φ [(1,(.ptr m1 0)),(22,(enc b1))]) ?_ ?_
 ·split at hb_b1
  ·rename_i cg2;refine ZAE rfl rfl (by simpa using cg2)<|ZAE rfl rfl (by simpa using cg2)<|ZAE rfl rfl (by simpa using cg2)<|ZAE rfl rfl (by simpa using cg2)<|ZAY (v:=enc true) rfl cg2 rfl<|ZAA ?_
   rw[←oi hb_b1];exact⟨hs,FxR rfl⟩
  rename_i cg3;refine ZAH rfl rfl (by simpa using cg3)<|ZAO ZPB rfl<|ZAH rfl rfl (by simpa using cg3)<|ZAK ag3 (Ss (Ss Sz)) rfl hxs hs fun y2 hy2=> ?_
  cases hy2;refine ZAH rfl rfl (by simpa using cg3) ?_
  obtain⟨r_2,hx2,hb_b1⟩:=bs hb_b1;refine ZAj (f:=fun a:Int×Int×Int×Unit=>ZAn a.1 a.2.1 a.2.2.1) (a:=(m.v.2.2.1,0,64,())) rfl func83 rfl rfl (.cons (a:=m.v.2.2.1) (Enc.self _) (.cons (a:=(0:Int)) (rfl:is _ (0:Int)) (.cons (a:=(64:Int)) (rfl:is _ (64:Int)) .nil))) hx2<|ZAH rfl rfl (by simpa using cg3)<|ZBS (v:=enc (!r_2)) rfl rfl<|ZAX rfl cg3 rfl<|ZAA ?_
  rw[←oi hb_b1];exact⟨hs,FxR rfl⟩
 rintro φ s ⟨hs,hF⟩;rw[←hF.eq];refine ZAD rfl ?_
 obtain⟨b2,hb_b2,h⟩:=bs h;refine ZAT 5 (fun φ s=>Hp s [(.cells m1 xs)]∧Fx φ [(1,(.ptr m1 0)),(28,(enc b2))]) ?_ ?_
 ·split at hb_b2
  ·rename_i cg4;refine ZAE rfl rfl (by simpa using cg4)<|ZAE rfl rfl (by simpa using cg4)<|ZAE rfl rfl (by simpa using cg4)<|ZAE rfl rfl (by simpa using cg4)<|ZAY (v:=enc true) rfl cg4 rfl<|ZAA ?_
   rw[←oi hb_b2];exact⟨hs,FxR rfl⟩
  rename_i cg5;refine ZAH rfl rfl (by simpa using cg5)<|ZAO ZIh rfl<|ZAH rfl rfl (by simpa using cg5)<|ZAK ag3 (Ss (Ss (Ss Sz))) rfl hxs hs fun y3 hy3=> ?_
  cases hy3;refine ZAH rfl rfl (by simpa using cg5) ?_
  obtain⟨r_3,hx3,hb_b2⟩:=bs hb_b2;refine ZAj (f:=fun a:Int×Int×Int×Unit=>ZAn a.1 a.2.1 a.2.2.1) (a:=(m.v.2.2.2.1,0,32768,())) rfl func83 rfl rfl (.cons (a:=m.v.2.2.2.1) (Enc.self _) (.cons (a:=(0:Int)) (rfl:is _ (0:Int)) (.cons (a:=(32768:Int)) (rfl:is _ (32768:Int)) .nil))) hx3<|ZAH rfl rfl (by simpa using cg5)<|ZBS (v:=enc (!r_3)) rfl rfl<|ZAX rfl cg5 rfl<|ZAA ?_
  rw[←oi hb_b2];exact⟨hs,FxR rfl⟩
 rintro φ s ⟨hs,hF⟩;rw[←hF.eq];refine ZAD rfl ?_
 obtain⟨b3,hb_b3,h⟩:=bs h;refine ZAT 5 (fun φ s=>Hp s [(.cells m1 xs)]∧Fx φ [(1,(.ptr m1 0)),(34,(enc b3))]) ?_ ?_
 ·split at hb_b3
  ·rename_i cg6;refine ZAE rfl rfl (by simpa using cg6)<|ZAE rfl rfl (by simpa using cg6)<|ZAE rfl rfl (by simpa using cg6)<|ZAE rfl rfl (by simpa using cg6)<|ZAY (v:=enc true) rfl cg6 rfl<|ZAA ?_
   rw[←oi hb_b3];exact⟨hs,FxR rfl⟩
  rename_i cg7;refine ZAH rfl rfl (by simpa using cg7)<|ZAO ZJZ rfl<|ZAH rfl rfl (by simpa using cg7)<|ZAK ag36 (Ss (Ss (Ss (Ss (Ss Sz))))) rfl hxs hs fun y4 hy4=>ZAH rfl rfl (by simpa using cg7)<|ZAp underlying36 rfl rfl hy4<|ZAH rfl rfl (by simpa using cg7)<|ZAL (v:=enc (decide ((m.v.2.2.2.2.2.1.length:Int) > 8))) rfl rfl rfl<|ZAX rfl cg7 rfl<|ZAA ?_
  rw[←oi hb_b3];exact⟨hs,FxR rfl⟩
 rintro φ s ⟨hs,hF⟩;rw[←hF.eq];refine ZAA ?_
 split at h
 ·rename_i c';refine ZAI rfl c'<|ZAB<|ZAC<|ZAG (v:=enc false) rfl<|ZAA<|ZAN ?_
  rw[←oi h];exact⟨rfl,KE1 (a:=(false:Bool)) rfl rfl (rfl:is _ (false:Bool)) (rfl:is _ (false:Bool))⟩
 rename_i c';refine ZAJ rfl c'<|ZAM<|ZAB<|ZAB<|ZAC<|ZAO ZIg rfl<|ZAK ag25 Sz rfl hxs hs fun y5 hy5=> ?_
 cases hy5;refine ZAL (v:=enc (m.v.1==3)) rfl rfl rfl<|ZAD rfl ?_
 obtain⟨b4,hb_b4,h⟩:=bs h;refine ZAT 12 (fun φ s=>Hp s [(.cells m1 xs)]∧Fx φ [(1,(.ptr m1 0)),(50,(enc b4))]) ?_ ?_
 ·split at hb_b4
  ·rename_i cg8;refine ZAH rfl rfl cg8<|ZAO ZIi rfl<|ZAH rfl rfl cg8<|ZAK ag9 (Ss (Ss (Ss (Ss Sz)))) rfl hxs hs fun y6 hy6=> ?_
   cases hy6;refine ZAH rfl rfl cg8<|ZHe underlying9 rfl rfl<|ZAH rfl rfl cg8 ?_
   obtain⟨r_4,hx4,hb_b4⟩:=bs hb_b4;refine ZAj (f:=fun a:Int×Int×Int×Unit=>ZAn a.1 a.2.1 a.2.2.1) (a:=(((List.length m.v.2.2.2.2.1:Nat):Int),1,1000,())) rfl func83 rfl rfl (.cons (a:=(((List.length m.v.2.2.2.2.1:Nat):Int):Int)) (Enc.self _) (.cons (a:=(1:Int)) (rfl:is _ (1:Int)) (.cons (a:=(1000:Int)) (rfl:is _ (1000:Int)) .nil))) hx4<|ZAH rfl rfl cg8<|ZBS (v:=enc (!r_4)) rfl rfl<|ZAH rfl rfl cg8<|ZAD rfl ?_
   obtain⟨b5,hb_b5,hb_b4⟩:=bs hb_b4;refine ZAT 5 (fun φ s=>Hp s [(.cells m1 xs)]∧Fx φ [(1,(.ptr m1 0)),(38,(enc (m.v.1==3))),(49,(enc b5))]) ?_ ?_
   ·split at hb_b5
    ·rename_i cg9;refine ZAE rfl rfl (by simpa using cg9)<|ZAE rfl rfl (by simpa using cg9)<|ZAE rfl rfl (by simpa using cg9)<|ZAE rfl rfl (by simpa using cg9)<|ZAH rfl rfl cg8<|ZAY (v:=enc true) rfl cg9 rfl<|ZAA ?_
     rw[←oi hb_b5];exact⟨hs,FxR rfl⟩
    rename_i cg10;refine ZAH rfl rfl (by simpa using cg10)<|ZAO ZIi rfl<|ZAH rfl rfl (by simpa using cg10)<|ZAK ag9 (Ss (Ss (Ss (Ss Sz)))) rfl hxs hs fun y7 hy7=> ?_
    cases hy7;refine ZAH rfl rfl (by simpa using cg10) ?_
    obtain⟨r_5,hx5,hb_b5⟩:=bs hb_b5;refine ZAj (f:=fun a:Str×Unit=>ZDY a.1) (a:=(m.v.2.2.2.2.1,())) rfl func84 rfl rfl (.cons (a:=m.v.2.2.2.2.1) (Enc.self _) .nil) hx5<|ZAH rfl rfl (by simpa using cg10)<|ZBS (v:=enc (!r_5)) rfl rfl<|ZAH rfl rfl cg8<|ZAX rfl cg10 rfl<|ZAA ?_
    rw[←oi hb_b5];exact⟨hs,FxR rfl⟩
   rintro φ s ⟨hs,hF⟩;rw[←hF.eq];refine ZAY rfl cg8 rfl<|ZAA ?_
   rw[←oi hb_b4];exact⟨hs,FxR rfl⟩
  rename_i cg11;refine ZAE rfl rfl cg11<|ZAE rfl rfl cg11<|ZAE rfl rfl cg11<|ZAE rfl rfl cg11<|ZAE rfl rfl cg11<|ZAE rfl rfl cg11<|ZAR rfl rfl<|ZAR rfl rfl<|ZAR rfl rfl<|ZAR rfl rfl<|ZAE rfl rfl cg11<|ZAX (v:=enc false) rfl cg11 rfl<|ZAA ?_
  rw[←oi hb_b4];exact⟨hs,FxR rfl⟩
 rintro φ s ⟨hs,hF⟩;rw[←hF.eq];refine ZAD rfl ?_
 obtain⟨b6,hb_b6,h⟩:=bs h;refine ZAT 9 (fun φ s=>Hp s [(.cells m1 xs)]∧Fx φ [(1,(.ptr m1 0)),(60,(enc b6))]) ?_ ?_
 ·split at hb_b6
  ·rename_i cg12;refine ZAE rfl rfl (by simpa using cg12)<|ZAE rfl rfl (by simpa using cg12)<|ZAE rfl rfl (by simpa using cg12)<|ZAE rfl rfl (by simpa using cg12)<|ZAR rfl rfl<|ZAR rfl rfl<|ZAR rfl rfl<|ZAE rfl rfl (by simpa using cg12)<|ZAY (v:=enc true) rfl cg12 rfl<|ZAA ?_
   rw[←oi hb_b6];exact⟨hs,FxR rfl⟩
  rename_i cg13;refine ZAH rfl rfl (by simpa using cg13)<|ZAO ZIg rfl<|ZAH rfl rfl (by simpa using cg13)<|ZAK ag25 Sz rfl hxs hs fun y8 hy8=> ?_
  cases hy8;refine ZAH rfl rfl (by simpa using cg13)<|ZAL (v:=enc (m.v.1 !=3)) rfl rfl rfl<|ZAH rfl rfl (by simpa using cg13)<|ZAD rfl ?_
  obtain⟨b7,hb_b7,hb_b6⟩:=bs hb_b6;refine ZAT 4 (fun φ s=>Hp s [(.cells m1 xs)]∧Fx φ [(1,(.ptr m1 0)),(51,(enc b4)),(59,(enc b7))]) ?_ ?_
  ·split at hb_b7
   ·rename_i cg14;refine ZAH rfl rfl cg14<|ZAO ZIi rfl<|ZAH rfl rfl cg14<|ZAK ag9 (Ss (Ss (Ss (Ss Sz)))) rfl hxs hs fun y9 hy9=> ?_
    cases hy9;refine ZAH rfl rfl cg14<|ZAL (v:=enc (!eqS m.v.2.2.2.2.1 (str []))) rfl rfl rfl<|ZAH rfl rfl (by simpa using cg13)<|ZAY rfl cg14 rfl<|ZAA ?_
    rw[←oi hb_b7];exact⟨hs,FxR rfl⟩
   rename_i cg15;refine ZAE rfl rfl cg15<|ZAE rfl rfl cg15<|ZAE rfl rfl cg15<|ZAH rfl rfl (by simpa using cg13)<|ZAX (v:=enc false) rfl cg15 rfl<|ZAA ?_
   rw[←oi hb_b7];exact⟨hs,FxR rfl⟩
  rintro φ s ⟨hs,hF⟩;rw[←hF.eq];refine ZAX rfl cg13 rfl<|ZAA ?_
  rw[←oi hb_b6];exact⟨hs,FxR rfl⟩
 rintro φ s ⟨hs,hF⟩;rw[←hF.eq];refine ZAA ?_
 split at h
 ·rename_i c';refine ZAI rfl c'<|ZAB<|ZAC<|ZAG (v:=enc false) rfl<|ZAA<|ZAN ?_
  rw[←oi h];exact⟨rfl,KE1 (a:=(false:Bool)) rfl rfl (rfl:is _ (false:Bool)) (rfl:is _ (false:Bool))⟩
 rename_i c';refine ZAJ rfl c'<|ZAM<|ZAB<|ZAC<|ZAG (v:= .nils) rfl<|ZAA<|ZAB<|ZAB<|ZAC<|ZAG (v:=enc (0:Int)) rfl<|ZAA<|ZAQ ?_
 obtain⟨o,hl,h⟩:=bs h;refine ZAm (fun(p:((List Str)×Int)) φ s=>match p with | (names,i)=>∃(x_names:AV),is x_names names∧ZCB x_names=true∧Fx φ [(1,(.ptr m1 0)),(3,x_names),(4,(enc i))]∧Hp s [(.cells m1 xs), .own x_names]) (fun(o:((List Str) ⊕ Bool)) e φ s=>match o with | (.inl names1)=>e= .exit 0∧∃(x_names1:AV),is x_names1 names1∧ZCB x_names1=true∧Fx φ [(1,(.ptr m1 0)),(3,x_names1)]∧Hp s [(.cells m1 xs), .own x_names1] | (.inr v)=>e= .ret∧Fx φ [(2,(enc v))]) ?_ hl ⟨.nils,isL.nil,rfl,FxR rfl,(Hp.front [.own .nils] (b:=[]) (Hp.front [] (b:=[(.cells m1 xs)]) (Hp.add hs rfl)))⟩ ?_
 ·rintro⟨names,i⟩ o h φ s ⟨x_names,h_names,h_namesc,hF,hs⟩;rw[←hF.eq];rw[ZHH] at h;refine ZAB<|ZAB<|ZAC<|ZAD rfl<|ZAO ZJZ rfl<|ZAK ag36 (Ss (Ss (Ss (Ss (Ss Sz))))) rfl hxs hs fun y10 hy10=>ZAp underlying36 rfl rfl hy10<|ZAL (v:=enc (decide (i<(m.v.2.2.2.2.2.1.length:Int)))) rfl rfl rfl<|ZAA ?_
  split at h
  ·rename_i c';refine ZAI rfl c'<|ZAM<|ZAB<|ZAQ<|ZAB<|ZAC<|ZAD (v:=x_names) rfl<|ZAO ZJZ rfl<|ZAK ag36 (Ss (Ss (Ss (Ss (Ss Sz))))) rfl hxs hs fun y11 hy11=>ZAD rfl ?_
   obtain⟨v1,hx6,h⟩:=bs h;refine ZAv underlying36 sh89 rfl rfl hy11 hx6 fun p hp=>ZB5 ZMp Sz rfl hp fun p1 hp1=>ZBG ag9 rfl hp1 fun y12 hy12=> ?_
   cases hy12;refine ZBs [(enc v1.v.1)] ([v1.v.1]:(List Str)) underlying34 ef9 rfl rfl rfl (Nat.le_of_ble_eq_true rfl) ⟨(rfl:is _ v1.v.1),trivial⟩ fun z hz hzc hzn=> ?_
   obtain⟨l,hx7,h⟩:=bs h;refine ZEB [(.cells m1 xs)] (es2:=[]) underlying34 underlying34 rfl rfl ef9 rfl rfl h_names h_namesc hs hz hx7 fun z1 s hz1 hz1c hs=>ZAG (v:=z1) rfl<|ZAA<|ZAB<|ZAC<|ZAO ZJZ rfl<|ZAK ag36 (Ss (Ss (Ss (Ss (Ss Sz))))) rfl hxs hs fun y13 hy13=>ZAD rfl ?_
   obtain⟨v2,hx8,h⟩:=bs h;refine ZAv underlying36 sh89 rfl rfl hy13 hx8 fun p2 hp2=>ZB5 ZMq (Ss Sz) rfl hp2 fun p3 hp3=>ZBG ag33 rfl hp3 fun y14 hy14=>ZAp underlying33 rfl rfl hy14<|ZAL (v:=enc (decide ((v2.v.2.1.length:Int) > 256))) rfl rfl rfl<|ZAA ?_
   split at h
   ·rename_i c';refine ZAI rfl c'<|ZAB<|ZAC<|ZAG (v:=enc false) rfl<|ZAA<|ZAN ?_
    show if _ then _ else _
    rw[if_neg (by simp)]
    rw[←oi h];exact⟨_,rfl,rfl,FxR rfl⟩
   rename_i c';refine ZAJ rfl c'<|ZAM<|ZAC<|ZAD rfl<|ZAL (v:=enc (IntKind.i64.wrap (i+1))) rfl rfl rfl<|ZAG rfl<|ZAA ?_
   rw[←oi h];exact⟨_,rfl,⟨z1,hz1,hz1c,FxR rfl,hs⟩⟩
  rename_i c';refine ZAJ rfl c'<|ZAl ?_
  rw[←oi h];exact⟨_,rfl,rfl,⟨x_names,h_names,h_namesc,FxR rfl,hs⟩⟩
 intro e φ s hE;rcases o with names1 | v
 ·obtain⟨rfl,x_names1,h_names1,h_names1c,hF,hs⟩:=hE;rw[←hF.eq];rw[ZHI] at h;show if _ then _ else _
  rw[if_pos rfl];refine ZAB<|ZAC<|ZAO ZMr rfl<|ZAK ag94 (Ss (Ss (Ss (Ss (Ss (Ss Sz)))))) rfl hxs hs fun y15 hy15=> ?_
  obtain⟨r_6,hx9,h⟩:=bs h;refine ZAj (f:=fun a:(List RefR)×Unit=>ZDs a.1) (a:=(m.v.2.2.2.2.2.2.1,())) rfl func85 rfl rfl (.cons (a:=m.v.2.2.2.2.2.2.1) hy15 .nil) hx9<|ZAD (v:=res r_6) rfl<|ZAs rfl rfl<|ZAs rfl rfl<|ZAG rfl<|ZAG rfl<|ZAA<|ZAB<|ZAC<|ZAD (v:=x_names1) rfl ?_
  obtain⟨r_7,hx10,h⟩:=bs h;refine ZAj (f:=fun a:(List Str)×Unit=>ZBi a.1) (a:=(names1,())) rfl func86 rfl rfl (.cons (a:=names1) h_names1 .nil) hx10<|ZAD rfl ?_
  obtain⟨b8,hb_b8,h⟩:=bs h;refine ZAT 2 (fun φ s=>Hp s [(.cells m1 xs), .own x_names1]∧Fx φ [(1,(.ptr m1 0)),(5,(enc r_6.1)),(95,(enc b8))]) ?_ ?_
  ·split at hb_b8
   ·rename_i cg16;refine ZAH rfl rfl cg16<|ZAD rfl<|ZAY rfl cg16 rfl<|ZAA ?_
    rw[←oi hb_b8];exact⟨hs,FxR rfl⟩
   rename_i cg17;refine ZAE rfl rfl cg17<|ZAX (v:=enc false) rfl cg17 rfl<|ZAA ?_
   rw[←oi hb_b8];exact⟨hs,FxR rfl⟩
  rintro φ s ⟨hs,hF⟩;rw[←hF.eq];refine ZAD rfl ?_
  obtain⟨b9,hb_b9,h⟩:=bs h;refine ZAT 5 (fun φ s=>Hp s [(.cells m1 xs), .own x_names1]∧Fx φ [(1,(.ptr m1 0)),(101,(enc b9))]) ?_ ?_
  ·split at hb_b9
   ·rename_i cg18;refine ZAH rfl rfl cg18<|ZAD rfl<|ZAH rfl rfl cg18<|ZAO ZIh rfl<|ZAH rfl rfl cg18<|ZAK ag3 (Ss (Ss (Ss Sz))) rfl hxs hs fun y16 hy16=> ?_
    cases hy16;refine ZAH rfl rfl cg18<|ZAL (v:=enc (r_6.1==m.v.2.2.2.1)) rfl rfl rfl<|ZAY rfl cg18 rfl<|ZAA ?_
    rw[←oi hb_b9];exact⟨hs,FxR rfl⟩
   rename_i cg19;refine ZAE rfl rfl cg19<|ZAE rfl rfl cg19<|ZAE rfl rfl cg19<|ZAE rfl rfl cg19<|ZAX (v:=enc false) rfl cg19 rfl<|ZAA ?_
   rw[←oi hb_b9];exact⟨hs,FxR rfl⟩
  rintro φ s ⟨hs,hF⟩;rw[←hF.eq];refine ZAD rfl ?_
  obtain⟨b10,hb_b10,h⟩:=bs h;refine ZAT 9 (fun φ s=>Hp s [(.cells m1 xs), .own x_names1]∧Fx φ [(111,(enc b10))]) ?_ ?_
  ·split at hb_b10
   ·rename_i cg20;refine ZAH rfl rfl cg20<|ZAO ZIg rfl<|ZAH rfl rfl cg20<|ZAK ag25 Sz rfl hxs hs fun y17 hy17=> ?_
    cases hy17;refine ZAH rfl rfl cg20<|ZAL (v:=enc (m.v.1 !=3)) rfl rfl rfl<|ZAH rfl rfl cg20<|ZAD rfl ?_
    obtain⟨b11,hb_b11,hb_b10⟩:=bs hb_b10;refine ZAT 4 (fun φ s=>Hp s [(.cells m1 xs), .own x_names1]∧Fx φ [(102,(enc b9)),(110,(enc b11))]) ?_ ?_
    ·split at hb_b11
     ·rename_i cg21;refine ZAE rfl rfl (by simpa using cg21)<|ZAE rfl rfl (by simpa using cg21)<|ZAE rfl rfl (by simpa using cg21)<|ZAH rfl rfl cg20<|ZAY (v:=enc true) rfl cg21 rfl<|ZAA ?_
      rw[←oi hb_b11];exact⟨hs,FxR rfl⟩
     rename_i cg22;refine ZAH rfl rfl (by simpa using cg22)<|ZAO ZIh rfl<|ZAH rfl rfl (by simpa using cg22)<|ZAK ag3 (Ss (Ss (Ss Sz))) rfl hxs hs fun y18 hy18=> ?_
     cases hy18;refine ZAH rfl rfl (by simpa using cg22)<|ZAL (v:=enc (m.v.2.2.2.1==0)) rfl rfl rfl<|ZAH rfl rfl cg20<|ZAX rfl cg22 rfl<|ZAA ?_
     rw[←oi hb_b11];exact⟨hs,FxR rfl⟩
    rintro φ s ⟨hs,hF⟩;rw[←hF.eq];refine ZAY rfl cg20 rfl<|ZAA ?_
    rw[←oi hb_b10];exact⟨hs,FxR rfl⟩
   rename_i cg23;refine ZAE rfl rfl cg23<|ZAE rfl rfl cg23<|ZAE rfl rfl cg23<|ZAE rfl rfl cg23<|ZAR rfl rfl<|ZAR rfl rfl<|ZAR rfl rfl<|ZAE rfl rfl cg23<|ZAX (v:=enc false) rfl cg23 rfl<|ZAA ?_
   rw[←oi hb_b10];exact⟨hs,FxR rfl⟩
  rintro φ s ⟨hs,hF⟩;rw[←hF.eq];refine ZAG rfl<|ZAA<|ZAN ?_
  rw[←oi h];exact⟨rfl,KE1 (a:=b10) rfl rfl (rfl:is _ b10) (rfl:is _ b10)⟩
 obtain⟨rfl,hF⟩:=hE;rw[←hF.eq];rw[ZHI] at h;show if _ then _ else _
 rw[if_neg (by simp)]
 rw[←oi h];exact⟨rfl,KE1 (a:=v) rfl rfl (rfl:is _ v) (rfl:is _ v)⟩
theorem ZOL:ZAr Tryz.prog 62 (fun _=>Fn (fun a:ZBg×Unit=>ZEa a.1)):=fnC ZRE ⟨_,func62,rfl⟩<|fun a r h=>ZOK a.1 r h
noncomputable def pz16:Prims:=pz15.add 62 (Fn (fun a:ZBg×Unit=>ZEa a.1))
theorem ZRF:ZAV Tryz.prog pz16:=ZAS ZRE ZOL
theorem ZKH (l:ZAb) (r:Bool) (h:ZBt l=some r):MF Tryz.prog pz16 63 [enc l] s0 fun v _=>ris v r:=by
 refine ZAe [(0,enc l)] func63 rfl (by simp only[Tryz.f63];rfl) fun ψ=> ?_
 unfold ZBt at h;refine ZAB<|ZAC<|ZA1 (r:=l) rfl (Enc.self l) Hp.nil fun m xs s hxs hs=>ZAG (v:=enc false) rfl<|ZAA<|ZAB<|ZAB<|ZAC<|ZAO ZIj rfl<|ZAK ag34 (Ss Sz) rfl hxs hs fun y hy=>ZAp underlying34 rfl rfl hy<|ZAL (v:=enc (decide ((l.v.2.1.length:Int) > 256))) rfl rfl rfl<|ZAD rfl ?_
 obtain⟨b,hb_b,h⟩:=bs h;refine ZAT 5 (fun φ s=>Hp s [(.cells m xs)]∧Fx φ [(1,(.ptr m 0)),(13,(enc b))]) ?_ ?_
 ·split at hb_b
  ·rename_i cg;refine ZAE rfl rfl (by simpa using cg)<|ZAE rfl rfl (by simpa using cg)<|ZAE rfl rfl (by simpa using cg)<|ZAE rfl rfl (by simpa using cg)<|ZAY (v:=enc true) rfl cg rfl<|ZAA ?_
   rw[←oi hb_b];exact⟨hs,FxR rfl⟩
  rename_i cg1;refine ZAH rfl rfl (by simpa using cg1)<|ZAO ZIj rfl<|ZAH rfl rfl (by simpa using cg1)<|ZAK ag34 (Ss Sz) rfl hxs hs fun y1 hy1=>ZAH rfl rfl (by simpa using cg1) ?_
  obtain⟨r_,hx,hb_b⟩:=bs hb_b;refine ZAj (f:=fun a:(List Str)×Unit=>ZBi a.1) (a:=(l.v.2.1,())) rfl func86 rfl rfl (.cons (a:=l.v.2.1) hy1 .nil) hx<|ZAH rfl rfl (by simpa using cg1)<|ZBS (v:=enc (!r_)) rfl rfl<|ZAX rfl cg1 rfl<|ZAA ?_
  rw[←oi hb_b];exact⟨hs,FxR rfl⟩
 rintro φ s ⟨hs,hF⟩;rw[←hF.eq];refine ZAD rfl ?_
 obtain⟨b1,hb_b1,h⟩:=bs h;refine ZAT 8 (fun φ s=>Hp s [(.cells m xs)]∧Fx φ [(1,(.ptr m 0)),(22,(enc b1))]) ?_ ?_
 ·split at hb_b1
  ·rename_i cg2;refine ZAE rfl rfl (by simpa using cg2)<|ZAE rfl rfl (by simpa using cg2)<|ZAE rfl rfl (by simpa using cg2)<|ZAE rfl rfl (by simpa using cg2)<|ZAE rfl rfl (by simpa using cg2)<|ZAE rfl rfl (by simpa using cg2)<|ZAE rfl rfl (by simpa using cg2)<|ZAY (v:=enc true) rfl cg2 rfl<|ZAA ?_
   rw[←oi hb_b1];exact⟨hs,FxR rfl⟩
  rename_i cg3;refine ZAH rfl rfl (by simpa using cg3)<|ZAO ZJa rfl<|ZAH rfl rfl (by simpa using cg3)<|ZAK ag35 (Ss (Ss Sz)) rfl hxs hs fun y2 hy2=>ZAH rfl rfl (by simpa using cg3)<|ZAp underlying35 rfl rfl hy2<|ZAH rfl rfl (by simpa using cg3)<|ZAO ZIj rfl<|ZAH rfl rfl (by simpa using cg3)<|ZAK ag34 (Ss Sz) rfl hxs hs fun y3 hy3=>ZAH rfl rfl (by simpa using cg3)<|ZAp underlying34 rfl rfl hy3<|ZAH rfl rfl (by simpa using cg3)<|ZAL (v:=enc (((l.v.2.2.1.length:Int) !=(l.v.2.1.length:Int)):Bool)) rfl rfl rfl<|ZAX rfl cg3 rfl ?_
  refine ZAA ?_
  rw[←oi hb_b1];exact⟨hs,FxR rfl⟩
 rintro φ s ⟨hs,hF⟩;rw[←hF.eq];refine ZAA ?_
 split at h
 ·rename_i c';refine ZAI rfl c'<|ZAB<|ZAC<|ZAG (v:=enc false) rfl<|ZAA<|ZAN ?_
  rw[←oi h];exact⟨rfl,KE1 (a:=(false:Bool)) rfl rfl (rfl:is _ (false:Bool)) (rfl:is _ (false:Bool))⟩
 rename_i c';refine ZAJ rfl c'<|ZAM<|ZAB<|ZAB<|ZAC<|ZAG (v:=enc (0:Int)) rfl<|ZAA<|ZAQ ?_
 obtain⟨o,hl,h⟩:=bs h;refine ZAm (fun(p:Int) φ s=>match p with | i=>Fx φ [(1,(.ptr m 0)),(3,(enc i))]∧Hp s [(.cells m xs)]) (fun(o:(Unit ⊕ Bool)) e φ s=>match o with | (.inl _)=>e= .exit 0∧Fx φ [] | (.inr v)=>e= .ret∧Fx φ [(2,(enc v))]) ?_ hl ⟨FxR rfl,hs⟩ ?_
 ·rintro i o h φ s ⟨hF,hs⟩;rw[←hF.eq];rw[ZEm] at h;refine ZAB<|ZAB<|ZAC<|ZAD rfl<|ZAO ZJa rfl<|ZAK ag35 (Ss (Ss Sz)) rfl hxs hs fun y4 hy4=>ZAp underlying35 rfl rfl hy4<|ZAL (v:=enc (decide (i<(l.v.2.2.1.length:Int)))) rfl rfl rfl<|ZAA ?_
  split at h
  ·rename_i c';refine ZAI rfl c'<|ZAM<|ZAB<|ZAQ<|ZAB<|ZAC<|ZAO ZJa rfl<|ZAK ag35 (Ss (Ss Sz)) rfl hxs hs fun y5 hy5=>ZAD rfl ?_
   obtain⟨v1,hx1,h⟩:=bs h;refine ZAv underlying35 sh3 rfl rfl hy5 hx1 fun p hp=>ZCq rfl ag3 rfl hp fun y6 hy6=> ?_
   cases hy6;obtain⟨r_1,hx2,h⟩:=bs h;refine ZAj (f:=fun a:Int×Int×Int×Unit=>ZAn a.1 a.2.1 a.2.2.1) (a:=(v1,0,1024,())) rfl func83 rfl rfl (.cons (a:=v1) (Enc.self _) (.cons (a:=(0:Int)) (rfl:is _ (0:Int)) (.cons (a:=(1024:Int)) (rfl:is _ (1024:Int)) .nil))) hx2<|ZBS (v:=enc (!r_1)) rfl rfl<|ZAD rfl ?_
   obtain⟨b2,hb_b2,h⟩:=bs h;refine ZAT 11 (fun φ s=>Hp s [(.cells m xs)]∧Fx φ [(1,(.ptr m 0)),(3,(enc i)),(48,(enc b2))]) ?_ ?_
   ·split at hb_b2
    ·rename_i cg4;refine ZAE rfl rfl (by simpa using cg4)<|ZAE rfl rfl (by simpa using cg4)<|ZAE rfl rfl (by simpa using cg4)<|ZAR rfl rfl<|ZAR rfl rfl<|ZAR rfl rfl<|ZAR rfl rfl<|ZAR rfl rfl<|ZAR rfl rfl<|ZAE rfl rfl (by simpa using cg4)<|ZAY (v:=enc true) rfl cg4 rfl<|ZAA ?_
     rw[←oi hb_b2];exact⟨hs,FxR rfl⟩
    rename_i cg5;refine ZAH rfl rfl (by simpa using cg5)<|ZAO ZQ4 rfl<|ZAH rfl rfl (by simpa using cg5)<|ZAK ag4 Sz rfl hxs hs fun y7 hy7=> ?_
    cases hy7;refine ZAH rfl rfl (by simpa using cg5)<|ZAD rfl ?_
    obtain⟨b3,hb_b3,hb_b2⟩:=bs hb_b2;refine ZAT 7 (fun φ s=>Hp s [(.cells m xs)]∧Fx φ [(1,(.ptr m 0)),(3,(enc i)),(37,(enc (!r_1))),(47,(enc b3))]) ?_ ?_
    ·split at hb_b3
     ·rename_i cg6;refine ZAH rfl rfl cg6<|ZAO ZJa rfl<|ZAH rfl rfl cg6<|ZAK ag35 (Ss (Ss Sz)) rfl hxs hs fun y8 hy8=>ZAH rfl rfl cg6<|ZAD rfl<|ZAH rfl rfl cg6 ?_
      obtain⟨v2,hx3,hb_b3⟩:=bs hb_b3;refine ZAv underlying35 sh3 rfl rfl hy8 hx3 fun p1 hp1=>ZAH rfl rfl cg6<|ZCq rfl ag3 rfl hp1 fun y9 hy9=> ?_
      cases hy9;refine ZAH rfl rfl cg6<|ZAL (v:=enc (v2==0)) rfl rfl rfl<|ZAH rfl rfl (by simpa using cg5)<|ZAY rfl cg6 rfl<|ZAA ?_
      rw[←oi hb_b3];exact⟨hs,FxR rfl⟩
     rename_i cg7;refine ZAE rfl rfl cg7<|ZAE rfl rfl cg7<|ZAE rfl rfl cg7<|ZAE rfl rfl cg7<|ZAE rfl rfl cg7<|ZAE rfl rfl cg7<|ZAH rfl rfl (by simpa using cg5)<|ZAX (v:=enc false) rfl cg7 rfl<|ZAA ?_
     rw[←oi hb_b3];exact⟨hs,FxR rfl⟩
    rintro φ s ⟨hs,hF⟩;rw[←hF.eq];refine ZAX rfl cg5 rfl<|ZAA ?_
    rw[←oi hb_b2];exact⟨hs,FxR rfl⟩
   rintro φ s ⟨hs,hF⟩;rw[←hF.eq];refine ZAA ?_
   split at h
   ·rename_i c';refine ZAI rfl c'<|ZAB<|ZAC<|ZAG (v:=enc false) rfl<|ZAA<|ZAN ?_
    show if _ then _ else _
    rw[if_neg (by simp)]
    rw[←oi h];exact⟨_,rfl,rfl,FxR rfl⟩
   rename_i c';refine ZAJ rfl c'<|ZAM<|ZAC<|ZAD rfl<|ZAL (v:=enc (IntKind.i64.wrap (i+1))) rfl rfl rfl<|ZAG rfl<|ZAA ?_
   rw[←oi h];exact⟨_,rfl,⟨FxR rfl,hs⟩⟩
  rename_i c';refine ZAJ rfl c'<|ZAl ?_
  rw[←oi h];exact⟨_,rfl,rfl,trivial⟩
 intro e φ s hE;rcases o with _u | v
 ·obtain⟨rfl,hF⟩:=hE;rw[←hF.eq];rw[ZEn] at h;show if _ then _ else _
  rw[if_pos rfl];refine ZAB<|ZAC<|ZAG (v:=enc true) rfl<|ZAA<|ZAN ?_
  rw[←oi h];exact⟨rfl,KE1 (a:=(true:Bool)) rfl rfl (rfl:is _ (true:Bool)) (rfl:is _ (true:Bool))⟩
 obtain⟨rfl,hF⟩:=hE;rw[←hF.eq];rw[ZEn] at h;show if _ then _ else _
 rw[if_neg (by simp)]
 rw[←oi h];exact⟨rfl,KE1 (a:=v) rfl rfl (rfl:is _ v) (rfl:is _ v)⟩
theorem ZKI:ZAr Tryz.prog 63 (fun _=>Fn (fun a:ZAb×Unit=>ZBt a.1)):=fnC ZRF ⟨_,func63,rfl⟩<|fun a r h=>ZKH a.1 r h
noncomputable def pz17:Prims:=pz16.add 63 (Fn (fun a:ZAb×Unit=>ZBt a.1))
theorem ZRG:ZAV Tryz.prog pz17:=ZAS ZRF ZKI
theorem ZMz (x:ZAF) (r:Bool) (h:ZBy x=some r):MF Tryz.prog pz17 37 [enc x] s0 fun v _=>ris v r:=by
 refine ZAe [(0,enc x)] func37 rfl (by simp only[Tryz.f37];rfl) fun ψ=> ?_
 unfold ZBy at h;refine ZAB<|ZAC<|ZA1 (r:=x) rfl (Enc.self x) Hp.nil fun m xs s hxs hs=>ZAG (v:=enc false) rfl<|ZAA<|ZAB<|ZAC<|ZAO ZCR rfl<|ZAK ag25 (Ss Sz) rfl hxs hs fun y hy=> ?_
 cases hy;refine ZAO ZKl rfl<|ZAK ag3 (Ss (Ss Sz)) rfl hxs hs fun y1 hy1=> ?_
 cases hy1;refine ZAO ZCD rfl<|ZAK ag3 (Ss (Ss (Ss Sz))) rfl hxs hs fun y2 hy2=> ?_
 cases hy2;refine ZAO ZO9 rfl<|ZAK ag9 (Ss (Ss (Ss (Ss (Ss Sz))))) rfl hxs hs fun y3 hy3=> ?_
 cases hy3;refine ZAO ZKm rfl<|ZAK ag36 (Ss (Ss (Ss (Ss (Ss (Ss (Ss (Ss Sz)))))))) rfl hxs hs fun y4 hy4=>ZCr (r0:=((0:Int),(0:Int),(0:Int),(0:Int),(str []),([]:(List ZAd)),([]:(List RefR)),())) bu96 zr96 zf96 rfl rfl (r:=(x.v.2.1,x.v.2.2.1,x.v.2.2.2.1,(0:Int),x.v.2.2.2.2.2.1,x.v.2.2.2.2.2.2.2.2.1,([]:(List RefR)),())) (.cons (z:=x.v.2.1) Sz (rfl:is _ x.v.2.1) (.cons (z:=x.v.2.2.1) (Ss Sz) (rfl:is _ x.v.2.2.1) (.cons (z:=x.v.2.2.2.1) (Ss (Ss Sz)) (rfl:is _ x.v.2.2.2.1) (.cons (z:=x.v.2.2.2.2.2.1) (Ss (Ss (Ss (Ss Sz)))) (rfl:is _ x.v.2.2.2.2.2.1) (.cons (z:=x.v.2.2.2.2.2.2.2.2.1) (Ss (Ss (Ss (Ss (Ss Sz))))) hy4 .nil))))) fun y5 hy5=>ZAw (r:=(Rec.mk ((0:Int),(0:Int),(0:Int),(0:Int),(str []),([]:(List ZAd)),([]:(List RefR)),()):ZBg)) zr96 zf96 hs fun m1 s hs=>ZAZ (r:=(Rec.mk (x.v.2.1,x.v.2.2.1,x.v.2.2.2.1,(0:Int),x.v.2.2.2.2.2.1,x.v.2.2.2.2.2.2.2.2.1,([]:(List RefR)),()):ZBg)) sz96 rfl rfl zf96 hy5 hs fun xs1 s hxs1 hs=>ZAA<|ZAB<|ZAB<|ZAC<|ZAU (r:=(Rec.mk (x.v.2.1,x.v.2.2.1,x.v.2.2.2.1,(0:Int),x.v.2.2.2.2.2.1,x.v.2.2.2.2.2.2.2.2.1,([]:(List RefR)),()):ZBg)) ag96 sz96 rfl hxs1 hs fun y6 hy6=> ?_
 obtain⟨r_,hx,h⟩:=bs h;refine ZAj (f:=fun a:ZBg×Unit=>ZEa a.1) (a:=((Rec.mk (x.v.2.1,x.v.2.2.1,x.v.2.2.2.1,(0:Int),x.v.2.2.2.2.2.1,x.v.2.2.2.2.2.2.2.2.1,([]:(List RefR)),()):ZBg),())) rfl func62 rfl rfl (.cons (a:=((Rec.mk (x.v.2.1,x.v.2.2.1,x.v.2.2.2.1,(0:Int),x.v.2.2.2.2.2.1,x.v.2.2.2.2.2.2.2.2.1,([]:(List RefR)),()):ZBg):ZBg)) hy6 .nil) hx<|ZBS (v:=enc (!r_)) rfl rfl<|ZAD rfl ?_
 obtain⟨b,hb_b,h⟩:=bs h;refine ZAT 5 (fun φ s=>Hp s [(.cells m1 xs1),(.cells m xs)]∧Fx φ [(1,(.ptr m 0)),(23,(enc b))]) ?_ ?_
 ·split at hb_b
  ·rename_i cg;refine ZAE rfl rfl (by simpa using cg)<|ZAE rfl rfl (by simpa using cg)<|ZAE rfl rfl (by simpa using cg)<|ZAE rfl rfl (by simpa using cg)<|ZAY (v:=enc true) rfl cg rfl<|ZAA ?_
   rw[←oi hb_b];exact⟨hs,FxR rfl⟩
  rename_i cg1;refine ZAH rfl rfl (by simpa using cg1)<|ZAO ZHi rfl<|ZAH rfl rfl (by simpa using cg1) ?_
  replace hs:=Hp.front [(.cells m1 xs1)] (b:=[]) hs;refine ZAK ag33 (Ss (Ss (Ss (Ss Sz)))) rfl hxs hs fun y7 hy7=>ZAH rfl rfl (by simpa using cg1)<|ZAp underlying33 rfl rfl hy7<|ZAH rfl rfl (by simpa using cg1)<|ZAL (v:=enc (decide ((x.v.2.2.2.2.1.length:Int) > 32768))) rfl rfl rfl<|ZAX rfl cg1 rfl<|ZAA ?_
  rw[←oi hb_b];exact⟨(Hp.front [(.cells m xs)] (b:=[]) (Hp.front [] (b:=[(.cells m1 xs1)]) hs)),FxR rfl⟩
 rintro φ s ⟨hs,hF⟩;rw[←hF.eq];refine ZAD rfl ?_
 obtain⟨b1,hb_b1,h⟩:=bs h;refine ZAT 10 (fun φ s=>Hp s [(.cells m1 xs1),(.cells m xs)]∧Fx φ [(1,(.ptr m 0)),(34,(enc b1))]) ?_ ?_
 ·split at hb_b1
  ·rename_i cg2;refine ZAE rfl rfl (by simpa using cg2)<|ZAE rfl rfl (by simpa using cg2)<|ZAE rfl rfl (by simpa using cg2)<|ZAE rfl rfl (by simpa using cg2)<|ZAR rfl rfl<|ZAR rfl rfl<|ZAR rfl rfl<|ZAR rfl rfl<|ZAE rfl rfl (by simpa using cg2)<|ZAY (v:=enc true) rfl cg2 rfl<|ZAA ?_
   rw[←oi hb_b1];exact⟨hs,FxR rfl⟩
  rename_i cg3;refine ZAH rfl rfl (by simpa using cg3)<|ZAO ZCR rfl<|ZAH rfl rfl (by simpa using cg3) ?_
  replace hs:=Hp.front [(.cells m1 xs1)] (b:=[]) hs;refine ZAK ag25 (Ss Sz) rfl hxs hs fun y8 hy8=> ?_
  cases hy8;refine ZAH rfl rfl (by simpa using cg3)<|ZAL (v:=enc (x.v.2.1 !=1)) rfl rfl rfl<|ZAH rfl rfl (by simpa using cg3)<|ZAD rfl ?_
  obtain⟨b2,hb_b2,hb_b1⟩:=bs hb_b1;refine ZAT 5 (fun φ s=>Hp s [(.cells m xs),(.cells m1 xs1)]∧Fx φ [(1,(.ptr m 0)),(24,(enc b)),(33,(enc b2))]) ?_ ?_
  ·split at hb_b2
   ·rename_i cg4;refine ZAH rfl rfl cg4<|ZAO ZHi rfl<|ZAH rfl rfl cg4<|ZAK ag33 (Ss (Ss (Ss (Ss Sz)))) rfl hxs hs fun y9 hy9=>ZAH rfl rfl cg4<|ZAp underlying33 rfl rfl hy9<|ZAH rfl rfl cg4<|ZAL (v:=enc (decide ((x.v.2.2.2.2.1.length:Int) > 0))) rfl rfl rfl<|ZAH rfl rfl (by simpa using cg3)<|ZAY rfl cg4 rfl<|ZAA ?_
    rw[←oi hb_b2];exact⟨hs,FxR rfl⟩
   rename_i cg5;refine ZAE rfl rfl cg5<|ZAE rfl rfl cg5<|ZAE rfl rfl cg5<|ZAE rfl rfl cg5<|ZAH rfl rfl (by simpa using cg3)<|ZAX (v:=enc false) rfl cg5 rfl<|ZAA ?_
   rw[←oi hb_b2];exact⟨hs,FxR rfl⟩
  rintro φ s ⟨hs,hF⟩;rw[←hF.eq];refine ZAX rfl cg3 rfl<|ZAA ?_
  rw[←oi hb_b1];exact⟨(Hp.front [(.cells m xs)] (b:=[]) (Hp.front [] (b:=[(.cells m1 xs1)]) hs)),FxR rfl⟩
 rintro φ s ⟨hs,hF⟩;rw[←hF.eq];refine ZAD rfl ?_
 obtain⟨b3,hb_b3,h⟩:=bs h;refine ZAT 4 (fun φ s=>Hp s [(.cells m1 xs1),(.cells m xs)]∧Fx φ [(1,(.ptr m 0)),(39,(enc b3))]) ?_ ?_
 ·split at hb_b3
  ·rename_i cg6;refine ZAE rfl rfl (by simpa using cg6)<|ZAE rfl rfl (by simpa using cg6)<|ZAE rfl rfl (by simpa using cg6)<|ZAY (v:=enc true) rfl cg6 rfl<|ZAA ?_
   rw[←oi hb_b3];exact⟨hs,FxR rfl⟩
  rename_i cg7;refine ZAH rfl rfl (by simpa using cg7)<|ZAO ZBO rfl<|ZAH rfl rfl (by simpa using cg7) ?_
  replace hs:=Hp.front [(.cells m1 xs1)] (b:=[]) hs;refine ZAK ag3 Sz rfl hxs hs fun y10 hy10=> ?_
  cases hy10;refine ZAH rfl rfl (by simpa using cg7)<|ZAL (v:=enc (decide (x.v.1<1))) rfl rfl rfl<|ZAX rfl cg7 rfl<|ZAA ?_
  rw[←oi hb_b3];exact⟨(Hp.front [(.cells m xs)] (b:=[]) (Hp.front [] (b:=[(.cells m1 xs1)]) hs)),FxR rfl⟩
 rintro φ s ⟨hs,hF⟩;rw[←hF.eq];refine ZAD rfl ?_
 obtain⟨b4,hb_b4,h⟩:=bs h;refine ZAT 4 (fun φ s=>Hp s [(.cells m1 xs1),(.cells m xs)]∧Fx φ [(1,(.ptr m 0)),(44,(enc b4))]) ?_ ?_
 ·split at hb_b4
  ·rename_i cg8;refine ZAE rfl rfl (by simpa using cg8)<|ZAE rfl rfl (by simpa using cg8)<|ZAE rfl rfl (by simpa using cg8)<|ZAY (v:=enc true) rfl cg8 rfl<|ZAA ?_
   rw[←oi hb_b4];exact⟨hs,FxR rfl⟩
  rename_i cg9;refine ZAH rfl rfl (by simpa using cg9)<|ZAO ZBO rfl<|ZAH rfl rfl (by simpa using cg9) ?_
  replace hs:=Hp.front [(.cells m1 xs1)] (b:=[]) hs;refine ZAK ag3 Sz rfl hxs hs fun y11 hy11=> ?_
  cases hy11;refine ZAH rfl rfl (by simpa using cg9)<|ZAL (v:=enc (decide (x.v.1 > 1024))) rfl rfl rfl<|ZAX rfl cg9 rfl<|ZAA ?_
  rw[←oi hb_b4];exact⟨(Hp.front [(.cells m xs)] (b:=[]) (Hp.front [] (b:=[(.cells m1 xs1)]) hs)),FxR rfl⟩
 rintro φ s ⟨hs,hF⟩;rw[←hF.eq];refine ZAA ?_
 split at h
 ·rename_i c';refine ZAI rfl c'<|ZAB<|ZAC<|ZAG (v:=enc false) rfl<|ZAA<|ZAN ?_
  rw[←oi h];exact⟨rfl,KE1 (a:=(false:Bool)) rfl rfl (rfl:is _ (false:Bool)) (rfl:is _ (false:Bool))⟩
 rename_i c';refine ZAJ rfl c'<|ZAM<|ZAB<|ZAB<|ZAC<|ZAO ZCR rfl ?_
 replace hs:=Hp.front [(.cells m1 xs1)] (b:=[]) hs;refine ZAK ag25 (Ss Sz) rfl hxs hs fun y12 hy12=> ?_
 cases hy12;refine ZAL (v:=enc (x.v.2.1 !=2)) rfl rfl rfl<|ZAA ?_
 split at h
 ·rename_i c';refine ZAI rfl c'<|ZAB<|ZAC<|ZAO ZBJ rfl<|ZAK ag34 (Ss (Ss (Ss (Ss (Ss (Ss Sz)))))) rfl hxs hs fun y13 hy13=>ZAp underlying34 rfl rfl hy13<|ZAL (v:=enc (((x.v.2.2.2.2.2.2.1.length:Int)==0):Bool)) rfl rfl rfl<|ZAD rfl ?_
  obtain⟨b5,hb_b5,h⟩:=bs h;refine ZAT 5 (fun φ s=>Hp s [(.cells m xs),(.cells m1 xs1)]∧Fx φ [(57,(enc b5))]) ?_ ?_
  ·split at hb_b5
   ·rename_i cg10;refine ZAH rfl rfl cg10<|ZAO ZBY rfl<|ZAH rfl rfl cg10<|ZAK ag35 (Ss (Ss (Ss (Ss (Ss (Ss (Ss Sz))))))) rfl hxs hs fun y14 hy14=>ZAH rfl rfl cg10<|ZAp underlying35 rfl rfl hy14<|ZAH rfl rfl cg10<|ZAL (v:=enc (((x.v.2.2.2.2.2.2.2.1.length:Int)==0):Bool)) rfl rfl rfl<|ZAY rfl cg10 rfl<|ZAA ?_
    rw[←oi hb_b5];exact⟨hs,FxR rfl⟩
   rename_i cg11;refine ZAE rfl rfl cg11<|ZAE rfl rfl cg11<|ZAE rfl rfl cg11<|ZAE rfl rfl cg11<|ZAX (v:=enc false) rfl cg11 rfl<|ZAA ?_
   rw[←oi hb_b5];exact⟨hs,FxR rfl⟩
  rintro φ s ⟨hs,hF⟩;rw[←hF.eq];refine ZAG rfl<|ZAA<|ZAN ?_
  rw[←oi h];exact⟨rfl,KE1 (a:=b5) rfl rfl (rfl:is _ b5) (rfl:is _ b5)⟩
 rename_i c';refine ZAJ rfl c'<|ZAM<|ZAB<|ZAC<|ZAO ZCD rfl<|ZAK ag3 (Ss (Ss (Ss Sz))) rfl hxs hs fun y15 hy15=> ?_
 cases hy15;refine ZAL (v:=enc (x.v.2.2.2.1==1)) rfl rfl rfl<|ZAD rfl ?_
 obtain⟨b6,hb_b6,h⟩:=bs h;refine ZAT 5 (fun φ s=>Hp s [(.cells m xs),(.cells m1 xs1)]∧Fx φ [(1,(.ptr m 0)),(66,(enc b6))]) ?_ ?_
 ·split at hb_b6
  ·rename_i cg12;refine ZAH rfl rfl cg12<|ZAO ZBJ rfl<|ZAH rfl rfl cg12<|ZAK ag34 (Ss (Ss (Ss (Ss (Ss (Ss Sz)))))) rfl hxs hs fun y16 hy16=>ZAH rfl rfl cg12<|ZAp underlying34 rfl rfl hy16<|ZAH rfl rfl cg12<|ZAL (v:=enc (decide ((x.v.2.2.2.2.2.2.1.length:Int)≤128))) rfl rfl rfl<|ZAY rfl cg12 rfl<|ZAA ?_
   rw[←oi hb_b6];exact⟨hs,FxR rfl⟩
  rename_i cg13;refine ZAE rfl rfl cg13<|ZAE rfl rfl cg13<|ZAE rfl rfl cg13<|ZAE rfl rfl cg13<|ZAX (v:=enc false) rfl cg13 rfl<|ZAA ?_
  rw[←oi hb_b6];exact⟨hs,FxR rfl⟩
 rintro φ s ⟨hs,hF⟩;rw[←hF.eq];refine ZAD rfl ?_
 obtain⟨b7,hb_b7,h⟩:=bs h;refine ZAT 7 (fun φ s=>Hp s [(.cells m xs),(.cells m1 xs1)]∧Fx φ [(74,(enc b7))]) ?_ ?_
 ·split at hb_b7
  ·rename_i cg14;refine ZAH rfl rfl cg14<|ZAO ZBJ rfl<|ZAH rfl rfl cg14<|ZAK ag34 (Ss (Ss (Ss (Ss (Ss (Ss Sz)))))) rfl hxs hs fun y17 hy17=>ZAH rfl rfl cg14<|ZAO ZBY rfl<|ZAH rfl rfl cg14<|ZAK ag35 (Ss (Ss (Ss (Ss (Ss (Ss (Ss Sz))))))) rfl hxs hs fun y18 hy18=>ZAH rfl rfl cg14<|ZCr (r0:=(false,([]:(List Str)),([]:(List Int)),())) bu99 zr99 zf99 rfl rfl (r:=(true,x.v.2.2.2.2.2.2.1,x.v.2.2.2.2.2.2.2.1,())) (.cons (z:=(true:Bool)) Sz (rfl:is _ (true:Bool)) (.cons (z:=x.v.2.2.2.2.2.2.1) (Ss Sz) hy17 (.cons (z:=x.v.2.2.2.2.2.2.2.1) (Ss (Ss Sz)) hy18 .nil))) fun y19 hy19=>ZAH rfl rfl cg14 ?_
   obtain⟨r_1,hx1,hb_b7⟩:=bs hb_b7;refine ZAj (f:=fun a:ZAb×Unit=>ZBt a.1) (a:=((Rec.mk (true,x.v.2.2.2.2.2.2.1,x.v.2.2.2.2.2.2.2.1,()):ZAb),())) rfl func63 rfl rfl (.cons (a:=((Rec.mk (true,x.v.2.2.2.2.2.2.1,x.v.2.2.2.2.2.2.2.1,()):ZAb):ZAb)) hy19 .nil) hx1<|ZAY rfl cg14 rfl<|ZAA ?_
   rw[←oi hb_b7];exact⟨hs,FxR rfl⟩
  rename_i cg15;refine ZAE rfl rfl cg15<|ZAE rfl rfl cg15<|ZAE rfl rfl cg15<|ZAE rfl rfl cg15<|ZAE rfl rfl cg15<|ZAE rfl rfl cg15<|ZAX (v:=enc false) rfl cg15 rfl<|ZAA ?_
  rw[←oi hb_b7];exact⟨hs,FxR rfl⟩
 rintro φ s ⟨hs,hF⟩;rw[←hF.eq];refine ZAG rfl<|ZAA<|ZAN ?_
 rw[←oi h];exact⟨rfl,KE1 (a:=b7) rfl rfl (rfl:is _ b7) (rfl:is _ b7)⟩
end Go.Ai.Rab
