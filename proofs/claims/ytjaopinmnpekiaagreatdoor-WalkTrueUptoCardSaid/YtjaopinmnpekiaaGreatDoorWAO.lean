/- My own texts DevPgR, one behind the other. -/
import Derived.Test.YtjaopinmnpekiaaGreatDoorWAE
import Derived.Test.YtjaopinmnpekiaaGreatDoorWAN
set_option linter.unusedVariables false
set_option linter.unusedSimpArgs false
set_option maxRecDepth 100000
set_option maxHeartbeats 16000000
attribute [local irreducible] Go.Ai.TC Go.Ai.TO Go.Ai.MF Go.Ai.ZCP Go.Ai.ZBX Go.Ai.encR
open Go.Ai.Enc (enc is)
open Go.Ai.Res (res ris)
open Go.Ai.Args (args)
open Go.Ai.Flds (fe fi fk)
namespace Go.Ai

end Go.Ai
namespace Go.Ai.TTryz
open Go.Proofs

end Go.Ai.TTryz
namespace Go.Ai.Rab
open Go.Proofs TTryz Tryz
noncomputable def ZGV (f:FsR) (num:Int):Int→Option (Int ⊕ (Unit ⊕ Int))
 | i=>(if(decide (i<(f.v.1.length:Int))) then((nth f.v.1 i).bind fun v1=>(if(v1.v.1==num) then some (.inr (.inr i)) else some (.inl (IntKind.i64.wrap (i+1))))) else some (.inr (.inl ())))
noncomputable def ZGW:(Unit ⊕ Int)→Option (Int)
 | (.inl _)=>some ((-1))
 | (.inr v)=>some (v)
noncomputable def ZBr (f:FsR) (num:Int):Option (Int):=
 ((loop (ZGV f num) 0).bind (ZGW))
noncomputable def ZCh (k:Int) (n4:Int):Option ((Int×Int) ⊕ Int):=
 some (.inl (n4,(IntKind.i64.wrap (k+1))))
noncomputable def ZB8 (f:FsR) (i:Int) (num:Int):(Int×Int)→Option ((Int×Int) ⊕ Int)
 | (n2,k)=>((nth f.v.1 i).bind fun v=>(if(decide (k<(v.v.2.2.2.2.2.2.2.1.length:Int))) then((nth f.v.1 i).bind fun v1=>((nth v1.v.2.2.2.2.2.2.2.1 k).bind fun v2=>(if(v2==num) then(ZCh k (IntKind.i64.wrap (n2+1))) else(ZCh k n2)))) else some (.inr n2)))
noncomputable def ZG4 (i:Int):Int→Option ((Int×Int) ⊕ Int)
 | n3=>some (.inl (n3,(IntKind.i64.wrap (i+1))))
noncomputable def ZDd (f:FsR) (num:Int):(Int×Int)→Option ((Int×Int) ⊕ Int)
 | (n,i)=>(if(decide (i<(f.v.1.length:Int))) then((loop (ZB8 f i num) (n,0)).bind (ZG4 i)) else some (.inr n))
noncomputable def ZG5:Int→Option (Int)
 | n1=>some (n1)
noncomputable def ZC1 (f:FsR) (num:Int):Option (Int):=
 ((loop (ZDd f num) (0,0)).bind (ZG5))
noncomputable def ZEl (f:FsR) (i:Int) (num:Int):Int→Option (Int ⊕ (Unit ⊕ Int))
 | k=>((nth f.v.1 i).bind fun v2=>(if(decide (k<(v2.v.2.2.2.2.2.2.2.1.length:Int))) then((nth f.v.1 i).bind fun v3=>((nth v3.v.2.2.2.2.2.2.2.1 k).bind fun v4=>(if(v4==num) then((nth f.v.1 i).bind fun v5=>some (.inr (.inr v5.v.1))) else some (.inl (IntKind.i64.wrap (k+1)))))) else some (.inr (.inl ()))))
noncomputable def ZI2 (i:Int):(Unit ⊕ Int)→Option (Int ⊕ (Unit ⊕ Int))
 | (.inl _)=>some (.inl (IntKind.i64.wrap (i+1)))
 | (.inr v1)=>some (.inr (.inr v1))
noncomputable def ZEm (f:FsR) (num:Int):Int→Option (Int ⊕ (Unit ⊕ Int))
 | i=>(if(decide (i<(f.v.1.length:Int))) then((loop (ZEl f i num) 0).bind (ZI2 i)) else some (.inr (.inl ())))
noncomputable def ZI3:(Unit ⊕ Int)→Option (Int)
 | (.inl _)=>some (0)
 | (.inr v)=>some (v)
noncomputable def ZI4 (f:FsR) (num:Int):Option (Int):=
 ((loop (ZEm f num) 0).bind (ZI3))
noncomputable def ZFi (x:ZAO) (s_:Str):Int→Option (Int ⊕ Int)
 | i=>((if(decide (i<(x.v.2.2.2.2.2.2.1.length:Int))) then((nth x.v.2.2.2.2.2.2.1 i).bind fun v=>some (ltS v s_)) else some false).bind fun b=>(if b then some (.inl (IntKind.i64.wrap (i+1))) else some (.inr i)))
noncomputable def ZLw (x:ZAO) (s_:Str):Int→Option (Int×Bool)
 | i1=>((if(decide (i1<(x.v.2.2.2.2.2.2.1.length:Int))) then((nth x.v.2.2.2.2.2.2.1 i1).bind fun v1=>some (eqS v1 s_)) else some false).bind fun b1=>some (i1,b1))
noncomputable def ZI5 (x:ZAO) (s_:Str):Option (Int×Bool):=
 ((loop (ZFi x s_) 0).bind (ZLw x s_))
noncomputable def ZD2 (f:FsR):(Int×Int)→Option ((Int×Int) ⊕ (Unit ⊕ Bool))
 | (n,i)=>(if(decide (i≤(f.v.1.length:Int))) then(if(n==0) then some (.inr (.inr true)) else((ZI4 f n).bind fun r_=>some (.inl (r_,(IntKind.i64.wrap (i+1)))))) else some (.inr (.inl ())))
noncomputable def ZGX:(Unit ⊕ Bool)→Option (Bool)
 | (.inl _)=>some (false)
 | (.inr v)=>some (v)
noncomputable def ZEE (f:FsR) (num:Int):Option (Bool):=
 ((loop (ZD2 f) (num,0)).bind (ZGX))
noncomputable def ZE3 (n:Int) (s_:Str):(Int×Int)→Option ((Int×Int) ⊕ (Int ⊕ (Int×Int×Bool)))
 | (x1,i)=>(if(decide (i<n)) then((nth (α:=UInt8) s_ i).bind fun c1=>((if(decide (((c1).toNat:Int)<128)) then some true else some (decide (((c1).toNat:Int)≥192))).bind fun b=>(if b then some (.inr (.inr (65533,1,false))) else some (.inl ((IntKind.i64.wrap ((IntKind.i64.wrap ((IntKind.i64.wrap (x1*64))+((c1).toNat:Int))) - 128)),(IntKind.i64.wrap (i+1))))))) else some (.inr (.inl x1)))
noncomputable def ZE4 (least:Int) (n:Int):(Int ⊕ (Int×Int×Bool))→Option (Int×Int×Bool)
 | (.inl x2)=>((if(decide (x2<least)) then some true else some (decide (x2 > 1114111))).bind fun b1=>((if b1 then some true else((if(decide (x2≥55296)) then some (decide (x2<57344)) else some false).bind fun b3=>some b3)).bind fun b2=>(if b2 then some (65533,1,false) else some (x2,n,true))))
 | (.inr (v,v1,v2))=>some (v,v1,v2)
noncomputable def ZBN (s_:Str) (n:Int) (x:Int) (least:Int):Option (Int×Int×Bool):=
 (if(decide (((List.length s_:Nat):Int)<n)) then some (65533,1,false) else((loop (ZE3 n s_) (x,1)).bind (ZE4 least n)))
noncomputable def ZDe (s_:Str):Option (Int×Int×Bool):=
 ((nth (α:=UInt8) s_ 0).bind fun c=>(if(decide (((c).toNat:Int)<128)) then some (((c).toNat:Int),1,true) else((if(decide (((c).toNat:Int)≥194)) then some (decide (((c).toNat:Int)<224)) else some false).bind fun b4=>(if b4 then(ZBN s_ 2 (IntKind.i64.wrap (((c).toNat:Int) - 192)) 128) else((if(decide (((c).toNat:Int)≥224)) then some (decide (((c).toNat:Int)<240)) else some false).bind fun b5=>(if b5 then(ZBN s_ 3 (IntKind.i64.wrap (((c).toNat:Int) - 224)) 2048) else((if(decide (((c).toNat:Int)≥240)) then some (decide (((c).toNat:Int)<245)) else some false).bind fun b6=>(if b6 then(ZBN s_ 4 (IntKind.i64.wrap (((c).toNat:Int) - 240)) 65536) else some (65533,1,false)))))))))
noncomputable def ZCi (s_:Str):Int→Option (Int ⊕ (Unit ⊕ Int))
 | i=>(if(decide (i<((List.length s_:Nat):Int))) then((subT s_ i (List.length s_:Nat)).bind fun t=>((ZDe t).bind fun r_=>((if(!r_.2.2) then some true else some (r_.1==47)).bind fun b1=>((if b1 then some true else some (r_.1==0)).bind fun b2=>(if b2 then some (.inr (.inr 206)) else some (.inl (IntKind.i64.wrap (i+r_.2.1)))))))) else some (.inr (.inl ())))
noncomputable def ZDf:(Unit ⊕ Int)→Option (Int)
 | (.inl _)=>some (0)
 | (.inr v)=>some (v)
noncomputable def ZBP (s_:Str):Option (Int):=
 (if(eqS s_ (str [])) then some (206) else(if(decide (((List.length s_:Nat):Int) > 100)) then some (208) else((if(eqS s_ (str [46])) then some true else some (eqS s_ (str [46,46]))).bind fun b=>(if b then some (206) else((loop (ZCi s_) 0).bind (ZDf))))))
noncomputable def ZAi (n:Int) (low:Int) (high:Int):Option (Bool):=
 ((if(decide (n≥low)) then some (decide (n≤high)) else some false).bind fun b=>some (b))
noncomputable def ZEF (s_:Str):Int→Option (Int ⊕ (Unit ⊕ Bool))
 | i=>(if(decide (i<((List.length s_:Nat):Int))) then((nth (α:=UInt8) s_ i).bind fun c=>(if(((c).toNat:Int)==0) then some (.inr (.inr false)) else some (.inl (IntKind.i64.wrap (i+1))))) else some (.inr (.inl ())))
noncomputable def ZFj:(Unit ⊕ Bool)→Option (Bool)
 | (.inl _)=>some (true)
 | (.inr v)=>some (v)
noncomputable def ZDP (s_:Str):Option (Bool):=
 ((loop (ZEF s_) 0).bind (ZFj))
noncomputable def ZHn (c:UInt8):Int→Option (Int ⊕ (Unit ⊕ Int))
 | i=>(if(decide (i<16)) then((nth (α:=UInt8) (str [48,49,50,51,52,53,54,55,56,57,97,98,99,100,101,102]) i).bind fun c1=>(if(((c1).toNat:Int)==((c).toNat:Int)) then some (.inr (.inr i)) else some (.inl (IntKind.i64.wrap (i+1))))) else some (.inr (.inl ())))
noncomputable def ZFk:(Unit ⊕ Int)→Option (Int)
 | (.inl _)=>some ((-1))
 | (.inr v)=>some (v)
noncomputable def ZDQ (c:UInt8):Option (Int):=
 ((loop (ZHn c) 0).bind (ZFk))
noncomputable def ZG6 (k:Str):((List UInt8)×Int)→Option (((List UInt8)×Int) ⊕ ((List UInt8) ⊕ ((List UInt8)×Int)))
 | (b,i)=>(if(decide (i<64)) then((nth (α:=UInt8) k i).bind fun c=>((ZDQ c).bind fun r_=>((nth (α:=UInt8) k (IntKind.i64.wrap (i+1))).bind fun c1=>((ZDQ c1).bind fun r_1=>((if(decide (r_<0)) then some true else some (decide (r_1<0))).bind fun b2=>(if b2 then some (.inr (.inr ([],70))) else((app 1 b [(UInt8.ofInt (IntKind.i64.wrap ((IntKind.i64.wrap (16*r_))+r_1)))]).bind fun l=>some (.inl (l,(IntKind.i64.wrap (i+2))))))))))) else some (.inr (.inl b)))
noncomputable def ZE5:((List UInt8) ⊕ ((List UInt8)×Int))→Option ((List UInt8)×Int)
 | (.inl b1)=>some (b1,0)
 | (.inr (v,v1))=>some (v,v1)
noncomputable def ZDn (k:Str):Option ((List UInt8)×Int):=
 (if(((List.length k:Nat):Int) !=64) then some ([],70) else((loop (ZG6 k) ([],0)).bind (ZE5)))
noncomputable def ZDo (k:Str):Option (Bool):=
 ((ZDn k).bind fun r_=>some ((r_.2==0)))
noncomputable def ZI6 (l:(List RefR)):(Int×Int)→Option ((Int×Int) ⊕ (Int ⊕ (Int×Bool)))
 | (n,i)=>(if(decide (i<(l.length:Int))) then((nth l i).bind fun v2=>((ZDo v2.v.1).bind fun r_=>((if r_ then some (v2.v.2.1==0) else some false).bind fun b=>((if b then some (v2.v.2.2.1==0) else some false).bind fun b1=>((if b1 then((ZAi v2.v.2.2.2.1 1 2048).bind fun r_1=>some r_1) else some false).bind fun b2=>((if(eqS v2.v.1 (str [])) then((ZAi v2.v.2.1 1 512).bind fun r_2=>some r_2) else some false).bind fun b3=>((if b3 then((ZAi v2.v.2.2.1 0 32768).bind fun r_3=>some r_3) else some false).bind fun b4=>((if b4 then((ZAi v2.v.2.2.2.1 1 32768).bind fun r_4=>some r_4) else some false).bind fun b5=>((if(!b2) then some (!b5) else some false).bind fun b6=>(if b6 then some (.inr (.inr (0,false))) else some (.inl ((IntKind.i64.wrap (n+v2.v.2.2.2.1)),(IntKind.i64.wrap (i+1)))))))))))))) else some (.inr (.inl n)))
noncomputable def ZGY:(Int ⊕ (Int×Bool))→Option (Int×Bool)
 | (.inl n1)=>some (n1,true)
 | (.inr (v,v1))=>some (v,v1)
noncomputable def ZDg (l:(List RefR)):Option (Int×Bool):=
 (if(decide ((l.length:Int) > 128)) then some (0,false) else((loop (ZI6 l) (0,0)).bind (ZGY)))
noncomputable def ZE6 (l:(List Str)):Int→Option (Int ⊕ (Unit ⊕ Bool))
 | i=>(if(decide (i<(l.length:Int))) then((nth l i).bind fun v1=>((ZBP v1).bind fun r_=>((if(r_ !=0) then some true else((if(decide (i > 0)) then((nth l i).bind fun v2=>((nth l (IntKind.i64.wrap (i - 1))).bind fun v3=>some (ltS v2 v3 || eqS v2 v3))) else some false).bind fun b1=>some b1)).bind fun b=>(if b then some (.inr (.inr false)) else some (.inl (IntKind.i64.wrap (i+1))))))) else some (.inr (.inl ())))
noncomputable def ZE7:(Unit ⊕ Bool)→Option (Bool)
 | (.inl _)=>some (true)
 | (.inr v)=>some (v)
noncomputable def ZBa (l:(List Str)):Option (Bool):=
 ((loop (ZE6 l) 0).bind (ZE7))
noncomputable def ZGZ (m:ZBV):((List Str)×Int)→Option (((List Str)×Int) ⊕ ((List Str) ⊕ Bool))
 | (names,i)=>(if(decide (i<(m.v.2.2.2.2.2.1.length:Int))) then((nth m.v.2.2.2.2.2.1 i).bind fun v1=>((app 16 names [v1.v.1]).bind fun l=>((nth m.v.2.2.2.2.2.1 i).bind fun v2=>(if(decide ((v2.v.2.1.length:Int) > 256)) then some (.inr (.inr false)) else some (.inl (l,(IntKind.i64.wrap (i+1)))))))) else some (.inr (.inl names)))
noncomputable def ZGa (m:ZBV):((List Str) ⊕ Bool)→Option (Bool)
 | (.inl names1)=>((ZDg m.v.2.2.2.2.2.2.1).bind fun r_6=>((ZBa names1).bind fun r_7=>((if r_7 then some r_6.2 else some false).bind fun b8=>((if b8 then some (r_6.1==m.v.2.2.2.1) else some false).bind fun b9=>((if b9 then((if(m.v.1 !=3) then some true else some (m.v.2.2.2.1==0)).bind fun b11=>some b11) else some false).bind fun b10=>some (b10))))))
 | (.inr v)=>some (v)
noncomputable def ZEG (m:ZBV):Option (Bool):=
 ((ZAi m.v.1 1 3).bind fun r_=>((if(!r_) then some true else((ZAi m.v.2.1 0 4095).bind fun r_1=>some (!r_1))).bind fun b=>((if b then some true else((ZAi m.v.2.2.1 0 64).bind fun r_2=>some (!r_2))).bind fun b1=>((if b1 then some true else((ZAi m.v.2.2.2.1 0 32768).bind fun r_3=>some (!r_3))).bind fun b2=>((if b2 then some true else some (decide ((m.v.2.2.2.2.2.1.length:Int) > 8))).bind fun b3=>(if b3 then some (false) else((if(m.v.1==3) then((ZAi ((List.length m.v.2.2.2.2.1:Nat):Int) 1 1000).bind fun r_4=>((if(!r_4) then some true else((ZDP m.v.2.2.2.2.1).bind fun r_5=>some (!r_5))).bind fun b5=>some b5)) else some false).bind fun b4=>((if b4 then some true else((if(m.v.1 !=3) then some (!eqS m.v.2.2.2.2.1 (str [])) else some false).bind fun b7=>some b7)).bind fun b6=>(if b6 then some (false) else((loop (ZGZ m) ([],0)).bind (ZGa m)))))))))))
noncomputable def ZER (l:ZAb):Int→Option (Int ⊕ (Unit ⊕ Bool))
 | i=>(if(decide (i<(l.v.2.2.1.length:Int))) then((nth l.v.2.2.1 i).bind fun v1=>((ZAi v1 0 1024).bind fun r_1=>((if(!r_1) then some true else((if l.v.1 then((nth l.v.2.2.1 i).bind fun v2=>some (v2==0)) else some false).bind fun b3=>some b3)).bind fun b2=>(if b2 then some (.inr (.inr false)) else some (.inl (IntKind.i64.wrap (i+1))))))) else some (.inr (.inl ())))
noncomputable def ZES:(Unit ⊕ Bool)→Option (Bool)
 | (.inl _)=>some (true)
 | (.inr v)=>some (v)
noncomputable def ZBn (l:ZAb):Option (Bool):=
 ((if(decide ((l.v.2.1.length:Int) > 256)) then some true else((ZBa l.v.2.1).bind fun r_=>some (!r_))).bind fun b=>((if b then some true else some ((l.v.2.2.1.length:Int) !=(l.v.2.1.length:Int))).bind fun b1=>(if b1 then some (false) else((loop (ZER l) 0).bind (ZES)))))
noncomputable def ZDR (x:ZAO):Option (Bool):=
 ((ZEG (Rec.mk (x.v.2.1,x.v.2.2.1,x.v.2.2.2.1,(0:Int),x.v.2.2.2.2.2.1,x.v.2.2.2.2.2.2.2.2.1,([]:(List RefR)),()):ZBV)).bind fun r_=>((if(!r_) then some true else some (decide ((x.v.2.2.2.2.1.length:Int) > 32768))).bind fun b=>((if b then some true else((if(x.v.2.1 !=1) then some (decide ((x.v.2.2.2.2.1.length:Int) > 0)) else some false).bind fun b2=>some b2)).bind fun b1=>((if b1 then some true else some (decide (x.v.1<1))).bind fun b3=>((if b3 then some true else some (decide (x.v.1 > 1024))).bind fun b4=>(if b4 then some (false) else(if(x.v.2.1 !=2) then((if((x.v.2.2.2.2.2.2.1.length:Int)==0) then some ((x.v.2.2.2.2.2.2.2.1.length:Int)==0) else some false).bind fun b5=>some (b5)) else((if(x.v.2.2.2.1==1) then some (decide ((x.v.2.2.2.2.2.2.1.length:Int)≤128)) else some false).bind fun b6=>((if b6 then((ZBn (Rec.mk (true,x.v.2.2.2.2.2.2.1,x.v.2.2.2.2.2.2.2.1,()):ZAb)).bind fun r_1=>some r_1) else some false).bind fun b7=>some (b7))))))))))
noncomputable def ZC9 (v1:ZAO) (f:FsR):Int→Option (Int ⊕ (Unit ⊕ Bool))
 | k=>(if(decide (k<(v1.v.2.2.2.2.2.2.2.1.length:Int))) then((nth v1.v.2.2.2.2.2.2.2.1 k).bind fun v4=>((ZBr f v4).bind fun r_1=>(if(decide (r_1<0)) then some (.inr (.inr false)) else some (.inl (IntKind.i64.wrap (k+1)))))) else some (.inr (.inl ())))
noncomputable def ZET (i:Int):(Unit ⊕ Bool)→Option (Int ⊕ (Unit ⊕ Bool))
 | (.inl _)=>some (.inl (IntKind.i64.wrap (i+1)))
 | (.inr v3)=>some (.inr (.inr v3))
noncomputable def ZEU (f:FsR):Int→Option (Int ⊕ (Unit ⊕ Bool))
 | i=>(if(decide (i<(f.v.1.length:Int))) then((nth f.v.1 i).bind fun v1=>((ZDR v1).bind fun r_=>((if(!r_) then some true else((if(decide (i > 0)) then((nth f.v.1 (IntKind.i64.wrap (i - 1))).bind fun v2=>some (decide (v1.v.1≤v2.v.1))) else some false).bind fun b1=>some b1)).bind fun b=>(if b then some (.inr (.inr false)) else((loop (ZC9 v1 f) 0).bind (ZET i)))))) else some (.inr (.inl ())))
noncomputable def ZEV:(Unit ⊕ Bool)→Option (Bool)
 | (.inl _)=>some (true)
 | (.inr v)=>some (v)
noncomputable def ZCN (f:FsR):Option (Bool):=
 ((loop (ZEU f) 0).bind (ZEV))
noncomputable def ZEH (f:FsR):Int→Option (Int ⊕ (Unit ⊕ Bool))
 | i=>(if(decide (i<(f.v.1.length:Int))) then((nth f.v.1 i).bind fun v3=>((ZC1 f v3.v.1).bind fun r_1=>((if(v3.v.2.1 !=2) then some (r_1 !=v3.v.2.2.2.1) else some false).bind fun b6=>((if b6 then some true else((if(v3.v.2.1==2) then((if(decide (r_1 > 1)) then some true else((if(i==0) then some (decide (r_1 > 0)) else some false).bind fun b10=>some b10)).bind fun b9=>((if b9 then some true else((ZEE f v3.v.1).bind fun r_2=>some (!r_2))).bind fun b11=>some b11)) else some false).bind fun b8=>some b8)).bind fun b7=>(if b7 then some (.inr (.inr false)) else some (.inl (IntKind.i64.wrap (i+1)))))))) else some (.inr (.inl ())))
noncomputable def ZFl:(Unit ⊕ Bool)→Option (Bool)
 | (.inl _)=>some (true)
 | (.inr v2)=>some (v2)
noncomputable def ZDS (f:FsR):Option (Bool):=
 ((if(decide ((f.v.1.length:Int)<1)) then some true else some (decide ((f.v.1.length:Int) > 512))).bind fun b=>((if b then some true else((nth f.v.1 0).bind fun v=>some (v.v.1 !=1))).bind fun b1=>((if b1 then some true else((nth f.v.1 0).bind fun v1=>some (v1.v.2.1 !=2))).bind fun b2=>((if b2 then some true else some (decide (f.v.2.1<2))).bind fun b3=>((if b3 then some true else some (decide (f.v.2.1 > 513))).bind fun b4=>((if b4 then some true else((ZCN f).bind fun r_=>some (!r_))).bind fun b5=>(if b5 then some (false) else((loop (ZEH f) 0).bind (ZFl)))))))))
noncomputable def ZCV (f:FsR) (dir:Int) (s_:Str):Option (Int×Int):=
 ((ZDS f).bind fun r_=>(if(!r_) then some (0,2) else((ZBr f dir).bind fun r_1=>(if(decide (r_1<0)) then some (0,201) else((nth f.v.1 r_1).bind fun v=>(if(v.v.2.1 !=2) then some (0,203) else((nth f.v.1 r_1).bind fun v1=>((ZI5 v1 s_).bind fun r_2=>(if(!r_2.2) then some (0,201) else((nth f.v.1 r_1).bind fun v2=>((nth v2.v.2.2.2.2.2.2.2.1 r_2.1).bind fun v3=>some (v3,0))))))))))))
theorem ZMy (mx:Int) (f:FsR) (num:Int) (r:Int) (h:ZBr f num=some r):MF Tryz.prog (pr2 mx) 18 [enc f,enc num] (sG (NG mx)) fun v _=>ris v r:=by
 refine ZAj [(0,enc f),(1,enc num)] func18 rfl (by simp only[Tryz.f18];rfl) fun ψ=> ?_
 unfold ZBr at h;have hs:Hp (sG (NG mx)) [.gl (NG mx)]:=Hp.gl0
 refine ZAB<|ZAC<|ZBF (r:=f) rfl (Enc.self f) hs fun m xs s hxs hs=>ZAG (v:=enc (0:Int)) rfl<|ZAA<|ZAB<|ZAB<|ZAC<|ZAG (v:=enc (0:Int)) rfl<|ZAA<|ZAQ ?_
 obtain⟨o,hl,h⟩:=bs h;refine ZAk (fun(p:Int) φ s=>match p with | i=>Fx φ [(1,(enc num)),(2,(.ptr m 0)),(5,(enc i))]∧Hp s [(.cells m xs),(.gl (NG mx))]) (fun(o:(Unit ⊕ Int)) e φ s=>match o with | (.inl _)=>e= .exit 0∧Fx φ []∧Hp s [(.gl (NG mx))] | (.inr v)=>e= .ret∧Fx φ [(4,(enc v))]∧Hp s [(.gl (NG mx))]) ?_ hl ⟨FxR rfl,hs⟩ ?_
 ·rintro i o h φ s ⟨hF,hs⟩;rw[←hF.eq];rw[ZGV] at h;refine ZAB<|ZAB<|ZAC<|ZAE rfl<|ZAT ZAz rfl<|ZAK ag22 Sz rfl hxs hs fun y hy=>ZAo underlying22 rfl rfl hy<|ZAJ (v:=enc (decide (i<(f.v.1.length:Int)))) rfl rfl rfl<|ZAA ?_
  split at h
  ·rename_i c';refine ZAH rfl c'<|ZAN<|ZAB<|ZAQ<|ZAB<|ZAC<|ZAT ZAz rfl<|ZAK ag22 Sz rfl hxs hs fun y1 hy1=>ZAE rfl ?_
   obtain⟨v1,hx,h⟩:=bs h;refine ZAu underlying22 sh47 rfl rfl hy1 hx fun p hp=>ZCB ZCQ Sz rfl hp fun p1 hp1=>ZBK ag3 rfl hp1 fun y2 hy2=> ?_
   cases hy2;refine ZAE rfl<|ZAJ (v:=enc (v1.v.1==num)) rfl rfl rfl<|ZAA ?_
   split at h
   ·rename_i c';refine ZAH rfl c'<|ZAB<|ZAC<|ZAE rfl<|ZAG rfl<|ZAA<|ZAP ?_
    show if _ then _ else _
    rw[if_neg (by simp)]
    rw[←oi h];exact⟨_,rfl,rfl,⟨FxR rfl,(Hp.drop [] (b:=[(.gl (NG mx))]) hs)⟩⟩
   rename_i c';refine ZAI rfl c'<|ZAN<|ZAC<|ZAE rfl<|ZAJ (v:=enc (IntKind.i64.wrap (i+1))) rfl rfl rfl<|ZAG rfl<|ZAA ?_
   rw[←oi h];exact⟨_,rfl,⟨FxR rfl,hs⟩⟩
  rename_i c';refine ZAI rfl c'<|ZAh ?_
  rw[←oi h];exact⟨_,rfl,rfl,⟨trivial,(Hp.drop [] (b:=[(.gl (NG mx))]) hs)⟩⟩
 intro e φ s hE;rcases o with _u | v
 ·obtain⟨rfl,hF,hs⟩:=hE;rw[←hF.eq];rw[ZGW] at h;show if _ then _ else _
  rw[if_pos rfl];refine ZAB<|ZAC<|ZAG (v:=enc ((-1):Int)) rfl<|ZAA<|ZAP ?_
  rw[←oi h];exact⟨rfl,KE1 (a:=((-1):Int)) rfl rfl (rfl:is _ ((-1):Int)) (rfl:is _ ((-1):Int))⟩
 obtain⟨rfl,hF,hs⟩:=hE;rw[←hF.eq];rw[ZGW] at h;show if _ then _ else _
 rw[if_neg (by simp)]
 rw[←oi h];exact⟨rfl,KE1 (a:=v) rfl rfl (rfl:is _ v) (rfl:is _ v)⟩
theorem ZMz (mx:Int):ZAq Tryz.prog 18 (FnG (NG mx) (fun a:FsR×Int×Unit=>ZBr a.1 a.2.1)):=fnCG (ZS5 mx) ⟨_,func18,rfl⟩<|fun a r h=>ZMy mx a.1 a.2.1 r h
noncomputable def pt1 (mx:Int):Prims:=(pr2 mx).addG 18 (FnG (NG mx) (fun a:FsR×Int×Unit=>ZBr a.1 a.2.1))
theorem ZS6 (mx:Int):ZAW Tryz.prog (pt1 mx):=ZAS (ZS5 mx) (ZMz mx)
theorem ZKS (mx:Int) (f:FsR) (num:Int) (r:Int) (h:ZC1 f num=some r):MF Tryz.prog (pt1 mx) 54 [enc f,enc num] (sG (NG mx)) fun v _=>ris v r:=by
 refine ZAj [(0,enc f),(1,enc num)] func54 rfl (by simp only[Tryz.f54];rfl) fun ψ=> ?_
 unfold ZC1 at h;have hs:Hp (sG (NG mx)) [.gl (NG mx)]:=Hp.gl0
 refine ZAB<|ZAC<|ZBF (r:=f) rfl (Enc.self f) hs fun m xs s hxs hs=>ZAG (v:=enc (0:Int)) rfl<|ZAA<|ZAB<|ZAC<|ZAG (v:=enc (0:Int)) rfl<|ZAA<|ZAB<|ZAB<|ZAC<|ZAG (v:=enc (0:Int)) rfl<|ZAA<|ZAQ ?_
 obtain⟨n1,hl,h⟩:=bs h;refine ZAk (fun(p:(Int×Int)) φ s=>match p with | (n,i)=>Fx φ [(1,(enc num)),(2,(.ptr m 0)),(5,(enc n)),(6,(enc i))]∧Hp s [(.cells m xs),(.gl (NG mx))]) (fun(o:Int) e φ s=>match o with | n1=>e= .exit 0∧Fx φ [(5,(enc n1))]∧Hp s [(.gl (NG mx))]) ?_ hl ⟨FxR rfl,hs⟩ ?_
 ·rintro⟨n,i⟩ o h φ s ⟨hF,hs⟩;rw[←hF.eq];rw[ZDd] at h;refine ZAB<|ZAB<|ZAC<|ZAE rfl<|ZAT ZAz rfl<|ZAK ag22 Sz rfl hxs hs fun y hy=>ZAo underlying22 rfl rfl hy<|ZAJ (v:=enc (decide (i<(f.v.1.length:Int)))) rfl rfl rfl<|ZAA ?_
  split at h
  ·rename_i c';refine ZAH rfl c'<|ZAN<|ZAB<|ZAQ<|ZAB<|ZAC<|ZAG (v:=enc (0:Int)) rfl<|ZAA<|ZAQ ?_
   obtain⟨n3,hl,h⟩:=bs h;refine ZAk (fun(p:(Int×Int)) φ s=>match p with | (n2,k)=>Fx φ [(1,(enc num)),(2,(.ptr m 0)),(5,(enc n2)),(6,(enc i)),(7,(enc k))]∧Hp s [(.cells m xs),(.gl (NG mx))]) (fun(o:Int) e φ s=>match o with | n3=>e= .exit 2∧Fx φ [(1,(enc num)),(2,(.ptr m 0)),(5,(enc n3)),(6,(enc i))]∧Hp s [(.cells m xs),(.gl (NG mx))]) ?_ hl ⟨FxR rfl,hs⟩ ?_
   ·rintro⟨n2,k⟩ o h φ s ⟨hF,hs⟩;rw[←hF.eq];rw[ZB8] at h;refine ZAB<|ZAB<|ZAC<|ZAE rfl<|ZAT ZAz rfl<|ZAK ag22 Sz rfl hxs hs fun y1 hy1=>ZAE rfl ?_
    obtain⟨v,hx,h⟩:=bs h;refine ZAu underlying22 sh47 rfl rfl hy1 hx fun p hp=>ZCB ZEC (Ss (Ss (Ss (Ss (Ss (Ss (Ss Sz))))))) rfl hp fun p1 hp1=>ZBK ag44 rfl hp1 fun y2 hy2=>ZAo underlying44 rfl rfl hy2<|ZAJ (v:=enc (decide (k<(v.v.2.2.2.2.2.2.2.1.length:Int)))) rfl rfl rfl<|ZAA ?_
    split at h
    ·rename_i c';refine ZAH rfl c'<|ZAN<|ZEA (fun φ s=>∃(n4:Int),Fx φ [(1,(enc num)),(2,(.ptr m 0)),(5,(enc n4)),(6,(enc i)),(7,(enc k))]∧Hp s [(.cells m xs),(.gl (NG mx))]∧ZCh k n4=some o) ?_ ?_
     ·refine ZAQ ?_
      refine ZAB<|ZAC<|ZAT ZAz rfl<|ZAK ag22 Sz rfl hxs hs fun y3 hy3=>ZAE rfl ?_
      obtain⟨v1,hx1,h⟩:=bs h;refine ZAu underlying22 sh47 rfl rfl hy3 hx1 fun p2 hp2=>ZCB ZEC (Ss (Ss (Ss (Ss (Ss (Ss (Ss Sz))))))) rfl hp2 fun p3 hp3=>ZBK ag44 rfl hp3 fun y4 hy4=>ZAE rfl ?_
      obtain⟨v2,hx2,h⟩:=bs h;refine ZAu underlying44 sh3 rfl rfl hy4 hx2 fun p4 hp4=>ZCI rfl ag3 rfl hp4 fun y5 hy5=> ?_
      cases hy5;refine ZAE rfl<|ZAJ (v:=enc (v2==num)) rfl rfl rfl<|ZAA ?_
      split at h
      ·rename_i c';refine ZAH rfl c'<|ZAC<|ZAE rfl<|ZAJ (v:=enc (IntKind.i64.wrap (n2+1))) rfl rfl rfl<|ZAG rfl<|ZAA ?_
       exact⟨(IntKind.i64.wrap (n2+1)),FxR rfl,hs,h⟩
      rename_i c';refine ZAI rfl c'<|ZAN ?_
      exact⟨n2,FxR rfl,hs,h⟩
     rintro φ s ⟨n4,hF,hs,h⟩;rw[←hF.eq];unfold ZCh at h;refine ZAC<|ZAE rfl<|ZAJ (v:=enc (IntKind.i64.wrap (k+1))) rfl rfl rfl<|ZAG rfl<|ZAA ?_
     rw[←oi h];exact⟨_,rfl,⟨FxR rfl,hs⟩⟩
    rename_i c';refine ZAI rfl c'<|ZAh ?_
    rw[←oi h];exact⟨_,rfl,rfl,⟨FxR rfl,hs⟩⟩
   intro e φ s hE;obtain⟨rfl,hF,hs⟩:=hE;rw[←hF.eq];rw[ZG4] at h;show if _ then _ else _
   rw[if_pos rfl];refine ZAC<|ZAE rfl<|ZAJ (v:=enc (IntKind.i64.wrap (i+1))) rfl rfl rfl<|ZAG rfl<|ZAA ?_
   rw[←oi h];exact⟨_,rfl,⟨FxR rfl,hs⟩⟩
  rename_i c';refine ZAI rfl c'<|ZAh ?_
  rw[←oi h];exact⟨_,rfl,rfl,⟨FxR rfl,(Hp.drop [] (b:=[(.gl (NG mx))]) hs)⟩⟩
 intro e φ s hE;obtain⟨rfl,hF,hs⟩:=hE;rw[←hF.eq];rw[ZG5] at h;show if _ then _ else _
 rw[if_pos rfl];refine ZAB<|ZAC<|ZAE rfl<|ZAG rfl<|ZAA<|ZAP ?_
 rw[←oi h];exact⟨rfl,KE1 (a:=n1) rfl rfl (rfl:is _ n1) (rfl:is _ n1)⟩
theorem ZKT (mx:Int):ZAq Tryz.prog 54 (FnG (NG mx) (fun a:FsR×Int×Unit=>ZC1 a.1 a.2.1)):=fnCG (ZS6 mx) ⟨_,func54,rfl⟩<|fun a r h=>ZKS mx a.1 a.2.1 r h
noncomputable def pt2 (mx:Int):Prims:=(pt1 mx).addG 54 (FnG (NG mx) (fun a:FsR×Int×Unit=>ZC1 a.1 a.2.1))
theorem ZS7 (mx:Int):ZAW Tryz.prog (pt2 mx):=ZAS (ZS6 mx) (ZKT mx)
theorem ZQI (mx:Int) (f:FsR) (num:Int) (r:Int) (h:ZI4 f num=some r):MF Tryz.prog (pt2 mx) 31 [enc f,enc num] (sG (NG mx)) fun v _=>ris v r:=by
 refine ZAj [(0,enc f),(1,enc num)] func31 rfl (by simp only[Tryz.f31];rfl) fun ψ=> ?_
 unfold ZI4 at h;have hs:Hp (sG (NG mx)) [.gl (NG mx)]:=Hp.gl0
 refine ZAB<|ZAC<|ZBF (r:=f) rfl (Enc.self f) hs fun m xs s hxs hs=>ZAG (v:=enc (0:Int)) rfl<|ZAA<|ZAB<|ZAB<|ZAC<|ZAG (v:=enc (0:Int)) rfl<|ZAA<|ZAQ ?_
 obtain⟨o,hl,h⟩:=bs h;refine ZAk (fun(p:Int) φ s=>match p with | i=>Fx φ [(1,(enc num)),(2,(.ptr m 0)),(5,(enc i))]∧Hp s [(.cells m xs),(.gl (NG mx))]) (fun(o:(Unit ⊕ Int)) e φ s=>match o with | (.inl _)=>e= .exit 0∧Fx φ []∧Hp s [(.gl (NG mx))] | (.inr v)=>e= .ret∧Fx φ [(4,(enc v))]∧Hp s [(.gl (NG mx))]) ?_ hl ⟨FxR rfl,hs⟩ ?_
 ·rintro i o h φ s ⟨hF,hs⟩;rw[←hF.eq];rw[ZEm] at h;refine ZAB<|ZAB<|ZAC<|ZAE rfl<|ZAT ZAz rfl<|ZAK ag22 Sz rfl hxs hs fun y hy=>ZAo underlying22 rfl rfl hy<|ZAJ (v:=enc (decide (i<(f.v.1.length:Int)))) rfl rfl rfl<|ZAA ?_
  split at h
  ·rename_i c';refine ZAH rfl c'<|ZAN<|ZAB<|ZAQ<|ZAB<|ZAC<|ZAG (v:=enc (0:Int)) rfl<|ZAA<|ZAQ ?_
   obtain⟨o,hl,h⟩:=bs h;refine ZAk (fun(p:Int) φ s=>match p with | k=>Fx φ [(1,(enc num)),(2,(.ptr m 0)),(5,(enc i)),(6,(enc k))]∧Hp s [(.cells m xs),(.gl (NG mx))]) (fun(o:(Unit ⊕ Int)) e φ s=>match o with | (.inl _)=>e= .exit 2∧Fx φ [(1,(enc num)),(2,(.ptr m 0)),(5,(enc i))]∧Hp s [(.cells m xs),(.gl (NG mx))] | (.inr v1)=>e= .ret∧Fx φ [(4,(enc v1))]∧Hp s [(.gl (NG mx))]) ?_ hl ⟨FxR rfl,hs⟩ ?_
   ·rintro k o h φ s ⟨hF,hs⟩;rw[←hF.eq];rw[ZEl] at h;refine ZAB<|ZAB<|ZAC<|ZAE rfl<|ZAT ZAz rfl<|ZAK ag22 Sz rfl hxs hs fun y1 hy1=>ZAE rfl ?_
    obtain⟨v2,hx,h⟩:=bs h;refine ZAu underlying22 sh47 rfl rfl hy1 hx fun p hp=>ZCB ZEC (Ss (Ss (Ss (Ss (Ss (Ss (Ss Sz))))))) rfl hp fun p1 hp1=>ZBK ag44 rfl hp1 fun y2 hy2=>ZAo underlying44 rfl rfl hy2<|ZAJ (v:=enc (decide (k<(v2.v.2.2.2.2.2.2.2.1.length:Int)))) rfl rfl rfl<|ZAA ?_
    split at h
    ·rename_i c';refine ZAH rfl c'<|ZAN<|ZAB<|ZAQ<|ZAB<|ZAC<|ZAT ZAz rfl<|ZAK ag22 Sz rfl hxs hs fun y3 hy3=>ZAE rfl ?_
     obtain⟨v3,hx1,h⟩:=bs h;refine ZAu underlying22 sh47 rfl rfl hy3 hx1 fun p2 hp2=>ZCB ZEC (Ss (Ss (Ss (Ss (Ss (Ss (Ss Sz))))))) rfl hp2 fun p3 hp3=>ZBK ag44 rfl hp3 fun y4 hy4=>ZAE rfl ?_
     obtain⟨v4,hx2,h⟩:=bs h;refine ZAu underlying44 sh3 rfl rfl hy4 hx2 fun p4 hp4=>ZCI rfl ag3 rfl hp4 fun y5 hy5=> ?_
     cases hy5;refine ZAE rfl<|ZAJ (v:=enc (v4==num)) rfl rfl rfl<|ZAA ?_
     split at h
     ·rename_i c';refine ZAH rfl c'<|ZAB<|ZAC<|ZAT ZAz rfl<|ZAK ag22 Sz rfl hxs hs fun y6 hy6=>ZAE rfl ?_
      obtain⟨v5,hx3,h⟩:=bs h;refine ZAu underlying22 sh47 rfl rfl hy6 hx3 fun p5 hp5=>ZCB ZCQ Sz rfl hp5 fun p6 hp6=>ZBK ag3 rfl hp6 fun y7 hy7=> ?_
      cases hy7;refine ZAG rfl<|ZAA<|ZAP ?_
      show if _ then _ else _
      rw[if_neg (by simp)]
      rw[←oi h];exact⟨_,rfl,rfl,⟨FxR rfl,(Hp.drop [] (b:=[(.gl (NG mx))]) hs)⟩⟩
     rename_i c';refine ZAI rfl c'<|ZAN<|ZAC<|ZAE rfl<|ZAJ (v:=enc (IntKind.i64.wrap (k+1))) rfl rfl rfl<|ZAG rfl<|ZAA ?_
     rw[←oi h];exact⟨_,rfl,⟨FxR rfl,hs⟩⟩
    rename_i c';refine ZAI rfl c'<|ZAh ?_
    rw[←oi h];exact⟨_,rfl,rfl,⟨FxR rfl,hs⟩⟩
   intro e φ s hE;rcases o with _u | v1
   ·obtain⟨rfl,hF,hs⟩:=hE;rw[←hF.eq];rw[ZI2] at h;show if _ then _ else _
    rw[if_pos rfl];refine ZAC<|ZAE rfl<|ZAJ (v:=enc (IntKind.i64.wrap (i+1))) rfl rfl rfl<|ZAG rfl<|ZAA ?_
    rw[←oi h];exact⟨_,rfl,⟨FxR rfl,hs⟩⟩
   obtain⟨rfl,hF,hs⟩:=hE;rw[←hF.eq];rw[ZI2] at h;show if _ then _ else _
   rw[if_neg (by simp)]
   show if _ then _ else _
   rw[if_neg (by simp)]
   rw[←oi h];exact⟨_,rfl,rfl,⟨FxR rfl,hs⟩⟩
  rename_i c';refine ZAI rfl c'<|ZAh ?_
  rw[←oi h];exact⟨_,rfl,rfl,⟨trivial,(Hp.drop [] (b:=[(.gl (NG mx))]) hs)⟩⟩
 intro e φ s hE;rcases o with _u | v
 ·obtain⟨rfl,hF,hs⟩:=hE;rw[←hF.eq];rw[ZI3] at h;show if _ then _ else _
  rw[if_pos rfl];refine ZAB<|ZAC<|ZAG (v:=enc (0:Int)) rfl<|ZAA<|ZAP ?_
  rw[←oi h];exact⟨rfl,KE1 (a:=(0:Int)) rfl rfl (rfl:is _ (0:Int)) (rfl:is _ (0:Int))⟩
 obtain⟨rfl,hF,hs⟩:=hE;rw[←hF.eq];rw[ZI3] at h;show if _ then _ else _
 rw[if_neg (by simp)]
 rw[←oi h];exact⟨rfl,KE1 (a:=v) rfl rfl (rfl:is _ v) (rfl:is _ v)⟩
theorem ZQJ (mx:Int):ZAq Tryz.prog 31 (FnG (NG mx) (fun a:FsR×Int×Unit=>ZI4 a.1 a.2.1)):=fnCG (ZS7 mx) ⟨_,func31,rfl⟩<|fun a r h=>ZQI mx a.1 a.2.1 r h
noncomputable def pt3 (mx:Int):Prims:=(pt2 mx).addG 31 (FnG (NG mx) (fun a:FsR×Int×Unit=>ZI4 a.1 a.2.1))
theorem ZS8 (mx:Int):ZAW Tryz.prog (pt3 mx):=ZAS (ZS7 mx) (ZQJ mx)
theorem ZQK (mx:Int) (x:ZAO) (s_:Str) (r:Int×Bool) (h:ZI5 x s_=some r):MF Tryz.prog (pt3 mx) 38 [enc x,enc s_] (sG (NG mx)) fun v _=>ris v r:=by
 refine ZAj [(0,enc x),(1,enc s_)] func38 rfl (by simp only[Tryz.f38];rfl) fun ψ=> ?_
 unfold ZI5 at h;have hs:Hp (sG (NG mx)) [.gl (NG mx)]:=Hp.gl0
 refine ZAB<|ZAC<|ZBF (r:=x) rfl (Enc.self x) hs fun m xs s hxs hs=>ZAG (v:=enc (0:Int)) rfl<|ZAG (v:=enc false) rfl<|ZAA<|ZAB<|ZAC<|ZAG (v:=enc (0:Int)) rfl<|ZAA<|ZAB<|ZAQ ?_
 obtain⟨i1,hl,h⟩:=bs h;refine ZAk (fun(p:Int) φ s=>match p with | i=>Fx φ [(1,(enc s_)),(2,(.ptr m 0)),(6,(enc i))]∧Hp s [(.cells m xs),(.gl (NG mx))]) (fun(o:Int) e φ s=>match o with | i1=>e= .exit 0∧Fx φ [(1,(enc s_)),(2,(.ptr m 0)),(6,(enc i1))]∧Hp s [(.cells m xs),(.gl (NG mx))]) ?_ hl ⟨FxR rfl,hs⟩ ?_
 ·rintro i o h φ s ⟨hF,hs⟩;rw[←hF.eq];rw[ZFi] at h;refine ZAB<|ZAB<|ZAC<|ZAE rfl<|ZAT ZFD rfl<|ZAK ag43 (Ss (Ss (Ss (Ss (Ss (Ss Sz)))))) rfl hxs hs fun y hy=>ZAo underlying43 rfl rfl hy<|ZAJ (v:=enc (decide (i<(x.v.2.2.2.2.2.2.1.length:Int)))) rfl rfl rfl<|ZAE rfl ?_
  obtain⟨b,hb_b,h⟩:=bs h;refine ZAR 8 (fun φ s=>Hp s [(.cells m xs),(.gl (NG mx))]∧Fx φ [(1,(enc s_)),(2,(.ptr m 0)),(6,(enc i)),(20,(enc b))]) ?_ ?_
  ·split at hb_b
   ·rename_i cg;refine ZAF rfl rfl cg<|ZAT ZFD rfl<|ZAF rfl rfl cg<|ZAK ag43 (Ss (Ss (Ss (Ss (Ss (Ss Sz)))))) rfl hxs hs fun y1 hy1=>ZAF rfl rfl cg<|ZAE rfl<|ZAF rfl rfl cg ?_
    obtain⟨v,hx,hb_b⟩:=bs hb_b;refine ZAu underlying43 sh9 rfl rfl hy1 hx fun p hp=>ZAF rfl rfl cg<|ZCI rfl ag9 rfl hp fun y2 hy2=> ?_
    cases hy2;refine ZAF rfl rfl cg<|ZAE rfl<|ZAF rfl rfl cg<|ZAJ (v:=enc ((ltS v s_):Bool)) rfl rfl rfl<|ZAY rfl cg rfl<|ZAA ?_
    rw[←oi hb_b];exact⟨hs,FxR rfl⟩
   rename_i cg1;refine ZAD rfl rfl cg1<|ZAD rfl rfl cg1<|ZAD rfl rfl cg1<|ZAD rfl rfl cg1<|ZAD rfl rfl cg1<|ZAD rfl rfl cg1<|ZAD rfl rfl cg1<|ZAX (v:=enc false) rfl cg1 rfl<|ZAA ?_
   rw[←oi hb_b];exact⟨hs,FxR rfl⟩
  rintro φ s ⟨hs,hF⟩;rw[←hF.eq];refine ZAA ?_
  split at h
  ·rename_i c';refine ZAH rfl c'<|ZAN<|ZAQ<|ZAC<|ZAE rfl<|ZAJ (v:=enc (IntKind.i64.wrap (i+1))) rfl rfl rfl<|ZAG rfl<|ZAA ?_
   rw[←oi h];exact⟨_,rfl,⟨FxR rfl,hs⟩⟩
  rename_i c';refine ZAI rfl c'<|ZAh ?_
  rw[←oi h];exact⟨_,rfl,rfl,⟨FxR rfl,hs⟩⟩
 intro e φ s hE;obtain⟨rfl,hF,hs⟩:=hE;rw[←hF.eq];rw[ZLw] at h;show if _ then _ else _
 rw[if_pos rfl];refine ZAB<|ZB3 (by decide+kernel) (by kernel_rfl)<|ZAE rfl<|ZAE rfl<|ZAT ZFD rfl<|ZAK ag43 (Ss (Ss (Ss (Ss (Ss (Ss Sz)))))) rfl hxs hs fun y3 hy3=>ZAo underlying43 rfl rfl hy3<|ZAJ (v:=enc (decide (i1<(x.v.2.2.2.2.2.2.1.length:Int)))) rfl rfl rfl<|ZAE rfl ?_
 obtain⟨b1,hb_b1,h⟩:=bs h;refine ZAR 8 (fun φ s=>Hp s [(.cells m xs),(.gl (NG mx))]∧Fx φ [(23,(enc i1)),(37,(enc b1))]) ?_ ?_
 ·split at hb_b1
  ·rename_i cg2;refine ZAF rfl rfl cg2<|ZAT ZFD rfl<|ZAF rfl rfl cg2<|ZAK ag43 (Ss (Ss (Ss (Ss (Ss (Ss Sz)))))) rfl hxs hs fun y4 hy4=>ZAF rfl rfl cg2<|ZAE rfl<|ZAF rfl rfl cg2 ?_
   obtain⟨v1,hx1,hb_b1⟩:=bs hb_b1;refine ZAu underlying43 sh9 rfl rfl hy4 hx1 fun p1 hp1=>ZAF rfl rfl cg2<|ZCI rfl ag9 rfl hp1 fun y5 hy5=> ?_
   cases hy5;refine ZAF rfl rfl cg2<|ZAE rfl<|ZAF rfl rfl cg2<|ZAJ (v:=enc ((eqS v1 s_):Bool)) rfl rfl rfl<|ZAY rfl cg2 rfl<|ZAA ?_
   rw[←oi hb_b1];exact⟨hs,FxR rfl⟩
  rename_i cg3;refine ZAD rfl rfl cg3<|ZAD rfl rfl cg3<|ZAD rfl rfl cg3<|ZAD rfl rfl cg3<|ZAD rfl rfl cg3<|ZAD rfl rfl cg3<|ZAD rfl rfl cg3<|ZAX (v:=enc false) rfl cg3 rfl<|ZAA ?_
  rw[←oi hb_b1];exact⟨hs,FxR rfl⟩
 rintro φ s ⟨hs,hF⟩;rw[←hF.eq];refine ZAG rfl<|ZAG rfl<|ZAA<|ZAP ?_
 rw[←oi h];exact⟨rfl,KE2 (a1:=i1) (a2:=b1) rfl rfl rfl (rfl:is _ i1) (rfl:is _ b1) ⟨_,_,rfl,(rfl:is _ i1),(rfl:is _ b1)⟩⟩
theorem ZQL (mx:Int):ZAq Tryz.prog 38 (FnG (NG mx) (fun a:ZAO×Str×Unit=>ZI5 a.1 a.2.1)):=fnCG (ZS8 mx) ⟨_,func38,rfl⟩<|fun a r h=>ZQK mx a.1 a.2.1 r h
noncomputable def pt4 (mx:Int):Prims:=(pt3 mx).addG 38 (FnG (NG mx) (fun a:ZAO×Str×Unit=>ZI5 a.1 a.2.1))
theorem ZS9 (mx:Int):ZAW Tryz.prog (pt4 mx):=ZAS (ZS8 mx) (ZQL mx)
theorem ZM0 (mx:Int) (f:FsR) (num:Int) (r:Bool) (h:ZEE f num=some r):MF Tryz.prog (pt4 mx) 55 [enc f,enc num] (sG (NG mx)) fun v _=>ris v r:=by
 refine ZAj [(0,enc f),(1,enc num)] func55 rfl (by simp only[Tryz.f55];rfl) fun ψ=> ?_
 unfold ZEE at h;have hs:Hp (sG (NG mx)) [.gl (NG mx)]:=Hp.gl0
 refine ZAB<|ZAC<|ZBF (r:=f) rfl (Enc.self f) hs fun m xs s hxs hs=>ZAG (v:=enc false) rfl<|ZAA<|ZAB<|ZAC<|ZAE rfl<|ZAG rfl<|ZAA<|ZAB<|ZAB<|ZAC<|ZAG (v:=enc (0:Int)) rfl<|ZAA ?_
 refine ZAQ ?_
 obtain⟨o,hl,h⟩:=bs h;refine ZAk (fun(p:(Int×Int)) φ s=>match p with | (n,i)=>Fx φ [(2,(.ptr m 0)),(5,(enc n)),(6,(enc i))]∧Hp s [(.cells m xs),(.gl (NG mx))]) (fun(o:(Unit ⊕ Bool)) e φ s=>match o with | (.inl _)=>e= .exit 0∧Fx φ []∧Hp s [(.gl (NG mx))] | (.inr v)=>e= .ret∧Fx φ [(4,(enc v))]∧Hp s [(.gl (NG mx))]) ?_ hl ⟨FxR rfl,hs⟩ ?_
 ·rintro⟨n,i⟩ o h φ s ⟨hF,hs⟩;rw[←hF.eq];rw[ZD2] at h;refine ZAB<|ZAB<|ZAC<|ZAE rfl<|ZAT ZAz rfl<|ZAK ag22 Sz rfl hxs hs fun y hy=>ZAo underlying22 rfl rfl hy<|ZAJ (v:=enc (decide (i≤(f.v.1.length:Int)))) rfl rfl rfl<|ZAA ?_
  split at h
  ·rename_i c';refine ZAH rfl c'<|ZAN<|ZAB<|ZAQ<|ZAB<|ZAB<|ZAC<|ZAE rfl<|ZAJ (v:=enc (n==0)) rfl rfl rfl<|ZAA ?_
   split at h
   ·rename_i c';refine ZAH rfl c'<|ZAB<|ZAC<|ZAG (v:=enc true) rfl<|ZAA<|ZAP ?_
    show if _ then _ else _
    rw[if_neg (by simp)]
    rw[←oi h];exact⟨_,rfl,rfl,⟨FxR rfl,(Hp.drop [] (b:=[(.gl (NG mx))]) hs)⟩⟩
   rename_i c';refine ZAI rfl c'<|ZAN<|ZAC<|ZA2 (r:=f) ag24 sz24 rfl hxs hs fun y1 hy1=>ZAE rfl ?_
   obtain⟨r_,hx,h⟩:=bs h;refine ZAa (f:=fun a:FsR×Int×Unit=>ZI4 a.1 a.2.1) (a:=(f,n,())) rfl func31 rfl rfl (.cons (a:=f) hy1 (.cons (a:=n) (Enc.self _) .nil)) hs (lM _ List.mem_cons_self) hx<|ZAG rfl<|ZAA<|ZAC<|ZAE rfl<|ZAJ (v:=enc (IntKind.i64.wrap (i+1))) rfl rfl rfl<|ZAG rfl<|ZAA ?_
   rw[←oi h];exact⟨_,rfl,⟨FxR rfl,hs⟩⟩
  rename_i c';refine ZAI rfl c'<|ZAh ?_
  rw[←oi h];exact⟨_,rfl,rfl,⟨trivial,(Hp.drop [] (b:=[(.gl (NG mx))]) hs)⟩⟩
 intro e φ s hE;rcases o with _u | v
 ·obtain⟨rfl,hF,hs⟩:=hE;rw[←hF.eq];rw[ZGX] at h;show if _ then _ else _
  rw[if_pos rfl];refine ZAB<|ZAC<|ZAG (v:=enc false) rfl<|ZAA<|ZAP ?_
  rw[←oi h];exact⟨rfl,KE1 (a:=(false:Bool)) rfl rfl (rfl:is _ (false:Bool)) (rfl:is _ (false:Bool))⟩
 obtain⟨rfl,hF,hs⟩:=hE;rw[←hF.eq];rw[ZGX] at h;show if _ then _ else _
 rw[if_neg (by simp)]
 rw[←oi h];exact⟨rfl,KE1 (a:=v) rfl rfl (rfl:is _ v) (rfl:is _ v)⟩
theorem ZM1 (mx:Int):ZAq Tryz.prog 55 (FnG (NG mx) (fun a:FsR×Int×Unit=>ZEE a.1 a.2.1)):=fnCG (ZS9 mx) ⟨_,func55,rfl⟩<|fun a r h=>ZM0 mx a.1 a.2.1 r h
noncomputable def pt5 (mx:Int):Prims:=(pt4 mx).addG 55 (FnG (NG mx) (fun a:FsR×Int×Unit=>ZEE a.1 a.2.1))
theorem ZTA (mx:Int):ZAW Tryz.prog (pt5 mx):=ZAS (ZS9 mx) (ZM1 mx)
theorem ZM2 (mx:Int) (s_:Str) (r:Int×Int×Bool) (h:ZDe s_=some r):MF Tryz.prog (pt5 mx) 39 [enc s_] (sG (NG mx)) fun v _=>ris v r:=by
 refine ZAj [(0,enc s_)] func39 rfl (by simp only[Tryz.f39];rfl) fun ψ=> ?_
 unfold ZDe at h;have hs:Hp (sG (NG mx)) [.gl (NG mx)]:=Hp.gl0
 refine ZAB<|ZAC<|ZAG (v:=enc (0:Int)) rfl<|ZAG (v:=enc (0:Int)) rfl<|ZAG (v:=enc false) rfl<|ZAA<|ZAB<|ZAC<|ZAE rfl ?_
 obtain⟨c,hx,h⟩:=bs h;refine ZGr underlying9 rfl rfl hx<|ZOa underlying5 underlying3 rfl ?_
 rw[ZGP];refine ZAG rfl<|ZAA<|ZAB<|ZAC<|ZAG (v:=enc (0:Int)) rfl<|ZAG (v:=enc (0:Int)) rfl<|ZAG (v:=enc (0:Int)) rfl<|ZAA<|ZEA (fun φ s=>∃(n:Int) (x:Int) (least:Int),Fx φ [(0,(enc s_)),(6,(enc n)),(7,(enc x)),(8,(enc least))]∧Hp s [(.gl (NG mx))]∧ZBN s_ n x least=some r) ?_ ?_
 ·refine ZAQ ?_
  refine ZAB<|ZAC<|ZAE rfl<|ZAJ (v:=enc (decide (((c).toNat:Int)<128))) rfl rfl rfl<|ZAG rfl<|ZAA ?_
  split at h
  ·rename_i c';refine ZAH rfl c'<|ZAB<|ZAC<|ZAE rfl<|ZAG rfl<|ZAG (v:=enc (1:Int)) rfl<|ZAG (v:=enc true) rfl<|ZAA<|ZAP ?_
   show if _ then _ else _
   rw[if_neg (by simp)]
   rw[←oi h];exact⟨rfl,KE3 (a1:=(((c).toNat:Int):Int)) (a2:=(1:Int)) (a3:=(true:Bool)) rfl rfl rfl rfl (rfl:is _ (((c).toNat:Int):Int)) (rfl:is _ (1:Int)) (rfl:is _ (true:Bool)) ⟨_,_,_,rfl,(rfl:is _ (((c).toNat:Int):Int)),(rfl:is _ (1:Int)),(rfl:is _ (true:Bool))⟩⟩
  rename_i c';refine ZAI rfl c'<|ZAB<|ZAC<|ZAE rfl<|ZAJ (v:=enc (decide (((c).toNat:Int)≥194))) rfl rfl rfl<|ZAE rfl ?_
  obtain⟨b4,hb_b4,h⟩:=bs h;refine ZAR 3 (fun φ s=>Hp s [(.gl (NG mx))]∧Fx φ [(0,(enc s_)),(5,(enc (((c).toNat:Int):Int))),(24,(enc b4))]) ?_ ?_
  ·split at hb_b4
   ·rename_i cg8;refine ZAF rfl rfl cg8<|ZAE rfl<|ZAF rfl rfl cg8<|ZAJ (v:=enc (decide (((c).toNat:Int)<224))) rfl rfl rfl<|ZAY rfl cg8 rfl<|ZAA ?_
    rw[←oi hb_b4];exact⟨hs,FxR rfl⟩
   rename_i cg9;refine ZAD rfl rfl cg9<|ZAD rfl rfl cg9<|ZAX (v:=enc false) rfl cg9 rfl<|ZAA ?_
   rw[←oi hb_b4];exact⟨hs,FxR rfl⟩
  rintro φ s ⟨hs,hF⟩;rw[←hF.eq];refine ZAG rfl<|ZAA ?_
  split at h
  ·rename_i c';refine ZAH rfl c'<|ZAC<|ZAE rfl<|ZAJ (v:=enc (IntKind.i64.wrap (((c).toNat:Int) - 192))) rfl rfl rfl<|ZAG (v:=enc (2:Int)) rfl<|ZAG rfl<|ZAG (v:=enc (128:Int)) rfl<|ZAA ?_
   exact⟨2,(IntKind.i64.wrap (((c).toNat:Int) - 192)),128,FxR rfl,hs,h⟩
  rename_i c';refine ZAI rfl c'<|ZAB<|ZAC<|ZAE rfl<|ZAJ (v:=enc (decide (((c).toNat:Int)≥224))) rfl rfl rfl<|ZAE rfl ?_
  obtain⟨b5,hb_b5,h⟩:=bs h;refine ZAR 3 (fun φ s=>Hp s [(.gl (NG mx))]∧Fx φ [(0,(enc s_)),(5,(enc (((c).toNat:Int):Int))),(33,(enc b5))]) ?_ ?_
  ·split at hb_b5
   ·rename_i cg10;refine ZAF rfl rfl cg10<|ZAE rfl<|ZAF rfl rfl cg10<|ZAJ (v:=enc (decide (((c).toNat:Int)<240))) rfl rfl rfl<|ZAY rfl cg10 rfl<|ZAA ?_
    rw[←oi hb_b5];exact⟨hs,FxR rfl⟩
   rename_i cg11;refine ZAD rfl rfl cg11<|ZAD rfl rfl cg11<|ZAX (v:=enc false) rfl cg11 rfl<|ZAA ?_
   rw[←oi hb_b5];exact⟨hs,FxR rfl⟩
  rintro φ s ⟨hs,hF⟩;rw[←hF.eq];refine ZAG rfl<|ZAA ?_
  split at h
  ·rename_i c';refine ZAH rfl c'<|ZAC<|ZAE rfl<|ZAJ (v:=enc (IntKind.i64.wrap (((c).toNat:Int) - 224))) rfl rfl rfl<|ZAG (v:=enc (3:Int)) rfl<|ZAG rfl<|ZAG (v:=enc (2048:Int)) rfl<|ZAA ?_
   exact⟨3,(IntKind.i64.wrap (((c).toNat:Int) - 224)),2048,FxR rfl,hs,h⟩
  rename_i c';refine ZAI rfl c'<|ZAB<|ZAC<|ZAE rfl<|ZAJ (v:=enc (decide (((c).toNat:Int)≥240))) rfl rfl rfl<|ZAE rfl ?_
  obtain⟨b6,hb_b6,h⟩:=bs h;refine ZAR 3 (fun φ s=>Hp s [(.gl (NG mx))]∧Fx φ [(0,(enc s_)),(5,(enc (((c).toNat:Int):Int))),(42,(enc b6))]) ?_ ?_
  ·split at hb_b6
   ·rename_i cg12;refine ZAF rfl rfl cg12<|ZAE rfl<|ZAF rfl rfl cg12<|ZAJ (v:=enc (decide (((c).toNat:Int)<245))) rfl rfl rfl<|ZAY rfl cg12 rfl<|ZAA ?_
    rw[←oi hb_b6];exact⟨hs,FxR rfl⟩
   rename_i cg13;refine ZAD rfl rfl cg13<|ZAD rfl rfl cg13<|ZAX (v:=enc false) rfl cg13 rfl<|ZAA ?_
   rw[←oi hb_b6];exact⟨hs,FxR rfl⟩
  rintro φ s ⟨hs,hF⟩;rw[←hF.eq];refine ZAG rfl<|ZAA ?_
  split at h
  ·rename_i c';refine ZAH rfl c'<|ZAC<|ZAE rfl<|ZAJ (v:=enc (IntKind.i64.wrap (((c).toNat:Int) - 240))) rfl rfl rfl<|ZAG (v:=enc (4:Int)) rfl<|ZAG rfl<|ZAG (v:=enc (65536:Int)) rfl<|ZAA ?_
   exact⟨4,(IntKind.i64.wrap (((c).toNat:Int) - 240)),65536,FxR rfl,hs,h⟩
  rename_i c';refine ZAI rfl c'<|ZAB<|ZAC<|ZAG (v:=enc (65533:Int)) rfl<|ZAG (v:=enc (1:Int)) rfl<|ZAG (v:=enc false) rfl<|ZAA<|ZAP ?_
  show if _ then _ else _
  rw[if_neg (by simp)]
  rw[←oi h];exact⟨rfl,KE3 (a1:=(65533:Int)) (a2:=(1:Int)) (a3:=(false:Bool)) rfl rfl rfl rfl (rfl:is _ (65533:Int)) (rfl:is _ (1:Int)) (rfl:is _ (false:Bool)) ⟨_,_,_,rfl,(rfl:is _ (65533:Int)),(rfl:is _ (1:Int)),(rfl:is _ (false:Bool))⟩⟩
 rintro φ s ⟨n,x,least,hF,hs,h⟩;rw[←hF.eq];unfold ZBN at h;refine ZAB<|ZAB<|ZAC<|ZAE rfl<|ZF7 underlying9 rfl rfl<|ZAE rfl<|ZAJ (v:=enc (decide (((List.length s_:Nat):Int)<n))) rfl rfl rfl<|ZAA ?_
 split at h
 ·rename_i c';refine ZAH rfl c'<|ZAB<|ZAC<|ZAG (v:=enc (65533:Int)) rfl<|ZAG (v:=enc (1:Int)) rfl<|ZAG (v:=enc false) rfl<|ZAA<|ZAP ?_
  rw[←oi h];exact⟨rfl,KE3 (a1:=(65533:Int)) (a2:=(1:Int)) (a3:=(false:Bool)) rfl rfl rfl rfl (rfl:is _ (65533:Int)) (rfl:is _ (1:Int)) (rfl:is _ (false:Bool)) ⟨_,_,_,rfl,(rfl:is _ (65533:Int)),(rfl:is _ (1:Int)),(rfl:is _ (false:Bool))⟩⟩
 rename_i c';refine ZAI rfl c'<|ZAN<|ZAB<|ZAB<|ZAC<|ZAG (v:=enc (1:Int)) rfl<|ZAA<|ZAQ ?_
 obtain⟨o,hl,h⟩:=bs h;refine ZAk (fun(p:(Int×Int)) φ s=>match p with | (x1,i)=>Fx φ [(0,(enc s_)),(6,(enc n)),(7,(enc x1)),(8,(enc least)),(9,(enc i))]∧Hp s [(.gl (NG mx))]) (fun(o:(Int ⊕ (Int×Int×Bool))) e φ s=>match o with | (.inl x2)=>e= .exit 1∧Fx φ [(6,(enc n)),(7,(enc x2)),(8,(enc least))]∧Hp s [(.gl (NG mx))] | (.inr (v,v1,v2))=>e= .ret∧Fx φ [(2,(enc v)),(3,(enc v1)),(4,(enc v2))]∧Hp s [(.gl (NG mx))]) ?_ hl ⟨FxR rfl,hs⟩ ?_
 ·rintro⟨x1,i⟩ o h φ s ⟨hF,hs⟩;rw[←hF.eq];rw[ZE3] at h;refine ZAB<|ZAB<|ZAC<|ZAE rfl<|ZAE rfl<|ZAJ (v:=enc (decide (i<n))) rfl rfl rfl<|ZAA ?_
  split at h
  ·rename_i c';refine ZAH rfl c'<|ZAN<|ZAB<|ZAQ<|ZAB<|ZAC<|ZAE rfl<|ZAE rfl ?_
   obtain⟨c1,hx1,h⟩:=bs h;refine ZGr underlying9 rfl rfl hx1<|ZOa underlying5 underlying3 rfl ?_
   rw[ZGP];refine ZAG rfl<|ZAA<|ZAB<|ZAB<|ZAC<|ZAE rfl<|ZAJ (v:=enc (decide (((c1).toNat:Int)<128))) rfl rfl rfl<|ZAE rfl ?_
   obtain⟨b,hb_b,h⟩:=bs h;refine ZAR 3 (fun φ s=>Hp s [(.gl (NG mx))]∧Fx φ [(0,(enc s_)),(6,(enc n)),(7,(enc x1)),(8,(enc least)),(9,(enc i)),(10,(enc (((c1).toNat:Int):Int))),(63,(enc b))]) ?_ ?_
   ·split at hb_b
    ·rename_i cg;refine ZAD rfl rfl (by simpa using cg)<|ZAD rfl rfl (by simpa using cg)<|ZAY (v:=enc true) rfl cg rfl<|ZAA ?_
     rw[←oi hb_b];exact⟨hs,FxR rfl⟩
    rename_i cg1;refine ZAF rfl rfl (by simpa using cg1)<|ZAE rfl<|ZAF rfl rfl (by simpa using cg1)<|ZAJ (v:=enc (decide (((c1).toNat:Int)≥192))) rfl rfl rfl<|ZAX rfl cg1 rfl<|ZAA ?_
    rw[←oi hb_b];exact⟨hs,FxR rfl⟩
   rintro φ s ⟨hs,hF⟩;rw[←hF.eq];refine ZAA ?_
   split at h
   ·rename_i c';refine ZAH rfl c'<|ZAB<|ZAC<|ZAG (v:=enc (65533:Int)) rfl<|ZAG (v:=enc (1:Int)) rfl<|ZAG (v:=enc false) rfl<|ZAA<|ZAP ?_
    show if _ then _ else _
    rw[if_neg (by simp)]
    rw[←oi h];exact⟨_,rfl,rfl,⟨FxR rfl,hs⟩⟩
   rename_i c';refine ZAI rfl c'<|ZAN<|ZAC<|ZAE rfl<|ZAJ (v:=enc (IntKind.i64.wrap (x1*64))) rfl rfl rfl<|ZAE rfl<|ZAJ (v:=enc (IntKind.i64.wrap ((IntKind.i64.wrap (x1*64))+((c1).toNat:Int)))) rfl rfl rfl<|ZAJ (v:=enc (IntKind.i64.wrap ((IntKind.i64.wrap ((IntKind.i64.wrap (x1*64))+((c1).toNat:Int))) - 128))) rfl rfl rfl<|ZAG rfl<|ZAA<|ZAC<|ZAE rfl<|ZAJ (v:=enc (IntKind.i64.wrap (i+1))) rfl rfl rfl<|ZAG rfl<|ZAA ?_
   rw[←oi h];exact⟨_,rfl,⟨FxR rfl,hs⟩⟩
  rename_i c';refine ZAI rfl c'<|ZAh ?_
  rw[←oi h];exact⟨_,rfl,rfl,⟨FxR rfl,hs⟩⟩
 intro e φ s hE;rcases o with x2 | ⟨v,v1,v2⟩
 ·obtain⟨rfl,hF,hs⟩:=hE;rw[←hF.eq];rw[ZE4] at h;show if _ then _ else _
  rw[if_pos rfl];refine ZAB<|ZAB<|ZAC<|ZAE rfl<|ZAE rfl<|ZAJ (v:=enc (decide (x2<least))) rfl rfl rfl<|ZAE rfl ?_
  obtain⟨b1,hb_b1,h⟩:=bs h;refine ZAR 3 (fun φ s=>Hp s [(.gl (NG mx))]∧Fx φ [(6,(enc n)),(7,(enc x2)),(75,(enc b1))]) ?_ ?_
  ·split at hb_b1
   ·rename_i cg2;refine ZAD rfl rfl (by simpa using cg2)<|ZAD rfl rfl (by simpa using cg2)<|ZAY (v:=enc true) rfl cg2 rfl<|ZAA ?_
    rw[←oi hb_b1];exact⟨hs,FxR rfl⟩
   rename_i cg3;refine ZAF rfl rfl (by simpa using cg3)<|ZAE rfl<|ZAF rfl rfl (by simpa using cg3)<|ZAJ (v:=enc (decide (x2 > 1114111))) rfl rfl rfl<|ZAX rfl cg3 rfl<|ZAA ?_
   rw[←oi hb_b1];exact⟨hs,FxR rfl⟩
  rintro φ s ⟨hs,hF⟩;rw[←hF.eq];refine ZAE rfl ?_
  obtain⟨b2,hb_b2,h⟩:=bs h;refine ZAR 7 (fun φ s=>Hp s [(.gl (NG mx))]∧Fx φ [(6,(enc n)),(7,(enc x2)),(83,(enc b2))]) ?_ ?_
  ·split at hb_b2
   ·rename_i cg4;refine ZAD rfl rfl (by simpa using cg4)<|ZAD rfl rfl (by simpa using cg4)<|ZAD rfl rfl (by simpa using cg4)<|ZAM rfl rfl<|ZAM rfl rfl<|ZAD rfl rfl (by simpa using cg4)<|ZAY (v:=enc true) rfl cg4 rfl<|ZAA ?_
    rw[←oi hb_b2];exact⟨hs,FxR rfl⟩
   rename_i cg5;refine ZAF rfl rfl (by simpa using cg5)<|ZAE rfl<|ZAF rfl rfl (by simpa using cg5)<|ZAJ (v:=enc (decide (x2≥55296))) rfl rfl rfl<|ZAF rfl rfl (by simpa using cg5)<|ZAE rfl ?_
   obtain⟨b3,hb_b3,hb_b2⟩:=bs hb_b2;refine ZAR 3 (fun φ s=>Hp s [(.gl (NG mx))]∧Fx φ [(6,(enc n)),(7,(enc x2)),(76,(enc b1)),(82,(enc b3))]) ?_ ?_
   ·split at hb_b3
    ·rename_i cg6;refine ZAF rfl rfl cg6<|ZAE rfl<|ZAF rfl rfl cg6<|ZAJ (v:=enc (decide (x2<57344))) rfl rfl rfl<|ZAF rfl rfl (by simpa using cg5)<|ZAY rfl cg6 rfl<|ZAA ?_
     rw[←oi hb_b3];exact⟨hs,FxR rfl⟩
    rename_i cg7;refine ZAD rfl rfl cg7<|ZAD rfl rfl cg7<|ZAF rfl rfl (by simpa using cg5)<|ZAX (v:=enc false) rfl cg7 rfl<|ZAA ?_
    rw[←oi hb_b3];exact⟨hs,FxR rfl⟩
   rintro φ s ⟨hs,hF⟩;rw[←hF.eq];refine ZAX rfl cg5 rfl<|ZAA ?_
   rw[←oi hb_b2];exact⟨hs,FxR rfl⟩
  rintro φ s ⟨hs,hF⟩;rw[←hF.eq];refine ZAA ?_
  split at h
  ·rename_i c';refine ZAH rfl c'<|ZAB<|ZAC<|ZAG (v:=enc (65533:Int)) rfl<|ZAG (v:=enc (1:Int)) rfl<|ZAG (v:=enc false) rfl<|ZAA<|ZAP ?_
   rw[←oi h];exact⟨rfl,KE3 (a1:=(65533:Int)) (a2:=(1:Int)) (a3:=(false:Bool)) rfl rfl rfl rfl (rfl:is _ (65533:Int)) (rfl:is _ (1:Int)) (rfl:is _ (false:Bool)) ⟨_,_,_,rfl,(rfl:is _ (65533:Int)),(rfl:is _ (1:Int)),(rfl:is _ (false:Bool))⟩⟩
  rename_i c';refine ZAI rfl c'<|ZAN<|ZAB<|ZAC<|ZAE rfl<|ZAE rfl<|ZAG rfl<|ZAG rfl<|ZAG (v:=enc true) rfl<|ZAA<|ZAP ?_
  rw[←oi h];exact⟨rfl,KE3 (a1:=x2) (a2:=n) (a3:=(true:Bool)) rfl rfl rfl rfl (rfl:is _ x2) (rfl:is _ n) (rfl:is _ (true:Bool)) ⟨_,_,_,rfl,(rfl:is _ x2),(rfl:is _ n),(rfl:is _ (true:Bool))⟩⟩
 obtain⟨rfl,hF,hs⟩:=hE;rw[←hF.eq];rw[ZE4] at h;show if _ then _ else _
 rw[if_neg (by simp)]
 rw[←oi h];exact⟨rfl,KE3 (a1:=v) (a2:=v1) (a3:=v2) rfl rfl rfl rfl (rfl:is _ v) (rfl:is _ v1) (rfl:is _ v2) ⟨_,_,_,rfl,(rfl:is _ v),(rfl:is _ v1),(rfl:is _ v2)⟩⟩
theorem ZM3 (mx:Int):ZAq Tryz.prog 39 (FnG (NG mx) (fun a:Str×Unit=>ZDe a.1)):=fnCG (ZTA mx) ⟨_,func39,rfl⟩<|fun a r h=>ZM2 mx a.1 r h
noncomputable def pt6 (mx:Int):Prims:=(pt5 mx).addG 39 (FnG (NG mx) (fun a:Str×Unit=>ZDe a.1))
theorem ZTB (mx:Int):ZAW Tryz.prog (pt6 mx):=ZAS (ZTA mx) (ZM3 mx)
theorem ZKU (mx:Int) (s_:Str) (r:Int) (h:ZBP s_=some r):MF Tryz.prog (pt6 mx) 20 [enc s_] (sG (NG mx)) fun v _=>ris v r:=by
 refine ZAj [(0,enc s_)] func20 rfl (by simp only[Tryz.f20];rfl) fun ψ=> ?_
 unfold ZBP at h;have hs:Hp (sG (NG mx)) [.gl (NG mx)]:=Hp.gl0
 refine ZAB<|ZAC<|ZAG (v:=enc (0:Int)) rfl<|ZAA<|ZAB<|ZAB<|ZAC<|ZAE rfl<|ZAJ (v:=enc ((eqS s_ (str [])):Bool)) rfl rfl rfl<|ZAA ?_
 split at h
 ·rename_i c';refine ZAH rfl c'<|ZAB<|ZAC<|ZAG (v:=enc (206:Int)) rfl<|ZAA<|ZAP ?_
  rw[←oi h];exact⟨rfl,KE1 (a:=(206:Int)) rfl rfl (rfl:is _ (206:Int)) (rfl:is _ (206:Int))⟩
 rename_i c';refine ZAI rfl c'<|ZAN<|ZAB<|ZAB<|ZAC<|ZAE rfl<|ZF7 underlying9 rfl rfl<|ZAJ (v:=enc (decide (((List.length s_:Nat):Int) > 100))) rfl rfl rfl<|ZAA ?_
 split at h
 ·rename_i c';refine ZAH rfl c'<|ZAB<|ZAC<|ZAG (v:=enc (208:Int)) rfl<|ZAA<|ZAP ?_
  rw[←oi h];exact⟨rfl,KE1 (a:=(208:Int)) rfl rfl (rfl:is _ (208:Int)) (rfl:is _ (208:Int))⟩
 rename_i c';refine ZAI rfl c'<|ZAN<|ZAB<|ZAB<|ZAC<|ZAE rfl<|ZAJ (v:=enc ((eqS s_ (str [46])):Bool)) rfl rfl rfl<|ZAE rfl ?_
 obtain⟨b,hb_b,h⟩:=bs h;refine ZAR 3 (fun φ s=>Hp s [(.gl (NG mx))]∧Fx φ [(0,(enc s_)),(17,(enc b))]) ?_ ?_
 ·split at hb_b
  ·rename_i cg;refine ZAD rfl rfl (by simpa using cg)<|ZAD rfl rfl (by simpa using cg)<|ZAY (v:=enc true) rfl cg rfl<|ZAA ?_
   rw[←oi hb_b];exact⟨hs,FxR rfl⟩
  rename_i cg1;refine ZAF rfl rfl (by simpa using cg1)<|ZAE rfl<|ZAF rfl rfl (by simpa using cg1)<|ZAJ (v:=enc ((eqS s_ (str [46,46])):Bool)) rfl rfl rfl<|ZAX rfl cg1 rfl<|ZAA ?_
  rw[←oi hb_b];exact⟨hs,FxR rfl⟩
 rintro φ s ⟨hs,hF⟩;rw[←hF.eq];refine ZAA ?_
 split at h
 ·rename_i c';refine ZAH rfl c'<|ZAB<|ZAC<|ZAG (v:=enc (206:Int)) rfl<|ZAA<|ZAP ?_
  rw[←oi h];exact⟨rfl,KE1 (a:=(206:Int)) rfl rfl (rfl:is _ (206:Int)) (rfl:is _ (206:Int))⟩
 rename_i c';refine ZAI rfl c'<|ZAN<|ZAB<|ZAB<|ZAC<|ZAG (v:=enc (0:Int)) rfl<|ZAA<|ZAQ ?_
 obtain⟨o,hl,h⟩:=bs h;refine ZAk (fun(p:Int) φ s=>match p with | i=>Fx φ [(0,(enc s_)),(3,(enc i))]∧Hp s [(.gl (NG mx))]) (fun(o:(Unit ⊕ Int)) e φ s=>match o with | (.inl _)=>e= .exit 0∧Fx φ []∧Hp s [(.gl (NG mx))] | (.inr v)=>e= .ret∧Fx φ [(2,(enc v))]∧Hp s [(.gl (NG mx))]) ?_ hl ⟨FxR rfl,hs⟩ ?_
 ·rintro i o h φ s ⟨hF,hs⟩;rw[←hF.eq];rw[ZCi] at h;refine ZAB<|ZAB<|ZAC<|ZAE rfl<|ZAE rfl<|ZF7 underlying9 rfl rfl<|ZAJ (v:=enc (decide (i<((List.length s_:Nat):Int)))) rfl rfl rfl<|ZAA ?_
  split at h
  ·rename_i c';refine ZAH rfl c'<|ZAN<|ZAQ<|ZAB<|ZAC<|ZAE rfl<|ZAE rfl ?_
   obtain⟨t,hx,h⟩:=bs h;refine ZNj underlying9 rfl rfl hx ?_
   obtain⟨r_,hx1,h⟩:=bs h;refine ZAa (f:=fun a:Str×Unit=>ZDe a.1) (a:=(t,())) rfl func39 rfl rfl (.cons (a:=t) (Enc.self _) .nil) hs List.mem_cons_self hx1<|ZAE (v:=res r_) rfl<|ZA1 rfl rfl<|ZA1 rfl rfl<|ZA1 rfl rfl<|ZAG rfl<|ZAG rfl<|ZAG rfl<|ZAA<|ZAB<|ZAB<|ZAC<|ZAE rfl<|ZBU (v:=enc (!r_.2.2)) rfl rfl<|ZAE rfl ?_
   obtain⟨b1,hb_b1,h⟩:=bs h;refine ZAR 3 (fun φ s=>Hp s [(.gl (NG mx))]∧Fx φ [(0,(enc s_)),(3,(enc i)),(4,(enc r_.1)),(5,(enc r_.2.1)),(35,(enc b1))]) ?_ ?_
   ·split at hb_b1
    ·rename_i cg2;refine ZAD rfl rfl (by simpa using cg2)<|ZAD rfl rfl (by simpa using cg2)<|ZAY (v:=enc true) rfl cg2 rfl<|ZAA ?_
     rw[←oi hb_b1];exact⟨hs,FxR rfl⟩
    rename_i cg3;refine ZAF rfl rfl (by simpa using cg3)<|ZAE rfl<|ZAF rfl rfl (by simpa using cg3)<|ZAJ (v:=enc (r_.1==47)) rfl rfl rfl<|ZAX rfl cg3 rfl<|ZAA ?_
    rw[←oi hb_b1];exact⟨hs,FxR rfl⟩
   rintro φ s ⟨hs,hF⟩;rw[←hF.eq];refine ZAE rfl ?_
   obtain⟨b2,hb_b2,h⟩:=bs h;refine ZAR 3 (fun φ s=>Hp s [(.gl (NG mx))]∧Fx φ [(0,(enc s_)),(3,(enc i)),(5,(enc r_.2.1)),(39,(enc b2))]) ?_ ?_
   ·split at hb_b2
    ·rename_i cg4;refine ZAD rfl rfl (by simpa using cg4)<|ZAD rfl rfl (by simpa using cg4)<|ZAY (v:=enc true) rfl cg4 rfl<|ZAA ?_
     rw[←oi hb_b2];exact⟨hs,FxR rfl⟩
    rename_i cg5;refine ZAF rfl rfl (by simpa using cg5)<|ZAE rfl<|ZAF rfl rfl (by simpa using cg5)<|ZAJ (v:=enc (r_.1==0)) rfl rfl rfl<|ZAX rfl cg5 rfl<|ZAA ?_
    rw[←oi hb_b2];exact⟨hs,FxR rfl⟩
   rintro φ s ⟨hs,hF⟩;rw[←hF.eq];refine ZAA ?_
   split at h
   ·rename_i c';refine ZAH rfl c'<|ZAB<|ZAC<|ZAG (v:=enc (206:Int)) rfl<|ZAA<|ZAP ?_
    show if _ then _ else _
    rw[if_neg (by simp)]
    rw[←oi h];exact⟨_,rfl,rfl,⟨FxR rfl,hs⟩⟩
   rename_i c';refine ZAI rfl c'<|ZAN<|ZAC<|ZAE rfl<|ZAE rfl<|ZAJ (v:=enc (IntKind.i64.wrap (i+r_.2.1))) rfl rfl rfl<|ZAG rfl<|ZAA ?_
   rw[←oi h];exact⟨_,rfl,⟨FxR rfl,hs⟩⟩
  rename_i c';refine ZAI rfl c'<|ZAh ?_
  rw[←oi h];exact⟨_,rfl,rfl,⟨trivial,hs⟩⟩
 intro e φ s hE;rcases o with _u | v
 ·obtain⟨rfl,hF,hs⟩:=hE;rw[←hF.eq];rw[ZDf] at h;show if _ then _ else _
  rw[if_pos rfl];refine ZAB<|ZAC<|ZAG (v:=enc (0:Int)) rfl<|ZAA<|ZAP ?_
  rw[←oi h];exact⟨rfl,KE1 (a:=(0:Int)) rfl rfl (rfl:is _ (0:Int)) (rfl:is _ (0:Int))⟩
 obtain⟨rfl,hF,hs⟩:=hE;rw[←hF.eq];rw[ZDf] at h;show if _ then _ else _
 rw[if_neg (by simp)]
 rw[←oi h];exact⟨rfl,KE1 (a:=v) rfl rfl (rfl:is _ v) (rfl:is _ v)⟩
theorem ZKV (mx:Int):ZAq Tryz.prog 20 (FnG (NG mx) (fun a:Str×Unit=>ZBP a.1)):=fnCG (ZTB mx) ⟨_,func20,rfl⟩<|fun a r h=>ZKU mx a.1 r h
noncomputable def pt7 (mx:Int):Prims:=(pt6 mx).addG 20 (FnG (NG mx) (fun a:Str×Unit=>ZBP a.1))
theorem ZTC (mx:Int):ZAW Tryz.prog (pt7 mx):=ZAS (ZTB mx) (ZKV mx)
theorem ZKW (mx:Int) (n:Int) (low:Int) (high:Int) (r:Bool) (h:ZAi n low high=some r):MF Tryz.prog (pt7 mx) 102 [enc n,enc low,enc high] (sG (NG mx)) fun v _=>ris v r:=by
 refine ZAj [(0,enc n),(1,enc low),(2,enc high)] func102 rfl (by simp only[Tryz.f102];rfl) fun ψ=> ?_
 unfold ZAi at h;have hs:Hp (sG (NG mx)) [.gl (NG mx)]:=Hp.gl0
 refine ZAB<|ZAC<|ZAG (v:=enc false) rfl<|ZAA<|ZAB<|ZAC<|ZAE rfl<|ZAE rfl<|ZAJ (v:=enc (decide (n≥low))) rfl rfl rfl<|ZAE rfl ?_
 obtain⟨b,hb_b,h⟩:=bs h;refine ZAR 4 (fun φ s=>Hp s [(.gl (NG mx))]∧Fx φ [(14,(enc b))]) ?_ ?_
 ·split at hb_b
  ·rename_i cg;refine ZAF rfl rfl cg<|ZAE rfl<|ZAF rfl rfl cg<|ZAE rfl<|ZAF rfl rfl cg<|ZAJ (v:=enc (decide (n≤high))) rfl rfl rfl<|ZAY rfl cg rfl<|ZAA ?_
   rw[←oi hb_b];exact⟨hs,FxR rfl⟩
  rename_i cg1;refine ZAD rfl rfl cg1<|ZAD rfl rfl cg1<|ZAD rfl rfl cg1<|ZAX (v:=enc false) rfl cg1 rfl<|ZAA ?_
  rw[←oi hb_b];exact⟨hs,FxR rfl⟩
 rintro φ s ⟨hs,hF⟩;rw[←hF.eq];refine ZAG rfl<|ZAA<|ZAP ?_
 rw[←oi h];exact⟨rfl,KE1 (a:=b) rfl rfl (rfl:is _ b) (rfl:is _ b)⟩
theorem ZKX (mx:Int):ZAq Tryz.prog 102 (FnG (NG mx) (fun a:Int×Int×Int×Unit=>ZAi a.1 a.2.1 a.2.2.1)):=fnCG (ZTC mx) ⟨_,func102,rfl⟩<|fun a r h=>ZKW mx a.1 a.2.1 a.2.2.1 r h
noncomputable def pt8 (mx:Int):Prims:=(pt7 mx).addG 102 (FnG (NG mx) (fun a:Int×Int×Int×Unit=>ZAi a.1 a.2.1 a.2.2.1))
theorem ZTD (mx:Int):ZAW Tryz.prog (pt8 mx):=ZAS (ZTC mx) (ZKX mx)
theorem ZLx (mx:Int) (s_:Str) (r:Bool) (h:ZDP s_=some r):MF Tryz.prog (pt8 mx) 103 [enc s_] (sG (NG mx)) fun v _=>ris v r:=by
 refine ZAj [(0,enc s_)] func103 rfl (by simp only[Tryz.f103];rfl) fun ψ=> ?_
 unfold ZDP at h;have hs:Hp (sG (NG mx)) [.gl (NG mx)]:=Hp.gl0
 refine ZAB<|ZAC<|ZAG (v:=enc false) rfl<|ZAA<|ZAB<|ZAB<|ZAC<|ZAG (v:=enc (0:Int)) rfl<|ZAA<|ZAQ ?_
 obtain⟨o,hl,h⟩:=bs h;refine ZAk (fun(p:Int) φ s=>match p with | i=>Fx φ [(0,(enc s_)),(3,(enc i))]∧Hp s [(.gl (NG mx))]) (fun(o:(Unit ⊕ Bool)) e φ s=>match o with | (.inl _)=>e= .exit 0∧Fx φ []∧Hp s [(.gl (NG mx))] | (.inr v)=>e= .ret∧Fx φ [(2,(enc v))]∧Hp s [(.gl (NG mx))]) ?_ hl ⟨FxR rfl,hs⟩ ?_
 ·rintro i o h φ s ⟨hF,hs⟩;rw[←hF.eq];rw[ZEF] at h;refine ZAB<|ZAB<|ZAC<|ZAE rfl<|ZAE rfl<|ZF7 underlying9 rfl rfl<|ZAJ (v:=enc (decide (i<((List.length s_:Nat):Int)))) rfl rfl rfl<|ZAA ?_
  split at h
  ·rename_i c';refine ZAH rfl c'<|ZAN<|ZAB<|ZAQ<|ZAB<|ZAC<|ZAE rfl<|ZAE rfl ?_
   obtain⟨c,hx,h⟩:=bs h;refine ZGr underlying9 rfl rfl hx<|ZAJ (v:=enc ((((c).toNat:Int)==0):Bool)) rfl rfl rfl<|ZAA ?_
   split at h
   ·rename_i c';refine ZAH rfl c'<|ZAB<|ZAC<|ZAG (v:=enc false) rfl<|ZAA<|ZAP ?_
    show if _ then _ else _
    rw[if_neg (by simp)]
    rw[←oi h];exact⟨_,rfl,rfl,⟨FxR rfl,hs⟩⟩
   rename_i c';refine ZAI rfl c'<|ZAN<|ZAC<|ZAE rfl<|ZAJ (v:=enc (IntKind.i64.wrap (i+1))) rfl rfl rfl<|ZAG rfl<|ZAA ?_
   rw[←oi h];exact⟨_,rfl,⟨FxR rfl,hs⟩⟩
  rename_i c';refine ZAI rfl c'<|ZAh ?_
  rw[←oi h];exact⟨_,rfl,rfl,⟨trivial,hs⟩⟩
 intro e φ s hE;rcases o with _u | v
 ·obtain⟨rfl,hF,hs⟩:=hE;rw[←hF.eq];rw[ZFj] at h;show if _ then _ else _
  rw[if_pos rfl];refine ZAB<|ZAC<|ZAG (v:=enc true) rfl<|ZAA<|ZAP ?_
  rw[←oi h];exact⟨rfl,KE1 (a:=(true:Bool)) rfl rfl (rfl:is _ (true:Bool)) (rfl:is _ (true:Bool))⟩
 obtain⟨rfl,hF,hs⟩:=hE;rw[←hF.eq];rw[ZFj] at h;show if _ then _ else _
 rw[if_neg (by simp)]
 rw[←oi h];exact⟨rfl,KE1 (a:=v) rfl rfl (rfl:is _ v) (rfl:is _ v)⟩
theorem ZLy (mx:Int):ZAq Tryz.prog 103 (FnG (NG mx) (fun a:Str×Unit=>ZDP a.1)):=fnCG (ZTD mx) ⟨_,func103,rfl⟩<|fun a r h=>ZLx mx a.1 r h
noncomputable def pt9 (mx:Int):Prims:=(pt8 mx).addG 103 (FnG (NG mx) (fun a:Str×Unit=>ZDP a.1))
theorem ZTE (mx:Int):ZAW Tryz.prog (pt9 mx):=ZAS (ZTD mx) (ZLy mx)
theorem ZLz (mx:Int) (c:UInt8) (r:Int) (h:ZDQ c=some r):MF Tryz.prog (pt9 mx) 146 [enc c] (sG (NG mx)) fun v _=>ris v r:=by
 refine ZAj [(0,enc c)] func146 rfl (by simp only[Tryz.f146];rfl) fun ψ=> ?_
 unfold ZDQ at h;have hs:Hp (sG (NG mx)) [.gl (NG mx)]:=Hp.gl0
 refine ZAB<|ZAC<|ZAG (v:=enc (0:Int)) rfl<|ZAA<|ZAB<|ZAB<|ZAC<|ZAG (v:=enc (0:Int)) rfl<|ZAA<|ZAQ ?_
 obtain⟨o,hl,h⟩:=bs h;refine ZAk (fun(p:Int) φ s=>match p with | i=>Fx φ [(0,(enc c)),(3,(enc i))]∧Hp s [(.gl (NG mx))]) (fun(o:(Unit ⊕ Int)) e φ s=>match o with | (.inl _)=>e= .exit 0∧Fx φ []∧Hp s [(.gl (NG mx))] | (.inr v)=>e= .ret∧Fx φ [(2,(enc v))]∧Hp s [(.gl (NG mx))]) ?_ hl ⟨FxR rfl,hs⟩ ?_
 ·rintro i o h φ s ⟨hF,hs⟩;rw[←hF.eq];rw[ZHn] at h;refine ZAB<|ZAB<|ZAC<|ZAE rfl<|ZAJ (v:=enc (decide (i<16))) rfl rfl rfl<|ZAA ?_
  split at h
  ·rename_i c';refine ZAH rfl c'<|ZAN<|ZAB<|ZAQ<|ZAB<|ZAC<|ZAE rfl ?_
   obtain⟨c1,hx,h⟩:=bs h;refine ZGr underlying9 rfl rfl hx<|ZAE rfl<|ZAJ (v:=enc ((((c1).toNat:Int)==((c).toNat:Int)):Bool)) rfl rfl rfl<|ZAA ?_
   split at h
   ·rename_i c';refine ZAH rfl c'<|ZAB<|ZAC<|ZAE rfl<|ZAG rfl<|ZAA<|ZAP ?_
    show if _ then _ else _
    rw[if_neg (by simp)]
    rw[←oi h];exact⟨_,rfl,rfl,⟨FxR rfl,hs⟩⟩
   rename_i c';refine ZAI rfl c'<|ZAN<|ZAC<|ZAE rfl<|ZAJ (v:=enc (IntKind.i64.wrap (i+1))) rfl rfl rfl<|ZAG rfl<|ZAA ?_
   rw[←oi h];exact⟨_,rfl,⟨FxR rfl,hs⟩⟩
  rename_i c';refine ZAI rfl c'<|ZAh ?_
  rw[←oi h];exact⟨_,rfl,rfl,⟨trivial,hs⟩⟩
 intro e φ s hE;rcases o with _u | v
 ·obtain⟨rfl,hF,hs⟩:=hE;rw[←hF.eq];rw[ZFk] at h;show if _ then _ else _
  rw[if_pos rfl];refine ZAB<|ZAC<|ZAG (v:=enc ((-1):Int)) rfl<|ZAA<|ZAP ?_
  rw[←oi h];exact⟨rfl,KE1 (a:=((-1):Int)) rfl rfl (rfl:is _ ((-1):Int)) (rfl:is _ ((-1):Int))⟩
 obtain⟨rfl,hF,hs⟩:=hE;rw[←hF.eq];rw[ZFk] at h;show if _ then _ else _
 rw[if_neg (by simp)]
 rw[←oi h];exact⟨rfl,KE1 (a:=v) rfl rfl (rfl:is _ v) (rfl:is _ v)⟩
theorem ZL0 (mx:Int):ZAq Tryz.prog 146 (FnG (NG mx) (fun a:UInt8×Unit=>ZDQ a.1)):=fnCG (ZTE mx) ⟨_,func146,rfl⟩<|fun a r h=>ZLz mx a.1 r h
noncomputable def pt10 (mx:Int):Prims:=(pt9 mx).addG 146 (FnG (NG mx) (fun a:UInt8×Unit=>ZDQ a.1))
theorem ZQM (mx:Int):ZAW Tryz.prog (pt10 mx):=ZAS (ZTE mx) (ZL0 mx)
theorem ZKY (mx:Int) (k:Str) (r:(List UInt8)×Int) (h:ZDn k=some r):MF Tryz.prog (pt10 mx) 135 [enc k] (sG (NG mx)) fun v _=>ris v r:=by
 refine ZAj [(0,enc k)] func135 rfl (by simp only[Tryz.f135];rfl) fun ψ=> ?_
 unfold ZDn at h;have hs:Hp (sG (NG mx)) [.gl (NG mx)]:=Hp.gl0
 refine ZAB<|ZAC<|ZAG (v:= .nils) rfl<|ZAG (v:=enc (0:Int)) rfl<|ZAA<|ZAB<|ZAB<|ZAC<|ZAE rfl<|ZF7 underlying148 rfl rfl<|ZAJ (v:=enc ((((List.length k:Nat):Int) !=64):Bool)) rfl rfl rfl<|ZAA ?_
 split at h
 ·rename_i c';refine ZAH rfl c'<|ZAB<|ZAC<|ZAG (v:= .nils) rfl<|ZAG (v:=enc (70:Int)) rfl<|ZAA<|ZAP ?_
  rw[←oi h];exact⟨rfl,KE2 (a1:=([]:(List UInt8))) (a2:=(70:Int)) rfl rfl rfl isL.nil (rfl:is _ (70:Int)) ⟨_,_,rfl,isL.nil,(rfl:is _ (70:Int))⟩⟩
 rename_i c';refine ZAI rfl c'<|ZAN<|ZAB<|ZAC<|ZAG (v:= .nils) rfl<|ZAA<|ZAB<|ZAB<|ZAC<|ZAG (v:=enc (0:Int)) rfl<|ZAA<|ZAQ ?_
 obtain⟨o,hl,h⟩:=bs h;refine ZAk (fun(p:((List UInt8)×Int)) φ s=>match p with | (b,i)=>∃(x_b:AV),is x_b b∧ZBf x_b=true∧Fx φ [(0,(enc k)),(4,x_b),(5,(enc i))]∧Hp s [(.gl (NG mx)), .own x_b]) (fun(o:((List UInt8) ⊕ ((List UInt8)×Int))) e φ s=>match o with | (.inl b1)=>e= .exit 0∧∃(x_b1:AV),is x_b1 b1∧ZBf x_b1=true∧Fx φ [(4,x_b1)]∧Hp s [(.gl (NG mx)), .own x_b1] | (.inr (v,v1))=>e= .ret∧∃(x_v:AV),is x_v v∧Fx φ [(2,x_v),(3,(enc v1))]∧Hp s [(.gl (NG mx))]) ?_ hl ⟨.nils,isL.nil,rfl,FxR rfl,(Hp.front [.own .nils] (b:=[]) (Hp.front [] (b:=[(.gl (NG mx))]) (Hp.add hs rfl)))⟩ ?_
 ·rintro⟨b,i⟩ o h φ s ⟨x_b,h_b,h_bc,hF,hs⟩;rw[←hF.eq];rw[ZG6] at h;refine ZAB<|ZAB<|ZAC<|ZAE rfl<|ZAJ (v:=enc (decide (i<64))) rfl rfl rfl<|ZAA ?_
  split at h
  ·rename_i c';refine ZAH rfl c'<|ZAN<|ZAB<|ZAQ<|ZAB<|ZB3 (by decide+kernel) (by kernel_rfl)<|ZAE rfl<|ZAE rfl ?_
   obtain⟨c,hx,h⟩:=bs h;refine ZGr underlying148 rfl rfl hx ?_
   obtain⟨r_,hx1,h⟩:=bs h;refine ZAa (f:=fun a:UInt8×Unit=>ZDQ a.1) (a:=(c,())) rfl func146 rfl rfl (.cons (a:=c) (Enc.self _) .nil) hs List.mem_cons_self hx1<|ZAE rfl<|ZAE rfl<|ZAJ (v:=enc (IntKind.i64.wrap (i+1))) rfl rfl rfl ?_
   obtain⟨c1,hx2,h⟩:=bs h;refine ZGr underlying148 rfl rfl hx2 ?_
   obtain⟨r_1,hx3,h⟩:=bs h;refine ZAa (f:=fun a:UInt8×Unit=>ZDQ a.1) (a:=(c1,())) rfl func146 rfl rfl (.cons (a:=c1) (Enc.self _) .nil) hs List.mem_cons_self hx3<|ZAG rfl<|ZAG rfl<|ZAA<|ZAB<|ZAB<|ZAC<|ZAE rfl<|ZAJ (v:=enc (decide (r_<0))) rfl rfl rfl<|ZAE rfl ?_
   obtain⟨b2,hb_b2,h⟩:=bs h;refine ZAR 3 (fun φ s=>Hp s [(.gl (NG mx)), .own x_b]∧Fx φ [(0,(enc k)),(4,x_b),(5,(enc i)),(6,(enc r_)),(7,(enc r_1)),(29,(enc b2))]) ?_ ?_
   ·split at hb_b2
    ·rename_i cg;refine ZAD rfl rfl (by simpa using cg)<|ZAD rfl rfl (by simpa using cg)<|ZAY (v:=enc true) rfl cg rfl<|ZAA ?_
     rw[←oi hb_b2];exact⟨hs,FxR rfl⟩
    rename_i cg1;refine ZAF rfl rfl (by simpa using cg1)<|ZAE rfl<|ZAF rfl rfl (by simpa using cg1)<|ZAJ (v:=enc (decide (r_1<0))) rfl rfl rfl<|ZAX rfl cg1 rfl<|ZAA ?_
    rw[←oi hb_b2];exact⟨hs,FxR rfl⟩
   rintro φ s ⟨hs,hF⟩;rw[←hF.eq];refine ZAA ?_
   split at h
   ·rename_i c';refine ZAH rfl c'<|ZAB<|ZAC<|ZAG (v:= .nils) rfl<|ZAG (v:=enc (70:Int)) rfl<|ZAA<|ZAP ?_
    show if _ then _ else _
    rw[if_neg (by simp)]
    rw[←oi h];exact⟨_,rfl,rfl,⟨.nils,isL.nil,FxR rfl,(Hp.drop [(.gl (NG mx))] (b:=[]) hs)⟩⟩
   rename_i c';refine ZAI rfl c'<|ZAN<|ZAC<|ZAE (v:=x_b) rfl<|ZAE rfl<|ZAJ (v:=enc (IntKind.i64.wrap (16*r_))) rfl rfl rfl<|ZAE rfl<|ZAJ (v:=enc (IntKind.i64.wrap ((IntKind.i64.wrap (16*r_))+r_1))) rfl rfl rfl<|ZMh underlying3 underlying5 rfl<|ZEM [(enc ((UInt8.ofInt (IntKind.i64.wrap ((IntKind.i64.wrap (16*r_))+r_1))):UInt8))] ([(UInt8.ofInt (IntKind.i64.wrap ((IntKind.i64.wrap (16*r_))+r_1)))]:(List UInt8)) underlying42 ef5 rfl rfl rfl (Nat.le_of_ble_eq_true rfl) ⟨(rfl:is _ ((UInt8.ofInt (IntKind.i64.wrap ((IntKind.i64.wrap (16*r_))+r_1))):UInt8)),trivial⟩ fun z hz hzc hzn=> ?_
   obtain⟨l,hx4,h⟩:=bs h;refine ZPf [(.gl (NG mx))] (es2:=[]) underlying42 underlying42 rfl rfl ef5 rfl rfl h_b h_bc hs hz hx4 fun z1 s hz1 hz1c hs=>ZAG (v:=z1) rfl<|ZAA<|ZAC<|ZAE rfl<|ZAJ (v:=enc (IntKind.i64.wrap (i+2))) rfl rfl rfl<|ZAG rfl<|ZAA ?_
   rw[←oi h];exact⟨_,rfl,⟨z1,hz1,hz1c,FxR rfl,hs⟩⟩
  rename_i c';refine ZAI rfl c'<|ZAh ?_
  rw[←oi h];exact⟨_,rfl,rfl,⟨x_b,h_b,h_bc,FxR rfl,hs⟩⟩
 intro e φ s hE;rcases o with b1 | ⟨v,v1⟩
 ·obtain⟨rfl,x_b1,h_b1,h_b1c,hF,hs⟩:=hE;rw[←hF.eq];rw[ZE5] at h;show if _ then _ else _
  rw[if_pos rfl];refine ZAB<|ZAC<|ZAE (v:=x_b1) rfl<|ZAG (v:=x_b1) rfl<|ZAG (v:=enc (0:Int)) rfl<|ZAA<|ZAP ?_
  rw[←oi h];exact⟨rfl,KE2 (a1:=b1) (a2:=(0:Int)) rfl rfl rfl h_b1 (rfl:is _ (0:Int)) ⟨_,_,rfl,h_b1,(rfl:is _ (0:Int))⟩⟩
 obtain⟨rfl,x_v,h_v,hF,hs⟩:=hE;rw[←hF.eq];rw[ZE5] at h;show if _ then _ else _
 rw[if_neg (by simp)]
 rw[←oi h];exact⟨rfl,KE2 (a1:=v) (a2:=v1) rfl rfl rfl h_v (rfl:is _ v1) ⟨_,_,rfl,h_v,(rfl:is _ v1)⟩⟩
theorem ZKZ (mx:Int):ZAq Tryz.prog 135 (FnG (NG mx) (fun a:Str×Unit=>ZDn a.1)):=fnCG (ZQM mx) ⟨_,func135,rfl⟩<|fun a r h=>ZKY mx a.1 r h
noncomputable def pt11 (mx:Int):Prims:=(pt10 mx).addG 135 (FnG (NG mx) (fun a:Str×Unit=>ZDn a.1))
theorem ZQN (mx:Int):ZAW Tryz.prog (pt11 mx):=ZAS (ZQM mx) (ZKZ mx)
theorem ZKa (mx:Int) (k:Str) (r:Bool) (h:ZDo k=some r):MF Tryz.prog (pt11 mx) 122 [enc k] (sG (NG mx)) fun v _=>ris v r:=by
 refine ZAj [(0,enc k)] func122 rfl (by simp only[Tryz.f122];rfl) fun ψ=> ?_
 unfold ZDo at h;have hs:Hp (sG (NG mx)) [.gl (NG mx)]:=Hp.gl0
 refine ZAB<|ZAC<|ZAG (v:=enc false) rfl<|ZAA<|ZAB<|ZAC<|ZAE rfl ?_
 obtain⟨r_,hx,h⟩:=bs h;refine ZAa (f:=fun a:Str×Unit=>ZDn a.1) (a:=(k,())) rfl func135 rfl rfl (.cons (a:=k) (Enc.self _) .nil) hs List.mem_cons_self hx<|ZAE (v:=res r_) rfl<|ZA1 rfl rfl<|ZA1 rfl rfl<|ZAG rfl<|ZAG rfl<|ZAA<|ZAB<|ZAC<|ZAE rfl<|ZAJ (v:=enc (r_.2==0)) rfl rfl rfl<|ZAG rfl<|ZAA<|ZAP ?_
 rw[←oi h];exact⟨rfl,KE1 (a:=((r_.2==0):Bool)) rfl rfl (rfl:is _ ((r_.2==0):Bool)) (rfl:is _ ((r_.2==0):Bool))⟩
theorem ZKb (mx:Int):ZAq Tryz.prog 122 (FnG (NG mx) (fun a:Str×Unit=>ZDo a.1)):=fnCG (ZQN mx) ⟨_,func122,rfl⟩<|fun a r h=>ZKa mx a.1 r h
noncomputable def pt12 (mx:Int):Prims:=(pt11 mx).addG 122 (FnG (NG mx) (fun a:Str×Unit=>ZDo a.1))
theorem ZQO (mx:Int):ZAW Tryz.prog (pt12 mx):=ZAS (ZQN mx) (ZKb mx)
theorem ZM4 (mx:Int) (l:(List RefR)) (r:Int×Bool) (h:ZDg l=some r):MF Tryz.prog (pt12 mx) 104 [enc l] (sG (NG mx)) fun v _=>ris v r:=by
 refine ZAj [(0,enc l)] func104 rfl (by simp only[Tryz.f104];rfl) fun ψ=> ?_
 unfold ZDg at h;have hs:Hp (sG (NG mx)) [.gl (NG mx)]:=Hp.gl0
 refine ZAB<|ZAC<|ZAG (v:=enc (0:Int)) rfl<|ZAG (v:=enc false) rfl<|ZAA<|ZAB<|ZAB<|ZAC<|ZAE rfl<|ZAo underlying118 rfl rfl (Enc.self l)<|ZAJ (v:=enc (decide ((l.length:Int) > 128))) rfl rfl rfl<|ZAA ?_
 split at h
 ·rename_i c';refine ZAH rfl c'<|ZAB<|ZAC<|ZAG (v:=enc (0:Int)) rfl<|ZAG (v:=enc false) rfl<|ZAA<|ZAP ?_
  rw[←oi h];exact⟨rfl,KE2 (a1:=(0:Int)) (a2:=(false:Bool)) rfl rfl rfl (rfl:is _ (0:Int)) (rfl:is _ (false:Bool)) ⟨_,_,rfl,(rfl:is _ (0:Int)),(rfl:is _ (false:Bool))⟩⟩
 rename_i c';refine ZAI rfl c'<|ZAN<|ZAB<|ZAC<|ZAG (v:=enc (0:Int)) rfl<|ZAA<|ZAB<|ZAB<|ZAC<|ZAG (v:=enc (0:Int)) rfl<|ZAA<|ZAQ ?_
 obtain⟨o,hl,h⟩:=bs h;refine ZAk (fun(p:(Int×Int)) φ s=>match p with | (n,i)=>Fx φ [(0,(enc (l:(List RefR)))),(4,(enc n)),(5,(enc i))]∧Hp s [(.gl (NG mx))]) (fun(o:(Int ⊕ (Int×Bool))) e φ s=>match o with | (.inl n1)=>e= .exit 0∧Fx φ [(4,(enc n1))]∧Hp s [(.gl (NG mx))] | (.inr (v,v1))=>e= .ret∧Fx φ [(2,(enc v)),(3,(enc v1))]∧Hp s [(.gl (NG mx))]) ?_ hl ⟨FxR rfl,hs⟩ ?_
 ·rintro⟨n,i⟩ o h φ s ⟨hF,hs⟩;rw[←hF.eq];rw[ZI6] at h;refine ZAB<|ZAB<|ZAC<|ZAE rfl<|ZAE rfl<|ZAo underlying118 rfl rfl (Enc.self l)<|ZAJ (v:=enc (decide (i<(l.length:Int)))) rfl rfl rfl<|ZAA ?_
  split at h
  ·rename_i c';refine ZAH rfl c'<|ZAN<|ZAB<|ZAQ<|ZAB<|ZAC<|ZAE rfl<|ZAE rfl ?_
   obtain⟨v2,hx,h⟩:=bs h;refine ZAu underlying118 ZTe rfl rfl (Enc.self l) hx fun p hp=>ZDz ZRZ ZMi rfl hp fun y hy=>ZBR (r:=(Rec.mk ((str []),(0:Int),(0:Int),(0:Int),()):RefR)) ZTw ZOm hs fun m s hs=>ZBC (r:=v2) ZMi rfl rfl ZOm hy hs fun xs s hxs hs=>ZAA<|ZAB<|ZAC<|ZAT ZKD rfl<|ZAK ZRY Sz rfl hxs hs fun y1 hy1=> ?_
   cases hy1;obtain⟨r_,hx1,h⟩:=bs h;refine ZAa (f:=fun a:Str×Unit=>ZDo a.1) (a:=(v2.v.1,())) rfl func122 rfl rfl (.cons (a:=v2.v.1) (Enc.self _) .nil) hs (lM _ List.mem_cons_self) hx1<|ZAE rfl ?_
   obtain⟨b,hb_b,h⟩:=bs h;refine ZAR 4 (fun φ s=>Hp s [(.cells m xs),(.gl (NG mx))]∧Fx φ [(0,(enc (l:(List RefR)))),(4,(enc n)),(5,(enc i)),(6,(.ptr m 0)),(29,(enc b))]) ?_ ?_
   ·split at hb_b
    ·rename_i cg;refine ZAF rfl rfl cg<|ZAT ZMu rfl<|ZAF rfl rfl cg<|ZAK ag3 (Ss Sz) rfl hxs hs fun y2 hy2=> ?_
     cases hy2;refine ZAF rfl rfl cg<|ZAJ (v:=enc (v2.v.2.1==0)) rfl rfl rfl<|ZAY rfl cg rfl<|ZAA ?_
     rw[←oi hb_b];exact⟨hs,FxR rfl⟩
    rename_i cg1;refine ZAD rfl rfl cg1<|ZAD rfl rfl cg1<|ZAD rfl rfl cg1<|ZAX (v:=enc false) rfl cg1 rfl<|ZAA ?_
    rw[←oi hb_b];exact⟨hs,FxR rfl⟩
   rintro φ s ⟨hs,hF⟩;rw[←hF.eq];refine ZAE rfl ?_
   obtain⟨b1,hb_b1,h⟩:=bs h;refine ZAR 4 (fun φ s=>Hp s [(.cells m xs),(.gl (NG mx))]∧Fx φ [(0,(enc (l:(List RefR)))),(4,(enc n)),(5,(enc i)),(6,(.ptr m 0)),(34,(enc b1))]) ?_ ?_
   ·split at hb_b1
    ·rename_i cg2;refine ZAF rfl rfl cg2<|ZAT ZMv rfl<|ZAF rfl rfl cg2<|ZAK ag3 (Ss (Ss Sz)) rfl hxs hs fun y3 hy3=> ?_
     cases hy3;refine ZAF rfl rfl cg2<|ZAJ (v:=enc (v2.v.2.2.1==0)) rfl rfl rfl<|ZAY rfl cg2 rfl<|ZAA ?_
     rw[←oi hb_b1];exact⟨hs,FxR rfl⟩
    rename_i cg3;refine ZAD rfl rfl cg3<|ZAD rfl rfl cg3<|ZAD rfl rfl cg3<|ZAX (v:=enc false) rfl cg3 rfl<|ZAA ?_
    rw[←oi hb_b1];exact⟨hs,FxR rfl⟩
   rintro φ s ⟨hs,hF⟩;rw[←hF.eq];refine ZAE rfl ?_
   obtain⟨b2,hb_b2,h⟩:=bs h;refine ZAR 4 (fun φ s=>Hp s [(.cells m xs),(.gl (NG mx))]∧Fx φ [(0,(enc (l:(List RefR)))),(4,(enc n)),(5,(enc i)),(6,(.ptr m 0)),(39,(enc b2))]) ?_ ?_
   ·split at hb_b2
    ·rename_i cg4;refine ZAF rfl rfl cg4<|ZAT ZIq rfl<|ZAF rfl rfl cg4<|ZAK ag3 (Ss (Ss (Ss Sz))) rfl hxs hs fun y4 hy4=> ?_
     cases hy4;refine ZAF rfl rfl cg4 ?_
     obtain⟨r_1,hx2,hb_b2⟩:=bs hb_b2;refine ZAa (f:=fun a:Int×Int×Int×Unit=>ZAi a.1 a.2.1 a.2.2.1) (a:=(v2.v.2.2.2.1,1,2048,())) rfl func102 rfl rfl (.cons (a:=v2.v.2.2.2.1) (Enc.self _) (.cons (a:=(1:Int)) (rfl:is _ (1:Int)) (.cons (a:=(2048:Int)) (rfl:is _ (2048:Int)) .nil))) hs (lM _ List.mem_cons_self) hx2<|ZAY rfl cg4 rfl<|ZAA ?_
     rw[←oi hb_b2];exact⟨hs,FxR rfl⟩
    rename_i cg5;refine ZAD rfl rfl cg5<|ZAD rfl rfl cg5<|ZAD rfl rfl cg5<|ZAX (v:=enc false) rfl cg5 rfl<|ZAA ?_
    rw[←oi hb_b2];exact⟨hs,FxR rfl⟩
   rintro φ s ⟨hs,hF⟩;rw[←hF.eq];refine ZAG rfl<|ZAA<|ZAB<|ZAC<|ZAT ZKD rfl<|ZAK ZRY Sz rfl hxs hs fun y5 hy5=> ?_
   cases hy5;refine ZAJ (v:=enc ((eqS v2.v.1 (str [])):Bool)) rfl rfl rfl<|ZAE rfl ?_
   obtain⟨b3,hb_b3,h⟩:=bs h;refine ZAR 4 (fun φ s=>Hp s [(.cells m xs),(.gl (NG mx))]∧Fx φ [(0,(enc (l:(List RefR)))),(4,(enc n)),(5,(enc i)),(6,(.ptr m 0)),(7,(enc b2)),(47,(enc b3))]) ?_ ?_
   ·split at hb_b3
    ·rename_i cg6;refine ZAF rfl rfl cg6<|ZAT ZMu rfl<|ZAF rfl rfl cg6<|ZAK ag3 (Ss Sz) rfl hxs hs fun y6 hy6=> ?_
     cases hy6;refine ZAF rfl rfl cg6 ?_
     obtain⟨r_2,hx3,hb_b3⟩:=bs hb_b3;refine ZAa (f:=fun a:Int×Int×Int×Unit=>ZAi a.1 a.2.1 a.2.2.1) (a:=(v2.v.2.1,1,512,())) rfl func102 rfl rfl (.cons (a:=v2.v.2.1) (Enc.self _) (.cons (a:=(1:Int)) (rfl:is _ (1:Int)) (.cons (a:=(512:Int)) (rfl:is _ (512:Int)) .nil))) hs (lM _ List.mem_cons_self) hx3<|ZAY rfl cg6 rfl<|ZAA ?_
     rw[←oi hb_b3];exact⟨hs,FxR rfl⟩
    rename_i cg7;refine ZAD rfl rfl cg7<|ZAD rfl rfl cg7<|ZAD rfl rfl cg7<|ZAX (v:=enc false) rfl cg7 rfl<|ZAA ?_
    rw[←oi hb_b3];exact⟨hs,FxR rfl⟩
   rintro φ s ⟨hs,hF⟩;rw[←hF.eq];refine ZAE rfl ?_
   obtain⟨b4,hb_b4,h⟩:=bs h;refine ZAR 4 (fun φ s=>Hp s [(.cells m xs),(.gl (NG mx))]∧Fx φ [(0,(enc (l:(List RefR)))),(4,(enc n)),(5,(enc i)),(6,(.ptr m 0)),(7,(enc b2)),(52,(enc b4))]) ?_ ?_
   ·split at hb_b4
    ·rename_i cg8;refine ZAF rfl rfl cg8<|ZAT ZMv rfl<|ZAF rfl rfl cg8<|ZAK ag3 (Ss (Ss Sz)) rfl hxs hs fun y7 hy7=> ?_
     cases hy7;refine ZAF rfl rfl cg8 ?_
     obtain⟨r_3,hx4,hb_b4⟩:=bs hb_b4;refine ZAa (f:=fun a:Int×Int×Int×Unit=>ZAi a.1 a.2.1 a.2.2.1) (a:=(v2.v.2.2.1,0,32768,())) rfl func102 rfl rfl (.cons (a:=v2.v.2.2.1) (Enc.self _) (.cons (a:=(0:Int)) (rfl:is _ (0:Int)) (.cons (a:=(32768:Int)) (rfl:is _ (32768:Int)) .nil))) hs (lM _ List.mem_cons_self) hx4<|ZAY rfl cg8 rfl<|ZAA ?_
     rw[←oi hb_b4];exact⟨hs,FxR rfl⟩
    rename_i cg9;refine ZAD rfl rfl cg9<|ZAD rfl rfl cg9<|ZAD rfl rfl cg9<|ZAX (v:=enc false) rfl cg9 rfl<|ZAA ?_
    rw[←oi hb_b4];exact⟨hs,FxR rfl⟩
   rintro φ s ⟨hs,hF⟩;rw[←hF.eq];refine ZAE rfl ?_
   obtain⟨b5,hb_b5,h⟩:=bs h;refine ZAR 4 (fun φ s=>Hp s [(.cells m xs),(.gl (NG mx))]∧Fx φ [(0,(enc (l:(List RefR)))),(4,(enc n)),(5,(enc i)),(6,(.ptr m 0)),(7,(enc b2)),(57,(enc b5))]) ?_ ?_
   ·split at hb_b5
    ·rename_i cg10;refine ZAF rfl rfl cg10<|ZAT ZIq rfl<|ZAF rfl rfl cg10<|ZAK ag3 (Ss (Ss (Ss Sz))) rfl hxs hs fun y8 hy8=> ?_
     cases hy8;refine ZAF rfl rfl cg10 ?_
     obtain⟨r_4,hx5,hb_b5⟩:=bs hb_b5;refine ZAa (f:=fun a:Int×Int×Int×Unit=>ZAi a.1 a.2.1 a.2.2.1) (a:=(v2.v.2.2.2.1,1,32768,())) rfl func102 rfl rfl (.cons (a:=v2.v.2.2.2.1) (Enc.self _) (.cons (a:=(1:Int)) (rfl:is _ (1:Int)) (.cons (a:=(32768:Int)) (rfl:is _ (32768:Int)) .nil))) hs (lM _ List.mem_cons_self) hx5<|ZAY rfl cg10 rfl<|ZAA ?_
     rw[←oi hb_b5];exact⟨hs,FxR rfl⟩
    rename_i cg11;refine ZAD rfl rfl cg11<|ZAD rfl rfl cg11<|ZAD rfl rfl cg11<|ZAX (v:=enc false) rfl cg11 rfl<|ZAA ?_
    rw[←oi hb_b5];exact⟨hs,FxR rfl⟩
   rintro φ s ⟨hs,hF⟩;rw[←hF.eq];refine ZAG rfl<|ZAA<|ZAB<|ZAB<|ZAC<|ZAE rfl<|ZBU (v:=enc (!b2)) rfl rfl<|ZAE rfl ?_
   obtain⟨b6,hb_b6,h⟩:=bs h;refine ZAR 3 (fun φ s=>Hp s [(.cells m xs),(.gl (NG mx))]∧Fx φ [(0,(enc (l:(List RefR)))),(4,(enc n)),(5,(enc i)),(6,(.ptr m 0)),(63,(enc b6))]) ?_ ?_
   ·split at hb_b6
    ·rename_i cg12;refine ZAF rfl rfl cg12<|ZAE rfl<|ZAF rfl rfl cg12<|ZBU (v:=enc (!b5)) rfl rfl<|ZAY rfl cg12 rfl<|ZAA ?_
     rw[←oi hb_b6];exact⟨hs,FxR rfl⟩
    rename_i cg13;refine ZAD rfl rfl cg13<|ZAD rfl rfl cg13<|ZAX (v:=enc false) rfl cg13 rfl<|ZAA ?_
    rw[←oi hb_b6];exact⟨hs,FxR rfl⟩
   rintro φ s ⟨hs,hF⟩;rw[←hF.eq];refine ZAA ?_
   split at h
   ·rename_i c';refine ZAH rfl c'<|ZAB<|ZAC<|ZAG (v:=enc (0:Int)) rfl<|ZAG (v:=enc false) rfl<|ZAA<|ZAP ?_
    show if _ then _ else _
    rw[if_neg (by simp)]
    rw[←oi h];exact⟨_,rfl,rfl,⟨FxR rfl,(Hp.drop [] (b:=[(.gl (NG mx))]) hs)⟩⟩
   rename_i c';refine ZAI rfl c'<|ZAN<|ZAC<|ZAE rfl<|ZAT ZIq rfl<|ZAK ag3 (Ss (Ss (Ss Sz))) rfl hxs hs fun y9 hy9=> ?_
   cases hy9;refine ZAJ (v:=enc (IntKind.i64.wrap (n+v2.v.2.2.2.1))) rfl rfl rfl<|ZAG rfl<|ZAA<|ZAC<|ZAE rfl<|ZAJ (v:=enc (IntKind.i64.wrap (i+1))) rfl rfl rfl<|ZAG rfl<|ZAA ?_
   rw[←oi h];exact⟨_,rfl,⟨FxR rfl,(Hp.drop [] (b:=[(.gl (NG mx))]) hs)⟩⟩
  rename_i c';refine ZAI rfl c'<|ZAh ?_
  rw[←oi h];exact⟨_,rfl,rfl,⟨FxR rfl,hs⟩⟩
 intro e φ s hE;rcases o with n1 | ⟨v,v1⟩
 ·obtain⟨rfl,hF,hs⟩:=hE;rw[←hF.eq];rw[ZGY] at h;show if _ then _ else _
  rw[if_pos rfl];refine ZAB<|ZAC<|ZAE rfl<|ZAG rfl<|ZAG (v:=enc true) rfl<|ZAA<|ZAP ?_
  rw[←oi h];exact⟨rfl,KE2 (a1:=n1) (a2:=(true:Bool)) rfl rfl rfl (rfl:is _ n1) (rfl:is _ (true:Bool)) ⟨_,_,rfl,(rfl:is _ n1),(rfl:is _ (true:Bool))⟩⟩
 obtain⟨rfl,hF,hs⟩:=hE;rw[←hF.eq];rw[ZGY] at h;show if _ then _ else _
 rw[if_neg (by simp)]
 rw[←oi h];exact⟨rfl,KE2 (a1:=v) (a2:=v1) rfl rfl rfl (rfl:is _ v) (rfl:is _ v1) ⟨_,_,rfl,(rfl:is _ v),(rfl:is _ v1)⟩⟩
theorem ZM5 (mx:Int):ZAq Tryz.prog 104 (FnG (NG mx) (fun a:(List RefR)×Unit=>ZDg a.1)):=fnCG (ZQO mx) ⟨_,func104,rfl⟩<|fun a r h=>ZM4 mx a.1 r h
noncomputable def pt13 (mx:Int):Prims:=(pt12 mx).addG 104 (FnG (NG mx) (fun a:(List RefR)×Unit=>ZDg a.1))
theorem ZQP (mx:Int):ZAW Tryz.prog (pt13 mx):=ZAS (ZQO mx) (ZM5 mx)
theorem ZKc (mx:Int) (l:(List Str)) (r:Bool) (h:ZBa l=some r):MF Tryz.prog (pt13 mx) 105 [enc l] (sG (NG mx)) fun v _=>ris v r:=by
 refine ZAj [(0,enc l)] func105 rfl (by simp only[Tryz.f105];rfl) fun ψ=> ?_
 unfold ZBa at h;have hs:Hp (sG (NG mx)) [.gl (NG mx)]:=Hp.gl0
 refine ZAB<|ZAC<|ZAG (v:=enc false) rfl<|ZAA<|ZAB<|ZAB<|ZAC<|ZAG (v:=enc (0:Int)) rfl<|ZAA<|ZAQ ?_
 obtain⟨o,hl,h⟩:=bs h;refine ZAk (fun(p:Int) φ s=>match p with | i=>Fx φ [(0,(enc (l:(List Str)))),(3,(enc i))]∧Hp s [(.gl (NG mx))]) (fun(o:(Unit ⊕ Bool)) e φ s=>match o with | (.inl _)=>e= .exit 0∧Fx φ []∧Hp s [(.gl (NG mx))] | (.inr v)=>e= .ret∧Fx φ [(2,(enc v))]∧Hp s [(.gl (NG mx))]) ?_ hl ⟨FxR rfl,hs⟩ ?_
 ·rintro i o h φ s ⟨hF,hs⟩;rw[←hF.eq];rw[ZE6] at h;refine ZAB<|ZAB<|ZAC<|ZAE rfl<|ZAE rfl<|ZAo underlying43 rfl rfl (Enc.self l)<|ZAJ (v:=enc (decide (i<(l.length:Int)))) rfl rfl rfl<|ZAA ?_
  split at h
  ·rename_i c';refine ZAH rfl c'<|ZAN<|ZAB<|ZAQ<|ZAB<|ZB3 (by decide+kernel) (by kernel_rfl)<|ZAE rfl<|ZAE rfl ?_
   obtain⟨v1,hx,h⟩:=bs h;refine ZAu underlying43 sh9 rfl rfl (Enc.self l) hx fun p hp=>ZCI rfl ag9 rfl hp fun y hy=> ?_
   cases hy;obtain⟨r_,hx1,h⟩:=bs h;refine ZAa (f:=fun a:Str×Unit=>ZBP a.1) (a:=(v1,())) rfl func20 rfl rfl (.cons (a:=v1) (Enc.self _) .nil) hs List.mem_cons_self hx1<|ZAJ (v:=enc (r_ !=0)) rfl rfl rfl<|ZAE rfl ?_
   obtain⟨b,hb_b,h⟩:=bs h;refine ZAR 15 (fun φ s=>Hp s [(.gl (NG mx))]∧Fx φ [(0,(enc (l:(List Str)))),(3,(enc i)),(31,(enc b))]) ?_ ?_
   ·split at hb_b
    ·rename_i cg;refine ZAD rfl rfl (by simpa using cg)<|ZAD rfl rfl (by simpa using cg)<|ZAD rfl rfl (by simpa using cg)<|ZAM rfl rfl<|ZAM rfl rfl<|ZAM rfl rfl<|ZAM rfl rfl<|ZAM rfl rfl<|ZAM rfl rfl<|ZAM rfl rfl<|ZAM rfl rfl<|ZAM rfl rfl<|ZAM rfl rfl<|ZAD rfl rfl (by simpa using cg)<|ZAY (v:=enc true) rfl cg rfl ?_
     refine ZAA ?_
     rw[←oi hb_b];exact⟨hs,FxR rfl⟩
    rename_i cg1;refine ZAF rfl rfl (by simpa using cg1)<|ZAE rfl<|ZAF rfl rfl (by simpa using cg1)<|ZAJ (v:=enc (decide (i > 0))) rfl rfl rfl<|ZAF rfl rfl (by simpa using cg1)<|ZAE rfl ?_
    obtain⟨b1,hb_b1,hb_b⟩:=bs hb_b;refine ZAR 11 (fun φ s=>Hp s [(.gl (NG mx))]∧Fx φ [(0,(enc (l:(List Str)))),(3,(enc i)),(16,(enc (r_ !=0))),(30,(enc b1))]) ?_ ?_
    ·split at hb_b1
     ·rename_i cg2;refine ZAF rfl rfl cg2<|ZAE rfl<|ZAF rfl rfl cg2<|ZAE rfl<|ZAF rfl rfl cg2 ?_
      obtain⟨v2,hx2,hb_b1⟩:=bs hb_b1;refine ZAu underlying43 sh9 rfl rfl (Enc.self l) hx2 fun p1 hp1=>ZAF rfl rfl cg2<|ZCI rfl ag9 rfl hp1 fun y1 hy1=> ?_
      cases hy1;refine ZAF rfl rfl cg2<|ZAE rfl<|ZAF rfl rfl cg2<|ZAE rfl<|ZAF rfl rfl cg2<|ZAJ (v:=enc (IntKind.i64.wrap (i - 1))) rfl rfl rfl<|ZAF rfl rfl cg2 ?_
      obtain⟨v3,hx3,hb_b1⟩:=bs hb_b1;refine ZAu underlying43 sh9 rfl rfl (Enc.self l) hx3 fun p2 hp2=>ZAF rfl rfl cg2<|ZCI rfl ag9 rfl hp2 fun y2 hy2=> ?_
      cases hy2;refine ZAF rfl rfl cg2<|ZAJ (v:=enc ((ltS v2 v3 || eqS v2 v3):Bool)) rfl rfl rfl<|ZAF rfl rfl (by simpa using cg1)<|ZAY rfl cg2 rfl<|ZAA ?_
      rw[←oi hb_b1];exact⟨hs,FxR rfl⟩
     rename_i cg3;refine ZAD rfl rfl cg3<|ZAD rfl rfl cg3<|ZAD rfl rfl cg3<|ZAD rfl rfl cg3<|ZAD rfl rfl cg3<|ZAD rfl rfl cg3<|ZAD rfl rfl cg3<|ZAD rfl rfl cg3<|ZAD rfl rfl cg3<|ZAD rfl rfl cg3<|ZAF rfl rfl (by simpa using cg1)<|ZAX (v:=enc false) rfl cg3 rfl<|ZAA ?_
     rw[←oi hb_b1];exact⟨hs,FxR rfl⟩
    rintro φ s ⟨hs,hF⟩;rw[←hF.eq];refine ZAX rfl cg1 rfl<|ZAA ?_
    rw[←oi hb_b];exact⟨hs,FxR rfl⟩
   rintro φ s ⟨hs,hF⟩;rw[←hF.eq];refine ZAA ?_
   split at h
   ·rename_i c';refine ZAH rfl c'<|ZAB<|ZAC<|ZAG (v:=enc false) rfl<|ZAA<|ZAP ?_
    show if _ then _ else _
    rw[if_neg (by simp)]
    rw[←oi h];exact⟨_,rfl,rfl,⟨FxR rfl,hs⟩⟩
   rename_i c';refine ZAI rfl c'<|ZAN<|ZAC<|ZAE rfl<|ZAJ (v:=enc (IntKind.i64.wrap (i+1))) rfl rfl rfl<|ZAG rfl<|ZAA ?_
   rw[←oi h];exact⟨_,rfl,⟨FxR rfl,hs⟩⟩
  rename_i c';refine ZAI rfl c'<|ZAh ?_
  rw[←oi h];exact⟨_,rfl,rfl,⟨trivial,hs⟩⟩
 intro e φ s hE;rcases o with _u | v
 ·obtain⟨rfl,hF,hs⟩:=hE;rw[←hF.eq];rw[ZE7] at h;show if _ then _ else _
  rw[if_pos rfl];refine ZAB<|ZAC<|ZAG (v:=enc true) rfl<|ZAA<|ZAP ?_
  rw[←oi h];exact⟨rfl,KE1 (a:=(true:Bool)) rfl rfl (rfl:is _ (true:Bool)) (rfl:is _ (true:Bool))⟩
 obtain⟨rfl,hF,hs⟩:=hE;rw[←hF.eq];rw[ZE7] at h;show if _ then _ else _
 rw[if_neg (by simp)]
 rw[←oi h];exact⟨rfl,KE1 (a:=v) rfl rfl (rfl:is _ v) (rfl:is _ v)⟩
theorem ZKd (mx:Int):ZAq Tryz.prog 105 (FnG (NG mx) (fun a:(List Str)×Unit=>ZBa a.1)):=fnCG (ZQP mx) ⟨_,func105,rfl⟩<|fun a r h=>ZKc mx a.1 r h
noncomputable def pt14 (mx:Int):Prims:=(pt13 mx).addG 105 (FnG (NG mx) (fun a:(List Str)×Unit=>ZBa a.1))
theorem ZQQ (mx:Int):ZAW Tryz.prog (pt14 mx):=ZAS (ZQP mx) (ZKd mx)
theorem ZM6 (mx:Int) (m:ZBV) (r:Bool) (h:ZEG m=some r):MF Tryz.prog (pt14 mx) 84 [enc m] (sG (NG mx)) fun v _=>ris v r:=by
 refine ZAj [(0,enc m)] func84 rfl (by simp only[Tryz.f84];rfl) fun ψ=> ?_
 unfold ZEG at h;have hs:Hp (sG (NG mx)) [.gl (NG mx)]:=Hp.gl0
 refine ZAB<|ZAC<|ZBF (r:=m) rfl (Enc.self m) hs fun m1 xs s hxs hs=>ZAG (v:=enc false) rfl<|ZAA<|ZAB<|ZAB<|ZAC<|ZAT ZFW rfl<|ZAK ag41 Sz rfl hxs hs fun y hy=> ?_
 cases hy;obtain⟨r_,hx,h⟩:=bs h;refine ZAa (f:=fun a:Int×Int×Int×Unit=>ZAi a.1 a.2.1 a.2.2.1) (a:=(m.v.1,1,3,())) rfl func102 rfl rfl (.cons (a:=m.v.1) (Enc.self _) (.cons (a:=(1:Int)) (rfl:is _ (1:Int)) (.cons (a:=(3:Int)) (rfl:is _ (3:Int)) .nil))) hs (lM _ List.mem_cons_self) hx<|ZBU (v:=enc (!r_)) rfl rfl<|ZAE rfl ?_
 obtain⟨b,hb_b,h⟩:=bs h;refine ZAR 5 (fun φ s=>Hp s [(.cells m1 xs),(.gl (NG mx))]∧Fx φ [(1,(.ptr m1 0)),(16,(enc b))]) ?_ ?_
 ·split at hb_b
  ·rename_i cg;refine ZAD rfl rfl (by simpa using cg)<|ZAD rfl rfl (by simpa using cg)<|ZAD rfl rfl (by simpa using cg)<|ZAD rfl rfl (by simpa using cg)<|ZAY (v:=enc true) rfl cg rfl<|ZAA ?_
   rw[←oi hb_b];exact⟨hs,FxR rfl⟩
  rename_i cg1;refine ZAF rfl rfl (by simpa using cg1)<|ZAT ZKB rfl<|ZAF rfl rfl (by simpa using cg1)<|ZAK ag3 (Ss Sz) rfl hxs hs fun y1 hy1=> ?_
  cases hy1;refine ZAF rfl rfl (by simpa using cg1) ?_
  obtain⟨r_1,hx1,hb_b⟩:=bs hb_b;refine ZAa (f:=fun a:Int×Int×Int×Unit=>ZAi a.1 a.2.1 a.2.2.1) (a:=(m.v.2.1,0,4095,())) rfl func102 rfl rfl (.cons (a:=m.v.2.1) (Enc.self _) (.cons (a:=(0:Int)) (rfl:is _ (0:Int)) (.cons (a:=(4095:Int)) (rfl:is _ (4095:Int)) .nil))) hs (lM _ List.mem_cons_self) hx1<|ZAF rfl rfl (by simpa using cg1)<|ZBU (v:=enc (!r_1)) rfl rfl<|ZAX rfl cg1 rfl<|ZAA ?_
  rw[←oi hb_b];exact⟨hs,FxR rfl⟩
 rintro φ s ⟨hs,hF⟩;rw[←hF.eq];refine ZAE rfl ?_
 obtain⟨b1,hb_b1,h⟩:=bs h;refine ZAR 5 (fun φ s=>Hp s [(.cells m1 xs),(.gl (NG mx))]∧Fx φ [(1,(.ptr m1 0)),(22,(enc b1))]) ?_ ?_
 ·split at hb_b1
  ·rename_i cg2;refine ZAD rfl rfl (by simpa using cg2)<|ZAD rfl rfl (by simpa using cg2)<|ZAD rfl rfl (by simpa using cg2)<|ZAD rfl rfl (by simpa using cg2)<|ZAY (v:=enc true) rfl cg2 rfl<|ZAA ?_
   rw[←oi hb_b1];exact⟨hs,FxR rfl⟩
  rename_i cg3;refine ZAF rfl rfl (by simpa using cg3)<|ZAT ZKC rfl<|ZAF rfl rfl (by simpa using cg3)<|ZAK ag3 (Ss (Ss Sz)) rfl hxs hs fun y2 hy2=> ?_
  cases hy2;refine ZAF rfl rfl (by simpa using cg3) ?_
  obtain⟨r_2,hx2,hb_b1⟩:=bs hb_b1;refine ZAa (f:=fun a:Int×Int×Int×Unit=>ZAi a.1 a.2.1 a.2.2.1) (a:=(m.v.2.2.1,0,64,())) rfl func102 rfl rfl (.cons (a:=m.v.2.2.1) (Enc.self _) (.cons (a:=(0:Int)) (rfl:is _ (0:Int)) (.cons (a:=(64:Int)) (rfl:is _ (64:Int)) .nil))) hs (lM _ List.mem_cons_self) hx2<|ZAF rfl rfl (by simpa using cg3)<|ZBU (v:=enc (!r_2)) rfl rfl<|ZAX rfl cg3 rfl<|ZAA ?_
  rw[←oi hb_b1];exact⟨hs,FxR rfl⟩
 rintro φ s ⟨hs,hF⟩;rw[←hF.eq];refine ZAE rfl ?_
 obtain⟨b2,hb_b2,h⟩:=bs h;refine ZAR 5 (fun φ s=>Hp s [(.cells m1 xs),(.gl (NG mx))]∧Fx φ [(1,(.ptr m1 0)),(28,(enc b2))]) ?_ ?_
 ·split at hb_b2
  ·rename_i cg4;refine ZAD rfl rfl (by simpa using cg4)<|ZAD rfl rfl (by simpa using cg4)<|ZAD rfl rfl (by simpa using cg4)<|ZAD rfl rfl (by simpa using cg4)<|ZAY (v:=enc true) rfl cg4 rfl<|ZAA ?_
   rw[←oi hb_b2];exact⟨hs,FxR rfl⟩
  rename_i cg5;refine ZAF rfl rfl (by simpa using cg5)<|ZAT ZFX rfl<|ZAF rfl rfl (by simpa using cg5)<|ZAK ag3 (Ss (Ss (Ss Sz))) rfl hxs hs fun y3 hy3=> ?_
  cases hy3;refine ZAF rfl rfl (by simpa using cg5) ?_
  obtain⟨r_3,hx3,hb_b2⟩:=bs hb_b2;refine ZAa (f:=fun a:Int×Int×Int×Unit=>ZAi a.1 a.2.1 a.2.2.1) (a:=(m.v.2.2.2.1,0,32768,())) rfl func102 rfl rfl (.cons (a:=m.v.2.2.2.1) (Enc.self _) (.cons (a:=(0:Int)) (rfl:is _ (0:Int)) (.cons (a:=(32768:Int)) (rfl:is _ (32768:Int)) .nil))) hs (lM _ List.mem_cons_self) hx3<|ZAF rfl rfl (by simpa using cg5)<|ZBU (v:=enc (!r_3)) rfl rfl<|ZAX rfl cg5 rfl<|ZAA ?_
  rw[←oi hb_b2];exact⟨hs,FxR rfl⟩
 rintro φ s ⟨hs,hF⟩;rw[←hF.eq];refine ZAE rfl ?_
 obtain⟨b3,hb_b3,h⟩:=bs h;refine ZAR 5 (fun φ s=>Hp s [(.cells m1 xs),(.gl (NG mx))]∧Fx φ [(1,(.ptr m1 0)),(34,(enc b3))]) ?_ ?_
 ·split at hb_b3
  ·rename_i cg6;refine ZAD rfl rfl (by simpa using cg6)<|ZAD rfl rfl (by simpa using cg6)<|ZAD rfl rfl (by simpa using cg6)<|ZAD rfl rfl (by simpa using cg6)<|ZAY (v:=enc true) rfl cg6 rfl<|ZAA ?_
   rw[←oi hb_b3];exact⟨hs,FxR rfl⟩
  rename_i cg7;refine ZAF rfl rfl (by simpa using cg7)<|ZAT ZGS rfl<|ZAF rfl rfl (by simpa using cg7)<|ZAK ag45 (Ss (Ss (Ss (Ss (Ss Sz))))) rfl hxs hs fun y4 hy4=>ZAF rfl rfl (by simpa using cg7)<|ZAo underlying45 rfl rfl hy4<|ZAF rfl rfl (by simpa using cg7)<|ZAJ (v:=enc (decide ((m.v.2.2.2.2.2.1.length:Int) > 8))) rfl rfl rfl<|ZAX rfl cg7 rfl<|ZAA ?_
  rw[←oi hb_b3];exact⟨hs,FxR rfl⟩
 rintro φ s ⟨hs,hF⟩;rw[←hF.eq];refine ZAA ?_
 split at h
 ·rename_i c';refine ZAH rfl c'<|ZAB<|ZAC<|ZAG (v:=enc false) rfl<|ZAA<|ZAP ?_
  rw[←oi h];exact⟨rfl,KE1 (a:=(false:Bool)) rfl rfl (rfl:is _ (false:Bool)) (rfl:is _ (false:Bool))⟩
 rename_i c';refine ZAI rfl c'<|ZAN<|ZAB<|ZAB<|ZAC<|ZAT ZFW rfl<|ZAK ag41 Sz rfl hxs hs fun y5 hy5=> ?_
 cases hy5;refine ZAJ (v:=enc (m.v.1==3)) rfl rfl rfl<|ZAE rfl ?_
 obtain⟨b4,hb_b4,h⟩:=bs h;refine ZAR 12 (fun φ s=>Hp s [(.cells m1 xs),(.gl (NG mx))]∧Fx φ [(1,(.ptr m1 0)),(50,(enc b4))]) ?_ ?_
 ·split at hb_b4
  ·rename_i cg8;refine ZAF rfl rfl cg8<|ZAT ZFY rfl<|ZAF rfl rfl cg8<|ZAK ag9 (Ss (Ss (Ss (Ss Sz)))) rfl hxs hs fun y6 hy6=> ?_
   cases hy6;refine ZAF rfl rfl cg8<|ZF7 underlying9 rfl rfl<|ZAF rfl rfl cg8 ?_
   obtain⟨r_4,hx4,hb_b4⟩:=bs hb_b4;refine ZAa (f:=fun a:Int×Int×Int×Unit=>ZAi a.1 a.2.1 a.2.2.1) (a:=(((List.length m.v.2.2.2.2.1:Nat):Int),1,1000,())) rfl func102 rfl rfl (.cons (a:=(((List.length m.v.2.2.2.2.1:Nat):Int):Int)) (Enc.self _) (.cons (a:=(1:Int)) (rfl:is _ (1:Int)) (.cons (a:=(1000:Int)) (rfl:is _ (1000:Int)) .nil))) hs (lM _ List.mem_cons_self) hx4<|ZAF rfl rfl cg8<|ZBU (v:=enc (!r_4)) rfl rfl<|ZAF rfl rfl cg8<|ZAE rfl ?_
   obtain⟨b5,hb_b5,hb_b4⟩:=bs hb_b4;refine ZAR 5 (fun φ s=>Hp s [(.cells m1 xs),(.gl (NG mx))]∧Fx φ [(1,(.ptr m1 0)),(38,(enc (m.v.1==3))),(49,(enc b5))]) ?_ ?_
   ·split at hb_b5
    ·rename_i cg9;refine ZAD rfl rfl (by simpa using cg9)<|ZAD rfl rfl (by simpa using cg9)<|ZAD rfl rfl (by simpa using cg9)<|ZAD rfl rfl (by simpa using cg9)<|ZAF rfl rfl cg8<|ZAY (v:=enc true) rfl cg9 rfl<|ZAA ?_
     rw[←oi hb_b5];exact⟨hs,FxR rfl⟩
    rename_i cg10;refine ZAF rfl rfl (by simpa using cg10)<|ZAT ZFY rfl<|ZAF rfl rfl (by simpa using cg10)<|ZAK ag9 (Ss (Ss (Ss (Ss Sz)))) rfl hxs hs fun y7 hy7=> ?_
    cases hy7;refine ZAF rfl rfl (by simpa using cg10) ?_
    obtain⟨r_5,hx5,hb_b5⟩:=bs hb_b5;refine ZAa (f:=fun a:Str×Unit=>ZDP a.1) (a:=(m.v.2.2.2.2.1,())) rfl func103 rfl rfl (.cons (a:=m.v.2.2.2.2.1) (Enc.self _) .nil) hs (lM _ List.mem_cons_self) hx5<|ZAF rfl rfl (by simpa using cg10)<|ZBU (v:=enc (!r_5)) rfl rfl<|ZAF rfl rfl cg8<|ZAX rfl cg10 rfl<|ZAA ?_
    rw[←oi hb_b5];exact⟨hs,FxR rfl⟩
   rintro φ s ⟨hs,hF⟩;rw[←hF.eq];refine ZAY rfl cg8 rfl<|ZAA ?_
   rw[←oi hb_b4];exact⟨hs,FxR rfl⟩
  rename_i cg11;refine ZAD rfl rfl cg11<|ZAD rfl rfl cg11<|ZAD rfl rfl cg11<|ZAD rfl rfl cg11<|ZAD rfl rfl cg11<|ZAD rfl rfl cg11<|ZAM rfl rfl<|ZAM rfl rfl<|ZAM rfl rfl<|ZAM rfl rfl<|ZAD rfl rfl cg11<|ZAX (v:=enc false) rfl cg11 rfl<|ZAA ?_
  rw[←oi hb_b4];exact⟨hs,FxR rfl⟩
 rintro φ s ⟨hs,hF⟩;rw[←hF.eq];refine ZAE rfl ?_
 obtain⟨b6,hb_b6,h⟩:=bs h;refine ZAR 9 (fun φ s=>Hp s [(.cells m1 xs),(.gl (NG mx))]∧Fx φ [(1,(.ptr m1 0)),(60,(enc b6))]) ?_ ?_
 ·split at hb_b6
  ·rename_i cg12;refine ZAD rfl rfl (by simpa using cg12)<|ZAD rfl rfl (by simpa using cg12)<|ZAD rfl rfl (by simpa using cg12)<|ZAD rfl rfl (by simpa using cg12)<|ZAM rfl rfl<|ZAM rfl rfl<|ZAM rfl rfl<|ZAD rfl rfl (by simpa using cg12)<|ZAY (v:=enc true) rfl cg12 rfl<|ZAA ?_
   rw[←oi hb_b6];exact⟨hs,FxR rfl⟩
  rename_i cg13;refine ZAF rfl rfl (by simpa using cg13)<|ZAT ZFW rfl<|ZAF rfl rfl (by simpa using cg13)<|ZAK ag41 Sz rfl hxs hs fun y8 hy8=> ?_
  cases hy8;refine ZAF rfl rfl (by simpa using cg13)<|ZAJ (v:=enc (m.v.1 !=3)) rfl rfl rfl<|ZAF rfl rfl (by simpa using cg13)<|ZAE rfl ?_
  obtain⟨b7,hb_b7,hb_b6⟩:=bs hb_b6;refine ZAR 4 (fun φ s=>Hp s [(.cells m1 xs),(.gl (NG mx))]∧Fx φ [(1,(.ptr m1 0)),(51,(enc b4)),(59,(enc b7))]) ?_ ?_
  ·split at hb_b7
   ·rename_i cg14;refine ZAF rfl rfl cg14<|ZAT ZFY rfl<|ZAF rfl rfl cg14<|ZAK ag9 (Ss (Ss (Ss (Ss Sz)))) rfl hxs hs fun y9 hy9=> ?_
    cases hy9;refine ZAF rfl rfl cg14<|ZAJ (v:=enc (!eqS m.v.2.2.2.2.1 (str []))) rfl rfl rfl<|ZAF rfl rfl (by simpa using cg13)<|ZAY rfl cg14 rfl<|ZAA ?_
    rw[←oi hb_b7];exact⟨hs,FxR rfl⟩
   rename_i cg15;refine ZAD rfl rfl cg15<|ZAD rfl rfl cg15<|ZAD rfl rfl cg15<|ZAF rfl rfl (by simpa using cg13)<|ZAX (v:=enc false) rfl cg15 rfl<|ZAA ?_
   rw[←oi hb_b7];exact⟨hs,FxR rfl⟩
  rintro φ s ⟨hs,hF⟩;rw[←hF.eq];refine ZAX rfl cg13 rfl<|ZAA ?_
  rw[←oi hb_b6];exact⟨hs,FxR rfl⟩
 rintro φ s ⟨hs,hF⟩;rw[←hF.eq];refine ZAA ?_
 split at h
 ·rename_i c';refine ZAH rfl c'<|ZAB<|ZAC<|ZAG (v:=enc false) rfl<|ZAA<|ZAP ?_
  rw[←oi h];exact⟨rfl,KE1 (a:=(false:Bool)) rfl rfl (rfl:is _ (false:Bool)) (rfl:is _ (false:Bool))⟩
 rename_i c';refine ZAI rfl c'<|ZAN<|ZAB<|ZAC<|ZAG (v:= .nils) rfl<|ZAA<|ZAB<|ZAB<|ZAC<|ZAG (v:=enc (0:Int)) rfl<|ZAA<|ZAQ ?_
 obtain⟨o,hl,h⟩:=bs h;refine ZAk (fun(p:((List Str)×Int)) φ s=>match p with | (names,i)=>∃(x_names:AV),is x_names names∧ZBf x_names=true∧Fx φ [(1,(.ptr m1 0)),(3,x_names),(4,(enc i))]∧Hp s [(.cells m1 xs),(.gl (NG mx)), .own x_names]) (fun(o:((List Str) ⊕ Bool)) e φ s=>match o with | (.inl names1)=>e= .exit 0∧∃(x_names1:AV),is x_names1 names1∧ZBf x_names1=true∧Fx φ [(1,(.ptr m1 0)),(3,x_names1)]∧Hp s [(.cells m1 xs),(.gl (NG mx)), .own x_names1] | (.inr v)=>e= .ret∧Fx φ [(2,(enc v))]∧Hp s [(.gl (NG mx))]) ?_ hl ⟨.nils,isL.nil,rfl,FxR rfl,(Hp.front [(.gl (NG mx)), .own .nils] (b:=[]) (Hp.front [.own .nils,(.cells m1 xs)] (b:=[]) (Hp.front [] (b:=[(.cells m1 xs),(.gl (NG mx))]) (Hp.add hs rfl))))⟩ ?_
 ·rintro⟨names,i⟩ o h φ s ⟨x_names,h_names,h_namesc,hF,hs⟩;rw[←hF.eq];rw[ZGZ] at h;refine ZAB<|ZAB<|ZAC<|ZAE rfl<|ZAT ZGS rfl<|ZAK ag45 (Ss (Ss (Ss (Ss (Ss Sz))))) rfl hxs hs fun y10 hy10=>ZAo underlying45 rfl rfl hy10<|ZAJ (v:=enc (decide (i<(m.v.2.2.2.2.2.1.length:Int)))) rfl rfl rfl<|ZAA ?_
  split at h
  ·rename_i c';refine ZAH rfl c'<|ZAN<|ZAB<|ZAQ<|ZAB<|ZAC<|ZAE (v:=x_names) rfl<|ZAT ZGS rfl<|ZAK ag45 (Ss (Ss (Ss (Ss (Ss Sz))))) rfl hxs hs fun y11 hy11=>ZAE rfl ?_
   obtain⟨v1,hx6,h⟩:=bs h;refine ZAu underlying45 ZRX rfl rfl hy11 hx6 fun p hp=>ZCB ZMs Sz rfl hp fun p1 hp1=>ZBK ag9 rfl hp1 fun y12 hy12=> ?_
   cases hy12;refine ZEM [(enc v1.v.1)] ([v1.v.1]:(List Str)) underlying43 ef9 rfl rfl rfl (Nat.le_of_ble_eq_true rfl) ⟨(rfl:is _ v1.v.1),trivial⟩ fun z hz hzc hzn=> ?_
   obtain⟨l,hx7,h⟩:=bs h;refine ZPf [(.cells m1 xs),(.gl (NG mx))] (es2:=[]) underlying43 underlying43 rfl rfl ef9 rfl rfl h_names h_namesc hs hz hx7 fun z1 s hz1 hz1c hs=>ZAG (v:=z1) rfl<|ZAA<|ZAB<|ZAC<|ZAT ZGS rfl<|ZAK ag45 (Ss (Ss (Ss (Ss (Ss Sz))))) rfl hxs hs fun y13 hy13=>ZAE rfl ?_
   obtain⟨v2,hx8,h⟩:=bs h;refine ZAu underlying45 ZRX rfl rfl hy13 hx8 fun p2 hp2=>ZCB ZMt (Ss Sz) rfl hp2 fun p3 hp3=>ZBK ag42 rfl hp3 fun y14 hy14=>ZAo underlying42 rfl rfl hy14<|ZAJ (v:=enc (decide ((v2.v.2.1.length:Int) > 256))) rfl rfl rfl<|ZAA ?_
   split at h
   ·rename_i c';refine ZAH rfl c'<|ZAB<|ZAC<|ZAG (v:=enc false) rfl<|ZAA<|ZAP ?_
    show if _ then _ else _
    rw[if_neg (by simp)]
    rw[←oi h];exact⟨_,rfl,rfl,⟨FxR rfl,(Hp.drop [(.gl (NG mx))] (b:=[]) (Hp.drop [] (b:=[(.gl (NG mx)), .own z1]) hs))⟩⟩
   rename_i c';refine ZAI rfl c'<|ZAN<|ZAC<|ZAE rfl<|ZAJ (v:=enc (IntKind.i64.wrap (i+1))) rfl rfl rfl<|ZAG rfl<|ZAA ?_
   rw[←oi h];exact⟨_,rfl,⟨z1,hz1,hz1c,FxR rfl,hs⟩⟩
  rename_i c';refine ZAI rfl c'<|ZAh ?_
  rw[←oi h];exact⟨_,rfl,rfl,⟨x_names,h_names,h_namesc,FxR rfl,hs⟩⟩
 intro e φ s hE;rcases o with names1 | v
 ·obtain⟨rfl,x_names1,h_names1,h_names1c,hF,hs⟩:=hE;rw[←hF.eq];rw[ZGa] at h;show if _ then _ else _
  rw[if_pos rfl];refine ZAB<|ZAC<|ZAT ZIp rfl<|ZAK ZPn (Ss (Ss (Ss (Ss (Ss (Ss Sz)))))) rfl hxs hs fun y15 hy15=> ?_
  obtain⟨r_6,hx9,h⟩:=bs h;refine ZAa (f:=fun a:(List RefR)×Unit=>ZDg a.1) (a:=(m.v.2.2.2.2.2.2.1,())) rfl func104 rfl rfl (.cons (a:=m.v.2.2.2.2.2.2.1) hy15 .nil) hs (lM _ List.mem_cons_self) hx9<|ZAE (v:=res r_6) rfl<|ZA1 rfl rfl<|ZA1 rfl rfl<|ZAG rfl<|ZAG rfl<|ZAA<|ZAB<|ZAC<|ZAE (v:=x_names1) rfl ?_
  obtain⟨r_7,hx10,h⟩:=bs h;refine ZAa (f:=fun a:(List Str)×Unit=>ZBa a.1) (a:=(names1,())) rfl func105 rfl rfl (.cons (a:=names1) h_names1 .nil) hs (lM _ List.mem_cons_self) hx10<|ZAE rfl ?_
  obtain⟨b8,hb_b8,h⟩:=bs h;refine ZAR 2 (fun φ s=>Hp s [(.cells m1 xs),(.gl (NG mx)), .own x_names1]∧Fx φ [(1,(.ptr m1 0)),(5,(enc r_6.1)),(95,(enc b8))]) ?_ ?_
  ·split at hb_b8
   ·rename_i cg16;refine ZAF rfl rfl cg16<|ZAE rfl<|ZAY rfl cg16 rfl<|ZAA ?_
    rw[←oi hb_b8];exact⟨hs,FxR rfl⟩
   rename_i cg17;refine ZAD rfl rfl cg17<|ZAX (v:=enc false) rfl cg17 rfl<|ZAA ?_
   rw[←oi hb_b8];exact⟨hs,FxR rfl⟩
  rintro φ s ⟨hs,hF⟩;rw[←hF.eq];refine ZAE rfl ?_
  obtain⟨b9,hb_b9,h⟩:=bs h;refine ZAR 5 (fun φ s=>Hp s [(.cells m1 xs),(.gl (NG mx)), .own x_names1]∧Fx φ [(1,(.ptr m1 0)),(101,(enc b9))]) ?_ ?_
  ·split at hb_b9
   ·rename_i cg18;refine ZAF rfl rfl cg18<|ZAE rfl<|ZAF rfl rfl cg18<|ZAT ZFX rfl<|ZAF rfl rfl cg18<|ZAK ag3 (Ss (Ss (Ss Sz))) rfl hxs hs fun y16 hy16=> ?_
    cases hy16;refine ZAF rfl rfl cg18<|ZAJ (v:=enc (r_6.1==m.v.2.2.2.1)) rfl rfl rfl<|ZAY rfl cg18 rfl<|ZAA ?_
    rw[←oi hb_b9];exact⟨hs,FxR rfl⟩
   rename_i cg19;refine ZAD rfl rfl cg19<|ZAD rfl rfl cg19<|ZAD rfl rfl cg19<|ZAD rfl rfl cg19<|ZAX (v:=enc false) rfl cg19 rfl<|ZAA ?_
   rw[←oi hb_b9];exact⟨hs,FxR rfl⟩
  rintro φ s ⟨hs,hF⟩;rw[←hF.eq];refine ZAE rfl ?_
  obtain⟨b10,hb_b10,h⟩:=bs h;refine ZAR 9 (fun φ s=>Hp s [(.cells m1 xs),(.gl (NG mx)), .own x_names1]∧Fx φ [(111,(enc b10))]) ?_ ?_
  ·split at hb_b10
   ·rename_i cg20;refine ZAF rfl rfl cg20<|ZAT ZFW rfl<|ZAF rfl rfl cg20<|ZAK ag41 Sz rfl hxs hs fun y17 hy17=> ?_
    cases hy17;refine ZAF rfl rfl cg20<|ZAJ (v:=enc (m.v.1 !=3)) rfl rfl rfl<|ZAF rfl rfl cg20<|ZAE rfl ?_
    obtain⟨b11,hb_b11,hb_b10⟩:=bs hb_b10;refine ZAR 4 (fun φ s=>Hp s [(.cells m1 xs),(.gl (NG mx)), .own x_names1]∧Fx φ [(102,(enc b9)),(110,(enc b11))]) ?_ ?_
    ·split at hb_b11
     ·rename_i cg21;refine ZAD rfl rfl (by simpa using cg21)<|ZAD rfl rfl (by simpa using cg21)<|ZAD rfl rfl (by simpa using cg21)<|ZAF rfl rfl cg20<|ZAY (v:=enc true) rfl cg21 rfl<|ZAA ?_
      rw[←oi hb_b11];exact⟨hs,FxR rfl⟩
     rename_i cg22;refine ZAF rfl rfl (by simpa using cg22)<|ZAT ZFX rfl<|ZAF rfl rfl (by simpa using cg22)<|ZAK ag3 (Ss (Ss (Ss Sz))) rfl hxs hs fun y18 hy18=> ?_
     cases hy18;refine ZAF rfl rfl (by simpa using cg22)<|ZAJ (v:=enc (m.v.2.2.2.1==0)) rfl rfl rfl<|ZAF rfl rfl cg20<|ZAX rfl cg22 rfl<|ZAA ?_
     rw[←oi hb_b11];exact⟨hs,FxR rfl⟩
    rintro φ s ⟨hs,hF⟩;rw[←hF.eq];refine ZAY rfl cg20 rfl<|ZAA ?_
    rw[←oi hb_b10];exact⟨hs,FxR rfl⟩
   rename_i cg23;refine ZAD rfl rfl cg23<|ZAD rfl rfl cg23<|ZAD rfl rfl cg23<|ZAD rfl rfl cg23<|ZAM rfl rfl<|ZAM rfl rfl<|ZAM rfl rfl<|ZAD rfl rfl cg23<|ZAX (v:=enc false) rfl cg23 rfl<|ZAA ?_
   rw[←oi hb_b10];exact⟨hs,FxR rfl⟩
  rintro φ s ⟨hs,hF⟩;rw[←hF.eq];refine ZAG rfl<|ZAA<|ZAP ?_
  rw[←oi h];exact⟨rfl,KE1 (a:=b10) rfl rfl (rfl:is _ b10) (rfl:is _ b10)⟩
 obtain⟨rfl,hF,hs⟩:=hE;rw[←hF.eq];rw[ZGa] at h;show if _ then _ else _
 rw[if_neg (by simp)]
 rw[←oi h];exact⟨rfl,KE1 (a:=v) rfl rfl (rfl:is _ v) (rfl:is _ v)⟩
theorem ZM7 (mx:Int):ZAq Tryz.prog 84 (FnG (NG mx) (fun a:ZBV×Unit=>ZEG a.1)):=fnCG (ZQQ mx) ⟨_,func84,rfl⟩<|fun a r h=>ZM6 mx a.1 r h
noncomputable def pt15 (mx:Int):Prims:=(pt14 mx).addG 84 (FnG (NG mx) (fun a:ZBV×Unit=>ZEG a.1))
theorem ZQR (mx:Int):ZAW Tryz.prog (pt15 mx):=ZAS (ZQQ mx) (ZM7 mx)
theorem ZJX (mx:Int) (l:ZAb) (r:Bool) (h:ZBn l=some r):MF Tryz.prog (pt15 mx) 85 [enc l] (sG (NG mx)) fun v _=>ris v r:=by
 refine ZAj [(0,enc l)] func85 rfl (by simp only[Tryz.f85];rfl) fun ψ=> ?_
 unfold ZBn at h;have hs:Hp (sG (NG mx)) [.gl (NG mx)]:=Hp.gl0
 refine ZAB<|ZAC<|ZBF (r:=l) rfl (Enc.self l) hs fun m xs s hxs hs=>ZAG (v:=enc false) rfl<|ZAA<|ZAB<|ZAB<|ZAC<|ZAT ZFZ rfl<|ZAK ag43 (Ss Sz) rfl hxs hs fun y hy=>ZAo underlying43 rfl rfl hy<|ZAJ (v:=enc (decide ((l.v.2.1.length:Int) > 256))) rfl rfl rfl<|ZAE rfl ?_
 obtain⟨b,hb_b,h⟩:=bs h;refine ZAR 5 (fun φ s=>Hp s [(.cells m xs),(.gl (NG mx))]∧Fx φ [(1,(.ptr m 0)),(13,(enc b))]) ?_ ?_
 ·split at hb_b
  ·rename_i cg;refine ZAD rfl rfl (by simpa using cg)<|ZAD rfl rfl (by simpa using cg)<|ZAD rfl rfl (by simpa using cg)<|ZAD rfl rfl (by simpa using cg)<|ZAY (v:=enc true) rfl cg rfl<|ZAA ?_
   rw[←oi hb_b];exact⟨hs,FxR rfl⟩
  rename_i cg1;refine ZAF rfl rfl (by simpa using cg1)<|ZAT ZFZ rfl<|ZAF rfl rfl (by simpa using cg1)<|ZAK ag43 (Ss Sz) rfl hxs hs fun y1 hy1=>ZAF rfl rfl (by simpa using cg1) ?_
  obtain⟨r_,hx,hb_b⟩:=bs hb_b;refine ZAa (f:=fun a:(List Str)×Unit=>ZBa a.1) (a:=(l.v.2.1,())) rfl func105 rfl rfl (.cons (a:=l.v.2.1) hy1 .nil) hs (lM _ List.mem_cons_self) hx<|ZAF rfl rfl (by simpa using cg1)<|ZBU (v:=enc (!r_)) rfl rfl<|ZAX rfl cg1 rfl<|ZAA ?_
  rw[←oi hb_b];exact⟨hs,FxR rfl⟩
 rintro φ s ⟨hs,hF⟩;rw[←hF.eq];refine ZAE rfl ?_
 obtain⟨b1,hb_b1,h⟩:=bs h;refine ZAR 8 (fun φ s=>Hp s [(.cells m xs),(.gl (NG mx))]∧Fx φ [(1,(.ptr m 0)),(22,(enc b1))]) ?_ ?_
 ·split at hb_b1
  ·rename_i cg2;refine ZAD rfl rfl (by simpa using cg2)<|ZAD rfl rfl (by simpa using cg2)<|ZAD rfl rfl (by simpa using cg2)<|ZAD rfl rfl (by simpa using cg2)<|ZAD rfl rfl (by simpa using cg2)<|ZAD rfl rfl (by simpa using cg2)<|ZAD rfl rfl (by simpa using cg2)<|ZAY (v:=enc true) rfl cg2 rfl<|ZAA ?_
   rw[←oi hb_b1];exact⟨hs,FxR rfl⟩
  rename_i cg3;refine ZAF rfl rfl (by simpa using cg3)<|ZAT ZGT rfl<|ZAF rfl rfl (by simpa using cg3)<|ZAK ag44 (Ss (Ss Sz)) rfl hxs hs fun y2 hy2=>ZAF rfl rfl (by simpa using cg3)<|ZAo underlying44 rfl rfl hy2<|ZAF rfl rfl (by simpa using cg3)<|ZAT ZFZ rfl<|ZAF rfl rfl (by simpa using cg3)<|ZAK ag43 (Ss Sz) rfl hxs hs fun y3 hy3=>ZAF rfl rfl (by simpa using cg3)<|ZAo underlying43 rfl rfl hy3<|ZAF rfl rfl (by simpa using cg3)<|ZAJ (v:=enc (((l.v.2.2.1.length:Int) !=(l.v.2.1.length:Int)):Bool)) rfl rfl rfl<|ZAX rfl cg3 rfl ?_
  refine ZAA ?_
  rw[←oi hb_b1];exact⟨hs,FxR rfl⟩
 rintro φ s ⟨hs,hF⟩;rw[←hF.eq];refine ZAA ?_
 split at h
 ·rename_i c';refine ZAH rfl c'<|ZAB<|ZAC<|ZAG (v:=enc false) rfl<|ZAA<|ZAP ?_
  rw[←oi h];exact⟨rfl,KE1 (a:=(false:Bool)) rfl rfl (rfl:is _ (false:Bool)) (rfl:is _ (false:Bool))⟩
 rename_i c';refine ZAI rfl c'<|ZAN<|ZAB<|ZAB<|ZAC<|ZAG (v:=enc (0:Int)) rfl<|ZAA<|ZAQ ?_
 obtain⟨o,hl,h⟩:=bs h;refine ZAk (fun(p:Int) φ s=>match p with | i=>Fx φ [(1,(.ptr m 0)),(3,(enc i))]∧Hp s [(.cells m xs),(.gl (NG mx))]) (fun(o:(Unit ⊕ Bool)) e φ s=>match o with | (.inl _)=>e= .exit 0∧Fx φ []∧Hp s [(.gl (NG mx))] | (.inr v)=>e= .ret∧Fx φ [(2,(enc v))]∧Hp s [(.gl (NG mx))]) ?_ hl ⟨FxR rfl,hs⟩ ?_
 ·rintro i o h φ s ⟨hF,hs⟩;rw[←hF.eq];rw[ZER] at h;refine ZAB<|ZAB<|ZAC<|ZAE rfl<|ZAT ZGT rfl<|ZAK ag44 (Ss (Ss Sz)) rfl hxs hs fun y4 hy4=>ZAo underlying44 rfl rfl hy4<|ZAJ (v:=enc (decide (i<(l.v.2.2.1.length:Int)))) rfl rfl rfl<|ZAA ?_
  split at h
  ·rename_i c';refine ZAH rfl c'<|ZAN<|ZAB<|ZAQ<|ZAB<|ZAC<|ZAT ZGT rfl<|ZAK ag44 (Ss (Ss Sz)) rfl hxs hs fun y5 hy5=>ZAE rfl ?_
   obtain⟨v1,hx1,h⟩:=bs h;refine ZAu underlying44 sh3 rfl rfl hy5 hx1 fun p hp=>ZCI rfl ag3 rfl hp fun y6 hy6=> ?_
   cases hy6;obtain⟨r_1,hx2,h⟩:=bs h;refine ZAa (f:=fun a:Int×Int×Int×Unit=>ZAi a.1 a.2.1 a.2.2.1) (a:=(v1,0,1024,())) rfl func102 rfl rfl (.cons (a:=v1) (Enc.self _) (.cons (a:=(0:Int)) (rfl:is _ (0:Int)) (.cons (a:=(1024:Int)) (rfl:is _ (1024:Int)) .nil))) hs (lM _ List.mem_cons_self) hx2<|ZBU (v:=enc (!r_1)) rfl rfl<|ZAE rfl ?_
   obtain⟨b2,hb_b2,h⟩:=bs h;refine ZAR 11 (fun φ s=>Hp s [(.cells m xs),(.gl (NG mx))]∧Fx φ [(1,(.ptr m 0)),(3,(enc i)),(48,(enc b2))]) ?_ ?_
   ·split at hb_b2
    ·rename_i cg4;refine ZAD rfl rfl (by simpa using cg4)<|ZAD rfl rfl (by simpa using cg4)<|ZAD rfl rfl (by simpa using cg4)<|ZAM rfl rfl<|ZAM rfl rfl<|ZAM rfl rfl<|ZAM rfl rfl<|ZAM rfl rfl<|ZAM rfl rfl<|ZAD rfl rfl (by simpa using cg4)<|ZAY (v:=enc true) rfl cg4 rfl<|ZAA ?_
     rw[←oi hb_b2];exact⟨hs,FxR rfl⟩
    rename_i cg5;refine ZAF rfl rfl (by simpa using cg5)<|ZAT ZMk rfl<|ZAF rfl rfl (by simpa using cg5)<|ZAK ag4 Sz rfl hxs hs fun y7 hy7=> ?_
    cases hy7;refine ZAF rfl rfl (by simpa using cg5)<|ZAE rfl ?_
    obtain⟨b3,hb_b3,hb_b2⟩:=bs hb_b2;refine ZAR 7 (fun φ s=>Hp s [(.cells m xs),(.gl (NG mx))]∧Fx φ [(1,(.ptr m 0)),(3,(enc i)),(37,(enc (!r_1))),(47,(enc b3))]) ?_ ?_
    ·split at hb_b3
     ·rename_i cg6;refine ZAF rfl rfl cg6<|ZAT ZGT rfl<|ZAF rfl rfl cg6<|ZAK ag44 (Ss (Ss Sz)) rfl hxs hs fun y8 hy8=>ZAF rfl rfl cg6<|ZAE rfl<|ZAF rfl rfl cg6 ?_
      obtain⟨v2,hx3,hb_b3⟩:=bs hb_b3;refine ZAu underlying44 sh3 rfl rfl hy8 hx3 fun p1 hp1=>ZAF rfl rfl cg6<|ZCI rfl ag3 rfl hp1 fun y9 hy9=> ?_
      cases hy9;refine ZAF rfl rfl cg6<|ZAJ (v:=enc (v2==0)) rfl rfl rfl<|ZAF rfl rfl (by simpa using cg5)<|ZAY rfl cg6 rfl<|ZAA ?_
      rw[←oi hb_b3];exact⟨hs,FxR rfl⟩
     rename_i cg7;refine ZAD rfl rfl cg7<|ZAD rfl rfl cg7<|ZAD rfl rfl cg7<|ZAD rfl rfl cg7<|ZAD rfl rfl cg7<|ZAD rfl rfl cg7<|ZAF rfl rfl (by simpa using cg5)<|ZAX (v:=enc false) rfl cg7 rfl<|ZAA ?_
     rw[←oi hb_b3];exact⟨hs,FxR rfl⟩
    rintro φ s ⟨hs,hF⟩;rw[←hF.eq];refine ZAX rfl cg5 rfl<|ZAA ?_
    rw[←oi hb_b2];exact⟨hs,FxR rfl⟩
   rintro φ s ⟨hs,hF⟩;rw[←hF.eq];refine ZAA ?_
   split at h
   ·rename_i c';refine ZAH rfl c'<|ZAB<|ZAC<|ZAG (v:=enc false) rfl<|ZAA<|ZAP ?_
    show if _ then _ else _
    rw[if_neg (by simp)]
    rw[←oi h];exact⟨_,rfl,rfl,⟨FxR rfl,(Hp.drop [] (b:=[(.gl (NG mx))]) hs)⟩⟩
   rename_i c';refine ZAI rfl c'<|ZAN<|ZAC<|ZAE rfl<|ZAJ (v:=enc (IntKind.i64.wrap (i+1))) rfl rfl rfl<|ZAG rfl<|ZAA ?_
   rw[←oi h];exact⟨_,rfl,⟨FxR rfl,hs⟩⟩
  rename_i c';refine ZAI rfl c'<|ZAh ?_
  rw[←oi h];exact⟨_,rfl,rfl,⟨trivial,(Hp.drop [] (b:=[(.gl (NG mx))]) hs)⟩⟩
 intro e φ s hE;rcases o with _u | v
 ·obtain⟨rfl,hF,hs⟩:=hE;rw[←hF.eq];rw[ZES] at h;show if _ then _ else _
  rw[if_pos rfl];refine ZAB<|ZAC<|ZAG (v:=enc true) rfl<|ZAA<|ZAP ?_
  rw[←oi h];exact⟨rfl,KE1 (a:=(true:Bool)) rfl rfl (rfl:is _ (true:Bool)) (rfl:is _ (true:Bool))⟩
 obtain⟨rfl,hF,hs⟩:=hE;rw[←hF.eq];rw[ZES] at h;show if _ then _ else _
 rw[if_neg (by simp)]
 rw[←oi h];exact⟨rfl,KE1 (a:=v) rfl rfl (rfl:is _ v) (rfl:is _ v)⟩
theorem ZJY (mx:Int):ZAq Tryz.prog 85 (FnG (NG mx) (fun a:ZAb×Unit=>ZBn a.1)):=fnCG (ZQR mx) ⟨_,func85,rfl⟩<|fun a r h=>ZJX mx a.1 r h
noncomputable def pt16 (mx:Int):Prims:=(pt15 mx).addG 85 (FnG (NG mx) (fun a:ZAb×Unit=>ZBn a.1))
theorem ZQS (mx:Int):ZAW Tryz.prog (pt16 mx):=ZAS (ZQR mx) (ZJY mx)
theorem ZL1 (mx:Int) (x:ZAO) (r:Bool) (h:ZDR x=some r):MF Tryz.prog (pt16 mx) 71 [enc x] (sG (NG mx)) fun v _=>ris v r:=by
 refine ZAj [(0,enc x)] func71 rfl (by simp only[Tryz.f71];rfl) fun ψ=> ?_
 unfold ZDR at h;have hs:Hp (sG (NG mx)) [.gl (NG mx)]:=Hp.gl0
 refine ZAB<|ZAC<|ZBF (r:=x) rfl (Enc.self x) hs fun m xs s hxs hs=>ZAG (v:=enc false) rfl<|ZAA<|ZAB<|ZAC<|ZAT ZCE rfl<|ZAK ag41 (Ss Sz) rfl hxs hs fun y hy=> ?_
 cases hy;refine ZAT ZSi rfl<|ZAK ag3 (Ss (Ss Sz)) rfl hxs hs fun y1 hy1=> ?_
 cases hy1;refine ZAT ZJn rfl<|ZAK ag3 (Ss (Ss (Ss Sz))) rfl hxs hs fun y2 hy2=> ?_
 cases hy2;refine ZAT ZQA rfl<|ZAK ag9 (Ss (Ss (Ss (Ss (Ss Sz))))) rfl hxs hs fun y3 hy3=> ?_
 cases hy3;refine ZAT ZSj rfl<|ZAK ag45 (Ss (Ss (Ss (Ss (Ss (Ss (Ss (Ss Sz)))))))) rfl hxs hs fun y4 hy4=>ZCC (r0:=((0:Int),(0:Int),(0:Int),(0:Int),(str []),([]:(List ZAg)),([]:(List RefR)),())) ZU8 ZTv ZRm rfl rfl (r:=(x.v.2.1,x.v.2.2.1,x.v.2.2.2.1,(0:Int),x.v.2.2.2.2.2.1,x.v.2.2.2.2.2.2.2.2.1,([]:(List RefR)),())) (.cons (z:=x.v.2.1) Sz (rfl:is _ x.v.2.1) (.cons (z:=x.v.2.2.1) (Ss Sz) (rfl:is _ x.v.2.2.1) (.cons (z:=x.v.2.2.2.1) (Ss (Ss Sz)) (rfl:is _ x.v.2.2.2.1) (.cons (z:=x.v.2.2.2.2.2.1) (Ss (Ss (Ss (Ss Sz)))) (rfl:is _ x.v.2.2.2.2.2.1) (.cons (z:=x.v.2.2.2.2.2.2.2.2.1) (Ss (Ss (Ss (Ss (Ss Sz))))) hy4 .nil))))) fun y5 hy5=>ZBR (r:=(Rec.mk ((0:Int),(0:Int),(0:Int),(0:Int),(str []),([]:(List ZAg)),([]:(List RefR)),()):ZBV)) ZTv ZRm hs fun m1 s hs=>ZBC (r:=(Rec.mk (x.v.2.1,x.v.2.2.1,x.v.2.2.2.1,(0:Int),x.v.2.2.2.2.2.1,x.v.2.2.2.2.2.2.2.2.1,([]:(List RefR)),()):ZBV)) ZRV rfl rfl ZRm hy5 hs fun xs1 s hxs1 hs=>ZAA<|ZAB<|ZAB<|ZAC<|ZA2 (r:=(Rec.mk (x.v.2.1,x.v.2.2.1,x.v.2.2.2.1,(0:Int),x.v.2.2.2.2.2.1,x.v.2.2.2.2.2.2.2.2.1,([]:(List RefR)),()):ZBV)) ZTd ZRV rfl hxs1 hs fun y6 hy6=> ?_
 obtain⟨r_,hx,h⟩:=bs h;refine ZAa (f:=fun a:ZBV×Unit=>ZEG a.1) (a:=((Rec.mk (x.v.2.1,x.v.2.2.1,x.v.2.2.2.1,(0:Int),x.v.2.2.2.2.2.1,x.v.2.2.2.2.2.2.2.2.1,([]:(List RefR)),()):ZBV),())) rfl func84 rfl rfl (.cons (a:=((Rec.mk (x.v.2.1,x.v.2.2.1,x.v.2.2.2.1,(0:Int),x.v.2.2.2.2.2.1,x.v.2.2.2.2.2.2.2.2.1,([]:(List RefR)),()):ZBV):ZBV)) hy6 .nil) hs (lM _ (lM _ List.mem_cons_self)) hx<|ZBU (v:=enc (!r_)) rfl rfl<|ZAE rfl ?_
 obtain⟨b,hb_b,h⟩:=bs h;refine ZAR 5 (fun φ s=>Hp s [(.cells m1 xs1),(.cells m xs),(.gl (NG mx))]∧Fx φ [(1,(.ptr m 0)),(23,(enc b))]) ?_ ?_
 ·split at hb_b
  ·rename_i cg;refine ZAD rfl rfl (by simpa using cg)<|ZAD rfl rfl (by simpa using cg)<|ZAD rfl rfl (by simpa using cg)<|ZAD rfl rfl (by simpa using cg)<|ZAY (v:=enc true) rfl cg rfl<|ZAA ?_
   rw[←oi hb_b];exact⟨hs,FxR rfl⟩
  rename_i cg1;refine ZAF rfl rfl (by simpa using cg1)<|ZAT ZLR rfl<|ZAF rfl rfl (by simpa using cg1) ?_
  replace hs:=Hp.front [(.cells m1 xs1)] (b:=[(.gl (NG mx))]) hs;refine ZAK ag42 (Ss (Ss (Ss (Ss Sz)))) rfl hxs hs fun y7 hy7=>ZAF rfl rfl (by simpa using cg1)<|ZAo underlying42 rfl rfl hy7<|ZAF rfl rfl (by simpa using cg1)<|ZAJ (v:=enc (decide ((x.v.2.2.2.2.1.length:Int) > 32768))) rfl rfl rfl<|ZAX rfl cg1 rfl<|ZAA ?_
  rw[←oi hb_b];exact⟨(Hp.front [(.cells m xs),(.gl (NG mx))] (b:=[]) (Hp.front [(.gl (NG mx))] (b:=[(.cells m1 xs1)]) (Hp.front [(.cells m xs),(.cells m1 xs1)] (b:=[]) hs))),FxR rfl⟩
 rintro φ s ⟨hs,hF⟩;rw[←hF.eq];refine ZAE rfl ?_
 obtain⟨b1,hb_b1,h⟩:=bs h;refine ZAR 10 (fun φ s=>Hp s [(.cells m1 xs1),(.cells m xs),(.gl (NG mx))]∧Fx φ [(1,(.ptr m 0)),(34,(enc b1))]) ?_ ?_
 ·split at hb_b1
  ·rename_i cg2;refine ZAD rfl rfl (by simpa using cg2)<|ZAD rfl rfl (by simpa using cg2)<|ZAD rfl rfl (by simpa using cg2)<|ZAD rfl rfl (by simpa using cg2)<|ZAM rfl rfl<|ZAM rfl rfl<|ZAM rfl rfl<|ZAM rfl rfl<|ZAD rfl rfl (by simpa using cg2)<|ZAY (v:=enc true) rfl cg2 rfl<|ZAA ?_
   rw[←oi hb_b1];exact⟨hs,FxR rfl⟩
  rename_i cg3;refine ZAF rfl rfl (by simpa using cg3)<|ZAT ZCE rfl<|ZAF rfl rfl (by simpa using cg3) ?_
  replace hs:=Hp.front [(.cells m1 xs1)] (b:=[(.gl (NG mx))]) hs;refine ZAK ag41 (Ss Sz) rfl hxs hs fun y8 hy8=> ?_
  cases hy8;refine ZAF rfl rfl (by simpa using cg3)<|ZAJ (v:=enc (x.v.2.1 !=1)) rfl rfl rfl<|ZAF rfl rfl (by simpa using cg3)<|ZAE rfl ?_
  obtain⟨b2,hb_b2,hb_b1⟩:=bs hb_b1;refine ZAR 5 (fun φ s=>Hp s [(.cells m xs),(.cells m1 xs1),(.gl (NG mx))]∧Fx φ [(1,(.ptr m 0)),(24,(enc b)),(33,(enc b2))]) ?_ ?_
  ·split at hb_b2
   ·rename_i cg4;refine ZAF rfl rfl cg4<|ZAT ZLR rfl<|ZAF rfl rfl cg4<|ZAK ag42 (Ss (Ss (Ss (Ss Sz)))) rfl hxs hs fun y9 hy9=>ZAF rfl rfl cg4<|ZAo underlying42 rfl rfl hy9<|ZAF rfl rfl cg4<|ZAJ (v:=enc (decide ((x.v.2.2.2.2.1.length:Int) > 0))) rfl rfl rfl<|ZAF rfl rfl (by simpa using cg3)<|ZAY rfl cg4 rfl<|ZAA ?_
    rw[←oi hb_b2];exact⟨hs,FxR rfl⟩
   rename_i cg5;refine ZAD rfl rfl cg5<|ZAD rfl rfl cg5<|ZAD rfl rfl cg5<|ZAD rfl rfl cg5<|ZAF rfl rfl (by simpa using cg3)<|ZAX (v:=enc false) rfl cg5 rfl<|ZAA ?_
   rw[←oi hb_b2];exact⟨hs,FxR rfl⟩
  rintro φ s ⟨hs,hF⟩;rw[←hF.eq];refine ZAX rfl cg3 rfl<|ZAA ?_
  rw[←oi hb_b1];exact⟨(Hp.front [(.cells m xs),(.gl (NG mx))] (b:=[]) (Hp.front [(.gl (NG mx))] (b:=[(.cells m1 xs1)]) (Hp.front [(.cells m xs),(.cells m1 xs1)] (b:=[]) hs))),FxR rfl⟩
 rintro φ s ⟨hs,hF⟩;rw[←hF.eq];refine ZAE rfl ?_
 obtain⟨b3,hb_b3,h⟩:=bs h;refine ZAR 4 (fun φ s=>Hp s [(.cells m1 xs1),(.cells m xs),(.gl (NG mx))]∧Fx φ [(1,(.ptr m 0)),(39,(enc b3))]) ?_ ?_
 ·split at hb_b3
  ·rename_i cg6;refine ZAD rfl rfl (by simpa using cg6)<|ZAD rfl rfl (by simpa using cg6)<|ZAD rfl rfl (by simpa using cg6)<|ZAY (v:=enc true) rfl cg6 rfl<|ZAA ?_
   rw[←oi hb_b3];exact⟨hs,FxR rfl⟩
  rename_i cg7;refine ZAF rfl rfl (by simpa using cg7)<|ZAT ZCQ rfl<|ZAF rfl rfl (by simpa using cg7) ?_
  replace hs:=Hp.front [(.cells m1 xs1)] (b:=[(.gl (NG mx))]) hs;refine ZAK ag3 Sz rfl hxs hs fun y10 hy10=> ?_
  cases hy10;refine ZAF rfl rfl (by simpa using cg7)<|ZAJ (v:=enc (decide (x.v.1<1))) rfl rfl rfl<|ZAX rfl cg7 rfl<|ZAA ?_
  rw[←oi hb_b3];exact⟨(Hp.front [(.cells m xs),(.gl (NG mx))] (b:=[]) (Hp.front [(.gl (NG mx))] (b:=[(.cells m1 xs1)]) (Hp.front [(.cells m xs),(.cells m1 xs1)] (b:=[]) hs))),FxR rfl⟩
 rintro φ s ⟨hs,hF⟩;rw[←hF.eq];refine ZAE rfl ?_
 obtain⟨b4,hb_b4,h⟩:=bs h;refine ZAR 4 (fun φ s=>Hp s [(.cells m1 xs1),(.cells m xs),(.gl (NG mx))]∧Fx φ [(1,(.ptr m 0)),(44,(enc b4))]) ?_ ?_
 ·split at hb_b4
  ·rename_i cg8;refine ZAD rfl rfl (by simpa using cg8)<|ZAD rfl rfl (by simpa using cg8)<|ZAD rfl rfl (by simpa using cg8)<|ZAY (v:=enc true) rfl cg8 rfl<|ZAA ?_
   rw[←oi hb_b4];exact⟨hs,FxR rfl⟩
  rename_i cg9;refine ZAF rfl rfl (by simpa using cg9)<|ZAT ZCQ rfl<|ZAF rfl rfl (by simpa using cg9) ?_
  replace hs:=Hp.front [(.cells m1 xs1)] (b:=[(.gl (NG mx))]) hs;refine ZAK ag3 Sz rfl hxs hs fun y11 hy11=> ?_
  cases hy11;refine ZAF rfl rfl (by simpa using cg9)<|ZAJ (v:=enc (decide (x.v.1 > 1024))) rfl rfl rfl<|ZAX rfl cg9 rfl<|ZAA ?_
  rw[←oi hb_b4];exact⟨(Hp.front [(.cells m xs),(.gl (NG mx))] (b:=[]) (Hp.front [(.gl (NG mx))] (b:=[(.cells m1 xs1)]) (Hp.front [(.cells m xs),(.cells m1 xs1)] (b:=[]) hs))),FxR rfl⟩
 rintro φ s ⟨hs,hF⟩;rw[←hF.eq];refine ZAA ?_
 split at h
 ·rename_i c';refine ZAH rfl c'<|ZAB<|ZAC<|ZAG (v:=enc false) rfl<|ZAA<|ZAP ?_
  rw[←oi h];exact⟨rfl,KE1 (a:=(false:Bool)) rfl rfl (rfl:is _ (false:Bool)) (rfl:is _ (false:Bool))⟩
 rename_i c';refine ZAI rfl c'<|ZAN<|ZAB<|ZAB<|ZAC<|ZAT ZCE rfl ?_
 replace hs:=Hp.front [(.cells m1 xs1)] (b:=[(.gl (NG mx))]) hs;refine ZAK ag41 (Ss Sz) rfl hxs hs fun y12 hy12=> ?_
 cases hy12;refine ZAJ (v:=enc (x.v.2.1 !=2)) rfl rfl rfl<|ZAA ?_
 split at h
 ·rename_i c';refine ZAH rfl c'<|ZAB<|ZAC<|ZAT ZFD rfl<|ZAK ag43 (Ss (Ss (Ss (Ss (Ss (Ss Sz)))))) rfl hxs hs fun y13 hy13=>ZAo underlying43 rfl rfl hy13<|ZAJ (v:=enc (((x.v.2.2.2.2.2.2.1.length:Int)==0):Bool)) rfl rfl rfl<|ZAE rfl ?_
  obtain⟨b5,hb_b5,h⟩:=bs h;refine ZAR 5 (fun φ s=>Hp s [(.cells m xs),(.cells m1 xs1),(.gl (NG mx))]∧Fx φ [(57,(enc b5))]) ?_ ?_
  ·split at hb_b5
   ·rename_i cg10;refine ZAF rfl rfl cg10<|ZAT ZEC rfl<|ZAF rfl rfl cg10<|ZAK ag44 (Ss (Ss (Ss (Ss (Ss (Ss (Ss Sz))))))) rfl hxs hs fun y14 hy14=>ZAF rfl rfl cg10<|ZAo underlying44 rfl rfl hy14<|ZAF rfl rfl cg10<|ZAJ (v:=enc (((x.v.2.2.2.2.2.2.2.1.length:Int)==0):Bool)) rfl rfl rfl<|ZAY rfl cg10 rfl<|ZAA ?_
    rw[←oi hb_b5];exact⟨hs,FxR rfl⟩
   rename_i cg11;refine ZAD rfl rfl cg11<|ZAD rfl rfl cg11<|ZAD rfl rfl cg11<|ZAD rfl rfl cg11<|ZAX (v:=enc false) rfl cg11 rfl<|ZAA ?_
   rw[←oi hb_b5];exact⟨hs,FxR rfl⟩
  rintro φ s ⟨hs,hF⟩;rw[←hF.eq];refine ZAG rfl<|ZAA<|ZAP ?_
  rw[←oi h];exact⟨rfl,KE1 (a:=b5) rfl rfl (rfl:is _ b5) (rfl:is _ b5)⟩
 rename_i c';refine ZAI rfl c'<|ZAN<|ZAB<|ZAC<|ZAT ZJn rfl<|ZAK ag3 (Ss (Ss (Ss Sz))) rfl hxs hs fun y15 hy15=> ?_
 cases hy15;refine ZAJ (v:=enc (x.v.2.2.2.1==1)) rfl rfl rfl<|ZAE rfl ?_
 obtain⟨b6,hb_b6,h⟩:=bs h;refine ZAR 5 (fun φ s=>Hp s [(.cells m xs),(.cells m1 xs1),(.gl (NG mx))]∧Fx φ [(1,(.ptr m 0)),(66,(enc b6))]) ?_ ?_
 ·split at hb_b6
  ·rename_i cg12;refine ZAF rfl rfl cg12<|ZAT ZFD rfl<|ZAF rfl rfl cg12<|ZAK ag43 (Ss (Ss (Ss (Ss (Ss (Ss Sz)))))) rfl hxs hs fun y16 hy16=>ZAF rfl rfl cg12<|ZAo underlying43 rfl rfl hy16<|ZAF rfl rfl cg12<|ZAJ (v:=enc (decide ((x.v.2.2.2.2.2.2.1.length:Int)≤128))) rfl rfl rfl<|ZAY rfl cg12 rfl<|ZAA ?_
   rw[←oi hb_b6];exact⟨hs,FxR rfl⟩
  rename_i cg13;refine ZAD rfl rfl cg13<|ZAD rfl rfl cg13<|ZAD rfl rfl cg13<|ZAD rfl rfl cg13<|ZAX (v:=enc false) rfl cg13 rfl<|ZAA ?_
  rw[←oi hb_b6];exact⟨hs,FxR rfl⟩
 rintro φ s ⟨hs,hF⟩;rw[←hF.eq];refine ZAE rfl ?_
 obtain⟨b7,hb_b7,h⟩:=bs h;refine ZAR 7 (fun φ s=>Hp s [(.cells m xs),(.cells m1 xs1),(.gl (NG mx))]∧Fx φ [(74,(enc b7))]) ?_ ?_
 ·split at hb_b7
  ·rename_i cg14;refine ZAF rfl rfl cg14<|ZAT ZFD rfl<|ZAF rfl rfl cg14<|ZAK ag43 (Ss (Ss (Ss (Ss (Ss (Ss Sz)))))) rfl hxs hs fun y17 hy17=>ZAF rfl rfl cg14<|ZAT ZEC rfl<|ZAF rfl rfl cg14<|ZAK ag44 (Ss (Ss (Ss (Ss (Ss (Ss (Ss Sz))))))) rfl hxs hs fun y18 hy18=>ZAF rfl rfl cg14<|ZCC (r0:=(false,([]:(List Str)),([]:(List Int)),())) ZVC ZVA ZVB rfl rfl (r:=(true,x.v.2.2.2.2.2.2.1,x.v.2.2.2.2.2.2.2.1,())) (.cons (z:=(true:Bool)) Sz (rfl:is _ (true:Bool)) (.cons (z:=x.v.2.2.2.2.2.2.1) (Ss Sz) hy17 (.cons (z:=x.v.2.2.2.2.2.2.2.1) (Ss (Ss Sz)) hy18 .nil))) fun y19 hy19=>ZAF rfl rfl cg14 ?_
   obtain⟨r_1,hx1,hb_b7⟩:=bs hb_b7;refine ZAa (f:=fun a:ZAb×Unit=>ZBn a.1) (a:=((Rec.mk (true,x.v.2.2.2.2.2.2.1,x.v.2.2.2.2.2.2.2.1,()):ZAb),())) rfl func85 rfl rfl (.cons (a:=((Rec.mk (true,x.v.2.2.2.2.2.2.1,x.v.2.2.2.2.2.2.2.1,()):ZAb):ZAb)) hy19 .nil) hs (lM _ (lM _ List.mem_cons_self)) hx1<|ZAY rfl cg14 rfl<|ZAA ?_
   rw[←oi hb_b7];exact⟨hs,FxR rfl⟩
  rename_i cg15;refine ZAD rfl rfl cg15<|ZAD rfl rfl cg15<|ZAD rfl rfl cg15<|ZAD rfl rfl cg15<|ZAD rfl rfl cg15<|ZAD rfl rfl cg15<|ZAX (v:=enc false) rfl cg15 rfl<|ZAA ?_
  rw[←oi hb_b7];exact⟨hs,FxR rfl⟩
 rintro φ s ⟨hs,hF⟩;rw[←hF.eq];refine ZAG rfl<|ZAA<|ZAP ?_
 rw[←oi h];exact⟨rfl,KE1 (a:=b7) rfl rfl (rfl:is _ b7) (rfl:is _ b7)⟩
theorem ZL2 (mx:Int):ZAq Tryz.prog 71 (FnG (NG mx) (fun a:ZAO×Unit=>ZDR a.1)):=fnCG (ZQS mx) ⟨_,func71,rfl⟩<|fun a r h=>ZL1 mx a.1 r h
noncomputable def pt17 (mx:Int):Prims:=(pt16 mx).addG 71 (FnG (NG mx) (fun a:ZAO×Unit=>ZDR a.1))
theorem ZQT (mx:Int):ZAW Tryz.prog (pt17 mx):=ZAS (ZQS mx) (ZL2 mx)
theorem ZJZ (mx:Int) (f:FsR) (r:Bool) (h:ZCN f=some r):MF Tryz.prog (pt17 mx) 53 [enc f] (sG (NG mx)) fun v _=>ris v r:=by
 refine ZAj [(0,enc f)] func53 rfl (by simp only[Tryz.f53];rfl) fun ψ=> ?_
 unfold ZCN at h;have hs:Hp (sG (NG mx)) [.gl (NG mx)]:=Hp.gl0
 refine ZAB<|ZAC<|ZBF (r:=f) rfl (Enc.self f) hs fun m xs s hxs hs=>ZAG (v:=enc false) rfl<|ZAA<|ZAB<|ZAB<|ZAC<|ZAG (v:=enc (0:Int)) rfl<|ZAA<|ZAQ ?_
 obtain⟨o,hl,h⟩:=bs h;refine ZAk (fun(p:Int) φ s=>match p with | i=>Fx φ [(1,(.ptr m 0)),(3,(enc i))]∧Hp s [(.cells m xs),(.gl (NG mx))]) (fun(o:(Unit ⊕ Bool)) e φ s=>match o with | (.inl _)=>e= .exit 0∧Fx φ []∧Hp s [(.gl (NG mx))] | (.inr v)=>e= .ret∧Fx φ [(2,(enc v))]∧Hp s [(.gl (NG mx))]) ?_ hl ⟨FxR rfl,hs⟩ ?_
 ·rintro i o h φ s ⟨hF,hs⟩;rw[←hF.eq];rw[ZEU] at h;refine ZAB<|ZAB<|ZAC<|ZAE rfl<|ZAT ZAz rfl<|ZAK ag22 Sz rfl hxs hs fun y hy=>ZAo underlying22 rfl rfl hy<|ZAJ (v:=enc (decide (i<(f.v.1.length:Int)))) rfl rfl rfl<|ZAA ?_
  split at h
  ·rename_i c';refine ZAH rfl c'<|ZAN<|ZAB<|ZAQ<|ZAB<|ZAC<|ZAT ZAz rfl<|ZAK ag22 Sz rfl hxs hs fun y1 hy1=>ZAE rfl ?_
   obtain⟨v1,hx,h⟩:=bs h;refine ZAu underlying22 sh47 rfl rfl hy1 hx fun p hp=>ZDz ag47 sz47 rfl hp fun y2 hy2=>ZBR (r:=(Rec.mk ((0:Int),(0:Int),(0:Int),(0:Int),([]:(List UInt8)),(str []),([]:(List Str)),([]:(List Int)),([]:(List ZAg)),()):ZAO)) zr47 zf47 hs fun m1 s hs=>ZBC (r:=v1) sz47 rfl rfl zf47 hy2 hs fun xs1 s hxs1 hs=>ZAA<|ZAB<|ZAB<|ZB3 (by decide+kernel) (by kernel_rfl)<|ZA2 (r:=v1) ag47 sz47 rfl hxs1 hs fun y3 hy3=> ?_
   obtain⟨r_,hx1,h⟩:=bs h;refine ZAa (f:=fun a:ZAO×Unit=>ZDR a.1) (a:=(v1,())) rfl func71 rfl rfl (.cons (a:=v1) hy3 .nil) hs (lM _ (lM _ List.mem_cons_self)) hx1<|ZBU (v:=enc (!r_)) rfl rfl<|ZAE rfl ?_
   obtain⟨b,hb_b,h⟩:=bs h;refine ZAR 15 (fun φ s=>Hp s [(.cells m1 xs1),(.cells m xs),(.gl (NG mx))]∧Fx φ [(1,(.ptr m 0)),(3,(enc i)),(4,(.ptr m1 0)),(36,(enc b))]) ?_ ?_
   ·split at hb_b
    ·rename_i cg;refine ZAD rfl rfl (by simpa using cg)<|ZAD rfl rfl (by simpa using cg)<|ZAD rfl rfl (by simpa using cg)<|ZAM rfl rfl<|ZAM rfl rfl<|ZAM rfl rfl<|ZAM rfl rfl<|ZAM rfl rfl<|ZAM rfl rfl<|ZAM rfl rfl<|ZAM rfl rfl<|ZAM rfl rfl<|ZAM rfl rfl<|ZAD rfl rfl (by simpa using cg)<|ZAY (v:=enc true) rfl cg rfl ?_
     refine ZAA ?_
     rw[←oi hb_b];exact⟨hs,FxR rfl⟩
    rename_i cg1;refine ZAF rfl rfl (by simpa using cg1)<|ZAE rfl<|ZAF rfl rfl (by simpa using cg1)<|ZAJ (v:=enc (decide (i > 0))) rfl rfl rfl<|ZAF rfl rfl (by simpa using cg1)<|ZAE rfl ?_
    obtain⟨b1,hb_b1,hb_b⟩:=bs hb_b;refine ZAR 11 (fun φ s=>Hp s [(.cells m1 xs1),(.cells m xs),(.gl (NG mx))]∧Fx φ [(1,(.ptr m 0)),(3,(enc i)),(4,(.ptr m1 0)),(21,(enc (!r_))),(35,(enc b1))]) ?_ ?_
    ·split at hb_b1
     ·rename_i cg2;refine ZAF rfl rfl cg2<|ZAT ZCQ rfl<|ZAF rfl rfl cg2<|ZAK ag3 Sz rfl hxs1 hs fun y4 hy4=> ?_
      cases hy4;refine ZAF rfl rfl cg2<|ZAT ZAz rfl<|ZAF rfl rfl cg2 ?_
      replace hs:=Hp.front [(.cells m1 xs1)] (b:=[(.gl (NG mx))]) hs;refine ZAK ag22 Sz rfl hxs hs fun y5 hy5=>ZAF rfl rfl cg2<|ZAE rfl<|ZAF rfl rfl cg2<|ZAJ (v:=enc (IntKind.i64.wrap (i - 1))) rfl rfl rfl<|ZAF rfl rfl cg2 ?_
      obtain⟨v2,hx2,hb_b1⟩:=bs hb_b1;refine ZAu underlying22 sh47 rfl rfl hy5 hx2 fun p1 hp1=>ZAF rfl rfl cg2<|ZCB ZCQ Sz rfl hp1 fun p2 hp2=>ZAF rfl rfl cg2<|ZBK ag3 rfl hp2 fun y6 hy6=> ?_
      cases hy6;refine ZAF rfl rfl cg2<|ZAJ (v:=enc (decide (v1.v.1≤v2.v.1))) rfl rfl rfl<|ZAF rfl rfl (by simpa using cg1)<|ZAY rfl cg2 rfl<|ZAA ?_
      rw[←oi hb_b1];exact⟨(Hp.front [(.cells m xs),(.gl (NG mx))] (b:=[]) (Hp.front [(.gl (NG mx))] (b:=[(.cells m1 xs1)]) (Hp.front [(.cells m xs),(.cells m1 xs1)] (b:=[]) hs))),FxR rfl⟩
     rename_i cg3;refine ZAD rfl rfl cg3<|ZAD rfl rfl cg3<|ZAD rfl rfl cg3<|ZAD rfl rfl cg3<|ZAD rfl rfl cg3<|ZAD rfl rfl cg3<|ZAD rfl rfl cg3<|ZAD rfl rfl cg3<|ZAD rfl rfl cg3<|ZAD rfl rfl cg3<|ZAF rfl rfl (by simpa using cg1)<|ZAX (v:=enc false) rfl cg3 rfl<|ZAA ?_
     rw[←oi hb_b1];exact⟨hs,FxR rfl⟩
    rintro φ s ⟨hs,hF⟩;rw[←hF.eq];refine ZAX rfl cg1 rfl<|ZAA ?_
    rw[←oi hb_b];exact⟨hs,FxR rfl⟩
   rintro φ s ⟨hs,hF⟩;rw[←hF.eq];refine ZAA ?_
   split at h
   ·rename_i c';refine ZAH rfl c'<|ZAB<|ZAC<|ZAG (v:=enc false) rfl<|ZAA<|ZAP ?_
    show if _ then _ else _
    rw[if_neg (by simp)]
    rw[←oi h];exact⟨_,rfl,rfl,⟨FxR rfl,(Hp.drop [] (b:=[(.gl (NG mx))]) (Hp.drop [] (b:=[(.cells m xs),(.gl (NG mx))]) hs))⟩⟩
   rename_i c';refine ZAI rfl c'<|ZAN<|ZAB<|ZAC<|ZAG (v:=enc (0:Int)) rfl<|ZAA<|ZAQ ?_
   obtain⟨o,hl,h⟩:=bs h;refine ZAk (fun(p:Int) φ s=>match p with | k=>Fx φ [(1,(.ptr m 0)),(3,(enc i)),(4,(.ptr m1 0)),(5,(enc k))]∧Hp s [(.cells m1 xs1),(.cells m xs),(.gl (NG mx))]) (fun(o:(Unit ⊕ Bool)) e φ s=>match o with | (.inl _)=>e= .exit 2∧Fx φ [(1,(.ptr m 0)),(3,(enc i))]∧Hp s [(.cells m xs),(.gl (NG mx))] | (.inr v3)=>e= .ret∧Fx φ [(2,(enc v3))]∧Hp s [(.gl (NG mx))]) ?_ hl ⟨FxR rfl,hs⟩ ?_
   ·rintro k o h φ s ⟨hF,hs⟩;rw[←hF.eq];rw[ZC9] at h;refine ZAB<|ZAB<|ZAC<|ZAE rfl<|ZAT ZEC rfl<|ZAK ag44 (Ss (Ss (Ss (Ss (Ss (Ss (Ss Sz))))))) rfl hxs1 hs fun y7 hy7=>ZAo underlying44 rfl rfl hy7<|ZAJ (v:=enc (decide (k<(v1.v.2.2.2.2.2.2.2.1.length:Int)))) rfl rfl rfl<|ZAA ?_
    split at h
    ·rename_i c';refine ZAH rfl c'<|ZAN<|ZAB<|ZAQ<|ZAB<|ZB3 (by decide+kernel) (by kernel_rfl) ?_
     replace hs:=Hp.front [(.cells m1 xs1)] (b:=[(.gl (NG mx))]) hs;refine ZA2 (r:=f) ag24 sz24 rfl hxs hs fun y8 hy8=>ZAT ZEC rfl ?_
     replace hs:=Hp.front [(.cells m xs)] (b:=[(.gl (NG mx))]) hs;refine ZAK ag44 (Ss (Ss (Ss (Ss (Ss (Ss (Ss Sz))))))) rfl hxs1 hs fun y9 hy9=>ZAE rfl ?_
     obtain⟨v4,hx3,h⟩:=bs h;refine ZAu underlying44 sh3 rfl rfl hy9 hx3 fun p3 hp3=>ZCI rfl ag3 rfl hp3 fun y10 hy10=> ?_
     cases hy10;obtain⟨r_1,hx4,h⟩:=bs h;refine ZAa (f:=fun a:FsR×Int×Unit=>ZBr a.1 a.2.1) (a:=(f,v4,())) rfl func18 rfl rfl (.cons (a:=f) hy8 (.cons (a:=v4) (Enc.self _) .nil)) hs (lM _ (lM _ List.mem_cons_self)) hx4<|ZAJ (v:=enc (decide (r_1<0))) rfl rfl rfl<|ZAA ?_
     split at h
     ·rename_i c';refine ZAH rfl c'<|ZAB<|ZAC<|ZAG (v:=enc false) rfl<|ZAA<|ZAP ?_
      show if _ then _ else _
      rw[if_neg (by simp)]
      rw[←oi h];exact⟨_,rfl,rfl,⟨FxR rfl,(Hp.drop [] (b:=[(.gl (NG mx))]) (Hp.drop [] (b:=[(.cells m xs),(.gl (NG mx))]) hs))⟩⟩
     rename_i c';refine ZAI rfl c'<|ZAN<|ZAC<|ZAE rfl<|ZAJ (v:=enc (IntKind.i64.wrap (k+1))) rfl rfl rfl<|ZAG rfl<|ZAA ?_
     rw[←oi h];exact⟨_,rfl,⟨FxR rfl,hs⟩⟩
    rename_i c';refine ZAI rfl c'<|ZAh ?_
    rw[←oi h];exact⟨_,rfl,rfl,⟨FxR rfl,(Hp.drop [] (b:=[(.cells m xs),(.gl (NG mx))]) hs)⟩⟩
   intro e φ s hE;rcases o with _u | v3
   ·obtain⟨rfl,hF,hs⟩:=hE;rw[←hF.eq];rw[ZET] at h;show if _ then _ else _
    rw[if_pos rfl];refine ZAC<|ZAE rfl<|ZAJ (v:=enc (IntKind.i64.wrap (i+1))) rfl rfl rfl<|ZAG rfl<|ZAA ?_
    rw[←oi h];exact⟨_,rfl,⟨FxR rfl,hs⟩⟩
   obtain⟨rfl,hF,hs⟩:=hE;rw[←hF.eq];rw[ZET] at h;show if _ then _ else _
   rw[if_neg (by simp)]
   show if _ then _ else _
   rw[if_neg (by simp)]
   rw[←oi h];exact⟨_,rfl,rfl,⟨FxR rfl,hs⟩⟩
  rename_i c';refine ZAI rfl c'<|ZAh ?_
  rw[←oi h];exact⟨_,rfl,rfl,⟨trivial,(Hp.drop [] (b:=[(.gl (NG mx))]) hs)⟩⟩
 intro e φ s hE;rcases o with _u | v
 ·obtain⟨rfl,hF,hs⟩:=hE;rw[←hF.eq];rw[ZEV] at h;show if _ then _ else _
  rw[if_pos rfl];refine ZAB<|ZAC<|ZAG (v:=enc true) rfl<|ZAA<|ZAP ?_
  rw[←oi h];exact⟨rfl,KE1 (a:=(true:Bool)) rfl rfl (rfl:is _ (true:Bool)) (rfl:is _ (true:Bool))⟩
 obtain⟨rfl,hF,hs⟩:=hE;rw[←hF.eq];rw[ZEV] at h;show if _ then _ else _
 rw[if_neg (by simp)]
 rw[←oi h];exact⟨rfl,KE1 (a:=v) rfl rfl (rfl:is _ v) (rfl:is _ v)⟩
theorem ZJa (mx:Int):ZAq Tryz.prog 53 (FnG (NG mx) (fun a:FsR×Unit=>ZCN a.1)):=fnCG (ZQT mx) ⟨_,func53,rfl⟩<|fun a r h=>ZJZ mx a.1 r h
noncomputable def pt18 (mx:Int):Prims:=(pt17 mx).addG 53 (FnG (NG mx) (fun a:FsR×Unit=>ZCN a.1))
theorem ZQU (mx:Int):ZAW Tryz.prog (pt18 mx):=ZAS (ZQT mx) (ZJa mx)
theorem ZL3 (mx:Int) (f:FsR) (r:Bool) (h:ZDS f=some r):MF Tryz.prog (pt18 mx) 30 [enc f] (sG (NG mx)) fun v _=>ris v r:=by
 refine ZAj [(0,enc f)] func30 rfl (by simp only[Tryz.f30];rfl) fun ψ=> ?_
 unfold ZDS at h;have hs:Hp (sG (NG mx)) [.gl (NG mx)]:=Hp.gl0
 refine ZAB<|ZAC<|ZBF (r:=f) rfl (Enc.self f) hs fun m xs s hxs hs=>ZAG (v:=enc false) rfl<|ZAA<|ZAB<|ZAC<|ZAT ZAz rfl<|ZAK ag22 Sz rfl hxs hs fun y hy=>ZAo underlying22 rfl rfl hy<|ZAG rfl<|ZAA<|ZAB<|ZAB<|ZAC ?_
 refine ZAE rfl<|ZAJ (v:=enc (decide ((f.v.1.length:Int)<1))) rfl rfl rfl<|ZAE rfl ?_
 obtain⟨b,hb_b,h⟩:=bs h;refine ZAR 3 (fun φ s=>Hp s [(.cells m xs),(.gl (NG mx))]∧Fx φ [(1,(.ptr m 0)),(3,(enc ((f.v.1.length:Int):Int))),(15,(enc b))]) ?_ ?_
 ·split at hb_b
  ·rename_i cg;refine ZAD rfl rfl (by simpa using cg)<|ZAD rfl rfl (by simpa using cg)<|ZAY (v:=enc true) rfl cg rfl<|ZAA ?_
   rw[←oi hb_b];exact⟨hs,FxR rfl⟩
  rename_i cg1;refine ZAF rfl rfl (by simpa using cg1)<|ZAE rfl<|ZAF rfl rfl (by simpa using cg1)<|ZAJ (v:=enc (decide ((f.v.1.length:Int) > 512))) rfl rfl rfl<|ZAX rfl cg1 rfl<|ZAA ?_
  rw[←oi hb_b];exact⟨hs,FxR rfl⟩
 rintro φ s ⟨hs,hF⟩;rw[←hF.eq];refine ZAE rfl ?_
 obtain⟨b1,hb_b1,h⟩:=bs h;refine ZAR 7 (fun φ s=>Hp s [(.cells m xs),(.gl (NG mx))]∧Fx φ [(1,(.ptr m 0)),(3,(enc ((f.v.1.length:Int):Int))),(23,(enc b1))]) ?_ ?_
 ·split at hb_b1
  ·rename_i cg2;refine ZAD rfl rfl (by simpa using cg2)<|ZAD rfl rfl (by simpa using cg2)<|ZAD rfl rfl (by simpa using cg2)<|ZAD rfl rfl (by simpa using cg2)<|ZAD rfl rfl (by simpa using cg2)<|ZAD rfl rfl (by simpa using cg2)<|ZAY (v:=enc true) rfl cg2 rfl<|ZAA ?_
   rw[←oi hb_b1];exact⟨hs,FxR rfl⟩
  rename_i cg3;refine ZAF rfl rfl (by simpa using cg3)<|ZAT ZAz rfl<|ZAF rfl rfl (by simpa using cg3)<|ZAK ag22 Sz rfl hxs hs fun y1 hy1=>ZAF rfl rfl (by simpa using cg3) ?_
  obtain⟨v,hx,hb_b1⟩:=bs hb_b1;refine ZAu underlying22 sh47 rfl rfl hy1 hx fun p hp=>ZAF rfl rfl (by simpa using cg3)<|ZCB ZCQ Sz rfl hp fun p1 hp1=>ZAF rfl rfl (by simpa using cg3)<|ZBK ag3 rfl hp1 fun y2 hy2=> ?_
  cases hy2;refine ZAF rfl rfl (by simpa using cg3)<|ZAJ (v:=enc (v.v.1 !=1)) rfl rfl rfl<|ZAX rfl cg3 rfl<|ZAA ?_
  rw[←oi hb_b1];exact⟨hs,FxR rfl⟩
 rintro φ s ⟨hs,hF⟩;rw[←hF.eq];refine ZAE rfl ?_
 obtain⟨b2,hb_b2,h⟩:=bs h;refine ZAR 7 (fun φ s=>Hp s [(.cells m xs),(.gl (NG mx))]∧Fx φ [(1,(.ptr m 0)),(3,(enc ((f.v.1.length:Int):Int))),(31,(enc b2))]) ?_ ?_
 ·split at hb_b2
  ·rename_i cg4;refine ZAD rfl rfl (by simpa using cg4)<|ZAD rfl rfl (by simpa using cg4)<|ZAD rfl rfl (by simpa using cg4)<|ZAD rfl rfl (by simpa using cg4)<|ZAD rfl rfl (by simpa using cg4)<|ZAD rfl rfl (by simpa using cg4)<|ZAY (v:=enc true) rfl cg4 rfl<|ZAA ?_
   rw[←oi hb_b2];exact⟨hs,FxR rfl⟩
  rename_i cg5;refine ZAF rfl rfl (by simpa using cg5)<|ZAT ZAz rfl<|ZAF rfl rfl (by simpa using cg5)<|ZAK ag22 Sz rfl hxs hs fun y3 hy3=>ZAF rfl rfl (by simpa using cg5) ?_
  obtain⟨v1,hx1,hb_b2⟩:=bs hb_b2;refine ZAu underlying22 sh47 rfl rfl hy3 hx1 fun p2 hp2=>ZAF rfl rfl (by simpa using cg5)<|ZCB ZCE (Ss Sz) rfl hp2 fun p3 hp3=>ZAF rfl rfl (by simpa using cg5)<|ZBK ag41 rfl hp3 fun y4 hy4=> ?_
  cases hy4;refine ZAF rfl rfl (by simpa using cg5)<|ZAJ (v:=enc (v1.v.2.1 !=2)) rfl rfl rfl<|ZAX rfl cg5 rfl<|ZAA ?_
  rw[←oi hb_b2];exact⟨hs,FxR rfl⟩
 rintro φ s ⟨hs,hF⟩;rw[←hF.eq];refine ZAE rfl ?_
 obtain⟨b3,hb_b3,h⟩:=bs h;refine ZAR 4 (fun φ s=>Hp s [(.cells m xs),(.gl (NG mx))]∧Fx φ [(1,(.ptr m 0)),(3,(enc ((f.v.1.length:Int):Int))),(36,(enc b3))]) ?_ ?_
 ·split at hb_b3
  ·rename_i cg6;refine ZAD rfl rfl (by simpa using cg6)<|ZAD rfl rfl (by simpa using cg6)<|ZAD rfl rfl (by simpa using cg6)<|ZAY (v:=enc true) rfl cg6 rfl<|ZAA ?_
   rw[←oi hb_b3];exact⟨hs,FxR rfl⟩
  rename_i cg7;refine ZAF rfl rfl (by simpa using cg7)<|ZAT ZNu rfl<|ZAF rfl rfl (by simpa using cg7)<|ZAK ag3 (Ss Sz) rfl hxs hs fun y5 hy5=> ?_
  cases hy5;refine ZAF rfl rfl (by simpa using cg7)<|ZAJ (v:=enc (decide (f.v.2.1<2))) rfl rfl rfl<|ZAX rfl cg7 rfl<|ZAA ?_
  rw[←oi hb_b3];exact⟨hs,FxR rfl⟩
 rintro φ s ⟨hs,hF⟩;rw[←hF.eq];refine ZAE rfl ?_
 obtain⟨b4,hb_b4,h⟩:=bs h;refine ZAR 4 (fun φ s=>Hp s [(.cells m xs),(.gl (NG mx))]∧Fx φ [(1,(.ptr m 0)),(3,(enc ((f.v.1.length:Int):Int))),(41,(enc b4))]) ?_ ?_
 ·split at hb_b4
  ·rename_i cg8;refine ZAD rfl rfl (by simpa using cg8)<|ZAD rfl rfl (by simpa using cg8)<|ZAD rfl rfl (by simpa using cg8)<|ZAY (v:=enc true) rfl cg8 rfl<|ZAA ?_
   rw[←oi hb_b4];exact⟨hs,FxR rfl⟩
  rename_i cg9;refine ZAF rfl rfl (by simpa using cg9)<|ZAT ZNu rfl<|ZAF rfl rfl (by simpa using cg9)<|ZAK ag3 (Ss Sz) rfl hxs hs fun y6 hy6=> ?_
  cases hy6;refine ZAF rfl rfl (by simpa using cg9)<|ZAJ (v:=enc (decide (f.v.2.1 > 513))) rfl rfl rfl<|ZAX rfl cg9 rfl<|ZAA ?_
  rw[←oi hb_b4];exact⟨hs,FxR rfl⟩
 rintro φ s ⟨hs,hF⟩;rw[←hF.eq];refine ZAE rfl ?_
 obtain⟨b5,hb_b5,h⟩:=bs h;refine ZAR 4 (fun φ s=>Hp s [(.cells m xs),(.gl (NG mx))]∧Fx φ [(1,(.ptr m 0)),(3,(enc ((f.v.1.length:Int):Int))),(46,(enc b5))]) ?_ ?_
 ·split at hb_b5
  ·rename_i cg10;refine ZAD rfl rfl (by simpa using cg10)<|ZAD rfl rfl (by simpa using cg10)<|ZAD rfl rfl (by simpa using cg10)<|ZAY (v:=enc true) rfl cg10 rfl<|ZAA ?_
   rw[←oi hb_b5];exact⟨hs,FxR rfl⟩
  rename_i cg11;refine ZAF rfl rfl (by simpa using cg11)<|ZA2 (r:=f) ag24 sz24 rfl hxs hs fun y7 hy7=>ZAF rfl rfl (by simpa using cg11) ?_
  obtain⟨r_,hx2,hb_b5⟩:=bs hb_b5;refine ZAa (f:=fun a:FsR×Unit=>ZCN a.1) (a:=(f,())) rfl func53 rfl rfl (.cons (a:=f) hy7 .nil) hs (lM _ List.mem_cons_self) hx2<|ZAF rfl rfl (by simpa using cg11)<|ZBU (v:=enc (!r_)) rfl rfl<|ZAX rfl cg11 rfl<|ZAA ?_
  rw[←oi hb_b5];exact⟨hs,FxR rfl⟩
 rintro φ s ⟨hs,hF⟩;rw[←hF.eq];refine ZAA ?_
 split at h
 ·rename_i c';refine ZAH rfl c'<|ZAB<|ZAC<|ZAG (v:=enc false) rfl<|ZAA<|ZAP ?_
  rw[←oi h];exact⟨rfl,KE1 (a:=(false:Bool)) rfl rfl (rfl:is _ (false:Bool)) (rfl:is _ (false:Bool))⟩
 rename_i c';refine ZAI rfl c'<|ZAN<|ZAB<|ZAB<|ZAC<|ZAG (v:=enc (0:Int)) rfl<|ZAA<|ZAQ ?_
 obtain⟨o,hl,h⟩:=bs h;refine ZAk (fun(p:Int) φ s=>match p with | i=>Fx φ [(1,(.ptr m 0)),(3,(enc ((f.v.1.length:Int):Int))),(4,(enc i))]∧Hp s [(.cells m xs),(.gl (NG mx))]) (fun(o:(Unit ⊕ Bool)) e φ s=>match o with | (.inl _)=>e= .exit 0∧Fx φ []∧Hp s [(.gl (NG mx))] | (.inr v2)=>e= .ret∧Fx φ [(2,(enc v2))]∧Hp s [(.gl (NG mx))]) ?_ hl ⟨FxR rfl,hs⟩ ?_
 ·rintro i o h φ s ⟨hF,hs⟩;rw[←hF.eq];rw[ZEH] at h;refine ZAB<|ZAB<|ZAC<|ZAE rfl<|ZAE rfl<|ZAJ (v:=enc (decide (i<(f.v.1.length:Int)))) rfl rfl rfl<|ZAA ?_
  split at h
  ·rename_i c';refine ZAH rfl c'<|ZAN<|ZAB<|ZAQ<|ZAB<|ZAC<|ZAT ZAz rfl<|ZAK ag22 Sz rfl hxs hs fun y8 hy8=>ZAE rfl ?_
   obtain⟨v3,hx3,h⟩:=bs h;refine ZAu underlying22 sh47 rfl rfl hy8 hx3 fun p4 hp4=>ZDz ag47 sz47 rfl hp4 fun y9 hy9=>ZBR (r:=(Rec.mk ((0:Int),(0:Int),(0:Int),(0:Int),([]:(List UInt8)),(str []),([]:(List Str)),([]:(List Int)),([]:(List ZAg)),()):ZAO)) zr47 zf47 hs fun m1 s hs=>ZBC (r:=v3) sz47 rfl rfl zf47 hy9 hs fun xs1 s hxs1 hs=>ZAA<|ZAB<|ZAC ?_
   replace hs:=Hp.front [(.cells m1 xs1)] (b:=[(.gl (NG mx))]) hs;refine ZA2 (r:=f) ag24 sz24 rfl hxs hs fun y10 hy10=>ZAT ZCQ rfl ?_
   replace hs:=Hp.front [(.cells m xs)] (b:=[(.gl (NG mx))]) hs;refine ZAK ag3 Sz rfl hxs1 hs fun y11 hy11=> ?_
   cases hy11;obtain⟨r_1,hx4,h⟩:=bs h;refine ZAa (f:=fun a:FsR×Int×Unit=>ZC1 a.1 a.2.1) (a:=(f,v3.v.1,())) rfl func54 rfl rfl (.cons (a:=f) hy10 (.cons (a:=v3.v.1) (Enc.self _) .nil)) hs (lM _ (lM _ List.mem_cons_self)) hx4<|ZAG rfl<|ZAA<|ZAB<|ZAC<|ZAT ZCE rfl<|ZAK ag41 (Ss Sz) rfl hxs1 hs fun y12 hy12=> ?_
   cases hy12;refine ZAJ (v:=enc (v3.v.2.1 !=2)) rfl rfl rfl<|ZAE rfl ?_
   obtain⟨b6,hb_b6,h⟩:=bs h;refine ZAR 5 (fun φ s=>Hp s [(.cells m1 xs1),(.cells m xs),(.gl (NG mx))]∧Fx φ [(1,(.ptr m 0)),(3,(enc ((f.v.1.length:Int):Int))),(4,(enc i)),(5,(.ptr m1 0)),(6,(enc r_1)),(69,(enc b6))]) ?_ ?_
   ·split at hb_b6
    ·rename_i cg12;refine ZAF rfl rfl cg12<|ZAE rfl<|ZAF rfl rfl cg12<|ZAT ZJn rfl<|ZAF rfl rfl cg12<|ZAK ag3 (Ss (Ss (Ss Sz))) rfl hxs1 hs fun y13 hy13=> ?_
     cases hy13;refine ZAF rfl rfl cg12<|ZAJ (v:=enc (r_1 !=v3.v.2.2.2.1)) rfl rfl rfl<|ZAY rfl cg12 rfl<|ZAA ?_
     rw[←oi hb_b6];exact⟨hs,FxR rfl⟩
    rename_i cg13;refine ZAD rfl rfl cg13<|ZAD rfl rfl cg13<|ZAD rfl rfl cg13<|ZAD rfl rfl cg13<|ZAX (v:=enc false) rfl cg13 rfl<|ZAA ?_
    rw[←oi hb_b6];exact⟨hs,FxR rfl⟩
   rintro φ s ⟨hs,hF⟩;rw[←hF.eq];refine ZAE rfl ?_
   obtain⟨b7,hb_b7,h⟩:=bs h;refine ZAR 23 (fun φ s=>Hp s [(.cells m1 xs1),(.cells m xs),(.gl (NG mx))]∧Fx φ [(1,(.ptr m 0)),(3,(enc ((f.v.1.length:Int):Int))),(4,(enc i)),(93,(enc b7))]) ?_ ?_
   ·split at hb_b7
    ·rename_i cg14;refine ZAD rfl rfl (by simpa using cg14)<|ZAD rfl rfl (by simpa using cg14)<|ZAD rfl rfl (by simpa using cg14)<|ZAD rfl rfl (by simpa using cg14)<|ZAM rfl rfl<|ZAM rfl rfl<|ZAM rfl rfl<|ZAM rfl rfl<|ZAM rfl rfl<|ZAM rfl rfl<|ZAM rfl rfl<|ZAM rfl rfl<|ZAM rfl rfl<|ZAM rfl rfl<|ZAM rfl rfl ?_
     refine ZAM rfl rfl<|ZAM rfl rfl<|ZAM rfl rfl<|ZAM rfl rfl<|ZAM rfl rfl<|ZAM rfl rfl<|ZAD rfl rfl (by simpa using cg14)<|ZAY (v:=enc true) rfl cg14 rfl<|ZAA ?_
     rw[←oi hb_b7];exact⟨hs,FxR rfl⟩
    rename_i cg15;refine ZAF rfl rfl (by simpa using cg15)<|ZAT ZCE rfl<|ZAF rfl rfl (by simpa using cg15)<|ZAK ag41 (Ss Sz) rfl hxs1 hs fun y14 hy14=> ?_
    cases hy14;refine ZAF rfl rfl (by simpa using cg15)<|ZAJ (v:=enc (v3.v.2.1==2)) rfl rfl rfl<|ZAF rfl rfl (by simpa using cg15)<|ZAE rfl ?_
    obtain⟨b8,hb_b8,hb_b7⟩:=bs hb_b7;refine ZAR 18 (fun φ s=>Hp s [(.cells m1 xs1),(.cells m xs),(.gl (NG mx))]∧Fx φ [(1,(.ptr m 0)),(3,(enc ((f.v.1.length:Int):Int))),(4,(enc i)),(70,(enc b6)),(92,(enc b8))]) ?_ ?_
    ·split at hb_b8
     ·rename_i cg16;refine ZAF rfl rfl cg16<|ZAE rfl<|ZAF rfl rfl cg16<|ZAJ (v:=enc (decide (r_1 > 1))) rfl rfl rfl<|ZAF rfl rfl cg16<|ZAE rfl ?_
      obtain⟨b9,hb_b9,hb_b8⟩:=bs hb_b8;refine ZAR 7 (fun φ s=>Hp s [(.cells m1 xs1),(.cells m xs),(.gl (NG mx))]∧Fx φ [(1,(.ptr m 0)),(3,(enc ((f.v.1.length:Int):Int))),(4,(enc i)),(5,(.ptr m1 0)),(70,(enc b6)),(74,(enc (v3.v.2.1==2))),(84,(enc b9))]) ?_ ?_
      ·split at hb_b9
       ·rename_i cg17;refine ZAD rfl rfl (by simpa using cg17)<|ZAD rfl rfl (by simpa using cg17)<|ZAD rfl rfl (by simpa using cg17)<|ZAM rfl rfl<|ZAM rfl rfl<|ZAD rfl rfl (by simpa using cg17)<|ZAF rfl rfl cg16<|ZAY (v:=enc true) rfl cg17 rfl<|ZAA ?_
        rw[←oi hb_b9];exact⟨hs,FxR rfl⟩
       rename_i cg18;refine ZAF rfl rfl (by simpa using cg18)<|ZAE rfl<|ZAF rfl rfl (by simpa using cg18)<|ZAJ (v:=enc (i==0)) rfl rfl rfl<|ZAF rfl rfl (by simpa using cg18)<|ZAE rfl ?_
       obtain⟨b10,hb_b10,hb_b9⟩:=bs hb_b9;refine ZAR 3 (fun φ s=>Hp s [(.cells m1 xs1),(.cells m xs),(.gl (NG mx))]∧Fx φ [(1,(.ptr m 0)),(3,(enc ((f.v.1.length:Int):Int))),(4,(enc i)),(5,(.ptr m1 0)),(70,(enc b6)),(74,(enc (v3.v.2.1==2))),(77,(enc (decide (r_1 > 1)))),(83,(enc b10))]) ?_ ?_
       ·split at hb_b10
        ·rename_i cg19;refine ZAF rfl rfl cg19<|ZAE rfl<|ZAF rfl rfl cg19<|ZAJ (v:=enc (decide (r_1 > 0))) rfl rfl rfl<|ZAF rfl rfl (by simpa using cg18)<|ZAY rfl cg19 rfl<|ZAA ?_
         rw[←oi hb_b10];exact⟨hs,FxR rfl⟩
        rename_i cg20;refine ZAD rfl rfl cg20<|ZAD rfl rfl cg20<|ZAF rfl rfl (by simpa using cg18)<|ZAX (v:=enc false) rfl cg20 rfl<|ZAA ?_
        rw[←oi hb_b10];exact⟨hs,FxR rfl⟩
       rintro φ s ⟨hs,hF⟩;rw[←hF.eq];refine ZAF rfl rfl cg16<|ZAX rfl cg18 rfl<|ZAA ?_
       rw[←oi hb_b9];exact⟨hs,FxR rfl⟩
      rintro φ s ⟨hs,hF⟩;rw[←hF.eq];refine ZAF rfl rfl cg16<|ZAE rfl ?_
      obtain⟨b11,hb_b11,hb_b8⟩:=bs hb_b8;refine ZAR 6 (fun φ s=>Hp s [(.cells m1 xs1),(.cells m xs),(.gl (NG mx))]∧Fx φ [(1,(.ptr m 0)),(3,(enc ((f.v.1.length:Int):Int))),(4,(enc i)),(70,(enc b6)),(74,(enc (v3.v.2.1==2))),(91,(enc b11))]) ?_ ?_
      ·split at hb_b11
       ·rename_i cg21;refine ZAD rfl rfl (by simpa using cg21)<|ZAD rfl rfl (by simpa using cg21)<|ZAD rfl rfl (by simpa using cg21)<|ZAD rfl rfl (by simpa using cg21)<|ZAD rfl rfl (by simpa using cg21)<|ZAF rfl rfl cg16<|ZAY (v:=enc true) rfl cg21 rfl<|ZAA ?_
        rw[←oi hb_b11];exact⟨hs,FxR rfl⟩
       rename_i cg22;refine ZAF rfl rfl (by simpa using cg22) ?_
       replace hs:=Hp.front [(.cells m1 xs1)] (b:=[(.gl (NG mx))]) hs;refine ZA2 (r:=f) ag24 sz24 rfl hxs hs fun y15 hy15=>ZAF rfl rfl (by simpa using cg22)<|ZAT ZCQ rfl<|ZAF rfl rfl (by simpa using cg22) ?_
       replace hs:=Hp.front [(.cells m xs)] (b:=[(.gl (NG mx))]) hs;refine ZAK ag3 Sz rfl hxs1 hs fun y16 hy16=> ?_
       cases hy16;refine ZAF rfl rfl (by simpa using cg22) ?_
       obtain⟨r_2,hx5,hb_b11⟩:=bs hb_b11;refine ZAa (f:=fun a:FsR×Int×Unit=>ZEE a.1 a.2.1) (a:=(f,v3.v.1,())) rfl func55 rfl rfl (.cons (a:=f) hy15 (.cons (a:=v3.v.1) (Enc.self _) .nil)) hs (lM _ (lM _ List.mem_cons_self)) hx5<|ZAF rfl rfl (by simpa using cg22)<|ZBU (v:=enc (!r_2)) rfl rfl<|ZAF rfl rfl cg16<|ZAX rfl cg22 rfl<|ZAA ?_
       rw[←oi hb_b11];exact⟨hs,FxR rfl⟩
      rintro φ s ⟨hs,hF⟩;rw[←hF.eq];refine ZAF rfl rfl (by simpa using cg15)<|ZAY rfl cg16 rfl<|ZAA ?_
      rw[←oi hb_b8];exact⟨hs,FxR rfl⟩
     rename_i cg23;refine ZAD rfl rfl cg23<|ZAD rfl rfl cg23<|ZAD rfl rfl cg23<|ZAM rfl rfl<|ZAM rfl rfl<|ZAM rfl rfl<|ZAM rfl rfl<|ZAM rfl rfl<|ZAM rfl rfl<|ZAD rfl rfl cg23<|ZAD rfl rfl cg23<|ZAM rfl rfl<|ZAM rfl rfl<|ZAM rfl rfl<|ZAM rfl rfl ?_
     refine ZAM rfl rfl<|ZAD rfl rfl cg23<|ZAF rfl rfl (by simpa using cg15)<|ZAX (v:=enc false) rfl cg23 rfl<|ZAA ?_
     rw[←oi hb_b8];exact⟨hs,FxR rfl⟩
    rintro φ s ⟨hs,hF⟩;rw[←hF.eq];refine ZAX rfl cg15 rfl<|ZAA ?_
    rw[←oi hb_b7];exact⟨hs,FxR rfl⟩
   rintro φ s ⟨hs,hF⟩;rw[←hF.eq];refine ZAA ?_
   split at h
   ·rename_i c';refine ZAH rfl c'<|ZAB<|ZAC<|ZAG (v:=enc false) rfl<|ZAA<|ZAP ?_
    show if _ then _ else _
    rw[if_neg (by simp)]
    rw[←oi h];exact⟨_,rfl,rfl,⟨FxR rfl,(Hp.drop [] (b:=[(.gl (NG mx))]) (Hp.drop [] (b:=[(.cells m xs),(.gl (NG mx))]) hs))⟩⟩
   rename_i c';refine ZAI rfl c'<|ZAN<|ZAC<|ZAE rfl<|ZAJ (v:=enc (IntKind.i64.wrap (i+1))) rfl rfl rfl<|ZAG rfl<|ZAA ?_
   rw[←oi h];exact⟨_,rfl,⟨FxR rfl,(Hp.drop [] (b:=[(.cells m xs),(.gl (NG mx))]) hs)⟩⟩
  rename_i c';refine ZAI rfl c'<|ZAh ?_
  rw[←oi h];exact⟨_,rfl,rfl,⟨trivial,(Hp.drop [] (b:=[(.gl (NG mx))]) hs)⟩⟩
 intro e φ s hE;rcases o with _u | v2
 ·obtain⟨rfl,hF,hs⟩:=hE;rw[←hF.eq];rw[ZFl] at h;show if _ then _ else _
  rw[if_pos rfl];refine ZAB<|ZAC<|ZAG (v:=enc true) rfl<|ZAA<|ZAP ?_
  rw[←oi h];exact⟨rfl,KE1 (a:=(true:Bool)) rfl rfl (rfl:is _ (true:Bool)) (rfl:is _ (true:Bool))⟩
 obtain⟨rfl,hF,hs⟩:=hE;rw[←hF.eq];rw[ZFl] at h;show if _ then _ else _
 rw[if_neg (by simp)]
 rw[←oi h];exact⟨rfl,KE1 (a:=v2) rfl rfl (rfl:is _ v2) (rfl:is _ v2)⟩
theorem ZL4 (mx:Int):ZAq Tryz.prog 30 (FnG (NG mx) (fun a:FsR×Unit=>ZDS a.1)):=fnCG (ZQU mx) ⟨_,func30,rfl⟩<|fun a r h=>ZL3 mx a.1 r h
noncomputable def pt19 (mx:Int):Prims:=(pt18 mx).addG 30 (FnG (NG mx) (fun a:FsR×Unit=>ZDS a.1))
theorem ZQV (mx:Int):ZAW Tryz.prog (pt19 mx):=ZAS (ZQU mx) (ZL4 mx)
theorem ZKe (mx:Int) (f:FsR) (dir:Int) (s_:Str) (r:Int×Int) (h:ZCV f dir s_=some r):MF Tryz.prog (pt19 mx) 19 [enc f,enc dir,enc s_] (sG (NG mx)) fun v _=>ris v r:=by
 refine ZAj [(0,enc f),(1,enc dir),(2,enc s_)] func19 rfl (by simp only[Tryz.f19];rfl) fun ψ=> ?_
 unfold ZCV at h;have hs:Hp (sG (NG mx)) [.gl (NG mx)]:=Hp.gl0
 refine ZAB<|ZAC<|ZBF (r:=f) rfl (Enc.self f) hs fun m xs s hxs hs=>ZAG (v:=enc (0:Int)) rfl<|ZAG (v:=enc (0:Int)) rfl<|ZAA<|ZAB<|ZAB<|ZAC<|ZA2 (r:=f) ag24 sz24 rfl hxs hs fun y hy=> ?_
 obtain⟨r_,hx,h⟩:=bs h;refine ZAa (f:=fun a:FsR×Unit=>ZDS a.1) (a:=(f,())) rfl func30 rfl rfl (.cons (a:=f) hy .nil) hs (lM _ List.mem_cons_self) hx<|ZBU (v:=enc (!r_)) rfl rfl<|ZAA ?_
 split at h
 ·rename_i c';refine ZAH rfl c'<|ZAB<|ZAC<|ZAG (v:=enc (0:Int)) rfl<|ZAG (v:=enc (2:Int)) rfl<|ZAA<|ZAP ?_
  rw[←oi h];exact⟨rfl,KE2 (a1:=(0:Int)) (a2:=(2:Int)) rfl rfl rfl (rfl:is _ (0:Int)) (rfl:is _ (2:Int)) ⟨_,_,rfl,(rfl:is _ (0:Int)),(rfl:is _ (2:Int))⟩⟩
 rename_i c';refine ZAI rfl c'<|ZAN<|ZAB<|ZAC<|ZA2 (r:=f) ag24 sz24 rfl hxs hs fun y1 hy1=>ZAE rfl ?_
 obtain⟨r_1,hx1,h⟩:=bs h;refine ZAa (f:=fun a:FsR×Int×Unit=>ZBr a.1 a.2.1) (a:=(f,dir,())) rfl func18 rfl rfl (.cons (a:=f) hy1 (.cons (a:=dir) (Enc.self _) .nil)) hs (lM _ List.mem_cons_self) hx1<|ZAG rfl<|ZAA<|ZAB<|ZAB<|ZAC<|ZAE rfl<|ZAJ (v:=enc (decide (r_1<0))) rfl rfl rfl<|ZAA ?_
 split at h
 ·rename_i c';refine ZAH rfl c'<|ZAB<|ZAC<|ZAG (v:=enc (0:Int)) rfl<|ZAG (v:=enc (201:Int)) rfl<|ZAA<|ZAP ?_
  rw[←oi h];exact⟨rfl,KE2 (a1:=(0:Int)) (a2:=(201:Int)) rfl rfl rfl (rfl:is _ (0:Int)) (rfl:is _ (201:Int)) ⟨_,_,rfl,(rfl:is _ (0:Int)),(rfl:is _ (201:Int))⟩⟩
 rename_i c';refine ZAI rfl c'<|ZAN<|ZAB<|ZAB<|ZAC<|ZAT ZAz rfl<|ZAK ag22 Sz rfl hxs hs fun y2 hy2=>ZAE rfl ?_
 obtain⟨v,hx2,h⟩:=bs h;refine ZAu underlying22 sh47 rfl rfl hy2 hx2 fun p hp=>ZCB ZCE (Ss Sz) rfl hp fun p1 hp1=>ZBK ag41 rfl hp1 fun y3 hy3=> ?_
 cases hy3;refine ZAJ (v:=enc (v.v.2.1 !=2)) rfl rfl rfl<|ZAA ?_
 split at h
 ·rename_i c';refine ZAH rfl c'<|ZAB<|ZAC<|ZAG (v:=enc (0:Int)) rfl<|ZAG (v:=enc (203:Int)) rfl<|ZAA<|ZAP ?_
  rw[←oi h];exact⟨rfl,KE2 (a1:=(0:Int)) (a2:=(203:Int)) rfl rfl rfl (rfl:is _ (0:Int)) (rfl:is _ (203:Int)) ⟨_,_,rfl,(rfl:is _ (0:Int)),(rfl:is _ (203:Int))⟩⟩
 rename_i c';refine ZAI rfl c'<|ZAN<|ZAB<|ZAC<|ZAT ZAz rfl<|ZAK ag22 Sz rfl hxs hs fun y4 hy4=>ZAE rfl ?_
 obtain⟨v1,hx3,h⟩:=bs h;refine ZAu underlying22 sh47 rfl rfl hy4 hx3 fun p2 hp2=>ZDz ag47 sz47 rfl hp2 fun y5 hy5=>ZAE rfl ?_
 obtain⟨r_2,hx4,h⟩:=bs h;refine ZAa (f:=fun a:ZAO×Str×Unit=>ZI5 a.1 a.2.1) (a:=(v1,s_,())) rfl func38 rfl rfl (.cons (a:=v1) hy5 (.cons (a:=s_) (Enc.self _) .nil)) hs (lM _ List.mem_cons_self) hx4<|ZAE (v:=res r_2) rfl<|ZA1 rfl rfl<|ZA1 rfl rfl<|ZAG rfl<|ZAG rfl<|ZAA<|ZAB<|ZAB<|ZAC<|ZAE rfl<|ZBU (v:=enc (!r_2.2)) rfl rfl<|ZAA ?_
 split at h
 ·rename_i c';refine ZAH rfl c'<|ZAB<|ZAC<|ZAG (v:=enc (0:Int)) rfl<|ZAG (v:=enc (201:Int)) rfl<|ZAA<|ZAP ?_
  rw[←oi h];exact⟨rfl,KE2 (a1:=(0:Int)) (a2:=(201:Int)) rfl rfl rfl (rfl:is _ (0:Int)) (rfl:is _ (201:Int)) ⟨_,_,rfl,(rfl:is _ (0:Int)),(rfl:is _ (201:Int))⟩⟩
 rename_i c';refine ZAI rfl c'<|ZAN<|ZAB<|ZAC<|ZAT ZAz rfl<|ZAK ag22 Sz rfl hxs hs fun y6 hy6=>ZAE rfl ?_
 obtain⟨v2,hx5,h⟩:=bs h;refine ZAu underlying22 sh47 rfl rfl hy6 hx5 fun p3 hp3=>ZCB ZEC (Ss (Ss (Ss (Ss (Ss (Ss (Ss Sz))))))) rfl hp3 fun p4 hp4=>ZBK ag44 rfl hp4 fun y7 hy7=>ZAE rfl ?_
 obtain⟨v3,hx6,h⟩:=bs h;refine ZAu underlying44 sh3 rfl rfl hy7 hx6 fun p5 hp5=>ZCI rfl ag3 rfl hp5 fun y8 hy8=> ?_
 cases hy8;refine ZAG rfl<|ZAG (v:=enc (0:Int)) rfl<|ZAA<|ZAP ?_
 rw[←oi h];exact⟨rfl,KE2 (a1:=v3) (a2:=(0:Int)) rfl rfl rfl (rfl:is _ v3) (rfl:is _ (0:Int)) ⟨_,_,rfl,(rfl:is _ v3),(rfl:is _ (0:Int))⟩⟩
theorem ZKf (mx:Int):ZAq Tryz.prog 19 (FnG (NG mx) (fun a:FsR×Int×Str×Unit=>ZCV a.1 a.2.1 a.2.2.1)):=fnCG (ZQV mx) ⟨_,func19,rfl⟩<|fun a r h=>ZKe mx a.1 a.2.1 a.2.2.1 r h
noncomputable def pt20 (mx:Int):Prims:=(pt19 mx).addG 19 (FnG (NG mx) (fun a:FsR×Int×Str×Unit=>ZCV a.1 a.2.1 a.2.2.1))
theorem ZQW (mx:Int):ZAW Tryz.prog (pt20 mx):=ZAS (ZQV mx) (ZKf mx)
end Go.Ai.Rab
