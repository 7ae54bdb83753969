/- My own texts DevPgB, one behind the other. -/
import Derived.Test.YtcffjblfdjkcbaaGreatDoorWAE
import Derived.Test.YtcffjblfdjkcbaaGreatDoorWAF
set_option linter.unusedVariables false
set_option linter.unusedSimpArgs false
set_option maxRecDepth 100000
set_option maxHeartbeats 4000000
attribute [local irreducible] Go.Ai.TC Go.Ai.TO Go.Ai.MF Go.Ai.ZEO Go.Ai.ZCl Go.Ai.encR
open Go.Ai.Enc (enc is)
open Go.Ai.Res (res ris)
open Go.Ai.Args (args)
open Go.Ai.Flds (fe fi fk)
namespace Go.Ai
abbrev ZHn:Type:=(Rec (Int×Unit))
end Go.Ai
namespace Go.Ai.TTryz
open Go.Proofs
theorem ze3:∃a,ZBU Tryz.prog 3=some a∧is a (0:Int):=⟨enc (0:Int),by kernel_rfl,Enc.self _⟩
theorem ze4:∃a,ZBU Tryz.prog 4=some a∧is a false:=⟨enc false,by kernel_rfl,Enc.self _⟩
theorem ze5:∃a,ZBU Tryz.prog 5=some a∧is a (0:UInt8):=⟨enc (0:UInt8),by kernel_rfl,Enc.self _⟩
theorem ze9:∃a,ZBU Tryz.prog 9=some a∧is a (str []):=⟨enc (str []),by kernel_rfl,Enc.self _⟩
theorem ze33:∃a,ZBU Tryz.prog 33=some a∧is a ([]:(List UInt8)):=⟨.nils,by kernel_rfl,isL.nil⟩
theorem ZTI:∃a,ZBU Tryz.prog 122=some a∧is a (str []):=⟨enc (str []),by kernel_rfl,Enc.self _⟩
def ZSW:List AV:=[enc (0:Int)]
theorem ZTJ:ZBU Tryz.prog 115=some (.agg ZSW):=by kernel_rfl
theorem ZTK:fi ZSW (Rec.mk ((0:Int),()):ZHn).v:=⟨_,_,rfl,rfl,rfl⟩
theorem ZTL:buB Tryz.prog 115 1=true:=by kernel_rfl
end Go.Ai.TTryz
namespace Go.Ai.Rab
open Go.Proofs TTryz Tryz
noncomputable def ZG8 (x:ZAD) (x1:(PtrC Int)):Option (Bool):=
 some ((x.v.1==x1.v))
noncomputable def ZDK (s_:(List ZAD)) (f:(Clo 31 ((PtrC Int)×Unit))):Int→Option (Int ⊕ (Unit ⊕ Int))
 | v=>(if(decide (v<(s_.length:Int))) then((nth s_ v).bind fun v2=>((ZG8 v2 f.cap.1).bind fun r_=>(if r_ then some (.inr (.inr v)) else some (.inl (IntKind.i64.wrap (v+1)))))) else some (.inr (.inl ())))
noncomputable def ZDL:(Unit ⊕ Int)→Option (Int)
 | (.inl _)=>some ((-1))
 | (.inr v1)=>some (v1)
noncomputable def ZBf (s_:(List ZAD)) (f:(Clo 31 ((PtrC Int)×Unit))):Option (Int):=
 ((loop (ZDK s_ f) 0).bind (ZDL))
noncomputable def ZAs (f:FsR) (num:Int):Option (Int):=
 ((ZBf f.v.1 (Clo.mk ((PtrC.mk num:PtrC Int),()):Clo 31 ((PtrC Int)×Unit))).bind fun r_=>some (r_))
noncomputable def ZGc (x:Int):Option (Bool):=
 some ((x !=x))
noncomputable def cmpI (x:Int) (y:Int):Option (Int):=
 ((ZGc x).bind fun r_=>((ZGc y).bind fun r_1=>(if r_ then(if r_1 then some (0) else some ((-1))) else(if r_1 then some (1) else(if(decide (x<y)) then some ((-1)) else(if(decide (x > y)) then some (1) else some (0)))))))
noncomputable def ZGd (x:Str):Option (Bool):=
 some ((!eqS x x))
noncomputable def ZCI (x:Str):Option (Bool):=
 some ((!eqS x x))
noncomputable def ZK3 (x:Str) (y:Str):Option (Bool):=
 ((ZGd x).bind fun r_=>((if r_ then((ZGd y).bind fun r_1=>some (!r_1)) else some false).bind fun b=>((if b then some true else some (ltS x y)).bind fun b1=>some (b1))))
noncomputable def ZL4 (x:(List Str)) (target:Str):(Int×Int)→Option ((Int×Int) ⊕ Int)
 | (i,j)=>(if(decide (i<j)) then((nth x (IntKind.i64.wrap (((UInt64.ofInt (((((UInt64.ofInt (IntKind.i64.wrap (i+j)))).toNat:Int)).fdiv (2 ^ 1)))).toNat:Int))).bind fun v=>((ZK3 v target).bind fun r_=>(if r_ then some (.inl ((IntKind.i64.wrap ((IntKind.i64.wrap (((UInt64.ofInt (((((UInt64.ofInt (IntKind.i64.wrap (i+j)))).toNat:Int)).fdiv (2 ^ 1)))).toNat:Int))+1)),j)) else some (.inl (i,(IntKind.i64.wrap (((UInt64.ofInt (((((UInt64.ofInt (IntKind.i64.wrap (i+j)))).toNat:Int)).fdiv (2 ^ 1)))).toNat:Int))))))) else some (.inr i))
noncomputable def ZOp (x:(List Str)) (target:Str):Int→Option (Int×Bool)
 | i1=>((if(decide (i1<(x.length:Int))) then((nth x i1).bind fun v1=>((if(eqS v1 target) then some true else((nth x i1).bind fun v2=>((ZCI v2).bind fun r_1=>((if r_1 then((ZCI target).bind fun r_2=>some r_2) else some false).bind fun b2=>some b2)))).bind fun b1=>some b1)) else some false).bind fun b=>some (i1,b))
noncomputable def binS (x:(List Str)) (target:Str):Option (Int×Bool):=
 ((loop (ZL4 x target) (0,(x.length:Int))).bind (ZOp x target))
noncomputable def ZIN (s_:(List Str)) (x:Str):Int→Option (Int ⊕ (Unit ⊕ Int))
 | v=>(if(decide (v<(s_.length:Int))) then((nth s_ v).bind fun v2=>(if(eqS x v2) then some (.inr (.inr v)) else some (.inl (IntKind.i64.wrap (v+1))))) else some (.inr (.inl ())))
noncomputable def ZIO:(Unit ⊕ Int)→Option (Int)
 | (.inl _)=>some ((-1))
 | (.inr v1)=>some (v1)
noncomputable def ZIP (s_:(List Str)) (x:Str):Option (Int):=
 ((loop (ZIN s_ x) 0).bind (ZIO))
noncomputable def ZDk (s_:(List Str)) (x:Str):Option (Bool):=
 ((ZIP s_ x).bind fun r_=>some ((decide (r_≥0))))
noncomputable def ZFc (x3:UInt64) (n2:Int):Option (Int):=
 ((nth (α:=UInt8) (str [0,1,2,2,3,3,3,3,4,4,4,4,4,4,4,4,5,5,5,5,5,5,5,5,5,5,5,5,5,5,5,5,6,6,6,6,6,6,6,6,6,6,6,6,6,6,6,6,6,6,6,6,6,6,6,6,6,6,6,6,6,6,6,6,7,7,7,7,7,7,7,7,7,7,7,7,7,7,7,7,7,7,7,7,7,7,7,7,7,7,7,7,7,7,7,7,7,7,7,7,7,7,7,7,7,7,7,7,7,7,7,7,7,7,7,7,7,7,7,7,7,7,7,7,7,7,7,7,8,8,8,8,8,8,8,8,8,8,8,8,8,8,8,8,8,8,8,8,8,8,8,8,8,8,8,8,8,8,8,8,8,8,8,8,8,8,8,8,8,8,8,8,8,8,8,8,8,8,8,8,8,8,8,8,8,8,8,8,8,8,8,8,8,8,8,8,8,8,8,8,8,8,8,8,8,8,8,8,8,8,8,8,8,8,8,8,8,8,8,8,8,8,8,8,8,8,8,8,8,8,8,8,8,8,8,8,8,8,8,8,8,8,8,8,8,8,8,8,8,8,8,8,8,8,8,8]) (((UInt8.ofInt ((x3).toNat:Int))).toNat:Int)).bind fun c=>some ((IntKind.i64.wrap (n2+((c).toNat:Int)))))
noncomputable def ZFd (x2:UInt64) (n1:Int):Option (Int):=
 (if(decide (((x2).toNat:Int)≥256)) then(ZFc (UInt64.ofInt ((((x2).toNat:Int)).fdiv (2 ^ 8))) (IntKind.i64.wrap (n1+8))) else(ZFc x2 n1))
noncomputable def ZFe (x1:UInt64) (n:Int):Option (Int):=
 (if(decide (((x1).toNat:Int)≥65536)) then(ZFd (UInt64.ofInt ((((x1).toNat:Int)).fdiv (2 ^ 16))) (IntKind.i64.wrap (n+16))) else(ZFd x1 n))
noncomputable def ZK4 (x:UInt64):Option (Int):=
 (if(decide (((x).toNat:Int)≥4294967296)) then(ZFe (UInt64.ofInt ((((x).toNat:Int)).fdiv (2 ^ 32))) 32) else(ZFe x 0))
noncomputable def ZEh (x:UInt64):Option (Int):=
 ((ZK4 x).bind fun r_=>some ((imax 1 (IntKind.i64.wrap (((IntKind.i64.wrap ((IntKind.i64.wrap (r_+7)) - 1))).tdiv 7)))))
noncomputable def ZER (s_:(List ZAD)):Option ((List ZAD)):=
 ((app 144 ([]:(List ZAD)) s_).bind fun l=>some (l))
noncomputable def ZES (s_:(List Str)):Option ((List Str)):=
 ((app 16 ([]:(List Str)) s_).bind fun l=>some (l))
noncomputable def ZET (s_:(List Int)):Option ((List Int)):=
 ((app 8 ([]:(List Int)) s_).bind fun l=>some (l))
noncomputable def ZC8 (s_:(List UInt8)):Option ((List UInt8)):=
 ((app 1 ([]:(List UInt8)) s_).bind fun l=>some (l))
noncomputable def ZC9 (s_:(List ZAd)):Option ((List ZAd)):=
 ((app 40 ([]:(List ZAd)) s_).bind fun l=>some (l))
noncomputable def ZG9 (y:ZAD):Option (Int):=
 some (y.v.1)
noncomputable def ZDl (x:ZAD) (n:Int) (x1:(PtrC (Clo 57 (Unit)))):Option (Int):=
 ((ZG9 x).bind fun r_=>((cmpI r_ n).bind fun r_1=>some (r_1)))
noncomputable def ZEi (x:(List ZAD)) (target:Int) (cmp:(Clo 78 ((PtrC (Clo 57 (Unit)))×Unit))):(Int×Int)→Option ((Int×Int) ⊕ Int)
 | (i,j)=>(if(decide (i<j)) then((nth x (IntKind.i64.wrap (((UInt64.ofInt (((((UInt64.ofInt (IntKind.i64.wrap (i+j)))).toNat:Int)).fdiv (2 ^ 1)))).toNat:Int))).bind fun v=>((ZDl v target cmp.cap.1).bind fun r_=>(if(decide (r_<0)) then some (.inl ((IntKind.i64.wrap ((IntKind.i64.wrap (((UInt64.ofInt (((((UInt64.ofInt (IntKind.i64.wrap (i+j)))).toNat:Int)).fdiv (2 ^ 1)))).toNat:Int))+1)),j)) else some (.inl (i,(IntKind.i64.wrap (((UInt64.ofInt (((((UInt64.ofInt (IntKind.i64.wrap (i+j)))).toNat:Int)).fdiv (2 ^ 1)))).toNat:Int))))))) else some (.inr i))
noncomputable def ZGe (x:(List ZAD)) (target:Int) (cmp:(Clo 78 ((PtrC (Clo 57 (Unit)))×Unit))):Int→Option (Int×Bool)
 | i1=>((if(decide (i1<(x.length:Int))) then((nth x i1).bind fun v1=>((ZDl v1 target cmp.cap.1).bind fun r_1=>some (r_1==0))) else some false).bind fun b=>some (i1,b))
noncomputable def ZCo (x:(List ZAD)) (target:Int) (cmp:(Clo 78 ((PtrC (Clo 57 (Unit)))×Unit))):Option (Int×Bool):=
 ((loop (ZEi x target cmp) (0,(x.length:Int))).bind (ZGe x target cmp))
noncomputable def ZCK (l:(List ZAD)) (num:Int) (of:(Clo 57 (Unit))):Option (Int×Bool):=
 ((ZCo l num (Clo.mk ((PtrC.mk of:PtrC (Clo 57 (Unit))),()):Clo 78 ((PtrC (Clo 57 (Unit)))×Unit))).bind fun r_=>some (r_.1,r_.2))
noncomputable def ZFI (n:Int) (x:(PtrC ZAc)):Option (Bool):=
 ((if(decide (n<0)) then some true else some (decide (n > 1024))).bind fun b=>((if b then some true else((if x.v.v.1 then some (n==0) else some false).bind fun b2=>some b2)).bind fun b1=>some (b1)))
noncomputable def ZDM (s_:(List Int)) (f:(Clo 74 ((PtrC ZAc)×Unit))):Int→Option (Int ⊕ (Unit ⊕ Int))
 | v=>(if(decide (v<(s_.length:Int))) then((nth s_ v).bind fun v2=>((ZFI v2 f.cap.1).bind fun r_=>(if r_ then some (.inr (.inr v)) else some (.inl (IntKind.i64.wrap (v+1)))))) else some (.inr (.inl ())))
noncomputable def ZDN:(Unit ⊕ Int)→Option (Int)
 | (.inl _)=>some ((-1))
 | (.inr v1)=>some (v1)
noncomputable def ZBg (s_:(List Int)) (f:(Clo 74 ((PtrC ZAc)×Unit))):Option (Int):=
 ((loop (ZDM s_ f) 0).bind (ZDN))
noncomputable def ZBD (s_:(List Int)) (f:(Clo 74 ((PtrC ZAc)×Unit))):Option (Bool):=
 ((ZBg s_ f).bind fun r_=>some ((decide (r_≥0))))
noncomputable def ZA7 (e_:Int):Option ((Err 111)):=
 some ((Err.mk (some e_):Err 111))
noncomputable def ZHA (l:(List UInt8)) (x:UInt64):((List UInt8)×Int)→Option (((List UInt8)×Int) ⊕ (List UInt8))
 | (out_,v)=>(if(decide (v<(l.length:Int))) then((shrU x (IntKind.i64.wrap (7*v))).bind fun u=>((nth out_ v).bind fun v1=>some (.inl ((out_.set v.toNat (UInt8.ofInt (ZP9 .u8 (((UInt8.ofInt ((u).toNat:Int))).toNat:Int) 128))),(IntKind.i64.wrap (v+1)))))) else some (.inr out_))
noncomputable def ZJJ:(List UInt8)→Option ((List UInt8))
 | out_1=>((nth out_1 (IntKind.i64.wrap ((out_1.length:Int) - 1))).bind fun v2=>((nth out_1 (IntKind.i64.wrap ((out_1.length:Int) - 1))).bind fun v3=>some ((out_1.set (IntKind.i64.wrap ((out_1.length:Int) - 1)).toNat (UInt8.ofInt (ZIJ .u8 ((v2).toNat:Int) 128))))))
noncomputable def ZGH (x:UInt64):Option ((List UInt8)):=
 ((ZEh x).bind fun r_=>((mkz 1 r_ (0:UInt8)).bind fun l=>((loop (ZHA l x) (l,0)).bind (ZJJ))))
noncomputable def ZCS (b:(List UInt8)):Option ((List UInt8)):=
 ((ZGH (UInt64.ofInt (b.length:Int))).bind fun r_=>((app 1 r_ b).bind fun l=>some (l)))
noncomputable def ZBx (v:Int) (b3:(List UInt8)):Option (((List UInt8)×Int) ⊕ (List UInt8)):=
 some (.inl (b3,(IntKind.i64.wrap (v+1))))
noncomputable def ZFf (b1:(List UInt8)) (v:Int) (n:Int):Option (((List UInt8)×Int) ⊕ (List UInt8)):=
 ((ZGH (UInt64.ofInt n)).bind fun r_3=>((app 1 b1 r_3).bind fun l4=>(ZBx v l4)))
noncomputable def ZFg (fields:(List AnyV)):((List UInt8)×Int)→Option (((List UInt8)×Int) ⊕ (List UInt8))
 | (b1,v)=>(if(decide (v<(fields.length:Int))) then((nth fields v).bind fun v1=>((asT 3 (0:Int) v1).bind fun as_=>(if as_.2 then((ZGH (UInt64.ofInt as_.1)).bind fun r_=>((app 1 b1 r_).bind fun l=>(ZBx v l))) else((asT 9 (str []) v1).bind fun as_1=>(if as_1.2 then((app 1 ([]:(List UInt8)) as_1.1).bind fun l1=>((ZCS l1).bind fun r_1=>((app 1 b1 r_1).bind fun l2=>(ZBx v l2)))) else((asT 33 ([]:(List UInt8)) v1).bind fun as_2=>(if as_2.2 then((ZCS as_2.1).bind fun r_2=>((app 1 b1 r_2).bind fun l3=>(ZBx v l3))) else((asT 122 (str []) v1).bind fun as_3=>(if as_3.2 then none else((asT 4 false v1).bind fun as_4=>(if as_4.2 then(if as_4.1 then(ZFf b1 v 1) else(ZFf b1 v 0)) else(ZBx v b1)))))))))))) else some (.inr b1))
noncomputable def ZJK:(List UInt8)→Option ((List UInt8))
 | b2=>some (b2)
noncomputable def ZDO (b:(List UInt8)) (fields:(List AnyV)):Option ((List UInt8)):=
 ((loop (ZFg fields) (b,0)).bind (ZJK))
theorem ZNR (x:ZAD) (x1:(PtrC Int)) (r:Bool) (h:ZG8 x x1=some r):MF Tryz.prog pz30 31 [enc x,enc x1] s0 fun v _=>ris v r:=by
 refine ZAm [(0,enc x),(1,enc x1)] func31 rfl (by simp only[Tryz.f31];rfl) fun ψ=> ?_
 unfold ZG8 at h;refine ZAB<|ZAC<|ZBM (r:=x) rfl (Enc.self x) Hp.nil fun m xs s hxs hs=>ZAG (v:=enc false) rfl<|ZAA<|ZAB<|ZAC<|ZAP ZB6 rfl<|ZAL ag3 Sz rfl hxs hs fun y hy=> ?_
 cases hy;refine ZQu ag3 rfl (Enc.self x1) fun y1 hy1=> ?_
 cases hy1;refine ZAM (v:=enc (x.v.1==x1.v)) rfl rfl rfl<|ZAG rfl<|ZAA<|ZAN ?_
 rw[←oi h];exact⟨rfl,KE1 (a:=((x.v.1==x1.v):Bool)) rfl rfl (rfl:is _ ((x.v.1==x1.v):Bool)) (rfl:is _ ((x.v.1==x1.v):Bool))⟩
theorem ZNS:ZAv Tryz.prog 31 (fun _=>Fn (fun a:ZAD×(PtrC Int)×Unit=>ZG8 a.1 a.2.1)):=fnC ZDJ ⟨_,func31,rfl⟩<|fun a r h=>ZNR a.1 a.2.1 r h
noncomputable def py1:Prims:=pz30.add 31 (Fn (fun a:ZAD×(PtrC Int)×Unit=>ZG8 a.1 a.2.1))
theorem ZQv:ZAS Tryz.prog py1:=ZAV ZDJ ZNS
theorem ZHc (s_:(List ZAD)) (f:(Clo 31 ((PtrC Int)×Unit))) (r:Int) (h:ZBf s_ f=some r):MF Tryz.prog py1 30 [enc s_,enc f] s0 fun v _=>ris v r:=by
 refine ZAm [(0,enc s_),(1,enc f)] func30 rfl (by simp only[Tryz.f30];rfl) fun ψ=> ?_
 unfold ZBf at h;refine ZAB<|ZAC<|ZAG (v:=enc (0:Int)) rfl<|ZAA<|ZAB<|ZAB<|ZAC<|ZAE rfl<|ZAu underlying22 rfl rfl (Enc.self s_)<|ZAE (v:=enc (0:Int)) rfl<|ZAA<|ZAR ?_
 obtain⟨o,hl,h⟩:=bs h;refine ZA6 (fun(p:Int) φ s=>match p with | v=>Fx φ [(0,(enc (s_:(List ZAD)))),(1,(enc (f:(Clo 31 ((PtrC Int)×Unit))))),(7,(enc ((s_.length:Int):Int))),(8,(enc v))]) (fun(o:(Unit ⊕ Int)) e φ s=>match o with | (.inl _)=>e= .exit 0∧Fx φ [] | (.inr v1)=>e= .ret∧Fx φ [(4,(enc v1))]) ?_ hl (FxR rfl) ?_
 ·rintro v o h φ s hF;rw[←hF.eq];rw[ZDK] at h;refine ZAB<|ZAC<|ZAM (v:=enc (decide (v<(s_.length:Int)))) rfl rfl rfl<|ZAA<|ZAB ?_
  split at h
  ·rename_i c';refine ZAH rfl c'<|ZAO<|ZAB<|ZAR<|ZAB<|ZAC<|ZAE rfl<|ZAG rfl<|ZAA<|ZAB<|ZAC<|ZAE rfl<|ZAE rfl<|ZAE rfl ?_
   obtain⟨v2,hx,h⟩:=bs h;refine ZBG underlying22 sh38 rfl rfl (Enc.self s_) hx fun p hp=>ZB1 ag38 sz38 rfl hp fun y hy=> ?_
   obtain⟨r_,hx1,h⟩:=bs h;refine ZK2 (f:=fun a:ZAD×(PtrC Int)×Unit=>ZG8 a.1 a.2.1) (a:=(v2,f.cap)) rfl func31 rfl rfl (Enc.self f) rfl (fun _ h=>(.cons (a:=v2) hy h)) hx1<|ZAA ?_
   split at h
   ·rename_i c';refine ZAH rfl c'<|ZAB<|ZAC<|ZAE rfl<|ZAG rfl<|ZAA<|ZAN ?_
    show if _ then _ else _
    rw[if_neg (by simp)]
    rw[←oi h];exact⟨_,rfl,rfl,FxR rfl⟩
   rename_i c';refine ZAI rfl c'<|ZAO<|ZAC<|ZAM (v:=enc (IntKind.i64.wrap (v+1))) rfl rfl rfl<|ZAE rfl<|ZAA ?_
   rw[←oi h];exact⟨_,rfl,FxR rfl⟩
  rename_i c';refine ZAI rfl c'<|ZA0 ?_
  rw[←oi h];exact⟨_,rfl,rfl,trivial⟩
 intro e φ s hE;rcases o with _u | v1
 ·obtain⟨rfl,hF⟩:=hE;rw[←hF.eq];rw[ZDL] at h;show if _ then _ else _
  rw[if_pos rfl];refine ZAB<|ZAC<|ZAG (v:=enc ((-1):Int)) rfl<|ZAA<|ZAN ?_
  rw[←oi h];exact⟨rfl,KE1 (a:=((-1):Int)) rfl rfl (rfl:is _ ((-1):Int)) (rfl:is _ ((-1):Int))⟩
 obtain⟨rfl,hF⟩:=hE;rw[←hF.eq];rw[ZDL] at h;show if _ then _ else _
 rw[if_neg (by simp)]
 rw[←oi h];exact⟨rfl,KE1 (a:=v1) rfl rfl (rfl:is _ v1) (rfl:is _ v1)⟩
theorem ZHd:ZAv Tryz.prog 30 (fun _=>Fn (fun a:(List ZAD)×(Clo 31 ((PtrC Int)×Unit))×Unit=>ZBf a.1 a.2.1)):=fnC ZQv ⟨_,func30,rfl⟩<|fun a r h=>ZHc a.1 a.2.1 r h
noncomputable def py2:Prims:=py1.add 30 (Fn (fun a:(List ZAD)×(Clo 31 ((PtrC Int)×Unit))×Unit=>ZBf a.1 a.2.1))
theorem ZQw:ZAS Tryz.prog py2:=ZAV ZQv ZHd
theorem ZJn (f:FsR) (num:Int) (r:Int) (h:ZAs f num=some r):MF Tryz.prog py2 13 [enc f,enc num] s0 fun v _=>ris v r:=by
 refine ZAm [(0,enc f),(1,enc num)] func13 rfl (by simp only[Tryz.f13];rfl) fun ψ=> ?_
 unfold ZAs at h;refine ZAB<|ZAC<|ZBM (r:=f) rfl (Enc.self f) Hp.nil fun m xs s hxs hs=>ZQt (a:=num) rfl (rfl:is _ num) hs fun m1 s hs=>ZAG (v:=enc (0:Int)) rfl<|ZAA<|ZAB<|ZAC<|ZAP ZBA rfl ?_
 replace hs:=Hp.front [(.cells m1 [(enc num)])] (b:=[]) hs;refine ZAL ag22 Sz rfl hxs hs fun y hy=> ?_
 replace hs:=Hp.front [(.cells m xs)] (b:=[]) hs;refine ZOl (q:=3) (a:=num) rfl rfl hs fun z s hz hs=>ZOn (c:=((PtrC.mk num:PtrC Int),())) rfl ⟨_,_,rfl,hz,rfl⟩ fun z1 hz1=> ?_
 obtain⟨r_,hx,h⟩:=bs h;refine ZBJ (f:=fun a:(List ZAD)×(Clo 31 ((PtrC Int)×Unit))×Unit=>ZBf a.1 a.2.1) (a:=(f.v.1,(Clo.mk ((PtrC.mk num:PtrC Int),()):Clo 31 ((PtrC Int)×Unit)),())) rfl func30 rfl rfl (.cons (a:=f.v.1) hy (.cons (a:=((Clo.mk ((PtrC.mk num:PtrC Int),()):Clo 31 ((PtrC Int)×Unit)):(Clo 31 ((PtrC Int)×Unit)))) hz1 .nil)) hx<|ZAG rfl<|ZAA<|ZAN ?_
 rw[←oi h];exact⟨rfl,KE1 (a:=r_) rfl rfl (rfl:is _ r_) (rfl:is _ r_)⟩
theorem ZJo:ZAv Tryz.prog 13 (fun _=>Fn (fun a:FsR×Int×Unit=>ZAs a.1 a.2.1)):=fnC ZQw ⟨_,func13,rfl⟩<|fun a r h=>ZJn a.1 a.2.1 r h
noncomputable def py3:Prims:=py2.add 13 (Fn (fun a:FsR×Int×Unit=>ZAs a.1 a.2.1))
theorem ZQx:ZAS Tryz.prog py3:=ZAV ZQw ZJo
theorem ZOq (x:Int) (r:Bool) (h:ZGc x=some r):MF Tryz.prog py3 103 [enc x] s0 fun v _=>ris v r:=by
 refine ZAm [(0,enc x)] func103 rfl (by simp only[Tryz.f103];rfl) fun ψ=> ?_
 unfold ZGc at h;refine ZAB<|ZAC<|ZAG (v:=enc false) rfl<|ZAA<|ZAB<|ZAC<|ZAE rfl<|ZAE rfl<|ZAM (v:=enc (x !=x)) rfl rfl rfl<|ZAG rfl<|ZAA<|ZAN ?_
 rw[←oi h];exact⟨rfl,KE1 (a:=((x !=x):Bool)) rfl rfl (rfl:is _ ((x !=x):Bool)) (rfl:is _ ((x !=x):Bool))⟩
theorem ZOr:ZAv Tryz.prog 103 (fun _=>Fn (fun a:Int×Unit=>ZGc a.1)):=fnC ZQx ⟨_,func103,rfl⟩<|fun a r h=>ZOq a.1 r h
noncomputable def py4:Prims:=py3.add 103 (Fn (fun a:Int×Unit=>ZGc a.1))
theorem ZQy:ZAS Tryz.prog py4:=ZAV ZQx ZOr
theorem ZRl (x:Int) (y:Int) (r:Int) (h:cmpI x y=some r):MF Tryz.prog py4 79 [enc x,enc y] s0 fun v _=>ris v r:=by
 refine ZAm [(0,enc x),(1,enc y)] func79 rfl (by simp only[Tryz.f79];rfl) fun ψ=> ?_
 unfold cmpI at h;refine ZAB<|ZAC<|ZAG (v:=enc (0:Int)) rfl<|ZAA<|ZAB<|ZAC<|ZAE rfl ?_
 obtain⟨r_,hx,h⟩:=bs h;refine ZBJ (f:=fun a:Int×Unit=>ZGc a.1) (a:=(x,())) rfl func103 rfl rfl (.cons (a:=x) (Enc.self _) .nil) hx<|ZAG rfl<|ZAA<|ZAB<|ZAC<|ZAE rfl ?_
 obtain⟨r_1,hx1,h⟩:=bs h;refine ZBJ (f:=fun a:Int×Unit=>ZGc a.1) (a:=(y,())) rfl func103 rfl rfl (.cons (a:=y) (Enc.self _) .nil) hx1<|ZAG rfl<|ZAA<|ZAB<|ZAB<|ZAC<|ZAE rfl<|ZAA ?_
 split at h
 ·rename_i c';refine ZAH rfl c'<|ZAB<|ZAB<|ZAC<|ZAE rfl<|ZAA ?_
  split at h
  ·rename_i c';refine ZAH rfl c'<|ZAB<|ZAC<|ZAG (v:=enc (0:Int)) rfl<|ZAA<|ZAN ?_
   rw[←oi h];exact⟨rfl,KE1 (a:=(0:Int)) rfl rfl (rfl:is _ (0:Int)) (rfl:is _ (0:Int))⟩
  rename_i c';refine ZAI rfl c'<|ZAO<|ZAB<|ZAC<|ZAG (v:=enc ((-1):Int)) rfl<|ZAA<|ZAN ?_
  rw[←oi h];exact⟨rfl,KE1 (a:=((-1):Int)) rfl rfl (rfl:is _ ((-1):Int)) (rfl:is _ ((-1):Int))⟩
 rename_i c';refine ZAI rfl c'<|ZAO<|ZAB<|ZAB<|ZAC<|ZAE rfl<|ZAA ?_
 split at h
 ·rename_i c';refine ZAH rfl c'<|ZAB<|ZAC<|ZAG (v:=enc (1:Int)) rfl<|ZAA<|ZAN ?_
  rw[←oi h];exact⟨rfl,KE1 (a:=(1:Int)) rfl rfl (rfl:is _ (1:Int)) (rfl:is _ (1:Int))⟩
 rename_i c';refine ZAI rfl c'<|ZAO<|ZAB<|ZAB<|ZAC<|ZAE rfl<|ZAE rfl<|ZAM (v:=enc (decide (x<y))) rfl rfl rfl<|ZAA ?_
 split at h
 ·rename_i c';refine ZAH rfl c'<|ZAB<|ZAC<|ZAG (v:=enc ((-1):Int)) rfl<|ZAA<|ZAN ?_
  rw[←oi h];exact⟨rfl,KE1 (a:=((-1):Int)) rfl rfl (rfl:is _ ((-1):Int)) (rfl:is _ ((-1):Int))⟩
 rename_i c';refine ZAI rfl c'<|ZAO<|ZAB<|ZAB<|ZAC<|ZAE rfl<|ZAE rfl<|ZAM (v:=enc (decide (x > y))) rfl rfl rfl<|ZAA ?_
 split at h
 ·rename_i c';refine ZAH rfl c'<|ZAB<|ZAC<|ZAG (v:=enc (1:Int)) rfl<|ZAA<|ZAN ?_
  rw[←oi h];exact⟨rfl,KE1 (a:=(1:Int)) rfl rfl (rfl:is _ (1:Int)) (rfl:is _ (1:Int))⟩
 rename_i c';refine ZAI rfl c'<|ZAO<|ZAB<|ZAC<|ZAG (v:=enc (0:Int)) rfl<|ZAA<|ZAN ?_
 rw[←oi h];exact⟨rfl,KE1 (a:=(0:Int)) rfl rfl (rfl:is _ (0:Int)) (rfl:is _ (0:Int))⟩
theorem ZRm:ZAv Tryz.prog 79 (fun _=>Fn (fun a:Int×Int×Unit=>cmpI a.1 a.2.1)):=fnC ZQy ⟨_,func79,rfl⟩<|fun a r h=>ZRl a.1 a.2.1 r h
noncomputable def py5:Prims:=py4.add 79 (Fn (fun a:Int×Int×Unit=>cmpI a.1 a.2.1))
theorem ZQz:ZAS Tryz.prog py5:=ZAV ZQy ZRm
theorem ZOs (x:Str) (r:Bool) (h:ZGd x=some r):MF Tryz.prog py5 95 [enc x] s0 fun v _=>ris v r:=by
 refine ZAm [(0,enc x)] func95 rfl (by simp only[Tryz.f95];rfl) fun ψ=> ?_
 unfold ZGd at h;refine ZAB<|ZAC<|ZAG (v:=enc false) rfl<|ZAA<|ZAB<|ZAC<|ZAE rfl<|ZAE rfl<|ZAM (v:=enc (!eqS x x)) rfl rfl rfl<|ZAG rfl<|ZAA<|ZAN ?_
 rw[←oi h];exact⟨rfl,KE1 (a:=((!eqS x x):Bool)) rfl rfl (rfl:is _ ((!eqS x x):Bool)) (rfl:is _ ((!eqS x x):Bool))⟩
theorem ZOt:ZAv Tryz.prog 95 (fun _=>Fn (fun a:Str×Unit=>ZGd a.1)):=fnC ZQz ⟨_,func95,rfl⟩<|fun a r h=>ZOs a.1 r h
noncomputable def py6:Prims:=py5.add 95 (Fn (fun a:Str×Unit=>ZGd a.1))
theorem ZQ0:ZAS Tryz.prog py6:=ZAV ZQz ZOt
theorem ZNT (x:Str) (r:Bool) (h:ZCI x=some r):MF Tryz.prog py6 71 [enc x] s0 fun v _=>ris v r:=by
 refine ZAm [(0,enc x)] func71 rfl (by simp only[Tryz.f71];rfl) fun ψ=> ?_
 unfold ZCI at h;refine ZAB<|ZAC<|ZAG (v:=enc false) rfl<|ZAA<|ZAB<|ZAC<|ZAE rfl<|ZAE rfl<|ZAM (v:=enc (!eqS x x)) rfl rfl rfl<|ZAG rfl<|ZAA<|ZAN ?_
 rw[←oi h];exact⟨rfl,KE1 (a:=((!eqS x x):Bool)) rfl rfl (rfl:is _ ((!eqS x x):Bool)) (rfl:is _ ((!eqS x x):Bool))⟩
theorem ZNU:ZAv Tryz.prog 71 (fun _=>Fn (fun a:Str×Unit=>ZCI a.1)):=fnC ZQ0 ⟨_,func71,rfl⟩<|fun a r h=>ZNT a.1 r h
noncomputable def py7:Prims:=py6.add 71 (Fn (fun a:Str×Unit=>ZCI a.1))
theorem ZQ1:ZAS Tryz.prog py7:=ZAV ZQ0 ZNU
theorem ZQK (x:Str) (y:Str) (r:Bool) (h:ZK3 x y=some r):MF Tryz.prog py7 70 [enc x,enc y] s0 fun v _=>ris v r:=by
 refine ZAm [(0,enc x),(1,enc y)] func70 rfl (by simp only[Tryz.f70];rfl) fun ψ=> ?_
 unfold ZK3 at h;refine ZAB<|ZAC<|ZAG (v:=enc false) rfl<|ZAA<|ZAB<|ZAC<|ZAE rfl ?_
 obtain⟨r_,hx,h⟩:=bs h;refine ZBJ (f:=fun a:Str×Unit=>ZGd a.1) (a:=(x,())) rfl func95 rfl rfl (.cons (a:=x) (Enc.self _) .nil) hx<|ZAE rfl ?_
 obtain⟨b,hb_b,h⟩:=bs h;refine ZAX 4 (fun φ s=>Fx φ [(0,(enc x)),(1,(enc y)),(11,(enc b))]) ?_ ?_
 ·split at hb_b
  ·rename_i cg;refine ZAJ rfl rfl cg<|ZAE rfl<|ZAJ rfl rfl cg ?_
   obtain⟨r_1,hx1,hb_b⟩:=bs hb_b;refine ZBJ (f:=fun a:Str×Unit=>ZGd a.1) (a:=(y,())) rfl func95 rfl rfl (.cons (a:=y) (Enc.self _) .nil) hx1<|ZAJ rfl rfl cg<|ZCk (v:=enc (!r_1)) rfl rfl<|ZAl rfl cg rfl<|ZAA ?_
   rw[←oi hb_b];exact(FxR rfl)
  rename_i cg1;refine ZAF rfl rfl cg1<|ZAF rfl rfl cg1<|ZAF rfl rfl cg1<|ZAi (v:=enc false) rfl cg1 rfl<|ZAA ?_
  rw[←oi hb_b];exact(FxR rfl)
 rintro φ s hF;rw[←hF.eq];refine ZAE rfl ?_
 obtain⟨b1,hb_b1,h⟩:=bs h;refine ZAX 4 (fun φ s=>Fx φ [(16,(enc b1))]) ?_ ?_
 ·split at hb_b1
  ·rename_i cg2;refine ZAF rfl rfl (by simpa using cg2)<|ZAF rfl rfl (by simpa using cg2)<|ZAF rfl rfl (by simpa using cg2)<|ZAl (v:=enc true) rfl cg2 rfl<|ZAA ?_
   rw[←oi hb_b1];exact(FxR rfl)
  rename_i cg3;refine ZAJ rfl rfl (by simpa using cg3)<|ZAE rfl<|ZAJ rfl rfl (by simpa using cg3)<|ZAE rfl<|ZAJ rfl rfl (by simpa using cg3)<|ZAM (v:=enc ((ltS x y):Bool)) rfl rfl rfl<|ZAi rfl cg3 rfl<|ZAA ?_
  rw[←oi hb_b1];exact(FxR rfl)
 rintro φ s hF;rw[←hF.eq];refine ZAG rfl<|ZAA<|ZAN ?_
 rw[←oi h];exact⟨rfl,KE1 (a:=b1) rfl rfl (rfl:is _ b1) (rfl:is _ b1)⟩
theorem ZQL:ZAv Tryz.prog 70 (fun _=>Fn (fun a:Str×Str×Unit=>ZK3 a.1 a.2.1)):=fnC ZQ1 ⟨_,func70,rfl⟩<|fun a r h=>ZQK a.1 a.2.1 r h
noncomputable def py8:Prims:=py7.add 70 (Fn (fun a:Str×Str×Unit=>ZK3 a.1 a.2.1))
theorem ZQ2:ZAS Tryz.prog py8:=ZAV ZQ1 ZQL
theorem ZRn (x:(List Str)) (target:Str) (r:Int×Bool) (h:binS x target=some r):MF Tryz.prog py8 45 [enc x,enc target] s0 fun v _=>ris v r:=by
 refine ZAm [(0,enc x),(1,enc target)] func45 rfl (by simp only[Tryz.f45];rfl) fun ψ=> ?_
 unfold binS at h;refine ZAB<|ZAC<|ZAG (v:=enc (0:Int)) rfl<|ZAG (v:=enc false) rfl<|ZAA<|ZAB<|ZAC<|ZAE rfl<|ZAu underlying34 rfl rfl (Enc.self x)<|ZAG rfl<|ZAA<|ZAB<|ZAC<|ZAE rfl<|ZAG (v:=enc (0:Int)) rfl ?_
 refine ZAG rfl<|ZAA<|ZAB<|ZAR ?_
 obtain⟨i1,hl,h⟩:=bs h;refine ZA6 (fun(p:(Int×Int)) φ s=>match p with | (i,j)=>Fx φ [(0,(enc (x:(List Str)))),(1,(enc target)),(6,(enc ((x.length:Int):Int))),(7,(enc i)),(8,(enc j))]) (fun(o:Int) e φ s=>match o with | i1=>e= .exit 0∧Fx φ [(0,(enc (x:(List Str)))),(1,(enc target)),(6,(enc ((x.length:Int):Int))),(7,(enc i1))]) ?_ hl (FxR rfl) ?_
 ·rintro⟨i,j⟩ o h φ s hF;rw[←hF.eq];rw[ZL4] at h;refine ZAB<|ZAB<|ZAC<|ZAE rfl<|ZAE rfl<|ZAM (v:=enc (decide (i<j))) rfl rfl rfl<|ZAA ?_
  split at h
  ·rename_i c';refine ZAH rfl c'<|ZAO<|ZAR<|ZAB<|ZAC<|ZAE rfl<|ZAE rfl<|ZAM (v:=enc (IntKind.i64.wrap (i+j))) rfl rfl rfl<|ZGa underlying3 underlying118 rfl<|ZEN rfl rfl rfl (ZG7 1 (by have:=(UInt64.ofInt (IntKind.i64.wrap (i+j))).toNat_lt;omega))<|ZOQ underlying118 underlying3 rfl<|ZAG rfl<|ZAA<|ZAB<|ZAC ?_
   refine ZAE rfl<|ZAE rfl ?_
   obtain⟨v,hx,h⟩:=bs h;refine ZBG underlying34 sh9 rfl rfl (Enc.self x) hx fun p hp=>ZEz rfl ag9 rfl hp fun y hy=> ?_
   cases hy;refine ZAE rfl ?_
   obtain⟨r_,hx1,h⟩:=bs h;refine ZBJ (f:=fun a:Str×Str×Unit=>ZK3 a.1 a.2.1) (a:=(v,target,())) rfl func70 rfl rfl (.cons (a:=v) (Enc.self _) (.cons (a:=target) (Enc.self _) .nil)) hx1<|ZAA ?_
   split at h
   ·rename_i c';refine ZAH rfl c'<|ZAC<|ZAE rfl<|ZAM (v:=enc (IntKind.i64.wrap ((IntKind.i64.wrap (((UInt64.ofInt (((((UInt64.ofInt (IntKind.i64.wrap (i+j)))).toNat:Int)).fdiv (2 ^ 1)))).toNat:Int))+1))) rfl rfl rfl<|ZAG rfl<|ZAA ?_
    rw[←oi h];exact⟨_,rfl,FxR rfl⟩
   rename_i c';refine ZAI rfl c'<|ZAC<|ZAE rfl<|ZAG rfl<|ZAA ?_
   rw[←oi h];exact⟨_,rfl,FxR rfl⟩
  rename_i c';refine ZAI rfl c'<|ZA0 ?_
  rw[←oi h];exact⟨_,rfl,rfl,FxR rfl⟩
 intro e φ s hE;obtain⟨rfl,hF⟩:=hE;rw[←hF.eq];rw[ZOp] at h;show if _ then _ else _
 rw[if_pos rfl];refine ZAB<|ZAC<|ZAE rfl<|ZAE rfl<|ZAE rfl<|ZAM (v:=enc (decide (i1<(x.length:Int)))) rfl rfl rfl<|ZAE rfl ?_
 obtain⟨b,hb_b,h⟩:=bs h;refine ZAX 18 (fun φ s=>Fx φ [(31,(enc i1)),(53,(enc b))]) ?_ ?_
 ·split at hb_b
  ·rename_i cg;refine ZAJ rfl rfl cg<|ZAE rfl<|ZAJ rfl rfl cg<|ZAE rfl<|ZAJ rfl rfl cg ?_
   obtain⟨v1,hx2,hb_b⟩:=bs hb_b;refine ZBG underlying34 sh9 rfl rfl (Enc.self x) hx2 fun p1 hp1=>ZAJ rfl rfl cg<|ZEz rfl ag9 rfl hp1 fun y1 hy1=> ?_
   cases hy1;refine ZAJ rfl rfl cg<|ZAE rfl<|ZAJ rfl rfl cg<|ZAM (v:=enc ((eqS v1 target):Bool)) rfl rfl rfl<|ZAJ rfl rfl cg<|ZAE rfl ?_
   obtain⟨b1,hb_b1,hb_b⟩:=bs hb_b;refine ZAX 10 (fun φ s=>Fx φ [(31,(enc i1)),(35,(enc (decide (i1<(x.length:Int))))),(52,(enc b1))]) ?_ ?_
   ·split at hb_b1
    ·rename_i cg1;refine ZAF rfl rfl (by simpa using cg1)<|ZAF rfl rfl (by simpa using cg1)<|ZAF rfl rfl (by simpa using cg1)<|ZAF rfl rfl (by simpa using cg1)<|ZAF rfl rfl (by simpa using cg1)<|ZAF rfl rfl (by simpa using cg1)<|ZAf rfl rfl<|ZAf rfl rfl<|ZAF rfl rfl (by simpa using cg1)<|ZAJ rfl rfl cg<|ZAl (v:=enc true) rfl cg1 rfl<|ZAA ?_
     rw[←oi hb_b1];exact(FxR rfl)
    rename_i cg2;refine ZAJ rfl rfl (by simpa using cg2)<|ZAE rfl<|ZAJ rfl rfl (by simpa using cg2)<|ZAE rfl<|ZAJ rfl rfl (by simpa using cg2) ?_
    obtain⟨v2,hx3,hb_b1⟩:=bs hb_b1;refine ZBG underlying34 sh9 rfl rfl (Enc.self x) hx3 fun p2 hp2=>ZAJ rfl rfl (by simpa using cg2)<|ZEz rfl ag9 rfl hp2 fun y2 hy2=> ?_
    cases hy2;refine ZAJ rfl rfl (by simpa using cg2) ?_
    obtain⟨r_1,hx4,hb_b1⟩:=bs hb_b1;refine ZBJ (f:=fun a:Str×Unit=>ZCI a.1) (a:=(v2,())) rfl func71 rfl rfl (.cons (a:=v2) (Enc.self _) .nil) hx4<|ZAJ rfl rfl (by simpa using cg2)<|ZAE rfl ?_
    obtain⟨b2,hb_b2,hb_b1⟩:=bs hb_b1;refine ZAX 3 (fun φ s=>Fx φ [(31,(enc i1)),(35,(enc (decide (i1<(x.length:Int))))),(42,(enc ((eqS v1 target):Bool))),(51,(enc b2))]) ?_ ?_
    ·split at hb_b2
     ·rename_i cg3;refine ZAJ rfl rfl cg3<|ZAE rfl<|ZAJ rfl rfl cg3 ?_
      obtain⟨r_2,hx5,hb_b2⟩:=bs hb_b2;refine ZBJ (f:=fun a:Str×Unit=>ZCI a.1) (a:=(target,())) rfl func71 rfl rfl (.cons (a:=target) (Enc.self _) .nil) hx5<|ZAJ rfl rfl (by simpa using cg2)<|ZAl rfl cg3 rfl<|ZAA ?_
      rw[←oi hb_b2];exact(FxR rfl)
     rename_i cg4;refine ZAF rfl rfl cg4<|ZAF rfl rfl cg4<|ZAJ rfl rfl (by simpa using cg2)<|ZAi (v:=enc false) rfl cg4 rfl<|ZAA ?_
     rw[←oi hb_b2];exact(FxR rfl)
    rintro φ s hF;rw[←hF.eq];refine ZAJ rfl rfl cg<|ZAi rfl cg2 rfl<|ZAA ?_
    rw[←oi hb_b1];exact(FxR rfl)
   rintro φ s hF;rw[←hF.eq];refine ZAl rfl cg rfl<|ZAA ?_
   rw[←oi hb_b];exact(FxR rfl)
  rename_i cg5;refine ZAF rfl rfl cg5<|ZAF rfl rfl cg5<|ZAF rfl rfl cg5<|ZAF rfl rfl cg5<|ZAF rfl rfl cg5<|ZAF rfl rfl cg5<|ZAF rfl rfl cg5<|ZAf rfl rfl<|ZAf rfl rfl<|ZAf rfl rfl<|ZAf rfl rfl<|ZAf rfl rfl<|ZAf rfl rfl<|ZAf rfl rfl<|ZAf rfl rfl ?_
  refine ZAf rfl rfl<|ZAF rfl rfl cg5<|ZAi (v:=enc false) rfl cg5 rfl<|ZAA ?_
  rw[←oi hb_b];exact(FxR rfl)
 rintro φ s hF;rw[←hF.eq];refine ZAG rfl<|ZAG rfl<|ZAA<|ZAN ?_
 rw[←oi h];exact⟨rfl,KE2 (a1:=i1) (a2:=b) rfl rfl rfl (rfl:is _ i1) (rfl:is _ b) ⟨_,_,rfl,(rfl:is _ i1),(rfl:is _ b)⟩⟩
theorem ZRo:ZAv Tryz.prog 45 (fun _=>Fn (fun a:(List Str)×Str×Unit=>binS a.1 a.2.1)):=fnC ZQ2 ⟨_,func45,rfl⟩<|fun a r h=>ZRn a.1 a.2.1 r h
noncomputable def py9:Prims:=py8.add 45 (Fn (fun a:(List Str)×Str×Unit=>binS a.1 a.2.1))
theorem ZQ3:ZAS Tryz.prog py9:=ZAV ZQ2 ZRo
theorem ZOu (s_:(List Str)) (x:Str) (r:Int) (h:ZIP s_ x=some r):MF Tryz.prog py9 88 [enc s_,enc x] s0 fun v _=>ris v r:=by
 refine ZAm [(0,enc s_),(1,enc x)] func88 rfl (by simp only[Tryz.f88];rfl) fun ψ=> ?_
 unfold ZIP at h;refine ZAB<|ZAC<|ZAG (v:=enc (0:Int)) rfl<|ZAA<|ZAB<|ZAB<|ZAC<|ZAE rfl<|ZAu underlying34 rfl rfl (Enc.self s_)<|ZAE (v:=enc (0:Int)) rfl<|ZAA<|ZAR ?_
 obtain⟨o,hl,h⟩:=bs h;refine ZA6 (fun(p:Int) φ s=>match p with | v=>Fx φ [(0,(enc (s_:(List Str)))),(1,(enc x)),(7,(enc ((s_.length:Int):Int))),(8,(enc v))]) (fun(o:(Unit ⊕ Int)) e φ s=>match o with | (.inl _)=>e= .exit 0∧Fx φ [] | (.inr v1)=>e= .ret∧Fx φ [(4,(enc v1))]) ?_ hl (FxR rfl) ?_
 ·rintro v o h φ s hF;rw[←hF.eq];rw[ZIN] at h;refine ZAB<|ZAC<|ZAM (v:=enc (decide (v<(s_.length:Int)))) rfl rfl rfl<|ZAA<|ZAB ?_
  split at h
  ·rename_i c';refine ZAH rfl c'<|ZAO<|ZAB<|ZAR<|ZAB<|ZAC<|ZAE rfl<|ZAG rfl<|ZAA<|ZAB<|ZAC<|ZAE rfl<|ZAE rfl<|ZAE rfl ?_
   obtain⟨v2,hx,h⟩:=bs h;refine ZBG underlying34 sh9 rfl rfl (Enc.self s_) hx fun p hp=>ZEz rfl ag9 rfl hp fun y hy=> ?_
   cases hy;refine ZAM (v:=enc ((eqS x v2):Bool)) rfl rfl rfl<|ZAA ?_
   split at h
   ·rename_i c';refine ZAH rfl c'<|ZAB<|ZAC<|ZAE rfl<|ZAG rfl<|ZAA<|ZAN ?_
    show if _ then _ else _
    rw[if_neg (by simp)]
    rw[←oi h];exact⟨_,rfl,rfl,FxR rfl⟩
   rename_i c';refine ZAI rfl c'<|ZAO<|ZAC<|ZAM (v:=enc (IntKind.i64.wrap (v+1))) rfl rfl rfl<|ZAE rfl<|ZAA ?_
   rw[←oi h];exact⟨_,rfl,FxR rfl⟩
  rename_i c';refine ZAI rfl c'<|ZA0 ?_
  rw[←oi h];exact⟨_,rfl,rfl,trivial⟩
 intro e φ s hE;rcases o with _u | v1
 ·obtain⟨rfl,hF⟩:=hE;rw[←hF.eq];rw[ZIO] at h;show if _ then _ else _
  rw[if_pos rfl];refine ZAB<|ZAC<|ZAG (v:=enc ((-1):Int)) rfl<|ZAA<|ZAN ?_
  rw[←oi h];exact⟨rfl,KE1 (a:=((-1):Int)) rfl rfl (rfl:is _ ((-1):Int)) (rfl:is _ ((-1):Int))⟩
 obtain⟨rfl,hF⟩:=hE;rw[←hF.eq];rw[ZIO] at h;show if _ then _ else _
 rw[if_neg (by simp)]
 rw[←oi h];exact⟨rfl,KE1 (a:=v1) rfl rfl (rfl:is _ v1) (rfl:is _ v1)⟩
theorem ZOv:ZAv Tryz.prog 88 (fun _=>Fn (fun a:(List Str)×Str×Unit=>ZIP a.1 a.2.1)):=fnC ZQ3 ⟨_,func88,rfl⟩<|fun a r h=>ZOu a.1 a.2.1 r h
noncomputable def py10:Prims:=py9.add 88 (Fn (fun a:(List Str)×Str×Unit=>ZIP a.1 a.2.1))
theorem ZOw:ZAS Tryz.prog py10:=ZAV ZQ3 ZOv
theorem ZK5 (s_:(List Str)) (x:Str) (r:Bool) (h:ZDk s_ x=some r):MF Tryz.prog py10 66 [enc s_,enc x] s0 fun v _=>ris v r:=by
 refine ZAm [(0,enc s_),(1,enc x)] func66 rfl (by simp only[Tryz.f66];rfl) fun ψ=> ?_
 unfold ZDk at h;refine ZAB<|ZAC<|ZAG (v:=enc false) rfl<|ZAA<|ZAB<|ZAC<|ZAE rfl<|ZAE rfl ?_
 obtain⟨r_,hx,h⟩:=bs h;refine ZBJ (f:=fun a:(List Str)×Str×Unit=>ZIP a.1 a.2.1) (a:=(s_,x,())) rfl func88 rfl rfl (.cons (a:=s_) (Enc.self s_) (.cons (a:=x) (Enc.self _) .nil)) hx<|ZAM (v:=enc (decide (r_≥0))) rfl rfl rfl<|ZAG rfl<|ZAA<|ZAN ?_
 rw[←oi h];exact⟨rfl,KE1 (a:=((decide (r_≥0)):Bool)) rfl rfl (rfl:is _ ((decide (r_≥0)):Bool)) (rfl:is _ ((decide (r_≥0)):Bool))⟩
theorem ZK6:ZAv Tryz.prog 66 (fun _=>Fn (fun a:(List Str)×Str×Unit=>ZDk a.1 a.2.1)):=fnC ZOw ⟨_,func66,rfl⟩<|fun a r h=>ZK5 a.1 a.2.1 r h
noncomputable def py11:Prims:=py10.add 66 (Fn (fun a:(List Str)×Str×Unit=>ZDk a.1 a.2.1))
theorem ZOx:ZAS Tryz.prog py11:=ZAV ZOw ZK6
theorem ZQM (x:UInt64) (r:Int) (h:ZK4 x=some r):MF Tryz.prog py11 124 [enc x] s0 fun v _=>ris v r:=by
 refine ZAm [(0,enc x)] func124 rfl (by simp only[Tryz.f124];rfl) fun ψ=> ?_
 unfold ZK4 at h;refine ZAB<|ZAC<|ZAG (v:=enc (0:Int)) rfl<|ZAA<|ZFv (fun φ s=>∃(x1:UInt64) (n:Int),Fx φ [(0,(enc x1)),(2,(enc n))]∧ZFe x1 n=some r) ?_ ?_
 ·refine ZAB ?_
  refine ZAC<|ZAE rfl<|ZAM (v:=enc (decide (((x).toNat:Int)≥4294967296))) rfl rfl rfl<|ZAA ?_
  split at h
  ·rename_i c';refine ZAH rfl c'<|ZAB<|ZAC<|ZAE rfl<|ZEN rfl rfl rfl (ZG7 32 (by have:=x.toNat_lt;omega))<|ZAG rfl<|ZAA<|ZAC<|ZAG (v:=enc (32:Int)) rfl<|ZAA ?_
   exact⟨(UInt64.ofInt ((((x).toNat:Int)).fdiv (2 ^ 32))),32,FxR rfl,h⟩
  rename_i c';refine ZAI rfl c'<|ZAO ?_
  exact⟨x,0,FxR rfl,h⟩
 rintro φ s ⟨x1,n,hF,h⟩;rw[←hF.eq];unfold ZFe at h;refine ZFv (fun φ s=>∃(x2:UInt64) (n1:Int),Fx φ [(0,(enc x2)),(2,(enc n1))]∧ZFd x2 n1=some r) ?_ ?_
 ·refine ZAB ?_
  refine ZAC<|ZAE rfl<|ZAM (v:=enc (decide (((x1).toNat:Int)≥65536))) rfl rfl rfl<|ZAA ?_
  split at h
  ·rename_i c';refine ZAH rfl c'<|ZAB<|ZAC<|ZAE rfl<|ZEN rfl rfl rfl (ZG7 16 (by have:=x1.toNat_lt;omega))<|ZAG rfl<|ZAA<|ZAC<|ZAE rfl<|ZAM (v:=enc (IntKind.i64.wrap (n+16))) rfl rfl rfl<|ZAG rfl<|ZAA ?_
   exact⟨(UInt64.ofInt ((((x1).toNat:Int)).fdiv (2 ^ 16))),(IntKind.i64.wrap (n+16)),FxR rfl,h⟩
  rename_i c';refine ZAI rfl c'<|ZAO ?_
  exact⟨x1,n,FxR rfl,h⟩
 rintro φ s ⟨x2,n1,hF,h⟩;rw[←hF.eq];unfold ZFd at h;refine ZFv (fun φ s=>∃(x3:UInt64) (n2:Int),Fx φ [(0,(enc x3)),(2,(enc n2))]∧ZFc x3 n2=some r) ?_ ?_
 ·refine ZAB ?_
  refine ZAC<|ZAE rfl<|ZAM (v:=enc (decide (((x2).toNat:Int)≥256))) rfl rfl rfl<|ZAA ?_
  split at h
  ·rename_i c';refine ZAH rfl c'<|ZAB<|ZAC<|ZAE rfl<|ZEN rfl rfl rfl (ZG7 8 (by have:=x2.toNat_lt;omega))<|ZAG rfl<|ZAA<|ZAC<|ZAE rfl<|ZAM (v:=enc (IntKind.i64.wrap (n1+8))) rfl rfl rfl<|ZAG rfl<|ZAA ?_
   exact⟨(UInt64.ofInt ((((x2).toNat:Int)).fdiv (2 ^ 8))),(IntKind.i64.wrap (n1+8)),FxR rfl,h⟩
  rename_i c';refine ZAI rfl c'<|ZAO ?_
  exact⟨x2,n1,FxR rfl,h⟩
 rintro φ s ⟨x3,n2,hF,h⟩;rw[←hF.eq];unfold ZFc at h;refine ZAB<|ZAC<|ZAE rfl<|ZAE rfl<|ZOT underlying154 underlying5 rfl ?_
 obtain⟨c,hx,h⟩:=bs h;refine ZQj underlying9 rfl rfl hx<|ZOQ underlying5 underlying3 rfl ?_
 rw[ZLz];refine ZAM (v:=enc (IntKind.i64.wrap (n2+((c).toNat:Int)))) rfl rfl rfl<|ZAG rfl<|ZAA<|ZAN ?_
 rw[←oi h];exact⟨rfl,KE1 (a:=((IntKind.i64.wrap (n2+((c).toNat:Int))):Int)) rfl rfl (rfl:is _ ((IntKind.i64.wrap (n2+((c).toNat:Int))):Int)) (rfl:is _ ((IntKind.i64.wrap (n2+((c).toNat:Int))):Int))⟩
theorem ZQN:ZAv Tryz.prog 124 (fun _=>Fn (fun a:UInt64×Unit=>ZK4 a.1)):=fnC ZOx ⟨_,func124,rfl⟩<|fun a r h=>ZQM a.1 r h
noncomputable def py12:Prims:=py11.add 124 (Fn (fun a:UInt64×Unit=>ZK4 a.1))
theorem ZOy:ZAS Tryz.prog py12:=ZAV ZOx ZQN
theorem ZNV (x:UInt64) (r:Int) (h:ZEh x=some r):MF Tryz.prog py12 116 [enc x] s0 fun v _=>ris v r:=by
 refine ZAm [(0,enc x)] func116 rfl (by simp only[Tryz.f116];rfl) fun ψ=> ?_
 unfold ZEh at h;refine ZAB<|ZAC<|ZAG (v:=enc (0:Int)) rfl<|ZAA<|ZAB<|ZAC<|ZAE rfl ?_
 obtain⟨r_,hx,h⟩:=bs h;refine ZBJ (f:=fun a:UInt64×Unit=>ZK4 a.1) (a:=(x,())) rfl func124 rfl rfl (.cons (a:=x) (Enc.self _) .nil) hx<|ZAM (v:=enc (IntKind.i64.wrap (r_+7))) rfl rfl rfl<|ZAM (v:=enc (IntKind.i64.wrap ((IntKind.i64.wrap (r_+7)) - 1))) rfl rfl rfl<|ZAM (v:=enc (IntKind.i64.wrap (((IntKind.i64.wrap ((IntKind.i64.wrap (r_+7)) - 1))).tdiv 7))) rfl rfl rfl<|ZTF rfl rfl<|ZAG rfl<|ZAA<|ZAN ?_
 rw[←oi h];exact⟨rfl,KE1 (a:=((imax 1 (IntKind.i64.wrap (((IntKind.i64.wrap ((IntKind.i64.wrap (r_+7)) - 1))).tdiv 7))):Int)) rfl rfl (rfl:is _ ((imax 1 (IntKind.i64.wrap (((IntKind.i64.wrap ((IntKind.i64.wrap (r_+7)) - 1))).tdiv 7))):Int)) (rfl:is _ ((imax 1 (IntKind.i64.wrap (((IntKind.i64.wrap ((IntKind.i64.wrap (r_+7)) - 1))).tdiv 7))):Int))⟩
theorem ZNW:ZAv Tryz.prog 116 (fun _=>Fn (fun a:UInt64×Unit=>ZEh a.1)):=fnC ZOy ⟨_,func116,rfl⟩<|fun a r h=>ZNV a.1 r h
noncomputable def py13:Prims:=py12.add 116 (Fn (fun a:UInt64×Unit=>ZEh a.1))
theorem ZDm:ZAS Tryz.prog py13:=ZAV ZOy ZNW
theorem ZFJ (s_:(List ZAD)) (r:(List ZAD)) (h:ZER s_=some r) {x_s_:AV} (hy_s_:is x_s_ s_) {s:St} {enF:En} {G:Glob} (hs:Hp s [enF,(.gl G)]):MF Tryz.prog py13 34 [x_s_] s fun v s' =>∃en',isM v en' r∧Hp s' [en',enF, .gl G]:=by
 refine ZCm [(0,x_s_)] func34 rfl (by simp only[Tryz.f34];rfl) fun ψ=> ?_
 unfold ZER at h;refine ZAB<|ZAC<|ZAG (v:= .nils) rfl<|ZAA<|ZAB<|ZAB<|ZAC<|ZAE (v:=x_s_) rfl ?_
 refine ZIM underlying22 rfl hy_s_ (fun z hz hx_=> ?_) (fun z hz=> ?_)
 ·replace h:some ([])=some r:=by rw[hx_] at h;exact h
  refine ZAA<|ZAH rfl rfl<|ZAB<|ZAC<|ZAG (v:= .nils) rfl<|ZAA<|ZAN ?_
  rw[←oi h];exact⟨rfl,KN1 rfl rfl ⟨_,(.inr ⟨rfl,isL.nil,rfl,rfl,rfl⟩),(Hp.add (x:= .nils) hs rfl)⟩⟩
 refine ZAA ?_
 refine ZAI rfl Bool.false_ne_true<|ZAO<|ZAB<|ZAC<|ZCH [] ([]:(List ZAD)) underlying22 ef38 rfl rfl rfl (Nat.le_of_ble_eq_true rfl) trivial fun z1 hz1 hz1c hz1n=>ZAE (v:=x_s_) rfl ?_
 obtain⟨l,hx,h⟩:=bs h;refine ZFB underlying22 underlying22 rfl rfl ef38 rfl rfl (.inr ⟨rfl,hz1,hz1c,hz1n,rfl⟩) hy_s_ hx (Hp.add (x:= .nils) hs rfl) fun z2 en s hz2 hs=>ZAG (v:=z2) rfl<|ZAA<|ZAN ?_
 rw[←oi h];exact⟨rfl,KN1 rfl rfl ⟨_,hz2,hs⟩⟩
theorem ZFK (s_:(List Str)) (r:(List Str)) (h:ZES s_=some r) {x_s_:AV} (hy_s_:is x_s_ s_) {s:St} {enF:En} {G:Glob} (hs:Hp s [enF,(.gl G)]):MF Tryz.prog py13 47 [x_s_] s fun v s' =>∃en',isM v en' r∧Hp s' [en',enF, .gl G]:=by
 refine ZCm [(0,x_s_)] func47 rfl (by simp only[Tryz.f47];rfl) fun ψ=> ?_
 unfold ZES at h;refine ZAB<|ZAC<|ZAG (v:= .nils) rfl<|ZAA<|ZAB<|ZAB<|ZAC<|ZAE (v:=x_s_) rfl ?_
 refine ZIM underlying34 rfl hy_s_ (fun z hz hx_=> ?_) (fun z hz=> ?_)
 ·replace h:some ([])=some r:=by rw[hx_] at h;exact h
  refine ZAA<|ZAH rfl rfl<|ZAB<|ZAC<|ZAG (v:= .nils) rfl<|ZAA<|ZAN ?_
  rw[←oi h];exact⟨rfl,KN1 rfl rfl ⟨_,(.inr ⟨rfl,isL.nil,rfl,rfl,rfl⟩),(Hp.add (x:= .nils) hs rfl)⟩⟩
 refine ZAA ?_
 refine ZAI rfl Bool.false_ne_true<|ZAO<|ZAB<|ZAC<|ZCH [] ([]:(List Str)) underlying34 ef9 rfl rfl rfl (Nat.le_of_ble_eq_true rfl) trivial fun z1 hz1 hz1c hz1n=>ZAE (v:=x_s_) rfl ?_
 obtain⟨l,hx,h⟩:=bs h;refine ZFB underlying34 underlying34 rfl rfl ef9 rfl rfl (.inr ⟨rfl,hz1,hz1c,hz1n,rfl⟩) hy_s_ hx (Hp.add (x:= .nils) hs rfl) fun z2 en s hz2 hs=>ZAG (v:=z2) rfl<|ZAA<|ZAN ?_
 rw[←oi h];exact⟨rfl,KN1 rfl rfl ⟨_,hz2,hs⟩⟩
theorem ZFL (s_:(List Int)) (r:(List Int)) (h:ZET s_=some r) {x_s_:AV} (hy_s_:is x_s_ s_) {s:St} {enF:En} {G:Glob} (hs:Hp s [enF,(.gl G)]):MF Tryz.prog py13 49 [x_s_] s fun v s' =>∃en',isM v en' r∧Hp s' [en',enF, .gl G]:=by
 refine ZCm [(0,x_s_)] func49 rfl (by simp only[Tryz.f49];rfl) fun ψ=> ?_
 unfold ZET at h;refine ZAB<|ZAC<|ZAG (v:= .nils) rfl<|ZAA<|ZAB<|ZAB<|ZAC<|ZAE (v:=x_s_) rfl ?_
 refine ZIM underlying35 rfl hy_s_ (fun z hz hx_=> ?_) (fun z hz=> ?_)
 ·replace h:some ([])=some r:=by rw[hx_] at h;exact h
  refine ZAA<|ZAH rfl rfl<|ZAB<|ZAC<|ZAG (v:= .nils) rfl<|ZAA<|ZAN ?_
  rw[←oi h];exact⟨rfl,KN1 rfl rfl ⟨_,(.inr ⟨rfl,isL.nil,rfl,rfl,rfl⟩),(Hp.add (x:= .nils) hs rfl)⟩⟩
 refine ZAA ?_
 refine ZAI rfl Bool.false_ne_true<|ZAO<|ZAB<|ZAC<|ZCH [] ([]:(List Int)) underlying35 ef3 rfl rfl rfl (Nat.le_of_ble_eq_true rfl) trivial fun z1 hz1 hz1c hz1n=>ZAE (v:=x_s_) rfl ?_
 obtain⟨l,hx,h⟩:=bs h;refine ZFB underlying35 underlying35 rfl rfl ef3 rfl rfl (.inr ⟨rfl,hz1,hz1c,hz1n,rfl⟩) hy_s_ hx (Hp.add (x:= .nils) hs rfl) fun z2 en s hz2 hs=>ZAG (v:=z2) rfl<|ZAA<|ZAN ?_
 rw[←oi h];exact⟨rfl,KN1 rfl rfl ⟨_,hz2,hs⟩⟩
theorem ZK7 (s_:(List UInt8)) (r:(List UInt8)) (h:ZC8 s_=some r):MF Tryz.prog py13 51 [enc s_] s0 fun v _=>ris v r:=by
 refine ZAm [(0,enc s_)] func51 rfl (by simp only[Tryz.f51];rfl) fun ψ=> ?_
 unfold ZC8 at h;refine ZAB<|ZAC<|ZAG (v:= .nils) rfl<|ZAA<|ZAB<|ZAB<|ZAC<|ZAE rfl ?_
 refine ZIM underlying33 rfl (Enc.self s_) (fun z hz hx_=> ?_) (fun z hz=> ?_)
 ·replace h:some ([])=some r:=by rw[hx_] at h;exact h
  refine ZAA<|ZAH rfl rfl<|ZAB<|ZAC<|ZAG (v:= .nils) rfl<|ZAA<|ZAN ?_
  rw[←oi h];exact⟨rfl,KE1 (a:=([]:(List UInt8))) rfl rfl isL.nil isL.nil⟩
 refine ZAA ?_
 refine ZAI rfl Bool.false_ne_true<|ZAO<|ZAB<|ZAC<|ZCH [] ([]:(List UInt8)) underlying33 ef5 rfl rfl rfl (Nat.le_of_ble_eq_true rfl) trivial fun z1 hz1 hz1c hz1n=>ZAE rfl ?_
 obtain⟨l,hx,h⟩:=bs h;refine ZKq [] (es2:=[]) underlying33 underlying33 rfl rfl ef5 rfl rfl hz1 hz1c (Hp.add Hp.nil hz1n) (Enc.self s_) hx fun z2 s hz2 hz2c hs=>ZAG (v:=z2) rfl<|ZAA<|ZAN ?_
 rw[←oi h];exact⟨rfl,KE1 (a:=l) rfl rfl hz2 hz2⟩
theorem ZK8:ZAv Tryz.prog 51 (fun _=>Fn (fun a:(List UInt8)×Unit=>ZC8 a.1)):=fnC ZDm ⟨_,func51,rfl⟩<|fun a r h=>ZK7 a.1 r h
noncomputable def py14:Prims:=py13.add 51 (Fn (fun a:(List UInt8)×Unit=>ZC8 a.1))
theorem ZOz:ZAS Tryz.prog py14:=ZAV ZDm ZK8
theorem ZK9 (s_:(List ZAd)) (r:(List ZAd)) (h:ZC9 s_=some r):MF Tryz.prog py14 52 [enc s_] s0 fun v _=>ris v r:=by
 refine ZAm [(0,enc s_)] func52 rfl (by simp only[Tryz.f52];rfl) fun ψ=> ?_
 unfold ZC9 at h;refine ZAB<|ZAC<|ZAG (v:= .nils) rfl<|ZAA<|ZAB<|ZAB<|ZAC<|ZAE rfl ?_
 refine ZIM underlying36 rfl (Enc.self s_) (fun z hz hx_=> ?_) (fun z hz=> ?_)
 ·replace h:some ([])=some r:=by rw[hx_] at h;exact h
  refine ZAA<|ZAH rfl rfl<|ZAB<|ZAC<|ZAG (v:= .nils) rfl<|ZAA<|ZAN ?_
  rw[←oi h];exact⟨rfl,KE1 (a:=([]:(List ZAd))) rfl rfl isL.nil isL.nil⟩
 refine ZAA ?_
 refine ZAI rfl Bool.false_ne_true<|ZAO<|ZAB<|ZAC<|ZCH [] ([]:(List ZAd)) underlying36 ef89 rfl rfl rfl (Nat.le_of_ble_eq_true rfl) trivial fun z1 hz1 hz1c hz1n=>ZAE rfl ?_
 obtain⟨l,hx,h⟩:=bs h;refine ZKq [] (es2:=[]) underlying36 underlying36 rfl rfl ef89 rfl rfl hz1 hz1c (Hp.add Hp.nil hz1n) (Enc.self s_) hx fun z2 s hz2 hz2c hs=>ZAG (v:=z2) rfl<|ZAA<|ZAN ?_
 rw[←oi h];exact⟨rfl,KE1 (a:=l) rfl rfl hz2 hz2⟩
theorem ZLA:ZAv Tryz.prog 52 (fun _=>Fn (fun a:(List ZAd)×Unit=>ZC9 a.1)):=fnC ZOz ⟨_,func52,rfl⟩<|fun a r h=>ZK9 a.1 r h
noncomputable def py15:Prims:=py14.add 52 (Fn (fun a:(List ZAd)×Unit=>ZC9 a.1))
theorem ZO0:ZAS Tryz.prog py15:=ZAV ZOz ZLA
theorem ZNX (y:ZAD) (r:Int) (h:ZG9 y=some r):MF Tryz.prog py15 57 [enc y] s0 fun v _=>ris v r:=by
 refine ZAm [(0,enc y)] func57 rfl (by simp only[Tryz.f57];rfl) fun ψ=> ?_
 unfold ZG9 at h;refine ZAB<|ZAC<|ZBM (r:=y) rfl (Enc.self y) Hp.nil fun m xs s hxs hs=>ZAG (v:=enc (0:Int)) rfl<|ZAA<|ZAB<|ZAC<|ZAP ZB6 rfl<|ZAL ag3 Sz rfl hxs hs fun y1 hy1=> ?_
 cases hy1;refine ZAG rfl<|ZAA<|ZAN ?_
 rw[←oi h];exact⟨rfl,KE1 (a:=y.v.1) rfl rfl (rfl:is _ y.v.1) (rfl:is _ y.v.1)⟩
theorem ZNY:ZAv Tryz.prog 57 (fun _=>Fn (fun a:ZAD×Unit=>ZG9 a.1)):=fnC ZO0 ⟨_,func57,rfl⟩<|fun a r h=>ZNX a.1 r h
noncomputable def py16:Prims:=py15.add 57 (Fn (fun a:ZAD×Unit=>ZG9 a.1))
theorem ZO1:ZAS Tryz.prog py16:=ZAV ZO0 ZNY
theorem ZNZ (x:ZAD) (n:Int) (x1:(PtrC (Clo 57 (Unit)))) (r:Int) (h:ZDl x n x1=some r):MF Tryz.prog py16 78 [enc x,enc n,enc x1] s0 fun v _=>ris v r:=by
 refine ZAm [(0,enc x),(1,enc n),(2,enc x1)] func78 rfl (by simp only[Tryz.f78];rfl) fun ψ=> ?_
 unfold ZDl at h;refine ZAB<|ZAC<|ZBM (r:=x) rfl (Enc.self x) Hp.nil fun m xs s hxs hs=>ZAG (v:=enc (0:Int)) rfl<|ZAA<|ZAB<|ZAC<|ZQu ZTH rfl (Enc.self x1) fun y hy=>ZAU (r:=x) ag38 sz38 rfl hxs hs fun y1 hy1=> ?_
 obtain⟨r_,hx,h⟩:=bs h;refine ZK2 (f:=fun a:ZAD×Unit=>ZG9 a.1) (a:=(x,x1.v.cap)) rfl func57 rfl rfl hy rfl (fun _ h=>(.cons (a:=x) hy1 h)) hx<|ZAE rfl ?_
 obtain⟨r_1,hx1,h⟩:=bs h;refine ZBJ (f:=fun a:Int×Int×Unit=>cmpI a.1 a.2.1) (a:=(r_,n,())) rfl func79 rfl rfl (.cons (a:=r_) (Enc.self _) (.cons (a:=n) (Enc.self _) .nil)) hx1<|ZAG rfl<|ZAA<|ZAN ?_
 rw[←oi h];exact⟨rfl,KE1 (a:=r_1) rfl rfl (rfl:is _ r_1) (rfl:is _ r_1)⟩
theorem ZNa:ZAv Tryz.prog 78 (fun _=>Fn (fun a:ZAD×Int×(PtrC (Clo 57 (Unit)))×Unit=>ZDl a.1 a.2.1 a.2.2.1)):=fnC ZO1 ⟨_,func78,rfl⟩<|fun a r h=>ZNZ a.1 a.2.1 a.2.2.1 r h
noncomputable def py17:Prims:=py16.add 78 (Fn (fun a:ZAD×Int×(PtrC (Clo 57 (Unit)))×Unit=>ZDl a.1 a.2.1 a.2.2.1))
theorem ZO2:ZAS Tryz.prog py17:=ZAV ZO1 ZNa
theorem ZJp (x:(List ZAD)) (target:Int) (cmp:(Clo 78 ((PtrC (Clo 57 (Unit)))×Unit))) (r:Int×Bool) (h:ZCo x target cmp=some r):MF Tryz.prog py17 77 [enc x,enc target,enc cmp] s0 fun v _=>ris v r:=by
 refine ZAm [(0,enc x),(1,enc target),(2,enc cmp)] func77 rfl (by simp only[Tryz.f77];rfl) fun ψ=> ?_
 unfold ZCo at h;refine ZAB<|ZAC<|ZAG (v:=enc (0:Int)) rfl<|ZAG (v:=enc false) rfl<|ZAA<|ZAB<|ZAC<|ZAE rfl<|ZAu underlying22 rfl rfl (Enc.self x)<|ZAG rfl<|ZAA<|ZAB<|ZAC<|ZAE rfl<|ZAG (v:=enc (0:Int)) rfl ?_
 refine ZAG rfl<|ZAA<|ZAB<|ZAR ?_
 obtain⟨i1,hl,h⟩:=bs h;refine ZA6 (fun(p:(Int×Int)) φ s=>match p with | (i,j)=>Fx φ [(0,(enc (x:(List ZAD)))),(1,(enc target)),(2,(enc (cmp:(Clo 78 ((PtrC (Clo 57 (Unit)))×Unit))))),(8,(enc ((x.length:Int):Int))),(9,(enc i)),(10,(enc j))]) (fun(o:Int) e φ s=>match o with | i1=>e= .exit 0∧Fx φ [(0,(enc (x:(List ZAD)))),(1,(enc target)),(2,(enc (cmp:(Clo 78 ((PtrC (Clo 57 (Unit)))×Unit))))),(8,(enc ((x.length:Int):Int))),(9,(enc i1))]) ?_ hl (FxR rfl) ?_
 ·rintro⟨i,j⟩ o h φ s hF;rw[←hF.eq];rw[ZEi] at h;refine ZAB<|ZAB<|ZAC<|ZAE rfl<|ZAE rfl<|ZAM (v:=enc (decide (i<j))) rfl rfl rfl<|ZAA ?_
  split at h
  ·rename_i c';refine ZAH rfl c'<|ZAO<|ZAR<|ZAB<|ZAC<|ZAE rfl<|ZAE rfl<|ZAM (v:=enc (IntKind.i64.wrap (i+j))) rfl rfl rfl<|ZGa underlying3 underlying118 rfl<|ZEN rfl rfl rfl (ZG7 1 (by have:=(UInt64.ofInt (IntKind.i64.wrap (i+j))).toNat_lt;omega))<|ZOQ underlying118 underlying3 rfl<|ZAG rfl<|ZAA<|ZAB<|ZAC ?_
   refine ZAE rfl<|ZAE rfl<|ZAE rfl ?_
   obtain⟨v,hx,h⟩:=bs h;refine ZBG underlying22 sh38 rfl rfl (Enc.self x) hx fun p hp=>ZB1 ag38 sz38 rfl hp fun y hy=>ZAE rfl ?_
   obtain⟨r_,hx1,h⟩:=bs h;refine ZK2 (f:=fun a:ZAD×Int×(PtrC (Clo 57 (Unit)))×Unit=>ZDl a.1 a.2.1 a.2.2.1) (a:=(v,target,cmp.cap)) rfl func78 rfl rfl (Enc.self cmp) rfl (fun _ h=>(.cons (a:=v) hy (.cons (a:=target) (rfl:is _ target) h))) hx1<|ZAM (v:=enc (decide (r_<0))) rfl rfl rfl<|ZAA ?_
   split at h
   ·rename_i c';refine ZAH rfl c'<|ZAC<|ZAE rfl<|ZAM (v:=enc (IntKind.i64.wrap ((IntKind.i64.wrap (((UInt64.ofInt (((((UInt64.ofInt (IntKind.i64.wrap (i+j)))).toNat:Int)).fdiv (2 ^ 1)))).toNat:Int))+1))) rfl rfl rfl<|ZAG rfl<|ZAA ?_
    rw[←oi h];exact⟨_,rfl,FxR rfl⟩
   rename_i c';refine ZAI rfl c'<|ZAC<|ZAE rfl<|ZAG rfl<|ZAA ?_
   rw[←oi h];exact⟨_,rfl,FxR rfl⟩
  rename_i c';refine ZAI rfl c'<|ZA0 ?_
  rw[←oi h];exact⟨_,rfl,rfl,FxR rfl⟩
 intro e φ s hE;obtain⟨rfl,hF⟩:=hE;rw[←hF.eq];rw[ZGe] at h;show if _ then _ else _
 rw[if_pos rfl];refine ZAB<|ZAC<|ZAE rfl<|ZAE rfl<|ZAE rfl<|ZAM (v:=enc (decide (i1<(x.length:Int)))) rfl rfl rfl<|ZAE rfl ?_
 obtain⟨b,hb_b,h⟩:=bs h;refine ZAX 9 (fun φ s=>Fx φ [(35,(enc i1)),(48,(enc b))]) ?_ ?_
 ·split at hb_b
  ·rename_i cg;refine ZAJ rfl rfl cg<|ZAE rfl<|ZAJ rfl rfl cg<|ZAE rfl<|ZAJ rfl rfl cg<|ZAE rfl<|ZAJ rfl rfl cg ?_
   obtain⟨v1,hx2,hb_b⟩:=bs hb_b;refine ZBG underlying22 sh38 rfl rfl (Enc.self x) hx2 fun p1 hp1=>ZAJ rfl rfl cg<|ZB1 ag38 sz38 rfl hp1 fun y1 hy1=>ZAJ rfl rfl cg<|ZAE rfl<|ZAJ rfl rfl cg ?_
   obtain⟨r_1,hx3,hb_b⟩:=bs hb_b;refine ZK2 (f:=fun a:ZAD×Int×(PtrC (Clo 57 (Unit)))×Unit=>ZDl a.1 a.2.1 a.2.2.1) (a:=(v1,target,cmp.cap)) rfl func78 rfl rfl (Enc.self cmp) rfl (fun _ h=>(.cons (a:=v1) hy1 (.cons (a:=target) (rfl:is _ target) h))) hx3<|ZAJ rfl rfl cg<|ZAM (v:=enc (r_1==0)) rfl rfl rfl<|ZAl rfl cg rfl<|ZAA ?_
   rw[←oi hb_b];exact(FxR rfl)
  rename_i cg1;refine ZAF rfl rfl cg1<|ZAF rfl rfl cg1<|ZAF rfl rfl cg1<|ZAF rfl rfl cg1<|ZAF rfl rfl cg1<|ZAF rfl rfl cg1<|ZAF rfl rfl cg1<|ZAF rfl rfl cg1<|ZAi (v:=enc false) rfl cg1 rfl<|ZAA ?_
  rw[←oi hb_b];exact(FxR rfl)
 rintro φ s hF;rw[←hF.eq];refine ZAG rfl<|ZAG rfl<|ZAA<|ZAN ?_
 rw[←oi h];exact⟨rfl,KE2 (a1:=i1) (a2:=b) rfl rfl rfl (rfl:is _ i1) (rfl:is _ b) ⟨_,_,rfl,(rfl:is _ i1),(rfl:is _ b)⟩⟩
theorem ZJq:ZAv Tryz.prog 77 (fun _=>Fn (fun a:(List ZAD)×Int×(Clo 78 ((PtrC (Clo 57 (Unit)))×Unit))×Unit=>ZCo a.1 a.2.1 a.2.2.1)):=fnC ZO2 ⟨_,func77,rfl⟩<|fun a r h=>ZJp a.1 a.2.1 a.2.2.1 r h
noncomputable def py18:Prims:=py17.add 77 (Fn (fun a:(List ZAD)×Int×(Clo 78 ((PtrC (Clo 57 (Unit)))×Unit))×Unit=>ZCo a.1 a.2.1 a.2.2.1))
theorem ZO3:ZAS Tryz.prog py18:=ZAV ZO2 ZJq
theorem ZJr (l:(List ZAD)) (num:Int) (of:(Clo 57 (Unit))) (r:Int×Bool) (h:ZCK l num of=some r):MF Tryz.prog py18 56 [enc l,enc num,enc of] s0 fun v _=>ris v r:=by
 refine ZAm [(0,enc l),(1,enc num),(2,enc of)] func56 rfl (by simp only[Tryz.f56];rfl) fun ψ=> ?_
 unfold ZCK at h;refine ZAB<|ZAC<|ZQt (a:=(of:(Clo 57 (Unit)))) rfl (Enc.self of) Hp.nil fun m s hs=>ZAG (v:=enc (0:Int)) rfl<|ZAG (v:=enc false) rfl<|ZAA<|ZAB<|ZAC<|ZAE rfl<|ZAE rfl<|ZOl (q:=5) (a:=(of:(Clo 57 (Unit)))) rfl (Enc.self _) hs fun z s hz hs=>ZOn (c:=((PtrC.mk of:PtrC (Clo 57 (Unit))),())) rfl ⟨_,_,rfl,hz,rfl⟩ fun z1 hz1=> ?_
 obtain⟨r_,hx,h⟩:=bs h;refine ZBJ (f:=fun a:(List ZAD)×Int×(Clo 78 ((PtrC (Clo 57 (Unit)))×Unit))×Unit=>ZCo a.1 a.2.1 a.2.2.1) (a:=(l,num,(Clo.mk ((PtrC.mk of:PtrC (Clo 57 (Unit))),()):Clo 78 ((PtrC (Clo 57 (Unit)))×Unit)),())) rfl func77 rfl rfl (.cons (a:=l) (Enc.self l) (.cons (a:=num) (Enc.self _) (.cons (a:=((Clo.mk ((PtrC.mk of:PtrC (Clo 57 (Unit))),()):Clo 78 ((PtrC (Clo 57 (Unit)))×Unit)):(Clo 78 ((PtrC (Clo 57 (Unit)))×Unit)))) hz1 .nil))) hx<|ZAp rfl rfl<|ZAp rfl rfl<|ZAG rfl<|ZAG rfl<|ZAA<|ZAN ?_
 rw[←oi h];exact⟨rfl,KE2 (a1:=r_.1) (a2:=r_.2) rfl rfl rfl (rfl:is _ r_.1) (rfl:is _ r_.2) ⟨_,_,rfl,(rfl:is _ r_.1),(rfl:is _ r_.2)⟩⟩
theorem ZJs:ZAv Tryz.prog 56 (fun _=>Fn (fun a:(List ZAD)×Int×(Clo 57 (Unit))×Unit=>ZCK a.1 a.2.1 a.2.2.1)):=fnC ZO3 ⟨_,func56,rfl⟩<|fun a r h=>ZJr a.1 a.2.1 a.2.2.1 r h
noncomputable def py19:Prims:=py18.add 56 (Fn (fun a:(List ZAD)×Int×(Clo 57 (Unit))×Unit=>ZCK a.1 a.2.1 a.2.2.1))
theorem ZO4:ZAS Tryz.prog py19:=ZAV ZO3 ZJs
theorem ZNb (n:Int) (x:(PtrC ZAc)) (r:Bool) (h:ZFI n x=some r):MF Tryz.prog py19 74 [enc n,enc x] s0 fun v _=>ris v r:=by
 refine ZAm [(0,enc n),(1,enc x)] func74 rfl (by simp only[Tryz.f74];rfl) fun ψ=> ?_
 unfold ZFI at h;refine ZAB<|ZAC<|ZAG (v:=enc false) rfl<|ZAA<|ZAB<|ZAC<|ZAE rfl<|ZAM (v:=enc (decide (n<0))) rfl rfl rfl<|ZAE rfl ?_
 obtain⟨b,hb_b,h⟩:=bs h;refine ZAX 3 (fun φ s=>Fx φ [(0,(enc n)),(1,(enc (x:(PtrC ZAc)))),(9,(enc b))]) ?_ ?_
 ·split at hb_b
  ·rename_i cg;refine ZAF rfl rfl (by simpa using cg)<|ZAF rfl rfl (by simpa using cg)<|ZAl (v:=enc true) rfl cg rfl<|ZAA ?_
   rw[←oi hb_b];exact(FxR rfl)
  rename_i cg1;refine ZAJ rfl rfl (by simpa using cg1)<|ZAE rfl<|ZAJ rfl rfl (by simpa using cg1)<|ZAM (v:=enc (decide (n > 1024))) rfl rfl rfl<|ZAi rfl cg1 rfl<|ZAA ?_
  rw[←oi hb_b];exact(FxR rfl)
 rintro φ s hF;rw[←hF.eq];refine ZAE rfl ?_
 obtain⟨b1,hb_b1,h⟩:=bs h;refine ZAX 7 (fun φ s=>Fx φ [(17,(enc b1))]) ?_ ?_
 ·split at hb_b1
  ·rename_i cg2;refine ZAF rfl rfl (by simpa using cg2)<|ZAF rfl rfl (by simpa using cg2)<|ZAF rfl rfl (by simpa using cg2)<|ZAf rfl rfl<|ZAf rfl rfl<|ZAF rfl rfl (by simpa using cg2)<|ZAl (v:=enc true) rfl cg2 rfl<|ZAA ?_
   rw[←oi hb_b1];exact(FxR rfl)
  rename_i cg3;refine ZAJ rfl rfl (by simpa using cg3)<|ZD9 ZQp Sz rfl (PtrC.ep (Enc.self x)) fun p hp=>ZAJ rfl rfl (by simpa using cg3)<|ZB5 ag4 rfl hp fun y hy=> ?_
  cases hy;refine ZAJ rfl rfl (by simpa using cg3)<|ZAE rfl ?_
  obtain⟨b2,hb_b2,hb_b1⟩:=bs hb_b1;refine ZAX 3 (fun φ s=>Fx φ [(10,(enc b)),(16,(enc b2))]) ?_ ?_
  ·split at hb_b2
   ·rename_i cg4;refine ZAJ rfl rfl cg4<|ZAE rfl<|ZAJ rfl rfl cg4<|ZAM (v:=enc (n==0)) rfl rfl rfl<|ZAJ rfl rfl (by simpa using cg3)<|ZAl rfl cg4 rfl<|ZAA ?_
    rw[←oi hb_b2];exact(FxR rfl)
   rename_i cg5;refine ZAF rfl rfl cg5<|ZAF rfl rfl cg5<|ZAJ rfl rfl (by simpa using cg3)<|ZAi (v:=enc false) rfl cg5 rfl<|ZAA ?_
   rw[←oi hb_b2];exact(FxR rfl)
  rintro φ s hF;rw[←hF.eq];refine ZAi rfl cg3 rfl<|ZAA ?_
  rw[←oi hb_b1];exact(FxR rfl)
 rintro φ s hF;rw[←hF.eq];refine ZAG rfl<|ZAA<|ZAN ?_
 rw[←oi h];exact⟨rfl,KE1 (a:=b1) rfl rfl (rfl:is _ b1) (rfl:is _ b1)⟩
theorem ZNc:ZAv Tryz.prog 74 (fun _=>Fn (fun a:Int×(PtrC ZAc)×Unit=>ZFI a.1 a.2.1)):=fnC ZO4 ⟨_,func74,rfl⟩<|fun a r h=>ZNb a.1 a.2.1 r h
noncomputable def py20:Prims:=py19.add 74 (Fn (fun a:Int×(PtrC ZAc)×Unit=>ZFI a.1 a.2.1))
theorem ZO5:ZAS Tryz.prog py20:=ZAV ZO4 ZNc
theorem ZHe (s_:(List Int)) (f:(Clo 74 ((PtrC ZAc)×Unit))) (r:Int) (h:ZBg s_ f=some r):MF Tryz.prog py20 102 [enc s_,enc f] s0 fun v _=>ris v r:=by
 refine ZAm [(0,enc s_),(1,enc f)] func102 rfl (by simp only[Tryz.f102];rfl) fun ψ=> ?_
 unfold ZBg at h;refine ZAB<|ZAC<|ZAG (v:=enc (0:Int)) rfl<|ZAA<|ZAB<|ZAB<|ZAC<|ZAE rfl<|ZAu underlying35 rfl rfl (Enc.self s_)<|ZAE (v:=enc (0:Int)) rfl<|ZAA<|ZAR ?_
 obtain⟨o,hl,h⟩:=bs h;refine ZA6 (fun(p:Int) φ s=>match p with | v=>Fx φ [(0,(enc (s_:(List Int)))),(1,(enc (f:(Clo 74 ((PtrC ZAc)×Unit))))),(7,(enc ((s_.length:Int):Int))),(8,(enc v))]) (fun(o:(Unit ⊕ Int)) e φ s=>match o with | (.inl _)=>e= .exit 0∧Fx φ [] | (.inr v1)=>e= .ret∧Fx φ [(4,(enc v1))]) ?_ hl (FxR rfl) ?_
 ·rintro v o h φ s hF;rw[←hF.eq];rw[ZDM] at h;refine ZAB<|ZAC<|ZAM (v:=enc (decide (v<(s_.length:Int)))) rfl rfl rfl<|ZAA<|ZAB ?_
  split at h
  ·rename_i c';refine ZAH rfl c'<|ZAO<|ZAB<|ZAR<|ZAB<|ZAC<|ZAE rfl<|ZAG rfl<|ZAA<|ZAB<|ZAC<|ZAE rfl<|ZAE rfl<|ZAE rfl ?_
   obtain⟨v2,hx,h⟩:=bs h;refine ZBG underlying35 sh3 rfl rfl (Enc.self s_) hx fun p hp=>ZEz rfl ag3 rfl hp fun y hy=> ?_
   cases hy;obtain⟨r_,hx1,h⟩:=bs h;refine ZK2 (f:=fun a:Int×(PtrC ZAc)×Unit=>ZFI a.1 a.2.1) (a:=(v2,f.cap)) rfl func74 rfl rfl (Enc.self f) rfl (fun _ h=>(.cons (a:=v2) (rfl:is _ v2) h)) hx1<|ZAA ?_
   split at h
   ·rename_i c';refine ZAH rfl c'<|ZAB<|ZAC<|ZAE rfl<|ZAG rfl<|ZAA<|ZAN ?_
    show if _ then _ else _
    rw[if_neg (by simp)]
    rw[←oi h];exact⟨_,rfl,rfl,FxR rfl⟩
   rename_i c';refine ZAI rfl c'<|ZAO<|ZAC<|ZAM (v:=enc (IntKind.i64.wrap (v+1))) rfl rfl rfl<|ZAE rfl<|ZAA ?_
   rw[←oi h];exact⟨_,rfl,FxR rfl⟩
  rename_i c';refine ZAI rfl c'<|ZA0 ?_
  rw[←oi h];exact⟨_,rfl,rfl,trivial⟩
 intro e φ s hE;rcases o with _u | v1
 ·obtain⟨rfl,hF⟩:=hE;rw[←hF.eq];rw[ZDN] at h;show if _ then _ else _
  rw[if_pos rfl];refine ZAB<|ZAC<|ZAG (v:=enc ((-1):Int)) rfl<|ZAA<|ZAN ?_
  rw[←oi h];exact⟨rfl,KE1 (a:=((-1):Int)) rfl rfl (rfl:is _ ((-1):Int)) (rfl:is _ ((-1):Int))⟩
 obtain⟨rfl,hF⟩:=hE;rw[←hF.eq];rw[ZDN] at h;show if _ then _ else _
 rw[if_neg (by simp)]
 rw[←oi h];exact⟨rfl,KE1 (a:=v1) rfl rfl (rfl:is _ v1) (rfl:is _ v1)⟩
theorem ZHf:ZAv Tryz.prog 102 (fun _=>Fn (fun a:(List Int)×(Clo 74 ((PtrC ZAc)×Unit))×Unit=>ZBg a.1 a.2.1)):=fnC ZO5 ⟨_,func102,rfl⟩<|fun a r h=>ZHe a.1 a.2.1 r h
noncomputable def py21:Prims:=py20.add 102 (Fn (fun a:(List Int)×(Clo 74 ((PtrC ZAc)×Unit))×Unit=>ZBg a.1 a.2.1))
theorem ZO6:ZAS Tryz.prog py21:=ZAV ZO5 ZHf
theorem ZGf (s_:(List Int)) (f:(Clo 74 ((PtrC ZAc)×Unit))) (r:Bool) (h:ZBD s_ f=some r):MF Tryz.prog py21 76 [enc s_,enc f] s0 fun v _=>ris v r:=by
 refine ZAm [(0,enc s_),(1,enc f)] func76 rfl (by simp only[Tryz.f76];rfl) fun ψ=> ?_
 unfold ZBD at h;refine ZAB<|ZAC<|ZAG (v:=enc false) rfl<|ZAA<|ZAB<|ZAC<|ZAE rfl<|ZAE rfl ?_
 obtain⟨r_,hx,h⟩:=bs h;refine ZBJ (f:=fun a:(List Int)×(Clo 74 ((PtrC ZAc)×Unit))×Unit=>ZBg a.1 a.2.1) (a:=(s_,f,())) rfl func102 rfl rfl (.cons (a:=s_) (Enc.self s_) (.cons (a:=(f:(Clo 74 ((PtrC ZAc)×Unit)))) (Enc.self f) .nil)) hx<|ZAM (v:=enc (decide (r_≥0))) rfl rfl rfl<|ZAG rfl<|ZAA<|ZAN ?_
 rw[←oi h];exact⟨rfl,KE1 (a:=((decide (r_≥0)):Bool)) rfl rfl (rfl:is _ ((decide (r_≥0)):Bool)) (rfl:is _ ((decide (r_≥0)):Bool))⟩
theorem ZGg:ZAv Tryz.prog 76 (fun _=>Fn (fun a:(List Int)×(Clo 74 ((PtrC ZAc)×Unit))×Unit=>ZBD a.1 a.2.1)):=fnC ZO6 ⟨_,func76,rfl⟩<|fun a r h=>ZGf a.1 a.2.1 r h
noncomputable def py22:Prims:=py21.add 76 (Fn (fun a:(List Int)×(Clo 74 ((PtrC ZAc)×Unit))×Unit=>ZBD a.1 a.2.1))
theorem ZO7:ZAS Tryz.prog py22:=ZAV ZO6 ZGg
theorem ZL5 (e_:Int) (r:(Err 111)) (h:ZA7 e_=some r):MF Tryz.prog py22 65 [enc e_] s0 fun v _=>ris v r:=by
 refine ZAm [(0,enc e_)] func65 rfl (by simp only[Tryz.f65];rfl) fun ψ=> ?_
 unfold ZA7 at h;refine ZAB<|ZAC<|ZAG (v:= .nifc) rfl<|ZAA<|ZAB<|ZAC<|ZAE rfl<|ZDy (r0:=((0:Int),())) ZTL ZTJ ZTK rfl rfl (r:=(e_,())) (.cons (z:=e_) Sz (rfl:is _ e_) .nil) fun y hy=>ZBM (r:=(Rec.mk (e_,()):ZHn)) rfl hy Hp.nil fun m xs s hxs hs=>ZOm (q:=5) (r:=(Rec.mk (e_,()):ZHn)) rfl hxs hs fun z s hz hs=>ZSV (t:=111) (r:=(Rec.mk (e_,()):ZHn)) (by kernel_rfl) rfl hz<|ZAG rfl<|ZAA<|ZAN ?_
 rw[←oi h];exact⟨rfl,KE1 (a:=((Err.mk (some e_):Err 111):(Err 111))) rfl rfl (Enc.self _) (Enc.self _)⟩
theorem ZL6:ZAv Tryz.prog 65 (fun _=>Fn (fun a:Int×Unit=>ZA7 a.1)):=fnC ZO7 ⟨_,func65,rfl⟩<|fun a r h=>ZL5 a.1 r h
noncomputable def py23:Prims:=py22.add 65 (Fn (fun a:Int×Unit=>ZA7 a.1))
theorem ZIQ:ZAS Tryz.prog py23:=ZAV ZO7 ZL6
theorem ZHB (x:UInt64) (r:(List UInt8)) (h:ZGH x=some r) {s:St} {enF:En} {G:Glob} (hs:Hp s [enF,(.gl G)]):MF Tryz.prog py23 99 [(enc x)] s fun v s' =>∃en',isM v en' r∧Hp s' [en',enF, .gl G]:=by
 refine ZCm [(0,(enc x))] func99 rfl (by simp only[Tryz.f99];rfl) fun ψ=> ?_
 unfold ZGH at h;refine ZAB<|ZAC<|ZAG (v:= .nils) rfl<|ZAA<|ZAB<|ZAC<|ZAE rfl ?_
 obtain⟨r_,hx,h⟩:=bs h;refine ZBJ (f:=fun a:UInt64×Unit=>ZEh a.1) (a:=(x,())) rfl func116 rfl rfl (.cons (a:=x) (Enc.self _) .nil) hx ?_
 obtain⟨l,hx1,h⟩:=bs h;refine ZQC underlying33 ef5 ze5 rfl rfl hx1 hs fun z en s hz hs=>ZAG (v:=z) rfl<|ZAA<|ZAB<|ZAB<|ZAC<|ZAE (v:=z) rfl<|ZHV underlying33 rfl rfl hz<|ZAE (v:=enc (0:Int)) rfl<|ZAA<|ZAR ?_
 obtain⟨out_1,hl,h⟩:=bs h;refine ZA6 (fun(p:((List UInt8)×Int)) φ s=>match p with | (out_,v)=>∃(x_out_:AV) (en1:En),isM x_out_ en1 out_∧Fx φ [(0,(enc x)),(3,x_out_),(9,(enc ((l.length:Int):Int))),(10,(enc v))]∧Hp s [enF,(.gl G),en1]) (fun(o:(List UInt8)) e φ s=>match o with | out_1=>e= .exit 0∧∃(x_out_1:AV) (en2:En),isM x_out_1 en2 out_1∧Fx φ [(3,x_out_1)]∧Hp s [enF,(.gl G),en2]) ?_ hl ⟨z,en,hz,FxR rfl,(Hp.front [(.gl G),en] (b:=[]) (Hp.front [en,enF] (b:=[]) (Hp.front [] (b:=[enF,(.gl G)]) hs)))⟩ ?_
 ·rintro⟨out_,v⟩ o h φ s ⟨x_out_,en1,hm_x_out_,hF,hs⟩;rw[←hF.eq];rw[ZHA] at h;refine ZAB<|ZAC<|ZAM (v:=enc (decide (v<(l.length:Int)))) rfl rfl rfl<|ZAA<|ZAB ?_
  split at h
  ·rename_i c';refine ZAH rfl c'<|ZAO<|ZAB<|ZAR<|ZAB<|ZAC<|ZAE rfl<|ZAG rfl<|ZAA<|ZAC<|ZAE (v:=x_out_) rfl<|ZAE rfl<|ZAE rfl<|ZAE rfl<|ZAM (v:=enc (IntKind.i64.wrap (7*v))) rfl rfl rfl ?_
   obtain⟨u,hx2,h⟩:=bs h;refine ZRj (a:=x) (i:=IntKind.i64.wrap (7*v)) rfl rfl hx2<|ZOT underlying154 underlying5 rfl<|ZOS rfl rfl rfl ?_
   obtain⟨v1,hx3,h⟩:=bs h;refine ZMg underlying33 sh5 rfl rfl hm_x_out_ (ZCD hx3).1 (ZCD hx3).2.1 fun p hp=> ?_
   replace hs:=Hp.front [enF,(.gl G)] (b:=[]) hs;refine ZOU (a:=((UInt8.ofInt (ZP9 .u8 (((UInt8.ofInt ((u).toNat:Int))).toNat:Int) 128)):UInt8)) rfl rfl hp hm_x_out_ (ZOV hx3) (rfl:is _ ((UInt8.ofInt (ZP9 .u8 (((UInt8.ofInt ((u).toNat:Int))).toNat:Int) 128)):UInt8)) sz5 hs fun en3 s hm hs=>ZAA<|ZAC<|ZAM (v:=enc (IntKind.i64.wrap (v+1))) rfl rfl rfl<|ZAE rfl<|ZAA ?_
   rw[←oi h];exact⟨_,rfl,⟨x_out_,en3,hm,FxR rfl,(Hp.front [(.gl G),en3] (b:=[]) (Hp.front [en3,enF] (b:=[]) (Hp.front [] (b:=[enF,(.gl G)]) hs)))⟩⟩
  rename_i c';refine ZAI rfl c'<|ZA0 ?_
  rw[←oi h];exact⟨_,rfl,rfl,⟨x_out_,en1,hm_x_out_,FxR rfl,hs⟩⟩
 intro e φ s hE;obtain⟨rfl,x_out_1,en2,hm_x_out_1,hF,hs⟩:=hE;rw[←hF.eq];rw[ZJJ] at h;show if _ then _ else _
 rw[if_pos rfl];refine ZAB<|ZAC<|ZAE (v:=x_out_1) rfl<|ZAE (v:=x_out_1) rfl<|ZHV underlying33 rfl rfl hm_x_out_1<|ZAM (v:=enc (IntKind.i64.wrap ((out_1.length:Int) - 1))) rfl rfl rfl ?_
 obtain⟨v2,hx4,h⟩:=bs h;refine ZMg underlying33 sh5 rfl rfl hm_x_out_1 (ZCD hx4).1 (ZCD hx4).2.1 fun p1 hp1=> ?_
 replace hs:=Hp.front [enF,(.gl G)] (b:=[]) hs;refine ZSN rfl ag5 rfl hp1 hm_x_out_1 hx4 hs fun y hy=> ?_
 cases hy;refine ZOS rfl rfl rfl ?_
 obtain⟨v3,hx5,h⟩:=bs h;refine ZMg underlying33 sh5 rfl rfl hm_x_out_1 (ZCD hx5).1 (ZCD hx5).2.1 fun p2 hp2=>ZOU (a:=((UInt8.ofInt (ZIJ .u8 ((v2).toNat:Int) 128)):UInt8)) rfl rfl hp2 hm_x_out_1 (ZOV hx5) (rfl:is _ ((UInt8.ofInt (ZIJ .u8 ((v2).toNat:Int) 128)):UInt8)) sz5 hs fun en4 s hm1 hs=>ZAA<|ZAB<|ZAC<|ZAE (v:=x_out_1) rfl<|ZAG (v:=x_out_1) rfl<|ZAA<|ZAN ?_
 rw[←oi h];exact⟨rfl,KN1 rfl rfl ⟨_,hm1,hs⟩⟩
theorem ZLB (b:(List UInt8)) (r:(List UInt8)) (h:ZCS b=some r):MF Tryz.prog py23 100 [enc b] s0 fun v _=>ris v r:=by
 refine ZAm [(0,enc b)] func100 rfl (by simp only[Tryz.f100];rfl) fun ψ=> ?_
 unfold ZCS at h;refine ZAB<|ZAC<|ZAG (v:= .nils) rfl<|ZAA<|ZAB<|ZAC<|ZAE rfl<|ZAu underlying33 rfl rfl (Enc.self b)<|ZGa underlying3 underlying154 rfl ?_
 obtain⟨r_,hx,h⟩:=bs h;refine ZAh (by kernel_rfl) func99 rfl (vs:=[(enc ((UInt64.ofInt (b.length:Int)):UInt64))]) rfl (MF.any (ZHB (UInt64.ofInt (b.length:Int)) _ hx (Hp.packG [] [] Hp.nil)) ZIQ) fun w s ⟨en,hm,hq_⟩=> ?_
 replace hs:=Hp.unpackG [] [en] [] Hp.nil hq_;refine ZAE rfl ?_
 obtain⟨l,hx1,h⟩:=bs h;refine ZFB underlying33 underlying33 rfl rfl ef5 rfl rfl (isM.ap hm) (Enc.self b) hx1 hs fun z en1 s hz hs=>ZDj (q:=8) rfl hz hs fun z1 s hz1 hs=>ZAG (v:=z1) rfl<|ZAA<|ZAN ?_
 rw[←oi h];exact⟨rfl,KE1 (a:=l) rfl rfl hz1 hz1⟩
theorem ZLC:ZAv Tryz.prog 100 (fun _=>Fn (fun a:(List UInt8)×Unit=>ZCS a.1)):=fnC ZIQ ⟨_,func100,rfl⟩<|fun a r h=>ZLB a.1 r h
noncomputable def py24:Prims:=py23.add 100 (Fn (fun a:(List UInt8)×Unit=>ZCS a.1))
theorem ZEA:ZAS Tryz.prog py24:=ZAV ZIQ ZLC
theorem ZCL (b:(List UInt8)) (fields:(List AnyV)) (r:(List UInt8)) (h:ZDO b fields=some r) {x_b:AV} {en_b:En} (hm_b:isM x_b en_b b) {x_fields:AV} (hy_fields:is x_fields fields) {s:St} {enF:En} {G:Glob} (hs:Hp s [en_b,enF,(.gl G)]):MF Tryz.prog py24 73 [x_b,x_fields] s fun v s' =>∃en',isM v en' r∧Hp s' [en',enF, .gl G]:=by
 refine ZCm [(0,x_b),(1,x_fields)] func73 rfl (by simp only[Tryz.f73];rfl) fun ψ=> ?_
 unfold ZDO at h;refine ZAB<|ZAC<|ZAG (v:= .nils) rfl<|ZAA<|ZAB<|ZAB<|ZAC<|ZAE (v:=x_fields) rfl<|ZAu underlying152 rfl rfl hy_fields<|ZAE (v:=enc (0:Int)) rfl<|ZAA<|ZAR ?_
 obtain⟨b2,hl,h⟩:=bs h;refine ZA6 (fun(p:((List UInt8)×Int)) φ s=>match p with | (b1,v)=>∃(x_b1:AV) (en:En),isM x_b1 en b1∧Fx φ [(0,x_b1),(15,x_fields),(16,(enc ((fields.length:Int):Int))),(17,(enc v))]∧Hp s [enF,(.gl G),en]) (fun(o:(List UInt8)) e φ s=>match o with | b2=>e= .exit 0∧∃(x_b2:AV) (en1:En),isM x_b2 en1 b2∧Fx φ [(0,x_b2)]∧Hp s [enF,(.gl G),en1]) ?_ hl ⟨x_b,en_b,hm_b,FxR rfl,(Hp.front [(.gl G),en_b] (b:=[]) (Hp.front [en_b,enF] (b:=[]) (Hp.front [] (b:=[enF,(.gl G)]) hs)))⟩ ?_
 ·rintro⟨b1,v⟩ o h φ s ⟨x_b1,en,hm_x_b1,hF,hs⟩;rw[←hF.eq];rw[ZFg] at h;refine ZAB<|ZAC<|ZAM (v:=enc (decide (v<(fields.length:Int)))) rfl rfl rfl<|ZAA<|ZAB ?_
  split at h
  ·rename_i c';refine ZAH rfl c'<|ZAO<|ZFv (fun φ s=>∃(b3:(List UInt8)) (x_b3:AV) (en2:En),isM x_b3 en2 b3∧Fx φ [(0,x_b3),(15,x_fields),(16,(enc ((fields.length:Int):Int))),(17,(enc v))]∧Hp s [enF,(.gl G),en2]∧ZBx v b3=some o) ?_ ?_
   ·refine ZAR ?_
    refine ZAB<|ZAC ?_
    obtain⟨v1,hx,h⟩:=bs h;refine ZBG underlying152 sh20 rfl rfl hy_fields hx fun p hp=>ZEz rfl ag20 rfl hp fun y hy=>ZAG (v:=y) rfl<|ZAA<|ZAB<|ZAC<|ZAE (v:=y) rfl<|ZAA<|ZAR<|ZAB<|ZAC ?_
    obtain⟨as_,hx1,h⟩:=bs h;refine ZOc (by kernel_rfl) ze3 rfl hy hx1 fun z hz=> ?_
    cases hz;refine ZAp rfl rfl<|ZAp rfl rfl<|ZAA ?_
    split at h
    ·rename_i c';refine ZAH rfl c'<|ZAB<|ZAC<|ZAG rfl<|ZAA<|ZAC<|ZAE (v:=x_b1) rfl<|ZAE rfl<|ZGa underlying3 underlying154 rfl ?_
     obtain⟨r_,hx2,h⟩:=bs h;refine ZAh (by kernel_rfl) func99 rfl (vs:=[(enc ((UInt64.ofInt as_.1):UInt64))]) rfl (MF.any (ZHB (UInt64.ofInt as_.1) _ hx2 (Hp.packG [] [enF,(.gl G),en] hs)) ZIQ) fun w s ⟨en3,hm,hq_⟩=> ?_
     replace hs:=Hp.unpackG [] [en3] [enF,(.gl G),en] hs hq_;refine ZDj (q:=28) rfl hm hs fun z1 s hz1 hs=> ?_
     replace hs:=Hp.front [enF,(.gl G)] (b:=[]) hs;obtain⟨l,hx3,h⟩:=bs h;refine ZFB underlying33 underlying33 rfl rfl ef5 rfl rfl (isM.ap hm_x_b1) hz1 hx3 hs fun z2 en4 s hz2 hs=>ZAG (v:=z2) rfl<|ZAA ?_
     exact⟨l,z2,en4,hz2,FxR rfl,(Hp.front [(.gl G),en4] (b:=[]) (Hp.front [en4,enF] (b:=[]) (Hp.front [] (b:=[enF,(.gl G)]) hs))),h⟩
    rename_i c';refine ZAI rfl c'<|ZAB<|ZAC ?_
    obtain⟨as_1,hx4,h⟩:=bs h;refine ZOc (by kernel_rfl) ze9 rfl hy hx4 fun z3 hz3=> ?_
    cases hz3;refine ZAp rfl rfl<|ZAp rfl rfl<|ZAA ?_
    split at h
    ·rename_i c';refine ZAH rfl c'<|ZAB<|ZAC<|ZAG rfl<|ZAA<|ZAC<|ZAE (v:=x_b1) rfl<|ZAE rfl ?_
     obtain⟨l1,hx5,h⟩:=bs h;refine ZRk (tx:=as_1.1) underlying9 underlying33 underlying5 rfl hx5 hs fun z4 s hz4 hz4c hs=> ?_
     obtain⟨r_1,hx6,h⟩:=bs h;refine ZBJ (f:=fun a:(List UInt8)×Unit=>ZCS a.1) (a:=(l1,())) rfl func100 rfl rfl (.cons (a:=l1) hz4 .nil) hx6 ?_
     replace hs:=Hp.front [.own z4,enF,(.gl G)] (b:=[]) hs;obtain⟨l2,hx7,h⟩:=bs h;refine ZFB underlying33 underlying33 rfl rfl ef5 rfl rfl (isM.ap hm_x_b1) (Enc.self r_1) hx7 hs fun z5 en5 s hz5 hs=>ZAG (v:=z5) rfl<|ZAA ?_
     exact⟨l2,z5,en5,hz5,FxR rfl,(Hp.front [(.gl G),en5] (b:=[]) (Hp.front [en5,enF] (b:=[]) (Hp.front [] (b:=[enF,(.gl G)]) (Hp.drop [en5] (b:=[enF,(.gl G)]) hs)))),h⟩
    rename_i c';refine ZAI rfl c'<|ZAB<|ZAC ?_
    obtain⟨as_2,hx8,h⟩:=bs h;refine ZOc (by kernel_rfl) ze33 rfl hy hx8 fun z6 hz6=>ZAp rfl rfl<|ZAp rfl rfl<|ZAA ?_
    split at h
    ·rename_i c';refine ZAH rfl c'<|ZAB<|ZAC<|ZAG (v:=z6) rfl<|ZAA<|ZAC<|ZAE (v:=x_b1) rfl<|ZAE (v:=z6) rfl ?_
     obtain⟨r_2,hx9,h⟩:=bs h;refine ZBJ (f:=fun a:(List UInt8)×Unit=>ZCS a.1) (a:=(as_2.1,())) rfl func100 rfl rfl (.cons (a:=as_2.1) hz6 .nil) hx9 ?_
     replace hs:=Hp.front [enF,(.gl G)] (b:=[]) hs;obtain⟨l3,hx10,h⟩:=bs h;refine ZFB underlying33 underlying33 rfl rfl ef5 rfl rfl (isM.ap hm_x_b1) (Enc.self r_2) hx10 hs fun z7 en6 s hz7 hs=>ZAG (v:=z7) rfl<|ZAA ?_
     exact⟨l3,z7,en6,hz7,FxR rfl,(Hp.front [(.gl G),en6] (b:=[]) (Hp.front [en6,enF] (b:=[]) (Hp.front [] (b:=[enF,(.gl G)]) hs))),h⟩
    rename_i c';refine ZAI rfl c'<|ZAB<|ZAC ?_
    obtain⟨as_3,hx11,h⟩:=bs h;refine ZOc (by kernel_rfl) ZTI rfl hy hx11 fun z8 hz8=> ?_
    cases hz8;refine ZAp rfl rfl<|ZAp rfl rfl<|ZAA ?_
    split at h
    ·rename_i c';refine ZAH rfl c'<|ZAB<|ZAC<|ZAG rfl<|ZAA<|ZAB<|ZAC<|ZAE rfl ?_
     cases h
    rename_i c';refine ZAI rfl c'<|ZAB<|ZAC ?_
    obtain⟨as_4,hx12,h⟩:=bs h;refine ZOc (by kernel_rfl) ze4 rfl hy hx12 fun z9 hz9=> ?_
    cases hz9;refine ZAp rfl rfl<|ZAp rfl rfl<|ZAA ?_
    split at h
    ·rename_i c';refine ZAH rfl c'<|ZAB<|ZAC<|ZAG rfl<|ZAA<|ZAB<|ZAC<|ZAG (v:=enc (0:Int)) rfl<|ZAA<|ZFv (fun φ s=>∃(n:Int),Fx φ [(0,x_b1),(14,(enc n)),(15,x_fields),(16,(enc ((fields.length:Int):Int))),(17,(enc v))]∧Hp s [enF,(.gl G),en]∧ZFf b1 v n=some o) ?_ ?_
     ·refine ZAB ?_
      refine ZAC<|ZAE rfl<|ZAA ?_
      split at h
      ·rename_i c';refine ZAH rfl c'<|ZAC<|ZAG (v:=enc (1:Int)) rfl<|ZAA ?_
       exact⟨1,FxR rfl,hs,h⟩
      rename_i c';refine ZAI rfl c'<|ZAO ?_
      exact⟨0,FxR rfl,hs,h⟩
     rintro φ s ⟨n,hF,hs,h⟩;rw[←hF.eq];unfold ZFf at h;refine ZAC<|ZAE (v:=x_b1) rfl<|ZAE rfl<|ZGa underlying3 underlying154 rfl ?_
     obtain⟨r_3,hx13,h⟩:=bs h;refine ZAh (by kernel_rfl) func99 rfl (vs:=[(enc ((UInt64.ofInt n):UInt64))]) rfl (MF.any (ZHB (UInt64.ofInt n) _ hx13 (Hp.packG [] [enF,(.gl G),en] hs)) ZIQ) fun w1 s ⟨en7,hm1,hq_⟩=> ?_
     replace hs:=Hp.unpackG [] [en7] [enF,(.gl G),en] hs hq_;refine ZDj (q:=63) rfl hm1 hs fun z10 s hz10 hs=> ?_
     replace hs:=Hp.front [enF,(.gl G)] (b:=[]) hs;obtain⟨l4,hx14,h⟩:=bs h;refine ZFB underlying33 underlying33 rfl rfl ef5 rfl rfl (isM.ap hm_x_b1) hz10 hx14 hs fun z11 en8 s hz11 hs=>ZAG (v:=z11) rfl<|ZAA ?_
     exact⟨l4,z11,en8,hz11,FxR rfl,(Hp.front [(.gl G),en8] (b:=[]) (Hp.front [en8,enF] (b:=[]) (Hp.front [] (b:=[enF,(.gl G)]) hs))),h⟩
    rename_i c';refine ZAI rfl c'<|ZAO ?_
    exact⟨b1,x_b1,en,hm_x_b1,FxR rfl,hs,h⟩
   rintro φ s ⟨b3,x_b3,en2,hm_x_b3,hF,hs,h⟩;rw[←hF.eq];unfold ZBx at h;refine ZAC<|ZAM (v:=enc (IntKind.i64.wrap (v+1))) rfl rfl rfl<|ZAE rfl<|ZAA ?_
   rw[←oi h];exact⟨_,rfl,⟨x_b3,en2,hm_x_b3,FxR rfl,hs⟩⟩
  rename_i c';refine ZAI rfl c'<|ZA0 ?_
  rw[←oi h];exact⟨_,rfl,rfl,⟨x_b1,en,hm_x_b1,FxR rfl,hs⟩⟩
 intro e φ s hE;obtain⟨rfl,x_b2,en1,hm_x_b2,hF,hs⟩:=hE;rw[←hF.eq];rw[ZJK] at h;show if _ then _ else _
 rw[if_pos rfl];refine ZAB<|ZAC<|ZAE (v:=x_b2) rfl<|ZAG (v:=x_b2) rfl<|ZAA<|ZAN ?_
 rw[←oi h];exact⟨rfl,KN1 rfl rfl ⟨_,hm_x_b2,(Hp.front [enF,(.gl G)] (b:=[]) (Hp.front [(.gl G)] (b:=[en1]) (Hp.front [enF] (b:=[en1]) hs)))⟩⟩
end Go.Ai.Rab
