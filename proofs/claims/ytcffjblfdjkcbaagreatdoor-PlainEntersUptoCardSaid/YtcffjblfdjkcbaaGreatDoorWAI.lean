/- My own texts DevPgB, one behind the other. -/
import Derived.Test.YtcffjblfdjkcbaaGreatDoorWAE
import Derived.Test.YtcffjblfdjkcbaaGreatDoorWAG
import Derived.Test.YtcffjblfdjkcbaaGreatDoorWAH
set_option linter.unusedVariables false
set_option linter.unusedSimpArgs false
set_option maxRecDepth 100000
set_option maxHeartbeats 16000000
attribute [local irreducible] Go.Ai.TC Go.Ai.TO Go.Ai.MF Go.Ai.ZE6 Go.Ai.ZDC Go.Ai.encR
open Go.Ai.Enc (enc is)
open Go.Ai.Res (res ris)
open Go.Ai.Args (args)
open Go.Ai.Flds (fe fi fk)
namespace Go.Ai
abbrev ZFX:Type:=(Rec (Int×Unit))
end Go.Ai
namespace Go.Ai.TTryz
open Go.Proofs
theorem ze3:∃a,ZBd Tryz.prog 3=some a∧is a (0:Int):=⟨enc (0:Int),by kernel_rfl,Enc.self _⟩
theorem ze4:∃a,ZBd Tryz.prog 4=some a∧is a false:=⟨enc false,by kernel_rfl,Enc.self _⟩
theorem ze5:∃a,ZBd Tryz.prog 5=some a∧is a (0:UInt8):=⟨enc (0:UInt8),by kernel_rfl,Enc.self _⟩
theorem ze9:∃a,ZBd Tryz.prog 9=some a∧is a (str []):=⟨enc (str []),by kernel_rfl,Enc.self _⟩
theorem ze33:∃a,ZBd Tryz.prog 33=some a∧is a ([]:(List UInt8)):=⟨.nils,by kernel_rfl,isL.nil⟩
theorem ZWI:∃a,ZBd Tryz.prog 122=some a∧is a (str []):=⟨enc (str []),by kernel_rfl,Enc.self _⟩
def ZVc:List AV:=[enc (0:Int)]
theorem ZWJ:ZBd Tryz.prog 115=some (.agg ZVc):=by kernel_rfl
theorem ZWK:fi ZVc (Rec.mk ((0:Int),()):ZFX).v:=⟨_,_,rfl,rfl,rfl⟩
theorem ZWL:buB Tryz.prog 115 1=true:=by kernel_rfl
end Go.Ai.TTryz
namespace Go.Ai.Rab
open Go.Proofs TTryz Tryz
noncomputable def ZIK (x:ZAF) (x1:(PtrC Int)):Option (Bool):=
 some ((x.v.1==x1.v))
noncomputable def ZDj (s_:(List ZAF)) (f:(Clo 31 ((PtrC Int)×Unit))):Int→Option (Int ⊕ (Unit ⊕ Int))
 | v=>(if(decide (v<(s_.length:Int))) then((nth s_ v).bind fun v2=>((ZIK v2 f.cap.1).bind fun r_=>(if r_ then some (.inr (.inr v)) else some (.inl (IntKind.i64.wrap (v+1)))))) else some (.inr (.inl ())))
noncomputable def ZDk:(Unit ⊕ Int)→Option (Int)
 | (.inl _)=>some ((-1))
 | (.inr v1)=>some (v1)
noncomputable def ZBu (s_:(List ZAF)) (f:(Clo 31 ((PtrC Int)×Unit))):Option (Int):=
 ((loop (ZDj s_ f) 0).bind (ZDk))
noncomputable def ZA7 (f:FsR) (num:Int):Option (Int):=
 ((ZBu f.v.1 (Clo.mk ((PtrC.mk num:PtrC Int),()):Clo 31 ((PtrC Int)×Unit))).bind fun r_=>some (r_))
noncomputable def ZHn (x:Int):Option (Bool):=
 some ((x !=x))
noncomputable def cmpI (x:Int) (y:Int):Option (Int):=
 ((ZHn x).bind fun r_=>((ZHn y).bind fun r_1=>(if r_ then(if r_1 then some (0) else some ((-1))) else(if r_1 then some (1) else(if(decide (x<y)) then some ((-1)) else(if(decide (x > y)) then some (1) else some (0)))))))
noncomputable def ZHo (x:Str):Option (Bool):=
 some ((!eqS x x))
noncomputable def ZCg (x:Str):Option (Bool):=
 some ((!eqS x x))
noncomputable def ZNC (x:Str) (y:Str):Option (Bool):=
 ((ZHo x).bind fun r_=>((if r_ then((ZHo y).bind fun r_1=>some (!r_1)) else some false).bind fun b=>((if b then some true else some (ltS x y)).bind fun b1=>some (b1))))
noncomputable def ZOU (x:(List Str)) (target:Str):(Int×Int)→Option ((Int×Int) ⊕ Int)
 | (i,j)=>(if(decide (i<j)) then((nth x (IntKind.i64.wrap (((UInt64.ofInt (((((UInt64.ofInt (IntKind.i64.wrap (i+j)))).toNat:Int)).fdiv (2 ^ 1)))).toNat:Int))).bind fun v=>((ZNC v target).bind fun r_=>(if r_ then some (.inl ((IntKind.i64.wrap ((IntKind.i64.wrap (((UInt64.ofInt (((((UInt64.ofInt (IntKind.i64.wrap (i+j)))).toNat:Int)).fdiv (2 ^ 1)))).toNat:Int))+1)),j)) else some (.inl (i,(IntKind.i64.wrap (((UInt64.ofInt (((((UInt64.ofInt (IntKind.i64.wrap (i+j)))).toNat:Int)).fdiv (2 ^ 1)))).toNat:Int))))))) else some (.inr i))
noncomputable def ZRY (x:(List Str)) (target:Str):Int→Option (Int×Bool)
 | i1=>((if(decide (i1<(x.length:Int))) then((nth x i1).bind fun v1=>((if(eqS v1 target) then some true else((nth x i1).bind fun v2=>((ZCg v2).bind fun r_1=>((if r_1 then((ZCg target).bind fun r_2=>some r_2) else some false).bind fun b2=>some b2)))).bind fun b1=>some b1)) else some false).bind fun b=>some (i1,b))
noncomputable def binS (x:(List Str)) (target:Str):Option (Int×Bool):=
 ((loop (ZOU x target) (0,(x.length:Int))).bind (ZRY x target))
noncomputable def ZJi (s_:(List Str)) (x:Str):Int→Option (Int ⊕ (Unit ⊕ Int))
 | v=>(if(decide (v<(s_.length:Int))) then((nth s_ v).bind fun v2=>(if(eqS x v2) then some (.inr (.inr v)) else some (.inl (IntKind.i64.wrap (v+1))))) else some (.inr (.inl ())))
noncomputable def ZJj:(Unit ⊕ Int)→Option (Int)
 | (.inl _)=>some ((-1))
 | (.inr v1)=>some (v1)
noncomputable def ZJk (s_:(List Str)) (x:Str):Option (Int):=
 ((loop (ZJi s_ x) 0).bind (ZJj))
noncomputable def ZEH (s_:(List Str)) (x:Str):Option (Bool):=
 ((ZJk s_ x).bind fun r_=>some ((decide (r_≥0))))
noncomputable def ZGe (x3:UInt64) (n2:Int):Option (Int):=
 ((nth (α:=UInt8) (str [0,1,2,2,3,3,3,3,4,4,4,4,4,4,4,4,5,5,5,5,5,5,5,5,5,5,5,5,5,5,5,5,6,6,6,6,6,6,6,6,6,6,6,6,6,6,6,6,6,6,6,6,6,6,6,6,6,6,6,6,6,6,6,6,7,7,7,7,7,7,7,7,7,7,7,7,7,7,7,7,7,7,7,7,7,7,7,7,7,7,7,7,7,7,7,7,7,7,7,7,7,7,7,7,7,7,7,7,7,7,7,7,7,7,7,7,7,7,7,7,7,7,7,7,7,7,7,7,8,8,8,8,8,8,8,8,8,8,8,8,8,8,8,8,8,8,8,8,8,8,8,8,8,8,8,8,8,8,8,8,8,8,8,8,8,8,8,8,8,8,8,8,8,8,8,8,8,8,8,8,8,8,8,8,8,8,8,8,8,8,8,8,8,8,8,8,8,8,8,8,8,8,8,8,8,8,8,8,8,8,8,8,8,8,8,8,8,8,8,8,8,8,8,8,8,8,8,8,8,8,8,8,8,8,8,8,8,8,8,8,8,8,8,8,8,8,8,8,8,8,8,8,8,8,8,8]) (((UInt8.ofInt ((x3).toNat:Int))).toNat:Int)).bind fun c=>some ((IntKind.i64.wrap (n2+((c).toNat:Int)))))
noncomputable def ZGf (x2:UInt64) (n1:Int):Option (Int):=
 (if(decide (((x2).toNat:Int)≥256)) then(ZGe (UInt64.ofInt ((((x2).toNat:Int)).fdiv (2 ^ 8))) (IntKind.i64.wrap (n1+8))) else(ZGe x2 n1))
noncomputable def ZGg (x1:UInt64) (n:Int):Option (Int):=
 (if(decide (((x1).toNat:Int)≥65536)) then(ZGf (UInt64.ofInt ((((x1).toNat:Int)).fdiv (2 ^ 16))) (IntKind.i64.wrap (n+16))) else(ZGf x1 n))
noncomputable def ZND (x:UInt64):Option (Int):=
 (if(decide (((x).toNat:Int)≥4294967296)) then(ZGg (UInt64.ofInt ((((x).toNat:Int)).fdiv (2 ^ 32))) 32) else(ZGg x 0))
noncomputable def ZFY (x:UInt64):Option (Int):=
 ((ZND x).bind fun r_=>some ((imax 1 (IntKind.i64.wrap (((IntKind.i64.wrap ((IntKind.i64.wrap (r_+7)) - 1))).tdiv 7)))))
noncomputable def ZFA (s_:(List ZAF)):Option ((List ZAF)):=
 ((app 144 ([]:(List ZAF)) s_).bind fun l=>some (l))
noncomputable def ZFB (s_:(List Str)):Option ((List Str)):=
 ((app 16 ([]:(List Str)) s_).bind fun l=>some (l))
noncomputable def ZFC (s_:(List Int)):Option ((List Int)):=
 ((app 8 ([]:(List Int)) s_).bind fun l=>some (l))
noncomputable def ZHp (s_:(List UInt8)):Option ((List UInt8)):=
 ((app 1 ([]:(List UInt8)) s_).bind fun l=>some (l))
noncomputable def ZHq (s_:(List ZAd)):Option ((List ZAd)):=
 ((app 40 ([]:(List ZAd)) s_).bind fun l=>some (l))
noncomputable def ZIL (y:ZAF):Option (Int):=
 some (y.v.1)
noncomputable def ZEI (x:ZAF) (n:Int) (x1:(PtrC (Clo 57 (Unit)))):Option (Int):=
 ((ZIL x).bind fun r_=>((cmpI r_ n).bind fun r_1=>some (r_1)))
noncomputable def ZFZ (x:(List ZAF)) (target:Int) (cmp:(Clo 78 ((PtrC (Clo 57 (Unit)))×Unit))):(Int×Int)→Option ((Int×Int) ⊕ Int)
 | (i,j)=>(if(decide (i<j)) then((nth x (IntKind.i64.wrap (((UInt64.ofInt (((((UInt64.ofInt (IntKind.i64.wrap (i+j)))).toNat:Int)).fdiv (2 ^ 1)))).toNat:Int))).bind fun v=>((ZEI v target cmp.cap.1).bind fun r_=>(if(decide (r_<0)) then some (.inl ((IntKind.i64.wrap ((IntKind.i64.wrap (((UInt64.ofInt (((((UInt64.ofInt (IntKind.i64.wrap (i+j)))).toNat:Int)).fdiv (2 ^ 1)))).toNat:Int))+1)),j)) else some (.inl (i,(IntKind.i64.wrap (((UInt64.ofInt (((((UInt64.ofInt (IntKind.i64.wrap (i+j)))).toNat:Int)).fdiv (2 ^ 1)))).toNat:Int))))))) else some (.inr i))
noncomputable def ZHr (x:(List ZAF)) (target:Int) (cmp:(Clo 78 ((PtrC (Clo 57 (Unit)))×Unit))):Int→Option (Int×Bool)
 | i1=>((if(decide (i1<(x.length:Int))) then((nth x i1).bind fun v1=>((ZEI v1 target cmp.cap.1).bind fun r_1=>some (r_1==0))) else some false).bind fun b=>some (i1,b))
noncomputable def ZDH (x:(List ZAF)) (target:Int) (cmp:(Clo 78 ((PtrC (Clo 57 (Unit)))×Unit))):Option (Int×Bool):=
 ((loop (ZFZ x target cmp) (0,(x.length:Int))).bind (ZHr x target cmp))
noncomputable def ZCj (l:(List ZAF)) (num:Int) (of:(Clo 57 (Unit))):Option (Int×Bool):=
 ((ZDH l num (Clo.mk ((PtrC.mk of:PtrC (Clo 57 (Unit))),()):Clo 78 ((PtrC (Clo 57 (Unit)))×Unit))).bind fun r_=>some (r_.1,r_.2))
noncomputable def ZGI (n:Int) (x:(PtrC ZAb)):Option (Bool):=
 ((if(decide (n<0)) then some true else some (decide (n > 1024))).bind fun b=>((if b then some true else((if x.v.v.1 then some (n==0) else some false).bind fun b2=>some b2)).bind fun b1=>some (b1)))
noncomputable def ZDl (s_:(List Int)) (f:(Clo 74 ((PtrC ZAb)×Unit))):Int→Option (Int ⊕ (Unit ⊕ Int))
 | v=>(if(decide (v<(s_.length:Int))) then((nth s_ v).bind fun v2=>((ZGI v2 f.cap.1).bind fun r_=>(if r_ then some (.inr (.inr v)) else some (.inl (IntKind.i64.wrap (v+1)))))) else some (.inr (.inl ())))
noncomputable def ZDm:(Unit ⊕ Int)→Option (Int)
 | (.inl _)=>some ((-1))
 | (.inr v1)=>some (v1)
noncomputable def ZBv (s_:(List Int)) (f:(Clo 74 ((PtrC ZAb)×Unit))):Option (Int):=
 ((loop (ZDl s_ f) 0).bind (ZDm))
noncomputable def ZBL (s_:(List Int)) (f:(Clo 74 ((PtrC ZAb)×Unit))):Option (Bool):=
 ((ZBv s_ f).bind fun r_=>some ((decide (r_≥0))))
noncomputable def ZBD (e_:Int):Option ((Err 111)):=
 some ((Err.mk (some (Rec.mk (e_,()):ZFX).v.1):Err 111))
noncomputable def ZIM (l:(List UInt8)) (x:UInt64):((List UInt8)×Int)→Option (((List UInt8)×Int) ⊕ (List UInt8))
 | (out_,v)=>(if(decide (v<(l.length:Int))) then((shrU x (IntKind.i64.wrap (7*v))).bind fun u=>((nth out_ v).bind fun v1=>some (.inl ((out_.set v.toNat (UInt8.ofInt (ZSw .u8 (((UInt8.ofInt ((u).toNat:Int))).toNat:Int) 128))),(IntKind.i64.wrap (v+1)))))) else some (.inr out_))
noncomputable def ZKn:(List UInt8)→Option ((List UInt8))
 | out_1=>((nth out_1 (IntKind.i64.wrap ((out_1.length:Int) - 1))).bind fun v2=>((nth out_1 (IntKind.i64.wrap ((out_1.length:Int) - 1))).bind fun v3=>some ((out_1.set (IntKind.i64.wrap ((out_1.length:Int) - 1)).toNat (UInt8.ofInt (ZJX .u8 ((v2).toNat:Int) 128))))))
noncomputable def ZHM (x:UInt64):Option ((List UInt8)):=
 ((ZFY x).bind fun r_=>((mkz 1 r_ (0:UInt8)).bind fun l=>((loop (ZIM l x) (l,0)).bind (ZKn))))
noncomputable def ZCu (b:(List UInt8)):Option ((List UInt8)):=
 ((ZHM (UInt64.ofInt (b.length:Int))).bind fun r_=>((app 1 r_ b).bind fun l=>some (l)))
noncomputable def ZCN (v:Int) (b3:(List UInt8)):Option (((List UInt8)×Int) ⊕ (List UInt8)):=
 some (.inl (b3,(IntKind.i64.wrap (v+1))))
noncomputable def ZGh (b1:(List UInt8)) (v:Int) (n:Int):Option (((List UInt8)×Int) ⊕ (List UInt8)):=
 ((ZHM (UInt64.ofInt n)).bind fun r_3=>((app 1 b1 r_3).bind fun l4=>(ZCN v l4)))
noncomputable def ZGi (fields:(List AnyV)):((List UInt8)×Int)→Option (((List UInt8)×Int) ⊕ (List UInt8))
 | (b1,v)=>(if(decide (v<(fields.length:Int))) then((nth fields v).bind fun v1=>((asT 3 (0:Int) v1).bind fun as_=>(if as_.2 then((ZHM (UInt64.ofInt as_.1)).bind fun r_=>((app 1 b1 r_).bind fun l=>(ZCN v l))) else((asT 9 (str []) v1).bind fun as_1=>(if as_1.2 then((app 1 ([]:(List UInt8)) as_1.1).bind fun l1=>((ZCu l1).bind fun r_1=>((app 1 b1 r_1).bind fun l2=>(ZCN v l2)))) else((asT 33 ([]:(List UInt8)) v1).bind fun as_2=>(if as_2.2 then((ZCu as_2.1).bind fun r_2=>((app 1 b1 r_2).bind fun l3=>(ZCN v l3))) else((asT 122 (str []) v1).bind fun as_3=>(if as_3.2 then none else((asT 4 false v1).bind fun as_4=>(if as_4.2 then(if as_4.1 then(ZGh b1 v 1) else(ZGh b1 v 0)) else(ZCN v b1)))))))))))) else some (.inr b1))
noncomputable def ZKo:(List UInt8)→Option ((List UInt8))
 | b2=>some (b2)
noncomputable def ZDn (b:(List UInt8)) (fields:(List AnyV)):Option ((List UInt8)):=
 ((loop (ZGi fields) (b,0)).bind (ZKo))
theorem ZPt (x:ZAF) (x1:(PtrC Int)) (r:Bool) (h:ZIK x x1=some r):MF Tryz.prog pz30 31 [enc x,enc x1] s0 fun v _=>ris v r:=by
 refine ZAe [(0,enc x),(1,enc x1)] func31 rfl (by simp only[Tryz.f31];rfl) fun ψ=> ?_
 unfold ZIK at h;refine ZAB<|ZAC<|ZA1 (r:=x) rfl (Enc.self x) Hp.nil fun m xs s hxs hs=>ZAG (v:=enc false) rfl<|ZAA<|ZAB<|ZAC<|ZAO ZBO rfl<|ZAK ag3 Sz rfl hxs hs fun y hy=> ?_
 cases hy;refine ZTu ag3 rfl (Enc.self x1) fun y1 hy1=> ?_
 cases hy1;refine ZAL (v:=enc (x.v.1==x1.v)) rfl rfl rfl<|ZAG rfl<|ZAA<|ZAN ?_
 rw[←oi h];exact⟨rfl,KE1 (a:=((x.v.1==x1.v):Bool)) rfl rfl (rfl:is _ ((x.v.1==x1.v):Bool)) (rfl:is _ ((x.v.1==x1.v):Bool))⟩
theorem ZPu:ZAr Tryz.prog 31 (fun _=>Fn (fun a:ZAF×(PtrC Int)×Unit=>ZIK a.1 a.2.1)):=fnC ZDi ⟨_,func31,rfl⟩<|fun a r h=>ZPt a.1 a.2.1 r h
noncomputable def py1:Prims:=pz30.add 31 (Fn (fun a:ZAF×(PtrC Int)×Unit=>ZIK a.1 a.2.1))
theorem ZTv:ZAV Tryz.prog py1:=ZAS ZDi ZPu
theorem ZIq (s_:(List ZAF)) (f:(Clo 31 ((PtrC Int)×Unit))) (r:Int) (h:ZBu s_ f=some r):MF Tryz.prog py1 30 [enc s_,enc f] s0 fun v _=>ris v r:=by
 refine ZAe [(0,enc s_),(1,enc f)] func30 rfl (by simp only[Tryz.f30];rfl) fun ψ=> ?_
 unfold ZBu at h;refine ZAB<|ZAC<|ZAG (v:=enc (0:Int)) rfl<|ZAA<|ZAB<|ZAB<|ZAC<|ZAD rfl<|ZAp underlying22 rfl rfl (Enc.self s_)<|ZAD (v:=enc (0:Int)) rfl<|ZAA<|ZAQ ?_
 obtain⟨o,hl,h⟩:=bs h;refine ZAm (fun(p:Int) φ s=>match p with | v=>Fx φ [(0,(enc (s_:(List ZAF)))),(1,(enc (f:(Clo 31 ((PtrC Int)×Unit))))),(7,(enc ((s_.length:Int):Int))),(8,(enc v))]) (fun(o:(Unit ⊕ Int)) e φ s=>match o with | (.inl _)=>e= .exit 0∧Fx φ [] | (.inr v1)=>e= .ret∧Fx φ [(4,(enc v1))]) ?_ hl (FxR rfl) ?_
 ·rintro v o h φ s hF;rw[←hF.eq];rw[ZDj] at h;refine ZAB<|ZAC<|ZAL (v:=enc (decide (v<(s_.length:Int)))) rfl rfl rfl<|ZAA<|ZAB ?_
  split at h
  ·rename_i c';refine ZAI rfl c'<|ZAM<|ZAB<|ZAQ<|ZAB<|ZAC<|ZAD rfl<|ZAG rfl<|ZAA<|ZAB<|ZAC<|ZAD rfl<|ZAD rfl<|ZAD rfl ?_
   obtain⟨v2,hx,h⟩:=bs h;refine ZAv underlying22 sh38 rfl rfl (Enc.self s_) hx fun p hp=>ZBb ag38 sz38 rfl hp fun y hy=> ?_
   obtain⟨r_,hx1,h⟩:=bs h;refine ZNB (f:=fun a:ZAF×(PtrC Int)×Unit=>ZIK a.1 a.2.1) (a:=(v2,f.cap)) rfl func31 rfl rfl (Enc.self f) rfl (fun _ h=>(.cons (a:=v2) hy h)) hx1<|ZAA ?_
   split at h
   ·rename_i c';refine ZAI rfl c'<|ZAB<|ZAC<|ZAD rfl<|ZAG rfl<|ZAA<|ZAN ?_
    show if _ then _ else _
    rw[if_neg (by simp)]
    rw[←oi h];exact⟨_,rfl,rfl,FxR rfl⟩
   rename_i c';refine ZAJ rfl c'<|ZAM<|ZAC<|ZAL (v:=enc (IntKind.i64.wrap (v+1))) rfl rfl rfl<|ZAD rfl<|ZAA ?_
   rw[←oi h];exact⟨_,rfl,FxR rfl⟩
  rename_i c';refine ZAJ rfl c'<|ZAl ?_
  rw[←oi h];exact⟨_,rfl,rfl,trivial⟩
 intro e φ s hE;rcases o with _u | v1
 ·obtain⟨rfl,hF⟩:=hE;rw[←hF.eq];rw[ZDk] at h;show if _ then _ else _
  rw[if_pos rfl];refine ZAB<|ZAC<|ZAG (v:=enc ((-1):Int)) rfl<|ZAA<|ZAN ?_
  rw[←oi h];exact⟨rfl,KE1 (a:=((-1):Int)) rfl rfl (rfl:is _ ((-1):Int)) (rfl:is _ ((-1):Int))⟩
 obtain⟨rfl,hF⟩:=hE;rw[←hF.eq];rw[ZDk] at h;show if _ then _ else _
 rw[if_neg (by simp)]
 rw[←oi h];exact⟨rfl,KE1 (a:=v1) rfl rfl (rfl:is _ v1) (rfl:is _ v1)⟩
theorem ZIr:ZAr Tryz.prog 30 (fun _=>Fn (fun a:(List ZAF)×(Clo 31 ((PtrC Int)×Unit))×Unit=>ZBu a.1 a.2.1)):=fnC ZTv ⟨_,func30,rfl⟩<|fun a r h=>ZIq a.1 a.2.1 r h
noncomputable def py2:Prims:=py1.add 30 (Fn (fun a:(List ZAF)×(Clo 31 ((PtrC Int)×Unit))×Unit=>ZBu a.1 a.2.1))
theorem ZTw:ZAV Tryz.prog py2:=ZAS ZTv ZIr
theorem ZLc (f:FsR) (num:Int) (r:Int) (h:ZA7 f num=some r):MF Tryz.prog py2 13 [enc f,enc num] s0 fun v _=>ris v r:=by
 refine ZAe [(0,enc f),(1,enc num)] func13 rfl (by simp only[Tryz.f13];rfl) fun ψ=> ?_
 unfold ZA7 at h;refine ZAB<|ZAC<|ZA1 (r:=f) rfl (Enc.self f) Hp.nil fun m xs s hxs hs=>ZTt (a:=num) rfl (rfl:is _ num) hs fun m1 s hs=>ZAG (v:=enc (0:Int)) rfl<|ZAA<|ZAB<|ZAC<|ZAO ZAk rfl ?_
 replace hs:=Hp.front [(.cells m1 [(enc num)])] (b:=[]) hs;refine ZAK ag22 Sz rfl hxs hs fun y hy=> ?_
 replace hs:=Hp.front [(.cells m xs)] (b:=[]) hs;refine ZRU (q:=3) (a:=num) rfl rfl hs fun z s hz hs=>ZRW (c:=((PtrC.mk num:PtrC Int),())) rfl ⟨_,_,rfl,hz,rfl⟩ fun z1 hz1=> ?_
 obtain⟨r_,hx,h⟩:=bs h;refine ZAj (f:=fun a:(List ZAF)×(Clo 31 ((PtrC Int)×Unit))×Unit=>ZBu a.1 a.2.1) (a:=(f.v.1,(Clo.mk ((PtrC.mk num:PtrC Int),()):Clo 31 ((PtrC Int)×Unit)),())) rfl func30 rfl rfl (.cons (a:=f.v.1) hy (.cons (a:=((Clo.mk ((PtrC.mk num:PtrC Int),()):Clo 31 ((PtrC Int)×Unit)):(Clo 31 ((PtrC Int)×Unit)))) hz1 .nil)) hx<|ZAG rfl<|ZAA<|ZAN ?_
 rw[←oi h];exact⟨rfl,KE1 (a:=r_) rfl rfl (rfl:is _ r_) (rfl:is _ r_)⟩
theorem ZLd:ZAr Tryz.prog 13 (fun _=>Fn (fun a:FsR×Int×Unit=>ZA7 a.1 a.2.1)):=fnC ZTw ⟨_,func13,rfl⟩<|fun a r h=>ZLc a.1 a.2.1 r h
noncomputable def py3:Prims:=py2.add 13 (Fn (fun a:FsR×Int×Unit=>ZA7 a.1 a.2.1))
theorem ZTx:ZAV Tryz.prog py3:=ZAS ZTw ZLd
theorem ZRZ (x:Int) (r:Bool) (h:ZHn x=some r):MF Tryz.prog py3 103 [enc x] s0 fun v _=>ris v r:=by
 refine ZAe [(0,enc x)] func103 rfl (by simp only[Tryz.f103];rfl) fun ψ=> ?_
 unfold ZHn at h;refine ZAB<|ZAC<|ZAG (v:=enc false) rfl<|ZAA<|ZAB<|ZAC<|ZAD rfl<|ZAD rfl<|ZAL (v:=enc (x !=x)) rfl rfl rfl<|ZAG rfl<|ZAA<|ZAN ?_
 rw[←oi h];exact⟨rfl,KE1 (a:=((x !=x):Bool)) rfl rfl (rfl:is _ ((x !=x):Bool)) (rfl:is _ ((x !=x):Bool))⟩
theorem ZRa:ZAr Tryz.prog 103 (fun _=>Fn (fun a:Int×Unit=>ZHn a.1)):=fnC ZTx ⟨_,func103,rfl⟩<|fun a r h=>ZRZ a.1 r h
noncomputable def py4:Prims:=py3.add 103 (Fn (fun a:Int×Unit=>ZHn a.1))
theorem ZTy:ZAV Tryz.prog py4:=ZAS ZTx ZRa
theorem ZUq (x:Int) (y:Int) (r:Int) (h:cmpI x y=some r):MF Tryz.prog py4 79 [enc x,enc y] s0 fun v _=>ris v r:=by
 refine ZAe [(0,enc x),(1,enc y)] func79 rfl (by simp only[Tryz.f79];rfl) fun ψ=> ?_
 unfold cmpI at h;refine ZAB<|ZAC<|ZAG (v:=enc (0:Int)) rfl<|ZAA<|ZAB<|ZAC<|ZAD rfl ?_
 obtain⟨r_,hx,h⟩:=bs h;refine ZAj (f:=fun a:Int×Unit=>ZHn a.1) (a:=(x,())) rfl func103 rfl rfl (.cons (a:=x) (Enc.self _) .nil) hx<|ZAG rfl<|ZAA<|ZAB<|ZAC<|ZAD rfl ?_
 obtain⟨r_1,hx1,h⟩:=bs h;refine ZAj (f:=fun a:Int×Unit=>ZHn a.1) (a:=(y,())) rfl func103 rfl rfl (.cons (a:=y) (Enc.self _) .nil) hx1<|ZAG rfl<|ZAA<|ZAB<|ZAB<|ZAC<|ZAD rfl<|ZAA ?_
 split at h
 ·rename_i c';refine ZAI rfl c'<|ZAB<|ZAB<|ZAC<|ZAD rfl<|ZAA ?_
  split at h
  ·rename_i c';refine ZAI rfl c'<|ZAB<|ZAC<|ZAG (v:=enc (0:Int)) rfl<|ZAA<|ZAN ?_
   rw[←oi h];exact⟨rfl,KE1 (a:=(0:Int)) rfl rfl (rfl:is _ (0:Int)) (rfl:is _ (0:Int))⟩
  rename_i c';refine ZAJ rfl c'<|ZAM<|ZAB<|ZAC<|ZAG (v:=enc ((-1):Int)) rfl<|ZAA<|ZAN ?_
  rw[←oi h];exact⟨rfl,KE1 (a:=((-1):Int)) rfl rfl (rfl:is _ ((-1):Int)) (rfl:is _ ((-1):Int))⟩
 rename_i c';refine ZAJ rfl c'<|ZAM<|ZAB<|ZAB<|ZAC<|ZAD rfl<|ZAA ?_
 split at h
 ·rename_i c';refine ZAI rfl c'<|ZAB<|ZAC<|ZAG (v:=enc (1:Int)) rfl<|ZAA<|ZAN ?_
  rw[←oi h];exact⟨rfl,KE1 (a:=(1:Int)) rfl rfl (rfl:is _ (1:Int)) (rfl:is _ (1:Int))⟩
 rename_i c';refine ZAJ rfl c'<|ZAM<|ZAB<|ZAB<|ZAC<|ZAD rfl<|ZAD rfl<|ZAL (v:=enc (decide (x<y))) rfl rfl rfl<|ZAA ?_
 split at h
 ·rename_i c';refine ZAI rfl c'<|ZAB<|ZAC<|ZAG (v:=enc ((-1):Int)) rfl<|ZAA<|ZAN ?_
  rw[←oi h];exact⟨rfl,KE1 (a:=((-1):Int)) rfl rfl (rfl:is _ ((-1):Int)) (rfl:is _ ((-1):Int))⟩
 rename_i c';refine ZAJ rfl c'<|ZAM<|ZAB<|ZAB<|ZAC<|ZAD rfl<|ZAD rfl<|ZAL (v:=enc (decide (x > y))) rfl rfl rfl<|ZAA ?_
 split at h
 ·rename_i c';refine ZAI rfl c'<|ZAB<|ZAC<|ZAG (v:=enc (1:Int)) rfl<|ZAA<|ZAN ?_
  rw[←oi h];exact⟨rfl,KE1 (a:=(1:Int)) rfl rfl (rfl:is _ (1:Int)) (rfl:is _ (1:Int))⟩
 rename_i c';refine ZAJ rfl c'<|ZAM<|ZAB<|ZAC<|ZAG (v:=enc (0:Int)) rfl<|ZAA<|ZAN ?_
 rw[←oi h];exact⟨rfl,KE1 (a:=(0:Int)) rfl rfl (rfl:is _ (0:Int)) (rfl:is _ (0:Int))⟩
theorem ZUr:ZAr Tryz.prog 79 (fun _=>Fn (fun a:Int×Int×Unit=>cmpI a.1 a.2.1)):=fnC ZTy ⟨_,func79,rfl⟩<|fun a r h=>ZUq a.1 a.2.1 r h
noncomputable def py5:Prims:=py4.add 79 (Fn (fun a:Int×Int×Unit=>cmpI a.1 a.2.1))
theorem ZTz:ZAV Tryz.prog py5:=ZAS ZTy ZUr
theorem ZRb (x:Str) (r:Bool) (h:ZHo x=some r):MF Tryz.prog py5 95 [enc x] s0 fun v _=>ris v r:=by
 refine ZAe [(0,enc x)] func95 rfl (by simp only[Tryz.f95];rfl) fun ψ=> ?_
 unfold ZHo at h;refine ZAB<|ZAC<|ZAG (v:=enc false) rfl<|ZAA<|ZAB<|ZAC<|ZAD rfl<|ZAD rfl<|ZAL (v:=enc (!eqS x x)) rfl rfl rfl<|ZAG rfl<|ZAA<|ZAN ?_
 rw[←oi h];exact⟨rfl,KE1 (a:=((!eqS x x):Bool)) rfl rfl (rfl:is _ ((!eqS x x):Bool)) (rfl:is _ ((!eqS x x):Bool))⟩
theorem ZRc:ZAr Tryz.prog 95 (fun _=>Fn (fun a:Str×Unit=>ZHo a.1)):=fnC ZTz ⟨_,func95,rfl⟩<|fun a r h=>ZRb a.1 r h
noncomputable def py6:Prims:=py5.add 95 (Fn (fun a:Str×Unit=>ZHo a.1))
theorem ZT0:ZAV Tryz.prog py6:=ZAS ZTz ZRc
theorem ZPv (x:Str) (r:Bool) (h:ZCg x=some r):MF Tryz.prog py6 71 [enc x] s0 fun v _=>ris v r:=by
 refine ZAe [(0,enc x)] func71 rfl (by simp only[Tryz.f71];rfl) fun ψ=> ?_
 unfold ZCg at h;refine ZAB<|ZAC<|ZAG (v:=enc false) rfl<|ZAA<|ZAB<|ZAC<|ZAD rfl<|ZAD rfl<|ZAL (v:=enc (!eqS x x)) rfl rfl rfl<|ZAG rfl<|ZAA<|ZAN ?_
 rw[←oi h];exact⟨rfl,KE1 (a:=((!eqS x x):Bool)) rfl rfl (rfl:is _ ((!eqS x x):Bool)) (rfl:is _ ((!eqS x x):Bool))⟩
theorem ZPw:ZAr Tryz.prog 71 (fun _=>Fn (fun a:Str×Unit=>ZCg a.1)):=fnC ZT0 ⟨_,func71,rfl⟩<|fun a r h=>ZPv a.1 r h
noncomputable def py7:Prims:=py6.add 71 (Fn (fun a:Str×Unit=>ZCg a.1))
theorem ZT1:ZAV Tryz.prog py7:=ZAS ZT0 ZPw
theorem ZS8 (x:Str) (y:Str) (r:Bool) (h:ZNC x y=some r):MF Tryz.prog py7 70 [enc x,enc y] s0 fun v _=>ris v r:=by
 refine ZAe [(0,enc x),(1,enc y)] func70 rfl (by simp only[Tryz.f70];rfl) fun ψ=> ?_
 unfold ZNC at h;refine ZAB<|ZAC<|ZAG (v:=enc false) rfl<|ZAA<|ZAB<|ZAC<|ZAD rfl ?_
 obtain⟨r_,hx,h⟩:=bs h;refine ZAj (f:=fun a:Str×Unit=>ZHo a.1) (a:=(x,())) rfl func95 rfl rfl (.cons (a:=x) (Enc.self _) .nil) hx<|ZAD rfl ?_
 obtain⟨b,hb_b,h⟩:=bs h;refine ZAT 4 (fun φ s=>Fx φ [(0,(enc x)),(1,(enc y)),(11,(enc b))]) ?_ ?_
 ·split at hb_b
  ·rename_i cg;refine ZAH rfl rfl cg<|ZAD rfl<|ZAH rfl rfl cg ?_
   obtain⟨r_1,hx1,hb_b⟩:=bs hb_b;refine ZAj (f:=fun a:Str×Unit=>ZHo a.1) (a:=(y,())) rfl func95 rfl rfl (.cons (a:=y) (Enc.self _) .nil) hx1<|ZAH rfl rfl cg<|ZBS (v:=enc (!r_1)) rfl rfl<|ZAY rfl cg rfl<|ZAA ?_
   rw[←oi hb_b];exact(FxR rfl)
  rename_i cg1;refine ZAE rfl rfl cg1<|ZAE rfl rfl cg1<|ZAE rfl rfl cg1<|ZAX (v:=enc false) rfl cg1 rfl<|ZAA ?_
  rw[←oi hb_b];exact(FxR rfl)
 rintro φ s hF;rw[←hF.eq];refine ZAD rfl ?_
 obtain⟨b1,hb_b1,h⟩:=bs h;refine ZAT 4 (fun φ s=>Fx φ [(16,(enc b1))]) ?_ ?_
 ·split at hb_b1
  ·rename_i cg2;refine ZAE rfl rfl (by simpa using cg2)<|ZAE rfl rfl (by simpa using cg2)<|ZAE rfl rfl (by simpa using cg2)<|ZAY (v:=enc true) rfl cg2 rfl<|ZAA ?_
   rw[←oi hb_b1];exact(FxR rfl)
  rename_i cg3;refine ZAH rfl rfl (by simpa using cg3)<|ZAD rfl<|ZAH rfl rfl (by simpa using cg3)<|ZAD rfl<|ZAH rfl rfl (by simpa using cg3)<|ZAL (v:=enc ((ltS x y):Bool)) rfl rfl rfl<|ZAX rfl cg3 rfl<|ZAA ?_
  rw[←oi hb_b1];exact(FxR rfl)
 rintro φ s hF;rw[←hF.eq];refine ZAG rfl<|ZAA<|ZAN ?_
 rw[←oi h];exact⟨rfl,KE1 (a:=b1) rfl rfl (rfl:is _ b1) (rfl:is _ b1)⟩
theorem ZS9:ZAr Tryz.prog 70 (fun _=>Fn (fun a:Str×Str×Unit=>ZNC a.1 a.2.1)):=fnC ZT1 ⟨_,func70,rfl⟩<|fun a r h=>ZS8 a.1 a.2.1 r h
noncomputable def py8:Prims:=py7.add 70 (Fn (fun a:Str×Str×Unit=>ZNC a.1 a.2.1))
theorem ZT2:ZAV Tryz.prog py8:=ZAS ZT1 ZS9
theorem ZUs (x:(List Str)) (target:Str) (r:Int×Bool) (h:binS x target=some r):MF Tryz.prog py8 45 [enc x,enc target] s0 fun v _=>ris v r:=by
 refine ZAe [(0,enc x),(1,enc target)] func45 rfl (by simp only[Tryz.f45];rfl) fun ψ=> ?_
 unfold binS at h;refine ZAB<|ZAC<|ZAG (v:=enc (0:Int)) rfl<|ZAG (v:=enc false) rfl<|ZAA<|ZAB<|ZAC<|ZAD rfl<|ZAp underlying34 rfl rfl (Enc.self x)<|ZAG rfl<|ZAA<|ZAB<|ZAC<|ZAD rfl<|ZAG (v:=enc (0:Int)) rfl ?_
 refine ZAG rfl<|ZAA<|ZAB<|ZAQ ?_
 obtain⟨i1,hl,h⟩:=bs h;refine ZAm (fun(p:(Int×Int)) φ s=>match p with | (i,j)=>Fx φ [(0,(enc (x:(List Str)))),(1,(enc target)),(6,(enc ((x.length:Int):Int))),(7,(enc i)),(8,(enc j))]) (fun(o:Int) e φ s=>match o with | i1=>e= .exit 0∧Fx φ [(0,(enc (x:(List Str)))),(1,(enc target)),(6,(enc ((x.length:Int):Int))),(7,(enc i1))]) ?_ hl (FxR rfl) ?_
 ·rintro⟨i,j⟩ o h φ s hF;rw[←hF.eq];rw[ZOU] at h;refine ZAB<|ZAB<|ZAC<|ZAD rfl<|ZAD rfl<|ZAL (v:=enc (decide (i<j))) rfl rfl rfl<|ZAA ?_
  split at h
  ·rename_i c';refine ZAI rfl c'<|ZAM<|ZAQ<|ZAB<|ZAC<|ZAD rfl<|ZAD rfl<|ZAL (v:=enc (IntKind.i64.wrap (i+j))) rfl rfl rfl<|ZHf underlying3 underlying118 rfl<|ZE5 rfl rfl rfl (ZIJ 1 (by have:=(UInt64.ofInt (IntKind.i64.wrap (i+j))).toNat_lt;omega))<|ZN5 underlying118 underlying3 rfl<|ZAG rfl<|ZAA<|ZAB<|ZAC ?_
   refine ZAD rfl<|ZAD rfl ?_
   obtain⟨v,hx,h⟩:=bs h;refine ZAv underlying34 sh9 rfl rfl (Enc.self x) hx fun p hp=>ZCq rfl ag9 rfl hp fun y hy=> ?_
   cases hy;refine ZAD rfl ?_
   obtain⟨r_,hx1,h⟩:=bs h;refine ZAj (f:=fun a:Str×Str×Unit=>ZNC a.1 a.2.1) (a:=(v,target,())) rfl func70 rfl rfl (.cons (a:=v) (Enc.self _) (.cons (a:=target) (Enc.self _) .nil)) hx1<|ZAA ?_
   split at h
   ·rename_i c';refine ZAI rfl c'<|ZAC<|ZAD rfl<|ZAL (v:=enc (IntKind.i64.wrap ((IntKind.i64.wrap (((UInt64.ofInt (((((UInt64.ofInt (IntKind.i64.wrap (i+j)))).toNat:Int)).fdiv (2 ^ 1)))).toNat:Int))+1))) rfl rfl rfl<|ZAG rfl<|ZAA ?_
    rw[←oi h];exact⟨_,rfl,FxR rfl⟩
   rename_i c';refine ZAJ rfl c'<|ZAC<|ZAD rfl<|ZAG rfl<|ZAA ?_
   rw[←oi h];exact⟨_,rfl,FxR rfl⟩
  rename_i c';refine ZAJ rfl c'<|ZAl ?_
  rw[←oi h];exact⟨_,rfl,rfl,FxR rfl⟩
 intro e φ s hE;obtain⟨rfl,hF⟩:=hE;rw[←hF.eq];rw[ZRY] at h;show if _ then _ else _
 rw[if_pos rfl];refine ZAB<|ZAC<|ZAD rfl<|ZAD rfl<|ZAD rfl<|ZAL (v:=enc (decide (i1<(x.length:Int)))) rfl rfl rfl<|ZAD rfl ?_
 obtain⟨b,hb_b,h⟩:=bs h;refine ZAT 18 (fun φ s=>Fx φ [(31,(enc i1)),(53,(enc b))]) ?_ ?_
 ·split at hb_b
  ·rename_i cg;refine ZAH rfl rfl cg<|ZAD rfl<|ZAH rfl rfl cg<|ZAD rfl<|ZAH rfl rfl cg ?_
   obtain⟨v1,hx2,hb_b⟩:=bs hb_b;refine ZAv underlying34 sh9 rfl rfl (Enc.self x) hx2 fun p1 hp1=>ZAH rfl rfl cg<|ZCq rfl ag9 rfl hp1 fun y1 hy1=> ?_
   cases hy1;refine ZAH rfl rfl cg<|ZAD rfl<|ZAH rfl rfl cg<|ZAL (v:=enc ((eqS v1 target):Bool)) rfl rfl rfl<|ZAH rfl rfl cg<|ZAD rfl ?_
   obtain⟨b1,hb_b1,hb_b⟩:=bs hb_b;refine ZAT 10 (fun φ s=>Fx φ [(31,(enc i1)),(35,(enc (decide (i1<(x.length:Int))))),(52,(enc b1))]) ?_ ?_
   ·split at hb_b1
    ·rename_i cg1;refine ZAE rfl rfl (by simpa using cg1)<|ZAE rfl rfl (by simpa using cg1)<|ZAE rfl rfl (by simpa using cg1)<|ZAE rfl rfl (by simpa using cg1)<|ZAE rfl rfl (by simpa using cg1)<|ZAE rfl rfl (by simpa using cg1)<|ZAR rfl rfl<|ZAR rfl rfl<|ZAE rfl rfl (by simpa using cg1)<|ZAH rfl rfl cg<|ZAY (v:=enc true) rfl cg1 rfl<|ZAA ?_
     rw[←oi hb_b1];exact(FxR rfl)
    rename_i cg2;refine ZAH rfl rfl (by simpa using cg2)<|ZAD rfl<|ZAH rfl rfl (by simpa using cg2)<|ZAD rfl<|ZAH rfl rfl (by simpa using cg2) ?_
    obtain⟨v2,hx3,hb_b1⟩:=bs hb_b1;refine ZAv underlying34 sh9 rfl rfl (Enc.self x) hx3 fun p2 hp2=>ZAH rfl rfl (by simpa using cg2)<|ZCq rfl ag9 rfl hp2 fun y2 hy2=> ?_
    cases hy2;refine ZAH rfl rfl (by simpa using cg2) ?_
    obtain⟨r_1,hx4,hb_b1⟩:=bs hb_b1;refine ZAj (f:=fun a:Str×Unit=>ZCg a.1) (a:=(v2,())) rfl func71 rfl rfl (.cons (a:=v2) (Enc.self _) .nil) hx4<|ZAH rfl rfl (by simpa using cg2)<|ZAD rfl ?_
    obtain⟨b2,hb_b2,hb_b1⟩:=bs hb_b1;refine ZAT 3 (fun φ s=>Fx φ [(31,(enc i1)),(35,(enc (decide (i1<(x.length:Int))))),(42,(enc ((eqS v1 target):Bool))),(51,(enc b2))]) ?_ ?_
    ·split at hb_b2
     ·rename_i cg3;refine ZAH rfl rfl cg3<|ZAD rfl<|ZAH rfl rfl cg3 ?_
      obtain⟨r_2,hx5,hb_b2⟩:=bs hb_b2;refine ZAj (f:=fun a:Str×Unit=>ZCg a.1) (a:=(target,())) rfl func71 rfl rfl (.cons (a:=target) (Enc.self _) .nil) hx5<|ZAH rfl rfl (by simpa using cg2)<|ZAY rfl cg3 rfl<|ZAA ?_
      rw[←oi hb_b2];exact(FxR rfl)
     rename_i cg4;refine ZAE rfl rfl cg4<|ZAE rfl rfl cg4<|ZAH rfl rfl (by simpa using cg2)<|ZAX (v:=enc false) rfl cg4 rfl<|ZAA ?_
     rw[←oi hb_b2];exact(FxR rfl)
    rintro φ s hF;rw[←hF.eq];refine ZAH rfl rfl cg<|ZAX rfl cg2 rfl<|ZAA ?_
    rw[←oi hb_b1];exact(FxR rfl)
   rintro φ s hF;rw[←hF.eq];refine ZAY rfl cg rfl<|ZAA ?_
   rw[←oi hb_b];exact(FxR rfl)
  rename_i cg5;refine ZAE rfl rfl cg5<|ZAE rfl rfl cg5<|ZAE rfl rfl cg5<|ZAE rfl rfl cg5<|ZAE rfl rfl cg5<|ZAE rfl rfl cg5<|ZAE rfl rfl cg5<|ZAR rfl rfl<|ZAR rfl rfl<|ZAR rfl rfl<|ZAR rfl rfl<|ZAR rfl rfl<|ZAR rfl rfl<|ZAR rfl rfl<|ZAR rfl rfl ?_
  refine ZAR rfl rfl<|ZAE rfl rfl cg5<|ZAX (v:=enc false) rfl cg5 rfl<|ZAA ?_
  rw[←oi hb_b];exact(FxR rfl)
 rintro φ s hF;rw[←hF.eq];refine ZAG rfl<|ZAG rfl<|ZAA<|ZAN ?_
 rw[←oi h];exact⟨rfl,KE2 (a1:=i1) (a2:=b) rfl rfl rfl (rfl:is _ i1) (rfl:is _ b) ⟨_,_,rfl,(rfl:is _ i1),(rfl:is _ b)⟩⟩
theorem ZUt:ZAr Tryz.prog 45 (fun _=>Fn (fun a:(List Str)×Str×Unit=>binS a.1 a.2.1)):=fnC ZT2 ⟨_,func45,rfl⟩<|fun a r h=>ZUs a.1 a.2.1 r h
noncomputable def py9:Prims:=py8.add 45 (Fn (fun a:(List Str)×Str×Unit=>binS a.1 a.2.1))
theorem ZT3:ZAV Tryz.prog py9:=ZAS ZT2 ZUt
theorem ZRd (s_:(List Str)) (x:Str) (r:Int) (h:ZJk s_ x=some r):MF Tryz.prog py9 88 [enc s_,enc x] s0 fun v _=>ris v r:=by
 refine ZAe [(0,enc s_),(1,enc x)] func88 rfl (by simp only[Tryz.f88];rfl) fun ψ=> ?_
 unfold ZJk at h;refine ZAB<|ZAC<|ZAG (v:=enc (0:Int)) rfl<|ZAA<|ZAB<|ZAB<|ZAC<|ZAD rfl<|ZAp underlying34 rfl rfl (Enc.self s_)<|ZAD (v:=enc (0:Int)) rfl<|ZAA<|ZAQ ?_
 obtain⟨o,hl,h⟩:=bs h;refine ZAm (fun(p:Int) φ s=>match p with | v=>Fx φ [(0,(enc (s_:(List Str)))),(1,(enc x)),(7,(enc ((s_.length:Int):Int))),(8,(enc v))]) (fun(o:(Unit ⊕ Int)) e φ s=>match o with | (.inl _)=>e= .exit 0∧Fx φ [] | (.inr v1)=>e= .ret∧Fx φ [(4,(enc v1))]) ?_ hl (FxR rfl) ?_
 ·rintro v o h φ s hF;rw[←hF.eq];rw[ZJi] at h;refine ZAB<|ZAC<|ZAL (v:=enc (decide (v<(s_.length:Int)))) rfl rfl rfl<|ZAA<|ZAB ?_
  split at h
  ·rename_i c';refine ZAI rfl c'<|ZAM<|ZAB<|ZAQ<|ZAB<|ZAC<|ZAD rfl<|ZAG rfl<|ZAA<|ZAB<|ZAC<|ZAD rfl<|ZAD rfl<|ZAD rfl ?_
   obtain⟨v2,hx,h⟩:=bs h;refine ZAv underlying34 sh9 rfl rfl (Enc.self s_) hx fun p hp=>ZCq rfl ag9 rfl hp fun y hy=> ?_
   cases hy;refine ZAL (v:=enc ((eqS x v2):Bool)) rfl rfl rfl<|ZAA ?_
   split at h
   ·rename_i c';refine ZAI rfl c'<|ZAB<|ZAC<|ZAD rfl<|ZAG rfl<|ZAA<|ZAN ?_
    show if _ then _ else _
    rw[if_neg (by simp)]
    rw[←oi h];exact⟨_,rfl,rfl,FxR rfl⟩
   rename_i c';refine ZAJ rfl c'<|ZAM<|ZAC<|ZAL (v:=enc (IntKind.i64.wrap (v+1))) rfl rfl rfl<|ZAD rfl<|ZAA ?_
   rw[←oi h];exact⟨_,rfl,FxR rfl⟩
  rename_i c';refine ZAJ rfl c'<|ZAl ?_
  rw[←oi h];exact⟨_,rfl,rfl,trivial⟩
 intro e φ s hE;rcases o with _u | v1
 ·obtain⟨rfl,hF⟩:=hE;rw[←hF.eq];rw[ZJj] at h;show if _ then _ else _
  rw[if_pos rfl];refine ZAB<|ZAC<|ZAG (v:=enc ((-1):Int)) rfl<|ZAA<|ZAN ?_
  rw[←oi h];exact⟨rfl,KE1 (a:=((-1):Int)) rfl rfl (rfl:is _ ((-1):Int)) (rfl:is _ ((-1):Int))⟩
 obtain⟨rfl,hF⟩:=hE;rw[←hF.eq];rw[ZJj] at h;show if _ then _ else _
 rw[if_neg (by simp)]
 rw[←oi h];exact⟨rfl,KE1 (a:=v1) rfl rfl (rfl:is _ v1) (rfl:is _ v1)⟩
theorem ZRe:ZAr Tryz.prog 88 (fun _=>Fn (fun a:(List Str)×Str×Unit=>ZJk a.1 a.2.1)):=fnC ZT3 ⟨_,func88,rfl⟩<|fun a r h=>ZRd a.1 a.2.1 r h
noncomputable def py10:Prims:=py9.add 88 (Fn (fun a:(List Str)×Str×Unit=>ZJk a.1 a.2.1))
theorem ZRf:ZAV Tryz.prog py10:=ZAS ZT3 ZRe
theorem ZNE (s_:(List Str)) (x:Str) (r:Bool) (h:ZEH s_ x=some r):MF Tryz.prog py10 66 [enc s_,enc x] s0 fun v _=>ris v r:=by
 refine ZAe [(0,enc s_),(1,enc x)] func66 rfl (by simp only[Tryz.f66];rfl) fun ψ=> ?_
 unfold ZEH at h;refine ZAB<|ZAC<|ZAG (v:=enc false) rfl<|ZAA<|ZAB<|ZAC<|ZAD rfl<|ZAD rfl ?_
 obtain⟨r_,hx,h⟩:=bs h;refine ZAj (f:=fun a:(List Str)×Str×Unit=>ZJk a.1 a.2.1) (a:=(s_,x,())) rfl func88 rfl rfl (.cons (a:=s_) (Enc.self s_) (.cons (a:=x) (Enc.self _) .nil)) hx<|ZAL (v:=enc (decide (r_≥0))) rfl rfl rfl<|ZAG rfl<|ZAA<|ZAN ?_
 rw[←oi h];exact⟨rfl,KE1 (a:=((decide (r_≥0)):Bool)) rfl rfl (rfl:is _ ((decide (r_≥0)):Bool)) (rfl:is _ ((decide (r_≥0)):Bool))⟩
theorem ZNF:ZAr Tryz.prog 66 (fun _=>Fn (fun a:(List Str)×Str×Unit=>ZEH a.1 a.2.1)):=fnC ZRf ⟨_,func66,rfl⟩<|fun a r h=>ZNE a.1 a.2.1 r h
noncomputable def py11:Prims:=py10.add 66 (Fn (fun a:(List Str)×Str×Unit=>ZEH a.1 a.2.1))
theorem ZRg:ZAV Tryz.prog py11:=ZAS ZRf ZNF
theorem ZTA (x:UInt64) (r:Int) (h:ZND x=some r):MF Tryz.prog py11 124 [enc x] s0 fun v _=>ris v r:=by
 refine ZAe [(0,enc x)] func124 rfl (by simp only[Tryz.f124];rfl) fun ψ=> ?_
 unfold ZND at h;refine ZAB<|ZAC<|ZAG (v:=enc (0:Int)) rfl<|ZAA<|ZDW (fun φ s=>∃(x1:UInt64) (n:Int),Fx φ [(0,(enc x1)),(2,(enc n))]∧ZGg x1 n=some r) ?_ ?_
 ·refine ZAB ?_
  refine ZAC<|ZAD rfl<|ZAL (v:=enc (decide (((x).toNat:Int)≥4294967296))) rfl rfl rfl<|ZAA ?_
  split at h
  ·rename_i c';refine ZAI rfl c'<|ZAB<|ZAC<|ZAD rfl<|ZE5 rfl rfl rfl (ZIJ 32 (by have:=x.toNat_lt;omega))<|ZAG rfl<|ZAA<|ZAC<|ZAG (v:=enc (32:Int)) rfl<|ZAA ?_
   exact⟨(UInt64.ofInt ((((x).toNat:Int)).fdiv (2 ^ 32))),32,FxR rfl,h⟩
  rename_i c';refine ZAJ rfl c'<|ZAM ?_
  exact⟨x,0,FxR rfl,h⟩
 rintro φ s ⟨x1,n,hF,h⟩;rw[←hF.eq];unfold ZGg at h;refine ZDW (fun φ s=>∃(x2:UInt64) (n1:Int),Fx φ [(0,(enc x2)),(2,(enc n1))]∧ZGf x2 n1=some r) ?_ ?_
 ·refine ZAB ?_
  refine ZAC<|ZAD rfl<|ZAL (v:=enc (decide (((x1).toNat:Int)≥65536))) rfl rfl rfl<|ZAA ?_
  split at h
  ·rename_i c';refine ZAI rfl c'<|ZAB<|ZAC<|ZAD rfl<|ZE5 rfl rfl rfl (ZIJ 16 (by have:=x1.toNat_lt;omega))<|ZAG rfl<|ZAA<|ZAC<|ZAD rfl<|ZAL (v:=enc (IntKind.i64.wrap (n+16))) rfl rfl rfl<|ZAG rfl<|ZAA ?_
   exact⟨(UInt64.ofInt ((((x1).toNat:Int)).fdiv (2 ^ 16))),(IntKind.i64.wrap (n+16)),FxR rfl,h⟩
  rename_i c';refine ZAJ rfl c'<|ZAM ?_
  exact⟨x1,n,FxR rfl,h⟩
 rintro φ s ⟨x2,n1,hF,h⟩;rw[←hF.eq];unfold ZGf at h;refine ZDW (fun φ s=>∃(x3:UInt64) (n2:Int),Fx φ [(0,(enc x3)),(2,(enc n2))]∧ZGe x3 n2=some r) ?_ ?_
 ·refine ZAB ?_
  refine ZAC<|ZAD rfl<|ZAL (v:=enc (decide (((x2).toNat:Int)≥256))) rfl rfl rfl<|ZAA ?_
  split at h
  ·rename_i c';refine ZAI rfl c'<|ZAB<|ZAC<|ZAD rfl<|ZE5 rfl rfl rfl (ZIJ 8 (by have:=x2.toNat_lt;omega))<|ZAG rfl<|ZAA<|ZAC<|ZAD rfl<|ZAL (v:=enc (IntKind.i64.wrap (n1+8))) rfl rfl rfl<|ZAG rfl<|ZAA ?_
   exact⟨(UInt64.ofInt ((((x2).toNat:Int)).fdiv (2 ^ 8))),(IntKind.i64.wrap (n1+8)),FxR rfl,h⟩
  rename_i c';refine ZAJ rfl c'<|ZAM ?_
  exact⟨x2,n1,FxR rfl,h⟩
 rintro φ s ⟨x3,n2,hF,h⟩;rw[←hF.eq];unfold ZGe at h;refine ZAB<|ZAC<|ZAD rfl<|ZAD rfl<|ZN6 underlying154 underlying5 rfl ?_
 obtain⟨c,hx,h⟩:=bs h;refine ZIe underlying9 rfl rfl hx<|ZN5 underlying5 underlying3 rfl ?_
 rw[ZHB];refine ZAL (v:=enc (IntKind.i64.wrap (n2+((c).toNat:Int)))) rfl rfl rfl<|ZAG rfl<|ZAA<|ZAN ?_
 rw[←oi h];exact⟨rfl,KE1 (a:=((IntKind.i64.wrap (n2+((c).toNat:Int))):Int)) rfl rfl (rfl:is _ ((IntKind.i64.wrap (n2+((c).toNat:Int))):Int)) (rfl:is _ ((IntKind.i64.wrap (n2+((c).toNat:Int))):Int))⟩
theorem ZTB:ZAr Tryz.prog 124 (fun _=>Fn (fun a:UInt64×Unit=>ZND a.1)):=fnC ZRg ⟨_,func124,rfl⟩<|fun a r h=>ZTA a.1 r h
noncomputable def py12:Prims:=py11.add 124 (Fn (fun a:UInt64×Unit=>ZND a.1))
theorem ZRh:ZAV Tryz.prog py12:=ZAS ZRg ZTB
theorem ZPx (x:UInt64) (r:Int) (h:ZFY x=some r):MF Tryz.prog py12 116 [enc x] s0 fun v _=>ris v r:=by
 refine ZAe [(0,enc x)] func116 rfl (by simp only[Tryz.f116];rfl) fun ψ=> ?_
 unfold ZFY at h;refine ZAB<|ZAC<|ZAG (v:=enc (0:Int)) rfl<|ZAA<|ZAB<|ZAC<|ZAD rfl ?_
 obtain⟨r_,hx,h⟩:=bs h;refine ZAj (f:=fun a:UInt64×Unit=>ZND a.1) (a:=(x,())) rfl func124 rfl rfl (.cons (a:=x) (Enc.self _) .nil) hx<|ZAL (v:=enc (IntKind.i64.wrap (r_+7))) rfl rfl rfl<|ZAL (v:=enc (IntKind.i64.wrap ((IntKind.i64.wrap (r_+7)) - 1))) rfl rfl rfl<|ZAL (v:=enc (IntKind.i64.wrap (((IntKind.i64.wrap ((IntKind.i64.wrap (r_+7)) - 1))).tdiv 7))) rfl rfl rfl<|ZWF rfl rfl<|ZAG rfl<|ZAA<|ZAN ?_
 rw[←oi h];exact⟨rfl,KE1 (a:=((imax 1 (IntKind.i64.wrap (((IntKind.i64.wrap ((IntKind.i64.wrap (r_+7)) - 1))).tdiv 7))):Int)) rfl rfl (rfl:is _ ((imax 1 (IntKind.i64.wrap (((IntKind.i64.wrap ((IntKind.i64.wrap (r_+7)) - 1))).tdiv 7))):Int)) (rfl:is _ ((imax 1 (IntKind.i64.wrap (((IntKind.i64.wrap ((IntKind.i64.wrap (r_+7)) - 1))).tdiv 7))):Int))⟩
theorem ZPy:ZAr Tryz.prog 116 (fun _=>Fn (fun a:UInt64×Unit=>ZFY a.1)):=fnC ZRh ⟨_,func116,rfl⟩<|fun a r h=>ZPx a.1 r h
noncomputable def py13:Prims:=py12.add 116 (Fn (fun a:UInt64×Unit=>ZFY a.1))
theorem ZEJ:ZAV Tryz.prog py13:=ZAS ZRh ZPy
theorem ZGJ (s_:(List ZAF)) (r:(List ZAF)) (h:ZFA s_=some r) {x_s_:AV} (hy_s_:is x_s_ s_) {s:St} {enF:En} {G:Glob} (hs:Hp s [enF,(.gl G)]):MF Tryz.prog py13 34 [x_s_] s fun v s' =>∃en',isM v en' r∧Hp s' [en',enF, .gl G]:=by
 refine ZDD [(0,x_s_)] func34 rfl (by simp only[Tryz.f34];rfl) fun ψ=> ?_
 unfold ZFA at h;refine ZAB<|ZAC<|ZAG (v:= .nils) rfl<|ZAA<|ZAB<|ZAB<|ZAC<|ZAD (v:=x_s_) rfl ?_
 refine ZJh underlying22 rfl hy_s_ (fun z hz hx_=> ?_) (fun z hz=> ?_)
 ·replace h:some ([])=some r:=by rw[hx_] at h;exact h
  refine ZAA<|ZAI rfl rfl<|ZAB<|ZAC<|ZAG (v:= .nils) rfl<|ZAA<|ZAN ?_
  rw[←oi h];exact⟨rfl,KN1 rfl rfl ⟨_,(.inr ⟨rfl,isL.nil,rfl,rfl,rfl⟩),(Hp.add (x:= .nils) hs rfl)⟩⟩
 refine ZAA ?_
 refine ZAJ rfl Bool.false_ne_true<|ZAM<|ZAB<|ZAC<|ZBs [] ([]:(List ZAF)) underlying22 ef38 rfl rfl rfl (Nat.le_of_ble_eq_true rfl) trivial fun z1 hz1 hz1c hz1n=>ZAD (v:=x_s_) rfl ?_
 obtain⟨l,hx,h⟩:=bs h;refine ZF6 underlying22 underlying22 rfl rfl ef38 rfl rfl (.inr ⟨rfl,hz1,hz1c,hz1n,rfl⟩) hy_s_ hx (Hp.add (x:= .nils) hs rfl) fun z2 en s hz2 hs=>ZAG (v:=z2) rfl<|ZAA<|ZAN ?_
 rw[←oi h];exact⟨rfl,KN1 rfl rfl ⟨_,hz2,hs⟩⟩
theorem ZGK (s_:(List Str)) (r:(List Str)) (h:ZFB s_=some r) {x_s_:AV} (hy_s_:is x_s_ s_) {s:St} {enF:En} {G:Glob} (hs:Hp s [enF,(.gl G)]):MF Tryz.prog py13 47 [x_s_] s fun v s' =>∃en',isM v en' r∧Hp s' [en',enF, .gl G]:=by
 refine ZDD [(0,x_s_)] func47 rfl (by simp only[Tryz.f47];rfl) fun ψ=> ?_
 unfold ZFB at h;refine ZAB<|ZAC<|ZAG (v:= .nils) rfl<|ZAA<|ZAB<|ZAB<|ZAC<|ZAD (v:=x_s_) rfl ?_
 refine ZJh underlying34 rfl hy_s_ (fun z hz hx_=> ?_) (fun z hz=> ?_)
 ·replace h:some ([])=some r:=by rw[hx_] at h;exact h
  refine ZAA<|ZAI rfl rfl<|ZAB<|ZAC<|ZAG (v:= .nils) rfl<|ZAA<|ZAN ?_
  rw[←oi h];exact⟨rfl,KN1 rfl rfl ⟨_,(.inr ⟨rfl,isL.nil,rfl,rfl,rfl⟩),(Hp.add (x:= .nils) hs rfl)⟩⟩
 refine ZAA ?_
 refine ZAJ rfl Bool.false_ne_true<|ZAM<|ZAB<|ZAC<|ZBs [] ([]:(List Str)) underlying34 ef9 rfl rfl rfl (Nat.le_of_ble_eq_true rfl) trivial fun z1 hz1 hz1c hz1n=>ZAD (v:=x_s_) rfl ?_
 obtain⟨l,hx,h⟩:=bs h;refine ZF6 underlying34 underlying34 rfl rfl ef9 rfl rfl (.inr ⟨rfl,hz1,hz1c,hz1n,rfl⟩) hy_s_ hx (Hp.add (x:= .nils) hs rfl) fun z2 en s hz2 hs=>ZAG (v:=z2) rfl<|ZAA<|ZAN ?_
 rw[←oi h];exact⟨rfl,KN1 rfl rfl ⟨_,hz2,hs⟩⟩
theorem ZGL (s_:(List Int)) (r:(List Int)) (h:ZFC s_=some r) {x_s_:AV} (hy_s_:is x_s_ s_) {s:St} {enF:En} {G:Glob} (hs:Hp s [enF,(.gl G)]):MF Tryz.prog py13 49 [x_s_] s fun v s' =>∃en',isM v en' r∧Hp s' [en',enF, .gl G]:=by
 refine ZDD [(0,x_s_)] func49 rfl (by simp only[Tryz.f49];rfl) fun ψ=> ?_
 unfold ZFC at h;refine ZAB<|ZAC<|ZAG (v:= .nils) rfl<|ZAA<|ZAB<|ZAB<|ZAC<|ZAD (v:=x_s_) rfl ?_
 refine ZJh underlying35 rfl hy_s_ (fun z hz hx_=> ?_) (fun z hz=> ?_)
 ·replace h:some ([])=some r:=by rw[hx_] at h;exact h
  refine ZAA<|ZAI rfl rfl<|ZAB<|ZAC<|ZAG (v:= .nils) rfl<|ZAA<|ZAN ?_
  rw[←oi h];exact⟨rfl,KN1 rfl rfl ⟨_,(.inr ⟨rfl,isL.nil,rfl,rfl,rfl⟩),(Hp.add (x:= .nils) hs rfl)⟩⟩
 refine ZAA ?_
 refine ZAJ rfl Bool.false_ne_true<|ZAM<|ZAB<|ZAC<|ZBs [] ([]:(List Int)) underlying35 ef3 rfl rfl rfl (Nat.le_of_ble_eq_true rfl) trivial fun z1 hz1 hz1c hz1n=>ZAD (v:=x_s_) rfl ?_
 obtain⟨l,hx,h⟩:=bs h;refine ZF6 underlying35 underlying35 rfl rfl ef3 rfl rfl (.inr ⟨rfl,hz1,hz1c,hz1n,rfl⟩) hy_s_ hx (Hp.add (x:= .nils) hs rfl) fun z2 en s hz2 hs=>ZAG (v:=z2) rfl<|ZAA<|ZAN ?_
 rw[←oi h];exact⟨rfl,KN1 rfl rfl ⟨_,hz2,hs⟩⟩
theorem ZNG (s_:(List UInt8)) (r:(List UInt8)) (h:ZHp s_=some r):MF Tryz.prog py13 51 [enc s_] s0 fun v _=>ris v r:=by
 refine ZAe [(0,enc s_)] func51 rfl (by simp only[Tryz.f51];rfl) fun ψ=> ?_
 unfold ZHp at h;refine ZAB<|ZAC<|ZAG (v:= .nils) rfl<|ZAA<|ZAB<|ZAB<|ZAC<|ZAD rfl ?_
 refine ZJh underlying33 rfl (Enc.self s_) (fun z hz hx_=> ?_) (fun z hz=> ?_)
 ·replace h:some ([])=some r:=by rw[hx_] at h;exact h
  refine ZAA<|ZAI rfl rfl<|ZAB<|ZAC<|ZAG (v:= .nils) rfl<|ZAA<|ZAN ?_
  rw[←oi h];exact⟨rfl,KE1 (a:=([]:(List UInt8))) rfl rfl isL.nil isL.nil⟩
 refine ZAA ?_
 refine ZAJ rfl Bool.false_ne_true<|ZAM<|ZAB<|ZAC<|ZBs [] ([]:(List UInt8)) underlying33 ef5 rfl rfl rfl (Nat.le_of_ble_eq_true rfl) trivial fun z1 hz1 hz1c hz1n=>ZAD rfl ?_
 obtain⟨l,hx,h⟩:=bs h;refine ZEB [] (es2:=[]) underlying33 underlying33 rfl rfl ef5 rfl rfl hz1 hz1c (Hp.add Hp.nil hz1n) (Enc.self s_) hx fun z2 s hz2 hz2c hs=>ZAG (v:=z2) rfl<|ZAA<|ZAN ?_
 rw[←oi h];exact⟨rfl,KE1 (a:=l) rfl rfl hz2 hz2⟩
theorem ZNH:ZAr Tryz.prog 51 (fun _=>Fn (fun a:(List UInt8)×Unit=>ZHp a.1)):=fnC ZEJ ⟨_,func51,rfl⟩<|fun a r h=>ZNG a.1 r h
noncomputable def py14:Prims:=py13.add 51 (Fn (fun a:(List UInt8)×Unit=>ZHp a.1))
theorem ZRi:ZAV Tryz.prog py14:=ZAS ZEJ ZNH
theorem ZNI (s_:(List ZAd)) (r:(List ZAd)) (h:ZHq s_=some r):MF Tryz.prog py14 52 [enc s_] s0 fun v _=>ris v r:=by
 refine ZAe [(0,enc s_)] func52 rfl (by simp only[Tryz.f52];rfl) fun ψ=> ?_
 unfold ZHq at h;refine ZAB<|ZAC<|ZAG (v:= .nils) rfl<|ZAA<|ZAB<|ZAB<|ZAC<|ZAD rfl ?_
 refine ZJh underlying36 rfl (Enc.self s_) (fun z hz hx_=> ?_) (fun z hz=> ?_)
 ·replace h:some ([])=some r:=by rw[hx_] at h;exact h
  refine ZAA<|ZAI rfl rfl<|ZAB<|ZAC<|ZAG (v:= .nils) rfl<|ZAA<|ZAN ?_
  rw[←oi h];exact⟨rfl,KE1 (a:=([]:(List ZAd))) rfl rfl isL.nil isL.nil⟩
 refine ZAA ?_
 refine ZAJ rfl Bool.false_ne_true<|ZAM<|ZAB<|ZAC<|ZBs [] ([]:(List ZAd)) underlying36 ef89 rfl rfl rfl (Nat.le_of_ble_eq_true rfl) trivial fun z1 hz1 hz1c hz1n=>ZAD rfl ?_
 obtain⟨l,hx,h⟩:=bs h;refine ZEB [] (es2:=[]) underlying36 underlying36 rfl rfl ef89 rfl rfl hz1 hz1c (Hp.add Hp.nil hz1n) (Enc.self s_) hx fun z2 s hz2 hz2c hs=>ZAG (v:=z2) rfl<|ZAA<|ZAN ?_
 rw[←oi h];exact⟨rfl,KE1 (a:=l) rfl rfl hz2 hz2⟩
theorem ZNJ:ZAr Tryz.prog 52 (fun _=>Fn (fun a:(List ZAd)×Unit=>ZHq a.1)):=fnC ZRi ⟨_,func52,rfl⟩<|fun a r h=>ZNI a.1 r h
noncomputable def py15:Prims:=py14.add 52 (Fn (fun a:(List ZAd)×Unit=>ZHq a.1))
theorem ZRj:ZAV Tryz.prog py15:=ZAS ZRi ZNJ
theorem ZPz (y:ZAF) (r:Int) (h:ZIL y=some r):MF Tryz.prog py15 57 [enc y] s0 fun v _=>ris v r:=by
 refine ZAe [(0,enc y)] func57 rfl (by simp only[Tryz.f57];rfl) fun ψ=> ?_
 unfold ZIL at h;refine ZAB<|ZAC<|ZA1 (r:=y) rfl (Enc.self y) Hp.nil fun m xs s hxs hs=>ZAG (v:=enc (0:Int)) rfl<|ZAA<|ZAB<|ZAC<|ZAO ZBO rfl<|ZAK ag3 Sz rfl hxs hs fun y1 hy1=> ?_
 cases hy1;refine ZAG rfl<|ZAA<|ZAN ?_
 rw[←oi h];exact⟨rfl,KE1 (a:=y.v.1) rfl rfl (rfl:is _ y.v.1) (rfl:is _ y.v.1)⟩
theorem ZP0:ZAr Tryz.prog 57 (fun _=>Fn (fun a:ZAF×Unit=>ZIL a.1)):=fnC ZRj ⟨_,func57,rfl⟩<|fun a r h=>ZPz a.1 r h
noncomputable def py16:Prims:=py15.add 57 (Fn (fun a:ZAF×Unit=>ZIL a.1))
theorem ZRk:ZAV Tryz.prog py16:=ZAS ZRj ZP0
theorem ZP1 (x:ZAF) (n:Int) (x1:(PtrC (Clo 57 (Unit)))) (r:Int) (h:ZEI x n x1=some r):MF Tryz.prog py16 78 [enc x,enc n,enc x1] s0 fun v _=>ris v r:=by
 refine ZAe [(0,enc x),(1,enc n),(2,enc x1)] func78 rfl (by simp only[Tryz.f78];rfl) fun ψ=> ?_
 unfold ZEI at h;refine ZAB<|ZAC<|ZA1 (r:=x) rfl (Enc.self x) Hp.nil fun m xs s hxs hs=>ZAG (v:=enc (0:Int)) rfl<|ZAA<|ZAB<|ZAC<|ZTu ZWH rfl (Enc.self x1) fun y hy=>ZAU (r:=x) ag38 sz38 rfl hxs hs fun y1 hy1=> ?_
 obtain⟨r_,hx,h⟩:=bs h;refine ZNB (f:=fun a:ZAF×Unit=>ZIL a.1) (a:=(x,x1.v.cap)) rfl func57 rfl rfl hy rfl (fun _ h=>(.cons (a:=x) hy1 h)) hx<|ZAD rfl ?_
 obtain⟨r_1,hx1,h⟩:=bs h;refine ZAj (f:=fun a:Int×Int×Unit=>cmpI a.1 a.2.1) (a:=(r_,n,())) rfl func79 rfl rfl (.cons (a:=r_) (Enc.self _) (.cons (a:=n) (Enc.self _) .nil)) hx1<|ZAG rfl<|ZAA<|ZAN ?_
 rw[←oi h];exact⟨rfl,KE1 (a:=r_1) rfl rfl (rfl:is _ r_1) (rfl:is _ r_1)⟩
theorem ZP2:ZAr Tryz.prog 78 (fun _=>Fn (fun a:ZAF×Int×(PtrC (Clo 57 (Unit)))×Unit=>ZEI a.1 a.2.1 a.2.2.1)):=fnC ZRk ⟨_,func78,rfl⟩<|fun a r h=>ZP1 a.1 a.2.1 a.2.2.1 r h
noncomputable def py17:Prims:=py16.add 78 (Fn (fun a:ZAF×Int×(PtrC (Clo 57 (Unit)))×Unit=>ZEI a.1 a.2.1 a.2.2.1))
theorem ZRl:ZAV Tryz.prog py17:=ZAS ZRk ZP2
theorem ZLe (x:(List ZAF)) (target:Int) (cmp:(Clo 78 ((PtrC (Clo 57 (Unit)))×Unit))) (r:Int×Bool) (h:ZDH x target cmp=some r):MF Tryz.prog py17 77 [enc x,enc target,enc cmp] s0 fun v _=>ris v r:=by
 refine ZAe [(0,enc x),(1,enc target),(2,enc cmp)] func77 rfl (by simp only[Tryz.f77];rfl) fun ψ=> ?_
 unfold ZDH at h;refine ZAB<|ZAC<|ZAG (v:=enc (0:Int)) rfl<|ZAG (v:=enc false) rfl<|ZAA<|ZAB<|ZAC<|ZAD rfl<|ZAp underlying22 rfl rfl (Enc.self x)<|ZAG rfl<|ZAA<|ZAB<|ZAC<|ZAD rfl<|ZAG (v:=enc (0:Int)) rfl ?_
 refine ZAG rfl<|ZAA<|ZAB<|ZAQ ?_
 obtain⟨i1,hl,h⟩:=bs h;refine ZAm (fun(p:(Int×Int)) φ s=>match p with | (i,j)=>Fx φ [(0,(enc (x:(List ZAF)))),(1,(enc target)),(2,(enc (cmp:(Clo 78 ((PtrC (Clo 57 (Unit)))×Unit))))),(8,(enc ((x.length:Int):Int))),(9,(enc i)),(10,(enc j))]) (fun(o:Int) e φ s=>match o with | i1=>e= .exit 0∧Fx φ [(0,(enc (x:(List ZAF)))),(1,(enc target)),(2,(enc (cmp:(Clo 78 ((PtrC (Clo 57 (Unit)))×Unit))))),(8,(enc ((x.length:Int):Int))),(9,(enc i1))]) ?_ hl (FxR rfl) ?_
 ·rintro⟨i,j⟩ o h φ s hF;rw[←hF.eq];rw[ZFZ] at h;refine ZAB<|ZAB<|ZAC<|ZAD rfl<|ZAD rfl<|ZAL (v:=enc (decide (i<j))) rfl rfl rfl<|ZAA ?_
  split at h
  ·rename_i c';refine ZAI rfl c'<|ZAM<|ZAQ<|ZAB<|ZAC<|ZAD rfl<|ZAD rfl<|ZAL (v:=enc (IntKind.i64.wrap (i+j))) rfl rfl rfl<|ZHf underlying3 underlying118 rfl<|ZE5 rfl rfl rfl (ZIJ 1 (by have:=(UInt64.ofInt (IntKind.i64.wrap (i+j))).toNat_lt;omega))<|ZN5 underlying118 underlying3 rfl<|ZAG rfl<|ZAA<|ZAB<|ZAC ?_
   refine ZAD rfl<|ZAD rfl<|ZAD rfl ?_
   obtain⟨v,hx,h⟩:=bs h;refine ZAv underlying22 sh38 rfl rfl (Enc.self x) hx fun p hp=>ZBb ag38 sz38 rfl hp fun y hy=>ZAD rfl ?_
   obtain⟨r_,hx1,h⟩:=bs h;refine ZNB (f:=fun a:ZAF×Int×(PtrC (Clo 57 (Unit)))×Unit=>ZEI a.1 a.2.1 a.2.2.1) (a:=(v,target,cmp.cap)) rfl func78 rfl rfl (Enc.self cmp) rfl (fun _ h=>(.cons (a:=v) hy (.cons (a:=target) (rfl:is _ target) h))) hx1<|ZAL (v:=enc (decide (r_<0))) rfl rfl rfl<|ZAA ?_
   split at h
   ·rename_i c';refine ZAI rfl c'<|ZAC<|ZAD rfl<|ZAL (v:=enc (IntKind.i64.wrap ((IntKind.i64.wrap (((UInt64.ofInt (((((UInt64.ofInt (IntKind.i64.wrap (i+j)))).toNat:Int)).fdiv (2 ^ 1)))).toNat:Int))+1))) rfl rfl rfl<|ZAG rfl<|ZAA ?_
    rw[←oi h];exact⟨_,rfl,FxR rfl⟩
   rename_i c';refine ZAJ rfl c'<|ZAC<|ZAD rfl<|ZAG rfl<|ZAA ?_
   rw[←oi h];exact⟨_,rfl,FxR rfl⟩
  rename_i c';refine ZAJ rfl c'<|ZAl ?_
  rw[←oi h];exact⟨_,rfl,rfl,FxR rfl⟩
 intro e φ s hE;obtain⟨rfl,hF⟩:=hE;rw[←hF.eq];rw[ZHr] at h;show if _ then _ else _
 rw[if_pos rfl];refine ZAB<|ZAC<|ZAD rfl<|ZAD rfl<|ZAD rfl<|ZAL (v:=enc (decide (i1<(x.length:Int)))) rfl rfl rfl<|ZAD rfl ?_
 obtain⟨b,hb_b,h⟩:=bs h;refine ZAT 9 (fun φ s=>Fx φ [(35,(enc i1)),(48,(enc b))]) ?_ ?_
 ·split at hb_b
  ·rename_i cg;refine ZAH rfl rfl cg<|ZAD rfl<|ZAH rfl rfl cg<|ZAD rfl<|ZAH rfl rfl cg<|ZAD rfl<|ZAH rfl rfl cg ?_
   obtain⟨v1,hx2,hb_b⟩:=bs hb_b;refine ZAv underlying22 sh38 rfl rfl (Enc.self x) hx2 fun p1 hp1=>ZAH rfl rfl cg<|ZBb ag38 sz38 rfl hp1 fun y1 hy1=>ZAH rfl rfl cg<|ZAD rfl<|ZAH rfl rfl cg ?_
   obtain⟨r_1,hx3,hb_b⟩:=bs hb_b;refine ZNB (f:=fun a:ZAF×Int×(PtrC (Clo 57 (Unit)))×Unit=>ZEI a.1 a.2.1 a.2.2.1) (a:=(v1,target,cmp.cap)) rfl func78 rfl rfl (Enc.self cmp) rfl (fun _ h=>(.cons (a:=v1) hy1 (.cons (a:=target) (rfl:is _ target) h))) hx3<|ZAH rfl rfl cg<|ZAL (v:=enc (r_1==0)) rfl rfl rfl<|ZAY rfl cg rfl<|ZAA ?_
   rw[←oi hb_b];exact(FxR rfl)
  rename_i cg1;refine ZAE rfl rfl cg1<|ZAE rfl rfl cg1<|ZAE rfl rfl cg1<|ZAE rfl rfl cg1<|ZAE rfl rfl cg1<|ZAE rfl rfl cg1<|ZAE rfl rfl cg1<|ZAE rfl rfl cg1<|ZAX (v:=enc false) rfl cg1 rfl<|ZAA ?_
  rw[←oi hb_b];exact(FxR rfl)
 rintro φ s hF;rw[←hF.eq];refine ZAG rfl<|ZAG rfl<|ZAA<|ZAN ?_
 rw[←oi h];exact⟨rfl,KE2 (a1:=i1) (a2:=b) rfl rfl rfl (rfl:is _ i1) (rfl:is _ b) ⟨_,_,rfl,(rfl:is _ i1),(rfl:is _ b)⟩⟩
theorem ZLf:ZAr Tryz.prog 77 (fun _=>Fn (fun a:(List ZAF)×Int×(Clo 78 ((PtrC (Clo 57 (Unit)))×Unit))×Unit=>ZDH a.1 a.2.1 a.2.2.1)):=fnC ZRl ⟨_,func77,rfl⟩<|fun a r h=>ZLe a.1 a.2.1 a.2.2.1 r h
noncomputable def py18:Prims:=py17.add 77 (Fn (fun a:(List ZAF)×Int×(Clo 78 ((PtrC (Clo 57 (Unit)))×Unit))×Unit=>ZDH a.1 a.2.1 a.2.2.1))
theorem ZRm:ZAV Tryz.prog py18:=ZAS ZRl ZLf
theorem ZLg (l:(List ZAF)) (num:Int) (of:(Clo 57 (Unit))) (r:Int×Bool) (h:ZCj l num of=some r):MF Tryz.prog py18 56 [enc l,enc num,enc of] s0 fun v _=>ris v r:=by
 refine ZAe [(0,enc l),(1,enc num),(2,enc of)] func56 rfl (by simp only[Tryz.f56];rfl) fun ψ=> ?_
 unfold ZCj at h;refine ZAB<|ZAC<|ZTt (a:=(of:(Clo 57 (Unit)))) rfl (Enc.self of) Hp.nil fun m s hs=>ZAG (v:=enc (0:Int)) rfl<|ZAG (v:=enc false) rfl<|ZAA<|ZAB<|ZAC<|ZAD rfl<|ZAD rfl<|ZRU (q:=5) (a:=(of:(Clo 57 (Unit)))) rfl (Enc.self _) hs fun z s hz hs=>ZRW (c:=((PtrC.mk of:PtrC (Clo 57 (Unit))),())) rfl ⟨_,_,rfl,hz,rfl⟩ fun z1 hz1=> ?_
 obtain⟨r_,hx,h⟩:=bs h;refine ZAj (f:=fun a:(List ZAF)×Int×(Clo 78 ((PtrC (Clo 57 (Unit)))×Unit))×Unit=>ZDH a.1 a.2.1 a.2.2.1) (a:=(l,num,(Clo.mk ((PtrC.mk of:PtrC (Clo 57 (Unit))),()):Clo 78 ((PtrC (Clo 57 (Unit)))×Unit)),())) rfl func77 rfl rfl (.cons (a:=l) (Enc.self l) (.cons (a:=num) (Enc.self _) (.cons (a:=((Clo.mk ((PtrC.mk of:PtrC (Clo 57 (Unit))),()):Clo 78 ((PtrC (Clo 57 (Unit)))×Unit)):(Clo 78 ((PtrC (Clo 57 (Unit)))×Unit)))) hz1 .nil))) hx<|ZAs rfl rfl<|ZAs rfl rfl<|ZAG rfl<|ZAG rfl<|ZAA<|ZAN ?_
 rw[←oi h];exact⟨rfl,KE2 (a1:=r_.1) (a2:=r_.2) rfl rfl rfl (rfl:is _ r_.1) (rfl:is _ r_.2) ⟨_,_,rfl,(rfl:is _ r_.1),(rfl:is _ r_.2)⟩⟩
theorem ZLh:ZAr Tryz.prog 56 (fun _=>Fn (fun a:(List ZAF)×Int×(Clo 57 (Unit))×Unit=>ZCj a.1 a.2.1 a.2.2.1)):=fnC ZRm ⟨_,func56,rfl⟩<|fun a r h=>ZLg a.1 a.2.1 a.2.2.1 r h
noncomputable def py19:Prims:=py18.add 56 (Fn (fun a:(List ZAF)×Int×(Clo 57 (Unit))×Unit=>ZCj a.1 a.2.1 a.2.2.1))
theorem ZRn:ZAV Tryz.prog py19:=ZAS ZRm ZLh
theorem ZP3 (n:Int) (x:(PtrC ZAb)) (r:Bool) (h:ZGI n x=some r):MF Tryz.prog py19 74 [enc n,enc x] s0 fun v _=>ris v r:=by
 refine ZAe [(0,enc n),(1,enc x)] func74 rfl (by simp only[Tryz.f74];rfl) fun ψ=> ?_
 unfold ZGI at h;refine ZAB<|ZAC<|ZAG (v:=enc false) rfl<|ZAA<|ZAB<|ZAC<|ZAD rfl<|ZAL (v:=enc (decide (n<0))) rfl rfl rfl<|ZAD rfl ?_
 obtain⟨b,hb_b,h⟩:=bs h;refine ZAT 3 (fun φ s=>Fx φ [(0,(enc n)),(1,(enc (x:(PtrC ZAb)))),(9,(enc b))]) ?_ ?_
 ·split at hb_b
  ·rename_i cg;refine ZAE rfl rfl (by simpa using cg)<|ZAE rfl rfl (by simpa using cg)<|ZAY (v:=enc true) rfl cg rfl<|ZAA ?_
   rw[←oi hb_b];exact(FxR rfl)
  rename_i cg1;refine ZAH rfl rfl (by simpa using cg1)<|ZAD rfl<|ZAH rfl rfl (by simpa using cg1)<|ZAL (v:=enc (decide (n > 1024))) rfl rfl rfl<|ZAX rfl cg1 rfl<|ZAA ?_
  rw[←oi hb_b];exact(FxR rfl)
 rintro φ s hF;rw[←hF.eq];refine ZAD rfl ?_
 obtain⟨b1,hb_b1,h⟩:=bs h;refine ZAT 7 (fun φ s=>Fx φ [(17,(enc b1))]) ?_ ?_
 ·split at hb_b1
  ·rename_i cg2;refine ZAE rfl rfl (by simpa using cg2)<|ZAE rfl rfl (by simpa using cg2)<|ZAE rfl rfl (by simpa using cg2)<|ZAR rfl rfl<|ZAR rfl rfl<|ZAE rfl rfl (by simpa using cg2)<|ZAY (v:=enc true) rfl cg2 rfl<|ZAA ?_
   rw[←oi hb_b1];exact(FxR rfl)
  rename_i cg3;refine ZAH rfl rfl (by simpa using cg3)<|ZB5 ZQ4 Sz rfl (PtrC.ep (Enc.self x)) fun p hp=>ZAH rfl rfl (by simpa using cg3)<|ZBG ag4 rfl hp fun y hy=> ?_
  cases hy;refine ZAH rfl rfl (by simpa using cg3)<|ZAD rfl ?_
  obtain⟨b2,hb_b2,hb_b1⟩:=bs hb_b1;refine ZAT 3 (fun φ s=>Fx φ [(10,(enc b)),(16,(enc b2))]) ?_ ?_
  ·split at hb_b2
   ·rename_i cg4;refine ZAH rfl rfl cg4<|ZAD rfl<|ZAH rfl rfl cg4<|ZAL (v:=enc (n==0)) rfl rfl rfl<|ZAH rfl rfl (by simpa using cg3)<|ZAY rfl cg4 rfl<|ZAA ?_
    rw[←oi hb_b2];exact(FxR rfl)
   rename_i cg5;refine ZAE rfl rfl cg5<|ZAE rfl rfl cg5<|ZAH rfl rfl (by simpa using cg3)<|ZAX (v:=enc false) rfl cg5 rfl<|ZAA ?_
   rw[←oi hb_b2];exact(FxR rfl)
  rintro φ s hF;rw[←hF.eq];refine ZAX rfl cg3 rfl<|ZAA ?_
  rw[←oi hb_b1];exact(FxR rfl)
 rintro φ s hF;rw[←hF.eq];refine ZAG rfl<|ZAA<|ZAN ?_
 rw[←oi h];exact⟨rfl,KE1 (a:=b1) rfl rfl (rfl:is _ b1) (rfl:is _ b1)⟩
theorem ZP4:ZAr Tryz.prog 74 (fun _=>Fn (fun a:Int×(PtrC ZAb)×Unit=>ZGI a.1 a.2.1)):=fnC ZRn ⟨_,func74,rfl⟩<|fun a r h=>ZP3 a.1 a.2.1 r h
noncomputable def py20:Prims:=py19.add 74 (Fn (fun a:Int×(PtrC ZAb)×Unit=>ZGI a.1 a.2.1))
theorem ZRo:ZAV Tryz.prog py20:=ZAS ZRn ZP4
theorem ZIs (s_:(List Int)) (f:(Clo 74 ((PtrC ZAb)×Unit))) (r:Int) (h:ZBv s_ f=some r):MF Tryz.prog py20 102 [enc s_,enc f] s0 fun v _=>ris v r:=by
 refine ZAe [(0,enc s_),(1,enc f)] func102 rfl (by simp only[Tryz.f102];rfl) fun ψ=> ?_
 unfold ZBv at h;refine ZAB<|ZAC<|ZAG (v:=enc (0:Int)) rfl<|ZAA<|ZAB<|ZAB<|ZAC<|ZAD rfl<|ZAp underlying35 rfl rfl (Enc.self s_)<|ZAD (v:=enc (0:Int)) rfl<|ZAA<|ZAQ ?_
 obtain⟨o,hl,h⟩:=bs h;refine ZAm (fun(p:Int) φ s=>match p with | v=>Fx φ [(0,(enc (s_:(List Int)))),(1,(enc (f:(Clo 74 ((PtrC ZAb)×Unit))))),(7,(enc ((s_.length:Int):Int))),(8,(enc v))]) (fun(o:(Unit ⊕ Int)) e φ s=>match o with | (.inl _)=>e= .exit 0∧Fx φ [] | (.inr v1)=>e= .ret∧Fx φ [(4,(enc v1))]) ?_ hl (FxR rfl) ?_
 ·rintro v o h φ s hF;rw[←hF.eq];rw[ZDl] at h;refine ZAB<|ZAC<|ZAL (v:=enc (decide (v<(s_.length:Int)))) rfl rfl rfl<|ZAA<|ZAB ?_
  split at h
  ·rename_i c';refine ZAI rfl c'<|ZAM<|ZAB<|ZAQ<|ZAB<|ZAC<|ZAD rfl<|ZAG rfl<|ZAA<|ZAB<|ZAC<|ZAD rfl<|ZAD rfl<|ZAD rfl ?_
   obtain⟨v2,hx,h⟩:=bs h;refine ZAv underlying35 sh3 rfl rfl (Enc.self s_) hx fun p hp=>ZCq rfl ag3 rfl hp fun y hy=> ?_
   cases hy;obtain⟨r_,hx1,h⟩:=bs h;refine ZNB (f:=fun a:Int×(PtrC ZAb)×Unit=>ZGI a.1 a.2.1) (a:=(v2,f.cap)) rfl func74 rfl rfl (Enc.self f) rfl (fun _ h=>(.cons (a:=v2) (rfl:is _ v2) h)) hx1<|ZAA ?_
   split at h
   ·rename_i c';refine ZAI rfl c'<|ZAB<|ZAC<|ZAD rfl<|ZAG rfl<|ZAA<|ZAN ?_
    show if _ then _ else _
    rw[if_neg (by simp)]
    rw[←oi h];exact⟨_,rfl,rfl,FxR rfl⟩
   rename_i c';refine ZAJ rfl c'<|ZAM<|ZAC<|ZAL (v:=enc (IntKind.i64.wrap (v+1))) rfl rfl rfl<|ZAD rfl<|ZAA ?_
   rw[←oi h];exact⟨_,rfl,FxR rfl⟩
  rename_i c';refine ZAJ rfl c'<|ZAl ?_
  rw[←oi h];exact⟨_,rfl,rfl,trivial⟩
 intro e φ s hE;rcases o with _u | v1
 ·obtain⟨rfl,hF⟩:=hE;rw[←hF.eq];rw[ZDm] at h;show if _ then _ else _
  rw[if_pos rfl];refine ZAB<|ZAC<|ZAG (v:=enc ((-1):Int)) rfl<|ZAA<|ZAN ?_
  rw[←oi h];exact⟨rfl,KE1 (a:=((-1):Int)) rfl rfl (rfl:is _ ((-1):Int)) (rfl:is _ ((-1):Int))⟩
 obtain⟨rfl,hF⟩:=hE;rw[←hF.eq];rw[ZDm] at h;show if _ then _ else _
 rw[if_neg (by simp)]
 rw[←oi h];exact⟨rfl,KE1 (a:=v1) rfl rfl (rfl:is _ v1) (rfl:is _ v1)⟩
theorem ZIt:ZAr Tryz.prog 102 (fun _=>Fn (fun a:(List Int)×(Clo 74 ((PtrC ZAb)×Unit))×Unit=>ZBv a.1 a.2.1)):=fnC ZRo ⟨_,func102,rfl⟩<|fun a r h=>ZIs a.1 a.2.1 r h
noncomputable def py21:Prims:=py20.add 102 (Fn (fun a:(List Int)×(Clo 74 ((PtrC ZAb)×Unit))×Unit=>ZBv a.1 a.2.1))
theorem ZRp:ZAV Tryz.prog py21:=ZAS ZRo ZIt
theorem ZHs (s_:(List Int)) (f:(Clo 74 ((PtrC ZAb)×Unit))) (r:Bool) (h:ZBL s_ f=some r):MF Tryz.prog py21 76 [enc s_,enc f] s0 fun v _=>ris v r:=by
 refine ZAe [(0,enc s_),(1,enc f)] func76 rfl (by simp only[Tryz.f76];rfl) fun ψ=> ?_
 unfold ZBL at h;refine ZAB<|ZAC<|ZAG (v:=enc false) rfl<|ZAA<|ZAB<|ZAC<|ZAD rfl<|ZAD rfl ?_
 obtain⟨r_,hx,h⟩:=bs h;refine ZAj (f:=fun a:(List Int)×(Clo 74 ((PtrC ZAb)×Unit))×Unit=>ZBv a.1 a.2.1) (a:=(s_,f,())) rfl func102 rfl rfl (.cons (a:=s_) (Enc.self s_) (.cons (a:=(f:(Clo 74 ((PtrC ZAb)×Unit)))) (Enc.self f) .nil)) hx<|ZAL (v:=enc (decide (r_≥0))) rfl rfl rfl<|ZAG rfl<|ZAA<|ZAN ?_
 rw[←oi h];exact⟨rfl,KE1 (a:=((decide (r_≥0)):Bool)) rfl rfl (rfl:is _ ((decide (r_≥0)):Bool)) (rfl:is _ ((decide (r_≥0)):Bool))⟩
theorem ZHt:ZAr Tryz.prog 76 (fun _=>Fn (fun a:(List Int)×(Clo 74 ((PtrC ZAb)×Unit))×Unit=>ZBL a.1 a.2.1)):=fnC ZRp ⟨_,func76,rfl⟩<|fun a r h=>ZHs a.1 a.2.1 r h
noncomputable def py22:Prims:=py21.add 76 (Fn (fun a:(List Int)×(Clo 74 ((PtrC ZAb)×Unit))×Unit=>ZBL a.1 a.2.1))
theorem ZRq:ZAV Tryz.prog py22:=ZAS ZRp ZHt
theorem ZOV (e_:Int) (r:(Err 111)) (h:ZBD e_=some r):MF Tryz.prog py22 65 [enc e_] s0 fun v _=>ris v r:=by
 refine ZAe [(0,enc e_)] func65 rfl (by simp only[Tryz.f65];rfl) fun ψ=> ?_
 unfold ZBD at h;refine ZAB<|ZAC<|ZAG (v:= .nifc) rfl<|ZAA<|ZAB<|ZAC<|ZAD rfl<|ZCr (r0:=((0:Int),())) ZWL ZWJ ZWK rfl rfl (r:=(e_,())) (.cons (z:=e_) Sz (rfl:is _ e_) .nil) fun y hy=>ZA1 (r:=(Rec.mk (e_,()):ZFX)) rfl hy Hp.nil fun m xs s hxs hs=>ZRV (q:=5) (r:=(Rec.mk (e_,()):ZFX)) rfl hxs hs fun z s hz hs=>ZVb (t:=111) (r:=(Rec.mk (e_,()):ZFX)) (by kernel_rfl) rfl hz<|ZAG (v:=enc ((Err.mk (some (Rec.mk (e_,()):ZFX).v.1):Err 111):(Err 111))) rfl<|ZAA<|ZAN ?_
 rw[←oi h];exact⟨rfl,KE1 (a:=((Err.mk (some (Rec.mk (e_,()):ZFX).v.1):Err 111):(Err 111))) rfl rfl (Enc.self _) (Enc.self _)⟩
theorem ZOW:ZAr Tryz.prog 65 (fun _=>Fn (fun a:Int×Unit=>ZBD a.1)):=fnC ZRq ⟨_,func65,rfl⟩<|fun a r h=>ZOV a.1 r h
noncomputable def py23:Prims:=py22.add 65 (Fn (fun a:Int×Unit=>ZBD a.1))
theorem ZJl:ZAV Tryz.prog py23:=ZAS ZRq ZOW
theorem ZIN (x:UInt64) (r:(List UInt8)) (h:ZHM x=some r) {s:St} {enF:En} {G:Glob} (hs:Hp s [enF,(.gl G)]):MF Tryz.prog py23 99 [(enc x)] s fun v s' =>∃en',isM v en' r∧Hp s' [en',enF, .gl G]:=by
 refine ZDD [(0,(enc x))] func99 rfl (by simp only[Tryz.f99];rfl) fun ψ=> ?_
 unfold ZHM at h;refine ZAB<|ZAC<|ZAG (v:= .nils) rfl<|ZAA<|ZAB<|ZAC<|ZAD rfl ?_
 obtain⟨r_,hx,h⟩:=bs h;refine ZAj (f:=fun a:UInt64×Unit=>ZFY a.1) (a:=(x,())) rfl func116 rfl rfl (.cons (a:=x) (Enc.self _) .nil) hx ?_
 obtain⟨l,hx1,h⟩:=bs h;refine ZSz underlying33 ef5 ze5 rfl rfl hx1 hs fun z en s hz hs=>ZAG (v:=z) rfl<|ZAA<|ZAB<|ZAB<|ZAC<|ZAD (v:=z) rfl<|ZIf underlying33 rfl rfl hz<|ZAD (v:=enc (0:Int)) rfl<|ZAA<|ZAQ ?_
 obtain⟨out_1,hl,h⟩:=bs h;refine ZAm (fun(p:((List UInt8)×Int)) φ s=>match p with | (out_,v)=>∃(x_out_:AV) (en1:En),isM x_out_ en1 out_∧Fx φ [(0,(enc x)),(3,x_out_),(9,(enc ((l.length:Int):Int))),(10,(enc v))]∧Hp s [enF,(.gl G),en1]) (fun(o:(List UInt8)) e φ s=>match o with | out_1=>e= .exit 0∧∃(x_out_1:AV) (en2:En),isM x_out_1 en2 out_1∧Fx φ [(3,x_out_1)]∧Hp s [enF,(.gl G),en2]) ?_ hl ⟨z,en,hz,FxR rfl,(Hp.front [(.gl G),en] (b:=[]) (Hp.front [en,enF] (b:=[]) (Hp.front [] (b:=[enF,(.gl G)]) hs)))⟩ ?_
 ·rintro⟨out_,v⟩ o h φ s ⟨x_out_,en1,hm_x_out_,hF,hs⟩;rw[←hF.eq];rw[ZIM] at h;refine ZAB<|ZAC<|ZAL (v:=enc (decide (v<(l.length:Int)))) rfl rfl rfl<|ZAA<|ZAB ?_
  split at h
  ·rename_i c';refine ZAI rfl c'<|ZAM<|ZAB<|ZAQ<|ZAB<|ZAC<|ZAD rfl<|ZAG rfl<|ZAA<|ZAC<|ZAD (v:=x_out_) rfl<|ZAD rfl<|ZAD rfl<|ZAD rfl<|ZAL (v:=enc (IntKind.i64.wrap (7*v))) rfl rfl rfl ?_
   obtain⟨u,hx2,h⟩:=bs h;refine ZUo (a:=x) (i:=IntKind.i64.wrap (7*v)) rfl rfl hx2<|ZN6 underlying154 underlying5 rfl<|ZQu rfl rfl rfl ?_
   obtain⟨v1,hx3,h⟩:=bs h;refine ZO8 underlying33 sh5 rfl rfl hm_x_out_ (ZCa hx3).1 (ZCa hx3).2.1 fun p hp=> ?_
   replace hs:=Hp.front [enF,(.gl G)] (b:=[]) hs;refine ZQv (a:=((UInt8.ofInt (ZSw .u8 (((UInt8.ofInt ((u).toNat:Int))).toNat:Int) 128)):UInt8)) rfl rfl hp hm_x_out_ (ZQw hx3) (rfl:is _ ((UInt8.ofInt (ZSw .u8 (((UInt8.ofInt ((u).toNat:Int))).toNat:Int) 128)):UInt8)) sz5 hs fun en3 s hm hs=>ZAA<|ZAC<|ZAL (v:=enc (IntKind.i64.wrap (v+1))) rfl rfl rfl<|ZAD rfl<|ZAA ?_
   rw[←oi h];exact⟨_,rfl,⟨x_out_,en3,hm,FxR rfl,(Hp.front [(.gl G),en3] (b:=[]) (Hp.front [en3,enF] (b:=[]) (Hp.front [] (b:=[enF,(.gl G)]) hs)))⟩⟩
  rename_i c';refine ZAJ rfl c'<|ZAl ?_
  rw[←oi h];exact⟨_,rfl,rfl,⟨x_out_,en1,hm_x_out_,FxR rfl,hs⟩⟩
 intro e φ s hE;obtain⟨rfl,x_out_1,en2,hm_x_out_1,hF,hs⟩:=hE;rw[←hF.eq];rw[ZKn] at h;show if _ then _ else _
 rw[if_pos rfl];refine ZAB<|ZAC<|ZAD (v:=x_out_1) rfl<|ZAD (v:=x_out_1) rfl<|ZIf underlying33 rfl rfl hm_x_out_1<|ZAL (v:=enc (IntKind.i64.wrap ((out_1.length:Int) - 1))) rfl rfl rfl ?_
 obtain⟨v2,hx4,h⟩:=bs h;refine ZO8 underlying33 sh5 rfl rfl hm_x_out_1 (ZCa hx4).1 (ZCa hx4).2.1 fun p1 hp1=> ?_
 replace hs:=Hp.front [enF,(.gl G)] (b:=[]) hs;refine ZVX rfl ag5 rfl hp1 hm_x_out_1 hx4 hs fun y hy=> ?_
 cases hy;refine ZQu rfl rfl rfl ?_
 obtain⟨v3,hx5,h⟩:=bs h;refine ZO8 underlying33 sh5 rfl rfl hm_x_out_1 (ZCa hx5).1 (ZCa hx5).2.1 fun p2 hp2=>ZQv (a:=((UInt8.ofInt (ZJX .u8 ((v2).toNat:Int) 128)):UInt8)) rfl rfl hp2 hm_x_out_1 (ZQw hx5) (rfl:is _ ((UInt8.ofInt (ZJX .u8 ((v2).toNat:Int) 128)):UInt8)) sz5 hs fun en4 s hm1 hs=>ZAA<|ZAB<|ZAC<|ZAD (v:=x_out_1) rfl<|ZAG (v:=x_out_1) rfl<|ZAA<|ZAN ?_
 rw[←oi h];exact⟨rfl,KN1 rfl rfl ⟨_,hm1,hs⟩⟩
theorem ZNK (b:(List UInt8)) (r:(List UInt8)) (h:ZCu b=some r):MF Tryz.prog py23 100 [enc b] s0 fun v _=>ris v r:=by
 refine ZAe [(0,enc b)] func100 rfl (by simp only[Tryz.f100];rfl) fun ψ=> ?_
 unfold ZCu at h;refine ZAB<|ZAC<|ZAG (v:= .nils) rfl<|ZAA<|ZAB<|ZAC<|ZAD rfl<|ZAp underlying33 rfl rfl (Enc.self b)<|ZHf underlying3 underlying154 rfl ?_
 obtain⟨r_,hx,h⟩:=bs h;refine ZAt (by kernel_rfl) func99 rfl (vs:=[(enc ((UInt64.ofInt (b.length:Int)):UInt64))]) rfl (MF.any (ZIN (UInt64.ofInt (b.length:Int)) _ hx (Hp.packG [] [] Hp.nil)) ZJl) fun w s ⟨en,hm,hq_⟩=> ?_
 replace hs:=Hp.unpackG [] [en] [] Hp.nil hq_;refine ZAD rfl ?_
 obtain⟨l,hx1,h⟩:=bs h;refine ZF6 underlying33 underlying33 rfl rfl ef5 rfl rfl (isM.ap hm) (Enc.self b) hx1 hs fun z en1 s hz hs=>ZED (q:=8) rfl hz hs fun z1 s hz1 hs=>ZAG (v:=z1) rfl<|ZAA<|ZAN ?_
 rw[←oi h];exact⟨rfl,KE1 (a:=l) rfl rfl hz1 hz1⟩
theorem ZNL:ZAr Tryz.prog 100 (fun _=>Fn (fun a:(List UInt8)×Unit=>ZCu a.1)):=fnC ZJl ⟨_,func100,rfl⟩<|fun a r h=>ZNK a.1 r h
noncomputable def py24:Prims:=py23.add 100 (Fn (fun a:(List UInt8)×Unit=>ZCu a.1))
theorem ZEr:ZAV Tryz.prog py24:=ZAS ZJl ZNL
theorem ZCk (b:(List UInt8)) (fields:(List AnyV)) (r:(List UInt8)) (h:ZDn b fields=some r) {x_b:AV} {en_b:En} (hm_b:isM x_b en_b b) {x_fields:AV} (hy_fields:is x_fields fields) {s:St} {enF:En} {G:Glob} (hs:Hp s [en_b,enF,(.gl G)]):MF Tryz.prog py24 73 [x_b,x_fields] s fun v s' =>∃en',isM v en' r∧Hp s' [en',enF, .gl G]:=by
 refine ZDD [(0,x_b),(1,x_fields)] func73 rfl (by simp only[Tryz.f73];rfl) fun ψ=> ?_
 unfold ZDn at h;refine ZAB<|ZAC<|ZAG (v:= .nils) rfl<|ZAA<|ZAB<|ZAB<|ZAC<|ZAD (v:=x_fields) rfl<|ZAp underlying152 rfl rfl hy_fields<|ZAD (v:=enc (0:Int)) rfl<|ZAA<|ZAQ ?_
 obtain⟨b2,hl,h⟩:=bs h;refine ZAm (fun(p:((List UInt8)×Int)) φ s=>match p with | (b1,v)=>∃(x_b1:AV) (en:En),isM x_b1 en b1∧Fx φ [(0,x_b1),(15,x_fields),(16,(enc ((fields.length:Int):Int))),(17,(enc v))]∧Hp s [enF,(.gl G),en]) (fun(o:(List UInt8)) e φ s=>match o with | b2=>e= .exit 0∧∃(x_b2:AV) (en1:En),isM x_b2 en1 b2∧Fx φ [(0,x_b2)]∧Hp s [enF,(.gl G),en1]) ?_ hl ⟨x_b,en_b,hm_b,FxR rfl,(Hp.front [(.gl G),en_b] (b:=[]) (Hp.front [en_b,enF] (b:=[]) (Hp.front [] (b:=[enF,(.gl G)]) hs)))⟩ ?_
 ·rintro⟨b1,v⟩ o h φ s ⟨x_b1,en,hm_x_b1,hF,hs⟩;rw[←hF.eq];rw[ZGi] at h;refine ZAB<|ZAC<|ZAL (v:=enc (decide (v<(fields.length:Int)))) rfl rfl rfl<|ZAA<|ZAB ?_
  split at h
  ·rename_i c';refine ZAI rfl c'<|ZAM<|ZDW (fun φ s=>∃(b3:(List UInt8)) (x_b3:AV) (en2:En),isM x_b3 en2 b3∧Fx φ [(0,x_b3),(15,x_fields),(16,(enc ((fields.length:Int):Int))),(17,(enc v))]∧Hp s [enF,(.gl G),en2]∧ZCN v b3=some o) ?_ ?_
   ·refine ZAQ ?_
    refine ZAB<|ZAC ?_
    obtain⟨v1,hx,h⟩:=bs h;refine ZAv underlying152 sh20 rfl rfl hy_fields hx fun p hp=>ZCq rfl ag20 rfl hp fun y hy=>ZAG (v:=y) rfl<|ZAA<|ZAB<|ZAC<|ZAD (v:=y) rfl<|ZAA<|ZAQ<|ZAB<|ZAC ?_
    obtain⟨as_,hx1,h⟩:=bs h;refine ZQ3 (by kernel_rfl) ze3 rfl hy hx1 fun z hz=> ?_
    cases hz;refine ZAs rfl rfl<|ZAs rfl rfl<|ZAA ?_
    split at h
    ·rename_i c';refine ZAI rfl c'<|ZAB<|ZAC<|ZAG rfl<|ZAA<|ZAC<|ZAD (v:=x_b1) rfl<|ZAD rfl<|ZHf underlying3 underlying154 rfl ?_
     obtain⟨r_,hx2,h⟩:=bs h;refine ZAt (by kernel_rfl) func99 rfl (vs:=[(enc ((UInt64.ofInt as_.1):UInt64))]) rfl (MF.any (ZIN (UInt64.ofInt as_.1) _ hx2 (Hp.packG [] [enF,(.gl G),en] hs)) ZJl) fun w s ⟨en3,hm,hq_⟩=> ?_
     replace hs:=Hp.unpackG [] [en3] [enF,(.gl G),en] hs hq_;refine ZED (q:=28) rfl hm hs fun z1 s hz1 hs=> ?_
     replace hs:=Hp.front [enF,(.gl G)] (b:=[]) hs;obtain⟨l,hx3,h⟩:=bs h;refine ZF6 underlying33 underlying33 rfl rfl ef5 rfl rfl (isM.ap hm_x_b1) hz1 hx3 hs fun z2 en4 s hz2 hs=>ZAG (v:=z2) rfl<|ZAA ?_
     exact⟨l,z2,en4,hz2,FxR rfl,(Hp.front [(.gl G),en4] (b:=[]) (Hp.front [en4,enF] (b:=[]) (Hp.front [] (b:=[enF,(.gl G)]) hs))),h⟩
    rename_i c';refine ZAJ rfl c'<|ZAB<|ZAC ?_
    obtain⟨as_1,hx4,h⟩:=bs h;refine ZQ3 (by kernel_rfl) ze9 rfl hy hx4 fun z3 hz3=> ?_
    cases hz3;refine ZAs rfl rfl<|ZAs rfl rfl<|ZAA ?_
    split at h
    ·rename_i c';refine ZAI rfl c'<|ZAB<|ZAC<|ZAG rfl<|ZAA<|ZAC<|ZAD (v:=x_b1) rfl<|ZAD rfl ?_
     obtain⟨l1,hx5,h⟩:=bs h;refine ZUp (tx:=as_1.1) underlying9 underlying33 underlying5 rfl hx5 hs fun z4 s hz4 hz4c hs=> ?_
     obtain⟨r_1,hx6,h⟩:=bs h;refine ZAj (f:=fun a:(List UInt8)×Unit=>ZCu a.1) (a:=(l1,())) rfl func100 rfl rfl (.cons (a:=l1) hz4 .nil) hx6 ?_
     replace hs:=Hp.front [.own z4,enF,(.gl G)] (b:=[]) hs;obtain⟨l2,hx7,h⟩:=bs h;refine ZF6 underlying33 underlying33 rfl rfl ef5 rfl rfl (isM.ap hm_x_b1) (Enc.self r_1) hx7 hs fun z5 en5 s hz5 hs=>ZAG (v:=z5) rfl<|ZAA ?_
     exact⟨l2,z5,en5,hz5,FxR rfl,(Hp.front [(.gl G),en5] (b:=[]) (Hp.front [en5,enF] (b:=[]) (Hp.front [] (b:=[enF,(.gl G)]) (Hp.drop [en5] (b:=[enF,(.gl G)]) hs)))),h⟩
    rename_i c';refine ZAJ rfl c'<|ZAB<|ZAC ?_
    obtain⟨as_2,hx8,h⟩:=bs h;refine ZQ3 (by kernel_rfl) ze33 rfl hy hx8 fun z6 hz6=>ZAs rfl rfl<|ZAs rfl rfl<|ZAA ?_
    split at h
    ·rename_i c';refine ZAI rfl c'<|ZAB<|ZAC<|ZAG (v:=z6) rfl<|ZAA<|ZAC<|ZAD (v:=x_b1) rfl<|ZAD (v:=z6) rfl ?_
     obtain⟨r_2,hx9,h⟩:=bs h;refine ZAj (f:=fun a:(List UInt8)×Unit=>ZCu a.1) (a:=(as_2.1,())) rfl func100 rfl rfl (.cons (a:=as_2.1) hz6 .nil) hx9 ?_
     replace hs:=Hp.front [enF,(.gl G)] (b:=[]) hs;obtain⟨l3,hx10,h⟩:=bs h;refine ZF6 underlying33 underlying33 rfl rfl ef5 rfl rfl (isM.ap hm_x_b1) (Enc.self r_2) hx10 hs fun z7 en6 s hz7 hs=>ZAG (v:=z7) rfl<|ZAA ?_
     exact⟨l3,z7,en6,hz7,FxR rfl,(Hp.front [(.gl G),en6] (b:=[]) (Hp.front [en6,enF] (b:=[]) (Hp.front [] (b:=[enF,(.gl G)]) hs))),h⟩
    rename_i c';refine ZAJ rfl c'<|ZAB<|ZAC ?_
    obtain⟨as_3,hx11,h⟩:=bs h;refine ZQ3 (by kernel_rfl) ZWI rfl hy hx11 fun z8 hz8=> ?_
    cases hz8;refine ZAs rfl rfl<|ZAs rfl rfl<|ZAA ?_
    split at h
    ·rename_i c';refine ZAI rfl c'<|ZAB<|ZAC<|ZAG rfl<|ZAA<|ZAB<|ZAC<|ZAD rfl ?_
     cases h
    rename_i c';refine ZAJ rfl c'<|ZAB<|ZAC ?_
    obtain⟨as_4,hx12,h⟩:=bs h;refine ZQ3 (by kernel_rfl) ze4 rfl hy hx12 fun z9 hz9=> ?_
    cases hz9;refine ZAs rfl rfl<|ZAs rfl rfl<|ZAA ?_
    split at h
    ·rename_i c';refine ZAI rfl c'<|ZAB<|ZAC<|ZAG rfl<|ZAA<|ZAB<|ZAC<|ZAG (v:=enc (0:Int)) rfl<|ZAA<|ZDW (fun φ s=>∃(n:Int),Fx φ [(0,x_b1),(14,(enc n)),(15,x_fields),(16,(enc ((fields.length:Int):Int))),(17,(enc v))]∧Hp s [enF,(.gl G),en]∧ZGh b1 v n=some o) ?_ ?_
     ·refine ZAB ?_
      refine ZAC<|ZAD rfl<|ZAA ?_
      split at h
      ·rename_i c';refine ZAI rfl c'<|ZAC<|ZAG (v:=enc (1:Int)) rfl<|ZAA ?_
       exact⟨1,FxR rfl,hs,h⟩
      rename_i c';refine ZAJ rfl c'<|ZAM ?_
      exact⟨0,FxR rfl,hs,h⟩
     rintro φ s ⟨n,hF,hs,h⟩;rw[←hF.eq];unfold ZGh at h;refine ZAC<|ZAD (v:=x_b1) rfl<|ZAD rfl<|ZHf underlying3 underlying154 rfl ?_
     obtain⟨r_3,hx13,h⟩:=bs h;refine ZAt (by kernel_rfl) func99 rfl (vs:=[(enc ((UInt64.ofInt n):UInt64))]) rfl (MF.any (ZIN (UInt64.ofInt n) _ hx13 (Hp.packG [] [enF,(.gl G),en] hs)) ZJl) fun w1 s ⟨en7,hm1,hq_⟩=> ?_
     replace hs:=Hp.unpackG [] [en7] [enF,(.gl G),en] hs hq_;refine ZED (q:=63) rfl hm1 hs fun z10 s hz10 hs=> ?_
     replace hs:=Hp.front [enF,(.gl G)] (b:=[]) hs;obtain⟨l4,hx14,h⟩:=bs h;refine ZF6 underlying33 underlying33 rfl rfl ef5 rfl rfl (isM.ap hm_x_b1) hz10 hx14 hs fun z11 en8 s hz11 hs=>ZAG (v:=z11) rfl<|ZAA ?_
     exact⟨l4,z11,en8,hz11,FxR rfl,(Hp.front [(.gl G),en8] (b:=[]) (Hp.front [en8,enF] (b:=[]) (Hp.front [] (b:=[enF,(.gl G)]) hs))),h⟩
    rename_i c';refine ZAJ rfl c'<|ZAM ?_
    exact⟨b1,x_b1,en,hm_x_b1,FxR rfl,hs,h⟩
   rintro φ s ⟨b3,x_b3,en2,hm_x_b3,hF,hs,h⟩;rw[←hF.eq];unfold ZCN at h;refine ZAC<|ZAL (v:=enc (IntKind.i64.wrap (v+1))) rfl rfl rfl<|ZAD rfl<|ZAA ?_
   rw[←oi h];exact⟨_,rfl,⟨x_b3,en2,hm_x_b3,FxR rfl,hs⟩⟩
  rename_i c';refine ZAJ rfl c'<|ZAl ?_
  rw[←oi h];exact⟨_,rfl,rfl,⟨x_b1,en,hm_x_b1,FxR rfl,hs⟩⟩
 intro e φ s hE;obtain⟨rfl,x_b2,en1,hm_x_b2,hF,hs⟩:=hE;rw[←hF.eq];rw[ZKo] at h;show if _ then _ else _
 rw[if_pos rfl];refine ZAB<|ZAC<|ZAD (v:=x_b2) rfl<|ZAG (v:=x_b2) rfl<|ZAA<|ZAN ?_
 rw[←oi h];exact⟨rfl,KN1 rfl rfl ⟨_,hm_x_b2,(Hp.front [enF,(.gl G)] (b:=[]) (Hp.front [(.gl G)] (b:=[en1]) (Hp.front [enF] (b:=[en1]) hs)))⟩⟩
end Go.Ai.Rab
