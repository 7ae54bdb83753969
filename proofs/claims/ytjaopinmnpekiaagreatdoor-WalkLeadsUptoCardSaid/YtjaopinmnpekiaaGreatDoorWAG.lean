/- My own texts DevPgB, DevPs1, one behind the other. -/
import Derived.Test.YtjaopinmnpekiaaGreatDoorWAE
import Derived.Test.YtjaopinmnpekiaaGreatDoorWAF
import Derived.Shelf.Unicode.ValidAny
set_option linter.unusedVariables false
set_option linter.unusedSimpArgs false
section
set_option maxRecDepth 100000
set_option maxHeartbeats 16000000
attribute [local irreducible] Go.Ai.TC Go.Ai.TO Go.Ai.MF Go.Ai.ZCS Go.Ai.ZBg Go.Ai.encR
open Go.Ai.Enc (enc is)
open Go.Ai.Res (res ris)
open Go.Ai.Args (args)
open Go.Ai.Flds (fe fi fk)
namespace Go.Ai
abbrev ZAd:Type:=(Rec (Bool×(List Str)×(List Int)×Unit))
abbrev ZId:Type:=(Rec (Int×Unit))
end Go.Ai
namespace Go.Ai.TTryz
open Go.Proofs
theorem ef5:EF Tryz.prog 5 0 1:=ZML (by kernel_rfl)
theorem ze3:∃a,ZBM Tryz.prog 3=some a∧is a (0:Int):=⟨enc (0:Int),by kernel_rfl,Enc.self _⟩
theorem ze4:∃a,ZBM Tryz.prog 4=some a∧is a false:=⟨enc false,by kernel_rfl,Enc.self _⟩
theorem ze5:∃a,ZBM Tryz.prog 5=some a∧is a (0:UInt8):=⟨enc (0:UInt8),by kernel_rfl,Enc.self _⟩
theorem ze9:∃a,ZBM Tryz.prog 9=some a∧is a (str []):=⟨enc (str []),by kernel_rfl,Enc.self _⟩
theorem ze42:∃a,ZBM Tryz.prog 42=some a∧is a ([]:(List UInt8)):=⟨.nils,by kernel_rfl,isL.nil⟩
theorem ZXN:∃a,ZBM Tryz.prog 148=some a∧is a (str []):=⟨enc (str []),by kernel_rfl,Enc.self _⟩
def ZWI:List AV:=[enc (0:Int)]
theorem ZXO:ZBM Tryz.prog 156=some (.agg ZWI):=by kernel_rfl
theorem ZXP:fi ZWI (Rec.mk ((0:Int),()):ZId).v:=⟨_,_,rfl,rfl,rfl⟩
theorem ZXQ:buB Tryz.prog 156 1=true:=by kernel_rfl
theorem ZCe:flB Tryz.prog 47 0=true:=by kernel_rfl
theorem ZNj:flB Tryz.prog 123 0=true:=by kernel_rfl
end Go.Ai.TTryz
namespace Go.Ai.Rab
open Go.Proofs TTryz Tryz
noncomputable def ZHz (x:ZAO) (x1:(PtrC Int)):Option (Bool):=
 some ((x.v.1==x1.v))
noncomputable def ZDk (s_:(List ZAO)) (f:(Clo 43 ((PtrC Int)×Unit))):Int→Option (Int ⊕ (Unit ⊕ Int))
 | v=>(if(decide (v<(s_.length:Int))) then((nth s_ v).bind fun v2=>((ZHz v2 f.cap.1).bind fun r_=>(if r_ then some (.inr (.inr v)) else some (.inl (IntKind.i64.wrap (v+1)))))) else some (.inr (.inl ())))
noncomputable def ZDl:(Unit ⊕ Int)→Option (Int)
 | (.inl _)=>some ((-1))
 | (.inr v1)=>some (v1)
noncomputable def ZBx (s_:(List ZAO)) (f:(Clo 43 ((PtrC Int)×Unit))):Option (Int):=
 ((loop (ZDk s_ f) 0).bind (ZDl))
noncomputable def ZA6 (f:FsR) (num:Int):Option (Int):=
 ((ZBx f.v.1 (Clo.mk ((PtrC.mk num:PtrC Int),()):Clo 43 ((PtrC Int)×Unit))).bind fun r_=>some (r_))
noncomputable def ZHV (x:Str):Option (Bool):=
 some ((!eqS x x))
noncomputable def ZCZ (x:Str):Option (Bool):=
 some ((!eqS x x))
noncomputable def ZMT (x:Str) (y:Str):Option (Bool):=
 ((ZHV x).bind fun r_=>((if r_ then((ZHV y).bind fun r_1=>some (!r_1)) else some false).bind fun b=>((if b then some true else some (ltS x y)).bind fun b1=>some (b1))))
noncomputable def ZNk (x:(List Str)) (target:Str):(Int×Int)→Option ((Int×Int) ⊕ Int)
 | (i,j)=>(if(decide (i<j)) then((nth x (IntKind.i64.wrap (((UInt64.ofInt (((((UInt64.ofInt (IntKind.i64.wrap (i+j)))).toNat:Int)).fdiv (2 ^ 1)))).toNat:Int))).bind fun v=>((ZMT v target).bind fun r_=>(if r_ then some (.inl ((IntKind.i64.wrap ((IntKind.i64.wrap (((UInt64.ofInt (((((UInt64.ofInt (IntKind.i64.wrap (i+j)))).toNat:Int)).fdiv (2 ^ 1)))).toNat:Int))+1)),j)) else some (.inl (i,(IntKind.i64.wrap (((UInt64.ofInt (((((UInt64.ofInt (IntKind.i64.wrap (i+j)))).toNat:Int)).fdiv (2 ^ 1)))).toNat:Int))))))) else some (.inr i))
noncomputable def ZRI (x:(List Str)) (target:Str):Int→Option (Int×Bool)
 | i1=>((if(decide (i1<(x.length:Int))) then((nth x i1).bind fun v1=>((if(eqS v1 target) then some true else((nth x i1).bind fun v2=>((ZCZ v2).bind fun r_1=>((if r_1 then((ZCZ target).bind fun r_2=>some r_2) else some false).bind fun b2=>some b2)))).bind fun b1=>some b1)) else some false).bind fun b=>some (i1,b))
noncomputable def binS (x:(List Str)) (target:Str):Option (Int×Bool):=
 ((loop (ZNk x target) (0,(x.length:Int))).bind (ZRI x target))
noncomputable def ZGY (x3:UInt64) (n2:Int):Option (Int):=
 ((nth (α:=UInt8) (str [0,1,2,2,3,3,3,3,4,4,4,4,4,4,4,4,5,5,5,5,5,5,5,5,5,5,5,5,5,5,5,5,6,6,6,6,6,6,6,6,6,6,6,6,6,6,6,6,6,6,6,6,6,6,6,6,6,6,6,6,6,6,6,6,7,7,7,7,7,7,7,7,7,7,7,7,7,7,7,7,7,7,7,7,7,7,7,7,7,7,7,7,7,7,7,7,7,7,7,7,7,7,7,7,7,7,7,7,7,7,7,7,7,7,7,7,7,7,7,7,7,7,7,7,7,7,7,7,8,8,8,8,8,8,8,8,8,8,8,8,8,8,8,8,8,8,8,8,8,8,8,8,8,8,8,8,8,8,8,8,8,8,8,8,8,8,8,8,8,8,8,8,8,8,8,8,8,8,8,8,8,8,8,8,8,8,8,8,8,8,8,8,8,8,8,8,8,8,8,8,8,8,8,8,8,8,8,8,8,8,8,8,8,8,8,8,8,8,8,8,8,8,8,8,8,8,8,8,8,8,8,8,8,8,8,8,8,8,8,8,8,8,8,8,8,8,8,8,8,8,8,8,8,8,8,8]) (((UInt8.ofInt ((x3).toNat:Int))).toNat:Int)).bind fun c=>some ((IntKind.i64.wrap (n2+((c).toNat:Int)))))
noncomputable def ZGZ (x2:UInt64) (n1:Int):Option (Int):=
 (if(decide (((x2).toNat:Int)≥256)) then(ZGY (UInt64.ofInt ((((x2).toNat:Int)).fdiv (2 ^ 8))) (IntKind.i64.wrap (n1+8))) else(ZGY x2 n1))
noncomputable def ZGa (x1:UInt64) (n:Int):Option (Int):=
 (if(decide (((x1).toNat:Int)≥65536)) then(ZGZ (UInt64.ofInt ((((x1).toNat:Int)).fdiv (2 ^ 16))) (IntKind.i64.wrap (n+16))) else(ZGZ x1 n))
noncomputable def ZMU (x:UInt64):Option (Int):=
 (if(decide (((x).toNat:Int)≥4294967296)) then(ZGa (UInt64.ofInt ((((x).toNat:Int)).fdiv (2 ^ 32))) 32) else(ZGa x 0))
noncomputable def ZFQ (x:UInt64):Option (Int):=
 ((ZMU x).bind fun r_=>some ((imax 1 (IntKind.i64.wrap (((IntKind.i64.wrap ((IntKind.i64.wrap (r_+7)) - 1))).tdiv 7)))))
noncomputable def ZF3 (n:Int) (x:(PtrC ZAd)):Option (Bool):=
 ((if(decide (n<0)) then some true else some (decide (n > 1024))).bind fun b=>((if b then some true else((if x.v.v.1 then some (n==0) else some false).bind fun b2=>some b2)).bind fun b1=>some (b1)))
noncomputable def ZDm (s_:(List Int)) (f:(Clo 88 ((PtrC ZAd)×Unit))):Int→Option (Int ⊕ (Unit ⊕ Int))
 | v=>(if(decide (v<(s_.length:Int))) then((nth s_ v).bind fun v2=>((ZF3 v2 f.cap.1).bind fun r_=>(if r_ then some (.inr (.inr v)) else some (.inl (IntKind.i64.wrap (v+1)))))) else some (.inr (.inl ())))
noncomputable def ZDn:(Unit ⊕ Int)→Option (Int)
 | (.inl _)=>some ((-1))
 | (.inr v1)=>some (v1)
noncomputable def ZBy (s_:(List Int)) (f:(Clo 88 ((PtrC ZAd)×Unit))):Option (Int):=
 ((loop (ZDm s_ f) 0).bind (ZDn))
noncomputable def ZBH (s_:(List Int)) (f:(Clo 88 ((PtrC ZAd)×Unit))):Option (Bool):=
 ((ZBy s_ f).bind fun r_=>some ((decide (r_≥0))))
noncomputable def ZDM (e_:Int):Option ((Err 154)):=
 some ((Err.mk (some e_):Err 154))
noncomputable def ZH0 (l:(List UInt8)) (x:UInt64):((List UInt8)×Int)→Option (((List UInt8)×Int) ⊕ (List UInt8))
 | (out_,v)=>(if(decide (v<(l.length:Int))) then((shrU x (IntKind.i64.wrap (7*v))).bind fun u=>((nth out_ v).bind fun v1=>some (.inl ((out_.set v.toNat (UInt8.ofInt (ZSq .u8 (((UInt8.ofInt ((u).toNat:Int))).toNat:Int) 128))),(IntKind.i64.wrap (v+1)))))) else some (.inr out_))
noncomputable def ZKU:(List UInt8)→Option ((List UInt8))
 | out_1=>((nth out_1 (IntKind.i64.wrap ((out_1.length:Int) - 1))).bind fun v2=>((nth out_1 (IntKind.i64.wrap ((out_1.length:Int) - 1))).bind fun v3=>some ((out_1.set (IntKind.i64.wrap ((out_1.length:Int) - 1)).toNat (UInt8.ofInt (ZJH .u8 ((v2).toNat:Int) 128))))))
noncomputable def ZG4 (x:UInt64):Option ((List UInt8)):=
 ((ZFQ x).bind fun r_=>((mkz 1 r_ (0:UInt8)).bind fun l=>((loop (ZH0 l x) (l,0)).bind (ZKU))))
noncomputable def ZCs (b:(List UInt8)):Option ((List UInt8)):=
 ((ZG4 (UInt64.ofInt (b.length:Int))).bind fun r_=>((app 1 r_ b).bind fun l=>some (l)))
noncomputable def ZCL (v:Int) (b3:(List UInt8)):Option (((List UInt8)×Int) ⊕ (List UInt8)):=
 some (.inl (b3,(IntKind.i64.wrap (v+1))))
noncomputable def ZGb (b1:(List UInt8)) (v:Int) (n:Int):Option (((List UInt8)×Int) ⊕ (List UInt8)):=
 ((ZG4 (UInt64.ofInt n)).bind fun r_3=>((app 1 b1 r_3).bind fun l4=>(ZCL v l4)))
noncomputable def ZGc (fields:(List AnyV)):((List UInt8)×Int)→Option (((List UInt8)×Int) ⊕ (List UInt8))
 | (b1,v)=>(if(decide (v<(fields.length:Int))) then((nth fields v).bind fun v1=>((asT 3 (0:Int) v1).bind fun as_=>(if as_.2 then((ZG4 (UInt64.ofInt as_.1)).bind fun r_=>((app 1 b1 r_).bind fun l=>(ZCL v l))) else((asT 9 (str []) v1).bind fun as_1=>(if as_1.2 then((app 1 ([]:(List UInt8)) as_1.1).bind fun l1=>((ZCs l1).bind fun r_1=>((app 1 b1 r_1).bind fun l2=>(ZCL v l2)))) else((asT 42 ([]:(List UInt8)) v1).bind fun as_2=>(if as_2.2 then((ZCs as_2.1).bind fun r_2=>((app 1 b1 r_2).bind fun l3=>(ZCL v l3))) else((asT 148 (str []) v1).bind fun as_3=>(if as_3.2 then none else((asT 4 false v1).bind fun as_4=>(if as_4.2 then(if as_4.1 then(ZGb b1 v 1) else(ZGb b1 v 0)) else(ZCL v b1)))))))))))) else some (.inr b1))
noncomputable def ZKV:(List UInt8)→Option ((List UInt8))
 | b2=>some (b2)
noncomputable def ZDo (b:(List UInt8)) (fields:(List AnyV)):Option ((List UInt8)):=
 ((loop (ZGc fields) (b,0)).bind (ZKV))
theorem ZPy (x:ZAO) (x1:(PtrC Int)) (r:Bool) (h:ZHz x x1=some r):MF Tryz.prog pz1 43 [enc x,enc x1] s0 fun v _=>ris v r:=by
 refine ZAh [(0,enc x),(1,enc x1)] func43 rfl (by simp only[Tryz.f43];rfl) fun ψ=> ?_
 unfold ZHz at h;refine ZAB<|ZAC<|ZA5 (r:=x) rfl (Enc.self x) Hp.nil fun m xs s hxs hs=>ZAG (v:=enc false) rfl<|ZAA<|ZAB<|ZAC<|ZAV ZCe rfl<|ZAK ag3 Sz rfl hxs hs fun y hy=> ?_
 cases hy;refine ZWG ag3 rfl (Enc.self x1) fun y1 hy1=> ?_
 cases hy1;refine ZAJ (v:=enc (x.v.1==x1.v)) rfl rfl rfl<|ZAG rfl<|ZAA<|ZAN ?_
 rw[←oi h];exact⟨rfl,KE1 (a:=((x.v.1==x1.v):Bool)) rfl rfl (rfl:is _ ((x.v.1==x1.v):Bool)) (rfl:is _ ((x.v.1==x1.v):Bool))⟩
theorem ZPz:ZAq Tryz.prog 43 (fun _=>Fn (fun a:ZAO×(PtrC Int)×Unit=>ZHz a.1 a.2.1)):=fnC ZTr ⟨_,func43,rfl⟩<|fun a r h=>ZPy a.1 a.2.1 r h
noncomputable def py1:Prims:=pz1.add 43 (Fn (fun a:ZAO×(PtrC Int)×Unit=>ZHz a.1 a.2.1))
theorem ZTw:ZAX Tryz.prog py1:=ZAn ZTr ZPz
theorem ZIQ (s_:(List ZAO)) (f:(Clo 43 ((PtrC Int)×Unit))) (r:Int) (h:ZBx s_ f=some r):MF Tryz.prog py1 42 [enc s_,enc f] s0 fun v _=>ris v r:=by
 refine ZAh [(0,enc s_),(1,enc f)] func42 rfl (by simp only[Tryz.f42];rfl) fun ψ=> ?_
 unfold ZBx at h;refine ZAB<|ZAC<|ZAG (v:=enc (0:Int)) rfl<|ZAA<|ZAB<|ZAB<|ZAC<|ZAE rfl<|ZAo underlying22 rfl rfl (Enc.self s_)<|ZAE (v:=enc (0:Int)) rfl<|ZAA<|ZAQ ?_
 obtain⟨o,hl,h⟩:=bs h;refine ZAk (fun(p:Int) φ s=>match p with | v=>Fx φ [(0,(enc (s_:(List ZAO)))),(1,(enc (f:(Clo 43 ((PtrC Int)×Unit))))),(7,(enc ((s_.length:Int):Int))),(8,(enc v))]) (fun(o:(Unit ⊕ Int)) e φ s=>match o with | (.inl _)=>e= .exit 0∧Fx φ [] | (.inr v1)=>e= .ret∧Fx φ [(4,(enc v1))]) ?_ hl (FxR rfl) ?_
 ·rintro v o h φ s hF;rw[←hF.eq];rw[ZDk] at h;refine ZAB<|ZAC<|ZAJ (v:=enc (decide (v<(s_.length:Int)))) rfl rfl rfl<|ZAA<|ZAB ?_
  split at h
  ·rename_i c';refine ZAH rfl c'<|ZAL<|ZAB<|ZAQ<|ZAB<|ZAC<|ZAE rfl<|ZAG rfl<|ZAA<|ZAB<|ZAC<|ZAE rfl<|ZAE rfl<|ZAE rfl ?_
   obtain⟨v2,hx,h⟩:=bs h;refine ZAu underlying22 sh47 rfl rfl (Enc.self s_) hx fun p hp=>ZDs ag47 sz47 rfl hp fun y hy=> ?_
   obtain⟨r_,hx1,h⟩:=bs h;refine ZTu (f:=fun a:ZAO×(PtrC Int)×Unit=>ZHz a.1 a.2.1) (a:=(v2,f.cap)) rfl func43 rfl rfl (Enc.self f) rfl (fun _ h=>(.cons (a:=v2) hy h)) hx1<|ZAA ?_
   split at h
   ·rename_i c';refine ZAH rfl c'<|ZAB<|ZAC<|ZAE rfl<|ZAG rfl<|ZAA<|ZAN ?_
    show if _ then _ else _
    rw[if_neg (by simp)]
    rw[←oi h];exact⟨_,rfl,rfl,FxR rfl⟩
   rename_i c';refine ZAI rfl c'<|ZAL<|ZAC<|ZAJ (v:=enc (IntKind.i64.wrap (v+1))) rfl rfl rfl<|ZAE rfl<|ZAA ?_
   rw[←oi h];exact⟨_,rfl,FxR rfl⟩
  rename_i c';refine ZAI rfl c'<|ZAf ?_
  rw[←oi h];exact⟨_,rfl,rfl,trivial⟩
 intro e φ s hE;rcases o with _u | v1
 ·obtain⟨rfl,hF⟩:=hE;rw[←hF.eq];rw[ZDl] at h;show if _ then _ else _
  rw[if_pos rfl];refine ZAB<|ZAC<|ZAG (v:=enc ((-1):Int)) rfl<|ZAA<|ZAN ?_
  rw[←oi h];exact⟨rfl,KE1 (a:=((-1):Int)) rfl rfl (rfl:is _ ((-1):Int)) (rfl:is _ ((-1):Int))⟩
 obtain⟨rfl,hF⟩:=hE;rw[←hF.eq];rw[ZDl] at h;show if _ then _ else _
 rw[if_neg (by simp)]
 rw[←oi h];exact⟨rfl,KE1 (a:=v1) rfl rfl (rfl:is _ v1) (rfl:is _ v1)⟩
theorem ZIR:ZAq Tryz.prog 42 (fun _=>Fn (fun a:(List ZAO)×(Clo 43 ((PtrC Int)×Unit))×Unit=>ZBx a.1 a.2.1)):=fnC ZTw ⟨_,func42,rfl⟩<|fun a r h=>ZIQ a.1 a.2.1 r h
noncomputable def py2:Prims:=py1.add 42 (Fn (fun a:(List ZAO)×(Clo 43 ((PtrC Int)×Unit))×Unit=>ZBx a.1 a.2.1))
theorem ZTx:ZAX Tryz.prog py2:=ZAn ZTw ZIR
theorem ZKw (f:FsR) (num:Int) (r:Int) (h:ZA6 f num=some r):MF Tryz.prog py2 24 [enc f,enc num] s0 fun v _=>ris v r:=by
 refine ZAh [(0,enc f),(1,enc num)] func24 rfl (by simp only[Tryz.f24];rfl) fun ψ=> ?_
 unfold ZA6 at h;refine ZAB<|ZAC<|ZA5 (r:=f) rfl (Enc.self f) Hp.nil fun m xs s hxs hs=>ZTs (a:=num) rfl (rfl:is _ num) hs fun m1 s hs=>ZAG (v:=enc (0:Int)) rfl<|ZAA<|ZAB<|ZAC<|ZAV ZAz rfl ?_
 replace hs:=Hp.front [(.cells m1 [(enc num)])] (b:=[]) hs;refine ZAK ag22 Sz rfl hxs hs fun y hy=> ?_
 replace hs:=Hp.front [(.cells m xs)] (b:=[]) hs;refine ZVC (q:=3) (a:=num) rfl rfl hs fun z s hz hs=>ZTt (c:=((PtrC.mk num:PtrC Int),())) rfl ⟨_,_,rfl,hz,rfl⟩ fun z1 hz1=> ?_
 obtain⟨r_,hx,h⟩:=bs h;refine ZCr (f:=fun a:(List ZAO)×(Clo 43 ((PtrC Int)×Unit))×Unit=>ZBx a.1 a.2.1) (a:=(f.v.1,(Clo.mk ((PtrC.mk num:PtrC Int),()):Clo 43 ((PtrC Int)×Unit)),())) rfl func42 rfl rfl (.cons (a:=f.v.1) hy (.cons (a:=((Clo.mk ((PtrC.mk num:PtrC Int),()):Clo 43 ((PtrC Int)×Unit)):(Clo 43 ((PtrC Int)×Unit)))) hz1 .nil)) hx<|ZAG rfl<|ZAA<|ZAN ?_
 rw[←oi h];exact⟨rfl,KE1 (a:=r_) rfl rfl (rfl:is _ r_) (rfl:is _ r_)⟩
theorem ZKx:ZAq Tryz.prog 24 (fun _=>Fn (fun a:FsR×Int×Unit=>ZA6 a.1 a.2.1)):=fnC ZTx ⟨_,func24,rfl⟩<|fun a r h=>ZKw a.1 a.2.1 r h
noncomputable def py3:Prims:=py2.add 24 (Fn (fun a:FsR×Int×Unit=>ZA6 a.1 a.2.1))
theorem ZTy:ZAX Tryz.prog py3:=ZAn ZTx ZKx
theorem ZRJ (x:Str) (r:Bool) (h:ZHV x=some r):MF Tryz.prog py3 121 [enc x] s0 fun v _=>ris v r:=by
 refine ZAh [(0,enc x)] func121 rfl (by simp only[Tryz.f121];rfl) fun ψ=> ?_
 unfold ZHV at h;refine ZAB<|ZAC<|ZAG (v:=enc false) rfl<|ZAA<|ZAB<|ZAC<|ZAE rfl<|ZAE rfl<|ZAJ (v:=enc (!eqS x x)) rfl rfl rfl<|ZAG rfl<|ZAA<|ZAN ?_
 rw[←oi h];exact⟨rfl,KE1 (a:=((!eqS x x):Bool)) rfl rfl (rfl:is _ ((!eqS x x):Bool)) (rfl:is _ ((!eqS x x):Bool))⟩
theorem ZRK:ZAq Tryz.prog 121 (fun _=>Fn (fun a:Str×Unit=>ZHV a.1)):=fnC ZTy ⟨_,func121,rfl⟩<|fun a r h=>ZRJ a.1 r h
noncomputable def py4:Prims:=py3.add 121 (Fn (fun a:Str×Unit=>ZHV a.1))
theorem ZTz:ZAX Tryz.prog py4:=ZAn ZTy ZRK
theorem ZP0 (x:Str) (r:Bool) (h:ZCZ x=some r):MF Tryz.prog py4 99 [enc x] s0 fun v _=>ris v r:=by
 refine ZAh [(0,enc x)] func99 rfl (by simp only[Tryz.f99];rfl) fun ψ=> ?_
 unfold ZCZ at h;refine ZAB<|ZAC<|ZAG (v:=enc false) rfl<|ZAA<|ZAB<|ZAC<|ZAE rfl<|ZAE rfl<|ZAJ (v:=enc (!eqS x x)) rfl rfl rfl<|ZAG rfl<|ZAA<|ZAN ?_
 rw[←oi h];exact⟨rfl,KE1 (a:=((!eqS x x):Bool)) rfl rfl (rfl:is _ ((!eqS x x):Bool)) (rfl:is _ ((!eqS x x):Bool))⟩
theorem ZP1:ZAq Tryz.prog 99 (fun _=>Fn (fun a:Str×Unit=>ZCZ a.1)):=fnC ZTz ⟨_,func99,rfl⟩<|fun a r h=>ZP0 a.1 r h
noncomputable def py5:Prims:=py4.add 99 (Fn (fun a:Str×Unit=>ZCZ a.1))
theorem ZT0:ZAX Tryz.prog py5:=ZAn ZTz ZP1
theorem ZS3 (x:Str) (y:Str) (r:Bool) (h:ZMT x y=some r):MF Tryz.prog py5 98 [enc x,enc y] s0 fun v _=>ris v r:=by
 refine ZAh [(0,enc x),(1,enc y)] func98 rfl (by simp only[Tryz.f98];rfl) fun ψ=> ?_
 unfold ZMT at h;refine ZAB<|ZAC<|ZAG (v:=enc false) rfl<|ZAA<|ZAB<|ZAC<|ZAE rfl ?_
 obtain⟨r_,hx,h⟩:=bs h;refine ZCr (f:=fun a:Str×Unit=>ZHV a.1) (a:=(x,())) rfl func121 rfl rfl (.cons (a:=x) (Enc.self _) .nil) hx<|ZAE rfl ?_
 obtain⟨b,hb_b,h⟩:=bs h;refine ZAS 4 (fun φ s=>Fx φ [(0,(enc x)),(1,(enc y)),(11,(enc b))]) ?_ ?_
 ·split at hb_b
  ·rename_i cg;refine ZAF rfl rfl cg<|ZAE rfl<|ZAF rfl rfl cg ?_
   obtain⟨r_1,hx1,hb_b⟩:=bs hb_b;refine ZCr (f:=fun a:Str×Unit=>ZHV a.1) (a:=(y,())) rfl func121 rfl rfl (.cons (a:=y) (Enc.self _) .nil) hx1<|ZAF rfl rfl cg<|ZBO (v:=enc (!r_1)) rfl rfl<|ZAa rfl cg rfl<|ZAA ?_
   rw[←oi hb_b];exact(FxR rfl)
  rename_i cg1;refine ZAD rfl rfl cg1<|ZAD rfl rfl cg1<|ZAD rfl rfl cg1<|ZAZ (v:=enc false) rfl cg1 rfl<|ZAA ?_
  rw[←oi hb_b];exact(FxR rfl)
 rintro φ s hF;rw[←hF.eq];refine ZAE rfl ?_
 obtain⟨b1,hb_b1,h⟩:=bs h;refine ZAS 4 (fun φ s=>Fx φ [(16,(enc b1))]) ?_ ?_
 ·split at hb_b1
  ·rename_i cg2;refine ZAD rfl rfl (by simpa using cg2)<|ZAD rfl rfl (by simpa using cg2)<|ZAD rfl rfl (by simpa using cg2)<|ZAa (v:=enc true) rfl cg2 rfl<|ZAA ?_
   rw[←oi hb_b1];exact(FxR rfl)
  rename_i cg3;refine ZAF rfl rfl (by simpa using cg3)<|ZAE rfl<|ZAF rfl rfl (by simpa using cg3)<|ZAE rfl<|ZAF rfl rfl (by simpa using cg3)<|ZAJ (v:=enc ((ltS x y):Bool)) rfl rfl rfl<|ZAZ rfl cg3 rfl<|ZAA ?_
  rw[←oi hb_b1];exact(FxR rfl)
 rintro φ s hF;rw[←hF.eq];refine ZAG rfl<|ZAA<|ZAN ?_
 rw[←oi h];exact⟨rfl,KE1 (a:=b1) rfl rfl (rfl:is _ b1) (rfl:is _ b1)⟩
theorem ZS4:ZAq Tryz.prog 98 (fun _=>Fn (fun a:Str×Str×Unit=>ZMT a.1 a.2.1)):=fnC ZT0 ⟨_,func98,rfl⟩<|fun a r h=>ZS3 a.1 a.2.1 r h
noncomputable def py6:Prims:=py5.add 98 (Fn (fun a:Str×Str×Unit=>ZMT a.1 a.2.1))
theorem ZT1:ZAX Tryz.prog py6:=ZAn ZT0 ZS4
theorem ZVF (x:(List Str)) (target:Str) (r:Int×Bool) (h:binS x target=some r):MF Tryz.prog py6 81 [enc x,enc target] s0 fun v _=>ris v r:=by
 refine ZAh [(0,enc x),(1,enc target)] func81 rfl (by simp only[Tryz.f81];rfl) fun ψ=> ?_
 unfold binS at h;refine ZAB<|ZAC<|ZAG (v:=enc (0:Int)) rfl<|ZAG (v:=enc false) rfl<|ZAA<|ZAB<|ZAC<|ZAE rfl<|ZAo underlying43 rfl rfl (Enc.self x)<|ZAG rfl<|ZAA<|ZAB<|ZAC<|ZAE rfl<|ZAG (v:=enc (0:Int)) rfl ?_
 refine ZAG rfl<|ZAA<|ZAB<|ZAQ ?_
 obtain⟨i1,hl,h⟩:=bs h;refine ZAk (fun(p:(Int×Int)) φ s=>match p with | (i,j)=>Fx φ [(0,(enc (x:(List Str)))),(1,(enc target)),(6,(enc ((x.length:Int):Int))),(7,(enc i)),(8,(enc j))]) (fun(o:Int) e φ s=>match o with | i1=>e= .exit 0∧Fx φ [(0,(enc (x:(List Str)))),(1,(enc target)),(6,(enc ((x.length:Int):Int))),(7,(enc i1))]) ?_ hl (FxR rfl) ?_
 ·rintro⟨i,j⟩ o h φ s hF;rw[←hF.eq];rw[ZNk] at h;refine ZAB<|ZAB<|ZAC<|ZAE rfl<|ZAE rfl<|ZAJ (v:=enc (decide (i<j))) rfl rfl rfl<|ZAA ?_
  split at h
  ·rename_i c';refine ZAH rfl c'<|ZAL<|ZAQ<|ZAB<|ZAC<|ZAE rfl<|ZAE rfl<|ZAJ (v:=enc (IntKind.i64.wrap (i+j))) rfl rfl rfl<|ZIb underlying3 underlying167 rfl<|ZF2 rfl rfl rfl (ZJL 1 (by have:=(UInt64.ofInt (IntKind.i64.wrap (i+j))).toNat_lt;omega))<|ZPu underlying167 underlying3 rfl<|ZAG rfl<|ZAA<|ZAB<|ZAC ?_
   refine ZAE rfl<|ZAE rfl ?_
   obtain⟨v,hx,h⟩:=bs h;refine ZAu underlying43 sh9 rfl rfl (Enc.self x) hx fun p hp=>ZB8 rfl ag9 rfl hp fun y hy=> ?_
   cases hy;refine ZAE rfl ?_
   obtain⟨r_,hx1,h⟩:=bs h;refine ZCr (f:=fun a:Str×Str×Unit=>ZMT a.1 a.2.1) (a:=(v,target,())) rfl func98 rfl rfl (.cons (a:=v) (Enc.self _) (.cons (a:=target) (Enc.self _) .nil)) hx1<|ZAA ?_
   split at h
   ·rename_i c';refine ZAH rfl c'<|ZAC<|ZAE rfl<|ZAJ (v:=enc (IntKind.i64.wrap ((IntKind.i64.wrap (((UInt64.ofInt (((((UInt64.ofInt (IntKind.i64.wrap (i+j)))).toNat:Int)).fdiv (2 ^ 1)))).toNat:Int))+1))) rfl rfl rfl<|ZAG rfl<|ZAA ?_
    rw[←oi h];exact⟨_,rfl,FxR rfl⟩
   rename_i c';refine ZAI rfl c'<|ZAC<|ZAE rfl<|ZAG rfl<|ZAA ?_
   rw[←oi h];exact⟨_,rfl,FxR rfl⟩
  rename_i c';refine ZAI rfl c'<|ZAf ?_
  rw[←oi h];exact⟨_,rfl,rfl,FxR rfl⟩
 intro e φ s hE;obtain⟨rfl,hF⟩:=hE;rw[←hF.eq];rw[ZRI] at h;show if _ then _ else _
 rw[if_pos rfl];refine ZAB<|ZAC<|ZAE rfl<|ZAE rfl<|ZAE rfl<|ZAJ (v:=enc (decide (i1<(x.length:Int)))) rfl rfl rfl<|ZAE rfl ?_
 obtain⟨b,hb_b,h⟩:=bs h;refine ZAS 18 (fun φ s=>Fx φ [(31,(enc i1)),(53,(enc b))]) ?_ ?_
 ·split at hb_b
  ·rename_i cg;refine ZAF rfl rfl cg<|ZAE rfl<|ZAF rfl rfl cg<|ZAE rfl<|ZAF rfl rfl cg ?_
   obtain⟨v1,hx2,hb_b⟩:=bs hb_b;refine ZAu underlying43 sh9 rfl rfl (Enc.self x) hx2 fun p1 hp1=>ZAF rfl rfl cg<|ZB8 rfl ag9 rfl hp1 fun y1 hy1=> ?_
   cases hy1;refine ZAF rfl rfl cg<|ZAE rfl<|ZAF rfl rfl cg<|ZAJ (v:=enc ((eqS v1 target):Bool)) rfl rfl rfl<|ZAF rfl rfl cg<|ZAE rfl ?_
   obtain⟨b1,hb_b1,hb_b⟩:=bs hb_b;refine ZAS 10 (fun φ s=>Fx φ [(31,(enc i1)),(35,(enc (decide (i1<(x.length:Int))))),(52,(enc b1))]) ?_ ?_
   ·split at hb_b1
    ·rename_i cg1;refine ZAD rfl rfl (by simpa using cg1)<|ZAD rfl rfl (by simpa using cg1)<|ZAD rfl rfl (by simpa using cg1)<|ZAD rfl rfl (by simpa using cg1)<|ZAD rfl rfl (by simpa using cg1)<|ZAD rfl rfl (by simpa using cg1)<|ZAP rfl rfl<|ZAP rfl rfl<|ZAD rfl rfl (by simpa using cg1)<|ZAF rfl rfl cg<|ZAa (v:=enc true) rfl cg1 rfl<|ZAA ?_
     rw[←oi hb_b1];exact(FxR rfl)
    rename_i cg2;refine ZAF rfl rfl (by simpa using cg2)<|ZAE rfl<|ZAF rfl rfl (by simpa using cg2)<|ZAE rfl<|ZAF rfl rfl (by simpa using cg2) ?_
    obtain⟨v2,hx3,hb_b1⟩:=bs hb_b1;refine ZAu underlying43 sh9 rfl rfl (Enc.self x) hx3 fun p2 hp2=>ZAF rfl rfl (by simpa using cg2)<|ZB8 rfl ag9 rfl hp2 fun y2 hy2=> ?_
    cases hy2;refine ZAF rfl rfl (by simpa using cg2) ?_
    obtain⟨r_1,hx4,hb_b1⟩:=bs hb_b1;refine ZCr (f:=fun a:Str×Unit=>ZCZ a.1) (a:=(v2,())) rfl func99 rfl rfl (.cons (a:=v2) (Enc.self _) .nil) hx4<|ZAF rfl rfl (by simpa using cg2)<|ZAE rfl ?_
    obtain⟨b2,hb_b2,hb_b1⟩:=bs hb_b1;refine ZAS 3 (fun φ s=>Fx φ [(31,(enc i1)),(35,(enc (decide (i1<(x.length:Int))))),(42,(enc ((eqS v1 target):Bool))),(51,(enc b2))]) ?_ ?_
    ·split at hb_b2
     ·rename_i cg3;refine ZAF rfl rfl cg3<|ZAE rfl<|ZAF rfl rfl cg3 ?_
      obtain⟨r_2,hx5,hb_b2⟩:=bs hb_b2;refine ZCr (f:=fun a:Str×Unit=>ZCZ a.1) (a:=(target,())) rfl func99 rfl rfl (.cons (a:=target) (Enc.self _) .nil) hx5<|ZAF rfl rfl (by simpa using cg2)<|ZAa rfl cg3 rfl<|ZAA ?_
      rw[←oi hb_b2];exact(FxR rfl)
     rename_i cg4;refine ZAD rfl rfl cg4<|ZAD rfl rfl cg4<|ZAF rfl rfl (by simpa using cg2)<|ZAZ (v:=enc false) rfl cg4 rfl<|ZAA ?_
     rw[←oi hb_b2];exact(FxR rfl)
    rintro φ s hF;rw[←hF.eq];refine ZAF rfl rfl cg<|ZAZ rfl cg2 rfl<|ZAA ?_
    rw[←oi hb_b1];exact(FxR rfl)
   rintro φ s hF;rw[←hF.eq];refine ZAa rfl cg rfl<|ZAA ?_
   rw[←oi hb_b];exact(FxR rfl)
  rename_i cg5;refine ZAD rfl rfl cg5<|ZAD rfl rfl cg5<|ZAD rfl rfl cg5<|ZAD rfl rfl cg5<|ZAD rfl rfl cg5<|ZAD rfl rfl cg5<|ZAD rfl rfl cg5<|ZAP rfl rfl<|ZAP rfl rfl<|ZAP rfl rfl<|ZAP rfl rfl<|ZAP rfl rfl<|ZAP rfl rfl<|ZAP rfl rfl<|ZAP rfl rfl ?_
  refine ZAP rfl rfl<|ZAD rfl rfl cg5<|ZAZ (v:=enc false) rfl cg5 rfl<|ZAA ?_
  rw[←oi hb_b];exact(FxR rfl)
 rintro φ s hF;rw[←hF.eq];refine ZAG rfl<|ZAG rfl<|ZAA<|ZAN ?_
 rw[←oi h];exact⟨rfl,KE2 (a1:=i1) (a2:=b) rfl rfl rfl (rfl:is _ i1) (rfl:is _ b) ⟨_,_,rfl,(rfl:is _ i1),(rfl:is _ b)⟩⟩
theorem ZVG:ZAq Tryz.prog 81 (fun _=>Fn (fun a:(List Str)×Str×Unit=>binS a.1 a.2.1)):=fnC ZT1 ⟨_,func81,rfl⟩<|fun a r h=>ZVF a.1 a.2.1 r h
noncomputable def py7:Prims:=py6.add 81 (Fn (fun a:(List Str)×Str×Unit=>binS a.1 a.2.1))
theorem ZT2:ZAX Tryz.prog py7:=ZAn ZT1 ZVG
theorem ZS5 (x:UInt64) (r:Int) (h:ZMU x=some r):MF Tryz.prog py7 136 [enc x] s0 fun v _=>ris v r:=by
 refine ZAh [(0,enc x)] func136 rfl (by simp only[Tryz.f136];rfl) fun ψ=> ?_
 unfold ZMU at h;refine ZAB<|ZAC<|ZAG (v:=enc (0:Int)) rfl<|ZAA<|ZCd (fun φ s=>∃(x1:UInt64) (n:Int),Fx φ [(0,(enc x1)),(2,(enc n))]∧ZGa x1 n=some r) ?_ ?_
 ·refine ZAB ?_
  refine ZAC<|ZAE rfl<|ZAJ (v:=enc (decide (((x).toNat:Int)≥4294967296))) rfl rfl rfl<|ZAA ?_
  split at h
  ·rename_i c';refine ZAH rfl c'<|ZAB<|ZAC<|ZAE rfl<|ZF2 rfl rfl rfl (ZJL 32 (by have:=x.toNat_lt;omega))<|ZAG rfl<|ZAA<|ZAC<|ZAG (v:=enc (32:Int)) rfl<|ZAA ?_
   exact⟨(UInt64.ofInt ((((x).toNat:Int)).fdiv (2 ^ 32))),32,FxR rfl,h⟩
  rename_i c';refine ZAI rfl c'<|ZAL ?_
  exact⟨x,0,FxR rfl,h⟩
 rintro φ s ⟨x1,n,hF,h⟩;rw[←hF.eq];unfold ZGa at h;refine ZCd (fun φ s=>∃(x2:UInt64) (n1:Int),Fx φ [(0,(enc x2)),(2,(enc n1))]∧ZGZ x2 n1=some r) ?_ ?_
 ·refine ZAB ?_
  refine ZAC<|ZAE rfl<|ZAJ (v:=enc (decide (((x1).toNat:Int)≥65536))) rfl rfl rfl<|ZAA ?_
  split at h
  ·rename_i c';refine ZAH rfl c'<|ZAB<|ZAC<|ZAE rfl<|ZF2 rfl rfl rfl (ZJL 16 (by have:=x1.toNat_lt;omega))<|ZAG rfl<|ZAA<|ZAC<|ZAE rfl<|ZAJ (v:=enc (IntKind.i64.wrap (n+16))) rfl rfl rfl<|ZAG rfl<|ZAA ?_
   exact⟨(UInt64.ofInt ((((x1).toNat:Int)).fdiv (2 ^ 16))),(IntKind.i64.wrap (n+16)),FxR rfl,h⟩
  rename_i c';refine ZAI rfl c'<|ZAL ?_
  exact⟨x1,n,FxR rfl,h⟩
 rintro φ s ⟨x2,n1,hF,h⟩;rw[←hF.eq];unfold ZGZ at h;refine ZCd (fun φ s=>∃(x3:UInt64) (n2:Int),Fx φ [(0,(enc x3)),(2,(enc n2))]∧ZGY x3 n2=some r) ?_ ?_
 ·refine ZAB ?_
  refine ZAC<|ZAE rfl<|ZAJ (v:=enc (decide (((x2).toNat:Int)≥256))) rfl rfl rfl<|ZAA ?_
  split at h
  ·rename_i c';refine ZAH rfl c'<|ZAB<|ZAC<|ZAE rfl<|ZF2 rfl rfl rfl (ZJL 8 (by have:=x2.toNat_lt;omega))<|ZAG rfl<|ZAA<|ZAC<|ZAE rfl<|ZAJ (v:=enc (IntKind.i64.wrap (n1+8))) rfl rfl rfl<|ZAG rfl<|ZAA ?_
   exact⟨(UInt64.ofInt ((((x2).toNat:Int)).fdiv (2 ^ 8))),(IntKind.i64.wrap (n1+8)),FxR rfl,h⟩
  rename_i c';refine ZAI rfl c'<|ZAL ?_
  exact⟨x2,n1,FxR rfl,h⟩
 rintro φ s ⟨x3,n2,hF,h⟩;rw[←hF.eq];unfold ZGY at h;refine ZAB<|ZAC<|ZAE rfl<|ZAE rfl<|ZNg underlying178 underlying5 rfl ?_
 obtain⟨c,hx,h⟩:=bs h;refine ZFm underlying9 rfl rfl hx<|ZPu underlying5 underlying3 rfl ?_
 rw[ZG3];refine ZAJ (v:=enc (IntKind.i64.wrap (n2+((c).toNat:Int)))) rfl rfl rfl<|ZAG rfl<|ZAA<|ZAN ?_
 rw[←oi h];exact⟨rfl,KE1 (a:=((IntKind.i64.wrap (n2+((c).toNat:Int))):Int)) rfl rfl (rfl:is _ ((IntKind.i64.wrap (n2+((c).toNat:Int))):Int)) (rfl:is _ ((IntKind.i64.wrap (n2+((c).toNat:Int))):Int))⟩
theorem ZS6:ZAq Tryz.prog 136 (fun _=>Fn (fun a:UInt64×Unit=>ZMU a.1)):=fnC ZT2 ⟨_,func136,rfl⟩<|fun a r h=>ZS5 a.1 r h
noncomputable def py8:Prims:=py7.add 136 (Fn (fun a:UInt64×Unit=>ZMU a.1))
theorem ZT3:ZAX Tryz.prog py8:=ZAn ZT2 ZS6
theorem ZP2 (x:UInt64) (r:Int) (h:ZFQ x=some r):MF Tryz.prog py8 125 [enc x] s0 fun v _=>ris v r:=by
 refine ZAh [(0,enc x)] func125 rfl (by simp only[Tryz.f125];rfl) fun ψ=> ?_
 unfold ZFQ at h;refine ZAB<|ZAC<|ZAG (v:=enc (0:Int)) rfl<|ZAA<|ZAB<|ZAC<|ZAE rfl ?_
 obtain⟨r_,hx,h⟩:=bs h;refine ZCr (f:=fun a:UInt64×Unit=>ZMU a.1) (a:=(x,())) rfl func136 rfl rfl (.cons (a:=x) (Enc.self _) .nil) hx<|ZAJ (v:=enc (IntKind.i64.wrap (r_+7))) rfl rfl rfl<|ZAJ (v:=enc (IntKind.i64.wrap ((IntKind.i64.wrap (r_+7)) - 1))) rfl rfl rfl<|ZAJ (v:=enc (IntKind.i64.wrap (((IntKind.i64.wrap ((IntKind.i64.wrap (r_+7)) - 1))).tdiv 7))) rfl rfl rfl<|ZU3 rfl rfl<|ZAG rfl<|ZAA<|ZAN ?_
 rw[←oi h];exact⟨rfl,KE1 (a:=((imax 1 (IntKind.i64.wrap (((IntKind.i64.wrap ((IntKind.i64.wrap (r_+7)) - 1))).tdiv 7))):Int)) rfl rfl (rfl:is _ ((imax 1 (IntKind.i64.wrap (((IntKind.i64.wrap ((IntKind.i64.wrap (r_+7)) - 1))).tdiv 7))):Int)) (rfl:is _ ((imax 1 (IntKind.i64.wrap (((IntKind.i64.wrap ((IntKind.i64.wrap (r_+7)) - 1))).tdiv 7))):Int))⟩
theorem ZP3:ZAq Tryz.prog 125 (fun _=>Fn (fun a:UInt64×Unit=>ZFQ a.1)):=fnC ZT3 ⟨_,func125,rfl⟩<|fun a r h=>ZP2 a.1 r h
noncomputable def py9:Prims:=py8.add 125 (Fn (fun a:UInt64×Unit=>ZFQ a.1))
theorem ZT4:ZAX Tryz.prog py9:=ZAn ZT3 ZP3
theorem ZP4 (n:Int) (x:(PtrC ZAd)) (r:Bool) (h:ZF3 n x=some r):MF Tryz.prog py9 88 [enc n,enc x] s0 fun v _=>ris v r:=by
 refine ZAh [(0,enc n),(1,enc x)] func88 rfl (by simp only[Tryz.f88];rfl) fun ψ=> ?_
 unfold ZF3 at h;refine ZAB<|ZAC<|ZAG (v:=enc false) rfl<|ZAA<|ZAB<|ZAC<|ZAE rfl<|ZAJ (v:=enc (decide (n<0))) rfl rfl rfl<|ZAE rfl ?_
 obtain⟨b,hb_b,h⟩:=bs h;refine ZAS 3 (fun φ s=>Fx φ [(0,(enc n)),(1,(enc (x:(PtrC ZAd)))),(9,(enc b))]) ?_ ?_
 ·split at hb_b
  ·rename_i cg;refine ZAD rfl rfl (by simpa using cg)<|ZAD rfl rfl (by simpa using cg)<|ZAa (v:=enc true) rfl cg rfl<|ZAA ?_
   rw[←oi hb_b];exact(FxR rfl)
  rename_i cg1;refine ZAF rfl rfl (by simpa using cg1)<|ZAE rfl<|ZAF rfl rfl (by simpa using cg1)<|ZAJ (v:=enc (decide (n > 1024))) rfl rfl rfl<|ZAZ rfl cg1 rfl<|ZAA ?_
  rw[←oi hb_b];exact(FxR rfl)
 rintro φ s hF;rw[←hF.eq];refine ZAE rfl ?_
 obtain⟨b1,hb_b1,h⟩:=bs h;refine ZAS 7 (fun φ s=>Fx φ [(17,(enc b1))]) ?_ ?_
 ·split at hb_b1
  ·rename_i cg2;refine ZAD rfl rfl (by simpa using cg2)<|ZAD rfl rfl (by simpa using cg2)<|ZAD rfl rfl (by simpa using cg2)<|ZAP rfl rfl<|ZAP rfl rfl<|ZAD rfl rfl (by simpa using cg2)<|ZAa (v:=enc true) rfl cg2 rfl<|ZAA ?_
   rw[←oi hb_b1];exact(FxR rfl)
  rename_i cg3;refine ZAF rfl rfl (by simpa using cg3)<|ZCT ZNj Sz rfl (PtrC.ep (Enc.self x)) fun p hp=>ZAF rfl rfl (by simpa using cg3)<|ZBQ ag4 rfl hp fun y hy=> ?_
  cases hy;refine ZAF rfl rfl (by simpa using cg3)<|ZAE rfl ?_
  obtain⟨b2,hb_b2,hb_b1⟩:=bs hb_b1;refine ZAS 3 (fun φ s=>Fx φ [(10,(enc b)),(16,(enc b2))]) ?_ ?_
  ·split at hb_b2
   ·rename_i cg4;refine ZAF rfl rfl cg4<|ZAE rfl<|ZAF rfl rfl cg4<|ZAJ (v:=enc (n==0)) rfl rfl rfl<|ZAF rfl rfl (by simpa using cg3)<|ZAa rfl cg4 rfl<|ZAA ?_
    rw[←oi hb_b2];exact(FxR rfl)
   rename_i cg5;refine ZAD rfl rfl cg5<|ZAD rfl rfl cg5<|ZAF rfl rfl (by simpa using cg3)<|ZAZ (v:=enc false) rfl cg5 rfl<|ZAA ?_
   rw[←oi hb_b2];exact(FxR rfl)
  rintro φ s hF;rw[←hF.eq];refine ZAZ rfl cg3 rfl<|ZAA ?_
  rw[←oi hb_b1];exact(FxR rfl)
 rintro φ s hF;rw[←hF.eq];refine ZAG rfl<|ZAA<|ZAN ?_
 rw[←oi h];exact⟨rfl,KE1 (a:=b1) rfl rfl (rfl:is _ b1) (rfl:is _ b1)⟩
theorem ZP5:ZAq Tryz.prog 88 (fun _=>Fn (fun a:Int×(PtrC ZAd)×Unit=>ZF3 a.1 a.2.1)):=fnC ZT4 ⟨_,func88,rfl⟩<|fun a r h=>ZP4 a.1 a.2.1 r h
noncomputable def py10:Prims:=py9.add 88 (Fn (fun a:Int×(PtrC ZAd)×Unit=>ZF3 a.1 a.2.1))
theorem ZRL:ZAX Tryz.prog py10:=ZAn ZT4 ZP5
theorem ZIS (s_:(List Int)) (f:(Clo 88 ((PtrC ZAd)×Unit))) (r:Int) (h:ZBy s_ f=some r):MF Tryz.prog py10 112 [enc s_,enc f] s0 fun v _=>ris v r:=by
 refine ZAh [(0,enc s_),(1,enc f)] func112 rfl (by simp only[Tryz.f112];rfl) fun ψ=> ?_
 unfold ZBy at h;refine ZAB<|ZAC<|ZAG (v:=enc (0:Int)) rfl<|ZAA<|ZAB<|ZAB<|ZAC<|ZAE rfl<|ZAo underlying44 rfl rfl (Enc.self s_)<|ZAE (v:=enc (0:Int)) rfl<|ZAA<|ZAQ ?_
 obtain⟨o,hl,h⟩:=bs h;refine ZAk (fun(p:Int) φ s=>match p with | v=>Fx φ [(0,(enc (s_:(List Int)))),(1,(enc (f:(Clo 88 ((PtrC ZAd)×Unit))))),(7,(enc ((s_.length:Int):Int))),(8,(enc v))]) (fun(o:(Unit ⊕ Int)) e φ s=>match o with | (.inl _)=>e= .exit 0∧Fx φ [] | (.inr v1)=>e= .ret∧Fx φ [(4,(enc v1))]) ?_ hl (FxR rfl) ?_
 ·rintro v o h φ s hF;rw[←hF.eq];rw[ZDm] at h;refine ZAB<|ZAC<|ZAJ (v:=enc (decide (v<(s_.length:Int)))) rfl rfl rfl<|ZAA<|ZAB ?_
  split at h
  ·rename_i c';refine ZAH rfl c'<|ZAL<|ZAB<|ZAQ<|ZAB<|ZAC<|ZAE rfl<|ZAG rfl<|ZAA<|ZAB<|ZAC<|ZAE rfl<|ZAE rfl<|ZAE rfl ?_
   obtain⟨v2,hx,h⟩:=bs h;refine ZAu underlying44 sh3 rfl rfl (Enc.self s_) hx fun p hp=>ZB8 rfl ag3 rfl hp fun y hy=> ?_
   cases hy;obtain⟨r_,hx1,h⟩:=bs h;refine ZTu (f:=fun a:Int×(PtrC ZAd)×Unit=>ZF3 a.1 a.2.1) (a:=(v2,f.cap)) rfl func88 rfl rfl (Enc.self f) rfl (fun _ h=>(.cons (a:=v2) (rfl:is _ v2) h)) hx1<|ZAA ?_
   split at h
   ·rename_i c';refine ZAH rfl c'<|ZAB<|ZAC<|ZAE rfl<|ZAG rfl<|ZAA<|ZAN ?_
    show if _ then _ else _
    rw[if_neg (by simp)]
    rw[←oi h];exact⟨_,rfl,rfl,FxR rfl⟩
   rename_i c';refine ZAI rfl c'<|ZAL<|ZAC<|ZAJ (v:=enc (IntKind.i64.wrap (v+1))) rfl rfl rfl<|ZAE rfl<|ZAA ?_
   rw[←oi h];exact⟨_,rfl,FxR rfl⟩
  rename_i c';refine ZAI rfl c'<|ZAf ?_
  rw[←oi h];exact⟨_,rfl,rfl,trivial⟩
 intro e φ s hE;rcases o with _u | v1
 ·obtain⟨rfl,hF⟩:=hE;rw[←hF.eq];rw[ZDn] at h;show if _ then _ else _
  rw[if_pos rfl];refine ZAB<|ZAC<|ZAG (v:=enc ((-1):Int)) rfl<|ZAA<|ZAN ?_
  rw[←oi h];exact⟨rfl,KE1 (a:=((-1):Int)) rfl rfl (rfl:is _ ((-1):Int)) (rfl:is _ ((-1):Int))⟩
 obtain⟨rfl,hF⟩:=hE;rw[←hF.eq];rw[ZDn] at h;show if _ then _ else _
 rw[if_neg (by simp)]
 rw[←oi h];exact⟨rfl,KE1 (a:=v1) rfl rfl (rfl:is _ v1) (rfl:is _ v1)⟩
theorem ZIT:ZAq Tryz.prog 112 (fun _=>Fn (fun a:(List Int)×(Clo 88 ((PtrC ZAd)×Unit))×Unit=>ZBy a.1 a.2.1)):=fnC ZRL ⟨_,func112,rfl⟩<|fun a r h=>ZIS a.1 a.2.1 r h
noncomputable def py11:Prims:=py10.add 112 (Fn (fun a:(List Int)×(Clo 88 ((PtrC ZAd)×Unit))×Unit=>ZBy a.1 a.2.1))
theorem ZRM:ZAX Tryz.prog py11:=ZAn ZRL ZIT
theorem ZHW (s_:(List Int)) (f:(Clo 88 ((PtrC ZAd)×Unit))) (r:Bool) (h:ZBH s_ f=some r):MF Tryz.prog py11 90 [enc s_,enc f] s0 fun v _=>ris v r:=by
 refine ZAh [(0,enc s_),(1,enc f)] func90 rfl (by simp only[Tryz.f90];rfl) fun ψ=> ?_
 unfold ZBH at h;refine ZAB<|ZAC<|ZAG (v:=enc false) rfl<|ZAA<|ZAB<|ZAC<|ZAE rfl<|ZAE rfl ?_
 obtain⟨r_,hx,h⟩:=bs h;refine ZCr (f:=fun a:(List Int)×(Clo 88 ((PtrC ZAd)×Unit))×Unit=>ZBy a.1 a.2.1) (a:=(s_,f,())) rfl func112 rfl rfl (.cons (a:=s_) (Enc.self s_) (.cons (a:=(f:(Clo 88 ((PtrC ZAd)×Unit)))) (Enc.self f) .nil)) hx<|ZAJ (v:=enc (decide (r_≥0))) rfl rfl rfl<|ZAG rfl<|ZAA<|ZAN ?_
 rw[←oi h];exact⟨rfl,KE1 (a:=((decide (r_≥0)):Bool)) rfl rfl (rfl:is _ ((decide (r_≥0)):Bool)) (rfl:is _ ((decide (r_≥0)):Bool))⟩
theorem ZHX:ZAq Tryz.prog 90 (fun _=>Fn (fun a:(List Int)×(Clo 88 ((PtrC ZAd)×Unit))×Unit=>ZBH a.1 a.2.1)):=fnC ZRM ⟨_,func90,rfl⟩<|fun a r h=>ZHW a.1 a.2.1 r h
noncomputable def py12:Prims:=py11.add 90 (Fn (fun a:(List Int)×(Clo 88 ((PtrC ZAd)×Unit))×Unit=>ZBH a.1 a.2.1))
theorem ZRN:ZAX Tryz.prog py12:=ZAn ZRM ZHX
theorem ZNl (e_:Int) (r:(Err 154)) (h:ZDM e_=some r):MF Tryz.prog py12 74 [enc e_] s0 fun v _=>ris v r:=by
 refine ZAh [(0,enc e_)] func74 rfl (by simp only[Tryz.f74];rfl) fun ψ=> ?_
 unfold ZDM at h;refine ZAB<|ZAC<|ZAG (v:= .nifc) rfl<|ZAA<|ZAB<|ZAC<|ZAE rfl<|ZBZ (r0:=((0:Int),())) ZXQ ZXO ZXP rfl rfl (r:=(e_,())) (.cons (z:=e_) Sz (rfl:is _ e_) .nil) fun y hy=>ZA5 (r:=(Rec.mk (e_,()):ZId)) rfl hy Hp.nil fun m xs s hxs hs=>ZNi (q:=5) (r:=(Rec.mk (e_,()):ZId)) rfl hxs hs fun z s hz hs=>ZWH (t:=154) (r:=(Rec.mk (e_,()):ZId)) (by kernel_rfl) rfl hz<|ZAG rfl<|ZAA<|ZAN ?_
 rw[←oi h];exact⟨rfl,KE1 (a:=((Err.mk (some e_):Err 154):(Err 154))) rfl rfl (Enc.self _) (Enc.self _)⟩
theorem ZNm:ZAq Tryz.prog 74 (fun _=>Fn (fun a:Int×Unit=>ZDM a.1)):=fnC ZRN ⟨_,func74,rfl⟩<|fun a r h=>ZNl a.1 r h
noncomputable def py13:Prims:=py12.add 74 (Fn (fun a:Int×Unit=>ZDM a.1))
theorem ZJN:ZAX Tryz.prog py13:=ZAn ZRN ZNm
theorem ZH1 (x:UInt64) (r:(List UInt8)) (h:ZG4 x=some r) {s:St} {enF:En} {G:Glob} (hs:Hp s [enF,(.gl G)]):MF Tryz.prog py13 109 [(enc x)] s fun v s' =>∃en',isM v en' r∧Hp s' [en',enF, .gl G]:=by
 refine ZB9 [(0,(enc x))] func109 rfl (by simp only[Tryz.f109];rfl) fun ψ=> ?_
 unfold ZG4 at h;refine ZAB<|ZAC<|ZAG (v:= .nils) rfl<|ZAA<|ZAB<|ZAC<|ZAE rfl ?_
 obtain⟨r_,hx,h⟩:=bs h;refine ZCr (f:=fun a:UInt64×Unit=>ZFQ a.1) (a:=(x,())) rfl func125 rfl rfl (.cons (a:=x) (Enc.self _) .nil) hx ?_
 obtain⟨l,hx1,h⟩:=bs h;refine ZSt underlying42 ef5 ze5 rfl rfl hx1 hs fun z en s hz hs=>ZAG (v:=z) rfl<|ZAA<|ZAB<|ZAB<|ZAC<|ZAE (v:=z) rfl<|ZQ7 underlying42 rfl rfl hz<|ZAE (v:=enc (0:Int)) rfl<|ZAA<|ZAQ ?_
 obtain⟨out_1,hl,h⟩:=bs h;refine ZAk (fun(p:((List UInt8)×Int)) φ s=>match p with | (out_,v)=>∃(x_out_:AV) (en1:En),isM x_out_ en1 out_∧Fx φ [(0,(enc x)),(3,x_out_),(9,(enc ((l.length:Int):Int))),(10,(enc v))]∧Hp s [enF,(.gl G),en1]) (fun(o:(List UInt8)) e φ s=>match o with | out_1=>e= .exit 0∧∃(x_out_1:AV) (en2:En),isM x_out_1 en2 out_1∧Fx φ [(3,x_out_1)]∧Hp s [enF,(.gl G),en2]) ?_ hl ⟨z,en,hz,FxR rfl,(Hp.front [(.gl G),en] (b:=[]) (Hp.front [en,enF] (b:=[]) (Hp.front [] (b:=[enF,(.gl G)]) hs)))⟩ ?_
 ·rintro⟨out_,v⟩ o h φ s ⟨x_out_,en1,hm_x_out_,hF,hs⟩;rw[←hF.eq];rw[ZH0] at h;refine ZAB<|ZAC<|ZAJ (v:=enc (decide (v<(l.length:Int)))) rfl rfl rfl<|ZAA<|ZAB ?_
  split at h
  ·rename_i c';refine ZAH rfl c'<|ZAL<|ZAB<|ZAQ<|ZAB<|ZAC<|ZAE rfl<|ZAG rfl<|ZAA<|ZAC<|ZAE (v:=x_out_) rfl<|ZAE rfl<|ZAE rfl<|ZAE rfl<|ZAJ (v:=enc (IntKind.i64.wrap (7*v))) rfl rfl rfl ?_
   obtain⟨u,hx2,h⟩:=bs h;refine ZVD (a:=x) (i:=IntKind.i64.wrap (7*v)) rfl rfl hx2<|ZNg underlying178 underlying5 rfl<|ZQ4 rfl rfl rfl ?_
   obtain⟨v1,hx3,h⟩:=bs h;refine ZQ6 underlying42 sh5 rfl rfl hm_x_out_ (ZDL hx3).1 (ZDL hx3).2.1 fun p hp=> ?_
   replace hs:=Hp.front [enF,(.gl G)] (b:=[]) hs;refine ZTo (a:=((UInt8.ofInt (ZSq .u8 (((UInt8.ofInt ((u).toNat:Int))).toNat:Int) 128)):UInt8)) rfl rfl hp hm_x_out_ (ZTp hx3) (rfl:is _ ((UInt8.ofInt (ZSq .u8 (((UInt8.ofInt ((u).toNat:Int))).toNat:Int) 128)):UInt8)) sz5 hs fun en3 s hm hs=>ZAA<|ZAC<|ZAJ (v:=enc (IntKind.i64.wrap (v+1))) rfl rfl rfl<|ZAE rfl<|ZAA ?_
   rw[←oi h];exact⟨_,rfl,⟨x_out_,en3,hm,FxR rfl,(Hp.front [(.gl G),en3] (b:=[]) (Hp.front [en3,enF] (b:=[]) (Hp.front [] (b:=[enF,(.gl G)]) hs)))⟩⟩
  rename_i c';refine ZAI rfl c'<|ZAf ?_
  rw[←oi h];exact⟨_,rfl,rfl,⟨x_out_,en1,hm_x_out_,FxR rfl,hs⟩⟩
 intro e φ s hE;obtain⟨rfl,x_out_1,en2,hm_x_out_1,hF,hs⟩:=hE;rw[←hF.eq];rw[ZKU] at h;show if _ then _ else _
 rw[if_pos rfl];refine ZAB<|ZAC<|ZAE (v:=x_out_1) rfl<|ZAE (v:=x_out_1) rfl<|ZQ7 underlying42 rfl rfl hm_x_out_1<|ZAJ (v:=enc (IntKind.i64.wrap ((out_1.length:Int) - 1))) rfl rfl rfl ?_
 obtain⟨v2,hx4,h⟩:=bs h;refine ZQ6 underlying42 sh5 rfl rfl hm_x_out_1 (ZDL hx4).1 (ZDL hx4).2.1 fun p1 hp1=> ?_
 replace hs:=Hp.front [enF,(.gl G)] (b:=[]) hs;refine ZWA rfl ag5 rfl hp1 hm_x_out_1 hx4 hs fun y hy=> ?_
 cases hy;refine ZQ4 rfl rfl rfl ?_
 obtain⟨v3,hx5,h⟩:=bs h;refine ZQ6 underlying42 sh5 rfl rfl hm_x_out_1 (ZDL hx5).1 (ZDL hx5).2.1 fun p2 hp2=>ZTo (a:=((UInt8.ofInt (ZJH .u8 ((v2).toNat:Int) 128)):UInt8)) rfl rfl hp2 hm_x_out_1 (ZTp hx5) (rfl:is _ ((UInt8.ofInt (ZJH .u8 ((v2).toNat:Int) 128)):UInt8)) sz5 hs fun en4 s hm1 hs=>ZAA<|ZAB<|ZAC<|ZAE (v:=x_out_1) rfl<|ZAG (v:=x_out_1) rfl<|ZAA<|ZAN ?_
 rw[←oi h];exact⟨rfl,KN1 rfl rfl ⟨_,hm1,hs⟩⟩
theorem ZMV (b:(List UInt8)) (r:(List UInt8)) (h:ZCs b=some r):MF Tryz.prog py13 110 [enc b] s0 fun v _=>ris v r:=by
 refine ZAh [(0,enc b)] func110 rfl (by simp only[Tryz.f110];rfl) fun ψ=> ?_
 unfold ZCs at h;refine ZAB<|ZAC<|ZAG (v:= .nils) rfl<|ZAA<|ZAB<|ZAC<|ZAE rfl<|ZAo underlying42 rfl rfl (Enc.self b)<|ZIb underlying3 underlying178 rfl ?_
 obtain⟨r_,hx,h⟩:=bs h;refine ZAt (by kernel_rfl) func109 rfl (vs:=[(enc ((UInt64.ofInt (b.length:Int)):UInt64))]) rfl (MF.any (ZH1 (UInt64.ofInt (b.length:Int)) _ hx (Hp.packG [] [] Hp.nil)) ZJN) fun w s ⟨en,hm,hq_⟩=> ?_
 replace hs:=Hp.unpackG [] [en] [] Hp.nil hq_;refine ZAE rfl ?_
 obtain⟨l,hx1,h⟩:=bs h;refine ZJK underlying42 underlying42 rfl rfl ef5 rfl rfl (isM.ap hm) (Enc.self b) hx1 hs fun z en1 s hz hs=>ZJJ (q:=8) rfl hz hs fun z1 s hz1 hs=>ZAG (v:=z1) rfl<|ZAA<|ZAN ?_
 rw[←oi h];exact⟨rfl,KE1 (a:=l) rfl rfl hz1 hz1⟩
theorem ZMW:ZAq Tryz.prog 110 (fun _=>Fn (fun a:(List UInt8)×Unit=>ZCs a.1)):=fnC ZJN ⟨_,func110,rfl⟩<|fun a r h=>ZMV a.1 r h
noncomputable def py14:Prims:=py13.add 110 (Fn (fun a:(List UInt8)×Unit=>ZCs a.1))
theorem ZEo:ZAX Tryz.prog py14:=ZAn ZJN ZMW
theorem ZCf (b:(List UInt8)) (fields:(List AnyV)) (r:(List UInt8)) (h:ZDo b fields=some r) {x_b:AV} {en_b:En} (hm_b:isM x_b en_b b) {x_fields:AV} (hy_fields:is x_fields fields) {s:St} {enF:En} {G:Glob} (hs:Hp s [en_b,enF,(.gl G)]):MF Tryz.prog py14 87 [x_b,x_fields] s fun v s' =>∃en',isM v en' r∧Hp s' [en',enF, .gl G]:=by
 refine ZB9 [(0,x_b),(1,x_fields)] func87 rfl (by simp only[Tryz.f87];rfl) fun ψ=> ?_
 unfold ZDo at h;refine ZAB<|ZAC<|ZAG (v:= .nils) rfl<|ZAA<|ZAB<|ZAB<|ZAC<|ZAE (v:=x_fields) rfl<|ZAo underlying176 rfl rfl hy_fields<|ZAE (v:=enc (0:Int)) rfl<|ZAA<|ZAQ ?_
 obtain⟨b2,hl,h⟩:=bs h;refine ZAk (fun(p:((List UInt8)×Int)) φ s=>match p with | (b1,v)=>∃(x_b1:AV) (en:En),isM x_b1 en b1∧Fx φ [(0,x_b1),(15,x_fields),(16,(enc ((fields.length:Int):Int))),(17,(enc v))]∧Hp s [enF,(.gl G),en]) (fun(o:(List UInt8)) e φ s=>match o with | b2=>e= .exit 0∧∃(x_b2:AV) (en1:En),isM x_b2 en1 b2∧Fx φ [(0,x_b2)]∧Hp s [enF,(.gl G),en1]) ?_ hl ⟨x_b,en_b,hm_b,FxR rfl,(Hp.front [(.gl G),en_b] (b:=[]) (Hp.front [en_b,enF] (b:=[]) (Hp.front [] (b:=[enF,(.gl G)]) hs)))⟩ ?_
 ·rintro⟨b1,v⟩ o h φ s ⟨x_b1,en,hm_x_b1,hF,hs⟩;rw[←hF.eq];rw[ZGc] at h;refine ZAB<|ZAC<|ZAJ (v:=enc (decide (v<(fields.length:Int)))) rfl rfl rfl<|ZAA<|ZAB ?_
  split at h
  ·rename_i c';refine ZAH rfl c'<|ZAL<|ZCd (fun φ s=>∃(b3:(List UInt8)) (x_b3:AV) (en2:En),isM x_b3 en2 b3∧Fx φ [(0,x_b3),(15,x_fields),(16,(enc ((fields.length:Int):Int))),(17,(enc v))]∧Hp s [enF,(.gl G),en2]∧ZCL v b3=some o) ?_ ?_
   ·refine ZAQ ?_
    refine ZAB<|ZAC ?_
    obtain⟨v1,hx,h⟩:=bs h;refine ZAu underlying176 sh20 rfl rfl hy_fields hx fun p hp=>ZB8 rfl ag20 rfl hp fun y hy=>ZAG (v:=y) rfl<|ZAA<|ZAB<|ZAC<|ZAE (v:=y) rfl<|ZAA<|ZAQ<|ZAB<|ZAC ?_
    obtain⟨as_,hx1,h⟩:=bs h;refine ZRG (by kernel_rfl) ze3 rfl hy hx1 fun z hz=> ?_
    cases hz;refine ZAy rfl rfl<|ZAy rfl rfl<|ZAA ?_
    split at h
    ·rename_i c';refine ZAH rfl c'<|ZAB<|ZAC<|ZAG rfl<|ZAA<|ZAC<|ZAE (v:=x_b1) rfl<|ZAE rfl<|ZIb underlying3 underlying178 rfl ?_
     obtain⟨r_,hx2,h⟩:=bs h;refine ZAt (by kernel_rfl) func109 rfl (vs:=[(enc ((UInt64.ofInt as_.1):UInt64))]) rfl (MF.any (ZH1 (UInt64.ofInt as_.1) _ hx2 (Hp.packG [] [enF,(.gl G),en] hs)) ZJN) fun w s ⟨en3,hm,hq_⟩=> ?_
     replace hs:=Hp.unpackG [] [en3] [enF,(.gl G),en] hs hq_;refine ZJJ (q:=28) rfl hm hs fun z1 s hz1 hs=> ?_
     replace hs:=Hp.front [enF,(.gl G)] (b:=[]) hs;obtain⟨l,hx3,h⟩:=bs h;refine ZJK underlying42 underlying42 rfl rfl ef5 rfl rfl (isM.ap hm_x_b1) hz1 hx3 hs fun z2 en4 s hz2 hs=>ZAG (v:=z2) rfl<|ZAA ?_
     exact⟨l,z2,en4,hz2,FxR rfl,(Hp.front [(.gl G),en4] (b:=[]) (Hp.front [en4,enF] (b:=[]) (Hp.front [] (b:=[enF,(.gl G)]) hs))),h⟩
    rename_i c';refine ZAI rfl c'<|ZAB<|ZAC ?_
    obtain⟨as_1,hx4,h⟩:=bs h;refine ZRG (by kernel_rfl) ze9 rfl hy hx4 fun z3 hz3=> ?_
    cases hz3;refine ZAy rfl rfl<|ZAy rfl rfl<|ZAA ?_
    split at h
    ·rename_i c';refine ZAH rfl c'<|ZAB<|ZAC<|ZAG rfl<|ZAA<|ZAC<|ZAE (v:=x_b1) rfl<|ZAE rfl ?_
     obtain⟨l1,hx5,h⟩:=bs h;refine ZVE (tx:=as_1.1) underlying9 underlying42 underlying5 rfl hx5 hs fun z4 s hz4 hz4c hs=> ?_
     obtain⟨r_1,hx6,h⟩:=bs h;refine ZCr (f:=fun a:(List UInt8)×Unit=>ZCs a.1) (a:=(l1,())) rfl func110 rfl rfl (.cons (a:=l1) hz4 .nil) hx6 ?_
     replace hs:=Hp.front [.own z4,enF,(.gl G)] (b:=[]) hs;obtain⟨l2,hx7,h⟩:=bs h;refine ZJK underlying42 underlying42 rfl rfl ef5 rfl rfl (isM.ap hm_x_b1) (Enc.self r_1) hx7 hs fun z5 en5 s hz5 hs=>ZAG (v:=z5) rfl<|ZAA ?_
     exact⟨l2,z5,en5,hz5,FxR rfl,(Hp.front [(.gl G),en5] (b:=[]) (Hp.front [en5,enF] (b:=[]) (Hp.front [] (b:=[enF,(.gl G)]) (Hp.drop [en5] (b:=[enF,(.gl G)]) hs)))),h⟩
    rename_i c';refine ZAI rfl c'<|ZAB<|ZAC ?_
    obtain⟨as_2,hx8,h⟩:=bs h;refine ZRG (by kernel_rfl) ze42 rfl hy hx8 fun z6 hz6=>ZAy rfl rfl<|ZAy rfl rfl<|ZAA ?_
    split at h
    ·rename_i c';refine ZAH rfl c'<|ZAB<|ZAC<|ZAG (v:=z6) rfl<|ZAA<|ZAC<|ZAE (v:=x_b1) rfl<|ZAE (v:=z6) rfl ?_
     obtain⟨r_2,hx9,h⟩:=bs h;refine ZCr (f:=fun a:(List UInt8)×Unit=>ZCs a.1) (a:=(as_2.1,())) rfl func110 rfl rfl (.cons (a:=as_2.1) hz6 .nil) hx9 ?_
     replace hs:=Hp.front [enF,(.gl G)] (b:=[]) hs;obtain⟨l3,hx10,h⟩:=bs h;refine ZJK underlying42 underlying42 rfl rfl ef5 rfl rfl (isM.ap hm_x_b1) (Enc.self r_2) hx10 hs fun z7 en6 s hz7 hs=>ZAG (v:=z7) rfl<|ZAA ?_
     exact⟨l3,z7,en6,hz7,FxR rfl,(Hp.front [(.gl G),en6] (b:=[]) (Hp.front [en6,enF] (b:=[]) (Hp.front [] (b:=[enF,(.gl G)]) hs))),h⟩
    rename_i c';refine ZAI rfl c'<|ZAB<|ZAC ?_
    obtain⟨as_3,hx11,h⟩:=bs h;refine ZRG (by kernel_rfl) ZXN rfl hy hx11 fun z8 hz8=> ?_
    cases hz8;refine ZAy rfl rfl<|ZAy rfl rfl<|ZAA ?_
    split at h
    ·rename_i c';refine ZAH rfl c'<|ZAB<|ZAC<|ZAG rfl<|ZAA<|ZAB<|ZAC<|ZAE rfl ?_
     cases h
    rename_i c';refine ZAI rfl c'<|ZAB<|ZAC ?_
    obtain⟨as_4,hx12,h⟩:=bs h;refine ZRG (by kernel_rfl) ze4 rfl hy hx12 fun z9 hz9=> ?_
    cases hz9;refine ZAy rfl rfl<|ZAy rfl rfl<|ZAA ?_
    split at h
    ·rename_i c';refine ZAH rfl c'<|ZAB<|ZAC<|ZAG rfl<|ZAA<|ZAB<|ZAC<|ZAG (v:=enc (0:Int)) rfl<|ZAA<|ZCd (fun φ s=>∃(n:Int),Fx φ [(0,x_b1),(14,(enc n)),(15,x_fields),(16,(enc ((fields.length:Int):Int))),(17,(enc v))]∧Hp s [enF,(.gl G),en]∧ZGb b1 v n=some o) ?_ ?_
     ·refine ZAB ?_
      refine ZAC<|ZAE rfl<|ZAA ?_
      split at h
      ·rename_i c';refine ZAH rfl c'<|ZAC<|ZAG (v:=enc (1:Int)) rfl<|ZAA ?_
       exact⟨1,FxR rfl,hs,h⟩
      rename_i c';refine ZAI rfl c'<|ZAL ?_
      exact⟨0,FxR rfl,hs,h⟩
     rintro φ s ⟨n,hF,hs,h⟩;rw[←hF.eq];unfold ZGb at h;refine ZAC<|ZAE (v:=x_b1) rfl<|ZAE rfl<|ZIb underlying3 underlying178 rfl ?_
     obtain⟨r_3,hx13,h⟩:=bs h;refine ZAt (by kernel_rfl) func109 rfl (vs:=[(enc ((UInt64.ofInt n):UInt64))]) rfl (MF.any (ZH1 (UInt64.ofInt n) _ hx13 (Hp.packG [] [enF,(.gl G),en] hs)) ZJN) fun w1 s ⟨en7,hm1,hq_⟩=> ?_
     replace hs:=Hp.unpackG [] [en7] [enF,(.gl G),en] hs hq_;refine ZJJ (q:=63) rfl hm1 hs fun z10 s hz10 hs=> ?_
     replace hs:=Hp.front [enF,(.gl G)] (b:=[]) hs;obtain⟨l4,hx14,h⟩:=bs h;refine ZJK underlying42 underlying42 rfl rfl ef5 rfl rfl (isM.ap hm_x_b1) hz10 hx14 hs fun z11 en8 s hz11 hs=>ZAG (v:=z11) rfl<|ZAA ?_
     exact⟨l4,z11,en8,hz11,FxR rfl,(Hp.front [(.gl G),en8] (b:=[]) (Hp.front [en8,enF] (b:=[]) (Hp.front [] (b:=[enF,(.gl G)]) hs))),h⟩
    rename_i c';refine ZAI rfl c'<|ZAL ?_
    exact⟨b1,x_b1,en,hm_x_b1,FxR rfl,hs,h⟩
   rintro φ s ⟨b3,x_b3,en2,hm_x_b3,hF,hs,h⟩;rw[←hF.eq];unfold ZCL at h;refine ZAC<|ZAJ (v:=enc (IntKind.i64.wrap (v+1))) rfl rfl rfl<|ZAE rfl<|ZAA ?_
   rw[←oi h];exact⟨_,rfl,⟨x_b3,en2,hm_x_b3,FxR rfl,hs⟩⟩
  rename_i c';refine ZAI rfl c'<|ZAf ?_
  rw[←oi h];exact⟨_,rfl,rfl,⟨x_b1,en,hm_x_b1,FxR rfl,hs⟩⟩
 intro e φ s hE;obtain⟨rfl,x_b2,en1,hm_x_b2,hF,hs⟩:=hE;rw[←hF.eq];rw[ZKV] at h;show if _ then _ else _
 rw[if_pos rfl];refine ZAB<|ZAC<|ZAE (v:=x_b2) rfl<|ZAG (v:=x_b2) rfl<|ZAA<|ZAN ?_
 rw[←oi h];exact⟨rfl,KN1 rfl rfl ⟨_,hm_x_b2,(Hp.front [enF,(.gl G)] (b:=[]) (Hp.front [(.gl G)] (b:=[en1]) (Hp.front [enF] (b:=[en1]) hs)))⟩⟩
end Go.Ai.Rab
end
section
set_option maxRecDepth 100000
open Go.Ai.Enc (enc is)
open Go.Ai.Res (res ris)
open Go.Ai.Args (args)
namespace Go.Proofs
open Go.Shelf
def Tryz.lays196_ren:Go.Shelf.Ren:=⟨fun | 196=>79 | 259=>96 | n=>n,fun | 0=>0 | 3=>3 | 4=>4 | 5=>5 | 9=>9 | 12=>12 | 46=>167 | 53=>178 | 119=>163 | 138=>165 | 139=>166 | n=>n,fun | 3=>0 | 4=>1 | n=>n⟩
theorem Tryz.lays196:Go.Proofs.Lays.n196 Tryz.prog Tryz.lays196_ren:={
 mixed:=by kernel_rfl
 f196:=Tryz.func79.trans (congrArg some (by kernel_rfl))
 f259:=Tryz.func96.trans (congrArg some (by kernel_rfl))
 t0:=Tryz.underlying0
 a0:=Tryz.isAgg0
 z0:=Tryz.sizeOf0
 v0:=Tryz.zeroValue0
 t3:=Tryz.underlying3
 a3:=Tryz.isAgg3
 z3:=Tryz.sizeOf3
 v3:=Tryz.zeroValue3
 t4:=Tryz.underlying4
 a4:=Tryz.isAgg4
 z4:=Tryz.sizeOf4
 v4:=Tryz.zeroValue4
 t5:=Tryz.underlying5
 a5:=Tryz.isAgg5
 z5:=Tryz.sizeOf5
 v5:=Tryz.zeroValue5
 t9:=Tryz.underlying9
 a9:=Tryz.isAgg9
 z9:=Tryz.sizeOf9
 v9:=Tryz.zeroValue9
 t12:=Tryz.underlying12
 a12:=Tryz.isAgg12
 z12:=Tryz.sizeOf12
 v12:=Tryz.zeroValue12
 t46:=Tryz.underlying167
 a46:=Tryz.isAgg167
 z46:=Tryz.sizeOf167
 v46:=Tryz.zeroValue167
 t53:=Tryz.underlying178
 a53:=Tryz.isAgg178
 z53:=Tryz.sizeOf178
 v53:=Tryz.zeroValue178
 t119:=Tryz.underlying163
 a119:=Tryz.isAgg163
 z119:=Tryz.sizeOf163
 t138:=Tryz.underlying165
 a138:=Tryz.isAgg165
 z138:=Tryz.sizeOf165
 v138:=Tryz.zeroValue165
 t139:=Tryz.underlying166
 a139:=Tryz.isAgg166
 z139:=Tryz.sizeOf166
 v139:=Tryz.zeroValue166
 g3:=by kernel_rfl
 g4:=by kernel_rfl}
theorem Tryz.utf8_ValidString (s:ByteArray) (w:World) (hs:s.size≤9223372036854775807) (hT:Lib.Utf8Tabs 0 1 w):
  Calls Tryz.prog 79 #[.string s] w fun e w' =>e= .returned (.bool (Lib.validD s.data.toList))∧RowKit.Below w.heap.size w w' :=Any.utf8_ValidString Tryz.lays196 s w hs hT
end Go.Proofs
namespace Go.Ai.Rab
open Go.Proofs
def tab0:List AV:=(List.range 256).map fun c=> .int .u8 (Lib.firstT c)
def tab1:List AV:=(List.range 32).map fun c=> .int .u8 (if c % 2=0 then Lib.accLo (c / 2) else Lib.accHi (c / 2))
def NG (mx:Int):Glob:=fun g=>if g=0 then some tab0 else if g=1 then some tab1 else if g=2 then some [.int .i64 mx] else if g=3 then some [.ifc 133 (.agg [.gptr 4 60])] else none
theorem ZOy {w:World} {ρ:Pl} {U:Reg} {c:Nat}:∀{xs:List AV} {vs:List Value},RelL w ρ U c xs vs→∀(i:Nat) (x:AV),xs[i]? =some x→∃v,vs[i]? =some v∧Rel w ρ U c x v
 | [],vs,h,i,x,hx=>by simp at hx
 | y::xs,vs,h,i,x,hx=>by
  simp only[RelL] at h;obtain⟨v,us,rfl,h1,h2⟩:=h
  cases i with
  | zero=>simp at hx;subst hx;exact⟨v,rfl,h1⟩
  | succ i=>exact ZOy h2 i x (by simpa using hx)
theorem ZHY {w:World} {ρ:Pl} {U:Reg} {c:Nat} {G:Glob} (h:GlobOk w ρ U c G) {g i:Nat} {cs:List AV} (hg:G g=some cs) {k:IntKind} {n:Int} (hx:cs[i]? =some (.int k n)):w.cell? ⟨g,i,none⟩=some (.int k n):=by
 obtain⟨_,vs,h1,h2⟩:=h g cs hg;obtain⟨v,e,hv⟩:=ZOy h1 i _ hx;have:=(h2 i v e).1
 simp only[Rel] at hv;rw[this,hv]
theorem ZRO {w:World} {U:Reg} {mx:Int} (h:GlobOk w ρ0 U 0 (NG mx)):Lib.Utf8Tabs 0 1 w∧w.cell? ⟨2,0,none⟩=some (.int .i64 mx):=by
 refine⟨⟨fun c hc=> ?_,fun i hi=>⟨?_,?_⟩⟩,?_⟩
 ·exact ZHY h (g:=0) (cs:=tab0) rfl (by simp[tab0,hc])
 ·exact ZHY h (g:=1) (cs:=tab1) rfl (by
   have e:2*i<32:=by omega
   have e1:2*i % 2=0:=by omega
   have e2:2*i / 2=i:=by omega
   simp[tab1,e,e1,e2])
 ·exact ZHY h (g:=1) (cs:=tab1) rfl (by
   have e:2*i+1<32:=by omega
   have e1:¬(2*i+1) % 2=0:=by omega
   have e2:(2*i+1) / 2=i:=by omega
   simp[tab1,e,e1,e2])
 exact ZHY h (g:=2) (cs:=[.int .i64 mx]) rfl rfl
/-! ### utf8 -/
def ba (s:Str):ByteArray:=⟨List.toArray (show List UInt8 from s)⟩
def utf8_ValidString (s:Str):Option Bool:=if List.length s≤9223372036854775807 then some (Lib.validD s) else none
theorem ZFR {w:World} {ρ:Pl} {U:Reg} {c:Nat} {s:Str} {v:Value} (h:Rel w ρ U c (enc s) v):v= .string (ba s):=by
 have h:Rel w ρ U c (.str s) v:=h
 simp only[Rel] at h;exact h
theorem ZG5 (mx:Int):ZAq Tryz.prog 79 (FnG (NG mx) (fun a:Str×Unit=>utf8_ValidString a.1)):=
 ⟨⟨_,Tryz.func79,rfl⟩,fun G xs v hv w U vs hU hG hr=>by
  obtain⟨rfl,⟨s,u⟩,r,rfl,h1,rfl⟩:=ZIc hv;have h1:utf8_ValidString s=some r:=h1
  unfold utf8_ValidString at h1;split at h1
  ·rename_i hs;injection h1 with h1;subst h1
   simp only[args,RelL] at hr;obtain⟨v1,us,rfl,g1,rfl⟩:=hr;obtain rfl:=ZFR g1;refine(Tryz.utf8_ValidString (ba s) w (by show(List.toArray (show List UInt8 from s)).size≤_;rw[List.size_toArray];exact hs) (ZRO hG).1).mono fun e w' he=> ?_
   exact⟨_,he.1,by show Rel _ _ _ _ (.bool _) _;simp only[Rel];rfl,he.2⟩
  cases h1⟩
end Go.Ai.Rab
end
