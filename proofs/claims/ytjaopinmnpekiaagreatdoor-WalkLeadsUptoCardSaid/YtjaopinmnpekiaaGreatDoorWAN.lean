/- My own texts DevPgL, DevWeq, one behind the other. -/
import Derived.Test.YtjaopinmnpekiaaGreatDoorWAE
import Derived.Test.YtjaopinmnpekiaaGreatDoorWAM
import Derived.Laws.StructEq
set_option linter.unusedVariables false
set_option linter.unusedSimpArgs false
section
set_option maxRecDepth 100000
set_option maxHeartbeats 16000000
attribute [local irreducible] Go.Ai.TC Go.Ai.TO Go.Ai.MF Go.Ai.ZCS Go.Ai.ZBg Go.Ai.encR
open Go.Ai.Enc (enc is)
open Go.Ai.Res (res ris)
open Go.Ai.Args (args)
open Go.Ai.Flds (fe fi fk)
namespace Go.Ai

end Go.Ai
namespace Go.Ai.TTryz
open Go.Proofs

end Go.Ai.TTryz
namespace Go.Ai.Rab
open Go.Proofs TTryz Tryz
noncomputable def ZGG (n:Int) (x:Int) (x1:Bool) (x2:Int):Option (Bool×Bool):=
 ((if x1 then some true else some (n==x2)).bind fun b=>some (b,(!b)))
noncomputable def ZD8 (f:FsR) (v1:Int):(Int×Int×Bool)→Option ((Int×Int×Bool) ⊕ (Bool ⊕ Bool))
 | (num1,v3,v4)=>(if(decide (v3<(IntKind.i64.wrap ((f.v.1.length:Int)+1)))) then((ZBI f num1).bind fun r_2=>((ZGG num1 r_2 v4 v1).bind fun r_3=>((if(!r_3.2) then some true else some (r_2==0)).bind fun b2=>(if b2 then some (.inr (.inr r_3.1)) else some (.inl (r_2,(IntKind.i64.wrap (v3+1)),r_3.1)))))) else some (.inr (.inl v4)))
noncomputable def ZFC:(Bool ⊕ Bool)→Option (Bool)
 | (.inl v5)=>some (v5)
 | (.inr v6)=>some (v6)
noncomputable def ZLH (f:FsR) (num:Int) (v:Bool) (v1:Int):Option (Bool):=
 ((ZA6 f num).bind fun r_=>((if(decide (r_<0)) then some true else((nth f.v.1 r_).bind fun v2=>some (v2.v.2.1 !=2))).bind fun b=>((if b then some true else((ZAw f).bind fun r_1=>some (!r_1))).bind fun b1=>(if b1 then some (v) else((loop (ZD8 f v1) (num,0,v)).bind (ZFC))))))
noncomputable def ZBT (f:FsR) (num:Int) (dir:Int):Option (Bool):=
 ((ZLH f num false dir).bind fun r_=>some (r_))
noncomputable def ZGe (n:Int) (v:(List Str)):Option (Int×(List Str)×Bool):=
 some (n,v,true)
noncomputable def ZJf (n:Int) (above:Int) (x:Int) (x1:FsR) (x2:(List Str)):Option (Int×(List Str)×Bool):=
 (if(decide (above > 0)) then((ZA6 x1 above).bind fun r_=>((nth x1.v.1 r_).bind fun v1=>((ZJd v1.v.2.2.2.2.2.2.2.1 n).bind fun r_1=>((nth v1.v.2.2.2.2.2.2.1 r_1).bind fun v2=>((ZFB x2 0 [v2]).bind fun r_2=>(ZGe n r_2)))))) else(ZGe n x2))
noncomputable def ZDG (f:FsR) (v1:FsR):(Int×Int×Int×(List Str))→Option ((Int×Int×Int×(List Str)) ⊕ ((Int×(List Str)) ⊕ (Int×(List Str))))
 | (num1,v4,v5,v6)=>(if(decide (v4<(IntKind.i64.wrap ((f.v.1.length:Int)+1)))) then((ZBI f num1).bind fun r_2=>((ZJf num1 r_2 v5 v1 v6).bind fun r_3=>((if(!r_3.2.2) then some true else some (r_2==0)).bind fun b2=>(if b2 then some (.inr (.inr (r_3.1,r_3.2.1))) else some (.inl (r_2,(IntKind.i64.wrap (v4+1)),r_3.1,r_3.2.1)))))) else some (.inr (.inl (v5,v6))))
noncomputable def ZD9:((Int×(List Str)) ⊕ (Int×(List Str)))→Option (Int×(List Str))
 | (.inl (v7,v8))=>some (v7,v8)
 | (.inr (v9,v10))=>some (v9,v10)
noncomputable def ZLI (f:FsR) (num:Int) (v:Int) (v1:FsR) (v2:(List Str)):Option (Int×(List Str)):=
 ((ZA6 f num).bind fun r_=>((if(decide (r_<0)) then some true else((nth f.v.1 r_).bind fun v3=>some (v3.v.2.1 !=2))).bind fun b=>((if b then some true else((ZAw f).bind fun r_1=>some (!r_1))).bind fun b1=>(if b1 then some (v,v2) else((loop (ZDG f v1) (num,0,v,v2)).bind (ZD9))))))
noncomputable def ZCF (f:FsR) (num:Int):Option (Str):=
 ((ZLI f num 0 f ([]:(List Str))).bind fun r_=>(if(r_.1 !=1) then some ((str [])) else((ZDa r_.2).bind fun r_1=>some (r_1))))
theorem ZMr (mx:Int) (n:Int) (x:Int) (x1:Bool) (x2:Int) (r:Bool×Bool) (h:ZGG n x x1 x2=some r) {m_x1:Nat} {m_x2:Nat} {s:St} {enF:En} (hs:Hp s [(.cells m_x1 [(enc x1)]),(.cells m_x2 [(enc x2)]),enF,(.gl (NG mx))]):MF Tryz.prog (pq3 mx) 35 [(enc n),(enc x),(.ptr m_x1 0),(.ptr m_x2 0)] s fun v s' =>ris v r.2∧Hp s' [(.cells m_x1 [(enc r.1)]),(.cells m_x2 [(enc x2)]),enF,(.gl (NG mx))]:=by
 refine ZB9 [(0,(enc n)),(1,(enc x)),(2,(.ptr m_x1 0)),(3,(.ptr m_x2 0))] func35 rfl (by simp only[Tryz.f35];rfl) fun ψ=> ?_
 unfold ZGG at h;refine ZAB<|ZAC<|ZAG (v:=enc false) rfl<|ZAA<|ZAB<|ZAC<|ZJe ag4 rfl hs<|ZAE rfl ?_
 obtain⟨b,hb_b,h⟩:=bs h;refine ZAS 4 (fun φ s=>Hp s [(.cells m_x1 [(enc x1)]),(.cells m_x2 [(enc x2)]),enF,(.gl (NG mx))]∧Fx φ [(2,(.ptr m_x1 0)),(3,(.ptr m_x2 0)),(12,(enc b))]) ?_ ?_
 ·split at hb_b
  ·rename_i cg;refine ZAD rfl rfl (by simpa using cg)<|ZAD rfl rfl (by simpa using cg)<|ZAD rfl rfl (by simpa using cg)<|ZAa (v:=enc true) rfl cg rfl<|ZAA ?_
   rw[←oi hb_b];exact⟨hs,FxR rfl⟩
  rename_i cg1;refine ZAF rfl rfl (by simpa using cg1)<|ZAE rfl<|ZAF rfl rfl (by simpa using cg1) ?_
  replace hs:=Hp.front [(.cells m_x1 [(enc x1)])] (b:=[enF,(.gl (NG mx))]) hs;refine ZJe ag3 rfl hs<|ZAF rfl rfl (by simpa using cg1)<|ZAJ (v:=enc (n==x2)) rfl rfl rfl<|ZAZ rfl cg1 rfl<|ZAA ?_
  rw[←oi hb_b];exact⟨(Hp.front [(.cells m_x2 [(enc x2)]),enF,(.gl (NG mx))] (b:=[]) (Hp.front [enF,(.gl (NG mx))] (b:=[(.cells m_x1 [(enc x1)])]) (Hp.front [(.gl (NG mx)),(.cells m_x2 [(enc x2)]),(.cells m_x1 [(enc x1)])] (b:=[]) (Hp.front [(.cells m_x2 [(enc x2)]),(.cells m_x1 [(enc x1)]),enF] (b:=[]) hs)))),FxR rfl⟩
 rintro φ s ⟨hs,hF⟩;rw[←hF.eq];refine ZMq (v:=enc b) sz4 rfl rfl rfl hs fun s hs=>ZAA<|ZAB<|ZAC<|ZJe ag4 rfl hs<|ZBO (v:=enc (!b)) rfl rfl<|ZAG rfl<|ZAA<|ZAN ?_
 rw[←oi h];exact⟨rfl,KN1 rfl rfl ⟨(rfl:is _ ((!b):Bool)),hs⟩⟩
theorem ZQB (mx:Int) (f:FsR) (num:Int) (v:Bool) (v1:Int) (r:Bool) (h:ZLH f num v v1=some r) {x_f:AV} (hy_f:is x_f f) {m_v:Nat} {m_v1:Nat} {s:St} {enF:En} (hs:Hp s [(.cells m_v [(enc v)]),(.cells m_v1 [(enc v1)]),enF,(.gl (NG mx))]):MF Tryz.prog (pq3 mx) 22 [x_f,(enc num),(.fn 35 [] [(.ptr m_v 0),(.ptr m_v1 0)])] s fun v s' =>Hp s' [(.cells m_v [(enc r)]),(.cells m_v1 [(enc v1)]),enF,(.gl (NG mx))]:=by
 refine ZB9 [(0,x_f),(1,(enc num)),(2,(.fn 35 [] [(.ptr m_v 0),(.ptr m_v1 0)]))] func22 rfl (by simp only[Tryz.f22];rfl) fun ψ=> ?_
 unfold ZLH at h;refine ZAB<|ZAC<|ZA5 (r:=f) rfl hy_f hs fun m xs s hxs hs=>ZAA<|ZAB<|ZAC<|ZAm (r:=f) ag24 sz24 rfl hxs hs fun y hy=>ZAE rfl ?_
 obtain⟨r_,hx,h⟩:=bs h;refine ZCr (f:=fun a:FsR×Int×Unit=>ZA6 a.1 a.2.1) (a:=(f,num,())) rfl func24 rfl rfl (.cons (a:=f) hy (.cons (a:=num) (Enc.self _) .nil)) hx<|ZAG rfl<|ZAA<|ZAB<|ZAB<|ZAC<|ZAE rfl<|ZAJ (v:=enc (decide (r_<0))) rfl rfl rfl<|ZAE rfl ?_
 obtain⟨b,hb_b,h⟩:=bs h;refine ZAS 8 (fun φ s=>Hp s [(.cells m xs),(.cells m_v [(enc v)]),(.cells m_v1 [(enc v1)]),enF,(.gl (NG mx))]∧Fx φ [(1,(enc num)),(2,(.fn 35 [] [(.ptr m_v 0),(.ptr m_v1 0)])),(3,(.ptr m 0)),(21,(enc b))]) ?_ ?_
 ·split at hb_b
  ·rename_i cg;refine ZAD rfl rfl (by simpa using cg)<|ZAD rfl rfl (by simpa using cg)<|ZAD rfl rfl (by simpa using cg)<|ZAD rfl rfl (by simpa using cg)<|ZAD rfl rfl (by simpa using cg)<|ZAD rfl rfl (by simpa using cg)<|ZAD rfl rfl (by simpa using cg)<|ZAa (v:=enc true) rfl cg rfl<|ZAA ?_
   rw[←oi hb_b];exact⟨hs,FxR rfl⟩
  rename_i cg1;refine ZAF rfl rfl (by simpa using cg1)<|ZAV ZAz rfl<|ZAF rfl rfl (by simpa using cg1)<|ZAK ag22 Sz rfl hxs hs fun y1 hy1=>ZAF rfl rfl (by simpa using cg1)<|ZAE rfl<|ZAF rfl rfl (by simpa using cg1) ?_
  obtain⟨v2,hx1,hb_b⟩:=bs hb_b;refine ZAu underlying22 sh47 rfl rfl hy1 hx1 fun p hp=>ZAF rfl rfl (by simpa using cg1)<|ZCT ZB4 (Ss Sz) rfl hp fun p1 hp1=>ZAF rfl rfl (by simpa using cg1)<|ZBQ ag41 rfl hp1 fun y2 hy2=> ?_
  cases hy2;refine ZAF rfl rfl (by simpa using cg1)<|ZAJ (v:=enc (v2.v.2.1 !=2)) rfl rfl rfl<|ZAZ rfl cg1 rfl<|ZAA ?_
  rw[←oi hb_b];exact⟨hs,FxR rfl⟩
 rintro φ s ⟨hs,hF⟩;rw[←hF.eq];refine ZAE rfl ?_
 obtain⟨b1,hb_b1,h⟩:=bs h;refine ZAS 4 (fun φ s=>Hp s [(.cells m xs),(.cells m_v [(enc v)]),(.cells m_v1 [(enc v1)]),enF,(.gl (NG mx))]∧Fx φ [(1,(enc num)),(2,(.fn 35 [] [(.ptr m_v 0),(.ptr m_v1 0)])),(3,(.ptr m 0)),(26,(enc b1))]) ?_ ?_
 ·split at hb_b1
  ·rename_i cg2;refine ZAD rfl rfl (by simpa using cg2)<|ZAD rfl rfl (by simpa using cg2)<|ZAD rfl rfl (by simpa using cg2)<|ZAa (v:=enc true) rfl cg2 rfl<|ZAA ?_
   rw[←oi hb_b1];exact⟨hs,FxR rfl⟩
  rename_i cg3;refine ZAF rfl rfl (by simpa using cg3)<|ZAm (r:=f) ag24 sz24 rfl hxs hs fun y3 hy3=>ZAF rfl rfl (by simpa using cg3) ?_
  obtain⟨r_1,hx2,hb_b1⟩:=bs hb_b1;refine ZAY (f:=fun a:FsR×Unit=>ZAw a.1) (a:=(f,())) rfl func40 rfl rfl (.cons (a:=f) hy3 .nil) hs (lM _ (lM _ (lM _ (lM _ List.mem_cons_self)))) hx2<|ZAF rfl rfl (by simpa using cg3)<|ZBO (v:=enc (!r_1)) rfl rfl<|ZAZ rfl cg3 rfl<|ZAA ?_
  rw[←oi hb_b1];exact⟨hs,FxR rfl⟩
 rintro φ s ⟨hs,hF⟩;rw[←hF.eq];refine ZAA ?_
 split at h
 ·rename_i c';refine ZAH rfl c'<|ZAN ?_
  rw[←oi h];exact⟨rfl,KN0 rfl (Hp.drop [] (b:=[(.cells m_v [(enc v)]),(.cells m_v1 [(enc v1)]),enF,(.gl (NG mx))]) hs)⟩
 rename_i c';refine ZAI rfl c'<|ZAL<|ZAB<|ZAC<|ZAV ZAz rfl<|ZAK ag22 Sz rfl hxs hs fun y4 hy4=>ZAo underlying22 rfl rfl hy4<|ZAJ (v:=enc (IntKind.i64.wrap ((f.v.1.length:Int)+1))) rfl rfl rfl<|ZAE (v:=enc (0:Int)) rfl<|ZAA<|ZAQ ?_
 obtain⟨o,hl,h⟩:=bs h;refine ZAk (fun(p:(Int×Int×Bool)) φ s=>match p with | (num1,v3,v4)=>Fx φ [(1,(enc num1)),(2,(.fn 35 [] [(.ptr m_v 0),(.ptr m_v1 0)])),(3,(.ptr m 0)),(30,(enc (IntKind.i64.wrap ((f.v.1.length:Int)+1)))),(31,(enc v3))]∧Hp s [(.cells m xs),(.cells m_v1 [(enc v1)]),enF,(.gl (NG mx)),(.cells m_v [(enc v4)])]) (fun(o:(Bool ⊕ Bool)) e φ s=>match o with | (.inl v5)=>e= .exit 0∧Fx φ []∧Hp s [(.cells m_v1 [(enc v1)]),enF,(.gl (NG mx)),(.cells m_v [(enc v5)])] | (.inr v6)=>e= .ret∧Fx φ []∧Hp s [(.cells m_v1 [(enc v1)]),enF,(.gl (NG mx)),(.cells m_v [(enc v6)])]) ?_ hl ⟨FxR rfl,(Hp.front [(.cells m_v1 [(enc v1)]),enF,(.gl (NG mx)),(.cells m_v [(enc v)])] (b:=[]) (Hp.front [enF,(.gl (NG mx)),(.cells m_v [(enc v)]),(.cells m xs)] (b:=[]) (Hp.front [(.gl (NG mx)),(.cells m_v [(enc v)]),(.cells m xs),(.cells m_v1 [(enc v1)])] (b:=[]) (Hp.front [(.cells m_v [(enc v)]),(.cells m xs),(.cells m_v1 [(enc v1)]),enF] (b:=[]) (Hp.front [(.cells m xs)] (b:=[(.cells m_v1 [(enc v1)]),enF,(.gl (NG mx))]) hs)))))⟩ ?_
 ·rintro⟨num1,v3,v4⟩ o h φ s ⟨hF,hs⟩;rw[←hF.eq];rw[ZD8] at h;refine ZAB<|ZAC<|ZAJ (v:=enc (decide (v3<(IntKind.i64.wrap ((f.v.1.length:Int)+1))))) rfl rfl rfl<|ZAA<|ZAB ?_
  split at h
  ·rename_i c';refine ZAH rfl c'<|ZAL<|ZAB<|ZAQ<|ZAB<|ZAC<|ZAm (r:=f) ag24 sz24 rfl hxs hs fun y5 hy5=>ZAE rfl ?_
   obtain⟨r_2,hx3,h⟩:=bs h;refine ZAY (f:=fun a:FsR×Int×Unit=>ZBI a.1 a.2.1) (a:=(f,num1,())) rfl func41 rfl rfl (.cons (a:=f) hy5 (.cons (a:=num1) (Enc.self _) .nil)) hs (lM _ (lM _ (lM _ List.mem_cons_self))) hx3<|ZAG rfl<|ZAA<|ZAB<|ZAB<|ZAC<|ZAE (v:= .fn 35 [] [(.ptr m_v 0),(.ptr m_v1 0)]) rfl<|ZAE rfl<|ZAE rfl ?_
   replace hs:=Hp.front [(.cells m xs)] (b:=[enF,(.gl (NG mx)),(.cells m_v [(enc v4)])]) hs;replace hs:=Hp.front [(.cells m_v1 [(enc v1)]),(.cells m xs),enF,(.gl (NG mx))] (b:=[]) hs;obtain⟨r_3,hx4,h⟩:=bs h;refine ZMp func35 rfl rfl (vs:=[(enc num1),(enc r_2)]) rfl (MF.any (ZMr mx num1 r_2 v4 v1 _ hx4 (Hp.packN [(.cells m_v [(enc v4)]),(.cells m_v1 [(enc v1)])] [(.cells m xs),enF,(.gl (NG mx))] hs (Hp.glob hs (lM _ (lM _ (lM _ (lM _ List.mem_cons_self))))))) (ZO6 mx)) fun z s ⟨hz,hq_⟩=> ?_
   replace hs:=Hp.unpackN [(.cells m_v [(enc v4)]),(.cells m_v1 [(enc v1)])] [(.cells m_v [(enc r_3.1)]),(.cells m_v1 [(enc v1)])] [(.cells m xs),enF,(.gl (NG mx))] hs (Hp.glob hs (lM _ (lM _ (lM _ (lM _ List.mem_cons_self))))) hq_
   cases hz;refine ZBO (v:=enc (!r_3.2)) rfl rfl<|ZAE rfl ?_
   obtain⟨b2,hb_b2,h⟩:=bs h;refine ZAS 3 (fun φ s=>Hp s [(.cells m_v [(enc r_3.1)]),(.cells m_v1 [(enc v1)]),(.cells m xs),enF,(.gl (NG mx))]∧Fx φ [(2,(.fn 35 [] [(.ptr m_v 0),(.ptr m_v1 0)])),(3,(.ptr m 0)),(7,(enc r_2)),(30,(enc (IntKind.i64.wrap ((f.v.1.length:Int)+1)))),(31,(enc v3)),(44,(enc b2))]) ?_ ?_
   ·split at hb_b2
    ·rename_i cg4;refine ZAD rfl rfl (by simpa using cg4)<|ZAD rfl rfl (by simpa using cg4)<|ZAa (v:=enc true) rfl cg4 rfl<|ZAA ?_
     rw[←oi hb_b2];exact⟨hs,FxR rfl⟩
    rename_i cg5;refine ZAF rfl rfl (by simpa using cg5)<|ZAE rfl<|ZAF rfl rfl (by simpa using cg5)<|ZAJ (v:=enc (r_2==0)) rfl rfl rfl<|ZAZ rfl cg5 rfl<|ZAA ?_
    rw[←oi hb_b2];exact⟨hs,FxR rfl⟩
   rintro φ s ⟨hs,hF⟩;rw[←hF.eq];refine ZAA ?_
   split at h
   ·rename_i c';refine ZAH rfl c'<|ZAN ?_
    show if _ then _ else _
    rw[if_neg (by simp)]
    rw[←oi h];exact⟨_,rfl,rfl,⟨trivial,(Hp.front [enF,(.gl (NG mx)),(.cells m_v [(enc r_3.1)])] (b:=[]) (Hp.front [(.gl (NG mx)),(.cells m_v [(enc r_3.1)]),(.cells m_v1 [(enc v1)])] (b:=[]) (Hp.front [(.cells m_v [(enc r_3.1)]),(.cells m_v1 [(enc v1)]),enF] (b:=[]) (Hp.front [] (b:=[(.cells m_v1 [(enc v1)]),enF,(.gl (NG mx))]) (Hp.drop [(.cells m_v [(enc r_3.1)]),(.cells m_v1 [(enc v1)])] (b:=[enF,(.gl (NG mx))]) hs)))))⟩⟩
   rename_i c';refine ZAI rfl c'<|ZAL<|ZAC<|ZAE rfl<|ZAG rfl<|ZAA<|ZAC<|ZAJ (v:=enc (IntKind.i64.wrap (v3+1))) rfl rfl rfl<|ZAE rfl<|ZAA ?_
   rw[←oi h];exact⟨_,rfl,⟨FxR rfl,(Hp.front [(.cells m_v1 [(enc v1)]),enF,(.gl (NG mx)),(.cells m_v [(enc r_3.1)])] (b:=[]) (Hp.front [enF,(.gl (NG mx)),(.cells m_v [(enc r_3.1)])] (b:=[(.cells m xs)]) (Hp.front [(.gl (NG mx)),(.cells m_v [(enc r_3.1)]),(.cells m_v1 [(enc v1)]),(.cells m xs)] (b:=[]) (Hp.front [(.cells m_v [(enc r_3.1)]),(.cells m_v1 [(enc v1)]),(.cells m xs),enF] (b:=[]) (Hp.front [] (b:=[(.cells m_v1 [(enc v1)]),(.cells m xs),enF,(.gl (NG mx))]) hs)))))⟩⟩
  rename_i c';refine ZAI rfl c'<|ZAf ?_
  rw[←oi h];exact⟨_,rfl,rfl,⟨trivial,(Hp.drop [] (b:=[(.cells m_v1 [(enc v1)]),enF,(.gl (NG mx)),(.cells m_v [(enc v4)])]) hs)⟩⟩
 intro e φ s hE;rcases o with v5 | v6
 ·obtain⟨rfl,hF,hs⟩:=hE;rw[←hF.eq];rw[ZFC] at h;show if _ then _ else _
  rw[if_pos rfl];rw[←oi h];exact KN0 rfl (Hp.front [(.cells m_v1 [(enc v1)]),enF,(.gl (NG mx))] (b:=[]) (Hp.front [enF,(.gl (NG mx))] (b:=[(.cells m_v [(enc v5)])]) (Hp.front [(.gl (NG mx)),(.cells m_v1 [(enc v1)])] (b:=[(.cells m_v [(enc v5)])]) (Hp.front [(.cells m_v1 [(enc v1)]),enF] (b:=[(.cells m_v [(enc v5)])]) hs))))
 obtain⟨rfl,hF,hs⟩:=hE;rw[←hF.eq];rw[ZFC] at h;show if _ then _ else _
 rw[if_neg (by simp)]
 rw[←oi h];exact⟨rfl,KN0 rfl (Hp.front [(.cells m_v1 [(enc v1)]),enF,(.gl (NG mx))] (b:=[]) (Hp.front [enF,(.gl (NG mx))] (b:=[(.cells m_v [(enc v6)])]) (Hp.front [(.gl (NG mx)),(.cells m_v1 [(enc v1)])] (b:=[(.cells m_v [(enc v6)])]) (Hp.front [(.cells m_v1 [(enc v1)]),enF] (b:=[(.cells m_v [(enc v6)])]) hs))))⟩
theorem ZKF (mx:Int) (f:FsR) (num:Int) (dir:Int) (r:Bool) (h:ZBT f num dir=some r):MF Tryz.prog (pq3 mx) 15 [enc f,enc num,enc dir] (sG (NG mx)) fun v _=>ris v r:=by
 refine ZAh [(0,enc f),(1,enc num),(2,enc dir)] func15 rfl (by simp only[Tryz.f15];rfl) fun ψ=> ?_
 unfold ZBT at h;have hs:Hp (sG (NG mx)) [.gl (NG mx)]:=Hp.gl0
 refine ZAB<|ZAC<|ZA5 (r:=f) rfl (Enc.self f) hs fun m xs s hxs hs=>ZTs (a:=dir) rfl (rfl:is _ dir) hs fun m1 s hs=>ZAG (v:=enc false) rfl<|ZAA<|ZAB<|ZAC<|ZRd (w:=enc false) (by kernel_rfl) rfl hs fun m2 s hs=>ZMq (v:=enc false) sz4 rfl rfl rfl hs fun s hs=>ZAA<|ZAB<|ZAC ?_
 replace hs:=Hp.front [(.cells m2 [(enc false)]),(.cells m1 [(enc dir)])] (b:=[(.gl (NG mx))]) hs;refine ZAm (r:=f) ag24 sz24 rfl hxs hs fun y hy=>ZAE rfl<|ZRc rfl ?_
 replace hs:=Hp.front [(.cells m xs),(.cells m2 [(enc false)])] (b:=[(.gl (NG mx))]) hs;replace hs:=Hp.front [(.cells m1 [(enc dir)]),(.cells m xs)] (b:=[(.gl (NG mx))]) hs;obtain⟨r_,hx,h⟩:=bs h;refine ZAt (by kernel_rfl) func22 rfl (vs:=[y,(enc num),(.fn 35 [] [(.ptr m2 0),(.ptr m1 0)])]) rfl (MF.any (ZQB mx f num false dir _ hx hy (Hp.packN [(.cells m2 [(enc false)]),(.cells m1 [(enc dir)])] [(.cells m xs),(.gl (NG mx))] hs (Hp.glob hs (lM _ (lM _ (lM _ List.mem_cons_self)))))) (ZO6 mx)) fun z s hq_=> ?_
 replace hs:=Hp.unpackN [(.cells m2 [(enc false)]),(.cells m1 [(enc dir)])] [(.cells m2 [(enc r_)]),(.cells m1 [(enc dir)])] [(.cells m xs),(.gl (NG mx))] hs (Hp.glob hs (lM _ (lM _ (lM _ List.mem_cons_self)))) hq_;refine ZAA<|ZAB<|ZAC<|ZJe ag4 rfl hs<|ZAG rfl<|ZAA<|ZAN ?_
 rw[←oi h];exact⟨rfl,KE1 (a:=r_) rfl rfl (rfl:is _ r_) (rfl:is _ r_)⟩
theorem ZKG (mx:Int):ZAq Tryz.prog 15 (FnG (NG mx) (fun a:FsR×Int×Int×Unit=>ZBT a.1 a.2.1 a.2.2.1)):=fnCG (ZO6 mx) ⟨_,func15,rfl⟩<|fun a r h=>ZKF mx a.1 a.2.1 a.2.2.1 r h
noncomputable def pr1 (mx:Int):Prims:=(pq3 mx).addG 15 (FnG (NG mx) (fun a:FsR×Int×Int×Unit=>ZBT a.1 a.2.1 a.2.2.1))
theorem ZO7 (mx:Int):ZAX Tryz.prog (pr1 mx):=ZAR (ZO6 mx) (ZKG mx)
theorem ZQC (mx:Int) (n:Int) (above:Int) (x:Int) (x1:FsR) (x2:(List Str)) (r:Int×(List Str)×Bool) (h:ZJf n above x x1 x2=some r) {m_x:Nat} {m_x1:Nat} {xs_x1:List AV} (hr_x1:fi xs_x1 x1.v) {m_x2:Nat} {x_x2:AV} {en_x2:En} (hm_x2:isM x_x2 en_x2 x2) {s:St} {enF:En} (hs:Hp s [(.cells m_x [(enc x)]),(.cells m_x1 xs_x1),(.cells m_x2 [x_x2]),en_x2,enF,(.gl (NG mx))]):MF Tryz.prog (pr1 mx) 23 [(enc n),(enc above),(.ptr m_x 0),(.ptr m_x1 0),(.ptr m_x2 0)] s fun v s' =>∃a'x2 en'x2,isM a'x2 en'x2 r.2.1∧ris v r.2.2∧Hp s' [(.cells m_x [(enc r.1)]),(.cells m_x1 xs_x1),(.cells m_x2 [a'x2]),en'x2,enF,(.gl (NG mx))]:=by
 refine ZB9 [(0,(enc n)),(1,(enc above)),(2,(.ptr m_x 0)),(3,(.ptr m_x1 0)),(4,(.ptr m_x2 0))] func23 rfl (by simp only[Tryz.f23];rfl) fun ψ=> ?_
 unfold ZJf at h;refine ZAB<|ZAC<|ZAG (v:=enc false) rfl<|ZAA<|ZAB<|ZAC<|ZAE rfl<|ZMq (v:=enc n) sz3 rfl rfl rfl hs fun s hs=>ZAA<|ZCd (fun φ s=>∃(v:(List Str)) (x_v:AV) (en:En),isM x_v en v∧Fx φ [(2,(.ptr m_x 0)),(3,(.ptr m_x1 0)),(4,(.ptr m_x2 0))]∧Hp s [(.cells m_x [(enc n)]),(.cells m_x1 xs_x1),enF,(.gl (NG mx)),(.cells m_x2 [x_v]),en]∧ZGe n v=some r) ?_ ?_
 ·refine ZAB ?_
  refine ZAC<|ZAE rfl<|ZAJ (v:=enc (decide (above > 0))) rfl rfl rfl<|ZAA ?_
  split at h
  ·rename_i c';refine ZAH rfl c'<|ZAB<|ZBJ (by decide+kernel) (by kernel_rfl)<|ZAV ZAz rfl ?_
   replace hs:=Hp.front [(.cells m_x [(enc n)])] (b:=[(.cells m_x2 [x_x2]),en_x2,enF,(.gl (NG mx))]) hs;refine ZAK ag22 Sz rfl hr_x1 hs fun y hy=>ZAm (r:=x1) ag24 sz24 rfl hr_x1 hs fun y1 hy1=>ZAE rfl ?_
   obtain⟨r_,hx,h⟩:=bs h;refine ZCr (f:=fun a:FsR×Int×Unit=>ZA6 a.1 a.2.1) (a:=(x1,above,())) rfl func24 rfl rfl (.cons (a:=x1) hy1 (.cons (a:=above) (Enc.self _) .nil)) hx ?_
   obtain⟨v1,hx1,h⟩:=bs h;refine ZAu underlying22 sh47 rfl rfl hy hx1 fun p hp=>ZDs ag47 sz47 rfl hp fun y2 hy2=>ZBG (r:=(Rec.mk ((0:Int),(0:Int),(0:Int),(0:Int),([]:(List UInt8)),(str []),([]:(List Str)),([]:(List Int)),([]:(List ZAi)),()):ZAO)) zr47 zf47 hs fun m s hs=>ZAx (r:=v1) sz47 rfl rfl zf47 hy2 hs fun xs s hxs hs=>ZAA<|ZRE [0,1,2,3,4,5,6,7,8,9,10,11] (by kernel_rfl) ?_
   replace hs:=Hp.front [(.cells m xs),(.cells m_x1 xs_x1),(.cells m_x [(enc n)])] (b:=[en_x2,enF,(.gl (NG mx))]) hs;refine ZJe ag43 rfl hs<|ZAV ZEZ rfl ?_
   replace hs:=Hp.front [(.cells m_x2 [x_x2])] (b:=[(.cells m_x1 xs_x1),(.cells m_x [(enc n)]),en_x2,enF,(.gl (NG mx))]) hs;refine ZAK ag43 (Ss (Ss (Ss (Ss (Ss (Ss Sz)))))) rfl hxs hs fun y3 hy3=>ZAV ZDt rfl<|ZAK ag44 (Ss (Ss (Ss (Ss (Ss (Ss (Ss Sz))))))) rfl hxs hs fun y4 hy4=>ZAE rfl ?_
   obtain⟨r_1,hx2,h⟩:=bs h;refine ZAY (f:=fun a:(List Int)×Int×Unit=>ZJd a.1 a.2.1) (a:=(v1.v.2.2.2.2.2.2.2.1,n,())) rfl func26 rfl rfl (.cons (a:=v1.v.2.2.2.2.2.2.2.1) hy4 (.cons (a:=n) (Enc.self _) .nil)) hs (lM _ (lM _ (lM _ (lM _ (lM _ (lM _ List.mem_cons_self)))))) hx2 ?_
   obtain⟨v2,hx3,h⟩:=bs h;refine ZAu underlying43 sh9 rfl rfl hy3 hx3 fun p1 hp1=>ZB8 rfl ag9 rfl hp1 fun y5 hy5=> ?_
   cases hy5;refine ZDv [(enc v2)] ([v2]:(List Str)) underlying43 ef9 rfl rfl rfl (Nat.le_of_ble_eq_true rfl) ⟨(rfl:is _ v2),trivial⟩ fun z hz hzc hzn=> ?_
   replace hs:=Hp.front [(.cells m xs),(.cells m_x2 [x_x2]),(.cells m_x1 xs_x1),(.cells m_x [(enc n)])] (b:=[enF,(.gl (NG mx))]) hs;obtain⟨r_2,hx4,h⟩:=bs h;refine ZAt (by kernel_rfl) func25 rfl (vs:=[x_x2,(enc (0:Int)),z]) rfl (MF.any (ZLG x2 0 [v2] _ hx4 hm_x2 hz (Hp.packG [en_x2] [(.cells m xs),(.cells m_x2 [x_x2]),(.cells m_x1 xs_x1),(.cells m_x [(enc n)]),enF,(.gl (NG mx))] hs)) ZOx) fun w s ⟨en1,hm,hq_⟩=> ?_
   replace hs:=Hp.unpackG [en_x2] [en1] [(.cells m xs),(.cells m_x2 [x_x2]),(.cells m_x1 xs_x1),(.cells m_x [(enc n)]),enF,(.gl (NG mx))] hs hq_;replace hs:=Hp.front [en1,(.cells m xs)] (b:=[(.cells m_x1 xs_x1),(.cells m_x [(enc n)]),enF,(.gl (NG mx))]) hs;refine ZMq (v:=w) sz43 rfl rfl (isM.one hm) hs fun s hs=>ZAA ?_
   exact⟨r_2,w,en1,hm,FxR rfl,(Hp.front [(.cells m_x1 xs_x1),enF,(.gl (NG mx)),(.cells m_x2 [w]),en1] (b:=[]) (Hp.front [enF,(.gl (NG mx)),(.cells m_x2 [w]),en1] (b:=[(.cells m_x [(enc n)])]) (Hp.front [(.gl (NG mx)),(.cells m_x2 [w]),en1,(.cells m_x1 xs_x1),(.cells m_x [(enc n)])] (b:=[]) (Hp.front [(.cells m_x2 [w]),en1,(.cells m_x1 xs_x1),(.cells m_x [(enc n)]),enF] (b:=[]) (Hp.front [en1] (b:=[(.cells m_x1 xs_x1),(.cells m_x [(enc n)]),enF,(.gl (NG mx))]) (Hp.front [(.cells m_x2 [w])] (b:=[(.cells m_x1 xs_x1),(.cells m_x [(enc n)]),enF,(.gl (NG mx))]) (Hp.drop [(.cells m_x2 [w]),en1] (b:=[(.cells m_x1 xs_x1),(.cells m_x [(enc n)]),enF,(.gl (NG mx))]) hs))))))),h⟩
  rename_i c';refine ZAI rfl c'<|ZAL ?_
  exact⟨x2,x_x2,en_x2,hm_x2,FxR rfl,(Hp.front [(.cells m_x1 xs_x1),enF,(.gl (NG mx)),(.cells m_x2 [x_x2]),en_x2] (b:=[]) (Hp.front [enF,(.gl (NG mx)),(.cells m_x2 [x_x2]),en_x2,(.cells m_x [(enc n)])] (b:=[]) (Hp.front [(.gl (NG mx)),(.cells m_x2 [x_x2]),en_x2,(.cells m_x [(enc n)]),(.cells m_x1 xs_x1)] (b:=[]) (Hp.front [(.cells m_x2 [x_x2]),en_x2,(.cells m_x [(enc n)]),(.cells m_x1 xs_x1),enF] (b:=[]) (Hp.front [en_x2,(.cells m_x [(enc n)]),(.cells m_x1 xs_x1)] (b:=[enF,(.gl (NG mx))]) (Hp.front [(.cells m_x [(enc n)]),(.cells m_x1 xs_x1),(.cells m_x2 [x_x2])] (b:=[enF,(.gl (NG mx))]) hs)))))),h⟩
 rintro φ s ⟨v,x_v,en,hm_x_v,hF,hs,h⟩;rw[←hF.eq];unfold ZGe at h;refine ZAB<|ZAC<|ZAG (v:=enc true) rfl<|ZAA<|ZAN ?_
 rw[←oi h];exact⟨rfl,KN1 rfl rfl ⟨_,_,hm_x_v,(rfl:is _ (true:Bool)),(Hp.front [(.cells m_x1 xs_x1),(.cells m_x2 [x_v]),en,enF,(.gl (NG mx))] (b:=[]) (Hp.front [(.cells m_x2 [x_v]),en,enF,(.gl (NG mx)),(.cells m_x [(enc n)])] (b:=[]) (Hp.front [en,enF,(.gl (NG mx)),(.cells m_x [(enc n)]),(.cells m_x1 xs_x1)] (b:=[]) (Hp.front [enF,(.gl (NG mx)),(.cells m_x [(enc n)]),(.cells m_x1 xs_x1),(.cells m_x2 [x_v])] (b:=[]) (Hp.front [(.gl (NG mx)),(.cells m_x [(enc n)]),(.cells m_x1 xs_x1)] (b:=[(.cells m_x2 [x_v]),en]) (Hp.front [(.cells m_x [(enc n)]),(.cells m_x1 xs_x1),enF] (b:=[(.cells m_x2 [x_v]),en]) hs))))))⟩⟩
theorem ZQD (mx:Int) (f:FsR) (num:Int) (v:Int) (v1:FsR) (v2:(List Str)) (r:Int×(List Str)) (h:ZLI f num v v1 v2=some r) {x_f:AV} (hy_f:is x_f f) {m_v:Nat} {m_v1:Nat} {xs_v1:List AV} (hr_v1:fi xs_v1 v1.v) {m_v2:Nat} {x_v2:AV} {en_v2:En} (hm_v2:isM x_v2 en_v2 v2) {s:St} {enF:En} (hs:Hp s [(.cells m_v [(enc v)]),(.cells m_v1 xs_v1),(.cells m_v2 [x_v2]),en_v2,enF,(.gl (NG mx))]):MF Tryz.prog (pr1 mx) 22 [x_f,(enc num),(.fn 23 [] [(.ptr m_v 0),(.ptr m_v1 0),(.ptr m_v2 0)])] s fun v s' =>∃a'v2 en'v2,isM a'v2 en'v2 r.2∧Hp s' [(.cells m_v [(enc r.1)]),(.cells m_v1 xs_v1),(.cells m_v2 [a'v2]),en'v2,enF,(.gl (NG mx))]:=by
 refine ZB9 [(0,x_f),(1,(enc num)),(2,(.fn 23 [] [(.ptr m_v 0),(.ptr m_v1 0),(.ptr m_v2 0)]))] func22 rfl (by simp only[Tryz.f22];rfl) fun ψ=> ?_
 unfold ZLI at h;refine ZAB<|ZAC<|ZA5 (r:=f) rfl hy_f hs fun m xs s hxs hs=>ZAA<|ZAB<|ZAC<|ZAm (r:=f) ag24 sz24 rfl hxs hs fun y hy=>ZAE rfl ?_
 obtain⟨r_,hx,h⟩:=bs h;refine ZCr (f:=fun a:FsR×Int×Unit=>ZA6 a.1 a.2.1) (a:=(f,num,())) rfl func24 rfl rfl (.cons (a:=f) hy (.cons (a:=num) (Enc.self _) .nil)) hx<|ZAG rfl<|ZAA<|ZAB<|ZAB<|ZAC<|ZAE rfl<|ZAJ (v:=enc (decide (r_<0))) rfl rfl rfl<|ZAE rfl ?_
 obtain⟨b,hb_b,h⟩:=bs h;refine ZAS 8 (fun φ s=>Hp s [(.cells m xs),(.cells m_v [(enc v)]),(.cells m_v1 xs_v1),(.cells m_v2 [x_v2]),en_v2,enF,(.gl (NG mx))]∧Fx φ [(1,(enc num)),(2,(.fn 23 [] [(.ptr m_v 0),(.ptr m_v1 0),(.ptr m_v2 0)])),(3,(.ptr m 0)),(21,(enc b))]) ?_ ?_
 ·split at hb_b
  ·rename_i cg;refine ZAD rfl rfl (by simpa using cg)<|ZAD rfl rfl (by simpa using cg)<|ZAD rfl rfl (by simpa using cg)<|ZAD rfl rfl (by simpa using cg)<|ZAD rfl rfl (by simpa using cg)<|ZAD rfl rfl (by simpa using cg)<|ZAD rfl rfl (by simpa using cg)<|ZAa (v:=enc true) rfl cg rfl<|ZAA ?_
   rw[←oi hb_b];exact⟨hs,FxR rfl⟩
  rename_i cg1;refine ZAF rfl rfl (by simpa using cg1)<|ZAV ZAz rfl<|ZAF rfl rfl (by simpa using cg1)<|ZAK ag22 Sz rfl hxs hs fun y1 hy1=>ZAF rfl rfl (by simpa using cg1)<|ZAE rfl<|ZAF rfl rfl (by simpa using cg1) ?_
  obtain⟨v3,hx1,hb_b⟩:=bs hb_b;refine ZAu underlying22 sh47 rfl rfl hy1 hx1 fun p hp=>ZAF rfl rfl (by simpa using cg1)<|ZCT ZB4 (Ss Sz) rfl hp fun p1 hp1=>ZAF rfl rfl (by simpa using cg1)<|ZBQ ag41 rfl hp1 fun y2 hy2=> ?_
  cases hy2;refine ZAF rfl rfl (by simpa using cg1)<|ZAJ (v:=enc (v3.v.2.1 !=2)) rfl rfl rfl<|ZAZ rfl cg1 rfl<|ZAA ?_
  rw[←oi hb_b];exact⟨hs,FxR rfl⟩
 rintro φ s ⟨hs,hF⟩;rw[←hF.eq];refine ZAE rfl ?_
 obtain⟨b1,hb_b1,h⟩:=bs h;refine ZAS 4 (fun φ s=>Hp s [(.cells m xs),(.cells m_v [(enc v)]),(.cells m_v1 xs_v1),(.cells m_v2 [x_v2]),en_v2,enF,(.gl (NG mx))]∧Fx φ [(1,(enc num)),(2,(.fn 23 [] [(.ptr m_v 0),(.ptr m_v1 0),(.ptr m_v2 0)])),(3,(.ptr m 0)),(26,(enc b1))]) ?_ ?_
 ·split at hb_b1
  ·rename_i cg2;refine ZAD rfl rfl (by simpa using cg2)<|ZAD rfl rfl (by simpa using cg2)<|ZAD rfl rfl (by simpa using cg2)<|ZAa (v:=enc true) rfl cg2 rfl<|ZAA ?_
   rw[←oi hb_b1];exact⟨hs,FxR rfl⟩
  rename_i cg3;refine ZAF rfl rfl (by simpa using cg3)<|ZAm (r:=f) ag24 sz24 rfl hxs hs fun y3 hy3=>ZAF rfl rfl (by simpa using cg3) ?_
  obtain⟨r_1,hx2,hb_b1⟩:=bs hb_b1;refine ZAY (f:=fun a:FsR×Unit=>ZAw a.1) (a:=(f,())) rfl func40 rfl rfl (.cons (a:=f) hy3 .nil) hs (lM _ (lM _ (lM _ (lM _ (lM _ (lM _ List.mem_cons_self)))))) hx2<|ZAF rfl rfl (by simpa using cg3)<|ZBO (v:=enc (!r_1)) rfl rfl<|ZAZ rfl cg3 rfl<|ZAA ?_
  rw[←oi hb_b1];exact⟨hs,FxR rfl⟩
 rintro φ s ⟨hs,hF⟩;rw[←hF.eq];refine ZAA ?_
 split at h
 ·rename_i c';refine ZAH rfl c'<|ZAN ?_
  rw[←oi h];exact⟨rfl,KN0 rfl ⟨_,_,hm_v2,(Hp.drop [] (b:=[(.cells m_v [(enc v)]),(.cells m_v1 xs_v1),(.cells m_v2 [x_v2]),en_v2,enF,(.gl (NG mx))]) hs)⟩⟩
 rename_i c';refine ZAI rfl c'<|ZAL<|ZAB<|ZAC<|ZAV ZAz rfl<|ZAK ag22 Sz rfl hxs hs fun y4 hy4=>ZAo underlying22 rfl rfl hy4<|ZAJ (v:=enc (IntKind.i64.wrap ((f.v.1.length:Int)+1))) rfl rfl rfl<|ZAE (v:=enc (0:Int)) rfl<|ZAA<|ZAQ ?_
 obtain⟨o,hl,h⟩:=bs h;refine ZAk (fun(p:(Int×Int×Int×(List Str))) φ s=>match p with | (num1,v4,v5,v6)=>∃(x_v6:AV) (en:En),isM x_v6 en v6∧Fx φ [(1,(enc num1)),(2,(.fn 23 [] [(.ptr m_v 0),(.ptr m_v1 0),(.ptr m_v2 0)])),(3,(.ptr m 0)),(30,(enc (IntKind.i64.wrap ((f.v.1.length:Int)+1)))),(31,(enc v4))]∧Hp s [(.cells m xs),(.cells m_v1 xs_v1),enF,(.gl (NG mx)),(.cells m_v [(enc v5)]),(.cells m_v2 [x_v6]),en]) (fun(o:((Int×(List Str)) ⊕ (Int×(List Str)))) e φ s=>match o with | (.inl (v7,v8))=>e= .exit 0∧∃(x_v8:AV) (en1:En),isM x_v8 en1 v8∧Fx φ []∧Hp s [(.cells m_v1 xs_v1),enF,(.gl (NG mx)),(.cells m_v [(enc v7)]),(.cells m_v2 [x_v8]),en1] | (.inr (v9,v10))=>e= .ret∧∃(x_v10:AV) (en2:En),isM x_v10 en2 v10∧Fx φ []∧Hp s [(.cells m_v1 xs_v1),enF,(.gl (NG mx)),(.cells m_v [(enc v9)]),(.cells m_v2 [x_v10]),en2]) ?_ hl ⟨x_v2,en_v2,hm_v2,FxR rfl,(Hp.front [(.cells m_v1 xs_v1),enF,(.gl (NG mx)),(.cells m_v [(enc v)]),(.cells m_v2 [x_v2]),en_v2] (b:=[]) (Hp.front [enF,(.gl (NG mx)),(.cells m_v [(enc v)]),(.cells m_v2 [x_v2]),en_v2,(.cells m xs)] (b:=[]) (Hp.front [(.gl (NG mx)),(.cells m_v [(enc v)]),(.cells m_v2 [x_v2]),en_v2,(.cells m xs),(.cells m_v1 xs_v1)] (b:=[]) (Hp.front [(.cells m_v [(enc v)]),(.cells m_v2 [x_v2]),en_v2,(.cells m xs),(.cells m_v1 xs_v1),enF] (b:=[]) (Hp.front [(.cells m_v2 [x_v2]),en_v2,(.cells m xs)] (b:=[(.cells m_v1 xs_v1),enF,(.gl (NG mx))]) (Hp.front [en_v2,(.cells m xs),(.cells m_v [(enc v)]),(.cells m_v1 xs_v1)] (b:=[enF,(.gl (NG mx))]) (Hp.front [(.cells m xs),(.cells m_v [(enc v)]),(.cells m_v1 xs_v1),(.cells m_v2 [x_v2])] (b:=[enF,(.gl (NG mx))]) hs)))))))⟩ ?_
 ·rintro⟨num1,v4,v5,v6⟩ o h φ s ⟨x_v6,en,hm_x_v6,hF,hs⟩;rw[←hF.eq];rw[ZDG] at h;refine ZAB<|ZAC<|ZAJ (v:=enc (decide (v4<(IntKind.i64.wrap ((f.v.1.length:Int)+1))))) rfl rfl rfl<|ZAA<|ZAB ?_
  split at h
  ·rename_i c';refine ZAH rfl c'<|ZAL<|ZAB<|ZAQ<|ZAB<|ZAC<|ZAm (r:=f) ag24 sz24 rfl hxs hs fun y5 hy5=>ZAE rfl ?_
   obtain⟨r_2,hx3,h⟩:=bs h;refine ZAY (f:=fun a:FsR×Int×Unit=>ZBI a.1 a.2.1) (a:=(f,num1,())) rfl func41 rfl rfl (.cons (a:=f) hy5 (.cons (a:=num1) (Enc.self _) .nil)) hs (lM _ (lM _ (lM _ List.mem_cons_self))) hx3<|ZAG rfl<|ZAA<|ZAB<|ZAB<|ZAC<|ZAE (v:= .fn 23 [] [(.ptr m_v 0),(.ptr m_v1 0),(.ptr m_v2 0)]) rfl<|ZAE rfl<|ZAE rfl ?_
   replace hs:=Hp.front [(.cells m xs),(.cells m_v1 xs_v1),enF,(.gl (NG mx)),(.cells m_v [(enc v5)]),(.cells m_v2 [x_v6])] (b:=[]) hs;replace hs:=Hp.front [en,(.cells m xs),(.cells m_v1 xs_v1),enF,(.gl (NG mx)),(.cells m_v [(enc v5)])] (b:=[]) hs;replace hs:=Hp.front [(.cells m_v2 [x_v6]),en,(.cells m xs)] (b:=[enF,(.gl (NG mx)),(.cells m_v [(enc v5)])]) hs;replace hs:=Hp.front [(.cells m_v1 xs_v1),(.cells m_v2 [x_v6]),en,(.cells m xs),enF,(.gl (NG mx))] (b:=[]) hs;obtain⟨r_3,hx4,h⟩:=bs h;refine ZMp func23 rfl rfl (vs:=[(enc num1),(enc r_2)]) rfl (MF.any (ZQC mx num1 r_2 v5 v1 v6 _ hx4 hr_v1 hm_x_v6 (Hp.packN [(.cells m_v [(enc v5)]),(.cells m_v1 xs_v1),(.cells m_v2 [x_v6]),en] [(.cells m xs),enF,(.gl (NG mx))] hs (Hp.glob hs (lM _ (lM _ (lM _ (lM _ (lM _ (lM _ List.mem_cons_self))))))))) (ZO7 mx)) fun z s ⟨x,en3,hmx,hz,hq_⟩=> ?_
   replace hs:=Hp.unpackN [(.cells m_v [(enc v5)]),(.cells m_v1 xs_v1),(.cells m_v2 [x_v6]),en] [(.cells m_v [(enc r_3.1)]),(.cells m_v1 xs_v1),(.cells m_v2 [x]),en3] [(.cells m xs),enF,(.gl (NG mx))] hs (Hp.glob hs (lM _ (lM _ (lM _ (lM _ (lM _ (lM _ List.mem_cons_self))))))) hq_
   cases hz;refine ZBO (v:=enc (!r_3.2.2)) rfl rfl<|ZAE rfl ?_
   obtain⟨b2,hb_b2,h⟩:=bs h;refine ZAS 3 (fun φ s=>Hp s [(.cells m_v [(enc r_3.1)]),(.cells m_v1 xs_v1),(.cells m_v2 [x]),en3,(.cells m xs),enF,(.gl (NG mx))]∧Fx φ [(2,(.fn 23 [] [(.ptr m_v 0),(.ptr m_v1 0),(.ptr m_v2 0)])),(3,(.ptr m 0)),(7,(enc r_2)),(30,(enc (IntKind.i64.wrap ((f.v.1.length:Int)+1)))),(31,(enc v4)),(44,(enc b2))]) ?_ ?_
   ·split at hb_b2
    ·rename_i cg4;refine ZAD rfl rfl (by simpa using cg4)<|ZAD rfl rfl (by simpa using cg4)<|ZAa (v:=enc true) rfl cg4 rfl<|ZAA ?_
     rw[←oi hb_b2];exact⟨hs,FxR rfl⟩
    rename_i cg5;refine ZAF rfl rfl (by simpa using cg5)<|ZAE rfl<|ZAF rfl rfl (by simpa using cg5)<|ZAJ (v:=enc (r_2==0)) rfl rfl rfl<|ZAZ rfl cg5 rfl<|ZAA ?_
    rw[←oi hb_b2];exact⟨hs,FxR rfl⟩
   rintro φ s ⟨hs,hF⟩;rw[←hF.eq];refine ZAA ?_
   split at h
   ·rename_i c';refine ZAH rfl c'<|ZAN ?_
    show if _ then _ else _
    rw[if_neg (by simp)]
    rw[←oi h];exact⟨_,rfl,rfl,⟨x,en3,hmx,trivial,(Hp.front [enF,(.gl (NG mx)),(.cells m_v [(enc r_3.1)]),(.cells m_v2 [x]),en3] (b:=[]) (Hp.front [(.gl (NG mx)),(.cells m_v [(enc r_3.1)]),(.cells m_v2 [x]),en3,(.cells m_v1 xs_v1)] (b:=[]) (Hp.front [(.cells m_v [(enc r_3.1)]),(.cells m_v2 [x]),en3,(.cells m_v1 xs_v1),enF] (b:=[]) (Hp.front [(.cells m_v2 [x]),en3] (b:=[(.cells m_v1 xs_v1),enF,(.gl (NG mx))]) (Hp.front [en3,(.cells m_v [(enc r_3.1)]),(.cells m_v1 xs_v1)] (b:=[enF,(.gl (NG mx))]) (Hp.front [(.cells m_v [(enc r_3.1)]),(.cells m_v1 xs_v1),(.cells m_v2 [x])] (b:=[enF,(.gl (NG mx))]) (Hp.drop [(.cells m_v [(enc r_3.1)]),(.cells m_v1 xs_v1),(.cells m_v2 [x]),en3] (b:=[enF,(.gl (NG mx))]) hs)))))))⟩⟩
   rename_i c';refine ZAI rfl c'<|ZAL<|ZAC<|ZAE rfl<|ZAG rfl<|ZAA<|ZAC<|ZAJ (v:=enc (IntKind.i64.wrap (v4+1))) rfl rfl rfl<|ZAE rfl<|ZAA ?_
   rw[←oi h];exact⟨_,rfl,⟨x,en3,hmx,FxR rfl,(Hp.front [(.cells m_v1 xs_v1),enF,(.gl (NG mx)),(.cells m_v [(enc r_3.1)]),(.cells m_v2 [x]),en3] (b:=[]) (Hp.front [enF,(.gl (NG mx)),(.cells m_v [(enc r_3.1)]),(.cells m_v2 [x]),en3] (b:=[(.cells m xs)]) (Hp.front [(.gl (NG mx)),(.cells m_v [(enc r_3.1)]),(.cells m_v2 [x]),en3,(.cells m_v1 xs_v1),(.cells m xs)] (b:=[]) (Hp.front [(.cells m_v [(enc r_3.1)]),(.cells m_v2 [x]),en3,(.cells m_v1 xs_v1),(.cells m xs),enF] (b:=[]) (Hp.front [(.cells m_v2 [x]),en3] (b:=[(.cells m_v1 xs_v1),(.cells m xs),enF,(.gl (NG mx))]) (Hp.front [en3,(.cells m_v [(enc r_3.1)]),(.cells m_v1 xs_v1)] (b:=[(.cells m xs),enF,(.gl (NG mx))]) (Hp.front [(.cells m_v [(enc r_3.1)]),(.cells m_v1 xs_v1),(.cells m_v2 [x])] (b:=[(.cells m xs),enF,(.gl (NG mx))]) hs)))))))⟩⟩
  rename_i c';refine ZAI rfl c'<|ZAf ?_
  rw[←oi h];exact⟨_,rfl,rfl,⟨x_v6,en,hm_x_v6,trivial,(Hp.drop [] (b:=[(.cells m_v1 xs_v1),enF,(.gl (NG mx)),(.cells m_v [(enc v5)]),(.cells m_v2 [x_v6]),en]) hs)⟩⟩
 intro e φ s hE;rcases o with⟨v7,v8⟩ | ⟨v9,v10⟩
 ·obtain⟨rfl,x_v8,en1,hm_x_v8,hF,hs⟩:=hE;rw[←hF.eq];rw[ZD9] at h;show if _ then _ else _
  rw[if_pos rfl];rw[←oi h];exact KN0 rfl ⟨_,_,hm_x_v8,(Hp.front [(.cells m_v1 xs_v1),(.cells m_v2 [x_v8]),en1,enF,(.gl (NG mx))] (b:=[]) (Hp.front [(.cells m_v2 [x_v8]),en1,enF,(.gl (NG mx))] (b:=[(.cells m_v [(enc v7)])]) (Hp.front [en1,enF,(.gl (NG mx)),(.cells m_v1 xs_v1),(.cells m_v [(enc v7)])] (b:=[]) (Hp.front [enF,(.gl (NG mx)),(.cells m_v1 xs_v1),(.cells m_v [(enc v7)]),(.cells m_v2 [x_v8])] (b:=[]) (Hp.front [(.gl (NG mx)),(.cells m_v1 xs_v1)] (b:=[(.cells m_v [(enc v7)]),(.cells m_v2 [x_v8]),en1]) (Hp.front [(.cells m_v1 xs_v1),enF] (b:=[(.cells m_v [(enc v7)]),(.cells m_v2 [x_v8]),en1]) hs))))))⟩
 obtain⟨rfl,x_v10,en2,hm_x_v10,hF,hs⟩:=hE;rw[←hF.eq];rw[ZD9] at h;show if _ then _ else _
 rw[if_neg (by simp)]
 rw[←oi h];exact⟨rfl,KN0 rfl ⟨_,_,hm_x_v10,(Hp.front [(.cells m_v1 xs_v1),(.cells m_v2 [x_v10]),en2,enF,(.gl (NG mx))] (b:=[]) (Hp.front [(.cells m_v2 [x_v10]),en2,enF,(.gl (NG mx))] (b:=[(.cells m_v [(enc v9)])]) (Hp.front [en2,enF,(.gl (NG mx)),(.cells m_v1 xs_v1),(.cells m_v [(enc v9)])] (b:=[]) (Hp.front [enF,(.gl (NG mx)),(.cells m_v1 xs_v1),(.cells m_v [(enc v9)]),(.cells m_v2 [x_v10])] (b:=[]) (Hp.front [(.gl (NG mx)),(.cells m_v1 xs_v1)] (b:=[(.cells m_v [(enc v9)]),(.cells m_v2 [x_v10]),en2]) (Hp.front [(.cells m_v1 xs_v1),enF] (b:=[(.cells m_v [(enc v9)]),(.cells m_v2 [x_v10]),en2]) hs))))))⟩⟩
theorem ZMs (mx:Int) (f:FsR) (num:Int) (r:Str) (h:ZCF f num=some r):MF Tryz.prog (pr1 mx) 10 [enc f,enc num] (sG (NG mx)) fun v _=>ris v r:=by
 refine ZAh [(0,enc f),(1,enc num)] func10 rfl (by simp only[Tryz.f10];rfl) fun ψ=> ?_
 unfold ZCF at h;have hs:Hp (sG (NG mx)) [.gl (NG mx)]:=Hp.gl0
 refine ZAB<|ZAC<|ZA5 (r:=f) rfl (Enc.self f) hs fun m xs s hxs hs=>ZAG (v:=enc ((str []):Str)) rfl<|ZAA<|ZAB<|ZAC<|ZRd (w:= .nils) (by kernel_rfl) rfl hs fun m1 s hs=> ?_
 replace hs:=Hp.add (x:= .nils) hs rfl;refine ZAA<|ZAB<|ZAC<|ZRd (w:=enc ((0:Int):Int)) (by kernel_rfl) rfl hs fun m2 s hs=>ZMq (v:=enc (0:Int)) sz3 rfl rfl rfl hs fun s hs=>ZAA<|ZAB<|ZAC ?_
 replace hs:=Hp.front [(.cells m2 [(enc (0:Int))]),(.own .nils),(.cells m1 [.nils])] (b:=[(.gl (NG mx))]) hs;refine ZAm (r:=f) ag24 sz24 rfl hxs hs fun y hy=>ZAE rfl<|ZRc rfl ?_
 replace hs:=Hp.front [(.cells m xs),(.cells m2 [(enc (0:Int))])] (b:=[(.cells m1 [.nils]),(.gl (NG mx))]) hs;replace hs:=Hp.front [(.own .nils),(.cells m xs),(.cells m2 [(enc (0:Int))])] (b:=[(.gl (NG mx))]) hs;replace hs:=Hp.front [(.cells m1 [.nils]),(.own .nils)] (b:=[(.cells m2 [(enc (0:Int))]),(.gl (NG mx))]) hs;replace hs:=Hp.front [(.cells m xs),(.cells m1 [.nils]),(.own .nils)] (b:=[(.gl (NG mx))]) hs;obtain⟨r_,hx,h⟩:=bs h;refine ZAt (by kernel_rfl) func22 rfl (vs:=[y,(enc num),(.fn 23 [] [(.ptr m2 0),(.ptr m 0),(.ptr m1 0)])]) rfl (MF.any (ZQD mx f num 0 f ([]:(List Str)) _ hx hy hxs (.inr ⟨rfl,isL.nil,rfl,rfl,rfl⟩) (Hp.packN [(.cells m2 [(enc (0:Int))]),(.cells m xs),(.cells m1 [.nils]),(.own .nils)] [(.gl (NG mx))] hs (Hp.glob hs (lM _ (lM _ (lM _ (lM _ List.mem_cons_self))))))) (ZO7 mx)) fun z s ⟨x,en,hmx,hq_⟩=> ?_
 replace hs:=Hp.unpackN [(.cells m2 [(enc (0:Int))]),(.cells m xs),(.cells m1 [.nils]),(.own .nils)] [(.cells m2 [(enc r_.1)]),(.cells m xs),(.cells m1 [x]),en] [(.gl (NG mx))] hs (Hp.glob hs (lM _ (lM _ (lM _ (lM _ List.mem_cons_self))))) hq_;refine ZAA<|ZAB<|ZAB<|ZAC<|ZJe ag3 rfl hs<|ZAJ (v:=enc (r_.1 !=1)) rfl rfl rfl<|ZAA ?_
 split at h
 ·rename_i c';refine ZAH rfl c'<|ZAB<|ZAC<|ZAG (v:=enc ((str []):Str)) rfl<|ZAA<|ZAN ?_
  rw[←oi h];exact⟨rfl,KE1 (a:=((str []):Str)) rfl rfl (rfl:is _ ((str []):Str)) (rfl:is _ ((str []):Str))⟩
 rename_i c';refine ZAI rfl c'<|ZAL<|ZAB<|ZAC ?_
 replace hs:=Hp.front [(.cells m2 [(enc r_.1)]),(.cells m xs)] (b:=[en,(.gl (NG mx))]) hs;refine ZJe ag43 rfl hs ?_
 replace hs:=Hp.front [(.cells m1 [x]),(.cells m2 [(enc r_.1)]),(.cells m xs)] (b:=[(.gl (NG mx))]) hs;refine ZJJ (q:=13) rfl hmx hs fun z1 s hz1 hs=> ?_
 obtain⟨r_1,hx1,h⟩:=bs h;refine ZAY (f:=fun a:(List Str)×Unit=>ZDa a.1) (a:=(r_.2,())) rfl func27 rfl rfl (.cons (a:=r_.2) hz1 .nil) hs (lM _ (lM _ (lM _ List.mem_cons_self))) hx1<|ZAG rfl<|ZAA<|ZAN ?_
 rw[←oi h];exact⟨rfl,KE1 (a:=r_1) rfl rfl (rfl:is _ r_1) (rfl:is _ r_1)⟩
theorem ZMt (mx:Int):ZAq Tryz.prog 10 (FnG (NG mx) (fun a:FsR×Int×Unit=>ZCF a.1 a.2.1)):=fnCG (ZO7 mx) ⟨_,func10,rfl⟩<|fun a r h=>ZMs mx a.1 a.2.1 r h
noncomputable def pr2 (mx:Int):Prims:=(pr1 mx).addG 10 (FnG (NG mx) (fun a:FsR×Int×Unit=>ZCF a.1 a.2.1))
theorem ZUX (mx:Int):ZAX Tryz.prog (pr2 mx):=ZAR (ZO7 mx) (ZMt mx)
end Go.Ai.Rab
end
section
set_option maxRecDepth 100000
open Go.Ai.Enc (enc is)
namespace Go.Ai.Rab
open Go.Proofs
def eqPl (a b:ZAU):Bool:=a.v.1==b.v.1 && (eqS a.v.2.1 b.v.2.1 && (a.v.2.2.1==b.v.2.2.1 && a.v.2.2.2.1==b.v.2.2.2.1))
theorem ZUY {w:World} {ρ:Pl} {U:Reg} {c:Nat} {u:AV} {a:ZAU} {v:Value} (h:is u a) (hr:Rel w ρ U c u v):v= .agg #[.int .i64 a.v.1, .string (ba a.v.2.1), .int .i64 a.v.2.2.1, .bool a.v.2.2.2.1]:=by
 obtain⟨xs,rfl,x1,r1,rfl,h1,x2,r2,rfl,h2,x3,r3,rfl,h3,x4,r4,rfl,h4,h5⟩:=h;have h1:x1= .int .i64 a.v.1:=h1
 have h2:x2=enc a.v.2.1:=h2
 have h3:x3= .int .i64 a.v.2.2.1:=h3
 have h4:x4= .bool a.v.2.2.2.1:=h4
 have h5:r4=[]:=h5
 subst h1;subst h2;subst h3;subst h4;subst h5;simp only[Rel,RelL] at hr;obtain⟨ws,rfl,v1,w1,rfl,rfl,v2,w2,rfl,g2,v3,w3,rfl,rfl,v4,w4,rfl,rfl,rfl⟩:=hr;rw[ZFR g2]
theorem ZRe (a c a' c' :Int) (s s' :ByteArray) (d d' :Bool) (w:World):(binOp .eql 29 (.agg #[.int .i64 a, .string s, .int .i64 c, .bool d]) (.agg #[.int .i64 a', .string s', .int .i64 c', .bool d'])).run Tryz.prog w= .ok (.bool (a==a' && (s.toList==s'.toList && (c==c' && d==d')))) w:=by
 have i3:Tryz.prog.underlying 3=some (.int .i64):=Tryz.underlying3
 have h1:(Op.equalIn (9999+1) 29 (.agg #[.int .i64 a, .string s, .int .i64 c, .bool d]) (.agg #[.int .i64 a', .string s', .int .i64 c', .bool d'])).run Tryz.prog w= .ok (a==a' && (s.toList==s'.toList && (c==c' && d==d'))) w:=by
  rw[run_equalIn_agg w 9999 29 _ _ (by kernel_rfl) (by kernel_rfl)]
  simp only[Program.fieldsOf,Tryz.underlying29];have e1:∀k,(Op.equalIn 9999 3 (.int .i64 k) (.int .i64 a')).run Tryz.prog w= .ok (k==a') w:=fun k=>run_equalIn_int w 9998 3 .i64 .i64 k a' Tryz.underlying3
  have e2:=run_equalIn_string w 9998 9 s s' Tryz.underlying9;have e3:=run_equalIn_int w 9998 3 .i64 .i64 c c' Tryz.underlying3;have e4:=run_equalIn_bool' w 9998 4 d d' Tryz.underlying4;simp[Op.eqFields,part,isAgg,run_underlying Tryz.underlying3,run_underlying Tryz.underlying9,run_underlying Tryz.underlying4,e1,e2,e3,e4]
  by_cases p1:a=a' <;> by_cases p2:s.toList=s'.toList<;> by_cases p3:c=c' <;> by_cases p4:d=d' <;> simp[p1,p2,p3,p4]
 rw[run_eql_struct];show((Op.equalIn (9999+1) 29 _ _).run Tryz.prog w).andThen _=_
 rw[h1];rfl
theorem ZRf (s:Str):(ba s).toList=s:=by rw[ByteArray.toList_eq];rfl
section
variable {prims:Prims} {n:Nat} {K:Fm→St→Prop} {φ:Fm} {s:St} {ops:Array Oper} {l:List Oper} {d:Tmp} {x y:Operand} {t' ty:TypeId} {pos:String} {af:Array Edge} {u v:AV} {es:List En}
theorem ZVR {a b:ZAU} (hx:ZAb n φ x=some u) (hy:ZAb n φ y=some v) (ha:is u a) (hb:is v b) (k:TO Tryz.prog prims n false ops l K (upd φ d (enc (eqPl a b))) s):TO Tryz.prog prims n false ops (⟨some d, .binOp .eql 29 x y t',ty,pos,af,none⟩::l) K φ s:=by
 refine ZG2 rfl fun hp base ρ X w A0 A B hb' hsim hrl hdf hA=> ?_
 have hv:=ZUY ha (ZAW hrl (ZAM hx));have hv2:=ZUY hb (ZAW hrl (ZAM hy));have hrun:∀w,(execOp A0.eval (⟨some d, .binOp .eql 29 x y t',ty,pos,af,none⟩:Oper)).run Tryz.prog w= .ok (.value (.bool (eqPl a b))) w:=fun w=>by
  simp only[execOp];rw[hv,hv2];have hg:=run_eqGuard_agg (P:=Tryz.prog) w .eql 29 x y #[.int .i64 a.v.1, .string (ba a.v.2.1), .int .i64 a.v.2.2.1, .bool a.v.2.2.2.1] #[.int .i64 b.v.1, .string (ba b.v.2.1), .int .i64 b.v.2.2.1, .bool b.v.2.2.2.1] (by kernel_rfl)
  have he:=ZRe a.v.1 a.v.2.2.1 b.v.1 b.v.2.2.1 (ba a.v.2.1) (ba b.v.2.1) a.v.2.2.2.1 b.v.2.2.2.1 w;simp only[ZRf] at he;simp[hg,he,eqPl,eqS]
 refine⟨fun _=>⟨_,hrun⟩,?_⟩
 exact ZC5 (v' := .bool (eqPl a b)) (w' :=w) (hrun w) (hA _ _ _ w k (.same hsim (by show Rel _ _ _ _ (.bool _) _;simp only[Rel])) fun _=>Sub.refl w)
end
end Go.Ai.Rab
end
