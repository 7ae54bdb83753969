/- My own texts DevPgA, one behind the other. -/
import Derived.Test.YtcffjblfdjkcbaaGreatDoorWAF
import Derived.Test.YtcffjblfdjkcbaaGreatDoorWAE
set_option linter.unusedVariables false
set_option linter.unusedSimpArgs false
set_option maxRecDepth 100000
set_option maxHeartbeats 16000000
attribute [local irreducible] Go.Ai.TC Go.Ai.TO Go.Ai.MF Go.Ai.ZE6 Go.Ai.ZDC Go.Ai.encR
open Go.Ai.Enc (enc is)
open Go.Ai.Res (res ris)
open Go.Ai.Args (args)
open Go.Ai.Flds (fe fi fk)
open Go.Proofs
namespace Go.Ai.Rab
open Go.Proofs TTryz Tryz
theorem ZM0:ZAr Tryz.prog 37 (fun _=>Fn (fun a:ZAF×Unit=>ZBy a.1)):=fnC ZRG ⟨_,func37,rfl⟩<|fun a r h=>ZMz a.1 r h
noncomputable def pz18:Prims:=pz17.add 37 (Fn (fun a:ZAF×Unit=>ZBy a.1))
theorem ZRH:ZAV Tryz.prog pz18:=ZAS ZRG ZM0
theorem ZKJ (f:FsR) (r:Bool) (h:ZCf f=some r):MF Tryz.prog pz18 60 [enc f] s0 fun v _=>ris v r:=by
 refine ZAe [(0,enc f)] func60 rfl (by simp only[Tryz.f60];rfl) fun ψ=> ?_
 unfold ZCf at h;refine ZAB<|ZAC<|ZA1 (r:=f) rfl (Enc.self f) Hp.nil fun m xs s hxs hs=>ZAG (v:=enc false) rfl<|ZAA<|ZAB<|ZAB<|ZAC<|ZAG (v:=enc (0:Int)) rfl<|ZAA<|ZAQ ?_
 obtain⟨o,hl,h⟩:=bs h;refine ZAm (fun(p:Int) φ s=>match p with | i=>Fx φ [(1,(.ptr m 0)),(3,(enc i))]∧Hp s [(.cells m xs)]) (fun(o:(Unit ⊕ Bool)) e φ s=>match o with | (.inl _)=>e= .exit 0∧Fx φ [] | (.inr v)=>e= .ret∧Fx φ [(2,(enc v))]) ?_ hl ⟨FxR rfl,hs⟩ ?_
 ·rintro i o h φ s ⟨hF,hs⟩;rw[←hF.eq];rw[ZEp] at h;refine ZAB<|ZAB<|ZAC<|ZAD rfl<|ZAO ZAk rfl<|ZAK ag22 Sz rfl hxs hs fun y hy=>ZAp underlying22 rfl rfl hy<|ZAL (v:=enc (decide (i<(f.v.1.length:Int)))) rfl rfl rfl<|ZAA ?_
  split at h
  ·rename_i c';refine ZAI rfl c'<|ZAM<|ZAB<|ZAQ<|ZAB<|ZAC<|ZAO ZAk rfl<|ZAK ag22 Sz rfl hxs hs fun y1 hy1=>ZAD rfl ?_
   obtain⟨v1,hx,h⟩:=bs h;refine ZAv underlying22 sh38 rfl rfl hy1 hx fun p hp=>ZBb ag38 sz38 rfl hp fun y2 hy2=>ZAw (r:=(Rec.mk ((0:Int),(0:Int),(0:Int),(0:Int),([]:(List UInt8)),(str []),([]:(List Str)),([]:(List Int)),([]:(List ZAd)),()):ZAF)) zr38 zf38 hs fun m1 s hs=>ZAZ (r:=v1) sz38 rfl rfl zf38 hy2 hs fun xs1 s hxs1 hs=>ZAA<|ZAB<|ZAB<|ZAo (by decide+kernel) (by decide+kernel)<|ZAU (r:=v1) ag38 sz38 rfl hxs1 hs fun y3 hy3=> ?_
   obtain⟨r_,hx1,h⟩:=bs h;refine ZAj (f:=fun a:ZAF×Unit=>ZBy a.1) (a:=(v1,())) rfl func37 rfl rfl (.cons (a:=v1) hy3 .nil) hx1<|ZBS (v:=enc (!r_)) rfl rfl<|ZAD rfl ?_
   obtain⟨b,hb_b,h⟩:=bs h;refine ZAT 15 (fun φ s=>Hp s [(.cells m1 xs1),(.cells m xs)]∧Fx φ [(1,(.ptr m 0)),(3,(enc i)),(4,(.ptr m1 0)),(36,(enc b))]) ?_ ?_
   ·split at hb_b
    ·rename_i cg;refine ZAE rfl rfl (by simpa using cg)<|ZAE rfl rfl (by simpa using cg)<|ZAE rfl rfl (by simpa using cg)<|ZAR rfl rfl<|ZAR rfl rfl<|ZAR rfl rfl<|ZAR rfl rfl<|ZAR rfl rfl<|ZAR rfl rfl<|ZAR rfl rfl<|ZAR rfl rfl<|ZAR rfl rfl<|ZAR rfl rfl<|ZAE rfl rfl (by simpa using cg)<|ZAY (v:=enc true) rfl cg rfl ?_
     refine ZAA ?_
     rw[←oi hb_b];exact⟨hs,FxR rfl⟩
    rename_i cg1;refine ZAH rfl rfl (by simpa using cg1)<|ZAD rfl<|ZAH rfl rfl (by simpa using cg1)<|ZAL (v:=enc (decide (i > 0))) rfl rfl rfl<|ZAH rfl rfl (by simpa using cg1)<|ZAD rfl ?_
    obtain⟨b1,hb_b1,hb_b⟩:=bs hb_b;refine ZAT 11 (fun φ s=>Hp s [(.cells m1 xs1),(.cells m xs)]∧Fx φ [(1,(.ptr m 0)),(3,(enc i)),(4,(.ptr m1 0)),(21,(enc (!r_))),(35,(enc b1))]) ?_ ?_
    ·split at hb_b1
     ·rename_i cg2;refine ZAH rfl rfl cg2<|ZAO ZBO rfl<|ZAH rfl rfl cg2<|ZAK ag3 Sz rfl hxs1 hs fun y4 hy4=> ?_
      cases hy4;refine ZAH rfl rfl cg2<|ZAO ZAk rfl<|ZAH rfl rfl cg2 ?_
      replace hs:=Hp.front [(.cells m1 xs1)] (b:=[]) hs;refine ZAK ag22 Sz rfl hxs hs fun y5 hy5=>ZAH rfl rfl cg2<|ZAD rfl<|ZAH rfl rfl cg2<|ZAL (v:=enc (IntKind.i64.wrap (i - 1))) rfl rfl rfl<|ZAH rfl rfl cg2 ?_
      obtain⟨v2,hx2,hb_b1⟩:=bs hb_b1;refine ZAv underlying22 sh38 rfl rfl hy5 hx2 fun p1 hp1=>ZAH rfl rfl cg2<|ZB5 ZBO Sz rfl hp1 fun p2 hp2=>ZAH rfl rfl cg2<|ZBG ag3 rfl hp2 fun y6 hy6=> ?_
      cases hy6;refine ZAH rfl rfl cg2<|ZAL (v:=enc (decide (v1.v.1≤v2.v.1))) rfl rfl rfl<|ZAH rfl rfl (by simpa using cg1)<|ZAY rfl cg2 rfl<|ZAA ?_
      rw[←oi hb_b1];exact⟨(Hp.front [(.cells m xs)] (b:=[]) (Hp.front [] (b:=[(.cells m1 xs1)]) hs)),FxR rfl⟩
     rename_i cg3;refine ZAE rfl rfl cg3<|ZAE rfl rfl cg3<|ZAE rfl rfl cg3<|ZAE rfl rfl cg3<|ZAE rfl rfl cg3<|ZAE rfl rfl cg3<|ZAE rfl rfl cg3<|ZAE rfl rfl cg3<|ZAE rfl rfl cg3<|ZAE rfl rfl cg3<|ZAH rfl rfl (by simpa using cg1)<|ZAX (v:=enc false) rfl cg3 rfl<|ZAA ?_
     rw[←oi hb_b1];exact⟨hs,FxR rfl⟩
    rintro φ s ⟨hs,hF⟩;rw[←hF.eq];refine ZAX rfl cg1 rfl<|ZAA ?_
    rw[←oi hb_b];exact⟨hs,FxR rfl⟩
   rintro φ s ⟨hs,hF⟩;rw[←hF.eq];refine ZAA ?_
   split at h
   ·rename_i c';refine ZAI rfl c'<|ZAB<|ZAC<|ZAG (v:=enc false) rfl<|ZAA<|ZAN ?_
    show if _ then _ else _
    rw[if_neg (by simp)]
    rw[←oi h];exact⟨_,rfl,rfl,FxR rfl⟩
   rename_i c';refine ZAJ rfl c'<|ZAM<|ZAB<|ZAC<|ZAG (v:=enc (0:Int)) rfl<|ZAA<|ZAQ ?_
   obtain⟨o,hl,h⟩:=bs h;refine ZAm (fun(p:Int) φ s=>match p with | k=>Fx φ [(1,(.ptr m 0)),(3,(enc i)),(4,(.ptr m1 0)),(5,(enc k))]∧Hp s [(.cells m1 xs1),(.cells m xs)]) (fun(o:(Unit ⊕ Bool)) e φ s=>match o with | (.inl _)=>e= .exit 2∧Fx φ [(1,(.ptr m 0)),(3,(enc i))]∧Hp s [(.cells m xs)] | (.inr v3)=>e= .ret∧Fx φ [(2,(enc v3))]) ?_ hl ⟨FxR rfl,hs⟩ ?_
   ·rintro k o h φ s ⟨hF,hs⟩;rw[←hF.eq];rw[ZDN] at h;refine ZAB<|ZAB<|ZAC<|ZAD rfl<|ZAO ZBY rfl<|ZAK ag35 (Ss (Ss (Ss (Ss (Ss (Ss (Ss Sz))))))) rfl hxs1 hs fun y7 hy7=>ZAp underlying35 rfl rfl hy7<|ZAL (v:=enc (decide (k<(v1.v.2.2.2.2.2.2.2.1.length:Int)))) rfl rfl rfl<|ZAA ?_
    split at h
    ·rename_i c';refine ZAI rfl c'<|ZAM<|ZAB<|ZAQ<|ZAB<|ZAo (by decide+kernel) (by decide+kernel) ?_
     replace hs:=Hp.front [(.cells m1 xs1)] (b:=[]) hs;refine ZAU (r:=f) ag24 sz24 rfl hxs hs fun y8 hy8=>ZAO ZBY rfl ?_
     replace hs:=Hp.front [(.cells m xs)] (b:=[]) hs;refine ZAK ag35 (Ss (Ss (Ss (Ss (Ss (Ss (Ss Sz))))))) rfl hxs1 hs fun y9 hy9=>ZAD rfl ?_
     obtain⟨v4,hx3,h⟩:=bs h;refine ZAv underlying35 sh3 rfl rfl hy9 hx3 fun p3 hp3=>ZCq rfl ag3 rfl hp3 fun y10 hy10=> ?_
     cases hy10;obtain⟨r_1,hx4,h⟩:=bs h;refine ZAj (f:=fun a:FsR×Int×Unit=>ZA8 a.1 a.2.1) (a:=(f,v4,())) rfl func36 rfl rfl (.cons (a:=f) hy8 (.cons (a:=v4) (Enc.self _) .nil)) hx4<|ZAL (v:=enc (decide (r_1<0))) rfl rfl rfl<|ZAA ?_
     split at h
     ·rename_i c';refine ZAI rfl c'<|ZAB<|ZAC<|ZAG (v:=enc false) rfl<|ZAA<|ZAN ?_
      show if _ then _ else _
      rw[if_neg (by simp)]
      rw[←oi h];exact⟨_,rfl,rfl,FxR rfl⟩
     rename_i c';refine ZAJ rfl c'<|ZAM<|ZAC<|ZAD rfl<|ZAL (v:=enc (IntKind.i64.wrap (k+1))) rfl rfl rfl<|ZAG rfl<|ZAA ?_
     rw[←oi h];exact⟨_,rfl,⟨FxR rfl,hs⟩⟩
    rename_i c';refine ZAJ rfl c'<|ZAl ?_
    rw[←oi h];exact⟨_,rfl,rfl,⟨FxR rfl,(Hp.drop [] (b:=[(.cells m xs)]) hs)⟩⟩
   intro e φ s hE;rcases o with _u | v3
   ·obtain⟨rfl,hF,hs⟩:=hE;rw[←hF.eq];rw[ZEo] at h;show if _ then _ else _
    rw[if_pos rfl];refine ZAC<|ZAD rfl<|ZAL (v:=enc (IntKind.i64.wrap (i+1))) rfl rfl rfl<|ZAG rfl<|ZAA ?_
    rw[←oi h];exact⟨_,rfl,⟨FxR rfl,hs⟩⟩
   obtain⟨rfl,hF⟩:=hE;rw[←hF.eq];rw[ZEo] at h;show if _ then _ else _
   rw[if_neg (by simp)]
   show if _ then _ else _
   rw[if_neg (by simp)]
   rw[←oi h];exact⟨_,rfl,rfl,FxR rfl⟩
  rename_i c';refine ZAJ rfl c'<|ZAl ?_
  rw[←oi h];exact⟨_,rfl,rfl,trivial⟩
 intro e φ s hE;rcases o with _u | v
 ·obtain⟨rfl,hF⟩:=hE;rw[←hF.eq];rw[ZEq] at h;show if _ then _ else _
  rw[if_pos rfl];refine ZAB<|ZAC<|ZAG (v:=enc true) rfl<|ZAA<|ZAN ?_
  rw[←oi h];exact⟨rfl,KE1 (a:=(true:Bool)) rfl rfl (rfl:is _ (true:Bool)) (rfl:is _ (true:Bool))⟩
 obtain⟨rfl,hF⟩:=hE;rw[←hF.eq];rw[ZEq] at h;show if _ then _ else _
 rw[if_neg (by simp)]
 rw[←oi h];exact⟨rfl,KE1 (a:=v) rfl rfl (rfl:is _ v) (rfl:is _ v)⟩
theorem ZKK:ZAr Tryz.prog 60 (fun _=>Fn (fun a:FsR×Unit=>ZCf a.1)):=fnC ZRH ⟨_,func60,rfl⟩<|fun a r h=>ZKJ a.1 r h
noncomputable def pz19:Prims:=pz18.add 60 (Fn (fun a:FsR×Unit=>ZCf a.1))
theorem ZRI:ZAV Tryz.prog pz19:=ZAS ZRH ZKK
theorem ZM1 (f:FsR) (r:Bool) (h:ZBP f=some r):MF Tryz.prog pz19 35 [enc f] s0 fun v _=>ris v r:=by
 refine ZAe [(0,enc f)] func35 rfl (by simp only[Tryz.f35];rfl) fun ψ=> ?_
 unfold ZBP at h;refine ZAB<|ZAC<|ZA1 (r:=f) rfl (Enc.self f) Hp.nil fun m xs s hxs hs=>ZAG (v:=enc false) rfl<|ZAA<|ZAB<|ZAC<|ZAO ZAk rfl<|ZAK ag22 Sz rfl hxs hs fun y hy=>ZAp underlying22 rfl rfl hy<|ZAG rfl<|ZAA<|ZAB<|ZAB<|ZAC ?_
 refine ZAD rfl<|ZAL (v:=enc (decide ((f.v.1.length:Int)<1))) rfl rfl rfl<|ZAD rfl ?_
 obtain⟨b,hb_b,h⟩:=bs h;refine ZAT 3 (fun φ s=>Hp s [(.cells m xs)]∧Fx φ [(1,(.ptr m 0)),(3,(enc ((f.v.1.length:Int):Int))),(15,(enc b))]) ?_ ?_
 ·split at hb_b
  ·rename_i cg;refine ZAE rfl rfl (by simpa using cg)<|ZAE rfl rfl (by simpa using cg)<|ZAY (v:=enc true) rfl cg rfl<|ZAA ?_
   rw[←oi hb_b];exact⟨hs,FxR rfl⟩
  rename_i cg1;refine ZAH rfl rfl (by simpa using cg1)<|ZAD rfl<|ZAH rfl rfl (by simpa using cg1)<|ZAL (v:=enc (decide ((f.v.1.length:Int) > 512))) rfl rfl rfl<|ZAX rfl cg1 rfl<|ZAA ?_
  rw[←oi hb_b];exact⟨hs,FxR rfl⟩
 rintro φ s ⟨hs,hF⟩;rw[←hF.eq];refine ZAD rfl ?_
 obtain⟨b1,hb_b1,h⟩:=bs h;refine ZAT 7 (fun φ s=>Hp s [(.cells m xs)]∧Fx φ [(1,(.ptr m 0)),(3,(enc ((f.v.1.length:Int):Int))),(23,(enc b1))]) ?_ ?_
 ·split at hb_b1
  ·rename_i cg2;refine ZAE rfl rfl (by simpa using cg2)<|ZAE rfl rfl (by simpa using cg2)<|ZAE rfl rfl (by simpa using cg2)<|ZAE rfl rfl (by simpa using cg2)<|ZAE rfl rfl (by simpa using cg2)<|ZAE rfl rfl (by simpa using cg2)<|ZAY (v:=enc true) rfl cg2 rfl<|ZAA ?_
   rw[←oi hb_b1];exact⟨hs,FxR rfl⟩
  rename_i cg3;refine ZAH rfl rfl (by simpa using cg3)<|ZAO ZAk rfl<|ZAH rfl rfl (by simpa using cg3)<|ZAK ag22 Sz rfl hxs hs fun y1 hy1=>ZAH rfl rfl (by simpa using cg3) ?_
  obtain⟨v,hx,hb_b1⟩:=bs hb_b1;refine ZAv underlying22 sh38 rfl rfl hy1 hx fun p hp=>ZAH rfl rfl (by simpa using cg3)<|ZB5 ZBO Sz rfl hp fun p1 hp1=>ZAH rfl rfl (by simpa using cg3)<|ZBG ag3 rfl hp1 fun y2 hy2=> ?_
  cases hy2;refine ZAH rfl rfl (by simpa using cg3)<|ZAL (v:=enc (v.v.1 !=1)) rfl rfl rfl<|ZAX rfl cg3 rfl<|ZAA ?_
  rw[←oi hb_b1];exact⟨hs,FxR rfl⟩
 rintro φ s ⟨hs,hF⟩;rw[←hF.eq];refine ZAD rfl ?_
 obtain⟨b2,hb_b2,h⟩:=bs h;refine ZAT 7 (fun φ s=>Hp s [(.cells m xs)]∧Fx φ [(1,(.ptr m 0)),(3,(enc ((f.v.1.length:Int):Int))),(31,(enc b2))]) ?_ ?_
 ·split at hb_b2
  ·rename_i cg4;refine ZAE rfl rfl (by simpa using cg4)<|ZAE rfl rfl (by simpa using cg4)<|ZAE rfl rfl (by simpa using cg4)<|ZAE rfl rfl (by simpa using cg4)<|ZAE rfl rfl (by simpa using cg4)<|ZAE rfl rfl (by simpa using cg4)<|ZAY (v:=enc true) rfl cg4 rfl<|ZAA ?_
   rw[←oi hb_b2];exact⟨hs,FxR rfl⟩
  rename_i cg5;refine ZAH rfl rfl (by simpa using cg5)<|ZAO ZAk rfl<|ZAH rfl rfl (by simpa using cg5)<|ZAK ag22 Sz rfl hxs hs fun y3 hy3=>ZAH rfl rfl (by simpa using cg5) ?_
  obtain⟨v1,hx1,hb_b2⟩:=bs hb_b2;refine ZAv underlying22 sh38 rfl rfl hy3 hx1 fun p2 hp2=>ZAH rfl rfl (by simpa using cg5)<|ZB5 ZCR (Ss Sz) rfl hp2 fun p3 hp3=>ZAH rfl rfl (by simpa using cg5)<|ZBG ag25 rfl hp3 fun y4 hy4=> ?_
  cases hy4;refine ZAH rfl rfl (by simpa using cg5)<|ZAL (v:=enc (v1.v.2.1 !=2)) rfl rfl rfl<|ZAX rfl cg5 rfl<|ZAA ?_
  rw[←oi hb_b2];exact⟨hs,FxR rfl⟩
 rintro φ s ⟨hs,hF⟩;rw[←hF.eq];refine ZAD rfl ?_
 obtain⟨b3,hb_b3,h⟩:=bs h;refine ZAT 4 (fun φ s=>Hp s [(.cells m xs)]∧Fx φ [(1,(.ptr m 0)),(3,(enc ((f.v.1.length:Int):Int))),(36,(enc b3))]) ?_ ?_
 ·split at hb_b3
  ·rename_i cg6;refine ZAE rfl rfl (by simpa using cg6)<|ZAE rfl rfl (by simpa using cg6)<|ZAE rfl rfl (by simpa using cg6)<|ZAY (v:=enc true) rfl cg6 rfl<|ZAA ?_
   rw[←oi hb_b3];exact⟨hs,FxR rfl⟩
  rename_i cg7;refine ZAH rfl rfl (by simpa using cg7)<|ZAO ZFp rfl<|ZAH rfl rfl (by simpa using cg7)<|ZAK ag3 (Ss Sz) rfl hxs hs fun y5 hy5=> ?_
  cases hy5;refine ZAH rfl rfl (by simpa using cg7)<|ZAL (v:=enc (decide (f.v.2.1<2))) rfl rfl rfl<|ZAX rfl cg7 rfl<|ZAA ?_
  rw[←oi hb_b3];exact⟨hs,FxR rfl⟩
 rintro φ s ⟨hs,hF⟩;rw[←hF.eq];refine ZAD rfl ?_
 obtain⟨b4,hb_b4,h⟩:=bs h;refine ZAT 4 (fun φ s=>Hp s [(.cells m xs)]∧Fx φ [(1,(.ptr m 0)),(3,(enc ((f.v.1.length:Int):Int))),(41,(enc b4))]) ?_ ?_
 ·split at hb_b4
  ·rename_i cg8;refine ZAE rfl rfl (by simpa using cg8)<|ZAE rfl rfl (by simpa using cg8)<|ZAE rfl rfl (by simpa using cg8)<|ZAY (v:=enc true) rfl cg8 rfl<|ZAA ?_
   rw[←oi hb_b4];exact⟨hs,FxR rfl⟩
  rename_i cg9;refine ZAH rfl rfl (by simpa using cg9)<|ZAO ZFp rfl<|ZAH rfl rfl (by simpa using cg9)<|ZAK ag3 (Ss Sz) rfl hxs hs fun y6 hy6=> ?_
  cases hy6;refine ZAH rfl rfl (by simpa using cg9)<|ZAL (v:=enc (decide (f.v.2.1 > 513))) rfl rfl rfl<|ZAX rfl cg9 rfl<|ZAA ?_
  rw[←oi hb_b4];exact⟨hs,FxR rfl⟩
 rintro φ s ⟨hs,hF⟩;rw[←hF.eq];refine ZAD rfl ?_
 obtain⟨b5,hb_b5,h⟩:=bs h;refine ZAT 4 (fun φ s=>Hp s [(.cells m xs)]∧Fx φ [(1,(.ptr m 0)),(3,(enc ((f.v.1.length:Int):Int))),(46,(enc b5))]) ?_ ?_
 ·split at hb_b5
  ·rename_i cg10;refine ZAE rfl rfl (by simpa using cg10)<|ZAE rfl rfl (by simpa using cg10)<|ZAE rfl rfl (by simpa using cg10)<|ZAY (v:=enc true) rfl cg10 rfl<|ZAA ?_
   rw[←oi hb_b5];exact⟨hs,FxR rfl⟩
  rename_i cg11;refine ZAH rfl rfl (by simpa using cg11)<|ZAU (r:=f) ag24 sz24 rfl hxs hs fun y7 hy7=>ZAH rfl rfl (by simpa using cg11) ?_
  obtain⟨r_,hx2,hb_b5⟩:=bs hb_b5;refine ZAj (f:=fun a:FsR×Unit=>ZCf a.1) (a:=(f,())) rfl func60 rfl rfl (.cons (a:=f) hy7 .nil) hx2<|ZAH rfl rfl (by simpa using cg11)<|ZBS (v:=enc (!r_)) rfl rfl<|ZAX rfl cg11 rfl<|ZAA ?_
  rw[←oi hb_b5];exact⟨hs,FxR rfl⟩
 rintro φ s ⟨hs,hF⟩;rw[←hF.eq];refine ZAA ?_
 split at h
 ·rename_i c';refine ZAI rfl c'<|ZAB<|ZAC<|ZAG (v:=enc false) rfl<|ZAA<|ZAN ?_
  rw[←oi h];exact⟨rfl,KE1 (a:=(false:Bool)) rfl rfl (rfl:is _ (false:Bool)) (rfl:is _ (false:Bool))⟩
 rename_i c';refine ZAJ rfl c'<|ZAM<|ZAB<|ZAB<|ZAC<|ZAG (v:=enc (0:Int)) rfl<|ZAA<|ZAQ ?_
 obtain⟨o,hl,h⟩:=bs h;refine ZAm (fun(p:Int) φ s=>match p with | i=>Fx φ [(1,(.ptr m 0)),(3,(enc ((f.v.1.length:Int):Int))),(4,(enc i))]∧Hp s [(.cells m xs)]) (fun(o:(Unit ⊕ Bool)) e φ s=>match o with | (.inl _)=>e= .exit 0∧Fx φ [] | (.inr v2)=>e= .ret∧Fx φ [(2,(enc v2))]) ?_ hl ⟨FxR rfl,hs⟩ ?_
 ·rintro i o h φ s ⟨hF,hs⟩;rw[←hF.eq];rw[ZEb] at h;refine ZAB<|ZAB<|ZAC<|ZAD rfl<|ZAD rfl<|ZAL (v:=enc (decide (i<(f.v.1.length:Int)))) rfl rfl rfl<|ZAA ?_
  split at h
  ·rename_i c';refine ZAI rfl c'<|ZAM<|ZAB<|ZAQ<|ZAB<|ZAC<|ZAO ZAk rfl<|ZAK ag22 Sz rfl hxs hs fun y8 hy8=>ZAD rfl ?_
   obtain⟨v3,hx3,h⟩:=bs h;refine ZAv underlying22 sh38 rfl rfl hy8 hx3 fun p4 hp4=>ZBb ag38 sz38 rfl hp4 fun y9 hy9=>ZAw (r:=(Rec.mk ((0:Int),(0:Int),(0:Int),(0:Int),([]:(List UInt8)),(str []),([]:(List Str)),([]:(List Int)),([]:(List ZAd)),()):ZAF)) zr38 zf38 hs fun m1 s hs=>ZAZ (r:=v3) sz38 rfl rfl zf38 hy9 hs fun xs1 s hxs1 hs=>ZAA<|ZAB<|ZAC ?_
   replace hs:=Hp.front [(.cells m1 xs1)] (b:=[]) hs;refine ZAU (r:=f) ag24 sz24 rfl hxs hs fun y10 hy10=>ZAO ZBO rfl ?_
   replace hs:=Hp.front [(.cells m xs)] (b:=[]) hs;refine ZAK ag3 Sz rfl hxs1 hs fun y11 hy11=> ?_
   cases hy11;obtain⟨r_1,hx4,h⟩:=bs h;refine ZAj (f:=fun a:FsR×Int×Unit=>ZCM a.1 a.2.1) (a:=(f,v3.v.1,())) rfl func50 rfl rfl (.cons (a:=f) hy10 (.cons (a:=v3.v.1) (Enc.self _) .nil)) hx4<|ZAG rfl<|ZAA<|ZAB<|ZAC<|ZAO ZCR rfl<|ZAK ag25 (Ss Sz) rfl hxs1 hs fun y12 hy12=> ?_
   cases hy12;refine ZAL (v:=enc (v3.v.2.1 !=2)) rfl rfl rfl<|ZAD rfl ?_
   obtain⟨b6,hb_b6,h⟩:=bs h;refine ZAT 5 (fun φ s=>Hp s [(.cells m1 xs1),(.cells m xs)]∧Fx φ [(1,(.ptr m 0)),(3,(enc ((f.v.1.length:Int):Int))),(4,(enc i)),(5,(.ptr m1 0)),(6,(enc r_1)),(69,(enc b6))]) ?_ ?_
   ·split at hb_b6
    ·rename_i cg12;refine ZAH rfl rfl cg12<|ZAD rfl<|ZAH rfl rfl cg12<|ZAO ZCD rfl<|ZAH rfl rfl cg12<|ZAK ag3 (Ss (Ss (Ss Sz))) rfl hxs1 hs fun y13 hy13=> ?_
     cases hy13;refine ZAH rfl rfl cg12<|ZAL (v:=enc (r_1 !=v3.v.2.2.2.1)) rfl rfl rfl<|ZAY rfl cg12 rfl<|ZAA ?_
     rw[←oi hb_b6];exact⟨hs,FxR rfl⟩
    rename_i cg13;refine ZAE rfl rfl cg13<|ZAE rfl rfl cg13<|ZAE rfl rfl cg13<|ZAE rfl rfl cg13<|ZAX (v:=enc false) rfl cg13 rfl<|ZAA ?_
    rw[←oi hb_b6];exact⟨hs,FxR rfl⟩
   rintro φ s ⟨hs,hF⟩;rw[←hF.eq];refine ZAD rfl ?_
   obtain⟨b7,hb_b7,h⟩:=bs h;refine ZAT 23 (fun φ s=>Hp s [(.cells m1 xs1),(.cells m xs)]∧Fx φ [(1,(.ptr m 0)),(3,(enc ((f.v.1.length:Int):Int))),(4,(enc i)),(93,(enc b7))]) ?_ ?_
   ·split at hb_b7
    ·rename_i cg14;refine ZAE rfl rfl (by simpa using cg14)<|ZAE rfl rfl (by simpa using cg14)<|ZAE rfl rfl (by simpa using cg14)<|ZAE rfl rfl (by simpa using cg14)<|ZAR rfl rfl<|ZAR rfl rfl<|ZAR rfl rfl<|ZAR rfl rfl<|ZAR rfl rfl<|ZAR rfl rfl<|ZAR rfl rfl<|ZAR rfl rfl<|ZAR rfl rfl<|ZAR rfl rfl<|ZAR rfl rfl ?_
     refine ZAR rfl rfl<|ZAR rfl rfl<|ZAR rfl rfl<|ZAR rfl rfl<|ZAR rfl rfl<|ZAR rfl rfl<|ZAE rfl rfl (by simpa using cg14)<|ZAY (v:=enc true) rfl cg14 rfl<|ZAA ?_
     rw[←oi hb_b7];exact⟨hs,FxR rfl⟩
    rename_i cg15;refine ZAH rfl rfl (by simpa using cg15)<|ZAO ZCR rfl<|ZAH rfl rfl (by simpa using cg15)<|ZAK ag25 (Ss Sz) rfl hxs1 hs fun y14 hy14=> ?_
    cases hy14;refine ZAH rfl rfl (by simpa using cg15)<|ZAL (v:=enc (v3.v.2.1==2)) rfl rfl rfl<|ZAH rfl rfl (by simpa using cg15)<|ZAD rfl ?_
    obtain⟨b8,hb_b8,hb_b7⟩:=bs hb_b7;refine ZAT 18 (fun φ s=>Hp s [(.cells m1 xs1),(.cells m xs)]∧Fx φ [(1,(.ptr m 0)),(3,(enc ((f.v.1.length:Int):Int))),(4,(enc i)),(70,(enc b6)),(92,(enc b8))]) ?_ ?_
    ·split at hb_b8
     ·rename_i cg16;refine ZAH rfl rfl cg16<|ZAD rfl<|ZAH rfl rfl cg16<|ZAL (v:=enc (decide (r_1 > 1))) rfl rfl rfl<|ZAH rfl rfl cg16<|ZAD rfl ?_
      obtain⟨b9,hb_b9,hb_b8⟩:=bs hb_b8;refine ZAT 7 (fun φ s=>Hp s [(.cells m1 xs1),(.cells m xs)]∧Fx φ [(1,(.ptr m 0)),(3,(enc ((f.v.1.length:Int):Int))),(4,(enc i)),(5,(.ptr m1 0)),(70,(enc b6)),(74,(enc (v3.v.2.1==2))),(84,(enc b9))]) ?_ ?_
      ·split at hb_b9
       ·rename_i cg17;refine ZAE rfl rfl (by simpa using cg17)<|ZAE rfl rfl (by simpa using cg17)<|ZAE rfl rfl (by simpa using cg17)<|ZAR rfl rfl<|ZAR rfl rfl<|ZAE rfl rfl (by simpa using cg17)<|ZAH rfl rfl cg16<|ZAY (v:=enc true) rfl cg17 rfl<|ZAA ?_
        rw[←oi hb_b9];exact⟨hs,FxR rfl⟩
       rename_i cg18;refine ZAH rfl rfl (by simpa using cg18)<|ZAD rfl<|ZAH rfl rfl (by simpa using cg18)<|ZAL (v:=enc (i==0)) rfl rfl rfl<|ZAH rfl rfl (by simpa using cg18)<|ZAD rfl ?_
       obtain⟨b10,hb_b10,hb_b9⟩:=bs hb_b9;refine ZAT 3 (fun φ s=>Hp s [(.cells m1 xs1),(.cells m xs)]∧Fx φ [(1,(.ptr m 0)),(3,(enc ((f.v.1.length:Int):Int))),(4,(enc i)),(5,(.ptr m1 0)),(70,(enc b6)),(74,(enc (v3.v.2.1==2))),(77,(enc (decide (r_1 > 1)))),(83,(enc b10))]) ?_ ?_
       ·split at hb_b10
        ·rename_i cg19;refine ZAH rfl rfl cg19<|ZAD rfl<|ZAH rfl rfl cg19<|ZAL (v:=enc (decide (r_1 > 0))) rfl rfl rfl<|ZAH rfl rfl (by simpa using cg18)<|ZAY rfl cg19 rfl<|ZAA ?_
         rw[←oi hb_b10];exact⟨hs,FxR rfl⟩
        rename_i cg20;refine ZAE rfl rfl cg20<|ZAE rfl rfl cg20<|ZAH rfl rfl (by simpa using cg18)<|ZAX (v:=enc false) rfl cg20 rfl<|ZAA ?_
        rw[←oi hb_b10];exact⟨hs,FxR rfl⟩
       rintro φ s ⟨hs,hF⟩;rw[←hF.eq];refine ZAH rfl rfl cg16<|ZAX rfl cg18 rfl<|ZAA ?_
       rw[←oi hb_b9];exact⟨hs,FxR rfl⟩
      rintro φ s ⟨hs,hF⟩;rw[←hF.eq];refine ZAH rfl rfl cg16<|ZAD rfl ?_
      obtain⟨b11,hb_b11,hb_b8⟩:=bs hb_b8;refine ZAT 6 (fun φ s=>Hp s [(.cells m1 xs1),(.cells m xs)]∧Fx φ [(1,(.ptr m 0)),(3,(enc ((f.v.1.length:Int):Int))),(4,(enc i)),(70,(enc b6)),(74,(enc (v3.v.2.1==2))),(91,(enc b11))]) ?_ ?_
      ·split at hb_b11
       ·rename_i cg21;refine ZAE rfl rfl (by simpa using cg21)<|ZAE rfl rfl (by simpa using cg21)<|ZAE rfl rfl (by simpa using cg21)<|ZAE rfl rfl (by simpa using cg21)<|ZAE rfl rfl (by simpa using cg21)<|ZAH rfl rfl cg16<|ZAY (v:=enc true) rfl cg21 rfl<|ZAA ?_
        rw[←oi hb_b11];exact⟨hs,FxR rfl⟩
       rename_i cg22;refine ZAH rfl rfl (by simpa using cg22) ?_
       replace hs:=Hp.front [(.cells m1 xs1)] (b:=[]) hs;refine ZAU (r:=f) ag24 sz24 rfl hxs hs fun y15 hy15=>ZAH rfl rfl (by simpa using cg22)<|ZAO ZBO rfl<|ZAH rfl rfl (by simpa using cg22) ?_
       replace hs:=Hp.front [(.cells m xs)] (b:=[]) hs;refine ZAK ag3 Sz rfl hxs1 hs fun y16 hy16=> ?_
       cases hy16;refine ZAH rfl rfl (by simpa using cg22) ?_
       obtain⟨r_2,hx5,hb_b11⟩:=bs hb_b11;refine ZAj (f:=fun a:FsR×Int×Unit=>ZEY a.1 a.2.1) (a:=(f,v3.v.1,())) rfl func61 rfl rfl (.cons (a:=f) hy15 (.cons (a:=v3.v.1) (Enc.self _) .nil)) hx5<|ZAH rfl rfl (by simpa using cg22)<|ZBS (v:=enc (!r_2)) rfl rfl<|ZAH rfl rfl cg16<|ZAX rfl cg22 rfl<|ZAA ?_
       rw[←oi hb_b11];exact⟨hs,FxR rfl⟩
      rintro φ s ⟨hs,hF⟩;rw[←hF.eq];refine ZAH rfl rfl (by simpa using cg15)<|ZAY rfl cg16 rfl<|ZAA ?_
      rw[←oi hb_b8];exact⟨hs,FxR rfl⟩
     rename_i cg23;refine ZAE rfl rfl cg23<|ZAE rfl rfl cg23<|ZAE rfl rfl cg23<|ZAR rfl rfl<|ZAR rfl rfl<|ZAR rfl rfl<|ZAR rfl rfl<|ZAR rfl rfl<|ZAR rfl rfl<|ZAE rfl rfl cg23<|ZAE rfl rfl cg23<|ZAR rfl rfl<|ZAR rfl rfl<|ZAR rfl rfl<|ZAR rfl rfl ?_
     refine ZAR rfl rfl<|ZAE rfl rfl cg23<|ZAH rfl rfl (by simpa using cg15)<|ZAX (v:=enc false) rfl cg23 rfl<|ZAA ?_
     rw[←oi hb_b8];exact⟨hs,FxR rfl⟩
    rintro φ s ⟨hs,hF⟩;rw[←hF.eq];refine ZAX rfl cg15 rfl<|ZAA ?_
    rw[←oi hb_b7];exact⟨hs,FxR rfl⟩
   rintro φ s ⟨hs,hF⟩;rw[←hF.eq];refine ZAA ?_
   split at h
   ·rename_i c';refine ZAI rfl c'<|ZAB<|ZAC<|ZAG (v:=enc false) rfl<|ZAA<|ZAN ?_
    show if _ then _ else _
    rw[if_neg (by simp)]
    rw[←oi h];exact⟨_,rfl,rfl,FxR rfl⟩
   rename_i c';refine ZAJ rfl c'<|ZAM<|ZAC<|ZAD rfl<|ZAL (v:=enc (IntKind.i64.wrap (i+1))) rfl rfl rfl<|ZAG rfl<|ZAA ?_
   rw[←oi h];exact⟨_,rfl,⟨FxR rfl,(Hp.drop [] (b:=[(.cells m xs)]) hs)⟩⟩
  rename_i c';refine ZAJ rfl c'<|ZAl ?_
  rw[←oi h];exact⟨_,rfl,rfl,trivial⟩
 intro e φ s hE;rcases o with _u | v2
 ·obtain⟨rfl,hF⟩:=hE;rw[←hF.eq];rw[ZGB] at h;show if _ then _ else _
  rw[if_pos rfl];refine ZAB<|ZAC<|ZAG (v:=enc true) rfl<|ZAA<|ZAN ?_
  rw[←oi h];exact⟨rfl,KE1 (a:=(true:Bool)) rfl rfl (rfl:is _ (true:Bool)) (rfl:is _ (true:Bool))⟩
 obtain⟨rfl,hF⟩:=hE;rw[←hF.eq];rw[ZGB] at h;show if _ then _ else _
 rw[if_neg (by simp)]
 rw[←oi h];exact⟨rfl,KE1 (a:=v2) rfl rfl (rfl:is _ v2) (rfl:is _ v2)⟩
theorem ZM2:ZAr Tryz.prog 35 (fun _=>Fn (fun a:FsR×Unit=>ZBP a.1)):=fnC ZRI ⟨_,func35,rfl⟩<|fun a r h=>ZM1 a.1 r h
noncomputable def pz20:Prims:=pz19.add 35 (Fn (fun a:FsR×Unit=>ZBP a.1))
theorem ZRJ:ZAV Tryz.prog pz20:=ZAS ZRI ZM2
theorem ZOM (f:FsR) (x:ZAF) (r:FsR) (h:ZBc f x=some r):MF Tryz.prog pz20 38 [enc f,enc x] s0 fun v _=>ris v r:=by
 refine ZAe [(0,enc f),(1,enc x)] func38 rfl (by simp only[Tryz.f38];rfl) fun ψ=> ?_
 unfold ZBc at h;refine ZAB<|ZAC<|ZA1 (r:=f) rfl (Enc.self f) Hp.nil fun m xs s hxs hs=>ZA1 (r:=x) rfl (Enc.self x) hs fun m1 xs1 s hxs1 hs=>ZAw (r:=(Rec.mk (([]:(List ZAF)),(0:Int),()):FsR)) zr24 zf24 hs fun m2 s hs=>ZAA<|ZAB<|ZAC<|ZAG (v:=enc (0:Int)) rfl<|ZAA<|ZAB<|ZAQ ?_
 obtain⟨i1,hl,h⟩:=bs h;refine ZAm (fun(p:Int) φ s=>match p with | i=>Fx φ [(2,(.ptr m 0)),(3,(.ptr m1 0)),(4,(.ptr m2 0)),(5,(enc i))]∧Hp s [(.cells m2 zx24),(.cells m1 xs1),(.cells m xs)]) (fun(o:Int) e φ s=>match o with | i1=>e= .exit 0∧Fx φ [(2,(.ptr m 0)),(3,(.ptr m1 0)),(4,(.ptr m2 0)),(5,(enc i1))]∧Hp s [(.cells m2 zx24),(.cells m1 xs1),(.cells m xs)]) ?_ hl ⟨FxR rfl,hs⟩ ?_
 ·rintro i o h φ s ⟨hF,hs⟩;rw[←hF.eq];rw[ZDF] at h;refine ZAB<|ZAB<|ZAo (by decide+kernel) (by decide+kernel)<|ZAD rfl<|ZAO ZAk rfl ?_
  replace hs:=Hp.front [(.cells m2 zx24),(.cells m1 xs1)] (b:=[]) hs;refine ZAK ag22 Sz rfl hxs hs fun y hy=>ZAp underlying22 rfl rfl hy<|ZAL (v:=enc (decide (i<(f.v.1.length:Int)))) rfl rfl rfl<|ZAD rfl ?_
  obtain⟨b,hb_b,h⟩:=bs h;refine ZAT 10 (fun φ s=>Hp s [(.cells m xs),(.cells m2 zx24),(.cells m1 xs1)]∧Fx φ [(2,(.ptr m 0)),(3,(.ptr m1 0)),(4,(.ptr m2 0)),(5,(enc i)),(22,(enc b))]) ?_ ?_
  ·split at hb_b
   ·rename_i cg;refine ZAH rfl rfl cg<|ZAO ZAk rfl<|ZAH rfl rfl cg<|ZAK ag22 Sz rfl hxs hs fun y1 hy1=>ZAH rfl rfl cg<|ZAD rfl<|ZAH rfl rfl cg ?_
    obtain⟨v,hx,hb_b⟩:=bs hb_b;refine ZAv underlying22 sh38 rfl rfl hy1 hx fun p hp=>ZAH rfl rfl cg<|ZB5 ZBO Sz rfl hp fun p1 hp1=>ZAH rfl rfl cg<|ZBG ag3 rfl hp1 fun y2 hy2=> ?_
    cases hy2;refine ZAH rfl rfl cg<|ZAO ZBO rfl<|ZAH rfl rfl cg ?_
    replace hs:=Hp.front [(.cells m xs),(.cells m2 zx24)] (b:=[]) hs;refine ZAK ag3 Sz rfl hxs1 hs fun y3 hy3=> ?_
    cases hy3;refine ZAH rfl rfl cg<|ZAL (v:=enc (decide (v.v.1<x.v.1))) rfl rfl rfl<|ZAY rfl cg rfl<|ZAA ?_
    rw[←oi hb_b];exact⟨(Hp.front [(.cells m2 zx24),(.cells m1 xs1)] (b:=[]) (Hp.front [(.cells m1 xs1),(.cells m xs)] (b:=[]) (Hp.front [] (b:=[(.cells m xs),(.cells m2 zx24)]) hs))),FxR rfl⟩
   rename_i cg1;refine ZAE rfl rfl cg1<|ZAE rfl rfl cg1<|ZAE rfl rfl cg1<|ZAE rfl rfl cg1<|ZAE rfl rfl cg1<|ZAE rfl rfl cg1<|ZAE rfl rfl cg1<|ZAE rfl rfl cg1<|ZAE rfl rfl cg1<|ZAX (v:=enc false) rfl cg1 rfl<|ZAA ?_
   rw[←oi hb_b];exact⟨hs,FxR rfl⟩
  rintro φ s ⟨hs,hF⟩;rw[←hF.eq];refine ZAA ?_
  split at h
  ·rename_i c';refine ZAI rfl c'<|ZAM<|ZAQ<|ZAC<|ZAD rfl<|ZAL (v:=enc (IntKind.i64.wrap (i+1))) rfl rfl rfl<|ZAG rfl<|ZAA ?_
   rw[←oi h];exact⟨_,rfl,⟨FxR rfl,(Hp.front [(.cells m1 xs1),(.cells m xs)] (b:=[]) (Hp.front [(.cells m xs),(.cells m2 zx24)] (b:=[]) (Hp.front [] (b:=[(.cells m2 zx24),(.cells m1 xs1)]) hs)))⟩⟩
  rename_i c';refine ZAJ rfl c'<|ZAl ?_
  rw[←oi h];exact⟨_,rfl,rfl,⟨FxR rfl,(Hp.front [(.cells m1 xs1),(.cells m xs)] (b:=[]) (Hp.front [(.cells m xs),(.cells m2 zx24)] (b:=[]) (Hp.front [] (b:=[(.cells m2 zx24),(.cells m1 xs1)]) hs)))⟩⟩
 intro e φ s hE;obtain⟨rfl,hF,hs⟩:=hE;rw[←hF.eq];rw[ZJg] at h;show if _ then _ else _
 rw[if_pos rfl];refine ZAB<|ZAC<|ZAD rfl<|ZAG rfl<|ZAA<|ZDW (fun φ s=>∃(k:Int),Fx φ [(2,(.ptr m 0)),(3,(.ptr m1 0)),(4,(.ptr m2 0)),(5,(enc i1)),(6,(enc k))]∧Hp s [(.cells m2 zx24),(.cells m1 xs1),(.cells m xs)]∧ZDG f i1 x k=some r) ?_ ?_
 ·refine ZAB ?_
  refine ZAo (by decide+kernel) (by decide+kernel)<|ZAD rfl<|ZAO ZAk rfl ?_
  replace hs:=Hp.front [(.cells m2 zx24),(.cells m1 xs1)] (b:=[]) hs;refine ZAK ag22 Sz rfl hxs hs fun y9 hy9=>ZAp underlying22 rfl rfl hy9<|ZAL (v:=enc (decide (i1<(f.v.1.length:Int)))) rfl rfl rfl<|ZAD rfl ?_
  obtain⟨b1,hb_b1,h⟩:=bs h;refine ZAT 10 (fun φ s=>Hp s [(.cells m xs),(.cells m2 zx24),(.cells m1 xs1)]∧Fx φ [(2,(.ptr m 0)),(3,(.ptr m1 0)),(4,(.ptr m2 0)),(5,(enc i1)),(6,(enc i1)),(41,(enc b1))]) ?_ ?_
  ·split at hb_b1
   ·rename_i cg2;refine ZAH rfl rfl cg2<|ZAO ZAk rfl<|ZAH rfl rfl cg2<|ZAK ag22 Sz rfl hxs hs fun y10 hy10=>ZAH rfl rfl cg2<|ZAD rfl<|ZAH rfl rfl cg2 ?_
    obtain⟨v1,hx6,hb_b1⟩:=bs hb_b1;refine ZAv underlying22 sh38 rfl rfl hy10 hx6 fun p2 hp2=>ZAH rfl rfl cg2<|ZB5 ZBO Sz rfl hp2 fun p3 hp3=>ZAH rfl rfl cg2<|ZBG ag3 rfl hp3 fun y11 hy11=> ?_
    cases hy11;refine ZAH rfl rfl cg2<|ZAO ZBO rfl<|ZAH rfl rfl cg2 ?_
    replace hs:=Hp.front [(.cells m xs),(.cells m2 zx24)] (b:=[]) hs;refine ZAK ag3 Sz rfl hxs1 hs fun y12 hy12=> ?_
    cases hy12;refine ZAH rfl rfl cg2<|ZAL (v:=enc (v1.v.1==x.v.1)) rfl rfl rfl<|ZAY rfl cg2 rfl<|ZAA ?_
    rw[←oi hb_b1];exact⟨(Hp.front [(.cells m2 zx24),(.cells m1 xs1)] (b:=[]) (Hp.front [(.cells m1 xs1),(.cells m xs)] (b:=[]) (Hp.front [] (b:=[(.cells m xs),(.cells m2 zx24)]) hs))),FxR rfl⟩
   rename_i cg3;refine ZAE rfl rfl cg3<|ZAE rfl rfl cg3<|ZAE rfl rfl cg3<|ZAE rfl rfl cg3<|ZAE rfl rfl cg3<|ZAE rfl rfl cg3<|ZAE rfl rfl cg3<|ZAE rfl rfl cg3<|ZAE rfl rfl cg3<|ZAX (v:=enc false) rfl cg3 rfl<|ZAA ?_
   rw[←oi hb_b1];exact⟨hs,FxR rfl⟩
  rintro φ s ⟨hs,hF⟩;rw[←hF.eq];refine ZAA ?_
  split at h
  ·rename_i c';refine ZAI rfl c'<|ZAC<|ZAD rfl<|ZAL (v:=enc (IntKind.i64.wrap (i1+1))) rfl rfl rfl<|ZAG rfl<|ZAA ?_
   exact⟨(IntKind.i64.wrap (i1+1)),FxR rfl,(Hp.front [(.cells m1 xs1),(.cells m xs)] (b:=[]) (Hp.front [(.cells m xs),(.cells m2 zx24)] (b:=[]) (Hp.front [] (b:=[(.cells m2 zx24),(.cells m1 xs1)]) hs))),h⟩
  rename_i c';refine ZAJ rfl c'<|ZAM ?_
  exact⟨i1,FxR rfl,(Hp.front [(.cells m1 xs1),(.cells m xs)] (b:=[]) (Hp.front [(.cells m xs),(.cells m2 zx24)] (b:=[]) (Hp.front [] (b:=[(.cells m2 zx24),(.cells m1 xs1)]) hs))),h⟩
 rintro φ s ⟨k,hF,hs,h⟩;rw[←hF.eq];unfold ZDG at h;refine ZAB<|ZAo (by decide+kernel) (by decide+kernel)<|ZBs [] ([]:(List ZAF)) underlying22 ef38 rfl rfl rfl (Nat.le_of_ble_eq_true rfl) trivial fun z hz hzc hzn=>ZAO ZAk rfl ?_
 replace hs:=Hp.front [(.cells m2 zx24),(.cells m1 xs1)] (b:=[]) hs;refine ZAK ag22 Sz rfl hxs hs fun y4 hy4=>ZAD rfl ?_
 obtain⟨l,hx1,h⟩:=bs h;refine ZIG underlying22 sh38 rfl rfl hy4 hx1 fun z1 hz1=> ?_
 obtain⟨l1,hx2,h⟩:=bs h;refine ZEB [] (es2:=[(.cells m xs),(.cells m2 zx24),(.cells m1 xs1)]) underlying22 underlying22 rfl rfl ef38 rfl rfl hz hzc (Hp.add hs hzn) hz1 hx2 fun z2 s hz2 hz2c hs=> ?_
 replace hs:=Hp.front [.own z2,(.cells m xs),(.cells m2 zx24)] (b:=[]) hs;refine ZAU (r:=x) ag38 sz38 rfl hxs1 hs fun y5 hy5=>ZBs [y5] ([x]:(List ZAF)) underlying22 ef38 rfl rfl rfl (Nat.le_of_ble_eq_true rfl) ⟨hy5,trivial⟩ fun z3 hz3 hz3c hz3n=> ?_
 obtain⟨l2,hx3,h⟩:=bs h;refine ZEB [(.cells m1 xs1)] (es2:=[(.cells m xs),(.cells m2 zx24)]) underlying22 underlying22 rfl rfl ef38 rfl rfl hz2 hz2c hs hz3 hx3 fun z4 s hz4 hz4c hs=>ZAO ZAk rfl ?_
 replace hs:=Hp.front [(.cells m1 xs1), .own z4] (b:=[(.cells m2 zx24)]) hs;refine ZAK ag22 Sz rfl hxs hs fun y6 hy6=>ZAD rfl ?_
 obtain⟨l3,hx4,h⟩:=bs h;refine ZIF underlying22 sh38 rfl rfl hy6 hx4 fun z5 hz5=> ?_
 obtain⟨l4,hx5,h⟩:=bs h;refine ZEB [(.cells m xs),(.cells m1 xs1)] (es2:=[(.cells m2 zx24)]) underlying22 underlying22 rfl rfl ef38 rfl rfl hz4 hz4c hs hz5 hx5 fun z6 s hz6 hz6c hs=>ZAO ZFp rfl<|ZAK ag3 (Ss Sz) rfl hxs hs fun y7 hy7=> ?_
 cases hy7;refine ZCr (r0:=(([]:(List ZAF)),(0:Int),())) bu24 zr24 zf24 rfl rfl (r:=(l4,f.v.2.1,())) (.cons (z:=l4) Sz hz6 (.cons (z:=f.v.2.1) (Ss Sz) (rfl:is _ f.v.2.1) .nil)) fun y8 hy8=> ?_
 replace hs:=Hp.front [(.cells m xs),(.cells m1 xs1), .own z6] (b:=[]) hs;refine ZAZ (r:=(Rec.mk (l4,f.v.2.1,()):FsR)) sz24 rfl rfl zf24 hy8 hs fun xs2 s hxs2 hs=>ZAA<|ZAN ?_
 obtain⟨w,hlw,hw⟩:=ldW (r:=(Rec.mk (l4,f.v.2.1,()):FsR)) ag24 sz24 hxs2 hs;rw[←oi h];exact⟨rfl,KEc1 (a:=((Rec.mk (l4,f.v.2.1,()):FsR):FsR)) rfl (.cell rfl hlw .nil) hw hw⟩
theorem ZON:ZAr Tryz.prog 38 (fun _=>Fn (fun a:FsR×ZAF×Unit=>ZBc a.1 a.2.1)):=fnC ZRJ ⟨_,func38,rfl⟩<|fun a r h=>ZOM a.1 a.2.1 r h
noncomputable def pz21:Prims:=pz20.add 38 (Fn (fun a:FsR×ZAF×Unit=>ZBc a.1 a.2.1))
theorem ZRK:ZAV Tryz.prog pz21:=ZAS ZRJ ZON
theorem ZOO (f:FsR) (kind:Int) (mode:Int) (target:Str) (r:FsR×Int×Int) (h:ZEc f kind mode target=some r):MF Tryz.prog pz21 15 [enc f,enc kind,enc mode,enc target] s0 fun v _=>ris v r:=by
 refine ZAe [(0,enc f),(1,enc kind),(2,enc mode),(3,enc target)] func15 rfl (by simp only[Tryz.f15];rfl) fun ψ=> ?_
 unfold ZEc at h;refine ZAB<|ZAC<|ZA1 (r:=f) rfl (Enc.self f) Hp.nil fun m xs s hxs hs=>ZAw (r:=(Rec.mk (([]:(List ZAF)),(0:Int),()):FsR)) zr24 zf24 hs fun m1 s hs=>ZAG (v:=enc (0:Int)) rfl<|ZAG (v:=enc (0:Int)) rfl<|ZAA<|ZAB<|ZAB<|ZAC ?_
 replace hs:=Hp.front [(.cells m1 zx24)] (b:=[]) hs;refine ZAU (r:=f) ag24 sz24 rfl hxs hs fun y hy=> ?_
 obtain⟨r_,hx,h⟩:=bs h;refine ZAj (f:=fun a:FsR×Unit=>ZBP a.1) (a:=(f,())) rfl func35 rfl rfl (.cons (a:=f) hy .nil) hx<|ZBS (v:=enc (!r_)) rfl rfl<|ZAA ?_
 split at h
 ·rename_i c';refine ZAI rfl c'<|ZAB<|ZAC<|ZAU (r:=f) ag24 sz24 rfl hxs hs fun y1 hy1=> ?_
  replace hs:=Hp.front [(.cells m xs)] (b:=[]) hs;refine ZAZ (r:=f) sz24 rfl rfl zf24 hy1 hs fun xs1 s hxs1 hs=>ZAG (v:=enc (0:Int)) rfl<|ZAG (v:=enc (2:Int)) rfl<|ZAA<|ZAN ?_
  obtain⟨w,hlw,hw⟩:=ldW (r:=f) ag24 sz24 hxs1 hs;rw[←oi h];exact⟨rfl,KEc3 (a1:=f) (a2:=(0:Int)) (a3:=(2:Int)) rfl (.cell rfl hlw (.tmp rfl (.tmp rfl .nil))) hw (rfl:is _ (0:Int)) (rfl:is _ (2:Int)) ⟨_,_,_,rfl,hw,(rfl:is _ (0:Int)),(rfl:is _ (2:Int))⟩⟩
 rename_i c';refine ZAJ rfl c'<|ZAM<|ZAB<|ZAB<|ZAC<|ZAO ZAk rfl<|ZAK ag22 Sz rfl hxs hs fun y2 hy2=>ZAp underlying22 rfl rfl hy2<|ZAL (v:=enc (((f.v.1.length:Int)==512):Bool)) rfl rfl rfl<|ZAA ?_
 split at h
 ·rename_i c';refine ZAI rfl c'<|ZAB<|ZAC<|ZAU (r:=f) ag24 sz24 rfl hxs hs fun y3 hy3=> ?_
  replace hs:=Hp.front [(.cells m xs)] (b:=[]) hs;refine ZAZ (r:=f) sz24 rfl rfl zf24 hy3 hs fun xs2 s hxs2 hs=>ZAG (v:=enc (0:Int)) rfl<|ZAG (v:=enc (211:Int)) rfl<|ZAA<|ZAN ?_
  obtain⟨w1,hlw1,hw1⟩:=ldW (r:=f) ag24 sz24 hxs2 hs;rw[←oi h];exact⟨rfl,KEc3 (a1:=f) (a2:=(0:Int)) (a3:=(211:Int)) rfl (.cell rfl hlw1 (.tmp rfl (.tmp rfl .nil))) hw1 (rfl:is _ (0:Int)) (rfl:is _ (211:Int)) ⟨_,_,_,rfl,hw1,(rfl:is _ (0:Int)),(rfl:is _ (211:Int))⟩⟩
 rename_i c';refine ZAJ rfl c'<|ZAM<|ZAB<|ZAC<|ZAO ZFp rfl<|ZAK ag3 (Ss Sz) rfl hxs hs fun y4 hy4=> ?_
 cases hy4;refine ZAG rfl<|ZAA<|ZAB<|ZAQ ?_
 obtain⟨num1,hl,h⟩:=bs h;refine ZAm (fun(p:Int) φ s=>match p with | num=>Fx φ [(1,(enc kind)),(2,(enc mode)),(3,(enc target)),(4,(.ptr m 0)),(8,(.ptr m1 0)),(11,(enc num))]∧Hp s [(.cells m xs),(.cells m1 zx24)]) (fun(o:Int) e φ s=>match o with | num1=>e= .exit 0∧Fx φ [(1,(enc kind)),(2,(enc mode)),(3,(enc target)),(4,(.ptr m 0)),(8,(.ptr m1 0)),(11,(enc num1))]∧Hp s [(.cells m xs),(.cells m1 zx24)]) ?_ hl ⟨FxR rfl,hs⟩ ?_
 ·rintro num o h φ s ⟨hF,hs⟩;rw[←hF.eq];rw[ZEF] at h;refine ZAB<|ZAB<|ZAC<|ZAU (r:=f) ag24 sz24 rfl hxs hs fun y5 hy5=>ZAD rfl ?_
  obtain⟨r_1,hx1,h⟩:=bs h;refine ZAj (f:=fun a:FsR×Int×Unit=>ZA8 a.1 a.2.1) (a:=(f,num,())) rfl func36 rfl rfl (.cons (a:=f) hy5 (.cons (a:=num) (Enc.self _) .nil)) hx1<|ZAL (v:=enc (decide (r_1≥0))) rfl rfl rfl<|ZAD rfl ?_
  obtain⟨b,hb_b,h⟩:=bs h;refine ZAT 3 (fun φ s=>Hp s [(.cells m xs),(.cells m1 zx24)]∧Fx φ [(1,(enc kind)),(2,(enc mode)),(3,(enc target)),(4,(.ptr m 0)),(8,(.ptr m1 0)),(11,(enc num)),(31,(enc b))]) ?_ ?_
  ·split at hb_b
   ·rename_i cg;refine ZAH rfl rfl cg<|ZAD rfl<|ZAH rfl rfl cg<|ZAL (v:=enc (decide (num≤1024))) rfl rfl rfl<|ZAY rfl cg rfl<|ZAA ?_
    rw[←oi hb_b];exact⟨hs,FxR rfl⟩
   rename_i cg1;refine ZAE rfl rfl cg1<|ZAE rfl rfl cg1<|ZAX (v:=enc false) rfl cg1 rfl<|ZAA ?_
   rw[←oi hb_b];exact⟨hs,FxR rfl⟩
  rintro φ s ⟨hs,hF⟩;rw[←hF.eq];refine ZAA ?_
  split at h
  ·rename_i c';refine ZAI rfl c'<|ZAM<|ZAQ<|ZAC<|ZAD rfl<|ZAL (v:=enc (IntKind.i64.wrap (num+1))) rfl rfl rfl<|ZAG rfl<|ZAA ?_
   rw[←oi h];exact⟨_,rfl,⟨FxR rfl,hs⟩⟩
  rename_i c';refine ZAJ rfl c'<|ZAl ?_
  rw[←oi h];exact⟨_,rfl,rfl,⟨FxR rfl,hs⟩⟩
 intro e φ s hE;obtain⟨rfl,hF,hs⟩:=hE;rw[←hF.eq];rw[ZHJ] at h;show if _ then _ else _
 rw[if_pos rfl];refine ZAB<|ZAC<|ZAD rfl<|ZAD rfl<|ZAD rfl<|ZAD rfl<|ZCr (r0:=((0:Int),(0:Int),(0:Int),(0:Int),([]:(List UInt8)),(str []),([]:(List Str)),([]:(List Int)),([]:(List ZAd)),())) bu38 zr38 zf38 rfl rfl (r:=(num1,kind,mode,(0:Int),([]:(List UInt8)),target,([]:(List Str)),([]:(List Int)),([]:(List ZAd)),())) (.cons (z:=num1) Sz (rfl:is _ num1) (.cons (z:=kind) (Ss Sz) (rfl:is _ kind) (.cons (z:=mode) (Ss (Ss Sz)) (rfl:is _ mode) (.cons (z:=target) (Ss (Ss (Ss (Ss (Ss Sz))))) (rfl:is _ target) .nil)))) fun y6 hy6=>ZAw (r:=(Rec.mk ((0:Int),(0:Int),(0:Int),(0:Int),([]:(List UInt8)),(str []),([]:(List Str)),([]:(List Int)),([]:(List ZAd)),()):ZAF)) zr38 zf38 hs fun m2 s hs=>ZAZ (r:=(Rec.mk (num1,kind,mode,(0:Int),([]:(List UInt8)),target,([]:(List Str)),([]:(List Int)),([]:(List ZAd)),()):ZAF)) sz38 rfl rfl zf38 hy6 hs fun xs3 s hxs3 hs=>ZAA<|ZDW (fun φ s=>∃(x:ZAF) (xs_x:List AV),fi xs_x x.v∧Fx φ [(4,(.ptr m 0)),(8,(.ptr m1 0)),(11,(enc num1)),(12,(.ptr m2 0))]∧Hp s [(.cells m xs),(.cells m1 zx24),(.cells m2 xs_x)]∧ZEG f num1 x=some r) ?_ ?_
 ·refine ZAB ?_
  refine ZAC<|ZAD rfl<|ZAL (v:=enc (kind==2)) rfl rfl rfl<|ZAA ?_
  split at h
  ·rename_i c';refine ZAI rfl c'<|ZAC<|ZAO ZCD rfl<|ZCU (z:=(1:Int)) sz3 (Ss (Ss (Ss Sz))) rfl rfl (rfl:is _ (1:Int)) hxs3 hs fun xs6 s hxs6 hs=>ZAA ?_
   exact⟨(Rec.mk (num1,kind,mode,1,([]:(List UInt8)),target,([]:(List Str)),([]:(List Int)),([]:(List ZAd)),()):ZAF),xs6,hxs6,FxR rfl,(Hp.front [(.cells m1 zx24),(.cells m2 xs6)] (b:=[]) (Hp.front [(.cells m2 xs6),(.cells m xs)] (b:=[]) (Hp.front [] (b:=[(.cells m xs),(.cells m1 zx24)]) hs))),h⟩
  rename_i c';refine ZAJ rfl c'<|ZAM ?_
  exact⟨(Rec.mk (num1,kind,mode,(0:Int),([]:(List UInt8)),target,([]:(List Str)),([]:(List Int)),([]:(List ZAd)),()):ZAF),xs3,hxs3,FxR rfl,(Hp.front [(.cells m1 zx24),(.cells m2 xs3)] (b:=[]) (Hp.front [(.cells m2 xs3),(.cells m xs)] (b:=[]) (Hp.front [] (b:=[(.cells m xs),(.cells m1 zx24)]) hs))),h⟩
 rintro φ s ⟨x,xs_x,hxs_x,hF,hs,h⟩;rw[←hF.eq];unfold ZEG at h;refine ZAB<|ZAB<|ZAC ?_
 replace hs:=Hp.front [(.cells m xs),(.cells m1 zx24)] (b:=[]) hs;refine ZAU (r:=x) ag38 sz38 rfl hxs_x hs fun y7 hy7=> ?_
 obtain⟨r_2,hx2,h⟩:=bs h;refine ZAj (f:=fun a:ZAF×Unit=>ZBy a.1) (a:=(x,())) rfl func37 rfl rfl (.cons (a:=x) hy7 .nil) hx2<|ZBS (v:=enc (!r_2)) rfl rfl<|ZAA ?_
 split at h
 ·rename_i c';refine ZAI rfl c'<|ZAB<|ZAC ?_
  replace hs:=Hp.front [(.cells m2 xs_x)] (b:=[(.cells m1 zx24)]) hs;refine ZAU (r:=f) ag24 sz24 rfl hxs hs fun y8 hy8=> ?_
  replace hs:=Hp.front [(.cells m xs),(.cells m2 xs_x)] (b:=[]) hs;refine ZAZ (r:=f) sz24 rfl rfl zf24 hy8 hs fun xs4 s hxs4 hs=>ZAG (v:=enc (0:Int)) rfl<|ZAG (v:=enc (2:Int)) rfl<|ZAA<|ZAN ?_
  obtain⟨w2,hlw2,hw2⟩:=ldW (r:=f) ag24 sz24 hxs4 hs;rw[←oi h];exact⟨rfl,KEc3 (a1:=f) (a2:=(0:Int)) (a3:=(2:Int)) rfl (.cell rfl hlw2 (.tmp rfl (.tmp rfl .nil))) hw2 (rfl:is _ (0:Int)) (rfl:is _ (2:Int)) ⟨_,_,_,rfl,hw2,(rfl:is _ (0:Int)),(rfl:is _ (2:Int))⟩⟩
 rename_i c';refine ZAJ rfl c'<|ZAM<|ZAB<|ZAC ?_
 replace hs:=Hp.front [(.cells m2 xs_x)] (b:=[(.cells m1 zx24)]) hs;refine ZAU (r:=f) ag24 sz24 rfl hxs hs fun y9 hy9=> ?_
 replace hs:=Hp.front [(.cells m xs)] (b:=[(.cells m1 zx24)]) hs;refine ZAU (r:=x) ag38 sz38 rfl hxs_x hs fun y10 hy10=> ?_
 obtain⟨r_3,hx3,h⟩:=bs h;refine ZAj (f:=fun a:FsR×ZAF×Unit=>ZBc a.1 a.2.1) (a:=(f,x,())) rfl func38 rfl rfl (.cons (a:=f) hy9 (.cons (a:=x) hy10 .nil)) hx3<|ZAD rfl ?_
 replace hs:=Hp.front [(.cells m2 xs_x),(.cells m xs)] (b:=[]) hs;refine ZAZ (r:=r_3) sz24 rfl rfl zf24 (Enc.self r_3) hs fun xs5 s hxs5 hs=>ZAG rfl<|ZAG (v:=enc (0:Int)) rfl<|ZAA<|ZAN ?_
 obtain⟨w3,hlw3,hw3⟩:=ldW (r:=r_3) ag24 sz24 hxs5 hs;rw[←oi h];exact⟨rfl,KEc3 (a1:=r_3) (a2:=num1) (a3:=(0:Int)) rfl (.cell rfl hlw3 (.tmp rfl (.tmp rfl .nil))) hw3 (rfl:is _ num1) (rfl:is _ (0:Int)) ⟨_,_,_,rfl,hw3,(rfl:is _ num1),(rfl:is _ (0:Int))⟩⟩
theorem ZOP:ZAr Tryz.prog 15 (fun _=>Fn (fun a:FsR×Int×Int×Str×Unit=>ZEc a.1 a.2.1 a.2.2.1 a.2.2.2.1)):=fnC ZRK ⟨_,func15,rfl⟩<|fun a r h=>ZOO a.1 a.2.1 a.2.2.1 a.2.2.2.1 r h
noncomputable def pz22:Prims:=pz21.add 15 (Fn (fun a:FsR×Int×Int×Str×Unit=>ZEc a.1 a.2.1 a.2.2.1 a.2.2.2.1))
theorem ZRL:ZAV Tryz.prog pz22:=ZAS ZRK ZOP
theorem ZLa (f:FsR) (dir:Int) (s_:Str) (r:Int×Int) (h:ZB1 f dir s_=some r):MF Tryz.prog pz22 41 [enc f,enc dir,enc s_] s0 fun v _=>ris v r:=by
 refine ZAe [(0,enc f),(1,enc dir),(2,enc s_)] func41 rfl (by simp only[Tryz.f41];rfl) fun ψ=> ?_
 unfold ZB1 at h;refine ZAB<|ZAC<|ZA1 (r:=f) rfl (Enc.self f) Hp.nil fun m xs s hxs hs=>ZAG (v:=enc (0:Int)) rfl<|ZAG (v:=enc (0:Int)) rfl<|ZAA<|ZAB<|ZAB<|ZAC<|ZAU (r:=f) ag24 sz24 rfl hxs hs fun y hy=> ?_
 obtain⟨r_,hx,h⟩:=bs h;refine ZAj (f:=fun a:FsR×Unit=>ZBP a.1) (a:=(f,())) rfl func35 rfl rfl (.cons (a:=f) hy .nil) hx<|ZBS (v:=enc (!r_)) rfl rfl<|ZAA ?_
 split at h
 ·rename_i c';refine ZAI rfl c'<|ZAB<|ZAC<|ZAG (v:=enc (0:Int)) rfl<|ZAG (v:=enc (2:Int)) rfl<|ZAA<|ZAN ?_
  rw[←oi h];exact⟨rfl,KE2 (a1:=(0:Int)) (a2:=(2:Int)) rfl rfl rfl (rfl:is _ (0:Int)) (rfl:is _ (2:Int)) ⟨_,_,rfl,(rfl:is _ (0:Int)),(rfl:is _ (2:Int))⟩⟩
 rename_i c';refine ZAJ rfl c'<|ZAM<|ZAB<|ZAC<|ZAU (r:=f) ag24 sz24 rfl hxs hs fun y1 hy1=>ZAD rfl ?_
 obtain⟨r_1,hx1,h⟩:=bs h;refine ZAj (f:=fun a:FsR×Int×Unit=>ZA8 a.1 a.2.1) (a:=(f,dir,())) rfl func36 rfl rfl (.cons (a:=f) hy1 (.cons (a:=dir) (Enc.self _) .nil)) hx1<|ZAG rfl<|ZAA<|ZAB<|ZAB<|ZAC<|ZAD rfl<|ZAL (v:=enc (decide (r_1<0))) rfl rfl rfl<|ZAA ?_
 split at h
 ·rename_i c';refine ZAI rfl c'<|ZAB<|ZAC<|ZAG (v:=enc (0:Int)) rfl<|ZAG (v:=enc (201:Int)) rfl<|ZAA<|ZAN ?_
  rw[←oi h];exact⟨rfl,KE2 (a1:=(0:Int)) (a2:=(201:Int)) rfl rfl rfl (rfl:is _ (0:Int)) (rfl:is _ (201:Int)) ⟨_,_,rfl,(rfl:is _ (0:Int)),(rfl:is _ (201:Int))⟩⟩
 rename_i c';refine ZAJ rfl c'<|ZAM<|ZAB<|ZAB<|ZAC<|ZAO ZAk rfl<|ZAK ag22 Sz rfl hxs hs fun y2 hy2=>ZAD rfl ?_
 obtain⟨v,hx2,h⟩:=bs h;refine ZAv underlying22 sh38 rfl rfl hy2 hx2 fun p hp=>ZB5 ZCR (Ss Sz) rfl hp fun p1 hp1=>ZBG ag25 rfl hp1 fun y3 hy3=> ?_
 cases hy3;refine ZAL (v:=enc (v.v.2.1 !=2)) rfl rfl rfl<|ZAA ?_
 split at h
 ·rename_i c';refine ZAI rfl c'<|ZAB<|ZAC<|ZAG (v:=enc (0:Int)) rfl<|ZAG (v:=enc (203:Int)) rfl<|ZAA<|ZAN ?_
  rw[←oi h];exact⟨rfl,KE2 (a1:=(0:Int)) (a2:=(203:Int)) rfl rfl rfl (rfl:is _ (0:Int)) (rfl:is _ (203:Int)) ⟨_,_,rfl,(rfl:is _ (0:Int)),(rfl:is _ (203:Int))⟩⟩
 rename_i c';refine ZAJ rfl c'<|ZAM<|ZAB<|ZAC<|ZAO ZAk rfl<|ZAK ag22 Sz rfl hxs hs fun y4 hy4=>ZAD rfl ?_
 obtain⟨v1,hx3,h⟩:=bs h;refine ZAv underlying22 sh38 rfl rfl hy4 hx3 fun p2 hp2=>ZBb ag38 sz38 rfl hp2 fun y5 hy5=>ZAD rfl ?_
 obtain⟨r_2,hx4,h⟩:=bs h;refine ZAj (f:=fun a:ZAF×Str×Unit=>ZF8 a.1 a.2.1) (a:=(v1,s_,())) rfl func43 rfl rfl (.cons (a:=v1) hy5 (.cons (a:=s_) (Enc.self _) .nil)) hx4<|ZAD (v:=res r_2) rfl<|ZAs rfl rfl<|ZAs rfl rfl<|ZAG rfl<|ZAG rfl<|ZAA<|ZAB<|ZAB<|ZAC<|ZAD rfl<|ZBS (v:=enc (!r_2.2)) rfl rfl<|ZAA ?_
 split at h
 ·rename_i c';refine ZAI rfl c'<|ZAB<|ZAC<|ZAG (v:=enc (0:Int)) rfl<|ZAG (v:=enc (201:Int)) rfl<|ZAA<|ZAN ?_
  rw[←oi h];exact⟨rfl,KE2 (a1:=(0:Int)) (a2:=(201:Int)) rfl rfl rfl (rfl:is _ (0:Int)) (rfl:is _ (201:Int)) ⟨_,_,rfl,(rfl:is _ (0:Int)),(rfl:is _ (201:Int))⟩⟩
 rename_i c';refine ZAJ rfl c'<|ZAM<|ZAB<|ZAC<|ZAO ZAk rfl<|ZAK ag22 Sz rfl hxs hs fun y6 hy6=>ZAD rfl ?_
 obtain⟨v2,hx5,h⟩:=bs h;refine ZAv underlying22 sh38 rfl rfl hy6 hx5 fun p3 hp3=>ZB5 ZBY (Ss (Ss (Ss (Ss (Ss (Ss (Ss Sz))))))) rfl hp3 fun p4 hp4=>ZBG ag35 rfl hp4 fun y7 hy7=>ZAD rfl ?_
 obtain⟨v3,hx6,h⟩:=bs h;refine ZAv underlying35 sh3 rfl rfl hy7 hx6 fun p5 hp5=>ZCq rfl ag3 rfl hp5 fun y8 hy8=> ?_
 cases hy8;refine ZAG rfl<|ZAG (v:=enc (0:Int)) rfl<|ZAA<|ZAN ?_
 rw[←oi h];exact⟨rfl,KE2 (a1:=v3) (a2:=(0:Int)) rfl rfl rfl (rfl:is _ v3) (rfl:is _ (0:Int)) ⟨_,_,rfl,(rfl:is _ v3),(rfl:is _ (0:Int))⟩⟩
theorem ZLb:ZAr Tryz.prog 41 (fun _=>Fn (fun a:FsR×Int×Str×Unit=>ZB1 a.1 a.2.1 a.2.2.1)):=fnC ZRL ⟨_,func41,rfl⟩<|fun a r h=>ZLa a.1 a.2.1 a.2.2.1 r h
noncomputable def pz23:Prims:=pz22.add 41 (Fn (fun a:FsR×Int×Str×Unit=>ZB1 a.1 a.2.1 a.2.2.1))
theorem ZRM:ZAV Tryz.prog pz23:=ZAS ZRL ZLb
theorem ZOQ (f:FsR) (num:Int) (r:FsR×Int) (h:ZGd f num=some r):MF Tryz.prog pz23 22 [enc f,enc num] s0 fun v _=>ris v r:=by
 refine ZAe [(0,enc f),(1,enc num)] func22 rfl (by simp only[Tryz.f22];rfl) fun ψ=> ?_
 unfold ZGd at h;refine ZAB<|ZAC<|ZA1 (r:=f) rfl (Enc.self f) Hp.nil fun m xs s hxs hs=>ZAw (r:=(Rec.mk (([]:(List ZAF)),(0:Int),()):FsR)) zr24 zf24 hs fun m1 s hs=>ZAG (v:=enc (0:Int)) rfl<|ZAA<|ZAB<|ZAB<|ZAC ?_
 replace hs:=Hp.front [(.cells m1 zx24)] (b:=[]) hs;refine ZAU (r:=f) ag24 sz24 rfl hxs hs fun y hy=> ?_
 obtain⟨r_,hx,h⟩:=bs h;refine ZAj (f:=fun a:FsR×Unit=>ZBP a.1) (a:=(f,())) rfl func35 rfl rfl (.cons (a:=f) hy .nil) hx<|ZBS (v:=enc (!r_)) rfl rfl<|ZAA ?_
 split at h
 ·rename_i c';refine ZAI rfl c'<|ZAB<|ZAC<|ZAU (r:=f) ag24 sz24 rfl hxs hs fun y1 hy1=> ?_
  replace hs:=Hp.front [(.cells m xs)] (b:=[]) hs;refine ZAZ (r:=f) sz24 rfl rfl zf24 hy1 hs fun xs1 s hxs1 hs=>ZAG (v:=enc (2:Int)) rfl<|ZAA<|ZAN ?_
  obtain⟨w,hlw,hw⟩:=ldW (r:=f) ag24 sz24 hxs1 hs;rw[←oi h];exact⟨rfl,KEc2 (a1:=f) (a2:=(2:Int)) rfl (.cell rfl hlw (.tmp rfl .nil)) hw (rfl:is _ (2:Int)) ⟨_,_,rfl,hw,(rfl:is _ (2:Int))⟩⟩
 rename_i c';refine ZAJ rfl c'<|ZAM<|ZAB<|ZAC<|ZAU (r:=f) ag24 sz24 rfl hxs hs fun y2 hy2=>ZAD rfl ?_
 obtain⟨r_1,hx1,h⟩:=bs h;refine ZAj (f:=fun a:FsR×Int×Unit=>ZA8 a.1 a.2.1) (a:=(f,num,())) rfl func36 rfl rfl (.cons (a:=f) hy2 (.cons (a:=num) (Enc.self _) .nil)) hx1<|ZAG rfl<|ZAA<|ZAB<|ZAB<|ZAC<|ZAD rfl<|ZAL (v:=enc (decide (r_1<0))) rfl rfl rfl<|ZAA ?_
 split at h
 ·rename_i c';refine ZAI rfl c'<|ZAB<|ZAC<|ZAU (r:=f) ag24 sz24 rfl hxs hs fun y3 hy3=> ?_
  replace hs:=Hp.front [(.cells m xs)] (b:=[]) hs;refine ZAZ (r:=f) sz24 rfl rfl zf24 hy3 hs fun xs2 s hxs2 hs=>ZAG (v:=enc (201:Int)) rfl<|ZAA<|ZAN ?_
  obtain⟨w1,hlw1,hw1⟩:=ldW (r:=f) ag24 sz24 hxs2 hs;rw[←oi h];exact⟨rfl,KEc2 (a1:=f) (a2:=(201:Int)) rfl (.cell rfl hlw1 (.tmp rfl .nil)) hw1 (rfl:is _ (201:Int)) ⟨_,_,rfl,hw1,(rfl:is _ (201:Int))⟩⟩
 rename_i c';refine ZAJ rfl c'<|ZAM<|ZAB<|ZAB<|ZAC<|ZAU (r:=f) ag24 sz24 rfl hxs hs fun y4 hy4=>ZAD rfl ?_
 obtain⟨r_2,hx2,h⟩:=bs h;refine ZAj (f:=fun a:FsR×Int×Unit=>ZCM a.1 a.2.1) (a:=(f,num,())) rfl func50 rfl rfl (.cons (a:=f) hy4 (.cons (a:=num) (Enc.self _) .nil)) hx2<|ZAL (v:=enc (decide (r_2 > 0))) rfl rfl rfl<|ZAD rfl ?_
 obtain⟨b,hb_b,h⟩:=bs h;refine ZAT 3 (fun φ s=>Hp s [(.cells m xs),(.cells m1 zx24)]∧Fx φ [(2,(.ptr m 0)),(4,(.ptr m1 0)),(6,(enc r_1)),(24,(enc b))]) ?_ ?_
 ·split at hb_b
  ·rename_i cg;refine ZAE rfl rfl (by simpa using cg)<|ZAE rfl rfl (by simpa using cg)<|ZAY (v:=enc true) rfl cg rfl<|ZAA ?_
   rw[←oi hb_b];exact⟨hs,FxR rfl⟩
  rename_i cg1;refine ZAH rfl rfl (by simpa using cg1)<|ZAD rfl<|ZAH rfl rfl (by simpa using cg1)<|ZAL (v:=enc (num==1)) rfl rfl rfl<|ZAX rfl cg1 rfl<|ZAA ?_
  rw[←oi hb_b];exact⟨hs,FxR rfl⟩
 rintro φ s ⟨hs,hF⟩;rw[←hF.eq];refine ZAD rfl ?_
 obtain⟨b1,hb_b1,h⟩:=bs h;refine ZAT 9 (fun φ s=>Hp s [(.cells m xs),(.cells m1 zx24)]∧Fx φ [(2,(.ptr m 0)),(4,(.ptr m1 0)),(6,(enc r_1)),(34,(enc b1))]) ?_ ?_
 ·split at hb_b1
  ·rename_i cg2;refine ZAE rfl rfl (by simpa using cg2)<|ZAE rfl rfl (by simpa using cg2)<|ZAE rfl rfl (by simpa using cg2)<|ZAE rfl rfl (by simpa using cg2)<|ZAE rfl rfl (by simpa using cg2)<|ZAE rfl rfl (by simpa using cg2)<|ZAE rfl rfl (by simpa using cg2)<|ZAE rfl rfl (by simpa using cg2)<|ZAY (v:=enc true) rfl cg2 rfl<|ZAA ?_
   rw[←oi hb_b1];exact⟨hs,FxR rfl⟩
  rename_i cg3;refine ZAH rfl rfl (by simpa using cg3)<|ZAO ZAk rfl<|ZAH rfl rfl (by simpa using cg3)<|ZAK ag22 Sz rfl hxs hs fun y5 hy5=>ZAH rfl rfl (by simpa using cg3)<|ZAD rfl<|ZAH rfl rfl (by simpa using cg3) ?_
  obtain⟨v,hx3,hb_b1⟩:=bs hb_b1;refine ZAv underlying22 sh38 rfl rfl hy5 hx3 fun p hp=>ZAH rfl rfl (by simpa using cg3)<|ZB5 ZBJ (Ss (Ss (Ss (Ss (Ss (Ss Sz)))))) rfl hp fun p1 hp1=>ZAH rfl rfl (by simpa using cg3)<|ZBG ag34 rfl hp1 fun y6 hy6=>ZAH rfl rfl (by simpa using cg3)<|ZAp underlying34 rfl rfl hy6<|ZAH rfl rfl (by simpa using cg3)<|ZAL (v:=enc (decide ((v.v.2.2.2.2.2.2.1.length:Int) > 0))) rfl rfl rfl<|ZAX rfl cg3 rfl<|ZAA ?_
  rw[←oi hb_b1];exact⟨hs,FxR rfl⟩
 rintro φ s ⟨hs,hF⟩;rw[←hF.eq];refine ZAA ?_
 split at h
 ·rename_i c';refine ZAI rfl c'<|ZAB<|ZAC<|ZAU (r:=f) ag24 sz24 rfl hxs hs fun y7 hy7=> ?_
  replace hs:=Hp.front [(.cells m xs)] (b:=[]) hs;refine ZAZ (r:=f) sz24 rfl rfl zf24 hy7 hs fun xs3 s hxs3 hs=>ZAG (v:=enc (215:Int)) rfl<|ZAA<|ZAN ?_
  obtain⟨w2,hlw2,hw2⟩:=ldW (r:=f) ag24 sz24 hxs3 hs;rw[←oi h];exact⟨rfl,KEc2 (a1:=f) (a2:=(215:Int)) rfl (.cell rfl hlw2 (.tmp rfl .nil)) hw2 (rfl:is _ (215:Int)) ⟨_,_,rfl,hw2,(rfl:is _ (215:Int))⟩⟩
 rename_i c';refine ZAJ rfl c'<|ZAM<|ZAB<|ZAo (by decide+kernel) (by decide+kernel)<|ZBs [] ([]:(List ZAF)) underlying22 ef38 rfl rfl rfl (Nat.le_of_ble_eq_true rfl) trivial fun z hz hzc hzn=>ZAO ZAk rfl<|ZAK ag22 Sz rfl hxs hs fun y8 hy8=>ZAD rfl ?_
 obtain⟨l,hx4,h⟩:=bs h;refine ZIG underlying22 sh38 rfl rfl hy8 hx4 fun z1 hz1=> ?_
 obtain⟨l1,hx5,h⟩:=bs h;refine ZEB [] (es2:=[(.cells m xs),(.cells m1 zx24)]) underlying22 underlying22 rfl rfl ef38 rfl rfl hz hzc (Hp.add hs hzn) hz1 hx5 fun z2 s hz2 hz2c hs=>ZAO ZAk rfl ?_
 replace hs:=Hp.front [.own z2] (b:=[(.cells m1 zx24)]) hs;refine ZAK ag22 Sz rfl hxs hs fun y9 hy9=>ZAD rfl<|ZAL (v:=enc (IntKind.i64.wrap (r_1+1))) rfl rfl rfl ?_
 obtain⟨l2,hx6,h⟩:=bs h;refine ZIF underlying22 sh38 rfl rfl hy9 hx6 fun z3 hz3=> ?_
 obtain⟨l3,hx7,h⟩:=bs h;refine ZEB [(.cells m xs)] (es2:=[(.cells m1 zx24)]) underlying22 underlying22 rfl rfl ef38 rfl rfl hz2 hz2c hs hz3 hx7 fun z4 s hz4 hz4c hs=>ZAO ZFp rfl<|ZAK ag3 (Ss Sz) rfl hxs hs fun y10 hy10=> ?_
 cases hy10;refine ZCr (r0:=(([]:(List ZAF)),(0:Int),())) bu24 zr24 zf24 rfl rfl (r:=(l3,f.v.2.1,())) (.cons (z:=l3) Sz hz4 (.cons (z:=f.v.2.1) (Ss Sz) (rfl:is _ f.v.2.1) .nil)) fun y11 hy11=> ?_
 replace hs:=Hp.front [(.cells m xs), .own z4] (b:=[]) hs;refine ZAZ (r:=(Rec.mk (l3,f.v.2.1,()):FsR)) sz24 rfl rfl zf24 hy11 hs fun xs4 s hxs4 hs=>ZAG (v:=enc (0:Int)) rfl<|ZAA<|ZAN ?_
 obtain⟨w3,hlw3,hw3⟩:=ldW (r:=(Rec.mk (l3,f.v.2.1,()):FsR)) ag24 sz24 hxs4 hs;rw[←oi h];exact⟨rfl,KEc2 (a1:=((Rec.mk (l3,f.v.2.1,()):FsR):FsR)) (a2:=(0:Int)) rfl (.cell rfl hlw3 (.tmp rfl .nil)) hw3 (rfl:is _ (0:Int)) ⟨_,_,rfl,hw3,(rfl:is _ (0:Int))⟩⟩
theorem ZOR:ZAr Tryz.prog 22 (fun _=>Fn (fun a:FsR×Int×Unit=>ZGd a.1 a.2.1)):=fnC ZRM ⟨_,func22,rfl⟩<|fun a r h=>ZOQ a.1 a.2.1 r h
noncomputable def pz24:Prims:=pz23.add 22 (Fn (fun a:FsR×Int×Unit=>ZGd a.1 a.2.1))
theorem ZRN:ZAV Tryz.prog pz24:=ZAS ZRM ZOR
theorem ZM3 (f:FsR) (dir:Int) (s_:Str) (r:FsR×Int×Int) (h:ZHm f dir s_=some r):MF Tryz.prog pz24 21 [enc f,enc dir,enc s_] s0 fun v _=>ris v r:=by
 refine ZAe [(0,enc f),(1,enc dir),(2,enc s_)] func21 rfl (by simp only[Tryz.f21];rfl) fun ψ=> ?_
 unfold ZHm at h;refine ZAB<|ZAC<|ZA1 (r:=f) rfl (Enc.self f) Hp.nil fun m xs s hxs hs=>ZAw (r:=(Rec.mk (([]:(List ZAF)),(0:Int),()):FsR)) zr24 zf24 hs fun m1 s hs=>ZAG (v:=enc (0:Int)) rfl<|ZAG (v:=enc (0:Int)) rfl<|ZAA<|ZAB<|ZAC ?_
 replace hs:=Hp.front [(.cells m1 zx24)] (b:=[]) hs;refine ZAU (r:=f) ag24 sz24 rfl hxs hs fun y hy=>ZAD rfl<|ZAD rfl ?_
 obtain⟨r_,hx,h⟩:=bs h;refine ZAj (f:=fun a:FsR×Int×Str×Unit=>ZB1 a.1 a.2.1 a.2.2.1) (a:=(f,dir,s_,())) rfl func41 rfl rfl (.cons (a:=f) hy (.cons (a:=dir) (Enc.self _) (.cons (a:=s_) (Enc.self _) .nil))) hx<|ZAD (v:=res r_) rfl<|ZAs rfl rfl<|ZAs rfl rfl<|ZAG rfl<|ZAG rfl<|ZAA<|ZAB<|ZAB<|ZAC<|ZAD rfl<|ZAL (v:=enc (r_.2 !=0)) rfl rfl rfl<|ZAA ?_
 split at h
 ·rename_i c';refine ZAI rfl c'<|ZAB<|ZAC<|ZAU (r:=f) ag24 sz24 rfl hxs hs fun y1 hy1=>ZAD rfl ?_
  replace hs:=Hp.front [(.cells m xs)] (b:=[]) hs;refine ZAZ (r:=f) sz24 rfl rfl zf24 hy1 hs fun xs1 s hxs1 hs=>ZAG (v:=enc (0:Int)) rfl<|ZAG rfl<|ZAA<|ZAN ?_
  obtain⟨w,hlw,hw⟩:=ldW (r:=f) ag24 sz24 hxs1 hs;rw[←oi h];exact⟨rfl,KEc3 (a1:=f) (a2:=(0:Int)) (a3:=r_.2) rfl (.cell rfl hlw (.tmp rfl (.tmp rfl .nil))) hw (rfl:is _ (0:Int)) (rfl:is _ r_.2) ⟨_,_,_,rfl,hw,(rfl:is _ (0:Int)),(rfl:is _ r_.2)⟩⟩
 rename_i c';refine ZAJ rfl c'<|ZAM<|ZAB<|ZAo (by decide+kernel) (by decide+kernel)<|ZAO ZAk rfl<|ZAK ag22 Sz rfl hxs hs fun y2 hy2=>ZAU (r:=f) ag24 sz24 rfl hxs hs fun y3 hy3=>ZAD rfl ?_
 obtain⟨r_1,hx1,h⟩:=bs h;refine ZAj (f:=fun a:FsR×Int×Unit=>ZA8 a.1 a.2.1) (a:=(f,dir,())) rfl func36 rfl rfl (.cons (a:=f) hy3 (.cons (a:=dir) (Enc.self _) .nil)) hx1 ?_
 obtain⟨v,hx2,h⟩:=bs h;refine ZAv underlying22 sh38 rfl rfl hy2 hx2 fun p hp=>ZBb ag38 sz38 rfl hp fun y4 hy4=>ZAw (r:=(Rec.mk ((0:Int),(0:Int),(0:Int),(0:Int),([]:(List UInt8)),(str []),([]:(List Str)),([]:(List Int)),([]:(List ZAd)),()):ZAF)) zr38 zf38 hs fun m2 s hs=>ZAZ (r:=v) sz38 rfl rfl zf38 hy4 hs fun xs2 s hxs2 hs=>ZAA<|ZAB<|ZAo (by decide+kernel) (by decide+kernel)<|ZAO ZAk rfl ?_
 replace hs:=Hp.front [(.cells m2 xs2)] (b:=[(.cells m1 zx24)]) hs;refine ZAK ag22 Sz rfl hxs hs fun y5 hy5=>ZAU (r:=f) ag24 sz24 rfl hxs hs fun y6 hy6=>ZAD rfl ?_
 obtain⟨r_2,hx3,h⟩:=bs h;refine ZAj (f:=fun a:FsR×Int×Unit=>ZA8 a.1 a.2.1) (a:=(f,r_.1,())) rfl func36 rfl rfl (.cons (a:=f) hy6 (.cons (a:=r_.1) (Enc.self _) .nil)) hx3 ?_
 obtain⟨v1,hx4,h⟩:=bs h;refine ZAv underlying22 sh38 rfl rfl hy5 hx4 fun p1 hp1=>ZBb ag38 sz38 rfl hp1 fun y7 hy7=>ZAw (r:=(Rec.mk ((0:Int),(0:Int),(0:Int),(0:Int),([]:(List UInt8)),(str []),([]:(List Str)),([]:(List Int)),([]:(List ZAd)),()):ZAF)) zr38 zf38 hs fun m3 s hs=>ZAZ (r:=v1) sz38 rfl rfl zf38 hy7 hs fun xs3 s hxs3 hs=>ZAA<|ZAB<|ZAC ?_
 replace hs:=Hp.front [(.cells m3 xs3),(.cells m xs)] (b:=[(.cells m1 zx24)]) hs;refine ZAU (r:=v) ag38 sz38 rfl hxs2 hs fun y8 hy8=>ZAD rfl ?_
 obtain⟨r_3,hx5,h⟩:=bs h;refine ZAj (f:=fun a:ZAF×Str×Unit=>ZF8 a.1 a.2.1) (a:=(v,s_,())) rfl func43 rfl rfl (.cons (a:=v) hy8 (.cons (a:=s_) (Enc.self _) .nil)) hx5<|ZAD (v:=res r_3) rfl<|ZAs rfl rfl<|ZAs rfl rfl<|ZAG rfl<|ZAG rfl<|ZAA<|ZAB<|ZAo (by decide+kernel) (by decide+kernel)<|ZBs [] ([]:(List Str)) underlying34 ef9 rfl rfl rfl (Nat.le_of_ble_eq_true rfl) trivial fun z hz hzc hzn=>ZAO ZBJ rfl<|ZAK ag34 (Ss (Ss (Ss (Ss (Ss (Ss Sz)))))) rfl hxs2 hs fun y9 hy9=>ZAD rfl ?_
 obtain⟨l,hx6,h⟩:=bs h;refine ZIG underlying34 sh9 rfl rfl hy9 hx6 fun z1 hz1=> ?_
 obtain⟨l1,hx7,h⟩:=bs h;refine ZEB [] (es2:=[(.cells m2 xs2),(.cells m3 xs3),(.cells m xs),(.cells m1 zx24)]) underlying34 underlying34 rfl rfl ef9 rfl rfl hz hzc (Hp.add hs hzn) hz1 hx7 fun z2 s hz2 hz2c hs=>ZAO ZBJ rfl ?_
 replace hs:=Hp.front [.own z2] (b:=[(.cells m3 xs3),(.cells m xs),(.cells m1 zx24)]) hs;refine ZAK ag34 (Ss (Ss (Ss (Ss (Ss (Ss Sz)))))) rfl hxs2 hs fun y10 hy10=>ZAD rfl<|ZAL (v:=enc (IntKind.i64.wrap (r_3.1+1))) rfl rfl rfl ?_
 obtain⟨l2,hx8,h⟩:=bs h;refine ZIF underlying34 sh9 rfl rfl hy10 hx8 fun z3 hz3=> ?_
 obtain⟨l3,hx9,h⟩:=bs h;refine ZEB [(.cells m2 xs2)] (es2:=[(.cells m3 xs3),(.cells m xs),(.cells m1 zx24)]) underlying34 underlying34 rfl rfl ef9 rfl rfl hz2 hz2c hs hz3 hx9 fun z4 s hz4 hz4c hs=>ZAO ZBJ rfl<|ZCU (z:=l3) sz34 (Ss (Ss (Ss (Ss (Ss (Ss Sz)))))) rfl rfl hz4 hxs2 hs fun xs4 s hxs4 hs=>ZAA<|ZAB<|ZAo (by decide+kernel) (by decide+kernel)<|ZBs [] ([]:(List Int)) underlying35 ef3 rfl rfl rfl (Nat.le_of_ble_eq_true rfl) trivial fun z5 hz5 hz5c hz5n=>ZAO ZBY rfl<|ZAK ag35 (Ss (Ss (Ss (Ss (Ss (Ss (Ss Sz))))))) rfl hxs4 hs fun y11 hy11=>ZAD rfl ?_
 obtain⟨l4,hx10,h⟩:=bs h;refine ZIG underlying35 sh3 rfl rfl hy11 hx10 fun z6 hz6=> ?_
 obtain⟨l5,hx11,h⟩:=bs h;refine ZEB [] (es2:=[(.cells m2 xs4), .own z4,(.cells m3 xs3),(.cells m xs),(.cells m1 zx24)]) underlying35 underlying35 rfl rfl ef3 rfl rfl hz5 hz5c (Hp.add hs hz5n) hz6 hx11 fun z7 s hz7 hz7c hs=>ZAO ZBY rfl ?_
 replace hs:=Hp.front [.own z7] (b:=[.own z4,(.cells m3 xs3),(.cells m xs),(.cells m1 zx24)]) hs;refine ZAK ag35 (Ss (Ss (Ss (Ss (Ss (Ss (Ss Sz))))))) rfl hxs4 hs fun y12 hy12=>ZAD rfl<|ZAL (v:=enc (IntKind.i64.wrap (r_3.1+1))) rfl rfl rfl ?_
 obtain⟨l6,hx12,h⟩:=bs h;refine ZIF underlying35 sh3 rfl rfl hy12 hx12 fun z8 hz8=> ?_
 obtain⟨l7,hx13,h⟩:=bs h;refine ZEB [(.cells m2 xs4)] (es2:=[.own z4,(.cells m3 xs3),(.cells m xs),(.cells m1 zx24)]) underlying35 underlying35 rfl rfl ef3 rfl rfl hz7 hz7c hs hz8 hx13 fun z9 s hz9 hz9c hs=>ZAO ZBY rfl<|ZCU (z:=l7) sz35 (Ss (Ss (Ss (Ss (Ss (Ss (Ss Sz))))))) rfl rfl hz9 hxs4 hs fun xs5 s hxs5 hs=>ZAA<|ZAB<|ZAC ?_
 replace hs:=Hp.front [(.cells m2 xs5), .own z9, .own z4,(.cells m3 xs3)] (b:=[(.cells m1 zx24)]) hs;refine ZAU (r:=f) ag24 sz24 rfl hxs hs fun y13 hy13=> ?_
 replace hs:=Hp.front [(.cells m xs)] (b:=[.own z9, .own z4,(.cells m3 xs3),(.cells m1 zx24)]) hs;refine ZAU (r:=(Rec.mk (v.v.1,v.v.2.1,v.v.2.2.1,v.v.2.2.2.1,v.v.2.2.2.2.1,v.v.2.2.2.2.2.1,l3,l7,v.v.2.2.2.2.2.2.2.2.1,()):ZAF)) ag38 sz38 rfl hxs5 hs fun y14 hy14=> ?_
 obtain⟨r_4,hx14,h⟩:=bs h;refine ZAj (f:=fun a:FsR×ZAF×Unit=>ZBc a.1 a.2.1) (a:=(f,(Rec.mk (v.v.1,v.v.2.1,v.v.2.2.1,v.v.2.2.2.1,v.v.2.2.2.2.1,v.v.2.2.2.2.2.1,l3,l7,v.v.2.2.2.2.2.2.2.2.1,()):ZAF),())) rfl func38 rfl rfl (.cons (a:=f) hy13 (.cons (a:=((Rec.mk (v.v.1,v.v.2.1,v.v.2.2.1,v.v.2.2.2.1,v.v.2.2.2.2.1,v.v.2.2.2.2.2.1,l3,l7,v.v.2.2.2.2.2.2.2.2.1,()):ZAF):ZAF)) hy14 .nil)) hx14<|ZAw (r:=(Rec.mk (([]:(List ZAF)),(0:Int),()):FsR)) zr24 zf24 hs fun m4 s hs=>ZAZ (r:=r_4) sz24 rfl rfl zf24 (Enc.self r_4) hs fun xs6 s hxs6 hs=>ZAA<|ZDW (fun φ s=>∃(out_:FsR) (xs_out_:List AV),fi xs_out_ out_.v∧Fx φ [(6,(.ptr m1 0)),(9,(enc r_.1)),(15,(.ptr m4 0))]∧Hp s [(.cells m1 zx24),(.cells m4 xs_out_)]∧ZEd r_ out_=some r) ?_ ?_
 ·refine ZAB ?_
  refine ZAC<|ZAO ZCR rfl ?_
  replace hs:=Hp.front [(.cells m4 xs6),(.cells m2 xs5),(.cells m xs), .own z9, .own z4] (b:=[(.cells m1 zx24)]) hs;refine ZAK ag25 (Ss Sz) rfl hxs3 hs fun y16 hy16=> ?_
  cases hy16;refine ZAL (v:=enc (v1.v.2.1 !=2)) rfl rfl rfl<|ZAA ?_
  split at h
  ·rename_i c';refine ZAI rfl c'<|ZAB<|ZAC<|ZAO ZCD rfl<|ZAK ag3 (Ss (Ss (Ss Sz))) rfl hxs3 hs fun y17 hy17=> ?_
   cases hy17;refine ZAL (v:=enc (IntKind.i64.wrap (v1.v.2.2.2.1 - 1))) rfl rfl rfl<|ZAO ZCD rfl<|ZCU (z:=((IntKind.i64.wrap (v1.v.2.2.2.1 - 1)):Int)) sz3 (Ss (Ss (Ss Sz))) rfl rfl (rfl:is _ ((IntKind.i64.wrap (v1.v.2.2.2.1 - 1)):Int)) hxs3 hs fun xs8 s hxs8 hs=>ZAA<|ZAC ?_
   replace hs:=Hp.front [(.cells m3 xs8)] (b:=[(.cells m2 xs5),(.cells m xs), .own z9, .own z4,(.cells m1 zx24)]) hs;refine ZAU (r:=r_4) ag24 sz24 rfl hxs6 hs fun y18 hy18=> ?_
   replace hs:=Hp.front [(.cells m4 xs6)] (b:=[(.cells m2 xs5),(.cells m xs), .own z9, .own z4,(.cells m1 zx24)]) hs;refine ZAU (r:=(Rec.mk (v1.v.1,v1.v.2.1,v1.v.2.2.1,(IntKind.i64.wrap (v1.v.2.2.2.1 - 1)),v1.v.2.2.2.2.1,v1.v.2.2.2.2.2.1,v1.v.2.2.2.2.2.2.1,v1.v.2.2.2.2.2.2.2.1,v1.v.2.2.2.2.2.2.2.2.1,()):ZAF)) ag38 sz38 rfl hxs8 hs fun y19 hy19=> ?_
   obtain⟨r_5,hx15,h⟩:=bs h;refine ZAj (f:=fun a:FsR×ZAF×Unit=>ZBc a.1 a.2.1) (a:=(r_4,(Rec.mk (v1.v.1,v1.v.2.1,v1.v.2.2.1,(IntKind.i64.wrap (v1.v.2.2.2.1 - 1)),v1.v.2.2.2.2.1,v1.v.2.2.2.2.2.1,v1.v.2.2.2.2.2.2.1,v1.v.2.2.2.2.2.2.2.1,v1.v.2.2.2.2.2.2.2.2.1,()):ZAF),())) rfl func38 rfl rfl (.cons (a:=r_4) hy18 (.cons (a:=((Rec.mk (v1.v.1,v1.v.2.1,v1.v.2.2.1,(IntKind.i64.wrap (v1.v.2.2.2.1 - 1)),v1.v.2.2.2.2.1,v1.v.2.2.2.2.2.1,v1.v.2.2.2.2.2.2.1,v1.v.2.2.2.2.2.2.2.1,v1.v.2.2.2.2.2.2.2.2.1,()):ZAF):ZAF)) hy19 .nil)) hx15 ?_
   replace hs:=Hp.front [(.cells m3 xs8)] (b:=[(.cells m2 xs5),(.cells m xs), .own z9, .own z4,(.cells m1 zx24)]) hs;refine ZAZ (r:=r_5) sz24 rfl rfl hxs6 (Enc.self r_5) hs fun xs9 s hxs9 hs=>ZAA ?_
   exact⟨r_5,xs9,hxs9,FxR rfl,(Hp.front [(.cells m4 xs9)] (b:=[]) (Hp.front [] (b:=[(.cells m1 zx24)]) (Hp.drop [(.cells m4 xs9)] (b:=[(.cells m1 zx24)]) (Hp.drop [(.cells m4 xs9)] (b:=[.own z4,(.cells m1 zx24)]) (Hp.drop [(.cells m4 xs9)] (b:=[.own z9, .own z4,(.cells m1 zx24)]) (Hp.drop [(.cells m4 xs9)] (b:=[(.cells m xs), .own z9, .own z4,(.cells m1 zx24)]) (Hp.drop [(.cells m4 xs9)] (b:=[(.cells m2 xs5),(.cells m xs), .own z9, .own z4,(.cells m1 zx24)]) hs))))))),h⟩
  rename_i c';refine ZAJ rfl c'<|ZAM ?_
  exact⟨r_4,xs6,hxs6,FxR rfl,(Hp.front [(.cells m4 xs6)] (b:=[]) (Hp.front [] (b:=[(.cells m1 zx24)]) (Hp.drop [(.cells m4 xs6)] (b:=[(.cells m1 zx24)]) (Hp.drop [(.cells m4 xs6)] (b:=[.own z4,(.cells m1 zx24)]) (Hp.drop [(.cells m4 xs6)] (b:=[.own z9, .own z4,(.cells m1 zx24)]) (Hp.drop [(.cells m4 xs6)] (b:=[(.cells m xs), .own z9, .own z4,(.cells m1 zx24)]) (Hp.drop [] (b:=[(.cells m4 xs6),(.cells m2 xs5),(.cells m xs), .own z9, .own z4,(.cells m1 zx24)]) hs))))))),h⟩
 rintro φ s ⟨out_,xs_out_,hxs_out_,hF,hs,h⟩;rw[←hF.eq];unfold ZEd at h;refine ZAB<|ZAC ?_
 replace hs:=Hp.front [(.cells m1 zx24)] (b:=[]) hs;refine ZAU (r:=out_) ag24 sz24 rfl hxs_out_ hs fun y15 hy15=>ZAD rfl ?_
 replace hs:=Hp.front [(.cells m4 xs_out_)] (b:=[]) hs;refine ZAZ (r:=out_) sz24 rfl rfl zf24 hy15 hs fun xs7 s hxs7 hs=>ZAG rfl<|ZAG (v:=enc (0:Int)) rfl<|ZAA<|ZAN ?_
 obtain⟨w1,hlw1,hw1⟩:=ldW (r:=out_) ag24 sz24 hxs7 hs;rw[←oi h];exact⟨rfl,KEc3 (a1:=out_) (a2:=r_.1) (a3:=(0:Int)) rfl (.cell rfl hlw1 (.tmp rfl (.tmp rfl .nil))) hw1 (rfl:is _ r_.1) (rfl:is _ (0:Int)) ⟨_,_,_,rfl,hw1,(rfl:is _ r_.1),(rfl:is _ (0:Int))⟩⟩
theorem ZM4:ZAr Tryz.prog 21 (fun _=>Fn (fun a:FsR×Int×Str×Unit=>ZHm a.1 a.2.1 a.2.2.1)):=fnC ZRN ⟨_,func21,rfl⟩<|fun a r h=>ZM3 a.1 a.2.1 a.2.2.1 r h
noncomputable def pz25:Prims:=pz24.add 21 (Fn (fun a:FsR×Int×Str×Unit=>ZHm a.1 a.2.1 a.2.2.1))
theorem ZRO:ZAV Tryz.prog pz25:=ZAS ZRN ZM4
theorem ZPr (f:FsR) (x:ZAF) (r:FsR×Int) (h:ZLN f x=some r):MF Tryz.prog pz25 24 [enc f,enc x] s0 fun v _=>ris v r:=by
 refine ZAe [(0,enc f),(1,enc x)] func24 rfl (by simp only[Tryz.f24];rfl) fun ψ=> ?_
 unfold ZLN at h;refine ZAB<|ZAC<|ZA1 (r:=f) rfl (Enc.self f) Hp.nil fun m xs s hxs hs=>ZA1 (r:=x) rfl (Enc.self x) hs fun m1 xs1 s hxs1 hs=>ZAw (r:=(Rec.mk (([]:(List ZAF)),(0:Int),()):FsR)) zr24 zf24 hs fun m2 s hs=>ZAG (v:=enc (0:Int)) rfl<|ZAA<|ZAB<|ZAB<|ZAC ?_
 replace hs:=Hp.front [(.cells m2 zx24),(.cells m1 xs1)] (b:=[]) hs;refine ZAU (r:=f) ag24 sz24 rfl hxs hs fun y hy=> ?_
 obtain⟨r_,hx,h⟩:=bs h;refine ZAj (f:=fun a:FsR×Unit=>ZBP a.1) (a:=(f,())) rfl func35 rfl rfl (.cons (a:=f) hy .nil) hx<|ZBS (v:=enc (!r_)) rfl rfl<|ZAA ?_
 split at h
 ·rename_i c';refine ZAI rfl c'<|ZAB<|ZAC<|ZAU (r:=f) ag24 sz24 rfl hxs hs fun y1 hy1=> ?_
  replace hs:=Hp.front [(.cells m xs)] (b:=[(.cells m1 xs1)]) hs;refine ZAZ (r:=f) sz24 rfl rfl zf24 hy1 hs fun xs2 s hxs2 hs=>ZAG (v:=enc (2:Int)) rfl<|ZAA<|ZAN ?_
  obtain⟨w,hlw,hw⟩:=ldW (r:=f) ag24 sz24 hxs2 hs;rw[←oi h];exact⟨rfl,KEc2 (a1:=f) (a2:=(2:Int)) rfl (.cell rfl hlw (.tmp rfl .nil)) hw (rfl:is _ (2:Int)) ⟨_,_,rfl,hw,(rfl:is _ (2:Int))⟩⟩
 rename_i c';refine ZAJ rfl c'<|ZAM<|ZAB<|ZAC<|ZAU (r:=f) ag24 sz24 rfl hxs hs fun y2 hy2=>ZAO ZBO rfl ?_
 replace hs:=Hp.front [(.cells m xs),(.cells m2 zx24)] (b:=[]) hs;refine ZAK ag3 Sz rfl hxs1 hs fun y3 hy3=> ?_
 cases hy3;obtain⟨r_1,hx1,h⟩:=bs h;refine ZAj (f:=fun a:FsR×Int×Unit=>ZA8 a.1 a.2.1) (a:=(f,x.v.1,())) rfl func36 rfl rfl (.cons (a:=f) hy2 (.cons (a:=x.v.1) (Enc.self _) .nil)) hx1<|ZAG rfl<|ZAA<|ZAB<|ZAB<|ZAC<|ZAD rfl<|ZAL (v:=enc (decide (r_1<0))) rfl rfl rfl<|ZAA ?_
 split at h
 ·rename_i c';refine ZAI rfl c'<|ZAB<|ZAC ?_
  replace hs:=Hp.front [(.cells m1 xs1)] (b:=[(.cells m2 zx24)]) hs;refine ZAU (r:=f) ag24 sz24 rfl hxs hs fun y4 hy4=> ?_
  replace hs:=Hp.front [(.cells m xs),(.cells m1 xs1)] (b:=[]) hs;refine ZAZ (r:=f) sz24 rfl rfl zf24 hy4 hs fun xs3 s hxs3 hs=>ZAG (v:=enc (201:Int)) rfl<|ZAA<|ZAN ?_
  obtain⟨w1,hlw1,hw1⟩:=ldW (r:=f) ag24 sz24 hxs3 hs;rw[←oi h];exact⟨rfl,KEc2 (a1:=f) (a2:=(201:Int)) rfl (.cell rfl hlw1 (.tmp rfl .nil)) hw1 (rfl:is _ (201:Int)) ⟨_,_,rfl,hw1,(rfl:is _ (201:Int))⟩⟩
 rename_i c';refine ZAJ rfl c'<|ZAM<|ZAB<|ZAC<|ZAO ZAk rfl ?_
 replace hs:=Hp.front [(.cells m1 xs1)] (b:=[(.cells m2 zx24)]) hs;refine ZAK ag22 Sz rfl hxs hs fun y5 hy5=>ZAD rfl ?_
 obtain⟨v,hx2,h⟩:=bs h;refine ZAv underlying22 sh38 rfl rfl hy5 hx2 fun p hp=>ZBb ag38 sz38 rfl hp fun y6 hy6=>ZAw (r:=(Rec.mk ((0:Int),(0:Int),(0:Int),(0:Int),([]:(List UInt8)),(str []),([]:(List Str)),([]:(List Int)),([]:(List ZAd)),()):ZAF)) zr38 zf38 hs fun m3 s hs=>ZAZ (r:=v) sz38 rfl rfl zf38 hy6 hs fun xs4 s hxs4 hs=>ZAA<|ZAB<|ZAC<|ZAO ZKl rfl ?_
 replace hs:=Hp.front [(.cells m3 xs4),(.cells m xs)] (b:=[(.cells m2 zx24)]) hs;refine ZAK ag3 (Ss (Ss Sz)) rfl hxs1 hs fun y7 hy7=> ?_
 cases hy7;refine ZAO ZKl rfl ?_
 replace hs:=Hp.front [(.cells m1 xs1)] (b:=[(.cells m xs),(.cells m2 zx24)]) hs;refine ZCU (z:=x.v.2.2.1) sz3 (Ss (Ss Sz)) rfl rfl (rfl:is _ x.v.2.2.1) hxs4 hs fun xs5 s hxs5 hs=>ZAA<|ZAB<|ZAC<|ZBs [] ([]:(List UInt8)) underlying33 ef5 rfl rfl rfl (Nat.le_of_ble_eq_true rfl) trivial fun z hz hzc hzn=>ZAO ZHi rfl ?_
 replace hs:=Hp.front [(.cells m3 xs5)] (b:=[(.cells m xs),(.cells m2 zx24)]) hs;refine ZAK ag33 (Ss (Ss (Ss (Ss Sz)))) rfl hxs1 hs fun y8 hy8=> ?_
 obtain⟨l,hx3,h⟩:=bs h;refine ZEB [] (es2:=[(.cells m1 xs1),(.cells m3 xs5),(.cells m xs),(.cells m2 zx24)]) underlying33 underlying33 rfl rfl ef5 rfl rfl hz hzc (Hp.add hs hzn) hy8 hx3 fun z1 s hz1 hz1c hs=>ZAO ZHi rfl ?_
 replace hs:=Hp.front [.own z1,(.cells m1 xs1)] (b:=[(.cells m xs),(.cells m2 zx24)]) hs;refine ZCU (z:=l) sz33 (Ss (Ss (Ss (Ss Sz)))) rfl rfl hz1 hxs5 hs fun xs6 s hxs6 hs=>ZAA<|ZAB<|ZAC<|ZBs [] ([]:(List ZAd)) underlying36 ef89 rfl rfl rfl (Nat.le_of_ble_eq_true rfl) trivial fun z2 hz2 hz2c hz2n=>ZAO ZKm rfl ?_
 replace hs:=Hp.front [(.cells m3 xs6), .own z1] (b:=[(.cells m xs),(.cells m2 zx24)]) hs;refine ZAK ag36 (Ss (Ss (Ss (Ss (Ss (Ss (Ss (Ss Sz)))))))) rfl hxs1 hs fun y9 hy9=> ?_
 obtain⟨l1,hx4,h⟩:=bs h;refine ZEB [] (es2:=[(.cells m1 xs1),(.cells m3 xs6), .own z1,(.cells m xs),(.cells m2 zx24)]) underlying36 underlying36 rfl rfl ef89 rfl rfl hz2 hz2c (Hp.add hs hz2n) hy9 hx4 fun z3 s hz3 hz3c hs=>ZAO ZKm rfl ?_
 replace hs:=Hp.front [.own z3,(.cells m1 xs1)] (b:=[.own z1,(.cells m xs),(.cells m2 zx24)]) hs;refine ZCU (z:=l1) sz36 (Ss (Ss (Ss (Ss (Ss (Ss (Ss (Ss Sz)))))))) rfl rfl hz3 hxs6 hs fun xs7 s hxs7 hs=>ZAA<|ZAB<|ZAB<|ZAC<|ZAU (r:=(Rec.mk (v.v.1,v.v.2.1,x.v.2.2.1,v.v.2.2.2.1,l,v.v.2.2.2.2.2.1,v.v.2.2.2.2.2.2.1,v.v.2.2.2.2.2.2.2.1,l1,()):ZAF)) ag38 sz38 rfl hxs7 hs fun y10 hy10=> ?_
 obtain⟨r_2,hx5,h⟩:=bs h;refine ZAj (f:=fun a:ZAF×Unit=>ZBy a.1) (a:=((Rec.mk (v.v.1,v.v.2.1,x.v.2.2.1,v.v.2.2.2.1,l,v.v.2.2.2.2.2.1,v.v.2.2.2.2.2.2.1,v.v.2.2.2.2.2.2.2.1,l1,()):ZAF),())) rfl func37 rfl rfl (.cons (a:=((Rec.mk (v.v.1,v.v.2.1,x.v.2.2.1,v.v.2.2.2.1,l,v.v.2.2.2.2.2.1,v.v.2.2.2.2.2.2.1,v.v.2.2.2.2.2.2.2.1,l1,()):ZAF):ZAF)) hy10 .nil) hx5<|ZBS (v:=enc (!r_2)) rfl rfl<|ZAA ?_
 split at h
 ·rename_i c';refine ZAI rfl c'<|ZAB<|ZAC ?_
  replace hs:=Hp.front [(.cells m3 xs7), .own z3,(.cells m1 xs1), .own z1] (b:=[(.cells m2 zx24)]) hs;refine ZAU (r:=f) ag24 sz24 rfl hxs hs fun y11 hy11=> ?_
  replace hs:=Hp.front [(.cells m xs),(.cells m3 xs7), .own z3,(.cells m1 xs1), .own z1] (b:=[]) hs;refine ZAZ (r:=f) sz24 rfl rfl zf24 hy11 hs fun xs8 s hxs8 hs=>ZAG (v:=enc (2:Int)) rfl<|ZAA<|ZAN ?_
  obtain⟨w2,hlw2,hw2⟩:=ldW (r:=f) ag24 sz24 hxs8 hs;rw[←oi h];exact⟨rfl,KEc2 (a1:=f) (a2:=(2:Int)) rfl (.cell rfl hlw2 (.tmp rfl .nil)) hw2 (rfl:is _ (2:Int)) ⟨_,_,rfl,hw2,(rfl:is _ (2:Int))⟩⟩
 rename_i c';refine ZAJ rfl c'<|ZAM<|ZAB<|ZAC ?_
 replace hs:=Hp.front [(.cells m3 xs7), .own z3,(.cells m1 xs1), .own z1] (b:=[(.cells m2 zx24)]) hs;refine ZAU (r:=f) ag24 sz24 rfl hxs hs fun y12 hy12=> ?_
 replace hs:=Hp.front [(.cells m xs)] (b:=[.own z3,(.cells m1 xs1), .own z1,(.cells m2 zx24)]) hs;refine ZAU (r:=(Rec.mk (v.v.1,v.v.2.1,x.v.2.2.1,v.v.2.2.2.1,l,v.v.2.2.2.2.2.1,v.v.2.2.2.2.2.2.1,v.v.2.2.2.2.2.2.2.1,l1,()):ZAF)) ag38 sz38 rfl hxs7 hs fun y13 hy13=> ?_
 obtain⟨r_3,hx6,h⟩:=bs h;refine ZAj (f:=fun a:FsR×ZAF×Unit=>ZBc a.1 a.2.1) (a:=(f,(Rec.mk (v.v.1,v.v.2.1,x.v.2.2.1,v.v.2.2.2.1,l,v.v.2.2.2.2.2.1,v.v.2.2.2.2.2.2.1,v.v.2.2.2.2.2.2.2.1,l1,()):ZAF),())) rfl func38 rfl rfl (.cons (a:=f) hy12 (.cons (a:=((Rec.mk (v.v.1,v.v.2.1,x.v.2.2.1,v.v.2.2.2.1,l,v.v.2.2.2.2.2.1,v.v.2.2.2.2.2.2.1,v.v.2.2.2.2.2.2.2.1,l1,()):ZAF):ZAF)) hy13 .nil)) hx6 ?_
 replace hs:=Hp.front [(.cells m3 xs7),(.cells m xs), .own z3,(.cells m1 xs1), .own z1] (b:=[]) hs;refine ZAZ (r:=r_3) sz24 rfl rfl zf24 (Enc.self r_3) hs fun xs9 s hxs9 hs=>ZAG (v:=enc (0:Int)) rfl<|ZAA<|ZAN ?_
 obtain⟨w3,hlw3,hw3⟩:=ldW (r:=r_3) ag24 sz24 hxs9 hs;rw[←oi h];exact⟨rfl,KEc2 (a1:=r_3) (a2:=(0:Int)) rfl (.cell rfl hlw3 (.tmp rfl .nil)) hw3 (rfl:is _ (0:Int)) ⟨_,_,rfl,hw3,(rfl:is _ (0:Int))⟩⟩
theorem ZPs:ZAr Tryz.prog 24 (fun _=>Fn (fun a:FsR×ZAF×Unit=>ZLN a.1 a.2.1)):=fnC ZRO ⟨_,func24,rfl⟩<|fun a r h=>ZPr a.1 a.2.1 r h
noncomputable def pz26:Prims:=pz25.add 24 (Fn (fun a:FsR×ZAF×Unit=>ZLN a.1 a.2.1))
theorem ZRP:ZAV Tryz.prog pz26:=ZAS ZRO ZPs
theorem ZM5 (f:FsR) (dir:Int) (s_:Str) (num:Int) (r:FsR×Int) (h:ZDa f dir s_ num=some r):MF Tryz.prog pz26 17 [enc f,enc dir,enc s_,enc num] s0 fun v _=>ris v r:=by
 refine ZAe [(0,enc f),(1,enc dir),(2,enc s_),(3,enc num)] func17 rfl (by simp only[Tryz.f17];rfl) fun ψ=> ?_
 unfold ZDa at h;refine ZAB<|ZAC<|ZA1 (r:=f) rfl (Enc.self f) Hp.nil fun m xs s hxs hs=>ZAw (r:=(Rec.mk (([]:(List ZAF)),(0:Int),()):FsR)) zr24 zf24 hs fun m1 s hs=>ZAG (v:=enc (0:Int)) rfl<|ZAA<|ZAB<|ZAC ?_
 replace hs:=Hp.front [(.cells m1 zx24)] (b:=[]) hs;refine ZAU (r:=f) ag24 sz24 rfl hxs hs fun y hy=>ZAD rfl<|ZAD rfl ?_
 obtain⟨r_,hx,h⟩:=bs h;refine ZAj (f:=fun a:FsR×Int×Str×Unit=>ZB1 a.1 a.2.1 a.2.2.1) (a:=(f,dir,s_,())) rfl func41 rfl rfl (.cons (a:=f) hy (.cons (a:=dir) (Enc.self _) (.cons (a:=s_) (Enc.self _) .nil))) hx<|ZAD (v:=res r_) rfl<|ZAs rfl rfl<|ZAs rfl rfl<|ZAG rfl<|ZAG rfl<|ZAA<|ZAB<|ZAC<|ZAU (r:=f) ag24 sz24 rfl hxs hs fun y1 hy1=>ZAD rfl ?_
 obtain⟨r_1,hx1,h⟩:=bs h;refine ZAj (f:=fun a:FsR×Int×Unit=>ZA8 a.1 a.2.1) (a:=(f,dir,())) rfl func36 rfl rfl (.cons (a:=f) hy1 (.cons (a:=dir) (Enc.self _) .nil)) hx1<|ZAG rfl<|ZAA<|ZAB<|ZAB<|ZAC<|ZAD rfl<|ZAL (v:=enc (r_.2==2)) rfl rfl rfl<|ZAD rfl ?_
 obtain⟨b,hb_b,h⟩:=bs h;refine ZAT 3 (fun φ s=>Hp s [(.cells m xs),(.cells m1 zx24)]∧Fx φ [(1,(enc dir)),(2,(enc s_)),(3,(enc num)),(4,(.ptr m 0)),(8,(.ptr m1 0)),(11,(enc r_.2)),(12,(enc r_1)),(35,(enc b))]) ?_ ?_
 ·split at hb_b
  ·rename_i cg;refine ZAE rfl rfl (by simpa using cg)<|ZAE rfl rfl (by simpa using cg)<|ZAY (v:=enc true) rfl cg rfl<|ZAA ?_
   rw[←oi hb_b];exact⟨hs,FxR rfl⟩
  rename_i cg1;refine ZAH rfl rfl (by simpa using cg1)<|ZAD rfl<|ZAH rfl rfl (by simpa using cg1)<|ZAL (v:=enc (r_.2==203)) rfl rfl rfl<|ZAX rfl cg1 rfl<|ZAA ?_
  rw[←oi hb_b];exact⟨hs,FxR rfl⟩
 rintro φ s ⟨hs,hF⟩;rw[←hF.eq];refine ZAD rfl ?_
 obtain⟨b1,hb_b1,h⟩:=bs h;refine ZAT 3 (fun φ s=>Hp s [(.cells m xs),(.cells m1 zx24)]∧Fx φ [(1,(enc dir)),(2,(enc s_)),(3,(enc num)),(4,(.ptr m 0)),(8,(.ptr m1 0)),(11,(enc r_.2)),(12,(enc r_1)),(39,(enc b1))]) ?_ ?_
 ·split at hb_b1
  ·rename_i cg2;refine ZAE rfl rfl (by simpa using cg2)<|ZAE rfl rfl (by simpa using cg2)<|ZAY (v:=enc true) rfl cg2 rfl<|ZAA ?_
   rw[←oi hb_b1];exact⟨hs,FxR rfl⟩
  rename_i cg3;refine ZAH rfl rfl (by simpa using cg3)<|ZAD rfl<|ZAH rfl rfl (by simpa using cg3)<|ZAL (v:=enc (decide (r_1<0))) rfl rfl rfl<|ZAX rfl cg3 rfl<|ZAA ?_
  rw[←oi hb_b1];exact⟨hs,FxR rfl⟩
 rintro φ s ⟨hs,hF⟩;rw[←hF.eq];refine ZAA ?_
 split at h
 ·rename_i c';refine ZAI rfl c'<|ZAB<|ZAC<|ZAU (r:=f) ag24 sz24 rfl hxs hs fun y2 hy2=>ZAD rfl ?_
  replace hs:=Hp.front [(.cells m xs)] (b:=[]) hs;refine ZAZ (r:=f) sz24 rfl rfl zf24 hy2 hs fun xs1 s hxs1 hs=>ZAG rfl<|ZAA<|ZAN ?_
  obtain⟨w,hlw,hw⟩:=ldW (r:=f) ag24 sz24 hxs1 hs;rw[←oi h];exact⟨rfl,KEc2 (a1:=f) (a2:=r_.2) rfl (.cell rfl hlw (.tmp rfl .nil)) hw (rfl:is _ r_.2) ⟨_,_,rfl,hw,(rfl:is _ r_.2)⟩⟩
 rename_i c';refine ZAJ rfl c'<|ZAM<|ZAB<|ZAC<|ZAD rfl ?_
 obtain⟨r_2,hx2,h⟩:=bs h;refine ZAj (f:=fun a:Str×Unit=>ZB0 a.1) (a:=(s_,())) rfl func42 rfl rfl (.cons (a:=s_) (Enc.self _) .nil) hx2<|ZAG rfl<|ZAA<|ZAB<|ZAB<|ZAC<|ZAD rfl<|ZAL (v:=enc (r_2 !=0)) rfl rfl rfl<|ZAA ?_
 split at h
 ·rename_i c';refine ZAI rfl c'<|ZAB<|ZAC<|ZAU (r:=f) ag24 sz24 rfl hxs hs fun y3 hy3=>ZAD rfl ?_
  replace hs:=Hp.front [(.cells m xs)] (b:=[]) hs;refine ZAZ (r:=f) sz24 rfl rfl zf24 hy3 hs fun xs2 s hxs2 hs=>ZAG rfl<|ZAA<|ZAN ?_
  obtain⟨w1,hlw1,hw1⟩:=ldW (r:=f) ag24 sz24 hxs2 hs;rw[←oi h];exact⟨rfl,KEc2 (a1:=f) (a2:=r_2) rfl (.cell rfl hlw1 (.tmp rfl .nil)) hw1 (rfl:is _ r_2) ⟨_,_,rfl,hw1,(rfl:is _ r_2)⟩⟩
 rename_i c';refine ZAJ rfl c'<|ZAM<|ZAB<|ZAB<|ZAC<|ZAD rfl<|ZAL (v:=enc (r_.2==0)) rfl rfl rfl<|ZAA ?_
 split at h
 ·rename_i c';refine ZAI rfl c'<|ZAB<|ZAC<|ZAU (r:=f) ag24 sz24 rfl hxs hs fun y4 hy4=> ?_
  replace hs:=Hp.front [(.cells m xs)] (b:=[]) hs;refine ZAZ (r:=f) sz24 rfl rfl zf24 hy4 hs fun xs3 s hxs3 hs=>ZAG (v:=enc (202:Int)) rfl<|ZAA<|ZAN ?_
  obtain⟨w2,hlw2,hw2⟩:=ldW (r:=f) ag24 sz24 hxs3 hs;rw[←oi h];exact⟨rfl,KEc2 (a1:=f) (a2:=(202:Int)) rfl (.cell rfl hlw2 (.tmp rfl .nil)) hw2 (rfl:is _ (202:Int)) ⟨_,_,rfl,hw2,(rfl:is _ (202:Int))⟩⟩
 rename_i c';refine ZAJ rfl c'<|ZAM<|ZAB<|ZAC<|ZAU (r:=f) ag24 sz24 rfl hxs hs fun y5 hy5=>ZAD rfl ?_
 obtain⟨r_3,hx3,h⟩:=bs h;refine ZAj (f:=fun a:FsR×Int×Unit=>ZA8 a.1 a.2.1) (a:=(f,num,())) rfl func36 rfl rfl (.cons (a:=f) hy5 (.cons (a:=num) (Enc.self _) .nil)) hx3<|ZAG rfl<|ZAA<|ZAB<|ZAB<|ZAC<|ZAD rfl<|ZAL (v:=enc (decide (r_3<0))) rfl rfl rfl<|ZAA ?_
 split at h
 ·rename_i c';refine ZAI rfl c'<|ZAB<|ZAC<|ZAU (r:=f) ag24 sz24 rfl hxs hs fun y6 hy6=> ?_
  replace hs:=Hp.front [(.cells m xs)] (b:=[]) hs;refine ZAZ (r:=f) sz24 rfl rfl zf24 hy6 hs fun xs4 s hxs4 hs=>ZAG (v:=enc (201:Int)) rfl<|ZAA<|ZAN ?_
  obtain⟨w3,hlw3,hw3⟩:=ldW (r:=f) ag24 sz24 hxs4 hs;rw[←oi h];exact⟨rfl,KEc2 (a1:=f) (a2:=(201:Int)) rfl (.cell rfl hlw3 (.tmp rfl .nil)) hw3 (rfl:is _ (201:Int)) ⟨_,_,rfl,hw3,(rfl:is _ (201:Int))⟩⟩
 rename_i c';refine ZAJ rfl c'<|ZAM<|ZAB<|ZAC<|ZAO ZAk rfl<|ZAK ag22 Sz rfl hxs hs fun y7 hy7=>ZAD rfl ?_
 obtain⟨v,hx4,h⟩:=bs h;refine ZAv underlying22 sh38 rfl rfl hy7 hx4 fun p hp=>ZBb ag38 sz38 rfl hp fun y8 hy8=>ZAw (r:=(Rec.mk ((0:Int),(0:Int),(0:Int),(0:Int),([]:(List UInt8)),(str []),([]:(List Str)),([]:(List Int)),([]:(List ZAd)),()):ZAF)) zr38 zf38 hs fun m2 s hs=>ZAZ (r:=v) sz38 rfl rfl zf38 hy8 hs fun xs5 s hxs5 hs=>ZAA<|ZAB<|ZAB<|ZAC<|ZAO ZCR rfl<|ZAK ag25 (Ss Sz) rfl hxs5 hs fun y9 hy9=> ?_
 cases hy9;refine ZAL (v:=enc (v.v.2.1 !=2)) rfl rfl rfl<|ZAD rfl ?_
 obtain⟨b2,hb_b2,h⟩:=bs h;refine ZAT 4 (fun φ s=>Hp s [(.cells m2 xs5),(.cells m xs),(.cells m1 zx24)]∧Fx φ [(1,(enc dir)),(2,(enc s_)),(3,(enc num)),(4,(.ptr m 0)),(8,(.ptr m1 0)),(12,(enc r_1)),(15,(.ptr m2 0)),(69,(enc b2))]) ?_ ?_
 ·split at hb_b2
  ·rename_i cg4;refine ZAH rfl rfl cg4<|ZAO ZCD rfl<|ZAH rfl rfl cg4<|ZAK ag3 (Ss (Ss (Ss Sz))) rfl hxs5 hs fun y10 hy10=> ?_
   cases hy10;refine ZAH rfl rfl cg4<|ZAL (v:=enc (v.v.2.2.2.1==64)) rfl rfl rfl<|ZAY rfl cg4 rfl<|ZAA ?_
   rw[←oi hb_b2];exact⟨hs,FxR rfl⟩
  rename_i cg5;refine ZAE rfl rfl cg5<|ZAE rfl rfl cg5<|ZAE rfl rfl cg5<|ZAX (v:=enc false) rfl cg5 rfl<|ZAA ?_
  rw[←oi hb_b2];exact⟨hs,FxR rfl⟩
 rintro φ s ⟨hs,hF⟩;rw[←hF.eq];refine ZAA ?_
 split at h
 ·rename_i c';refine ZAI rfl c'<|ZAB<|ZAC ?_
  replace hs:=Hp.front [(.cells m2 xs5)] (b:=[(.cells m1 zx24)]) hs;refine ZAU (r:=f) ag24 sz24 rfl hxs hs fun y11 hy11=> ?_
  replace hs:=Hp.front [(.cells m xs),(.cells m2 xs5)] (b:=[]) hs;refine ZAZ (r:=f) sz24 rfl rfl zf24 hy11 hs fun xs6 s hxs6 hs=>ZAG (v:=enc (210:Int)) rfl<|ZAA<|ZAN ?_
  obtain⟨w4,hlw4,hw4⟩:=ldW (r:=f) ag24 sz24 hxs6 hs;rw[←oi h];exact⟨rfl,KEc2 (a1:=f) (a2:=(210:Int)) rfl (.cell rfl hlw4 (.tmp rfl .nil)) hw4 (rfl:is _ (210:Int)) ⟨_,_,rfl,hw4,(rfl:is _ (210:Int))⟩⟩
 rename_i c';refine ZAJ rfl c'<|ZAM<|ZAB<|ZAC<|ZAO ZAk rfl ?_
 replace hs:=Hp.front [(.cells m2 xs5)] (b:=[(.cells m1 zx24)]) hs;refine ZAK ag22 Sz rfl hxs hs fun y12 hy12=>ZAD rfl ?_
 obtain⟨v1,hx5,h⟩:=bs h;refine ZAv underlying22 sh38 rfl rfl hy12 hx5 fun p1 hp1=>ZBb ag38 sz38 rfl hp1 fun y13 hy13=>ZAw (r:=(Rec.mk ((0:Int),(0:Int),(0:Int),(0:Int),([]:(List UInt8)),(str []),([]:(List Str)),([]:(List Int)),([]:(List ZAd)),()):ZAF)) zr38 zf38 hs fun m3 s hs=>ZAZ (r:=v1) sz38 rfl rfl zf38 hy13 hs fun xs7 s hxs7 hs=>ZAA<|ZAB<|ZAB<|ZAC<|ZAO ZBJ rfl<|ZAK ag34 (Ss (Ss (Ss (Ss (Ss (Ss Sz)))))) rfl hxs7 hs fun y14 hy14=>ZAp underlying34 rfl rfl hy14<|ZAL (v:=enc (((v1.v.2.2.2.2.2.2.1.length:Int)==128):Bool)) rfl rfl rfl<|ZAA ?_
 split at h
 ·rename_i c';refine ZAI rfl c'<|ZAB<|ZAC ?_
  replace hs:=Hp.front [(.cells m3 xs7)] (b:=[(.cells m2 xs5),(.cells m1 zx24)]) hs;refine ZAU (r:=f) ag24 sz24 rfl hxs hs fun y15 hy15=> ?_
  replace hs:=Hp.front [(.cells m xs),(.cells m3 xs7),(.cells m2 xs5)] (b:=[]) hs;refine ZAZ (r:=f) sz24 rfl rfl zf24 hy15 hs fun xs8 s hxs8 hs=>ZAG (v:=enc (211:Int)) rfl<|ZAA<|ZAN ?_
  obtain⟨w5,hlw5,hw5⟩:=ldW (r:=f) ag24 sz24 hxs8 hs;rw[←oi h];exact⟨rfl,KEc2 (a1:=f) (a2:=(211:Int)) rfl (.cell rfl hlw5 (.tmp rfl .nil)) hw5 (rfl:is _ (211:Int)) ⟨_,_,rfl,hw5,(rfl:is _ (211:Int))⟩⟩
 rename_i c';refine ZAJ rfl c'<|ZAM<|ZDW (fun φ s=>∃(y16:ZAF) (xs_y16:List AV),fi xs_y16 y16.v∧Fx φ [(1,(enc dir)),(2,(enc s_)),(3,(enc num)),(4,(.ptr m 0)),(8,(.ptr m1 0)),(15,(.ptr m2 0)),(16,(.ptr m3 0))]∧Hp s [(.cells m3 xs7),(.cells m xs),(.cells m1 zx24),(.cells m2 xs_y16)]∧ZCi v1 s_ num f dir y16=some r) ?_ ?_
 ·refine ZAB ?_
  refine ZAC<|ZAO ZCR rfl ?_
  replace hs:=Hp.front [(.cells m3 xs7),(.cells m xs)] (b:=[(.cells m1 zx24)]) hs;refine ZAK ag25 (Ss Sz) rfl hxs5 hs fun y29 hy29=> ?_
  cases hy29;refine ZAL (v:=enc (v.v.2.1 !=2)) rfl rfl rfl<|ZAA ?_
  split at h
  ·rename_i c';refine ZAI rfl c'<|ZAC<|ZAO ZCD rfl<|ZAK ag3 (Ss (Ss (Ss Sz))) rfl hxs5 hs fun y30 hy30=> ?_
   cases hy30;refine ZAL (v:=enc (IntKind.i64.wrap (v.v.2.2.2.1+1))) rfl rfl rfl<|ZAO ZCD rfl<|ZCU (z:=((IntKind.i64.wrap (v.v.2.2.2.1+1)):Int)) sz3 (Ss (Ss (Ss Sz))) rfl rfl (rfl:is _ ((IntKind.i64.wrap (v.v.2.2.2.1+1)):Int)) hxs5 hs fun xs15 s hxs15 hs=>ZAA ?_
   exact⟨(Rec.mk (v.v.1,v.v.2.1,v.v.2.2.1,(IntKind.i64.wrap (v.v.2.2.2.1+1)),v.v.2.2.2.2.1,v.v.2.2.2.2.2.1,v.v.2.2.2.2.2.2.1,v.v.2.2.2.2.2.2.2.1,v.v.2.2.2.2.2.2.2.2.1,()):ZAF),xs15,hxs15,FxR rfl,(Hp.front [(.cells m xs),(.cells m1 zx24),(.cells m2 xs15)] (b:=[]) (Hp.front [(.cells m1 zx24),(.cells m2 xs15),(.cells m3 xs7)] (b:=[]) (Hp.front [(.cells m2 xs15),(.cells m3 xs7),(.cells m xs)] (b:=[]) (Hp.front [] (b:=[(.cells m3 xs7),(.cells m xs),(.cells m1 zx24)]) hs)))),h⟩
  rename_i c';refine ZAJ rfl c'<|ZAM ?_
  exact⟨v,xs5,hxs5,FxR rfl,(Hp.front [(.cells m xs),(.cells m1 zx24),(.cells m2 xs5)] (b:=[]) (Hp.front [(.cells m1 zx24),(.cells m2 xs5),(.cells m3 xs7)] (b:=[]) (Hp.front [(.cells m2 xs5),(.cells m3 xs7),(.cells m xs)] (b:=[]) (Hp.front [] (b:=[(.cells m3 xs7),(.cells m xs),(.cells m1 zx24)]) hs)))),h⟩
 rintro φ s ⟨y16,xs_y16,hxs_y16,hF,hs,h⟩;rw[←hF.eq];unfold ZCi at h;refine ZAB<|ZAC<|ZAU (r:=v1) ag38 sz38 rfl hxs7 hs fun y17 hy17=>ZAD rfl ?_
 obtain⟨r_4,hx6,h⟩:=bs h;refine ZAj (f:=fun a:ZAF×Str×Unit=>ZF8 a.1 a.2.1) (a:=(v1,s_,())) rfl func43 rfl rfl (.cons (a:=v1) hy17 (.cons (a:=s_) (Enc.self _) .nil)) hx6<|ZAD (v:=res r_4) rfl<|ZAs rfl rfl<|ZAs rfl rfl<|ZAG rfl<|ZAG rfl<|ZAA<|ZAB<|ZAo (by decide+kernel) (by decide+kernel)<|ZBs [] ([]:(List Str)) underlying34 ef9 rfl rfl rfl (Nat.le_of_ble_eq_true rfl) trivial fun z hz hzc hzn=>ZAO ZBJ rfl<|ZAK ag34 (Ss (Ss (Ss (Ss (Ss (Ss Sz)))))) rfl hxs7 hs fun y18 hy18=>ZAD rfl ?_
 obtain⟨l,hx7,h⟩:=bs h;refine ZIG underlying34 sh9 rfl rfl hy18 hx7 fun z1 hz1=> ?_
 obtain⟨l1,hx8,h⟩:=bs h;refine ZEB [] (es2:=[(.cells m3 xs7),(.cells m xs),(.cells m1 zx24),(.cells m2 xs_y16)]) underlying34 underlying34 rfl rfl ef9 rfl rfl hz hzc (Hp.add hs hzn) hz1 hx8 fun z2 s hz2 hz2c hs=>ZAD rfl<|ZBs [(enc s_)] ([s_]:(List Str)) underlying34 ef9 rfl rfl rfl (Nat.le_of_ble_eq_true rfl) ⟨(rfl:is _ s_),trivial⟩ fun z3 hz3 hz3c hz3n=> ?_
 obtain⟨l2,hx9,h⟩:=bs h;refine ZEB [] (es2:=[(.cells m3 xs7),(.cells m xs),(.cells m1 zx24),(.cells m2 xs_y16)]) underlying34 underlying34 rfl rfl ef9 rfl rfl hz2 hz2c hs hz3 hx9 fun z4 s hz4 hz4c hs=>ZAO ZBJ rfl ?_
 replace hs:=Hp.front [.own z4] (b:=[(.cells m xs),(.cells m1 zx24),(.cells m2 xs_y16)]) hs;refine ZAK ag34 (Ss (Ss (Ss (Ss (Ss (Ss Sz)))))) rfl hxs7 hs fun y19 hy19=>ZAD rfl ?_
 obtain⟨l3,hx10,h⟩:=bs h;refine ZIF underlying34 sh9 rfl rfl hy19 hx10 fun z5 hz5=> ?_
 obtain⟨l4,hx11,h⟩:=bs h;refine ZEB [(.cells m3 xs7)] (es2:=[(.cells m xs),(.cells m1 zx24),(.cells m2 xs_y16)]) underlying34 underlying34 rfl rfl ef9 rfl rfl hz4 hz4c hs hz5 hx11 fun z6 s hz6 hz6c hs=>ZAO ZBJ rfl<|ZCU (z:=l4) sz34 (Ss (Ss (Ss (Ss (Ss (Ss Sz)))))) rfl rfl hz6 hxs7 hs fun xs9 s hxs9 hs=>ZAA<|ZAB<|ZAo (by decide+kernel) (by decide+kernel)<|ZBs [] ([]:(List Int)) underlying35 ef3 rfl rfl rfl (Nat.le_of_ble_eq_true rfl) trivial fun z7 hz7 hz7c hz7n=>ZAO ZBY rfl<|ZAK ag35 (Ss (Ss (Ss (Ss (Ss (Ss (Ss Sz))))))) rfl hxs9 hs fun y20 hy20=>ZAD rfl ?_
 obtain⟨l5,hx12,h⟩:=bs h;refine ZIG underlying35 sh3 rfl rfl hy20 hx12 fun z8 hz8=> ?_
 obtain⟨l6,hx13,h⟩:=bs h;refine ZEB [] (es2:=[(.cells m3 xs9), .own z6,(.cells m xs),(.cells m1 zx24),(.cells m2 xs_y16)]) underlying35 underlying35 rfl rfl ef3 rfl rfl hz7 hz7c (Hp.add hs hz7n) hz8 hx13 fun z9 s hz9 hz9c hs=>ZAD rfl<|ZBs [(enc num)] ([num]:(List Int)) underlying35 ef3 rfl rfl rfl (Nat.le_of_ble_eq_true rfl) ⟨(rfl:is _ num),trivial⟩ fun z10 hz10 hz10c hz10n=> ?_
 obtain⟨l7,hx14,h⟩:=bs h;refine ZEB [] (es2:=[(.cells m3 xs9), .own z6,(.cells m xs),(.cells m1 zx24),(.cells m2 xs_y16)]) underlying35 underlying35 rfl rfl ef3 rfl rfl hz9 hz9c hs hz10 hx14 fun z11 s hz11 hz11c hs=>ZAO ZBY rfl ?_
 replace hs:=Hp.front [.own z11] (b:=[.own z6,(.cells m xs),(.cells m1 zx24),(.cells m2 xs_y16)]) hs;refine ZAK ag35 (Ss (Ss (Ss (Ss (Ss (Ss (Ss Sz))))))) rfl hxs9 hs fun y21 hy21=>ZAD rfl ?_
 obtain⟨l8,hx15,h⟩:=bs h;refine ZIF underlying35 sh3 rfl rfl hy21 hx15 fun z12 hz12=> ?_
 obtain⟨l9,hx16,h⟩:=bs h;refine ZEB [(.cells m3 xs9)] (es2:=[.own z6,(.cells m xs),(.cells m1 zx24),(.cells m2 xs_y16)]) underlying35 underlying35 rfl rfl ef3 rfl rfl hz11 hz11c hs hz12 hx16 fun z13 s hz13 hz13c hs=>ZAO ZBY rfl<|ZCU (z:=l9) sz35 (Ss (Ss (Ss (Ss (Ss (Ss (Ss Sz))))))) rfl rfl hz13 hxs9 hs fun xs10 s hxs10 hs=>ZAA<|ZAB<|ZAC ?_
 replace hs:=Hp.front [(.cells m3 xs10), .own z13, .own z6] (b:=[(.cells m1 zx24),(.cells m2 xs_y16)]) hs;refine ZAU (r:=f) ag24 sz24 rfl hxs hs fun y22 hy22=> ?_
 replace hs:=Hp.front [(.cells m xs)] (b:=[.own z13, .own z6,(.cells m1 zx24),(.cells m2 xs_y16)]) hs;refine ZAU (r:=(Rec.mk (v1.v.1,v1.v.2.1,v1.v.2.2.1,v1.v.2.2.2.1,v1.v.2.2.2.2.1,v1.v.2.2.2.2.2.1,l4,l9,v1.v.2.2.2.2.2.2.2.2.1,()):ZAF)) ag38 sz38 rfl hxs10 hs fun y23 hy23=> ?_
 obtain⟨r_5,hx17,h⟩:=bs h;refine ZAj (f:=fun a:FsR×ZAF×Unit=>ZBc a.1 a.2.1) (a:=(f,(Rec.mk (v1.v.1,v1.v.2.1,v1.v.2.2.1,v1.v.2.2.2.1,v1.v.2.2.2.2.1,v1.v.2.2.2.2.2.1,l4,l9,v1.v.2.2.2.2.2.2.2.2.1,()):ZAF),())) rfl func38 rfl rfl (.cons (a:=f) hy22 (.cons (a:=((Rec.mk (v1.v.1,v1.v.2.1,v1.v.2.2.1,v1.v.2.2.2.1,v1.v.2.2.2.2.1,v1.v.2.2.2.2.2.1,l4,l9,v1.v.2.2.2.2.2.2.2.2.1,()):ZAF):ZAF)) hy23 .nil)) hx17<|ZAw (r:=(Rec.mk (([]:(List ZAF)),(0:Int),()):FsR)) zr24 zf24 hs fun m4 s hs=>ZAZ (r:=r_5) sz24 rfl rfl zf24 (Enc.self r_5) hs fun xs11 s hxs11 hs=>ZAA<|ZDW (fun φ s=>∃(out_:FsR) (xs_out_:List AV),fi xs_out_ out_.v∧Fx φ [(4,(.ptr m 0)),(8,(.ptr m1 0)),(19,(.ptr m4 0))]∧Hp s [(.cells m xs),(.cells m1 zx24),(.cells m4 xs_out_)]∧ZBn f out_=some r) ?_ ?_
 ·refine ZAB ?_
  refine ZAC<|ZAD rfl<|ZAD rfl<|ZAL (v:=enc (num !=dir)) rfl rfl rfl<|ZAA ?_
  split at h
  ·rename_i c';refine ZAI rfl c'<|ZAC<|ZAU (r:=r_5) ag24 sz24 rfl hxs11 hs fun y27 hy27=> ?_
   replace hs:=Hp.front [(.cells m4 xs11),(.cells m3 xs10),(.cells m xs), .own z13, .own z6,(.cells m1 zx24)] (b:=[]) hs;refine ZAU (r:=y16) ag38 sz38 rfl hxs_y16 hs fun y28 hy28=> ?_
   obtain⟨r_7,hx19,h⟩:=bs h;refine ZAj (f:=fun a:FsR×ZAF×Unit=>ZBc a.1 a.2.1) (a:=(r_5,y16,())) rfl func38 rfl rfl (.cons (a:=r_5) hy27 (.cons (a:=y16) hy28 .nil)) hx19 ?_
   replace hs:=Hp.front [(.cells m2 xs_y16)] (b:=[(.cells m3 xs10),(.cells m xs), .own z13, .own z6,(.cells m1 zx24)]) hs;refine ZAZ (r:=r_7) sz24 rfl rfl hxs11 (Enc.self r_7) hs fun xs14 s hxs14 hs=>ZAA ?_
   exact⟨r_7,xs14,hxs14,FxR rfl,(Hp.front [(.cells m1 zx24),(.cells m4 xs14)] (b:=[]) (Hp.front [(.cells m4 xs14),(.cells m xs)] (b:=[]) (Hp.front [] (b:=[(.cells m xs),(.cells m1 zx24)]) (Hp.drop [(.cells m4 xs14),(.cells m xs)] (b:=[(.cells m1 zx24)]) (Hp.drop [(.cells m4 xs14),(.cells m xs)] (b:=[.own z6,(.cells m1 zx24)]) (Hp.drop [(.cells m4 xs14)] (b:=[(.cells m xs), .own z13, .own z6,(.cells m1 zx24)]) (Hp.drop [(.cells m4 xs14)] (b:=[(.cells m3 xs10),(.cells m xs), .own z13, .own z6,(.cells m1 zx24)]) hs))))))),h⟩
  rename_i c';refine ZAJ rfl c'<|ZAM ?_
  exact⟨r_5,xs11,hxs11,FxR rfl,(Hp.front [(.cells m1 zx24),(.cells m4 xs11)] (b:=[]) (Hp.front [(.cells m4 xs11),(.cells m xs)] (b:=[]) (Hp.front [] (b:=[(.cells m xs),(.cells m1 zx24)]) (Hp.drop [(.cells m4 xs11),(.cells m xs),(.cells m1 zx24)] (b:=[]) (Hp.drop [(.cells m4 xs11),(.cells m xs)] (b:=[(.cells m1 zx24),(.cells m2 xs_y16)]) (Hp.drop [(.cells m4 xs11),(.cells m xs)] (b:=[.own z6,(.cells m1 zx24),(.cells m2 xs_y16)]) (Hp.drop [(.cells m4 xs11)] (b:=[(.cells m xs), .own z13, .own z6,(.cells m1 zx24),(.cells m2 xs_y16)]) hs))))))),h⟩
 rintro φ s ⟨out_,xs_out_,hxs_out_,hF,hs,h⟩;rw[←hF.eq];unfold ZBn at h;refine ZAB<|ZAB<|ZAC ?_
 replace hs:=Hp.front [(.cells m xs),(.cells m1 zx24)] (b:=[]) hs;refine ZAU (r:=out_) ag24 sz24 rfl hxs_out_ hs fun y24 hy24=> ?_
 obtain⟨r_6,hx18,h⟩:=bs h;refine ZAj (f:=fun a:FsR×Unit=>ZBP a.1) (a:=(out_,())) rfl func35 rfl rfl (.cons (a:=out_) hy24 .nil) hx18<|ZBS (v:=enc (!r_6)) rfl rfl<|ZAA ?_
 split at h
 ·rename_i c';refine ZAI rfl c'<|ZAB<|ZAC ?_
  replace hs:=Hp.front [(.cells m4 xs_out_)] (b:=[(.cells m1 zx24)]) hs;refine ZAU (r:=f) ag24 sz24 rfl hxs hs fun y25 hy25=> ?_
  replace hs:=Hp.front [(.cells m xs),(.cells m4 xs_out_)] (b:=[]) hs;refine ZAZ (r:=f) sz24 rfl rfl zf24 hy25 hs fun xs12 s hxs12 hs=>ZAG (v:=enc (2:Int)) rfl<|ZAA<|ZAN ?_
  obtain⟨w6,hlw6,hw6⟩:=ldW (r:=f) ag24 sz24 hxs12 hs;rw[←oi h];exact⟨rfl,KEc2 (a1:=f) (a2:=(2:Int)) rfl (.cell rfl hlw6 (.tmp rfl .nil)) hw6 (rfl:is _ (2:Int)) ⟨_,_,rfl,hw6,(rfl:is _ (2:Int))⟩⟩
 rename_i c';refine ZAJ rfl c'<|ZAM<|ZAB<|ZAC<|ZAU (r:=out_) ag24 sz24 rfl hxs_out_ hs fun y26 hy26=> ?_
 replace hs:=Hp.front [(.cells m4 xs_out_),(.cells m xs)] (b:=[]) hs;refine ZAZ (r:=out_) sz24 rfl rfl zf24 hy26 hs fun xs13 s hxs13 hs=>ZAG (v:=enc (0:Int)) rfl<|ZAA<|ZAN ?_
 obtain⟨w7,hlw7,hw7⟩:=ldW (r:=out_) ag24 sz24 hxs13 hs;rw[←oi h];exact⟨rfl,KEc2 (a1:=out_) (a2:=(0:Int)) rfl (.cell rfl hlw7 (.tmp rfl .nil)) hw7 (rfl:is _ (0:Int)) ⟨_,_,rfl,hw7,(rfl:is _ (0:Int))⟩⟩
theorem ZM6:ZAr Tryz.prog 17 (fun _=>Fn (fun a:FsR×Int×Str×Int×Unit=>ZDa a.1 a.2.1 a.2.2.1 a.2.2.2.1)):=fnC ZRP ⟨_,func17,rfl⟩<|fun a r h=>ZM5 a.1 a.2.1 a.2.2.1 a.2.2.2.1 r h
noncomputable def pz27:Prims:=pz26.add 17 (Fn (fun a:FsR×Int×Str×Int×Unit=>ZDa a.1 a.2.1 a.2.2.1 a.2.2.2.1))
theorem ZRQ:ZAV Tryz.prog pz27:=ZAS ZRP ZM6
theorem ZM7 (a:(List ZAd)) (b:(List ZAd)) (r:Bool) (h:ZDb a b=some r):MF Tryz.prog pz27 59 [enc a,enc b] s0 fun v _=>ris v r:=by
 refine ZAe [(0,enc a),(1,enc b)] func59 rfl (by simp only[Tryz.f59];rfl) fun ψ=> ?_
 unfold ZDb at h;refine ZAB<|ZAC<|ZAG (v:=enc false) rfl<|ZAA<|ZAB<|ZAB<|ZAC<|ZAD rfl<|ZAp underlying36 rfl rfl (Enc.self a)<|ZAD rfl<|ZAp underlying36 rfl rfl (Enc.self b)<|ZAL (v:=enc (((a.length:Int) !=(b.length:Int)):Bool)) rfl rfl rfl<|ZAA ?_
 split at h
 ·rename_i c';refine ZAI rfl c'<|ZAB<|ZAC<|ZAG (v:=enc false) rfl<|ZAA<|ZAN ?_
  rw[←oi h];exact⟨rfl,KE1 (a:=(false:Bool)) rfl rfl (rfl:is _ (false:Bool)) (rfl:is _ (false:Bool))⟩
 rename_i c';refine ZAJ rfl c'<|ZAM<|ZAB<|ZAB<|ZAC<|ZAG (v:=enc (0:Int)) rfl<|ZAA<|ZAQ ?_
 obtain⟨o,hl,h⟩:=bs h;refine ZAm (fun(p:Int) φ s=>match p with | i=>Fx φ [(0,(enc (a:(List ZAd)))),(1,(enc (b:(List ZAd)))),(5,(enc i))]) (fun(o:(Unit ⊕ Bool)) e φ s=>match o with | (.inl _)=>e= .exit 0∧Fx φ [] | (.inr v)=>e= .ret∧Fx φ [(4,(enc v))]) ?_ hl (FxR rfl) ?_
 ·rintro i o h φ s hF;rw[←hF.eq];rw[ZGC] at h;refine ZAB<|ZAB<|ZAC<|ZAD rfl<|ZAD rfl<|ZAp underlying36 rfl rfl (Enc.self a)<|ZAL (v:=enc (decide (i<(a.length:Int)))) rfl rfl rfl<|ZAA ?_
  split at h
  ·rename_i c';refine ZAI rfl c'<|ZAM<|ZAB<|ZAQ<|ZAB<|ZAo (by decide+kernel) (by decide+kernel)<|ZAD rfl<|ZAD rfl ?_
   obtain⟨v1,hx,h⟩:=bs h;refine ZAv underlying36 sh89 rfl rfl (Enc.self a) hx fun p hp=>ZB5 ZMp Sz rfl hp fun p1 hp1=>ZBG ag9 rfl hp1 fun y hy=> ?_
   cases hy;refine ZAD rfl<|ZAD rfl ?_
   obtain⟨v2,hx1,h⟩:=bs h;refine ZAv underlying36 sh89 rfl rfl (Enc.self b) hx1 fun p2 hp2=>ZB5 ZMp Sz rfl hp2 fun p3 hp3=>ZBG ag9 rfl hp3 fun y1 hy1=> ?_
   cases hy1;refine ZAL (v:=enc (!eqS v1.v.1 v2.v.1)) rfl rfl rfl<|ZAD rfl ?_
   obtain⟨b1,hb_b1,h⟩:=bs h;refine ZAT 14 (fun φ s=>Fx φ [(0,(enc (a:(List ZAd)))),(1,(enc (b:(List ZAd)))),(5,(enc i)),(42,(enc b1))]) ?_ ?_
   ·split at hb_b1
    ·rename_i cg;refine ZAE rfl rfl (by simpa using cg)<|ZAE rfl rfl (by simpa using cg)<|ZAE rfl rfl (by simpa using cg)<|ZAE rfl rfl (by simpa using cg)<|ZAE rfl rfl (by simpa using cg)<|ZAE rfl rfl (by simpa using cg)<|ZAE rfl rfl (by simpa using cg)<|ZAE rfl rfl (by simpa using cg)<|ZAE rfl rfl (by simpa using cg)<|ZAE rfl rfl (by simpa using cg)<|ZAE rfl rfl (by simpa using cg)<|ZAE rfl rfl (by simpa using cg)<|ZAE rfl rfl (by simpa using cg)<|ZAY (v:=enc true) rfl cg rfl<|ZAA ?_
     rw[←oi hb_b1];exact(FxR rfl)
    rename_i cg1;refine ZAH rfl rfl (by simpa using cg1)<|ZAD rfl<|ZAH rfl rfl (by simpa using cg1)<|ZAD rfl<|ZAH rfl rfl (by simpa using cg1) ?_
    obtain⟨v3,hx2,hb_b1⟩:=bs hb_b1;refine ZAv underlying36 sh89 rfl rfl (Enc.self a) hx2 fun p4 hp4=>ZAH rfl rfl (by simpa using cg1)<|ZB5 ZMq (Ss Sz) rfl hp4 fun p5 hp5=>ZAH rfl rfl (by simpa using cg1)<|ZBG ag33 rfl hp5 fun y2 hy2=>ZAH rfl rfl (by simpa using cg1)<|ZLG (sT:=str v3.v.2.1) underlying33 underlying5 underlying9 rfl hy2<|ZAH rfl rfl (by simpa using cg1)<|ZAD rfl<|ZAH rfl rfl (by simpa using cg1)<|ZAD rfl<|ZAH rfl rfl (by simpa using cg1) ?_
    obtain⟨v4,hx3,hb_b1⟩:=bs hb_b1;refine ZAv underlying36 sh89 rfl rfl (Enc.self b) hx3 fun p6 hp6=>ZAH rfl rfl (by simpa using cg1)<|ZB5 ZMq (Ss Sz) rfl hp6 fun p7 hp7=>ZAH rfl rfl (by simpa using cg1)<|ZBG ag33 rfl hp7 fun y3 hy3=>ZAH rfl rfl (by simpa using cg1)<|ZLG (sT:=str v4.v.2.1) underlying33 underlying5 underlying9 rfl hy3<|ZAH rfl rfl (by simpa using cg1)<|ZAL (v:=enc (!eqS (str v3.v.2.1) (str v4.v.2.1))) rfl rfl rfl<|ZAX rfl cg1 rfl<|ZAA ?_
    rw[←oi hb_b1];exact(FxR rfl)
   rintro φ s hF;rw[←hF.eq];refine ZAA ?_
   split at h
   ·rename_i c';refine ZAI rfl c'<|ZAB<|ZAC<|ZAG (v:=enc false) rfl<|ZAA<|ZAN ?_
    show if _ then _ else _
    rw[if_neg (by simp)]
    rw[←oi h];exact⟨_,rfl,rfl,FxR rfl⟩
   rename_i c';refine ZAJ rfl c'<|ZAM<|ZAC<|ZAD rfl<|ZAL (v:=enc (IntKind.i64.wrap (i+1))) rfl rfl rfl<|ZAG rfl<|ZAA ?_
   rw[←oi h];exact⟨_,rfl,FxR rfl⟩
  rename_i c';refine ZAJ rfl c'<|ZAl ?_
  rw[←oi h];exact⟨_,rfl,rfl,trivial⟩
 intro e φ s hE;rcases o with _u | v
 ·obtain⟨rfl,hF⟩:=hE;rw[←hF.eq];rw[ZGD] at h;show if _ then _ else _
  rw[if_pos rfl];refine ZAB<|ZAC<|ZAG (v:=enc true) rfl<|ZAA<|ZAN ?_
  rw[←oi h];exact⟨rfl,KE1 (a:=(true:Bool)) rfl rfl (rfl:is _ (true:Bool)) (rfl:is _ (true:Bool))⟩
 obtain⟨rfl,hF⟩:=hE;rw[←hF.eq];rw[ZGD] at h;show if _ then _ else _
 rw[if_neg (by simp)]
 rw[←oi h];exact⟨rfl,KE1 (a:=v) rfl rfl (rfl:is _ v) (rfl:is _ v)⟩
theorem ZM8:ZAr Tryz.prog 59 (fun _=>Fn (fun a:(List ZAd)×(List ZAd)×Unit=>ZDb a.1 a.2.1)):=fnC ZRQ ⟨_,func59,rfl⟩<|fun a r h=>ZM7 a.1 a.2.1 r h
noncomputable def pz28:Prims:=pz27.add 59 (Fn (fun a:(List ZAd)×(List ZAd)×Unit=>ZDb a.1 a.2.1))
theorem ZRR:ZAV Tryz.prog pz28:=ZAS ZRQ ZM8
theorem ZM9 (a:ZAF) (b:ZAF) (r:Bool) (h:ZDc a b=some r):MF Tryz.prog pz28 29 [enc a,enc b] s0 fun v _=>ris v r:=by
 refine ZAe [(0,enc a),(1,enc b)] func29 rfl (by simp only[Tryz.f29];rfl) fun ψ=> ?_
 unfold ZDc at h;refine ZAB<|ZAC<|ZA1 (r:=a) rfl (Enc.self a) Hp.nil fun m xs s hxs hs=>ZA1 (r:=b) rfl (Enc.self b) hs fun m1 xs1 s hxs1 hs=>ZAG (v:=enc false) rfl<|ZAA<|ZAB<|ZAB<|ZAC<|ZAO ZBO rfl ?_
 replace hs:=Hp.front [(.cells m1 xs1)] (b:=[]) hs;refine ZAK ag3 Sz rfl hxs hs fun y hy=> ?_
 cases hy;refine ZAO ZBO rfl ?_
 replace hs:=Hp.front [(.cells m xs)] (b:=[]) hs;refine ZAK ag3 Sz rfl hxs1 hs fun y1 hy1=> ?_
 cases hy1;refine ZAL (v:=enc (a.v.1 !=b.v.1)) rfl rfl rfl<|ZAD rfl ?_
 obtain⟨b1,hb_b1,h⟩:=bs h;refine ZAT 6 (fun φ s=>Hp s [(.cells m1 xs1),(.cells m xs)]∧Fx φ [(2,(.ptr m 0)),(3,(.ptr m1 0)),(18,(enc b1))]) ?_ ?_
 ·split at hb_b1
  ·rename_i cg;refine ZAE rfl rfl (by simpa using cg)<|ZAE rfl rfl (by simpa using cg)<|ZAE rfl rfl (by simpa using cg)<|ZAE rfl rfl (by simpa using cg)<|ZAE rfl rfl (by simpa using cg)<|ZAY (v:=enc true) rfl cg rfl<|ZAA ?_
   rw[←oi hb_b1];exact⟨hs,FxR rfl⟩
  rename_i cg1;refine ZAH rfl rfl (by simpa using cg1)<|ZAO ZCR rfl<|ZAH rfl rfl (by simpa using cg1) ?_
  replace hs:=Hp.front [(.cells m1 xs1)] (b:=[]) hs;refine ZAK ag25 (Ss Sz) rfl hxs hs fun y2 hy2=> ?_
  cases hy2;refine ZAH rfl rfl (by simpa using cg1)<|ZAO ZCR rfl<|ZAH rfl rfl (by simpa using cg1) ?_
  replace hs:=Hp.front [(.cells m xs)] (b:=[]) hs;refine ZAK ag25 (Ss Sz) rfl hxs1 hs fun y3 hy3=> ?_
  cases hy3;refine ZAH rfl rfl (by simpa using cg1)<|ZAL (v:=enc (a.v.2.1 !=b.v.2.1)) rfl rfl rfl<|ZAX rfl cg1 rfl<|ZAA ?_
  rw[←oi hb_b1];exact⟨hs,FxR rfl⟩
 rintro φ s ⟨hs,hF⟩;rw[←hF.eq];refine ZAD rfl ?_
 obtain⟨b2,hb_b2,h⟩:=bs h;refine ZAT 6 (fun φ s=>Hp s [(.cells m1 xs1),(.cells m xs)]∧Fx φ [(2,(.ptr m 0)),(3,(.ptr m1 0)),(25,(enc b2))]) ?_ ?_
 ·split at hb_b2
  ·rename_i cg2;refine ZAE rfl rfl (by simpa using cg2)<|ZAE rfl rfl (by simpa using cg2)<|ZAE rfl rfl (by simpa using cg2)<|ZAE rfl rfl (by simpa using cg2)<|ZAE rfl rfl (by simpa using cg2)<|ZAY (v:=enc true) rfl cg2 rfl<|ZAA ?_
   rw[←oi hb_b2];exact⟨hs,FxR rfl⟩
  rename_i cg3;refine ZAH rfl rfl (by simpa using cg3)<|ZAO ZKl rfl<|ZAH rfl rfl (by simpa using cg3) ?_
  replace hs:=Hp.front [(.cells m1 xs1)] (b:=[]) hs;refine ZAK ag3 (Ss (Ss Sz)) rfl hxs hs fun y4 hy4=> ?_
  cases hy4;refine ZAH rfl rfl (by simpa using cg3)<|ZAO ZKl rfl<|ZAH rfl rfl (by simpa using cg3) ?_
  replace hs:=Hp.front [(.cells m xs)] (b:=[]) hs;refine ZAK ag3 (Ss (Ss Sz)) rfl hxs1 hs fun y5 hy5=> ?_
  cases hy5;refine ZAH rfl rfl (by simpa using cg3)<|ZAL (v:=enc (a.v.2.2.1 !=b.v.2.2.1)) rfl rfl rfl<|ZAX rfl cg3 rfl<|ZAA ?_
  rw[←oi hb_b2];exact⟨hs,FxR rfl⟩
 rintro φ s ⟨hs,hF⟩;rw[←hF.eq];refine ZAD rfl ?_
 obtain⟨b3,hb_b3,h⟩:=bs h;refine ZAT 6 (fun φ s=>Hp s [(.cells m1 xs1),(.cells m xs)]∧Fx φ [(2,(.ptr m 0)),(3,(.ptr m1 0)),(32,(enc b3))]) ?_ ?_
 ·split at hb_b3
  ·rename_i cg4;refine ZAE rfl rfl (by simpa using cg4)<|ZAE rfl rfl (by simpa using cg4)<|ZAE rfl rfl (by simpa using cg4)<|ZAE rfl rfl (by simpa using cg4)<|ZAE rfl rfl (by simpa using cg4)<|ZAY (v:=enc true) rfl cg4 rfl<|ZAA ?_
   rw[←oi hb_b3];exact⟨hs,FxR rfl⟩
  rename_i cg5;refine ZAH rfl rfl (by simpa using cg5)<|ZAO ZCD rfl<|ZAH rfl rfl (by simpa using cg5) ?_
  replace hs:=Hp.front [(.cells m1 xs1)] (b:=[]) hs;refine ZAK ag3 (Ss (Ss (Ss Sz))) rfl hxs hs fun y6 hy6=> ?_
  cases hy6;refine ZAH rfl rfl (by simpa using cg5)<|ZAO ZCD rfl<|ZAH rfl rfl (by simpa using cg5) ?_
  replace hs:=Hp.front [(.cells m xs)] (b:=[]) hs;refine ZAK ag3 (Ss (Ss (Ss Sz))) rfl hxs1 hs fun y7 hy7=> ?_
  cases hy7;refine ZAH rfl rfl (by simpa using cg5)<|ZAL (v:=enc (a.v.2.2.2.1 !=b.v.2.2.2.1)) rfl rfl rfl<|ZAX rfl cg5 rfl<|ZAA ?_
  rw[←oi hb_b3];exact⟨hs,FxR rfl⟩
 rintro φ s ⟨hs,hF⟩;rw[←hF.eq];refine ZAD rfl ?_
 obtain⟨b4,hb_b4,h⟩:=bs h;refine ZAT 8 (fun φ s=>Hp s [(.cells m1 xs1),(.cells m xs)]∧Fx φ [(2,(.ptr m 0)),(3,(.ptr m1 0)),(41,(enc b4))]) ?_ ?_
 ·split at hb_b4
  ·rename_i cg6;refine ZAE rfl rfl (by simpa using cg6)<|ZAE rfl rfl (by simpa using cg6)<|ZAE rfl rfl (by simpa using cg6)<|ZAE rfl rfl (by simpa using cg6)<|ZAE rfl rfl (by simpa using cg6)<|ZAE rfl rfl (by simpa using cg6)<|ZAE rfl rfl (by simpa using cg6)<|ZAY (v:=enc true) rfl cg6 rfl<|ZAA ?_
   rw[←oi hb_b4];exact⟨hs,FxR rfl⟩
  rename_i cg7;refine ZAH rfl rfl (by simpa using cg7)<|ZAO ZHi rfl<|ZAH rfl rfl (by simpa using cg7) ?_
  replace hs:=Hp.front [(.cells m1 xs1)] (b:=[]) hs;refine ZAK ag33 (Ss (Ss (Ss (Ss Sz)))) rfl hxs hs fun y8 hy8=>ZAH rfl rfl (by simpa using cg7)<|ZLG (sT:=str a.v.2.2.2.2.1) underlying33 underlying5 underlying9 rfl hy8<|ZAH rfl rfl (by simpa using cg7)<|ZAO ZHi rfl<|ZAH rfl rfl (by simpa using cg7) ?_
  replace hs:=Hp.front [(.cells m xs)] (b:=[]) hs;refine ZAK ag33 (Ss (Ss (Ss (Ss Sz)))) rfl hxs1 hs fun y9 hy9=>ZAH rfl rfl (by simpa using cg7)<|ZLG (sT:=str b.v.2.2.2.2.1) underlying33 underlying5 underlying9 rfl hy9<|ZAH rfl rfl (by simpa using cg7)<|ZAL (v:=enc (!eqS (str a.v.2.2.2.2.1) (str b.v.2.2.2.2.1))) rfl rfl rfl<|ZAX rfl cg7 rfl<|ZAA ?_
  rw[←oi hb_b4];exact⟨hs,FxR rfl⟩
 rintro φ s ⟨hs,hF⟩;rw[←hF.eq];refine ZAD rfl ?_
 obtain⟨b5,hb_b5,h⟩:=bs h;refine ZAT 6 (fun φ s=>Hp s [(.cells m1 xs1),(.cells m xs)]∧Fx φ [(2,(.ptr m 0)),(3,(.ptr m1 0)),(48,(enc b5))]) ?_ ?_
 ·split at hb_b5
  ·rename_i cg8;refine ZAE rfl rfl (by simpa using cg8)<|ZAE rfl rfl (by simpa using cg8)<|ZAE rfl rfl (by simpa using cg8)<|ZAE rfl rfl (by simpa using cg8)<|ZAE rfl rfl (by simpa using cg8)<|ZAY (v:=enc true) rfl cg8 rfl<|ZAA ?_
   rw[←oi hb_b5];exact⟨hs,FxR rfl⟩
  rename_i cg9;refine ZAH rfl rfl (by simpa using cg9)<|ZAO ZO9 rfl<|ZAH rfl rfl (by simpa using cg9) ?_
  replace hs:=Hp.front [(.cells m1 xs1)] (b:=[]) hs;refine ZAK ag9 (Ss (Ss (Ss (Ss (Ss Sz))))) rfl hxs hs fun y10 hy10=> ?_
  cases hy10;refine ZAH rfl rfl (by simpa using cg9)<|ZAO ZO9 rfl<|ZAH rfl rfl (by simpa using cg9) ?_
  replace hs:=Hp.front [(.cells m xs)] (b:=[]) hs;refine ZAK ag9 (Ss (Ss (Ss (Ss (Ss Sz))))) rfl hxs1 hs fun y11 hy11=> ?_
  cases hy11;refine ZAH rfl rfl (by simpa using cg9)<|ZAL (v:=enc (!eqS a.v.2.2.2.2.2.1 b.v.2.2.2.2.2.1)) rfl rfl rfl<|ZAX rfl cg9 rfl<|ZAA ?_
  rw[←oi hb_b5];exact⟨hs,FxR rfl⟩
 rintro φ s ⟨hs,hF⟩;rw[←hF.eq];refine ZAD rfl ?_
 obtain⟨b6,hb_b6,h⟩:=bs h;refine ZAT 8 (fun φ s=>Hp s [(.cells m1 xs1),(.cells m xs)]∧Fx φ [(2,(.ptr m 0)),(3,(.ptr m1 0)),(57,(enc b6))]) ?_ ?_
 ·split at hb_b6
  ·rename_i cg10;refine ZAE rfl rfl (by simpa using cg10)<|ZAE rfl rfl (by simpa using cg10)<|ZAE rfl rfl (by simpa using cg10)<|ZAE rfl rfl (by simpa using cg10)<|ZAE rfl rfl (by simpa using cg10)<|ZAE rfl rfl (by simpa using cg10)<|ZAE rfl rfl (by simpa using cg10)<|ZAY (v:=enc true) rfl cg10 rfl<|ZAA ?_
   rw[←oi hb_b6];exact⟨hs,FxR rfl⟩
  rename_i cg11;refine ZAH rfl rfl (by simpa using cg11)<|ZAO ZBJ rfl<|ZAH rfl rfl (by simpa using cg11) ?_
  replace hs:=Hp.front [(.cells m1 xs1)] (b:=[]) hs;refine ZAK ag34 (Ss (Ss (Ss (Ss (Ss (Ss Sz)))))) rfl hxs hs fun y12 hy12=>ZAH rfl rfl (by simpa using cg11)<|ZAp underlying34 rfl rfl hy12<|ZAH rfl rfl (by simpa using cg11)<|ZAO ZBJ rfl<|ZAH rfl rfl (by simpa using cg11) ?_
  replace hs:=Hp.front [(.cells m xs)] (b:=[]) hs;refine ZAK ag34 (Ss (Ss (Ss (Ss (Ss (Ss Sz)))))) rfl hxs1 hs fun y13 hy13=>ZAH rfl rfl (by simpa using cg11)<|ZAp underlying34 rfl rfl hy13<|ZAH rfl rfl (by simpa using cg11)<|ZAL (v:=enc (((a.v.2.2.2.2.2.2.1.length:Int) !=(b.v.2.2.2.2.2.2.1.length:Int)):Bool)) rfl rfl rfl<|ZAX rfl cg11 rfl<|ZAA ?_
  rw[←oi hb_b6];exact⟨hs,FxR rfl⟩
 rintro φ s ⟨hs,hF⟩;rw[←hF.eq];refine ZAD rfl ?_
 obtain⟨b7,hb_b7,h⟩:=bs h;refine ZAT 8 (fun φ s=>Hp s [(.cells m1 xs1),(.cells m xs)]∧Fx φ [(2,(.ptr m 0)),(3,(.ptr m1 0)),(66,(enc b7))]) ?_ ?_
 ·split at hb_b7
  ·rename_i cg12;refine ZAE rfl rfl (by simpa using cg12)<|ZAE rfl rfl (by simpa using cg12)<|ZAE rfl rfl (by simpa using cg12)<|ZAE rfl rfl (by simpa using cg12)<|ZAE rfl rfl (by simpa using cg12)<|ZAE rfl rfl (by simpa using cg12)<|ZAE rfl rfl (by simpa using cg12)<|ZAY (v:=enc true) rfl cg12 rfl<|ZAA ?_
   rw[←oi hb_b7];exact⟨hs,FxR rfl⟩
  rename_i cg13;refine ZAH rfl rfl (by simpa using cg13)<|ZAO ZBY rfl<|ZAH rfl rfl (by simpa using cg13) ?_
  replace hs:=Hp.front [(.cells m1 xs1)] (b:=[]) hs;refine ZAK ag35 (Ss (Ss (Ss (Ss (Ss (Ss (Ss Sz))))))) rfl hxs hs fun y14 hy14=>ZAH rfl rfl (by simpa using cg13)<|ZAp underlying35 rfl rfl hy14<|ZAH rfl rfl (by simpa using cg13)<|ZAO ZBY rfl<|ZAH rfl rfl (by simpa using cg13) ?_
  replace hs:=Hp.front [(.cells m xs)] (b:=[]) hs;refine ZAK ag35 (Ss (Ss (Ss (Ss (Ss (Ss (Ss Sz))))))) rfl hxs1 hs fun y15 hy15=>ZAH rfl rfl (by simpa using cg13)<|ZAp underlying35 rfl rfl hy15<|ZAH rfl rfl (by simpa using cg13)<|ZAL (v:=enc (((a.v.2.2.2.2.2.2.2.1.length:Int) !=(b.v.2.2.2.2.2.2.2.1.length:Int)):Bool)) rfl rfl rfl<|ZAX rfl cg13 rfl<|ZAA ?_
  rw[←oi hb_b7];exact⟨hs,FxR rfl⟩
 rintro φ s ⟨hs,hF⟩;rw[←hF.eq];refine ZAD rfl ?_
 obtain⟨b8,hb_b8,h⟩:=bs h;refine ZAT 7 (fun φ s=>Hp s [(.cells m1 xs1),(.cells m xs)]∧Fx φ [(2,(.ptr m 0)),(3,(.ptr m1 0)),(74,(enc b8))]) ?_ ?_
 ·split at hb_b8
  ·rename_i cg14;refine ZAE rfl rfl (by simpa using cg14)<|ZAE rfl rfl (by simpa using cg14)<|ZAE rfl rfl (by simpa using cg14)<|ZAE rfl rfl (by simpa using cg14)<|ZAE rfl rfl (by simpa using cg14)<|ZAE rfl rfl (by simpa using cg14)<|ZAY (v:=enc true) rfl cg14 rfl<|ZAA ?_
   rw[←oi hb_b8];exact⟨hs,FxR rfl⟩
  rename_i cg15;refine ZAH rfl rfl (by simpa using cg15)<|ZAO ZKm rfl<|ZAH rfl rfl (by simpa using cg15) ?_
  replace hs:=Hp.front [(.cells m1 xs1)] (b:=[]) hs;refine ZAK ag36 (Ss (Ss (Ss (Ss (Ss (Ss (Ss (Ss Sz)))))))) rfl hxs hs fun y16 hy16=>ZAH rfl rfl (by simpa using cg15)<|ZAO ZKm rfl<|ZAH rfl rfl (by simpa using cg15) ?_
  replace hs:=Hp.front [(.cells m xs)] (b:=[]) hs;refine ZAK ag36 (Ss (Ss (Ss (Ss (Ss (Ss (Ss (Ss Sz)))))))) rfl hxs1 hs fun y17 hy17=>ZAH rfl rfl (by simpa using cg15) ?_
  obtain⟨r_,hx,hb_b8⟩:=bs hb_b8;refine ZAj (f:=fun a:(List ZAd)×(List ZAd)×Unit=>ZDb a.1 a.2.1) (a:=(a.v.2.2.2.2.2.2.2.2.1,b.v.2.2.2.2.2.2.2.2.1,())) rfl func59 rfl rfl (.cons (a:=a.v.2.2.2.2.2.2.2.2.1) hy16 (.cons (a:=b.v.2.2.2.2.2.2.2.2.1) hy17 .nil)) hx<|ZAH rfl rfl (by simpa using cg15)<|ZBS (v:=enc (!r_)) rfl rfl<|ZAX rfl cg15 rfl<|ZAA ?_
  rw[←oi hb_b8];exact⟨hs,FxR rfl⟩
 rintro φ s ⟨hs,hF⟩;rw[←hF.eq];refine ZAA ?_
 split at h
 ·rename_i c';refine ZAI rfl c'<|ZAB<|ZAC<|ZAG (v:=enc false) rfl<|ZAA<|ZAN ?_
  rw[←oi h];exact⟨rfl,KE1 (a:=(false:Bool)) rfl rfl (rfl:is _ (false:Bool)) (rfl:is _ (false:Bool))⟩
 rename_i c';refine ZAJ rfl c'<|ZAM<|ZAB<|ZAB<|ZAC<|ZAG (v:=enc (0:Int)) rfl<|ZAA<|ZAQ ?_
 obtain⟨o,hl,h⟩:=bs h;refine ZAm (fun(p:Int) φ s=>match p with | i=>Fx φ [(2,(.ptr m 0)),(3,(.ptr m1 0)),(5,(enc i))]∧Hp s [(.cells m1 xs1),(.cells m xs)]) (fun(o:(Unit ⊕ Bool)) e φ s=>match o with | (.inl _)=>e= .exit 0∧Fx φ [(2,(.ptr m 0)),(3,(.ptr m1 0))]∧Hp s [(.cells m1 xs1),(.cells m xs)] | (.inr v)=>e= .ret∧Fx φ [(4,(enc v))]) ?_ hl ⟨FxR rfl,hs⟩ ?_
 ·rintro i o h φ s ⟨hF,hs⟩;rw[←hF.eq];rw[ZGE] at h;refine ZAB<|ZAB<|ZAC<|ZAD rfl<|ZAO ZBJ rfl ?_
  replace hs:=Hp.front [(.cells m1 xs1)] (b:=[]) hs;refine ZAK ag34 (Ss (Ss (Ss (Ss (Ss (Ss Sz)))))) rfl hxs hs fun y18 hy18=>ZAp underlying34 rfl rfl hy18<|ZAL (v:=enc (decide (i<(a.v.2.2.2.2.2.2.1.length:Int)))) rfl rfl rfl<|ZAA ?_
  split at h
  ·rename_i c';refine ZAI rfl c'<|ZAM<|ZAB<|ZAQ<|ZAB<|ZAo (by decide+kernel) (by decide+kernel)<|ZAO ZBJ rfl<|ZAK ag34 (Ss (Ss (Ss (Ss (Ss (Ss Sz)))))) rfl hxs hs fun y19 hy19=>ZAD rfl ?_
   obtain⟨v1,hx1,h⟩:=bs h;refine ZAv underlying34 sh9 rfl rfl hy19 hx1 fun p hp=>ZCq rfl ag9 rfl hp fun y20 hy20=> ?_
   cases hy20;refine ZAO ZBJ rfl ?_
   replace hs:=Hp.front [(.cells m xs)] (b:=[]) hs;refine ZAK ag34 (Ss (Ss (Ss (Ss (Ss (Ss Sz)))))) rfl hxs1 hs fun y21 hy21=>ZAD rfl ?_
   obtain⟨v2,hx2,h⟩:=bs h;refine ZAv underlying34 sh9 rfl rfl hy21 hx2 fun p1 hp1=>ZCq rfl ag9 rfl hp1 fun y22 hy22=> ?_
   cases hy22;refine ZAL (v:=enc (!eqS v1 v2)) rfl rfl rfl<|ZAA ?_
   split at h
   ·rename_i c';refine ZAI rfl c'<|ZAB<|ZAC<|ZAG (v:=enc false) rfl<|ZAA<|ZAN ?_
    show if _ then _ else _
    rw[if_neg (by simp)]
    rw[←oi h];exact⟨_,rfl,rfl,FxR rfl⟩
   rename_i c';refine ZAJ rfl c'<|ZAM<|ZAC<|ZAD rfl<|ZAL (v:=enc (IntKind.i64.wrap (i+1))) rfl rfl rfl<|ZAG rfl<|ZAA ?_
   rw[←oi h];exact⟨_,rfl,⟨FxR rfl,hs⟩⟩
  rename_i c';refine ZAJ rfl c'<|ZAl ?_
  rw[←oi h];exact⟨_,rfl,rfl,⟨FxR rfl,(Hp.front [(.cells m xs)] (b:=[]) (Hp.front [] (b:=[(.cells m1 xs1)]) hs))⟩⟩
 intro e φ s hE;rcases o with _u | v
 ·obtain⟨rfl,hF,hs⟩:=hE;rw[←hF.eq];rw[ZGH] at h;show if _ then _ else _
  rw[if_pos rfl];refine ZAB<|ZAB<|ZAC<|ZAG (v:=enc (0:Int)) rfl<|ZAA<|ZAQ ?_
  obtain⟨o,hl,h⟩:=bs h;refine ZAm (fun(p:Int) φ s=>match p with | i1=>Fx φ [(2,(.ptr m 0)),(3,(.ptr m1 0)),(6,(enc i1))]∧Hp s [(.cells m1 xs1),(.cells m xs)]) (fun(o:(Unit ⊕ Bool)) e φ s=>match o with | (.inl _)=>e= .exit 2∧Fx φ [] | (.inr v3)=>e= .ret∧Fx φ [(4,(enc v3))]) ?_ hl ⟨FxR rfl,hs⟩ ?_
  ·rintro i1 o h φ s ⟨hF,hs⟩;rw[←hF.eq];rw[ZGF] at h;refine ZAB<|ZAB<|ZAC<|ZAD rfl<|ZAO ZBY rfl ?_
   replace hs:=Hp.front [(.cells m1 xs1)] (b:=[]) hs;refine ZAK ag35 (Ss (Ss (Ss (Ss (Ss (Ss (Ss Sz))))))) rfl hxs hs fun y23 hy23=>ZAp underlying35 rfl rfl hy23<|ZAL (v:=enc (decide (i1<(a.v.2.2.2.2.2.2.2.1.length:Int)))) rfl rfl rfl<|ZAA ?_
   split at h
   ·rename_i c';refine ZAI rfl c'<|ZAM<|ZAB<|ZAQ<|ZAB<|ZAo (by decide+kernel) (by decide+kernel)<|ZAO ZBY rfl<|ZAK ag35 (Ss (Ss (Ss (Ss (Ss (Ss (Ss Sz))))))) rfl hxs hs fun y24 hy24=>ZAD rfl ?_
    obtain⟨v4,hx3,h⟩:=bs h;refine ZAv underlying35 sh3 rfl rfl hy24 hx3 fun p2 hp2=>ZCq rfl ag3 rfl hp2 fun y25 hy25=> ?_
    cases hy25;refine ZAO ZBY rfl ?_
    replace hs:=Hp.front [(.cells m xs)] (b:=[]) hs;refine ZAK ag35 (Ss (Ss (Ss (Ss (Ss (Ss (Ss Sz))))))) rfl hxs1 hs fun y26 hy26=>ZAD rfl ?_
    obtain⟨v5,hx4,h⟩:=bs h;refine ZAv underlying35 sh3 rfl rfl hy26 hx4 fun p3 hp3=>ZCq rfl ag3 rfl hp3 fun y27 hy27=> ?_
    cases hy27;refine ZAL (v:=enc (v4 !=v5)) rfl rfl rfl<|ZAA ?_
    split at h
    ·rename_i c';refine ZAI rfl c'<|ZAB<|ZAC<|ZAG (v:=enc false) rfl<|ZAA<|ZAN ?_
     show if _ then _ else _
     rw[if_neg (by simp)]
     rw[←oi h];exact⟨_,rfl,rfl,FxR rfl⟩
    rename_i c';refine ZAJ rfl c'<|ZAM<|ZAC<|ZAD rfl<|ZAL (v:=enc (IntKind.i64.wrap (i1+1))) rfl rfl rfl<|ZAG rfl<|ZAA ?_
    rw[←oi h];exact⟨_,rfl,⟨FxR rfl,hs⟩⟩
   rename_i c';refine ZAJ rfl c'<|ZAl ?_
   rw[←oi h];exact⟨_,rfl,rfl,trivial⟩
  intro e φ s hE;rcases o with _u | v3
  ·obtain⟨rfl,hF⟩:=hE;rw[←hF.eq];rw[ZGG] at h;show if _ then _ else _
   rw[if_pos rfl];refine ZAB<|ZAC<|ZAG (v:=enc true) rfl<|ZAA<|ZAN ?_
   rw[←oi h];exact⟨rfl,KE1 (a:=(true:Bool)) rfl rfl (rfl:is _ (true:Bool)) (rfl:is _ (true:Bool))⟩
  obtain⟨rfl,hF⟩:=hE;rw[←hF.eq];rw[ZGG] at h;show if _ then _ else _
  rw[if_neg (by simp)]
  rw[←oi h];exact⟨rfl,KE1 (a:=v3) rfl rfl (rfl:is _ v3) (rfl:is _ v3)⟩
 obtain⟨rfl,hF⟩:=hE;rw[←hF.eq];rw[ZGH] at h;show if _ then _ else _
 rw[if_neg (by simp)]
 rw[←oi h];exact⟨rfl,KE1 (a:=v) rfl rfl (rfl:is _ v) (rfl:is _ v)⟩
theorem ZNA:ZAr Tryz.prog 29 (fun _=>Fn (fun a:ZAF×ZAF×Unit=>ZDc a.1 a.2.1)):=fnC ZRR ⟨_,func29,rfl⟩<|fun a r h=>ZM9 a.1 a.2.1 r h
noncomputable def pz29:Prims:=pz28.add 29 (Fn (fun a:ZAF×ZAF×Unit=>ZDc a.1 a.2.1))
theorem ZRS:ZAV Tryz.prog pz29:=ZAS ZRR ZNA
theorem ZOS (a:FsR) (b:FsR) (r:Bool) (h:ZDO a b=some r):MF Tryz.prog pz29 12 [enc a,enc b] s0 fun v _=>ris v r:=by
 refine ZAe [(0,enc a),(1,enc b)] func12 rfl (by simp only[Tryz.f12];rfl) fun ψ=> ?_
 unfold ZDO at h;refine ZAB<|ZAC<|ZA1 (r:=a) rfl (Enc.self a) Hp.nil fun m xs s hxs hs=>ZA1 (r:=b) rfl (Enc.self b) hs fun m1 xs1 s hxs1 hs=>ZAG (v:=enc false) rfl<|ZAA<|ZAB<|ZAB<|ZAC<|ZAO ZFp rfl ?_
 replace hs:=Hp.front [(.cells m1 xs1)] (b:=[]) hs;refine ZAK ag3 (Ss Sz) rfl hxs hs fun y hy=> ?_
 cases hy;refine ZAO ZFp rfl ?_
 replace hs:=Hp.front [(.cells m xs)] (b:=[]) hs;refine ZAK ag3 (Ss Sz) rfl hxs1 hs fun y1 hy1=> ?_
 cases hy1;refine ZAL (v:=enc (a.v.2.1 !=b.v.2.1)) rfl rfl rfl<|ZAD rfl ?_
 obtain⟨b1,hb_b1,h⟩:=bs h;refine ZAT 8 (fun φ s=>Hp s [(.cells m1 xs1),(.cells m xs)]∧Fx φ [(2,(.ptr m 0)),(3,(.ptr m1 0)),(19,(enc b1))]) ?_ ?_
 ·split at hb_b1
  ·rename_i cg;refine ZAE rfl rfl (by simpa using cg)<|ZAE rfl rfl (by simpa using cg)<|ZAE rfl rfl (by simpa using cg)<|ZAE rfl rfl (by simpa using cg)<|ZAE rfl rfl (by simpa using cg)<|ZAE rfl rfl (by simpa using cg)<|ZAE rfl rfl (by simpa using cg)<|ZAY (v:=enc true) rfl cg rfl<|ZAA ?_
   rw[←oi hb_b1];exact⟨hs,FxR rfl⟩
  rename_i cg1;refine ZAH rfl rfl (by simpa using cg1)<|ZAO ZAk rfl<|ZAH rfl rfl (by simpa using cg1) ?_
  replace hs:=Hp.front [(.cells m1 xs1)] (b:=[]) hs;refine ZAK ag22 Sz rfl hxs hs fun y2 hy2=>ZAH rfl rfl (by simpa using cg1)<|ZAp underlying22 rfl rfl hy2<|ZAH rfl rfl (by simpa using cg1)<|ZAO ZAk rfl<|ZAH rfl rfl (by simpa using cg1) ?_
  replace hs:=Hp.front [(.cells m xs)] (b:=[]) hs;refine ZAK ag22 Sz rfl hxs1 hs fun y3 hy3=>ZAH rfl rfl (by simpa using cg1)<|ZAp underlying22 rfl rfl hy3<|ZAH rfl rfl (by simpa using cg1)<|ZAL (v:=enc (((a.v.1.length:Int) !=(b.v.1.length:Int)):Bool)) rfl rfl rfl<|ZAX rfl cg1 rfl<|ZAA ?_
  rw[←oi hb_b1];exact⟨hs,FxR rfl⟩
 rintro φ s ⟨hs,hF⟩;rw[←hF.eq];refine ZAA ?_
 split at h
 ·rename_i c';refine ZAI rfl c'<|ZAB<|ZAC<|ZAG (v:=enc false) rfl<|ZAA<|ZAN ?_
  rw[←oi h];exact⟨rfl,KE1 (a:=(false:Bool)) rfl rfl (rfl:is _ (false:Bool)) (rfl:is _ (false:Bool))⟩
 rename_i c';refine ZAJ rfl c'<|ZAM<|ZAB<|ZAB<|ZAC<|ZAG (v:=enc (0:Int)) rfl<|ZAA<|ZAQ ?_
 obtain⟨o,hl,h⟩:=bs h;refine ZAm (fun(p:Int) φ s=>match p with | i=>Fx φ [(2,(.ptr m 0)),(3,(.ptr m1 0)),(5,(enc i))]∧Hp s [(.cells m1 xs1),(.cells m xs)]) (fun(o:(Unit ⊕ Bool)) e φ s=>match o with | (.inl _)=>e= .exit 0∧Fx φ [] | (.inr v)=>e= .ret∧Fx φ [(4,(enc v))]) ?_ hl ⟨FxR rfl,hs⟩ ?_
 ·rintro i o h φ s ⟨hF,hs⟩;rw[←hF.eq];rw[ZHK] at h;refine ZAB<|ZAB<|ZAC<|ZAD rfl<|ZAO ZAk rfl ?_
  replace hs:=Hp.front [(.cells m1 xs1)] (b:=[]) hs;refine ZAK ag22 Sz rfl hxs hs fun y4 hy4=>ZAp underlying22 rfl rfl hy4<|ZAL (v:=enc (decide (i<(a.v.1.length:Int)))) rfl rfl rfl<|ZAA ?_
  split at h
  ·rename_i c';refine ZAI rfl c'<|ZAM<|ZAB<|ZAQ<|ZAB<|ZAo (by decide+kernel) (by decide+kernel)<|ZAO ZAk rfl<|ZAK ag22 Sz rfl hxs hs fun y5 hy5=>ZAD rfl ?_
   obtain⟨v1,hx,h⟩:=bs h;refine ZAv underlying22 sh38 rfl rfl hy5 hx fun p hp=>ZBb ag38 sz38 rfl hp fun y6 hy6=>ZAO ZAk rfl ?_
   replace hs:=Hp.front [(.cells m xs)] (b:=[]) hs;refine ZAK ag22 Sz rfl hxs1 hs fun y7 hy7=>ZAD rfl ?_
   obtain⟨v2,hx1,h⟩:=bs h;refine ZAv underlying22 sh38 rfl rfl hy7 hx1 fun p1 hp1=>ZBb ag38 sz38 rfl hp1 fun y8 hy8=> ?_
   obtain⟨r_,hx2,h⟩:=bs h;refine ZAj (f:=fun a:ZAF×ZAF×Unit=>ZDc a.1 a.2.1) (a:=(v1,v2,())) rfl func29 rfl rfl (.cons (a:=v1) hy6 (.cons (a:=v2) hy8 .nil)) hx2<|ZBS (v:=enc (!r_)) rfl rfl<|ZAA ?_
   split at h
   ·rename_i c';refine ZAI rfl c'<|ZAB<|ZAC<|ZAG (v:=enc false) rfl<|ZAA<|ZAN ?_
    show if _ then _ else _
    rw[if_neg (by simp)]
    rw[←oi h];exact⟨_,rfl,rfl,FxR rfl⟩
   rename_i c';refine ZAJ rfl c'<|ZAM<|ZAC<|ZAD rfl<|ZAL (v:=enc (IntKind.i64.wrap (i+1))) rfl rfl rfl<|ZAG rfl<|ZAA ?_
   rw[←oi h];exact⟨_,rfl,⟨FxR rfl,hs⟩⟩
  rename_i c';refine ZAJ rfl c'<|ZAl ?_
  rw[←oi h];exact⟨_,rfl,rfl,trivial⟩
 intro e φ s hE;rcases o with _u | v
 ·obtain⟨rfl,hF⟩:=hE;rw[←hF.eq];rw[ZHL] at h;show if _ then _ else _
  rw[if_pos rfl];refine ZAB<|ZAC<|ZAG (v:=enc true) rfl<|ZAA<|ZAN ?_
  rw[←oi h];exact⟨rfl,KE1 (a:=(true:Bool)) rfl rfl (rfl:is _ (true:Bool)) (rfl:is _ (true:Bool))⟩
 obtain⟨rfl,hF⟩:=hE;rw[←hF.eq];rw[ZHL] at h;show if _ then _ else _
 rw[if_neg (by simp)]
 rw[←oi h];exact⟨rfl,KE1 (a:=v) rfl rfl (rfl:is _ v) (rfl:is _ v)⟩
theorem ZOT:ZAr Tryz.prog 12 (fun _=>Fn (fun a:FsR×FsR×Unit=>ZDO a.1 a.2.1)):=fnC ZRS ⟨_,func12,rfl⟩<|fun a r h=>ZOS a.1 a.2.1 r h
noncomputable def pz30:Prims:=pz29.add 12 (Fn (fun a:FsR×FsR×Unit=>ZDO a.1 a.2.1))
theorem ZDi:ZAV Tryz.prog pz30:=ZAS ZRS ZOT
end Go.Ai.Rab
