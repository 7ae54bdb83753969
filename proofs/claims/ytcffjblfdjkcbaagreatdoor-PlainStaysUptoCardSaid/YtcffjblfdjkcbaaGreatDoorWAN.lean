/- My own texts DevTg28, DevPgF, DevP0, one behind the other. -/
import Derived.Test.YtcffjblfdjkcbaaGreatDoorWAL
import Derived.Test.YtcffjblfdjkcbaaGreatDoorWAE
import Derived.Test.YtcffjblfdjkcbaaGreatDoorWAM
import Derived.Test.YtcffjblfdjkcbaaGreatDoorWAD
set_option linter.unusedVariables false
set_option linter.unusedSimpArgs false
section
open Go.Ai.Enc (enc is)
namespace Go.Ai
open Flds (fe fi fk)
def ZSr (f:Nat) (v:AV):Prop:=∃ys,v= .agg ys∧ys[f]? =some .nils
section
variable {P:Program} {prims:Prims} {n:Nat} {b:Bool} {K:Fm→St→Prop} {φ:Fm} {s:St} {ops:Array Oper} {l:List Oper} {d:Tmp} {x y:Operand} {t t' e ty:TypeId} {pos:String} {af:Array Edge} {u v:AV} {es:List En}
theorem ZPR {A:Type} [Flds A] {q:Nat} {r r' :A} {ps:List (Nat×AV)} (h:Fil A r ps r') (f0:Nat) (hf:∀p∈ps,p.1≠f0):∀{xs:List AV},fi xs r→xs.length=q→∃ys,ZGP (((List.range q).map fun i=>(i,1))[·]?) xs ps=some ys∧fi ys r' ∧ys[f0]? =xs[f0]? :=by
 induction h with
 | nil=>intro xs h _;exact⟨xs,rfl,h,rfl⟩
 | @cons U _ _ f get set v z r r' ps hl hv h ih=>
  intro xs hx hq;obtain⟨⟨w,hw,hi⟩,h2⟩:=hl xs r hx;have hlt:f<xs.length:=(List.getElem?_eq_some_iff.1 hw).1
  have h1:v.one=true:=ZIL hv
  obtain⟨ys,e,hy,hk⟩:=ih (fun p hp=>hf p (lM _ hp)) (h2 v z hv) (by simpa using hq)
  refine⟨ys,?_,hy,?_⟩
  ·have hsp:ZBL xs f [v]=xs.set f v:=by
    unfold ZBL;rw[List.set_eq_take_append_cons_drop,if_pos hlt,List.append_assoc];rfl
   have hpl:((List.range q).map fun i=>(i,1))[f]? =some (f,1):=by
    have:f<q:=by omega
    simp[this]
   simp only[ZGP,hpl,oC,Option.bind_some,ZEP h1,List.length_singleton];rw[if_neg (by omega),hsp]
   exact e
  rw[hk];exact List.getElem?_set_ne (hf _ List.mem_cons_self)
theorem ZRz {T A:Type} [Enc T] [Enc0 T] [Flds A] {q:Nat} {r0 r:T×A} {xs0:List AV} {ps:List (Nat×AV)} {parts:Array (Nat×Operand)} (f0:Nat) (hb:buB P t q=true) (hz:ZBU P t=some (.agg xs0)) (h0:fi xs0 r0) (hq:fk (T×A)=q)
  (hp:(parts.toList.mapM fun(i,x)=>(ZAT n φ x).map (i,·))=some ps) (hF:Fil (T×A) r0 ps r) (hn:xs0[f0]? =some .nils) (hf:∀p∈ps,p.1≠f0) (k:∀v,is v (Rec.mk r)→ZSr f0 v→TO P prims n b ops l K (upd φ d v) s):TO P prims n b ops (⟨some d, .build t parts,ty,pos,af,none⟩::l) K φ s:=by
 unfold buB at hb;split at hb
 ·rename_i fs hu;have hm:=of_decide_eq_true hb;obtain⟨ys,e,hy,hk⟩:=ZPR (q:=q) hF f0 hf h0 (by rw[Flds.len h0,hq])
  refine ZA4 rfl rfl (v:= .agg ys) (s' :=s) (fun _=> ?_) (k _ ⟨ys,rfl,hy⟩ ⟨ys,rfl,by rw[hk,hn]⟩)
  have hp' :(parts.toList.mapM fun(i,x)=>(ZAk (frm n φ) x).map (i,·))=some ps:=by
   clear hF e hf
   generalize parts.toList=q at hp
   induction q generalizing ps with
   | nil=>exact hp
   | cons a q ih=>
    simp only[List.mapM_cons,oC,oB,Option.map_eq_some_iff,Option.pure_def] at hp ⊢;obtain⟨b,⟨w,hw,rfl⟩,bs,hbs,h⟩:=hp;exact⟨_,⟨w,ZAK hw,rfl⟩,bs,ih hbs,h⟩
  simp only[aOp,oC] at hp' ⊢;rw[hp',Option.bind_some];simp only[oC,Option.bind_some,ZKU,hz,hu,hm,AV.cells,e,Option.map_some]
 cases hb
theorem ZR0 {T A:Type} [Enc T] [Enc0 T] [Flds A] {r r0:Rec (T×A)} {m f0:Nat} {xs0:List AV} (hz:szT P t=some (fk (T×A))) (hx:ZAT n φ x=some (.ptr m 0)) (hy:ZAT n φ y=some v) (h0:fi xs0 r0.v) (h:is v r) (hN:ZSr f0 v) (hs:Hp s (.cells m xs0::es))
  (k:∀xs s',fi xs r.v→xs[f0]? =some .nils→Hp s' (.own .nils:: .cells m xs::es)→TO P prims n b ops l K φ s'):TO P prims n b ops (⟨none, .store t x y,ty,pos,af,none⟩::l) K φ s:=by
 obtain⟨xs,rfl,h⟩:=h;obtain⟨ys,e,hN⟩:=hN;injection e with e
 subst e;have l1:xs0.length=fk (T×A):=Flds.len h0
 have l2:xs.length=fk (T×A):=Flds.len h
 have hg:=hs.get rfl;have hst:ZDb P t (.ptr m 0) (.agg xs) s=some (s.put m (.cells xs)):=by
  have hsp:ZBL xs0 0 xs=xs:=by
   unfold ZBL;rw[List.take_zero,List.nil_append,Nat.zero_add,List.drop_of_length_le (by omega),List.append_nil]
  simp only[ZDb,AV.cells,hz,l2,if_pos,ZBc,hg,Nat.zero_add,l1,Nat.le_refl,true_and,ZMh h,hsp]
 refine ZIG rfl rfl (v:= .undef) (s' :=s.put m (.cells xs)) (fun _=> ?_) (k xs _ h hN ((hs.put rfl rfl).add rfl))
 simp only[aOp,ZAK hx,ZAK hy,oC,Option.bind_some,hst]
theorem ZR1 {A U:Type} [Flds A] [Enc U] {f m:Nat} {a:A} {w:AV} {get:A→U} {set:A→U→A} {xs:List AV} (hg:aggT P t=some false) (hl:Sel A U f get set) (hx:ZAT n φ x=some (.ptr m f)) (h:fi xs a) (ho:xs[f]? =some w) (hs:Hp s (.cells m xs::es))
  (k:is w (get a)→TO P prims n b ops l K (upd φ d w) s):TO P prims n b ops (⟨some d, .load t x,ty,pos,af,none⟩::l) K φ s:=by
 obtain⟨⟨w',hw,hi⟩,_⟩:=hl xs a h;rw[ho] at hw;injection hw with hw
 subst hw;have hgt:=hs.get rfl;refine ZA4 rfl rfl (fun _=>ZE9 (ZAK hx) (v:=w) ?_) (k hi)
 simp[ZEb,hgt,ZEw,hg,ho]
theorem ZR2 {A U:Type} [Flds A] [Enc U] [Enc0 U] {f m:Nat} {a:A} {z:U} {get:A→U} {set:A→U→A} {xs:List AV} (hz:szT P t=some 1) (hl:Sel A U f get set) (hx:ZAT n φ x=some (.ptr m f)) (hy:ZAT n φ y=some v) (hv:is v z) (h:fi xs a) (hs:Hp s (.cells m xs::es))
  (k:∀xs' s',fi xs' (set a z)→xs'[f]? =some v→Hp s' (.cells m xs' ::es)→TO P prims n b ops l K φ s'):TO P prims n b ops (⟨none, .store t x y,ty,pos,af,none⟩::l) K φ s:=by
 obtain⟨⟨w,hw,hi⟩,h2⟩:=hl xs a h;have hg:=hs.get rfl;have hlt:f<xs.length:=(List.getElem?_eq_some_iff.1 hw).1
 have h1:v.one=true:=ZIL hv
 have hst:ZDb P t (.ptr m f) v s=some (s.put m (.cells (xs.set f v))):=by
  have hsp:ZBL xs f [v]=xs.set f v:=by
   unfold ZBL;rw[List.set_eq_take_append_cons_drop,if_pos hlt,List.append_assoc];rfl
  simp only[ZDb,ZEP h1,hz,List.length_singleton,if_pos,ZBc,hg,List.all_cons,List.all_nil,h1,Bool.and_true,and_true,if_pos (Nat.succ_le_of_lt hlt),hsp]
 refine ZIG rfl rfl (v:= .undef) (s' :=s.put m (.cells (xs.set f v))) (fun _=> ?_) (k _ _ (h2 v z hv) (by simp[hlt]) (hs.put rfl rfl))
 simp only[aOp,ZAK hx,ZAK hy,oC,Option.bind_some,hst]
end
end Go.Ai
end
section
set_option maxRecDepth 100000
set_option maxHeartbeats 4000000
attribute [local irreducible] Go.Ai.TC Go.Ai.TO Go.Ai.MF Go.Ai.ZEO Go.Ai.ZCl Go.Ai.encR
open Go.Ai.Enc (enc is)
open Go.Ai.Res (res ris)
open Go.Ai.Args (args)
open Go.Ai.Flds (fe fi fk)
namespace Go.Ai

end Go.Ai
namespace Go.Ai.TTryz
open Go.Proofs

end Go.Ai.TTryz
namespace Go.Ai.Rab
open Go.Proofs TTryz Tryz
noncomputable def ZEX:Option (FsR):=
 some ((Rec.mk ([(Rec.mk (1,2,(0:Int),1,([]:(List UInt8)),(str []),([]:(List Str)),([]:(List Int)),([]:(List ZAd)),()):ZAD)],2,()):FsR))
noncomputable def ZBs:Option (Bool):=
 ((ZEX).bind fun r_=>((ZBz r_ 1 420 (str [])).bind fun r_1=>((ZBO r_1.1 1 (str [97]) r_1.2.1).bind fun r_2=>((ZBO r_2.1 1 (str [98]) r_1.2.1).bind fun r_3=>((ZBV r_3.1 1 (str [97])).bind fun r_4=>((ZBE r_4.1 1 (str [98])).bind fun r_5=>((ZBE r_4.1 1 (str [97])).bind fun r_6=>((ZBT r_4.1 r_1.2.1).bind fun r_7=>((ZBT (Rec.mk (([]:(List ZAD)),(0:Int),()):FsR) 1).bind fun r_8=>((if(r_1.2.2==0) then some (r_1.2.1==2) else some false).bind fun b=>((if b then some (r_2.2==0) else some false).bind fun b1=>((if b1 then some (r_3.2==0) else some false).bind fun b2=>((if b2 then some (r_4.2.2==0) else some false).bind fun b3=>((if b3 then some (r_4.2.1==2) else some false).bind fun b4=>((if b4 then some (r_5.1==2) else some false).bind fun b5=>((if b5 then some (r_5.2==0) else some false).bind fun b6=>((if b6 then some (r_6.2==201) else some false).bind fun b7=>((if b7 then some (r_7.2==215) else some false).bind fun b8=>((if b8 then some (r_8.2==2) else some false).bind fun b9=>((if b9 then some ((r_4.1.v.1.length:Int)==2) else some false).bind fun b10=>((if b10 then((nth r_4.1.v.1 1).bind fun v=>some (v.v.2.2.2.1==1)) else some false).bind fun b11=>((if b11 then((ZAW r_4.1).bind fun r_9=>some r_9) else some false).bind fun b12=>some (b12)))))))))))))))))))))))
noncomputable def ZDD (f:FsR):(FsR×Int)→Option ((FsR×Int) ⊕ FsR)
 | (own,i)=>(if(decide (i<(f.v.1.length:Int))) then((nth f.v.1 i).bind fun v=>((app 16 ([]:(List Str)) v.v.2.2.2.2.2.2.1).bind fun l=>((app 8 ([]:(List Int)) v.v.2.2.2.2.2.2.2.1).bind fun l1=>((app 1 ([]:(List UInt8)) v.v.2.2.2.2.1).bind fun l2=>((app 144 own.v.1 [(Rec.mk (v.v.1,v.v.2.1,v.v.2.2.1,v.v.2.2.2.1,l2,v.v.2.2.2.2.2.1,l,l1,v.v.2.2.2.2.2.2.2.2.1,()):ZAD)]).bind fun l3=>some (.inl ((Rec.mk (l3,own.v.2.1,()):FsR),(IntKind.i64.wrap (i+1))))))))) else some (.inr own))
noncomputable def ZHZ (kind:Int) (s_:Str) (dir:Int) (num:Int) (x:ZAD) (f:FsR):FsR→Option (Bool)
 | own1=>((ZBz own1 kind 420 s_).bind fun r_3=>((ZBO own1 dir s_ num).bind fun r_4=>((ZBV own1 dir s_).bind fun r_5=>((ZBT own1 num).bind fun r_6=>((ZDC own1 x).bind fun r_7=>((ZAW r_3.1).bind fun r_8=>((if r_8 then((ZAW r_4.1).bind fun r_9=>some r_9) else some false).bind fun b2=>((if b2 then((ZAW r_5.1).bind fun r_10=>some r_10) else some false).bind fun b3=>((if b3 then((ZAW r_6.1).bind fun r_11=>some r_11) else some false).bind fun b4=>((if b4 then((ZAW r_7.1).bind fun r_12=>some r_12) else some false).bind fun b5=>((if b5 then((ZD1 own1 f).bind fun r_13=>some r_13) else some false).bind fun b6=>((if b6 then((ZBs).bind fun r_14=>some r_14) else some false).bind fun b7=>some (b7)))))))))))))
noncomputable def ZEY (f:FsR) (kind:Int) (s_:Str) (dir:Int) (num:Int) (x:ZAD):Option (Bool):=
 ((ZC5 f).bind fun r_=>((if(!r_) then some true else some (decide ((x.v.2.2.2.2.1.length:Int) > 40000))).bind fun b=>((if b then some true else((ZAW f).bind fun r_1=>some (!r_1))).bind fun b1=>(if b1 then((ZBs).bind fun r_2=>some (r_2)) else((loop (ZDD f) ((Rec.mk (([]:(List ZAD)),f.v.2.1,()):FsR),0)).bind (ZHZ kind s_ dir num x f))))))
theorem ZLR (mx:Int) (r:FsR) (h:ZEX=some r):MF Tryz.prog (pu12 mx) 26 [] (sG (NG mx)) fun v _=>ris v r:=by
 refine ZAm [] func26 rfl (by simp only[Tryz.f26];rfl) fun ψ=> ?_
 unfold ZEX at h;have hs:Hp (sG (NG mx)) [.gl (NG mx)]:=Hp.gl0
 refine ZAB<|ZAC<|ZAx (r:=(Rec.mk (([]:(List ZAD)),(0:Int),()):FsR)) zr24 zf24 hs fun m s hs=>ZAA<|ZAB<|ZAC<|ZDy (r0:=((0:Int),(0:Int),(0:Int),(0:Int),([]:(List UInt8)),(str []),([]:(List Str)),([]:(List Int)),([]:(List ZAd)),())) bu38 zr38 zf38 rfl rfl (r:=(1,2,(0:Int),1,([]:(List UInt8)),(str []),([]:(List Str)),([]:(List Int)),([]:(List ZAd)),())) (.cons (z:=(1:Int)) Sz (rfl:is _ (1:Int)) (.cons (z:=(2:Int)) (Ss Sz) (rfl:is _ (2:Int)) (.cons (z:=(1:Int)) (Ss (Ss (Ss Sz))) (rfl:is _ (1:Int)) .nil))) fun y hy=>ZCH [y] ([(Rec.mk (1,2,(0:Int),1,([]:(List UInt8)),(str []),([]:(List Str)),([]:(List Int)),([]:(List ZAd)),()):ZAD)]:(List ZAD)) underlying22 ef38 rfl rfl rfl (Nat.le_of_ble_eq_true rfl) ⟨hy,trivial⟩ fun z hz hzc hzn=>ZDy (r0:=(([]:(List ZAD)),(0:Int),())) bu24 zr24 zf24 rfl rfl (r:=([(Rec.mk (1,2,(0:Int),1,([]:(List UInt8)),(str []),([]:(List Str)),([]:(List Int)),([]:(List ZAd)),()):ZAD)],2,())) (.cons (z:=([(Rec.mk (1,2,(0:Int),1,([]:(List UInt8)),(str []),([]:(List Str)),([]:(List Int)),([]:(List ZAd)),()):ZAD)]:(List ZAD))) Sz hz (.cons (z:=(2:Int)) (Ss Sz) (rfl:is _ (2:Int)) .nil)) fun y1 hy1=>ZAe (r:=(Rec.mk ([(Rec.mk (1,2,(0:Int),1,([]:(List UInt8)),(str []),([]:(List Str)),([]:(List Int)),([]:(List ZAd)),()):ZAD)],2,()):FsR)) sz24 rfl rfl zf24 hy1 hs fun xs s hxs hs=> ?_
 refine ZAA<|ZAN ?_
 obtain⟨w,hlw,hw⟩:=ldW (r:=(Rec.mk ([(Rec.mk (1,2,(0:Int),1,([]:(List UInt8)),(str []),([]:(List Str)),([]:(List Int)),([]:(List ZAd)),()):ZAD)],2,()):FsR)) ag24 sz24 hxs hs;rw[←oi h];exact⟨rfl,KEc1 (a:=((Rec.mk ([(Rec.mk (1,2,(0:Int),1,([]:(List UInt8)),(str []),([]:(List Str)),([]:(List Int)),([]:(List ZAd)),()):ZAD)],2,()):FsR):FsR)) rfl (.cell rfl hlw .nil) hw hw⟩
theorem ZLS (mx:Int):ZAv Tryz.prog 26 (FnG (NG mx) (fun a:Unit=>ZEX)):=fnCG (ZPQ mx) ⟨_,func26,rfl⟩<|fun a r h=>ZLR mx r h
noncomputable def px1 (mx:Int):Prims:=(pu12 mx).addG 26 (FnG (NG mx) (fun a:Unit=>ZEX))
theorem ZRO (mx:Int):ZAS Tryz.prog (px1 mx):=ZAZ (ZPQ mx) (ZLS mx)
theorem ZLT (mx:Int) (r:Bool) (h:ZBs=some r):MF Tryz.prog (px1 mx) 10 [] (sG (NG mx)) fun v _=>ris v r:=by
 refine ZAm [] func10 rfl (by simp only[Tryz.f10];rfl) fun ψ=> ?_
 unfold ZBs at h;have hs:Hp (sG (NG mx)) [.gl (NG mx)]:=Hp.gl0
 refine ZAB<|ZAC<|ZAG (v:=enc false) rfl<|ZAA<|ZAB<|ZAC ?_
 obtain⟨r_,hx,h⟩:=bs h;refine ZAj (f:=fun a:Unit=>ZEX) (a:=()) rfl func26 rfl rfl .nil hs List.mem_cons_self hx ?_
 obtain⟨r_1,hx1,h⟩:=bs h;refine ZAj (f:=fun a:FsR×Int×Int×Str×Unit=>ZBz a.1 a.2.1 a.2.2.1 a.2.2.2.1) (a:=(r_,1,420,(str []),())) rfl func11 rfl rfl (.cons (a:=r_) (Enc.self r_) (.cons (a:=(1:Int)) (rfl:is _ (1:Int)) (.cons (a:=(420:Int)) (rfl:is _ (420:Int)) (.cons (a:=((str []):Str)) (Enc.self _) .nil)))) hs List.mem_cons_self hx1<|ZAE (v:=res r_1) rfl<|ZAp rfl rfl<|ZAp rfl rfl<|ZAp rfl rfl<|ZAx (r:=(Rec.mk (([]:(List ZAD)),(0:Int),()):FsR)) zr24 zf24 hs fun m s hs=>ZAe (r:=r_1.1) sz24 rfl rfl zf24 (Enc.self r_1.1) hs fun xs s hxs hs=>ZAG rfl<|ZAG rfl<|ZAA<|ZAB<|ZAC<|ZAU (r:=r_1.1) ag24 sz24 rfl hxs hs fun y hy=>ZAE rfl ?_
 obtain⟨r_2,hx2,h⟩:=bs h;refine ZAj (f:=fun a:FsR×Int×Str×Int×Unit=>ZBO a.1 a.2.1 a.2.2.1 a.2.2.2.1) (a:=(r_1.1,1,(str [97]),r_1.2.1,())) rfl func16 rfl rfl (.cons (a:=r_1.1) hy (.cons (a:=(1:Int)) (rfl:is _ (1:Int)) (.cons (a:=((str [97]):Str)) (Enc.self _) (.cons (a:=r_1.2.1) (Enc.self _) .nil)))) hs (lM _ List.mem_cons_self) hx2<|ZAE (v:=res r_2) rfl<|ZAp rfl rfl<|ZAp rfl rfl<|ZAe (r:=r_2.1) sz24 rfl rfl hxs (Enc.self r_2.1) hs fun xs1 s hxs1 hs=>ZAG rfl<|ZAA<|ZAB<|ZAC<|ZAU (r:=r_2.1) ag24 sz24 rfl hxs1 hs fun y1 hy1=>ZAE rfl ?_
 obtain⟨r_3,hx3,h⟩:=bs h;refine ZAj (f:=fun a:FsR×Int×Str×Int×Unit=>ZBO a.1 a.2.1 a.2.2.1 a.2.2.2.1) (a:=(r_2.1,1,(str [98]),r_1.2.1,())) rfl func16 rfl rfl (.cons (a:=r_2.1) hy1 (.cons (a:=(1:Int)) (rfl:is _ (1:Int)) (.cons (a:=((str [98]):Str)) (Enc.self _) (.cons (a:=r_1.2.1) (Enc.self _) .nil)))) hs (lM _ List.mem_cons_self) hx3<|ZAE (v:=res r_3) rfl<|ZAp rfl rfl<|ZAp rfl rfl<|ZAe (r:=r_3.1) sz24 rfl rfl hxs1 (Enc.self r_3.1) hs fun xs2 s hxs2 hs=>ZAG rfl<|ZAA<|ZAB<|ZAC<|ZAU (r:=r_3.1) ag24 sz24 rfl hxs2 hs fun y2 hy2=> ?_
 obtain⟨r_4,hx4,h⟩:=bs h;refine ZAj (f:=fun a:FsR×Int×Str×Unit=>ZBV a.1 a.2.1 a.2.2.1) (a:=(r_3.1,1,(str [97]),())) rfl func19 rfl rfl (.cons (a:=r_3.1) hy2 (.cons (a:=(1:Int)) (rfl:is _ (1:Int)) (.cons (a:=((str [97]):Str)) (Enc.self _) .nil))) hs (lM _ List.mem_cons_self) hx4<|ZAE (v:=res r_4) rfl<|ZAp rfl rfl<|ZAp rfl rfl<|ZAp rfl rfl<|ZAe (r:=r_4.1) sz24 rfl rfl hxs2 (Enc.self r_4.1) hs fun xs3 s hxs3 hs=>ZAG rfl<|ZAG rfl<|ZAA<|ZAB<|ZAC<|ZAU (r:=r_4.1) ag24 sz24 rfl hxs3 hs fun y3 hy3=> ?_
 obtain⟨r_5,hx5,h⟩:=bs h;refine ZAj (f:=fun a:FsR×Int×Str×Unit=>ZBE a.1 a.2.1 a.2.2.1) (a:=(r_4.1,1,(str [98]),())) rfl func18 rfl rfl (.cons (a:=r_4.1) hy3 (.cons (a:=(1:Int)) (rfl:is _ (1:Int)) (.cons (a:=((str [98]):Str)) (Enc.self _) .nil))) hs (lM _ List.mem_cons_self) hx5<|ZAE (v:=res r_5) rfl<|ZAp rfl rfl<|ZAp rfl rfl<|ZAG rfl<|ZAG rfl<|ZAA<|ZAB<|ZAC<|ZAU (r:=r_4.1) ag24 sz24 rfl hxs3 hs fun y4 hy4=> ?_
 obtain⟨r_6,hx6,h⟩:=bs h;refine ZAj (f:=fun a:FsR×Int×Str×Unit=>ZBE a.1 a.2.1 a.2.2.1) (a:=(r_4.1,1,(str [97]),())) rfl func18 rfl rfl (.cons (a:=r_4.1) hy4 (.cons (a:=(1:Int)) (rfl:is _ (1:Int)) (.cons (a:=((str [97]):Str)) (Enc.self _) .nil))) hs (lM _ List.mem_cons_self) hx6<|ZAE (v:=res r_6) rfl<|ZAp rfl rfl<|ZAp rfl rfl<|ZAG rfl<|ZAG rfl<|ZAA<|ZAB<|ZAC<|ZAU (r:=r_4.1) ag24 sz24 rfl hxs3 hs fun y5 hy5=>ZAE rfl ?_
 obtain⟨r_7,hx7,h⟩:=bs h;refine ZAj (f:=fun a:FsR×Int×Unit=>ZBT a.1 a.2.1) (a:=(r_4.1,r_1.2.1,())) rfl func14 rfl rfl (.cons (a:=r_4.1) hy5 (.cons (a:=r_1.2.1) (Enc.self _) .nil)) hs (lM _ List.mem_cons_self) hx7<|ZAE (v:=res r_7) rfl<|ZAp rfl rfl<|ZAp rfl rfl<|ZAx (r:=(Rec.mk (([]:(List ZAD)),(0:Int),()):FsR)) zr24 zf24 hs fun m1 s hs=>ZAe (r:=r_7.1) sz24 rfl rfl zf24 (Enc.self r_7.1) hs fun xs4 s hxs4 hs=>ZAG rfl<|ZAA<|ZAB<|ZAC<|ZDy (r0:=(([]:(List ZAD)),(0:Int),())) bu24 zr24 zf24 rfl rfl (r:=(([]:(List ZAD)),(0:Int),())) .nil fun y6 hy6=> ?_
 obtain⟨r_8,hx8,h⟩:=bs h;refine ZAj (f:=fun a:FsR×Int×Unit=>ZBT a.1 a.2.1) (a:=((Rec.mk (([]:(List ZAD)),(0:Int),()):FsR),1,())) rfl func14 rfl rfl (.cons (a:=((Rec.mk (([]:(List ZAD)),(0:Int),()):FsR):FsR)) hy6 (.cons (a:=(1:Int)) (rfl:is _ (1:Int)) .nil)) hs (lM _ (lM _ List.mem_cons_self)) hx8<|ZAE (v:=res r_8) rfl<|ZAp rfl rfl<|ZAp rfl rfl<|ZAx (r:=(Rec.mk (([]:(List ZAD)),(0:Int),()):FsR)) zr24 zf24 hs fun m2 s hs=>ZAe (r:=r_8.1) sz24 rfl rfl zf24 (Enc.self r_8.1) hs fun xs5 s hxs5 hs=>ZAG rfl<|ZAA<|ZAB<|ZAC<|ZAE rfl<|ZAM (v:=enc (r_1.2.2==0)) rfl rfl rfl<|ZAE rfl ?_
 obtain⟨b,hb_b,h⟩:=bs h;refine ZAX 3 (fun φ s=>Hp s [(.cells m2 xs5),(.cells m1 xs4),(.cells m xs3),(.gl (NG mx))]∧Fx φ [(1,(.ptr m 0)),(4,(enc r_2.2)),(5,(enc r_3.2)),(6,(enc r_4.2.1)),(7,(enc r_4.2.2)),(8,(enc r_5.1)),(9,(enc r_5.2)),(11,(enc r_6.2)),(13,(enc r_7.2)),(15,(enc r_8.2)),(66,(enc b))]) ?_ ?_
 ·split at hb_b
  ·rename_i cg;refine ZAJ rfl rfl cg<|ZAE rfl<|ZAJ rfl rfl cg<|ZAM (v:=enc (r_1.2.1==2)) rfl rfl rfl<|ZAl rfl cg rfl<|ZAA ?_
   rw[←oi hb_b];exact⟨hs,FxR rfl⟩
  rename_i cg1;refine ZAF rfl rfl cg1<|ZAF rfl rfl cg1<|ZAi (v:=enc false) rfl cg1 rfl<|ZAA ?_
  rw[←oi hb_b];exact⟨hs,FxR rfl⟩
 rintro φ s ⟨hs,hF⟩;rw[←hF.eq];refine ZAE rfl ?_
 obtain⟨b1,hb_b1,h⟩:=bs h;refine ZAX 3 (fun φ s=>Hp s [(.cells m2 xs5),(.cells m1 xs4),(.cells m xs3),(.gl (NG mx))]∧Fx φ [(1,(.ptr m 0)),(5,(enc r_3.2)),(6,(enc r_4.2.1)),(7,(enc r_4.2.2)),(8,(enc r_5.1)),(9,(enc r_5.2)),(11,(enc r_6.2)),(13,(enc r_7.2)),(15,(enc r_8.2)),(70,(enc b1))]) ?_ ?_
 ·split at hb_b1
  ·rename_i cg2;refine ZAJ rfl rfl cg2<|ZAE rfl<|ZAJ rfl rfl cg2<|ZAM (v:=enc (r_2.2==0)) rfl rfl rfl<|ZAl rfl cg2 rfl<|ZAA ?_
   rw[←oi hb_b1];exact⟨hs,FxR rfl⟩
  rename_i cg3;refine ZAF rfl rfl cg3<|ZAF rfl rfl cg3<|ZAi (v:=enc false) rfl cg3 rfl<|ZAA ?_
  rw[←oi hb_b1];exact⟨hs,FxR rfl⟩
 rintro φ s ⟨hs,hF⟩;rw[←hF.eq];refine ZAE rfl ?_
 obtain⟨b2,hb_b2,h⟩:=bs h;refine ZAX 3 (fun φ s=>Hp s [(.cells m2 xs5),(.cells m1 xs4),(.cells m xs3),(.gl (NG mx))]∧Fx φ [(1,(.ptr m 0)),(6,(enc r_4.2.1)),(7,(enc r_4.2.2)),(8,(enc r_5.1)),(9,(enc r_5.2)),(11,(enc r_6.2)),(13,(enc r_7.2)),(15,(enc r_8.2)),(74,(enc b2))]) ?_ ?_
 ·split at hb_b2
  ·rename_i cg4;refine ZAJ rfl rfl cg4<|ZAE rfl<|ZAJ rfl rfl cg4<|ZAM (v:=enc (r_3.2==0)) rfl rfl rfl<|ZAl rfl cg4 rfl<|ZAA ?_
   rw[←oi hb_b2];exact⟨hs,FxR rfl⟩
  rename_i cg5;refine ZAF rfl rfl cg5<|ZAF rfl rfl cg5<|ZAi (v:=enc false) rfl cg5 rfl<|ZAA ?_
  rw[←oi hb_b2];exact⟨hs,FxR rfl⟩
 rintro φ s ⟨hs,hF⟩;rw[←hF.eq];refine ZAE rfl ?_
 obtain⟨b3,hb_b3,h⟩:=bs h;refine ZAX 3 (fun φ s=>Hp s [(.cells m2 xs5),(.cells m1 xs4),(.cells m xs3),(.gl (NG mx))]∧Fx φ [(1,(.ptr m 0)),(6,(enc r_4.2.1)),(8,(enc r_5.1)),(9,(enc r_5.2)),(11,(enc r_6.2)),(13,(enc r_7.2)),(15,(enc r_8.2)),(78,(enc b3))]) ?_ ?_
 ·split at hb_b3
  ·rename_i cg6;refine ZAJ rfl rfl cg6<|ZAE rfl<|ZAJ rfl rfl cg6<|ZAM (v:=enc (r_4.2.2==0)) rfl rfl rfl<|ZAl rfl cg6 rfl<|ZAA ?_
   rw[←oi hb_b3];exact⟨hs,FxR rfl⟩
  rename_i cg7;refine ZAF rfl rfl cg7<|ZAF rfl rfl cg7<|ZAi (v:=enc false) rfl cg7 rfl<|ZAA ?_
  rw[←oi hb_b3];exact⟨hs,FxR rfl⟩
 rintro φ s ⟨hs,hF⟩;rw[←hF.eq];refine ZAE rfl ?_
 obtain⟨b4,hb_b4,h⟩:=bs h;refine ZAX 3 (fun φ s=>Hp s [(.cells m2 xs5),(.cells m1 xs4),(.cells m xs3),(.gl (NG mx))]∧Fx φ [(1,(.ptr m 0)),(8,(enc r_5.1)),(9,(enc r_5.2)),(11,(enc r_6.2)),(13,(enc r_7.2)),(15,(enc r_8.2)),(82,(enc b4))]) ?_ ?_
 ·split at hb_b4
  ·rename_i cg8;refine ZAJ rfl rfl cg8<|ZAE rfl<|ZAJ rfl rfl cg8<|ZAM (v:=enc (r_4.2.1==2)) rfl rfl rfl<|ZAl rfl cg8 rfl<|ZAA ?_
   rw[←oi hb_b4];exact⟨hs,FxR rfl⟩
  rename_i cg9;refine ZAF rfl rfl cg9<|ZAF rfl rfl cg9<|ZAi (v:=enc false) rfl cg9 rfl<|ZAA ?_
  rw[←oi hb_b4];exact⟨hs,FxR rfl⟩
 rintro φ s ⟨hs,hF⟩;rw[←hF.eq];refine ZAE rfl ?_
 obtain⟨b5,hb_b5,h⟩:=bs h;refine ZAX 3 (fun φ s=>Hp s [(.cells m2 xs5),(.cells m1 xs4),(.cells m xs3),(.gl (NG mx))]∧Fx φ [(1,(.ptr m 0)),(9,(enc r_5.2)),(11,(enc r_6.2)),(13,(enc r_7.2)),(15,(enc r_8.2)),(86,(enc b5))]) ?_ ?_
 ·split at hb_b5
  ·rename_i cg10;refine ZAJ rfl rfl cg10<|ZAE rfl<|ZAJ rfl rfl cg10<|ZAM (v:=enc (r_5.1==2)) rfl rfl rfl<|ZAl rfl cg10 rfl<|ZAA ?_
   rw[←oi hb_b5];exact⟨hs,FxR rfl⟩
  rename_i cg11;refine ZAF rfl rfl cg11<|ZAF rfl rfl cg11<|ZAi (v:=enc false) rfl cg11 rfl<|ZAA ?_
  rw[←oi hb_b5];exact⟨hs,FxR rfl⟩
 rintro φ s ⟨hs,hF⟩;rw[←hF.eq];refine ZAE rfl ?_
 obtain⟨b6,hb_b6,h⟩:=bs h;refine ZAX 3 (fun φ s=>Hp s [(.cells m2 xs5),(.cells m1 xs4),(.cells m xs3),(.gl (NG mx))]∧Fx φ [(1,(.ptr m 0)),(11,(enc r_6.2)),(13,(enc r_7.2)),(15,(enc r_8.2)),(90,(enc b6))]) ?_ ?_
 ·split at hb_b6
  ·rename_i cg12;refine ZAJ rfl rfl cg12<|ZAE rfl<|ZAJ rfl rfl cg12<|ZAM (v:=enc (r_5.2==0)) rfl rfl rfl<|ZAl rfl cg12 rfl<|ZAA ?_
   rw[←oi hb_b6];exact⟨hs,FxR rfl⟩
  rename_i cg13;refine ZAF rfl rfl cg13<|ZAF rfl rfl cg13<|ZAi (v:=enc false) rfl cg13 rfl<|ZAA ?_
  rw[←oi hb_b6];exact⟨hs,FxR rfl⟩
 rintro φ s ⟨hs,hF⟩;rw[←hF.eq];refine ZAE rfl ?_
 obtain⟨b7,hb_b7,h⟩:=bs h;refine ZAX 3 (fun φ s=>Hp s [(.cells m2 xs5),(.cells m1 xs4),(.cells m xs3),(.gl (NG mx))]∧Fx φ [(1,(.ptr m 0)),(13,(enc r_7.2)),(15,(enc r_8.2)),(94,(enc b7))]) ?_ ?_
 ·split at hb_b7
  ·rename_i cg14;refine ZAJ rfl rfl cg14<|ZAE rfl<|ZAJ rfl rfl cg14<|ZAM (v:=enc (r_6.2==201)) rfl rfl rfl<|ZAl rfl cg14 rfl<|ZAA ?_
   rw[←oi hb_b7];exact⟨hs,FxR rfl⟩
  rename_i cg15;refine ZAF rfl rfl cg15<|ZAF rfl rfl cg15<|ZAi (v:=enc false) rfl cg15 rfl<|ZAA ?_
  rw[←oi hb_b7];exact⟨hs,FxR rfl⟩
 rintro φ s ⟨hs,hF⟩;rw[←hF.eq];refine ZAE rfl ?_
 obtain⟨b8,hb_b8,h⟩:=bs h;refine ZAX 3 (fun φ s=>Hp s [(.cells m2 xs5),(.cells m1 xs4),(.cells m xs3),(.gl (NG mx))]∧Fx φ [(1,(.ptr m 0)),(15,(enc r_8.2)),(98,(enc b8))]) ?_ ?_
 ·split at hb_b8
  ·rename_i cg16;refine ZAJ rfl rfl cg16<|ZAE rfl<|ZAJ rfl rfl cg16<|ZAM (v:=enc (r_7.2==215)) rfl rfl rfl<|ZAl rfl cg16 rfl<|ZAA ?_
   rw[←oi hb_b8];exact⟨hs,FxR rfl⟩
  rename_i cg17;refine ZAF rfl rfl cg17<|ZAF rfl rfl cg17<|ZAi (v:=enc false) rfl cg17 rfl<|ZAA ?_
  rw[←oi hb_b8];exact⟨hs,FxR rfl⟩
 rintro φ s ⟨hs,hF⟩;rw[←hF.eq];refine ZAE rfl ?_
 obtain⟨b9,hb_b9,h⟩:=bs h;refine ZAX 3 (fun φ s=>Hp s [(.cells m2 xs5),(.cells m1 xs4),(.cells m xs3),(.gl (NG mx))]∧Fx φ [(1,(.ptr m 0)),(102,(enc b9))]) ?_ ?_
 ·split at hb_b9
  ·rename_i cg18;refine ZAJ rfl rfl cg18<|ZAE rfl<|ZAJ rfl rfl cg18<|ZAM (v:=enc (r_8.2==2)) rfl rfl rfl<|ZAl rfl cg18 rfl<|ZAA ?_
   rw[←oi hb_b9];exact⟨hs,FxR rfl⟩
  rename_i cg19;refine ZAF rfl rfl cg19<|ZAF rfl rfl cg19<|ZAi (v:=enc false) rfl cg19 rfl<|ZAA ?_
  rw[←oi hb_b9];exact⟨hs,FxR rfl⟩
 rintro φ s ⟨hs,hF⟩;rw[←hF.eq];refine ZAE rfl ?_
 obtain⟨b10,hb_b10,h⟩:=bs h;refine ZAX 5 (fun φ s=>Hp s [(.cells m2 xs5),(.cells m1 xs4),(.cells m xs3),(.gl (NG mx))]∧Fx φ [(1,(.ptr m 0)),(108,(enc b10))]) ?_ ?_
 ·split at hb_b10
  ·rename_i cg20;refine ZAJ rfl rfl cg20<|ZAP ZBA rfl<|ZAJ rfl rfl cg20 ?_
   replace hs:=Hp.front [(.cells m2 xs5),(.cells m1 xs4)] (b:=[(.gl (NG mx))]) hs;refine ZAL ag22 Sz rfl hxs3 hs fun y7 hy7=>ZAJ rfl rfl cg20<|ZAu underlying22 rfl rfl hy7<|ZAJ rfl rfl cg20<|ZAM (v:=enc (((r_4.1.v.1.length:Int)==2):Bool)) rfl rfl rfl<|ZAl rfl cg20 rfl<|ZAA ?_
   rw[←oi hb_b10];exact⟨(Hp.front [(.cells m1 xs4),(.cells m xs3),(.gl (NG mx))] (b:=[]) (Hp.front [(.cells m xs3),(.gl (NG mx)),(.cells m2 xs5)] (b:=[]) (Hp.front [(.gl (NG mx))] (b:=[(.cells m2 xs5),(.cells m1 xs4)]) (Hp.front [(.cells m xs3),(.cells m2 xs5),(.cells m1 xs4)] (b:=[]) hs)))),FxR rfl⟩
  rename_i cg21;refine ZAF rfl rfl cg21<|ZAF rfl rfl cg21<|ZAF rfl rfl cg21<|ZAF rfl rfl cg21<|ZAi (v:=enc false) rfl cg21 rfl<|ZAA ?_
  rw[←oi hb_b10];exact⟨hs,FxR rfl⟩
 rintro φ s ⟨hs,hF⟩;rw[←hF.eq];refine ZAE rfl ?_
 obtain⟨b11,hb_b11,h⟩:=bs h;refine ZAX 7 (fun φ s=>Hp s [(.cells m2 xs5),(.cells m1 xs4),(.cells m xs3),(.gl (NG mx))]∧Fx φ [(1,(.ptr m 0)),(116,(enc b11))]) ?_ ?_
 ·split at hb_b11
  ·rename_i cg22;refine ZAJ rfl rfl cg22<|ZAP ZBA rfl<|ZAJ rfl rfl cg22 ?_
   replace hs:=Hp.front [(.cells m2 xs5),(.cells m1 xs4)] (b:=[(.gl (NG mx))]) hs;refine ZAL ag22 Sz rfl hxs3 hs fun y8 hy8=>ZAJ rfl rfl cg22 ?_
   obtain⟨v,hx9,hb_b11⟩:=bs hb_b11;refine ZBG underlying22 sh38 rfl rfl hy8 hx9 fun p hp=>ZAJ rfl rfl cg22<|ZD9 ZDz (Ss (Ss (Ss Sz))) rfl hp fun p1 hp1=>ZAJ rfl rfl cg22<|ZB5 ag3 rfl hp1 fun y9 hy9=> ?_
   cases hy9;refine ZAJ rfl rfl cg22<|ZAM (v:=enc (v.v.2.2.2.1==1)) rfl rfl rfl<|ZAl rfl cg22 rfl<|ZAA ?_
   rw[←oi hb_b11];exact⟨(Hp.front [(.cells m1 xs4),(.cells m xs3),(.gl (NG mx))] (b:=[]) (Hp.front [(.cells m xs3),(.gl (NG mx)),(.cells m2 xs5)] (b:=[]) (Hp.front [(.gl (NG mx))] (b:=[(.cells m2 xs5),(.cells m1 xs4)]) (Hp.front [(.cells m xs3),(.cells m2 xs5),(.cells m1 xs4)] (b:=[]) hs)))),FxR rfl⟩
  rename_i cg23;refine ZAF rfl rfl cg23<|ZAF rfl rfl cg23<|ZAF rfl rfl cg23<|ZAF rfl rfl cg23<|ZAF rfl rfl cg23<|ZAF rfl rfl cg23<|ZAi (v:=enc false) rfl cg23 rfl<|ZAA ?_
  rw[←oi hb_b11];exact⟨hs,FxR rfl⟩
 rintro φ s ⟨hs,hF⟩;rw[←hF.eq];refine ZAE rfl ?_
 obtain⟨b12,hb_b12,h⟩:=bs h;refine ZAX 3 (fun φ s=>Hp s [(.cells m2 xs5),(.cells m1 xs4),(.cells m xs3),(.gl (NG mx))]∧Fx φ [(120,(enc b12))]) ?_ ?_
 ·split at hb_b12
  ·rename_i cg24;refine ZAJ rfl rfl cg24 ?_
   replace hs:=Hp.front [(.cells m2 xs5),(.cells m1 xs4)] (b:=[(.gl (NG mx))]) hs;refine ZAU (r:=r_4.1) ag24 sz24 rfl hxs3 hs fun y10 hy10=>ZAJ rfl rfl cg24 ?_
   obtain⟨r_9,hx10,hb_b12⟩:=bs hb_b12;refine ZAj (f:=fun a:FsR×Unit=>ZAW a.1) (a:=(r_4.1,())) rfl func25 rfl rfl (.cons (a:=r_4.1) hy10 .nil) hs (lM _ (lM _ (lM _ List.mem_cons_self))) hx10<|ZAl rfl cg24 rfl<|ZAA ?_
   rw[←oi hb_b12];exact⟨(Hp.front [(.cells m1 xs4),(.cells m xs3),(.gl (NG mx))] (b:=[]) (Hp.front [(.cells m xs3),(.gl (NG mx)),(.cells m2 xs5)] (b:=[]) (Hp.front [(.gl (NG mx))] (b:=[(.cells m2 xs5),(.cells m1 xs4)]) (Hp.front [(.cells m xs3),(.cells m2 xs5),(.cells m1 xs4)] (b:=[]) hs)))),FxR rfl⟩
  rename_i cg25;refine ZAF rfl rfl cg25<|ZAF rfl rfl cg25<|ZAi (v:=enc false) rfl cg25 rfl<|ZAA ?_
  rw[←oi hb_b12];exact⟨hs,FxR rfl⟩
 rintro φ s ⟨hs,hF⟩;rw[←hF.eq];refine ZAG rfl<|ZAA<|ZAN ?_
 rw[←oi h];exact⟨rfl,KE1 (a:=b12) rfl rfl (rfl:is _ b12) (rfl:is _ b12)⟩
theorem ZLU (mx:Int):ZAv Tryz.prog 10 (FnG (NG mx) (fun a:Unit=>ZBs)):=fnCG (ZRO mx) ⟨_,func10,rfl⟩<|fun a r h=>ZLT mx r h
noncomputable def px2 (mx:Int):Prims:=(px1 mx).addG 10 (FnG (NG mx) (fun a:Unit=>ZBs))
theorem ZSs (mx:Int):ZAS Tryz.prog (px2 mx):=ZAZ (ZRO mx) (ZLU mx)
theorem ZLV (mx:Int) (f:FsR) (kind:Int) (s_:Str) (dir:Int) (num:Int) (x:ZAD) (r:Bool) (h:ZEY f kind s_ dir num x=some r):MF Tryz.prog (px2 mx) 8 [enc f,enc kind,enc s_,enc dir,enc num,enc x] (sG (NG mx)) fun v _=>ris v r:=by
 refine ZAm [(0,enc f),(1,enc kind),(2,enc s_),(3,enc dir),(4,enc num),(5,enc x)] func8 rfl (by simp only[Tryz.f8];rfl) fun ψ=> ?_
 unfold ZEY at h;have hs:Hp (sG (NG mx)) [.gl (NG mx)]:=Hp.gl0
 refine ZAB<|ZAC<|ZBM (r:=f) rfl (Enc.self f) hs fun m xs s hxs hs=>ZBM (r:=x) rfl (Enc.self x) hs fun m1 xs1 s hxs1 hs=>ZAG (v:=enc false) rfl<|ZAA<|ZAB<|ZAB<|ZAC ?_
 replace hs:=Hp.front [(.cells m1 xs1)] (b:=[(.gl (NG mx))]) hs;refine ZAU (r:=f) ag24 sz24 rfl hxs hs fun y hy=> ?_
 obtain⟨r_,hx,h⟩:=bs h;refine ZBJ (f:=fun a:FsR×Unit=>ZC5 a.1) (a:=(f,())) rfl func9 rfl rfl (.cons (a:=f) hy .nil) hx<|ZCk (v:=enc (!r_)) rfl rfl<|ZAE rfl ?_
 obtain⟨b,hb_b,h⟩:=bs h;refine ZAX 5 (fun φ s=>Hp s [(.cells m xs),(.cells m1 xs1),(.gl (NG mx))]∧Fx φ [(1,(enc kind)),(2,(enc s_)),(3,(enc dir)),(4,(enc num)),(6,(.ptr m 0)),(11,(.ptr m1 0)),(36,(enc b))]) ?_ ?_
 ·split at hb_b
  ·rename_i cg;refine ZAF rfl rfl (by simpa using cg)<|ZAF rfl rfl (by simpa using cg)<|ZAF rfl rfl (by simpa using cg)<|ZAF rfl rfl (by simpa using cg)<|ZAl (v:=enc true) rfl cg rfl<|ZAA ?_
   rw[←oi hb_b];exact⟨hs,FxR rfl⟩
  rename_i cg1;refine ZAJ rfl rfl (by simpa using cg1)<|ZAP ZFw rfl<|ZAJ rfl rfl (by simpa using cg1) ?_
  replace hs:=Hp.front [(.cells m xs)] (b:=[(.gl (NG mx))]) hs;refine ZAL ag33 (Ss (Ss (Ss (Ss Sz)))) rfl hxs1 hs fun y1 hy1=>ZAJ rfl rfl (by simpa using cg1)<|ZAu underlying33 rfl rfl hy1<|ZAJ rfl rfl (by simpa using cg1)<|ZAM (v:=enc (decide ((x.v.2.2.2.2.1.length:Int) > 40000))) rfl rfl rfl<|ZAi rfl cg1 rfl<|ZAA ?_
  rw[←oi hb_b];exact⟨(Hp.front [(.cells m1 xs1),(.gl (NG mx))] (b:=[]) (Hp.front [(.gl (NG mx))] (b:=[(.cells m xs)]) (Hp.front [(.cells m1 xs1),(.cells m xs)] (b:=[]) hs))),FxR rfl⟩
 rintro φ s ⟨hs,hF⟩;rw[←hF.eq];refine ZAE rfl ?_
 obtain⟨b1,hb_b1,h⟩:=bs h;refine ZAX 4 (fun φ s=>Hp s [(.cells m xs),(.cells m1 xs1),(.gl (NG mx))]∧Fx φ [(1,(enc kind)),(2,(enc s_)),(3,(enc dir)),(4,(enc num)),(6,(.ptr m 0)),(11,(.ptr m1 0)),(41,(enc b1))]) ?_ ?_
 ·split at hb_b1
  ·rename_i cg2;refine ZAF rfl rfl (by simpa using cg2)<|ZAF rfl rfl (by simpa using cg2)<|ZAF rfl rfl (by simpa using cg2)<|ZAl (v:=enc true) rfl cg2 rfl<|ZAA ?_
   rw[←oi hb_b1];exact⟨hs,FxR rfl⟩
  rename_i cg3;refine ZAJ rfl rfl (by simpa using cg3)<|ZAU (r:=f) ag24 sz24 rfl hxs hs fun y2 hy2=>ZAJ rfl rfl (by simpa using cg3) ?_
  obtain⟨r_1,hx1,hb_b1⟩:=bs hb_b1;refine ZAj (f:=fun a:FsR×Unit=>ZAW a.1) (a:=(f,())) rfl func25 rfl rfl (.cons (a:=f) hy2 .nil) hs (lM _ (lM _ List.mem_cons_self)) hx1<|ZAJ rfl rfl (by simpa using cg3)<|ZCk (v:=enc (!r_1)) rfl rfl<|ZAi rfl cg3 rfl<|ZAA ?_
  rw[←oi hb_b1];exact⟨hs,FxR rfl⟩
 rintro φ s ⟨hs,hF⟩;rw[←hF.eq];refine ZAA ?_
 split at h
 ·rename_i c';refine ZAH rfl c'<|ZAB<|ZAC ?_
  obtain⟨r_2,hx2,h⟩:=bs h;refine ZAj (f:=fun a:Unit=>ZBs) (a:=()) rfl func10 rfl rfl .nil hs (lM _ (lM _ List.mem_cons_self)) hx2<|ZAG rfl<|ZAA<|ZAN ?_
  rw[←oi h];exact⟨rfl,KE1 (a:=r_2) rfl rfl (rfl:is _ r_2) (rfl:is _ r_2)⟩
 rename_i c';refine ZAI rfl c'<|ZAO<|ZAB<|ZAC<|ZAP ZHW rfl<|ZAL ag3 (Ss Sz) rfl hxs hs fun y3 hy3=> ?_
 cases hy3;refine ZRz (r0:=(([]:(List ZAD)),(0:Int),())) 0 bu24 zr24 zf24 rfl rfl (r:=(([]:(List ZAD)),f.v.2.1,())) (.cons (z:=f.v.2.1) (Ss Sz) (rfl:is _ f.v.2.1) .nil) rfl (by simp) fun y4 hy4 hNy4=>ZAx (r:=(Rec.mk (([]:(List ZAD)),(0:Int),()):FsR)) zr24 zf24 hs fun m2 s hs=>ZR0 (r:=(Rec.mk (([]:(List ZAD)),f.v.2.1,()):FsR)) sz24 rfl rfl zf24 hy4 hNy4 hs fun xs2 s hxs2 hoxs2 hs=>ZAA<|ZAB<|ZAB<|ZAC<|ZAG (v:=enc (0:Int)) rfl<|ZAA<|ZAR ?_
 obtain⟨own1,hl,h⟩:=bs h;refine ZA6 (fun(p:(FsR×Int)) φ s=>match p with | (own,i)=>∃(xs_own:List AV) (o_own:AV),fi xs_own own.v∧xs_own[0]? =some o_own∧ZB4 o_own=true∧Fx φ [(1,(enc kind)),(2,(enc s_)),(3,(enc dir)),(4,(enc num)),(6,(.ptr m 0)),(11,(.ptr m1 0)),(13,(.ptr m2 0)),(14,(enc i))]∧Hp s [(.cells m xs),(.cells m1 xs1),(.gl (NG mx)),(.cells m2 xs_own), .own o_own]) (fun(o:FsR) e φ s=>match o with | own1=>e= .exit 0∧∃(xs_own1:List AV) (o_own1:AV),fi xs_own1 own1.v∧xs_own1[0]? =some o_own1∧ZB4 o_own1=true∧Fx φ [(1,(enc kind)),(2,(enc s_)),(3,(enc dir)),(4,(enc num)),(6,(.ptr m 0)),(11,(.ptr m1 0)),(13,(.ptr m2 0))]∧Hp s [(.cells m xs),(.cells m1 xs1),(.gl (NG mx)),(.cells m2 xs_own1), .own o_own1]) ?_ hl ⟨xs2, .nils,hxs2,hoxs2,rfl,FxR rfl,(Hp.front [(.cells m1 xs1),(.gl (NG mx)),(.cells m2 xs2), .own .nils] (b:=[]) (Hp.front [(.gl (NG mx)),(.cells m2 xs2), .own .nils,(.cells m xs)] (b:=[]) (Hp.front [(.cells m2 xs2), .own .nils,(.cells m xs),(.cells m1 xs1)] (b:=[]) (Hp.front [.own .nils] (b:=[(.cells m xs),(.cells m1 xs1),(.gl (NG mx))]) (Hp.front [] (b:=[(.cells m2 xs2),(.cells m xs),(.cells m1 xs1),(.gl (NG mx))]) hs)))))⟩ ?_
 ·rintro⟨own,i⟩ o h φ s ⟨xs_own,o_own,hxs_own,ho_owno,ho_ownc,hF,hs⟩;rw[←hF.eq];rw[ZDD] at h;refine ZAB<|ZAB<|ZAC<|ZAE rfl<|ZAP ZBA rfl<|ZAL ag22 Sz rfl hxs hs fun y5 hy5=>ZAu underlying22 rfl rfl hy5<|ZAM (v:=enc (decide (i<(f.v.1.length:Int)))) rfl rfl rfl<|ZAA ?_
  split at h
  ·rename_i c';refine ZAH rfl c'<|ZAO<|ZAB<|ZAR<|ZAB<|ZAC<|ZAP ZBA rfl<|ZAL ag22 Sz rfl hxs hs fun y6 hy6=>ZAE rfl ?_
   obtain⟨v,hx3,h⟩:=bs h;refine ZBG underlying22 sh38 rfl rfl hy6 hx3 fun p hp=>ZB1 ag38 sz38 rfl hp fun y7 hy7=>ZAx (r:=(Rec.mk ((0:Int),(0:Int),(0:Int),(0:Int),([]:(List UInt8)),(str []),([]:(List Str)),([]:(List Int)),([]:(List ZAd)),()):ZAD)) zr38 zf38 hs fun m3 s hs=>ZAe (r:=v) sz38 rfl rfl zf38 hy7 hs fun xs3 s hxs3 hs=>ZAA<|ZAB<|ZAC<|ZCH [] ([]:(List Str)) underlying34 ef9 rfl rfl rfl (Nat.le_of_ble_eq_true rfl) trivial fun z hz hzc hzn=>ZAP ZBp rfl<|ZAL ag34 (Ss (Ss (Ss (Ss (Ss (Ss Sz)))))) rfl hxs3 hs fun y8 hy8=> ?_
   obtain⟨l,hx4,h⟩:=bs h;refine ZKq [] (es2:=[(.cells m3 xs3),(.cells m xs),(.cells m1 xs1),(.gl (NG mx)),(.cells m2 xs_own), .own o_own]) underlying34 underlying34 rfl rfl ef9 rfl rfl hz hzc (Hp.add hs hzn) hy8 hx4 fun z1 s hz1 hz1c hs=>ZAP ZBp rfl ?_
   replace hs:=Hp.front [.own z1] (b:=[(.cells m xs),(.cells m1 xs1),(.gl (NG mx)),(.cells m2 xs_own), .own o_own]) hs;refine ZC3 (z:=l) sz34 (Ss (Ss (Ss (Ss (Ss (Ss Sz)))))) rfl rfl hz1 hxs3 hs fun xs4 s hxs4 hs=>ZAA<|ZAB<|ZAC<|ZCH [] ([]:(List Int)) underlying35 ef3 rfl rfl rfl (Nat.le_of_ble_eq_true rfl) trivial fun z2 hz2 hz2c hz2n=>ZAP ZC4 rfl<|ZAL ag35 (Ss (Ss (Ss (Ss (Ss (Ss (Ss Sz))))))) rfl hxs4 hs fun y9 hy9=> ?_
   obtain⟨l1,hx5,h⟩:=bs h;refine ZKq [] (es2:=[(.cells m3 xs4), .own z1,(.cells m xs),(.cells m1 xs1),(.gl (NG mx)),(.cells m2 xs_own), .own o_own]) underlying35 underlying35 rfl rfl ef3 rfl rfl hz2 hz2c (Hp.add hs hz2n) hy9 hx5 fun z3 s hz3 hz3c hs=>ZAP ZC4 rfl ?_
   replace hs:=Hp.front [.own z3] (b:=[.own z1,(.cells m xs),(.cells m1 xs1),(.gl (NG mx)),(.cells m2 xs_own), .own o_own]) hs;refine ZC3 (z:=l1) sz35 (Ss (Ss (Ss (Ss (Ss (Ss (Ss Sz))))))) rfl rfl hz3 hxs4 hs fun xs5 s hxs5 hs=>ZAA<|ZAB<|ZAC<|ZCH [] ([]:(List UInt8)) underlying33 ef5 rfl rfl rfl (Nat.le_of_ble_eq_true rfl) trivial fun z4 hz4 hz4c hz4n=>ZAP ZFw rfl<|ZAL ag33 (Ss (Ss (Ss (Ss Sz)))) rfl hxs5 hs fun y10 hy10=> ?_
   obtain⟨l2,hx6,h⟩:=bs h;refine ZKq [] (es2:=[(.cells m3 xs5), .own z3, .own z1,(.cells m xs),(.cells m1 xs1),(.gl (NG mx)),(.cells m2 xs_own), .own o_own]) underlying33 underlying33 rfl rfl ef5 rfl rfl hz4 hz4c (Hp.add hs hz4n) hy10 hx6 fun z5 s hz5 hz5c hs=>ZAP ZFw rfl ?_
   replace hs:=Hp.front [.own z5] (b:=[.own z3, .own z1,(.cells m xs),(.cells m1 xs1),(.gl (NG mx)),(.cells m2 xs_own), .own o_own]) hs;refine ZC3 (z:=l2) sz33 (Ss (Ss (Ss (Ss Sz)))) rfl rfl hz5 hxs5 hs fun xs6 s hxs6 hs=>ZAA<|ZAC<|ZAP ZBA rfl ?_
   replace hs:=Hp.front [(.cells m3 xs6), .own z5, .own z3, .own z1,(.cells m xs),(.cells m1 xs1),(.gl (NG mx))] (b:=[.own o_own]) hs;refine ZR1 ag22 Sz rfl hxs_own ho_owno hs fun hy11=> ?_
   replace hs:=Hp.front [(.cells m2 xs_own)] (b:=[.own z5, .own z3, .own z1,(.cells m xs),(.cells m1 xs1),(.gl (NG mx)), .own o_own]) hs;refine ZAU (r:=(Rec.mk (v.v.1,v.v.2.1,v.v.2.2.1,v.v.2.2.2.1,l2,v.v.2.2.2.2.2.1,l,l1,v.v.2.2.2.2.2.2.2.2.1,()):ZAD)) ag38 sz38 rfl hxs6 hs fun y12 hy12=>ZCH [y12] ([(Rec.mk (v.v.1,v.v.2.1,v.v.2.2.1,v.v.2.2.2.1,l2,v.v.2.2.2.2.2.1,l,l1,v.v.2.2.2.2.2.2.2.2.1,()):ZAD)]:(List ZAD)) underlying22 ef38 rfl rfl rfl (Nat.le_of_ble_eq_true rfl) ⟨hy12,trivial⟩ fun z6 hz6 hz6c hz6n=> ?_
   obtain⟨l3,hx7,h⟩:=bs h;refine ZKq [(.cells m3 xs6),(.cells m2 xs_own), .own z5, .own z3, .own z1,(.cells m xs),(.cells m1 xs1),(.gl (NG mx))] (es2:=[]) underlying22 underlying22 rfl rfl ef38 rfl rfl hy11 ho_ownc hs hz6 hx7 fun z7 s hz7 hz7c hs=>ZAP ZBA rfl ?_
   replace hs:=Hp.front [(.cells m3 xs6)] (b:=[.own z5, .own z3, .own z1,(.cells m xs),(.cells m1 xs1),(.gl (NG mx)), .own z7]) hs;refine ZR2 (z:=l3) sz22 Sz rfl rfl hz7 hxs_own hs fun xs7 s hxs7 hoxs7 hs=>ZAA<|ZAC<|ZAE rfl<|ZAM (v:=enc (IntKind.i64.wrap (i+1))) rfl rfl rfl<|ZAG rfl<|ZAA ?_
   rw[←oi h];exact⟨_,rfl,⟨xs7,z7,hxs7,hoxs7,hz7c,FxR rfl,(Hp.front [(.cells m1 xs1),(.gl (NG mx)),(.cells m2 xs7), .own z7] (b:=[]) (Hp.front [(.gl (NG mx)),(.cells m2 xs7), .own z7,(.cells m xs)] (b:=[]) (Hp.front [(.cells m2 xs7), .own z7,(.cells m xs),(.cells m1 xs1)] (b:=[]) (Hp.front [.own z7] (b:=[(.cells m xs),(.cells m1 xs1),(.gl (NG mx))]) (Hp.front [(.cells m2 xs7),(.cells m xs),(.cells m1 xs1),(.gl (NG mx))] (b:=[]) (Hp.drop [(.cells m2 xs7)] (b:=[(.cells m xs),(.cells m1 xs1),(.gl (NG mx)), .own z7]) (Hp.drop [(.cells m2 xs7)] (b:=[.own z1,(.cells m xs),(.cells m1 xs1),(.gl (NG mx)), .own z7]) (Hp.drop [(.cells m2 xs7)] (b:=[.own z3, .own z1,(.cells m xs),(.cells m1 xs1),(.gl (NG mx)), .own z7]) (Hp.drop [(.cells m2 xs7)] (b:=[.own z5, .own z3, .own z1,(.cells m xs),(.cells m1 xs1),(.gl (NG mx)), .own z7]) hs)))))))))⟩⟩
  rename_i c';refine ZAI rfl c'<|ZA0 ?_
  rw[←oi h];exact⟨_,rfl,rfl,⟨xs_own,o_own,hxs_own,ho_owno,ho_ownc,FxR rfl,hs⟩⟩
 intro e φ s hE;obtain⟨rfl,xs_own1,o_own1,hxs_own1,ho_own1o,ho_own1c,hF,hs⟩:=hE;rw[←hF.eq];rw[ZHZ] at h;show if _ then _ else _
 rw[if_pos rfl];refine ZAB<|ZAC ?_
 replace hs:=Hp.front [(.cells m xs),(.cells m1 xs1),(.gl (NG mx))] (b:=[.own o_own1]) hs;refine ZAU (r:=own1) ag24 sz24 rfl hxs_own1 hs fun y13 hy13=>ZAE rfl<|ZAE rfl ?_
 obtain⟨r_3,hx8,h⟩:=bs h;refine ZAj (f:=fun a:FsR×Int×Int×Str×Unit=>ZBz a.1 a.2.1 a.2.2.1 a.2.2.2.1) (a:=(own1,kind,420,s_,())) rfl func11 rfl rfl (.cons (a:=own1) hy13 (.cons (a:=kind) (Enc.self _) (.cons (a:=(420:Int)) (rfl:is _ (420:Int)) (.cons (a:=s_) (Enc.self _) .nil)))) hs (lM _ (lM _ (lM _ List.mem_cons_self))) hx8<|ZAE (v:=res r_3) rfl<|ZAp rfl rfl<|ZAp rfl rfl<|ZAp rfl rfl<|ZAx (r:=(Rec.mk (([]:(List ZAD)),(0:Int),()):FsR)) zr24 zf24 hs fun m4 s hs=>ZAe (r:=r_3.1) sz24 rfl rfl zf24 (Enc.self r_3.1) hs fun xs8 s hxs8 hs=>ZAG rfl<|ZAG rfl<|ZAA<|ZAB<|ZAC ?_
 replace hs:=Hp.front [(.cells m4 xs8)] (b:=[(.cells m xs),(.cells m1 xs1),(.gl (NG mx)), .own o_own1]) hs;refine ZAU (r:=own1) ag24 sz24 rfl hxs_own1 hs fun y14 hy14=>ZAE rfl<|ZAE rfl<|ZAE rfl ?_
 obtain⟨r_4,hx9,h⟩:=bs h;refine ZAj (f:=fun a:FsR×Int×Str×Int×Unit=>ZBO a.1 a.2.1 a.2.2.1 a.2.2.2.1) (a:=(own1,dir,s_,num,())) rfl func16 rfl rfl (.cons (a:=own1) hy14 (.cons (a:=dir) (Enc.self _) (.cons (a:=s_) (Enc.self _) (.cons (a:=num) (Enc.self _) .nil)))) hs (lM _ (lM _ (lM _ (lM _ List.mem_cons_self)))) hx9<|ZAE (v:=res r_4) rfl<|ZAp rfl rfl<|ZAp rfl rfl<|ZAx (r:=(Rec.mk (([]:(List ZAD)),(0:Int),()):FsR)) zr24 zf24 hs fun m5 s hs=>ZAe (r:=r_4.1) sz24 rfl rfl zf24 (Enc.self r_4.1) hs fun xs9 s hxs9 hs=>ZAG rfl<|ZAA<|ZAB<|ZAC ?_
 replace hs:=Hp.front [(.cells m5 xs9)] (b:=[(.cells m4 xs8),(.cells m xs),(.cells m1 xs1),(.gl (NG mx)), .own o_own1]) hs;refine ZAU (r:=own1) ag24 sz24 rfl hxs_own1 hs fun y15 hy15=>ZAE rfl<|ZAE rfl ?_
 obtain⟨r_5,hx10,h⟩:=bs h;refine ZAj (f:=fun a:FsR×Int×Str×Unit=>ZBV a.1 a.2.1 a.2.2.1) (a:=(own1,dir,s_,())) rfl func19 rfl rfl (.cons (a:=own1) hy15 (.cons (a:=dir) (Enc.self _) (.cons (a:=s_) (Enc.self _) .nil))) hs (lM _ (lM _ (lM _ (lM _ (lM _ List.mem_cons_self))))) hx10<|ZAE (v:=res r_5) rfl<|ZAp rfl rfl<|ZAp rfl rfl<|ZAp rfl rfl<|ZAx (r:=(Rec.mk (([]:(List ZAD)),(0:Int),()):FsR)) zr24 zf24 hs fun m6 s hs=>ZAe (r:=r_5.1) sz24 rfl rfl zf24 (Enc.self r_5.1) hs fun xs10 s hxs10 hs=>ZAG rfl<|ZAG rfl<|ZAA<|ZAB<|ZAC ?_
 replace hs:=Hp.front [(.cells m6 xs10)] (b:=[(.cells m5 xs9),(.cells m4 xs8),(.cells m xs),(.cells m1 xs1),(.gl (NG mx)), .own o_own1]) hs;refine ZAU (r:=own1) ag24 sz24 rfl hxs_own1 hs fun y16 hy16=>ZAE rfl ?_
 obtain⟨r_6,hx11,h⟩:=bs h;refine ZAj (f:=fun a:FsR×Int×Unit=>ZBT a.1 a.2.1) (a:=(own1,num,())) rfl func14 rfl rfl (.cons (a:=own1) hy16 (.cons (a:=num) (Enc.self _) .nil)) hs (lM _ (lM _ (lM _ (lM _ (lM _ (lM _ List.mem_cons_self)))))) hx11<|ZAE (v:=res r_6) rfl<|ZAp rfl rfl<|ZAp rfl rfl<|ZAx (r:=(Rec.mk (([]:(List ZAD)),(0:Int),()):FsR)) zr24 zf24 hs fun m7 s hs=>ZAe (r:=r_6.1) sz24 rfl rfl zf24 (Enc.self r_6.1) hs fun xs11 s hxs11 hs=>ZAG rfl<|ZAA<|ZAB<|ZAC ?_
 replace hs:=Hp.front [(.cells m7 xs11)] (b:=[(.cells m6 xs10),(.cells m5 xs9),(.cells m4 xs8),(.cells m xs),(.cells m1 xs1),(.gl (NG mx)), .own o_own1]) hs;refine ZAU (r:=own1) ag24 sz24 rfl hxs_own1 hs fun y17 hy17=> ?_
 replace hs:=Hp.front [(.cells m2 xs_own1),(.cells m7 xs11),(.cells m6 xs10),(.cells m5 xs9),(.cells m4 xs8),(.cells m xs)] (b:=[(.gl (NG mx)), .own o_own1]) hs;refine ZAU (r:=x) ag38 sz38 rfl hxs1 hs fun y18 hy18=> ?_
 obtain⟨r_7,hx12,h⟩:=bs h;refine ZAj (f:=fun a:FsR×ZAD×Unit=>ZDC a.1 a.2.1) (a:=(own1,x,())) rfl func23 rfl rfl (.cons (a:=own1) hy17 (.cons (a:=x) hy18 .nil)) hs (lM _ (lM _ (lM _ (lM _ (lM _ (lM _ (lM _ List.mem_cons_self))))))) hx12<|ZAE (v:=res r_7) rfl<|ZAp rfl rfl<|ZAp rfl rfl<|ZAx (r:=(Rec.mk (([]:(List ZAD)),(0:Int),()):FsR)) zr24 zf24 hs fun m8 s hs=>ZAe (r:=r_7.1) sz24 rfl rfl zf24 (Enc.self r_7.1) hs fun xs12 s hxs12 hs=>ZAG rfl<|ZAA<|ZAB<|ZAC ?_
 replace hs:=Hp.front [(.cells m8 xs12),(.cells m1 xs1),(.cells m2 xs_own1),(.cells m7 xs11),(.cells m6 xs10),(.cells m5 xs9)] (b:=[(.cells m xs),(.gl (NG mx)), .own o_own1]) hs;refine ZAU (r:=r_3.1) ag24 sz24 rfl hxs8 hs fun y19 hy19=> ?_
 obtain⟨r_8,hx13,h⟩:=bs h;refine ZAj (f:=fun a:FsR×Unit=>ZAW a.1) (a:=(r_3.1,())) rfl func25 rfl rfl (.cons (a:=r_3.1) hy19 .nil) hs (lM _ (lM _ (lM _ (lM _ (lM _ (lM _ (lM _ (lM _ List.mem_cons_self)))))))) hx13<|ZAE rfl ?_
 obtain⟨b2,hb_b2,h⟩:=bs h;refine ZAX 3 (fun φ s=>Hp s [(.cells m4 xs8),(.cells m8 xs12),(.cells m1 xs1),(.cells m2 xs_own1),(.cells m7 xs11),(.cells m6 xs10),(.cells m5 xs9),(.cells m xs),(.gl (NG mx)), .own o_own1]∧Fx φ [(6,(.ptr m 0)),(13,(.ptr m2 0)),(21,(.ptr m6 0)),(24,(.ptr m7 0)),(26,(.ptr m8 0)),(120,(enc b2))]) ?_ ?_
 ·split at hb_b2
  ·rename_i cg4;refine ZAJ rfl rfl cg4 ?_
   replace hs:=Hp.front [(.cells m4 xs8),(.cells m8 xs12),(.cells m1 xs1),(.cells m2 xs_own1),(.cells m7 xs11),(.cells m6 xs10)] (b:=[(.cells m xs),(.gl (NG mx)), .own o_own1]) hs;refine ZAU (r:=r_4.1) ag24 sz24 rfl hxs9 hs fun y20 hy20=>ZAJ rfl rfl cg4 ?_
   obtain⟨r_9,hx14,hb_b2⟩:=bs hb_b2;refine ZAj (f:=fun a:FsR×Unit=>ZAW a.1) (a:=(r_4.1,())) rfl func25 rfl rfl (.cons (a:=r_4.1) hy20 .nil) hs (lM _ (lM _ (lM _ (lM _ (lM _ (lM _ (lM _ (lM _ List.mem_cons_self)))))))) hx14<|ZAl rfl cg4 rfl<|ZAA ?_
   rw[←oi hb_b2];exact⟨(Hp.front [(.cells m8 xs12),(.cells m1 xs1),(.cells m2 xs_own1),(.cells m7 xs11),(.cells m6 xs10),(.cells m5 xs9),(.cells m xs),(.gl (NG mx)), .own o_own1] (b:=[]) (Hp.front [(.cells m1 xs1),(.cells m2 xs_own1),(.cells m7 xs11),(.cells m6 xs10),(.cells m5 xs9),(.cells m xs),(.gl (NG mx)), .own o_own1,(.cells m4 xs8)] (b:=[]) (Hp.front [(.cells m2 xs_own1),(.cells m7 xs11),(.cells m6 xs10),(.cells m5 xs9),(.cells m xs),(.gl (NG mx)), .own o_own1,(.cells m4 xs8),(.cells m8 xs12)] (b:=[]) (Hp.front [(.cells m7 xs11),(.cells m6 xs10),(.cells m5 xs9),(.cells m xs),(.gl (NG mx)), .own o_own1,(.cells m4 xs8),(.cells m8 xs12),(.cells m1 xs1)] (b:=[]) (Hp.front [(.cells m6 xs10),(.cells m5 xs9),(.cells m xs),(.gl (NG mx)), .own o_own1,(.cells m4 xs8),(.cells m8 xs12),(.cells m1 xs1),(.cells m2 xs_own1)] (b:=[]) (Hp.front [(.cells m5 xs9),(.cells m xs),(.gl (NG mx)), .own o_own1,(.cells m4 xs8),(.cells m8 xs12),(.cells m1 xs1),(.cells m2 xs_own1),(.cells m7 xs11)] (b:=[]) (Hp.front [(.cells m xs),(.gl (NG mx)), .own o_own1] (b:=[(.cells m4 xs8),(.cells m8 xs12),(.cells m1 xs1),(.cells m2 xs_own1),(.cells m7 xs11),(.cells m6 xs10)]) (Hp.front [(.gl (NG mx)), .own o_own1,(.cells m5 xs9),(.cells m4 xs8),(.cells m8 xs12),(.cells m1 xs1),(.cells m2 xs_own1),(.cells m7 xs11),(.cells m6 xs10)] (b:=[]) (Hp.front [.own o_own1,(.cells m5 xs9),(.cells m4 xs8),(.cells m8 xs12),(.cells m1 xs1),(.cells m2 xs_own1),(.cells m7 xs11),(.cells m6 xs10),(.cells m xs)] (b:=[]) (Hp.front [(.cells m5 xs9),(.cells m4 xs8),(.cells m8 xs12),(.cells m1 xs1),(.cells m2 xs_own1),(.cells m7 xs11),(.cells m6 xs10),(.cells m xs),(.gl (NG mx))] (b:=[]) hs)))))))))),FxR rfl⟩
  rename_i cg5;refine ZAF rfl rfl cg5<|ZAF rfl rfl cg5<|ZAi (v:=enc false) rfl cg5 rfl<|ZAA ?_
  rw[←oi hb_b2];exact⟨hs,FxR rfl⟩
 rintro φ s ⟨hs,hF⟩;rw[←hF.eq];refine ZAE rfl ?_
 obtain⟨b3,hb_b3,h⟩:=bs h;refine ZAX 3 (fun φ s=>Hp s [(.cells m4 xs8),(.cells m8 xs12),(.cells m1 xs1),(.cells m2 xs_own1),(.cells m7 xs11),(.cells m6 xs10),(.cells m5 xs9),(.cells m xs),(.gl (NG mx)), .own o_own1]∧Fx φ [(6,(.ptr m 0)),(13,(.ptr m2 0)),(24,(.ptr m7 0)),(26,(.ptr m8 0)),(124,(enc b3))]) ?_ ?_
 ·split at hb_b3
  ·rename_i cg6;refine ZAJ rfl rfl cg6 ?_
   replace hs:=Hp.front [(.cells m4 xs8),(.cells m8 xs12),(.cells m1 xs1),(.cells m2 xs_own1),(.cells m7 xs11)] (b:=[(.cells m5 xs9),(.cells m xs),(.gl (NG mx)), .own o_own1]) hs;refine ZAU (r:=r_5.1) ag24 sz24 rfl hxs10 hs fun y21 hy21=>ZAJ rfl rfl cg6 ?_
   obtain⟨r_10,hx15,hb_b3⟩:=bs hb_b3;refine ZAj (f:=fun a:FsR×Unit=>ZAW a.1) (a:=(r_5.1,())) rfl func25 rfl rfl (.cons (a:=r_5.1) hy21 .nil) hs (lM _ (lM _ (lM _ (lM _ (lM _ (lM _ (lM _ (lM _ List.mem_cons_self)))))))) hx15<|ZAl rfl cg6 rfl<|ZAA ?_
   rw[←oi hb_b3];exact⟨(Hp.front [(.cells m8 xs12),(.cells m1 xs1),(.cells m2 xs_own1),(.cells m7 xs11),(.cells m6 xs10),(.cells m5 xs9),(.cells m xs),(.gl (NG mx)), .own o_own1] (b:=[]) (Hp.front [(.cells m1 xs1),(.cells m2 xs_own1),(.cells m7 xs11),(.cells m6 xs10),(.cells m5 xs9),(.cells m xs),(.gl (NG mx)), .own o_own1,(.cells m4 xs8)] (b:=[]) (Hp.front [(.cells m2 xs_own1),(.cells m7 xs11),(.cells m6 xs10),(.cells m5 xs9),(.cells m xs),(.gl (NG mx)), .own o_own1,(.cells m4 xs8),(.cells m8 xs12)] (b:=[]) (Hp.front [(.cells m7 xs11),(.cells m6 xs10),(.cells m5 xs9),(.cells m xs),(.gl (NG mx)), .own o_own1,(.cells m4 xs8),(.cells m8 xs12),(.cells m1 xs1)] (b:=[]) (Hp.front [(.cells m6 xs10),(.cells m5 xs9),(.cells m xs),(.gl (NG mx)), .own o_own1,(.cells m4 xs8),(.cells m8 xs12),(.cells m1 xs1),(.cells m2 xs_own1)] (b:=[]) (Hp.front [(.cells m5 xs9),(.cells m xs),(.gl (NG mx)), .own o_own1] (b:=[(.cells m4 xs8),(.cells m8 xs12),(.cells m1 xs1),(.cells m2 xs_own1),(.cells m7 xs11)]) (Hp.front [(.cells m xs),(.gl (NG mx)), .own o_own1,(.cells m6 xs10),(.cells m4 xs8),(.cells m8 xs12),(.cells m1 xs1),(.cells m2 xs_own1),(.cells m7 xs11)] (b:=[]) (Hp.front [(.gl (NG mx)), .own o_own1,(.cells m6 xs10),(.cells m4 xs8),(.cells m8 xs12),(.cells m1 xs1),(.cells m2 xs_own1),(.cells m7 xs11),(.cells m5 xs9)] (b:=[]) (Hp.front [.own o_own1,(.cells m6 xs10),(.cells m4 xs8),(.cells m8 xs12),(.cells m1 xs1),(.cells m2 xs_own1),(.cells m7 xs11),(.cells m5 xs9),(.cells m xs)] (b:=[]) (Hp.front [(.cells m6 xs10),(.cells m4 xs8),(.cells m8 xs12),(.cells m1 xs1),(.cells m2 xs_own1),(.cells m7 xs11),(.cells m5 xs9),(.cells m xs),(.gl (NG mx))] (b:=[]) hs)))))))))),FxR rfl⟩
  rename_i cg7;refine ZAF rfl rfl cg7<|ZAF rfl rfl cg7<|ZAi (v:=enc false) rfl cg7 rfl<|ZAA ?_
  rw[←oi hb_b3];exact⟨hs,FxR rfl⟩
 rintro φ s ⟨hs,hF⟩;rw[←hF.eq];refine ZAE rfl ?_
 obtain⟨b4,hb_b4,h⟩:=bs h;refine ZAX 3 (fun φ s=>Hp s [(.cells m4 xs8),(.cells m8 xs12),(.cells m1 xs1),(.cells m2 xs_own1),(.cells m7 xs11),(.cells m6 xs10),(.cells m5 xs9),(.cells m xs),(.gl (NG mx)), .own o_own1]∧Fx φ [(6,(.ptr m 0)),(13,(.ptr m2 0)),(26,(.ptr m8 0)),(128,(enc b4))]) ?_ ?_
 ·split at hb_b4
  ·rename_i cg8;refine ZAJ rfl rfl cg8 ?_
   replace hs:=Hp.front [(.cells m4 xs8),(.cells m8 xs12),(.cells m1 xs1),(.cells m2 xs_own1)] (b:=[(.cells m6 xs10),(.cells m5 xs9),(.cells m xs),(.gl (NG mx)), .own o_own1]) hs;refine ZAU (r:=r_6.1) ag24 sz24 rfl hxs11 hs fun y22 hy22=>ZAJ rfl rfl cg8 ?_
   obtain⟨r_11,hx16,hb_b4⟩:=bs hb_b4;refine ZAj (f:=fun a:FsR×Unit=>ZAW a.1) (a:=(r_6.1,())) rfl func25 rfl rfl (.cons (a:=r_6.1) hy22 .nil) hs (lM _ (lM _ (lM _ (lM _ (lM _ (lM _ (lM _ (lM _ List.mem_cons_self)))))))) hx16<|ZAl rfl cg8 rfl<|ZAA ?_
   rw[←oi hb_b4];exact⟨(Hp.front [(.cells m8 xs12),(.cells m1 xs1),(.cells m2 xs_own1),(.cells m7 xs11),(.cells m6 xs10),(.cells m5 xs9),(.cells m xs),(.gl (NG mx)), .own o_own1] (b:=[]) (Hp.front [(.cells m1 xs1),(.cells m2 xs_own1),(.cells m7 xs11),(.cells m6 xs10),(.cells m5 xs9),(.cells m xs),(.gl (NG mx)), .own o_own1,(.cells m4 xs8)] (b:=[]) (Hp.front [(.cells m2 xs_own1),(.cells m7 xs11),(.cells m6 xs10),(.cells m5 xs9),(.cells m xs),(.gl (NG mx)), .own o_own1,(.cells m4 xs8),(.cells m8 xs12)] (b:=[]) (Hp.front [(.cells m7 xs11),(.cells m6 xs10),(.cells m5 xs9),(.cells m xs),(.gl (NG mx)), .own o_own1,(.cells m4 xs8),(.cells m8 xs12),(.cells m1 xs1)] (b:=[]) (Hp.front [(.cells m6 xs10),(.cells m5 xs9),(.cells m xs),(.gl (NG mx)), .own o_own1] (b:=[(.cells m4 xs8),(.cells m8 xs12),(.cells m1 xs1),(.cells m2 xs_own1)]) (Hp.front [(.cells m5 xs9),(.cells m xs),(.gl (NG mx)), .own o_own1,(.cells m7 xs11),(.cells m4 xs8),(.cells m8 xs12),(.cells m1 xs1),(.cells m2 xs_own1)] (b:=[]) (Hp.front [(.cells m xs),(.gl (NG mx)), .own o_own1,(.cells m7 xs11),(.cells m4 xs8),(.cells m8 xs12),(.cells m1 xs1),(.cells m2 xs_own1),(.cells m6 xs10)] (b:=[]) (Hp.front [(.gl (NG mx)), .own o_own1,(.cells m7 xs11),(.cells m4 xs8),(.cells m8 xs12),(.cells m1 xs1),(.cells m2 xs_own1),(.cells m6 xs10),(.cells m5 xs9)] (b:=[]) (Hp.front [.own o_own1,(.cells m7 xs11),(.cells m4 xs8),(.cells m8 xs12),(.cells m1 xs1),(.cells m2 xs_own1),(.cells m6 xs10),(.cells m5 xs9),(.cells m xs)] (b:=[]) (Hp.front [(.cells m7 xs11),(.cells m4 xs8),(.cells m8 xs12),(.cells m1 xs1),(.cells m2 xs_own1),(.cells m6 xs10),(.cells m5 xs9),(.cells m xs),(.gl (NG mx))] (b:=[]) hs)))))))))),FxR rfl⟩
  rename_i cg9;refine ZAF rfl rfl cg9<|ZAF rfl rfl cg9<|ZAi (v:=enc false) rfl cg9 rfl<|ZAA ?_
  rw[←oi hb_b4];exact⟨hs,FxR rfl⟩
 rintro φ s ⟨hs,hF⟩;rw[←hF.eq];refine ZAE rfl ?_
 obtain⟨b5,hb_b5,h⟩:=bs h;refine ZAX 3 (fun φ s=>Hp s [(.cells m4 xs8),(.cells m8 xs12),(.cells m1 xs1),(.cells m2 xs_own1),(.cells m7 xs11),(.cells m6 xs10),(.cells m5 xs9),(.cells m xs),(.gl (NG mx)), .own o_own1]∧Fx φ [(6,(.ptr m 0)),(13,(.ptr m2 0)),(132,(enc b5))]) ?_ ?_
 ·split at hb_b5
  ·rename_i cg10;refine ZAJ rfl rfl cg10 ?_
   replace hs:=Hp.front [(.cells m4 xs8)] (b:=[(.cells m1 xs1),(.cells m2 xs_own1),(.cells m7 xs11),(.cells m6 xs10),(.cells m5 xs9),(.cells m xs),(.gl (NG mx)), .own o_own1]) hs;refine ZAU (r:=r_7.1) ag24 sz24 rfl hxs12 hs fun y23 hy23=>ZAJ rfl rfl cg10 ?_
   obtain⟨r_12,hx17,hb_b5⟩:=bs hb_b5;refine ZAj (f:=fun a:FsR×Unit=>ZAW a.1) (a:=(r_7.1,())) rfl func25 rfl rfl (.cons (a:=r_7.1) hy23 .nil) hs (lM _ (lM _ (lM _ (lM _ (lM _ (lM _ (lM _ (lM _ List.mem_cons_self)))))))) hx17<|ZAl rfl cg10 rfl<|ZAA ?_
   rw[←oi hb_b5];exact⟨(Hp.front [(.cells m8 xs12),(.cells m1 xs1),(.cells m2 xs_own1),(.cells m7 xs11),(.cells m6 xs10),(.cells m5 xs9),(.cells m xs),(.gl (NG mx)), .own o_own1] (b:=[]) (Hp.front [(.cells m1 xs1),(.cells m2 xs_own1),(.cells m7 xs11),(.cells m6 xs10),(.cells m5 xs9),(.cells m xs),(.gl (NG mx)), .own o_own1] (b:=[(.cells m4 xs8)]) (Hp.front [(.cells m2 xs_own1),(.cells m7 xs11),(.cells m6 xs10),(.cells m5 xs9),(.cells m xs),(.gl (NG mx)), .own o_own1,(.cells m8 xs12),(.cells m4 xs8)] (b:=[]) (Hp.front [(.cells m7 xs11),(.cells m6 xs10),(.cells m5 xs9),(.cells m xs),(.gl (NG mx)), .own o_own1,(.cells m8 xs12),(.cells m4 xs8),(.cells m1 xs1)] (b:=[]) (Hp.front [(.cells m6 xs10),(.cells m5 xs9),(.cells m xs),(.gl (NG mx)), .own o_own1,(.cells m8 xs12),(.cells m4 xs8),(.cells m1 xs1),(.cells m2 xs_own1)] (b:=[]) (Hp.front [(.cells m5 xs9),(.cells m xs),(.gl (NG mx)), .own o_own1,(.cells m8 xs12),(.cells m4 xs8),(.cells m1 xs1),(.cells m2 xs_own1),(.cells m7 xs11)] (b:=[]) (Hp.front [(.cells m xs),(.gl (NG mx)), .own o_own1,(.cells m8 xs12),(.cells m4 xs8),(.cells m1 xs1),(.cells m2 xs_own1),(.cells m7 xs11),(.cells m6 xs10)] (b:=[]) (Hp.front [(.gl (NG mx)), .own o_own1,(.cells m8 xs12),(.cells m4 xs8),(.cells m1 xs1),(.cells m2 xs_own1),(.cells m7 xs11),(.cells m6 xs10),(.cells m5 xs9)] (b:=[]) (Hp.front [.own o_own1,(.cells m8 xs12),(.cells m4 xs8),(.cells m1 xs1),(.cells m2 xs_own1),(.cells m7 xs11),(.cells m6 xs10),(.cells m5 xs9),(.cells m xs)] (b:=[]) (Hp.front [(.cells m8 xs12),(.cells m4 xs8),(.cells m1 xs1),(.cells m2 xs_own1),(.cells m7 xs11),(.cells m6 xs10),(.cells m5 xs9),(.cells m xs),(.gl (NG mx))] (b:=[]) hs)))))))))),FxR rfl⟩
  rename_i cg11;refine ZAF rfl rfl cg11<|ZAF rfl rfl cg11<|ZAi (v:=enc false) rfl cg11 rfl<|ZAA ?_
  rw[←oi hb_b5];exact⟨hs,FxR rfl⟩
 rintro φ s ⟨hs,hF⟩;rw[←hF.eq];refine ZAE rfl ?_
 obtain⟨b6,hb_b6,h⟩:=bs h;refine ZAX 4 (fun φ s=>Hp s [(.cells m4 xs8),(.cells m8 xs12),(.cells m1 xs1),(.cells m2 xs_own1),(.cells m7 xs11),(.cells m6 xs10),(.cells m5 xs9),(.cells m xs),(.gl (NG mx)), .own o_own1]∧Fx φ [(137,(enc b6))]) ?_ ?_
 ·split at hb_b6
  ·rename_i cg12;refine ZAJ rfl rfl cg12 ?_
   replace hs:=Hp.front [(.cells m4 xs8),(.cells m8 xs12),(.cells m1 xs1)] (b:=[(.cells m7 xs11),(.cells m6 xs10),(.cells m5 xs9),(.cells m xs),(.gl (NG mx)), .own o_own1]) hs;refine ZAU (r:=own1) ag24 sz24 rfl hxs_own1 hs fun y24 hy24=>ZAJ rfl rfl cg12 ?_
   replace hs:=Hp.front [(.cells m2 xs_own1),(.cells m4 xs8),(.cells m8 xs12),(.cells m1 xs1),(.cells m7 xs11),(.cells m6 xs10),(.cells m5 xs9)] (b:=[(.gl (NG mx)), .own o_own1]) hs;refine ZAU (r:=f) ag24 sz24 rfl hxs hs fun y25 hy25=>ZAJ rfl rfl cg12 ?_
   obtain⟨r_13,hx18,hb_b6⟩:=bs hb_b6;refine ZBJ (f:=fun a:FsR×FsR×Unit=>ZD1 a.1 a.2.1) (a:=(own1,f,())) rfl func12 rfl rfl (.cons (a:=own1) hy24 (.cons (a:=f) hy25 .nil)) hx18<|ZAl rfl cg12 rfl<|ZAA ?_
   rw[←oi hb_b6];exact⟨(Hp.front [(.cells m8 xs12),(.cells m1 xs1),(.cells m2 xs_own1),(.cells m7 xs11),(.cells m6 xs10),(.cells m5 xs9),(.cells m xs),(.gl (NG mx)), .own o_own1] (b:=[]) (Hp.front [(.cells m1 xs1),(.cells m2 xs_own1),(.cells m7 xs11),(.cells m6 xs10),(.cells m5 xs9),(.cells m xs),(.gl (NG mx)), .own o_own1,(.cells m4 xs8)] (b:=[]) (Hp.front [(.cells m2 xs_own1),(.cells m7 xs11),(.cells m6 xs10),(.cells m5 xs9),(.cells m xs),(.gl (NG mx)), .own o_own1,(.cells m4 xs8),(.cells m8 xs12)] (b:=[]) (Hp.front [(.cells m7 xs11),(.cells m6 xs10),(.cells m5 xs9),(.cells m xs),(.gl (NG mx)), .own o_own1] (b:=[(.cells m4 xs8),(.cells m8 xs12),(.cells m1 xs1)]) (Hp.front [(.cells m6 xs10),(.cells m5 xs9),(.cells m xs),(.gl (NG mx)), .own o_own1,(.cells m2 xs_own1),(.cells m4 xs8),(.cells m8 xs12),(.cells m1 xs1)] (b:=[]) (Hp.front [(.cells m5 xs9),(.cells m xs),(.gl (NG mx)), .own o_own1,(.cells m2 xs_own1),(.cells m4 xs8),(.cells m8 xs12),(.cells m1 xs1),(.cells m7 xs11)] (b:=[]) (Hp.front [(.cells m xs),(.gl (NG mx)), .own o_own1,(.cells m2 xs_own1),(.cells m4 xs8),(.cells m8 xs12),(.cells m1 xs1),(.cells m7 xs11),(.cells m6 xs10)] (b:=[]) (Hp.front [(.gl (NG mx)), .own o_own1] (b:=[(.cells m2 xs_own1),(.cells m4 xs8),(.cells m8 xs12),(.cells m1 xs1),(.cells m7 xs11),(.cells m6 xs10),(.cells m5 xs9)]) (Hp.front [.own o_own1,(.cells m xs),(.cells m2 xs_own1),(.cells m4 xs8),(.cells m8 xs12),(.cells m1 xs1),(.cells m7 xs11),(.cells m6 xs10),(.cells m5 xs9)] (b:=[]) (Hp.front [(.cells m xs),(.cells m2 xs_own1),(.cells m4 xs8),(.cells m8 xs12),(.cells m1 xs1),(.cells m7 xs11),(.cells m6 xs10),(.cells m5 xs9),(.gl (NG mx))] (b:=[]) hs)))))))))),FxR rfl⟩
  rename_i cg13;refine ZAF rfl rfl cg13<|ZAF rfl rfl cg13<|ZAF rfl rfl cg13<|ZAi (v:=enc false) rfl cg13 rfl<|ZAA ?_
  rw[←oi hb_b6];exact⟨hs,FxR rfl⟩
 rintro φ s ⟨hs,hF⟩;rw[←hF.eq];refine ZAE rfl ?_
 obtain⟨b7,hb_b7,h⟩:=bs h;refine ZAX 2 (fun φ s=>Hp s [(.cells m4 xs8),(.cells m8 xs12),(.cells m1 xs1),(.cells m2 xs_own1),(.cells m7 xs11),(.cells m6 xs10),(.cells m5 xs9),(.cells m xs),(.gl (NG mx)), .own o_own1]∧Fx φ [(140,(enc b7))]) ?_ ?_
 ·split at hb_b7
  ·rename_i cg14;refine ZAJ rfl rfl cg14 ?_
   obtain⟨r_14,hx19,hb_b7⟩:=bs hb_b7;refine ZAj (f:=fun a:Unit=>ZBs) (a:=()) rfl func10 rfl rfl .nil hs (lM _ (lM _ (lM _ (lM _ (lM _ (lM _ (lM _ (lM _ List.mem_cons_self)))))))) hx19<|ZAl rfl cg14 rfl<|ZAA ?_
   rw[←oi hb_b7];exact⟨hs,FxR rfl⟩
  rename_i cg15;refine ZAF rfl rfl cg15<|ZAi (v:=enc false) rfl cg15 rfl<|ZAA ?_
  rw[←oi hb_b7];exact⟨hs,FxR rfl⟩
 rintro φ s ⟨hs,hF⟩;rw[←hF.eq];refine ZAG rfl<|ZAA<|ZAN ?_
 rw[←oi h];exact⟨rfl,KE1 (a:=b7) rfl rfl (rfl:is _ b7) (rfl:is _ b7)⟩
theorem ZLW (mx:Int):ZAv Tryz.prog 8 (FnG (NG mx) (fun a:FsR×Int×Str×Int×Int×ZAD×Unit=>ZEY a.1 a.2.1 a.2.2.1 a.2.2.2.1 a.2.2.2.2.1 a.2.2.2.2.2.1)):=fnCG (ZSs mx) ⟨_,func8,rfl⟩<|fun a r h=>ZLV mx a.1 a.2.1 a.2.2.1 a.2.2.2.1 a.2.2.2.2.1 a.2.2.2.2.2.1 r h
end Go.Ai.Rab
end
section
open Go.Ai.Enc (enc is)
open Go.Ai.Res (res ris)
open Go.Ai.Args (args)
namespace Go.Ai
theorem ZR3 {α:Type} (l:List α) (i:Nat):nth l (i:Int)=l[i]? :=by simp[nth]
theorem ZBk {α:Type} {l:List α} {i:Nat} (h:i<l.length):nth l (i:Int)=some l[i]:=by rw[ZR3,List.getElem?_eq_getElem h]
theorem ZD4 {α:Type} {z:Nat} (l m:List α) (h:l.length+m.length≤137438953472) (h' :(l.length+m.length)*z≤137438953472):app z l m=some (l++m):=by
 unfold app ZEF;rw[if_pos (by simp[h,h'])]
theorem ZSt {α:Type} {z:α} {by_ n:Nat} (h:n≤137438953472) (h' :n*by_≤137438953472):mkz by_ (n:Int) z=some (List.replicate n z):=by
 unfold mkz ZEF;rw[if_pos (by simp[h,h'])];simp
theorem ZFl {ρ:Type} {body:Int→Option (Int ⊕ (Unit ⊕ ρ))} (n:Nat) (p:Nat→Bool) (r:ρ) (h:∀i:Nat,i<n→body i=if p i then some (.inl ((i+1:Nat):Int)) else some (.inr (.inr r))) (hn:body n=some (.inr (.inl ()))):
  ∀i:Nat,i≤n→loop body i=some (if(List.range' i (n - i)).all p then .inl () else .inr r):=by
 intro i hi;obtain⟨d,rfl⟩:∃d,n=i+d:=⟨n - i,by omega⟩
 clear hi
 induction d generalizing i with
 | zero=>simp only[Nat.add_zero,Nat.sub_self,List.range'_zero,List.all_nil,if_true];exact ZAt hn
 | succ d ih=>
  have e:i+(d+1) - i=d+1:=by omega
  rw[e,List.range'_succ,List.all_cons];have h1:=h i (by omega)
  by_cases hp:p i=true
  ·rw[if_pos hp] at h1;rw[ZBY h1,show i+(d+1)=(i+1)+d by omega] at*
   have:=ih (i+1) (fun j hj=>h j (by omega)) hn
   rw[show i+1+d - (i+1)=d by omega] at this
   rw[this,hp,Bool.true_and]
  rw[if_neg hp] at h1;have hp' :p i=false:=by simpa using hp
  rw[ZAt h1,hp',Bool.false_and];rfl
theorem ZDE {n:Nat} {p:Nat→Bool}:(List.range' 0 n).all p=true↔∀i,i<n→p i=true:=by
 simp[List.all_eq_true,List.mem_range'_1]
end Go.Ai
end
