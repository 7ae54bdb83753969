/- My own texts DevWr4, one behind the other. -/
import Derived.Test.YtjaopinmnpekiaaGreatDoorWAS
import Derived.Test.YtjaopinmnpekiaaGreatDoorWAQ
import Derived.Test.YtjaopinmnpekiaaGreatDoorWAT
import Derived.WalkKit
import Derived.ProofKit
import Derived.OpenShut
import Derived.ShutString
import Derived.ChangeOld
import Derived.Below
import Derived.SizedLaws
import Derived.SliceStrings
import Derived.Deep.DeepHandedRow
import Derived.Lay
import Derived.MakeChecks
import Derived.SevenTiedAt
set_option linter.unusedVariables false
set_option linter.unusedSimpArgs false
namespace Go.Proofs.YtjaopinmnpekiaaGreatDoor.walkLeadsUpto
open Go.ChangeShapes Go.WideShapes Go.ChangeAt Go.RowKit
open Go.ChangeMaps (open_string shut_string)
theorem own:ownKnob Tryz.prog.godebug=none:=by kernel_rfl
theorem ZVy:laidOutB Tryz.prog=true:=by kernel_rfl
theorem ZTj (os:Os):laidMetH Tryz.prog Ai.Rab.laidN ((Ai.Rab.LW os).forCall (fun _ _=>0) ⟨#[], #[.agg #[.slice none 0 0, .int .i64 0], .string ByteArray.empty, .bool false, .int .i64 0, .int .i64 0],[]⟩).memory:=by
 exact Ai.Rab.ZXc os _
theorem reads (os:Os) {H:Type} (enc:TypeId×Value→H):∃places,DataW.whole enc Tryz.prog ((Ai.Rab.LW os).forCall (fun _ _=>0) ⟨#[], #[.agg #[.slice none 0 0, .int .i64 0], .string ByteArray.empty, .bool false, .int .i64 0, .int .i64 0],[]⟩).memory Tryz.f4.params.toList Rows.walkLeadsSpec.vars false (#[.agg #[.slice none 0 0, .int .i64 0], .string ByteArray.empty, .bool false, .int .i64 0, .int .i64 0]:Array Value).toList 8=some ([.agg [.nil, .lit (.int .i64 0)], .lit (.string []), .lit (.bool false), .lit (.int .i64 0), .lit (.int .i64 0)],[],places):=
 ⟨[],by kernel_rfl⟩
set_option maxRecDepth 100000 in
theorem ZXI (os:Os) (started:os.Started) (H:Type) (enc:TypeId×Value→H) (F:Stop.Interp):
  ReturnsInHanded {} Tryz.checked os 4 .any ((Rows.OpenSpec.upto Rows.walkLeadsSpec).preRow enc Tryz.prog Tryz.f4 Rows.walkLeadsUptoRow.domain false Rows.walkLeadsUptoRow.laid) (((Rows.OpenSpec.upto Rows.walkLeadsSpec).at F).post enc Tryz.prog Tryz.f4 false true false false):=by
 obtain⟨places,hx⟩:=reads os enc;refine returnsInHanded_of_row (C:=Tryz.checked) (s:=(Rows.OpenSpec.upto Rows.walkLeadsSpec)) own started (by kernel_rfl) Tryz.func4
  (witness_row_at (enc:=enc) (C:=Tryz.checked) false (Ai.Rab.LW os) #[.agg #[.slice none 0 0, .int .i64 0], .string ByteArray.empty, .bool false, .int .i64 0, .int .i64 0] (Ai.Rab.ZXb _) (by kernel_rfl) (by kernel_rfl) (by kernel_rfl)
   (OpenSpec.preRow_of_cond 8 hx (by kernel_rfl) (fun k hk=>by cases hk;kernel_rfl) (by kernel_rfl) (ZTj os))) ?_
 intro W base args ds gs before hval0 hW _ hcond hsz0 hL hsh _;obtain⟨mx,hG⟩:=Ai.Rab.ZXa hL hsh;have hsz:(DataW.weightsEach Tryz.prog (Tryz.f4.params.toList++Rows.walkLeadsSpec.plain.varTypes Tryz.prog) (ds++gs)).all (·≤reachBytes)=true:=hsz0
 have hval:∀(j:Nat) t v,Tryz.f4.params[j]? =some t→args[j]? =some v→Value.okWide Tryz.prog W .any base t v:=hval0
 have hW' :DataW.Whole enc Tryz.prog Tryz.f4.params.toList Rows.walkLeadsSpec.vars false W args.toList ds gs before:=hW
 obtain⟨p,q,hA0,hV,rfl,hfz,hnd⟩:=hW;have hA:DataW.TrodAll enc Tryz.prog W 0 (fun _=>true) true Tryz.f4.params.toList args.toList ds p:=hA0
 rw[Tryz.params4] at hA hval hsz;obtain⟨v0,vs0,d0,ds0,p0,q0,hargs,rfl,rfl,h0,r0⟩:=trodAll_cons hA;obtain⟨v1,vs1,d1,ds1,p1,q1,rfl,rfl,rfl,h1,r1⟩:=trodAll_cons r0;obtain⟨v2,vs2,d2,ds2,p2,q2,rfl,rfl,rfl,h2,r2⟩:=trodAll_cons r1;obtain⟨v3,vs3,d3,ds3,p3,q3,rfl,rfl,rfl,h3,r3⟩:=trodAll_cons r2;obtain⟨v4,vs4,d4,ds4,p4,q4,rfl,rfl,rfl,h4,r4⟩:=trodAll_cons r3;obtain⟨rfl,rfl,rfl⟩:=trodAll_nil r4;obtain rfl:args= #[v0,v1,v2,v3,v4]:=by cases args;simp_all
 obtain⟨rfl,rfl⟩:=trodVars_none hV;have k0:=h0;have lt0:∀x∈p0,x.block<W.heap.size:=by obtain⟨m,hm⟩:=k0;exact DataW.trod_lt m _ _ _ hm
 obtain⟨a0,rel0,w0⟩:=Ai.Rab.ZTN Ai.Rab.rdFs (fun r=>(by decide:(2:Nat)≠1)) h0
 obtain⟨a1,rfl,rfl,rfl,y1⟩:=open_string Tryz.underlying9 (hval 1 9 v1 rfl rfl) h1;obtain⟨a2,rfl,rfl,rfl⟩:=open_bool Tryz.underlying4 (hval 2 4 v2 rfl rfl) h2;obtain⟨a3,rfl,rfl,rfl,w3⟩:=open_int Tryz.underlying3 (hval 3 3 v3 rfl rfl) h3;obtain⟨a4,rfl,rfl,rfl,w4⟩:=open_int Tryz.underlying3 (hval 4 3 v4 rfl rfl) h4;have hb:=of_decide_eq_true (hcond _ rfl);simp only[List.cons_append,List.nil_append,List.append_nil,Rows.uptoBulkAll,Rows.uptoBulk] at hb;have s0:=Ai.Rab.ZR8 (f:=a0) (by omega)
 have b1:a1.data.toList.length≤1048576:=by omega
 have t0:=Ai.Rab.ZVs (f:=a0) (by omega)
 clear hA0 hval0 hsz0 hsz
 simp only[List.append_nil] at hW';have law:Ai.Rab.ZFG a0 (Ai.str a1.data.toList) a2 a3 a4=some true:=Ai.Rab.ZTi s0 t0 _ _ _ _
 refine((Ai.Rab.ZM9 mx).2 (Ai.Rab.NG mx) [Ai.Enc.enc a0,Ai.Enc.enc (Ai.str a1.data.toList),Ai.Enc.enc a2,Ai.Enc.enc a3,Ai.Enc.enc a4] (.bool true) (Ai.ZTq (a:=(a0,(Ai.str a1.data.toList),a2,a3,a4,())) law) W Ai.ZFv _ (fun b j h=>h.elim) hG (Ai.ZCp rel0 (Ai.ZCp Ai.ZQr (Ai.ZCp Ai.ZSi (Ai.ZCp Ai.ZJB (Ai.ZCp Ai.ZJB Ai.ZHP)))))).mono fun e W' he=> ?_
 obtain⟨v',rfl,hv',bel⟩:=he;obtain rfl:=Ai.ZMG hv';exact⟨_,rfl,_,_,_,[],_,[],hW',trodAll_mk1 (shut_bool Tryz.underlying4 _),(trodAll_cons_mk (Below.trod ZVy (by kernel_rfl) (of_decide_eq_true (by kernel_rfl)) k0 bel lt0) (trodAll_cons_mk (shut_string Tryz.underlying9 y1) (trodAll_cons_mk (shut_bool Tryz.underlying4 _) (trodAll_cons_mk (shut_int Tryz.underlying3 w3) (trodAll_cons_mk (shut_int Tryz.underlying3 w4) trodAll_mk0))))),rfl,bel.frame _,fun h=>by cases h⟩
theorem said:Rows.WalkLeadsUptoSaid:=
 OpenClaim.holds_of_cond 4 Tryz.f4 rfl rfl rfl rfl rfl rfl rfl ⟨rfl,rfl,rfl,rfl,rfl⟩ rfl rfl rfl rfl rfl (by kernel_rfl) Tryz.func4 (by kernel_rfl)
  (of_decide_eq_true (by kernel_rfl)) (by unfold Func.isWrapper;first | (rw[if_pos (by decide+kernel)];kernel_rfl) | (rw[if_neg (by decide+kernel)];exact⟨rfl,rfl⟩))
  (fun os started H enc _ F=>by rw[OpenClaim.pre_eq_preRow];exact ZXI os started H enc F)
theorem plain (f:FuncId) (fn:Func) (hf:Tryz.pinned.checked.prog.funcNamed "palimpsest/palimpsestlaw18.WalkLeads" =some f) (hfn:Tryz.pinned.checked.prog.funcs[f]? =some fn):
  true=Tryz.pinned.checked.prog.looks []∧∀(j:Nat) t,fn.params[j]? =some t→Tryz.pinned.checked.prog.wantsStandIn t=false:=by
 obtain rfl:f=4:=Option.some.inj ((show Tryz.prog.funcNamed "palimpsest/palimpsestlaw18.WalkLeads" =some 4 by kernel_rfl).symm.trans hf) |>.symm
 obtain rfl:fn=Tryz.f4:=(Option.some.inj (Tryz.func4.symm.trans hfn)).symm;refine⟨by kernel_rfl,fun j t ht=> ?_⟩
 rw[Tryz.params4] at ht;have hm:=Array.mem_of_getElem? ht;have hm:t=24∨t=9∨t=4∨t=3∨t=3:=by simpa using hm
 rcases hm with rfl | rfl | rfl | rfl | rfl
 ·exact(show Tryz.prog.wantsStandIn 24=false by kernel_rfl)
 ·exact(show Tryz.prog.wantsStandIn 9=false by kernel_rfl)
 ·exact(show Tryz.prog.wantsStandIn 4=false by kernel_rfl)
 ·exact(show Tryz.prog.wantsStandIn 3=false by kernel_rfl)
 exact(show Tryz.prog.wantsStandIn 3=false by kernel_rfl)
theorem card:Rows.WalkLeadsUptoCardSaid:=
 Claim7.holds_tied_plain_at .later [] _ _ _ _ said (fun _ h=>by cases h) (by kernel_rfl) (fun _ h=>by cases h) walkLeadsUpto_row_tie rfl ⟨rfl,rfl⟩ (by kernel_rfl) rfl plain (by kernel_rfl)
#print axioms card
end Go.Proofs.YtjaopinmnpekiaaGreatDoor.walkLeadsUpto
namespace Go.Proofs.YtjaopinmnpekiaaGreatDoor
theorem walkLeadsUpto_holds:Rows.WalkLeadsUptoCardSaid:=walkLeadsUpto.card
end Go.Proofs.YtjaopinmnpekiaaGreatDoor
