/- My own texts DevWr3, one behind the other. -/
import Derived.Test.YtjaopinmnpekiaaGreatDoorWAR
import Derived.Test.YtjaopinmnpekiaaGreatDoorWAP
import Derived.WalkKit
import Derived.ProofKit
import Derived.OpenShut
import Derived.ShutString
import Derived.ChangeOld
import Derived.Below
import Derived.SizedLaws
import Derived.SliceStrings
import Derived.Deep.DeepHandedRow
import Derived.Lay
import Derived.MakeChecks
import Derived.SevenTiedAt
set_option linter.unusedVariables false
set_option linter.unusedSimpArgs false
namespace Go.Proofs.YtjaopinmnpekiaaGreatDoor.walkUpUpto
open Go.ChangeShapes Go.WideShapes Go.ChangeAt Go.RowKit
open Go.ChangeMaps (open_string shut_string)
theorem own:ownKnob Tryz.prog.godebug=none:=by kernel_rfl
theorem ZUR:laidOutB Tryz.prog=true:=by kernel_rfl
theorem ZSG (os:Os):laidMetH Tryz.prog Ai.Rab.laidN ((Ai.Rab.LW os).forCall (fun _ _=>0) ⟨#[], #[.agg #[.slice none 0 0, .int .i64 0], .int .i64 0],[]⟩).memory:=by
 exact Ai.Rab.ZV7 os _
theorem reads (os:Os) {H:Type} (enc:TypeId×Value→H):∃places,DataW.whole enc Tryz.prog ((Ai.Rab.LW os).forCall (fun _ _=>0) ⟨#[], #[.agg #[.slice none 0 0, .int .i64 0], .int .i64 0],[]⟩).memory Tryz.f3.params.toList Rows.walkUpSpec.vars false (#[.agg #[.slice none 0 0, .int .i64 0], .int .i64 0]:Array Value).toList 8=some ([.agg [.nil, .lit (.int .i64 0)], .lit (.int .i64 0)],[],places):=
 ⟨[],by kernel_rfl⟩
set_option maxRecDepth 100000 in
theorem ZVn (os:Os) (started:os.Started) (H:Type) (enc:TypeId×Value→H) (F:Stop.Interp):
  ReturnsInHanded {} Tryz.checked os 3 .any ((Rows.OpenSpec.upto Rows.walkUpSpec).preRow enc Tryz.prog Tryz.f3 Rows.walkUpUptoRow.domain false Rows.walkUpUptoRow.laid) (((Rows.OpenSpec.upto Rows.walkUpSpec).at F).post enc Tryz.prog Tryz.f3 false true false false):=by
 obtain⟨places,hx⟩:=reads os enc;refine returnsInHanded_of_row (C:=Tryz.checked) (s:=(Rows.OpenSpec.upto Rows.walkUpSpec)) own started (by kernel_rfl) Tryz.func3
  (witness_row_at (enc:=enc) (C:=Tryz.checked) false (Ai.Rab.LW os) #[.agg #[.slice none 0 0, .int .i64 0], .int .i64 0] (Ai.Rab.ZV6 _) (by kernel_rfl) (by kernel_rfl) (by kernel_rfl)
   (OpenSpec.preRow_of_cond 8 hx (by kernel_rfl) (fun k hk=>by cases hk;kernel_rfl) (by kernel_rfl) (ZSG os))) ?_
 intro W base args ds gs before hval0 hW _ hcond hsz0 hL hsh _;obtain⟨mx,hG⟩:=Ai.Rab.ZV5 hL hsh;have hsz:(DataW.weightsEach Tryz.prog (Tryz.f3.params.toList++Rows.walkUpSpec.plain.varTypes Tryz.prog) (ds++gs)).all (·≤reachBytes)=true:=hsz0
 have hval:∀(j:Nat) t v,Tryz.f3.params[j]? =some t→args[j]? =some v→Value.okWide Tryz.prog W .any base t v:=hval0
 have hW' :DataW.Whole enc Tryz.prog Tryz.f3.params.toList Rows.walkUpSpec.vars false W args.toList ds gs before:=hW
 obtain⟨p,q,hA0,hV,rfl,hfz,hnd⟩:=hW;have hA:DataW.TrodAll enc Tryz.prog W 0 (fun _=>true) true Tryz.f3.params.toList args.toList ds p:=hA0
 rw[Tryz.params3] at hA hval hsz;obtain⟨v0,vs0,d0,ds0,p0,q0,hargs,rfl,rfl,h0,r0⟩:=trodAll_cons hA;obtain⟨v1,vs1,d1,ds1,p1,q1,rfl,rfl,rfl,h1,r1⟩:=trodAll_cons r0;obtain⟨rfl,rfl,rfl⟩:=trodAll_nil r1;obtain rfl:args= #[v0,v1]:=by cases args;simp_all
 obtain⟨rfl,rfl⟩:=trodVars_none hV;have k0:=h0;have lt0:∀x∈p0,x.block<W.heap.size:=by obtain⟨m,hm⟩:=k0;exact DataW.trod_lt m _ _ _ hm
 obtain⟨a0,rel0,w0⟩:=Ai.Rab.ZRx Ai.Rab.rdFs (fun r=>(by decide:(2:Nat)≠1)) h0
 obtain⟨a1,rfl,rfl,rfl,w1⟩:=open_int Tryz.underlying3 (hval 1 3 v1 rfl rfl) h1;have hb:=of_decide_eq_true (hcond _ rfl);simp only[List.cons_append,List.nil_append,List.append_nil,Rows.uptoBulkAll,Rows.uptoBulk] at hb;have s0:=Ai.Rab.ZQj (f:=a0) (by omega)
 have t0:=Ai.Rab.ZUP (f:=a0) (by omega)
 clear hA0 hval0 hsz0 hsz
 simp only[List.append_nil] at hW';have law:Ai.Rab.ZJv a0 a1=some true:=Ai.Rab.ZWA s0 t0 _
 refine((Ai.Rab.ZQU mx).2 (Ai.Rab.NG mx) [Ai.Enc.enc a0,Ai.Enc.enc a1] (.bool true) (Ai.ZSN (a:=(a0,a1,())) law) W Ai.ZFO _ (fun b j h=>h.elim) hG (Ai.ZEf rel0 (Ai.ZEf Ai.ZJ8 Ai.ZGr))).mono fun e W' he=> ?_
 obtain⟨v',rfl,hv',bel⟩:=he;obtain rfl:=Ai.ZLO hv';exact⟨_,rfl,_,_,_,[],_,[],hW',trodAll_mk1 (shut_bool Tryz.underlying4 _),(trodAll_cons_mk (Below.trod ZUR (by kernel_rfl) (of_decide_eq_true (by kernel_rfl)) k0 bel lt0) (trodAll_cons_mk (shut_int Tryz.underlying3 w1) trodAll_mk0)),rfl,bel.frame _,fun h=>by cases h⟩
theorem said:Rows.WalkUpUptoSaid:=
 OpenClaim.holds_of_cond 3 Tryz.f3 rfl rfl rfl rfl rfl rfl rfl ⟨rfl,rfl,rfl,rfl,rfl⟩ rfl rfl rfl rfl rfl (by kernel_rfl) Tryz.func3 (by kernel_rfl)
  (of_decide_eq_true (by kernel_rfl)) (by unfold Func.isWrapper;first | (rw[if_pos (by decide+kernel)];kernel_rfl) | (rw[if_neg (by decide+kernel)];exact⟨rfl,rfl⟩))
  (fun os started H enc _ F=>by rw[OpenClaim.pre_eq_preRow];exact ZVn os started H enc F)
theorem plain (f:FuncId) (fn:Func) (hf:Tryz.pinned.checked.prog.funcNamed "palimpsest/palimpsestlaw18.WalkUp" =some f) (hfn:Tryz.pinned.checked.prog.funcs[f]? =some fn):
  true=Tryz.pinned.checked.prog.looks []∧∀(j:Nat) t,fn.params[j]? =some t→Tryz.pinned.checked.prog.wantsStandIn t=false:=by
 obtain rfl:f=3:=Option.some.inj ((show Tryz.prog.funcNamed "palimpsest/palimpsestlaw18.WalkUp" =some 3 by kernel_rfl).symm.trans hf) |>.symm
 obtain rfl:fn=Tryz.f3:=(Option.some.inj (Tryz.func3.symm.trans hfn)).symm;refine⟨by kernel_rfl,fun j t ht=> ?_⟩
 rw[Tryz.params3] at ht;have hm:=Array.mem_of_getElem? ht;have hm:t=24∨t=3:=by simpa using hm
 rcases hm with rfl | rfl
 ·exact(show Tryz.prog.wantsStandIn 24=false by kernel_rfl)
 exact(show Tryz.prog.wantsStandIn 3=false by kernel_rfl)
theorem card:Rows.WalkUpUptoCardSaid:=
 Claim7.holds_tied_plain_at .later [] _ _ _ _ said (fun _ h=>by cases h) (by kernel_rfl) (fun _ h=>by cases h) walkUpUpto_row_tie rfl ⟨rfl,rfl⟩ (by kernel_rfl) rfl plain (by kernel_rfl)
#print axioms card
end Go.Proofs.YtjaopinmnpekiaaGreatDoor.walkUpUpto
namespace Go.Proofs.YtjaopinmnpekiaaGreatDoor
theorem walkUpUpto_holds:Rows.WalkUpUptoCardSaid:=walkUpUpto.card
end Go.Proofs.YtjaopinmnpekiaaGreatDoor
