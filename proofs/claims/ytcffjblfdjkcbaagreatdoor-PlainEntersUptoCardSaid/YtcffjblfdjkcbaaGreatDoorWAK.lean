/- My own texts DevPid, DevPer, one behind the other. -/
import Derived.Test.YtcffjblfdjkcbaaGreatDoorWAJ
import Derived.Test.YtcffjblfdjkcbaaGreatDoorWAI
import Derived.Test.YtcffjblfdjkcbaaGreatDoorChecked
import Derived.WalkKit
import Derived.LaidEql
import Derived.Stop.Asserts
import Derived.RowKitTokens
set_option linter.unusedVariables false
set_option linter.unusedSimpArgs false
section
set_option maxRecDepth 100000
set_option maxHeartbeats 16000000
attribute [local irreducible] Go.Ai.TC Go.Ai.TO Go.Ai.MF
open Go.Ai.Enc (enc is)
open Go.Ai.Res (res ris)
open Go.Ai.Args (args)
namespace Go.Ai.Rab
open Go.Proofs
noncomputable def ZIP (s_:List ZAF) (i_ j_:Int):Option (List ZAF):=del s_ i_ j_
theorem ZFb (s_:List ZAF) (i_ j_:Int) (r:List ZAF) (h:ZIP s_ i_ j_=some r) {x_s:AV} {en_s:En} (hm:isM x_s en_s s_) {s:St} {enF:En} {G:Glob} (hs:Hp s [en_s,enF, .gl G]):MF Tryz.prog pz30 33 [x_s,enc i_,enc j_] s fun v s' =>∃en',isM v en' r∧Hp s' [en',enF, .gl G]:=by
 unfold ZIP at h;obtain⟨i,j,rfl,rfl,hij,hjn,hlen,hr⟩:=ZLk h;obtain⟨za,hza,hzok⟩:=ZKq (T:=ZAF) ⟨_,TTryz.zr38,ZPD TTryz.zf38⟩;refine ZDD [(0,x_s),(1,(.int .i64 ((i:Nat):Int))),(2,(.int .i64 ((j:Nat):Int)))] Tryz.func33 rfl (by simp only[Tryz.f33];rfl) fun ψ=> ?_
 repeat refine ZAB ?_
 refine ZAC<|ZAG (v:= .nils) rfl<|ZAA ?_
 repeat refine ZAB ?_
 refine ZAC<|ZAD (v:=x_s) rfl<|ZAD (v:= .int .i64 ((i:Nat):Int)) rfl<|ZAD (v:= .int .i64 ((j:Nat):Int)) rfl<|ZAD (v:=x_s) rfl<|ZIf Tryz.underlying22 rfl rfl hm<|ZOa (i:=i) (j:=j) (q:=s_.length) Tryz.underlying22 TTryz.ef38.sh rfl rfl rfl rfl hm hij hjn rfl fun _=>ZAA ?_
 repeat refine ZAB ?_
 refine ZAC<|ZAD (v:= .int .i64 ((i:Nat):Int)) rfl<|ZAD (v:= .int .i64 ((j:Nat):Int)) rfl<|ZAL (v:= .bool (((i:Nat):Int)==((j:Nat):Int))) rfl rfl rfl<|ZAA ?_
 by_cases hij' :i=j
 ·refine ZAI rfl (by rw[hij'];simp) ?_
  repeat refine ZAB ?_
  refine ZAC<|ZAD (v:=x_s) rfl<|ZAG (v:=x_s) rfl<|ZAA<|ZAN ?_
  have hr' :r=s_:=by rw[hr,hij'];simp
  subst hr';exact⟨rfl,KN1 rfl rfl ⟨_,hm,hs⟩⟩
 refine ZAJ rfl (by simp;omega)<|ZAM ?_
 obtain⟨m,cap,ys,sp,rfl,rfl,hys,hsp,hcap,hone⟩:isO x_s en_s s_:=by
  rcases hm with h | ⟨h0,_⟩
  ·exact h
  exfalso;subst h0;simp at hjn;omega
 have hyl:=hys.len;have hrl:r.length=s_.length - (j - i):=by rw[hr];simp;omega
 have hfin:isR (ys.take i++ys.drop j) r:=by rw[hr];exact(hys.take i).append (hys.drop j)
 repeat refine ZAB ?_
 refine ZAC<|ZAD (v:= .hs (Enc.k ZAF) m 0 s_.length cap) rfl<|ZKp Tryz.underlying22 rfl rfl<|ZAG (v:= .int .i64 ((s_.length:Nat):Int)) rfl<|ZAA ?_
 obtain⟨src,hsr⟩:∃L,L=(ys.take s_.length).drop j:=⟨_,rfl⟩;have hks:∀v∈src,ZAq (Enc.k ZAF) v:=fun v hv=>by rw[hsr] at hv;exact hys.ok v (List.mem_of_mem_take (List.mem_of_mem_drop hv))
 have hsl:src.length=s_.length - j:=by rw[hsr];simp;omega
 repeat refine ZAB ?_
 refine ZAo (by decide+kernel) (by decide+kernel)<|ZAD (v:= .hs (Enc.k ZAF) m 0 s_.length cap) rfl<|ZAD (v:= .int .i64 ((i:Nat):Int)) rfl<|ZFa (j:=i) Tryz.underlying22 TTryz.ef38.sh rfl rfl (by omega) hcap<|ZAD (v:= .hs (Enc.k ZAF) m 0 s_.length cap) rfl<|ZAD (v:= .int .i64 ((j:Nat):Int)) rfl<|ZEs (i:=j) Tryz.underlying22 TTryz.ef38.sh rfl rfl (by omega) hcap hs hys.ok (by omega) fun w hw=> ?_
 rw[←hsr] at hw;refine ZRs Tryz.underlying22 Tryz.underlying22 rfl rfl TTryz.ef38 rfl rfl hw hs hys.ok hks (by omega) (by omega) fun s hs=>ZAG (v:= .hs (Enc.k ZAF) m 0 (i+src.length) cap) rfl<|ZAA ?_
 obtain⟨L1,hL1⟩:∃L,L=ys.take i++src++ys.drop (i+src.length):=⟨_,rfl⟩;rw[←hL1] at hs;have hk1:∀v∈L1,ZAq (Enc.k ZAF) v:=by rw[hL1];exact ZHv hys.ok hks
 have hl1:L1.length=s_.length:=by rw[hL1];simp;omega
 repeat refine ZAB ?_
 refine ZAC<|ZAD (v:= .hs (Enc.k ZAF) m 0 (i+src.length) cap) rfl<|ZAD (v:= .hs (Enc.k ZAF) m 0 (i+src.length) cap) rfl<|ZKp Tryz.underlying22 rfl rfl<|ZAD (v:= .int .i64 ((s_.length:Nat):Int)) rfl<|ZOb (lo:=i+src.length) (hi:=s_.length) Tryz.underlying22 TTryz.ef38.sh rfl rfl rfl (by omega) hcap (by omega) (by omega)<|ZRu (q:=s_.length - (i+src.length)) Tryz.underlying22 rfl hza hzok rfl hs hk1 (by omega) (by omega) fun s hs=>ZAA ?_
 rw[ZJn hyl (by omega) hjn hsr hL1 rfl,ZIO] at hs
 repeat refine ZAB ?_
 refine ZAC<|ZAD (v:= .hs (Enc.k ZAF) m 0 (i+src.length) cap) rfl<|ZAG (v:= .hs (Enc.k ZAF) m 0 (i+src.length) cap) rfl<|ZAA<|ZAN ?_
 refine⟨rfl,KN1 rfl rfl ⟨_,ZHw (by omega) hfin ?_ (by omega) ?_,hs⟩⟩
 ·rw[List.length_append,ZBr (z:=esz (Enc.k ZAF)) _ (fun v hv=>by rw[List.eq_of_mem_replicate hv];exact hzok.1),List.length_replicate,hsp,←Nat.add_mul,hrl];congr 1;omega
 intro y hy;rcases List.mem_append.1 hy with hy | hy
 ·obtain⟨v,hv,hy⟩:=List.mem_flatMap.1 hy;rw[List.eq_of_mem_replicate hv] at hy;exact hzok.2.1 y hy
 exact hone y hy
noncomputable def ZIQ (s_:List Str) (i_ j_:Int):Option (List Str):=del s_ i_ j_
theorem ZHx (s_:List Str) (i_ j_:Int) (r:List Str) (h:ZIQ s_ i_ j_=some r) {x_s:AV} {en_s:En} (hm:isM x_s en_s s_) {s:St} {enF:En} {G:Glob} (hs:Hp s [en_s,enF, .gl G]):MF Tryz.prog pz30 46 [x_s,enc i_,enc j_] s fun v s' =>∃en',isM v en' r∧Hp s' [en',enF, .gl G]:=by
 unfold ZIQ at h;obtain⟨i,j,rfl,rfl,hij,hjn,hlen,hr⟩:=ZLk h;obtain⟨za,hza,hzok⟩:=ZKq (T:=Str) TTryz.ze9;refine ZDD [(0,x_s),(1,(.int .i64 ((i:Nat):Int))),(2,(.int .i64 ((j:Nat):Int)))] Tryz.func46 rfl (by simp only[Tryz.f46];rfl) fun ψ=> ?_
 repeat refine ZAB ?_
 refine ZAC<|ZAG (v:= .nils) rfl<|ZAA ?_
 repeat refine ZAB ?_
 refine ZAC<|ZAD (v:=x_s) rfl<|ZAD (v:= .int .i64 ((i:Nat):Int)) rfl<|ZAD (v:= .int .i64 ((j:Nat):Int)) rfl<|ZAD (v:=x_s) rfl<|ZIf Tryz.underlying34 rfl rfl hm<|ZOa (i:=i) (j:=j) (q:=s_.length) Tryz.underlying34 TTryz.ef9.sh rfl rfl rfl rfl hm hij hjn rfl fun _=>ZAA ?_
 repeat refine ZAB ?_
 refine ZAC<|ZAD (v:= .int .i64 ((i:Nat):Int)) rfl<|ZAD (v:= .int .i64 ((j:Nat):Int)) rfl<|ZAL (v:= .bool (((i:Nat):Int)==((j:Nat):Int))) rfl rfl rfl<|ZAA ?_
 by_cases hij' :i=j
 ·refine ZAI rfl (by rw[hij'];simp) ?_
  repeat refine ZAB ?_
  refine ZAC<|ZAD (v:=x_s) rfl<|ZAG (v:=x_s) rfl<|ZAA<|ZAN ?_
  have hr' :r=s_:=by rw[hr,hij'];simp
  subst hr';exact⟨rfl,KN1 rfl rfl ⟨_,hm,hs⟩⟩
 refine ZAJ rfl (by simp;omega)<|ZAM ?_
 obtain⟨m,cap,ys,sp,rfl,rfl,hys,hsp,hcap,hone⟩:isO x_s en_s s_:=by
  rcases hm with h | ⟨h0,_⟩
  ·exact h
  exfalso;subst h0;simp at hjn;omega
 have hyl:=hys.len;have hrl:r.length=s_.length - (j - i):=by rw[hr];simp;omega
 have hfin:isR (ys.take i++ys.drop j) r:=by rw[hr];exact(hys.take i).append (hys.drop j)
 repeat refine ZAB ?_
 refine ZAC<|ZAD (v:= .hs (Enc.k Str) m 0 s_.length cap) rfl<|ZKp Tryz.underlying34 rfl rfl<|ZAG (v:= .int .i64 ((s_.length:Nat):Int)) rfl<|ZAA ?_
 obtain⟨src,hsr⟩:∃L,L=(ys.take s_.length).drop j:=⟨_,rfl⟩;have hks:∀v∈src,ZAq (Enc.k Str) v:=fun v hv=>by rw[hsr] at hv;exact hys.ok v (List.mem_of_mem_take (List.mem_of_mem_drop hv))
 have hsl:src.length=s_.length - j:=by rw[hsr];simp;omega
 repeat refine ZAB ?_
 refine ZAo (by decide+kernel) (by decide+kernel)<|ZAD (v:= .hs (Enc.k Str) m 0 s_.length cap) rfl<|ZAD (v:= .int .i64 ((i:Nat):Int)) rfl<|ZFa (j:=i) Tryz.underlying34 TTryz.ef9.sh rfl rfl (by omega) hcap<|ZAD (v:= .hs (Enc.k Str) m 0 s_.length cap) rfl<|ZAD (v:= .int .i64 ((j:Nat):Int)) rfl<|ZEs (i:=j) Tryz.underlying34 TTryz.ef9.sh rfl rfl (by omega) hcap hs hys.ok (by omega) fun w hw=> ?_
 rw[←hsr] at hw;refine ZRs Tryz.underlying34 Tryz.underlying34 rfl rfl TTryz.ef9 rfl rfl hw hs hys.ok hks (by omega) (by omega) fun s hs=>ZAG (v:= .hs (Enc.k Str) m 0 (i+src.length) cap) rfl<|ZAA ?_
 obtain⟨L1,hL1⟩:∃L,L=ys.take i++src++ys.drop (i+src.length):=⟨_,rfl⟩;rw[←hL1] at hs;have hk1:∀v∈L1,ZAq (Enc.k Str) v:=by rw[hL1];exact ZHv hys.ok hks
 have hl1:L1.length=s_.length:=by rw[hL1];simp;omega
 repeat refine ZAB ?_
 refine ZAC<|ZAD (v:= .hs (Enc.k Str) m 0 (i+src.length) cap) rfl<|ZAD (v:= .hs (Enc.k Str) m 0 (i+src.length) cap) rfl<|ZKp Tryz.underlying34 rfl rfl<|ZAD (v:= .int .i64 ((s_.length:Nat):Int)) rfl<|ZOb (lo:=i+src.length) (hi:=s_.length) Tryz.underlying34 TTryz.ef9.sh rfl rfl rfl (by omega) hcap (by omega) (by omega)<|ZRu (q:=s_.length - (i+src.length)) Tryz.underlying34 rfl hza hzok rfl hs hk1 (by omega) (by omega) fun s hs=>ZAA ?_
 rw[ZJn hyl (by omega) hjn hsr hL1 rfl,ZIO] at hs
 repeat refine ZAB ?_
 refine ZAC<|ZAD (v:= .hs (Enc.k Str) m 0 (i+src.length) cap) rfl<|ZAG (v:= .hs (Enc.k Str) m 0 (i+src.length) cap) rfl<|ZAA<|ZAN ?_
 refine⟨rfl,KN1 rfl rfl ⟨_,ZHw (by omega) hfin ?_ (by omega) ?_,hs⟩⟩
 ·rw[List.length_append,ZBr (z:=esz (Enc.k Str)) _ (fun v hv=>by rw[List.eq_of_mem_replicate hv];exact hzok.1),List.length_replicate,hsp,←Nat.add_mul,hrl];congr 1;omega
 intro y hy;rcases List.mem_append.1 hy with hy | hy
 ·obtain⟨v,hv,hy⟩:=List.mem_flatMap.1 hy;rw[List.eq_of_mem_replicate hv] at hy;exact hzok.2.1 y hy
 exact hone y hy
noncomputable def ZIR (s_:List Int) (i_ j_:Int):Option (List Int):=del s_ i_ j_
theorem ZHy (s_:List Int) (i_ j_:Int) (r:List Int) (h:ZIR s_ i_ j_=some r) {x_s:AV} {en_s:En} (hm:isM x_s en_s s_) {s:St} {enF:En} {G:Glob} (hs:Hp s [en_s,enF, .gl G]):MF Tryz.prog pz30 48 [x_s,enc i_,enc j_] s fun v s' =>∃en',isM v en' r∧Hp s' [en',enF, .gl G]:=by
 unfold ZIR at h;obtain⟨i,j,rfl,rfl,hij,hjn,hlen,hr⟩:=ZLk h;obtain⟨za,hza,hzok⟩:=ZKq (T:=Int) TTryz.ze3;refine ZDD [(0,x_s),(1,(.int .i64 ((i:Nat):Int))),(2,(.int .i64 ((j:Nat):Int)))] Tryz.func48 rfl (by simp only[Tryz.f48];rfl) fun ψ=> ?_
 repeat refine ZAB ?_
 refine ZAC<|ZAG (v:= .nils) rfl<|ZAA ?_
 repeat refine ZAB ?_
 refine ZAC<|ZAD (v:=x_s) rfl<|ZAD (v:= .int .i64 ((i:Nat):Int)) rfl<|ZAD (v:= .int .i64 ((j:Nat):Int)) rfl<|ZAD (v:=x_s) rfl<|ZIf Tryz.underlying35 rfl rfl hm<|ZOa (i:=i) (j:=j) (q:=s_.length) Tryz.underlying35 TTryz.ef3.sh rfl rfl rfl rfl hm hij hjn rfl fun _=>ZAA ?_
 repeat refine ZAB ?_
 refine ZAC<|ZAD (v:= .int .i64 ((i:Nat):Int)) rfl<|ZAD (v:= .int .i64 ((j:Nat):Int)) rfl<|ZAL (v:= .bool (((i:Nat):Int)==((j:Nat):Int))) rfl rfl rfl<|ZAA ?_
 by_cases hij' :i=j
 ·refine ZAI rfl (by rw[hij'];simp) ?_
  repeat refine ZAB ?_
  refine ZAC<|ZAD (v:=x_s) rfl<|ZAG (v:=x_s) rfl<|ZAA<|ZAN ?_
  have hr' :r=s_:=by rw[hr,hij'];simp
  subst hr';exact⟨rfl,KN1 rfl rfl ⟨_,hm,hs⟩⟩
 refine ZAJ rfl (by simp;omega)<|ZAM ?_
 obtain⟨m,cap,ys,sp,rfl,rfl,hys,hsp,hcap,hone⟩:isO x_s en_s s_:=by
  rcases hm with h | ⟨h0,_⟩
  ·exact h
  exfalso;subst h0;simp at hjn;omega
 have hyl:=hys.len;have hrl:r.length=s_.length - (j - i):=by rw[hr];simp;omega
 have hfin:isR (ys.take i++ys.drop j) r:=by rw[hr];exact(hys.take i).append (hys.drop j)
 repeat refine ZAB ?_
 refine ZAC<|ZAD (v:= .hs (Enc.k Int) m 0 s_.length cap) rfl<|ZKp Tryz.underlying35 rfl rfl<|ZAG (v:= .int .i64 ((s_.length:Nat):Int)) rfl<|ZAA ?_
 obtain⟨src,hsr⟩:∃L,L=(ys.take s_.length).drop j:=⟨_,rfl⟩;have hks:∀v∈src,ZAq (Enc.k Int) v:=fun v hv=>by rw[hsr] at hv;exact hys.ok v (List.mem_of_mem_take (List.mem_of_mem_drop hv))
 have hsl:src.length=s_.length - j:=by rw[hsr];simp;omega
 repeat refine ZAB ?_
 refine ZAo (by decide+kernel) (by decide+kernel)<|ZAD (v:= .hs (Enc.k Int) m 0 s_.length cap) rfl<|ZAD (v:= .int .i64 ((i:Nat):Int)) rfl<|ZFa (j:=i) Tryz.underlying35 TTryz.ef3.sh rfl rfl (by omega) hcap<|ZAD (v:= .hs (Enc.k Int) m 0 s_.length cap) rfl<|ZAD (v:= .int .i64 ((j:Nat):Int)) rfl<|ZEs (i:=j) Tryz.underlying35 TTryz.ef3.sh rfl rfl (by omega) hcap hs hys.ok (by omega) fun w hw=> ?_
 rw[←hsr] at hw;refine ZRs Tryz.underlying35 Tryz.underlying35 rfl rfl TTryz.ef3 rfl rfl hw hs hys.ok hks (by omega) (by omega) fun s hs=>ZAG (v:= .hs (Enc.k Int) m 0 (i+src.length) cap) rfl<|ZAA ?_
 obtain⟨L1,hL1⟩:∃L,L=ys.take i++src++ys.drop (i+src.length):=⟨_,rfl⟩;rw[←hL1] at hs;have hk1:∀v∈L1,ZAq (Enc.k Int) v:=by rw[hL1];exact ZHv hys.ok hks
 have hl1:L1.length=s_.length:=by rw[hL1];simp;omega
 repeat refine ZAB ?_
 refine ZAC<|ZAD (v:= .hs (Enc.k Int) m 0 (i+src.length) cap) rfl<|ZAD (v:= .hs (Enc.k Int) m 0 (i+src.length) cap) rfl<|ZKp Tryz.underlying35 rfl rfl<|ZAD (v:= .int .i64 ((s_.length:Nat):Int)) rfl<|ZOb (lo:=i+src.length) (hi:=s_.length) Tryz.underlying35 TTryz.ef3.sh rfl rfl rfl (by omega) hcap (by omega) (by omega)<|ZRu (q:=s_.length - (i+src.length)) Tryz.underlying35 rfl hza hzok rfl hs hk1 (by omega) (by omega) fun s hs=>ZAA ?_
 rw[ZJn hyl (by omega) hjn hsr hL1 rfl,ZIO] at hs
 repeat refine ZAB ?_
 refine ZAC<|ZAD (v:= .hs (Enc.k Int) m 0 (i+src.length) cap) rfl<|ZAG (v:= .hs (Enc.k Int) m 0 (i+src.length) cap) rfl<|ZAA<|ZAN ?_
 refine⟨rfl,KN1 rfl rfl ⟨_,ZHw (by omega) hfin ?_ (by omega) ?_,hs⟩⟩
 ·rw[List.length_append,ZBr (z:=esz (Enc.k Int)) _ (fun v hv=>by rw[List.eq_of_mem_replicate hv];exact hzok.1),List.length_replicate,hsp,←Nat.add_mul,hrl];congr 1;omega
 intro y hy;rcases List.mem_append.1 hy with hy | hy
 ·obtain⟨v,hv,hy⟩:=List.mem_flatMap.1 hy;rw[List.eq_of_mem_replicate hv] at hy;exact hzok.2.1 y hy
 exact hone y hy
noncomputable def ZGj (s_:List ZAF) (i_:Int) (v_:List ZAF):Option (List ZAF):=ins 144 s_ i_ v_
theorem ZLm (s_:List ZAF) (i_:Int) (v_ r:List ZAF) (h:ZGj s_ i_ v_=some r) {x_s:AV} {en_s:En} (hm:isM x_s en_s s_) {x_v:AV} (hv:is x_v v_) {s:St} {enF:En} {G:Glob} (hs:Hp s [en_s,enF, .gl G]):MF Tryz.prog pz30 58 [x_s,enc i_,x_v] s fun v s' =>∃en',isM v en' r∧Hp s' [en',enF, .gl G]:=by
 unfold ZGj at h;obtain⟨j,rfl,hj,hroom,hr⟩:=ZLj h;have hro:=(ZDz hroom).1;obtain⟨za,hza,hzok⟩:=ZKq (T:=ZAF) ⟨_,TTryz.zr38,ZPD TTryz.zf38⟩;refine ZDD [(0,x_s),(1,(.int .i64 ((j:Nat):Int))),(2,x_v)] Tryz.func58 rfl (by simp only[Tryz.f58];rfl) fun ψ=> ?_
 repeat refine ZAB ?_
 refine ZAC<|ZAG (v:= .nils) rfl<|ZAA ?_
 repeat refine ZAB ?_
 refine ZAC<|ZAD (v:=x_s) rfl<|ZAD (v:= .int .i64 ((j:Nat):Int)) rfl<|ZRx Tryz.underlying22 TTryz.ef38.sh rfl rfl hm hj hs fun _=>ZAA ?_
 repeat refine ZAB ?_
 refine ZAC<|ZAD (v:=x_v) rfl<|ZAp Tryz.underlying22 rfl rfl hv<|ZAG (v:= .int .i64 ((v_.length:Nat):Int)) rfl<|ZAA ?_
 repeat refine ZAB ?_
 refine ZAC<|ZAD (v:= .int .i64 ((v_.length:Nat):Int)) rfl<|ZAL (v:= .bool (((v_.length:Nat):Int)==0)) rfl rfl rfl<|ZAA ?_
 by_cases hv0:v_=[]
 ·refine ZAI rfl (by rw[hv0];rfl) ?_
  repeat refine ZAB ?_
  refine ZAC<|ZAD (v:=x_s) rfl<|ZAG (v:=x_s) rfl<|ZAA<|ZAN ?_
  have hr' :r=s_:=by rw[hr,hv0];simp
  subst hr';exact⟨rfl,KN1 rfl rfl ⟨_,hm,hs⟩⟩
 have hvl:0<v_.length:=List.length_pos_iff.2 hv0
 obtain⟨us,cp,rfl,hus⟩:∃us cp,x_v= .vec (Enc.k ZAF) us cp∧isR us v_:=by
  rcases hv with⟨_,h0⟩ | ⟨us,c,h1,h2⟩
  ·exact absurd h0 hv0
  exact⟨us,c,h1,h2⟩
 have hul:=hus.len;have hsrcv:∀s,ZCh (Enc.k ZAF) (.vec (Enc.k ZAF) us cp) s=some us:=fun s=>by simp[ZCh,elems]
 refine ZAJ rfl (by simp;omega)<|ZAM ?_
 repeat refine ZAB ?_
 refine ZAC<|ZAD (v:=x_s) rfl<|ZIf Tryz.underlying22 rfl rfl hm<|ZAG (v:= .int .i64 ((s_.length:Nat):Int)) rfl<|ZAA ?_
 repeat refine ZAB ?_
 refine ZAC<|ZAD (v:= .int .i64 ((j:Nat):Int)) rfl<|ZAD (v:= .int .i64 ((s_.length:Nat):Int)) rfl<|ZAL (v:= .bool (((j:Nat):Int)==((s_.length:Nat):Int))) rfl rfl rfl<|ZAA ?_
 by_cases hjn:j=s_.length
 ·refine ZAI rfl (by rw[hjn];simp) ?_
  have hx:app 144 s_ v_=some r:=by unfold app;rw[if_pos hroom,hr,hjn];simp
  repeat refine ZAB ?_
  refine ZAC<|ZAD (v:=x_s) rfl<|ZAD (v:= .vec (Enc.k ZAF) us cp) rfl<|ZF6 Tryz.underlying22 Tryz.underlying22 rfl rfl TTryz.ef38 rfl rfl (isM.ap hm) hv hx hs fun z en s hz hs=>ZAG (v:=z) rfl<|ZAA<|ZAN ?_
  exact⟨rfl,KN1 rfl rfl ⟨_,hz,hs⟩⟩
 refine ZAJ rfl (by simp;omega)<|ZAM ?_
 obtain⟨m,cap,ys,sp,rfl,rfl,hys,hsp,hcap,hone⟩:isO x_s en_s s_:=by
  rcases hm with h | ⟨h0,_⟩
  ·exact h
  exfalso;subst h0;simp at hj hjn;omega
 have hyl:=hys.len;have hrl:r.length=s_.length+v_.length:=by rw[hr];simp;omega
 have hfin:isR (ys.take j++us++ys.drop j) r:=by rw[hr];exact((hys.take j).append hus).append (hys.drop j)
 repeat refine ZAB ?_
 refine ZAC<|ZAD (v:= .int .i64 ((s_.length:Nat):Int)) rfl<|ZAD (v:= .int .i64 ((v_.length:Nat):Int)) rfl<|ZAL (v:= .int .i64 (((s_.length:Nat):Int)+((v_.length:Nat):Int))) rfl rfl (ZC6 (by omega))<|ZAD (v:= .hs (Enc.k ZAF) m 0 s_.length cap) rfl<|ZOZ Tryz.underlying22 rfl rfl<|ZAL (v:= .bool (decide (((s_.length:Nat):Int)+((v_.length:Nat):Int) > ((cap:Nat):Int)))) rfl rfl rfl<|ZAA ?_
 by_cases hgr:cap<s_.length+v_.length
 ·refine ZAI rfl (by simp;omega) ?_
  obtain⟨q,hq⟩:∃q,q=s_.length+v_.length - j:=⟨_,rfl⟩;repeat refine ZAB ?_
  refine ZAC<|ZAD (v:= .hs (Enc.k ZAF) m 0 s_.length cap) rfl<|ZAD (v:= .int .i64 ((j:Nat):Int)) rfl<|ZFa Tryz.underlying22 TTryz.ef38.sh rfl rfl (by omega) hcap<|ZAD (v:= .int .i64 ((s_.length:Nat):Int)) rfl<|ZAD (v:= .int .i64 ((v_.length:Nat):Int)) rfl<|ZAL (v:= .int .i64 (((s_.length:Nat):Int)+((v_.length:Nat):Int))) rfl rfl (ZC6 (by omega))<|ZAD (v:= .int .i64 ((j:Nat):Int)) rfl<|ZAL (v:= .int .i64 ((q:Nat):Int)) rfl rfl ((ZRw (by omega)).trans (by congr 2;omega))<|ZRt (i:=j) (q:=q) Tryz.underlying22 Tryz.underlying3 rfl rfl rfl TTryz.ef38 hza hzok rfl rfl hs hys.ok (by omega) (by omega) (by omega) (by rw[show j+q=s_.length+v_.length by omega];exact hroom) fun m' nc zs s hnc hzl hzo hs=>ZAG (v:= .hs (Enc.k ZAF) m' 0 (j+q) nc) rfl<|ZAA ?_
  obtain⟨L0,hL0⟩:∃L,L=ys.take j++List.replicate q za:=⟨_,rfl⟩;rw[←hL0] at hs;have hl0:L0.length=j+q:=by rw[hL0];simp;omega
  have hk0:∀v∈L0,ZAq (Enc.k ZAF) v:=by
   intro v hv;rw[hL0] at hv;rcases List.mem_append.1 hv with hv | hv
   ·exact hys.ok v (List.mem_of_mem_take hv)
   rw[List.eq_of_mem_replicate hv];exact hzok
  repeat refine ZAB ?_
  refine ZAC<|ZAD (v:= .hs (Enc.k ZAF) m' 0 (j+q) nc) rfl<|ZAD (v:= .int .i64 ((j:Nat):Int)) rfl<|ZCS Tryz.underlying22 TTryz.ef38.sh rfl rfl (by omega) hnc (by omega)<|ZAD (v:= .vec (Enc.k ZAF) us cp) rfl<|ZFq (a:=j) Tryz.underlying22 rfl TTryz.ef38.sh rfl rfl (hsrcv s) hs hk0 hus.ok (by omega) fun _ s hs=>ZAA ?_
  obtain⟨L1,hL1⟩:∃L,L=L0.take j++us.take (min us.length (j+q - j))++L0.drop (j+min us.length (j+q - j)):=⟨_,rfl⟩;rw[←hL1] at hs;have hk1:∀v∈L1,ZAq (Enc.k ZAF) v:=by rw[hL1];exact ZHv hk0 (fun v hv=>hus.ok v (List.mem_of_mem_take hv))
  have hl1:L1.length=j+q:=by rw[hL1];simp;omega
  repeat refine ZAB ?_
  refine ZAo (by decide+kernel) (by decide+kernel)<|ZAD (v:= .hs (Enc.k ZAF) m' 0 (j+q) nc) rfl<|ZAD (v:= .int .i64 ((j:Nat):Int)) rfl<|ZAD (v:= .int .i64 ((v_.length:Nat):Int)) rfl<|ZAL (v:= .int .i64 ((j+v_.length:Nat):Int)) rfl rfl ((ZC6 (by omega)).trans (by congr 2))<|ZCS (i:=j+v_.length) Tryz.underlying22 TTryz.ef38.sh rfl rfl (by omega) hnc (by omega)<|ZAD (v:= .hs (Enc.k ZAF) m 0 s_.length cap) rfl<|ZAD (v:= .int .i64 ((j:Nat):Int)) rfl<|ZEs (i:=j) Tryz.underlying22 TTryz.ef38.sh rfl rfl (by omega) hcap (Hp.front [_] (b:=[enF, .gl G]) hs) hys.ok (by omega) fun w hw=>ZFq (a:=j+v_.length) Tryz.underlying22 rfl TTryz.ef38.sh rfl rfl hw hs hk1 (fun v hv=>hys.ok v (List.mem_of_mem_take (List.mem_of_mem_drop hv))) (by omega) fun _ s hs=>ZAA ?_
  rw[ZLl (n:=s_.length) (m:=v_.length) hyl hul hj (by rw[hL0,hq]) (by rw[hq]) (by rw[hq]) hL1 rfl] at hs
  repeat refine ZAB ?_
  refine ZAC<|ZAD (v:= .hs (Enc.k ZAF) m' 0 (j+q) nc) rfl<|ZAG (v:= .hs (Enc.k ZAF) m' 0 (j+q) nc) rfl<|ZAA<|ZAN ?_
  exact⟨rfl,KN1 rfl rfl ⟨_,ZHw (by omega) hfin (by rw[hzl,hrl];congr 1;omega) (by omega) hzo,Hp.drop [_] (b:=[enF, .gl G]) hs⟩⟩
 refine ZAJ rfl (by simp;omega)<|ZAM ?_
 repeat refine ZAB ?_
 refine ZAC<|ZAD (v:= .hs (Enc.k ZAF) m 0 s_.length cap) rfl<|ZAD (v:= .int .i64 ((s_.length:Nat):Int)) rfl<|ZAD (v:= .int .i64 ((v_.length:Nat):Int)) rfl<|ZAL (v:= .int .i64 ((s_.length+v_.length:Nat):Int)) rfl rfl ((ZC6 (by omega)).trans (by congr 2))<|ZFa (j:=s_.length+v_.length) Tryz.underlying22 TTryz.ef38.sh rfl rfl (by omega) hcap<|ZAG (v:= .hs (Enc.k ZAF) m 0 (s_.length+v_.length) cap) rfl<|ZAA ?_
 have hsl:v_.length*esz (Enc.k ZAF)≤sp.length:=by rw[hsp];exact Nat.mul_le_mul_right _ (by omega)
 obtain⟨hrm,hko,hcl⟩:=ZHO (k:=Enc.k ZAF) (m:=v_.length) (ys:=ys) hone hsl;rw[hrm] at hs;obtain⟨ws,hws⟩:∃L,L=ZCl (Enc.k ZAF) sp v_.length:=⟨_,rfl⟩;rw[←hws] at hs hko hcl;obtain⟨sp',hsp'⟩:∃L,L=sp.drop (v_.length*esz (Enc.k ZAF)):=⟨_,rfl⟩;rw[←hsp'] at hs;obtain⟨L0,hL0⟩:∃L,L=ys++ws:=⟨_,rfl⟩;rw[←hL0] at hs;have hl0:L0.length=s_.length+v_.length:=by rw[hL0];simp;omega
 have hk0:∀v∈L0,ZAq (Enc.k ZAF) v:=by
  intro v hv;rw[hL0] at hv;rcases List.mem_append.1 hv with hv | hv
  ·exact hys.ok v hv
  exact hko v hv
 repeat refine ZAB ?_
 refine ZAC<|ZAD (v:= .vec (Enc.k ZAF) us cp) rfl<|ZAD (v:= .hs (Enc.k ZAF) m 0 (s_.length+v_.length) cap) rfl<|ZAD (v:= .int .i64 ((j:Nat):Int)) rfl<|ZAD (v:= .int .i64 ((v_.length:Nat):Int)) rfl<|ZAL (v:= .int .i64 ((j+v_.length:Nat):Int)) rfl rfl ((ZC6 (by omega)).trans (by congr 2))<|ZCS (i:=j+v_.length) Tryz.underlying22 TTryz.ef38.sh rfl rfl (by omega) (by omega) (by omega)<|ZRv (tR:=4) Tryz.func80 (by kernel_rfl) (by kernel_rfl) (by kernel_rfl) (by kernel_rfl) Tryz.underlying22 TTryz.ef38.sh rfl (by intro h0;rw[h0] at hul;simp at hul;omega) rfl hs hk0 (by omega)<|ZBS (v:= .bool true) rfl rfl<|ZAA<|ZAI rfl rfl ?_
 repeat refine ZAB ?_
 refine ZAo (by decide+kernel) (by decide+kernel)<|ZAD (v:= .hs (Enc.k ZAF) m 0 (s_.length+v_.length) cap) rfl<|ZAD (v:= .int .i64 ((j:Nat):Int)) rfl<|ZAD (v:= .int .i64 ((v_.length:Nat):Int)) rfl<|ZAL (v:= .int .i64 ((j+v_.length:Nat):Int)) rfl rfl ((ZC6 (by omega)).trans (by congr 2))<|ZCS (i:=j+v_.length) Tryz.underlying22 TTryz.ef38.sh rfl rfl (by omega) (by omega) (by omega)<|ZAD (v:= .hs (Enc.k ZAF) m 0 (s_.length+v_.length) cap) rfl<|ZAD (v:= .int .i64 ((j:Nat):Int)) rfl<|ZEs (i:=j) Tryz.underlying22 TTryz.ef38.sh rfl rfl (by omega) (by omega) hs hk0 (by omega) fun w hw=>ZFq (a:=j+v_.length) Tryz.underlying22 rfl TTryz.ef38.sh rfl rfl hw hs hk0 (fun v hv=>hk0 v (List.mem_of_mem_take (List.mem_of_mem_drop hv))) (by omega) fun _ s hs=>ZAA ?_
 obtain⟨src,hsr⟩:∃L,L=(L0.take (s_.length+v_.length)).drop j:=⟨_,rfl⟩;rw[←hsr] at hs;have hks:∀v∈src,ZAq (Enc.k ZAF) v:=fun v hv=>by rw[hsr] at hv;exact hk0 v (List.mem_of_mem_take (List.mem_of_mem_drop hv))
 have hsl2:src.length=s_.length+v_.length - j:=by rw[hsr];simp;omega
 obtain⟨q,hq⟩:∃q,q=s_.length+v_.length - (j+v_.length):=⟨_,rfl⟩;rw[←hq] at hs;obtain⟨L1,hL1⟩:∃L,L=L0.take (j+v_.length)++src.take (min src.length q)++L0.drop (j+v_.length+min src.length q):=⟨_,rfl⟩;rw[←hL1] at hs;have hk1:∀v∈L1,ZAq (Enc.k ZAF) v:=by rw[hL1];exact ZHv hk0 (fun v hv=>hks v (List.mem_of_mem_take hv))
 have hl1:L1.length=s_.length+v_.length:=by rw[hL1];simp;omega
 repeat refine ZAB ?_
 refine ZAC<|ZAD (v:= .hs (Enc.k ZAF) m 0 (s_.length+v_.length) cap) rfl<|ZAD (v:= .int .i64 ((j:Nat):Int)) rfl<|ZCS (i:=j) Tryz.underlying22 TTryz.ef38.sh rfl rfl (by omega) (by omega) (by omega)<|ZAD (v:= .vec (Enc.k ZAF) us cp) rfl<|ZFq (a:=j) Tryz.underlying22 rfl TTryz.ef38.sh rfl rfl (hsrcv s) hs hk1 hus.ok (by omega) fun _ s hs=>ZAA ?_
 rw[ZJm (n:=s_.length) (m:=v_.length) hyl hcl hul hj hL0 hsr hq hL1] at hs;repeat refine ZAB ?_
 refine ZAC<|ZAD (v:= .hs (Enc.k ZAF) m 0 (s_.length+v_.length) cap) rfl<|ZAG (v:= .hs (Enc.k ZAF) m 0 (s_.length+v_.length) cap) rfl<|ZAA<|ZAN ?_
 exact⟨rfl,KN1 rfl rfl ⟨_,ZHw hrl.symm hfin (by rw[hsp',List.length_drop,hsp,←Nat.sub_mul,hrl,Nat.sub_sub]) (by omega) (fun y hy=>hone y (by rw[hsp'] at hy;exact List.mem_of_mem_drop hy)),hs⟩⟩
noncomputable def ZIS (s_:List Str) (i_:Int) (v_:List Str):Option (List Str):=ins 16 s_ i_ v_
theorem ZLn (s_:List Str) (i_:Int) (v_ r:List Str) (h:ZIS s_ i_ v_=some r) {x_s:AV} {en_s:En} (hm:isM x_s en_s s_) {x_v:AV} (hv:is x_v v_) {s:St} {enF:En} {G:Glob} (hs:Hp s [en_s,enF, .gl G]):MF Tryz.prog pz30 89 [x_s,enc i_,x_v] s fun v s' =>∃en',isM v en' r∧Hp s' [en',enF, .gl G]:=by
 unfold ZIS at h;obtain⟨j,rfl,hj,hroom,hr⟩:=ZLj h;have hro:=(ZDz hroom).1;obtain⟨za,hza,hzok⟩:=ZKq (T:=Str) TTryz.ze9;refine ZDD [(0,x_s),(1,(.int .i64 ((j:Nat):Int))),(2,x_v)] Tryz.func89 rfl (by simp only[Tryz.f89];rfl) fun ψ=> ?_
 repeat refine ZAB ?_
 refine ZAC<|ZAG (v:= .nils) rfl<|ZAA ?_
 repeat refine ZAB ?_
 refine ZAC<|ZAD (v:=x_s) rfl<|ZAD (v:= .int .i64 ((j:Nat):Int)) rfl<|ZRx Tryz.underlying34 TTryz.ef9.sh rfl rfl hm hj hs fun _=>ZAA ?_
 repeat refine ZAB ?_
 refine ZAC<|ZAD (v:=x_v) rfl<|ZAp Tryz.underlying34 rfl rfl hv<|ZAG (v:= .int .i64 ((v_.length:Nat):Int)) rfl<|ZAA ?_
 repeat refine ZAB ?_
 refine ZAC<|ZAD (v:= .int .i64 ((v_.length:Nat):Int)) rfl<|ZAL (v:= .bool (((v_.length:Nat):Int)==0)) rfl rfl rfl<|ZAA ?_
 by_cases hv0:v_=[]
 ·refine ZAI rfl (by rw[hv0];rfl) ?_
  repeat refine ZAB ?_
  refine ZAC<|ZAD (v:=x_s) rfl<|ZAG (v:=x_s) rfl<|ZAA<|ZAN ?_
  have hr' :r=s_:=by rw[hr,hv0];simp
  subst hr';exact⟨rfl,KN1 rfl rfl ⟨_,hm,hs⟩⟩
 have hvl:0<v_.length:=List.length_pos_iff.2 hv0
 obtain⟨us,cp,rfl,hus⟩:∃us cp,x_v= .vec (Enc.k Str) us cp∧isR us v_:=by
  rcases hv with⟨_,h0⟩ | ⟨us,c,h1,h2⟩
  ·exact absurd h0 hv0
  exact⟨us,c,h1,h2⟩
 have hul:=hus.len;have hsrcv:∀s,ZCh (Enc.k Str) (.vec (Enc.k Str) us cp) s=some us:=fun s=>by simp[ZCh,elems]
 refine ZAJ rfl (by simp;omega)<|ZAM ?_
 repeat refine ZAB ?_
 refine ZAC<|ZAD (v:=x_s) rfl<|ZIf Tryz.underlying34 rfl rfl hm<|ZAG (v:= .int .i64 ((s_.length:Nat):Int)) rfl<|ZAA ?_
 repeat refine ZAB ?_
 refine ZAC<|ZAD (v:= .int .i64 ((j:Nat):Int)) rfl<|ZAD (v:= .int .i64 ((s_.length:Nat):Int)) rfl<|ZAL (v:= .bool (((j:Nat):Int)==((s_.length:Nat):Int))) rfl rfl rfl<|ZAA ?_
 by_cases hjn:j=s_.length
 ·refine ZAI rfl (by rw[hjn];simp) ?_
  have hx:app 16 s_ v_=some r:=by unfold app;rw[if_pos hroom,hr,hjn];simp
  repeat refine ZAB ?_
  refine ZAC<|ZAD (v:=x_s) rfl<|ZAD (v:= .vec (Enc.k Str) us cp) rfl<|ZF6 Tryz.underlying34 Tryz.underlying34 rfl rfl TTryz.ef9 rfl rfl (isM.ap hm) hv hx hs fun z en s hz hs=>ZAG (v:=z) rfl<|ZAA<|ZAN ?_
  exact⟨rfl,KN1 rfl rfl ⟨_,hz,hs⟩⟩
 refine ZAJ rfl (by simp;omega)<|ZAM ?_
 obtain⟨m,cap,ys,sp,rfl,rfl,hys,hsp,hcap,hone⟩:isO x_s en_s s_:=by
  rcases hm with h | ⟨h0,_⟩
  ·exact h
  exfalso;subst h0;simp at hj hjn;omega
 have hyl:=hys.len;have hrl:r.length=s_.length+v_.length:=by rw[hr];simp;omega
 have hfin:isR (ys.take j++us++ys.drop j) r:=by rw[hr];exact((hys.take j).append hus).append (hys.drop j)
 repeat refine ZAB ?_
 refine ZAC<|ZAD (v:= .int .i64 ((s_.length:Nat):Int)) rfl<|ZAD (v:= .int .i64 ((v_.length:Nat):Int)) rfl<|ZAL (v:= .int .i64 (((s_.length:Nat):Int)+((v_.length:Nat):Int))) rfl rfl (ZC6 (by omega))<|ZAD (v:= .hs (Enc.k Str) m 0 s_.length cap) rfl<|ZOZ Tryz.underlying34 rfl rfl<|ZAL (v:= .bool (decide (((s_.length:Nat):Int)+((v_.length:Nat):Int) > ((cap:Nat):Int)))) rfl rfl rfl<|ZAA ?_
 by_cases hgr:cap<s_.length+v_.length
 ·refine ZAI rfl (by simp;omega) ?_
  obtain⟨q,hq⟩:∃q,q=s_.length+v_.length - j:=⟨_,rfl⟩;repeat refine ZAB ?_
  refine ZAC<|ZAD (v:= .hs (Enc.k Str) m 0 s_.length cap) rfl<|ZAD (v:= .int .i64 ((j:Nat):Int)) rfl<|ZFa Tryz.underlying34 TTryz.ef9.sh rfl rfl (by omega) hcap<|ZAD (v:= .int .i64 ((s_.length:Nat):Int)) rfl<|ZAD (v:= .int .i64 ((v_.length:Nat):Int)) rfl<|ZAL (v:= .int .i64 (((s_.length:Nat):Int)+((v_.length:Nat):Int))) rfl rfl (ZC6 (by omega))<|ZAD (v:= .int .i64 ((j:Nat):Int)) rfl<|ZAL (v:= .int .i64 ((q:Nat):Int)) rfl rfl ((ZRw (by omega)).trans (by congr 2;omega))<|ZRt (i:=j) (q:=q) Tryz.underlying34 Tryz.underlying3 rfl rfl rfl TTryz.ef9 hza hzok rfl rfl hs hys.ok (by omega) (by omega) (by omega) (by rw[show j+q=s_.length+v_.length by omega];exact hroom) fun m' nc zs s hnc hzl hzo hs=>ZAG (v:= .hs (Enc.k Str) m' 0 (j+q) nc) rfl<|ZAA ?_
  obtain⟨L0,hL0⟩:∃L,L=ys.take j++List.replicate q za:=⟨_,rfl⟩;rw[←hL0] at hs;have hl0:L0.length=j+q:=by rw[hL0];simp;omega
  have hk0:∀v∈L0,ZAq (Enc.k Str) v:=by
   intro v hv;rw[hL0] at hv;rcases List.mem_append.1 hv with hv | hv
   ·exact hys.ok v (List.mem_of_mem_take hv)
   rw[List.eq_of_mem_replicate hv];exact hzok
  repeat refine ZAB ?_
  refine ZAC<|ZAD (v:= .hs (Enc.k Str) m' 0 (j+q) nc) rfl<|ZAD (v:= .int .i64 ((j:Nat):Int)) rfl<|ZCS Tryz.underlying34 TTryz.ef9.sh rfl rfl (by omega) hnc (by omega)<|ZAD (v:= .vec (Enc.k Str) us cp) rfl<|ZFq (a:=j) Tryz.underlying34 rfl TTryz.ef9.sh rfl rfl (hsrcv s) hs hk0 hus.ok (by omega) fun _ s hs=>ZAA ?_
  obtain⟨L1,hL1⟩:∃L,L=L0.take j++us.take (min us.length (j+q - j))++L0.drop (j+min us.length (j+q - j)):=⟨_,rfl⟩;rw[←hL1] at hs;have hk1:∀v∈L1,ZAq (Enc.k Str) v:=by rw[hL1];exact ZHv hk0 (fun v hv=>hus.ok v (List.mem_of_mem_take hv))
  have hl1:L1.length=j+q:=by rw[hL1];simp;omega
  repeat refine ZAB ?_
  refine ZAo (by decide+kernel) (by decide+kernel)<|ZAD (v:= .hs (Enc.k Str) m' 0 (j+q) nc) rfl<|ZAD (v:= .int .i64 ((j:Nat):Int)) rfl<|ZAD (v:= .int .i64 ((v_.length:Nat):Int)) rfl<|ZAL (v:= .int .i64 ((j+v_.length:Nat):Int)) rfl rfl ((ZC6 (by omega)).trans (by congr 2))<|ZCS (i:=j+v_.length) Tryz.underlying34 TTryz.ef9.sh rfl rfl (by omega) hnc (by omega)<|ZAD (v:= .hs (Enc.k Str) m 0 s_.length cap) rfl<|ZAD (v:= .int .i64 ((j:Nat):Int)) rfl<|ZEs (i:=j) Tryz.underlying34 TTryz.ef9.sh rfl rfl (by omega) hcap (Hp.front [_] (b:=[enF, .gl G]) hs) hys.ok (by omega) fun w hw=>ZFq (a:=j+v_.length) Tryz.underlying34 rfl TTryz.ef9.sh rfl rfl hw hs hk1 (fun v hv=>hys.ok v (List.mem_of_mem_take (List.mem_of_mem_drop hv))) (by omega) fun _ s hs=>ZAA ?_
  rw[ZLl (n:=s_.length) (m:=v_.length) hyl hul hj (by rw[hL0,hq]) (by rw[hq]) (by rw[hq]) hL1 rfl] at hs
  repeat refine ZAB ?_
  refine ZAC<|ZAD (v:= .hs (Enc.k Str) m' 0 (j+q) nc) rfl<|ZAG (v:= .hs (Enc.k Str) m' 0 (j+q) nc) rfl<|ZAA<|ZAN ?_
  exact⟨rfl,KN1 rfl rfl ⟨_,ZHw (by omega) hfin (by rw[hzl,hrl];congr 1;omega) (by omega) hzo,Hp.drop [_] (b:=[enF, .gl G]) hs⟩⟩
 refine ZAJ rfl (by simp;omega)<|ZAM ?_
 repeat refine ZAB ?_
 refine ZAC<|ZAD (v:= .hs (Enc.k Str) m 0 s_.length cap) rfl<|ZAD (v:= .int .i64 ((s_.length:Nat):Int)) rfl<|ZAD (v:= .int .i64 ((v_.length:Nat):Int)) rfl<|ZAL (v:= .int .i64 ((s_.length+v_.length:Nat):Int)) rfl rfl ((ZC6 (by omega)).trans (by congr 2))<|ZFa (j:=s_.length+v_.length) Tryz.underlying34 TTryz.ef9.sh rfl rfl (by omega) hcap<|ZAG (v:= .hs (Enc.k Str) m 0 (s_.length+v_.length) cap) rfl<|ZAA ?_
 have hsl:v_.length*esz (Enc.k Str)≤sp.length:=by rw[hsp];exact Nat.mul_le_mul_right _ (by omega)
 obtain⟨hrm,hko,hcl⟩:=ZHO (k:=Enc.k Str) (m:=v_.length) (ys:=ys) hone hsl;rw[hrm] at hs;obtain⟨ws,hws⟩:∃L,L=ZCl (Enc.k Str) sp v_.length:=⟨_,rfl⟩;rw[←hws] at hs hko hcl;obtain⟨sp',hsp'⟩:∃L,L=sp.drop (v_.length*esz (Enc.k Str)):=⟨_,rfl⟩;rw[←hsp'] at hs;obtain⟨L0,hL0⟩:∃L,L=ys++ws:=⟨_,rfl⟩;rw[←hL0] at hs;have hl0:L0.length=s_.length+v_.length:=by rw[hL0];simp;omega
 have hk0:∀v∈L0,ZAq (Enc.k Str) v:=by
  intro v hv;rw[hL0] at hv;rcases List.mem_append.1 hv with hv | hv
  ·exact hys.ok v hv
  exact hko v hv
 repeat refine ZAB ?_
 refine ZAC<|ZAD (v:= .vec (Enc.k Str) us cp) rfl<|ZAD (v:= .hs (Enc.k Str) m 0 (s_.length+v_.length) cap) rfl<|ZAD (v:= .int .i64 ((j:Nat):Int)) rfl<|ZAD (v:= .int .i64 ((v_.length:Nat):Int)) rfl<|ZAL (v:= .int .i64 ((j+v_.length:Nat):Int)) rfl rfl ((ZC6 (by omega)).trans (by congr 2))<|ZCS (i:=j+v_.length) Tryz.underlying34 TTryz.ef9.sh rfl rfl (by omega) (by omega) (by omega)<|ZRv (tR:=4) Tryz.func107 (by kernel_rfl) (by kernel_rfl) (by kernel_rfl) (by kernel_rfl) Tryz.underlying34 TTryz.ef9.sh rfl (by intro h0;rw[h0] at hul;simp at hul;omega) rfl hs hk0 (by omega)<|ZBS (v:= .bool true) rfl rfl<|ZAA<|ZAI rfl rfl ?_
 repeat refine ZAB ?_
 refine ZAo (by decide+kernel) (by decide+kernel)<|ZAD (v:= .hs (Enc.k Str) m 0 (s_.length+v_.length) cap) rfl<|ZAD (v:= .int .i64 ((j:Nat):Int)) rfl<|ZAD (v:= .int .i64 ((v_.length:Nat):Int)) rfl<|ZAL (v:= .int .i64 ((j+v_.length:Nat):Int)) rfl rfl ((ZC6 (by omega)).trans (by congr 2))<|ZCS (i:=j+v_.length) Tryz.underlying34 TTryz.ef9.sh rfl rfl (by omega) (by omega) (by omega)<|ZAD (v:= .hs (Enc.k Str) m 0 (s_.length+v_.length) cap) rfl<|ZAD (v:= .int .i64 ((j:Nat):Int)) rfl<|ZEs (i:=j) Tryz.underlying34 TTryz.ef9.sh rfl rfl (by omega) (by omega) hs hk0 (by omega) fun w hw=>ZFq (a:=j+v_.length) Tryz.underlying34 rfl TTryz.ef9.sh rfl rfl hw hs hk0 (fun v hv=>hk0 v (List.mem_of_mem_take (List.mem_of_mem_drop hv))) (by omega) fun _ s hs=>ZAA ?_
 obtain⟨src,hsr⟩:∃L,L=(L0.take (s_.length+v_.length)).drop j:=⟨_,rfl⟩;rw[←hsr] at hs;have hks:∀v∈src,ZAq (Enc.k Str) v:=fun v hv=>by rw[hsr] at hv;exact hk0 v (List.mem_of_mem_take (List.mem_of_mem_drop hv))
 have hsl2:src.length=s_.length+v_.length - j:=by rw[hsr];simp;omega
 obtain⟨q,hq⟩:∃q,q=s_.length+v_.length - (j+v_.length):=⟨_,rfl⟩;rw[←hq] at hs;obtain⟨L1,hL1⟩:∃L,L=L0.take (j+v_.length)++src.take (min src.length q)++L0.drop (j+v_.length+min src.length q):=⟨_,rfl⟩;rw[←hL1] at hs;have hk1:∀v∈L1,ZAq (Enc.k Str) v:=by rw[hL1];exact ZHv hk0 (fun v hv=>hks v (List.mem_of_mem_take hv))
 have hl1:L1.length=s_.length+v_.length:=by rw[hL1];simp;omega
 repeat refine ZAB ?_
 refine ZAC<|ZAD (v:= .hs (Enc.k Str) m 0 (s_.length+v_.length) cap) rfl<|ZAD (v:= .int .i64 ((j:Nat):Int)) rfl<|ZCS (i:=j) Tryz.underlying34 TTryz.ef9.sh rfl rfl (by omega) (by omega) (by omega)<|ZAD (v:= .vec (Enc.k Str) us cp) rfl<|ZFq (a:=j) Tryz.underlying34 rfl TTryz.ef9.sh rfl rfl (hsrcv s) hs hk1 hus.ok (by omega) fun _ s hs=>ZAA ?_
 rw[ZJm (n:=s_.length) (m:=v_.length) hyl hcl hul hj hL0 hsr hq hL1] at hs;repeat refine ZAB ?_
 refine ZAC<|ZAD (v:= .hs (Enc.k Str) m 0 (s_.length+v_.length) cap) rfl<|ZAG (v:= .hs (Enc.k Str) m 0 (s_.length+v_.length) cap) rfl<|ZAA<|ZAN ?_
 exact⟨rfl,KN1 rfl rfl ⟨_,ZHw hrl.symm hfin (by rw[hsp',List.length_drop,hsp,←Nat.sub_mul,hrl,Nat.sub_sub]) (by omega) (fun y hy=>hone y (by rw[hsp'] at hy;exact List.mem_of_mem_drop hy)),hs⟩⟩
noncomputable def ZIT (s_:List Int) (i_:Int) (v_:List Int):Option (List Int):=ins 8 s_ i_ v_
theorem ZLo (s_:List Int) (i_:Int) (v_ r:List Int) (h:ZIT s_ i_ v_=some r) {x_s:AV} {en_s:En} (hm:isM x_s en_s s_) {x_v:AV} (hv:is x_v v_) {s:St} {enF:En} {G:Glob} (hs:Hp s [en_s,enF, .gl G]):MF Tryz.prog pz30 90 [x_s,enc i_,x_v] s fun v s' =>∃en',isM v en' r∧Hp s' [en',enF, .gl G]:=by
 unfold ZIT at h;obtain⟨j,rfl,hj,hroom,hr⟩:=ZLj h;have hro:=(ZDz hroom).1;obtain⟨za,hza,hzok⟩:=ZKq (T:=Int) TTryz.ze3;refine ZDD [(0,x_s),(1,(.int .i64 ((j:Nat):Int))),(2,x_v)] Tryz.func90 rfl (by simp only[Tryz.f90];rfl) fun ψ=> ?_
 repeat refine ZAB ?_
 refine ZAC<|ZAG (v:= .nils) rfl<|ZAA ?_
 repeat refine ZAB ?_
 refine ZAC<|ZAD (v:=x_s) rfl<|ZAD (v:= .int .i64 ((j:Nat):Int)) rfl<|ZRx Tryz.underlying35 TTryz.ef3.sh rfl rfl hm hj hs fun _=>ZAA ?_
 repeat refine ZAB ?_
 refine ZAC<|ZAD (v:=x_v) rfl<|ZAp Tryz.underlying35 rfl rfl hv<|ZAG (v:= .int .i64 ((v_.length:Nat):Int)) rfl<|ZAA ?_
 repeat refine ZAB ?_
 refine ZAC<|ZAD (v:= .int .i64 ((v_.length:Nat):Int)) rfl<|ZAL (v:= .bool (((v_.length:Nat):Int)==0)) rfl rfl rfl<|ZAA ?_
 by_cases hv0:v_=[]
 ·refine ZAI rfl (by rw[hv0];rfl) ?_
  repeat refine ZAB ?_
  refine ZAC<|ZAD (v:=x_s) rfl<|ZAG (v:=x_s) rfl<|ZAA<|ZAN ?_
  have hr' :r=s_:=by rw[hr,hv0];simp
  subst hr';exact⟨rfl,KN1 rfl rfl ⟨_,hm,hs⟩⟩
 have hvl:0<v_.length:=List.length_pos_iff.2 hv0
 obtain⟨us,cp,rfl,hus⟩:∃us cp,x_v= .vec (Enc.k Int) us cp∧isR us v_:=by
  rcases hv with⟨_,h0⟩ | ⟨us,c,h1,h2⟩
  ·exact absurd h0 hv0
  exact⟨us,c,h1,h2⟩
 have hul:=hus.len;have hsrcv:∀s,ZCh (Enc.k Int) (.vec (Enc.k Int) us cp) s=some us:=fun s=>by simp[ZCh,elems]
 refine ZAJ rfl (by simp;omega)<|ZAM ?_
 repeat refine ZAB ?_
 refine ZAC<|ZAD (v:=x_s) rfl<|ZIf Tryz.underlying35 rfl rfl hm<|ZAG (v:= .int .i64 ((s_.length:Nat):Int)) rfl<|ZAA ?_
 repeat refine ZAB ?_
 refine ZAC<|ZAD (v:= .int .i64 ((j:Nat):Int)) rfl<|ZAD (v:= .int .i64 ((s_.length:Nat):Int)) rfl<|ZAL (v:= .bool (((j:Nat):Int)==((s_.length:Nat):Int))) rfl rfl rfl<|ZAA ?_
 by_cases hjn:j=s_.length
 ·refine ZAI rfl (by rw[hjn];simp) ?_
  have hx:app 8 s_ v_=some r:=by unfold app;rw[if_pos hroom,hr,hjn];simp
  repeat refine ZAB ?_
  refine ZAC<|ZAD (v:=x_s) rfl<|ZAD (v:= .vec (Enc.k Int) us cp) rfl<|ZF6 Tryz.underlying35 Tryz.underlying35 rfl rfl TTryz.ef3 rfl rfl (isM.ap hm) hv hx hs fun z en s hz hs=>ZAG (v:=z) rfl<|ZAA<|ZAN ?_
  exact⟨rfl,KN1 rfl rfl ⟨_,hz,hs⟩⟩
 refine ZAJ rfl (by simp;omega)<|ZAM ?_
 obtain⟨m,cap,ys,sp,rfl,rfl,hys,hsp,hcap,hone⟩:isO x_s en_s s_:=by
  rcases hm with h | ⟨h0,_⟩
  ·exact h
  exfalso;subst h0;simp at hj hjn;omega
 have hyl:=hys.len;have hrl:r.length=s_.length+v_.length:=by rw[hr];simp;omega
 have hfin:isR (ys.take j++us++ys.drop j) r:=by rw[hr];exact((hys.take j).append hus).append (hys.drop j)
 repeat refine ZAB ?_
 refine ZAC<|ZAD (v:= .int .i64 ((s_.length:Nat):Int)) rfl<|ZAD (v:= .int .i64 ((v_.length:Nat):Int)) rfl<|ZAL (v:= .int .i64 (((s_.length:Nat):Int)+((v_.length:Nat):Int))) rfl rfl (ZC6 (by omega))<|ZAD (v:= .hs (Enc.k Int) m 0 s_.length cap) rfl<|ZOZ Tryz.underlying35 rfl rfl<|ZAL (v:= .bool (decide (((s_.length:Nat):Int)+((v_.length:Nat):Int) > ((cap:Nat):Int)))) rfl rfl rfl<|ZAA ?_
 by_cases hgr:cap<s_.length+v_.length
 ·refine ZAI rfl (by simp;omega) ?_
  obtain⟨q,hq⟩:∃q,q=s_.length+v_.length - j:=⟨_,rfl⟩;repeat refine ZAB ?_
  refine ZAC<|ZAD (v:= .hs (Enc.k Int) m 0 s_.length cap) rfl<|ZAD (v:= .int .i64 ((j:Nat):Int)) rfl<|ZFa Tryz.underlying35 TTryz.ef3.sh rfl rfl (by omega) hcap<|ZAD (v:= .int .i64 ((s_.length:Nat):Int)) rfl<|ZAD (v:= .int .i64 ((v_.length:Nat):Int)) rfl<|ZAL (v:= .int .i64 (((s_.length:Nat):Int)+((v_.length:Nat):Int))) rfl rfl (ZC6 (by omega))<|ZAD (v:= .int .i64 ((j:Nat):Int)) rfl<|ZAL (v:= .int .i64 ((q:Nat):Int)) rfl rfl ((ZRw (by omega)).trans (by congr 2;omega))<|ZRt (i:=j) (q:=q) Tryz.underlying35 Tryz.underlying3 rfl rfl rfl TTryz.ef3 hza hzok rfl rfl hs hys.ok (by omega) (by omega) (by omega) (by rw[show j+q=s_.length+v_.length by omega];exact hroom) fun m' nc zs s hnc hzl hzo hs=>ZAG (v:= .hs (Enc.k Int) m' 0 (j+q) nc) rfl<|ZAA ?_
  obtain⟨L0,hL0⟩:∃L,L=ys.take j++List.replicate q za:=⟨_,rfl⟩;rw[←hL0] at hs;have hl0:L0.length=j+q:=by rw[hL0];simp;omega
  have hk0:∀v∈L0,ZAq (Enc.k Int) v:=by
   intro v hv;rw[hL0] at hv;rcases List.mem_append.1 hv with hv | hv
   ·exact hys.ok v (List.mem_of_mem_take hv)
   rw[List.eq_of_mem_replicate hv];exact hzok
  repeat refine ZAB ?_
  refine ZAC<|ZAD (v:= .hs (Enc.k Int) m' 0 (j+q) nc) rfl<|ZAD (v:= .int .i64 ((j:Nat):Int)) rfl<|ZCS Tryz.underlying35 TTryz.ef3.sh rfl rfl (by omega) hnc (by omega)<|ZAD (v:= .vec (Enc.k Int) us cp) rfl<|ZFq (a:=j) Tryz.underlying35 rfl TTryz.ef3.sh rfl rfl (hsrcv s) hs hk0 hus.ok (by omega) fun _ s hs=>ZAA ?_
  obtain⟨L1,hL1⟩:∃L,L=L0.take j++us.take (min us.length (j+q - j))++L0.drop (j+min us.length (j+q - j)):=⟨_,rfl⟩;rw[←hL1] at hs;have hk1:∀v∈L1,ZAq (Enc.k Int) v:=by rw[hL1];exact ZHv hk0 (fun v hv=>hus.ok v (List.mem_of_mem_take hv))
  have hl1:L1.length=j+q:=by rw[hL1];simp;omega
  repeat refine ZAB ?_
  refine ZAo (by decide+kernel) (by decide+kernel)<|ZAD (v:= .hs (Enc.k Int) m' 0 (j+q) nc) rfl<|ZAD (v:= .int .i64 ((j:Nat):Int)) rfl<|ZAD (v:= .int .i64 ((v_.length:Nat):Int)) rfl<|ZAL (v:= .int .i64 ((j+v_.length:Nat):Int)) rfl rfl ((ZC6 (by omega)).trans (by congr 2))<|ZCS (i:=j+v_.length) Tryz.underlying35 TTryz.ef3.sh rfl rfl (by omega) hnc (by omega)<|ZAD (v:= .hs (Enc.k Int) m 0 s_.length cap) rfl<|ZAD (v:= .int .i64 ((j:Nat):Int)) rfl<|ZEs (i:=j) Tryz.underlying35 TTryz.ef3.sh rfl rfl (by omega) hcap (Hp.front [_] (b:=[enF, .gl G]) hs) hys.ok (by omega) fun w hw=>ZFq (a:=j+v_.length) Tryz.underlying35 rfl TTryz.ef3.sh rfl rfl hw hs hk1 (fun v hv=>hys.ok v (List.mem_of_mem_take (List.mem_of_mem_drop hv))) (by omega) fun _ s hs=>ZAA ?_
  rw[ZLl (n:=s_.length) (m:=v_.length) hyl hul hj (by rw[hL0,hq]) (by rw[hq]) (by rw[hq]) hL1 rfl] at hs
  repeat refine ZAB ?_
  refine ZAC<|ZAD (v:= .hs (Enc.k Int) m' 0 (j+q) nc) rfl<|ZAG (v:= .hs (Enc.k Int) m' 0 (j+q) nc) rfl<|ZAA<|ZAN ?_
  exact⟨rfl,KN1 rfl rfl ⟨_,ZHw (by omega) hfin (by rw[hzl,hrl];congr 1;omega) (by omega) hzo,Hp.drop [_] (b:=[enF, .gl G]) hs⟩⟩
 refine ZAJ rfl (by simp;omega)<|ZAM ?_
 repeat refine ZAB ?_
 refine ZAC<|ZAD (v:= .hs (Enc.k Int) m 0 s_.length cap) rfl<|ZAD (v:= .int .i64 ((s_.length:Nat):Int)) rfl<|ZAD (v:= .int .i64 ((v_.length:Nat):Int)) rfl<|ZAL (v:= .int .i64 ((s_.length+v_.length:Nat):Int)) rfl rfl ((ZC6 (by omega)).trans (by congr 2))<|ZFa (j:=s_.length+v_.length) Tryz.underlying35 TTryz.ef3.sh rfl rfl (by omega) hcap<|ZAG (v:= .hs (Enc.k Int) m 0 (s_.length+v_.length) cap) rfl<|ZAA ?_
 have hsl:v_.length*esz (Enc.k Int)≤sp.length:=by rw[hsp];exact Nat.mul_le_mul_right _ (by omega)
 obtain⟨hrm,hko,hcl⟩:=ZHO (k:=Enc.k Int) (m:=v_.length) (ys:=ys) hone hsl;rw[hrm] at hs;obtain⟨ws,hws⟩:∃L,L=ZCl (Enc.k Int) sp v_.length:=⟨_,rfl⟩;rw[←hws] at hs hko hcl;obtain⟨sp',hsp'⟩:∃L,L=sp.drop (v_.length*esz (Enc.k Int)):=⟨_,rfl⟩;rw[←hsp'] at hs;obtain⟨L0,hL0⟩:∃L,L=ys++ws:=⟨_,rfl⟩;rw[←hL0] at hs;have hl0:L0.length=s_.length+v_.length:=by rw[hL0];simp;omega
 have hk0:∀v∈L0,ZAq (Enc.k Int) v:=by
  intro v hv;rw[hL0] at hv;rcases List.mem_append.1 hv with hv | hv
  ·exact hys.ok v hv
  exact hko v hv
 repeat refine ZAB ?_
 refine ZAC<|ZAD (v:= .vec (Enc.k Int) us cp) rfl<|ZAD (v:= .hs (Enc.k Int) m 0 (s_.length+v_.length) cap) rfl<|ZAD (v:= .int .i64 ((j:Nat):Int)) rfl<|ZAD (v:= .int .i64 ((v_.length:Nat):Int)) rfl<|ZAL (v:= .int .i64 ((j+v_.length:Nat):Int)) rfl rfl ((ZC6 (by omega)).trans (by congr 2))<|ZCS (i:=j+v_.length) Tryz.underlying35 TTryz.ef3.sh rfl rfl (by omega) (by omega) (by omega)<|ZRv (tR:=4) Tryz.func109 (by kernel_rfl) (by kernel_rfl) (by kernel_rfl) (by kernel_rfl) Tryz.underlying35 TTryz.ef3.sh rfl (by intro h0;rw[h0] at hul;simp at hul;omega) rfl hs hk0 (by omega)<|ZBS (v:= .bool true) rfl rfl<|ZAA<|ZAI rfl rfl ?_
 repeat refine ZAB ?_
 refine ZAo (by decide+kernel) (by decide+kernel)<|ZAD (v:= .hs (Enc.k Int) m 0 (s_.length+v_.length) cap) rfl<|ZAD (v:= .int .i64 ((j:Nat):Int)) rfl<|ZAD (v:= .int .i64 ((v_.length:Nat):Int)) rfl<|ZAL (v:= .int .i64 ((j+v_.length:Nat):Int)) rfl rfl ((ZC6 (by omega)).trans (by congr 2))<|ZCS (i:=j+v_.length) Tryz.underlying35 TTryz.ef3.sh rfl rfl (by omega) (by omega) (by omega)<|ZAD (v:= .hs (Enc.k Int) m 0 (s_.length+v_.length) cap) rfl<|ZAD (v:= .int .i64 ((j:Nat):Int)) rfl<|ZEs (i:=j) Tryz.underlying35 TTryz.ef3.sh rfl rfl (by omega) (by omega) hs hk0 (by omega) fun w hw=>ZFq (a:=j+v_.length) Tryz.underlying35 rfl TTryz.ef3.sh rfl rfl hw hs hk0 (fun v hv=>hk0 v (List.mem_of_mem_take (List.mem_of_mem_drop hv))) (by omega) fun _ s hs=>ZAA ?_
 obtain⟨src,hsr⟩:∃L,L=(L0.take (s_.length+v_.length)).drop j:=⟨_,rfl⟩;rw[←hsr] at hs;have hks:∀v∈src,ZAq (Enc.k Int) v:=fun v hv=>by rw[hsr] at hv;exact hk0 v (List.mem_of_mem_take (List.mem_of_mem_drop hv))
 have hsl2:src.length=s_.length+v_.length - j:=by rw[hsr];simp;omega
 obtain⟨q,hq⟩:∃q,q=s_.length+v_.length - (j+v_.length):=⟨_,rfl⟩;rw[←hq] at hs;obtain⟨L1,hL1⟩:∃L,L=L0.take (j+v_.length)++src.take (min src.length q)++L0.drop (j+v_.length+min src.length q):=⟨_,rfl⟩;rw[←hL1] at hs;have hk1:∀v∈L1,ZAq (Enc.k Int) v:=by rw[hL1];exact ZHv hk0 (fun v hv=>hks v (List.mem_of_mem_take hv))
 have hl1:L1.length=s_.length+v_.length:=by rw[hL1];simp;omega
 repeat refine ZAB ?_
 refine ZAC<|ZAD (v:= .hs (Enc.k Int) m 0 (s_.length+v_.length) cap) rfl<|ZAD (v:= .int .i64 ((j:Nat):Int)) rfl<|ZCS (i:=j) Tryz.underlying35 TTryz.ef3.sh rfl rfl (by omega) (by omega) (by omega)<|ZAD (v:= .vec (Enc.k Int) us cp) rfl<|ZFq (a:=j) Tryz.underlying35 rfl TTryz.ef3.sh rfl rfl (hsrcv s) hs hk1 hus.ok (by omega) fun _ s hs=>ZAA ?_
 rw[ZJm (n:=s_.length) (m:=v_.length) hyl hcl hul hj hL0 hsr hq hL1] at hs;repeat refine ZAB ?_
 refine ZAC<|ZAD (v:= .hs (Enc.k Int) m 0 (s_.length+v_.length) cap) rfl<|ZAG (v:= .hs (Enc.k Int) m 0 (s_.length+v_.length) cap) rfl<|ZAA<|ZAN ?_
 exact⟨rfl,KN1 rfl rfl ⟨_,ZHw hrl.symm hfin (by rw[hsp',List.length_drop,hsp,←Nat.sub_mul,hrl,Nat.sub_sub]) (by omega) (fun y hy=>hone y (by rw[hsp'] at hy;exact List.mem_of_mem_drop hy)),hs⟩⟩
end Go.Ai.Rab
end
section
set_option maxRecDepth 100000
namespace Go.Proofs.Er
open Go.Proofs Go.RowKit Go.Extern.Stop Go.Stop Go.Extern

/- errors.As at the refusal's place. -/
theorem ZVi (t:Value) (w:World):
  Calls Tryz.prog 68 #[.nilIface,t] w fun e w' =>e= .returned (.bool false)∧w' =w:=by
 go_enter Tryz.func68,Tryz.ntmps68
 go_wp2
 go_ret
 exact⟨rfl,rfl⟩

/- errors.As at the refusal's place. -/
theorem Tryz.er_valueOf27 (t:Addr) (w:World):(ReflectliteValue.unpack (.iface 113 (.pointer (some t)))).run Tryz.prog w
  = .ok (.agg #[.pointer (some ⟨4,113,none⟩), .pointer (some ⟨w.heap.size,0,none⟩), .int .u64 150]) (w.alloc (.cells #[.pointer (some t)] 113)):=by kernel_rfl
theorem Tryz.er_type27 (a:Addr) (w:World):(ReflectliteValue.methodAny (ReflectliteValue.valueError "reflectlite.Value.Type" 0) (fun t _ _ _=>ReflectliteType.toType t) #[.agg #[.pointer (some ⟨4,113,none⟩), .pointer (some a), .int .u64 150]]).run Tryz.prog w
  = .ok (.iface 168 (.agg #[.pointer (some ⟨4,113,none⟩)])) w:=by kernel_rfl
theorem Tryz.er_methodKind (h:Value) (w:World):(Go.method 337 168 (.agg #[h]) "Kind").run Tryz.prog w= .ok (164,h) w:=by kernel_rfl
theorem Tryz.er_kind27 (w:World):((ReflectliteType.abiMethod fun t=>(fun a:Nat=>Value.int IntKind.u8 (a:Int))<$> Rtype.kind t) #[.pointer (some ⟨4,113,none⟩)]).run Tryz.prog w= .ok (.int .u8 22) w:=by kernel_rfl
theorem Tryz.er_kind25 (w:World):((ReflectliteType.abiMethod fun t=>(fun a:Nat=>Value.int IntKind.u8 (a:Int))<$> Rtype.kind t) #[.pointer (some ⟨4,111,none⟩)]).run Tryz.prog w= .ok (.int .u8 22) w:=by kernel_rfl

/- errors.As at the refusal's place. -/
theorem rlm (z:Sem Value) (f:TypeId→Addr→Nat→Nat→Sem Value) (v:Value):
  ReflectliteValue.method z f #[v]=(do match ←ReflectliteValue.parts v with | none=>z | some (t,a,fl)=>f t a fl (fl % 32)):=rfl
theorem Tryz.er_parts27 (a:Addr) (w:World):(ReflectliteValue.parts (.agg #[.pointer (some ⟨4,113,none⟩), .pointer (some a), .int .u64 150])).run Tryz.prog w= .ok (some (113,a,150)) w:=by kernel_rfl
/- errors.As at the refusal's place. -/
theorem Tryz.er_isNil27 (a p:Addr) (W:World) (ha:W.cell? a=some (.pointer (some p))):
  (ReflectliteValue.method (ReflectliteValue.valueError "reflectlite.Value.IsNil" 0) ReflectliteValue.isNil #[.agg #[.pointer (some ⟨4,113,none⟩), .pointer (some a), .int .u64 150]]).run Tryz.prog W= .ok (.bool false) W:=by
 rw[rlm];simp only[Sem.run_bind,Tryz.er_parts27,Result.andThen];simp[ReflectliteValue.isNil,loadVar,isAgg,underlying,Tryz.underlying113,ha,Result.andThen]

theorem Tryz.er_methodElem (h:Value) (w:World):(Go.method 337 168 (.agg #[h]) "Elem").run Tryz.prog w= .ok (174, .agg #[h]) w:=by kernel_rfl
theorem Tryz.er_methodImplements (h:Value) (w:World):(Go.method 337 168 (.agg #[h]) "Implements").run Tryz.prog w= .ok (175, .agg #[h]) w:=by kernel_rfl
theorem Tryz.er_methodAssignableTo (h:Value) (w:World):(Go.method 337 168 (.agg #[h]) "AssignableTo").run Tryz.prog w= .ok (172, .agg #[h]) w:=by kernel_rfl
theorem Tryz.er_elem27 (w:World):(ReflectliteType.method ReflectliteType.elem #[.agg #[.pointer (some ⟨4,113,none⟩)]]).run Tryz.prog w= .ok (.iface 168 (.agg #[.pointer (some ⟨4,111,none⟩)])) w:=by kernel_rfl
theorem Tryz.er_implements25 (w:World):(ReflectliteType.relation "Implements" ReflectliteType.implements_ #[.agg #[.pointer (some ⟨4,111,none⟩)], .iface 168 (.agg #[.pointer (some ⟨4,70,none⟩)])]).run Tryz.prog w= .ok (.bool true) w:=by kernel_rfl
theorem Tryz.er_typeOf25 (v:Value) (w:World):(ReflectliteType.typeOf #[.iface 111 v]).run Tryz.prog w= .ok (.iface 168 (.agg #[.pointer (some ⟨4,111,none⟩)])) w:=by kernel_rfl
theorem Tryz.er_assignable25 (w:World):(ReflectliteType.relation "AssignableTo" ReflectliteType.assignableTo #[.agg #[.pointer (some ⟨4,111,none⟩)], .iface 168 (.agg #[.pointer (some ⟨4,111,none⟩)])]).run Tryz.prog w= .ok (.bool true) w:=by kernel_rfl
theorem Tryz.er_valueOf25 (e:Addr) (w:World):(ReflectliteValue.unpack (.iface 111 (.pointer (some e)))).run Tryz.prog w
  = .ok (.agg #[.pointer (some ⟨4,111,none⟩), .pointer (some ⟨w.heap.size,0,none⟩), .int .u64 150]) (w.alloc (.cells #[.pointer (some e)] 111)):=by kernel_rfl

theorem Tryz.er_elemOf27 (w:World):(Rtype.elem? 113).run Tryz.prog w= .ok (some 111) w:=by kernel_rfl
theorem Tryz.er_mk25 (p:Addr) (w:World):(ReflectliteValue.mk 111 p ReflectliteValue.flagAddr).run Tryz.prog w= .ok (.agg #[.pointer (some ⟨4,111,none⟩), .pointer (some p), .int .u64 406]) w:=by kernel_rfl
/- errors.As at the refusal's place. -/
theorem Tryz.er_elemV27 (a p:Addr) (W:World) (ha:W.cell? a=some (.pointer (some p))):
  (ReflectliteValue.method (ReflectliteValue.valueError "reflectlite.Value.Elem" 0) ReflectliteValue.elem #[.agg #[.pointer (some ⟨4,113,none⟩), .pointer (some a), .int .u64 150]]).run Tryz.prog W
   = .ok (.agg #[.pointer (some ⟨4,111,none⟩), .pointer (some p), .int .u64 406]) W:=by
 rw[rlm];simp only[Sem.run_bind,Tryz.er_parts27,Result.andThen];simp[ReflectliteValue.elem,loadVar,isAgg,underlying,Tryz.underlying113,ha,Result.andThen,Tryz.er_elemOf27,Tryz.er_mk25]
theorem rls (v x:Value):ReflectliteValue.set #[v,x]=(do
  let(some (dst,a,fl),some (src,b,_)):=(←ReflectliteValue.parts v,←ReflectliteValue.parts x)
   | unsupported (.noEntry "extern/(internal/reflectlite.Value).Set.zeroValue")
  if fl / ReflectliteValue.flagAddr % 2==0 then unsupported (.noEntry "extern/(internal/reflectlite.Value).Set.unaddressable")
  let val ←loadVar src b
  if ←Rtype.directlyAssignable dst src then storeVar dst a val
  else if ←Rtype.implements dst src then
   if(←Rtype.kind src)==20 then
    match val with
    | .nilIface=>unsupported (.noEntry "extern/reflectlite: a nil value of one interface type handed on as a value of another")
    | _=>storeVar dst a val
   else storeVar dst a (.iface src val)
  else panicString ("reflectlite.Set: value of type " ++(←Rtype.spelt src)++ " is not assignable to type " ++(←Rtype.spelt dst))
  pure (.tuple #[])):=rfl
theorem Tryz.er_parts25a (a:Addr) (w:World):(ReflectliteValue.parts (.agg #[.pointer (some ⟨4,111,none⟩), .pointer (some a), .int .u64 406])).run Tryz.prog w= .ok (some (111,a,406)) w:=by kernel_rfl
theorem Tryz.er_parts25 (a:Addr) (w:World):(ReflectliteValue.parts (.agg #[.pointer (some ⟨4,111,none⟩), .pointer (some a), .int .u64 150])).run Tryz.prog w= .ok (some (111,a,150)) w:=by kernel_rfl
theorem Tryz.er_direct25 (w:World):(Rtype.directlyAssignable 111 111).run Tryz.prog w= .ok true w:=by kernel_rfl
/- errors.As at the refusal's place. -/
theorem Tryz.er_set25 (ta b e:Addr) (old:Value) (W:World) (hb:W.cell? b=some (.pointer (some e))) (ht:W.cell? ta=some old) (hf:W.frozen? ta=false):
  (ReflectliteValue.set #[.agg #[.pointer (some ⟨4,111,none⟩), .pointer (some ta), .int .u64 406], .agg #[.pointer (some ⟨4,111,none⟩), .pointer (some b), .int .u64 150]]).run Tryz.prog W
   = .ok (.tuple #[]) (W.setCell ta (.pointer (some e))):=by
 rw[rls];simp only[Sem.run_bind,Tryz.er_parts25a,Tryz.er_parts25,Result.andThen];simp[ReflectliteValue.flagAddr,loadVar,isAgg,underlying,Tryz.underlying111,hb,Result.andThen,Tryz.er_direct25,storeVar,Value.cells,storeCells,Addr.add]
 rw[run_store Tryz.prog W ta _ _ (by rfl)]
 simp[ht,hf]

set_option maxHeartbeats 4000000 in
theorem ZVj (e t:Addr) (old:Value) (w:World) (hg:w.cell? ⟨0,0,none⟩=some (.iface 168 (.agg #[.pointer (some ⟨4,70,none⟩)]))) (ht0:w.cell? t=some old) (hf0:w.frozen? t=false):
  Calls Tryz.prog 68 #[.iface 111 (.pointer (some e)), .iface 113 (.pointer (some t))] w fun ev w' =>ev= .returned (.bool true)∧w' =((((w.alloc (.cells #[.pointer (some t)] 113)).alloc (.cells #[.pointer (some ⟨4,113,none⟩), .pointer (some ⟨w.heap.size,0,none⟩), .int .u64 150] 141)).alloc (.cells #[.pointer (some ⟨4,113,none⟩), .pointer (some ⟨w.heap.size,0,none⟩), .int .u64 150] 141)).alloc (.cells #[.pointer (some e)] 111)).setCell t (.pointer (some e)):=by
 have h6:= @run_callFunc_extern Tryz.prog 91 _ (fun args=>ReflectliteValue.unpack (args.getD 0 (.tuple #[]))) Tryz.func91 (by kernel_rfl) (by kernel_rfl) (by kernel_rfl) (by kernel_rfl)
 have h7:= @run_callFunc_extern Tryz.prog 92 _ (ReflectliteValue.methodAny (ReflectliteValue.valueError "reflectlite.Value.Type" 0) (fun t _ _ _=>ReflectliteType.toType t)) Tryz.func92 (by kernel_rfl) (by kernel_rfl) (by kernel_rfl) (by kernel_rfl)
 have h8:= @run_callFunc_extern Tryz.prog 93 _ (ReflectliteValue.method (ReflectliteValue.valueError "reflectlite.Value.IsNil" 0) ReflectliteValue.isNil) Tryz.func93 (by kernel_rfl) (by kernel_rfl) (by kernel_rfl) (by kernel_rfl)
 have h27:= @run_callFunc_extern Tryz.prog 164 _ (ReflectliteType.abiMethod fun t=>do pure (.int .u8 (←Rtype.kind t))) Tryz.func164 (by kernel_rfl) (by kernel_rfl) (by kernel_rfl) (by kernel_rfl)
 have h37:= @run_callFunc_extern Tryz.prog 174 _ (ReflectliteType.method ReflectliteType.elem) Tryz.func174 (by kernel_rfl) (by kernel_rfl) (by kernel_rfl) (by kernel_rfl)
 have h38:= @run_callFunc_extern Tryz.prog 175 _ (ReflectliteType.relation "Implements" ReflectliteType.implements_) Tryz.func175 (by kernel_rfl) (by kernel_rfl) (by kernel_rfl) (by kernel_rfl)
 have h10:= @run_callFunc_extern Tryz.prog 111 _ ReflectliteType.typeOf Tryz.func111 (by kernel_rfl) (by kernel_rfl) (by kernel_rfl) (by kernel_rfl)
 have h35:= @run_callFunc_extern Tryz.prog 172 _ (ReflectliteType.relation "AssignableTo" ReflectliteType.assignableTo) Tryz.func172 (by kernel_rfl) (by kernel_rfl) (by kernel_rfl) (by kernel_rfl)
 have h11:= @run_callFunc_extern Tryz.prog 112 _ (ReflectliteValue.method (ReflectliteValue.valueError "reflectlite.Value.Elem" 0) ReflectliteValue.elem) Tryz.func112 (by kernel_rfl) (by kernel_rfl) (by kernel_rfl) (by kernel_rfl)
 have h12:= @run_callFunc_extern Tryz.prog 113 _ ReflectliteValue.set Tryz.func113 (by kernel_rfl) (by kernel_rfl) (by kernel_rfl) (by kernel_rfl)
 have tO:=Tryz.er_typeOf25;have mA:=Tryz.er_methodAssignableTo;have a25:=Tryz.er_assignable25;have v25:=Tryz.er_valueOf25;have f6:=Tryz.er_valueOf27;have f7:=Tryz.er_type27;have mK:=Tryz.er_methodKind;have mE:=Tryz.er_methodElem;have mI:=Tryz.er_methodImplements;have k27:=Tryz.er_kind27;have k25:=Tryz.er_kind25;have e27:=Tryz.er_elem27;have i25:=Tryz.er_implements25;have n8:=Tryz.er_isNil27 ⟨w.heap.size,0,none⟩ t ((w.alloc (.cells #[.pointer (some t)] 113)).alloc (.cells #[.pointer (some ⟨4,113,none⟩), .pointer (some ⟨w.heap.size,0,none⟩), .int .u64 150] 141)) (by simp)
 have hlt:0<w.heap.size:=by
  rcases Nat.eq_zero_or_pos w.heap.size with h0 | h
  ·simp[World.cell?,h0] at hg
  exact h
 have hg2:((w.alloc (.cells #[.pointer (some t)] 113)).alloc (.cells #[.pointer (some ⟨4,113,none⟩), .pointer (some ⟨w.heap.size,0,none⟩), .int .u64 150] 141)).cell? ⟨0,0,none⟩=some (.iface 168 (.agg #[.pointer (some ⟨4,70,none⟩)])):=by
  rw[World.cell?_alloc_lt _ _ ⟨0,0,none⟩ (by simp),World.cell?_alloc_lt _ _ ⟨0,0,none⟩ hlt];exact hg
 have htl:t.block<w.heap.size:=by
  rcases Nat.lt_or_ge t.block w.heap.size with h | h
  ·exact h
  simp[World.cell?,Array.getElem?_eq_none h] at ht0
 have el:=Tryz.er_elemV27 ⟨w.heap.size,0,none⟩ t (((w.alloc (.cells #[.pointer (some t)] 113)).alloc (.cells #[.pointer (some ⟨4,113,none⟩), .pointer (some ⟨w.heap.size,0,none⟩), .int .u64 150] 141)).alloc (.cells #[.pointer (some ⟨4,113,none⟩), .pointer (some ⟨w.heap.size,0,none⟩), .int .u64 150] 141)) (by rw[World.cell?_alloc_lt _ _ ⟨w.heap.size,0,none⟩ (by simp;omega)];simp)
 have sT:=Tryz.er_set25 t ⟨w.heap.size+1+1+1,0,none⟩ e old ((((w.alloc (.cells #[.pointer (some t)] 113)).alloc (.cells #[.pointer (some ⟨4,113,none⟩), .pointer (some ⟨w.heap.size,0,none⟩), .int .u64 150] 141)).alloc (.cells #[.pointer (some ⟨4,113,none⟩), .pointer (some ⟨w.heap.size,0,none⟩), .int .u64 150] 141)).alloc (.cells #[.pointer (some e)] 111))
  (by rw[World.cell?_alloc_at _ _ _ _ (by simp)];rfl)
  (by rw[World.cell?_alloc_lt _ _ t (by simp;omega),World.cell?_alloc_lt _ _ t (by simp;omega),World.cell?_alloc_lt _ _ t (by simp;omega),World.cell?_alloc_lt _ _ t htl];exact ht0)
  (by rw[World.frozen?_alloc_old _ _ t (by simp;omega),World.frozen?_alloc_old _ _ t (by simp;omega),World.frozen?_alloc_old _ _ t (by simp;omega),World.frozen?_alloc_old _ _ t (Nat.ne_of_lt htl)];exact hf0)
 go_enter Tryz.func68,Tryz.ntmps68
 go_wp2
 refine wp_loop_rounds 1 ?_
 rw[rounds_succ];go_wp2
 go_ret
 exact⟨rfl,rfl⟩
end Go.Proofs.Er
end
