/- My own texts DevTg26, DevTg27, one behind the other. -/
import Derived.Test.YtcffjblfdjkcbaaGreatDoorWAL
set_option linter.unusedVariables false
set_option linter.unusedSimpArgs false
section
namespace Go.Ai
section
variable {P:Program} {q:Prims} {ops:Array Oper}
theorem ZIW {A:Act→World→Prop}:∀(l m:List Oper) {a:Act} {w:World},wl P q ops noQ (wl P q ops noQ A m) l a w→wl P q ops noQ A (l++m) a w
 | [],_,_,_,h=>h
 | o::l,m,a,w,h=>by
  rw[List.cons_append,ZFR];rw[ZFR] at h;exact ZII (fun a' u w' _ hk=>ZIW l m hk) h
theorem ZHP {A B:Act→World→Prop} (hAB:∀a w,A a w→B a w):∀(l:List Oper) {a:Act} {w:World},wl P q ops noQ A l a w→wl P q ops noQ B l a w
 | [],_,_,h=>hAB _ _ h
 | o::l,a,w,h=>by
  rw[ZFR] at h ⊢;exact ZII (fun a' u w' _ hk=>ZHP hAB l hk) h
theorem ZFg {Q:Exit→Act→World→Prop} {G:Act→World→Prop} {fuel j:Nat} {listed:Array Bool} {o:Oper} {a:Act} {w:World} (hoj:ops[j]? =some o) (hfr:sT P q ops G o a w)
  (next:∀a' w',G a' w' →wpAny P .any ops Q fuel (listed.setIfInBounds j true) a' w'):wpOp P ops Q j (wpAny P .any ops Q fuel (listed.setIfInBounds j true)) a w:=by
 unfold wpOp;simp only[hoj];unfold sT at hfr;split
 ·rename_i hw;rw[if_pos hw] at hfr;left
  have h2:=hfr.2;unfold Oper.wp at*;generalize (execOp a.eval o).run P w=r at*
  cases r with
  | ok n w' =>
   cases n<;> simp only[Oper.upon] at h2 ⊢
   case value u=>exact next _ _ h2.2
   case skip=>exact next _ _ h2.2
   case defer d=>exact next _ _ h2.2
   case enter f args=>
    refine Calls.mono h2 fun e w'' he=> ?_
    cases e with
    | returned u=>exact next _ _ he.2
    | panicked c=>exact he.elim
    | outgrown=>obtain⟨_,_,he⟩:=he;exact he.elim
   case row row args=>exact Rows.mono h2 fun u w'' he=>next _ _ he.2
  | halt x w' =>cases x<;> exact h2.elim
 rename_i hw;rw[if_neg hw] at hfr;exact next _ _ hfr
theorem ZHQ {L1 L2:List Nat} {j:Nat} {listed:Array Bool} (hsz:listed.size=ops.size) (hj:j<ops.size) (hnd:(L1++j::L2).Nodup) (hl:∀i,i∈L1++j::L2↔i<ops.size∧listed.getD i false=false):
  (∀i,i∈L1++L2↔i<ops.size∧(listed.setIfInBounds j true).getD i false=false)∧(L1++L2).Nodup∧∀i,(listed.setIfInBounds j true).getD i false=if i=j then true else listed.getD i false:=by
 have hset:∀i,(listed.setIfInBounds j true).getD i false=if i=j then true else listed.getD i false:=fun i=>by
  by_cases e:i=j
  ·subst e;rw[if_pos rfl];simp[Array.getD_eq_getD_getElem?,hsz,hj]
  rw[if_neg e,getD_set_ne false (Ne.symm e)]
 have hnd' :j ∉ L1∧j ∉ L2:=by
  rw[List.nodup_append] at hnd;obtain⟨g1,g2,g3⟩:=hnd;exact⟨fun hm=>g3 j hm j (by simp) rfl,(List.nodup_cons.1 g2).1⟩
 refine⟨fun i=> ?_,?_,hset⟩
 ·rw[hset i];have:=hl i
  simp only[List.mem_append,List.mem_cons] at this ⊢;by_cases e:i=j
  ·subst e;simp[hnd'.1,hnd'.2]
  simp only[e,false_or,if_false] at this ⊢;exact this
 exact List.nodup_append.2 ⟨(List.nodup_append.1 hnd).1,(List.nodup_cons.1 (List.nodup_append.1 hnd).2.1).2,fun x hx y hy=>(List.nodup_append.1 hnd).2.2 x hx y (by simp[hy])⟩
theorem ZCw (l m:List Nat):ZAg ops (l++m)=ZAg ops l++ZAg ops m:=by
 unfold ZAg;rw[List.filterMap_append]
theorem ZEM {j:Nat} {o:Oper} (hoj:ops[j]? =some o) (m:List Nat):ZAg ops (j::m)=o::ZAg ops m:=by
 unfold ZAg;rw[List.filterMap_cons,hoj]
theorem ZGl {pre post:List Nat} {j:Nat} (h:ZHC P q ops (pre++j::post)):ZHC P q ops (pre++post):=
 List.pairwise_append.2 ⟨(List.pairwise_append.1 h).1,(List.pairwise_cons.1 (List.pairwise_append.1 h).2.1).2,fun x hx y hy=>(List.pairwise_append.1 h).2.2 x hx y (by simp[hy])⟩
theorem ZOe {G:Act→World→Prop} {x y:Oper} {v:Value} {a:Act} {w:World} (hc:comm P q ops x y=true) (hnv:(ZCe P y.op || rdOp y.op || ZFQ q y.op || gOp y.op)=true) (hy:Yl P ops (Sub w) x v a) (h:sT P q ops G y a w):
  sT P q ops (fun a' w' =>Yl P ops (Sub w') x v a' ∧G a' w') y a w:=by
 unfold comm at hc;simp only[Bool.and_eq_true] at hc;obtain⟨⟨⟨hap,hsx⟩,hsy⟩,hk⟩:=hc;obtain⟨h1,h2,h3⟩:=Oper.apart_spec hap;have hsx:∀cs b,x.op≠ .select cs b:=fun cs b e=>by rw[e] at hsx;cases hsx
 have trans:∀{w1 w2:World},Sub w1 w2→Yl P ops (Sub w1) x v a→Yl P ops (Sub w2) x v a:=fun h12 hy=>by
  rcases hy with⟨g1,g2⟩ | ⟨g1,g2⟩
  ·exact .inl ⟨g1,fun w3 h23=>g2 w3 fun k o hk=>h23 k o (h12 k o hk)⟩
  exact .inr ⟨g1,g2⟩
 unfold sT at*;split
 ·rename_i hw;rw[if_pos hw] at h;refine⟨h.1,?_⟩
  have hv:=h.1;replace h:=h.2
  unfold Oper.wp at*;have hrd:∀r w1,(execOp a.eval y).run P w= .ok r w1→(ZCe P y.op || rdOp y.op)=true→w1=w:=fun r w1 hr hor=>by
   rw[Bool.or_eq_true] at hor;rcases hor with hh | hh
   ·obtain⟨u,hu⟩:=hv hh;rw[hu w] at hr;injection hr with _ e
    exact e.symm
   exact(ZUe (P:=P) hh _ _ _ hr).1
  have hgs:∀r w1,(execOp a.eval y).run P w= .ok r w1→gOp y.op=true→(∃v,r= .value v)∧Sub w w1:=fun r w1 hr hy=>ZVY hy hr
  have hsub:∀{r w1},(execOp a.eval y).run P w= .ok r w1→∀w2,(ZFQ q y.op=true→Sub w w2)→((ZCe P y.op || rdOp y.op)=true→w2=w)→(gOp y.op=true→Sub w w2)→Sub w w2:=fun hr w2 k1 k2 k3=>by
   rw[Bool.or_eq_true,Bool.or_eq_true] at hnv;rcases hnv with(hh | hh) | hh
   ·rw[k2 hh];exact Sub.refl w
   ·exact k1 hh
   exact k3 hh
  generalize hrun:(execOp a.eval y).run P w=r at*
  cases r with
  | ok n w' =>
   replace hrd:=hrd n w' rfl
   replace hgs:=hgs n w' rfl
   replace hsub:= @hsub n w' rfl
   have hval:(ZCe P y.op || rdOp y.op)=true→∃u,n= .value u:=fun hor=>by
    rw[Bool.or_eq_true] at hor;rcases hor with hh | hh
    ·obtain⟨u,hu⟩:=hv hh;rw[hu w] at hrun;injection hrun with e _
     exact⟨u,e.symm⟩
    exact ZN9 hh hrun
   cases n<;> simp only[Oper.upon] at h ⊢
   case value u=>exact⟨h.1,⟨trans (hsub w' h.1 hrd fun e=>(hgs e).2) hy |>.put h3 hsx,h.2⟩⟩
   case skip=>exact⟨h.1,⟨trans (hsub w' h.1 hrd fun e=>(hgs e).2) hy |>.put h3 hsx,h.2⟩⟩
   case defer d=>exact⟨h.1,⟨(trans (hsub w' h.1 hrd fun e=>(hgs e).2) hy).defers (a' :={a with defers:=d::a.defers}) (.inr ⟨d,rfl⟩) |>.put h3 hsx,h.2⟩⟩
   case enter f args=>
    have hno:¬(ZCe P y.op || rdOp y.op)=true:=fun e=>by obtain⟨u,hu⟩:=hval e;cases hu
    refine Calls.mono h fun e w'' he=> ?_
    cases e with
    | returned u=>exact⟨he.1,⟨trans (hsub w'' he.1 (fun e=>absurd e hno) fun e=>by obtain⟨⟨u,hu⟩,_⟩:=hgs e;cases hu) hy |>.put h3 hsx,he.2⟩⟩
    | panicked c=>exact he
    | outgrown=>exact he
   case row row args=>
    have hno:¬(ZCe P y.op || rdOp y.op)=true:=fun e=>by obtain⟨u,hu⟩:=hval e;cases hu
    exact Rows.mono h fun u w'' he=>⟨he.1,⟨trans (hsub w'' he.1 (fun e=>absurd e hno) fun e=>by obtain⟨⟨u,hu⟩,_⟩:=hgs e;cases hu) hy |>.put h3 hsx,he.2⟩⟩
  | halt x w' =>cases x<;> exact h
 rename_i hw;rw[if_neg hw] at h;exact⟨hy.put h3 hsx,h⟩
theorem ZR3 {A:Act→World→Prop} {x:Oper} {v:Value} (hxn:rdOp x.op=true) (hxv:ZCe P x.op=false) {rest:List Oper}:∀(mid:List Oper) {a:Act} {w:World},(∀y∈mid,comm P q ops x y=true∧(ZCe P y.op || rdOp y.op || ZFQ q y.op || gOp y.op)=true)→Yl P ops (Sub w) x v a→
  wl P q ops noQ (wl P q ops noQ A (x::rest)) mid a w→wl P q ops noQ A (x::(mid++rest)) a w
 | [],a,w,_,_,h=>h
 | y::mid,a,w,hc,hy,h=>by
  rw[ZFR] at h;have h1:=ZOe (hc y (by simp)).1 (hc y (by simp)).2 hy h
  have h2:sT P q ops (wl P q ops noQ A (x::(mid++rest))) y a w:=ZII (fun a' u w' _ hk=>ZR3 hxn hxv mid (fun z hz=>hc z (by simp[hz])) hk.1 hk.2) h1
  -- x behind y; x ZQN of y
  have hcc:=(hc y (by simp)).1
  have hcc' :=hcc
  unfold comm at hcc;simp only[Bool.and_eq_true] at hcc;obtain⟨⟨⟨hap,hsx⟩,hsy⟩,hk⟩:=hcc;obtain⟨g1,g2,g3⟩:=Oper.apart_spec hap;have hsx:∀cs b,x.op≠ .select cs b:=fun cs b e=>by rw[e] at hsx;cases hsx
  have hsy:∀cs b,y.op≠ .select cs b:=fun cs b e=>by rw[e] at hsy;cases hsy
  have g2' :∀d,y.dst=some d→x.dst≠some d:=fun d hd e=>g2 d e hd
  rw[ZFR];refine ZS3 (S:=Sub w) (fun e=>by rw[hxv] at e;cases e) (ZTh hxn) (Sub.refl w) hy ?_
  rw [List.cons_append, ZFR]; -- y, x's value laid: aS y, then x
  have h3:=ZOe hcc' (hc y (by simp)).2 hy h2
  have h4:sT P q ops (fun a' w' =>∃(a0:Act) (u:Value),a' =a0.put y.dst u∧wl P q ops noQ A (mid++rest) ((a0.put x.dst v).put y.dst u) w') y a w:=ZII (fun a' u w' ha' hk=>by
   obtain⟨k1,k2⟩:=hk;refine⟨a',u,rfl,?_⟩
   rw[ZFR] at k2;obtain⟨v2,k3,k4⟩:=ZS2 hxn k2;have e:v2=v:=by
    rcases k3 with⟨m1,m2⟩ | ⟨m1,rfl⟩<;> rcases k1 with⟨m3,m4⟩ | ⟨m3,rfl⟩
    ·have e1:=m2 w' (Sub.refl w');have e2:=m4 w' (Sub.refl w');rw[e1] at e2;injection e2 with e2
     injection e2
    ·rw[m1] at m3;cases m3
    ·rw[m1] at m3;cases m3
    rfl
   subst e;rw[Act.put_comm a' u v2 g2'] at k4;exact k4) h3
  have key:sT P q ops (wl P q ops noQ A (mid++rest)) y (a.put x.dst v) w:=by
   unfold sT at h4 ⊢;rw[wanted_put y a x.dst v g1];split
   ·rename_i hw;rw[if_pos hw] at h4;rw[execOp_put y hsy a x.dst v g1];refine⟨h4.1,?_⟩
    replace h4:=h4.2
    unfold Oper.wp at*;rw[execOp_put y hsy a x.dst v g1];have fin:∀(a1:Act) (u:Value) w',(a1=a∨∃d,a1={a with defers:=d::a.defers})→(∃(a0:Act) (u0:Value),a1.put y.dst u=a0.put y.dst u0∧wl P q ops noQ A (mid++rest) ((a0.put x.dst v).put y.dst u0) w')→wl P q ops noQ A (mid++rest) ((a1.put x.dst v).put y.dst u) w' :=fun a1 u w' _ ⟨a0,u0,e,hk⟩=>by
     have e2:(a1.put x.dst v).put y.dst u=(a0.put x.dst v).put y.dst u0:=by
      rw[←Act.put_comm a1 u v g2',←Act.put_comm a0 u0 v g2',e]
     rw[e2];exact hk
    generalize (execOp a.eval y).run P w=r at*
    cases r with
    | ok n w' =>
     cases n<;> simp only[Oper.upon] at h4 ⊢
     case value u=>exact⟨h4.1,fin a u w' (.inl rfl) h4.2⟩
     case skip=>exact⟨h4.1,fin a undef w' (.inl rfl) h4.2⟩
     case defer d=>
      refine⟨h4.1,?_⟩
      have h6:=fin {a with defers:=d::a.defers} undef w' (.inr ⟨d,rfl⟩) h4.2
      revert h6
      unfold Act.put
      cases x.dst<;> exact fun h=>h
     case enter f args=>
      refine Calls.mono h4 fun e w'' he=> ?_
      cases e with
      | returned u=>exact⟨he.1,fin a u w'' (.inl rfl) he.2⟩
      | panicked c=>exact he
      | outgrown=>exact he
     case row row args=>exact Rows.mono h4 fun u w'' he=>⟨he.1,fin a u w'' (.inl rfl) he.2⟩
    | halt x w' =>cases x<;> exact h4
   rename_i hw;rw[if_neg hw] at h4;obtain⟨a0,u0,e,hk⟩:=h4;have e2:(a.put x.dst v).put y.dst undef=(a0.put x.dst v).put y.dst u0:=by
    rw[←Act.put_comm a undef v g2',←Act.put_comm a0 u0 v g2',e]
   rw[e2];exact hk
  exact key
theorem ZR4 {Q:Exit→Act→World→Prop} {A:Act→World→Prop} {pi qi:Nat} {po qo:Oper} {post:List Nat} (hpr:rdOp po.op=true) (hpv:ZCe P po.op=false) (hpo:ops[pi]? =some po) (hqo:ops[qi]? =some qo)
  (hlt:∀(i:Nat) (o:Oper),ops[i]? =some o→∀e∈o.after,Region.binds .any e=true→e.on<i) (hQ:∀a w,A a w→Q .normal a w)
  (hpost:∀j∈post,((Region.before ops).getD j 0).testBit pi=true∨((Region.before ops).getD j 0).testBit qi=true):
  ∀(fuel:Nat) (pre mid:List Nat) (listed:Array Bool) (a:Act) (w:World),listed.size=ops.size→(pre++pi::(mid++qi::post)).Nodup→(∀i,i∈pre++pi::(mid++qi::post)↔i<ops.size∧listed.getD i false=false)→(pre++pi::(mid++qi::post)).length≤fuel→
   (∀k j,listed.getD k false=true→((Region.before ops).getD k 0).testBit j=true→listed.getD j false=true)→ZHC P q ops (pre++pi::post)→ZHC P q ops (pre++(mid++qi::post))→(∀m∈mid,((Region.before ops).getD qi 0).testBit m=true)→(∀m∈mid,∀y,ops[m]? =some y→comm P q ops po y=true∧(ZCe P y.op || rdOp y.op || ZFQ q y.op || gOp y.op)=true)→
   wl P q ops noQ (fun a w=>(∃v,Yl P ops (Sub w) po v a)∧wl P q ops noQ (fun a w=>wl P q ops noQ A (ZAg ops (pi::qi::post)) a w∧wl P q ops noQ A (ZAg ops (qi::pi::post)) a w) (ZAg ops mid) a w) (ZAg ops pre) a w→wpAny P .any ops Q fuel listed a w:=by
 intro fuel;induction fuel with
 | zero=>intro pre mid listed a w _ _ _ hf;simp at hf
 | succ fuel ih=>
  intro pre mid listed a w hsz hnd hl hf hcl ho1 ho2 hmb hmc h;have hpn:pi<ops.size:=(Array.getElem?_eq_some_iff.1 hpo).1
  have hlp:listed.getD pi false=false:=((hl pi).1 (by simp)).2
  have hlq:listed.getD qi false=false:=((hl qi).1 (by simp)).2
  refine⟨fun hr=> ?_,fun j hj=> ?_⟩
  ·exfalso
   have hall:∀j,j<ops.size→listed.getD j false=true:=by
    intro j;induction j using Nat.strongRecOn with
    | ind j ihj=>
     intro hj
     cases hs:listed.getD j false with
     | true=>rfl
     | false=>
      exfalso
      have hj' :ops[j]? =some ops[j]:=Array.getElem?_eq_getElem hj
      have:j∈Region.ready .any ops listed:=mem_ready.2 ⟨by
       rw[Array.getD_eq_getD_getElem?] at hs ⊢;rw[Array.getElem?_eq_getElem (by omega)] at hs ⊢
       exact hs,ops[j],hj',fun e he hb=>ihj e.on (hlt j _ hj' e he hb) (Nat.lt_trans (hlt j _ hj' e he hb) hj)⟩
      rw[hr] at this;cases this
   rw[hall pi hpn] at hlp;cases hlp
  obtain⟨h1,o,hoj,haft⟩:=mem_ready.1 hj;have hjn:j<ops.size:=(Array.getElem?_eq_some_iff.1 hoj).1
  have hSj:listed.getD j false=false:=by
   rw[Array.getD_eq_getD_getElem?] at h1 ⊢;rw[Array.getElem?_eq_getElem (by omega)] at h1 ⊢
   exact h1
  have hbef:∀k,((Region.before ops).getD j 0).testBit k=true→listed.getD k false=true:=fun k hk=>by
   obtain⟨e,he,hbi,h'⟩:=(ZEA hoj (hlt j o hoj) k).1 hk;have:=haft e he hbi
   rcases h' with rfl | h'
   ·exact this
   exact hcl _ _ this h'
  have hcl' :(∀i,(listed.setIfInBounds j true).getD i false=if i=j then true else listed.getD i false)→∀k i,(listed.setIfInBounds j true).getD k false=true→((Region.before ops).getD k 0).testBit i=true→(listed.setIfInBounds j true).getD i false=true:=fun hset k i hk hbit=>by
   rw[hset k] at hk;rw[hset i];split
   ·rfl
   split at hk
   ·rename_i e;subst e;exact hbef i hbit
   exact hcl k i hk hbit
  have hcomm:∀(pr rest:List Nat),ZHC P q ops (pr++j::rest)→(∀i∈pr,listed.getD i false=false)→∀x∈ZAg ops pr,comm P q ops x o=true:=fun pr rest hor hun x hx=>by
   obtain⟨i,hi,hxi⟩:=List.mem_filterMap.1 hx;have:=(List.pairwise_append.1 hor).2.2 i hi j (by simp)
   rcases this with hbit | ⟨x',y',g1,g2,g3⟩
   ·have:=hbef i hbit
    rw[hun i hi] at this;cases this
   rw[hxi] at g1;injection g1 with g1;subst g1
   rw[hoj] at g2;injection g2 with g2;subst g2
   exact g3
  have hun:∀i∈pre,listed.getD i false=false:=fun i hi=>((hl i).1 (by simp[hi])).2
  have hin:=(hl j).2 ⟨hjn,hSj⟩;have hunm:∀i∈mid,listed.getD i false=false:=fun i hi=>((hl i).1 (by simp[hi])).2
  by_cases ejp:j=pi
  ·subst ejp;rw[hpo] at hoj;injection hoj with hoj;subst hoj
   obtain⟨m1,m2,m3⟩:=ZHQ hsz hjn hnd hl;have h2:=ZIW _ _ (ZHP (B:=wl P q ops noQ A (po::(ZAg ops mid++ZAg ops (qi::post)))) (fun a w hh=>by
    obtain⟨⟨v,hy⟩,hh⟩:=hh;refine ZR3 hpr hpv (ZAg ops mid) (fun y hy=> ?_) hy (ZHP (fun _ _ hk=> ?_) _ hh)
    ·obtain⟨m,hm,hmy⟩:=List.mem_filterMap.1 hy;exact hmc m hm y hmy
    have:=hk.1
    rwa [ZEM hpo] at this) _ h)
   have h3:=ZDM (ZAg ops pre) (hcomm pre post ho1 hun) h2;rw[ZFR,←ZCw,←ZCw] at h3;refine ZFg hpo h3 fun a' w' h4=>ZQ1 hlt hQ fuel (pre++(mid++qi::post)) _ a' w' (by simpa using hsz) m2 m1 ?_ (hcl' m3) ho2 h4
   simp only[List.length_append,List.length_cons] at hf ⊢;omega
  by_cases ejq:j=qi
  ·subst ejq;rw[hqo] at hoj;injection hoj with hoj;subst hoj
   have hm0:mid=[]:=List.eq_nil_iff_forall_not_mem.2 fun m hm=>by
    have:=hbef m (hmb m hm)
    rw[hunm m hm] at this;cases this
   subst hm0;simp only[List.nil_append] at hnd hl hf ho2;have hperm:(pre++pi::j::post).Perm (pre++j::pi::post):=List.Perm.append_left _ (List.Perm.swap _ _ _)
   obtain⟨m1,m2,m3⟩:=ZHQ hsz hjn (hperm.nodup_iff.1 hnd) (fun i=>(hperm.mem_iff (a:=i)).symm.trans (hl i))
   have h2:=ZIW _ _ (ZHP (B:=wl P q ops noQ A (ZAg ops (j::pi::post))) (fun _ _ hh=>hh.2.2) _ h)
   rw[ZEM hqo] at h2;have h3:=ZDM (ZAg ops pre) (hcomm pre post ho2 hun) h2;rw[ZFR,←ZCw] at h3;refine ZFg hqo h3 fun a' w' h4=>ZQ1 hlt hQ fuel (pre++pi::post) _ a' w' (by simpa using hsz) m2 m1 ?_ (hcl' m3) ho1 h4
   simp only[List.length_append,List.length_cons] at hf ⊢;omega
  simp only[List.mem_append,List.mem_cons,ejp,ejq,false_or] at hin;rcases hin with hin | hin | hin
  ·obtain⟨p1,p2,rfl⟩:=List.append_of_mem hin;have e0:p1++j::p2++pi::(mid++qi::post)=p1++j::(p2++pi::(mid++qi::post)):=by simp
   rw[e0] at hnd hl;obtain⟨m1,m2,m3⟩:=ZHQ hsz hjn hnd hl;rw[←List.append_assoc] at m1 m2;have ho1' :ZHC P q ops (p1++j::(p2++pi::post)):=by simpa using ho1
   have ho2' :ZHC P q ops (p1++j::(p2++(mid++qi::post))):=by simpa using ho2
   rw[ZCw,ZEM hoj] at h;have h3:=ZDM (ZAg ops p1) (hcomm p1 _ ho1' (fun i hi=>hun i (by simp[hi]))) h
   rw[ZFR,←ZCw] at h3;refine ZFg hoj h3 fun a' w' h4=>ih (p1++p2) mid _ a' w' (by simpa using hsz) m2 m1 ?_ (hcl' m3) (by simpa using ZGl ho1') (by simpa using ZGl ho2') hmb hmc h4
   simp only[List.length_append,List.length_cons] at hf ⊢;omega
  ·obtain⟨p1,p2,rfl⟩:=List.append_of_mem hin;have e0:pre++pi::(p1++j::p2++qi::post)=(pre++pi::p1)++j::(p2++qi::post):=by simp
   rw[e0] at hnd hl;obtain⟨m1,m2,m3⟩:=ZHQ hsz hjn hnd hl;have e1:(pre++pi::p1)++(p2++qi::post)=pre++pi::(p1++p2++qi::post):=by simp
   rw[e1] at m1 m2;have ho2a:ZHC P q ops ((pre++p1)++j::(p2++qi::post)):=by simpa using ho2
   have hcp1:=hcomm (pre++p1) _ ho2a (fun i hi=>by
    rcases List.mem_append.1 hi with hi | hi
    ·exact hun i hi
    exact hunm i (by simp[hi]))
   rw[ZCw] at hcp1;have hcj:=hmc j (by simp) o hoj
   have h2:wl P q ops noQ (fun a w=>sT P q ops (fun a w=>(∃v,Yl P ops (Sub w) po v a)∧wl P q ops noQ (fun a w=>wl P q ops noQ A (ZAg ops (pi::qi::post)) a w∧wl P q ops noQ A (ZAg ops (qi::pi::post)) a w) (ZAg ops (p1++p2)) a w) o a w) (ZAg ops pre) a w:=ZHP (fun a w hh=>by
    obtain⟨⟨v,hy⟩,hh⟩:=hh;rw[ZCw,ZEM hoj] at hh;have h5:=ZDM (ZAg ops p1) (fun x hx=>hcp1 x (by simp[hx])) hh
    rw[ZFR,←ZCw] at h5;exact ZII (fun a' u w' _ hk=>⟨⟨v,hk.1⟩,hk.2⟩) (ZOe hcj.1 hcj.2 hy h5)) _ h
   have h3:=ZIW (ZAg ops pre) [o] h2;have h4:=ZDM (post:=[]) (ZAg ops pre) (fun x hx=>hcp1 x (by simp[hx])) h3
   rw[List.append_nil,ZFR] at h4;refine ZFg hoj h4 fun a' w' h5=>ih pre (p1++p2) _ a' w' (by simpa using hsz) m2 m1 ?_ (hcl' m3) ho1 (by simpa using ZGl ho2a) (fun m hm=>hmb m (by simp at hm ⊢;rcases hm with hm | hm<;> simp[hm])) (fun m hm=>hmc m (by simp at hm ⊢;rcases hm with hm | hm<;> simp[hm])) h5
   simp only[List.length_append,List.length_cons] at hf ⊢;omega
  exfalso
  rcases hpost j hin with hb | hb
  ·rw[hbef _ hb] at hlp;cases hlp
  rw[hbef _ hb] at hlq;cases hlq
end
def ZPG (P:Program) (q:Prims) (ops:Array Oper) (pre:List Nat) (pi:Nat) (mid:List Nat) (qi:Nat) (post:List Nat):Bool:=
 P.follows .mixedOrders && (ops.toList.zipIdx.all fun(o,i)=>o.after.all fun e=> !Region.binds .any e || decide (e.on<i)) &&
 orderOk.go P q ops (Region.before ops) (pre++pi::post) && orderOk.go P q ops (Region.before ops) (pre++(mid++qi::post)) &&
 (post.all fun j=>((Region.before ops).getD j 0).testBit pi || ((Region.before ops).getD j 0).testBit qi) && !(pre.contains qi) && !(post.contains pi) && !(post.contains qi) && !(pre.contains pi) && pi !=qi && !(mid.contains pi) && (mid.all fun m=>((Region.before ops).getD qi 0).testBit m && match ops[pi]?,ops[m]? with | some x,some y=>comm P q ops x y && (ZCe P y.op || rdOp y.op || ZFQ q y.op || gOp y.op) | _,_=>false) && (match ops[pi]? with | some x=>rdOp x.op && !ZCe P x.op | none=>false) && decide ((pre++pi::(mid++qi::post)).length=ops.size)
section
variable {P:Program} {prims:Prims} {n:Nat} {K:Fm→St→Prop} {Q:AExit→Fm→St→Prop} {φ:Fm} {s:St}
theorem ZU1 {id:Nat} {ops:Array Oper} (pre:List Nat) (pi:Nat) (mid:List Nat) (qi:Nat) (post:List Nat) {po:Oper} (hpo:ops[pi]? =some po) (hok:ZPG P prims ops pre pi mid qi post=true)
  (h:TO P prims n false ops (ZAg ops pre) (fun φ s=>TO P prims n false ops [po] (fun _ _=>True) φ s∧TO P prims n false ops (ZAg ops mid) (fun φ s=>TO P prims n false ops (ZAg ops (pi::qi::post)) K φ s∧TO P prims n false ops (ZAg ops (qi::pi::post)) K φ s) φ s) φ s):TC P prims n (.region id ops true) K Q φ s:=by
 unfold ZPG at hok;simp only[Bool.and_eq_true,decide_eq_true_eq] at hok;obtain⟨⟨⟨⟨⟨⟨⟨⟨⟨⟨⟨⟨⟨hm,hed⟩,hgo1⟩,hgo2⟩,hpost⟩,hc1⟩,hc2⟩,hc3⟩,hc4⟩,hne⟩,hc5⟩,hmid⟩,hrd⟩,hlen⟩:=hok;rw[hpo] at hrd hmid;simp only[Bool.and_eq_true,Bool.not_eq_true'] at hrd;obtain⟨g1,g2,g3⟩:=ZHg hgo1;obtain⟨k1,k2,k3⟩:=ZHg hgo2;intro hp base ρ X w a R hb hs hr hd hR;have hlt:∀(i:Nat) (o:Oper),ops[i]? =some o→∀e∈o.after,Region.binds .any e=true→e.on<i:=fun i o ho e he hb=>by
  rw[List.all_eq_true] at hed;have:=hed (o,i) (by
   rw[List.mem_zipIdx_iff_getElem?];simpa using ho)
  have:=Array.all_eq_true_iff_forall_mem.1 this e he
  simpa[hb] using this
 have hne:pi≠qi:=by simpa using hne
 have hnd:(pre++pi::(mid++qi::post)).Nodup:=by
  have a1:=List.nodup_append.1 g1;have a2:=List.nodup_append.1 k1;refine List.nodup_append.2 ⟨a1.1,List.nodup_cons.2 ⟨?_,a2.2.1⟩,fun x hx y hy=> ?_⟩
  ·simp only[List.mem_append,List.mem_cons,not_or];exact⟨by simpa using hc5,hne,(List.nodup_cons.1 a1.2.1).1⟩
  simp only[List.mem_cons] at hy;rcases hy with rfl | hy
  ·exact a1.2.2 x hx y (by simp)
  exact a2.2.2 x hx y hy
 have hlt2:∀i∈pre++pi::(mid++qi::post),i<ops.size:=fun i hi=>by
  simp only[List.mem_append,List.mem_cons] at hi;rcases hi with hi | rfl | hi | rfl | hi
  ·exact g2 i (by simp[hi])
  ·exact g2 i (by simp)
  ·exact k2 i (by simp[hi])
  ·exact k2 i (by simp)
  exact g2 i (by simp[hi])
 have hall:∀i,i∈pre++pi::(mid++qi::post)↔i<ops.size∧(Array.replicate ops.size false).getD i false=false:=fun i=>by
  constructor
  ·intro hi;refine⟨hlt2 i hi,?_⟩
   rw[Array.getD_eq_getD_getElem?,Array.getElem?_replicate];split<;> rfl
  rintro⟨hi,_⟩;exact ZLL ops.size _ hnd hlt2 hlen i hi
 have hpl:pi<ops.size:=hlt2 pi (by simp)
 have hql:qi<ops.size:=hlt2 qi (by simp)
 have hpost2:=Post.grow (v:= .undef) (v' :=undef) (w' :={w with drawn:=w.drawn+1}) hs rfl rfl rfl (Nat.le_refl _) (fun _ _=>rfl) (by simp[Rel,RelL,undef])
 have hpf:=Post.frame (dst:=none) hs hr hd hpost2;obtain⟨ρ1,m1,m2,m3,m4,m5,m6,m7⟩:=hpf;refine wp_region_any hm (ZR4 (q:=prims) (A:=fun a' w' =>R .normal a' w') hrd.1 hrd.2 hpo (Array.getElem?_eq_getElem hql) hlt (fun _ _ h=>h) (fun j hj=> ?_) ops.size pre mid _ a _ (by simp) hnd hall (by omega) ?_ g3 k3 (fun m hm=> ?_) (fun m hm y hy=> ?_) ?_)
 ·have:=List.all_eq_true.1 hpost j hj
  simpa using this
 ·intro k j hk;exfalso
  rw[Array.getD_eq_getD_getElem?,Array.getElem?_replicate] at hk;split at hk<;> simp at hk
 ·have:=List.all_eq_true.1 hmid m hm
  rw[Bool.and_eq_true] at this;exact this.1
 ·have:=List.all_eq_true.1 hmid m hm
  rw[Bool.and_eq_true,hy] at this;have h2:=this.2;simp only[Bool.and_eq_true] at h2;exact h2
 refine h hp base ρ1 X {w with drawn:=w.drawn+1} a noQ _ (Nat.le_trans hb m5.size) m3 m4 m7 fun φ' s' a' w' hk hpf=> ?_
 obtain⟨ρ2,b1,b2,b3,b4,b5,b6,b7⟩:=hpf;have hb2:=Nat.le_trans (Nat.le_trans hb m5.size) b5.size;obtain⟨hk1,hk2⟩:=hk;refine⟨?_,?_⟩
 ·have h5:=hk1 hp base ρ2 X w' a' noQ (fun _ _=>True) hb2 b3 b4 b7 fun _ _ _ _ _ _=>trivial
  rw[ZFR] at h5;obtain⟨v,hy,_⟩:=ZS2 hrd.1 h5;exact⟨v,hy⟩
 refine hk2 hp base ρ2 X w' a' noQ _ hb2 b3 b4 b7 fun φ2 s2 a2 w2 hk3 hpf2=> ?_
 obtain⟨ρ3,c1,c2,c3,c4,c5,c6,c7⟩:=hpf2;have fin:∀l,TO P prims n false ops l K φ2 s2→wl P prims ops noQ (fun a' w' =>R .normal a' w') l a2 w2:=fun l hl=>
  hl hp base ρ3 X w2 a2 noQ _ (Nat.le_trans hb2 c5.size) c3 c4 c7 fun φ4 s4 a4 w4 hk4 hpf4=>hR .normal φ4 s4 a4 w4 hk4 (PostF.cons m1 m2 m5 m6 (PostF.cons b1 b2 b5 b6 (PostF.cons c1 c2 c5 c6 hpf4)))
 exact⟨fin _ hk3.1,fin _ hk3.2⟩
end
end Go.Ai
namespace Go.Ai
section
variable {P:Program} {q:Prims} {ops:Array Oper}
theorem ZU2 {Q:Exit→Act→World→Prop} {A:Act→World→Prop} {pi hi qi:Nat} {po ho qo:Oper} {post:List Nat} (hpr:rdOp po.op=true) (hpv:ZCe P po.op=false) (hpo:ops[pi]? =some po) (hho:ops[hi]? =some ho) (hqo:ops[qi]? =some qo)
  (hlt:∀(i:Nat) (o:Oper),ops[i]? =some o→∀e∈o.after,Region.binds .any e=true→e.on<i) (hQ:∀a w,A a w→Q .normal a w)
  (hqh:((Region.before ops).getD qi 0).testBit hi=true)
  (hpost:∀j∈post,((Region.before ops).getD j 0).testBit pi=true∨((Region.before ops).getD j 0).testBit qi=true):
  ∀(fuel:Nat) (pre:List Nat) (listed:Array Bool) (a:Act) (w:World),listed.size=ops.size→(pre++pi::hi::qi::post).Nodup→(∀i,i∈pre++pi::hi::qi::post↔i<ops.size∧listed.getD i false=false)→(pre++pi::hi::qi::post).length≤fuel→
   (∀k j,listed.getD k false=true→((Region.before ops).getD k 0).testBit j=true→listed.getD j false=true)→ZHC P q ops (pre++pi::post)→ZHC P q ops (pre++hi::qi::post)→
   wl P q ops noQ (fun a w=>wl P q ops noQ A (ZAg ops (pi::hi::qi::post)) a w∧
    wl P q ops noQ (fun a w=>(∃v,Yl P ops (Sub w) po v a)∧wl P q ops noQ A (ZAg ops (pi::qi::post)) a w∧wl P q ops noQ A (ZAg ops (qi::pi::post)) a w) [ho] a w) (ZAg ops pre) a w→wpAny P .any ops Q fuel listed a w:=by
 intro fuel;induction fuel with
 | zero=>intro pre listed a w _ _ _ hf;simp at hf
 | succ fuel ih=>
  intro pre listed a w hsz hnd hl hf hcl ho1 ho2 h;have hpn:pi<ops.size:=(Array.getElem?_eq_some_iff.1 hpo).1
  have hlp:listed.getD pi false=false:=((hl pi).1 (by simp)).2
  have hlh:listed.getD hi false=false:=((hl hi).1 (by simp)).2
  have hlq:listed.getD qi false=false:=((hl qi).1 (by simp)).2
  refine⟨fun hr=> ?_,fun j hj=> ?_⟩
  ·exfalso
   have hall:∀j,j<ops.size→listed.getD j false=true:=by
    intro j;induction j using Nat.strongRecOn with
    | ind j ihj=>
     intro hj
     cases hs:listed.getD j false with
     | true=>rfl
     | false=>
      exfalso
      have hj' :ops[j]? =some ops[j]:=Array.getElem?_eq_getElem hj
      have:j∈Region.ready .any ops listed:=mem_ready.2 ⟨by
       rw[Array.getD_eq_getD_getElem?] at hs ⊢;rw[Array.getElem?_eq_getElem (by omega)] at hs ⊢
       exact hs,ops[j],hj',fun e he hb=>ihj e.on (hlt j _ hj' e he hb) (Nat.lt_trans (hlt j _ hj' e he hb) hj)⟩
      rw[hr] at this;cases this
   rw[hall pi hpn] at hlp;cases hlp
  obtain⟨h1,o,hoj,haft⟩:=mem_ready.1 hj;have hjn:j<ops.size:=(Array.getElem?_eq_some_iff.1 hoj).1
  have hSj:listed.getD j false=false:=by
   rw[Array.getD_eq_getD_getElem?] at h1 ⊢;rw[Array.getElem?_eq_getElem (by omega)] at h1 ⊢
   exact h1
  have hbef:∀k,((Region.before ops).getD j 0).testBit k=true→listed.getD k false=true:=fun k hk=>by
   obtain⟨e,he,hbi,h'⟩:=(ZEA hoj (hlt j o hoj) k).1 hk;have:=haft e he hbi
   rcases h' with rfl | h'
   ·exact this
   exact hcl _ _ this h'
  have hcl' :(∀i,(listed.setIfInBounds j true).getD i false=if i=j then true else listed.getD i false)→∀k i,(listed.setIfInBounds j true).getD k false=true→((Region.before ops).getD k 0).testBit i=true→(listed.setIfInBounds j true).getD i false=true:=fun hset k i hk hbit=>by
   rw[hset k] at hk;rw[hset i];split
   ·rfl
   split at hk
   ·rename_i e;subst e;exact hbef i hbit
   exact hcl k i hk hbit
  have hcomm:∀(pr rest:List Nat),ZHC P q ops (pr++j::rest)→(∀i∈pr,listed.getD i false=false)→∀x∈ZAg ops pr,comm P q ops x o=true:=fun pr rest hor hun x hx=>by
   obtain⟨i,hi,hxi⟩:=List.mem_filterMap.1 hx;have:=(List.pairwise_append.1 hor).2.2 i hi j (by simp)
   rcases this with hbit | ⟨x',y',g1,g2,g3⟩
   ·have:=hbef i hbit
    rw[hun i hi] at this;cases this
   rw[hxi] at g1;injection g1 with g1;subst g1
   rw[hoj] at g2;injection g2 with g2;subst g2
   exact g3
  have hun:∀i∈pre,listed.getD i false=false:=fun i hi=>((hl i).1 (by simp[hi])).2
  have hin:=(hl j).2 ⟨hjn,hSj⟩;by_cases ejp:j=pi
  ·subst ejp;rw[hpo] at hoj;injection hoj with hoj;subst hoj
   obtain⟨m1,m2,m3⟩:=ZHQ hsz hjn hnd hl;have h2:=ZIW _ _ (ZHP (B:=wl P q ops noQ A (ZAg ops (j::hi::qi::post))) (fun _ _ hh=>hh.1) _ h)
   rw[ZEM hpo] at h2;have h3:=ZDM (ZAg ops pre) (hcomm pre post ho1 hun) h2;rw[ZFR,←ZCw] at h3;refine ZFg hpo h3 fun a' w' h4=>ZQ1 hlt hQ fuel (pre++hi::qi::post) _ a' w' (by simpa using hsz) m2 m1 ?_ (hcl' m3) ho2 h4
   simp only[List.length_append,List.length_cons] at hf ⊢;omega
  by_cases ejh:j=hi
  ·subst ejh;rw[hho] at hoj;injection hoj with hoj;subst hoj
   have e0:pre++pi::j::qi::post=(pre++[pi])++j::(qi::post):=by simp
   rw[e0] at hnd hl;obtain⟨m1,m2,m3⟩:=ZHQ hsz hjn hnd hl;have e1:(pre++[pi])++(qi::post)=pre++pi::([]++qi::post):=by simp
   rw[e1] at m1 m2;have h2:=ZIW _ _ (ZHP (fun _ _ hh=>hh.2) _ h)
   have h3:=ZDM (post:=[]) (ZAg ops pre) (hcomm pre (qi::post) ho2 hun) h2
   rw[List.append_nil,ZFR] at h3;refine ZFg hho h3 fun a' w' h4=>ZR4 hpr hpv hpo hqo hlt hQ hpost fuel pre [] _ a' w' (by simpa using hsz) m2 m1 ?_ (hcl' m3) ho1 (by simpa using ZGl ho2) (fun m hm=>by cases hm) (fun m hm=>by cases hm) h4
   simp only[List.length_append,List.length_cons,List.nil_append] at hf ⊢;omega
  by_cases ejq:j=qi
  ·subst ejq;rw[hbef _ hqh] at hlh;cases hlh
  simp only[List.mem_append,List.mem_cons,ejp,ejh,ejq,false_or] at hin;rcases hin with hin | hin
  ·obtain⟨p1,p2,rfl⟩:=List.append_of_mem hin;have e0:p1++j::p2++pi::hi::qi::post=p1++j::(p2++pi::hi::qi::post):=by simp
   rw[e0] at hnd hl;obtain⟨m1,m2,m3⟩:=ZHQ hsz hjn hnd hl;rw[←List.append_assoc] at m1 m2;have ho1' :ZHC P q ops (p1++j::(p2++pi::post)):=by simpa using ho1
   have ho2' :ZHC P q ops (p1++j::(p2++hi::qi::post)):=by simpa using ho2
   rw[ZCw,ZEM hoj] at h;have h3:=ZDM (ZAg ops p1) (hcomm p1 _ ho1' (fun i hi=>hun i (by simp[hi]))) h
   rw[ZFR,←ZCw] at h3;refine ZFg hoj h3 fun a' w' h4=>ih (p1++p2) _ a' w' (by simpa using hsz) m2 m1 ?_ (hcl' m3) (by simpa using ZGl ho1') (by simpa using ZGl ho2') h4
   simp only[List.length_append,List.length_cons] at hf ⊢;omega
  exfalso
  rcases hpost j hin with hb | hb
  ·rw[hbef _ hb] at hlp;cases hlp
  rw[hbef _ hb] at hlq;cases hlq
end
def ZPH (P:Program) (q:Prims) (ops:Array Oper) (pre:List Nat) (pi hi qi:Nat) (post:List Nat):Bool:=
 P.follows .mixedOrders && (ops.toList.zipIdx.all fun(o,i)=>o.after.all fun e=> !Region.binds .any e || decide (e.on<i)) &&
 orderOk.go P q ops (Region.before ops) (pre++pi::post) && orderOk.go P q ops (Region.before ops) (pre++hi::qi::post) &&
 (post.all fun j=>((Region.before ops).getD j 0).testBit pi || ((Region.before ops).getD j 0).testBit qi) && ((Region.before ops).getD qi 0).testBit hi && !(pre.contains pi) && !((hi::qi::post).contains pi) && (match ops[pi]? with | some x=>rdOp x.op && !ZCe P x.op | none=>false) && decide ((pre++pi::hi::qi::post).length=ops.size)
section
variable {P:Program} {prims:Prims} {n:Nat} {K:Fm→St→Prop} {Q:AExit→Fm→St→Prop} {φ:Fm} {s:St}
theorem ZU3 {id:Nat} {ops:Array Oper} (pre:List Nat) (pi hi qi:Nat) (post:List Nat) {po ho:Oper} (hpo:ops[pi]? =some po) (hho:ops[hi]? =some ho) (hok:ZPH P prims ops pre pi hi qi post=true)
  (h:TO P prims n false ops (ZAg ops pre) (fun φ s=>TO P prims n false ops (ZAg ops (pi::hi::qi::post)) K φ s∧
   TO P prims n false ops [ho] (fun φ s=>TO P prims n false ops (ZAg ops (pi::qi::post)) K φ s∧TO P prims n false ops (ZAg ops (qi::pi::post)) K φ s) φ s) φ s):TC P prims n (.region id ops true) K Q φ s:=by
 unfold ZPH at hok;simp only[Bool.and_eq_true,decide_eq_true_eq] at hok;obtain⟨⟨⟨⟨⟨⟨⟨⟨⟨hm,hed⟩,hgo1⟩,hgo2⟩,hpost⟩,hqh⟩,hc1⟩,hc2⟩,hrd⟩,hlen⟩:=hok;rw[hpo] at hrd;simp only[Bool.and_eq_true,Bool.not_eq_true'] at hrd;obtain⟨g1,g2,g3⟩:=ZHg hgo1;obtain⟨k1,k2,k3⟩:=ZHg hgo2;intro hp base ρ X w a R hb hs hr hd hR;have hlt:∀(i:Nat) (o:Oper),ops[i]? =some o→∀e∈o.after,Region.binds .any e=true→e.on<i:=fun i o ho e he hb=>by
  rw[List.all_eq_true] at hed;have:=hed (o,i) (by
   rw[List.mem_zipIdx_iff_getElem?];simpa using ho)
  have:=Array.all_eq_true_iff_forall_mem.1 this e he
  simpa[hb] using this
 have hnd:(pre++pi::hi::qi::post).Nodup:=by
  have a1:=List.nodup_append.1 g1;have a2:=List.nodup_append.1 k1;refine List.nodup_append.2 ⟨a1.1,List.nodup_cons.2 ⟨by simpa using hc2,a2.2.1⟩,fun x hx y hy=> ?_⟩
  rcases List.mem_cons.1 hy with rfl | hy
  ·exact a1.2.2 x hx y (by simp)
  exact a2.2.2 x hx y hy
 have hlt2:∀i∈pre++pi::hi::qi::post,i<ops.size:=fun i hi=>by
  simp only[List.mem_append,List.mem_cons] at hi;rcases hi with hi | rfl | rfl | rfl | hi
  ·exact g2 i (by simp[hi])
  ·exact g2 i (by simp)
  ·exact k2 i (by simp)
  ·exact k2 i (by simp)
  exact g2 i (by simp[hi])
 have hall:∀i,i∈pre++pi::hi::qi::post↔i<ops.size∧(Array.replicate ops.size false).getD i false=false:=fun i=>by
  constructor
  ·intro hi;refine⟨hlt2 i hi,?_⟩
   rw[Array.getD_eq_getD_getElem?,Array.getElem?_replicate];split<;> rfl
  rintro⟨hi,_⟩;exact ZLL ops.size _ hnd hlt2 hlen i hi
 have hql:qi<ops.size:=hlt2 qi (by simp)
 have hpost2:=Post.grow (v:= .undef) (v' :=undef) (w' :={w with drawn:=w.drawn+1}) hs rfl rfl rfl (Nat.le_refl _) (fun _ _=>rfl) (by simp[Rel,RelL,undef])
 have hpf:=Post.frame (dst:=none) hs hr hd hpost2;obtain⟨ρ1,m1,m2,m3,m4,m5,m6,m7⟩:=hpf;refine wp_region_any hm (ZU2 (q:=prims) (A:=fun a' w' =>R .normal a' w') hrd.1 hrd.2 hpo hho (Array.getElem?_eq_getElem hql) hlt (fun _ _ h=>h) hqh (fun j hj=> ?_) ops.size pre _ a _ (by simp) hnd hall (by omega) ?_ g3 k3 ?_)
 ·have:=List.all_eq_true.1 hpost j hj
  simpa using this
 ·intro k j hk;exfalso
  rw[Array.getD_eq_getD_getElem?,Array.getElem?_replicate] at hk;split at hk<;> simp at hk
 refine h hp base ρ1 X {w with drawn:=w.drawn+1} a noQ _ (Nat.le_trans hb m5.size) m3 m4 m7 fun φ' s' a' w' hk hpf=> ?_
 obtain⟨ρ2,b1,b2,b3,b4,b5,b6,b7⟩:=hpf;have hb2:=Nat.le_trans (Nat.le_trans hb m5.size) b5.size;refine⟨hk.1 hp base ρ2 X w' a' noQ _ hb2 b3 b4 b7 fun φ2 s2 a2 w2 hk2 hpf2=>hR .normal φ2 s2 a2 w2 hk2 (PostF.cons m1 m2 m5 m6 (PostF.cons b1 b2 b5 b6 hpf2)),?_⟩
 refine hk.2 hp base ρ2 X w' a' noQ _ hb2 b3 b4 b7 fun φ2 s2 a2 w2 hk3 hpf2=> ?_
 obtain⟨ρ3,c1,c2,c3,c4,c5,c6,c7⟩:=hpf2;have fin:∀l,TO P prims n false ops l K φ2 s2→wl P prims ops noQ (fun a' w' =>R .normal a' w') l a2 w2:=fun l hl=>
  hl hp base ρ3 X w2 a2 noQ _ (Nat.le_trans hb2 c5.size) c3 c4 c7 fun φ4 s4 a4 w4 hk4 hpf4=>hR .normal φ4 s4 a4 w4 hk4 (PostF.cons m1 m2 m5 m6 (PostF.cons b1 b2 b5 b6 (PostF.cons c1 c2 c5 c6 hpf4)))
 have hf1:=fin _ hk3.1;refine⟨?_,hf1,fin _ hk3.2⟩
 have e:ZAg ops (pi::qi::post)=po::ZAg ops (qi::post):=ZEM hpo _
 rw[e,ZFR] at hf1;obtain⟨v,hy,_⟩:=ZS2 hrd.1 hf1;exact⟨v,hy⟩
end
end Go.Ai
end
section
namespace Go.Ai
def sw (tw i:Nat):Nat:=if i=tw then tw+1 else if i=tw+1 then tw else i
theorem ZLz (tw i:Nat):sw tw (sw tw i)=i:=by unfold sw;(repeat' split)<;> omega
def ZL0 {α:Type}:Nat→List α→List α
 | 0,x::y::l=>y::x::l
 | k+1,x::l=>x::ZL0 k l
 | _,l=>l
theorem ZJs {α:Type}:∀(tw:Nat) (l:List α),tw+1<l.length→∀i,(ZL0 tw l)[i]? =l[sw tw i]?
 | 0,[],h,i=>by simp at h
 | 0,[x],h,i=>by simp at h
 | 0,x::y::l,_,i=>by
  match i with
  | 0=>rfl
  | 1=>rfl
  | i+2=>simp[ZL0,sw]
 | k+1,[],h,i=>by simp at h
 | k+1,x::l,h,i=>by
  match i with
  | 0=>simp[ZL0,sw]
  | i+1=>
   simp only[ZL0,List.getElem?_cons_succ];rw[ZJs k l (by simpa using h) i]
   have:sw (k+1) (i+1)=sw k i+1:=by unfold sw;(repeat' split)<;> omega
   rw[this];rfl
theorem ZJt {α:Type}:∀(tw:Nat) (l:List α),(ZL0 tw l).length=l.length
 | 0,[]=>rfl
 | 0,[x]=>rfl
 | 0,x::y::l=>rfl
 | k+1,[]=>rfl
 | k+1,x::l=>by simp[ZL0,ZJt k l]
def addE (o:Oper) (d:Nat):Oper:={o with after:=o.after.push ⟨d, .data⟩}
def ZHR (tw:Nat) (o:Oper):Oper:={o with after:=o.after.map fun e=>{e with on:=sw tw e.on}}
def ZBf (tw i:Nat) (o:Oper):Oper:=if i=tw+1 then addE o tw else o
def ZEP (tw:Nat) (ops:Array Oper):Array Oper:=(ops.toList.zipIdx.map fun p=>ZBf tw p.2 p.1).toArray
def ZDv (tw:Nat) (ops:Array Oper):Array Oper:=((ZL0 tw ops.toList).zipIdx.map fun p=>ZBf tw p.2 (ZHR tw p.1)).toArray
theorem ZKr {tw:Nat} {ops:Array Oper}:(ZEP tw ops).size=ops.size:=by simp[ZEP]
theorem ZKs {tw:Nat} {ops:Array Oper}:(ZDv tw ops).size=ops.size:=by simp[ZDv,ZJt]
theorem ZGS {tw i:Nat} {ops:Array Oper}:(ZEP tw ops)[i]? =(ops[i]?).map (ZBf tw i):=by
 simp only[ZEP,List.getElem?_toArray,List.getElem?_map,List.getElem?_zipIdx,Option.map_map,Nat.zero_add,Array.getElem?_toList];rfl
theorem ZFF {tw i:Nat} {ops:Array Oper} (h:tw+1<ops.size):(ZDv tw ops)[i]? =(ops[sw tw i]?).map fun o=>ZBf tw i (ZHR tw o):=by
 simp only[ZDv,List.getElem?_toArray,List.getElem?_map,List.getElem?_zipIdx,Option.map_map,Nat.zero_add];rw[ZJs tw ops.toList (by simpa using h) i,Array.getElem?_toList]
 rfl
def SameO (o p:Oper):Prop:=o.op=p.op∧o.dst=p.dst∧o.type=p.type∧o.pos=p.pos∧o.guard=p.guard
theorem SameO.edge {tw i:Nat} {o:Oper}:SameO (ZBf tw i o) o:=by unfold ZBf;split<;> exact⟨rfl,rfl,rfl,rfl,rfl⟩
theorem SameO.move {tw:Nat} {o:Oper}:SameO (ZHR tw o) o:=⟨rfl,rfl,rfl,rfl,rfl⟩
theorem SameO.trans {o p q:Oper} (h:SameO o p) (k:SameO p q):SameO o q:=⟨h.1.trans k.1,h.2.1.trans k.2.1,h.2.2.1.trans k.2.2.1,h.2.2.2.1.trans k.2.2.2.1,h.2.2.2.2.trans k.2.2.2.2⟩
theorem SameO.symm {o p:Oper} (h:SameO o p):SameO p o:=⟨h.1.symm,h.2.1.symm,h.2.2.1.symm,h.2.2.2.1.symm,h.2.2.2.2.symm⟩
theorem SameO.aOp {P:Program} {call:FuncId→List AV→St→Option (AV×St)} {o p:Oper} (h:SameO o p) (fr:List AV) (s:St):aOp P call o fr s=aOp P call p fr s:=by
 unfold Go.Ai.aOp;rw[h.1]
theorem SameO.wpOp {P:Program} {ops ops' :Array Oper} {Q:Exit→Act→World→Prop} {i i' :Nat} {o p:Oper} (hs:SameO o p) (ho:ops[i]? =some o) (hp:ops'[i']? =some p) (hg:o.guard=none) {K:Act→World→Prop} {a:Act} {w:World}
  (h:Go.wpOp P ops Q i K a w):Go.wpOp P ops' Q i' K a w:=by
 obtain⟨d1,op1,t1,p1,a1,g1⟩:=o;obtain⟨d2,op2,t2,p2,a2,g2⟩:=p;obtain⟨e1,e2,e3,e4,e5⟩:=hs
 cases e1;cases e2;cases e3;cases e4;cases e5;have hg:g1=none:=hg
 subst hg;unfold Go.wpOp at h ⊢;simp only[ho] at h;simp only[hp];have e:∀(y:Nat→Option Bool) (af:Array Edge),Region.wanted ⟨d1,op1,t1,p1,af,none⟩ y=true:=fun _ _=>rfl
 rw[e,if_pos rfl] at h;rw[e,if_pos rfl];exact h
theorem ZNR {P:Program} {call:FuncId→List AV→St→Option (AV×St)} {ops ops' :Array Oper}:∀(l l' :List Oper),l.length=l'.length→(∀(i:Nat) (o p:Oper),l[i]? =some o→l'[i]? =some p→SameO o p∧o.guard=none)→∀(fr:List AV) (s:St),aOps P call ops l fr s=aOps P call ops' l' fr s
 | [],[],_,_,_,_=>rfl
 | [],_::_,h,_,_,_=>by simp at h
 | _::_,[],h,_,_,_=>by simp at h
 | o::l,p::l',h,hs,fr,s=>by
  obtain⟨h1,h2⟩:=hs 0 o p rfl rfl;have g2:p.guard=none:=by rw[←h1.2.2.2.2];exact h2
  have ih:=ZNR (P:=P) (call:=call) (ops:=ops) (ops' :=ops') l l' (by simpa using h) (fun i o p h1 h2=>hs (i+1) o p (by simpa using h1) (by simpa using h2))
  have e1:Region.wanted o (ZBN ops fr)=true:=by simp[Region.wanted,h2]
  have e2:Region.wanted p (ZBN ops' fr)=true:=by simp[Region.wanted,g2]
  simp only[aOps,e1,e2,if_true,h1.aOp fr s,h1.2.1]
  cases aOp P call p fr s with
  | none=>rfl
  | some r=>exact ih _ _
theorem ZR5 {P:Program} {prims:Prims} {ops ops' :Array Oper} {l l' :List Oper} {K:List AV→St→Prop} {fr:List AV} {s:St} (hl:l.length=l'.length) (hs:∀(i:Nat) (o p:Oper),l[i]? =some o→l'[i]? =some p→SameO o p∧o.guard=none) (h:WO P prims ops l K fr s):WO P prims ops' l' K fr s:=by
 unfold WO at h ⊢;obtain⟨fr',s',hK,N,hN⟩:=h;exact⟨fr',s',hK,N,fun m hm=>by rw[←ZNR l l' hl hs];exact hN m hm⟩
theorem ZNS {P:Program} {prims:Prims} {ops:Array Oper} {H:List AV→St→Prop} {fr:List AV} {s:St} (hc:calm P prims ops (Region.before ops)=true) (h:WO P prims ops ops.toList H fr s):∃fr' s',H fr' s' ∧∃N,∀m,N≤m→ZGo P (ZD6 P prims m) prims ops (Region.before ops) (List.range ops.size) fr s=some (fr',s'):=by
 unfold WO at h;obtain⟨fr1,s1,h1,N,hN⟩:=h;refine⟨fr1,s1,h1,N,fun m hm=> ?_⟩
 rw[List.range_eq_range',show ops.size=ops.toList.length by simp,ZLC (P:=P) (call:=ZD6 P prims m) hc ops.toList 0 rfl fr s]
 exact hN m hm
theorem ZNT {A B:Array Oper} {va vb:Nat→AV} {fr:List AV} {S:Nat→Bool} {t:Tmp}:∀(m:Nat),(∀j,j<m→(A[j]?).bind (·.dst)=(B[j]?).bind (·.dst)∧va j=vb j)→ZFt A va fr S t m=ZFt B vb fr S t m
 | 0,_=>rfl
 | m+1,h=>by
  obtain⟨h1,h2⟩:=h m (by omega)
  simp only[ZFt];rw[h1,h2,ZNT m fun j hj=>h j (by omega)]
theorem ZNU {ta tb:Nat→Bool} {sa sb:Nat→St} {s:St} {S:Nat→Bool}:∀(m:Nat),(∀j,j<m→ta j=tb j∧sa (j+1)=sb (j+1))→ZEl ta sa s S m=ZEl tb sb s S m
 | 0,_=>rfl
 | m+1,h=>by
  obtain⟨h1,h2⟩:=h m (by omega)
  simp only[ZEl];rw[h1,h2,ZNU m fun j hj=>h j (by omega)]
theorem ZNV {P:Program} {ops ops' :Array Oper} {Q:Exit→Act→World→Prop} (f:Nat→Nat) (J:Array Bool→Array Bool→Prop)
  (hJ:∀l l' i,J l l' →i∈Region.ready .any ops l→J (l.setIfInBounds i true) (l'.setIfInBounds (f i) true))
  (hr:∀l l' i,J l l' →i∈Region.ready .any ops l→f i∈Region.ready .any ops' l')
  (h0:∀l l',J l l' →Region.ready .any ops l=[]→Region.ready .any ops' l' =[])
  (hw:∀i K a w,wpOp P ops' Q (f i) K a w→i<ops.size→wpOp P ops Q i K a w):
  ∀fuel l l' a w,J l l' →wpAny P .any ops' Q fuel l' a w→wpAny P .any ops Q fuel l a w
 | 0,l,l',a,w,hj,h=>by
  refine⟨?_,h.2⟩
  rw[List.eq_nil_iff_forall_not_mem];intro i hi;have:=hr l l' i hj hi
  rw[h.1] at this;cases this
 | fuel+1,l,l',a,w,hj,h=>by
  refine⟨fun hn=>h.1 (h0 l l' hj hn),fun i hi=> ?_⟩
  have h1:=h.2 (f i) (hr l l' i hj hi);have hi' :i<ops.size:=by
   obtain⟨_,o,ho,_⟩:=mem_ready.1 hi;exact(Array.getElem?_eq_some_iff.1 ho).1
  exact hw i _ a w (wpOp_mono (fun a w hh=>ZNV f J hJ hr h0 hw fuel _ _ a w (hJ l l' i hj hi) hh) h1) hi'
def ZTF (P:Program) (ops:Array Oper) (tw:Nat):Bool:=
 decide (tw+1<ops.size) && (ops.toList.all fun o=>match o.guard with | none=>true | some _=>false) && ZIb P (ZEP tw ops) && ZIb P (ZDv tw ops) &&
 ((List.range tw).all fun k=>(Region.before (ZEP tw ops)).getD k 0==(Region.before (ZDv tw ops)).getD k 0) &&
 ((List.range ops.size).all fun k=>decide (k≤tw+1) || ((Region.before (ZEP tw ops)).getD k 0).testBit tw)
theorem ZGm {l:Array Bool} {i j:Nat} {d:Bool} (h:i<l.size):(l.setIfInBounds i true).getD j d=if j=i then true else l.getD j d:=by
 by_cases e:j=i
 ·subst e;rw[if_pos rfl];simp[Array.getD_eq_getD_getElem?,h]
 rw[if_neg e,getD_set_ne d (Ne.symm e)]
theorem ZKt {tw i:Nat} {o:Oper} {e:Edge} (h:e∈(ZBf tw i o).after):e∈o.after∨(i=tw+1∧e.on=tw):=by
 unfold ZBf at h;split at h
 ·rename_i hi;simp only[addE,Array.mem_push] at h;rcases h with h | rfl
  ·exact .inl h
  exact .inr ⟨hi,rfl⟩
 exact .inl h
theorem ZKu {tw i:Nat} {o:Oper} {e:Edge} (h:e∈o.after):e∈(ZBf tw i o).after:=by
 unfold ZBf;split
 ·simp only[addE,Array.mem_push];exact .inl h
 exact h
theorem ZTG {e:Edge} {n:Nat}:Region.binds .any {e with on:=n}=Region.binds .any e:=rfl
section
variable {P:Program} {prims:Prims}
theorem ZTH {base:Nat} {call:FuncId→List AV→St→Option (AV×St)} (hcall:ZGq P base call) (hq:ZQc prims call) {ops:Array Oper} {tw:Nat} {Q:Exit→Act→World→Prop} {fr fA fB:List AV} {s sA sB:St} {a0:Act} {w0:World} {ρ:Pl} {X:Reg} {id:Nat}
  (hok:ZTF P ops tw=true) (hb:base≤w0.heap.size) (h:Sim base ρ X s w0) (hf:RelL w0 ρ (UX ρ s.h X) s.c fr a0.tmps.toList) (hd:a0.defers=[])
  (hoA:ZGo P call prims (ZEP tw ops) (Region.before (ZEP tw ops)) (List.range (ZEP tw ops).size) fr s=some (fA,sA))
  (hoB:ZGo P call prims (ZDv tw ops) (Region.before (ZDv tw ops)) (List.range (ZDv tw ops).size) fr s=some (fB,sB))
  (hQA:∀a w,PostF base ρ X s w0 fA sA a w→Q .normal a w) (hQB:∀a w,PostF base ρ X s w0 fB sB a w→Q .normal a w):(Code.region id ops true).wp P Q a0 w0:=by
 simp only[ZTF,Bool.and_eq_true,decide_eq_true_eq,List.all_eq_true] at hok;obtain⟨⟨⟨⟨⟨hn,hg⟩,hA⟩,hB⟩,hbits⟩,htop⟩:=hok;have guard:∀(i:Nat) (o:Oper),ops[i]? =some o→o.guard=none:=fun i o ho=>by
  have:=hg o (List.mem_of_getElem? (by simpa using ho))
  revert this
  cases o.guard with
  | none=>exact fun _=>rfl
  | some _=>exact fun h=>(by cases h)
 obtain⟨hm,_⟩:=ZG7 hA;obtain⟨frsA,ssA,vsA,a1,a2,a3,mainA⟩:=ZJQ hcall hq (Q:=Q) (a0:=a0) hA hb h hoA hQA;obtain⟨frsB,ssB,vsB,b1,b2,b3,mainB⟩:=ZJQ hcall hq (Q:=Q) (a0:=a0) hB hb h hoB hQB;have szA:(ZEP tw ops).size=ops.size:=ZKr
 have szB:(ZDv tw ops).size=ops.size:=ZKs
 have swlt:∀i,i<tw→sw tw i=i:=fun i hi=>by unfold sw;rw[if_neg (by omega),if_neg (by omega)]
 have swtw:sw tw tw=tw+1:=by unfold sw;rw[if_pos rfl]
 have swtw1:sw tw (tw+1)=tw:=by unfold sw;rw[if_neg (by omega),if_pos rfl]
 have swbd:∀i,i<ops.size→sw tw i<ops.size:=fun i hi=>by unfold sw;(repeat' split)<;> omega
 -- below the two, the runs are one
 have step:∀j,j<tw→∃o,(ZEP tw ops)[j]? =some (ZBf tw j o)∧(ZDv tw ops)[j]? =some (ZBf tw j (ZHR tw o))∧o.guard=none:=fun j hj=>by
  have hjo:ops[j]? =some ops[j]:=Array.getElem?_eq_getElem (by omega)
  exact⟨ops[j],by rw[ZGS,hjo];rfl,by rw[ZFF hn,swlt j hj,hjo];rfl,guard j _ hjo⟩
 have one:∀j,j≤tw→frsA j=frsB j∧ssA j=ssB j:=by
  intro j;induction j with
  | zero=>intro _;exact⟨a1.trans b1.symm,a2.trans b2.symm⟩
  | succ j ih=> ?_
  intro hj;obtain⟨e1,e2⟩:=ih (by omega)
  obtain⟨o,oA,oB,go⟩:=step j (by omega)
  obtain⟨x,x1,x2,x3⟩:=a3 j (by omega)
  obtain⟨y,y1,y2,y3⟩:=b3 j (by omega)
  rw[oA] at x1;injection x1 with x1;subst x1
  rw[oB] at y1;injection y1 with y1;subst y1
  have sx:SameO (ZBf tw j o) o:=SameO.edge
  have sy:SameO (ZBf tw j (ZHR tw o)) o:=SameO.edge.trans SameO.move
  have wx:∀yl,Region.wanted (ZBf tw j o) yl=true:=fun yl=>by simp[Region.wanted,sx.2.2.2.2,go]
  have wy:∀yl,Region.wanted (ZBf tw j (ZHR tw o)) yl=true:=fun yl=>by simp[Region.wanted,sy.2.2.2.2,go]
  rcases x3 with⟨_,_,x3⟩ | ⟨hx,_⟩
  ·rcases y3 with⟨_,_,y3⟩ | ⟨hy,_⟩
   ·rw[sx.aOp,e1,e2,←sy.aOp,y3] at x3;injection x3 with x3;injection x3 with x4 x5
    refine⟨?_,x5.symm⟩
    rw[x2,y2,e1,sx.2.1,sy.2.1,x4]
   rw[wy] at hy;cases hy
  rw[wx] at hx;cases hx
 have onev:∀j,j<tw→vsA j=vsB j:=by
  intro j hj;obtain⟨e1,e2⟩:=one j (by omega)
  obtain⟨o,oA,oB,go⟩:=step j (by omega)
  obtain⟨x,x1,x2,x3⟩:=a3 j (by omega)
  obtain⟨y,y1,y2,y3⟩:=b3 j (by omega)
  rw[oA] at x1;injection x1 with x1;subst x1
  rw[oB] at y1;injection y1 with y1;subst y1
  have sx:SameO (ZBf tw j o) o:=SameO.edge
  have sy:SameO (ZBf tw j (ZHR tw o)) o:=SameO.edge.trans SameO.move
  have wx:∀yl,Region.wanted (ZBf tw j o) yl=true:=fun yl=>by simp[Region.wanted,sx.2.2.2.2,go]
  have wy:∀yl,Region.wanted (ZBf tw j (ZHR tw o)) yl=true:=fun yl=>by simp[Region.wanted,sy.2.2.2.2,go]
  rcases x3 with⟨_,_,x3⟩ | ⟨hx,_⟩
  ·rcases y3 with⟨_,_,y3⟩ | ⟨hy,_⟩
   ·rw[sx.aOp,e1,e2,←sy.aOp,y3] at x3;injection x3 with x3;injection x3 with x4 x5
    exact x4.symm
   rw[wy] at hy;cases hy
  rw[wx] at hx;cases hx
 have onet:∀j,j<tw→tnOf P prims (ZEP tw ops) frsA j=tnOf P prims (ZDv tw ops) frsB j:=by
  intro j hj;obtain⟨e1,e2⟩:=one j (by omega)
  obtain⟨o,oA,oB,go⟩:=step j (by omega)
  have sx:SameO (ZBf tw j o) o:=SameO.edge
  have sy:SameO (ZBf tw j (ZHR tw o)) o:=SameO.edge.trans SameO.move
  have wx:∀yl,Region.wanted (ZBf tw j o) yl=true:=fun yl=>by simp[Region.wanted,sx.2.2.2.2,go]
  have wy:∀yl,Region.wanted (ZBf tw j (ZHR tw o)) yl=true:=fun yl=>by simp[Region.wanted,sy.2.2.2.2,go]
  simp only[tnOf,oA,oB,wx,wy,e1,sx.1,sy.1]
 -- the second is laid before the first
 have alt:∀fuel listed F T a w,DInv P prims base ρ X w0 (ZEP tw ops) fr s frsA ssA vsA (fuel+1) listed F T a w→listed.getD tw false=false→listed.getD (tw+1) false=false→tw+1∈Region.ready .any ops listed→
   wpOp P ops Q (tw+1) (wpAny P .any ops Q fuel (listed.setIfInBounds (tw+1) true)) a w:=by
  intro fuel listed F T a w I h1 h2 hrd;have hsz:listed.size=ops.size:=I.sz.trans szA
  have hlow:∀k,tw≤k→k<ops.size→listed.getD k false=false:=by
   intro k hk hkn;rcases Nat.lt_or_ge (tw+1) k with hk2 | hk2
   ·cases hl:listed.getD k false with
    | false=>rfl
    | true=>
     have hbk:=htop k (List.mem_range.2 hkn);simp only[Bool.or_eq_true,decide_eq_true_eq] at hbk;rcases hbk with hbk | hbk
     ·omega
     rw[I.cl k tw hl hbk] at h1;cases h1
   rcases Nat.lt_or_ge tw k with hk3 | hk3
   ·rw[show k=tw+1 by omega];exact h2
   rw[show k=tw by omega];exact h1
  have IB:DInv P prims base ρ X w0 (ZDv tw ops) fr s frsB ssB vsB (fuel+1) listed F T a w:=by
   refine⟨hsz.trans szB.symm,?_,I.len,?_,?_,?_,I.p⟩
   ·intro k j hk hbit;by_cases hkt:k<tw
    ·have:=hbits k (List.mem_range.2 hkt)
     simp only[beq_iff_eq] at this;rw[←this] at hbit;exact I.cl k j hk hbit
    exfalso
    by_cases hkn:k<ops.size
    ·rw[hlow k (by omega) hkn] at hk;cases hk
    rw[Array.getD_eq_getD_getElem?,Array.getElem?_eq_none (by omega)] at hk;cases hk
   ·intro t;rw[I.hF t,szA,szB,ZE3 tw ops.size (by omega) fun j hj hj2 _=>hlow j hj hj2,ZE3 tw ops.size (by omega) fun j hj hj2 _=>hlow j hj hj2]
    refine ZNT tw fun j hj=>⟨?_,onev j hj⟩
    obtain⟨o,oA,oB,go⟩:=step j hj;rw[oA,oB];simp only[Option.bind_some];rw[(SameO.edge (tw:=tw) (i:=j) (o:=o)).2.1,((SameO.edge (tw:=tw) (i:=j)).trans (SameO.move (tw:=tw) (o:=o))).2.1]
   ·rw[I.hT,szA,szB,ZE4 tw ops.size (by omega) fun j hj hj2 _=>hlow j hj hj2,ZE4 tw ops.size (by omega) fun j hj hj2 _=>hlow j hj hj2]
    exact ZNU tw fun j hj=>⟨onet j hj,(one (j+1) (by omega)).2⟩
   have:=I.fu
   rw[szA] at this;rw[szB];exact this
  have hall:=mainB (wpAny P .any (ZDv tw ops) Q) (fun _ _ _ _ _ _ h1 h2=>⟨h1,h2⟩) (fun _ _ _ _ _ _ _ h1 h2=>⟨h1,h2⟩) _ _ _ _ _ _ IB
  -- listed in both
  let J:Array Bool→Array Bool→Prop:=fun l l' =>l.size=ops.size∧l'.size=ops.size∧(∀i d,i<ops.size→l'.getD (sw tw i) d=l.getD i d)∧l.getD (tw+1) false=true
  have dAny:∀(l:Array Bool) i,i<l.size→l.getD i true=l.getD i false:=fun l i hi=>by
   simp only[Array.getD_eq_getD_getElem?];rw[Array.getElem?_eq_getElem hi];rfl
  have rdy:∀(l l' :Array Bool) i,l.size=ops.size→l'.size=ops.size→(∀i d,i<ops.size→l'.getD (sw tw i) d=l.getD i d)→(i=tw→l.getD (tw+1) false=true)→i∈Region.ready .any ops l→sw tw i∈Region.ready .any (ZDv tw ops) l' :=by
   intro l l' i hl hl' heq hx hi;obtain⟨r1,o,r2,r3⟩:=mem_ready.1 hi;have hin:i<ops.size:=(Array.getElem?_eq_some_iff.1 r2).1
   refine mem_ready.2 ⟨by rw[heq i _ hin];exact r1,ZBf tw (sw tw i) (ZHR tw o),by rw[ZFF hn,ZLz,r2];rfl,fun e he hbe=> ?_⟩
   rcases ZKt he with he | ⟨he,hon⟩
   ·simp only[ZHR,Array.mem_map] at he;obtain⟨e0,he0,rfl⟩:=he;have h3:=r3 e0 he0 (by rw[ZTG] at hbe;exact hbe)
    by_cases hon:e0.on<ops.size
    ·rw[heq e0.on _ hon];exact h3
    rw[Array.getD_eq_getD_getElem?,Array.getElem?_eq_none (by omega)] at h3;cases h3
   have:i=tw:=by rw[←ZLz tw i,he,swtw1]
   rw[hon,←swtw1,heq (tw+1) _ (by omega)]
   exact hx this
  have sim:=ZNV (P:=P) (ops:=ops) (ops' :=ZDv tw ops) (Q:=Q) (sw tw) J ?_ ?_ ?_ ?_
  ·have hr2:sw tw (tw+1)∈Region.ready .any (ZDv tw ops) listed:=by
    refine rdy listed listed (tw+1) hsz hsz (fun i d hi=> ?_) (fun e=>by omega) hrd
    by_cases e1:i=tw
    ·subst e1;rw[swtw]
     cases d with
     | false=>rw[h1,h2]
     | true=>rw[dAny _ _ (by omega),dAny _ _ (by omega),h1,h2]
    by_cases e2:i=tw+1
    ·subst e2;rw[swtw1]
     cases d with
     | false=>rw[h1,h2]
     | true=>rw[dAny _ _ (by omega),dAny _ _ (by omega),h1,h2]
    have:sw tw i=i:=by unfold sw;rw[if_neg e1,if_neg e2]
    rw[this]
   have:=hall.2 _ hr2
   have hto:ops[tw+1]? =some ops[tw+1]:=Array.getElem?_eq_getElem hn
   have hbo:(ZDv tw ops)[sw tw (tw+1)]? =some (ZBf tw (sw tw (tw+1)) (ZHR tw ops[tw+1])):=by rw[ZFF hn,ZLz,hto];rfl
   refine SameO.wpOp (SameO.edge.trans SameO.move) hbo hto ((SameO.edge.trans SameO.move).2.2.2.2.trans (guard _ _ hto)) (wpOp_mono (fun a w hh=>sim fuel _ _ a w ?_ hh) this)
   refine⟨by simpa using hsz,by simpa using hsz,fun i d hi=> ?_,by rw[ZGm (by omega)];rw[if_pos rfl]⟩
   rw[ZGm (by rw[swtw1];omega),ZGm (by omega)]
   by_cases e2:i=tw+1
   ·subst e2;rw[if_pos rfl,if_pos rfl]
   have:¬sw tw i=sw tw (tw+1):=fun e=>e2 (by rw[←ZLz tw i,e,ZLz])
   rw[if_neg this,if_neg e2];by_cases e1:i=tw
   ·subst e1;rw[swtw]
    cases d with
    | false=>rw[h1,h2]
    | true=>rw[dAny _ _ (by omega),dAny _ _ (by omega),h1,h2]
   have:sw tw i=i:=by unfold sw;rw[if_neg e1,if_neg e2]
   rw[this]
  ·intro l l' i ⟨j1,j2,j3,j4⟩ hi;obtain⟨r1,o,r2,r3⟩:=mem_ready.1 hi;have hin:i<ops.size:=(Array.getElem?_eq_some_iff.1 r2).1
   refine⟨by simpa using j1,by simpa using j2,fun k d hk=> ?_,?_⟩
   ·rw[ZGm (by rw[j2];exact swbd i hin),ZGm (by omega)]
    by_cases e:k=i
    ·subst e;rw[if_pos rfl,if_pos rfl]
    have:¬sw tw k=sw tw i:=fun e' =>e (by rw[←ZLz tw k,e',ZLz])
    rw[if_neg this,if_neg e];exact j3 k d hk
   rw[ZGm (by omega)]
   split
   ·rfl
   exact j4
  ·exact fun l l' i ⟨j1,j2,j3,j4⟩ hi=>rdy l l' i j1 j2 j3 (fun _=>j4) hi
  ·intro l l' ⟨j1,j2,j3,j4⟩ hnil;rw[List.eq_nil_iff_forall_not_mem] at hnil ⊢;intro i hi;obtain⟨r1,o,r2,r3⟩:=mem_ready.1 hi;have hin:i<ops.size:=by have:=(Array.getElem?_eq_some_iff.1 r2).1;rwa [szB] at this
   have hswi:=swbd i hin;have hso:ops[sw tw i]? =some ops[sw tw i]:=Array.getElem?_eq_getElem hswi
   rw[ZFF hn,hso] at r2;injection r2 with r2
   refine hnil (sw tw i) (mem_ready.2 ⟨?_,ops[sw tw i],hso,fun e he hbe=> ?_⟩)
   ·rw[←j3 _ _ hswi,ZLz];exact r1
   have h3:=r3 {e with on:=sw tw e.on} (by rw[←r2];exact ZKu (by simp only[ZHR,Array.mem_map];exact⟨e,he,rfl⟩)) hbe
   by_cases hon:e.on<ops.size
   ·rw[←j3 _ _ hon];exact h3
   have h3:l'.getD (sw tw e.on) false=true:=h3
   have:sw tw e.on=e.on:=by unfold sw;rw[if_neg (by omega),if_neg (by omega)]
   rw[this,Array.getD_eq_getD_getElem?,Array.getElem?_eq_none (by omega)] at h3;cases h3
  intro i K a w hh hi;have hto:ops[i]? =some ops[i]:=Array.getElem?_eq_getElem hi
  have hbo:(ZDv tw ops)[sw tw i]? =some (ZBf tw (sw tw i) (ZHR tw ops[i])):=by rw[ZFF hn,ZLz,hto];rfl
  exact SameO.wpOp (SameO.edge.trans SameO.move) hbo hto ((SameO.edge.trans SameO.move).2.2.2.2.trans (guard _ _ hto)) hh
 have start:=DInv.start (P:=P) (prims:=prims) (base:=base) (ops:=ZEP tw ops) (frs:=frsA) (ss:=ssA) (vs:=vsA) h hf hd;have rdA:∀(l:Array Bool) i,i∈Region.ready .any ops l→(i=tw+1→l.getD tw false=true)→i∈Region.ready .any (ZEP tw ops) l:=by
  intro l i hi hx;obtain⟨r1,o,r2,r3⟩:=mem_ready.1 hi;refine mem_ready.2 ⟨r1,ZBf tw i o,by rw[ZGS,r2];rfl,fun e he hbe=> ?_⟩
  rcases ZKt he with he | ⟨he,hon⟩
  ·exact r3 e he hbe
  rw[hon];exact hx he
 have rdA' :∀(l:Array Bool) i,i∈Region.ready .any (ZEP tw ops) l→i∈Region.ready .any ops l:=by
  intro l i hi;obtain⟨r1,o,r2,r3⟩:=mem_ready.1 hi;have hin:i<ops.size:=by have:=(Array.getElem?_eq_some_iff.1 r2).1;rwa [szA] at this
  have hso:ops[i]? =some ops[i]:=Array.getElem?_eq_getElem hin
  rw[ZGS,hso] at r2;injection r2 with r2
  exact mem_ready.2 ⟨r1,ops[i],hso,fun e he hbe=>r3 e (by rw[←r2];exact ZKu he) hbe⟩
 have fin:=mainA (wpAny P .any ops Q) (fun listed F T a w I h1 h2=> ?_) (fun fuel listed F T a w I h1 h2=> ?_) _ _ _ _ _ _ start
 ·rw[szA] at fin;exact wp_region_any hm fin
 ·refine⟨?_,h2⟩
  rw[List.eq_nil_iff_forall_not_mem];intro i hi;have hz:=ZJN _ (Nat.le_zero.1 I.fu) i;obtain⟨r1,o,r2,r3⟩:=mem_ready.1 hi;have hin:i<ops.size:=(Array.getElem?_eq_some_iff.1 r2).1
  have hz:=hz (by rw[szA];exact hin)
  have hsz:=I.sz;rw[szA] at hsz;simp only[Array.getD_eq_getD_getElem?] at r1 hz;rw[Array.getElem?_eq_getElem (by omega)] at r1 hz
  simp only[Option.getD_some] at r1 hz;rw[r1] at hz;cases hz
 have hsz:=I.sz;rw[szA] at hsz;refine⟨fun hn' =>h1 ?_,fun i hi=> ?_⟩
 ·rw[List.eq_nil_iff_forall_not_mem] at hn' ⊢;exact fun i hi=>hn' i (rdA' _ i hi)
 by_cases hx:i=tw+1∧listed.getD tw false=false
 ·obtain⟨rfl,hx⟩:=hx;refine alt fuel listed F T a w I hx ?_ hi
  obtain⟨r1,_⟩:=mem_ready.1 hi;simp only[Array.getD_eq_getD_getElem?] at r1 ⊢;rw[Array.getElem?_eq_getElem (by omega)] at r1 ⊢
  exact r1
 have hx:i=tw+1→listed.getD tw false=true:=fun e=>by
  cases hl:listed.getD tw false with
  | true=>rfl
  | false=>exact absurd ⟨e,hl⟩ hx
 have:=h2 i (rdA _ i hi hx)
 obtain⟨r1,o,r2,r3⟩:=mem_ready.1 hi;exact SameO.wpOp SameO.edge (by rw[ZGS,r2];rfl) r2 (SameO.edge.2.2.2.2.trans (guard _ _ r2)) this
variable {n:Nat} {K:Fm→St→Prop} {Q:AExit→Fm→St→Prop} {φ:Fm} {s:St}
theorem ZR6 {id:Nat} {ops:Array Oper} (tw:Nat) (hok:ZTF P ops tw=true) (hcA:calm P prims (ZEP tw ops) (Region.before (ZEP tw ops))=true) (hcB:calm P prims (ZDv tw ops) (Region.before (ZDv tw ops))=true)
  (hA:TO P prims n true ops ops.toList K φ s) (hB:TO P prims n true ops (ZL0 tw ops.toList) K φ s):TC P prims n (.region id ops true) K Q φ s:=by
 intro hp base ρ X w a R hb hs hr hd hR;have hok' :=hok
 simp only[ZTF,Bool.and_eq_true,decide_eq_true_eq,List.all_eq_true] at hok';obtain⟨⟨⟨⟨⟨hn,hg⟩,_⟩,_⟩,_⟩,_⟩:=hok';have guard:∀o∈ops.toList,o.guard=none:=fun o ho=>by
  have:=hg o ho
  revert this
  cases o.guard with
  | none=>exact fun _=>rfl
  | some _=>exact fun h=>(by cases h)
 have gA:=ZR5 (ops' :=ZEP tw ops) (l' :=(ZEP tw ops).toList) (by simp[ZKr]) (fun i o p h1 h2=>by
  have h1' :ops[i]? =some o:=by simpa using h1
  have h2' :(ZEP tw ops)[i]? =some p:=by simpa using h2
  rw[ZGS,h1'] at h2';injection h2' with h2'
  rw[←h2'];exact⟨SameO.edge.symm,guard o (List.mem_of_getElem? h1)⟩) hA
 have gB:=ZR5 (ops' :=ZDv tw ops) (l' :=(ZDv tw ops).toList) (by simp[ZKs,ZJt]) (fun i o p h1 h2=>by
  rw[ZJs tw _ (by simpa using hn)] at h1
  have h1' :ops[sw tw i]? =some o:=by simpa using h1
  have h2' :(ZDv tw ops)[i]? =some p:=by simpa using h2
  rw[ZFF hn,h1'] at h2';injection h2' with h2'
  rw[←h2'];exact⟨(SameO.edge.trans SameO.move).symm,guard o (List.mem_of_getElem? h1)⟩) hB
 obtain⟨fA,sA,⟨φA,eA,kA⟩,NA,runA⟩:=ZNS hcA gA;obtain⟨fB,sB,⟨φB,eB,kB⟩,NB,runB⟩:=ZNS hcB gB;subst eA;subst eB;exact ZTH (ZCd hp (max NA NB)) (ZG8 (max NA NB)) hok hb hs hr hd (runA _ (Nat.le_max_left _ _)) (runB _ (Nat.le_max_right _ _))
  (fun a' w' hpf=>hR .normal _ _ _ _ kA hpf) (fun a' w' hpf=>hR .normal _ _ _ _ kB hpf)
end
end Go.Ai
end
