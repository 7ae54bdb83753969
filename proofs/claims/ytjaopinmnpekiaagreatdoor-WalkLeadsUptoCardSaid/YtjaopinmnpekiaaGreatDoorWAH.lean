/- My own texts DevTg21, DevTg22, DevTg23, DevPct, DevPer, one behind the other. -/
import Derived.Test.YtjaopinmnpekiaaGreatDoorWAF
import Derived.Lib.AppendZerosOnto
import Derived.Lib.Overlaps
import Derived.Lib.Bytealg
import Derived.Test.YtjaopinmnpekiaaGreatDoorWAG
import Derived.Test.YtjaopinmnpekiaaGreatDoorChecked
import Derived.WalkKit
import Derived.LaidEql
import Derived.Stop.Asserts
import Derived.RowKitTokens
set_option linter.unusedVariables false
set_option linter.unusedSimpArgs false
section
open Go.Ai.Enc (enc is)
open Go.Ai.Res (res ris)
open Go.Ai.Args (args)
namespace Go.Ai
open Go.Proofs
theorem ZRP {k:Nat} {sp:List AV}:∀(ys:List AV),(∀v∈ys,ZA4 k v)→ZC2 k (ys.flatMap AV.cells++sp) ys.length=ys:=by
 intro ys;induction ys with
 | nil=>intro _;rfl
 | cons v ys ih=>
  intro h;have hv:=(h v (by simp)).1
  have h1:=(h v (by simp)).2.2.1
  have h2:=(h v (by simp)).2.2.2
  have h0:=(h v (by simp)).2.1
  simp only[List.flatMap_cons,List.length_cons,ZC2,List.append_assoc];have e1:(v.cells++(ys.flatMap AV.cells++sp)).drop (esz k)=ys.flatMap AV.cells++sp:=by rw[←hv,List.drop_left]
  rw[e1,ih (fun w hw=>h w (by simp[hw]))]
  congr 1
  by_cases hk:k=0
  ·subst hk;simp only[if_true];have h3:=h1 rfl
   cases v<;> first | rfl | (simp[AV.one] at h3)
  simp only[if_neg hk];have h6:esz k=k:=by simp[esz,hk]
  rw[h6] at hv;have h3:=h2 hk;rw[←hv,List.take_left]
  cases v<;> first | rfl | (exfalso;simp[AV.cells,AV.one] at h0;done) | (simp[AV.one] at h3)

section
variable {s:St}
theorem ZF4 {k a:Nat} {xs sp:List AV} (hx:∀v∈xs,ZA4 k v) (ha:a≤xs.length):(ZAg xs sp).drop (a*esz k)=ZAg (xs.drop a) sp∧(ZAg xs sp).take (a*esz k)=(xs.take a).flatMap AV.cells:=by
 have hl:=ZCK (z:=esz k) (xs.take a) (fun v hv=>(hx v (List.mem_of_mem_take hv)).1)
 rw[List.length_take,Nat.min_eq_left ha] at hl;have e:ZAg xs sp=(xs.take a).flatMap AV.cells++ZAg (xs.drop a) sp:=by
  unfold ZAg;rw[←List.append_assoc,←List.flatMap_append,List.take_append_drop]
 rw[e];exact⟨by rw[←hl,List.drop_left],by rw[←hl,List.take_left]⟩
theorem ZNn {k m a b c:Nat} {xs sp:List AV} (hx:∀v∈xs,ZA4 k v) (hg:hget s.h m=some (.cells (ZAg xs sp))) (hab:a≤b) (hb:b≤xs.length):elems (.hs k m (a*esz k) (b - a) c) s=some (k,(xs.take b).drop a):=by
 have hl:=ZCK (z:=esz k) xs (fun v hv=>(hx v hv).1)
 simp only[elems,hg];have h1:a*esz k+(b - a)*esz k≤(ZAg xs sp).length:=by
  rw[←Nat.add_mul,show a+(b - a)=b by omega]
  have:=Nat.mul_le_mul_right (esz k) hb
  simp only[ZAg,List.length_append,hl];omega
 rw[if_pos h1,(ZF4 hx (by omega)).1]
 have e:ZAg (xs.drop a) sp=((xs.take b).drop a).flatMap AV.cells++ZAg (xs.drop b) sp:=by
  unfold ZAg;rw[←List.append_assoc,←List.flatMap_append];congr 2
  rw[List.drop_take];have:xs.drop b=(xs.drop a).drop (b - a):=by rw[List.drop_drop];congr 1;omega
  rw[this,List.take_append_drop]
 have hlen:((xs.take b).drop a).length=b - a:=by simp;omega
 rw[e];have:=ZRP (k:=k) (sp:=ZAg (xs.drop b) sp) ((xs.take b).drop a) (fun v hv=>hx v (List.mem_of_mem_take (List.mem_of_mem_drop hv)))
 rw[hlen] at this;rw[this]
theorem ZS7 {k a:Nat} {xs vs sp:List AV} (hx:∀v∈xs,ZA4 k v) (hv:∀v∈vs,ZA4 k v) (h:a+vs.length≤xs.length):ZBC (ZAg xs sp) (a*esz k) (vs.flatMap AV.cells)=ZAg (xs.take a++vs++xs.drop (a+vs.length)) sp:=by
 have hl:=ZCK (z:=esz k) vs (fun v h=>(hv v h).1)
 unfold ZBC;rw[hl,←Nat.add_mul,(ZF4 hx (by omega)).2,(ZF4 hx (by omega)).1]
 simp[ZAg,List.flatMap_append,List.append_assoc]
theorem ZNo {k m:Nat} {ys sp:List AV} (ho:∀y∈sp,y.one=true) (h:m*esz k≤sp.length):ZAg ys sp=ZAg (ys++ZC2 k sp m) (sp.drop (m*esz k))∧(∀v∈ZC2 k sp m,ZA4 k v)∧(ZC2 k sp m).length=m:=by
 have key:∀(m:Nat) (sp:List AV),(∀y∈sp,y.one=true)→m*esz k≤sp.length→(ZC2 k sp m).flatMap AV.cells=sp.take (m*esz k)∧∀v∈ZC2 k sp m,ZA4 k v:=by
  intro m;induction m with
  | zero=>intro sp _ _;simp[ZC2]
  | succ m ih=>
   intro sp ho h;rw[Nat.succ_mul] at h;obtain⟨i1,i2⟩:=ih (sp.drop (esz k)) (fun y hy=>ho y (List.mem_of_mem_drop hy)) (by simp;omega)
   have hz:=ZEG k;have hc:(if k=0 then sp.headD .undef else .agg (sp.take k)).cells=sp.take (esz k)∧ZA4 k (if k=0 then sp.headD .undef else .agg (sp.take k)):=by
    by_cases hk:k=0
    ·subst hk
     cases sp with
     | nil=>simp[esz] at h
     | cons y sp=>
      have hy:=ho y (by simp)
      have e:y.cells=[y]:=by cases y<;> first | rfl | (simp[AV.one] at hy)
      simp only[if_true,List.headD_cons,esz,List.take_succ_cons,List.take_zero];exact⟨e,by rw[e];rfl,fun x hx=>by rw[e] at hx;simp at hx;subst hx;exact hy,fun _=>hy,fun h=>absurd rfl h⟩
    have h6:esz k=k:=by simp[esz,hk]
    simp only[if_neg hk,AV.cells];refine⟨by rw[h6],?_,fun x hx=>ho x (List.mem_of_mem_take hx),fun h=>absurd h hk,fun _=>rfl⟩
    simp only[AV.cells,List.length_take,h6];rw[h6] at h;omega
   refine⟨?_,?_⟩
   ·simp only[ZC2,List.flatMap_cons,hc.1,i1];rw[Nat.succ_mul,Nat.add_comm,List.take_add]
   intro v hv;simp only[ZC2,List.mem_cons] at hv;rcases hv with rfl | hv
   ·exact hc.2
   exact i2 v hv
 obtain⟨k1,k2⟩:=key m sp ho h;refine⟨?_,k2,ZEV⟩
 simp only[ZAg,List.flatMap_append,k1,List.append_assoc,List.take_append_drop]
end
section
variable {P:Program} {prims:Prims} {n:Nat} {bb:Bool} {K:Fm→St→Prop} {φ:Fm} {s:St} {ops:Array Oper} {l:List Oper} {d:Tmp} {ty t t' e:TypeId} {pos:String} {af:Array Edge} {x y z:Operand} {u v w:AV}
variable {k m off len cap:Nat} {es:List En} {xs sp ys:List AV} {k1 k2:IntKind}
theorem ZVH {a:Nat} (hs:Hp s (.cells m (ZAg xs sp)::es)) (hx:∀v∈xs,ZA4 k v) (hv:∀v∈ys,ZA4 k v) (h:a+ys.length≤xs.length):
  ZBu m (a*esz k) (ys.flatMap AV.cells) s=some (s.put m (.cells (ZAg (xs.take a++ys++xs.drop (a+ys.length)) sp)))∧Hp (s.put m (.cells (ZAg (xs.take a++ys++xs.drop (a+ys.length)) sp))) (.cells m (ZAg (xs.take a++ys++xs.drop (a+ys.length)) sp)::es):=by
 have hg:hget s.h m=some (.cells (ZAg xs sp)):=hs.get rfl
 have hl:=ZCK (z:=esz k) xs (fun v hv=>(hx v hv).1)
 have hl2:=ZCK (z:=esz k) ys (fun v h=>(hv v h).1)
 refine⟨?_,Hp.put hs rfl rfl⟩
 simp only[ZBu,hg];have h1:a*esz k+(ys.flatMap AV.cells).length≤(ZAg xs sp).length:=by
  rw[hl2,←Nat.add_mul];have:=Nat.mul_le_mul_right (esz k) h
  simp only[ZAg,List.length_append,hl];omega
 rw[if_pos ⟨h1,List.all_eq_true.2 (fun y hy=>by
  obtain⟨v,hv',hy⟩:=List.mem_flatMap.1 hy;exact(hv v hv').2.1 y hy)⟩,ZS7 hx hv h]
theorem ZT5 {a b:Nat} (hx:∀v∈xs,ZA4 k v) (hv:∀v∈ys,ZA4 k v):∀v∈xs.take a++ys++xs.drop b,ZA4 k v:=by
 intro v h;rcases List.mem_append.1 h with h | h
 ·rcases List.mem_append.1 h with h | h
  ·exact hx v (List.mem_of_mem_take h)
  exact hv v h
 exact hx v (List.mem_of_mem_drop h)
theorem ZNp {j:Nat} (hu:P.underlying t=some (.slice e)) (hsh:ZBF P e=some k) (hx:ZAb n φ x=some (.hs k m 0 len cap)) (hy:ZAb n φ y=some (.int k1 j)) (hj:j≤cap) (hc:len≤cap)
  (kk:TO P prims n bb ops l K (upd φ d (.hs k m 0 j cap)) s):TO P prims n bb ops (⟨some d, .slice t x none (some y) none,ty,pos,af,none⟩::l) K φ s:=by
 refine ZA2 rfl rfl (fun _=>ZGX (ZAM hx) rfl (ZCq (ZBw hy)) rfl (v:= .hs k m 0 j cap) ?_) kk
 simp only[ZEz,hu,hsh,oC,Option.bind_some,ne_eq,not_true_eq_false,if_false,bnds,bnd,Option.isSome_none,Bool.false_eq_true,false_and];rw[if_pos ⟨by omega,by omega⟩]
 simp only[Option.bind_some,Int.toNat_natCast];rw[if_neg (by omega)]
 simp
theorem ZH2 {i:Nat} (hu:P.underlying t=some (.slice e)) (hsh:ZBF P e=some k) (hx:ZAb n φ x=some (.hs k m 0 len cap)) (hy:ZAb n φ y=some (.int k1 i)) (hi:i≤len) (hc:len≤cap) (hn:i<cap)
  (kk:TO P prims n bb ops l K (upd φ d (.hs k m (i*esz k) (len - i) (cap - i))) s):TO P prims n bb ops (⟨some d, .slice t x (some y) none none,ty,pos,af,none⟩::l) K φ s:=by
 refine ZA2 rfl rfl (fun _=>ZGX (ZAM hx) (ZCq (ZBw hy)) rfl rfl (v:= .hs k m (i*esz k) (len - i) (cap - i)) ?_) kk
 simp only[ZEz,hu,hsh,oC,Option.bind_some,ne_eq,not_true_eq_false,if_false,bnds,bnd,Option.isSome_none,Bool.false_eq_true,false_and];rw[if_pos ⟨by omega,by omega⟩]
 simp only[Option.bind_some,Int.toNat_natCast];rw[if_neg (by omega),if_neg (by omega)]
 simp
theorem ZNq {i:Nat} (hu:P.underlying t=some (.slice e)) (hsh:ZBF P e=some k) (hx:ZAb n φ x=some (.hs k m 0 len cap)) (hy:ZAb n φ y=some (.int k1 i)) (hi:i≤len) (hc:len≤cap) (hs:Hp s (.cells m (ZAg xs sp)::es)) (hxs:∀v∈xs,ZA4 k v) (hl:len≤xs.length)
  (kk:∀v,ZEE k v s=some ((xs.take len).drop i)→TO P prims n bb ops l K (upd φ d v) s):TO P prims n bb ops (⟨some d, .slice t x (some y) none none,ty,pos,af,none⟩::l) K φ s:=by
 have hg:hget s.h m=some (.cells (ZAg xs sp)):=hs.get rfl
 by_cases hn:i<cap
 ·refine ZH2 hu hsh hx hy hi hc hn (kk _ ?_)
  simp only[ZEE];rw[ZNn hxs hg hi hl];simp
 have h1:i=cap:=by omega
 have h2:len=cap:=by omega
 subst h1;subst h2;refine ZA2 rfl rfl (fun _=>ZGX (ZAM hx) (ZCq (ZBw hy)) rfl rfl (v:= .hs k m 0 0 0) ?_) (kk _ ?_)
 ·simp only[ZEz,hu,hsh,oC,Option.bind_some,ne_eq,not_true_eq_false,if_false,bnds,bnd,Option.isSome_none,Bool.false_eq_true,false_and];rw[if_pos ⟨by omega,by omega⟩]
  simp
 simp only[ZEE];have:=ZNn (a:=0) (b:=0) (c:=0) hxs hg (Nat.le_refl _) (Nat.zero_le _)
 simp only[Nat.zero_mul,Nat.sub_self] at this;rw[this];simp[List.drop_of_length_le,Nat.min_le_left]
theorem ZVI {ts:Array TypeId} (hu:P.underlying t=some (.slice e)) (ht:ts[0]? =some t) (hx:ZAb n φ x=some (.hs k m off len cap)) (kk:TO P prims n bb ops l K (upd φ d (.int .i64 cap)) s):TO P prims n bb ops (⟨some d, .call ⟨.builtin .cap, #[x],ts⟩,ty,pos,af,none⟩::l) K φ s:=
 ZA2 rfl rfl (fun _=>by simp[aOp,ZBq,ZAM hx,ZCI,ht,aCap,hu]) kk
theorem ZOz {ts:Array TypeId} {a q c:Nat} (hu:P.underlying t=some (.slice e)) (ht:ts[0]? =some t) (hsh:ZBF P e=some k) (hx:ZAb n φ x=some (.hs k m (a*esz k) q c)) (hy:ZAb n φ y=some v) (hsrc:ZEE k v s=some ys) (hs:Hp s (.cells m (ZAg xs sp)::es))
  (hxs:∀v∈xs,ZA4 k v) (hys:∀v∈ys,ZA4 k v) (hq:a+q≤xs.length)
  (kk:∀r s',Hp s' (.cells m (ZAg (xs.take a++ys.take (min ys.length q)++xs.drop (a+min ys.length q)) sp)::es)→TO P prims n bb ops l K (upd φ d r) s'):TO P prims n bb ops (⟨some d, .call ⟨.builtin .copy, #[x,y],ts⟩,ty,pos,af,none⟩::l) K φ s:=by
 have hl:(ys.take (min ys.length q)).length=min ys.length q:=by simp
 obtain⟨h1,h2⟩:=ZVH (a:=a) (ys:=ys.take (min ys.length q)) hs hxs (fun v hv=>hys v (List.mem_of_mem_take hv)) (by rw[hl];omega)
 rw[hl] at h1 h2;refine ZA2 rfl rfl (fun _=> ?_) (kk (.int .i64 ((min ys.length q:Nat):Int)) _ h2)
 simp only[aOp,ZBq,List.mapM_cons,List.mapM_nil,ZAM hx,ZAM hy,oC,Option.bind_some,Option.pure_def,ZCI,ZSV,ht,hu,hsh,hsrc,ne_eq,not_true_eq_false,if_false,h1]
end
section
variable {P:Program} {prims:Prims} {n:Nat} {K:Fm→St→Prop} {φ:Fm} {s:St} {ops:Array Oper} {l:List Oper} {d:Tmp} {ty t t' e:TypeId} {pos:String} {af:Array Edge} {x y z:Operand} {u v w:AV}
variable {k m off len cap:Nat} {es:List En} {xs sp ys:List AV} {k1 k2:IntKind}
theorem ZKy {wd:World} {ρ:Pl} {U:Reg} {c:Nat} {a:AV} {zv:Value} (ha:ZA4 k a) (hr:Rel wd ρ U c a zv):∀q,RelC wd ρ U c k (List.replicate q a) ((List.replicate q zv.cells.toList).flatten)
 | 0=>by simp[RelC]
 | q+1=>by
  simp only[List.replicate_succ,List.flatten_cons,RelC];exact⟨zv,_,rfl,ha,hr,ZKy ha hr q⟩
theorem ZGl (z:Array Value) (q:Nat) (hz:0<z.size):(Builtin.zeroCells z q).toList=(List.replicate q z.toList).flatten:=ZHI z q hz
theorem ZWJ {ts:Array TypeId} {by_ i q:Nat} {a:AV} (hu:P.underlying t=some (.slice e)) (hu' :P.underlying t' =some (.int k2)) (ht:ts[0]? =some t) (ht1:ts[1]? =some t') (hts:ts.size=2) (he:EF P e k by_) (hz:ZBM P e=some a) (hok:ZA4 k a) (hx:ZAb n φ x=some (.hs k m 0 i cap)) (hy:ZAb n φ y=some (.int k1 q))
  (hs:Hp s (.cells m (ZAg xs sp)::es)) (hxs:∀v∈xs,ZA4 k v) (hi:i≤xs.length) (hq:0<q) (hg:cap<i+q) (hr:ZES (i+q) by_=true)
  (kk:∀m' newCap zs s',i+q≤newCap→zs.length=(newCap - (i+q))*esz k→(∀y∈zs,y.one=true)→Hp s' (.cells m' (ZAg (xs.take i++List.replicate q a) zs):: .cells m (ZAg xs sp)::es)→TO P prims n false ops l K (upd φ d (.hs k m' 0 (i+q) newCap)) s'):
  TO P prims n false ops (⟨some d, .call ⟨.builtin .append, #[x,y],ts⟩,ty,pos,af,none⟩::l) K φ s:=by
 obtain⟨inf,hin,hi1,hi2⟩:=he.info;obtain⟨r1,r2⟩:=ZE3 hr;have hg0:hget s.h m=some (.cells (ZAg xs sp)):=hs.get rfl
 have hel:=ZNn (a:=0) (b:=i) (c:=cap) hxs hg0 (Nat.zero_le _) hi;simp only[Nat.zero_mul,Nat.sub_zero,List.drop_zero] at hel;refine ZHT rfl rfl (fun _=>rfl) fun hp base ρ X wd ac A B hba hsim hrl hd hA=> ?_
 have hxr:=ZAW hrl (ZAM hx);have hyr:=ZAW hrl (ZAM hy);have hsrc:ZEE k (.hs k m 0 i cap) s=some (xs.take i):=by simp only[ZEE,hel,oC,Option.bind_some,if_true]
 obtain⟨cs,hcs,hlen,hfirst⟩:=ZGV (P:=P) hsim hxr hsrc;have htl:(xs.take i).length=i:=by simp;omega
 have hcl:=hcs.length;rw[htl] at hcl;simp only[Rel] at hxr hyr;obtain⟨hmc,hxe⟩:=hxr;obtain⟨i',hi',zv,hzv,hz'⟩:∃i',P.info? e=some i' ∧∃zv,i'.zero=some zv∧ZLx zv=some a:=by
  simp only[ZBM,oC,oB] at hz;exact hz
 rw[hin] at hi';injection hi' with hi';subst hi'
 have hzrel:=ZEH (w:=wd) (ρ:=ρ) (U:=UX ρ s.h X) (c:=s.c) hz';have hzs' :zv.cells.size=esz k:=by rw[hzrel.cells_size,hok.1]
 have hzp:0<zv.cells.size:=by rw[hzs'];exact ZEG _
 have hisz:inf.size=esz k:=by
  have:=(ZA3 he.sh).1
  simp only[szT,hin,Option.map_some,Option.some.injEq] at this;exact this
 have hold:(Builtin.firstCells inf.size i (.slice (some ⟨(ρ m).1,0,none⟩) i cap)).run P wd.drew= .ok cs.toArray wd.drew:=by
  have:=hfirst wd.drew (fun _ _ hu=>hu) i (by rw[htl];exact Nat.le_refl _)
  rw[hisz];have e1:cs.take (i*esz k)=cs:=List.take_of_length_le (by omega)
  rw[e1,hxe] at this;exact this
 have hby:inf.bytes=by_:=hi2
 have hle1:Builtin.nextslicecap (i+q) cap≤2*(i+q)+1000:=ZHu hg
 have hb1:by_≤137438953472:=by
  have h1:1*by_≤(i+q)*by_:=Nat.mul_le_mul_right _ (by omega)
  omega
 have hfit:Builtin.nextslicecap (i+q) cap*inf.bytes≤281474976710656:=by
  rw[hby];have h1:=Nat.mul_le_mul_right by_ hle1;have h2:(2*(i+q)+1000)*by_=2*((i+q)*by_)+1000*by_:=by rw[Nat.add_mul,Nat.mul_assoc]
  omega
 have h48:q*inf.bytes≤281474976710656:=by
  rw[hby];have h1:q*by_≤(i+q)*by_:=Nat.mul_le_mul_right _ (by omega)
  omega
 have hrun:=Lib.run_append_grow_zeros wd t t' ty e inf zv k1 k2 hu hu' hin hzv (some ⟨(ρ m).1,0,none⟩) i cap cs hold q hq (by rw[hisz];exact ZEG _) hg (by omega) h48 hfit
 obtain⟨G,hG⟩:∃G,G=grownCap wd (i+q) cap e:=⟨_,rfl⟩;have hGn:i+q≤G:=by rw[hG];exact grownCap_ge wd _ _ _
 rw[←hG] at hrun;have hts' :ts= #[t,t']:=by
  obtain⟨tl⟩:=ts;have h2:tl.length=2:=by simpa using hts
  match tl,h2,ht,ht1 with
  | [p,q],_,ht,ht1=>simp at ht ht1;simp[ht,ht1]
 have hus:=ZKy (wd:=wd) (ρ:=ρ) (U:=UX ρ s.h X) (c:=s.c) hok hzrel q;have hpost:=ZHy (e:=e) (newCap:=G) hba hsim hcs hus (fun v hv=>hxs v (List.mem_of_mem_take hv)) (fun v hv=>by rw[List.eq_of_mem_replicate hv];exact hok) hzrel.cells (fun y hy=>hok.2.1 y hy) hzp (by simp[Nat.min_eq_left hi];exact hGn)
 simp only[htl,List.length_replicate] at hpost;refine ZC5 (v' := .slice (some ⟨wd.heap.size,0,none⟩) (i+q) G) (w' :=wd.drew.alloc (.cells (cs.toArray++(List.replicate q zv.cells.toList).flatten.toArray++Builtin.zeroCells zv.cells (G - (i+q))) e)) ?_ ?_
 ·have hex:execOp ac.eval ⟨some d, .call ⟨.builtin .append, #[x,y],ts⟩,ty,pos,af,none⟩=(do pure (.value (←Builtin.append_ ts ty #[ac.eval x,ac.eval y])):Sem Next):=by
   simp only[execOp,resolve,pure_bind,invoke,List.map_toArray,List.map_cons,List.map_nil];rfl
  rw[hex,hts',hxe,hyr];have e2:(List.replicate q zv.cells.toList).flatten.toArray=Builtin.zeroCells zv.cells q:=by
   apply Array.ext'
   rw[ZGl _ _ hzp]
  rw[e2];simp[hrun]
 refine hA _ _ _ _ (kk s.c G _ _ hGn ?_ ?_ (Hp.new hs _ _ rfl)) hpost
 ·simp[List.length_flatten,hok.1]
 intro y hy;obtain⟨q1,hq1,hq2⟩:=List.mem_flatten.1 hy;obtain⟨_,rfl⟩:=List.mem_replicate.1 hq1;exact hok.2.1 y hq2
theorem ZIU {wd:World} {tS tR:TypeId} (hu:P.underlying tS=some (.slice e)) {size:Nat} (hz:∀w,(sizeOf e).run P w= .ok size w) {a b:Addr} {la ca lb cb:Nat} (hne:a.block≠b.block) {CA CB:Array Value} {tA tB:TypeId} {fA fB:Nat×Nat}
  (hA:wd.heap[a.block]? =some (.cells CA tA fA)) (hB:wd.heap[b.block]? =some (.cells CB tB fB)) (hkA:0<CA.size) (hth:thawedE CB fB) (hbo:b.off≤CB.size):
  (Extern.SlicesOverlaps.overlaps #[tS,tS] #[tR] #[.slice (some a) la ca, .slice (some b) lb cb]).run P wd= .ok (.bool false) wd:=by
 have hnb:(a.block !=b.block)=true:=by simpa using hne
 have hnb' :(a.block==b.block)=false:=by simpa using hne
 have hsa:wd.shape? a.block=some (tA,CA.size):=by unfold World.shape?;rw[hA]
 have hsb:wd.shape? b.block=some (tB,CB.size):=by unfold World.shape?;rw[hB]
 have hfb:wd.frozen? b=false:=by
  unfold World.frozen?;rw[hB];have:=hth b.off hbo
  simpa using this
 have hfe:wd.frozen? ⟨b.block,CB.size,none⟩=false:=by
  unfold World.frozen?;rw[hB];have:=hth CB.size (Nat.le_refl _)
  simpa using this
 obtain⟨q,hq⟩:∃q,CA.size=q+1:=⟨CA.size - 1,by omega⟩
 rw[hq] at hsa;change Sem.run P (α:=Value) (do
  let some t:=(#[tS,tS]:Array TypeId)[0]? | stuck "slices.overlaps: no parameter types"
  let .slice elem ←underlying t | stuck "slices.overlaps: slice type expected"
  let size ←sizeOf elem
  match (some a:Option Addr),(some b:Option Addr) with
  | some a,some b=>
   if la=0∨lb=0∨size=0 then pure (Value.bool false)
   else if a.block !=b.block && (←frozen a) && (←frozen b) then unsupported .addressObserved
   else do
    if a.block !=b.block then do
     noView a;noView b
     if ←mayBeOne a b then return Value.bool ((←choose (.extern "sameAddr.stringBytes" 2))==1)
    pure (Value.bool (a.block==b.block && a.off<b.off+lb*size && b.off<a.off+la*size))
  | _,_=>pure (Value.bool false)) wd=_
 by_cases h0:la=0∨lb=0∨size=0
 ·simp[run_underlying hu,hz,h0]
 cases hfa:wd.frozen? a<;> cases hfk:wd.frozen? ⟨a.block,q+1,none⟩<;> simp[run_underlying hu,hz,h0,hnb,hnb',frozen,noView,viewAt,mayBeOne,stringish,shape,Sem.run,hsa,hsb,hfa,hfb,hfe,hfk]
theorem ZWK {g:FuncId} {fn:Func} {ts:Array TypeId} {tR:TypeId} {a q c:Nat} {us:List AV} {cp:Cap} (hf:P.funcs[g]? =some fn) (h1:(fn.name== "runtime.NumGoroutine")=false) (h2:fn.body.isNone=true) (h3:Extern.findNext fn=none) (h4:Extern.find fn=some (Extern.SlicesOverlaps.overlaps #[t,t] #[tR]))
  (hu:P.underlying t=some (.slice e)) (hsh:ZBF P e=some k) (hx:ZAb n φ x=some (.vec k us cp)) (hus:us≠[]) (hy:ZAb n φ y=some (.hs k m (a*esz k) q c)) (hs:Hp s (.cells m (ZAg xs sp)::es)) (hxs:∀v∈xs,ZA4 k v) (ha:a≤xs.length)
  (kk:TO P prims n false ops l K (upd φ d (.bool false)) s):TO P prims n false ops (⟨some d, .call ⟨.value (.func g), #[x,y],ts⟩,ty,pos,af,none⟩::l) K φ s:=by
 refine ZHT rfl rfl (fun hp=>by
  show(prims g).isSome=false
  cases hg:prims g with
  | none=>rfl
  | some F=>
   obtain⟨⟨fn',hf',he'⟩,_⟩:=hp g F hg;rw[hf] at hf';injection hf' with hf';subst hf'
   simp[ZCn] at he'
   rw[Option.isNone_iff_eq_none] at h2;rw[h2] at he';simp at he') fun hp base ρ X wd ac A B hb hsim hrl hdf hA=> ?_
 have hr:=ZAW hrl (ZAM hx);have hr2:=ZAW hrl (ZAM hy);simp only[Rel] at hr hr2;obtain⟨aa,ca,cs,hv,hca,hcs,hrow,_⟩:=hr;obtain⟨hm,hv2⟩:=hr2;obtain⟨C,tB,fB,g1,g2,g3,g4⟩:=hsim.obj m _ (hs.get rfl);have hcl:=hcs.length;have hup:0<us.length:=List.length_pos_iff.2 hus
 have hcp:0<cs.length:=by rw[hcl];exact Nat.mul_pos hup (ZEG k)
 obtain⟨hc0,hn0⟩:=hrow 0 cs[0] (List.getElem?_eq_getElem hcp);have hadd:aa.add 0=aa:=by cases aa;rfl
 rw[hadd] at hc0;have hne:aa.block≠(ρ m).1:=fun he=>hn0 (.inl ⟨m,_,hs.get rfl,he.symm,trivial⟩)
 obtain⟨CA,tA,fA,hA1,hA2⟩:∃CA tA fA,wd.heap[aa.block]? =some (.cells CA tA fA)∧0<CA.size:=by
  unfold World.cell? at hc0;split at hc0
  ·rename_i C' t' f' heq;refine⟨C',t',f',heq,?_⟩
   by_cases h:0<C'.size
   ·exact h
   exfalso
   have:C' = #[]:=by apply Array.eq_empty_of_size_eq_zero;omega
   subst this;revert hc0
   simp
  cases hc0
 have hsz:=(ZA3 hsh).1;have hl:=ZCK (z:=esz k) xs (fun v hv=>(hxs v hv).1)
 have hoff:a*esz k≤C.size:=by
  have h5:=g3.length;have h6:=Nat.mul_le_mul_right (esz k) ha;simp only[ZAg,List.length_append,hl,Array.length_toList] at h5;omega
 refine ZC5 (v' := .bool false) (w' :=wd) ?_ (hA _ _ _ wd kk (.same hsim (by simp only[Rel])))
 show(execOp ac.eval _).run P wd=_
 have e0:ac.eval (.func g)= .func (.func g) #[] #[]:=rfl
 simp only[execOp,resolve,e0,Deferred.ofValue,pure_bind,invoke];have hm:(#[]++(#[x,y].map ac.eval)++ #[]:Array Value)= #[ac.eval x,ac.eval y]:=by simp
 have hov:=ZIU (P:=P) (wd:=wd) (tS:=t) (tR:=tR) hu (fun w=>ZAe hsz w) (a:=aa) (b:=⟨(ρ m).1,a*esz k,none⟩) (la:=us.length) (ca:=ca) (lb:=q) (cb:=c) hne hA1 g1 hA2 g2 hoff
 first
  | rw[hm,run_callFunc_extern hf h1 h2 h3 h4,hv,hv2,hov];rfl
  | (simp only[Array.append_empty,Array.empty_append];rw[run_callFunc_extern hf h1 h2 h3 h4];simp[hv,hv2,hov,Result.andThen])
end
end Go.Ai
end
section
open Go.Ai.Enc (enc is)
open Go.Ai.Res (res ris)
open Go.Ai.Args (args)
namespace Go.Ai
open Go.Proofs
def ins {α:Type} (by_:Nat) (s:List α) (i:Int) (v:List α):Option (List α):=if 0≤i∧i≤s.length∧ZES (s.length+v.length) by_=true then some (s.take i.toNat++v++s.drop i.toNat) else none
def del {α:Type} (s:List α) (i j:Int):Option (List α):=if 0≤i∧i≤j∧j≤s.length∧s.length≤137438953472 then some (s.take i.toNat++s.drop j.toNat) else none
theorem ZS8 {α:Type} {by_:Nat} {s v r:List α} {i:Int} (h:ins by_ s i v=some r):∃j:Nat,i=j∧j≤s.length∧ZES (s.length+v.length) by_=true∧r=s.take j++v++s.drop j:=by
 unfold ins at h;split at h
 ·rename_i hc;injection h with h
  exact⟨i.toNat,by omega,by omega,hc.2.2,h.symm⟩
 cases h
theorem ZKW {P:Program} {t:TypeId} {a b:Int} {c1 c2:Bool} (h: -9223372036854775808≤a+b∧a+b≤9223372036854775807):ZC4 P .add t (.int .i64 a) (.int .i64 b) c1 c2=some (.int .i64 (a+b)):=by
 show some (AV.int .i64 (IntKind.i64.wrap (a+b)))=_
 rw[show IntKind.i64.wrap (a+b)=a+b by rw[IntKind.wrap_i64];omega]
theorem ZWL {P:Program} {t:TypeId} {a b:Int} {c1 c2:Bool} (h: -9223372036854775808≤a - b∧a - b≤9223372036854775807):ZC4 P .sub t (.int .i64 a) (.int .i64 b) c1 c2=some (.int .i64 (a - b)):=by
 show some (AV.int .i64 (IntKind.i64.wrap (a - b)))=_
 rw[show IntKind.i64.wrap (a - b)=a - b by rw[IntKind.wrap_i64];omega]
theorem ZRQ {α:Type} {ys us vs L0 src L1:List α} {n m j q:Nat} (h1:ys.length=n) (h2:us.length=m) (h3:vs.length=m) (hj:j≤n) (hL0:L0=ys++us) (hs:src=(L0.take (n+m)).drop j) (hq:q=n+m - (j+m))
  (hL1:L1=L0.take (j+m)++src.take (min src.length q)++L0.drop (j+m+min src.length q)):
  L1.take j++vs.take (min vs.length (n+m - j))++L1.drop (j+min vs.length (n+m - j))=ys.take j++vs++ys.drop j:=by
 have hl0:L0.length=n+m:=by rw[hL0];simp[h1,h2]
 rw[List.take_of_length_le (by omega)] at hs
 have hsl:src.length=n+m - j:=by rw[hs,List.length_drop,hl0]
 have e1:min src.length q=n - j:=by omega
 have e2:min vs.length (n+m - j)=m:=by omega
 have e3:src.take (n - j)=ys.drop j:=by
  rw[hs,hL0,List.drop_append_of_le_length (by omega),List.take_append_of_le_length (by simp;omega),List.take_of_length_le (by simp;omega)]
 rw[e1,e3,List.drop_of_length_le (l:=L0) (by omega),List.append_nil] at hL1
 have hl5:(L0.take (j+m)).length=j+m:=by simp;omega
 have e6:L1.take j=ys.take j:=by
  rw[hL1,List.take_append_of_le_length (by omega),List.take_take,Nat.min_eq_left (by omega),hL0,List.take_append_of_le_length (by omega)]
 have e7:L1.drop (j+m)=ys.drop j:=by
  rw[hL1,List.drop_append_of_le_length (by omega),List.drop_of_length_le (l:=L0.take (j+m)) (by omega)];rfl
 rw[e2,e6,e7,List.take_of_length_le (l:=vs) (by omega)]
theorem ZS9 {α:Type} {ys vs L0 src L1:List α} {a:α} {n m j q1 q2:Nat} (h1:ys.length=n) (h3:vs.length=m) (hj:j≤n) (hL0:L0=ys.take j++List.replicate (n+m - j) a) (hq1:q1=j+(n+m - j) - j) (hq2:q2=j+(n+m - j) - (j+m))
  (hL1:L1=L0.take j++vs.take (min vs.length q1)++L0.drop (j+min vs.length q1)) (hs:src=(ys.take n).drop j):
  L1.take (j+m)++src.take (min src.length q2)++L1.drop (j+m+min src.length q2)=ys.take j++vs++ys.drop j:=by
 have hl0:L0.length=n+m:=by rw[hL0];simp[h1];omega
 rw[List.take_of_length_le (by omega)] at hs
 have hsl:src.length=n - j:=by rw[hs];simp[h1]
 have e1:min vs.length q1=m:=by omega
 have e2:min src.length q2=n - j:=by omega
 have e4:L0.take j=ys.take j:=by
  rw[hL0,List.take_append_of_le_length (by simp;omega),List.take_take,Nat.min_self]
 rw[e1,e4,List.take_of_length_le (l:=vs) (by omega)] at hL1
 have hl:(ys.take j++vs).length=j+m:=by simp;omega
 have hd:(L0.drop (j+m)).length=n - j:=by rw[List.length_drop,hl0];omega
 have hl1:L1.length=n+m:=by rw[hL1,List.length_append,hl,hd];omega
 have e5:L1.take (j+m)=ys.take j++vs:=by
  rw[hL1,List.take_append_of_le_length (by omega),List.take_of_length_le (by omega)]
 rw[e2,e5,List.drop_of_length_le (l:=L1) (by omega),List.append_nil,hs,List.take_of_length_le (l:=ys.drop j) (by simp[h1])]
section
variable {P:Program} {prims:Prims} {n:Nat} {bb:Bool} {K:Fm→St→Prop} {φ:Fm} {s:St} {ops:Array Oper} {l:List Oper} {d:Tmp} {ty t t' e:TypeId} {pos:String} {af:Array Edge} {x y z:Operand} {u v w:AV}
variable {T:Type} [Enc T] {xs:List T} {en:En} {es:List En} {k1 k2 k3:IntKind}
theorem ZWM {i:Nat} (hu:P.underlying t=some (.slice e)) (hsh:ZBF P e=some (Enc.k T)) (hx:ZAb n φ x=some u) (hy:ZAb n φ y=some (.int k1 i)) (h:isM u en xs) (hi:i≤xs.length) (hs:Hp s (en::es))
  (kk:∀v,TO P prims n bb ops l K (upd φ d v) s):TO P prims n bb ops (⟨some d, .slice t x (some y) none none,ty,pos,af,none⟩::l) K φ s:=by
 rcases h with⟨m,cap,ys,sp,rfl,rfl,h1,h2,h3,h4⟩ | ⟨rfl,h1,_,_,rfl⟩
 ·exact ZNq hu hsh hx hy hi h3 hs h1.ok (by rw[h1.len];exact Nat.le_refl _) fun v _=>kk v
 have h0:i=0:=by simpa using hi
 subst h0;exact ZTn hu hsh hx (ZBw hy) rfl rfl h1 (a:=0) (b2:=0) (c:=0) (by simp[bnds,bnd]) fun z _=>kk z
end
theorem ZT6 {T:Type} [Enc T] {m cap q:Nat} {L sp:List AV} {r:List T} (hq:q=r.length) (hL:isR L r) (hsp:sp.length=(cap - r.length)*esz (Enc.k T)) (hc:r.length≤cap) (ho:∀y∈sp,y.one=true):isM (.hs (Enc.k T) m 0 q cap) (.cells m (ZAg L sp)) r:=by
 subst hq;exact .inl ⟨m,cap,L,sp,rfl,rfl,hL,hsp,hc,ho⟩
theorem ZT7 {P:Program} {T:Type} [Enc T] {e:TypeId} {zv:T} (h:∃a,ZBM P e=some a∧is a zv):∃a,ZBM P e=some a∧ZA4 (Enc.k T) a:=by
 obtain⟨a,h1,h2⟩:=h;exact⟨a,h1,Enc.el h2⟩
end Go.Ai
end
section
open Go.Ai.Enc (enc is)
open Go.Ai.Res (res ris)
open Go.Ai.Args (args)
namespace Go.Ai
open Go.Proofs
section
variable {P:Program} {prims:Prims} {n:Nat} {K:Fm→St→Prop} {φ:Fm} {s:St} {ops:Array Oper} {l:List Oper} {d:Tmp} {ty:TypeId} {pos:String} {af:Array Edge} {x y:Operand}
theorem ZWN {g:FuncId} {fn:Func} {ts:Array TypeId} {a:Str} {c:UInt8} (hf:P.funcs[g]? =some fn) (h1:(fn.name== "runtime.NumGoroutine")=false) (h2:fn.body.isNone=true) (h3:Extern.findNext fn=none) (h4:Extern.find fn=some Extern.BytealgIndexByte.indexByte)
  (hx:ZAb n φ x=some (enc a)) (hy:ZAb n φ y=some (enc c)) (k:TO P prims n false ops l K (upd φ d (enc (Lib.indexByte a c:Int))) s):TO P prims n false ops (⟨some d, .call ⟨.value (.func g), #[x,y],ts⟩,ty,pos,af,none⟩::l) K φ s:=by
 refine ZHT rfl rfl (fun hp=>by
  show(prims g).isSome=false
  cases hg:prims g with
  | none=>rfl
  | some F=>
   obtain⟨⟨fn',hf',he'⟩,_⟩:=hp g F hg;rw[hf] at hf';injection hf' with hf';subst hf'
   simp[ZCn] at he'
   rw[Option.isNone_iff_eq_none] at h2;rw[h2] at he';simp at he') fun hp base ρ X w ac A B hb hsim hrl hdf hA=> ?_
 have hr:=ZAW hrl (ZAM hx);have hr2:=ZAW hrl (ZAM hy);have hr:ac.eval x= .string ⟨List.toArray a⟩:=hr
 have hr2:ac.eval y= .int .u8 (c.toNat:Int):=hr2
 refine ZC5 (v' := .int .i64 (Lib.indexByte a c)) (w' :=w) ?_ (hA _ _ _ w k (.same hsim rfl))
 show(execOp ac.eval _).run P w=_
 have e:ac.eval (.func g)= .func (.func g) #[] #[]:=rfl
 simp only[execOp,resolve,e,Deferred.ofValue,pure_bind,invoke];have hm:(#[]++(#[x,y].map ac.eval)++ #[]:Array Value)= #[ac.eval x,ac.eval y]:=by simp
 have hov:=Lib.run_indexByteString (P:=P) ⟨List.toArray a⟩ (c.toNat:Int) w
 have hc:((c.toNat:Int).toNat).toUInt8=c:=by simp
 rw[hc] at hov;first
  | rw[hm,run_callFunc_extern hf h1 h2 h3 h4,hr,hr2,hov];rfl
  | (simp only[Array.append_empty,Array.empty_append];rw[run_callFunc_extern hf h1 h2 h3 h4];simp[hr,hr2,hov,Result.andThen])
end
end Go.Ai
end
section
set_option maxRecDepth 100000
attribute [local irreducible] Go.Ai.TC Go.Ai.TO Go.Ai.MF
open Go.Ai.Enc (enc is)
open Go.Ai.Res (res ris)
open Go.Ai.Args (args)
namespace Go.Ai.Rab
open Go.Proofs
def ixB (s:Str) (c:UInt8):Option Int:=some (Lib.indexByte s c)
def ixS (s t:Str):Option Int:=match (t:List UInt8) with | [c]=>some (Lib.indexByte s c) | _=>none
def ZBs (s t:Str):Option Bool:=(ixS s t).map fun i=>decide (i≥0)
theorem ZWO (s:Str) (c:UInt8) (r:Int) (h:ixB s c=some r):MF Tryz.prog py14 129 [enc s,enc c] s0 fun v _=>ris v r:=by
 refine ZAh [(0,enc s),(1,enc c)] Tryz.func129 rfl (by simp only[Tryz.f129];rfl) fun ψ=> ?_
 unfold ixB at h;repeat refine ZAB ?_
 refine ZAC<|ZAG (v:=enc (0:Int)) rfl<|ZAA ?_
 repeat refine ZAB ?_
 refine ZAC<|ZAE (v:=enc s) rfl<|ZAE (v:=enc c) rfl<|ZWN (a:=s) (c:=c) Tryz.func144 (by kernel_rfl) (by kernel_rfl) (by kernel_rfl) (by kernel_rfl) rfl rfl<|ZAG (v:=enc (Lib.indexByte s c:Int)) rfl<|ZAA<|ZAN ?_
 rw[←oi h];exact⟨rfl,KE1 (a:=(Lib.indexByte s c:Int)) rfl rfl rfl rfl⟩
theorem ZWP:ZAq Tryz.prog 129 (fun _=>Fn (fun a:Str×UInt8×Unit=>ixB a.1 a.2.1)):=fnC ZEo ⟨_,Tryz.func129,rfl⟩<|fun a r h=>ZWO a.1 a.2.1 r h
noncomputable def pct1:Prims:=py14.add 129 (Fn (fun a:Str×UInt8×Unit=>ixB a.1 a.2.1))
theorem ZRR:ZAX Tryz.prog pct1:=ZAn ZEo ZWP
theorem ZWQ (s t:Str) (r:Int) (h:ixS s t=some r):MF Tryz.prog pct1 116 [enc s,enc t] s0 fun v _=>ris v r:=by
 refine ZAh [(0,enc s),(1,enc t)] Tryz.func116 rfl (by simp only[Tryz.f116];rfl) fun ψ=> ?_
 obtain⟨c,rfl⟩:∃c,t=[c]:=by
  unfold ixS at h;split at h
  ·exact⟨_,rfl⟩
  cases h
 replace h:some (Lib.indexByte s c)=some r:=h
 repeat refine ZAB ?_
 refine ZAC<|ZAG (v:=enc (0:Int)) rfl<|ZAA ?_
 repeat refine ZAB ?_
 refine ZAC<|ZAE (v:=enc (str [c])) rfl<|ZE6 Tryz.underlying9 rfl rfl<|ZAG (v:=enc (1:Int)) rfl<|ZAA ?_
 repeat refine ZAB ?_
 refine ZAQ ?_
 repeat refine ZAB ?_
 refine ZAC<|ZAE (v:=enc (1:Int)) rfl<|ZAJ (v:= .bool false) rfl rfl rfl<|ZAE (v:= .bool false) rfl<|ZAF rfl rfl rfl<|ZAE (v:=enc (str [c])) rfl<|ZAF rfl rfl rfl<|ZAE (v:=enc s) rfl<|ZAF rfl rfl rfl<|ZAJ (v:= .bool (eqS (str [c]) s)) rfl rfl rfl<|ZAZ (v:= .bool (eqS (str [c]) s)) rfl Bool.false_ne_true rfl<|ZAG (v:= .bool (eqS (str [c]) s)) rfl<|ZAA ?_
 by_cases hE:eqS (str [c]) s=true
 ·refine ZAH rfl hE ?_
  repeat refine ZAB ?_
  refine ZAC<|ZAG (v:=enc (0:Int)) rfl<|ZAA<|ZAN ?_
  show if _ then _ else _
  rw[if_neg (by simp)]
  have hs:s=[c]:=(by unfold eqS at hE;exact(eq_of_beq hE).symm)
  rw[hs] at h;have h0:Lib.indexByte [c] c=0:=by simp[Lib.indexByte]
  rw[h0] at h;rw[←oi h];exact⟨rfl,KE1 (a:=(0:Int)) rfl rfl rfl rfl⟩
 refine ZAI rfl hE ?_
 repeat refine ZAB ?_
 refine ZAC<|ZAE (v:=enc (1:Int)) rfl<|ZAJ (v:= .bool true) rfl rfl rfl<|ZAG (v:= .bool true) rfl<|ZAA<|ZAH rfl rfl ?_
 repeat refine ZAB ?_
 refine ZAC<|ZAE (v:=enc s) rfl<|ZAE (v:=enc (str [c])) rfl<|ZFm (a:=c) Tryz.underlying9 rfl rfl rfl<|ZCr (f:=fun a:Str×UInt8×Unit=>ixB a.1 a.2.1) (a:=(s,c,())) (r:=(Lib.indexByte s c:Int)) rfl Tryz.func129 rfl rfl (.cons (a:=s) (Enc.self _) (.cons (a:=c) (Enc.self _) .nil)) rfl<|ZAG (v:=enc (Lib.indexByte s c:Int)) rfl<|ZAA<|ZAN ?_
 show if _ then _ else _
 rw[if_neg (by simp)]
 rw[←oi h];exact⟨rfl,KE1 (a:=(Lib.indexByte s c:Int)) rfl rfl rfl rfl⟩
theorem ZWR:ZAq Tryz.prog 116 (fun _=>Fn (fun a:Str×Str×Unit=>ixS a.1 a.2.1)):=fnC ZRR ⟨_,Tryz.func116,rfl⟩<|fun a r h=>ZWQ a.1 a.2.1 r h
noncomputable def pct2:Prims:=pct1.add 116 (Fn (fun a:Str×Str×Unit=>ixS a.1 a.2.1))
theorem ZRS:ZAX Tryz.prog pct2:=ZAn ZRR ZWR
theorem ZVJ (s t:Str) (r:Int) (h:ixS s t=some r):MF Tryz.prog pct2 95 [enc s,enc t] s0 fun v _=>ris v r:=by
 refine ZAh [(0,enc s),(1,enc t)] Tryz.func95 rfl (by simp only[Tryz.f95];rfl) fun ψ=> ?_
 repeat refine ZAB ?_
 refine ZAC<|ZAG (v:=enc (0:Int)) rfl<|ZAA ?_
 repeat refine ZAB ?_
 refine ZAC<|ZAE (v:=enc s) rfl<|ZAE (v:=enc t) rfl<|ZCr (f:=fun a:Str×Str×Unit=>ixS a.1 a.2.1) (a:=(s,t,())) (r:=r) rfl Tryz.func116 rfl rfl (.cons (a:=s) (Enc.self _) (.cons (a:=t) (Enc.self _) .nil)) h<|ZAG (v:=enc r) rfl<|ZAA<|ZAN ?_
 exact⟨rfl,KE1 (a:=r) rfl rfl rfl rfl⟩
theorem ZVK:ZAq Tryz.prog 95 (fun _=>Fn (fun a:Str×Str×Unit=>ixS a.1 a.2.1)):=fnC ZRS ⟨_,Tryz.func95,rfl⟩<|fun a r h=>ZVJ a.1 a.2.1 r h
noncomputable def pct3:Prims:=pct2.add 95 (Fn (fun a:Str×Str×Unit=>ixS a.1 a.2.1))
theorem ZRT:ZAX Tryz.prog pct3:=ZAn ZRS ZVK
theorem ZJO (s t:Str) (r:Bool) (h:ZBs s t=some r):MF Tryz.prog pct3 123 [enc s,enc t] s0 fun v _=>ris v r:=by
 refine ZAh [(0,enc s),(1,enc t)] Tryz.func123 rfl (by simp only[Tryz.f123];rfl) fun ψ=> ?_
 unfold ZBs at h;obtain⟨i,hi,rfl⟩:=Option.map_eq_some_iff.1 h;repeat refine ZAB ?_
 refine ZAC<|ZAG (v:=enc false) rfl<|ZAA ?_
 repeat refine ZAB ?_
 refine ZAC<|ZAE (v:=enc s) rfl<|ZAE (v:=enc t) rfl<|ZCr (f:=fun a:Str×Str×Unit=>ixS a.1 a.2.1) (a:=(s,t,())) (r:=i) rfl Tryz.func95 rfl rfl (.cons (a:=s) (Enc.self _) (.cons (a:=t) (Enc.self _) .nil)) hi<|ZAJ (v:=enc (decide (i≥0))) rfl rfl rfl<|ZAG (v:=enc (decide (i≥0))) rfl<|ZAA<|ZAN ?_
 exact⟨rfl,KE1 (a:=(decide (i≥0))) rfl rfl rfl rfl⟩
theorem ZJP:ZAq Tryz.prog 123 (fun _=>Fn (fun a:Str×Str×Unit=>ZBs a.1 a.2.1)):=fnC ZRT ⟨_,Tryz.func123,rfl⟩<|fun a r h=>ZJO a.1 a.2.1 r h
noncomputable def pct:Prims:=pct3.add 123 (Fn (fun a:Str×Str×Unit=>ZBs a.1 a.2.1))
theorem ZO0:ZAX Tryz.prog pct:=ZAn ZRT ZJP
end Go.Ai.Rab
end
section
set_option maxRecDepth 100000
namespace Go.Proofs.Er
open Go.Proofs Go.RowKit Go.Extern.Stop Go.Stop Go.Extern

/- errors.As at the refusal's place. -/
theorem ZWS (t:Value) (w:World):
  Calls Tryz.prog 97 #[.nilIface,t] w fun e w' =>e= .returned (.bool false)∧w' =w:=by
 go_enter Tryz.func97,Tryz.ntmps97
 go_wp2
 go_ret
 exact⟨rfl,rfl⟩

/- errors.As at the refusal's place. -/
theorem Tryz.er_valueOf27 (t:Addr) (w:World):(ReflectliteValue.unpack (.iface 169 (.pointer (some t)))).run Tryz.prog w
  = .ok (.agg #[.pointer (some ⟨4,169,none⟩), .pointer (some ⟨w.heap.size,0,none⟩), .int .u64 150]) (w.alloc (.cells #[.pointer (some t)] 169)):=by kernel_rfl
theorem Tryz.er_type27 (a:Addr) (w:World):(ReflectliteValue.methodAny (ReflectliteValue.valueError "reflectlite.Value.Type" 0) (fun t _ _ _=>ReflectliteType.toType t) #[.agg #[.pointer (some ⟨4,169,none⟩), .pointer (some a), .int .u64 150]]).run Tryz.prog w
  = .ok (.iface 133 (.agg #[.pointer (some ⟨4,169,none⟩)])) w:=by kernel_rfl
theorem Tryz.er_methodKind (h:Value) (w:World):(Go.method 347 133 (.agg #[h]) "Kind").run Tryz.prog w= .ok (167,h) w:=by kernel_rfl
theorem Tryz.er_kind27 (w:World):((ReflectliteType.abiMethod fun t=>(fun a:Nat=>Value.int IntKind.u8 (a:Int))<$> Rtype.kind t) #[.pointer (some ⟨4,169,none⟩)]).run Tryz.prog w= .ok (.int .u8 22) w:=by kernel_rfl
theorem Tryz.er_kind25 (w:World):((ReflectliteType.abiMethod fun t=>(fun a:Nat=>Value.int IntKind.u8 (a:Int))<$> Rtype.kind t) #[.pointer (some ⟨4,154,none⟩)]).run Tryz.prog w= .ok (.int .u8 22) w:=by kernel_rfl

/- errors.As at the refusal's place. -/
theorem rlm (z:Sem Value) (f:TypeId→Addr→Nat→Nat→Sem Value) (v:Value):
  ReflectliteValue.method z f #[v]=(do match ←ReflectliteValue.parts v with | none=>z | some (t,a,fl)=>f t a fl (fl % 32)):=rfl
theorem Tryz.er_parts27 (a:Addr) (w:World):(ReflectliteValue.parts (.agg #[.pointer (some ⟨4,169,none⟩), .pointer (some a), .int .u64 150])).run Tryz.prog w= .ok (some (169,a,150)) w:=by kernel_rfl
/- errors.As at the refusal's place. -/
theorem Tryz.er_isNil27 (a p:Addr) (W:World) (ha:W.cell? a=some (.pointer (some p))):
  (ReflectliteValue.method (ReflectliteValue.valueError "reflectlite.Value.IsNil" 0) ReflectliteValue.isNil #[.agg #[.pointer (some ⟨4,169,none⟩), .pointer (some a), .int .u64 150]]).run Tryz.prog W= .ok (.bool false) W:=by
 rw[rlm];simp only[Sem.run_bind,Tryz.er_parts27,Result.andThen];simp[ReflectliteValue.isNil,loadVar,isAgg,underlying,Tryz.underlying169,ha,Result.andThen]

theorem Tryz.er_methodElem (h:Value) (w:World):(Go.method 347 133 (.agg #[h]) "Elem").run Tryz.prog w= .ok (177, .agg #[h]) w:=by kernel_rfl
theorem Tryz.er_methodImplements (h:Value) (w:World):(Go.method 347 133 (.agg #[h]) "Implements").run Tryz.prog w= .ok (178, .agg #[h]) w:=by kernel_rfl
theorem Tryz.er_methodAssignableTo (h:Value) (w:World):(Go.method 347 133 (.agg #[h]) "AssignableTo").run Tryz.prog w= .ok (175, .agg #[h]) w:=by kernel_rfl
theorem Tryz.er_elem27 (w:World):(ReflectliteType.method ReflectliteType.elem #[.agg #[.pointer (some ⟨4,169,none⟩)]]).run Tryz.prog w= .ok (.iface 133 (.agg #[.pointer (some ⟨4,154,none⟩)])) w:=by kernel_rfl
theorem Tryz.er_implements25 (w:World):(ReflectliteType.relation "Implements" ReflectliteType.implements_ #[.agg #[.pointer (some ⟨4,154,none⟩)], .iface 133 (.agg #[.pointer (some ⟨4,60,none⟩)])]).run Tryz.prog w= .ok (.bool true) w:=by kernel_rfl
theorem Tryz.er_typeOf25 (v:Value) (w:World):(ReflectliteType.typeOf #[.iface 154 v]).run Tryz.prog w= .ok (.iface 133 (.agg #[.pointer (some ⟨4,154,none⟩)])) w:=by kernel_rfl
theorem Tryz.er_assignable25 (w:World):(ReflectliteType.relation "AssignableTo" ReflectliteType.assignableTo #[.agg #[.pointer (some ⟨4,154,none⟩)], .iface 133 (.agg #[.pointer (some ⟨4,154,none⟩)])]).run Tryz.prog w= .ok (.bool true) w:=by kernel_rfl
theorem Tryz.er_valueOf25 (e:Addr) (w:World):(ReflectliteValue.unpack (.iface 154 (.pointer (some e)))).run Tryz.prog w
  = .ok (.agg #[.pointer (some ⟨4,154,none⟩), .pointer (some ⟨w.heap.size,0,none⟩), .int .u64 150]) (w.alloc (.cells #[.pointer (some e)] 154)):=by kernel_rfl

theorem Tryz.er_elemOf27 (w:World):(Rtype.elem? 169).run Tryz.prog w= .ok (some 154) w:=by kernel_rfl
theorem Tryz.er_mk25 (p:Addr) (w:World):(ReflectliteValue.mk 154 p ReflectliteValue.flagAddr).run Tryz.prog w= .ok (.agg #[.pointer (some ⟨4,154,none⟩), .pointer (some p), .int .u64 406]) w:=by kernel_rfl
/- errors.As at the refusal's place. -/
theorem Tryz.er_elemV27 (a p:Addr) (W:World) (ha:W.cell? a=some (.pointer (some p))):
  (ReflectliteValue.method (ReflectliteValue.valueError "reflectlite.Value.Elem" 0) ReflectliteValue.elem #[.agg #[.pointer (some ⟨4,169,none⟩), .pointer (some a), .int .u64 150]]).run Tryz.prog W
   = .ok (.agg #[.pointer (some ⟨4,154,none⟩), .pointer (some p), .int .u64 406]) W:=by
 rw[rlm];simp only[Sem.run_bind,Tryz.er_parts27,Result.andThen];simp[ReflectliteValue.elem,loadVar,isAgg,underlying,Tryz.underlying169,ha,Result.andThen,Tryz.er_elemOf27,Tryz.er_mk25]
theorem rls (v x:Value):ReflectliteValue.set #[v,x]=(do
  let(some (dst,a,fl),some (src,b,_)):=(←ReflectliteValue.parts v,←ReflectliteValue.parts x)
   | unsupported (.noEntry "extern/(internal/reflectlite.Value).Set.zeroValue")
  if fl / ReflectliteValue.flagAddr % 2==0 then unsupported (.noEntry "extern/(internal/reflectlite.Value).Set.unaddressable")
  let val ←loadVar src b
  if ←Rtype.directlyAssignable dst src then storeVar dst a val
  else if ←Rtype.implements dst src then
   if(←Rtype.kind src)==20 then
    match val with
    | .nilIface=>unsupported (.noEntry "extern/reflectlite: a nil value of one interface type handed on as a value of another")
    | _=>storeVar dst a val
   else storeVar dst a (.iface src val)
  else panicString ("reflectlite.Set: value of type " ++(←Rtype.spelt src)++ " is not assignable to type " ++(←Rtype.spelt dst))
  pure (.tuple #[])):=rfl
theorem Tryz.er_parts25a (a:Addr) (w:World):(ReflectliteValue.parts (.agg #[.pointer (some ⟨4,154,none⟩), .pointer (some a), .int .u64 406])).run Tryz.prog w= .ok (some (154,a,406)) w:=by kernel_rfl
theorem Tryz.er_parts25 (a:Addr) (w:World):(ReflectliteValue.parts (.agg #[.pointer (some ⟨4,154,none⟩), .pointer (some a), .int .u64 150])).run Tryz.prog w= .ok (some (154,a,150)) w:=by kernel_rfl
theorem Tryz.er_direct25 (w:World):(Rtype.directlyAssignable 154 154).run Tryz.prog w= .ok true w:=by kernel_rfl
/- errors.As at the refusal's place. -/
theorem Tryz.er_set25 (ta b e:Addr) (old:Value) (W:World) (hb:W.cell? b=some (.pointer (some e))) (ht:W.cell? ta=some old) (hf:W.frozen? ta=false):
  (ReflectliteValue.set #[.agg #[.pointer (some ⟨4,154,none⟩), .pointer (some ta), .int .u64 406], .agg #[.pointer (some ⟨4,154,none⟩), .pointer (some b), .int .u64 150]]).run Tryz.prog W
   = .ok (.tuple #[]) (W.setCell ta (.pointer (some e))):=by
 rw[rls];simp only[Sem.run_bind,Tryz.er_parts25a,Tryz.er_parts25,Result.andThen];simp[ReflectliteValue.flagAddr,loadVar,isAgg,underlying,Tryz.underlying154,hb,Result.andThen,Tryz.er_direct25,storeVar,Value.cells,storeCells,Addr.add]
 rw[run_store Tryz.prog W ta _ _ (by rfl)]
 simp[ht,hf]

set_option maxHeartbeats 4000000 in
theorem ZWT (e t:Addr) (old:Value) (w:World) (hg:w.cell? ⟨3,0,none⟩=some (.iface 133 (.agg #[.pointer (some ⟨4,60,none⟩)]))) (ht0:w.cell? t=some old) (hf0:w.frozen? t=false):
  Calls Tryz.prog 97 #[.iface 154 (.pointer (some e)), .iface 169 (.pointer (some t))] w fun ev w' =>ev= .returned (.bool true)∧w' =((((w.alloc (.cells #[.pointer (some t)] 169)).alloc (.cells #[.pointer (some ⟨4,169,none⟩), .pointer (some ⟨w.heap.size,0,none⟩), .int .u64 150] 187)).alloc (.cells #[.pointer (some ⟨4,169,none⟩), .pointer (some ⟨w.heap.size,0,none⟩), .int .u64 150] 187)).alloc (.cells #[.pointer (some e)] 154)).setCell t (.pointer (some e)):=by
 have h6:= @run_callFunc_extern Tryz.prog 117 _ (fun args=>ReflectliteValue.unpack (args.getD 0 (.tuple #[]))) Tryz.func117 (by kernel_rfl) (by kernel_rfl) (by kernel_rfl) (by kernel_rfl)
 have h7:= @run_callFunc_extern Tryz.prog 118 _ (ReflectliteValue.methodAny (ReflectliteValue.valueError "reflectlite.Value.Type" 0) (fun t _ _ _=>ReflectliteType.toType t)) Tryz.func118 (by kernel_rfl) (by kernel_rfl) (by kernel_rfl) (by kernel_rfl)
 have h8:= @run_callFunc_extern Tryz.prog 119 _ (ReflectliteValue.method (ReflectliteValue.valueError "reflectlite.Value.IsNil" 0) ReflectliteValue.isNil) Tryz.func119 (by kernel_rfl) (by kernel_rfl) (by kernel_rfl) (by kernel_rfl)
 have h27:= @run_callFunc_extern Tryz.prog 167 _ (ReflectliteType.abiMethod fun t=>do pure (.int .u8 (←Rtype.kind t))) Tryz.func167 (by kernel_rfl) (by kernel_rfl) (by kernel_rfl) (by kernel_rfl)
 have h37:= @run_callFunc_extern Tryz.prog 177 _ (ReflectliteType.method ReflectliteType.elem) Tryz.func177 (by kernel_rfl) (by kernel_rfl) (by kernel_rfl) (by kernel_rfl)
 have h38:= @run_callFunc_extern Tryz.prog 178 _ (ReflectliteType.relation "Implements" ReflectliteType.implements_) Tryz.func178 (by kernel_rfl) (by kernel_rfl) (by kernel_rfl) (by kernel_rfl)
 have h10:= @run_callFunc_extern Tryz.prog 69 _ ReflectliteType.typeOf Tryz.func69 (by kernel_rfl) (by kernel_rfl) (by kernel_rfl) (by kernel_rfl)
 have h35:= @run_callFunc_extern Tryz.prog 175 _ (ReflectliteType.relation "AssignableTo" ReflectliteType.assignableTo) Tryz.func175 (by kernel_rfl) (by kernel_rfl) (by kernel_rfl) (by kernel_rfl)
 have h11:= @run_callFunc_extern Tryz.prog 133 _ (ReflectliteValue.method (ReflectliteValue.valueError "reflectlite.Value.Elem" 0) ReflectliteValue.elem) Tryz.func133 (by kernel_rfl) (by kernel_rfl) (by kernel_rfl) (by kernel_rfl)
 have h12:= @run_callFunc_extern Tryz.prog 134 _ ReflectliteValue.set Tryz.func134 (by kernel_rfl) (by kernel_rfl) (by kernel_rfl) (by kernel_rfl)
 have tO:=Tryz.er_typeOf25;have mA:=Tryz.er_methodAssignableTo;have a25:=Tryz.er_assignable25;have v25:=Tryz.er_valueOf25;have f6:=Tryz.er_valueOf27;have f7:=Tryz.er_type27;have mK:=Tryz.er_methodKind;have mE:=Tryz.er_methodElem;have mI:=Tryz.er_methodImplements;have k27:=Tryz.er_kind27;have k25:=Tryz.er_kind25;have e27:=Tryz.er_elem27;have i25:=Tryz.er_implements25;have n8:=Tryz.er_isNil27 ⟨w.heap.size,0,none⟩ t ((w.alloc (.cells #[.pointer (some t)] 169)).alloc (.cells #[.pointer (some ⟨4,169,none⟩), .pointer (some ⟨w.heap.size,0,none⟩), .int .u64 150] 187)) (by simp)
 have hlt:3<w.heap.size:=by
  rcases Nat.lt_or_ge 3 w.heap.size with h | h
  ·exact h
  simp[World.cell?,Array.getElem?_eq_none h] at hg
 have hg2:((w.alloc (.cells #[.pointer (some t)] 169)).alloc (.cells #[.pointer (some ⟨4,169,none⟩), .pointer (some ⟨w.heap.size,0,none⟩), .int .u64 150] 187)).cell? ⟨3,0,none⟩=some (.iface 133 (.agg #[.pointer (some ⟨4,60,none⟩)])):=by
  rw[World.cell?_alloc_lt _ _ ⟨3,0,none⟩ (by simp;omega),World.cell?_alloc_lt _ _ ⟨3,0,none⟩ hlt];exact hg
 have htl:t.block<w.heap.size:=by
  rcases Nat.lt_or_ge t.block w.heap.size with h | h
  ·exact h
  simp[World.cell?,Array.getElem?_eq_none h] at ht0
 have el:=Tryz.er_elemV27 ⟨w.heap.size,0,none⟩ t (((w.alloc (.cells #[.pointer (some t)] 169)).alloc (.cells #[.pointer (some ⟨4,169,none⟩), .pointer (some ⟨w.heap.size,0,none⟩), .int .u64 150] 187)).alloc (.cells #[.pointer (some ⟨4,169,none⟩), .pointer (some ⟨w.heap.size,0,none⟩), .int .u64 150] 187)) (by rw[World.cell?_alloc_lt _ _ ⟨w.heap.size,0,none⟩ (by simp;omega)];simp)
 have sT:=Tryz.er_set25 t ⟨w.heap.size+1+1+1,0,none⟩ e old ((((w.alloc (.cells #[.pointer (some t)] 169)).alloc (.cells #[.pointer (some ⟨4,169,none⟩), .pointer (some ⟨w.heap.size,0,none⟩), .int .u64 150] 187)).alloc (.cells #[.pointer (some ⟨4,169,none⟩), .pointer (some ⟨w.heap.size,0,none⟩), .int .u64 150] 187)).alloc (.cells #[.pointer (some e)] 154))
  (by rw[World.cell?_alloc_at _ _ _ _ (by simp)];rfl)
  (by rw[World.cell?_alloc_lt _ _ t (by simp;omega),World.cell?_alloc_lt _ _ t (by simp;omega),World.cell?_alloc_lt _ _ t (by simp;omega),World.cell?_alloc_lt _ _ t htl];exact ht0)
  (by rw[World.frozen?_alloc_old _ _ t (by simp;omega),World.frozen?_alloc_old _ _ t (by simp;omega),World.frozen?_alloc_old _ _ t (by simp;omega),World.frozen?_alloc_old _ _ t (Nat.ne_of_lt htl)];exact hf0)
 go_enter Tryz.func97,Tryz.ntmps97
 go_wp2
 refine wp_loop_rounds 1 ?_
 rw[rounds_succ];go_wp2
 go_ret
 exact⟨rfl,rfl⟩
end Go.Proofs.Er
end
