/- My own texts DevAi8, DevAi9, DevAi10, DevAi11, DevAi12, DevAi13, DevAi14, DevAi15, one behind the other. -/
import Derived.Test.YtjaopinmnpekiaaGreatDoorWAA
import Derived.Laws.MakeOwn
import Derived.Laws.BytesArg
import Derived.LoopN
import Derived.Scope
set_option linter.unusedVariables false
set_option linter.unusedSimpArgs false
section
namespace Go.Ai
section
variable {P:Program} {base:Nat} {ρ:Pl} {X U:Reg} {c:Nat} {s s' :St} {w:World}

theorem ZGV {x:AV} {xv:Value} {k:Nat} {ys:List AV} (h:Sim base ρ X s w) (hx:Rel w ρ (UX ρ s.h X) s.c x xv) (hs:ZEE k x s=some ys):
  ∃us,RelC w ρ (UX ρ s.h X) s.c k ys us∧(∀w' :World,(Builtin.lenOf xv).run P w' = .ok ys.length w')∧
   ∀w' :World,(∀(a:Addr) u,w.cell? a=some u→w'.cell? a=some u)→∀n,n≤ys.length→(Builtin.firstCells (esz k) n xv).run P w' = .ok (us.take (n*esz k)).toArray w' :=by
 unfold ZEE at hs;split at hs
 ·injection hs with hs;subst hs
  simp only[Rel] at hx;subst hx;refine⟨[],by simp[RelC],fun w' =>by simp[Builtin.lenOf],fun w' _ n hn=> ?_⟩
  have:n=0:=by simpa using hn
  subst this;simp[Builtin.firstCells]
 ·injection hs with hs;subst hs
  simp only[Rel] at hx;obtain⟨A,cap,rfl,_⟩:=hx;refine⟨[],by simp[RelC],fun w' =>by simp[Builtin.lenOf],fun w' _ n hn=> ?_⟩
  have:n=0:=by simpa using hn
  subst this
  cases A<;> simp[Builtin.firstCells,loadCells,loadCellsFrom]
 ·rename_i l;split at hs
  ·rename_i hk;injection hs with hs;subst hs;subst hk
   simp only[Rel] at hx;subst hx;refine⟨l.map fun b=> .int .u8 b.toNat,?_,fun w' =>by simp[Builtin.lenOf,ZNT],fun w' _ n hn=> ?_⟩
   ·induction l with
    | nil=>simp[RelC]
    | cons b l ih=>
     simp only[List.map_cons,RelC];exact⟨.int .u8 b.toNat,_,rfl,⟨rfl,by simp[AV.cells,AV.one],fun _=>rfl,fun e=>absurd rfl e⟩,by simp[Rel],ih⟩
   simp only[Builtin.firstCells,ZHs,Sem.run_pure];congr 1
   apply Array.ext'
   simp[esz,List.map_take]
  cases hs
 simp only[oC,oB] at hs;obtain⟨⟨k',xs⟩,he,hs⟩:=hs;simp only at hs
 split at hs
 ·rename_i hk;injection hs with hs;subst hs;subst hk
  obtain⟨A,cap,cs,rfl,h1,h2⟩:=ZE2 h hx he;refine⟨cs,h1,fun w' =>by simp[Builtin.lenOf],fun w' hw n hn=> ?_⟩
  have hl:=h1.length;have hr:=run_loadCells_list (P:=P) w' A (cs.take (n*esz k')) (fun j u hj=>hw _ _ (h2 j u (by
   rw[List.getElem?_take] at hj;split at hj
   ·exact hj
   cases hj)))
  have hle:n*esz k' ≤xs.length*esz k' :=Nat.mul_le_mul_right _ hn
  rw[List.length_take,Nat.min_eq_left (by omega)] at hr
  simpa[Builtin.firstCells] using hr
 cases hs

theorem ZL2 (need:Nat):∀(rounds c:Nat),c≤2*need+1000→c≤need∨4*c≤5*need+768→Builtin.growBy need rounds c≤2*need+1000
 | 0,c,h,_=>h
 | r+1,c,h,h2=>by
  unfold Builtin.growBy;split
  ·exact h
  refine ZL2 need r _ ?_ ?_<;> omega
theorem ZHu {need old:Nat} (h:old<need):Builtin.nextslicecap need old≤2*need+1000:=by
 unfold Builtin.nextslicecap;split
 ·omega
 split
 ·omega
 exact ZL2 need 4 old (by omega) (.inl (by omega))
theorem ZE3 {n bytes:Nat} (h:ZES n bytes=true):n≤137438953472∧n*bytes≤137438953472:=by
 simpa[ZES] using h

theorem ZJ3 {z:Array Value} {n:Nat}:(Builtin.zeroCells z n).size=n*z.size:=by
 simp[Builtin.zeroCells]

theorem ZFl {argTypes:Array TypeId} {t t1 ty e:TypeId} (ha0:argTypes[0]? =some t) (ha1:argTypes[1]? =some t1) {d1:TypeDesc} {i:TypeInfo} {zv:Value} {k n m cap:Nat} {base0:Option Addr} {xv:Value} {us ys:List Value}
  (ht:P.underlying t=some (.slice e)) (ht1:P.underlying t1=some d1) (hd1:∀q,d1≠ .int q) (hi:P.info? e=some i) (hsz:szT P e=some (esz k)) (hz:∀w,(zeroValue e).run P w= .ok zv w) (hzs:zv.cells.size=esz k)
  (hlen:∀w' :World,(Builtin.lenOf xv).run P w' = .ok m w') (hfirst:∀w' :World,w'.heap=w.heap→(Builtin.firstCells (esz k) m xv).run P w' = .ok ys.toArray w')
  (hold:∀w' :World,w'.heap=w.heap→(Builtin.firstCells (esz k) n (.slice base0 n cap)).run P w' = .ok us.toArray w')
  (hgt:cap<n+m) (hroom:ZES (n+m) i.bytes=true):
  ∃newCap:Nat,n+m≤newCap∧(Builtin.append_ argTypes ty #[.slice base0 n cap,xv]).run P w=
   .ok (.slice (some ⟨w.heap.size,0,none⟩) (n+m) newCap) (w.drew.alloc (.cells (us.toArray++ys.toArray++Builtin.zeroCells zv.cells (newCap - (n+m))) e)):=by
 obtain⟨hr1,hr2⟩:=ZE3 hroom;refine⟨(Question.appendCap (n+m) cap e).cut (w.tape w.drawn (Question.appendCap (n+m) cap e)),?_,?_⟩
 ·show n+m≤n+m+_
  omega
 have hint:(match d1 with | .int _=>true | _=>false)=false:=by
  cases d1<;> first | rfl | exact absurd rfl (hd1 _)
 have h1:¬(n+m≤cap):=by omega
 have h2:¬(((n+m:Nat):Int) > IntKind.i64.max):=by rw[IntKind.max_i64];omega
 have h3:¬(Builtin.nextslicecap (n+m) cap*i.bytes > 2 ^ 48):=by
  have hb:i.bytes≤137438953472:=by
   rcases Nat.eq_zero_or_pos i.bytes with h0 | h0
   ·omega
   exact Nat.le_trans (Nat.le_mul_of_pos_left i.bytes (by omega)) hr2
  have:=Nat.mul_le_mul_right i.bytes (ZHu hgt)
  have e:(2*(n+m)+1000)*i.bytes=2*((n+m)*i.bytes)+1000*i.bytes:=by rw[Nat.add_mul,Nat.mul_assoc]
  have:(2:Nat) ^ 48=281474976710656:=by decide
  omega
 unfold Builtin.append_;simp only[ha0,ha1,List.getElem?_toArray,List.getElem?_cons_zero,List.getElem?_cons_succ,Sem.run_bind,run_underlying ht,run_underlying ht1,Result.andThen_ok,ZAe hsz,hint,Sem.run_pure,Bool.false_eq_true,if_false,hlen,h1,h2,false_and,hi,
  typeInfo,run_program,h3,run_choose,Question.forced,run_askRoom]
 have e0:=hold w.drew rfl;have e1:=hfirst w.drew rfl;have e2:=hz w.drew;unfold World.drew at e0 e1 e2;rw[e0,Result.andThen_ok,if_pos (show(!false)=true from rfl),e1,Result.andThen_ok,e2,Result.andThen_ok]
 simp[newRow]
 rfl

theorem ZQb {k bytes:Nat} {xs ys:List AV} {v:AV} {e:TypeId} {cs us zs:List Value} {newCap:Nat} (hb:base≤w.heap.size) (h:Sim base ρ X s w) (hg:ZFo k bytes xs ys s=some (v,s'))
  (hcs:RelC w ρ (UX ρ s.h X) s.c k xs cs) (hus:RelC w ρ (UX ρ s.h X) s.c k ys us) (hz:zs.length=(newCap - (xs.length+ys.length))*esz k) (hle:xs.length+ys.length≤newCap) (hne:ys≠[]):
  Post base ρ X s w v s' (.slice (some ⟨w.heap.size,0,none⟩) (xs.length+ys.length) newCap) (w.drew.alloc (.cells (cs.toArray++us.toArray++zs.toArray) e)):=by
 unfold ZFo at hg;split at hg
 ·injection hg with hg
  injection hg with e1 e2
  subst e1;subst e2;have hl:(cs++us).length=(xs.length+ys.length)*esz k:=by
   rw[List.length_append,hcs.length,hus.length,Nat.add_mul]
  refine Post.new (w' :=w.drew.alloc (.cells (cs.toArray++us.toArray++zs.toArray) e)) h rfl rfl rfl (by simp) (fun b hb=> ?_) hb .tok w.heap.size ((xs.length+ys.length)*esz k) (Nat.le_refl _) _ _ (fun ρ' U' c' m hρ' hU' hc' =>⟨?_,?_⟩)
  ·show(w.heap.push _)[b]? =_
   rw[Array.getElem?_push,if_neg (by omega)]
  ·refine⟨_,e,(0,0),heap_alloc_new w.drew _,by simp[ZLz],?_⟩
   simp at hl ⊢
   omega
  have hnew:(w.drew.alloc (.cells (cs.toArray++us.toArray++zs.toArray) e)).heap[w.heap.size]? =_:=heap_alloc_new w.drew (.cells (cs.toArray++us.toArray++zs.toArray) e)
  have hcell:∀j,(w.drew.alloc (.cells (cs.toArray++us.toArray++zs.toArray) e)).cell? ⟨w.heap.size,j,none⟩=(cs++us++zs)[j]? :=fun j=>by
   rw[ZFM hnew];simp
  simp only[Rel];refine⟨⟨w.heap.size,0,none⟩,newCap,cs++us,by simp,by simpa using hle,?_,?_,?_⟩
  ·exact(RelC.mono m k _ _ hcs).append (RelC.mono m k _ _ hus)
  ·intro j u hj;have hjl:j<(cs++us).length:=(List.getElem?_eq_some_iff.1 hj).1
   rw[ZBf,Nat.zero_add,hcell,List.getElem?_append_left hjl];refine⟨hj,fun hu=> ?_⟩
   have:=hU' j hu rfl
   omega
  simp only[CapOk];refine⟨by rw[hc'];omega,by rw[hρ'],trivial,by rw[hρ'];simp,fun j hj=> ?_⟩
  rw[Nat.zero_add,hcell];have e1:newCap*esz k=(xs.length+ys.length)*esz k+(newCap - (xs.length+ys.length))*esz k:=by
   rw[←Nat.add_mul];congr 1;omega
  rw[List.getElem?_eq_getElem (by rw[List.length_append,hl,hz];omega)]
  rfl
 cases hg

theorem ZEJ {argTypes:Array TypeId} {t t1 ty e:TypeId} (ha0:argTypes[0]? =some t) (ha1:argTypes[1]? =some t1) {d1:TypeDesc} {k n m cap:Nat} {base0:Option Addr} {xv:Value} {ys:List Value}
  (ht:P.underlying t=some (.slice e)) (ht1:P.underlying t1=some d1) (hd1:∀q,d1≠ .int q) (hsz:szT P e=some (esz k))
  (hlen:(Builtin.lenOf xv).run P w= .ok m w) (hfirst:(Builtin.firstCells (esz k) m xv).run P w= .ok ys.toArray w) (hle:n+m≤cap) {w' :World}
  (hst:match base0 with | some a=>(storeCells (a.add (n*esz k)) ys).run P w= .ok () w' | none=>w' =w):
  (Builtin.append_ argTypes ty #[.slice base0 n cap,xv]).run P w= .ok (.slice base0 (n+m) cap) w' :=by
 have hint:(match d1 with | .int _=>true | _=>false)=false:=by
  cases d1<;> first | rfl | exact absurd rfl (hd1 _)
 unfold Builtin.append_;simp only[ha0,ha1,List.getElem?_toArray,List.getElem?_cons_zero,List.getElem?_cons_succ,Sem.run_bind,run_underlying ht,run_underlying ht1,Result.andThen_ok,ZAe hsz,hint,Sem.run_pure,Bool.false_eq_true,if_false,hlen,hle,if_true];rw[if_pos (show(!false)=true from rfl),hfirst,Result.andThen_ok]
 cases base0 with
 | none=>subst hst;simp
 | some a=>simp[hst]

theorem ZL3 {k bytes:Nat} {xs ys:List AV} {v:AV} {s0:St} (hg:ZFo k bytes xs ys s0=some (v,s')):v= .vec k (xs++ys) (.tok s0.c)∧s' =s0.new .tok∧ZES (xs.length+ys.length) bytes=true:=by
 unfold ZFo at hg;split at hg
 ·injection hg with hg;injection hg with e1 e2;exact⟨e1.symm,e2.symm,‹_›⟩
 cases hg

theorem ZPj {k tk cap:Nat} {xs ys:List AV} {A:Addr} {cs us:List Value} (h:Sim base ρ X s w) (ht:hget s.h tk=some .tok)
  (hcs:RelC w ρ (UX ρ s.h X) s.c k xs cs) (hrow:Row w (UX ρ s.h X) A cs) (hcap:CapOk w ρ s.c (.tok tk) A (esz k) xs.length cap)
  (hus:RelC w ρ (UX ρ s.h X) s.c k ys us) (hle:xs.length+ys.length≤cap):
  ∃w',(storeCells (A.add (xs.length*esz k)) us).run P w= .ok () w' ∧
   Post base ρ X s w (.vec k (xs++ys) (.tok s.c)) ((s.del tk).new .tok) (.slice (some A) (xs.length+ys.length) cap) w' :=by
 obtain⟨g1,g2,g3,g4,g5⟩:=hcap;obtain⟨C,e,fz,h1,h2,h3⟩:=h.obj tk _ ht;obtain⟨b,off,sp⟩:=A;simp only at g2 g3 g4 g5
 subst g3;subst g2;have hul:=hus.length;have hcl:=hcs.length;have hfit:off+xs.length*esz k+us.length≤C.size:=by
  rcases Nat.eq_zero_or_pos ((xs.length+ys.length)*esz k) with h0 | h0
  ·rw[Nat.add_mul] at h0;omega
  have hlt:(xs.length+ys.length)*esz k - 1<cap*esz k:=by
   have:=Nat.mul_le_mul_right (esz k) hle
   omega
  have:=g5 _ hlt
  rw[ZFM h1] at this;simp at this
  rw[Nat.add_mul] at this h0;omega
 have hrun:=ZEI P (ρ tk).1 (off+xs.length*esz k) e fz us 0 C w h1 h2 (by omega) hus.one
 simp only[Nat.add_zero] at hrun;rw[ZBf];refine⟨_,hrun,?_⟩
 have hsz:((C.toList.take (off+xs.length*esz k)++us++C.toList.drop (off+xs.length*esz k+us.length)).toArray).size=C.size:=by simp;omega
 obtain⟨D,hD⟩:∃D,D=(C.toList.take (off+xs.length*esz k)++us++C.toList.drop (off+xs.length*esz k+us.length)).toArray:=⟨_,rfl⟩;rw[←hD] at hsz ⊢;have hlow:∀j,j<off+xs.length*esz k→D[j]? =C[j]? :=fun j hj=>by
  rw[hD];simp only[List.getElem?_toArray,List.append_assoc];rw[List.getElem?_append_left (by simp;omega),List.getElem?_take,if_pos hj]
  simp
 have hmid:∀j u,us[j]? =some u→D[off+xs.length*esz k+j]? =some u:=fun j u hj=>by
  have hjl:=(List.getElem?_eq_some_iff.1 hj).1;rw[hD];simp only[List.getElem?_toArray,List.append_assoc];rw[List.getElem?_append_right (by simp;omega),List.getElem?_append_left (by simp;omega)]
  simpa[show min (off+xs.length*esz k) C.size=off+xs.length*esz k by omega] using hj
 have hcellg:∀j,(w.setRow (ρ tk).1 D).cell? ⟨(ρ tk).1,j,none⟩=D[j]? :=fun j=>cell_setRow_same w _ j C D e fz h1
 have hfr:Fr (Umap ρ s.h) w (w.setRow (ρ tk).1 D):=by
  refine⟨rfl,rfl,rfl,by simp,fun b _ hb=>setRow_other w _ b _ (fun e=>hb (ρ tk).2 (e▸⟨tk, .tok,ht,rfl,Nat.le_refl _⟩)),fun a u hu hn=> ?_,fun a ha=>ZIp h1 hsz a ha⟩
  by_cases ea:a.block=(ρ tk).1
  ·obtain⟨b',o',sp'⟩:=a;simp only at ea;subst ea
   cases sp' with
   | some q=>simp[World.cell?,h1] at hu
   | none=>
    have hlt:o' <off+xs.length*esz k:=by
     rw[g4];exact Nat.lt_of_not_le (fun hle' =>hn ⟨tk, .tok,ht,rfl,hle'⟩)
    rw[hcellg,hlow o' hlt,←ZFM h1];exact hu
  rw[cell_setRow_other w _ D a ea];exact hu
 have hg:∀n o,hget ((s.del tk).new .tok).h n=some o→(n=s.c∧o= .tok)∨(n≠s.c∧n≠tk∧hget s.h n=some o):=by
  intro n o hn;simp only[St.new,St.del,hget] at hn;split at hn
  ·injection hn with e;exact .inl ⟨‹_›,e.symm⟩
  obtain⟨h5,h6⟩:=ZBk hn;exact .inr ⟨‹_›,h5,h6⟩
 have hρ:∀n,n<s.c→Pl.new ρ s.c ((ρ tk).1,off+(xs.length+ys.length)*esz k) n=ρ n:=fun n hn=>Pl.new_old hn
 have hge:(ρ tk).2≤off+(xs.length+ys.length)*esz k:=by rw[←g4,Nat.add_mul];omega
 have hU:∀b' j,b' <w.heap.size→Umap (Pl.new ρ s.c ((ρ tk).1,off+(xs.length+ys.length)*esz k)) ((s.del tk).new .tok).h b' j→Umap ρ s.h b' j:=by
  rintro b' j _ ⟨n,o,hn,hnb,hj⟩;rcases hg n o hn with⟨rfl,rfl⟩ | ⟨_,hne,hn'⟩
  ·rw[Pl.new_same] at hnb hj;exact⟨tk, .tok,ht,hnb,Nat.le_trans hge hj⟩
  rw[hρ n (h.lt n o hn')] at hnb hj;exact⟨n,o,hn',hnb,hj⟩
 have m:Mono w ρ (UX ρ s.h X) s.c (w.setRow (ρ tk).1 D) (Pl.new ρ s.c ((ρ tk).1,off+(xs.length+ys.length)*esz k)) (UX (Pl.new ρ s.c ((ρ tk).1,off+(xs.length+ys.length)*esz k)) ((s.del tk).new .tok).h X) (s.c+1):=
  .step (s' :=(s.del tk).new .tok) h.old hfr hρ (Nat.le_succ _) hU
 refine⟨_,hρ,Nat.le_succ _,?_,?_,hfr,hU⟩
 ·refine h.step (s' :=(s.del tk).new .tok) hfr hρ (Nat.le_succ _) (fun n o hn=> ?_) (fun n o hn=> ?_) hU (fun n m' o1 o2 hn hm' hne=> ?_) (fun n o hn=> ?_)
  ·show n<s.c+1
   rcases hg n o hn with⟨rfl,_⟩ | ⟨_,_,hn'⟩
   ·omega
   have:=h.lt n o hn';omega
  ·rcases hg n o hn with⟨rfl,rfl⟩ | ⟨_,hne,hn'⟩
   ·right
    rw[Pl.new_same];refine⟨D,e,fz,setRow_heap w _ C D e fz h1,by intro j hj;rw[hsz] at hj;exact h2 j hj,?_⟩
    rw[hsz,Nat.add_mul];omega
   exact .inl ⟨h.lt n o hn',hn',setRow_other w _ _ D (h.inj n tk o .tok hn' ht hne)⟩
  ·rcases hg n o1 hn with⟨rfl,_⟩ | ⟨_,hn1,hn'⟩<;> rcases hg m' o2 hm' with⟨rfl,_⟩ | ⟨_,hm1,hm''⟩
   ·exact absurd rfl hne
   ·rw[Pl.new_same,hρ m' (h.lt m' o2 hm'')];exact fun e=>h.inj m' tk o2 .tok hm'' ht hm1 e.symm
   ·rw[Pl.new_same,hρ n (h.lt n o1 hn')];exact h.inj n tk o1 .tok hn' ht hn1
   rw[hρ n (h.lt n o1 hn'),hρ m' (h.lt m' o2 hm'')];exact h.inj n m' o1 o2 hn' hm'' hne
  rcases hg n o hn with⟨rfl,_⟩ | ⟨_,_,hn'⟩
  ·rw[Pl.new_same];exact h.base tk _ ht
  rw[hρ n (h.lt n o hn')];exact h.base n o hn'
 simp only[Rel];have hs1:((s.del tk).new .tok).c=s.c+1:=rfl
 rw[hs1];refine⟨⟨(ρ tk).1,off,none⟩,cap,cs++us,by simp,by simpa using hle,(RelC.mono m k _ _ hcs).append (RelC.mono m k _ _ hus),?_,?_⟩
 ·intro j u hj;by_cases hjl:j<cs.length
  ·rw[List.getElem?_append_left hjl] at hj;exact(Row.mono hrow m) j u hj
  rw[List.getElem?_append_right (by omega)] at hj
  rw[ZBf,hcellg];refine⟨?_,?_⟩
  ·have:=hmid _ u hj
   rwa [show off+xs.length*esz k+(j - cs.length)=off+j by omega] at this
  have hjl2:=(List.getElem?_eq_some_iff.1 hj).1;rintro(⟨n,o,hn,hnb,hj'⟩ | hx)
  ·rcases hg n o hn with⟨rfl,rfl⟩ | ⟨_,hne,hn'⟩
   ·rw[Pl.new_same] at hj';simp only at hj'
    rw[Nat.add_mul] at hj';omega
   rw[hρ n (h.lt n o hn')] at hnb;exact h.inj n tk o .tok hn' ht hne hnb
  exact h.apart tk _ ht _ hx
 simp only[CapOk];refine⟨by omega,by rw[Pl.new_same],trivial,by rw[Pl.new_same];simp,fun j hj=> ?_⟩
 exact m.keep _ (g5 j hj)
end
end Go.Ai
end
section
namespace Go.Ai
section
variable {P:Program} {base:Nat} {ρ:Pl} {X U:Reg} {c:Nat} {s s' :St} {w:World}


theorem ZNU {argTypes:Array TypeId} {ty:TypeId} {a x v:AV} {av xv:Value} (hb:base≤w.heap.size) (h:Sim base ρ X s w) (ha:Rel w ρ (UX ρ s.h X) s.c a av) (hx:Rel w ρ (UX ρ s.h X) s.c x xv)
  (hh:ZC7 P argTypes a x s=some (v,s')):Does P base ρ X s w (Builtin.append_ argTypes ty #[av,xv]) v s' :=by
 simp only[ZC7,oC,oB] at hh;obtain⟨t,ha0,d,ht,hh⟩:=hh;split at hh
 ·rename_i e;simp only[oB] at hh;obtain⟨t1,ha1,hh⟩:=hh;split at hh
  ·cases hh
  ·cases hh
  rename_i hni hnn;obtain⟨d1,ht1⟩:∃d1,P.underlying t1=some d1:=by
   cases hu:P.underlying t1 with
   | none=>exact absurd hu hnn
   | some d1=>exact⟨d1,rfl⟩
  have hd1:∀q,d1≠ .int q:=fun q e=>hni q (e▸ht1)
  simp only[oB] at hh;obtain⟨k,hk,i,hi,z,hz,ys,hys,hh⟩:=hh;obtain⟨hsz,_⟩:=ZA3 hk;split at hh
  ·cases hh
  rename_i hzl;have hzl:z.cells.length=esz k:=by simpa using hzl
  simp only[ZBM,oC,oB] at hz;obtain⟨i',hi',zv,hzv,hz⟩:=hz;have hzr:∀w,(zeroValue e).run P w= .ok zv w:=fun w=>by simp[zeroValue,typeInfo,hi',hzv]
  have hzs:zv.cells.size=esz k:=by
   have:=(ZEH (w:=w) (ρ:=ρ) (U:=fun _ _=>False) (c:=0) hz).cells_size
   omega
  obtain⟨us,hus,hlen,hfirst⟩:=ZGV (P:=P) h hx hys;have hul:=hus.length;have hfull:us.take (ys.length*esz k)=us:=List.take_of_length_le (by omega)
  have hsame:∀(w' :World),w'.heap=w.heap→∀(a:Addr) u,w.cell? a=some u→w'.cell? a=some u:=fun w' e a u hu=>by
   unfold World.cell? at hu ⊢;rw[e];exact hu
  have hf:∀w' :World,w'.heap=w.heap→(Builtin.firstCells (esz k) ys.length xv).run P w' = .ok us.toArray w' :=fun w' e=>by
   have:=hfirst w' (hsame w' e) ys.length (Nat.le_refl _)
   rwa [hfull] at this
  -- nothing is appended
  have hnone:∀(base0:Option Addr) (n cap:Nat),ys=[]→n≤cap→(Builtin.append_ argTypes ty #[.slice base0 n cap,xv]).run P w= .ok (.slice base0 n cap) w:=fun base0 n cap he hle=>by
   have hu0:us=[]:=List.eq_nil_of_length_eq_zero (by rw[hul,he];simp)
   have hl0:ys.length=0:=by rw[he];rfl
   have:=ZEJ (P:=P) (w:=w) (w' :=w) (ty:=ty) (base0:=base0) (n:=n) (m:=ys.length) (cap:=cap) (k:=k) ha0 ha1 ht ht1 hd1 hsz (hlen w) (hf w rfl) (by omega) (by
    rw[hu0]
    cases base0 with
    | none=>rfl
    | some a=>simp[storeCells])
   simpa[hl0] using this
  have hgrow:∀{xs:List AV} {s0:St} (base0:Option Addr) (cap:Nat) (cs:List Value),Sim base ρ X s0 w→UX ρ s0.h X=UX ρ s.h X∨(∀b j,UX ρ s0.h X b j→UX ρ s.h X b j)→s0.c=s.c→(∀b j,Umap ρ s0.h b j→Umap ρ s.h b j)→
    RelC w ρ (UX ρ s.h X) s.c k xs cs→(∀w' :World,w'.heap=w.heap→(Builtin.firstCells (esz k) xs.length (.slice base0 xs.length cap)).run P w' = .ok cs.toArray w')→cap<xs.length+ys.length→ys≠[]→
    ZFo k i.bytes xs ys s0=some (v,s')→Does P base ρ X s w (Builtin.append_ argTypes ty #[.slice base0 xs.length cap,xv]) v s' :=by
   intro xs s0 base0 cap cs h0 hUs hc0 hU0 hcs hold hgt hne hg;obtain⟨_,hs'e,hroom⟩:=ZL3 hg;obtain⟨newCap,hle,hrun⟩:=ZFl (P:=P) (w:=w) (ty:=ty) (base0:=base0) (n:=xs.length) (m:=ys.length) (cap:=cap) (zv:=zv) (i:=i) (us:=cs) (ys:=us) ha0 ha1 ht ht1 hd1 hi hsz hzr hzs hlen hf hold hgt hroom;have m0:Mono w ρ (UX ρ s.h X) s.c w ρ (UX ρ s0.h X) s0.c:=⟨by rw[hc0];exact Nat.le_refl _,fun _ _=>rfl,fun a u hu _=>hu,fun a ha=>ha,fun b j _ hj=>hUs.elim (fun e=>e▸hj) (fun f=>f b j hj)⟩
   obtain⟨ρ',p1,p2,p3,p4,p5,p6⟩:=ZQb (newCap:=newCap) (zs:=(Builtin.zeroCells zv.cells (newCap - (xs.length+ys.length))).toList) (e:=e) hb h0 hg (RelC.mono m0 k _ _ hcs) (RelC.mono m0 k _ _ hus) (by simp[ZJ3,hzs]) hle hne
   refine⟨_,_,hrun,ρ',?_,?_,?_,p4,?_,?_⟩
   ·intro n hn;exact p1 n (by rw[hc0];exact hn)
   ·rw[←hc0];exact p2
   ·simpa using p3
   ·have:Fr (Umap ρ s.h) w (w.drew.alloc (.cells (cs.toArray++us.toArray++(Builtin.zeroCells zv.cells (newCap - (xs.length+ys.length)))) e)):=(Fr.drew w).trans (Fr.alloc _ _) (fun b j _ hj=>hj)
    exact this
   intro b j hb' hj;exact hU0 b j (p6 b j hb' hj)
  split at hh
  ·-- nil
   simp only[Rel] at ha;subst ha;split at hh
   ·rename_i hye;injection hh with hh;injection hh with e1 e2;subst e1;subst e2
    exact⟨_,w,hnone none 0 0 (by simpa using hye) (Nat.le_refl _), .same h (by simp[Rel])⟩
   rename_i hye;have hne:ys≠[]:=by simpa using hye
   have hpos:0<ys.length:=List.length_pos_iff.2 hne
   exact hgrow (xs:=[]) none 0 [] h (.inl rfl) rfl (fun _ _ hj=>hj) (by simp[RelC]) (fun w' _=>by simp[Builtin.firstCells]) (by simpa using hpos) hne hh
  ·-- an empty one
   rename_i z;have ha' :=ha
   simp only[Rel] at ha;obtain⟨A,cap,rfl,hA,hz⟩:=ha;split at hh
   ·rename_i hye;injection hh with hh;injection hh with e1 e2;subst e1;subst e2
    exact⟨_,w,hnone A 0 cap (by simpa using hye) (Nat.zero_le _), .same h ha'⟩
   rename_i hye;have hne:ys≠[]:=by simpa using hye
   have hpos:0<ys.length:=List.length_pos_iff.2 hne
   split at hh
   ·rename_i hzt;have hc0:=hz hzt;subst hc0;exact hgrow (xs:=[]) A 0 [] h (.inl rfl) rfl (fun _ _ hj=>hj) (by simp[RelC]) (fun w' _=>by cases A<;> simp[Builtin.firstCells,loadCells,loadCellsFrom]) (by simpa using hpos) hne hh
   cases hh
  ·-- a row
   rename_i k' xs cp;split at hh
   ·cases hh
   rename_i hkk;have hkk:k' =k:=by simpa using hkk
   subst hkk;have ha' :=ha
   simp only[Rel] at ha;obtain⟨A,cap,cs,rfl,h2,h3,h4,h5⟩:=ha;split at hh
   ·rename_i hye;injection hh with hh;injection hh with e1 e2;subst e1;subst e2
    exact⟨_,w,hnone (some A) xs.length cap (by simpa using hye) h2, .same h ha'⟩
   rename_i hye;have hne:ys≠[]:=by simpa using hye
   have hpos:0<ys.length:=List.length_pos_iff.2 hne
   have hold:∀w' :World,w'.heap=w.heap→(Builtin.firstCells (esz k') xs.length (.slice (some A) xs.length cap)).run P w' = .ok cs.toArray w' :=fun w' e=>by
    have hr:=run_loadCells_list (P:=P) w' A cs (fun j u hj=>hsame w' e _ _ (h4 j u hj).1)
    rw[h3.length] at hr;simpa[Builtin.firstCells] using hr
   split at hh
   ·simp only[CapOk] at h5;exact hgrow (some A) cap cs h (.inl rfl) rfl (fun _ _ hj=>hj) h3 hold (by omega) hne hh
   ·rename_i tk;split at hh
    ·rename_i htk;by_cases hfit:xs.length+ys.length≤cap
     ·obtain⟨hv,hs',hroom⟩:=ZL3 hh;obtain⟨w',hst,hp⟩:=ZPj (P:=P) h htk h3 h4 h5 hus hfit;have hrun:=ZEJ (P:=P) (w:=w) (w' :=w') (ty:=ty) (base0:=some A) (n:=xs.length) (m:=ys.length) (cap:=cap) (k:=k') ha0 ha1 ht ht1 hd1 hsz (hlen w) (hf w rfl) hfit hst;subst hv;subst hs';exact⟨_,w',hrun,hp⟩
     exact hgrow (some A) cap cs (h.del tk) (.inr (fun b j hj=>hj.imp Umap.del id)) rfl (fun _ _ hj=>hj.del) h3 hold (by omega) hne hh
    cases hh
   cases hh
  ·-- memory of the call's own
   rename_i k' n off len cap;split at hh
   ·cases hh
   rename_i hkk;have hkk:k' =k:=by simpa using hkk
   subst hkk;split at hh
   ·cases hh
   rename_i hlc;have ha' :=ha
   simp only[Rel] at ha;obtain⟨h1,rfl⟩:=ha;split at hh
   ·rename_i hye;injection hh with hh;injection hh with e1 e2;subst e1;subst e2
    exact⟨_,w,hnone _ len cap (by simpa using hye) (by omega), .same h ha'⟩
   rename_i hye;have hne:ys≠[]:=by simpa using hye
   split at hh
   ·rename_i hfit;simp only[oB] at hh;obtain⟨s1,hst,hh⟩:=hh;injection hh with hh;injection hh with e1 e2;subst e1;subst e2
    obtain⟨w',hr,hp⟩:=ZFt (P:=P) h hus.cells hst;have hrun:=ZEJ (P:=P) (w:=w) (w' :=w') (ty:=ty) (base0:=some ⟨(ρ n).1,off,none⟩) (n:=len) (m:=ys.length) (cap:=cap) (k:=k') ha0 ha1 ht ht1 hd1 hsz (hlen w) (hf w rfl) hfit (by
     simp only[ZBf];exact hr)
    exact⟨_,w',hrun,hp _ _ (by simp[Rel,h1])⟩
   rename_i hfit;simp only[oB] at hh;obtain⟨⟨kk,xs⟩,he,hh⟩:=hh;simp only at hh
   have hkk:kk=k' ∧xs.length=len:=by
    simp only[elems] at he;split at he
    ·split at he
     ·injection he with he;injection he with e1 e2;exact⟨e1.symm,by rw[←e2,ZEV]⟩
     cases he
    cases he
   obtain⟨rfl,rfl⟩:=hkk;obtain⟨A,cap',cs,e0,g1,g2⟩:=ZE2 h ha' he;injection e0 with e0 _ e0'
   injection e0 with e0
   subst e0;subst e0';have hold:∀w' :World,w'.heap=w.heap→(Builtin.firstCells (esz kk) xs.length (.slice (some ⟨(ρ n).1,off,none⟩) xs.length cap)).run P w' = .ok cs.toArray w' :=fun w' e=>by
    have hr:=run_loadCells_list (P:=P) w' _ cs (fun j u hj=>hsame w' e _ _ (g2 j u hj))
    rw[g1.length] at hr;simpa[Builtin.firstCells] using hr
   exact hgrow _ cap cs h (.inl rfl) rfl (fun _ _ hj=>hj) g1 hold (by omega) hne hh
  cases hh
 cases hh

theorem ZQc {argTypes:Array TypeId} {ty:TypeId} {a x v:AV} {av xv:Value} (h:Sim base ρ X s w) (ha:Rel w ρ (UX ρ s.h X) s.c a av) (hx:Rel w ρ (UX ρ s.h X) s.c x xv)
  (hh:ZSV P argTypes a x s=some (v,s')):Does P base ρ X s w (Builtin.copy_ argTypes ty #[av,xv]) v s' :=by
 simp only[ZSV,oC,oB] at hh;obtain⟨t,ha0,d,ht,hh⟩:=hh;split at hh
 ·rename_i e;simp only[oB] at hh;obtain⟨k,hk,ys,hys,hh⟩:=hh;obtain⟨hsz,_⟩:=ZA3 hk;obtain⟨us,hus,hlen,hfirst⟩:=ZGV (P:=P) h hx hys;split at hh
  ·simp only[Rel] at ha;subst ha;injection hh with hh;injection hh with e1 e2;subst e1;subst e2
   have hf:=hfirst w (fun _ _ hu=>hu) 0 (Nat.zero_le _)
   refine⟨.int .i64 0,w,?_, .same h (by simp[Rel])⟩
   unfold Builtin.copy_;simp[ha0,run_underlying ht,hlen w,ZAe hsz,hf,goInt]
  ·simp only[Rel] at ha;obtain⟨A,cap,rfl,hA,_⟩:=ha;injection hh with hh;injection hh with e1 e2;subst e1;subst e2
   have hf:=hfirst w (fun _ _ hu=>hu) 0 (Nat.zero_le _)
   refine⟨.int .i64 0,w,?_, .same h (by simp[Rel])⟩
   unfold Builtin.copy_
   cases A<;> simp[ha0,run_underlying ht,hlen w,ZAe hsz,hf,goInt,storeCells]
  ·rename_i k' n off len cap;split at hh
   ·cases hh
   rename_i hkk;have hkk:k' =k:=by simpa using hkk
   subst hkk;simp only[oB] at hh;obtain⟨s1,hst,hh⟩:=hh;injection hh with hh;injection hh with e1 e2;subst e1;subst e2
   simp only[Rel] at ha;obtain⟨h1,rfl⟩:=ha;have hm:min ys.length len≤ys.length:=Nat.min_le_left _ _
   have hf:=hfirst w (fun _ _ hu=>hu) (min ys.length len) hm
   obtain⟨w',hr,hp⟩:=ZFt (P:=P) h (hus.take (min ys.length len)).cells hst;refine⟨.int .i64 (min ys.length len:Nat),w',?_,hp _ _ (by simp[Rel])⟩
   unfold Builtin.copy_;have e:Nat.min ys.length len=min ys.length len:=rfl
   simp[ha0,run_underlying ht,hlen w,ZAe hsz,e,hf,hr,goInt]
  cases hh
 cases hh
end
end Go.Ai
end
section
namespace Go.Ai
section
variable {P:Program} {base:Nat} {ρ:Pl} {X U:Reg} {c:Nat} {s s' :St} {w:World}

theorem ZIv {α:Type} (l:List α) (hl:0<l.length):∀(n j:Nat),j<n*l.length→((List.replicate n l).flatten)[j]? =l[j % l.length]?
 | 0,j,h=>by simp at h
 | n+1,j,h=>by
  rw[List.replicate_succ,List.flatten_cons];by_cases hj:j<l.length
  ·rw[List.getElem?_append_left hj,Nat.mod_eq_of_lt hj]
  rw[Nat.add_mul,Nat.one_mul] at h;rw[List.getElem?_append_right (by omega),ZIv l hl n _ (by omega),←Nat.mod_eq_sub_mod (by omega)]
theorem ZHI (z:Array Value) (n:Nat) (hz:0<z.size):(madeCells z (n*z.size)).toList=(List.replicate n z.toList).flatten:=by
 apply List.ext_getElem?
 intro j;have hlen:((List.replicate n z.toList).flatten).length=n*z.size:=by simp
 by_cases hj:j<n*z.size
 ·rw[ZIv z.toList (by simpa using hz) n j (by simpa using hj)]
  have hm:j % z.size<z.size:=Nat.mod_lt _ hz
  simp[madeCells,hj,hm]
 exact(List.getElem?_eq_none (by simp[madeCells];omega)).trans (List.getElem?_eq_none (by rw[hlen];omega)).symm
theorem RelL.flatten {z:List AV} {zs:List Value} (h:RelL w ρ U c z zs):∀n,RelL w ρ U c ((List.replicate n z).flatten) ((List.replicate n zs).flatten)
 | 0=>by simp[RelL]
 | n+1=>by
  rw[List.replicate_succ,List.replicate_succ,List.flatten_cons,List.flatten_cons];exact h.append (h.flatten n)
theorem ZQd {xs:List AV} (h:xs.all AV.one=true):∀x∈xs,x.one=true:=by simpa using h

theorem ZJ4 {t:TypeId} {l cc v:AV} {lv cv:Value} (hb:base≤w.heap.size) (h:Sim base ρ X s w) (hl:Rel w ρ (UX ρ s.h X) s.c l lv) (hc:Rel w ρ (UX ρ s.h X) s.c cc cv)
  (hh:ZGS P t l cc s=some (v,s')):Does P base ρ X s w (Instr.makeSlice t lv cv) v s' :=by
 simp only[ZGS,oC,oB] at hh;obtain⟨d,ht,hh⟩:=hh;split at hh
 ·rename_i e;simp only[oB] at hh;obtain⟨i,hi,k,hk,ln,hln,cn,hcn,z,hz,hh⟩:=hh;split at hh
  ·rename_i hc';obtain⟨h0,h1,h2,h4,h5,h6⟩:=hc';injection hh with hh;injection hh with e1 e2;subst e1;subst e2
   obtain⟨kl,rfl⟩:=ZIZ hl hln;obtain⟨kc,rfl⟩:=ZIZ hc hcn;simp only[ZBM,oC,oB] at hz;obtain⟨i',hi',zv,hzv,hz⟩:=hz;rw[hi] at hi';injection hi' with hi';subst hi'
   have hzr:=ZEH (w:=w) (ρ:=ρ) (U:=UX ρ s.h X) (c:=s.c) hz;have hzs:=hzr.cells_size;obtain⟨r1,r2⟩:=ZE3 h2;have hcc:(cn.toNat:Int)=cn:=Int.toNat_of_nonneg (by omega)
   have hr2:(i.bytes:Int)*cn≤281474976710656:=by
    have:((cn.toNat*i.bytes:Nat):Int)≤137438953472:=by omega
    rw[Int.natCast_mul,hcc,Int.mul_comm] at this;omega
   have hrun:=run_make (P:=P) w t e i zv ht hi hzv kl kc ln cn h0 h1 hr2 (by omega)
   refine⟨_,_,hrun,?_⟩
   refine Post.new (w' :=w.alloc (.cells (madeCells zv.cells (cn.toNat*i.size)) e)) h rfl rfl rfl (by simp) (fun b hb=> ?_) hb (.cells ((List.replicate cn.toNat z.cells).flatten)) w.heap.size 0 (Nat.le_refl _) _ _ (fun ρ' U' c' m hρ' _ hc' =>⟨?_,?_⟩)
   ·show(w.heap.push _)[b]? =_
    rw[Array.getElem?_push,if_neg (by omega)]
   ·refine⟨_,e,(0,0),heap_alloc_new w _,by simp[thawedE],?_,?_⟩
    ·have e:(madeCells zv.cells (cn.toNat*i.size)).toList=(List.replicate cn.toNat zv.cells.toList).flatten:=by
      rw[h6,show esz k=zv.cells.size by omega,ZHI _ _ (by have:=ZEG k;omega)]
     rw[e];exact(RelL.mono m _ _ hzr.cells).flatten _
    intro x hx;obtain⟨l,hl1,hl2⟩:=List.mem_flatten.1 hx;obtain⟨_,rfl⟩:=List.mem_replicate.1 hl1;exact ZQd h5 x hl2
   simp only[Rel];exact⟨by rw[hc'];omega,by rw[hρ']⟩
  cases hh
 cases hh

/-! ### Parts put in -/
theorem ZL4 (off:Nat):∀(vs:List Value) (j:Nat) (cells:Array Value),off+j+vs.length≤cells.size→
  ((vs.zipIdx j).foldl (fun(cs:Array Value) (p:Value×Nat)=>cs.setIfInBounds (off+p.2) p.1) cells).toList=cells.toList.take (off+j)++vs++cells.toList.drop (off+j+vs.length)
 | [],j,cells,_=>by simp
 | v::vs,j,cells,h=>by
  rw[List.zipIdx_cons,List.foldl_cons,ZL4 off vs (j+1) _ (by simp at h ⊢;omega)]
  have e:=list_seg_step cells.toList (off+j) v vs (by simp at h ⊢;omega)
  simpa[Array.toList_setIfInBounds,Nat.add_assoc] using e
theorem ZIa {place place' :Nat→Option (Nat×Nat)} (hp:∀i,place i=place' i):∀{parts:List (Nat×AV)} {pv:List (Nat×Value)} {cells out:List AV} {cv:Array Value},
  (parts.length=pv.length∧∀(j:Nat) (p:Nat×AV) (q:Nat×Value),parts[j]? =some p→pv[j]? =some q→p.1=q.1∧Rel w ρ U c p.2 q.2)→RelL w ρ U c cells cv.toList→ZGq place cells parts=some out→
  ∃ov:Array Value,Instr.fill place' cv pv=some ov∧RelL w ρ U c out ov.toList∧out.length=cells.length
 | [],pv,cells,out,cv,hpv,hc,h=>by
  simp only[ZGq] at h;injection h with h;subst h
  have:pv=[]:=List.eq_nil_of_length_eq_zero (by simpa using hpv.1.symm)
  subst this;exact⟨cv,rfl,hc,rfl⟩
 | (i,x)::parts,[],cells,out,cv,hpv,hc,h=>by simp at hpv
 | (i,x)::parts,(i',v)::pv,cells,out,cv,hpv,hc,h=>by
  obtain⟨hl,hr⟩:=hpv;obtain⟨e1,hxv⟩:=hr 0 (i,x) (i',v) (by simp) (by simp)
  simp only at e1 hxv
  subst e1;simp only[ZGq,oC,oB] at h;obtain⟨⟨off,size⟩,hpl,h⟩:=h;simp only at h
  split at h
  ·cases h
  rename_i hno;have hxs:=hxv.cells_size;have hcl:=hc.length;simp only[Array.length_toList] at hcl;have hsz:x.cells.length=size:=by omega
  have hfit:off+x.cells.length≤cells.length:=by omega
  have hstep:=ZL4 off v.cells.toList 0 cv (by simp;omega)
  have hrel:RelL w ρ U c (ZBC cells off x.cells) ((v.cells.toList.zipIdx 0).foldl (fun(cs:Array Value) (p:Value×Nat)=>cs.setIfInBounds (off+p.2) p.1) cv).toList:=by
   rw[hstep];exact ZKP hc hxv.cells off
  obtain⟨ov,h1,h2,h3⟩:=ZIa hp ⟨by simpa using hl,fun j p q hp hq=>hr (j+1) p q (by simpa using hp) (by simpa using hq)⟩ hrel h
  refine⟨ov,?_,h2,by rw[h3,ZKm hfit]⟩
  unfold Instr.fill;rw[←hp i,hpl];have g1:(v.cells.size≠size || off+v.cells.size > cv.size)=false:=by
   simp;omega
  simp only[g1,Bool.false_eq_true,if_false];rw[←h1];congr 1
  rw[←Array.foldl_toList,Array.toList_zipIdx]

def RelP (w:World) (ρ:Pl) (U:Reg) (c:Nat) (ps:List (Nat×AV)) (pv:List (Nat×Value)):Prop:=
 ps.length=pv.length∧∀(j:Nat) (p:Nat×AV) (q:Nat×Value),ps[j]? =some p→pv[j]? =some q→p.1=q.1∧Rel w ρ U c p.2 q.2

theorem ZNV {t:TypeId} {ps:List (Nat×AV)} {pv:Array (Nat×Value)} {v:AV} (hp:RelP w ρ U c ps pv.toList) (h:ZLy P t ps=some v):Gives P w ρ U c (Instr.build t pv) v:=by
 simp only[ZLy,oC,oB] at h;obtain⟨z,hz,d,hd,h⟩:=h;obtain⟨zv,hzr,hzz⟩:=ZGU hz w;have hzc:=(hzz w ρ U c).cells;unfold Instr.build;split at h
 ·rename_i fs;simp only[oB] at h;obtain⟨places,hpl,h⟩:=h;simp only[Option.map_eq_some_iff] at h;obtain⟨out,hout,rfl⟩:=h;have hplaces:∀(l:List Field) (ps:List (Nat×Nat)),(l.mapM fun f=>(szT P f.type).map fun z=>(f.offset,z))=some ps→(l.mapM (m:=Sem) fun f=>do pure (f.offset,←sizeOf f.type)).run P w= .ok ps w:=by
   intro l;induction l with
   | nil=>intro ps h;simp at h;subst h;simp
   | cons f l ih=>
    intro ps h;simp only[List.mapM_cons,oC,oB,Option.map_eq_some_iff,Option.pure_def] at h;obtain⟨a,⟨z,hz,rfl⟩,qs,hqs,h⟩:=h;injection h with h;subst h
    rw[List.mapM_cons];simp only[Sem.run_bind,ZAe hz,Result.andThen_ok,Sem.run_pure,ih qs hqs]
  have hpa:(fs.mapM (m:=Sem) fun f=>do pure (f.offset,←sizeOf f.type)).run P w= .ok places.toArray w:=by
   rw[Array.mapM_eq_mapM_toList,Sem.run_map,hplaces _ _ hpl];rfl
  obtain⟨ov,h1,h2,_⟩:=ZIa (place:=(places[·]?)) (place' :=(places.toArray[·]?)) (fun i=>by simp) hp hzc hout
  refine⟨.agg ov,?_,by simp only[Rel];exact⟨ov.toList,by simp,h2⟩⟩
  simp only[Sem.run_bind,hzr,Result.andThen_ok,run_underlying hd,hpa,h1,Sem.run_pure]
 ·rename_i n e;simp only[oB] at h;obtain⟨size,hsz,h⟩:=h;simp only[Option.map_eq_some_iff] at h;obtain⟨out,hout,rfl⟩:=h;obtain⟨ov,h1,h2,_⟩:=ZIa (place:=fun i=>some (i*size,size)) (place' :=fun i=>some (i*size,size)) (fun i=>rfl) hp hzc hout
  refine⟨.agg ov,?_,by simp only[Rel];exact⟨ov.toList,by simp,h2⟩⟩
  simp only[Sem.run_bind,hzr,Result.andThen_ok,run_underlying hd,ZAe hsz,h1,Sem.run_pure]
 cases h

theorem ZIw {t:TypeId} {len:Nat} {ps:List (Nat×AV)} {pv:Array (Nat×Value)} {v:AV} (h0:Sim base ρ X s w) (hp:RelP w ρ (UX ρ s.h X) s.c ps pv.toList) (h:ZC8 P t len ps=some v):Does P base ρ X s w (Instr.buildSlice t len pv) v s:=by
 simp only[ZC8,oC,oB] at h;obtain⟨d,hd,h⟩:=h;split at h
 ·rename_i e;simp only[oB] at h;obtain⟨k,hk,i,hi,h⟩:=h;split at h
  ·cases h
  rename_i hno;simp only[oB] at h;obtain⟨z,hz,h⟩:=h;split at h
  ·cases h
  rename_i hzl;simp only[oB] at h;obtain⟨cs,hcs,h⟩:=h;split at h
  ·rename_i hfin;injection h with h;subst h
   obtain⟨zv,hzr,hzz⟩:=ZGU hz w;have hzs:=(hzz w ρ (UX ρ s.h X) s.c).cells_size;have hzl:z.cells.length=esz k:=by simpa using hzl
   obtain⟨hsz,_⟩:=ZA3 hk;have hbig:¬(len*esz k > 16777216):=by omega
   have hzero:∀n,((Array.range n).map (zv.cells[· % zv.cells.size]!))=madeCells zv.cells n:=fun n=>rfl
   have hzc:RelL w ρ (UX ρ s.h X) s.c ((List.replicate len z.cells).flatten) (madeCells zv.cells (len*esz k)).toList:=by
    rw[show esz k=zv.cells.size by omega,ZHI _ _ (by have:=ZEG k;omega)]
    exact(hzz w ρ _ _).cells.flatten _
   obtain⟨ov,g1,g2,g3⟩:=ZIa (place:=fun i=>some (i*esz k,esz k)) (place' :=fun i=>some (i*esz k,esz k)) (fun i=>rfl) hp hzc hcs
   have hov:ov.size=cs.length:=by have:=g2.length;simpa using this
   refine⟨.slice (some ⟨w.heap.size,0,none⟩) len len,w.alloc (.cells ov e),?_,?_⟩
   ·unfold Instr.buildSlice;have e24:(2:Nat) ^ 24=16777216:=by decide
    have hbig' :¬(len*esz k > 2 ^ 24):=by omega
    by_cases hl0:len*esz k=0
    ·have hmade:((Array.range (len*esz k)).map ((#[]:Array Value)[· % (#[]:Array Value).size]!))=madeCells zv.cells (len*esz k):=by
      apply Array.ext
      ·simp[madeCells]
      intro j hj;simp[hl0] at hj
     simp only[Sem.run_bind,run_underlying hd,Result.andThen_ok,ZAe hsz,if_neg hbig',if_pos hl0,Sem.run_pure,hmade,g1,newRow,run_newObj,World.alloc_eq]
    simp only[Sem.run_bind,run_underlying hd,Result.andThen_ok,ZAe hsz,if_neg hbig',if_neg hl0,hzr,Sem.run_pure,hzero,g1,newRow,run_newObj,World.alloc_eq]
   have hfr:∀b,b<w.heap.size→(w.alloc (.cells ov e)).heap[b]? =w.heap[b]? :=fun b hb=>by
    show(w.heap.push _)[b]? =_
    rw[Array.getElem?_push,if_neg (by omega)]
   refine Post.grow h0 rfl rfl rfl (by simp) hfr ?_
   have m:Mono w ρ (UX ρ s.h X) s.c (w.alloc (.cells ov e)) ρ (UX ρ s.h X) s.c:=Mono.grow (fun U=>Fr.alloc w _)
   have hrc:=ZHt (k:=k) (n:=len) (RelL.mono m _ _ g2) (ZQd hfin.1) (by omega)
   have hfull:ov.toList.take (len*esz k)=ov.toList:=List.take_of_length_le (by simp;omega)
   rw[hfull] at hrc;simp only[Rel,ZEV];refine⟨⟨w.heap.size,0,none⟩,len,ov.toList,rfl,Nat.le_refl _,hrc,?_,rfl⟩
   intro j u hj;rw[ZBf,Nat.zero_add,ZFM (heap_alloc_new w _)];refine⟨by simpa using hj,?_⟩
   rintro(⟨n,o,hn,hnb,_⟩ | hx)
   ·have:=h0.blk_lt hn
    simp only at hnb;omega
   have:=h0.old _ _ hx
   simp at this
  cases h
 cases h
end
end Go.Ai
end
section
namespace Go.Ai
section
variable {P:Program} {base:Nat} {ρ:Pl} {X U:Reg} {c:Nat} {s s' :St} {w:World}

theorem ZIE:∀{xs:List AV} {l:List UInt8},ZIm xs=some l→∃ns:List Int,xs=ns.map (AV.int .u8)∧l=ns.map fun n=>UInt8.ofNat n.toNat
 | [],l,h=>by simp only[ZIm] at h;injection h with h;subst h;exact⟨[],rfl,rfl⟩
 | x::xs,l,h=>by
  unfold ZIm at h;split at h
  ·rename_i heq;cases heq
  ·rename_i n xs' heq;injection heq with e1 e2;subst e1;subst e2
   simp only[Option.map_eq_some_iff] at h;obtain⟨l',hl,rfl⟩:=h;obtain⟨ns,rfl,rfl⟩:=ZIE hl;exact⟨n::ns,rfl,rfl⟩
  cases h
theorem ZL5:∀{ns:List Int} {cs:List Value},RelC w ρ U c 0 (ns.map (AV.int .u8)) cs→cs=ns.map (Value.int .u8)
 | [],cs,h=>by simpa[RelC] using h
 | n::ns,cs,h=>by
  simp only[List.map_cons,RelC] at h;obtain⟨v,us,rfl,_,h2,h3⟩:=h;simp only[Rel] at h2;subst h2;rw[ZL5 h3];rfl

theorem ZPk (w:World) (C:Array Value) (e:TypeId):(((w.alloc (.cells C e)).freeze ⟨w.heap.size,C.size,none⟩ 1).heap[w.heap.size]? =some (.cells C e (C.size,C.size+1)))∧
  (∀b,b<w.heap.size→((w.alloc (.cells C e)).freeze ⟨w.heap.size,C.size,none⟩ 1).heap[b]? =w.heap[b]?)∧w.heap.size≤((w.alloc (.cells C e)).freeze ⟨w.heap.size,C.size,none⟩ 1).heap.size:=by
 refine⟨?_,fun b hb=> ?_,?_⟩
 ·simp only[World.freeze,Nat.one_ne_zero,if_false,Array.getElem?_modify,if_true];rw[heap_alloc_new];rfl
 ·simp only[World.freeze,Nat.one_ne_zero,if_false,Array.getElem?_modify];rw[if_neg (by omega)]
  show(w.heap.push _)[b]? =_
  rw[Array.getElem?_push,if_neg (by omega)]
 simp[World.freeze]

theorem ZPl {l:List UInt8} {e:TypeId} {v:AV} (hb:base≤w.heap.size) (h:Sim base ρ X s w) (hr:ZES l.length 1=true):
  Does P base ρ X s w (Conv.stringToBytes e ⟨l.toArray⟩) (.vec 0 (l.map fun b=> .int .u8 b.toNat) (.tok s.c)) (s.new .tok):=by
 obtain⟨cap,hcap⟩:∃cap,cap=(Question.appendCap l.length 0 e).cut (w.tape w.drawn (.appendCap l.length 0 e)):=⟨_,rfl⟩;have hle:l.length≤cap:=by rw[hcap];show l.length≤l.length+_;omega
 obtain⟨C,hC⟩:∃C:Array Value,C=(l.toArray.map fun b=>Value.int .u8 b.toNat)++Array.replicate (cap - l.length) (.int .u8 0):=⟨_,rfl⟩
 have hCs:C.size=cap:=by rw[hC];simp;omega
 obtain⟨f1,f2,f3⟩:=ZPk w.drew C e;replace f1:((w.drew.alloc (.cells C e)).freeze ⟨w.heap.size,C.size,none⟩ 1).heap[w.heap.size]? =some (.cells C e (C.size,C.size+1)):=f1
 refine⟨.slice (some ⟨w.heap.size,0,none⟩) l.length cap,(w.drew.alloc (.cells C e)).freeze ⟨w.heap.size,C.size,none⟩ 1,?_,?_⟩
 ·unfold Conv.stringToBytes markStringish;have hs:(w.drew.alloc (.cells C e)).shape? w.heap.size=some (e,C.size):=by
   have:=heap_alloc_new w.drew (.cells C e)
   simp only[World.shape?];rw[show w.heap.size=w.drew.heap.size from rfl,this]
  simp only[ZNT,Sem.run_bind,run_choose,Question.forced,Bool.false_eq_true,if_false,Result.andThen_ok,←hcap,←hC,newRow,run_newObj,Sem.run_pure,World.drew_eq,World.alloc_eq,run_shape];rw[show w.drew.heap.size=w.heap.size from rfl,hs]
  simp
 have hlc:∀cs:List Value,cs=l.map (fun b=>Value.int .u8 b.toNat)→∀(j:Nat) (u:Value),cs[j]? =some u→C[j]? =some u:=by
  intro cs hcs j u hj;have hjl:j<l.length:=by
   have:=(List.getElem?_eq_some_iff.1 hj).1
   rw[hcs] at this;simpa using this
  rw[hC,Array.getElem?_append_left (by simpa using hjl)]
  rw[hcs] at hj;simpa using hj
 refine Post.new (w' :=(w.drew.alloc (.cells C e)).freeze ⟨w.heap.size,C.size,none⟩ 1) h rfl rfl rfl f3 f2 hb .tok w.heap.size l.length (Nat.le_refl _) _ _ (fun ρ' U' c' m hρ' hU' hc' =>⟨?_,?_⟩)
 ·refine⟨C,e,_,f1,?_,by simp only;omega⟩
  intro j hj hbad;simp only at hbad;omega
 simp only[Rel];refine⟨⟨w.heap.size,0,none⟩,cap,l.map (fun b=>Value.int .u8 b.toNat),by simp,by simpa using hle,?_,?_,?_⟩
 ·clear hcap hle hC hCs f1 f2 f3 m hρ' hU' hlc hr
  induction l with
  | nil=>simp[RelC]
  | cons b l ih=>
   simp only[List.map_cons,RelC];exact⟨.int .u8 b.toNat,_,rfl,⟨rfl,by simp[AV.cells,AV.one],fun _=>rfl,fun e=>absurd rfl e⟩,by simp[Rel],ih⟩
 ·intro j u hj;have hjl:j<l.length:=by
   have:=(List.getElem?_eq_some_iff.1 hj).1
   simpa using this
  rw[ZBf,Nat.zero_add,ZFM f1];refine⟨hlc _ rfl j u hj,fun hu=> ?_⟩
  have:=hU' j hu rfl
  omega
 simp only[CapOk];refine⟨by rw[hc'];omega,by rw[hρ'],trivial,by rw[hρ'];simp[esz],fun j hj=> ?_⟩
 rw[Nat.zero_add,ZFM f1];have:j<C.size:=by rw[hCs];simpa[esz] using hj
 simp[this]

theorem ZL6 {src dst:TypeId} {x v:AV} {xv:Value} (hb:base≤w.heap.size) (h:Sim base ρ X s w) (hx:Rel w ρ (UX ρ s.h X) s.c x xv) (hh:ZFL P src dst x s=some (v,s')):
  Does P base ρ X s w (convert src dst xv) v s' :=by
 simp only[ZFL,oC,oB] at hh;obtain⟨d1,hd1,d2,hd2,hh⟩:=hh;split at hh
 ·injection hh with hh;injection hh with e1 e2;subst e1;subst e2
  simp only[Rel] at hx;subst hx;exact⟨_,w,by simp[convert,run_underlying hd1,run_underlying hd2,Conv.intToInt];rfl, .same h (by simp[Rel])⟩
 ·injection hh with hh;injection hh with e1 e2;subst e1;subst e2
  simp only[Rel] at hx;subst hx;exact⟨_,w,by simp[convert,run_underlying hd1,run_underlying hd2,Conv.intToString];rfl, .same h (by simp[Rel])⟩
 ·injection hh with hh;injection hh with e1 e2;subst e1;subst e2
  simp only[Rel] at hx;subst hx;exact⟨_,w,by simp[convert,run_underlying hd1,run_underlying hd2];rfl, .same h (by simp[Rel])⟩
 ·rename_i e l;simp only[Rel] at hx;subst hx;split at hh
  ·rename_i he;split at hh
   ·rename_i hr;injection hh with hh;injection hh with e1 e2;subst e1;subst e2
    obtain⟨v',w',g1,g2⟩:=ZPl (P:=P) (v:= .undef) (e:=e) hb h hr;exact⟨v',w',by simp[convert,run_underlying hd1,run_underlying hd2,run_underlying he,g1],g2⟩
   cases hh
  cases hh
 ·rename_i x0 e hn1 hn2;split at hh
  ·rename_i he;split at hh
   ·injection hh with hh;injection hh with e1 e2;subst e1;subst e2
    simp only[Rel] at hx;subst hx;refine⟨.string ByteArray.empty,w,run_convert_bytes_nil w src e hd1 he 0 0 dst hd2, .same h ?_⟩
    simp only[Rel];rfl
   ·injection hh with hh;injection hh with e1 e2;subst e1;subst e2
    simp only[Rel] at hx;obtain⟨A,cap,rfl,hA,_⟩:=hx;refine⟨.string ByteArray.empty,w,?_, .same h ?_⟩
    ·cases A with
     | none=>rw[hA rfl];exact run_convert_bytes_nil w src e hd1 he 0 0 dst hd2
     | some A=>
      have:=run_convert_bytes_string w src dst e (some A) 0 cap hd1 he hd2
      rw[this,run_bytesToString w A 0 cap [] (by simp[loadCells,loadCellsFrom]),foldl_push_bytes]
      rfl
    simp only[Rel];rfl
   simp only[oB] at hh;obtain⟨⟨k,xs⟩,hel,hh⟩:=hh;simp only at hh
   split at hh
   ·rename_i hk;subst hk;simp only[Option.map_eq_some_iff] at hh;obtain⟨l,hl,hh⟩:=hh;injection hh with e1 e2;subst e1;subst e2
    obtain⟨ns,rfl,rfl⟩:=ZIE hl;obtain⟨A,cap,cs,rfl,g1,g2⟩:=ZE2 h hx hel;have hcs:=ZL5 g1;subst hcs;have hload:=run_loadCells_list (P:=P) w A _ g2;simp only[List.length_map] at hload;refine⟨.string (strOfNums ns),w,?_, .same h (by simp[Rel,strOfNums])⟩
    have:=run_convert_bytes_string w src dst e (some A) ns.length cap hd1 he hd2
    simp only[List.length_map];rw[this,run_bytesToString w A ns.length cap ns hload,foldl_push_bytes];simp[strOfNums,ByteArray.empty,ByteArray.emptyWithCapacity]
    rfl
   cases hh
  cases hh
 cases hh

/-! ### Maps -/
theorem ZE4 {d:TypeDesc} {k x:AV} {kv xv:Value} {b:Bool} (hkind:ZB5 d k=true) (hk:Rel w ρ U c k kv) (hx:Rel w ρ U c x xv) (h:ZPd k x=some b):Instr.sameNow d kv xv=some b:=by
 unfold ZPd at h;split at h
 ·split at h
  ·rename_i e;subst e;injection h with h;subst h
   simp only[Rel] at hk hx;subst hk;subst hx
   cases d<;> simp[ZB5] at hkind
   simp[Instr.sameNow]
  cases h
 ·injection h with h;subst h
  simp only[Rel] at hk hx;subst hk;subst hx
  cases d<;> simp[ZB5] at hkind
  simp only[Instr.sameNow];congr 1
  rename_i a b;show((a.toArray==b.toArray))=(a==b)
  simp
 ·injection h with h;subst h
  simp only[Rel] at hk hx;subst hk;subst hx
  cases d<;> simp[ZB5] at hkind
  simp[Instr.sameNow]
 cases h
theorem ZIx {d:TypeDesc} {k:AV} {kv:Value} (hkind:ZB5 d k=true) (hk:Rel w ρ U c k kv):∀{es:List (AV×AV)} {ents:List MapEntry} {i:Nat} {r:Option AV},RelL w ρ U c (es.map (·.1)) (ents.map (·.key))→RelL w ρ U c (es.map (·.2)) (ents.map (·.val))→
  ZIP k es=some r→∃q,Instr.findNow d kv ents i=some q∧(match r,q with | none,none=>True | some x,some (j,u)=>Rel w ρ U c x u | _,_=>False)
 | [],ents,i,r,h1,h2,h=>by
  have:ents=[]:=by simpa[RelL] using h1
  subst this;simp only[ZIP] at h;injection h with h;subst h
  exact⟨none,rfl,trivial⟩
 | (x,v)::es,[],i,r,h1,h2,h=>by simp[RelL] at h1
 | (x,v)::es,en::ents,i,r,h1,h2,h=>by
  simp only[List.map_cons,RelL] at h1 h2;obtain⟨a1,b1,e1,hx,h1⟩:=h1;obtain⟨a2,b2,e2,hv,h2⟩:=h2;injection e1 with e1 e1';injection e2 with e2 e2'
  subst e1;subst e1';subst e2;subst e2';simp only[ZIP] at h;unfold Instr.findNow;split at h
  ·rename_i he;injection h with h;subst h
   rw[ZE4 hkind hk hx he];exact⟨_,rfl,hv⟩
  ·rename_i he;rw[ZE4 hkind hk hx he];exact ZIx hkind hk h1 h2 h
  cases h
theorem ZIF {d:TypeDesc} {kt:TypeId} {k:AV} {kv:Value} {e:Bool} (hd:P.underlying kt=some d) (hkind:ZB5 d k=true) (hk:Rel w ρ U c k kv) (w' :World):(Instr.checkKey e 10000 kt kv).run P w' = .ok () w' :=by
 show(Instr.checkKey e (9999+1) kt kv).run P w' =_
 generalize 9999=n
 unfold ZB5 at hkind;split at hkind
 ·simp only[Rel] at hk;subst hk;simp[Instr.checkKey,run_underlying hd]
 ·simp only[Rel] at hk;subst hk;simp[Instr.checkKey,run_underlying hd]
 ·simp only[Rel] at hk;subst hk;simp[Instr.checkKey,run_underlying hd]
 cases hkind

theorem ZSb {x:AV} {xv:Value} {es:List (AV×AV)} (h:Sim base ρ X s w) (hx:Rel w ρ (UX ρ s.h X) s.c x xv) (he:ZFq x s=some es):
  ∃ents:Array MapEntry,((xv= .map none∧ents= #[])∨(∃b clock,xv= .map (some b)∧w.heap[b]? =some (.map ents clock)))∧
   RelL w ρ (UX ρ s.h X) s.c (es.map (·.1)) (ents.toList.map (·.key))∧RelL w ρ (UX ρ s.h X) s.c (es.map (·.2)) (ents.toList.map (·.val)):=by
 unfold ZFq at he;split at he
 ·simp only[Rel] at hx;subst hx;injection he with he;subst he
  exact⟨#[], .inl ⟨rfl,rfl⟩,by simp[RelL],by simp[RelL]⟩
 ·rename_i n;split at he
  ·rename_i es' hg;injection he with he;subst he
   simp only[Rel] at hx;obtain⟨_,rfl⟩:=hx;obtain⟨ents,clock,g1,g2,g3,_⟩:=h.obj n _ hg;exact⟨ents, .inr ⟨_,clock,rfl,g1⟩,g2,g3⟩
  cases he
 cases he
theorem ZL7 {t:TypeId} {x k v:AV} {xv kv:Value} {ok:Bool} (h:Sim base ρ X s w) (hx:Rel w ρ (UX ρ s.h X) s.c x xv) (hk:Rel w ρ (UX ρ s.h X) s.c k kv) (hh:ZFr P t x k ok s=some v):
  Gives P w ρ (UX ρ s.h X) s.c (Instr.lookup t xv kv ok) v:=by
 simp only[ZFr,oC,oB] at hh;obtain⟨d,hd,hh⟩:=hh;split at hh
 ·rename_i kt e;simp only[oB] at hh;obtain⟨dk,hdk,hh⟩:=hh;split at hh
  ·cases hh
  rename_i hkk;have hkk:ZB5 dk k=true:=by simpa using hkk
  simp only[oB] at hh;obtain⟨z,hz,es,hes,r,hr,hh⟩:=hh;injection hh with hh;subst hh
  obtain⟨zv,hzr,hzz⟩:=ZGU hz w;obtain⟨ents,hents,g2,g3⟩:=ZSb h hx hes;obtain⟨q,hq,hqr⟩:=ZIx (i:=0) hkk hk g2 g3 hr;have hck:=fun b=>ZIF (P:=P) (e:=b) hdk hkk hk w
  have hfk:(Instr.findKey kt kv ents.toList).run P w= .ok q w:=by
   unfold Instr.findKey;simp[run_underlying hdk,hq]
  obtain⟨v',hv1,hv2⟩:∃v',(match q with | some (_,v)=>v' =v∧r.isSome=true | none=>v' =zv∧r.isSome=false)∧Rel w ρ (UX ρ s.h X) s.c (r.getD z) v' :=by
   cases r with
   | none=>
    cases q with
    | none=>exact⟨zv,⟨rfl,rfl⟩,hzz _ _ _ _⟩
    | some _=>exact hqr.elim
   | some x=>
    cases q with
    | none=>exact hqr.elim
    | some p=>exact⟨p.2,⟨rfl,rfl⟩,hqr⟩
  refine⟨if ok then .tuple #[v', .bool r.isSome] else v',?_,?_⟩
  ·unfold Instr.lookup;simp only[Sem.run_bind,run_underlying hd,Result.andThen_ok];rcases hents with⟨rfl,rfl⟩ | ⟨b,clock,rfl,hb⟩
   ·simp only[Sem.run_bind,Sem.run_pure,Result.andThen_ok,hck,hfk]
    cases q with
    | none=>simp only[Sem.run_bind,hzr,Result.andThen_ok,Sem.run_pure,hv1.1,hv1.2]
    | some p=>simp only[Sem.run_bind,Result.andThen_ok,Sem.run_pure,hv1.1,hv1.2]
   simp only[getObj,Sem.run_bind,Sem.run,hb,Sem.run_pure,Result.andThen_ok,hck,hfk]
   cases q with
   | none=>simp only[Sem.run_bind,hzr,Result.andThen_ok,Sem.run_pure,hv1.1,hv1.2]
   | some p=>simp only[Sem.run_bind,Result.andThen_ok,Sem.run_pure,hv1.1,hv1.2]
  cases ok with
  | true=>
   simp only[if_true,Rel,RelL];exact⟨[v', .bool r.isSome],rfl,v',_,rfl,hv2,_,_,rfl,by simp,rfl⟩
  | false=>simpa using hv2
 cases hh

theorem ZOe {d:TypeDesc} {k v:AV} {kv vv:Value} (hkind:ZB5 d k=true) (hk:Rel w ρ U c k kv) (hv:Rel w ρ U c v vv):∀{es es' :List (AV×AV)} {ents:List MapEntry} {i:Nat},RelL w ρ U c (es.map (·.1)) (ents.map (·.key))→RelL w ρ U c (es.map (·.2)) (ents.map (·.val))→
  mset k v es=some es' →∃q,Instr.findNow d kv ents i=some q∧
   (match q with
   | none=>RelL w ρ U c (es'.map (·.1)) (ents.map (·.key)++[kv])∧RelL w ρ U c (es'.map (·.2)) (ents.map (·.val)++[vv])
   | some (j,u)=>i≤j∧∃en,ents[j - i]? =some en∧Instr.sameNow d kv en.key=some true∧RelL w ρ U c (es'.map (·.1)) ((ents.set (j - i) {en with key:=kv,val:=vv}).map (·.key))∧RelL w ρ U c (es'.map (·.2)) ((ents.set (j - i) {en with key:=kv,val:=vv}).map (·.val)))
 | [],es',ents,i,h1,h2,h=>by
  have:ents=[]:=by simpa[RelL] using h1
  subst this;simp only[mset] at h;injection h with h;subst h
  refine⟨none,rfl,?_,?_⟩
  ·simp only[List.map_cons,List.map_nil,RelL];exact⟨kv,[],rfl,hk,rfl⟩
  simp only[List.map_cons,List.map_nil,RelL];exact⟨vv,[],rfl,hv,rfl⟩
 | (x,u)::es,es',[],i,h1,h2,h=>by simp[RelL] at h1
 | (x,u)::es,es',en::ents,i,h1,h2,h=>by
  simp only[List.map_cons,RelL] at h1 h2;obtain⟨a1,b1,e1,hx,h1⟩:=h1;obtain⟨a2,b2,e2,hu,h2⟩:=h2;injection e1 with e1 e1';injection e2 with e2 e2'
  subst e1;subst e1';subst e2;subst e2';simp only[mset] at h;unfold Instr.findNow;split at h
  ·rename_i he;injection h with h;subst h
   rw[ZE4 hkind hk hx he];refine⟨_,rfl,Nat.le_refl _,en,by simp,ZE4 hkind hk hx he,?_,?_⟩
   ·simp only[Nat.sub_self,List.set_cons_zero,List.map_cons,RelL];exact⟨_,_,rfl,hk,h1⟩
   simp only[Nat.sub_self,List.set_cons_zero,List.map_cons,RelL];exact⟨_,_,rfl,hv,h2⟩
  ·rename_i he;rw[ZE4 hkind hk hx he];simp only[Option.map_eq_some_iff] at h;obtain⟨es2,hes2,rfl⟩:=h;obtain⟨q,hq,hqr⟩:=ZOe hkind hk hv (i:=i+1) h1 h2 hes2;refine⟨q,hq,?_⟩
   cases q with
   | none=>
    obtain⟨g1,g2⟩:=hqr;refine⟨?_,?_⟩
    ·simp only[List.map_cons,List.cons_append,RelL];exact⟨_,_,rfl,hx,g1⟩
    simp only[List.map_cons,List.cons_append,RelL];exact⟨_,_,rfl,hu,g2⟩
   | some p=>
    obtain⟨j,y⟩:=p;obtain⟨g0,en',g1,g2,g3,g4⟩:=hqr;have e:j - i=(j - (i+1))+1:=by omega
    refine⟨by omega,en',by rw[e];simpa using g1,g2,?_,?_⟩
    ·rw[e];simp only[List.set_cons_succ,List.map_cons,RelL];exact⟨_,_,rfl,hx,g3⟩
    rw[e];simp only[List.set_cons_succ,List.map_cons,RelL];exact⟨_,_,rfl,hu,g4⟩
  cases h
theorem ZNW {d:TypeDesc} {a b:Value} (h:Instr.sameNow d a b=some true):Instr.sameBits 10000 b a=true:=by
 unfold Instr.sameNow at h;split at h
 ·split at h
  ·rename_i e;subst e;injection h with h
   unfold Instr.sameBits;rw[beq_iff_eq] at h;simp[h]
  cases h
 ·injection h with h
  rename_i a b;unfold Instr.sameBits;obtain⟨⟨a⟩⟩:=a;obtain⟨⟨b⟩⟩:=b;have h:(a.toArray==b.toArray)=true:=h
  show(b.toArray==a.toArray)=true
  simp at h ⊢
  exact h.symm
 ·injection h with h
  unfold Instr.sameBits;rw[beq_iff_eq] at h ⊢;exact h.symm
 cases h

theorem ZJ5 {t:TypeId} {x k v:AV} {xv kv vv:Value} (h:Sim base ρ X s w) (hx:Rel w ρ (UX ρ s.h X) s.c x xv) (hk:Rel w ρ (UX ρ s.h X) s.c k kv) (hv:Rel w ρ (UX ρ s.h X) s.c v vv) (hh:ZE0 P t x k v s=some s'):
  ∃w',(Instr.mapUpdate t xv kv vv).run P w= .ok () w' ∧Post base ρ X s w .undef s' undef w' :=by
 simp only[ZE0,oC,oB] at hh;obtain⟨d,hd,hh⟩:=hh;split at hh
 ·rename_i kt e;simp only[oB] at hh;obtain⟨dk,hdk,hh⟩:=hh;split at hh
  ·cases hh
  rename_i hkk;have hkk:ZB5 dk k=true:=by simpa using hkk
  split at hh
  ·rename_i n;split at hh
   ·rename_i es hg;simp only[Option.map_eq_some_iff] at hh;obtain⟨es',hes',rfl⟩:=hh;simp only[Rel] at hx;obtain⟨_,rfl⟩:=hx;obtain⟨ents,clock,g1,g2,g3,g4⟩:=h.obj n _ hg;obtain⟨q,hq,hqr⟩:=ZOe (i:=0) hkk hk hv g2 g3 hes';have hck:=fun b=>ZIF (P:=P) (e:=b) hdk hkk hk w
    have hlt:=h.blk_lt hg;have hfk:(Instr.findKey kt kv ents.toList).run P w= .ok q w:=by
     unfold Instr.findKey;simp[run_underlying hdk,hq]
    -- the map's block alone ZCm
    have fin:∀(ents' :Array MapEntry) (clock' :Nat),RelL w ρ (UX ρ s.h X) s.c (es'.map (·.1)) (ents'.toList.map (·.key))→RelL w ρ (UX ρ s.h X) s.c (es'.map (·.2)) (ents'.toList.map (·.val))→ZOd ents' clock' →
      Post base ρ X s w .undef (s.put n (.map es')) undef {w with heap:=w.heap.setIfInBounds (ρ n).1 (.map ents' clock')}:=by
     intro ents' clock' h1 h2 h5;refine Post.put (w' :={w with heap:=w.heap.setIfInBounds (ρ n).1 (.map ents' clock')}) h hg (by simp) (.map es') (by simp) rfl rfl rfl (by simp) (fun b hb=>by simp[Array.getElem?_setIfInBounds_ne (Ne.symm hb)]) (fun a ha=> ?_) _ _ (fun U' m=>⟨?_,by simp[Rel,RelL,undef]⟩)
     ·obtain⟨u,hu⟩:=Option.isSome_iff_exists.1 ha;by_cases e:a.block=(ρ n).1
      ·simp only[World.cell?,e,g1] at hu;cases hu
      rw[World.cell?_of_block (w:=w) (by simp[Array.getElem?_setIfInBounds_ne (Ne.symm e)])];exact ha
     refine⟨ents',clock',?_,RelL.mono m _ _ h1,RelL.mono m _ _ h2,h5⟩
     simp[hlt]
    cases q with
    | none=>
     obtain⟨h1,h2⟩:=hqr;refine⟨_,?_,fin (ents.push {key:=kv,val:=vv,born:=clock}) (clock+1) (by simpa using h1) (by simpa using h2) ?_⟩
     ·unfold Instr.mapUpdate;simp only[Sem.run_bind,run_underlying hd,Result.andThen_ok,getObj,Sem.run,g1,hck,hfk,setObj]
     refine⟨?_,fun e he=> ?_⟩
     ·rw[Array.toList_push,List.map_append];refine List.nodup_append.2 ⟨g4.1,by simp,fun a ha b hb=> ?_⟩
      obtain⟨e,he,rfl⟩:=List.mem_map.1 ha;have:=g4.2 e he
      simp at hb
      omega
     rw[Array.toList_push] at he;rcases List.mem_append.1 he with he | he
     ·have:=g4.2 e he;omega
     simp at he;subst he;simp
    | some p=>
     obtain⟨j,u⟩:=p;obtain⟨_,en,h1,h2,h3,h4⟩:=hqr;simp only[Nat.sub_zero] at h1 h3 h4;have hsb:=ZNW h2;have hjl:j<ents.size:=by have:=(List.getElem?_eq_some_iff.1 h1).1;simpa using this
     have hen:ents[j]? =some en:=by simpa using h1
     have e:(ents.modify j fun e=>{e with key:=kv,val:=vv}).toList=ents.toList.set j {en with key:=kv,val:=vv}:=by
      rw[Array.toList_modify];apply List.ext_getElem?
      intro q;rw[List.getElem?_modify,List.getElem?_set];by_cases e:j=q
      ·subst e;simp[h1]
       have:=(List.getElem?_eq_some_iff.1 h1).1;simpa using this
      simp[e]
     refine⟨_,?_,fin (ents.modify j fun e=>{e with key:=kv,val:=vv}) clock ?_ ?_ ?_⟩
     ·unfold Instr.mapUpdate;simp only[Sem.run_bind,run_underlying hd,Result.andThen_ok,getObj,Sem.run,g1,hck,hfk,setObj,hen,Option.map_some,Option.getD_some,Instr.keyThatStays];rw[if_pos hsb];simp only[Sem.run_pure,Result.andThen_ok,g1]
     ·rw[e];exact h3
     ·rw[e];exact h4
     have eb:(ents.modify j fun e=>{e with key:=kv,val:=vv}).toList.map (·.born)=ents.toList.map (·.born):=by
      rw[e,List.map_set];apply List.ext_getElem?
      intro q;rw[List.getElem?_set];by_cases e:j=q
      ·subst e;simp[h1]
       have:=(List.getElem?_eq_some_iff.1 h1).1;simpa using this
      simp[e]
     refine⟨by rw[eb];exact g4.1,fun x hx=> ?_⟩
     have hb:x.born∈ents.toList.map (·.born):=by rw[←eb];exact List.mem_map.2 ⟨x,hx,rfl⟩
     obtain⟨y,hy,e2⟩:=List.mem_map.1 hb;rw[←e2];exact g4.2 y hy
   cases hh
  cases hh
 cases hh
end
end Go.Ai
end
section
namespace Go.Ai
section
variable {P:Program} {base:Nat} {ρ:Pl} {X U:Reg} {c:Nat} {s s' :St} {w:World}

theorem ZL8 {x v:AV} {xv:Value} {xt t:TypeId} {ok:Bool} (hx:Rel w ρ U c x xv) (h:ZGr P x t ok=some v):Gives P w ρ U c (Instr.typeAssert xv xt t ok) v:=by
 simp only[ZGr,oC,oB] at h;obtain⟨d,hd,h⟩:=h;split at h
 ·cases h
 ·rename_i hni;simp only[Rel] at hx;subst hx;split at h
  ·rename_i hok;simp only[Option.map_eq_some_iff] at h;obtain⟨z,hz,rfl⟩:=h;obtain⟨zv,hzr,hzz⟩:=ZGU hz w;refine⟨.tuple #[zv, .bool false],?_,?_⟩
   ·unfold Instr.typeAssert
    cases d<;> first
     | exact absurd rfl (hni _)
     | simp[run_underlying hd,hok,hzr]
   simp only[Rel,RelL];exact⟨[zv, .bool false],rfl,zv,_,rfl,hzz _ _ _ _,_,_,rfl,rfl,rfl⟩
  cases h
 ·rename_i t' y hni;simp only[Rel] at hx;obtain⟨u,rfl,hu⟩:=hx;split at h
  ·rename_i ht;subst ht;injection h with h;subst h
   refine⟨if ok then .tuple #[u, .bool true] else u,?_,?_⟩
   ·unfold Instr.typeAssert
    cases d<;> first
     | exact absurd rfl (hni _)
     | simp[run_underlying hd]
   cases ok with
   | true=>
    simp only[if_true,Rel,RelL];exact⟨[u, .bool true],rfl,u,_,rfl,hu,_,_,rfl,rfl,rfl⟩
   | false=>simpa using hu
  rename_i ht;split at h
  ·rename_i hok;simp only[Option.map_eq_some_iff] at h;obtain⟨z,hz,rfl⟩:=h;obtain⟨zv,hzr,hzz⟩:=ZGU hz w;refine⟨.tuple #[zv, .bool false],?_,?_⟩
   ·unfold Instr.typeAssert
    cases d<;> first
     | exact absurd rfl (hni _)
     | simp[run_underlying hd,hok,hzr,ht]
   simp only[Rel,RelL];exact⟨[zv, .bool false],rfl,zv,_,rfl,hzz _ _ _ _,_,_,rfl,rfl,rfl⟩
  cases h
 cases h

theorem ZIy (w:World) (o:Obj) (b:Nat) (hb:b<w.heap.size):(w.alloc o).heap[b]? =w.heap[b]? :=by
 show(w.heap.push _)[b]? =_
 rw[Array.getElem?_push,if_neg (by omega)]

theorem ZPm {l:List UInt8} {t:TypeId} (hb:base≤w.heap.size) (h:Sim base ρ X s w) (ht:P.underlying t=some .string):Does P base ρ X s w (Instr.range t (.string ⟨l.toArray⟩)) (.ptr s.c 0) (s.new (.siter l 0)):=by
 refine⟨.pointer (some ⟨w.heap.size,0,none⟩),w.alloc (.stringIter ⟨l.toArray⟩ 0),?_,?_⟩
 ·unfold Instr.range;simp[run_underlying ht]
 refine Post.new (w' :=w.alloc (.stringIter ⟨l.toArray⟩ 0)) h rfl rfl rfl (by simp) (ZIy w _) hb (.siter l 0) w.heap.size 0 (Nat.le_refl _) _ _ (fun ρ' U' c' m hρ' _ hc' =>⟨heap_alloc_new w _,?_⟩)
 simp only[Rel];exact⟨by rw[hc'];omega,by rw[hρ']⟩
theorem ZL9 {t:TypeId} (hb:base≤w.heap.size) (h:Sim base ρ X s w):Does P base ρ X s w (Instr.makeMap t none) (.mp s.c) (s.new (.map [])):=by
 refine⟨.map (some w.heap.size),w.alloc (.map #[] 0),?_,?_⟩
 ·unfold Instr.makeMap;simp
 refine Post.new (w' :=w.alloc (.map #[] 0)) h rfl rfl rfl (by simp) (ZIy w _) hb (.map []) w.heap.size 0 (Nat.le_refl _) _ _ (fun ρ' U' c' m hρ' _ hc' =>⟨⟨#[],0,heap_alloc_new w _,by simp[RelL],by simp[RelL],by simp[ZOd]⟩,?_⟩)
 simp only[Rel];exact⟨by rw[hc'];omega,by rw[hρ']⟩
theorem ZQe {n:Nat} {ty:TypeId} {v:AV} {xv:Value} (h:Sim base ρ X s w) (hx:Rel w ρ (UX ρ s.h X) s.c (.ptr n 0) xv) (hh:ZQQ n s=some (v,s')):Does P base ρ X s w (Instr.next xv true ty) v s' :=by
 simp only[Rel] at hx;obtain⟨_,rfl⟩:=hx;unfold ZQQ at hh;split at hh
 ·rename_i l pos hg;have g1:w.heap[(ρ n).1]? =some (.stringIter ⟨l.toArray⟩ pos):=h.obj n _ hg
  have hlt:=h.blk_lt hg;split at hh
  ·rename_i hpos;injection hh with hh;injection hh with e1 e2;subst e1;subst e2
   refine⟨.tuple #[.bool true, .int .i64 pos, .int .i32 (Utf8.decode ⟨l.toArray⟩ pos).1],{w with heap:=w.heap.setIfInBounds (ρ n).1 (.stringIter ⟨l.toArray⟩ (pos+(Utf8.decode ⟨l.toArray⟩ pos).2))},?_,?_⟩
   ·unfold Instr.next;have:pos<(⟨l.toArray⟩:ByteArray).size:=hpos
    simp only[getObj,Sem.run_bind,Sem.run,g1,Result.andThen_ok];rw[if_pos this];simp only[Sem.run_bind,setObj,Sem.run,g1,Result.andThen_ok,Sem.run_pure,goInt]
   refine Post.put (w' :={w with heap:=w.heap.setIfInBounds (ρ n).1 (.stringIter ⟨l.toArray⟩ (pos+(Utf8.decode ⟨l.toArray⟩ pos).2))}) h hg (by simp) (.siter l (pos+(Utf8.decode ⟨l.toArray⟩ pos).2)) (by simp) rfl rfl rfl (by simp) (fun b hb=>by simp[Array.getElem?_setIfInBounds_ne (Ne.symm hb)]) (fun a ha=> ?_) _ _ (fun U' m=>⟨?_,?_⟩)
   ·obtain⟨u,hu⟩:=Option.isSome_iff_exists.1 ha;by_cases e:a.block=(ρ n).1
    ·simp only[World.cell?,e,g1] at hu;cases hu
    rw[World.cell?_of_block (w:=w) (by simp[Array.getElem?_setIfInBounds_ne (Ne.symm e)])];exact ha
   ·show _=_
    simp[hlt]
   simp only[Rel,RelL];exact⟨_,rfl,_,_,rfl,rfl,_,_,rfl,rfl,_,_,rfl,rfl,rfl⟩
  rename_i hpos;injection hh with hh;injection hh with e1 e2;subst e1;subst e2
  refine⟨.tuple #[.bool false],w,?_, .same h ?_⟩
  ·unfold Instr.next;have:¬pos<(⟨l.toArray⟩:ByteArray).size:=hpos
   simp only[getObj,Sem.run_bind,Sem.run,g1,Result.andThen_ok];rw[if_neg this];rfl
  simp only[Rel,RelL];exact⟨_,rfl,_,_,rfl,rfl,rfl⟩
 cases hh

theorem ZQf {α β:Type} (f:α→β) (a:Array α):a.map f=(a.toList.map f).toArray:=by
 apply Array.ext'
 simp
/-! ### A call -/
def ZHJ (P:Program) (base:Nat) (call:FuncId→List AV→St→Option (AV×St)):Prop:=
 ∀f args s v s',call f args s=some (v,s')→(∃fn,P.funcs[f]? =some fn∧ZCn fn=true)∧
  ∀ρ X w vs,base≤w.heap.size→Sim base ρ X s w→RelL w ρ (UX ρ s.h X) s.c args vs→
   Calls P f vs.toArray w fun e w' =>∃v',e= .returned v' ∧Post base ρ X s w v s' v' w'

theorem ZDU {f:FuncId} {fn:Func} (hf:P.funcs[f]? =some fn) (he:ZCn fn=true) (args:Array Value) (w:World):(callFunc f args).run P w= .ok (.enter f args) w:=by
 simp only[ZCn,Bool.and_eq_true,bne_iff_ne,ne_eq] at he;have h2:fn.body.isNone=false:=by
  cases hb:fn.body with
  | none=>simp[hb] at he
  | some _=>rfl
 have h1:(fn.name== "runtime.NumGoroutine")=false:=by simpa using he.1
 unfold callFunc;simp only[Sem.run_bind,run_program,Result.andThen_ok,hf,h1,h2,Bool.false_eq_true,if_false,Sem.run_pure]

variable {call:FuncId→List AV→St→Option (AV×St)}

theorem ZC5 {o:Oper} {a:Act} {K:Act→World→Prop} {Q:Exit→Act→World→Prop} {v' :Value} {w' :World} (h:(execOp a.eval o).run P w= .ok (.value v') w') (hK:K (a.put o.dst v') w'):o.wp P a w K Q:=by
 unfold Oper.wp;rw[h];exact hK
theorem ZTk {o:Oper} {a:Act} {K:Act→World→Prop} {Q:Exit→Act→World→Prop} {w' :World} (h:(execOp a.eval o).run P w= .ok .skip w') (hK:K (a.put o.dst undef) w'):o.wp P a w K Q:=by
 unfold Oper.wp;rw[h];exact hK

theorem ZNX {fr:List AV} {a:Act} (hf:RelL w ρ U c fr a.tmps.toList):∀{parts:List (Nat×Operand)} {ps:List (Nat×AV)},(parts.mapM fun(p:Nat×Operand)=>(ZAp fr p.2).map (p.1,·))=some ps→
  RelP w ρ U c ps (parts.map fun p=>(p.1,a.eval p.2))
 | [],ps,h=>by
  simp at h;subst h;exact⟨rfl,fun j p q hp=>by simp at hp⟩
 | (i,x)::parts,ps,h=>by
  simp only[List.mapM_cons,oC,oB,Option.map_eq_some_iff,Option.pure_def] at h;obtain⟨b,⟨v,hv,rfl⟩,qs,hqs,h⟩:=h;injection h with h;subst h
  obtain⟨h1,h2⟩:=ZNX hf hqs;refine⟨by simpa using h1,fun j p q hp hq=> ?_⟩
  cases j with
  | zero=>
   simp at hp hq;subst hp;subst hq;exact⟨rfl,ZAW hf hv⟩
  | succ j=>exact h2 j p q (by simpa using hp) (by simpa using hq)
theorem ZNY {fr:List AV} {a:Act} (hf:RelL w ρ U c fr a.tmps.toList) {x:Option Operand} {v:Option AV} (h:ZEU fr x=some v):RelO w ρ U c v (x.map a.eval):=by
 cases x with
 | none=>simp only[ZEU] at h;injection h with h;subst h;trivial
 | some x=>
  simp only[ZEU,Option.map_eq_some_iff] at h;obtain⟨u,hu,rfl⟩:=h;exact ZAW hf hu

set_option maxHeartbeats 4000000 in
theorem ZPn (hcall:ZHJ P base call) {o:Oper} {fr:List AV} {a:Act} {v:AV} (hb:base≤w.heap.size) (h:Sim base ρ X s w) (hf:RelL w ρ (UX ρ s.h X) s.c fr a.tmps.toList) (ho:aOp P call o fr s=some (v,s'))
  {K:Act→World→Prop} {Q:Exit→Act→World→Prop} (hK:∀v' w',Post base ρ X s w v s' v' w' →K (a.put o.dst v') w'):o.wp P a w K Q:=by
 obtain⟨dst,op,type,pos,after,guard⟩:=o;have fin:∀{m:Sem Value} {o:Oper},(∀v' w',Post base ρ X s w v s' v' w' →K (a.put o.dst v') w')→Does P base ρ X s w m v s' →execOp a.eval o=(do pure (.value (←m)):Sem Next)→o.wp P a w K Q:=by
  rintro m o hK ⟨v',w',h1,h2⟩ h3;refine ZC5 (v' :=v') (w' :=w') ?_ (hK _ _ h2)
  rw[h3];simp[h1]
 cases op with
 | move x=>
  simp only[aOp,Option.map_eq_some_iff] at ho;obtain⟨u,hu,ho⟩:=ho;injection ho with e1 e2;subst e1;subst e2
  exact ZC5 (v' :=a.eval x) (w' :=w) (by simp[execOp]) (hK _ _ (.same h (ZAW hf hu)))
 | assign x=>
  simp only[aOp,Option.map_eq_some_iff] at ho;obtain⟨u,hu,ho⟩:=ho;injection ho with e1 e2;subst e1;subst e2
  exact ZC5 (v' :=a.eval x) (w' :=w) (by simp[execOp]) (hK _ _ (.same h (ZAW hf hu)))
 | pick cc x y=>
  simp only[aOp,oC,oB] at ho;obtain⟨b,hbv,ho⟩:=ho;split at ho
  ·rename_i t;simp only[oB] at ho;obtain⟨u,hu,ho⟩:=ho;injection ho with ho;injection ho with e1 e2;subst e1;subst e2
   have hc:=ZAW hf hbv;simp only[Rel] at hc;have:=ZAW hf hu
   refine ZC5 (v' :=a.eval (if t then x else y)) (w' :=w) ?_ (hK _ _ (.same h this))
   simp only[execOp,hc,asBool]
   cases t<;> simp
  cases ho
 | alloc t=>
  exact fin hK (ZPi hb h t ho) rfl
 | box t x=>
  simp only[aOp,oC,oB] at ho;obtain⟨u,hu,ho⟩:=ho;exact fin hK (ZSa hb h (ZAW hf hu) t ho) rfl
 | build t parts=>
  simp only[aOp,oC,oB] at ho;obtain⟨ps,hps,u,hu,ho⟩:=ho;injection ho with ho;injection ho with e1 e2;subst e1;subst e2
  have hp:=ZNX hf hps;exact fin hK ((ZNV (pv:=parts.map fun p=>(p.1,a.eval p.2)) (by simpa using hp) hu).does h) rfl
 | buildSlice t n parts=>
  simp only[aOp,oC,oB] at ho;obtain⟨ps,hps,u,hu,ho⟩:=ho;injection ho with ho;injection ho with e1 e2;subst e1;subst e2
  have hp:=ZNX hf hps;exact fin hK (ZIw (pv:=parts.map fun p=>(p.1,a.eval p.2)) h (by simpa using hp) hu) rfl
 | load t x=>
  simp only[aOp,oC,oB] at ho;obtain⟨u,hu,y,hy,ho⟩:=ho;injection ho with ho;injection ho with e1 e2;subst e1;subst e2
  exact fin hK ((ZKO h (ZAW hf hu) hy).does h) rfl
 | store t x y=>
  simp only[aOp,oC,oB] at ho;obtain⟨u,hu,z,hz,s1,hs1,ho⟩:=ho;injection ho with ho;injection ho with e1 e2;subst e1;subst e2
  obtain⟨w',h1,h2⟩:=ZPh (P:=P) h (ZAW hf hu) (ZAW hf hz) hs1;exact ZTk (w' :=w') (by simp[execOp,h1]) (hK _ _ h2)
 | nilCheck x=>
  simp only[aOp,oC,oB] at ho;obtain⟨u,hu,ho⟩:=ho;have hr:=ZAW hf hu;split at ho
  ·cases ho
  ·cases ho
  ·cases ho
  rename_i hn1 hn2 hn3;injection ho with ho;injection ho with e1 e2;subst e1;subst e2
  refine ZC5 (v' :=a.eval x) (w' :=w) ?_ (hK _ _ (.same h hr))
  simp only[execOp];generalize a.eval x=xv at hr
  cases u<;> simp only[Rel] at hr<;> first
   | exact absurd rfl hn1
   | exact absurd rfl hn2
   | exact absurd rfl hn3
   | (subst hr;rfl)
   | (obtain⟨_,rfl⟩:=hr;rfl)
   | (obtain⟨_,_,_,rfl,_⟩:=hr;rfl)
   | (obtain⟨_,_,rfl,_⟩:=hr;rfl)
   | (obtain⟨_,rfl,_⟩:=hr;rfl)
 | binOp op t x y yt=>
  simp only[aOp,oC,oB] at ho;obtain⟨u,hu,y',hy,z,hz,ho⟩:=ho;injection ho with ho;injection ho with e1 e2;subst e1;subst e2
  exact fin hK ((ZIs (ZAW hf hu) (ZAW hf hy) hz).does h) rfl
 | unOp op t x=>
  simp only[aOp,oC,oB] at ho;obtain⟨u,hu,z,hz,ho⟩:=ho;injection ho with ho;injection ho with e1 e2;subst e1;subst e2
  exact fin hK ((ZKQ (ZAW hf hu) hz).does h) rfl
 | convert src dt x=>
  simp only[aOp,oC,oB] at ho;obtain⟨u,hu,ho⟩:=ho;exact fin hK (ZL6 hb h (ZAW hf hu) ho) rfl
 | makeInterface t x=>
  simp only[aOp,oC,oB] at ho;obtain⟨d,hd,ho⟩:=ho;split at ho
  ·cases ho
  rename_i hni;simp only[oB] at ho;obtain⟨u,hu,ho⟩:=ho;injection ho with ho;injection ho with e1 e2;subst e1;subst e2
  refine ZC5 (v' := .iface t (a.eval x)) (w' :=w) ?_ (hK _ _ (.same h ?_))
  ·simp only[execOp,Instr.makeInterface]
   cases d<;> first
    | exact absurd rfl (hni _)
    | simp[run_underlying hd]
  simp only[Rel];exact⟨_,rfl,ZAW hf hu⟩
 | makeFunc f first captured=>
  simp only[aOp,oC] at ho;split at ho
  ·simp only[oB] at ho;obtain⟨us,hus,vs,hvs,ho⟩:=ho;injection ho with ho;injection ho with e1 e2;subst e1;subst e2
   rename_i g;refine ZC5 (v' := .func (.func g) (first.map a.eval) (captured.map a.eval)) (w' :=w) (by simp[execOp,Instr.makeFunc]) (hK _ _ (.same h ?_))
   simp only[Rel];exact⟨first.toList.map a.eval,captured.toList.map a.eval,by rw[←ZQf,←ZQf],ZB2 hf hus,ZB2 hf hvs⟩
  cases ho
 | makeMap t r=>
  cases r with
  | some r=>simp[aOp] at ho
  | none=>
   simp only[aOp] at ho;injection ho with ho;injection ho with e1 e2;subst e1;subst e2
   exact fin hK (ZL9 (t:=t) hb h) rfl
 | makeSlice t l cp=>
  simp only[aOp,oC,oB] at ho;obtain⟨u,hu,y,hy,ho⟩:=ho;exact fin hK (ZJ4 hb h (ZAW hf hu) (ZAW hf hy) ho) rfl
 | slice t x lo hi mx=>
  simp only[aOp,oC,oB] at ho;obtain⟨u,hu,l,hl,i,hi',m,hm,z,hz,ho⟩:=ho;injection ho with ho;injection ho with e1 e2;subst e1;subst e2
  exact fin hK ((ZNS (ZAW hf hu) (ZNY hf hl) (ZNY hf hi') (ZNY hf hm) hz).does h) rfl
 | fieldAddr t x f=>
  simp only[aOp,oC,oB] at ho;obtain⟨u,hu,z,hz,ho⟩:=ho;injection ho with ho;injection ho with e1 e2;subst e1;subst e2
  exact fin hK ((ZIu (ZAW hf hu) hz).does h) rfl
 | field t x f=>
  simp only[aOp,oC,oB] at ho;obtain⟨u,hu,z,hz,ho⟩:=ho;injection ho with ho;injection ho with e1 e2;subst e1;subst e2
  exact fin hK ((ZNR (ZAW hf hu) hz).does h) rfl
 | indexAddr t x i=>
  simp only[aOp,oC,oB] at ho;obtain⟨u,hu,y,hy,z,hz,ho⟩:=ho;injection ho with ho;injection ho with e1 e2;subst e1;subst e2
  exact fin hK ((ZIt (ZAW hf hu) (ZAW hf hy) hz).does h) rfl
 | index t x i=>
  simp only[aOp,oC,oB] at ho;obtain⟨u,hu,y,hy,z,hz,ho⟩:=ho;injection ho with ho;injection ho with e1 e2;subst e1;subst e2
  exact fin hK ((ZNQ (ZAW hf hu) (ZAW hf hy) hz).does h) rfl
 | lookup t x i ok=>
  simp only[aOp,oC,oB] at ho;obtain⟨u,hu,y,hy,z,hz,ho⟩:=ho;injection ho with ho;injection ho with e1 e2;subst e1;subst e2
  exact fin hK ((ZL7 h (ZAW hf hu) (ZAW hf hy) hz).does h) rfl
 | mapUpdate t m k x=>
  simp only[aOp,oC,oB] at ho;obtain⟨u,hu,y,hy,z,hz,s1,hs1,ho⟩:=ho;injection ho with ho;injection ho with e1 e2;subst e1;subst e2
  obtain⟨w',h1,h2⟩:=ZJ5 (P:=P) h (ZAW hf hu) (ZAW hf hy) (ZAW hf hz) hs1;exact ZTk (w' :=w') (by simp[execOp,h1]) (hK _ _ h2)
 | range t x=>
  simp only[aOp,oC,oB] at ho;obtain⟨d,hd,u,hu,ho⟩:=ho;split at ho
  ·rename_i l;injection ho with ho;injection ho with e1 e2;subst e1;subst e2
   have hr:=ZAW hf hu;simp only[Rel] at hr;refine fin hK (m:=Instr.range t (a.eval x)) ?_ rfl
   rw[hr];exact ZPm hb h hd
  cases ho
 | next it isS=>
  cases isS with
  | false=>simp[aOp] at ho
  | true=>
   simp only[aOp,oC,oB] at ho;obtain⟨u,hu,ho⟩:=ho;split at ho
   ·exact fin hK (ZQe h (ZAW hf hu) ho) rfl
   cases ho
 | typeAssert x xt t ok=>
  simp only[aOp,oC,oB] at ho;obtain⟨u,hu,z,hz,ho⟩:=ho;injection ho with ho;injection ho with e1 e2;subst e1;subst e2
  exact fin hK ((ZL8 (ZAW hf hu) hz).does h) rfl
 | extract t i=>
  simp only[aOp,oC,oB] at ho;obtain⟨u,hu,ho⟩:=ho;split at ho
  ·rename_i vs;simp only[Option.map_eq_some_iff] at ho;obtain⟨z,hz,ho⟩:=ho;injection ho with e1 e2;subst e1;subst e2
   have hr:=ZAW hf hu;simp only[Rel] at hr;obtain⟨us,e,hl⟩:=hr;obtain⟨zv,hzv,hzr⟩:=hl.get hz;refine ZC5 (v' :=zv) (w' :=w) ?_ (hK _ _ (.same h hzr))
   simp[execOp,e,Instr.extract,hzv]
  cases ho
 | call cl=>
  simp only[aOp,oC,oB] at ho;obtain⟨args,hargs,ho⟩:=ho;have har:=ZB2 hf hargs;split at ho
  ·rename_i b hcl;have hres:∀s:Sem Value,(∀consts,builtin b cl.argTypes type consts (cl.args.map a.eval)=(do pure (.value (←s)):Sem Next))→
     execOp a.eval {dst:=dst,op:= .call cl,type:=type,pos:=pos,after:=after,guard:=guard}=(do pure (.value (←s)):Sem Next):=fun s hs=>by
    simp only[execOp,resolve,hcl,pure_bind,invoke,hs]
   have hmap:cl.args.map a.eval=(cl.args.toList.map a.eval).toArray:=by
    apply Array.ext'
    simp
   unfold ZCI at ho;split at ho
   ·rename_i x y;obtain⟨xv,us,e1,hx,har⟩:=(by simpa only[RelL] using har:∃v us,cl.args.toList.map a.eval=v::us∧_∧∃v' us',us=v' ::us' ∧_∧us' =[])
    obtain⟨yv,us',e2,hy,e3⟩:=har;subst e3;subst e2;refine fin hK (m:=Builtin.append_ cl.argTypes type #[xv,yv]) (ZNU hb h hx hy ho) (hres _ (fun consts=> ?_))
    rw[hmap,e1];rfl
   ·rename_i x y;obtain⟨xv,us,e1,hx,har⟩:=(by simpa only[RelL] using har:∃v us,cl.args.toList.map a.eval=v::us∧_∧∃v' us',us=v' ::us' ∧_∧us' =[])
    obtain⟨yv,us',e2,hy,e3⟩:=har;subst e3;subst e2;refine fin hK (m:=Builtin.copy_ cl.argTypes type #[xv,yv]) (ZQc h hx hy ho) (hres _ (fun consts=> ?_))
    rw[hmap,e1];rfl
   ·rename_i x;obtain⟨xv,us,e1,hx,e3⟩:=(by simpa only[RelL] using har:∃v us,cl.args.toList.map a.eval=v::us∧_∧us=[])
    subst e3;simp only[oC,oB] at ho;obtain⟨t,ht,z,hz,ho⟩:=ho;injection ho with ho;injection ho with e2 e3;subst e2;subst e3
    have hg:=ZQZ (P:=P) (ty:=type) h hx hz;refine fin hK (m:=Builtin.len_ cl.argTypes type #[xv]) ?_ (hres _ (fun consts=> ?_))
    ·have e:Builtin.len_ cl.argTypes type #[xv]=Builtin.len_ #[t] type #[xv]:=by unfold Builtin.len_;simp[ht]
     rw[e];exact hg.does h
    rw[hmap,e1];rfl
   ·rename_i x;obtain⟨xv,us,e1,hx,e3⟩:=(by simpa only[RelL] using har:∃v us,cl.args.toList.map a.eval=v::us∧_∧us=[])
    subst e3;simp only[oC,oB] at ho;obtain⟨t,ht,z,hz,ho⟩:=ho;injection ho with ho;injection ho with e2 e3;subst e2;subst e3
    have hg:=ZQa (P:=P) (ty:=type) hx hz;refine fin hK (m:=Builtin.cap_ cl.argTypes type #[xv]) ?_ (hres _ (fun consts=> ?_))
    ·have e:Builtin.cap_ cl.argTypes type #[xv]=Builtin.cap_ #[t] type #[xv]:=by unfold Builtin.cap_;simp[ht]
     rw[e];exact hg.does h
    rw[hmap,e1];rfl
   ·rename_i k x k' y;obtain⟨xv,us,e1,hx,har⟩:=(by simpa only[RelL] using har:∃v us,cl.args.toList.map a.eval=v::us∧_∧∃v' us',us=v' ::us' ∧_∧us' =[])
    obtain⟨yv,us',e2,hy,e3⟩:=har;subst e3;subst e2;simp only[Rel] at hx hy;subst hx;subst hy;injection ho with ho;injection ho with e2 e3;subst e2;subst e3
    refine fin hK (m:=Builtin.min_ cl.argTypes type #[.int k x, .int k' y]) ⟨.int k (if y<x then y else x),w,?_, .same h (by simp[Rel])⟩ (hres _ (fun consts=> ?_))
    ·simp[Builtin.min_,Builtin.min2]
    rw[hmap,e1];rfl
   ·rename_i k x k' y;obtain⟨xv,us,e1,hx,har⟩:=(by simpa only[RelL] using har:∃v us,cl.args.toList.map a.eval=v::us∧_∧∃v' us',us=v' ::us' ∧_∧us' =[])
    obtain⟨yv,us',e2,hy,e3⟩:=har;subst e3;subst e2;simp only[Rel] at hx hy;subst hx;subst hy;injection ho with ho;injection ho with e2 e3;subst e2;subst e3
    refine fin hK (m:=Builtin.max_ cl.argTypes type #[.int k x, .int k' y]) ⟨.int k (if y > x then y else x),w,?_, .same h (by simp[Rel])⟩ (hres _ (fun consts=> ?_))
    ·simp[Builtin.max_,Builtin.max2]
    rw[hmap,e1];rfl
   cases ho
  ·rename_i f hcl;simp only[oB] at ho;obtain⟨fv,hfv,ho⟩:=ho;split at ho
   ·rename_i g first captured;have hr:=ZAW hf hfv;simp only[Rel] at hr;obtain⟨us,vs,e,h1,h2⟩:=hr;obtain⟨⟨fn,hfn,hen⟩,hc⟩:=hcall g _ s v s' ho;have hcl' :=hc ρ X w (us++cl.args.toList.map a.eval++vs) hb h ((h1.append har).append h2)
    unfold Oper.wp;have hrun:(execOp a.eval {dst:=dst,op:= .call cl,type:=type,pos:=pos,after:=after,guard:=guard}).run P w= .ok (.enter g (us++cl.args.toList.map a.eval++vs).toArray) w:=by
     simp only[execOp,resolve,hcl,e,Deferred.ofValue,pure_bind,invoke];rw[ZDU hfn hen];congr 2
     apply Array.ext'
     simp
    rw[hrun];refine hcl'.mono fun e' w' he=> ?_
    obtain⟨v',rfl,hp⟩:=he;exact hK v' w' hp
   cases ho
  cases ho
 | _=>simp[aOp] at ho
end
end Go.Ai
end
section
namespace Go.Ai
section
variable {P:Program} {base:Nat} {ρ:Pl} {X U:Reg} {c:Nat} {s s' :St} {w:World}

def PostF (base:Nat) (ρ:Pl) (X:Reg) (s:St) (w:World) (fr' :List AV) (s' :St) (a' :Act) (w' :World):Prop:=
 ∃ρ' :Pl,(∀n,n<s.c→ρ' n=ρ n)∧s.c≤s'.c∧Sim base ρ' X s' w' ∧RelL w' ρ' (UX ρ' s'.h X) s'.c fr' a'.tmps.toList∧Fr (Umap ρ s.h) w w' ∧(∀b j,b<w.heap.size→Umap ρ' s'.h b j→Umap ρ s.h b j)∧a'.defers=[]
theorem PostF.refl {fr:List AV} {a:Act} (h:Sim base ρ X s w) (hf:RelL w ρ (UX ρ s.h X) s.c fr a.tmps.toList) (hd:a.defers=[]):PostF base ρ X s w fr s a w:=
 ⟨ρ,fun _ _=>rfl,Nat.le_refl _,h,hf,Fr.refl _ _,fun _ _ _ hj=>hj,hd⟩
theorem PostF.trans {fr1 fr2:List AV} {s1 s2:St} {a1 a2:Act} {w1 w2:World} (h:PostF base ρ X s w fr1 s1 a1 w1)
  (k:∀ρ1,Sim base ρ1 X s1 w1→RelL w1 ρ1 (UX ρ1 s1.h X) s1.c fr1 a1.tmps.toList→a1.defers=[]→PostF base ρ1 X s1 w1 fr2 s2 a2 w2):PostF base ρ X s w fr2 s2 a2 w2:=by
 obtain⟨ρ1,h1,h2,h3,h4,h5,h6,h7⟩:=h;obtain⟨ρ2,k1,k2,k3,k4,k5,k6,k7⟩:=k ρ1 h3 h4 h7;exact⟨ρ2,fun n hn=>(k1 n (Nat.lt_of_lt_of_le hn h2)).trans (h1 n hn),Nat.le_trans h2 k2,k3,k4,h5.trans k5 h6,fun b j hb hj=>h6 b j hb (k6 b j (Nat.lt_of_lt_of_le hb h5.size) hj),k7⟩
theorem PostF.cons {fr2:List AV} {s1 s2:St} {a2:Act} {w1 w2:World} {ρ1:Pl} (h1:∀n,n<s.c→ρ1 n=ρ n) (h2:s.c≤s1.c) (h5:Fr (Umap ρ s.h) w w1) (h6:∀b j,b<w.heap.size→Umap ρ1 s1.h b j→Umap ρ s.h b j)
  (k:PostF base ρ1 X s1 w1 fr2 s2 a2 w2):PostF base ρ X s w fr2 s2 a2 w2:=by
 obtain⟨ρ2,k1,k2,k3,k4,k5,k6,k7⟩:=k;exact⟨ρ2,fun n hn=>(k1 n (Nat.lt_of_lt_of_le hn h2)).trans (h1 n hn),Nat.le_trans h2 k2,k3,k4,h5.trans k5 h6,fun b j hb hj=>h6 b j hb (k6 b j (Nat.lt_of_lt_of_le hb h5.size) hj),k7⟩
theorem Post.frame {fr:List AV} {a:Act} {v:AV} {v' :Value} {w' :World} {dst:Option Tmp} (h:Sim base ρ X s w) (hf:RelL w ρ (UX ρ s.h X) s.c fr a.tmps.toList) (hd:a.defers=[]) (hp:Post base ρ X s w v s' v' w'):
  PostF base ρ X s w (aPut fr dst v) s' (a.put dst v') w' :=by
 obtain⟨ρ',h3,h4,hm,h1,h5,h6⟩:=hp.mono_of h;refine⟨ρ',h1,hm.le,h3,ZIY (RelL.mono hm _ _ hf) dst h4,h5,h6,?_⟩
 cases dst<;> exact hd

theorem ZHK {ops:Array Oper} {fr:List AV} {a:Act} (hf:RelL w ρ U c fr a.tmps.toList):ZBP ops fr=yielded ops a.tmps:=by
 funext j
 unfold ZBP yielded
 cases hd:(ops[j]?).bind (·.dst) with
 | none=>rfl
 | some t=>
  simp only[Option.bind_some]
  cases hx:fr[t]? with
  | none=>
   have:a.tmps[t]? =none:=by
    have hl:=hf.length;simp only[Array.length_toList] at hl;rw[List.getElem?_eq_none_iff] at hx;rw[Array.getElem?_eq_none_iff];omega
   rw[this]
  | some x=>
   obtain⟨v,hv,hr⟩:=hf.get hx;have hv' :a.tmps[t]? =some v:=by simpa using hv
   rw[hv']
   cases x<;> simp only[Rel] at hr<;> first
    | (subst hr;rfl)
    | (obtain⟨_,rfl⟩:=hr;rfl)
    | (obtain⟨_,_,_,rfl,_⟩:=hr;rfl)
    | (obtain⟨_,_,rfl,_⟩:=hr;rfl)
    | (obtain⟨_,rfl,_⟩:=hr;rfl)

variable {call:FuncId→List AV→St→Option (AV×St)}

theorem ZNZ (hcall:ZHJ P base call) {ops:Array Oper} {Q:Exit→Act→World→Prop}:∀(l:List Oper) (i:Nat),ops.toList.drop i=l→∀{fr fr' :List AV} {s s' :St} {a:Act} {w:World} {ρ:Pl},base≤w.heap.size→Sim base ρ X s w→RelL w ρ (UX ρ s.h X) s.c fr a.tmps.toList→a.defers=[]→
  aOps P call ops l fr s=some (fr',s')→(∀a' w',PostF base ρ X s w fr' s' a' w' →Q .normal a' w')→wpOps P ops Q (List.range' i l.length) a w
 | [],i,hi,fr,fr',s,s',a,w,ρ,hb,h,hf,hd,ho,hQ=>by
  simp only[aOps] at ho;injection ho with ho;injection ho with e1 e2;subst e1;subst e2
  exact hQ a w (.refl h hf hd)
 | o::l,i,hi,fr,fr',s,s',a,w,ρ,hb,h,hf,hd,ho,hQ=>by
  have hoi:ops[i]? =some o:=by
   have:(ops.toList.drop i)[0]? =some o:=by rw[hi];rfl
   rw[List.getElem?_drop] at this;simpa using this
  have hnext:ops.toList.drop (i+1)=l:=by
   have:(ops.toList.drop i).drop 1=l:=by rw[hi];rfl
   rwa [List.drop_drop] at this
  rw[List.length_cons,List.range'_succ,wpOps_cons];unfold wpOp;simp only[hoi];have hy:=ZHK (ops:=ops) hf;simp only[aOps,hy] at ho;split
  ·rename_i hw;rw[if_pos hw] at ho;split at ho
   ·rename_i v s1 hop;left
    refine ZPn hcall hb h hf hop fun v' w' hp=> ?_
    have hpf:=Post.frame (dst:=o.dst) h hf hd hp;obtain⟨ρ1,h1,h2,h3,h4,h5,h6,h7⟩:=hpf;exact ZNZ hcall l (i+1) hnext (Nat.le_trans hb h5.size) h3 h4 h7 ho fun a' w'' hq=>hQ a' w'' (PostF.cons h1 h2 h5 h6 hq)
   cases ho
  rename_i hw;rw[if_neg hw] at ho;have hf' :RelL w ρ (UX ρ s.h X) s.c (aPut fr o.dst .undef) (a.put o.dst undef).tmps.toList:=ZIY hf o.dst (by simp[Rel,RelL,undef])
  have hd' :(a.put o.dst undef).defers=[]:=by cases o.dst<;> exact hd
  exact ZNZ hcall l (i+1) hnext hb h hf' hd' ho hQ

def ZMA:AExit→Exit
 | .normal=> .normal
 | .exit id=> .exit id
 | .ret=> .ret

def ZQg (P:Program) (base:Nat) (call:FuncId→List AV→St→Option (AV×St)) (prims:Prims):Prop:=
 ∀(ops:Array Oper) (Q:Exit→Act→World→Prop) (id:Nat) {fr fr' :List AV} {s s' :St} {a:Act} {w:World} {ρ:Pl} {X:Reg},ZKM P ops=true→base≤w.heap.size→Sim base ρ X s w→RelL w ρ (UX ρ s.h X) s.c fr a.tmps.toList→a.defers=[]→
  ZHp P call prims ops (Region.before ops) (List.range ops.size) fr s=some (fr',s')→(∀a' w',PostF base ρ X s w fr' s' a' w' →Q .normal a' w')→(Code.region id ops true).wp P Q a w

theorem ZOf (hcall:ZHJ P base call) {prims:Prims} (hdraw:ZQg P base call prims):∀(n:Nat),
  (∀{c:Code} {e:AExit} {fr fr' :List AV} {s s' :St} {a:Act} {w:World} {ρ:Pl} {Q:Exit→Act→World→Prop},base≤w.heap.size→Sim base ρ X s w→RelL w ρ (UX ρ s.h X) s.c fr a.tmps.toList→a.defers=[]→
   ZC3 P call prims n c fr s=some (e,fr',s')→(∀a' w',PostF base ρ X s w fr' s' a' w' →Q (ZMA e) a' w')→c.wp P Q a w)∧
  (∀{c:Code} {e:AExit} {fr fr' :List AV} {s s' :St} {a:Act} {w:World} {ρ:Pl} {Q:Exit→Act→World→Prop},base≤w.heap.size→Sim base ρ X s w→RelL w ρ (UX ρ s.h X) s.c fr a.tmps.toList→a.defers=[]→
   ZC3 P call prims n (.loop c) fr s=some (e,fr',s')→(∀a' w',PostF base ρ X s w fr' s' a' w' →Q (ZMA e) a' w')→Code.rounds P c Q n a w)
 | 0=>⟨fun _ _ _ _ h=>by simp[ZC3] at h,fun _ _ _ _ h=>by simp[ZC3] at h⟩
 | n+1=>by
  obtain⟨ih1,ih2⟩:=ZOf hcall hdraw n;have hloop:∀{c:Code} {e:AExit} {fr fr' :List AV} {s s' :St} {a:Act} {w:World} {ρ:Pl} {Q:Exit→Act→World→Prop},base≤w.heap.size→Sim base ρ X s w→RelL w ρ (UX ρ s.h X) s.c fr a.tmps.toList→a.defers=[]→
    ZC3 P call prims (n+1) (.loop c) fr s=some (e,fr',s')→(∀a' w',PostF base ρ X s w fr' s' a' w' →Q (ZMA e) a' w')→Code.rounds P c Q (n+1) a w:=by
   intro c e fr fr' s s' a w ρ Q hb h hf hd ho hQ;rw[rounds_succ];simp only[ZC3] at ho;split at ho
   ·rename_i fr1 s1 h1;refine ih1 hb h hf hd h1 fun a1 w1 hp=> ?_
    obtain⟨ρ1,g1,g2,g3,g4,g5,g6,g7⟩:=hp;exact ih2 (Nat.le_trans hb g5.size) g3 g4 g7 ho fun a' w' hq=>hQ a' w' (PostF.cons g1 g2 g5 g6 hq)
   rename_i hno;refine ih1 hb h hf hd ho fun a1 w1 hp=> ?_
   cases e with
   | normal=>exact absurd ho (hno _ _)
   | exit id=>exact hQ _ _ hp
   | ret=>exact hQ _ _ hp
  refine⟨?_,hloop⟩
  intro c e fr fr' s s' a w ρ Q hb h hf hd ho hQ
  cases c with
  | skip=>
   simp only[ZC3] at ho;injection ho with ho;injection ho with e1 e2;injection e2 with e2 e3;subst e1;subst e2;subst e3
   exact wp_skip (hQ a w (.refl h hf hd))
  | region id ops draw=>
   cases draw with
   | false=>
    simp only[ZC3,Option.map_eq_some_iff] at ho;obtain⟨⟨fr1,s1⟩,h1,ho⟩:=ho;injection ho with e1 e2;injection e2 with e2 e3;subst e1;subst e2;subst e3
    have:=ZNZ hcall (Q:=Q) ops.toList 0 rfl hb h hf hd h1 hQ
    exact wp_region (by simpa[List.range_eq_range'] using this)
   | true=>
    simp only[ZC3] at ho;split at ho
    ·rename_i hok;simp only[Option.map_eq_some_iff] at ho;obtain⟨⟨fr1,s1⟩,h1,ho⟩:=ho;injection ho with e1 e2;injection e2 with e2 e3;subst e1;subst e2;subst e3
     exact hdraw ops Q id hok hb h hf hd h1 hQ
    cases ho
  | seq x y=>
   simp only[ZC3] at ho;split at ho
   ·rename_i fr1 s1 h1;refine wp_seq (ih1 hb h hf hd h1 fun a1 w1 hp=> ?_)
    obtain⟨ρ1,g1,g2,g3,g4,g5,g6,g7⟩:=hp;exact ih1 (Nat.le_trans hb g5.size) g3 g4 g7 ho fun a' w' hq=>hQ a' w' (PostF.cons g1 g2 g5 g6 hq)
   rename_i hno;refine wp_seq (ih1 hb h hf hd ho fun a1 w1 hp=> ?_)
   cases e with
   | normal=>exact absurd ho (hno _ _)
   | exit id=>exact hQ _ _ hp
   | ret=>exact hQ _ _ hp
  | cond cc x y=>
   simp only[ZC3] at ho;split at ho
   ·rename_i hc;have hr:=ZAW hf hc;simp only[Rel] at hr;exact wp_cond_true hr (ih1 hb h hf hd ho hQ)
   ·rename_i hc;have hr:=ZAW hf hc;simp only[Rel] at hr;exact wp_cond_false hr (ih1 hb h hf hd ho hQ)
   cases ho
  | block id body=>
   simp only[ZC3] at ho;split at ho
   ·rename_i id' fr1 s1 h1;injection ho with ho;injection ho with e1 e2;injection e2 with e2 e3;subst e2;subst e3
    refine wp_block (ih1 hb h hf hd h1 fun a1 w1 hp=> ?_)
    show Exit.inBlock id Q (.exit id') a1 w1
    simp only[Exit.inBlock];split
    ·rename_i hid;rw[if_pos hid] at e1;subst e1;exact hQ _ _ hp
    rename_i hid;rw[if_neg hid] at e1;subst e1;exact hQ _ _ hp
   rename_i hno;refine wp_block (ih1 hb h hf hd ho fun a1 w1 hp=> ?_)
   cases e with
   | normal=>exact hQ _ _ hp
   | exit id' =>exact absurd ho (hno _ _ _)
   | ret=>exact hQ _ _ hp
  | loop body=>exact wp_loop_rounds (n+1) (hloop hb h hf hd ho hQ)
  | scope body=>
   simp only[ZC3] at ho;refine wp_scope_straight (ih1 hb h hf hd ho fun a1 w1 hp=> ?_)
   cases e<;> exact hQ _ _ hp
  | label l=>
   simp only[ZC3] at ho;injection ho with ho;injection ho with e1 e2;injection e2 with e2 e3;subst e1;subst e2;subst e3
   exact wp_label (hQ a w (.refl h hf hd))
  | exit id=>
   simp only[ZC3] at ho;injection ho with ho;injection ho with e1 e2;injection e2 with e2 e3;subst e1;subst e2;subst e3
   exact wp_exit (hQ a w (.refl h hf hd))
  | ret=>
   simp only[ZC3] at ho;injection ho with ho;injection ho with e1 e2;injection e2 with e2 e3;subst e1;subst e2;subst e3
   exact wp_ret (hQ a w (.refl h hf hd))
  | _=>simp[ZC3] at ho

/-! ### Results -/
def rv (tmps:Array Value):ResultVar→Sem Value
 | .tmp t=>pure (tmps.getD t undef)
 | .cell x t=>do loadVar t (←asAddr (tmps.getD x undef))
theorem ZPo (fn:Func) (tmps:Array Value):results fn tmps=(do let vs ←fn.results.mapM (rv tmps);pure (if h:vs.size=1 then vs[0] else .tuple vs)):=by
 unfold results;congr 1
theorem ZGv {fn:Func} {fr:List AV} {a:Act} {v:AV} (h:Sim base ρ X s w) (hf:RelL w ρ (UX ρ s.h X) s.c fr a.tmps.toList) (ho:ZBv P fn fr s=some v):∃v',(results fn a.tmps).run P w= .ok v' w∧Rel w ρ (UX ρ s.h X) s.c v v' :=by
 simp only[ZBv,oC,oB] at ho;obtain⟨vs,hvs,ho⟩:=ho;have key:∀(l:List ResultVar) (vs:List AV),l.mapM (ZEF P fr s)=some vs→∃us,(l.mapM (rv a.tmps)).run P w= .ok us w∧RelL w ρ (UX ρ s.h X) s.c vs us:=by
  intro l;induction l with
  | nil=>intro vs hv;simp at hv;subst hv;exact⟨[],by simp,by simp[RelL]⟩
  | cons r l ih=>
   intro vs hv;simp only[List.mapM_cons,oC,oB,Option.pure_def] at hv;obtain⟨x,hx,xs,hxs,hv⟩:=hv;injection hv with hv;subst hv
   obtain⟨us,h1,h2⟩:=ih xs hxs;rw[List.mapM_cons]
   cases r with
   | tmp t=>
    simp only[ZEF] at hx;injection hx with hx;subst hx
    refine⟨a.tmps.getD t undef::us,by simp only[rv,Sem.run_bind,Sem.run_pure,Result.andThen_ok,h1],?_⟩
    simp only[RelL];exact⟨_,_,rfl,by simpa using hf.getD t,h2⟩
   | cell y t=>
    simp only[ZEF] at hx;have hr:=hf.getD y;obtain⟨v',g1,g2⟩:=ZKO h hr hx;have hp:∃A,a.tmps.toList.getD y undef= .pointer (some A):=by
     unfold ZEy at hx;split at hx
     ·rename_i he;rw[he] at hr;simp only[Rel] at hr;exact⟨_,hr.2⟩
     ·rename_i he;rw[he] at hr;simp only[Rel] at hr;obtain⟨_,_,A,hA,_⟩:=hr;exact⟨_,hA⟩
     ·rename_i he;rw[he] at hr;simp only[Rel] at hr;exact⟨_,hr⟩
     cases hx
    obtain⟨A,hA⟩:=hp;rw[hA] at g1;have hA' :a.tmps.getD y undef= .pointer (some A):=by simpa using hA
    simp only[Instr.loadAt,Instr.sureAddr,Sem.run_bind,Sem.run_pure,Result.andThen_ok] at g1;refine⟨v' ::us,by simp only[rv,Sem.run_bind,hA',asAddr,Sem.run_pure,Result.andThen_ok,g1,h1],?_⟩
    simp only[RelL];exact⟨_,_,rfl,g2,h2⟩
 obtain⟨us,h1,h2⟩:=key _ _ hvs;have hrun:(fn.results.mapM (rv a.tmps)).run P w= .ok us.toArray w:=by
  rw[Array.mapM_eq_mapM_toList,Sem.run_map,h1];rfl
 rw[ZPo];split at ho
 ·rename_i x;injection ho with ho;subst ho
  simp only[RelL] at h2;obtain⟨u,us',rfl,hr,rfl⟩:=h2;refine⟨u,?_,hr⟩
  simp only[Sem.run_bind,hrun,Result.andThen_ok,Sem.run_pure];rfl
 rename_i hno;injection ho with ho;subst ho
 have hl:=h2.length;refine⟨.tuple us.toArray,?_,by simp only[Rel];exact⟨us,rfl,h2⟩⟩
 have hne:¬us.toArray.size=1:=by
  intro e;simp at e
  rw[hl] at e;obtain⟨x,rfl⟩:=List.length_eq_one_iff.1 e;exact hno x rfl
 simp only[Sem.run_bind,hrun,Result.andThen_ok,Sem.run_pure,dif_neg hne]

/-! ### Slices of memory that becomes a row -/
theorem ZKn (c0:Nat):∀(l:List Nat) {s:St},Sim base ρ X s w→Sim base ρ X (l.foldl St.del s) w∧(l.foldl St.del s).c=s.c∧(∀n o,hget (l.foldl St.del s).h n=some o→n ∉ l∧hget s.h n=some o)
 | [],s,h=>⟨h,rfl,fun n o hn=>⟨by simp,hn⟩⟩
 | m::l,s,h=>by
  obtain⟨h1,h2,h3⟩:=ZKn c0 l (h.del m);refine⟨h1,h2,fun n o hn=> ?_⟩
  obtain⟨g1,g2⟩:=h3 n o hn;obtain⟨g3,g4⟩:=ZBk g2;exact⟨by simp[g1,g3],g4⟩
theorem ZFN {c0:Nat} {v u:AV} {v' :Value} {s' :St} (h:Sim base ρ X s w) (hr:Rel w ρ (UX ρ s.h X) s.c v v') (hu:ZDj c0 s v=some u) (hc:s'.c=s.c) (hs:∀n o,hget s'.h n=some o→n ∉ ZA8 c0 v∧hget s.h n=some o):
  Rel w ρ (UX ρ s'.h X) s'.c u v' :=by
 have hU:∀b j,UX ρ s'.h X b j→UX ρ s.h X b j:=by
  rintro b j (⟨n,o,hn,hrest⟩ | hx)
  ·exact .inl ⟨n,o,(hs n o hn).2,hrest⟩
  exact .inr hx
 have m:Mono w ρ (UX ρ s.h X) s.c w ρ (UX ρ s'.h X) s'.c:=⟨by rw[hc];exact Nat.le_refl _,fun _ _=>rfl,fun a u hu _=>hu,fun a ha=>ha,fun b j _ hj=>hU b j hj⟩
 unfold ZDj at hu;split at hu
 ·rename_i k n off len cap;split at hu
  ·injection hu with hu;subst hu
   exact Rel.mono m _ _ hr
  rename_i hn;split at hu
  ·cases hu
  rename_i hlc;simp only[Option.map_eq_some_iff] at hu;obtain⟨⟨k',xs⟩,he,rfl⟩:=hu;have hr0:=hr;obtain⟨A,cap',cs,e0,g1,g2⟩:=ZE2 h hr0 he;simp only[Rel] at hr;obtain⟨h1,rfl⟩:=hr;injection e0 with e0 e1 e2
  injection e0 with e0
  subst e0;subst e2;obtain⟨o,ho⟩:∃o,hget s.h n=some o:=by
   simp only[elems] at he;split at he
   ·exact⟨_,‹_›⟩
   cases he
  have hkk:k' =k:=by
   simp only[elems] at he;split at he
   ·split at he
    ·injection he with he;injection he with e1 e2;exact e1.symm
    cases he
   cases he
  subst hkk;simp only[Rel];refine⟨⟨(ρ n).1,off,none⟩,cap,cs,by rw[e1],by omega,RelC.mono m k' _ _ g1,fun j u hj=>⟨g2 j u hj,?_⟩,?_⟩
  ·rintro(⟨q,o',hq,hqb,_⟩ | hx)
   ·obtain⟨k1,k2⟩:=hs q o' hq;by_cases e:q=n
    ·subst e;simp[ZA8,hn] at k1
    exact h.inj q n o' o k2 ho e hqb
   exact h.apart n o ho _ hx
  split
  ·simp only[CapOk];omega
  trivial
 injection hu with hu;subst hu
 exact Rel.mono m _ _ hr
theorem ZGw {c0:Nat}:∀{vs us:List AV} {vs' :List Value} {s' :St},Sim base ρ X s w→RelL w ρ (UX ρ s.h X) s.c vs vs' →vs.mapM (ZDj c0 s)=some us→s'.c=s.c→(∀n o,hget s'.h n=some o→n ∉ vs.flatMap (ZA8 c0)∧hget s.h n=some o)→RelL w ρ (UX ρ s'.h X) s'.c us vs'
 | [],us,vs',s',h,hr,hu,hc,hs=>by
  simp at hu;subst hu;simpa[RelL] using hr
 | v::vs,us,vs',s',h,hr,hu,hc,hs=>by
  simp only[List.mapM_cons,oC,oB,Option.pure_def] at hu;obtain⟨x,hx,xs,hxs,hu⟩:=hu;injection hu with hu;subst hu
  simp only[RelL] at hr ⊢;obtain⟨u,us',rfl,h1,h2⟩:=hr;exact⟨u,us',rfl,ZFN h h1 hx hc (fun n o hn=>⟨fun hm=>(hs n o hn).1 (by simp[hm]),(hs n o hn).2⟩),ZGw h h2 hxs hc (fun n o hn=>⟨fun hm=>(hs n o hn).1 (by
   rw[List.flatMap_cons];exact List.mem_append_right _ hm),(hs n o hn).2⟩)⟩
theorem ZHL {c0:Nat} {v u:AV} {v' :Value} (h:Sim base ρ X s w) (hr:Rel w ρ (UX ρ s.h X) s.c v v') (hu:ZDT c0 v s=some (u,s')):Sim base ρ X s' w∧s'.c=s.c∧Rel w ρ (UX ρ s'.h X) s'.c u v' ∧(∀b j,Umap ρ s'.h b j→Umap ρ s.h b j):=by
 unfold ZDT at hu;split at hu
 ·rename_i vs;simp only[oC,oB] at hu;obtain⟨us,hus,hu⟩:=hu;injection hu with hu;injection hu with e1 e2;subst e1;subst e2
  obtain⟨h1,h2,h3⟩:=ZKn c0 (vs.flatMap (ZA8 c0)) h;simp only[Rel] at hr ⊢;obtain⟨ws,rfl,hl⟩:=hr;exact⟨h1,h2,⟨ws,rfl,ZGw h hl hus h2 h3⟩,fun b j ⟨n,o,hn,hrest⟩=>⟨n,o,(h3 n o hn).2,hrest⟩⟩
 ·rename_i vs;simp only[oC,oB] at hu;obtain⟨us,hus,hu⟩:=hu;injection hu with hu;injection hu with e1 e2;subst e1;subst e2
  obtain⟨h1,h2,h3⟩:=ZKn c0 (vs.flatMap (ZA8 c0)) h;simp only[Rel] at hr ⊢;obtain⟨ws,rfl,hl⟩:=hr;exact⟨h1,h2,⟨ws,rfl,ZGw h hl hus h2 h3⟩,fun b j ⟨n,o,hn,hrest⟩=>⟨n,o,(h3 n o hn).2,hrest⟩⟩
 simp only[oC,oB] at hu;obtain⟨u',hu',hu⟩:=hu;injection hu with hu;injection hu with e1 e2;subst e1;subst e2
 obtain⟨h1,h2,h3⟩:=ZKn c0 (ZA8 c0 v) h;exact⟨h1,h2,ZFN h hr hu' h2 h3,fun b j ⟨n,o,hn,hrest⟩=>⟨n,o,(h3 n o hn).2,hrest⟩⟩
end
end Go.Ai
end
section
namespace Go.Ai
section
variable {P:Program} {base:Nat} {ρ ρ' :Pl} {X U U' :Reg} {c c' :Nat} {s s' :St} {w w' :World}

/-! ### Values without names -/
mutual
theorem Rel.pure (hU:∀b j,U' b j→U b j):∀(x:AV) (v:Value),ZB6 x=true→Rel w ρ U c x v→Rel w ρ' U' c' x v
 | .int _ _,_,_,h=>h
 | .bool _,_,_,h=>h
 | .str _,_,_,h=>h
 | .nilp,_,_,h=>h
 | .ptr _ _,_,hp,_=>by simp[ZB6] at hp
 | .rptr k xs i off,v,hp,h=>by
  simp only[ZB6] at hp;simp only[Rel] at h ⊢;obtain⟨h1,h2,a,h3,cs,h4,h5⟩:=h;exact⟨h1,h2,a,h3,cs,RelC.pure hU k xs cs hp h4,fun j u hj=>⟨(h5 j u hj).1,fun hu=>(h5 j u hj).2 (hU _ _ hu)⟩⟩
 | .nils,_,_,h=>h
 | .emp _,_,_,h=>h
 | .gptr _ _,_,_,h=>h
 | .vec k xs cp,v,hp,h=>by
  simp only[ZB6,Bool.and_eq_true] at hp;simp only[Rel] at h ⊢;obtain⟨a,cap,cs,h1,h2,h3,h4,h5⟩:=h;refine⟨a,cap,cs,h1,h2,RelC.pure hU k xs cs hp.2 h3,fun j u hj=>⟨(h4 j u hj).1,fun hu=>(h4 j u hj).2 (hU _ _ hu)⟩,?_⟩
  cases cp with
  | tight=>exact h5
  | unk=>trivial
  | tok t=>simp at hp
 | .hs _ _ _ _ _,_,hp,_=>by simp[ZB6] at hp
 | .agg xs,v,hp,h=>by
  simp only[ZB6] at hp;simp only[Rel] at h ⊢;obtain⟨vs,h1,h2⟩:=h;exact⟨vs,h1,RelL.pure hU xs vs hp h2⟩
 | .tup xs,v,hp,h=>by
  simp only[ZB6] at hp;simp only[Rel] at h ⊢;obtain⟨vs,h1,h2⟩:=h;exact⟨vs,h1,RelL.pure hU xs vs hp h2⟩
 | .ifc t x,v,hp,h=>by
  simp only[ZB6] at hp;simp only[Rel] at h ⊢;obtain⟨u,h1,h2⟩:=h;exact⟨u,h1,Rel.pure hU x u hp h2⟩
 | .nifc,_,_,h=>h
 | .fn f xs ys,v,hp,h=>by
  simp only[ZB6,Bool.and_eq_true] at hp;simp only[Rel] at h ⊢;obtain⟨us,vs,h1,h2,h3⟩:=h;exact⟨us,vs,h1,RelL.pure hU xs us hp.1 h2,RelL.pure hU ys vs hp.2 h3⟩
 | .nilfn,_,_,h=>h
 | .mp _,_,hp,_=>by simp[ZB6] at hp
 | .nilmp,_,_,h=>h
theorem RelL.pure (hU:∀b j,U' b j→U b j):∀(xs:List AV) (vs:List Value),ZCR xs=true→RelL w ρ U c xs vs→RelL w ρ' U' c' xs vs
 | [],_,_,h=>h
 | x::xs,vs,hp,h=>by
  simp only[ZCR,Bool.and_eq_true] at hp;simp only[RelL] at h ⊢;obtain⟨v,us,h1,h2,h3⟩:=h;exact⟨v,us,h1,Rel.pure hU x v hp.1 h2,RelL.pure hU xs us hp.2 h3⟩
theorem RelC.pure (hU:∀b j,U' b j→U b j) (k:Nat):∀(xs:List AV) (cs:List Value),ZCR xs=true→RelC w ρ U c k xs cs→RelC w ρ' U' c' k xs cs
 | [],_,_,h=>h
 | x::xs,cs,hp,h=>by
  simp only[ZCR,Bool.and_eq_true] at hp;simp only[RelC] at h ⊢;obtain⟨v,us,h1,h2,h3,h4⟩:=h;exact⟨v,us,h1,h2,Rel.pure hU x v hp.1 h3,RelC.pure hU k xs us hp.2 h4⟩
end
theorem ZGx:∀x:AV,(ZAv x).cells=ZA9 x.cells∧(ZAv x).one=x.one:=by
 intro x
 cases x
 case vec k xs c=>cases xs<;> simp[ZAv,AV.cells,AV.one,ZA9]
 all_goals simp[ZAv,AV.cells,AV.one,ZA9]
theorem ZFu:∀xs:List AV,(ZA9 xs).length=xs.length
 | []=>rfl
 | x::xs=>by simp[ZA9,ZFu xs]
theorem ZIz:∀{xs:List AV} {y:AV},y∈ZA9 xs→∃x∈xs,y=ZAv x
 | [],y,h=>by simp[ZA9] at h
 | x::xs,y,h=>by
  simp only[ZA9,List.mem_cons] at h;rcases h with rfl | h
  ·exact⟨x,by simp,rfl⟩
  obtain⟨z,hz,e⟩:=ZIz h;exact⟨z,by simp[hz],e⟩
theorem ZSc {k:Nat} {x:AV} (h:ZA4 k x):ZA4 k (ZAv x):=by
 obtain⟨h1,h2,h3,h4⟩:=h;obtain⟨e1,e2⟩:=ZGx x;refine⟨by rw[e1,ZFu];exact h1,fun y hy=> ?_,fun hk=>by rw[e2];exact h3 hk,fun hk=>by rw[e2];exact h4 hk⟩
 rw[e1] at hy;obtain⟨z,hz,rfl⟩:=ZIz hy;rw[(ZGx z).2];exact h2 z hz
mutual
theorem ZE5:∀(x:AV) (v:Value),Rel w ρ U c x v→Rel w ρ U c (ZAv x) v
 | .int _ _,_,h=>h
 | .bool _,_,h=>h
 | .str _,_,h=>h
 | .nilp,_,h=>h
 | .ptr _ _,_,h=>h
 | .rptr k xs i off,v,h=>by
  simp only[ZAv,Rel] at h ⊢;obtain⟨h1,h2,a,h3,cs,h4,h5⟩:=h;exact⟨by rw[ZFu];exact h1,h2,a,h3,cs,ZHv k xs cs h4,h5⟩
 | .nils,_,h=>by
  simp only[ZAv,Rel] at h ⊢;exact⟨none,0,h,fun _=>rfl,fun _=>rfl⟩
 | .emp z,_,h=>by
  simp only[ZAv,Rel] at h ⊢;obtain⟨a,cap,h1,h2,h3⟩:=h;refine⟨a,cap,h1,h2,?_⟩
  intro e;cases e
 | .gptr _ _,_,h=>h
 | .vec k [] cp,v,h=>by
  simp only[Rel] at h;obtain⟨a,cap,cs,h1,h2,h3,h4,h5⟩:=h;simp only[ZAv,List.isEmpty_nil,if_true,Rel];refine⟨some a,cap,h1,?_,?_⟩<;> (intro e;cases e)
 | .vec k (y::ys) cp,v,h=>by
  simp only[Rel] at h;obtain⟨a,cap,cs,h1,h2,h3,h4,h5⟩:=h;simp only[ZAv,List.isEmpty_cons,Bool.false_eq_true,if_false,Rel];rw[ZFu];exact⟨a,cap,cs,h1,h2,ZHv k (y::ys) cs h3,h4,trivial⟩
 | .hs _ _ _ _ _,_,h=>h
 | .agg xs,v,h=>by
  simp only[ZAv,Rel] at h ⊢;obtain⟨vs,h1,h2⟩:=h;exact⟨vs,h1,ZD7 xs vs h2⟩
 | .tup xs,v,h=>by
  simp only[ZAv,Rel] at h ⊢;obtain⟨vs,h1,h2⟩:=h;exact⟨vs,h1,ZD7 xs vs h2⟩
 | .ifc t x,v,h=>by
  simp only[ZAv,Rel] at h ⊢;obtain⟨u,h1,h2⟩:=h;exact⟨u,h1,ZE5 x u h2⟩
 | .nifc,_,h=>h
 | .fn f xs ys,v,h=>by
  simp only[ZAv,Rel] at h ⊢;obtain⟨us,vs,h1,h2,h3⟩:=h;exact⟨us,vs,h1,ZD7 xs us h2,ZD7 ys vs h3⟩
 | .nilfn,_,h=>h
 | .mp _,_,h=>h
 | .nilmp,_,h=>h
theorem ZD7:∀(xs:List AV) (vs:List Value),RelL w ρ U c xs vs→RelL w ρ U c (ZA9 xs) vs
 | [],_,h=>h
 | x::xs,vs,h=>by
  simp only[ZA9,RelL] at h ⊢;obtain⟨v,us,h1,h2,h3⟩:=h;exact⟨v,us,h1,ZE5 x v h2,ZD7 xs us h3⟩
theorem ZHv (k:Nat):∀(xs:List AV) (cs:List Value),RelC w ρ U c k xs cs→RelC w ρ U c k (ZA9 xs) cs
 | [],_,h=>h
 | x::xs,cs,h=>by
  simp only[ZA9,RelC] at h ⊢;obtain⟨v,us,h1,h2,h3,h4⟩:=h;exact⟨v,us,h1,ZSc h2,ZE5 x v h3,ZHv k xs us h4⟩
end
theorem ZOg {x:AV} {v:Value} (hf:flat x=true) (h:Rel w ρ U c x v):Rel w' ρ' U' c' x v:=by
 cases x<;> simp[flat] at hf<;> exact h
theorem ZI0:∀{xs:List AV} {vs:List Value},xs.all flat=true→RelL w ρ U c xs vs→RelL w' ρ' U' c' xs vs
 | [],_,_,h=>h
 | x::xs,vs,hp,h=>by
  simp only[List.all_cons,Bool.and_eq_true] at hp;simp only[RelL] at h ⊢;obtain⟨v,us,h1,h2,h3⟩:=h;exact⟨v,us,h1,ZOg hp.1 h2,ZI0 hp.2 h3⟩
theorem ZMB {x:AV} {v:Value} (hf:ZQR x=true) (h:Rel w ρ U c x v):Rel w' ρ' U' c' x v:=by
 unfold ZQR at hf;split at hf
 ·simp only[Rel] at h ⊢;obtain⟨vs,h1,h2⟩:=h;exact⟨vs,h1,ZI0 hf h2⟩
 ·simp only[Rel] at h ⊢;obtain⟨vs,h1,h2⟩:=h;exact⟨vs,h1,ZI0 hf h2⟩
 exact ZOg hf h

def ρ0:Pl:=fun _=>(0,0)
def ZFv:Reg:=fun _ _=>False

def ZAq (P:Program) (f:FuncId) (F:Glob→List AV→Option AV):Prop:=
 (∃fn,P.funcs[f]? =some fn∧ZCn fn=true)∧
 ∀G args r,F G args=some r→∀(w:World) (U:Reg) (vs:List Value),(∀b j,U b j→b<w.heap.size)→GlobOk w ρ0 U 0 G→RelL w ρ0 U 0 args vs→
  Calls P f vs.toArray w fun e w' =>∃v',e= .returned v' ∧Rel w' ρ0 U 0 r v' ∧RowKit.Below w.heap.size w w'

theorem ZSd {v u:AV} {v' :Value} {b:Bool} (h:Sim base ρ X s w) (hr:Rel w ρ (UX ρ s.h X) s.c v v') (hv:view s v=some (u,b)) (hU:∀x y,U x y→b=false∧UX ρ s.h X x y):Rel w ρ0 U 0 u v' :=by
 have hsub:∀x y,U x y→UX ρ s.h X x y:=fun x y hxy=>(hU x y hxy).2
 unfold view at hv;split at hv
 ·rename_i k n off len cap;split at hv
  ·rename_i k' xs he;split at hv
   ·rename_i hp;simp only[Bool.and_eq_true,decide_eq_true_eq] at hp;injection hv with hv;injection hv with e1 e2;subst e1;subst e2
    obtain⟨A,cap',cs,e0,g1,g2⟩:=ZE2 h hr he;have hkk:k' =k:=by
     simp only[elems] at he;split at he
     ·split at he
      ·injection he with he;injection he with e1 e2;exact e1.symm
      cases he
     cases he
    subst hkk;simp only[Rel] at hr;obtain⟨h1,rfl⟩:=hr;injection e0 with e0 e1 e2
    subst e2;refine Rel.pure (ρ:=ρ) (c:=s.c) (U:=U) (fun _ _ hu=>hu) _ _ hp.1 (ZE5 _ _ ?_)
    simp only[Rel];refine⟨A,cap,cs,by rw[e0,e1],by omega,RelC.mono ⟨Nat.le_refl _,fun _ _=>rfl,fun a u hu _=>hu,fun a ha=>ha,fun x y _ hxy=>hsub x y hxy⟩ _ _ _ g1,fun j u hj=>⟨g2 j u hj,fun hu=>by have:=(hU _ _ hu).1;cases this⟩,trivial⟩
   cases hv
  cases hv
 ·rename_i n off;split at hv
  ·rename_i cs hg;split at hv
   ·rename_i hp;simp only[Bool.and_eq_true,decide_eq_true_eq] at hp;injection hv with hv;injection hv with e1 e2;subst e1;subst e2
    simp only[Rel] at hr;obtain⟨h1,rfl⟩:=hr;obtain⟨C,e,fz,g1,g2,g3,g4⟩:=h.obj n _ hg;have hk:esz cs.length=cs.length:=by unfold esz;rw[if_neg (by omega)]
    simp only[Rel,List.length_cons,List.length_nil];refine⟨by omega,by rw[hk];exact hp.1,⟨(ρ n).1,0,none⟩,?_,C.toList,?_,fun j u hj=>⟨?_,fun hu=>by have:=(hU _ _ hu).1;cases this⟩⟩
    ·rw[ZBf];simp
    ·simp only[RelC];refine⟨.agg C,[],by simp[Value.cells],⟨by rw[hk];exact ZFu cs,fun y hy=>by obtain⟨z,hz,rfl⟩:=ZIz (show y∈ZA9 cs from hy);rw[(ZGx z).2];exact g4 z hz,fun e=>by omega,fun _=>rfl⟩,?_,rfl⟩
     simp only[Rel];exact⟨C.toList,by simp,RelL.pure hsub _ _ hp.2 (ZD7 _ _ g3)⟩
    rw[ZBf,Nat.zero_add,ZFM g1];simpa using hj
   cases hv
  cases hv
 split at hv
 ·rename_i hp;injection hv with hv;injection hv with e1 e2;subst e1;subst e2
  exact Rel.pure hsub _ _ hp (ZE5 _ _ hr)
 cases hv
theorem ZFw:∀{vs:List AV} {us:List (AV×Bool)} {vs' :List Value},Sim base ρ X s w→RelL w ρ (UX ρ s.h X) s.c vs vs' →vs.mapM (view s)=some us→(∀x y,U x y→us.any (·.2)=false∧UX ρ s.h X x y)→RelL w ρ0 U 0 (us.map (·.1)) vs'
 | [],us,vs',h,hr,hu,hU=>by simp at hu;subst hu;simpa[RelL] using hr
 | v::vs,us,vs',h,hr,hu,hU=>by
  simp only[List.mapM_cons,oC,oB,Option.pure_def] at hu;obtain⟨x,hx,xs,hxs,hu⟩:=hu;injection hu with hu;subst hu
  simp only[List.map_cons,RelL] at hr ⊢;obtain⟨u,us',rfl,h1,h2⟩:=hr;have hU' :∀a b,U a b→(x.2=false∧xs.any (·.2)=false)∧UX ρ s.h X a b:=fun a b hab=>by
   have:=hU a b hab
   simpa using this
  exact⟨u,us',rfl,ZSd (u:=x.1) (b:=x.2) h h1 hx (fun a b hab=>⟨(hU' a b hab).1.1,(hU' a b hab).2⟩),ZFw h h2 hxs (fun a b hab=>⟨(hU' a b hab).1.2,(hU' a b hab).2⟩)⟩

theorem ZPp {f:FuncId} {F:Glob→List AV→Option AV} (hF:ZAq P f F) {args:List AV} {v:AV} {vs:List Value} (h:Sim base ρ X s w) (hr:RelL w ρ (UX ρ s.h X) s.c args vs) (hc:ZBc F args s=some (v,s')):
  Calls P f vs.toArray w fun e w' =>∃v',e= .returned v' ∧Post base ρ X s w v s' v' w' :=by
 simp only[ZBc,oC,oB] at hc;obtain⟨us,hus,r,hr',hc⟩:=hc;split at hc
 ·cases hc
 rename_i hno;injection hc with hc;injection hc with e1 e2;subst e1;subst e2
 have hold:∀b j,UX ρ s.h X b j→b<w.heap.size:=by
  rintro b j (⟨n,o,hn,hnb,_⟩ | hx)
  ·rw[←hnb];exact h.blk_lt hn
  exact h.old b j hx
 cases hany:us.any (·.2) with
 | false=>
  have hv:=ZFw (U:=UX ρ s.h X) h hr hus (fun x y hxy=>⟨hany,hxy⟩)
  have hG:GlobOk w ρ0 (UX ρ s.h X) 0 s.g:=fun g cs hg=>by
   obtain⟨g1,ws,g2,g3⟩:=h.glob g cs hg;exact⟨g1,ws,RelL.pure (fun _ _ hj=>hj) _ _ g1 g2,g3⟩
  refine(hF.2 _ _ r hr' w (UX ρ s.h X) vs hold hG hv).mono fun e w' he=> ?_
  obtain⟨v',rfl,hr2,hb⟩:=he;refine⟨v',rfl,Post.grow h hb.os hb.tape hb.output hb.size (fun b hb' =>hb.block b hb') ?_⟩
  exact Rel.mono ⟨Nat.zero_le _,fun n hn=>absurd hn (Nat.not_lt_zero _),fun a u hu _=>hu,fun a ha=>ha,fun _ _ _ hj=>hj⟩ _ _ hr2
 | true=>
  have hs:ZQR r=true:=by simpa[hany] using hno
  have hv:=ZFw (U:=ZFv) h hr hus (fun x y hxy=>hxy.elim)
  have hG:GlobOk w ρ0 ZFv 0 s.g:=fun g cs hg=>by
   obtain⟨g1,ws,g2,g3⟩:=h.glob g cs hg;exact⟨g1,ws,RelL.pure (fun _ _ hj=>hj.elim) _ _ g1 g2,fun j u hj=>⟨(g3 j u hj).1,fun hj=>hj.elim⟩⟩
  refine(hF.2 _ _ r hr' w ZFv vs (fun b j hj=>hj.elim) hG hv).mono fun e w' he=> ?_
  obtain⟨v',rfl,hr2,hb⟩:=he;exact⟨v',rfl,Post.grow h hb.os hb.tape hb.output hb.size (fun b hb' =>hb.block b hb') (ZMB hs hr2)⟩

def ZAX (P:Program) (prims:Prims):Prop:=∀f F,prims f=some F→ZAq P f F

theorem ZGW:∀n,RelL w ρ U c (List.replicate n AV.undef) (List.replicate n undef)
 | 0=>by simp[RelL]
 | n+1=>by
  rw[List.replicate_succ,List.replicate_succ];simp only[RelL];exact⟨undef,_,rfl,by simp[Rel,RelL,undef],ZGW n⟩

theorem ZOh {prims:Prims} (hp:ZAX P prims) (hdraw:∀n,ZHJ P base (ZEm P prims n)→ZQg P base (ZEm P prims n) prims):∀n,ZHJ P base (ZEm P prims n)
 | 0=>fun f args s v s' h=>by simp[ZEm] at h
 | n+1=>by
  intro f args s v s' h;have ih:=ZOh hp hdraw n;simp only[ZEm] at h;split at h
  ·cases h
  rename_i fn hfn;split at h
  ·rename_i hen;refine⟨⟨fn,hfn,hen⟩,fun ρ X w vs hb hs hr=> ?_⟩
   split at h
   ·rename_i F hF;exact ZPp (hp f F hF) hs hr h
   split at h
   ·cases h
   rename_i c hbody;have hfr:RelL w ρ (UX ρ s.h X) s.c (args++List.replicate (fn.ntmps - args.length) .undef) (vs.toArray++Array.replicate (fn.ntmps - vs.toArray.size) undef).toList:=by
    have hl:=hr.length;simp only[Array.toList_append,Array.toList_replicate,List.size_toArray];rw[hl];exact hr.append (ZGW _)
   have key:∀(e:AExit) (fr' :List AV) (s1:St),ZC3 P (ZEm P prims n) prims n c (args++List.replicate (fn.ntmps - args.length) .undef) s=some (e,fr',s1)→(e= .normal∨e= .ret)→
     (∃r,ZBv P fn fr' s1=some r∧ZDT s.c r s1=some (v,s'))→Calls P f vs.toArray w fun e w' =>∃v',e= .returned v' ∧Post base ρ X s w v s' v' w' :=by
    rintro e fr' s1 hc he ⟨r,hres,hfz⟩;refine calls_of_wp hfn hbody ((ZOf ih (hdraw n ih) n).1 hb hs hfr rfl hc fun a' w' hpf=> ?_)
    obtain⟨ρ1,g1,g2,g3,g4,g5,g6,g7⟩:=hpf;obtain⟨v',h1,h2⟩:=ZGv g3 g4 hres;obtain⟨k1,k2,k3,k4⟩:=ZHL g3 h2 hfz;have fin:bodyPost P fn (fun e w' =>∃v',e= .returned v' ∧Post base ρ X s w v s' v' w') .ret a' w' :=
     ⟨g7,v',h1,v',rfl,ρ1,g1,by rw[k2];exact g2,k1,k3,g5,fun b j hb' hj=>g6 b j hb' (k4 b j hj)⟩
    rcases he with rfl | rfl<;> exact fin
   split at h
   ·rename_i fr' s1 hc;simp only[oC,oB] at h;exact key _ _ _ hc (.inl rfl) h
   ·rename_i fr' s1 hc;simp only[oC,oB] at h;exact key _ _ _ hc (.inr rfl) h
   cases h
  cases h
end
end Go.Ai
end
section
namespace Go.Ai

/-! ### What must come before -/
theorem ZMC (acc:Array Nat) (j:Nat):∀(l:List Edge) (s0:Nat),(l.foldl (fun s e=>if Region.binds .any e then s ||| 2 ^ e.on ||| acc.getD e.on 0 else s) s0).testBit j=true↔
  s0.testBit j=true∨∃e∈l,Region.binds .any e=true∧(j=e.on∨(acc.getD e.on 0).testBit j=true)
 | [],s0=>by simp
 | e::l,s0=>by
  rw[List.foldl_cons,ZMC acc j l];by_cases hb:Region.binds .any e=true
  ·rw[if_pos hb,Nat.testBit_or,Nat.testBit_or,Nat.testBit_two_pow];constructor
   ·rintro(h | ⟨e',h1,h2⟩)
    ·simp only[Bool.or_eq_true,decide_eq_true_eq] at h;rcases h with(h | h) | h
     ·exact .inl h
     ·exact .inr ⟨e,by simp,hb, .inl h.symm⟩
     exact .inr ⟨e,by simp,hb, .inr h⟩
    exact .inr ⟨e',by simp[h1],h2⟩
   rintro(h | ⟨e',h1,h2,h3⟩)
   ·left;simp[h]
   rcases List.mem_cons.1 h1 with rfl | h1
   ·left
    rcases h3 with h3 | h3
    ·simp[h3]
    rw[h3];simp
   exact .inr ⟨e',h1,h2,h3⟩
  rw[if_neg hb];constructor
  ·rintro(h | ⟨e',h1,h2⟩)
   ·exact .inl h
   exact .inr ⟨e',by simp[h1],h2⟩
  rintro(h | ⟨e',h1,h2,h3⟩)
  ·exact .inl h
  rcases List.mem_cons.1 h1 with rfl | h1
  ·exact absurd h2 hb
  exact .inr ⟨e',h1,h2,h3⟩
def ZFx (acc:Array Nat) (o:Oper):Array Nat:=acc.push (o.after.foldl (fun s e=>if Region.binds .any e then s ||| 2 ^ e.on ||| acc.getD e.on 0 else s) 0)
theorem ZHw:∀(l:List Oper) (acc:Array Nat),(l.foldl ZFx acc).size=acc.size+l.length
 | [],acc=>by simp
 | o::l,acc=>by rw[List.foldl_cons,ZHw l];simp[ZFx];omega
theorem ZI1:∀(l:List Oper) (acc:Array Nat) (k:Nat),k<acc.size→(l.foldl ZFx acc).getD k 0=acc.getD k 0
 | [],acc,k,h=>rfl
 | o::l,acc,k,h=>by
  rw[List.foldl_cons,ZI1 l _ k (by simp[ZFx];omega)]
  simp only[ZFx,Array.getD_eq_getD_getElem?];rw[Array.getElem?_push,if_neg (by omega)]
theorem ZI2 (ops:Array Oper):Region.before ops=ops.toList.foldl ZFx #[]:=by
 unfold Region.before;rw[←Array.foldl_toList];rfl
theorem ZGy {ops:Array Oper} {i:Nat} {o:Oper} (ho:ops[i]? =some o) (hlt:∀e∈o.after,Region.binds .any e=true→e.on<i) (j:Nat):
  ((Region.before ops).getD i 0).testBit j=true↔∃e∈o.after,Region.binds .any e=true∧(j=e.on∨((Region.before ops).getD e.on 0).testBit j=true):=by
 have hi:i<ops.toList.length:=by simpa using(Array.getElem?_eq_some_iff.1 ho).1
 have hsplit:ops.toList=ops.toList.take i++o::ops.toList.drop (i+1):=by
  have e:ops.toList[i]=o:=by
   have:=(Array.getElem?_eq_some_iff.1 ho).2
   simpa using this
  rw[←e,←List.drop_eq_getElem_cons hi,List.take_append_drop]
 have hsz:((ops.toList.take i).foldl ZFx #[]).size=i:=by
  have:i<ops.size:=by simpa using hi
  rw[ZHw];simp;omega
 have h1:(Region.before ops).getD i 0=(ZFx ((ops.toList.take i).foldl ZFx #[]) o).getD i 0:=by
  rw[ZI2,hsplit,List.foldl_append,List.foldl_cons,ZI1 _ _ i (by simp[ZFx,hsz])]
  rw[←hsplit]
 have h2:∀k,k<i→(Region.before ops).getD k 0=((ops.toList.take i).foldl ZFx #[]).getD k 0:=fun k hk=>by
  rw[ZI2,hsplit,List.foldl_append,List.foldl_cons,ZI1 _ _ k (by simp[ZFx,hsz];omega),←hsplit]
  simp only[ZFx,Array.getD_eq_getD_getElem?];rw[Array.getElem?_push,if_neg (by rw[hsz];omega)]
 rw[h1];have h3:(ZFx ((ops.toList.take i).foldl ZFx #[]) o).getD i 0=(o.after.toList.foldl (fun s e=>if Region.binds .any e then s ||| 2 ^ e.on ||| ((ops.toList.take i).foldl ZFx #[]).getD e.on 0 else s) 0):=by
  simp only[ZFx,Array.getD_eq_getD_getElem?];rw[Array.getElem?_push,if_pos hsz.symm];simp only[Option.getD_some];rw[←Array.foldl_toList]
 rw[h3,ZMC];simp only[Nat.zero_testBit,Bool.false_eq_true,false_or];constructor
 ·rintro⟨e,he,hb,h⟩;refine⟨e,by simpa using he,hb,?_⟩
  rw[h2 _ (hlt e (by simpa using he) hb)];exact h
 rintro⟨e,he,hb,h⟩;refine⟨e,by simpa using he,hb,?_⟩
 rw[←h2 _ (hlt e he hb)];exact h

/-! ### An operation looks at the frame by its operands alone -/
section
variable {P:Program} {call:FuncId→List AV→St→Option (AV×St)}
theorem ZNa {fr fr' :List AV} {x:Operand} (h:∀t,x= .tmp t→fr.getD t .undef=fr'.getD t .undef):ZAp fr x=ZAp fr' x:=by
 cases x with
 | tmp t=>simp only[ZAp];rw[h t rfl]
 | _=>rfl
theorem ZDV {fr fr' :List AV}:∀{xs:List Operand},(∀x∈xs,ZAp fr x=ZAp fr' x)→ZBq fr xs=ZBq fr' xs
 | [],_=>rfl
 | x::xs,h=>by
  simp only[ZBq,List.mapM_cons];rw[h x (by simp)]
  have:=ZDV (xs:=xs) (fun y hy=>h y (by simp[hy]))
  simp only[ZBq] at this;rw[this]
theorem ZFy {fr fr' :List AV} {x:Option Operand} (h:∀y,x=some y→ZAp fr y=ZAp fr' y):ZEU fr x=ZEU fr' x:=by
 cases x with
 | none=>rfl
 | some y=>simp only[ZEU];rw[h y rfl]
theorem ZGz {fr fr' :List AV}:∀{ps:List (Nat×Operand)},(∀p∈ps,ZAp fr p.2=ZAp fr' p.2)→(ps.mapM fun(p:Nat×Operand)=>(ZAp fr p.2).map (p.1,·))=ps.mapM fun(p:Nat×Operand)=>(ZAp fr' p.2).map (p.1,·)
 | [],_=>rfl
 | p::ps,h=>by
  simp only[List.mapM_cons];rw[h p (by simp),ZGz (fun q hq=>h q (by simp[hq]))]
theorem ZQh {o:Oper} {fr fr' :List AV} {s:St} (h:∀x∈o.op.operands,ZAp fr x=ZAp fr' x):aOp P call o fr s=aOp P call o fr' s:=by
 obtain⟨dst,op,type,pos,after,guard⟩:=o
 cases op<;> simp only[Op.operands] at h<;> simp only[aOp]
 case build t ps=>rw[ZGz (fr' :=fr') (fun p hp=>h p.2 (by simp;exact⟨p.1,by simpa using hp⟩))]
 case buildSlice t n ps=>rw[ZGz (fr' :=fr') (fun p hp=>h p.2 (by simp;exact⟨p.1,by simpa using hp⟩))]
 case makeFunc f first captured=>
  rw[ZDV (fr' :=fr') (xs:=first.toList) (fun x hx=>h x (by rw[Array.mem_append];exact .inl (by simpa using hx))),ZDV (fr' :=fr') (xs:=captured.toList) (fun x hx=>h x (by rw[Array.mem_append];exact .inr (by simpa using hx)))]
 case makeMap t r=>cases r<;> rfl
 case slice t x lo hi mx=>
  rw[h x (by simp),ZFy (fr' :=fr') (x:=lo) (fun y hy=>h y (by simp[hy])),ZFy (fr' :=fr') (x:=hi) (fun y hy=>h y (by simp[hy])),ZFy (fr' :=fr') (x:=mx) (fun y hy=>h y (by simp[hy]))]
 case next it isS=>
  cases isS with
  | false=>rfl
  | true=>simp only[aOp];rw[h it (by simp)]
 case call c=>
  simp only[Call.operands] at h;rw[ZDV (fr' :=fr') (xs:=c.args.toList) (fun x hx=>h x (by rw[Array.mem_append];exact .inr (by simpa using hx)))]
  cases hc:c.callee with
  | value f=>simp only[hc];rw[h f (by simp[hc])]
  | _=>rfl
 case pick c x y=>
  rw[h c (by simp)]
  have h1:=h x (by simp)
  have h2:=h y (by simp)
  congr 1
  funext v
  cases v<;> try rfl
  rename_i t
  cases t<;> simp[h1,h2]
 all_goals first
  | rfl
  | (rw[h _ (by simp)];done)
  | (rw[h _ (List.mem_cons_self ..)];done)
  | (simp_all;done)
end
end Go.Ai
end
