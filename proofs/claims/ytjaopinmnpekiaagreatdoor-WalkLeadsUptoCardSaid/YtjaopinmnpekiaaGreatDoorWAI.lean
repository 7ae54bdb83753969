/- My own texts DevTg24, DevTg25, DevPer2, DevPs2, one behind the other. -/
import Derived.Test.YtjaopinmnpekiaaGreatDoorWAH
import Derived.Laws.IdiomRangeMap
import Derived.Test.YtjaopinmnpekiaaGreatDoorWAG
set_option linter.unusedVariables false
set_option linter.unusedSimpArgs false
section
open Go.Ai.Enc (enc is)
open Go.Ai.Res (res ris)
open Go.Ai.Args (args)
namespace Go.Ai
open Go.Proofs
/-! ### Maps, plainly: rows of keys and values -/
def mget {V:Type}:List (Int×V)→Int→Option V
 | [],_=>none
 | (k,v)::m,i=>if k=i then some v else mget m i
def mput {V:Type}:List (Int×V)→Int→V→List (Int×V)
 | [],i,x=>[(i,x)]
 | (k,v)::m,i,x=>if k=i then(i,x)::m else(k,v)::mput m i x
def Told {V R:Type} (m:List (Int×V)) (f:Int→Option (Unit ⊕ R)) (o:Unit ⊕ R):Prop:=
 (o= .inl ()∧∀kv∈m,f kv.1=some (.inl ()))∨∃r,o= .inr r∧(∃kv∈m,f kv.1=some (.inr r))∧∀kv∈m,f kv.1=some (.inl ())∨f kv.1=some (.inr r)
open Classical in
noncomputable def ZHZ {V R:Type} (m:List (Int×V)) (f:Int→Option (Unit ⊕ R)):Option (Unit ⊕ R):=if h:∃o,Told m f o then some h.choose else none
theorem ZJQ {V R:Type} {m:List (Int×V)} {f:Int→Option (Unit ⊕ R)} {o:Unit ⊕ R} (h:ZHZ m f=some o):Told m f o:=by
 unfold ZHZ at h;split at h
 ·rename_i h';injection h with h
  rw[←h];exact h'.choose_spec
 cases h
theorem ZVL {V R:Type} {m:List (Int×V)} {f:Int→Option (Unit ⊕ R)} {o o' :Unit ⊕ R} (h:Told m f o) (h' :Told m f o'):o=o' :=by
 rcases h with⟨rfl,h1⟩ | ⟨r,rfl,⟨kv,hm,h2⟩,h3⟩
 ·rcases h' with⟨rfl,_⟩ | ⟨r,rfl,⟨kv,hm,h2⟩,_⟩
  ·rfl
  rw[h1 kv hm] at h2;cases h2
 rcases h' with⟨rfl,h1⟩ | ⟨r',rfl,_,h4⟩
 ·rw[h1 kv hm] at h2;cases h2
 rcases h4 kv hm with h5 | h5
 ·rw[h2] at h5;cases h5
 rw[h2] at h5;injection h5
theorem ZRU {V R:Type} {m:List (Int×V)} {f:Int→Option (Unit ⊕ R)} {o:Unit ⊕ R} (h:Told m f o):ZHZ m f=some o:=by
 have h' :∃o,Told m f o:=⟨o,h⟩
 unfold ZHZ;rw[dif_pos h',ZVL h'.choose_spec h]
theorem ZKz {a b:List Nat} (h:a.Nodup) (hs:∀x∈a,x∈b):a.length≤b.length:=by
 induction a generalizing b with
 | nil=>simp
 | cons x a ih=>
  rw[List.nodup_cons] at h;have hx:=hs x (by simp)
  have:=ih (b:=b.erase x) h.2 fun y hy=>(List.mem_erase_of_ne (fun(e:y=x)=>h.1 (e▸hy))).2 (hs y (by simp[hy]))
  rw[List.length_erase_of_mem hx] at this;have:0<b.length:=List.length_pos_of_mem hx
  simp only[List.length_cons];omega
/-! ### .. and on the machine -/
section
variable {P:Program} {prims:Prims} {n:Nat} {K:Fm→St→Prop} {Q:AExit→Fm→St→Prop} {φ:Fm} {s:St}
theorem ZWU {c:Code} (I:Nat→Fm→St→Prop) (step:∀m φ s,I m φ s→TC P prims n c (fun φ' s' =>∃m',m' <m∧I m' φ' s') Q φ s) {m:Nat} (h0:I m φ s):TC P prims n (.loop c) K Q φ s:=by
 intro hp base ρ X w ac R hb hs hrl hd hR;refine wp_loop_rounds (m+1) ?_
 have key:∀(k m:Nat),m<k→∀φ s,I m φ s→∀(ρ:Pl) (w:World) (ac:Act),base≤w.heap.size→Sim base ρ X s w→RelL w ρ (UX ρ s.h X) s.c (frm n φ) ac.tmps.toList→ac.defers=[]→
   (∀e φ' s' a' w',endK K Q e φ' s' →PostF base ρ X s w (frm n φ') s' a' w' →R (ZMA e) a' w')→Code.rounds P c R k ac w:=by
  intro k;induction k with
  | zero=>intro m hm;omega
  | succ k ih=>
   intro m hm φ s hI ρ w ac hb hs hrl hd hR;rw[rounds_succ];refine step m φ s hI hp base ρ X w ac _ hb hs hrl hd fun e φ' s' a' w' he hpf=> ?_
   cases e with
   | normal=>
    obtain⟨m',hm',hI'⟩:=he;obtain⟨ρ1,g1,g2,g3,g4,g5,g6,g7⟩:=hpf;exact ih m' (by omega) φ' s' hI' ρ1 w' a' (Nat.le_trans hb g5.size) g3 g4 g7 fun e φ'' s'' a'' w'' he' hq=>hR e φ'' s'' a'' w'' he' (PostF.cons g1 g2 g5 g6 hq)
   | exit id=>exact hR (.exit id) _ _ _ _ he hpf
   | ret=>exact hR .ret _ _ _ _ he hpf
 exact key (m+1) m (Nat.lt_succ_self _) φ s h0 ρ w ac hb hs hrl hd hR
end
theorem ZK0 {P:Program} (w:World) (ty:TypeId) (r bm since:Nat) (seen:Array Nat) (es:Array MapEntry) (clock:Nat) (hr:w.heap[r]? =some (.mapIter (some bm) since seen since)) (hb:w.heap[bm]? =some (.map es clock)) (hold:∀x∈es.toList,x.born<since):
  ((leftOf es seen).size=0∧(Instr.next (.pointer (some ⟨r,0,none⟩)) false ty).run P w= .ok (.tuple #[.bool false]) w)∨
  ∃e∈(leftOf es seen).toList,∃w1:World,(w1=w∨w1=w.drew)∧(Instr.next (.pointer (some ⟨r,0,none⟩)) false ty).run P w= .ok (.tuple #[.bool true,e.key,e.val]) {w1 with heap:=w1.heap.setIfInBounds r (.mapIter (some bm) since (seen.push e.born) clock)}:=by
 simp only[Instr.next,getObj,Sem.run_bind,Sem.run,hr,hb,Result.andThen,next_test_false seen es since since hold (Nat.le_refl _),Bool.false_eq_true,if_false];unfold leftOf;have hmem:∀x∈(Array.filter (fun e=> !seen.contains e.born) es).toList,x.born<since:=fun x hx=>hold x (by simp at hx ⊢;exact hx.1)
 generalize Array.filter (fun e=> !seen.contains e.born) es=L at hmem ⊢
 have e1:L.filter (fun x=>decide (x.born<since))=L:=Array.filter_eq_self.2 (fun x hx=>by simpa using hmem x (by simpa using hx))
 have e2:L.filter (fun x=>decide (x.born≥since))= #[]:=by
  rw[Array.filter_eq_empty_iff];intro x hx;have:=hmem x (by simpa using hx)
  simp
  omega
 simp only[e1,e2,Array.append_empty];by_cases h0:L.size=0
 ·left
  have:L= #[]:=Array.eq_empty_of_size_eq_zero h0
  subst this;refine⟨rfl,?_⟩
  simp[choose,Sem.run,Question.forced]
 right
 have hne:L.isEmpty=false:=by simp[Array.isEmpty,h0]
 simp only[hne,Bool.false_eq_true,if_false,Array.empty_append,Array.size_map];have hch:∃(j:Nat) (w1:World),j<L.size∧(w1=w∨w1=w.drew)∧(choose (Question.mapNext L.size)).run P w= .ok j w1:=by
  by_cases hf:L.size≤1
  ·exact⟨0,w,by omega, .inl rfl,by simp[choose,Sem.run,Question.forced,hf]⟩
  exact⟨_,w.drew,Nat.mod_lt _ (by omega), .inr rfl,by
   simp only[choose,Sem.run,Question.forced,decide_eq_true_eq,hf,if_false,Question.cut];rfl⟩
 obtain⟨j,w1,hj,hal,hrun⟩:=hch;refine⟨L[j],by simp,w1,hal,?_⟩
 have hr1:w1.heap[r]? =some (.mapIter (some bm) since seen since):=by rcases hal with rfl | rfl<;> exact hr
 have hset:∀(o' :Obj),(setObj r o').run P w1= .ok () {w1 with heap:=w1.heap.setIfInBounds r o' }:=fun o' =>by
  simp only[setObj,Sem.run,hr1]
 simp only[hrun,Array.getElem?_map,Array.getElem?_eq_getElem hj,Option.map_some,Sem.run_bind,hset,Result.andThen];rfl
theorem ZJ7 {P:Program} (w:World) (r bm since:Nat) (seen:Array Nat) (es:Array MapEntry) (clock:Nat) (e:MapEntry) (hr:w.heap[r]? =some (.mapIter (some bm) since (seen.push e.born) clock)) (hb:w.heap[bm]? =some (.map es clock)) (he:e∈es.toList) (hn:(es.toList.map (·.born)).Nodup):
  (Instr.entry (.pointer (some ⟨r,0,none⟩))).run P w= .ok (.tuple #[e.key,e.val]) w:=by
 have hf:es.find? (·.born==e.born)=some e:=by rw[←Array.find?_toList];exact find_born e es.toList hn he
 simp only[Instr.entry,getObj,Sem.run_bind,Sem.run,hr,hb,Result.andThen,Array.back?_push,bne_self_eq_false,Bool.false_eq_true,if_false,hf];rfl
section
variable {P:Program} {prims:Prims} {n:Nat} {K:Fm→St→Prop} {φ:Fm} {s:St} {ops:Array Oper} {l:List Oper} {d:Tmp} {ty t kt et:TypeId} {pos:String} {af:Array Edge} {x y:Operand} {m it:Nat} {es:List (AV×AV)} {bs:List Nat} {ck:Nat} {rest:List En}
theorem ZWV (hs:Hp s (.grp [(m, .map es)]::rest)) (k:∀bs ck s',bs.length=es.length→bs.Nodup→Hp s' (.grp [(m, .mapb es bs ck)]::rest)→TO P prims n false ops l K φ s'):TO P prims n false ops l K φ s:=by
 intro hp base ρ X wd ac R A hb hsim hrl hd hA;have hg:hget s.h m=some (.map es):=hs.get rfl
 obtain⟨ents,ck,g1,g2,g3,g4⟩:=hsim.obj m _ hg;have hl:(ents.toList.map (·.born)).length=es.length:=by
  have:=g2.length
  simpa using this
 have hpost:Post base ρ X s wd .undef (s.put m (.mapb es (ents.toList.map (·.born)) ck)) undef wd:=
  Post.put hsim hg (by simp) (.mapb es (ents.toList.map (·.born)) ck) (by simp) rfl rfl rfl rfl (fun _ _=>rfl) (fun _ h=>h) _ _ fun U' mo=>⟨⟨ents,g1,RelL.mono mo _ _ g2,RelL.mono mo _ _ g3,g4,rfl⟩,by simp[Rel,RelL,undef]⟩
 obtain⟨ρ1,p1,p2,p3,p4,p5,p6⟩:=hpost;have hmono:Mono wd ρ (UX ρ s.h X) s.c wd ρ1 (UX ρ1 (s.put m (.mapb es (ents.toList.map (·.born)) ck)).h X) s.c:=⟨Nat.le_refl _,p1,fun a u hu _=>hu,fun a ha=>ha,fun b j hb hj=>hj.imp (p6 b j hb) id⟩
 refine k _ ck _ hl g4.1 (Hp.put hs rfl rfl) hp base ρ1 X wd ac R A hb p3 (RelL.mono hmono _ _ hrl) hd fun φ' s' a' w' hK hpf=>hA φ' s' a' w' hK (PostF.cons p1 p2 p5 p6 hpf)
theorem ZTA (hs:Hp s (.grp [(m, .mapb es bs ck)]::rest)) (k:∀s',Hp s' (.grp [(m, .map es)]::rest)→TO P prims n false ops l K φ s'):TO P prims n false ops l K φ s:=by
 intro hp base ρ X wd ac R A hb hsim hrl hd hA;have hg:hget s.h m=some (.mapb es bs ck):=hs.get rfl
 obtain⟨ents,g1,g2,g3,g4,_⟩:=hsim.obj m _ hg;have hpost:Post base ρ X s wd .undef (s.put m (.map es)) undef wd:=
  Post.put hsim hg (by simp) (.map es) (by simp) rfl rfl rfl rfl (fun _ _=>rfl) (fun _ h=>h) _ _ fun U' mo=>⟨⟨ents,ck,g1,RelL.mono mo _ _ g2,RelL.mono mo _ _ g3,g4⟩,by simp[Rel,RelL,undef]⟩
 obtain⟨ρ1,p1,p2,p3,p4,p5,p6⟩:=hpost;have hmono:Mono wd ρ (UX ρ s.h X) s.c wd ρ1 (UX ρ1 (s.put m (.map es)).h X) s.c:=⟨Nat.le_refl _,p1,fun a u hu _=>hu,fun a ha=>ha,fun b j hb hj=>hj.imp (p6 b j hb) id⟩
 refine k _ (Hp.put hs rfl rfl) hp base ρ1 X wd ac R A hb p3 (RelL.mono hmono _ _ hrl) hd fun φ' s' a' w' hK hpf=>hA φ' s' a' w' hK (PostF.cons p1 p2 p5 p6 hpf)
theorem ZWW (hu:P.underlying t=some (.map kt et)) (hx:ZAb n φ x=some (.mp m)) (hs:Hp s (.grp [(m, .mapb es bs ck)]::rest))
  (k:∀it s',Hp s' (.grp [(it, .miter m ck [] ck)]:: .grp [(m, .mapb es bs ck)]::rest)→TO P prims n false ops l K (upd φ d (.ptr it 0)) s'):TO P prims n false ops (⟨some d, .range t x,ty,pos,af,none⟩::l) K φ s:=by
 refine ZHT rfl (by simp[ZFz]) (fun _=>rfl) fun hp base ρ X w ac A B hb hsim hrl hdf hA=> ?_
 have hr:=ZAW hrl (ZAM hx);simp only[Rel] at hr;obtain⟨hm,hv⟩:=hr;have hg:hget s.h m=some (.mapb es bs ck):=hs.get rfl
 obtain⟨ents,g1,g2,g3,g4,_⟩:=hsim.obj m _ hg;refine ZC5 (v' := .pointer (some ⟨w.heap.size,0,none⟩)) (w' :=w.alloc (.mapIter (some (ρ m).1) ck #[] ck)) ?_ (hA _ _ _ _ (k s.c _ (Hp.new hs (.miter m ck [] ck) _ rfl)) ?_)
 ·show(execOp ac.eval _).run P w=_
  simp only[execOp];rw[hv];simp[run_range_map w t kt et _ ents ck hu g1]
 refine Post.new (w' :=w.alloc (.mapIter (some (ρ m).1) ck #[] ck)) hsim rfl rfl rfl (by simp) (ZIy w _) hb (.miter m ck [] ck) w.heap.size 0 (Nat.le_refl _) _ _ (fun ρ' U' c' mo hρ' _ hc' =>⟨⟨by rw[hc'];omega,by rw[mo.pl m hm];exact heap_alloc_new w _⟩,?_⟩)
 simp only[Rel];exact⟨by rw[hc'];omega,by rw[hρ']⟩
theorem ZWX {seen:List Nat} (hx:ZAb n φ x=some (.ptr it 0)) (hs:Hp s (.grp [(it, .miter m ck seen ck)]:: .grp [(m, .mapb es bs ck)]::rest))
  (k1:(∀b∈bs,b∈seen)→TO P prims n false ops l K (upd φ d (.tup [.bool false])) s)
  (k2:∀(i:Nat) (key val:AV) (b:Nat) (s' :St),es[i]? =some (key,val)→bs[i]? =some b→b ∉ seen→Hp s' (.grp [(it, .miter m ck (seen++[b]) ck)]:: .grp [(m, .mapb es bs ck)]::rest)→TO P prims n false ops l K (upd φ d (.tup [.bool true,key,val])) s'):
  TO P prims n false ops (⟨some d, .next x false,ty,pos,af,none⟩::l) K φ s:=by
 refine ZHT rfl (by simp[ZFz]) (fun _=>rfl) fun hp base ρ X w ac A B hb hsim hrl hdf hA=> ?_
 have hr:=ZAW hrl (ZAM hx);simp only[Rel] at hr;obtain⟨hi,hv⟩:=hr;have hgm:hget s.h m=some (.mapb es bs ck):=hs.tail.get rfl
 have hgi:hget s.h it=some (.miter m ck seen ck):=hs.get rfl
 obtain⟨ents,g1,g2,g3,g4,g5⟩:=hsim.obj m _ hgm;obtain⟨hmc,gi⟩:=hsim.obj it _ hgi;have hrun:=ZK0 (P:=P) w ty (ρ it).1 (ρ m).1 ck seen.toArray ents ck gi g1 g4.2;have hex:∀(v:Value) (w' :World),(Instr.next (.pointer (some ⟨(ρ it).1,0,none⟩)) false ty).run P w= .ok v w' →(execOp ac.eval ⟨some d, .next x false,ty,pos,af,none⟩).run P w= .ok (.value v) w' :=fun v w' hr=>by
  simp only[execOp];rw[hv];simp[hr]
 rcases hrun with⟨h0,hrun⟩ | ⟨e,he,w1,hw1,hrun⟩
 ·refine ZC5 (v' := .tuple #[.bool false]) (w' :=w) (hex _ _ hrun) (hA _ _ _ w (k1 fun b hb' => ?_) (.same hsim (by simp[Rel,RelL])))
  rw[←g5] at hb';obtain⟨e,he,rfl⟩:=List.mem_map.1 hb';apply Classical.byContradiction
  intro hns;have hmem:e∈(leftOf ents seen.toArray).toList:=by
   unfold leftOf;simp
   exact⟨by simpa using he,hns⟩
  have:(leftOf ents seen.toArray).toList.length=0:=by simpa using h0
  rw[List.length_eq_zero_iff] at this;rw[this] at hmem;cases hmem
 have hmem:e∈ents.toList∧e.born ∉ seen:=by
  unfold leftOf at he;simp at he
  exact⟨by simpa using he.1,he.2⟩
 obtain⟨i,hi1⟩:=List.mem_iff_getElem?.1 hmem.1;have hk1:(ents.toList.map (·.key))[i]? =some e.key:=by simp[hi1]
 have hk2:(ents.toList.map (·.val))[i]? =some e.val:=by simp[hi1]
 have hb2:bs[i]? =some e.born:=by rw[←g5];simp[hi1]
 obtain⟨ak,hak,hrk⟩:=g2.get' hk1;obtain⟨av,hav,hrv⟩:=g3.get' hk2;have hes:es[i]? =some (ak,av):=by
  rw[List.getElem?_map] at hak hav
  cases h:es[i]? with
  | none=>rw[h] at hak;cases hak
  | some p=>
   rw[h] at hak hav;simp at hak hav
   rw[←hak,←hav]
 have hw1h:w1.heap=w.heap:=by rcases hw1 with rfl | rfl<;> rfl
 have hlt:=hsim.blk_lt hgi;refine ZC5 (v' := .tuple #[.bool true,e.key,e.val]) (hex _ _ hrun) (hA _ _ _ _ (k2 i ak av e.born _ hes hb2 hmem.2 (Hp.put hs rfl rfl)) ?_)
 refine Post.put hsim hgi (by simp) (.miter m ck (seen++[e.born]) ck) (by simp) (by rcases hw1 with rfl | rfl<;> rfl) (by rcases hw1 with rfl | rfl<;> rfl) (by rcases hw1 with rfl | rfl<;> rfl) (by simp[hw1h]) (fun b hb=>by simp[hw1h,Array.getElem?_setIfInBounds_ne (Ne.symm hb)]) (fun a ha=> ?_) _ _ (fun U' mo=>⟨⟨hmc,?_⟩,?_⟩)
 ·obtain⟨u,hu⟩:=Option.isSome_iff_exists.1 ha;by_cases e:a.block=(ρ it).1
  ·simp only[World.cell?,e,gi] at hu;cases hu
  rw[World.cell?_of_block (w:=w) (by simp[hw1h,Array.getElem?_setIfInBounds_ne (Ne.symm e)])];exact ha
 ·have:(seen++[e.born]).toArray=seen.toArray.push e.born:=by simp
  rw[this];simp[hw1h,hlt]
 simp only[Rel,RelL];exact⟨[.bool true,e.key,e.val],rfl,_,_,rfl,rfl,_,_,rfl,Rel.mono mo _ _ hrk,_,_,rfl,Rel.mono mo _ _ hrv,rfl⟩
theorem ZWY {seen:List Nat} {i b:Nat} {key val:AV} (hx:ZAb n φ x=some (.ptr it 0)) (hs:Hp s (.grp [(it, .miter m ck (seen++[b]) ck)]:: .grp [(m, .mapb es bs ck)]::rest)) (he:es[i]? =some (key,val)) (hb' :bs[i]? =some b)
  (k:TO P prims n false ops l K (upd φ d (.tup [key,val])) s):TO P prims n false ops (⟨some d, .entry x,ty,pos,af,none⟩::l) K φ s:=by
 refine ZHT rfl (by simp[ZFz]) (fun _=>rfl) fun hp base ρ X w ac A B hb hsim hrl hdf hA=> ?_
 have hr:=ZAW hrl (ZAM hx);simp only[Rel] at hr;obtain⟨hi,hv⟩:=hr;have hgm:hget s.h m=some (.mapb es bs ck):=hs.tail.get rfl
 have hgi:hget s.h it=some (.miter m ck (seen++[b]) ck):=hs.get rfl
 obtain⟨ents,g1,g2,g3,g4,g5⟩:=hsim.obj m _ hgm;obtain⟨hmc,gi⟩:=hsim.obj it _ hgi;obtain⟨e,hei,rfl⟩:∃e,ents.toList[i]? =some e∧e.born=b:=by
  rw[←g5,List.getElem?_map,Option.map_eq_some_iff] at hb';exact hb'
 have hsn:(seen++[e.born]).toArray=seen.toArray.push e.born:=by simp
 rw[hsn] at gi;have hrun:=ZJ7 (P:=P) w (ρ it).1 (ρ m).1 ck seen.toArray ents ck e gi g1 (List.mem_of_getElem? hei) g4.1;have hk:(es.map (·.1))[i]? =some key:=by simp[he]
 have hv2:(es.map (·.2))[i]? =some val:=by simp[he]
 obtain⟨u1,hu1,hr1⟩:=g2.get hk;obtain⟨u2,hu2,hr2⟩:=g3.get hv2;simp only[List.getElem?_map,hei,Option.map_some,Option.some.injEq] at hu1 hu2;subst hu1;subst hu2;refine ZC5 (v' := .tuple #[e.key,e.val]) (w' :=w) ?_ (hA _ _ _ w k (.same hsim ?_))
 ·simp only[execOp];rw[hv];simp[hrun]
 simp only[Rel,RelL];exact⟨[e.key,e.val],rfl,_,_,rfl,hr1,_,_,rfl,hr2,rfl⟩
end
section
variable {P:Program} {prims:Prims} {n:Nat} {K:Fm→St→Prop} {Q:AExit→Fm→St→Prop} {φ:Fm} {s:St} {m it:Nat} {es:List (AV×AV)} {bs:List Nat} {ck:Nat} {rest:List En}
theorem ZXR {V R:Type} {c:Code} {mm:List (Int×V)} {f:Int→Option (Unit ⊕ R)} {o:Unit ⊕ R} (hk:∀(i:Nat) (key val:AV),es[i]? =some (key,val)→∃kv,kv∈mm∧key=enc kv.1) (hk2:∀kv∈mm,∃(i:Nat) (val:AV),es[i]? =some (enc kv.1,val)) (hlen:bs.length=es.length) (hnd:bs.Nodup)
  (hl:ZHZ mm f=some o) (F:Fm→Prop) (E:Unit ⊕ R→AExit→Fm→St→Prop)
  (step:∀φ s seen,F φ→Hp s (.grp [(it, .miter m ck seen ck)]:: .grp [(m, .mapb es bs ck)]::rest)→
   TC P prims n c (fun φ' s' =>∃(i:Nat) (k:Int) (val:AV) (b:Nat),es[i]? =some (enc (k:Int),val)∧bs[i]? =some b∧b ∉ seen∧f k=some (.inl ())∧F φ' ∧Hp s' (.grp [(it, .miter m ck (seen++[b]) ck)]:: .grp [(m, .mapb es bs ck)]::rest))
    (fun e φ' s' =>((∀b∈bs,b∈seen)∧E (.inl ()) e φ' s')∨∃(i:Nat) (k:Int) (val:AV) (r:R),es[i]? =some (enc (k:Int),val)∧f k=some (.inr r)∧E (.inr r) e φ' s') φ s)
  (hF:F φ) (hs:Hp s (.grp [(it, .miter m ck [] ck)]:: .grp [(m, .mapb es bs ck)]::rest)) (hE:∀e φ s,E o e φ s→Q e φ s):TC P prims n (.loop c) K Q φ s:=by
 have told:=ZJQ hl;have hinj:∀{i j:Nat} {b:Nat},bs[i]? =some b→bs[j]? =some b→i=j:=by
  intro i j b h1 h2;obtain⟨l1,e1⟩:=List.getElem?_eq_some_iff.1 h1;obtain⟨l2,e2⟩:=List.getElem?_eq_some_iff.1 h2;exact(List.getElem_inj hnd).1 (e1.trans e2.symm)
 refine ZWU (fun k φ s=>∃seen,k=bs.length - seen.length∧seen.Nodup∧(∀b∈seen,∃(i:Nat) (k:Int) (val:AV),bs[i]? =some b∧es[i]? =some (enc (k:Int),val)∧f k=some (.inl ()))∧F φ∧Hp s (.grp [(it, .miter m ck seen ck)]:: .grp [(m, .mapb es bs ck)]::rest)) ?_
  (m:=bs.length) ⟨[],rfl,List.nodup_nil,fun b hb=>(by cases hb),hF,hs⟩
 rintro q φ s ⟨seen,rfl,hsn,hsf,hF,hs⟩;have hst:=step φ s seen hF hs;intro hp base ρ X w ac R hb hsim hrl hd hR;refine hst hp base ρ X w ac R hb hsim hrl hd fun e φ' s' a' w' he hpf=>hR e φ' s' a' w' ?_ hpf
 cases e with
 | normal=>
  obtain⟨i,k,val,b,h1,h2,h3,h4,h5,h6⟩:=he;have hn2:(seen++[b]).Nodup:=List.nodup_append.2 ⟨hsn,by simp,fun a ha c hc=>by simp at hc;subst hc;exact fun e=>h3 (e▸ha)⟩
  have hsub:(seen++[b]).length≤bs.length:=by
   have hs2:∀x∈seen++[b],x∈bs:=by
    intro x hx;rcases List.mem_append.1 hx with hx | hx
    ·obtain⟨i,_,_,h,_⟩:=hsf x hx;exact List.mem_of_getElem? h
    simp at hx;subst hx;exact List.mem_of_getElem? h2
   exact ZKz hn2 hs2
  refine⟨bs.length - (seen++[b]).length,?_,seen++[b],rfl,hn2,fun x hx=> ?_,h5,h6⟩
  ·simp only[List.length_append,List.length_singleton] at hsub ⊢;omega
  rcases List.mem_append.1 hx with hx | hx
  ·exact hsf x hx
  simp at hx;subst hx;exact⟨i,k,val,h2,h1,h4⟩
 | exit id=>
  refine hE _ _ _ ?_
  rcases he with⟨hall,he⟩ | ⟨i,k,val,r,h1,h2,he⟩
  ·rcases told with⟨rfl,_⟩ | ⟨r,rfl,⟨kv,hm,h3⟩,_⟩
   ·exact he
   obtain⟨i,val,h4⟩:=hk2 kv hm;have hil:i<bs.length:=by rw[hlen];exact(List.getElem?_eq_some_iff.1 h4).1
   obtain⟨j,k,v2,h5,h6,h7⟩:=hsf _ (hall bs[i] (List.getElem_mem hil));have:=hinj h5 (List.getElem?_eq_getElem hil)
   subst this;rw[h4] at h6;injection h6 with h6;injection h6 with h6 _
   have:=Enc.inj h6
   rw[←this,h3] at h7;cases h7
  obtain⟨kv,hm,hke⟩:=hk i _ _ h1;have hke:=Enc.inj hke;rcases told with⟨rfl,h3⟩ | ⟨r',rfl,_,h3⟩
  ·have:=h3 kv hm;rw[←hke,h2] at this;cases this
  rcases h3 kv hm with h4 | h4
  ·rw[←hke,h2] at h4;cases h4
  rw[←hke,h2] at h4;injection h4 with h4;injection h4 with h4;subst h4;exact he
 | ret=>
  refine hE _ _ _ ?_
  rcases he with⟨hall,he⟩ | ⟨i,k,val,r,h1,h2,he⟩
  ·rcases told with⟨rfl,_⟩ | ⟨r,rfl,⟨kv,hm,h3⟩,_⟩
   ·exact he
   obtain⟨i,val,h4⟩:=hk2 kv hm;have hil:i<bs.length:=by rw[hlen];exact(List.getElem?_eq_some_iff.1 h4).1
   obtain⟨j,k,v2,h5,h6,h7⟩:=hsf _ (hall bs[i] (List.getElem_mem hil));have:=hinj h5 (List.getElem?_eq_getElem hil)
   subst this;rw[h4] at h6;injection h6 with h6;injection h6 with h6 _
   have:=Enc.inj h6
   rw[←this,h3] at h7;cases h7
  obtain⟨kv,hm,hke⟩:=hk i _ _ h1;have hke:=Enc.inj hke;rcases told with⟨rfl,h3⟩ | ⟨r',rfl,_,h3⟩
  ·have:=h3 kv hm;rw[←hke,h2] at this;cases this
  rcases h3 kv hm with h4 | h4
  ·rw[←hke,h2] at h4;cases h4
  rw[←hke,h2] at h4;injection h4 with h4;injection h4 with h4;subst h4;exact he
end
end Go.Ai
end
section
open Go.Ai.Enc (enc is)
open Go.Ai.Res (res ris)
open Go.Ai.Args (args)
namespace Go.Ai
open Go.Proofs
theorem Hp.regrp {s:St} {a a' es:List En} (h:Hp s (a++es)) (hn:a'.all En.noGl=true) (hp:(ZBA a').Perm (ZBA a)):Hp s (a' ++es):=by
 have e:(ZBA (a' ++es)).Perm (ZBA (a++es)):=by rw[ZCJ,ZCJ];exact hp.append_right _
 refine⟨(e.map _).nodup_iff.2 h.1,fun p hp=>h.2.1 p (e.mem_iff.1 hp),fun x hx=> ?_⟩
 rcases List.mem_append.1 hx with hx | hx
 ·have:=List.all_eq_true.1 hn x hx
  cases x<;> first | trivial | cases this
 exact h.2.2 x (List.mem_append_right _ hx)
def emE {V:Type} [Enc V] (x:List (Int×V)):List (AV×AV):=x.map fun kv=>(enc kv.1,enc kv.2)
theorem ZCU (a b:Int):ZPd (enc a) (enc b)=some (decide (a=b)):=by
 simp only[enc,ZPd];by_cases h:a=b<;> simp[h]
theorem ZMX {V:Type} [Enc V] (k:Int):∀x:List (Int×V),ZIP (enc k) (emE x)=some ((mget x k).map enc)
 | []=>rfl
 | (i,v)::x=>by
  simp only[emE,List.map_cons,ZIP,ZCU,mget];by_cases h:k=i
  ·simp[h]
  simp only[h,decide_false];rw[if_neg (fun e=>h e.symm)]
  exact ZMX k x
theorem ZO1 {V:Type} [Enc V] (k:Int) (v:V):∀x:List (Int×V),mset (enc k) (enc v) (emE x)=some (emE (mput x k v))
 | []=>rfl
 | (i,u)::x=>by
  simp only[emE,List.map_cons,mset,ZCU,mput];by_cases h:k=i
  ·simp[h]
  simp only[h,decide_false];rw[if_neg (fun e=>h e.symm)]
  have:=ZO1 k v x
  simp only[emE] at this;rw[this];rfl
/-! ### Maps of rows -/
section
variable {T:Type} [Enc T]
def RM:List (AV×AV)→List (Int×List T)→Prop
 | [],[]=>True
 | (k,v)::es,(i,l)::x=>k=enc i∧is v l∧ZBd v=true∧RM es x
 | _,_=>False
def toks (es:List (AV×AV)):List (Nat×AO):=es.flatMap fun e=>En.ents (.own e.2)
def isMR (u:AV) (en:En) (x:List (Int×List T)):Prop:=∃m es,u= .mp m∧en= .grp ((m, .map es)::toks es)∧RM es x
def isMX (u:AV) (en:En) (x:List (Int×List T)) (k:Int) (w:AV):Prop:=∃m es,u= .mp m∧RM es x∧
 ((en= .grp ((m, .map es)::toks es)∧w= .nils∧mget x k=none)∨∃pre post,es=pre++(enc k,w)::post∧en= .grp ((m, .map es)::(toks pre++toks post))∧(∀e∈pre,e.1≠enc k))
theorem RM.find {k:Int}:∀{es:List (AV×AV)} {x:List (Int×List T)},RM es x→
  (mget x k=none∧ZIP (enc k) es=some none∧(∀e∈es,e.1≠enc k))∨∃l w pre post,mget x k=some l∧ZIP (enc k) es=some (some w)∧is w l∧ZBd w=true∧es=pre++(enc k,w)::post∧∀e∈pre,e.1≠enc k
 | [],[],_=> .inl ⟨rfl,rfl,fun e he=>by cases he⟩
 | [],_::_,h=>h.elim
 | _::_,[],h=>h.elim
 | (a,v)::es,(i,l)::x,h=>by
  obtain⟨rfl,h1,h2,h3⟩:=h;by_cases hk:k=i
  ·subst hk;exact .inr ⟨l,v,[],es,by simp[mget],by simp[ZIP,ZCU],h1,h2,rfl,fun e he=>by cases he⟩
  have hne:(enc i:AV)≠enc k:=fun e=>hk (Enc.inj e).symm
  rcases RM.find (k:=k) h3 with⟨g1,g2,g3⟩ | ⟨l',w,pre,post,g1,g2,g3,g4,g5,g6⟩
  ·refine .inl ⟨by simp only[mget];rw[if_neg (fun e=>hk e.symm)];exact g1,by simp only[ZIP,ZCU,hk,decide_false];exact g2,fun e he=> ?_⟩
   rcases List.mem_cons.1 he with rfl | he
   ·exact hne
   exact g3 e he
  refine .inr ⟨l',w,(enc i,v)::pre,post,by simp only[mget];rw[if_neg (fun e=>hk e.symm)];exact g1,by simp only[ZIP,ZCU,hk,decide_false];exact g2,g3,g4,by rw[g5];rfl,fun e he=> ?_⟩
  rcases List.mem_cons.1 he with rfl | he
  ·exact hne
  exact g6 e he
theorem RM.put {k:Int} {z:AV} {l:List T} (hz:is z l) (hc:ZBd z=true):∀{es:List (AV×AV)} {x:List (Int×List T)},RM es x→∃es',mset (enc k) z es=some es' ∧RM es' (mput x k l)
 | [],[],_=>⟨_,rfl,rfl,hz,hc,trivial⟩
 | [],_::_,h=>h.elim
 | _::_,[],h=>h.elim
 | (a,v)::es,(i,l')::x,h=>by
  obtain⟨rfl,h1,h2,h3⟩:=h;by_cases hk:k=i
  ·subst hk;exact⟨(enc k,z)::es,by simp[mset,ZCU],by simp only[mput,if_true];exact⟨rfl,hz,hc,h3⟩⟩
  obtain⟨es',g1,g2⟩:=RM.put (k:=k) hz hc h3;refine⟨(enc i,v)::es',by simp only[mset,ZCU,hk,decide_false,g1];rfl,?_⟩
  simp only[mput];rw[if_neg (fun e=>hk e.symm)]
  exact⟨rfl,h1,h2,g2⟩
theorem ZMY {k:Int} {z:AV}:∀{es:List (AV×AV)} {x:List (Int×List T)},RM es x→(∀e∈es,e.1≠enc k)→mset (enc k) z es=some (es++[(enc k,z)])
 | [],[],_,_=>rfl
 | [],_::_,h,_=>h.elim
 | _::_,[],h,_=>h.elim
 | (a,v)::es,(i,l')::x,h,hn=>by
  obtain⟨rfl,h1,h2,h3⟩:=h;have hk:k≠i:=fun e=>hn (enc i,v) (List.mem_cons_self) (by rw[e])
  have ih:=ZMY (k:=k) (z:=z) h3 (fun e he=>hn e (lM _ he))
  simp only[mset,ZCU,hk,decide_false,ih,Option.map_some,List.cons_append]
theorem ZRV {k:Int} {z w:AV} {post:List (AV×AV)}:∀{pre:List (AV×AV)} {x:List (Int×List T)},RM (pre++(enc k,w)::post) x→(∀e∈pre,e.1≠enc k)→mset (enc k) z (pre++(enc k,w)::post)=some (pre++(enc k,z)::post)
 | [],_,_,_=>by simp[mset,ZCU]
 | _::_,[],h,_=>h.elim
 | (a,v)::es,(i,l')::x,h,hn=>by
  obtain⟨rfl,h1,h2,h3⟩:=h;have hk:k≠i:=fun e=>hn (enc i,v) (List.mem_cons_self) (by rw[e])
  have ih:=ZRV (k:=k) (z:=z) (pre:=es) h3 (fun e he=>hn e (lM _ he))
  simp only[List.cons_append,mset,ZCU,hk,decide_false,ih,Option.map_some]
theorem ZTB {m:Nat}:isMR (.mp m) (.grp [(m, .map [])]) ([]:List (Int×List T)):=⟨m,[],rfl,rfl,trivial⟩
end
section
variable {P:Program} {prims:Prims} {n:Nat} {b:Bool} {K:Fm→St→Prop} {φ:Fm} {s:St} {ops:Array Oper} {l:List Oper} {d:Tmp} {ty t kt et:TypeId} {pos:String} {af:Array Edge} {x y z:Operand} {m:Nat} {es:List En} {u:AV} {en:En} {k:Int}
theorem ZT8 (hs:Hp s es) (kk:∀m s',Hp s' (.grp [(m, .map [])]::es)→TO P prims n b ops l K (upd φ d (.mp m)) s'):TO P prims n b ops (⟨some d, .makeMap t none,ty,pos,af,none⟩::l) K φ s:=
 ZA2 rfl rfl (v:= .mp s.c) (s' :=s.new (.map [])) (fun _=>rfl) (kk s.c _ (Hp.new hs _ _ rfl))
theorem ZWZ {V:Type} [Enc V] {xs:List (Int×V)} {z:V} (hu:P.underlying t=some (.map kt et)) (hk:P.underlying kt=some (.int .i64)) (hz:ZBM P et=some (enc z)) (hx:ZAb n φ x=some (.mp m)) (hy:ZAb n φ y=some (enc k)) (hs:Hp s (.grp [(m, .map (emE xs))]::es))
  (kk:TO P prims n b ops l K (upd φ d (enc ((mget xs k).getD z))) s):TO P prims n b ops (⟨some d, .lookup t x y false,ty,pos,af,none⟩::l) K φ s:=by
 refine ZA2 rfl rfl (fun _=> ?_) kk
 have hg:hget s.h m=some (.map (emE xs)):=hs.get rfl
 have hkk:ZB5 (.int .i64) (enc k)=true:=rfl
 simp only[aOp,ZAM hx,ZAM hy,oC,Option.bind_some,ZFr,hu,hk,hkk,Bool.not_true,Bool.false_eq_true,if_false,hz,ZFq,hg,ZMX]
 cases mget xs k<;> rfl
theorem ZWa {V:Type} [Enc V] {xs:List (Int×V)} {v:V} (hu:P.underlying t=some (.map kt et)) (hk:P.underlying kt=some (.int .i64)) (hx:ZAb n φ x=some (.mp m)) (hy:ZAb n φ y=some (enc k)) (hz:ZAb n φ z=some (enc v)) (hs:Hp s (.grp [(m, .map (emE xs))]::es))
  (kk:∀s',Hp s' (.grp [(m, .map (emE (mput xs k v)))]::es)→TO P prims n b ops l K φ s'):TO P prims n b ops (⟨none, .mapUpdate t x y z,ty,pos,af,none⟩::l) K φ s:=by
 have hg:hget s.h m=some (.map (emE xs)):=hs.get rfl
 refine ZJD rfl rfl (v:= .undef) (s' :=s.put m (.map (emE (mput xs k v)))) (fun _=> ?_) (kk _ (Hp.put hs rfl rfl))
 have hkk:ZB5 (.int .i64) (enc k)=true:=rfl
 simp only[aOp,ZAM hx,ZAM hy,ZAM hz,oC,Option.bind_some,ZE0,hu,hk,hkk,Bool.not_true,Bool.false_eq_true,if_false,hg,ZO1,Option.map_some]
variable {T:Type} [Enc T] {xs:List (Int×List T)}
theorem Hp.head {e:En} {a:Nat×AO} {r:List (Nat×AO)} (h:Hp s (.grp (a::r)::es)):Hp s (.grp [a]:: .grp r::es):=
 Hp.regrp (a:=[.grp (a::r)]) (a' :=[.grp [a], .grp r]) h rfl (by simp[ZBA,En.ents])
theorem ZRW (hu:P.underlying t=some (.map kt et)) (hk:P.underlying kt=some (.int .i64)) (hz:ZBM P et=some .nils) (hx:ZAb n φ x=some u) (hy:ZAb n φ y=some (enc k)) (h:isMR u en xs) (hs:Hp s (en::es))
  (kk:∀w,is w ((mget xs k).getD [])→TO P prims n b ops l K (upd φ d w) s):TO P prims n b ops (⟨some d, .lookup t x y false,ty,pos,af,none⟩::l) K φ s:=by
 obtain⟨m,ms,rfl,rfl,hr⟩:=h;have hg:hget s.h m=some (.map ms):=(Hp.head (e:= .own .nils) hs).get rfl
 have hkk:ZB5 (.int .i64) (enc k)=true:=rfl
 rcases hr.find (k:=k) with⟨g1,g2,_⟩ | ⟨l',w,pre,post,g1,g2,g3,_⟩
 ·refine ZA2 rfl rfl (fun _=> ?_) (kk .nils (by rw[g1];exact isL.nil))
  simp only[aOp,ZAM hx,ZAM hy,oC,Option.bind_some,ZFr,hu,hk,hkk,Bool.not_true,Bool.false_eq_true,if_false,hz,ZFq,hg,g2];rfl
 refine ZA2 rfl rfl (fun _=> ?_) (kk w (by rw[g1];exact g3))
 simp only[aOp,ZAM hx,ZAM hy,oC,Option.bind_some,ZFr,hu,hk,hkk,Bool.not_true,Bool.false_eq_true,if_false,hz,ZFq,hg,g2];rfl
theorem ZK1 (a c:List (AV×AV)):toks (a++c)=toks a++toks c:=by simp[toks]
theorem ZJR (e:AV×AV) (c:List (AV×AV)):toks (e::c)=En.ents (.own e.2)++toks c:=by simp[toks]
theorem ZWb (hu:P.underlying t=some (.map kt et)) (hk:P.underlying kt=some (.int .i64)) (hz:ZBM P et=some .nils) (hx:ZAb n φ x=some u) (hy:ZAb n φ y=some (enc k)) (h:isMR u en xs) (hs:Hp s (en::es))
  (kk:∀w enx,is w ((mget xs k).getD [])→ZBd w=true→isMX u enx xs k w→Hp s (.own w::enx::es)→TO P prims n b ops l K (upd φ d w) s):TO P prims n b ops (⟨some d, .lookup t x y false,ty,pos,af,none⟩::l) K φ s:=by
 obtain⟨m,ms,rfl,rfl,hr⟩:=h;have hg:hget s.h m=some (.map ms):=(Hp.head (e:= .own .nils) hs).get rfl
 have hkk:ZB5 (.int .i64) (enc k)=true:=rfl
 rcases hr.find (k:=k) with⟨g1,g2,_⟩ | ⟨l',w,pre,post,g1,g2,g3,g4,g5,g6⟩
 ·refine ZA2 rfl rfl (fun _=> ?_) (kk .nils (.grp ((m, .map ms)::toks ms)) (by rw[g1];exact isL.nil) rfl ⟨m,ms,rfl,hr, .inl ⟨rfl,rfl,g1⟩⟩ (Hp.add hs rfl))
  simp only[aOp,ZAM hx,ZAM hy,oC,Option.bind_some,ZFr,hu,hk,hkk,Bool.not_true,Bool.false_eq_true,if_false,hz,ZFq,hg,g2];rfl
 refine ZA2 rfl rfl (fun _=> ?_) (kk w (.grp ((m, .map ms)::(toks pre++toks post))) (by rw[g1];exact g3) g4 ⟨m,ms,rfl,hr, .inr ⟨pre,post,g5,rfl,g6⟩⟩ ?_)
 ·simp only[aOp,ZAM hx,ZAM hy,oC,Option.bind_some,ZFr,hu,hk,hkk,Bool.not_true,Bool.false_eq_true,if_false,hz,ZFq,hg,g2];rfl
 refine Hp.regrp (a:=[.grp ((m, .map ms)::toks ms)]) (a' :=[.own w, .grp ((m, .map ms)::(toks pre++toks post))]) hs rfl ?_
 have e1:toks ms=toks pre++(En.ents (.own w)++toks post):=by rw[g5,ZK1,ZJR]
 simp only[ZBA,List.flatMap_cons,List.flatMap_nil,List.append_nil];show(En.ents (.own w)++((m, .map ms)::(toks pre++toks post))).Perm ((m, .map ms)::toks ms)
 rw[e1];refine List.perm_middle.trans (List.Perm.cons _ ?_)
 rw[←List.append_assoc,←List.append_assoc];exact List.perm_append_comm.append_right _
theorem ZWc {w v:AV} {r:List T} (hu:P.underlying t=some (.map kt et)) (hk:P.underlying kt=some (.int .i64)) (hx:ZAb n φ x=some u) (hy:ZAb n φ y=some (enc k)) (hz:ZAb n φ z=some v) (h:isMX u en xs k w) (hv:is v r) (hc:ZBd v=true) (hs:Hp s (.own v::en::es))
  (kk:∀en' s',isMR u en' (mput xs k r)→Hp s' (en' ::es)→TO P prims n b ops l K φ s'):TO P prims n b ops (⟨none, .mapUpdate t x y z,ty,pos,af,none⟩::l) K φ s:=by
 obtain⟨m,ms,rfl,hr,hcase⟩:=h;have hkk:ZB5 (.int .i64) (enc k)=true:=rfl
 obtain⟨ms',hm1,hm2⟩:=hr.put (k:=k) hv hc;have fin:∀tk,en= .grp ((m, .map ms)::tk)→(toks ms').Perm (En.ents (.own v)++tk)→TO P prims n b ops (⟨none, .mapUpdate t x y z,ty,pos,af,none⟩::l) K φ s:=by
  intro tk he hp;subst he;have h1:Hp s (.grp [(m, .map ms)]:: .grp (En.ents (.own v)++tk)::es):=by
   refine Hp.regrp (a:=[.own v, .grp ((m, .map ms)::tk)]) (a' :=[.grp [(m, .map ms)], .grp (En.ents (.own v)++tk)]) hs rfl ?_
   simp only[ZBA,List.flatMap_cons,List.flatMap_nil,List.append_nil];show((m,AO.map ms)::(En.ents (.own v)++tk)).Perm (En.ents (.own v)++((m, .map ms)::tk))
   exact List.perm_middle.symm
  have hg:hget s.h m=some (.map ms):=h1.get rfl
  refine ZJD rfl rfl (v:= .undef) (s' :=s.put m (.map ms')) (fun _=> ?_) (kk (.grp ((m, .map ms')::toks ms')) _ ⟨m,ms',rfl,rfl,hm2⟩ ?_)
  ·simp only[aOp,ZAM hx,ZAM hy,ZAM hz,oC,Option.bind_some,ZE0,hu,hk,hkk,Bool.not_true,Bool.false_eq_true,if_false,hg,hm1,Option.map_some]
  have h2:Hp (s.put m (.map ms')) (.grp [(m, .map ms')]:: .grp (En.ents (.own v)++tk)::es):=Hp.put h1 rfl rfl
  refine Hp.regrp (a:=[.grp [(m, .map ms')], .grp (En.ents (.own v)++tk)]) (a' :=[.grp ((m, .map ms')::toks ms')]) h2 rfl ?_
  simp only[ZBA,List.flatMap_cons,List.flatMap_nil,List.append_nil];show((m,AO.map ms')::toks ms').Perm ((m, .map ms')::(En.ents (.own v)++tk))
  exact List.Perm.cons _ hp
 rcases hcase with⟨rfl,rfl,hn⟩ | ⟨pre,post,h1,rfl,h2⟩
 ·refine fin _ rfl ?_
  rcases hr.find (k:=k) with⟨_,_,g3⟩ | ⟨l',w,pre,post,g1,_⟩
  ·rw[ZMY hr g3] at hm1;injection hm1 with hm1
   rw[←hm1,ZK1,ZJR];show(toks ms++(En.ents (.own v)++[])).Perm _
   rw[List.append_nil];exact List.perm_append_comm
  rw[hn] at g1;cases g1
 refine fin _ rfl ?_
 subst h1;rw[ZRV hr h2] at hm1;injection hm1 with hm1
 rw[←hm1,ZK1,ZJR,←List.append_assoc,←List.append_assoc];exact List.perm_append_comm.append_right _
end
end Go.Ai
namespace Go.Ai
open Go.Proofs
section
variable {T:Type} [Enc T]
theorem RM.keys:∀{es:List (AV×AV)} {x:List (Int×List T)},RM es x→(∀(i:Nat) (key val:AV),es[i]? =some (key,val)→∃kv,kv∈x∧key=enc kv.1)∧(∀kv∈x,∃(i:Nat) (val:AV),es[i]? =some (enc kv.1,val))
 | [],[],_=>⟨fun i _ _ h=>by simp at h,fun kv h=>by cases h⟩
 | [],_::_,h=>h.elim
 | _::_,[],h=>h.elim
 | (a,v)::es,(i,l)::x,h=>by
  obtain⟨rfl,h1,h2,h3⟩:=h;obtain⟨g1,g2⟩:=RM.keys h3;refine⟨fun j key val hj=> ?_,fun kv hkv=> ?_⟩
  ·cases j with
   | zero=>
    simp at hj
    exact⟨(i,l),List.mem_cons_self,hj.1.symm⟩
   | succ j=>
    obtain⟨kv,h4,h5⟩:=g1 j key val (by simpa using hj)
    exact⟨kv,lM _ h4,h5⟩
  rcases List.mem_cons.1 hkv with rfl | hkv
  ·exact⟨0,v,rfl⟩
  obtain⟨j,val,h4⟩:=g2 kv hkv;exact⟨j+1,val,by simpa using h4⟩
theorem ZVM {R:Type} {es:List (AV×AV)} {x:List (Int×List T)} {f:Int→Option (Unit ⊕ R)} {o:Unit ⊕ R} {i:Nat} {key val:AV} (hl:ZHZ x f=some o) (h:RM es x) (he:es[i]? =some (key,val)):∃k r,key=enc (k:Int)∧f k=some r:=by
 obtain⟨kv,h1,rfl⟩:=h.keys.1 i key val he;rcases ZJQ hl with⟨_,h2⟩ | ⟨r,_,_,h2⟩
 ·exact⟨kv.1,_,rfl,h2 kv h1⟩
 rcases h2 kv h1 with h2 | h2<;> exact⟨kv.1,_,rfl,h2⟩
end
section
variable {P:Program} {prims:Prims} {n:Nat} {K:Fm→St→Prop} {φ:Fm} {s:St} {ops:Array Oper} {l:List Oper} {d:Tmp} {ty t kt et:TypeId} {pos:String} {af:Array Edge} {x:Operand} {es:List En} {u:AV} {en:En}
variable {T:Type} [Enc T] {xs:List (Int×List T)}
theorem ZWd (hu:P.underlying t=some (.map kt et)) (hx:ZAb n φ x=some u) (h:isMR u en xs) (hs:Hp s (en::es))
  (kk:∀m ms bs ck it s',RM ms xs→u= .mp m→bs.length=ms.length→bs.Nodup→Hp s' (.grp [(it, .miter m ck [] ck)]:: .grp [(m, .mapb ms bs ck)]:: .grp (toks ms)::es)→TO P prims n false ops l K (upd φ d (.ptr it 0)) s'):TO P prims n false ops (⟨some d, .range t x,ty,pos,af,none⟩::l) K φ s:=by
 obtain⟨m,ms,rfl,rfl,hr⟩:=h;refine ZWV (Hp.head (e:= .own .nils) hs) fun bs ck s1 h1 h2 hs1=> ?_
 exact ZWW hu hx hs1 fun it s2 hs2=>kk m ms bs ck it s2 hr rfl h1 h2 hs2
theorem ZWe {m it ck:Nat} {ms:List (AV×AV)} {bs seen:List Nat} (hr:RM ms xs) (hu:u= .mp m) (hs:Hp s (.grp [(it, .miter m ck seen ck)]:: .grp [(m, .mapb ms bs ck)]:: .grp (toks ms)::es))
  (kk:∀en s',isMR u en xs→Hp s' (en::es)→TO P prims n false ops l K φ s'):TO P prims n false ops l K φ s:=by
 subst hu;refine ZTA hs.tail fun s1 hs1=>kk (.grp ((m, .map ms)::toks ms)) s1 ⟨m,ms,rfl,rfl,hr⟩ ?_
 exact Hp.regrp (a:=[.grp [(m, .map ms)], .grp (toks ms)]) (a' :=[.grp ((m, .map ms)::toks ms)]) hs1 rfl (by simp[ZBA,En.ents])
end
end Go.Ai
namespace Go.Ai
section
variable {P:Program} {prims:Prims} {n:Nat} {b:Bool} {K:Fm→St→Prop} {φ:Fm} {s:St} {ops:Array Oper} {l:List Oper} {d:Tmp} {ty:TypeId} {pos:String} {af:Array Edge} {es:List En} {u:AV} {en:En}
variable {T:Type} [Enc T] {xs:List T}
end
end Go.Ai
end
section
set_option maxRecDepth 100000
namespace Go.Proofs.Er
open Go.Proofs Go.RowKit Go.Extern.Stop Go.Stop Go.Extern
set_option maxHeartbeats 4000000 in
theorem errno_nil (w:World):Calls Tryz.prog 80 #[.nilIface] w fun e w' =>e= .returned (.int .i64 0)∧w' =w.alloc (.cells #[.pointer none] 154):=by
 go_enter Tryz.func80,Tryz.ntmps80
 go_wp2_with (go_at_call 97;refine(ZWS _ _).mono ?_;rintro e w' ⟨rfl,rfl⟩);go_ret
 exact⟨rfl,rfl⟩
set_option maxHeartbeats 4000000 in
theorem errno_hit (a:Addr) (c:Int) (w:World) (hg:w.cell? ⟨3,0,none⟩=some (.iface 133 (.agg #[.pointer (some ⟨4,60,none⟩)]))) (ha:w.cell? a=some (.int .i64 c)):Calls Tryz.prog 80 #[.iface 154 (.pointer (some a))] w fun e w' =>e= .returned (.int .i64 c)∧RowKit.Below w.heap.size w w' :=by
 have hlt:3<w.heap.size:=by
  rcases Nat.lt_or_ge 3 w.heap.size with h | h
  ·exact h
  simp[World.cell?,Array.getElem?_eq_none h] at hg
 have hgA:(w.alloc (.cells #[.pointer none] 154)).cell? ⟨3,0,none⟩=some (.iface 133 (.agg #[.pointer (some ⟨4,60,none⟩)])):=by
  rw[World.cell?_alloc_lt _ _ ⟨3,0,none⟩ hlt];exact hg
 have htA:(w.alloc (.cells #[.pointer none] 154)).cell? ⟨w.heap.size,0,none⟩=some (.pointer none):=by simp
 have hfA:(w.alloc (.cells #[.pointer none] 154)).frozen? ⟨w.heap.size,0,none⟩=false:=by simp
 have hal:a.block<w.heap.size:=by
  rcases Nat.lt_or_ge a.block w.heap.size with h | h
  ·exact h
  simp[World.cell?,Array.getElem?_eq_none h] at ha
 have hcl:∀o1 o2 o3 o4 o5:Obj,(((((w.alloc o1).alloc o2).alloc o3).alloc o4).alloc o5).cell? a=some (.int .i64 c):=fun o1 o2 o3 o4 o5=>by
  rw[World.cell?_alloc_lt _ _ a (by simp;omega),World.cell?_alloc_lt _ _ a (by simp;omega),World.cell?_alloc_lt _ _ a (by simp;omega),World.cell?_alloc_lt _ _ a (by simp;omega),World.cell?_alloc_lt _ _ a hal];exact ha
 go_enter Tryz.func80,Tryz.ntmps80
 go_wp2_with (go_at_call 97;refine(ZWT a _ (.pointer none) _ hgA htA hfA).mono ?_;rintro e w' ⟨rfl,rfl⟩);go_ret
 refine⟨rfl,rfl,rfl,rfl,by simp;omega,fun k hk=> ?_⟩
 have h:∀(w:World) (o:Obj),k<w.heap.size→(w.alloc o).heap[k]? =w.heap[k]? :=fun w o hk=>by
  show(w.heap.push o)[k]? =_
  rw[Array.getElem?_push_lt hk,Array.getElem?_eq_getElem hk]
 rw[h _ _ (by simp;omega),h _ _ (by simp;omega),h _ _ (by simp;omega),h _ _ (by simp;omega),h _ _ hk]
end Go.Proofs.Er
namespace Go.Ai.Rab
open Go.Proofs
open Go.Ai.Enc (enc is)
def ZCa (e:Err 154):Option Int:=some (e.c.getD 0)
theorem ZJ8 (mx:Int):ZAq Tryz.prog 80 (FnG (NG mx) (fun a:(Err 154)×Unit=>ZCa a.1)):=by
 refine⟨⟨_,Tryz.func80,rfl⟩,fun G args r hr w U vs hU hG hrel=> ?_⟩
 obtain⟨rfl,⟨⟨ec⟩,_⟩,r',rfl,h1,rfl⟩:=ZIc hr;unfold ZCa at h1;injection h1 with h1
 subst h1;have hrel:RelL w ρ0 U 0 [Err.av 154 ec] vs:=hrel
 simp only[RelL] at hrel;obtain⟨v,us,rfl,hv,rfl⟩:=hrel
 cases ec with
 | none=>
  simp only[Err.av,Rel] at hv;subst hv;refine(Er.errno_nil w).mono ?_
  rintro e w' ⟨rfl,rfl⟩;refine⟨_,rfl,rfl,rfl,rfl,rfl,by simp,fun k hk=> ?_⟩
  show(w.heap.push _)[k]? =_
  rw[Array.getElem?_push_lt hk,Array.getElem?_eq_getElem hk]
 | some c=>
  simp only[Err.av,Rel] at hv;obtain⟨u,rfl,_,_,a,rfl,cs,hcs,hrow⟩:=hv;have hcs' :cs=[.int .i64 c]:=by
   simp only[RelC] at hcs;obtain⟨q,qs,rfl,_,hq,rfl⟩:=hcs;simp only[Rel,RelL] at hq;obtain⟨ws,rfl,x,xs,rfl,rfl,rfl⟩:=hq;rfl
  subst hcs';have hc:=(hrow 0 _ rfl).1;have ha0:a.add (0*esz 1+0)=a:=by cases a;rfl
  have ha1:a.add 0=a:=by cases a;rfl
  rw[ha1] at hc;rw[ha0];obtain⟨_,gs,g1,g2⟩:=hG 3 _ rfl;have hg:w.cell? ⟨3,0,none⟩=some (.iface 133 (.agg #[.pointer (some ⟨4,60,none⟩)])):=by
   simp only[RelL,Rel] at g1;obtain⟨v0,us0,rfl,⟨u,rfl,ws,rfl,z,zs,rfl,rfl,rfl⟩,rfl⟩:=g1;exact(g2 0 _ rfl).1
  refine(Er.errno_hit a c w hg hc).mono ?_
  rintro e w' ⟨rfl,hb⟩;exact⟨_,rfl,rfl,hb⟩
end Go.Ai.Rab
end
section
open Go.Ai.Enc (enc is)
namespace Go.Ai.Rab
open Go.Proofs
noncomputable def pv00 (mx:Int):Prims:=pct.addG 79 (FnG (NG mx) (fun a:Str×Unit=>utf8_ValidString a.1))
theorem ZVN (mx:Int):ZAX Tryz.prog (pv00 mx):=ZAR ZO0 (ZG5 mx)
noncomputable def pv0 (mx:Int):Prims:=(pv00 mx).addG 80 (FnG (NG mx) (fun a:(Err 154)×Unit=>ZCa a.1))
theorem ZT9 (mx:Int):ZAX Tryz.prog (pv0 mx):=ZAR (ZVN mx) (ZJ8 mx)
end Go.Ai.Rab
end
