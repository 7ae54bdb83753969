/- My own texts DevAi16, DevAi17, DevAi18, DevAi19, DevAi20, DevAi21, one behind the other. -/
import Derived.Test.YtjaopinmnpekiaaGreatDoorWAB
import Derived.IntWalk
import Derived.Laws.Bits64
set_option linter.unusedVariables false
set_option linter.unusedSimpArgs false
section
namespace Go.Ai
section
variable {P:Program} {call:FuncId→List AV→St→Option (AV×St)} {prims:Prims}

def ZSe (prims:Prims) (call:FuncId→List AV→St→Option (AV×St)):Prop:=∀g args s v s',(prims g).isNone=false→call g args s=some (v,s')→s' =s∧∀s2:St,s2.g=s.g→(∀x∈args,∀r,view s x=some r→view s2 x=some r)→call g args s2=some (v,s2)

theorem ZKo {x:Option AV} {s s' :St} {v:AV} (h:x.map (·,s)=some (v,s')):s' =s∧∀s2:St,x.map (·,s2)=some (v,s2):=by
 cases x with
 | none=>cases h
 | some a=>simp at h;exact⟨h.2.symm,fun s2=>by simp[h.1]⟩

theorem ZQi {o:Oper} {fr:List AV} {s s' :St} {v:AV} (hl:looks o.op=false) (h:aOp P call o fr s=some (v,s')):s' =s∧∀s2,aOp P call o fr s2=some (v,s2):=by
 obtain⟨dst,op,type,pos,after,guard⟩:=o
 cases op<;> simp only[looks,reduceCtorEq,Bool.true_eq_false] at hl<;> simp only[aOp] at h ⊢
 case move x=>exact ZKo h
 case assign x=>exact ZKo h
 case pick c x y=>
  simp only[oC,oB] at h ⊢;obtain⟨cv,hc,h⟩:=h
  cases cv<;> simp only[reduceCtorEq,oB] at h
  obtain⟨x',hx,h⟩:=h;injection h with h;injection h with e1 e2
  exact⟨e2.symm,fun s2=>⟨_,hc,by simp only[oB];exact⟨_,hx,by rw[e1]⟩⟩⟩
 case slice t x lo hi mx=>
  simp only[oC,oB] at h ⊢;obtain⟨x',hx,l',hl',h',hh',m',hm',z,hz,h⟩:=h;injection h with h;injection h with e1 e2
  exact⟨e2.symm,fun s2=>⟨x',hx,l',hl',h',hh',m',hm',z,hz,by rw[e1]⟩⟩
 case makeInterface t x=>
  simp only[oC,oB] at h ⊢;obtain⟨d,hd,h⟩:=h;refine⟨?_,fun s2=>⟨d,hd,?_⟩⟩
  ·split at h
   ·cases h
   simp only[oB] at h;obtain⟨x',hx,h⟩:=h;injection h with h;injection h with e1 e2;exact e2.symm
  split at h
  ·cases h
  simp only[oB] at h ⊢;obtain⟨x',hx,h⟩:=h;injection h with h;injection h with e1 e2;exact⟨x',hx,by rw[e1]⟩
 case makeFunc f first captured=>
  cases f<;> simp only[reduceCtorEq,oC,oB] at h ⊢
  obtain⟨x,hx,y,hy,h⟩:=h;injection h with h;injection h with e1 e2
  exact⟨e2.symm,fun s2=>⟨x,hx,y,hy,by rw[e1]⟩⟩
 case nilCheck x=>
  simp only[oC,oB] at h ⊢;obtain⟨d,hd,h⟩:=h
  cases d<;> simp only[reduceCtorEq] at h<;> (injection h with h;injection h with e1 e2;exact⟨e2.symm,fun s2=>⟨_,hd,by rw[←e1]⟩⟩)
 case extract x i=>
  simp only[oC,oB] at h ⊢;obtain⟨d,hd,h⟩:=h
  cases d<;> simp only[reduceCtorEq] at h
  exact⟨(ZKo h).1,fun s2=>⟨_,hd,(ZKo h).2 s2⟩⟩
 all_goals first
  | (cases h;done)
  | (
   simp only[oC,oB] at h ⊢;obtain⟨x,hx,h⟩:=h;first
    | (injection h with h;injection h with e1 e2;exact⟨e2.symm,fun s2=>⟨x,hx,by rw[e1]⟩⟩)
    | (
     obtain⟨y,hy,h⟩:=h;first
      | (injection h with h;injection h with e1 e2;exact⟨e2.symm,fun s2=>⟨x,hx,y,hy,by rw[e1]⟩⟩)
      | (
       obtain⟨z,hz,h⟩:=h;injection h with h;injection h with e1 e2;exact⟨e2.symm,fun s2=>⟨x,hx,y,hy,z,hz,by rw[e1]⟩⟩)))

theorem ZI3 {fr:List AV} {op:Op} (h:ZCm P prims fr op=true):looks op=true:=by
 cases op<;> simp only[ZCm,looks] at h ⊢<;> first | rfl | exact h | cases h

theorem ZQj (hq:ZSe prims call) {o:Oper} {fr:List AV} {s s' :St} {v:AV} (ht:ZCm P prims fr o.op=false) (h:aOp P call o fr s=some (v,s')):s' =s:=by
 cases hl:looks o.op with
 | false=>exact(ZQi hl h).1
 | true=>
  obtain⟨dst,op,type,pos,after,guard⟩:=o
  cases op<;> simp only[looks,reduceCtorEq,Bool.false_eq_true] at hl<;> simp only[ZCm,looks,Bool.true_eq_false] at ht<;> simp only[aOp] at h
  case load t a=>
   simp only[oC,oB] at h;obtain⟨x,hx,y,hy,h⟩:=h;injection h with h;injection h with e1 e2;exact e2.symm
  case convert src dst x=>
   simp only[oC,oB] at h;obtain⟨y,hy,h⟩:=h;simp only[ZFL,oC,oB] at h;obtain⟨d1,hd1,d2,hd2,h⟩:=h;simp only[ZIn,hd2] at ht;split at h<;> first
    | (injection h with h;injection h with e1 e2;exact e2.symm)
    | (cases ht;done)
    | skip
   ·split at h
    ·split at h
     ·injection h with h;injection h with e1 e2;exact e2.symm
     ·injection h with h;injection h with e1 e2;exact e2.symm
     simp only[oB] at h;obtain⟨r,hr,h⟩:=h;split at h
     ·simp only[Option.map_eq_some_iff] at h;obtain⟨l,hl,h⟩:=h;injection h with e1 e2;exact e2.symm
     cases h
    cases h
   cases h
  case lookup t x k ok=>
   simp only[oC,oB] at h;obtain⟨x,hx,y,hy,r,hr,h⟩:=h;injection h with h;injection h with e1 e2;exact e2.symm
  case call c=>
   simp only[oC,oB] at h;obtain⟨args,ha,h⟩:=h
   cases hc:c.callee with
   | invoke r m=>simp only[hc,Bool.true_eq_false] at ht
   | builtin b=>
    simp only[hc] at h ht
    cases b<;> simp only[Bool.true_eq_false] at ht<;> simp only[ZCI] at h<;> split at h<;> first
     | (cases h;done)
     | (rename_i hh _;cases hh;done)
     | (rename_i hh;cases hh;done)
     | (rename_i hh _ _;cases hh;done)
     | (
      simp only[oC,oB] at h;obtain⟨x,hx,y,hy,h⟩:=h;injection h with h;injection h with e1 e2;exact e2.symm)
     | (injection h with h;injection h with e1 e2;exact e2.symm)
   | value f=>
    simp only[hc,oB] at h;obtain⟨fv,hf,h⟩:=h;simp only[hc,hf] at ht
    cases fv<;> simp only[reduceCtorEq] at h
    exact(hq _ _ _ _ _ ht h).1

/-! ### The run in the text's order -/
def ZSf (P:Program) (call:FuncId→List AV→St→Option (AV×St)) (prims:Prims) (ops:Array Oper) (b:Array Nat) (j:Nat) (f:List AV) (s:St) (v:AV) (f' :List AV) (s' :St):Prop:=
 ∃o,ops[j]? =some o∧f' =aPut f o.dst v∧
  ((Region.wanted o (ZBP ops f)=true∧(ZCm P prims f o.op=true→lone prims ops b j=true)∧aOp P call o f s=some (v,s'))∨
   (Region.wanted o (ZBP ops f)=false∧v= .undef∧s' =s))
theorem ZKR {ops:Array Oper} {b:Array Nat}:∀(k i:Nat) {fr fr' :List AV} {s s' :St},ZHp P call prims ops b (List.range' i k) fr s=some (fr',s')→
  ∃(frs:Nat→List AV) (ss:Nat→St) (vs:Nat→AV),frs i=fr∧ss i=s∧frs (i+k)=fr' ∧ss (i+k)=s' ∧∀j,i≤j→j<i+k→ZSf P call prims ops b j (frs j) (ss j) (vs j) (frs (j+1)) (ss (j+1))
 | 0,i,fr,fr',s,s',h=>by
  simp only[List.range'_zero,ZHp] at h;injection h with h;injection h with e1 e2
  exact⟨fun _=>fr,fun _=>s,fun _=> .undef,rfl,rfl,e1,e2,fun j h1 h2=>by omega⟩
 | k+1,i,fr,fr',s,s',h=>by
  simp only[List.range'_succ,ZHp] at h
  cases ho:ops[i]? with
  | none=>simp[ho] at h
  | some o=>
   simp only[ho] at h;have key:∀v s1,ZSf P call prims ops b i fr s v (aPut fr o.dst v) s1→ZHp P call prims ops b (List.range' (i+1) k) (aPut fr o.dst v) s1=some (fr',s')→
     ∃(frs:Nat→List AV) (ss:Nat→St) (vs:Nat→AV),frs i=fr∧ss i=s∧frs (i+(k+1))=fr' ∧ss (i+(k+1))=s' ∧∀j,i≤j→j<i+(k+1)→ZSf P call prims ops b j (frs j) (ss j) (vs j) (frs (j+1)) (ss (j+1)):=by
    intro v s1 hst hr;obtain⟨frs,ss,vs,h1,h2,h3,h4,h5⟩:=ZKR k (i+1) hr;have e:i+(k+1)=i+1+k:=by omega
    refine⟨fun m=>if m=i then fr else frs m,fun m=>if m=i then s else ss m,fun m=>if m=i then v else vs m,by simp,by simp,?_,?_,?_⟩
    ·simp only[e];rw[if_neg (by omega)];exact h3
    ·simp only[e];rw[if_neg (by omega)];exact h4
    intro j hj1 hj2;by_cases hji:j=i
    ·subst hji;simp only[if_true];rw[if_neg (by omega),if_neg (by omega),h1,h2]
     exact hst
    simp only[if_neg hji];rw[if_neg (by omega),if_neg (by omega)]
    exact h5 j (by omega) (by omega)
   split at h
   ·rename_i hw;split at h
    ·cases h
    rename_i hl;split at h
    ·rename_i v s1 hop;exact key v s1 ⟨o,ho,rfl, .inl ⟨hw,fun ht=>by simpa[ht] using hl,hop⟩⟩ h
    cases h
   rename_i hw;exact key .undef s ⟨o,ho,rfl, .inr ⟨by simpa using hw,rfl,rfl⟩⟩ h

/-! ### Who wrote last -/
def ZG0 (ops:Array Oper) (vs:Nat→AV) (fr:List AV) (S:Nat→Bool) (t:Tmp):Nat→Option AV
 | 0=>fr[t]?
 | m+1=>if S m && ((ops[m]?).bind (·.dst))==some t then(fr[t]?).map fun _=>vs m else ZG0 ops vs fr S t m
theorem ZC9 {ops:Array Oper} {vs:Nat→AV} {fr:List AV} {S S' :Nat→Bool} {t:Tmp}:∀(m:Nat),(∀j,j<m→(ops[j]?).bind (·.dst)=some t→S j=S' j)→ZG0 ops vs fr S t m=ZG0 ops vs fr S' t m
 | 0,_=>rfl
 | m+1,h=>by
  simp only[ZG0];rw[ZC9 m fun j hj=>h j (by omega)]
  by_cases hd:(ops[m]?).bind (·.dst)=some t
  ·rw[h m (by omega) hd]
  have hb:((ops[m]?).bind (·.dst)==some t)=false:=by simpa using hd
  simp only[hb,Bool.and_false]
theorem ZHM {ops:Array Oper} {vs:Nat→AV} {fr:List AV} {S:Nat→Bool} {t:Tmp} (i:Nat):∀(m:Nat),i≤m→(∀j,i≤j→j<m→(ops[j]?).bind (·.dst)=some t→S j=false)→ZG0 ops vs fr S t m=ZG0 ops vs fr S t i
 | 0,hi,_=>by
  have:i=0:=by omega
  subst this;rfl
 | m+1,hi,h=>by
  by_cases e:i=m+1
  ·subst e;rfl
  simp only[ZG0];rw[ZHM i m (by omega) fun j h1 h2=>h j h1 (by omega)]
  by_cases hd:(ops[m]?).bind (·.dst)=some t
  ·rw[h m (by omega) (by omega) hd];simp
  have hb:((ops[m]?).bind (·.dst)==some t)=false:=by simpa using hd
  simp only[hb,Bool.and_false,Bool.false_eq_true,if_false]
theorem ZOi {fr:List AV} {d:Option Tmp} {v:AV} (t:Tmp):(aPut fr d v)[t]? =if d==some t then(fr[t]?).map fun _=>v else fr[t]? :=by
 cases d with
 | none=>rfl
 | some d=>
  simp only[aPut];by_cases h:d=t
  ·subst h;have hb:(some d==some d)=true:=by simp
   rw[hb,if_pos rfl,List.getElem?_set,if_pos rfl]
   cases hx:fr[d]? with
   | none=>rw[List.getElem?_eq_none_iff] at hx;rw[if_neg (by omega)];rfl
   | some x=>have:=(List.getElem?_eq_some_iff.1 hx).1;rw[if_pos this];rfl
  have hb:(some d==some t)=false:=by simpa using h
  rw[hb];simp[List.getElem?_set,h]
theorem ZOj {fr:List AV} {d:Option Tmp} {v:AV}:(aPut fr d v).length=fr.length:=by cases d<;> simp[aPut]
def ZFp (tn:Nat→Bool) (ss:Nat→St) (s:St) (S:Nat→Bool):Nat→St
 | 0=>s
 | m+1=>if S m && tn m then ss (m+1) else ZFp tn ss s S m
theorem ZDA {tn:Nat→Bool} {ss:Nat→St} {s:St} {S S' :Nat→Bool}:∀(m:Nat),(∀j,j<m→tn j=true→S j=S' j)→ZFp tn ss s S m=ZFp tn ss s S' m
 | 0,_=>rfl
 | m+1,h=>by
  simp only[ZFp];rw[ZDA m fun j hj=>h j (by omega)]
  by_cases ht:tn m=true
  ·rw[h m (by omega) ht]
  have ht:tn m=false:=by simpa using ht
  simp[ht]
theorem ZHN {tn:Nat→Bool} {ss:Nat→St} {s:St} {S:Nat→Bool} (i:Nat):∀(m:Nat),i≤m→(∀j,i≤j→j<m→tn j=true→S j=false)→ZFp tn ss s S m=ZFp tn ss s S i
 | 0,hi,_=>by
  have:i=0:=by omega
  subst this;rfl
 | m+1,hi,h=>by
  by_cases e:i=m+1
  ·subst e;rfl
  simp only[ZFp];rw[ZHN i m (by omega) fun j h1 h2=>h j h1 (by omega)]
  by_cases ht:tn m=true
  ·rw[h m (by omega) (by omega) ht];simp
  have ht:tn m=false:=by simpa using ht
  simp[ht]

theorem ZOk {tn:Nat→Bool} {ss:Nat→St} {s:St} {S:Nat→Bool} (h0:ss 0=s):∀n,∃q,q≤n∧ZFp tn ss s S n=ss q∧(∀j,q≤j→j<n→tn j=true→S j=false)∧(q=0∨∃p,q=p+1∧S p=true∧tn p=true)
 | 0=>⟨0,Nat.le_refl _,h0.symm,fun j _ h=>absurd h (Nat.not_lt_zero j), .inl rfl⟩
 | n+1=>by
  unfold ZFp
  cases hb:S n && tn n with
  | true=>
   rw[if_pos rfl];simp only[Bool.and_eq_true] at hb;exact⟨n+1,Nat.le_refl _,rfl,fun j h1 h2=>by omega, .inr ⟨n,rfl,hb.1,hb.2⟩⟩
  | false=>
   rw[if_neg (by simp)]
   obtain⟨q,h1,h2,h3,h4⟩:=ZOk (tn:=tn) (S:=S) h0 n;refine⟨q,by omega,h2,fun j g1 g2 g3=> ?_,h4⟩
   by_cases e:j=n
   ·subst e;rw[g3,Bool.and_true] at hb;exact hb
   exact h3 j g1 (by omega) g3
theorem ZNb {ops:Array Oper} (hlt:∀(i:Nat) (o:Oper),ops[i]? =some o→∀e∈o.after,Region.binds .any e=true→e.on<i):∀(i j:Nat),((Region.before ops).getD i 0).testBit j=true→j<i:=by
 intro i;induction i using Nat.strongRecOn with
 | ind i ih=>
  intro j h
  cases ho:ops[i]? with
  | none=>
   have hsz:(Region.before ops).size=ops.size:=by rw[ZI2,ZHw];simp
   have:(Region.before ops)[i]? =none:=by rw[Array.getElem?_eq_none_iff] at ho ⊢;omega
   rw[Array.getD_eq_getD_getElem?,this] at h;simp at h
  | some o=>
   obtain⟨e,he,hb,h'⟩:=(ZGy ho (hlt i o ho) j).1 h;have h1:=hlt i o ho e he hb;rcases h' with rfl | h'
   ·exact h1
   exact Nat.lt_trans (ih e.on h1 j h') h1

def left (S:Nat→Bool):Nat→Nat
 | 0=>0
 | m+1=>left S m+if S m then 0 else 1
theorem ZMD {S:Nat→Bool}:∀(m:Nat),left S m=0→∀j,j<m→S j=true
 | 0,_,j,hj=>by omega
 | m+1,h,j,hj=>by
  simp only[left] at h;by_cases e:j=m
  ·subst e
   cases hs:S j with
   | true=>rfl
   | false=>simp[hs] at h
  exact ZMD m (by omega) j (by omega)
theorem ZME {S S' :Nat→Bool}:∀(m:Nat),(∀j,j<m→S' j=S j)→left S' m=left S m
 | 0,_=>rfl
 | m+1,h=>by simp only[left];rw[ZME m fun j hj=>h j (by omega),h m (by omega)]
theorem ZOl {S S' :Nat→Bool} {i:Nat} (hi:S i=false) (hi' :S' i=true) (hne:∀j,j≠i→S' j=S j):∀(m:Nat),i<m→left S m=left S' m+1
 | 0,h=>by omega
 | m+1,h=>by
  simp only[left];by_cases e:i=m
  ·subst e;rw[hi,hi',ZME i fun j hj=>hne j (by omega)]
   simp
  rw[ZOl hi hi' hne m (by omega),hne m (Ne.symm e)]
  omega

theorem ZKS {ops:Array Oper} {b:Array Nat} {i:Nat} {o:Oper} (h:ZSW ops b i o=false) {d:Tmp} (hd:o.dst=some d) {j:Nat} {p:Oper} (hj:ops[j]? =some p) (hne:j≠i) (hx:d∈p.looksAt ops∨p.dst=some d):comparable b i j=true:=by
 unfold ZSW at h;rw[hd] at h;simp only[List.any_eq_false,List.mem_range] at h;have h1:=h j (Array.getElem?_eq_some_iff.1 hj).1;simp only[hj] at h1
 cases hc:comparable b i j with
 | true=>rfl
 | false=>
  exfalso
  apply h1
  have e1:(j !=i)=true:=by simpa using hne
  rw[e1,hc];rcases hx with hx | hx
  ·simp[hx]
  simp[hx]
theorem ZI4 {ops:Array Oper} {b:Array Nat} {i:Nat} (h:lone prims ops b i=true) {j:Nat} {p:Oper} (hj:ops[j]? =some p) (hne:j≠i) (hl:looks p.op=true):comparable b i j=true∨((ZPf ops i=true∨ZSY j (ZGs ops i)=true)∧seer prims p.op=true∧ZJ2 prims ops=true):=by
 unfold lone at h;simp only[List.all_eq_true,List.mem_range] at h;have h1:=h j (Array.getElem?_eq_some_iff.1 hj).1;simp only[hj,hl,Bool.not_true,Bool.or_false,Bool.or_eq_true,beq_iff_eq,hne,false_or,Bool.and_eq_true] at h1;rcases h1 with h1 | h1
 ·exact .inl h1
 exact .inr ⟨h1.1.1,h1.1.2,h1.2⟩
/-! ### Appends to rows of the region's own, and loads from elsewhere -/
def rowU (v:AV):Prop:=v= .undef∨v= .nils∨(∃z,v= .emp z)∨∃k xs c,v= .vec k xs c
def Mild (s s' :St):Prop:=s.c≤s'.c∧s'.g=s.g∧∀n cs,n<s.c→(hget s'.h n=some (.cells cs)↔hget s.h n=some (.cells cs))
theorem Mild.refl (s:St):Mild s s:=⟨Nat.le_refl _,rfl,fun _ _ _=>Iff.rfl⟩
theorem Mild.new (s:St) (o:AO):Mild s (s.new o):=⟨Nat.le_succ _,rfl,fun n cs hn=>by
 show hget ((s.c,o)::s.h) n=_↔_
 have:¬n=s.c:=by omega
 simp only[hget,this,if_false]⟩
theorem Mild.delTok {s:St} {t:Nat} (h:hget s.h t=some .tok):Mild s (s.del t):=⟨Nat.le_refl _,rfl,fun n cs hn=>by
 show hget (hdel s.h t) n=_↔_
 by_cases e:n=t
 ·subst e;rw[ZDK,h];exact⟨fun e=>(by cases e),fun e=>(by cases e)⟩
 rw[ZB7 e]⟩
theorem Mild.trans {s s1 s2:St} (h:Mild s s1) (k:Mild s1 s2):Mild s s2:=⟨Nat.le_trans h.1 k.1,k.2.1.trans h.2.1,fun n cs hn=>(k.2.2 n cs (Nat.lt_of_lt_of_le hn h.1)).trans (h.2.2 n cs hn)⟩
def Wf (s:St):Prop:=∀n o,hget s.h n=some o→n<s.c
theorem Wf.new {s:St} (h:Wf s) (o:AO):Wf (s.new o):=fun n x hx=>by
 have hx:(if n=s.c then some o else hget s.h n)=some x:=hx
 show n<s.c+1
 split at hx
 ·omega
 have:=h n x hx;omega
theorem Wf.del {s:St} (h:Wf s) (t:Nat):Wf (s.del t):=fun n x hx=>h n x (ZBk hx).2
theorem Wf.put {s:St} (h:Wf s) {m:Nat} {o o' :AO} (hm:hget s.h m=some o):Wf (s.put m o'):=fun n x hx=>by
 rcases ZL0 hm hx with⟨rfl,_⟩ | ⟨_,hx⟩
 ·exact h _ _ hm
 exact h _ _ hx
theorem ZHO {k bytes:Nat} {xs ys:List AV} {s s' :St} {v:AV} (h:ZFo k bytes xs ys s=some (v,s')):rowU v∧Mild s s' ∧(Wf s→Wf s'):=by
 unfold ZFo at h;split at h
 ·injection h with h;injection h with e1 e2
  subst e1;subst e2;exact⟨.inr (.inr (.inr ⟨_,_,_,rfl⟩)),Mild.new _ _,fun hw=>hw.new _⟩
 cases h
theorem ZG1 {ts:Array TypeId} {a x:AV} {s s' :St} {v:AV} (h:ZC7 P ts a x s=some (v,s')) (ha:rowU a):rowU v∧Mild s s' ∧(Wf s→Wf s'):=by
 unfold ZC7 at h;simp only[oC,oB] at h;obtain⟨t,_,u,_,h⟩:=h;split at h
 ·simp only[oB] at h;obtain⟨t1,_,h⟩:=h;split at h
  ·cases h
  ·cases h
  simp only[oB] at h;obtain⟨k,_,i,_,z,_,ys,_,h⟩:=h;split at h
  ·cases h
  rcases ha with rfl | rfl | ⟨z,rfl⟩ | ⟨k',xs,c,rfl⟩
  ·cases h
  ·simp only at h
   split at h
   ·injection h with h;injection h with e1 e2;subst e1;subst e2
    exact⟨.inr (.inl rfl),Mild.refl _,fun hw=>hw⟩
   exact ZHO h
  ·simp only at h
   split at h
   ·injection h with h;injection h with e1 e2;subst e1;subst e2
    exact⟨.inr (.inr (.inl ⟨_,rfl⟩)),Mild.refl _,fun hw=>hw⟩
   split at h
   ·exact ZHO h
   cases h
  simp only at h
  split at h
  ·cases h
  split at h
  ·injection h with h;injection h with e1 e2;subst e1;subst e2
   exact⟨.inr (.inr (.inr ⟨_,_,_,rfl⟩)),Mild.refl _,fun hw=>hw⟩
  cases c with
  | tight=>exact ZHO h
  | unk=>cases h
  | tok t=>
   simp only at h
   split at h
   ·rename_i ht;have:=ZHO h
    exact⟨this.1,(Mild.delTok ht).trans this.2.1,fun hw=>this.2.2 (hw.del _)⟩
   cases h
 cases h
theorem ZI5 {ops:Array Oper} {vs:Nat→AV} {fr:List AV} {t:Tmp}:∀(m:Nat),(∀d,ZPe ops t m=some d→d<m∧ZG0 ops vs fr (fun _=>true) t m=(fr[t]?).map fun _=>vs d)∧(ZPe ops t m=none→ZG0 ops vs fr (fun _=>true) t m=fr[t]?)
 | 0=>⟨fun d h=>(by cases h),fun _=>rfl⟩
 | m+1=>by
  obtain⟨h1,h2⟩:=ZI5 (ops:=ops) (vs:=vs) (fr:=fr) (t:=t) m;simp only[ZPe,ZG0,Bool.true_and];split
  ·refine⟨fun d h=> ?_,fun h=>(by cases h)⟩
   injection h with h
   subst h;exact⟨Nat.lt_succ_self _,rfl⟩
  exact⟨fun d h=>⟨Nat.lt_succ_of_lt (h1 d h).1,(h1 d h).2⟩,h2⟩
theorem ZI6 {ops:Array Oper} (h:ZKM P ops=true):P.follows .mixedOrders=true∧∀(i:Nat) (o:Oper),ops[i]? =some o→ZSW ops (Region.before ops) i o=false∧∀e∈o.after,Region.binds .any e=true→e.on<i:=by
 unfold ZKM at h;simp only[Bool.and_eq_true,List.all_eq_true] at h;refine⟨h.1,fun i o ho=> ?_⟩
 have hm:(o,i)∈ops.toList.zipIdx:=by
  rw[List.mem_zipIdx_iff_getElem?];simpa using ho
 have h1:=h.2 (o,i) hm;simp only[Bool.not_eq_true',Array.all_eq_true_iff_forall_mem,decide_eq_true_eq] at h1;exact⟨h1.1.1,fun e he hb=>by
  have:=h1.1.2 e he
  rw[hb] at this;simpa using this⟩

def tnOf (P:Program) (prims:Prims) (ops:Array Oper) (frs:Nat→List AV) (j:Nat):Bool:=match ops[j]? with
  | some o=>Region.wanted o (ZBP ops (frs j)) && ZCm P prims (frs j) o.op
  | none=>false
structure DInv (P:Program) (prims:Prims) (base:Nat) (ρ:Pl) (X:Reg) (w0:World) (ops:Array Oper) (fr:List AV) (s:St) (frs:Nat→List AV) (ss:Nat→St) (vs:Nat→AV) (fuel:Nat) (listed:Array Bool) (F:List AV) (T:St) (a:Act) (w:World):Prop where
 sz:listed.size=ops.size
 cl:∀k j,listed.getD k false=true→((Region.before ops).getD k 0).testBit j=true→listed.getD j false=true
 len:F.length=fr.length
 hF:∀t:Tmp,F[t]? =ZG0 ops vs fr (fun j=>listed.getD j false) t ops.size
 hT:T=ZFp (tnOf P prims ops frs) ss s (fun j=>listed.getD j false) ops.size
 fu:left (fun j=>listed.getD j false) ops.size≤fuel
 p:PostF base ρ X s w0 F T a w
variable {base:Nat}
theorem ZQk (hcall:ZHJ P base call) (hq:ZSe prims call) {ops:Array Oper} {Q:Exit→Act→World→Prop} {fr fr' :List AV} {s s' :St} {a0:Act} {w0:World} {ρ:Pl} {X:Reg} (hok:ZKM P ops=true) (hb:base≤w0.heap.size)
  (h:Sim base ρ X s w0) (ho:ZHp P call prims ops (Region.before ops) (List.range ops.size) fr s=some (fr',s'))
  (hQ:∀a w,PostF base ρ X s w0 fr' s' a w→Q .normal a w):
  ∃(frs:Nat→List AV) (ss:Nat→St) (vs:Nat→AV),frs 0=fr∧ss 0=s∧(∀j,j<ops.size→ZSf P call prims ops (Region.before ops) j (frs j) (ss j) (vs j) (frs (j+1)) (ss (j+1)))∧
   ∀(M:Nat→Array Bool→Act→World→Prop),(∀listed F T a w,DInv P prims base ρ X w0 ops fr s frs ss vs 0 listed F T a w→Region.ready .any ops listed=[]→Q .normal a w→M 0 listed a w)→
    (∀fuel listed F T a w,DInv P prims base ρ X w0 ops fr s frs ss vs (fuel+1) listed F T a w→(Region.ready .any ops listed=[]→Q .normal a w)→(∀i∈Region.ready .any ops listed,wpOp P ops Q i (M fuel (listed.setIfInBounds i true)) a w)→M (fuel+1) listed a w)→
    ∀fuel listed F T a w,DInv P prims base ρ X w0 ops fr s frs ss vs fuel listed F T a w→M fuel listed a w:=by
 obtain⟨hm,hall⟩:=ZI6 hok;have hlt:∀(i:Nat) (o:Oper),ops[i]? =some o→∀e∈o.after,Region.binds .any e=true→e.on<i:=fun i o hi=>(hall i o hi).2
 rw[List.range_eq_range'] at ho;obtain⟨frs,ss,vs,t0,t1,t2,t3,t4⟩:=ZKR ops.size 0 ho;rw[Nat.zero_add] at t2 t3;let B:=Region.before ops
 let n:=ops.size
 let tn:Nat→Bool:=tnOf P prims ops frs
 have tframe:∀m,m≤n→∀t:Tmp,(frs m)[t]? =ZG0 ops vs fr (fun _=>true) t m:=by
  intro m;induction m with
  | zero=>intro _ t;rw[t0];rfl
  | succ m ih=>
   intro hm t;obtain⟨o,h1,h2,_⟩:=t4 m (by omega) (by omega)
   have hl:∀x:Tmp,((frs m)[x]?).isSome=(fr[x]?).isSome:=by
    have:∀k,k≤m→(frs k).length=fr.length:=by
     intro k;induction k with
     | zero=>intro _;rw[t0]
     | succ k ihk=>
      intro hk;obtain⟨_,_,h2',_⟩:=t4 k (by omega) (by have:m<n:=hm;show k<0+ops.size;have:n=ops.size:=rfl;omega)
      rw[h2',ZOj];exact ihk (by omega)
    intro x;have hlen:=this m (Nat.le_refl m);by_cases hx:x<fr.length
    ·simp[hx,hlen]
    simp[hx,hlen]
   rw[h2,ZOi];simp only[ZG0,h1,Option.bind_some,Bool.true_and];split
   ·have:=hl t
    cases e1:(frs m)[t]? <;> cases e2:fr[t]? <;> simp[e1,e2] at this ⊢
   exact ih (by omega) t
 have tstate:∀m,m≤n→ss m=ZFp tn ss s (fun _=>true) m:=by
  intro m;induction m with
  | zero=>intro _;rw[t1];rfl
  | succ m ih=>
   intro hm;obtain⟨o,h1,h2,h3⟩:=t4 m (by omega) (by omega)
   simp only[ZFp,Bool.true_and]
   cases ht:tn m with
   | true=>rfl
   | false=>
    simp only[Bool.false_eq_true,if_false];rw[←ih (by omega)]
    have ht' :(Region.wanted o (ZBP ops (frs m)) && ZCm P prims (frs m) o.op)=false:=by
     have:tn m=(Region.wanted o (ZBP ops (frs m)) && ZCm P prims (frs m) o.op):=by show tnOf P prims ops frs _=_;unfold tnOf;rw[h1]
     rw[←this];exact ht
    rcases h3 with⟨hw,_,hop⟩ | ⟨hw,_,e⟩
    ·rw[hw,Bool.true_and] at ht';exact ZQj hq ht' hop
    exact e
 have rowAt:∀k j,j<n→ZSX ops k j=true→rowU (vs j)∧Mild (ss j) (ss (j+1))∧(Wf (ss j)→Wf (ss (j+1))):=by
  intro k;induction k with
  | zero=>intro j _ h;cases h
  | succ k ih=>
   intro j hj hm;unfold ZSX at hm;obtain⟨o,h1,h2,h3⟩:=t4 j (by omega) (by show j<0+ops.size;have:n=ops.size:=rfl;omega)
   rw[h1,Option.bind_some] at hm;split at hm
   ·rename_i t ht;split at hm
    ·rename_i d hd;obtain⟨hdj,hl⟩:=(ZI5 (vs:=vs) (fr:=fr) j).1 d hd;have hvd:rowU (vs d):=by
      rcases Bool.or_eq_true_iff.1 hm with hb | hk
      ·obtain⟨p,p1,p2,p3⟩:=t4 d (by omega) (by show d<0+ops.size;have:n=ops.size:=rfl;omega)
       rw[p1,Option.map_some,beq_iff_eq] at hb;injection hb with hb
       rcases p3 with⟨_,_,hop⟩ | ⟨_,e,_⟩
       ·obtain⟨dst,op,type,pos,after,guard⟩:=p
        cases op<;> simp only[ZQT,reduceCtorEq,Bool.false_eq_true] at hb
        simp only[aOp,oC,oB] at hop;obtain⟨ps,_,r,hr,hop⟩:=hop;injection hop with hop;injection hop with e1 e2
        subst e1;unfold ZC8 at hr;simp only[oC,oB] at hr;obtain⟨_,_,hr⟩:=hr;split at hr
        ·simp only[oB] at hr;obtain⟨_,_,_,_,hr⟩:=hr;split at hr
         ·cases hr
         simp only[oB] at hr;obtain⟨_,_,hr⟩:=hr;split at hr
         ·cases hr
         simp only[oB] at hr;obtain⟨_,_,hr⟩:=hr;split at hr
         ·injection hr with hr
          exact .inr (.inr (.inr ⟨_,_,_,hr.symm⟩))
         cases hr
        cases hr
       exact .inl e
      exact(ih d (by omega) hk).1
     rcases h3 with⟨_,_,hop⟩ | ⟨_,e,es⟩
     ·obtain⟨dst,op,type,pos,after,guard⟩:=o;unfold ZQS at ht;split at ht
      ·rename_i c args ts hop';split at ht
       ·rename_i t' rest hargs;injection ht with ht
        subst ht;subst hop';simp only[aOp,hargs,oC,oB] at hop;obtain⟨aS,has,hop⟩:=hop;unfold ZBq at has;rw[List.mapM_cons] at has;simp only[oC,oB,ZAp,Option.pure_def] at has;obtain⟨a1,ha1,a2,_,has⟩:=has;injection ha1 with ha1
        injection has with has
        subst has;have ha:rowU a1:=by
         rw[←ha1,List.getD_eq_getElem?_getD,tframe j (by omega) _,hl]
         cases fr[t']? with
         | none=>exact .inl rfl
         | some _=>exact hvd
        simp only[ZCI] at hop;split at hop<;> first
         | (rename_i e1 e2;cases e1;done)
         | skip
        all_goals first
         | (rename_i e2;injection e2 with e3 e4;subst e3;exact ZG1 hop ha)
         | (rename_i e2 _;injection e2 with e3 e4;subst e3;exact ZG1 hop ha)
         | (rename_i _ e2;injection e2 with e3 e4;subst e3;exact ZG1 hop ha)
         | (cases hop;done)
         | skip
       cases ht
      cases ht
     rw[es];exact⟨.inl e,Mild.refl _,fun hw=>hw⟩
    cases hm
   cases hm
 have mildAt:∀j,j<n→ZPf ops j=true→Mild (ss j) (ss (j+1))∧(Wf (ss j)→Wf (ss (j+1))):=by
  intro j hj hm;rcases Bool.or_eq_true_iff.1 hm with hm | hm
  ·exact(rowAt _ j hj hm).2
  obtain⟨o,h1,h2,h3⟩:=t4 j (by omega) (by show j<0+ops.size;have:n=ops.size:=rfl;omega)
  rw[h1] at hm;rcases h3 with⟨_,_,hop⟩ | ⟨_,_,es⟩
  ·obtain⟨dst,op,type,pos,after,guard⟩:=o;have nv:∀{v:AV} {r:AV×St},ZC6 v (ss j)=some r→Mild (ss j) r.2∧(Wf (ss j)→Wf r.2):=by
    intro v r hr;unfold ZC6 at hr;split at hr
    ·injection hr with hr
     rw[←hr];exact⟨Mild.new _ _,fun hw=>hw.new _⟩
    cases hr
   cases op<;> simp only[ZVz,Bool.false_eq_true] at hm
   ·simp only[aOp,ZIi,oC,oB] at hop;obtain⟨z,_,hop⟩:=hop;exact nv hop
   simp only[aOp,oC,oB] at hop;obtain⟨z,_,hop⟩:=hop;exact nv hop
  rw[es];exact⟨Mild.refl _,fun hw=>hw⟩
 have tameAt:ZJ2 prims ops=true→∀j,j<n→(ss j).c≤(ss (j+1)).c∧(ss (j+1)).g=(ss j).g∧(Wf (ss j)→Wf (ss (j+1))):=by
  intro hR j hj;obtain⟨o,h1,h2,h3⟩:=t4 j (by omega) (by show j<0+ops.size;have:n=ops.size:=rfl;omega)
  unfold ZJ2 at hR;rw[List.all_eq_true] at hR;have hR:=hR j (List.mem_range.2 hj);rw[h1] at hR;rcases Bool.or_eq_true_iff.1 hR with hm | ht
  ·have:=mildAt j hj hm
   exact⟨this.1.1,this.1.2.1,this.2⟩
  rcases h3 with⟨_,_,hop⟩ | ⟨_,_,es⟩
  ·have stay:ZCm P prims (frs j) o.op=false→(ss j).c≤(ss (j+1)).c∧(ss (j+1)).g=(ss j).g∧(Wf (ss j)→Wf (ss (j+1))):=fun hn=>by rw[ZQj hq hn hop];exact⟨Nat.le_refl _,rfl,fun hw=>hw⟩
   have still:looks o.op=false→(ss j).c≤(ss (j+1)).c∧(ss (j+1)).g=(ss j).g∧(Wf (ss j)→Wf (ss (j+1))):=fun hn=>by rw[(ZQi hn hop).1];exact⟨Nat.le_refl _,rfl,fun hw=>hw⟩
   cases hop' :o.op with
   | load t x=>exact stay (by rw[hop'];rfl)
   | store t x y=>
    obtain⟨dst,op,type,pos,after,guard⟩:=o;have hop' :op= .store t x y:=hop'
    subst hop';simp only[aOp,oC,oB] at hop;obtain⟨x1,_,x2,_,s2,hs2,hop⟩:=hop;injection hop with hop;injection hop with e1 e2
    subst e2;unfold ZED at hs2;split at hs2
    ·split at hs2
     ·unfold ZBu at hs2;split at hs2
      ·split at hs2
       ·rename_i hgc _;injection hs2 with hs2
        rw[←hs2];exact⟨Nat.le_refl _,rfl,fun hw=>hw.put hgc⟩
       cases hs2
      cases hs2
     cases hs2
    cases hs2
   | call c=>
    obtain⟨callee,args,ts⟩:=c;rw[hop'] at ht
    cases callee with
    | builtin b=>cases b<;> first | exact stay (by rw[hop'];rfl) | (simp[tame,looks] at ht;done)
    | value f=>
     cases f with
     | func g=>
      refine stay ?_
      have hg:(prims g).isSome=true:=ht
      rw[hop'];show(prims g).isNone=false
      cases hpg:prims g with
      | none=>rw[hpg] at hg;cases hg
      | some _=>rfl
     | _=>simp[tame,looks] at ht
    | invoke f g=>simp[tame,looks] at ht
   | _=>exact still (by rw[hop'] at ht ⊢;simpa[tame] using ht)
  rw[es];exact⟨Nat.le_refl _,rfl,fun hw=>hw⟩
 have cAt:ZJ2 prims ops=true→∀j,j≤n→Wf (ss j)∧(ss j).g=s.g:=by
  intro hR j;induction j with
  | zero=>intro _;rw[t1];exact⟨h.lt,rfl⟩
  | succ j ih=>
   intro hj;have h1:=ih (by omega)
   have h2:=tameAt hR j (by omega)
   exact⟨h2.2.2 h1.1,h2.2.1.trans h1.2⟩
 have storeAt:∀j d,j<n→ZGs ops j=some d→d<j∧∀m cs,m<(ss d).c→(hget (ss (j+1)).h m=some (.cells cs)↔hget (ss j).h m=some (.cells cs)):=by
  intro j d hj hf;obtain⟨o,h1,h2,h3⟩:=t4 j (by omega) (by show j<0+ops.size;have:n=ops.size:=rfl;omega)
  unfold ZGs at hf;rw[h1,Option.map_some] at hf;split at hf
  ·rename_i ty a y hop';injection hop' with hop'
   split at hf
   ·rename_i d' hd;split at hf
    ·rename_i te hal;injection hf with hf
     subst hf;obtain⟨hdj,hl⟩:=(ZI5 (vs:=vs) (fr:=fr) j).1 d' hd;refine⟨hdj,fun m cs hm=> ?_⟩
     rcases h3 with⟨_,_,hop⟩ | ⟨_,_,es⟩
     ·obtain⟨dst,op,type,pos,after,guard⟩:=o;have hop' :op= .store ty (.tmp a) y:=hop'
      subst hop';simp only[aOp,oC,oB,ZAp] at hop;obtain⟨x1,hx1,x2,_,s2,hs2,hop⟩:=hop;injection hx1 with hx1
      injection hop with hop;injection hop with e1 e2
      subst e2;obtain⟨p,p1,p2,p3⟩:=t4 d' (by omega) (by show d' <0+ops.size;have:n=ops.size:=rfl;omega)
      rw[p1,Option.map_some] at hal;injection hal with hal
      have hvd:vs d' = .undef∨vs d' = .ptr (ss d').c 0:=by
       rcases p3 with⟨_,_,hop⟩ | ⟨_,e,_⟩
       ·obtain⟨dst,op,type,pos,after,guard⟩:=p;have hal:op= .alloc te:=hal
        subst hal;simp only[aOp,ZIi,oC,oB] at hop;obtain⟨z,_,hop⟩:=hop;unfold ZC6 at hop;split at hop
        ·injection hop with hop;injection hop with e1 e2
         exact .inr e1.symm
        cases hop
       exact .inl e
      have hx:x1= .undef∨x1= .ptr (ss d').c 0:=by
       rw[←hx1,List.getD_eq_getElem?_getD,tframe j (by omega) _,hl]
       cases fr[a]? with
       | none=>exact .inl rfl
       | some _=>exact hvd
      rcases hx with rfl | rfl
      ·simp[ZED] at hs2
      unfold ZED at hs2;simp only at hs2
      split at hs2
      ·unfold ZBu at hs2;split at hs2
       ·split at hs2
        ·injection hs2 with hs2
         rw[←hs2];show hget (hset (ss j).h (ss d').c _) m=_↔_
         rw[ZCo (by omega)]
        cases hs2
       cases hs2
      cases hs2
     rw[es]
    cases hf
   cases hf
  cases hf
 have monoAt:ZJ2 prims ops=true→∀b a,a≤b→b≤n→(ss a).c≤(ss b).c:=by
  intro hR b;induction b with
  | zero=>intro a ha _;rw[show a=0 by omega];exact Nat.le_refl _
  | succ b ih=>
   intro a ha hb;by_cases e:a=b+1
   ·rw[e];exact Nat.le_refl _
   exact Nat.le_trans (ih a (by omega) (by omega)) (tameAt hR b (by omega)).1
 have viewAt:ZJ2 prims ops=true→∀b a,a≤b→b≤n→(∀j,a≤j→j<b→tn j=true→ZPf ops j=true∨∃d,ZGs ops j=some d∧a≤d)→(ss a).c≤(ss b).c∧∀m cs,m<(ss a).c→(hget (ss b).h m=some (.cells cs)↔hget (ss a).h m=some (.cells cs)):=by
  intro hR b;induction b with
  | zero=>intro a ha _ _;rw[show a=0 by omega];exact⟨Nat.le_refl _,fun _ _ _=>Iff.rfl⟩
  | succ b ih=>
   intro a ha hb hj;by_cases e:a=b+1
   ·rw[e];exact⟨Nat.le_refl _,fun _ _ _=>Iff.rfl⟩
   obtain⟨i1,i2⟩:=ih a (by omega) (by omega) (fun j h1 h2=>hj j h1 (by omega))
   cases ht:tn b with
   | true=>
    rcases hj b (by omega) (by omega) ht with hmj | ⟨d,hd,had⟩
    ·have hm:=(mildAt b (by omega) hmj).1
     exact⟨Nat.le_trans i1 hm.1,fun m cs hmc=>(hm.2.2 m cs (Nat.lt_of_lt_of_le hmc i1)).trans (i2 m cs hmc)⟩
    obtain⟨hdb,hst⟩:=storeAt b d (by omega) hd
    exact⟨Nat.le_trans i1 (tameAt hR b (by omega)).1,fun m cs hmc=>(hst m cs (Nat.lt_of_lt_of_le hmc (monoAt hR d a had (by omega)))).trans (i2 m cs hmc)⟩
   | false=>
    have:ss (b+1)=ss b:=by
     rw[tstate (b+1) hb];simp only[ZFp,ht,Bool.and_false,Bool.false_eq_true,if_false];exact(tstate b (by omega)).symm
    rw[this];exact⟨i1,i2⟩
 refine⟨frs,ss,vs,t0,t1,fun j hj=>t4 j (Nat.zero_le _) (by omega),fun M hM0 hMS=> ?_⟩
 have main:∀(fuel:Nat) (listed:Array Bool) (F:List AV) (T:St) (a:Act) (w:World),listed.size=n→
   (∀k j,listed.getD k false=true→(B.getD k 0).testBit j=true→listed.getD j false=true)→
   F.length=fr.length→(∀t:Tmp,F[t]? =ZG0 ops vs fr (fun j=>listed.getD j false) t n)→T=ZFp tn ss s (fun j=>listed.getD j false) n→
   left (fun j=>listed.getD j false) n≤fuel→PostF base ρ X s w0 F T a w→M fuel listed a w:=by
  intro fuel;induction fuel with
  | zero=>
   intro listed F T a w hsz hcl hlen hF hT hfu hp;have hS:=ZMD n (by omega:left (fun j=>listed.getD j false) n=0)
   have hend:Q .normal a w:=by
    refine hQ a w ?_
    have e1:F=fr' :=List.ext_getElem? fun t=>by
     rw[hF t,←t2,tframe n (Nat.le_refl n)];exact ZC9 n fun j hj _=>hS j hj
    have e2:T=s' :=by
     rw[hT,←t3,tstate n (Nat.le_refl n)];exact ZDA n fun j hj _=>hS j hj
    rw[←e1,←e2];exact hp
   refine hM0 listed F T a w ⟨hsz,hcl,hlen,hF,hT,hfu,hp⟩ ?_ hend
   rw[List.eq_nil_iff_forall_not_mem];intro i hi;obtain⟨h1,o,h2,_⟩:=mem_ready.1 hi;have hin:i<n:=(Array.getElem?_eq_some_iff.1 h2).1
   have h3:=hS i hin;simp only[Array.getD_eq_getD_getElem?] at h1 h3;have h4:listed[i]? =some listed[i]:=Array.getElem?_eq_getElem (by omega)
   rw[h4] at h1 h3;simp at h1 h3
   rw[h1] at h3;cases h3
  | succ fuel ih=>
   intro listed F T a w hsz hcl hlen hF hT hfu hp;have hget:∀j,j<n→listed.getD j true=listed.getD j false:=fun j hj=>by
    simp only[Array.getD_eq_getD_getElem?];rw[Array.getElem?_eq_getElem (by omega)];rfl
   refine hMS fuel listed F T a w ⟨hsz,hcl,hlen,hF,hT,hfu,hp⟩ (fun hr=> ?_) fun i hi=> ?_
   ·have hS:∀j,j<n→listed.getD j false=true:=by
     intro j;induction j using Nat.strongRecOn with
     | ind j ihj=>
      intro hj
      cases hs:listed.getD j false with
      | true=>rfl
      | false=>
       exfalso
       have hj' :ops[j]? =some ops[j]:=Array.getElem?_eq_getElem hj
       have:j∈Region.ready .any ops listed:=mem_ready.2 ⟨by rw[hget j hj];exact hs,ops[j],hj',fun e he hb=>ihj e.on (hlt j _ hj' e he hb) (Nat.lt_trans (hlt j _ hj' e he hb) hj)⟩
       rw[hr] at this;cases this
    refine hQ a w ?_
    have e1:F=fr' :=List.ext_getElem? fun t=>by
     rw[hF t,←t2,tframe n (Nat.le_refl n)];exact ZC9 n fun j hj _=>hS j hj
    have e2:T=s' :=by
     rw[hT,←t3,tstate n (Nat.le_refl n)];exact ZDA n fun j hj _=>hS j hj
    rw[←e1,←e2];exact hp
   obtain⟨h1,o,hoi,haft⟩:=mem_ready.1 hi;have hin:i<n:=(Array.getElem?_eq_some_iff.1 hoi).1
   have hSi:listed.getD i false=false:=by rw[←hget i hin];exact h1
   have hbef:∀j,(B.getD i 0).testBit j=true→listed.getD j false=true:=fun j hj=>by
    obtain⟨e,he,hbi,h'⟩:=(ZGy hoi (hlt i o hoi) j).1 hj;have:=haft e he hbi
    rcases h' with rfl | h'
    ·exact this
    exact hcl _ _ this h'
   have hcmp:∀j,comparable B i j=true∨comparable B j i=true→listed.getD j false=decide (j<i):=by
    intro j hj;have hj' :(B.getD i 0).testBit j=true∨(B.getD j 0).testBit i=true:=by
     rcases hj with hj | hj<;> simp only[comparable,Bool.or_eq_true] at hj
     ·exact hj
     exact hj.symm
    rcases hj' with hj' | hj'
    ·rw[hbef j hj',decide_eq_true (ZNb hlt i j hj')]
    have:i<j:=ZNb hlt j i hj'
    rw[decide_eq_false (by omega)]
    cases hs:listed.getD j false with
    | false=>rfl
    | true=>rw[hcl j i hs hj'] at hSi;cases hSi
   have hself:listed.getD i false=decide (i<i):=by rw[hSi];simp
   -- the slots that the operation looks at
   have factA:∀t:Tmp,t∈o.looksAt ops→F[t]? =(frs i)[t]? :=by
    intro t ht;have hw:∀j,j<n→(ops[j]?).bind (·.dst)=some t→listed.getD j false=decide (j<i):=by
     intro j hj hdst;by_cases e:j=i
     ·subst e;exact hself
     obtain⟨p,hp1,hp2⟩:=oB.1 hdst;exact hcmp j (.inr (ZKS (hall j p hp1).1 hp2 hoi (Ne.symm e) (.inl ht)))
    rw[hF t,tframe i (by omega) t,ZC9 (S' :=fun j=>decide (j<i)) n hw,ZHM i n (by omega) fun j h1 h2 _=>by simp;omega]
    exact ZC9 i fun j hj _=>by simp[hj]
   have hev:∀x∈o.op.operands,ZAp F x=ZAp (frs i) x:=fun x hx=>ZNa fun t e=>by
    subst e;have:=factA t (List.mem_append_left _ (List.mem_filterMap.2 ⟨.tmp t,by simpa using hx,rfl⟩))
    rw[List.getD_eq_getElem?_getD,List.getD_eq_getElem?_getD,this]
   have hwant:Region.wanted o (ZBP ops F)=Region.wanted o (ZBP ops (frs i)):=by
    unfold Region.wanted
    cases hg:o.guard with
    | none=>rfl
    | some gw=>
     obtain⟨g,want⟩:=gw;have:ZBP ops F g=ZBP ops (frs i) g:=by
      unfold ZBP
      cases ht:(ops[g]?).bind (·.dst) with
      | none=>rfl
      | some t=>
       have:=factA t (by simp[Oper.looksAt,hg,ht])
       simp only[Option.bind_some,this]
     simp only[this]
   have htn:tn i=(Region.wanted o (ZBP ops (frs i)) && ZCm P prims (frs i) o.op):=by show tnOf P prims ops frs _=_;unfold tnOf;rw[hoi]
   obtain⟨o',ho',hfr1,hst⟩:=t4 i (by omega) (by omega)
   rw[hoi] at ho';injection ho' with ho';subst ho'
   -- what ZCm
   have factC:¬(seer prims o.op=true∧ZJ2 prims ops=true)→looks o.op=true→∀j,j<n→tn j=true→listed.getD j false=decide (j<i):=by
    intro hno hl j hj ht;by_cases e:j=i
    ·subst e;exact hself
    obtain⟨p,hp1,_,hp3⟩:=t4 j (by omega) (by show j<0+ops.size;have:n=ops.size:=rfl;omega)
    have ht' :(Region.wanted p (ZBP ops (frs j)) && ZCm P prims (frs j) p.op)=true:=by
     have:tn j=(Region.wanted p (ZBP ops (frs j)) && ZCm P prims (frs j) p.op):=by show tnOf P prims ops frs _=_;unfold tnOf;rw[hp1]
     rw[←this];exact ht
    simp only[Bool.and_eq_true] at ht';rcases hp3 with⟨_,hlone,_⟩ | ⟨hw,_,_⟩
    ·rcases ZI4 (hlone ht'.2) hoi (Ne.symm e) hl with hc | ⟨_,hc⟩
     ·exact hcmp j (.inr hc)
     exact absurd hc hno
    rw[hw] at ht';cases ht'.1
   have stateAt:¬(seer prims o.op=true∧ZJ2 prims ops=true)→looks o.op=true→T=ss i:=by
    intro hno hl;rw[hT,tstate i (by omega),ZDA (S' :=fun j=>decide (j<i)) n (factC hno hl),ZHN i n (by omega) fun j h1 h2 _=>by simp;omega]
    exact ZDA i fun j hj _=>by simp[hj]
   -- behind the step
   have hS' :∀j,(listed.setIfInBounds i true).getD j false=if j=i then true else listed.getD j false:=fun j=>by
    by_cases e:j=i
    ·subst e;rw[if_pos rfl];simp[Array.getD_eq_getD_getElem?,hsz,hin]
    rw[if_neg e,getD_set_ne false (Ne.symm e)]
   have hne' :∀j,j≠i→(listed.setIfInBounds i true).getD j false=listed.getD j false:=fun j hj=>by rw[hS' j,if_neg hj]
   have hi' :(listed.setIfInBounds i true).getD i false=true:=by rw[hS' i,if_pos rfl]
   have next:∀(T' :St) (a' :Act) (w' :World),T' =ZFp tn ss s (fun j=>(listed.setIfInBounds i true).getD j false) n→PostF base ρ X s w0 (aPut F o.dst (vs i)) T' a' w' →M fuel (listed.setIfInBounds i true) a' w' :=by
    intro T' a' w' hT' hp';refine ih (listed.setIfInBounds i true) (aPut F o.dst (vs i)) T' a' w' (by simpa using hsz) ?_ (by rw[ZOj];exact hlen) ?_ hT' ?_ hp'
    ·intro k j hk hbit;by_cases ek:k=i
     ·subst ek;have:=hbef j hbit
      rw[hS' j];split
      ·rfl
      exact this
     rw[hne' k ek] at hk;have:=hcl k j hk hbit
     rw[hS' j];split
     ·rfl
     exact this
    ·intro t;rw[ZOi];by_cases e:o.dst=some t
     ·have eb:(o.dst==some t)=true:=by simpa using e
      rw[eb,if_pos rfl];rw[ZHM (i+1) n (by omega) fun j h1 h2 hdst=>by
       obtain⟨p,hp1,hp2⟩:=oB.1 hdst;have:=hcmp j (.inl (ZKS (hall i o hoi).1 e hp1 (by omega) (.inr hp2)))
       rw[hne' j (by omega),this];simp;omega]
      simp only[ZG0,hi',hoi,Option.bind_some,eb,Bool.and_true,if_true];by_cases hx:t<fr.length
      ·simp[hx,hlen]
      simp[hx,hlen]
     have eb:(o.dst==some t)=false:=by simpa using e
     rw[eb];simp only[Bool.false_eq_true,if_false];rw[hF t];refine ZC9 n fun j hj hdst=> ?_
     by_cases ej:j=i
     ·subst ej;rw[hoi] at hdst;exact absurd hdst e
     exact(hne' j ej).symm
    have:=ZOl (S:=fun j=>listed.getD j false) (S' :=fun j=>(listed.setIfInBounds i true).getD j false) hSi hi' hne' n hin
    omega
   have tnfalse:tn i=false→ZFp tn ss s (fun j=>(listed.setIfInBounds i true).getD j false) n=T:=by
    intro hf';rw[hT];refine ZDA n fun j hj ht=> ?_
    by_cases ej:j=i
    ·subst ej;rw[hf'] at ht;cases ht
    exact hne' j ej
   obtain⟨ρ1,g1,g2,g3,g4,g5,g6,g7⟩:=hp;have hb1:base≤w.heap.size:=Nat.le_trans hb g5.size
   unfold wpOp;simp only[hoi];have hy:=ZHK (ops:=ops) g4;rw[←hy,hwant];rcases hst with⟨hw,hlone,hop⟩ | ⟨hw,hv,hs⟩
   ·rw[hw,if_pos rfl];left
    have hT' :∃T',aOp P call o F T=some (vs i,T')∧T' =ZFp tn ss s (fun j=>(listed.setIfInBounds i true).getD j false) n:=by
     rw[ZQh hev]
     cases hl:looks o.op with
     | false=>
      refine⟨T,(ZQi hl hop).2 T,(tnfalse ?_).symm⟩
      rw[htn,hw,Bool.true_and]
      cases ht:ZCm P prims (frs i) o.op with
      | false=>rfl
      | true=>rw[ZI3 ht] at hl;cases hl
     | true=>
      by_cases hno:seer prims o.op=true∧ZJ2 prims ops=true
      ·have hnt:ZCm P prims (frs i) o.op=false:=by
        have hse:=hno.1;unfold seer at hse;split at hse
        ·rename_i e;rw[e];rfl
        ·rename_i e;rw[e];show(prims _).isNone=false
         cases hpg:prims _ with
         | none=>rw[hpg] at hse;cases hse
         | some _=>rfl
        cases hse
       have hti:tn i=false:=by rw[htn,hnt,Bool.and_false]
       obtain⟨q,q1,q2,q3,q4⟩:=ZOk (tn:=tn) (S:=fun j=>listed.getD j false) t1 n
       have hTq:T=ss q:=hT.trans q2
       have lk:∀j,j<n→tn j=true→comparable B i j=true∨ZPf ops j=true∨∃d,ZGs ops j=some d∧i<d:=by
        intro j hj ht;obtain⟨p,hp1,_,hp3⟩:=t4 j (by omega) (by show j<0+ops.size;have:n=ops.size:=rfl;omega)
        have ht' :(Region.wanted p (ZBP ops (frs j)) && ZCm P prims (frs j) p.op)=true:=by
         have:tn j=(Region.wanted p (ZBP ops (frs j)) && ZCm P prims (frs j) p.op):=by show tnOf P prims ops frs _=_;unfold tnOf;rw[hp1]
         rw[←this];exact ht
        simp only[Bool.and_eq_true] at ht';have hji:i≠j:=fun e=>by subst e;rw[hti] at ht;cases ht
        rcases hp3 with⟨_,hlone,_⟩ | ⟨hw',_,_⟩
        ·rcases ZI4 (hlone ht'.2) hoi hji hl with hc | ⟨hc,_⟩
         ·left
          simp only[comparable,Bool.or_eq_true] at hc ⊢;exact hc.symm
         rcases hc with hc | hc
         ·exact .inr (.inl hc)
         right;right
         cases hfa:ZGs ops j with
         | none=>rw[hfa] at hc;cases hc
         | some d=>rw[hfa] at hc;exact⟨d,rfl,by simpa[ZSY] using hc⟩
        rw[hw'] at ht';cases ht'.1
       have same:∀m cs,m<T.c→Go.Ai.hget (ss i).h m=some (.cells cs)→Go.Ai.hget T.h m=some (.cells cs):=by
        intro m cs hm hh;rw[hTq] at hm ⊢;by_cases hqi:q≤i
        ·refine((viewAt hno.2 i q hqi (by omega) (fun j h1 h2 ht=> ?_)).2 m cs hm).1 hh
         rcases lk j (by omega) ht with hc | hc
         ·have e1:=hcmp j (.inl hc);have e2:=q3 j h1 (by omega) ht
          rw[e2] at e1;simp at e1
          omega
         rcases hc with hc | ⟨d,hd,hid⟩
         ·exact .inl hc
         have:=(storeAt j d (by omega) hd).1;omega
        refine((viewAt hno.2 q i (by omega) q1 (fun j h1 h2 ht=> ?_)).2 m cs ((cAt hno.2 i (by omega)).1 m _ hh)).2 hh
        rcases lk j (by omega) ht with hc | hc
        ·exfalso
         have e1:=hcmp j (.inl hc);rw[decide_eq_false (by omega)] at e1
         rcases q4 with rfl | ⟨p,rfl,p1,p2⟩
         ·omega
         by_cases ejp:j=p
         ·subst ejp;have p1:listed.getD j false=true:=p1
          rw[e1] at p1;cases p1
         obtain⟨r,hr1,_,hr3⟩:=t4 j (by omega) (by show j<0+ops.size;have:n=ops.size:=rfl;omega)
         have ht' :(Region.wanted r (ZBP ops (frs j)) && ZCm P prims (frs j) r.op)=true:=by
          have:tn j=(Region.wanted r (ZBP ops (frs j)) && ZCm P prims (frs j) r.op):=by show tnOf P prims ops frs _=_;unfold tnOf;rw[hr1]
          rw[←this];exact ht
         obtain⟨r',hr1',_,hr3'⟩:=t4 p (by omega) (by show p<0+ops.size;have:n=ops.size:=rfl;omega)
         have htp:(Region.wanted r' (ZBP ops (frs p)) && ZCm P prims (frs p) r'.op)=true:=by
          have:tn p=(Region.wanted r' (ZBP ops (frs p)) && ZCm P prims (frs p) r'.op):=by show tnOf P prims ops frs _=_;unfold tnOf;rw[hr1']
          rw[←this];exact p2
         simp only[Bool.and_eq_true] at ht' htp;rcases hr3 with⟨_,hlone,_⟩ | ⟨hw',_,_⟩
         ·have hcj:comparable B j p=true:=by
           rcases ZI4 (hlone ht'.2) hr1' (fun e=>ejp e.symm) (ZI3 htp.2) with hc2 | ⟨_,hc2,_⟩
           ·exact hc2
           exfalso
           have htp2:=htp.2;unfold seer at hc2;split at hc2
           ·rename_i e;rw[e] at htp2;cases htp2
           ·rename_i g _ _ e;rw[e] at htp2;have htp2:(prims g).isNone=true:=htp2
            cases hpg:prims g with
            | none=>rw[hpg] at hc2;cases hc2
            | some _=>rw[hpg] at htp2;cases htp2
           cases hc2
          simp only[comparable,Bool.or_eq_true] at hcj;rcases hcj with hb | hb
          ·have:=ZNb hlt j p hb;omega
          have:=hcl p j p1 hb
          rw[e1] at this;cases this
         rw[hw'] at ht';cases ht'.1
        rcases hc with hc | ⟨d,hd,hid⟩
        ·exact .inl hc
        exact .inr ⟨d,hd,by omega⟩
       have hg:T.g=(ss i).g:=by rw[hTq,(cAt hno.2 q q1).2,(cAt hno.2 i (by omega)).2]
       refine⟨T,?_,?_⟩
       ·have hb' :∀x v,x∈o.op.operands→ZAp (frs i) x=some v→Rel w ρ1 (UX ρ1 T.h X) T.c v (a.eval x):=fun x v hx hv=>ZAW g4 ((hev x hx).trans hv)
        obtain⟨dst,op,type,pos,after,guard⟩:=o;have hse:=hno.1;unfold seer at hse;split at hse
        ·rename_i ty x e;have e:op= .load ty x:=e
         subst e;simp only[aOp,oC,oB] at hop ⊢;obtain⟨av,hav,y,hy,hop⟩:=hop;injection hop with hop;injection hop with e1 e2
         refine⟨av,hav,y,?_,by rw[e1]⟩
         cases av with
         | ptr m off=>
          have hm:=hb' x _ (by simp[Op.operands]) hav
          simp only[Rel] at hm;simp only[ZEy] at hy ⊢;split at hy
          ·rename_i cs hcs;rw[same m cs hm.1 hcs];exact hy
          cases hy
         | gptr g off=>simp only[ZEy,hg] at hy ⊢;exact hy
         | rptr k xs j off=>exact hy
         | _=>cases hy
        ·rename_i g args ts e;have e:op= .call ⟨.value (.func g),args,ts⟩:=e
         subst e;simp only[aOp,oC,oB] at hop ⊢;obtain⟨as_,has,fv,hfv,hop⟩:=hop;refine⟨as_,has,fv,hfv,?_⟩
         have hpn:(prims g).isNone=false:=by
          cases hpg:prims g with
          | none=>rw[hpg] at hse;cases hse
          | some _=>rfl
         have efv:fv= .fn g [] []:=by
          simp only[ZAp,Option.some.injEq] at hfv;exact hfv.symm
         subst efv;simp only[List.nil_append,List.append_nil] at hop ⊢;refine(hq g as_ (ss i) _ _ hpn hop).2 T hg fun x hx r hr=> ?_
         have hxr:∃v',Rel w ρ1 (UX ρ1 T.h X) T.c x v' :=by
          have hl2:=ZB2 g4 (xs:=args.toList) (vs:=as_) (by rw[←has];exact ZDV fun y hy=>hev y (by simp[Op.operands,Call.operands];exact .inr (by simpa using hy)))
          have key:∀{xs:List AV} {us:List Value},RelL w ρ1 (UX ρ1 T.h X) T.c xs us→∀x∈xs,∃v',Rel w ρ1 (UX ρ1 T.h X) T.c x v' :=by
           intro xs;induction xs with
           | nil=>intro us _ x hx;cases hx
           | cons y ys ih=>
            intro us hr x hx;simp only[RelL] at hr;obtain⟨u,vs,rfl,q1,q2⟩:=hr;rcases List.mem_cons.1 hx with rfl | hx
            ·exact⟨u,q1⟩
            exact ih q2 x hx
          exact key hl2 x hx
         obtain⟨v',hv'⟩:=hxr
         cases x with
         | ptr m off=>
          simp only[Rel] at hv';simp only[view] at hr ⊢;split at hr
          ·rename_i cs hcs;rw[same m cs hv'.1 hcs];exact hr
          cases hr
         | hs k m off len cap=>
          simp only[Rel] at hv';simp only[view,elems] at hr ⊢
          cases hcs:Go.Ai.hget (ss i).h m with
          | none=>rw[hcs] at hr;cases hr
          | some o' =>
           rw[hcs] at hr
           cases o' with
           | cells cs=>rw[same m cs hv'.1 hcs];exact hr
           | _=>cases hr
         | _=>exact hr
        cases hse
       exact(tnfalse hti).symm
      refine⟨ss (i+1),by rw[stateAt hno hl];exact hop,?_⟩
      cases ht:ZCm P prims (frs i) o.op with
      | false=>rw[tnfalse (by rw[htn,ht,Bool.and_false]),ZQj hq ht hop,stateAt hno hl]
      | true=>
       have e:tn i=true:=by rw[htn,hw,ht];rfl
       rw[ZHN (i+1) n (by omega) fun j h1 h2 htj=>by
        rw[hne' j (by omega),factC hno hl j h2 htj];simp;omega]
       simp only[ZFp,hi',e,Bool.and_true,if_true]
    obtain⟨T',hop',eT'⟩:=hT';refine ZPn hcall hb1 g3 g4 hop' fun v' w' hpo=> ?_
    exact next T' _ w' eT' (PostF.cons g1 g2 g5 g6 (Post.frame (dst:=o.dst) g3 g4 g7 hpo))
   rw[hw];simp only[Bool.false_eq_true,if_false];refine next T _ w ?_ ⟨ρ1,g1,g2,g3,?_,g5,g6,by cases o.dst<;> exact g7⟩
   ·exact(tnfalse (by rw[htn,hw,Bool.false_and])).symm
   rw[hv];exact ZIY g4 o.dst (by simp[Rel,RelL,undef])
 intro fuel listed F T a w hI;exact main fuel listed F T a w hI.sz hI.cl hI.len hI.hF hI.hT hI.fu hI.p
theorem DInv.start {ops:Array Oper} {fr:List AV} {s:St} {a0:Act} {w0:World} {ρ:Pl} {X:Reg} {frs:Nat→List AV} {ss:Nat→St} {vs:Nat→AV}
  (h:Sim base ρ X s w0) (hf:RelL w0 ρ (UX ρ s.h X) s.c fr a0.tmps.toList) (hd:a0.defers=[]):
  DInv P prims base ρ X w0 ops fr s frs ss vs ops.size (Array.replicate ops.size false) fr s a0 {w0 with drawn:=w0.drawn+1}:=by
 refine⟨by simp,?_,rfl,?_,?_,?_,?_⟩
 ·intro k j hk;exfalso
  rw[Array.getD_eq_getD_getElem?,Array.getElem?_replicate] at hk;split at hk<;> simp at hk
 ·intro t;rw[ZHM 0 ops.size (by omega) fun j _ hj _=>by
  rw[Array.getD_eq_getD_getElem?,Array.getElem?_replicate,if_pos hj];rfl]
  rfl
 ·rw[ZHN 0 ops.size (by omega) fun j _ hj _=>by
  rw[Array.getD_eq_getD_getElem?,Array.getElem?_replicate,if_pos hj];rfl]
  rfl
 ·have:∀(S:Nat→Bool) m,left S m≤m:=fun S m=>by
   induction m with
   | zero=>simp[left]
   | succ m ih=>simp only[left];split<;> omega
  exact this _ _
 have hu:Rel w0 ρ (UX ρ s.h X) s.c .undef undef:=by simp[Rel,RelL,undef]
 have:=Post.grow (v:= .undef) (v' :=undef) (w' :={w0 with drawn:=w0.drawn+1}) h rfl rfl rfl (Nat.le_refl _) (fun _ _=>rfl) (by simp[Rel,RelL,undef])
 exact Post.frame (dst:=none) h hf hd this
theorem ZQl (hcall:ZHJ P base call) (hq:ZSe prims call):ZQg P base call prims:=by
 intro ops Q id fr fr' s s' a0 w0 ρ X hok hb h hf hd ho hQ;obtain⟨hm,_⟩:=ZI6 hok;obtain⟨frs,ss,vs,_,_,_,main⟩:=ZQk hcall hq (Q:=Q) (a0:=a0) hok hb h ho hQ;exact wp_region_any hm (main (wpAny P .any ops Q) (fun listed F T a w _ h1 h2=>⟨h1,h2⟩) (fun fuel listed F T a w _ h1 h2=>⟨h1,h2⟩) _ _ _ _ _ _ (DInv.start h hf hd))
end
end Go.Ai
end
section
namespace Go.Ai
section
variable {P:Program} {prims:Prims}

theorem ZJ6 {p:Glob→List AV→Option AV} {args:List AV} {s s' :St} {v:AV} (h:ZBc p args s=some (v,s')):s' =s:=by
 simp only[ZBc,oC,oB] at h;obtain⟨us,_,r,_,h⟩:=h;split at h
 ·cases h
 injection h with h;injection h with e1 e2;exact e2.symm
theorem ZKp {p:Glob→List AV→Option AV} {args:List AV} {s s2:St} {v:AV} {s' :St} (h:ZBc p args s=some (v,s')) (hg:s2.g=s.g) (hv:∀x∈args,∀r,view s x=some r→view s2 x=some r):ZBc p args s2=some (v,s2):=by
 simp only[ZBc,oC,oB] at h ⊢;obtain⟨us,hu,r,hr,h⟩:=h;have key:∀(l:List AV) (us:List (AV×Bool)),(∀x∈l,∀r,view s x=some r→view s2 x=some r)→l.mapM (view s)=some us→l.mapM (view s2)=some us:=by
  intro l;induction l with
  | nil=>intro us _ h;exact h
  | cons x l ih=>
   intro us hv h;rw[List.mapM_cons] at h ⊢;simp only[oC,oB,Option.pure_def] at h ⊢;obtain⟨a,ha,b,hb,h⟩:=h;exact⟨a,hv x List.mem_cons_self a ha,b,ih b (fun y hy=>hv y (lM _ hy)) hb,h⟩
 refine⟨us,key _ _ hv hu,r,by rw[hg];exact hr,?_⟩
 split at h
 ·cases h
 rename_i hc;rw[if_neg hc];injection h with h;injection h with e1 e2
 rw[e1]
theorem ZI7:∀n,ZSe prims (ZEm P prims n)
 | 0=>fun g args s v s' _ h=>by simp[ZEm] at h
 | n+1=>fun g args s v s' hp h=>by
  simp only[ZEm] at h;split at h
  ·cases h
  rename_i fn hfn;split at h
  ·rename_i hent;split at h
   ·rename_i p hpp;refine⟨ZJ6 h,fun s2 hg hv=> ?_⟩
    simp only[ZEm,hfn,hent,if_true,hpp];exact ZKp h hg hv
   rename_i hn;rw[hn] at hp;cases hp
  cases h
theorem ZDB {base:Nat} (hp:ZAX P prims) (n:Nat):ZHJ P base (ZEm P prims n):=
 ZOh hp (fun n hc=>ZQl hc (ZI7 n)) n

def out (v:AV):Option AV:=if ZB6 (ZAv v) then some (ZAv v) else none
theorem ZQm {w:World} {ρ ρ' :Pl} {U U' :Reg} {c c' :Nat} {x u:AV} {v:Value} (hU:∀b j,U' b j→U b j) (hu:out x=some u) (h:Rel w ρ U c x v):Rel w ρ' U' c' u v:=by
 unfold out at hu;simp only[Option.ite_none_right_eq_some] at hu;obtain⟨hp,hu⟩:=hu;injection hu with hu
 rw[hu] at hp;refine Rel.pure (ρ:=ρ) (c:=c) hU u v hp ?_
 rw[←hu];exact ZE5 x v h

def ZTl:Glob:=fun _=>none
def sG (G:Glob):St:=⟨[],0,0,G⟩
def s0:St:=sG ZTl
def ZI8 (P:Program) (prims:Prims) (n:Nat) (f:FuncId) (args:List AV):Option AV:=(ZEm P prims n f args s0).bind fun r=>out r.1

theorem simG {w:World} {U:Reg} {G:Glob} (hU:∀b j,U b j→b<w.heap.size) (hG:GlobOk w ρ0 U 0 G):Sim w.heap.size ρ0 U (sG G) w:=
 ⟨fun n o h=>by simp[sG,hget] at h,fun n o h=>by simp[sG,hget] at h,fun n m o o' h=>by simp[sG,hget] at h,fun n o h=>by simp[sG,hget] at h,fun n o h=>by simp[sG,hget] at h,hU,by
  refine hG.mono ⟨Nat.le_refl _,fun _ _=>rfl,fun a u hu _=>hu,fun a ha=>ha,?_⟩
  rintro b j _ (⟨n,o,hn,_⟩ | hx)
  ·simp[sG,hget] at hn
  exact hx⟩
theorem ZNc {w:World} {ρ:Pl} {U:Reg} {c:Nat}:GlobOk w ρ U c ZTl:=fun g cs h=>by cases h

def Prims.addG (prims:Prims) (f:FuncId) (F:Glob→List AV→Option AV):Prims:=fun g=>if g=f then some F else prims g
def Prims.add (prims:Prims) (f:FuncId) (F:List AV→Option AV):Prims:=fun g=>if g=f then some (fun _=>F) else prims g
theorem ZAR {f:FuncId} {F:Glob→List AV→Option AV} (hp:ZAX P prims) (hF:ZAq P f F):ZAX P (prims.addG f F):=fun g G h=>by
 unfold Prims.addG at h;split at h
 ·rename_i e;subst e;injection h with h;subst h;exact hF
 exact hp g G h
theorem ZAn {f:FuncId} {F:List AV→Option AV} (hp:ZAX P prims) (hF:ZAq P f (fun _=>F)):ZAX P (prims.add f F):=ZAR hp hF
end
end Go.Ai
end
section
namespace Go.Ai
section
variable {P:Program} {prims:Prims}

def WC (P:Program) (prims:Prims) (c:Code) (K:List AV→St→Prop) (Q:AExit→List AV→St→Prop) (fr:List AV) (s:St):Prop:=
 ∃e fr' s',(match e with | .normal=>K fr' s' | e=>Q e fr' s')∧∃N,∀m,N≤m→∀n,N≤n→ZC3 P (ZEm P prims m) prims n c fr s=some (e,fr',s')
def WO (P:Program) (prims:Prims) (ops:Array Oper) (l:List Oper) (K:List AV→St→Prop) (fr:List AV) (s:St):Prop:=
 ∃fr' s',K fr' s' ∧∃N,∀m,N≤m→aOps P (ZEm P prims m) ops l fr s=some (fr',s')
def WD (P:Program) (prims:Prims) (ops:Array Oper) (b:Array Nat) (l:List Nat) (K:List AV→St→Prop) (fr:List AV) (s:St):Prop:=
 ∃fr' s',K fr' s' ∧∃N,∀m,N≤m→ZHp P (ZEm P prims m) prims ops b l fr s=some (fr',s')
def WF (P:Program) (prims:Prims) (f:FuncId) (args:List AV) (s:St) (K:AV→St→Prop):Prop:=
 ∃v s',K v s' ∧∃N,∀m,N≤m→ZEm P prims m f args s=some (v,s')
def WP (P:Program) (prims:Prims) (o:Oper) (fr:List AV) (s:St) (K:AV→St→Prop):Prop:=
 ∃v s',K v s' ∧∃N,∀m,N≤m→aOp P (ZEm P prims m) o fr s=some (v,s')

variable {K K' :List AV→St→Prop} {Q Q' :AExit→List AV→St→Prop} {fr fr' :List AV} {s s' :St}

theorem WC.mono {c:Code} (h:WC P prims c K Q fr s) (hK:∀fr s,K fr s→K' fr s) (hQ:∀e fr s,Q e fr s→Q' e fr s):WC P prims c K' Q' fr s:=by
 obtain⟨e,fr',s',h1,h2⟩:=h;refine⟨e,fr',s',?_,h2⟩
 cases e<;> first | exact hK _ _ h1 | exact hQ _ _ _ h1

theorem ZV0 {ops:Array Oper} (h:K fr s):WO P prims ops [] K fr s:=⟨fr,s,h,0,fun m _=>rfl⟩
theorem ZQn {ops:Array Oper} {o:Oper} {l:List Oper} (hg:o.guard=none) (h:WP P prims o fr s fun v s' =>WO P prims ops l K (aPut fr o.dst v) s'):WO P prims ops (o::l) K fr s:=by
 obtain⟨v,s1,⟨fr2,s2,k1,M,hM⟩,N,hN⟩:=h;refine⟨fr2,s2,k1,N+M,fun m hm=> ?_⟩
 have hw:Region.wanted o (ZBP ops fr)=true:=by simp[Region.wanted,hg]
 simp only[aOps,hw,if_true,hN m (by omega),hM m (by omega)]
theorem ZSg {ops:Array Oper} {o:Oper} {l:List Oper} {b:Bool} (hb:Region.wanted o (ZBP ops fr)=b) (h1:b=true→WP P prims o fr s fun v s' =>WO P prims ops l K (aPut fr o.dst v) s')
  (h2:b=false→WO P prims ops l K (aPut fr o.dst .undef) s):WO P prims ops (o::l) K fr s:=by
 cases b with
 | true=>
  obtain⟨v,s1,⟨fr2,s2,k1,M,hM⟩,N,hN⟩:=h1 rfl;refine⟨fr2,s2,k1,N+M,fun m hm=> ?_⟩
  simp only[aOps,hb,if_true,hN m (by omega),hM m (by omega)]
 | false=>
  obtain⟨fr2,s2,k1,M,hM⟩:=h2 rfl;refine⟨fr2,s2,k1,M,fun m hm=> ?_⟩
  simp only[aOps,hb,Bool.false_eq_true,if_false,hM m (by omega)]

/-! ### Operations -/
variable {H:AV→St→Prop}
theorem ZV1 {o:Oper} {v:AV} (h:∀call,aOp P call o fr s=some (v,s')) (k:H v s'):WP P prims o fr s H:=⟨v,s',k,0,fun m _=>h _⟩
theorem ZUw {dst:Option Tmp} {type:TypeId} {pos:String} {after:Array Edge} {guard:Option (Nat×Bool)} {f:Operand} {xs:Array Operand} {ts:Array TypeId} {g:FuncId} {first captured args:List AV}
  (ha:ZBq fr xs.toList=some args) (hf:ZAp fr f=some (.fn g first captured)) (h:WF P prims g (first++args++captured) s H):WP P prims ⟨dst, .call ⟨.value f,xs,ts⟩,type,pos,after,guard⟩ fr s H:=by
 obtain⟨v,s1,k1,M,hM⟩:=h;refine⟨v,s1,k1,M,fun m hm=> ?_⟩
 simp only[aOp,oC,ha,hf,Option.bind_some,hM m hm]
theorem ZUx {dst:Option Tmp} {type:TypeId} {pos:String} {after:Array Edge} {guard:Option (Nat×Bool)} {g:FuncId} {xs:Array Operand} {ts:Array TypeId} {args:List AV}
  (ha:ZBq fr xs.toList=some args) (h:WF P prims g args s H):WP P prims ⟨dst, .call ⟨.value (.func g),xs,ts⟩,type,pos,after,guard⟩ fr s H:=
 ZUw ha rfl (by simpa using h)

/-! ### Calls -/
theorem ZUy {f:FuncId} {fn:Func} {F:Glob→List AV→Option AV} {args:List AV} {r:AV} (hf:P.funcs[f]? =some fn) (he:ZCn fn=true) (hp:prims f=some F) (h:ZBc F args s=some (r,s)) (k:H r s):WF P prims f args s H:=by
 refine⟨r,s,k,1,fun m hm=> ?_⟩
 obtain⟨m,rfl⟩:∃k,m=k+1:=⟨m - 1,by omega⟩
 simp only[ZEm,hf,he,if_true,hp,h]
theorem ZQo {f:FuncId} {args:List AV} {r:AV} (h:WF P prims f args s0 fun v _=>out v=some r):∃n,ZI8 P prims n f args=some r:=by
 obtain⟨v,s1,k,N,hN⟩:=h;exact⟨N,by simp only[ZI8,hN N (Nat.le_refl _),Option.bind_some,k]⟩
end
end Go.Ai
namespace Go.Ai
section
variable {P:Program} {prims:Prims} {K:List AV→St→Prop} {Q:AExit→List AV→St→Prop} {fr fr' :List AV} {s s' :St}
/-! ### Steps, with what they make written out -/
theorem ZQp {ops:Array Oper} {o:Oper} {l:List Oper} {v:AV} (hg:o.guard=none) (h:∀call,aOp P call o fr s=some (v,s')) (hf:aPut fr o.dst v=fr') (k:WO P prims ops l K fr' s'):WO P prims ops (o::l) K fr s:=
 ZQn hg (ZV1 h (by rw[hf];exact k))
theorem ZUz {ops:Array Oper} {l:List Oper} {dst:Option Tmp} {type:TypeId} {pos:String} {after:Array Edge} {g:FuncId} {xs:Array Operand} {ts:Array TypeId} {args:List AV}
  (ha:ZBq fr xs.toList=some args) (h:WF P prims g args s fun v s' =>∃fr',aPut fr dst v=fr' ∧WO P prims ops l K fr' s'):WO P prims ops (⟨dst, .call ⟨.value (.func g),xs,ts⟩,type,pos,after,none⟩::l) K fr s:=
 ZQn rfl (ZUx ha (by obtain⟨v,s1,⟨fr',h1,h2⟩,h3⟩:=h;subst h1;exact⟨v,s1,h2,h3⟩))
theorem ZU0 {ops:Array Oper} {l:List Oper} {dst:Option Tmp} {type:TypeId} {pos:String} {after:Array Edge} {g:FuncId} {fn:Func} {xs:Array Operand} {ts:Array TypeId} {args:List AV} {F:Glob→List AV→Option AV} {r:AV}
  (hp:prims g=some F) (hf:P.funcs[g]? =some fn) (he:ZCn fn=true) (ha:ZBq fr xs.toList=some args) (hc:ZBc F args s=some (r,s)) (hput:aPut fr dst r=fr') (h:WO P prims ops l K fr' s):WO P prims ops (⟨dst, .call ⟨.value (.func g),xs,ts⟩,type,pos,after,none⟩::l) K fr s:=
 ZUz ha (ZUy hf he hp hc ⟨fr',hput,h⟩)
end
end Go.Ai
namespace Go.Ai
end Go.Ai
namespace Go.Ai
end Go.Ai
namespace Go.Ai
end Go.Ai
namespace Go.Ai
end Go.Ai
namespace Go.Ai
theorem ZV2 {P:Program} {call:FuncId→List AV→St→Option (AV×St)} {dst:Option Tmp} {type t t' :TypeId} {pos:String} {after:Array Edge} {guard:Option (Nat×Bool)} {fr:List AV} {s:St} {op:BinOp} {x y:Operand} {a b v:AV}
  (hx:ZAp fr x=some a) (hy:ZAp fr y=some b) (hv:ZC4 P op t a b (isC x) (isC y)=some v):aOp P call ⟨dst, .binOp op t x y t',type,pos,after,guard⟩ fr s=some (v,s):=by
 simp only[aOp,hx,hy,hv,oC,Option.bind_some]
end Go.Ai
namespace Go.Ai
section
variable {P:Program} {prims:Prims} {K:List AV→St→Prop} {Q:AExit→List AV→St→Prop} {fr fr' :List AV} {s s' :St}
theorem ZSh {ops:Array Oper} {o:Oper} {l:List Oper} (hb:Region.wanted o (ZBP ops fr)=false) (hf:aPut fr o.dst .undef=fr') (k:WO P prims ops l K fr' s):WO P prims ops (o::l) K fr s:=
 ZSg hb (fun e=>by cases e) (fun _=>by rw[hf];exact k)
end
end Go.Ai
namespace Go.Ai
theorem ZI9 {dst:Option Tmp} {op:Op} {type:TypeId} {pos:String} {after:Array Edge} {y:Nat→Option Bool}:Region.wanted ⟨dst,op,type,pos,after,none⟩ y=true:=rfl
end Go.Ai
namespace Go.Ai
theorem ZJA {dst:Option Tmp} {op:Op} {type:TypeId} {pos:String} {after:Array Edge} {y:Nat→Option Bool} {g:Nat} {w:Bool}:Region.wanted ⟨dst,op,type,pos,after,some (g,w)⟩ y=(y g==some w):=rfl
end Go.Ai
namespace Go.Ai
theorem WF.mono {P:Program} {prims:Prims} {f:FuncId} {args:List AV} {s:St} {H H' :AV→St→Prop} (h:WF P prims f args s H) (k:∀v s',H v s' →H' v s'):WF P prims f args s H' :=by
 obtain⟨v,s',h1,h2⟩:=h;exact⟨v,s',k v s' h1,h2⟩
theorem ZB3 {P:Program} {prims:Prims} {f:FuncId} {args:List AV} {r v0:AV} {s1:St} (h:WF P prims f args s0 fun v s=>v=v0∧s=s1) (ho:out v0=some r):∃n,ZI8 P prims n f args=some r:=
 ZQo (h.mono fun v s ⟨e,_⟩=>by rw[e];exact ho)
def ZQq (P:Program) (prims:Prims):Op→Bool
 | .convert _ dst _=>ZIn P dst
 | .load _ _ | .slice _ _ _ _ _ | .lookup _ _ _ _=>false
 | .call c=>
  match c.callee with
  | .builtin .len | .builtin .cap | .builtin .min | .builtin .max=>false
  | .value (.func g)=>(prims g).isNone
  | _=>true
 | op=>looks op
theorem ZMF {P:Program} {prims:Prims} {fr:List AV} {op:Op} (h:ZQq P prims op=false):ZCm P prims fr op=false:=by
 cases op<;> simp only[ZQq,ZCm] at h ⊢<;> try exact h
 rename_i c
 cases hc:c.callee with
 | builtin b=>simp only[hc] at h ⊢;cases b<;> simp_all
 | invoke r m=>simp only[hc] at h;cases h
 | value f=>
  simp only[hc] at h ⊢
  cases f<;> simp only[ZAp] at h ⊢<;> first | exact h | cases h
def calm (P:Program) (prims:Prims) (ops:Array Oper) (b:Array Nat):Bool:=ops.toList.zipIdx.all fun(o,i)=> !ZQq P prims o.op || lone prims ops b i
theorem ZNd {P:Program} {prims:Prims} {call:FuncId→List AV→St→Option (AV×St)} {ops:Array Oper} {b:Array Nat} (hc:calm P prims ops b=true):∀(l:List Oper) (i:Nat),ops.toList.drop i=l→∀(fr:List AV) (s:St),ZHp P call prims ops b (List.range' i l.length) fr s=aOps P call ops l fr s
 | [],i,hi,fr,s=>rfl
 | o::l,i,hi,fr,s=>by
  have hoi:ops[i]? =some o:=by
   have:(ops.toList.drop i)[0]? =some o:=by rw[hi];rfl
   rw[List.getElem?_drop] at this;simpa using this
  have hnext:ops.toList.drop (i+1)=l:=by
   have:(ops.toList.drop i).drop 1=l:=by rw[hi];rfl
   rwa [List.drop_drop] at this
  have hno:(ZCm P prims fr o.op && !lone prims ops b i)=false:=by
   unfold calm at hc;have h1:=List.all_eq_true.1 hc (o,i) (by rw[List.mem_zipIdx_iff_getElem?];simpa using hoi)
   simp only[Bool.or_eq_true,Bool.not_eq_true'] at h1;rcases h1 with h1 | h1
   ·rw[ZMF h1];rfl
   rw[h1];simp
  rw[List.length_cons,List.range'_succ];simp only[ZHp,hoi,aOps,hno,Bool.false_eq_true,if_false];split
  ·cases aOp P call o fr s with
   | none=>rfl
   | some r=>exact ZNd hc l (i+1) hnext _ _
  exact ZNd hc l (i+1) hnext _ _
attribute [irreducible] WC WO WD WF WP
end Go.Ai
end
section
namespace Go.Ai
variable {w:World} {ρ:Pl} {U:Reg} {c:Nat}
theorem ZHP:RelL w ρ U c [] []:=by simp[RelL]
theorem ZCp {x:AV} {xs:List AV} {v:Value} {vs:List Value} (h:Rel w ρ U c x v) (k:RelL w ρ U c xs vs):RelL w ρ U c (x::xs) (v::vs):=by
 simp only[RelL];exact⟨v,vs,rfl,h,k⟩
theorem ZJB {k:IntKind} {n:Int}:Rel w ρ U c (.int k n) (.int k n):=by simp[Rel]
theorem ZSi {b:Bool}:Rel w ρ U c (.bool b) (.bool b):=by simp[Rel]
theorem ZMG {b:Bool} {v:Value} (h:Rel w ρ U c (.bool b) v):v= .bool b:=by simpa[Rel] using h
theorem ZQr {s:ByteArray}:Rel w ρ U c (.str s.data.toList) (.string s):=by simp[Rel]

def ZV3 (k:IntKind) (x:AV) (l:List Int):Prop:=(((x= .nils∨∃z,x= .emp z)∧l=[])∨∃c,x= .vec 0 (l.map (.int k)) c)∧∀n∈l,(Lit.int k n).wf=true
end Go.Ai
namespace Go.Ai
section
variable {P:Program} {t e:TypeId} {k kk:IntKind} {x:AV} {l:List Int} {s:St}
theorem ZQs {call:FuncId→List AV→St→Option (AV×St)} {dst:Option Tmp} {type:TypeId} {pos:String} {after:Array Edge} {guard:Option (Nat×Bool)} {fr:List AV} {y:Operand} {ts:Array TypeId} {v:AV} (hy:ZAp fr y=some x) (ht:ts[0]? =some t) (hv:aLen P t x s=some v):aOp P call ⟨dst, .call ⟨.builtin .len, #[y],ts⟩,type,pos,after,guard⟩ fr s=some (v,s):=by
 simp[aOp,ZBq,hy,ZCI,ht,hv]
theorem ZQt {call:FuncId→List AV→St→Option (AV×St)} {dst:Option Tmp} {type:TypeId} {pos:String} {after:Array Edge} {guard:Option (Nat×Bool)} {fr:List AV} {y z:Operand} {i v:AV} (hy:ZAp fr y=some x) (hz:ZAp fr z=some i) (hv:ZD5 P t x i=some v):aOp P call ⟨dst, .indexAddr t y z,type,pos,after,guard⟩ fr s=some (v,s):=by
 simp[aOp,hy,hz,hv]
theorem ZFO {call:FuncId→List AV→St→Option (AV×St)} {dst:Option Tmp} {type:TypeId} {pos:String} {after:Array Edge} {guard:Option (Nat×Bool)} {fr:List AV} {y:Operand} {v:AV} (hy:ZAp fr y=some x) (hv:ZEy P t x s=some v):aOp P call ⟨dst, .load t y,type,pos,after,guard⟩ fr s=some (v,s):=by
 simp[aOp,hy,hv]
end
end Go.Ai
namespace Go.Ai
section
variable {P:Program} {t e:TypeId} {k kk:IntKind} {x:AV} {l:List Int} {s:St}
end
end Go.Ai
namespace Go.Ai
theorem ZQu {k:IntKind} {n:Nat} {a:Int} (h0:0≤a) (h1:a≤n):bnds n n (some (.int k a)) none none=some (a.toNat,n,n):=by
 simp only[bnds,bnd,oC,Option.bind_some,Option.isSome_none,Bool.false_eq_true,false_and,if_false];rw[if_pos ⟨h0,h1⟩];rfl
theorem ZQv {k k' :IntKind} {n:Nat} {a h:Int} (h0:0≤a) (h1:a≤h) (h2:h≤n):bnds n n (some (.int k a)) (some (.int k' h)) none=some (a.toNat,h.toNat,n):=by
 simp only[bnds,bnd,oC,Option.bind_some,Option.isSome_none,Bool.false_eq_true,false_and,if_false];rw[if_pos ⟨by omega,h2⟩,Option.bind_some,if_pos ⟨h0,by omega⟩];rfl
theorem ZGX {P:Program} {call:FuncId→List AV→St→Option (AV×St)} {dst:Option Tmp} {type t:TypeId} {pos:String} {after:Array Edge} {guard:Option (Nat×Bool)} {fr:List AV} {s:St} {y:Operand} {lo hi mx:Option Operand} {x v:AV} {a b c:Option AV} (hy:ZAp fr y=some x) (hlo:ZEU fr lo=some a) (hhi:ZEU fr hi=some b) (hmx:ZEU fr mx=some c) (hv:ZEz P t x a b c s=some v):
  aOp P call ⟨dst, .slice t y lo hi mx,type,pos,after,guard⟩ fr s=some (v,s):=by
 simp only[aOp,hy,hlo,hhi,hmx,hv,oC,Option.bind_some]
end Go.Ai
namespace Go.Ai
section
variable {P:Program} {t t' e:TypeId} {k:IntKind} {x a:AV} {l m:List Int} {s:St}
def OwnRow (k:IntKind) (x:AV) (l:List Int) (s:St):Prop:=((x= .nils∧l=[])∨∃n,x= .vec 0 (l.map (.int k)) (.tok n)∧hget s.h n=some .tok)∧∀n∈l,(Lit.int k n).wf=true
theorem OwnRow.row (h:OwnRow k x l s):ZV3 k x l:=⟨h.1.imp (fun e=>⟨.inl e.1,e.2⟩) fun⟨n,e,_⟩=>⟨_,e⟩,h.2⟩
theorem OwnRow.nil:OwnRow k .nils [] s:=⟨.inl ⟨rfl,rfl⟩,by simp⟩
theorem ZMH {call:FuncId→List AV→St→Option (AV×St)} {dst:Option Tmp} {type:TypeId} {pos:String} {after:Array Edge} {guard:Option (Nat×Bool)} {fr:List AV} {y z:Operand} {ts:Array TypeId} {v:AV} {s' :St} (hy:ZAp fr y=some a) (hz:ZAp fr z=some x) (hv:ZC7 P ts a x s=some (v,s')):
  aOp P call ⟨dst, .call ⟨.builtin .append, #[y,z],ts⟩,type,pos,after,guard⟩ fr s=some (v,s'):=by
 simp[aOp,ZBq,hy,hz,ZCI,hv]
end
end Go.Ai
end
section
namespace Go.Ai
section
variable {P:Program} {t t' e:TypeId} {k k' :IntKind} {x a:AV} {l m:List Int} {s:St} {call:FuncId→List AV→St→Option (AV×St)} {dst:Option Tmp} {type:TypeId} {pos:String} {after:Array Edge} {guard:Option (Nat×Bool)} {fr:List AV} {ts:Array TypeId}
theorem ZV4 {y z:Operand} {a b:Int} (hy:ZAp fr y=some (.int k a)) (hz:ZAp fr z=some (.int k' b)):aOp P call ⟨dst, .call ⟨.builtin .max, #[y,z],ts⟩,type,pos,after,guard⟩ fr s=some (.int k (if b > a then b else a),s):=by
 simp[aOp,ZBq,hy,hz,ZCI]
end
end Go.Ai
namespace Go.Ai
end Go.Ai
end
section
namespace Go.Ai
section
variable {P:Program} {t t' e:TypeId} {k:Nat} {x a:AV} {xs ys:List AV} {s:St}
def OwnL (k:Nat) (x:AV) (xs:List AV) (s:St):Prop:=(x= .nils∧xs=[])∨∃n,x= .vec k xs (.tok n)∧hget s.h n=some .tok
theorem OwnL.nil:OwnL k .nils [] s:= .inl ⟨rfl,rfl⟩
end
end Go.Ai
end
