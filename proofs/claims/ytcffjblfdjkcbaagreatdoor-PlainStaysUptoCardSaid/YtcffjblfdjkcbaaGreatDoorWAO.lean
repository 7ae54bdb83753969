/- My own texts DevPp1, DevPp2, DevPp3, DevPp4, DevPp5, DevPp6, DevPp7, one behind the other. -/
import Derived.Test.YtcffjblfdjkcbaaGreatDoorWAN
import Derived.Lib.TrimUEq
import Derived.Lib.QuoteLoop
import Derived.Lib.ValidLaws
import Derived.Lib.IndexLaws
import Derived.KernelRfl
set_option linter.unusedVariables false
set_option linter.unusedSimpArgs false
section
open Go.Ai.Enc (enc is)
namespace Go.Ai.Rab
open Go.Lib (decodeL decodeN)

def rn (l:List UInt8):Nat:=(decodeL l).1
def wd (l:List UInt8):Nat:=(decodeL l).2
def okr (l:List UInt8):Bool:= !decide (rn l=65533∧wd l=1)
theorem ZSu (l:List UInt8):1≤wd l:=by unfold wd;rw[Go.Lib.decodeL_N];exact Go.Lib.decodeN_ge1 _ _ _ _ _
theorem ZTN {l:List UInt8} (h:l≠[]):wd l≤l.length:=by
 unfold wd;rw[Go.Lib.decodeL_N];exact Go.Lib.decodeN_width_le _ _ _ _ _ (by have:=List.length_pos_iff.2 h;omega)
theorem ZPS (s:List UInt8) (p:Nat):ZEO s p=⟨(rn (List.drop p s):Nat)⟩:=by
 unfold ZEO rn;rw[←Go.Lib.decodeL_drop]
theorem ZNd (s:List UInt8) (p:Nat):ZCl s p=wd (List.drop p s):=by
 unfold ZCl wd;rw[←Go.Lib.decodeL_drop]
/-! ### The document's rune -/
theorem i64w {n:Int} (h: -9223372036854775808≤n∧n≤9223372036854775807):IntKind.i64.wrap n=n:=IntWalk.i64_in n h
theorem bds {α β:Type} {o:Option α} {x:α} {f:α→Option β} (h:o=some x):o.bind f=f x:=by rw[h];rfl
theorem bd {α β:Type} (x:α) (f:α→Option β):(some x).bind f=f x:=rfl
def ZQU:Nat→List UInt8→Bool
 | 0,_=>true
 | f+1,l=>if l=[] then true else okr l && (rn l !=47 && (rn l !=0 && ZQU f (l.drop (wd l))))
def ZF0:Nat→List UInt8→Bool
 | 0,_=>true
 | f+1,l=>if l=[] then true else rn l !=47 && (rn l !=0 && ZF0 f (l.drop (wd l)))
theorem ZMs:∀(f:Nat) (l:List UInt8),ZQU f l=(Go.Lib.validGoD f l && ZF0 f l)
 | 0,_=>rfl
 | f+1,l=>by
  unfold ZQU ZF0 Go.Lib.validGoD;by_cases h:l=[]
  ·simp[h]
  rw[if_neg h,if_neg h,if_neg h,ZMs f];by_cases h1:rn l=65533∧wd l=1
  ·have h2:(decodeL l).1=65533∧(decodeL l).2=1:=h1
   rw[if_pos h2];simp[okr,h1]
  have h2:¬((decodeL l).1=65533∧(decodeL l).2=1):=h1
  rw[if_neg h2];have:okr l=true:=by unfold okr;rw[decide_eq_false h1];rfl
  rw[this];show(true && (rn l !=47 && (rn l !=0 && (Go.Lib.validGoD f (l.drop (wd l)) && ZF0 f (l.drop (wd l))))))=(Go.Lib.validGoD f (l.drop (wd l)) && (rn l !=47 && (rn l !=0 && ZF0 f (l.drop (wd l)))))
  cases(rn l !=47)<;> cases(rn l !=0)<;> cases Go.Lib.validGoD f (l.drop (wd l))<;> simp
def chkS (s:List UInt8):Int:=if s=[] then 206 else if s.length > 100 then 208 else if s=[46]∨s=[46,46] then 206 else if ZQU s.length s then 0 else 206
theorem ZR4 {s:List UInt8} {p:Nat} (hp:p<s.length):List.drop p s≠[]:=fun e=>by
 have:=congrArg List.length e
 rw[List.length_drop] at this;simp at this;omega
theorem ZJR {s:List UInt8}:∀(f p:Nat),p≤s.length→s.length≤p+f→loop (ZCT s) p=some (if ZF0 f (List.drop p s) then .inl () else .inr 206)
 | 0,p,h1,h2=>by
  refine(ZAt (r:= .inl ()) ?_).trans (by rfl)
  show(if p<List.length s then _ else _)=_
  rw[if_neg (by omega)]
 | f+1,p,h1,h2=>by
  by_cases hp:p<s.length
  ·have hne:=ZR4 hp;have hw:=ZSu (List.drop p s);have hw2:=ZTN hne;rw[List.length_drop] at hw2;have hstep:ZCT s p=if rn (List.drop p s)=47∨rn (List.drop p s)=0 then some (.inr (.inr 206)) else some (.inl (p+wd (List.drop p s))):=by
    show(if p<List.length s then _ else _)=_
    rw[if_pos hp,ZNd,ZPS];show Option.bind (if(((rn (List.drop p s):Nat):Int)==47)=true then some true else some (((rn (List.drop p s):Nat):Int)==0)) _=_
    by_cases e1:rn (List.drop p s)=47
    ·rw[e1];rfl
    have:(((rn (List.drop p s):Nat):Int)==47)=false:=by simp;omega
    rw[this];by_cases e2:rn (List.drop p s)=0
    ·rw[e2];rfl
    have:(((rn (List.drop p s):Nat):Int)==0)=false:=by simp;omega
    rw[this,if_neg (show ¬(rn (List.drop p s)=47∨rn (List.drop p s)=0) by omega)]
    rfl
   have hpl:ZF0 (f+1) (List.drop p s)=(rn (List.drop p s) !=47 && (rn (List.drop p s) !=0 && ZF0 f (List.drop (p+wd (List.drop p s)) s))):=by
    show(if List.drop p s=[] then true else _)=_
    rw[if_neg hne,List.drop_drop]
   by_cases hb:rn (List.drop p s)=47∨rn (List.drop p s)=0
   ·rw[if_pos hb] at hstep;rw[ZAt hstep,hpl];rcases hb with hb | hb<;> simp[hb]
   rw[if_neg hb] at hstep;rw[ZBY hstep,ZJR f _ (by omega) (by omega),hpl]
   have e1:(rn (List.drop p s) !=47)=true:=by simp;omega
   have e2:(rn (List.drop p s) !=0)=true:=by simp;omega
   rw[e1,e2,Bool.true_and,Bool.true_and]
  refine(ZAt (r:= .inl ()) ?_).trans ?_
  ·show(if p<List.length s then _ else _)=_
   rw[if_neg hp]
  have:List.drop p s=[]:=List.drop_of_length_le (by omega)
  rw[this];rfl
theorem ZMF (a b:List UInt8):eqS a b=decide (a=b):=by
 unfold eqS;by_cases h:a=b
 ·simp[h]
 simp[h]
theorem ZMt (s:List UInt8):ZBi s=some (chkS s):=by
 unfold ZBi chkS;rw[ZMF,ZMF,ZMF];by_cases h0:s=[]
 ·rw[if_pos (decide_eq_true h0),if_pos h0]
 rw[if_neg (by simpa using h0),if_neg h0]
 by_cases h1:s.length > 100
 ·rw[if_pos (decide_eq_true (by omega)),if_pos h1]
 rw[if_neg (by simp;omega),if_neg h1]
 by_cases h2:s=[46]
 ·rw[if_pos (decide_eq_true h2),if_pos (.inl h2)];rfl
 rw[if_neg (by simpa using h2)]
 by_cases h3:s=[46,46]
 ·rw[decide_eq_true h3,if_pos (.inr h3)];rfl
 rw[decide_eq_false h3,if_neg (by simp[h2,h3])]
 have hv:utf8_ValidString s=some (Go.Lib.validD s):=by
  unfold utf8_ValidString;exact if_pos (by omega)
 show((utf8_ValidString s).bind fun r_=>some (!r_)).bind _=_
 rw[hv];show(if(!Go.Lib.validD s)=true then some 206 else(loop (ZCT s) 0).bind ZDS)=_
 rw[ZJR s.length 0 (by omega) (by omega),List.drop_zero,ZMs]
 show _=some (if(Go.Lib.validD s && ZF0 s.length s)=true then 0 else 206)
 cases Go.Lib.validD s<;> cases ZF0 s.length s<;> rfl
end Go.Ai.Rab
end
section
set_option maxRecDepth 10000
open Go.Ai.Enc (enc is)
namespace Go.Ai.Rab
theorem ZMu {σ ρ:Type} {body:σ→Option (σ ⊕ ρ)} (I:σ→Prop) (Q:ρ→Prop) (m:σ→Nat)
  (h:∀a,I a→(∃b,body a=some (.inl b)∧I b∧m b<m a)∨(∃r,body a=some (.inr r)∧Q r)):∀(n:Nat) (a:σ),m a≤n→I a→∃r,loop body a=some r∧Q r
 | n,a,hn,hI=>by
  rcases h a hI with⟨b,h1,h2,h3⟩ | ⟨r,h1,h2⟩
  ·obtain⟨n,rfl⟩:∃k,n=k+1:=⟨n - 1,by omega⟩
   rw[ZBY h1];exact ZMu I Q m h n b (by omega) h2
  exact⟨r,ZAt h1,h2⟩
theorem nthD {α:Type} {l:List α} {i:Nat} (d:α) (h:i<l.length):nth l (i:Int)=some (l.getD i d):=by
 rw[ZBk h];simp[List.getD,h]
theorem ZCY {σ ρ:Type} {body:σ×Int→Option ((σ×Int) ⊕ ρ)} (n:Nat) (I:Nat→σ→Prop) (Q:ρ→Prop) (h:∀i s,i<n→I i s→∃s',body (s,(i:Int))=some (.inl (s',((i+1:Nat):Int)))∧I (i+1) s')
  (he:∀s,I n s→∃r,body (s,(n:Int))=some (.inr r)∧Q r):∀i s,i≤n→I i s→∃r,loop body (s,(i:Int))=some r∧Q r:=by
 intro i s hi hI;obtain⟨d,rfl⟩:∃d,n=i+d:=⟨n - i,by omega⟩
 clear hi
 induction d generalizing i s with
 | zero=>
  obtain⟨r,h1,h2⟩:=he s hI;exact⟨r,ZAt h1,h2⟩
 | succ d ih=>
  obtain⟨s',h1,h2⟩:=h i s (by omega) hI
  rw[ZBY h1];have e:i+(d+1)=(i+1)+d:=by omega
  rw[e] at h he;exact ih (i+1) s' h2 h he
theorem lim {n:Nat} (h:n<9223372036854775807):IntKind.i64.wrap ((n:Int)+1)=((n+1:Nat):Int):=by rw[i64w (by omega)];rfl
/-! ### Numbers aS bytes -/
theorem ZPT (x:UInt64) (n:Int) (hn:0≤n∧n≤1000):∃r,ZFc x n=some r∧0≤r∧r≤n+255:=by
 unfold ZFc;have hx:((UInt8.ofInt ((x).toNat:Int))).toNat<256:=UInt8.toNat_lt _
 obtain⟨c,hc⟩:∃c,(nth (α:=UInt8) (str [0,1,2,2,3,3,3,3,4,4,4,4,4,4,4,4,5,5,5,5,5,5,5,5,5,5,5,5,5,5,5,5,6,6,6,6,6,6,6,6,6,6,6,6,6,6,6,6,6,6,6,6,6,6,6,6,6,6,6,6,6,6,6,6,7,7,7,7,7,7,7,7,7,7,7,7,7,7,7,7,7,7,7,7,7,7,7,7,7,7,7,7,7,7,7,7,7,7,7,7,7,7,7,7,7,7,7,7,7,7,7,7,7,7,7,7,7,7,7,7,7,7,7,7,7,7,7,7,8,8,8,8,8,8,8,8,8,8,8,8,8,8,8,8,8,8,8,8,8,8,8,8,8,8,8,8,8,8,8,8,8,8,8,8,8,8,8,8,8,8,8,8,8,8,8,8,8,8,8,8,8,8,8,8,8,8,8,8,8,8,8,8,8,8,8,8,8,8,8,8,8,8,8,8,8,8,8,8,8,8,8,8,8,8,8,8,8,8,8,8,8,8,8,8,8,8,8,8,8,8,8,8,8,8,8,8,8,8,8,8,8,8,8,8,8,8,8,8,8,8,8,8,8,8,8,8]) (((UInt8.ofInt ((x).toNat:Int))).toNat:Int))=some c:=⟨_,nthD 0 (by rw[show(List.length (str _)=256) from rfl];exact hx)⟩
 refine⟨_,bds hc,?_⟩
 have:=c.toNat_lt
 rw[i64w (by omega)]
 omega
theorem ZNe (x:UInt64):∃r,ZK4 x=some r∧0≤r∧r≤1000:=by
 have w1:∀n:Int,0≤n∧n≤1000→IntKind.i64.wrap (n+8)=n+8:=fun n h=>i64w (by omega)
 have w2:∀n:Int,0≤n∧n≤1000→IntKind.i64.wrap (n+16)=n+16:=fun n h=>i64w (by omega)
 have h2:∀(x:UInt64) (n:Int),0≤n∧n≤100→∃r,ZFd x n=some r∧0≤r∧r≤n+300:=fun x n hn=>by
  unfold ZFd;split
  ·rw[w1 n (by omega)]
   obtain⟨r,h1,h2,h3⟩:=ZPT (UInt64.ofInt ((((x).toNat:Int)).fdiv (2 ^ 8))) (n+8) (by omega)
   exact⟨r,h1,h2,by omega⟩
  obtain⟨r,h1,h2,h3⟩:=ZPT x n (by omega)
  exact⟨r,h1,h2,by omega⟩
 have h1:∀(x:UInt64) (n:Int),0≤n∧n≤50→∃r,ZFe x n=some r∧0≤r∧r≤n+400:=fun x n hn=>by
  unfold ZFe;split
  ·rw[w2 n (by omega)]
   obtain⟨r,h1,h2,h3⟩:=h2 (UInt64.ofInt ((((x).toNat:Int)).fdiv (2 ^ 16))) (n+16) (by omega)
   exact⟨r,h1,h2,by omega⟩
  obtain⟨r,h1,h2,h3⟩:=h2 x n (by omega)
  exact⟨r,h1,h2,by omega⟩
 unfold ZK4;split
 ·obtain⟨r,h1,h2,h3⟩:=h1 (UInt64.ofInt ((((x).toNat:Int)).fdiv (2 ^ 32))) 32 (by omega)
  exact⟨r,h1,h2,by omega⟩
 obtain⟨r,h1,h2,h3⟩:=h1 x 0 (by omega)
 exact⟨r,h1,h2,by omega⟩
theorem ZLX (x:UInt64):∃r:Nat,ZEh x=some (r:Int)∧1≤r∧r≤200:=by
 obtain⟨r,h1,h2,h3⟩:=ZNe x;have e1:IntKind.i64.wrap (r+7)=r+7:=i64w (by omega)
 have e2:IntKind.i64.wrap (r+7 - 1)=r+7 - 1:=i64w (by omega)
 have e3:(r+7 - 1).tdiv 7=(r+6) / 7:=by rw[show r+7 - 1=r+6 by omega];exact Int.tdiv_eq_ediv_of_nonneg (by omega)
 have e4:IntKind.i64.wrap ((r+6) / 7)=(r+6) / 7:=i64w (by omega)
 have e0:ZEh x=some (imax 1 ((r+6) / 7)):=by
  unfold ZEh;refine(bds h1).trans ?_
  show some (imax 1 (IntKind.i64.wrap ((IntKind.i64.wrap (IntKind.i64.wrap (r+7) - 1)).tdiv 7)))=_
  rw[e1,e2,e3,e4]
 refine⟨(imax 1 ((r+6) / 7)).toNat,?_,?_⟩
 ·rw[e0];unfold imax;split<;> congr 1<;> omega
 unfold imax;split<;> omega
theorem ZFT (x:UInt64):∃b,ZGH x=some b∧b.length≤200:=by
 obtain⟨r,h1,h2,h3⟩:=ZLX x;have e0:ZGH x=_:=bds h1
 have e0:=e0.trans (bds (ZSt (z:=(0:UInt8)) (by omega) (by omega)))
 obtain⟨b,hb,hbl⟩:=ZCY (body:=ZHA (List.replicate r (0:UInt8)) x) r (fun _ s=>s.length=r) (fun s=>s.length=r) (fun i s hi hs=>by
   have hw:IntKind.i64.wrap (7*(i:Int))=7*(i:Int):=i64w (by omega)
   have hu:shrU x (IntKind.i64.wrap (7*(i:Int)))=some (UInt64.ofInt ((x.toNat:Int).fdiv (2 ^ (min (7*(i:Int)).toNat 64)))):=by
    rw[hw];unfold shrU;exact if_pos (by omega)
   have hn:nth s (i:Int)=some (s.getD i 0):=nthD 0 (by omega)
   refine⟨s.set i (UInt8.ofInt (ZP9 .u8 (((UInt8.ofInt (((UInt64.ofInt ((x.toNat:Int).fdiv (2 ^ (min (7*(i:Int)).toNat 64)))).toNat:Int))).toNat:Int)) 128)),?_,by simp[hs]⟩
   show(if decide ((i:Int)<((List.replicate r (0:UInt8)).length:Int))=true then _ else _)=_
   rw[if_pos (decide_eq_true (by simp;omega))]
   refine(bds hu).trans ((bds hn).trans ?_)
   rw[lim (by omega)];rfl) (fun s hs=>by
   refine⟨s,?_,hs⟩
   show(if decide ((r:Int)<((List.replicate r (0:UInt8)).length:Int))=true then _ else _)=_
   rw[if_neg (by simp)]) 0 (List.replicate r 0) (by omega) (by simp)
 have e0:=e0.trans (bds hb);have hw:IntKind.i64.wrap ((b.length:Int) - 1)=((b.length - 1:Nat):Int):=by rw[i64w (by omega)];omega
 have hn:nth b (IntKind.i64.wrap ((b.length:Int) - 1))=some (b.getD (b.length - 1) 0):=by rw[hw];exact nthD 0 (by omega)
 have e0:=e0.trans ((bds hn).trans (bds hn));exact⟨_,e0,by simp;omega⟩
theorem ZF1 (b:List UInt8) (h:b.length≤100000):∃r,ZCS b=some r∧r.length≤b.length+200:=by
 obtain⟨c,h1,h2⟩:=ZFT (UInt64.ofInt (b.length:Int));refine⟨_,(bds h1).trans (bds (ZD4 c b (by omega) (by omega))),by simp;omega⟩
/-! ### Fields -/
def okF:AnyV→Prop
 | .mk 3 (.int _)=>True
 | .mk 9 (.str s)=>List.length s≤2000
 | .mk 33 (.bytes s)=>s.length≤2000
 | .mk 4 (.bool _)=>True
 | _=>False
theorem ZQV {fields:List AnyV} {b:List UInt8} (hb:b.length≤100000000) (hf:fields.length≤100) (h:∀v∈fields,okF v):∃r,ZDO b fields=some r∧r.length≤b.length+3000*fields.length:=by
 obtain⟨r,h1,h2⟩:=ZCY (body:=ZFg fields) fields.length (fun i s=>s.length≤b.length+3000*i) (fun s=>s.length≤b.length+3000*fields.length) (fun i s hi hs=>by
   have hn:nth fields (i:Int)=some fields[i]:=ZBk hi
   have hk:=h fields[i] (List.getElem_mem hi);have e0:ZFg fields (s,(i:Int))=_:=if_pos (decide_eq_true (show(i:Int)<(fields.length:Int) by omega))
   have e0:=e0.trans (bds hn);generalize fields[i]=v at e0 hk
   have fin:∀t:List UInt8,t.length≤2900→∃s',(((app 1 s t).bind fun l=>ZBx (i:Int) l)=some (.inl (s',((i+1:Nat):Int))))∧s'.length≤b.length+3000*(i+1):=fun t ht=>by
    refine⟨s++t,?_,by simp;omega⟩
    refine(bds (ZD4 s t (by omega) (by omega))).trans ?_
    unfold ZBx;rw[lim (by omega)]
   unfold okF at hk;split at hk
   ·rename_i n;obtain⟨c,c1,c2⟩:=ZFT (UInt64.ofInt n);obtain⟨s',f1,f2⟩:=fin c (by omega)
    refine⟨s',?_,f2⟩
    refine e0.trans (Eq.trans (bds (x:=(n,true)) rfl) ?_)
    exact(if_pos rfl).trans ((bds c1).trans f1)
   ·rename_i t;obtain⟨c,c1,c2⟩:=ZF1 t (by omega)
    obtain⟨s',f1,f2⟩:=fin c (by omega)
    refine⟨s',?_,f2⟩
    refine e0.trans (Eq.trans (bds (x:=((0:Int),false)) rfl) ?_)
    refine(if_neg Bool.false_ne_true).trans (Eq.trans (bds (x:=((t:Str),true)) rfl) ?_)
    exact(if_pos rfl).trans ((bds (ZD4 [] t (by simp;omega) (by simp;omega))).trans ((bds c1).trans f1))
   ·rename_i t;obtain⟨c,c1,c2⟩:=ZF1 t (by omega)
    obtain⟨s',f1,f2⟩:=fin c (by omega)
    refine⟨s',?_,f2⟩
    refine e0.trans (Eq.trans (bds (x:=((0:Int),false)) rfl) ?_)
    refine(if_neg Bool.false_ne_true).trans (Eq.trans (bds (x:=((str []:Str),false)) rfl) ?_)
    refine(if_neg Bool.false_ne_true).trans (Eq.trans (bds (x:=((t:List UInt8),true)) rfl) ?_)
    exact(if_pos rfl).trans ((bds c1).trans f1)
   ·rename_i t;obtain⟨c,c1,c2⟩:=ZFT (UInt64.ofInt (if t=true then 1 else 0))
    obtain⟨s',f1,f2⟩:=fin c (by omega)
    refine⟨s',?_,f2⟩
    refine e0.trans (Eq.trans (bds (x:=((0:Int),false)) rfl) ?_)
    refine(if_neg Bool.false_ne_true).trans (Eq.trans (bds (x:=((str []:Str),false)) rfl) ?_)
    refine(if_neg Bool.false_ne_true).trans (Eq.trans (bds (x:=(([]:List UInt8),false)) rfl) ?_)
    refine(if_neg Bool.false_ne_true).trans (Eq.trans (bds (x:=((str []:Str),false)) rfl) ?_)
    refine(if_neg Bool.false_ne_true).trans (Eq.trans (bds (x:=(t,true)) rfl) ?_)
    refine(if_pos rfl).trans ?_
    cases t with
    | true=>exact(if_pos rfl).trans ((bds c1).trans f1)
    | false=>exact(if_neg Bool.false_ne_true).trans ((bds c1).trans f1)
   ·cases hk) (fun s hs=>by
   refine⟨s,?_,hs⟩
   exact if_neg (by simp)) 0 b (by omega) (by simp)
 exact⟨r,bds h1,h2⟩
theorem ZEZ {fields:List AnyV} {b:List UInt8} (n:Nat) (hn:fields.length=n) (hb:b.length≤100000000) (hf:n≤100) (h:∀v∈fields,okF v):∃r,ZDO b fields=some r∧r.length≤b.length+3000*n:=by
 subst hn;exact ZQV hb hf h
theorem ZGN (a b:List UInt8):eqS a b=true↔a=b:=by unfold eqS;simp
end Go.Ai.Rab
end
section
set_option maxRecDepth 10000
open Go.Ai.Enc (enc is)
namespace Go.Ai.Rab
/-! ### Rows of names that rise -/
def nmAt (l:List Str) (i:Nat):Str:=l.getD i (str [])
theorem nthN {l:List Str} {i:Nat} (h:i<l.length):nth l (i:Int)=some (nmAt l i):=nthD (str []) h
theorem ZDV {l:List Str} {i:Nat} (h:i<l.length):nmAt l i=l[i]:=by unfold nmAt;simp only[List.getD_eq_getElem?_getD,List.getElem?_eq_getElem h,Option.getD_some]
def risP (l:List Str) (i:Nat):Bool:=chkS (nmAt l i)==0 && !(decide (0<i) && (ltS (nmAt l i) (nmAt l (i - 1)) || eqS (nmAt l i) (nmAt l (i - 1))))
def risB (l:List Str):Bool:=(List.range' 0 l.length).all (risP l)
theorem ZSv {l:List Str} {i:Nat} (h:i<l.length) (hl:l.length<9000000000000000000):
  (if decide ((i:Int) > 0)=true then((nth l (IntKind.i64.wrap ((i:Int) - 1))).bind fun v3=>some (ltS (nmAt l i) v3 || eqS (nmAt l i) v3)) else some false)=some (decide (0<i) && (ltS (nmAt l i) (nmAt l (i - 1)) || eqS (nmAt l i) (nmAt l (i - 1)))):=by
 by_cases h0:0<i
 ·have hw:IntKind.i64.wrap ((i:Int) - 1)=((i - 1:Nat):Int):=by rw[i64w (by omega)];omega
  rw[if_pos (decide_eq_true (by omega)),hw,decide_eq_true h0,Bool.true_and]
  exact bds (nthN (by omega))
 rw[if_neg (by simp;omega),decide_eq_false h0,Bool.false_and]
theorem ZR5 (c:Int) (x:Bool) {α:Type} (a b:Option α):((if(c !=0)=true then some true else((some x).bind fun b1=>some b1)).bind fun b' =>if b' =true then a else b)=if(c==0 && !x)=true then b else a:=by
 by_cases h:c=0
 ·subst h;cases x<;> rfl
 have e1:(c !=0)=true:=by simp[h]
 have e2:(c==0)=false:=by simp[h]
 rw[e1,e2];rfl
theorem ZGr {l:List Str} (hl:l.length<9000000000000000000):ZBZ l=some (risB l):=by
 have h:=ZFl (body:=ZEl l) l.length (risP l) false (fun i hi=>by
  show(if decide ((i:Int)<(l.length:Int))=true then _ else _)=_
  rw[if_pos (decide_eq_true (by omega))]
  refine(bds (nthN hi)).trans ((bds (ZMt _)).trans ?_)
  rw[ZSv hi hl,ZR5,lim (by omega)]
  rfl) (by
  show(if decide ((l.length:Int)<(l.length:Int))=true then _ else _)=_
  rw[if_neg (by simp)]) 0 (Nat.zero_le _)
 refine(bds h).trans ?_
 show _=some ((List.range' 0 l.length).all (risP l))
 cases(List.range' 0 (l.length - 0)).all (risP l)<;> rfl
theorem ZMG {l:List Str} (h:risB l=true):∀s∈l,chkS s=0:=by
 intro s hs;obtain⟨i,hi,rfl⟩:=List.getElem_of_mem hs;have:=ZDE.1 h i hi
 unfold risP at this;simp only[Bool.and_eq_true,beq_iff_eq] at this;have h1:=this.1;rw[ZDV hi] at h1;exact h1
theorem ZMv {s:Str} (h:chkS s=0):List.length s≤100:=by
 unfold chkS at h;split at h
 ·cases h
 split at h
 ·cases h
 omega
/-! ### Attributes -/
def atP (l:List ZAd) (i:Nat):Bool:=decide ((l[i]?.map fun a=>a.v.2.1.length).getD 0≤256)
def ZJS (l:List ZAd):Bool:=(List.range' 0 l.length).all (atP l) && (decide (l.length≤8) && risB (l.map fun a=>a.v.1))
theorem ZJT {α:Type} {body:(List Str×Int)→Option ((List Str×Int) ⊕ (List Str ⊕ Bool))} {l:List α} (nm:α→Str) (p:Nat→Bool) (h:∀(i:Nat) (hi:i<l.length) (s:List Str),s.length=i→body (s,(i:Int))=if p i then some (.inl (s++[nm l[i]],((i+1:Nat):Int))) else some (.inr (.inr false)))
  (he:∀s,body (s,(l.length:Int))=some (.inr (.inl s))):∀(d i:Nat) (hi:i+d=l.length) (s:List Str),s.length=i→loop body (s,(i:Int))=some (if(List.range' i d).all p then .inl (s++(l.drop i).map nm) else .inr false)
 | 0,i,hi,s,hs=>by
  have:i=l.length:=by omega
  subst this;rw[ZAt (he s)];simp
 | d+1,i,hi,s,hs=>by
  have h1:=h i (by omega) s hs
  rw[List.range'_succ,List.all_cons]
  cases hp:p i with
  | false=>rw[hp,if_neg Bool.false_ne_true] at h1;rw[ZAt h1];rfl
  | true=>
   rw[hp,if_pos rfl] at h1;rw[ZBY h1,ZJT nm p h he d (i+1) (by omega) _ (by simp[hs]),Bool.true_and]
   have:s++[nm l[i]]++(l.drop (i+1)).map nm=s++(l.drop i).map nm:=by
    rw[List.drop_eq_getElem_cons (show i<l.length by omega),List.map_cons,List.append_assoc];rfl
   rw[this]
theorem ZLY {l:List ZAd} (hl:l.length≤2000000):ZDA l=some (ZJS l):=by
 have h:=ZJT (body:=ZFN l) (l:=l) (fun a=>a.v.1) (atP l) (fun i hi s hs=>by
  show(if decide ((i:Int)<(l.length:Int))=true then _ else _)=_
  rw[if_pos (decide_eq_true (by omega))]
  refine(bds (ZBk hi)).trans ((bds (ZD4 s [l[i].v.1] (by simp;omega) (by simp;omega))).trans ?_)
  have:atP l i=decide (l[i].v.2.1.length≤256):=by simp[atP,hi]
  rw[this,lim (by omega)]
  by_cases hc:l[i].v.2.1.length≤256
  ·rw[decide_eq_true hc,if_neg (by simp;omega),if_pos rfl]
  ·rw[decide_eq_false hc,if_pos (decide_eq_true (by omega)),if_neg Bool.false_ne_true]) (fun s=>by
  show(if decide ((l.length:Int)<(l.length:Int))=true then _ else _)=_
  rw[if_neg (by simp)]) l.length 0 (by omega) [] rfl
 refine(bds h).trans ?_
 unfold ZJS
 cases(List.range' 0 l.length).all (atP l) with
 | false=>rfl
 | true=>
  rw[if_pos rfl,Bool.true_and];show((if decide ((l.length:Int)≤8)=true then((ZBZ (List.map (fun a:ZAd=>a.v.1) l)).bind fun r_=>some r_) else some false).bind fun b=>some b)=_
  rw[ZGr (by simp;omega)]
  have:decide ((l.length:Int)≤8)=decide (l.length≤8):=by rw[decide_eq_decide];omega
  rw[this]
  cases decide (l.length≤8)<;> rfl
/-! ### Nodes -/
def tgB (k:Int) (t:Str):Bool:=if k !=3 then eqS t (str []) else !eqS t (str []) && (decide (List.length t≤1000) && !decide (Go.Lib.indexByte t 0≥0))
def ZId (k m n:Int) (t:Str) (l:List ZAd):Bool:=decide (0≤m∧m≤4095) && (decide (0≤n∧n≤64) && (decide (1≤k∧k≤3) && (tgB k t && ZJS l)))
theorem ZMH (t:Str):ZBb t (str [0])=some (decide (Go.Lib.indexByte t 0≥0)):=rfl
abbrev ZFU (k m n:Int) (t:Str) (l:List ZAd):ZCc:=Rec.mk (k,m,n,(0:Int),t,l,([]:List RefR),())
theorem ZKI (k m n:Int) (t:Str) (l:List ZAd):ZBy (ZFU k m n t l)=some (tgB k t):=by
 unfold ZBy tgB;show(if(k !=3)=true then some (eqS t (str [])) else _)=_
 by_cases hk:(k !=3)=true
 ·rw[if_pos hk,if_pos hk]
 rw[if_neg hk,if_neg hk];show((if(!eqS t (str []))=true then some (decide (((List.length t:Nat):Int)≤1000)) else some false).bind fun b=>((if b=true then((ZBb t (str [0])).bind fun r_=>some (!r_)) else some false).bind fun b1=>((if b1=true then some ((0:Int)==0) else some false).bind fun b2=>some b2)))=_
 have e:decide (((List.length t:Nat):Int)≤1000)=decide (List.length t≤1000):=by rw[decide_eq_decide];omega
 rw[e,ZMH]
 cases(!eqS t (str []))<;> cases decide (List.length t≤1000)<;> cases decide (Go.Lib.indexByte t 0≥0)<;> rfl
theorem dec2 (a lo hi:Int):(if decide (a≥lo)=true then some (decide (a≤hi)) else some false)=some (decide (lo≤a∧a≤hi)):=by
 by_cases h:a≥lo
 ·rw[if_pos (decide_eq_true h)];congr 1;rw[decide_eq_decide];omega
 rw[if_neg (by simpa using h),decide_eq_false (by omega)]
theorem ZMI {k m n:Int} {t:Str} {l:List ZAd} (hl:l.length≤2000000):ZD2 (ZFU k m n t l)=some (ZId k m n t l):=by
 unfold ZD2 ZId;have e1:∀(b:Bool) (g:Bool→Option Bool),((if b=true then some (decide ((0:Int)≥0)) else some false).bind fun b3=>((if b3=true then some (decide ((0:Int)≤32768)) else some false).bind fun b4=>((if b4=true then some (decide ((([]:List RefR).length:Int)≤128)) else some false).bind g)))=g b:=fun b g=>by cases b<;> rfl
 show((if decide (m≥0)=true then some (decide (m≤4095)) else some false).bind fun b=>((if b=true then some (decide (n≥0)) else some false).bind fun b1=>((if b1=true then some (decide (n≤64)) else some false).bind fun b2=>((if b2=true then some (decide ((0:Int)≥0)) else some false).bind fun b3=>((if b3=true then some (decide ((0:Int)≤32768)) else some false).bind fun b4=>((if b4=true then some (decide ((([]:List RefR).length:Int)≤128)) else some false).bind fun b5=>((if decide (k<1)=true then some true else some (decide (k > 3))).bind fun b6=>((if b6=true then some true else some (!b5)).bind fun b7=>((if b7=true then some true else((ZBy (ZFU k m n t l)).bind fun r_=>some (!r_))).bind fun b8=>((if b8=true then some true else((ZDA l).bind fun r_1=>some (!r_1))).bind fun b9=>(if b9=true then some false else((loop (ZEn (ZFU k m n t l)) (0,0)).bind (ZDn (ZFU k m n t l))))))))))))))  =_
 have e2:∀b:Bool,((if b=true then some (decide (n≥0)) else some false).bind fun b1=>(if b1=true then some (decide (n≤64)) else some false))=some (b && decide (0≤n∧n≤64)):=fun b=>by
  cases b with
  | false=>rfl
  | true=>rw[if_pos rfl,bd,dec2];rfl
 have e3:(if decide (k<1)=true then some true else some (decide (k > 3)))=some (!decide (1≤k∧k≤3)):=by
  by_cases h:k<1
  ·rw[if_pos (decide_eq_true h),decide_eq_false (by omega)];rfl
  rw[if_neg (by simpa using h)];congr 1
  by_cases h2:k≤3
  ·rw[decide_eq_false (by omega),decide_eq_true (by omega)];rfl
  rw[decide_eq_true (by omega),decide_eq_false (by omega)];rfl
 have e4:loop (ZEn (ZFU k m n t l)) (0,0)=some (.inl 0):=ZAt rfl
 rw[dec2,bd];have e5:∀(b:Bool) (g:Bool→Option Bool),((if b=true then some (decide (n≥0)) else some false).bind fun b1=>((if b1=true then some (decide (n≤64)) else some false).bind g))=g (b && decide (0≤n∧n≤64)):=fun b g=>by
  rw[←Option.bind_assoc,e2,bd]
 rw[e5,e1,e3,bd,ZKI,ZLY hl,e4];have hz:(Option.bind (some (Sum.inl (0:Int))) (ZDn (ZFU k m n t l)):Option Bool)=some true:=rfl
 rw[hz]
 cases decide (0≤m∧m≤4095)<;> cases decide (0≤n∧n≤64)<;> cases decide (1≤k∧k≤3)<;> cases tgB k t<;> cases ZJS l<;> rfl
theorem ZLZ {l:List ZAd} (h:ZJS l=true):l.length≤8∧∀a∈l,List.length a.v.1≤100∧a.v.2.1.length≤256:=by
 unfold ZJS at h;simp only[Bool.and_eq_true,decide_eq_true_eq] at h;obtain⟨h1,h2,h3⟩:=h;refine⟨h2,fun a ha=>⟨ZMv (ZMG h3 _ (List.mem_map_of_mem ha)),?_⟩⟩
 obtain⟨i,hi,rfl⟩:=List.getElem_of_mem ha;have:=ZDE.1 h1 i hi
 simpa[atP,hi] using this
theorem ZSw {k:Int} {t:Str} (h:tgB k t=true):List.length t≤1000:=by
 unfold tgB at h;split at h
 ·have:=congrArg List.length ((ZGN t []).1 h)
  rw[this];decide
 simp only[Bool.and_eq_true,decide_eq_true_eq] at h;exact h.2.1
theorem aux6 {i a b:Nat} (h:a≤20000+7000*i) (k:b≤a+6000):b≤20000+7000*(i+1):=by rw[Nat.mul_succ,←Nat.add_assoc];exact Nat.le_trans k (Nat.add_le_add h (by decide))
theorem ZNf {k m n:Int} {t:Str} {l:List ZAd} (hl:l.length≤2000000):∃b,ZBq (ZFU k m n t l)=some (b,if ZId k m n t l=true then 0 else 80):=by
 have e0:ZBq (ZFU k m n t l)=_:=bds (ZMI hl)
 cases hm:ZId k m n t l with
 | false=>
  rw[hm] at e0;exact⟨[],e0.trans (if_pos rfl)⟩
 | true=>
  rw[hm] at e0;have hm' :=hm
  unfold ZId at hm';simp only[Bool.and_eq_true,decide_eq_true_eq] at hm';obtain⟨_,_,_,h4,h5⟩:=hm';obtain⟨l1,l2⟩:=ZLZ h5;have l3:=ZSw h4;have e0:=e0.trans (if_neg (show ¬(!true)=true by decide))
  obtain⟨b1,p1,p2⟩:=ZEZ 6 (b:=[]) (fields:=[ZAn 3 (k:Int),ZAn 3 (m:Int),ZAn 3 (n:Int),ZAn 3 (0:Int),ZAn 9 (t:Str),ZAn 3 ((l.length:Int):Int)]) rfl (by simp) (by decide) (by
   intro v hv;simp only[List.mem_cons,List.not_mem_nil,or_false] at hv;rcases hv with rfl | rfl | rfl | rfl | rfl | rfl<;> first | trivial | (show List.length t≤2000;omega))
  have e0:=e0.trans (bds p1);rw[List.length_nil] at p2;obtain⟨b2,q1,q2⟩:=ZCY (body:=ZEC (ZFU k m n t l)) l.length (fun i s=>s.length≤20000+7000*i) (fun s=>s.length≤20000+7000*l.length) (fun i s hi hs=>by
   obtain⟨h6,h7⟩:=l2 l[i] (List.getElem_mem hi);obtain⟨b',r1,r2⟩:=ZEZ 2 (b:=s) (fields:=[ZAn 9 (l[i].v.1:Str),ZAn 33 (l[i].v.2.1:List UInt8)]) rfl (by omega) (by decide) (by
    intro v hv;simp only[List.mem_cons,List.not_mem_nil,or_false] at hv;rcases hv with rfl | rfl
    ·show List.length l[i].v.1≤2000;omega
    show List.length l[i].v.2.1≤2000;omega)
   refine⟨b',?_,aux6 hs r2⟩
   refine(if_pos (decide_eq_true (show(i:Int)<(l.length:Int) by omega))).trans ?_
   refine(bds (ZBk hi)).trans ((bds r1).trans ?_)
   rw[lim (by omega)]) (fun s hs=>⟨s,if_neg (by simp),hs⟩) 0 b1 (by omega) (by omega)
  have e0:=e0.trans (bds q1);obtain⟨b3,s1,s2⟩:=ZEZ 1 (b:=b2) (fields:=[ZAn 3 ((([]:List RefR).length:Int):Int)]) rfl (by omega) (by decide) (by
   intro v hv;simp only[List.mem_cons,List.not_mem_nil,or_false] at hv;subst hv;trivial)
  have e0:=e0.trans (bds s1);have e4:loop (ZED (ZFU k m n t l)) (b3,0)=some b3:=ZAt rfl
  exact⟨b3,e0.trans (bds e4)⟩
/-! ### Listings -/
def numB (n:Int):Bool:=decide (1≤n∧n≤1024)
def ZHL (a:List Str) (b:List Int):Bool:=decide (a.length≤256) && (decide (b.length=a.length) && (risB a && b.all numB))
abbrev ZIe (a:List Str) (b:List Int):ZAc:=Rec.mk (true,a,b,())
theorem ZSx (n:Int) (a:List Str) (b:List Int):ZFI n (PtrC.mk (ZIe a b))=some (!numB n):=by
 unfold ZFI numB;show((if decide (n<0)=true then some true else some (decide (n > 1024))).bind fun b=>((if b=true then some true else((if true=true then some (n==0) else some false).bind fun b2=>some b2)).bind fun b1=>some b1))=_
 by_cases h1:n<0
 ·rw[if_pos (decide_eq_true h1),decide_eq_false (by omega)];rfl
 rw[if_neg (by simpa using h1)]
 by_cases h2:n > 1024
 ·rw[decide_eq_true h2,decide_eq_false (by omega)];rfl
 rw[decide_eq_false h2];by_cases h3:n=0
 ·subst h3;rfl
 have:(n==0)=false:=by simpa using h3
 rw[this,decide_eq_true (show 1≤n∧n≤1024 by omega)];rfl
theorem ZFm {body:Int→Option (Int ⊕ (Unit ⊕ Int))} (n:Nat) (p:Nat→Bool) (h:∀i:Nat,i<n→body i=if p i then some (.inr (.inr (i:Int))) else some (.inl ((i+1:Nat):Int))) (hn:body n=some (.inr (.inl ()))):
  ∀(d i:Nat),i+d=n→loop body i=some (match (List.range' i d).find? p with | some k=> .inr (k:Int) | none=> .inl ())
 | 0,i,hi=>by
  have:i=n:=by omega
  subst this;exact ZAt hn
 | d+1,i,hi=>by
  have h1:=h i (by omega)
  rw[List.range'_succ,List.find?_cons]
  cases hp:p i with
  | true=>rw[hp,if_pos rfl] at h1;rw[ZAt h1]
  | false=>rw[hp,if_neg Bool.false_ne_true] at h1;rw[ZBY h1,ZFm n p h hn d (i+1) (by omega)]
theorem ZQW {p:Nat→Bool} {d i:Nat}:(List.range' i d).find? p=none↔(List.range' i d).all (fun k=> !p k)=true:=by
 rw[List.find?_eq_none,List.all_eq_true];simp
theorem ZMJ {a:List Str} {b:List Int} (hb:b.length<9000000000000000000) (f:Clo 74 ((PtrC ZAc)×Unit)) (hf:f.cap.1=PtrC.mk (ZIe a b)):ZBD b f=some (!b.all numB):=by
 have h:=ZFm (body:=ZDM b f) b.length (fun i=> !numB (b.getD i 0)) (fun i hi=>by
  refine(if_pos (decide_eq_true (show(i:Int)<(b.length:Int) by omega))).trans ?_
  refine(bds (nthD 0 hi)).trans ?_
  rw[hf];refine(bds (ZSx _ _ _)).trans ?_
  rw[lim (by omega)]) (if_neg (by simp)) b.length 0 (by omega)
 have e0:ZBg b f=_:=bds h
 have hall:b.all numB=(List.range' 0 b.length).all fun i=>numB (b.getD i 0):=by
  rw[Bool.eq_iff_iff,List.all_eq_true,ZDE];constructor
  ·intro h i hi;simp only[List.getD_eq_getElem?_getD,List.getElem?_eq_getElem hi,Option.getD_some];exact h _ (List.getElem_mem hi)
  intro h x hx;obtain⟨i,hi,rfl⟩:=List.getElem_of_mem hx;have:=h i hi
  simpa only[List.getD_eq_getElem?_getD,List.getElem?_eq_getElem hi,Option.getD_some] using this
 rw[hall]
 cases hf:(List.range' 0 b.length).find? (fun i=> !numB (b.getD i 0)) with
 | none=>
  rw[hf] at e0;refine(bds e0).trans ?_
  have:=ZQW.1 hf
  simp only[Bool.not_not] at this;rw[this];rfl
 | some k=>
  rw[hf] at e0;refine(bds e0).trans ?_
  have:(List.range' 0 b.length).all (fun i=>numB (b.getD i 0))=false:=by
   rw[Bool.eq_false_iff];intro h;have h1:=List.find?_some hf;have h2:=List.all_eq_true.1 h k (List.mem_of_find?_eq_some hf);rw[h2] at h1;cases h1
  rw[this];show some (decide ((k:Int)≥0))=_
  rw[decide_eq_true (by omega)];rfl
theorem ZKJ {a:List Str} {b:List Int} (ha:a.length≤2000000) (hb:b.length≤2000000):∃c,ZBK (ZIe a b)=some (c,if ZHL a b=true then 0 else 80):=by
 have g1:(if decide ((a.length:Int) > 256)=true then some true else some ((b.length:Int) !=(a.length:Int)))=some (!(decide (a.length≤256) && decide (b.length=a.length))):=by
  by_cases h:a.length≤256
  ·rw[if_neg (by simp;omega),decide_eq_true h,Bool.true_and]
   congr 1
   by_cases h2:b.length=a.length
   ·simp[h2]
   rw[decide_eq_false h2];simp;omega
  rw[if_pos (decide_eq_true (by omega)),decide_eq_false h];rfl
 have e0:ZBK (ZIe a b)=_:=bds g1
 have g2:∀x:Bool,(if(!x)=true then some true else((ZBZ a).bind fun r_=>some (!r_)))=some (!(x && risB a)):=fun x=>by
  rw[ZGr (by omega)];cases x<;> rfl
 have e0:=e0.trans (bds (g2 _));have g3:∀x:Bool,(if(!x)=true then some true else((ZBD b (Clo.mk ((PtrC.mk (ZIe a b):PtrC ZAc),()):Clo 74 ((PtrC ZAc)×Unit))).bind fun r_1=>some r_1))=some (!(x && b.all numB)):=fun x=>by
  rw[ZMJ (by omega) _ rfl];cases x<;> rfl
 have e0:=e0.trans (bds (g3 _));have hL:(((decide (a.length≤256) && decide (b.length=a.length)) && risB a) && b.all numB)=ZHL a b:=by
  unfold ZHL;simp only[Bool.and_assoc]
 rw[hL] at e0
 cases hm:ZHL a b with
 | false=>
  rw[hm] at e0;exact⟨[],e0.trans (if_pos rfl)⟩
 | true=>
  rw[hm] at e0;have hm' :=hm
  unfold ZHL at hm';simp only[Bool.and_eq_true,decide_eq_true_eq] at hm';obtain⟨h1,h2,h3,h4⟩:=hm';have e0:=e0.trans (if_neg (show ¬(!true)=true by decide))
  obtain⟨b1,p1,p2⟩:=ZEZ 2 (b:=[]) (fields:=[ZAn 4 (true:Bool),ZAn 3 ((a.length:Int):Int)]) rfl (by simp) (by decide) (by
   intro v hv;simp only[List.mem_cons,List.not_mem_nil,or_false] at hv;rcases hv with rfl | rfl<;> trivial)
  have e0:=e0.trans (bds p1);rw[List.length_nil] at p2;obtain⟨b2,q1,q2⟩:=ZCY (body:=ZCp (ZIe a b)) a.length (fun i s=>s.length≤20000+6000*i) (fun s=>s.length≤20000+6000*a.length) (fun i s hi hs=>by
   have h6:=ZMv (ZMG h3 a[i] (List.getElem_mem hi));obtain⟨b',r1,r2⟩:=ZEZ 1 (b:=s) (fields:=[ZAn 9 (a[i]:Str)]) rfl (by omega) (by decide) (by
    intro v hv;simp only[List.mem_cons,List.not_mem_nil,or_false] at hv;subst hv;show List.length a[i]≤2000;omega)
   refine⟨b',?_,by omega⟩
   refine(if_pos (decide_eq_true (show(i:Int)<(a.length:Int) by omega))).trans ?_
   refine(bds (ZBk hi)).trans ((bds r1).trans ?_)
   rw[lim (by omega)]) (fun s hs=>⟨s,if_neg (by simp),hs⟩) 0 b1 (by omega) (by omega)
  have e0:=e0.trans (bds q1);obtain⟨b3,s1,s2⟩:=ZCY (body:=ZCq (ZIe a b)) b.length (fun i s=>s.length≤2000000+6000*i) (fun s=>True) (fun i s hi hs=>by
   obtain⟨b',r1,r2⟩:=ZEZ 1 (b:=s) (fields:=[ZAn 3 (b[i]:Int)]) rfl (by omega) (by decide) (by
    intro v hv;simp only[List.mem_cons,List.not_mem_nil,or_false] at hv;subst hv;trivial)
   refine⟨b',?_,by omega⟩
   refine(if_pos (decide_eq_true (show(i:Int)<(b.length:Int) by omega))).trans ?_
   refine(bds (ZBk hi)).trans ((bds r1).trans ?_)
   rw[lim (by omega)]) (fun s hs=>⟨s,if_neg (by simp),trivial⟩) 0 b2 (by omega) (by omega)
  have e0:=e0.trans (bds s1);exact⟨b3,e0⟩
/-! ### Inodes -/
def ZA5 (x:ZAD):Bool:=ZId x.v.2.1 x.v.2.2.1 x.v.2.2.2.1 x.v.2.2.2.2.2.1 x.v.2.2.2.2.2.2.2.2.1 && ((decide (x.v.2.2.2.2.1.length=0) || decide (x.v.2.1=1∧x.v.2.2.2.2.1.length≤32768)) && (decide (1≤x.v.1∧x.v.1≤1024) &&
 (if x.v.2.1 !=2 then decide (x.v.2.2.2.2.2.2.1.length=0∧x.v.2.2.2.2.2.2.2.1.length=0) else ZHL x.v.2.2.2.2.2.2.1 x.v.2.2.2.2.2.2.2.1 && (decide (x.v.2.2.2.1=1) && decide (x.v.2.2.2.2.2.2.1.length≤128)))))
def ZDP (x:ZAD):Prop:=x.v.2.2.2.2.1.length≤2000000∧x.v.2.2.2.2.2.2.1.length≤2000000∧x.v.2.2.2.2.2.2.2.1.length≤2000000∧x.v.2.2.2.2.2.2.2.2.1.length≤2000000
theorem ZKK {x:ZAD} (h:ZDP x):ZBI x=some (ZA5 x):=by
 obtain⟨h1,h2,h3,h4⟩:=h;obtain⟨⟨num,k,m,n,d,t,ns,is,at_,u⟩⟩:=x;simp only at h1 h2 h3 h4
 obtain⟨b,hb⟩:=ZNf (k:=k) (m:=m) (n:=n) (t:=t) (l:=at_) h4;have e0:ZBI (Rec.mk (num,k,m,n,d,t,ns,is,at_,u))=_:=bds hb
 have g1:(if((d.length:Int)==0)=true then some true else((if(k==1)=true then some (decide ((d.length:Int)≤32768)) else some false).bind fun b1=>some b1))=some (decide (d.length=0) || decide (k=1∧d.length≤32768)):=by
  by_cases hd:d.length=0
  ·rw[if_pos (by simp[hd]),decide_eq_true hd];rfl
  rw[if_neg (by simp;intro e;exact hd (by rw[e];rfl)),decide_eq_false hd,Bool.false_or]
  by_cases hk:k=1
  ·rw[if_pos (by simp[hk]),bd];congr 1;rw[decide_eq_decide];omega
  rw[if_neg (by simpa using hk),decide_eq_false (by omega)];rfl
 have e0:=e0.trans (bds g1);have g2:∀x y:Bool,(if((if x=true then(0:Int) else 80) !=0)=true then some true else some (!y))=some (!(x && y)):=fun x y=>by cases x<;> cases y<;> rfl
 have e0:=e0.trans (bds (g2 _ _));have g3:∀x:Bool,((if(!x)=true then some true else some (decide (num<1))).bind fun b3=>(if b3=true then some true else some (decide (num > 1024))))=some (!(x && decide (1≤num∧num≤1024))):=fun x=>by
  cases x with
  | false=>rfl
  | true=>
   rw[if_neg (by decide),bd,Bool.true_and]
   by_cases hn:num<1
   ·rw[if_pos (decide_eq_true hn),decide_eq_false (by omega)];rfl
   rw[if_neg (by simpa using hn)]
   by_cases hn2:num > 1024
   ·rw[decide_eq_true hn2,decide_eq_false (by omega)];rfl
   rw[decide_eq_false hn2,decide_eq_true (by omega)];rfl
 rw[←Option.bind_assoc,g3] at e0;refine e0.trans ?_
 show(if(!((ZId k m n t at_ && (decide (d.length=0) || decide (k=1∧d.length≤32768))) && decide (1≤num∧num≤1024)))=true then some false else _)=some (ZId k m n t at_ && ((decide (d.length=0) || decide (k=1∧d.length≤32768)) && (decide (1≤num∧num≤1024) && (if k !=2 then decide (ns.length=0∧is.length=0) else ZHL ns is && (decide (n=1) && decide (ns.length≤128))))))
 rw[←Bool.and_assoc,←Bool.and_assoc]
 cases((ZId k m n t at_ && (decide (d.length=0) || decide (k=1∧d.length≤32768))) && decide (1≤num∧num≤1024)) with
 | false=>rfl
 | true=>
  rw[if_neg (by decide),Bool.true_and]
  by_cases hk:(k !=2)=true
  ·rw[if_pos hk];show some (IntKind.i64.wrap ((ns.length:Int)+(is.length:Int))==0)=_
   rw[if_pos hk];rw[i64w (by omega)]
   congr 1
   by_cases hz:ns.length=0∧is.length=0
   ·rw[decide_eq_true hz,hz.1,hz.2];rfl
   rw[decide_eq_false hz];simp;intro e;apply hz;constructor<;> simp only[List.length_eq_zero_iff]<;> (first | (apply List.eq_nil_of_length_eq_zero;omega))
  rw[if_neg hk];obtain⟨c,hc⟩:=ZKJ (a:=ns) (b:=is) h2 h3;refine(bds hc).trans ?_
  rw[if_neg hk];show((if((if ZHL ns is=true then(0:Int) else 80)==0)=true then some (n==1) else some false).bind fun b5=>((if b5=true then some (decide ((ns.length:Int)≤128)) else some false).bind fun b6=>some b6))=_
  have e1:(n==1)=decide (n=1):=by rw[Bool.eq_iff_iff];simp
  have e2:decide ((ns.length:Int)≤128)=decide (ns.length≤128):=by rw[decide_eq_decide];omega
  rw[e1,e2]
  cases ZHL ns is<;> cases decide (n=1)<;> cases decide (ns.length≤128)<;> rfl
end Go.Ai.Rab
end
section
set_option maxRecDepth 10000
open Go.Ai.Enc (enc is)
namespace Go.Ai.Rab
/-! ### Inodes in their row -/
def noI:ZAD:=Rec.mk (0,0,0,0,[],str [],[],[],[],())
def inAt (l:List ZAD) (i:Nat):ZAD:=l.getD i noI
theorem ZFo {l:List ZAD} {i:Nat} (h:i<l.length):nth l (i:Int)=some (inAt l i):=nthD noI h
theorem ZBQ {l:List ZAD} {i:Nat} (h:i<l.length):inAt l i=l[i]:=by unfold inAt;simp only[List.getD_eq_getElem?_getD,List.getElem?_eq_getElem h,Option.getD_some]
theorem ZA2 {l:List ZAD} {i:Nat} (h:i<l.length):inAt l i∈l:=by rw[ZBQ h];exact List.getElem_mem h
def posI (l:List ZAD) (n:Int):Option Nat:=(List.range' 0 l.length).find? fun i=>(inAt l i).v.1==n
def fndI (l:List ZAD) (n:Int):Int:=match posI l n with | some k=>(k:Int) | none=> -1
theorem ZHM {f:FsR} (hl:f.v.1.length<9000000000000000000) (n:Int):ZAs f n=some (fndI f.v.1 n):=by
 have h:=ZFm (body:=ZDK f.v.1 (Clo.mk ((PtrC.mk n:PtrC Int),()):Clo 31 ((PtrC Int)×Unit))) f.v.1.length (fun i=>(inAt f.v.1 i).v.1==n) (fun i hi=>by
  refine(if_pos (decide_eq_true (show(i:Int)<(f.v.1.length:Int) by omega))).trans ?_
  refine(bds (ZFo hi)).trans ?_
  refine(bds (x:=((inAt f.v.1 i).v.1==n)) rfl).trans ?_
  rw[lim (by omega)]) (if_neg (by simp)) f.v.1.length 0 (by omega)
 have e0:ZBf f.v.1 (Clo.mk ((PtrC.mk n:PtrC Int),()):Clo 31 ((PtrC Int)×Unit))=_:=bds h
 refine(bds (e0.trans ?_)).trans rfl
 unfold fndI posI
 cases(List.range' 0 f.v.1.length).find? (fun i=>(inAt f.v.1 i).v.1==n)<;> rfl
theorem ZCA {l:List ZAD} {n:Int} {k:Nat} (h:posI l n=some k):k<l.length∧(inAt l k).v.1=n:=by
 unfold posI at h;have h1:=List.find?_some h;have h2:=List.mem_of_find?_eq_some h;simp only[List.mem_range'_1] at h2;exact⟨by omega,by simpa using h1⟩
theorem ZPU {l:List ZAD} {n:Int} (h:posI l n=none):∀i,i<l.length→(inAt l i).v.1≠n:=by
 intro i hi e;unfold posI at h;rw[List.find?_eq_none] at h;exact h i (by simp[List.mem_range'_1,hi]) (by simpa using e)
/-! ### Maps -/
theorem ZIf {V:Type}:∀(m:List (Int×V)) (i k:Int) (x:V),mget (mput m i x) k=if k=i then some x else mget m k
 | [],i,k,x=>by
  unfold mput mget mget;by_cases h:k=i
  ·rw[if_pos h.symm,if_pos h]
  rw[if_neg (fun e=>h e.symm),if_neg h]
 | (j,v)::m,i,k,x=>by
  unfold mput;by_cases h:j=i
  ·rw[if_pos h];unfold mget;by_cases h2:k=i
   ·rw[if_pos h2.symm,if_pos h2]
   rw[if_neg (fun e=>h2 e.symm),if_neg h2,if_neg (fun e=>h2 (by rw[←e,h]))]
  rw[if_neg h];unfold mget;by_cases h2:j=k
  ·rw[if_pos h2,if_neg (fun e=>h (by rw[h2,e])),if_pos h2]
  rw[if_neg h2,ZIf m i k x,if_neg h2]
theorem ZMw {V:Type}:∀(m:List (Int×V)) (i n:Int) (x:V),(∃v,(n,v)∈mput m i x)↔n=i∨∃v,(n,v)∈m
 | [],i,n,x=>by simp[mput]
 | (j,v)::m,i,n,x=>by
  unfold mput;by_cases h:j=i
  ·rw[if_pos h];subst h;constructor
   ·rintro⟨w,hw⟩;rcases List.mem_cons.1 hw with hw | hw
    ·injection hw with e1 e2;exact .inl e1
    exact .inr ⟨w,lM _ hw⟩
   rintro(rfl | ⟨w,hw⟩)
   ·exact⟨x,List.mem_cons_self⟩
   rcases List.mem_cons.1 hw with hw | hw
   ·injection hw with e1 e2;subst e1;exact⟨x,List.mem_cons_self⟩
   exact⟨w,lM _ hw⟩
  rw[if_neg h];have ih:=ZMw m i n x;constructor
  ·rintro⟨w,hw⟩;rcases List.mem_cons.1 hw with hw | hw
   ·exact .inr ⟨w,by rw[hw];exact List.mem_cons_self⟩
   rcases ih.1 ⟨w,hw⟩ with h1 | ⟨u,hu⟩
   ·exact .inl h1
   exact .inr ⟨u,lM _ hu⟩
  rintro(h1 | ⟨w,hw⟩)
  ·obtain⟨u,hu⟩:=ih.2 (.inl h1);exact⟨u,lM _ hu⟩
  rcases List.mem_cons.1 hw with hw | hw
  ·exact⟨w,by rw[hw];exact List.mem_cons_self⟩
  obtain⟨u,hu⟩:=ih.2 (.inr ⟨w,hw⟩);exact⟨u,lM _ hu⟩
/-! ### Where numbers stand -/
def upsX (x:ZAD) (l:List Int) (k:Int):List Int:=(l.filter (·==k)).map fun _=>x.v.1
def upsL (l:List ZAD) (k:Int):List Int:=l.flatMap fun x=>upsX x x.v.2.2.2.2.2.2.2.1 k
def ZFp (l:List ZAD):List Int:=l.flatMap fun x=>x.v.2.2.2.2.2.2.2.1
theorem ZMx (x:ZAD) (l:List Int) (k:Int):(upsX x l k).length≤l.length:=by unfold upsX;rw[List.length_map];exact List.length_filter_le _ _
theorem ZMy (k:Int):∀(l:List ZAD),(∀x∈l,x.v.2.2.2.2.2.2.2.1.length≤200)→(upsL l k).length≤200*l.length
 | [],_=>by simp[upsL]
 | x::l,h=>by
  have h1:=ZMy k l (fun y hy=>h y (lM _ hy))
  have h2:=ZMx x x.v.2.2.2.2.2.2.2.1 k;have h3:=h x List.mem_cons_self;unfold upsL at h1 ⊢;rw[List.flatMap_cons,List.length_append,List.length_cons];omega
theorem ZSy {x:ZAD} (hx:x.v.2.2.2.2.2.2.2.1.length≤200) (m0:List (Int×List Int)) (base:Int→List Int) (S:List Int) (hb:∀k,(base k).length≤200000) (h0:∀k,(mget m0 k).getD []=base k) (hk:∀n,(∃v,(n,v)∈m0)↔n∈S):
  ∃m,loop (ZDB x) (m0,0)=some m∧(∀k,(mget m k).getD []=base k++upsX x x.v.2.2.2.2.2.2.2.1 k)∧∀n,(∃v,(n,v)∈m)↔n∈S++x.v.2.2.2.2.2.2.2.1:=by
 generalize hns:x.v.2.2.2.2.2.2.2.1=ns at*
 refine ZCY (body:=ZDB x) ns.length (fun j m=>(∀k,(mget m k).getD []=base k++upsX x (ns.take j) k)∧∀n,(∃v,(n,v)∈m)↔n∈S++ns.take j) _ (fun i m hi hI=> ?_) (fun m hI=> ?_) 0 m0 (by omega) ?_
 ·obtain⟨I1,I2⟩:=hI;have hn:nth ns (i:Int)=some ns[i]:=ZBk hi
  have hlen:((mget m ns[i]).getD []).length≤200200:=by
   rw[I1,List.length_append];have:=hb ns[i]
   have h2:=ZMx x (ns.take i) ns[i];rw[List.length_take] at h2;omega
  refine⟨mput m ns[i] ((mget m ns[i]).getD []++[x.v.1]),?_,?_,?_⟩
  ·show(if decide ((i:Int)<(x.v.2.2.2.2.2.2.2.1.length:Int))=true then((nth x.v.2.2.2.2.2.2.2.1 (i:Int)).bind fun v3=>((app 8 ((mget m v3).getD []) [x.v.1]).bind fun l=>some (Sum.inl ((mput m v3 l),(IntKind.i64.wrap ((i:Int)+1)))))) else some (Sum.inr m))=_
   rw[hns,if_pos (decide_eq_true (by omega))]
   refine(bds hn).trans ((bds (ZD4 _ [x.v.1] (by simp only[List.length_singleton];omega) (by simp only[List.length_singleton];omega))).trans ?_)
   rw[lim (by omega)]
  ·intro k;rw[ZIf];have ht:ns.take (i+1)=ns.take i++[ns[i]]:=by rw[List.take_add_one,List.getElem?_eq_getElem hi];rfl
   rw[ht];unfold upsX;rw[List.filter_append,List.map_append];by_cases e:k=ns[i]
   ·rw[if_pos e,Option.getD_some,I1,←e];have:([k]:List Int).filter (·==k)=[k]:=by simp
    rw[this,←List.append_assoc];rfl
   rw[if_neg e,I1];have:([ns[i]]:List Int).filter (·==k)=[]:=by simp;exact fun e' =>e e'.symm
   rw[this,List.map_nil,List.append_nil];rfl
  intro n;rw[ZMw,I2];have ht:ns.take (i+1)=ns.take i++[ns[i]]:=by rw[List.take_add_one,List.getElem?_eq_getElem hi];rfl
  rw[ht,←List.append_assoc];simp only[List.mem_append,List.mem_singleton];constructor
  ·rintro(h | h)
   ·exact .inr h
   exact .inl h
  rintro(h | h)
  ·exact .inr h
  exact .inl h
 ·refine⟨m,?_,?_⟩
  ·show(if decide ((ns.length:Int)<(x.v.2.2.2.2.2.2.2.1.length:Int))=true then _ else some (Sum.inr m))=_
   rw[hns,if_neg (by simp)]
  rw[List.take_length] at hI;exact hI
 refine⟨fun k=> ?_,fun n=> ?_⟩
 ·rw[h0];simp[upsX]
 rw[hk];simp
theorem ZMz {f:FsR} (hl:f.v.1.length≤512) (hx:∀x∈f.v.1,x.v.2.2.2.2.2.2.2.1.length≤200):∃m,ZDo f=some m∧(∀k,(mget m k).getD []=upsL f.v.1 k)∧∀n,(∃v,(n,v)∈m)↔n∈ZFp f.v.1:=by
 generalize hf:f.v.1=l at*
 obtain⟨m,h1,h2,h3⟩:=ZCY (body:=ZFQ f) l.length (fun i m=>(∀k,(mget m k).getD []=upsL (l.take i) k)∧∀n,(∃v,(n,v)∈m)↔n∈ZFp (l.take i)) (fun m=>(∀k,(mget m k).getD []=upsL l k)∧∀n,(∃v,(n,v)∈m)↔n∈ZFp l) (fun i m hi hI=>by
   obtain⟨I1,I2⟩:=hI;have hb:∀k,(upsL (l.take i) k).length≤200000:=fun k=>by
    have h1:=ZMy k (l.take i) (fun x hx' =>hx x (List.mem_of_mem_take hx'))
    rw[List.length_take] at h1;omega
   obtain⟨m',g1,g2,g3⟩:=ZSy (hx l[i] (List.getElem_mem hi)) m _ _ hb I1 I2;have ht:l.take (i+1)=l.take i++[l[i]]:=by rw[List.take_add_one,List.getElem?_eq_getElem hi];rfl
   refine⟨m',?_,?_,?_⟩
   ·show(if decide ((i:Int)<(f.v.1.length:Int))=true then((nth f.v.1 (i:Int)).bind fun v1=>((loop (ZDB v1) (m,0)).bind (ZFP (i:Int)))) else some (Sum.inr m))=_
    rw[hf,if_pos (decide_eq_true (by omega))]
    refine(bds (ZBk hi)).trans ((bds g1).trans ?_)
    show some (Sum.inl (m',IntKind.i64.wrap ((i:Int)+1)))=_
    rw[lim (by omega)]
   ·intro k;rw[g2,ht];unfold upsL;rw[List.flatMap_append,List.flatMap_cons,List.flatMap_nil,List.append_nil]
   ·intro n;rw[g3,ht];unfold ZFp;rw[List.flatMap_append,List.flatMap_cons,List.flatMap_nil,List.append_nil]) (fun m hI=>by
   refine⟨m,?_,?_⟩
   ·show(if decide ((l.length:Int)<(f.v.1.length:Int))=true then _ else some (Sum.inr m))=_
    rw[hf,if_neg (by simp)]
   rw[List.take_length] at hI;exact hI) 0 [] (by omega) ⟨fun k=>by simp[upsL,mget],fun n=>by simp[ZFp]⟩
 exact⟨m,bds h1,h2,h3⟩
def ZCd (l:List ZAD):Nat→Int→Bool
 | 0,_=>false
 | d+1,n=>match upsL l n with
  | []=>true
  | p::_=>ZCd l d p
theorem ZLa {m:List (Int×List Int)} {l:List ZAD} (hm:∀k,(mget m k).getD []=upsL l k) (most:Nat) (hmost:most≤10000):∀(d v:Nat) (n:Int),v+d=most+1→loop (ZDT (most:Int) m) (n,(v:Int))=some (if ZCd l d n=true then .inr true else .inl ())
 | 0,v,n,hv=>by
  refine ZAt ?_
  show(if decide ((v:Int)<IntKind.i64.wrap ((most:Int)+1))=true then _ else _)=_
  rw[lim (by omega),if_neg (by simp;omega)];rfl
 | d+1,v,n,hv=>by
  have e0:ZDT (most:Int) m (n,(v:Int))=if((((mget m n).getD []).length:Int)==0)=true then some (.inr (.inr true)) else((nth ((mget m n).getD []) 0).bind fun v2=>some (.inl (v2,(IntKind.i64.wrap ((v:Int)+1))))):=by
   show(if decide ((v:Int)<IntKind.i64.wrap ((most:Int)+1))=true then _ else _)=_
   rw[lim (by omega),if_pos (decide_eq_true (by omega))]
  rw[hm] at e0;unfold ZCd
  cases hu:upsL l n with
  | nil=>
   rw[hu] at e0;exact ZAt e0
  | cons p q=>
   rw[hu] at e0;have e0:=e0.trans ((if_neg (show ¬((((p::q).length:Nat):Int)==0)=true by simp;omega)).trans (bds (x:=p) rfl))
   rw[lim (by omega)] at e0
   rw[ZBY e0];exact ZLa hm most hmost d (v+1) p (by omega)
theorem ZR6 {m:List (Int×List Int)} {l:List ZAD} (hm:∀k,(mget m k).getD []=upsL l k) (most:Nat) (hmost:most≤10000) (n:Int):ZFi m n (most:Int)=some (ZCd l (most+1) n):=by
 refine(bds (ZLa hm most hmost (most+1) 0 n (by omega))).trans ?_
 cases ZCd l (most+1) n<;> rfl
/-! ### Check -/
def hdB (l:List ZAD) (nx:Int):Bool:=decide (l.length≠0∧l.length≤512) && (decide ((inAt l 0).v.1=1) && (decide ((inAt l 0).v.2.1=2) && decide (2≤nx∧nx≤513)))
def sorP (l:List ZAD) (i:Nat):Bool:=ZA5 (inAt l i) && !(decide (0<i) && decide ((inAt l (i - 1)).v.1≥(inAt l i).v.1))
def knB (l:List ZAD) (k:Int):Bool:=(List.range' 0 l.length).any fun i=>(inAt l i).v.1==k
def cndX (l:List ZAD) (x:ZAD):Bool:=if x.v.2.1 !=2 then decide (((upsL l x.v.1).length:Int)=x.v.2.2.2.1) else decide ((upsL l x.v.1).length≤1) && (!(decide (0<(upsL l x.v.1).length) && decide (x.v.1=1)) && ZCd l (l.length+1) x.v.1)
def chkL (l:List ZAD) (nx:Int):Bool:=hdB l nx && ((List.range' 0 l.length).all (sorP l) && ((ZFp l).all (knB l) && (List.range' 0 l.length).all fun i=>cndX l (inAt l i)))
theorem ZPV {l:List ZAD} {k:Int}:knB l k=true↔∃i,i<l.length∧(inAt l i).v.1=k:=by
 unfold knB;rw[List.any_eq_true];constructor
 ·rintro⟨i,hi,h⟩;simp only[List.mem_range'_1] at hi;exact⟨i,by omega,by simpa using h⟩
 rintro⟨i,hi,h⟩;exact⟨i,by simp[List.mem_range'_1,hi],by simpa using h⟩
theorem ZM0 {σ ρ:Type} {body:σ×Int→Option ((σ×Int) ⊕ (σ ⊕ ρ))} (n:Nat) (p:Nat→Bool) (J:Nat→σ→Prop) (r0:ρ) (h:∀i s,i<n→J i s→(p i=true→∃s',body (s,(i:Int))=some (.inl (s',((i+1:Nat):Int)))∧J (i+1) s')∧(p i=false→body (s,(i:Int))=some (.inr (.inr r0))))
  (he:∀s,body (s,(n:Int))=some (.inr (.inl s))):∀d i s,i+d=n→J i s→∃s',((List.range' i d).all p=true→J n s')∧loop body (s,(i:Int))=some (if(List.range' i d).all p=true then .inl s' else .inr r0)
 | 0,i,s,hi,hJ=>by
  have:i=n:=by omega
  subst this;exact⟨s,fun _=>hJ,ZAt (he s)⟩
 | d+1,i,s,hi,hJ=>by
  obtain⟨h1,h2⟩:=h i s (by omega) hJ
  rw[List.range'_succ,List.all_cons]
  cases hp:p i with
  | false=>exact⟨s,fun e=>by simp at e,ZAt (h2 hp)⟩
  | true=>
   obtain⟨s1,g1,g2⟩:=h1 hp;obtain⟨s',g3,g4⟩:=ZM0 n p J r0 h he d (i+1) s1 (by omega) g2
   exact⟨s',by rw[Bool.true_and];exact g3,by rw[ZBY g1,Bool.true_and];exact g4⟩
def ZDQ (l:List ZAD):Prop:=l.length≤2000000∧∀x∈l,ZDP x
theorem ZHN {x:ZAD} (h:ZA5 x=true):x.v.2.2.2.2.2.2.2.1.length≤200∧x.v.2.2.2.2.2.2.1.length=x.v.2.2.2.2.2.2.2.1.length:=by
 unfold ZA5 at h;simp only[Bool.and_eq_true] at h;obtain⟨_,_,_,h⟩:=h;split at h
 ·have:=of_decide_eq_true h
  omega
 simp only[Bool.and_eq_true,decide_eq_true_eq] at h;unfold ZHL at h;simp only[Bool.and_eq_true,decide_eq_true_eq] at h;omega
theorem ZSz {l:List ZAD} {i:Nat} (h:i<l.length) (hl:l.length≤512):
  (if decide ((i:Int) > 0)=true then((nth l (IntKind.i64.wrap ((i:Int) - 1))).bind fun v5=>some (decide (v5.v.1≥(inAt l i).v.1))) else some false)=some (decide (0<i) && decide ((inAt l (i - 1)).v.1≥(inAt l i).v.1)):=by
 by_cases h0:0<i
 ·have hw:IntKind.i64.wrap ((i:Int) - 1)=((i - 1:Nat):Int):=by rw[i64w (by omega)];omega
  rw[if_pos (decide_eq_true (by omega)),hw,decide_eq_true h0,Bool.true_and]
  exact bds (ZFo (by omega))
 rw[if_neg (by simp;omega),decide_eq_false h0,Bool.false_and]
theorem ZQX {f:FsR} {m:List (Int×List Int)} (hl:f.v.1.length≤512) (hm:∀k,(mget m k).getD []=upsL f.v.1 k):
  loop (ZB9 f m) 0=some (if(List.range' 0 f.v.1.length).all (fun i=>cndX f.v.1 (inAt f.v.1 i)) then .inl () else .inr false):=by
 refine ZFl (body:=ZB9 f m) f.v.1.length (fun i=>cndX f.v.1 (inAt f.v.1 i)) false (fun i hi=> ?_) (if_neg (by simp)) 0 (Nat.zero_le _)
 refine(if_pos (decide_eq_true (show(i:Int)<(f.v.1.length:Int) by omega))).trans ?_
 refine(bds (ZFo hi)).trans ?_
 rw[hm,ZR6 hm f.v.1.length (by omega),lim (by omega)]
 generalize inAt f.v.1 i=x
 unfold cndX;generalize hu:upsL f.v.1 x.v.1=u
 have e1:((u.length:Int) !=x.v.2.2.2.1)= !decide ((u.length:Int)=x.v.2.2.2.1):=by rw[Bool.eq_iff_iff];simp
 have e2:decide ((u.length:Int) > 1)= !decide (u.length≤1):=by rw[Bool.eq_iff_iff];simp;omega
 have e3:decide ((u.length:Int) > 0)=decide (0<u.length):=by rw[decide_eq_decide];omega
 have e4:(x.v.1==1)=decide (x.v.1=1):=by rw[Bool.eq_iff_iff];simp
 rw[e1,e2,e3,e4];by_cases hk:x.v.2.1=2
 ·have k1:(x.v.2.1 !=2)=false:=by simp[hk]
  have k2:(x.v.2.1==2)=true:=by simp[hk]
  rw[k1,k2]
  cases decide (u.length≤1)<;> cases decide (0<u.length)<;> cases decide (x.v.1=1)<;> cases ZCd f.v.1 (f.v.1.length+1) x.v.1<;> rfl
 have k1:(x.v.2.1 !=2)=true:=by simpa using hk
 have k2:(x.v.2.1==2)=false:=by simpa using hk
 rw[k1,k2]
 cases decide ((u.length:Int)=x.v.2.2.2.1)<;> rfl
theorem ZMK {f:FsR} {m:List (Int×List Int)} {kn:List (Int×Bool)} (hk:∀k,(mget kn k).getD false=true↔∃i,i<f.v.1.length∧(inAt f.v.1 i).v.1=k) (hm:∀n,(∃v,(n,v)∈m)↔n∈ZFp f.v.1):
  ZGm m (ZB8 kn)=some (if(ZFp f.v.1).all (knB f.v.1)=true then .inl () else .inr false):=by
 have e0:∀k,ZB8 kn k=if knB f.v.1 k=true then some (.inl ()) else some (.inr false):=fun k=>by
  show(if(!((mget kn k).getD false))=true then _ else _)=_
  have:(mget kn k).getD false=knB f.v.1 k:=by rw[Bool.eq_iff_iff,hk,ZPV]
  rw[this]
  cases knB f.v.1 k<;> rfl
 refine ZPI ?_
 cases hb:(ZFp f.v.1).all (knB f.v.1) with
 | true=>
  refine .inl ⟨rfl,fun kv hkv=> ?_⟩
  rw[e0,if_pos (List.all_eq_true.1 hb kv.1 ((hm kv.1).1 ⟨kv.2,hkv⟩))]
 | false=>
  refine .inr ⟨false,rfl,?_,fun kv hkv=> ?_⟩
  ·rw[List.all_eq_false] at hb;obtain⟨k,hk1,hk2⟩:=hb;obtain⟨v,hv⟩:=(hm k).2 hk1;exact⟨(k,v),hv,by rw[e0,if_neg hk2]⟩
  rw[e0];split
  ·exact .inl rfl
  exact .inr rfl
theorem ZDF {f:FsR} (hs:ZDQ f.v.1):ZAW f=some (chkL f.v.1 f.v.2.1):=by
 obtain⟨hs1,hs2⟩:=hs;have g0:(if((f.v.1.length:Int)==0)=true then some true else some (decide ((f.v.1.length:Int) > 512)))=some (!decide (f.v.1.length≠0∧f.v.1.length≤512)):=by
  by_cases h:f.v.1.length=0
  ·rw[if_pos (by simp[h]),decide_eq_false (by omega)];rfl
  rw[if_neg (by simp;intro e;exact h (by rw[e];rfl))]
  by_cases h2:f.v.1.length≤512
  ·rw[decide_eq_false (by omega),decide_eq_true ⟨h,h2⟩];rfl
  rw[decide_eq_true (by omega),decide_eq_false (by omega)];rfl
 have e0:ZAW f=_:=bds g0
 by_cases hsz:f.v.1.length≠0∧f.v.1.length≤512
 ·rw[decide_eq_true hsz] at e0;have hn0:nth f.v.1 0=some (inAt f.v.1 0):=ZFo (i:=0) (by omega)
  have e0:=e0.trans (bds (x:= !decide ((inAt f.v.1 0).v.1=1)) (by
   rw[if_neg (by decide),hn0]
   show some ((inAt f.v.1 0).v.1 !=1)=_
   congr 1))
  have e0:=e0.trans (bds (x:= !(decide ((inAt f.v.1 0).v.1=1) && decide ((inAt f.v.1 0).v.2.1=2))) (by
   rw[hn0];show(if(!decide ((inAt f.v.1 0).v.1=1))=true then some true else some ((inAt f.v.1 0).v.2.1 !=2))=_
   have:((inAt f.v.1 0).v.2.1 !=2)= !decide ((inAt f.v.1 0).v.2.1=2):=by rw[Bool.eq_iff_iff];simp
   rw[this]
   cases decide ((inAt f.v.1 0).v.1=1)<;> rfl))
  generalize hd0:decide ((inAt f.v.1 0).v.1=1)=d1 at e0
  generalize hd1:decide ((inAt f.v.1 0).v.2.1=2)=d2 at e0
  have g3:∀x:Bool,((if(!x)=true then some true else some (decide (f.v.2.1<2))).bind fun b3=>(if b3=true then some true else some (decide (f.v.2.1 > 513))))=some (!(x && decide (2≤f.v.2.1∧f.v.2.1≤513))):=fun x=>by
   cases x with
   | false=>rfl
   | true=>
    rw[if_neg (by decide),bd,Bool.true_and]
    by_cases hn:f.v.2.1<2
    ·rw[if_pos (decide_eq_true hn),decide_eq_false (by omega)];rfl
    rw[if_neg (by simpa using hn)]
    by_cases hn2:f.v.2.1 > 513
    ·rw[decide_eq_true hn2,decide_eq_false (by omega)];rfl
    rw[decide_eq_false hn2,decide_eq_true (by omega)];rfl
  rw[←Option.bind_assoc,g3] at e0;refine e0.trans ?_
  have hhd:hdB f.v.1 f.v.2.1=((d1 && d2) && decide (2≤f.v.2.1∧f.v.2.1≤513)):=by
   unfold hdB;rw[decide_eq_true hsz,Bool.true_and,hd0,hd1,Bool.and_assoc]
  unfold chkL;rw[bd,hhd]
  cases((d1 && d2) && decide (2≤f.v.2.1∧f.v.2.1≤513)) with
  | false=>rfl
  | true=>
   rw[if_neg (by decide),Bool.true_and]
   obtain⟨kn,k1,k2⟩:=ZM0 (body:=ZCw f) f.v.1.length (sorP f.v.1) (fun i s=>(∀k,(mget s k).getD false=true↔∃j,j<i∧(inAt f.v.1 j).v.1=k)) false (fun i s hi hJ=>by
    have e0:ZCw f (s,(i:Int))=_:=if_pos (decide_eq_true (show(i:Int)<(f.v.1.length:Int) by omega))
    have e0:=e0.trans ((bds (ZFo hi)).trans (bds (ZKK (hs2 _ (ZA2 hi)))));have e0:=e0.trans (bds (x:= !sorP f.v.1 i) (by
     rw[ZSz hi hsz.2];unfold sorP;generalize (decide (0<i) && decide ((inAt f.v.1 (i - 1)).v.1≥(inAt f.v.1 i).v.1))=q
     cases ZA5 (inAt f.v.1 i)<;> cases q<;> rfl))
    rw[lim (by omega)] at e0
    refine⟨fun hp=> ?_,fun hp=> ?_⟩
    ·rw[hp] at e0;refine⟨_,e0.trans (if_neg (by decide)),fun k=> ?_⟩
     rw[ZIf];by_cases e:k=(inAt f.v.1 i).v.1
     ·rw[if_pos e];exact⟨fun _=>⟨i,by omega,e.symm⟩,fun _=>rfl⟩
     rw[if_neg e,hJ];constructor
     ·rintro⟨j,h1,h2⟩;exact⟨j,by omega,h2⟩
     rintro⟨j,h1,h2⟩;refine⟨j,?_,h2⟩
     have:j≠i:=fun e' =>e (by rw[←h2,e'])
     omega
    rw[hp] at e0;exact e0.trans (if_pos rfl)) (fun s=>if_neg (by simp)) f.v.1.length 0 [] (by omega) (fun k=>⟨fun h=>by simp[mget] at h,fun⟨j,h,_⟩=>by omega⟩)
   refine(bds k2).trans ?_
   cases hsor:(List.range' 0 f.v.1.length).all (sorP f.v.1) with
   | false=>rfl
   | true=>
    rw[if_pos rfl,Bool.true_and];have hal:∀x∈f.v.1,x.v.2.2.2.2.2.2.2.1.length≤200:=fun x hx=>by
     obtain⟨i,hi,rfl⟩:=List.getElem_of_mem hx;have:=ZDE.1 hsor i hi
     unfold sorP at this;simp only[Bool.and_eq_true] at this;have h2:=(ZHN this.1).1;rwa [ZBQ hi] at h2
    obtain⟨m,m1,m2,m3⟩:=ZMz hsz.2 hal;show((ZDo f).bind fun r_1=>((ZGm r_1 (ZB8 kn)).bind (ZCy f r_1)))=_
    refine(bds m1).trans ((bds (ZMK (k1 hsor) m3)).trans ?_)
    cases hkn:(ZFp f.v.1).all (knB f.v.1) with
    | false=>rfl
    | true=>
     rw[if_pos rfl,Bool.true_and];show((loop (ZB9 f m) 0).bind ZCx)=_
     refine(bds (ZQX hsz.2 m2)).trans ?_
     cases(List.range' 0 f.v.1.length).all (fun i=>cndX f.v.1 (inAt f.v.1 i))<;> rfl
 have:chkL f.v.1 f.v.2.1=false:=by unfold chkL hdB;rw[decide_eq_false hsz];rfl
 rw[decide_eq_false hsz] at e0;rw[this];exact e0.trans rfl
end Go.Ai.Rab
end
section
set_option maxRecDepth 10000
open Go.Ai.Enc (enc is)
namespace Go.Ai.Rab
/-! ### The order of texts -/
theorem ZKL (a b:Str):eqS a b=true↔a=b:=ZGN a b
theorem ZM1:∀a:List UInt8,ltS a a=false
 | []=>rfl
 | a::l=>by
  have:=ZM1 l
  unfold ltS at this ⊢;unfold Op.bytesLess;rw[this];simp
theorem lt_trans:∀{a b c:List UInt8},ltS a b=true→ltS b c=true→ltS a c=true
 | [],[],_,h,_=>by simp[ltS,Op.bytesLess] at h
 | _::_,[],_,h,_=>by simp[ltS,Op.bytesLess] at h
 | _,_::_,[],_,h=>by simp[ltS,Op.bytesLess] at h
 | [],_::_,_::_,_,_=>by simp[ltS,Op.bytesLess]
 | a::x,b::y,c::z,h,k=>by
  unfold ltS Op.bytesLess at h k ⊢;simp only[Bool.or_eq_true,Bool.and_eq_true,decide_eq_true_eq,beq_iff_eq] at h k ⊢;rcases h with h | ⟨rfl,h⟩
  ·rcases k with k | ⟨rfl,k⟩
   ·exact .inl (UInt8.lt_trans h k)
   exact .inl h
  rcases k with k | ⟨rfl,k⟩
  ·exact .inl k
  exact .inr ⟨rfl,lt_trans (a:=x) (b:=y) h k⟩
theorem ZRP:∀{a b:List UInt8},ltS a b=false→ltS b a=false→a=b
 | [],[],_,_=>rfl
 | [],_::_,h,_=>by simp[ltS,Op.bytesLess] at h
 | _::_,[],_,h=>by simp[ltS,Op.bytesLess] at h
 | a::x,b::y,h,k=>by
  unfold ltS Op.bytesLess at h k;simp only[Bool.or_eq_false_iff,Bool.and_eq_false_iff,decide_eq_false_iff_not,beq_eq_false_iff_ne] at h k;have hab:a=b:=UInt8.le_antisymm (UInt8.not_lt.1 k.1) (UInt8.not_lt.1 h.1)
  subst hab;rw[ZRP (a:=x) (b:=y) (h.2.resolve_left fun e=>e rfl) (k.2.resolve_left fun e=>e rfl)]
theorem ZR7 {a b:List UInt8} (h:ltS a b=true):ltS b a=false:=by
 cases hb:ltS b a with
 | false=>rfl
 | true=>have:=lt_trans h hb;rw[ZM1] at this;cases this
/-! ### How many stand ZNu -/
def pt {α:Type} (less:α→Bool) (l:List α):Nat:=(l.takeWhile less).length
theorem ZKM {α:Type} (less:α→Bool):∀l:List α,pt less l≤l.length
 | []=>Nat.le_refl _
 | a::l=>by
  have:=ZKM less l
  unfold pt at this ⊢;rw[List.takeWhile_cons];split
  ·simp only[List.length_cons];omega
  simp
theorem ZML {α:Type} (less:α→Bool) (a:α) (l:List α):pt less (a::l)=if less a=true then pt less l+1 else 0:=by
 unfold pt;rw[List.takeWhile_cons];split<;> rfl
theorem ZR8 {α:Type} (less:α→Bool):∀(l:List α) (k:Nat) (h:k<l.length),k<pt less l→less l[k]=true
 | a::l,k,h,hk=>by
  rw[ZML] at hk;split at hk
  ·rename_i ha
   cases k with
   | zero=>exact ha
   | succ k=>exact ZR8 less l k (by simpa using h) (by omega)
  omega
theorem ZQY {α:Type} (less:α→Bool):∀(l:List α) (h:pt less l<l.length),less l[pt less l]=false
 | [],h=>by simp at h
 | a::l,h=>by
  cases ha:less a with
  | false=>
   have:pt less (a::l)=0:=by rw[ZML,ha,if_neg Bool.false_ne_true]
   simp only[this,List.getElem_cons_zero];exact ha
  | true=>
   have e:pt less (a::l)=pt less l+1:=by rw[ZML,ha,if_pos rfl]
   have h2:pt less l<l.length:=by rw[e] at h;simpa using h
   have:=ZQY less l h2
   simp only[e,List.getElem_cons_succ];exact this
theorem ZMM {α:Type} {less:α→Bool} {l:List α} {p:Nat} (hp:p≤l.length) (h1:∀k (h:k<l.length),k<p→less l[k]=true) (h2:∀h:p<l.length,less l[p]=false):p=pt less l:=by
 rcases Nat.lt_trichotomy p (pt less l) with h | h | h
 ·have hl:=ZKM less l;have:=ZR8 less l p (by omega) h
  rw[h2 (by omega)] at this;cases this
 ·exact h
 have h3:=ZQY less l (by omega)
 rw[h1 _ (by omega) h] at h3;cases h3
theorem half {i j:Nat} (h:i+j<9000000000000000000):IntKind.i64.wrap (((UInt64.ofInt (((((UInt64.ofInt (IntKind.i64.wrap ((i:Int)+(j:Int))))).toNat:Int)).fdiv (2 ^ 1)))).toNat:Int)=(((i+j) / 2:Nat):Int):=by
 rw[i64w (show -9223372036854775808≤(i:Int)+j∧(i:Int)+j≤9223372036854775807 by omega),ZIK (z:=(i:Int)+j) (by omega) (by omega)]
 have:((i:Int)+(j:Int)).fdiv (2 ^ 1)=(((i+j) / 2:Nat):Int):=by
  rw[Int.fdiv_eq_ediv_of_nonneg _ (by decide)]
  omega
 rw[this,ZIK (by omega) (by omega),i64w (by omega)]
theorem ZQZ {body:Int×Int→Option ((Int×Int) ⊕ Int)} (n:Nat) (less:Nat→Bool) (hmono:∀i j,i≤j→j<n→less j=true→less i=true)
  (h:∀i j:Nat,i<j→j≤n→body ((i:Int),(j:Int))=if less ((i+j) / 2)=true then some (.inl ((((i+j) / 2+1:Nat):Int),(j:Int))) else some (.inl ((i:Int),(((i+j) / 2:Nat):Int))))
  (he:∀i:Nat,i≤n→body ((i:Int),(i:Int))=some (.inr (i:Int))):∀(d i j:Nat),i≤j→j≤n→j - i≤d→(∀k,k<i→less k=true)→(∀k,j≤k→k<n→less k=false)→
   ∃p:Nat,loop body ((i:Int),(j:Int))=some (p:Int)∧p≤n∧(∀k,k<p→less k=true)∧(∀k,p≤k→k<n→less k=false):=by
 intro d;induction d with
 | zero=>
  intro i j h1 h2 h3 h4 h5;have:i=j:=by omega
  subst this;exact⟨i,ZAt (he i h2),h2,h4,h5⟩
 | succ d ih=>
  intro i j h1 h2 h3 h4 h5;by_cases e:i=j
  ·subst e;exact⟨i,ZAt (he i h2),h2,h4,h5⟩
  have hb:=h i j (by omega) h2
  cases hl:less ((i+j) / 2) with
  | true=>
   rw[hl,if_pos rfl] at hb;rw[ZBY hb];exact ih _ _ (by omega) h2 (by omega) (fun k hk=>hmono k ((i+j) / 2) (by omega) (by omega) hl) h5
  | false=>
   rw[hl,if_neg Bool.false_ne_true] at hb;rw[ZBY hb];refine ih _ _ (by omega) (by omega) (by omega) h4 (fun k hk hkn=> ?_)
   cases hlk:less k with
   | false=>rfl
   | true=>rw[hmono ((i+j) / 2) k hk hkn hlk] at hl;cases hl
theorem ZRQ {α:Type} {body:Int×Int→Option ((Int×Int) ⊕ Int)} (l:List α) (less:α→Bool) (hmono:∀i j (h:j<l.length) (h' :i≤j),less l[j]=true→less l[i]=true)
  (h:∀i j:Nat,i<j→(hj:j≤l.length)→(hh:(i+j) / 2<l.length)→body ((i:Int),(j:Int))=if less l[(i+j) / 2]=true then some (.inl ((((i+j) / 2+1:Nat):Int),(j:Int))) else some (.inl ((i:Int),(((i+j) / 2:Nat):Int))))
  (he:∀i:Nat,i≤l.length→body ((i:Int),(i:Int))=some (.inr (i:Int))):loop body (0,(l.length:Int))=some ((pt less l:Nat):Int):=by
 let lk:Nat→Bool:=fun k=>if h:k<l.length then less l[k] else false
 have hlk:∀k (h:k<l.length),lk k=less l[k]:=fun k h=>dif_pos h
 obtain⟨p,h1,h2,h3,h4⟩:=ZQZ (body:=body) l.length lk (fun i j hij hj hl=>by rw[hlk j hj] at hl;rw[hlk i (by omega)];exact hmono i j hj hij hl)
  (fun i j hij hj=>by rw[h i j hij hj (by omega),hlk _ (by omega)]) he l.length 0 l.length (Nat.zero_le _) (Nat.le_refl _) (by omega) (fun k hk=>by omega) (fun k hk hk' =>by omega)
 have:p=pt less l:=ZMM h2 (fun k hk hkp=>by rw[←hlk k hk];exact h3 k hkp) (fun hp=>by rw[←hlk p hp];exact h4 p (Nat.le_refl _) hp)
 subst this;exact h1
/-! ### Names -/
theorem ZPW {l:List Str} (h:risB l=true):∀i j (hj:j<l.length),(hij:i<j)→ltS l[i] l[j]=true:=by
 have step:∀i (hi:i+1<l.length),ltS l[i] l[i+1]=true:=fun i hi=>by
  have:=ZDE.1 h (i+1) hi
  unfold risP at this;simp only[Bool.and_eq_true,Bool.not_eq_true',Bool.and_eq_false_iff,Bool.or_eq_false_iff,decide_eq_false_iff_not,Nat.add_sub_cancel] at this;have h1:=this.2.resolve_left (by omega)
  rw[ZDV hi,ZDV (show i<l.length by omega)] at h1
  cases hx:ltS l[i] l[i+1] with
  | true=>rfl
  | false=>
   have e:=ZRP hx h1.1;have h2:=h1.2;rw[←Bool.not_eq_true,ZKL] at h2;exact absurd e.symm h2
 intro i j;induction j with
 | zero=>intro _ h;omega
 | succ j ih=>
  intro hj hij;by_cases e:i=j
  ·subst e;exact step i hj
  exact lt_trans (ih (by omega) (by omega)) (step j hj)
def ptN (l:List Str) (s:Str):Nat:=pt (fun a:Str=>ltS a s) l
def hasN (l:List Str) (s:Str):Bool:=decide (ptN l s<l.length) && eqS (nmAt l (ptN l s)) s
theorem ZR9 (a b:Str):ZK3 a b=some (ltS a b):=by
 unfold ZK3 ZGd;have e:∀c:Str,(!eqS c c)=false:=fun c=>by rw[(ZGN c c).2 rfl];rfl
 show Option.bind (if(!eqS a a)=true then some (!(!eqS b b)) else some false) _=_
 rw[e,if_neg Bool.false_ne_true];rfl
theorem ZPX {l:List Str} (hr:risB l=true) (hl:l.length≤2000000) (s:Str):binS l s=some (((ptN l s:Nat):Int),hasN l s):=by
 have h1:loop (ZL4 l s) (0,(l.length:Int))=some ((ptN l s:Nat):Int):=by
  refine ZRQ l (fun a:Str=>ltS a s) (fun i j hj hij h=> ?_) (fun i j hij hj hh=> ?_) (fun i hi=> ?_)
  ·by_cases e:i=j
   ·subst e;exact h
   exact lt_trans (ZPW hr i j hj (by omega)) h
  ·refine(if_pos (decide_eq_true (show(i:Int)<(j:Int) by omega))).trans ?_
   rw[half (by omega),lim (by omega)]
   refine(bds (ZBk hh)).trans ((bds (ZR9 _ _)).trans ?_)
   rfl
  exact if_neg (by simp)
 refine(bds h1).trans ?_
 have hp:=ZKM (fun a:Str=>ltS a s) l
 show((if decide (((ptN l s:Nat):Int)<(l.length:Int))=true then((nth l ((ptN l s:Nat):Int)).bind fun v1=>((if(eqS v1 s)=true then some true else((nth l ((ptN l s:Nat):Int)).bind fun v2=>((ZCI v2).bind fun r_1=>((if r_1=true then((ZCI s).bind fun r_2=>some r_2) else some false).bind fun b2=>some b2)))).bind fun b1=>some b1)) else some false).bind fun b=>some (((ptN l s:Nat):Int),b))=_
 unfold hasN;by_cases h:ptN l s<l.length
 ·rw[if_pos (decide_eq_true (by omega)),decide_eq_true h,Bool.true_and]
  rw[nthN h];have e:∀c:Str,(!eqS c c)=false:=fun c=>by rw[(ZGN c c).2 rfl];rfl
  have e2:((ZCI (nmAt l (ptN l s))).bind fun r_1=>((if r_1=true then((ZCI s).bind fun r_2=>some r_2) else some false).bind fun b2=>some b2))=some false:=by
   unfold ZCI;rw[e];rfl
  show(Option.bind (if eqS (nmAt l (ptN l s)) s=true then some true else((ZCI (nmAt l (ptN l s))).bind fun r_1=>((if r_1=true then((ZCI s).bind fun r_2=>some r_2) else some false).bind fun b2=>some b2))) (fun b1=>some b1)).bind _=_
  rw[e2]
  cases eqS (nmAt l (ptN l s)) s<;> rfl
 rw[if_neg (by simp;omega),decide_eq_false h];rfl
theorem ZPY {l:List Str} (hr:risB l=true) (s:Str):hasN l s=true↔s∈l:=by
 unfold hasN;rw[Bool.and_eq_true,decide_eq_true_eq,ZKL];constructor
 ·rintro⟨h1,h2⟩;rw[ZDV h1] at h2;rw[←h2];exact List.getElem_mem h1
 intro h;obtain⟨i,hi,rfl⟩:=List.getElem_of_mem h;have:i=ptN l l[i]:=ZMM (by omega) (fun k hk hki=>ZPW hr k i hi hki) (fun _=>ZM1 _)
 rw[←this];exact⟨hi,ZDV hi⟩
theorem ZKN {l:List Str} (hr:risB l=true) (hl:l.length≤2000000) (s:Str):ZDk l s=some (hasN l s):=by
 have h:=ZFm (body:=ZIN l s) l.length (fun i=>eqS s (nmAt l i)) (fun i hi=>by
  refine(if_pos (decide_eq_true (show(i:Int)<(l.length:Int) by omega))).trans ?_
  refine(bds (nthN hi)).trans ?_
  rw[lim (by omega)]) (if_neg (by simp)) l.length 0 (by omega)
 have e0:ZIP l s=_:=bds h
 cases hf:(List.range' 0 l.length).find? (fun i=>eqS s (nmAt l i)) with
 | none=>
  rw[hf] at e0;refine(bds e0).trans ?_
  have:hasN l s=false:=by
   cases hh:hasN l s with
   | false=>rfl
   | true=>
    obtain⟨i,hi,e⟩:=List.getElem_of_mem ((ZPY hr s).1 hh);rw[List.find?_eq_none] at hf;exact absurd ((ZGN s (nmAt l i)).2 (by rw[ZDV hi,e])) (hf i (by simp[List.mem_range'_1,hi]))
  rw[this];rfl
 | some k=>
  rw[hf] at e0;refine(bds e0).trans ?_
  have h1:=List.find?_some hf;have h2:=List.mem_of_find?_eq_some hf;simp only[List.mem_range'_1] at h2;have hk:k<l.length:=by omega
  have:hasN l s=true:=(ZPY hr s).2 (by rw[(ZGN _ _).1 h1,ZDV hk];exact List.getElem_mem hk)
  rw[this];show some (decide ((k:Int)≥0))=_
  rw[decide_eq_true (by omega)]
/-! ### Inodes -/
def ZCB (l:List ZAD):Prop:=∀i j (hj:j<l.length) (hij:i<j),l[i].v.1<l[j].v.1
def ptI (l:List ZAD) (n:Int):Nat:=pt (fun x:ZAD=>decide (x.v.1<n)) l
def hasI (l:List ZAD) (n:Int):Bool:=decide (ptI l n<l.length) && decide ((inAt l (ptI l n)).v.1=n)
theorem ZSA (a b:Int):cmpI a b=some (if a<b then -1 else if a > b then 1 else 0):=by
 unfold cmpI ZGc;have e:∀c:Int,(c !=c)=false:=fun c=>by simp
 rw[e,bd];show Option.bind (some (b !=b)) _=_
 rw[e,bd];show(if decide (a<b)=true then some (-1:Int) else if decide (a > b)=true then some 1 else some 0)=_
 by_cases h:a<b
 ·rw[if_pos (decide_eq_true h),if_pos h]
 rw[if_neg (by simpa using h),if_neg h]
 by_cases h2:a > b
 ·rw[if_pos (decide_eq_true h2),if_pos h2]
 rw[if_neg (by simpa using h2),if_neg h2]
theorem ZLb (x:ZAD) (n:Int) (c:PtrC (Clo 57 (Unit))):ZDl x n c=some (if x.v.1<n then -1 else if x.v.1 > n then 1 else 0):=(bds (x:=x.v.1) rfl).trans ((bds (ZSA _ _)).trans rfl)
theorem ZSB {l:List ZAD} (hs:ZCB l) (hl:l.length≤2000000) (n:Int) (c:Clo 57 Unit):ZCK l n c=some (((ptI l n:Nat):Int),hasI l n):=by
 generalize hcl:(Clo.mk ((PtrC.mk c:PtrC (Clo 57 (Unit))),()):Clo 78 ((PtrC (Clo 57 (Unit)))×Unit))=cc
 have h1:loop (ZEi l n cc) (0,(l.length:Int))=some ((ptI l n:Nat):Int):=by
  refine ZRQ l (fun x:ZAD=>decide (x.v.1<n)) (fun i j hj hij h=> ?_) (fun i j hij hj hh=> ?_) (fun i hi=> ?_)
  ·by_cases e:i=j
   ·subst e;exact h
   have:=hs i j hj (by omega)
   have h:=of_decide_eq_true h;exact decide_eq_true (by omega)
  ·refine(if_pos (decide_eq_true (show(i:Int)<(j:Int) by omega))).trans ?_
   rw[half (by omega),lim (by omega)]
   refine(bds (ZBk hh)).trans ((bds (ZLb _ _ _)).trans ?_)
   by_cases hx:l[(i+j) / 2].v.1<n
   ·rw[if_pos hx,decide_eq_true hx];rfl
   rw[if_neg hx,decide_eq_false hx];split<;> rfl
  exact if_neg (by simp)
 have hb:ZCo l n cc=some (((ptI l n:Nat):Int),hasI l n):=by
  refine(bds h1).trans ?_
  have hp:=ZKM (fun x:ZAD=>decide (x.v.1<n)) l
  show((if decide (((ptI l n:Nat):Int)<(l.length:Int))=true then((nth l ((ptI l n:Nat):Int)).bind fun v1=>((ZDl v1 n cc.cap.1).bind fun r_1=>some (r_1==0))) else some false).bind fun b=>some (((ptI l n:Nat):Int),b))=_
  unfold hasI;by_cases h:ptI l n<l.length
  ·rw[if_pos (decide_eq_true (by omega)),decide_eq_true h,Bool.true_and]
   rw[ZFo h];show(Option.bind ((ZDl (inAt l (ptI l n)) n cc.cap.1).bind fun r_1=>some (r_1==0)) _)=_
   rw[ZLb];have hge:=ZQY (fun x:ZAD=>decide (x.v.1<n)) l h
   have hge:¬(inAt l (ptI l n)).v.1<n:=by rw[ZBQ h];exact of_decide_eq_false hge
   rw[if_neg hge];by_cases e:(inAt l (ptI l n)).v.1=n
   ·rw[if_neg (by omega),decide_eq_true e];rfl
   rw[if_pos (by omega),decide_eq_false e];rfl
  rw[if_neg (by simp;omega),decide_eq_false h];rfl
 unfold ZCK;rw[hcl];exact bds hb
def ZAw (l:List ZAD) (x:ZAD):List ZAD:=l.take (ptI l x.v.1)++x::l.drop (if hasI l x.v.1=true then ptI l x.v.1+1 else ptI l x.v.1)
theorem ZLc (l:List ZAD) (x:ZAD):(ZAw l x).length=if hasI l x.v.1=true then l.length else l.length+1:=by
 have hp:=ZKM (fun y:ZAD=>decide (y.v.1<x.v.1)) l
 have hp:ptI l x.v.1≤l.length:=hp
 unfold ZAw
 cases hh:hasI l x.v.1 with
 | true=>
  have:ptI l x.v.1<l.length:=by unfold hasI at hh;simp only[Bool.and_eq_true,decide_eq_true_eq] at hh;exact hh.1
  simp only[if_true,List.length_append,List.length_take,List.length_cons,List.length_drop];omega
 | false=>simp only[Bool.false_eq_true,if_false,List.length_append,List.length_take,List.length_cons,List.length_drop];omega
theorem ZCM {l:List ZAD} (hs:ZCB l) (x:ZAD):ZCB (ZAw l x):=by
 have hp:ptI l x.v.1≤l.length:=ZKM _ l
 have hlt:∀k (h:k<l.length),k<ptI l x.v.1→l[k].v.1<x.v.1:=fun k h hk=>of_decide_eq_true (ZR8 (fun y:ZAD=>decide (y.v.1<x.v.1)) l k h hk)
 have hgt:∀k (h:k<l.length),(if hasI l x.v.1=true then ptI l x.v.1+1 else ptI l x.v.1)≤k→x.v.1<l[k].v.1:=fun k h hk=>by
  split at hk
  ·rename_i hh;unfold hasI at hh;simp only[Bool.and_eq_true,decide_eq_true_eq] at hh;have h2:=hs (ptI l x.v.1) k h (by omega)
   rw[←ZBQ hh.1,hh.2] at h2;exact h2
  rename_i hh;have h0:ptI l x.v.1<l.length:=by omega
  have hge:=of_decide_eq_false (ZQY (fun y:ZAD=>decide (y.v.1<x.v.1)) l h0)
  have hne:(inAt l (ptI l x.v.1)).v.1≠x.v.1:=fun e=>hh (by unfold hasI;rw[decide_eq_true h0,decide_eq_true e];rfl)
  rw[ZBQ h0] at hne;have hge:¬l[ptI l x.v.1].v.1<x.v.1:=hge
  by_cases e:k=ptI l x.v.1
  ·subst e;omega
  have:=hs (ptI l x.v.1) k h (by omega);omega
 generalize hd:(if hasI l x.v.1=true then ptI l x.v.1+1 else ptI l x.v.1)=d at hgt
 have hpd:ptI l x.v.1≤d:=by rw[←hd];split<;> omega
 have eW:ZAw l x=l.take (ptI l x.v.1)++x::l.drop d:=by unfold ZAw;rw[hd]
 generalize hpp:ptI l x.v.1=p at*
 have hpw:List.Pairwise (fun a b:ZAD=>a.v.1<b.v.1) l:=List.pairwise_iff_getElem.2 fun i j hi hj hij=>hs i j hj hij
 have:List.Pairwise (fun a b:ZAD=>a.v.1<b.v.1) (ZAw l x):=by
  rw[eW,List.pairwise_append];refine⟨hpw.sublist (List.take_sublist _ _),List.pairwise_cons.2 ⟨fun b hb=> ?_,hpw.sublist (List.drop_sublist _ _)⟩,fun a ha b hb=> ?_⟩
  ·obtain⟨i,hi,rfl⟩:=List.getElem_of_mem hb;rw[List.getElem_drop];exact hgt _ _ (by omega)
  obtain⟨i,hi,rfl⟩:=List.getElem_of_mem ha;rw[List.length_take] at hi;have h1:(l.take p)[i].v.1<x.v.1:=by rw[List.getElem_take];exact hlt i (by omega) (by omega)
  rcases List.mem_cons.1 hb with rfl | hb
  ·exact h1
  obtain⟨j,hj,rfl⟩:=List.getElem_of_mem hb;have h2:x.v.1<(l.drop d)[j].v.1:=by rw[List.getElem_drop];exact hgt _ _ (by omega)
  omega
 exact fun i j hj hij=>List.pairwise_iff_getElem.1 this i j (by omega) hj hij
theorem ZIg {l:List ZAD} {x:ZAD} (h:∀y∈l,ZDP y) (hx:ZDP x):∀y∈ZAw l x,ZDP y:=by
 intro y hy;unfold ZAw at hy;rcases List.mem_append.1 hy with hy | hy
 ·exact h y (List.mem_of_mem_take hy)
 rcases List.mem_cons.1 hy with rfl | hy
 ·exact hx
 exact h y (List.mem_of_mem_drop hy)
theorem ZPZ {α:Type} {z:Nat} (l:List α) (i:Nat) (v:List α) (hi:i≤l.length) (h:l.length+v.length≤137438953472) (h' :(l.length+v.length)*z≤137438953472):ins z l (i:Int) v=some (l.take i++v++l.drop i):=by
 unfold ins ZEF;rw[if_pos (by simp[h,h',hi])];simp
theorem ZIh {l:List ZAD} (hs:ZCB l) (hl:l.length≤1000) (l0:List ZAD) (v:Nat) (hv:v<l0.length) (hl0:l0.length≤100):
  ZCV l0 (l,(v:Int))=some (.inl (ZAw l l0[v],((v+1:Nat):Int))):=by
 refine(if_pos (decide_eq_true (show(v:Int)<(l0.length:Int) by omega))).trans ?_
 refine(bds (ZBk hv)).trans ((bds (ZSB hs (by omega) _ _)).trans ?_)
 generalize l0[v]=x
 have hp:ptI l x.v.1≤l.length:=ZKM _ l
 unfold ZAw;show(if hasI l x.v.1=true then((nth l ((ptI l x.v.1:Nat):Int)).bind fun v2=>(ZBh (v:Int) (l.set ((ptI l x.v.1:Nat):Int).toNat x))) else((ZFh l ((ptI l x.v.1:Nat):Int) [x]).bind fun r_2=>(ZBh (v:Int) r_2)))=_
 unfold ZBh;rw[lim (by omega)]
 cases hh:hasI l x.v.1 with
 | true=>
  have h0:ptI l x.v.1<l.length:=by unfold hasI at hh;simp only[Bool.and_eq_true,decide_eq_true_eq] at hh;exact hh.1
  rw[if_pos rfl,if_pos rfl];refine(bds (ZBk h0)).trans ?_
  have:l.set ((ptI l x.v.1:Nat):Int).toNat x=l.take (ptI l x.v.1)++x::l.drop (ptI l x.v.1+1):=by
   rw[Int.toNat_natCast,List.set_eq_take_append_cons_drop,if_pos h0]
  rw[this]
 | false=>
  rw[if_neg Bool.false_ne_true,if_neg Bool.false_ne_true];refine(bds (ZPZ l _ [x] hp (by simp only[List.length_singleton];omega) (by simp only[List.length_singleton];omega))).trans ?_
  rw[List.append_assoc];rfl
theorem ZIi (l:List ZAD) (h:l.length≤1000):ZER l=some l:=by
 unfold ZER;refine(bds (ZD4 ([]:List ZAD) l (by simp only[List.length_nil];omega) (by simp only[List.length_nil];omega))).trans ?_
 rw[List.nil_append]
theorem ZGs {f:FsR} (hs:ZCB f.v.1) (hl:f.v.1.length≤1000) (x:ZAD):ZAo f [x]=some (Rec.mk (ZAw f.v.1 x,f.v.2.1,())):=by
 refine(bds (ZIi _ hl)).trans ?_
 have e1:=ZIh hs hl [x] 0 (by simp) (by simp)
 have e2:ZCV [x] (ZAw f.v.1 x,((0+1:Nat):Int))=some (.inr (ZAw f.v.1 x)):=rfl
 refine(bds ((ZBY e1).trans (ZAt e2))).trans rfl
theorem ZQa {f:FsR} (hs:ZCB f.v.1) (hl:f.v.1.length≤900) (x y:ZAD):ZAo f [x,y]=some (Rec.mk (ZAw (ZAw f.v.1 x) y,f.v.2.1,())):=by
 refine(bds (ZIi _ (by omega))).trans ?_
 have e1:=ZIh hs (by omega) [x,y] 0 (by simp) (by simp)
 have e2:=ZIh (ZCM hs x) (by rw[ZLc];split<;> omega) [x,y] 1 (by simp) (by simp)
 have e3:ZCV [x,y] (ZAw (ZAw f.v.1 x) y,((1+1:Nat):Int))=some (.inr (ZAw (ZAw f.v.1 x) y)):=rfl
 refine(bds ((ZBY e1).trans ((ZBY e2).trans (ZAt e3)))).trans rfl
end Go.Ai.Rab
end
section
set_option maxRecDepth 10000
open Go.Ai.Enc (enc is)
namespace Go.Ai.Rab
structure Ok (l:List ZAD) (nx:Int):Prop where
 len0:0<l.length
 len:l.length≤512
 n0:(inAt l 0).v.1=1
 k0:(inAt l 0).v.2.1=2
 nx:2≤nx∧nx≤513
 al:∀x∈l,ZA5 x=true
 so:ZCB l
 kn:∀k∈ZFp l,∃x∈l,x.v.1=k
 cn:∀x∈l,cndX l x=true
theorem ZS0 {l:List ZAD} {p:ZAD→Bool}:((List.range' 0 l.length).all fun i=>p (inAt l i))=true↔∀x∈l,p x=true:=by
 rw[ZDE];constructor
 ·intro h x hx;obtain⟨i,hi,rfl⟩:=List.getElem_of_mem hx;rw[←ZBQ hi];exact h i hi
 intro h i hi;exact h _ (ZA2 hi)
theorem ZSC {l:List ZAD}:(List.range' 0 l.length).all (sorP l)=true↔(∀x∈l,ZA5 x=true)∧ZCB l:=by
 rw[ZDE];constructor
 ·intro h;have h1:∀i,i<l.length→ZA5 (inAt l i)=true:=fun i hi=>by
   have:=h i hi
   unfold sorP at this;simp only[Bool.and_eq_true] at this;exact this.1
  have h2:∀i (hi:i+1<l.length),l[i].v.1<l[i+1].v.1:=fun i hi=>by
   have:=h (i+1) hi
   unfold sorP at this;simp only[Bool.and_eq_true,Bool.not_eq_true',Bool.and_eq_false_iff,decide_eq_false_iff_not,Nat.add_sub_cancel] at this;have h3:=this.2.resolve_left (by omega)
   rw[ZBQ hi,ZBQ (show i<l.length by omega)] at h3
   omega
  refine⟨fun x hx=> ?_,fun i j=> ?_⟩
  ·obtain⟨i,hi,rfl⟩:=List.getElem_of_mem hx;rw[←ZBQ hi];exact h1 i hi
  induction j with
  | zero=>intro _ h;omega
  | succ j ih=>
   intro hj hij;have:=h2 j hj
   by_cases e:i=j
   ·subst e;exact this
   have:=ih (by omega) (by omega);omega
 rintro⟨h1,h2⟩ i hi;unfold sorP;rw[h1 _ (ZA2 hi),Bool.true_and];by_cases h0:0<i
 ·have:=h2 (i - 1) i hi (by omega)
  rw[ZBQ hi,ZBQ (show i - 1<l.length by omega),decide_eq_false (show ¬l[i - 1].v.1≥l[i].v.1 by omega)]
  simp
 rw[decide_eq_false h0];rfl
theorem ZRR {l:List ZAD} {k:Int}:knB l k=true↔∃x∈l,x.v.1=k:=by
 rw[ZPV];constructor
 ·rintro⟨i,hi,h⟩;exact⟨_,ZA2 hi,h⟩
 rintro⟨x,hx,h⟩;obtain⟨i,hi,rfl⟩:=List.getElem_of_mem hx;exact⟨i,hi,by rw[ZBQ hi];exact h⟩
theorem ZDW {l:List ZAD} {nx:Int}:chkL l nx=true↔Ok l nx:=by
 unfold chkL hdB;simp only[Bool.and_eq_true];rw[ZSC,ZS0 (p:=cndX l),List.all_eq_true];simp only[decide_eq_true_eq];constructor
 ·rintro⟨⟨h1,h2,h3,h4⟩,⟨h5,h6⟩,h7,h8⟩;exact⟨by omega,h1.2,h2,h3,h4,h5,h6,fun k hk=>ZRR.1 (h7 k hk),h8⟩
 intro h;exact⟨⟨⟨by have:=h.len0;omega,h.len⟩,h.n0,h.k0,h.nx⟩,⟨h.al,h.so⟩,fun k hk=>ZRR.2 (h.kn k hk),h.cn⟩
theorem ZCZ {x:ZAD} (h:ZA5 x=true) (hk:x.v.2.1=2):risB x.v.2.2.2.2.2.2.1=true∧x.v.2.2.2.2.2.2.2.1.length=x.v.2.2.2.2.2.2.1.length∧x.v.2.2.2.2.2.2.1.length≤128∧x.v.2.2.2.1=1∧x.v.2.2.2.2.2.2.2.1.all numB=true:=by
 unfold ZA5 at h;simp only[Bool.and_eq_true] at h;obtain⟨_,_,_,h⟩:=h;rw[if_neg (by simp[hk])] at h
 simp only[Bool.and_eq_true,decide_eq_true_eq] at h;unfold ZHL at h;simp only[Bool.and_eq_true,decide_eq_true_eq] at h;exact⟨h.1.2.2.1,h.1.2.1,h.2.2,h.2.1,h.1.2.2.2⟩
theorem ZBt {x:ZAD} (h:ZA5 x=true):x.v.2.2.2.2.1.length≤32768∧x.v.2.2.2.2.2.2.1.length≤128∧x.v.2.2.2.2.2.2.2.1.length≤128∧x.v.2.2.2.2.2.2.2.2.1.length≤8∧0≤x.v.2.2.2.1∧x.v.2.2.2.1≤64∧1≤x.v.1∧x.v.1≤1024:=by
 have h0:=h;unfold ZA5 ZId at h;simp only[Bool.and_eq_true,decide_eq_true_eq] at h;obtain⟨⟨_,h1,_,_,h2⟩,h3,h4,h5⟩:=h;have h6:=(ZLZ h2).1;have h7:x.v.2.2.2.2.1.length≤32768:=by
  simp only[Bool.or_eq_true,decide_eq_true_eq] at h3;omega
 refine⟨h7,?_,?_,h6,h1.1,h1.2,h4.1,h4.2⟩
 ·by_cases hk:x.v.2.1=2
  ·exact(ZCZ h0 hk).2.2.1
  rw[if_pos (by simpa using hk)] at h5
  have:=of_decide_eq_true h5
  omega
 by_cases hk:x.v.2.1=2
 ·have:=ZCZ h0 hk;omega
 rw[if_pos (by simpa using hk)] at h5
 have:=of_decide_eq_true h5
 omega
theorem ZHa {x:ZAD} (h:ZA5 x=true):ZDP x:=by
 have:=ZBt h
 exact⟨by omega,by omega,by omega,by omega⟩
theorem Ok.small {l:List ZAD} {nx:Int} (h:Ok l nx):ZDQ l:=⟨by have:=h.len;omega,fun x hx=>ZHa (h.al x hx)⟩
def ZI6 (y:ZAD) (d:Int):ZAD:=Rec.mk (y.v.1,y.v.2.1,y.v.2.2.1,y.v.2.2.2.1+d,y.v.2.2.2.2.1,y.v.2.2.2.2.2.1,y.v.2.2.2.2.2.2.1,y.v.2.2.2.2.2.2.2.1,y.v.2.2.2.2.2.2.2.2.1,())
def ZPa (x:ZAD) (ns:List Str) (is:List Int):ZAD:=Rec.mk (x.v.1,x.v.2.1,x.v.2.2.1,x.v.2.2.2.1,x.v.2.2.2.2.1,x.v.2.2.2.2.2.1,ns,is,x.v.2.2.2.2.2.2.2.2.1,())
def putI (x:ZAD) (s:Str) (n:Int):ZAD:=ZPa x (x.v.2.2.2.2.2.2.1.take (ptN x.v.2.2.2.2.2.2.1 s)++s::x.v.2.2.2.2.2.2.1.drop (ptN x.v.2.2.2.2.2.2.1 s)) (x.v.2.2.2.2.2.2.2.1.take (ptN x.v.2.2.2.2.2.2.1 s)++n::x.v.2.2.2.2.2.2.2.1.drop (ptN x.v.2.2.2.2.2.2.1 s))
def cutI (x:ZAD) (p:Nat):ZAD:=ZPa x (x.v.2.2.2.2.2.2.1.take p++x.v.2.2.2.2.2.2.1.drop (p+1)) (x.v.2.2.2.2.2.2.2.1.take p++x.v.2.2.2.2.2.2.2.1.drop (p+1))
def setI (y x:ZAD):ZAD:=Rec.mk (y.v.1,y.v.2.1,x.v.2.2.1,y.v.2.2.2.1,x.v.2.2.2.2.1,y.v.2.2.2.2.2.1,y.v.2.2.2.2.2.2.1,y.v.2.2.2.2.2.2.2.1,x.v.2.2.2.2.2.2.2.2.1,())
/-! ### What they ZJF -/
def dirS (f:FsR) (n:Int):ZAD×Err 111:=
 if chkL f.v.1 f.v.2.1=true then match posI f.v.1 n with
  | none=>(noI,Err.mk (some 201))
  | some i=>if((inAt f.v.1 i).v.2.1 !=2)=true then(noI,Err.mk (some 203)) else(inAt f.v.1 i,Err.mk none)
 else(noI,Err.mk (some 2))
def ZFq (f:FsR) (n:Int) (s:Str):Int×Int:=match (dirS f n).2.c with
 | some e=>(0,e)
 | none=>if hasN (dirS f n).1.v.2.2.2.2.2.2.1 s=true then((dirS f n).1.v.2.2.2.2.2.2.2.1.getD (ptN (dirS f n).1.v.2.2.2.2.2.2.1 s) 0,0) else(0,201)
def numF (l:List ZAD) (k:Int):Int:=l.foldl (fun k y=>if y.v.1=k then k+1 else k) k
def newI (k kind mode:Int) (t:Str):ZAD:=Rec.mk (k,kind,mode,if kind=2 then 1 else 0,[],t,[],[],[],())
def ZHO (f:FsR) (kind mode:Int) (t:Str):FsR×Int×Int:=
 if chkL f.v.1 f.v.2.1=true then if f.v.1.length=512 then(f,0,211) else
  if ZA5 (newI (numF f.v.1 f.v.2.1) kind mode t)=true then(Rec.mk (ZAw f.v.1 (newI (numF f.v.1 f.v.2.1) kind mode t),f.v.2.1,()),numF f.v.1 f.v.2.1,0) else(f,0,2)
 else(f,0,2)
def entL (l:List ZAD) (x y:ZAD) (s:Str) (n:Int):List ZAD:=if(y.v.2.1 !=2)=true then ZAw (ZAw l (putI x s n)) (ZI6 y 1) else ZAw l (putI x s n)
def entS (f:FsR) (d:Int) (s:Str) (n:Int):FsR×Int:=match (dirS f d).2.c with
 | some e=>(f,e)
 | none=>if chkS s≠0 then(f,chkS s) else if hasN (dirS f d).1.v.2.2.2.2.2.2.1 s=true then(f,202) else match posI f.v.1 n with
  | none=>(f,201)
  | some i=>if(inAt f.v.1 i).v.2.1≠2∧(inAt f.v.1 i).v.2.2.2.1=64 then(f,210) else if(dirS f d).1.v.2.2.2.2.2.2.1.length=128 then(f,211) else
   if chkL (entL f.v.1 (dirS f d).1 (inAt f.v.1 i) s n) f.v.2.1=true then(Rec.mk (entL f.v.1 (dirS f d).1 (inAt f.v.1 i) s n,f.v.2.1,()),0) else(f,2)
def leaL (l:List ZAD) (x y:ZAD) (s:Str):List ZAD:=if(y.v.2.1 !=2)=true then ZAw (ZAw l (cutI x (ptN x.v.2.2.2.2.2.2.1 s))) (ZI6 y (-1)) else ZAw l (cutI x (ptN x.v.2.2.2.2.2.2.1 s))
def leaS (f:FsR) (d:Int) (s:Str):FsR×Int×Int:=if(ZFq f d s).2≠0 then(f,0,(ZFq f d s).2) else
 (Rec.mk (leaL f.v.1 (inAt f.v.1 ((posI f.v.1 d).getD 0)) (inAt f.v.1 ((posI f.v.1 (ZFq f d s).1).getD 0)) s,f.v.2.1,()),(ZFq f d s).1,0)
def droS (f:FsR) (n:Int):FsR×Int:=
 if chkL f.v.1 f.v.2.1=true then match posI f.v.1 n with
  | none=>(f,201)
  | some i=>if n=1∨0<(inAt f.v.1 i).v.2.2.2.2.2.2.1.length∨0<(upsL f.v.1 n).length then(f,215) else(Rec.mk (f.v.1.take i++f.v.1.drop (i+1),f.v.2.1,()),0)
 else(f,2)
def setS (f:FsR) (x:ZAD):FsR×Int:=
 if chkL f.v.1 f.v.2.1=true then match posI f.v.1 x.v.1 with
  | none=>(f,201)
  | some i=>if ZA5 (setI (inAt f.v.1 i) x)=true then(Rec.mk (ZAw f.v.1 (setI (inAt f.v.1 i) x),f.v.2.1,()),0) else(f,2)
 else(f,2)
theorem ZRS {f:FsR} (hs:ZDQ f.v.1) (n:Int):ZAr f n=some (dirS f n):=by
 refine(bds (ZHM (by have:=hs.1;omega) n)).trans ((bds (ZDF hs)).trans ?_)
 unfold dirS
 cases chkL f.v.1 f.v.2.1 with
 | false=>rfl
 | true=>
  rw[if_neg (by decide),if_pos rfl]
  unfold fndI
  cases hp:posI f.v.1 n with
  | none=>rfl
  | some i=>
   obtain⟨h1,h2⟩:=ZCA hp;show(if decide ((i:Int)<0)=true then _ else _)=_
   rw[if_neg (by simp)]
   refine(bds (ZFo h1)).trans ?_
   show _=some (if((inAt f.v.1 i).v.2.1 !=2)=true then _ else _)
   by_cases hk:((inAt f.v.1 i).v.2.1 !=2)=true
   ·rw[if_pos hk,if_pos hk];rfl
   rw[if_neg hk,if_neg hk];exact(bds (ZFo h1))
theorem ZGt {f:FsR} {n:Int} (h:(dirS f n).2.c=none):Ok f.v.1 f.v.2.1∧∃i,posI f.v.1 n=some i∧i<f.v.1.length∧(inAt f.v.1 i).v.1=n∧(inAt f.v.1 i).v.2.1=2∧(dirS f n).1=inAt f.v.1 i:=by
 unfold dirS at h ⊢
 cases hc:chkL f.v.1 f.v.2.1 with
 | false=>rw[hc] at h;simp at h
 | true=>
  rw[hc,if_pos rfl] at h;rw[if_pos rfl];refine⟨ZDW.1 hc,?_⟩
  cases hp:posI f.v.1 n with
  | none=>rw[hp] at h;simp at h
  | some i=>
   rw[hp] at h;obtain⟨h1,h2⟩:=ZCA hp;simp only at h ⊢
   by_cases hk:((inAt f.v.1 i).v.2.1 !=2)=true
   ·rw[if_pos hk] at h;simp at h
   rw[if_neg hk];exact⟨i,rfl,h1,h2,by simpa using hk,rfl⟩
theorem ZIj {f:FsR} (hs:ZDQ f.v.1) (n:Int) (s:Str):ZBE f n s=some (ZFq f n s):=by
 refine(bds (ZRS hs n)).trans ?_
 unfold ZFq
 cases he:(dirS f n).2.c with
 | some e=>
  refine(if_pos rfl).trans ?_
  show((ZBN (dirS f n).2).bind fun r_1=>some ((0:Int),r_1))=_
  unfold ZBN;rw[he];rfl
 | none=>
  refine(if_neg (by decide)).trans ?_
  obtain⟨hok,i,p1,p2,p3,p4,p5⟩:=ZGt he;rw[p5];have hal:=hok.al _ (ZA2 p2);obtain⟨d1,d2,d3,d4,d5⟩:=ZCZ hal p4;refine(bds (ZPX d1 (by omega) s)).trans ?_
  show(if(!(hasN (inAt f.v.1 i).v.2.2.2.2.2.2.1 s))=true then _ else _)=_
  cases hh:hasN (inAt f.v.1 i).v.2.2.2.2.2.2.1 s with
  | false=>rfl
  | true=>
   rw[if_neg (by decide)]
   have:ptN (inAt f.v.1 i).v.2.2.2.2.2.2.1 s<(inAt f.v.1 i).v.2.2.2.2.2.2.2.1.length:=by
    unfold hasN at hh;simp only[Bool.and_eq_true,decide_eq_true_eq] at hh;omega
   exact(bds (nthD 0 this))
theorem Ok.nums {l:List ZAD} {nx:Int} (h:Ok l nx):∀x∈l,x.v.2.2.2.2.2.2.2.1.length≤200:=fun x hx=>by have:=ZBt (h.al x hx);omega
theorem ZIk:∀(l:List ZAD) (k:Int),k≤numF l k∧numF l k≤k+l.length
 | [],k=>by simp[numF]
 | y::l,k=>by
  have h1:=ZIk l k;have h2:=ZIk l (k+1);unfold numF at h1 h2 ⊢;rw[List.foldl_cons];simp only[List.length_cons];split<;> omega
theorem ZPb {f:FsR} (hs:ZDQ f.v.1) (kind mode:Int) (t:Str):ZBz f kind mode t=some (ZHO f kind mode t):=by
 refine(bds (ZDF hs)).trans ?_
 unfold ZHO
 cases hc:chkL f.v.1 f.v.2.1 with
 | false=>rfl
 | true=>
  rw[if_neg (by decide),if_pos rfl]
  have hok:=ZDW.1 hc;by_cases h5:f.v.1.length=512
  ·rw[if_pos (by simp[h5]),if_pos h5]
  rw[if_neg (by simp;omega),if_neg h5]
  obtain⟨x1,g1,g2⟩:=ZCY (body:=ZEq f) f.v.1.length (fun i x=>x=(Rec.mk (numF (f.v.1.take i) f.v.2.1,kind,mode,(0:Int),([]:List UInt8),t,([]:List Str),([]:List Int),([]:List ZAd),()):ZAD)) (fun x=>x=(Rec.mk (numF f.v.1 f.v.2.1,kind,mode,(0:Int),([]:List UInt8),t,([]:List Str),([]:List Int),([]:List ZAd),()):ZAD)) (fun i x hi hx=>by
    subst hx;have hb:=ZIk (f.v.1.take i) f.v.2.1;have hn:=hok.nx;have hl:=hok.len;rw[List.length_take] at hb;refine⟨_,?_,rfl⟩
    refine(if_pos (decide_eq_true (show(i:Int)<(f.v.1.length:Int) by omega))).trans ?_
    refine(bds (ZBk hi)).trans ?_
    have ht:f.v.1.take (i+1)=f.v.1.take i++[f.v.1[i]]:=by rw[List.take_add_one,List.getElem?_eq_getElem hi];rfl
    have hf:numF (f.v.1.take (i+1)) f.v.2.1=if f.v.1[i].v.1=numF (f.v.1.take i) f.v.2.1 then numF (f.v.1.take i) f.v.2.1+1 else numF (f.v.1.take i) f.v.2.1:=by
     rw[ht];unfold numF;rw[List.foldl_append];rfl
    rw[hf];have hw:IntKind.i64.wrap (numF (f.v.1.take i) f.v.2.1+1)=numF (f.v.1.take i) f.v.2.1+1:=i64w (by omega)
    unfold ZCW;rw[lim (by omega)]
    by_cases e:f.v.1[i].v.1=numF (f.v.1.take i) f.v.2.1
    ·refine(if_pos (by simpa using e)).trans ?_
     rw[if_pos e];show some (Sum.inl ((Rec.mk (IntKind.i64.wrap (numF (f.v.1.take i) f.v.2.1+1),_):ZAD),_))=_
     rw[hw]
    ·refine(if_neg (by simpa using e)).trans ?_
     rw[if_neg e]) (fun x hx=>by
    rw[List.take_length] at hx;exact⟨x,if_neg (by simp),hx⟩) 0 (Rec.mk (f.v.2.1,kind,mode,(0:Int),([]:List UInt8),t,([]:List Str),([]:List Int),([]:List ZAd),()):ZAD) (by omega) (by simp[numF])
  refine(bds g1).trans ?_
  subst g2;have fin:∀x:ZAD,x=newI (numF f.v.1 f.v.2.1) kind mode t→ZCX f x=some (if ZA5 (newI (numF f.v.1 f.v.2.1) kind mode t)=true then(Rec.mk (ZAw f.v.1 (newI (numF f.v.1 f.v.2.1) kind mode t),f.v.2.1,()),numF f.v.1 f.v.2.1,0) else(f,0,2)):=fun x hx=>by
   subst hx;have hsm:ZDP (newI (numF f.v.1 f.v.2.1) kind mode t):=⟨Nat.zero_le _,Nat.zero_le _,Nat.zero_le _,Nat.zero_le _⟩
   refine(bds (ZKK hsm)).trans ?_
   cases ha:ZA5 (newI (numF f.v.1 f.v.2.1) kind mode t) with
   | false=>rfl
   | true=>
    rw[if_neg (by decide),if_pos rfl]
    exact(bds (ZGs hok.so (by have:=hok.len;omega) _)).trans rfl
  show(if(kind==2)=true then _ else _)=_
  by_cases hk:kind=2
  ·rw[if_pos (by simp[hk])]
   exact fin _ (by unfold newI;rw[if_pos hk])
  rw[if_neg (by simpa using hk)]
  exact fin _ (by unfold newI;rw[if_neg hk])
theorem ZLd (l:List Str) (h:l.length≤2000000):ZES l=some l:=by
 unfold ZES;refine(bds (ZD4 ([]:List Str) l (by simp only[List.length_nil];omega) (by simp only[List.length_nil];omega))).trans ?_
 rw[List.nil_append]
theorem ZLe (l:List Int) (h:l.length≤2000000):ZET l=some l:=by
 unfold ZET;refine(bds (ZD4 ([]:List Int) l (by simp only[List.length_nil];omega) (by simp only[List.length_nil];omega))).trans ?_
 rw[List.nil_append]
theorem ZPc (l:List UInt8) (h:l.length≤2000000):ZC8 l=some l:=by
 unfold ZC8;refine(bds (ZD4 ([]:List UInt8) l (by simp only[List.length_nil];omega) (by simp only[List.length_nil];omega))).trans ?_
 rw[List.nil_append]
theorem ZPd (l:List ZAd) (h:l.length≤2000000):ZC9 l=some l:=by
 unfold ZC9;refine(bds (ZD4 ([]:List ZAd) l (by simp only[List.length_nil];omega) (by simp only[List.length_nil];omega))).trans ?_
 rw[List.nil_append]
theorem ZS1 {x:ZAD} (h:ZA5 x=true) (hk:x.v.2.1=2) (s:Str) (n:Int):ZDq x s n=some (putI x s n):=by
 obtain⟨d1,d2,d3,d4,d5⟩:=ZCZ h hk;have hp:ptN x.v.2.2.2.2.2.2.1 s≤x.v.2.2.2.2.2.2.1.length:=ZKM _ _
 refine(bds (ZPX d1 (by omega) s)).trans ?_
 refine(bds (ZLd _ (by omega))).trans ?_
 refine(bds (ZPZ _ _ [s] hp (by simp only[List.length_singleton];omega) (by simp only[List.length_singleton];omega))).trans ?_
 refine(bds (ZLe _ (by omega))).trans ?_
 refine(bds (ZPZ _ _ [n] (by omega) (by simp only[List.length_singleton];omega) (by simp only[List.length_singleton];omega))).trans ?_
 unfold putI ZPa;rw[List.append_assoc,List.append_assoc];rfl
theorem ZNg {x:ZAD} (h:ZA5 x=true) (s:Str) (n:Int):ZDP (putI x s n):=by
 have:=ZBt h
 refine⟨?_,?_,?_,?_⟩
 ·show x.v.2.2.2.2.1.length≤_;omega
 ·show(x.v.2.2.2.2.2.2.1.take _++s::x.v.2.2.2.2.2.2.1.drop _).length≤_
  simp only[List.length_append,List.length_take,List.length_cons,List.length_drop];omega
 ·show(x.v.2.2.2.2.2.2.2.1.take _++n::x.v.2.2.2.2.2.2.2.1.drop _).length≤_
  simp only[List.length_append,List.length_take,List.length_cons,List.length_drop];omega
 show x.v.2.2.2.2.2.2.2.2.1.length≤_;omega
theorem ZMN {x:ZAD} (h:ZDP x) (d:Int):ZDP (ZI6 x d):=h
theorem ZFV (l:List ZAD) (x:ZAD):(ZAw l x).length≤l.length+1:=by rw[ZLc];split<;> omega
theorem ZNh {l:List ZAD} {nx:Int} (hok:Ok l nx) {x y:ZAD} (hx:x∈l) (hy:y∈l) (s:Str) (n:Int):ZDQ (entL l x y s n):=by
 have h1:∀z∈ZAw l (putI x s n),ZDP z:=ZIg hok.small.2 (ZNg (hok.al x hx) s n)
 have h2:=ZFV l (putI x s n);have h3:=hok.len;unfold entL;split
 ·exact⟨by have:=ZFV (ZAw l (putI x s n)) (ZI6 y 1);omega,ZIg h1 (ZMN (ZHa (hok.al y hy)) 1)⟩
 exact⟨by omega,h1⟩
theorem ZKO {f:FsR} (hs:ZDQ f.v.1) (d:Int) (s:Str) (n:Int):ZBO f d s n=some (entS f d s n):=by
 have key:∃e:Err 111,ZBr f d s n=some ((entS f d s n).1,e)∧e.c.getD 0=(entS f d s n).2:=by
  have e0:ZBr f d s n=_:=bds (ZRS hs d)
  unfold entS
  cases he:(dirS f d).2.c with
  | some e=>
   have e0:=e0.trans (if_pos (by rw[he];rfl))
   exact⟨_,e0,by rw[he];rfl⟩
  | none=>
   have e0:=e0.trans (if_neg (by rw[he];decide))
   have e0:=e0.trans (bds (ZMt s));obtain⟨hok,j,p1,p2,p3,p4,p5⟩:=ZGt he;by_cases hc:chkS s=0
   ·have e0:=e0.trans (if_neg (by simp[hc]))
    have e0:=e0.trans (bds (ZHM (by have:=hs.1;omega) n))
    have hal:ZA5 (dirS f d).1=true:=by rw[p5];exact hok.al _ (ZA2 p2)
    have hk:(dirS f d).1.v.2.1=2:=by rw[p5];exact p4
    have hmem:(dirS f d).1∈f.v.1:=by rw[p5];exact ZA2 p2
    generalize (dirS f d).1=x at*
    obtain⟨d1,d2,d3,d4,d5⟩:=ZCZ hal hk;have e0:=e0.trans (bds (ZKN d1 (by omega) s))
    simp only[ne_eq,hc,not_true_eq_false,if_false]
    cases hh:hasN x.v.2.2.2.2.2.2.1 s with
    | true=>
     rw[hh] at e0;exact⟨_,e0.trans (if_pos rfl),rfl⟩
    | false=>
     rw[hh] at e0;have e0:=e0.trans (if_neg (by decide))
     simp only[Bool.false_eq_true,if_false];unfold fndI at e0
     cases hp:posI f.v.1 n with
     | none=>
      rw[hp] at e0;exact⟨_,e0.trans (if_pos (by decide)),rfl⟩
     | some i=>
      rw[hp] at e0;obtain⟨q1,q2⟩:=ZCA hp;have e0:=e0.trans ((if_neg (by simp)).trans (bds (ZFo q1)))
      simp only
      have hyal:=hok.al _ (ZA2 q1);have hym:=ZA2 q1;generalize inAt f.v.1 i=y at*
      have e0:=e0.trans (bds (x:=decide (y.v.2.1≠2∧y.v.2.2.2.1=64)) (by
       by_cases hk2:y.v.2.1=2
       ·rw[if_neg (by simp[hk2]),decide_eq_false (by simp[hk2])]
       rw[if_pos (by simpa using hk2)];congr 1;rw[Bool.eq_iff_iff];simp[hk2]))
      by_cases h210:y.v.2.1≠2∧y.v.2.2.2.1=64
      ·rw[decide_eq_true h210] at e0;rw[if_pos h210];exact⟨_,e0.trans (if_pos rfl),rfl⟩
      rw[decide_eq_false h210] at e0;have e0:=e0.trans (if_neg (by decide))
      rw[if_neg h210];by_cases h128:x.v.2.2.2.2.2.2.1.length=128
      ·rw[if_pos h128];exact⟨_,e0.trans (if_pos (by simp[h128])),rfl⟩
      rw[if_neg h128];have e0:=e0.trans ((if_neg (by simp;omega)).trans (bds (ZS1 hal hk s n)))
      have e0:=e0.trans (bds (ZGs hok.so (by have:=hok.len;omega) _))
      have hsm:=ZNh hok hmem hym s n;have fin:∀out:FsR,out=Rec.mk (entL f.v.1 x y s n,f.v.2.1,())→∃e:Err 111,ZBj f out=some ((if chkL (entL f.v.1 x y s n) f.v.2.1=true then(Rec.mk (entL f.v.1 x y s n,f.v.2.1,()),(0:Int)) else(f,2)).1,e)∧e.c.getD 0=(if chkL (entL f.v.1 x y s n) f.v.2.1=true then((Rec.mk (entL f.v.1 x y s n,f.v.2.1,()):FsR),(0:Int)) else(f,2)).2:=fun out ho=>by
       subst ho;have g0:ZBj f (Rec.mk (entL f.v.1 x y s n,f.v.2.1,()))=_:=bds (ZDF hsm)
       cases hcc:chkL (entL f.v.1 x y s n) f.v.2.1 with
       | false=>
        have g0:=g0.trans (if_pos (by show(!chkL (entL f.v.1 x y s n) f.v.2.1)=true;rw[hcc];rfl))
        exact⟨_,g0,rfl⟩
       | true=>
        have g0:=g0.trans (if_neg (by show ¬(!chkL (entL f.v.1 x y s n) f.v.2.1)=true;rw[hcc];decide))
        exact⟨_,g0,rfl⟩
      by_cases hk2:y.v.2.1=2
      ·have e0:=e0.trans (if_neg (by simp[hk2]))
       obtain⟨e,f1,f2⟩:=fin (Rec.mk (ZAw f.v.1 (putI x s n),f.v.2.1,())) (by unfold entL;rw[if_neg (by simp[hk2])])
       exact⟨e,e0.trans f1,f2⟩
      have e0:=e0.trans (if_pos (by simpa using hk2))
      have hla:=ZBt hyal;have hw:IntKind.i64.wrap (y.v.2.2.2.1+1)=y.v.2.2.2.1+1:=i64w (by omega)
      have hl2:=ZFV f.v.1 (putI x s n);have e0:=e0.trans (bds (ZGs (f:=Rec.mk (ZAw f.v.1 (putI x s n),f.v.2.1,())) (ZCM hok.so _) (by have:=hok.len;show(ZAw f.v.1 (putI x s n)).length≤1000;omega) _))
      obtain⟨e,f1,f2⟩:=fin (Rec.mk (ZAw (ZAw f.v.1 (putI x s n)) (ZI6 y 1),f.v.2.1,())) (by unfold entL;rw[if_pos (by simpa using hk2)])
      refine⟨e,e0.trans (Eq.trans ?_ f1),f2⟩
      rw[hw];rfl
   have e0:=e0.trans (if_pos (by simpa using hc))
   rw[if_pos hc];exact⟨_,e0,rfl⟩
 obtain⟨e,h1,h2⟩:=key;refine(bds h1).trans ?_
 show((ZBN e).bind fun r_1=>some ((entS f d s n).1,r_1))=_
 unfold ZBN;rw[h2];rfl
theorem ZPe {α:Type} (l:List α) (i:Nat) (hi:i<l.length) (hl:l.length≤2000000):del l (i:Int) (IntKind.i64.wrap ((i:Int)+1))=some (l.take i++l.drop (i+1)):=by
 rw[lim (by omega)]
 unfold del;rw[if_pos ⟨by omega,by omega,by omega,by omega⟩];rfl
theorem ZPf {f:FsR} {d:Int} {s:Str} (h:(ZFq f d s).2=0):Ok f.v.1 f.v.2.1∧∃i,posI f.v.1 d=some i∧i<f.v.1.length∧(inAt f.v.1 i).v.1=d∧(inAt f.v.1 i).v.2.1=2∧hasN (inAt f.v.1 i).v.2.2.2.2.2.2.1 s=true∧(ZFq f d s).1=(inAt f.v.1 i).v.2.2.2.2.2.2.2.1.getD (ptN (inAt f.v.1 i).v.2.2.2.2.2.2.1 s) 0∧
  ptN (inAt f.v.1 i).v.2.2.2.2.2.2.1 s<(inAt f.v.1 i).v.2.2.2.2.2.2.1.length∧(inAt f.v.1 i).v.2.2.2.2.2.2.2.1.length=(inAt f.v.1 i).v.2.2.2.2.2.2.1.length∧∃k,posI f.v.1 (ZFq f d s).1=some k∧k<f.v.1.length∧(inAt f.v.1 k).v.1=(ZFq f d s).1:=by
 unfold ZFq at h ⊢
 cases he:(dirS f d).2.c with
 | some e=>
  rw[he] at h;exfalso
  have h:e=0:=h
  subst h;unfold dirS at he;split at he
  ·split at he
   ·simp at he
   split at he<;> simp at he
  simp at he
 | none=>
  obtain⟨hok,i,p1,p2,p3,p4,p5⟩:=ZGt he;rw[he] at h;simp only[p5] at h ⊢
  cases hh:hasN (inAt f.v.1 i).v.2.2.2.2.2.2.1 s with
  | false=>rw[hh] at h;simp at h
  | true=>
   obtain⟨d1,d2,d3,d4,d5⟩:=ZCZ (hok.al _ (ZA2 p2)) p4;have hlt:ptN (inAt f.v.1 i).v.2.2.2.2.2.2.1 s<(inAt f.v.1 i).v.2.2.2.2.2.2.1.length:=by
    unfold hasN at hh;simp only[Bool.and_eq_true,decide_eq_true_eq] at hh;exact hh.1
   refine⟨hok,i,p1,p2,p3,p4,hh,rfl,hlt,d2,?_⟩
   simp only[if_true];have hm:(inAt f.v.1 i).v.2.2.2.2.2.2.2.1.getD (ptN (inAt f.v.1 i).v.2.2.2.2.2.2.1 s) 0∈ZFp f.v.1:=by
    unfold ZFp;rw[List.mem_flatMap];refine⟨_,ZA2 p2,?_⟩
    rw[List.getD_eq_getElem?_getD,List.getElem?_eq_getElem (by omega),Option.getD_some]
    exact List.getElem_mem _
   obtain⟨x,x1,x2⟩:=hok.kn _ hm
   cases hp:posI f.v.1 ((inAt f.v.1 i).v.2.2.2.2.2.2.2.1.getD (ptN (inAt f.v.1 i).v.2.2.2.2.2.2.1 s) 0) with
   | none=>
    exfalso
    obtain⟨k,hk,rfl⟩:=List.getElem_of_mem x1;exact ZPU hp k hk (by rw[ZBQ hk];exact x2)
   | some k=>exact⟨k,rfl,(ZCA hp).1,(ZCA hp).2⟩
theorem ZM2 {f:FsR} (hs:ZDQ f.v.1) (d:Int) (s:Str):ZBV f d s=some (leaS f d s):=by
 have e0:ZBV f d s=_:=bds (ZIj hs d s)
 unfold leaS;by_cases hc:(ZFq f d s).2=0
 ·have e0:=e0.trans (if_neg (by simp[hc]))
  rw[if_neg (by simp[hc])]
  obtain⟨hok,i,p1,p2,p3,p4,p5,p6,p7,p8,k,q1,q2,q3⟩:=ZPf hc;have e0:=e0.trans (bds (ZHM (by have:=hs.1;omega) d))
  have f1:fndI f.v.1 d=(i:Int):=by unfold fndI;rw[p1]
  have f2:fndI f.v.1 (ZFq f d s).1=(k:Int):=by unfold fndI;rw[q1]
  rw[f1] at e0;have e0:=e0.trans ((bds (ZFo p2)).trans (bds (ZHM (by have:=hs.1;omega) _)))
  rw[f2] at e0;have e0:=e0.trans (bds (ZFo q2));rw[p1,q1,Option.getD_some,Option.getD_some];have hal:=hok.al _ (ZA2 p2);have hyal:=hok.al _ (ZA2 q2);generalize inAt f.v.1 i=x at*
  generalize inAt f.v.1 k=y at*
  obtain⟨d1,d2,d3,d4,d5⟩:=ZCZ hal p4;have e0:=e0.trans ((bds (ZPX d1 (by omega) s)).trans (bds (ZLd _ (by omega))))
  have e0:=e0.trans ((bds (ZPe _ _ p7 (by omega))).trans ((bds (ZLe _ (by omega))).trans (bds (ZPe _ _ (by omega) (by omega)))))
  have hl:=hok.len;by_cases hk2:y.v.2.1=2
  ·have e0:=e0.trans ((if_neg (by simp[hk2])).trans (bds (ZGs hok.so (by omega) _)))
   refine e0.trans ?_
   unfold leaL;rw[if_neg (by simp[hk2])];rfl
  have e0:=e0.trans ((if_pos (by simpa using hk2)).trans (bds (ZQa hok.so (by omega) _ _)))
  refine e0.trans ?_
  have hla:=ZBt hyal;have hw:IntKind.i64.wrap (y.v.2.2.2.1 - 1)=y.v.2.2.2.1+ -1:=by rw[i64w (by omega)];rfl
  rw[hw];unfold leaL;rw[if_pos (by simpa using hk2)];rfl
 exact(e0.trans (if_pos (by simpa using hc))).trans (by rw[if_pos hc])
theorem ZMO {f:FsR} (hs:ZDQ f.v.1) (n:Int):ZBT f n=some (droS f n):=by
 have e0:ZBT f n=_:=(bds (ZHM (by have:=hs.1;omega) n)).trans (bds (ZDF hs))
 unfold droS
 cases hc:chkL f.v.1 f.v.2.1 with
 | false=>rw[hc] at e0;exact e0
 | true=>
  rw[hc] at e0;have e0:=e0.trans (if_neg (by decide))
  have hok:=ZDW.1 hc;rw[if_pos rfl];unfold fndI at e0
  cases hp:posI f.v.1 n with
  | none=>rw[hp] at e0;exact e0.trans (if_pos (by decide))
  | some i=>
   rw[hp] at e0;obtain⟨q1,q2⟩:=ZCA hp;have e0:=e0.trans (if_neg (by simp))
   simp only
   obtain⟨m,m1,m2,m3⟩:=ZMz hok.len hok.nums;have e0:=e0.trans (bds (x:=decide (n=1) || decide (0<(inAt f.v.1 i).v.2.2.2.2.2.2.1.length)) (by
    by_cases h1:n=1
    ·rw[if_pos (by simp[h1]),decide_eq_true h1];rfl
    rw[if_neg (by simpa using h1),decide_eq_false h1,Bool.false_or]
    refine(bds (ZFo q1)).trans ?_
    congr 1;rw[decide_eq_decide];omega))
   have e0:=e0.trans (bds (x:=decide (n=1∨0<(inAt f.v.1 i).v.2.2.2.2.2.2.1.length∨0<(upsL f.v.1 n).length)) (by
    by_cases h1:n=1∨0<(inAt f.v.1 i).v.2.2.2.2.2.2.1.length
    ·have:(decide (n=1) || decide (0<(inAt f.v.1 i).v.2.2.2.2.2.2.1.length))=true:=by simpa using h1
     rw[this,if_pos rfl,decide_eq_true (by rcases h1 with h1 | h1;exact .inl h1;exact .inr (.inl h1))]
    have:(decide (n=1) || decide (0<(inAt f.v.1 i).v.2.2.2.2.2.2.1.length))=false:=by
     rw[Bool.or_eq_false_iff];exact⟨decide_eq_false fun e=>h1 (.inl e),decide_eq_false fun e=>h1 (.inr e)⟩
    rw[this,if_neg (by decide)]
    refine(bds m1).trans ?_
    rw[m2];congr 1;rw[decide_eq_decide];constructor
    ·intro h;exact .inr (.inr (by omega))
    rintro(h | h | h)
    ·exact absurd (.inl h) h1
    ·exact absurd (.inr h) h1
    omega))
   by_cases hb:n=1∨0<(inAt f.v.1 i).v.2.2.2.2.2.2.1.length∨0<(upsL f.v.1 n).length
   ·rw[decide_eq_true hb] at e0;rw[if_pos hb];exact e0.trans (if_pos rfl)
   rw[decide_eq_false hb] at e0;rw[if_neg hb];have hl:=hok.len;have e0:=e0.trans ((if_neg (by decide)).trans (bds (ZIi _ (by omega))))
   exact e0.trans (bds (ZPe _ _ q1 (by omega)))
theorem ZS2 {f:FsR} (hs:ZDQ f.v.1) {x:ZAD} (hx:ZDP x):ZDC f x=some (setS f x):=by
 have e0:ZDC f x=_:=(bds (ZHM (by have:=hs.1;omega) x.v.1)).trans (bds (ZDF hs))
 unfold setS
 cases hc:chkL f.v.1 f.v.2.1 with
 | false=>rw[hc] at e0;exact e0
 | true=>
  rw[hc] at e0;have e0:=e0.trans (if_neg (by decide))
  have hok:=ZDW.1 hc;rw[if_pos rfl];unfold fndI at e0
  cases hp:posI f.v.1 x.v.1 with
  | none=>rw[hp] at e0;exact e0.trans (if_pos (by decide))
  | some i=>
   rw[hp] at e0;obtain⟨q1,q2⟩:=ZCA hp;have e0:=e0.trans ((if_neg (by simp)).trans (bds (ZFo q1)))
   simp only
   have hal:=ZBt (hok.al _ (ZA2 q1));have e0:=e0.trans ((bds (ZPc _ hx.1)).trans (bds (ZPd _ hx.2.2.2)));have hsm:ZDP (setI (inAt f.v.1 i) x):=⟨hx.1,by show(inAt f.v.1 i).v.2.2.2.2.2.2.1.length≤_;omega,by show(inAt f.v.1 i).v.2.2.2.2.2.2.2.1.length≤_;omega,hx.2.2.2⟩
   have e0:=e0.trans (bds (ZKK hsm))
   cases ha:ZA5 (setI (inAt f.v.1 i) x) with
   | false=>exact e0.trans (if_pos (by show(!ZA5 (setI (inAt f.v.1 i) x))=true;rw[ha];rfl))
   | true=>
    have e0:=e0.trans (if_neg (by show ¬(!ZA5 (setI (inAt f.v.1 i) x))=true;rw[ha];decide))
    have hl:=hok.len;exact e0.trans ((bds (ZGs hok.so (by omega) _)).trans rfl)
end Go.Ai.Rab
end
section
set_option maxRecDepth 10000
open Go.Ai.Enc (enc is)
namespace Go.Ai.Rab
/-! ### Small -/
theorem ZNi {f:FsR} (hs:ZDQ f.v.1):∃b,ZC5 f=some b∧(b=true→f.v.1.length≤60):=by
 unfold ZC5;by_cases h:f.v.1.length≤60
 ·rw[if_neg (by simp;omega)]
  obtain⟨r,h1,h2⟩:=ZMu (body:=ZD0 f) (fun a=>0≤a.1∧a.1≤2060000∧0≤a.2∧a.2≤f.v.1.length) (fun _=>True) (fun a=>(f.v.1.length - a.2).toNat) (fun a hI=>by
   obtain⟨n,i⟩:=a;obtain⟨g1,g2,g3,g4⟩:=hI;simp only at g1 g2 g3 g4
   have e0:ZD0 f (n,i)=_:=bds (x:=decide (i<(f.v.1.length:Int)) && decide (n≤50000)) (by
    cases decide (i<(f.v.1.length:Int))<;> rfl)
   cases hb:decide (i<(f.v.1.length:Int)) && decide (n≤50000) with
   | false=>
    rw[hb] at e0;exact .inr ⟨n,e0.trans (if_neg (by decide)),trivial⟩
   | true=>
    rw[hb] at e0;simp only[Bool.and_eq_true,decide_eq_true_eq] at hb;have e0:=e0.trans (if_pos rfl);obtain⟨k,rfl⟩:∃k:Nat,i=k:=⟨i.toNat,by omega⟩
    have hk:k<f.v.1.length:=by omega
    have e0:=e0.trans (bds (ZFo hk));have hd:=(hs.2 _ (ZA2 hk)).1;rw[lim (by omega),i64w (by omega)] at e0
    refine .inl ⟨_,e0,⟨?_,?_,?_,?_⟩,?_⟩
    ·simp only;omega
    ·simp only;omega
    ·simp only;omega
    ·simp only;omega
    simp only;omega) _ (0,0) (Nat.le_refl _) ⟨by simp,by simp,by simp,by simp⟩
  exact⟨_,(bds h1).trans rfl,fun _=>h⟩
 rw[if_pos (decide_eq_true (by omega))]
 exact⟨false,rfl,fun e=>by cases e⟩
/-! ### Same -/
theorem ZKP (a:List UInt8):(!eqS a a)=false:=by rw[(ZGN a a).2 rfl];rfl
theorem ZIl (a:Str):(!eqS a a)=false:=ZKP a
theorem ZNj {a:List ZAd} (h:a.length≤2000000):ZC6 a a=some true:=by
 unfold ZC6;rw[if_neg (by simp)]
 have h1:=ZFl (body:=ZFC a a) a.length (fun _=>true) false (fun i hi=>by
  refine(if_pos (decide_eq_true (show(i:Int)<(a.length:Int) by omega))).trans ?_
  refine(bds (ZBk hi)).trans ((bds (ZBk hi)).trans ?_)
  rw[ZIl];refine(bds (x:=false) ?_).trans ?_
  ·rw[if_neg (by decide)]
   refine(bds (ZBk hi)).trans ((bds (ZBk hi)).trans ?_)
   congr 1;exact ZKP _
  rw[lim (by omega)];rfl) (if_neg (by simp)) 0 (Nat.zero_le _)
 have:(List.range' 0 (a.length - 0)).all (fun _=>true)=true:=by simp
 rw[this] at h1;exact(bds h1).trans rfl
theorem ZNk {x:ZAD} (h:ZDP x):ZC7 x x=some true:=by
 obtain⟨h1,h2,h3,h4⟩:=h;obtain⟨⟨num,k,m,n,d,t,ns,is,at_,u⟩⟩:=x;simp only at h1 h2 h3 h4
 have b1:∀c:Int,(c !=c)=false:=fun c=>by simp
 unfold ZC7;simp only[b1,if_neg Bool.false_ne_true,bd,ZKP,ZIl,ZNj h4,Bool.false_eq_true,if_false,Option.bind_some,Bool.not_true];have g1:=ZFl (body:=ZFE (Rec.mk (num,k,m,n,d,t,ns,is,at_,u)) (Rec.mk (num,k,m,n,d,t,ns,is,at_,u))) ns.length (fun _=>true) false (fun i hi=>by
  refine(if_pos (decide_eq_true (show(i:Int)<(ns.length:Int) by omega))).trans ?_
  refine(bds (nthN hi)).trans ((bds (nthN hi)).trans ?_)
  rw[ZIl,lim (by omega)];rfl) (if_neg (by simp)) 0 (Nat.zero_le _)
 have g2:=ZFl (body:=ZFF (Rec.mk (num,k,m,n,d,t,ns,is,at_,u)) (Rec.mk (num,k,m,n,d,t,ns,is,at_,u))) is.length (fun _=>true) false (fun i hi=>by
  refine(if_pos (decide_eq_true (show(i:Int)<(is.length:Int) by omega))).trans ?_
  refine(bds (nthD 0 hi)).trans ((bds (nthD 0 hi)).trans ?_)
  rw[b1,lim (by omega)];rfl) (if_neg (by simp)) 0 (Nat.zero_le _)
 have e1:(List.range' 0 (ns.length - 0)).all (fun _=>true)=true:=by simp
 have e2:(List.range' 0 (is.length - 0)).all (fun _=>true)=true:=by simp
 rw[e1] at g1;rw[e2] at g2;refine(bds g1).trans ?_
 exact(bds g2).trans rfl
theorem ZPg {f:FsR} (hs:ZDQ f.v.1):ZD1 f f=some true:=by
 have b1:∀c:Int,(c !=c)=false:=fun c=>by simp
 unfold ZD1;simp only[b1,Bool.false_eq_true,if_false,Option.bind_some];have g1:=ZFl (body:=ZGF f f) f.v.1.length (fun _=>true) false (fun i hi=>by
  refine(if_pos (decide_eq_true (show(i:Int)<(f.v.1.length:Int) by omega))).trans ?_
  refine(bds (ZFo hi)).trans ((bds (ZFo hi)).trans ((bds (ZNk (hs.2 _ (ZA2 hi)))).trans ?_))
  have:=hs.1
  rw[lim (by omega)];rfl) (if_neg (by simp)) 0 (Nat.zero_le _)
 have e1:(List.range' 0 (f.v.1.length - 0)).all (fun _=>true)=true:=by simp
 rw[e1] at g1;exact(bds g1).trans rfl
/-! ### What must come at any rate -/
theorem ZDG {f:FsR} (h:chkL f.v.1 f.v.2.1=true):ZDQ f.v.1:=(ZDW.1 h).small
def F0:FsR:=Rec.mk ([Rec.mk (1,2,0,1,[],str [],[],[],[],())],2,())
def F1:FsR:=Rec.mk ([Rec.mk (1,2,0,1,[],str [],[],[],[],()),Rec.mk (2,1,420,0,[],str [],[],[],[],())],2,())
def F2:FsR:=Rec.mk ([Rec.mk (1,2,0,1,[],str [],[str [97]],[2],[],()),Rec.mk (2,1,420,1,[],str [],[],[],[],())],2,())
def F3:FsR:=Rec.mk ([Rec.mk (1,2,0,1,[],str [],[str [97],str [98]],[2,2],[],()),Rec.mk (2,1,420,2,[],str [],[],[],[],())],2,())
def F4:FsR:=Rec.mk ([Rec.mk (1,2,0,1,[],str [],[str [98]],[2],[],()),Rec.mk (2,1,420,1,[],str [],[],[],[],())],2,())
theorem c0:chkL F0.v.1 F0.v.2.1=true:=by kernel_rfl
theorem c1:chkL F1.v.1 F1.v.2.1=true:=by kernel_rfl
theorem c2:chkL F2.v.1 F2.v.2.1=true:=by kernel_rfl
theorem c3:chkL F3.v.1 F3.v.2.1=true:=by kernel_rfl
theorem c4:chkL F4.v.1 F4.v.2.1=true:=by kernel_rfl
theorem m1:ZHO F0 1 420 (str [])=(F1,2,0):=by kernel_rfl
theorem m2:entS F1 1 (str [97]) 2=(F2,0):=by kernel_rfl
theorem m3:entS F2 1 (str [98]) 2=(F3,0):=by kernel_rfl
theorem m4:leaS F3 1 (str [97])=(F4,2,0):=by kernel_rfl
theorem m5:ZFq F4 1 (str [98])=(2,0):=by kernel_rfl
theorem m6:ZFq F4 1 (str [97])=(0,201):=by kernel_rfl
theorem m7:(droS F4 2).2=215:=by kernel_rfl
theorem m8:(droS (Rec.mk (([]:List ZAD),(0:Int),())) 1).2=2:=by kernel_rfl
theorem ZM3:ZBs=some true:=by
 have e0:ZBs=_:=bds (x:=F0) rfl
 have e0:=e0.trans (bds ((ZPb (ZDG c0) _ _ _).trans (congrArg some m1)));have e0:=e0.trans (bds ((ZKO (ZDG c1) _ _ _).trans (congrArg some m2)));have e0:=e0.trans (bds ((ZKO (ZDG c2) _ _ _).trans (congrArg some m3)));have e0:=e0.trans (bds ((ZM2 (ZDG c3) _ _).trans (congrArg some m4)));have e0:=e0.trans (bds ((ZIj (ZDG c4) _ _).trans (congrArg some m5)));have e0:=e0.trans (bds ((ZIj (ZDG c4) _ _).trans (congrArg some m6)));have e0:=e0.trans (bds (ZMO (ZDG c4) _));have e0:=e0.trans (bds (ZMO (f:=Rec.mk (([]:List ZAD),(0:Int),())) ⟨Nat.zero_le _,fun x hx=>by cases hx⟩ _))
 rw[show ZAW F4=some true from(ZDF (ZDG c4)).trans (congrArg some c4)] at e0
 show ZBs=_
 refine e0.trans ?_
 show((if((0:Int)==0)=true then some ((2:Int)==2) else some false).bind _)=_
 simp only[m7,m8];rfl
/-! ### Who is above whom -/
theorem ZQb {x:ZAD} {l:List Int} {k d:Int}:d∈upsX x l k↔d=x.v.1∧k∈l:=by
 unfold upsX;simp only[List.mem_map,List.mem_filter,beq_iff_eq];constructor
 ·rintro⟨a,⟨h1,rfl⟩,rfl⟩;exact⟨rfl,h1⟩
 rintro⟨rfl,h⟩;exact⟨k,⟨h,rfl⟩,rfl⟩
theorem ZHo {l:List ZAD} {k d:Int}:d∈upsL l k↔∃x∈l,d=x.v.1∧k∈x.v.2.2.2.2.2.2.2.1:=by
 unfold upsL;simp only[List.mem_flatMap,ZQb]
theorem Ok.num {l:List ZAD} {nx:Int} (h:Ok l nx) {x:ZAD} (hx:x∈l):1≤x.v.1∧x.v.1≤1024:=by
 have:=ZBt (h.al x hx);omega
theorem Ok.dir {l:List ZAD} {nx:Int} (h:Ok l nx) {x:ZAD} (hx:x∈l) (hk:x.v.2.1=2):(upsL l x.v.1).length≤1∧¬(0<(upsL l x.v.1).length∧x.v.1=1)∧ZCd l (l.length+1) x.v.1=true:=by
 have:=h.cn x hx
 unfold cndX at this;rw[if_neg (by simp[hk])] at this
 simp only[Bool.and_eq_true,Bool.not_eq_true',Bool.and_eq_false_iff,decide_eq_true_eq,decide_eq_false_iff_not] at this;exact⟨this.1,fun h=>by rcases this.2.1 with h1 | h1;exact h1 h.1;exact h1 h.2,this.2.2⟩
theorem Ok.file {l:List ZAD} {nx:Int} (h:Ok l nx) {x:ZAD} (hx:x∈l) (hk:x.v.2.1≠2):((upsL l x.v.1).length:Int)=x.v.2.2.2.1:=by
 have:=h.cn x hx
 unfold cndX at this;rw[if_pos (by simpa using hk)] at this
 exact of_decide_eq_true this
end Go.Ai.Rab
end
