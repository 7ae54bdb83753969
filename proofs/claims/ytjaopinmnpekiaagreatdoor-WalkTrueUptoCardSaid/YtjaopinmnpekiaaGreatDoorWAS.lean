/- My own texts DevWpT, one behind the other. -/
import Derived.Test.YtjaopinmnpekiaaGreatDoorWAQ
import Derived.Test.YtjaopinmnpekiaaGreatDoorWAR
set_option linter.unusedVariables false
set_option linter.unusedSimpArgs false
set_option maxRecDepth 10000
open Go.Ai.Enc (enc is)
namespace Go.Ai.Rab
def okN (s:Str):Prop:=chkS s=0∨eqS s (str [46,46])=true
theorem ZNR:∀(ps out:List Str) (d:Bool),(∀s∈out,okN s)→∀s∈(splL ps out d).1,okN s
 | [],out,d,h=>h
 | p::ps,out,d,h=>by
  rw[ZG9];split
  ·exact ZNR ps out true h
  split
  ·intro s hs;cases hs
  rename_i h1 h2;refine ZNR ps (out++[p]) false fun s hs=> ?_
  rcases List.mem_append.1 hs with hs | hs
  ·exact h s hs
  obtain rfl:=List.mem_singleton.1 hs;unfold okN
  cases he:eqS s (str [46,46]) with
  | true=>exact .inr rfl
  | false=>
   rw[he] at h2;left
   simpa using h2
theorem ZTQ (s:List UInt8):∀x∈(spl s).1,okN x:=by
 unfold spl;split
 ·intro x hx;cases hx
 split
 ·intro x hx;cases hx
 split
 ·intro x hx;cases hx
 exact ZNR _ _ _ (fun x hx=>by cases hx)
def codB (c:Int):Prop:=c=0∨c=2∨c=206∨c=208∨c=201∨c=203∨c=209
theorem ZUN (s:List UInt8):codB (chkS s):=by
 unfold chkS codB;split
 ·simp
 split
 ·simp
 split
 ·simp
 split<;> simp
theorem ZKw:∀(ps out:List Str) (d:Bool),codB (splL ps out d).2.2
 | [],out,d=> .inl rfl
 | p::ps,out,d=>by
  rw[ZG9];split
  ·exact ZKw ps out true
  split
  ·exact ZUN p
  exact ZKw ps _ false
theorem ZQ5 (s:List UInt8):codB (spl s).2.2:=by
 unfold spl;split
 ·simp[codB]
 split
 ·simp[codB]
 split
 ·simp[codB]
 exact ZKw _ _ _
theorem ZSC (x:WS) (t:List UInt8):codB (ZGd x t).2:=by
 unfold ZGd;split
 ·simp[codB]
 exact ZQ5 _
theorem ZSD (f:FsR) (fol:Bool) (x:WS) (s:Str):codB (ZCm f fol x s).2:=by
 unfold ZCm;split
 ·simp[codB]
 split
 ·simp[codB]
 split
 ·split<;> simp[codB]
 split
 ·exact ZSC _ _
 simp[codB]
theorem ZQ6 (f:FsR) (fol:Bool):∀(n:Nat) (x:WS),codB (runS f fol n x).2
 | 0,x=> .inl rfl
 | n+1,⟨[],d,s,p,b,h,k⟩=> .inl rfl
 | n+1,⟨q::l,d,s,p,b,h,k⟩=>by
  show codB (if(ZCm f fol ⟨l,d,s,p,b,h,k⟩ q).2=0 then runS f fol n (ZCm f fol ⟨l,d,s,p,b,h,k⟩ q).1 else ZCm f fol ⟨l,d,s,p,b,h,k⟩ q).2
  split
  ·exact ZQ6 f fol n _
  exact ZSD f fol _ q
structure PInv (f:FsR) (fol:Bool) (x:WS):Prop where
 dd:ZO0 f x.d
 p0:eqS x.s (str [])=true→x.n=x.d
 p1:eqS x.s (str [])=false→x.n=0→(ZBq f x.d x.s).2=201∧chkS x.s=0
 p2:eqS x.s (str [])=false→x.n≠0→ZBq f x.d x.s=(x.n,0)∧(fol=true→(ZBI f x.n).v.2.1≠3)
 nm:∀s∈x.l,okN s
theorem ZKx {f:FsR} (hok:Ok f.v.1 f.v.2.1):ZO0 f 1:=by
 obtain⟨z,h1,h2,h3⟩:=hok.root;have h:=ZHd hok;have e:ZBI f 1=z:=ZFA hok.so (ZFB h).1 h1 (by rw[(ZFB h).2,h2])
 exact⟨h,by rw[e];exact h3⟩
theorem ZUO {f:FsR} (hok:Ok f.v.1 f.v.2.1) (n:Int):ZO0 f (imax (parS f n) 1):=by
 by_cases h:parS f n=0
 ·rw[h];exact ZKx hok
 obtain⟨h1,h2,_⟩:=ZNP hok h;rw[ZOA (ZKq hok h1)];exact⟨h1,h2⟩
theorem ZOG {f:FsR} {fol:Bool} {x:WS} {n:Int} (h:ZO0 f n) (hn:∀s∈x.l,okN s):PInv f fol (x.goes n):=
 ⟨h,fun _=>rfl,(fun h=>by cases h),(fun h=>by cases h),hn⟩
theorem ZSE {f:FsR} (hok:Ok f.v.1 f.v.2.1) {d:Int} (h:ZO0 f d) (s:Str) (hc:(ZBq f d s).2≠0):(ZBq f d s).2=201:=by
 have e:=ZR5 hok (ZFB h.1).1 h.2 s;rw[(ZFB h.1).2] at e;rw[e] at hc ⊢;split at hc
 ·exact absurd rfl hc
 rename_i h2;rw[if_neg h2]
theorem ZO3 {f:FsR} (hok:Ok f.v.1 f.v.2.1) (fol:Bool) {x:WS} (hi:WInv f x) (hl:∀s∈x.l,okN s) {s:Str} (hs:okN s) (hc:(ZCm f fol x s).2=0):PInv f fol (ZCm f fol x s).1:=by
 unfold ZCm at hc ⊢;by_cases h1:(ZBI f x.h).v.2.1≠2
 ·rw[if_pos h1] at hc;cases hc
 rw[if_neg h1] at hc ⊢;have hd:ZO0 f x.h:=⟨hi.hh,by simpa using h1⟩
 by_cases h2:eqS s (str [46,46])=true
 ·rw[if_pos h2];exact ZOG (ZUO hok _) hl
 rw[if_neg h2] at hc ⊢;have hchk:chkS s=0:=hs.resolve_right h2
 have hne:eqS s (str [])=false:=by
  rw[ZFm (show List UInt8 from s)]
  exact decide_eq_false (ZVi hchk).1
 by_cases h3:(ZBq f x.h s).2≠0
 ·rw[if_pos h3] at hc ⊢;by_cases h4:x.l.length≠0
  ·rw[if_pos h4] at hc;cases hc
  rw[if_neg h4];exact⟨hd,(fun h=>by rw[show(x.rests s 0).s=s from rfl,hne] at h;cases h),fun _ _=>⟨ZSE hok hd s h3,hchk⟩,fun _ h=>absurd rfl h,hl⟩
 rw[if_neg h3] at hc ⊢;have h3' :(ZBq f x.h s).2=0:=by simpa using h3
 by_cases h5:lnkB f fol x (ZBq f x.h s).1=true
 ·rw[if_pos h5] at hc ⊢;generalize (ZBI f (ZBq f x.h s).1).v.2.2.2.2.2.1=t at*
  unfold ZGd at hc ⊢;by_cases h8:x.k=8
  ·rw[if_pos h8] at hc;cases hc
  rw[if_neg h8];refine ZOG ?_ fun y hy=> ?_
  ·unfold tgt;split
   ·exact ZKx hok
   exact hd
  rcases List.mem_append.1 hy with hy | hy
  ·exact ZTQ _ y hy
  exact hl y hy
 rw[if_neg h5];have hp:=ZKq hok (ZH4 h3');refine⟨hd,(fun h=>by rw[show(x.rests s (ZBq f x.h s).1).s=s from rfl,hne] at h;cases h),fun _ h=> ?_,fun _ _=>⟨?_,fun hf=> ?_⟩,hl⟩
 ·have h:(ZBq f x.h s).1=0:=h
  omega
 ·show ZBq f x.h s=((ZBq f x.h s).1,0)
  rw[←h3']
 intro hk;apply h5
 have hk:(ZBI f (ZBq f x.h s).1).v.2.1=3:=hk
 unfold lnkB;rw[hk,hf,decide_eq_true (show(ZBq f x.h s).1 > 0 by omega)]
 simp
theorem ZMO {f:FsR} (hok:Ok f.v.1 f.v.2.1) (fol:Bool):∀(n:Nat) (x:WS),WInv f x→PInv f fol x→(runS f fol n x).2=0→PInv f fol (runS f fol n x).1
 | 0,x,hi,hp,hc=>hp
 | n+1,⟨[],d,s,p,b,h,k⟩,hi,hp,hc=>hp
 | n+1,⟨q::l,d,s,p,b,h,k⟩,hi,hp,hc=>by
  have hi' :WInv f ⟨l,d,s,p,b,h,k⟩:=⟨hi.hh,hi.hn,hi.hk,by have:=hi.hl;simp only[List.length_cons] at this ⊢;omega⟩
  have er:runS f fol (n+1) ⟨q::l,d,s,p,b,h,k⟩=if(ZCm f fol ⟨l,d,s,p,b,h,k⟩ q).2=0 then runS f fol n (ZCm f fol ⟨l,d,s,p,b,h,k⟩ q).1 else ZCm f fol ⟨l,d,s,p,b,h,k⟩ q:=rfl
  rw[er] at hc ⊢;by_cases h0:(ZCm f fol ⟨l,d,s,p,b,h,k⟩ q).2=0
  ·rw[if_pos h0] at hc ⊢;exact ZMO hok fol n _ (ZOD hok fol hi' q h0).1 (ZO3 hok fol hi' (fun y hy=>hp.nm y (List.mem_cons_of_mem _ hy)) (hp.nm q List.mem_cons_self) h0) hc
  rw[if_neg h0] at hc;exact absurd hc h0
theorem ZO4 (f:FsR) (path:List UInt8) (fol:Bool):(∃c,c≠0∧ZHc f path fol=(plZ,c))∨(Ok f.v.1 f.v.2.1∧∃x,PInv f fol x∧ZHc f path fol=(x.pl,0)):=by
 have bad:∀c,c≠0→codB c→wlkS f (spl path) fol=(plZ,c)→∃c,c≠0∧ZHc f path fol=(plZ,c):=fun c h0 hc h=>by
  refine⟨c,h0,?_⟩
  unfold ZHc;rw[h];have:codS c=c:=by
   unfold codS;unfold codB at hc;rcases hc with rfl | rfl | rfl | rfl | rfl | rfl | rfl
   ·exact absurd rfl h0
   all_goals simp
  rw[this]
 cases hc:chkL f.v.1 f.v.2.1 with
 | false=>
  left
  refine bad 2 (by decide) (by simp[codB]) ?_
  unfold wlkS;rw[hc];rfl
 | true=>
  have hok:=ZE9.1 hc;by_cases h1:(spl path).2.2=0
  ·have hi:=ZMK hok (ZKp path);have hp:PInv f fol (ZEp (spl path)):=⟨ZKx hok,fun _=>rfl,(fun h=>by cases h),(fun h=>by cases h),ZTQ path⟩
   by_cases h2:(runS f fol 10000 (ZEp (spl path))).2=0
   ·have h3:=ZMO hok fol 10000 _ hi hp h2;have e:wlkS f (spl path) fol=endS f (runS f fol 10000 (ZEp (spl path))).1:=by
     unfold wlkS;rw[if_pos hc,if_neg (fun h=>h h1:¬(spl path).2.2≠0),if_neg (fun h=>h h2:¬(runS f fol 10000 (ZEp (spl path))).2≠0)]
    generalize (runS f fol 10000 (ZEp (spl path))).1=x at*
    unfold endS at e;split at e
    ·exact .inl (bad 203 (by decide) (by simp[codB]) e)
    right
    refine⟨hok,x,h3,?_⟩
    unfold ZHc;rw[e];rfl
   left
   refine bad _ h2 (ZQ6 f fol _ _) ?_
   unfold wlkS;rw[if_pos hc,if_neg (fun h=>h h1:¬(spl path).2.2≠0),if_pos (h2:(runS f fol 10000 (ZEp (spl path))).2≠0)]
  left
  refine bad _ h1 (ZQ5 path) ?_
  unfold wlkS;rw[if_pos hc,if_pos (h1:(spl path).2.2≠0)]
theorem ZOH {f:FsR} {n:Int} (h:has f n):∃i:Nat,fndI f.v.1 n=i∧nth f.v.1 (i:Int)=some (ZBI f n):=by
 obtain⟨i,hi⟩:=h;refine⟨i,?_,?_⟩
 ·unfold fndI;rw[hi]
 unfold ZBI;rw[hi];exact ZD6 (ZBc hi).1
theorem ZUP {f:FsR} (hs:ZCl f.v.1) (ht:tgtL f.v.1) (path:List UInt8) (fol:Bool):ZF2 f path fol=some true:=by
 obtain⟨b,hb,_⟩:=ZOx hs;unfold ZF2;refine(bds hb).trans ?_
 have hlen:=hs.1
 cases b with
 | false=>exact(if_pos rfl).trans (bds ZHB)
 | true=>
  refine(if_neg (by decide)).trans ((bds (ZQt hs path fol)).trans ?_)
  rcases ZO4 f path fol with⟨c,h0,e⟩ | ⟨hok,x,hp,e⟩
  ·rw[e];refine(if_pos (by simpa using h0)).trans ?_
   show((ZCj plZ 0 (str []) 0).bind fun r_3=>(if r_3=true then law_heads.bind fun r_4=>some r_4 else some false).bind fun b=>some b)=_
   rw[ZHB];rfl
  rw[e];refine(if_neg (show ¬((0:Int) !=0)=true by decide)).trans ?_
  refine(bds (ZH5 (f:=f) (by omega) x.d)).trans ?_
  obtain⟨i,i1,i2⟩:=ZOH hp.dd.1;rw[i1];have e1:(if(decide ((i:Int)<0))=true then some true else((nth f.v.1 (i:Int)).bind fun v=>some (v.v.2.1 !=2)))=some false:=by
   rw[if_neg (by simp),i2]
   show some ((ZBI f x.d).v.2.1 !=2)=_
   rw[hp.dd.2];rfl
  refine(bds e1).trans ((if_neg Bool.false_ne_true).trans ?_)
  cases hn:eqS x.s (str []) with
  | true=>
   refine(if_pos hn).trans ?_
   show((if(x.n==x.d)=true then law_heads.bind fun r_6=>some r_6 else some false).bind fun b2=>some b2)=_
   rw[hp.p0 hn,beq_self_eq_true,ZHB];rfl
  | false=>
   refine(if_neg (show ¬eqS x.s (str [])=true by rw[hn];exact Bool.false_ne_true)).trans ?_
   refine(bds (ZO2 hs ht x.d x.s)).trans ?_
   by_cases hz:x.n=0
   ·obtain⟨g1,g2⟩:=hp.p1 hn hz;refine(if_pos (show(x.n==0)=true by simp[hz])).trans ?_
    rw[g1];show((((ZBP x.s).bind fun r_8=>some (r_8==0)).bind fun b3=>(if b3=true then law_heads.bind fun r_9=>some r_9 else some false).bind fun b4=>some b4))=_
    have g3:ZBP x.s=some 0:=(ZMM (show List UInt8 from x.s)).trans (congrArg some g2)
    rw[g3,ZHB];rfl
   obtain⟨g1,g2⟩:=hp.p2 hn hz;refine(if_neg (show ¬(x.n==0)=true by simpa using hz)).trans ?_
   refine(bds (ZH5 (f:=f) (by omega) x.n)).trans ?_
   have hh:has f x.n:=by
    have:=ZH4 (f:=f) (d:=x.d) (s:=x.s) (by rw[g1])
    rw[g1] at this;exact this
   obtain⟨k,k1,k2⟩:=ZOH hh;rw[k1,g1];show((some (x.n==x.n)).bind fun b5=>(if b5=true then some (decide ((k:Int)≥0)) else some false).bind fun b6=>(if b6=true then((if(!fol)=true then some true else((nth f.v.1 (k:Int)).bind fun v1=>some (v1.v.2.1 !=3))).bind fun b8=>some b8) else some false).bind fun b7=>(if b7=true then law_heads.bind fun r_11=>some r_11 else some false).bind fun b9=>some b9)=_
   rw[beq_self_eq_true,k2,ZHB];show((some (decide ((k:Int)≥0))).bind fun b6=>(if b6=true then((if(!fol)=true then some true else some ((ZBI f x.n).v.2.1 !=3)).bind fun b8=>some b8) else some false).bind fun b7=>(if b7=true then some true else some false).bind fun b9=>some b9)=_
   rw[decide_eq_true (show(k:Int)≥0 by omega)]
   cases fol with
   | false=>rfl
   | true=>
    have:((ZBI f x.n).v.2.1 !=3)=true:=by simpa using g2 rfl
    rw[this];rfl
end Go.Ai.Rab
