/- My own texts DevWpC, DevWq2, DevWq3, DevWpL, one behind the other. -/
import Derived.Test.YtjaopinmnpekiaaGreatDoorWAS
set_option linter.unusedVariables false
set_option linter.unusedSimpArgs false
section
set_option maxRecDepth 10000
open Go.Ai.Enc (enc is)
namespace Go.Ai.Rab
def codB (c:Int):Prop:=c=0∨c=2∨c=206∨c=208∨c=201∨c=203∨c=209
theorem ZVt (s:List UInt8):codB (chkS s):=by
 unfold chkS codB;split
 ·simp
 split
 ·simp
 split
 ·simp
 split<;> simp
theorem ZLu:∀(ps out:List Str) (d:Bool),codB (splL ps out d).2.2
 | [],out,d=> .inl rfl
 | p::ps,out,d=>by
  rw[ZGP];split
  ·exact ZLu ps out true
  split
  ·exact ZVt p
  exact ZLu ps _ false
theorem ZSR (s:List UInt8):codB (spl s).2.2:=by
 unfold spl;split
 ·simp[codB]
 split
 ·simp[codB]
 split
 ·simp[codB]
 exact ZLu _ _ _
theorem ZTa (x:WS) (t:List UInt8):codB (ZFj x t).2:=by
 unfold ZFj;split
 ·simp[codB]
 exact ZSR _
theorem ZTb (f:FsR) (fol:Bool) (x:WS) (s:Str):codB (ZCH f fol x s).2:=by
 unfold ZCH;split
 ·simp[codB]
 split
 ·simp[codB]
 split
 ·split<;> simp[codB]
 split
 ·exact ZTa _ _
 simp[codB]
theorem ZSS (f:FsR) (fol:Bool):∀(n:Nat) (x:WS),codB (runS f fol n x).2
 | 0,x=> .inl rfl
 | n+1,⟨[],d,s,p,b,h,k⟩=> .inl rfl
 | n+1,⟨q::l,d,s,p,b,h,k⟩=>by
  show codB (if(ZCH f fol ⟨l,d,s,p,b,h,k⟩ q).2=0 then runS f fol n (ZCH f fol ⟨l,d,s,p,b,h,k⟩ q).1 else ZCH f fol ⟨l,d,s,p,b,h,k⟩ q).2
  split
  ·exact ZSS f fol n _
  exact ZTb f fol _ q
theorem ZVu (f:FsR) (path:List UInt8) (fol:Bool):codB (wlkS f (spl path) fol).2:=by
 unfold wlkS;split
 ·split
  ·exact ZSR path
  split
  ·exact ZSS f fol _ _
  unfold endS;split<;> simp[codB]
 simp[codB]
theorem ZXG {c:Int} (h:codB c):codS c=c:=by
 unfold codB at h;unfold codS;rcases h with rfl | rfl | rfl | rfl | rfl | rfl | rfl
 all_goals simp
theorem ZVv (f:FsR) (path:List UInt8) (fol:Bool):ZKL f path fol=wlkS f (spl path) fol:=by
 unfold ZKL;rw[ZXG (ZVu f path fol)]
end Go.Ai.Rab
end
section
set_option maxRecDepth 10000
open Go.Ai.Enc (enc is)
namespace Go.Ai.Rab
theorem ZID {f:FsR} (hs:ZBh f.v.1) (ht:tgtL f.v.1) (n:Int):ZBK f n=some (parS f n):=by
 unfold ZBK;refine(bds (ZHo (f:=f) (by have:=hs.1;omega) n)).trans ?_
 rw[ZFK hs ht];unfold parS dirS fndI
 cases hc:chkL f.v.1 f.v.2.1 with
 | false=>rfl
 | true=>
  have hok:=ZDS.1 hc
  cases hp:posI f.v.1 n with
  | none=>rfl
  | some i=>
   obtain⟨h1,h2⟩:=ZBV hp;show((if(decide ((i:Int)<0))=true then some true else _).bind _)=_
   rw[if_neg (by simp),ZD4 h1]
   show(if((inAt f.v.1 i).v.2.1 !=2)=true then some 0 else _)=_
   cases hk:((inAt f.v.1 i).v.2.1 !=2) with
   | true=>
    rw[if_pos rfl,if_pos rfl];simp only[hk,if_true]
   | false=>
    rw[if_neg Bool.false_ne_true,ZXE hok.len hok.nums,if_pos rfl];simp only[hk,Bool.false_eq_true,if_false];rfl
theorem exE {W:Type} {o o' :Option (W×Int)} {c:Int} {Q:W→Prop} (e:o=o') (h:∃w,o' =some (w,c)∧Q w):∃w,o=some (w,c)∧Q w:=e▸h
inductive Rch (f:FsR):Int→Prop
 | root:Rch f 1
 | up {n:Int}:parS f n≠0→Rch f (parS f n)→Rch f n
theorem Rch.zero {f:FsR} {n:Int} (h:Rch f n) (hp:parS f n=0):n=1:=by
 cases h with
 | root=>rfl
 | up h _=>exact absurd hp h
theorem Rch.next {f:FsR} (hok:Ok f.v.1 f.v.2.1) {n:Int} (h:Rch f n) (hp:parS f n≠0):Rch f (parS f n):=by
 cases h with
 | root=>exact absurd (ZPZ hok) hp
 | up _ h' =>exact h'
structure RInv (f:FsR) (x:WS):Prop where
 rc:(ZA7 f x.h).v.2.1=2→Rch f x.h
 n0:0≤x.n
def WS.rw (x:WS) (h:Int):WR:=Rec.mk (x.l,x.b,h,(Rec.mk (x.d,x.s,x.n,false,()):ZAU),(x.k:Int),())
theorem ZIh {f:FsR} (hok:Ok f.v.1 f.v.2.1) {n:Int} (h:has f n):ZBW f n=some (ZA7 f n):=by
 obtain⟨i,hi⟩:=h;unfold ZBW ZA7;refine(bds (ZHo (f:=f) (by have:=hok.len;omega) n)).trans ?_
 unfold fndI;rw[hi];exact bds (ZD4 (ZBV hi).1)
theorem ZTc {f:FsR} (hok:Ok f.v.1 f.v.2.1) {d:Int} {s:Str} (h:(ZBY f d s).2=0) (hk:(ZA7 f (ZBY f d s).1).v.2.1=2):parS f (ZBY f d s).1=d∧d≠0:=by
 obtain⟨_,i,p1,p2,p3,p4,p5,p6,p7,p8,k,q1,q2,q3⟩:=ZR3 h;have hh:has f (ZBY f d s).1:=⟨k,q1⟩
 have hd:has f d:=⟨i,p1⟩
 have h1:=ZFk hok hd;have hmem:(ZBY f d s).1∈(inAt f.v.1 i).v.2.2.2.2.2.2.2.1:=by
  rw[p6];have:ptN (inAt f.v.1 i).v.2.2.2.2.2.2.1 s<(inAt f.v.1 i).v.2.2.2.2.2.2.2.1.length:=by omega
  simp only[List.getD_eq_getElem?_getD,List.getElem?_eq_getElem this,Option.getD_some];exact List.getElem_mem this
 have hu:d∈upsL f.v.1 (ZBY f d s).1:=ZGg.2 ⟨_,ZBX p2,p3.symm,hmem⟩
 obtain⟨m1,m2⟩:=ZDq hh;have hl:=(hok.dir m1 hk).1;rw[m2] at hl;have e:=ZSI hok m1 hk;rw[m2] at e;unfold parS;rw[e];refine⟨?_,by omega⟩
 show(upsL f.v.1 (ZBY f d s).1).headD 0=d
 cases hq:upsL f.v.1 (ZBY f d s).1 with
 | nil=>rw[hq] at hu;cases hu
 | cons p q=>
  rw[hq] at hu hl;have:q=[]:=by
   cases q with
   | nil=>rfl
   | cons a b=>simp at hl
  subst this;exact(List.mem_singleton.1 hu).symm
theorem ZPa {x:WS} {h:Int} {r:List Str×Bool×Int} (h1:r.1.length≤1000) (h2:x.l.length≤1000000):ZCO r (x.rw h)=some ((WS.goes ⟨r.1++x.l,x.d,x.s,x.n,x.b,h,x.k⟩ h).rw h,0):=by
 unfold ZCO;refine(bds (ZEj [] r.1 (by simp;omega) (by simp;omega))).trans ?_
 refine(bds (ZEj r.1 x.l (by omega) (by omega))).trans ?_
 rfl
theorem ZPb {x:WS} {h:Int} (t:List UInt8) (h2:x.l.length≤1000000):∃w',ZBe (x.rw h) t=some (w',(spl t).2.2)∧((spl t).2.2=0→w' =(WS.goes ⟨(spl t).1++x.l,x.d,x.s,x.n,x.b || (spl t).2.1 && decide (x.l.length=0),h,x.k⟩ h).rw h):=by
 unfold ZBe;have hl:=ZJu t;have e:=ZNN t;generalize spl t=r at*
 refine exE ((bds e)) ?_
 by_cases hc:r.2.2=0
 ·by_cases h0:x.l.length=0
  ·refine⟨_,?_,fun _=>rfl⟩
   refine(if_neg (by simp[hc])).trans ((if_pos (show((x.l.length:Int)==0)=true by rw[lenB,decide_eq_true h0])).trans ?_)
   have e2:(if x.b=true then some true else some r.2.1)=some (x.b || r.2.1):=by cases x.b<;> rfl
   refine(bds e2).trans ?_
   rw[hc,decide_eq_true h0,Bool.and_true];exact ZPa (x:=⟨x.l,x.d,x.s,x.n,x.b || r.2.1,h,x.k⟩) hl h2
  refine⟨_,?_,fun _=>rfl⟩
  refine(if_neg (by simp[hc])).trans ((if_neg (show ¬((x.l.length:Int)==0)=true by rw[lenB,decide_eq_false h0];exact Bool.false_ne_true)).trans ?_)
  rw[hc,decide_eq_false h0,Bool.and_false,Bool.or_false];exact ZPa hl h2
 exact⟨x.rw h,if_pos (by simpa using hc),fun h=>absurd h hc⟩
theorem ZQN {x:WS} {t:List UInt8} (h2:x.l.length≤1000000) (hk:x.k≤8) (ht:t≠[]) (hl:t.length≤1000):∃w',ZFF (x.rw x.h) t=some (w',(ZFj x t).2)∧((ZFj x t).2=0→w' =(ZFj x t).1.rw (ZFj x t).1.h):=by
 unfold ZFF ZFj;by_cases h8:x.k=8
 ·rw[if_pos h8];exact⟨_,if_pos (show((x.k:Int)==8)=true by simp[h8]),fun h=>by cases h⟩
 rw[if_neg h8];obtain⟨c,r,rfl⟩:∃c r,t=c::r:=by
  cases t with
  | nil=>exact absurd rfl ht
  | cons c r=>exact⟨c,r,rfl⟩
 have hn:nth (α:=UInt8) (c::r) 0=some c:=rfl
 have e0:¬((x.k:Int)==8)=true:=by simp;omega
 have hw:=ZLn x.k (by omega)
 have hp:Lib.hasPrefix (c::r) [47]=(47==c && true):=rfl
 unfold tgt;rw[hp,Bool.and_true];by_cases hc:c=47
 ·subst hc;obtain⟨w',q1,q2⟩:=ZPb (x:=⟨x.l,x.d,x.s,x.n,x.b,1,x.k+1⟩) (h:=1) (47::r) h2;refine⟨w',?_,q2⟩
  refine(if_neg e0).trans ((bds hn).trans ((if_pos (by decide)).trans ?_))
  show ZBe (Rec.mk (x.l,x.b,1,_,IntKind.i64.wrap ((x.k:Int)+1),())) (47::r)=_
  rw[hw];exact q1
 have hc2:((47:UInt8)==c)=false:=by simp only[beq_eq_false_iff_ne];exact fun e=>hc e.symm
 rw[hc2,if_neg Bool.false_ne_true];obtain⟨w',q1,q2⟩:=ZPb (x:=⟨x.l,x.d,x.s,x.n,x.b,x.h,x.k+1⟩) (h:=x.h) (47::c::r) h2;refine⟨w',?_,q2⟩
 have hc3:¬((c.toNat:Int)==47)=true:=by
  simp only[beq_iff_eq];intro h;exact hc (UInt8.toNat_inj.1 (by show _=47;omega))
 refine(if_neg e0).trans ((bds hn).trans ((if_neg hc3).trans ?_))
 refine(bds (ZJv (a:=[47]) (b:=c::r) (by simp only[List.length_cons,List.length_nil] at hl ⊢;omega))).trans ?_
 show ZBe (Rec.mk (x.l,x.b,x.h,_,IntKind.i64.wrap ((x.k:Int)+1),())) (47::c::r)=_
 rw[hw];exact q1
theorem ZVw {f:FsR} (hok:Ok f.v.1 f.v.2.1) {n:Int} (h:has f n) (hk:(ZA7 f n).v.2.1=3):(ZA7 f n).v.2.2.2.2.2.1≠(str []:Str):=by
 have:=hok.al _ (ZDq h).1
 unfold ZC1 ZGj at this;simp only[Bool.and_eq_true] at this;have ht:=this.1.2.2.2.1;unfold tgB at ht;rw[hk,if_neg (by decide)] at ht
 simp only[Bool.and_eq_true,Bool.not_eq_true'] at ht;intro e;rw[e] at ht;exact absurd ht.1 (by decide)
theorem ZTd {f:FsR} (hs:ZBh f.v.1) (ht:tgtL f.v.1) (hok:Ok f.v.1 f.v.2.1) (fol:Bool) {x:WS} (hi:WInv f x) (hr:RInv f x) (q:Str):
  ∃w',ZHk (WS.rw ⟨q::x.l,x.d,x.s,x.n,x.b,x.h,x.k⟩ x.h) f fol=some (w',(ZCH f fol x q).2)∧((ZCH f fol x q).2=0→RInv f (ZCH f fol x q).1∧∃h',w' =(ZCH f fol x q).1.rw h' ∧((ZCH f fol x q).1.l≠[]→h' =(ZCH f fol x q).1.h)):=by
 have hl:sub (q::x.l) 1 (((q::x.l).length:Nat):Int)=some x.l:=by
  have:=ZLc (q::x.l) 1 (q::x.l).length (by simp) (Nat.le_refl _)
  rw[List.take_length] at this;exact this
 have hll:=hi.hl;have hkk:=hi.hk;unfold ZHk ZCH;refine exE ((bds (x:=q) rfl).trans ((bds hl).trans ((bds (ZIh hok hi.hh))))) ?_
 by_cases h1:(ZA7 f x.h).v.2.1=2
 ·rw[if_neg (fun h=>h h1:¬(ZA7 f x.h).v.2.1≠2)]
  refine exE ((if_neg (show ¬((ZA7 f x.h).v.2.1 !=2)=true by simp[h1]))) ?_
  have hR:=hr.rc h1;by_cases h2:eqS q (str [46,46])=true
  ·rw[if_pos h2,if_pos h2];refine exE (bds (ZID hs ht x.h)) ?_
   by_cases hp:parS f x.h=0
   ·have hx:x.h=1:=hR.zero hp
    rw[hp];refine⟨_,(if_neg (by decide)).trans rfl,fun _=>⟨⟨fun _=>Rch.root,by show(0:Int)≤1;omega⟩,1,?_,fun _=>rfl⟩⟩
    show Rec.mk (x.l,x.b,x.h,(Rec.mk (x.h,str [],x.h,false,()):ZAU),(x.k:Int),())=_
    rw[hx];rfl
   have hp2:=(ZJx hok x.h).resolve_left hp;have hp3:=ZFk hok hp2;rw[ZIg hp3];have hR2:Rch f (parS f x.h):=hR.next hok hp
   exact⟨_,(if_pos (decide_eq_true (by omega))).trans rfl,fun _=>⟨⟨fun _=>hR2,by show 0≤parS f x.h;omega⟩,parS f x.h,rfl,fun _=>rfl⟩⟩
  rw[if_neg h2,if_neg h2];refine exE (bds (ZQM hs ht x.h q)) ?_
  by_cases h3:(ZBY f x.h q).2=0
  ·rw[if_neg (fun h=>h h3:¬(ZBY f x.h q).2≠0)]
   have hh:=ZLo h3;have hpos:=ZFk hok hh;have e1:(if((ZBY f x.h q).2 !=0)=true then some (decide ((x.l.length:Int) > 0)) else some false)=some false:=if_neg (by simp[h3])
   refine exE ((bds e1).trans ((if_neg (by decide)).trans ((if_neg (by simp[h3])).trans ((bds (ZIh hok hh)))))) ?_
   have e2:(if((ZA7 f (ZBY f x.h q).1).v.2.1==3)=true then((if(decide ((x.l.length:Int) > 0))=true then some true else some fol).bind fun b2=>(if b2=true then some true else some x.b).bind fun b3=>some b3) else some false)=some (lnkB f fol x (ZBY f x.h q).1):=by
    unfold lnkB;have:decide ((x.l.length:Int) > 0)= !decide (x.l.length=0):=by
     cases x.l with
     | nil=>rfl
     | cons a b=>rw[decide_eq_true (show((List.length (a::b):Nat):Int) > 0 by simp only[List.length_cons];omega),decide_eq_false (by simp)];rfl
    rw[this,decide_eq_true (show(ZBY f x.h q).1 > 0 by omega),Bool.true_and]
    cases((ZA7 f (ZBY f x.h q).1).v.2.1==3)<;> cases decide (x.l.length=0)<;> cases fol<;> cases x.b<;> rfl
   refine exE ((bds e2)) ?_
   by_cases h5:lnkB f fol x (ZBY f x.h q).1=true
   ·rw[if_pos h5,if_pos h5];have hk3:(ZA7 f (ZBY f x.h q).1).v.2.1=3:=by
     unfold lnkB at h5;simp only[Bool.and_eq_true,beq_iff_eq] at h5;exact h5.2.1
    have g1:=ZVw hok hh hk3;have g2:=ZPR hok hh;obtain⟨w',q1,q2⟩:=ZQN (x:=x) (t:=(ZA7 f (ZBY f x.h q).1).v.2.2.2.2.2.1) (by omega) hkk g1 g2
    refine⟨w',bds q1,fun hc=> ?_⟩
    obtain⟨j1,j2,j3,j4,j5⟩:=ZPQ x _ hc;refine⟨⟨fun _=> ?_,?_⟩,_,q2 hc,fun _=>rfl⟩
    ·rw[j5];unfold tgt;split
     ·exact Rch.root
     exact hR
    rw[j4];unfold tgt;split
    ·show(0:Int)≤1;omega
    have:=ZFk hok hi.hh;show 0≤x.h;omega
   rw[if_neg h5,if_neg h5];refine⟨_,rfl,fun _=>⟨⟨fun hk=> ?_,by show 0≤(ZBY f x.h q).1;omega⟩,(ZBY f x.h q).1,rfl,fun _=>(ZIg hpos).symm⟩⟩
   have e:(x.rests q (ZBY f x.h q).1).h=(ZBY f x.h q).1:=ZIg hpos
   rw[e] at hk ⊢;obtain⟨p1,p2⟩:=ZTc hok h3 hk;exact Rch.up (by rw[p1];exact p2) (by rw[p1];exact hR)
  rw[if_pos (h3:(ZBY f x.h q).2≠0)];by_cases h4:x.l.length=0
  ·rw[if_neg (fun h=>h h4:¬x.l.length≠0)]
   have e1:(if((ZBY f x.h q).2 !=0)=true then some (decide ((x.l.length:Int) > 0)) else some false)=some false:=(if_pos (by simpa using h3)).trans (by rw[h4];rfl)
   refine⟨_,(bds e1).trans ((if_neg (by decide)).trans ((if_pos (by simpa using h3)).trans rfl)),fun _=>⟨⟨fun _=>Rch.root,Int.le_refl _⟩,x.h,rfl,fun hne=> ?_⟩⟩
   exact absurd (List.eq_nil_of_length_eq_zero h4) hne
  rw[if_pos (h4:x.l.length≠0)];have e1:(if((ZBY f x.h q).2 !=0)=true then some (decide ((x.l.length:Int) > 0)) else some false)=some true:=(if_pos (by simpa using h3)).trans (congrArg some (decide_eq_true (by omega)))
  exact⟨_,(bds e1).trans ((if_pos rfl).trans rfl),fun h=>by cases h⟩
 rw[if_pos (h1:(ZA7 f x.h).v.2.1≠2)];exact⟨_,(if_pos (show((ZA7 f x.h).v.2.1 !=2)=true by simpa using h1)).trans rfl,fun h=>by cases h⟩
end Go.Ai.Rab
end
section
set_option maxRecDepth 10000
open Go.Ai.Enc (enc is)
namespace Go.Ai.Rab
theorem ZST {f:FsR} (hs:ZBh f.v.1) (ht:tgtL f.v.1) (hok:Ok f.v.1 f.v.2.1) (fol:Bool):∀(n:Nat) (x:WS) (h' :Int),WInv f x→RInv f x→(x.l≠[]→h' =x.h)→x.m≤n→
  ∃h'',loop (ZFe f fol) (plZ,x.rw h')=some (if(runS f fol n x).2=0 then .inl (plZ,(runS f fol n x).1.rw h'') else .inr (plZ,(runS f fol n x).2))∧((runS f fol n x).2=0→WInv f (runS f fol n x).1∧0≤(runS f fol n x).1.n)
 | n,⟨[],d,s,p,b,h,k⟩,h',hi,hr,hh,hm=>by
  rw[ZVi];exact⟨h',ZAT rfl,fun _=>⟨hi,hr.n0⟩⟩
 | 0,⟨q::l,d,s,p,b,h,k⟩,h',hi,hr,hh,hm=>by
  unfold WS.m at hm;simp only[List.length_cons] at hm;omega
 | n+1,⟨q::l,d,s,p,b,h,k⟩,h',hi,hr,hh,hm=>by
  have hi' :WInv f ⟨l,d,s,p,b,h,k⟩:=⟨hi.hh,hi.hn,hi.hk,by have:=hi.hl;simp only[List.length_cons] at this ⊢;omega⟩
  have hr' :RInv f ⟨l,d,s,p,b,h,k⟩:=⟨hr.rc,hr.n0⟩
  have hm' :(WS.mk l d s p b h k).m≤n:=by
   unfold WS.m at hm ⊢;simp only[List.length_cons] at hm ⊢;omega
  obtain rfl:h' =h:=hh (by simp)
  obtain⟨w',q1,q2⟩:=ZTd hs ht hok fol hi' hr' q;have hv:=ZPU hok fol hi' q;have hb:ZFe f fol (plZ,(WS.mk (q::l) d s p b h' k).rw h')=if((ZCH f fol ⟨l,d,s,p,b,h',k⟩ q).2 !=0)=true then some (.inr (.inr (plZ,(ZCH f fol ⟨l,d,s,p,b,h',k⟩ q).2))) else some (.inl (plZ,w')):=by
   refine(if_pos (decide_eq_true (show(((q::l).length:Nat):Int) > 0 by simp only[List.length_cons];omega))).trans ?_
   exact bds q1
  have er:runS f fol (n+1) ⟨q::l,d,s,p,b,h',k⟩=if(ZCH f fol ⟨l,d,s,p,b,h',k⟩ q).2=0 then runS f fol n (ZCH f fol ⟨l,d,s,p,b,h',k⟩ q).1 else ZCH f fol ⟨l,d,s,p,b,h',k⟩ q:=rfl
  rw[er];by_cases hc:(ZCH f fol ⟨l,d,s,p,b,h',k⟩ q).2=0
  ·rw[if_neg (by simp[hc])] at hb
   rw[if_pos hc,ZAc hb];obtain⟨v1,v2⟩:=hv hc;obtain⟨r1,h2,r2,r3⟩:=q2 hc;rw[r2];exact ZST hs ht hok fol n _ h2 v1 r1 r3 (by omega)
  rw[if_pos (by simpa using hc)] at hb
  rw[if_neg hc];refine⟨h',?_,fun h=>absurd h hc⟩
  rw[if_neg hc];exact ZAT hb
theorem ZVx {f:FsR} (hok:Ok f.v.1 f.v.2.1) {x:WS} (hi:WInv f x) (h0:0≤x.n) (h:Int):ZFf f (.inl (plZ,x.rw h))=some (endS f x):=by
 unfold endS;show((if(x.n !=0)=true then some x.b else some false).bind fun b=>(if b=true then((ZBW f x.n).bind fun r_3=>some (r_3.v.2.1 !=2)) else some false).bind fun b1=>if b1=true then some (plZ,203) else some (x.pl,0))=_
 by_cases hn:x.n > 0
 ·rw[if_pos (show(x.n !=0)=true by simp;omega),decide_eq_true hn,Bool.and_true]
  cases hb:x.b with
  | false=>rfl
  | true=>
   rw[Bool.true_and];show(((ZBW f x.n).bind fun r_3=>some (r_3.v.2.1 !=2)).bind fun b1=>if b1=true then some (plZ,203) else some (x.pl,0))=_
   rw[ZIh hok (hi.hn hn)];show(if((ZA7 f x.n).v.2.1 !=2)=true then some (plZ,203) else some (x.pl,0))=_
   cases((ZA7 f x.n).v.2.1 !=2)<;> rfl
 have:x.n=0:=by omega
 rw[if_neg (show ¬(x.n !=0)=true by simp[this]),decide_eq_false hn,Bool.and_false]
 rfl
theorem ZTe {f:FsR} (hs:ZBh f.v.1) (ht:tgtL f.v.1) (path:List UInt8) (fol:Bool):ZEg f path fol=some (wlkS f (spl path) fol):=by
 unfold ZEg wlkS;rw[ZFK hs ht]
 cases hc:chkL f.v.1 f.v.2.1 with
 | false=>rfl
 | true=>
  have hok:=ZDS.1 hc;rw[if_pos rfl];have hl:=ZJu path;refine Eq.trans (bd true _) ((if_neg (by decide)).trans ((bds (ZNN path)).trans ?_))
  generalize spl path=r at*
  by_cases h1:r.2.2=0
  ·rw[if_neg (fun h=>h h1:¬r.2.2≠0)]
   refine(if_neg (by simp[h1])).trans ?_
   have hi:=ZNJ hok hl;obtain⟨h2,q1,q2⟩:=ZST hs ht hok fol 10000 (ZHm r) 1 hi ⟨fun _=>Rch.root,by show(0:Int)≤1;omega⟩ (fun _=>rfl) (by
    show r.1.length+1001*(8 - 0)≤10000
    omega)
   refine Eq.trans (bds q1) ?_
   generalize runS f fol 10000 (ZHm r)=q at*
   by_cases h3:q.2=0
   ·rw[if_pos h3,if_neg (fun h=>h h3:¬q.2≠0)]
    exact ZVx hok (q2 h3).1 (q2 h3).2 h2
   rw[if_neg h3,if_pos (h3:q.2≠0)];rfl
  rw[if_pos (h1:r.2.2≠0)];exact if_pos (by simpa using h1)
/-! ### Within -/
theorem ZOZ {f:FsR} (hs:ZBh f.v.1) (n:Int):ZDp f n=some (ZIW f n):=by
 unfold ZDp;refine(bds (ZHo (f:=f) (by have:=hs.1;omega) n)).trans ?_
 unfold fndI ZIW
 cases hp:posI f.v.1 n with
 | none=>rfl
 | some i=>
  show((if decide ((i:Int)≥0)=true then((nth f.v.1 (i:Int)).bind fun v=>some (v.v.2.1==2)) else some false).bind fun b=>some b)=_
  rw[if_pos (decide_eq_true (by omega)),ZD4 (ZBV hp).1]
  rfl
theorem ZXH {f:FsR} {n:Int} (h:ZTS f n):ZIW f n=true:=by
 obtain⟨⟨i,hi⟩,hk⟩:=h;unfold ZA7 at hk;unfold ZIW;rw[hi] at hk ⊢;simpa using hk
theorem ZIO {f:FsR} (hs:ZBh f.v.1) (ht:tgtL f.v.1) (hok:Ok f.v.1 f.v.2.1) (dir:Int):∀(d i:Nat) (n:Int),i+d=f.v.1.length+1→(loop (ZCP f dir) (n,(i:Int))).bind ZCz=some (if n > 0 then ZDr f dir d n false else false)
 | 0,i,n,hd=>by
  have hb:ZCP f dir (n,(i:Int))=some (Sum.inr (Sum.inl ())):=by
   show((if decide ((i:Int)≤(f.v.1.length:Int))=true then _ else some false).bind _)=_
   rw[if_neg (by simp;omega)];rfl
  rw[ZAT hb];have:ZDr f dir 0 n false=false:=rfl
  rw[this];split<;> rfl
 | d+1,i,n,hd=>by
  have hl:=hok.len;have e0:ZCP f dir (n,(i:Int))=if(decide (n > 0))=true then(if(n==dir)=true then some (.inr (.inr true)) else some (.inl (parS f n,((i+1:Nat):Int)))) else some (.inr (.inl ())):=by
   show((if decide ((i:Int)≤(f.v.1.length:Int))=true then some (decide (n > 0)) else some false).bind fun b2=>if b2=true then(if(n==dir)=true then some (Sum.inr (Sum.inr true)) else((ZBK f n).bind fun r_3=>some (Sum.inl (r_3,(IntKind.i64.wrap ((i:Int)+1)))))) else some (Sum.inr (Sum.inl ())))=_
   rw[if_pos (decide_eq_true (by omega)),ZID hs ht,ZLn i (by omega)]
   rfl
  have ew:ZDr f dir (d+1) n false=if(n==dir || parS f n==0)=true then n==dir else ZDr f dir d (parS f n) (n==dir):=rfl
  by_cases hn:n > 0
  ·rw[if_pos (decide_eq_true hn)] at e0;rw[if_pos hn,ew]
   cases hq:(n==dir) with
   | true=>
    rw[hq,if_pos rfl] at e0;rw[ZAT e0];rfl
   | false=>
    rw[hq,if_neg Bool.false_ne_true] at e0;rw[ZAc e0,ZIO hs ht hok dir d (i+1) _ (by omega),Bool.false_or]
    rcases ZJx hok n with h | h
    ·rw[h];rfl
    have hp:=ZFk hok h;rw[if_pos (show parS f n > 0 by omega),if_neg (by simp;omega)]
  rw[if_neg (by simpa using hn)] at e0
  rw[if_neg hn,ZAT e0];rfl
theorem ZNO {f:FsR} (hok:Ok f.v.1 f.v.2.1) {dir:Int} (h:ZIW f dir=false):∀(d:Nat) (n:Int),ZTS f n→ZDr f dir d n false=false
 | 0,n,hd=>rfl
 | d+1,n,hd=>by
  have ew:ZDr f dir (d+1) n false=if(n==dir || parS f n==0)=true then n==dir else ZDr f dir d (parS f n) (n==dir):=rfl
  have hq:(n==dir)=false:=by
   simp only[beq_eq_false_iff_ne];intro e;rw[←e,ZXH hd] at h
   cases h
  rw[ew,hq,Bool.false_or];by_cases hp:parS f n=0
  ·rw[if_pos (by simp[hp])]
  rw[if_neg (by simpa using hp)]
  obtain⟨p1,p2,_⟩:=ZJz hok hp;exact ZNO hok h d _ ⟨p1,p2⟩
theorem ZQO {f:FsR} (hs:ZBh f.v.1) (ht:tgtL f.v.1) (n dir:Int):ZCl f n dir=some (ZGR f n dir):=by
 unfold ZCl ZGR ZGQ;rw[ZFK hs ht,ZOZ hs,ZOZ hs]
 cases hc:chkL f.v.1 f.v.2.1 with
 | false=>rw[Bool.and_false];rfl
 | true=>
  have hok:=ZDS.1 hc;rw[Bool.and_true]
  cases hd:ZIW f n with
  | false=>rfl
  | true=>
   have hd2:=ZPY hd;have hp:=ZFk hok hd2.1;rw[if_pos rfl]
   cases hi:ZIW f dir with
   | false=>
    rw[ZNO hok hi _ _ hd2];rfl
   | true=>
    refine Eq.trans (b:=(loop (ZCP f dir) (n,((0:Nat):Int))).bind ZCz) rfl ?_
    rw[ZIO hs ht hok dir (f.v.1.length+1) 0 n (by omega),if_pos (show n > 0 by omega)]
/-! ### Path -/
theorem ZTf (l:List (List UInt8)) (x:List UInt8):strA (l++[x])=strA l++[47]++x:=by
 unfold strA;rw[List.flatMap_append,List.append_assoc];simp
theorem ZKj (l0:List (List UInt8)) (hl:l0.length≤5000) (hx:∀s∈l0,List.length s≤100):∀(r q:List (List UInt8)),l0=q++r→loop (ZFc l0) (str (strA q),(q.length:Int))=some (str (strA l0))
 | [],q,hq=>by
  rw[List.append_nil] at hq;subst hq;refine ZAT ?_
  exact if_neg (show ¬decide (((l0.length:Nat):Int)<((l0.length:Nat):Int))=true by simp)
 | x::r,q,hq=>by
  have hlen:l0.length=q.length+(r.length+1):=by rw[hq];simp
  have hn:nth (α:=List UInt8) l0 (q.length:Int)=some x:=by
   rw[ZBo (by omega)]
   congr 1
   subst hq;simp
  have h1:decide (((q.length:Nat):Int)<((l0.length:Nat):Int))=true:=decide_eq_true (by omega)
  have hA:=ZLq q fun s h=>hx s (by rw[hq];exact List.mem_append_left _ h)
  have hx1:=hx x (by rw[hq];simp)
  have hbd:ZFc l0 (str (strA q),(q.length:Int))=some (Sum.inl (str (strA (q++[x])),((q++[x]).length:Int))):=by
   refine(if_pos h1).trans ?_
   refine(bds (ZJv (a:=strA q) (b:=[47]) (by simp;omega))).trans ((bds (α:=List UInt8) hn).trans ?_)
   refine(bds (ZJv (a:=strA q++[47]) (b:=x) (by simp;omega))).trans ?_
   rw[ZLn _ (by omega),ZTf,List.length_append]
   rfl
  rw[ZAc hbd];exact ZKj l0 hl hx r (q++[x]) (by rw[hq];simp)
theorem ZTg {l:List (List UInt8)} (h:∀s∈l,List.length s≤100) (hl:l.length≤5000):ZD3 l=some (jn l):=by
 unfold ZD3 jn;refine(bds (ZKj l hl h l [] rfl)).trans ?_
 show(if((List.length (α:=Str) l:Int)==0)=true then some (str [47]) else some (str (strA l)))=_
 have hz:((List.length (α:=Str) l:Int)==0)=decide (List.length (α:=Str) l=0):=lenB l
 by_cases h0:List.length (α:=Str) l=0
 ·exact(if_pos (hz.trans (decide_eq_true h0))).trans (congrArg some (if_pos h0).symm)
 exact(if_neg (by rw[hz,decide_eq_false h0];exact Bool.false_ne_true)).trans (congrArg some (if_neg h0).symm)
theorem ZPc:∀{l:List Int} {x:Int},(l.filter (·==x)).length≤1→∀k (h:k<l.length),l[k]=x→k=idx l x
 | y::l,x,hf,k,hk,e=>by
  unfold idx;by_cases hxy:x=y
  ·rw[if_pos hxy];subst hxy;rw[List.filter_cons_of_pos (by simp)] at hf
   simp only[List.length_cons] at hf
   cases k with
   | zero=>rfl
   | succ k=>
    exfalso
    have hm:x∈l.filter (·==x):=by
     rw[List.mem_filter];refine⟨?_,by simp⟩
     have e:l[k]'(by simpa using hk)=x:=e
     rw[←e];exact List.getElem_mem _
    have:=List.length_pos_of_mem hm
    omega
  rw[if_neg hxy];rw[List.filter_cons_of_neg (by simpa using fun h=>hxy h.symm)] at hf
  cases k with
  | zero=>exact absurd e.symm hxy
  | succ k=>exact congrArg (·+1) (ZPc hf k (by simpa using hk) e)
theorem ZUv (k:Int):∀{l:List ZAO} {x:ZAO},x∈l→(upsX x x.v.2.2.2.2.2.2.2.1 k).length≤(upsL l k).length
 | y::l,x,h=>by
  rw[ZJs,List.length_append];rcases List.mem_cons.1 h with rfl | h
  ·omega
  have:=ZUv k h;omega
theorem ZLv (x:ZAO) (n:Int) (hl:x.v.2.2.2.2.2.2.2.1.length≤1000) (he:x.v.2.2.2.2.2.2.2.1.length=x.v.2.2.2.2.2.2.1.length) (hu:(x.v.2.2.2.2.2.2.2.1.filter (·==n)).length≤1) (hm:n∈x.v.2.2.2.2.2.2.2.1) (l:List Str) (hll:l.length≤1000):∀(d k:Nat),k+d=x.v.2.2.2.2.2.2.2.1.length→
  loop (ZDI x n) ((if k≤idx x.v.2.2.2.2.2.2.2.1 n then l else x.v.2.2.2.2.2.2.1.getD (idx x.v.2.2.2.2.2.2.2.1 n) (str [])::l),(k:Int))=some (x.v.2.2.2.2.2.2.1.getD (idx x.v.2.2.2.2.2.2.2.1 n) (str [])::l)
 | 0,k,hk=>by
  have h1:=(ZPV hm).1;rw[if_neg (by omega)]
  refine ZAT ?_
  show((if decide ((k:Int)<(x.v.2.2.2.2.2.2.2.1.length:Int))=true then _ else some false).bind _)=_
  rw[if_neg (by simp;omega)];rfl
 | d+1,k,hk=>by
  have h1:=ZPV hm;have hk1:k<x.v.2.2.2.2.2.2.2.1.length:=by omega
  have hk2:k<x.v.2.2.2.2.2.2.1.length:=by omega
  have hb:∀l' :List Str,ZDI x n (l',(k:Int))=if(x.v.2.2.2.2.2.2.2.1[k]==n)=true then((app 16 [x.v.2.2.2.2.2.2.1[k]] l').bind fun l5=>some (.inl (l5,((k+1:Nat):Int)))) else some (.inl (l',((k+1:Nat):Int))):=fun l' =>by
   show((if decide ((k:Int)<(x.v.2.2.2.2.2.2.2.1.length:Int))=true then some (decide ((k:Int)<(x.v.2.2.2.2.2.2.1.length:Int))) else some false).bind fun b2=>if b2=true then((nth x.v.2.2.2.2.2.2.2.1 (k:Int)).bind fun v1=>if(v1==n)=true then((nth x.v.2.2.2.2.2.2.1 (k:Int)).bind fun v2=>(app 16 [v2] l').bind fun l5=>some (Sum.inl (l5,IntKind.i64.wrap ((k:Int)+1)))) else some (Sum.inl (l',IntKind.i64.wrap ((k:Int)+1)))) else some (Sum.inr l'))=_
   rw[if_pos (decide_eq_true (by omega)),decide_eq_true (show(k:Int)<(x.v.2.2.2.2.2.2.1.length:Int) by omega),ZBo hk1,ZBo hk2,ZLn k (by omega)]
   rfl
  by_cases hq:x.v.2.2.2.2.2.2.2.1[k]=n
  ·have hki:=ZPc hu k hk1 hq;have hb:=hb l;rw[if_pos (by simpa using hq),ZEj _ _ (by simp;omega) (by simp;omega)] at hb
   rw[if_pos (by omega),ZAc hb]
   have:=ZLv x n hl he hu hm l hll d (k+1) (by omega)
   rw[if_neg (by omega)] at this
   have e:x.v.2.2.2.2.2.2.1.getD (idx x.v.2.2.2.2.2.2.2.1 n) (str [])=x.v.2.2.2.2.2.2.1[k]:=by
    rw[←hki];simp only[List.getD_eq_getElem?_getD,List.getElem?_eq_getElem hk2,Option.getD_some]
   rw[e] at this ⊢;exact this
  have hb:=hb (if k≤idx x.v.2.2.2.2.2.2.2.1 n then l else x.v.2.2.2.2.2.2.1.getD (idx x.v.2.2.2.2.2.2.2.1 n) (str [])::l)
  rw[if_neg (show ¬(x.v.2.2.2.2.2.2.2.1[k]==n)=true by simpa using hq)] at hb
  rw[ZAc hb];have hne:k≠idx x.v.2.2.2.2.2.2.2.1 n:=by
   intro e;apply hq
   have:=h1.2
   rw[←e] at this;simpa[List.getD_eq_getElem?_getD,List.getElem?_eq_getElem hk1] using this
  have:=ZLv x n hl he hu hm l hll d (k+1) (by omega)
  by_cases h3:k≤idx x.v.2.2.2.2.2.2.2.1 n
  ·rw[if_pos (by omega)] at this
   rw[if_pos h3];exact this
  rw[if_neg (by omega)] at this
  rw[if_neg h3];exact this
theorem ZKk {f:FsR} (hs:ZBh f.v.1) (ht:tgtL f.v.1) (hok:Ok f.v.1 f.v.2.1):∀(d i:Nat) (n v:Int) (l:List Str),i+d=f.v.1.length+1→ZTS f n→ZDJ f.v.1 d n=true→l.length≤i→(∀s∈l,List.length s≤100)→
  (loop (ZEP f) (l,n,(i:Int))).bind ZFh=some (if(ZIC f d n v l).1≠1 then[] else jn (ZIC f d n v l).2)
 | 0,i,n,v,l,hd,hn,he,h1,h2=>by cases he
 | d+1,i,n,v,l,hd,hn,he,h1,h2=>by
  have hl:=hok.len;have ep:ZIC f (d+1) n v l=if parS f n=0 then(n,l) else ZIC f d (parS f n) n (ZIB f (parS f n) n::l):=rfl
  have hb:ZEP f (l,n,(i:Int))=if(n !=1)=true then(if(parS f n==0)=true then some (.inr (.inr (str []))) else((ZBW f (parS f n)).bind fun r_3=>((loop (ZDI r_3 n) (l,((0:Nat):Int))).bind (ZEO (parS f n) (i:Int))))) else some (.inr (.inl l)):=by
   show((if decide ((i:Int)≤(f.v.1.length:Int))=true then some (n !=1) else some false).bind fun b1=>if b1=true then((ZBK f n).bind fun r_2=>if(r_2==0)=true then some (Sum.inr (Sum.inr (str []))) else((ZBW f r_2).bind fun r_3=>((loop (ZDI r_3 n) (l,((0:Nat):Int))).bind (ZEO r_2 (i:Int))))) else some (Sum.inr (Sum.inl l)))=_
   rw[if_pos (decide_eq_true (by omega)),ZID hs ht]
   rfl
  by_cases h0:n=1
  ·rw[if_neg (by simp[h0])] at hb
   rw[ZAT hb,ep,h0,ZPZ hok,if_pos rfl];show((ZD3 l).bind fun r_4=>some r_4)=_
   rw[ZTg h2 (show List.length (α:=Str) l≤5000 by omega)]
   rw[if_neg (by simp)];rfl
  rw[if_pos (by simpa using h0)] at hb
  by_cases hp:parS f n=0
  ·rw[if_pos (by simp[hp])] at hb
   rw[ZAT hb,ep,if_pos hp,if_pos (h0:n≠1)];rfl
  rw[if_neg (by simpa using hp)] at hb
  obtain⟨p1,p2,p3⟩:=ZJz hok hp;obtain⟨m1,m2⟩:=ZDq p1;obtain⟨k1,k2⟩:=ZDq hn.1;obtain⟨d1,d2,d3,d4,d5⟩:=ZEQ (hok.al _ m1) p2;have hu1:=(hok.dir k1 hn.2).1;rw[k2] at hu1;have hu2:=ZUv n m1;have hu:((ZA7 f (parS f n)).v.2.2.2.2.2.2.2.1.filter (·==n)).length≤1:=by
   unfold upsX at hu2;rw[List.length_map] at hu2;omega
  have hin:=ZLv (ZA7 f (parS f n)) n (by omega) d2 hu p3 l (by omega) (ZA7 f (parS f n)).v.2.2.2.2.2.2.2.1.length 0 (by omega)
  rw[if_pos (Nat.zero_le _)] at hin;have hb2:ZEP f (l,n,(i:Int))=some (.inl (ZIB f (parS f n) n::l,parS f n,((i+1:Nat):Int))):=by
   refine hb.trans ((bds (ZIh hok p1)).trans ((bds hin).trans ?_))
   unfold ZEO;rw[ZLn i (by omega)];rfl
  rw[ZAc hb2,ep,if_neg hp];have he2:ZDJ f.v.1 d (parS f n)=true:=by
   have e:=ZSI hok k1 hn.2;rw[k2] at e;have epar:parS f n=(upsL f.v.1 n).headD 0:=by
    unfold parS;rw[e]
   unfold ZDJ at he
   cases hq:upsL f.v.1 n with
   | nil=>rw[hq] at epar;exact absurd epar hp
   | cons a b=>
    rw[hq] at he epar;rw[epar];exact he
  refine ZKk hs ht hok d (i+1) (parS f n) n _ (by omega) ⟨p1,p2⟩ he2 (by simp;omega) fun s hs' => ?_
  rcases List.mem_cons.1 hs' with e | hs'
  ·rw[e];exact ZIf (ZOW hok hp).2.2
  exact h2 s hs'
theorem ZTh {f:FsR} (hs:ZBh f.v.1) (ht:tgtL f.v.1) (n:Int):ZEh f n=some (ZLp f n):=by
 unfold ZEh ZLp ZGQ;rw[ZFK hs ht,ZOZ hs]
 cases hc:chkL f.v.1 f.v.2.1 with
 | false=>rw[Bool.and_false];rfl
 | true=>
  have hok:=ZDS.1 hc;rw[Bool.and_true]
  cases hd:ZIW f n with
  | false=>rfl
  | true=>
   have hd2:=ZPY hd;obtain⟨k1,k2⟩:=ZDq hd2.1;have he:=(hok.dir k1 hd2.2).2.2;rw[k2] at he;rw[if_pos rfl];exact ZKk hs ht hok (f.v.1.length+1) 0 n 0 [] (by omega) hd2 he (Nat.le_refl _) (fun s h=>by cases h)
end Go.Ai.Rab
end
section
set_option maxRecDepth 10000
open Go.Ai.Enc (enc is)
namespace Go.Ai.Rab
theorem ZSU (p:ZAU):eqPl p p=true:=by
 unfold eqPl;have:eqS p.v.2.1 p.v.2.1=true:=(ZGN _ _).2 rfl
 rw[this];simp
theorem ZTi {f:FsR} (hs:ZBh f.v.1) (ht:tgtL f.v.1) (path:List UInt8) (fol:Bool) (n dir:Int):ZFG f path fol n dir=some true:=by
 obtain⟨b,hb,_⟩:=ZQJ hs;unfold ZFG;refine(bds hb).trans ?_
 cases b with
 | false=>exact(if_pos rfl).trans (bds ZPX)
 | true=>
  refine(if_neg (by decide)).trans ((bds (ZSF hs path fol)).trans ((bds (ZTe hs ht path fol)).trans ?_))
  rw[ZVv];generalize wlkS f (spl path) fol=r
  rw[ZSU,if_pos rfl,beq_self_eq_true];refine Eq.trans (bd true _) ?_
  rw[if_pos rfl,ZNK hs,ZQO hs ht];show((some (ZGR f n dir==ZGR f n dir)).bind _)=_
  rw[beq_self_eq_true];refine Eq.trans (bd true _) ?_
  rw[if_pos rfl,ZSH hs,ZTh hs ht];show((some (eqS (ZLp f n) (ZLp f n))).bind _)=_
  have:eqS (ZLp f n) (ZLp f n)=true:=(ZGN _ _).2 rfl
  rw[this,ZPX];rfl
end Go.Ai.Rab
end
