/- My own texts DevPp6, DevPp7, DevRr0, one behind the other. -/
import Derived.Test.YtcffjblfdjkcbaaGreatDoorWAP
import Derived.KernelRfl
import Derived.Test.YtcffjblfdjkcbaaGreatDoorCards
import Derived.Test.YtcffjblfdjkcbaaGreatDoorTie
import Derived.Test.YtcffjblfdjkcbaaGreatDoorWAC
import Derived.Test.YtcffjblfdjkcbaaGreatDoorWAH
import Derived.Lib.LaidU8T
import Derived.LaidHandle
import Derived.WalkKit
import Derived.ProofKit
import Derived.OpenShut
import Derived.Deep.DeepHandedRow
import Derived.Lay
import Derived.MakeChecks
import Derived.ChangeArms
import Derived.Shelf.Vars
import Derived.ChangeSlices
set_option linter.unusedVariables false
set_option linter.unusedSimpArgs false
section
set_option maxRecDepth 10000
open Go.Ai.Enc (enc is)
namespace Go.Ai.Rab
structure Ok (l:List ZAF) (nx:Int):Prop where
 len0:0<l.length
 len:l.length≤512
 n0:(inAt l 0).v.1=1
 k0:(inAt l 0).v.2.1=2
 nx:2≤nx∧nx≤513
 al:∀x∈l,ZBp x=true
 so:ZC2 l
 kn:∀k∈ZEQ l,∃x∈l,x.v.1=k
 cn:∀x∈l,cndX l x=true
theorem ZUV {l:List ZAF} {p:ZAF→Bool}:((List.range' 0 l.length).all fun i=>p (inAt l i))=true↔∀x∈l,p x=true:=by
 rw[ZBk];constructor
 ·intro h x hx;obtain⟨i,hi,rfl⟩:=List.getElem_of_mem hx;rw[←ZBK hi];exact h i hi
 intro h i hi;exact h _ (ZAy hi)
theorem ZSI {l:List ZAF}:(List.range' 0 l.length).all (sorP l)=true↔(∀x∈l,ZBp x=true)∧ZC2 l:=by
 rw[ZBk];constructor
 ·intro h;have h1:∀i,i<l.length→ZBp (inAt l i)=true:=fun i hi=>by
   have:=h i hi
   unfold sorP at this;simp only[Bool.and_eq_true] at this;exact this.1
  have h2:∀i (hi:i+1<l.length),l[i].v.1<l[i+1].v.1:=fun i hi=>by
   have:=h (i+1) hi
   unfold sorP at this;simp only[Bool.and_eq_true,Bool.not_eq_true',Bool.and_eq_false_iff,decide_eq_false_iff_not,Nat.add_sub_cancel] at this;have h3:=this.2.resolve_left (by omega)
   rw[ZBK hi,ZBK (show i<l.length by omega)] at h3
   omega
  refine⟨fun x hx=> ?_,fun i j=> ?_⟩
  ·obtain⟨i,hi,rfl⟩:=List.getElem_of_mem hx;rw[←ZBK hi];exact h1 i hi
  induction j with
  | zero=>intro _ h;omega
  | succ j ih=>
   intro hj hij;have:=h2 j hj
   by_cases e:i=j
   ·subst e;exact this
   have:=ih (by omega) (by omega);omega
 rintro⟨h1,h2⟩ i hi;unfold sorP;rw[h1 _ (ZAy hi),Bool.true_and];by_cases h0:0<i
 ·have:=h2 (i - 1) i hi (by omega)
  rw[ZBK hi,ZBK (show i - 1<l.length by omega),decide_eq_false (show ¬l[i - 1].v.1≥l[i].v.1 by omega)]
  simp
 rw[decide_eq_false h0];rfl
theorem ZUW {l:List ZAF} {k:Int}:knB l k=true↔∃x∈l,x.v.1=k:=by
 rw[ZME];constructor
 ·rintro⟨i,hi,h⟩;exact⟨_,ZAy hi,h⟩
 rintro⟨x,hx,h⟩;obtain⟨i,hi,rfl⟩:=List.getElem_of_mem hx;exact⟨i,hi,by rw[ZBK hi];exact h⟩
theorem ZDw {l:List ZAF} {nx:Int}:chkL l nx=true↔Ok l nx:=by
 unfold chkL hdB;simp only[Bool.and_eq_true];rw[ZSI,ZUV (p:=cndX l),List.all_eq_true];simp only[decide_eq_true_eq];constructor
 ·rintro⟨⟨h1,h2,h3,h4⟩,⟨h5,h6⟩,h7,h8⟩;exact⟨by omega,h1.2,h2,h3,h4,h5,h6,fun k hk=>ZUW.1 (h7 k hk),h8⟩
 intro h;exact⟨⟨⟨by have:=h.len0;omega,h.len⟩,h.n0,h.k0,h.nx⟩,⟨h.al,h.so⟩,fun k hk=>ZUW.2 (h.kn k hk),h.cn⟩
theorem ZC3 {x:ZAF} (h:ZBp x=true) (hk:x.v.2.1=2):risB x.v.2.2.2.2.2.2.1=true∧x.v.2.2.2.2.2.2.2.1.length=x.v.2.2.2.2.2.2.1.length∧x.v.2.2.2.2.2.2.1.length≤128∧x.v.2.2.2.1=1∧x.v.2.2.2.2.2.2.2.1.all numB=true:=by
 unfold ZBp at h;simp only[Bool.and_eq_true] at h;obtain⟨_,_,_,h⟩:=h;rw[if_neg (by simp[hk])] at h
 simp only[Bool.and_eq_true,decide_eq_true_eq] at h;unfold ZHT at h;simp only[Bool.and_eq_true,decide_eq_true_eq] at h;exact⟨h.1.2.2.1,h.1.2.1,h.2.2,h.2.1,h.1.2.2.2⟩
theorem ZBW {x:ZAF} (h:ZBp x=true):x.v.2.2.2.2.1.length≤32768∧x.v.2.2.2.2.2.2.1.length≤128∧x.v.2.2.2.2.2.2.2.1.length≤128∧x.v.2.2.2.2.2.2.2.2.1.length≤8∧0≤x.v.2.2.2.1∧x.v.2.2.2.1≤64∧1≤x.v.1∧x.v.1≤1024:=by
 have h0:=h;unfold ZBp ZH5 at h;simp only[Bool.and_eq_true,decide_eq_true_eq] at h;obtain⟨⟨_,h1,_,_,h2⟩,h3,h4,h5⟩:=h;have h6:=(ZNe h2).1;have h7:x.v.2.2.2.2.1.length≤32768:=by
  simp only[Bool.or_eq_true,decide_eq_true_eq] at h3;omega
 refine⟨h7,?_,?_,h6,h1.1,h1.2,h4.1,h4.2⟩
 ·by_cases hk:x.v.2.1=2
  ·exact(ZC3 h0 hk).2.2.1
  rw[if_pos (by simpa using hk)] at h5
  have:=of_decide_eq_true h5
  omega
 by_cases hk:x.v.2.1=2
 ·have:=ZC3 h0 hk;omega
 rw[if_pos (by simpa using hk)] at h5
 have:=of_decide_eq_true h5
 omega
theorem ZIn {x:ZAF} (h:ZBp x=true):ZEh x:=by
 have:=ZBW h
 exact⟨by omega,by omega,by omega,by omega⟩
theorem Ok.small {l:List ZAF} {nx:Int} (h:Ok l nx):ZBz l:=⟨by have:=h.len;omega,fun x hx=>ZIn (h.al x hx)⟩
def ZP8 (y:ZAF) (d:Int):ZAF:=Rec.mk (y.v.1,y.v.2.1,y.v.2.2.1,y.v.2.2.2.1+d,y.v.2.2.2.2.1,y.v.2.2.2.2.2.1,y.v.2.2.2.2.2.2.1,y.v.2.2.2.2.2.2.2.1,y.v.2.2.2.2.2.2.2.2.1,())
def ZSJ (x:ZAF) (ns:List Str) (is:List Int):ZAF:=Rec.mk (x.v.1,x.v.2.1,x.v.2.2.1,x.v.2.2.2.1,x.v.2.2.2.2.1,x.v.2.2.2.2.2.1,ns,is,x.v.2.2.2.2.2.2.2.2.1,())
def putI (x:ZAF) (s:Str) (n:Int):ZAF:=ZSJ x (x.v.2.2.2.2.2.2.1.take (ptN x.v.2.2.2.2.2.2.1 s)++s::x.v.2.2.2.2.2.2.1.drop (ptN x.v.2.2.2.2.2.2.1 s)) (x.v.2.2.2.2.2.2.2.1.take (ptN x.v.2.2.2.2.2.2.1 s)++n::x.v.2.2.2.2.2.2.2.1.drop (ptN x.v.2.2.2.2.2.2.1 s))
def cutI (x:ZAF) (p:Nat):ZAF:=ZSJ x (x.v.2.2.2.2.2.2.1.take p++x.v.2.2.2.2.2.2.1.drop (p+1)) (x.v.2.2.2.2.2.2.2.1.take p++x.v.2.2.2.2.2.2.2.1.drop (p+1))
/-! ### What they ZKh -/
def dirS (f:FsR) (n:Int):ZAF×Err 111:=
 if chkL f.v.1 f.v.2.1=true then match posI f.v.1 n with
  | none=>(noI,Err.mk (some 201))
  | some i=>if((inAt f.v.1 i).v.2.1 !=2)=true then(noI,Err.mk (some 203)) else(inAt f.v.1 i,Err.mk none)
 else(noI,Err.mk (some 2))
def ZER (f:FsR) (n:Int) (s:Str):Int×Int:=match (dirS f n).2.c with
 | some e=>(0,e)
 | none=>if hasN (dirS f n).1.v.2.2.2.2.2.2.1 s=true then((dirS f n).1.v.2.2.2.2.2.2.2.1.getD (ptN (dirS f n).1.v.2.2.2.2.2.2.1 s) 0,0) else(0,201)
def numF (l:List ZAF) (k:Int):Int:=l.foldl (fun k y=>if y.v.1=k then k+1 else k) k
def newI (k kind mode:Int) (t:Str):ZAF:=Rec.mk (k,kind,mode,if kind=2 then 1 else 0,[],t,[],[],[],())
def ZH6 (f:FsR) (kind mode:Int) (t:Str):FsR×Int×Int:=
 if chkL f.v.1 f.v.2.1=true then if f.v.1.length=512 then(f,0,211) else
  if ZBp (newI (numF f.v.1 f.v.2.1) kind mode t)=true then(Rec.mk (ZBB f.v.1 (newI (numF f.v.1 f.v.2.1) kind mode t),f.v.2.1,()),numF f.v.1 f.v.2.1,0) else(f,0,2)
 else(f,0,2)
def entL (l:List ZAF) (x y:ZAF) (s:Str) (n:Int):List ZAF:=if(y.v.2.1 !=2)=true then ZBB (ZBB l (putI x s n)) (ZP8 y 1) else ZBB l (putI x s n)
def entS (f:FsR) (d:Int) (s:Str) (n:Int):FsR×Int:=match (dirS f d).2.c with
 | some e=>(f,e)
 | none=>if chkS s≠0 then(f,chkS s) else if hasN (dirS f d).1.v.2.2.2.2.2.2.1 s=true then(f,202) else match posI f.v.1 n with
  | none=>(f,201)
  | some i=>if(inAt f.v.1 i).v.2.1≠2∧(inAt f.v.1 i).v.2.2.2.1=64 then(f,210) else if(dirS f d).1.v.2.2.2.2.2.2.1.length=128 then(f,211) else
   if chkL (entL f.v.1 (dirS f d).1 (inAt f.v.1 i) s n) f.v.2.1=true then(Rec.mk (entL f.v.1 (dirS f d).1 (inAt f.v.1 i) s n,f.v.2.1,()),0) else(f,2)
def leaL (l:List ZAF) (x y:ZAF) (s:Str):List ZAF:=if(y.v.2.1 !=2)=true then ZBB (ZBB l (cutI x (ptN x.v.2.2.2.2.2.2.1 s))) (ZP8 y (-1)) else ZBB l (cutI x (ptN x.v.2.2.2.2.2.2.1 s))
def leaS (f:FsR) (d:Int) (s:Str):FsR×Int×Int:=if(ZER f d s).2≠0 then(f,0,(ZER f d s).2) else
 (Rec.mk (leaL f.v.1 (inAt f.v.1 ((posI f.v.1 d).getD 0)) (inAt f.v.1 ((posI f.v.1 (ZER f d s).1).getD 0)) s,f.v.2.1,()),(ZER f d s).1,0)
def droS (f:FsR) (n:Int):FsR×Int:=
 if chkL f.v.1 f.v.2.1=true then match posI f.v.1 n with
  | none=>(f,201)
  | some i=>if n=1∨0<(inAt f.v.1 i).v.2.2.2.2.2.2.1.length∨0<(upsL f.v.1 n).length then(f,215) else(Rec.mk (f.v.1.take i++f.v.1.drop (i+1),f.v.2.1,()),0)
 else(f,2)
theorem ZUX {f:FsR} (hs:ZBz f.v.1) (n:Int):ZA3 f n=some (dirS f n):=by
 refine(bds (ZJz (by have:=hs.1;omega) n)).trans ((bds (ZGV hs)).trans ?_)
 unfold dirS
 cases chkL f.v.1 f.v.2.1 with
 | false=>rfl
 | true=>
  rw[if_neg (by decide),if_pos rfl]
  unfold fndI
  cases hp:posI f.v.1 n with
  | none=>rfl
  | some i=>
   obtain⟨h1,h2⟩:=ZBl hp;show(if decide ((i:Int)<0)=true then _ else _)=_
   rw[if_neg (by simp)]
   refine(bds (ZC0 h1)).trans ?_
   show _=some (if((inAt f.v.1 i).v.2.1 !=2)=true then _ else _)
   by_cases hk:((inAt f.v.1 i).v.2.1 !=2)=true
   ·rw[if_pos hk,if_pos hk];rfl
   rw[if_neg hk,if_neg hk];exact(bds (ZC0 h1))
theorem ZGW {f:FsR} {n:Int} (h:(dirS f n).2.c=none):Ok f.v.1 f.v.2.1∧∃i,posI f.v.1 n=some i∧i<f.v.1.length∧(inAt f.v.1 i).v.1=n∧(inAt f.v.1 i).v.2.1=2∧(dirS f n).1=inAt f.v.1 i:=by
 unfold dirS at h ⊢
 cases hc:chkL f.v.1 f.v.2.1 with
 | false=>rw[hc] at h;simp at h
 | true=>
  rw[hc,if_pos rfl] at h;rw[if_pos rfl];refine⟨ZDw.1 hc,?_⟩
  cases hp:posI f.v.1 n with
  | none=>rw[hp] at h;simp at h
  | some i=>
   rw[hp] at h;obtain⟨h1,h2⟩:=ZBl hp;simp only at h ⊢
   by_cases hk:((inAt f.v.1 i).v.2.1 !=2)=true
   ·rw[if_pos hk] at h;simp at h
   rw[if_neg hk];exact⟨i,rfl,h1,h2,by simpa using hk,rfl⟩
theorem ZJ5 {f:FsR} (hs:ZBz f.v.1) (n:Int) (s:Str):ZBM f n s=some (ZER f n s):=by
 refine(bds (ZUX hs n)).trans ?_
 unfold ZER
 cases he:(dirS f n).2.c with
 | some e=>
  refine(if_pos rfl).trans ?_
  show((ZBU (dirS f n).2).bind fun r_1=>some ((0:Int),r_1))=_
  unfold ZBU;rw[he];rfl
 | none=>
  refine(if_neg (by decide)).trans ?_
  obtain⟨hok,i,p1,p2,p3,p4,p5⟩:=ZGW he;rw[p5];have hal:=hok.al _ (ZAy p2);obtain⟨d1,d2,d3,d4,d5⟩:=ZC3 hal p4;refine(bds (ZSF d1 (by omega) s)).trans ?_
  show(if(!(hasN (inAt f.v.1 i).v.2.2.2.2.2.2.1 s))=true then _ else _)=_
  cases hh:hasN (inAt f.v.1 i).v.2.2.2.2.2.2.1 s with
  | false=>rfl
  | true=>
   rw[if_neg (by decide)]
   have:ptN (inAt f.v.1 i).v.2.2.2.2.2.2.1 s<(inAt f.v.1 i).v.2.2.2.2.2.2.2.1.length:=by
    unfold hasN at hh;simp only[Bool.and_eq_true,decide_eq_true_eq] at hh;omega
   exact(bds (nthD 0 this))
theorem Ok.nums {l:List ZAF} {nx:Int} (h:Ok l nx):∀x∈l,x.v.2.2.2.2.2.2.2.1.length≤200:=fun x hx=>by have:=ZBW (h.al x hx);omega
theorem ZHU:∀(l:List ZAF) (k:Int),k≤numF l k∧numF l k≤k+l.length
 | [],k=>by simp[numF]
 | y::l,k=>by
  have h1:=ZHU l k;have h2:=ZHU l (k+1);unfold numF at h1 h2 ⊢;rw[List.foldl_cons];simp only[List.length_cons];split<;> omega
theorem ZSK {f:FsR} (hs:ZBz f.v.1) (kind mode:Int) (t:Str):ZCP f kind mode t=some (ZH6 f kind mode t):=by
 refine(bds (ZGV hs)).trans ?_
 unfold ZH6
 cases hc:chkL f.v.1 f.v.2.1 with
 | false=>rfl
 | true=>
  rw[if_neg (by decide),if_pos rfl]
  have hok:=ZDw.1 hc;by_cases h5:f.v.1.length=512
  ·rw[if_pos (by simp[h5]),if_pos h5]
  rw[if_neg (by simp;omega),if_neg h5]
  obtain⟨x1,g1,g2⟩:=ZCY (body:=ZFh f) f.v.1.length (fun i x=>x=(Rec.mk (numF (f.v.1.take i) f.v.2.1,kind,mode,(0:Int),([]:List UInt8),t,([]:List Str),([]:List Int),([]:List ZAd),()):ZAF)) (fun x=>x=(Rec.mk (numF f.v.1 f.v.2.1,kind,mode,(0:Int),([]:List UInt8),t,([]:List Str),([]:List Int),([]:List ZAd),()):ZAF)) (fun i x hi hx=>by
    subst hx;have hb:=ZHU (f.v.1.take i) f.v.2.1;have hn:=hok.nx;have hl:=hok.len;rw[List.length_take] at hb;refine⟨_,?_,rfl⟩
    refine(if_pos (decide_eq_true (show(i:Int)<(f.v.1.length:Int) by omega))).trans ?_
    refine(bds (ZBQ hi)).trans ?_
    have ht:f.v.1.take (i+1)=f.v.1.take i++[f.v.1[i]]:=by rw[List.take_add_one,List.getElem?_eq_getElem hi];rfl
    have hf:numF (f.v.1.take (i+1)) f.v.2.1=if f.v.1[i].v.1=numF (f.v.1.take i) f.v.2.1 then numF (f.v.1.take i) f.v.2.1+1 else numF (f.v.1.take i) f.v.2.1:=by
     rw[ht];unfold numF;rw[List.foldl_append];rfl
    rw[hf];have hw:IntKind.i64.wrap (numF (f.v.1.take i) f.v.2.1+1)=numF (f.v.1.take i) f.v.2.1+1:=i64w (by omega)
    unfold ZCy;rw[lim (by omega)]
    by_cases e:f.v.1[i].v.1=numF (f.v.1.take i) f.v.2.1
    ·refine(if_pos (by simpa using e)).trans ?_
     rw[if_pos e];show some (Sum.inl ((Rec.mk (IntKind.i64.wrap (numF (f.v.1.take i) f.v.2.1+1),_):ZAF),_))=_
     rw[hw]
    ·refine(if_neg (by simpa using e)).trans ?_
     rw[if_neg e]) (fun x hx=>by
    rw[List.take_length] at hx;exact⟨x,if_neg (by simp),hx⟩) 0 (Rec.mk (f.v.2.1,kind,mode,(0:Int),([]:List UInt8),t,([]:List Str),([]:List Int),([]:List ZAd),()):ZAF) (by omega) (by simp[numF])
  refine(bds g1).trans ?_
  subst g2;have fin:∀x:ZAF,x=newI (numF f.v.1 f.v.2.1) kind mode t→ZCz f x=some (if ZBp (newI (numF f.v.1 f.v.2.1) kind mode t)=true then(Rec.mk (ZBB f.v.1 (newI (numF f.v.1 f.v.2.1) kind mode t),f.v.2.1,()),numF f.v.1 f.v.2.1,0) else(f,0,2)):=fun x hx=>by
   subst hx;have hsm:ZEh (newI (numF f.v.1 f.v.2.1) kind mode t):=⟨Nat.zero_le _,Nat.zero_le _,Nat.zero_le _,Nat.zero_le _⟩
   refine(bds (ZPM hsm)).trans ?_
   cases ha:ZBp (newI (numF f.v.1 f.v.2.1) kind mode t) with
   | false=>rfl
   | true=>
    rw[if_neg (by decide),if_pos rfl]
    exact(bds (ZI2 hok.so (by have:=hok.len;omega) _)).trans rfl
  show(if(kind==2)=true then _ else _)=_
  by_cases hk:kind=2
  ·rw[if_pos (by simp[hk])]
   exact fin _ (by unfold newI;rw[if_pos hk])
  rw[if_neg (by simpa using hk)]
  exact fin _ (by unfold newI;rw[if_neg hk])
theorem ZNi (l:List Str) (h:l.length≤2000000):ZFB l=some l:=by
 unfold ZFB;refine(bds (ZFH ([]:List Str) l (by simp only[List.length_nil];omega) (by simp only[List.length_nil];omega))).trans ?_
 rw[List.nil_append]
theorem ZNj (l:List Int) (h:l.length≤2000000):ZFC l=some l:=by
 unfold ZFC;refine(bds (ZFH ([]:List Int) l (by simp only[List.length_nil];omega) (by simp only[List.length_nil];omega))).trans ?_
 rw[List.nil_append]
theorem ZV4 {x:ZAF} (h:ZBp x=true) (hk:x.v.2.1=2) (s:Str) (n:Int):ZEN x s n=some (putI x s n):=by
 obtain⟨d1,d2,d3,d4,d5⟩:=ZC3 h hk;have hp:ptN x.v.2.2.2.2.2.2.1 s≤x.v.2.2.2.2.2.2.1.length:=ZIv _ _
 refine(bds (ZSF d1 (by omega) s)).trans ?_
 refine(bds (ZNi _ (by omega))).trans ?_
 refine(bds (ZSH _ _ [s] hp (by simp only[List.length_singleton];omega) (by simp only[List.length_singleton];omega))).trans ?_
 refine(bds (ZNj _ (by omega))).trans ?_
 refine(bds (ZSH _ _ [n] (by omega) (by simp only[List.length_singleton];omega) (by simp only[List.length_singleton];omega))).trans ?_
 unfold putI ZSJ;rw[List.append_assoc,List.append_assoc];rfl
theorem ZP9 {x:ZAF} (h:ZBp x=true) (s:Str) (n:Int):ZEh (putI x s n):=by
 have:=ZBW h
 refine⟨?_,?_,?_,?_⟩
 ·show x.v.2.2.2.2.1.length≤_;omega
 ·show(x.v.2.2.2.2.2.2.1.take _++s::x.v.2.2.2.2.2.2.1.drop _).length≤_
  simp only[List.length_append,List.length_take,List.length_cons,List.length_drop];omega
 ·show(x.v.2.2.2.2.2.2.2.1.take _++n::x.v.2.2.2.2.2.2.2.1.drop _).length≤_
  simp only[List.length_append,List.length_take,List.length_cons,List.length_drop];omega
 show x.v.2.2.2.2.2.2.2.2.1.length≤_;omega
theorem ZOk {x:ZAF} (h:ZEh x) (d:Int):ZEh (ZP8 x d):=h
theorem ZEi (l:List ZAF) (x:ZAF):(ZBB l x).length≤l.length+1:=by rw[ZNh];split<;> omega
theorem ZKx {l:List ZAF} {nx:Int} (hok:Ok l nx) {x y:ZAF} (hx:x∈l) (hy:y∈l) (s:Str) (n:Int):ZBz (entL l x y s n):=by
 have h1:∀z∈ZBB l (putI x s n),ZEh z:=ZJ2 hok.small.2 (ZP9 (hok.al x hx) s n)
 have h2:=ZEi l (putI x s n);have h3:=hok.len;unfold entL;split
 ·exact⟨by have:=ZEi (ZBB l (putI x s n)) (ZP8 y 1);omega,ZJ2 h1 (ZOk (ZIn (hok.al y hy)) 1)⟩
 exact⟨by omega,h1⟩
theorem ZMH {f:FsR} (hs:ZBz f.v.1) (d:Int) (s:Str) (n:Int):ZBV f d s n=some (entS f d s n):=by
 have key:∃e:Err 111,ZCF f d s n=some ((entS f d s n).1,e)∧e.c.getD 0=(entS f d s n).2:=by
  have e0:ZCF f d s n=_:=bds (ZUX hs d)
  unfold entS
  cases he:(dirS f d).2.c with
  | some e=>
   have e0:=e0.trans (if_pos (by rw[he];rfl))
   exact⟨_,e0,by rw[he];rfl⟩
  | none=>
   have e0:=e0.trans (if_neg (by rw[he];decide))
   have e0:=e0.trans (bds (ZPJ s));obtain⟨hok,j,p1,p2,p3,p4,p5⟩:=ZGW he;by_cases hc:chkS s=0
   ·have e0:=e0.trans (if_neg (by simp[hc]))
    have e0:=e0.trans (bds (ZJz (by have:=hs.1;omega) n))
    have hal:ZBp (dirS f d).1=true:=by rw[p5];exact hok.al _ (ZAy p2)
    have hk:(dirS f d).1.v.2.1=2:=by rw[p5];exact p4
    have hmem:(dirS f d).1∈f.v.1:=by rw[p5];exact ZAy p2
    generalize (dirS f d).1=x at*
    obtain⟨d1,d2,d3,d4,d5⟩:=ZC3 hal hk;have e0:=e0.trans (bds (ZMG d1 (by omega) s))
    simp only[ne_eq,hc,not_true_eq_false,if_false]
    cases hh:hasN x.v.2.2.2.2.2.2.1 s with
    | true=>
     rw[hh] at e0;exact⟨_,e0.trans (if_pos rfl),rfl⟩
    | false=>
     rw[hh] at e0;have e0:=e0.trans (if_neg (by decide))
     simp only[Bool.false_eq_true,if_false];unfold fndI at e0
     cases hp:posI f.v.1 n with
     | none=>
      rw[hp] at e0;exact⟨_,e0.trans (if_pos (by decide)),rfl⟩
     | some i=>
      rw[hp] at e0;obtain⟨q1,q2⟩:=ZBl hp;have e0:=e0.trans ((if_neg (by simp)).trans (bds (ZC0 q1)))
      simp only
      have hyal:=hok.al _ (ZAy q1);have hym:=ZAy q1;generalize inAt f.v.1 i=y at*
      have e0:=e0.trans (bds (x:=decide (y.v.2.1≠2∧y.v.2.2.2.1=64)) (by
       by_cases hk2:y.v.2.1=2
       ·rw[if_neg (by simp[hk2]),decide_eq_false (by simp[hk2])]
       rw[if_pos (by simpa using hk2)];congr 1;rw[Bool.eq_iff_iff];simp[hk2]))
      by_cases h210:y.v.2.1≠2∧y.v.2.2.2.1=64
      ·rw[decide_eq_true h210] at e0;rw[if_pos h210];exact⟨_,e0.trans (if_pos rfl),rfl⟩
      rw[decide_eq_false h210] at e0;have e0:=e0.trans (if_neg (by decide))
      rw[if_neg h210];by_cases h128:x.v.2.2.2.2.2.2.1.length=128
      ·rw[if_pos h128];exact⟨_,e0.trans (if_pos (by simp[h128])),rfl⟩
      rw[if_neg h128];have e0:=e0.trans ((if_neg (by simp;omega)).trans (bds (ZV4 hal hk s n)))
      have e0:=e0.trans (bds (ZI2 hok.so (by have:=hok.len;omega) _))
      have hsm:=ZKx hok hmem hym s n;have fin:∀out:FsR,out=Rec.mk (entL f.v.1 x y s n,f.v.2.1,())→∃e:Err 111,ZB3 f out=some ((if chkL (entL f.v.1 x y s n) f.v.2.1=true then(Rec.mk (entL f.v.1 x y s n,f.v.2.1,()),(0:Int)) else(f,2)).1,e)∧e.c.getD 0=(if chkL (entL f.v.1 x y s n) f.v.2.1=true then((Rec.mk (entL f.v.1 x y s n,f.v.2.1,()):FsR),(0:Int)) else(f,2)).2:=fun out ho=>by
       subst ho;have g0:ZB3 f (Rec.mk (entL f.v.1 x y s n,f.v.2.1,()))=_:=bds (ZGV hsm)
       cases hcc:chkL (entL f.v.1 x y s n) f.v.2.1 with
       | false=>
        have g0:=g0.trans (if_pos (by show(!chkL (entL f.v.1 x y s n) f.v.2.1)=true;rw[hcc];rfl))
        exact⟨_,g0,rfl⟩
       | true=>
        have g0:=g0.trans (if_neg (by show ¬(!chkL (entL f.v.1 x y s n) f.v.2.1)=true;rw[hcc];decide))
        exact⟨_,g0,rfl⟩
      by_cases hk2:y.v.2.1=2
      ·have e0:=e0.trans (if_neg (by simp[hk2]))
       obtain⟨e,f1,f2⟩:=fin (Rec.mk (ZBB f.v.1 (putI x s n),f.v.2.1,())) (by unfold entL;rw[if_neg (by simp[hk2])])
       exact⟨e,e0.trans f1,f2⟩
      have e0:=e0.trans (if_pos (by simpa using hk2))
      have hla:=ZBW hyal;have hw:IntKind.i64.wrap (y.v.2.2.2.1+1)=y.v.2.2.2.1+1:=i64w (by omega)
      have hl2:=ZEi f.v.1 (putI x s n);have e0:=e0.trans (bds (ZI2 (f:=Rec.mk (ZBB f.v.1 (putI x s n),f.v.2.1,())) (ZDf hok.so _) (by have:=hok.len;show(ZBB f.v.1 (putI x s n)).length≤1000;omega) _))
      obtain⟨e,f1,f2⟩:=fin (Rec.mk (ZBB (ZBB f.v.1 (putI x s n)) (ZP8 y 1),f.v.2.1,())) (by unfold entL;rw[if_pos (by simpa using hk2)])
      refine⟨e,e0.trans (Eq.trans ?_ f1),f2⟩
      rw[hw];rfl
   have e0:=e0.trans (if_pos (by simpa using hc))
   rw[if_pos hc];exact⟨_,e0,rfl⟩
 obtain⟨e,h1,h2⟩:=key;refine(bds h1).trans ?_
 show((ZBU e).bind fun r_1=>some ((entS f d s n).1,r_1))=_
 unfold ZBU;rw[h2];rfl
theorem ZSL {α:Type} (l:List α) (i:Nat) (hi:i<l.length) (hl:l.length≤2000000):del l (i:Int) (IntKind.i64.wrap ((i:Int)+1))=some (l.take i++l.drop (i+1)):=by
 rw[lim (by omega)]
 unfold del;rw[if_pos ⟨by omega,by omega,by omega,by omega⟩];rfl
theorem ZVA {f:FsR} {d:Int} {s:Str} (h:(ZER f d s).2=0):Ok f.v.1 f.v.2.1∧∃i,posI f.v.1 d=some i∧i<f.v.1.length∧(inAt f.v.1 i).v.1=d∧(inAt f.v.1 i).v.2.1=2∧hasN (inAt f.v.1 i).v.2.2.2.2.2.2.1 s=true∧(ZER f d s).1=(inAt f.v.1 i).v.2.2.2.2.2.2.2.1.getD (ptN (inAt f.v.1 i).v.2.2.2.2.2.2.1 s) 0∧
  ptN (inAt f.v.1 i).v.2.2.2.2.2.2.1 s<(inAt f.v.1 i).v.2.2.2.2.2.2.1.length∧(inAt f.v.1 i).v.2.2.2.2.2.2.2.1.length=(inAt f.v.1 i).v.2.2.2.2.2.2.1.length∧∃k,posI f.v.1 (ZER f d s).1=some k∧k<f.v.1.length∧(inAt f.v.1 k).v.1=(ZER f d s).1:=by
 unfold ZER at h ⊢
 cases he:(dirS f d).2.c with
 | some e=>
  rw[he] at h;exfalso
  have h:e=0:=h
  subst h;unfold dirS at he;split at he
  ·split at he
   ·simp at he
   split at he<;> simp at he
  simp at he
 | none=>
  obtain⟨hok,i,p1,p2,p3,p4,p5⟩:=ZGW he;rw[he] at h;simp only[p5] at h ⊢
  cases hh:hasN (inAt f.v.1 i).v.2.2.2.2.2.2.1 s with
  | false=>rw[hh] at h;simp at h
  | true=>
   obtain⟨d1,d2,d3,d4,d5⟩:=ZC3 (hok.al _ (ZAy p2)) p4;have hlt:ptN (inAt f.v.1 i).v.2.2.2.2.2.2.1 s<(inAt f.v.1 i).v.2.2.2.2.2.2.1.length:=by
    unfold hasN at hh;simp only[Bool.and_eq_true,decide_eq_true_eq] at hh;exact hh.1
   refine⟨hok,i,p1,p2,p3,p4,hh,rfl,hlt,d2,?_⟩
   simp only[if_true];have hm:(inAt f.v.1 i).v.2.2.2.2.2.2.2.1.getD (ptN (inAt f.v.1 i).v.2.2.2.2.2.2.1 s) 0∈ZEQ f.v.1:=by
    unfold ZEQ;rw[List.mem_flatMap];refine⟨_,ZAy p2,?_⟩
    rw[List.getD_eq_getElem?_getD,List.getElem?_eq_getElem (by omega),Option.getD_some]
    exact List.getElem_mem _
   obtain⟨x,x1,x2⟩:=hok.kn _ hm
   cases hp:posI f.v.1 ((inAt f.v.1 i).v.2.2.2.2.2.2.2.1.getD (ptN (inAt f.v.1 i).v.2.2.2.2.2.2.1 s) 0) with
   | none=>
    exfalso
    obtain⟨k,hk,rfl⟩:=List.getElem_of_mem x1;exact ZJ0 hp k hk (by rw[ZBK hk];exact x2)
   | some k=>exact⟨k,rfl,(ZBl hp).1,(ZBl hp).2⟩
theorem ZTO {f:FsR} (hs:ZBz f.v.1) (d:Int) (s:Str):ZCG f d s=some (leaS f d s):=by
 have e0:ZCG f d s=_:=bds (ZJ5 hs d s)
 unfold leaS;by_cases hc:(ZER f d s).2=0
 ·have e0:=e0.trans (if_neg (by simp[hc]))
  rw[if_neg (by simp[hc])]
  obtain⟨hok,i,p1,p2,p3,p4,p5,p6,p7,p8,k,q1,q2,q3⟩:=ZVA hc;have e0:=e0.trans (bds (ZJz (by have:=hs.1;omega) d))
  have f1:fndI f.v.1 d=(i:Int):=by unfold fndI;rw[p1]
  have f2:fndI f.v.1 (ZER f d s).1=(k:Int):=by unfold fndI;rw[q1]
  rw[f1] at e0;have e0:=e0.trans ((bds (ZC0 p2)).trans (bds (ZJz (by have:=hs.1;omega) _)))
  rw[f2] at e0;have e0:=e0.trans (bds (ZC0 q2));rw[p1,q1,Option.getD_some,Option.getD_some];have hal:=hok.al _ (ZAy p2);have hyal:=hok.al _ (ZAy q2);generalize inAt f.v.1 i=x at*
  generalize inAt f.v.1 k=y at*
  obtain⟨d1,d2,d3,d4,d5⟩:=ZC3 hal p4;have e0:=e0.trans ((bds (ZSF d1 (by omega) s)).trans (bds (ZNi _ (by omega))))
  have e0:=e0.trans ((bds (ZSL _ _ p7 (by omega))).trans ((bds (ZNj _ (by omega))).trans (bds (ZSL _ _ (by omega) (by omega)))))
  have hl:=hok.len;by_cases hk2:y.v.2.1=2
  ·have e0:=e0.trans ((if_neg (by simp[hk2])).trans (bds (ZI2 hok.so (by omega) _)))
   refine e0.trans ?_
   unfold leaL;rw[if_neg (by simp[hk2])];rfl
  have e0:=e0.trans ((if_pos (by simpa using hk2)).trans (bds (ZTN hok.so (by omega) _ _)))
  refine e0.trans ?_
  have hla:=ZBW hyal;have hw:IntKind.i64.wrap (y.v.2.2.2.1 - 1)=y.v.2.2.2.1+ -1:=by rw[i64w (by omega)];rfl
  rw[hw];unfold leaL;rw[if_pos (by simpa using hk2)];rfl
 exact(e0.trans (if_pos (by simpa using hc))).trans (by rw[if_pos hc])
theorem ZSM {f:FsR} (hs:ZBz f.v.1) (n:Int):ZB4 f n=some (droS f n):=by
 have e0:ZB4 f n=_:=(bds (ZJz (by have:=hs.1;omega) n)).trans (bds (ZGV hs))
 unfold droS
 cases hc:chkL f.v.1 f.v.2.1 with
 | false=>rw[hc] at e0;exact e0
 | true=>
  rw[hc] at e0;have e0:=e0.trans (if_neg (by decide))
  have hok:=ZDw.1 hc;rw[if_pos rfl];unfold fndI at e0
  cases hp:posI f.v.1 n with
  | none=>rw[hp] at e0;exact e0.trans (if_pos (by decide))
  | some i=>
   rw[hp] at e0;obtain⟨q1,q2⟩:=ZBl hp;have e0:=e0.trans (if_neg (by simp))
   simp only
   obtain⟨m,m1,m2,m3⟩:=ZPP hok.len hok.nums;have e0:=e0.trans (bds (x:=decide (n=1) || decide (0<(inAt f.v.1 i).v.2.2.2.2.2.2.1.length)) (by
    by_cases h1:n=1
    ·rw[if_pos (by simp[h1]),decide_eq_true h1];rfl
    rw[if_neg (by simpa using h1),decide_eq_false h1,Bool.false_or]
    refine(bds (ZC0 q1)).trans ?_
    congr 1;rw[decide_eq_decide];omega))
   have e0:=e0.trans (bds (x:=decide (n=1∨0<(inAt f.v.1 i).v.2.2.2.2.2.2.1.length∨0<(upsL f.v.1 n).length)) (by
    by_cases h1:n=1∨0<(inAt f.v.1 i).v.2.2.2.2.2.2.1.length
    ·have:(decide (n=1) || decide (0<(inAt f.v.1 i).v.2.2.2.2.2.2.1.length))=true:=by simpa using h1
     rw[this,if_pos rfl,decide_eq_true (by rcases h1 with h1 | h1;exact .inl h1;exact .inr (.inl h1))]
    have:(decide (n=1) || decide (0<(inAt f.v.1 i).v.2.2.2.2.2.2.1.length))=false:=by
     rw[Bool.or_eq_false_iff];exact⟨decide_eq_false fun e=>h1 (.inl e),decide_eq_false fun e=>h1 (.inr e)⟩
    rw[this,if_neg (by decide)]
    refine(bds m1).trans ?_
    rw[m2];congr 1;rw[decide_eq_decide];constructor
    ·intro h;exact .inr (.inr (by omega))
    rintro(h | h | h)
    ·exact absurd (.inl h) h1
    ·exact absurd (.inr h) h1
    omega))
   by_cases hb:n=1∨0<(inAt f.v.1 i).v.2.2.2.2.2.2.1.length∨0<(upsL f.v.1 n).length
   ·rw[decide_eq_true hb] at e0;rw[if_pos hb];exact e0.trans (if_pos rfl)
   rw[decide_eq_false hb] at e0;rw[if_neg hb];have hl:=hok.len;have e0:=e0.trans ((if_neg (by decide)).trans (bds (ZJ4 _ (by omega))))
   exact e0.trans (bds (ZSL _ _ q1 (by omega)))
end Go.Ai.Rab
end
section
set_option maxRecDepth 10000
open Go.Ai.Enc (enc is)
namespace Go.Ai.Rab
/-! ### Small -/
theorem ZQA {f:FsR} (hs:ZBz f.v.1):∃b,ZDX f=some b∧(b=true→f.v.1.length≤60):=by
 unfold ZDX;by_cases h:f.v.1.length≤60
 ·rw[if_neg (by simp;omega)]
  obtain⟨r,h1,h2⟩:=ZPK (body:=ZEX f) (fun a=>0≤a.1∧a.1≤2060000∧0≤a.2∧a.2≤f.v.1.length) (fun _=>True) (fun a=>(f.v.1.length - a.2).toNat) (fun a hI=>by
   obtain⟨n,i⟩:=a;obtain⟨g1,g2,g3,g4⟩:=hI;simp only at g1 g2 g3 g4
   have e0:ZEX f (n,i)=_:=bds (x:=decide (i<(f.v.1.length:Int)) && decide (n≤50000)) (by
    cases decide (i<(f.v.1.length:Int))<;> rfl)
   cases hb:decide (i<(f.v.1.length:Int)) && decide (n≤50000) with
   | false=>
    rw[hb] at e0;exact .inr ⟨n,e0.trans (if_neg (by decide)),trivial⟩
   | true=>
    rw[hb] at e0;simp only[Bool.and_eq_true,decide_eq_true_eq] at hb;have e0:=e0.trans (if_pos rfl);obtain⟨k,rfl⟩:∃k:Nat,i=k:=⟨i.toNat,by omega⟩
    have hk:k<f.v.1.length:=by omega
    have e0:=e0.trans (bds (ZC0 hk));have hd:=(hs.2 _ (ZAy hk)).1;rw[lim (by omega),i64w (by omega)] at e0
    refine .inl ⟨_,e0,⟨?_,?_,?_,?_⟩,?_⟩
    ·simp only;omega
    ·simp only;omega
    ·simp only;omega
    ·simp only;omega
    simp only;omega) _ (0,0) (Nat.le_refl _) ⟨by simp,by simp,by simp,by simp⟩
  exact⟨_,(bds h1).trans rfl,fun _=>h⟩
 rw[if_pos (decide_eq_true (by omega))]
 exact⟨false,rfl,fun e=>by cases e⟩
/-! ### Same -/
theorem ZMI (a:List UInt8):(!eqS a a)=false:=by rw[(ZFi a a).2 rfl];rfl
theorem ZJ6 (a:Str):(!eqS a a)=false:=ZMI a
theorem ZQB {a:List ZAd} (h:a.length≤2000000):ZDb a a=some true:=by
 unfold ZDb;rw[if_neg (by simp)]
 have h1:=ZCb (body:=ZGC a a) a.length (fun _=>true) false (fun i hi=>by
  refine(if_pos (decide_eq_true (show(i:Int)<(a.length:Int) by omega))).trans ?_
  refine(bds (ZBQ hi)).trans ((bds (ZBQ hi)).trans ?_)
  rw[ZJ6];refine(bds (x:=false) ?_).trans ?_
  ·rw[if_neg (by decide)]
   refine(bds (ZBQ hi)).trans ((bds (ZBQ hi)).trans ?_)
   congr 1;exact ZMI _
  rw[lim (by omega)];rfl) (if_neg (by simp)) 0 (Nat.zero_le _)
 have:(List.range' 0 (a.length - 0)).all (fun _=>true)=true:=by simp
 rw[this] at h1;exact(bds h1).trans rfl
theorem ZQC {x:ZAF} (h:ZEh x):ZDc x x=some true:=by
 obtain⟨h1,h2,h3,h4⟩:=h;obtain⟨⟨num,k,m,n,d,t,ns,is,at_,u⟩⟩:=x;simp only at h1 h2 h3 h4
 have b1:∀c:Int,(c !=c)=false:=fun c=>by simp
 unfold ZDc;simp only[b1,if_neg Bool.false_ne_true,bd,ZMI,ZJ6,ZQB h4,Bool.false_eq_true,if_false,Option.bind_some,Bool.not_true];have g1:=ZCb (body:=ZGE (Rec.mk (num,k,m,n,d,t,ns,is,at_,u)) (Rec.mk (num,k,m,n,d,t,ns,is,at_,u))) ns.length (fun _=>true) false (fun i hi=>by
  refine(if_pos (decide_eq_true (show(i:Int)<(ns.length:Int) by omega))).trans ?_
  refine(bds (nthN hi)).trans ((bds (nthN hi)).trans ?_)
  rw[ZJ6,lim (by omega)];rfl) (if_neg (by simp)) 0 (Nat.zero_le _)
 have g2:=ZCb (body:=ZGF (Rec.mk (num,k,m,n,d,t,ns,is,at_,u)) (Rec.mk (num,k,m,n,d,t,ns,is,at_,u))) is.length (fun _=>true) false (fun i hi=>by
  refine(if_pos (decide_eq_true (show(i:Int)<(is.length:Int) by omega))).trans ?_
  refine(bds (nthD 0 hi)).trans ((bds (nthD 0 hi)).trans ?_)
  rw[b1,lim (by omega)];rfl) (if_neg (by simp)) 0 (Nat.zero_le _)
 have e1:(List.range' 0 (ns.length - 0)).all (fun _=>true)=true:=by simp
 have e2:(List.range' 0 (is.length - 0)).all (fun _=>true)=true:=by simp
 rw[e1] at g1;rw[e2] at g2;refine(bds g1).trans ?_
 exact(bds g2).trans rfl
theorem ZNk {f:FsR} (hs:ZBz f.v.1):ZDO f f=some true:=by
 have b1:∀c:Int,(c !=c)=false:=fun c=>by simp
 unfold ZDO;simp only[b1,Bool.false_eq_true,if_false,Option.bind_some];have g1:=ZCb (body:=ZHK f f) f.v.1.length (fun _=>true) false (fun i hi=>by
  refine(if_pos (decide_eq_true (show(i:Int)<(f.v.1.length:Int) by omega))).trans ?_
  refine(bds (ZC0 hi)).trans ((bds (ZC0 hi)).trans ((bds (ZQC (hs.2 _ (ZAy hi)))).trans ?_))
  have:=hs.1
  rw[lim (by omega)];rfl) (if_neg (by simp)) 0 (Nat.zero_le _)
 have e1:(List.range' 0 (f.v.1.length - 0)).all (fun _=>true)=true:=by simp
 rw[e1] at g1;exact(bds g1).trans rfl
/-! ### What must come at any rate -/
theorem ZDg {f:FsR} (h:chkL f.v.1 f.v.2.1=true):ZBz f.v.1:=(ZDw.1 h).small
def F0:FsR:=Rec.mk ([Rec.mk (1,2,0,1,[],str [],[],[],[],())],2,())
def F1:FsR:=Rec.mk ([Rec.mk (1,2,0,1,[],str [],[],[],[],()),Rec.mk (2,1,420,0,[],str [],[],[],[],())],2,())
def F2:FsR:=Rec.mk ([Rec.mk (1,2,0,1,[],str [],[str [97]],[2],[],()),Rec.mk (2,1,420,1,[],str [],[],[],[],())],2,())
def F3:FsR:=Rec.mk ([Rec.mk (1,2,0,1,[],str [],[str [97],str [98]],[2,2],[],()),Rec.mk (2,1,420,2,[],str [],[],[],[],())],2,())
def F4:FsR:=Rec.mk ([Rec.mk (1,2,0,1,[],str [],[str [98]],[2],[],()),Rec.mk (2,1,420,1,[],str [],[],[],[],())],2,())
theorem c0:chkL F0.v.1 F0.v.2.1=true:=by kernel_rfl
theorem c1:chkL F1.v.1 F1.v.2.1=true:=by kernel_rfl
theorem c2:chkL F2.v.1 F2.v.2.1=true:=by kernel_rfl
theorem c3:chkL F3.v.1 F3.v.2.1=true:=by kernel_rfl
theorem c4:chkL F4.v.1 F4.v.2.1=true:=by kernel_rfl
theorem m1:ZH6 F0 1 420 (str [])=(F1,2,0):=by kernel_rfl
theorem m2:entS F1 1 (str [97]) 2=(F2,0):=by kernel_rfl
theorem m3:entS F2 1 (str [98]) 2=(F3,0):=by kernel_rfl
theorem m4:leaS F3 1 (str [97])=(F4,2,0):=by kernel_rfl
theorem m5:ZER F4 1 (str [98])=(2,0):=by kernel_rfl
theorem m6:ZER F4 1 (str [97])=(0,201):=by kernel_rfl
theorem m7:(droS F4 2).2=215:=by kernel_rfl
theorem m8:(droS (Rec.mk (([]:List ZAF),(0:Int),())) 1).2=2:=by kernel_rfl
theorem ZPS:ZCH=some true:=by
 have e0:ZCH=_:=bds (x:=F0) rfl
 have e0:=e0.trans (bds ((ZSK (ZDg c0) _ _ _).trans (congrArg some m1)));have e0:=e0.trans (bds ((ZMH (ZDg c1) _ _ _).trans (congrArg some m2)));have e0:=e0.trans (bds ((ZMH (ZDg c2) _ _ _).trans (congrArg some m3)));have e0:=e0.trans (bds ((ZTO (ZDg c3) _ _).trans (congrArg some m4)));have e0:=e0.trans (bds ((ZJ5 (ZDg c4) _ _).trans (congrArg some m5)));have e0:=e0.trans (bds ((ZJ5 (ZDg c4) _ _).trans (congrArg some m6)));have e0:=e0.trans (bds (ZSM (ZDg c4) _));have e0:=e0.trans (bds (ZSM (f:=Rec.mk (([]:List ZAF),(0:Int),())) ⟨Nat.zero_le _,fun x hx=>by cases hx⟩ _))
 rw[show ZA2 F4=some true from(ZGV (ZDg c4)).trans (congrArg some c4)] at e0
 show ZCH=_
 refine e0.trans ?_
 show((if((0:Int)==0)=true then some ((2:Int)==2) else some false).bind _)=_
 simp only[m7,m8];rfl
/-! ### Who is above whom -/
theorem ZTP {x:ZAF} {l:List Int} {k d:Int}:d∈upsX x l k↔d=x.v.1∧k∈l:=by
 unfold upsX;simp only[List.mem_map,List.mem_filter,beq_iff_eq];constructor
 ·rintro⟨a,⟨h1,rfl⟩,rfl⟩;exact⟨rfl,h1⟩
 rintro⟨rfl,h⟩;exact⟨k,⟨h,rfl⟩,rfl⟩
theorem ZMJ {l:List ZAF} {k d:Int}:d∈upsL l k↔∃x∈l,d=x.v.1∧k∈x.v.2.2.2.2.2.2.2.1:=by
 unfold upsL;simp only[List.mem_flatMap,ZTP]
theorem Ok.num {l:List ZAF} {nx:Int} (h:Ok l nx) {x:ZAF} (hx:x∈l):1≤x.v.1∧x.v.1≤1024:=by
 have:=ZBW (h.al x hx);omega
theorem Ok.dir {l:List ZAF} {nx:Int} (h:Ok l nx) {x:ZAF} (hx:x∈l) (hk:x.v.2.1=2):(upsL l x.v.1).length≤1∧¬(0<(upsL l x.v.1).length∧x.v.1=1)∧ZC1 l (l.length+1) x.v.1=true:=by
 have:=h.cn x hx
 unfold cndX at this;rw[if_neg (by simp[hk])] at this
 simp only[Bool.and_eq_true,Bool.not_eq_true',Bool.and_eq_false_iff,decide_eq_true_eq,decide_eq_false_iff_not] at this;exact⟨this.1,fun h=>by rcases this.2.1 with h1 | h1;exact h1 h.1;exact h1 h.2,this.2.2⟩
theorem Ok.file {l:List ZAF} {nx:Int} (h:Ok l nx) {x:ZAF} (hx:x∈l) (hk:x.v.2.1≠2):((upsL l x.v.1).length:Int)=x.v.2.2.2.1:=by
 have:=h.cn x hx
 unfold cndX at this;rw[if_pos (by simpa using hk)] at this
 exact of_decide_eq_true this
end Go.Ai.Rab
end
section
open Go.Ai.Flds (fe fi fk)
namespace Go.Ai.Rab
open Go.Proofs Go.Lib Go.Proofs.YtcffjblfdjkcbaaGreatDoor
set_option maxRecDepth 100000
/-! ### What arguments read aS -/
def RdP (T:Type) [Enc T] (bk:T→Nat) (t:TypeId):Prop:=∀{H:Type} (en:TypeId×Value→H) (W:World) (fuel:Nat) (cs:List Value) (x:DataW H×List MemPlace),
 DataW.trod en Tryz.prog W 0 (fun _=>true) true fuel t cs=some x→∃(a:T) (v:Value),cs=v.cells.toList∧Rel W ρ0 ZF1 0 (Enc.enc a) v∧bk a≤Rows.uptoBulk x.1∧(Enc.k T=0→cs=[v])
def RdF (A:Type) [Flds A] (bk:A→Nat) (fl:List Field) (o:Nat):Prop:=∀{H:Type} (en:TypeId×Value→H) (W:World) (n:Nat) (cs:List Value) (xs:List (DataW H×List MemPlace)),xs.length=fl.length→
 (∀(i:Nat) (f:Field),fl[i]? =some f→DataW.trod en Tryz.prog W 0 (fun _=>true) true n f.type ((cs.drop f.offset).take (Tryz.prog.cellsOf f.type))=xs[i]?)→cs.length=o+fl.length→
 ∃a:A,RelL W ρ0 ZF1 0 (fe a) (cs.drop o)∧bk a≤Rows.uptoBulkAll (xs.map (·.1))
def one {T:Type} (_:T):Nat:=1
def bkS (s:Str):Nat:=List.length s+1
def bkL {T:Type} (bk:T→Nat) (l:List T):Nat:=(l.map bk).sum+1
def bkP {A B:Type} (b1:A→Nat) (b2:B→Nat) (a:A×B):Nat:=b1 a.1+b2 a.2
def bkR {A:Type} (b:A→Nat) (r:Rec A):Nat:=b r.v+1
theorem ZKy {t:TypeId} (hu:Tryz.prog.underlying t=some (.int .i64)):RdP Int one t:=fun en W fuel cs x h=>by
 obtain⟨n,rfl,rfl,hw⟩:=DataW.trod_int hu h;exact⟨n, .int .i64 n,rfl,ZG9,Nat.le_refl _,fun _=>rfl⟩
theorem ZV5 {t:TypeId} (hu:Tryz.prog.underlying t=some (.int .u8)):RdP UInt8 one t:=fun en W fuel cs x h=>by
 obtain⟨n,rfl,rfl,hw⟩:=DataW.trod_int hu h;have hw:=Go.bounds_u8 hw;refine⟨UInt8.ofInt n, .int .u8 n,rfl,?_,Nat.le_refl _,fun _=>rfl⟩
 have e:((UInt8.ofInt n).toNat:Int)=n:=by
  have:(UInt8.ofInt n).toNat=n.toNat:=by
   obtain⟨m,rfl⟩:∃m:Nat,n=m:=⟨n.toNat,by omega⟩
   simp[UInt8.ofInt]
   omega
  omega
 show Rel _ _ _ _ (.int .u8 ((UInt8.ofInt n).toNat:Int)) _
 rw[e];exact ZG9
theorem ZSN {t:TypeId} (hu:Tryz.prog.underlying t=some .string):RdP Str bkS t:=fun en W fuel cs x h=>by
 obtain⟨s,rfl,rfl,hw⟩:=DataW.trod_string hu h;exact⟨s.data.toList, .string s,rfl,ZQl,Nat.le_refl _,fun _=>rfl⟩
theorem ZVB (a:Addr) (x y:Nat):(a.add x).add y=a.add (x+y):=by
 cases a;by_cases hx:x=0
 ·subst hx;simp[Addr.add]
 by_cases hy:y=0
 ·subst hy;simp[Addr.add]
 simp[Addr.add,hx,hy,Nat.add_assoc]
theorem ZIZ {T:Type} [Enc T] {bk:T→Nat} {t e:TypeId} (hu:Tryz.prog.underlying t=some (.slice e)) (hc:Tryz.prog.cellsOf e=esz (Enc.k T)) (he:RdP T bk e):RdP (List T) (bkL bk) t:=fun {H} en W fuel cs x h=>by
 rcases DataW.trod_slice hu h with⟨rfl,rfl⟩ | ⟨a,len,cap,elems,rest,n,_,rfl,rfl,hb,hl,hm,hlen,hel,_,_⟩
 ·refine⟨[], .slice none 0 0,rfl,?_,Nat.le_refl _,fun _=>rfl⟩
  show Rel _ _ _ _ (.emp false) _
  simp only[Rel];exact⟨none,0,rfl,fun _=>rfl,fun _=>rfl⟩
 have key:∀(d i:Nat),i+d=len→∃(l:List T) (us:List Value),l.length=d∧(l.map bk).sum≤Rows.uptoBulkAll ((elems.drop i).map (·.1))∧us.length=d*esz (Enc.k T)∧RelC W ρ0 ZF1 0 (Enc.k T) (l.map Enc.enc) us∧∀j,j<d*esz (Enc.k T)→W.cell? (a.add (i*esz (Enc.k T)+j))=us[j]? :=by
  intro d;induction d with
  | zero=>intro i hi;exact⟨[],[],rfl,Nat.zero_le _,by simp,by simp[RelC],fun j hj=>by simp at hj⟩
  | succ d ih=>
   intro i hi;obtain⟨l,us,l1,l2,l3,l4,l5⟩:=ih (i+1) (by omega)
   have hi' :i<elems.length:=by omega
   have h1:=hel i (by omega)
   rw[List.getElem?_eq_getElem hi',hc,Option.bind_eq_some_iff] at h1;obtain⟨cs1,g1,g2⟩:=h1;obtain⟨_,g3,g4⟩:=World.cells?_some g1;obtain⟨b,v,k1,k2,k3,k4⟩:=he en W n cs1 _ g2;refine⟨b::l,cs1++us,by simp[l1],?_,by simp[l3,g3,Nat.succ_mul,Nat.add_comm],?_,fun j hj=> ?_⟩
   ·rw[List.drop_eq_getElem_cons hi'];simp only[List.map_cons,List.sum_cons,Rows.uptoBulkAll];omega
   ·simp only[List.map_cons,RelC];exact⟨v,us,by rw[k1],Enc.el (Enc.self b),k2,l4⟩
   by_cases hj2:j<esz (Enc.k T)
   ·rw[List.getElem?_append_left (by omega),←g4 j hj2,ZVB]
   rw[List.getElem?_append_right (by omega),g3,←l5 (j - esz (Enc.k T)) (by rw[Nat.succ_mul] at hj;omega)]
   congr 2
   rw[Nat.succ_mul];omega
 obtain⟨l,us,l1,l2,l3,l4,l5⟩:=key len 0 (by omega)
 refine⟨l, .slice (some a) len cap,rfl,?_,?_,fun _=>rfl⟩
 ·cases l with
  | nil=>
   show Rel _ _ _ _ (.emp false) _
   simp only[Rel];exact⟨some a,cap,by rw[←l1];rfl,fun e=>(by cases e),fun e=>(by cases e)⟩
  | cons b l=>
   show Rel _ _ _ _ (.vec (Enc.k T) ((b::l).map Enc.enc) .unk) _
   simp only[Rel];refine⟨a,cap,us,by rw[List.length_map,l1],by rw[List.length_map,l1];exact hl,l4,fun j u hj=>⟨?_,fun h=>h.elim⟩,by simp[CapOk]⟩
   have hj' :=(List.getElem?_eq_some_iff.1 hj).1
   have:=l5 j (by omega)
   rw[Nat.zero_mul,Nat.zero_add] at this;rw[this,hj]
 rw[List.drop_zero] at l2;simp only[bkL,Rows.uptoBulk];omega
theorem ZOl {o:Nat}:RdF Unit (fun _=>0) [] o:=fun en W n cs xs h1 h2 h3=>by
 refine⟨(),?_,Nat.zero_le _⟩
 rw[List.drop_of_length_le (by simp at h3;omega)]
 exact ZHZ
theorem ZCQ {T A:Type} [Enc T] [Enc0 T] [Flds A] {b1:T→Nat} {b2:A→Nat} {f:Field} {fl:List Field} {o:Nat} (ho:f.offset=o) (hc:Tryz.prog.cellsOf f.type=1) (h:RdP T b1 f.type) (k:RdF A b2 fl (o+1)):RdF (T×A) (bkP b1 b2) (f::fl) o:=fun en W n cs xs h1 h2 h3=>by
 obtain⟨x,xs,rfl⟩:∃x ys,xs=x::ys:=by
  cases xs with
  | nil=>simp at h1
  | cons x ys=>exact⟨x,ys,rfl⟩
 have e0:=h2 0 f rfl;simp only[List.length_cons] at h3 h1;have hlt:o<cs.length:=by omega
 rw[ho,hc] at e0;have e1:(cs.drop o).take 1=[cs[o]]:=by rw[List.drop_eq_getElem_cons hlt];rfl
 rw[e1] at e0;obtain⟨a,v,k1,k2,k3,k4⟩:=h en W n _ _ e0;have k4:=k4 Enc0.k0;injection k4 with k4 _
 obtain⟨b,q1,q2⟩:=k en W n cs xs (by omega) (fun i g hg=>h2 (i+1) g hg) (by omega)
 refine⟨(a,b),?_,?_⟩
 ·rw[List.drop_eq_getElem_cons hlt,k4];exact ZCT k2 q1
 simp only[bkP,List.map_cons,Rows.uptoBulkAll];omega
theorem ZSO {T A:Type} [Enc T] [Enc0 T] [Flds A] {bk:T×A→Nat} {t:TypeId} {fs:Array Field} (hu:Tryz.prog.underlying t=some (.struct fs)) (hc:Tryz.prog.cellsOf t=fs.size) (h:RdF (T×A) bk fs.toList 0):RdP (Rec (T×A)) (bkR bk) t:=fun en W fuel cs x hx=>by
 obtain⟨xs,n,_,rfl,h1,h2,h3⟩:=DataW.trod_struct hu hx;obtain⟨a,q1,q2⟩:=h en W n cs xs (by simpa using h2) (fun i f hf=>h3 i f (by simpa using hf)) (by rw[h1,hc];simp)
 refine⟨Rec.mk a, .agg cs.toArray,by simp[Value.cells],?_,?_,fun e=>by cases e⟩
 ·show Rel _ _ _ _ (.agg (fe a)) _
  simp only[Rel];exact⟨cs,rfl,q1⟩
 simp only[bkR,Rows.uptoBulk];omega
abbrev bkA:ZAd→Nat:=bkR (bkP bkS (bkP (bkL one) (fun _=>0)))
abbrev bkI:ZAF→Nat:=bkR (bkP one (bkP one (bkP one (bkP one (bkP (bkL one) (bkP bkS (bkP (bkL bkS) (bkP (bkL one) (bkP (bkL bkA) (fun _=>0))))))))))
abbrev bkF:FsR→Nat:=bkR (bkP (bkL bkI) (bkP one (fun _=>0)))
theorem rdA:RdP ZAd bkA 89:=ZSO Tryz.underlying89 (by kernel_rfl) (ZCQ rfl (by kernel_rfl) (ZSN Tryz.underlying9) (ZCQ rfl (by kernel_rfl) (ZIZ Tryz.underlying33 (by kernel_rfl) (ZV5 Tryz.underlying5)) ZOl))
theorem rdI:RdP ZAF bkI 38:=ZSO Tryz.underlying38 (by kernel_rfl) (ZCQ rfl (by kernel_rfl) (ZKy Tryz.underlying3) (ZCQ rfl (by kernel_rfl) (ZKy Tryz.underlying25) (ZCQ rfl (by kernel_rfl) (ZKy Tryz.underlying3) (ZCQ rfl (by kernel_rfl) (ZKy Tryz.underlying3)
 (ZCQ rfl (by kernel_rfl) (ZIZ Tryz.underlying33 (by kernel_rfl) (ZV5 Tryz.underlying5)) (ZCQ rfl (by kernel_rfl) (ZSN Tryz.underlying9) (ZCQ rfl (by kernel_rfl) (ZIZ Tryz.underlying34 (by kernel_rfl) (ZSN Tryz.underlying9)) (ZCQ rfl (by kernel_rfl) (ZIZ Tryz.underlying35 (by kernel_rfl) (ZKy Tryz.underlying3))
 (ZCQ rfl (by kernel_rfl) (ZIZ Tryz.underlying36 (by kernel_rfl) rdA) ZOl)))))))))
theorem rdFs:RdP FsR bkF 24:=ZSO Tryz.underlying24 (by kernel_rfl) (ZCQ rfl (by kernel_rfl) (ZIZ Tryz.underlying22 (by kernel_rfl) rdI) (ZCQ rfl (by kernel_rfl) (ZKy Tryz.underlying3) ZOl))
theorem ZIa {T:Type} {bk:T→Nat} (h:∀a,1≤bk a):∀l:List T,l.length≤bkL bk l
 | []=>Nat.zero_le _
 | a::l=>by
  have h1:=ZIa h l;have h2:=h a;simp only[bkL,List.map_cons,List.sum_cons,List.length_cons] at h1 ⊢;omega
theorem ZOm {T:Type} {bk:T→Nat}:∀{l:List T} {a:T},a∈l→bk a≤bkL bk l
 | b::l,a,h=>by
  simp only[bkL,List.map_cons,List.sum_cons];rcases List.mem_cons.1 h with rfl | h
  ·omega
  have:=ZOm (bk:=bk) h
  simp only[bkL] at this;omega
theorem ZSP {x:ZAF} (h:bkI x≤1048576):ZEh x:=by
 have h1:=ZIa (bk:=one) (fun a=>Nat.le_refl _) x.v.2.2.2.2.1
 have h2:=ZIa (bk:=bkS) (fun a=>Nat.succ_le_succ (Nat.zero_le _)) x.v.2.2.2.2.2.2.1
 have h3:=ZIa (bk:=one) (fun a=>Nat.le_refl _) x.v.2.2.2.2.2.2.2.1
 have h4:=ZIa (bk:=bkA) (fun a=>Nat.succ_le_succ (Nat.zero_le _)) x.v.2.2.2.2.2.2.2.2.1
 simp only[bkI,bkR,bkP] at h;exact⟨by omega,by omega,by omega,by omega⟩
theorem ZSQ {f:FsR} (h:bkF f≤1048576):ZBz f.v.1:=by
 have h1:=ZIa (bk:=bkI) (fun a=>Nat.succ_le_succ (Nat.zero_le _)) f.v.1
 simp only[bkF,bkR,bkP] at h;exact⟨by omega,fun x hx=>ZSP (by have:=ZOm (bk:=bkI) hx;omega)⟩
theorem ZTQ {T A:Type} [Enc T] [Enc0 T] [Flds A] {bk:Rec (T×A)→Nat} {t:TypeId} (hr:RdP (Rec (T×A)) bk t) {H:Type} {en:TypeId×Value→H} {W:World} {v:Value} {d:DataW H} {p:List MemPlace} (h2:∀r:Rec (T×A),(fe r.v).length≠1)
  (h:DataW.Trod en Tryz.prog W 0 (fun _=>true) true t v d p):∃r:Rec (T×A),Rel W ρ0 ZF1 0 (Enc.enc r) v∧bk r≤Rows.uptoBulk d:=by
 obtain⟨fuel,hf⟩:=h;obtain⟨r,v',k1,k2,k3,_⟩:=hr en W fuel _ _ hf;refine⟨r,?_,k3⟩
 have k2' :Rel W ρ0 ZF1 0 (.agg (fe r.v)) v' :=k2
 simp only[Rel] at k2';obtain⟨vs,rfl,hl⟩:=k2';have hlen:vs.length≠1:=by
  have:∀(xs:List AV) (us:List Value),RelL W ρ0 ZF1 0 xs us→us.length=xs.length:=by
   intro xs;induction xs with
   | nil=>intro us hu;simp only[RelL] at hu;rw[hu];rfl
   | cons x xs ih=>
    intro us hu;simp only[RelL] at hu;obtain⟨u,us',rfl,_,hu⟩:=hu;simp[ih us' hu]
  rw[this _ _ hl];exact h2 r
 have k1:v.cells.toList=vs:=by rw[k1];simp[Value.cells]
 have:v= .agg vs.toArray:=by
  cases v with
  | agg cs=>
   have k1:cs.toList=vs:=k1
   rw[←k1]
  | _=>(exfalso;apply hlen;rw[←k1];rfl)
 rw[this];exact k2
/-! ### What the listed variables give -/
def laidN:List (String×DataW Unit):=[("unicode/utf8.acceptRanges",Rows.laid_unicode_utf8_acceptRanges),("errors.errorType",Rows.laid_errors_errorType),("unicode/utf8.first",Rows.laid_unicode_utf8_first)]
def laidP:List (String×DataW Unit):=[("unicode/utf8.acceptRanges",Rows.laid_unicode_utf8_acceptRanges),("unicode/utf8.first",Rows.laid_unicode_utf8_first)]
theorem ZQD:(Rows.laid_unicode_utf8_first:DataW Unit)=firstData:=by kernel_rfl
theorem ZOn:(Rows.laid_unicode_utf8_acceptRanges:DataW Unit)=acceptData:=by kernel_rfl
theorem ZPT {w:World} {ρ:Pl} {U:Reg} {c:Nat} {k:IntKind}:∀l:List Int,RelL w ρ U c (l.map (.int k)) (l.map (.int k))
 | []=>ZHZ
 | n::l=>ZCT ZG9 (ZPT l)
theorem ZOo {W:World} {g:Nat} {k:IntKind} {cs:List AV} {l:List Int} (hc:cs=l.map (.int k)) (hp:ZCn cs=true) (h:∀j,j<l.length→W.cell? ⟨g,j,none⟩=some (.int k (l.getD j 0))):
  ZCn cs=true∧∃vs:List Value,RelL W ρ0 ZF1 0 cs vs∧∀j u,vs[j]? =some u→W.cell? ⟨g,j,none⟩=some u∧¬ZF1 g j:=by
 subst hc;refine⟨hp,l.map (.int k),ZPT l,fun j u hj=>⟨?_,fun h=>h.elim⟩⟩
 rw[List.getElem?_map,Option.map_eq_some_iff] at hj;obtain⟨n,hn,rfl⟩:=hj;rw[h j (List.getElem?_eq_some_iff.1 hn).1,List.getD_eq_getElem?_getD,hn];rfl
def l0:List Int:=(List.range 256).map fun c=>(firstT c:Int)
def l1:List Int:=(List.range 32).map fun c=>if c % 2=0 then(accLo (c / 2):Int) else(accHi (c / 2):Int)
theorem ZWN:tab0=l0.map (.int .u8):=by kernel_rfl
theorem ZWO:tab1=l1.map (.int .u8):=by kernel_rfl
theorem ZWP {W:World} {mx:Int} (he:W.cell? ⟨0,0,none⟩=some (.iface 168 (.agg #[.pointer (some ⟨4,70,none⟩)]))) (h0:Utf8Tabs 1 2 W) (h2:W.cell? ⟨3,0,none⟩=some (.int .i64 mx)):GlobOk W ρ0 ZF1 0 (NG mx):=by
 intro g cs hg;unfold NG at hg;split at hg
 ·rename_i e;subst e;obtain rfl:=Option.some.inj hg;refine⟨by kernel_rfl,[.iface 168 (.agg #[.pointer (some ⟨4,70,none⟩)])],?_,fun j u hj=> ?_⟩
  ·refine ZCT ?_ ZHZ
   simp only[Rel];refine⟨_,rfl,[.pointer (some ⟨4,70,none⟩)],rfl,ZCT ?_ ZHZ⟩
   simp only[Rel]
  cases j with
  | zero=>simp at hj;subst hj;exact⟨he,fun h=>h.elim⟩
  | succ j=>simp at hj
 split at hg
 ·rename_i e;subst e;obtain rfl:=Option.some.inj hg;refine ZOo ZWN (by kernel_rfl) fun j hj=> ?_
  have hj:j<256:=by simpa[l0] using hj
  rw[h0.1 j hj];simp[l0,hj]
 split at hg
 ·rename_i e;subst e;obtain rfl:=Option.some.inj hg;refine ZOo ZWO (by kernel_rfl) fun j hj=> ?_
  have hj:j<32:=by simpa[l1] using hj
  obtain⟨q1,q2⟩:=h0.2 (j / 2) (by omega)
  by_cases hm:j % 2=0
  ·rw[show 2*(j / 2)=j by omega] at q1
   rw[q1];simp[l1,hj,hm]
  rw[show 2*(j / 2)+1=j by omega] at q2
  rw[q2];simp[l1,hj,hm]
 split at hg
 ·rename_i e;subst e;obtain rfl:=Option.some.inj hg;refine ZOo (l:=[mx]) (k:= .i64) rfl rfl fun j hj=> ?_
  have hj:j=0:=by simpa using hj
  subst hj;exact h2
 cases hg
theorem u8x:U8Extra Tryz.prog Tryz.lays196_ren where
 n3:=by kernel_rfl
 n4:=by kernel_rfl
 y3:=by kernel_rfl
 y4:=by kernel_rfl
 c5:=by kernel_rfl
 c119:=by kernel_rfl
 c138:=by kernel_rfl
theorem et:Tryz.prog.globalNamed "errors.errorType" =some 0:=by kernel_rfl
theorem rt:(Tryz.prog.cutTypes.find? (·.1== "internal/reflectlite.rtype")).map (·.2)=some 168:=by kernel_rfl
theorem ZV6:((List.range Tryz.prog.types.size).filter fun t=>Tryz.prog.rowNamed t [101,114,114,111,114])=[70]:=by kernel_rfl
theorem filt:(laidN.filter fun x=>x.2.handleName?.isNone)=laidP:=by kernel_rfl
theorem ZWQ:(laidN.filter fun x=>x.2.handleName?.isSome)=[("errors.errorType",Rows.laid_errors_errorType)]:=by kernel_rfl
theorem ZWR {W:World} (hL:laidMetH Tryz.prog laidN W) (hs:W.ShapedOpen Tryz.prog):∃mx,GlobOk W ρ0 ZF1 0 (NG mx):=by
 have hL' :laidMet Tryz.prog laidP W∧handlesMet Tryz.prog [("errors.errorType",Rows.laid_errors_errorType)] W:=by
  unfold laidMetH at hL;rw[ZWQ,filt] at hL;exact hL
 have h3:VarReads Tryz.prog W "unicode/utf8.first" firstData:=ZQD▸laidMet.reads hL'.1 (.tail _ (.head _))
 have h4:VarReads Tryz.prog W "unicode/utf8.acceptRanges" acceptData:=ZOn▸laidMet.reads hL'.1 (.head _)
 obtain⟨mx,hmx⟩:=cell_of_shapedOpen_int (P:=Tryz.prog) (w:=W) (g:=3) (t:=3) (zero:= #[.int .i64 0]) (k:= .i64) hs (of_decide_eq_true (by kernel_rfl)) (by kernel_rfl) (by kernel_rfl) (by kernel_rfl) (by kernel_rfl) (by kernel_rfl)
 obtain⟨name,u,ty,e1,e2,e3,e4,e5⟩:=hL'.2 _ (List.mem_singleton.2 rfl);have en:name=[101,114,114,111,114]:=(Option.some.inj e1).symm
 subst en;obtain rfl:=Option.some.inj (rt.symm.trans e2);have hm:ty∈(List.range Tryz.prog.types.size).filter fun t=>Tryz.prog.rowNamed t [101,114,114,111,114]:=List.mem_filter.2 ⟨List.mem_range.2 e3,e4⟩
 rw[ZV6] at hm;obtain rfl:=List.mem_singleton.1 hm;have hh:typeHandle Tryz.prog 70= .pointer (some ⟨4,70,none⟩):=by kernel_rfl
 rw[hh] at e5;have he:W.cell? ⟨0,0,none⟩=some (.iface 168 (.agg #[.pointer (some ⟨4,70,none⟩)])):=by simpa using World.var?_cell et e5 0
 exact⟨mx,ZWP he (utf8Tabs_of_readsT (U8Types.of196 Tryz.lays196) u8x h3 h4) hmx⟩
noncomputable def w1 (os:Os):World:=
 let w0:=World.holding Tryz.prog os ⟨#[], #[],[]⟩
 {w0 with heap:=w0.heap.modify 0 fun
   | .cells _ t frozen=> .cells #[.iface 168 (.agg #[.pointer (some ⟨4,70,none⟩)])] t frozen
   | o=>o}
noncomputable def LW (os:Os):World:=(w1 os).layVars Tryz.prog laidP
theorem ZWS (os:Os):(LW os).os=os:=World.layVars_os _ _ _
theorem ZV7 (os:Os) (args:Array Value):laidMet Tryz.prog laidP ((LW os).forCall (fun _ _=>0) ⟨#[],args,[]⟩).memory:=by
 have e1:(laidP.filter fun x=>(laidP.map (·.1)).contains x.1)=laidP:=List.filter_eq_self.2 fun x hx=>List.contains_iff_mem.2 (List.mem_map.2 ⟨x,hx,rfl⟩)
 have e2:(laidP.filter fun x=> !(laidP.map (·.1)).contains x.1)=[]:=List.filter_eq_nil_iff.2 fun x hx=>by rw[List.contains_iff_mem.2 (List.mem_map.2 ⟨x,hx,rfl⟩)];simp
 have h:laidMet Tryz.prog laidP (LW os):=laidMet_layVars (w0:=w1 os) (laidP.map (·.1)) [] (by rw[e1];rfl) (by rw[e1];kernel_rfl) (by rw[e1];kernel_rfl) (by rw[e2];exact LaidIn.none)
 exact h.of_heap (by simp[World.memory,World.forCall,Input.heap])
theorem ZV8 (os:Os) (args:Array Value):(laidN.filter fun x=>x.2.handleName?.isSome).all (handleAtB Tryz.prog ((LW os).forCall (fun _ _=>0) ⟨#[],args,[]⟩).memory)=true:=by kernel_rfl
theorem ZWT (os:Os) (args:Array Value):laidMetH Tryz.prog laidN ((LW os).forCall (fun _ _=>0) ⟨#[],args,[]⟩).memory:=laidMetH_of_parts (by rw[filt];exact ZV7 os args) (ZV8 os args)
end Go.Ai.Rab
end
