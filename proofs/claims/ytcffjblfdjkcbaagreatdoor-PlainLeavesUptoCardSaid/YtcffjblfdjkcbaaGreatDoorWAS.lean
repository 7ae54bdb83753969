/- My own texts DevRr1, DevPr5, DevPr7, one behind the other. -/
import Derived.Test.YtcffjblfdjkcbaaGreatDoorWAQ
import Derived.Test.YtcffjblfdjkcbaaGreatDoorWAR
set_option linter.unusedVariables false
set_option linter.unusedSimpArgs false
section
namespace Go.Ai.Rab
theorem ZVG {x:ZAF} (h:bkI x≤1048576):List.length x.v.2.2.2.2.2.1≤2000000:=by
 simp only[bkI,bkR,bkP,bkS] at h;omega
theorem ZVH {f:FsR} (h:bkF f≤1048576):tgtL f.v.1:=by
 simp only[bkF,bkR,bkP] at h;exact fun x hx=>ZVG (by have:=ZOn (bk:=bkI) hx;omega)
end Go.Ai.Rab
end
section
set_option maxRecDepth 10000
open Go.Ai.Enc (enc is)
namespace Go.Ai.Rab
theorem ZML {α:Type} {z:Nat} (l m:List α) (hl:l.length≤8000000) (hm:m.length≤8000000) (hz:z≤1000):app z l m=some (l++m):=by
 have h:(l.length+m.length)*z≤16000000*1000:=Nat.mul_le_mul (by omega) hz
 exact ZEN l m (by omega) (by omega)
theorem ZOt {α β:Type} {z:Nat} (l:List α) (i:Nat) (hi:i<l.length) (hl:l.length≤2000000) (hz:z≤1000) (k:List α→Option β):
  ((sub l 0 (i:Int)).bind fun a=>((app z ([]:List α) a).bind fun b=>((sub l (IntKind.i64.wrap ((i:Int)+1)) ((l.length:Nat):Int)).bind fun c=>((app z b c).bind k))))=k (l.take i++l.drop (i+1)):=by
 rw[lim (by omega)]
 refine(bds (ZJv l 0 i (Nat.zero_le _) (by omega))).trans ?_
 rw[List.drop_zero];have h1:(l.take i).length≤8000000:=by rw[List.length_take];omega
 have h2:(l.drop (i+1)).length≤8000000:=by rw[List.length_drop];omega
 refine(bds (ZML [] _ (Nat.zero_le _) h1 hz)).trans ?_
 refine(bds (ZJv l (i+1) l.length (by omega) (Nat.le_refl _))).trans ?_
 rw[List.take_length,List.nil_append];exact bds (ZML _ _ h1 h2 hz)
/-! ### What is small -/
theorem ZKC {l:List ZAF} {nx:Int} (h:Ok l nx) {x:ZAF} (hx:ZCS x):ZBf (ZBR l x):=
 ⟨by have:=ZCI l x;have:=h.len;omega,ZFl h.small.2 hx⟩
theorem ZQJ {x:ZAF} (h:ZCS x) (p:Nat):ZCS (cutI x p):=by
 obtain⟨h1,h2,h3,h4⟩:=h;refine⟨h1,?_,?_,h4⟩
 ·show(x.v.2.2.2.2.2.2.1.take p++x.v.2.2.2.2.2.2.1.drop (p+1)).length≤_
  simp only[List.length_append,List.length_take,List.length_drop];omega
 show(x.v.2.2.2.2.2.2.2.1.take p++x.v.2.2.2.2.2.2.2.1.drop (p+1)).length≤_
 simp only[List.length_append,List.length_take,List.length_drop];omega
theorem ZSa {f:FsR} (hs:ZBf f.v.1) (d:Int) (s:Str):ZBf (leaS f d s).1.v.1:=by
 unfold leaS;by_cases h:(ZFJ f d s).2=0
 ·rw[if_neg (by simp[h])]
  obtain⟨hok,i,p1,p2,p3,p4,p5,p6,p7,p8,k,q1,q2,q3⟩:=ZOk h;rw[p1,q1,Option.getD_some,Option.getD_some];have h1:=hok.small.2 _ (ZA2 p2);have h2:=hok.small.2 _ (ZA2 q2);have hl:=hok.len;show ZBf (leaL f.v.1 (inAt f.v.1 i) (inAt f.v.1 k) s)
  unfold leaL;have a1:=ZKC hok (ZQJ h1 (ptN (inAt f.v.1 i).v.2.2.2.2.2.2.1 s));have l1:=ZCI f.v.1 (cutI (inAt f.v.1 i) (ptN (inAt f.v.1 i).v.2.2.2.2.2.2.1 s));split
  ·exact⟨by have:=ZCI (ZBR f.v.1 (cutI (inAt f.v.1 i) (ptN (inAt f.v.1 i).v.2.2.2.2.2.2.1 s))) (ZQB (inAt f.v.1 k) (-1));omega,ZFl a1.2 (ZJ4 h2 (-1))⟩
  exact a1
 rw[if_pos h];exact hs
theorem ZSb {f:FsR} (hs:ZBf f.v.1) (n:Int):ZBf (droS f n).1.v.1:=by
 unfold droS;split
 ·split
  ·exact hs
  split
  ·exact hs
  refine⟨?_,fun z hz=>hs.2 z ?_⟩
  ·have:=hs.1
   simp only[List.length_append,List.length_take,List.length_drop];omega
  rcases List.mem_append.1 hz with h | h
  ·exact List.mem_of_mem_take h
  exact List.mem_of_mem_drop h
 exact hs
theorem ZSc {f:FsR} (hs:ZBf f.v.1) (x:ZAF):ZBf (setS f x).1.v.1:=by
 unfold setS;split
 ·rename_i hc;split
  ·exact hs
  split
  ·rename_i ha;exact ZKC (ZDQ.1 hc) (ZGX ha)
  exact hs
 exact hs
/-! ### What it ZC8 -/
theorem ZTW {f:FsR} (hs:ZBf f.v.1) (ht:tgtL f.v.1) (n:Int):ZEb f n=some (droS f n):=by
 have e0:ZEb f n=_:=bds (ZIW hs ht)
 unfold droS
 cases hc:chkL f.v.1 f.v.2.1 with
 | false=>rw[hc] at e0;exact e0
 | true=>
  rw[hc] at e0;have e0:=e0.trans ((if_neg (by decide)).trans (bds (ZGn (by have:=hs.1;omega) n)))
  have hok:=ZDQ.1 hc;rw[if_pos rfl];unfold fndI at e0
  cases hp:posI f.v.1 n with
  | none=>rw[hp] at e0;exact e0.trans (if_pos (by decide))
  | some i=>
   rw[hp] at e0;obtain⟨q1,q2⟩:=ZCH hp;have e0:=e0.trans ((if_neg (by simp)).trans (bds (ZNl hok.len hok.nums n)))
   simp only
   have e0:=e0.trans (bds (x:=decide (0<(upsL f.v.1 n).length∨n=1)) (by
    by_cases h:0<(upsL f.v.1 n).length
    ·rw[if_pos (decide_eq_true (by omega)),decide_eq_true (.inl h)]
    rw[if_neg (by rw[decide_eq_true_eq];omega)]
    congr 1;rw[Bool.eq_iff_iff];simp;omega))
   have e0:=e0.trans (bds (x:=decide (n=1∨0<(inAt f.v.1 i).v.2.2.2.2.2.2.1.length∨0<(upsL f.v.1 n).length)) (by
    by_cases h:0<(upsL f.v.1 n).length∨n=1
    ·rw[if_pos (decide_eq_true h),decide_eq_true (by omega)]
    rw[if_neg (by rw[decide_eq_true_eq];exact h)]
    refine(bds (ZCh q1)).trans ?_
    congr 1;rw[decide_eq_decide];omega))
   by_cases hb:n=1∨0<(inAt f.v.1 i).v.2.2.2.2.2.2.1.length∨0<(upsL f.v.1 n).length
   ·rw[if_pos hb];exact e0.trans (if_pos (decide_eq_true hb))
   rw[if_neg hb];have hl:=hok.len;exact e0.trans ((if_neg (by rw[decide_eq_true_eq];exact hb)).trans (ZOt f.v.1 i q1 (by omega) (by omega) _))
theorem ZSd {f:FsR} (hs:ZBf f.v.1) (ht:tgtL f.v.1) (d:Int) (s:Str):ZDZ f d s=some (leaS f d s):=by
 have e0:ZDZ f d s=_:=bds (ZQI hs ht d s)
 unfold leaS;by_cases hc:(ZFJ f d s).2=0
 ·have e0:=e0.trans (if_neg (by simp[hc]))
  rw[if_neg (by simp[hc])]
  obtain⟨hok,i,p1,p2,p3,p4,p5,p6,p7,p8,k,q1,q2,q3⟩:=ZOk hc;have e0:=e0.trans (bds (ZGn (by have:=hs.1;omega) d))
  have f1:fndI f.v.1 d=(i:Int):=by unfold fndI;rw[p1]
  have f2:fndI f.v.1 (ZFJ f d s).1=(k:Int):=by unfold fndI;rw[q1]
  rw[f1] at e0;have e0:=e0.trans ((bds (ZCh p2)).trans (bds (ZGn (by have:=hs.1;omega) _)))
  rw[f2] at e0;have e0:=e0.trans (bds (ZCh q2));rw[p1,q1,Option.getD_some,Option.getD_some];have hal:=hok.al _ (ZA2 p2);have hyal:=hok.al _ (ZA2 q2);generalize inAt f.v.1 i=x at*
  generalize inAt f.v.1 k=y at*
  have hxs:=ZBH hal;have e0:=e0.trans ((bds (ZV4 (by omega) s)).trans ((ZOt _ _ p7 (by omega) (by omega) _).trans (ZOt _ _ (by omega) (by omega) (by omega) _)))
  have hl:=hok.len;have e0:=e0.trans (bds (ZMJ (by omega) _))
  by_cases hk2:y.v.2.1=2
  ·have e0:=e0.trans (if_neg (by simp[hk2]))
   refine e0.trans ?_
   unfold leaL;rw[if_neg (by simp[hk2])];rfl
  have l1:=ZCI f.v.1 (cutI x (ptN x.v.2.2.2.2.2.2.1 s));have e0:=e0.trans ((if_pos (by simpa using hk2)).trans (bds (ZMJ (show(ZBR f.v.1 (cutI x (ptN x.v.2.2.2.2.2.2.1 s))).length≤2000000 by omega) _)))
  refine e0.trans ?_
  have hla:=ZBH hyal;have hw:IntKind.i64.wrap (y.v.2.2.2.1 - 1)=y.v.2.2.2.1+ -1:=by rw[i64w (by omega)];rfl
  rw[hw];unfold leaL;rw[if_pos (by simpa using hk2)];rfl
 exact(e0.trans (if_pos (by simpa using hc))).trans (by rw[if_pos hc])
theorem ZVI {f:FsR} (hs:ZBf f.v.1) (ht:tgtL f.v.1) {x:ZAF} (hx:ZCS x):ZGC f x=some (setS f x):=by
 have e0:ZGC f x=_:=bds (ZIW hs ht)
 unfold setS
 cases hc:chkL f.v.1 f.v.2.1 with
 | false=>rw[hc] at e0;exact e0
 | true=>
  rw[hc] at e0;have e0:=e0.trans ((if_neg (by decide)).trans (bds (ZGn (by have:=hs.1;omega) x.v.1)))
  have hok:=ZDQ.1 hc;rw[if_pos rfl];unfold fndI at e0
  cases hp:posI f.v.1 x.v.1 with
  | none=>rw[hp] at e0;exact e0.trans (if_pos (by decide))
  | some i=>
   rw[hp] at e0;obtain⟨q1,q2⟩:=ZCH hp;have e0:=e0.trans ((if_neg (by simp)).trans (bds (ZCh q1)))
   simp only
   have hal:=ZBH (hok.al _ (ZA2 q1));have hx1:=hx.1;have hx4:=hx.2.2.2;have e0:=e0.trans ((bds (ZML [] _ (Nat.zero_le _) (by omega) (by omega))).trans (bds (ZML [] _ (Nat.zero_le _) (by omega) (by omega))))
   rw[List.nil_append,List.nil_append] at e0;have hsm:ZCS (setI (inAt f.v.1 i) x):=⟨hx.1,by show(inAt f.v.1 i).v.2.2.2.2.2.2.1.length≤_;omega,by show(inAt f.v.1 i).v.2.2.2.2.2.2.2.1.length≤_;omega,hx.2.2.2⟩
   have htt:List.length (setI (inAt f.v.1 i) x).v.2.2.2.2.2.1≤2000000:=ht (inAt f.v.1 i) (ZA2 q1)
   have e0:=e0.trans (bds (ZNn hsm htt))
   cases ha:ZBV (setI (inAt f.v.1 i) x) with
   | false=>exact e0.trans (if_pos (by show(!ZBV (setI (inAt f.v.1 i) x))=true;rw[ha];rfl))
   | true=>
    have hl:=hok.len;exact e0.trans ((if_neg (by show ¬(!ZBV (setI (inAt f.v.1 i) x))=true;rw[ha];decide)).trans ((bds (ZMJ (by omega) _)).trans rfl))
end Go.Ai.Rab
end
section
set_option maxRecDepth 10000
open Go.Ai.Enc (enc is)
namespace Go.Ai.Rab
theorem eqT2 (a:Int):(if true=true then some (a==a) else some false)=some true:=by simp
theorem ZMM {f:FsR} (hs:ZBf f.v.1) (ht:tgtL f.v.1) (s:Str) (n:Int) {x:ZAF} (hx:ZCS x):ZD4 f s n x=some true:=by
 obtain⟨b,h1,_⟩:=ZQE hs;have e0:ZD4 f s n x=_:=bds h1
 obtain⟨c,hc⟩:∃c,(if(!b)=true then some true else some (decide ((x.v.2.2.2.2.1.length:Int) > 40000)))=some c:=by cases b<;> exact⟨_,rfl⟩
 have e0:=e0.trans (bds hc)
 cases c with
 | true=>exact e0.trans ((if_pos rfl).trans ((bds ZPV).trans rfl))
 | false=>
  have e0:=e0.trans ((if_neg (by decide)).trans ((bds (ZPU hs n s)).trans (bds (ZSd hs ht n s))))
  have e0:=e0.trans ((bds (ZOl hs n)).trans (bds (ZTW hs ht n)));have e0:=e0.trans ((bds (ZVz hs hx)).trans (bds (ZVI hs ht hx)));have e0:=e0.trans (bds (ZJ6 (ZSa hs n s)));have e0:=e0.trans ((bds (eqT2 _)).trans (bds (eqT2 _)));have e0:=e0.trans (bds (x:=true) ((if_pos rfl).trans ((bds (ZJ6 (ZSb hs n))).trans rfl)));have e0:=e0.trans (bds (eqT2 _));have e0:=e0.trans (bds (x:=true) ((if_pos rfl).trans ((bds (ZJ6 (ZSc hs x))).trans rfl)));exact e0.trans ((bds (eqT2 _)).trans ((bds (x:=true) ((if_pos rfl).trans ((bds ZPV).trans rfl))).trans rfl))
end Go.Ai.Rab
end
