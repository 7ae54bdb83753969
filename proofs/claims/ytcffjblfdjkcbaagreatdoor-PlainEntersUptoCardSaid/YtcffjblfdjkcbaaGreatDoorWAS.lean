/- My own texts DevRr1, DevPr5, DevPr6, one behind the other. -/
import Derived.Test.YtcffjblfdjkcbaaGreatDoorWAQ
import Derived.Test.YtcffjblfdjkcbaaGreatDoorWAR
set_option linter.unusedVariables false
set_option linter.unusedSimpArgs false
section
namespace Go.Ai.Rab
theorem ZVL {x:ZAF} (h:bkI x≤1048576):List.length x.v.2.2.2.2.2.1≤2000000:=by
 simp only[bkI,bkR,bkP,bkS] at h;omega
theorem ZVM {f:FsR} (h:bkF f≤1048576):tgtL f.v.1:=by
 simp only[bkF,bkR,bkP] at h;exact fun x hx=>ZVL (by have:=ZOm (bk:=bkI) hx;omega)
end Go.Ai.Rab
end
section
set_option maxRecDepth 10000
open Go.Ai.Enc (enc is)
namespace Go.Ai.Rab
theorem ZKB {α:Type} {z:Nat} (l m:List α) (hl:l.length≤8000000) (hm:m.length≤8000000) (hz:z≤1000):app z l m=some (l++m):=by
 have h:(l.length+m.length)*z≤16000000*1000:=Nat.mul_le_mul (by omega) hz
 exact ZFH l m (by omega) (by omega)
theorem ZVN {α β:Type} {z:Nat} (l:List α) (i:Nat) (hi:i<l.length) (hl:l.length≤2000000) (hz:z≤1000) (k:List α→Option β):
  ((sub l 0 (i:Int)).bind fun a=>((app z ([]:List α) a).bind fun b=>((sub l (IntKind.i64.wrap ((i:Int)+1)) ((l.length:Nat):Int)).bind fun c=>((app z b c).bind k))))=k (l.take i++l.drop (i+1)):=by
 rw[lim (by omega)]
 refine(bds (ZHS l 0 i (Nat.zero_le _) (by omega))).trans ?_
 rw[List.drop_zero];have h1:(l.take i).length≤8000000:=by rw[List.length_take];omega
 have h2:(l.drop (i+1)).length≤8000000:=by rw[List.length_drop];omega
 refine(bds (ZKB [] _ (Nat.zero_le _) h1 hz)).trans ?_
 refine(bds (ZHS l (i+1) l.length (by omega) (Nat.le_refl _))).trans ?_
 rw[List.take_length,List.nil_append];exact bds (ZKB _ _ h1 h2 hz)
theorem ZSb {α β:Type} {z:Nat} (l:List α) (a:α) (i:Nat) (hi:i≤l.length) (hl:l.length≤2000000) (hz:z≤1000) (k:List α→Option β):
  ((sub l 0 (i:Int)).bind fun a1=>((app z ([]:List α) a1).bind fun a2=>((app z a2 [a]).bind fun a3=>((sub l (i:Int) ((l.length:Nat):Int)).bind fun a4=>((app z a3 a4).bind k)))))=k (l.take i++a::l.drop i):=by
 refine(bds (ZHS l 0 i (Nat.zero_le _) (by omega))).trans ?_
 rw[List.drop_zero];have h1:(l.take i).length≤2000000:=by rw[List.length_take];omega
 have h2:(l.drop i).length≤2000000:=by rw[List.length_drop];omega
 refine(bds (ZKB [] _ (Nat.zero_le _) (by omega) hz)).trans ?_
 rw[List.nil_append];refine(bds (ZKB _ [a] (by omega) (by simp) hz)).trans ?_
 refine(bds (ZHS l i l.length hi (Nat.le_refl _))).trans ?_
 rw[List.take_length];refine(bds (ZKB _ _ (by simp only[List.length_append,List.length_singleton];omega) (by omega) hz)).trans ?_
 rw[List.append_assoc];rfl
/-! ### What is small -/
theorem ZTa {l:List ZAF} {x z:ZAF} (h:z∈ZBB l x):z=x∨z∈l:=by
 unfold ZBB at h;rcases List.mem_append.1 h with h | h
 ·exact .inr (List.mem_of_mem_take h)
 rcases List.mem_cons.1 h with h | h
 ·exact .inl h
 exact .inr (List.mem_of_mem_drop h)
theorem ZPU {l:List ZAF} (h:tgtL l) {x:ZAF} (hx:List.length x.v.2.2.2.2.2.1≤2000000):tgtL (ZBB l x):=by
 intro z hz;rcases ZTa hz with rfl | hz
 ·exact hx
 exact h z hz
theorem ZQF {f:FsR} (hs:ZBz f.v.1) (kind mode:Int) (t:Str):ZBz (ZH6 f kind mode t).1.v.1:=by
 by_cases h:(ZH6 f kind mode t).2.2=0
 ·rw[(ZSV h).2.2.2];exact(Ok.new h).small
 rw[ZSU h];exact hs
theorem ZSc {f:FsR} (hs:ZBz f.v.1) (d:Int) (s:Str) (n:Int):ZBz (entS f d s n).1.v.1:=by
 by_cases h:(entS f d s n).2=0
 ·obtain⟨_,x,y,_,_,_,_,_,_,h1,h2⟩:=ZV9 h;rw[h2];exact h1.small
 rw[ZTS h];exact hs
/-! ### What it ZDB -/
theorem ZWD {f:FsR} (hs:ZBz f.v.1) (ht:tgtL f.v.1) (n:Int):ZGd f n=some (droS f n):=by
 have e0:ZGd f n=_:=bds (ZGn hs ht)
 unfold droS
 cases hc:chkL f.v.1 f.v.2.1 with
 | false=>rw[hc] at e0;exact e0
 | true=>
  rw[hc] at e0;have e0:=e0.trans ((if_neg (by decide)).trans (bds (ZFm (by have:=hs.1;omega) n)))
  have hok:=ZDw.1 hc;rw[if_pos rfl];unfold fndI at e0
  cases hp:posI f.v.1 n with
  | none=>rw[hp] at e0;exact e0.trans (if_pos (by decide))
  | some i=>
   rw[hp] at e0;obtain⟨q1,q2⟩:=ZBl hp;have e0:=e0.trans ((if_neg (by simp)).trans (bds (ZNm hok.len hok.nums n)))
   simp only
   have e0:=e0.trans (bds (x:=decide (0<(upsL f.v.1 n).length∨n=1)) (by
    by_cases h:0<(upsL f.v.1 n).length
    ·rw[if_pos (decide_eq_true (by omega)),decide_eq_true (.inl h)]
    rw[if_neg (by rw[decide_eq_true_eq];omega)]
    congr 1;rw[Bool.eq_iff_iff];simp;omega))
   have e0:=e0.trans (bds (x:=decide (n=1∨0<(inAt f.v.1 i).v.2.2.2.2.2.2.1.length∨0<(upsL f.v.1 n).length)) (by
    by_cases h:0<(upsL f.v.1 n).length∨n=1
    ·rw[if_pos (decide_eq_true h),decide_eq_true (by omega)]
    rw[if_neg (by rw[decide_eq_true_eq];exact h)]
    refine(bds (ZC0 q1)).trans ?_
    congr 1;rw[decide_eq_decide];omega))
   by_cases hb:n=1∨0<(inAt f.v.1 i).v.2.2.2.2.2.2.1.length∨0<(upsL f.v.1 n).length
   ·rw[if_pos hb];exact e0.trans (if_pos (decide_eq_true hb))
   rw[if_neg hb];have hl:=hok.len;exact e0.trans ((if_neg (by rw[decide_eq_true_eq];exact hb)).trans (ZVN f.v.1 i q1 (by omega) (by omega) _))
theorem ZQG {f:FsR} {n e:Int} (h:(dirS f n).2.c=some e):e=2∨e=203∨(e=201∧posI f.v.1 n=none):=by
 unfold dirS at h;split at h
 ·split at h
  ·rename_i hp;simp only[Option.some.injEq] at h;exact .inr (.inr ⟨h.symm,hp⟩)
  split at h
  ·simp only[Option.some.injEq] at h;exact .inr (.inl h.symm)
  simp at h
 simp only[Option.some.injEq] at h;exact .inl h.symm
theorem ZTb {l:List ZAF} (h:tgtL l) {x y:ZAF} (hx:x∈l) (hy:y∈l) (s:Str) (n:Int):tgtL (entL l x y s n):=by
 have h1:tgtL (ZBB l (putI x s n)):=ZPU h (h x hx)
 unfold entL;split
 ·exact ZPU h1 (h y hy)
 exact h1
theorem ZQH {f:FsR} {l:List ZAF} (hs:ZBz l) (ht:tgtL l):ZBn f (Rec.mk (l,f.v.2.1,()))=some (if chkL l f.v.2.1=true then(Rec.mk (l,f.v.2.1,()),(0:Int)) else(f,2)):=by
 have g0:ZBn f (Rec.mk (l,f.v.2.1,()))=_:=bds (ZGn (f:=Rec.mk (l,f.v.2.1,())) hs ht)
 cases hcc:chkL l f.v.2.1 with
 | false=>exact g0.trans (if_pos (by show(!chkL l f.v.2.1)=true;rw[hcc];rfl))
 | true=>exact g0.trans (if_neg (by show ¬(!chkL l f.v.2.1)=true;rw[hcc];decide))
theorem ZK5 {f:FsR} (hok:Ok f.v.1 f.v.2.1) {x:ZAF} (hx:x∈f.v.1) (hk:x.v.2.1=2) (s:Str) (n d:Int) (w:ZAF):
  ZCi x s n f d w=if(n !=d)=true then ZBn f (Rec.mk (ZBB (ZBB f.v.1 (putI x s n)) w,f.v.2.1,())) else ZBn f (Rec.mk (ZBB f.v.1 (putI x s n),f.v.2.1,())):=by
 have hal:=hok.al x hx;have hxs:=ZBW hal;obtain⟨d1,d2,d3,d4,d5⟩:=ZC3 hal hk;have hp:ptN x.v.2.2.2.2.2.2.1 s≤x.v.2.2.2.2.2.2.1.length:=ZIv _ _
 have hl:=hok.len;have e0:ZCi x s n f d w=_:=bds (ZWA (by omega) s)
 have e0:=e0.trans ((ZSb _ s _ hp (by omega) (by omega) _).trans (ZSb _ n _ (by omega) (by omega) (by omega) _))
 have e0:=e0.trans (bds (ZMN (by omega) _))
 refine e0.trans ?_
 by_cases h:(n !=d)=true
 ·rw[if_pos h,if_pos h];have l1:=ZEi f.v.1 (putI x s n);exact bds (ZMN (show(ZBB f.v.1 (putI x s n)).length≤2000000 by omega) _)
 rw[if_neg h,if_neg h];rfl
theorem ZSd {f:FsR} (hs:ZBz f.v.1) (ht:tgtL f.v.1) (d:Int) (s:Str) (n:Int):ZDa f d s n=some (entS f d s n):=by
 have e0:ZDa f d s n=_:=(bds (ZQE hs ht d s)).trans (bds (ZFm (by have:=hs.1;omega) d))
 unfold entS
 cases he:(dirS f d).2.c with
 | some e=>
  have hlk:ZER f d s=(0,e):=by unfold ZER;rw[he]
  rw[hlk] at e0;refine(e0.trans (bds (x:=decide (e=2∨e=203)) ?_)).trans ((bds (x:=true) ?_).trans rfl)
  ·by_cases h:e=2
   ·rw[if_pos (by simp[h]),decide_eq_true (.inl h)]
   rw[if_neg (by simpa using h)]
   congr 1;rw[Bool.eq_iff_iff];simp[h]
  by_cases h:e=2∨e=203
  ·rw[if_pos (decide_eq_true h)]
  rw[if_neg (by rw[decide_eq_true_eq];exact h)]
  obtain⟨_,hp⟩:=((ZQG he).resolve_left fun h1=>h (.inl h1)).resolve_left fun h1=>h (.inr h1)
  unfold fndI;rw[hp];rfl
 | none=>
  obtain⟨hok,j,p1,p2,p3,p4,p5⟩:=ZGW he;have hlk:ZER f d s=if hasN (dirS f d).1.v.2.2.2.2.2.2.1 s=true then((dirS f d).1.v.2.2.2.2.2.2.2.1.getD (ptN (dirS f d).1.v.2.2.2.2.2.2.1 s) 0,0) else(0,201):=by unfold ZER;rw[he]
  have hcode:(ZER f d s).2=if hasN (dirS f d).1.v.2.2.2.2.2.2.1 s=true then 0 else 201:=by rw[hlk];split<;> rfl
  have f1:fndI f.v.1 d=(j:Int):=by unfold fndI;rw[p1]
  rw[f1,hcode] at e0;rw[p5] at e0 ⊢;have hal:=hok.al _ (ZAy p2);have hxm:=ZAy p2;have hnx:=ZC0 p2;simp only
  generalize hxx:inAt f.v.1 j=x at*
  have e0:=e0.trans ((bds (x:=false) (by cases hasN x.v.2.2.2.2.2.2.1 s<;> rfl)).trans ((bds (x:=false) (by rw[if_neg (by decide),decide_eq_false (by omega)])).trans ((if_neg (by decide)).trans (bds (ZNl s)))))
  by_cases hc:chkS s=0
  ·have e0:=e0.trans (if_neg (by simp[hc]))
   rw[if_neg (by simp[hc])]
   cases hh:hasN x.v.2.2.2.2.2.2.1 s with
   | true=>rw[hh] at e0;exact e0.trans (if_pos rfl)
   | false=>
    rw[hh] at e0;have e0:=e0.trans ((if_neg (by decide)).trans (bds (ZFm (by have:=hs.1;omega) n)))
    rw[if_neg (by decide)]
    unfold fndI at e0
    cases hp:posI f.v.1 n with
    | none=>rw[hp] at e0;exact e0.trans (if_pos (by decide))
    | some i=>
     rw[hp] at e0;obtain⟨q1,q2⟩:=ZBl hp;have e0:=e0.trans ((if_neg (by simp)).trans (bds (ZC0 q1)))
     simp only
     have hyal:=hok.al _ (ZAy q1);have hym:=ZAy q1;generalize hyy:inAt f.v.1 i=y at*
     have e0:=e0.trans (bds (x:=decide (y.v.2.1≠2∧y.v.2.2.2.1=64)) (by
      by_cases hk2:y.v.2.1=2
      ·rw[if_neg (by simp[hk2]),decide_eq_false (by simp[hk2])]
      rw[if_pos (by simpa using hk2)];congr 1;rw[Bool.eq_iff_iff];simp[hk2]))
     by_cases h210:y.v.2.1≠2∧y.v.2.2.2.1=64
     ·rw[if_pos h210];exact e0.trans (if_pos (decide_eq_true h210))
     have e0:=e0.trans ((if_neg (by rw[decide_eq_true_eq];exact h210)).trans (bds hnx))
     rw[if_neg h210];by_cases h128:x.v.2.2.2.2.2.2.1.length=128
     ·rw[if_pos h128];exact e0.trans (if_pos (by simp[h128]))
     have e0:=e0.trans (if_neg (by simp;omega))
     rw[if_neg h128];have hsm:=ZKx hok hxm hym s n;have htg:=ZTb ht hxm hym s n;have fin:=ZQH (f:=f) hsm htg;by_cases hk2:y.v.2.1=2
     ·have e0:=e0.trans ((if_neg (by simp[hk2])).trans (ZK5 hok hxm p4 s n d y))
      refine e0.trans (Eq.trans ?_ fin)
      have hel:entL f.v.1 x y s n=ZBB f.v.1 (putI x s n):=by unfold entL;rw[if_neg (by simp[hk2])]
      rw[hel];by_cases hnd:(n !=d)=true
      ·have hy2:y∈ZBB f.v.1 (putI x s n):=(ZFl hok.so _ _).2 (.inr ⟨hym,by
        show y.v.1≠x.v.1
        rw[q2,p3];simpa using hnd⟩)
       rw[if_pos hnd,ZST (ZDf hok.so _) hy2]
      rw[if_neg hnd]
     have hnd:(n !=d)=true:=by
      rw[bne_iff_ne];intro h;have:y=x:=ZFk hok.so hym hxm (by rw[q2,p3,h])
      exact hk2 (by rw[this];exact p4)
     have hla:=ZBW hyal;have hw:IntKind.i64.wrap (y.v.2.2.2.1+1)=y.v.2.2.2.1+1:=i64w (by omega)
     have e0:=e0.trans ((if_pos (by simpa using hk2)).trans ((ZK5 hok hxm p4 s n d _).trans (if_pos hnd)))
     rw[hw] at e0;have hel:entL f.v.1 x y s n=ZBB (ZBB f.v.1 (putI x s n)) (ZP8 y 1):=by unfold entL;rw[if_pos (by simpa using hk2)]
     refine e0.trans (Eq.trans ?_ fin)
     rw[hel];rfl
  rw[if_pos hc];exact e0.trans (if_pos (by simpa using hc))
end Go.Ai.Rab
end
section
set_option maxRecDepth 10000
open Go.Ai.Enc (enc is)
namespace Go.Ai.Rab
theorem eqT (a:Int):(if true=true then some (a==a) else some false)=some true:=by simp
theorem ZMP {f:FsR} (hs:ZBz f.v.1) (ht:tgtL f.v.1) (kind mode:Int) (s:Str) (d n:Int) (hl:List.length s≤2000000):ZD3 f kind mode s d n=some true:=by
 obtain⟨b,h1,_⟩:=ZQA hs;have e0:ZD3 f kind mode s d n=_:=bds h1
 cases b with
 | false=>exact e0.trans ((if_pos rfl).trans ((bds ZPS).trans rfl))
 | true=>
  have e0:=e0.trans ((if_neg (by decide)).trans ((bds (ZSK hs kind mode s)).trans (bds (ZTZ hs ht kind mode s hl))))
  have e0:=e0.trans ((bds (ZMH hs d s n)).trans (bds (ZSd hs ht d s n)));have e0:=e0.trans (bds (ZNk (ZQF hs kind mode s)));have e0:=e0.trans ((bds (eqT _)).trans (bds (eqT _)));have e0:=e0.trans (bds (x:=true) ((if_pos rfl).trans ((bds (ZNk (ZSc hs d s n))).trans rfl)));exact e0.trans ((bds (eqT _)).trans ((bds (x:=true) ((if_pos rfl).trans ((bds ZPS).trans rfl))).trans rfl))
end Go.Ai.Rab
end
