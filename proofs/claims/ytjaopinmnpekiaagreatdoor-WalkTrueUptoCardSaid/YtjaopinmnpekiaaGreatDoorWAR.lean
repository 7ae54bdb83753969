/- My own texts DevPr1, DevPpE, DevPr2, DevPr3, DevPr4, DevWr1, one behind the other. -/
import Derived.Test.YtjaopinmnpekiaaGreatDoorWAQ
set_option linter.unusedVariables false
set_option linter.unusedSimpArgs false
section
open Go.Ai.Enc (enc is)
namespace Go.Ai.Rab
open Go.Lib (decodeL decodeN)
theorem ZEq {n:Int} {s:List UInt8} {x:Int} {i:Nat} (hn:n≤4) (hi:(i:Int)<n) (hl:i<List.length s) (hx:0≤x∧x<100000000):
  ZE3 n s (x,(i:Int))=if(List.getD s i 0).toNat / 64=2 then some (.inl (x*64+(List.getD s i 0).toNat - 128,((i+1:Nat):Int))) else some (.inr (.inr (65533,1,false))):=by
 have hc:=(List.getD s i 0).toNat_lt;generalize hc0:List.getD s i 0=c at*
 have e1:IntKind.i64.wrap (x*64)=x*64:=i64w (by omega)
 have e2:IntKind.i64.wrap (x*64+(c.toNat:Int))=x*64+c.toNat:=i64w (by omega)
 have e3:IntKind.i64.wrap (x*64+(c.toNat:Int) - 128)=x*64+c.toNat - 128:=i64w (by omega)
 have e4:IntKind.i64.wrap ((i:Int)+1)=(i:Int)+1:=i64w (by omega)
 have e5:nth s (i:Int)=some c:=by rw[←hc0];exact ZNy hl
 show(if decide ((i:Int)<n)=true then _ else _)=_
 rw[if_pos (decide_eq_true hi)];show((nth s (i:Int)).bind fun c1=>_)=_
 rw[e5,Option.bind_some,e1,e2,e3,e4];by_cases h1:c.toNat<128
 ·rw[if_pos (decide_eq_true (by omega)),Option.bind_some,if_pos rfl,if_neg (by omega)]
 rw[if_neg (by simp;omega),Option.bind_some]
 by_cases h2:c.toNat≥192
 ·rw[if_pos (decide_eq_true (by omega)),if_neg (by omega)]
 rw[if_neg (by simp;omega),if_pos (by omega)]
 rfl
theorem ZKt {n:Int} {s:List UInt8} {x:Int} {i:Int} (hi:¬i<n):ZE3 n s (x,i)=some (.inr (.inl x)):=by
 show(if decide (i<n)=true then _ else _)=_
 rw[if_neg (by simp;omega)]
theorem ZKu {least n x:Int}:ZE4 least n (.inl x)=some (if x<least∨x > 1114111∨(55296≤x∧x<57344) then(65533,1,false) else(x,n,true)):=by
 show(Option.bind _ _)=_
 by_cases h1:x<least
 ·rw[if_pos (decide_eq_true h1),Option.bind_some,if_pos rfl,Option.bind_some,if_pos rfl,if_pos (.inl h1)]
 rw[if_neg (by simpa using h1),Option.bind_some]
 by_cases h2:x > 1114111
 ·rw[if_pos (decide_eq_true h2),Option.bind_some,if_pos rfl,if_pos (.inr (.inl h2))]
 rw[if_neg (by simpa using h2)]
 by_cases h3:x≥55296
 ·rw[if_pos (decide_eq_true h3),Option.bind_some,Option.bind_some];by_cases h4:x<57344
  ·rw[if_pos (decide_eq_true h4),if_pos (by omega)]
  rw[if_neg (by simpa using h4),if_neg (by omega)]
 rw[if_neg (by simpa using h3),Option.bind_some,Option.bind_some,if_neg (by simp),if_neg (by omega)]
def refN (n b0 b1 b2 b3:Nat):Int×Int×Bool:=
 let fin (least w x:Int):Int×Int×Bool:=if x<least∨x > 1114111∨(55296≤x∧x<57344) then(65533,1,false) else(x,w,true)
 if b0<128 then(b0,1,true)
 else if 194≤b0∧b0<224 then(if n<2 then(65533,1,false) else if b1 / 64=2 then fin 128 2 ((b0 - 192)*64+b1 - 128) else(65533,1,false))
 else if 224≤b0∧b0<240 then(if n<3 then(65533,1,false) else if b1 / 64=2 then(if b2 / 64=2 then fin 2048 3 (((b0 - 224)*64+b1 - 128)*64+b2 - 128) else(65533,1,false)) else(65533,1,false))
 else if 240≤b0∧b0<245 then(if n<4 then(65533,1,false) else if b1 / 64=2 then(if b2 / 64=2 then(if b3 / 64=2 then fin 65536 4 ((((b0 - 240)*64+b1 - 128)*64+b2 - 128)*64+b3 - 128) else(65533,1,false)) else(65533,1,false)) else(65533,1,false))
 else(65533,1,false)
set_option maxHeartbeats 2000000 in
theorem ZUD (n b0 b1 b2 b3:Nat) (h0:b0<256) (h1:b1<256) (h2:b2<256) (h3:b3<256):refN n b0 b1 b2 b3=(((decodeN n b0 b1 b2 b3).1:Int),((decodeN n b0 b1 b2 b3).2:Int), !decide ((decodeN n b0 b1 b2 b3).1=65533∧(decodeN n b0 b1 b2 b3).2=1)):=by
 unfold refN decodeN;simp only[];repeat' split
 all_goals first
  | (exfalso;omega)
  | (simp;omega)
  | (simp;done)
  | skip
theorem ZUE {s:List UInt8} {x least:Int} (hx:0≤x∧x<1000):ZBN s 2 x least=some (if List.length s<2 then(65533,1,false) else if(List.getD s 1 0).toNat / 64=2 then(if x*64+(List.getD s 1 0).toNat - 128<least∨x*64+(List.getD s 1 0).toNat - 128 > 1114111∨(55296≤x*64+(List.getD s 1 0).toNat - 128∧x*64+(List.getD s 1 0).toNat - 128<57344) then(65533,1,false) else(x*64+(List.getD s 1 0).toNat - 128,2,true)) else(65533,1,false)):=by
 unfold ZBN;by_cases hl:List.length s<2
 ·rw[if_pos (decide_eq_true (by omega)),if_pos hl]
 rw[if_neg (by simp;omega),if_neg hl]
 have s1:=ZEq (n:=2) (s:=s) (x:=x) (i:=1) (by omega) (by omega) (by omega) (by omega)
 by_cases c1:(List.getD s 1 0).toNat / 64=2
 ·rw[if_pos c1] at s1;rw[if_pos c1,show((x,1):Int×Int)=(x,((1:Nat):Int)) from rfl,ZAe s1,ZAV (ZKt (by decide)),bd,ZKu]
 rw[if_neg c1] at s1;rw[if_neg c1,show((x,1):Int×Int)=(x,((1:Nat):Int)) from rfl,ZAV s1];rfl
theorem ZUF {s:List UInt8} {x least:Int} (hx:0≤x∧x<1000):ZBN s 3 x least=some (if List.length s<3 then(65533,1,false) else if(List.getD s 1 0).toNat / 64=2 then(if(List.getD s 2 0).toNat / 64=2 then(if(x*64+(List.getD s 1 0).toNat - 128)*64+(List.getD s 2 0).toNat - 128<least∨(x*64+(List.getD s 1 0).toNat - 128)*64+(List.getD s 2 0).toNat - 128 > 1114111∨(55296≤(x*64+(List.getD s 1 0).toNat - 128)*64+(List.getD s 2 0).toNat - 128∧(x*64+(List.getD s 1 0).toNat - 128)*64+(List.getD s 2 0).toNat - 128<57344) then(65533,1,false) else((x*64+(List.getD s 1 0).toNat - 128)*64+(List.getD s 2 0).toNat - 128,3,true)) else(65533,1,false)) else(65533,1,false)):=by
 unfold ZBN;by_cases hl:List.length s<3
 ·rw[if_pos (decide_eq_true (by omega)),if_pos hl]
 rw[if_neg (by simp;omega),if_neg hl]
 have s1:=ZEq (n:=3) (s:=s) (x:=x) (i:=1) (by omega) (by omega) (by omega) (by omega)
 by_cases c1:(List.getD s 1 0).toNat / 64=2
 ·rw[if_pos c1] at s1;have hb:=(List.getD s 1 0).toNat_lt;have s2:=ZEq (n:=3) (s:=s) (x:=x*64+(List.getD s 1 0).toNat - 128) (i:=2) (by omega) (by omega) (by omega) (by omega)
  rw[if_pos c1,show((x,1):Int×Int)=(x,((1:Nat):Int)) from rfl,ZAe s1]
  by_cases c2:(List.getD s 2 0).toNat / 64=2
  ·rw[if_pos c2] at s2;rw[if_pos c2,ZAe s2,ZAV (ZKt (by decide)),bd,ZKu]
  rw[if_neg c2] at s2;rw[if_neg c2,ZAV s2];rfl
 rw[if_neg c1] at s1;rw[if_neg c1,show((x,1):Int×Int)=(x,((1:Nat):Int)) from rfl,ZAV s1];rfl
theorem ZUG {s:List UInt8} {x least:Int} (hx:0≤x∧x<100):ZBN s 4 x least=some (if List.length s<4 then(65533,1,false) else if(List.getD s 1 0).toNat / 64=2 then(if(List.getD s 2 0).toNat / 64=2 then(if(List.getD s 3 0).toNat / 64=2 then(if((x*64+(List.getD s 1 0).toNat - 128)*64+(List.getD s 2 0).toNat - 128)*64+(List.getD s 3 0).toNat - 128<least∨((x*64+(List.getD s 1 0).toNat - 128)*64+(List.getD s 2 0).toNat - 128)*64+(List.getD s 3 0).toNat - 128 > 1114111∨(55296≤((x*64+(List.getD s 1 0).toNat - 128)*64+(List.getD s 2 0).toNat - 128)*64+(List.getD s 3 0).toNat - 128∧((x*64+(List.getD s 1 0).toNat - 128)*64+(List.getD s 2 0).toNat - 128)*64+(List.getD s 3 0).toNat - 128<57344) then(65533,1,false) else(((x*64+(List.getD s 1 0).toNat - 128)*64+(List.getD s 2 0).toNat - 128)*64+(List.getD s 3 0).toNat - 128,4,true)) else(65533,1,false)) else(65533,1,false)) else(65533,1,false)):=by
 unfold ZBN;by_cases hl:List.length s<4
 ·rw[if_pos (decide_eq_true (by omega)),if_pos hl]
 rw[if_neg (by simp;omega),if_neg hl]
 have s1:=ZEq (n:=4) (s:=s) (x:=x) (i:=1) (by omega) (by omega) (by omega) (by omega)
 by_cases c1:(List.getD s 1 0).toNat / 64=2
 ·rw[if_pos c1] at s1;have hb:=(List.getD s 1 0).toNat_lt;have s2:=ZEq (n:=4) (s:=s) (x:=x*64+(List.getD s 1 0).toNat - 128) (i:=2) (by omega) (by omega) (by omega) (by omega)
  rw[if_pos c1,show((x,1):Int×Int)=(x,((1:Nat):Int)) from rfl,ZAe s1]
  by_cases c2:(List.getD s 2 0).toNat / 64=2
  ·rw[if_pos c2] at s2;have hb2:=(List.getD s 2 0).toNat_lt;have s3:=ZEq (n:=4) (s:=s) (x:=(x*64+(List.getD s 1 0).toNat - 128)*64+(List.getD s 2 0).toNat - 128) (i:=3) (by omega) (by omega) (by omega) (by omega)
   rw[if_pos c2,ZAe s2];by_cases c3:(List.getD s 3 0).toNat / 64=2
   ·rw[if_pos c3] at s3;rw[if_pos c3,ZAe s3,ZAV (ZKt (by decide)),bd,ZKu]
   rw[if_neg c3] at s3;rw[if_neg c3,ZAV s3];rfl
  rw[if_neg c2] at s2;rw[if_neg c2,ZAV s2];rfl
 rw[if_neg c1] at s1;rw[if_neg c1,show((x,1):Int×Int)=(x,((1:Nat):Int)) from rfl,ZAV s1];rfl
theorem ZQx {s:List UInt8} (h:List.length s≠0):ZDe s=some (refN (List.length s) (List.getD s 0 0).toNat (List.getD s 1 0).toNat (List.getD s 2 0).toNat (List.getD s 3 0).toNat):=by
 have hc:=(List.getD s 0 0).toNat_lt;have e0:nth (α:=UInt8) s 0=some (List.getD s 0 0):=ZNy (l:=s) (i:=0) (by omega)
 unfold ZDe refN;rw[e0,bd];generalize hc0:List.getD s 0 0=c at*
 have w1:194≤c.toNat→IntKind.i64.wrap ((c.toNat:Int) - 192)=(c.toNat:Int) - 192:=fun _=>i64w (by omega)
 have w2:194≤c.toNat→IntKind.i64.wrap ((c.toNat:Int) - 224)=(c.toNat:Int) - 224:=fun _=>i64w (by omega)
 have w3:194≤c.toNat→IntKind.i64.wrap ((c.toNat:Int) - 240)=(c.toNat:Int) - 240:=fun _=>i64w (by omega)
 have D:∀{p q:Prop} [Decidable p] [Decidable q],(p↔q)→decide p=decide q:=fun h=>decide_eq_decide.2 h
 rw[D (show((c.toNat:Int)<128)↔c.toNat<128 by omega),D (show((c.toNat:Int)≥194)↔194≤c.toNat by omega),D (show((c.toNat:Int)<224)↔c.toNat<224 by omega),D (show((c.toNat:Int)≥224)↔224≤c.toNat by omega),D (show((c.toNat:Int)<240)↔c.toNat<240 by omega),D (show((c.toNat:Int)≥240)↔240≤c.toNat by omega),D (show((c.toNat:Int)<245)↔c.toNat<245 by omega)]
 by_cases a0:c.toNat<128
 ·simp only[a0,decide_true,if_true]
 by_cases a1:194≤c.toNat
 ·rw[w1 a1,w2 a1,w3 a1];by_cases a2:c.toNat<224
  ·simp only[a0,a1,a2,decide_true,decide_false,if_true,if_false,Bool.false_eq_true,bd,and_self];exact ZUE (by omega)
  have a3:224≤c.toNat:=by omega
  by_cases a4:c.toNat<240
  ·simp only[a0,a1,a2,a3,a4,decide_true,decide_false,if_true,if_false,Bool.false_eq_true,bd,and_self,and_false];exact ZUF (by omega)
  have a5:240≤c.toNat:=by omega
  by_cases a6:c.toNat<245
  ·simp only[a0,a1,a2,a3,a4,a5,a6,decide_true,decide_false,if_true,if_false,Bool.false_eq_true,bd,and_self,and_false];exact ZUG (by omega)
  simp only[a0,a1,a2,a3,a4,a5,a6,decide_true,decide_false,if_true,if_false,Bool.false_eq_true,bd,and_self,and_false]
 have a3:¬224≤c.toNat:=by omega
 have a5:¬240≤c.toNat:=by omega
 simp only[a0,a1,a3,a5,decide_true,decide_false,if_true,if_false,Bool.false_eq_true,bd,and_self,false_and]
theorem ZUH {s:List UInt8} (h:List.length s≠0):ZDe s=some ((rn s:Int),(wd s:Int),okr s):=by
 rw[ZQx h,ZUD _ _ _ _ _ (UInt8.toNat_lt _) (UInt8.toNat_lt _) (UInt8.toNat_lt _) (UInt8.toNat_lt _)];have e:decodeN (List.length s) (List.getD s 0 0).toNat (List.getD s 1 0).toNat (List.getD s 2 0).toNat (List.getD s 3 0).toNat=decodeL s:=(Go.Lib.decodeL_N s).symm
 rw[e];rfl
theorem ZJH {s:List UInt8} (hs:s.length≤9223372036854775807):∀(f p:Nat),p≤s.length→s.length≤p+f→loop (ZCi s) (p:Int)=some (if ZHv f (List.drop p s) then .inl () else .inr 206)
 | 0,p,h1,h2=>by
  refine(ZAV (r:= .inl ()) ?_).trans (by rfl)
  show(if decide ((p:Int)<((List.length s:Nat):Int))=true then _ else _)=_
  rw[if_neg (by simp;omega)]
 | f+1,p,h1,h2=>by
  by_cases hp:p<s.length
  ·have hne:=ZQa hp;have hw:=ZQY (List.drop p s);have hw2:=ZTz hne;rw[List.length_drop] at hw2;have hstep:ZCi s (p:Int)=if okr (List.drop p s)=true∧rn (List.drop p s)≠47∧rn (List.drop p s)≠0 then some (.inl ((p+wd (List.drop p s):Nat):Int)) else some (.inr (.inr 206)):=by
    show(if decide ((p:Int)<((List.length s:Nat):Int))=true then _ else _)=_
    rw[if_pos (decide_eq_true (by omega))]
    refine(bds (ZMH h1)).trans ((bds (ZUH (by rw[List.length_drop];omega))).trans ?_)
    show Option.bind (if(!okr (List.drop p s))=true then some true else some (((rn (List.drop p s):Nat):Int)==47)) _=_
    cases ho:okr (List.drop p s) with
    | false=>rfl
    | true=>
     by_cases e1:rn (List.drop p s)=47
     ·rw[e1];rfl
     have:(((rn (List.drop p s):Nat):Int)==47)=false:=by simp;omega
     rw[this];show(Option.bind (some (((rn (List.drop p s):Nat):Int)==0)) fun b2=>if b2=true then some (Sum.inr (Sum.inr 206)) else some (Sum.inl (IntKind.i64.wrap ((p:Int)+(wd (List.drop p s):Int)))))=_
     by_cases e2:rn (List.drop p s)=0
     ·rw[e2];rfl
     have:(((rn (List.drop p s):Nat):Int)==0)=false:=by simp;omega
     rw[this,if_pos ⟨rfl,e1,e2⟩];show some (Sum.inl (IntKind.i64.wrap ((p:Int)+(wd (List.drop p s):Int))))=_
     rw[i64w (by omega)];rfl
   have hpl:ZHv (f+1) (List.drop p s)=(okr (List.drop p s) && (rn (List.drop p s) !=47 && (rn (List.drop p s) !=0 && ZHv f (List.drop (p+wd (List.drop p s)) s)))):=by
    show(if List.drop p s=[] then true else _)=_
    rw[if_neg hne,List.drop_drop]
   by_cases hb:okr (List.drop p s)=true∧rn (List.drop p s)≠47∧rn (List.drop p s)≠0
   ·rw[if_pos hb] at hstep;rw[ZAe hstep,ZJH hs f _ (by omega) (by omega),hpl]
    have e1:(rn (List.drop p s) !=47)=true:=by simp;exact hb.2.1
    have e2:(rn (List.drop p s) !=0)=true:=by simp;exact hb.2.2
    rw[hb.1,e1,e2,Bool.true_and,Bool.true_and,Bool.true_and]
   rw[if_neg hb] at hstep;rw[ZAV hstep,hpl];have:(okr (List.drop p s) && (rn (List.drop p s) !=47 && (rn (List.drop p s) !=0 && ZHv f (List.drop (p+wd (List.drop p s)) s))))=false:=by
    cases ho:okr (List.drop p s) with
    | false=>rfl
    | true=>
     rw[ho] at hb;by_cases e1:rn (List.drop p s)=47
     ·simp[e1]
     have:rn (List.drop p s)=0:=Classical.byContradiction fun h=>hb ⟨rfl,e1,h⟩
     simp[this]
   rw[this];rfl
  refine(ZAV (r:= .inl ()) ?_).trans ?_
  ·show(if decide ((p:Int)<((List.length s:Nat):Int))=true then _ else _)=_
   rw[if_neg (by simp;omega)]
  have:List.drop p s=[]:=List.drop_of_length_le (by omega)
  rw[this];rfl
theorem ZMM (s:List UInt8):ZBP s=some (chkS s):=by
 unfold ZBP chkS;rw[ZFm,ZFm,ZFm];by_cases h0:s=[]
 ·rw[if_pos (decide_eq_true h0),if_pos h0]
 rw[if_neg (by simpa using h0),if_neg h0]
 by_cases h1:s.length > 100
 ·rw[if_pos (decide_eq_true (by omega)),if_pos h1]
 rw[if_neg (by simp;omega),if_neg h1]
 by_cases h2:s=[46]
 ·rw[if_pos (decide_eq_true h2),if_pos (.inl h2)];rfl
 rw[if_neg (by simpa using h2)]
 by_cases h3:s=[46,46]
 ·rw[decide_eq_true h3,if_pos (.inr h3)];rfl
 rw[decide_eq_false h3,if_neg (by simp[h2,h3])]
 show(loop (ZCi s) ((0:Nat):Int)).bind ZDf=_
 rw[ZJH (by omega) s.length 0 (by omega) (by omega),List.drop_zero]
 cases ZHv s.length s<;> rfl
theorem ZHD {l:List Str} (hl:l.length<9000000000000000000):ZBa l=some (risB l):=by
 have h:=ZEI (body:=ZE6 l) l.length (risP l) false (fun i hi=>by
  show(if decide ((i:Int)<(l.length:Int))=true then _ else _)=_
  rw[if_pos (decide_eq_true (by omega))]
  refine(bds (nthN hi)).trans ((bds (ZMM _)).trans ?_)
  have:(if decide ((i:Int) > 0)=true then((nth l (i:Int)).bind fun v2=>((nth l (IntKind.i64.wrap ((i:Int) - 1))).bind fun v3=>some (ltS v2 v3 || eqS v2 v3))) else some false)=some (decide (0<i) && (ltS (nmAt l i) (nmAt l (i - 1)) || eqS (nmAt l i) (nmAt l (i - 1)))):=by
   rw[←ZTH hi hl];congr 1
   exact bds (nthN hi)
  rw[this,ZQc,lim (by omega)]
  rfl) (by
  show(if decide ((l.length:Int)<(l.length:Int))=true then _ else _)=_
  rw[if_neg (by simp)]) 0 (Nat.zero_le _)
 refine(bds h).trans ?_
 show _=some ((List.range' 0 l.length).all (risP l))
 cases(List.range' 0 (l.length - 0)).all (risP l)<;> rfl
end Go.Ai.Rab
end
section
set_option maxRecDepth 10000
open Go.Ai.Enc (enc is)
namespace Go.Ai.Rab
theorem ZMN:∀{a b:List Int},a.Nodup→(∀x∈a,x∈b)→a.length≤b.length
 | [],_,_,_=>Nat.zero_le _
 | x::a,b,h,hs=>by
  rw[List.nodup_cons] at h;have hx:=hs x List.mem_cons_self;have:=ZMN (b:=b.erase x) h.2 fun y hy=>by
   have hne:y≠x:=fun e=>h.1 (by rw[←e];exact hy)
   exact(List.mem_erase_of_ne hne).2 (hs y (lM _ hy))
  rw[List.length_erase_of_mem hx] at this;have:=List.length_pos_of_mem hx
  simp only[List.length_cons];omega
theorem ZJu {l:List ZAO} {S:List Int} (hS:∀n p,p∈upsL l n→p∈S):∀(m:Nat) (n:Int),n∈S→ZDh l (m+1) n=true→ZDh l m n=false→
  ∃c:List Int,c.length=m+1∧c.Nodup∧(∀x∈c,x∈S)∧∀x∈c,ZDh l (m+1) x=true
 | 0,n,hn,h1,_=>⟨[n],rfl,by simp,by simpa using hn,by simpa using h1⟩
 | m+1,n,hn,h1,h2=>by
  have h1' :=h1
  have h2' :=h2
  unfold ZDh at h1 h2
  cases hu:upsL l n with
  | nil=>rw[hu] at h2;cases h2
  | cons p q=>
   rw[hu] at h1 h2;simp only at h1 h2
   obtain⟨c,c1,c2,c3,c4⟩:=ZJu hS m p (hS n p (by rw[hu];exact List.mem_cons_self)) h1 h2
   refine⟨n::c,by simp[c1],?_,?_,?_⟩
   ·rw[List.nodup_cons];exact⟨fun hm=>(by rw[c4 n hm] at h2';cases h2'),c2⟩
   ·intro x hx;rcases List.mem_cons.1 hx with rfl | hx
    ·exact hn
    exact c3 x hx
   intro x hx;rcases List.mem_cons.1 hx with rfl | hx
   ·exact h1'
   exact ZF4 _ _ _ (by omega) (c4 x hx)
theorem ZJv {l:List ZAO} {S:List Int} (hS:∀n p,p∈upsL l n→p∈S):∀(d:Nat) (n:Int),n∈S→ZDh l d n=true→ZDh l S.length n=true
 | 0,_,_,h=>by cases h
 | d+1,n,hn,h=>by
  cases hd:ZDh l d n with
  | true=>exact ZJv hS d n hn hd
  | false=>
   obtain⟨c,c1,c2,c3,_⟩:=ZJu hS d n hn h hd;exact ZF4 _ _ _ (by have:=ZMN c2 c3;omega) h
theorem ZR6 {l:List ZAO} {x:ZAO} (hx:x∈l) (d:Nat) (hd:l.length≤d):ZDh l d x.v.1=ZDh l l.length x.v.1:=by
 rw[Bool.eq_iff_iff];constructor
 ·intro h;have:=ZJv (S:=l.map fun y=>y.v.1) (fun n p hp=>by
   obtain⟨y,hy,e,_⟩:=ZH3.1 hp;rw[e];exact List.mem_map_of_mem hy) d x.v.1 (List.mem_map_of_mem hx) h
  rwa [List.length_map] at this
 exact ZF4 _ _ _ hd
end Go.Ai.Rab
end
section
set_option maxRecDepth 10000
open Go.Ai.Enc (enc is)
namespace Go.Ai.Rab
theorem ZH5 {f:FsR} (hl:f.v.1.length<9000000000000000000) (n:Int):ZBr f n=some (fndI f.v.1 n):=by
 have h:=ZF3 (body:=ZGV f n) f.v.1.length (fun i=>(inAt f.v.1 i).v.1==n) (fun i hi=>by
  refine(if_pos (decide_eq_true (show(i:Int)<(f.v.1.length:Int) by omega))).trans ?_
  refine(bds (ZD6 hi)).trans ?_
  rw[lim (by omega)]) (if_neg (by simp)) f.v.1.length 0 (by omega)
 have e0:ZBr f n=_:=bds h
 refine e0.trans ?_
 unfold fndI posI
 cases(List.range' 0 f.v.1.length).find? (fun i=>(inAt f.v.1 i).v.1==n)<;> rfl
theorem ZQy {α ρ:Type} {body:Int→Option (Int ⊕ Int)} (l:List α) (less:α→Bool) (h:∀i (hi:i<l.length),body (i:Int)=if less l[i]=true then some (.inl ((i+1:Nat):Int)) else some (.inr (i:Int))) (he:body (l.length:Int)=some (.inr (l.length:Int))):
  ∀(d i:Nat),i+d=l.length→loop body (i:Int)=some ((i+pt less (l.drop i):Nat):Int)
 | 0,i,hi=>by
  have:i=l.length:=by omega
  subst this;rw[ZAV he,List.drop_length];rfl
 | d+1,i,hi=>by
  have hi' :i<l.length:=by omega
  have h1:=h i hi';rw[List.drop_eq_getElem_cons hi',ZKn]
  cases hl:less l[i] with
  | true=>
   rw[hl,if_pos rfl] at h1;rw[ZAe h1,ZQy (ρ:=ρ) l less h he d (i+1) (by omega),if_pos rfl]
   congr 2;omega
  | false=>
   rw[hl,if_neg Bool.false_ne_true] at h1;rw[ZAV h1,if_neg Bool.false_ne_true];rfl
theorem ZV5 {x:ZAO} (hl:x.v.2.2.2.2.2.2.1.length≤2000000) (s:Str):ZI5 x s=some (((ptN x.v.2.2.2.2.2.2.1 s:Nat):Int),hasN x.v.2.2.2.2.2.2.1 s):=by
 generalize hn:x.v.2.2.2.2.2.2.1=ns at*
 have h1:=ZQy (ρ:=Unit) (body:=ZFi x s) ns (fun a:Str=>ltS a s) (fun i hi=>by
  have e0:ZFi x s (i:Int)=_:=bds (x:=ltS ns[i] s) (by
   rw[hn,if_pos (decide_eq_true (show(i:Int)<(ns.length:Int) by omega))]
   exact bds (ZB1 hi))
  rw[e0,lim (by omega)]) (by
  have e0:ZFi x s (ns.length:Int)=_:=bds (x:=false) (by rw[hn,if_neg (by simp)])
  exact e0.trans (if_neg (by decide))) ns.length 0 (by omega)
 rw[List.drop_zero,Nat.zero_add] at h1;refine(bds h1).trans ?_
 have hp:=ZRu (fun a:Str=>ltS a s) ns
 show((if decide (((ptN ns s:Nat):Int)<(x.v.2.2.2.2.2.2.1.length:Int))=true then((nth x.v.2.2.2.2.2.2.1 ((ptN ns s:Nat):Int)).bind fun v1=>some (eqS v1 s)) else some false).bind fun b1=>some (((ptN ns s:Nat):Int),b1))=_
 rw[hn];unfold hasN;by_cases h:ptN ns s<ns.length
 ·rw[if_pos (decide_eq_true (by omega)),decide_eq_true h,Bool.true_and,nthN h];rfl
 rw[if_neg (by simp;omega),decide_eq_false h];rfl
/-! ### In how many places a number stands, and where -/
theorem ZQz {f:FsR} (hl:f.v.1.length≤512) {i:Nat} (hi:i<f.v.1.length) (hx:(inAt f.v.1 i).v.2.2.2.2.2.2.2.1.length≤200) (k:Int) (n0:Nat) (hn0:n0≤1000000):
  loop (ZB8 f (i:Int) k) ((n0:Int),0)=some ((n0+(upsX (inAt f.v.1 i) (inAt f.v.1 i).v.2.2.2.2.2.2.2.1 k).length:Nat):Int):=by
 generalize hxx:inAt f.v.1 i=x at*
 generalize hns:x.v.2.2.2.2.2.2.2.1=ns at*
 have hn:=ZD6 hi;rw[hxx] at hn;obtain⟨r,h1,h2⟩:=ZCk (body:=ZB8 f (i:Int) k) ns.length (fun j a=>a=((n0+(upsX x (ns.take j) k).length:Nat):Int)) (fun r=>r=((n0+(upsX x ns k).length:Nat):Int)) (fun j a hj ha=>by
  subst ha;have hu:=ZKk x (ns.take j) k;rw[List.length_take] at hu;have e0:ZB8 f (i:Int) k (((n0+(upsX x (ns.take j) k).length:Nat):Int),(j:Int))=_:=bds hn
  have e0:=e0.trans ((if_pos (by rw[hns];exact decide_eq_true (by omega))).trans (bds hn))
  rw[hns] at e0;have e0:=e0.trans (bds (ZB1 hj));refine⟨_,?_,rfl⟩
  have ht:ns.take (j+1)=ns.take j++[ns[j]]:=by rw[List.take_add_one,List.getElem?_eq_getElem hj];rfl
  have hlen:(upsX x (ns.take (j+1)) k).length=(upsX x (ns.take j) k).length+if ns[j]=k then 1 else 0:=by
   rw[ht];unfold upsX;rw[List.filter_append,List.map_append,List.length_append];by_cases e:ns[j]=k
   ·rw[if_pos e];simp[e]
   rw[if_neg e];simp[e]
  rw[hlen];unfold ZCh at e0;rw[lim (by omega)] at e0
  by_cases e:ns[j]=k
  ·rw[if_pos e];refine e0.trans ((if_pos (beq_iff_eq.2 e)).trans ?_)
   rw[lim (by omega)];rfl
  ·rw[if_neg e];exact e0.trans ((if_neg (fun h=>e (beq_iff_eq.1 h))).trans (by rw[lim (by omega)];rfl))) (fun a ha=>by
  rw[List.take_length] at ha;refine⟨a,?_,ha⟩
  have e0:ZB8 f (i:Int) k (a,(ns.length:Int))=_:=bds hn
  exact e0.trans (if_neg (by rw[hns];simp))) 0 (n0:Int) (by omega) (by simp[upsX])
 rw[←h2];exact h1
theorem ZQ0 {f:FsR} (hl:f.v.1.length≤512) (hx:∀x∈f.v.1,x.v.2.2.2.2.2.2.2.1.length≤200) (k:Int):ZC1 f k=some (((upsL f.v.1 k).length:Nat):Int):=by
 obtain⟨r,h1,h2⟩:=ZCk (body:=ZDd f k) f.v.1.length (fun i a=>a=(((upsL (f.v.1.take i) k).length:Nat):Int)) (fun r=>r=(((upsL f.v.1 k).length:Nat):Int)) (fun i a hi ha=>by
  subst ha;have hu:=ZKl k (f.v.1.take i) (fun x hx' =>hx x (List.mem_of_mem_take hx'))
  rw[List.length_take] at hu;have e0:ZDd f k ((((upsL (f.v.1.take i) k).length:Nat):Int),(i:Int))=_:=if_pos (decide_eq_true (show(i:Int)<(f.v.1.length:Int) by omega))
  have e0:=e0.trans (bds (ZQz hl hi (hx _ (ZBS hi)) k _ (by omega)))
  refine⟨_,e0.trans ?_,rfl⟩
  have ht:f.v.1.take (i+1)=f.v.1.take i++[inAt f.v.1 i]:=by rw[List.take_add_one,List.getElem?_eq_getElem hi,ZBo hi];rfl
  rw[ht,ZRy,List.length_append];show some (Sum.inl (_,IntKind.i64.wrap ((i:Int)+1)))=_
  rw[lim (by omega),ZMG]
  simp[upsL]) (fun a ha=>by
  rw[List.take_length] at ha;exact⟨a,if_neg (by simp),ha⟩) 0 0 (by omega) (by simp[upsL])
 subst h2;exact bds h1
theorem ZV6 {f:FsR} {i:Nat} (hi:i<f.v.1.length) (hx:(inAt f.v.1 i).v.2.2.2.2.2.2.2.1.length≤200) (k:Int):
  loop (ZEl f (i:Int) k) 0=some (match upsX (inAt f.v.1 i) (inAt f.v.1 i).v.2.2.2.2.2.2.2.1 k with | []=> .inl () | p::_=> .inr p):=by
 generalize hxx:inAt f.v.1 i=x at*
 generalize hns:x.v.2.2.2.2.2.2.2.1=ns at*
 have hn:=ZD6 hi;rw[hxx] at hn;have key:∀(d j:Nat),j+d=ns.length→loop (ZEl f (i:Int) k) (j:Int)=some (match upsX x (ns.drop j) k with | []=> .inl () | p::_=> .inr p):=by
  intro d;induction d with
  | zero=>
   intro j hj;have:j=ns.length:=by omega
   subst this;have e0:ZEl f (i:Int) k (ns.length:Int)=_:=bds hn
   rw[ZAV (e0.trans (if_neg (by rw[hns];simp))),List.drop_length];rfl
  | succ d ih=>
   intro j hj;have hj' :j<ns.length:=by omega
   have e0:ZEl f (i:Int) k (j:Int)=_:=bds hn
   have e0:=e0.trans ((if_pos (by rw[hns];exact decide_eq_true (by omega))).trans (bds hn))
   rw[hns] at e0;have e0:=e0.trans (bds (ZB1 hj'));rw[List.drop_eq_getElem_cons hj'];by_cases e:ns[j]=k
   ·have e0:=e0.trans ((if_pos (by simpa using e)).trans (bds hn))
    rw[ZAV e0];unfold upsX;rw[List.filter_cons,if_pos (by simpa using e)];rfl
   have e0:=e0.trans (if_neg (by simpa using e))
   rw[lim (by omega)] at e0
   rw[ZAe e0,ih (j+1) (by omega)]
   have:upsX x (ns[j]::ns.drop (j+1)) k=upsX x (ns.drop (j+1)) k:=by
    unfold upsX;rw[List.filter_cons,if_neg (by simpa using e)]
   rw[this]
 exact key ns.length 0 (by omega)
theorem ZV7 {f:FsR} (hl:f.v.1.length≤512) (hx:∀x∈f.v.1,x.v.2.2.2.2.2.2.2.1.length≤200) (k:Int):ZI4 f k=some ((upsL f.v.1 k).headD 0):=by
 have key:∀(d i:Nat),i+d=f.v.1.length→loop (ZEm f k) (i:Int)=some (match upsL (f.v.1.drop i) k with | []=> .inl () | p::_=> .inr p):=by
  intro d;induction d with
  | zero=>
   intro i hi;have:i=f.v.1.length:=by omega
   subst this;have e0:ZEm f k (f.v.1.length:Int)=some (.inr (.inl ())):=if_neg (by simp)
   rw[ZAV e0,List.drop_length];rfl
  | succ d ih=>
   intro i hi;have hi' :i<f.v.1.length:=by omega
   have e0:ZEm f k (i:Int)=_:=if_pos (decide_eq_true (show(i:Int)<(f.v.1.length:Int) by omega))
   have e0:=e0.trans (bds (ZV6 hi' (hx _ (ZBS hi')) k));rw[List.drop_eq_getElem_cons hi',ZMG,←ZBo hi']
   cases hu:upsX (inAt f.v.1 i) (inAt f.v.1 i).v.2.2.2.2.2.2.2.1 k with
   | nil=>
    rw[hu] at e0;have e1:ZEm f k (i:Int)=some (.inl ((i+1:Nat):Int)):=e0.trans (by show some (Sum.inl (IntKind.i64.wrap ((i:Int)+1)))=_;rw[lim (by omega)])
    rw[ZAe e1,ih (i+1) (by omega),List.nil_append]
   | cons p q=>
    rw[hu] at e0;rw[ZAV (e0.trans rfl),List.cons_append]
 refine(bds (key f.v.1.length 0 (by omega))).trans ?_
 rw[List.drop_zero]
 cases upsL f.v.1 k<;> rfl
/-! ### The way up -/
def ZKv (l:List ZAO):Nat→Int→Bool
 | 0,_=>false
 | d+1,n=>if n=0 then true else ZKv l d ((upsL l n).headD 0)
theorem ZR7 {f:FsR} (hl:f.v.1.length≤512) (hx:∀x∈f.v.1,x.v.2.2.2.2.2.2.2.1.length≤200) (n:Int):ZEE f n=some (ZKv f.v.1 (f.v.1.length+1) n):=by
 have key:∀(d i:Nat) (n:Int),i+d=f.v.1.length+1→loop (ZD2 f) (n,(i:Int))=some (if ZKv f.v.1 d n=true then .inr true else .inl ()):=by
  intro d;induction d with
  | zero=>
   intro i n hi;have e0:ZD2 f (n,(i:Int))=some (.inr (.inl ())):=if_neg (by rw[decide_eq_true_eq];omega)
   exact(ZAV e0).trans rfl
  | succ d ih=>
   intro i n hi;have e0:ZD2 f (n,(i:Int))=_:=if_pos (decide_eq_true (show(i:Int)≤(f.v.1.length:Int) by omega))
   unfold ZKv;by_cases hn:n=0
   ·rw[if_pos hn];exact(ZAV (e0.trans (if_pos (by simpa using hn)))).trans rfl
   rw[if_neg hn];have e0:=e0.trans ((if_neg (by simpa using hn)).trans (bds (ZV7 hl hx n)))
   rw[lim (by omega)] at e0
   rw[ZAe e0];exact ih (i+1) _ (by omega)
 refine(bds (key (f.v.1.length+1) 0 n (by omega))).trans ?_
 cases ZKv f.v.1 (f.v.1.length+1) n<;> rfl
theorem ZQ1 {l:List ZAO} (h:∀x∈l,x.v.1≠0):∀(d:Nat) (n:Int),n≠0→ZKv l (d+1) n=ZDh l d n
 | 0,n,hn=>by
  unfold ZKv;rw[if_neg hn];rfl
 | d+1,n,hn=>by
  unfold ZKv ZDh;rw[if_neg hn]
  cases hu:upsL l n with
  | nil=>unfold ZKv;exact if_pos rfl
  | cons p q=>
   have hp:p≠0:=by
    obtain⟨x,hx,e,_⟩:=ZH3.1 (show p∈upsL l n by rw[hu];exact List.mem_cons_self)
    rw[e];exact h x hx
   exact ZQ1 h d p hp
end Go.Ai.Rab
end
section
set_option maxRecDepth 10000
open Go.Ai.Enc (enc is)
namespace Go.Ai.Rab
theorem ZEr (n lo hi:Int):ZAi n lo hi=some (decide (lo≤n∧n≤hi)):=by
  unfold ZAi;rw[dec2];rfl
theorem orN {a c:Bool} {o:Option Bool} (h:o=some c):(if(!a)=true then some true else(o.bind fun r=>some (!r)))=some (!(a && c)):=by rw[h];cases a<;> rfl
theorem ZR8 (t:List UInt8):(List.range' 0 (t.length - 0)).all (fun i=> !((t.getD i 0).toNat==0))= !decide (Go.Lib.indexByte t 0≥0):=by
  rw[Nat.sub_zero,Bool.eq_iff_iff,ZBb];have hge:=Go.Lib.indexByte_ge t 0;constructor
  · intro h
    by_cases hi:Go.Lib.indexByte t 0≥0
    · obtain⟨o,ho⟩:∃o:Nat,Go.Lib.indexByte t 0=o:=⟨_,(Int.toNat_of_nonneg hi).symm⟩
      have h1:=(Go.Lib.indexByte_some ho).1;obtain⟨h2,h3⟩:=List.getElem?_eq_some_iff.1 h1;have h4:=h o h2;rw[List.getD_eq_getElem?_getD,h1] at h4
      cases h4
    rw[decide_eq_false hi];rfl
  intro h i hi;have hne:¬Go.Lib.indexByte t 0≥0:=by simpa using h
  have h1:=Go.Lib.indexByte_none (l:=t) (c:=0) (by omega) i
  have h5:¬(t.getD i 0).toNat=0:=fun e=>h1 (by
    have e2:t.getD i 0=0:=UInt8.toNat_inj.1 (by simpa using e)
    rw[List.getD_eq_getElem?_getD,List.getElem?_eq_getElem hi] at e2;rw[List.getElem?_eq_getElem hi];exact congrArg some e2)
  simpa using h5
theorem ZR9 {t:Str} (ht:List.length t≤2000000):ZDP t=some (!decide (Go.Lib.indexByte t 0≥0)):=by
  have h:=ZEI (body:=ZEF t) (List.length t) (fun i=> !((List.getD (α:=UInt8) t i 0).toNat==0)) false (fun i hi=>by
    have e0:ZEF t (i:Int)=_:=if_pos (decide_eq_true (show(i:Int)<((List.length t:Nat):Int) by omega))
    have e0:=e0.trans (bds (ZNy hi));rw[lim (by omega)] at e0
    by_cases e:(List.getD (α:=UInt8) t i 0).toNat=0
    · rw[show((List.getD (α:=UInt8) t i 0).toNat==0)=true by simpa using e]
      exact e0.trans (if_pos (by rw[e];rfl))
    rw[show((List.getD (α:=UInt8) t i 0).toNat==0)=false by simpa using e]
    exact e0.trans (if_neg (by rw[beq_iff_eq];omega))) (if_neg (by simp)) 0 (Nat.zero_le _)
  refine(bds h).trans ?_
  have key:=ZR8 (show List UInt8 from t)
  have key:(List.range' 0 (List.length t - 0)).all (fun i=> !((List.getD (α:=UInt8) t i 0).toNat==0))= !decide (Go.Lib.indexByte t 0≥0):=key
  rw[key]
  cases decide (Go.Lib.indexByte t 0≥0)<;> rfl
theorem ZSA {k m n:Int} {t:Str} {l:List ZAg} (hl:l.length≤2000000) (ht:List.length t≤2000000):ZEG (ZEJ k m n t l)=some (ZGb k m n t l):=by
  have e0:ZEG (ZEJ k m n t l)=_:=bds (ZEr k 1 3)
  have e0:=e0.trans (bds (orN (ZEr m 0 4095)));have e0:=e0.trans (bds (orN (ZEr n 0 64)));have e0:=e0.trans (bds (orN (ZEr 0 0 32768)));have g8:∀a:Bool,(if(!a)=true then some true else some (decide ((l.length:Int) > 8)))=some (!(a && decide (l.length≤8))):=fun a=>by
    have:decide ((l.length:Int) > 8)= !decide (l.length≤8):=by
      by_cases h:l.length≤8
      · rw[decide_eq_true h,decide_eq_false (by omega)];rfl
      rw[decide_eq_false h,decide_eq_true (by omega)];rfl
    rw[this];cases a<;> rfl
  have e0:=e0.trans (bds (g8 _));have hz:decide ((0:Int)≤0∧(0:Int)≤32768)=true:=by decide
  rw[hz,Bool.and_true] at e0;have tg:((if(k==3)=true then((ZAi ((List.length t:Nat):Int) 1 1000).bind fun r_4=>((if(!r_4)=true then some true else((ZDP t).bind fun r_5=>some (!r_5))).bind fun b5=>some b5)) else some false).bind fun b4=>(if b4=true then some true else((if(k !=3)=true then some (!eqS t (str [])) else some false).bind fun b7=>some b7)))=some (!tgB k t):=by
    unfold tgB;by_cases hk:k=3
    · rw[if_pos (by simpa using hk),if_neg (by simp[hk]),ZEr,ZR9 ht]
      have e1:decide (1≤((List.length t:Nat):Int)∧((List.length t:Nat):Int)≤1000)=(!eqS t (str []) && decide (List.length t≤1000)):=by
        by_cases h0:List.length t=0
        · have:eqS t (str [])=true:=(ZHX t []).2 (List.eq_nil_of_length_eq_zero h0)
          rw[this,decide_eq_false (by omega)];rfl
        have:eqS t (str [])=false:=by
          rw[←Bool.not_eq_true];intro h;exact h0 (by rw[(ZHX t []).1 h];rfl)
        rw[this,Bool.not_false,Bool.true_and,decide_eq_decide];omega
      rw[e1,if_neg (show ¬(k !=3)=true by simp[hk])]
      cases(!eqS t (str []))<;> cases decide (List.length t≤1000)<;> cases decide (Go.Lib.indexByte t 0≥0)<;> rfl
    rw[if_neg (by simpa using hk),if_pos (by simpa using hk),if_pos (by simpa using hk)]
    cases eqS t (str [])<;> rfl
  unfold ZGb ZI7;by_cases hh:(((decide (1≤k∧k≤3) && decide (0≤m∧m≤4095)) && decide (0≤n∧n≤64)) && decide (l.length≤8))=true
  · rw[hh] at e0
    have e0:=e0.trans (if_neg (by decide))
    simp only[Bool.and_eq_true] at hh;obtain⟨⟨⟨h1,h2⟩,h3⟩,h4⟩:=hh;rw[h1,h2,h3,h4];have e0:=e0.trans ((Option.bind_assoc ..).symm.trans (bds tg))
    cases htg:tgB k t with
    | false=>rw[htg] at e0;exact e0.trans (if_pos rfl)
    | true=>
      rw[htg] at e0;have e0:=e0.trans (if_neg (by decide))
      have h:=ZHY (body:=ZGZ (ZEJ k m n t l)) (l:=l) (fun a=>a.v.1) (atP l) (fun i hi s hs=>by
        refine(if_pos (decide_eq_true (show(i:Int)<(l.length:Int) by omega))).trans ?_
        refine(bds (ZB1 hi)).trans ((bds (ZG7 s [l[i].v.1] (by simp;omega) (by simp;omega))).trans ((bds (ZB1 hi)).trans ?_))
        have:atP l i=decide (l[i].v.2.1.length≤256):=by simp[atP,hi]
        rw[this,lim (by omega)]
        by_cases hc:l[i].v.2.1.length≤256
        · rw[decide_eq_true hc,if_neg (by simp;omega),if_pos rfl]
        rw[decide_eq_false hc,if_pos (decide_eq_true (by omega)),if_neg Bool.false_ne_true]) (fun s=>if_neg (by simp)) l.length 0 (by omega) [] rfl
      have e0:=e0.trans (bds h);refine e0.trans ?_
      cases(List.range' 0 l.length).all (atP l) with
      | false=>rfl
      | true=>
        rw[if_pos rfl];have hr:ZDg ([]:List RefR)=some (0,true):=by
          unfold ZDg;rw[if_neg (by decide)]
          exact(bds (x:= .inl 0) (ZAV rfl)).trans rfl
        show((ZDg ([]:List RefR)).bind fun r_6=>((ZBa (List.map (fun a:ZAg=>a.v.1) l)).bind fun r_7=>((if r_7=true then some r_6.2 else some false).bind fun b8=>((if b8=true then some (r_6.1==0) else some false).bind fun b9=>((if b9=true then((if(k !=3)=true then some true else some ((0:Int)==0)).bind fun b11=>some b11) else some false).bind fun b10=>some b10)))))=_
        rw[hr,ZHD (by simp;omega)]
        cases risB (List.map (fun a:ZAg=>a.v.1) l)<;> cases(k !=3)<;> rfl
  have hh' :(((decide (1≤k∧k≤3) && decide (0≤m∧m≤4095)) && decide (0≤n∧n≤64)) && decide (l.length≤8))=false:=by simpa using hh
  rw[hh'] at e0;refine(e0.trans (if_pos rfl)).trans ?_
  revert hh'
  cases decide (1≤k∧k≤3)<;> cases decide (0≤m∧m≤4095)<;> cases decide (0≤n∧n≤64)<;> cases decide (l.length≤8)<;> cases tgB k t<;> cases(List.range' 0 l.length).all (atP l)<;> simp
theorem ZNQ {a:List Str} {b:List Int} (ha:a.length≤2000000) (hb:b.length≤2000000):ZBn (ZFo a b)=some (ZGc a b):=by
  have g1:(if decide ((a.length:Int) > 256)=true then some true else((ZBa a).bind fun r_=>some (!r_)))=some (!(decide (a.length≤256) && risB a)):=by
    rw[ZHD (by omega)]
    by_cases h:a.length≤256
    · rw[if_neg (by simp;omega),decide_eq_true h];rfl
    rw[if_pos (decide_eq_true (by omega)),decide_eq_false h];rfl
  have e0:ZBn (ZFo a b)=_:=bds g1
  have g2:∀x:Bool,(if(!x)=true then some true else some ((b.length:Int) !=(a.length:Int)))=some (!(x && decide (b.length=a.length))):=fun x=>by
    have:((b.length:Int) !=(a.length:Int))= !decide (b.length=a.length):=by rw[Bool.eq_iff_iff];simp;omega
    rw[this];cases x<;> rfl
  have e0:=e0.trans (bds (g2 _));have h:=ZEI (body:=ZER (ZFo a b)) b.length (fun i=>numB (b.getD i 0)) false (fun i hi=>by
    refine(if_pos (decide_eq_true (show(i:Int)<(b.length:Int) by omega))).trans ?_
    refine(bds (nthD 0 hi)).trans ((bds (ZEr _ 0 1024)).trans ?_)
    generalize hv:b.getD i 0=v
    have:(if(!decide (0≤v∧v≤1024))=true then some true else((if true=true then((nth b (i:Int)).bind fun v2=>some (v2==0)) else some false).bind fun b3=>some b3))=some (!numB v):=by
      rw[if_pos rfl,nthD 0 hi,hv];unfold numB;by_cases h1:0≤v∧v≤1024
      · rw[decide_eq_true h1,if_neg (by decide)]
        by_cases h2:v=0
        · subst h2;rfl
        have:(v==0)=false:=by simpa using h2
        rw[decide_eq_true (show 1≤v∧v≤1024 by omega)]
        show(Option.bind (Option.bind (some v) fun v2=>some (v2==0)) fun b3=>some b3)=_
        rw[bd,this];rfl
      rw[decide_eq_false h1,decide_eq_false (show ¬(1≤v∧v≤1024) by omega)];rfl
    refine(bds this).trans ?_
    rw[lim (by omega)]
    cases numB v<;> rfl) (if_neg (by simp)) 0 (Nat.zero_le _)
  have hall:b.all numB=(List.range' 0 (b.length - 0)).all fun i=>numB (b.getD i 0):=by
    rw[Nat.sub_zero,Bool.eq_iff_iff,List.all_eq_true,ZBb];constructor
    · intro h i hi
      simp only[List.getD_eq_getElem?_getD,List.getElem?_eq_getElem hi,Option.getD_some];exact h _ (List.getElem_mem hi)
    intro h x hx;obtain⟨i,hi,rfl⟩:=List.getElem_of_mem hx;have:=h i hi
    simpa only[List.getD_eq_getElem?_getD,List.getElem?_eq_getElem hi,Option.getD_some] using this
  unfold ZGc;rw[hall];refine e0.trans ?_
  cases h1:decide (a.length≤256)<;> cases h2:risB a<;> cases h3:decide (b.length=a.length)<;> first
    | rfl
    | (refine(bds h).trans ?_
       cases(List.range' 0 (b.length - 0)).all fun i=>numB (b.getD i 0)<;> rfl)
    | simp
theorem ZQ2 {x:ZAO} (h:ZMC x) (ht:List.length x.v.2.2.2.2.2.1≤2000000):ZDR x=some (ZCp x):=by
  obtain⟨h1,h2,h3,h4⟩:=h;obtain⟨⟨num,k,m,n,d,t,ns,is,at_,u⟩⟩:=x;simp only at h1 h2 h3 h4 ht
  have e0:ZDR (Rec.mk (num,k,m,n,d,t,ns,is,at_,u))=_:=bds (ZSA (k:=k) (m:=m) (n:=n) h4 ht)
  generalize hM:ZGb k m n t at_=M at e0
  have g1:∀x:Bool,((if(!x)=true then some true else some (decide ((d.length:Int) > 32768))).bind fun b=>(if b=true then some true else((if(k !=1)=true then some (decide ((d.length:Int) > 0)) else some false).bind fun b2=>some b2)))=some (!(x && (decide (d.length=0) || decide (k=1∧d.length≤32768)))):=fun x=>by
    cases x with
    | false=>rfl
    | true=>
      rw[if_neg (by decide),bd,Bool.true_and]
      by_cases hd:d.length > 32768
      · rw[decide_eq_true (show(d.length:Int) > 32768 by omega),if_pos rfl,decide_eq_false (by omega),decide_eq_false (by omega)];rfl
      rw[decide_eq_false (show ¬(d.length:Int) > 32768 by omega),if_neg (by decide)]
      by_cases hk:k=1
      · rw[if_neg (by simp[hk]),decide_eq_true (show k=1∧d.length≤32768 by omega),Bool.or_true];rfl
      rw[if_pos (by simpa using hk),decide_eq_false (show ¬(k=1∧d.length≤32768) by omega),Bool.or_false]
      by_cases h0:d.length=0
      · rw[decide_eq_true h0,decide_eq_false (by omega)];rfl
      rw[decide_eq_false h0,decide_eq_true (by omega)];rfl
  have e0:=e0.trans ((Option.bind_assoc ..).symm.trans (bds (g1 _)));have g3:∀x:Bool,((if(!x)=true then some true else some (decide (num<1))).bind fun b3=>(if b3=true then some true else some (decide (num > 1024))))=some (!(x && decide (1≤num∧num≤1024))):=fun x=>by
    cases x with
    | false=>rfl
    | true=>
      rw[if_neg (by decide),bd,Bool.true_and]
      by_cases hn:num<1
      · rw[if_pos (decide_eq_true hn),decide_eq_false (by omega)];rfl
      rw[if_neg (by simpa using hn)]
      by_cases hn2:num > 1024
      · rw[decide_eq_true hn2,decide_eq_false (by omega)];rfl
      rw[decide_eq_false hn2,decide_eq_true (by omega)];rfl
  have e0:=e0.trans ((Option.bind_assoc ..).symm.trans (bds (g3 _)));refine e0.trans ?_
  show _=some (ZGb k m n t at_ && ((decide (d.length=0) || decide (k=1∧d.length≤32768)) && (decide (1≤num∧num≤1024) && (if k !=2 then decide (ns.length=0∧is.length=0) else ZGc ns is && (decide (n=1) && decide (ns.length≤128))))))
  rw[hM,←Bool.and_assoc,←Bool.and_assoc]
  cases((M && (decide (d.length=0) || decide (k=1∧d.length≤32768))) && decide (1≤num∧num≤1024)) with
  | false=>rfl
  | true=>
    refine(if_neg (by decide)).trans ?_
    rw[Bool.true_and];by_cases hk:(k !=2)=true
    · rw[if_pos hk]
      show((if((ns.length:Int)==0)=true then some ((is.length:Int)==0) else some false).bind fun b5=>some b5)=_
      rw[if_pos hk,andS,bd];congr 1
      rw[Bool.eq_iff_iff];simp
    rw[if_neg hk];show((if(n==1)=true then some (decide ((ns.length:Int)≤128)) else some false).bind fun b6=>((if b6=true then((ZBn (ZFo ns is)).bind fun r_1=>some r_1) else some false).bind fun b7=>some b7))=_
    rw[if_neg hk,ZNQ h2 h3];have e1:(n==1)=decide (n=1):=by rw[Bool.eq_iff_iff];simp
    have e2:decide ((ns.length:Int)≤128)=decide (ns.length≤128):=by rw[decide_eq_decide];omega
    rw[e1,e2]
    cases ZGc ns is<;> cases decide (n=1)<;> cases decide (ns.length≤128)<;> rfl
end Go.Ai.Rab
end
section
set_option maxRecDepth 10000
open Go.Ai.Enc (enc is)
namespace Go.Ai.Rab
def tgtL (l:List ZAO):Prop:=∀x∈l,List.length x.v.2.2.2.2.2.1≤2000000
theorem ZVj {l:List ZAO} {k:Int}:decide (fndI l k<0)= !knB l k:=by
 cases hp:posI l k with
 | none=>
  have h1:fndI l k<0:=ZN2.2 hp
  have h2:knB l k=false:=by
   rw[←Bool.not_eq_true];intro h;obtain⟨i,hi,e⟩:=ZKm.1 h;exact ZI9 hp i hi e
  rw[decide_eq_true h1,h2];rfl
 | some i=>
  have h1:¬fndI l k<0:=fun h=>by rw[ZN2.1 h] at hp;cases hp
  rw[decide_eq_false h1,ZKm.2 ⟨i,ZBc hp⟩];rfl
theorem ZSB {l:List Int} {p:Int→Bool}:l.all p=(List.range' 0 (l.length - 0)).all fun i=>p (l.getD i 0):=by
 rw[Nat.sub_zero,Bool.eq_iff_iff,List.all_eq_true,ZBb];constructor
 ·intro h i hi;simp only[List.getD_eq_getElem?_getD,List.getElem?_eq_getElem hi,Option.getD_some];exact h _ (List.getElem_mem hi)
 intro h x hx;obtain⟨i,hi,rfl⟩:=List.getElem_of_mem hx;have:=h i hi
 simpa only[List.getD_eq_getElem?_getD,List.getElem?_eq_getElem hi,Option.getD_some] using this
theorem ZUI {f:FsR} (hl:f.v.1.length≤2000000) {x:ZAO} (hx:x.v.2.2.2.2.2.2.2.1.length≤2000000):
  loop (ZC9 x f) 0=some (if x.v.2.2.2.2.2.2.2.1.all (knB f.v.1)=true then .inl () else .inr false):=by
 have h:=ZEI (body:=ZC9 x f) x.v.2.2.2.2.2.2.2.1.length (fun i=>knB f.v.1 (x.v.2.2.2.2.2.2.2.1.getD i 0)) false (fun i hi=>by
  refine(if_pos (decide_eq_true (show(i:Int)<(x.v.2.2.2.2.2.2.2.1.length:Int) by omega))).trans ?_
  refine(bds (nthD 0 hi)).trans ((bds (ZH5 (by omega) _)).trans ?_)
  rw[ZVj,lim (by omega)]
  cases knB f.v.1 (x.v.2.2.2.2.2.2.2.1.getD i 0)<;> rfl) (if_neg (by simp)) 0 (Nat.zero_le _)
 rw[ZSB];exact h
theorem ZUJ {l:List ZAO} {i:Nat} (h:i<l.length) (hl:l.length≤2000000):
  (if decide ((i:Int) > 0)=true then((nth l (IntKind.i64.wrap ((i:Int) - 1))).bind fun v5=>some (decide ((inAt l i).v.1≤v5.v.1))) else some false)=some (decide (0<i) && decide ((inAt l (i - 1)).v.1≥(inAt l i).v.1)):=by
 by_cases h0:0<i
 ·have hw:IntKind.i64.wrap ((i:Int) - 1)=((i - 1:Nat):Int):=by rw[i64w (by omega)];omega
  rw[if_pos (decide_eq_true (by omega)),hw,decide_eq_true h0,Bool.true_and]
  exact bds (ZD6 (by omega))
 rw[if_neg (by simp;omega),decide_eq_false h0,Bool.false_and]
theorem ZQ3 {l:List ZAO} {p:Int→Bool}:(ZE8 l).all p=l.all fun x=>x.v.2.2.2.2.2.2.2.1.all p:=by
 unfold ZE8;rw[List.all_flatMap]
theorem ZUK {f:FsR} (hs:ZCl f.v.1) (ht:tgtL f.v.1):ZCN f=some ((List.range' 0 f.v.1.length).all (sorP f.v.1) && (ZE8 f.v.1).all (knB f.v.1)):=by
 obtain⟨hs1,hs2⟩:=hs;have h:=ZEI (body:=ZEU f) f.v.1.length (fun i=>sorP f.v.1 i && (inAt f.v.1 i).v.2.2.2.2.2.2.2.1.all (knB f.v.1)) false (fun i hi=>by
  refine(if_pos (decide_eq_true (show(i:Int)<(f.v.1.length:Int) by omega))).trans ?_
  have hm:=ZBS hi;refine(bds (ZD6 hi)).trans ((bds (ZQ2 (hs2 _ hm) (ht _ hm))).trans ?_)
  refine(bds (x:= !sorP f.v.1 i) ?_).trans ?_
  ·rw[ZUJ hi hs1];unfold sorP;generalize (decide (0<i) && decide ((inAt f.v.1 (i - 1)).v.1≥(inAt f.v.1 i).v.1))=q
   cases ZCp (inAt f.v.1 i)<;> cases q<;> rfl
  cases hp:sorP f.v.1 i with
  | false=>rfl
  | true=>
   refine(if_neg (by decide)).trans ((bds (ZUI hs1 (hs2 _ hm).2.2.1)).trans ?_)
   cases(inAt f.v.1 i).v.2.2.2.2.2.2.2.1.all (knB f.v.1) with
   | false=>rfl
   | true=>
    show some (Sum.inl (IntKind.i64.wrap ((i:Int)+1)))=_
    rw[lim (by omega)];rfl) (if_neg (by simp)) 0 (Nat.zero_le _)
 have e:(List.range' 0 (f.v.1.length - 0)).all (fun i=>sorP f.v.1 i && (inAt f.v.1 i).v.2.2.2.2.2.2.2.1.all (knB f.v.1))=((List.range' 0 f.v.1.length).all (sorP f.v.1) && (ZE8 f.v.1).all (knB f.v.1)):=by
  rw[Nat.sub_zero,ZQ3,Bool.eq_iff_iff,Bool.and_eq_true,ZBb,ZBb,List.all_eq_true,←ZTK (l:=f.v.1) (p:=fun x=>x.v.2.2.2.2.2.2.2.1.all (knB f.v.1)),ZBb]
  constructor
  ·intro h;exact⟨fun i hi=>(Bool.and_eq_true _ _▸h i hi).1,fun i hi=>(Bool.and_eq_true _ _▸h i hi).2⟩
  rintro⟨h1,h2⟩ i hi;rw[h1 i hi,h2 i hi];rfl
 rw[e] at h;refine(bds h).trans ?_
 cases((List.range' 0 f.v.1.length).all (sorP f.v.1) && (ZE8 f.v.1).all (knB f.v.1))<;> rfl
theorem ZQ4 {f:FsR} (hl:f.v.1.length≤512) (h0:(inAt f.v.1 0).v.1=1) (hal:∀x∈f.v.1,ZCp x=true) (hso:ZME f.v.1):
  loop (ZEH f) 0=some (if(List.range' 0 f.v.1.length).all (fun i=>cndX f.v.1 (inAt f.v.1 i)) then .inl () else .inr false):=by
 have hnu:∀x∈f.v.1,x.v.2.2.2.2.2.2.2.1.length≤200:=fun x hx=>(ZJq (hal x hx)).1
 have hnz:∀x∈f.v.1,x.v.1≠0:=fun x hx=>by have:=(ZD3 (hal x hx)).2.2.2.2.2.2.1;omega
 refine ZEI (body:=ZEH f) f.v.1.length (fun i=>cndX f.v.1 (inAt f.v.1 i)) false (fun i hi=> ?_) (if_neg (by simp)) 0 (Nat.zero_le _)
 refine(if_pos (decide_eq_true (show(i:Int)<(f.v.1.length:Int) by omega))).trans ?_
 have hm:=ZBS hi;have hi0:((i:Int)==0)=decide ((inAt f.v.1 i).v.1=1):=by
  rw[Bool.eq_iff_iff,decide_eq_true_eq,beq_iff_eq];constructor
  ·intro e;have:i=0:=by omega
   subst this;exact h0
  intro e;have e2:inAt f.v.1 i=inAt f.v.1 0:=ZFA hso hm (ZBS (by omega)) (by rw[e,h0])
  rcases Nat.eq_zero_or_pos i with h | h
  ·omega
  have:=hso 0 i hi h
  rw[ZBo hi,ZBo (show 0<f.v.1.length by omega)] at e2
  rw[e2] at this;omega
 refine(bds (ZD6 hi)).trans ((bds (ZQ0 hl hnu _)).trans ?_)
 have he:ZEE f (inAt f.v.1 i).v.1=some (ZDh f.v.1 (f.v.1.length+1) (inAt f.v.1 i).v.1):=by
  rw[ZR7 hl hnu,ZQ1 hnz _ _ (hnz _ hm),ZR6 hm (f.v.1.length+1) (by omega)]
 rw[he,hi0,lim (by omega)]
 generalize inAt f.v.1 i=x
 unfold cndX;generalize hu:upsL f.v.1 x.v.1=u
 have e1:((u.length:Int) !=x.v.2.2.2.1)= !decide ((u.length:Int)=x.v.2.2.2.1):=by rw[Bool.eq_iff_iff];simp
 have e2:decide ((u.length:Int) > 1)= !decide (u.length≤1):=by rw[Bool.eq_iff_iff];simp;omega
 have e3:decide ((u.length:Int) > 0)=decide (0<u.length):=by rw[decide_eq_decide];omega
 rw[e1,e2,e3];by_cases hk:x.v.2.1=2
 ·have k1:(x.v.2.1 !=2)=false:=by simp[hk]
  have k2:(x.v.2.1==2)=true:=by simp[hk]
  rw[k1,k2]
  cases decide (u.length≤1)<;> cases decide (0<u.length)<;> cases decide (x.v.1=1)<;> cases ZDh f.v.1 (f.v.1.length+1) x.v.1<;> rfl
 have k1:(x.v.2.1 !=2)=true:=by simpa using hk
 have k2:(x.v.2.1==2)=false:=by simpa using hk
 rw[k1,k2]
 cases decide ((u.length:Int)=x.v.2.2.2.1)<;> rfl
theorem orD {a:Bool} {p:Prop} [Decidable p]:(if(!a)=true then some true else some (decide p))=some (!(a && !decide p)):=by cases a<;> cases decide p<;> rfl
theorem ZO1 {f:FsR} (hs:ZCl f.v.1) (ht:tgtL f.v.1):ZDS f=some (chkL f.v.1 f.v.2.1):=by
 have g0:(if decide ((f.v.1.length:Int)<1)=true then some true else some (decide ((f.v.1.length:Int) > 512)))=some (!decide (f.v.1.length≠0∧f.v.1.length≤512)):=by
  by_cases h:f.v.1.length=0
  ·rw[if_pos (decide_eq_true (by omega)),decide_eq_false (by omega)];rfl
  rw[if_neg (by rw[decide_eq_true_eq];omega)]
  by_cases h2:f.v.1.length≤512
  ·rw[decide_eq_false (by omega),decide_eq_true ⟨h,h2⟩];rfl
  rw[decide_eq_true (by omega),decide_eq_false (by omega)];rfl
 have e0:ZDS f=_:=bds g0
 by_cases hsz:f.v.1.length≠0∧f.v.1.length≤512
 ·rw[decide_eq_true hsz] at e0;have hn0:nth f.v.1 0=some (inAt f.v.1 0):=ZD6 (i:=0) (by omega)
  have e0:=e0.trans (bds (x:= !decide ((inAt f.v.1 0).v.1=1)) (by
   rw[if_neg (by decide),hn0]
   show some ((inAt f.v.1 0).v.1 !=1)=_
   congr 1))
  have e0:=e0.trans (bds (x:= !(decide ((inAt f.v.1 0).v.1=1) && decide ((inAt f.v.1 0).v.2.1=2))) (by
   rw[hn0];show(if(!decide ((inAt f.v.1 0).v.1=1))=true then some true else some ((inAt f.v.1 0).v.2.1 !=2))=_
   have:((inAt f.v.1 0).v.2.1 !=2)= !decide ((inAt f.v.1 0).v.2.1=2):=by rw[Bool.eq_iff_iff];simp
   rw[this]
   cases decide ((inAt f.v.1 0).v.1=1)<;> rfl))
  have hd0:((decide ((inAt f.v.1 0).v.1=1) && decide ((inAt f.v.1 0).v.2.1=2))=true→(inAt f.v.1 0).v.1=1):=fun h=>by
   rw[Bool.and_eq_true,decide_eq_true_eq] at h;exact h.1
  have hhd:hdB f.v.1 f.v.2.1=(((decide ((inAt f.v.1 0).v.1=1) && decide ((inAt f.v.1 0).v.2.1=2)) && !decide (f.v.2.1<2)) && !decide (f.v.2.1 > 513)):=by
   unfold hdB;rw[decide_eq_true hsz,Bool.true_and,Bool.and_assoc,Bool.and_assoc];congr 2
   rw[Bool.eq_iff_iff];simp
  generalize hA:(decide ((inAt f.v.1 0).v.1=1) && decide ((inAt f.v.1 0).v.2.1=2))=A at*
  have e0:=e0.trans ((bds orD).trans (bds orD));have e0:=e0.trans (bds (orN (ZUK hs ht)));refine e0.trans ?_
  unfold chkL;rw[hhd];generalize hB:((A && !decide (f.v.2.1<2)) && !decide (f.v.2.1 > 513))=B
  cases hB2:B with
  | false=>rfl
  | true=>
   have hA1:A=true:=by
    rw[hB2] at hB
    cases A
    ·simp at hB
    rfl
   have h1:=hd0 hA1;rw[Bool.true_and,Bool.true_and,←Bool.and_assoc]
   cases hC:((List.range' 0 f.v.1.length).all (sorP f.v.1) && (ZE8 f.v.1).all (knB f.v.1)) with
   | false=>rfl
   | true=>
    rw[Bool.and_eq_true] at hC;obtain⟨s1,s2⟩:=ZQd.1 hC.1;refine(if_neg (by decide)).trans ((bds (ZQ4 hsz.2 h1 s1 s2)).trans ?_)
    cases(List.range' 0 f.v.1.length).all (fun i=>cndX f.v.1 (inAt f.v.1 i))<;> rfl
 have:chkL f.v.1 f.v.2.1=false:=by unfold chkL hdB;rw[decide_eq_false hsz];rfl
 rw[decide_eq_false hsz] at e0;rw[this];exact e0.trans rfl
theorem ZO2 {f:FsR} (hs:ZCl f.v.1) (ht:tgtL f.v.1) (n:Int) (s:Str):ZCV f n s=some (ZBq f n s):=by
 have e0:ZCV f n s=_:=bds (ZO1 hs ht)
 unfold ZBq dirS
 cases hc:chkL f.v.1 f.v.2.1 with
 | false=>rw[hc] at e0;exact e0
 | true=>
  rw[hc] at e0;have e0:=e0.trans ((if_neg (by decide)).trans (bds (ZH5 (by have:=hs.1;omega) n)))
  rw[if_pos rfl];unfold fndI at e0
  cases hp:posI f.v.1 n with
  | none=>rw[hp] at e0;exact e0.trans (if_pos (by decide))
  | some i=>
   rw[hp] at e0;obtain⟨q1,q2⟩:=ZBc hp;have e0:=e0.trans ((if_neg (by simp)).trans (bds (ZD6 q1)))
   simp only
   by_cases hk:((inAt f.v.1 i).v.2.1 !=2)=true
   ·rw[if_pos hk];exact e0.trans (if_pos hk)
   rw[if_neg hk];have e0:=e0.trans ((if_neg hk).trans (bds (ZD6 q1)));have hok:=ZE9.1 hc;have hal:=hok.al _ (ZBS q1);have hsm:=ZD3 hal;have e0:=e0.trans (bds (ZV5 (by omega) s))
   simp only
   cases hh:hasN (inAt f.v.1 i).v.2.2.2.2.2.2.1 s with
   | false=>rw[hh] at e0;exact e0
   | true=>
    rw[hh] at e0;obtain⟨d1,d2,d3,d4,d5⟩:=ZEo hal (by simpa using hk)
    have hlt:ptN (inAt f.v.1 i).v.2.2.2.2.2.2.1 s<(inAt f.v.1 i).v.2.2.2.2.2.2.2.1.length:=by
     unfold hasN at hh;simp only[Bool.and_eq_true,decide_eq_true_eq] at hh;omega
    exact e0.trans ((if_neg (by simp)).trans ((bds (ZD6 q1)).trans (bds (nthD 0 hlt))))
end Go.Ai.Rab
end
section
namespace Go.Ai.Rab
theorem ZUL {x:ZAO} (h:bkI x≤1048576):List.length x.v.2.2.2.2.2.1≤2000000:=by
 simp only[bkI,bkR,bkP,bkS] at h;omega
theorem ZUM {f:FsR} (h:bkF f≤1048576):tgtL f.v.1:=by
 simp only[bkF,bkR,bkP] at h;exact fun x hx=>ZUL (by have:=ZNK (bk:=bkI) hx;omega)
end Go.Ai.Rab
end
