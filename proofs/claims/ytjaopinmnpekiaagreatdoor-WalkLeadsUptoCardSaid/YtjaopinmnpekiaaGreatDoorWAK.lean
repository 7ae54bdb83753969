/- My own texts DevTg26, DevTg27, DevTg28, DevTg29, DevPgE, one behind the other. -/
import Derived.Test.YtjaopinmnpekiaaGreatDoorWAI
import Derived.Test.YtjaopinmnpekiaaGreatDoorWAE
import Derived.Test.YtjaopinmnpekiaaGreatDoorWAJ
set_option linter.unusedVariables false
set_option linter.unusedSimpArgs false
section
namespace Go.Ai
section
variable {P:Program} {q:Prims} {ops:Array Oper}
end
section
variable {P:Program} {prims:Prims} {n:Nat} {K:Fm→St→Prop} {Q:AExit→Fm→St→Prop} {φ:Fm} {s:St}
end
end Go.Ai
namespace Go.Ai
section
variable {P:Program} {q:Prims} {ops:Array Oper}
end
section
variable {P:Program} {prims:Prims} {n:Nat} {K:Fm→St→Prop} {Q:AExit→Fm→St→Prop} {φ:Fm} {s:St}
end
end Go.Ai
end
section
namespace Go.Ai
def sw (tw i:Nat):Nat:=if i=tw then tw+1 else if i=tw+1 then tw else i
def ZXS (tw:Nat) (o:Oper):Oper:={o with after:=o.after.map fun e=>{e with on:=sw tw e.on}}
def SameO (o p:Oper):Prop:=o.op=p.op∧o.dst=p.dst∧o.type=p.type∧o.pos=p.pos∧o.guard=p.guard
theorem SameO.move {tw:Nat} {o:Oper}:SameO (ZXS tw o) o:=⟨rfl,rfl,rfl,rfl,rfl⟩
theorem SameO.trans {o p q:Oper} (h:SameO o p) (k:SameO p q):SameO o q:=⟨h.1.trans k.1,h.2.1.trans k.2.1,h.2.2.1.trans k.2.2.1,h.2.2.2.1.trans k.2.2.2.1,h.2.2.2.2.trans k.2.2.2.2⟩
theorem SameO.symm {o p:Oper} (h:SameO o p):SameO p o:=⟨h.1.symm,h.2.1.symm,h.2.2.1.symm,h.2.2.2.1.symm,h.2.2.2.2.symm⟩
theorem SameO.aOp {P:Program} {call:FuncId→List AV→St→Option (AV×St)} {o p:Oper} (h:SameO o p) (fr:List AV) (s:St):aOp P call o fr s=aOp P call p fr s:=by
 unfold Go.Ai.aOp;rw[h.1]
theorem SameO.wpOp {P:Program} {ops ops' :Array Oper} {Q:Exit→Act→World→Prop} {i i' :Nat} {o p:Oper} (hs:SameO o p) (ho:ops[i]? =some o) (hp:ops'[i']? =some p) (hg:o.guard=none) {K:Act→World→Prop} {a:Act} {w:World}
  (h:Go.wpOp P ops Q i K a w):Go.wpOp P ops' Q i' K a w:=by
 obtain⟨d1,op1,t1,p1,a1,g1⟩:=o;obtain⟨d2,op2,t2,p2,a2,g2⟩:=p;obtain⟨e1,e2,e3,e4,e5⟩:=hs
 cases e1;cases e2;cases e3;cases e4;cases e5;have hg:g1=none:=hg
 subst hg;unfold Go.wpOp at h ⊢;simp only[ho] at h;simp only[hp];have e:∀(y:Nat→Option Bool) (af:Array Edge),Region.wanted ⟨d1,op1,t1,p1,af,none⟩ y=true:=fun _ _=>rfl
 rw[e,if_pos rfl] at h;rw[e,if_pos rfl];exact h
section
variable {P:Program} {prims:Prims}
variable {n:Nat} {K:Fm→St→Prop} {Q:AExit→Fm→St→Prop} {φ:Fm} {s:St}
end
end Go.Ai
end
section
open Go.Ai.Enc (enc is)
namespace Go.Ai
open Flds (fe fi fk)
section
variable {P:Program} {prims:Prims} {n:Nat} {b:Bool} {K:Fm→St→Prop} {φ:Fm} {s:St} {ops:Array Oper} {l:List Oper} {d:Tmp} {x y:Operand} {t t' e ty:TypeId} {pos:String} {af:Array Edge} {u v:AV} {es:List En}
end
end Go.Ai
end
section
open Go.Ai.Enc (enc is)
namespace Go.Ai
open Flds (fe fi fk)
theorem ZKY:∀a b:List AV,ZA9 (a++b)=ZA9 a++ZA9 b
 | [],b=>rfl
 | x::a,b=>by simp only[List.cons_append,ZA9,ZKY a b]
theorem ZMb:∀a b:List AV,ZCR (a++b)=(ZCR a && ZCR b)
 | [],b=>by simp[ZCR]
 | x::a,b=>by simp only[List.cons_append,ZCR,ZMb a b,Bool.and_assoc]
theorem ZUK {A:Type} [Flds A] (a:A):(fe a).length=fk A:=Flds.len (Flds.self a)
instance {T B A:Type} [Enc T] [Enc0 T] [Flds B] [Flds A]:Flds (Rec (T×B)×A) where
 fe a:=fe a.1.v++fe a.2
 fi xs a:=∃ys zs,xs=ys++zs∧fi ys a.1.v∧fi zs a.2
 fk:=fk (T×B)+fk A
 inj {a b} h:=by
  have hl:(fe a.1.v).length=(fe b.1.v).length:=by rw[ZUK,ZUK]
  obtain⟨h1,h2⟩:=List.append_inj h hl;have e1:=Flds.inj h1;have e2:=Flds.inj h2;obtain⟨⟨a1⟩,a2⟩:=a;obtain⟨⟨b1⟩,b2⟩:=b;simp only at e1 e2
  rw[e1,e2]
 strip h:=by
  obtain⟨ys,zs,rfl,h1,h2⟩:=h;rw[ZKY,Flds.strip h1,Flds.strip h2]
 self a:=⟨_,_,rfl,Flds.self _,Flds.self _⟩
 len h:=by
  obtain⟨ys,zs,rfl,h1,h2⟩:=h;rw[List.length_append,Flds.len h1,Flds.len h2]
 el h x hx:=by
  obtain⟨ys,zs,rfl,h1,h2⟩:=h;rcases List.mem_append.1 hx with hx | hx
  ·exact Flds.el h1 x hx
  exact Flds.el h2 x hx
 pu a:=by rw[ZMb,Flds.pu,Flds.pu];rfl
/-! ### Fields behind a struct, structs at their places -/
theorem Sel.skip {T B A U:Type} [Enc T] [Enc0 T] [Flds B] [Flds A] [Enc U] {n:Nat} {get:A→U} {set:A→U→A} (h:Sel A U n get set):Sel (Rec (T×B)×A) U (fk (T×B)+n) (fun a=>get a.2) (fun a t=>(a.1,set a.2 t)):=fun xs a hx=>by
 obtain⟨ys,zs,rfl,h1,h2⟩:=hx;obtain⟨⟨x,e,hi⟩,q2⟩:=h zs a.2 h2;have hl:=Flds.len h1;refine⟨⟨x,?_,hi⟩,fun z t hz=>⟨ys,zs.set n z,?_,h1,q2 z t hz⟩⟩
 ·rw[List.getElem?_append_right (by omega),hl,Nat.add_sub_cancel_left];exact e
 rw[List.set_append_right _ _ (by omega),hl,Nat.add_sub_cancel_left]
def SelR (A C:Type) [Flds A] [Flds C] (n:Nat) (get:A→C) (set:A→C→A):Prop:=
 ∀xs a,fi xs a→n+fk C≤xs.length∧fi ((xs.drop n).take (fk C)) (get a)∧∀ys c,fi ys c→fi (ZBC xs n ys) (set a c)
theorem SelR.zero {T B A:Type} [Enc T] [Enc0 T] [Flds B] [Flds A]:SelR (Rec (T×B)×A) (T×B) 0 (fun a=>a.1.v) (fun a c=>(Rec.mk c,a.2)):=fun xs a hx=>by
 obtain⟨ys,zs,rfl,h1,h2⟩:=hx;have hl:=Flds.len h1;refine⟨by rw[List.length_append];omega,?_,fun ws c hw=>⟨ws,zs,?_,hw,h2⟩⟩
 ·rw[List.drop_zero,←hl,List.take_left']
  ·exact h1
  rfl
 have hw' :=Flds.len hw
 unfold ZBC;rw[List.take_zero,List.nil_append,Nat.zero_add,hw',←hl,List.drop_left'];rfl
theorem SelR.succ {T A C:Type} [Enc T] [Enc0 T] [Flds A] [Flds C] {n:Nat} {get:A→C} {set:A→C→A} (h:SelR A C n get set):SelR (T×A) C (n+1) (fun a=>get a.2) (fun a t=>(a.1,set a.2 t)):=fun xs a hx=>by
 obtain⟨y,ys,rfl,h1,h2⟩:=hx;obtain⟨q0,q1,q2⟩:=h ys a.2 h2;refine⟨by simp only[List.length_cons];omega,q1,fun ws c hw=>⟨y,ZBC ys n ws,?_,h1,q2 ws c hw⟩⟩
 unfold ZBC;rw[List.take_succ_cons,List.cons_append,List.cons_append,show n+1+ws.length=(n+ws.length)+1 by omega,List.drop_succ_cons]
theorem SelR.skip {T B A C:Type} [Enc T] [Enc0 T] [Flds B] [Flds A] [Flds C] {n:Nat} {get:A→C} {set:A→C→A} (h:SelR A C n get set):SelR (Rec (T×B)×A) C (fk (T×B)+n) (fun a=>get a.2) (fun a t=>(a.1,set a.2 t)):=fun xs a hx=>by
 obtain⟨ys,zs,rfl,h1,h2⟩:=hx;obtain⟨q0,q1,q2⟩:=h zs a.2 h2;have hl:=Flds.len h1;refine⟨by rw[List.length_append];omega,?_,fun ws c hw=>⟨ys,ZBC zs n ws,?_,h1,q2 ws c hw⟩⟩
 ·rw[←hl,List.drop_append,List.drop_of_length_le (by omega),List.nil_append,Nat.add_sub_cancel_left];exact q1
 unfold ZBC;rw[←hl,List.take_append,List.take_of_length_le (by omega),Nat.add_sub_cancel_left,List.drop_append,List.drop_of_length_le (by omega),List.nil_append,List.append_assoc,List.append_assoc,List.append_assoc]
 congr 4
 omega
theorem Sel.of {A C U:Type} [Flds A] [Flds C] [Enc U] {n k:Nat} {get:A→C} {set:A→C→A} {get' :C→U} {set' :C→U→C} (h:SelR A C n get set) (h' :Sel C U k get' set'):Sel A U (n+k) (fun a=>get' (get a)) (fun a t=>set a (set' (get a) t)):=fun xs a hx=>by
 obtain⟨q0,q1,q2⟩:=h xs a hx;obtain⟨⟨x,e,hi⟩,r2⟩:=h' _ _ q1;have hk:k<fk C:=by
  have:=(List.getElem?_eq_some_iff.1 e).1
  rw[List.length_take,List.length_drop] at this;omega
 refine⟨⟨x,?_,hi⟩,fun z t hz=> ?_⟩
 ·rw[List.getElem?_take_of_lt hk,List.getElem?_drop] at e;exact e
 have:=q2 _ _ (r2 z t hz)
 have e2:ZBC xs n (((xs.drop n).take (fk C)).set k z)=xs.set (n+k) z:=by
  apply List.ext_getElem?
  intro i;unfold ZBC;have hlen:(((xs.drop n).take (fk C)).set k z).length=fk C:=by
   rw[List.length_set,List.length_take,List.length_drop];omega
  rw[hlen];by_cases h1:i<n
  ·rw[List.append_assoc,List.getElem?_append_left (by rw[List.length_take];omega),List.getElem?_take_of_lt h1,List.getElem?_set_ne (by omega)]
  by_cases h2:i<n+fk C
  ·rw[List.getElem?_append_left (by rw[List.length_append,List.length_take,hlen];omega),List.getElem?_append_right (by rw[List.length_take];omega),List.length_take,Nat.min_eq_left (by omega)]
   by_cases h3:i=n+k
   ·subst h3;rw[Nat.add_sub_cancel_left,List.getElem?_set_self (by rw[List.length_take,List.length_drop];omega),List.getElem?_set_self (by omega)]
   rw[List.getElem?_set_ne (by omega),List.getElem?_set_ne (by omega),List.getElem?_take_of_lt (by omega),List.getElem?_drop]
   congr 1;omega
  rw[List.getElem?_append_right (by rw[List.length_append,List.length_take,hlen];omega),List.length_append,List.length_take,hlen,Nat.min_eq_left (by omega),List.getElem?_drop,List.getElem?_set_ne (by omega)]
  congr 1;omega
 rw[←e2];exact this
section
variable {P:Program} {prims:Prims} {n:Nat} {b:Bool} {K:Fm→St→Prop} {φ:Fm} {s:St} {ops:Array Oper} {l:List Oper} {d:Tmp} {x y:Operand} {t t' e ty:TypeId} {pos:String} {af:Array Edge} {u v:AV} {es:List En}
def flO (P:Program) (t:TypeId) (f off:Nat):Bool:=
 match P.underlying t with
 | some (.struct fs)=>match fs[f]? with
  | some fd=>decide (fd.offset=off) && (match szT P fd.type with | some z=>decide (z≠0) | none=>false)
  | none=>false
 | _=>false
theorem ZAj {f m o off q:Nat} (hf:flO P t f off=true) (hq:o+off=q) (hx:ZAb n φ x=some (.ptr m o)) (k:TO P prims n b ops l K (upd φ d (.ptr m q)) s):TO P prims n b ops (⟨some d, .fieldAddr t x f,ty,pos,af,none⟩::l) K φ s:=by
 subst hq;unfold flO at hf;split at hf
 ·rename_i fs hu;split at hf
  ·rename_i fd hfd;rw[Bool.and_eq_true,decide_eq_true_eq] at hf;obtain⟨h1,h2⟩:=hf;split at h2
   ·rename_i z hz;have h2:=of_decide_eq_true h2;refine ZA2 rfl rfl (v:= .ptr m (o+off)) (s' :=s) (fun _=> ?_) k
    simp only[aOp,ZAM hx,oC,Option.bind_some,ZCc,hu,hfd,hz,h2,if_false,h1,Option.map_some]
   cases h2
  cases hf
 cases hf
theorem ZA0 {m o:Nat} (hx:ZAb n φ x=some (.ptr m o)) (k:TO P prims n b ops l K (upd φ d (.ptr m o)) s):TO P prims n b ops (⟨some d, .nilCheck x,ty,pos,af,none⟩::l) K φ s:=
 ZA2 rfl rfl (v:= .ptr m o) (s' :=s) (fun _=>by simp only[aOp,ZAM hx,oC,Option.bind_some]) k
theorem ZKZ {A T B:Type} [Flds A] [Enc T] [Enc0 T] [Flds B] {f m:Nat} {a:A} {get:A→T×B} {set:A→T×B→A} {xs:List AV} (hg:aggT P t=some true) (hz:szT P t=some (fk (T×B))) (hl:SelR A (T×B) f get set) (hx:ZAb n φ x=some (.ptr m f)) (h:fi xs a) (hs:Hp s (.cells m xs::es))
  (k:∀v,is v (Rec.mk (get a))→TO P prims n b ops l K (upd φ d v) s):TO P prims n b ops (⟨some d, .load t x,ty,pos,af,none⟩::l) K φ s:=by
 obtain⟨q0,q1,_⟩:=hl xs a h;have hgt:=hs.get rfl;refine ZA2 rfl rfl (fun _=>ZFO (ZAM hx) (v:= .agg ((xs.drop f).take (fk (T×B)))) ?_) (k _ ⟨_,rfl,q1⟩)
 simp only[ZEy,hgt,ZEx,hg,hz,oC,Option.bind_some,if_true];exact if_pos q0
theorem ZKa {A T B:Type} [Flds A] [Enc T] [Enc0 T] [Flds B] {f m:Nat} {a:A} {c:Rec (T×B)} {get:A→T×B} {set:A→T×B→A} {xs:List AV} (hz:szT P t=some (fk (T×B))) (hl:SelR A (T×B) f get set) (hx:ZAb n φ x=some (.ptr m f)) (hy:ZAb n φ y=some v) (hv:is v c) (h:fi xs a) (hs:Hp s (.cells m xs::es))
  (k:∀xs' s',fi xs' (set a c.v)→Hp s' (.cells m xs' ::es)→TO P prims n b ops l K φ s'):TO P prims n b ops (⟨none, .store t x y,ty,pos,af,none⟩::l) K φ s:=by
 obtain⟨q0,q1,q2⟩:=hl xs a h;obtain⟨ys,rfl,hys⟩:=hv;have hlen:ys.length=fk (T×B):=Flds.len hys
 have hg:=hs.get rfl;have hst:ZED P t (.ptr m f) (.agg ys) s=some (s.put m (.cells (ZBC xs f ys))):=by
  simp only[ZED,AV.cells,hz,hlen,if_pos,ZBu,hg,q0,true_and,ZMP hys]
 refine ZJD rfl rfl (v:= .undef) (s' :=s.put m (.cells (ZBC xs f ys))) (fun _=> ?_) (k _ _ (q2 _ _ hys) (hs.put rfl rfl))
 simp only[aOp,ZAM hx,ZAM hy,oC,Option.bind_some,hst]
/-! ### A struct of structs is built, and laid into a variable -/
def isA {A:Type} [Flds A] (v:AV) (a:A):Prop:=∃xs,v= .agg xs∧fi xs a
inductive FilS (pl:List (Nat×Nat)) (A:Type) [Flds A]:A→List (Nat×AV)→A→Prop where
 | nil {r:A}:FilS pl A r [] r
 | cons {U:Type} [Enc U] [Enc0 U] {f o:Nat} {get:A→U} {set:A→U→A} {v:AV} {z:U} {r r' :A} {ps:List (Nat×AV)} (hp:pl[f]? =some (o,1)) (hl:Sel A U o get set) (hv:is v z) (h:FilS pl A (set r z) ps r'):FilS pl A r ((f,v)::ps) r'
 | str {T B:Type} [Enc T] [Enc0 T] [Flds B] {f o:Nat} {get:A→T×B} {set:A→T×B→A} {v:AV} {z:Rec (T×B)} {r r' :A} {ps:List (Nat×AV)} (hp:pl[f]? =some (o,fk (T×B))) (hl:SelR A (T×B) o get set) (hv:is v z) (h:FilS pl A (set r z.v) ps r'):FilS pl A r ((f,v)::ps) r'
theorem ZTE {pl:List (Nat×Nat)} {A:Type} [Flds A] {r r' :A} {ps:List (Nat×AV)} (h:FilS pl A r ps r'):∀{xs:List AV},fi xs r→∃ys,ZGq (pl[·]?) xs ps=some ys∧fi ys r' :=by
 induction h with
 | nil=>intro xs h;exact⟨xs,rfl,h⟩
 | @cons U _ _ f o get set v z r r' ps hp hl hv h ih=>
  intro xs hx;obtain⟨⟨w,hw,hi⟩,h2⟩:=hl xs r hx;have hlt:o<xs.length:=(List.getElem?_eq_some_iff.1 hw).1
  have h1:v.one=true:=ZJM hv
  obtain⟨ys,e,hy⟩:=ih (h2 v z hv);refine⟨ys,?_,hy⟩
  have hsp:ZBC xs o [v]=xs.set o v:=by
   unfold ZBC;rw[List.set_eq_take_append_cons_drop,if_pos hlt,List.append_assoc];rfl
  simp only[ZGq,hp,oC,Option.bind_some,ZEK h1,List.length_singleton];rw[if_neg (by omega),hsp]
  exact e
 | @str T B _ _ _ f o get set v z r r' ps hp hl hv h ih=>
  intro xs hx;obtain⟨q0,q1,q2⟩:=hl xs r hx;obtain⟨ws,rfl,hws⟩:=hv;have hlen:ws.length=fk (T×B):=Flds.len hws
  obtain⟨ys,e,hy⟩:=ih (q2 _ _ hws);refine⟨ys,?_,hy⟩
  simp only[ZGq,hp,oC,Option.bind_some];exact(if_neg (show ¬(ws.length≠fk (T×B)∨o+fk (T×B) > xs.length) by omega)).trans e
def plB (P:Program) (t:TypeId) (pl:List (Nat×Nat)):Bool:=
 match P.underlying t with
 | some (.struct fs)=>decide ((fs.toList.mapM fun f=>(szT P f.type).map fun z=>(f.offset,z))=some pl)
 | _=>false
theorem ZUL {A:Type} [Flds A] {pl:List (Nat×Nat)} {r0 r:A} {xs0:List AV} {ps:List (Nat×AV)} {parts:Array (Nat×Operand)} (hb:plB P t pl=true) (hz:ZBM P t=some (.agg xs0)) (h0:fi xs0 r0)
  (hp:(parts.toList.mapM fun(i,x)=>(ZAb n φ x).map (i,·))=some ps) (hF:FilS pl A r0 ps r) (k:∀v,isA v r→TO P prims n b ops l K (upd φ d v) s):TO P prims n b ops (⟨some d, .build t parts,ty,pos,af,none⟩::l) K φ s:=by
 unfold plB at hb;split at hb
 ·rename_i fs hu;have hm:=of_decide_eq_true hb;obtain⟨ys,e,hy⟩:=ZTE hF h0;refine ZA2 rfl rfl (v:= .agg ys) (s' :=s) (fun _=> ?_) (k _ ⟨ys,rfl,hy⟩)
  have hp' :(parts.toList.mapM fun(i,x)=>(ZAp (frm n φ) x).map (i,·))=some ps:=by
   clear hF e
   generalize parts.toList=q at hp
   induction q generalizing ps with
   | nil=>exact hp
   | cons a q ih=>
    simp only[List.mapM_cons,oC,oB,Option.map_eq_some_iff,Option.pure_def] at hp ⊢;obtain⟨b,⟨w,hw,rfl⟩,bs,hbs,h⟩:=hp;exact⟨_,⟨w,ZAM hw,rfl⟩,bs,ih hbs,h⟩
  simp only[aOp,oC] at hp' ⊢;rw[hp',Option.bind_some];simp only[oC,Option.bind_some,ZLy,hz,hu,hm,AV.cells,e,Option.map_some]
 cases hb
theorem ZUM {A:Type} [Flds A] {r:A} (hx:ZAb n φ x=some u) (h:isA u r) (hs:Hp s es)
  (k:∀m xs s',fi xs r→Hp s' (.cells m xs::es)→TO P prims n b ops l K (upd φ d (.ptr m 0)) s'):TO P prims n b ops (⟨some d, .box t x,ty,pos,af,none⟩::l) K φ s:=by
 obtain⟨xs,rfl,h⟩:=h;refine ZA2 rfl rfl (v:= .ptr s.c 0) (s' :=s.new (.cells xs)) (fun _=> ?_) (k s.c xs _ h (hs.new _ _ rfl))
 simp only[aOp,ZAM hx,ZC6,AV.cells,oC,Option.bind_some];exact if_pos (ZMP h)
/-! ### Ends of functions that are handed a place -/
theorem KN0 {fn:Func} {H:AV→St→Prop} (hr:fn.results= #[]) (k:H (.tup []) s):ZPx P fn H φ s:=
 ⟨.tup [],by simp only[ZBv,hr,List.mapM_nil,Option.pure_def,oC,Option.bind_some],k⟩
theorem KNc {fn:Func} {H:AV→St→Prop} {rs:Array ResultVar} (hr:fn.results=rs) (hv:RVs P fn.ntmps φ s rs.toList [v]) (k:H v s):ZPx P fn H φ s:=
 ⟨v,by unfold ZBv;rw[hr,hv.eq];rfl,k⟩
end
end Go.Ai
end
section
set_option maxRecDepth 100000
set_option maxHeartbeats 16000000
attribute [local irreducible] Go.Ai.TC Go.Ai.TO Go.Ai.MF Go.Ai.ZCS Go.Ai.ZBg Go.Ai.encR
open Go.Ai.Enc (enc is)
open Go.Ai.Res (res ris)
open Go.Ai.Args (args)
open Go.Ai.Flds (fe fi fk)
namespace Go.Ai

end Go.Ai
namespace Go.Ai.TTryz
open Go.Proofs
theorem ZO3:flB Tryz.prog 24 1=true:=by kernel_rfl
end Go.Ai.TTryz
namespace Go.Ai.Rab
open Go.Proofs TTryz Tryz
noncomputable def ZDO (f:FsR):((List (Int×Bool))×Int)→Option (((List (Int×Bool))×Int) ⊕ ((List (Int×Bool)) ⊕ Bool))
 | (known,v2)=>(if(decide (v2<(f.v.1.length:Int))) then((nth f.v.1 v2).bind fun v4=>((ZCB v4).bind fun r_=>((if(!r_) then some true else((if(decide (v2 > 0)) then((nth f.v.1 (IntKind.i64.wrap (v2 - 1))).bind fun v5=>some (decide (v5.v.1≥v4.v.1))) else some false).bind fun b6=>some b6)).bind fun b5=>(if b5 then some (.inr (.inr false)) else some (.inl ((mput known v4.v.1 true),(IntKind.i64.wrap (v2+1)))))))) else some (.inr (.inl known)))
noncomputable def ZCV (known1:(List (Int×Bool))):Int→Option (Unit ⊕ Bool)
 | k=>(if(!((mget known1 k).getD false)) then some (.inr false) else some (.inl ()))
noncomputable def ZCW (f:FsR) (r_1:(List (Int×(List Int)))):Int→Option (Int ⊕ (Unit ⊕ Bool))
 | v7=>(if(decide (v7<(f.v.1.length:Int))) then((nth f.v.1 v7).bind fun v9=>((if(v9.v.2.1 !=2) then some ((((mget r_1 v9.v.1).getD []).length:Int) !=v9.v.2.2.2.1) else some false).bind fun b7=>(if b7 then some (.inr (.inr false)) else((if(v9.v.2.1==2) then((if(decide ((((mget r_1 v9.v.1).getD []).length:Int) > 1)) then some true else((if(decide ((((mget r_1 v9.v.1).getD []).length:Int) > 0)) then some (v9.v.1==1) else some false).bind fun b10=>some b10)).bind fun b9=>((if b9 then some true else((ZGd r_1 v9.v.1 (f.v.1.length:Int)).bind fun r_2=>some (!r_2))).bind fun b11=>some b11)) else some false).bind fun b8=>(if b8 then some (.inr (.inr false)) else some (.inl (IntKind.i64.wrap (v7+1)))))))) else some (.inr (.inl ())))
noncomputable def ZDP:(Unit ⊕ Bool)→Option (Bool)
 | (.inl _)=>some (true)
 | (.inr v8)=>some (v8)
noncomputable def ZDQ (f:FsR) (r_1:(List (Int×(List Int)))):(Unit ⊕ Bool)→Option (Bool)
 | (.inl _)=>((loop (ZCW f r_1) 0).bind (ZDP))
 | (.inr v6)=>some (v6)
noncomputable def ZEr (f:FsR):((List (Int×Bool)) ⊕ Bool)→Option (Bool)
 | (.inl known1)=>((ZE9 f).bind fun r_1=>((ZHZ r_1 (ZCV known1)).bind (ZDQ f r_1)))
 | (.inr v3)=>some (v3)
noncomputable def ZAw (f:FsR):Option (Bool):=
 ((if((f.v.1.length:Int)==0) then some true else some (decide ((f.v.1.length:Int) > 512))).bind fun b=>((if b then some true else((nth f.v.1 0).bind fun v=>some (v.v.1 !=1))).bind fun b1=>((if b1 then some true else((nth f.v.1 0).bind fun v1=>some (v1.v.2.1 !=2))).bind fun b2=>((if b2 then some true else some (decide (f.v.2.1<2))).bind fun b3=>((if b3 then some true else some (decide (f.v.2.1 > 513))).bind fun b4=>(if b4 then some (false) else((loop (ZDO f) (([]:(List (Int×Bool))),0)).bind (ZEr f))))))))
noncomputable def ZBB (f:FsR) (num:Int):Option (ZAO×(Err 154)):=
 ((ZA6 f num).bind fun r_=>((ZAw f).bind fun r_1=>(if(!r_1) then((ZDM 2).bind fun r_2=>some ((Rec.mk ((0:Int),(0:Int),(0:Int),(0:Int),([]:(List UInt8)),(str []),([]:(List Str)),([]:(List Int)),([]:(List ZAi)),()):ZAO),r_2)) else(if(decide (r_<0)) then((ZDM 201).bind fun r_3=>some ((Rec.mk ((0:Int),(0:Int),(0:Int),(0:Int),([]:(List UInt8)),(str []),([]:(List Str)),([]:(List Int)),([]:(List ZAi)),()):ZAO),r_3)) else((nth f.v.1 r_).bind fun v=>(if(v.v.2.1 !=2) then((ZDM 203).bind fun r_4=>some ((Rec.mk ((0:Int),(0:Int),(0:Int),(0:Int),([]:(List UInt8)),(str []),([]:(List Str)),([]:(List Int)),([]:(List ZAi)),()):ZAO),r_4)) else((nth f.v.1 r_).bind fun v1=>some (v1,(Err.mk none:Err 154)))))))))
noncomputable def ZCC (f:FsR) (dir:Int) (s_:Str):Option (Int×Int):=
 ((ZBB f dir).bind fun r_=>(if r_.2.c.isSome then((ZCa r_.2).bind fun r_1=>some (0,r_1)) else((binS r_.1.v.2.2.2.2.2.2.1 s_).bind fun r_2=>(if(!r_2.2) then some (0,201) else((nth r_.1.v.2.2.2.2.2.2.2.1 r_2.1).bind fun v=>some (v,0))))))
noncomputable def ZBI (f:FsR) (num:Int):Option (Int):=
 ((ZBB f num).bind fun r_=>(if r_.2.c.isSome then some (0) else((ZE9 f).bind fun r_1=>(if(decide ((((mget r_1 num).getD []).length:Int) > 0)) then((nth ((mget r_1 num).getD []) 0).bind fun v=>some (v)) else some (0)))))
theorem ZKD (mx:Int) (f:FsR) (r:Bool) (h:ZAw f=some r):MF Tryz.prog (pv8 mx) 40 [enc f] (sG (NG mx)) fun v _=>ris v r:=by
 refine ZAh [(0,enc f)] func40 rfl (by simp only[Tryz.f40];rfl) fun ψ=> ?_
 unfold ZAw at h;have hs:Hp (sG (NG mx)) [.gl (NG mx)]:=Hp.gl0
 refine ZAB<|ZAC<|ZA5 (r:=f) rfl (Enc.self f) hs fun m xs s hxs hs=>ZAG (v:=enc false) rfl<|ZAA<|ZAB<|ZAC<|ZAV ZAz rfl<|ZAK ag22 Sz rfl hxs hs fun y hy=>ZAo underlying22 rfl rfl hy<|ZAG rfl<|ZAA<|ZAB<|ZAB<|ZAC ?_
 refine ZAE rfl<|ZAJ (v:=enc (((f.v.1.length:Int)==0):Bool)) rfl rfl rfl<|ZAE rfl ?_
 obtain⟨b,hb_b,h⟩:=bs h;refine ZAS 3 (fun φ s=>Hp s [(.cells m xs),(.gl (NG mx))]∧Fx φ [(1,(.ptr m 0)),(20,(enc b))]) ?_ ?_
 ·split at hb_b
  ·rename_i cg;refine ZAD rfl rfl (by simpa using cg)<|ZAD rfl rfl (by simpa using cg)<|ZAa (v:=enc true) rfl cg rfl<|ZAA ?_
   rw[←oi hb_b];exact⟨hs,FxR rfl⟩
  rename_i cg1;refine ZAF rfl rfl (by simpa using cg1)<|ZAE rfl<|ZAF rfl rfl (by simpa using cg1)<|ZAJ (v:=enc (decide ((f.v.1.length:Int) > 512))) rfl rfl rfl<|ZAZ rfl cg1 rfl<|ZAA ?_
  rw[←oi hb_b];exact⟨hs,FxR rfl⟩
 rintro φ s ⟨hs,hF⟩;rw[←hF.eq];refine ZAE rfl ?_
 obtain⟨b1,hb_b1,h⟩:=bs h;refine ZAS 7 (fun φ s=>Hp s [(.cells m xs),(.gl (NG mx))]∧Fx φ [(1,(.ptr m 0)),(28,(enc b1))]) ?_ ?_
 ·split at hb_b1
  ·rename_i cg2;refine ZAD rfl rfl (by simpa using cg2)<|ZAD rfl rfl (by simpa using cg2)<|ZAD rfl rfl (by simpa using cg2)<|ZAD rfl rfl (by simpa using cg2)<|ZAD rfl rfl (by simpa using cg2)<|ZAD rfl rfl (by simpa using cg2)<|ZAa (v:=enc true) rfl cg2 rfl<|ZAA ?_
   rw[←oi hb_b1];exact⟨hs,FxR rfl⟩
  rename_i cg3;refine ZAF rfl rfl (by simpa using cg3)<|ZAV ZAz rfl<|ZAF rfl rfl (by simpa using cg3)<|ZAK ag22 Sz rfl hxs hs fun y1 hy1=>ZAF rfl rfl (by simpa using cg3) ?_
  obtain⟨v,hx,hb_b1⟩:=bs hb_b1;refine ZAu underlying22 sh47 rfl rfl hy1 hx fun p hp=>ZAF rfl rfl (by simpa using cg3)<|ZCT ZCe Sz rfl hp fun p1 hp1=>ZAF rfl rfl (by simpa using cg3)<|ZBQ ag3 rfl hp1 fun y2 hy2=> ?_
  cases hy2;refine ZAF rfl rfl (by simpa using cg3)<|ZAJ (v:=enc (v.v.1 !=1)) rfl rfl rfl<|ZAZ rfl cg3 rfl<|ZAA ?_
  rw[←oi hb_b1];exact⟨hs,FxR rfl⟩
 rintro φ s ⟨hs,hF⟩;rw[←hF.eq];refine ZAE rfl ?_
 obtain⟨b2,hb_b2,h⟩:=bs h;refine ZAS 7 (fun φ s=>Hp s [(.cells m xs),(.gl (NG mx))]∧Fx φ [(1,(.ptr m 0)),(36,(enc b2))]) ?_ ?_
 ·split at hb_b2
  ·rename_i cg4;refine ZAD rfl rfl (by simpa using cg4)<|ZAD rfl rfl (by simpa using cg4)<|ZAD rfl rfl (by simpa using cg4)<|ZAD rfl rfl (by simpa using cg4)<|ZAD rfl rfl (by simpa using cg4)<|ZAD rfl rfl (by simpa using cg4)<|ZAa (v:=enc true) rfl cg4 rfl<|ZAA ?_
   rw[←oi hb_b2];exact⟨hs,FxR rfl⟩
  rename_i cg5;refine ZAF rfl rfl (by simpa using cg5)<|ZAV ZAz rfl<|ZAF rfl rfl (by simpa using cg5)<|ZAK ag22 Sz rfl hxs hs fun y3 hy3=>ZAF rfl rfl (by simpa using cg5) ?_
  obtain⟨v1,hx1,hb_b2⟩:=bs hb_b2;refine ZAu underlying22 sh47 rfl rfl hy3 hx1 fun p2 hp2=>ZAF rfl rfl (by simpa using cg5)<|ZCT ZB4 (Ss Sz) rfl hp2 fun p3 hp3=>ZAF rfl rfl (by simpa using cg5)<|ZBQ ag41 rfl hp3 fun y4 hy4=> ?_
  cases hy4;refine ZAF rfl rfl (by simpa using cg5)<|ZAJ (v:=enc (v1.v.2.1 !=2)) rfl rfl rfl<|ZAZ rfl cg5 rfl<|ZAA ?_
  rw[←oi hb_b2];exact⟨hs,FxR rfl⟩
 rintro φ s ⟨hs,hF⟩;rw[←hF.eq];refine ZAE rfl ?_
 obtain⟨b3,hb_b3,h⟩:=bs h;refine ZAS 4 (fun φ s=>Hp s [(.cells m xs),(.gl (NG mx))]∧Fx φ [(1,(.ptr m 0)),(41,(enc b3))]) ?_ ?_
 ·split at hb_b3
  ·rename_i cg6;refine ZAD rfl rfl (by simpa using cg6)<|ZAD rfl rfl (by simpa using cg6)<|ZAD rfl rfl (by simpa using cg6)<|ZAa (v:=enc true) rfl cg6 rfl<|ZAA ?_
   rw[←oi hb_b3];exact⟨hs,FxR rfl⟩
  rename_i cg7;refine ZAF rfl rfl (by simpa using cg7)<|ZAV ZO3 rfl<|ZAF rfl rfl (by simpa using cg7)<|ZAK ag3 (Ss Sz) rfl hxs hs fun y5 hy5=> ?_
  cases hy5;refine ZAF rfl rfl (by simpa using cg7)<|ZAJ (v:=enc (decide (f.v.2.1<2))) rfl rfl rfl<|ZAZ rfl cg7 rfl<|ZAA ?_
  rw[←oi hb_b3];exact⟨hs,FxR rfl⟩
 rintro φ s ⟨hs,hF⟩;rw[←hF.eq];refine ZAE rfl ?_
 obtain⟨b4,hb_b4,h⟩:=bs h;refine ZAS 4 (fun φ s=>Hp s [(.cells m xs),(.gl (NG mx))]∧Fx φ [(1,(.ptr m 0)),(46,(enc b4))]) ?_ ?_
 ·split at hb_b4
  ·rename_i cg8;refine ZAD rfl rfl (by simpa using cg8)<|ZAD rfl rfl (by simpa using cg8)<|ZAD rfl rfl (by simpa using cg8)<|ZAa (v:=enc true) rfl cg8 rfl<|ZAA ?_
   rw[←oi hb_b4];exact⟨hs,FxR rfl⟩
  rename_i cg9;refine ZAF rfl rfl (by simpa using cg9)<|ZAV ZO3 rfl<|ZAF rfl rfl (by simpa using cg9)<|ZAK ag3 (Ss Sz) rfl hxs hs fun y6 hy6=> ?_
  cases hy6;refine ZAF rfl rfl (by simpa using cg9)<|ZAJ (v:=enc (decide (f.v.2.1 > 513))) rfl rfl rfl<|ZAZ rfl cg9 rfl<|ZAA ?_
  rw[←oi hb_b4];exact⟨hs,FxR rfl⟩
 rintro φ s ⟨hs,hF⟩;rw[←hF.eq];refine ZAA ?_
 split at h
 ·rename_i c';refine ZAH rfl c'<|ZAB<|ZAC<|ZAG (v:=enc false) rfl<|ZAA<|ZAN ?_
  rw[←oi h];exact⟨rfl,KE1 (a:=(false:Bool)) rfl rfl (rfl:is _ (false:Bool)) (rfl:is _ (false:Bool))⟩
 rename_i c';refine ZAI rfl c'<|ZAL<|ZAB<|ZAC<|ZT8 hs fun m1 s hs=> ?_
 replace hs:Hp s [(.grp [(m1, .map (emE ([]:(List (Int×Bool)))))]),(.cells m xs),(.gl (NG mx))]:=hs
 refine ZAG (v:= .mp m1) rfl<|ZAA<|ZAB<|ZAB<|ZAC<|ZAV ZAz rfl ?_
 replace hs:=Hp.front [(.grp [(m1, .map (emE ([]:(List (Int×Bool)))))])] (b:=[(.gl (NG mx))]) hs;refine ZAK ag22 Sz rfl hxs hs fun y7 hy7=>ZAo underlying22 rfl rfl hy7<|ZAE (v:=enc (0:Int)) rfl<|ZAA<|ZAQ ?_
 obtain⟨o,hl,h⟩:=bs h;refine ZAk (fun(p:((List (Int×Bool))×Int)) φ s=>match p with | (known,v2)=>Fx φ [(1,(.ptr m 0)),(4,(.mp m1)),(49,y7),(50,(enc ((f.v.1.length:Int):Int))),(51,(enc v2))]∧Hp s [(.cells m xs),(.gl (NG mx)),(.grp [(m1, .map (emE known))])]) (fun(o:((List (Int×Bool)) ⊕ Bool)) e φ s=>match o with | (.inl known1)=>e= .exit 0∧Fx φ [(1,(.ptr m 0)),(4,(.mp m1))]∧Hp s [(.cells m xs),(.gl (NG mx)),(.grp [(m1, .map (emE known1))])] | (.inr v3)=>e= .ret∧Fx φ [(2,(enc v3))]∧Hp s [(.gl (NG mx))]) ?_ hl ⟨FxR rfl,(Hp.front [(.gl (NG mx)),(.grp [(m1, .map (emE ([]:(List (Int×Bool)))))])] (b:=[]) (Hp.front [(.grp [(m1, .map (emE ([]:(List (Int×Bool)))))]),(.cells m xs)] (b:=[]) (Hp.front [(.cells m xs)] (b:=[(.gl (NG mx))]) hs)))⟩ ?_
 ·rintro⟨known,v2⟩ o h φ s ⟨hF,hs⟩;rw[←hF.eq];rw[ZDO] at h;refine ZAB<|ZAC<|ZAJ (v:=enc (decide (v2<(f.v.1.length:Int)))) rfl rfl rfl<|ZAA<|ZAB ?_
  split at h
  ·rename_i c';refine ZAH rfl c'<|ZAL<|ZAB<|ZAQ<|ZAB<|ZAC<|ZAE rfl ?_
   obtain⟨v4,hx2,h⟩:=bs h;refine ZAu underlying22 sh47 rfl rfl hy7 hx2 fun p4 hp4=>ZDs ag47 sz47 rfl hp4 fun y8 hy8=>ZBG (r:=(Rec.mk ((0:Int),(0:Int),(0:Int),(0:Int),([]:(List UInt8)),(str []),([]:(List Str)),([]:(List Int)),([]:(List ZAi)),()):ZAO)) zr47 zf47 hs fun m2 s hs=>ZAG rfl<|ZAx (r:=v4) sz47 rfl rfl zf47 hy8 hs fun xs1 s hxs1 hs=>ZAA<|ZAB<|ZAB<|ZBJ (by decide+kernel) (by kernel_rfl)<|ZAm (r:=v4) ag47 sz47 rfl hxs1 hs fun y9 hy9=> ?_
   obtain⟨r_,hx3,h⟩:=bs h;refine ZAY (f:=fun a:ZAO×Unit=>ZCB a.1) (a:=(v4,())) rfl func57 rfl rfl (.cons (a:=v4) hy9 .nil) hs (lM _ (lM _ List.mem_cons_self)) hx3<|ZBO (v:=enc (!r_)) rfl rfl<|ZAE rfl ?_
   obtain⟨b5,hb_b5,h⟩:=bs h;refine ZAS 15 (fun φ s=>Hp s [(.cells m2 xs1),(.cells m xs),(.gl (NG mx)),(.grp [(m1, .map (emE known))])]∧Fx φ [(1,(.ptr m 0)),(4,(.mp m1)),(6,(.ptr m2 0)),(49,y7),(50,(enc ((f.v.1.length:Int):Int))),(51,(enc v2)),(74,(enc b5))]) ?_ ?_
   ·split at hb_b5
    ·rename_i cg10;refine ZAD rfl rfl (by simpa using cg10)<|ZAD rfl rfl (by simpa using cg10)<|ZAD rfl rfl (by simpa using cg10)<|ZAP rfl rfl<|ZAP rfl rfl<|ZAP rfl rfl<|ZAP rfl rfl<|ZAP rfl rfl<|ZAP rfl rfl<|ZAP rfl rfl<|ZAP rfl rfl<|ZAP rfl rfl<|ZAP rfl rfl<|ZAD rfl rfl (by simpa using cg10)<|ZAa (v:=enc true) rfl cg10 rfl ?_
     refine ZAA ?_
     rw[←oi hb_b5];exact⟨hs,FxR rfl⟩
    rename_i cg11;refine ZAF rfl rfl (by simpa using cg11)<|ZAE rfl<|ZAF rfl rfl (by simpa using cg11)<|ZAJ (v:=enc (decide (v2 > 0))) rfl rfl rfl<|ZAF rfl rfl (by simpa using cg11)<|ZAE rfl ?_
    obtain⟨b6,hb_b6,hb_b5⟩:=bs hb_b5;refine ZAS 11 (fun φ s=>Hp s [(.cells m2 xs1),(.cells m xs),(.gl (NG mx)),(.grp [(m1, .map (emE known))])]∧Fx φ [(1,(.ptr m 0)),(4,(.mp m1)),(6,(.ptr m2 0)),(49,y7),(50,(enc ((f.v.1.length:Int):Int))),(51,(enc v2)),(59,(enc (!r_))),(73,(enc b6))]) ?_ ?_
    ·split at hb_b6
     ·rename_i cg12;refine ZAF rfl rfl cg12<|ZAV ZAz rfl<|ZAF rfl rfl cg12 ?_
      replace hs:=Hp.front [(.cells m2 xs1)] (b:=[(.gl (NG mx)),(.grp [(m1, .map (emE known))])]) hs;refine ZAK ag22 Sz rfl hxs hs fun y10 hy10=>ZAF rfl rfl cg12<|ZAE rfl<|ZAF rfl rfl cg12<|ZAJ (v:=enc (IntKind.i64.wrap (v2 - 1))) rfl rfl rfl<|ZAF rfl rfl cg12 ?_
      obtain⟨v5,hx4,hb_b6⟩:=bs hb_b6;refine ZAu underlying22 sh47 rfl rfl hy10 hx4 fun p5 hp5=>ZAF rfl rfl cg12<|ZCT ZCe Sz rfl hp5 fun p6 hp6=>ZAF rfl rfl cg12<|ZBQ ag3 rfl hp6 fun y11 hy11=> ?_
      cases hy11;refine ZAF rfl rfl cg12<|ZAV ZCe rfl<|ZAF rfl rfl cg12 ?_
      replace hs:=Hp.front [(.cells m xs)] (b:=[(.gl (NG mx)),(.grp [(m1, .map (emE known))])]) hs;refine ZAK ag3 Sz rfl hxs1 hs fun y12 hy12=> ?_
      cases hy12;refine ZAF rfl rfl cg12<|ZAJ (v:=enc (decide (v5.v.1≥v4.v.1))) rfl rfl rfl<|ZAF rfl rfl (by simpa using cg11)<|ZAa rfl cg12 rfl<|ZAA ?_
      rw[←oi hb_b6];exact⟨hs,FxR rfl⟩
     rename_i cg13;refine ZAD rfl rfl cg13<|ZAD rfl rfl cg13<|ZAD rfl rfl cg13<|ZAD rfl rfl cg13<|ZAD rfl rfl cg13<|ZAD rfl rfl cg13<|ZAD rfl rfl cg13<|ZAD rfl rfl cg13<|ZAD rfl rfl cg13<|ZAD rfl rfl cg13<|ZAF rfl rfl (by simpa using cg11)<|ZAZ (v:=enc false) rfl cg13 rfl<|ZAA ?_
     rw[←oi hb_b6];exact⟨hs,FxR rfl⟩
    rintro φ s ⟨hs,hF⟩;rw[←hF.eq];refine ZAZ rfl cg11 rfl<|ZAA ?_
    rw[←oi hb_b5];exact⟨hs,FxR rfl⟩
   rintro φ s ⟨hs,hF⟩;rw[←hF.eq];refine ZAA ?_
   split at h
   ·rename_i c';refine ZAH rfl c'<|ZAB<|ZAC<|ZAG (v:=enc false) rfl<|ZAA<|ZAN ?_
    show if _ then _ else _
    rw[if_neg (by simp)]
    rw[←oi h];exact⟨_,rfl,rfl,⟨FxR rfl,(Hp.drop [(.gl (NG mx))] (b:=[]) (Hp.drop [] (b:=[(.gl (NG mx)),(.grp [(m1, .map (emE known))])]) (Hp.drop [] (b:=[(.cells m xs),(.gl (NG mx)),(.grp [(m1, .map (emE known))])]) hs)))⟩⟩
   rename_i c';refine ZAI rfl c'<|ZAL<|ZAC<|ZAE (v:= .mp m1) rfl<|ZAV ZCe rfl<|ZAK ag3 Sz rfl hxs1 hs fun y13 hy13=> ?_
   cases hy13;replace hs:=Hp.front [(.cells m2 xs1),(.cells m xs),(.gl (NG mx))] (b:=[]) hs;refine ZWa (xs:=known) (k:=v4.v.1) (v:=(true:Bool)) underlying92 underlying3 rfl rfl rfl hs fun s hs=>ZAA<|ZAC<|ZAJ (v:=enc (IntKind.i64.wrap (v2+1))) rfl rfl rfl<|ZAE rfl<|ZAA ?_
   rw[←oi h];exact⟨_,rfl,⟨FxR rfl,(Hp.front [(.gl (NG mx)),(.grp [(m1, .map (emE (mput known v4.v.1 true)))])] (b:=[]) (Hp.front [(.grp [(m1, .map (emE (mput known v4.v.1 true)))]),(.cells m xs)] (b:=[]) (Hp.front [] (b:=[(.cells m xs),(.gl (NG mx))]) (Hp.drop [(.grp [(m1, .map (emE (mput known v4.v.1 true)))])] (b:=[(.cells m xs),(.gl (NG mx))]) hs))))⟩⟩
  rename_i c';refine ZAI rfl c'<|ZAf ?_
  rw[←oi h];exact⟨_,rfl,rfl,⟨FxR rfl,hs⟩⟩
 intro e φ s hE;rcases o with known1 | v3
 ·obtain⟨rfl,hF,hs⟩:=hE;rw[←hF.eq];rw[ZEr] at h;show if _ then _ else _
  rw[if_pos rfl];refine ZAB<|ZAC<|ZAm (r:=f) ag24 sz24 rfl hxs hs fun y14 hy14=> ?_
  obtain⟨r_1,hx5,h⟩:=bs h;refine ZAt (by kernel_rfl) func58 rfl (vs:=[y14]) rfl (MF.any (ZIJ f _ hx5 hy14 (Hp.packG [] [(.cells m xs),(.gl (NG mx)),(.grp [(m1, .map (emE known1))])] hs)) ZO0) fun w s ⟨en,hm,hq_⟩=> ?_
  replace hs:=Hp.unpackG [] [en] [(.cells m xs),(.gl (NG mx)),(.grp [(m1, .map (emE known1))])] hs hq_;refine ZAG (v:=w) rfl<|ZAA<|ZAB<|ZAB<|ZAC<|ZAE (v:=w) rfl<|ZWd (xs:=r_1) underlying93 rfl hm hs fun m3 ms bs_ ck it s hrm_m3 hu_m3 hln_m3 hnd_m3 hs=>ZAA<|ZAQ ?_
  obtain⟨o,hl,h⟩:=bs h;refine ZXR hrm_m3.keys.1 hrm_m3.keys.2 hln_m3 hnd_m3 hl (fun φ=>Fx φ [(1,(.ptr m 0)),(4,(.mp m1)),(7,w),(82,(.ptr it 0))]) (fun o e φ s=>match o with | .inl _=>e= .exit 2∧∃(en1:En),isMR w en1 r_1∧Fx φ [(1,(.ptr m 0)),(7,w)]∧Hp s [(.cells m xs),(.gl (NG mx)),en1] | .inr v6=>e= .ret∧Fx φ [(2,(enc v6))]∧Hp s [(.gl (NG mx))]) ?_ (FxR rfl) hs ?_
  ·intro φ s seen hF hs;rw[←hF.eq];refine ZAB<|ZAC ?_
   refine ZWX rfl hs (fun hall=> ?_) (fun i_ key_ val_ b_ s he_ hb_ hn_ hs=> ?_)
   ·refine ZWe (xs:=r_1) hrm_m3 hu_m3 hs fun en2 s hb_en2 hs=> ?_
    refine ZAy rfl rfl<|ZAA<|ZAB<|ZAI rfl Bool.false_ne_true<|ZAf ?_
    exact .inl ⟨hall,rfl,_,hb_en2,FxR rfl,(Hp.front [(.gl (NG mx)),en2] (b:=[]) (Hp.front [en2,(.cells m xs)] (b:=[]) (Hp.front [] (b:=[(.cells m xs),(.gl (NG mx))]) (Hp.drop [en2,(.cells m xs),(.gl (NG mx))] (b:=[]) hs))))⟩
   obtain⟨k,x_,rfl,hx_⟩:=ZVM hl hrm_m3 he_;have h:=hx_;rw[ZCV] at h;refine ZAy rfl rfl<|ZAA<|ZAB<|ZAH rfl rfl<|ZAL<|ZAQ<|ZAB<|ZAC ?_
   replace hs:=(Hp.front [(.grp [(m3, .mapb ms bs_ ck)]),(.grp (toks ms)),(.cells m xs),(.gl (NG mx)),(.grp [(m1, .map (emE known1))])] (b:=[]) (Hp.front [(.grp (toks ms)),(.cells m xs),(.gl (NG mx)),(.grp [(m1, .map (emE known1))]),(.grp [(it, .miter m3 ck (seen++[b_]) ck)])] (b:=[]) (Hp.front [(.cells m xs),(.gl (NG mx)),(.grp [(m1, .map (emE known1))]),(.grp [(it, .miter m3 ck (seen++[b_]) ck)]),(.grp [(m3, .mapb ms bs_ ck)])] (b:=[]) (Hp.front [(.gl (NG mx)),(.grp [(m1, .map (emE known1))]),(.grp [(it, .miter m3 ck (seen++[b_]) ck)]),(.grp [(m3, .mapb ms bs_ ck)]),(.grp (toks ms))] (b:=[]) (Hp.front [(.grp [(m1, .map (emE known1))]),(.grp [(it, .miter m3 ck (seen++[b_]) ck)]),(.grp [(m3, .mapb ms bs_ ck)]),(.grp (toks ms)),(.cells m xs)] (b:=[]) (Hp.front [(.grp [(it, .miter m3 ck (seen++[b_]) ck)]),(.grp [(m3, .mapb ms bs_ ck)]),(.grp (toks ms)),(.cells m xs),(.gl (NG mx))] (b:=[]) hs))))));refine ZWY rfl hs he_ hb_<|ZAy rfl rfl<|ZAG rfl<|ZAA<|ZAB<|ZAC<|ZAE (v:= .mp m1) rfl<|ZAE rfl ?_
   replace hs:=Hp.front [(.grp [(it, .miter m3 ck (seen++[b_]) ck)]),(.grp [(m3, .mapb ms bs_ ck)]),(.grp (toks ms)),(.cells m xs),(.gl (NG mx))] (b:=[]) hs;refine ZWZ (xs:=known1) (k:=k) (z:=false) underlying92 underlying3 (by kernel_rfl) rfl rfl hs<|ZBO (v:=enc (!((mget known1 k).getD false))) rfl rfl<|ZAA ?_
   split at h
   ·rename_i c';refine ZAH rfl c'<|ZAB<|ZAC<|ZAG (v:=enc false) rfl<|ZAA<|ZAN ?_
    show if _ then _ else _
    rw[if_neg (by simp)]
    exact .inr ⟨i_,k,val_,false,he_,hx_.trans h.symm,rfl,⟨FxR rfl,(Hp.drop [] (b:=[(.gl (NG mx))]) (Hp.drop [] (b:=[(.cells m xs),(.gl (NG mx))]) (Hp.drop [] (b:=[(.grp (toks ms)),(.cells m xs),(.gl (NG mx))]) (Hp.drop [] (b:=[(.grp [(m3, .mapb ms bs_ ck)]),(.grp (toks ms)),(.cells m xs),(.gl (NG mx))]) (Hp.drop [] (b:=[(.grp [(it, .miter m3 ck (seen++[b_]) ck)]),(.grp [(m3, .mapb ms bs_ ck)]),(.grp (toks ms)),(.cells m xs),(.gl (NG mx))]) hs)))))⟩⟩
   rename_i c';refine ZAI rfl c'<|ZAL ?_
   exact⟨i_,k,val_,b_,he_,hb_,hn_,hx_.trans h.symm,FxR rfl,(Hp.front [(.grp [(m3, .mapb ms bs_ ck)]),(.grp (toks ms)),(.cells m xs),(.gl (NG mx)),(.grp [(m1, .map (emE known1))])] (b:=[]) (Hp.front [(.grp (toks ms)),(.cells m xs),(.gl (NG mx)),(.grp [(m1, .map (emE known1))]),(.grp [(it, .miter m3 ck (seen++[b_]) ck)])] (b:=[]) (Hp.front [(.cells m xs),(.gl (NG mx)),(.grp [(m1, .map (emE known1))]),(.grp [(it, .miter m3 ck (seen++[b_]) ck)]),(.grp [(m3, .mapb ms bs_ ck)])] (b:=[]) (Hp.front [(.gl (NG mx)),(.grp [(m1, .map (emE known1))]),(.grp [(it, .miter m3 ck (seen++[b_]) ck)]),(.grp [(m3, .mapb ms bs_ ck)]),(.grp (toks ms))] (b:=[]) (Hp.front [(.grp [(m1, .map (emE known1))]),(.grp [(it, .miter m3 ck (seen++[b_]) ck)]),(.grp [(m3, .mapb ms bs_ ck)]),(.grp (toks ms)),(.cells m xs)] (b:=[]) (Hp.front [] (b:=[(.grp [(it, .miter m3 ck (seen++[b_]) ck)]),(.grp [(m3, .mapb ms bs_ ck)]),(.grp (toks ms)),(.cells m xs),(.gl (NG mx))]) hs))))))⟩
  intro e φ s hE;rcases o with _ | v6
  ·obtain⟨rfl,en1,hb_en1,hF,hs⟩:=hE;rw[←hF.eq];rw[ZDQ] at h;show if _ then _ else _
   rw[if_pos rfl];refine ZAB<|ZAB<|ZAC<|ZAV ZAz rfl<|ZAK ag22 Sz rfl hxs hs fun y15 hy15=>ZAo underlying22 rfl rfl hy15<|ZAE (v:=enc (0:Int)) rfl<|ZAA<|ZAQ ?_
   obtain⟨o,hl,h⟩:=bs h;refine ZAk (fun(p:Int) φ s=>match p with | v7=>Fx φ [(1,(.ptr m 0)),(7,w),(92,y15),(93,(enc ((f.v.1.length:Int):Int))),(94,(enc v7))]∧Hp s [(.cells m xs),(.gl (NG mx)),en1]) (fun(o:(Unit ⊕ Bool)) e φ s=>match o with | (.inl _)=>e= .exit 4∧Fx φ []∧Hp s [(.gl (NG mx))] | (.inr v8)=>e= .ret∧Fx φ [(2,(enc v8))]∧Hp s [(.gl (NG mx))]) ?_ hl ⟨FxR rfl,hs⟩ ?_
   ·rintro v7 o h φ s ⟨hF,hs⟩;rw[←hF.eq];rw[ZCW] at h;refine ZAB<|ZAC<|ZAJ (v:=enc (decide (v7<(f.v.1.length:Int)))) rfl rfl rfl<|ZAA<|ZAB ?_
    split at h
    ·rename_i c';refine ZAH rfl c'<|ZAL<|ZAB<|ZAQ<|ZAB<|ZAC ?_
     obtain⟨v9,hx6,h⟩:=bs h;refine ZAu underlying22 sh47 rfl rfl hy15 hx6 fun p7 hp7=>ZDs ag47 sz47 rfl hp7 fun y16 hy16=>ZBG (r:=(Rec.mk ((0:Int),(0:Int),(0:Int),(0:Int),([]:(List UInt8)),(str []),([]:(List Str)),([]:(List Int)),([]:(List ZAi)),()):ZAO)) zr47 zf47 hs fun m4 s hs=>ZAx (r:=v9) sz47 rfl rfl zf47 hy16 hs fun xs2 s hxs2 hs=>ZAA<|ZAB<|ZAC<|ZAE (v:=w) rfl<|ZAV ZCe rfl<|ZAK ag3 Sz rfl hxs2 hs fun y17 hy17=> ?_
     cases hy17;replace hs:=Hp.front [(.cells m4 xs2),(.cells m xs),(.gl (NG mx))] (b:=[]) hs;refine ZRW (xs:=r_1) (k:=v9.v.1) underlying93 underlying3 (by kernel_rfl) rfl rfl hb_en1 hs fun w1 hw1=>ZAo underlying44 rfl rfl hw1<|ZAG rfl<|ZAA<|ZAQ<|ZAB<|ZAC<|ZAV ZB4 rfl ?_
     replace hs:=Hp.front [en1] (b:=[(.cells m xs),(.gl (NG mx))]) hs;refine ZAK ag41 (Ss Sz) rfl hxs2 hs fun y18 hy18=> ?_
     cases hy18;refine ZAJ (v:=enc (v9.v.2.1 !=2)) rfl rfl rfl<|ZAE rfl ?_
     obtain⟨b7,hb_b7,h⟩:=bs h;refine ZAS 5 (fun φ s=>Hp s [(.cells m4 xs2),en1,(.cells m xs),(.gl (NG mx))]∧Fx φ [(1,(.ptr m 0)),(7,w),(10,(.ptr m4 0)),(11,(enc ((((mget r_1 v9.v.1).getD []).length:Int):Int))),(92,y15),(93,(enc ((f.v.1.length:Int):Int))),(94,(enc v7)),(112,(enc b7))]) ?_ ?_
     ·split at hb_b7
      ·rename_i cg14;refine ZAF rfl rfl cg14<|ZAE rfl<|ZAF rfl rfl cg14<|ZAV ZKX rfl<|ZAF rfl rfl cg14<|ZAK ag3 (Ss (Ss (Ss Sz))) rfl hxs2 hs fun y19 hy19=> ?_
       cases hy19;refine ZAF rfl rfl cg14<|ZAJ (v:=enc (((((mget r_1 v9.v.1).getD []).length:Int) !=v9.v.2.2.2.1):Bool)) rfl rfl rfl<|ZAa rfl cg14 rfl<|ZAA ?_
       rw[←oi hb_b7];exact⟨hs,FxR rfl⟩
      rename_i cg15;refine ZAD rfl rfl cg15<|ZAD rfl rfl cg15<|ZAD rfl rfl cg15<|ZAD rfl rfl cg15<|ZAZ (v:=enc false) rfl cg15 rfl<|ZAA ?_
      rw[←oi hb_b7];exact⟨hs,FxR rfl⟩
     rintro φ s ⟨hs,hF⟩;rw[←hF.eq];refine ZAG rfl<|ZAA ?_
     split at h
     ·rename_i c';refine ZAH rfl c'<|ZAB<|ZAC<|ZAG (v:=enc false) rfl<|ZAA<|ZAN ?_
      show if _ then _ else _
      rw[if_neg (by simp)]
      show if _ then _ else _
      rw[if_neg (by simp)]
      rw[←oi h];exact⟨_,rfl,rfl,⟨FxR rfl,(Hp.drop [] (b:=[(.gl (NG mx))]) (Hp.drop [] (b:=[(.cells m xs),(.gl (NG mx))]) (Hp.drop [] (b:=[en1,(.cells m xs),(.gl (NG mx))]) hs)))⟩⟩
     rename_i c';refine ZAI rfl c'<|ZAB<|ZAC<|ZAV ZB4 rfl<|ZAK ag41 (Ss Sz) rfl hxs2 hs fun y20 hy20=> ?_
     cases hy20;refine ZAJ (v:=enc (v9.v.2.1==2)) rfl rfl rfl<|ZAE rfl ?_
     obtain⟨b8,hb_b8,h⟩:=bs h;refine ZAS 22 (fun φ s=>Hp s [(.cells m4 xs2),en1,(.cells m xs),(.gl (NG mx))]∧Fx φ [(1,(.ptr m 0)),(7,w),(92,y15),(93,(enc ((f.v.1.length:Int):Int))),(94,(enc v7)),(139,(enc b8))]) ?_ ?_
     ·split at hb_b8
      ·rename_i cg16;refine ZAF rfl rfl cg16<|ZAE rfl<|ZAF rfl rfl cg16<|ZAJ (v:=enc (decide ((((mget r_1 v9.v.1).getD []).length:Int) > 1))) rfl rfl rfl<|ZAF rfl rfl cg16<|ZAE rfl ?_
       obtain⟨b9,hb_b9,hb_b8⟩:=bs hb_b8;refine ZAS 8 (fun φ s=>Hp s [(.cells m4 xs2),en1,(.cells m xs),(.gl (NG mx))]∧Fx φ [(1,(.ptr m 0)),(7,w),(10,(.ptr m4 0)),(92,y15),(93,(enc ((f.v.1.length:Int):Int))),(94,(enc v7)),(117,(enc (v9.v.2.1==2))),(128,(enc b9))]) ?_ ?_
       ·split at hb_b9
        ·rename_i cg17;refine ZAD rfl rfl (by simpa using cg17)<|ZAD rfl rfl (by simpa using cg17)<|ZAD rfl rfl (by simpa using cg17)<|ZAP rfl rfl<|ZAP rfl rfl<|ZAP rfl rfl<|ZAD rfl rfl (by simpa using cg17)<|ZAF rfl rfl cg16<|ZAa (v:=enc true) rfl cg17 rfl<|ZAA ?_
         rw[←oi hb_b9];exact⟨hs,FxR rfl⟩
        rename_i cg18;refine ZAF rfl rfl (by simpa using cg18)<|ZAE rfl<|ZAF rfl rfl (by simpa using cg18)<|ZAJ (v:=enc (decide ((((mget r_1 v9.v.1).getD []).length:Int) > 0))) rfl rfl rfl<|ZAF rfl rfl (by simpa using cg18)<|ZAE rfl ?_
        obtain⟨b10,hb_b10,hb_b9⟩:=bs hb_b9;refine ZAS 4 (fun φ s=>Hp s [(.cells m4 xs2),en1,(.cells m xs),(.gl (NG mx))]∧Fx φ [(1,(.ptr m 0)),(7,w),(10,(.ptr m4 0)),(92,y15),(93,(enc ((f.v.1.length:Int):Int))),(94,(enc v7)),(117,(enc (v9.v.2.1==2))),(120,(enc (decide ((((mget r_1 v9.v.1).getD []).length:Int) > 1)))),(127,(enc b10))]) ?_ ?_
        ·split at hb_b10
         ·rename_i cg19;refine ZAF rfl rfl cg19<|ZAV ZCe rfl<|ZAF rfl rfl cg19<|ZAK ag3 Sz rfl hxs2 hs fun y21 hy21=> ?_
          cases hy21;refine ZAF rfl rfl cg19<|ZAJ (v:=enc (v9.v.1==1)) rfl rfl rfl<|ZAF rfl rfl (by simpa using cg18)<|ZAa rfl cg19 rfl<|ZAA ?_
          rw[←oi hb_b10];exact⟨hs,FxR rfl⟩
         rename_i cg20;refine ZAD rfl rfl cg20<|ZAD rfl rfl cg20<|ZAD rfl rfl cg20<|ZAF rfl rfl (by simpa using cg18)<|ZAZ (v:=enc false) rfl cg20 rfl<|ZAA ?_
         rw[←oi hb_b10];exact⟨hs,FxR rfl⟩
        rintro φ s ⟨hs,hF⟩;rw[←hF.eq];refine ZAF rfl rfl cg16<|ZAZ rfl cg18 rfl<|ZAA ?_
        rw[←oi hb_b9];exact⟨hs,FxR rfl⟩
       rintro φ s ⟨hs,hF⟩;rw[←hF.eq];refine ZAF rfl rfl cg16<|ZAE rfl ?_
       obtain⟨b11,hb_b11,hb_b8⟩:=bs hb_b8;refine ZAS 9 (fun φ s=>Hp s [(.cells m4 xs2),en1,(.cells m xs),(.gl (NG mx))]∧Fx φ [(1,(.ptr m 0)),(7,w),(92,y15),(93,(enc ((f.v.1.length:Int):Int))),(94,(enc v7)),(117,(enc (v9.v.2.1==2))),(138,(enc b11))]) ?_ ?_
       ·split at hb_b11
        ·rename_i cg21;refine ZAD rfl rfl (by simpa using cg21)<|ZAD rfl rfl (by simpa using cg21)<|ZAD rfl rfl (by simpa using cg21)<|ZAD rfl rfl (by simpa using cg21)<|ZAD rfl rfl (by simpa using cg21)<|ZAD rfl rfl (by simpa using cg21)<|ZAD rfl rfl (by simpa using cg21)<|ZAD rfl rfl (by simpa using cg21)<|ZAF rfl rfl cg16<|ZAa (v:=enc true) rfl cg21 rfl<|ZAA ?_
         rw[←oi hb_b11];exact⟨hs,FxR rfl⟩
        rename_i cg22;refine ZAF rfl rfl (by simpa using cg22)<|ZAE (v:=w) rfl<|ZAF rfl rfl (by simpa using cg22)<|ZAV ZCe rfl<|ZAF rfl rfl (by simpa using cg22)<|ZAK ag3 Sz rfl hxs2 hs fun y22 hy22=> ?_
        cases hy22;refine ZAF rfl rfl (by simpa using cg22)<|ZAV ZAz rfl<|ZAF rfl rfl (by simpa using cg22) ?_
        replace hs:=Hp.front [(.cells m4 xs2),en1] (b:=[(.gl (NG mx))]) hs;refine ZAK ag22 Sz rfl hxs hs fun y23 hy23=>ZAF rfl rfl (by simpa using cg22)<|ZAo underlying22 rfl rfl hy23<|ZAF rfl rfl (by simpa using cg22) ?_
        replace hs:=Hp.front [(.cells m xs),(.cells m4 xs2)] (b:=[(.gl (NG mx))]) hs;obtain⟨r_2,hx7,hb_b11⟩:=bs hb_b11;refine ZAt (by kernel_rfl) func59 rfl (vs:=[w,(enc v9.v.1),(enc ((f.v.1.length:Int):Int))]) rfl (MF.any (ZLB r_1 v9.v.1 (f.v.1.length:Int) _ hx7 hb_en1 (Hp.packG [en1] [(.cells m xs),(.cells m4 xs2),(.gl (NG mx))] hs)) ZO0) fun w2 s ⟨hm1,hq_⟩=> ?_
        replace hs:=Hp.unpackG [en1] [en1] [(.cells m xs),(.cells m4 xs2),(.gl (NG mx))] hs hq_
        cases hm1;refine ZAF rfl rfl (by simpa using cg22)<|ZBO (v:=enc (!r_2)) rfl rfl<|ZAF rfl rfl cg16<|ZAZ rfl cg22 rfl<|ZAA ?_
        rw[←oi hb_b11];exact⟨(Hp.front [en1,(.cells m xs),(.gl (NG mx))] (b:=[]) (Hp.front [(.cells m xs),(.gl (NG mx))] (b:=[(.cells m4 xs2)]) (Hp.front [(.gl (NG mx)),en1] (b:=[(.cells m4 xs2)]) (Hp.front [en1,(.cells m xs),(.cells m4 xs2)] (b:=[]) hs)))),FxR rfl⟩
       rintro φ s ⟨hs,hF⟩;rw[←hF.eq];refine ZAa rfl cg16 rfl<|ZAA ?_
       rw[←oi hb_b8];exact⟨hs,FxR rfl⟩
      rename_i cg23;refine ZAD rfl rfl cg23<|ZAD rfl rfl cg23<|ZAD rfl rfl cg23<|ZAP rfl rfl<|ZAP rfl rfl<|ZAP rfl rfl<|ZAP rfl rfl<|ZAP rfl rfl<|ZAP rfl rfl<|ZAP rfl rfl<|ZAD rfl rfl cg23<|ZAD rfl rfl cg23<|ZAP rfl rfl<|ZAP rfl rfl<|ZAP rfl rfl ?_
      refine ZAP rfl rfl<|ZAP rfl rfl<|ZAP rfl rfl<|ZAP rfl rfl<|ZAP rfl rfl<|ZAD rfl rfl cg23<|ZAZ (v:=enc false) rfl cg23 rfl<|ZAA ?_
      rw[←oi hb_b8];exact⟨hs,FxR rfl⟩
     rintro φ s ⟨hs,hF⟩;rw[←hF.eq];refine ZAG rfl<|ZAA ?_
     split at h
     ·rename_i c';refine ZAH rfl c'<|ZAB<|ZAC<|ZAG (v:=enc false) rfl<|ZAA<|ZAN ?_
      show if _ then _ else _
      rw[if_neg (by simp)]
      show if _ then _ else _
      rw[if_neg (by simp)]
      rw[←oi h];exact⟨_,rfl,rfl,⟨FxR rfl,(Hp.drop [] (b:=[(.gl (NG mx))]) (Hp.drop [] (b:=[(.cells m xs),(.gl (NG mx))]) (Hp.drop [] (b:=[en1,(.cells m xs),(.gl (NG mx))]) hs)))⟩⟩
     rename_i c';refine ZAI rfl c'<|ZAL<|ZAC<|ZAJ (v:=enc (IntKind.i64.wrap (v7+1))) rfl rfl rfl<|ZAE rfl<|ZAA ?_
     rw[←oi h];exact⟨_,rfl,⟨FxR rfl,(Hp.front [(.gl (NG mx)),en1] (b:=[]) (Hp.front [en1,(.cells m xs)] (b:=[]) (Hp.front [] (b:=[(.cells m xs),(.gl (NG mx))]) (Hp.drop [] (b:=[en1,(.cells m xs),(.gl (NG mx))]) hs))))⟩⟩
    rename_i c';refine ZAI rfl c'<|ZAf ?_
    rw[←oi h];exact⟨_,rfl,rfl,⟨trivial,(Hp.drop [(.gl (NG mx))] (b:=[]) (Hp.drop [] (b:=[(.gl (NG mx)),en1]) hs))⟩⟩
   intro e φ s hE;rcases o with _u | v8
   ·obtain⟨rfl,hF,hs⟩:=hE;rw[←hF.eq];rw[ZDP] at h;show if _ then _ else _
    rw[if_pos rfl];refine ZAB<|ZAC<|ZAG (v:=enc true) rfl<|ZAA<|ZAN ?_
    rw[←oi h];exact⟨rfl,KE1 (a:=(true:Bool)) rfl rfl (rfl:is _ (true:Bool)) (rfl:is _ (true:Bool))⟩
   obtain⟨rfl,hF,hs⟩:=hE;rw[←hF.eq];rw[ZDP] at h;show if _ then _ else _
   rw[if_neg (by simp)]
   rw[←oi h];exact⟨rfl,KE1 (a:=v8) rfl rfl (rfl:is _ v8) (rfl:is _ v8)⟩
  obtain⟨rfl,hF,hs⟩:=hE;rw[←hF.eq];rw[ZDQ] at h;show if _ then _ else _
  rw[if_neg (by simp)]
  rw[←oi h];exact⟨rfl,KE1 (a:=v6) rfl rfl (rfl:is _ v6) (rfl:is _ v6)⟩
 obtain⟨rfl,hF,hs⟩:=hE;rw[←hF.eq];rw[ZEr] at h;show if _ then _ else _
 rw[if_neg (by simp)]
 rw[←oi h];exact⟨rfl,KE1 (a:=v3) rfl rfl (rfl:is _ v3) (rfl:is _ v3)⟩
theorem ZKE (mx:Int):ZAq Tryz.prog 40 (FnG (NG mx) (fun a:FsR×Unit=>ZAw a.1)):=fnCG (ZUJ mx) ⟨_,func40,rfl⟩<|fun a r h=>ZKD mx a.1 r h
noncomputable def pu1 (mx:Int):Prims:=(pv8 mx).addG 40 (FnG (NG mx) (fun a:FsR×Unit=>ZAw a.1))
theorem ZUN (mx:Int):ZAX Tryz.prog (pu1 mx):=ZAR (ZUJ mx) (ZKE mx)
theorem ZHa (mx:Int) (f:FsR) (num:Int) (r:ZAO×(Err 154)) (h:ZBB f num=some r):MF Tryz.prog (pu1 mx) 60 [enc f,enc num] (sG (NG mx)) fun v _=>ris v r:=by
 refine ZAh [(0,enc f),(1,enc num)] func60 rfl (by simp only[Tryz.f60];rfl) fun ψ=> ?_
 unfold ZBB at h;have hs:Hp (sG (NG mx)) [.gl (NG mx)]:=Hp.gl0
 refine ZAB<|ZAC<|ZA5 (r:=f) rfl (Enc.self f) hs fun m xs s hxs hs=>ZBG (r:=(Rec.mk ((0:Int),(0:Int),(0:Int),(0:Int),([]:(List UInt8)),(str []),([]:(List Str)),([]:(List Int)),([]:(List ZAi)),()):ZAO)) zr47 zf47 hs fun m1 s hs=>ZAG (v:= .nifc) rfl<|ZAA<|ZAB<|ZAC ?_
 replace hs:=Hp.front [(.cells m1 zx47)] (b:=[(.gl (NG mx))]) hs;refine ZAm (r:=f) ag24 sz24 rfl hxs hs fun y hy=>ZAE rfl ?_
 obtain⟨r_,hx,h⟩:=bs h;refine ZCr (f:=fun a:FsR×Int×Unit=>ZA6 a.1 a.2.1) (a:=(f,num,())) rfl func24 rfl rfl (.cons (a:=f) hy (.cons (a:=num) (Enc.self _) .nil)) hx<|ZAG rfl<|ZAA<|ZAB<|ZAQ<|ZAB<|ZAC<|ZAm (r:=f) ag24 sz24 rfl hxs hs fun y1 hy1=> ?_
 obtain⟨r_1,hx1,h⟩:=bs h;refine ZAY (f:=fun a:FsR×Unit=>ZAw a.1) (a:=(f,())) rfl func40 rfl rfl (.cons (a:=f) hy1 .nil) hs (lM _ (lM _ List.mem_cons_self)) hx1<|ZBO (v:=enc (!r_1)) rfl rfl<|ZAG rfl<|ZAA ?_
 split at h
 ·rename_i c';refine ZAH rfl c'<|ZAB<|ZAC<|ZBZ (r0:=((0:Int),(0:Int),(0:Int),(0:Int),([]:(List UInt8)),(str []),([]:(List Str)),([]:(List Int)),([]:(List ZAi)),())) bu47 zr47 zf47 rfl rfl (r:=((0:Int),(0:Int),(0:Int),(0:Int),([]:(List UInt8)),(str []),([]:(List Str)),([]:(List Int)),([]:(List ZAi)),())) .nil fun y2 hy2=> ?_
  obtain⟨r_2,hx2,h⟩:=bs h;refine ZCr (f:=fun a:Int×Unit=>ZDM a.1) (a:=(2,())) rfl func74 rfl rfl (.cons (a:=(2:Int)) (rfl:is _ (2:Int)) .nil) hx2 ?_
  replace hs:=Hp.front [(.cells m xs)] (b:=[(.gl (NG mx))]) hs;refine ZAx (r:=(Rec.mk ((0:Int),(0:Int),(0:Int),(0:Int),([]:(List UInt8)),(str []),([]:(List Str)),([]:(List Int)),([]:(List ZAi)),()):ZAO)) sz47 rfl rfl zf47 hy2 hs fun xs1 s hxs1 hs=>ZAG rfl<|ZAA<|ZAN ?_
  show if _ then _ else _
  rw[if_neg (by simp)]
  obtain⟨w,hlw,hw⟩:=ldW (r:=(Rec.mk ((0:Int),(0:Int),(0:Int),(0:Int),([]:(List UInt8)),(str []),([]:(List Str)),([]:(List Int)),([]:(List ZAi)),()):ZAO)) ag47 sz47 hxs1 hs;rw[←oi h];exact⟨rfl,KEc2 (a1:=((Rec.mk ((0:Int),(0:Int),(0:Int),(0:Int),([]:(List UInt8)),(str []),([]:(List Str)),([]:(List Int)),([]:(List ZAi)),()):ZAO):ZAO)) (a2:=(r_2:(Err 154))) rfl (.cell rfl hlw (.tmp rfl .nil)) hw (Enc.self r_2) ⟨_,_,rfl,hw,(Enc.self r_2)⟩⟩
 rename_i c';refine ZAI rfl c'<|ZAB<|ZAC<|ZAE rfl<|ZAJ (v:=enc (decide (r_<0))) rfl rfl rfl<|ZAG rfl<|ZAA ?_
 split at h
 ·rename_i c';refine ZAH rfl c'<|ZAB<|ZAC<|ZBZ (r0:=((0:Int),(0:Int),(0:Int),(0:Int),([]:(List UInt8)),(str []),([]:(List Str)),([]:(List Int)),([]:(List ZAi)),())) bu47 zr47 zf47 rfl rfl (r:=((0:Int),(0:Int),(0:Int),(0:Int),([]:(List UInt8)),(str []),([]:(List Str)),([]:(List Int)),([]:(List ZAi)),())) .nil fun y3 hy3=> ?_
  obtain⟨r_3,hx3,h⟩:=bs h;refine ZCr (f:=fun a:Int×Unit=>ZDM a.1) (a:=(201,())) rfl func74 rfl rfl (.cons (a:=(201:Int)) (rfl:is _ (201:Int)) .nil) hx3 ?_
  replace hs:=Hp.front [(.cells m xs)] (b:=[(.gl (NG mx))]) hs;refine ZAx (r:=(Rec.mk ((0:Int),(0:Int),(0:Int),(0:Int),([]:(List UInt8)),(str []),([]:(List Str)),([]:(List Int)),([]:(List ZAi)),()):ZAO)) sz47 rfl rfl zf47 hy3 hs fun xs2 s hxs2 hs=>ZAG rfl<|ZAA<|ZAN ?_
  show if _ then _ else _
  rw[if_neg (by simp)]
  obtain⟨w1,hlw1,hw1⟩:=ldW (r:=(Rec.mk ((0:Int),(0:Int),(0:Int),(0:Int),([]:(List UInt8)),(str []),([]:(List Str)),([]:(List Int)),([]:(List ZAi)),()):ZAO)) ag47 sz47 hxs2 hs;rw[←oi h];exact⟨rfl,KEc2 (a1:=((Rec.mk ((0:Int),(0:Int),(0:Int),(0:Int),([]:(List UInt8)),(str []),([]:(List Str)),([]:(List Int)),([]:(List ZAi)),()):ZAO):ZAO)) (a2:=(r_3:(Err 154))) rfl (.cell rfl hlw1 (.tmp rfl .nil)) hw1 (Enc.self r_3) ⟨_,_,rfl,hw1,(Enc.self r_3)⟩⟩
 rename_i c';refine ZAI rfl c'<|ZAB<|ZAC<|ZAV ZAz rfl<|ZAK ag22 Sz rfl hxs hs fun y4 hy4=>ZAE rfl ?_
 obtain⟨v,hx4,h⟩:=bs h;refine ZAu underlying22 sh47 rfl rfl hy4 hx4 fun p hp=>ZCT ZB4 (Ss Sz) rfl hp fun p1 hp1=>ZBQ ag41 rfl hp1 fun y5 hy5=> ?_
 cases hy5;refine ZAJ (v:=enc (v.v.2.1 !=2)) rfl rfl rfl<|ZAG rfl<|ZAA ?_
 split at h
 ·rename_i c';refine ZAH rfl c'<|ZAB<|ZAC<|ZBZ (r0:=((0:Int),(0:Int),(0:Int),(0:Int),([]:(List UInt8)),(str []),([]:(List Str)),([]:(List Int)),([]:(List ZAi)),())) bu47 zr47 zf47 rfl rfl (r:=((0:Int),(0:Int),(0:Int),(0:Int),([]:(List UInt8)),(str []),([]:(List Str)),([]:(List Int)),([]:(List ZAi)),())) .nil fun y6 hy6=> ?_
  obtain⟨r_4,hx5,h⟩:=bs h;refine ZCr (f:=fun a:Int×Unit=>ZDM a.1) (a:=(203,())) rfl func74 rfl rfl (.cons (a:=(203:Int)) (rfl:is _ (203:Int)) .nil) hx5 ?_
  replace hs:=Hp.front [(.cells m xs)] (b:=[(.gl (NG mx))]) hs;refine ZAx (r:=(Rec.mk ((0:Int),(0:Int),(0:Int),(0:Int),([]:(List UInt8)),(str []),([]:(List Str)),([]:(List Int)),([]:(List ZAi)),()):ZAO)) sz47 rfl rfl zf47 hy6 hs fun xs3 s hxs3 hs=>ZAG rfl<|ZAA<|ZAN ?_
  show if _ then _ else _
  rw[if_neg (by simp)]
  obtain⟨w2,hlw2,hw2⟩:=ldW (r:=(Rec.mk ((0:Int),(0:Int),(0:Int),(0:Int),([]:(List UInt8)),(str []),([]:(List Str)),([]:(List Int)),([]:(List ZAi)),()):ZAO)) ag47 sz47 hxs3 hs;rw[←oi h];exact⟨rfl,KEc2 (a1:=((Rec.mk ((0:Int),(0:Int),(0:Int),(0:Int),([]:(List UInt8)),(str []),([]:(List Str)),([]:(List Int)),([]:(List ZAi)),()):ZAO):ZAO)) (a2:=(r_4:(Err 154))) rfl (.cell rfl hlw2 (.tmp rfl .nil)) hw2 (Enc.self r_4) ⟨_,_,rfl,hw2,(Enc.self r_4)⟩⟩
 rename_i c';refine ZAI rfl c'<|ZAL<|ZAB<|ZAC<|ZAV ZAz rfl<|ZAK ag22 Sz rfl hxs hs fun y7 hy7=>ZAE rfl ?_
 obtain⟨v1,hx6,h⟩:=bs h;refine ZAu underlying22 sh47 rfl rfl hy7 hx6 fun p2 hp2=>ZDs ag47 sz47 rfl hp2 fun y8 hy8=> ?_
 replace hs:=Hp.front [(.cells m xs)] (b:=[(.gl (NG mx))]) hs;refine ZAx (r:=v1) sz47 rfl rfl zf47 hy8 hs fun xs4 s hxs4 hs=>ZAG (v:= .nifc) rfl<|ZAA<|ZAN ?_
 obtain⟨w3,hlw3,hw3⟩:=ldW (r:=v1) ag47 sz47 hxs4 hs;rw[←oi h];exact⟨rfl,KEc2 (a1:=v1) (a2:=((Err.mk none:Err 154):(Err 154))) rfl (.cell rfl hlw3 (.tmp rfl .nil)) hw3 rfl ⟨_,_,rfl,hw3,rfl⟩⟩
theorem ZHb (mx:Int):ZAq Tryz.prog 60 (FnG (NG mx) (fun a:FsR×Int×Unit=>ZBB a.1 a.2.1)):=fnCG (ZUN mx) ⟨_,func60,rfl⟩<|fun a r h=>ZHa mx a.1 a.2.1 r h
noncomputable def pu2 (mx:Int):Prims:=(pu1 mx).addG 60 (FnG (NG mx) (fun a:FsR×Int×Unit=>ZBB a.1 a.2.1))
theorem ZUO (mx:Int):ZAX Tryz.prog (pu2 mx):=ZAR (ZUN mx) (ZHb mx)
theorem ZJU (mx:Int) (f:FsR) (dir:Int) (s_:Str) (r:Int×Int) (h:ZCC f dir s_=some r):MF Tryz.prog (pu2 mx) 67 [enc f,enc dir,enc s_] (sG (NG mx)) fun v _=>ris v r:=by
 refine ZAh [(0,enc f),(1,enc dir),(2,enc s_)] func67 rfl (by simp only[Tryz.f67];rfl) fun ψ=> ?_
 unfold ZCC at h;have hs:Hp (sG (NG mx)) [.gl (NG mx)]:=Hp.gl0
 refine ZAB<|ZAC<|ZA5 (r:=f) rfl (Enc.self f) hs fun m xs s hxs hs=>ZAG (v:=enc (0:Int)) rfl<|ZAG (v:=enc (0:Int)) rfl<|ZAA<|ZAB<|ZAC<|ZAm (r:=f) ag24 sz24 rfl hxs hs fun y hy=>ZAE rfl ?_
 obtain⟨r_,hx,h⟩:=bs h;refine ZAY (f:=fun a:FsR×Int×Unit=>ZBB a.1 a.2.1) (a:=(f,dir,())) rfl func60 rfl rfl (.cons (a:=f) hy (.cons (a:=dir) (Enc.self _) .nil)) hs (lM _ List.mem_cons_self) hx<|ZAE (v:=res r_) rfl<|ZAy rfl rfl<|ZAy rfl rfl<|ZBG (r:=(Rec.mk ((0:Int),(0:Int),(0:Int),(0:Int),([]:(List UInt8)),(str []),([]:(List Str)),([]:(List Int)),([]:(List ZAi)),()):ZAO)) zr47 zf47 hs fun m1 s hs=>ZAx (r:=r_.1) sz47 rfl rfl zf47 (Enc.self r_.1) hs fun xs1 s hxs1 hs=>ZAG rfl<|ZAA<|ZAB<|ZAB<|ZAC<|ZAE rfl<|ZTv (r:=r_.2) underlying60 rfl (Enc.self r_.2)<|ZAA ?_
 split at h
 ·rename_i c';refine ZAH rfl c'<|ZAB<|ZAC<|ZAE rfl ?_
  obtain⟨r_1,hx1,h⟩:=bs h;refine ZAY (f:=fun a:(Err 154)×Unit=>ZCa a.1) (a:=(r_.2,())) rfl func80 rfl rfl (.cons (a:=(r_.2:(Err 154))) (Enc.self r_.2) .nil) hs (lM _ (lM _ List.mem_cons_self)) hx1<|ZAG (v:=enc (0:Int)) rfl<|ZAG rfl<|ZAA<|ZAN ?_
  rw[←oi h];exact⟨rfl,KE2 (a1:=(0:Int)) (a2:=r_1) rfl rfl rfl (rfl:is _ (0:Int)) (rfl:is _ r_1) ⟨_,_,rfl,(rfl:is _ (0:Int)),(rfl:is _ r_1)⟩⟩
 rename_i c';refine ZAI rfl c'<|ZAL<|ZAB<|ZAC<|ZAV ZEZ rfl<|ZAK ag43 (Ss (Ss (Ss (Ss (Ss (Ss Sz)))))) rfl hxs1 hs fun y1 hy1=>ZAE rfl ?_
 obtain⟨r_2,hx2,h⟩:=bs h;refine ZCr (f:=fun a:(List Str)×Str×Unit=>binS a.1 a.2.1) (a:=(r_.1.v.2.2.2.2.2.2.1,s_,())) rfl func81 rfl rfl (.cons (a:=r_.1.v.2.2.2.2.2.2.1) hy1 (.cons (a:=s_) (Enc.self _) .nil)) hx2<|ZAE (v:=res r_2) rfl<|ZAy rfl rfl<|ZAy rfl rfl<|ZAG rfl<|ZAG rfl<|ZAA<|ZAB<|ZAB<|ZAC<|ZAE rfl<|ZBO (v:=enc (!r_2.2)) rfl rfl<|ZAA ?_
 split at h
 ·rename_i c';refine ZAH rfl c'<|ZAB<|ZAC<|ZAG (v:=enc (0:Int)) rfl<|ZAG (v:=enc (201:Int)) rfl<|ZAA<|ZAN ?_
  rw[←oi h];exact⟨rfl,KE2 (a1:=(0:Int)) (a2:=(201:Int)) rfl rfl rfl (rfl:is _ (0:Int)) (rfl:is _ (201:Int)) ⟨_,_,rfl,(rfl:is _ (0:Int)),(rfl:is _ (201:Int))⟩⟩
 rename_i c';refine ZAI rfl c'<|ZAL<|ZAB<|ZAC<|ZAV ZDt rfl<|ZAK ag44 (Ss (Ss (Ss (Ss (Ss (Ss (Ss Sz))))))) rfl hxs1 hs fun y2 hy2=>ZAE rfl ?_
 obtain⟨v,hx3,h⟩:=bs h;refine ZAu underlying44 sh3 rfl rfl hy2 hx3 fun p hp=>ZB8 rfl ag3 rfl hp fun y3 hy3=> ?_
 cases hy3;refine ZAG rfl<|ZAG (v:=enc (0:Int)) rfl<|ZAA<|ZAN ?_
 rw[←oi h];exact⟨rfl,KE2 (a1:=v) (a2:=(0:Int)) rfl rfl rfl (rfl:is _ v) (rfl:is _ (0:Int)) ⟨_,_,rfl,(rfl:is _ v),(rfl:is _ (0:Int))⟩⟩
theorem ZJV (mx:Int):ZAq Tryz.prog 67 (FnG (NG mx) (fun a:FsR×Int×Str×Unit=>ZCC a.1 a.2.1 a.2.2.1)):=fnCG (ZUO mx) ⟨_,func67,rfl⟩<|fun a r h=>ZJU mx a.1 a.2.1 a.2.2.1 r h
noncomputable def pu3 (mx:Int):Prims:=(pu2 mx).addG 67 (FnG (NG mx) (fun a:FsR×Int×Str×Unit=>ZCC a.1 a.2.1 a.2.2.1))
theorem ZUP (mx:Int):ZAX Tryz.prog (pu3 mx):=ZAR (ZUO mx) (ZJV mx)
theorem ZJW (mx:Int) (f:FsR) (num:Int) (r:Int) (h:ZBI f num=some r):MF Tryz.prog (pu3 mx) 41 [enc f,enc num] (sG (NG mx)) fun v _=>ris v r:=by
 refine ZAh [(0,enc f),(1,enc num)] func41 rfl (by simp only[Tryz.f41];rfl) fun ψ=> ?_
 unfold ZBI at h;have hs:Hp (sG (NG mx)) [.gl (NG mx)]:=Hp.gl0
 refine ZAB<|ZAC<|ZA5 (r:=f) rfl (Enc.self f) hs fun m xs s hxs hs=>ZAG (v:=enc (0:Int)) rfl<|ZAA<|ZAB<|ZAB<|ZAC<|ZAm (r:=f) ag24 sz24 rfl hxs hs fun y hy=>ZAE rfl ?_
 obtain⟨r_,hx,h⟩:=bs h;refine ZAY (f:=fun a:FsR×Int×Unit=>ZBB a.1 a.2.1) (a:=(f,num,())) rfl func60 rfl rfl (.cons (a:=f) hy (.cons (a:=num) (Enc.self _) .nil)) hs (lM _ List.mem_cons_self) hx<|ZAE (v:=res r_) rfl<|ZAy rfl rfl<|ZAy rfl rfl<|ZBG (r:=(Rec.mk ((0:Int),(0:Int),(0:Int),(0:Int),([]:(List UInt8)),(str []),([]:(List Str)),([]:(List Int)),([]:(List ZAi)),()):ZAO)) zr47 zf47 hs fun m1 s hs=>ZAx (r:=r_.1) sz47 rfl rfl zf47 (Enc.self r_.1) hs fun xs1 s hxs1 hs=>ZAG rfl<|ZAA<|ZAB<|ZAC<|ZAE rfl<|ZTv (r:=r_.2) underlying60 rfl (Enc.self r_.2)<|ZAA ?_
 split at h
 ·rename_i c';refine ZAH rfl c'<|ZAB<|ZAC<|ZAG (v:=enc (0:Int)) rfl<|ZAA<|ZAN ?_
  rw[←oi h];exact⟨rfl,KE1 (a:=(0:Int)) rfl rfl (rfl:is _ (0:Int)) (rfl:is _ (0:Int))⟩
 rename_i c';refine ZAI rfl c'<|ZAL<|ZAB<|ZAB<|ZAC ?_
 replace hs:=Hp.front [(.cells m1 xs1)] (b:=[(.gl (NG mx))]) hs;refine ZAm (r:=f) ag24 sz24 rfl hxs hs fun y1 hy1=> ?_
 obtain⟨r_1,hx1,h⟩:=bs h;refine ZAt (by kernel_rfl) func58 rfl (vs:=[y1]) rfl (MF.any (ZIJ f _ hx1 hy1 (Hp.packG [] [(.cells m xs),(.cells m1 xs1),(.gl (NG mx))] hs)) ZO0) fun w s ⟨en,hm,hq_⟩=> ?_
 replace hs:=Hp.unpackG [] [en] [(.cells m xs),(.cells m1 xs1),(.gl (NG mx))] hs hq_;refine ZAE rfl<|ZRW (xs:=r_1) (k:=num) underlying93 underlying3 (by kernel_rfl) rfl rfl hm hs fun w1 hw1=>ZAG (v:=w1) rfl<|ZAA<|ZAB<|ZAC<|ZAE (v:=w1) rfl<|ZAo underlying44 rfl rfl hw1<|ZAJ (v:=enc (decide ((((mget r_1 num).getD []).length:Int) > 0))) rfl rfl rfl<|ZAA ?_
 split at h
 ·rename_i c';refine ZAH rfl c'<|ZAB<|ZAC<|ZAE (v:=w1) rfl ?_
  obtain⟨v,hx2,h⟩:=bs h;refine ZAu underlying44 sh3 rfl rfl hw1 hx2 fun p hp=>ZB8 rfl ag3 rfl hp fun y2 hy2=> ?_
  cases hy2;refine ZAG rfl<|ZAA<|ZAN ?_
  rw[←oi h];exact⟨rfl,KE1 (a:=v) rfl rfl (rfl:is _ v) (rfl:is _ v)⟩
 rename_i c';refine ZAI rfl c'<|ZAL<|ZAB<|ZAC<|ZAG (v:=enc (0:Int)) rfl<|ZAA<|ZAN ?_
 rw[←oi h];exact⟨rfl,KE1 (a:=(0:Int)) rfl rfl (rfl:is _ (0:Int)) (rfl:is _ (0:Int))⟩
theorem ZJX (mx:Int):ZAq Tryz.prog 41 (FnG (NG mx) (fun a:FsR×Int×Unit=>ZBI a.1 a.2.1)):=fnCG (ZUP mx) ⟨_,func41,rfl⟩<|fun a r h=>ZJW mx a.1 a.2.1 r h
noncomputable def pu4 (mx:Int):Prims:=(pu3 mx).addG 41 (FnG (NG mx) (fun a:FsR×Int×Unit=>ZBI a.1 a.2.1))
theorem ZJY (mx:Int):ZAX Tryz.prog (pu4 mx):=ZAR (ZUP mx) (ZJX mx)
end Go.Ai.Rab
end
