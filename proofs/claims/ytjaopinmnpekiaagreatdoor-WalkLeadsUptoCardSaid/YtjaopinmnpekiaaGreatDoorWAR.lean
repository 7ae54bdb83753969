/- My own texts DevPp7, DevWr0, DevPp8, DevWp1, DevWp2, DevWp3, DevWp4, DevWp5, DevWp6, DevWp7, DevWp8, DevWp9, one behind the other. -/
import Derived.Test.YtjaopinmnpekiaaGreatDoorWAQ
import Derived.KernelRfl
import Derived.Test.YtjaopinmnpekiaaGreatDoorCards
import Derived.Test.YtjaopinmnpekiaaGreatDoorTie
import Derived.Test.YtjaopinmnpekiaaGreatDoorWAC
import Derived.Test.YtjaopinmnpekiaaGreatDoorWAF
import Derived.Lib.LaidU8T
import Derived.LaidHandle
import Derived.WalkKit
import Derived.ProofKit
import Derived.OpenShut
import Derived.Deep.DeepHandedRow
import Derived.Lay
import Derived.MakeChecks
import Derived.ChangeArms
import Derived.Shelf.Vars
import Derived.ChangeSlices
import Derived.Lib.SplitLaws
set_option linter.unusedVariables false
set_option linter.unusedSimpArgs false
section
set_option maxRecDepth 10000
open Go.Ai.Enc (enc is)
namespace Go.Ai.Rab
/-! ### Small -/
theorem ZQJ {f:FsR} (hs:ZBh f.v.1):∃b,ZDX f=some b∧(b=true→f.v.1.length≤60):=by
 unfold ZDX;by_cases h:f.v.1.length≤60
 ·rw[if_neg (by simp;omega)]
  obtain⟨r,h1,h2⟩:=ZPI (body:=ZEY f) (fun a=>0≤a.1∧a.1≤2060000∧0≤a.2∧a.2≤f.v.1.length) (fun _=>True) (fun a=>(f.v.1.length - a.2).toNat) (fun a hI=>by
   obtain⟨n,i⟩:=a;obtain⟨g1,g2,g3,g4⟩:=hI;simp only at g1 g2 g3 g4
   have e0:ZEY f (n,i)=_:=bds (x:=decide (i<(f.v.1.length:Int)) && decide (n≤50000)) (by
    cases decide (i<(f.v.1.length:Int))<;> rfl)
   cases hb:decide (i<(f.v.1.length:Int)) && decide (n≤50000) with
   | false=>
    rw[hb] at e0;exact .inr ⟨n,e0.trans (if_neg (by decide)),trivial⟩
   | true=>
    rw[hb] at e0;simp only[Bool.and_eq_true,decide_eq_true_eq] at hb;have e0:=e0.trans (if_pos rfl);obtain⟨k,rfl⟩:∃k:Nat,i=k:=⟨i.toNat,by omega⟩
    have hk:k<f.v.1.length:=by omega
    have e0:=e0.trans (bds (ZD4 hk));have hd:=(hs.2 _ (ZBX hk)).1;rw[lim (by omega),i64w (by omega)] at e0
    refine .inl ⟨_,e0,⟨?_,?_,?_,?_⟩,?_⟩
    ·simp only;omega
    ·simp only;omega
    ·simp only;omega
    ·simp only;omega
    simp only;omega) _ (0,0) (Nat.le_refl _) ⟨by simp,by simp,by simp,by simp⟩
  exact⟨_,(bds h1).trans rfl,fun _=>h⟩
 rw[if_pos (decide_eq_true (by omega))]
 exact⟨false,rfl,fun e=>by cases e⟩
/-! ### Same -/
/-! ### What must come at any rate -/
theorem ZR4 {f:FsR} (h:chkL f.v.1 f.v.2.1=true):ZBh f.v.1:=(ZDS.1 h).small
/-! ### Who is above whom -/
theorem ZTM {x:ZAO} {l:List Int} {k d:Int}:d∈upsX x l k↔d=x.v.1∧k∈l:=by
 unfold upsX;simp only[List.mem_map,List.mem_filter,beq_iff_eq];constructor
 ·rintro⟨a,⟨h1,rfl⟩,rfl⟩;exact⟨rfl,h1⟩
 rintro⟨rfl,h⟩;exact⟨k,⟨h,rfl⟩,rfl⟩
theorem ZGg {l:List ZAO} {k d:Int}:d∈upsL l k↔∃x∈l,d=x.v.1∧k∈x.v.2.2.2.2.2.2.2.1:=by
 unfold upsL;simp only[List.mem_flatMap,ZTM]
theorem Ok.num {l:List ZAO} {nx:Int} (h:Ok l nx) {x:ZAO} (hx:x∈l):1≤x.v.1∧x.v.1≤1024:=by
 have:=ZER (h.al x hx);omega
theorem Ok.dir {l:List ZAO} {nx:Int} (h:Ok l nx) {x:ZAO} (hx:x∈l) (hk:x.v.2.1=2):(upsL l x.v.1).length≤1∧¬(0<(upsL l x.v.1).length∧x.v.1=1)∧ZDJ l (l.length+1) x.v.1=true:=by
 have:=h.cn x hx
 unfold cndX at this;rw[if_neg (by simp[hk])] at this
 simp only[Bool.and_eq_true,Bool.not_eq_true',Bool.and_eq_false_iff,decide_eq_true_eq,decide_eq_false_iff_not] at this;exact⟨this.1,fun h=>by rcases this.2.1 with h1 | h1;exact h1 h.1;exact h1 h.2,this.2.2⟩
theorem Ok.file {l:List ZAO} {nx:Int} (h:Ok l nx) {x:ZAO} (hx:x∈l) (hk:x.v.2.1≠2):((upsL l x.v.1).length:Int)=x.v.2.2.2.1:=by
 have:=h.cn x hx
 unfold cndX at this;rw[if_pos (by simpa using hk)] at this
 exact of_decide_eq_true this
end Go.Ai.Rab
end
section
open Go.Ai.Flds (fe fi fk)
namespace Go.Ai.Rab
open Go.Proofs Go.Lib Go.Proofs.YtjaopinmnpekiaaGreatDoor
set_option maxRecDepth 100000
/-! ### What arguments read aS -/
def RdP (T:Type) [Enc T] (bk:T→Nat) (t:TypeId):Prop:=∀{H:Type} (en:TypeId×Value→H) (W:World) (fuel:Nat) (cs:List Value) (x:DataW H×List MemPlace),
 DataW.trod en Tryz.prog W 0 (fun _=>true) true fuel t cs=some x→∃(a:T) (v:Value),cs=v.cells.toList∧Rel W ρ0 ZFv 0 (Enc.enc a) v∧bk a≤Rows.uptoBulk x.1∧(Enc.k T=0→cs=[v])
def RdF (A:Type) [Flds A] (bk:A→Nat) (fl:List Field) (o:Nat):Prop:=∀{H:Type} (en:TypeId×Value→H) (W:World) (n:Nat) (cs:List Value) (xs:List (DataW H×List MemPlace)),xs.length=fl.length→
 (∀(i:Nat) (f:Field),fl[i]? =some f→DataW.trod en Tryz.prog W 0 (fun _=>true) true n f.type ((cs.drop f.offset).take (Tryz.prog.cellsOf f.type))=xs[i]?)→cs.length=o+fl.length→
 ∃a:A,RelL W ρ0 ZFv 0 (fe a) (cs.drop o)∧bk a≤Rows.uptoBulkAll (xs.map (·.1))
def one {T:Type} (_:T):Nat:=1
def bkS (s:Str):Nat:=List.length s+1
def bkL {T:Type} (bk:T→Nat) (l:List T):Nat:=(l.map bk).sum+1
def bkP {A B:Type} (b1:A→Nat) (b2:B→Nat) (a:A×B):Nat:=b1 a.1+b2 a.2
def bkR {A:Type} (b:A→Nat) (r:Rec A):Nat:=b r.v+1
theorem ZKe {t:TypeId} (hu:Tryz.prog.underlying t=some (.int .i64)):RdP Int one t:=fun en W fuel cs x h=>by
 obtain⟨n,rfl,rfl,hw⟩:=DataW.trod_int hu h;exact⟨n, .int .i64 n,rfl,ZJB,Nat.le_refl _,fun _=>rfl⟩
theorem ZW6 {t:TypeId} (hu:Tryz.prog.underlying t=some (.int .u8)):RdP UInt8 one t:=fun en W fuel cs x h=>by
 obtain⟨n,rfl,rfl,hw⟩:=DataW.trod_int hu h;have hw:=Go.bounds_u8 hw;refine⟨UInt8.ofInt n, .int .u8 n,rfl,?_,Nat.le_refl _,fun _=>rfl⟩
 have e:((UInt8.ofInt n).toNat:Int)=n:=by
  have:(UInt8.ofInt n).toNat=n.toNat:=by
   obtain⟨m,rfl⟩:∃m:Nat,n=m:=⟨n.toNat,by omega⟩
   simp[UInt8.ofInt]
   omega
  omega
 show Rel _ _ _ _ (.int .u8 ((UInt8.ofInt n).toNat:Int)) _
 rw[e];exact ZJB
theorem ZR5 {t:TypeId} (hu:Tryz.prog.underlying t=some .string):RdP Str bkS t:=fun en W fuel cs x h=>by
 obtain⟨s,rfl,rfl,hw⟩:=DataW.trod_string hu h;exact⟨s.data.toList, .string s,rfl,ZQr,Nat.le_refl _,fun _=>rfl⟩
theorem ZVd (a:Addr) (x y:Nat):(a.add x).add y=a.add (x+y):=by
 cases a;by_cases hx:x=0
 ·subst hx;simp[Addr.add]
 by_cases hy:y=0
 ·subst hy;simp[Addr.add]
 simp[Addr.add,hx,hy,Nat.add_assoc]
theorem ZH8 {T:Type} [Enc T] {bk:T→Nat} {t e:TypeId} (hu:Tryz.prog.underlying t=some (.slice e)) (hc:Tryz.prog.cellsOf e=esz (Enc.k T)) (he:RdP T bk e):RdP (List T) (bkL bk) t:=fun {H} en W fuel cs x h=>by
 rcases DataW.trod_slice hu h with⟨rfl,rfl⟩ | ⟨a,len,cap,elems,rest,n,_,rfl,rfl,hb,hl,hm,hlen,hel,_,_⟩
 ·refine⟨[], .slice none 0 0,rfl,?_,Nat.le_refl _,fun _=>rfl⟩
  show Rel _ _ _ _ (.emp false) _
  simp only[Rel];exact⟨none,0,rfl,fun _=>rfl,fun _=>rfl⟩
 have key:∀(d i:Nat),i+d=len→∃(l:List T) (us:List Value),l.length=d∧(l.map bk).sum≤Rows.uptoBulkAll ((elems.drop i).map (·.1))∧us.length=d*esz (Enc.k T)∧RelC W ρ0 ZFv 0 (Enc.k T) (l.map Enc.enc) us∧∀j,j<d*esz (Enc.k T)→W.cell? (a.add (i*esz (Enc.k T)+j))=us[j]? :=by
  intro d;induction d with
  | zero=>intro i hi;exact⟨[],[],rfl,Nat.zero_le _,by simp,by simp[RelC],fun j hj=>by simp at hj⟩
  | succ d ih=>
   intro i hi;obtain⟨l,us,l1,l2,l3,l4,l5⟩:=ih (i+1) (by omega)
   have hi' :i<elems.length:=by omega
   have h1:=hel i (by omega)
   rw[List.getElem?_eq_getElem hi',hc,Option.bind_eq_some_iff] at h1;obtain⟨cs1,g1,g2⟩:=h1;obtain⟨_,g3,g4⟩:=World.cells?_some g1;obtain⟨b,v,k1,k2,k3,k4⟩:=he en W n cs1 _ g2;refine⟨b::l,cs1++us,by simp[l1],?_,by simp[l3,g3,Nat.succ_mul,Nat.add_comm],?_,fun j hj=> ?_⟩
   ·rw[List.drop_eq_getElem_cons hi'];simp only[List.map_cons,List.sum_cons,Rows.uptoBulkAll];omega
   ·simp only[List.map_cons,RelC];exact⟨v,us,by rw[k1],Enc.el (Enc.self b),k2,l4⟩
   by_cases hj2:j<esz (Enc.k T)
   ·rw[List.getElem?_append_left (by omega),←g4 j hj2,ZVd]
   rw[List.getElem?_append_right (by omega),g3,←l5 (j - esz (Enc.k T)) (by rw[Nat.succ_mul] at hj;omega)]
   congr 2
   rw[Nat.succ_mul];omega
 obtain⟨l,us,l1,l2,l3,l4,l5⟩:=key len 0 (by omega)
 refine⟨l, .slice (some a) len cap,rfl,?_,?_,fun _=>rfl⟩
 ·cases l with
  | nil=>
   show Rel _ _ _ _ (.emp false) _
   simp only[Rel];exact⟨some a,cap,by rw[←l1];rfl,fun e=>(by cases e),fun e=>(by cases e)⟩
  | cons b l=>
   show Rel _ _ _ _ (.vec (Enc.k T) ((b::l).map Enc.enc) .unk) _
   simp only[Rel];refine⟨a,cap,us,by rw[List.length_map,l1],by rw[List.length_map,l1];exact hl,l4,fun j u hj=>⟨?_,fun h=>h.elim⟩,by simp[CapOk]⟩
   have hj' :=(List.getElem?_eq_some_iff.1 hj).1
   have:=l5 j (by omega)
   rw[Nat.zero_mul,Nat.zero_add] at this;rw[this,hj]
 rw[List.drop_zero] at l2;simp only[bkL,Rows.uptoBulk];omega
theorem ZOP {o:Nat}:RdF Unit (fun _=>0) [] o:=fun en W n cs xs h1 h2 h3=>by
 refine⟨(),?_,Nat.zero_le _⟩
 rw[List.drop_of_length_le (by simp at h3;omega)]
 exact ZHP
theorem ZCQ {T A:Type} [Enc T] [Enc0 T] [Flds A] {b1:T→Nat} {b2:A→Nat} {f:Field} {fl:List Field} {o:Nat} (ho:f.offset=o) (hc:Tryz.prog.cellsOf f.type=1) (h:RdP T b1 f.type) (k:RdF A b2 fl (o+1)):RdF (T×A) (bkP b1 b2) (f::fl) o:=fun en W n cs xs h1 h2 h3=>by
 obtain⟨x,xs,rfl⟩:∃x ys,xs=x::ys:=by
  cases xs with
  | nil=>simp at h1
  | cons x ys=>exact⟨x,ys,rfl⟩
 have e0:=h2 0 f rfl;simp only[List.length_cons] at h3 h1;have hlt:o<cs.length:=by omega
 rw[ho,hc] at e0;have e1:(cs.drop o).take 1=[cs[o]]:=by rw[List.drop_eq_getElem_cons hlt];rfl
 rw[e1] at e0;obtain⟨a,v,k1,k2,k3,k4⟩:=h en W n _ _ e0;have k4:=k4 Enc0.k0;injection k4 with k4 _
 obtain⟨b,q1,q2⟩:=k en W n cs xs (by omega) (fun i g hg=>h2 (i+1) g hg) (by omega)
 refine⟨(a,b),?_,?_⟩
 ·rw[List.drop_eq_getElem_cons hlt,k4];exact ZCp k2 q1
 simp only[bkP,List.map_cons,Rows.uptoBulkAll];omega
theorem ZR6 {T A:Type} [Enc T] [Enc0 T] [Flds A] {bk:T×A→Nat} {t:TypeId} {fs:Array Field} (hu:Tryz.prog.underlying t=some (.struct fs)) (hc:Tryz.prog.cellsOf t=fs.size) (h:RdF (T×A) bk fs.toList 0):RdP (Rec (T×A)) (bkR bk) t:=fun en W fuel cs x hx=>by
 obtain⟨xs,n,_,rfl,h1,h2,h3⟩:=DataW.trod_struct hu hx;obtain⟨a,q1,q2⟩:=h en W n cs xs (by simpa using h2) (fun i f hf=>h3 i f (by simpa using hf)) (by rw[h1,hc];simp)
 refine⟨Rec.mk a, .agg cs.toArray,by simp[Value.cells],?_,?_,fun e=>by cases e⟩
 ·show Rel _ _ _ _ (.agg (fe a)) _
  simp only[Rel];exact⟨cs,rfl,q1⟩
 simp only[bkR,Rows.uptoBulk];omega
abbrev bkA:ZAi→Nat:=bkR (bkP bkS (bkP (bkL one) (fun _=>0)))
abbrev bkI:ZAO→Nat:=bkR (bkP one (bkP one (bkP one (bkP one (bkP (bkL one) (bkP bkS (bkP (bkL bkS) (bkP (bkL one) (bkP (bkL bkA) (fun _=>0))))))))))
abbrev bkF:FsR→Nat:=bkR (bkP (bkL bkI) (bkP one (fun _=>0)))
theorem rdA:RdP ZAi bkA 147:=ZR6 Tryz.underlying147 (by kernel_rfl) (ZCQ rfl (by kernel_rfl) (ZR5 Tryz.underlying9) (ZCQ rfl (by kernel_rfl) (ZH8 Tryz.underlying42 (by kernel_rfl) (ZW6 Tryz.underlying5)) ZOP))
theorem rdI:RdP ZAO bkI 47:=ZR6 Tryz.underlying47 (by kernel_rfl) (ZCQ rfl (by kernel_rfl) (ZKe Tryz.underlying3) (ZCQ rfl (by kernel_rfl) (ZKe Tryz.underlying41) (ZCQ rfl (by kernel_rfl) (ZKe Tryz.underlying3) (ZCQ rfl (by kernel_rfl) (ZKe Tryz.underlying3)
 (ZCQ rfl (by kernel_rfl) (ZH8 Tryz.underlying42 (by kernel_rfl) (ZW6 Tryz.underlying5)) (ZCQ rfl (by kernel_rfl) (ZR5 Tryz.underlying9) (ZCQ rfl (by kernel_rfl) (ZH8 Tryz.underlying43 (by kernel_rfl) (ZR5 Tryz.underlying9)) (ZCQ rfl (by kernel_rfl) (ZH8 Tryz.underlying44 (by kernel_rfl) (ZKe Tryz.underlying3))
 (ZCQ rfl (by kernel_rfl) (ZH8 Tryz.underlying45 (by kernel_rfl) rdA) ZOP)))))))))
theorem rdFs:RdP FsR bkF 24:=ZR6 Tryz.underlying24 (by kernel_rfl) (ZCQ rfl (by kernel_rfl) (ZH8 Tryz.underlying22 (by kernel_rfl) rdI) (ZCQ rfl (by kernel_rfl) (ZKe Tryz.underlying3) ZOP))
theorem ZH9 {T:Type} {bk:T→Nat} (h:∀a,1≤bk a):∀l:List T,l.length≤bkL bk l
 | []=>Nat.zero_le _
 | a::l=>by
  have h1:=ZH9 h l;have h2:=h a;simp only[bkL,List.map_cons,List.sum_cons,List.length_cons] at h1 ⊢;omega
theorem ZOQ {T:Type} {bk:T→Nat}:∀{l:List T} {a:T},a∈l→bk a≤bkL bk l
 | b::l,a,h=>by
  simp only[bkL,List.map_cons,List.sum_cons];rcases List.mem_cons.1 h with rfl | h
  ·omega
  have:=ZOQ (bk:=bk) h
  simp only[bkL] at this;omega
theorem ZR7 {x:ZAO} (h:bkI x≤1048576):ZND x:=by
 have h1:=ZH9 (bk:=one) (fun a=>Nat.le_refl _) x.v.2.2.2.2.1
 have h2:=ZH9 (bk:=bkS) (fun a=>Nat.succ_le_succ (Nat.zero_le _)) x.v.2.2.2.2.2.2.1
 have h3:=ZH9 (bk:=one) (fun a=>Nat.le_refl _) x.v.2.2.2.2.2.2.2.1
 have h4:=ZH9 (bk:=bkA) (fun a=>Nat.succ_le_succ (Nat.zero_le _)) x.v.2.2.2.2.2.2.2.2.1
 simp only[bkI,bkR,bkP] at h;exact⟨by omega,by omega,by omega,by omega⟩
theorem ZR8 {f:FsR} (h:bkF f≤1048576):ZBh f.v.1:=by
 have h1:=ZH9 (bk:=bkI) (fun a=>Nat.succ_le_succ (Nat.zero_le _)) f.v.1
 simp only[bkF,bkR,bkP] at h;exact⟨by omega,fun x hx=>ZR7 (by have:=ZOQ (bk:=bkI) hx;omega)⟩
theorem ZTN {T A:Type} [Enc T] [Enc0 T] [Flds A] {bk:Rec (T×A)→Nat} {t:TypeId} (hr:RdP (Rec (T×A)) bk t) {H:Type} {en:TypeId×Value→H} {W:World} {v:Value} {d:DataW H} {p:List MemPlace} (h2:∀r:Rec (T×A),(fe r.v).length≠1)
  (h:DataW.Trod en Tryz.prog W 0 (fun _=>true) true t v d p):∃r:Rec (T×A),Rel W ρ0 ZFv 0 (Enc.enc r) v∧bk r≤Rows.uptoBulk d:=by
 obtain⟨fuel,hf⟩:=h;obtain⟨r,v',k1,k2,k3,_⟩:=hr en W fuel _ _ hf;refine⟨r,?_,k3⟩
 have k2' :Rel W ρ0 ZFv 0 (.agg (fe r.v)) v' :=k2
 simp only[Rel] at k2';obtain⟨vs,rfl,hl⟩:=k2';have hlen:vs.length≠1:=by
  have:∀(xs:List AV) (us:List Value),RelL W ρ0 ZFv 0 xs us→us.length=xs.length:=by
   intro xs;induction xs with
   | nil=>intro us hu;simp only[RelL] at hu;rw[hu];rfl
   | cons x xs ih=>
    intro us hu;simp only[RelL] at hu;obtain⟨u,us',rfl,_,hu⟩:=hu;simp[ih us' hu]
  rw[this _ _ hl];exact h2 r
 have k1:v.cells.toList=vs:=by rw[k1];simp[Value.cells]
 have:v= .agg vs.toArray:=by
  cases v with
  | agg cs=>
   have k1:cs.toList=vs:=k1
   rw[←k1]
  | _=>(exfalso;apply hlen;rw[←k1];rfl)
 rw[this];exact k2
/-! ### What the listed variables give -/
def laidN:List (String×DataW Unit):=[("unicode/utf8.acceptRanges",Rows.laid_unicode_utf8_acceptRanges),("errors.errorType",Rows.laid_errors_errorType),("unicode/utf8.first",Rows.laid_unicode_utf8_first)]
def laidP:List (String×DataW Unit):=[("unicode/utf8.acceptRanges",Rows.laid_unicode_utf8_acceptRanges),("unicode/utf8.first",Rows.laid_unicode_utf8_first)]
theorem ZQK:(Rows.laid_unicode_utf8_first:DataW Unit)=firstData:=by kernel_rfl
theorem ZOR:(Rows.laid_unicode_utf8_acceptRanges:DataW Unit)=acceptData:=by kernel_rfl
theorem ZPN {w:World} {ρ:Pl} {U:Reg} {c:Nat} {k:IntKind}:∀l:List Int,RelL w ρ U c (l.map (.int k)) (l.map (.int k))
 | []=>ZHP
 | n::l=>ZCp ZJB (ZPN l)
theorem ZOS {W:World} {g:Nat} {k:IntKind} {cs:List AV} {l:List Int} (hc:cs=l.map (.int k)) (hp:ZCR cs=true) (h:∀j,j<l.length→W.cell? ⟨g,j,none⟩=some (.int k (l.getD j 0))):
  ZCR cs=true∧∃vs:List Value,RelL W ρ0 ZFv 0 cs vs∧∀j u,vs[j]? =some u→W.cell? ⟨g,j,none⟩=some u∧¬ZFv g j:=by
 subst hc;refine⟨hp,l.map (.int k),ZPN l,fun j u hj=>⟨?_,fun h=>h.elim⟩⟩
 rw[List.getElem?_map,Option.map_eq_some_iff] at hj;obtain⟨n,hn,rfl⟩:=hj;rw[h j (List.getElem?_eq_some_iff.1 hn).1,List.getD_eq_getElem?_getD,hn];rfl
def l0:List Int:=(List.range 256).map fun c=>(firstT c:Int)
def l1:List Int:=(List.range 32).map fun c=>if c % 2=0 then(accLo (c / 2):Int) else(accHi (c / 2):Int)
theorem ZXW:tab0=l0.map (.int .u8):=by kernel_rfl
theorem ZXX:tab1=l1.map (.int .u8):=by kernel_rfl
theorem ZXY {W:World} {mx:Int} (he:W.cell? ⟨3,0,none⟩=some (.iface 133 (.agg #[.pointer (some ⟨4,60,none⟩)]))) (h0:Utf8Tabs 0 1 W) (h2:W.cell? ⟨2,0,none⟩=some (.int .i64 mx)):GlobOk W ρ0 ZFv 0 (NG mx):=by
 intro g cs hg;unfold NG at hg;split at hg
 ·rename_i e;subst e;obtain rfl:=Option.some.inj hg;refine ZOS ZXW (by kernel_rfl) fun j hj=> ?_
  have hj:j<256:=by simpa[l0] using hj
  rw[h0.1 j hj];simp[l0,hj]
 split at hg
 ·rename_i e;subst e;obtain rfl:=Option.some.inj hg;refine ZOS ZXX (by kernel_rfl) fun j hj=> ?_
  have hj:j<32:=by simpa[l1] using hj
  obtain⟨q1,q2⟩:=h0.2 (j / 2) (by omega)
  by_cases hm:j % 2=0
  ·rw[show 2*(j / 2)=j by omega] at q1
   rw[q1];simp[l1,hj,hm]
  rw[show 2*(j / 2)+1=j by omega] at q2
  rw[q2];simp[l1,hj,hm]
 split at hg
 ·rename_i e;subst e;obtain rfl:=Option.some.inj hg;refine ZOS (l:=[mx]) (k:= .i64) rfl rfl fun j hj=> ?_
  have hj:j=0:=by simpa using hj
  subst hj;exact h2
 split at hg
 ·rename_i e;subst e;obtain rfl:=Option.some.inj hg;refine⟨by kernel_rfl,[.iface 133 (.agg #[.pointer (some ⟨4,60,none⟩)])],?_,fun j u hj=> ?_⟩
  ·refine ZCp ?_ ZHP
   simp only[Rel];refine⟨_,rfl,[.pointer (some ⟨4,60,none⟩)],rfl,ZCp ?_ ZHP⟩
   simp only[Rel]
  cases j with
  | zero=>simp at hj;subst hj;exact⟨he,fun h=>h.elim⟩
  | succ j=>simp at hj
 cases hg
theorem u8x:U8Extra Tryz.prog Tryz.lays196_ren where
 n3:=by kernel_rfl
 n4:=by kernel_rfl
 y3:=by kernel_rfl
 y4:=by kernel_rfl
 c5:=by kernel_rfl
 c119:=by kernel_rfl
 c138:=by kernel_rfl
theorem et:Tryz.prog.globalNamed "errors.errorType" =some 3:=by kernel_rfl
theorem rt:(Tryz.prog.cutTypes.find? (·.1== "internal/reflectlite.rtype")).map (·.2)=some 133:=by kernel_rfl
theorem ZW7:((List.range Tryz.prog.types.size).filter fun t=>Tryz.prog.rowNamed t [101,114,114,111,114])=[60]:=by kernel_rfl
theorem filt:(laidN.filter fun x=>x.2.handleName?.isNone)=laidP:=by kernel_rfl
theorem ZXZ:(laidN.filter fun x=>x.2.handleName?.isSome)=[("errors.errorType",Rows.laid_errors_errorType)]:=by kernel_rfl
theorem ZXa {W:World} (hL:laidMetH Tryz.prog laidN W) (hs:W.ShapedOpen Tryz.prog):∃mx,GlobOk W ρ0 ZFv 0 (NG mx):=by
 have hL' :laidMet Tryz.prog laidP W∧handlesMet Tryz.prog [("errors.errorType",Rows.laid_errors_errorType)] W:=by
  unfold laidMetH at hL;rw[ZXZ,filt] at hL;exact hL
 have h3:VarReads Tryz.prog W "unicode/utf8.first" firstData:=ZQK▸laidMet.reads hL'.1 (.tail _ (.head _))
 have h4:VarReads Tryz.prog W "unicode/utf8.acceptRanges" acceptData:=ZOR▸laidMet.reads hL'.1 (.head _)
 obtain⟨mx,hmx⟩:=cell_of_shapedOpen_int (P:=Tryz.prog) (w:=W) (g:=2) (t:=3) (zero:= #[.int .i64 0]) (k:= .i64) hs (of_decide_eq_true (by kernel_rfl)) (by kernel_rfl) (by kernel_rfl) (by kernel_rfl) (by kernel_rfl) (by kernel_rfl)
 obtain⟨name,u,ty,e1,e2,e3,e4,e5⟩:=hL'.2 _ (List.mem_singleton.2 rfl);have en:name=[101,114,114,111,114]:=(Option.some.inj e1).symm
 subst en;obtain rfl:=Option.some.inj (rt.symm.trans e2);have hm:ty∈(List.range Tryz.prog.types.size).filter fun t=>Tryz.prog.rowNamed t [101,114,114,111,114]:=List.mem_filter.2 ⟨List.mem_range.2 e3,e4⟩
 rw[ZW7] at hm;obtain rfl:=List.mem_singleton.1 hm;have hh:typeHandle Tryz.prog 60= .pointer (some ⟨4,60,none⟩):=by kernel_rfl
 rw[hh] at e5;have he:W.cell? ⟨3,0,none⟩=some (.iface 133 (.agg #[.pointer (some ⟨4,60,none⟩)])):=by simpa using World.var?_cell et e5 0
 exact⟨mx,ZXY he (utf8Tabs_of_readsT (U8Types.of196 Tryz.lays196) u8x h3 h4) hmx⟩
noncomputable def w1 (os:Os):World:=
 let w0:=World.holding Tryz.prog os ⟨#[], #[],[]⟩
 {w0 with heap:=w0.heap.modify 3 fun
   | .cells _ t frozen=> .cells #[.iface 133 (.agg #[.pointer (some ⟨4,60,none⟩)])] t frozen
   | o=>o}
noncomputable def LW (os:Os):World:=(w1 os).layVars Tryz.prog laidP
theorem ZXb (os:Os):(LW os).os=os:=World.layVars_os _ _ _
theorem ZW8 (os:Os) (args:Array Value):laidMet Tryz.prog laidP ((LW os).forCall (fun _ _=>0) ⟨#[],args,[]⟩).memory:=by
 have e1:(laidP.filter fun x=>(laidP.map (·.1)).contains x.1)=laidP:=List.filter_eq_self.2 fun x hx=>List.contains_iff_mem.2 (List.mem_map.2 ⟨x,hx,rfl⟩)
 have e2:(laidP.filter fun x=> !(laidP.map (·.1)).contains x.1)=[]:=List.filter_eq_nil_iff.2 fun x hx=>by rw[List.contains_iff_mem.2 (List.mem_map.2 ⟨x,hx,rfl⟩)];simp
 have h:laidMet Tryz.prog laidP (LW os):=laidMet_layVars (w0:=w1 os) (laidP.map (·.1)) [] (by rw[e1];rfl) (by rw[e1];kernel_rfl) (by rw[e1];kernel_rfl) (by rw[e2];exact LaidIn.none)
 exact h.of_heap (by simp[World.memory,World.forCall,Input.heap])
theorem ZW9 (os:Os) (args:Array Value):(laidN.filter fun x=>x.2.handleName?.isSome).all (handleAtB Tryz.prog ((LW os).forCall (fun _ _=>0) ⟨#[],args,[]⟩).memory)=true:=by kernel_rfl
theorem ZXc (os:Os) (args:Array Value):laidMetH Tryz.prog laidN ((LW os).forCall (fun _ _=>0) ⟨#[],args,[]⟩).memory:=laidMetH_of_parts (by rw[filt];exact ZW8 os args) (ZW9 os args)
end Go.Ai.Rab
end
section
set_option maxRecDepth 10000
open Go.Ai.Enc (enc is)
namespace Go.Ai.Rab
/-! ### Rows that rise -/
theorem ZHG {l:List ZAO} (hs:ZNF l) {x y:ZAO} (hx:x∈l) (hy:y∈l) (e:x.v.1=y.v.1):x=y:=by
 obtain⟨i,hi,rfl⟩:=List.getElem_of_mem hx;obtain⟨j,hj,rfl⟩:=List.getElem_of_mem hy;rcases Nat.lt_trichotomy i j with h | h | h
 ·have:=hs i j hj h;omega
 ·subst h;rfl
 have:=hs j i hi h;omega
theorem ZR9 {l:List ZAO} (hs:ZNF l) {x:ZAO} (hx:x∈l):∃i,posI l x.v.1=some i∧i<l.length∧inAt l i=x:=by
 cases hp:posI l x.v.1 with
 | none=>
  obtain⟨k,hk,rfl⟩:=List.getElem_of_mem hx;exact absurd (by rw[ZB1 hk]) (ZJn hp k hk)
 | some i=>
  obtain⟨h1,h2⟩:=ZBV hp;exact⟨i,rfl,h1,ZHG hs (ZBX h1) hx h2⟩
/-! ### Who is above whom, in rows that change -/
theorem ZTO (a b:List ZAO) (k:Int):upsL (a++b) k=upsL a k++upsL b k:=by unfold upsL;rw[List.flatMap_append]
theorem ZJs (x:ZAO) (b:List ZAO) (k:Int):upsL (x::b) k=upsX x x.v.2.2.2.2.2.2.2.1 k++upsL b k:=by unfold upsL;rw[List.flatMap_cons]
theorem ZGh {l:List ZAO}:∀(d d' :Nat) (n:Int),d≤d' →ZDJ l d n=true→ZDJ l d' n=true
 | 0,_,_,_,h=>by cases h
 | d+1,0,_,hd,_=>by omega
 | d+1,d' +1,n,hd,h=>by
  unfold ZDJ at h ⊢
  cases hu:upsL l n with
  | nil=>rfl
  | cons p q=>
   rw[hu] at h;exact ZGh d d' p (by omega) h
theorem Ok.root {l:List ZAO} {nx:Int} (h:Ok l nx):∃z∈l,z.v.1=1∧z.v.2.1=2:=⟨_,ZBX h.len0,h.n0,h.k0⟩
end Go.Ai.Rab
end
section
open Go.Ai.Enc (enc is)
namespace Go.Ai.Rab
/-! ### The pieces between strokes -/
theorem ZJt {s:List UInt8} {i:Nat} (h:i≤List.length s):subT s (i:Int) (List.length s:Nat)=some (List.drop i s):=by
 unfold subT;rw[ZLc (α:=UInt8) s i (List.length s) h (Nat.le_refl _)];rw[List.take_length]
def pcs:List UInt8→List Str
 | []=>[str []]
 | c::l=>if c=47 then str []::pcs l else match pcs l with
  | []=>[str [c]]
  | h::t=>str (c::h)::t
theorem ZXA:∀l,pcs l≠[]
 | []=>by simp[pcs]
 | c::l=>by
  unfold pcs;split
  ·simp
  split<;> simp
theorem ZLl:∀{l:List UInt8},47 ∉ l→pcs l=[str l]
 | [],_=>rfl
 | c::l,h=>by
  simp only[List.mem_cons,not_or] at h;unfold pcs;rw[if_neg (fun e=>h.1 e.symm),ZLl h.2]
theorem ZOT:∀{a b:List UInt8},47 ∉ a→pcs (a++47::b)=str a::pcs b
 | [],b,_=>by
  show pcs (47::b)=_
  rw[pcs,if_pos rfl]
 | c::a,b,h=>by
  simp only[List.mem_cons,not_or] at h;show pcs (c::(a++47::b))=_
  rw[pcs,if_neg (fun e=>h.1 e.symm),ZOT h.2]
theorem ZOU:∀l,(pcs l).length≤l.length+1
 | []=>by simp[pcs]
 | c::l=>by
  have ih:=ZOU l;unfold pcs;split
  ·simp;omega
  split
  ·simp
  rename_i h t e;rw[e] at ih;simp at ih ⊢;omega
theorem ZNH:∀s:List UInt8,(Go.Lib.index s [47]= -1∧47 ∉ s)∨∃i:Nat,Go.Lib.index s [47]=i∧i<s.length∧47 ∉ s.take i∧s=s.take i++47::s.drop (i+1)
 | []=> .inl ⟨rfl,by simp⟩
 | b::l=>by
  have e:Go.Lib.index (b::l) [47]=if b=47 then 0 else if Go.Lib.index l [47]= -1 then -1 else Go.Lib.index l [47]+1:=by
   show(if(47==b && true)=true then(0:Int) else if(Go.Lib.index l [47]== -1)=true then -1 else Go.Lib.index l [47]+1)=_
   by_cases h:b=47
   ·subst h;rfl
   have:((47:UInt8)==b)=false:=by simp only[beq_eq_false_iff_ne];exact fun e=>h e.symm
   rw[this,if_neg h];by_cases h2:Go.Lib.index l [47]= -1
   ·rw[h2];rfl
   rw[if_neg h2,Bool.false_and,if_neg Bool.false_ne_true,if_neg (by simp[h2])]
  by_cases h:b=47
  ·subst h;exact .inr ⟨0,by rw[e,if_pos rfl];rfl,by simp,by simp,by simp⟩
  rw[if_neg h] at e;rcases ZNH l with⟨h1,h2⟩ | ⟨i,h1,h2,h3,h4⟩
  ·left
   rw[if_pos h1] at e;exact⟨e,by simp only[List.mem_cons,not_or];exact⟨fun e=>h e.symm,h2⟩⟩
  right
  rw[if_neg (by omega)] at e
  refine⟨i+1,by omega,by simp;omega,?_,?_⟩
  ·simp only[List.take_succ_cons,List.mem_cons,not_or];exact⟨fun e=>h e.symm,h3⟩
  simp only[List.take_succ_cons,List.drop_succ_cons,List.cons_append];congr 1
theorem ZKf:∀(n:Nat) (s:List UInt8),s.length≤n→Go.Lib.splitK [47] 0 (Go.Lib.count s [47]) s=pcs s
 | 0,s,h=>by
  have:s=[]:=List.eq_nil_of_length_eq_zero (by omega)
  subst this;rfl
 | n+1,s,h=>by
  rcases ZNH s with⟨h1,h2⟩ | ⟨i,h1,h2,h3,h4⟩
  ·rw[Go.Lib.count_miss h1,ZLl h2];rfl
  have hc:=Go.Lib.count_hit (sub:=[47]) (by simp) h1
  rw[hc,Nat.add_comm];show(if(Go.Lib.index s [47]== -1)=true then[s] else s.take ((Go.Lib.index s [47]).toNat+0)::Go.Lib.splitK [47] 0 (Go.Lib.count (s.drop (i+[47].length)) [47]) (s.drop ((Go.Lib.index s [47]).toNat+[47].length)))=_
  rw[h1,if_neg (by simp)]
  have ih:=ZKf n (s.drop (i+1)) (by rw[List.length_drop];omega)
  show s.take (i+0)::Go.Lib.splitK [47] 0 (Go.Lib.count (s.drop (i+1)) [47]) (s.drop (i+1))=_
  rw[ih,Nat.add_zero];have e:=ZOT (b:=s.drop (i+1)) h3;rw[←h4] at e;exact e.symm
theorem ZXB (s:List UInt8):(ba s).data.toList=s:=by
 show(List.toArray s).toList=s
 simp
theorem ZSA {s:List UInt8} (h:s.length<4294967281):strings_Split s (str [47])=some (pcs s):=by
 unfold strings_Split;have h1:1≤(ba (str [47])).size:=Nat.le_refl 1
 have h2:=Go.Lib.splitB_all (ba (str [47])) h1 0 _ (ba s) rfl;have hc:s.length<4294967281∧1≤List.length (str [47])∧(Go.Lib.splitB (ba (str [47])) 0 (Go.Lib.countB (ba s) (ba (str [47]))) (ba s)).length=Go.Lib.countB (ba s) (ba (str [47]))+1:=⟨h,Nat.le_refl 1,h2⟩
 refine(if_pos hc).trans ?_
 congr 1
 have e1:(ba s).data.toList=s:=ZXB s
 have e2:(ba (str [47])).data.toList=[47]:=rfl
 have h4:Go.Lib.countB (ba s) (ba (str [47]))=Go.Lib.count s [47]:=by
  show Go.Lib.count (ba s).data.toList (ba (str [47])).data.toList=_
  exact(congrArg (fun a=>Go.Lib.count a _) e1).trans (congrArg (fun b=>Go.Lib.count s b) e2)
 have h3:(Go.Lib.splitB (ba (str [47])) 0 (Go.Lib.count s [47]) (ba s)).map (·.data.toList)=Go.Lib.splitK (ba (str [47])).data.toList 0 (Go.Lib.count s [47]) (ba s).data.toList:=Go.Lib.splitB_data _ _ _ _
 have h5:Go.Lib.splitK (ba (str [47])).data.toList 0 (Go.Lib.count s [47]) (ba s).data.toList=pcs s:=((congrArg (fun a=>Go.Lib.splitK a 0 (Go.Lib.count s [47]) (ba s).data.toList) e2).trans (congrArg (fun b=>Go.Lib.splitK [47] 0 (Go.Lib.count s [47]) b) e1)).trans (ZKf s.length s (Nat.le_refl _))
 rw[h4];exact h3.trans h5
/-! ### What a path's names are -/
def splL:List Str→List Str→Bool→List Str×Bool×Int
 | [],out,dir=>(out,dir,0)
 | p::ps,out,dir=>if(eqS p (str []) || eqS p (str [46]))=true then splL ps out true else if(!eqS p (str [46,46]) && chkS p !=0)=true then([],false,chkS p) else splL ps (out++[p]) false
def spl (s:List UInt8):List Str×Bool×Int:=if s=[] then([],false,206) else if s.length > 1000 then([],false,208) else if s.getD 0 0≠47 then([],false,206) else splL (pcs (s.drop 1)) [] false
theorem ZGP (p:Str) (ps out:List Str) (dir:Bool):splL (p::ps) out dir=if(eqS p (str []) || eqS p (str [46]))=true then splL ps out true else if(!eqS p (str [46,46]) && chkS p !=0)=true then([],false,chkS p) else splL ps (out++[p]) false:=rfl
theorem ZIA {r:List Str} (hr:r.length≤2000):∀(f v:Nat) (out:List Str) (dir:Bool),v≤r.length→r.length=v+f→out.length≤v→(loop (ZCv r) (out,dir,(v:Int))).bind ZCw=some (splL (r.drop v) out dir)
 | 0,v,out,dir,h1,h2,h3=>by
  have hd:r.drop v=[]:=List.drop_of_length_le (by omega)
  rw[hd,ZAT (r:= .inl (out,dir))]
  ·rfl
  show(if decide ((v:Int)<((List.length r:Nat):Int))=true then _ else _)=_
  rw[if_neg (by simp;omega)]
 | f+1,v,out,dir,h1,h2,h3=>by
  have hv:v<r.length:=by omega
  have hd:r.drop v=r[v]::r.drop (v+1):=List.drop_eq_getElem_cons hv
  have hn:nth r (v:Int)=some r[v]:=ZBo hv
  rw[hd,ZGP];generalize r[v]=p at*
  have hb:ZCv r (out,dir,(v:Int))=if(eqS p (str []) || eqS p (str [46]))=true then some (.inl (out,true,((v+1:Nat):Int))) else if(!eqS p (str [46,46]) && chkS p !=0)=true then some (.inr (.inr ([],false,chkS p))) else some (.inl (out++[p],false,((v+1:Nat):Int))):=by
   show(if decide ((v:Int)<((List.length r:Nat):Int))=true then _ else _)=_
   rw[if_pos (decide_eq_true (by omega))]
   refine(bds hn).trans ?_
   have hw:IntKind.i64.wrap ((v:Int)+1)=((v+1:Nat):Int):=by rw[i64w (by omega)];rfl
   show(Option.bind (if eqS p (str [])=true then some true else some (eqS p (str [46]))) fun b=>if b=true then ZBz (v:Int) out b else(ZBa p).bind fun r_1=>(if(r_1 !=0)=true then some (!eqS p (str [46,46])) else some false).bind fun b1=>if b1=true then some (Sum.inr (Sum.inr ([],false,r_1))) else(app 16 out [p]).bind fun l=>ZBz (v:Int) l b)=_
   unfold ZBz;rw[hw]
   cases e1:eqS p (str []) with
   | true=>rfl
   | false=>
    cases e2:eqS p (str [46]) with
    | true=>rfl
    | false=>
     show((ZBa p).bind fun r_1=>(if(r_1 !=0)=true then some (!eqS p (str [46,46])) else some false).bind fun b1=>if b1=true then some (Sum.inr (Sum.inr ([],false,r_1))) else(app 16 out [p]).bind fun l=>some (Sum.inl (l,false,((v+1:Nat):Int))))=_
     refine(bds (ZPH p)).trans ?_
     have ha:app 16 out [p]=some (out++[p]):=ZEj _ _ (by simp;omega) (by simp;omega)
     rw[ha]
     cases e3:(chkS p !=0) with
     | false=>cases eqS p (str [46,46])<;> rfl
     | true=>cases eqS p (str [46,46])<;> rfl
  by_cases c1:(eqS p (str []) || eqS p (str [46]))=true
  ·rw[if_pos c1] at hb ⊢;rw[ZAc hb];exact ZIA hr f (v+1) out true (by omega) (by omega) (by omega)
  rw[if_neg c1] at hb ⊢;by_cases c2:(!eqS p (str [46,46]) && chkS p !=0)=true
  ·rw[if_pos c2] at hb ⊢;rw[ZAT hb];rfl
  rw[if_neg c2] at hb ⊢;rw[ZAc hb];exact ZIA hr f (v+1) (out++[p]) false (by omega) (by omega) (by simp;omega)
theorem ZPO (s:List UInt8):ZBm s=some (spl s):=by
 unfold ZBm spl;rw[ZGL];by_cases h0:s=[]
 ·rw[if_pos (decide_eq_true h0),if_pos h0]
 rw[if_neg (by simpa using h0),if_neg h0]
 by_cases h1:s.length > 1000
 ·rw[if_pos (decide_eq_true (by omega)),if_pos h1]
 rw[if_neg (by simp;omega),if_neg h1]
 have hl:0<s.length:=List.length_pos_iff.2 h0
 have e0:nth (α:=UInt8) s 0=some (s.getD 0 0):=ZKb (l:=s) (i:=0) hl
 refine(bds e0).trans ?_
 by_cases h2:s.getD 0 0=47
 ·rw[h2];show((subT s ((1:Nat):Int) (List.length s:Nat)).bind fun t=>(strings_Split t (str [47])).bind fun r_=>(loop (ZCv r_) ([],false,((0:Nat):Int))).bind ZCw)=_
  refine(bds (ZJt (i:=1) (by omega))).trans ((bds (ZSA (by rw[List.length_drop];omega))).trans ?_)
  have:=ZOU (s.drop 1)
  rw[List.length_drop] at this;refine(ZIA (by omega) (pcs (s.drop 1)).length 0 [] false (by omega) (by omega) (by simp)).trans ?_
  rw[if_neg (by simp)]
  rfl
 have:(((s.getD 0 0).toNat:Int) !=47)=true:=by
  simp only[bne_iff_ne,ne_eq];intro h;exact h2 (UInt8.toNat_inj.1 (by show _=47;omega))
 rw[if_pos h2];show(if(((s.getD 0 0).toNat:Int) !=47)=true then _ else _)=_
 rw[if_pos this]
end Go.Ai.Rab
end
section
set_option maxRecDepth 10000
open Go.Ai.Enc (enc is)
namespace Go.Ai.Rab
def strA (l:List (List UInt8)):List UInt8:=l.flatMap fun x=>47::x
theorem ZNI (x:List UInt8) (l:List (List UInt8)):strA (x::l)=47::(x++strA l):=rfl
end Go.Ai.Rab
end
section
set_option maxRecDepth 10000
open Go.Ai.Enc (enc is)
namespace Go.Ai.Rab
theorem ZLm:∀(ps out:List Str) (d:Bool),(splL ps out d).1.length≤out.length+ps.length
 | [],out,d=>Nat.le_refl _
 | p::ps,out,d=>by
  rw[ZGP];split
  ·have:=ZLm ps out true
   rw[List.length_cons];omega
  split
  ·exact Nat.zero_le _
  have:=ZLm ps (out++[p]) false
  rw[List.length_append] at this;simp only[List.length_cons,List.length_nil] at this ⊢;omega
theorem ZJu (s:List UInt8):(spl s).1.length≤1000:=by
 unfold spl;split
 ·exact Nat.zero_le _
 split
 ·exact Nat.zero_le _
 rename_i h0 h1;split
 ·exact Nat.zero_le _
 have h2:=ZLm (pcs (s.drop 1)) [] false;have h3:=ZOU (s.drop 1);rw[List.length_drop] at h3;have:0<s.length:=List.length_pos_iff.2 h0
 simp only[List.length_nil] at h2;omega
structure WS where
 l:List Str
 d:Int
 s:Str
 n:Int
 b:Bool
 h:Int
 k:Nat
def WS.pl (x:WS):ZAU:=Rec.mk (x.d,x.s,x.n,x.b,())
def WS.w (x:WS) (f:FsR) (fol:Bool):ZAr:=Rec.mk (f,fol,x.l,x.pl,x.h,(x.k:Int),())
def plZ:ZAU:=Rec.mk (0,str [],0,false,())
def noS (s:Str) (e:Int):ErrN 104:=if e=0 then ErrN.mk none else ErrN.mk (some (s,e))
def ZA7 (f:FsR) (n:Int):ZAO:=match posI f.v.1 n with | some i=>inAt f.v.1 i | none=>noI
def WS.goes (x:WS) (n:Int):WS:=⟨x.l,n,str [],n,x.b,n,x.k⟩
def WS.rests (x:WS) (s:Str) (n:Int):WS:=⟨x.l,x.h,s,n,x.b,imax n 1,x.k⟩
def tgt (x:WS) (t:List UInt8):List UInt8×Int:=if Lib.hasPrefix t [47]=true then(t,1) else(47::t,x.h)
def ZFj (x:WS) (t:List UInt8):WS×Int:=
 if x.k=8 then(x,209) else(WS.goes ⟨(spl (tgt x t).1).1++x.l,x.d,x.s,x.n,x.b || (spl (tgt x t).1).2.1 && decide (x.l.length=0),x.h,x.k+1⟩ (tgt x t).2,(spl (tgt x t).1).2.2)
def lnkB (f:FsR) (fol:Bool) (x:WS) (n:Int):Bool:=decide (n > 0) && ((ZA7 f n).v.2.1==3 && (!decide (x.l.length=0) || fol || x.b))
def ZCH (f:FsR) (fol:Bool) (x:WS) (s:Str):WS×Int:=
 if(ZA7 f x.h).v.2.1≠2 then(x,203) else if eqS s (str [46,46])=true then(x.goes (imax (parS f x.h) 1),0) else
 if(ZBY f x.h s).2≠0 then(if x.l.length≠0 then(x,201) else(x.rests s 0,0)) else
 if lnkB f fol x (ZBY f x.h s).1=true then ZFj x (ZA7 f (ZBY f x.h s).1).v.2.2.2.2.2.1 else(x.rests s (ZBY f x.h s).1,0)
def runS (f:FsR) (fol:Bool):Nat→WS→WS×Int
 | 0,x=>(x,0)
 | m+1,x=>match x.l with
  | []=>(x,0)
  | s::l=>if(ZCH f fol ⟨l,x.d,x.s,x.n,x.b,x.h,x.k⟩ s).2=0 then runS f fol m (ZCH f fol ⟨l,x.d,x.s,x.n,x.b,x.h,x.k⟩ s).1 else ZCH f fol ⟨l,x.d,x.s,x.n,x.b,x.h,x.k⟩ s
def endS (f:FsR) (x:WS):ZAU×Int:=if(x.b && decide (x.n > 0) && (ZA7 f x.n).v.2.1 !=2)=true then(plZ,203) else(x.pl,0)
def ZHm (r:List Str×Bool×Int):WS:=⟨r.1,1,str [],1,r.2.1,1,0⟩
def wlkS (f:FsR) (r:List Str×Bool×Int) (fol:Bool):ZAU×Int:=
 if chkL f.v.1 f.v.2.1=true then(if r.2.2≠0 then(plZ,r.2.2) else if(runS f fol 10000 (ZHm r)).2≠0 then(plZ,(runS f fol 10000 (ZHm r)).2) else endS f (runS f fol 10000 (ZHm r)).1) else(plZ,2)
def codS (c:Int):Int:=if c=2∨c=206∨c=208∨c=201∨c=203∨c=209 then c else 0
def ZKL (f:FsR) (path:List UInt8) (fol:Bool):ZAU×Int:=((wlkS f (spl path) fol).1,codS (wlkS f (spl path) fol).2)
/-! ### The code of an error -/
theorem ZSB (s:Str) (e:Int):ZBE s e=some (noS s e):=by
 unfold ZBE noS;by_cases h:e=0
 ·rw[if_pos (by simp[h]),if_pos h]
 rw[if_neg (by simp[h]),if_neg h]
def hitE (e:ErrN 104) (n:Int):Bool:=hitN e.c n
theorem ZEC (e:ErrN 104) {i:Nat} {n:Int} (h:nth [2,206,208,201,203,209] (i:Int)=some n) (hi:i<6):ZDy e (i:Int)=some (if hitE e n=true then .inr (.inr n) else .inl ((i+1:Nat):Int)):=by
 have h1:(decide ((i:Int)<(([2,206,208,201,203,209]:List Int).length:Int)))=true:=decide_eq_true (by simp;omega)
 show(if(decide ((i:Int)<(([2,206,208,201,203,209]:List Int).length:Int)))=true then _ else _)=_
 rw[if_pos h1];refine(bds h).trans ?_
 have h2:ZFA e (ZAs 91 n)=some (hitE e n):=rfl
 refine(bds h2).trans ?_
 have hw:IntKind.i64.wrap ((i:Int)+1)=((i+1:Nat):Int):=by rw[i64w (by omega)];rfl
 rw[hw]
 cases hitE e n<;> rfl
theorem ZSC (e:ErrN 104):ZDy e ((6:Nat):Int)=some (.inr (.inl ())):=rfl
theorem ZTP (s:Str) (c:Int):ZCi (noS s c)=some (codS c):=by
 unfold ZCi;have hh:∀n:Int,n≠0→(hitE (noS s c) n=true↔c=n):=fun n hn=>by
  unfold noS hitE;split
  ·rename_i h;subst h;simp only[hitN];constructor
   ·intro h;cases h
   intro h;exact absurd h.symm hn
  simp[hitN]
 generalize noS s c=e at*
 have s0:=ZEC e (i:=0) (n:=2) rfl (by omega)
 have s1:=ZEC e (i:=1) (n:=206) rfl (by omega)
 have s2:=ZEC e (i:=2) (n:=208) rfl (by omega)
 have s3:=ZEC e (i:=3) (n:=201) rfl (by omega)
 have s4:=ZEC e (i:=4) (n:=203) rfl (by omega)
 have s5:=ZEC e (i:=5) (n:=209) rfl (by omega)
 unfold codS;have z:((0:Int))=((0:Nat):Int):=rfl
 rw[z];by_cases h0:c=2
 ·rw[if_pos ((hh 2 (by decide)).2 h0)] at s0
  rw[ZAT s0,if_pos (.inl h0),h0];rfl
 rw[if_neg (fun h=>h0 ((hh 2 (by decide)).1 h))] at s0
 rw[ZAc s0];by_cases h1:c=206
 ·rw[if_pos ((hh 206 (by decide)).2 h1)] at s1
  rw[ZAT s1,if_pos (by omega),h1];rfl
 rw[if_neg (fun h=>h1 ((hh 206 (by decide)).1 h))] at s1
 rw[ZAc s1];by_cases h2:c=208
 ·rw[if_pos ((hh 208 (by decide)).2 h2)] at s2
  rw[ZAT s2,if_pos (by omega),h2];rfl
 rw[if_neg (fun h=>h2 ((hh 208 (by decide)).1 h))] at s2
 rw[ZAc s2];by_cases h3:c=201
 ·rw[if_pos ((hh 201 (by decide)).2 h3)] at s3
  rw[ZAT s3,if_pos (by omega),h3];rfl
 rw[if_neg (fun h=>h3 ((hh 201 (by decide)).1 h))] at s3
 rw[ZAc s3];by_cases h4:c=203
 ·rw[if_pos ((hh 203 (by decide)).2 h4)] at s4
  rw[ZAT s4,if_pos (by omega),h4];rfl
 rw[if_neg (fun h=>h4 ((hh 203 (by decide)).1 h))] at s4
 rw[ZAc s4];by_cases h5:c=209
 ·rw[if_pos ((hh 209 (by decide)).2 h5)] at s5
  rw[ZAT s5,if_pos (by omega),h5];rfl
 rw[if_neg (fun h=>h5 ((hh 209 (by decide)).1 h))] at s5
 rw[ZAc s5,ZAT (ZSC e),if_neg (by omega)];rfl
end Go.Ai.Rab
end
section
set_option maxRecDepth 10000
open Go.Ai.Enc (enc is)
namespace Go.Ai.Rab
theorem ZLn (k:Nat) (h:k<1000000000):IntKind.i64.wrap ((k:Int)+1)=((k+1:Nat):Int):=by rw[i64w (by omega)];rfl
theorem ZSD {a b:List Str} (ha:a.length≤1000000) (hb:b.length≤1000000):ZGE [a,b]=some (a++b):=by
 unfold ZGE;have s0:ZDc [a,b] (0,0)=some (.inl ((a.length:Int),1)):=by
  show(if decide (IntKind.i64.wrap (0+(a.length:Int))<0)=true then none else ZDb 0 (IntKind.i64.wrap (0+(a.length:Int))))=_
  rw[Int.zero_add,i64w (by omega),if_neg (by simp)];rfl
 have s1:ZDc [a,b] ((a.length:Int),1)=some (.inl ((a.length:Int)+(b.length:Int),2)):=by
  show(if decide (IntKind.i64.wrap ((a.length:Int)+(b.length:Int))<0)=true then none else ZDb 1 (IntKind.i64.wrap ((a.length:Int)+(b.length:Int))))=_
  rw[i64w (by omega),if_neg (by simp;omega)];rfl
 have s2:ZDc [a,b] ((a.length:Int)+(b.length:Int),2)=some (.inr ((a.length:Int)+(b.length:Int))):=rfl
 rw[ZAc s0,ZAc s1,ZAT s2];show((ZJb [] ((a.length:Int)+(b.length:Int))).bind _)=_
 have g:ZJb [] ((a.length:Int)+(b.length:Int))=some []:=if_pos ⟨rfl,by omega,by omega⟩
 refine(bds g).trans ?_
 have t0:ZDd [a,b] ([],0)=some (.inl (a,1)):=by
  show((app 16 [] a).bind fun l=>some (Sum.inl (l,IntKind.i64.wrap (0+1))))=_
  rw[ZEj [] a (by simp;omega) (by simp;omega)];rfl
 have t1:ZDd [a,b] (a,1)=some (.inl (a++b,2)):=by
  show((app 16 a b).bind fun l=>some (Sum.inl (l,IntKind.i64.wrap (1+1))))=_
  rw[ZEj a b (by omega) (by omega)];rfl
 have t2:ZDd [a,b] (a++b,2)=some (.inr (a++b)):=rfl
 rw[ZAc t0,ZAc t1,ZAT t2];rfl
theorem lenB (l:List Str):((l.length:Int)==0)=decide (l.length=0):=by
 cases l with
 | nil=>rfl
 | cons a t=>exact(beq_eq_false_iff_ne.2 (by simp;omega)).trans (decide_eq_false (by simp)).symm
theorem ZPP {f:FsR} {fol:Bool} {x:WS} (hx:x.l.length≤1000000) (hk:x.k≤8) (s:Str) (t:List UInt8) (n:Int):
  ZCD (x.w f fol) s t n=some ((WS.goes ⟨(spl t).1++x.l,x.d,x.s,x.n,x.b || (spl t).2.1 && decide (x.l.length=0),x.h,x.k+1⟩ n).w f fol,noS s (spl t).2.2):=by
 have hl:=ZJu t;unfold ZCD;refine(bds (ZPO t)).trans ?_
 generalize spl t=r at*
 have e:(if x.b=true then some true else((if r.2.1=true then some ((x.l.length:Int)==0) else some false).bind fun b1=>some b1))=some (x.b || r.2.1 && decide (x.l.length=0)):=by
  rw[lenB]
  cases x.b<;> cases r.2.1<;> rfl
 refine(bds e).trans ((bds (ZSD (by omega) hx)).trans ?_)
 have w:=ZLn x.k (by omega)
 show((ZG8 (Rec.mk (f,fol,r.1++x.l,(Rec.mk (x.d,x.s,x.n,(x.b || r.2.1 && decide (x.l.length=0)),())),x.h,IntKind.i64.wrap ((x.k:Int)+1),())) n).bind fun r_3=>(ZBE s r.2.2).bind fun r_4=>some (r_3,r_4))=_
 rw[w,ZSB];rfl
theorem ZJv {a b:List UInt8} (h:a.length+b.length≤1000000):catT a b=some (a++b):=by
 exact if_neg (show ¬((a.length+b.length:Int) > 9223372036854775807) by omega)
theorem ZVe {f:FsR} {fol:Bool} {x:WS} (hx:x.l.length≤1000000) (hk:x.k≤8) (s:Str) {t:List UInt8} (ht:t.length≤1000):ZGF (x.w f fol) s t=some ((ZFj x t).1.w f fol,noS s (ZFj x t).2):=by
 unfold ZGF ZFj;by_cases h:x.k=8
 ·rw[if_pos h];refine(if_pos (show((x.k:Int)==8)=true by simp[h])).trans ?_
  refine(bds (ZSB s 209)).trans rfl
 rw[if_neg h];refine(if_neg (show ¬((x.k:Int)==8)=true by simp;omega)).trans ?_
 show(if Lib.hasPrefix t [47]=true then ZCD (x.w f fol) s t 1 else _)=_
 unfold tgt
 cases Lib.hasPrefix t [47] with
 | true=>exact(if_pos rfl).trans (ZPP hx hk s t 1)
 | false=>
  refine(if_neg (by decide)).trans ?_
  refine(bds (ZJv (a:=[47]) (b:=t) (by simp;omega))).trans ?_
  exact ZPP hx hk s (47::t) x.h
theorem ZPQ (x:WS) (t:List UInt8):(ZFj x t).2=0→x.k≠8∧(ZFj x t).1.l.length≤1000+x.l.length∧(ZFj x t).1.k=x.k+1∧(ZFj x t).1.n=(tgt x t).2∧(ZFj x t).1.h=(tgt x t).2:=by
 unfold ZFj;intro h;by_cases h8:x.k=8
 ·rw[if_pos h8] at h;cases h
 rw[if_neg h8];have:=ZJu (tgt x t).1
 refine⟨h8,?_,rfl,rfl,rfl⟩
 show((spl (tgt x t).1).1++x.l).length≤_
 rw[List.length_append];omega
/-! ### Steps -/
def has (f:FsR) (n:Int):Prop:=∃i,posI f.v.1 n=some i
theorem ZUt {f:FsR} (hok:Ok f.v.1 f.v.2.1) {x:ZAO} (hx:x∈f.v.1):has f x.v.1:=by
 obtain⟨i,h,_⟩:=ZR9 hok.so hx;exact⟨i,h⟩
theorem ZJw {f:FsR} (hok:Ok f.v.1 f.v.2.1):has f 1:=by
 obtain⟨z,h1,h2,_⟩:=hok.root;rw[←h2];exact ZUt hok h1
theorem ZDq {f:FsR} {n:Int} (h:has f n):ZA7 f n∈f.v.1∧(ZA7 f n).v.1=n:=by
 obtain⟨i,hi⟩:=h;unfold ZA7;rw[hi];exact⟨ZBX (ZBV hi).1,(ZBV hi).2⟩
theorem ZFk {f:FsR} (hok:Ok f.v.1 f.v.2.1) {n:Int} (h:has f n):1≤n:=by
 have:=ZDq h
 have h2:=hok.num this.1;rw[this.2] at h2;exact h2.1
theorem ZOV {f:FsR} (hok:Ok f.v.1 f.v.2.1) (fol:Bool) (x:WS) {n:Int} (h:has f n):ZCu (x.w f fol) n=some (ZA7 f n):=by
 obtain⟨i,hi⟩:=h;unfold ZCu ZA7;refine(bds (ZJm (f:=f) (by have:=hok.len;omega) n)).trans ?_
 unfold fndI;rw[hi];exact bds (ZD4 (ZBV hi).1)
theorem ZIg {n:Int} (h:1≤n):imax n 1=n:=if_neg (by omega)
theorem ZJx {f:FsR} (hok:Ok f.v.1 f.v.2.1) (n:Int):parS f n=0∨has f (parS f n):=by
 unfold parS;split
 ·exact .inl rfl
 cases hu:upsL f.v.1 n with
 | nil=>exact .inl rfl
 | cons p q=>
  right
  have:p∈upsL f.v.1 n:=by rw[hu];exact List.mem_cons_self
  obtain⟨y,hy,e,_⟩:=ZGg.1 this;show has f p
  rw[e];exact ZUt hok hy
theorem ZSE {f:FsR} (hok:Ok f.v.1 f.v.2.1) (n:Int):has f (imax (parS f n) 1):=by
 rcases ZJx hok n with h | h
 ·rw[h];exact ZJw hok
 rw[ZIg (ZFk hok h)];exact h
theorem ZLo {f:FsR} {d:Int} {s:Str} (h:(ZBY f d s).2=0):has f (ZBY f d s).1:=by
 obtain⟨_,i,_,_,_,_,_,_,_,_,k,hk,_⟩:=ZR3 h;exact⟨k,hk⟩
theorem ZPR {f:FsR} (hok:Ok f.v.1 f.v.2.1) {n:Int} (h:has f n):List.length (ZA7 f n).v.2.2.2.2.2.1≤1000:=by
 have:=hok.al _ (ZDq h).1
 unfold ZC1 ZGj at this;simp only[Bool.and_eq_true] at this;exact ZUo this.1.2.2.2.1
structure WInv (f:FsR) (x:WS):Prop where
 hh:has f x.h
 hn:x.n > 0→has f x.n
 hk:x.k≤8
 hl:x.l.length≤1000*(x.k+1)
def WS.m (x:WS):Nat:=x.l.length+1001*(8 - x.k)
theorem ZPS (f:FsR) (fol:Bool) (x:WS) (s:Str) (n:Int):ZDe s n (x.w f fol)=some ((x.rests s n).w f fol,noS s 0):=rfl
theorem ZPT {f:FsR} (hok:Ok f.v.1 f.v.2.1) (fol:Bool) {x:WS} (hi:WInv f x) (s:Str) {n:Int} (hn:n > 0→has f n):
  ZCg (x.w f fol) s n=some (if lnkB f fol x n=true then((ZFj x (ZA7 f n).v.2.2.2.2.2.1).1.w f fol,noS s (ZFj x (ZA7 f n).v.2.2.2.2.2.1).2) else((x.rests s n).w f fol,noS s 0)):=by
 unfold ZCg lnkB;by_cases h0:n > 0
 ·refine(if_pos (decide_eq_true h0)).trans ((bds (ZOV hok fol x (hn h0))).trans ?_)
  rw[decide_eq_true h0,Bool.true_and];have e:(if((ZA7 f n).v.2.1==3)=true then((if(!((x.l.length:Int)==0))=true then some true else some fol).bind fun b1=>(if b1=true then some true else some x.b).bind fun b2=>some b2) else some false)=some ((ZA7 f n).v.2.1==3 && (!decide (x.l.length=0) || fol || x.b)):=by
   rw[lenB]
   cases((ZA7 f n).v.2.1==3)<;> cases decide (x.l.length=0)<;> cases fol<;> cases x.b<;> rfl
  refine(bds e).trans ?_
  cases((ZA7 f n).v.2.1==3 && (!decide (x.l.length=0) || fol || x.b)) with
  | true=>
   refine(if_pos rfl).trans ?_
   have hl:=hi.hl;have hk:=hi.hk;exact(bds (ZVe (by omega) hk s (ZPR hok (hn h0))))
  | false=>exact(if_neg (by decide)).trans (ZPS f fol x s n)
 refine(if_neg (by simpa using h0)).trans ?_
 rw[decide_eq_false h0,Bool.false_and];exact ZPS f fol x s n
theorem ZVf {f:FsR} (hok:Ok f.v.1 f.v.2.1) (fol:Bool) {x:WS} (hi:WInv f x) (s:Str):ZEM (x.w f fol) s=some ((ZCH f fol x s).1.w f fol,noS s (ZCH f fol x s).2):=by
 unfold ZEM ZCH;refine(bds (ZOV hok fol x hi.hh)).trans ?_
 by_cases h1:(ZA7 f x.h).v.2.1=2
 ·rw[if_neg (fun h=>h h1:¬(ZA7 f x.h).v.2.1≠2)]
  refine(if_neg (by simp[h1])).trans ?_
  cases h2:eqS s (str [46,46]) with
  | true=>
   refine(if_pos rfl).trans ?_
   rw[if_pos rfl];exact(bds (ZJr (f:=f) hok.small x.h)).trans rfl
  | false=>
   refine(if_neg (by decide)).trans ?_
   rw[if_neg (Bool.false_ne_true:¬(false=true))];refine(bds (ZR2 (f:=f) hok.small x.h s)).trans ?_
   by_cases h3:(ZBY f x.h s).2=0
   ·rw[if_neg (fun h=>h h3:¬(ZBY f x.h s).2≠0)]
    refine(if_neg (by simp[h3])).trans ((ZPT hok fol hi s fun _=>ZLo h3).trans ?_)
    split<;> rfl
   rw[if_pos (h3:(ZBY f x.h s).2≠0)];refine(if_pos (by simpa using h3)).trans ?_
   show(if(!((x.l.length:Int)==0))=true then _ else _)=_
   rw[lenB];by_cases h4:x.l.length=0
   ·rw[if_neg (by simp[h4]),if_neg (fun h=>h h4:¬x.l.length≠0)]
    refine(ZPT hok fol hi s (n:=0) fun h=>absurd h (by decide)).trans ?_
    rfl
   rw[if_pos (by simp[h4]),if_pos (h4:x.l.length≠0)]
   exact(bds (ZSB s 201)).trans rfl
 rw[if_pos (h1:(ZA7 f x.h).v.2.1≠2)];refine(if_pos (by simpa using h1)).trans ?_
 exact(bds (ZSB s 203)).trans rfl
theorem ZPU {f:FsR} (hok:Ok f.v.1 f.v.2.1) (fol:Bool) {x:WS} (hi:WInv f x) (s:Str) (h:(ZCH f fol x s).2=0):WInv f (ZCH f fol x s).1∧(ZCH f fol x s).1.m≤x.m:=by
 have rest:∀n:Int,(n > 0→has f n)→WInv f (x.rests s n)∧(x.rests s n).m≤x.m:=fun n hn=>by
  refine⟨⟨?_,hn,hi.hk,hi.hl⟩,Nat.le_refl _⟩
  show has f (imax n 1)
  unfold imax;split
  ·exact ZJw hok
  exact hn (by omega)
 unfold ZCH at h ⊢;by_cases h1:(ZA7 f x.h).v.2.1≠2
 ·rw[if_pos h1] at h;cases h
 rw[if_neg h1] at h ⊢;by_cases h2:eqS s (str [46,46])=true
 ·rw[if_pos h2];exact⟨⟨ZSE hok _,fun _=>ZSE hok _,hi.hk,hi.hl⟩,Nat.le_refl _⟩
 rw[if_neg h2] at h ⊢;by_cases h3:(ZBY f x.h s).2≠0
 ·rw[if_pos h3] at h ⊢;by_cases h4:x.l.length≠0
  ·rw[if_pos h4] at h;cases h
  rw[if_neg h4];exact rest 0 fun h=>absurd h (by decide)
 rw[if_neg h3] at h ⊢;have hn:=ZLo (f:=f) (d:=x.h) (s:=s) (by simpa using h3)
 by_cases h5:lnkB f fol x (ZBY f x.h s).1=true
 ·rw[if_pos h5] at h ⊢;obtain⟨j1,j2,j3,j4,j5⟩:=ZPQ x _ h;have hg:has f (tgt x (ZA7 f (ZBY f x.h s).1).v.2.2.2.2.2.1).2:=by
   unfold tgt;split
   ·exact ZJw hok
   exact hi.hh
  have hk:=hi.hk;have hl:=hi.hl;refine⟨⟨by rw[j5];exact hg,fun _=>by rw[j4];exact hg,by omega,by rw[j3];omega⟩,?_⟩
  unfold WS.m;rw[j3];omega
 rw[if_neg h5];exact rest _ fun _=>hn
end Go.Ai.Rab
end
section
set_option maxRecDepth 10000
open Go.Ai.Enc (enc is)
namespace Go.Ai.Rab
theorem ZTQ (s:Str) (c:Int):(noS s c).c.isSome=decide (c≠0):=by
 unfold noS;by_cases h:c=0
 ·rw[if_pos h,decide_eq_false (by simp[h])];rfl
 rw[if_neg h,decide_eq_true h];rfl
theorem ZUu {f:FsR} (hok:Ok f.v.1 f.v.2.1) (fol:Bool):∀(n:Nat) (x:WS),WInv f x→x.m≤n→∃s,loop ZCE (plZ,x.w f fol)=some (if(runS f fol n x).2=0 then .inl (plZ,(runS f fol n x).1.w f fol) else .inr (plZ,noS s (runS f fol n x).2))∧((runS f fol n x).2=0→WInv f (runS f fol n x).1)
 | n,⟨[],d,s,p,b,h,k⟩,hi,hm=>by
  have e:runS f fol n ⟨[],d,s,p,b,h,k⟩=(⟨[],d,s,p,b,h,k⟩,0):=by cases n<;> rfl
  rw[e];refine⟨str [],?_,fun _=>hi⟩
  exact ZAT rfl
 | 0,⟨q::l,d,s,p,b,h,k⟩,hi,hm=>by
  unfold WS.m at hm;simp only[List.length_cons] at hm;omega
 | n+1,⟨q::l,d,s,p,b,h,k⟩,hi,hm=>by
  have hi' :WInv f ⟨l,d,s,p,b,h,k⟩:=⟨hi.hh,hi.hn,hi.hk,by have:=hi.hl;simp only[List.length_cons] at this ⊢;omega⟩
  have hm' :(WS.mk l d s p b h k).m≤n:=by
   unfold WS.m at hm ⊢;simp only[List.length_cons] at hm ⊢;omega
  have hs:=ZVf hok fol hi' q;have hv:=ZPU hok fol hi' q;have hb:ZCE (plZ,(WS.mk (q::l) d s p b h k).w f fol)=((ZEM ((WS.mk l d s p b h k).w f fol) q).bind fun r_5=>if r_5.2.c.isSome=true then some (.inr (.inr (plZ,r_5.2))) else some (.inl (plZ,r_5.1))):=by
   have hl:sub (q::l) 1 (((q::l).length:Nat):Int)=some l:=by
    have:=ZLc (q::l) 1 (q::l).length (by simp) (Nat.le_refl _)
    rw[List.take_length] at this;exact this
   show(if(((q::l).length:Int)==0)=true then some (Sum.inr (Sum.inl (plZ,(WS.mk (q::l) d s p b h k).w f fol))) else((nth (q::l) 0).bind fun v4=>(sub (q::l) 1 ((q::l).length:Nat)).bind fun l=>(ZEM ((WS.mk l d s p b h k).w f fol) v4).bind fun r_5=>if r_5.2.c.isSome=true then some (Sum.inr (Sum.inr (plZ,r_5.2))) else some (Sum.inl (plZ,r_5.1))))=_
   rw[if_neg (by rw[lenB];simp)]
   refine(bds (show nth (q::l) 0=some q from rfl)).trans ((bds hl).trans ?_)
   rfl
  rw[hs] at hb;replace hb:ZCE (plZ,(WS.mk (q::l) d s p b h k).w f fol)=if(noS q (ZCH f fol ⟨l,d,s,p,b,h,k⟩ q).2).c.isSome=true then some (.inr (.inr (plZ,noS q (ZCH f fol ⟨l,d,s,p,b,h,k⟩ q).2))) else some (.inl (plZ,(ZCH f fol ⟨l,d,s,p,b,h,k⟩ q).1.w f fol)):=hb
  rw[ZTQ] at hb;have er:runS f fol (n+1) ⟨q::l,d,s,p,b,h,k⟩=if(ZCH f fol ⟨l,d,s,p,b,h,k⟩ q).2=0 then runS f fol n (ZCH f fol ⟨l,d,s,p,b,h,k⟩ q).1 else ZCH f fol ⟨l,d,s,p,b,h,k⟩ q:=rfl
  rw[er];by_cases hc:(ZCH f fol ⟨l,d,s,p,b,h,k⟩ q).2=0
  ·rw[if_neg (by simp[hc])] at hb
   rw[if_pos hc,ZAc hb];obtain⟨v1,v2⟩:=hv hc;exact ZUu hok fol n _ v1 (by omega)
  rw[if_pos (by simp[hc])] at hb
  rw[if_neg hc];refine⟨q,?_,fun h=>absurd h hc⟩
  rw[if_neg hc];exact ZAT hb
theorem ZXC {f:FsR} (hok:Ok f.v.1 f.v.2.1) (fol:Bool) {x:WS} (hi:WInv f x) (path:Str):ZCh path (.inl (plZ,x.w f fol))=some ((endS f x).1,noS path (endS f x).2):=by
 unfold endS;show((if x.b=true then some (decide (x.n > 0)) else some false).bind fun b=>(if b=true then((ZCu (x.w f fol) x.n).bind fun r_6=>some (r_6.v.2.1 !=2)) else some false).bind fun b1=>if b1=true then((ZBE path 203).bind fun r_7=>some (plZ,r_7)) else some (x.pl,ErrN.mk none))=_
 cases hb:x.b with
 | false=>rfl
 | true=>
  rw[Bool.true_and];by_cases hn:x.n > 0
  ·rw[decide_eq_true hn,Bool.true_and];show(((ZCu (x.w f fol) x.n).bind fun r_6=>some (r_6.v.2.1 !=2)).bind fun b1=>if b1=true then((ZBE path 203).bind fun r_7=>some (plZ,r_7)) else some (x.pl,ErrN.mk none))=_
   rw[ZOV hok fol x (hi.hn hn)];show(if((ZA7 f x.n).v.2.1 !=2)=true then((ZBE path 203).bind fun r_7=>some (plZ,r_7)) else some (x.pl,ErrN.mk none))=_
   cases((ZA7 f x.n).v.2.1 !=2)<;> rfl
  rw[decide_eq_false hn,Bool.false_and];rfl
theorem ZNJ {f:FsR} (hok:Ok f.v.1 f.v.2.1) {r:List Str×Bool×Int} (h:r.1.length≤1000):WInv f (ZHm r):=⟨ZJw hok,fun _=>ZJw hok,by show 0≤8;omega,by show r.1.length≤1000*(0+1);omega⟩
theorem ZVg {f:FsR} (hs:ZBh f.v.1) (path:List UInt8) (fol:Bool):∃s,ZDf f path fol=some ((wlkS f (spl path) fol).1,noS s (wlkS f (spl path) fol).2):=by
 unfold ZDf wlkS;rw[ZJp hs]
 cases hc:chkL f.v.1 f.v.2.1 with
 | false=>exact⟨path,rfl⟩
 | true=>
  have hok:=ZDS.1 hc;rw[if_pos rfl];have hl:=ZJu path;have e:=ZPO path;generalize spl path=r at*
  have e2:(Option.bind (some true) fun r_=>if(!r_)=true then(ZBE path 2).bind fun r_1=>some (plZ,r_1) else(ZBm path).bind fun r_2=>if(r_2.2.2 !=0)=true then(ZBE path r_2.2.2).bind fun r_3=>some (plZ,r_3) else(ZG8 (Rec.mk (f,fol,r_2.1,(Rec.mk (0,(str []),0,r_2.2.1,()):ZAU),0,0,()):ZAr) 1).bind fun r_4=>(loop ZCE (plZ,r_4)).bind (ZCh path))=if(r.2.2 !=0)=true then(ZBE path r.2.2).bind fun r_3=>some (plZ,r_3) else(loop ZCE (plZ,(ZHm r).w f fol)).bind (ZCh path):=bds e
  by_cases h1:r.2.2=0
  ·rw[if_neg (by simp[h1])] at e2
   rw[if_neg (fun h=>h h1:¬r.2.2≠0)]
   have hi:=ZNJ hok hl;obtain⟨s,q1,q2⟩:=ZUu hok fol 10000 (ZHm r) hi (by
    show r.1.length+1001*(8 - 0)≤10000
    omega)
   generalize hq:runS f fol 10000 (ZHm r)=q at*
   rw[q1] at e2;by_cases h2:q.2=0
   ·rw[if_pos h2] at e2;rw[if_neg (fun h=>h h2:¬q.2≠0)]
    exact⟨path,e2.trans (ZXC hok fol (q2 h2) path)⟩
   rw[if_neg h2] at e2;rw[if_pos (h2:q.2≠0)];exact⟨s,e2⟩
  rw[if_pos (by simp[h1])] at e2
  rw[if_pos (h1:r.2.2≠0)];exact⟨path,e2.trans ((bds (ZSB path r.2.2)).trans rfl)⟩
theorem ZSF {f:FsR} (hs:ZBh f.v.1) (path:List UInt8) (fol:Bool):ZA1 f path fol=some (ZKL f path fol):=by
 obtain⟨s,h⟩:=ZVg hs path fol;unfold ZA1;refine(bds h).trans ?_
 exact bds (ZTP s _)
end Go.Ai.Rab
end
section
set_option maxRecDepth 10000
open Go.Ai.Enc (enc is)
namespace Go.Ai.Rab
def ZIW (f:FsR) (n:Int):Bool:=match posI f.v.1 n with | none=>false | some i=>(inAt f.v.1 i).v.2.1==2
def ZDr (f:FsR) (dir:Int):Nat→Int→Bool→Bool
 | 0,_,v=>v
 | n+1,m,v=>if(v || m==dir || parS f m==0)=true then v || m==dir else ZDr f dir n (parS f m) (v || m==dir)
def ZGQ (f:FsR) (n:Int):Bool:=ZIW f n && chkL f.v.1 f.v.2.1
def ZGR (f:FsR) (n dir:Int):Bool:=if ZGQ f n=true then ZDr f dir (f.v.1.length+1) n false else false
theorem ZKg {f:FsR} (hs:ZBh f.v.1) (n:Int):((if(decide (fndI f.v.1 n<0))=true then some true else((nth f.v.1 (fndI f.v.1 n)).bind fun v2=>some (v2.v.2.1 !=2))).bind fun b=>(if b=true then some true else(ZAw f).bind fun r_1=>some (!r_1)))=some (!ZGQ f n):=by
 rw[ZJp hs];unfold fndI ZGQ ZIW
 cases hp:posI f.v.1 n with
 | none=>rfl
 | some i=>
  show((if(decide ((i:Int)<0))=true then some true else((nth f.v.1 (i:Int)).bind fun v2=>some (v2.v.2.1 !=2))).bind fun b=>(if b=true then some true else(some (chkL f.v.1 f.v.2.1)).bind fun r_1=>some (!r_1)))=some (!((inAt f.v.1 i).v.2.1==2 && chkL f.v.1 f.v.2.1))
  rw[if_neg (by simp),ZD4 (ZBV hp).1]
  show(if((inAt f.v.1 i).v.2.1 !=2)=true then some true else some (!chkL f.v.1 f.v.2.1))=_
  unfold bne
  cases((inAt f.v.1 i).v.2.1==2)<;> cases chkL f.v.1 f.v.2.1<;> rfl
theorem ZJy {f:FsR} (hs:ZBh f.v.1) (dir:Int):∀(d i:Nat) (n:Int) (v:Bool),i+d=f.v.1.length+1→(loop (ZD8 f dir) (n,(i:Int),v)).bind ZFC=some (ZDr f dir d n v)
 | 0,i,n,v,hd=>by
  have hl:=hs.1;have hw:IntKind.i64.wrap ((f.v.1.length:Int)+1)=((f.v.1.length+1:Nat):Int):=by rw[i64w (by omega)];rfl
  have hb:ZD8 f dir (n,(i:Int),v)=some (Sum.inr (Sum.inl v)):=by
   refine(if_neg ?_)
   rw[hw];simp;omega
  rw[ZAT hb];rfl
 | d+1,i,n,v,hd=>by
  have hl:=hs.1;have hw:IntKind.i64.wrap ((f.v.1.length:Int)+1)=((f.v.1.length+1:Nat):Int):=by rw[i64w (by omega)];rfl
  have hb:ZD8 f dir (n,(i:Int),v)=some (if(v || n==dir || parS f n==0)=true then Sum.inr (Sum.inr (v || n==dir)) else Sum.inl (parS f n,((i+1:Nat):Int),v || n==dir)):=by
   refine(if_pos (decide_eq_true (by rw[hw];omega))).trans ?_
   refine(bds (ZJr (f:=f) hs n)).trans ?_
   have e:ZGG n (parS f n) v dir=some (v || n==dir, !(v || n==dir)):=by
    unfold ZGG
    cases v<;> rfl
   refine(bds e).trans ?_
   rw[ZLn i (by omega)]
   show((if(!!(v || n==dir))=true then some true else some (parS f n==0)).bind fun b2=>if b2=true then some (Sum.inr (Sum.inr (v || n==dir))) else some (Sum.inl (parS f n,((i+1:Nat):Int),v || n==dir)))=_
   cases(v || n==dir)<;> cases(parS f n==0)<;> rfl
  have er:ZDr f dir (d+1) n v=if(v || n==dir || parS f n==0)=true then v || n==dir else ZDr f dir d (parS f n) (v || n==dir):=rfl
  rw[er];by_cases h:(v || n==dir || parS f n==0)=true
  ·rw[if_pos h] at hb ⊢;rw[ZAT hb];rfl
  rw[if_neg h] at hb ⊢;rw[ZAc hb];exact ZJy hs dir d (i+1) _ _ (by omega)
theorem ZNK {f:FsR} (hs:ZBh f.v.1) (n dir:Int):ZBT f n dir=some (ZGR f n dir):=by
 unfold ZBT ZLH;have hl:=hs.1;have e:((ZA6 f n).bind fun r_=>((if(decide (r_<0)) then some true else((nth f.v.1 r_).bind fun v2=>some (v2.v.2.1 !=2))).bind fun b=>((if b then some true else((ZAw f).bind fun r_1=>some (!r_1))).bind fun b1=>(if b1 then some false else((loop (ZD8 f dir) (n,0,false)).bind (ZFC))))))=some (ZGR f n dir):=by
  refine(bds (ZJm (f:=f) (by omega) n)).trans ?_
  have c:=ZKg hs n;obtain⟨b,hb,c⟩:=bs c;refine(bds hb).trans ((bds c).trans ?_)
  unfold ZGR
  cases ZGQ f n with
  | false=>rfl
  | true=>exact ZJy hs dir (f.v.1.length+1) 0 n false (by omega)
 rw[e];rfl
/-! ### Paths -/
def idx:List Int→Int→Nat
 | [],_=>0
 | y::l,x=>if x=y then 0 else idx l x+1
theorem ZPV:∀{l:List Int} {x:Int},x∈l→idx l x<l.length∧l.getD (idx l x) 0=x
 | y::l,x,h=>by
  unfold idx;by_cases e:x=y
  ·rw[if_pos e];exact⟨by simp,e.symm⟩
  rw[if_neg e];have:=ZPV ((List.mem_cons.1 h).resolve_left e)
  exact⟨by simp only[List.length_cons];omega,this.2⟩
theorem ZPW (l0:List Int) (x:Int) (hl:l0.length≤1000000):∀(l:List Int) (i:Nat),l0.drop i=l→x∈l→(loop (ZHd l0 x) (i:Int)).bind ZHe=some ((i+idx l x:Nat):Int)
 | y::l,i,hd,h=>by
  have hi:i<l0.length:=by
   have:=congrArg List.length hd
   simp only[List.length_drop,List.length_cons] at this;omega
  rw[List.drop_eq_getElem_cons hi] at hd;injection hd with h1 h2
  have hn:nth l0 (i:Int)=some y:=by rw[ZBo hi,h1]
  have hb:ZHd l0 x (i:Int)=some (if x=y then Sum.inr (Sum.inr (i:Int)) else Sum.inl ((i+1:Nat):Int)):=by
   refine(if_pos (decide_eq_true (by omega))).trans ((bds hn).trans ?_)
   rw[ZLn i (by omega)]
   by_cases e:x=y
   ·rw[if_pos e,if_pos (by simp[e])]
   rw[if_neg e,if_neg (by simp[e])]
  unfold idx;by_cases e:x=y
  ·rw[if_pos e] at hb ⊢;rw[ZAT hb];rfl
  rw[if_neg e] at hb ⊢;rw[ZAc hb];refine(ZPW l0 x hl l (i+1) h2 ((List.mem_cons.1 h).resolve_left e)).trans ?_
  congr 2;omega
theorem ZSG {l:List Int} {x:Int} (hl:l.length≤1000000) (h:x∈l):ZJd l x=some ((idx l x:Nat):Int):=by
 have:=ZPW l x hl l 0 rfl h
 rw[Nat.zero_add] at this;exact this
def ZIB (f:FsR) (a n:Int):Str:=(ZA7 f a).v.2.2.2.2.2.2.1.getD (idx (ZA7 f a).v.2.2.2.2.2.2.2.1 n) (str [])
def ZIC (f:FsR):Nat→Int→Int→List Str→Int×List Str
 | 0,_,v,l=>(v,l)
 | d+1,n,_,l=>if parS f n=0 then(n,l) else ZIC f d (parS f n) n (ZIB f (parS f n) n::l)
def jn (l:List (List UInt8)):List UInt8:=if l.length=0 then[47] else strA l
def ZLp (f:FsR) (n:Int):List UInt8:=if ZGQ f n=true then(if(ZIC f (f.v.1.length+1) n 0 []).1≠1 then[] else jn (ZIC f (f.v.1.length+1) n 0 []).2) else[]
theorem ZJz {f:FsR} (hok:Ok f.v.1 f.v.2.1) {n:Int} (h:parS f n≠0):has f (parS f n)∧(ZA7 f (parS f n)).v.2.1=2∧n∈(ZA7 f (parS f n)).v.2.2.2.2.2.2.2.1:=by
 have hp:=(ZJx hok n).resolve_left h;refine⟨hp,?_⟩
 unfold parS at h;have key:∃q,upsL f.v.1 n=parS f n::q:=by
  unfold parS
  cases he:(dirS f n).2.c with
  | some e=>rw[he] at h;exact absurd rfl h
  | none=>
   rw[he] at h
   cases hu:upsL f.v.1 n with
   | nil=>rw[hu] at h;exact absurd rfl h
   | cons p q=>exact⟨q,rfl⟩
 obtain⟨q,hq⟩:=key;have hm:parS f n∈upsL f.v.1 n:=by rw[hq];exact List.mem_cons_self
 obtain⟨y,hy,e,hn⟩:=ZGg.1 hm;have hx:=ZDq hp;have:ZA7 f (parS f n)=y:=ZHG hok.so hx.1 hy (by rw[hx.2,e])
 rw[this];refine⟨?_,hn⟩
 have ha:=hok.al y hy;unfold ZC1 at ha;simp only[Bool.and_eq_true] at ha;by_cases hk:y.v.2.1=2
 ·exact hk
 exfalso
 have h5:=ha.2.2.2;rw[if_pos (by simpa using hk)] at h5
 have h6:=of_decide_eq_true h5;rw[List.eq_nil_of_length_eq_zero h6.2] at hn
 cases hn
theorem ZOW {f:FsR} (hok:Ok f.v.1 f.v.2.1) {n:Int} (h:parS f n≠0):nth (ZA7 f (parS f n)).v.2.2.2.2.2.2.1 ((idx (ZA7 f (parS f n)).v.2.2.2.2.2.2.2.1 n:Nat):Int)=some (ZIB f (parS f n) n)∧ZIB f (parS f n) n∈(ZA7 f (parS f n)).v.2.2.2.2.2.2.1∧chkS (ZIB f (parS f n) n)=0:=by
 obtain⟨h1,h2,h3⟩:=ZJz hok h;obtain⟨d1,d2,d3,d4,d5⟩:=ZEQ (hok.al _ (ZDq h1).1) h2;have h4:=ZPV h3;unfold ZIB;have h5:idx (ZA7 f (parS f n)).v.2.2.2.2.2.2.2.1 n<(ZA7 f (parS f n)).v.2.2.2.2.2.2.1.length:=by omega
 have hm:(ZA7 f (parS f n)).v.2.2.2.2.2.2.1.getD (idx (ZA7 f (parS f n)).v.2.2.2.2.2.2.2.1 n) (str [])∈(ZA7 f (parS f n)).v.2.2.2.2.2.2.1:=by
  simp only[List.getD_eq_getElem?_getD,List.getElem?_eq_getElem h5,Option.getD_some];exact List.getElem_mem h5
 exact⟨nthD (str []) h5,hm,ZOK d1 _ hm⟩
theorem ZQL {f:FsR} (hok:Ok f.v.1 f.v.2.1) (n v:Int) {l:List Str} (hl:l.length≤1000000):ZJf n (parS f n) v f l=some (n,if parS f n=0 then l else ZIB f (parS f n) n::l,true):=by
 unfold ZJf;by_cases h:parS f n=0
 ·rw[if_pos h];exact if_neg (by simp[h])
 rw[if_neg h];obtain⟨h1,h2,h3⟩:=ZJz hok h;obtain⟨a1,a2,a3⟩:=ZOW hok h;have hp:=ZFk hok h1;have hl2:=hok.len;refine(if_pos (decide_eq_true (by omega))).trans ((bds (ZJm (f:=f) (by omega) _)).trans ?_)
 obtain⟨i,hi⟩:=h1;have hn:nth f.v.1 (fndI f.v.1 (parS f n))=some (ZA7 f (parS f n)):=by
  unfold fndI ZA7;rw[hi];exact ZD4 (ZBV hi).1
 have hx:=hok.nums _ (ZDq ⟨i,hi⟩).1;refine(bds hn).trans ((bds (ZSG (by omega) h3)).trans ((bds a1).trans ?_))
 have hi2:ZFB l 0 [ZIB f (parS f n) n]=some (ZIB f (parS f n) n::l):=by
  unfold ZFB ins ZES;have hlen:l.length+[ZIB f (parS f n) n].length=l.length+1:=by simp
  rw[hlen];refine(if_pos ⟨by omega,by omega,by simp;omega⟩).trans ?_
  rfl
 exact bds hi2
theorem ZNL {f:FsR} (hok:Ok f.v.1 f.v.2.1):∀(d i:Nat) (n v:Int) (l:List Str),i+d=f.v.1.length+1→l.length≤i→(∀s∈l,List.length s≤100)→(loop (ZDG f f) (n,(i:Int),v,l)).bind ZD9=some (ZIC f d n v l)∧(ZIC f d n v l).2.length≤f.v.1.length+1∧∀s∈(ZIC f d n v l).2,List.length s≤100
 | 0,i,n,v,l,hd,h1,h2=>by
  have hl:=hok.len;have hw:IntKind.i64.wrap ((f.v.1.length:Int)+1)=((f.v.1.length+1:Nat):Int):=by rw[i64w (by omega)];rfl
  have hb:ZDG f f (n,(i:Int),v,l)=some (Sum.inr (Sum.inl (v,l))):=by
   refine(if_neg ?_)
   rw[hw];simp;omega
  rw[ZAT hb];exact⟨rfl,show l.length≤_ by omega,h2⟩
 | d+1,i,n,v,l,hd,h1,h2=>by
  have hl:=hok.len;have hw:IntKind.i64.wrap ((f.v.1.length:Int)+1)=((f.v.1.length+1:Nat):Int):=by rw[i64w (by omega)];rfl
  have hb:ZDG f f (n,(i:Int),v,l)=some (if parS f n=0 then Sum.inr (Sum.inr (n,l)) else Sum.inl (parS f n,((i+1:Nat):Int),n,ZIB f (parS f n) n::l)):=by
   refine(if_pos (decide_eq_true (by rw[hw];omega))).trans ?_
   refine(bds (ZJr (f:=f) hok.small n)).trans ((bds (ZQL hok n v (by omega))).trans ?_)
   rw[ZLn i (by omega)]
   by_cases h:parS f n=0
   ·rw[if_pos h,if_pos h,h];rfl
   rw[if_neg h,if_neg h];show(if(parS f n==0)=true then _ else _)=_
   rw[if_neg (by simpa using h)]
  have er:ZIC f (d+1) n v l=if parS f n=0 then(n,l) else ZIC f d (parS f n) n (ZIB f (parS f n) n::l):=rfl
  rw[er];by_cases h:parS f n=0
  ·rw[if_pos h] at hb ⊢;rw[ZAT hb];exact⟨rfl,show l.length≤_ by omega,h2⟩
  rw[if_neg h] at hb ⊢;rw[ZAc hb];refine ZNL hok d (i+1) _ _ _ (by omega) (by simp;omega) fun s hs=> ?_
  rcases List.mem_cons.1 hs with e | hs
  ·rw[e];exact ZIf (ZOW hok h).2.2
  exact h2 s hs
theorem ZXD (x:List UInt8) (r:List (List UInt8)):Go.Lib.join (x::r) [47]=x++strA r:=Go.Lib.join_cons x r [47]
theorem ZLq:∀(l:List (List UInt8)),(∀s∈l,List.length s≤100)→(strA l).length≤101*l.length
 | [],_=>Nat.zero_le _
 | x::l,h=>by
  have h1:=h x List.mem_cons_self;have h2:=ZLq l fun s hs=>h s (List.mem_cons_of_mem _ hs)
  rw[ZNI];simp only[List.length_append,List.length_cons];omega
theorem ZTR {l:List Str} {q:Str} (hj:Go.Lib.join l (str [47])=q) (h1:l≠[]) (h2:l.length≤10000) (h3:List.length q≤1000000):strings_Join l (str [47])=some q:=by
 unfold strings_Join;subst hj;exact if_pos ⟨h1,by omega,by
  have:(Go.Lib.join l (str [47])).length≤1000000:=h3
  omega⟩
theorem ZVh {l:List (List UInt8)} (h:∀s∈l,List.length s≤100) (hl:l.length≤5000):ZDa l=some (jn l):=by
 unfold ZDa jn
 cases l with
 | nil=>rfl
 | cons x r=>
  have h1:=ZLq (x::r) h
  rw[ZNI] at h1;simp only[List.length_append,List.length_cons] at h1 hl;have e:strings_Join (x::r) (str [47])=some (x++strA r):=ZTR (l:=x::r) (q:=x++strA r) (ZXD x r) (by simp) (show r.length+1≤10000 by omega) (show(x++strA r).length≤1000000 by
   rw[List.length_append];omega)
  refine(if_neg (show ¬(((x::r:List Str).length:Int)==0)=true by rw[lenB];simp)).trans ((bds e).trans ?_)
  refine(bds (ZJv (a:=[47]) (b:=x++strA r) (by simp;omega))).trans ?_
  rfl
theorem ZSH {f:FsR} (hs:ZBh f.v.1) (n:Int):ZCF f n=some (ZLp f n):=by
 unfold ZCF ZLI;have hl:=hs.1;have e:((ZA6 f n).bind fun r_=>((if(decide (r_<0)) then some true else((nth f.v.1 r_).bind fun v3=>some (v3.v.2.1 !=2))).bind fun b=>((if b then some true else((ZAw f).bind fun r_1=>some (!r_1))).bind fun b1=>(if b1 then some ((0:Int),([]:List Str)) else((loop (ZDG f f) (n,0,0,[])).bind (ZD9))))))=if ZGQ f n=true then(loop (ZDG f f) (n,0,0,[])).bind ZD9 else some ((0:Int),([]:List Str)):=by
  refine(bds (ZJm (f:=f) (by omega) n)).trans ?_
  have c:=ZKg hs n;obtain⟨b,hb,c⟩:=bs c;refine(bds hb).trans ((bds c).trans ?_)
  cases ZGQ f n<;> rfl
 rw[e];unfold ZLp;by_cases h:ZGQ f n=true
 ·rw[if_pos h,if_pos h];have hok:Ok f.v.1 f.v.2.1:=by
   unfold ZGQ at h;simp only[Bool.and_eq_true] at h;exact ZDS.1 h.2
  obtain⟨q1,q2,q3⟩:=ZNL hok (f.v.1.length+1) 0 n 0 [] (by omega) (by simp) (by simp)
  refine(bds q1).trans ?_
  generalize ZIC f (f.v.1.length+1) n 0 []=r at*
  have h5:=hok.len;by_cases h1:r.1=1
  ·rw[if_neg (by simp[h1]),if_neg (fun hh=>hh h1:¬r.1≠1)]
   exact(bds (ZVh q3 (show List.length (α:=Str) r.2≤5000 by omega)))
  rw[if_pos (by simpa using h1),if_pos (h1:r.1≠1)]
  rfl
 rw[if_neg h,if_neg h];rfl
end Go.Ai.Rab
end
section
set_option maxRecDepth 100000
open Go.Ai.Enc (enc is)
namespace Go.Ai.Rab
def fsH:FsR:=(Rec.mk ([(Rec.mk (1,2,(0:Int),1,([]:(List UInt8)),(str []),[(str [97]),(str [98])],[2,4],([]:(List ZAi)),()):ZAO),(Rec.mk (2,2,(0:Int),1,([]:(List UInt8)),(str []),[(str [108])],[3],([]:(List ZAi)),()):ZAO),(Rec.mk (3,3,(0:Int),1,([]:(List UInt8)),(str [46,46]),([]:(List Str)),([]:(List Int)),([]:(List ZAi)),()):ZAO),(Rec.mk (4,1,(0:Int),1,([]:(List UInt8)),(str []),([]:(List Str)),([]:(List Int)),([]:(List ZAi)),()):ZAO)],2,()):FsR)
theorem cH:chkL fsH.v.1 fsH.v.2.1=true:=by kernel_rfl
theorem sH:ZBh fsH.v.1:=ZR4 cH
theorem hW1:ZKL fsH (str [47,97,47,108,47,97]) true=(Rec.mk (1,str [97],2,false,()),0):=by kernel_rfl
theorem hW2:ZKL fsH (str [47,97,47,108]) false=(Rec.mk (2,str [108],3,false,()),0):=by kernel_rfl
theorem hW3:ZKL fsH (str [47,98,47,120]) true=(plZ,203):=by kernel_rfl
theorem hW4:ZKL fsH (str [47,97,47,110,101,119]) true=(Rec.mk (2,str [110,101,119],0,false,()),0):=by kernel_rfl
theorem hW5:ZKL fsH (str [47,98,47]) true=(plZ,203):=by kernel_rfl
theorem hW6:ZKL fsH (str [47,46,46]) true=(Rec.mk (1,str [],1,false,()),0):=by kernel_rfl
theorem hW7:ZGR fsH 2 1=true:=by kernel_rfl
theorem hW8:ZLp fsH 2=str [47,97]:=by kernel_rfl
theorem ZPX:ZCY=some true:=by
 have hW:∀{p:List UInt8} {b:Bool} {r:ZAU×Int},ZKL fsH p b=r→ZA1 fsH p b=some r:=fun h=>(ZSF sH _ _).trans (congrArg some h)
 have e0:ZCY=_:=bds (x:=fsH) rfl
 have e0:=e0.trans (bds (hW hW1));have e0:=e0.trans (bds (x:=fsH) rfl);have e0:=e0.trans (bds (hW hW2));have e0:=e0.trans (bds (x:=fsH) rfl);have e0:=e0.trans (bds (hW hW3));have e0:=e0.trans (bds (x:=fsH) rfl);have e0:=e0.trans (bds (hW hW4));have e0:=e0.trans (bds (x:=fsH) rfl);have e0:=e0.trans (bds (hW hW5));have e0:=e0.trans (bds (x:=fsH) rfl);have e0:=e0.trans (bds (hW hW6));refine e0.trans ?_
 show((ZBT fsH 2 1).bind fun r_15=>some r_15).bind _=_
 rw[ZNK sH,hW7];show((ZCF fsH 2).bind fun r_17=>some (eqS r_17 (str [47,97]))).bind _=_
 rw[ZSH sH,hW8];rfl
end Go.Ai.Rab
end
section
set_option maxRecDepth 10000
open Go.Ai.Enc (enc is)
namespace Go.Ai.Rab
theorem ZSI {f:FsR} (hok:Ok f.v.1 f.v.2.1) {x:ZAO} (hx:x∈f.v.1) (hk:x.v.2.1=2):dirS f x.v.1=(x,Err.mk none):=by
 obtain⟨i,p1,p2,p3⟩:=ZR9 hok.so hx;unfold dirS;rw[if_pos (ZDS.2 hok),p1];simp only[p3];rw[if_neg (by simp[hk])]
/-! ### What a path is split into -/
/-! ### The steps -/
def ZTS (f:FsR) (n:Int):Prop:=has f n∧(ZA7 f n).v.2.1=2
theorem ZPY {f:FsR} {n:Int} (h:ZIW f n=true):ZTS f n:=by
 unfold ZIW at h
 cases hp:posI f.v.1 n with
 | none=>rw[hp] at h;cases h
 | some i=>
  rw[hp] at h;refine⟨⟨i,hp⟩,?_⟩
  unfold ZA7;rw[hp];simpa using h
theorem ZPZ {f:FsR} (hok:Ok f.v.1 f.v.2.1):parS f 1=0:=by
 rcases Int.lt_trichotomy (parS f 1) 0 with h | h | h
 ·rcases ZJx hok 1 with h0 | h0
  ·omega
  have:=ZFk hok h0;omega
 ·exact h
 exfalso
 obtain⟨h1,h2,h3⟩:=ZJz hok (n:=1) (by omega)
 obtain⟨z,hz,e1,e2⟩:=hok.root;have hd:=(hok.dir hz e2).2.1;rw[e1] at hd;apply hd
 refine⟨?_,rfl⟩
 have:parS f 1∈upsL f.v.1 1:=ZGg.2 ⟨_,(ZDq h1).1,(ZDq h1).2.symm,h3⟩
 exact List.length_pos_of_mem this
end Go.Ai.Rab
end
section
set_option maxRecDepth 10000
open Go.Ai.Enc (enc is)
namespace Go.Ai.Rab
theorem ZVi (f:FsR) (fol:Bool) (m:Nat) (d:Int) (s:Str) (n:Int) (b:Bool) (h:Int) (k:Nat):runS f fol m ⟨[],d,s,n,b,h,k⟩=(⟨[],d,s,n,b,h,k⟩,0):=by cases m<;> rfl
end Go.Ai.Rab
end
