/- My own texts DevRr0, DevPp8, DevPp9, DevPpE, DevPpS, DevPpT, one behind the other. -/
import Derived.Test.YtcffjblfdjkcbaaGreatDoorCards
import Derived.Test.YtcffjblfdjkcbaaGreatDoorTie
import Derived.Test.YtcffjblfdjkcbaaGreatDoorWAO
import Derived.Test.YtcffjblfdjkcbaaGreatDoorWAC
import Derived.Test.YtcffjblfdjkcbaaGreatDoorWAF
import Derived.Lib.LaidU8T
import Derived.LaidHandle
import Derived.WalkKit
import Derived.ProofKit
import Derived.OpenShut
import Derived.Deep.DeepHandedRow
import Derived.Lay
import Derived.MakeChecks
import Derived.ChangeArms
import Derived.Shelf.Vars
import Derived.ChangeSlices
set_option linter.unusedVariables false
set_option linter.unusedSimpArgs false
section
open Go.Ai.Flds (fe fi fk)
namespace Go.Ai.Rab
open Go.Proofs Go.Lib Go.Proofs.YtcffjblfdjkcbaaGreatDoor
set_option maxRecDepth 100000
/-! ### What arguments read aS -/
def RdP (T:Type) [Enc T] (bk:T→Nat) (t:TypeId):Prop:=∀{H:Type} (en:TypeId×Value→H) (W:World) (fuel:Nat) (cs:List Value) (x:DataW H×List MemPlace),
 DataW.trod en Tryz.prog W 0 (fun _=>true) true fuel t cs=some x→∃(a:T) (v:Value),cs=v.cells.toList∧Rel W ρ0 ZE5 0 (Enc.enc a) v∧bk a≤Rows.uptoBulk x.1∧(Enc.k T=0→cs=[v])
def RdF (A:Type) [Flds A] (bk:A→Nat) (fl:List Field) (o:Nat):Prop:=∀{H:Type} (en:TypeId×Value→H) (W:World) (n:Nat) (cs:List Value) (xs:List (DataW H×List MemPlace)),xs.length=fl.length→
 (∀(i:Nat) (f:Field),fl[i]? =some f→DataW.trod en Tryz.prog W 0 (fun _=>true) true n f.type ((cs.drop f.offset).take (Tryz.prog.cellsOf f.type))=xs[i]?)→cs.length=o+fl.length→
 ∃a:A,RelL W ρ0 ZE5 0 (fe a) (cs.drop o)∧bk a≤Rows.uptoBulkAll (xs.map (·.1))
def one {T:Type} (_:T):Nat:=1
def bkS (s:Str):Nat:=List.length s+1
def bkL {T:Type} (bk:T→Nat) (l:List T):Nat:=(l.map bk).sum+1
def bkP {A B:Type} (b1:A→Nat) (b2:B→Nat) (a:A×B):Nat:=b1 a.1+b2 a.2
def bkR {A:Type} (b:A→Nat) (r:Rec A):Nat:=b r.v+1
theorem ZJU {t:TypeId} (hu:Tryz.prog.underlying t=some (.int .i64)):RdP Int one t:=fun en W fuel cs x h=>by
 obtain⟨n,rfl,rfl,hw⟩:=DataW.trod_int hu h;exact⟨n, .int .i64 n,rfl,ZG4,Nat.le_refl _,fun _=>rfl⟩
theorem ZS3 {t:TypeId} (hu:Tryz.prog.underlying t=some (.int .u8)):RdP UInt8 one t:=fun en W fuel cs x h=>by
 obtain⟨n,rfl,rfl,hw⟩:=DataW.trod_int hu h;have hw:=Go.bounds_u8 hw;refine⟨UInt8.ofInt n, .int .u8 n,rfl,?_,Nat.le_refl _,fun _=>rfl⟩
 have e:((UInt8.ofInt n).toNat:Int)=n:=by
  have:(UInt8.ofInt n).toNat=n.toNat:=by
   obtain⟨m,rfl⟩:∃m:Nat,n=m:=⟨n.toNat,by omega⟩
   simp[UInt8.ofInt]
   omega
  omega
 show Rel _ _ _ _ (.int .u8 ((UInt8.ofInt n).toNat:Int)) _
 rw[e];exact ZG4
theorem ZPh {t:TypeId} (hu:Tryz.prog.underlying t=some .string):RdP Str bkS t:=fun en W fuel cs x h=>by
 obtain⟨s,rfl,rfl,hw⟩:=DataW.trod_string hu h;exact⟨s.data.toList, .string s,rfl,ZOI,Nat.le_refl _,fun _=>rfl⟩
theorem ZSD (a:Addr) (x y:Nat):(a.add x).add y=a.add (x+y):=by
 cases a;by_cases hx:x=0
 ·subst hx;simp[Addr.add]
 by_cases hy:y=0
 ·subst hy;simp[Addr.add]
 simp[Addr.add,hx,hy,Nat.add_assoc]
theorem ZHP {T:Type} [Enc T] {bk:T→Nat} {t e:TypeId} (hu:Tryz.prog.underlying t=some (.slice e)) (hc:Tryz.prog.cellsOf e=esz (Enc.k T)) (he:RdP T bk e):RdP (List T) (bkL bk) t:=fun {H} en W fuel cs x h=>by
 rcases DataW.trod_slice hu h with⟨rfl,rfl⟩ | ⟨a,len,cap,elems,rest,n,_,rfl,rfl,hb,hl,hm,hlen,hel,_,_⟩
 ·refine⟨[], .slice none 0 0,rfl,?_,Nat.le_refl _,fun _=>rfl⟩
  show Rel _ _ _ _ (.emp false) _
  simp only[Rel];exact⟨none,0,rfl,fun _=>rfl,fun _=>rfl⟩
 have key:∀(d i:Nat),i+d=len→∃(l:List T) (us:List Value),l.length=d∧(l.map bk).sum≤Rows.uptoBulkAll ((elems.drop i).map (·.1))∧us.length=d*esz (Enc.k T)∧RelC W ρ0 ZE5 0 (Enc.k T) (l.map Enc.enc) us∧∀j,j<d*esz (Enc.k T)→W.cell? (a.add (i*esz (Enc.k T)+j))=us[j]? :=by
  intro d;induction d with
  | zero=>intro i hi;exact⟨[],[],rfl,Nat.zero_le _,by simp,by simp[RelC],fun j hj=>by simp at hj⟩
  | succ d ih=>
   intro i hi;obtain⟨l,us,l1,l2,l3,l4,l5⟩:=ih (i+1) (by omega)
   have hi' :i<elems.length:=by omega
   have h1:=hel i (by omega)
   rw[List.getElem?_eq_getElem hi',hc,Option.bind_eq_some_iff] at h1;obtain⟨cs1,g1,g2⟩:=h1;obtain⟨_,g3,g4⟩:=World.cells?_some g1;obtain⟨b,v,k1,k2,k3,k4⟩:=he en W n cs1 _ g2;refine⟨b::l,cs1++us,by simp[l1],?_,by simp[l3,g3,Nat.succ_mul,Nat.add_comm],?_,fun j hj=> ?_⟩
   ·rw[List.drop_eq_getElem_cons hi'];simp only[List.map_cons,List.sum_cons,Rows.uptoBulkAll];omega
   ·simp only[List.map_cons,RelC];exact⟨v,us,by rw[k1],Enc.el (Enc.self b),k2,l4⟩
   by_cases hj2:j<esz (Enc.k T)
   ·rw[List.getElem?_append_left (by omega),←g4 j hj2,ZSD]
   rw[List.getElem?_append_right (by omega),g3,←l5 (j - esz (Enc.k T)) (by rw[Nat.succ_mul] at hj;omega)]
   congr 2
   rw[Nat.succ_mul];omega
 obtain⟨l,us,l1,l2,l3,l4,l5⟩:=key len 0 (by omega)
 refine⟨l, .slice (some a) len cap,rfl,?_,?_,fun _=>rfl⟩
 ·cases l with
  | nil=>
   show Rel _ _ _ _ (.emp false) _
   simp only[Rel];exact⟨some a,cap,by rw[←l1];rfl,fun e=>(by cases e),fun e=>(by cases e)⟩
  | cons b l=>
   show Rel _ _ _ _ (.vec (Enc.k T) ((b::l).map Enc.enc) .unk) _
   simp only[Rel];refine⟨a,cap,us,by rw[List.length_map,l1],by rw[List.length_map,l1];exact hl,l4,fun j u hj=>⟨?_,fun h=>h.elim⟩,by simp[CapOk]⟩
   have hj' :=(List.getElem?_eq_some_iff.1 hj).1
   have:=l5 j (by omega)
   rw[Nat.zero_mul,Nat.zero_add] at this;rw[this,hj]
 rw[List.drop_zero] at l2;simp only[bkL,Rows.uptoBulk];omega
theorem ZMP {o:Nat}:RdF Unit (fun _=>0) [] o:=fun en W n cs xs h1 h2 h3=>by
 refine⟨(),?_,Nat.zero_le _⟩
 rw[List.drop_of_length_le (by simp at h3;omega)]
 exact ZGU
theorem ZB0 {T A:Type} [Enc T] [Enc0 T] [Flds A] {b1:T→Nat} {b2:A→Nat} {f:Field} {fl:List Field} {o:Nat} (ho:f.offset=o) (hc:Tryz.prog.cellsOf f.type=1) (h:RdP T b1 f.type) (k:RdF A b2 fl (o+1)):RdF (T×A) (bkP b1 b2) (f::fl) o:=fun en W n cs xs h1 h2 h3=>by
 obtain⟨x,xs,rfl⟩:∃x ys,xs=x::ys:=by
  cases xs with
  | nil=>simp at h1
  | cons x ys=>exact⟨x,ys,rfl⟩
 have e0:=h2 0 f rfl;simp only[List.length_cons] at h3 h1;have hlt:o<cs.length:=by omega
 rw[ho,hc] at e0;have e1:(cs.drop o).take 1=[cs[o]]:=by rw[List.drop_eq_getElem_cons hlt];rfl
 rw[e1] at e0;obtain⟨a,v,k1,k2,k3,k4⟩:=h en W n _ _ e0;have k4:=k4 Enc0.k0;injection k4 with k4 _
 obtain⟨b,q1,q2⟩:=k en W n cs xs (by omega) (fun i g hg=>h2 (i+1) g hg) (by omega)
 refine⟨(a,b),?_,?_⟩
 ·rw[List.drop_eq_getElem_cons hlt,k4];exact ZB3 k2 q1
 simp only[bkP,List.map_cons,Rows.uptoBulkAll];omega
theorem ZPi {T A:Type} [Enc T] [Enc0 T] [Flds A] {bk:T×A→Nat} {t:TypeId} {fs:Array Field} (hu:Tryz.prog.underlying t=some (.struct fs)) (hc:Tryz.prog.cellsOf t=fs.size) (h:RdF (T×A) bk fs.toList 0):RdP (Rec (T×A)) (bkR bk) t:=fun en W fuel cs x hx=>by
 obtain⟨xs,n,_,rfl,h1,h2,h3⟩:=DataW.trod_struct hu hx;obtain⟨a,q1,q2⟩:=h en W n cs xs (by simpa using h2) (fun i f hf=>h3 i f (by simpa using hf)) (by rw[h1,hc];simp)
 refine⟨Rec.mk a, .agg cs.toArray,by simp[Value.cells],?_,?_,fun e=>by cases e⟩
 ·show Rel _ _ _ _ (.agg (fe a)) _
  simp only[Rel];exact⟨cs,rfl,q1⟩
 simp only[bkR,Rows.uptoBulk];omega
abbrev bkA:ZAd→Nat:=bkR (bkP bkS (bkP (bkL one) (fun _=>0)))
abbrev bkI:ZAD→Nat:=bkR (bkP one (bkP one (bkP one (bkP one (bkP (bkL one) (bkP bkS (bkP (bkL bkS) (bkP (bkL one) (bkP (bkL bkA) (fun _=>0))))))))))
abbrev bkF:FsR→Nat:=bkR (bkP (bkL bkI) (bkP one (fun _=>0)))
theorem rdA:RdP ZAd bkA 89:=ZPi Tryz.underlying89 (by kernel_rfl) (ZB0 rfl (by kernel_rfl) (ZPh Tryz.underlying9) (ZB0 rfl (by kernel_rfl) (ZHP Tryz.underlying33 (by kernel_rfl) (ZS3 Tryz.underlying5)) ZMP))
theorem rdI:RdP ZAD bkI 38:=ZPi Tryz.underlying38 (by kernel_rfl) (ZB0 rfl (by kernel_rfl) (ZJU Tryz.underlying3) (ZB0 rfl (by kernel_rfl) (ZJU Tryz.underlying25) (ZB0 rfl (by kernel_rfl) (ZJU Tryz.underlying3) (ZB0 rfl (by kernel_rfl) (ZJU Tryz.underlying3)
 (ZB0 rfl (by kernel_rfl) (ZHP Tryz.underlying33 (by kernel_rfl) (ZS3 Tryz.underlying5)) (ZB0 rfl (by kernel_rfl) (ZPh Tryz.underlying9) (ZB0 rfl (by kernel_rfl) (ZHP Tryz.underlying34 (by kernel_rfl) (ZPh Tryz.underlying9)) (ZB0 rfl (by kernel_rfl) (ZHP Tryz.underlying35 (by kernel_rfl) (ZJU Tryz.underlying3))
 (ZB0 rfl (by kernel_rfl) (ZHP Tryz.underlying36 (by kernel_rfl) rdA) ZMP)))))))))
theorem rdFs:RdP FsR bkF 24:=ZPi Tryz.underlying24 (by kernel_rfl) (ZB0 rfl (by kernel_rfl) (ZHP Tryz.underlying22 (by kernel_rfl) rdI) (ZB0 rfl (by kernel_rfl) (ZJU Tryz.underlying3) ZMP))
theorem ZHQ {T:Type} {bk:T→Nat} (h:∀a,1≤bk a):∀l:List T,l.length≤bkL bk l
 | []=>Nat.zero_le _
 | a::l=>by
  have h1:=ZHQ h l;have h2:=h a;simp only[bkL,List.map_cons,List.sum_cons,List.length_cons] at h1 ⊢;omega
theorem ZPj {T:Type} {bk:T→Nat}:∀{l:List T} {a:T},a∈l→bk a≤bkL bk l
 | b::l,a,h=>by
  simp only[bkL,List.map_cons,List.sum_cons];rcases List.mem_cons.1 h with rfl | h
  ·omega
  have:=ZPj (bk:=bk) h
  simp only[bkL] at this;omega
theorem ZLf {x:ZAD} (h:bkI x≤1048576):ZDP x:=by
 have h1:=ZHQ (bk:=one) (fun a=>Nat.le_refl _) x.v.2.2.2.2.1
 have h2:=ZHQ (bk:=bkS) (fun a=>Nat.succ_le_succ (Nat.zero_le _)) x.v.2.2.2.2.2.2.1
 have h3:=ZHQ (bk:=one) (fun a=>Nat.le_refl _) x.v.2.2.2.2.2.2.2.1
 have h4:=ZHQ (bk:=bkA) (fun a=>Nat.succ_le_succ (Nat.zero_le _)) x.v.2.2.2.2.2.2.2.2.1
 simp only[bkI,bkR,bkP] at h;exact⟨by omega,by omega,by omega,by omega⟩
theorem ZPk {f:FsR} (h:bkF f≤1048576):ZDQ f.v.1:=by
 have h1:=ZHQ (bk:=bkI) (fun a=>Nat.succ_le_succ (Nat.zero_le _)) f.v.1
 simp only[bkF,bkR,bkP] at h;exact⟨by omega,fun x hx=>ZLf (by have:=ZPj (bk:=bkI) hx;omega)⟩
theorem ZM4 {T A:Type} [Enc T] [Enc0 T] [Flds A] {bk:Rec (T×A)→Nat} {t:TypeId} (hr:RdP (Rec (T×A)) bk t) {H:Type} {en:TypeId×Value→H} {W:World} {v:Value} {d:DataW H} {p:List MemPlace} (h2:∀r:Rec (T×A),(fe r.v).length≠1)
  (h:DataW.Trod en Tryz.prog W 0 (fun _=>true) true t v d p):∃r:Rec (T×A),Rel W ρ0 ZE5 0 (Enc.enc r) v∧bk r≤Rows.uptoBulk d:=by
 obtain⟨fuel,hf⟩:=h;obtain⟨r,v',k1,k2,k3,_⟩:=hr en W fuel _ _ hf;refine⟨r,?_,k3⟩
 have k2' :Rel W ρ0 ZE5 0 (.agg (fe r.v)) v' :=k2
 simp only[Rel] at k2';obtain⟨vs,rfl,hl⟩:=k2';have hlen:vs.length≠1:=by
  have:∀(xs:List AV) (us:List Value),RelL W ρ0 ZE5 0 xs us→us.length=xs.length:=by
   intro xs;induction xs with
   | nil=>intro us hu;simp only[RelL] at hu;rw[hu];rfl
   | cons x xs ih=>
    intro us hu;simp only[RelL] at hu;obtain⟨u,us',rfl,_,hu⟩:=hu;simp[ih us' hu]
  rw[this _ _ hl];exact h2 r
 have k1:v.cells.toList=vs:=by rw[k1];simp[Value.cells]
 have:v= .agg vs.toArray:=by
  cases v with
  | agg cs=>
   have k1:cs.toList=vs:=k1
   rw[←k1]
  | _=>(exfalso;apply hlen;rw[←k1];rfl)
 rw[this];exact k2
/-! ### What the listed variables give -/
def laidN:List (String×DataW Unit):=[("unicode/utf8.acceptRanges",Rows.laid_unicode_utf8_acceptRanges),("errors.errorType",Rows.laid_errors_errorType),("unicode/utf8.first",Rows.laid_unicode_utf8_first)]
def laidP:List (String×DataW Unit):=[("unicode/utf8.acceptRanges",Rows.laid_unicode_utf8_acceptRanges),("unicode/utf8.first",Rows.laid_unicode_utf8_first)]
theorem ZNl:(Rows.laid_unicode_utf8_first:DataW Unit)=firstData:=by kernel_rfl
theorem ZMQ:(Rows.laid_unicode_utf8_acceptRanges:DataW Unit)=acceptData:=by kernel_rfl
theorem ZM5 {w:World} {ρ:Pl} {U:Reg} {c:Nat} {k:IntKind}:∀l:List Int,RelL w ρ U c (l.map (.int k)) (l.map (.int k))
 | []=>ZGU
 | n::l=>ZB3 ZG4 (ZM5 l)
theorem ZMR {W:World} {g:Nat} {k:IntKind} {cs:List AV} {l:List Int} (hc:cs=l.map (.int k)) (hp:ZCa cs=true) (h:∀j,j<l.length→W.cell? ⟨g,j,none⟩=some (.int k (l.getD j 0))):
  ZCa cs=true∧∃vs:List Value,RelL W ρ0 ZE5 0 cs vs∧∀j u,vs[j]? =some u→W.cell? ⟨g,j,none⟩=some u∧¬ZE5 g j:=by
 subst hc;refine⟨hp,l.map (.int k),ZM5 l,fun j u hj=>⟨?_,fun h=>h.elim⟩⟩
 rw[List.getElem?_map,Option.map_eq_some_iff] at hj;obtain⟨n,hn,rfl⟩:=hj;rw[h j (List.getElem?_eq_some_iff.1 hn).1,List.getD_eq_getElem?_getD,hn];rfl
def l0:List Int:=(List.range 256).map fun c=>(firstT c:Int)
def l1:List Int:=(List.range 32).map fun c=>if c % 2=0 then(accLo (c / 2):Int) else(accHi (c / 2):Int)
theorem ZTO:tab0=l0.map (.int .u8):=by kernel_rfl
theorem ZTP:tab1=l1.map (.int .u8):=by kernel_rfl
theorem ZTQ {W:World} {mx:Int} (he:W.cell? ⟨0,0,none⟩=some (.iface 168 (.agg #[.pointer (some ⟨4,70,none⟩)]))) (h0:Utf8Tabs 1 2 W) (h2:W.cell? ⟨3,0,none⟩=some (.int .i64 mx)):GlobOk W ρ0 ZE5 0 (NG mx):=by
 intro g cs hg;unfold NG at hg;split at hg
 ·rename_i e;subst e;obtain rfl:=Option.some.inj hg;refine⟨by kernel_rfl,[.iface 168 (.agg #[.pointer (some ⟨4,70,none⟩)])],?_,fun j u hj=> ?_⟩
  ·refine ZB3 ?_ ZGU
   simp only[Rel];refine⟨_,rfl,[.pointer (some ⟨4,70,none⟩)],rfl,ZB3 ?_ ZGU⟩
   simp only[Rel]
  cases j with
  | zero=>simp at hj;subst hj;exact⟨he,fun h=>h.elim⟩
  | succ j=>simp at hj
 split at hg
 ·rename_i e;subst e;obtain rfl:=Option.some.inj hg;refine ZMR ZTO (by kernel_rfl) fun j hj=> ?_
  have hj:j<256:=by simpa[l0] using hj
  rw[h0.1 j hj];simp[l0,hj]
 split at hg
 ·rename_i e;subst e;obtain rfl:=Option.some.inj hg;refine ZMR ZTP (by kernel_rfl) fun j hj=> ?_
  have hj:j<32:=by simpa[l1] using hj
  obtain⟨q1,q2⟩:=h0.2 (j / 2) (by omega)
  by_cases hm:j % 2=0
  ·rw[show 2*(j / 2)=j by omega] at q1
   rw[q1];simp[l1,hj,hm]
  rw[show 2*(j / 2)+1=j by omega] at q2
  rw[q2];simp[l1,hj,hm]
 split at hg
 ·rename_i e;subst e;obtain rfl:=Option.some.inj hg;refine ZMR (l:=[mx]) (k:= .i64) rfl rfl fun j hj=> ?_
  have hj:j=0:=by simpa using hj
  subst hj;exact h2
 cases hg
theorem u8x:U8Extra Tryz.prog Tryz.lays196_ren where
 n3:=by kernel_rfl
 n4:=by kernel_rfl
 y3:=by kernel_rfl
 y4:=by kernel_rfl
 c5:=by kernel_rfl
 c119:=by kernel_rfl
 c138:=by kernel_rfl
theorem et:Tryz.prog.globalNamed "errors.errorType" =some 0:=by kernel_rfl
theorem rt:(Tryz.prog.cutTypes.find? (·.1== "internal/reflectlite.rtype")).map (·.2)=some 168:=by kernel_rfl
theorem ZS4:((List.range Tryz.prog.types.size).filter fun t=>Tryz.prog.rowNamed t [101,114,114,111,114])=[70]:=by kernel_rfl
theorem filt:(laidN.filter fun x=>x.2.handleName?.isNone)=laidP:=by kernel_rfl
theorem ZTR:(laidN.filter fun x=>x.2.handleName?.isSome)=[("errors.errorType",Rows.laid_errors_errorType)]:=by kernel_rfl
theorem ZTS {W:World} (hL:laidMetH Tryz.prog laidN W) (hs:W.ShapedOpen Tryz.prog):∃mx,GlobOk W ρ0 ZE5 0 (NG mx):=by
 have hL' :laidMet Tryz.prog laidP W∧handlesMet Tryz.prog [("errors.errorType",Rows.laid_errors_errorType)] W:=by
  unfold laidMetH at hL;rw[ZTR,filt] at hL;exact hL
 have h3:VarReads Tryz.prog W "unicode/utf8.first" firstData:=ZNl▸laidMet.reads hL'.1 (.tail _ (.head _))
 have h4:VarReads Tryz.prog W "unicode/utf8.acceptRanges" acceptData:=ZMQ▸laidMet.reads hL'.1 (.head _)
 obtain⟨mx,hmx⟩:=cell_of_shapedOpen_int (P:=Tryz.prog) (w:=W) (g:=3) (t:=3) (zero:= #[.int .i64 0]) (k:= .i64) hs (of_decide_eq_true (by kernel_rfl)) (by kernel_rfl) (by kernel_rfl) (by kernel_rfl) (by kernel_rfl) (by kernel_rfl)
 obtain⟨name,u,ty,e1,e2,e3,e4,e5⟩:=hL'.2 _ (List.mem_singleton.2 rfl);have en:name=[101,114,114,111,114]:=(Option.some.inj e1).symm
 subst en;obtain rfl:=Option.some.inj (rt.symm.trans e2);have hm:ty∈(List.range Tryz.prog.types.size).filter fun t=>Tryz.prog.rowNamed t [101,114,114,111,114]:=List.mem_filter.2 ⟨List.mem_range.2 e3,e4⟩
 rw[ZS4] at hm;obtain rfl:=List.mem_singleton.1 hm;have hh:typeHandle Tryz.prog 70= .pointer (some ⟨4,70,none⟩):=by kernel_rfl
 rw[hh] at e5;have he:W.cell? ⟨0,0,none⟩=some (.iface 168 (.agg #[.pointer (some ⟨4,70,none⟩)])):=by simpa using World.var?_cell et e5 0
 exact⟨mx,ZTQ he (utf8Tabs_of_readsT (U8Types.of196 Tryz.lays196) u8x h3 h4) hmx⟩
noncomputable def w1 (os:Os):World:=
 let w0:=World.holding Tryz.prog os ⟨#[], #[],[]⟩
 {w0 with heap:=w0.heap.modify 0 fun
   | .cells _ t frozen=> .cells #[.iface 168 (.agg #[.pointer (some ⟨4,70,none⟩)])] t frozen
   | o=>o}
noncomputable def LW (os:Os):World:=(w1 os).layVars Tryz.prog laidP
theorem ZTT (os:Os):(LW os).os=os:=World.layVars_os _ _ _
theorem ZS5 (os:Os) (args:Array Value):laidMet Tryz.prog laidP ((LW os).forCall (fun _ _=>0) ⟨#[],args,[]⟩).memory:=by
 have e1:(laidP.filter fun x=>(laidP.map (·.1)).contains x.1)=laidP:=List.filter_eq_self.2 fun x hx=>List.contains_iff_mem.2 (List.mem_map.2 ⟨x,hx,rfl⟩)
 have e2:(laidP.filter fun x=> !(laidP.map (·.1)).contains x.1)=[]:=List.filter_eq_nil_iff.2 fun x hx=>by rw[List.contains_iff_mem.2 (List.mem_map.2 ⟨x,hx,rfl⟩)];simp
 have h:laidMet Tryz.prog laidP (LW os):=laidMet_layVars (w0:=w1 os) (laidP.map (·.1)) [] (by rw[e1];rfl) (by rw[e1];kernel_rfl) (by rw[e1];kernel_rfl) (by rw[e2];exact LaidIn.none)
 exact h.of_heap (by simp[World.memory,World.forCall,Input.heap])
theorem ZS6 (os:Os) (args:Array Value):(laidN.filter fun x=>x.2.handleName?.isSome).all (handleAtB Tryz.prog ((LW os).forCall (fun _ _=>0) ⟨#[],args,[]⟩).memory)=true:=by kernel_rfl
theorem ZTU (os:Os) (args:Array Value):laidMetH Tryz.prog laidN ((LW os).forCall (fun _ _=>0) ⟨#[],args,[]⟩).memory:=laidMetH_of_parts (by rw[filt];exact ZS5 os args) (ZS6 os args)
end Go.Ai.Rab
end
section
set_option maxRecDepth 10000
open Go.Ai.Enc (enc is)
namespace Go.Ai.Rab
/-! ### Rows that rise -/
theorem ZFW {l:List ZAD}:ZCB l↔List.Pairwise (fun a b:ZAD=>a.v.1<b.v.1) l:=by
 rw[List.pairwise_iff_getElem];exact⟨fun h i j hi hj hij=>h i j hj hij,fun h i j hj hij=>h i j (by omega) hj hij⟩
theorem ZCr {l:List ZAD} (hs:ZCB l) {x y:ZAD} (hx:x∈l) (hy:y∈l) (e:x.v.1=y.v.1):x=y:=by
 obtain⟨i,hi,rfl⟩:=List.getElem_of_mem hx;obtain⟨j,hj,rfl⟩:=List.getElem_of_mem hy;rcases Nat.lt_trichotomy i j with h | h | h
 ·have:=hs i j hj h;omega
 ·subst h;rfl
 have:=hs j i hi h;omega
theorem ZHR {l:List ZAD} (hs:ZCB l) (x:ZAD):∃A B:List ZAD,ZAw l x=A++x::B∧(l=A++B∧(∀z∈l,z.v.1≠x.v.1)∨∃y,l=A++y::B∧y.v.1=x.v.1):=by
 have hp:ptI l x.v.1≤l.length:=ZKM _ l
 refine⟨l.take (ptI l x.v.1),l.drop (if hasI l x.v.1=true then ptI l x.v.1+1 else ptI l x.v.1),rfl,?_⟩
 cases hh:hasI l x.v.1 with
 | true=>
  unfold hasI at hh;simp only[Bool.and_eq_true,decide_eq_true_eq] at hh;refine .inr ⟨_,?_,hh.2⟩
  rw[if_pos rfl,ZBQ hh.1,←List.drop_eq_getElem_cons hh.1,List.take_append_drop]
 | false=>
  refine .inl ⟨by rw[if_neg Bool.false_ne_true,List.take_append_drop],fun z hz e=> ?_⟩
  obtain⟨i,hi,rfl⟩:=List.getElem_of_mem hz;have h1:i=ptI l x.v.1:=ZMM (by omega) (fun k hk hki=>decide_eq_true (by have:=hs k i hi hki;omega)) (fun _=>decide_eq_false (by omega))
  unfold hasI at hh;rw[←h1,decide_eq_true hi,ZBQ hi,decide_eq_true e] at hh
  cases hh
theorem ZA3 {l:List ZAD} (hs:ZCB l) (x z:ZAD):z∈ZAw l x↔z=x∨(z∈l∧z.v.1≠x.v.1):=by
 obtain⟨A,B,e,h | ⟨y,h,hy⟩⟩:=ZHR hs x
 ·rw[e,h.1];simp only[List.mem_append,List.mem_cons];constructor
  ·rintro(h1 | h1 | h1)
   ·exact .inr ⟨.inl h1,h.2 z (by rw[h.1];simp[h1])⟩
   ·exact .inl h1
   exact .inr ⟨.inr h1,h.2 z (by rw[h.1];simp[h1])⟩
  rintro(h1 | ⟨h1 | h1,_⟩)
  ·exact .inr (.inl h1)
  ·exact .inl h1
  exact .inr (.inr h1)
 have hpw:=ZFW.1 hs;rw[h,List.pairwise_append,List.pairwise_cons] at hpw;obtain⟨_,⟨p2,_⟩,p3⟩:=hpw;rw[e,h];simp only[List.mem_append,List.mem_cons];constructor
 ·rintro(h1 | h1 | h1)
  ·exact .inr ⟨.inl h1,by have:=p3 z h1 y List.mem_cons_self;omega⟩
  ·exact .inl h1
  exact .inr ⟨.inr (.inr h1),by have:=p2 z h1;omega⟩
 rintro(h1 | ⟨h1 | h1 | h1,h2⟩)
 ·exact .inr (.inl h1)
 ·exact .inl h1
 ·exact absurd (by rw[h1,hy]) h2
 exact .inr (.inr h1)
theorem ZNm {l:List ZAD} (hs:ZCB l) (i:Nat):ZCB (l.take i++l.drop (i+1)):=by
 rw[ZFW] at hs ⊢;refine hs.sublist ?_
 have h1:(l.take i++l.drop (i+1)).Sublist (l.take i++l.drop i):=by
  refine(List.Sublist.refl _).append ?_
  rw[←List.drop_drop];exact List.drop_sublist _ _
 rwa [List.take_append_drop] at h1
theorem ZIm {l:List ZAD} (hs:ZCB l) {i:Nat} (hi:i<l.length) (z:ZAD):z∈l.take i++l.drop (i+1)↔z∈l∧z.v.1≠(inAt l i).v.1:=by
 have e:l=l.take i++l[i]::l.drop (i+1):=by rw[←List.drop_eq_getElem_cons hi,List.take_append_drop]
 have hpw:=ZFW.1 hs;rw[e,List.pairwise_append,List.pairwise_cons] at hpw;obtain⟨_,⟨p2,_⟩,p3⟩:=hpw;rw[ZBQ hi];constructor
 ·intro h;rcases List.mem_append.1 h with h | h
  ·exact⟨List.mem_of_mem_take h,by have:=p3 z h _ List.mem_cons_self;omega⟩
  exact⟨List.mem_of_mem_drop h,by have:=p2 z h;omega⟩
 rintro⟨h1,h2⟩;rw[e] at h1;rcases List.mem_append.1 h1 with h | h
 ·exact List.mem_append_left _ h
 rcases List.mem_cons.1 h with h | h
 ·exact absurd (by rw[h]) h2
 exact List.mem_append_right _ h
/-! ### Who is above whom, in rows that change -/
theorem ZCz (a b:List ZAD) (k:Int):upsL (a++b) k=upsL a k++upsL b k:=by unfold upsL;rw[List.flatMap_append]
theorem ZDH (x:ZAD) (b:List ZAD) (k:Int):upsL (x::b) k=upsX x x.v.2.2.2.2.2.2.2.1 k++upsL b k:=by unfold upsL;rw[List.flatMap_cons]
theorem ZGO {a b:List ZAD} (h:∀k,upsL a k=upsL b k):∀(d:Nat) (n:Int),ZCd a d n=ZCd b d n
 | 0,_=>rfl
 | d+1,n=>by
  unfold ZCd;rw[h n]
  cases upsL b n with
  | nil=>rfl
  | cons p q=>exact ZGO h d p
theorem ZEa {l:List ZAD}:∀(d d' :Nat) (n:Int),d≤d' →ZCd l d n=true→ZCd l d' n=true
 | 0,_,_,_,h=>by cases h
 | d+1,0,_,hd,_=>by omega
 | d+1,d' +1,n,hd,h=>by
  unfold ZCd at h ⊢
  cases hu:upsL l n with
  | nil=>rfl
  | cons p q=>
   rw[hu] at h;exact ZEa d d' p (by omega) h
theorem ZSE {l:List ZAD} {nx:Int} (len:l.length≤512) (root:∃z∈l,z.v.1=1∧z.v.2.1=2) (hn:2≤nx∧nx≤513) (al:∀x∈l,ZA5 x=true) (so:ZCB l) (kn:∀k∈ZFp l,∃x∈l,x.v.1=k) (cn:∀x∈l,cndX l x=true):Ok l nx:=by
 obtain⟨z,hz,z1,z2⟩:=root;have hl:0<l.length:=List.length_pos_of_mem hz
 have h0:inAt l 0=z:=by
  obtain⟨i,hi,e⟩:=List.getElem_of_mem hz;rcases Nat.eq_zero_or_pos i with h | h
  ·subst h;rw[ZBQ hi,e]
  have h1:=so 0 i hi h;have h2:=ZBt (al _ (List.getElem_mem hl));rw[e] at h1;omega
 exact⟨hl,len,by rw[h0];exact z1,by rw[h0];exact z2,hn,al,so,kn,cn⟩
theorem Ok.root {l:List ZAD} {nx:Int} (h:Ok l nx):∃z∈l,z.v.1=1∧z.v.2.1=2:=⟨_,ZA2 h.len0,h.n0,h.k0⟩
theorem ZDr {l:List ZAD} {k:Int}:k∈ZFp l↔∃x∈l,k∈x.v.2.2.2.2.2.2.2.1:=by unfold ZFp;rw[List.mem_flatMap]
/-! ### What is new -/
theorem ZJV:∀(l:List ZAD) (k:Int),(∀x∈l,k<x.v.1)→numF l k=k
 | [],_,_=>rfl
 | y::l,k,h=>by
  unfold numF;rw[List.foldl_cons,if_neg (by have:=h y List.mem_cons_self;omega)]
  exact ZJV l k fun x hx=>h x (lM _ hx)
theorem ZKQ:∀(l:List ZAD) (k:Int),ZCB l→∀x∈l,x.v.1≠numF l k
 | [],_,_,_,hx=>by cases hx
 | y::l,k,hs,x,hx=>by
  have hpw:=ZFW.1 hs;rw[List.pairwise_cons] at hpw;have hsl:=ZFW.2 hpw.2;have h1:=ZIk l k;have h2:=ZIk l (k+1);unfold numF;rw[List.foldl_cons];by_cases e:y.v.1=k
  ·rw[if_pos e];rcases List.mem_cons.1 hx with rfl | hx
   ·show x.v.1≠numF l (k+1);omega
   exact ZKQ l (k+1) hsl x hx
  rw[if_neg e];rcases List.mem_cons.1 hx with rfl | hx
  ·show x.v.1≠numF l k
   by_cases hlt:x.v.1<k
   ·omega
   rw[ZJV l k fun z hz=>by have:=hpw.1 z hz;omega]
   exact e
  exact ZKQ l k hsl x hx
theorem Ok.make {l:List ZAD} {nx:Int} (h:Ok l nx) (h5:l.length<512) {x:ZAD} (hx:∀z∈l,z.v.1≠x.v.1) (ha:ZA5 x=true) (hi:x.v.2.2.2.2.2.2.2.1=[]) (hl:x.v.2.1≠2→x.v.2.2.2.1=0):Ok (ZAw l x) nx:=by
 obtain⟨A,B,e,hc⟩:=ZHR h.so x;have hAB:l=A++B:=by
  rcases hc with hc | ⟨y,hy,hye⟩
  ·exact hc.1
  exact absurd hye (hx y (by rw[hy];simp))
 have hu:∀k,upsL (ZAw l x) k=upsL l k:=fun k=>by
  rw[e,hAB,ZCz,ZCz,ZDH,hi];rfl
 have hx0:upsL l x.v.1=[]:=by
  rw[List.eq_nil_iff_forall_not_mem];intro d hd;obtain⟨z,hz,_,hk⟩:=ZHo.1 hd;obtain⟨w,hw,hwe⟩:=h.kn x.v.1 (ZDr.2 ⟨z,hz,hk⟩);exact hx w hw hwe
 have hlen:(ZAw l x).length=l.length+1:=by rw[e,hAB];simp;omega
 refine ZSE (by omega) ?_ h.nx (fun z hz=> ?_) (ZCM h.so x) (fun k hk=> ?_) fun z hz=> ?_
 ·obtain⟨z,hz,z1,z2⟩:=h.root;exact⟨z,(ZA3 h.so x z).2 (.inr ⟨hz,hx z hz⟩),z1,z2⟩
 ·rcases(ZA3 h.so x z).1 hz with rfl | hz
  ·exact ha
  exact h.al z hz.1
 ·obtain⟨z,hz,hkz⟩:=ZDr.1 hk;rcases(ZA3 h.so x z).1 hz with rfl | hz
  ·rw[hi] at hkz;cases hkz
  obtain⟨w,hw,hwe⟩:=h.kn k (ZDr.2 ⟨z,hz.1,hkz⟩);exact⟨w,(ZA3 h.so x w).2 (.inr ⟨hw,hx w hw⟩),hwe⟩
 rcases(ZA3 h.so x z).1 hz with rfl | hz
 ·unfold cndX;rw[hu,hx0];by_cases hk:z.v.2.1=2
  ·rw[if_neg (by simp[hk])]
   have:ZCd (ZAw l z) ((ZAw l z).length+1) z.v.1=true:=by
    unfold ZCd;rw[hu,hx0]
   rw[this];rfl
  rw[if_pos (by simpa using hk),hl hk];rfl
 have:=h.cn z hz.1
 unfold cndX at this ⊢;rw[hu];by_cases hk:z.v.2.1=2
 ·rw[if_neg (by simp[hk])] at this ⊢
  simp only[Bool.and_eq_true] at this ⊢;refine⟨this.1,this.2.1,?_⟩
  rw[ZGO hu];exact ZEa _ _ _ (by omega) this.2.2
 rw[if_pos (by simpa using hk)] at this ⊢
 exact this
theorem ZPl {f:FsR} {kind mode:Int} {t:Str} (h:(ZHO f kind mode t).2.2≠0):(ZHO f kind mode t).1=f:=by
 unfold ZHO at h ⊢;split
 ·split
  ·rfl
  split
  ·rename_i h1 h2 h3;rw[if_pos h1,if_neg h2,if_pos h3] at h;exact absurd rfl h
  rfl
 rfl
theorem ZPm {f:FsR} {kind mode:Int} {t:Str} (h:(ZHO f kind mode t).2.2=0):Ok f.v.1 f.v.2.1∧f.v.1.length<512∧ZA5 (newI (numF f.v.1 f.v.2.1) kind mode t)=true∧ZHO f kind mode t=(Rec.mk (ZAw f.v.1 (newI (numF f.v.1 f.v.2.1) kind mode t),f.v.2.1,()),numF f.v.1 f.v.2.1,0):=by
 unfold ZHO at h ⊢;split at h
 ·rename_i h1;split at h
  ·cases h
  rename_i h2;split at h
  ·rename_i h3;have hok:=ZDW.1 h1;rw[if_pos h1,if_neg h2,if_pos h3];exact⟨hok,by have:=hok.len;omega,h3,rfl⟩
  cases h
 cases h
theorem Ok.new {f:FsR} {kind mode:Int} {t:Str} (h:(ZHO f kind mode t).2.2=0):Ok (ZAw f.v.1 (newI (numF f.v.1 f.v.2.1) kind mode t)) f.v.2.1:=by
 obtain⟨hok,h5,ha,_⟩:=ZPm h;refine hok.make h5 (fun z hz=>ZKQ f.v.1 f.v.2.1 hok.so z hz) ha rfl fun hk=> ?_
 show(if kind=2 then(1:Int) else 0)=0
 exact if_neg hk
end Go.Ai.Rab
end
section
set_option maxRecDepth 10000
open Go.Ai.Enc (enc is)
namespace Go.Ai.Rab
theorem ZPn {f:FsR} {n e:Int} (h:(dirS f n).2.c=some e):e≠0:=by
 intro e0;subst e0;unfold dirS at h;split at h
 ·split at h
  ·simp at h
  split at h<;> simp at h
 simp at h
theorem ZQc {f:FsR} {d n:Int} {s:Str} (h:(entS f d s n).2≠0):(entS f d s n).1=f:=by
 unfold entS at h ⊢
 cases he:(dirS f d).2.c with
 | some e=>rfl
 | none=>
  rw[he] at h;simp only at h ⊢
  by_cases h1:chkS s≠0
  ·rw[if_pos h1]
  rw[if_neg h1] at h ⊢;by_cases h2:hasN (dirS f d).1.v.2.2.2.2.2.2.1 s=true
  ·rw[if_pos h2]
  rw[if_neg h2] at h ⊢
  cases hp:posI f.v.1 n with
  | none=>rfl
  | some i=>
   rw[hp] at h;simp only at h ⊢
   by_cases h3:(inAt f.v.1 i).v.2.1≠2∧(inAt f.v.1 i).v.2.2.2.1=64
   ·rw[if_pos h3]
   rw[if_neg h3] at h ⊢;by_cases h4:(dirS f d).1.v.2.2.2.2.2.2.1.length=128
   ·rw[if_pos h4]
   rw[if_neg h4] at h ⊢;by_cases h5:chkL (entL f.v.1 (dirS f d).1 (inAt f.v.1 i) s n) f.v.2.1=true
   ·rw[if_pos h5] at h;exact absurd rfl h
   rw[if_neg h5]
theorem ZS7 {f:FsR} {d n:Int} {s:Str} (h:(entS f d s n).2=0):Ok f.v.1 f.v.2.1∧∃x y,x∈f.v.1∧x.v.1=d∧x.v.2.1=2∧hasN x.v.2.2.2.2.2.2.1 s=false∧y∈f.v.1∧y.v.1=n∧Ok (entL f.v.1 x y s n) f.v.2.1∧
  entS f d s n=(Rec.mk (entL f.v.1 x y s n,f.v.2.1,()),0):=by
 unfold entS at h ⊢
 cases he:(dirS f d).2.c with
 | some e=>rw[he] at h;exact absurd h (ZPn he)
 | none=>
  obtain⟨hok,j,p1,p2,p3,p4,p5⟩:=ZGt he;rw[he] at h;simp only at h ⊢
  by_cases h1:chkS s≠0
  ·rw[if_pos h1] at h;exact absurd h h1
  rw[if_neg h1] at h ⊢;by_cases h2:hasN (dirS f d).1.v.2.2.2.2.2.2.1 s=true
  ·rw[if_pos h2] at h;cases h
  rw[if_neg h2] at h ⊢
  cases hp:posI f.v.1 n with
  | none=>rw[hp] at h;cases h
  | some i=>
   obtain⟨q1,q2⟩:=ZCA hp;rw[hp] at h;simp only at h ⊢
   by_cases h3:(inAt f.v.1 i).v.2.1≠2∧(inAt f.v.1 i).v.2.2.2.1=64
   ·rw[if_pos h3] at h;cases h
   rw[if_neg h3] at h ⊢;by_cases h4:(dirS f d).1.v.2.2.2.2.2.2.1.length=128
   ·rw[if_pos h4] at h;cases h
   rw[if_neg h4] at h ⊢;by_cases h5:chkL (entL f.v.1 (dirS f d).1 (inAt f.v.1 i) s n) f.v.2.1=true
   ·rw[if_pos h5];refine⟨hok,(dirS f d).1,inAt f.v.1 i,by rw[p5];exact ZA2 p2,by rw[p5];exact p3,by rw[p5];exact p4,by simpa using h2,ZA2 q1,q2,ZDW.1 h5,rfl⟩
   rw[if_neg h5] at h;cases h
end Go.Ai.Rab
end
section
set_option maxRecDepth 10000
open Go.Ai.Enc (enc is)
namespace Go.Ai.Rab
theorem ZLg:∀{a b:List Int},a.Nodup→(∀x∈a,x∈b)→a.length≤b.length
 | [],_,_,_=>Nat.zero_le _
 | x::a,b,h,hs=>by
  rw[List.nodup_cons] at h;have hx:=hs x List.mem_cons_self;have:=ZLg (b:=b.erase x) h.2 fun y hy=>by
   have hne:y≠x:=fun e=>h.1 (by rw[←e];exact hy)
   exact(List.mem_erase_of_ne hne).2 (hs y (lM _ hy))
  rw[List.length_erase_of_mem hx] at this;have:=List.length_pos_of_mem hx
  simp only[List.length_cons];omega
theorem ZJW {l:List ZAD} {S:List Int} (hS:∀n p,p∈upsL l n→p∈S):∀(m:Nat) (n:Int),n∈S→ZCd l (m+1) n=true→ZCd l m n=false→
  ∃c:List Int,c.length=m+1∧c.Nodup∧(∀x∈c,x∈S)∧∀x∈c,ZCd l (m+1) x=true
 | 0,n,hn,h1,_=>⟨[n],rfl,by simp,by simpa using hn,by simpa using h1⟩
 | m+1,n,hn,h1,h2=>by
  have h1' :=h1
  have h2' :=h2
  unfold ZCd at h1 h2
  cases hu:upsL l n with
  | nil=>rw[hu] at h2;cases h2
  | cons p q=>
   rw[hu] at h1 h2;simp only at h1 h2
   obtain⟨c,c1,c2,c3,c4⟩:=ZJW hS m p (hS n p (by rw[hu];exact List.mem_cons_self)) h1 h2
   refine⟨n::c,by simp[c1],?_,?_,?_⟩
   ·rw[List.nodup_cons];exact⟨fun hm=>(by rw[c4 n hm] at h2';cases h2'),c2⟩
   ·intro x hx;rcases List.mem_cons.1 hx with rfl | hx
    ·exact hn
    exact c3 x hx
   intro x hx;rcases List.mem_cons.1 hx with rfl | hx
   ·exact h1'
   exact ZEa _ _ _ (by omega) (c4 x hx)
theorem ZJX {l:List ZAD} {S:List Int} (hS:∀n p,p∈upsL l n→p∈S):∀(d:Nat) (n:Int),n∈S→ZCd l d n=true→ZCd l S.length n=true
 | 0,_,_,h=>by cases h
 | d+1,n,hn,h=>by
  cases hd:ZCd l d n with
  | true=>exact ZJX hS d n hn hd
  | false=>
   obtain⟨c,c1,c2,c3,_⟩:=ZJW hS d n hn h hd;exact ZEa _ _ _ (by have:=ZLg c2 c3;omega) h
theorem ZQd {l:List ZAD} {x:ZAD} (hx:x∈l) (d:Nat) (hd:l.length≤d):ZCd l d x.v.1=ZCd l l.length x.v.1:=by
 rw[Bool.eq_iff_iff];constructor
 ·intro h;have:=ZJX (S:=l.map fun y=>y.v.1) (fun n p hp=>by
   obtain⟨y,hy,e,_⟩:=ZHo.1 hp;rw[e];exact List.mem_map_of_mem hy) d x.v.1 (List.mem_map_of_mem hx) h
  rwa [List.length_map] at this
 exact ZEa _ _ _ hd
end Go.Ai.Rab
end
section
set_option maxRecDepth 10000
open Go.Ai.Enc (enc is)
namespace Go.Ai.Rab
theorem ZM6 {l:List Str}:risB l=true↔(∀s∈l,chkS s=0)∧List.Pairwise (fun a b:Str=>ltS a b=true) l:=by
 constructor
 ·intro h;exact⟨ZMG h,List.pairwise_iff_getElem.2 fun i j hi hj hij=>ZPW h i j hj hij⟩
 rintro⟨h1,h2⟩;unfold risB;rw[ZDE];intro i hi;unfold risP;rw[ZDV hi,h1 _ (List.getElem_mem hi)];by_cases h0:0<i
 ·have hlt:=List.pairwise_iff_getElem.1 h2 (i - 1) i (by omega) hi (by omega)
  have e1:ltS l[i] l[i - 1]=false:=ZR7 hlt
  have e2:eqS l[i] l[i - 1]=false:=by
   rw[←Bool.not_eq_true];intro e;rw[(ZKL _ _).1 e] at hlt;exact Bool.false_ne_true ((ZM1 _).symm.trans hlt)
  rw[ZDV (show i - 1<l.length by omega),e1,e2,Bool.or_false,Bool.and_false];rfl
 rw[decide_eq_false h0];rfl
theorem ZKR {α:Type} (l:List α) (p:Nat):(l.take p++l.drop (p+1)).Sublist l:=by
 have h1:(l.take p++l.drop (p+1)).Sublist (l.take p++l.drop p):=by
  refine(List.Sublist.refl _).append ?_
  rw[←List.drop_drop];exact List.drop_sublist _ _
 rwa [List.take_append_drop] at h1
theorem ZPo {x:ZAD} (h:ZA5 x=true) (hk:x.v.2.1=2) {p:Nat} (hp:p<x.v.2.2.2.2.2.2.1.length):ZA5 (cutI x p)=true:=by
 have hd:=ZCZ h hk;have hnl:=(ZHN h).2;have h0:=h;unfold ZA5 at h ⊢;simp only[Bool.and_eq_true] at h ⊢;obtain⟨a1,a2,a3,a4⟩:=h;refine⟨a1,a2,a3,?_⟩
 show(if x.v.2.1 !=2 then _ else ZHL (x.v.2.2.2.2.2.2.1.take p++x.v.2.2.2.2.2.2.1.drop (p+1)) (x.v.2.2.2.2.2.2.2.1.take p++x.v.2.2.2.2.2.2.2.1.drop (p+1)) && (decide (x.v.2.2.2.1=1) && decide ((x.v.2.2.2.2.2.2.1.take p++x.v.2.2.2.2.2.2.1.drop (p+1)).length≤128)))=true
 rw[if_neg (by simp[hk])]
 obtain⟨d1,d2,d3,d4,d5⟩:=hd;have l1:(x.v.2.2.2.2.2.2.1.take p++x.v.2.2.2.2.2.2.1.drop (p+1)).length=x.v.2.2.2.2.2.2.1.length - 1:=by
  simp only[List.length_append,List.length_take,List.length_drop];omega
 have l2:(x.v.2.2.2.2.2.2.2.1.take p++x.v.2.2.2.2.2.2.2.1.drop (p+1)).length=x.v.2.2.2.2.2.2.1.length - 1:=by
  simp only[List.length_append,List.length_take,List.length_drop];omega
 have r:=ZM6.1 d1;have r2:risB (x.v.2.2.2.2.2.2.1.take p++x.v.2.2.2.2.2.2.1.drop (p+1))=true:=ZM6.2 ⟨fun s hs=>r.1 s ((ZKR _ p).subset hs),r.2.sublist (ZKR _ p)⟩
 have r3:(x.v.2.2.2.2.2.2.2.1.take p++x.v.2.2.2.2.2.2.2.1.drop (p+1)).all numB=true:=List.all_eq_true.2 fun k hk=>List.all_eq_true.1 d5 k ((ZKR _ p).subset hk)
 unfold ZHL;rw[l1,l2,r2,r3,decide_eq_true d4,decide_eq_true (show x.v.2.2.2.2.2.2.1.length - 1≤256 by omega),decide_eq_true (show x.v.2.2.2.2.2.2.1.length - 1≤128 by omega)]
 simp
theorem ZNn {y:ZAD} (h:ZA5 y=true) (hk:y.v.2.1≠2) (hn:1≤y.v.2.2.2.1):ZA5 (ZI6 y (-1))=true:=by
 unfold ZA5 ZId at h ⊢;simp only[Bool.and_eq_true,decide_eq_true_eq] at h ⊢;obtain⟨⟨a1,a2,a3⟩,a4,a5,a6⟩:=h;refine⟨⟨a1,?_,a3⟩,a4,a5,?_⟩
 ·show 0≤y.v.2.2.2.1+ -1∧y.v.2.2.2.1+ -1≤64
  omega
 rw[if_pos (by simpa using hk)] at a6
 show(if(y.v.2.1 !=2)=true then _ else _)=true
 rw[if_pos (by simpa using hk)]
 exact a6
theorem ZGu {l:List ZAD} (hs:ZCB l) {x y:ZAD} (hy:y∈l) (e:x.v.1=y.v.1):∃A B,ZAw l x=A++x::B∧l=A++y::B:=by
 obtain⟨A,B,e1,h | ⟨z,h,hz⟩⟩:=ZHR hs x
 ·exact absurd e.symm (h.2 y hy)
 refine⟨A,B,e1,?_⟩
 have hzl:z∈l:=by rw[h];simp
 have:z=y:=ZCr hs hzl hy (by rw[hz,e])
 rw[this] at h;exact h
theorem ZEr {l:List ZAD} (hs:ZCB l) {x y:ZAD} (hy:y∈l) (e:x.v.1=y.v.1):(ZAw l x).length=l.length:=by
 obtain⟨A,B,e1,e2⟩:=ZGu hs hy e;have:=congrArg List.length e2
 rw[e1,this];simp
theorem ZPp {w:ZAD} (h:ZA5 w=true) {k:Int} (hk:k∈w.v.2.2.2.2.2.2.2.1):w.v.2.1=2:=by
 refine Classical.byContradiction fun hn=> ?_
 unfold ZA5 at h;simp only[Bool.and_eq_true] at h;obtain⟨_,_,_,h⟩:=h;rw[if_pos (by simpa using hn)] at h
 have:=of_decide_eq_true h
 have:=List.length_pos_of_mem hk
 omega
theorem ZLh {l l' :List ZAD} (al:∀w∈l,ZA5 w=true) (fro:∀w∈l,∃z∈l',z.v.1=w.v.1∧z.v.2.1=w.v.2.1)
  (dir:∀z∈l',z.v.2.1=2→upsL l' z.v.1=upsL l z.v.1∨upsL l' z.v.1=[]):∀(d:Nat) (z:ZAD),z∈l' →z.v.2.1=2→ZCd l d z.v.1=true→ZCd l' d z.v.1=true
 | 0,_,_,_,h=>by cases h
 | d+1,z,hz,hk,h=>by
  unfold ZCd at h ⊢;rcases dir z hz hk with e | e
  ·rw[e]
   cases hu:upsL l z.v.1 with
   | nil=>rfl
   | cons p q=>
    rw[hu] at h;obtain⟨w,hw,e1,e2⟩:=ZHo.1 (show p∈upsL l z.v.1 by rw[hu];exact List.mem_cons_self)
    obtain⟨z',hz',f1,f2⟩:=fro w hw;have:=ZLh al fro dir d z' hz' (by rw[f2];exact ZPp (al w hw) e2) (by rw[f1,←e1];exact h)
    rw[f1,←e1] at this;exact this
  rw[e]
theorem Ok.change {l l' :List ZAD} {nx:Int} (h:Ok l nx) (hs:ZCB l') (hlen:l'.length=l.length) (al:∀z∈l',ZA5 z=true)
  (tw:∀z∈l',∃w∈l,w.v.1=z.v.1∧w.v.2.1=z.v.2.1∧∀k∈z.v.2.2.2.2.2.2.2.1,k∈w.v.2.2.2.2.2.2.2.1)
  (fro:∀w∈l,∃z∈l',z.v.1=w.v.1∧z.v.2.1=w.v.2.1)
  (file:∀z∈l',z.v.2.1≠2→((upsL l' z.v.1).length:Int)=z.v.2.2.2.1)
  (dir:∀z∈l',z.v.2.1=2→upsL l' z.v.1=upsL l z.v.1∨upsL l' z.v.1=[]):Ok l' nx:=by
 refine ZSE (by rw[hlen];exact h.len) ?_ h.nx al hs (fun k hk=> ?_) fun z hz=> ?_
 ·obtain⟨w,hw,w1,w2⟩:=h.root;obtain⟨z,hz,z1,z2⟩:=fro w hw;exact⟨z,hz,by rw[z1,w1],by rw[z2,w2]⟩
 ·obtain⟨z,hz,hkz⟩:=ZDr.1 hk;obtain⟨w,hw,_,_,hs'⟩:=tw z hz;obtain⟨u,hu,e⟩:=h.kn k (ZDr.2 ⟨w,hw,hs' k hkz⟩);obtain⟨v,hv,e1,_⟩:=fro u hu;exact⟨v,hv,by rw[e1,e]⟩
 unfold cndX;by_cases hk:z.v.2.1=2
 ·rw[if_neg (by simp[hk])]
  obtain⟨w,hw,e1,e2,_⟩:=tw z hz;obtain⟨d1,d2,d3⟩:=h.dir hw (by rw[e2,hk])
  rw[e1] at d1 d2 d3;have he:=ZLh h.al fro dir (l.length+1) z hz hk d3;rw[hlen,he];rcases dir z hz hk with e | e
  ·rw[e,decide_eq_true d1];have:(decide (0<(upsL l z.v.1).length) && decide (z.v.1=1))=false:=by
    rw[Bool.and_eq_false_iff,decide_eq_false_iff_not,decide_eq_false_iff_not];by_cases h1:0<(upsL l z.v.1).length
    ·exact .inr fun h2=>d2 ⟨h1,h2⟩
    exact .inl h1
   rw[this];rfl
  rw[e];rfl
 rw[if_pos (by simpa using hk)]
 exact decide_eq_true (file z hz hk)
/-! ### An inode is set -/
theorem Ok.set {l:List ZAD} {nx:Int} (h:Ok l nx) {y x:ZAD} (hy:y∈l) (ha:ZA5 (setI y x)=true):Ok (ZAw l (setI y x)) nx:=by
 have e:(setI y x).v.1=y.v.1:=rfl
 obtain⟨A,B,e1,e2⟩:=ZGu h.so hy e;have hu:∀k,upsL (ZAw l (setI y x)) k=upsL l k:=fun k=>by
  have e3:upsL l k=upsL A k++(upsX y y.v.2.2.2.2.2.2.2.1 k++upsL B k):=by rw[e2,ZCz,ZDH]
  rw[e1,e3,ZCz,ZDH];rfl
 refine h.change (ZCM h.so _) (ZEr h.so hy e) (fun z hz=> ?_) (fun z hz=> ?_) (fun w hw=> ?_) (fun z hz hk=> ?_) fun z _ _=> .inl (hu _)
 ·rcases(ZA3 h.so _ z).1 hz with rfl | hz
  ·exact ha
  exact h.al z hz.1
 ·rcases(ZA3 h.so _ z).1 hz with rfl | hz
  ·exact⟨y,hy,rfl,rfl,fun k hk=>hk⟩
  exact⟨z,hz.1,rfl,rfl,fun k hk=>hk⟩
 ·by_cases hn:w.v.1=y.v.1
  ·have:w=y:=ZCr h.so hw hy hn
   subst this;exact⟨setI w x,(ZA3 h.so _ _).2 (.inl rfl),rfl,rfl⟩
  exact⟨w,(ZA3 h.so _ _).2 (.inr ⟨hw,hn⟩),rfl,rfl⟩
 rw[hu];rcases(ZA3 h.so _ z).1 hz with rfl | hz
 ·exact(show((upsL l y.v.1).length:Int)=y.v.2.2.2.1 from h.file hy hk)
 exact h.file hz.1 hk
/-! ### An inode goes -/
theorem Ok.drop {l:List ZAD} {nx:Int} (h:Ok l nx) {i:Nat} (hi:i<l.length) (h1:(inAt l i).v.1≠1) (hn:(inAt l i).v.2.2.2.2.2.2.1.length=0) (hup:upsL l (inAt l i).v.1=[]):Ok (l.take i++l.drop (i+1)) nx:=by
 have hy:=ZA2 hi;have hnn:(inAt l i).v.2.2.2.2.2.2.2.1=[]:=List.eq_nil_of_length_eq_zero (by have:=(ZHN (h.al _ hy)).2;omega)
 have el:l=l.take i++inAt l i::l.drop (i+1):=by rw[ZBQ hi,←List.drop_eq_getElem_cons hi,List.take_append_drop]
 have hu:∀k,upsL (l.take i++l.drop (i+1)) k=upsL l k:=fun k=>by
  have e3:upsL l k=upsL (l.take i) k++(upsX (inAt l i) (inAt l i).v.2.2.2.2.2.2.2.1 k++upsL (l.drop (i+1)) k):=by
   have:=congrArg (fun q=>upsL q k) el
   simp only[ZCz,ZDH] at this;exact this
  rw[e3,ZCz,hnn];rfl
 have hlen:(l.take i++l.drop (i+1)).length+1=l.length:=by
  simp only[List.length_append,List.length_take,List.length_drop];omega
 have hl:=h.len;refine ZSE (by omega) ?_ h.nx (fun z hz=>h.al z ((ZIm h.so hi z).1 hz).1) (ZNm h.so i) (fun k hk=> ?_) fun z hz=> ?_
 ·obtain⟨w,hw,w1,w2⟩:=h.root;exact⟨w,(ZIm h.so hi w).2 ⟨hw,fun e=>h1 (by rw[←e,w1])⟩,w1,w2⟩
 ·obtain⟨z,hz,hkz⟩:=ZDr.1 hk;have hz:=((ZIm h.so hi z).1 hz).1;obtain⟨w,hw,hwe⟩:=h.kn k (ZDr.2 ⟨z,hz,hkz⟩);refine⟨w,(ZIm h.so hi w).2 ⟨hw,fun e=> ?_⟩,hwe⟩
  have:z.v.1∈upsL l (inAt l i).v.1:=ZHo.2 ⟨z,hz,rfl,by rw[←e,hwe];exact hkz⟩
  rw[hup] at this
  cases this
 have hz:=((ZIm h.so hi z).1 hz).1;have hc:=h.cn z hz;unfold cndX at hc ⊢;rw[hu];by_cases hk:z.v.2.1=2
 ·rw[if_neg (by simp[hk])] at hc ⊢
  simp only[Bool.and_eq_true] at hc ⊢;refine⟨hc.1,hc.2.1,?_⟩
  rw[ZGO hu,hlen,←ZQd hz (l.length+1) (by omega)]
  exact hc.2.2
 rw[if_pos (by simpa using hk)] at hc ⊢
 exact hc
/-! ### A name is left -/
theorem ZQe {x x' :ZAD} (e:x'.v.1=x.v.1) (ns:List Int) {p:Nat} (hp:p<ns.length) (k:Int):
  upsX x' (ns.take p++ns.drop (p+1)) k=upsX x (ns.take p) k++upsX x (ns.drop (p+1)) k∧upsX x ns k=upsX x (ns.take p) k++((if ns[p]=k then[x.v.1] else[])++upsX x (ns.drop (p+1)) k):=by
 constructor
 ·unfold upsX;rw[e,List.filter_append,List.map_append]
 have:ns=ns.take p++ns[p]::ns.drop (p+1):=by rw[←List.drop_eq_getElem_cons hp,List.take_append_drop]
 have h2:=congrArg (fun q=>upsX x q k) this
 refine h2.trans ?_
 show upsX x (ns.take p++ns[p]::ns.drop (p+1)) k=_
 unfold upsX;rw[List.filter_append,List.map_append,List.filter_cons];by_cases h:ns[p]=k
 ·rw[if_pos (by simpa using h),if_pos h];rfl
 rw[if_neg (by simpa using h),if_neg h];rfl
theorem ZPq {l:List ZAD} (hs:ZCB l) {x:ZAD} (hx:x∈l) {p:Nat} (hp:p<x.v.2.2.2.2.2.2.2.1.length) (k:Int):
  (k≠x.v.2.2.2.2.2.2.2.1[p]→upsL (ZAw l (cutI x p)) k=upsL l k)∧(k=x.v.2.2.2.2.2.2.2.1[p]→(upsL (ZAw l (cutI x p)) k).length+1=(upsL l k).length):=by
 obtain⟨A,B,e1,e2⟩:=ZGu hs (x:=cutI x p) hx rfl;have e3:upsL l k=upsL A k++(upsX x x.v.2.2.2.2.2.2.2.1 k++upsL B k):=by rw[e2,ZCz,ZDH]
 have e4:upsL (ZAw l (cutI x p)) k=upsL A k++(upsX (cutI x p) (x.v.2.2.2.2.2.2.2.1.take p++x.v.2.2.2.2.2.2.2.1.drop (p+1)) k++upsL B k):=by rw[e1,ZCz,ZDH];rfl
 obtain⟨u1,u2⟩:=ZQe (x:=x) (x' :=cutI x p) rfl x.v.2.2.2.2.2.2.2.1 hp k;rw[e3,e4,u1,u2];refine⟨fun h=> ?_,fun h=> ?_⟩
 ·rw[if_neg (fun e=>h e.symm)];rfl
 rw[if_pos h.symm];simp only[List.length_append,List.length_singleton];omega
theorem Ok.leave {l:List ZAD} {nx:Int} (h:Ok l nx) {x y:ZAD} (hx:x∈l) (hk:x.v.2.1=2) (hy:y∈l) {s:Str} (hp:ptN x.v.2.2.2.2.2.2.1 s<x.v.2.2.2.2.2.2.1.length)
  (hq:x.v.2.2.2.2.2.2.2.1.getD (ptN x.v.2.2.2.2.2.2.1 s) 0=y.v.1):Ok (leaL l x y s) nx:=by
 obtain⟨d1,d2,d3,d4,d5⟩:=ZCZ (h.al x hx) hk;unfold leaL;generalize ptN x.v.2.2.2.2.2.2.1 s=p at*
 have hp2:p<x.v.2.2.2.2.2.2.2.1.length:=by omega
 have hy1:x.v.2.2.2.2.2.2.2.1[p]=y.v.1:=by
  rw[←hq,List.getD_eq_getElem?_getD,List.getElem?_eq_getElem hp2,Option.getD_some]
 have hu:∀k,k≠y.v.1→upsL (ZAw l (cutI x p)) k=upsL l k:=fun k hk=>(ZPq h.so hx hp2 k).1 (by rw[hy1];exact hk)
 have hu2:(upsL (ZAw l (cutI x p)) y.v.1).length+1=(upsL l y.v.1).length:=(ZPq h.so hx hp2 y.v.1).2 hy1.symm
 have hac:=ZPo (h.al x hx) hk hp;have so1:=ZCM h.so (cutI x p);have ln1:=ZEr h.so (x:=cutI x p) hx rfl;have mem1:∀z∈ZAw l (cutI x p),∃w∈l,w.v.1=z.v.1∧w.v.2.1=z.v.2.1∧∀k∈z.v.2.2.2.2.2.2.2.1,k∈w.v.2.2.2.2.2.2.2.1:=fun z hz=>by
  rcases(ZA3 h.so _ z).1 hz with rfl | hz
  ·exact⟨x,hx,rfl,rfl,fun k hk=>(ZKR _ p).subset hk⟩
  exact⟨z,hz.1,rfl,rfl,fun k hk=>hk⟩
 have fro1:∀w∈l,∃z∈ZAw l (cutI x p),z.v.1=w.v.1∧z.v.2.1=w.v.2.1:=fun w hw=>by
  by_cases hn:w.v.1=x.v.1
  ·have:w=x:=ZCr h.so hw hx hn
   subst this;exact⟨cutI w p,(ZA3 h.so _ _).2 (.inl rfl),rfl,rfl⟩
  exact⟨w,(ZA3 h.so _ _).2 (.inr ⟨hw,hn⟩),rfl,rfl⟩
 have al1:∀z∈ZAw l (cutI x p),ZA5 z=true:=fun z hz=>by
  rcases(ZA3 h.so _ z).1 hz with rfl | hz
  ·exact hac
  exact h.al z hz.1
 by_cases hk2:y.v.2.1=2
 ·rw[if_neg (by simp[hk2])]
  refine h.change so1 ln1 al1 mem1 fro1 (fun z hz hkz=> ?_) fun z hz hkz=> ?_
  ·rcases(ZA3 h.so _ z).1 hz with rfl | hz
   ·exact absurd hk hkz
   have hne:z.v.1≠y.v.1:=fun e=>hkz (by rw[ZCr h.so hz.1 hy e];exact hk2)
   rw[hu _ hne];exact h.file hz.1 hkz
  by_cases hne:z.v.1=y.v.1
  ·refine .inr (List.eq_nil_of_length_eq_zero ?_)
   have:=(h.dir hy hk2).1
   rw[hne];omega
  exact .inl (hu _ hne)
 rw[if_pos (by simpa using hk2)]
 have hxy:y.v.1≠(cutI x p).v.1:=fun e=>hk2 (by rw[ZCr h.so hy hx e];exact hk)
 have hy2:y∈ZAw l (cutI x p):=(ZA3 h.so _ _).2 (.inr ⟨hy,hxy⟩)
 obtain⟨A,B,e1,e2⟩:=ZGu so1 (x:=ZI6 y (-1)) hy2 rfl;have hw:∀k,upsL (ZAw (ZAw l (cutI x p)) (ZI6 y (-1))) k=upsL (ZAw l (cutI x p)) k:=fun k=>by
  have e3:upsL (ZAw l (cutI x p)) k=upsL A k++(upsX y y.v.2.2.2.2.2.2.2.1 k++upsL B k):=by rw[e2,ZCz,ZDH]
  rw[e1,e3,ZCz,ZDH];rfl
 have hf:=h.file hy hk2;refine h.change (ZCM so1 _) ((ZEr so1 (x:=ZI6 y (-1)) hy2 rfl).trans ln1) (fun z hz=> ?_) (fun z hz=> ?_) (fun w hw' => ?_) (fun z hz hkz=> ?_) fun z hz hkz=> ?_
 ·rcases(ZA3 so1 _ z).1 hz with rfl | hz
  ·exact ZNn (h.al y hy) hk2 (by omega)
  exact al1 z hz.1
 ·rcases(ZA3 so1 _ z).1 hz with rfl | hz
  ·exact⟨y,hy,rfl,rfl,fun k hk=>hk⟩
  exact mem1 z hz.1
 ·by_cases hn:w.v.1=y.v.1
  ·have:w=y:=ZCr h.so hw' hy hn
   subst this;exact⟨ZI6 w (-1),(ZA3 so1 _ _).2 (.inl rfl),rfl,rfl⟩
  obtain⟨z,hz,z1,z2⟩:=fro1 w hw';exact⟨z,(ZA3 so1 _ _).2 (.inr ⟨hz,by rw[z1];exact hn⟩),z1,z2⟩
 ·rw[hw];rcases(ZA3 so1 _ z).1 hz with rfl | ⟨hz,hne⟩
  ·show((upsL (ZAw l (cutI x p)) y.v.1).length:Int)=y.v.2.2.2.1+ -1
   omega
  have hne:z.v.1≠y.v.1:=hne
  rw[hu _ hne];rcases(ZA3 h.so _ z).1 hz with rfl | hz
  ·exact absurd hk hkz
  exact h.file hz.1 hkz
 rw[hw];refine .inl (hu _ ?_)
 rcases(ZA3 so1 _ z).1 hz with rfl | ⟨_,hne⟩
 ·exact absurd hkz hk2
 exact hne
/-! ### Whatever is done -/
theorem ZS8 {f:FsR} (hok:Ok f.v.1 f.v.2.1) (d:Int) (s:Str):Ok (leaS f d s).1.v.1 (leaS f d s).1.v.2.1:=by
 unfold leaS;by_cases h:(ZFq f d s).2=0
 ·rw[if_neg (by simp[h])]
  obtain⟨_,i,p1,p2,p3,p4,p5,p6,p7,p8,k,q1,q2,q3⟩:=ZPf h;rw[p1,q1,Option.getD_some,Option.getD_some];exact hok.leave (ZA2 p2) p4 (ZA2 q2) p7 (by rw[q3,p6])
 rw[if_pos h];exact hok
theorem ZS9 {f:FsR} (hok:Ok f.v.1 f.v.2.1) (n:Int):Ok (droS f n).1.v.1 (droS f n).1.v.2.1:=by
 unfold droS;split
 ·split
  ·exact hok
  rename_i i hp;obtain⟨q1,q2⟩:=ZCA hp;split
  ·exact hok
  rename_i hb;exact hok.drop q1 (fun e=>hb (.inl (by rw[←q2,e]))) (by
   have:¬0<(inAt f.v.1 i).v.2.2.2.2.2.2.1.length:=fun h=>hb (.inr (.inl h))
   omega) (by
   rw[q2];exact List.eq_nil_of_length_eq_zero (by
    have:¬0<(upsL f.v.1 n).length:=fun h=>hb (.inr (.inr h))
    omega))
 exact hok
theorem ZTA {f:FsR} (hok:Ok f.v.1 f.v.2.1) (x:ZAD):Ok (setS f x).1.v.1 (setS f x).1.v.2.1:=by
 unfold setS;split
 ·split
  ·exact hok
  rename_i i hp;split
  ·rename_i ha;exact hok.set (ZA2 (ZCA hp).1) ha
  exact hok
 exact hok
theorem ZTB {f:FsR} (hok:Ok f.v.1 f.v.2.1) (kind mode:Int) (t:Str):Ok (ZHO f kind mode t).1.v.1 (ZHO f kind mode t).1.v.2.1:=by
 by_cases h:(ZHO f kind mode t).2.2=0
 ·rw[(ZPm h).2.2.2];exact Ok.new h
 rw[ZPl h];exact hok
theorem ZTC {f:FsR} (hok:Ok f.v.1 f.v.2.1) (d:Int) (s:Str) (n:Int):Ok (entS f d s n).1.v.1 (entS f d s n).1.v.2.1:=by
 by_cases h:(entS f d s n).2=0
 ·obtain⟨_,x,y,_,_,_,_,_,_,h1,h2⟩:=ZS7 h;rw[h2];exact h1
 rw[ZQc h];exact hok
end Go.Ai.Rab
end
section
set_option maxRecDepth 10000
open Go.Ai.Enc (enc is)
namespace Go.Ai.Rab
theorem ZNo {f:FsR} (hs:ZDQ f.v.1) (hl:f.v.1.length≤512):loop (ZDD f) ((Rec.mk (([]:List ZAD),f.v.2.1,()):FsR),0)=some f:=by
 obtain⟨r,h1,h2⟩:=ZCY (body:=ZDD f) f.v.1.length (fun i (o:FsR)=>o=Rec.mk (f.v.1.take i,f.v.2.1,())) (fun r=>r=f) (fun i o hi ho=>by
  subst ho;obtain⟨s1,s2,s3,s4⟩:=hs.2 _ (List.getElem_mem hi);have e0:ZDD f (Rec.mk (f.v.1.take i,f.v.2.1,()),(i:Int))=_:=if_pos (decide_eq_true (show(i:Int)<(f.v.1.length:Int) by omega))
  have e0:=e0.trans (bds (ZBk hi));have e0:=e0.trans ((bds (ZD4 ([]:List Str) _ (by simp only[List.length_nil];omega) (by simp only[List.length_nil];omega))).trans ((bds (ZD4 ([]:List Int) _ (by simp only[List.length_nil];omega) (by simp only[List.length_nil];omega))).trans (bds (ZD4 ([]:List UInt8) _ (by simp only[List.length_nil];omega) (by simp only[List.length_nil];omega)))))
  have ht:(f.v.1.take i).length≤512:=by rw[List.length_take];omega
  have e0:=e0.trans (bds (ZD4 (f.v.1.take i) [f.v.1[i]] (by simp only[List.length_singleton];omega) (by simp only[List.length_singleton];omega)))
  refine⟨_,e0.trans ?_,rfl⟩
  have hta:f.v.1.take (i+1)=f.v.1.take i++[f.v.1[i]]:=by rw[List.take_add_one,List.getElem?_eq_getElem hi];rfl
  rw[hta,lim (by omega)]) (fun o ho=>by
  subst ho;refine⟨_,if_neg (by simp),?_⟩
  rw[List.take_length]) 0 _ (by omega) (by rw[List.take_zero])
 rw[←h2];rw[←h2] at h1;exact h1
theorem ZGv {f:FsR} (h:Ok f.v.1 f.v.2.1):ZAW f=some true:=by rw[ZDF h.small,ZDW.2 h]
theorem ZLi {f:FsR} (hs:ZDQ f.v.1) (kind:Int) (s:Str) (d n:Int) {x:ZAD} (hx:ZDP x):ZEY f kind s d n x=some true:=by
 obtain⟨b,h1,_⟩:=ZNi hs;have e0:ZEY f kind s d n x=_:=bds h1
 obtain⟨c,hc⟩:∃c,(if(!b)=true then some true else some (decide ((x.v.2.2.2.2.1.length:Int) > 40000)))=some c:=by cases b<;> exact⟨_,rfl⟩
 have e0:=e0.trans (bds hc);have e0:=e0.trans (bds (x:=c || !chkL f.v.1 f.v.2.1) (by
  rw[ZDF hs]
  cases c<;> rfl))
 cases hb:(c || !chkL f.v.1 f.v.2.1) with
 | true=>
  rw[hb] at e0;exact e0.trans ((if_pos rfl).trans ((bds ZM3).trans rfl))
 | false=>
  rw[hb] at e0;rw[Bool.or_eq_false_iff,Bool.not_eq_false'] at hb;have hok:=ZDW.1 hb.2;have e0:=e0.trans ((if_neg (by decide)).trans (bds (ZNo hs hok.len)))
  have e0:=e0.trans ((bds (ZPb hs kind 420 s)).trans ((bds (ZKO hs d s n)).trans ((bds (ZM2 hs d s)).trans ((bds (ZMO hs n)).trans (bds (ZS2 hs hx))))));have e0:=e0.trans (bds (ZGv (ZTB hok kind 420 s)));have e0:=e0.trans (bds (x:=true) ((if_pos rfl).trans ((bds (ZGv (ZTC hok d s n))).trans rfl)));have e0:=e0.trans (bds (x:=true) ((if_pos rfl).trans ((bds (ZGv (ZS8 hok d s))).trans rfl)));have e0:=e0.trans (bds (x:=true) ((if_pos rfl).trans ((bds (ZGv (ZS9 hok n))).trans rfl)));have e0:=e0.trans (bds (x:=true) ((if_pos rfl).trans ((bds (ZGv (ZTA hok x))).trans rfl)));have e0:=e0.trans (bds (x:=true) ((if_pos rfl).trans ((bds (ZPg hs)).trans rfl)));exact e0.trans ((bds (x:=true) ((if_pos rfl).trans ((bds ZM3).trans rfl))).trans rfl)
end Go.Ai.Rab
end
