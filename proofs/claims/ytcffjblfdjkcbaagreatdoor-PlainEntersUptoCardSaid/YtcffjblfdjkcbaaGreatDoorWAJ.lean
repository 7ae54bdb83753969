/- My own texts DevPs1, DevTg21, DevTg22, DevTg23, DevPct, one behind the other. -/
import Derived.Test.YtcffjblfdjkcbaaGreatDoorWAE
import Derived.Shelf.Unicode.ValidAny
import Derived.Test.YtcffjblfdjkcbaaGreatDoorWAH
import Derived.Lib.AppendZerosOnto
import Derived.Lib.Overlaps
import Derived.Lib.Bytealg
import Derived.Test.YtcffjblfdjkcbaaGreatDoorWAI
set_option linter.unusedVariables false
set_option linter.unusedSimpArgs false
section
set_option maxRecDepth 100000
open Go.Ai.Enc (enc is)
open Go.Ai.Res (res ris)
open Go.Ai.Args (args)
namespace Go.Proofs
open Go.Shelf
def Tryz.lays196_ren:Go.Shelf.Ren:=⟨fun | 196=>87 | 259=>106 | n=>n,fun | 0=>0 | 3=>3 | 4=>4 | 5=>5 | 9=>9 | 12=>12 | 46=>118 | 53=>154 | 119=>159 | 138=>161 | 139=>162 | n=>n,fun | 3=>1 | 4=>2 | n=>n⟩
theorem Tryz.lays196:Go.Proofs.Lays.n196 Tryz.prog Tryz.lays196_ren:={
 mixed:=by kernel_rfl
 f196:=Tryz.func87.trans (congrArg some (by kernel_rfl))
 f259:=Tryz.func106.trans (congrArg some (by kernel_rfl))
 t0:=Tryz.underlying0
 a0:=Tryz.isAgg0
 z0:=Tryz.sizeOf0
 v0:=Tryz.zeroValue0
 t3:=Tryz.underlying3
 a3:=Tryz.isAgg3
 z3:=Tryz.sizeOf3
 v3:=Tryz.zeroValue3
 t4:=Tryz.underlying4
 a4:=Tryz.isAgg4
 z4:=Tryz.sizeOf4
 v4:=Tryz.zeroValue4
 t5:=Tryz.underlying5
 a5:=Tryz.isAgg5
 z5:=Tryz.sizeOf5
 v5:=Tryz.zeroValue5
 t9:=Tryz.underlying9
 a9:=Tryz.isAgg9
 z9:=Tryz.sizeOf9
 v9:=Tryz.zeroValue9
 t12:=Tryz.underlying12
 a12:=Tryz.isAgg12
 z12:=Tryz.sizeOf12
 v12:=Tryz.zeroValue12
 t46:=Tryz.underlying118
 a46:=Tryz.isAgg118
 z46:=Tryz.sizeOf118
 v46:=Tryz.zeroValue118
 t53:=Tryz.underlying154
 a53:=Tryz.isAgg154
 z53:=Tryz.sizeOf154
 v53:=Tryz.zeroValue154
 t119:=Tryz.underlying159
 a119:=Tryz.isAgg159
 z119:=Tryz.sizeOf159
 t138:=Tryz.underlying161
 a138:=Tryz.isAgg161
 z138:=Tryz.sizeOf161
 v138:=Tryz.zeroValue161
 t139:=Tryz.underlying162
 a139:=Tryz.isAgg162
 z139:=Tryz.sizeOf162
 v139:=Tryz.zeroValue162
 g3:=by kernel_rfl
 g4:=by kernel_rfl}
theorem Tryz.utf8_ValidString (s:ByteArray) (w:World) (hs:s.size≤9223372036854775807) (hT:Lib.Utf8Tabs 1 2 w):
  Calls Tryz.prog 87 #[.string s] w fun e w' =>e= .returned (.bool (Lib.validD s.data.toList))∧RowKit.Below w.heap.size w w' :=Any.utf8_ValidString Tryz.lays196 s w hs hT
end Go.Proofs
namespace Go.Ai.Rab
open Go.Proofs
def tab0:List AV:=(List.range 256).map fun c=> .int .u8 (Lib.firstT c)
def tab1:List AV:=(List.range 32).map fun c=> .int .u8 (if c % 2=0 then Lib.accLo (c / 2) else Lib.accHi (c / 2))
def NG (mx:Int):Glob:=fun g=>if g=0 then some [.ifc 168 (.agg [.gptr 4 70])] else if g=1 then some tab0 else if g=2 then some tab1 else if g=3 then some [.int .i64 mx] else none
theorem ZPC {w:World} {ρ:Pl} {U:Reg} {c:Nat}:∀{xs:List AV} {vs:List Value},RelL w ρ U c xs vs→∀(i:Nat) (x:AV),xs[i]? =some x→∃v,vs[i]? =some v∧Rel w ρ U c x v
 | [],vs,h,i,x,hx=>by simp at hx
 | y::xs,vs,h,i,x,hx=>by
  simp only[RelL] at h;obtain⟨v,us,rfl,h1,h2⟩:=h
  cases i with
  | zero=>simp at hx;subst hx;exact⟨v,rfl,h1⟩
  | succ i=>exact ZPC h2 i x (by simpa using hx)
theorem ZHu {w:World} {ρ:Pl} {U:Reg} {c:Nat} {G:Glob} (h:GlobOk w ρ U c G) {g i:Nat} {cs:List AV} (hg:G g=some cs) {k:IntKind} {n:Int} (hx:cs[i]? =some (.int k n)):w.cell? ⟨g,i,none⟩=some (.int k n):=by
 obtain⟨_,vs,h1,h2⟩:=h g cs hg;obtain⟨v,e,hv⟩:=ZPC h1 i _ hx;have:=(h2 i v e).1
 simp only[Rel] at hv;rw[this,hv]
theorem ZUu {w:World} {U:Reg} {mx:Int} (h:GlobOk w ρ0 U 0 (NG mx)):Lib.Utf8Tabs 1 2 w∧w.cell? ⟨3,0,none⟩=some (.int .i64 mx):=by
 refine⟨⟨fun c hc=> ?_,fun i hi=>⟨?_,?_⟩⟩,?_⟩
 ·exact ZHu h (g:=1) (cs:=tab0) rfl (by simp[tab0,hc])
 ·exact ZHu h (g:=2) (cs:=tab1) rfl (by
   have e:2*i<32:=by omega
   have e1:2*i % 2=0:=by omega
   have e2:2*i / 2=i:=by omega
   simp[tab1,e,e1,e2])
 ·exact ZHu h (g:=2) (cs:=tab1) rfl (by
   have e:2*i+1<32:=by omega
   have e1:¬(2*i+1) % 2=0:=by omega
   have e2:(2*i+1) / 2=i:=by omega
   simp[tab1,e,e1,e2])
 exact ZHu h (g:=3) (cs:=[.int .i64 mx]) rfl rfl
/-! ### utf8 -/
def ba (s:Str):ByteArray:=⟨List.toArray (show List UInt8 from s)⟩
def utf8_ValidString (s:Str):Option Bool:=if List.length s≤9223372036854775807 then some (Lib.validD s) else none
theorem ZUv {w:World} {ρ:Pl} {U:Reg} {c:Nat} {s:Str} {v:Value} (h:Rel w ρ U c (enc s) v):v= .string (ba s):=by
 have h:Rel w ρ U c (.str s) v:=h
 simp only[Rel] at h;exact h
theorem ZHN (mx:Int):ZAr Tryz.prog 87 (FnG (NG mx) (fun a:Str×Unit=>utf8_ValidString a.1)):=
 ⟨⟨_,Tryz.func87,rfl⟩,fun G xs v hv w U vs hU hG hr=>by
  obtain⟨rfl,⟨s,u⟩,r,rfl,h1,rfl⟩:=ZLJ hv;have h1:utf8_ValidString s=some r:=h1
  unfold utf8_ValidString at h1;split at h1
  ·rename_i hs;injection h1 with h1;subst h1
   simp only[args,RelL] at hr;obtain⟨v1,us,rfl,g1,rfl⟩:=hr;obtain rfl:=ZUv g1;refine(Tryz.utf8_ValidString (ba s) w (by show(List.toArray (show List UInt8 from s)).size≤_;rw[List.size_toArray];exact hs) (ZUu hG).1).mono fun e w' he=> ?_
   exact⟨_,he.1,by show Rel _ _ _ _ (.bool _) _;simp only[Rel];rfl,he.2⟩
  cases h1⟩
end Go.Ai.Rab
end
section
open Go.Ai.Enc (enc is)
open Go.Ai.Res (res ris)
open Go.Ai.Args (args)
namespace Go.Ai
open Go.Proofs
theorem ZRr {k:Nat} {sp:List AV}:∀(ys:List AV),(∀v∈ys,ZAq k v)→ZCl k (ys.flatMap AV.cells++sp) ys.length=ys:=by
 intro ys;induction ys with
 | nil=>intro _;rfl
 | cons v ys ih=>
  intro h;have hv:=(h v (by simp)).1
  have h1:=(h v (by simp)).2.2.1
  have h2:=(h v (by simp)).2.2.2
  have h0:=(h v (by simp)).2.1
  simp only[List.flatMap_cons,List.length_cons,ZCl,List.append_assoc];have e1:(v.cells++(ys.flatMap AV.cells++sp)).drop (esz k)=ys.flatMap AV.cells++sp:=by rw[←hv,List.drop_left]
  rw[e1,ih (fun w hw=>h w (by simp[hw]))]
  congr 1
  by_cases hk:k=0
  ·subst hk;simp only[if_true];have h3:=h1 rfl
   cases v<;> first | rfl | (simp[AV.one] at h3)
  simp only[if_neg hk];have h6:esz k=k:=by simp[esz,hk]
  rw[h6] at hv;have h3:=h2 hk;rw[←hv,List.take_left]
  cases v<;> first | rfl | (exfalso;simp[AV.cells,AV.one] at h0;done) | (simp[AV.one] at h3)

section
variable {s:St}
theorem ZGM {k a:Nat} {xs sp:List AV} (hx:∀v∈xs,ZAq k v) (ha:a≤xs.length):(ZAh xs sp).drop (a*esz k)=ZAh (xs.drop a) sp∧(ZAh xs sp).take (a*esz k)=(xs.take a).flatMap AV.cells:=by
 have hl:=ZBr (z:=esz k) (xs.take a) (fun v hv=>(hx v (List.mem_of_mem_take hv)).1)
 rw[List.length_take,Nat.min_eq_left ha] at hl;have e:ZAh xs sp=(xs.take a).flatMap AV.cells++ZAh (xs.drop a) sp:=by
  unfold ZAh;rw[←List.append_assoc,←List.flatMap_append,List.take_append_drop]
 rw[e];exact⟨by rw[←hl,List.drop_left],by rw[←hl,List.take_left]⟩
theorem ZOX {k m a b c:Nat} {xs sp:List AV} (hx:∀v∈xs,ZAq k v) (hg:hget s.h m=some (.cells (ZAh xs sp))) (hab:a≤b) (hb:b≤xs.length):elems (.hs k m (a*esz k) (b - a) c) s=some (k,(xs.take b).drop a):=by
 have hl:=ZBr (z:=esz k) xs (fun v hv=>(hx v hv).1)
 simp only[elems,hg];have h1:a*esz k+(b - a)*esz k≤(ZAh xs sp).length:=by
  rw[←Nat.add_mul,show a+(b - a)=b by omega]
  have:=Nat.mul_le_mul_right (esz k) hb
  simp only[ZAh,List.length_append,hl];omega
 rw[if_pos h1,(ZGM hx (by omega)).1]
 have e:ZAh (xs.drop a) sp=((xs.take b).drop a).flatMap AV.cells++ZAh (xs.drop b) sp:=by
  unfold ZAh;rw[←List.append_assoc,←List.flatMap_append];congr 2
  rw[List.drop_take];have:xs.drop b=(xs.drop a).drop (b - a):=by rw[List.drop_drop];congr 1;omega
  rw[this,List.take_append_drop]
 have hlen:((xs.take b).drop a).length=b - a:=by simp;omega
 rw[e];have:=ZRr (k:=k) (sp:=ZAh (xs.drop b) sp) ((xs.take b).drop a) (fun v hv=>hx v (List.mem_of_mem_take (List.mem_of_mem_drop hv)))
 rw[hlen] at this;rw[this]
theorem ZTC {k a:Nat} {xs vs sp:List AV} (hx:∀v∈xs,ZAq k v) (hv:∀v∈vs,ZAq k v) (h:a+vs.length≤xs.length):ZBx (ZAh xs sp) (a*esz k) (vs.flatMap AV.cells)=ZAh (xs.take a++vs++xs.drop (a+vs.length)) sp:=by
 have hl:=ZBr (z:=esz k) vs (fun v h=>(hv v h).1)
 unfold ZBx;rw[hl,←Nat.add_mul,(ZGM hx (by omega)).2,(ZGM hx (by omega)).1]
 simp[ZAh,List.flatMap_append,List.append_assoc]
theorem ZHO {k m:Nat} {ys sp:List AV} (ho:∀y∈sp,y.one=true) (h:m*esz k≤sp.length):ZAh ys sp=ZAh (ys++ZCl k sp m) (sp.drop (m*esz k))∧(∀v∈ZCl k sp m,ZAq k v)∧(ZCl k sp m).length=m:=by
 have key:∀(m:Nat) (sp:List AV),(∀y∈sp,y.one=true)→m*esz k≤sp.length→(ZCl k sp m).flatMap AV.cells=sp.take (m*esz k)∧∀v∈ZCl k sp m,ZAq k v:=by
  intro m;induction m with
  | zero=>intro sp _ _;simp[ZCl]
  | succ m ih=>
   intro sp ho h;rw[Nat.succ_mul] at h;obtain⟨i1,i2⟩:=ih (sp.drop (esz k)) (fun y hy=>ho y (List.mem_of_mem_drop hy)) (by simp;omega)
   have hz:=ZEj k;have hc:(if k=0 then sp.headD .undef else .agg (sp.take k)).cells=sp.take (esz k)∧ZAq k (if k=0 then sp.headD .undef else .agg (sp.take k)):=by
    by_cases hk:k=0
    ·subst hk
     cases sp with
     | nil=>simp[esz] at h
     | cons y sp=>
      have hy:=ho y (by simp)
      have e:y.cells=[y]:=by cases y<;> first | rfl | (simp[AV.one] at hy)
      simp only[if_true,List.headD_cons,esz,List.take_succ_cons,List.take_zero];exact⟨e,by rw[e];rfl,fun x hx=>by rw[e] at hx;simp at hx;subst hx;exact hy,fun _=>hy,fun h=>absurd rfl h⟩
    have h6:esz k=k:=by simp[esz,hk]
    simp only[if_neg hk,AV.cells];refine⟨by rw[h6],?_,fun x hx=>ho x (List.mem_of_mem_take hx),fun h=>absurd h hk,fun _=>rfl⟩
    simp only[AV.cells,List.length_take,h6];rw[h6] at h;omega
   refine⟨?_,?_⟩
   ·simp only[ZCl,List.flatMap_cons,hc.1,i1];rw[Nat.succ_mul,Nat.add_comm,List.take_add]
   intro v hv;simp only[ZCl,List.mem_cons] at hv;rcases hv with rfl | hv
   ·exact hc.2
   exact i2 v hv
 obtain⟨k1,k2⟩:=key m sp ho h;refine⟨?_,k2,ZEU⟩
 simp only[ZAh,List.flatMap_append,k1,List.append_assoc,List.take_append_drop]
end
section
variable {P:Program} {prims:Prims} {n:Nat} {bb:Bool} {K:Fm→St→Prop} {φ:Fm} {s:St} {ops:Array Oper} {l:List Oper} {d:Tmp} {ty t t' e:TypeId} {pos:String} {af:Array Edge} {x y z:Operand} {u v w:AV}
variable {k m off len cap:Nat} {es:List En} {xs sp ys:List AV} {k1 k2:IntKind}
theorem ZOY {a:Nat} (hs:Hp s (.cells m (ZAh xs sp)::es)) (hx:∀v∈xs,ZAq k v) (hv:∀v∈ys,ZAq k v) (h:a+ys.length≤xs.length):
  ZCI m (a*esz k) (ys.flatMap AV.cells) s=some (s.put m (.cells (ZAh (xs.take a++ys++xs.drop (a+ys.length)) sp)))∧Hp (s.put m (.cells (ZAh (xs.take a++ys++xs.drop (a+ys.length)) sp))) (.cells m (ZAh (xs.take a++ys++xs.drop (a+ys.length)) sp)::es):=by
 have hg:hget s.h m=some (.cells (ZAh xs sp)):=hs.get rfl
 have hl:=ZBr (z:=esz k) xs (fun v hv=>(hx v hv).1)
 have hl2:=ZBr (z:=esz k) ys (fun v h=>(hv v h).1)
 refine⟨?_,Hp.put hs rfl rfl⟩
 simp only[ZCI,hg];have h1:a*esz k+(ys.flatMap AV.cells).length≤(ZAh xs sp).length:=by
  rw[hl2,←Nat.add_mul];have:=Nat.mul_le_mul_right (esz k) h
  simp only[ZAh,List.length_append,hl];omega
 rw[if_pos ⟨h1,List.all_eq_true.2 (fun y hy=>by
  obtain⟨v,hv',hy⟩:=List.mem_flatMap.1 hy;exact(hv v hv').2.1 y hy)⟩,ZTC hx hv h]
theorem ZHv {a b:Nat} (hx:∀v∈xs,ZAq k v) (hv:∀v∈ys,ZAq k v):∀v∈xs.take a++ys++xs.drop b,ZAq k v:=by
 intro v h;rcases List.mem_append.1 h with h | h
 ·rcases List.mem_append.1 h with h | h
  ·exact hx v (List.mem_of_mem_take h)
  exact hv v h
 exact hx v (List.mem_of_mem_drop h)
theorem ZT4 {lo hi mx:Option Operand} {lo' hi' mx' :Option AV} {a b2 c:Nat} (hu:P.underlying t=some (.slice e)) (hsh:ZBE P e=some k) (hx:ZAa n φ x=some (.hs k m off len cap)) (hlo:ZFo n φ lo=some lo') (hhi:ZFo n φ hi=some hi') (hmx:ZFo n φ mx=some mx') (hb:bnds len cap lo' hi' mx' =some (a,b2,c)) (hc:len≤cap)
  (kk:TO P prims n bb ops l K (upd φ d (.hs k m (if c=a then off else off+a*esz k) (b2 - a) (c - a))) s):TO P prims n bb ops (⟨some d, .slice t x lo hi mx,ty,pos,af,none⟩::l) K φ s:=
 ZBC rfl rfl (fun _=>ZGc (ZAP hx) (ZCC hlo) (ZCC hhi) (ZCC hmx) (by simp only[ZEx,hu,hsh,oC,Option.bind_some,ne_eq,not_true_eq_false,if_false,hb];rw[if_neg (by omega)])) kk
theorem ZFa {j:Nat} (hu:P.underlying t=some (.slice e)) (hsh:ZBE P e=some k) (hx:ZAa n φ x=some (.hs k m 0 len cap)) (hy:ZAa n φ y=some (.int k1 j)) (hj:j≤cap) (hc:len≤cap)
  (kk:TO P prims n bb ops l K (upd φ d (.hs k m 0 j cap)) s):TO P prims n bb ops (⟨some d, .slice t x none (some y) none,ty,pos,af,none⟩::l) K φ s:=by
 refine ZBC rfl rfl (fun _=>ZGc (ZAP hx) rfl (ZCC (ZA6 hy)) rfl (v:= .hs k m 0 j cap) ?_) kk
 simp only[ZEx,hu,hsh,oC,Option.bind_some,ne_eq,not_true_eq_false,if_false,bnds,bnd,Option.isSome_none,Bool.false_eq_true,false_and];rw[if_pos ⟨by omega,by omega⟩]
 simp only[Option.bind_some,Int.toNat_natCast];rw[if_neg (by omega)]
 simp
theorem ZCS {i:Nat} (hu:P.underlying t=some (.slice e)) (hsh:ZBE P e=some k) (hx:ZAa n φ x=some (.hs k m 0 len cap)) (hy:ZAa n φ y=some (.int k1 i)) (hi:i≤len) (hc:len≤cap) (hn:i<cap)
  (kk:TO P prims n bb ops l K (upd φ d (.hs k m (i*esz k) (len - i) (cap - i))) s):TO P prims n bb ops (⟨some d, .slice t x (some y) none none,ty,pos,af,none⟩::l) K φ s:=by
 refine ZBC rfl rfl (fun _=>ZGc (ZAP hx) (ZCC (ZA6 hy)) rfl rfl (v:= .hs k m (i*esz k) (len - i) (cap - i)) ?_) kk
 simp only[ZEx,hu,hsh,oC,Option.bind_some,ne_eq,not_true_eq_false,if_false,bnds,bnd,Option.isSome_none,Bool.false_eq_true,false_and];rw[if_pos ⟨by omega,by omega⟩]
 simp only[Option.bind_some,Int.toNat_natCast];rw[if_neg (by omega),if_neg (by omega)]
 simp
theorem ZEs {i:Nat} (hu:P.underlying t=some (.slice e)) (hsh:ZBE P e=some k) (hx:ZAa n φ x=some (.hs k m 0 len cap)) (hy:ZAa n φ y=some (.int k1 i)) (hi:i≤len) (hc:len≤cap) (hs:Hp s (.cells m (ZAh xs sp)::es)) (hxs:∀v∈xs,ZAq k v) (hl:len≤xs.length)
  (kk:∀v,ZCh k v s=some ((xs.take len).drop i)→TO P prims n bb ops l K (upd φ d v) s):TO P prims n bb ops (⟨some d, .slice t x (some y) none none,ty,pos,af,none⟩::l) K φ s:=by
 have hg:hget s.h m=some (.cells (ZAh xs sp)):=hs.get rfl
 by_cases hn:i<cap
 ·refine ZCS hu hsh hx hy hi hc hn (kk _ ?_)
  simp only[ZCh];rw[ZOX hxs hg hi hl];simp
 have h1:i=cap:=by omega
 have h2:len=cap:=by omega
 subst h1;subst h2;refine ZBC rfl rfl (fun _=>ZGc (ZAP hx) (ZCC (ZA6 hy)) rfl rfl (v:= .hs k m 0 0 0) ?_) (kk _ ?_)
 ·simp only[ZEx,hu,hsh,oC,Option.bind_some,ne_eq,not_true_eq_false,if_false,bnds,bnd,Option.isSome_none,Bool.false_eq_true,false_and];rw[if_pos ⟨by omega,by omega⟩]
  simp
 simp only[ZCh];have:=ZOX (a:=0) (b:=0) (c:=0) hxs hg (Nat.le_refl _) (Nat.zero_le _)
 simp only[Nat.zero_mul,Nat.sub_self] at this;rw[this];simp[List.drop_of_length_le,Nat.min_le_left]
theorem ZKp {ts:Array TypeId} (hu:P.underlying t=some (.slice e)) (ht:ts[0]? =some t) (hx:ZAa n φ x=some (.hs k m off len cap)) (kk:TO P prims n bb ops l K (upd φ d (.int .i64 len)) s):TO P prims n bb ops (⟨some d, .call ⟨.builtin .len, #[x],ts⟩,ty,pos,af,none⟩::l) K φ s:=
 ZBC rfl rfl (fun _=>ZO3 (ZAP hx) ht (by simp[aLen,hu])) kk
theorem ZOZ {ts:Array TypeId} (hu:P.underlying t=some (.slice e)) (ht:ts[0]? =some t) (hx:ZAa n φ x=some (.hs k m off len cap)) (kk:TO P prims n bb ops l K (upd φ d (.int .i64 cap)) s):TO P prims n bb ops (⟨some d, .call ⟨.builtin .cap, #[x],ts⟩,ty,pos,af,none⟩::l) K φ s:=
 ZBC rfl rfl (fun _=>by simp[aOp,ZB6,ZAP hx,ZCZ,ht,aCap,hu]) kk
theorem ZFq {ts:Array TypeId} {a q c:Nat} (hu:P.underlying t=some (.slice e)) (ht:ts[0]? =some t) (hsh:ZBE P e=some k) (hx:ZAa n φ x=some (.hs k m (a*esz k) q c)) (hy:ZAa n φ y=some v) (hsrc:ZCh k v s=some ys) (hs:Hp s (.cells m (ZAh xs sp)::es))
  (hxs:∀v∈xs,ZAq k v) (hys:∀v∈ys,ZAq k v) (hq:a+q≤xs.length)
  (kk:∀r s',Hp s' (.cells m (ZAh (xs.take a++ys.take (min ys.length q)++xs.drop (a+min ys.length q)) sp)::es)→TO P prims n bb ops l K (upd φ d r) s'):TO P prims n bb ops (⟨some d, .call ⟨.builtin .copy, #[x,y],ts⟩,ty,pos,af,none⟩::l) K φ s:=by
 have hl:(ys.take (min ys.length q)).length=min ys.length q:=by simp
 obtain⟨h1,h2⟩:=ZOY (a:=a) (ys:=ys.take (min ys.length q)) hs hxs (fun v hv=>hys v (List.mem_of_mem_take hv)) (by rw[hl];omega)
 rw[hl] at h1 h2;refine ZBC rfl rfl (fun _=> ?_) (kk (.int .i64 ((min ys.length q:Nat):Int)) _ h2)
 simp only[aOp,ZB6,List.mapM_cons,List.mapM_nil,ZAP hx,ZAP hy,oC,Option.bind_some,Option.pure_def,ZCZ,ZSe,ht,hu,hsh,hsrc,ne_eq,not_true_eq_false,if_false,h1]
theorem ZRs {ts:Array TypeId} {by_:Nat} (hu:P.underlying t=some (.slice e)) (hu' :P.underlying t' =some (.slice e)) (ht:ts[0]? =some t) (ht1:ts[1]? =some t') (he:EF P e k by_) (hx:ZAa n φ x=some (.hs k m 0 len cap)) (hy:ZAa n φ y=some v) (hsrc:ZCh k v s=some ys) (hs:Hp s (.cells m (ZAh xs sp)::es))
  (hxs:∀v∈xs,ZAq k v) (hys:∀v∈ys,ZAq k v) (hq:len+ys.length≤xs.length) (hc:xs.length≤cap)
  (kk:∀s',Hp s' (.cells m (ZAh (xs.take len++ys++xs.drop (len+ys.length)) sp)::es)→TO P prims n bb ops l K (upd φ d (.hs k m 0 (len+ys.length) cap)) s'):TO P prims n bb ops (⟨some d, .call ⟨.builtin .append, #[x,y],ts⟩,ty,pos,af,none⟩::l) K φ s:=by
 obtain⟨i,hi,hi1,hi2⟩:=he.info;obtain⟨z,hz,hz1,hz2⟩:=he.zero;obtain⟨h1,h2⟩:=ZOY (a:=len) hs hxs hys hq;by_cases hye:ys.isEmpty=true
 ·have hy0:ys=[]:=List.isEmpty_iff.1 hye
  subst hy0;refine ZBC rfl rfl (fun _=>ZHa (ZAP hx) (ZAP hy) (v:= .hs k m 0 len cap) (s' :=s) ?_) ?_
  ·simp only[ZCc,ht,ht1,hu,hu',he.sh,hi,hz,hz1,hsrc,oC,Option.bind_some,ne_eq,not_true_eq_false,if_false,List.isEmpty_nil,if_true];rw[if_neg (by omega)]
  have:=kk s (by simpa using hs)
  simpa using this
 have hye' :ys.isEmpty=false:=by simpa using hye
 refine ZBC rfl rfl (fun _=>ZHa (ZAP hx) (ZAP hy) ?_) (kk _ h2)
 simp only[ZCc,ht,ht1,hu,hu',he.sh,hi,hz,hz1,hsrc,oC,Option.bind_some,ne_eq,not_true_eq_false,if_false,hye',Bool.false_eq_true];rw[if_neg (by omega),if_pos (by omega),Nat.zero_add,h1]
 rfl
end
section
variable {P:Program} {prims:Prims} {n:Nat} {K:Fm→St→Prop} {φ:Fm} {s:St} {ops:Array Oper} {l:List Oper} {d:Tmp} {ty t t' e:TypeId} {pos:String} {af:Array Edge} {x y z:Operand} {u v w:AV}
variable {k m off len cap:Nat} {es:List En} {xs sp ys:List AV} {k1 k2:IntKind}
theorem ZLi {wd:World} {ρ:Pl} {U:Reg} {c:Nat} {a:AV} {zv:Value} (ha:ZAq k a) (hr:Rel wd ρ U c a zv):∀q,RelC wd ρ U c k (List.replicate q a) ((List.replicate q zv.cells.toList).flatten)
 | 0=>by simp[RelC]
 | q+1=>by
  simp only[List.replicate_succ,List.flatten_cons,RelC];exact⟨zv,_,rfl,ha,hr,ZLi ha hr q⟩
theorem ZGs (z:Array Value) (q:Nat) (hz:0<z.size):(Builtin.zeroCells z q).toList=(List.replicate q z.toList).flatten:=ZHV z q hz
theorem ZRt {ts:Array TypeId} {by_ i q:Nat} {a:AV} (hu:P.underlying t=some (.slice e)) (hu' :P.underlying t' =some (.int k2)) (ht:ts[0]? =some t) (ht1:ts[1]? =some t') (hts:ts.size=2) (he:EF P e k by_) (hz:ZBd P e=some a) (hok:ZAq k a) (hx:ZAa n φ x=some (.hs k m 0 i cap)) (hy:ZAa n φ y=some (.int k1 q))
  (hs:Hp s (.cells m (ZAh xs sp)::es)) (hxs:∀v∈xs,ZAq k v) (hi:i≤xs.length) (hq:0<q) (hg:cap<i+q) (hr:ZEw (i+q) by_=true)
  (kk:∀m' newCap zs s',i+q≤newCap→zs.length=(newCap - (i+q))*esz k→(∀y∈zs,y.one=true)→Hp s' (.cells m' (ZAh (xs.take i++List.replicate q a) zs):: .cells m (ZAh xs sp)::es)→TO P prims n false ops l K (upd φ d (.hs k m' 0 (i+q) newCap)) s'):
  TO P prims n false ops (⟨some d, .call ⟨.builtin .append, #[x,y],ts⟩,ty,pos,af,none⟩::l) K φ s:=by
 obtain⟨inf,hin,hi1,hi2⟩:=he.info;obtain⟨r1,r2⟩:=ZDz hr;have hg0:hget s.h m=some (.cells (ZAh xs sp)):=hs.get rfl
 have hel:=ZOX (a:=0) (b:=i) (c:=cap) hxs hg0 (Nat.zero_le _) hi;simp only[Nat.zero_mul,Nat.sub_zero,List.drop_zero] at hel;refine ZHd rfl rfl (fun _=>rfl) fun hp base ρ X wd ac A B hba hsim hrl hd hA=> ?_
 have hxr:=ZAW hrl (ZAP hx);have hyr:=ZAW hrl (ZAP hy);have hsrc:ZCh k (.hs k m 0 i cap) s=some (xs.take i):=by simp only[ZCh,hel,oC,Option.bind_some,if_true]
 obtain⟨cs,hcs,hlen,hfirst⟩:=ZGa (P:=P) hsim hxr hsrc;have htl:(xs.take i).length=i:=by simp;omega
 have hcl:=hcs.length;rw[htl] at hcl;simp only[Rel] at hxr hyr;obtain⟨hmc,hxe⟩:=hxr;obtain⟨i',hi',zv,hzv,hz'⟩:∃i',P.info? e=some i' ∧∃zv,i'.zero=some zv∧ZMR zv=some a:=by
  simp only[ZBd,oC,oB] at hz;exact hz
 rw[hin] at hi';injection hi' with hi';subst hi'
 have hzrel:=ZD7 (w:=wd) (ρ:=ρ) (U:=UX ρ s.h X) (c:=s.c) hz';have hzs' :zv.cells.size=esz k:=by rw[hzrel.cells_size,hok.1]
 have hzp:0<zv.cells.size:=by rw[hzs'];exact ZEj _
 have hisz:inf.size=esz k:=by
  have:=(ZBA he.sh).1
  simp only[szT,hin,Option.map_some,Option.some.injEq] at this;exact this
 have hold:(Builtin.firstCells inf.size i (.slice (some ⟨(ρ m).1,0,none⟩) i cap)).run P wd.drew= .ok cs.toArray wd.drew:=by
  have:=hfirst wd.drew (fun _ _ hu=>hu) i (by rw[htl];exact Nat.le_refl _)
  rw[hisz];have e1:cs.take (i*esz k)=cs:=List.take_of_length_le (by omega)
  rw[e1,hxe] at this;exact this
 have hby:inf.bytes=by_:=hi2
 have hle1:Builtin.nextslicecap (i+q) cap≤2*(i+q)+1000:=ZKe hg
 have hb1:by_≤137438953472:=by
  have h1:1*by_≤(i+q)*by_:=Nat.mul_le_mul_right _ (by omega)
  omega
 have hfit:Builtin.nextslicecap (i+q) cap*inf.bytes≤281474976710656:=by
  rw[hby];have h1:=Nat.mul_le_mul_right by_ hle1;have h2:(2*(i+q)+1000)*by_=2*((i+q)*by_)+1000*by_:=by rw[Nat.add_mul,Nat.mul_assoc]
  omega
 have h48:q*inf.bytes≤281474976710656:=by
  rw[hby];have h1:q*by_≤(i+q)*by_:=Nat.mul_le_mul_right _ (by omega)
  omega
 have hrun:=Lib.run_append_grow_zeros wd t t' ty e inf zv k1 k2 hu hu' hin hzv (some ⟨(ρ m).1,0,none⟩) i cap cs hold q hq (by rw[hisz];exact ZEj _) hg (by omega) h48 hfit
 obtain⟨G,hG⟩:∃G,G=grownCap wd (i+q) cap e:=⟨_,rfl⟩;have hGn:i+q≤G:=by rw[hG];exact grownCap_ge wd _ _ _
 rw[←hG] at hrun;have hts' :ts= #[t,t']:=by
  obtain⟨tl⟩:=ts;have h2:tl.length=2:=by simpa using hts
  match tl,h2,ht,ht1 with
  | [p,q],_,ht,ht1=>simp at ht ht1;simp[ht,ht1]
 have hus:=ZLi (wd:=wd) (ρ:=ρ) (U:=UX ρ s.h X) (c:=s.c) hok hzrel q;have hpost:=ZKj (e:=e) (newCap:=G) hba hsim hcs hus (fun v hv=>hxs v (List.mem_of_mem_take hv)) (fun v hv=>by rw[List.eq_of_mem_replicate hv];exact hok) hzrel.cells (fun y hy=>hok.2.1 y hy) hzp (by simp[Nat.min_eq_left hi];exact hGn)
 simp only[htl,List.length_replicate] at hpost;refine ZDU (v' := .slice (some ⟨wd.heap.size,0,none⟩) (i+q) G) (w' :=wd.drew.alloc (.cells (cs.toArray++(List.replicate q zv.cells.toList).flatten.toArray++Builtin.zeroCells zv.cells (G - (i+q))) e)) ?_ ?_
 ·have hex:execOp ac.eval ⟨some d, .call ⟨.builtin .append, #[x,y],ts⟩,ty,pos,af,none⟩=(do pure (.value (←Builtin.append_ ts ty #[ac.eval x,ac.eval y])):Sem Next):=by
   simp only[execOp,resolve,pure_bind,invoke,List.map_toArray,List.map_cons,List.map_nil];rfl
  rw[hex,hts',hxe,hyr];have e2:(List.replicate q zv.cells.toList).flatten.toArray=Builtin.zeroCells zv.cells q:=by
   apply Array.ext'
   rw[ZGs _ _ hzp]
  rw[e2];simp[hrun]
 refine hA _ _ _ _ (kk s.c G _ _ hGn ?_ ?_ (Hp.new hs _ _ rfl)) hpost
 ·simp[List.length_flatten,hok.1]
 intro y hy;obtain⟨q1,hq1,hq2⟩:=List.mem_flatten.1 hy;obtain⟨_,rfl⟩:=List.mem_replicate.1 hq1;exact hok.2.1 y hq2
theorem ZRu {ts:Array TypeId} {a q c:Nat} {za:AV} (hu:P.underlying t=some (.slice e)) (ht:ts[0]? =some t) (hsz:ZBd P e=some za) (hok:ZAq k za) (hx:ZAa n φ x=some (.hs k m (a*esz k) q c)) (hs:Hp s (.cells m (ZAh xs sp)::es)) (hxs:∀v∈xs,ZAq k v) (hq:a+q≤xs.length) (hq0:0<q)
  (kk:∀s',Hp s' (.cells m (ZAh (xs.take a++List.replicate q za++xs.drop (a+q)) sp)::es)→TO P prims n false ops l K φ s'):TO P prims n false ops (⟨none, .call ⟨.builtin .clear, #[x],ts⟩,ty,pos,af,none⟩::l) K φ s:=by
 obtain⟨h1,h2⟩:=ZOY (a:=a) (ys:=List.replicate q za) hs hxs (fun v hv=>by rw[List.eq_of_mem_replicate hv];exact hok) (by simpa using hq)
 simp only[List.length_replicate] at h1 h2;refine ZHd rfl rfl (fun _=>rfl) fun hp base ρ X wd ac A B hba hsim hrl hd hA=> ?_
 have hxr:=ZAW hrl (ZAP hx);simp only[Rel] at hxr;obtain⟨hmc,hxe⟩:=hxr;obtain⟨inf,hin,zv,hzv,hz'⟩:∃i',P.info? e=some i' ∧∃zv,i'.zero=some zv∧ZMR zv=some za:=by
  simp only[ZBd,oC,oB] at hsz;exact hsz
 have hzrel:=ZD7 (w:=wd) (ρ:=ρ) (U:=UX ρ s.h X) (c:=s.c) hz';have hzs' :zv.cells.size=esz k:=by rw[hzrel.cells_size,hok.1]
 have hus:=(ZLi (wd:=wd) (ρ:=ρ) (U:=UX ρ s.h X) (c:=s.c) hok hzrel q).cells;obtain⟨w',hr,hpo⟩:=ZET (P:=P) hsim hus h1;have hzr:(zeroValue e).run P wd= .ok zv wd:=by simp[zeroValue,typeInfo,hin,hzv]
 refine ZDU (v' := .tuple #[]) (w' :=w') ?_ (hA .undef _ _ w' (kk _ h2) (hpo _ _ (by simp[Rel,RelL])))
 have hex:execOp ac.eval ⟨none, .call ⟨.builtin .clear, #[x],ts⟩,ty,pos,af,none⟩=(do pure (.value (←Builtin.clear_ ts ty #[ac.eval x])):Sem Next):=by
  simp only[execOp,resolve,pure_bind,invoke,List.map_toArray,List.map_cons,List.map_nil];rfl
 rw[hex,hxe];have hcl:(Builtin.clear_ ts ty #[.slice (some ⟨(ρ m).1,a*esz k,none⟩) q c]).run P wd= .ok (.tuple #[]) w' :=by
  obtain⟨q',rfl⟩:∃q',q=q' +1:=⟨q - 1,by omega⟩
  have e2:(Builtin.zeroCells zv.cells (q' +1)).toList=(List.replicate (q' +1) zv.cells.toList).flatten:=ZGs _ _ (by rw[hzs'];exact ZEj _)
  simp only[Builtin.clear_,ht,List.getElem?_toArray,List.getElem?_cons_zero,run_underlying hu,Sem.run_bind,Result.andThen_ok,hzr,e2,hr,Sem.run_pure]
 simp[hcl]
theorem ZIu {wd:World} {tS tR:TypeId} (hu:P.underlying tS=some (.slice e)) {size:Nat} (hz:∀w,(sizeOf e).run P w= .ok size w) {a b:Addr} {la ca lb cb:Nat} (hne:a.block≠b.block) {CA CB:Array Value} {tA tB:TypeId} {fA fB:Nat×Nat}
  (hA:wd.heap[a.block]? =some (.cells CA tA fA)) (hB:wd.heap[b.block]? =some (.cells CB tB fB)) (hkA:0<CA.size) (hth:thawedE CB fB) (hbo:b.off≤CB.size):
  (Extern.SlicesOverlaps.overlaps #[tS,tS] #[tR] #[.slice (some a) la ca, .slice (some b) lb cb]).run P wd= .ok (.bool false) wd:=by
 have hnb:(a.block !=b.block)=true:=by simpa using hne
 have hnb' :(a.block==b.block)=false:=by simpa using hne
 have hsa:wd.shape? a.block=some (tA,CA.size):=by unfold World.shape?;rw[hA]
 have hsb:wd.shape? b.block=some (tB,CB.size):=by unfold World.shape?;rw[hB]
 have hfb:wd.frozen? b=false:=by
  unfold World.frozen?;rw[hB];have:=hth b.off hbo
  simpa using this
 have hfe:wd.frozen? ⟨b.block,CB.size,none⟩=false:=by
  unfold World.frozen?;rw[hB];have:=hth CB.size (Nat.le_refl _)
  simpa using this
 obtain⟨q,hq⟩:∃q,CA.size=q+1:=⟨CA.size - 1,by omega⟩
 rw[hq] at hsa;change Sem.run P (α:=Value) (do
  let some t:=(#[tS,tS]:Array TypeId)[0]? | stuck "slices.overlaps: no parameter types"
  let .slice elem ←underlying t | stuck "slices.overlaps: slice type expected"
  let size ←sizeOf elem
  match (some a:Option Addr),(some b:Option Addr) with
  | some a,some b=>
   if la=0∨lb=0∨size=0 then pure (Value.bool false)
   else if a.block !=b.block && (←frozen a) && (←frozen b) then unsupported .addressObserved
   else do
    if a.block !=b.block then do
     noView a;noView b
     if ←mayBeOne a b then return Value.bool ((←choose (.extern "sameAddr.stringBytes" 2))==1)
    pure (Value.bool (a.block==b.block && a.off<b.off+lb*size && b.off<a.off+la*size))
  | _,_=>pure (Value.bool false)) wd=_
 by_cases h0:la=0∨lb=0∨size=0
 ·simp[run_underlying hu,hz,h0]
 cases hfa:wd.frozen? a<;> cases hfk:wd.frozen? ⟨a.block,q+1,none⟩<;> simp[run_underlying hu,hz,h0,hnb,hnb',frozen,noView,viewAt,mayBeOne,stringish,shape,Sem.run,hsa,hsb,hfa,hfb,hfe,hfk]
theorem ZRv {g:FuncId} {fn:Func} {ts:Array TypeId} {tR:TypeId} {a q c:Nat} {us:List AV} {cp:Cap} (hf:P.funcs[g]? =some fn) (h1:(fn.name== "runtime.NumGoroutine")=false) (h2:fn.body.isNone=true) (h3:Extern.findNext fn=none) (h4:Extern.find fn=some (Extern.SlicesOverlaps.overlaps #[t,t] #[tR]))
  (hu:P.underlying t=some (.slice e)) (hsh:ZBE P e=some k) (hx:ZAa n φ x=some (.vec k us cp)) (hus:us≠[]) (hy:ZAa n φ y=some (.hs k m (a*esz k) q c)) (hs:Hp s (.cells m (ZAh xs sp)::es)) (hxs:∀v∈xs,ZAq k v) (ha:a≤xs.length)
  (kk:TO P prims n false ops l K (upd φ d (.bool false)) s):TO P prims n false ops (⟨some d, .call ⟨.value (.func g), #[x,y],ts⟩,ty,pos,af,none⟩::l) K φ s:=by
 refine ZHd rfl rfl (fun hp=>by
  show(prims g).isSome=false
  cases hg:prims g with
  | none=>rfl
  | some F=>
   obtain⟨⟨fn',hf',he'⟩,_⟩:=hp g F hg;rw[hf] at hf';injection hf' with hf';subst hf'
   simp[ZCo] at he'
   rw[Option.isNone_iff_eq_none] at h2;rw[h2] at he';simp at he') fun hp base ρ X wd ac A B hb hsim hrl hdf hA=> ?_
 have hr:=ZAW hrl (ZAP hx);have hr2:=ZAW hrl (ZAP hy);simp only[Rel] at hr hr2;obtain⟨aa,ca,cs,hv,hca,hcs,hrow,_⟩:=hr;obtain⟨hm,hv2⟩:=hr2;obtain⟨C,tB,fB,g1,g2,g3,g4⟩:=hsim.obj m _ (hs.get rfl);have hcl:=hcs.length;have hup:0<us.length:=List.length_pos_iff.2 hus
 have hcp:0<cs.length:=by rw[hcl];exact Nat.mul_pos hup (ZEj k)
 obtain⟨hc0,hn0⟩:=hrow 0 cs[0] (List.getElem?_eq_getElem hcp);have hadd:aa.add 0=aa:=by cases aa;rfl
 rw[hadd] at hc0;have hne:aa.block≠(ρ m).1:=fun he=>hn0 (.inl ⟨m,_,hs.get rfl,he.symm,trivial⟩)
 obtain⟨CA,tA,fA,hA1,hA2⟩:∃CA tA fA,wd.heap[aa.block]? =some (.cells CA tA fA)∧0<CA.size:=by
  unfold World.cell? at hc0;split at hc0
  ·rename_i C' t' f' heq;refine⟨C',t',f',heq,?_⟩
   by_cases h:0<C'.size
   ·exact h
   exfalso
   have:C' = #[]:=by apply Array.eq_empty_of_size_eq_zero;omega
   subst this;revert hc0
   simp
  cases hc0
 have hsz:=(ZBA hsh).1;have hl:=ZBr (z:=esz k) xs (fun v hv=>(hxs v hv).1)
 have hoff:a*esz k≤C.size:=by
  have h5:=g3.length;have h6:=Nat.mul_le_mul_right (esz k) ha;simp only[ZAh,List.length_append,hl,Array.length_toList] at h5;omega
 refine ZDU (v' := .bool false) (w' :=wd) ?_ (hA _ _ _ wd kk (.same hsim (by simp only[Rel])))
 show(execOp ac.eval _).run P wd=_
 have e0:ac.eval (.func g)= .func (.func g) #[] #[]:=rfl
 simp only[execOp,resolve,e0,Deferred.ofValue,pure_bind,invoke];have hm:(#[]++(#[x,y].map ac.eval)++ #[]:Array Value)= #[ac.eval x,ac.eval y]:=by simp
 have hov:=ZIu (P:=P) (wd:=wd) (tS:=t) (tR:=tR) hu (fun w=>ZAf hsz w) (a:=aa) (b:=⟨(ρ m).1,a*esz k,none⟩) (la:=us.length) (ca:=ca) (lb:=q) (cb:=c) hne hA1 g1 hA2 g2 hoff
 first
  | rw[hm,run_callFunc_extern hf h1 h2 h3 h4,hv,hv2,hov];rfl
  | (simp only[Array.append_empty,Array.empty_append];rw[run_callFunc_extern hf h1 h2 h3 h4];simp[hv,hv2,hov,Result.andThen])
end
end Go.Ai
end
section
open Go.Ai.Enc (enc is)
open Go.Ai.Res (res ris)
open Go.Ai.Args (args)
namespace Go.Ai
open Go.Proofs
def ins {α:Type} (by_:Nat) (s:List α) (i:Int) (v:List α):Option (List α):=if 0≤i∧i≤s.length∧ZEw (s.length+v.length) by_=true then some (s.take i.toNat++v++s.drop i.toNat) else none
def del {α:Type} (s:List α) (i j:Int):Option (List α):=if 0≤i∧i≤j∧j≤s.length∧s.length≤137438953472 then some (s.take i.toNat++s.drop j.toNat) else none
theorem ZLj {α:Type} {by_:Nat} {s v r:List α} {i:Int} (h:ins by_ s i v=some r):∃j:Nat,i=j∧j≤s.length∧ZEw (s.length+v.length) by_=true∧r=s.take j++v++s.drop j:=by
 unfold ins at h;split at h
 ·rename_i hc;injection h with h
  exact⟨i.toNat,by omega,by omega,hc.2.2,h.symm⟩
 cases h
theorem ZLk {α:Type} {s r:List α} {i j:Int} (h:del s i j=some r):∃a b:Nat,i=a∧j=b∧a≤b∧b≤s.length∧s.length≤137438953472∧r=s.take a++s.drop b:=by
 unfold del at h;split at h
 ·rename_i hc;injection h with h
  exact⟨i.toNat,j.toNat,by omega,by omega,by omega,by omega,hc.2.2.2,h.symm⟩
 cases h
theorem ZC6 {P:Program} {t:TypeId} {a b:Int} {c1 c2:Bool} (h: -9223372036854775808≤a+b∧a+b≤9223372036854775807):ZC5 P .add t (.int .i64 a) (.int .i64 b) c1 c2=some (.int .i64 (a+b)):=by
 show some (AV.int .i64 (IntKind.i64.wrap (a+b)))=_
 rw[show IntKind.i64.wrap (a+b)=a+b by rw[IntKind.wrap_i64];omega]
theorem ZRw {P:Program} {t:TypeId} {a b:Int} {c1 c2:Bool} (h: -9223372036854775808≤a - b∧a - b≤9223372036854775807):ZC5 P .sub t (.int .i64 a) (.int .i64 b) c1 c2=some (.int .i64 (a - b)):=by
 show some (AV.int .i64 (IntKind.i64.wrap (a - b)))=_
 rw[show IntKind.i64.wrap (a - b)=a - b by rw[IntKind.wrap_i64];omega]
theorem ZJm {α:Type} {ys us vs L0 src L1:List α} {n m j q:Nat} (h1:ys.length=n) (h2:us.length=m) (h3:vs.length=m) (hj:j≤n) (hL0:L0=ys++us) (hs:src=(L0.take (n+m)).drop j) (hq:q=n+m - (j+m))
  (hL1:L1=L0.take (j+m)++src.take (min src.length q)++L0.drop (j+m+min src.length q)):
  L1.take j++vs.take (min vs.length (n+m - j))++L1.drop (j+min vs.length (n+m - j))=ys.take j++vs++ys.drop j:=by
 have hl0:L0.length=n+m:=by rw[hL0];simp[h1,h2]
 rw[List.take_of_length_le (by omega)] at hs
 have hsl:src.length=n+m - j:=by rw[hs,List.length_drop,hl0]
 have e1:min src.length q=n - j:=by omega
 have e2:min vs.length (n+m - j)=m:=by omega
 have e3:src.take (n - j)=ys.drop j:=by
  rw[hs,hL0,List.drop_append_of_le_length (by omega),List.take_append_of_le_length (by simp;omega),List.take_of_length_le (by simp;omega)]
 rw[e1,e3,List.drop_of_length_le (l:=L0) (by omega),List.append_nil] at hL1
 have hl5:(L0.take (j+m)).length=j+m:=by simp;omega
 have e6:L1.take j=ys.take j:=by
  rw[hL1,List.take_append_of_le_length (by omega),List.take_take,Nat.min_eq_left (by omega),hL0,List.take_append_of_le_length (by omega)]
 have e7:L1.drop (j+m)=ys.drop j:=by
  rw[hL1,List.drop_append_of_le_length (by omega),List.drop_of_length_le (l:=L0.take (j+m)) (by omega)];rfl
 rw[e2,e6,e7,List.take_of_length_le (l:=vs) (by omega)]
theorem ZLl {α:Type} {ys vs L0 src L1:List α} {a:α} {n m j q1 q2:Nat} (h1:ys.length=n) (h3:vs.length=m) (hj:j≤n) (hL0:L0=ys.take j++List.replicate (n+m - j) a) (hq1:q1=j+(n+m - j) - j) (hq2:q2=j+(n+m - j) - (j+m))
  (hL1:L1=L0.take j++vs.take (min vs.length q1)++L0.drop (j+min vs.length q1)) (hs:src=(ys.take n).drop j):
  L1.take (j+m)++src.take (min src.length q2)++L1.drop (j+m+min src.length q2)=ys.take j++vs++ys.drop j:=by
 have hl0:L0.length=n+m:=by rw[hL0];simp[h1];omega
 rw[List.take_of_length_le (by omega)] at hs
 have hsl:src.length=n - j:=by rw[hs];simp[h1]
 have e1:min vs.length q1=m:=by omega
 have e2:min src.length q2=n - j:=by omega
 have e4:L0.take j=ys.take j:=by
  rw[hL0,List.take_append_of_le_length (by simp;omega),List.take_take,Nat.min_self]
 rw[e1,e4,List.take_of_length_le (l:=vs) (by omega)] at hL1
 have hl:(ys.take j++vs).length=j+m:=by simp;omega
 have hd:(L0.drop (j+m)).length=n - j:=by rw[List.length_drop,hl0];omega
 have hl1:L1.length=n+m:=by rw[hL1,List.length_append,hl,hd];omega
 have e5:L1.take (j+m)=ys.take j++vs:=by
  rw[hL1,List.take_append_of_le_length (by omega),List.take_of_length_le (by omega)]
 rw[e2,e5,List.drop_of_length_le (l:=L1) (by omega),List.append_nil,hs,List.take_of_length_le (l:=ys.drop j) (by simp[h1])]
theorem ZJn {α:Type} {ys src L1:List α} {z:α} {n i j q:Nat} (h1:ys.length=n) (hi:i<j) (hj:j≤n) (hs:src=(ys.take n).drop j) (hL1:L1=ys.take i++src++ys.drop (i+src.length)) (hq:q=n - (i+src.length)):
  L1.take (i+src.length)++List.replicate q z++L1.drop (i+src.length+q)=(ys.take i++ys.drop j)++List.replicate (j - i) z:=by
 rw[List.take_of_length_le (by omega)] at hs
 have hsl:src.length=n - j:=by rw[hs];simp[h1]
 have hl:(ys.take i++src).length=i+src.length:=by simp;omega
 have hl1:L1.length=n:=by rw[hL1,List.length_append,hl,List.length_drop];omega
 have e1:L1.take (i+src.length)=ys.take i++src:=by
  rw[hL1,←hl,List.take_left]
 rw[e1,List.drop_of_length_le (by omega),List.append_nil,hs]
 congr 2
 omega
section
variable {P:Program} {prims:Prims} {n:Nat} {bb:Bool} {K:Fm→St→Prop} {φ:Fm} {s:St} {ops:Array Oper} {l:List Oper} {d:Tmp} {ty t t' e:TypeId} {pos:String} {af:Array Edge} {x y z:Operand} {u v w:AV}
variable {T:Type} [Enc T] {xs:List T} {en:En} {es:List En} {k1 k2 k3:IntKind}
theorem ZRx {i:Nat} (hu:P.underlying t=some (.slice e)) (hsh:ZBE P e=some (Enc.k T)) (hx:ZAa n φ x=some u) (hy:ZAa n φ y=some (.int k1 i)) (h:isM u en xs) (hi:i≤xs.length) (hs:Hp s (en::es))
  (kk:∀v,TO P prims n bb ops l K (upd φ d v) s):TO P prims n bb ops (⟨some d, .slice t x (some y) none none,ty,pos,af,none⟩::l) K φ s:=by
 rcases h with⟨m,cap,ys,sp,rfl,rfl,h1,h2,h3,h4⟩ | ⟨rfl,h1,_,_,rfl⟩
 ·exact ZEs hu hsh hx hy hi h3 hs h1.ok (by rw[h1.len];exact Nat.le_refl _) fun v _=>kk v
 have h0:i=0:=by simpa using hi
 subst h0;exact ZO6 hu hsh hx (ZA6 hy) rfl rfl h1 (a:=0) (b2:=0) (c:=0) (by simp[bnds,bnd]) fun z _=>kk z
theorem ZOa {i j q:Nat} (hu:P.underlying t=some (.slice e)) (hsh:ZBE P e=some (Enc.k T)) (hx:ZAa n φ x=some u) (hy:ZAa n φ y=some (.int k1 i)) (hz:ZAa n φ z=some (.int k2 j)) {z' :Operand} (hz' :ZAa n φ z' =some (.int k3 q)) (h:isM u en xs) (hi:i≤j) (hj:j≤q) (hq:q=xs.length)
  (kk:∀v,TO P prims n bb ops l K (upd φ d v) s):TO P prims n bb ops (⟨some d, .slice t x (some y) (some z) (some z'),ty,pos,af,none⟩::l) K φ s:=by
 rcases h with⟨m,cap,ys,sp,rfl,rfl,h1,h2,h3,h4⟩ | ⟨rfl,h1,_,_,rfl⟩
 ·refine ZT4 hu hsh hx (ZA6 hy) (ZA6 hz) (ZA6 hz') (a:=i) (b2:=j) (c:=q) ?_ h3 (kk _)
  simp only[bnds,bnd,Option.isSome_some,Option.isNone_some,Bool.false_eq_true,and_false,if_false,oC];rw[if_pos ⟨by omega,by omega⟩]
  simp only[Option.bind_some,Int.toNat_natCast];rw[if_pos ⟨by omega,by omega⟩]
  simp only[Option.bind_some,Int.toNat_natCast];rw[if_pos ⟨by omega,by omega⟩]
  rfl
 have h0:q=0:=by simpa using hq
 subst h0;have h0:j=0:=by omega
 subst h0;have h0:i=0:=by omega
 subst h0;exact ZO6 hu hsh hx (ZA6 hy) (ZA6 hz) (ZA6 hz') h1 (a:=0) (b2:=0) (c:=0) (by simp[bnds,bnd]) fun z _=>kk z
theorem ZOb {k m len cap lo hi:Nat} (hu:P.underlying t=some (.slice e)) (hsh:ZBE P e=some k) (hx:ZAa n φ x=some (.hs k m 0 len cap)) (hy:ZAa n φ y=some (.int k1 lo)) (hz:ZAa n φ z=some (.int k2 hi)) (hlo:lo≤hi) (hhi:hi≤cap) (hc:len≤cap) (hn:lo<cap)
  (kk:TO P prims n bb ops l K (upd φ d (.hs k m (lo*esz k) (hi - lo) (cap - lo))) s):TO P prims n bb ops (⟨some d, .slice t x (some y) (some z) none,ty,pos,af,none⟩::l) K φ s:=by
 refine ZT4 hu hsh hx (ZA6 hy) (ZA6 hz) rfl (a:=lo) (b2:=hi) (c:=cap) ?_ hc ?_
 ·simp only[bnds,bnd,Option.isSome_none,Bool.false_eq_true,false_and,if_false,oC,Option.bind_some];rw[if_pos ⟨by omega,by omega⟩]
  simp only[Option.bind_some,Int.toNat_natCast];rw[if_pos ⟨by omega,by omega⟩]
  rfl
 rw[if_neg (by omega),Nat.zero_add];exact kk
end
theorem ZHw {T:Type} [Enc T] {m cap q:Nat} {L sp:List AV} {r:List T} (hq:q=r.length) (hL:isR L r) (hsp:sp.length=(cap - r.length)*esz (Enc.k T)) (hc:r.length≤cap) (ho:∀y∈sp,y.one=true):isM (.hs (Enc.k T) m 0 q cap) (.cells m (ZAh L sp)) r:=by
 subst hq;exact .inl ⟨m,cap,L,sp,rfl,rfl,hL,hsp,hc,ho⟩
theorem ZIO {xs ys sp:List AV}:ZAh (xs++ys) sp=ZAh xs (ys.flatMap AV.cells++sp):=by simp[ZAh,List.flatMap_append]
theorem ZPD {T A:Type} [Enc T] [Enc0 T] [Flds A] {xs:List AV} {r:Rec (T×A)} (h:Flds.fi xs r.v):is (AV.agg xs) r:=⟨xs,rfl,h⟩
theorem ZKq {P:Program} {T:Type} [Enc T] {e:TypeId} {zv:T} (h:∃a,ZBd P e=some a∧is a zv):∃a,ZBd P e=some a∧ZAq (Enc.k T) a:=by
 obtain⟨a,h1,h2⟩:=h;exact⟨a,h1,Enc.el h2⟩
end Go.Ai
end
section
open Go.Ai.Enc (enc is)
open Go.Ai.Res (res ris)
open Go.Ai.Args (args)
namespace Go.Ai
open Go.Proofs
section
variable {P:Program} {prims:Prims} {n:Nat} {K:Fm→St→Prop} {φ:Fm} {s:St} {ops:Array Oper} {l:List Oper} {d:Tmp} {ty:TypeId} {pos:String} {af:Array Edge} {x y:Operand}
theorem ZVd {g:FuncId} {fn:Func} {ts:Array TypeId} {a:Str} {c:UInt8} (hf:P.funcs[g]? =some fn) (h1:(fn.name== "runtime.NumGoroutine")=false) (h2:fn.body.isNone=true) (h3:Extern.findNext fn=none) (h4:Extern.find fn=some Extern.BytealgIndexByte.indexByte)
  (hx:ZAa n φ x=some (enc a)) (hy:ZAa n φ y=some (enc c)) (k:TO P prims n false ops l K (upd φ d (enc (Lib.indexByte a c:Int))) s):TO P prims n false ops (⟨some d, .call ⟨.value (.func g), #[x,y],ts⟩,ty,pos,af,none⟩::l) K φ s:=by
 refine ZHd rfl rfl (fun hp=>by
  show(prims g).isSome=false
  cases hg:prims g with
  | none=>rfl
  | some F=>
   obtain⟨⟨fn',hf',he'⟩,_⟩:=hp g F hg;rw[hf] at hf';injection hf' with hf';subst hf'
   simp[ZCo] at he'
   rw[Option.isNone_iff_eq_none] at h2;rw[h2] at he';simp at he') fun hp base ρ X w ac A B hb hsim hrl hdf hA=> ?_
 have hr:=ZAW hrl (ZAP hx);have hr2:=ZAW hrl (ZAP hy);have hr:ac.eval x= .string ⟨List.toArray a⟩:=hr
 have hr2:ac.eval y= .int .u8 (c.toNat:Int):=hr2
 refine ZDU (v' := .int .i64 (Lib.indexByte a c)) (w' :=w) ?_ (hA _ _ _ w k (.same hsim rfl))
 show(execOp ac.eval _).run P w=_
 have e:ac.eval (.func g)= .func (.func g) #[] #[]:=rfl
 simp only[execOp,resolve,e,Deferred.ofValue,pure_bind,invoke];have hm:(#[]++(#[x,y].map ac.eval)++ #[]:Array Value)= #[ac.eval x,ac.eval y]:=by simp
 have hov:=Lib.run_indexByteString (P:=P) ⟨List.toArray a⟩ (c.toNat:Int) w
 have hc:((c.toNat:Int).toNat).toUInt8=c:=by simp
 rw[hc] at hov;first
  | rw[hm,run_callFunc_extern hf h1 h2 h3 h4,hr,hr2,hov];rfl
  | (simp only[Array.append_empty,Array.empty_append];rw[run_callFunc_extern hf h1 h2 h3 h4];simp[hr,hr2,hov,Result.andThen])
end
end Go.Ai
end
section
set_option maxRecDepth 100000
attribute [local irreducible] Go.Ai.TC Go.Ai.TO Go.Ai.MF
open Go.Ai.Enc (enc is)
open Go.Ai.Res (res ris)
open Go.Ai.Args (args)
namespace Go.Ai.Rab
open Go.Proofs
def ixB (s:Str) (c:UInt8):Option Int:=some (Lib.indexByte s c)
def ixS (s t:Str):Option Int:=match (t:List UInt8) with | [c]=>some (Lib.indexByte s c) | _=>none
def ZBo (s t:Str):Option Bool:=(ixS s t).map fun i=>decide (i≥0)
theorem ZVe (s:Str) (c:UInt8) (r:Int) (h:ixB s c=some r):MF Tryz.prog py24 132 [enc s,enc c] s0 fun v _=>ris v r:=by
 refine ZAe [(0,enc s),(1,enc c)] Tryz.func132 rfl (by simp only[Tryz.f132];rfl) fun ψ=> ?_
 unfold ixB at h;repeat refine ZAB ?_
 refine ZAC<|ZAG (v:=enc (0:Int)) rfl<|ZAA ?_
 repeat refine ZAB ?_
 refine ZAC<|ZAD (v:=enc s) rfl<|ZAD (v:=enc c) rfl<|ZVd (a:=s) (c:=c) Tryz.func141 (by kernel_rfl) (by kernel_rfl) (by kernel_rfl) (by kernel_rfl) rfl rfl<|ZAG (v:=enc (Lib.indexByte s c:Int)) rfl<|ZAA<|ZAN ?_
 rw[←oi h];exact⟨rfl,KE1 (a:=(Lib.indexByte s c:Int)) rfl rfl rfl rfl⟩
theorem ZVf:ZAr Tryz.prog 132 (fun _=>Fn (fun a:Str×UInt8×Unit=>ixB a.1 a.2.1)):=fnC ZEr ⟨_,Tryz.func132,rfl⟩<|fun a r h=>ZVe a.1 a.2.1 r h
noncomputable def pct1:Prims:=py24.add 132 (Fn (fun a:Str×UInt8×Unit=>ixB a.1 a.2.1))
theorem ZRy:ZAV Tryz.prog pct1:=ZAS ZEr ZVf
theorem ZVg (s t:Str) (r:Int) (h:ixS s t=some r):MF Tryz.prog pct1 136 [enc s,enc t] s0 fun v _=>ris v r:=by
 refine ZAe [(0,enc s),(1,enc t)] Tryz.func136 rfl (by simp only[Tryz.f136];rfl) fun ψ=> ?_
 obtain⟨c,rfl⟩:∃c,t=[c]:=by
  unfold ixS at h;split at h
  ·exact⟨_,rfl⟩
  cases h
 replace h:some (Lib.indexByte s c)=some r:=h
 repeat refine ZAB ?_
 refine ZAC<|ZAG (v:=enc (0:Int)) rfl<|ZAA ?_
 repeat refine ZAB ?_
 refine ZAC<|ZAD (v:=enc (str [c])) rfl<|ZHe Tryz.underlying9 rfl rfl<|ZAG (v:=enc (1:Int)) rfl<|ZAA ?_
 repeat refine ZAB ?_
 refine ZAQ ?_
 repeat refine ZAB ?_
 refine ZAC<|ZAD (v:=enc (1:Int)) rfl<|ZAL (v:= .bool false) rfl rfl rfl<|ZAD (v:= .bool false) rfl<|ZAH rfl rfl rfl<|ZAD (v:=enc (str [c])) rfl<|ZAH rfl rfl rfl<|ZAD (v:=enc s) rfl<|ZAH rfl rfl rfl<|ZAL (v:= .bool (eqS (str [c]) s)) rfl rfl rfl<|ZAX (v:= .bool (eqS (str [c]) s)) rfl Bool.false_ne_true rfl<|ZAG (v:= .bool (eqS (str [c]) s)) rfl<|ZAA ?_
 by_cases hE:eqS (str [c]) s=true
 ·refine ZAI rfl hE ?_
  repeat refine ZAB ?_
  refine ZAC<|ZAG (v:=enc (0:Int)) rfl<|ZAA<|ZAN ?_
  show if _ then _ else _
  rw[if_neg (by simp)]
  have hs:s=[c]:=(by unfold eqS at hE;exact(eq_of_beq hE).symm)
  rw[hs] at h;have h0:Lib.indexByte [c] c=0:=by simp[Lib.indexByte]
  rw[h0] at h;rw[←oi h];exact⟨rfl,KE1 (a:=(0:Int)) rfl rfl rfl rfl⟩
 refine ZAJ rfl hE ?_
 repeat refine ZAB ?_
 refine ZAC<|ZAD (v:=enc (1:Int)) rfl<|ZAL (v:= .bool true) rfl rfl rfl<|ZAG (v:= .bool true) rfl<|ZAA<|ZAI rfl rfl ?_
 repeat refine ZAB ?_
 refine ZAC<|ZAD (v:=enc s) rfl<|ZAD (v:=enc (str [c])) rfl<|ZIe (a:=c) Tryz.underlying9 rfl rfl rfl<|ZAj (f:=fun a:Str×UInt8×Unit=>ixB a.1 a.2.1) (a:=(s,c,())) (r:=(Lib.indexByte s c:Int)) rfl Tryz.func132 rfl rfl (.cons (a:=s) (Enc.self _) (.cons (a:=c) (Enc.self _) .nil)) rfl<|ZAG (v:=enc (Lib.indexByte s c:Int)) rfl<|ZAA<|ZAN ?_
 show if _ then _ else _
 rw[if_neg (by simp)]
 rw[←oi h];exact⟨rfl,KE1 (a:=(Lib.indexByte s c:Int)) rfl rfl rfl rfl⟩
theorem ZVh:ZAr Tryz.prog 136 (fun _=>Fn (fun a:Str×Str×Unit=>ixS a.1 a.2.1)):=fnC ZRy ⟨_,Tryz.func136,rfl⟩<|fun a r h=>ZVg a.1 a.2.1 r h
noncomputable def pct2:Prims:=pct1.add 136 (Fn (fun a:Str×Str×Unit=>ixS a.1 a.2.1))
theorem ZRz:ZAV Tryz.prog pct2:=ZAS ZRy ZVh
theorem ZUw (s t:Str) (r:Int) (h:ixS s t=some r):MF Tryz.prog pct2 123 [enc s,enc t] s0 fun v _=>ris v r:=by
 refine ZAe [(0,enc s),(1,enc t)] Tryz.func123 rfl (by simp only[Tryz.f123];rfl) fun ψ=> ?_
 repeat refine ZAB ?_
 refine ZAC<|ZAG (v:=enc (0:Int)) rfl<|ZAA ?_
 repeat refine ZAB ?_
 refine ZAC<|ZAD (v:=enc s) rfl<|ZAD (v:=enc t) rfl<|ZAj (f:=fun a:Str×Str×Unit=>ixS a.1 a.2.1) (a:=(s,t,())) (r:=r) rfl Tryz.func136 rfl rfl (.cons (a:=s) (Enc.self _) (.cons (a:=t) (Enc.self _) .nil)) h<|ZAG (v:=enc r) rfl<|ZAA<|ZAN ?_
 exact⟨rfl,KE1 (a:=r) rfl rfl rfl rfl⟩
theorem ZUx:ZAr Tryz.prog 123 (fun _=>Fn (fun a:Str×Str×Unit=>ixS a.1 a.2.1)):=fnC ZRz ⟨_,Tryz.func123,rfl⟩<|fun a r h=>ZUw a.1 a.2.1 r h
noncomputable def pct3:Prims:=pct2.add 123 (Fn (fun a:Str×Str×Unit=>ixS a.1 a.2.1))
theorem ZR0:ZAV Tryz.prog pct3:=ZAS ZRz ZUx
theorem ZJo (s t:Str) (r:Bool) (h:ZBo s t=some r):MF Tryz.prog pct3 114 [enc s,enc t] s0 fun v _=>ris v r:=by
 refine ZAe [(0,enc s),(1,enc t)] Tryz.func114 rfl (by simp only[Tryz.f114];rfl) fun ψ=> ?_
 unfold ZBo at h;obtain⟨i,hi,rfl⟩:=Option.map_eq_some_iff.1 h;repeat refine ZAB ?_
 refine ZAC<|ZAG (v:=enc false) rfl<|ZAA ?_
 repeat refine ZAB ?_
 refine ZAC<|ZAD (v:=enc s) rfl<|ZAD (v:=enc t) rfl<|ZAj (f:=fun a:Str×Str×Unit=>ixS a.1 a.2.1) (a:=(s,t,())) (r:=i) rfl Tryz.func123 rfl rfl (.cons (a:=s) (Enc.self _) (.cons (a:=t) (Enc.self _) .nil)) hi<|ZAL (v:=enc (decide (i≥0))) rfl rfl rfl<|ZAG (v:=enc (decide (i≥0))) rfl<|ZAA<|ZAN ?_
 exact⟨rfl,KE1 (a:=(decide (i≥0))) rfl rfl rfl rfl⟩
theorem ZJp:ZAr Tryz.prog 114 (fun _=>Fn (fun a:Str×Str×Unit=>ZBo a.1 a.2.1)):=fnC ZR0 ⟨_,Tryz.func114,rfl⟩<|fun a r h=>ZJo a.1 a.2.1 r h
noncomputable def pct:Prims:=pct3.add 114 (Fn (fun a:Str×Str×Unit=>ZBo a.1 a.2.1))
theorem ZNM:ZAV Tryz.prog pct:=ZAS ZR0 ZJp
end Go.Ai.Rab
end
