/- My own texts TryzShelf, DevWs2, DevWs3, DevPgG, DevTg30, DevPgH, DevTg31, DevWs4, DevPgI, DevPgJ, one behind the other. -/
import Derived.Shelf.Strings.Builder1
import Derived.Shelf.Strings.Builder2
import Derived.Shelf.Strings.OnBuilder
import Derived.Shelf.Small.Utf8
import Derived.Shelf.Small.Strs
import Derived.Shelf.Utf8.RuneCount
import Derived.Shelf.Strconv.Itoa0
import Derived.Shelf.Strings.Search1
import Derived.Shelf.Strings.Search2
import Derived.Shelf.Strings.Search3
import Derived.Shelf.Strings.Count
import Derived.Shelf.LaysM
import Derived.Shelf.Strings.Shaped
import Derived.Shelf.Strings.Prefix
import Derived.Shelf.Strings.Split
import Derived.Shelf.Strings.SplitShaped
import Derived.Shelf.Unicode.Decode
import Derived.Shelf.Strings.Runes
import Derived.Shelf.Strings.RuneCount
import Derived.Shelf.Strings.AsciiSet
import Derived.Shelf.Strings.Explode
import Derived.Shelf.Unicode.DecodeSlow
import Derived.Shelf.Unicode.DecodeAny
import Derived.Shelf.Unicode.DecodeLast
import Derived.Ground.Names2Prog
import Derived.Shelf.Slices.ReverseS
import Derived.Shelf.Slices.Cells
import Derived.Test.YtjaopinmnpekiaaGreatDoorProg
import Derived.Test.YtjaopinmnpekiaaGreatDoorWAG
import Derived.Test.YtjaopinmnpekiaaGreatDoorWAD
import Derived.Test.YtjaopinmnpekiaaGreatDoorWAK
import Derived.Test.YtjaopinmnpekiaaGreatDoorWAE
set_option linter.unusedVariables false
set_option linter.unusedSimpArgs false
section
namespace Go.Proofs
open Go.Shelf
def Tryz.lays156_ren:Go.Shelf.Ren:=⟨fun | 156=>46 | 165=>62 | 166=>63 | 169=>64 | 240=>76 | 241=>77 | 276=>91 | 277=>92 | n=>n,fun | 31=>43 | 9=>9 | 3=>3 | 4=>4 | 0=>0 | 20=>20 | 72=>100 | 76=>101 | 70=>98 | 37=>42 | 75=>60 | 127=>126 | 164=>157 | 5=>5 | 80=>103 | n=>n,fun | n=>n⟩
theorem Tryz.lays156:Go.Proofs.Lays.n156 Tryz.prog Tryz.lays156_ren:={
 mixed:=by kernel_rfl
 f156:=Tryz.func46.trans (congrArg some (by kernel_rfl))
 f165:=Tryz.func62.trans (congrArg some (by kernel_rfl))
 f166:=Tryz.func63.trans (congrArg some (by kernel_rfl))
 f169:=Tryz.func64.trans (congrArg some (by kernel_rfl))
 f240:=Tryz.func76.trans (congrArg some (by kernel_rfl))
 f241:=Tryz.func77.trans (congrArg some (by kernel_rfl))
 f276:=Tryz.func91.trans (congrArg some (by kernel_rfl))
 f277:=Tryz.func92.trans (congrArg some (by kernel_rfl))
 t0:=Tryz.underlying0
 a0:=Tryz.isAgg0
 z0:=Tryz.sizeOf0
 v0:=Tryz.zeroValue0
 t3:=Tryz.underlying3
 a3:=Tryz.isAgg3
 z3:=Tryz.sizeOf3
 v3:=Tryz.zeroValue3
 t4:=Tryz.underlying4
 a4:=Tryz.isAgg4
 z4:=Tryz.sizeOf4
 v4:=Tryz.zeroValue4
 t9:=Tryz.underlying9
 a9:=Tryz.isAgg9
 z9:=Tryz.sizeOf9
 v9:=Tryz.zeroValue9
 t20:=Tryz.underlying20
 a20:=Tryz.isAgg20
 z20:=Tryz.sizeOf20
 v20:=Tryz.zeroValue20
 t31:=Tryz.underlying43
 a31:=Tryz.isAgg43
 z31:=Tryz.sizeOf43
 v31:=Tryz.zeroValue43
 t37:=Tryz.underlying42
 a37:=Tryz.isAgg42
 z37:=Tryz.sizeOf42
 v37:=Tryz.zeroValue42
 t70:=Tryz.underlying98
 a70:=Tryz.isAgg98
 z70:=Tryz.sizeOf98
 v70:=Tryz.zeroValue98
 t72:=Tryz.underlying100
 a72:=Tryz.isAgg100
 z72:=Tryz.sizeOf100
 v72:=Tryz.zeroValue100
 t75:=Tryz.underlying60
 a75:=Tryz.isAgg60
 z75:=Tryz.sizeOf60
 v75:=Tryz.zeroValue60
 t76:=Tryz.underlying101
 a76:=Tryz.isAgg101
 z76:=Tryz.sizeOf101
 v76:=Tryz.zeroValue101
 t127:=Tryz.underlying126
 a127:=Tryz.isAgg126
 z127:=Tryz.sizeOf126
 v127:=Tryz.zeroValue126
 t164:=Tryz.underlying157
 a164:=Tryz.isAgg157
 z164:=Tryz.sizeOf157
 v164:=Tryz.zeroValue157}
theorem Tryz.Builder_Extra_156:Builder.Extra Tryz.prog Tryz.lays156_ren:={
 sizeBuilder:=by kernel_rfl
 liesBuilder:=by kernel_rfl
 t5:=Tryz.underlying5
 a5:=Tryz.isAgg5
 z5:=Tryz.sizeOf5
 v5:=Tryz.zeroValue5
 infoByte:=by kernel_rfl
 cellsByte:=by kernel_rfl
 sizeByte:=by kernel_rfl
 neB5:=by decide}
open Go.RowKit in
theorem Tryz.strings_Join (bk o c:Nat) (xs:List ByteArray) (sep:ByteArray) (w:World) (hcells:∀(j:Nat) x,xs[j]? =some x→w.cell? ⟨bk,o+j,none⟩=some (.string x)) (hbk:bk<w.heap.size) (hN:xs.length≤140737488355328) (hcap:xs.length≤c) (hlen:(Lib.join (xs.map (·.data.toList)) sep.data.toList).length≤140737488355328):
  Calls Tryz.prog 46 #[.slice (some ⟨bk,o,none⟩) xs.length c, .string sep] w fun e w' =>e= .returned (.string ⟨(Lib.join (xs.map (·.data.toList)) sep.data.toList).toArray⟩)∧Below w.heap.size w w' :=Any.strings_Join Tryz.lays156 Tryz.Builder_Extra_156 bk o c xs sep w hcells hbk hN hcap hlen
def Tryz.lays206_ren:Go.Shelf.Ren:=⟨fun | 206=>100 | n=>n,fun | 9=>9 | 4=>4 | 3=>3 | n=>n,fun | n=>n⟩
def Tryz.lays99_ren:Go.Shelf.Ren:=⟨fun | 99=>82 | 206=>100 | n=>n,fun | 9=>9 | 4=>4 | 3=>3 | n=>n,fun | n=>n⟩
theorem Tryz.lays99:Go.Proofs.Lays.n99 Tryz.prog Tryz.lays99_ren:={
 mixed:=by kernel_rfl
 f99:=Tryz.func82.trans (congrArg some (by kernel_rfl))
 f206:=Tryz.func100.trans (congrArg some (by kernel_rfl))
 t3:=Tryz.underlying3
 a3:=Tryz.isAgg3
 z3:=Tryz.sizeOf3
 v3:=Tryz.zeroValue3
 t4:=Tryz.underlying4
 a4:=Tryz.isAgg4
 z4:=Tryz.sizeOf4
 v4:=Tryz.zeroValue4
 t9:=Tryz.underlying9
 a9:=Tryz.isAgg9
 z9:=Tryz.sizeOf9
 v9:=Tryz.zeroValue9}
open Go.RowKit Go.Lib in
theorem Tryz.strings_HasPrefix (s p:ByteArray) (w:World):
  Calls Tryz.prog 82 #[.string s, .string p] w fun e w' =>e= .returned (.bool (Lib.hasPrefix s.data.toList p.data.toList))∧w' =w:=Any.strings_HasPrefix Tryz.lays99 s p w
def Tryz.lays221_ren:Go.Shelf.Ren:=⟨fun | 221=>78 | 268=>93 | 138=>94 | 143=>95 | 195=>113 | 197=>114 | 218=>115 | 219=>116 | 260=>128 | 217=>129 | 225=>130 | 224=>131 | 267=>132 | 266=>144 | 314=>145 | n=>n,fun | 9=>9 | 3=>3 | 31=>43 | 4=>4 | 0=>0 | 105=>182 | 21=>21 | 5=>5 | 46=>167 | 119=>163 | 139=>166 | 138=>165 | 146=>213 | 51=>212 | n=>n,fun | 1=>2 | 3=>0 | 4=>1 | n=>n⟩
def Tryz.lays146_ren:Go.Shelf.Ren:=⟨fun | 146=>65 | 221=>78 | 268=>93 | 138=>94 | 143=>95 | 195=>113 | 197=>114 | 218=>115 | 219=>116 | 260=>128 | 217=>129 | 225=>130 | 224=>131 | 267=>132 | 266=>144 | 314=>145 | n=>n,fun | 9=>9 | 31=>43 | 3=>3 | 4=>4 | 0=>0 | 105=>182 | 21=>21 | 5=>5 | 46=>167 | 119=>163 | 139=>166 | 138=>165 | 146=>213 | 51=>212 | n=>n,fun | 1=>2 | 3=>0 | 4=>1 | n=>n⟩
theorem Tryz.lays146:Go.Proofs.Lays.n146 Tryz.prog Tryz.lays146_ren:={
 mixed:=by kernel_rfl
 f138:=Tryz.func94.trans (congrArg some (by kernel_rfl))
 f143:=Tryz.func95.trans (congrArg some (by kernel_rfl))
 f146:=Tryz.func65.trans (congrArg some (by kernel_rfl))
 f195:=Tryz.func113.trans (congrArg some (by kernel_rfl))
 f197:=Tryz.func114.trans (congrArg some (by kernel_rfl))
 f217:=Tryz.func129.trans (congrArg some (by kernel_rfl))
 f218:=Tryz.func115.trans (congrArg some (by kernel_rfl))
 f219:=Tryz.func116.trans (congrArg some (by kernel_rfl))
 f221:=Tryz.func78.trans (congrArg some (by kernel_rfl))
 f224:=Tryz.func131.trans (congrArg some (by kernel_rfl))
 f225:=Tryz.func130.trans (congrArg some (by kernel_rfl))
 f260:=Tryz.func128.trans (congrArg some (by kernel_rfl))
 f266:=Tryz.func144.trans (congrArg some (by kernel_rfl))
 f267:=Tryz.func132.trans (congrArg some (by kernel_rfl))
 f268:=Tryz.func93.trans (congrArg some (by kernel_rfl))
 f314:=Tryz.func145.trans (congrArg some (by kernel_rfl))
 t0:=Tryz.underlying0
 a0:=Tryz.isAgg0
 z0:=Tryz.sizeOf0
 v0:=Tryz.zeroValue0
 t3:=Tryz.underlying3
 a3:=Tryz.isAgg3
 z3:=Tryz.sizeOf3
 v3:=Tryz.zeroValue3
 t4:=Tryz.underlying4
 a4:=Tryz.isAgg4
 z4:=Tryz.sizeOf4
 v4:=Tryz.zeroValue4
 t5:=Tryz.underlying5
 a5:=Tryz.isAgg5
 z5:=Tryz.sizeOf5
 v5:=Tryz.zeroValue5
 t9:=Tryz.underlying9
 a9:=Tryz.isAgg9
 z9:=Tryz.sizeOf9
 v9:=Tryz.zeroValue9
 t21:=Tryz.underlying21
 a21:=Tryz.isAgg21
 z21:=Tryz.sizeOf21
 v21:=Tryz.zeroValue21
 t31:=Tryz.underlying43
 a31:=Tryz.isAgg43
 z31:=Tryz.sizeOf43
 v31:=Tryz.zeroValue43
 t46:=Tryz.underlying167
 a46:=Tryz.isAgg167
 z46:=Tryz.sizeOf167
 v46:=Tryz.zeroValue167
 t51:=Tryz.underlying212
 a51:=Tryz.isAgg212
 z51:=Tryz.sizeOf212
 v51:=Tryz.zeroValue212
 t105:=Tryz.underlying182
 a105:=Tryz.isAgg182
 z105:=Tryz.sizeOf182
 v105:=Tryz.zeroValue182
 t119:=Tryz.underlying163
 a119:=Tryz.isAgg163
 z119:=Tryz.sizeOf163
 t138:=Tryz.underlying165
 a138:=Tryz.isAgg165
 z138:=Tryz.sizeOf165
 v138:=Tryz.zeroValue165
 t139:=Tryz.underlying166
 a139:=Tryz.isAgg166
 z139:=Tryz.sizeOf166
 v139:=Tryz.zeroValue166
 t146:=Tryz.underlying213
 a146:=Tryz.isAgg213
 z146:=Tryz.sizeOf213
 v146:=Tryz.zeroValue213
 g1:=by kernel_rfl
 g3:=by kernel_rfl
 g4:=by kernel_rfl}
open Go.RowKit Go.Lib in
theorem Tryz.strings_Split (s sep:ByteArray) (m:Int) (w:World) (hs:s.size<4294967281) (hm:w.cell? ⟨2,0,none⟩=some (.int .i64 m)) (h1:1≤sep.size):
  Calls Tryz.prog 65 #[.string s, .string sep] w fun e w' =>
   e= .returned (.slice (some ⟨w.heap.size,0,none⟩) (Lib.countB s sep+1) (Lib.countB s sep+1))∧w' =w.alloc (.cells ((Lib.splitB sep 0 (Lib.countB s sep) s).map Value.string).toArray 9):=Any.strings_Split Tryz.lays146 (by kernel_rfl) s sep m w hs hm h1
end Go.Proofs
end
section
set_option maxRecDepth 100000
open Go.Ai.Enc (enc is)
open Go.Ai.Res (res ris)
open Go.Ai.Args (args)
namespace Go.Ai.Rab
open Go.Proofs
theorem ZH5 {w:World}:RowKit.Below w.heap.size w w:=RowKit.Below.refl _ _
theorem ZRX (s:Str):(ba s).size=List.length s:=by show(List.toArray (show List UInt8 from s)).size=_;rw[List.size_toArray]
def strings_HasPrefix (s p:Str):Option Bool:=some (Lib.hasPrefix s p)
theorem ZGi:ZAq Tryz.prog 82 (fun _=>Fn (fun a:Str×Str×Unit=>strings_HasPrefix a.1 a.2.1)):=
 ⟨⟨_,Tryz.func82,rfl⟩,fun G xs v hv w U vs hU hG hr=>by
  obtain⟨⟨s,p,u⟩,r,rfl,h1,rfl⟩:=ZJE hv;have h1:strings_HasPrefix s p=some r:=h1
  injection h1 with h1;subst h1
  simp only[args,RelL] at hr;obtain⟨v1,us,rfl,g1,v2,us2,rfl,g2,rfl⟩:=hr;obtain rfl:=ZFR g1;obtain rfl:=ZFR g2;refine(Tryz.strings_HasPrefix (ba s) (ba p) w).mono fun e w' he=> ?_
  obtain⟨rfl,rfl⟩:=he;exact⟨_,rfl,by show Rel _ _ _ _ (.bool _) _;simp only[Rel];rfl,ZH5⟩⟩
/-! ### Rows of texts -/
theorem ZMc {w:World} {ρ:Pl} {U:Reg} {c:Nat}:∀(m:List Str),RelC w ρ U c 0 (m.map enc) (m.map fun s=>Value.string (ba s))
 | []=>by simp[RelC]
 | s::m=>by
  simp only[List.map_cons,RelC];exact⟨.string (ba s),_,rfl,Enc.el (Enc.self s),by show Rel _ _ _ _ (.str s) _;simp only[Rel];rfl,ZMc m⟩
theorem ZP7 {w:World} {ρ:Pl} {U:Reg} {c:Nat} {g cap:Nat} (l:List Str) (hl:l.length≤cap) (hc:∀i s,l[i]? =some s→w.cell? ⟨g,i,none⟩=some (.string (ba s))) (hU:∀j,¬U g j):Rel w ρ U c (enc l) (.slice (some ⟨g,0,none⟩) l.length cap):=by
 cases l with
 | nil=>show Rel w ρ U c (.emp false) _;simp only[Rel];exact⟨_,_,rfl,fun e=>by(cases e),fun e=>by(cases e)⟩
 | cons x l=>
  show Rel w ρ U c (.vec 0 ((x::l).map enc) .unk) _
  simp only[Rel];refine⟨⟨g,0,none⟩,cap,(x::l).map fun s=> .string (ba s),by simp,by simpa using hl,ZMc _,fun j u hj=> ?_,trivial⟩
  rw[List.getElem?_map,Option.map_eq_some_iff] at hj;obtain⟨y,hy,rfl⟩:=hj;refine⟨?_,hU _⟩
  rw[ZBf,Nat.zero_add];exact hc j y hy
def sb (b:ByteArray):Str:=b.data.toList
def strings_Split (s sep:Str):Option (List Str):=if List.length s<4294967281∧1≤List.length sep∧(Lib.splitB (ba sep) 0 (Lib.countB (ba s) (ba sep)) (ba s)).length=Lib.countB (ba s) (ba sep)+1 then some ((Lib.splitB (ba sep) 0 (Lib.countB (ba s) (ba sep)) (ba s)).map sb) else none
theorem ZIV (mx:Int):ZAq Tryz.prog 65 (FnG (NG mx) (fun a:Str×Str×Unit=>strings_Split a.1 a.2.1)):=
 ⟨⟨_,Tryz.func65,rfl⟩,fun G xs v hv w U vs hU hG hr=>by
  obtain⟨rfl,⟨s,p,u⟩,r,rfl,h1,rfl⟩:=ZIc hv;have h1:strings_Split s p=some r:=h1
  unfold strings_Split at h1;split at h1
  ·rename_i hs;injection h1 with h1;subst h1
   simp only[args,RelL] at hr;obtain⟨v1,us,rfl,g1,v2,us2,rfl,g2,rfl⟩:=hr;obtain rfl:=ZFR g1;obtain rfl:=ZFR g2;refine(Tryz.strings_Split (ba s) (ba p) mx w (by rw[ZRX];exact hs.1) (ZRO hG).2 (by rw[ZRX];exact hs.2.1)).mono fun e w' he=> ?_
   obtain⟨rfl,rfl⟩:=he;refine⟨_,rfl,?_,RowKit.Below.alloc (RowKit.Below.refl _ _) (Nat.le_refl _) _⟩
   generalize hq:Lib.splitB (ba p) 0 (Lib.countB (ba s) (ba p)) (ba s)=q at*
   have e:Lib.countB (ba s) (ba p)+1=(q.map sb).length:=by rw[List.length_map];exact hs.2.2.symm
   rw[e];refine ZP7 _ (Nat.le_refl _) (fun i x hx=> ?_) (fun j hj=>by have:=hU _ _ hj;omega)
   rw[List.getElem?_map,Option.map_eq_some_iff] at hx;obtain⟨y,hy,rfl⟩:=hx;unfold World.cell?;rw[show(⟨w.heap.size,i,none⟩:Addr).block=w.heap.size from rfl,heap_alloc_new]
   show(if _ then _ else _)=_
   rw[if_neg (by exact Bool.false_ne_true)]
   show(List.map Value.string q).toArray[i]? =_
   rw[List.getElem?_toArray,List.getElem?_map,hy];rfl
  cases h1⟩
theorem ZRY (l:List Str):(l.map ba).map (fun x=>x.data.toList)=l:=by
 rw[List.map_map];conv=>rhs;rw[←List.map_id l]
 exact List.map_congr_left fun s _=>rfl
def strings_Join (l:List Str) (sep:Str):Option Str:=if l≠[]∧l.length≤140737488355328∧(Lib.join l sep).length≤140737488355328 then some (Lib.join l sep) else none
theorem ZJZ:ZAq Tryz.prog 46 (fun _=>Fn (fun a:List Str×Str×Unit=>strings_Join a.1 a.2.1)):=
 ⟨⟨_,Tryz.func46,rfl⟩,fun G xs v hv w U vs hU hG hr=>by
  obtain⟨⟨l,sep,u⟩,r,rfl,h1,rfl⟩:=ZJE hv;have h1:strings_Join l sep=some r:=h1
  unfold strings_Join at h1;split at h1
  ·rename_i hb;injection h1 with h1;subst h1
   simp only[args,RelL] at hr;obtain⟨v1,us,rfl,g1,v2,us2,rfl,g2,rfl⟩:=hr;obtain rfl:=ZFR g2
   cases l with
   | nil=>exact absurd rfl hb.1
   | cons l0 ls=>
    have g1:Rel w ρ0 U 0 (.vec 0 ((l0::ls).map enc) .unk) v1:=g1
    simp only[Rel] at g1;obtain⟨a,cap,cs,rfl,k2,k3,k4,_⟩:=g1;obtain⟨e1,e2⟩:=ZMO (T:=Str) rfl k3;have hcs:∀i u,cs[i]? =some u→w.cell? (a.add i)=some u:=fun i u hu=>(k4 i u hu).1
    obtain⟨b,o,sp⟩:=a;have hc0:=hcs 0 (cs[0]'(by rw[e1];simp)) (List.getElem?_eq_getElem _)
    have hsp:sp=none:=by
     simp only[Addr.add,if_true,World.cell?] at hc0
     cases sp with
     | none=>rfl
     | some q=>split at hc0<;> simp at hc0
    subst hsp;have hb0:b<w.heap.size:=by
     simp only[Addr.add,if_true,World.cell?] at hc0;apply Nat.lt_of_not_le
     intro hle;rw[Array.getElem?_eq_none hle] at hc0;simp at hc0
    have hlen:((l0::ls).map (enc (T:=Str))).length=((l0::ls).map ba).length:=by rw[List.length_map,List.length_map]
    rw[hlen] at k2 ⊢;refine(Tryz.strings_Join b o cap ((l0::ls).map ba) (ba sep) w (fun j x hx=> ?_) hb0 (by rw[List.length_map];exact hb.2.1) k2 (by rw[ZRY];exact hb.2.2)).mono fun e w' he=> ?_
    ·rw[List.getElem?_map,Option.map_eq_some_iff] at hx;obtain⟨y,hy,rfl⟩:=hx;have hj:j<cs.length:=by rw[e1];exact(List.getElem?_eq_some_iff.1 hy).1
     have h3:=e2 j y _ hy (List.getElem?_eq_getElem hj);have h4:=hcs j _ (List.getElem?_eq_getElem hj);rw[ZFR h3] at h4;rw[ZBf] at h4;exact h4
    obtain⟨rfl,hB⟩:=he;rw[ZRY];exact⟨_,rfl,by show Rel _ _ _ _ (.str _) _;simp only[Rel];rfl,hB⟩
  cases h1⟩
end Go.Ai.Rab
end
section
open Go.Ai.Enc (enc is)
namespace Go.Ai.Rab
open Go.Proofs
noncomputable def pl0 (mx:Int):Prims:=(((pu4 mx).add 82 (Fn (fun a:Str×Str×Unit=>strings_HasPrefix a.1 a.2.1))).addG 65 (FnG (NG mx) (fun a:Str×Str×Unit=>strings_Split a.1 a.2.1))).add 46 (Fn (fun a:List Str×Str×Unit=>strings_Join a.1 a.2.1))
theorem ZUQ (mx:Int):ZAX Tryz.prog (pl0 mx):=ZAn (ZAR (ZAn (ZJY mx) ZGi) (ZIV mx)) ZJZ
end Go.Ai.Rab
end
section
set_option maxRecDepth 100000
set_option maxHeartbeats 16000000
attribute [local irreducible] Go.Ai.TC Go.Ai.TO Go.Ai.MF Go.Ai.ZCS Go.Ai.ZBg Go.Ai.encR
open Go.Ai.Enc (enc is)
open Go.Ai.Res (res ris)
open Go.Ai.Args (args)
open Go.Ai.Flds (fe fi fk)
namespace Go.Ai
abbrev ZAU:Type:=(Rec (Int×Str×Int×Bool×Unit))
abbrev ZAr:Type:=(Rec (FsR×Bool×(List Str)×ZAU×Int×Int×Unit))
end Go.Ai
namespace Go.Ai.TTryz
open Go.Proofs
def zx29:List AV:=[enc (0:Int),enc (str []),enc (0:Int),enc false]
theorem zr29:ZBM Tryz.prog 29=some (.agg zx29):=by kernel_rfl
theorem zf29:fi zx29 (Rec.mk ((0:Int),(str []),(0:Int),false,()):ZAU).v:=⟨_,_,rfl,rfl,⟨_,_,rfl,rfl,⟨_,_,rfl,rfl,⟨_,_,rfl,rfl,rfl⟩⟩⟩⟩
theorem bu29:buB Tryz.prog 29 4=true:=by kernel_rfl
theorem ZWo:flO Tryz.prog 24 0 0=true:=by kernel_rfl
theorem ZMd:flO Tryz.prog 29 3 3=true:=by kernel_rfl
theorem ZO4:flO Tryz.prog 85 0 0=true:=by kernel_rfl
theorem ZHc:flO Tryz.prog 85 3 4=true:=by kernel_rfl
theorem ZJa:flO Tryz.prog 85 4 8=true:=by kernel_rfl
end Go.Ai.TTryz
namespace Go.Ai.Rab
open Go.Proofs TTryz Tryz
noncomputable def ZG8 (w:ZAr) (num:Int):Option (ZAr):=
 some ((Rec.mk (w.v.1,w.v.2.1,w.v.2.2.1,(Rec.mk (num,(str []),num,w.v.2.2.2.1.v.2.2.2.1,()):ZAU),num,w.v.2.2.2.2.2.1,()):ZAr))
noncomputable def ZCu (w:ZAr) (num:Int):Option (ZAO):=
 ((ZA6 w.v.1 num).bind fun r_=>((nth w.v.1.v.1 r_).bind fun v=>some (v)))
theorem ZH6 (mx:Int) (w:ZAr) (num:Int) (r:ZAr) (h:ZG8 w num=some r) {m_w:Nat} {xs_w:List AV} (hr_w:fi xs_w w.v) {s:St} {enF:En} (hs:Hp s [(.cells m_w xs_w),enF,(.gl (NG mx))]):MF Tryz.prog (pu4 mx) 49 [(.ptr m_w 0),(enc num)] s fun v s' =>∃xs',fi xs' r.v∧Hp s' [(.cells m_w xs'),enF, .gl (NG mx)]:=by
 refine ZB9 [(0,(.ptr m_w 0)),(1,(enc num))] func49 rfl (by simp only[Tryz.f49];rfl) fun ψ=> ?_
 unfold ZG8 at h;refine ZAB<|ZAC<|ZAE (v:= .ptr m_w 0) rfl<|ZAE rfl<|ZA0 rfl<|ZAj (q:=8) ZJa rfl rfl<|ZEX (z:=num) sz3 (Sel.skip (Ss (Ss (Sel.skip Sz)))) rfl rfl (rfl:is _ num) hr_w hs fun xs s hxs hs=>ZAA<|ZAC<|ZAE (v:= .ptr m_w 0) rfl<|ZAE rfl<|ZAE rfl<|ZAE (v:= .ptr m_w 0) rfl<|ZA0 rfl<|ZAj (q:=4) ZHc rfl rfl ?_
 refine ZAj (q:=7) ZMd rfl rfl<|ZAK ag4 (Sel.of (SelR.skip (SelR.succ (SelR.succ SelR.zero))) (Ss (Ss (Ss Sz)))) rfl hxs hs fun y hy=> ?_
 cases hy;refine ZBZ (r0:=((0:Int),(str []),(0:Int),false,())) bu29 zr29 zf29 rfl rfl (r:=(num,(str []),num,w.v.2.2.2.1.v.2.2.2.1,())) (.cons (z:=num) Sz (rfl:is _ num) (.cons (z:=num) (Ss (Ss Sz)) (rfl:is _ num) (.cons (z:=w.v.2.2.2.1.v.2.2.2.1) (Ss (Ss (Ss Sz))) (rfl:is _ w.v.2.2.2.1.v.2.2.2.1) .nil))) fun y1 hy1=>ZA0 rfl<|ZAj (q:=4) ZHc rfl rfl<|ZKa (c:=(Rec.mk (num,(str []),num,w.v.2.2.2.1.v.2.2.2.1,()):ZAU)) sz29 (SelR.skip (SelR.succ (SelR.succ SelR.zero))) rfl rfl hy1 hxs hs fun xs1 s hxs1 hs=>ZAA ?_
 rw[←oi h];exact KN0 rfl ⟨_,hxs1,hs⟩
theorem ZGD (mx:Int) (w:ZAr) (num:Int) (r:ZAO) (h:ZCu w num=some r) {m_w:Nat} {xs_w:List AV} (hr_w:fi xs_w w.v) {s:St} {enF:En} (hs:Hp s [(.cells m_w xs_w),enF,(.gl (NG mx))]):MF Tryz.prog (pu4 mx) 51 [(.ptr m_w 0),(enc num)] s fun v s' =>ris v r∧Hp s' [(.cells m_w xs_w),enF, .gl (NG mx)]:=by
 refine ZB9 [(0,(.ptr m_w 0)),(1,(enc num))] func51 rfl (by simp only[Tryz.f51];rfl) fun ψ=> ?_
 unfold ZCu at h;refine ZAB<|ZAC<|ZBG (r:=(Rec.mk ((0:Int),(0:Int),(0:Int),(0:Int),([]:(List UInt8)),(str []),([]:(List Str)),([]:(List Int)),([]:(List ZAi)),()):ZAO)) zr47 zf47 hs fun m s hs=>ZAA<|ZAB<|ZBJ (by decide+kernel) (by kernel_rfl)<|ZAE (v:= .ptr m_w 0) rfl<|ZA0 rfl<|ZAj (q:=0) ZO4 rfl rfl<|ZAj (q:=0) ZWo rfl rfl ?_
 replace hs:=Hp.front [(.cells m zx47)] (b:=[enF,(.gl (NG mx))]) hs;refine ZAK ag22 (Sel.of SelR.zero Sz) rfl hr_w hs fun y hy=>ZAE (v:= .ptr m_w 0) rfl<|ZA0 rfl<|ZAj (q:=0) ZO4 rfl rfl<|ZKZ ag24 sz24 SelR.zero rfl hr_w hs fun y1 hy1=>ZAE rfl ?_
 obtain⟨r_,hx,h⟩:=bs h;refine ZCr (f:=fun a:FsR×Int×Unit=>ZA6 a.1 a.2.1) (a:=(w.v.1,num,())) rfl func24 rfl rfl (.cons (a:=w.v.1) hy1 (.cons (a:=num) (Enc.self _) .nil)) hx ?_
 obtain⟨v,hx1,h⟩:=bs h;refine ZAu underlying22 sh47 rfl rfl hy hx1 fun p hp=>ZDs ag47 sz47 rfl hp fun y2 hy2=> ?_
 replace hs:=Hp.front [(.cells m_w xs_w)] (b:=[enF,(.gl (NG mx))]) hs;refine ZAx (r:=v) sz47 rfl rfl zf47 hy2 hs fun xs s hxs hs=>ZAA<|ZAN ?_
 obtain⟨w1,hlw1,hw1⟩:=ldW (r:=v) ag47 sz47 hxs hs;rw[←oi h];exact⟨rfl,KNc rfl (.cell rfl hlw1 .nil) ⟨hw1,(Hp.drop [] (b:=[(.cells m_w xs_w),enF,(.gl (NG mx))]) hs)⟩⟩
end Go.Ai.Rab
end
section
open Go.Ai.Enc (enc is)
open Go.Ai.Flds (fe fi fk)
namespace Go.Ai
structure ErrN (t:TypeId) where
 c:Option (Str×Int)
def ErrN.av (t:TypeId):Option (Str×Int)→AV
 | none=> .nifc
 | some (s,n)=> .ifc t (.rptr 2 [.agg [enc s, .int .i64 n]] 0 0)
instance {t:TypeId}:Enc (ErrN t) where
 enc e:=ErrN.av t e.c
 k:=0
 is x e:=x=ErrN.av t e.c
 inj {a b} h:=by
  obtain⟨a⟩:=a;obtain⟨b⟩:=b
  cases a with
  | none=>cases b with
   | none=>rfl
   | some b=>cases h
  | some a=>cases b with
   | none=>cases h
   | some b=>
    obtain⟨a1,a2⟩:=a;obtain⟨b1,b2⟩:=b;injection h with _ h;injection h with _ h;injection h with h _;injection h with h;injection h with h1 h;injection h with h _;injection h with _ h
    have h1:a1=b1:=Enc.inj h1
    rw[h,h1]
 strip {x a} h:=by
  subst h;obtain⟨a⟩:=a
  cases a<;> rfl
 self _:=rfl
 el {x a} h:=by
  subst h;obtain⟨a⟩:=a
  cases a<;> exact ZBS rfl rfl
 pu a:=by
  obtain⟨a⟩:=a
  cases a<;> rfl
section
variable {P:Program} {prims:Prims} {n:Nat} {b:Bool} {K:Fm→St→Prop} {φ:Fm} {s:St} {ops:Array Oper} {l:List Oper} {d:Tmp} {x y:Operand} {t t' e ty:TypeId} {pos:String} {af:Array Edge} {u v:AV} {es:List En}
theorem ZWp {r:Rec (Str×Int×Unit)} (hn:ZIG P t=true) (hx:ZAb n φ x=some u) (h:is u (PtrC.mk r)) (k:TO P prims n b ops l K (upd φ d (enc (ErrN.mk (some (r.v.1,r.v.2.1)):ErrN t))) s):TO P prims n b ops (⟨some d, .makeInterface t x,ty,pos,af,none⟩::l) K φ s:=by
 obtain⟨y,rfl,ys,rfl,z,zs,rfl,h1,z2,zs2,rfl,h2,h3⟩:=h;have h1:z=enc r.v.1:=h1
 have h2:z2= .int .i64 r.v.2.1:=h2
 have h3:zs2=[]:=h3
 subst h1;subst h2;subst h3;refine ZA2 rfl rfl (v:=enc (ErrN.mk (some (r.v.1,r.v.2.1)):ErrN t)) (s' :=s) (fun _=> ?_) k
 unfold ZIG at hn
 cases hu:P.underlying t with
 | none=>rw[hu] at hn;cases hn
 | some q=>
  rw[hu] at hn;simp only[aOp,hu,ZAM hx,oC,Option.bind_some]
  cases q<;> first | rfl | cases hn
theorem ZWq {ms:Array (String×TypeId)} {r:ErrN t} {t0:TypeId} (hu:P.underlying t0=some (.interface ms)) (hx:ZAb n φ x=some u) (h:is u r) (k:TO P prims n b ops l K (upd φ d (enc r.c.isSome)) s):TO P prims n b ops (⟨some d, .binOp .neq t0 x (.const .nilIface) t',ty,pos,af,none⟩::l) K φ s:=by
 have h:u=ErrN.av t r.c:=h
 subst h;refine ZAJ (v:=enc r.c.isSome) hx (w:= .nifc) rfl ?_ k
 cases hc:r.c with
 | none=>simp[ErrN.av,ZC4,ZHH,hu,ZIl,isC,ZNP];rfl
 | some c=>simp[ErrN.av,ZC4,ZHH,hu,ZIl,isC,ZNP];rfl
end
end Go.Ai
end
section
set_option maxRecDepth 100000
set_option maxHeartbeats 16000000
attribute [local irreducible] Go.Ai.TC Go.Ai.TO Go.Ai.MF Go.Ai.ZCS Go.Ai.ZBg Go.Ai.encR
open Go.Ai.Enc (enc is)
open Go.Ai.Res (res ris)
open Go.Ai.Args (args)
open Go.Ai.Flds (fe fi fk)
namespace Go.Ai
abbrev atR:Type:=(Rec (Str×Int×Unit))
end Go.Ai
namespace Go.Ai.TTryz
open Go.Proofs
def ZWr:List AV:=[enc (str []),enc (0:Int)]
theorem ZXT:ZBM Tryz.prog 106=some (.agg ZWr):=by kernel_rfl
theorem ZXU:fi ZWr (Rec.mk ((str []),(0:Int),()):atR).v:=⟨_,_,rfl,rfl,⟨_,_,rfl,rfl,rfl⟩⟩
theorem ZXV:buB Tryz.prog 106 2=true:=by kernel_rfl
end Go.Ai.TTryz
namespace Go.Ai.Rab
open Go.Proofs TTryz Tryz
noncomputable def ZBz (v:Int) (out_2:(List Str)) (dir2:Bool):Option (((List Str)×Bool×Int) ⊕ (((List Str)×Bool) ⊕ ((List Str)×Bool×Int))):=
 some (.inl (out_2,dir2,(IntKind.i64.wrap (v+1))))
noncomputable def ZCv (r_:(List Str)):((List Str)×Bool×Int)→Option (((List Str)×Bool×Int) ⊕ (((List Str)×Bool) ⊕ ((List Str)×Bool×Int)))
 | (out_,dir,v)=>(if(decide (v<(r_.length:Int))) then((nth r_ v).bind fun v4=>((if(eqS v4 (str [])) then some true else some (eqS v4 (str [46]))).bind fun b=>(if b then(ZBz v out_ b) else((ZBa v4).bind fun r_1=>((if(r_1 !=0) then some (!eqS v4 (str [46,46])) else some false).bind fun b1=>(if b1 then some (.inr (.inr ([],false,r_1))) else((app 16 out_ [v4]).bind fun l=>(ZBz v l b)))))))) else some (.inr (.inl (out_,dir))))
noncomputable def ZCw:(((List Str)×Bool) ⊕ ((List Str)×Bool×Int))→Option ((List Str)×Bool×Int)
 | (.inl (out_1,dir1))=>some (out_1,dir1,0)
 | (.inr (v1,v2,v3))=>some (v1,v2,v3)
noncomputable def ZBm (s_:Str):Option ((List Str)×Bool×Int):=
 (if(eqS s_ (str [])) then some ([],false,206) else(if(decide (((List.length s_:Nat):Int) > 1000)) then some ([],false,208) else((nth (α:=UInt8) s_ 0).bind fun c=>(if(((c).toNat:Int) !=47) then some ([],false,206) else((subT s_ 1 (List.length s_:Nat)).bind fun t=>((strings_Split t (str [47])).bind fun r_=>((loop (ZCv r_) ([],false,0)).bind (ZCw))))))))
noncomputable def ZDa (l:(List Str)):Option (Str):=
 (if((l.length:Int)==0) then some ((str [47])) else((strings_Join l (str [47])).bind fun r_=>((catT (str [47]) r_).bind fun s_=>some (s_))))
noncomputable def ZBE (s_:Str) (e_:Int):Option ((ErrN 104)):=
 (if(e_==0) then some ((ErrN.mk none:ErrN 104)) else some ((ErrN.mk (some (s_,e_)):ErrN 104)))
theorem ZLC (mx:Int) (s_:Str) (r:(List Str)×Bool×Int) (h:ZBm s_=some r):MF Tryz.prog (pl0 mx) 48 [enc s_] (sG (NG mx)) fun v _=>ris v r:=by
 refine ZAh [(0,enc s_)] func48 rfl (by simp only[Tryz.f48];rfl) fun ψ=> ?_
 unfold ZBm at h;have hs:Hp (sG (NG mx)) [.gl (NG mx)]:=Hp.gl0
 refine ZAB<|ZAC<|ZAG (v:= .nils) rfl<|ZAG (v:=enc false) rfl<|ZAG (v:=enc (0:Int)) rfl<|ZAA<|ZOo<|ZAB<|ZAQ<|ZAB<|ZAC<|ZAE rfl<|ZAJ (v:=enc ((eqS s_ (str [])):Bool)) rfl rfl rfl<|ZAG rfl<|ZAA ?_
 split at h
 ·rename_i c';refine ZAH rfl c'<|ZAB<|ZAC<|ZAG (v:= .nils) rfl<|ZAG (v:=enc false) rfl<|ZAG (v:=enc (206:Int)) rfl<|ZAA<|ZAN ?_
  show if _ then _ else _
  rw[if_neg (by simp)]
  rw[←oi h];exact⟨rfl,KE3 (a1:=([]:(List Str))) (a2:=(false:Bool)) (a3:=(206:Int)) rfl rfl rfl rfl isL.nil (rfl:is _ (false:Bool)) (rfl:is _ (206:Int)) ⟨_,_,_,rfl,isL.nil,(rfl:is _ (false:Bool)),(rfl:is _ (206:Int))⟩⟩
 rename_i c';refine ZAI rfl c'<|ZAB<|ZAC<|ZAE rfl<|ZE6 underlying9 rfl rfl<|ZAJ (v:=enc (decide (((List.length s_:Nat):Int) > 1000))) rfl rfl rfl<|ZAG rfl<|ZAA ?_
 split at h
 ·rename_i c';refine ZAH rfl c'<|ZAB<|ZAC<|ZAG (v:= .nils) rfl<|ZAG (v:=enc false) rfl<|ZAG (v:=enc (208:Int)) rfl<|ZAA<|ZAN ?_
  show if _ then _ else _
  rw[if_neg (by simp)]
  rw[←oi h];exact⟨rfl,KE3 (a1:=([]:(List Str))) (a2:=(false:Bool)) (a3:=(208:Int)) rfl rfl rfl rfl isL.nil (rfl:is _ (false:Bool)) (rfl:is _ (208:Int)) ⟨_,_,_,rfl,isL.nil,(rfl:is _ (false:Bool)),(rfl:is _ (208:Int))⟩⟩
 rename_i c';refine ZAI rfl c'<|ZAB<|ZAC<|ZAE rfl ?_
 obtain⟨c,hx,h⟩:=bs h;refine ZFm underlying9 rfl rfl hx<|ZAJ (v:=enc ((((c).toNat:Int) !=47):Bool)) rfl rfl rfl<|ZAG rfl<|ZAA ?_
 split at h
 ·rename_i c';refine ZAH rfl c'<|ZAB<|ZAC<|ZAG (v:= .nils) rfl<|ZAG (v:=enc false) rfl<|ZAG (v:=enc (206:Int)) rfl<|ZAA<|ZAN ?_
  show if _ then _ else _
  rw[if_neg (by simp)]
  rw[←oi h];exact⟨rfl,KE3 (a1:=([]:(List Str))) (a2:=(false:Bool)) (a3:=(206:Int)) rfl rfl rfl rfl isL.nil (rfl:is _ (false:Bool)) (rfl:is _ (206:Int)) ⟨_,_,_,rfl,isL.nil,(rfl:is _ (false:Bool)),(rfl:is _ (206:Int))⟩⟩
 rename_i c';refine ZAI rfl c'<|ZAL<|ZAB<|ZAC<|ZAG (v:= .nils) rfl<|ZAA<|ZAB<|ZAC<|ZAG (v:=enc false) rfl<|ZAA<|ZAB<|ZOn<|ZAB<|ZAB<|ZAC ?_
 refine ZAE rfl ?_
 obtain⟨t,hx1,h⟩:=bs h;refine ZOr underlying9 rfl rfl hx1 ?_
 obtain⟨r_,hx2,h⟩:=bs h;refine ZAY (f:=fun a:Str×Str×Unit=>strings_Split a.1 a.2.1) (a:=(t,(str [47]),())) rfl func65 rfl rfl (.cons (a:=t) (Enc.self _) (.cons (a:=((str [47]):Str)) (Enc.self _) .nil)) hs List.mem_cons_self hx2<|ZAo underlying43 rfl rfl (Enc.self r_)<|ZAE (v:=enc (0:Int)) rfl<|ZAA<|ZAQ ?_
 obtain⟨o,hl,h⟩:=bs h;refine ZAk (fun(p:((List Str)×Bool×Int)) φ s=>match p with | (out_,dir,v)=>∃(x_out_:AV),is x_out_ out_∧ZBd x_out_=true∧Fx φ [(5,x_out_),(6,(enc dir)),(23,(enc (r_:(List Str)))),(24,(enc ((r_.length:Int):Int))),(25,(enc v))]∧Hp s [(.gl (NG mx)), .own x_out_]) (fun(o:(((List Str)×Bool) ⊕ ((List Str)×Bool×Int))) e φ s=>match o with | (.inl (out_1,dir1))=>e= .exit 1∧∃(x_out_1:AV),is x_out_1 out_1∧ZBd x_out_1=true∧Fx φ [(5,x_out_1),(6,(enc dir1))]∧Hp s [(.gl (NG mx)), .own x_out_1] | (.inr (v1,v2,v3))=>e= .ret∧∃(x_v1:AV),is x_v1 v1∧Fx φ [(2,x_v1),(3,(enc v2)),(4,(enc v3))]∧Hp s [(.gl (NG mx))]) ?_ hl ⟨.nils,isL.nil,rfl,FxR rfl,(Hp.front [.own .nils] (b:=[]) (Hp.front [] (b:=[(.gl (NG mx))]) (Hp.add hs rfl)))⟩ ?_
 ·rintro⟨out_,dir,v⟩ o h φ s ⟨x_out_,h_out_,h_out_c,hF,hs⟩;rw[←hF.eq];rw[ZCv] at h;refine ZAB<|ZAC<|ZAJ (v:=enc (decide (v<(r_.length:Int)))) rfl rfl rfl<|ZAA<|ZAB ?_
  split at h
  ·rename_i c';refine ZAH rfl c'<|ZAL<|ZCd (fun φ s=>∃(out_2:(List Str)) (dir2:Bool) (x_out_2:AV),is x_out_2 out_2∧ZBd x_out_2=true∧Fx φ [(5,x_out_2),(6,(enc dir2)),(23,(enc (r_:(List Str)))),(24,(enc ((r_.length:Int):Int))),(25,(enc v))]∧Hp s [(.gl (NG mx)), .own x_out_2]∧ZBz v out_2 dir2=some o) ?_ ?_
   ·refine ZAQ ?_
    refine ZAB<|ZAC ?_
    obtain⟨v4,hx3,h⟩:=bs h;refine ZAu underlying43 sh9 rfl rfl (Enc.self r_) hx3 fun p hp=>ZB8 rfl ag9 rfl hp fun y hy=> ?_
    cases hy;refine ZAG rfl<|ZAA<|ZAB<|ZAC<|ZAE rfl<|ZAJ (v:=enc ((eqS v4 (str [])):Bool)) rfl rfl rfl<|ZAE rfl ?_
    obtain⟨b,hb_b,h⟩:=bs h;refine ZAS 3 (fun φ s=>Hp s [(.gl (NG mx)), .own x_out_]∧Fx φ [(5,x_out_),(8,(enc v4)),(23,(enc (r_:(List Str)))),(24,(enc ((r_.length:Int):Int))),(25,(enc v)),(34,(enc b))]) ?_ ?_
    ·split at hb_b
     ·rename_i cg;refine ZAD rfl rfl (by simpa using cg)<|ZAD rfl rfl (by simpa using cg)<|ZAa (v:=enc true) rfl cg rfl<|ZAA ?_
      rw[←oi hb_b];exact⟨hs,FxR rfl⟩
     rename_i cg1;refine ZAF rfl rfl (by simpa using cg1)<|ZAE rfl<|ZAF rfl rfl (by simpa using cg1)<|ZAJ (v:=enc ((eqS v4 (str [46])):Bool)) rfl rfl rfl<|ZAZ rfl cg1 rfl<|ZAA ?_
     rw[←oi hb_b];exact⟨hs,FxR rfl⟩
    rintro φ s ⟨hs,hF⟩;rw[←hF.eq];refine ZAG rfl<|ZAA<|ZAB<|ZAB<|ZAC<|ZAE rfl<|ZAA ?_
    split at h
    ·rename_i c';refine ZAH rfl c'<|ZAf ?_
     show if _ then _ else _
     rw[if_pos rfl];exact⟨out_,b,x_out_,h_out_,h_out_c,FxR rfl,hs,h⟩
    rename_i c';refine ZAI rfl c'<|ZAL<|ZAB<|ZAB<|ZAC<|ZAE rfl ?_
    obtain⟨r_1,hx4,h⟩:=bs h;refine ZAY (f:=fun a:Str×Unit=>ZBa a.1) (a:=(v4,())) rfl func66 rfl rfl (.cons (a:=v4) (Enc.self _) .nil) hs List.mem_cons_self hx4<|ZAG rfl<|ZAA<|ZAB<|ZAC<|ZAE rfl<|ZAJ (v:=enc (r_1 !=0)) rfl rfl rfl<|ZAE rfl ?_
    obtain⟨b1,hb_b1,h⟩:=bs h;refine ZAS 3 (fun φ s=>Hp s [(.gl (NG mx)), .own x_out_]∧Fx φ [(5,x_out_),(6,(enc b)),(8,(enc v4)),(9,(enc r_1)),(23,(enc (r_:(List Str)))),(24,(enc ((r_.length:Int):Int))),(25,(enc v)),(43,(enc b1))]) ?_ ?_
    ·split at hb_b1
     ·rename_i cg2;refine ZAF rfl rfl cg2<|ZAE rfl<|ZAF rfl rfl cg2<|ZAJ (v:=enc (!eqS v4 (str [46,46]))) rfl rfl rfl<|ZAa rfl cg2 rfl<|ZAA ?_
      rw[←oi hb_b1];exact⟨hs,FxR rfl⟩
     rename_i cg3;refine ZAD rfl rfl cg3<|ZAD rfl rfl cg3<|ZAZ (v:=enc false) rfl cg3 rfl<|ZAA ?_
     rw[←oi hb_b1];exact⟨hs,FxR rfl⟩
    rintro φ s ⟨hs,hF⟩;rw[←hF.eq];refine ZAA ?_
    split at h
    ·rename_i c';refine ZAH rfl c'<|ZAB<|ZAC<|ZAE rfl<|ZAG (v:= .nils) rfl<|ZAG (v:=enc false) rfl<|ZAG rfl<|ZAA<|ZAN ?_
     show if _ then _ else _
     rw[if_neg (by simp)]
     rw[←oi h];exact⟨_,rfl,rfl,⟨.nils,isL.nil,FxR rfl,(Hp.drop [(.gl (NG mx))] (b:=[]) hs)⟩⟩
    rename_i c';refine ZAI rfl c'<|ZAL<|ZAC<|ZAE (v:=x_out_) rfl<|ZAE rfl<|ZDv [(enc v4)] ([v4]:(List Str)) underlying43 ef9 rfl rfl rfl (Nat.le_of_ble_eq_true rfl) ⟨(rfl:is _ v4),trivial⟩ fun z hz hzc hzn=> ?_
    obtain⟨l,hx5,h⟩:=bs h;refine ZKt [(.gl (NG mx))] (es2:=[]) underlying43 underlying43 rfl rfl ef9 rfl rfl h_out_ h_out_c hs hz hx5 fun z1 s hz1 hz1c hs=>ZAG (v:=z1) rfl<|ZAA ?_
    exact⟨l,b,z1,hz1,hz1c,FxR rfl,hs,h⟩
   rintro φ s ⟨out_2,dir2,x_out_2,h_out_2,h_out_2c,hF,hs,h⟩;rw[←hF.eq];unfold ZBz at h;refine ZAC<|ZAJ (v:=enc (IntKind.i64.wrap (v+1))) rfl rfl rfl<|ZAE rfl<|ZAA ?_
   rw[←oi h];exact⟨_,rfl,⟨x_out_2,h_out_2,h_out_2c,FxR rfl,hs⟩⟩
  rename_i c';refine ZAI rfl c'<|ZAf ?_
  rw[←oi h];exact⟨_,rfl,rfl,⟨x_out_,h_out_,h_out_c,FxR rfl,hs⟩⟩
 intro e φ s hE;rcases o with⟨out_1,dir1⟩ | ⟨v1,v2,v3⟩
 ·obtain⟨rfl,x_out_1,h_out_1,h_out_1c,hF,hs⟩:=hE;rw[←hF.eq];rw[ZCw] at h;show if _ then _ else _
  rw[if_pos rfl];refine ZAB<|ZAC<|ZAE (v:=x_out_1) rfl<|ZAE rfl<|ZAG (v:=x_out_1) rfl<|ZAG rfl<|ZAG (v:=enc (0:Int)) rfl<|ZAA<|ZAN ?_
  rw[←oi h];exact⟨rfl,KE3 (a1:=out_1) (a2:=dir1) (a3:=(0:Int)) rfl rfl rfl rfl h_out_1 (rfl:is _ dir1) (rfl:is _ (0:Int)) ⟨_,_,_,rfl,h_out_1,(rfl:is _ dir1),(rfl:is _ (0:Int))⟩⟩
 obtain⟨rfl,x_v1,h_v1,hF,hs⟩:=hE;rw[←hF.eq];rw[ZCw] at h;show if _ then _ else _
 rw[if_neg (by simp)]
 rw[←oi h];exact⟨rfl,KE3 (a1:=v1) (a2:=v2) (a3:=v3) rfl rfl rfl rfl h_v1 (rfl:is _ v2) (rfl:is _ v3) ⟨_,_,_,rfl,h_v1,(rfl:is _ v2),(rfl:is _ v3)⟩⟩
theorem ZLD (mx:Int):ZAq Tryz.prog 48 (FnG (NG mx) (fun a:Str×Unit=>ZBm a.1)):=fnCG (ZUQ mx) ⟨_,func48,rfl⟩<|fun a r h=>ZLC mx a.1 r h
noncomputable def pl1 (mx:Int):Prims:=(pl0 mx).addG 48 (FnG (NG mx) (fun a:Str×Unit=>ZBm a.1))
theorem ZUR (mx:Int):ZAX Tryz.prog (pl1 mx):=ZAR (ZUQ mx) (ZLD mx)
theorem ZMe (mx:Int) (l:(List Str)) (r:Str) (h:ZDa l=some r):MF Tryz.prog (pl1 mx) 27 [enc l] (sG (NG mx)) fun v _=>ris v r:=by
 refine ZAh [(0,enc l)] func27 rfl (by simp only[Tryz.f27];rfl) fun ψ=> ?_
 unfold ZDa at h;have hs:Hp (sG (NG mx)) [.gl (NG mx)]:=Hp.gl0
 refine ZAB<|ZAC<|ZAG (v:=enc ((str []):Str)) rfl<|ZAA<|ZAB<|ZAB<|ZAC<|ZAE rfl<|ZAo underlying43 rfl rfl (Enc.self l)<|ZAJ (v:=enc (((l.length:Int)==0):Bool)) rfl rfl rfl<|ZAA ?_
 split at h
 ·rename_i c';refine ZAH rfl c'<|ZAB<|ZAC<|ZAG (v:=enc ((str [47]):Str)) rfl<|ZAA<|ZAN ?_
  rw[←oi h];exact⟨rfl,KE1 (a:=((str [47]):Str)) rfl rfl (rfl:is _ ((str [47]):Str)) (rfl:is _ ((str [47]):Str))⟩
 rename_i c';refine ZAI rfl c'<|ZAL<|ZAB<|ZAC<|ZAE rfl ?_
 obtain⟨r_,hx,h⟩:=bs h;refine ZCr (f:=fun a:(List Str)×Str×Unit=>strings_Join a.1 a.2.1) (a:=(l,(str [47]),())) rfl func46 rfl rfl (.cons (a:=l) (Enc.self l) (.cons (a:=((str [47]):Str)) (Enc.self _) .nil)) hx ?_
 obtain⟨s_,hx1,h⟩:=bs h;refine ZMN rfl rfl hx1<|ZAG rfl<|ZAA<|ZAN ?_
 rw[←oi h];exact⟨rfl,KE1 (a:=s_) rfl rfl (rfl:is _ s_) (rfl:is _ s_)⟩
theorem ZMf (mx:Int):ZAq Tryz.prog 27 (FnG (NG mx) (fun a:(List Str)×Unit=>ZDa a.1)):=fnCG (ZUR mx) ⟨_,func27,rfl⟩<|fun a r h=>ZMe mx a.1 r h
noncomputable def pl2 (mx:Int):Prims:=(pl1 mx).addG 27 (FnG (NG mx) (fun a:(List Str)×Unit=>ZDa a.1))
theorem ZUS (mx:Int):ZAX Tryz.prog (pl2 mx):=ZAR (ZUR mx) (ZMf mx)
theorem ZP8 (mx:Int) (s_:Str) (e_:Int) (r:(ErrN 104)) (h:ZBE s_ e_=some r):MF Tryz.prog (pl2 mx) 47 [enc s_,enc e_] (sG (NG mx)) fun v _=>ris v r:=by
 refine ZAh [(0,enc s_),(1,enc e_)] func47 rfl (by simp only[Tryz.f47];rfl) fun ψ=> ?_
 unfold ZBE at h;have hs:Hp (sG (NG mx)) [.gl (NG mx)]:=Hp.gl0
 refine ZAB<|ZAC<|ZAG (v:= .nifc) rfl<|ZAA<|ZAB<|ZAB<|ZAC<|ZAE rfl<|ZAJ (v:=enc (e_==0)) rfl rfl rfl<|ZAA ?_
 split at h
 ·rename_i c';refine ZAH rfl c'<|ZAB<|ZAC<|ZAG (v:= .nifc) rfl<|ZAA<|ZAN ?_
  rw[←oi h];exact⟨rfl,KE1 (a:=((ErrN.mk none:ErrN 104):(ErrN 104))) rfl rfl rfl rfl⟩
 rename_i c';refine ZAI rfl c'<|ZAL<|ZAB<|ZAC<|ZAE rfl<|ZAE rfl<|ZBZ (r0:=((str []),(0:Int),())) ZXV ZXT ZXU rfl rfl (r:=(s_,e_,())) (.cons (z:=s_) Sz (rfl:is _ s_) (.cons (z:=e_) (Ss Sz) (rfl:is _ e_) .nil)) fun y hy=>ZA5 (r:=(Rec.mk (s_,e_,()):atR)) rfl hy hs fun m xs s hxs hs=>ZNi (q:=10) (r:=(Rec.mk (s_,e_,()):atR)) rfl hxs hs fun z s hz hs=>ZWp (t:=104) (r:=(Rec.mk (s_,e_,()):atR)) (by kernel_rfl) rfl hz<|ZAG rfl<|ZAA<|ZAN ?_
 rw[←oi h];exact⟨rfl,KE1 (a:=((ErrN.mk (some (s_,e_)):ErrN 104):(ErrN 104))) rfl rfl (Enc.self _) (Enc.self _)⟩
theorem ZP9 (mx:Int):ZAq Tryz.prog 47 (FnG (NG mx) (fun a:Str×Int×Unit=>ZBE a.1 a.2.1)):=fnCG (ZUS mx) ⟨_,func47,rfl⟩<|fun a r h=>ZP8 mx a.1 a.2.1 r h
noncomputable def pl3 (mx:Int):Prims:=(pl2 mx).addG 47 (FnG (NG mx) (fun a:Str×Int×Unit=>ZBE a.1 a.2.1))
theorem ZMg (mx:Int):ZAX Tryz.prog (pl3 mx):=ZAR (ZUS mx) (ZP9 mx)
end Go.Ai.Rab
end
section
open Go.Ai.Enc (enc is)
open Go.Ai.Res (res ris)
open Go.Ai.Args (args)
namespace Go.Ai
open Go.Proofs
section
variable {P:Program} {prims:Prims} {n:Nat} {K:Fm→St→Prop} {φ:Fm} {s:St} {ops:Array Oper} {l:List Oper} {d:Tmp} {ty t t' e:TypeId} {pos:String} {af:Array Edge} {x y z:Operand} {u v w:AV}
variable {k m off len cap:Nat} {es:List En} {xs sp ys:List AV} {k1 k2:IntKind}
theorem ZVQ {ts:Array TypeId} {by_ q:Nat} {a:AV} (hu:P.underlying t=some (.slice e)) (hu' :P.underlying t' =some (.int k2)) (ht:ts[0]? =some t) (ht1:ts[1]? =some t') (hts:ts.size=2) (he:EF P e k by_) (hz:ZBM P e=some a) (hok:ZA4 k a) (hx:ZAb n φ x=some .nils) (hy:ZAb n φ y=some (.int k1 q))
  (hs:Hp s es) (hq:0<q) (hr:ZES q by_=true)
  (kk:∀m' newCap zs s',q≤newCap→zs.length=(newCap - q)*esz k→(∀y∈zs,y.one=true)→Hp s' (.cells m' (ZAg (List.replicate q a) zs)::es)→TO P prims n false ops l K (upd φ d (.hs k m' 0 q newCap)) s'):
  TO P prims n false ops (⟨some d, .call ⟨.builtin .append, #[x,y],ts⟩,ty,pos,af,none⟩::l) K φ s:=by
 obtain⟨inf,hin,hi1,hi2⟩:=he.info;obtain⟨r1,r2⟩:=ZE3 hr;refine ZHT rfl rfl (fun _=>rfl) fun hp base ρ X wd ac A B hba hsim hrl hd hA=> ?_
 have hxr:=ZAW hrl (ZAM hx);have hyr:=ZAW hrl (ZAM hy);simp only[Rel] at hxr hyr;obtain⟨i',hi',zv,hzv,hz'⟩:∃i',P.info? e=some i' ∧∃zv,i'.zero=some zv∧ZLx zv=some a:=by
  simp only[ZBM,oC,oB] at hz;exact hz
 rw[hin] at hi';injection hi' with hi';subst hi'
 have hzrel:=ZEH (w:=wd) (ρ:=ρ) (U:=UX ρ s.h X) (c:=s.c) hz';have hzs' :zv.cells.size=esz k:=by rw[hzrel.cells_size,hok.1]
 have hzp:0<zv.cells.size:=by rw[hzs'];exact ZEG _
 have hisz:inf.size=esz k:=by
  have:=(ZA3 he.sh).1
  simp only[szT,hin,Option.map_some,Option.some.injEq] at this;exact this
 have hold:(Builtin.firstCells inf.size 0 (.slice none 0 0)).run P wd.drew= .ok ([]:List Value).toArray wd.drew:=by
  unfold Builtin.firstCells;simp
 have hby:inf.bytes=by_:=hi2
 have hle1:Builtin.nextslicecap (0+q) 0≤2*(0+q)+1000:=ZHu (by omega)
 have hb1:by_≤137438953472:=by
  have h1:1*by_≤q*by_:=Nat.mul_le_mul_right _ (by omega)
  omega
 have hfit:Builtin.nextslicecap (0+q) 0*inf.bytes≤281474976710656:=by
  rw[hby];have h1:=Nat.mul_le_mul_right by_ hle1;have h2:(2*(0+q)+1000)*by_=2*(q*by_)+1000*by_:=by rw[Nat.zero_add,Nat.add_mul,Nat.mul_assoc]
  omega
 have h48:q*inf.bytes≤281474976710656:=by
  rw[hby];omega
 have hrun:=Lib.run_append_grow_zeros wd t t' ty e inf zv k1 k2 hu hu' hin hzv none 0 0 [] hold q hq (by rw[hisz];exact ZEG _) (by omega) (by omega) h48 hfit
 obtain⟨G,hG⟩:∃G,G=grownCap wd (0+q) 0 e:=⟨_,rfl⟩;have hGn:0+q≤G:=by rw[hG];exact grownCap_ge wd _ _ _
 rw[←hG] at hrun;have hts' :ts= #[t,t']:=by
  obtain⟨tl⟩:=ts;have h2:tl.length=2:=by simpa using hts
  match tl,h2,ht,ht1 with
  | [p,q],_,ht,ht1=>simp at ht ht1;simp[ht,ht1]
 have hus:=ZKy (wd:=wd) (ρ:=ρ) (U:=UX ρ s.h X) (c:=s.c) hok hzrel q;have hpost:=ZHy (xs:=[]) (cs:=[]) (e:=e) (newCap:=G) hba hsim (by simp[RelC]) hus (fun v hv=>by cases hv) (fun v hv=>by rw[List.eq_of_mem_replicate hv];exact hok) hzrel.cells (fun y hy=>hok.2.1 y hy) hzp (by simp;omega)
 simp only[List.length_nil,List.length_replicate,Nat.zero_add,List.nil_append] at hpost hrun hGn;refine ZC5 (v' := .slice (some ⟨wd.heap.size,0,none⟩) q G) (w' :=wd.drew.alloc (.cells (([]:List Value).toArray++(List.replicate q zv.cells.toList).flatten.toArray++Builtin.zeroCells zv.cells (G - q)) e)) ?_ ?_
 ·have hex:execOp ac.eval ⟨some d, .call ⟨.builtin .append, #[x,y],ts⟩,ty,pos,af,none⟩=(do pure (.value (←Builtin.append_ ts ty #[ac.eval x,ac.eval y])):Sem Next):=by
   simp only[execOp,resolve,pure_bind,invoke,List.map_toArray,List.map_cons,List.map_nil];rfl
  rw[hex,hts',hxr,hyr];have e2:(List.replicate q zv.cells.toList).flatten.toArray=Builtin.zeroCells zv.cells q:=by
   apply Array.ext'
   rw[ZGl _ _ hzp]
  rw[e2];simp[hrun]
 refine hA _ _ _ _ (kk s.c G _ _ hGn ?_ ?_ (Hp.new hs _ _ rfl)) hpost
 ·simp[List.length_flatten,hok.1]
 intro y hy;obtain⟨q1,hq1,hq2⟩:=List.mem_flatten.1 hy;obtain⟨_,rfl⟩:=List.mem_replicate.1 hq1;exact hok.2.1 y hq2
theorem ZUT {bb:Bool} {ts:Array TypeId} (hu:P.underlying t=some (.slice e)) (ht:ts[0]? =some t) (hx:ZAb n φ x=some .nils) (kk:TO P prims n bb ops l K (upd φ d (.int .i64 0)) s):TO P prims n bb ops (⟨some d, .call ⟨.builtin .cap, #[x],ts⟩,ty,pos,af,none⟩::l) K φ s:=
 ZA2 rfl rfl (fun _=>by simp[aOp,ZBq,ZAM hx,ZCI,ht,aCap,hu]) kk
theorem ZWs {bb:Bool} (hu:P.underlying t=some (.slice e)) (hsh:ZBF P e=some k) (hx:ZAb n φ x=some .nils) (hy:ZAb n φ y=some (.int k1 0))
  (kk:TO P prims n bb ops l K (upd φ d .nils) s):TO P prims n bb ops (⟨some d, .slice t x none (some y) none,ty,pos,af,none⟩::l) K φ s:=by
 refine ZA2 rfl rfl (fun _=>ZGX (ZAM hx) rfl (ZCq (ZBw hy)) rfl (v:= .nils) ?_) kk
 simp[ZEz,hu,hsh,bnds,bnd]
end
theorem Hp.packN {s:St} {G:Glob} (a es:List En) (h:Hp s (a++es)) (hg:s.g=G):Hp s (a++[.grp (ZBA es), .gl G]):=by
 subst hg;exact Hp.packG a es h
theorem Hp.unpackN {s s' :St} {G:Glob} (a a' es:List En) (h:Hp s (a++es)) (hg:s.g=G) (h' :Hp s' (a' ++[.grp (ZBA es), .gl G])):Hp s' (a' ++es):=by
 subst hg;exact Hp.unpackG a a' es h h'
end Go.Ai
end
section
set_option maxRecDepth 100000
attribute [local irreducible] Go.Ai.TC Go.Ai.TO Go.Ai.MF
open Go.Ai.Enc (enc is)
open Go.Ai.Res (res ris)
open Go.Ai.Args (args)
namespace Go.Ai.TTryz
open Go.Proofs
theorem wze9:∃a,ZBM Tryz.prog 9=some a∧is a (str []):=⟨enc (str []),by kernel_rfl,Enc.self _⟩
theorem wef9:EF Tryz.prog 9 0 16:=ZML (by kernel_rfl)
end Go.Ai.TTryz
namespace Go.Ai.Rab
open Go.Proofs
def ZJb (s:List Str) (n:Int):Option (List Str):=if s=[]∧0≤n∧n≤1000000000 then some [] else none
theorem ZQA (s_:List Str) (n:Int) (r:List Str) (h:ZJb s_ n=some r) {s:St} {enF:En} {G:Glob} (hs:Hp s [enF, .gl G]):MF Tryz.prog pz0 101 [.nils,enc n] s fun v s' =>∃en',isM v en' r∧Hp s' [en',enF, .gl G]:=by
 unfold ZJb at h;split at h
 ·rename_i hn;obtain⟨rfl,h0,h9⟩:=hn;obtain⟨q,rfl⟩:∃q:Nat,n=q:=⟨n.toNat,by omega⟩
  obtain⟨za,hza,hzok⟩:=ZT7 (T:=Str) TTryz.wze9;have hr:=Option.some.inj h;subst hr;refine ZB9 [(0, .nils),(1,(.int .i64 (q:Int)))] Tryz.func101 rfl (by simp only[Tryz.f101];rfl) fun ψ=> ?_
  repeat refine ZAB ?_
  refine ZAC<|ZAG (v:= .nils) rfl<|ZAA ?_
  repeat refine ZAB ?_
  refine ZAC<|ZAE (v:=(.int .i64 (q:Int))) rfl<|ZAJ (v:= .bool (decide ((q:Int)<0))) rfl rfl rfl<|ZAA<|ZAI rfl (by simp)<|ZAL ?_
  repeat refine ZAB ?_
  refine ZAC<|ZAE (v:=(.int .i64 (q:Int))) rfl<|ZAE (v:= .nils) rfl<|ZUT Tryz.underlying43 rfl rfl<|ZAE (v:= .nils) rfl<|ZAo (xs:=([]:List Str)) Tryz.underlying43 rfl rfl isL.nil<|ZAJ (v:= .int .i64 0) rfl rfl rfl<|ZAJ (v:= .int .i64 (q:Int)) rfl rfl (by show some (AV.int .i64 (IntKind.i64.wrap ((q:Int) - 0)))=_;rw[IntWalk.i64_in _ (by omega),Int.sub_zero])<|ZAG (v:=(.int .i64 (q:Int))) rfl<|ZAA ?_
  repeat refine ZAB ?_
  refine ZAC<|ZAE (v:=(.int .i64 (q:Int))) rfl<|ZAJ (v:= .bool (decide ((q:Int) > 0))) rfl rfl rfl<|ZAA ?_
  by_cases hq:0<q
  ·refine ZAH rfl (by simp;omega) ?_
   repeat refine ZAB ?_
   refine ZAC<|ZAE (v:= .nils) rfl<|ZAE (v:= .nils) rfl<|ZUT Tryz.underlying43 rfl rfl<|ZWs Tryz.underlying43 TTryz.wef9.sh rfl rfl<|ZAE (v:=(.int .i64 (q:Int))) rfl<|ZVQ (q:=q) Tryz.underlying43 Tryz.underlying3 rfl rfl rfl TTryz.wef9 hza hzok rfl rfl hs hq (by unfold ZES;simp;omega) fun m nc zs s hnc hzl hzo hs=>ZAE (v:= .nils) rfl<|ZAo (xs:=([]:List Str)) Tryz.underlying43 rfl rfl isL.nil<|ZNp (j:=0) Tryz.underlying43 TTryz.wef9.sh rfl rfl (by omega) (by omega)<|ZAG (v:=(.hs 0 m 0 0 nc)) rfl<|ZAA ?_
   repeat refine ZAB ?_
   refine ZAC<|ZAE (v:=(.hs 0 m 0 0 nc)) rfl<|ZAG (v:=(.hs 0 m 0 0 nc)) rfl<|ZAA<|ZAN ?_
   refine⟨rfl,KN1 rfl rfl ⟨.cells m (ZAg [] (ZAg (List.replicate q za) zs)), .inl ⟨m,nc,[],ZAg (List.replicate q za) zs,rfl,rfl,?_,?_,Nat.zero_le _,?_⟩,hs⟩⟩
   ·exact trivial
   ·have hl:=ZCK (z:=esz 0) (List.replicate q za) (fun v hv=>by rw[List.eq_of_mem_replicate hv];exact hzok.1)
    unfold ZAg;rw[List.length_append,hl,hzl,List.length_replicate];show q*esz 0+(nc - q)*esz 0=(nc - 0)*esz 0
    rw[←Nat.add_mul];congr 1
    omega
   intro y hy;unfold ZAg at hy;rcases List.mem_append.1 hy with hy | hy
   ·obtain⟨v,hv,hvy⟩:=List.mem_flatMap.1 hy;rw[List.eq_of_mem_replicate hv] at hvy;exact hzok.2.1 y hvy
   exact hzo y hy
  refine ZAI rfl (by simp;omega) ?_
  refine ZAL ?_
  repeat refine ZAB ?_
  refine ZAC<|ZAE (v:= .nils) rfl<|ZAG (v:= .nils) rfl<|ZAA<|ZAN ?_
  exact⟨rfl,KN1 rfl rfl ⟨.own .nils, .inr ⟨rfl,isL.nil,rfl,rfl,rfl⟩,hs.add rfl⟩⟩
 cases h
end Go.Ai.Rab
end
section
set_option maxRecDepth 100000
set_option maxHeartbeats 16000000
attribute [local irreducible] Go.Ai.TC Go.Ai.TO Go.Ai.MF Go.Ai.ZCS Go.Ai.ZBg Go.Ai.encR
open Go.Ai.Enc (enc is)
open Go.Ai.Res (res ris)
open Go.Ai.Args (args)
open Go.Ai.Flds (fe fi fk)
namespace Go.Ai

end Go.Ai
namespace Go.Ai.TTryz
open Go.Proofs

end Go.Ai.TTryz
namespace Go.Ai.Rab
open Go.Proofs TTryz Tryz
noncomputable def ZDb (v:Int) (size2:Int):Option ((Int×Int) ⊕ Int):=
 some (.inl (size2,(IntKind.i64.wrap (v+1))))
noncomputable def ZDc (slices:(List (List Str))):(Int×Int)→Option ((Int×Int) ⊕ Int)
 | (size,v)=>(if(decide (v<(slices.length:Int))) then((nth slices v).bind fun v1=>(if(decide ((IntKind.i64.wrap (size+(v1.length:Int)))<0)) then none else(ZDb v (IntKind.i64.wrap (size+(v1.length:Int)))))) else some (.inr size))
noncomputable def ZDd (slices:(List (List Str))):((List Str)×Int)→Option (((List Str)×Int) ⊕ (List Str))
 | (newslice,v2)=>(if(decide (v2<(slices.length:Int))) then((nth slices v2).bind fun v3=>((app 16 newslice v3).bind fun l=>some (.inl (l,(IntKind.i64.wrap (v2+1)))))) else some (.inr newslice))
noncomputable def ZIK:(List Str)→Option ((List Str))
 | newslice1=>some (newslice1)
noncomputable def ZIL (slices:(List (List Str))):Int→Option ((List Str))
 | size1=>((ZJb [] size1).bind fun r_=>((loop (ZDd slices) (r_,0)).bind (ZIK)))
noncomputable def ZGE (slices:(List (List Str))):Option ((List Str)):=
 ((loop (ZDc slices) (0,0)).bind (ZIL slices))
theorem ZMh (mx:Int) (slices:(List (List Str))) (r:(List Str)) (h:ZGE slices=some r) {x_slices:AV} (hy_slices:is x_slices slices) {s:St} {enF:En} (hs:Hp s [enF,(.gl (NG mx))]):MF Tryz.prog (pl3 mx) 83 [x_slices] s fun v s' =>∃en',isM v en' r∧Hp s' [en',enF, .gl (NG mx)]:=by
 refine ZB9 [(0,x_slices)] func83 rfl (by simp only[Tryz.f83];rfl) fun ψ=> ?_
 unfold ZGE at h;refine ZAB<|ZAC<|ZAG (v:= .nils) rfl<|ZAA<|ZAB<|ZAC<|ZAG (v:=enc (0:Int)) rfl<|ZAA<|ZAB<|ZAB<|ZAC<|ZAE (v:=x_slices) rfl<|ZAo underlying170 rfl rfl hy_slices<|ZAE (v:=enc (0:Int)) rfl<|ZAA ?_
 refine ZAQ ?_
 obtain⟨size1,hl,h⟩:=bs h;refine ZAk (fun(p:(Int×Int)) φ s=>match p with | (size,v)=>Fx φ [(0,x_slices),(3,(enc size)),(9,x_slices),(10,(enc ((slices.length:Int):Int))),(11,(enc v))]∧Hp s [enF,(.gl (NG mx))]) (fun(o:Int) e φ s=>match o with | size1=>e= .exit 0∧Fx φ [(0,x_slices),(3,(enc size1))]∧Hp s [enF,(.gl (NG mx))]) ?_ hl ⟨FxR rfl,hs⟩ ?_
 ·rintro⟨size,v⟩ o h φ s ⟨hF,hs⟩;rw[←hF.eq];rw[ZDc] at h;refine ZAB<|ZAC<|ZAJ (v:=enc (decide (v<(slices.length:Int)))) rfl rfl rfl<|ZAA<|ZAB ?_
  split at h
  ·rename_i c';refine ZAH rfl c'<|ZAL<|ZCd (fun φ s=>∃(size2:Int),Fx φ [(0,x_slices),(3,(enc size2)),(9,x_slices),(10,(enc ((slices.length:Int):Int))),(11,(enc v))]∧Hp s [enF,(.gl (NG mx))]∧ZDb v size2=some o) ?_ ?_
   ·refine ZAQ ?_
    refine ZAB<|ZAC ?_
    obtain⟨v1,hx,h⟩:=bs h;refine ZAu underlying170 sh43 rfl rfl hy_slices hx fun p hp=>ZB8 rfl ag43 rfl hp fun y hy=>ZAG (v:=y) rfl<|ZAA<|ZAB<|ZAC<|ZAE rfl<|ZAE (v:=y) rfl<|ZAo underlying43 rfl rfl hy<|ZAJ (v:=enc (IntKind.i64.wrap (size+(v1.length:Int)))) rfl rfl rfl<|ZAG rfl<|ZAA<|ZAB<|ZAC<|ZAE rfl ?_
    refine ZAJ (v:=enc (decide ((IntKind.i64.wrap (size+(v1.length:Int)))<0))) rfl rfl rfl<|ZAA ?_
    split at h
    ·rename_i c';refine ZAH rfl c'<|ZAC<|ZET (t:=9) (a:=((str [108,101,110,32,111,117,116,32,111,102,32,114,97,110,103,101]):Str)) (by kernel_rfl) rfl (rfl:is _ ((str [108,101,110,32,111,117,116,32,111,102,32,114,97,110,103,101]):Str)) fun z hz=> ?_
     cases h
    rename_i c';refine ZAI rfl c'<|ZAL ?_
    exact⟨(IntKind.i64.wrap (size+(v1.length:Int))),FxR rfl,hs,h⟩
   rintro φ s ⟨size2,hF,hs,h⟩;rw[←hF.eq];unfold ZDb at h;refine ZAC<|ZAJ (v:=enc (IntKind.i64.wrap (v+1))) rfl rfl rfl<|ZAE rfl<|ZAA ?_
   rw[←oi h];exact⟨_,rfl,⟨FxR rfl,hs⟩⟩
  rename_i c';refine ZAI rfl c'<|ZAf ?_
  rw[←oi h];exact⟨_,rfl,rfl,⟨FxR rfl,hs⟩⟩
 intro e φ s hE;obtain⟨rfl,hF,hs⟩:=hE;rw[←hF.eq];rw[ZIL] at h;show if _ then _ else _
 rw[if_pos rfl];refine ZAB<|ZAC<|ZAE rfl ?_
 obtain⟨r_,hx1,h⟩:=bs h;refine ZAt (by kernel_rfl) func101 rfl (vs:=[.nils,(enc size1)]) rfl (MF.any (ZQA [] size1 _ hx1 (Hp.packG [] [enF,(.gl (NG mx))] hs)) ZOx) fun w s ⟨en,hm,hq_⟩=> ?_
 replace hs:=Hp.unpackG [] [en] [enF,(.gl (NG mx))] hs hq_;refine ZAG (v:=w) rfl<|ZAA<|ZAB<|ZAB<|ZAC<|ZAE (v:=x_slices) rfl<|ZAo underlying170 rfl rfl hy_slices<|ZAE (v:=enc (0:Int)) rfl<|ZAA<|ZAQ ?_
 obtain⟨newslice1,hl,h⟩:=bs h;refine ZAk (fun(p:((List Str)×Int)) φ s=>match p with | (newslice,v2)=>∃(x_newslice:AV) (en1:En),isM x_newslice en1 newslice∧Fx φ [(6,x_newslice),(25,x_slices),(26,(enc ((slices.length:Int):Int))),(27,(enc v2))]∧Hp s [enF,(.gl (NG mx)),en1]) (fun(o:(List Str)) e φ s=>match o with | newslice1=>e= .exit 2∧∃(x_newslice1:AV) (en2:En),isM x_newslice1 en2 newslice1∧Fx φ [(6,x_newslice1)]∧Hp s [enF,(.gl (NG mx)),en2]) ?_ hl ⟨w,en,hm,FxR rfl,(Hp.front [(.gl (NG mx)),en] (b:=[]) (Hp.front [en,enF] (b:=[]) (Hp.front [] (b:=[enF,(.gl (NG mx))]) hs)))⟩ ?_
 ·rintro⟨newslice,v2⟩ o h φ s ⟨x_newslice,en1,hm_x_newslice,hF,hs⟩;rw[←hF.eq];rw[ZDd] at h;refine ZAB<|ZAC<|ZAJ (v:=enc (decide (v2<(slices.length:Int)))) rfl rfl rfl<|ZAA<|ZAB ?_
  split at h
  ·rename_i c';refine ZAH rfl c'<|ZAL<|ZAB<|ZAQ<|ZAB<|ZAC ?_
   obtain⟨v3,hx2,h⟩:=bs h;refine ZAu underlying170 sh43 rfl rfl hy_slices hx2 fun p1 hp1=>ZB8 rfl ag43 rfl hp1 fun y1 hy1=>ZAG (v:=y1) rfl<|ZAA<|ZAC<|ZAE (v:=x_newslice) rfl<|ZAE (v:=y1) rfl ?_
   replace hs:=Hp.front [enF,(.gl (NG mx))] (b:=[]) hs;obtain⟨l,hx3,h⟩:=bs h;refine ZJK underlying43 underlying43 rfl rfl ef9 rfl rfl (isM.ap hm_x_newslice) hy1 hx3 hs fun z1 en3 s hz1 hs=>ZAG (v:=z1) rfl<|ZAA<|ZAC<|ZAJ (v:=enc (IntKind.i64.wrap (v2+1))) rfl rfl rfl<|ZAE rfl<|ZAA ?_
   rw[←oi h];exact⟨_,rfl,⟨z1,en3,hz1,FxR rfl,(Hp.front [(.gl (NG mx)),en3] (b:=[]) (Hp.front [en3,enF] (b:=[]) (Hp.front [] (b:=[enF,(.gl (NG mx))]) hs)))⟩⟩
  rename_i c';refine ZAI rfl c'<|ZAf ?_
  rw[←oi h];exact⟨_,rfl,rfl,⟨x_newslice,en1,hm_x_newslice,FxR rfl,hs⟩⟩
 intro e φ s hE;obtain⟨rfl,x_newslice1,en2,hm_x_newslice1,hF,hs⟩:=hE;rw[←hF.eq];rw[ZIK] at h;show if _ then _ else _
 rw[if_pos rfl];refine ZAB<|ZAC<|ZAE (v:=x_newslice1) rfl<|ZAG (v:=x_newslice1) rfl<|ZAA<|ZAN ?_
 rw[←oi h];exact⟨rfl,KN1 rfl rfl ⟨_,hm_x_newslice1,(Hp.front [enF,(.gl (NG mx))] (b:=[]) (Hp.front [(.gl (NG mx))] (b:=[en2]) (Hp.front [enF] (b:=[en2]) hs)))⟩⟩
end Go.Ai.Rab
end
section
set_option maxRecDepth 100000
set_option maxHeartbeats 16000000
attribute [local irreducible] Go.Ai.TC Go.Ai.TO Go.Ai.MF Go.Ai.ZCS Go.Ai.ZBg Go.Ai.encR
open Go.Ai.Enc (enc is)
open Go.Ai.Res (res ris)
open Go.Ai.Args (args)
open Go.Ai.Flds (fe fi fk)
namespace Go.Ai

end Go.Ai
namespace Go.Ai.TTryz
open Go.Proofs
theorem ef43:EF Tryz.prog 43 0 24:=ZML (by kernel_rfl)
def zx85:List AV:=[.nils,enc (0:Int),enc false, .nils,enc (0:Int),enc (str []),enc (0:Int),enc false,enc (0:Int),enc (0:Int)]
theorem zr85:ZBM Tryz.prog 85=some (.agg zx85):=by kernel_rfl
theorem zf85:fi zx85 (Rec.mk ((Rec.mk (([]:(List ZAO)),(0:Int),()):FsR),false,([]:(List Str)),(Rec.mk ((0:Int),(str []),(0:Int),false,()):ZAU),(0:Int),(0:Int),()):ZAr).v:=⟨[.nils,enc (0:Int)],_,rfl,⟨_,_,rfl,isL.nil,⟨_,_,rfl,rfl,rfl⟩⟩,⟨_,_,rfl,rfl,⟨_,_,rfl,isL.nil,⟨[enc (0:Int),enc (str []),enc (0:Int),enc false],_,rfl,⟨_,_,rfl,rfl,⟨_,_,rfl,rfl,⟨_,_,rfl,rfl,⟨_,_,rfl,rfl,rfl⟩⟩⟩⟩,⟨_,_,rfl,rfl,⟨_,_,rfl,rfl,rfl⟩⟩⟩⟩⟩⟩
theorem pl85:plB Tryz.prog 85 [(0,2),(2,1),(3,1),(4,4),(8,1),(9,1)]=true:=by kernel_rfl
theorem ZWt:flO Tryz.prog 85 1 2=true:=by kernel_rfl
theorem ZIM:flO Tryz.prog 85 2 3=true:=by kernel_rfl
theorem ZRZ:flO Tryz.prog 85 5 9=true:=by kernel_rfl
theorem ZJc:flB Tryz.prog 29 2=true:=by kernel_rfl
theorem ZO5:flB Tryz.prog 29 3=true:=by kernel_rfl
end Go.Ai.TTryz
namespace Go.Ai.Rab
open Go.Proofs TTryz Tryz
noncomputable def ZCD (w:ZAr) (s_:Str) (target1:Str) (from_:Int):Option (ZAr×(ErrN 104)):=
 ((ZBm target1).bind fun r_1=>((if w.v.2.2.2.1.v.2.2.2.1 then some true else((if r_1.2.1 then some ((w.v.2.2.1.length:Int)==0) else some false).bind fun b1=>some b1)).bind fun b=>((ZGE [r_1.1,w.v.2.2.1]).bind fun r_2=>((ZG8 (Rec.mk (w.v.1,w.v.2.1,r_2,(Rec.mk (w.v.2.2.2.1.v.1,w.v.2.2.2.1.v.2.1,w.v.2.2.2.1.v.2.2.1,b,()):ZAU),w.v.2.2.2.2.1,(IntKind.i64.wrap (w.v.2.2.2.2.2.1+1)),()):ZAr) from_).bind fun r_3=>((ZBE s_ r_1.2.2).bind fun r_4=>some (r_3,r_4))))))
noncomputable def ZGF (w:ZAr) (s_:Str) (target:Str):Option (ZAr×(ErrN 104)):=
 (if(w.v.2.2.2.2.2.1==8) then((ZBE s_ 209).bind fun r_=>some (w,r_)) else((strings_HasPrefix target (str [47])).bind fun r_5=>(if r_5 then(ZCD w s_ target 1) else((catT (str [47]) target).bind fun s_1=>(ZCD w s_ s_1 w.v.2.2.2.2.1)))))
noncomputable def ZDe (s_:Str) (num:Int) (w1:ZAr):Option (ZAr×(ErrN 104)):=
 some ((Rec.mk (w1.v.1,w1.v.2.1,w1.v.2.2.1,(Rec.mk (w1.v.2.2.2.2.1,s_,num,w1.v.2.2.2.1.v.2.2.2.1,()):ZAU),(imax num 1),w1.v.2.2.2.2.2.1,()):ZAr),(ErrN.mk none:ErrN 104))
noncomputable def ZCg (w:ZAr) (s_:Str) (num:Int):Option (ZAr×(ErrN 104)):=
 (if(decide (num > 0)) then((ZCu w num).bind fun r_5=>((if(r_5.v.2.1==3) then((if(!((w.v.2.2.1.length:Int)==0)) then some true else some w.v.2.1).bind fun b1=>((if b1 then some true else some w.v.2.2.2.1.v.2.2.2.1).bind fun b2=>some b2)) else some false).bind fun b=>(if b then((ZGF w s_ r_5.v.2.2.2.2.2.1).bind fun r_6=>some (r_6.1,r_6.2)) else(ZDe s_ num w)))) else(ZDe s_ num w))
noncomputable def ZEM (w:ZAr) (s_:Str):Option (ZAr×(ErrN 104)):=
 ((ZCu w w.v.2.2.2.2.1).bind fun r_=>(if(r_.v.2.1 !=2) then((ZBE s_ 203).bind fun r_1=>some (w,r_1)) else(if(eqS s_ (str [46,46])) then((ZBI w.v.1 w.v.2.2.2.2.1).bind fun r_2=>((ZG8 w (imax r_2 1)).bind fun r_3=>some (r_3,(ErrN.mk none:ErrN 104)))) else((ZCC w.v.1 w.v.2.2.2.2.1 s_).bind fun r_4=>(if(r_4.2 !=0) then(if(!((w.v.2.2.1.length:Int)==0)) then((ZBE s_ 201).bind fun r_7=>some (w,r_7)) else(ZCg w s_ 0)) else(ZCg w s_ r_4.1))))))
noncomputable def ZCE:(ZAU×ZAr)→Option ((ZAU×ZAr) ⊕ ((ZAU×ZAr) ⊕ (ZAU×(ErrN 104))))
 | (v,w2)=>(if((w2.v.2.2.1.length:Int)==0) then some (.inr (.inl (v,w2))) else((nth w2.v.2.2.1 0).bind fun v4=>((sub w2.v.2.2.1 1 (w2.v.2.2.1.length:Nat)).bind fun l=>((ZEM (Rec.mk (w2.v.1,w2.v.2.1,l,w2.v.2.2.2.1,w2.v.2.2.2.2.1,w2.v.2.2.2.2.2.1,()):ZAr) v4).bind fun r_5=>(if r_5.2.c.isSome then some (.inr (.inr ((Rec.mk ((0:Int),(str []),(0:Int),false,()):ZAU),r_5.2))) else some (.inl (v,r_5.1)))))))
noncomputable def ZCh (path:Str):((ZAU×ZAr) ⊕ (ZAU×(ErrN 104)))→Option (ZAU×(ErrN 104))
 | (.inl (v1,w3))=>((if w3.v.2.2.2.1.v.2.2.2.1 then some (decide (w3.v.2.2.2.1.v.2.2.1 > 0)) else some false).bind fun b=>((if b then((ZCu w3 w3.v.2.2.2.1.v.2.2.1).bind fun r_6=>some (r_6.v.2.1 !=2)) else some false).bind fun b1=>(if b1 then((ZBE path 203).bind fun r_7=>some ((Rec.mk ((0:Int),(str []),(0:Int),false,()):ZAU),r_7)) else some (w3.v.2.2.2.1,(ErrN.mk none:ErrN 104)))))
 | (.inr (v2,v3))=>some (v2,v3)
noncomputable def ZDf (f:FsR) (path:Str) (follow:Bool):Option (ZAU×(ErrN 104)):=
 ((ZAw f).bind fun r_=>(if(!r_) then((ZBE path 2).bind fun r_1=>some ((Rec.mk ((0:Int),(str []),(0:Int),false,()):ZAU),r_1)) else((ZBm path).bind fun r_2=>(if(r_2.2.2 !=0) then((ZBE path r_2.2.2).bind fun r_3=>some ((Rec.mk ((0:Int),(str []),(0:Int),false,()):ZAU),r_3)) else((ZG8 (Rec.mk (f,follow,r_2.1,(Rec.mk ((0:Int),(str []),(0:Int),r_2.2.1,()):ZAU),(0:Int),(0:Int),()):ZAr) 1).bind fun r_4=>((loop (ZCE) ((Rec.mk ((0:Int),(str []),(0:Int),false,()):ZAU),r_4)).bind (ZCh path)))))))
theorem ZMi (mx:Int) (w:ZAr) (s_:Str) (target:Str) (r:ZAr×(ErrN 104)) (h:ZGF w s_ target=some r) {m_w:Nat} {xs_w:List AV} (hr_w:fi xs_w w.v) {s:St} {enF:En} (hs:Hp s [(.cells m_w xs_w),enF,(.gl (NG mx))]):MF Tryz.prog (pl3 mx) 68 [(.ptr m_w 0),(enc s_),(enc target)] s fun v s' =>∃xs',fi xs' r.1.v∧ris v r.2∧Hp s' [(.cells m_w xs'),enF, .gl (NG mx)]:=by
 refine ZB9 [(0,(.ptr m_w 0)),(1,(enc s_)),(2,(enc target))] func68 rfl (by simp only[Tryz.f68];rfl) fun ψ=> ?_
 unfold ZGF at h;refine ZAB<|ZAC<|ZAG (v:= .nifc) rfl<|ZAA<|ZAB<|ZAB<|ZAC<|ZAE (v:= .ptr m_w 0) rfl<|ZA0 rfl<|ZAj (q:=9) ZRZ rfl rfl<|ZAK ag3 (Sel.skip (Ss (Ss (Sel.skip (Ss Sz))))) rfl hr_w hs fun y hy=> ?_
 cases hy;refine ZAJ (v:=enc (w.v.2.2.2.2.2.1==8)) rfl rfl rfl<|ZAA ?_
 split at h
 ·rename_i c';refine ZAH rfl c'<|ZAB<|ZAC<|ZAE rfl ?_
  obtain⟨r_,hx,h⟩:=bs h;refine ZAY (f:=fun a:Str×Int×Unit=>ZBE a.1 a.2.1) (a:=(s_,209,())) rfl func47 rfl rfl (.cons (a:=s_) (Enc.self _) (.cons (a:=(209:Int)) (rfl:is _ (209:Int)) .nil)) hs (lM _ (lM _ List.mem_cons_self)) hx<|ZAG rfl<|ZAA<|ZAN ?_
  rw[←oi h];exact⟨rfl,KN1 rfl rfl ⟨_,hr_w,(Enc.self r_),hs⟩⟩
 rename_i c';refine ZAI rfl c'<|ZAL<|ZAB<|ZAC<|ZAE (v:= .ptr m_w 0) rfl<|ZA0 rfl<|ZAj (q:=9) ZRZ rfl rfl<|ZAK ag3 (Sel.skip (Ss (Ss (Sel.skip (Ss Sz))))) rfl hr_w hs fun y1 hy1=> ?_
 cases hy1;refine ZAJ (v:=enc (IntKind.i64.wrap (w.v.2.2.2.2.2.1+1))) rfl rfl rfl<|ZA0 rfl<|ZAj (q:=9) ZRZ rfl rfl<|ZEX (z:=((IntKind.i64.wrap (w.v.2.2.2.2.2.1+1)):Int)) sz3 (Sel.skip (Ss (Ss (Sel.skip (Ss Sz))))) rfl rfl (rfl:is _ ((IntKind.i64.wrap (w.v.2.2.2.2.2.1+1)):Int)) hr_w hs fun xs s hxs hs=>ZAA<|ZAB<|ZAC<|ZAE (v:= .ptr m_w 0) rfl<|ZA0 rfl<|ZAj (q:=8) ZJa rfl rfl<|ZAK ag3 (Sel.skip (Ss (Ss (Sel.skip Sz)))) rfl hxs hs fun y2 hy2=> ?_
 cases hy2;refine ZAG rfl<|ZAA<|ZCd (fun φ s=>∃(target1:Str) (from_:Int),Fx φ [(0,(.ptr m_w 0)),(1,(enc s_)),(2,(enc target1)),(7,(enc from_))]∧Hp s [(.cells m_w xs),enF,(.gl (NG mx))]∧ZCD w s_ target1 from_=some r) ?_ ?_
 ·refine ZAB ?_
  refine ZAC<|ZAE rfl ?_
  obtain⟨r_5,hx5,h⟩:=bs h;refine ZCr (f:=fun a:Str×Str×Unit=>strings_HasPrefix a.1 a.2.1) (a:=(target,(str [47]),())) rfl func82 rfl rfl (.cons (a:=target) (Enc.self _) (.cons (a:=((str [47]):Str)) (Enc.self _) .nil)) hx5<|ZAA ?_
  split at h
  ·rename_i c';refine ZAH rfl c'<|ZAC<|ZAG (v:=enc (1:Int)) rfl<|ZAA ?_
   exact⟨target,1,FxR rfl,hs,h⟩
  rename_i c';refine ZAI rfl c'<|ZAC<|ZAE rfl ?_
  obtain⟨s_1,hx6,h⟩:=bs h;refine ZMN rfl rfl hx6<|ZAG rfl<|ZAA ?_
  exact⟨s_1,w.v.2.2.2.2.1,FxR rfl,hs,h⟩
 rintro φ s ⟨target1,from_,hF,hs,h⟩;rw[←hF.eq];unfold ZCD at h;refine ZAB<|ZAC<|ZAE rfl ?_
 obtain⟨r_1,hx1,h⟩:=bs h;refine ZAY (f:=fun a:Str×Unit=>ZBm a.1) (a:=(target1,())) rfl func48 rfl rfl (.cons (a:=target1) (Enc.self _) .nil) hs (lM _ (lM _ List.mem_cons_self)) hx1<|ZAE (v:=res r_1) rfl<|ZAy rfl rfl<|ZAy rfl rfl<|ZAy rfl rfl<|ZAG rfl<|ZAG rfl<|ZAG rfl<|ZAA<|ZAB<|ZAC<|ZAE (v:= .ptr m_w 0) rfl<|ZAE (v:= .ptr m_w 0) rfl<|ZA0 rfl<|ZAj (q:=4) ZHc rfl rfl ?_
 refine ZAj (q:=7) ZMd rfl rfl<|ZAK ag4 (Sel.of (SelR.skip (SelR.succ (SelR.succ SelR.zero))) (Ss (Ss (Ss Sz)))) rfl hxs hs fun y3 hy3=> ?_
 cases hy3;refine ZAE rfl ?_
 obtain⟨b,hb_b,h⟩:=bs h;refine ZAS 10 (fun φ s=>Hp s [(.cells m_w xs),enF,(.gl (NG mx))]∧Fx φ [(0,(.ptr m_w 0)),(1,(enc s_)),(7,(enc from_)),(8,(enc (r_1.1:(List Str)))),(10,(enc r_1.2.2)),(39,(.ptr m_w 0)),(55,(enc b))]) ?_ ?_
 ·split at hb_b
  ·rename_i cg;refine ZAD rfl rfl (by simpa using cg)<|ZAD rfl rfl (by simpa using cg)<|ZAP rfl rfl<|ZAP rfl rfl<|ZAP rfl rfl<|ZAP rfl rfl<|ZAP rfl rfl<|ZAP rfl rfl<|ZAD rfl rfl (by simpa using cg)<|ZAa (v:=enc true) rfl cg rfl<|ZAA ?_
   rw[←oi hb_b];exact⟨hs,FxR rfl⟩
  rename_i cg1;refine ZAF rfl rfl (by simpa using cg1)<|ZAE rfl<|ZAF rfl rfl (by simpa using cg1)<|ZAE rfl ?_
  obtain⟨b1,hb_b1,hb_b⟩:=bs hb_b;refine ZAS 7 (fun φ s=>Hp s [(.cells m_w xs),enF,(.gl (NG mx))]∧Fx φ [(0,(.ptr m_w 0)),(1,(enc s_)),(7,(enc from_)),(8,(enc (r_1.1:(List Str)))),(10,(enc r_1.2.2)),(39,(.ptr m_w 0)),(45,(enc w.v.2.2.2.1.v.2.2.2.1)),(54,(enc b1))]) ?_ ?_
  ·split at hb_b1
   ·rename_i cg2;refine ZAF rfl rfl cg2<|ZAE (v:= .ptr m_w 0) rfl<|ZAF rfl rfl cg2<|ZA0 rfl<|ZAF rfl rfl cg2<|ZAj (q:=3) ZIM rfl rfl<|ZAF rfl rfl cg2<|ZAK ag43 (Sel.skip (Ss Sz)) rfl hxs hs fun y4 hy4=>ZAF rfl rfl cg2<|ZAo underlying43 rfl rfl hy4<|ZAF rfl rfl cg2<|ZAJ (v:=enc (((w.v.2.2.1.length:Int)==0):Bool)) rfl rfl rfl<|ZAF rfl rfl (by simpa using cg1)<|ZAa rfl cg2 rfl<|ZAA ?_
    rw[←oi hb_b1];exact⟨hs,FxR rfl⟩
   rename_i cg3;refine ZAD rfl rfl cg3<|ZAD rfl rfl cg3<|ZAD rfl rfl cg3<|ZAD rfl rfl cg3<|ZAD rfl rfl cg3<|ZAD rfl rfl cg3<|ZAF rfl rfl (by simpa using cg1)<|ZAZ (v:=enc false) rfl cg3 rfl<|ZAA ?_
   rw[←oi hb_b1];exact⟨hs,FxR rfl⟩
  rintro φ s ⟨hs,hF⟩;rw[←hF.eq];refine ZAZ rfl cg1 rfl<|ZAA ?_
  rw[←oi hb_b];exact⟨hs,FxR rfl⟩
 rintro φ s ⟨hs,hF⟩;rw[←hF.eq];refine ZA0 rfl<|ZAj (q:=4) ZHc rfl rfl<|ZAj (q:=7) ZMd rfl rfl<|ZEX (z:=b) sz4 (Sel.of (SelR.skip (SelR.succ (SelR.succ SelR.zero))) (Ss (Ss (Ss Sz)))) rfl rfl (rfl:is _ b) hxs hs fun xs1 s hxs1 hs=>ZAA<|ZAB<|ZAC<|ZAE (v:= .ptr m_w 0) rfl<|ZAE rfl<|ZAE (v:= .ptr m_w 0) rfl<|ZA0 rfl<|ZAj (q:=3) ZIM rfl rfl<|ZAK ag43 (Sel.skip (Ss Sz)) rfl hxs1 hs fun y5 hy5=>ZDv [(enc (r_1.1:(List Str))),y5] ([r_1.1,w.v.2.2.1]:(List (List Str))) underlying170 ef43 rfl rfl rfl (Nat.le_of_ble_eq_true rfl) ⟨(Enc.self r_1.1),hy5,trivial⟩ fun z hz hzc hzn=> ?_
 obtain⟨r_2,hx2,h⟩:=bs h;refine ZAt (by kernel_rfl) func83 rfl (vs:=[z]) rfl (MF.any (ZMh mx [r_1.1,w.v.2.2.1] _ hx2 hz (Hp.packN [] [(.cells m_w xs1),enF,(.gl (NG mx))] hs (Hp.glob hs (lM _ (lM _ List.mem_cons_self))))) (ZMg mx)) fun w1 s ⟨en,hm,hq_⟩=> ?_
 replace hs:=Hp.unpackN [] [en] [(.cells m_w xs1),enF,(.gl (NG mx))] hs (Hp.glob hs (lM _ (lM _ List.mem_cons_self))) hq_;refine ZJJ (q:=66) rfl hm hs fun z1 s hz1 hs=>ZA0 rfl<|ZAj (q:=3) ZIM rfl rfl<|ZEX (z:=r_2) sz43 (Sel.skip (Ss Sz)) rfl rfl hz1 hxs1 hs fun xs2 s hxs2 hs=>ZAA<|ZAB<|ZAC<|ZAE (v:= .ptr m_w 0) rfl<|ZAE rfl ?_
 obtain⟨r_3,hx3,h⟩:=bs h;refine ZAt (by kernel_rfl) func49 rfl (vs:=[(.ptr m_w 0),(enc from_)]) rfl (MF.any (ZH6 mx (Rec.mk (w.v.1,w.v.2.1,r_2,(Rec.mk (w.v.2.2.2.1.v.1,w.v.2.2.2.1.v.2.1,w.v.2.2.2.1.v.2.2.1,b,()):ZAU),w.v.2.2.2.2.1,(IntKind.i64.wrap (w.v.2.2.2.2.2.1+1)),()):ZAr) from_ _ hx3 hxs2 (Hp.packN [(.cells m_w xs2)] [enF,(.gl (NG mx))] hs (Hp.glob hs (lM _ (lM _ List.mem_cons_self))))) (ZJY mx)) fun z2 s ⟨xs3,hxs3,hq_⟩=> ?_
 replace hs:=Hp.unpackN [(.cells m_w xs2)] [(.cells m_w xs3)] [enF,(.gl (NG mx))] hs (Hp.glob hs (lM _ (lM _ List.mem_cons_self))) hq_;refine ZAA<|ZAB<|ZAC<|ZAE rfl<|ZAE rfl ?_
 obtain⟨r_4,hx4,h⟩:=bs h;refine ZAY (f:=fun a:Str×Int×Unit=>ZBE a.1 a.2.1) (a:=(s_,r_1.2.2,())) rfl func47 rfl rfl (.cons (a:=s_) (Enc.self _) (.cons (a:=r_1.2.2) (Enc.self _) .nil)) hs (lM _ (lM _ List.mem_cons_self)) hx4<|ZAG rfl<|ZAA<|ZAN ?_
 rw[←oi h];exact⟨rfl,KN1 rfl rfl ⟨_,hxs3,(Enc.self r_4),hs⟩⟩
theorem ZMj (mx:Int) (w:ZAr) (s_:Str) (r:ZAr×(ErrN 104)) (h:ZEM w s_=some r) {m_w:Nat} {xs_w:List AV} (hr_w:fi xs_w w.v) {s:St} {enF:En} (hs:Hp s [(.cells m_w xs_w),enF,(.gl (NG mx))]):MF Tryz.prog (pl3 mx) 50 [(.ptr m_w 0),(enc s_)] s fun v s' =>∃xs',fi xs' r.1.v∧ris v r.2∧Hp s' [(.cells m_w xs'),enF, .gl (NG mx)]:=by
 refine ZB9 [(0,(.ptr m_w 0)),(1,(enc s_))] func50 rfl (by simp only[Tryz.f50];rfl) fun ψ=> ?_
 unfold ZEM at h;refine ZAB<|ZAC<|ZAG (v:= .nifc) rfl<|ZAA<|ZAB<|ZAB<|ZAC<|ZAE (v:= .ptr m_w 0) rfl<|ZAE (v:= .ptr m_w 0) rfl<|ZA0 rfl<|ZAj (q:=8) ZJa rfl rfl<|ZAK ag3 (Sel.skip (Ss (Ss (Sel.skip Sz)))) rfl hr_w hs fun y hy=> ?_
 cases hy;obtain⟨r_,hx,h⟩:=bs h;refine ZAt (by kernel_rfl) func51 rfl (vs:=[(.ptr m_w 0),(enc w.v.2.2.2.2.1)]) rfl (MF.any (ZGD mx w w.v.2.2.2.2.1 _ hx hr_w (Hp.packN [(.cells m_w xs_w)] [enF,(.gl (NG mx))] hs (Hp.glob hs (lM _ (lM _ List.mem_cons_self))))) (ZJY mx)) fun z s ⟨hz,hq_⟩=> ?_
 replace hs:=Hp.unpackN [(.cells m_w xs_w)] [(.cells m_w xs_w)] [enF,(.gl (NG mx))] hs (Hp.glob hs (lM _ (lM _ List.mem_cons_self))) hq_;refine ZS0 ZB4 (Ss Sz) rfl hz fun y1 hy1=> ?_
 cases hy1;refine ZAJ (v:=enc (r_.v.2.1 !=2)) rfl rfl rfl<|ZAA ?_
 split at h
 ·rename_i c';refine ZAH rfl c'<|ZAB<|ZAC<|ZAE rfl ?_
  obtain⟨r_1,hx1,h⟩:=bs h;refine ZAY (f:=fun a:Str×Int×Unit=>ZBE a.1 a.2.1) (a:=(s_,203,())) rfl func47 rfl rfl (.cons (a:=s_) (Enc.self _) (.cons (a:=(203:Int)) (rfl:is _ (203:Int)) .nil)) hs (lM _ (lM _ List.mem_cons_self)) hx1<|ZAG rfl<|ZAA<|ZAN ?_
  rw[←oi h];exact⟨rfl,KN1 rfl rfl ⟨_,hr_w,(Enc.self r_1),hs⟩⟩
 rename_i c';refine ZAI rfl c'<|ZAL<|ZAB<|ZAB<|ZAC<|ZAE rfl<|ZAJ (v:=enc ((eqS s_ (str [46,46])):Bool)) rfl rfl rfl<|ZAA ?_
 split at h
 ·rename_i c';refine ZAH rfl c'<|ZAB<|ZRE [0,1,2,3,4,5,6,7,8,9,10,11] (by kernel_rfl)<|ZAE (v:= .ptr m_w 0) rfl<|ZAE (v:= .ptr m_w 0) rfl<|ZA0 rfl<|ZAj (q:=0) ZO4 rfl rfl<|ZKZ ag24 sz24 SelR.zero rfl hr_w hs fun y2 hy2=>ZAE (v:= .ptr m_w 0) rfl<|ZA0 rfl<|ZAj (q:=8) ZJa rfl rfl<|ZAK ag3 (Sel.skip (Ss (Ss (Sel.skip Sz)))) rfl hr_w hs fun y3 hy3=> ?_
  cases hy3;obtain⟨r_2,hx2,h⟩:=bs h;refine ZAY (f:=fun a:FsR×Int×Unit=>ZBI a.1 a.2.1) (a:=(w.v.1,w.v.2.2.2.2.1,())) rfl func41 rfl rfl (.cons (a:=w.v.1) hy2 (.cons (a:=w.v.2.2.2.2.1) (Enc.self _) .nil)) hs (lM _ (lM _ List.mem_cons_self)) hx2<|ZU3 rfl rfl ?_
  obtain⟨r_3,hx3,h⟩:=bs h;refine ZAt (by kernel_rfl) func49 rfl (vs:=[(.ptr m_w 0),(enc ((imax r_2 1):Int))]) rfl (MF.any (ZH6 mx w (imax r_2 1) _ hx3 hr_w (Hp.packN [(.cells m_w xs_w)] [enF,(.gl (NG mx))] hs (Hp.glob hs (lM _ (lM _ List.mem_cons_self))))) (ZJY mx)) fun z1 s ⟨xs1,hxs1,hq_⟩=> ?_
  replace hs:=Hp.unpackN [(.cells m_w xs_w)] [(.cells m_w xs1)] [enF,(.gl (NG mx))] hs (Hp.glob hs (lM _ (lM _ List.mem_cons_self))) hq_;refine ZAA<|ZAB<|ZAC<|ZAG (v:= .nifc) rfl<|ZAA<|ZAN ?_
  rw[←oi h];exact⟨rfl,KN1 rfl rfl ⟨_,hxs1,rfl,hs⟩⟩
 rename_i c';refine ZAI rfl c'<|ZAL<|ZAB<|ZAC<|ZAE (v:= .ptr m_w 0) rfl<|ZA0 rfl<|ZAj (q:=3) ZIM rfl rfl<|ZAK ag43 (Sel.skip (Ss Sz)) rfl hr_w hs fun y4 hy4=>ZAo underlying43 rfl rfl hy4<|ZAJ (v:=enc (((w.v.2.2.1.length:Int)==0):Bool)) rfl rfl rfl<|ZAG rfl<|ZAA<|ZAB<|ZBJ (by decide+kernel) (by kernel_rfl)<|ZAE (v:= .ptr m_w 0) rfl ?_
 refine ZA0 rfl<|ZAj (q:=0) ZO4 rfl rfl<|ZKZ ag24 sz24 SelR.zero rfl hr_w hs fun y5 hy5=>ZAE (v:= .ptr m_w 0) rfl<|ZA0 rfl<|ZAj (q:=8) ZJa rfl rfl<|ZAK ag3 (Sel.skip (Ss (Ss (Sel.skip Sz)))) rfl hr_w hs fun y6 hy6=> ?_
 cases hy6;refine ZAE rfl ?_
 obtain⟨r_4,hx4,h⟩:=bs h;refine ZAY (f:=fun a:FsR×Int×Str×Unit=>ZCC a.1 a.2.1 a.2.2.1) (a:=(w.v.1,w.v.2.2.2.2.1,s_,())) rfl func67 rfl rfl (.cons (a:=w.v.1) hy5 (.cons (a:=w.v.2.2.2.2.1) (Enc.self _) (.cons (a:=s_) (Enc.self _) .nil))) hs (lM _ (lM _ List.mem_cons_self)) hx4<|ZAE (v:=res r_4) rfl<|ZAy rfl rfl<|ZAy rfl rfl<|ZAG rfl<|ZAG rfl<|ZAA<|ZCd (fun φ s=>∃(num:Int),Fx φ [(0,(.ptr m_w 0)),(1,(enc s_)),(5,(enc (((w.v.2.2.1.length:Int)==0):Bool))),(6,(enc num))]∧Hp s [(.cells m_w xs_w),enF,(.gl (NG mx))]∧ZCg w s_ num=some r) ?_ ?_
 ·refine ZAB ?_
  refine ZAC<|ZAE rfl<|ZAJ (v:=enc (r_4.2 !=0)) rfl rfl rfl<|ZAA ?_
  split at h
  ·rename_i c';refine ZAH rfl c'<|ZAB<|ZAB<|ZAC<|ZAE rfl<|ZBO (v:=enc (!((w.v.2.2.1.length:Int)==0))) rfl rfl<|ZAA ?_
   split at h
   ·rename_i c';refine ZAH rfl c'<|ZAB<|ZAC<|ZAE rfl ?_
    obtain⟨r_7,hx7,h⟩:=bs h;refine ZAY (f:=fun a:Str×Int×Unit=>ZBE a.1 a.2.1) (a:=(s_,201,())) rfl func47 rfl rfl (.cons (a:=s_) (Enc.self _) (.cons (a:=(201:Int)) (rfl:is _ (201:Int)) .nil)) hs (lM _ (lM _ List.mem_cons_self)) hx7<|ZAG rfl<|ZAA<|ZAN ?_
    rw[←oi h];exact⟨rfl,KN1 rfl rfl ⟨_,hr_w,(Enc.self r_7),hs⟩⟩
   rename_i c';refine ZAI rfl c'<|ZAL<|ZAC<|ZAG (v:=enc (0:Int)) rfl<|ZAA ?_
   exact⟨0,FxR rfl,hs,h⟩
  rename_i c';refine ZAI rfl c'<|ZAL ?_
  exact⟨r_4.1,FxR rfl,hs,h⟩
 rintro φ s ⟨num,hF,hs,h⟩;rw[←hF.eq];unfold ZCg at h;refine ZCd (fun φ s=>∃(w1:ZAr) (xs_w1:List AV),fi xs_w1 w1.v∧Fx φ [(0,(.ptr m_w 0)),(1,(enc s_)),(6,(enc num))]∧Hp s [enF,(.gl (NG mx)),(.cells m_w xs_w1)]∧ZDe s_ num w1=some r) ?_ ?_
 ·refine ZAB ?_
  refine ZAC<|ZAE rfl<|ZAJ (v:=enc (decide (num > 0))) rfl rfl rfl<|ZAA ?_
  split at h
  ·rename_i c';refine ZAH rfl c'<|ZAB<|ZAC<|ZAE (v:= .ptr m_w 0) rfl<|ZAE rfl ?_
   obtain⟨r_5,hx5,h⟩:=bs h;refine ZAt (by kernel_rfl) func51 rfl (vs:=[(.ptr m_w 0),(enc num)]) rfl (MF.any (ZGD mx w num _ hx5 hr_w (Hp.packN [(.cells m_w xs_w)] [enF,(.gl (NG mx))] hs (Hp.glob hs (lM _ (lM _ List.mem_cons_self))))) (ZJY mx)) fun z2 s ⟨hz2,hq_⟩=> ?_
   replace hs:=Hp.unpackN [(.cells m_w xs_w)] [(.cells m_w xs_w)] [enF,(.gl (NG mx))] hs (Hp.glob hs (lM _ (lM _ List.mem_cons_self))) hq_;refine ZBG (r:=(Rec.mk ((0:Int),(0:Int),(0:Int),(0:Int),([]:(List UInt8)),(str []),([]:(List Str)),([]:(List Int)),([]:(List ZAi)),()):ZAO)) zr47 zf47 hs fun m s hs=>ZAx (r:=r_5) sz47 rfl rfl zf47 hz2 hs fun xs5 s hxs5 hs=>ZAA<|ZAB<|ZAC<|ZAV ZB4 rfl<|ZAK ag41 (Ss Sz) rfl hxs5 hs fun y10 hy10=> ?_
   cases hy10;refine ZAJ (v:=enc (r_5.v.2.1==3)) rfl rfl rfl<|ZAE rfl ?_
   obtain⟨b,hb_b,h⟩:=bs h;refine ZAS 16 (fun φ s=>Hp s [(.cells m xs5),(.cells m_w xs_w),enF,(.gl (NG mx))]∧Fx φ [(0,(.ptr m_w 0)),(1,(enc s_)),(6,(enc num)),(8,(.ptr m 0)),(82,(enc b))]) ?_ ?_
   ·split at hb_b
    ·rename_i cg;refine ZAF rfl rfl cg<|ZAE rfl<|ZAF rfl rfl cg<|ZBO (v:=enc (!((w.v.2.2.1.length:Int)==0))) rfl rfl<|ZAF rfl rfl cg<|ZAE rfl ?_
     obtain⟨b1,hb_b1,hb_b⟩:=bs hb_b;refine ZAS 5 (fun φ s=>Hp s [(.cells m xs5),(.cells m_w xs_w),enF,(.gl (NG mx))]∧Fx φ [(0,(.ptr m_w 0)),(1,(enc s_)),(6,(enc num)),(8,(.ptr m 0)),(66,(enc (r_5.v.2.1==3))),(74,(enc b1))]) ?_ ?_
     ·split at hb_b1
      ·rename_i cg1;refine ZAD rfl rfl (by simpa using cg1)<|ZAD rfl rfl (by simpa using cg1)<|ZAD rfl rfl (by simpa using cg1)<|ZAD rfl rfl (by simpa using cg1)<|ZAF rfl rfl cg<|ZAa (v:=enc true) rfl cg1 rfl<|ZAA ?_
       rw[←oi hb_b1];exact⟨hs,FxR rfl⟩
      rename_i cg2;refine ZAF rfl rfl (by simpa using cg2)<|ZAE (v:= .ptr m_w 0) rfl<|ZAF rfl rfl (by simpa using cg2)<|ZA0 rfl<|ZAF rfl rfl (by simpa using cg2)<|ZAj (q:=2) ZWt rfl rfl<|ZAF rfl rfl (by simpa using cg2) ?_
      replace hs:=Hp.front [(.cells m xs5)] (b:=[enF,(.gl (NG mx))]) hs;refine ZAK ag4 (Sel.skip Sz) rfl hr_w hs fun y11 hy11=> ?_
      cases hy11;refine ZAF rfl rfl cg<|ZAZ rfl cg2 rfl<|ZAA ?_
      rw[←oi hb_b1];exact⟨(Hp.front [(.cells m_w xs_w),enF,(.gl (NG mx))] (b:=[]) (Hp.front [enF,(.gl (NG mx))] (b:=[(.cells m xs5)]) (Hp.front [(.gl (NG mx)),(.cells m_w xs_w),(.cells m xs5)] (b:=[]) (Hp.front [(.cells m_w xs_w),(.cells m xs5),enF] (b:=[]) hs)))),FxR rfl⟩
     rintro φ s ⟨hs,hF⟩;rw[←hF.eq];refine ZAF rfl rfl cg<|ZAE rfl ?_
     obtain⟨b2,hb_b2,hb_b⟩:=bs hb_b;refine ZAS 6 (fun φ s=>Hp s [(.cells m xs5),(.cells m_w xs_w),enF,(.gl (NG mx))]∧Fx φ [(0,(.ptr m_w 0)),(1,(enc s_)),(6,(enc num)),(8,(.ptr m 0)),(66,(enc (r_5.v.2.1==3))),(81,(enc b2))]) ?_ ?_
     ·split at hb_b2
      ·rename_i cg3;refine ZAD rfl rfl (by simpa using cg3)<|ZAD rfl rfl (by simpa using cg3)<|ZAD rfl rfl (by simpa using cg3)<|ZAD rfl rfl (by simpa using cg3)<|ZAD rfl rfl (by simpa using cg3)<|ZAF rfl rfl cg<|ZAa (v:=enc true) rfl cg3 rfl<|ZAA ?_
       rw[←oi hb_b2];exact⟨hs,FxR rfl⟩
      rename_i cg4;refine ZAF rfl rfl (by simpa using cg4)<|ZAE (v:= .ptr m_w 0) rfl<|ZAF rfl rfl (by simpa using cg4)<|ZA0 rfl<|ZAF rfl rfl (by simpa using cg4)<|ZAj (q:=4) ZHc rfl rfl<|ZAF rfl rfl (by simpa using cg4)<|ZAj (q:=7) ZMd rfl rfl<|ZAF rfl rfl (by simpa using cg4) ?_
      replace hs:=Hp.front [(.cells m xs5)] (b:=[enF,(.gl (NG mx))]) hs;refine ZAK ag4 (Sel.of (SelR.skip (SelR.succ (SelR.succ SelR.zero))) (Ss (Ss (Ss Sz)))) rfl hr_w hs fun y12 hy12=> ?_
      cases hy12;refine ZAF rfl rfl cg<|ZAZ rfl cg4 rfl<|ZAA ?_
      rw[←oi hb_b2];exact⟨(Hp.front [(.cells m_w xs_w),enF,(.gl (NG mx))] (b:=[]) (Hp.front [enF,(.gl (NG mx))] (b:=[(.cells m xs5)]) (Hp.front [(.gl (NG mx)),(.cells m_w xs_w),(.cells m xs5)] (b:=[]) (Hp.front [(.cells m_w xs_w),(.cells m xs5),enF] (b:=[]) hs)))),FxR rfl⟩
     rintro φ s ⟨hs,hF⟩;rw[←hF.eq];refine ZAa rfl cg rfl<|ZAA ?_
     rw[←oi hb_b];exact⟨hs,FxR rfl⟩
    rename_i cg5;refine ZAD rfl rfl cg5<|ZAD rfl rfl cg5<|ZAD rfl rfl cg5<|ZAP rfl rfl<|ZAP rfl rfl<|ZAP rfl rfl<|ZAP rfl rfl<|ZAD rfl rfl cg5<|ZAD rfl rfl cg5<|ZAP rfl rfl<|ZAP rfl rfl<|ZAP rfl rfl<|ZAP rfl rfl<|ZAP rfl rfl<|ZAD rfl rfl cg5 ?_
    refine ZAZ (v:=enc false) rfl cg5 rfl<|ZAA ?_
    rw[←oi hb_b];exact⟨hs,FxR rfl⟩
   rintro φ s ⟨hs,hF⟩;rw[←hF.eq];refine ZAA ?_
   split at h
   ·rename_i c';refine ZAH rfl c'<|ZAB<|ZAC<|ZAE (v:= .ptr m_w 0) rfl<|ZAE rfl<|ZAV ZO2 rfl<|ZAK ag9 (Ss (Ss (Ss (Ss (Ss Sz))))) rfl hxs5 hs fun y13 hy13=> ?_
    cases hy13;replace hs:=Hp.front [(.cells m xs5)] (b:=[enF,(.gl (NG mx))]) hs;obtain⟨r_6,hx6,h⟩:=bs h;refine ZAt (by kernel_rfl) func68 rfl (vs:=[(.ptr m_w 0),(enc s_),(enc r_5.v.2.2.2.2.2.1)]) rfl (MF.any (ZMi mx w s_ r_5.v.2.2.2.2.2.1 _ hx6 hr_w (Hp.packN [(.cells m_w xs_w)] [(.cells m xs5),enF,(.gl (NG mx))] hs (Hp.glob hs (lM _ (lM _ (lM _ List.mem_cons_self)))))) (ZMg mx)) fun z3 s ⟨xs6,hxs6,hz3,hq_⟩=> ?_
    replace hs:=Hp.unpackN [(.cells m_w xs_w)] [(.cells m_w xs6)] [(.cells m xs5),enF,(.gl (NG mx))] hs (Hp.glob hs (lM _ (lM _ (lM _ List.mem_cons_self)))) hq_;refine ZAG (v:=z3) rfl<|ZAA<|ZAN ?_
    rw[←oi h];exact⟨rfl,KN1 rfl rfl ⟨_,hxs6,hz3,(Hp.drop [(.cells m_w xs6)] (b:=[enF,(.gl (NG mx))]) hs)⟩⟩
   rename_i c';refine ZAI rfl c'<|ZAL ?_
   exact⟨w,xs_w,hr_w,FxR rfl,(Hp.front [(.gl (NG mx)),(.cells m_w xs_w)] (b:=[]) (Hp.front [(.cells m_w xs_w),enF] (b:=[]) (Hp.front [] (b:=[enF,(.gl (NG mx))]) (Hp.drop [] (b:=[(.cells m_w xs_w),enF,(.gl (NG mx))]) hs)))),h⟩
  rename_i c';refine ZAI rfl c'<|ZAL ?_
  exact⟨w,xs_w,hr_w,FxR rfl,(Hp.front [(.gl (NG mx)),(.cells m_w xs_w)] (b:=[]) (Hp.front [(.cells m_w xs_w),enF] (b:=[]) (Hp.front [] (b:=[enF,(.gl (NG mx))]) hs))),h⟩
 rintro φ s ⟨w1,xs_w1,hxs_w1,hF,hs,h⟩;rw[←hF.eq];unfold ZDe at h;refine ZAB<|ZBJ (by decide+kernel) (by kernel_rfl)<|ZAE (v:= .ptr m_w 0) rfl<|ZAE (v:= .ptr m_w 0) rfl<|ZA0 rfl<|ZAj (q:=8) ZJa rfl rfl ?_
 replace hs:=Hp.front [enF,(.gl (NG mx))] (b:=[]) hs;refine ZAK ag3 (Sel.skip (Ss (Ss (Sel.skip Sz)))) rfl hxs_w1 hs fun y7 hy7=> ?_
 cases hy7;refine ZAE rfl<|ZAE rfl<|ZAE (v:= .ptr m_w 0) rfl<|ZA0 rfl<|ZAj (q:=4) ZHc rfl rfl<|ZAj (q:=7) ZMd rfl rfl<|ZAK ag4 (Sel.of (SelR.skip (SelR.succ (SelR.succ SelR.zero))) (Ss (Ss (Ss Sz)))) rfl hxs_w1 hs fun y8 hy8=> ?_
 cases hy8;refine ZBZ (r0:=((0:Int),(str []),(0:Int),false,())) bu29 zr29 zf29 rfl rfl (r:=(w1.v.2.2.2.2.1,s_,num,w1.v.2.2.2.1.v.2.2.2.1,())) (.cons (z:=w1.v.2.2.2.2.1) Sz (rfl:is _ w1.v.2.2.2.2.1) (.cons (z:=s_) (Ss Sz) (rfl:is _ s_) (.cons (z:=num) (Ss (Ss Sz)) (rfl:is _ num) (.cons (z:=w1.v.2.2.2.1.v.2.2.2.1) (Ss (Ss (Ss Sz))) (rfl:is _ w1.v.2.2.2.1.v.2.2.2.1) .nil)))) fun y9 hy9=>ZA0 rfl<|ZAj (q:=4) ZHc rfl rfl<|ZKa (c:=(Rec.mk (w1.v.2.2.2.2.1,s_,num,w1.v.2.2.2.1.v.2.2.2.1,()):ZAU)) sz29 (SelR.skip (SelR.succ (SelR.succ SelR.zero))) rfl rfl hy9 hxs_w1 hs fun xs2 s hxs2 hs=>ZAA<|ZAB<|ZAC<|ZAE (v:= .ptr m_w 0) rfl<|ZAE rfl<|ZU3 rfl rfl<|ZA0 rfl<|ZAj (q:=8) ZJa rfl rfl<|ZEX (z:=((imax num 1):Int)) sz3 (Sel.skip (Ss (Ss (Sel.skip Sz)))) rfl rfl (rfl:is _ ((imax num 1):Int)) hxs2 hs fun xs3 s hxs3 hs=>ZAA<|ZAB ?_
 refine ZAC<|ZAG (v:= .nifc) rfl<|ZAA<|ZAN ?_
 rw[←oi h];exact⟨rfl,KN1 rfl rfl ⟨_,hxs3,rfl,hs⟩⟩
theorem ZMk (mx:Int) (f:FsR) (path:Str) (follow:Bool) (r:ZAU×(ErrN 104)) (h:ZDf f path follow=some r):MF Tryz.prog (pl3 mx) 28 [enc f,enc path,enc follow] (sG (NG mx)) fun v _=>ris v r:=by
 refine ZAh [(0,enc f),(1,enc path),(2,enc follow)] func28 rfl (by simp only[Tryz.f28];rfl) fun ψ=> ?_
 unfold ZDf at h;have hs:Hp (sG (NG mx)) [.gl (NG mx)]:=Hp.gl0
 refine ZAB<|ZAC<|ZA5 (r:=f) rfl (Enc.self f) hs fun m xs s hxs hs=>ZBG (r:=(Rec.mk ((0:Int),(str []),(0:Int),false,()):ZAU)) zr29 zf29 hs fun m1 s hs=>ZAG (v:= .nifc) rfl<|ZAA<|ZOo<|ZAB<|ZAB<|ZAC ?_
 replace hs:=Hp.front [(.cells m1 zx29)] (b:=[(.gl (NG mx))]) hs;refine ZAm (r:=f) ag24 sz24 rfl hxs hs fun y hy=> ?_
 obtain⟨r_,hx,h⟩:=bs h;refine ZAY (f:=fun a:FsR×Unit=>ZAw a.1) (a:=(f,())) rfl func40 rfl rfl (.cons (a:=f) hy .nil) hs (lM _ (lM _ List.mem_cons_self)) hx<|ZBO (v:=enc (!r_)) rfl rfl<|ZAA ?_
 split at h
 ·rename_i c';refine ZAH rfl c'<|ZAB<|ZAC<|ZBZ (r0:=((0:Int),(str []),(0:Int),false,())) bu29 zr29 zf29 rfl rfl (r:=((0:Int),(str []),(0:Int),false,())) .nil fun y1 hy1=>ZAE rfl ?_
  obtain⟨r_1,hx1,h⟩:=bs h;refine ZAY (f:=fun a:Str×Int×Unit=>ZBE a.1 a.2.1) (a:=(path,2,())) rfl func47 rfl rfl (.cons (a:=path) (Enc.self _) (.cons (a:=(2:Int)) (rfl:is _ (2:Int)) .nil)) hs (lM _ (lM _ List.mem_cons_self)) hx1 ?_
  replace hs:=Hp.front [(.cells m xs)] (b:=[(.gl (NG mx))]) hs;refine ZAx (r:=(Rec.mk ((0:Int),(str []),(0:Int),false,()):ZAU)) sz29 rfl rfl zf29 hy1 hs fun xs1 s hxs1 hs=>ZAG rfl<|ZAA<|ZAN ?_
  obtain⟨w,hlw,hw⟩:=ldW (r:=(Rec.mk ((0:Int),(str []),(0:Int),false,()):ZAU)) ag29 sz29 hxs1 hs;rw[←oi h];exact⟨rfl,KEc2 (a1:=((Rec.mk ((0:Int),(str []),(0:Int),false,()):ZAU):ZAU)) (a2:=(r_1:(ErrN 104))) rfl (.cell rfl hlw (.tmp rfl .nil)) hw (Enc.self r_1) ⟨_,_,rfl,hw,(Enc.self r_1)⟩⟩
 rename_i c';refine ZAI rfl c'<|ZAL<|ZAB<|ZAC<|ZAE rfl ?_
 obtain⟨r_2,hx2,h⟩:=bs h;refine ZAY (f:=fun a:Str×Unit=>ZBm a.1) (a:=(path,())) rfl func48 rfl rfl (.cons (a:=path) (Enc.self _) .nil) hs (lM _ (lM _ List.mem_cons_self)) hx2<|ZAE (v:=res r_2) rfl<|ZAy rfl rfl<|ZAy rfl rfl<|ZAy rfl rfl<|ZAG rfl<|ZAG rfl<|ZAG rfl<|ZAA<|ZAB<|ZAB<|ZAC<|ZAE rfl<|ZAJ (v:=enc (r_2.2.2 !=0)) rfl rfl rfl<|ZAA ?_
 split at h
 ·rename_i c';refine ZAH rfl c'<|ZAB<|ZAC<|ZBZ (r0:=((0:Int),(str []),(0:Int),false,())) bu29 zr29 zf29 rfl rfl (r:=((0:Int),(str []),(0:Int),false,())) .nil fun y2 hy2=>ZAE rfl<|ZAE rfl ?_
  obtain⟨r_3,hx3,h⟩:=bs h;refine ZAY (f:=fun a:Str×Int×Unit=>ZBE a.1 a.2.1) (a:=(path,r_2.2.2,())) rfl func47 rfl rfl (.cons (a:=path) (Enc.self _) (.cons (a:=r_2.2.2) (Enc.self _) .nil)) hs (lM _ (lM _ List.mem_cons_self)) hx3 ?_
  replace hs:=Hp.front [(.cells m xs)] (b:=[(.gl (NG mx))]) hs;refine ZAx (r:=(Rec.mk ((0:Int),(str []),(0:Int),false,()):ZAU)) sz29 rfl rfl zf29 hy2 hs fun xs2 s hxs2 hs=>ZAG rfl<|ZAA<|ZAN ?_
  obtain⟨w1,hlw1,hw1⟩:=ldW (r:=(Rec.mk ((0:Int),(str []),(0:Int),false,()):ZAU)) ag29 sz29 hxs2 hs;rw[←oi h];exact⟨rfl,KEc2 (a1:=((Rec.mk ((0:Int),(str []),(0:Int),false,()):ZAU):ZAU)) (a2:=(r_3:(ErrN 104))) rfl (.cell rfl hlw1 (.tmp rfl .nil)) hw1 (Enc.self r_3) ⟨_,_,rfl,hw1,(Enc.self r_3)⟩⟩
 rename_i c';refine ZAI rfl c'<|ZAL<|ZAB<|ZAC<|ZAm (r:=f) ag24 sz24 rfl hxs hs fun y3 hy3=>ZAE rfl<|ZAE rfl<|ZAE rfl<|ZBZ (r0:=((0:Int),(str []),(0:Int),false,())) bu29 zr29 zf29 rfl rfl (r:=((0:Int),(str []),(0:Int),r_2.2.1,())) (.cons (z:=r_2.2.1) (Ss (Ss (Ss Sz))) (rfl:is _ r_2.2.1) .nil) fun y4 hy4=>ZUL (r0:=(Rec.mk ((Rec.mk (([]:(List ZAO)),(0:Int),()):FsR),false,([]:(List Str)),(Rec.mk ((0:Int),(str []),(0:Int),false,()):ZAU),(0:Int),(0:Int),()):ZAr).v) (r:=(f,follow,r_2.1,(Rec.mk ((0:Int),(str []),(0:Int),r_2.2.1,()):ZAU),(0:Int),(0:Int),())) pl85 zr85 zf85 rfl (.str (z:=f) rfl SelR.zero hy3 (.cons (z:=follow) rfl (Sel.skip Sz) (rfl:is _ follow) (.cons (z:=r_2.1) rfl (Sel.skip (Ss Sz)) (Enc.self r_2.1) (.str (z:=(Rec.mk ((0:Int),(str []),(0:Int),r_2.2.1,()):ZAU)) rfl (SelR.skip (SelR.succ (SelR.succ SelR.zero))) hy4 .nil)))) fun y5 hy5=>ZUM (r:=(Rec.mk (f,follow,r_2.1,(Rec.mk ((0:Int),(str []),(0:Int),r_2.2.1,()):ZAU),(0:Int),(0:Int),()):ZAr).v) rfl hy5 hs fun m2 xs3 s hxs3 hs=>ZAG (v:= .ptr m2 0) rfl<|ZAA<|ZAB<|ZAC ?_
 refine ZAE (v:= .ptr m2 0) rfl ?_
 obtain⟨r_4,hx4,h⟩:=bs h;refine ZAt (by kernel_rfl) func49 rfl (vs:=[(.ptr m2 0),(enc (1:Int))]) rfl (MF.any (ZH6 mx (Rec.mk (f,follow,r_2.1,(Rec.mk ((0:Int),(str []),(0:Int),r_2.2.1,()):ZAU),(0:Int),(0:Int),()):ZAr) 1 _ hx4 hxs3 (Hp.packN [(.cells m2 xs3)] [(.cells m xs),(.cells m1 zx29),(.gl (NG mx))] hs (Hp.glob hs (lM _ (lM _ (lM _ List.mem_cons_self)))))) (ZJY mx)) fun z s ⟨xs4,hxs4,hq_⟩=> ?_
 replace hs:=Hp.unpackN [(.cells m2 xs3)] [(.cells m2 xs4)] [(.cells m xs),(.cells m1 zx29),(.gl (NG mx))] hs (Hp.glob hs (lM _ (lM _ (lM _ List.mem_cons_self)))) hq_;refine ZAA<|ZAB<|ZOn<|ZAB<|ZAQ ?_
 obtain⟨o,hl,h⟩:=bs h;refine ZAk (fun(p:(ZAU×ZAr)) φ s=>match p with | (v,w2)=>∃(xs_v:List AV) (xs_w2:List AV),fi xs_v v.v∧fi xs_w2 w2.v∧Fx φ [(1,(enc path)),(6,(.ptr m1 0)),(11,(.ptr m2 0))]∧Hp s [(.gl (NG mx)),(.cells m1 xs_v),(.cells m2 xs_w2)]) (fun(o:((ZAU×ZAr) ⊕ (ZAU×(ErrN 104)))) e φ s=>match o with | (.inl (v1,w3))=>e= .exit 0∧∃(xs_v1:List AV) (xs_w3:List AV),fi xs_v1 v1.v∧fi xs_w3 w3.v∧Fx φ [(1,(enc path)),(6,(.ptr m1 0)),(11,(.ptr m2 0))]∧Hp s [(.gl (NG mx)),(.cells m1 xs_v1),(.cells m2 xs_w3)] | (.inr (v2,v3))=>e= .ret∧∃(xs_v2:List AV) (x_v3:AV),fi xs_v2 v2.v∧is x_v3 v3∧Fx φ [(6,(.ptr m1 0)),(7,x_v3)]∧Hp s [(.gl (NG mx)),(.cells m1 xs_v2)]) ?_ hl ⟨zx29,xs4,zf29,hxs4,FxR rfl,(Hp.front [(.cells m1 zx29),(.cells m2 xs4)] (b:=[]) (Hp.front [(.cells m2 xs4)] (b:=[(.gl (NG mx))]) (Hp.front [] (b:=[(.cells m1 zx29),(.gl (NG mx))]) (Hp.drop [(.cells m2 xs4)] (b:=[(.cells m1 zx29),(.gl (NG mx))]) hs))))⟩ ?_
 ·rintro⟨v,w2⟩ o h φ s ⟨xs_v,xs_w2,hxs_v,hxs_w2,hF,hs⟩;rw[←hF.eq];rw[ZCE] at h;refine ZAQ<|ZAB<|ZAB<|ZAC<|ZAE (v:= .ptr m2 0) rfl<|ZA0 rfl<|ZAj (q:=3) ZIM rfl rfl ?_
  replace hs:=Hp.front [(.gl (NG mx)),(.cells m1 xs_v)] (b:=[]) hs;refine ZAK ag43 (Sel.skip (Ss Sz)) rfl hxs_w2 hs fun y6 hy6=>ZAo underlying43 rfl rfl hy6<|ZAJ (v:=enc (((w2.v.2.2.1.length:Int)==0):Bool)) rfl rfl rfl<|ZAA ?_
  split at h
  ·rename_i c';refine ZAH rfl c'<|ZAf ?_
   show if _ then _ else _
   rw[if_neg (by simp)]
   rw[←oi h];exact⟨_,rfl,rfl,⟨xs_v,xs_w2,hxs_v,hxs_w2,FxR rfl,(Hp.front [(.cells m1 xs_v),(.cells m2 xs_w2)] (b:=[]) (Hp.front [(.cells m2 xs_w2),(.gl (NG mx))] (b:=[]) (Hp.front [] (b:=[(.gl (NG mx)),(.cells m1 xs_v)]) hs)))⟩⟩
  rename_i c';refine ZAI rfl c'<|ZAL<|ZAB<|ZAC<|ZAE (v:= .ptr m2 0) rfl<|ZA0 rfl<|ZAj (q:=3) ZIM rfl rfl<|ZAK ag43 (Sel.skip (Ss Sz)) rfl hxs_w2 hs fun y7 hy7=> ?_
  obtain⟨v4,hx5,h⟩:=bs h;refine ZAu underlying43 sh9 rfl rfl hy7 hx5 fun p hp=>ZB8 rfl ag9 rfl hp fun y8 hy8=> ?_
  cases hy8;refine ZAG rfl<|ZAA<|ZAB<|ZAC<|ZAE (v:= .ptr m2 0) rfl<|ZAE (v:= .ptr m2 0) rfl<|ZA0 rfl<|ZAj (q:=3) ZIM rfl rfl<|ZAK ag43 (Sel.skip (Ss Sz)) rfl hxs_w2 hs fun y9 hy9=> ?_
  obtain⟨l,hx6,h⟩:=bs h;refine ZQ0 underlying43 sh9 rfl rfl hy9 hx6 fun z1 hz1=>ZA0 rfl<|ZAj (q:=3) ZIM rfl rfl<|ZEX (z:=l) sz43 (Sel.skip (Ss Sz)) rfl rfl hz1 hxs_w2 hs fun xs5 s hxs5 hs=>ZAA<|ZAB<|ZAC<|ZAE (v:= .ptr m2 0) rfl<|ZAE rfl ?_
  obtain⟨r_5,hx7,h⟩:=bs h;refine ZAt (by kernel_rfl) func50 rfl (vs:=[(.ptr m2 0),(enc v4)]) rfl (MF.any (ZMj mx (Rec.mk (w2.v.1,w2.v.2.1,l,w2.v.2.2.2.1,w2.v.2.2.2.2.1,w2.v.2.2.2.2.2.1,()):ZAr) v4 _ hx7 hxs5 (Hp.packN [(.cells m2 xs5)] [(.gl (NG mx)),(.cells m1 xs_v)] hs (Hp.glob hs (lM _ List.mem_cons_self)))) (ZMg mx)) fun z2 s ⟨xs6,hxs6,hz2,hq_⟩=> ?_
  replace hs:=Hp.unpackN [(.cells m2 xs5)] [(.cells m2 xs6)] [(.gl (NG mx)),(.cells m1 xs_v)] hs (Hp.glob hs (lM _ List.mem_cons_self)) hq_;refine ZAG (v:=z2) rfl<|ZAA<|ZAB<|ZAC<|ZAE (v:=z2) rfl<|ZWq (r:=r_5.2) underlying60 rfl hz2<|ZAA ?_
  split at h
  ·rename_i c';refine ZAH rfl c'<|ZAB<|ZAC<|ZBZ (r0:=((0:Int),(str []),(0:Int),false,())) bu29 zr29 zf29 rfl rfl (r:=((0:Int),(str []),(0:Int),false,())) .nil fun y10 hy10=>ZAE (v:=z2) rfl ?_
   replace hs:=Hp.front [(.cells m2 xs6),(.gl (NG mx))] (b:=[]) hs;refine ZAx (r:=(Rec.mk ((0:Int),(str []),(0:Int),false,()):ZAU)) sz29 rfl rfl hxs_v hy10 hs fun xs7 s hxs7 hs=>ZAG (v:=z2) rfl<|ZAA<|ZAN ?_
   show if _ then _ else _
   rw[if_neg (by simp)]
   rw[←oi h];exact⟨_,rfl,rfl,⟨xs7,z2,hxs7,hz2,FxR rfl,(Hp.front [(.cells m1 xs7)] (b:=[]) (Hp.front [] (b:=[(.gl (NG mx))]) (Hp.drop [(.cells m1 xs7)] (b:=[(.gl (NG mx))]) hs)))⟩⟩
  rename_i c';refine ZAI rfl c'<|ZAL ?_
  rw[←oi h];exact⟨_,rfl,⟨xs_v,xs6,hxs_v,hxs6,FxR rfl,(Hp.front [(.cells m1 xs_v),(.cells m2 xs6)] (b:=[]) (Hp.front [(.cells m2 xs6),(.gl (NG mx))] (b:=[]) (Hp.front [] (b:=[(.gl (NG mx)),(.cells m1 xs_v)]) hs)))⟩⟩
 intro e φ s hE;rcases o with⟨v1,w3⟩ | ⟨v2,v3⟩
 ·obtain⟨rfl,xs_v1,xs_w3,hxs_v1,hxs_w3,hF,hs⟩:=hE;rw[←hF.eq];rw[ZCh] at h;show if _ then _ else _
  rw[if_pos rfl];refine ZAB<|ZAB<|ZAC<|ZAE (v:= .ptr m2 0) rfl<|ZA0 rfl<|ZAj (q:=4) ZHc rfl rfl ?_
  replace hs:=Hp.front [(.gl (NG mx)),(.cells m1 xs_v1)] (b:=[]) hs;refine ZKZ ag29 sz29 (SelR.skip (SelR.succ (SelR.succ SelR.zero))) rfl hxs_w3 hs fun y11 hy11=>ZBG (r:=(Rec.mk ((0:Int),(str []),(0:Int),false,()):ZAU)) zr29 zf29 hs fun m3 s hs=>ZAx (r:=w3.v.2.2.2.1) sz29 rfl rfl zf29 hy11 hs fun xs8 s hxs8 hs=>ZAA<|ZAB<|ZAC<|ZAV ZO5 rfl<|ZAK ag4 (Ss (Ss (Ss Sz))) rfl hxs8 hs fun y12 hy12=> ?_
  cases hy12;refine ZAE rfl ?_
  obtain⟨b,hb_b,h⟩:=bs h;refine ZAS 4 (fun φ s=>Hp s [(.cells m3 xs8),(.cells m2 xs_w3),(.gl (NG mx)),(.cells m1 xs_v1)]∧Fx φ [(1,(enc path)),(6,(.ptr m1 0)),(11,(.ptr m2 0)),(14,(.ptr m3 0)),(79,(enc b))]) ?_ ?_
  ·split at hb_b
   ·rename_i cg;refine ZAF rfl rfl cg<|ZAV ZJc rfl<|ZAF rfl rfl cg<|ZAK ag3 (Ss (Ss Sz)) rfl hxs8 hs fun y13 hy13=> ?_
    cases hy13;refine ZAF rfl rfl cg<|ZAJ (v:=enc (decide (w3.v.2.2.2.1.v.2.2.1 > 0))) rfl rfl rfl<|ZAa rfl cg rfl<|ZAA ?_
    rw[←oi hb_b];exact⟨hs,FxR rfl⟩
   rename_i cg1;refine ZAD rfl rfl cg1<|ZAD rfl rfl cg1<|ZAD rfl rfl cg1<|ZAZ (v:=enc false) rfl cg1 rfl<|ZAA ?_
   rw[←oi hb_b];exact⟨hs,FxR rfl⟩
  rintro φ s ⟨hs,hF⟩;rw[←hF.eq];refine ZAE rfl ?_
  obtain⟨b1,hb_b1,h⟩:=bs h;refine ZAS 7 (fun φ s=>Hp s [(.cells m3 xs8),(.cells m2 xs_w3),(.gl (NG mx)),(.cells m1 xs_v1)]∧Fx φ [(1,(enc path)),(6,(.ptr m1 0)),(11,(.ptr m2 0)),(87,(enc b1))]) ?_ ?_
  ·split at hb_b1
   ·rename_i cg2;refine ZAF rfl rfl cg2<|ZAE (v:= .ptr m2 0) rfl<|ZAF rfl rfl cg2<|ZAV ZJc rfl<|ZAF rfl rfl cg2<|ZAK ag3 (Ss (Ss Sz)) rfl hxs8 hs fun y14 hy14=> ?_
    cases hy14;refine ZAF rfl rfl cg2 ?_
    replace hs:=Hp.front [(.cells m3 xs8)] (b:=[(.gl (NG mx)),(.cells m1 xs_v1)]) hs;obtain⟨r_6,hx8,hb_b1⟩:=bs hb_b1;refine ZAt (by kernel_rfl) func51 rfl (vs:=[(.ptr m2 0),(enc w3.v.2.2.2.1.v.2.2.1)]) rfl (MF.any (ZGD mx w3 w3.v.2.2.2.1.v.2.2.1 _ hx8 hxs_w3 (Hp.packN [(.cells m2 xs_w3)] [(.cells m3 xs8),(.gl (NG mx)),(.cells m1 xs_v1)] hs (Hp.glob hs (lM _ (lM _ List.mem_cons_self))))) (ZJY mx)) fun z3 s ⟨hz3,hq_⟩=> ?_
    replace hs:=Hp.unpackN [(.cells m2 xs_w3)] [(.cells m2 xs_w3)] [(.cells m3 xs8),(.gl (NG mx)),(.cells m1 xs_v1)] hs (Hp.glob hs (lM _ (lM _ List.mem_cons_self))) hq_;refine ZAF rfl rfl cg2<|ZS0 ZB4 (Ss Sz) rfl hz3 fun y15 hy15=> ?_
    cases hy15;refine ZAF rfl rfl cg2<|ZAJ (v:=enc (r_6.v.2.1 !=2)) rfl rfl rfl<|ZAa rfl cg2 rfl<|ZAA ?_
    rw[←oi hb_b1];exact⟨(Hp.front [(.cells m2 xs_w3),(.gl (NG mx)),(.cells m1 xs_v1)] (b:=[]) (Hp.front [(.gl (NG mx)),(.cells m1 xs_v1)] (b:=[(.cells m3 xs8)]) (Hp.front [(.cells m1 xs_v1),(.cells m2 xs_w3),(.cells m3 xs8)] (b:=[]) (Hp.front [(.cells m2 xs_w3),(.cells m3 xs8),(.gl (NG mx))] (b:=[]) hs)))),FxR rfl⟩
   rename_i cg3;refine ZAD rfl rfl cg3<|ZAD rfl rfl cg3<|ZAD rfl rfl cg3<|ZAD rfl rfl cg3<|ZAD rfl rfl cg3<|ZAD rfl rfl cg3<|ZAZ (v:=enc false) rfl cg3 rfl<|ZAA ?_
   rw[←oi hb_b1];exact⟨hs,FxR rfl⟩
  rintro φ s ⟨hs,hF⟩;rw[←hF.eq];refine ZAA ?_
  split at h
  ·rename_i c';refine ZAH rfl c'<|ZAB<|ZAC<|ZBZ (r0:=((0:Int),(str []),(0:Int),false,())) bu29 zr29 zf29 rfl rfl (r:=((0:Int),(str []),(0:Int),false,())) .nil fun y16 hy16=>ZAE rfl ?_
   obtain⟨r_7,hx9,h⟩:=bs h;refine ZAY (f:=fun a:Str×Int×Unit=>ZBE a.1 a.2.1) (a:=(path,203,())) rfl func47 rfl rfl (.cons (a:=path) (Enc.self _) (.cons (a:=(203:Int)) (rfl:is _ (203:Int)) .nil)) hs (lM _ (lM _ List.mem_cons_self)) hx9 ?_
   replace hs:=Hp.front [(.cells m3 xs8),(.cells m2 xs_w3),(.gl (NG mx))] (b:=[]) hs;refine ZAx (r:=(Rec.mk ((0:Int),(str []),(0:Int),false,()):ZAU)) sz29 rfl rfl hxs_v1 hy16 hs fun xs10 s hxs10 hs=>ZAG rfl<|ZAA<|ZAN ?_
   obtain⟨w4,hlw4,hw4⟩:=ldW (r:=(Rec.mk ((0:Int),(str []),(0:Int),false,()):ZAU)) ag29 sz29 hxs10 hs;rw[←oi h];exact⟨rfl,KEc2 (a1:=((Rec.mk ((0:Int),(str []),(0:Int),false,()):ZAU):ZAU)) (a2:=(r_7:(ErrN 104))) rfl (.cell rfl hlw4 (.tmp rfl .nil)) hw4 (Enc.self r_7) ⟨_,_,rfl,hw4,(Enc.self r_7)⟩⟩
  rename_i c';refine ZAI rfl c'<|ZAL<|ZAB<|ZAC<|ZAE (v:= .ptr m2 0) rfl<|ZA0 rfl<|ZAj (q:=4) ZHc rfl rfl ?_
  replace hs:=Hp.front [(.cells m3 xs8)] (b:=[(.gl (NG mx)),(.cells m1 xs_v1)]) hs;refine ZKZ ag29 sz29 (SelR.skip (SelR.succ (SelR.succ SelR.zero))) rfl hxs_w3 hs fun y17 hy17=> ?_
  replace hs:=Hp.front [(.cells m2 xs_w3),(.cells m3 xs8),(.gl (NG mx))] (b:=[]) hs;refine ZAx (r:=w3.v.2.2.2.1) sz29 rfl rfl hxs_v1 hy17 hs fun xs11 s hxs11 hs=>ZAG (v:= .nifc) rfl<|ZAA<|ZAN ?_
  obtain⟨w5,hlw5,hw5⟩:=ldW (r:=w3.v.2.2.2.1) ag29 sz29 hxs11 hs;rw[←oi h];exact⟨rfl,KEc2 (a1:=(w3.v.2.2.2.1:ZAU)) (a2:=((ErrN.mk none:ErrN 104):(ErrN 104))) rfl (.cell rfl hlw5 (.tmp rfl .nil)) hw5 rfl ⟨_,_,rfl,hw5,rfl⟩⟩
 obtain⟨rfl,xs_v2,x_v3,hxs_v2,h_v3,hF,hs⟩:=hE;rw[←hF.eq];rw[ZCh] at h;show if _ then _ else _
 rw[if_neg (by simp)]
 replace hs:=Hp.front [(.gl (NG mx))] (b:=[]) hs;obtain⟨w6,hlw6,hw6⟩:=ldW (r:=v2) ag29 sz29 hxs_v2 hs;rw[←oi h];exact⟨rfl,KEc2 (a1:=(v2:ZAU)) (a2:=(v3:(ErrN 104))) rfl (.cell rfl hlw6 (.tmp rfl .nil)) hw6 h_v3 ⟨_,_,rfl,hw6,h_v3⟩⟩
theorem ZMl (mx:Int):ZAq Tryz.prog 28 (FnG (NG mx) (fun a:FsR×Str×Bool×Unit=>ZDf a.1 a.2.1 a.2.2.1)):=fnCG (ZMg mx) ⟨_,func28,rfl⟩<|fun a r h=>ZMk mx a.1 a.2.1 a.2.2.1 r h
noncomputable def pn1 (mx:Int):Prims:=(pl3 mx).addG 28 (FnG (NG mx) (fun a:FsR×Str×Bool×Unit=>ZDf a.1 a.2.1 a.2.2.1))
theorem ZWu (mx:Int):ZAX Tryz.prog (pn1 mx):=ZAR (ZMg mx) (ZMl mx)
end Go.Ai.Rab
end
