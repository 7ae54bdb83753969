/- My own texts DevPgB, one behind the other. -/
import Derived.Test.YtcffjblfdjkcbaaGreatDoorWAE
import Derived.Test.YtcffjblfdjkcbaaGreatDoorWAF
import Derived.Test.YtcffjblfdjkcbaaGreatDoorWAG
/- Functions of the program aS functions of values with types, and that the code answers aS they do. -/
set_option linter.unusedVariables false
set_option linter.unusedSimpArgs false
set_option maxRecDepth 100000
set_option maxHeartbeats 4000000
attribute [local irreducible] Go.Ai.TC Go.Ai.TO Go.Ai.MF Go.Ai.runeAt Go.Ai.runeLen Go.Ai.encR
open Go.Ai.Enc (enc is)
open Go.Ai.Res (res ris)
open Go.Ai.Args (args)
open Go.Ai.Flds (fe fi fk)
namespace Go.Ai
abbrev refusalR : Type := (Rec (Int × Unit))
end Go.Ai
namespace Go.Ai.TTryz
open Go.Proofs
theorem ze3 : ∃ a, zeroT Tryz.prog 3 = some a ∧ is a (0 : Int) := ⟨enc (0 : Int), by kernel_rfl, Enc.self _⟩
theorem ze4 : ∃ a, zeroT Tryz.prog 4 = some a ∧ is a false := ⟨enc false, by kernel_rfl, Enc.self _⟩
theorem ze5 : ∃ a, zeroT Tryz.prog 5 = some a ∧ is a (0 : UInt8) := ⟨enc (0 : UInt8), by kernel_rfl, Enc.self _⟩
theorem ze9 : ∃ a, zeroT Tryz.prog 9 = some a ∧ is a (str []) := ⟨enc (str []), by kernel_rfl, Enc.self _⟩
theorem ze33 : ∃ a, zeroT Tryz.prog 33 = some a ∧ is a ([] : (List UInt8)) := ⟨.nils, by kernel_rfl, isL.nil⟩
theorem ze122 : ∃ a, zeroT Tryz.prog 122 = some a ∧ is a (str []) := ⟨enc (str []), by kernel_rfl, Enc.self _⟩
def zx115 : List AV := [enc (0 : Int)]
theorem zr115 : zeroT Tryz.prog 115 = some (.agg zx115) := by kernel_rfl
theorem zf115 : fi zx115 (Rec.mk ((0 : Int), ()) : refusalR).v := ⟨_, _, rfl, rfl, rfl⟩
theorem bu115 : buB Tryz.prog 115 1 = true := by kernel_rfl
end Go.Ai.TTryz
namespace Go.Ai.Rab
open Go.Proofs
noncomputable def find_is (x : InodeR) (x1 : (PtrC Int)) : Option (Bool) :=
 some ((x.v.1 == x1.v))
noncomputable def sl_IndexFunc1_l1 (s_ : (List InodeR)) (f : (Clo 31 ((PtrC Int) × Unit))) : Int → Option (Int ⊕ (Unit ⊕ Int))
 | v => (if (decide (v < (s_.length : Int))) then ((nth s_ v).bind fun v2 => ((find_is v2 f.cap.1).bind fun r_ => (if r_ then some (.inr (.inr v)) else some (.inl (IntKind.i64.wrap (v + 1)))))) else some (.inr (.inl ())))
noncomputable def sl_IndexFunc1_a1 : (Unit ⊕ Int) → Option (Int)
 | (.inl _) => some ((-1))
 | (.inr v1) => some (v1)
noncomputable def sl_IndexFunc1 (s_ : (List InodeR)) (f : (Clo 31 ((PtrC Int) × Unit))) : Option (Int) :=
 ((loop (sl_IndexFunc1_l1 s_ f) 0).bind (sl_IndexFunc1_a1))
noncomputable def plain_Find (f : FsR) (num : Int) : Option (Int) :=
 ((sl_IndexFunc1 f.v.1 (Clo.mk ((PtrC.mk num : PtrC Int), ()) : Clo 31 ((PtrC Int) × Unit))).bind fun r_ => some (r_))
noncomputable def isNaNI (x : Int) : Option (Bool) :=
 some ((x != x))
noncomputable def cmpI (x : Int) (y : Int) : Option (Int) :=
 ((isNaNI x).bind fun r_ => ((isNaNI y).bind fun r_1 => (if r_ then (if r_1 then some (0) else some ((-1))) else (if r_1 then some (1) else (if (decide (x < y)) then some ((-1)) else (if (decide (x > y)) then some (1) else some (0)))))))
noncomputable def isNaNS (x : Str) : Option (Bool) :=
 some ((!eqS x x))
noncomputable def isNaNS2 (x : Str) : Option (Bool) :=
 some ((!eqS x x))
noncomputable def lessS (x : Str) (y : Str) : Option (Bool) :=
 ((isNaNS x).bind fun r_ => ((if r_ then ((isNaNS y).bind fun r_1 => some (!r_1)) else some false).bind fun b => ((if b then some true else some (ltS x y)).bind fun b1 => some (b1))))
noncomputable def binS_l1 (x : (List Str)) (target : Str) : (Int × Int) → Option ((Int × Int) ⊕ Int)
 | (i, j) => (if (decide (i < j)) then ((nth x (IntKind.i64.wrap (((UInt64.ofInt (((((UInt64.ofInt (IntKind.i64.wrap (i + j)))).toNat : Int)).fdiv (2 ^ 1)))).toNat : Int))).bind fun v => ((lessS v target).bind fun r_ => (if r_ then some (.inl ((IntKind.i64.wrap ((IntKind.i64.wrap (((UInt64.ofInt (((((UInt64.ofInt (IntKind.i64.wrap (i + j)))).toNat : Int)).fdiv (2 ^ 1)))).toNat : Int)) + 1)), j)) else some (.inl (i, (IntKind.i64.wrap (((UInt64.ofInt (((((UInt64.ofInt (IntKind.i64.wrap (i + j)))).toNat : Int)).fdiv (2 ^ 1)))).toNat : Int))))))) else some (.inr i))
noncomputable def binS_a1 (x : (List Str)) (target : Str) : Int → Option (Int × Bool)
 | i1 => ((if (decide (i1 < (x.length : Int))) then ((nth x i1).bind fun v1 => ((if (eqS v1 target) then some true else ((nth x i1).bind fun v2 => ((isNaNS2 v2).bind fun r_1 => ((if r_1 then ((isNaNS2 target).bind fun r_2 => some r_2) else some false).bind fun b2 => some b2)))).bind fun b1 => some b1)) else some false).bind fun b => some (i1, b))
noncomputable def binS (x : (List Str)) (target : Str) : Option (Int × Bool) :=
 ((loop (binS_l1 x target) (0, (x.length : Int))).bind (binS_a1 x target))
noncomputable def indexS_l1 (s_ : (List Str)) (x : Str) : Int → Option (Int ⊕ (Unit ⊕ Int))
 | v => (if (decide (v < (s_.length : Int))) then ((nth s_ v).bind fun v2 => (if (eqS x v2) then some (.inr (.inr v)) else some (.inl (IntKind.i64.wrap (v + 1))))) else some (.inr (.inl ())))
noncomputable def indexS_a1 : (Unit ⊕ Int) → Option (Int)
 | (.inl _) => some ((-1))
 | (.inr v1) => some (v1)
noncomputable def indexS (s_ : (List Str)) (x : Str) : Option (Int) :=
 ((loop (indexS_l1 s_ x) 0).bind (indexS_a1))
noncomputable def containsS (s_ : (List Str)) (x : Str) : Option (Bool) :=
 ((indexS s_ x).bind fun r_ => some ((decide (r_ ≥ 0))))
noncomputable def len64_j3 (x3 : UInt64) (n2 : Int) : Option (Int) :=
 ((nth (α := UInt8) (str [0, 1, 2, 2, 3, 3, 3, 3, 4, 4, 4, 4, 4, 4, 4, 4, 5, 5, 5, 5, 5, 5, 5, 5, 5, 5, 5, 5, 5, 5, 5, 5, 6, 6, 6, 6, 6, 6, 6, 6, 6, 6, 6, 6, 6, 6, 6, 6, 6, 6, 6, 6, 6, 6, 6, 6, 6, 6, 6, 6, 6, 6, 6, 6, 7, 7, 7, 7, 7, 7, 7, 7, 7, 7, 7, 7, 7, 7, 7, 7, 7, 7, 7, 7, 7, 7, 7, 7, 7, 7, 7, 7, 7, 7, 7, 7, 7, 7, 7, 7, 7, 7, 7, 7, 7, 7, 7, 7, 7, 7, 7, 7, 7, 7, 7, 7, 7, 7, 7, 7, 7, 7, 7, 7, 7, 7, 7, 7, 8, 8, 8, 8, 8, 8, 8, 8, 8, 8, 8, 8, 8, 8, 8, 8, 8, 8, 8, 8, 8, 8, 8, 8, 8, 8, 8, 8, 8, 8, 8, 8, 8, 8, 8, 8, 8, 8, 8, 8, 8, 8, 8, 8, 8, 8, 8, 8, 8, 8, 8, 8, 8, 8, 8, 8, 8, 8, 8, 8, 8, 8, 8, 8, 8, 8, 8, 8, 8, 8, 8, 8, 8, 8, 8, 8, 8, 8, 8, 8, 8, 8, 8, 8, 8, 8, 8, 8, 8, 8, 8, 8, 8, 8, 8, 8, 8, 8, 8, 8, 8, 8, 8, 8, 8, 8, 8, 8, 8, 8, 8, 8, 8, 8, 8, 8, 8, 8, 8, 8, 8, 8, 8, 8, 8, 8, 8, 8]) (((UInt8.ofInt ((x3).toNat : Int))).toNat : Int)).bind fun c => some ((IntKind.i64.wrap (n2 + ((c).toNat : Int)))))
noncomputable def len64_j2 (x2 : UInt64) (n1 : Int) : Option (Int) :=
 (if (decide (((x2).toNat : Int) ≥ 256)) then (len64_j3 (UInt64.ofInt ((((x2).toNat : Int)).fdiv (2 ^ 8))) (IntKind.i64.wrap (n1 + 8))) else (len64_j3 x2 n1))
noncomputable def len64_j1 (x1 : UInt64) (n : Int) : Option (Int) :=
 (if (decide (((x1).toNat : Int) ≥ 65536)) then (len64_j2 (UInt64.ofInt ((((x1).toNat : Int)).fdiv (2 ^ 16))) (IntKind.i64.wrap (n + 16))) else (len64_j2 x1 n))
noncomputable def len64 (x : UInt64) : Option (Int) :=
 (if (decide (((x).toNat : Int) ≥ 4294967296)) then (len64_j1 (UInt64.ofInt ((((x).toNat : Int)).fdiv (2 ^ 32))) 32) else (len64_j1 x 0))
noncomputable def lebSize (x : UInt64) : Option (Int) :=
 ((len64 x).bind fun r_ => some ((imax 1 (IntKind.i64.wrap (((IntKind.i64.wrap ((IntKind.i64.wrap (r_ + 7)) - 1))).tdiv 7)))))
noncomputable def sl_Clone1 (s_ : (List InodeR)) : Option ((List InodeR)) :=
 ((app 144 ([] : (List InodeR)) s_).bind fun l => some (l))
noncomputable def sl_Clone2 (s_ : (List Str)) : Option ((List Str)) :=
 ((app 16 ([] : (List Str)) s_).bind fun l => some (l))
noncomputable def sl_Clone3 (s_ : (List Int)) : Option ((List Int)) :=
 ((app 8 ([] : (List Int)) s_).bind fun l => some (l))
noncomputable def sl_Clone4 (s_ : (List UInt8)) : Option ((List UInt8)) :=
 ((app 1 ([] : (List UInt8)) s_).bind fun l => some (l))
noncomputable def sl_Clone5 (s_ : (List AttrR)) : Option ((List AttrR)) :=
 ((app 40 ([] : (List AttrR)) s_).bind fun l => some (l))
noncomputable def with_of (y : InodeR) : Option (Int) :=
 some (y.v.1)
noncomputable def seek_of (x : InodeR) (n : Int) (x1 : (PtrC (Clo 57 (Unit)))) : Option (Int) :=
 ((with_of x).bind fun r_ => ((cmpI r_ n).bind fun r_1 => some (r_1)))
noncomputable def sl_BinFunc_l1 (x : (List InodeR)) (target : Int) (cmp : (Clo 78 ((PtrC (Clo 57 (Unit))) × Unit))) : (Int × Int) → Option ((Int × Int) ⊕ Int)
 | (i, j) => (if (decide (i < j)) then ((nth x (IntKind.i64.wrap (((UInt64.ofInt (((((UInt64.ofInt (IntKind.i64.wrap (i + j)))).toNat : Int)).fdiv (2 ^ 1)))).toNat : Int))).bind fun v => ((seek_of v target cmp.cap.1).bind fun r_ => (if (decide (r_ < 0)) then some (.inl ((IntKind.i64.wrap ((IntKind.i64.wrap (((UInt64.ofInt (((((UInt64.ofInt (IntKind.i64.wrap (i + j)))).toNat : Int)).fdiv (2 ^ 1)))).toNat : Int)) + 1)), j)) else some (.inl (i, (IntKind.i64.wrap (((UInt64.ofInt (((((UInt64.ofInt (IntKind.i64.wrap (i + j)))).toNat : Int)).fdiv (2 ^ 1)))).toNat : Int))))))) else some (.inr i))
noncomputable def sl_BinFunc_a1 (x : (List InodeR)) (target : Int) (cmp : (Clo 78 ((PtrC (Clo 57 (Unit))) × Unit))) : Int → Option (Int × Bool)
 | i1 => ((if (decide (i1 < (x.length : Int))) then ((nth x i1).bind fun v1 => ((seek_of v1 target cmp.cap.1).bind fun r_1 => some (r_1 == 0))) else some false).bind fun b => some (i1, b))
noncomputable def sl_BinFunc (x : (List InodeR)) (target : Int) (cmp : (Clo 78 ((PtrC (Clo 57 (Unit))) × Unit))) : Option (Int × Bool) :=
 ((loop (sl_BinFunc_l1 x target cmp) (0, (x.length : Int))).bind (sl_BinFunc_a1 x target cmp))
noncomputable def plain_seek (l : (List InodeR)) (num : Int) (of : (Clo 57 (Unit))) : Option (Int × Bool) :=
 ((sl_BinFunc l num (Clo.mk ((PtrC.mk of : PtrC (Clo 57 (Unit))), ()) : Clo 78 ((PtrC (Clo 57 (Unit))) × Unit))).bind fun r_ => some (r_.1, r_.2))
noncomputable def odd_num (n : Int) (x : (PtrC ListingR)) : Option (Bool) :=
 ((if (decide (n < 0)) then some true else some (decide (n > 1024))).bind fun b => ((if b then some true else ((if x.v.v.1 then some (n == 0) else some false).bind fun b2 => some b2)).bind fun b1 => some (b1)))
noncomputable def sl_IndexFunc2_l1 (s_ : (List Int)) (f : (Clo 74 ((PtrC ListingR) × Unit))) : Int → Option (Int ⊕ (Unit ⊕ Int))
 | v => (if (decide (v < (s_.length : Int))) then ((nth s_ v).bind fun v2 => ((odd_num v2 f.cap.1).bind fun r_ => (if r_ then some (.inr (.inr v)) else some (.inl (IntKind.i64.wrap (v + 1)))))) else some (.inr (.inl ())))
noncomputable def sl_IndexFunc2_a1 : (Unit ⊕ Int) → Option (Int)
 | (.inl _) => some ((-1))
 | (.inr v1) => some (v1)
noncomputable def sl_IndexFunc2 (s_ : (List Int)) (f : (Clo 74 ((PtrC ListingR) × Unit))) : Option (Int) :=
 ((loop (sl_IndexFunc2_l1 s_ f) 0).bind (sl_IndexFunc2_a1))
noncomputable def sl_ContainsFunc (s_ : (List Int)) (f : (Clo 74 ((PtrC ListingR) × Unit))) : Option (Bool) :=
 ((sl_IndexFunc2 s_ f).bind fun r_ => some ((decide (r_ ≥ 0))))
noncomputable def plain_no (e_ : Int) : Option ((Err 111)) :=
 some ((Err.mk (some e_) : Err 111))
noncomputable def leb_Put_l1 (l : (List UInt8)) (x : UInt64) : ((List UInt8) × Int) → Option (((List UInt8) × Int) ⊕ (List UInt8))
 | (out_, v) => (if (decide (v < (l.length : Int))) then ((shrU x (IntKind.i64.wrap (7 * v))).bind fun u => ((nth out_ v).bind fun v1 => some (.inl ((out_.set v.toNat (UInt8.ofInt (bitOr .u8 (((UInt8.ofInt ((u).toNat : Int))).toNat : Int) 128))), (IntKind.i64.wrap (v + 1)))))) else some (.inr out_))
noncomputable def leb_Put_a1 : (List UInt8) → Option ((List UInt8))
 | out_1 => ((nth out_1 (IntKind.i64.wrap ((out_1.length : Int) - 1))).bind fun v2 => ((nth out_1 (IntKind.i64.wrap ((out_1.length : Int) - 1))).bind fun v3 => some ((out_1.set (IntKind.i64.wrap ((out_1.length : Int) - 1)).toNat (UInt8.ofInt (bitAndNot .u8 ((v2).toNat : Int) 128))))))
noncomputable def leb_Put (x : UInt64) : Option ((List UInt8)) :=
 ((lebSize x).bind fun r_ => ((mkz 1 r_ (0 : UInt8)).bind fun l => ((loop (leb_Put_l1 l x) (l, 0)).bind (leb_Put_a1))))
noncomputable def leb_Bytes (b : (List UInt8)) : Option ((List UInt8)) :=
 ((leb_Put (UInt64.ofInt (b.length : Int))).bind fun r_ => ((app 1 r_ b).bind fun l => some (l)))
noncomputable def obj_put_j2 (v : Int) (b3 : (List UInt8)) : Option (((List UInt8) × Int) ⊕ (List UInt8)) :=
 some (.inl (b3, (IntKind.i64.wrap (v + 1))))
noncomputable def obj_put_j3 (b1 : (List UInt8)) (v : Int) (n : Int) : Option (((List UInt8) × Int) ⊕ (List UInt8)) :=
 ((leb_Put (UInt64.ofInt n)).bind fun r_3 => ((app 1 b1 r_3).bind fun l4 => (obj_put_j2 v l4)))
noncomputable def obj_put_l1 (fields : (List AnyV)) : ((List UInt8) × Int) → Option (((List UInt8) × Int) ⊕ (List UInt8))
 | (b1, v) => (if (decide (v < (fields.length : Int))) then ((nth fields v).bind fun v1 => ((asT 3 (0 : Int) v1).bind fun as_ => (if as_.2 then ((leb_Put (UInt64.ofInt as_.1)).bind fun r_ => ((app 1 b1 r_).bind fun l => (obj_put_j2 v l))) else ((asT 9 (str []) v1).bind fun as_1 => (if as_1.2 then ((app 1 ([] : (List UInt8)) as_1.1).bind fun l1 => ((leb_Bytes l1).bind fun r_1 => ((app 1 b1 r_1).bind fun l2 => (obj_put_j2 v l2)))) else ((asT 33 ([] : (List UInt8)) v1).bind fun as_2 => (if as_2.2 then ((leb_Bytes as_2.1).bind fun r_2 => ((app 1 b1 r_2).bind fun l3 => (obj_put_j2 v l3))) else ((asT 122 (str []) v1).bind fun as_3 => (if as_3.2 then none else ((asT 4 false v1).bind fun as_4 => (if as_4.2 then (if as_4.1 then (obj_put_j3 b1 v 1) else (obj_put_j3 b1 v 0)) else (obj_put_j2 v b1)))))))))))) else some (.inr b1))
noncomputable def obj_put_a1 : (List UInt8) → Option ((List UInt8))
 | b2 => some (b2)
noncomputable def obj_put (b : (List UInt8)) (fields : (List AnyV)) : Option ((List UInt8)) :=
 ((loop (obj_put_l1 fields) (b, 0)).bind (obj_put_a1))
theorem find_is_wf (x : InodeR) (x1 : (PtrC Int)) (r : Bool) (h : find_is x x1 = some r) : MF Tryz.prog pz30 31 [enc x, enc x1] s0 fun v _ => ris v r := by
 refine TF_run [(0, enc x), (1, enc x1)] Tryz.func31 rfl (by simp only [Tryz.f31]; rfl) fun ψ => ?_
 unfold find_is at h
 refine TC_seq <| TC_reg <| TO_bxR (r := x) rfl (Enc.self x) Hp.nil fun m xs s hxs hs => TO_as (v := (enc (false : Bool))) rfl <| TO_nil <| TC_seq <| TC_reg <| TO_fv TTryz.fl38_0 rfl <| TO_ldV TTryz.ag3 Sel.zero rfl hxs hs fun y hy => ?_
 cases hy
 refine TO_ldC TTryz.ag3 rfl (Enc.self x1) fun y1 hy1 => ?_
 cases hy1
 refine TO_bi (v := (enc ((x.v.1 == x1.v) : Bool))) rfl rfl rfl <| TO_as rfl <| TO_nil <| TC_ret ?_
 rw [← Option.some.inj h]
 exact ⟨rfl, KE1 (a := ((x.v.1 == x1.v) : Bool)) rfl rfl (rfl : is _ ((x.v.1 == x1.v) : Bool)) (rfl : is _ ((x.v.1 == x1.v) : Bool))⟩
theorem find_is_pc : PureC Tryz.prog 31 (fun _ => Fn (fun a : InodeR × (PtrC Int) × Unit => find_is a.1 a.2.1)) := fnC pz30_ok ⟨_, Tryz.func31, rfl⟩ <| fun a r h => find_is_wf a.1 a.2.1 r h
noncomputable def py1 : Prims := pz30.add 31 (Fn (fun a : InodeR × (PtrC Int) × Unit => find_is a.1 a.2.1))
theorem py1_ok : PrimsOk Tryz.prog py1 := primsOk_add pz30_ok find_is_pc
theorem sl_IndexFunc1_wf (s_ : (List InodeR)) (f : (Clo 31 ((PtrC Int) × Unit))) (r : Int) (h : sl_IndexFunc1 s_ f = some r) : MF Tryz.prog py1 30 [enc s_, enc f] s0 fun v _ => ris v r := by
 refine TF_run [(0, enc s_), (1, enc f)] Tryz.func30 rfl (by simp only [Tryz.f30]; rfl) fun ψ => ?_
 unfold sl_IndexFunc1 at h
 refine TC_seq <| TC_reg <| TO_as (v := (enc (0 : Int))) rfl <| TO_nil <| TC_seq <| TC_seq <| TC_reg <| TO_mv rfl <| TO_ln Tryz.underlying22 rfl rfl (Enc.self s_) <| TO_mv (v := (enc (0 : Int))) rfl <| TO_nil <| TC_block ?_
 obtain ⟨o, hl, h⟩ := bs h
 refine TC_loop (fun (p : Int) φ s => match p with | v => Fx φ [(0, (enc (s_ : (List InodeR)))), (1, (enc (f : (Clo 31 ((PtrC Int) × Unit))))), (7, (enc ((s_.length : Int) : Int))), (8, (enc (v : Int)))]) (fun (o : (Unit ⊕ Int)) e φ s => match o with | (.inl _) => e = .exit 0 ∧ Fx φ [] | (.inr v1) => e = .ret ∧ Fx φ [(4, (enc (v1 : Int)))]) ?_ hl ⟨rfl, rfl, rfl, rfl, trivial⟩ ?_
 ·rintro v o h φ s hF
  rw [← hF.eq]
  rw [sl_IndexFunc1_l1] at h
  refine TC_seq <| TC_reg <| TO_bi (v := (enc ((decide (v < (s_.length : Int))) : Bool))) rfl rfl rfl <| TO_nil <| TC_seq ?_
  split at h
  ·rename_i hcond
   refine TC_cond_t rfl hcond <| TC_skip <| TC_seq <| TC_block <| TC_seq <| TC_reg <| TO_mv rfl <| TO_as rfl <| TO_nil <| TC_seq <| TC_reg <| TO_mv rfl <| TO_mv rfl <| TO_mv rfl ?_
   obtain ⟨v2, hx, h⟩ := bs h
   refine TO_ix Tryz.underlying22 TTryz.sh38 rfl rfl (Enc.self s_) hx fun p hp => TO_ldE TTryz.ag38 TTryz.sz38 rfl hp fun y hy => ?_
   obtain ⟨r_, hx1, h⟩ := bs h
   refine TO_fnV (f := fun a : InodeR × (PtrC Int) × Unit => find_is a.1 a.2.1) (a := (v2, f.cap)) rfl Tryz.func31 rfl rfl (Enc.self f) rfl (fun _ h => (.cons (a := (v2 : InodeR)) hy h)) hx1 <| TO_nil ?_
   split at h
   ·rename_i hcond
    refine TC_cond_t rfl hcond <| TC_seq <| TC_reg <| TO_mv rfl <| TO_as rfl <| TO_nil <| TC_ret ?_
    show if _ then _ else _
    rw [if_neg (by simp)]
    rw [← Option.some.inj h]
    exact ⟨_, rfl, rfl, ⟨rfl, trivial⟩⟩
   ·rename_i hcond
    refine TC_cond_f rfl hcond <| TC_skip <| TC_reg <| TO_bi (v := (enc ((IntKind.i64.wrap (v + 1)) : Int))) rfl rfl rfl <| TO_mv rfl <| TO_nil ?_
    rw [← Option.some.inj h]
    exact ⟨_, rfl, ⟨rfl, rfl, rfl, rfl, trivial⟩⟩
  ·rename_i hcond
   refine TC_cond_f rfl hcond <| TC_exit ?_
   rw [← Option.some.inj h]
   exact ⟨_, rfl, rfl, trivial⟩
 ·intro e φ s hE
  rcases o with _u | v1
  ·obtain ⟨rfl, hF⟩ := hE
   rw [← hF.eq]
   rw [sl_IndexFunc1_a1] at h
   show if _ then _ else _
   rw [if_pos rfl]
   refine TC_seq <| TC_reg <| TO_as (v := (enc ((-1) : Int))) rfl <| TO_nil <| TC_ret ?_
   rw [← Option.some.inj h]
   exact ⟨rfl, KE1 (a := ((-1) : Int)) rfl rfl (rfl : is _ ((-1) : Int)) (rfl : is _ ((-1) : Int))⟩
  ·obtain ⟨rfl, hF⟩ := hE
   rw [← hF.eq]
   rw [sl_IndexFunc1_a1] at h
   show if _ then _ else _
   rw [if_neg (by simp)]
   rw [← Option.some.inj h]
   exact ⟨rfl, KE1 (a := (v1 : Int)) rfl rfl (rfl : is _ (v1 : Int)) (rfl : is _ (v1 : Int))⟩
theorem sl_IndexFunc1_pc : PureC Tryz.prog 30 (fun _ => Fn (fun a : (List InodeR) × (Clo 31 ((PtrC Int) × Unit)) × Unit => sl_IndexFunc1 a.1 a.2.1)) := fnC py1_ok ⟨_, Tryz.func30, rfl⟩ <| fun a r h => sl_IndexFunc1_wf a.1 a.2.1 r h
noncomputable def py2 : Prims := py1.add 30 (Fn (fun a : (List InodeR) × (Clo 31 ((PtrC Int) × Unit)) × Unit => sl_IndexFunc1 a.1 a.2.1))
theorem py2_ok : PrimsOk Tryz.prog py2 := primsOk_add py1_ok sl_IndexFunc1_pc
theorem plain_Find_wf (f : FsR) (num : Int) (r : Int) (h : plain_Find f num = some r) : MF Tryz.prog py2 13 [enc f, enc num] s0 fun v _ => ris v r := by
 refine TF_run [(0, enc f), (1, enc num)] Tryz.func13 rfl (by simp only [Tryz.f13]; rfl) fun ψ => ?_
 unfold plain_Find at h
 refine TC_seq <| TC_reg <| TO_bxR (r := f) rfl (Enc.self f) Hp.nil fun m xs s hxs hs => TO_bx1 (a := (num : Int)) rfl (rfl : is _ (num : Int)) hs fun m1 s hs => TO_as (v := (enc (0 : Int))) rfl <| TO_nil <| TC_seq <| TC_reg <| TO_fv TTryz.fl24_0 rfl ?_
 replace hs := Hp.front [(.cells m1 [(enc (num : Int))])] (b := []) hs
 refine TO_ldV TTryz.ag22 Sel.zero rfl hxs hs fun y hy => ?_
 replace hs := Hp.front [(.cells m xs)] (b := []) hs
 refine TO_frz1 (q := 3) (a := (num : Int)) rfl rfl hs fun z s hz hs => TO_mkf (c := ((PtrC.mk num : PtrC Int), ())) rfl ⟨_, _, rfl, hz, rfl⟩ fun z1 hz1 => ?_
 obtain ⟨r_, hx, h⟩ := bs h
 refine TO_fn (f := fun a : (List InodeR) × (Clo 31 ((PtrC Int) × Unit)) × Unit => sl_IndexFunc1 a.1 a.2.1) (a := (f.v.1, (Clo.mk ((PtrC.mk num : PtrC Int), ()) : Clo 31 ((PtrC Int) × Unit)), ())) rfl Tryz.func30 rfl rfl (.cons (a := (f.v.1 : (List InodeR))) hy (.cons (a := ((Clo.mk ((PtrC.mk num : PtrC Int), ()) : Clo 31 ((PtrC Int) × Unit)) : (Clo 31 ((PtrC Int) × Unit)))) hz1 .nil)) hx <| TO_as rfl <| TO_nil <| TC_ret ?_
 rw [← Option.some.inj h]
 exact ⟨rfl, KE1 (a := (r_ : Int)) rfl rfl (rfl : is _ (r_ : Int)) (rfl : is _ (r_ : Int))⟩
theorem plain_Find_pc : PureC Tryz.prog 13 (fun _ => Fn (fun a : FsR × Int × Unit => plain_Find a.1 a.2.1)) := fnC py2_ok ⟨_, Tryz.func13, rfl⟩ <| fun a r h => plain_Find_wf a.1 a.2.1 r h
noncomputable def py3 : Prims := py2.add 13 (Fn (fun a : FsR × Int × Unit => plain_Find a.1 a.2.1))
theorem py3_ok : PrimsOk Tryz.prog py3 := primsOk_add py2_ok plain_Find_pc
theorem isNaNI_wf (x : Int) (r : Bool) (h : isNaNI x = some r) : MF Tryz.prog py3 103 [enc x] s0 fun v _ => ris v r := by
 refine TF_run [(0, enc x)] Tryz.func103 rfl (by simp only [Tryz.f103]; rfl) fun ψ => ?_
 unfold isNaNI at h
 refine TC_seq <| TC_reg <| TO_as (v := (enc (false : Bool))) rfl <| TO_nil <| TC_seq <| TC_reg <| TO_mv rfl <| TO_mv rfl <| TO_bi (v := (enc ((x != x) : Bool))) rfl rfl rfl <| TO_as rfl <| TO_nil <| TC_ret ?_
 rw [← Option.some.inj h]
 exact ⟨rfl, KE1 (a := ((x != x) : Bool)) rfl rfl (rfl : is _ ((x != x) : Bool)) (rfl : is _ ((x != x) : Bool))⟩
theorem isNaNI_pc : PureC Tryz.prog 103 (fun _ => Fn (fun a : Int × Unit => isNaNI a.1)) := fnC py3_ok ⟨_, Tryz.func103, rfl⟩ <| fun a r h => isNaNI_wf a.1 r h
noncomputable def py4 : Prims := py3.add 103 (Fn (fun a : Int × Unit => isNaNI a.1))
theorem py4_ok : PrimsOk Tryz.prog py4 := primsOk_add py3_ok isNaNI_pc
theorem cmpI_wf (x : Int) (y : Int) (r : Int) (h : cmpI x y = some r) : MF Tryz.prog py4 79 [enc x, enc y] s0 fun v _ => ris v r := by
 refine TF_run [(0, enc x), (1, enc y)] Tryz.func79 rfl (by simp only [Tryz.f79]; rfl) fun ψ => ?_
 unfold cmpI at h
 refine TC_seq <| TC_reg <| TO_as (v := (enc (0 : Int))) rfl <| TO_nil <| TC_seq <| TC_reg <| TO_mv rfl ?_
 obtain ⟨r_, hx, h⟩ := bs h
 refine TO_fn (f := fun a : Int × Unit => isNaNI a.1) (a := (x, ())) rfl Tryz.func103 rfl rfl (.cons (a := (x : Int)) (Enc.self _) .nil) hx <| TO_as rfl <| TO_nil <| TC_seq <| TC_reg <| TO_mv rfl ?_
 obtain ⟨r_1, hx1, h⟩ := bs h
 refine TO_fn (f := fun a : Int × Unit => isNaNI a.1) (a := (y, ())) rfl Tryz.func103 rfl rfl (.cons (a := (y : Int)) (Enc.self _) .nil) hx1 <| TO_as rfl <| TO_nil <| TC_seq <| TC_seq <| TC_reg <| TO_mv rfl <| TO_nil ?_
 split at h
 ·rename_i hcond
  refine TC_cond_t rfl hcond <| TC_seq <| TC_seq <| TC_reg <| TO_mv rfl <| TO_nil ?_
  split at h
  ·rename_i hcond
   refine TC_cond_t rfl hcond <| TC_seq <| TC_reg <| TO_as (v := (enc (0 : Int))) rfl <| TO_nil <| TC_ret ?_
   rw [← Option.some.inj h]
   exact ⟨rfl, KE1 (a := (0 : Int)) rfl rfl (rfl : is _ (0 : Int)) (rfl : is _ (0 : Int))⟩
  ·rename_i hcond
   refine TC_cond_f rfl hcond <| TC_skip <| TC_seq <| TC_reg <| TO_as (v := (enc ((-1) : Int))) rfl <| TO_nil <| TC_ret ?_
   rw [← Option.some.inj h]
   exact ⟨rfl, KE1 (a := ((-1) : Int)) rfl rfl (rfl : is _ ((-1) : Int)) (rfl : is _ ((-1) : Int))⟩
 ·rename_i hcond
  refine TC_cond_f rfl hcond <| TC_skip <| TC_seq <| TC_seq <| TC_reg <| TO_mv rfl <| TO_nil ?_
  split at h
  ·rename_i hcond
   refine TC_cond_t rfl hcond <| TC_seq <| TC_reg <| TO_as (v := (enc (1 : Int))) rfl <| TO_nil <| TC_ret ?_
   rw [← Option.some.inj h]
   exact ⟨rfl, KE1 (a := (1 : Int)) rfl rfl (rfl : is _ (1 : Int)) (rfl : is _ (1 : Int))⟩
  ·rename_i hcond
   refine TC_cond_f rfl hcond <| TC_skip <| TC_seq <| TC_seq <| TC_reg <| TO_mv rfl <| TO_mv rfl <| TO_bi (v := (enc ((decide (x < y)) : Bool))) rfl rfl rfl <| TO_nil ?_
   split at h
   ·rename_i hcond
    refine TC_cond_t rfl hcond <| TC_seq <| TC_reg <| TO_as (v := (enc ((-1) : Int))) rfl <| TO_nil <| TC_ret ?_
    rw [← Option.some.inj h]
    exact ⟨rfl, KE1 (a := ((-1) : Int)) rfl rfl (rfl : is _ ((-1) : Int)) (rfl : is _ ((-1) : Int))⟩
   ·rename_i hcond
    refine TC_cond_f rfl hcond <| TC_skip <| TC_seq <| TC_seq <| TC_reg <| TO_mv rfl <| TO_mv rfl <| TO_bi (v := (enc ((decide (x > y)) : Bool))) rfl rfl rfl <| TO_nil ?_
    split at h
    ·rename_i hcond
     refine TC_cond_t rfl hcond <| TC_seq <| TC_reg <| TO_as (v := (enc (1 : Int))) rfl <| TO_nil <| TC_ret ?_
     rw [← Option.some.inj h]
     exact ⟨rfl, KE1 (a := (1 : Int)) rfl rfl (rfl : is _ (1 : Int)) (rfl : is _ (1 : Int))⟩
    ·rename_i hcond
     refine TC_cond_f rfl hcond <| TC_skip <| TC_seq <| TC_reg <| TO_as (v := (enc (0 : Int))) rfl <| TO_nil <| TC_ret ?_
     rw [← Option.some.inj h]
     exact ⟨rfl, KE1 (a := (0 : Int)) rfl rfl (rfl : is _ (0 : Int)) (rfl : is _ (0 : Int))⟩
theorem cmpI_pc : PureC Tryz.prog 79 (fun _ => Fn (fun a : Int × Int × Unit => cmpI a.1 a.2.1)) := fnC py4_ok ⟨_, Tryz.func79, rfl⟩ <| fun a r h => cmpI_wf a.1 a.2.1 r h
noncomputable def py5 : Prims := py4.add 79 (Fn (fun a : Int × Int × Unit => cmpI a.1 a.2.1))
theorem py5_ok : PrimsOk Tryz.prog py5 := primsOk_add py4_ok cmpI_pc
theorem isNaNS_wf (x : Str) (r : Bool) (h : isNaNS x = some r) : MF Tryz.prog py5 95 [enc x] s0 fun v _ => ris v r := by
 refine TF_run [(0, enc x)] Tryz.func95 rfl (by simp only [Tryz.f95]; rfl) fun ψ => ?_
 unfold isNaNS at h
 refine TC_seq <| TC_reg <| TO_as (v := (enc (false : Bool))) rfl <| TO_nil <| TC_seq <| TC_reg <| TO_mv rfl <| TO_mv rfl <| TO_bi (v := (enc ((!eqS x x) : Bool))) rfl rfl rfl <| TO_as rfl <| TO_nil <| TC_ret ?_
 rw [← Option.some.inj h]
 exact ⟨rfl, KE1 (a := ((!eqS x x) : Bool)) rfl rfl (rfl : is _ ((!eqS x x) : Bool)) (rfl : is _ ((!eqS x x) : Bool))⟩
theorem isNaNS_pc : PureC Tryz.prog 95 (fun _ => Fn (fun a : Str × Unit => isNaNS a.1)) := fnC py5_ok ⟨_, Tryz.func95, rfl⟩ <| fun a r h => isNaNS_wf a.1 r h
noncomputable def py6 : Prims := py5.add 95 (Fn (fun a : Str × Unit => isNaNS a.1))
theorem py6_ok : PrimsOk Tryz.prog py6 := primsOk_add py5_ok isNaNS_pc
theorem isNaNS2_wf (x : Str) (r : Bool) (h : isNaNS2 x = some r) : MF Tryz.prog py6 71 [enc x] s0 fun v _ => ris v r := by
 refine TF_run [(0, enc x)] Tryz.func71 rfl (by simp only [Tryz.f71]; rfl) fun ψ => ?_
 unfold isNaNS2 at h
 refine TC_seq <| TC_reg <| TO_as (v := (enc (false : Bool))) rfl <| TO_nil <| TC_seq <| TC_reg <| TO_mv rfl <| TO_mv rfl <| TO_bi (v := (enc ((!eqS x x) : Bool))) rfl rfl rfl <| TO_as rfl <| TO_nil <| TC_ret ?_
 rw [← Option.some.inj h]
 exact ⟨rfl, KE1 (a := ((!eqS x x) : Bool)) rfl rfl (rfl : is _ ((!eqS x x) : Bool)) (rfl : is _ ((!eqS x x) : Bool))⟩
theorem isNaNS2_pc : PureC Tryz.prog 71 (fun _ => Fn (fun a : Str × Unit => isNaNS2 a.1)) := fnC py6_ok ⟨_, Tryz.func71, rfl⟩ <| fun a r h => isNaNS2_wf a.1 r h
noncomputable def py7 : Prims := py6.add 71 (Fn (fun a : Str × Unit => isNaNS2 a.1))
theorem py7_ok : PrimsOk Tryz.prog py7 := primsOk_add py6_ok isNaNS2_pc
theorem lessS_wf (x : Str) (y : Str) (r : Bool) (h : lessS x y = some r) : MF Tryz.prog py7 70 [enc x, enc y] s0 fun v _ => ris v r := by
 refine TF_run [(0, enc x), (1, enc y)] Tryz.func70 rfl (by simp only [Tryz.f70]; rfl) fun ψ => ?_
 unfold lessS at h
 refine TC_seq <| TC_reg <| TO_as (v := (enc (false : Bool))) rfl <| TO_nil <| TC_seq <| TC_reg <| TO_mv rfl ?_
 obtain ⟨r_, hx, h⟩ := bs h
 refine TO_fn (f := fun a : Str × Unit => isNaNS a.1) (a := (x, ())) rfl Tryz.func95 rfl rfl (.cons (a := (x : Str)) (Enc.self _) .nil) hx <| TO_mv rfl ?_
 obtain ⟨b, hb_b, h⟩ := bs h
 refine TO_cut 4 (fun φ s => Fx φ [(0, (enc (x : Str))), (1, (enc (y : Str))), (11, (enc (b : Bool)))]) ?_ ?_
 ·split at hb_b
  ·rename_i cg
   refine TO_on rfl rfl cg <| TO_mv rfl <| TO_on rfl rfl cg ?_
   obtain ⟨r_1, hx1, hb_b⟩ := bs hb_b
   refine TO_fn (f := fun a : Str × Unit => isNaNS a.1) (a := (y, ())) rfl Tryz.func95 rfl rfl (.cons (a := (y : Str)) (Enc.self _) .nil) hx1 <| TO_on rfl rfl cg <| TO_un (v := (enc ((!r_1) : Bool))) rfl rfl <| TO_pt rfl cg rfl <| TO_nil ?_
   rw [← Option.some.inj hb_b]
   exact ⟨rfl, rfl, rfl, trivial⟩
  ·rename_i cg1
   refine TO_off rfl rfl cg1 <| TO_off rfl rfl cg1 <| TO_off rfl rfl cg1 <| TO_pf (v := (enc (false : Bool))) rfl cg1 rfl <| TO_nil ?_
   rw [← Option.some.inj hb_b]
   exact ⟨rfl, rfl, rfl, trivial⟩
 ·rintro φ s hF
  rw [← hF.eq]
  refine TO_mv rfl ?_
  obtain ⟨b1, hb_b1, h⟩ := bs h
  refine TO_cut 4 (fun φ s => Fx φ [(16, (enc (b1 : Bool)))]) ?_ ?_
  ·split at hb_b1
   ·rename_i cg2
    refine TO_off rfl rfl (by simpa using cg2) <| TO_off rfl rfl (by simpa using cg2) <| TO_off rfl rfl (by simpa using cg2) <| TO_pt (v := (enc (true : Bool))) rfl cg2 rfl <| TO_nil ?_
    rw [← Option.some.inj hb_b1]
    exact ⟨rfl, trivial⟩
   ·rename_i cg3
    refine TO_on rfl rfl (by simpa using cg3) <| TO_mv rfl <| TO_on rfl rfl (by simpa using cg3) <| TO_mv rfl <| TO_on rfl rfl (by simpa using cg3) <| TO_bi (v := (enc ((ltS x y) : Bool))) rfl rfl rfl <| TO_pf rfl cg3 rfl <| TO_nil ?_
    rw [← Option.some.inj hb_b1]
    exact ⟨rfl, trivial⟩
  ·rintro φ s hF
   rw [← hF.eq]
   refine TO_as rfl <| TO_nil <| TC_ret ?_
   rw [← Option.some.inj h]
   exact ⟨rfl, KE1 (a := (b1 : Bool)) rfl rfl (rfl : is _ (b1 : Bool)) (rfl : is _ (b1 : Bool))⟩
theorem lessS_pc : PureC Tryz.prog 70 (fun _ => Fn (fun a : Str × Str × Unit => lessS a.1 a.2.1)) := fnC py7_ok ⟨_, Tryz.func70, rfl⟩ <| fun a r h => lessS_wf a.1 a.2.1 r h
noncomputable def py8 : Prims := py7.add 70 (Fn (fun a : Str × Str × Unit => lessS a.1 a.2.1))
theorem py8_ok : PrimsOk Tryz.prog py8 := primsOk_add py7_ok lessS_pc
theorem binS_wf (x : (List Str)) (target : Str) (r : Int × Bool) (h : binS x target = some r) : MF Tryz.prog py8 45 [enc x, enc target] s0 fun v _ => ris v r := by
 refine TF_run [(0, enc x), (1, enc target)] Tryz.func45 rfl (by simp only [Tryz.f45]; rfl) fun ψ => ?_
 unfold binS at h
 refine TC_seq <| TC_reg <| TO_as (v := (enc (0 : Int))) rfl <| TO_as (v := (enc (false : Bool))) rfl <| TO_nil <| TC_seq <| TC_reg <| TO_mv rfl <| TO_ln Tryz.underlying34 rfl rfl (Enc.self x) <| TO_as rfl <| TO_nil <| TC_seq <| TC_reg <| TO_mv rfl <| TO_as (v := (enc (0 : Int))) rfl ?_
 refine TO_as rfl <| TO_nil <| TC_seq <| TC_block ?_
 obtain ⟨i1, hl, h⟩ := bs h
 refine TC_loop (fun (p : (Int × Int)) φ s => match p with | (i, j) => Fx φ [(0, (enc (x : (List Str)))), (1, (enc (target : Str))), (6, (enc ((x.length : Int) : Int))), (7, (enc (i : Int))), (8, (enc (j : Int)))]) (fun (o : Int) e φ s => match o with | i1 => e = .exit 0 ∧ Fx φ [(0, (enc (x : (List Str)))), (1, (enc (target : Str))), (6, (enc ((x.length : Int) : Int))), (7, (enc (i1 : Int)))]) ?_ hl ⟨rfl, rfl, rfl, rfl, rfl, trivial⟩ ?_
 ·rintro ⟨i, j⟩ o h φ s hF
  rw [← hF.eq]
  rw [binS_l1] at h
  refine TC_seq <| TC_seq <| TC_reg <| TO_mv rfl <| TO_mv rfl <| TO_bi (v := (enc ((decide (i < j)) : Bool))) rfl rfl rfl <| TO_nil ?_
  split at h
  ·rename_i hcond
   refine TC_cond_t rfl hcond <| TC_skip <| TC_block <| TC_seq <| TC_reg <| TO_mv rfl <| TO_mv rfl <| TO_bi (v := (enc ((IntKind.i64.wrap (i + j)) : Int))) rfl rfl rfl <| TO_cvu64 Tryz.underlying3 Tryz.underlying118 rfl <| TO_biw64r rfl rfl rfl (shr_rng 1 (by have := (UInt64.ofInt (IntKind.i64.wrap (i + j))).toNat_lt; omega)) <| TO_cv Tryz.underlying118 Tryz.underlying3 rfl <| TO_as rfl <| TO_nil <| TC_seq <| TC_reg ?_
   refine TO_mv rfl <| TO_mv rfl ?_
   obtain ⟨v, hx, h⟩ := bs h
   refine TO_ix Tryz.underlying34 TTryz.sh9 rfl rfl (Enc.self x) hx fun p hp => TO_ld rfl TTryz.ag9 rfl hp fun y hy => ?_
   cases hy
   refine TO_mv rfl ?_
   obtain ⟨r_, hx1, h⟩ := bs h
   refine TO_fn (f := fun a : Str × Str × Unit => lessS a.1 a.2.1) (a := (v, target, ())) rfl Tryz.func70 rfl rfl (.cons (a := (v : Str)) (Enc.self _) (.cons (a := (target : Str)) (Enc.self _) .nil)) hx1 <| TO_nil ?_
   split at h
   ·rename_i hcond
    refine TC_cond_t rfl hcond <| TC_reg <| TO_mv rfl <| TO_bi (v := (enc ((IntKind.i64.wrap ((IntKind.i64.wrap (((UInt64.ofInt (((((UInt64.ofInt (IntKind.i64.wrap (i + j)))).toNat : Int)).fdiv (2 ^ 1)))).toNat : Int)) + 1)) : Int))) rfl rfl rfl <| TO_as rfl <| TO_nil ?_
    rw [← Option.some.inj h]
    exact ⟨_, rfl, ⟨rfl, rfl, rfl, rfl, rfl, trivial⟩⟩
   ·rename_i hcond
    refine TC_cond_f rfl hcond <| TC_reg <| TO_mv rfl <| TO_as rfl <| TO_nil ?_
    rw [← Option.some.inj h]
    exact ⟨_, rfl, ⟨rfl, rfl, rfl, rfl, rfl, trivial⟩⟩
  ·rename_i hcond
   refine TC_cond_f rfl hcond <| TC_exit ?_
   rw [← Option.some.inj h]
   exact ⟨_, rfl, rfl, ⟨rfl, rfl, rfl, rfl, trivial⟩⟩
 ·intro e φ s hE
  obtain ⟨rfl, hF⟩ := hE
  rw [← hF.eq]
  rw [binS_a1] at h
  show if _ then _ else _
  rw [if_pos rfl]
  refine TC_seq <| TC_reg <| TO_mv rfl <| TO_mv rfl <| TO_mv rfl <| TO_bi (v := (enc ((decide (i1 < (x.length : Int))) : Bool))) rfl rfl rfl <| TO_mv rfl ?_
  obtain ⟨b, hb_b, h⟩ := bs h
  refine TO_cut 18 (fun φ s => Fx φ [(31, (enc (i1 : Int))), (53, (enc (b : Bool)))]) ?_ ?_
  ·split at hb_b
   ·rename_i cg
    refine TO_on rfl rfl cg <| TO_mv rfl <| TO_on rfl rfl cg <| TO_mv rfl <| TO_on rfl rfl cg ?_
    obtain ⟨v1, hx2, hb_b⟩ := bs hb_b
    refine TO_ix Tryz.underlying34 TTryz.sh9 rfl rfl (Enc.self x) hx2 fun p1 hp1 => TO_on rfl rfl cg <| TO_ld rfl TTryz.ag9 rfl hp1 fun y1 hy1 => ?_
    cases hy1
    refine TO_on rfl rfl cg <| TO_mv rfl <| TO_on rfl rfl cg <| TO_bi (v := (enc ((eqS v1 target) : Bool))) rfl rfl rfl <| TO_on rfl rfl cg <| TO_mv rfl ?_
    obtain ⟨b1, hb_b1, hb_b⟩ := bs hb_b
    refine TO_cut 10 (fun φ s => Fx φ [(31, (enc (i1 : Int))), (35, (enc ((decide (i1 < (x.length : Int))) : Bool))), (52, (enc (b1 : Bool)))]) ?_ ?_
    ·split at hb_b1
     ·rename_i cg1
      refine TO_off rfl rfl (by simpa using cg1) <| TO_off rfl rfl (by simpa using cg1) <| TO_off rfl rfl (by simpa using cg1) <| TO_off rfl rfl (by simpa using cg1) <| TO_off rfl rfl (by simpa using cg1) <| TO_off rfl rfl (by simpa using cg1) <| TO_offU rfl rfl <| TO_offU rfl rfl <| TO_off rfl rfl (by simpa using cg1) <| TO_on rfl rfl cg <| TO_pt (v := (enc (true : Bool))) rfl cg1 rfl <| TO_nil ?_
      rw [← Option.some.inj hb_b1]
      exact ⟨rfl, rfl, rfl, trivial⟩
     ·rename_i cg2
      refine TO_on rfl rfl (by simpa using cg2) <| TO_mv rfl <| TO_on rfl rfl (by simpa using cg2) <| TO_mv rfl <| TO_on rfl rfl (by simpa using cg2) ?_
      obtain ⟨v2, hx3, hb_b1⟩ := bs hb_b1
      refine TO_ix Tryz.underlying34 TTryz.sh9 rfl rfl (Enc.self x) hx3 fun p2 hp2 => TO_on rfl rfl (by simpa using cg2) <| TO_ld rfl TTryz.ag9 rfl hp2 fun y2 hy2 => ?_
      cases hy2
      refine TO_on rfl rfl (by simpa using cg2) ?_
      obtain ⟨r_1, hx4, hb_b1⟩ := bs hb_b1
      refine TO_fn (f := fun a : Str × Unit => isNaNS2 a.1) (a := (v2, ())) rfl Tryz.func71 rfl rfl (.cons (a := (v2 : Str)) (Enc.self _) .nil) hx4 <| TO_on rfl rfl (by simpa using cg2) <| TO_mv rfl ?_
      obtain ⟨b2, hb_b2, hb_b1⟩ := bs hb_b1
      refine TO_cut 3 (fun φ s => Fx φ [(31, (enc (i1 : Int))), (35, (enc ((decide (i1 < (x.length : Int))) : Bool))), (42, (enc ((eqS v1 target) : Bool))), (51, (enc (b2 : Bool)))]) ?_ ?_
      ·split at hb_b2
       ·rename_i cg3
        refine TO_on rfl rfl cg3 <| TO_mv rfl <| TO_on rfl rfl cg3 ?_
        obtain ⟨r_2, hx5, hb_b2⟩ := bs hb_b2
        refine TO_fn (f := fun a : Str × Unit => isNaNS2 a.1) (a := (target, ())) rfl Tryz.func71 rfl rfl (.cons (a := (target : Str)) (Enc.self _) .nil) hx5 <| TO_on rfl rfl (by simpa using cg2) <| TO_pt rfl cg3 rfl <| TO_nil ?_
        rw [← Option.some.inj hb_b2]
        exact ⟨rfl, rfl, rfl, rfl, trivial⟩
       ·rename_i cg4
        refine TO_off rfl rfl cg4 <| TO_off rfl rfl cg4 <| TO_on rfl rfl (by simpa using cg2) <| TO_pf (v := (enc (false : Bool))) rfl cg4 rfl <| TO_nil ?_
        rw [← Option.some.inj hb_b2]
        exact ⟨rfl, rfl, rfl, rfl, trivial⟩
      ·rintro φ s hF
       rw [← hF.eq]
       refine TO_on rfl rfl cg <| TO_pf rfl cg2 rfl <| TO_nil ?_
       rw [← Option.some.inj hb_b1]
       exact ⟨rfl, rfl, rfl, trivial⟩
    ·rintro φ s hF
     rw [← hF.eq]
     refine TO_pt rfl cg rfl <| TO_nil ?_
     rw [← Option.some.inj hb_b]
     exact ⟨rfl, rfl, trivial⟩
   ·rename_i cg5
    refine TO_off rfl rfl cg5 <| TO_off rfl rfl cg5 <| TO_off rfl rfl cg5 <| TO_off rfl rfl cg5 <| TO_off rfl rfl cg5 <| TO_off rfl rfl cg5 <| TO_off rfl rfl cg5 <| TO_offU rfl rfl <| TO_offU rfl rfl <| TO_offU rfl rfl <| TO_offU rfl rfl <| TO_offU rfl rfl <| TO_offU rfl rfl <| TO_offU rfl rfl <| TO_offU rfl rfl ?_
    refine TO_offU rfl rfl <| TO_off rfl rfl cg5 <| TO_pf (v := (enc (false : Bool))) rfl cg5 rfl <| TO_nil ?_
    rw [← Option.some.inj hb_b]
    exact ⟨rfl, rfl, trivial⟩
  ·rintro φ s hF
   rw [← hF.eq]
   refine TO_as rfl <| TO_as rfl <| TO_nil <| TC_ret ?_
   rw [← Option.some.inj h]
   exact ⟨rfl, KE2 (a1 := (i1 : Int)) (a2 := (b : Bool)) rfl rfl rfl (rfl : is _ (i1 : Int)) (rfl : is _ (b : Bool)) ⟨_, _, rfl, (rfl : is _ (i1 : Int)), (rfl : is _ (b : Bool))⟩⟩
theorem binS_pc : PureC Tryz.prog 45 (fun _ => Fn (fun a : (List Str) × Str × Unit => binS a.1 a.2.1)) := fnC py8_ok ⟨_, Tryz.func45, rfl⟩ <| fun a r h => binS_wf a.1 a.2.1 r h
noncomputable def py9 : Prims := py8.add 45 (Fn (fun a : (List Str) × Str × Unit => binS a.1 a.2.1))
theorem py9_ok : PrimsOk Tryz.prog py9 := primsOk_add py8_ok binS_pc
theorem indexS_wf (s_ : (List Str)) (x : Str) (r : Int) (h : indexS s_ x = some r) : MF Tryz.prog py9 88 [enc s_, enc x] s0 fun v _ => ris v r := by
 refine TF_run [(0, enc s_), (1, enc x)] Tryz.func88 rfl (by simp only [Tryz.f88]; rfl) fun ψ => ?_
 unfold indexS at h
 refine TC_seq <| TC_reg <| TO_as (v := (enc (0 : Int))) rfl <| TO_nil <| TC_seq <| TC_seq <| TC_reg <| TO_mv rfl <| TO_ln Tryz.underlying34 rfl rfl (Enc.self s_) <| TO_mv (v := (enc (0 : Int))) rfl <| TO_nil <| TC_block ?_
 obtain ⟨o, hl, h⟩ := bs h
 refine TC_loop (fun (p : Int) φ s => match p with | v => Fx φ [(0, (enc (s_ : (List Str)))), (1, (enc (x : Str))), (7, (enc ((s_.length : Int) : Int))), (8, (enc (v : Int)))]) (fun (o : (Unit ⊕ Int)) e φ s => match o with | (.inl _) => e = .exit 0 ∧ Fx φ [] | (.inr v1) => e = .ret ∧ Fx φ [(4, (enc (v1 : Int)))]) ?_ hl ⟨rfl, rfl, rfl, rfl, trivial⟩ ?_
 ·rintro v o h φ s hF
  rw [← hF.eq]
  rw [indexS_l1] at h
  refine TC_seq <| TC_reg <| TO_bi (v := (enc ((decide (v < (s_.length : Int))) : Bool))) rfl rfl rfl <| TO_nil <| TC_seq ?_
  split at h
  ·rename_i hcond
   refine TC_cond_t rfl hcond <| TC_skip <| TC_seq <| TC_block <| TC_seq <| TC_reg <| TO_mv rfl <| TO_as rfl <| TO_nil <| TC_seq <| TC_reg <| TO_mv rfl <| TO_mv rfl <| TO_mv rfl ?_
   obtain ⟨v2, hx, h⟩ := bs h
   refine TO_ix Tryz.underlying34 TTryz.sh9 rfl rfl (Enc.self s_) hx fun p hp => TO_ld rfl TTryz.ag9 rfl hp fun y hy => ?_
   cases hy
   refine TO_bi (v := (enc ((eqS x v2) : Bool))) rfl rfl rfl <| TO_nil ?_
   split at h
   ·rename_i hcond
    refine TC_cond_t rfl hcond <| TC_seq <| TC_reg <| TO_mv rfl <| TO_as rfl <| TO_nil <| TC_ret ?_
    show if _ then _ else _
    rw [if_neg (by simp)]
    rw [← Option.some.inj h]
    exact ⟨_, rfl, rfl, ⟨rfl, trivial⟩⟩
   ·rename_i hcond
    refine TC_cond_f rfl hcond <| TC_skip <| TC_reg <| TO_bi (v := (enc ((IntKind.i64.wrap (v + 1)) : Int))) rfl rfl rfl <| TO_mv rfl <| TO_nil ?_
    rw [← Option.some.inj h]
    exact ⟨_, rfl, ⟨rfl, rfl, rfl, rfl, trivial⟩⟩
  ·rename_i hcond
   refine TC_cond_f rfl hcond <| TC_exit ?_
   rw [← Option.some.inj h]
   exact ⟨_, rfl, rfl, trivial⟩
 ·intro e φ s hE
  rcases o with _u | v1
  ·obtain ⟨rfl, hF⟩ := hE
   rw [← hF.eq]
   rw [indexS_a1] at h
   show if _ then _ else _
   rw [if_pos rfl]
   refine TC_seq <| TC_reg <| TO_as (v := (enc ((-1) : Int))) rfl <| TO_nil <| TC_ret ?_
   rw [← Option.some.inj h]
   exact ⟨rfl, KE1 (a := ((-1) : Int)) rfl rfl (rfl : is _ ((-1) : Int)) (rfl : is _ ((-1) : Int))⟩
  ·obtain ⟨rfl, hF⟩ := hE
   rw [← hF.eq]
   rw [indexS_a1] at h
   show if _ then _ else _
   rw [if_neg (by simp)]
   rw [← Option.some.inj h]
   exact ⟨rfl, KE1 (a := (v1 : Int)) rfl rfl (rfl : is _ (v1 : Int)) (rfl : is _ (v1 : Int))⟩
theorem indexS_pc : PureC Tryz.prog 88 (fun _ => Fn (fun a : (List Str) × Str × Unit => indexS a.1 a.2.1)) := fnC py9_ok ⟨_, Tryz.func88, rfl⟩ <| fun a r h => indexS_wf a.1 a.2.1 r h
noncomputable def py10 : Prims := py9.add 88 (Fn (fun a : (List Str) × Str × Unit => indexS a.1 a.2.1))
theorem py10_ok : PrimsOk Tryz.prog py10 := primsOk_add py9_ok indexS_pc
theorem containsS_wf (s_ : (List Str)) (x : Str) (r : Bool) (h : containsS s_ x = some r) : MF Tryz.prog py10 66 [enc s_, enc x] s0 fun v _ => ris v r := by
 refine TF_run [(0, enc s_), (1, enc x)] Tryz.func66 rfl (by simp only [Tryz.f66]; rfl) fun ψ => ?_
 unfold containsS at h
 refine TC_seq <| TC_reg <| TO_as (v := (enc (false : Bool))) rfl <| TO_nil <| TC_seq <| TC_reg <| TO_mv rfl <| TO_mv rfl ?_
 obtain ⟨r_, hx, h⟩ := bs h
 refine TO_fn (f := fun a : (List Str) × Str × Unit => indexS a.1 a.2.1) (a := (s_, x, ())) rfl Tryz.func88 rfl rfl (.cons (a := (s_ : (List Str))) (Enc.self s_) (.cons (a := (x : Str)) (Enc.self _) .nil)) hx <| TO_bi (v := (enc ((decide (r_ ≥ 0)) : Bool))) rfl rfl rfl <| TO_as rfl <| TO_nil <| TC_ret ?_
 rw [← Option.some.inj h]
 exact ⟨rfl, KE1 (a := ((decide (r_ ≥ 0)) : Bool)) rfl rfl (rfl : is _ ((decide (r_ ≥ 0)) : Bool)) (rfl : is _ ((decide (r_ ≥ 0)) : Bool))⟩
theorem containsS_pc : PureC Tryz.prog 66 (fun _ => Fn (fun a : (List Str) × Str × Unit => containsS a.1 a.2.1)) := fnC py10_ok ⟨_, Tryz.func66, rfl⟩ <| fun a r h => containsS_wf a.1 a.2.1 r h
noncomputable def py11 : Prims := py10.add 66 (Fn (fun a : (List Str) × Str × Unit => containsS a.1 a.2.1))
theorem py11_ok : PrimsOk Tryz.prog py11 := primsOk_add py10_ok containsS_pc
theorem len64_wf (x : UInt64) (r : Int) (h : len64 x = some r) : MF Tryz.prog py11 124 [enc x] s0 fun v _ => ris v r := by
 refine TF_run [(0, enc x)] Tryz.func124 rfl (by simp only [Tryz.f124]; rfl) fun ψ => ?_
 unfold len64 at h
 refine TC_seq <| TC_reg <| TO_as (v := (enc (0 : Int))) rfl <| TO_nil <| TC_cut (fun φ s => ∃ (x1 : UInt64) (n : Int), Fx φ [(0, (enc (x1 : UInt64))), (2, (enc (n : Int)))] ∧ len64_j1 x1 n = some r) ?_ ?_
 ·refine TC_seq ?_
  refine TC_reg <| TO_mv rfl <| TO_bi (v := (enc ((decide (((x).toNat : Int) ≥ 4294967296)) : Bool))) rfl rfl rfl <| TO_nil ?_
  split at h
  ·rename_i hcond
   refine TC_cond_t rfl hcond <| TC_seq <| TC_reg <| TO_mv rfl <| TO_biw64r rfl rfl rfl (shr_rng 32 (by have := x.toNat_lt; omega)) <| TO_as rfl <| TO_nil <| TC_reg <| TO_as (v := (enc (32 : Int))) rfl <| TO_nil ?_
   exact ⟨(UInt64.ofInt ((((x).toNat : Int)).fdiv (2 ^ 32))), 32, ⟨rfl, rfl, trivial⟩, h⟩
  ·rename_i hcond
   refine TC_cond_f rfl hcond <| TC_skip ?_
   exact ⟨x, 0, ⟨rfl, rfl, trivial⟩, h⟩
 ·rintro φ s ⟨x1, n, hF, h⟩
  rw [← hF.eq]
  unfold len64_j1 at h
  refine TC_cut (fun φ s => ∃ (x2 : UInt64) (n1 : Int), Fx φ [(0, (enc (x2 : UInt64))), (2, (enc (n1 : Int)))] ∧ len64_j2 x2 n1 = some r) ?_ ?_
  ·refine TC_seq ?_
   refine TC_reg <| TO_mv rfl <| TO_bi (v := (enc ((decide (((x1).toNat : Int) ≥ 65536)) : Bool))) rfl rfl rfl <| TO_nil ?_
   split at h
   ·rename_i hcond
    refine TC_cond_t rfl hcond <| TC_seq <| TC_reg <| TO_mv rfl <| TO_biw64r rfl rfl rfl (shr_rng 16 (by have := x1.toNat_lt; omega)) <| TO_as rfl <| TO_nil <| TC_reg <| TO_mv rfl <| TO_bi (v := (enc ((IntKind.i64.wrap (n + 16)) : Int))) rfl rfl rfl <| TO_as rfl <| TO_nil ?_
    exact ⟨(UInt64.ofInt ((((x1).toNat : Int)).fdiv (2 ^ 16))), (IntKind.i64.wrap (n + 16)), ⟨rfl, rfl, trivial⟩, h⟩
   ·rename_i hcond
    refine TC_cond_f rfl hcond <| TC_skip ?_
    exact ⟨x1, n, ⟨rfl, rfl, trivial⟩, h⟩
  ·rintro φ s ⟨x2, n1, hF, h⟩
   rw [← hF.eq]
   unfold len64_j2 at h
   refine TC_cut (fun φ s => ∃ (x3 : UInt64) (n2 : Int), Fx φ [(0, (enc (x3 : UInt64))), (2, (enc (n2 : Int)))] ∧ len64_j3 x3 n2 = some r) ?_ ?_
   ·refine TC_seq ?_
    refine TC_reg <| TO_mv rfl <| TO_bi (v := (enc ((decide (((x2).toNat : Int) ≥ 256)) : Bool))) rfl rfl rfl <| TO_nil ?_
    split at h
    ·rename_i hcond
     refine TC_cond_t rfl hcond <| TC_seq <| TC_reg <| TO_mv rfl <| TO_biw64r rfl rfl rfl (shr_rng 8 (by have := x2.toNat_lt; omega)) <| TO_as rfl <| TO_nil <| TC_reg <| TO_mv rfl <| TO_bi (v := (enc ((IntKind.i64.wrap (n1 + 8)) : Int))) rfl rfl rfl <| TO_as rfl <| TO_nil ?_
     exact ⟨(UInt64.ofInt ((((x2).toNat : Int)).fdiv (2 ^ 8))), (IntKind.i64.wrap (n1 + 8)), ⟨rfl, rfl, trivial⟩, h⟩
    ·rename_i hcond
     refine TC_cond_f rfl hcond <| TC_skip ?_
     exact ⟨x2, n1, ⟨rfl, rfl, trivial⟩, h⟩
   ·rintro φ s ⟨x3, n2, hF, h⟩
    rw [← hF.eq]
    unfold len64_j3 at h
    refine TC_seq <| TC_reg <| TO_mv rfl <| TO_mv rfl <| TO_cvu8 Tryz.underlying154 Tryz.underlying5 rfl ?_
    obtain ⟨c, hx, h⟩ := bs h
    refine TO_ixS Tryz.underlying9 rfl rfl hx <| TO_cv Tryz.underlying5 Tryz.underlying3 rfl ?_
    rw [wrap_u8_i64]
    refine TO_bi (v := (enc ((IntKind.i64.wrap (n2 + ((c).toNat : Int))) : Int))) rfl rfl rfl <| TO_as rfl <| TO_nil <| TC_ret ?_
    rw [← Option.some.inj h]
    exact ⟨rfl, KE1 (a := ((IntKind.i64.wrap (n2 + ((c).toNat : Int))) : Int)) rfl rfl (rfl : is _ ((IntKind.i64.wrap (n2 + ((c).toNat : Int))) : Int)) (rfl : is _ ((IntKind.i64.wrap (n2 + ((c).toNat : Int))) : Int))⟩
theorem len64_pc : PureC Tryz.prog 124 (fun _ => Fn (fun a : UInt64 × Unit => len64 a.1)) := fnC py11_ok ⟨_, Tryz.func124, rfl⟩ <| fun a r h => len64_wf a.1 r h
noncomputable def py12 : Prims := py11.add 124 (Fn (fun a : UInt64 × Unit => len64 a.1))
theorem py12_ok : PrimsOk Tryz.prog py12 := primsOk_add py11_ok len64_pc
theorem lebSize_wf (x : UInt64) (r : Int) (h : lebSize x = some r) : MF Tryz.prog py12 116 [enc x] s0 fun v _ => ris v r := by
 refine TF_run [(0, enc x)] Tryz.func116 rfl (by simp only [Tryz.f116]; rfl) fun ψ => ?_
 unfold lebSize at h
 refine TC_seq <| TC_reg <| TO_as (v := (enc (0 : Int))) rfl <| TO_nil <| TC_seq <| TC_reg <| TO_mv rfl ?_
 obtain ⟨r_, hx, h⟩ := bs h
 refine TO_fn (f := fun a : UInt64 × Unit => len64 a.1) (a := (x, ())) rfl Tryz.func124 rfl rfl (.cons (a := (x : UInt64)) (Enc.self _) .nil) hx <| TO_bi (v := (enc ((IntKind.i64.wrap (r_ + 7)) : Int))) rfl rfl rfl <| TO_bi (v := (enc ((IntKind.i64.wrap ((IntKind.i64.wrap (r_ + 7)) - 1)) : Int))) rfl rfl rfl <| TO_bi (v := (enc ((IntKind.i64.wrap (((IntKind.i64.wrap ((IntKind.i64.wrap (r_ + 7)) - 1))).tdiv 7)) : Int))) rfl rfl rfl <| TO_mx rfl rfl <| TO_as rfl <| TO_nil <| TC_ret ?_
 rw [← Option.some.inj h]
 exact ⟨rfl, KE1 (a := ((imax 1 (IntKind.i64.wrap (((IntKind.i64.wrap ((IntKind.i64.wrap (r_ + 7)) - 1))).tdiv 7))) : Int)) rfl rfl (rfl : is _ ((imax 1 (IntKind.i64.wrap (((IntKind.i64.wrap ((IntKind.i64.wrap (r_ + 7)) - 1))).tdiv 7))) : Int)) (rfl : is _ ((imax 1 (IntKind.i64.wrap (((IntKind.i64.wrap ((IntKind.i64.wrap (r_ + 7)) - 1))).tdiv 7))) : Int))⟩
theorem lebSize_pc : PureC Tryz.prog 116 (fun _ => Fn (fun a : UInt64 × Unit => lebSize a.1)) := fnC py12_ok ⟨_, Tryz.func116, rfl⟩ <| fun a r h => lebSize_wf a.1 r h
noncomputable def py13 : Prims := py12.add 116 (Fn (fun a : UInt64 × Unit => lebSize a.1))
theorem py13_ok : PrimsOk Tryz.prog py13 := primsOk_add py12_ok lebSize_pc
theorem sl_Clone1_wf (s_ : (List InodeR)) (r : (List InodeR)) (h : sl_Clone1 s_ = some r) {x_s_ : AV} (hy_s_ : is x_s_ s_) {s : St} {enF : En} {G : Glob} (hs : Hp s [enF, (.gl G)]) : MF Tryz.prog py13 34 [x_s_] s fun v s' => ∃ en', isM v en' r ∧ Hp s' [en', enF, .gl G] := by
 refine TF_runN [(0, x_s_)] Tryz.func34 rfl (by simp only [Tryz.f34]; rfl) fun ψ => ?_
 unfold sl_Clone1 at h
 refine TC_seq <| TC_reg <| TO_as (v := .nils) rfl <| TO_nil <| TC_seq <| TC_seq <| TC_reg <| TO_mv (v := x_s_) rfl ?_
 refine TO_nilS Tryz.underlying22 rfl hy_s_ (fun z hz hx_ => ?_) (fun z hz => ?_)
 ·replace h : some ([]) = some r := by rw [hx_] at h; exact h
  refine TO_nil <| TC_cond_t rfl rfl <| TC_seq <| TC_reg <| TO_as (v := .nils) rfl <| TO_nil <| TC_ret ?_
  rw [← Option.some.inj h]
  exact ⟨rfl, KN1 rfl rfl ⟨_, (.inr ⟨rfl, isL.nil, rfl, rfl, rfl⟩), (Hp.add (x := .nils) hs rfl)⟩⟩
 ·refine TO_nil ?_
  refine TC_cond_f rfl Bool.false_ne_true <| TC_skip <| TC_seq <| TC_reg <| TO_bs [] ([] : (List InodeR)) Tryz.underlying22 TTryz.ef38 rfl rfl rfl (Nat.le_of_ble_eq_true rfl) trivial fun z1 hz1 hz1c hz1n => TO_mv (v := x_s_) rfl ?_
  obtain ⟨l, hx, h⟩ := bs h
  refine TO_apm Tryz.underlying22 Tryz.underlying22 rfl rfl TTryz.ef38 rfl rfl (.inr ⟨rfl, hz1, hz1c, hz1n, rfl⟩) hy_s_ hx (Hp.add (x := .nils) hs rfl) fun z2 en s hz2 hs => TO_as (v := z2) rfl <| TO_nil <| TC_ret ?_
  rw [← Option.some.inj h]
  exact ⟨rfl, KN1 rfl rfl ⟨_, hz2, hs⟩⟩
theorem sl_Clone2_wf (s_ : (List Str)) (r : (List Str)) (h : sl_Clone2 s_ = some r) {x_s_ : AV} (hy_s_ : is x_s_ s_) {s : St} {enF : En} {G : Glob} (hs : Hp s [enF, (.gl G)]) : MF Tryz.prog py13 47 [x_s_] s fun v s' => ∃ en', isM v en' r ∧ Hp s' [en', enF, .gl G] := by
 refine TF_runN [(0, x_s_)] Tryz.func47 rfl (by simp only [Tryz.f47]; rfl) fun ψ => ?_
 unfold sl_Clone2 at h
 refine TC_seq <| TC_reg <| TO_as (v := .nils) rfl <| TO_nil <| TC_seq <| TC_seq <| TC_reg <| TO_mv (v := x_s_) rfl ?_
 refine TO_nilS Tryz.underlying34 rfl hy_s_ (fun z hz hx_ => ?_) (fun z hz => ?_)
 ·replace h : some ([]) = some r := by rw [hx_] at h; exact h
  refine TO_nil <| TC_cond_t rfl rfl <| TC_seq <| TC_reg <| TO_as (v := .nils) rfl <| TO_nil <| TC_ret ?_
  rw [← Option.some.inj h]
  exact ⟨rfl, KN1 rfl rfl ⟨_, (.inr ⟨rfl, isL.nil, rfl, rfl, rfl⟩), (Hp.add (x := .nils) hs rfl)⟩⟩
 ·refine TO_nil ?_
  refine TC_cond_f rfl Bool.false_ne_true <| TC_skip <| TC_seq <| TC_reg <| TO_bs [] ([] : (List Str)) Tryz.underlying34 TTryz.ef9 rfl rfl rfl (Nat.le_of_ble_eq_true rfl) trivial fun z1 hz1 hz1c hz1n => TO_mv (v := x_s_) rfl ?_
  obtain ⟨l, hx, h⟩ := bs h
  refine TO_apm Tryz.underlying34 Tryz.underlying34 rfl rfl TTryz.ef9 rfl rfl (.inr ⟨rfl, hz1, hz1c, hz1n, rfl⟩) hy_s_ hx (Hp.add (x := .nils) hs rfl) fun z2 en s hz2 hs => TO_as (v := z2) rfl <| TO_nil <| TC_ret ?_
  rw [← Option.some.inj h]
  exact ⟨rfl, KN1 rfl rfl ⟨_, hz2, hs⟩⟩
theorem sl_Clone3_wf (s_ : (List Int)) (r : (List Int)) (h : sl_Clone3 s_ = some r) {x_s_ : AV} (hy_s_ : is x_s_ s_) {s : St} {enF : En} {G : Glob} (hs : Hp s [enF, (.gl G)]) : MF Tryz.prog py13 49 [x_s_] s fun v s' => ∃ en', isM v en' r ∧ Hp s' [en', enF, .gl G] := by
 refine TF_runN [(0, x_s_)] Tryz.func49 rfl (by simp only [Tryz.f49]; rfl) fun ψ => ?_
 unfold sl_Clone3 at h
 refine TC_seq <| TC_reg <| TO_as (v := .nils) rfl <| TO_nil <| TC_seq <| TC_seq <| TC_reg <| TO_mv (v := x_s_) rfl ?_
 refine TO_nilS Tryz.underlying35 rfl hy_s_ (fun z hz hx_ => ?_) (fun z hz => ?_)
 ·replace h : some ([]) = some r := by rw [hx_] at h; exact h
  refine TO_nil <| TC_cond_t rfl rfl <| TC_seq <| TC_reg <| TO_as (v := .nils) rfl <| TO_nil <| TC_ret ?_
  rw [← Option.some.inj h]
  exact ⟨rfl, KN1 rfl rfl ⟨_, (.inr ⟨rfl, isL.nil, rfl, rfl, rfl⟩), (Hp.add (x := .nils) hs rfl)⟩⟩
 ·refine TO_nil ?_
  refine TC_cond_f rfl Bool.false_ne_true <| TC_skip <| TC_seq <| TC_reg <| TO_bs [] ([] : (List Int)) Tryz.underlying35 TTryz.ef3 rfl rfl rfl (Nat.le_of_ble_eq_true rfl) trivial fun z1 hz1 hz1c hz1n => TO_mv (v := x_s_) rfl ?_
  obtain ⟨l, hx, h⟩ := bs h
  refine TO_apm Tryz.underlying35 Tryz.underlying35 rfl rfl TTryz.ef3 rfl rfl (.inr ⟨rfl, hz1, hz1c, hz1n, rfl⟩) hy_s_ hx (Hp.add (x := .nils) hs rfl) fun z2 en s hz2 hs => TO_as (v := z2) rfl <| TO_nil <| TC_ret ?_
  rw [← Option.some.inj h]
  exact ⟨rfl, KN1 rfl rfl ⟨_, hz2, hs⟩⟩
theorem sl_Clone4_wf (s_ : (List UInt8)) (r : (List UInt8)) (h : sl_Clone4 s_ = some r) : MF Tryz.prog py13 51 [enc s_] s0 fun v _ => ris v r := by
 refine TF_run [(0, enc s_)] Tryz.func51 rfl (by simp only [Tryz.f51]; rfl) fun ψ => ?_
 unfold sl_Clone4 at h
 refine TC_seq <| TC_reg <| TO_as (v := .nils) rfl <| TO_nil <| TC_seq <| TC_seq <| TC_reg <| TO_mv rfl ?_
 refine TO_nilS Tryz.underlying33 rfl (Enc.self s_) (fun z hz hx_ => ?_) (fun z hz => ?_)
 ·replace h : some ([]) = some r := by rw [hx_] at h; exact h
  refine TO_nil <| TC_cond_t rfl rfl <| TC_seq <| TC_reg <| TO_as (v := .nils) rfl <| TO_nil <| TC_ret ?_
  rw [← Option.some.inj h]
  exact ⟨rfl, KE1 (a := ([] : (List UInt8))) rfl rfl isL.nil isL.nil⟩
 ·refine TO_nil ?_
  refine TC_cond_f rfl Bool.false_ne_true <| TC_skip <| TC_seq <| TC_reg <| TO_bs [] ([] : (List UInt8)) Tryz.underlying33 TTryz.ef5 rfl rfl rfl (Nat.le_of_ble_eq_true rfl) trivial fun z1 hz1 hz1c hz1n => TO_mv rfl ?_
  obtain ⟨l, hx, h⟩ := bs h
  refine TO_ap [] (es2 := []) Tryz.underlying33 Tryz.underlying33 rfl rfl TTryz.ef5 rfl rfl hz1 hz1c (Hp.add Hp.nil hz1n) (Enc.self s_) hx fun z2 s hz2 hz2c hs => TO_as (v := z2) rfl <| TO_nil <| TC_ret ?_
  rw [← Option.some.inj h]
  exact ⟨rfl, KE1 (a := (l : (List UInt8))) rfl rfl hz2 hz2⟩
theorem sl_Clone4_pc : PureC Tryz.prog 51 (fun _ => Fn (fun a : (List UInt8) × Unit => sl_Clone4 a.1)) := fnC py13_ok ⟨_, Tryz.func51, rfl⟩ <| fun a r h => sl_Clone4_wf a.1 r h
noncomputable def py14 : Prims := py13.add 51 (Fn (fun a : (List UInt8) × Unit => sl_Clone4 a.1))
theorem py14_ok : PrimsOk Tryz.prog py14 := primsOk_add py13_ok sl_Clone4_pc
theorem sl_Clone5_wf (s_ : (List AttrR)) (r : (List AttrR)) (h : sl_Clone5 s_ = some r) : MF Tryz.prog py14 52 [enc s_] s0 fun v _ => ris v r := by
 refine TF_run [(0, enc s_)] Tryz.func52 rfl (by simp only [Tryz.f52]; rfl) fun ψ => ?_
 unfold sl_Clone5 at h
 refine TC_seq <| TC_reg <| TO_as (v := .nils) rfl <| TO_nil <| TC_seq <| TC_seq <| TC_reg <| TO_mv rfl ?_
 refine TO_nilS Tryz.underlying36 rfl (Enc.self s_) (fun z hz hx_ => ?_) (fun z hz => ?_)
 ·replace h : some ([]) = some r := by rw [hx_] at h; exact h
  refine TO_nil <| TC_cond_t rfl rfl <| TC_seq <| TC_reg <| TO_as (v := .nils) rfl <| TO_nil <| TC_ret ?_
  rw [← Option.some.inj h]
  exact ⟨rfl, KE1 (a := ([] : (List AttrR))) rfl rfl isL.nil isL.nil⟩
 ·refine TO_nil ?_
  refine TC_cond_f rfl Bool.false_ne_true <| TC_skip <| TC_seq <| TC_reg <| TO_bs [] ([] : (List AttrR)) Tryz.underlying36 TTryz.ef89 rfl rfl rfl (Nat.le_of_ble_eq_true rfl) trivial fun z1 hz1 hz1c hz1n => TO_mv rfl ?_
  obtain ⟨l, hx, h⟩ := bs h
  refine TO_ap [] (es2 := []) Tryz.underlying36 Tryz.underlying36 rfl rfl TTryz.ef89 rfl rfl hz1 hz1c (Hp.add Hp.nil hz1n) (Enc.self s_) hx fun z2 s hz2 hz2c hs => TO_as (v := z2) rfl <| TO_nil <| TC_ret ?_
  rw [← Option.some.inj h]
  exact ⟨rfl, KE1 (a := (l : (List AttrR))) rfl rfl hz2 hz2⟩
theorem sl_Clone5_pc : PureC Tryz.prog 52 (fun _ => Fn (fun a : (List AttrR) × Unit => sl_Clone5 a.1)) := fnC py14_ok ⟨_, Tryz.func52, rfl⟩ <| fun a r h => sl_Clone5_wf a.1 r h
noncomputable def py15 : Prims := py14.add 52 (Fn (fun a : (List AttrR) × Unit => sl_Clone5 a.1))
theorem py15_ok : PrimsOk Tryz.prog py15 := primsOk_add py14_ok sl_Clone5_pc
theorem with_of_wf (y : InodeR) (r : Int) (h : with_of y = some r) : MF Tryz.prog py15 57 [enc y] s0 fun v _ => ris v r := by
 refine TF_run [(0, enc y)] Tryz.func57 rfl (by simp only [Tryz.f57]; rfl) fun ψ => ?_
 unfold with_of at h
 refine TC_seq <| TC_reg <| TO_bxR (r := y) rfl (Enc.self y) Hp.nil fun m xs s hxs hs => TO_as (v := (enc (0 : Int))) rfl <| TO_nil <| TC_seq <| TC_reg <| TO_fv TTryz.fl38_0 rfl <| TO_ldV TTryz.ag3 Sel.zero rfl hxs hs fun y1 hy1 => ?_
 cases hy1
 refine TO_as rfl <| TO_nil <| TC_ret ?_
 rw [← Option.some.inj h]
 exact ⟨rfl, KE1 (a := (y.v.1 : Int)) rfl rfl (rfl : is _ (y.v.1 : Int)) (rfl : is _ (y.v.1 : Int))⟩
theorem with_of_pc : PureC Tryz.prog 57 (fun _ => Fn (fun a : InodeR × Unit => with_of a.1)) := fnC py15_ok ⟨_, Tryz.func57, rfl⟩ <| fun a r h => with_of_wf a.1 r h
noncomputable def py16 : Prims := py15.add 57 (Fn (fun a : InodeR × Unit => with_of a.1))
theorem py16_ok : PrimsOk Tryz.prog py16 := primsOk_add py15_ok with_of_pc
theorem seek_of_wf (x : InodeR) (n : Int) (x1 : (PtrC (Clo 57 (Unit)))) (r : Int) (h : seek_of x n x1 = some r) : MF Tryz.prog py16 78 [enc x, enc n, enc x1] s0 fun v _ => ris v r := by
 refine TF_run [(0, enc x), (1, enc n), (2, enc x1)] Tryz.func78 rfl (by simp only [Tryz.f78]; rfl) fun ψ => ?_
 unfold seek_of at h
 refine TC_seq <| TC_reg <| TO_bxR (r := x) rfl (Enc.self x) Hp.nil fun m xs s hxs hs => TO_as (v := (enc (0 : Int))) rfl <| TO_nil <| TC_seq <| TC_reg <| TO_ldC TTryz.ag101 rfl (Enc.self x1) fun y hy => TO_ldW (r := x) TTryz.ag38 TTryz.sz38 rfl hxs hs fun y1 hy1 => ?_
 obtain ⟨r_, hx, h⟩ := bs h
 refine TO_fnV (f := fun a : InodeR × Unit => with_of a.1) (a := (x, x1.v.cap)) rfl Tryz.func57 rfl rfl hy rfl (fun _ h => (.cons (a := (x : InodeR)) hy1 h)) hx <| TO_mv rfl ?_
 obtain ⟨r_1, hx1, h⟩ := bs h
 refine TO_fn (f := fun a : Int × Int × Unit => cmpI a.1 a.2.1) (a := (r_, n, ())) rfl Tryz.func79 rfl rfl (.cons (a := (r_ : Int)) (Enc.self _) (.cons (a := (n : Int)) (Enc.self _) .nil)) hx1 <| TO_as rfl <| TO_nil <| TC_ret ?_
 rw [← Option.some.inj h]
 exact ⟨rfl, KE1 (a := (r_1 : Int)) rfl rfl (rfl : is _ (r_1 : Int)) (rfl : is _ (r_1 : Int))⟩
theorem seek_of_pc : PureC Tryz.prog 78 (fun _ => Fn (fun a : InodeR × Int × (PtrC (Clo 57 (Unit))) × Unit => seek_of a.1 a.2.1 a.2.2.1)) := fnC py16_ok ⟨_, Tryz.func78, rfl⟩ <| fun a r h => seek_of_wf a.1 a.2.1 a.2.2.1 r h
noncomputable def py17 : Prims := py16.add 78 (Fn (fun a : InodeR × Int × (PtrC (Clo 57 (Unit))) × Unit => seek_of a.1 a.2.1 a.2.2.1))
theorem py17_ok : PrimsOk Tryz.prog py17 := primsOk_add py16_ok seek_of_pc
theorem sl_BinFunc_wf (x : (List InodeR)) (target : Int) (cmp : (Clo 78 ((PtrC (Clo 57 (Unit))) × Unit))) (r : Int × Bool) (h : sl_BinFunc x target cmp = some r) : MF Tryz.prog py17 77 [enc x, enc target, enc cmp] s0 fun v _ => ris v r := by
 refine TF_run [(0, enc x), (1, enc target), (2, enc cmp)] Tryz.func77 rfl (by simp only [Tryz.f77]; rfl) fun ψ => ?_
 unfold sl_BinFunc at h
 refine TC_seq <| TC_reg <| TO_as (v := (enc (0 : Int))) rfl <| TO_as (v := (enc (false : Bool))) rfl <| TO_nil <| TC_seq <| TC_reg <| TO_mv rfl <| TO_ln Tryz.underlying22 rfl rfl (Enc.self x) <| TO_as rfl <| TO_nil <| TC_seq <| TC_reg <| TO_mv rfl <| TO_as (v := (enc (0 : Int))) rfl ?_
 refine TO_as rfl <| TO_nil <| TC_seq <| TC_block ?_
 obtain ⟨i1, hl, h⟩ := bs h
 refine TC_loop (fun (p : (Int × Int)) φ s => match p with | (i, j) => Fx φ [(0, (enc (x : (List InodeR)))), (1, (enc (target : Int))), (2, (enc (cmp : (Clo 78 ((PtrC (Clo 57 (Unit))) × Unit))))), (8, (enc ((x.length : Int) : Int))), (9, (enc (i : Int))), (10, (enc (j : Int)))]) (fun (o : Int) e φ s => match o with | i1 => e = .exit 0 ∧ Fx φ [(0, (enc (x : (List InodeR)))), (1, (enc (target : Int))), (2, (enc (cmp : (Clo 78 ((PtrC (Clo 57 (Unit))) × Unit))))), (8, (enc ((x.length : Int) : Int))), (9, (enc (i1 : Int)))]) ?_ hl ⟨rfl, rfl, rfl, rfl, rfl, rfl, trivial⟩ ?_
 ·rintro ⟨i, j⟩ o h φ s hF
  rw [← hF.eq]
  rw [sl_BinFunc_l1] at h
  refine TC_seq <| TC_seq <| TC_reg <| TO_mv rfl <| TO_mv rfl <| TO_bi (v := (enc ((decide (i < j)) : Bool))) rfl rfl rfl <| TO_nil ?_
  split at h
  ·rename_i hcond
   refine TC_cond_t rfl hcond <| TC_skip <| TC_block <| TC_seq <| TC_reg <| TO_mv rfl <| TO_mv rfl <| TO_bi (v := (enc ((IntKind.i64.wrap (i + j)) : Int))) rfl rfl rfl <| TO_cvu64 Tryz.underlying3 Tryz.underlying118 rfl <| TO_biw64r rfl rfl rfl (shr_rng 1 (by have := (UInt64.ofInt (IntKind.i64.wrap (i + j))).toNat_lt; omega)) <| TO_cv Tryz.underlying118 Tryz.underlying3 rfl <| TO_as rfl <| TO_nil <| TC_seq <| TC_reg ?_
   refine TO_mv rfl <| TO_mv rfl <| TO_mv rfl ?_
   obtain ⟨v, hx, h⟩ := bs h
   refine TO_ix Tryz.underlying22 TTryz.sh38 rfl rfl (Enc.self x) hx fun p hp => TO_ldE TTryz.ag38 TTryz.sz38 rfl hp fun y hy => TO_mv rfl ?_
   obtain ⟨r_, hx1, h⟩ := bs h
   refine TO_fnV (f := fun a : InodeR × Int × (PtrC (Clo 57 (Unit))) × Unit => seek_of a.1 a.2.1 a.2.2.1) (a := (v, target, cmp.cap)) rfl Tryz.func78 rfl rfl (Enc.self cmp) rfl (fun _ h => (.cons (a := (v : InodeR)) hy (.cons (a := (target : Int)) (rfl : is _ (target : Int)) h))) hx1 <| TO_bi (v := (enc ((decide (r_ < 0)) : Bool))) rfl rfl rfl <| TO_nil ?_
   split at h
   ·rename_i hcond
    refine TC_cond_t rfl hcond <| TC_reg <| TO_mv rfl <| TO_bi (v := (enc ((IntKind.i64.wrap ((IntKind.i64.wrap (((UInt64.ofInt (((((UInt64.ofInt (IntKind.i64.wrap (i + j)))).toNat : Int)).fdiv (2 ^ 1)))).toNat : Int)) + 1)) : Int))) rfl rfl rfl <| TO_as rfl <| TO_nil ?_
    rw [← Option.some.inj h]
    exact ⟨_, rfl, ⟨rfl, rfl, rfl, rfl, rfl, rfl, trivial⟩⟩
   ·rename_i hcond
    refine TC_cond_f rfl hcond <| TC_reg <| TO_mv rfl <| TO_as rfl <| TO_nil ?_
    rw [← Option.some.inj h]
    exact ⟨_, rfl, ⟨rfl, rfl, rfl, rfl, rfl, rfl, trivial⟩⟩
  ·rename_i hcond
   refine TC_cond_f rfl hcond <| TC_exit ?_
   rw [← Option.some.inj h]
   exact ⟨_, rfl, rfl, ⟨rfl, rfl, rfl, rfl, rfl, trivial⟩⟩
 ·intro e φ s hE
  obtain ⟨rfl, hF⟩ := hE
  rw [← hF.eq]
  rw [sl_BinFunc_a1] at h
  show if _ then _ else _
  rw [if_pos rfl]
  refine TC_seq <| TC_reg <| TO_mv rfl <| TO_mv rfl <| TO_mv rfl <| TO_bi (v := (enc ((decide (i1 < (x.length : Int))) : Bool))) rfl rfl rfl <| TO_mv rfl ?_
  obtain ⟨b, hb_b, h⟩ := bs h
  refine TO_cut 9 (fun φ s => Fx φ [(35, (enc (i1 : Int))), (48, (enc (b : Bool)))]) ?_ ?_
  ·split at hb_b
   ·rename_i cg
    refine TO_on rfl rfl cg <| TO_mv rfl <| TO_on rfl rfl cg <| TO_mv rfl <| TO_on rfl rfl cg <| TO_mv rfl <| TO_on rfl rfl cg ?_
    obtain ⟨v1, hx2, hb_b⟩ := bs hb_b
    refine TO_ix Tryz.underlying22 TTryz.sh38 rfl rfl (Enc.self x) hx2 fun p1 hp1 => TO_on rfl rfl cg <| TO_ldE TTryz.ag38 TTryz.sz38 rfl hp1 fun y1 hy1 => TO_on rfl rfl cg <| TO_mv rfl <| TO_on rfl rfl cg ?_
    obtain ⟨r_1, hx3, hb_b⟩ := bs hb_b
    refine TO_fnV (f := fun a : InodeR × Int × (PtrC (Clo 57 (Unit))) × Unit => seek_of a.1 a.2.1 a.2.2.1) (a := (v1, target, cmp.cap)) rfl Tryz.func78 rfl rfl (Enc.self cmp) rfl (fun _ h => (.cons (a := (v1 : InodeR)) hy1 (.cons (a := (target : Int)) (rfl : is _ (target : Int)) h))) hx3 <| TO_on rfl rfl cg <| TO_bi (v := (enc ((r_1 == 0) : Bool))) rfl rfl rfl <| TO_pt rfl cg rfl <| TO_nil ?_
    rw [← Option.some.inj hb_b]
    exact ⟨rfl, rfl, trivial⟩
   ·rename_i cg1
    refine TO_off rfl rfl cg1 <| TO_off rfl rfl cg1 <| TO_off rfl rfl cg1 <| TO_off rfl rfl cg1 <| TO_off rfl rfl cg1 <| TO_off rfl rfl cg1 <| TO_off rfl rfl cg1 <| TO_off rfl rfl cg1 <| TO_pf (v := (enc (false : Bool))) rfl cg1 rfl <| TO_nil ?_
    rw [← Option.some.inj hb_b]
    exact ⟨rfl, rfl, trivial⟩
  ·rintro φ s hF
   rw [← hF.eq]
   refine TO_as rfl <| TO_as rfl <| TO_nil <| TC_ret ?_
   rw [← Option.some.inj h]
   exact ⟨rfl, KE2 (a1 := (i1 : Int)) (a2 := (b : Bool)) rfl rfl rfl (rfl : is _ (i1 : Int)) (rfl : is _ (b : Bool)) ⟨_, _, rfl, (rfl : is _ (i1 : Int)), (rfl : is _ (b : Bool))⟩⟩
theorem sl_BinFunc_pc : PureC Tryz.prog 77 (fun _ => Fn (fun a : (List InodeR) × Int × (Clo 78 ((PtrC (Clo 57 (Unit))) × Unit)) × Unit => sl_BinFunc a.1 a.2.1 a.2.2.1)) := fnC py17_ok ⟨_, Tryz.func77, rfl⟩ <| fun a r h => sl_BinFunc_wf a.1 a.2.1 a.2.2.1 r h
noncomputable def py18 : Prims := py17.add 77 (Fn (fun a : (List InodeR) × Int × (Clo 78 ((PtrC (Clo 57 (Unit))) × Unit)) × Unit => sl_BinFunc a.1 a.2.1 a.2.2.1))
theorem py18_ok : PrimsOk Tryz.prog py18 := primsOk_add py17_ok sl_BinFunc_pc
theorem plain_seek_wf (l : (List InodeR)) (num : Int) (of : (Clo 57 (Unit))) (r : Int × Bool) (h : plain_seek l num of = some r) : MF Tryz.prog py18 56 [enc l, enc num, enc of] s0 fun v _ => ris v r := by
 refine TF_run [(0, enc l), (1, enc num), (2, enc of)] Tryz.func56 rfl (by simp only [Tryz.f56]; rfl) fun ψ => ?_
 unfold plain_seek at h
 refine TC_seq <| TC_reg <| TO_bx1 (a := (of : (Clo 57 (Unit)))) rfl (Enc.self of) Hp.nil fun m s hs => TO_as (v := (enc (0 : Int))) rfl <| TO_as (v := (enc (false : Bool))) rfl <| TO_nil <| TC_seq <| TC_reg <| TO_mv rfl <| TO_mv rfl <| TO_frz1 (q := 5) (a := (of : (Clo 57 (Unit)))) rfl (Enc.self _) hs fun z s hz hs => TO_mkf (c := ((PtrC.mk of : PtrC (Clo 57 (Unit))), ())) rfl ⟨_, _, rfl, hz, rfl⟩ fun z1 hz1 => ?_
 obtain ⟨r_, hx, h⟩ := bs h
 refine TO_fn (f := fun a : (List InodeR) × Int × (Clo 78 ((PtrC (Clo 57 (Unit))) × Unit)) × Unit => sl_BinFunc a.1 a.2.1 a.2.2.1) (a := (l, num, (Clo.mk ((PtrC.mk of : PtrC (Clo 57 (Unit))), ()) : Clo 78 ((PtrC (Clo 57 (Unit))) × Unit)), ())) rfl Tryz.func77 rfl rfl (.cons (a := (l : (List InodeR))) (Enc.self l) (.cons (a := (num : Int)) (Enc.self _) (.cons (a := ((Clo.mk ((PtrC.mk of : PtrC (Clo 57 (Unit))), ()) : Clo 78 ((PtrC (Clo 57 (Unit))) × Unit)) : (Clo 78 ((PtrC (Clo 57 (Unit))) × Unit)))) hz1 .nil))) hx <| TO_ex rfl rfl <| TO_ex rfl rfl <| TO_as rfl <| TO_as rfl <| TO_nil <| TC_ret ?_
 rw [← Option.some.inj h]
 exact ⟨rfl, KE2 (a1 := (r_.1 : Int)) (a2 := (r_.2 : Bool)) rfl rfl rfl (rfl : is _ (r_.1 : Int)) (rfl : is _ (r_.2 : Bool)) ⟨_, _, rfl, (rfl : is _ (r_.1 : Int)), (rfl : is _ (r_.2 : Bool))⟩⟩
theorem plain_seek_pc : PureC Tryz.prog 56 (fun _ => Fn (fun a : (List InodeR) × Int × (Clo 57 (Unit)) × Unit => plain_seek a.1 a.2.1 a.2.2.1)) := fnC py18_ok ⟨_, Tryz.func56, rfl⟩ <| fun a r h => plain_seek_wf a.1 a.2.1 a.2.2.1 r h
noncomputable def py19 : Prims := py18.add 56 (Fn (fun a : (List InodeR) × Int × (Clo 57 (Unit)) × Unit => plain_seek a.1 a.2.1 a.2.2.1))
theorem py19_ok : PrimsOk Tryz.prog py19 := primsOk_add py18_ok plain_seek_pc
theorem odd_num_wf (n : Int) (x : (PtrC ListingR)) (r : Bool) (h : odd_num n x = some r) : MF Tryz.prog py19 74 [enc n, enc x] s0 fun v _ => ris v r := by
 refine TF_run [(0, enc n), (1, enc x)] Tryz.func74 rfl (by simp only [Tryz.f74]; rfl) fun ψ => ?_
 unfold odd_num at h
 refine TC_seq <| TC_reg <| TO_as (v := (enc (false : Bool))) rfl <| TO_nil <| TC_seq <| TC_reg <| TO_mv rfl <| TO_bi (v := (enc ((decide (n < 0)) : Bool))) rfl rfl rfl <| TO_mv rfl ?_
 obtain ⟨b, hb_b, h⟩ := bs h
 refine TO_cut 3 (fun φ s => Fx φ [(0, (enc (n : Int))), (1, (enc (x : (PtrC ListingR)))), (9, (enc (b : Bool)))]) ?_ ?_
 ·split at hb_b
  ·rename_i cg
   refine TO_off rfl rfl (by simpa using cg) <| TO_off rfl rfl (by simpa using cg) <| TO_pt (v := (enc (true : Bool))) rfl cg rfl <| TO_nil ?_
   rw [← Option.some.inj hb_b]
   exact ⟨rfl, rfl, rfl, trivial⟩
  ·rename_i cg1
   refine TO_on rfl rfl (by simpa using cg1) <| TO_mv rfl <| TO_on rfl rfl (by simpa using cg1) <| TO_bi (v := (enc ((decide (n > 1024)) : Bool))) rfl rfl rfl <| TO_pf rfl cg1 rfl <| TO_nil ?_
   rw [← Option.some.inj hb_b]
   exact ⟨rfl, rfl, rfl, trivial⟩
 ·rintro φ s hF
  rw [← hF.eq]
  refine TO_mv rfl ?_
  obtain ⟨b1, hb_b1, h⟩ := bs h
  refine TO_cut 7 (fun φ s => Fx φ [(17, (enc (b1 : Bool)))]) ?_ ?_
  ·split at hb_b1
   ·rename_i cg2
    refine TO_off rfl rfl (by simpa using cg2) <| TO_off rfl rfl (by simpa using cg2) <| TO_off rfl rfl (by simpa using cg2) <| TO_offU rfl rfl <| TO_offU rfl rfl <| TO_off rfl rfl (by simpa using cg2) <| TO_pt (v := (enc (true : Bool))) rfl cg2 rfl <| TO_nil ?_
    rw [← Option.some.inj hb_b1]
    exact ⟨rfl, trivial⟩
   ·rename_i cg3
    refine TO_on rfl rfl (by simpa using cg3) <| TO_fp TTryz.fl99_0 Sel.zero rfl (PtrC.ep (Enc.self x)) fun p hp => TO_on rfl rfl (by simpa using cg3) <| TO_ldF TTryz.ag4 rfl hp fun y hy => ?_
    cases hy
    refine TO_on rfl rfl (by simpa using cg3) <| TO_mv rfl ?_
    obtain ⟨b2, hb_b2, hb_b1⟩ := bs hb_b1
    refine TO_cut 3 (fun φ s => Fx φ [(10, (enc (b : Bool))), (16, (enc (b2 : Bool)))]) ?_ ?_
    ·split at hb_b2
     ·rename_i cg4
      refine TO_on rfl rfl cg4 <| TO_mv rfl <| TO_on rfl rfl cg4 <| TO_bi (v := (enc ((n == 0) : Bool))) rfl rfl rfl <| TO_on rfl rfl (by simpa using cg3) <| TO_pt rfl cg4 rfl <| TO_nil ?_
      rw [← Option.some.inj hb_b2]
      exact ⟨rfl, rfl, trivial⟩
     ·rename_i cg5
      refine TO_off rfl rfl cg5 <| TO_off rfl rfl cg5 <| TO_on rfl rfl (by simpa using cg3) <| TO_pf (v := (enc (false : Bool))) rfl cg5 rfl <| TO_nil ?_
      rw [← Option.some.inj hb_b2]
      exact ⟨rfl, rfl, trivial⟩
    ·rintro φ s hF
     rw [← hF.eq]
     refine TO_pf rfl cg3 rfl <| TO_nil ?_
     rw [← Option.some.inj hb_b1]
     exact ⟨rfl, trivial⟩
  ·rintro φ s hF
   rw [← hF.eq]
   refine TO_as rfl <| TO_nil <| TC_ret ?_
   rw [← Option.some.inj h]
   exact ⟨rfl, KE1 (a := (b1 : Bool)) rfl rfl (rfl : is _ (b1 : Bool)) (rfl : is _ (b1 : Bool))⟩
theorem odd_num_pc : PureC Tryz.prog 74 (fun _ => Fn (fun a : Int × (PtrC ListingR) × Unit => odd_num a.1 a.2.1)) := fnC py19_ok ⟨_, Tryz.func74, rfl⟩ <| fun a r h => odd_num_wf a.1 a.2.1 r h
noncomputable def py20 : Prims := py19.add 74 (Fn (fun a : Int × (PtrC ListingR) × Unit => odd_num a.1 a.2.1))
theorem py20_ok : PrimsOk Tryz.prog py20 := primsOk_add py19_ok odd_num_pc
theorem sl_IndexFunc2_wf (s_ : (List Int)) (f : (Clo 74 ((PtrC ListingR) × Unit))) (r : Int) (h : sl_IndexFunc2 s_ f = some r) : MF Tryz.prog py20 102 [enc s_, enc f] s0 fun v _ => ris v r := by
 refine TF_run [(0, enc s_), (1, enc f)] Tryz.func102 rfl (by simp only [Tryz.f102]; rfl) fun ψ => ?_
 unfold sl_IndexFunc2 at h
 refine TC_seq <| TC_reg <| TO_as (v := (enc (0 : Int))) rfl <| TO_nil <| TC_seq <| TC_seq <| TC_reg <| TO_mv rfl <| TO_ln Tryz.underlying35 rfl rfl (Enc.self s_) <| TO_mv (v := (enc (0 : Int))) rfl <| TO_nil <| TC_block ?_
 obtain ⟨o, hl, h⟩ := bs h
 refine TC_loop (fun (p : Int) φ s => match p with | v => Fx φ [(0, (enc (s_ : (List Int)))), (1, (enc (f : (Clo 74 ((PtrC ListingR) × Unit))))), (7, (enc ((s_.length : Int) : Int))), (8, (enc (v : Int)))]) (fun (o : (Unit ⊕ Int)) e φ s => match o with | (.inl _) => e = .exit 0 ∧ Fx φ [] | (.inr v1) => e = .ret ∧ Fx φ [(4, (enc (v1 : Int)))]) ?_ hl ⟨rfl, rfl, rfl, rfl, trivial⟩ ?_
 ·rintro v o h φ s hF
  rw [← hF.eq]
  rw [sl_IndexFunc2_l1] at h
  refine TC_seq <| TC_reg <| TO_bi (v := (enc ((decide (v < (s_.length : Int))) : Bool))) rfl rfl rfl <| TO_nil <| TC_seq ?_
  split at h
  ·rename_i hcond
   refine TC_cond_t rfl hcond <| TC_skip <| TC_seq <| TC_block <| TC_seq <| TC_reg <| TO_mv rfl <| TO_as rfl <| TO_nil <| TC_seq <| TC_reg <| TO_mv rfl <| TO_mv rfl <| TO_mv rfl ?_
   obtain ⟨v2, hx, h⟩ := bs h
   refine TO_ix Tryz.underlying35 TTryz.sh3 rfl rfl (Enc.self s_) hx fun p hp => TO_ld rfl TTryz.ag3 rfl hp fun y hy => ?_
   cases hy
   obtain ⟨r_, hx1, h⟩ := bs h
   refine TO_fnV (f := fun a : Int × (PtrC ListingR) × Unit => odd_num a.1 a.2.1) (a := (v2, f.cap)) rfl Tryz.func74 rfl rfl (Enc.self f) rfl (fun _ h => (.cons (a := (v2 : Int)) (rfl : is _ (v2 : Int)) h)) hx1 <| TO_nil ?_
   split at h
   ·rename_i hcond
    refine TC_cond_t rfl hcond <| TC_seq <| TC_reg <| TO_mv rfl <| TO_as rfl <| TO_nil <| TC_ret ?_
    show if _ then _ else _
    rw [if_neg (by simp)]
    rw [← Option.some.inj h]
    exact ⟨_, rfl, rfl, ⟨rfl, trivial⟩⟩
   ·rename_i hcond
    refine TC_cond_f rfl hcond <| TC_skip <| TC_reg <| TO_bi (v := (enc ((IntKind.i64.wrap (v + 1)) : Int))) rfl rfl rfl <| TO_mv rfl <| TO_nil ?_
    rw [← Option.some.inj h]
    exact ⟨_, rfl, ⟨rfl, rfl, rfl, rfl, trivial⟩⟩
  ·rename_i hcond
   refine TC_cond_f rfl hcond <| TC_exit ?_
   rw [← Option.some.inj h]
   exact ⟨_, rfl, rfl, trivial⟩
 ·intro e φ s hE
  rcases o with _u | v1
  ·obtain ⟨rfl, hF⟩ := hE
   rw [← hF.eq]
   rw [sl_IndexFunc2_a1] at h
   show if _ then _ else _
   rw [if_pos rfl]
   refine TC_seq <| TC_reg <| TO_as (v := (enc ((-1) : Int))) rfl <| TO_nil <| TC_ret ?_
   rw [← Option.some.inj h]
   exact ⟨rfl, KE1 (a := ((-1) : Int)) rfl rfl (rfl : is _ ((-1) : Int)) (rfl : is _ ((-1) : Int))⟩
  ·obtain ⟨rfl, hF⟩ := hE
   rw [← hF.eq]
   rw [sl_IndexFunc2_a1] at h
   show if _ then _ else _
   rw [if_neg (by simp)]
   rw [← Option.some.inj h]
   exact ⟨rfl, KE1 (a := (v1 : Int)) rfl rfl (rfl : is _ (v1 : Int)) (rfl : is _ (v1 : Int))⟩
theorem sl_IndexFunc2_pc : PureC Tryz.prog 102 (fun _ => Fn (fun a : (List Int) × (Clo 74 ((PtrC ListingR) × Unit)) × Unit => sl_IndexFunc2 a.1 a.2.1)) := fnC py20_ok ⟨_, Tryz.func102, rfl⟩ <| fun a r h => sl_IndexFunc2_wf a.1 a.2.1 r h
noncomputable def py21 : Prims := py20.add 102 (Fn (fun a : (List Int) × (Clo 74 ((PtrC ListingR) × Unit)) × Unit => sl_IndexFunc2 a.1 a.2.1))
theorem py21_ok : PrimsOk Tryz.prog py21 := primsOk_add py20_ok sl_IndexFunc2_pc
theorem sl_ContainsFunc_wf (s_ : (List Int)) (f : (Clo 74 ((PtrC ListingR) × Unit))) (r : Bool) (h : sl_ContainsFunc s_ f = some r) : MF Tryz.prog py21 76 [enc s_, enc f] s0 fun v _ => ris v r := by
 refine TF_run [(0, enc s_), (1, enc f)] Tryz.func76 rfl (by simp only [Tryz.f76]; rfl) fun ψ => ?_
 unfold sl_ContainsFunc at h
 refine TC_seq <| TC_reg <| TO_as (v := (enc (false : Bool))) rfl <| TO_nil <| TC_seq <| TC_reg <| TO_mv rfl <| TO_mv rfl ?_
 obtain ⟨r_, hx, h⟩ := bs h
 refine TO_fn (f := fun a : (List Int) × (Clo 74 ((PtrC ListingR) × Unit)) × Unit => sl_IndexFunc2 a.1 a.2.1) (a := (s_, f, ())) rfl Tryz.func102 rfl rfl (.cons (a := (s_ : (List Int))) (Enc.self s_) (.cons (a := (f : (Clo 74 ((PtrC ListingR) × Unit)))) (Enc.self f) .nil)) hx <| TO_bi (v := (enc ((decide (r_ ≥ 0)) : Bool))) rfl rfl rfl <| TO_as rfl <| TO_nil <| TC_ret ?_
 rw [← Option.some.inj h]
 exact ⟨rfl, KE1 (a := ((decide (r_ ≥ 0)) : Bool)) rfl rfl (rfl : is _ ((decide (r_ ≥ 0)) : Bool)) (rfl : is _ ((decide (r_ ≥ 0)) : Bool))⟩
theorem sl_ContainsFunc_pc : PureC Tryz.prog 76 (fun _ => Fn (fun a : (List Int) × (Clo 74 ((PtrC ListingR) × Unit)) × Unit => sl_ContainsFunc a.1 a.2.1)) := fnC py21_ok ⟨_, Tryz.func76, rfl⟩ <| fun a r h => sl_ContainsFunc_wf a.1 a.2.1 r h
noncomputable def py22 : Prims := py21.add 76 (Fn (fun a : (List Int) × (Clo 74 ((PtrC ListingR) × Unit)) × Unit => sl_ContainsFunc a.1 a.2.1))
theorem py22_ok : PrimsOk Tryz.prog py22 := primsOk_add py21_ok sl_ContainsFunc_pc
theorem plain_no_wf (e_ : Int) (r : (Err 111)) (h : plain_no e_ = some r) : MF Tryz.prog py22 65 [enc e_] s0 fun v _ => ris v r := by
 refine TF_run [(0, enc e_)] Tryz.func65 rfl (by simp only [Tryz.f65]; rfl) fun ψ => ?_
 unfold plain_no at h
 refine TC_seq <| TC_reg <| TO_as (v := .nifc) rfl <| TO_nil <| TC_seq <| TC_reg <| TO_mv rfl <| TO_buR (r0 := ((0 : Int), ())) TTryz.bu115 TTryz.zr115 TTryz.zf115 rfl rfl (r := (e_, ())) (.cons (z := (e_ : Int)) Sel.zero (rfl : is _ (e_ : Int)) .nil) fun y hy => TO_bxR (r := (Rec.mk (e_, ()) : refusalR)) rfl hy Hp.nil fun m xs s hxs hs => TO_frzR (q := 5) (r := (Rec.mk (e_, ()) : refusalR)) rfl hxs hs fun z s hz hs => TO_miE (t := 111) (r := (Rec.mk (e_, ()) : refusalR)) (by kernel_rfl) rfl hz <| TO_as rfl <| TO_nil <| TC_ret ?_
 rw [← Option.some.inj h]
 exact ⟨rfl, KE1 (a := ((Err.mk (some e_) : Err 111) : (Err 111))) rfl rfl (Enc.self _) (Enc.self _)⟩
theorem plain_no_pc : PureC Tryz.prog 65 (fun _ => Fn (fun a : Int × Unit => plain_no a.1)) := fnC py22_ok ⟨_, Tryz.func65, rfl⟩ <| fun a r h => plain_no_wf a.1 r h
noncomputable def py23 : Prims := py22.add 65 (Fn (fun a : Int × Unit => plain_no a.1))
theorem py23_ok : PrimsOk Tryz.prog py23 := primsOk_add py22_ok plain_no_pc
theorem leb_Put_wf (x : UInt64) (r : (List UInt8)) (h : leb_Put x = some r) {s : St} {enF : En} {G : Glob} (hs : Hp s [enF, (.gl G)]) : MF Tryz.prog py23 99 [(enc (x : UInt64))] s fun v s' => ∃ en', isM v en' r ∧ Hp s' [en', enF, .gl G] := by
 refine TF_runN [(0, (enc (x : UInt64)))] Tryz.func99 rfl (by simp only [Tryz.f99]; rfl) fun ψ => ?_
 unfold leb_Put at h
 refine TC_seq <| TC_reg <| TO_as (v := .nils) rfl <| TO_nil <| TC_seq <| TC_reg <| TO_mv rfl ?_
 obtain ⟨r_, hx, h⟩ := bs h
 refine TO_fn (f := fun a : UInt64 × Unit => lebSize a.1) (a := (x, ())) rfl Tryz.func116 rfl rfl (.cons (a := (x : UInt64)) (Enc.self _) .nil) hx ?_
 obtain ⟨l, hx1, h⟩ := bs h
 refine TO_mkm_z Tryz.underlying33 TTryz.ef5 TTryz.ze5 rfl rfl hx1 hs fun z en s hz hs => TO_as (v := z) rfl <| TO_nil <| TC_seq <| TC_seq <| TC_reg <| TO_mv (v := z) rfl <| TO_lnm Tryz.underlying33 rfl rfl hz <| TO_mv (v := (enc (0 : Int))) rfl <| TO_nil <| TC_block ?_
 obtain ⟨out_1, hl, h⟩ := bs h
 refine TC_loop (fun (p : ((List UInt8) × Int)) φ s => match p with | (out_, v) => ∃ (x_out_ : AV) (en1 : En), isM x_out_ en1 out_ ∧ Fx φ [(0, (enc (x : UInt64))), (3, x_out_), (9, (enc ((l.length : Int) : Int))), (10, (enc (v : Int)))] ∧ Hp s [enF, (.gl G), en1]) (fun (o : (List UInt8)) e φ s => match o with | out_1 => e = .exit 0 ∧ ∃ (x_out_1 : AV) (en2 : En), isM x_out_1 en2 out_1 ∧ Fx φ [(3, x_out_1)] ∧ Hp s [enF, (.gl G), en2]) ?_ hl ⟨z, en, hz, ⟨rfl, rfl, rfl, rfl, trivial⟩, (Hp.front [(.gl G), en] (b := []) (Hp.front [en, enF] (b := []) (Hp.front [] (b := [enF, (.gl G)]) hs)))⟩ ?_
 ·rintro ⟨out_, v⟩ o h φ s ⟨x_out_, en1, hm_x_out_, hF, hs⟩
  rw [← hF.eq]
  rw [leb_Put_l1] at h
  refine TC_seq <| TC_reg <| TO_bi (v := (enc ((decide (v < (l.length : Int))) : Bool))) rfl rfl rfl <| TO_nil <| TC_seq ?_
  split at h
  ·rename_i hcond
   refine TC_cond_t rfl hcond <| TC_skip <| TC_seq <| TC_block <| TC_seq <| TC_reg <| TO_mv rfl <| TO_as rfl <| TO_nil <| TC_reg <| TO_mv (v := x_out_) rfl <| TO_mv rfl <| TO_mv rfl <| TO_mv rfl <| TO_bi (v := (enc ((IntKind.i64.wrap (7 * v)) : Int))) rfl rfl rfl ?_
   obtain ⟨u, hx2, h⟩ := bs h
   refine TO_shrU (a := x) (i := (IntKind.i64.wrap (7 * v))) rfl rfl hx2 <| TO_cvu8 Tryz.underlying154 Tryz.underlying5 rfl <| TO_biw8 rfl rfl rfl ?_
   obtain ⟨v1, hx3, h⟩ := bs h
   refine TO_ixm Tryz.underlying33 TTryz.sh5 rfl rfl hm_x_out_ (nth_some hx3).1 (nth_some hx3).2.1 fun p hp => ?_
   replace hs := Hp.front [enF, (.gl G)] (b := []) hs
   refine TO_stm (a := ((UInt8.ofInt (bitOr .u8 (((UInt8.ofInt ((u).toNat : Int))).toNat : Int) 128)) : UInt8)) rfl rfl hp hm_x_out_ (nth_lt hx3) (rfl : is _ ((UInt8.ofInt (bitOr .u8 (((UInt8.ofInt ((u).toNat : Int))).toNat : Int) 128)) : UInt8)) TTryz.sz5 hs fun en3 s hm hs => TO_nil <| TC_reg <| TO_bi (v := (enc ((IntKind.i64.wrap (v + 1)) : Int))) rfl rfl rfl <| TO_mv rfl <| TO_nil ?_
   rw [← Option.some.inj h]
   exact ⟨_, rfl, ⟨x_out_, en3, hm, ⟨rfl, rfl, rfl, rfl, trivial⟩, (Hp.front [(.gl G), en3] (b := []) (Hp.front [en3, enF] (b := []) (Hp.front [] (b := [enF, (.gl G)]) hs)))⟩⟩
  ·rename_i hcond
   refine TC_cond_f rfl hcond <| TC_exit ?_
   rw [← Option.some.inj h]
   exact ⟨_, rfl, rfl, ⟨x_out_, en1, hm_x_out_, ⟨rfl, trivial⟩, hs⟩⟩
 ·intro e φ s hE
  obtain ⟨rfl, x_out_1, en2, hm_x_out_1, hF, hs⟩ := hE
  rw [← hF.eq]
  rw [leb_Put_a1] at h
  show if _ then _ else _
  rw [if_pos rfl]
  refine TC_seq <| TC_reg <| TO_mv (v := x_out_1) rfl <| TO_mv (v := x_out_1) rfl <| TO_lnm Tryz.underlying33 rfl rfl hm_x_out_1 <| TO_bi (v := (enc ((IntKind.i64.wrap ((out_1.length : Int) - 1)) : Int))) rfl rfl rfl ?_
  obtain ⟨v2, hx4, h⟩ := bs h
  refine TO_ixm Tryz.underlying33 TTryz.sh5 rfl rfl hm_x_out_1 (nth_some hx4).1 (nth_some hx4).2.1 fun p1 hp1 => ?_
  replace hs := Hp.front [enF, (.gl G)] (b := []) hs
  refine TO_ldm rfl TTryz.ag5 rfl hp1 hm_x_out_1 hx4 hs fun y hy => ?_
  cases hy
  refine TO_biw8 rfl rfl rfl ?_
  obtain ⟨v3, hx5, h⟩ := bs h
  refine TO_ixm Tryz.underlying33 TTryz.sh5 rfl rfl hm_x_out_1 (nth_some hx5).1 (nth_some hx5).2.1 fun p2 hp2 => TO_stm (a := ((UInt8.ofInt (bitAndNot .u8 ((v2).toNat : Int) 128)) : UInt8)) rfl rfl hp2 hm_x_out_1 (nth_lt hx5) (rfl : is _ ((UInt8.ofInt (bitAndNot .u8 ((v2).toNat : Int) 128)) : UInt8)) TTryz.sz5 hs fun en4 s hm1 hs => TO_nil <| TC_seq <| TC_reg <| TO_mv (v := x_out_1) rfl <| TO_as (v := x_out_1) rfl <| TO_nil <| TC_ret ?_
  rw [← Option.some.inj h]
  exact ⟨rfl, KN1 rfl rfl ⟨_, hm1, hs⟩⟩
theorem leb_Bytes_wf (b : (List UInt8)) (r : (List UInt8)) (h : leb_Bytes b = some r) : MF Tryz.prog py23 100 [enc b] s0 fun v _ => ris v r := by
 refine TF_run [(0, enc b)] Tryz.func100 rfl (by simp only [Tryz.f100]; rfl) fun ψ => ?_
 unfold leb_Bytes at h
 refine TC_seq <| TC_reg <| TO_as (v := .nils) rfl <| TO_nil <| TC_seq <| TC_reg <| TO_mv rfl <| TO_ln Tryz.underlying33 rfl rfl (Enc.self b) <| TO_cvu64 Tryz.underlying3 Tryz.underlying154 rfl ?_
 obtain ⟨r_, hx, h⟩ := bs h
 refine TO_callM (by kernel_rfl) Tryz.func99 rfl (vs := [(enc ((UInt64.ofInt (b.length : Int)) : UInt64))]) rfl (MF.any (leb_Put_wf (UInt64.ofInt (b.length : Int)) _ hx (Hp.packG [] [] Hp.nil)) py23_ok) fun w s ⟨en, hm, hq_⟩ => ?_
 replace hs := Hp.unpackG [] [en] [] Hp.nil hq_
 refine TO_mv rfl ?_
 obtain ⟨l, hx1, h⟩ := bs h
 refine TO_apm Tryz.underlying33 Tryz.underlying33 rfl rfl TTryz.ef5 rfl rfl (isM.ap hm) (Enc.self b) hx1 hs fun z en1 s hz hs => TO_frz (q := 8) rfl hz hs fun z1 s hz1 hs => TO_as (v := z1) rfl <| TO_nil <| TC_ret ?_
 rw [← Option.some.inj h]
 exact ⟨rfl, KE1 (a := (l : (List UInt8))) rfl rfl hz1 hz1⟩
theorem leb_Bytes_pc : PureC Tryz.prog 100 (fun _ => Fn (fun a : (List UInt8) × Unit => leb_Bytes a.1)) := fnC py23_ok ⟨_, Tryz.func100, rfl⟩ <| fun a r h => leb_Bytes_wf a.1 r h
noncomputable def py24 : Prims := py23.add 100 (Fn (fun a : (List UInt8) × Unit => leb_Bytes a.1))
theorem py24_ok : PrimsOk Tryz.prog py24 := primsOk_add py23_ok leb_Bytes_pc
theorem obj_put_wf (b : (List UInt8)) (fields : (List AnyV)) (r : (List UInt8)) (h : obj_put b fields = some r) {x_b : AV} {en_b : En} (hm_b : isM x_b en_b b) {x_fields : AV} (hy_fields : is x_fields fields) {s : St} {enF : En} {G : Glob} (hs : Hp s [en_b, enF, (.gl G)]) : MF Tryz.prog py24 73 [x_b, x_fields] s fun v s' => ∃ en', isM v en' r ∧ Hp s' [en', enF, .gl G] := by
 refine TF_runN [(0, x_b), (1, x_fields)] Tryz.func73 rfl (by simp only [Tryz.f73]; rfl) fun ψ => ?_
 unfold obj_put at h
 refine TC_seq <| TC_reg <| TO_as (v := .nils) rfl <| TO_nil <| TC_seq <| TC_seq <| TC_reg <| TO_mv (v := x_fields) rfl <| TO_ln Tryz.underlying152 rfl rfl hy_fields <| TO_mv (v := (enc (0 : Int))) rfl <| TO_nil <| TC_block ?_
 obtain ⟨b2, hl, h⟩ := bs h
 refine TC_loop (fun (p : ((List UInt8) × Int)) φ s => match p with | (b1, v) => ∃ (x_b1 : AV) (en : En), isM x_b1 en b1 ∧ Fx φ [(0, x_b1), (15, x_fields), (16, (enc ((fields.length : Int) : Int))), (17, (enc (v : Int)))] ∧ Hp s [enF, (.gl G), en]) (fun (o : (List UInt8)) e φ s => match o with | b2 => e = .exit 0 ∧ ∃ (x_b2 : AV) (en1 : En), isM x_b2 en1 b2 ∧ Fx φ [(0, x_b2)] ∧ Hp s [enF, (.gl G), en1]) ?_ hl ⟨x_b, en_b, hm_b, ⟨rfl, rfl, rfl, rfl, trivial⟩, (Hp.front [(.gl G), en_b] (b := []) (Hp.front [en_b, enF] (b := []) (Hp.front [] (b := [enF, (.gl G)]) hs)))⟩ ?_
 ·rintro ⟨b1, v⟩ o h φ s ⟨x_b1, en, hm_x_b1, hF, hs⟩
  rw [← hF.eq]
  rw [obj_put_l1] at h
  refine TC_seq <| TC_reg <| TO_bi (v := (enc ((decide (v < (fields.length : Int))) : Bool))) rfl rfl rfl <| TO_nil <| TC_seq ?_
  split at h
  ·rename_i hcond
   refine TC_cond_t rfl hcond <| TC_skip <| TC_cut (fun φ s => ∃ (b3 : (List UInt8)) (x_b3 : AV) (en2 : En), isM x_b3 en2 b3 ∧ Fx φ [(0, x_b3), (15, x_fields), (16, (enc ((fields.length : Int) : Int))), (17, (enc (v : Int)))] ∧ Hp s [enF, (.gl G), en2] ∧ obj_put_j2 v b3 = some o) ?_ ?_
   ·refine TC_block ?_
    refine TC_seq <| TC_reg ?_
    obtain ⟨v1, hx, h⟩ := bs h
    refine TO_ix Tryz.underlying152 TTryz.sh20 rfl rfl hy_fields hx fun p hp => TO_ld rfl TTryz.ag20 rfl hp fun y hy => TO_as (v := y) rfl <| TO_nil <| TC_seq <| TC_reg <| TO_mv (v := y) rfl <| TO_nil <| TC_block <| TC_seq <| TC_reg ?_
    obtain ⟨as_, hx1, h⟩ := bs h
    refine TO_ta (by kernel_rfl) TTryz.ze3 rfl hy hx1 fun z hz => ?_
    cases hz
    refine TO_ex rfl rfl <| TO_ex rfl rfl <| TO_nil ?_
    split at h
    ·rename_i hcond
     refine TC_cond_t rfl hcond <| TC_seq <| TC_reg <| TO_as rfl <| TO_nil <| TC_reg <| TO_mv (v := x_b1) rfl <| TO_mv rfl <| TO_cvu64 Tryz.underlying3 Tryz.underlying154 rfl ?_
     obtain ⟨r_, hx2, h⟩ := bs h
     refine TO_callM (by kernel_rfl) Tryz.func99 rfl (vs := [(enc ((UInt64.ofInt as_.1) : UInt64))]) rfl (MF.any (leb_Put_wf (UInt64.ofInt as_.1) _ hx2 (Hp.packG [] [enF, (.gl G), en] hs)) py23_ok) fun w s ⟨en3, hm, hq_⟩ => ?_
     replace hs := Hp.unpackG [] [en3] [enF, (.gl G), en] hs hq_
     refine TO_frz (q := 28) rfl hm hs fun z1 s hz1 hs => ?_
     replace hs := Hp.front [enF, (.gl G)] (b := []) hs
     obtain ⟨l, hx3, h⟩ := bs h
     refine TO_apm Tryz.underlying33 Tryz.underlying33 rfl rfl TTryz.ef5 rfl rfl (isM.ap hm_x_b1) hz1 hx3 hs fun z2 en4 s hz2 hs => TO_as (v := z2) rfl <| TO_nil ?_
     exact ⟨l, z2, en4, hz2, ⟨rfl, rfl, rfl, rfl, trivial⟩, (Hp.front [(.gl G), en4] (b := []) (Hp.front [en4, enF] (b := []) (Hp.front [] (b := [enF, (.gl G)]) hs))), h⟩
    ·rename_i hcond
     refine TC_cond_f rfl hcond <| TC_seq <| TC_reg ?_
     obtain ⟨as_1, hx4, h⟩ := bs h
     refine TO_ta (by kernel_rfl) TTryz.ze9 rfl hy hx4 fun z3 hz3 => ?_
     cases hz3
     refine TO_ex rfl rfl <| TO_ex rfl rfl <| TO_nil ?_
     split at h
     ·rename_i hcond
      refine TC_cond_t rfl hcond <| TC_seq <| TC_reg <| TO_as rfl <| TO_nil <| TC_reg <| TO_mv (v := x_b1) rfl <| TO_mv rfl ?_
      obtain ⟨l1, hx5, h⟩ := bs h
      refine TO_cvBS (tx := as_1.1) Tryz.underlying9 Tryz.underlying33 Tryz.underlying5 rfl hx5 hs fun z4 s hz4 hz4c hs => ?_
      obtain ⟨r_1, hx6, h⟩ := bs h
      refine TO_fn (f := fun a : (List UInt8) × Unit => leb_Bytes a.1) (a := (l1, ())) rfl Tryz.func100 rfl rfl (.cons (a := (l1 : (List UInt8))) hz4 .nil) hx6 ?_
      replace hs := Hp.front [.own z4, enF, (.gl G)] (b := []) hs
      obtain ⟨l2, hx7, h⟩ := bs h
      refine TO_apm Tryz.underlying33 Tryz.underlying33 rfl rfl TTryz.ef5 rfl rfl (isM.ap hm_x_b1) (Enc.self r_1) hx7 hs fun z5 en5 s hz5 hs => TO_as (v := z5) rfl <| TO_nil ?_
      exact ⟨l2, z5, en5, hz5, ⟨rfl, rfl, rfl, rfl, trivial⟩, (Hp.front [(.gl G), en5] (b := []) (Hp.front [en5, enF] (b := []) (Hp.front [] (b := [enF, (.gl G)]) (Hp.drop [en5] (b := [enF, (.gl G)]) hs)))), h⟩
     ·rename_i hcond
      refine TC_cond_f rfl hcond <| TC_seq <| TC_reg ?_
      obtain ⟨as_2, hx8, h⟩ := bs h
      refine TO_ta (by kernel_rfl) TTryz.ze33 rfl hy hx8 fun z6 hz6 => TO_ex rfl rfl <| TO_ex rfl rfl <| TO_nil ?_
      split at h
      ·rename_i hcond
       refine TC_cond_t rfl hcond <| TC_seq <| TC_reg <| TO_as (v := z6) rfl <| TO_nil <| TC_reg <| TO_mv (v := x_b1) rfl <| TO_mv (v := z6) rfl ?_
       obtain ⟨r_2, hx9, h⟩ := bs h
       refine TO_fn (f := fun a : (List UInt8) × Unit => leb_Bytes a.1) (a := (as_2.1, ())) rfl Tryz.func100 rfl rfl (.cons (a := (as_2.1 : (List UInt8))) hz6 .nil) hx9 ?_
       replace hs := Hp.front [enF, (.gl G)] (b := []) hs
       obtain ⟨l3, hx10, h⟩ := bs h
       refine TO_apm Tryz.underlying33 Tryz.underlying33 rfl rfl TTryz.ef5 rfl rfl (isM.ap hm_x_b1) (Enc.self r_2) hx10 hs fun z7 en6 s hz7 hs => TO_as (v := z7) rfl <| TO_nil ?_
       exact ⟨l3, z7, en6, hz7, ⟨rfl, rfl, rfl, rfl, trivial⟩, (Hp.front [(.gl G), en6] (b := []) (Hp.front [en6, enF] (b := []) (Hp.front [] (b := [enF, (.gl G)]) hs))), h⟩
      ·rename_i hcond
       refine TC_cond_f rfl hcond <| TC_seq <| TC_reg ?_
       obtain ⟨as_3, hx11, h⟩ := bs h
       refine TO_ta (by kernel_rfl) TTryz.ze122 rfl hy hx11 fun z8 hz8 => ?_
       cases hz8
       refine TO_ex rfl rfl <| TO_ex rfl rfl <| TO_nil ?_
       split at h
       ·rename_i hcond
        refine TC_cond_t rfl hcond <| TC_seq <| TC_reg <| TO_as rfl <| TO_nil <| TC_seq <| TC_reg <| TO_mv rfl ?_
        cases h
       ·rename_i hcond
        refine TC_cond_f rfl hcond <| TC_seq <| TC_reg ?_
        obtain ⟨as_4, hx12, h⟩ := bs h
        refine TO_ta (by kernel_rfl) TTryz.ze4 rfl hy hx12 fun z9 hz9 => ?_
        cases hz9
        refine TO_ex rfl rfl <| TO_ex rfl rfl <| TO_nil ?_
        split at h
        ·rename_i hcond
         refine TC_cond_t rfl hcond <| TC_seq <| TC_reg <| TO_as rfl <| TO_nil <| TC_seq <| TC_reg <| TO_as (v := (enc (0 : Int))) rfl <| TO_nil <| TC_cut (fun φ s => ∃ (n : Int), Fx φ [(0, x_b1), (14, (enc (n : Int))), (15, x_fields), (16, (enc ((fields.length : Int) : Int))), (17, (enc (v : Int)))] ∧ Hp s [enF, (.gl G), en] ∧ obj_put_j3 b1 v n = some o) ?_ ?_
         ·refine TC_seq ?_
          refine TC_reg <| TO_mv rfl <| TO_nil ?_
          split at h
          ·rename_i hcond
           refine TC_cond_t rfl hcond <| TC_reg <| TO_as (v := (enc (1 : Int))) rfl <| TO_nil ?_
           exact ⟨1, ⟨rfl, rfl, rfl, rfl, rfl, trivial⟩, hs, h⟩
          ·rename_i hcond
           refine TC_cond_f rfl hcond <| TC_skip ?_
           exact ⟨0, ⟨rfl, rfl, rfl, rfl, rfl, trivial⟩, hs, h⟩
         ·rintro φ s ⟨n, hF, hs, h⟩
          rw [← hF.eq]
          unfold obj_put_j3 at h
          refine TC_reg <| TO_mv (v := x_b1) rfl <| TO_mv rfl <| TO_cvu64 Tryz.underlying3 Tryz.underlying154 rfl ?_
          obtain ⟨r_3, hx13, h⟩ := bs h
          refine TO_callM (by kernel_rfl) Tryz.func99 rfl (vs := [(enc ((UInt64.ofInt n) : UInt64))]) rfl (MF.any (leb_Put_wf (UInt64.ofInt n) _ hx13 (Hp.packG [] [enF, (.gl G), en] hs)) py23_ok) fun w1 s ⟨en7, hm1, hq_⟩ => ?_
          replace hs := Hp.unpackG [] [en7] [enF, (.gl G), en] hs hq_
          refine TO_frz (q := 63) rfl hm1 hs fun z10 s hz10 hs => ?_
          replace hs := Hp.front [enF, (.gl G)] (b := []) hs
          obtain ⟨l4, hx14, h⟩ := bs h
          refine TO_apm Tryz.underlying33 Tryz.underlying33 rfl rfl TTryz.ef5 rfl rfl (isM.ap hm_x_b1) hz10 hx14 hs fun z11 en8 s hz11 hs => TO_as (v := z11) rfl <| TO_nil ?_
          exact ⟨l4, z11, en8, hz11, ⟨rfl, rfl, rfl, rfl, trivial⟩, (Hp.front [(.gl G), en8] (b := []) (Hp.front [en8, enF] (b := []) (Hp.front [] (b := [enF, (.gl G)]) hs))), h⟩
        ·rename_i hcond
         refine TC_cond_f rfl hcond <| TC_skip ?_
         exact ⟨b1, x_b1, en, hm_x_b1, ⟨rfl, rfl, rfl, rfl, trivial⟩, hs, h⟩
   ·rintro φ s ⟨b3, x_b3, en2, hm_x_b3, hF, hs, h⟩
    rw [← hF.eq]
    unfold obj_put_j2 at h
    refine TC_reg <| TO_bi (v := (enc ((IntKind.i64.wrap (v + 1)) : Int))) rfl rfl rfl <| TO_mv rfl <| TO_nil ?_
    rw [← Option.some.inj h]
    exact ⟨_, rfl, ⟨x_b3, en2, hm_x_b3, ⟨rfl, rfl, rfl, rfl, trivial⟩, hs⟩⟩
  ·rename_i hcond
   refine TC_cond_f rfl hcond <| TC_exit ?_
   rw [← Option.some.inj h]
   exact ⟨_, rfl, rfl, ⟨x_b1, en, hm_x_b1, ⟨rfl, trivial⟩, hs⟩⟩
 ·intro e φ s hE
  obtain ⟨rfl, x_b2, en1, hm_x_b2, hF, hs⟩ := hE
  rw [← hF.eq]
  rw [obj_put_a1] at h
  show if _ then _ else _
  rw [if_pos rfl]
  refine TC_seq <| TC_reg <| TO_mv (v := x_b2) rfl <| TO_as (v := x_b2) rfl <| TO_nil <| TC_ret ?_
  rw [← Option.some.inj h]
  exact ⟨rfl, KN1 rfl rfl ⟨_, hm_x_b2, (Hp.front [enF, (.gl G)] (b := []) (Hp.front [(.gl G)] (b := [en1]) (Hp.front [enF] (b := [en1]) hs)))⟩⟩
end Go.Ai.Rab
