/- My own texts DevNgA, one behind the other. -/
import Derived.Test.YtabgpaejofjpbaaDoorWAF
import Derived.Test.YtabgpaejofjpbaaDoorWAG
/- Functions of the program as functions of values with types, and that the code answers as they do. -/
set_option linter.unusedVariables false
set_option linter.unusedSimpArgs false
set_option maxRecDepth 100000
set_option maxHeartbeats 4000000
attribute [local irreducible] Go.Ai.TC Go.Ai.TO Go.Ai.MF Go.Ai.runeAt Go.Ai.runeLen Go.Ai.encR
open Go.Ai.Enc (enc is)
open Go.Ai.Res (res ris)
open Go.Ai.Args (args)
namespace Go.Ai.TTryd
open Go.Proofs
theorem ef5 : EF Tryd.prog 5 0 1 := EF_of (by kernel_rfl)
theorem ef9 : EF Tryd.prog 9 0 16 := EF_of (by kernel_rfl)

end Go.Ai.TTryd
namespace Go.Ai.Rab
open Go.Proofs
noncomputable def ref_Texts_l1 (a : (List Str)) (b : (List Str)) : Int → Option (Int ⊕ (Unit ⊕ Bool))
  | i => (if (decide (i < (a.length : Int))) then ((nth a i).bind fun v1 => ((nth b i).bind fun v2 => (if (!eqS v1 v2) then some (.inr (.inr false)) else some (.inl (IntKind.i64.wrap (i + 1)))))) else some (.inr (.inl ())))
noncomputable def ref_Texts_a1 : (Unit ⊕ Bool) → Option (Bool)
  | (.inl _) => some (true)
  | (.inr v) => some (v)
noncomputable def ref_Texts (a : (List Str)) (b : (List Str)) : Option (Bool) :=
  (if ((a.length : Int) != (b.length : Int)) then some (false) else ((loop (ref_Texts_l1 a b) 0).bind (ref_Texts_a1)))
noncomputable def name_Count_l1 (s_ : Str) : (Int × Nat) → Option ((Int × Nat) ⊕ Int)
  | (n, v) => (if v < List.length s_ then some (.inl ((IntKind.i64.wrap (n + 1)), (v + runeLen s_ v))) else some (.inr n))
noncomputable def name_Count_a1 : Int → Option (Int)
  | n1 => some (n1)
noncomputable def name_Count (s_ : Str) : Option (Int) :=
  ((loop (name_Count_l1 s_) (0, 0)).bind (name_Count_a1))
noncomputable def ref_Rune_l2 (n : Int) (s_ : Str) : (Int × Int) → Option ((Int × Int) ⊕ (Int ⊕ (Int × Int × Bool)))
  | (x1, i) => (if (decide (i < n)) then ((nth (α := UInt8) s_ i).bind fun c1 => ((if (decide (((c1).toNat : Int) < 128)) then some true else some (decide (((c1).toNat : Int) ≥ 192))).bind fun b => (if b then some (.inr (.inr (65533, 1, false))) else some (.inl ((IntKind.i64.wrap ((IntKind.i64.wrap ((IntKind.i64.wrap (x1 * 64)) + ((c1).toNat : Int))) - 128)), (IntKind.i64.wrap (i + 1))))))) else some (.inr (.inl x1)))
noncomputable def ref_Rune_a2 (least : Int) (n : Int) : (Int ⊕ (Int × Int × Bool)) → Option (Int × Int × Bool)
  | (.inl x2) => ((if (decide (x2 < least)) then some true else some (decide (x2 > 1114111))).bind fun b1 => ((if b1 then some true else ((if (decide (x2 ≥ 55296)) then some (decide (x2 < 57344)) else some false).bind fun b3 => some b3)).bind fun b2 => (if b2 then some (65533, 1, false) else some (x2, n, true))))
  | (.inr (v, v1, v2)) => some (v, v1, v2)
noncomputable def ref_Rune_j1 (s_ : Str) (n : Int) (x : Int) (least : Int) : Option (Int × Int × Bool) :=
  (if (decide (((List.length s_ : Nat) : Int) < n)) then some (65533, 1, false) else ((loop (ref_Rune_l2 n s_) (x, 1)).bind (ref_Rune_a2 least n)))
noncomputable def ref_Rune (s_ : Str) : Option (Int × Int × Bool) :=
  ((nth (α := UInt8) s_ 0).bind fun c => (if (decide (((c).toNat : Int) < 128)) then some (((c).toNat : Int), 1, true) else ((if (decide (((c).toNat : Int) ≥ 194)) then some (decide (((c).toNat : Int) < 224)) else some false).bind fun b4 => (if b4 then (ref_Rune_j1 s_ 2 (IntKind.i64.wrap (((c).toNat : Int) - 192)) 128) else ((if (decide (((c).toNat : Int) ≥ 224)) then some (decide (((c).toNat : Int) < 240)) else some false).bind fun b5 => (if b5 then (ref_Rune_j1 s_ 3 (IntKind.i64.wrap (((c).toNat : Int) - 224)) 2048) else ((if (decide (((c).toNat : Int) ≥ 240)) then some (decide (((c).toNat : Int) < 245)) else some false).bind fun b6 => (if b6 then (ref_Rune_j1 s_ 4 (IntKind.i64.wrap (((c).toNat : Int) - 240)) 65536) else some (65533, 1, false)))))))))
noncomputable def ref_Check_l1 (s_ : Str) : Int → Option (Int ⊕ (Unit ⊕ Int))
  | i => (if (decide (i < ((List.length s_ : Nat) : Int))) then ((subT s_ i (List.length s_ : Nat)).bind fun t => ((ref_Rune t).bind fun r_ => ((if (!r_.2.2) then some true else some (r_.1 == 47)).bind fun b1 => ((if b1 then some true else some (r_.1 == 0)).bind fun b2 => (if b2 then some (.inr (.inr 206)) else some (.inl (IntKind.i64.wrap (i + r_.2.1)))))))) else some (.inr (.inl ())))
noncomputable def ref_Check_a1 : (Unit ⊕ Int) → Option (Int)
  | (.inl _) => some (0)
  | (.inr v) => some (v)
noncomputable def ref_Check (s_ : Str) : Option (Int) :=
  (if (eqS s_ (str [])) then some (206) else (if (decide (((List.length s_ : Nat) : Int) > 100)) then some (208) else ((if (eqS s_ (str [46])) then some true else some (eqS s_ (str [46, 46]))).bind fun b => (if b then some (206) else ((loop (ref_Check_l1 s_) 0).bind (ref_Check_a1))))))
noncomputable def ref_Split_j2 (i : Int) (out_2 : (List Str)) (last2 : Str) (from_1 : Int) : Option (((List Str) × Str × Int × Int) ⊕ (((List Str) × Str) ⊕ ((List Str) × Bool × Int))) :=
  some (.inl (out_2, last2, from_1, (IntKind.i64.wrap (i + 1))))
noncomputable def ref_Split_j3 (out_ : (List Str)) (t : Str) (i : Int) : Option (((List Str) × Str × Int × Int) ⊕ (((List Str) × Str) ⊕ ((List Str) × Bool × Int))) :=
  ((app 16 out_ [t]).bind fun l => (ref_Split_j2 i l t (IntKind.i64.wrap (i + 1))))
noncomputable def ref_Split_l1 (s_ : Str) : ((List Str) × Str × Int × Int) → Option (((List Str) × Str × Int × Int) ⊕ (((List Str) × Str) ⊕ ((List Str) × Bool × Int)))
  | (out_, last, from_, i) => (if (decide (i ≤ ((List.length s_ : Nat) : Int))) then ((if (decide (i < ((List.length s_ : Nat) : Int))) then ((nth (α := UInt8) s_ i).bind fun c1 => some (((c1).toNat : Int) != 47)) else some false).bind fun b => (if b then (ref_Split_j2 i out_ last from_) else ((subT s_ from_ i).bind fun t => ((if (eqS t (str [])) then some true else some (eqS t (str [46]))).bind fun b1 => (if b1 then (ref_Split_j2 i out_ t (IntKind.i64.wrap (i + 1))) else (if (!eqS t (str [46, 46])) then ((ref_Check t).bind fun r_ => (if (r_ != 0) then some (.inr (.inr ([], false, r_))) else (ref_Split_j3 out_ t i))) else (ref_Split_j3 out_ t i))))))) else some (.inr (.inl (out_, last))))
noncomputable def ref_Split_a1 : (((List Str) × Str) ⊕ ((List Str) × Bool × Int)) → Option ((List Str) × Bool × Int)
  | (.inl (out_1, last1)) => ((if (eqS last1 (str [])) then some true else some (eqS last1 (str [46]))).bind fun b2 => some (out_1, b2, 0))
  | (.inr (v, v1, v2)) => some (v, v1, v2)
noncomputable def ref_Split (s_ : Str) : Option ((List Str) × Bool × Int) :=
  (if (eqS s_ (str [])) then some ([], false, 206) else (if (decide (((List.length s_ : Nat) : Int) > 1000)) then some ([], false, 208) else ((nth (α := UInt8) s_ 0).bind fun c => (if (((c).toNat : Int) != 47) then some ([], false, 206) else ((loop (ref_Split_l1 s_) ([], (str []), 1, 1)).bind (ref_Split_a1))))))
noncomputable def ref_Count_l1 (s_ : Str) : (Int × Int) → Option ((Int × Int) ⊕ Int)
  | (n, i) => (if (decide (i < ((List.length s_ : Nat) : Int))) then ((subT s_ i (List.length s_ : Nat)).bind fun t => ((ref_Rune t).bind fun r_ => some (.inl ((IntKind.i64.wrap (n + 1)), (IntKind.i64.wrap (i + r_.2.1)))))) else some (.inr n))
noncomputable def ref_Count_a1 : Int → Option (Int)
  | n1 => some (n1)
noncomputable def ref_Count (s_ : Str) : Option (Int) :=
  ((loop (ref_Count_l1 s_) (0, 0)).bind (ref_Count_a1))
noncomputable def ref_Order_l1 (a : Str) (b : Str) : (Int × Int) → Option ((Int × Int) ⊕ ((Int × Int) ⊕ Int))
  | (i, k) => ((if (decide (i < ((List.length a : Nat) : Int))) then some (decide (k < ((List.length b : Nat) : Int))) else some false).bind fun b1 => (if b1 then ((subT a i (List.length a : Nat)).bind fun t => ((ref_Rune t).bind fun r_ => ((subT b k (List.length b : Nat)).bind fun t1 => ((ref_Rune t1).bind fun r_1 => (if (decide (r_.1 < r_1.1)) then some (.inr (.inr (-1))) else (if (decide (r_.1 > r_1.1)) then some (.inr (.inr 1)) else some (.inl ((IntKind.i64.wrap (i + r_.2.1)), (IntKind.i64.wrap (k + r_1.2.1)))))))))) else some (.inr (.inl (i, k)))))
noncomputable def ref_Order_a1 (b : Str) (a : Str) : ((Int × Int) ⊕ Int) → Option (Int)
  | (.inl (i1, k1)) => (if (decide (k1 < ((List.length b : Nat) : Int))) then some ((-1)) else (if (decide (i1 < ((List.length a : Nat) : Int))) then some (1) else (if (ltS a b) then some ((-1)) else (if (!(ltS a b || eqS a b)) then some (1) else some (0)))))
  | (.inr v) => some (v)
noncomputable def ref_Order (a : Str) (b : Str) : Option (Int) :=
  ((loop (ref_Order_l1 a b) (0, 0)).bind (ref_Order_a1 b a))
noncomputable def ref_hex_l1 : (Int × Str) → Option ((Int × Str) ⊕ (Int × Str))
  | (x1, s_) => (if (decide (x1 > 15)) then ((subT (str [48, 49, 50, 51, 52, 53, 54, 55, 56, 57, 97, 98, 99, 100, 101, 102]) (x1.tmod 16) (IntKind.i64.wrap ((x1.tmod 16) + 1))).bind fun t => ((catT t s_).bind fun s_2 => some (.inl ((IntKind.i64.wrap (x1.tdiv 16)), s_2)))) else some (.inr (x1, s_)))
noncomputable def ref_hex_a1 : (Int × Str) → Option (Str)
  | (x2, s_1) => ((subT (str [48, 49, 50, 51, 52, 53, 54, 55, 56, 57, 97, 98, 99, 100, 101, 102]) x2 (IntKind.i64.wrap (x2 + 1))).bind fun t1 => ((catT t1 s_1).bind fun s_3 => some (s_3)))
noncomputable def ref_hex (x : Int) : Option (Str) :=
  ((loop (ref_hex_l1) (x, (str []))).bind (ref_hex_a1))
noncomputable def ref_Quote_j2 (i : Int) (r_ : (Int × Int × Bool)) (out_2 : Str) : Option ((Str × Int) ⊕ Str) :=
  some (.inl (out_2, (IntKind.i64.wrap (i + r_.2.1))))
noncomputable def ref_Quote_l1 (s_ : Str) : (Str × Int) → Option ((Str × Int) ⊕ Str)
  | (out_, i) => (if (decide (i < ((List.length s_ : Nat) : Int))) then ((subT s_ i (List.length s_ : Nat)).bind fun t => ((ref_Rune t).bind fun r_ => (if (!r_.2.2) then ((nth (α := UInt8) s_ i).bind fun c => ((catT out_ (str [92, 120])).bind fun s_1 => ((subT (str [48, 49, 50, 51, 52, 53, 54, 55, 56, 57, 97, 98, 99, 100, 101, 102]) (IntKind.i64.wrap ((((c).toNat : Int)).tdiv 16)) (IntKind.i64.wrap ((IntKind.i64.wrap ((((c).toNat : Int)).tdiv 16)) + 1))).bind fun t1 => ((catT s_1 t1).bind fun s_2 => ((subT (str [48, 49, 50, 51, 52, 53, 54, 55, 56, 57, 97, 98, 99, 100, 101, 102]) ((((c).toNat : Int)).tmod 16) (IntKind.i64.wrap (((((c).toNat : Int)).tmod 16) + 1))).bind fun t2 => ((catT s_2 t2).bind fun s_3 => (ref_Quote_j2 i r_ s_3))))))) else ((if (r_.1 == 34) then some true else some (r_.1 == 92)).bind fun b => (if b then ((catT out_ (str [92])).bind fun s_4 => ((subT s_ i (IntKind.i64.wrap (i + 1))).bind fun t3 => ((catT s_4 t3).bind fun s_5 => (ref_Quote_j2 i r_ s_5)))) else ((if (decide (r_.1 ≥ 32)) then some (decide (r_.1 ≤ 126)) else some false).bind fun b1 => (if b1 then ((subT s_ i (IntKind.i64.wrap (i + 1))).bind fun t4 => ((catT out_ t4).bind fun s_6 => (ref_Quote_j2 i r_ s_6))) else ((catT out_ (str [92, 117, 123])).bind fun s_7 => ((ref_hex r_.1).bind fun r_1 => ((catT s_7 r_1).bind fun s_8 => ((catT s_8 (str [125])).bind fun s_9 => (ref_Quote_j2 i r_ s_9)))))))))))) else some (.inr out_))
noncomputable def ref_Quote_a1 : Str → Option (Str)
  | out_1 => ((catT out_1 (str [34])).bind fun s_10 => some (s_10))
noncomputable def ref_Quote (s_ : Str) : Option (Str) :=
  ((loop (ref_Quote_l1 s_) ((str [34]), 0)).bind (ref_Quote_a1))
noncomputable def ref_encode (x : Int) : Option ((List UInt8) × Bool) :=
  (if (decide (x < 128)) then some ([(UInt8.ofInt x)], true) else (if (decide (x < 2048)) then some ([(UInt8.ofInt (IntKind.i64.wrap (192 + (IntKind.i64.wrap (x.tdiv 64))))), (UInt8.ofInt (IntKind.i64.wrap (128 + (x.tmod 64))))], true) else ((if (decide (x ≥ 55296)) then some (decide (x < 57344)) else some false).bind fun b => ((if b then some true else some (decide (x > 1114111))).bind fun b1 => (if b1 then some ([], false) else (if (decide (x < 65536)) then some ([(UInt8.ofInt (IntKind.i64.wrap (224 + (IntKind.i64.wrap (x.tdiv 4096))))), (UInt8.ofInt (IntKind.i64.wrap (128 + (((IntKind.i64.wrap (x.tdiv 64))).tmod 64)))), (UInt8.ofInt (IntKind.i64.wrap (128 + (x.tmod 64))))], true) else some ([(UInt8.ofInt (IntKind.i64.wrap (240 + (IntKind.i64.wrap (x.tdiv 262144))))), (UInt8.ofInt (IntKind.i64.wrap (128 + (((IntKind.i64.wrap (x.tdiv 4096))).tmod 64)))), (UInt8.ofInt (IntKind.i64.wrap (128 + (((IntKind.i64.wrap (x.tdiv 64))).tmod 64)))), (UInt8.ofInt (IntKind.i64.wrap (128 + (x.tmod 64))))], true)))))))
noncomputable def ref_digit_l1 (c : UInt8) : Int → Option (Int ⊕ (Unit ⊕ Int))
  | i => (if (decide (i < 16)) then ((nth (α := UInt8) (str [48, 49, 50, 51, 52, 53, 54, 55, 56, 57, 97, 98, 99, 100, 101, 102]) i).bind fun c1 => (if (((c1).toNat : Int) == ((c).toNat : Int)) then some (.inr (.inr i)) else some (.inl (IntKind.i64.wrap (i + 1))))) else some (.inr (.inl ())))
noncomputable def ref_digit_a1 : (Unit ⊕ Int) → Option (Int)
  | (.inl _) => some ((-1))
  | (.inr v) => some (v)
noncomputable def ref_digit (c : UInt8) : Option (Int) :=
  ((loop (ref_digit_l1 c) 0).bind (ref_digit_a1))
noncomputable def ref_escape_l1 (s_ : Str) : (Int × Int) → Option ((Int × Int) ⊕ (Unit ⊕ ((List UInt8) × Int × Bool)))
  | (x, i) => ((if (decide (i < ((List.length s_ : Nat) : Int))) then some (decide (i < 9)) else some false).bind fun b7 => (if b7 then ((nth (α := UInt8) s_ i).bind fun c10 => ((if (((c10).toNat : Int) == 125) then some (decide (i > 2)) else some false).bind fun b8 => (if b8 then ((ref_encode x).bind fun r_4 => some (.inr (.inr (r_4.1, (IntKind.i64.wrap (i + 1)), r_4.2)))) else ((nth (α := UInt8) s_ i).bind fun c11 => ((ref_digit c11).bind fun r_5 => (if (decide (r_5 < 0)) then some (.inr (.inr ([], 0, false))) else ((nth (α := UInt8) s_ i).bind fun c12 => ((ref_digit c12).bind fun r_6 => some (.inl ((IntKind.i64.wrap ((IntKind.i64.wrap (16 * x)) + r_6)), (IntKind.i64.wrap (i + 1)))))))))))) else some (.inr (.inl ()))))
noncomputable def ref_escape_a1 : (Unit ⊕ ((List UInt8) × Int × Bool)) → Option ((List UInt8) × Int × Bool)
  | (.inl _) => some ([], 0, false)
  | (.inr (v, v1, v2)) => some (v, v1, v2)
noncomputable def ref_escape (s_ : Str) : Option ((List UInt8) × Int × Bool) :=
  ((if (decide (((List.length s_ : Nat) : Int) > 0)) then ((nth (α := UInt8) s_ 0).bind fun c => ((if (((c).toNat : Int) == 34) then some true else ((nth (α := UInt8) s_ 0).bind fun c1 => some (((c1).toNat : Int) == 92))).bind fun b1 => some b1)) else some false).bind fun b => (if b then ((nth (α := UInt8) s_ 0).bind fun c2 => some ([c2], 1, true)) else ((if (decide (((List.length s_ : Nat) : Int) ≥ 3)) then ((nth (α := UInt8) s_ 0).bind fun c3 => some (((c3).toNat : Int) == 120)) else some false).bind fun b2 => ((if b2 then ((nth (α := UInt8) s_ 1).bind fun c4 => ((ref_digit c4).bind fun r_ => some (decide (r_ ≥ 0)))) else some false).bind fun b3 => ((if b3 then ((nth (α := UInt8) s_ 2).bind fun c5 => ((ref_digit c5).bind fun r_1 => some (decide (r_1 ≥ 0)))) else some false).bind fun b4 => (if b4 then ((nth (α := UInt8) s_ 1).bind fun c6 => ((ref_digit c6).bind fun r_2 => ((nth (α := UInt8) s_ 2).bind fun c7 => ((ref_digit c7).bind fun r_3 => some ([(UInt8.ofInt (IntKind.i64.wrap ((IntKind.i64.wrap (16 * r_2)) + r_3)))], 3, true))))) else ((if (decide (((List.length s_ : Nat) : Int) < 4)) then some true else ((nth (α := UInt8) s_ 0).bind fun c8 => some (((c8).toNat : Int) != 117))).bind fun b5 => ((if b5 then some true else ((nth (α := UInt8) s_ 1).bind fun c9 => some (((c9).toNat : Int) != 123))).bind fun b6 => (if b6 then some ([], 0, false) else ((loop (ref_escape_l1 s_) (0, 2)).bind (ref_escape_a1)))))))))))
noncomputable def ref_Unquote_l1 (s_ : Str) : ((List UInt8) × Int) → Option (((List UInt8) × Int) ⊕ ((List UInt8) ⊕ (Str × Bool)))
  | (out_, i) => (if (decide (i < (IntKind.i64.wrap (((List.length s_ : Nat) : Int) - 1)))) then ((nth (α := UInt8) s_ i).bind fun c2 => (if (((c2).toNat : Int) != 92) then ((nth (α := UInt8) s_ i).bind fun c3 => ((app 1 out_ [c3]).bind fun l => some (.inl (l, (IntKind.i64.wrap (i + 1)))))) else ((subT s_ (IntKind.i64.wrap (i + 1)) (List.length s_ : Nat)).bind fun t => ((ref_escape t).bind fun r_ => (if (!r_.2.2) then some (.inr (.inr ((str []), false))) else ((app 1 out_ r_.1).bind fun l1 => some (.inl (l1, (IntKind.i64.wrap ((IntKind.i64.wrap (i + 1)) + r_.2.1)))))))))) else some (.inr (.inl out_)))
noncomputable def ref_Unquote_a1 (s_ : Str) : ((List UInt8) ⊕ (Str × Bool)) → Option (Str × Bool)
  | (.inl out_1) => ((ref_Quote (str out_1)).bind fun r_1 => (if (!eqS r_1 s_) then some ((str []), false) else some ((str out_1), true)))
  | (.inr (v, v1)) => some (v, v1)
noncomputable def ref_Unquote (s_ : Str) : Option (Str × Bool) :=
  ((if (decide (((List.length s_ : Nat) : Int) < 2)) then some true else ((nth (α := UInt8) s_ 0).bind fun c => some (((c).toNat : Int) != 34))).bind fun b => ((if b then some true else ((nth (α := UInt8) s_ (IntKind.i64.wrap (((List.length s_ : Nat) : Int) - 1))).bind fun c1 => some (((c1).toNat : Int) != 34))).bind fun b1 => (if b1 then some ((str []), false) else ((loop (ref_Unquote_l1 s_) ([], 1)).bind (ref_Unquote_a1 s_)))))
noncomputable def nanR (x : Rune) : Option (Bool) :=
  some ((x.v != x.v))
noncomputable def nanI (x : Int) : Option (Bool) :=
  some ((x != x))
noncomputable def nanS (x : Str) : Option (Bool) :=
  some ((!eqS x x))
noncomputable def cmpR (x : Rune) (y : Rune) : Option (Int) :=
  ((nanR x).bind fun r_ => ((nanR y).bind fun r_1 => (if r_ then (if r_1 then some (0) else some ((-1))) else (if r_1 then some (1) else (if (decide (x.v < y.v)) then some ((-1)) else (if (decide (x.v > y.v)) then some (1) else some (0)))))))
noncomputable def cmpI (x : Int) (y : Int) : Option (Int) :=
  ((nanI x).bind fun r_ => ((nanI y).bind fun r_1 => (if r_ then (if r_1 then some (0) else some ((-1))) else (if r_1 then some (1) else (if (decide (x < y)) then some ((-1)) else (if (decide (x > y)) then some (1) else some (0)))))))
noncomputable def cmpS (x : Str) (y : Str) : Option (Int) :=
  ((nanS x).bind fun r_ => ((nanS y).bind fun r_1 => (if r_ then (if r_1 then some (0) else some ((-1))) else (if r_1 then some (1) else (if (ltS x y) then some ((-1)) else (if (!(ltS x y || eqS x y)) then some (1) else some (0)))))))
noncomputable def orI_l1 (vals : (List Int)) : Int → Option (Int ⊕ (Unit ⊕ Int))
  | v => (if (decide (v < (vals.length : Int))) then ((nth vals v).bind fun v2 => (if (v2 != 0) then some (.inr (.inr v2)) else some (.inl (IntKind.i64.wrap (v + 1))))) else some (.inr (.inl ())))
noncomputable def orI_a1 : (Unit ⊕ Int) → Option (Int)
  | (.inl _) => some (0)
  | (.inr v1) => some (v1)
noncomputable def orI (vals : (List Int)) : Option (Int) :=
  ((loop (orI_l1 vals) 0).bind (orI_a1))
theorem ref_Texts_wf (a : (List Str)) (b : (List Str)) (r : Bool) (h : ref_Texts a b = some r) : MF Tryd.prog pn0 19 [enc a, enc b] s0 fun v _ => ris v r := by
  refine TF_run [(0, enc a), (1, enc b)] Tryd.func19 rfl (by simp only [Tryd.f19]; rfl) fun ψ => ?_
  unfold ref_Texts at h
  refine TC_seq ?_
  refine TC_reg ?_
  refine TO_as (v := (enc (false : Bool))) rfl ?_
  refine TO_nil ?_
  refine TC_seq ?_
  refine TC_seq ?_
  refine TC_reg ?_
  refine TO_mv (v := (enc (a : (List Str)))) rfl ?_
  refine TO_ln Tryd.underlying31 rfl rfl (Enc.self a) ?_
  refine TO_mv (v := (enc (b : (List Str)))) rfl ?_
  refine TO_ln Tryd.underlying31 rfl rfl (Enc.self b) ?_
  refine TO_bi (v := (enc (((a.length : Int) != (b.length : Int)) : Bool))) rfl rfl rfl ?_
  refine TO_nil ?_
  split at h
  · rename_i hcond
    refine TC_cond_t rfl hcond ?_
    refine TC_seq ?_
    refine TC_reg ?_
    refine TO_as (v := (enc (false : Bool))) rfl ?_
    refine TO_nil ?_
    refine TC_ret ?_
    rw [← Option.some.inj h]
    exact ⟨rfl, KE1 (a := (false : Bool)) rfl rfl (rfl : is _ (false : Bool)) (rfl : is _ (false : Bool))⟩
  · rename_i hcond
    refine TC_cond_f rfl hcond ?_
    refine TC_skip ?_
    refine TC_seq ?_
    refine TC_seq ?_
    refine TC_reg ?_
    refine TO_as (v := (enc (0 : Int))) rfl ?_
    refine TO_nil ?_
    refine TC_block ?_
    obtain ⟨o, hl, h⟩ := bs h
    refine TC_loop (fun (p : Int) φ s => match p with | i => Fx φ [(0, (enc (a : (List Str)))), (1, (enc (b : (List Str)))), (5, (enc (i : Int)))]) (fun (o : (Unit ⊕ Bool)) e φ s => match o with | (.inl _) => e = .exit 0 ∧ Fx φ [] | (.inr v) => e = .ret ∧ Fx φ [(4, (enc (v : Bool)))]) ?_ hl ⟨rfl, rfl, rfl, trivial⟩ ?_
    · rintro i o h φ s hF
      rw [← hF.eq]
      rw [ref_Texts_l1] at h
      refine TC_seq ?_
      refine TC_seq ?_
      refine TC_reg ?_
      refine TO_mv (v := (enc (i : Int))) rfl ?_
      refine TO_mv (v := (enc (a : (List Str)))) rfl ?_
      refine TO_ln Tryd.underlying31 rfl rfl (Enc.self a) ?_
      refine TO_bi (v := (enc ((decide (i < (a.length : Int))) : Bool))) rfl rfl rfl ?_
      refine TO_nil ?_
      split at h
      · rename_i hcond
        refine TC_cond_t rfl hcond ?_
        refine TC_skip ?_
        refine TC_seq ?_
        refine TC_block ?_
        refine TC_seq ?_
        refine TC_drawn (by decide +kernel) (by decide +kernel) ?_
        refine TO_mv (v := (enc (a : (List Str)))) rfl ?_
        refine TO_mv (v := (enc (i : Int))) rfl ?_
        obtain ⟨v1, hx, h⟩ := bs h
        refine TO_ix Tryd.underlying31 TTryd.sh9 rfl rfl (Enc.self a) hx fun p hp => ?_
        refine TO_ld rfl TTryd.ag9 rfl hp fun y hy => ?_
        cases hy
        refine TO_mv (v := (enc (b : (List Str)))) rfl ?_
        refine TO_mv (v := (enc (i : Int))) rfl ?_
        obtain ⟨v2, hx1, h⟩ := bs h
        refine TO_ix Tryd.underlying31 TTryd.sh9 rfl rfl (Enc.self b) hx1 fun p1 hp1 => ?_
        refine TO_ld rfl TTryd.ag9 rfl hp1 fun y1 hy1 => ?_
        cases hy1
        refine TO_bi (v := (enc ((!eqS v1 v2) : Bool))) rfl rfl rfl ?_
        refine TO_nil ?_
        split at h
        · rename_i hcond
          refine TC_cond_t rfl hcond ?_
          refine TC_seq ?_
          refine TC_reg ?_
          refine TO_as (v := (enc (false : Bool))) rfl ?_
          refine TO_nil ?_
          refine TC_ret ?_
          show if _ then _ else _
          rw [if_neg (by simp)]
          rw [← Option.some.inj h]
          exact ⟨_, rfl, rfl, ⟨rfl, trivial⟩⟩
        · rename_i hcond
          refine TC_cond_f rfl hcond ?_
          refine TC_skip ?_
          refine TC_reg ?_
          refine TO_mv (v := (enc (i : Int))) rfl ?_
          refine TO_bi (v := (enc ((IntKind.i64.wrap (i + 1)) : Int))) rfl rfl rfl ?_
          refine TO_as (v := (enc ((IntKind.i64.wrap (i + 1)) : Int))) rfl ?_
          refine TO_nil ?_
          rw [← Option.some.inj h]
          exact ⟨_, rfl, ⟨rfl, rfl, rfl, trivial⟩⟩
      · rename_i hcond
        refine TC_cond_f rfl hcond ?_
        refine TC_exit ?_
        rw [← Option.some.inj h]
        exact ⟨_, rfl, rfl, trivial⟩
    · intro e φ s hE
      rcases o with _u | v
      · obtain ⟨rfl, hF⟩ := hE
        rw [← hF.eq]
        rw [ref_Texts_a1] at h
        show if _ then _ else _
        rw [if_pos rfl]
        refine TC_seq ?_
        refine TC_reg ?_
        refine TO_as (v := (enc (true : Bool))) rfl ?_
        refine TO_nil ?_
        refine TC_ret ?_
        rw [← Option.some.inj h]
        exact ⟨rfl, KE1 (a := (true : Bool)) rfl rfl (rfl : is _ (true : Bool)) (rfl : is _ (true : Bool))⟩
      · obtain ⟨rfl, hF⟩ := hE
        rw [← hF.eq]
        rw [ref_Texts_a1] at h
        show if _ then _ else _
        rw [if_neg (by simp)]
        rw [← Option.some.inj h]
        exact ⟨rfl, KE1 (a := (v : Bool)) rfl rfl (rfl : is _ (v : Bool)) (rfl : is _ (v : Bool))⟩
theorem ref_Texts_pc : PureC Tryd.prog 19 (fun _ => Fn (fun a : (List Str) × (List Str) × Unit => ref_Texts a.1 a.2.1)) := fnC pn0_ok ⟨_, Tryd.func19, rfl⟩ <| fun a r h => ref_Texts_wf a.1 a.2.1 r h
noncomputable def pn1 : Prims := pn0.add 19 (Fn (fun a : (List Str) × (List Str) × Unit => ref_Texts a.1 a.2.1))
theorem pn1_ok : PrimsOk Tryd.prog pn1 := primsOk_add pn0_ok ref_Texts_pc
theorem name_Count_wf (s_ : Str) (r : Int) (h : name_Count s_ = some r) : MF Tryd.prog pn1 13 [enc s_] s0 fun v _ => ris v r := by
  refine TF_run [(0, enc s_)] Tryd.func13 rfl (by simp only [Tryd.f13]; rfl) fun ψ => ?_
  unfold name_Count at h
  refine TC_seq ?_
  refine TC_reg ?_
  refine TO_as (v := (enc (0 : Int))) rfl ?_
  refine TO_nil ?_
  refine TC_seq ?_
  refine TC_reg ?_
  refine TO_as (v := (enc (0 : Int))) rfl ?_
  refine TO_nil ?_
  refine TC_seq ?_
  refine TC_seq ?_
  refine TC_reg ?_
  refine TO_mv (v := (enc (s_ : Str))) rfl ?_
  refine TO_rg Tryd.underlying9 rfl Hp.nil fun m s hs => ?_
  refine TO_nil ?_
  refine TC_block ?_
  obtain ⟨n1, hl, h⟩ := bs h
  refine TC_loop (fun (p : (Int × Nat)) φ s => match p with | (n, v) => Fx φ [(3, (enc (n : Int))), (5, (.ptr m 0))] ∧ Hp s [(.it m s_ v)]) (fun (o : Int) e φ s => match o with | n1 => e = .exit 0 ∧ Fx φ [(3, (enc (n1 : Int)))]) ?_ hl ⟨⟨rfl, rfl, trivial⟩, hs⟩ ?_
  · rintro ⟨n, v⟩ o h φ s ⟨hF, hs⟩
    rw [← hF.eq]
    rw [name_Count_l1] at h
    refine TC_seq ?_
    refine TC_reg ?_
    split at h
    · rename_i cn
      refine TO_nx_t rfl hs cn fun s hs => ?_
      refine TO_ex rfl rfl ?_
      refine TO_nil ?_
      refine TC_seq ?_
      refine TC_cond_t rfl rfl ?_
      refine TC_skip ?_
      refine TC_block ?_
      refine TC_reg ?_
      refine TO_mv (v := (enc (n : Int))) rfl ?_
      refine TO_bi (v := (enc ((IntKind.i64.wrap (n + 1)) : Int))) rfl rfl rfl ?_
      refine TO_as (v := (enc ((IntKind.i64.wrap (n + 1)) : Int))) rfl ?_
      refine TO_nil ?_
      rw [← Option.some.inj h]
      exact ⟨_, rfl, ⟨⟨rfl, rfl, trivial⟩, hs⟩⟩
    · rename_i cn
      refine TO_nx_f rfl hs cn ?_
      refine TO_ex rfl rfl ?_
      refine TO_nil ?_
      refine TC_seq ?_
      refine TC_cond_f rfl Bool.false_ne_true ?_
      refine TC_exit ?_
      rw [← Option.some.inj h]
      exact ⟨_, rfl, rfl, ⟨rfl, trivial⟩⟩
  · intro e φ s hE
    obtain ⟨rfl, hF⟩ := hE
    rw [← hF.eq]
    rw [name_Count_a1] at h
    show if _ then _ else _
    rw [if_pos rfl]
    refine TC_seq ?_
    refine TC_reg ?_
    refine TO_mv (v := (enc (n1 : Int))) rfl ?_
    refine TO_as (v := (enc (n1 : Int))) rfl ?_
    refine TO_nil ?_
    refine TC_ret ?_
    rw [← Option.some.inj h]
    exact ⟨rfl, KE1 (a := (n1 : Int)) rfl rfl (rfl : is _ (n1 : Int)) (rfl : is _ (n1 : Int))⟩
theorem name_Count_pc : PureC Tryd.prog 13 (fun _ => Fn (fun a : Str × Unit => name_Count a.1)) := fnC pn1_ok ⟨_, Tryd.func13, rfl⟩ <| fun a r h => name_Count_wf a.1 r h
noncomputable def pn2 : Prims := pn1.add 13 (Fn (fun a : Str × Unit => name_Count a.1))
theorem pn2_ok : PrimsOk Tryd.prog pn2 := primsOk_add pn1_ok name_Count_pc
theorem ref_Rune_wf (s_ : Str) (r : Int × Int × Bool) (h : ref_Rune s_ = some r) : MF Tryd.prog pn2 38 [enc s_] s0 fun v _ => ris v r := by
  refine TF_run [(0, enc s_)] Tryd.func38 rfl (by simp only [Tryd.f38]; rfl) fun ψ => ?_
  unfold ref_Rune at h
  refine TC_seq ?_
  refine TC_reg ?_
  refine TO_as (v := (enc (0 : Int))) rfl ?_
  refine TO_as (v := (enc (0 : Int))) rfl ?_
  refine TO_as (v := (enc (false : Bool))) rfl ?_
  refine TO_nil ?_
  refine TC_seq ?_
  refine TC_reg ?_
  refine TO_mv (v := (enc (s_ : Str))) rfl ?_
  obtain ⟨c, hx, h⟩ := bs h
  refine TO_ixS Tryd.underlying9 rfl rfl hx ?_
  refine TO_cv Tryd.underlying5 Tryd.underlying3 rfl ?_
  rw [wrap_u8_i64]
  refine TO_as (v := (enc (((c).toNat : Int) : Int))) rfl ?_
  refine TO_nil ?_
  refine TC_seq ?_
  refine TC_reg ?_
  refine TO_as (v := (enc (0 : Int))) rfl ?_
  refine TO_as (v := (enc (0 : Int))) rfl ?_
  refine TO_as (v := (enc (0 : Int))) rfl ?_
  refine TO_nil ?_
  refine TC_cut (fun φ s => ∃ (n : Int) (x : Int) (least : Int), Fx φ [(0, (enc (s_ : Str))), (6, (enc (n : Int))), (7, (enc (x : Int))), (8, (enc (least : Int)))] ∧ ref_Rune_j1 s_ n x least = some r) ?_ ?_
  · refine TC_block ?_
    refine TC_seq ?_
    refine TC_reg ?_
    refine TO_mv (v := (enc (((c).toNat : Int) : Int))) rfl ?_
    refine TO_bi (v := (enc ((decide (((c).toNat : Int) < 128)) : Bool))) rfl rfl rfl ?_
    refine TO_as (v := (enc ((decide (((c).toNat : Int) < 128)) : Bool))) rfl ?_
    refine TO_nil ?_
    split at h
    · rename_i hcond
      refine TC_cond_t rfl hcond ?_
      refine TC_seq ?_
      refine TC_reg ?_
      refine TO_mv (v := (enc (((c).toNat : Int) : Int))) rfl ?_
      refine TO_as (v := (enc (((c).toNat : Int) : Int))) rfl ?_
      refine TO_as (v := (enc (1 : Int))) rfl ?_
      refine TO_as (v := (enc (true : Bool))) rfl ?_
      refine TO_nil ?_
      refine TC_ret ?_
      show if _ then _ else _
      rw [if_neg (by simp)]
      rw [← Option.some.inj h]
      exact ⟨rfl, KE3 (a1 := (((c).toNat : Int) : Int)) (a2 := (1 : Int)) (a3 := (true : Bool)) rfl rfl rfl rfl (rfl : is _ (((c).toNat : Int) : Int)) (rfl : is _ (1 : Int)) (rfl : is _ (true : Bool)) ⟨_, _, _, rfl, (rfl : is _ (((c).toNat : Int) : Int)), (rfl : is _ (1 : Int)), (rfl : is _ (true : Bool))⟩⟩
    · rename_i hcond
      refine TC_cond_f rfl hcond ?_
      refine TC_seq ?_
      refine TC_reg ?_
      refine TO_mv (v := (enc (((c).toNat : Int) : Int))) rfl ?_
      refine TO_bi (v := (enc ((decide (((c).toNat : Int) ≥ 194)) : Bool))) rfl rfl rfl ?_
      refine TO_mv (v := (enc ((decide (((c).toNat : Int) ≥ 194)) : Bool))) rfl ?_
      obtain ⟨b4, hb_b4, h⟩ := bs h
      refine TO_cut 3 (fun φ s => Fx φ [(0, (enc (s_ : Str))), (5, (enc (((c).toNat : Int) : Int))), (24, (enc (b4 : Bool)))]) ?_ ?_
      · split at hb_b4
        · rename_i cg8
          refine TO_on rfl rfl cg8 ?_
          refine TO_mv (v := (enc (((c).toNat : Int) : Int))) rfl ?_
          refine TO_on rfl rfl cg8 ?_
          refine TO_bi (v := (enc ((decide (((c).toNat : Int) < 224)) : Bool))) rfl rfl rfl ?_
          refine TO_pt (v := (enc ((decide (((c).toNat : Int) < 224)) : Bool))) rfl cg8 rfl ?_
          refine TO_nil ?_
          rw [← Option.some.inj hb_b4]
          exact ⟨rfl, rfl, rfl, trivial⟩
        · rename_i cg9
          refine TO_off rfl rfl cg9 ?_
          refine TO_off rfl rfl cg9 ?_
          refine TO_pf (v := (enc (false : Bool))) rfl cg9 rfl ?_
          refine TO_nil ?_
          rw [← Option.some.inj hb_b4]
          exact ⟨rfl, rfl, rfl, trivial⟩
      · rintro φ s hF
        rw [← hF.eq]
        refine TO_as (v := (enc (b4 : Bool))) rfl ?_
        refine TO_nil ?_
        split at h
        · rename_i hcond
          refine TC_cond_t rfl hcond ?_
          refine TC_reg ?_
          refine TO_mv (v := (enc (((c).toNat : Int) : Int))) rfl ?_
          refine TO_bi (v := (enc ((IntKind.i64.wrap (((c).toNat : Int) - 192)) : Int))) rfl rfl rfl ?_
          refine TO_as (v := (enc (2 : Int))) rfl ?_
          refine TO_as (v := (enc ((IntKind.i64.wrap (((c).toNat : Int) - 192)) : Int))) rfl ?_
          refine TO_as (v := (enc (128 : Int))) rfl ?_
          refine TO_nil ?_
          exact ⟨2, (IntKind.i64.wrap (((c).toNat : Int) - 192)), 128, ⟨rfl, rfl, rfl, rfl, trivial⟩, h⟩
        · rename_i hcond
          refine TC_cond_f rfl hcond ?_
          refine TC_seq ?_
          refine TC_reg ?_
          refine TO_mv (v := (enc (((c).toNat : Int) : Int))) rfl ?_
          refine TO_bi (v := (enc ((decide (((c).toNat : Int) ≥ 224)) : Bool))) rfl rfl rfl ?_
          refine TO_mv (v := (enc ((decide (((c).toNat : Int) ≥ 224)) : Bool))) rfl ?_
          obtain ⟨b5, hb_b5, h⟩ := bs h
          refine TO_cut 3 (fun φ s => Fx φ [(0, (enc (s_ : Str))), (5, (enc (((c).toNat : Int) : Int))), (33, (enc (b5 : Bool)))]) ?_ ?_
          · split at hb_b5
            · rename_i cg10
              refine TO_on rfl rfl cg10 ?_
              refine TO_mv (v := (enc (((c).toNat : Int) : Int))) rfl ?_
              refine TO_on rfl rfl cg10 ?_
              refine TO_bi (v := (enc ((decide (((c).toNat : Int) < 240)) : Bool))) rfl rfl rfl ?_
              refine TO_pt (v := (enc ((decide (((c).toNat : Int) < 240)) : Bool))) rfl cg10 rfl ?_
              refine TO_nil ?_
              rw [← Option.some.inj hb_b5]
              exact ⟨rfl, rfl, rfl, trivial⟩
            · rename_i cg11
              refine TO_off rfl rfl cg11 ?_
              refine TO_off rfl rfl cg11 ?_
              refine TO_pf (v := (enc (false : Bool))) rfl cg11 rfl ?_
              refine TO_nil ?_
              rw [← Option.some.inj hb_b5]
              exact ⟨rfl, rfl, rfl, trivial⟩
          · rintro φ s hF
            rw [← hF.eq]
            refine TO_as (v := (enc (b5 : Bool))) rfl ?_
            refine TO_nil ?_
            split at h
            · rename_i hcond
              refine TC_cond_t rfl hcond ?_
              refine TC_reg ?_
              refine TO_mv (v := (enc (((c).toNat : Int) : Int))) rfl ?_
              refine TO_bi (v := (enc ((IntKind.i64.wrap (((c).toNat : Int) - 224)) : Int))) rfl rfl rfl ?_
              refine TO_as (v := (enc (3 : Int))) rfl ?_
              refine TO_as (v := (enc ((IntKind.i64.wrap (((c).toNat : Int) - 224)) : Int))) rfl ?_
              refine TO_as (v := (enc (2048 : Int))) rfl ?_
              refine TO_nil ?_
              exact ⟨3, (IntKind.i64.wrap (((c).toNat : Int) - 224)), 2048, ⟨rfl, rfl, rfl, rfl, trivial⟩, h⟩
            · rename_i hcond
              refine TC_cond_f rfl hcond ?_
              refine TC_seq ?_
              refine TC_reg ?_
              refine TO_mv (v := (enc (((c).toNat : Int) : Int))) rfl ?_
              refine TO_bi (v := (enc ((decide (((c).toNat : Int) ≥ 240)) : Bool))) rfl rfl rfl ?_
              refine TO_mv (v := (enc ((decide (((c).toNat : Int) ≥ 240)) : Bool))) rfl ?_
              obtain ⟨b6, hb_b6, h⟩ := bs h
              refine TO_cut 3 (fun φ s => Fx φ [(0, (enc (s_ : Str))), (5, (enc (((c).toNat : Int) : Int))), (42, (enc (b6 : Bool)))]) ?_ ?_
              · split at hb_b6
                · rename_i cg12
                  refine TO_on rfl rfl cg12 ?_
                  refine TO_mv (v := (enc (((c).toNat : Int) : Int))) rfl ?_
                  refine TO_on rfl rfl cg12 ?_
                  refine TO_bi (v := (enc ((decide (((c).toNat : Int) < 245)) : Bool))) rfl rfl rfl ?_
                  refine TO_pt (v := (enc ((decide (((c).toNat : Int) < 245)) : Bool))) rfl cg12 rfl ?_
                  refine TO_nil ?_
                  rw [← Option.some.inj hb_b6]
                  exact ⟨rfl, rfl, rfl, trivial⟩
                · rename_i cg13
                  refine TO_off rfl rfl cg13 ?_
                  refine TO_off rfl rfl cg13 ?_
                  refine TO_pf (v := (enc (false : Bool))) rfl cg13 rfl ?_
                  refine TO_nil ?_
                  rw [← Option.some.inj hb_b6]
                  exact ⟨rfl, rfl, rfl, trivial⟩
              · rintro φ s hF
                rw [← hF.eq]
                refine TO_as (v := (enc (b6 : Bool))) rfl ?_
                refine TO_nil ?_
                split at h
                · rename_i hcond
                  refine TC_cond_t rfl hcond ?_
                  refine TC_reg ?_
                  refine TO_mv (v := (enc (((c).toNat : Int) : Int))) rfl ?_
                  refine TO_bi (v := (enc ((IntKind.i64.wrap (((c).toNat : Int) - 240)) : Int))) rfl rfl rfl ?_
                  refine TO_as (v := (enc (4 : Int))) rfl ?_
                  refine TO_as (v := (enc ((IntKind.i64.wrap (((c).toNat : Int) - 240)) : Int))) rfl ?_
                  refine TO_as (v := (enc (65536 : Int))) rfl ?_
                  refine TO_nil ?_
                  exact ⟨4, (IntKind.i64.wrap (((c).toNat : Int) - 240)), 65536, ⟨rfl, rfl, rfl, rfl, trivial⟩, h⟩
                · rename_i hcond
                  refine TC_cond_f rfl hcond ?_
                  refine TC_seq ?_
                  refine TC_reg ?_
                  refine TO_as (v := (enc (65533 : Int))) rfl ?_
                  refine TO_as (v := (enc (1 : Int))) rfl ?_
                  refine TO_as (v := (enc (false : Bool))) rfl ?_
                  refine TO_nil ?_
                  refine TC_ret ?_
                  show if _ then _ else _
                  rw [if_neg (by simp)]
                  rw [← Option.some.inj h]
                  exact ⟨rfl, KE3 (a1 := (65533 : Int)) (a2 := (1 : Int)) (a3 := (false : Bool)) rfl rfl rfl rfl (rfl : is _ (65533 : Int)) (rfl : is _ (1 : Int)) (rfl : is _ (false : Bool)) ⟨_, _, _, rfl, (rfl : is _ (65533 : Int)), (rfl : is _ (1 : Int)), (rfl : is _ (false : Bool))⟩⟩
  · rintro φ s ⟨n, x, least, hF, h⟩
    rw [← hF.eq]
    unfold ref_Rune_j1 at h
    refine TC_seq ?_
    refine TC_seq ?_
    refine TC_reg ?_
    refine TO_mv (v := (enc (s_ : Str))) rfl ?_
    refine TO_lnS Tryd.underlying9 rfl rfl ?_
    refine TO_mv (v := (enc (n : Int))) rfl ?_
    refine TO_bi (v := (enc ((decide (((List.length s_ : Nat) : Int) < n)) : Bool))) rfl rfl rfl ?_
    refine TO_nil ?_
    split at h
    · rename_i hcond
      refine TC_cond_t rfl hcond ?_
      refine TC_seq ?_
      refine TC_reg ?_
      refine TO_as (v := (enc (65533 : Int))) rfl ?_
      refine TO_as (v := (enc (1 : Int))) rfl ?_
      refine TO_as (v := (enc (false : Bool))) rfl ?_
      refine TO_nil ?_
      refine TC_ret ?_
      rw [← Option.some.inj h]
      exact ⟨rfl, KE3 (a1 := (65533 : Int)) (a2 := (1 : Int)) (a3 := (false : Bool)) rfl rfl rfl rfl (rfl : is _ (65533 : Int)) (rfl : is _ (1 : Int)) (rfl : is _ (false : Bool)) ⟨_, _, _, rfl, (rfl : is _ (65533 : Int)), (rfl : is _ (1 : Int)), (rfl : is _ (false : Bool))⟩⟩
    · rename_i hcond
      refine TC_cond_f rfl hcond ?_
      refine TC_skip ?_
      refine TC_seq ?_
      refine TC_seq ?_
      refine TC_reg ?_
      refine TO_as (v := (enc (1 : Int))) rfl ?_
      refine TO_nil ?_
      refine TC_block ?_
      obtain ⟨o, hl, h⟩ := bs h
      refine TC_loop (fun (p : (Int × Int)) φ s => match p with | (x1, i) => Fx φ [(0, (enc (s_ : Str))), (6, (enc (n : Int))), (7, (enc (x1 : Int))), (8, (enc (least : Int))), (9, (enc (i : Int)))]) (fun (o : (Int ⊕ (Int × Int × Bool))) e φ s => match o with | (.inl x2) => e = .exit 1 ∧ Fx φ [(6, (enc (n : Int))), (7, (enc (x2 : Int))), (8, (enc (least : Int)))] | (.inr (v, v1, v2)) => e = .ret ∧ Fx φ [(2, (enc (v : Int))), (3, (enc (v1 : Int))), (4, (enc (v2 : Bool)))]) ?_ hl ⟨rfl, rfl, rfl, rfl, rfl, trivial⟩ ?_
      · rintro ⟨x1, i⟩ o h φ s hF
        rw [← hF.eq]
        rw [ref_Rune_l2] at h
        refine TC_seq ?_
        refine TC_seq ?_
        refine TC_reg ?_
        refine TO_mv (v := (enc (i : Int))) rfl ?_
        refine TO_mv (v := (enc (n : Int))) rfl ?_
        refine TO_bi (v := (enc ((decide (i < n)) : Bool))) rfl rfl rfl ?_
        refine TO_nil ?_
        split at h
        · rename_i hcond
          refine TC_cond_t rfl hcond ?_
          refine TC_skip ?_
          refine TC_seq ?_
          refine TC_block ?_
          refine TC_seq ?_
          refine TC_reg ?_
          refine TO_mv (v := (enc (s_ : Str))) rfl ?_
          refine TO_mv (v := (enc (i : Int))) rfl ?_
          obtain ⟨c1, hx1, h⟩ := bs h
          refine TO_ixS Tryd.underlying9 rfl rfl hx1 ?_
          refine TO_cv Tryd.underlying5 Tryd.underlying3 rfl ?_
          rw [wrap_u8_i64]
          refine TO_as (v := (enc (((c1).toNat : Int) : Int))) rfl ?_
          refine TO_nil ?_
          refine TC_seq ?_
          refine TC_seq ?_
          refine TC_reg ?_
          refine TO_mv (v := (enc (((c1).toNat : Int) : Int))) rfl ?_
          refine TO_bi (v := (enc ((decide (((c1).toNat : Int) < 128)) : Bool))) rfl rfl rfl ?_
          refine TO_mv (v := (enc ((decide (((c1).toNat : Int) < 128)) : Bool))) rfl ?_
          obtain ⟨b, hb_b, h⟩ := bs h
          refine TO_cut 3 (fun φ s => Fx φ [(0, (enc (s_ : Str))), (6, (enc (n : Int))), (7, (enc (x1 : Int))), (8, (enc (least : Int))), (9, (enc (i : Int))), (10, (enc (((c1).toNat : Int) : Int))), (63, (enc (b : Bool)))]) ?_ ?_
          · split at hb_b
            · rename_i cg
              refine TO_off rfl rfl (by simpa using cg) ?_
              refine TO_off rfl rfl (by simpa using cg) ?_
              refine TO_pt (v := (enc (true : Bool))) rfl cg rfl ?_
              refine TO_nil ?_
              rw [← Option.some.inj hb_b]
              exact ⟨rfl, rfl, rfl, rfl, rfl, rfl, rfl, trivial⟩
            · rename_i cg1
              refine TO_on rfl rfl (by simpa using cg1) ?_
              refine TO_mv (v := (enc (((c1).toNat : Int) : Int))) rfl ?_
              refine TO_on rfl rfl (by simpa using cg1) ?_
              refine TO_bi (v := (enc ((decide (((c1).toNat : Int) ≥ 192)) : Bool))) rfl rfl rfl ?_
              refine TO_pf (v := (enc ((decide (((c1).toNat : Int) ≥ 192)) : Bool))) rfl cg1 rfl ?_
              refine TO_nil ?_
              rw [← Option.some.inj hb_b]
              exact ⟨rfl, rfl, rfl, rfl, rfl, rfl, rfl, trivial⟩
          · rintro φ s hF
            rw [← hF.eq]
            refine TO_nil ?_
            split at h
            · rename_i hcond
              refine TC_cond_t rfl hcond ?_
              refine TC_seq ?_
              refine TC_reg ?_
              refine TO_as (v := (enc (65533 : Int))) rfl ?_
              refine TO_as (v := (enc (1 : Int))) rfl ?_
              refine TO_as (v := (enc (false : Bool))) rfl ?_
              refine TO_nil ?_
              refine TC_ret ?_
              show if _ then _ else _
              rw [if_neg (by simp)]
              rw [← Option.some.inj h]
              exact ⟨_, rfl, rfl, ⟨rfl, rfl, rfl, trivial⟩⟩
            · rename_i hcond
              refine TC_cond_f rfl hcond ?_
              refine TC_skip ?_
              refine TC_reg ?_
              refine TO_mv (v := (enc (x1 : Int))) rfl ?_
              refine TO_bi (v := (enc ((IntKind.i64.wrap (x1 * 64)) : Int))) rfl rfl rfl ?_
              refine TO_mv (v := (enc (((c1).toNat : Int) : Int))) rfl ?_
              refine TO_bi (v := (enc ((IntKind.i64.wrap ((IntKind.i64.wrap (x1 * 64)) + ((c1).toNat : Int))) : Int))) rfl rfl rfl ?_
              refine TO_bi (v := (enc ((IntKind.i64.wrap ((IntKind.i64.wrap ((IntKind.i64.wrap (x1 * 64)) + ((c1).toNat : Int))) - 128)) : Int))) rfl rfl rfl ?_
              refine TO_as (v := (enc ((IntKind.i64.wrap ((IntKind.i64.wrap ((IntKind.i64.wrap (x1 * 64)) + ((c1).toNat : Int))) - 128)) : Int))) rfl ?_
              refine TO_nil ?_
              refine TC_reg ?_
              refine TO_mv (v := (enc (i : Int))) rfl ?_
              refine TO_bi (v := (enc ((IntKind.i64.wrap (i + 1)) : Int))) rfl rfl rfl ?_
              refine TO_as (v := (enc ((IntKind.i64.wrap (i + 1)) : Int))) rfl ?_
              refine TO_nil ?_
              rw [← Option.some.inj h]
              exact ⟨_, rfl, ⟨rfl, rfl, rfl, rfl, rfl, trivial⟩⟩
        · rename_i hcond
          refine TC_cond_f rfl hcond ?_
          refine TC_exit ?_
          rw [← Option.some.inj h]
          exact ⟨_, rfl, rfl, ⟨rfl, rfl, rfl, trivial⟩⟩
      · intro e φ s hE
        rcases o with x2 | ⟨v, v1, v2⟩
        · obtain ⟨rfl, hF⟩ := hE
          rw [← hF.eq]
          rw [ref_Rune_a2] at h
          show if _ then _ else _
          rw [if_pos rfl]
          refine TC_seq ?_
          refine TC_seq ?_
          refine TC_reg ?_
          refine TO_mv (v := (enc (x2 : Int))) rfl ?_
          refine TO_mv (v := (enc (least : Int))) rfl ?_
          refine TO_bi (v := (enc ((decide (x2 < least)) : Bool))) rfl rfl rfl ?_
          refine TO_mv (v := (enc ((decide (x2 < least)) : Bool))) rfl ?_
          obtain ⟨b1, hb_b1, h⟩ := bs h
          refine TO_cut 3 (fun φ s => Fx φ [(6, (enc (n : Int))), (7, (enc (x2 : Int))), (75, (enc (b1 : Bool)))]) ?_ ?_
          · split at hb_b1
            · rename_i cg2
              refine TO_off rfl rfl (by simpa using cg2) ?_
              refine TO_off rfl rfl (by simpa using cg2) ?_
              refine TO_pt (v := (enc (true : Bool))) rfl cg2 rfl ?_
              refine TO_nil ?_
              rw [← Option.some.inj hb_b1]
              exact ⟨rfl, rfl, rfl, trivial⟩
            · rename_i cg3
              refine TO_on rfl rfl (by simpa using cg3) ?_
              refine TO_mv (v := (enc (x2 : Int))) rfl ?_
              refine TO_on rfl rfl (by simpa using cg3) ?_
              refine TO_bi (v := (enc ((decide (x2 > 1114111)) : Bool))) rfl rfl rfl ?_
              refine TO_pf (v := (enc ((decide (x2 > 1114111)) : Bool))) rfl cg3 rfl ?_
              refine TO_nil ?_
              rw [← Option.some.inj hb_b1]
              exact ⟨rfl, rfl, rfl, trivial⟩
          · rintro φ s hF
            rw [← hF.eq]
            refine TO_mv (v := (enc (b1 : Bool))) rfl ?_
            obtain ⟨b2, hb_b2, h⟩ := bs h
            refine TO_cut 7 (fun φ s => Fx φ [(6, (enc (n : Int))), (7, (enc (x2 : Int))), (83, (enc (b2 : Bool)))]) ?_ ?_
            · split at hb_b2
              · rename_i cg4
                refine TO_off rfl rfl (by simpa using cg4) ?_
                refine TO_off rfl rfl (by simpa using cg4) ?_
                refine TO_off rfl rfl (by simpa using cg4) ?_
                refine TO_offU rfl rfl ?_
                refine TO_offU rfl rfl ?_
                refine TO_off rfl rfl (by simpa using cg4) ?_
                refine TO_pt (v := (enc (true : Bool))) rfl cg4 rfl ?_
                refine TO_nil ?_
                rw [← Option.some.inj hb_b2]
                exact ⟨rfl, rfl, rfl, trivial⟩
              · rename_i cg5
                refine TO_on rfl rfl (by simpa using cg5) ?_
                refine TO_mv (v := (enc (x2 : Int))) rfl ?_
                refine TO_on rfl rfl (by simpa using cg5) ?_
                refine TO_bi (v := (enc ((decide (x2 ≥ 55296)) : Bool))) rfl rfl rfl ?_
                refine TO_on rfl rfl (by simpa using cg5) ?_
                refine TO_mv (v := (enc ((decide (x2 ≥ 55296)) : Bool))) rfl ?_
                obtain ⟨b3, hb_b3, hb_b2⟩ := bs hb_b2
                refine TO_cut 3 (fun φ s => Fx φ [(6, (enc (n : Int))), (7, (enc (x2 : Int))), (76, (enc (b1 : Bool))), (82, (enc (b3 : Bool)))]) ?_ ?_
                · split at hb_b3
                  · rename_i cg6
                    refine TO_on rfl rfl cg6 ?_
                    refine TO_mv (v := (enc (x2 : Int))) rfl ?_
                    refine TO_on rfl rfl cg6 ?_
                    refine TO_bi (v := (enc ((decide (x2 < 57344)) : Bool))) rfl rfl rfl ?_
                    refine TO_on rfl rfl (by simpa using cg5) ?_
                    refine TO_pt (v := (enc ((decide (x2 < 57344)) : Bool))) rfl cg6 rfl ?_
                    refine TO_nil ?_
                    rw [← Option.some.inj hb_b3]
                    exact ⟨rfl, rfl, rfl, rfl, trivial⟩
                  · rename_i cg7
                    refine TO_off rfl rfl cg7 ?_
                    refine TO_off rfl rfl cg7 ?_
                    refine TO_on rfl rfl (by simpa using cg5) ?_
                    refine TO_pf (v := (enc (false : Bool))) rfl cg7 rfl ?_
                    refine TO_nil ?_
                    rw [← Option.some.inj hb_b3]
                    exact ⟨rfl, rfl, rfl, rfl, trivial⟩
                · rintro φ s hF
                  rw [← hF.eq]
                  refine TO_pf (v := (enc (b3 : Bool))) rfl cg5 rfl ?_
                  refine TO_nil ?_
                  rw [← Option.some.inj hb_b2]
                  exact ⟨rfl, rfl, rfl, trivial⟩
            · rintro φ s hF
              rw [← hF.eq]
              refine TO_nil ?_
              split at h
              · rename_i hcond
                refine TC_cond_t rfl hcond ?_
                refine TC_seq ?_
                refine TC_reg ?_
                refine TO_as (v := (enc (65533 : Int))) rfl ?_
                refine TO_as (v := (enc (1 : Int))) rfl ?_
                refine TO_as (v := (enc (false : Bool))) rfl ?_
                refine TO_nil ?_
                refine TC_ret ?_
                rw [← Option.some.inj h]
                exact ⟨rfl, KE3 (a1 := (65533 : Int)) (a2 := (1 : Int)) (a3 := (false : Bool)) rfl rfl rfl rfl (rfl : is _ (65533 : Int)) (rfl : is _ (1 : Int)) (rfl : is _ (false : Bool)) ⟨_, _, _, rfl, (rfl : is _ (65533 : Int)), (rfl : is _ (1 : Int)), (rfl : is _ (false : Bool))⟩⟩
              · rename_i hcond
                refine TC_cond_f rfl hcond ?_
                refine TC_skip ?_
                refine TC_seq ?_
                refine TC_reg ?_
                refine TO_mv (v := (enc (x2 : Int))) rfl ?_
                refine TO_mv (v := (enc (n : Int))) rfl ?_
                refine TO_as (v := (enc (x2 : Int))) rfl ?_
                refine TO_as (v := (enc (n : Int))) rfl ?_
                refine TO_as (v := (enc (true : Bool))) rfl ?_
                refine TO_nil ?_
                refine TC_ret ?_
                rw [← Option.some.inj h]
                exact ⟨rfl, KE3 (a1 := (x2 : Int)) (a2 := (n : Int)) (a3 := (true : Bool)) rfl rfl rfl rfl (rfl : is _ (x2 : Int)) (rfl : is _ (n : Int)) (rfl : is _ (true : Bool)) ⟨_, _, _, rfl, (rfl : is _ (x2 : Int)), (rfl : is _ (n : Int)), (rfl : is _ (true : Bool))⟩⟩
        · obtain ⟨rfl, hF⟩ := hE
          rw [← hF.eq]
          rw [ref_Rune_a2] at h
          show if _ then _ else _
          rw [if_neg (by simp)]
          rw [← Option.some.inj h]
          exact ⟨rfl, KE3 (a1 := (v : Int)) (a2 := (v1 : Int)) (a3 := (v2 : Bool)) rfl rfl rfl rfl (rfl : is _ (v : Int)) (rfl : is _ (v1 : Int)) (rfl : is _ (v2 : Bool)) ⟨_, _, _, rfl, (rfl : is _ (v : Int)), (rfl : is _ (v1 : Int)), (rfl : is _ (v2 : Bool))⟩⟩
theorem ref_Rune_pc : PureC Tryd.prog 38 (fun _ => Fn (fun a : Str × Unit => ref_Rune a.1)) := fnC pn2_ok ⟨_, Tryd.func38, rfl⟩ <| fun a r h => ref_Rune_wf a.1 r h
noncomputable def pn3 : Prims := pn2.add 38 (Fn (fun a : Str × Unit => ref_Rune a.1))
theorem pn3_ok : PrimsOk Tryd.prog pn3 := primsOk_add pn2_ok ref_Rune_pc
theorem ref_Check_wf (s_ : Str) (r : Int) (h : ref_Check s_ = some r) : MF Tryd.prog pn3 18 [enc s_] s0 fun v _ => ris v r := by
  refine TF_run [(0, enc s_)] Tryd.func18 rfl (by simp only [Tryd.f18]; rfl) fun ψ => ?_
  unfold ref_Check at h
  refine TC_seq ?_
  refine TC_reg ?_
  refine TO_as (v := (enc (0 : Int))) rfl ?_
  refine TO_nil ?_
  refine TC_seq ?_
  refine TC_seq ?_
  refine TC_reg ?_
  refine TO_mv (v := (enc (s_ : Str))) rfl ?_
  refine TO_bi (v := (enc ((eqS s_ (str [])) : Bool))) rfl rfl rfl ?_
  refine TO_nil ?_
  split at h
  · rename_i hcond
    refine TC_cond_t rfl hcond ?_
    refine TC_seq ?_
    refine TC_reg ?_
    refine TO_as (v := (enc (206 : Int))) rfl ?_
    refine TO_nil ?_
    refine TC_ret ?_
    rw [← Option.some.inj h]
    exact ⟨rfl, KE1 (a := (206 : Int)) rfl rfl (rfl : is _ (206 : Int)) (rfl : is _ (206 : Int))⟩
  · rename_i hcond
    refine TC_cond_f rfl hcond ?_
    refine TC_skip ?_
    refine TC_seq ?_
    refine TC_seq ?_
    refine TC_reg ?_
    refine TO_mv (v := (enc (s_ : Str))) rfl ?_
    refine TO_lnS Tryd.underlying9 rfl rfl ?_
    refine TO_bi (v := (enc ((decide (((List.length s_ : Nat) : Int) > 100)) : Bool))) rfl rfl rfl ?_
    refine TO_nil ?_
    split at h
    · rename_i hcond
      refine TC_cond_t rfl hcond ?_
      refine TC_seq ?_
      refine TC_reg ?_
      refine TO_as (v := (enc (208 : Int))) rfl ?_
      refine TO_nil ?_
      refine TC_ret ?_
      rw [← Option.some.inj h]
      exact ⟨rfl, KE1 (a := (208 : Int)) rfl rfl (rfl : is _ (208 : Int)) (rfl : is _ (208 : Int))⟩
    · rename_i hcond
      refine TC_cond_f rfl hcond ?_
      refine TC_skip ?_
      refine TC_seq ?_
      refine TC_seq ?_
      refine TC_reg ?_
      refine TO_mv (v := (enc (s_ : Str))) rfl ?_
      refine TO_bi (v := (enc ((eqS s_ (str [46])) : Bool))) rfl rfl rfl ?_
      refine TO_mv (v := (enc ((eqS s_ (str [46])) : Bool))) rfl ?_
      obtain ⟨b, hb_b, h⟩ := bs h
      refine TO_cut 3 (fun φ s => Fx φ [(0, (enc (s_ : Str))), (17, (enc (b : Bool)))]) ?_ ?_
      · split at hb_b
        · rename_i cg
          refine TO_off rfl rfl (by simpa using cg) ?_
          refine TO_off rfl rfl (by simpa using cg) ?_
          refine TO_pt (v := (enc (true : Bool))) rfl cg rfl ?_
          refine TO_nil ?_
          rw [← Option.some.inj hb_b]
          exact ⟨rfl, rfl, trivial⟩
        · rename_i cg1
          refine TO_on rfl rfl (by simpa using cg1) ?_
          refine TO_mv (v := (enc (s_ : Str))) rfl ?_
          refine TO_on rfl rfl (by simpa using cg1) ?_
          refine TO_bi (v := (enc ((eqS s_ (str [46, 46])) : Bool))) rfl rfl rfl ?_
          refine TO_pf (v := (enc ((eqS s_ (str [46, 46])) : Bool))) rfl cg1 rfl ?_
          refine TO_nil ?_
          rw [← Option.some.inj hb_b]
          exact ⟨rfl, rfl, trivial⟩
      · rintro φ s hF
        rw [← hF.eq]
        refine TO_nil ?_
        split at h
        · rename_i hcond
          refine TC_cond_t rfl hcond ?_
          refine TC_seq ?_
          refine TC_reg ?_
          refine TO_as (v := (enc (206 : Int))) rfl ?_
          refine TO_nil ?_
          refine TC_ret ?_
          rw [← Option.some.inj h]
          exact ⟨rfl, KE1 (a := (206 : Int)) rfl rfl (rfl : is _ (206 : Int)) (rfl : is _ (206 : Int))⟩
        · rename_i hcond
          refine TC_cond_f rfl hcond ?_
          refine TC_skip ?_
          refine TC_seq ?_
          refine TC_seq ?_
          refine TC_reg ?_
          refine TO_as (v := (enc (0 : Int))) rfl ?_
          refine TO_nil ?_
          refine TC_block ?_
          obtain ⟨o, hl, h⟩ := bs h
          refine TC_loop (fun (p : Int) φ s => match p with | i => Fx φ [(0, (enc (s_ : Str))), (3, (enc (i : Int)))]) (fun (o : (Unit ⊕ Int)) e φ s => match o with | (.inl _) => e = .exit 0 ∧ Fx φ [] | (.inr v) => e = .ret ∧ Fx φ [(2, (enc (v : Int)))]) ?_ hl ⟨rfl, rfl, trivial⟩ ?_
          · rintro i o h φ s hF
            rw [← hF.eq]
            rw [ref_Check_l1] at h
            refine TC_seq ?_
            refine TC_seq ?_
            refine TC_reg ?_
            refine TO_mv (v := (enc (i : Int))) rfl ?_
            refine TO_mv (v := (enc (s_ : Str))) rfl ?_
            refine TO_lnS Tryd.underlying9 rfl rfl ?_
            refine TO_bi (v := (enc ((decide (i < ((List.length s_ : Nat) : Int))) : Bool))) rfl rfl rfl ?_
            refine TO_nil ?_
            split at h
            · rename_i hcond
              refine TC_cond_t rfl hcond ?_
              refine TC_skip ?_
              refine TC_block ?_
              refine TC_seq ?_
              refine TC_reg ?_
              refine TO_mv (v := (enc (s_ : Str))) rfl ?_
              refine TO_mv (v := (enc (i : Int))) rfl ?_
              obtain ⟨t, hx, h⟩ := bs h
              refine TO_slS10 Tryd.underlying9 rfl rfl hx ?_
              obtain ⟨r_, hx1, h⟩ := bs h
              refine TO_fn (f := fun a : Str × Unit => ref_Rune a.1) (a := (t, ())) rfl Tryd.func38 rfl rfl (.cons (a := (t : Str)) (Enc.self _) .nil) hx1 ?_
              refine TO_mv (v := (res r_)) rfl ?_
              refine TO_ex rfl rfl ?_
              refine TO_ex rfl rfl ?_
              refine TO_ex rfl rfl ?_
              refine TO_as (v := (enc (r_.1 : Int))) rfl ?_
              refine TO_as (v := (enc (r_.2.1 : Int))) rfl ?_
              refine TO_as (v := (enc (r_.2.2 : Bool))) rfl ?_
              refine TO_nil ?_
              refine TC_seq ?_
              refine TC_seq ?_
              refine TC_reg ?_
              refine TO_mv (v := (enc (r_.2.2 : Bool))) rfl ?_
              refine TO_un (v := (enc ((!r_.2.2) : Bool))) rfl rfl ?_
              refine TO_mv (v := (enc ((!r_.2.2) : Bool))) rfl ?_
              obtain ⟨b1, hb_b1, h⟩ := bs h
              refine TO_cut 3 (fun φ s => Fx φ [(0, (enc (s_ : Str))), (3, (enc (i : Int))), (4, (enc (r_.1 : Int))), (5, (enc (r_.2.1 : Int))), (35, (enc (b1 : Bool)))]) ?_ ?_
              · split at hb_b1
                · rename_i cg2
                  refine TO_off rfl rfl (by simpa using cg2) ?_
                  refine TO_off rfl rfl (by simpa using cg2) ?_
                  refine TO_pt (v := (enc (true : Bool))) rfl cg2 rfl ?_
                  refine TO_nil ?_
                  rw [← Option.some.inj hb_b1]
                  exact ⟨rfl, rfl, rfl, rfl, rfl, trivial⟩
                · rename_i cg3
                  refine TO_on rfl rfl (by simpa using cg3) ?_
                  refine TO_mv (v := (enc (r_.1 : Int))) rfl ?_
                  refine TO_on rfl rfl (by simpa using cg3) ?_
                  refine TO_bi (v := (enc ((r_.1 == 47) : Bool))) rfl rfl rfl ?_
                  refine TO_pf (v := (enc ((r_.1 == 47) : Bool))) rfl cg3 rfl ?_
                  refine TO_nil ?_
                  rw [← Option.some.inj hb_b1]
                  exact ⟨rfl, rfl, rfl, rfl, rfl, trivial⟩
              · rintro φ s hF
                rw [← hF.eq]
                refine TO_mv (v := (enc (b1 : Bool))) rfl ?_
                obtain ⟨b2, hb_b2, h⟩ := bs h
                refine TO_cut 3 (fun φ s => Fx φ [(0, (enc (s_ : Str))), (3, (enc (i : Int))), (5, (enc (r_.2.1 : Int))), (39, (enc (b2 : Bool)))]) ?_ ?_
                · split at hb_b2
                  · rename_i cg4
                    refine TO_off rfl rfl (by simpa using cg4) ?_
                    refine TO_off rfl rfl (by simpa using cg4) ?_
                    refine TO_pt (v := (enc (true : Bool))) rfl cg4 rfl ?_
                    refine TO_nil ?_
                    rw [← Option.some.inj hb_b2]
                    exact ⟨rfl, rfl, rfl, rfl, trivial⟩
                  · rename_i cg5
                    refine TO_on rfl rfl (by simpa using cg5) ?_
                    refine TO_mv (v := (enc (r_.1 : Int))) rfl ?_
                    refine TO_on rfl rfl (by simpa using cg5) ?_
                    refine TO_bi (v := (enc ((r_.1 == 0) : Bool))) rfl rfl rfl ?_
                    refine TO_pf (v := (enc ((r_.1 == 0) : Bool))) rfl cg5 rfl ?_
                    refine TO_nil ?_
                    rw [← Option.some.inj hb_b2]
                    exact ⟨rfl, rfl, rfl, rfl, trivial⟩
                · rintro φ s hF
                  rw [← hF.eq]
                  refine TO_nil ?_
                  split at h
                  · rename_i hcond
                    refine TC_cond_t rfl hcond ?_
                    refine TC_seq ?_
                    refine TC_reg ?_
                    refine TO_as (v := (enc (206 : Int))) rfl ?_
                    refine TO_nil ?_
                    refine TC_ret ?_
                    show if _ then _ else _
                    rw [if_neg (by simp)]
                    rw [← Option.some.inj h]
                    exact ⟨_, rfl, rfl, ⟨rfl, trivial⟩⟩
                  · rename_i hcond
                    refine TC_cond_f rfl hcond ?_
                    refine TC_skip ?_
                    refine TC_reg ?_
                    refine TO_mv (v := (enc (i : Int))) rfl ?_
                    refine TO_mv (v := (enc (r_.2.1 : Int))) rfl ?_
                    refine TO_bi (v := (enc ((IntKind.i64.wrap (i + r_.2.1)) : Int))) rfl rfl rfl ?_
                    refine TO_as (v := (enc ((IntKind.i64.wrap (i + r_.2.1)) : Int))) rfl ?_
                    refine TO_nil ?_
                    rw [← Option.some.inj h]
                    exact ⟨_, rfl, ⟨rfl, rfl, trivial⟩⟩
            · rename_i hcond
              refine TC_cond_f rfl hcond ?_
              refine TC_exit ?_
              rw [← Option.some.inj h]
              exact ⟨_, rfl, rfl, trivial⟩
          · intro e φ s hE
            rcases o with _u | v
            · obtain ⟨rfl, hF⟩ := hE
              rw [← hF.eq]
              rw [ref_Check_a1] at h
              show if _ then _ else _
              rw [if_pos rfl]
              refine TC_seq ?_
              refine TC_reg ?_
              refine TO_as (v := (enc (0 : Int))) rfl ?_
              refine TO_nil ?_
              refine TC_ret ?_
              rw [← Option.some.inj h]
              exact ⟨rfl, KE1 (a := (0 : Int)) rfl rfl (rfl : is _ (0 : Int)) (rfl : is _ (0 : Int))⟩
            · obtain ⟨rfl, hF⟩ := hE
              rw [← hF.eq]
              rw [ref_Check_a1] at h
              show if _ then _ else _
              rw [if_neg (by simp)]
              rw [← Option.some.inj h]
              exact ⟨rfl, KE1 (a := (v : Int)) rfl rfl (rfl : is _ (v : Int)) (rfl : is _ (v : Int))⟩
theorem ref_Check_pc : PureC Tryd.prog 18 (fun _ => Fn (fun a : Str × Unit => ref_Check a.1)) := fnC pn3_ok ⟨_, Tryd.func18, rfl⟩ <| fun a r h => ref_Check_wf a.1 r h
noncomputable def pn4 : Prims := pn3.add 18 (Fn (fun a : Str × Unit => ref_Check a.1))
theorem pn4_ok : PrimsOk Tryd.prog pn4 := primsOk_add pn3_ok ref_Check_pc
theorem ref_Split_wf (s_ : Str) (r : (List Str) × Bool × Int) (h : ref_Split s_ = some r) : MF Tryd.prog pn4 17 [enc s_] s0 fun v _ => ris v r := by
  refine TF_run [(0, enc s_)] Tryd.func17 rfl (by simp only [Tryd.f17]; rfl) fun ψ => ?_
  unfold ref_Split at h
  refine TC_seq ?_
  refine TC_reg ?_
  refine TO_as (v := .nils) rfl ?_
  refine TO_as (v := (enc (false : Bool))) rfl ?_
  refine TO_as (v := (enc (0 : Int))) rfl ?_
  refine TO_nil ?_
  refine TC_seq ?_
  refine TC_seq ?_
  refine TC_reg ?_
  refine TO_mv (v := (enc (s_ : Str))) rfl ?_
  refine TO_bi (v := (enc ((eqS s_ (str [])) : Bool))) rfl rfl rfl ?_
  refine TO_nil ?_
  split at h
  · rename_i hcond
    refine TC_cond_t rfl hcond ?_
    refine TC_seq ?_
    refine TC_reg ?_
    refine TO_as (v := .nils) rfl ?_
    refine TO_as (v := (enc (false : Bool))) rfl ?_
    refine TO_as (v := (enc (206 : Int))) rfl ?_
    refine TO_nil ?_
    refine TC_ret ?_
    rw [← Option.some.inj h]
    exact ⟨rfl, KE3 (a1 := ([] : (List Str))) (a2 := (false : Bool)) (a3 := (206 : Int)) rfl rfl rfl rfl isL.nil (rfl : is _ (false : Bool)) (rfl : is _ (206 : Int)) ⟨_, _, _, rfl, isL.nil, (rfl : is _ (false : Bool)), (rfl : is _ (206 : Int))⟩⟩
  · rename_i hcond
    refine TC_cond_f rfl hcond ?_
    refine TC_skip ?_
    refine TC_seq ?_
    refine TC_seq ?_
    refine TC_reg ?_
    refine TO_mv (v := (enc (s_ : Str))) rfl ?_
    refine TO_lnS Tryd.underlying9 rfl rfl ?_
    refine TO_bi (v := (enc ((decide (((List.length s_ : Nat) : Int) > 1000)) : Bool))) rfl rfl rfl ?_
    refine TO_nil ?_
    split at h
    · rename_i hcond
      refine TC_cond_t rfl hcond ?_
      refine TC_seq ?_
      refine TC_reg ?_
      refine TO_as (v := .nils) rfl ?_
      refine TO_as (v := (enc (false : Bool))) rfl ?_
      refine TO_as (v := (enc (208 : Int))) rfl ?_
      refine TO_nil ?_
      refine TC_ret ?_
      rw [← Option.some.inj h]
      exact ⟨rfl, KE3 (a1 := ([] : (List Str))) (a2 := (false : Bool)) (a3 := (208 : Int)) rfl rfl rfl rfl isL.nil (rfl : is _ (false : Bool)) (rfl : is _ (208 : Int)) ⟨_, _, _, rfl, isL.nil, (rfl : is _ (false : Bool)), (rfl : is _ (208 : Int))⟩⟩
    · rename_i hcond
      refine TC_cond_f rfl hcond ?_
      refine TC_skip ?_
      refine TC_seq ?_
      refine TC_seq ?_
      refine TC_reg ?_
      refine TO_mv (v := (enc (s_ : Str))) rfl ?_
      obtain ⟨c, hx, h⟩ := bs h
      refine TO_ixS Tryd.underlying9 rfl rfl hx ?_
      refine TO_bi (v := (enc ((((c).toNat : Int) != 47) : Bool))) rfl rfl rfl ?_
      refine TO_nil ?_
      split at h
      · rename_i hcond
        refine TC_cond_t rfl hcond ?_
        refine TC_seq ?_
        refine TC_reg ?_
        refine TO_as (v := .nils) rfl ?_
        refine TO_as (v := (enc (false : Bool))) rfl ?_
        refine TO_as (v := (enc (206 : Int))) rfl ?_
        refine TO_nil ?_
        refine TC_ret ?_
        rw [← Option.some.inj h]
        exact ⟨rfl, KE3 (a1 := ([] : (List Str))) (a2 := (false : Bool)) (a3 := (206 : Int)) rfl rfl rfl rfl isL.nil (rfl : is _ (false : Bool)) (rfl : is _ (206 : Int)) ⟨_, _, _, rfl, isL.nil, (rfl : is _ (false : Bool)), (rfl : is _ (206 : Int))⟩⟩
      · rename_i hcond
        refine TC_cond_f rfl hcond ?_
        refine TC_skip ?_
        refine TC_seq ?_
        refine TC_reg ?_
        refine TO_as (v := .nils) rfl ?_
        refine TO_nil ?_
        refine TC_seq ?_
        refine TC_reg ?_
        refine TO_as (v := (enc ((str []) : Str))) rfl ?_
        refine TO_nil ?_
        refine TC_seq ?_
        refine TC_reg ?_
        refine TO_as (v := (enc (1 : Int))) rfl ?_
        refine TO_nil ?_
        refine TC_seq ?_
        refine TC_seq ?_
        refine TC_reg ?_
        refine TO_as (v := (enc (1 : Int))) rfl ?_
        refine TO_nil ?_
        refine TC_block ?_
        obtain ⟨o, hl, h⟩ := bs h
        refine TC_loop (fun (p : ((List Str) × Str × Int × Int)) φ s => match p with | (out_, last, from_, i) => ∃ (x_out_ : AV), is x_out_ out_ ∧ canOwn x_out_ = true ∧ Fx φ [(0, (enc (s_ : Str))), (5, x_out_), (6, (enc (last : Str))), (7, (enc (from_ : Int))), (8, (enc (i : Int)))] ∧ Hp s [.own x_out_]) (fun (o : (((List Str) × Str) ⊕ ((List Str) × Bool × Int))) e φ s => match o with | (.inl (out_1, last1)) => e = .exit 0 ∧ ∃ (x_out_1 : AV), is x_out_1 out_1 ∧ canOwn x_out_1 = true ∧ Fx φ [(5, x_out_1), (6, (enc (last1 : Str)))] ∧ Hp s [.own x_out_1] | (.inr (v, v1, v2)) => e = .ret ∧ ∃ (x_v : AV), is x_v v ∧ Fx φ [(2, x_v), (3, (enc (v1 : Bool))), (4, (enc (v2 : Int)))]) ?_ hl ⟨.nils, isL.nil, rfl, ⟨rfl, rfl, rfl, rfl, rfl, trivial⟩, (Hp.add Hp.nil rfl)⟩ ?_
        · rintro ⟨out_, last, from_, i⟩ o h φ s ⟨x_out_, h_out_, h_out_c, hF, hs⟩
          rw [← hF.eq]
          rw [ref_Split_l1] at h
          refine TC_seq ?_
          refine TC_seq ?_
          refine TC_reg ?_
          refine TO_mv (v := (enc (i : Int))) rfl ?_
          refine TO_mv (v := (enc (s_ : Str))) rfl ?_
          refine TO_lnS Tryd.underlying9 rfl rfl ?_
          refine TO_bi (v := (enc ((decide (i ≤ ((List.length s_ : Nat) : Int))) : Bool))) rfl rfl rfl ?_
          refine TO_nil ?_
          split at h
          · rename_i hcond
            refine TC_cond_t rfl hcond ?_
            refine TC_skip ?_
            refine TC_cut (fun φ s => ∃ (out_2 : (List Str)) (last2 : Str) (from_1 : Int) (x_out_2 : AV), is x_out_2 out_2 ∧ canOwn x_out_2 = true ∧ Fx φ [(0, (enc (s_ : Str))), (5, x_out_2), (6, (enc (last2 : Str))), (7, (enc (from_1 : Int))), (8, (enc (i : Int)))] ∧ Hp s [.own x_out_2] ∧ ref_Split_j2 i out_2 last2 from_1 = some o) ?_ ?_
            · refine TC_block ?_
              refine TC_seq ?_
              refine TC_seq ?_
              refine TC_reg ?_
              refine TO_mv (v := (enc (i : Int))) rfl ?_
              refine TO_mv (v := (enc (s_ : Str))) rfl ?_
              refine TO_lnS Tryd.underlying9 rfl rfl ?_
              refine TO_bi (v := (enc ((decide (i < ((List.length s_ : Nat) : Int))) : Bool))) rfl rfl rfl ?_
              refine TO_mv (v := (enc ((decide (i < ((List.length s_ : Nat) : Int))) : Bool))) rfl ?_
              obtain ⟨b, hb_b, h⟩ := bs h
              refine TO_cut 5 (fun φ s => Hp s [.own x_out_] ∧ Fx φ [(0, (enc (s_ : Str))), (5, x_out_), (6, (enc (last : Str))), (7, (enc (from_ : Int))), (8, (enc (i : Int))), (33, (enc (b : Bool)))]) ?_ ?_
              · split at hb_b
                · rename_i cg
                  refine TO_on rfl rfl cg ?_
                  refine TO_mv (v := (enc (s_ : Str))) rfl ?_
                  refine TO_on rfl rfl cg ?_
                  refine TO_mv (v := (enc (i : Int))) rfl ?_
                  refine TO_on rfl rfl cg ?_
                  obtain ⟨c1, hx1, hb_b⟩ := bs hb_b
                  refine TO_ixS Tryd.underlying9 rfl rfl hx1 ?_
                  refine TO_on rfl rfl cg ?_
                  refine TO_bi (v := (enc ((((c1).toNat : Int) != 47) : Bool))) rfl rfl rfl ?_
                  refine TO_pt (v := (enc ((((c1).toNat : Int) != 47) : Bool))) rfl cg rfl ?_
                  refine TO_nil ?_
                  rw [← Option.some.inj hb_b]
                  exact ⟨hs, ⟨rfl, rfl, rfl, rfl, rfl, rfl, trivial⟩⟩
                · rename_i cg1
                  refine TO_off rfl rfl cg1 ?_
                  refine TO_off rfl rfl cg1 ?_
                  refine TO_off rfl rfl cg1 ?_
                  refine TO_off rfl rfl cg1 ?_
                  refine TO_pf (v := (enc (false : Bool))) rfl cg1 rfl ?_
                  refine TO_nil ?_
                  rw [← Option.some.inj hb_b]
                  exact ⟨hs, ⟨rfl, rfl, rfl, rfl, rfl, rfl, trivial⟩⟩
              · rintro φ s ⟨hs, hF⟩
                rw [← hF.eq]
                refine TO_nil ?_
                split at h
                · rename_i hcond
                  refine TC_cond_t rfl hcond ?_
                  refine TC_exit ?_
                  show if _ then _ else _
                  rw [if_pos rfl]
                  exact ⟨out_, last, from_, x_out_, h_out_, h_out_c, ⟨rfl, rfl, rfl, rfl, rfl, trivial⟩, hs, h⟩
                · rename_i hcond
                  refine TC_cond_f rfl hcond ?_
                  refine TC_skip ?_
                  refine TC_seq ?_
                  refine TC_reg ?_
                  refine TO_mv (v := (enc (s_ : Str))) rfl ?_
                  refine TO_mv (v := (enc (from_ : Int))) rfl ?_
                  refine TO_mv (v := (enc (i : Int))) rfl ?_
                  obtain ⟨t, hx2, h⟩ := bs h
                  refine TO_slS11 Tryd.underlying9 rfl rfl rfl hx2 ?_
                  refine TO_as (v := (enc (t : Str))) rfl ?_
                  refine TO_nil ?_
                  refine TC_seq ?_
                  refine TC_reg ?_
                  refine TO_mv (v := (enc (i : Int))) rfl ?_
                  refine TO_bi (v := (enc ((IntKind.i64.wrap (i + 1)) : Int))) rfl rfl rfl ?_
                  refine TO_as (v := (enc ((IntKind.i64.wrap (i + 1)) : Int))) rfl ?_
                  refine TO_nil ?_
                  refine TC_seq ?_
                  refine TC_seq ?_
                  refine TC_reg ?_
                  refine TO_mv (v := (enc (t : Str))) rfl ?_
                  refine TO_bi (v := (enc ((eqS t (str [])) : Bool))) rfl rfl rfl ?_
                  refine TO_mv (v := (enc ((eqS t (str [])) : Bool))) rfl ?_
                  obtain ⟨b1, hb_b1, h⟩ := bs h
                  refine TO_cut 3 (fun φ s => Hp s [.own x_out_] ∧ Fx φ [(0, (enc (s_ : Str))), (5, x_out_), (6, (enc (t : Str))), (7, (enc ((IntKind.i64.wrap (i + 1)) : Int))), (8, (enc (i : Int))), (45, (enc (b1 : Bool)))]) ?_ ?_
                  · split at hb_b1
                    · rename_i cg2
                      refine TO_off rfl rfl (by simpa using cg2) ?_
                      refine TO_off rfl rfl (by simpa using cg2) ?_
                      refine TO_pt (v := (enc (true : Bool))) rfl cg2 rfl ?_
                      refine TO_nil ?_
                      rw [← Option.some.inj hb_b1]
                      exact ⟨hs, ⟨rfl, rfl, rfl, rfl, rfl, rfl, trivial⟩⟩
                    · rename_i cg3
                      refine TO_on rfl rfl (by simpa using cg3) ?_
                      refine TO_mv (v := (enc (t : Str))) rfl ?_
                      refine TO_on rfl rfl (by simpa using cg3) ?_
                      refine TO_bi (v := (enc ((eqS t (str [46])) : Bool))) rfl rfl rfl ?_
                      refine TO_pf (v := (enc ((eqS t (str [46])) : Bool))) rfl cg3 rfl ?_
                      refine TO_nil ?_
                      rw [← Option.some.inj hb_b1]
                      exact ⟨hs, ⟨rfl, rfl, rfl, rfl, rfl, rfl, trivial⟩⟩
                  · rintro φ s ⟨hs, hF⟩
                    rw [← hF.eq]
                    refine TO_nil ?_
                    split at h
                    · rename_i hcond
                      refine TC_cond_t rfl hcond ?_
                      refine TC_exit ?_
                      show if _ then _ else _
                      rw [if_pos rfl]
                      exact ⟨out_, t, (IntKind.i64.wrap (i + 1)), x_out_, h_out_, h_out_c, ⟨rfl, rfl, rfl, rfl, rfl, trivial⟩, hs, h⟩
                    · rename_i hcond
                      refine TC_cond_f rfl hcond ?_
                      refine TC_skip ?_
                      refine TC_cut (fun φ s => Fx φ [(0, (enc (s_ : Str))), (5, x_out_), (6, (enc (t : Str))), (7, (enc ((IntKind.i64.wrap (i + 1)) : Int))), (8, (enc (i : Int)))] ∧ Hp s [.own x_out_] ∧ ref_Split_j3 out_ t i = some o) ?_ ?_
                      · refine TC_seq ?_
                        refine TC_reg ?_
                        refine TO_mv (v := (enc (t : Str))) rfl ?_
                        refine TO_bi (v := (enc ((!eqS t (str [46, 46])) : Bool))) rfl rfl rfl ?_
                        refine TO_nil ?_
                        split at h
                        · rename_i hcond
                          refine TC_cond_t rfl hcond ?_
                          refine TC_seq ?_
                          refine TC_reg ?_
                          refine TO_mv (v := (enc (t : Str))) rfl ?_
                          obtain ⟨r_, hx4, h⟩ := bs h
                          refine TO_fn (f := fun a : Str × Unit => ref_Check a.1) (a := (t, ())) rfl Tryd.func18 rfl rfl (.cons (a := (t : Str)) (Enc.self _) .nil) hx4 ?_
                          refine TO_as (v := (enc (r_ : Int))) rfl ?_
                          refine TO_nil ?_
                          refine TC_seq ?_
                          refine TC_reg ?_
                          refine TO_mv (v := (enc (r_ : Int))) rfl ?_
                          refine TO_bi (v := (enc ((r_ != 0) : Bool))) rfl rfl rfl ?_
                          refine TO_nil ?_
                          split at h
                          · rename_i hcond
                            refine TC_cond_t rfl hcond ?_
                            refine TC_seq ?_
                            refine TC_reg ?_
                            refine TO_mv (v := (enc (r_ : Int))) rfl ?_
                            refine TO_as (v := .nils) rfl ?_
                            refine TO_as (v := (enc (false : Bool))) rfl ?_
                            refine TO_as (v := (enc (r_ : Int))) rfl ?_
                            refine TO_nil ?_
                            refine TC_ret ?_
                            show if _ then _ else _
                            rw [if_neg (by simp)]
                            rw [← Option.some.inj h]
                            exact ⟨_, rfl, rfl, ⟨.nils, isL.nil, ⟨rfl, rfl, rfl, trivial⟩⟩⟩
                          · rename_i hcond
                            refine TC_cond_f rfl hcond ?_
                            refine TC_skip ?_
                            exact ⟨⟨rfl, rfl, rfl, rfl, rfl, trivial⟩, hs, h⟩
                        · rename_i hcond
                          refine TC_cond_f rfl hcond ?_
                          refine TC_skip ?_
                          exact ⟨⟨rfl, rfl, rfl, rfl, rfl, trivial⟩, hs, h⟩
                      · rintro φ s ⟨hF, hs, h⟩
                        rw [← hF.eq]
                        unfold ref_Split_j3 at h
                        refine TC_reg ?_
                        refine TO_mv (v := x_out_) rfl ?_
                        refine TO_mv (v := (enc (t : Str))) rfl ?_
                        refine TO_bs [(enc (t : Str))] ([t] : (List Str)) Tryd.underlying31 TTryd.ef9 rfl rfl rfl (Nat.le_of_ble_eq_true rfl) ⟨(rfl : is _ (t : Str)), trivial⟩ fun z hz hzc hzn => ?_
                        obtain ⟨l, hx3, h⟩ := bs h
                        refine TO_ap [] (es2 := []) Tryd.underlying31 Tryd.underlying31 rfl rfl TTryd.ef9 rfl rfl h_out_ h_out_c hs hz hx3 fun z1 s hz1 hz1c hs => ?_
                        refine TO_as (v := z1) rfl ?_
                        refine TO_nil ?_
                        exact ⟨l, t, (IntKind.i64.wrap (i + 1)), z1, hz1, hz1c, ⟨rfl, rfl, rfl, rfl, rfl, trivial⟩, hs, h⟩
            · rintro φ s ⟨out_2, last2, from_1, x_out_2, h_out_2, h_out_2c, hF, hs, h⟩
              rw [← hF.eq]
              unfold ref_Split_j2 at h
              refine TC_reg ?_
              refine TO_mv (v := (enc (i : Int))) rfl ?_
              refine TO_bi (v := (enc ((IntKind.i64.wrap (i + 1)) : Int))) rfl rfl rfl ?_
              refine TO_as (v := (enc ((IntKind.i64.wrap (i + 1)) : Int))) rfl ?_
              refine TO_nil ?_
              rw [← Option.some.inj h]
              exact ⟨_, rfl, ⟨x_out_2, h_out_2, h_out_2c, ⟨rfl, rfl, rfl, rfl, rfl, trivial⟩, hs⟩⟩
          · rename_i hcond
            refine TC_cond_f rfl hcond ?_
            refine TC_exit ?_
            rw [← Option.some.inj h]
            exact ⟨_, rfl, rfl, ⟨x_out_, h_out_, h_out_c, ⟨rfl, rfl, trivial⟩, hs⟩⟩
        · intro e φ s hE
          rcases o with ⟨out_1, last1⟩ | ⟨v, v1, v2⟩
          · obtain ⟨rfl, x_out_1, h_out_1, h_out_1c, hF, hs⟩ := hE
            rw [← hF.eq]
            rw [ref_Split_a1] at h
            show if _ then _ else _
            rw [if_pos rfl]
            refine TC_seq ?_
            refine TC_reg ?_
            refine TO_mv (v := x_out_1) rfl ?_
            refine TO_mv (v := (enc (last1 : Str))) rfl ?_
            refine TO_bi (v := (enc ((eqS last1 (str [])) : Bool))) rfl rfl rfl ?_
            refine TO_mv (v := (enc ((eqS last1 (str [])) : Bool))) rfl ?_
            obtain ⟨b2, hb_b2, h⟩ := bs h
            refine TO_cut 3 (fun φ s => Hp s [.own x_out_1] ∧ Fx φ [(57, x_out_1), (63, (enc (b2 : Bool)))]) ?_ ?_
            · split at hb_b2
              · rename_i cg4
                refine TO_off rfl rfl (by simpa using cg4) ?_
                refine TO_off rfl rfl (by simpa using cg4) ?_
                refine TO_pt (v := (enc (true : Bool))) rfl cg4 rfl ?_
                refine TO_nil ?_
                rw [← Option.some.inj hb_b2]
                exact ⟨hs, ⟨rfl, rfl, trivial⟩⟩
              · rename_i cg5
                refine TO_on rfl rfl (by simpa using cg5) ?_
                refine TO_mv (v := (enc (last1 : Str))) rfl ?_
                refine TO_on rfl rfl (by simpa using cg5) ?_
                refine TO_bi (v := (enc ((eqS last1 (str [46])) : Bool))) rfl rfl rfl ?_
                refine TO_pf (v := (enc ((eqS last1 (str [46])) : Bool))) rfl cg5 rfl ?_
                refine TO_nil ?_
                rw [← Option.some.inj hb_b2]
                exact ⟨hs, ⟨rfl, rfl, trivial⟩⟩
            · rintro φ s ⟨hs, hF⟩
              rw [← hF.eq]
              refine TO_as (v := x_out_1) rfl ?_
              refine TO_as (v := (enc (b2 : Bool))) rfl ?_
              refine TO_as (v := (enc (0 : Int))) rfl ?_
              refine TO_nil ?_
              refine TC_ret ?_
              rw [← Option.some.inj h]
              exact ⟨rfl, KE3 (a1 := (out_1 : (List Str))) (a2 := (b2 : Bool)) (a3 := (0 : Int)) rfl rfl rfl rfl h_out_1 (rfl : is _ (b2 : Bool)) (rfl : is _ (0 : Int)) ⟨_, _, _, rfl, h_out_1, (rfl : is _ (b2 : Bool)), (rfl : is _ (0 : Int))⟩⟩
          · obtain ⟨rfl, x_v, h_v, hF⟩ := hE
            rw [← hF.eq]
            rw [ref_Split_a1] at h
            show if _ then _ else _
            rw [if_neg (by simp)]
            rw [← Option.some.inj h]
            exact ⟨rfl, KE3 (a1 := (v : (List Str))) (a2 := (v1 : Bool)) (a3 := (v2 : Int)) rfl rfl rfl rfl h_v (rfl : is _ (v1 : Bool)) (rfl : is _ (v2 : Int)) ⟨_, _, _, rfl, h_v, (rfl : is _ (v1 : Bool)), (rfl : is _ (v2 : Int))⟩⟩
theorem ref_Split_pc : PureC Tryd.prog 17 (fun _ => Fn (fun a : Str × Unit => ref_Split a.1)) := fnC pn4_ok ⟨_, Tryd.func17, rfl⟩ <| fun a r h => ref_Split_wf a.1 r h
noncomputable def pn5 : Prims := pn4.add 17 (Fn (fun a : Str × Unit => ref_Split a.1))
theorem pn5_ok : PrimsOk Tryd.prog pn5 := primsOk_add pn4_ok ref_Split_pc
theorem ref_Count_wf (s_ : Str) (r : Int) (h : ref_Count s_ = some r) : MF Tryd.prog pn5 20 [enc s_] s0 fun v _ => ris v r := by
  refine TF_run [(0, enc s_)] Tryd.func20 rfl (by simp only [Tryd.f20]; rfl) fun ψ => ?_
  unfold ref_Count at h
  refine TC_seq ?_
  refine TC_reg ?_
  refine TO_as (v := (enc (0 : Int))) rfl ?_
  refine TO_nil ?_
  refine TC_seq ?_
  refine TC_reg ?_
  refine TO_as (v := (enc (0 : Int))) rfl ?_
  refine TO_nil ?_
  refine TC_seq ?_
  refine TC_seq ?_
  refine TC_reg ?_
  refine TO_as (v := (enc (0 : Int))) rfl ?_
  refine TO_nil ?_
  refine TC_block ?_
  obtain ⟨n1, hl, h⟩ := bs h
  refine TC_loop (fun (p : (Int × Int)) φ s => match p with | (n, i) => Fx φ [(0, (enc (s_ : Str))), (3, (enc (n : Int))), (4, (enc (i : Int)))]) (fun (o : Int) e φ s => match o with | n1 => e = .exit 0 ∧ Fx φ [(3, (enc (n1 : Int)))]) ?_ hl ⟨rfl, rfl, rfl, trivial⟩ ?_
  · rintro ⟨n, i⟩ o h φ s hF
    rw [← hF.eq]
    rw [ref_Count_l1] at h
    refine TC_seq ?_
    refine TC_seq ?_
    refine TC_reg ?_
    refine TO_mv (v := (enc (i : Int))) rfl ?_
    refine TO_mv (v := (enc (s_ : Str))) rfl ?_
    refine TO_lnS Tryd.underlying9 rfl rfl ?_
    refine TO_bi (v := (enc ((decide (i < ((List.length s_ : Nat) : Int))) : Bool))) rfl rfl rfl ?_
    refine TO_nil ?_
    split at h
    · rename_i hcond
      refine TC_cond_t rfl hcond ?_
      refine TC_skip ?_
      refine TC_block ?_
      refine TC_seq ?_
      refine TC_reg ?_
      refine TO_mv (v := (enc (s_ : Str))) rfl ?_
      refine TO_mv (v := (enc (i : Int))) rfl ?_
      obtain ⟨t, hx, h⟩ := bs h
      refine TO_slS10 Tryd.underlying9 rfl rfl hx ?_
      obtain ⟨r_, hx1, h⟩ := bs h
      refine TO_fn (f := fun a : Str × Unit => ref_Rune a.1) (a := (t, ())) rfl Tryd.func38 rfl rfl (.cons (a := (t : Str)) (Enc.self _) .nil) hx1 ?_
      refine TO_mv (v := (res r_)) rfl ?_
      refine TO_ex rfl rfl ?_
      refine TO_ex rfl rfl ?_
      refine TO_ex rfl rfl ?_
      refine TO_as (v := (enc (r_.1 : Int))) rfl ?_
      refine TO_as (v := (enc (r_.2.1 : Int))) rfl ?_
      refine TO_as (v := (enc (r_.2.2 : Bool))) rfl ?_
      refine TO_nil ?_
      refine TC_seq ?_
      refine TC_reg ?_
      refine TO_mv (v := (enc (n : Int))) rfl ?_
      refine TO_bi (v := (enc ((IntKind.i64.wrap (n + 1)) : Int))) rfl rfl rfl ?_
      refine TO_as (v := (enc ((IntKind.i64.wrap (n + 1)) : Int))) rfl ?_
      refine TO_nil ?_
      refine TC_reg ?_
      refine TO_mv (v := (enc (i : Int))) rfl ?_
      refine TO_mv (v := (enc (r_.2.1 : Int))) rfl ?_
      refine TO_bi (v := (enc ((IntKind.i64.wrap (i + r_.2.1)) : Int))) rfl rfl rfl ?_
      refine TO_as (v := (enc ((IntKind.i64.wrap (i + r_.2.1)) : Int))) rfl ?_
      refine TO_nil ?_
      rw [← Option.some.inj h]
      exact ⟨_, rfl, ⟨rfl, rfl, rfl, trivial⟩⟩
    · rename_i hcond
      refine TC_cond_f rfl hcond ?_
      refine TC_exit ?_
      rw [← Option.some.inj h]
      exact ⟨_, rfl, rfl, ⟨rfl, trivial⟩⟩
  · intro e φ s hE
    obtain ⟨rfl, hF⟩ := hE
    rw [← hF.eq]
    rw [ref_Count_a1] at h
    show if _ then _ else _
    rw [if_pos rfl]
    refine TC_seq ?_
    refine TC_reg ?_
    refine TO_mv (v := (enc (n1 : Int))) rfl ?_
    refine TO_as (v := (enc (n1 : Int))) rfl ?_
    refine TO_nil ?_
    refine TC_ret ?_
    rw [← Option.some.inj h]
    exact ⟨rfl, KE1 (a := (n1 : Int)) rfl rfl (rfl : is _ (n1 : Int)) (rfl : is _ (n1 : Int))⟩
theorem ref_Count_pc : PureC Tryd.prog 20 (fun _ => Fn (fun a : Str × Unit => ref_Count a.1)) := fnC pn5_ok ⟨_, Tryd.func20, rfl⟩ <| fun a r h => ref_Count_wf a.1 r h
noncomputable def pn6 : Prims := pn5.add 20 (Fn (fun a : Str × Unit => ref_Count a.1))
theorem pn6_ok : PrimsOk Tryd.prog pn6 := primsOk_add pn5_ok ref_Count_pc
theorem ref_Order_wf (a : Str) (b : Str) (r : Int) (h : ref_Order a b = some r) : MF Tryd.prog pn6 22 [enc a, enc b] s0 fun v _ => ris v r := by
  refine TF_run [(0, enc a), (1, enc b)] Tryd.func22 rfl (by simp only [Tryd.f22]; rfl) fun ψ => ?_
  unfold ref_Order at h
  refine TC_seq ?_
  refine TC_reg ?_
  refine TO_as (v := (enc (0 : Int))) rfl ?_
  refine TO_nil ?_
  refine TC_seq ?_
  refine TC_reg ?_
  refine TO_as (v := (enc (0 : Int))) rfl ?_
  refine TO_as (v := (enc (0 : Int))) rfl ?_
  refine TO_nil ?_
  refine TC_seq ?_
  refine TC_block ?_
  obtain ⟨o, hl, h⟩ := bs h
  refine TC_loop (fun (p : (Int × Int)) φ s => match p with | (i, k) => Fx φ [(0, (enc (a : Str))), (1, (enc (b : Str))), (5, (enc (i : Int))), (6, (enc (k : Int)))]) (fun (o : ((Int × Int) ⊕ Int)) e φ s => match o with | (.inl (i1, k1)) => e = .exit 0 ∧ Fx φ [(0, (enc (a : Str))), (1, (enc (b : Str))), (5, (enc (i1 : Int))), (6, (enc (k1 : Int)))] | (.inr v) => e = .ret ∧ Fx φ [(4, (enc (v : Int)))]) ?_ hl ⟨rfl, rfl, rfl, rfl, trivial⟩ ?_
  · rintro ⟨i, k⟩ o h φ s hF
    rw [← hF.eq]
    rw [ref_Order_l1] at h
    refine TC_seq ?_
    refine TC_seq ?_
    refine TC_reg ?_
    refine TO_mv (v := (enc (i : Int))) rfl ?_
    refine TO_mv (v := (enc (a : Str))) rfl ?_
    refine TO_lnS Tryd.underlying9 rfl rfl ?_
    refine TO_bi (v := (enc ((decide (i < ((List.length a : Nat) : Int))) : Bool))) rfl rfl rfl ?_
    refine TO_mv (v := (enc ((decide (i < ((List.length a : Nat) : Int))) : Bool))) rfl ?_
    obtain ⟨b1, hb_b1, h⟩ := bs h
    refine TO_cut 5 (fun φ s => Fx φ [(0, (enc (a : Str))), (1, (enc (b : Str))), (5, (enc (i : Int))), (6, (enc (k : Int))), (22, (enc (b1 : Bool)))]) ?_ ?_
    · split at hb_b1
      · rename_i cg
        refine TO_on rfl rfl cg ?_
        refine TO_mv (v := (enc (k : Int))) rfl ?_
        refine TO_on rfl rfl cg ?_
        refine TO_mv (v := (enc (b : Str))) rfl ?_
        refine TO_on rfl rfl cg ?_
        refine TO_lnS Tryd.underlying9 rfl rfl ?_
        refine TO_on rfl rfl cg ?_
        refine TO_bi (v := (enc ((decide (k < ((List.length b : Nat) : Int))) : Bool))) rfl rfl rfl ?_
        refine TO_pt (v := (enc ((decide (k < ((List.length b : Nat) : Int))) : Bool))) rfl cg rfl ?_
        refine TO_nil ?_
        rw [← Option.some.inj hb_b1]
        exact ⟨rfl, rfl, rfl, rfl, rfl, trivial⟩
      · rename_i cg1
        refine TO_off rfl rfl cg1 ?_
        refine TO_off rfl rfl cg1 ?_
        refine TO_off rfl rfl cg1 ?_
        refine TO_off rfl rfl cg1 ?_
        refine TO_pf (v := (enc (false : Bool))) rfl cg1 rfl ?_
        refine TO_nil ?_
        rw [← Option.some.inj hb_b1]
        exact ⟨rfl, rfl, rfl, rfl, rfl, trivial⟩
    · rintro φ s hF
      rw [← hF.eq]
      refine TO_nil ?_
      split at h
      · rename_i hcond
        refine TC_cond_t rfl hcond ?_
        refine TC_skip ?_
        refine TC_block ?_
        refine TC_seq ?_
        refine TC_reg ?_
        refine TO_mv (v := (enc (a : Str))) rfl ?_
        refine TO_mv (v := (enc (i : Int))) rfl ?_
        obtain ⟨t, hx, h⟩ := bs h
        refine TO_slS10 Tryd.underlying9 rfl rfl hx ?_
        obtain ⟨r_, hx1, h⟩ := bs h
        refine TO_fn (f := fun a : Str × Unit => ref_Rune a.1) (a := (t, ())) rfl Tryd.func38 rfl rfl (.cons (a := (t : Str)) (Enc.self _) .nil) hx1 ?_
        refine TO_mv (v := (res r_)) rfl ?_
        refine TO_ex rfl rfl ?_
        refine TO_ex rfl rfl ?_
        refine TO_ex rfl rfl ?_
        refine TO_as (v := (enc (r_.1 : Int))) rfl ?_
        refine TO_as (v := (enc (r_.2.1 : Int))) rfl ?_
        refine TO_as (v := (enc (r_.2.2 : Bool))) rfl ?_
        refine TO_nil ?_
        refine TC_seq ?_
        refine TC_reg ?_
        refine TO_mv (v := (enc (b : Str))) rfl ?_
        refine TO_mv (v := (enc (k : Int))) rfl ?_
        obtain ⟨t1, hx2, h⟩ := bs h
        refine TO_slS10 Tryd.underlying9 rfl rfl hx2 ?_
        obtain ⟨r_1, hx3, h⟩ := bs h
        refine TO_fn (f := fun a : Str × Unit => ref_Rune a.1) (a := (t1, ())) rfl Tryd.func38 rfl rfl (.cons (a := (t1 : Str)) (Enc.self _) .nil) hx3 ?_
        refine TO_mv (v := (res r_1)) rfl ?_
        refine TO_ex rfl rfl ?_
        refine TO_ex rfl rfl ?_
        refine TO_ex rfl rfl ?_
        refine TO_as (v := (enc (r_1.1 : Int))) rfl ?_
        refine TO_as (v := (enc (r_1.2.1 : Int))) rfl ?_
        refine TO_as (v := (enc (r_1.2.2 : Bool))) rfl ?_
        refine TO_nil ?_
        refine TC_seq ?_
        refine TC_seq ?_
        refine TC_reg ?_
        refine TO_mv (v := (enc (r_.1 : Int))) rfl ?_
        refine TO_mv (v := (enc (r_1.1 : Int))) rfl ?_
        refine TO_bi (v := (enc ((decide (r_.1 < r_1.1)) : Bool))) rfl rfl rfl ?_
        refine TO_nil ?_
        split at h
        · rename_i hcond
          refine TC_cond_t rfl hcond ?_
          refine TC_seq ?_
          refine TC_reg ?_
          refine TO_as (v := (enc ((-1) : Int))) rfl ?_
          refine TO_nil ?_
          refine TC_ret ?_
          show if _ then _ else _
          rw [if_neg (by simp)]
          rw [← Option.some.inj h]
          exact ⟨_, rfl, rfl, ⟨rfl, trivial⟩⟩
        · rename_i hcond
          refine TC_cond_f rfl hcond ?_
          refine TC_skip ?_
          refine TC_seq ?_
          refine TC_seq ?_
          refine TC_reg ?_
          refine TO_mv (v := (enc (r_.1 : Int))) rfl ?_
          refine TO_mv (v := (enc (r_1.1 : Int))) rfl ?_
          refine TO_bi (v := (enc ((decide (r_.1 > r_1.1)) : Bool))) rfl rfl rfl ?_
          refine TO_nil ?_
          split at h
          · rename_i hcond
            refine TC_cond_t rfl hcond ?_
            refine TC_seq ?_
            refine TC_reg ?_
            refine TO_as (v := (enc (1 : Int))) rfl ?_
            refine TO_nil ?_
            refine TC_ret ?_
            show if _ then _ else _
            rw [if_neg (by simp)]
            rw [← Option.some.inj h]
            exact ⟨_, rfl, rfl, ⟨rfl, trivial⟩⟩
          · rename_i hcond
            refine TC_cond_f rfl hcond ?_
            refine TC_skip ?_
            refine TC_seq ?_
            refine TC_reg ?_
            refine TO_mv (v := (enc (i : Int))) rfl ?_
            refine TO_mv (v := (enc (r_.2.1 : Int))) rfl ?_
            refine TO_bi (v := (enc ((IntKind.i64.wrap (i + r_.2.1)) : Int))) rfl rfl rfl ?_
            refine TO_as (v := (enc ((IntKind.i64.wrap (i + r_.2.1)) : Int))) rfl ?_
            refine TO_nil ?_
            refine TC_reg ?_
            refine TO_mv (v := (enc (k : Int))) rfl ?_
            refine TO_mv (v := (enc (r_1.2.1 : Int))) rfl ?_
            refine TO_bi (v := (enc ((IntKind.i64.wrap (k + r_1.2.1)) : Int))) rfl rfl rfl ?_
            refine TO_as (v := (enc ((IntKind.i64.wrap (k + r_1.2.1)) : Int))) rfl ?_
            refine TO_nil ?_
            rw [← Option.some.inj h]
            exact ⟨_, rfl, ⟨rfl, rfl, rfl, rfl, trivial⟩⟩
      · rename_i hcond
        refine TC_cond_f rfl hcond ?_
        refine TC_exit ?_
        rw [← Option.some.inj h]
        exact ⟨_, rfl, rfl, ⟨rfl, rfl, rfl, rfl, trivial⟩⟩
  · intro e φ s hE
    rcases o with ⟨i1, k1⟩ | v
    · obtain ⟨rfl, hF⟩ := hE
      rw [← hF.eq]
      rw [ref_Order_a1] at h
      show if _ then _ else _
      rw [if_pos rfl]
      refine TC_seq ?_
      refine TC_block ?_
      refine TC_seq ?_
      refine TC_reg ?_
      refine TO_mv (v := (enc (k1 : Int))) rfl ?_
      refine TO_mv (v := (enc (b : Str))) rfl ?_
      refine TO_lnS Tryd.underlying9 rfl rfl ?_
      refine TO_bi (v := (enc ((decide (k1 < ((List.length b : Nat) : Int))) : Bool))) rfl rfl rfl ?_
      refine TO_as (v := (enc ((decide (k1 < ((List.length b : Nat) : Int))) : Bool))) rfl ?_
      refine TO_nil ?_
      split at h
      · rename_i hcond
        refine TC_cond_t rfl hcond ?_
        refine TC_seq ?_
        refine TC_reg ?_
        refine TO_as (v := (enc ((-1) : Int))) rfl ?_
        refine TO_nil ?_
        refine TC_ret ?_
        show if _ then _ else _
        rw [if_neg (by simp)]
        rw [← Option.some.inj h]
        exact ⟨rfl, KE1 (a := ((-1) : Int)) rfl rfl (rfl : is _ ((-1) : Int)) (rfl : is _ ((-1) : Int))⟩
      · rename_i hcond
        refine TC_cond_f rfl hcond ?_
        refine TC_seq ?_
        refine TC_reg ?_
        refine TO_mv (v := (enc (i1 : Int))) rfl ?_
        refine TO_mv (v := (enc (a : Str))) rfl ?_
        refine TO_lnS Tryd.underlying9 rfl rfl ?_
        refine TO_bi (v := (enc ((decide (i1 < ((List.length a : Nat) : Int))) : Bool))) rfl rfl rfl ?_
        refine TO_as (v := (enc ((decide (i1 < ((List.length a : Nat) : Int))) : Bool))) rfl ?_
        refine TO_nil ?_
        split at h
        · rename_i hcond
          refine TC_cond_t rfl hcond ?_
          refine TC_seq ?_
          refine TC_reg ?_
          refine TO_as (v := (enc (1 : Int))) rfl ?_
          refine TO_nil ?_
          refine TC_ret ?_
          show if _ then _ else _
          rw [if_neg (by simp)]
          rw [← Option.some.inj h]
          exact ⟨rfl, KE1 (a := (1 : Int)) rfl rfl (rfl : is _ (1 : Int)) (rfl : is _ (1 : Int))⟩
        · rename_i hcond
          refine TC_cond_f rfl hcond ?_
          refine TC_seq ?_
          refine TC_reg ?_
          refine TO_mv (v := (enc (a : Str))) rfl ?_
          refine TO_mv (v := (enc (b : Str))) rfl ?_
          refine TO_bi (v := (enc ((ltS a b) : Bool))) rfl rfl rfl ?_
          refine TO_as (v := (enc ((ltS a b) : Bool))) rfl ?_
          refine TO_nil ?_
          split at h
          · rename_i hcond
            refine TC_cond_t rfl hcond ?_
            refine TC_seq ?_
            refine TC_reg ?_
            refine TO_as (v := (enc ((-1) : Int))) rfl ?_
            refine TO_nil ?_
            refine TC_ret ?_
            show if _ then _ else _
            rw [if_neg (by simp)]
            rw [← Option.some.inj h]
            exact ⟨rfl, KE1 (a := ((-1) : Int)) rfl rfl (rfl : is _ ((-1) : Int)) (rfl : is _ ((-1) : Int))⟩
          · rename_i hcond
            refine TC_cond_f rfl hcond ?_
            refine TC_seq ?_
            refine TC_reg ?_
            refine TO_mv (v := (enc (a : Str))) rfl ?_
            refine TO_mv (v := (enc (b : Str))) rfl ?_
            refine TO_bi (v := (enc ((!(ltS a b || eqS a b)) : Bool))) rfl rfl rfl ?_
            refine TO_as (v := (enc ((!(ltS a b || eqS a b)) : Bool))) rfl ?_
            refine TO_nil ?_
            split at h
            · rename_i hcond
              refine TC_cond_t rfl hcond ?_
              refine TC_seq ?_
              refine TC_reg ?_
              refine TO_as (v := (enc (1 : Int))) rfl ?_
              refine TO_nil ?_
              refine TC_ret ?_
              show if _ then _ else _
              rw [if_neg (by simp)]
              rw [← Option.some.inj h]
              exact ⟨rfl, KE1 (a := (1 : Int)) rfl rfl (rfl : is _ (1 : Int)) (rfl : is _ (1 : Int))⟩
            · rename_i hcond
              refine TC_cond_f rfl hcond ?_
              refine TC_skip ?_
              refine TC_seq ?_
              refine TC_reg ?_
              refine TO_as (v := (enc (0 : Int))) rfl ?_
              refine TO_nil ?_
              refine TC_ret ?_
              rw [← Option.some.inj h]
              exact ⟨rfl, KE1 (a := (0 : Int)) rfl rfl (rfl : is _ (0 : Int)) (rfl : is _ (0 : Int))⟩
    · obtain ⟨rfl, hF⟩ := hE
      rw [← hF.eq]
      rw [ref_Order_a1] at h
      show if _ then _ else _
      rw [if_neg (by simp)]
      rw [← Option.some.inj h]
      exact ⟨rfl, KE1 (a := (v : Int)) rfl rfl (rfl : is _ (v : Int)) (rfl : is _ (v : Int))⟩
theorem ref_Order_pc : PureC Tryd.prog 22 (fun _ => Fn (fun a : Str × Str × Unit => ref_Order a.1 a.2.1)) := fnC pn6_ok ⟨_, Tryd.func22, rfl⟩ <| fun a r h => ref_Order_wf a.1 a.2.1 r h
noncomputable def pn7 : Prims := pn6.add 22 (Fn (fun a : Str × Str × Unit => ref_Order a.1 a.2.1))
theorem pn7_ok : PrimsOk Tryd.prog pn7 := primsOk_add pn6_ok ref_Order_pc
theorem ref_hex_wf (x : Int) (r : Str) (h : ref_hex x = some r) : MF Tryd.prog pn7 45 [enc x] s0 fun v _ => ris v r := by
  refine TF_run [(0, enc x)] Tryd.func45 rfl (by simp only [Tryd.f45]; rfl) fun ψ => ?_
  unfold ref_hex at h
  refine TC_seq ?_
  refine TC_reg ?_
  refine TO_as (v := (enc ((str []) : Str))) rfl ?_
  refine TO_nil ?_
  refine TC_seq ?_
  refine TC_reg ?_
  refine TO_as (v := (enc ((str []) : Str))) rfl ?_
  refine TO_nil ?_
  refine TC_seq ?_
  refine TC_block ?_
  obtain ⟨o, hl, h⟩ := bs h
  refine TC_loop (fun (p : (Int × Str)) φ s => match p with | (x1, s_) => Fx φ [(0, (enc (x1 : Int))), (3, (enc (s_ : Str)))]) (fun (o : (Int × Str)) e φ s => match o with | (x2, s_1) => e = .exit 0 ∧ Fx φ [(0, (enc (x2 : Int))), (3, (enc (s_1 : Str)))]) ?_ hl ⟨rfl, rfl, trivial⟩ ?_
  · rintro ⟨x1, s_⟩ o h φ s hF
    rw [← hF.eq]
    rw [ref_hex_l1] at h
    refine TC_seq ?_
    refine TC_seq ?_
    refine TC_reg ?_
    refine TO_mv (v := (enc (x1 : Int))) rfl ?_
    refine TO_bi (v := (enc ((decide (x1 > 15)) : Bool))) rfl rfl rfl ?_
    refine TO_nil ?_
    split at h
    · rename_i hcond
      refine TC_cond_t rfl hcond ?_
      refine TC_skip ?_
      refine TC_block ?_
      refine TC_seq ?_
      refine TC_reg ?_
      refine TO_mv (v := (enc (x1 : Int))) rfl ?_
      refine TO_bi (v := (enc ((x1.tmod 16) : Int))) rfl rfl rfl ?_
      refine TO_mv (v := (enc (x1 : Int))) rfl ?_
      refine TO_bi (v := (enc ((x1.tmod 16) : Int))) rfl rfl rfl ?_
      refine TO_bi (v := (enc ((IntKind.i64.wrap ((x1.tmod 16) + 1)) : Int))) rfl rfl rfl ?_
      obtain ⟨t, hx, h⟩ := bs h
      refine TO_slS11 Tryd.underlying9 rfl rfl rfl hx ?_
      refine TO_mv (v := (enc (s_ : Str))) rfl ?_
      obtain ⟨s_2, hx1, h⟩ := bs h
      refine TO_cat rfl rfl hx1 ?_
      refine TO_as (v := (enc (s_2 : Str))) rfl ?_
      refine TO_nil ?_
      refine TC_reg ?_
      refine TO_mv (v := (enc (x1 : Int))) rfl ?_
      refine TO_bi (v := (enc ((IntKind.i64.wrap (x1.tdiv 16)) : Int))) rfl rfl rfl ?_
      refine TO_as (v := (enc ((IntKind.i64.wrap (x1.tdiv 16)) : Int))) rfl ?_
      refine TO_nil ?_
      rw [← Option.some.inj h]
      exact ⟨_, rfl, ⟨rfl, rfl, trivial⟩⟩
    · rename_i hcond
      refine TC_cond_f rfl hcond ?_
      refine TC_exit ?_
      rw [← Option.some.inj h]
      exact ⟨_, rfl, rfl, ⟨rfl, rfl, trivial⟩⟩
  · intro e φ s hE
    rcases o with ⟨x2, s_1⟩
    obtain ⟨rfl, hF⟩ := hE
    rw [← hF.eq]
    rw [ref_hex_a1] at h
    show if _ then _ else _
    rw [if_pos rfl]
    refine TC_seq ?_
    refine TC_reg ?_
    refine TO_mv (v := (enc (x2 : Int))) rfl ?_
    refine TO_mv (v := (enc (x2 : Int))) rfl ?_
    refine TO_bi (v := (enc ((IntKind.i64.wrap (x2 + 1)) : Int))) rfl rfl rfl ?_
    obtain ⟨t1, hx2, h⟩ := bs h
    refine TO_slS11 Tryd.underlying9 rfl rfl rfl hx2 ?_
    refine TO_mv (v := (enc (s_1 : Str))) rfl ?_
    obtain ⟨s_3, hx3, h⟩ := bs h
    refine TO_cat rfl rfl hx3 ?_
    refine TO_as (v := (enc (s_3 : Str))) rfl ?_
    refine TO_nil ?_
    refine TC_ret ?_
    rw [← Option.some.inj h]
    exact ⟨rfl, KE1 (a := (s_3 : Str)) rfl rfl (rfl : is _ (s_3 : Str)) (rfl : is _ (s_3 : Str))⟩
theorem ref_hex_pc : PureC Tryd.prog 45 (fun _ => Fn (fun a : Int × Unit => ref_hex a.1)) := fnC pn7_ok ⟨_, Tryd.func45, rfl⟩ <| fun a r h => ref_hex_wf a.1 r h
noncomputable def pn8 : Prims := pn7.add 45 (Fn (fun a : Int × Unit => ref_hex a.1))
theorem pn8_ok : PrimsOk Tryd.prog pn8 := primsOk_add pn7_ok ref_hex_pc
theorem ref_Quote_wf (s_ : Str) (r : Str) (h : ref_Quote s_ = some r) : MF Tryd.prog pn8 24 [enc s_] s0 fun v _ => ris v r := by
  refine TF_run [(0, enc s_)] Tryd.func24 rfl (by simp only [Tryd.f24]; rfl) fun ψ => ?_
  unfold ref_Quote at h
  refine TC_seq ?_
  refine TC_reg ?_
  refine TO_as (v := (enc ((str []) : Str))) rfl ?_
  refine TO_nil ?_
  refine TC_seq ?_
  refine TC_reg ?_
  refine TO_as (v := (enc ((str [34]) : Str))) rfl ?_
  refine TO_nil ?_
  refine TC_seq ?_
  refine TC_seq ?_
  refine TC_reg ?_
  refine TO_as (v := (enc (0 : Int))) rfl ?_
  refine TO_nil ?_
  refine TC_block ?_
  obtain ⟨out_1, hl, h⟩ := bs h
  refine TC_loop (fun (p : (Str × Int)) φ s => match p with | (out_, i) => Fx φ [(0, (enc (s_ : Str))), (3, (enc (out_ : Str))), (4, (enc (i : Int)))]) (fun (o : Str) e φ s => match o with | out_1 => e = .exit 0 ∧ Fx φ [(3, (enc (out_1 : Str)))]) ?_ hl ⟨rfl, rfl, rfl, trivial⟩ ?_
  · rintro ⟨out_, i⟩ o h φ s hF
    rw [← hF.eq]
    rw [ref_Quote_l1] at h
    refine TC_seq ?_
    refine TC_seq ?_
    refine TC_reg ?_
    refine TO_mv (v := (enc (i : Int))) rfl ?_
    refine TO_mv (v := (enc (s_ : Str))) rfl ?_
    refine TO_lnS Tryd.underlying9 rfl rfl ?_
    refine TO_bi (v := (enc ((decide (i < ((List.length s_ : Nat) : Int))) : Bool))) rfl rfl rfl ?_
    refine TO_nil ?_
    split at h
    · rename_i hcond
      refine TC_cond_t rfl hcond ?_
      refine TC_skip ?_
      refine TC_block ?_
      refine TC_seq ?_
      refine TC_reg ?_
      refine TO_mv (v := (enc (s_ : Str))) rfl ?_
      refine TO_mv (v := (enc (i : Int))) rfl ?_
      obtain ⟨t, hx, h⟩ := bs h
      refine TO_slS10 Tryd.underlying9 rfl rfl hx ?_
      obtain ⟨r_, hx1, h⟩ := bs h
      refine TO_fn (f := fun a : Str × Unit => ref_Rune a.1) (a := (t, ())) rfl Tryd.func38 rfl rfl (.cons (a := (t : Str)) (Enc.self _) .nil) hx1 ?_
      refine TO_mv (v := (res r_)) rfl ?_
      refine TO_ex rfl rfl ?_
      refine TO_ex rfl rfl ?_
      refine TO_ex rfl rfl ?_
      refine TO_as (v := (enc (r_.1 : Int))) rfl ?_
      refine TO_as (v := (enc (r_.2.1 : Int))) rfl ?_
      refine TO_as (v := (enc (r_.2.2 : Bool))) rfl ?_
      refine TO_nil ?_
      refine TC_cut (fun φ s => ∃ (out_2 : Str), Fx φ [(0, (enc (s_ : Str))), (3, (enc (out_2 : Str))), (4, (enc (i : Int))), (6, (enc (r_.2.1 : Int)))] ∧ ref_Quote_j2 i r_ out_2 = some o) ?_ ?_
      · refine TC_block ?_
        refine TC_seq ?_
        refine TC_reg ?_
        refine TO_mv (v := (enc (r_.2.2 : Bool))) rfl ?_
        refine TO_un (v := (enc ((!r_.2.2) : Bool))) rfl rfl ?_
        refine TO_as (v := (enc ((!r_.2.2) : Bool))) rfl ?_
        refine TO_nil ?_
        split at h
        · rename_i hcond
          refine TC_cond_t rfl hcond ?_
          refine TC_seq ?_
          refine TC_reg ?_
          refine TO_mv (v := (enc (s_ : Str))) rfl ?_
          refine TO_mv (v := (enc (i : Int))) rfl ?_
          obtain ⟨c, hx2, h⟩ := bs h
          refine TO_ixS Tryd.underlying9 rfl rfl hx2 ?_
          refine TO_cv Tryd.underlying5 Tryd.underlying3 rfl ?_
          rw [wrap_u8_i64]
          refine TO_as (v := (enc (((c).toNat : Int) : Int))) rfl ?_
          refine TO_nil ?_
          refine TC_drawn (by decide +kernel) (by decide +kernel) ?_
          refine TO_mv (v := (enc (out_ : Str))) rfl ?_
          obtain ⟨s_1, hx3, h⟩ := bs h
          refine TO_cat rfl rfl hx3 ?_
          refine TO_mv (v := (enc (((c).toNat : Int) : Int))) rfl ?_
          refine TO_bi (v := (enc ((IntKind.i64.wrap ((((c).toNat : Int)).tdiv 16)) : Int))) rfl rfl rfl ?_
          refine TO_mv (v := (enc (((c).toNat : Int) : Int))) rfl ?_
          refine TO_bi (v := (enc ((IntKind.i64.wrap ((((c).toNat : Int)).tdiv 16)) : Int))) rfl rfl rfl ?_
          refine TO_bi (v := (enc ((IntKind.i64.wrap ((IntKind.i64.wrap ((((c).toNat : Int)).tdiv 16)) + 1)) : Int))) rfl rfl rfl ?_
          obtain ⟨t1, hx4, h⟩ := bs h
          refine TO_slS11 Tryd.underlying9 rfl rfl rfl hx4 ?_
          obtain ⟨s_2, hx5, h⟩ := bs h
          refine TO_cat rfl rfl hx5 ?_
          refine TO_mv (v := (enc (((c).toNat : Int) : Int))) rfl ?_
          refine TO_bi (v := (enc (((((c).toNat : Int)).tmod 16) : Int))) rfl rfl rfl ?_
          refine TO_mv (v := (enc (((c).toNat : Int) : Int))) rfl ?_
          refine TO_bi (v := (enc (((((c).toNat : Int)).tmod 16) : Int))) rfl rfl rfl ?_
          refine TO_bi (v := (enc ((IntKind.i64.wrap (((((c).toNat : Int)).tmod 16) + 1)) : Int))) rfl rfl rfl ?_
          obtain ⟨t2, hx6, h⟩ := bs h
          refine TO_slS11 Tryd.underlying9 rfl rfl rfl hx6 ?_
          obtain ⟨s_3, hx7, h⟩ := bs h
          refine TO_cat rfl rfl hx7 ?_
          refine TO_as (v := (enc (s_3 : Str))) rfl ?_
          refine TO_nil ?_
          exact ⟨s_3, ⟨rfl, rfl, rfl, rfl, trivial⟩, h⟩
        · rename_i hcond
          refine TC_cond_f rfl hcond ?_
          refine TC_seq ?_
          refine TC_reg ?_
          refine TO_mv (v := (enc (r_.1 : Int))) rfl ?_
          refine TO_bi (v := (enc ((r_.1 == 34) : Bool))) rfl rfl rfl ?_
          refine TO_mv (v := (enc ((r_.1 == 34) : Bool))) rfl ?_
          obtain ⟨b, hb_b, h⟩ := bs h
          refine TO_cut 3 (fun φ s => Fx φ [(0, (enc (s_ : Str))), (3, (enc (out_ : Str))), (4, (enc (i : Int))), (5, (enc (r_.1 : Int))), (6, (enc (r_.2.1 : Int))), (56, (enc (b : Bool)))]) ?_ ?_
          · split at hb_b
            · rename_i cg
              refine TO_off rfl rfl (by simpa using cg) ?_
              refine TO_off rfl rfl (by simpa using cg) ?_
              refine TO_pt (v := (enc (true : Bool))) rfl cg rfl ?_
              refine TO_nil ?_
              rw [← Option.some.inj hb_b]
              exact ⟨rfl, rfl, rfl, rfl, rfl, rfl, trivial⟩
            · rename_i cg1
              refine TO_on rfl rfl (by simpa using cg1) ?_
              refine TO_mv (v := (enc (r_.1 : Int))) rfl ?_
              refine TO_on rfl rfl (by simpa using cg1) ?_
              refine TO_bi (v := (enc ((r_.1 == 92) : Bool))) rfl rfl rfl ?_
              refine TO_pf (v := (enc ((r_.1 == 92) : Bool))) rfl cg1 rfl ?_
              refine TO_nil ?_
              rw [← Option.some.inj hb_b]
              exact ⟨rfl, rfl, rfl, rfl, rfl, rfl, trivial⟩
          · rintro φ s hF
            rw [← hF.eq]
            refine TO_as (v := (enc (b : Bool))) rfl ?_
            refine TO_nil ?_
            split at h
            · rename_i hcond
              refine TC_cond_t rfl hcond ?_
              refine TC_reg ?_
              refine TO_mv (v := (enc (out_ : Str))) rfl ?_
              obtain ⟨s_4, hx8, h⟩ := bs h
              refine TO_cat rfl rfl hx8 ?_
              refine TO_mv (v := (enc (s_ : Str))) rfl ?_
              refine TO_mv (v := (enc (i : Int))) rfl ?_
              refine TO_mv (v := (enc (i : Int))) rfl ?_
              refine TO_bi (v := (enc ((IntKind.i64.wrap (i + 1)) : Int))) rfl rfl rfl ?_
              obtain ⟨t3, hx9, h⟩ := bs h
              refine TO_slS11 Tryd.underlying9 rfl rfl rfl hx9 ?_
              obtain ⟨s_5, hx10, h⟩ := bs h
              refine TO_cat rfl rfl hx10 ?_
              refine TO_as (v := (enc (s_5 : Str))) rfl ?_
              refine TO_nil ?_
              exact ⟨s_5, ⟨rfl, rfl, rfl, rfl, trivial⟩, h⟩
            · rename_i hcond
              refine TC_cond_f rfl hcond ?_
              refine TC_seq ?_
              refine TC_reg ?_
              refine TO_mv (v := (enc (r_.1 : Int))) rfl ?_
              refine TO_bi (v := (enc ((decide (r_.1 ≥ 32)) : Bool))) rfl rfl rfl ?_
              refine TO_mv (v := (enc ((decide (r_.1 ≥ 32)) : Bool))) rfl ?_
              obtain ⟨b1, hb_b1, h⟩ := bs h
              refine TO_cut 3 (fun φ s => Fx φ [(0, (enc (s_ : Str))), (3, (enc (out_ : Str))), (4, (enc (i : Int))), (5, (enc (r_.1 : Int))), (6, (enc (r_.2.1 : Int))), (71, (enc (b1 : Bool)))]) ?_ ?_
              · split at hb_b1
                · rename_i cg2
                  refine TO_on rfl rfl cg2 ?_
                  refine TO_mv (v := (enc (r_.1 : Int))) rfl ?_
                  refine TO_on rfl rfl cg2 ?_
                  refine TO_bi (v := (enc ((decide (r_.1 ≤ 126)) : Bool))) rfl rfl rfl ?_
                  refine TO_pt (v := (enc ((decide (r_.1 ≤ 126)) : Bool))) rfl cg2 rfl ?_
                  refine TO_nil ?_
                  rw [← Option.some.inj hb_b1]
                  exact ⟨rfl, rfl, rfl, rfl, rfl, rfl, trivial⟩
                · rename_i cg3
                  refine TO_off rfl rfl cg3 ?_
                  refine TO_off rfl rfl cg3 ?_
                  refine TO_pf (v := (enc (false : Bool))) rfl cg3 rfl ?_
                  refine TO_nil ?_
                  rw [← Option.some.inj hb_b1]
                  exact ⟨rfl, rfl, rfl, rfl, rfl, rfl, trivial⟩
              · rintro φ s hF
                rw [← hF.eq]
                refine TO_as (v := (enc (b1 : Bool))) rfl ?_
                refine TO_nil ?_
                split at h
                · rename_i hcond
                  refine TC_cond_t rfl hcond ?_
                  refine TC_reg ?_
                  refine TO_mv (v := (enc (out_ : Str))) rfl ?_
                  refine TO_mv (v := (enc (s_ : Str))) rfl ?_
                  refine TO_mv (v := (enc (i : Int))) rfl ?_
                  refine TO_mv (v := (enc (i : Int))) rfl ?_
                  refine TO_bi (v := (enc ((IntKind.i64.wrap (i + 1)) : Int))) rfl rfl rfl ?_
                  obtain ⟨t4, hx11, h⟩ := bs h
                  refine TO_slS11 Tryd.underlying9 rfl rfl rfl hx11 ?_
                  obtain ⟨s_6, hx12, h⟩ := bs h
                  refine TO_cat rfl rfl hx12 ?_
                  refine TO_as (v := (enc (s_6 : Str))) rfl ?_
                  refine TO_nil ?_
                  exact ⟨s_6, ⟨rfl, rfl, rfl, rfl, trivial⟩, h⟩
                · rename_i hcond
                  refine TC_cond_f rfl hcond ?_
                  refine TC_reg ?_
                  refine TO_mv (v := (enc (out_ : Str))) rfl ?_
                  obtain ⟨s_7, hx13, h⟩ := bs h
                  refine TO_cat rfl rfl hx13 ?_
                  refine TO_mv (v := (enc (r_.1 : Int))) rfl ?_
                  obtain ⟨r_1, hx14, h⟩ := bs h
                  refine TO_fn (f := fun a : Int × Unit => ref_hex a.1) (a := (r_.1, ())) rfl Tryd.func45 rfl rfl (.cons (a := (r_.1 : Int)) (Enc.self _) .nil) hx14 ?_
                  obtain ⟨s_8, hx15, h⟩ := bs h
                  refine TO_cat rfl rfl hx15 ?_
                  obtain ⟨s_9, hx16, h⟩ := bs h
                  refine TO_cat rfl rfl hx16 ?_
                  refine TO_as (v := (enc (s_9 : Str))) rfl ?_
                  refine TO_nil ?_
                  exact ⟨s_9, ⟨rfl, rfl, rfl, rfl, trivial⟩, h⟩
      · rintro φ s ⟨out_2, hF, h⟩
        rw [← hF.eq]
        unfold ref_Quote_j2 at h
        refine TC_reg ?_
        refine TO_mv (v := (enc (i : Int))) rfl ?_
        refine TO_mv (v := (enc (r_.2.1 : Int))) rfl ?_
        refine TO_bi (v := (enc ((IntKind.i64.wrap (i + r_.2.1)) : Int))) rfl rfl rfl ?_
        refine TO_as (v := (enc ((IntKind.i64.wrap (i + r_.2.1)) : Int))) rfl ?_
        refine TO_nil ?_
        rw [← Option.some.inj h]
        exact ⟨_, rfl, ⟨rfl, rfl, rfl, trivial⟩⟩
    · rename_i hcond
      refine TC_cond_f rfl hcond ?_
      refine TC_exit ?_
      rw [← Option.some.inj h]
      exact ⟨_, rfl, rfl, ⟨rfl, trivial⟩⟩
  · intro e φ s hE
    obtain ⟨rfl, hF⟩ := hE
    rw [← hF.eq]
    rw [ref_Quote_a1] at h
    show if _ then _ else _
    rw [if_pos rfl]
    refine TC_seq ?_
    refine TC_reg ?_
    refine TO_mv (v := (enc (out_1 : Str))) rfl ?_
    obtain ⟨s_10, hx17, h⟩ := bs h
    refine TO_cat rfl rfl hx17 ?_
    refine TO_as (v := (enc (s_10 : Str))) rfl ?_
    refine TO_nil ?_
    refine TC_ret ?_
    rw [← Option.some.inj h]
    exact ⟨rfl, KE1 (a := (s_10 : Str)) rfl rfl (rfl : is _ (s_10 : Str)) (rfl : is _ (s_10 : Str))⟩
theorem ref_Quote_pc : PureC Tryd.prog 24 (fun _ => Fn (fun a : Str × Unit => ref_Quote a.1)) := fnC pn8_ok ⟨_, Tryd.func24, rfl⟩ <| fun a r h => ref_Quote_wf a.1 r h
noncomputable def pn9 : Prims := pn8.add 24 (Fn (fun a : Str × Unit => ref_Quote a.1))
theorem pn9_ok : PrimsOk Tryd.prog pn9 := primsOk_add pn8_ok ref_Quote_pc
theorem ref_encode_wf (x : Int) (r : (List UInt8) × Bool) (h : ref_encode x = some r) : MF Tryd.prog pn9 62 [enc x] s0 fun v _ => ris v r := by
  refine TF_run [(0, enc x)] Tryd.func62 rfl (by simp only [Tryd.f62]; rfl) fun ψ => ?_
  unfold ref_encode at h
  refine TC_seq ?_
  refine TC_reg ?_
  refine TO_as (v := .nils) rfl ?_
  refine TO_as (v := (enc (false : Bool))) rfl ?_
  refine TO_nil ?_
  refine TC_seq ?_
  refine TC_block ?_
  refine TC_seq ?_
  refine TC_reg ?_
  refine TO_mv (v := (enc (x : Int))) rfl ?_
  refine TO_bi (v := (enc ((decide (x < 128)) : Bool))) rfl rfl rfl ?_
  refine TO_as (v := (enc ((decide (x < 128)) : Bool))) rfl ?_
  refine TO_nil ?_
  split at h
  · rename_i hcond
    refine TC_cond_t rfl hcond ?_
    refine TC_seq ?_
    refine TC_reg ?_
    refine TO_mv (v := (enc (x : Int))) rfl ?_
    refine TO_cvu8 Tryd.underlying3 Tryd.underlying5 rfl ?_
    refine TO_bs [(enc ((UInt8.ofInt x) : UInt8))] ([(UInt8.ofInt x)] : (List UInt8)) Tryd.underlying47 TTryd.ef5 rfl rfl rfl (Nat.le_of_ble_eq_true rfl) ⟨(rfl : is _ ((UInt8.ofInt x) : UInt8)), trivial⟩ fun z hz hzc hzn => ?_
    refine TO_as (v := z) rfl ?_
    refine TO_as (v := (enc (true : Bool))) rfl ?_
    refine TO_nil ?_
    refine TC_ret ?_
    show if _ then _ else _
    rw [if_neg (by simp)]
    rw [← Option.some.inj h]
    exact ⟨rfl, KE2 (a1 := ([(UInt8.ofInt x)] : (List UInt8))) (a2 := (true : Bool)) rfl rfl rfl hz (rfl : is _ (true : Bool)) ⟨_, _, rfl, hz, (rfl : is _ (true : Bool))⟩⟩
  · rename_i hcond
    refine TC_cond_f rfl hcond ?_
    refine TC_seq ?_
    refine TC_reg ?_
    refine TO_mv (v := (enc (x : Int))) rfl ?_
    refine TO_bi (v := (enc ((decide (x < 2048)) : Bool))) rfl rfl rfl ?_
    refine TO_as (v := (enc ((decide (x < 2048)) : Bool))) rfl ?_
    refine TO_nil ?_
    split at h
    · rename_i hcond
      refine TC_cond_t rfl hcond ?_
      refine TC_seq ?_
      refine TC_reg ?_
      refine TO_mv (v := (enc (x : Int))) rfl ?_
      refine TO_bi (v := (enc ((IntKind.i64.wrap (x.tdiv 64)) : Int))) rfl rfl rfl ?_
      refine TO_bi (v := (enc ((IntKind.i64.wrap (192 + (IntKind.i64.wrap (x.tdiv 64)))) : Int))) rfl rfl rfl ?_
      refine TO_cvu8 Tryd.underlying3 Tryd.underlying5 rfl ?_
      refine TO_mv (v := (enc (x : Int))) rfl ?_
      refine TO_bi (v := (enc ((x.tmod 64) : Int))) rfl rfl rfl ?_
      refine TO_bi (v := (enc ((IntKind.i64.wrap (128 + (x.tmod 64))) : Int))) rfl rfl rfl ?_
      refine TO_cvu8 Tryd.underlying3 Tryd.underlying5 rfl ?_
      refine TO_bs [(enc ((UInt8.ofInt (IntKind.i64.wrap (192 + (IntKind.i64.wrap (x.tdiv 64))))) : UInt8)), (enc ((UInt8.ofInt (IntKind.i64.wrap (128 + (x.tmod 64)))) : UInt8))] ([(UInt8.ofInt (IntKind.i64.wrap (192 + (IntKind.i64.wrap (x.tdiv 64))))), (UInt8.ofInt (IntKind.i64.wrap (128 + (x.tmod 64))))] : (List UInt8)) Tryd.underlying47 TTryd.ef5 rfl rfl rfl (Nat.le_of_ble_eq_true rfl) ⟨(rfl : is _ ((UInt8.ofInt (IntKind.i64.wrap (192 + (IntKind.i64.wrap (x.tdiv 64))))) : UInt8)), (rfl : is _ ((UInt8.ofInt (IntKind.i64.wrap (128 + (x.tmod 64)))) : UInt8)), trivial⟩ fun z1 hz1 hz1c hz1n => ?_
      refine TO_as (v := z1) rfl ?_
      refine TO_as (v := (enc (true : Bool))) rfl ?_
      refine TO_nil ?_
      refine TC_ret ?_
      show if _ then _ else _
      rw [if_neg (by simp)]
      rw [← Option.some.inj h]
      exact ⟨rfl, KE2 (a1 := ([(UInt8.ofInt (IntKind.i64.wrap (192 + (IntKind.i64.wrap (x.tdiv 64))))), (UInt8.ofInt (IntKind.i64.wrap (128 + (x.tmod 64))))] : (List UInt8))) (a2 := (true : Bool)) rfl rfl rfl hz1 (rfl : is _ (true : Bool)) ⟨_, _, rfl, hz1, (rfl : is _ (true : Bool))⟩⟩
    · rename_i hcond
      refine TC_cond_f rfl hcond ?_
      refine TC_seq ?_
      refine TC_reg ?_
      refine TO_mv (v := (enc (x : Int))) rfl ?_
      refine TO_bi (v := (enc ((decide (x ≥ 55296)) : Bool))) rfl rfl rfl ?_
      refine TO_mv (v := (enc ((decide (x ≥ 55296)) : Bool))) rfl ?_
      obtain ⟨b, hb_b, h⟩ := bs h
      refine TO_cut 3 (fun φ s => Fx φ [(0, (enc (x : Int))), (28, (enc (b : Bool)))]) ?_ ?_
      · split at hb_b
        · rename_i cg
          refine TO_on rfl rfl cg ?_
          refine TO_mv (v := (enc (x : Int))) rfl ?_
          refine TO_on rfl rfl cg ?_
          refine TO_bi (v := (enc ((decide (x < 57344)) : Bool))) rfl rfl rfl ?_
          refine TO_pt (v := (enc ((decide (x < 57344)) : Bool))) rfl cg rfl ?_
          refine TO_nil ?_
          rw [← Option.some.inj hb_b]
          exact ⟨rfl, rfl, trivial⟩
        · rename_i cg1
          refine TO_off rfl rfl cg1 ?_
          refine TO_off rfl rfl cg1 ?_
          refine TO_pf (v := (enc (false : Bool))) rfl cg1 rfl ?_
          refine TO_nil ?_
          rw [← Option.some.inj hb_b]
          exact ⟨rfl, rfl, trivial⟩
      · rintro φ s hF
        rw [← hF.eq]
        refine TO_mv (v := (enc (b : Bool))) rfl ?_
        obtain ⟨b1, hb_b1, h⟩ := bs h
        refine TO_cut 3 (fun φ s => Fx φ [(0, (enc (x : Int))), (32, (enc (b1 : Bool)))]) ?_ ?_
        · split at hb_b1
          · rename_i cg2
            refine TO_off rfl rfl (by simpa using cg2) ?_
            refine TO_off rfl rfl (by simpa using cg2) ?_
            refine TO_pt (v := (enc (true : Bool))) rfl cg2 rfl ?_
            refine TO_nil ?_
            rw [← Option.some.inj hb_b1]
            exact ⟨rfl, rfl, trivial⟩
          · rename_i cg3
            refine TO_on rfl rfl (by simpa using cg3) ?_
            refine TO_mv (v := (enc (x : Int))) rfl ?_
            refine TO_on rfl rfl (by simpa using cg3) ?_
            refine TO_bi (v := (enc ((decide (x > 1114111)) : Bool))) rfl rfl rfl ?_
            refine TO_pf (v := (enc ((decide (x > 1114111)) : Bool))) rfl cg3 rfl ?_
            refine TO_nil ?_
            rw [← Option.some.inj hb_b1]
            exact ⟨rfl, rfl, trivial⟩
        · rintro φ s hF
          rw [← hF.eq]
          refine TO_as (v := (enc (b1 : Bool))) rfl ?_
          refine TO_nil ?_
          split at h
          · rename_i hcond
            refine TC_cond_t rfl hcond ?_
            refine TC_seq ?_
            refine TC_reg ?_
            refine TO_as (v := .nils) rfl ?_
            refine TO_as (v := (enc (false : Bool))) rfl ?_
            refine TO_nil ?_
            refine TC_ret ?_
            show if _ then _ else _
            rw [if_neg (by simp)]
            rw [← Option.some.inj h]
            exact ⟨rfl, KE2 (a1 := ([] : (List UInt8))) (a2 := (false : Bool)) rfl rfl rfl isL.nil (rfl : is _ (false : Bool)) ⟨_, _, rfl, isL.nil, (rfl : is _ (false : Bool))⟩⟩
          · rename_i hcond
            refine TC_cond_f rfl hcond ?_
            refine TC_seq ?_
            refine TC_reg ?_
            refine TO_mv (v := (enc (x : Int))) rfl ?_
            refine TO_bi (v := (enc ((decide (x < 65536)) : Bool))) rfl rfl rfl ?_
            refine TO_as (v := (enc ((decide (x < 65536)) : Bool))) rfl ?_
            refine TO_nil ?_
            split at h
            · rename_i hcond
              refine TC_cond_t rfl hcond ?_
              refine TC_seq ?_
              refine TC_reg ?_
              refine TO_mv (v := (enc (x : Int))) rfl ?_
              refine TO_bi (v := (enc ((IntKind.i64.wrap (x.tdiv 4096)) : Int))) rfl rfl rfl ?_
              refine TO_bi (v := (enc ((IntKind.i64.wrap (224 + (IntKind.i64.wrap (x.tdiv 4096)))) : Int))) rfl rfl rfl ?_
              refine TO_cvu8 Tryd.underlying3 Tryd.underlying5 rfl ?_
              refine TO_mv (v := (enc (x : Int))) rfl ?_
              refine TO_bi (v := (enc ((IntKind.i64.wrap (x.tdiv 64)) : Int))) rfl rfl rfl ?_
              refine TO_bi (v := (enc ((((IntKind.i64.wrap (x.tdiv 64))).tmod 64) : Int))) rfl rfl rfl ?_
              refine TO_bi (v := (enc ((IntKind.i64.wrap (128 + (((IntKind.i64.wrap (x.tdiv 64))).tmod 64))) : Int))) rfl rfl rfl ?_
              refine TO_cvu8 Tryd.underlying3 Tryd.underlying5 rfl ?_
              refine TO_mv (v := (enc (x : Int))) rfl ?_
              refine TO_bi (v := (enc ((x.tmod 64) : Int))) rfl rfl rfl ?_
              refine TO_bi (v := (enc ((IntKind.i64.wrap (128 + (x.tmod 64))) : Int))) rfl rfl rfl ?_
              refine TO_cvu8 Tryd.underlying3 Tryd.underlying5 rfl ?_
              refine TO_bs [(enc ((UInt8.ofInt (IntKind.i64.wrap (224 + (IntKind.i64.wrap (x.tdiv 4096))))) : UInt8)), (enc ((UInt8.ofInt (IntKind.i64.wrap (128 + (((IntKind.i64.wrap (x.tdiv 64))).tmod 64)))) : UInt8)), (enc ((UInt8.ofInt (IntKind.i64.wrap (128 + (x.tmod 64)))) : UInt8))] ([(UInt8.ofInt (IntKind.i64.wrap (224 + (IntKind.i64.wrap (x.tdiv 4096))))), (UInt8.ofInt (IntKind.i64.wrap (128 + (((IntKind.i64.wrap (x.tdiv 64))).tmod 64)))), (UInt8.ofInt (IntKind.i64.wrap (128 + (x.tmod 64))))] : (List UInt8)) Tryd.underlying47 TTryd.ef5 rfl rfl rfl (Nat.le_of_ble_eq_true rfl) ⟨(rfl : is _ ((UInt8.ofInt (IntKind.i64.wrap (224 + (IntKind.i64.wrap (x.tdiv 4096))))) : UInt8)), (rfl : is _ ((UInt8.ofInt (IntKind.i64.wrap (128 + (((IntKind.i64.wrap (x.tdiv 64))).tmod 64)))) : UInt8)), (rfl : is _ ((UInt8.ofInt (IntKind.i64.wrap (128 + (x.tmod 64)))) : UInt8)), trivial⟩ fun z2 hz2 hz2c hz2n => ?_
              refine TO_as (v := z2) rfl ?_
              refine TO_as (v := (enc (true : Bool))) rfl ?_
              refine TO_nil ?_
              refine TC_ret ?_
              show if _ then _ else _
              rw [if_neg (by simp)]
              rw [← Option.some.inj h]
              exact ⟨rfl, KE2 (a1 := ([(UInt8.ofInt (IntKind.i64.wrap (224 + (IntKind.i64.wrap (x.tdiv 4096))))), (UInt8.ofInt (IntKind.i64.wrap (128 + (((IntKind.i64.wrap (x.tdiv 64))).tmod 64)))), (UInt8.ofInt (IntKind.i64.wrap (128 + (x.tmod 64))))] : (List UInt8))) (a2 := (true : Bool)) rfl rfl rfl hz2 (rfl : is _ (true : Bool)) ⟨_, _, rfl, hz2, (rfl : is _ (true : Bool))⟩⟩
            · rename_i hcond
              refine TC_cond_f rfl hcond ?_
              refine TC_skip ?_
              refine TC_seq ?_
              refine TC_reg ?_
              refine TO_mv (v := (enc (x : Int))) rfl ?_
              refine TO_bi (v := (enc ((IntKind.i64.wrap (x.tdiv 262144)) : Int))) rfl rfl rfl ?_
              refine TO_bi (v := (enc ((IntKind.i64.wrap (240 + (IntKind.i64.wrap (x.tdiv 262144)))) : Int))) rfl rfl rfl ?_
              refine TO_cvu8 Tryd.underlying3 Tryd.underlying5 rfl ?_
              refine TO_mv (v := (enc (x : Int))) rfl ?_
              refine TO_bi (v := (enc ((IntKind.i64.wrap (x.tdiv 4096)) : Int))) rfl rfl rfl ?_
              refine TO_bi (v := (enc ((((IntKind.i64.wrap (x.tdiv 4096))).tmod 64) : Int))) rfl rfl rfl ?_
              refine TO_bi (v := (enc ((IntKind.i64.wrap (128 + (((IntKind.i64.wrap (x.tdiv 4096))).tmod 64))) : Int))) rfl rfl rfl ?_
              refine TO_cvu8 Tryd.underlying3 Tryd.underlying5 rfl ?_
              refine TO_mv (v := (enc (x : Int))) rfl ?_
              refine TO_bi (v := (enc ((IntKind.i64.wrap (x.tdiv 64)) : Int))) rfl rfl rfl ?_
              refine TO_bi (v := (enc ((((IntKind.i64.wrap (x.tdiv 64))).tmod 64) : Int))) rfl rfl rfl ?_
              refine TO_bi (v := (enc ((IntKind.i64.wrap (128 + (((IntKind.i64.wrap (x.tdiv 64))).tmod 64))) : Int))) rfl rfl rfl ?_
              refine TO_cvu8 Tryd.underlying3 Tryd.underlying5 rfl ?_
              refine TO_mv (v := (enc (x : Int))) rfl ?_
              refine TO_bi (v := (enc ((x.tmod 64) : Int))) rfl rfl rfl ?_
              refine TO_bi (v := (enc ((IntKind.i64.wrap (128 + (x.tmod 64))) : Int))) rfl rfl rfl ?_
              refine TO_cvu8 Tryd.underlying3 Tryd.underlying5 rfl ?_
              refine TO_bs [(enc ((UInt8.ofInt (IntKind.i64.wrap (240 + (IntKind.i64.wrap (x.tdiv 262144))))) : UInt8)), (enc ((UInt8.ofInt (IntKind.i64.wrap (128 + (((IntKind.i64.wrap (x.tdiv 4096))).tmod 64)))) : UInt8)), (enc ((UInt8.ofInt (IntKind.i64.wrap (128 + (((IntKind.i64.wrap (x.tdiv 64))).tmod 64)))) : UInt8)), (enc ((UInt8.ofInt (IntKind.i64.wrap (128 + (x.tmod 64)))) : UInt8))] ([(UInt8.ofInt (IntKind.i64.wrap (240 + (IntKind.i64.wrap (x.tdiv 262144))))), (UInt8.ofInt (IntKind.i64.wrap (128 + (((IntKind.i64.wrap (x.tdiv 4096))).tmod 64)))), (UInt8.ofInt (IntKind.i64.wrap (128 + (((IntKind.i64.wrap (x.tdiv 64))).tmod 64)))), (UInt8.ofInt (IntKind.i64.wrap (128 + (x.tmod 64))))] : (List UInt8)) Tryd.underlying47 TTryd.ef5 rfl rfl rfl (Nat.le_of_ble_eq_true rfl) ⟨(rfl : is _ ((UInt8.ofInt (IntKind.i64.wrap (240 + (IntKind.i64.wrap (x.tdiv 262144))))) : UInt8)), (rfl : is _ ((UInt8.ofInt (IntKind.i64.wrap (128 + (((IntKind.i64.wrap (x.tdiv 4096))).tmod 64)))) : UInt8)), (rfl : is _ ((UInt8.ofInt (IntKind.i64.wrap (128 + (((IntKind.i64.wrap (x.tdiv 64))).tmod 64)))) : UInt8)), (rfl : is _ ((UInt8.ofInt (IntKind.i64.wrap (128 + (x.tmod 64)))) : UInt8)), trivial⟩ fun z3 hz3 hz3c hz3n => ?_
              refine TO_as (v := z3) rfl ?_
              refine TO_as (v := (enc (true : Bool))) rfl ?_
              refine TO_nil ?_
              refine TC_ret ?_
              rw [← Option.some.inj h]
              exact ⟨rfl, KE2 (a1 := ([(UInt8.ofInt (IntKind.i64.wrap (240 + (IntKind.i64.wrap (x.tdiv 262144))))), (UInt8.ofInt (IntKind.i64.wrap (128 + (((IntKind.i64.wrap (x.tdiv 4096))).tmod 64)))), (UInt8.ofInt (IntKind.i64.wrap (128 + (((IntKind.i64.wrap (x.tdiv 64))).tmod 64)))), (UInt8.ofInt (IntKind.i64.wrap (128 + (x.tmod 64))))] : (List UInt8))) (a2 := (true : Bool)) rfl rfl rfl hz3 (rfl : is _ (true : Bool)) ⟨_, _, rfl, hz3, (rfl : is _ (true : Bool))⟩⟩
theorem ref_encode_pc : PureC Tryd.prog 62 (fun _ => Fn (fun a : Int × Unit => ref_encode a.1)) := fnC pn9_ok ⟨_, Tryd.func62, rfl⟩ <| fun a r h => ref_encode_wf a.1 r h
noncomputable def pn10 : Prims := pn9.add 62 (Fn (fun a : Int × Unit => ref_encode a.1))
theorem pn10_ok : PrimsOk Tryd.prog pn10 := primsOk_add pn9_ok ref_encode_pc
theorem ref_digit_wf (c : UInt8) (r : Int) (h : ref_digit c = some r) : MF Tryd.prog pn10 61 [enc c] s0 fun v _ => ris v r := by
  refine TF_run [(0, enc c)] Tryd.func61 rfl (by simp only [Tryd.f61]; rfl) fun ψ => ?_
  unfold ref_digit at h
  refine TC_seq ?_
  refine TC_reg ?_
  refine TO_as (v := (enc (0 : Int))) rfl ?_
  refine TO_nil ?_
  refine TC_seq ?_
  refine TC_seq ?_
  refine TC_reg ?_
  refine TO_as (v := (enc (0 : Int))) rfl ?_
  refine TO_nil ?_
  refine TC_block ?_
  obtain ⟨o, hl, h⟩ := bs h
  refine TC_loop (fun (p : Int) φ s => match p with | i => Fx φ [(0, (enc (c : UInt8))), (3, (enc (i : Int)))]) (fun (o : (Unit ⊕ Int)) e φ s => match o with | (.inl _) => e = .exit 0 ∧ Fx φ [] | (.inr v) => e = .ret ∧ Fx φ [(2, (enc (v : Int)))]) ?_ hl ⟨rfl, rfl, trivial⟩ ?_
  · rintro i o h φ s hF
    rw [← hF.eq]
    rw [ref_digit_l1] at h
    refine TC_seq ?_
    refine TC_seq ?_
    refine TC_reg ?_
    refine TO_mv (v := (enc (i : Int))) rfl ?_
    refine TO_bi (v := (enc ((decide (i < 16)) : Bool))) rfl rfl rfl ?_
    refine TO_nil ?_
    split at h
    · rename_i hcond
      refine TC_cond_t rfl hcond ?_
      refine TC_skip ?_
      refine TC_seq ?_
      refine TC_block ?_
      refine TC_seq ?_
      refine TC_reg ?_
      refine TO_mv (v := (enc (i : Int))) rfl ?_
      obtain ⟨c1, hx, h⟩ := bs h
      refine TO_ixS Tryd.underlying9 rfl rfl hx ?_
      refine TO_mv (v := (enc (c : UInt8))) rfl ?_
      refine TO_bi (v := (enc ((((c1).toNat : Int) == ((c).toNat : Int)) : Bool))) rfl rfl rfl ?_
      refine TO_nil ?_
      split at h
      · rename_i hcond
        refine TC_cond_t rfl hcond ?_
        refine TC_seq ?_
        refine TC_reg ?_
        refine TO_mv (v := (enc (i : Int))) rfl ?_
        refine TO_as (v := (enc (i : Int))) rfl ?_
        refine TO_nil ?_
        refine TC_ret ?_
        show if _ then _ else _
        rw [if_neg (by simp)]
        rw [← Option.some.inj h]
        exact ⟨_, rfl, rfl, ⟨rfl, trivial⟩⟩
      · rename_i hcond
        refine TC_cond_f rfl hcond ?_
        refine TC_skip ?_
        refine TC_reg ?_
        refine TO_mv (v := (enc (i : Int))) rfl ?_
        refine TO_bi (v := (enc ((IntKind.i64.wrap (i + 1)) : Int))) rfl rfl rfl ?_
        refine TO_as (v := (enc ((IntKind.i64.wrap (i + 1)) : Int))) rfl ?_
        refine TO_nil ?_
        rw [← Option.some.inj h]
        exact ⟨_, rfl, ⟨rfl, rfl, trivial⟩⟩
    · rename_i hcond
      refine TC_cond_f rfl hcond ?_
      refine TC_exit ?_
      rw [← Option.some.inj h]
      exact ⟨_, rfl, rfl, trivial⟩
  · intro e φ s hE
    rcases o with _u | v
    · obtain ⟨rfl, hF⟩ := hE
      rw [← hF.eq]
      rw [ref_digit_a1] at h
      show if _ then _ else _
      rw [if_pos rfl]
      refine TC_seq ?_
      refine TC_reg ?_
      refine TO_as (v := (enc ((-1) : Int))) rfl ?_
      refine TO_nil ?_
      refine TC_ret ?_
      rw [← Option.some.inj h]
      exact ⟨rfl, KE1 (a := ((-1) : Int)) rfl rfl (rfl : is _ ((-1) : Int)) (rfl : is _ ((-1) : Int))⟩
    · obtain ⟨rfl, hF⟩ := hE
      rw [← hF.eq]
      rw [ref_digit_a1] at h
      show if _ then _ else _
      rw [if_neg (by simp)]
      rw [← Option.some.inj h]
      exact ⟨rfl, KE1 (a := (v : Int)) rfl rfl (rfl : is _ (v : Int)) (rfl : is _ (v : Int))⟩
theorem ref_digit_pc : PureC Tryd.prog 61 (fun _ => Fn (fun a : UInt8 × Unit => ref_digit a.1)) := fnC pn10_ok ⟨_, Tryd.func61, rfl⟩ <| fun a r h => ref_digit_wf a.1 r h
noncomputable def pn11 : Prims := pn10.add 61 (Fn (fun a : UInt8 × Unit => ref_digit a.1))
theorem pn11_ok : PrimsOk Tryd.prog pn11 := primsOk_add pn10_ok ref_digit_pc
theorem ref_escape_wf (s_ : Str) (r : (List UInt8) × Int × Bool) (h : ref_escape s_ = some r) : MF Tryd.prog pn11 44 [enc s_] s0 fun v _ => ris v r := by
  refine TF_run [(0, enc s_)] Tryd.func44 rfl (by simp only [Tryd.f44]; rfl) fun ψ => ?_
  unfold ref_escape at h
  refine TC_seq ?_
  refine TC_reg ?_
  refine TO_as (v := .nils) rfl ?_
  refine TO_as (v := (enc (0 : Int))) rfl ?_
  refine TO_as (v := (enc (false : Bool))) rfl ?_
  refine TO_nil ?_
  refine TC_seq ?_
  refine TC_seq ?_
  refine TC_reg ?_
  refine TO_mv (v := (enc (s_ : Str))) rfl ?_
  refine TO_lnS Tryd.underlying9 rfl rfl ?_
  refine TO_bi (v := (enc ((decide (((List.length s_ : Nat) : Int) > 0)) : Bool))) rfl rfl rfl ?_
  refine TO_mv (v := (enc ((decide (((List.length s_ : Nat) : Int) > 0)) : Bool))) rfl ?_
  obtain ⟨b, hb_b, h⟩ := bs h
  refine TO_cut 9 (fun φ s => Fx φ [(0, (enc (s_ : Str))), (21, (enc (b : Bool)))]) ?_ ?_
  · split at hb_b
    · rename_i cg
      refine TO_on rfl rfl cg ?_
      refine TO_mv (v := (enc (s_ : Str))) rfl ?_
      refine TO_on rfl rfl cg ?_
      obtain ⟨c, hx, hb_b⟩ := bs hb_b
      refine TO_ixS Tryd.underlying9 rfl rfl hx ?_
      refine TO_on rfl rfl cg ?_
      refine TO_bi (v := (enc ((((c).toNat : Int) == 34) : Bool))) rfl rfl rfl ?_
      refine TO_on rfl rfl cg ?_
      refine TO_mv (v := (enc ((((c).toNat : Int) == 34) : Bool))) rfl ?_
      obtain ⟨b1, hb_b1, hb_b⟩ := bs hb_b
      refine TO_cut 4 (fun φ s => Fx φ [(0, (enc (s_ : Str))), (12, (enc ((decide (((List.length s_ : Nat) : Int) > 0)) : Bool))), (20, (enc (b1 : Bool)))]) ?_ ?_
      · split at hb_b1
        · rename_i cg1
          refine TO_off rfl rfl (by simpa using cg1) ?_
          refine TO_off rfl rfl (by simpa using cg1) ?_
          refine TO_off rfl rfl (by simpa using cg1) ?_
          refine TO_on rfl rfl cg ?_
          refine TO_pt (v := (enc (true : Bool))) rfl cg1 rfl ?_
          refine TO_nil ?_
          rw [← Option.some.inj hb_b1]
          exact ⟨rfl, rfl, rfl, trivial⟩
        · rename_i cg2
          refine TO_on rfl rfl (by simpa using cg2) ?_
          refine TO_mv (v := (enc (s_ : Str))) rfl ?_
          refine TO_on rfl rfl (by simpa using cg2) ?_
          obtain ⟨c1, hx1, hb_b1⟩ := bs hb_b1
          refine TO_ixS Tryd.underlying9 rfl rfl hx1 ?_
          refine TO_on rfl rfl (by simpa using cg2) ?_
          refine TO_bi (v := (enc ((((c1).toNat : Int) == 92) : Bool))) rfl rfl rfl ?_
          refine TO_on rfl rfl cg ?_
          refine TO_pf (v := (enc ((((c1).toNat : Int) == 92) : Bool))) rfl cg2 rfl ?_
          refine TO_nil ?_
          rw [← Option.some.inj hb_b1]
          exact ⟨rfl, rfl, rfl, trivial⟩
      · rintro φ s hF
        rw [← hF.eq]
        refine TO_pt (v := (enc (b1 : Bool))) rfl cg rfl ?_
        refine TO_nil ?_
        rw [← Option.some.inj hb_b]
        exact ⟨rfl, rfl, trivial⟩
    · rename_i cg3
      refine TO_off rfl rfl cg3 ?_
      refine TO_off rfl rfl cg3 ?_
      refine TO_off rfl rfl cg3 ?_
      refine TO_off rfl rfl cg3 ?_
      refine TO_offU rfl rfl ?_
      refine TO_offU rfl rfl ?_
      refine TO_offU rfl rfl ?_
      refine TO_off rfl rfl cg3 ?_
      refine TO_pf (v := (enc (false : Bool))) rfl cg3 rfl ?_
      refine TO_nil ?_
      rw [← Option.some.inj hb_b]
      exact ⟨rfl, rfl, trivial⟩
  · rintro φ s hF
    rw [← hF.eq]
    refine TO_nil ?_
    split at h
    · rename_i hcond
      refine TC_cond_t rfl hcond ?_
      refine TC_seq ?_
      refine TC_reg ?_
      refine TO_mv (v := (enc (s_ : Str))) rfl ?_
      obtain ⟨c2, hx2, h⟩ := bs h
      refine TO_ixS Tryd.underlying9 rfl rfl hx2 ?_
      refine TO_bs [(enc (c2 : UInt8))] ([c2] : (List UInt8)) Tryd.underlying47 TTryd.ef5 rfl rfl rfl (Nat.le_of_ble_eq_true rfl) ⟨(rfl : is _ (c2 : UInt8)), trivial⟩ fun z hz hzc hzn => ?_
      refine TO_as (v := z) rfl ?_
      refine TO_as (v := (enc (1 : Int))) rfl ?_
      refine TO_as (v := (enc (true : Bool))) rfl ?_
      refine TO_nil ?_
      refine TC_ret ?_
      rw [← Option.some.inj h]
      exact ⟨rfl, KE3 (a1 := ([c2] : (List UInt8))) (a2 := (1 : Int)) (a3 := (true : Bool)) rfl rfl rfl rfl hz (rfl : is _ (1 : Int)) (rfl : is _ (true : Bool)) ⟨_, _, _, rfl, hz, (rfl : is _ (1 : Int)), (rfl : is _ (true : Bool))⟩⟩
    · rename_i hcond
      refine TC_cond_f rfl hcond ?_
      refine TC_skip ?_
      refine TC_seq ?_
      refine TC_seq ?_
      refine TC_reg ?_
      refine TO_mv (v := (enc (s_ : Str))) rfl ?_
      refine TO_lnS Tryd.underlying9 rfl rfl ?_
      refine TO_bi (v := (enc ((decide (((List.length s_ : Nat) : Int) ≥ 3)) : Bool))) rfl rfl rfl ?_
      refine TO_mv (v := (enc ((decide (((List.length s_ : Nat) : Int) ≥ 3)) : Bool))) rfl ?_
      obtain ⟨b2, hb_b2, h⟩ := bs h
      refine TO_cut 4 (fun φ s => Fx φ [(0, (enc (s_ : Str))), (32, (enc (b2 : Bool)))]) ?_ ?_
      · split at hb_b2
        · rename_i cg4
          refine TO_on rfl rfl cg4 ?_
          refine TO_mv (v := (enc (s_ : Str))) rfl ?_
          refine TO_on rfl rfl cg4 ?_
          obtain ⟨c3, hx3, hb_b2⟩ := bs hb_b2
          refine TO_ixS Tryd.underlying9 rfl rfl hx3 ?_
          refine TO_on rfl rfl cg4 ?_
          refine TO_bi (v := (enc ((((c3).toNat : Int) == 120) : Bool))) rfl rfl rfl ?_
          refine TO_pt (v := (enc ((((c3).toNat : Int) == 120) : Bool))) rfl cg4 rfl ?_
          refine TO_nil ?_
          rw [← Option.some.inj hb_b2]
          exact ⟨rfl, rfl, trivial⟩
        · rename_i cg5
          refine TO_off rfl rfl cg5 ?_
          refine TO_off rfl rfl cg5 ?_
          refine TO_off rfl rfl cg5 ?_
          refine TO_pf (v := (enc (false : Bool))) rfl cg5 rfl ?_
          refine TO_nil ?_
          rw [← Option.some.inj hb_b2]
          exact ⟨rfl, rfl, trivial⟩
      · rintro φ s hF
        rw [← hF.eq]
        refine TO_mv (v := (enc (b2 : Bool))) rfl ?_
        obtain ⟨b3, hb_b3, h⟩ := bs h
        refine TO_cut 5 (fun φ s => Fx φ [(0, (enc (s_ : Str))), (38, (enc (b3 : Bool)))]) ?_ ?_
        · split at hb_b3
          · rename_i cg6
            refine TO_on rfl rfl cg6 ?_
            refine TO_mv (v := (enc (s_ : Str))) rfl ?_
            refine TO_on rfl rfl cg6 ?_
            obtain ⟨c4, hx4, hb_b3⟩ := bs hb_b3
            refine TO_ixS Tryd.underlying9 rfl rfl hx4 ?_
            refine TO_on rfl rfl cg6 ?_
            obtain ⟨r_, hx5, hb_b3⟩ := bs hb_b3
            refine TO_fn (f := fun a : UInt8 × Unit => ref_digit a.1) (a := (c4, ())) rfl Tryd.func61 rfl rfl (.cons (a := (c4 : UInt8)) (Enc.self _) .nil) hx5 ?_
            refine TO_on rfl rfl cg6 ?_
            refine TO_bi (v := (enc ((decide (r_ ≥ 0)) : Bool))) rfl rfl rfl ?_
            refine TO_pt (v := (enc ((decide (r_ ≥ 0)) : Bool))) rfl cg6 rfl ?_
            refine TO_nil ?_
            rw [← Option.some.inj hb_b3]
            exact ⟨rfl, rfl, trivial⟩
          · rename_i cg7
            refine TO_off rfl rfl cg7 ?_
            refine TO_off rfl rfl cg7 ?_
            refine TO_off rfl rfl cg7 ?_
            refine TO_off rfl rfl cg7 ?_
            refine TO_pf (v := (enc (false : Bool))) rfl cg7 rfl ?_
            refine TO_nil ?_
            rw [← Option.some.inj hb_b3]
            exact ⟨rfl, rfl, trivial⟩
        · rintro φ s hF
          rw [← hF.eq]
          refine TO_mv (v := (enc (b3 : Bool))) rfl ?_
          obtain ⟨b4, hb_b4, h⟩ := bs h
          refine TO_cut 5 (fun φ s => Fx φ [(0, (enc (s_ : Str))), (44, (enc (b4 : Bool)))]) ?_ ?_
          · split at hb_b4
            · rename_i cg8
              refine TO_on rfl rfl cg8 ?_
              refine TO_mv (v := (enc (s_ : Str))) rfl ?_
              refine TO_on rfl rfl cg8 ?_
              obtain ⟨c5, hx6, hb_b4⟩ := bs hb_b4
              refine TO_ixS Tryd.underlying9 rfl rfl hx6 ?_
              refine TO_on rfl rfl cg8 ?_
              obtain ⟨r_1, hx7, hb_b4⟩ := bs hb_b4
              refine TO_fn (f := fun a : UInt8 × Unit => ref_digit a.1) (a := (c5, ())) rfl Tryd.func61 rfl rfl (.cons (a := (c5 : UInt8)) (Enc.self _) .nil) hx7 ?_
              refine TO_on rfl rfl cg8 ?_
              refine TO_bi (v := (enc ((decide (r_1 ≥ 0)) : Bool))) rfl rfl rfl ?_
              refine TO_pt (v := (enc ((decide (r_1 ≥ 0)) : Bool))) rfl cg8 rfl ?_
              refine TO_nil ?_
              rw [← Option.some.inj hb_b4]
              exact ⟨rfl, rfl, trivial⟩
            · rename_i cg9
              refine TO_off rfl rfl cg9 ?_
              refine TO_off rfl rfl cg9 ?_
              refine TO_off rfl rfl cg9 ?_
              refine TO_off rfl rfl cg9 ?_
              refine TO_pf (v := (enc (false : Bool))) rfl cg9 rfl ?_
              refine TO_nil ?_
              rw [← Option.some.inj hb_b4]
              exact ⟨rfl, rfl, trivial⟩
          · rintro φ s hF
            rw [← hF.eq]
            refine TO_nil ?_
            split at h
            · rename_i hcond
              refine TC_cond_t rfl hcond ?_
              refine TC_seq ?_
              refine TC_drawn (by decide +kernel) (by decide +kernel) ?_
              refine TO_mv (v := (enc (s_ : Str))) rfl ?_
              obtain ⟨c6, hx8, h⟩ := bs h
              refine TO_ixS Tryd.underlying9 rfl rfl hx8 ?_
              obtain ⟨r_2, hx9, h⟩ := bs h
              refine TO_fn (f := fun a : UInt8 × Unit => ref_digit a.1) (a := (c6, ())) rfl Tryd.func61 rfl rfl (.cons (a := (c6 : UInt8)) (Enc.self _) .nil) hx9 ?_
              refine TO_bi (v := (enc ((IntKind.i64.wrap (16 * r_2)) : Int))) rfl rfl rfl ?_
              refine TO_mv (v := (enc (s_ : Str))) rfl ?_
              obtain ⟨c7, hx10, h⟩ := bs h
              refine TO_ixS Tryd.underlying9 rfl rfl hx10 ?_
              obtain ⟨r_3, hx11, h⟩ := bs h
              refine TO_fn (f := fun a : UInt8 × Unit => ref_digit a.1) (a := (c7, ())) rfl Tryd.func61 rfl rfl (.cons (a := (c7 : UInt8)) (Enc.self _) .nil) hx11 ?_
              refine TO_bi (v := (enc ((IntKind.i64.wrap ((IntKind.i64.wrap (16 * r_2)) + r_3)) : Int))) rfl rfl rfl ?_
              refine TO_cvu8 Tryd.underlying3 Tryd.underlying5 rfl ?_
              refine TO_bs [(enc ((UInt8.ofInt (IntKind.i64.wrap ((IntKind.i64.wrap (16 * r_2)) + r_3))) : UInt8))] ([(UInt8.ofInt (IntKind.i64.wrap ((IntKind.i64.wrap (16 * r_2)) + r_3)))] : (List UInt8)) Tryd.underlying47 TTryd.ef5 rfl rfl rfl (Nat.le_of_ble_eq_true rfl) ⟨(rfl : is _ ((UInt8.ofInt (IntKind.i64.wrap ((IntKind.i64.wrap (16 * r_2)) + r_3))) : UInt8)), trivial⟩ fun z1 hz1 hz1c hz1n => ?_
              refine TO_as (v := z1) rfl ?_
              refine TO_as (v := (enc (3 : Int))) rfl ?_
              refine TO_as (v := (enc (true : Bool))) rfl ?_
              refine TO_nil ?_
              refine TC_ret ?_
              rw [← Option.some.inj h]
              exact ⟨rfl, KE3 (a1 := ([(UInt8.ofInt (IntKind.i64.wrap ((IntKind.i64.wrap (16 * r_2)) + r_3)))] : (List UInt8))) (a2 := (3 : Int)) (a3 := (true : Bool)) rfl rfl rfl rfl hz1 (rfl : is _ (3 : Int)) (rfl : is _ (true : Bool)) ⟨_, _, _, rfl, hz1, (rfl : is _ (3 : Int)), (rfl : is _ (true : Bool))⟩⟩
            · rename_i hcond
              refine TC_cond_f rfl hcond ?_
              refine TC_skip ?_
              refine TC_seq ?_
              refine TC_seq ?_
              refine TC_reg ?_
              refine TO_mv (v := (enc (s_ : Str))) rfl ?_
              refine TO_lnS Tryd.underlying9 rfl rfl ?_
              refine TO_bi (v := (enc ((decide (((List.length s_ : Nat) : Int) < 4)) : Bool))) rfl rfl rfl ?_
              refine TO_mv (v := (enc ((decide (((List.length s_ : Nat) : Int) < 4)) : Bool))) rfl ?_
              obtain ⟨b5, hb_b5, h⟩ := bs h
              refine TO_cut 4 (fun φ s => Fx φ [(0, (enc (s_ : Str))), (62, (enc (b5 : Bool)))]) ?_ ?_
              · split at hb_b5
                · rename_i cg10
                  refine TO_off rfl rfl (by simpa using cg10) ?_
                  refine TO_off rfl rfl (by simpa using cg10) ?_
                  refine TO_off rfl rfl (by simpa using cg10) ?_
                  refine TO_pt (v := (enc (true : Bool))) rfl cg10 rfl ?_
                  refine TO_nil ?_
                  rw [← Option.some.inj hb_b5]
                  exact ⟨rfl, rfl, trivial⟩
                · rename_i cg11
                  refine TO_on rfl rfl (by simpa using cg11) ?_
                  refine TO_mv (v := (enc (s_ : Str))) rfl ?_
                  refine TO_on rfl rfl (by simpa using cg11) ?_
                  obtain ⟨c8, hx12, hb_b5⟩ := bs hb_b5
                  refine TO_ixS Tryd.underlying9 rfl rfl hx12 ?_
                  refine TO_on rfl rfl (by simpa using cg11) ?_
                  refine TO_bi (v := (enc ((((c8).toNat : Int) != 117) : Bool))) rfl rfl rfl ?_
                  refine TO_pf (v := (enc ((((c8).toNat : Int) != 117) : Bool))) rfl cg11 rfl ?_
                  refine TO_nil ?_
                  rw [← Option.some.inj hb_b5]
                  exact ⟨rfl, rfl, trivial⟩
              · rintro φ s hF
                rw [← hF.eq]
                refine TO_mv (v := (enc (b5 : Bool))) rfl ?_
                obtain ⟨b6, hb_b6, h⟩ := bs h
                refine TO_cut 4 (fun φ s => Fx φ [(0, (enc (s_ : Str))), (67, (enc (b6 : Bool)))]) ?_ ?_
                · split at hb_b6
                  · rename_i cg12
                    refine TO_off rfl rfl (by simpa using cg12) ?_
                    refine TO_off rfl rfl (by simpa using cg12) ?_
                    refine TO_off rfl rfl (by simpa using cg12) ?_
                    refine TO_pt (v := (enc (true : Bool))) rfl cg12 rfl ?_
                    refine TO_nil ?_
                    rw [← Option.some.inj hb_b6]
                    exact ⟨rfl, rfl, trivial⟩
                  · rename_i cg13
                    refine TO_on rfl rfl (by simpa using cg13) ?_
                    refine TO_mv (v := (enc (s_ : Str))) rfl ?_
                    refine TO_on rfl rfl (by simpa using cg13) ?_
                    obtain ⟨c9, hx13, hb_b6⟩ := bs hb_b6
                    refine TO_ixS Tryd.underlying9 rfl rfl hx13 ?_
                    refine TO_on rfl rfl (by simpa using cg13) ?_
                    refine TO_bi (v := (enc ((((c9).toNat : Int) != 123) : Bool))) rfl rfl rfl ?_
                    refine TO_pf (v := (enc ((((c9).toNat : Int) != 123) : Bool))) rfl cg13 rfl ?_
                    refine TO_nil ?_
                    rw [← Option.some.inj hb_b6]
                    exact ⟨rfl, rfl, trivial⟩
                · rintro φ s hF
                  rw [← hF.eq]
                  refine TO_nil ?_
                  split at h
                  · rename_i hcond
                    refine TC_cond_t rfl hcond ?_
                    refine TC_seq ?_
                    refine TC_reg ?_
                    refine TO_as (v := .nils) rfl ?_
                    refine TO_as (v := (enc (0 : Int))) rfl ?_
                    refine TO_as (v := (enc (false : Bool))) rfl ?_
                    refine TO_nil ?_
                    refine TC_ret ?_
                    rw [← Option.some.inj h]
                    exact ⟨rfl, KE3 (a1 := ([] : (List UInt8))) (a2 := (0 : Int)) (a3 := (false : Bool)) rfl rfl rfl rfl isL.nil (rfl : is _ (0 : Int)) (rfl : is _ (false : Bool)) ⟨_, _, _, rfl, isL.nil, (rfl : is _ (0 : Int)), (rfl : is _ (false : Bool))⟩⟩
                  · rename_i hcond
                    refine TC_cond_f rfl hcond ?_
                    refine TC_skip ?_
                    refine TC_seq ?_
                    refine TC_reg ?_
                    refine TO_as (v := (enc (0 : Int))) rfl ?_
                    refine TO_nil ?_
                    refine TC_seq ?_
                    refine TC_seq ?_
                    refine TC_reg ?_
                    refine TO_as (v := (enc (2 : Int))) rfl ?_
                    refine TO_nil ?_
                    refine TC_block ?_
                    obtain ⟨o, hl, h⟩ := bs h
                    refine TC_loop (fun (p : (Int × Int)) φ s => match p with | (x, i) => Fx φ [(0, (enc (s_ : Str))), (5, (enc (x : Int))), (6, (enc (i : Int)))]) (fun (o : (Unit ⊕ ((List UInt8) × Int × Bool))) e φ s => match o with | (.inl _) => e = .exit 0 ∧ Fx φ [] | (.inr (v, v1, v2)) => e = .ret ∧ ∃ (x_v : AV), is x_v v ∧ Fx φ [(2, x_v), (3, (enc (v1 : Int))), (4, (enc (v2 : Bool)))]) ?_ hl ⟨rfl, rfl, rfl, trivial⟩ ?_
                    · rintro ⟨x, i⟩ o h φ s hF
                      rw [← hF.eq]
                      rw [ref_escape_l1] at h
                      refine TC_seq ?_
                      refine TC_seq ?_
                      refine TC_reg ?_
                      refine TO_mv (v := (enc (i : Int))) rfl ?_
                      refine TO_mv (v := (enc (s_ : Str))) rfl ?_
                      refine TO_lnS Tryd.underlying9 rfl rfl ?_
                      refine TO_bi (v := (enc ((decide (i < ((List.length s_ : Nat) : Int))) : Bool))) rfl rfl rfl ?_
                      refine TO_mv (v := (enc ((decide (i < ((List.length s_ : Nat) : Int))) : Bool))) rfl ?_
                      obtain ⟨b7, hb_b7, h⟩ := bs h
                      refine TO_cut 3 (fun φ s => Fx φ [(0, (enc (s_ : Str))), (5, (enc (x : Int))), (6, (enc (i : Int))), (75, (enc (b7 : Bool)))]) ?_ ?_
                      · split at hb_b7
                        · rename_i cg14
                          refine TO_on rfl rfl cg14 ?_
                          refine TO_mv (v := (enc (i : Int))) rfl ?_
                          refine TO_on rfl rfl cg14 ?_
                          refine TO_bi (v := (enc ((decide (i < 9)) : Bool))) rfl rfl rfl ?_
                          refine TO_pt (v := (enc ((decide (i < 9)) : Bool))) rfl cg14 rfl ?_
                          refine TO_nil ?_
                          rw [← Option.some.inj hb_b7]
                          exact ⟨rfl, rfl, rfl, rfl, trivial⟩
                        · rename_i cg15
                          refine TO_off rfl rfl cg15 ?_
                          refine TO_off rfl rfl cg15 ?_
                          refine TO_pf (v := (enc (false : Bool))) rfl cg15 rfl ?_
                          refine TO_nil ?_
                          rw [← Option.some.inj hb_b7]
                          exact ⟨rfl, rfl, rfl, rfl, trivial⟩
                      · rintro φ s hF
                        rw [← hF.eq]
                        refine TO_nil ?_
                        split at h
                        · rename_i hcond
                          refine TC_cond_t rfl hcond ?_
                          refine TC_skip ?_
                          refine TC_seq ?_
                          refine TC_block ?_
                          refine TC_seq ?_
                          refine TC_seq ?_
                          refine TC_reg ?_
                          refine TO_mv (v := (enc (s_ : Str))) rfl ?_
                          refine TO_mv (v := (enc (i : Int))) rfl ?_
                          obtain ⟨c10, hx14, h⟩ := bs h
                          refine TO_ixS Tryd.underlying9 rfl rfl hx14 ?_
                          refine TO_bi (v := (enc ((((c10).toNat : Int) == 125) : Bool))) rfl rfl rfl ?_
                          refine TO_mv (v := (enc ((((c10).toNat : Int) == 125) : Bool))) rfl ?_
                          obtain ⟨b8, hb_b8, h⟩ := bs h
                          refine TO_cut 3 (fun φ s => Fx φ [(0, (enc (s_ : Str))), (5, (enc (x : Int))), (6, (enc (i : Int))), (85, (enc (b8 : Bool)))]) ?_ ?_
                          · split at hb_b8
                            · rename_i cg16
                              refine TO_on rfl rfl cg16 ?_
                              refine TO_mv (v := (enc (i : Int))) rfl ?_
                              refine TO_on rfl rfl cg16 ?_
                              refine TO_bi (v := (enc ((decide (i > 2)) : Bool))) rfl rfl rfl ?_
                              refine TO_pt (v := (enc ((decide (i > 2)) : Bool))) rfl cg16 rfl ?_
                              refine TO_nil ?_
                              rw [← Option.some.inj hb_b8]
                              exact ⟨rfl, rfl, rfl, rfl, trivial⟩
                            · rename_i cg17
                              refine TO_off rfl rfl cg17 ?_
                              refine TO_off rfl rfl cg17 ?_
                              refine TO_pf (v := (enc (false : Bool))) rfl cg17 rfl ?_
                              refine TO_nil ?_
                              rw [← Option.some.inj hb_b8]
                              exact ⟨rfl, rfl, rfl, rfl, trivial⟩
                          · rintro φ s hF
                            rw [← hF.eq]
                            refine TO_nil ?_
                            split at h
                            · rename_i hcond
                              refine TC_cond_t rfl hcond ?_
                              refine TC_seq ?_
                              refine TC_reg ?_
                              refine TO_mv (v := (enc (x : Int))) rfl ?_
                              obtain ⟨r_4, hx15, h⟩ := bs h
                              refine TO_fn (f := fun a : Int × Unit => ref_encode a.1) (a := (x, ())) rfl Tryd.func62 rfl rfl (.cons (a := (x : Int)) (Enc.self _) .nil) hx15 ?_
                              refine TO_mv (v := (res r_4)) rfl ?_
                              refine TO_ex rfl rfl ?_
                              refine TO_ex rfl rfl ?_
                              refine TO_as (v := (enc (r_4.1 : (List UInt8)))) rfl ?_
                              refine TO_as (v := (enc (r_4.2 : Bool))) rfl ?_
                              refine TO_nil ?_
                              refine TC_seq ?_
                              refine TC_reg ?_
                              refine TO_mv (v := (enc (r_4.1 : (List UInt8)))) rfl ?_
                              refine TO_mv (v := (enc (i : Int))) rfl ?_
                              refine TO_bi (v := (enc ((IntKind.i64.wrap (i + 1)) : Int))) rfl rfl rfl ?_
                              refine TO_mv (v := (enc (r_4.2 : Bool))) rfl ?_
                              refine TO_as (v := (enc (r_4.1 : (List UInt8)))) rfl ?_
                              refine TO_as (v := (enc ((IntKind.i64.wrap (i + 1)) : Int))) rfl ?_
                              refine TO_as (v := (enc (r_4.2 : Bool))) rfl ?_
                              refine TO_nil ?_
                              refine TC_ret ?_
                              show if _ then _ else _
                              rw [if_neg (by simp)]
                              rw [← Option.some.inj h]
                              exact ⟨_, rfl, rfl, ⟨(enc (r_4.1 : (List UInt8))), (Enc.self r_4.1), ⟨rfl, rfl, rfl, trivial⟩⟩⟩
                            · rename_i hcond
                              refine TC_cond_f rfl hcond ?_
                              refine TC_skip ?_
                              refine TC_seq ?_
                              refine TC_seq ?_
                              refine TC_reg ?_
                              refine TO_mv (v := (enc (s_ : Str))) rfl ?_
                              refine TO_mv (v := (enc (i : Int))) rfl ?_
                              obtain ⟨c11, hx16, h⟩ := bs h
                              refine TO_ixS Tryd.underlying9 rfl rfl hx16 ?_
                              obtain ⟨r_5, hx17, h⟩ := bs h
                              refine TO_fn (f := fun a : UInt8 × Unit => ref_digit a.1) (a := (c11, ())) rfl Tryd.func61 rfl rfl (.cons (a := (c11 : UInt8)) (Enc.self _) .nil) hx17 ?_
                              refine TO_bi (v := (enc ((decide (r_5 < 0)) : Bool))) rfl rfl rfl ?_
                              refine TO_nil ?_
                              split at h
                              · rename_i hcond
                                refine TC_cond_t rfl hcond ?_
                                refine TC_seq ?_
                                refine TC_reg ?_
                                refine TO_as (v := .nils) rfl ?_
                                refine TO_as (v := (enc (0 : Int))) rfl ?_
                                refine TO_as (v := (enc (false : Bool))) rfl ?_
                                refine TO_nil ?_
                                refine TC_ret ?_
                                show if _ then _ else _
                                rw [if_neg (by simp)]
                                rw [← Option.some.inj h]
                                exact ⟨_, rfl, rfl, ⟨.nils, isL.nil, ⟨rfl, rfl, rfl, trivial⟩⟩⟩
                              · rename_i hcond
                                refine TC_cond_f rfl hcond ?_
                                refine TC_skip ?_
                                refine TC_reg ?_
                                refine TO_mv (v := (enc (x : Int))) rfl ?_
                                refine TO_bi (v := (enc ((IntKind.i64.wrap (16 * x)) : Int))) rfl rfl rfl ?_
                                refine TO_mv (v := (enc (s_ : Str))) rfl ?_
                                refine TO_mv (v := (enc (i : Int))) rfl ?_
                                obtain ⟨c12, hx18, h⟩ := bs h
                                refine TO_ixS Tryd.underlying9 rfl rfl hx18 ?_
                                obtain ⟨r_6, hx19, h⟩ := bs h
                                refine TO_fn (f := fun a : UInt8 × Unit => ref_digit a.1) (a := (c12, ())) rfl Tryd.func61 rfl rfl (.cons (a := (c12 : UInt8)) (Enc.self _) .nil) hx19 ?_
                                refine TO_bi (v := (enc ((IntKind.i64.wrap ((IntKind.i64.wrap (16 * x)) + r_6)) : Int))) rfl rfl rfl ?_
                                refine TO_as (v := (enc ((IntKind.i64.wrap ((IntKind.i64.wrap (16 * x)) + r_6)) : Int))) rfl ?_
                                refine TO_nil ?_
                                refine TC_reg ?_
                                refine TO_mv (v := (enc (i : Int))) rfl ?_
                                refine TO_bi (v := (enc ((IntKind.i64.wrap (i + 1)) : Int))) rfl rfl rfl ?_
                                refine TO_as (v := (enc ((IntKind.i64.wrap (i + 1)) : Int))) rfl ?_
                                refine TO_nil ?_
                                rw [← Option.some.inj h]
                                exact ⟨_, rfl, ⟨rfl, rfl, rfl, trivial⟩⟩
                        · rename_i hcond
                          refine TC_cond_f rfl hcond ?_
                          refine TC_exit ?_
                          rw [← Option.some.inj h]
                          exact ⟨_, rfl, rfl, trivial⟩
                    · intro e φ s hE
                      rcases o with _u | ⟨v, v1, v2⟩
                      · obtain ⟨rfl, hF⟩ := hE
                        rw [← hF.eq]
                        rw [ref_escape_a1] at h
                        show if _ then _ else _
                        rw [if_pos rfl]
                        refine TC_seq ?_
                        refine TC_reg ?_
                        refine TO_as (v := .nils) rfl ?_
                        refine TO_as (v := (enc (0 : Int))) rfl ?_
                        refine TO_as (v := (enc (false : Bool))) rfl ?_
                        refine TO_nil ?_
                        refine TC_ret ?_
                        rw [← Option.some.inj h]
                        exact ⟨rfl, KE3 (a1 := ([] : (List UInt8))) (a2 := (0 : Int)) (a3 := (false : Bool)) rfl rfl rfl rfl isL.nil (rfl : is _ (0 : Int)) (rfl : is _ (false : Bool)) ⟨_, _, _, rfl, isL.nil, (rfl : is _ (0 : Int)), (rfl : is _ (false : Bool))⟩⟩
                      · obtain ⟨rfl, x_v, h_v, hF⟩ := hE
                        rw [← hF.eq]
                        rw [ref_escape_a1] at h
                        show if _ then _ else _
                        rw [if_neg (by simp)]
                        rw [← Option.some.inj h]
                        exact ⟨rfl, KE3 (a1 := (v : (List UInt8))) (a2 := (v1 : Int)) (a3 := (v2 : Bool)) rfl rfl rfl rfl h_v (rfl : is _ (v1 : Int)) (rfl : is _ (v2 : Bool)) ⟨_, _, _, rfl, h_v, (rfl : is _ (v1 : Int)), (rfl : is _ (v2 : Bool))⟩⟩
theorem ref_escape_pc : PureC Tryd.prog 44 (fun _ => Fn (fun a : Str × Unit => ref_escape a.1)) := fnC pn11_ok ⟨_, Tryd.func44, rfl⟩ <| fun a r h => ref_escape_wf a.1 r h
noncomputable def pn12 : Prims := pn11.add 44 (Fn (fun a : Str × Unit => ref_escape a.1))
theorem pn12_ok : PrimsOk Tryd.prog pn12 := primsOk_add pn11_ok ref_escape_pc
theorem ref_Unquote_wf (s_ : Str) (r : Str × Bool) (h : ref_Unquote s_ = some r) : MF Tryd.prog pn12 23 [enc s_] s0 fun v _ => ris v r := by
  refine TF_run [(0, enc s_)] Tryd.func23 rfl (by simp only [Tryd.f23]; rfl) fun ψ => ?_
  unfold ref_Unquote at h
  refine TC_seq ?_
  refine TC_reg ?_
  refine TO_as (v := (enc ((str []) : Str))) rfl ?_
  refine TO_as (v := (enc (false : Bool))) rfl ?_
  refine TO_nil ?_
  refine TC_seq ?_
  refine TC_seq ?_
  refine TC_reg ?_
  refine TO_mv (v := (enc (s_ : Str))) rfl ?_
  refine TO_lnS Tryd.underlying9 rfl rfl ?_
  refine TO_bi (v := (enc ((decide (((List.length s_ : Nat) : Int) < 2)) : Bool))) rfl rfl rfl ?_
  refine TO_mv (v := (enc ((decide (((List.length s_ : Nat) : Int) < 2)) : Bool))) rfl ?_
  obtain ⟨b, hb_b, h⟩ := bs h
  refine TO_cut 4 (fun φ s => Fx φ [(0, (enc (s_ : Str))), (16, (enc (b : Bool)))]) ?_ ?_
  · split at hb_b
    · rename_i cg
      refine TO_off rfl rfl (by simpa using cg) ?_
      refine TO_off rfl rfl (by simpa using cg) ?_
      refine TO_off rfl rfl (by simpa using cg) ?_
      refine TO_pt (v := (enc (true : Bool))) rfl cg rfl ?_
      refine TO_nil ?_
      rw [← Option.some.inj hb_b]
      exact ⟨rfl, rfl, trivial⟩
    · rename_i cg1
      refine TO_on rfl rfl (by simpa using cg1) ?_
      refine TO_mv (v := (enc (s_ : Str))) rfl ?_
      refine TO_on rfl rfl (by simpa using cg1) ?_
      obtain ⟨c, hx, hb_b⟩ := bs hb_b
      refine TO_ixS Tryd.underlying9 rfl rfl hx ?_
      refine TO_on rfl rfl (by simpa using cg1) ?_
      refine TO_bi (v := (enc ((((c).toNat : Int) != 34) : Bool))) rfl rfl rfl ?_
      refine TO_pf (v := (enc ((((c).toNat : Int) != 34) : Bool))) rfl cg1 rfl ?_
      refine TO_nil ?_
      rw [← Option.some.inj hb_b]
      exact ⟨rfl, rfl, trivial⟩
  · rintro φ s hF
    rw [← hF.eq]
    refine TO_mv (v := (enc (b : Bool))) rfl ?_
    obtain ⟨b1, hb_b1, h⟩ := bs h
    refine TO_cut 7 (fun φ s => Fx φ [(0, (enc (s_ : Str))), (24, (enc (b1 : Bool)))]) ?_ ?_
    · split at hb_b1
      · rename_i cg2
        refine TO_off rfl rfl (by simpa using cg2) ?_
        refine TO_off rfl rfl (by simpa using cg2) ?_
        refine TO_off rfl rfl (by simpa using cg2) ?_
        refine TO_off rfl rfl (by simpa using cg2) ?_
        refine TO_off rfl rfl (by simpa using cg2) ?_
        refine TO_off rfl rfl (by simpa using cg2) ?_
        refine TO_pt (v := (enc (true : Bool))) rfl cg2 rfl ?_
        refine TO_nil ?_
        rw [← Option.some.inj hb_b1]
        exact ⟨rfl, rfl, trivial⟩
      · rename_i cg3
        refine TO_on rfl rfl (by simpa using cg3) ?_
        refine TO_mv (v := (enc (s_ : Str))) rfl ?_
        refine TO_on rfl rfl (by simpa using cg3) ?_
        refine TO_mv (v := (enc (s_ : Str))) rfl ?_
        refine TO_on rfl rfl (by simpa using cg3) ?_
        refine TO_lnS Tryd.underlying9 rfl rfl ?_
        refine TO_on rfl rfl (by simpa using cg3) ?_
        refine TO_bi (v := (enc ((IntKind.i64.wrap (((List.length s_ : Nat) : Int) - 1)) : Int))) rfl rfl rfl ?_
        refine TO_on rfl rfl (by simpa using cg3) ?_
        obtain ⟨c1, hx1, hb_b1⟩ := bs hb_b1
        refine TO_ixS Tryd.underlying9 rfl rfl hx1 ?_
        refine TO_on rfl rfl (by simpa using cg3) ?_
        refine TO_bi (v := (enc ((((c1).toNat : Int) != 34) : Bool))) rfl rfl rfl ?_
        refine TO_pf (v := (enc ((((c1).toNat : Int) != 34) : Bool))) rfl cg3 rfl ?_
        refine TO_nil ?_
        rw [← Option.some.inj hb_b1]
        exact ⟨rfl, rfl, trivial⟩
    · rintro φ s hF
      rw [← hF.eq]
      refine TO_nil ?_
      split at h
      · rename_i hcond
        refine TC_cond_t rfl hcond ?_
        refine TC_seq ?_
        refine TC_reg ?_
        refine TO_as (v := (enc ((str []) : Str))) rfl ?_
        refine TO_as (v := (enc (false : Bool))) rfl ?_
        refine TO_nil ?_
        refine TC_ret ?_
        rw [← Option.some.inj h]
        exact ⟨rfl, KE2 (a1 := ((str []) : Str)) (a2 := (false : Bool)) rfl rfl rfl (rfl : is _ ((str []) : Str)) (rfl : is _ (false : Bool)) ⟨_, _, rfl, (rfl : is _ ((str []) : Str)), (rfl : is _ (false : Bool))⟩⟩
      · rename_i hcond
        refine TC_cond_f rfl hcond ?_
        refine TC_skip ?_
        refine TC_seq ?_
        refine TC_reg ?_
        refine TO_as (v := .nils) rfl ?_
        refine TO_nil ?_
        refine TC_seq ?_
        refine TC_seq ?_
        refine TC_reg ?_
        refine TO_as (v := (enc (1 : Int))) rfl ?_
        refine TO_nil ?_
        refine TC_block ?_
        obtain ⟨o, hl, h⟩ := bs h
        refine TC_loop (fun (p : ((List UInt8) × Int)) φ s => match p with | (out_, i) => ∃ (x_out_ : AV), is x_out_ out_ ∧ canOwn x_out_ = true ∧ Fx φ [(0, (enc (s_ : Str))), (4, x_out_), (5, (enc (i : Int)))] ∧ Hp s [.own x_out_]) (fun (o : ((List UInt8) ⊕ (Str × Bool))) e φ s => match o with | (.inl out_1) => e = .exit 0 ∧ ∃ (x_out_1 : AV), is x_out_1 out_1 ∧ canOwn x_out_1 = true ∧ Fx φ [(0, (enc (s_ : Str))), (4, x_out_1)] ∧ Hp s [.own x_out_1] | (.inr (v, v1)) => e = .ret ∧ Fx φ [(2, (enc (v : Str))), (3, (enc (v1 : Bool)))]) ?_ hl ⟨.nils, isL.nil, rfl, ⟨rfl, rfl, rfl, trivial⟩, (Hp.add Hp.nil rfl)⟩ ?_
        · rintro ⟨out_, i⟩ o h φ s ⟨x_out_, h_out_, h_out_c, hF, hs⟩
          rw [← hF.eq]
          rw [ref_Unquote_l1] at h
          refine TC_seq ?_
          refine TC_seq ?_
          refine TC_reg ?_
          refine TO_mv (v := (enc (i : Int))) rfl ?_
          refine TO_mv (v := (enc (s_ : Str))) rfl ?_
          refine TO_lnS Tryd.underlying9 rfl rfl ?_
          refine TO_bi (v := (enc ((IntKind.i64.wrap (((List.length s_ : Nat) : Int) - 1)) : Int))) rfl rfl rfl ?_
          refine TO_bi (v := (enc ((decide (i < (IntKind.i64.wrap (((List.length s_ : Nat) : Int) - 1)))) : Bool))) rfl rfl rfl ?_
          refine TO_nil ?_
          split at h
          · rename_i hcond
            refine TC_cond_t rfl hcond ?_
            refine TC_skip ?_
            refine TC_block ?_
            refine TC_seq ?_
            refine TC_seq ?_
            refine TC_reg ?_
            refine TO_mv (v := (enc (s_ : Str))) rfl ?_
            refine TO_mv (v := (enc (i : Int))) rfl ?_
            obtain ⟨c2, hx2, h⟩ := bs h
            refine TO_ixS Tryd.underlying9 rfl rfl hx2 ?_
            refine TO_bi (v := (enc ((((c2).toNat : Int) != 92) : Bool))) rfl rfl rfl ?_
            refine TO_nil ?_
            split at h
            · rename_i hcond
              refine TC_cond_t rfl hcond ?_
              refine TC_seq ?_
              refine TC_reg ?_
              refine TO_mv (v := x_out_) rfl ?_
              refine TO_mv (v := (enc (s_ : Str))) rfl ?_
              refine TO_mv (v := (enc (i : Int))) rfl ?_
              obtain ⟨c3, hx3, h⟩ := bs h
              refine TO_ixS Tryd.underlying9 rfl rfl hx3 ?_
              refine TO_bs [(enc (c3 : UInt8))] ([c3] : (List UInt8)) Tryd.underlying47 TTryd.ef5 rfl rfl rfl (Nat.le_of_ble_eq_true rfl) ⟨(rfl : is _ (c3 : UInt8)), trivial⟩ fun z hz hzc hzn => ?_
              obtain ⟨l, hx4, h⟩ := bs h
              refine TO_ap [] (es2 := []) Tryd.underlying47 Tryd.underlying47 rfl rfl TTryd.ef5 rfl rfl h_out_ h_out_c hs hz hx4 fun z1 s hz1 hz1c hs => ?_
              refine TO_as (v := z1) rfl ?_
              refine TO_nil ?_
              refine TC_seq ?_
              refine TC_reg ?_
              refine TO_mv (v := (enc (i : Int))) rfl ?_
              refine TO_bi (v := (enc ((IntKind.i64.wrap (i + 1)) : Int))) rfl rfl rfl ?_
              refine TO_as (v := (enc ((IntKind.i64.wrap (i + 1)) : Int))) rfl ?_
              refine TO_nil ?_
              refine TC_exit ?_
              show if _ then _ else _
              rw [if_pos rfl]
              rw [← Option.some.inj h]
              exact ⟨_, rfl, ⟨z1, hz1, hz1c, ⟨rfl, rfl, rfl, trivial⟩, hs⟩⟩
            · rename_i hcond
              refine TC_cond_f rfl hcond ?_
              refine TC_skip ?_
              refine TC_seq ?_
              refine TC_reg ?_
              refine TO_mv (v := (enc (s_ : Str))) rfl ?_
              refine TO_mv (v := (enc (i : Int))) rfl ?_
              refine TO_bi (v := (enc ((IntKind.i64.wrap (i + 1)) : Int))) rfl rfl rfl ?_
              obtain ⟨t, hx5, h⟩ := bs h
              refine TO_slS10 Tryd.underlying9 rfl rfl hx5 ?_
              obtain ⟨r_, hx6, h⟩ := bs h
              refine TO_fn (f := fun a : Str × Unit => ref_escape a.1) (a := (t, ())) rfl Tryd.func44 rfl rfl (.cons (a := (t : Str)) (Enc.self _) .nil) hx6 ?_
              refine TO_mv (v := (res r_)) rfl ?_
              refine TO_ex rfl rfl ?_
              refine TO_ex rfl rfl ?_
              refine TO_ex rfl rfl ?_
              refine TO_as (v := (enc (r_.1 : (List UInt8)))) rfl ?_
              refine TO_as (v := (enc (r_.2.1 : Int))) rfl ?_
              refine TO_as (v := (enc (r_.2.2 : Bool))) rfl ?_
              refine TO_nil ?_
              refine TC_seq ?_
              refine TC_seq ?_
              refine TC_reg ?_
              refine TO_mv (v := (enc (r_.2.2 : Bool))) rfl ?_
              refine TO_un (v := (enc ((!r_.2.2) : Bool))) rfl rfl ?_
              refine TO_nil ?_
              split at h
              · rename_i hcond
                refine TC_cond_t rfl hcond ?_
                refine TC_seq ?_
                refine TC_reg ?_
                refine TO_as (v := (enc ((str []) : Str))) rfl ?_
                refine TO_as (v := (enc (false : Bool))) rfl ?_
                refine TO_nil ?_
                refine TC_ret ?_
                show if _ then _ else _
                rw [if_neg (by simp)]
                rw [← Option.some.inj h]
                exact ⟨_, rfl, rfl, ⟨rfl, rfl, trivial⟩⟩
              · rename_i hcond
                refine TC_cond_f rfl hcond ?_
                refine TC_skip ?_
                refine TC_seq ?_
                refine TC_reg ?_
                refine TO_mv (v := x_out_) rfl ?_
                refine TO_mv (v := (enc (r_.1 : (List UInt8)))) rfl ?_
                obtain ⟨l1, hx7, h⟩ := bs h
                refine TO_ap [] (es2 := []) Tryd.underlying47 Tryd.underlying47 rfl rfl TTryd.ef5 rfl rfl h_out_ h_out_c hs (Enc.self r_.1) hx7 fun z2 s hz2 hz2c hs => ?_
                refine TO_as (v := z2) rfl ?_
                refine TO_nil ?_
                refine TC_reg ?_
                refine TO_mv (v := (enc (i : Int))) rfl ?_
                refine TO_bi (v := (enc ((IntKind.i64.wrap (i + 1)) : Int))) rfl rfl rfl ?_
                refine TO_mv (v := (enc (r_.2.1 : Int))) rfl ?_
                refine TO_bi (v := (enc ((IntKind.i64.wrap ((IntKind.i64.wrap (i + 1)) + r_.2.1)) : Int))) rfl rfl rfl ?_
                refine TO_as (v := (enc ((IntKind.i64.wrap ((IntKind.i64.wrap (i + 1)) + r_.2.1)) : Int))) rfl ?_
                refine TO_nil ?_
                rw [← Option.some.inj h]
                exact ⟨_, rfl, ⟨z2, hz2, hz2c, ⟨rfl, rfl, rfl, trivial⟩, hs⟩⟩
          · rename_i hcond
            refine TC_cond_f rfl hcond ?_
            refine TC_exit ?_
            rw [← Option.some.inj h]
            exact ⟨_, rfl, rfl, ⟨x_out_, h_out_, h_out_c, ⟨rfl, rfl, trivial⟩, hs⟩⟩
        · intro e φ s hE
          rcases o with out_1 | ⟨v, v1⟩
          · obtain ⟨rfl, x_out_1, h_out_1, h_out_1c, hF, hs⟩ := hE
            rw [← hF.eq]
            rw [ref_Unquote_a1] at h
            show if _ then _ else _
            rw [if_pos rfl]
            refine TC_seq ?_
            refine TC_seq ?_
            refine TC_reg ?_
            refine TO_mv (v := x_out_1) rfl ?_
            refine TO_cvSB (st := str out_1) Tryd.underlying47 Tryd.underlying5 Tryd.underlying9 rfl h_out_1 ?_
            obtain ⟨r_1, hx8, h⟩ := bs h
            refine TO_fn (f := fun a : Str × Unit => ref_Quote a.1) (a := ((str out_1), ())) rfl Tryd.func24 rfl rfl (.cons (a := ((str out_1) : Str)) (Enc.self _) .nil) hx8 ?_
            refine TO_mv (v := (enc (s_ : Str))) rfl ?_
            refine TO_bi (v := (enc ((!eqS r_1 s_) : Bool))) rfl rfl rfl ?_
            refine TO_nil ?_
            split at h
            · rename_i hcond
              refine TC_cond_t rfl hcond ?_
              refine TC_seq ?_
              refine TC_reg ?_
              refine TO_as (v := (enc ((str []) : Str))) rfl ?_
              refine TO_as (v := (enc (false : Bool))) rfl ?_
              refine TO_nil ?_
              refine TC_ret ?_
              rw [← Option.some.inj h]
              exact ⟨rfl, KE2 (a1 := ((str []) : Str)) (a2 := (false : Bool)) rfl rfl rfl (rfl : is _ ((str []) : Str)) (rfl : is _ (false : Bool)) ⟨_, _, rfl, (rfl : is _ ((str []) : Str)), (rfl : is _ (false : Bool))⟩⟩
            · rename_i hcond
              refine TC_cond_f rfl hcond ?_
              refine TC_skip ?_
              refine TC_seq ?_
              refine TC_reg ?_
              refine TO_mv (v := x_out_1) rfl ?_
              refine TO_cvSB (st := str out_1) Tryd.underlying47 Tryd.underlying5 Tryd.underlying9 rfl h_out_1 ?_
              refine TO_as (v := (enc ((str out_1) : Str))) rfl ?_
              refine TO_as (v := (enc (true : Bool))) rfl ?_
              refine TO_nil ?_
              refine TC_ret ?_
              rw [← Option.some.inj h]
              exact ⟨rfl, KE2 (a1 := ((str out_1) : Str)) (a2 := (true : Bool)) rfl rfl rfl (rfl : is _ ((str out_1) : Str)) (rfl : is _ (true : Bool)) ⟨_, _, rfl, (rfl : is _ ((str out_1) : Str)), (rfl : is _ (true : Bool))⟩⟩
          · obtain ⟨rfl, hF⟩ := hE
            rw [← hF.eq]
            rw [ref_Unquote_a1] at h
            show if _ then _ else _
            rw [if_neg (by simp)]
            rw [← Option.some.inj h]
            exact ⟨rfl, KE2 (a1 := (v : Str)) (a2 := (v1 : Bool)) rfl rfl rfl (rfl : is _ (v : Str)) (rfl : is _ (v1 : Bool)) ⟨_, _, rfl, (rfl : is _ (v : Str)), (rfl : is _ (v1 : Bool))⟩⟩
theorem ref_Unquote_pc : PureC Tryd.prog 23 (fun _ => Fn (fun a : Str × Unit => ref_Unquote a.1)) := fnC pn12_ok ⟨_, Tryd.func23, rfl⟩ <| fun a r h => ref_Unquote_wf a.1 r h
noncomputable def pn13 : Prims := pn12.add 23 (Fn (fun a : Str × Unit => ref_Unquote a.1))
theorem pn13_ok : PrimsOk Tryd.prog pn13 := primsOk_add pn12_ok ref_Unquote_pc
theorem nanR_wf (x : Rune) (r : Bool) (h : nanR x = some r) : MF Tryd.prog pn13 58 [enc x] s0 fun v _ => ris v r := by
  refine TF_run [(0, enc x)] Tryd.func58 rfl (by simp only [Tryd.f58]; rfl) fun ψ => ?_
  unfold nanR at h
  refine TC_seq ?_
  refine TC_reg ?_
  refine TO_as (v := (enc (false : Bool))) rfl ?_
  refine TO_nil ?_
  refine TC_seq ?_
  refine TC_reg ?_
  refine TO_mv (v := (enc (x : Rune))) rfl ?_
  refine TO_mv (v := (enc (x : Rune))) rfl ?_
  refine TO_bi (v := (enc ((x.v != x.v) : Bool))) rfl rfl rfl ?_
  refine TO_as (v := (enc ((x.v != x.v) : Bool))) rfl ?_
  refine TO_nil ?_
  refine TC_ret ?_
  rw [← Option.some.inj h]
  exact ⟨rfl, KE1 (a := ((x.v != x.v) : Bool)) rfl rfl (rfl : is _ ((x.v != x.v) : Bool)) (rfl : is _ ((x.v != x.v) : Bool))⟩
theorem nanR_pc : PureC Tryd.prog 58 (fun _ => Fn (fun a : Rune × Unit => nanR a.1)) := fnC pn13_ok ⟨_, Tryd.func58, rfl⟩ <| fun a r h => nanR_wf a.1 r h
noncomputable def pn14 : Prims := pn13.add 58 (Fn (fun a : Rune × Unit => nanR a.1))
theorem pn14_ok : PrimsOk Tryd.prog pn14 := primsOk_add pn13_ok nanR_pc
theorem nanI_wf (x : Int) (r : Bool) (h : nanI x = some r) : MF Tryd.prog pn14 59 [enc x] s0 fun v _ => ris v r := by
  refine TF_run [(0, enc x)] Tryd.func59 rfl (by simp only [Tryd.f59]; rfl) fun ψ => ?_
  unfold nanI at h
  refine TC_seq ?_
  refine TC_reg ?_
  refine TO_as (v := (enc (false : Bool))) rfl ?_
  refine TO_nil ?_
  refine TC_seq ?_
  refine TC_reg ?_
  refine TO_mv (v := (enc (x : Int))) rfl ?_
  refine TO_mv (v := (enc (x : Int))) rfl ?_
  refine TO_bi (v := (enc ((x != x) : Bool))) rfl rfl rfl ?_
  refine TO_as (v := (enc ((x != x) : Bool))) rfl ?_
  refine TO_nil ?_
  refine TC_ret ?_
  rw [← Option.some.inj h]
  exact ⟨rfl, KE1 (a := ((x != x) : Bool)) rfl rfl (rfl : is _ ((x != x) : Bool)) (rfl : is _ ((x != x) : Bool))⟩
theorem nanI_pc : PureC Tryd.prog 59 (fun _ => Fn (fun a : Int × Unit => nanI a.1)) := fnC pn14_ok ⟨_, Tryd.func59, rfl⟩ <| fun a r h => nanI_wf a.1 r h
noncomputable def pn15 : Prims := pn14.add 59 (Fn (fun a : Int × Unit => nanI a.1))
theorem pn15_ok : PrimsOk Tryd.prog pn15 := primsOk_add pn14_ok nanI_pc
theorem nanS_wf (x : Str) (r : Bool) (h : nanS x = some r) : MF Tryd.prog pn15 60 [enc x] s0 fun v _ => ris v r := by
  refine TF_run [(0, enc x)] Tryd.func60 rfl (by simp only [Tryd.f60]; rfl) fun ψ => ?_
  unfold nanS at h
  refine TC_seq ?_
  refine TC_reg ?_
  refine TO_as (v := (enc (false : Bool))) rfl ?_
  refine TO_nil ?_
  refine TC_seq ?_
  refine TC_reg ?_
  refine TO_mv (v := (enc (x : Str))) rfl ?_
  refine TO_mv (v := (enc (x : Str))) rfl ?_
  refine TO_bi (v := (enc ((!eqS x x) : Bool))) rfl rfl rfl ?_
  refine TO_as (v := (enc ((!eqS x x) : Bool))) rfl ?_
  refine TO_nil ?_
  refine TC_ret ?_
  rw [← Option.some.inj h]
  exact ⟨rfl, KE1 (a := ((!eqS x x) : Bool)) rfl rfl (rfl : is _ ((!eqS x x) : Bool)) (rfl : is _ ((!eqS x x) : Bool))⟩
theorem nanS_pc : PureC Tryd.prog 60 (fun _ => Fn (fun a : Str × Unit => nanS a.1)) := fnC pn15_ok ⟨_, Tryd.func60, rfl⟩ <| fun a r h => nanS_wf a.1 r h
noncomputable def pn16 : Prims := pn15.add 60 (Fn (fun a : Str × Unit => nanS a.1))
theorem pn16_ok : PrimsOk Tryd.prog pn16 := primsOk_add pn15_ok nanS_pc
theorem cmpR_wf (x : Rune) (y : Rune) (r : Int) (h : cmpR x y = some r) : MF Tryd.prog pn16 40 [enc x, enc y] s0 fun v _ => ris v r := by
  refine TF_run [(0, enc x), (1, enc y)] Tryd.func40 rfl (by simp only [Tryd.f40]; rfl) fun ψ => ?_
  unfold cmpR at h
  refine TC_seq ?_
  refine TC_reg ?_
  refine TO_as (v := (enc (0 : Int))) rfl ?_
  refine TO_nil ?_
  refine TC_seq ?_
  refine TC_reg ?_
  refine TO_mv (v := (enc (x : Rune))) rfl ?_
  obtain ⟨r_, hx, h⟩ := bs h
  refine TO_fn (f := fun a : Rune × Unit => nanR a.1) (a := (x, ())) rfl Tryd.func58 rfl rfl (.cons (a := (x : Rune)) (Enc.self _) .nil) hx ?_
  refine TO_as (v := (enc (r_ : Bool))) rfl ?_
  refine TO_nil ?_
  refine TC_seq ?_
  refine TC_reg ?_
  refine TO_mv (v := (enc (y : Rune))) rfl ?_
  obtain ⟨r_1, hx1, h⟩ := bs h
  refine TO_fn (f := fun a : Rune × Unit => nanR a.1) (a := (y, ())) rfl Tryd.func58 rfl rfl (.cons (a := (y : Rune)) (Enc.self _) .nil) hx1 ?_
  refine TO_as (v := (enc (r_1 : Bool))) rfl ?_
  refine TO_nil ?_
  refine TC_seq ?_
  refine TC_seq ?_
  refine TC_reg ?_
  refine TO_mv (v := (enc (r_ : Bool))) rfl ?_
  refine TO_nil ?_
  split at h
  · rename_i hcond
    refine TC_cond_t rfl hcond ?_
    refine TC_seq ?_
    refine TC_seq ?_
    refine TC_reg ?_
    refine TO_mv (v := (enc (r_1 : Bool))) rfl ?_
    refine TO_nil ?_
    split at h
    · rename_i hcond
      refine TC_cond_t rfl hcond ?_
      refine TC_seq ?_
      refine TC_reg ?_
      refine TO_as (v := (enc (0 : Int))) rfl ?_
      refine TO_nil ?_
      refine TC_ret ?_
      rw [← Option.some.inj h]
      exact ⟨rfl, KE1 (a := (0 : Int)) rfl rfl (rfl : is _ (0 : Int)) (rfl : is _ (0 : Int))⟩
    · rename_i hcond
      refine TC_cond_f rfl hcond ?_
      refine TC_skip ?_
      refine TC_seq ?_
      refine TC_reg ?_
      refine TO_as (v := (enc ((-1) : Int))) rfl ?_
      refine TO_nil ?_
      refine TC_ret ?_
      rw [← Option.some.inj h]
      exact ⟨rfl, KE1 (a := ((-1) : Int)) rfl rfl (rfl : is _ ((-1) : Int)) (rfl : is _ ((-1) : Int))⟩
  · rename_i hcond
    refine TC_cond_f rfl hcond ?_
    refine TC_skip ?_
    refine TC_seq ?_
    refine TC_seq ?_
    refine TC_reg ?_
    refine TO_mv (v := (enc (r_1 : Bool))) rfl ?_
    refine TO_nil ?_
    split at h
    · rename_i hcond
      refine TC_cond_t rfl hcond ?_
      refine TC_seq ?_
      refine TC_reg ?_
      refine TO_as (v := (enc (1 : Int))) rfl ?_
      refine TO_nil ?_
      refine TC_ret ?_
      rw [← Option.some.inj h]
      exact ⟨rfl, KE1 (a := (1 : Int)) rfl rfl (rfl : is _ (1 : Int)) (rfl : is _ (1 : Int))⟩
    · rename_i hcond
      refine TC_cond_f rfl hcond ?_
      refine TC_skip ?_
      refine TC_seq ?_
      refine TC_seq ?_
      refine TC_reg ?_
      refine TO_mv (v := (enc (x : Rune))) rfl ?_
      refine TO_mv (v := (enc (y : Rune))) rfl ?_
      refine TO_bi (v := (enc ((decide (x.v < y.v)) : Bool))) rfl rfl rfl ?_
      refine TO_nil ?_
      split at h
      · rename_i hcond
        refine TC_cond_t rfl hcond ?_
        refine TC_seq ?_
        refine TC_reg ?_
        refine TO_as (v := (enc ((-1) : Int))) rfl ?_
        refine TO_nil ?_
        refine TC_ret ?_
        rw [← Option.some.inj h]
        exact ⟨rfl, KE1 (a := ((-1) : Int)) rfl rfl (rfl : is _ ((-1) : Int)) (rfl : is _ ((-1) : Int))⟩
      · rename_i hcond
        refine TC_cond_f rfl hcond ?_
        refine TC_skip ?_
        refine TC_seq ?_
        refine TC_seq ?_
        refine TC_reg ?_
        refine TO_mv (v := (enc (x : Rune))) rfl ?_
        refine TO_mv (v := (enc (y : Rune))) rfl ?_
        refine TO_bi (v := (enc ((decide (x.v > y.v)) : Bool))) rfl rfl rfl ?_
        refine TO_nil ?_
        split at h
        · rename_i hcond
          refine TC_cond_t rfl hcond ?_
          refine TC_seq ?_
          refine TC_reg ?_
          refine TO_as (v := (enc (1 : Int))) rfl ?_
          refine TO_nil ?_
          refine TC_ret ?_
          rw [← Option.some.inj h]
          exact ⟨rfl, KE1 (a := (1 : Int)) rfl rfl (rfl : is _ (1 : Int)) (rfl : is _ (1 : Int))⟩
        · rename_i hcond
          refine TC_cond_f rfl hcond ?_
          refine TC_skip ?_
          refine TC_seq ?_
          refine TC_reg ?_
          refine TO_as (v := (enc (0 : Int))) rfl ?_
          refine TO_nil ?_
          refine TC_ret ?_
          rw [← Option.some.inj h]
          exact ⟨rfl, KE1 (a := (0 : Int)) rfl rfl (rfl : is _ (0 : Int)) (rfl : is _ (0 : Int))⟩
theorem cmpR_pc : PureC Tryd.prog 40 (fun _ => Fn (fun a : Rune × Rune × Unit => cmpR a.1 a.2.1)) := fnC pn16_ok ⟨_, Tryd.func40, rfl⟩ <| fun a r h => cmpR_wf a.1 a.2.1 r h
noncomputable def pn17 : Prims := pn16.add 40 (Fn (fun a : Rune × Rune × Unit => cmpR a.1 a.2.1))
theorem pn17_ok : PrimsOk Tryd.prog pn17 := primsOk_add pn16_ok cmpR_pc
theorem cmpI_wf (x : Int) (y : Int) (r : Int) (h : cmpI x y = some r) : MF Tryd.prog pn17 42 [enc x, enc y] s0 fun v _ => ris v r := by
  refine TF_run [(0, enc x), (1, enc y)] Tryd.func42 rfl (by simp only [Tryd.f42]; rfl) fun ψ => ?_
  unfold cmpI at h
  refine TC_seq ?_
  refine TC_reg ?_
  refine TO_as (v := (enc (0 : Int))) rfl ?_
  refine TO_nil ?_
  refine TC_seq ?_
  refine TC_reg ?_
  refine TO_mv (v := (enc (x : Int))) rfl ?_
  obtain ⟨r_, hx, h⟩ := bs h
  refine TO_fn (f := fun a : Int × Unit => nanI a.1) (a := (x, ())) rfl Tryd.func59 rfl rfl (.cons (a := (x : Int)) (Enc.self _) .nil) hx ?_
  refine TO_as (v := (enc (r_ : Bool))) rfl ?_
  refine TO_nil ?_
  refine TC_seq ?_
  refine TC_reg ?_
  refine TO_mv (v := (enc (y : Int))) rfl ?_
  obtain ⟨r_1, hx1, h⟩ := bs h
  refine TO_fn (f := fun a : Int × Unit => nanI a.1) (a := (y, ())) rfl Tryd.func59 rfl rfl (.cons (a := (y : Int)) (Enc.self _) .nil) hx1 ?_
  refine TO_as (v := (enc (r_1 : Bool))) rfl ?_
  refine TO_nil ?_
  refine TC_seq ?_
  refine TC_seq ?_
  refine TC_reg ?_
  refine TO_mv (v := (enc (r_ : Bool))) rfl ?_
  refine TO_nil ?_
  split at h
  · rename_i hcond
    refine TC_cond_t rfl hcond ?_
    refine TC_seq ?_
    refine TC_seq ?_
    refine TC_reg ?_
    refine TO_mv (v := (enc (r_1 : Bool))) rfl ?_
    refine TO_nil ?_
    split at h
    · rename_i hcond
      refine TC_cond_t rfl hcond ?_
      refine TC_seq ?_
      refine TC_reg ?_
      refine TO_as (v := (enc (0 : Int))) rfl ?_
      refine TO_nil ?_
      refine TC_ret ?_
      rw [← Option.some.inj h]
      exact ⟨rfl, KE1 (a := (0 : Int)) rfl rfl (rfl : is _ (0 : Int)) (rfl : is _ (0 : Int))⟩
    · rename_i hcond
      refine TC_cond_f rfl hcond ?_
      refine TC_skip ?_
      refine TC_seq ?_
      refine TC_reg ?_
      refine TO_as (v := (enc ((-1) : Int))) rfl ?_
      refine TO_nil ?_
      refine TC_ret ?_
      rw [← Option.some.inj h]
      exact ⟨rfl, KE1 (a := ((-1) : Int)) rfl rfl (rfl : is _ ((-1) : Int)) (rfl : is _ ((-1) : Int))⟩
  · rename_i hcond
    refine TC_cond_f rfl hcond ?_
    refine TC_skip ?_
    refine TC_seq ?_
    refine TC_seq ?_
    refine TC_reg ?_
    refine TO_mv (v := (enc (r_1 : Bool))) rfl ?_
    refine TO_nil ?_
    split at h
    · rename_i hcond
      refine TC_cond_t rfl hcond ?_
      refine TC_seq ?_
      refine TC_reg ?_
      refine TO_as (v := (enc (1 : Int))) rfl ?_
      refine TO_nil ?_
      refine TC_ret ?_
      rw [← Option.some.inj h]
      exact ⟨rfl, KE1 (a := (1 : Int)) rfl rfl (rfl : is _ (1 : Int)) (rfl : is _ (1 : Int))⟩
    · rename_i hcond
      refine TC_cond_f rfl hcond ?_
      refine TC_skip ?_
      refine TC_seq ?_
      refine TC_seq ?_
      refine TC_reg ?_
      refine TO_mv (v := (enc (x : Int))) rfl ?_
      refine TO_mv (v := (enc (y : Int))) rfl ?_
      refine TO_bi (v := (enc ((decide (x < y)) : Bool))) rfl rfl rfl ?_
      refine TO_nil ?_
      split at h
      · rename_i hcond
        refine TC_cond_t rfl hcond ?_
        refine TC_seq ?_
        refine TC_reg ?_
        refine TO_as (v := (enc ((-1) : Int))) rfl ?_
        refine TO_nil ?_
        refine TC_ret ?_
        rw [← Option.some.inj h]
        exact ⟨rfl, KE1 (a := ((-1) : Int)) rfl rfl (rfl : is _ ((-1) : Int)) (rfl : is _ ((-1) : Int))⟩
      · rename_i hcond
        refine TC_cond_f rfl hcond ?_
        refine TC_skip ?_
        refine TC_seq ?_
        refine TC_seq ?_
        refine TC_reg ?_
        refine TO_mv (v := (enc (x : Int))) rfl ?_
        refine TO_mv (v := (enc (y : Int))) rfl ?_
        refine TO_bi (v := (enc ((decide (x > y)) : Bool))) rfl rfl rfl ?_
        refine TO_nil ?_
        split at h
        · rename_i hcond
          refine TC_cond_t rfl hcond ?_
          refine TC_seq ?_
          refine TC_reg ?_
          refine TO_as (v := (enc (1 : Int))) rfl ?_
          refine TO_nil ?_
          refine TC_ret ?_
          rw [← Option.some.inj h]
          exact ⟨rfl, KE1 (a := (1 : Int)) rfl rfl (rfl : is _ (1 : Int)) (rfl : is _ (1 : Int))⟩
        · rename_i hcond
          refine TC_cond_f rfl hcond ?_
          refine TC_skip ?_
          refine TC_seq ?_
          refine TC_reg ?_
          refine TO_as (v := (enc (0 : Int))) rfl ?_
          refine TO_nil ?_
          refine TC_ret ?_
          rw [← Option.some.inj h]
          exact ⟨rfl, KE1 (a := (0 : Int)) rfl rfl (rfl : is _ (0 : Int)) (rfl : is _ (0 : Int))⟩
theorem cmpI_pc : PureC Tryd.prog 42 (fun _ => Fn (fun a : Int × Int × Unit => cmpI a.1 a.2.1)) := fnC pn17_ok ⟨_, Tryd.func42, rfl⟩ <| fun a r h => cmpI_wf a.1 a.2.1 r h
noncomputable def pn18 : Prims := pn17.add 42 (Fn (fun a : Int × Int × Unit => cmpI a.1 a.2.1))
theorem pn18_ok : PrimsOk Tryd.prog pn18 := primsOk_add pn17_ok cmpI_pc
theorem cmpS_wf (x : Str) (y : Str) (r : Int) (h : cmpS x y = some r) : MF Tryd.prog pn18 43 [enc x, enc y] s0 fun v _ => ris v r := by
  refine TF_run [(0, enc x), (1, enc y)] Tryd.func43 rfl (by simp only [Tryd.f43]; rfl) fun ψ => ?_
  unfold cmpS at h
  refine TC_seq ?_
  refine TC_reg ?_
  refine TO_as (v := (enc (0 : Int))) rfl ?_
  refine TO_nil ?_
  refine TC_seq ?_
  refine TC_reg ?_
  refine TO_mv (v := (enc (x : Str))) rfl ?_
  obtain ⟨r_, hx, h⟩ := bs h
  refine TO_fn (f := fun a : Str × Unit => nanS a.1) (a := (x, ())) rfl Tryd.func60 rfl rfl (.cons (a := (x : Str)) (Enc.self _) .nil) hx ?_
  refine TO_as (v := (enc (r_ : Bool))) rfl ?_
  refine TO_nil ?_
  refine TC_seq ?_
  refine TC_reg ?_
  refine TO_mv (v := (enc (y : Str))) rfl ?_
  obtain ⟨r_1, hx1, h⟩ := bs h
  refine TO_fn (f := fun a : Str × Unit => nanS a.1) (a := (y, ())) rfl Tryd.func60 rfl rfl (.cons (a := (y : Str)) (Enc.self _) .nil) hx1 ?_
  refine TO_as (v := (enc (r_1 : Bool))) rfl ?_
  refine TO_nil ?_
  refine TC_seq ?_
  refine TC_seq ?_
  refine TC_reg ?_
  refine TO_mv (v := (enc (r_ : Bool))) rfl ?_
  refine TO_nil ?_
  split at h
  · rename_i hcond
    refine TC_cond_t rfl hcond ?_
    refine TC_seq ?_
    refine TC_seq ?_
    refine TC_reg ?_
    refine TO_mv (v := (enc (r_1 : Bool))) rfl ?_
    refine TO_nil ?_
    split at h
    · rename_i hcond
      refine TC_cond_t rfl hcond ?_
      refine TC_seq ?_
      refine TC_reg ?_
      refine TO_as (v := (enc (0 : Int))) rfl ?_
      refine TO_nil ?_
      refine TC_ret ?_
      rw [← Option.some.inj h]
      exact ⟨rfl, KE1 (a := (0 : Int)) rfl rfl (rfl : is _ (0 : Int)) (rfl : is _ (0 : Int))⟩
    · rename_i hcond
      refine TC_cond_f rfl hcond ?_
      refine TC_skip ?_
      refine TC_seq ?_
      refine TC_reg ?_
      refine TO_as (v := (enc ((-1) : Int))) rfl ?_
      refine TO_nil ?_
      refine TC_ret ?_
      rw [← Option.some.inj h]
      exact ⟨rfl, KE1 (a := ((-1) : Int)) rfl rfl (rfl : is _ ((-1) : Int)) (rfl : is _ ((-1) : Int))⟩
  · rename_i hcond
    refine TC_cond_f rfl hcond ?_
    refine TC_skip ?_
    refine TC_seq ?_
    refine TC_seq ?_
    refine TC_reg ?_
    refine TO_mv (v := (enc (r_1 : Bool))) rfl ?_
    refine TO_nil ?_
    split at h
    · rename_i hcond
      refine TC_cond_t rfl hcond ?_
      refine TC_seq ?_
      refine TC_reg ?_
      refine TO_as (v := (enc (1 : Int))) rfl ?_
      refine TO_nil ?_
      refine TC_ret ?_
      rw [← Option.some.inj h]
      exact ⟨rfl, KE1 (a := (1 : Int)) rfl rfl (rfl : is _ (1 : Int)) (rfl : is _ (1 : Int))⟩
    · rename_i hcond
      refine TC_cond_f rfl hcond ?_
      refine TC_skip ?_
      refine TC_seq ?_
      refine TC_seq ?_
      refine TC_reg ?_
      refine TO_mv (v := (enc (x : Str))) rfl ?_
      refine TO_mv (v := (enc (y : Str))) rfl ?_
      refine TO_bi (v := (enc ((ltS x y) : Bool))) rfl rfl rfl ?_
      refine TO_nil ?_
      split at h
      · rename_i hcond
        refine TC_cond_t rfl hcond ?_
        refine TC_seq ?_
        refine TC_reg ?_
        refine TO_as (v := (enc ((-1) : Int))) rfl ?_
        refine TO_nil ?_
        refine TC_ret ?_
        rw [← Option.some.inj h]
        exact ⟨rfl, KE1 (a := ((-1) : Int)) rfl rfl (rfl : is _ ((-1) : Int)) (rfl : is _ ((-1) : Int))⟩
      · rename_i hcond
        refine TC_cond_f rfl hcond ?_
        refine TC_skip ?_
        refine TC_seq ?_
        refine TC_seq ?_
        refine TC_reg ?_
        refine TO_mv (v := (enc (x : Str))) rfl ?_
        refine TO_mv (v := (enc (y : Str))) rfl ?_
        refine TO_bi (v := (enc ((!(ltS x y || eqS x y)) : Bool))) rfl rfl rfl ?_
        refine TO_nil ?_
        split at h
        · rename_i hcond
          refine TC_cond_t rfl hcond ?_
          refine TC_seq ?_
          refine TC_reg ?_
          refine TO_as (v := (enc (1 : Int))) rfl ?_
          refine TO_nil ?_
          refine TC_ret ?_
          rw [← Option.some.inj h]
          exact ⟨rfl, KE1 (a := (1 : Int)) rfl rfl (rfl : is _ (1 : Int)) (rfl : is _ (1 : Int))⟩
        · rename_i hcond
          refine TC_cond_f rfl hcond ?_
          refine TC_skip ?_
          refine TC_seq ?_
          refine TC_reg ?_
          refine TO_as (v := (enc (0 : Int))) rfl ?_
          refine TO_nil ?_
          refine TC_ret ?_
          rw [← Option.some.inj h]
          exact ⟨rfl, KE1 (a := (0 : Int)) rfl rfl (rfl : is _ (0 : Int)) (rfl : is _ (0 : Int))⟩
theorem cmpS_pc : PureC Tryd.prog 43 (fun _ => Fn (fun a : Str × Str × Unit => cmpS a.1 a.2.1)) := fnC pn18_ok ⟨_, Tryd.func43, rfl⟩ <| fun a r h => cmpS_wf a.1 a.2.1 r h
noncomputable def pn19 : Prims := pn18.add 43 (Fn (fun a : Str × Str × Unit => cmpS a.1 a.2.1))
theorem pn19_ok : PrimsOk Tryd.prog pn19 := primsOk_add pn18_ok cmpS_pc
theorem orI_wf (vals : (List Int)) (r : Int) (h : orI vals = some r) : MF Tryd.prog pn19 41 [enc vals] s0 fun v _ => ris v r := by
  refine TF_run [(0, enc vals)] Tryd.func41 rfl (by simp only [Tryd.f41]; rfl) fun ψ => ?_
  unfold orI at h
  refine TC_seq ?_
  refine TC_reg ?_
  refine TO_as (v := (enc (0 : Int))) rfl ?_
  refine TO_nil ?_
  refine TC_seq ?_
  refine TC_reg ?_
  refine TO_as (v := (enc (0 : Int))) rfl ?_
  refine TO_nil ?_
  refine TC_seq ?_
  refine TC_seq ?_
  refine TC_reg ?_
  refine TO_mv (v := (enc (vals : (List Int)))) rfl ?_
  refine TO_ln Tryd.underlying83 rfl rfl (Enc.self vals) ?_
  refine TO_mv (v := (enc (0 : Int))) rfl ?_
  refine TO_nil ?_
  refine TC_block ?_
  obtain ⟨o, hl, h⟩ := bs h
  refine TC_loop (fun (p : Int) φ s => match p with | v => Fx φ [(3, (enc (0 : Int))), (6, (enc (vals : (List Int)))), (7, (enc ((vals.length : Int) : Int))), (8, (enc (v : Int)))]) (fun (o : (Unit ⊕ Int)) e φ s => match o with | (.inl _) => e = .exit 0 ∧ Fx φ [(3, (enc (0 : Int)))] | (.inr v1) => e = .ret ∧ Fx φ [(2, (enc (v1 : Int)))]) ?_ hl ⟨rfl, rfl, rfl, rfl, trivial⟩ ?_
  · rintro v o h φ s hF
    rw [← hF.eq]
    rw [orI_l1] at h
    refine TC_seq ?_
    refine TC_reg ?_
    refine TO_bi (v := (enc ((decide (v < (vals.length : Int))) : Bool))) rfl rfl rfl ?_
    refine TO_nil ?_
    refine TC_seq ?_
    split at h
    · rename_i hcond
      refine TC_cond_t rfl hcond ?_
      refine TC_skip ?_
      refine TC_seq ?_
      refine TC_block ?_
      refine TC_seq ?_
      refine TC_reg ?_
      obtain ⟨v2, hx, h⟩ := bs h
      refine TO_ix Tryd.underlying83 TTryd.sh3 rfl rfl (Enc.self vals) hx fun p hp => ?_
      refine TO_ld rfl TTryd.ag3 rfl hp fun y hy => ?_
      cases hy
      refine TO_as (v := (enc (v2 : Int))) rfl ?_
      refine TO_nil ?_
      refine TC_seq ?_
      refine TC_reg ?_
      refine TO_mv (v := (enc (v2 : Int))) rfl ?_
      refine TO_mv (v := (enc (0 : Int))) rfl ?_
      refine TO_bi (v := (enc ((v2 != 0) : Bool))) rfl rfl rfl ?_
      refine TO_nil ?_
      split at h
      · rename_i hcond
        refine TC_cond_t rfl hcond ?_
        refine TC_seq ?_
        refine TC_reg ?_
        refine TO_mv (v := (enc (v2 : Int))) rfl ?_
        refine TO_as (v := (enc (v2 : Int))) rfl ?_
        refine TO_nil ?_
        refine TC_ret ?_
        show if _ then _ else _
        rw [if_neg (by simp)]
        rw [← Option.some.inj h]
        exact ⟨_, rfl, rfl, ⟨rfl, trivial⟩⟩
      · rename_i hcond
        refine TC_cond_f rfl hcond ?_
        refine TC_skip ?_
        refine TC_reg ?_
        refine TO_bi (v := (enc ((IntKind.i64.wrap (v + 1)) : Int))) rfl rfl rfl ?_
        refine TO_mv (v := (enc ((IntKind.i64.wrap (v + 1)) : Int))) rfl ?_
        refine TO_nil ?_
        rw [← Option.some.inj h]
        exact ⟨_, rfl, ⟨rfl, rfl, rfl, rfl, trivial⟩⟩
    · rename_i hcond
      refine TC_cond_f rfl hcond ?_
      refine TC_exit ?_
      rw [← Option.some.inj h]
      exact ⟨_, rfl, rfl, ⟨rfl, trivial⟩⟩
  · intro e φ s hE
    rcases o with _u | v1
    · obtain ⟨rfl, hF⟩ := hE
      rw [← hF.eq]
      rw [orI_a1] at h
      show if _ then _ else _
      rw [if_pos rfl]
      refine TC_seq ?_
      refine TC_reg ?_
      refine TO_mv (v := (enc (0 : Int))) rfl ?_
      refine TO_as (v := (enc (0 : Int))) rfl ?_
      refine TO_nil ?_
      refine TC_ret ?_
      rw [← Option.some.inj h]
      exact ⟨rfl, KE1 (a := (0 : Int)) rfl rfl (rfl : is _ (0 : Int)) (rfl : is _ (0 : Int))⟩
    · obtain ⟨rfl, hF⟩ := hE
      rw [← hF.eq]
      rw [orI_a1] at h
      show if _ then _ else _
      rw [if_neg (by simp)]
      rw [← Option.some.inj h]
      exact ⟨rfl, KE1 (a := (v1 : Int)) rfl rfl (rfl : is _ (v1 : Int)) (rfl : is _ (v1 : Int))⟩
theorem orI_pc : PureC Tryd.prog 41 (fun _ => Fn (fun a : (List Int) × Unit => orI a.1)) := fnC pn19_ok ⟨_, Tryd.func41, rfl⟩ <| fun a r h => orI_wf a.1 r h
noncomputable def pn20 : Prims := pn19.add 41 (Fn (fun a : (List Int) × Unit => orI a.1))
theorem pn20_ok : PrimsOk Tryd.prog pn20 := primsOk_add pn19_ok orI_pc
end Go.Ai.Rab
