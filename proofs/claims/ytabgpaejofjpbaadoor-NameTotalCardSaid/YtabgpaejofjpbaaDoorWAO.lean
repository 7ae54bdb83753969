/- My own texts DevNgC, one behind the other. -/
import Derived.Test.YtabgpaejofjpbaaDoorWAF
import Derived.Test.YtabgpaejofjpbaaDoorWAL
import Derived.Test.YtabgpaejofjpbaaDoorWAN
/- Functions of the program as functions of values with types, and that the code answers as they do. -/
set_option linter.unusedVariables false
set_option linter.unusedSimpArgs false
set_option maxRecDepth 100000
set_option maxHeartbeats 4000000
attribute [local irreducible] Go.Ai.TC Go.Ai.TO Go.Ai.MF Go.Ai.runeAt Go.Ai.runeLen Go.Ai.encR
open Go.Ai.Enc (enc is)
open Go.Ai.Res (res ris)
open Go.Ai.Args (args)
namespace Go.Ai.TTryd
open Go.Proofs


end Go.Ai.TTryd
namespace Go.Ai.Rab
open Go.Proofs
noncomputable def isPow2 (x : Int) : Option (Bool) :=
  some (((IntKind.i64.wrap (bitAnd .i64 x (IntKind.i64.wrap (x - 1)))) == 0))
noncomputable def fmtBits_j4 (a1 : (List UInt8)) (i1 : Int) : Option ((List UInt8) × Str) :=
  ((dropA 65 a1 i1).bind fun t => some ([], (str t)))
noncomputable def fmtBits_j3 (a : (List UInt8)) (i : Int) : Option ((List UInt8) × Str) :=
  (fmtBits_j4 a i)
noncomputable def fmtBits_l5 : (UInt64 × (List UInt8) × Int) → Option ((UInt64 × (List UInt8) × Int) ⊕ (UInt64 × (List UInt8) × Int))
  | (u2, a2, i2) => (if (decide (((u2).toNat : Int) ≥ 16)) then ((nth (α := UInt8) (str [48, 49, 50, 51, 52, 53, 54, 55, 56, 57, 97, 98, 99, 100, 101, 102, 103, 104, 105, 106, 107, 108, 109, 110, 111, 112, 113, 114, 115, 116, 117, 118, 119, 120, 121, 122]) (((UInt64.ofInt (bitAnd .u64 ((u2).toNat : Int) 15))).toNat : Int)).bind fun c => ((nthA 65 a2 (IntKind.i64.wrap (i2 - 1))).bind fun v => some (.inl ((UInt64.ofInt ((((u2).toNat : Int)).fdiv (2 ^ 4))), (a2.set (IntKind.i64.wrap (i2 - 1)).toNat c), (IntKind.i64.wrap (i2 - 1)))))) else some (.inr (u2, a2, i2)))
noncomputable def fmtBits_a5 : (UInt64 × (List UInt8) × Int) → Option ((List UInt8) × Str)
  | (u3, a3, i3) => ((nth (α := UInt8) (str [48, 49, 50, 51, 52, 53, 54, 55, 56, 57, 97, 98, 99, 100, 101, 102, 103, 104, 105, 106, 107, 108, 109, 110, 111, 112, 113, 114, 115, 116, 117, 118, 119, 120, 121, 122]) ((u3).toNat : Int)).bind fun c1 => ((nthA 65 a3 (IntKind.i64.wrap (i3 - 1))).bind fun v1 => (fmtBits_j3 (a3.set (IntKind.i64.wrap (i3 - 1)).toNat c1) (IntKind.i64.wrap (i3 - 1)))))
noncomputable def fmtBits_j2 (u1 : UInt64) : Option ((List UInt8) × Str) :=
  ((loop (fmtBits_l5) (u1, (List.replicate 65 (0 : UInt8)), 65)).bind (fmtBits_a5))
noncomputable def fmtBits_j1 (u : UInt64) : Option ((List UInt8) × Str) :=
  (fmtBits_j2 u)
noncomputable def fmtBits (dst : (List UInt8)) (u : UInt64) : Option ((List UInt8) × Str) :=
  (fmtBits_j1 u)
noncomputable def istr_FormatUint (i : UInt64) : Option (Str) :=
  ((fmtBits [] i).bind fun r_ => some (r_.2))
noncomputable def FormatUint (i : UInt64) : Option (Str) :=
  ((istr_FormatUint i).bind fun r_ => some (r_))
noncomputable def name_Quote_l1 (s_ : Str) : ((List UInt8) × Nat) → Option (((List UInt8) × Nat) ⊕ (List UInt8))
  | (b, v) => (if v < List.length s_ then ((if (((runeAt s_ v)).v == ((Rune.mk 65533)).v) then ((subT s_ ((v : Nat) : Int) (List.length s_ : Nat)).bind fun t => ((strings_HasPrefix t (str [239, 191, 189])).bind fun r_ => some (!r_))) else some false).bind fun b2 => (if b2 then ((nth (α := UInt8) s_ ((v : Nat) : Int)).bind fun c => ((FormatUint (UInt64.ofInt (((UInt8.ofInt ((((c).toNat : Int)).fdiv (2 ^ 4)))).toNat : Int))).bind fun r_1 => ((catT (str [92, 120]) r_1).bind fun s_1 => ((nth (α := UInt8) s_ ((v : Nat) : Int)).bind fun c1 => ((FormatUint (UInt64.ofInt (((UInt8.ofInt (bitAnd .u8 ((c1).toNat : Int) 15))).toNat : Int))).bind fun r_2 => ((catT s_1 r_2).bind fun s_2 => ((appS b s_2).bind fun bs_1 => some (.inl (bs_1, (v + runeLen s_ v)))))))))) else ((if (((runeAt s_ v)).v == ((Rune.mk 34)).v) then some true else some (((runeAt s_ v)).v == ((Rune.mk 92)).v)).bind fun b3 => (if b3 then ((catT (str [92]) (encR (runeAt s_ v))).bind fun s_3 => ((appS b s_3).bind fun bs_2 => some (.inl (bs_2, (v + runeLen s_ v))))) else ((if (decide (((runeAt s_ v)).v ≥ ((Rune.mk 32)).v)) then some (decide (((runeAt s_ v)).v ≤ ((Rune.mk 126)).v)) else some false).bind fun b4 => (if b4 then ((app1 b (runeAt s_ v)).bind fun bs_3 => some (.inl (bs_3, (v + runeLen s_ v)))) else ((FormatUint (UInt64.ofInt ((runeAt s_ v)).v)).bind fun r_3 => ((catT (str [92, 117, 123]) r_3).bind fun s_4 => ((catT s_4 (str [125])).bind fun s_5 => ((appS b s_5).bind fun bs_4 => some (.inl (bs_4, (v + runeLen s_ v))))))))))))) else some (.inr b))
noncomputable def name_Quote_a1 : (List UInt8) → Option (Str)
  | b1 => ((app 1 b1 [(34 : UInt8)]).bind fun bs_5 => ((strB bs_5).bind fun bs_6 => some (bs_6)))
noncomputable def name_Quote (s_ : Str) : Option (Str) :=
  ((app 1 ([] : List UInt8) [(34 : UInt8)]).bind fun bs_ => ((loop (name_Quote_l1 s_) (bs_, 0)).bind (name_Quote_a1)))
noncomputable def name_Unquote_l1 : (Str × Str) → Option ((Str × Str) ⊕ (Str ⊕ (Str × Bool)))
  | (inner, out_) => (if (!eqS inner (str [])) then ((strings_Cut inner (str [92])).bind fun r_2 => ((catT out_ r_2.1).bind fun s_1 => (if r_2.2.2 then ((name_escape r_2.2.1).bind fun r_3 => (if (!r_3.2.2) then some (.inr (.inr ((str []), false))) else ((catT s_1 r_3.1).bind fun s_2 => some (.inl (r_3.2.1, s_2))))) else some (.inl (r_2.2.1, s_1))))) else some (.inr (.inl out_)))
noncomputable def name_Unquote_a1 (s_ : Str) : (Str ⊕ (Str × Bool)) → Option (Str × Bool)
  | (.inl out_1) => ((name_Quote out_1).bind fun r_4 => (if (!eqS r_4 s_) then some ((str []), false) else some (out_1, true)))
  | (.inr (v, v1)) => some (v, v1)
noncomputable def name_Unquote (s_ : Str) : Option (Str × Bool) :=
  ((strings_CutPrefix s_ (str [34])).bind fun r_ => ((strings_CutSuffix r_.1 (str [34])).bind fun r_1 => ((if (!r_.2) then some true else some (!r_1.2)).bind fun b => (if b then some ((str []), false) else ((loop (name_Unquote_l1) (r_1.1, (str []))).bind (name_Unquote_a1 s_))))))
noncomputable def heads : Option (Bool) :=
  ((name_Split (str [47, 97, 47, 47, 46, 47, 98, 47])).bind fun r_ => ((name_Split (str [97])).bind fun r_1 => ((name_Unquote (str [34, 92, 117, 123, 101, 57, 125, 92, 117, 123, 57, 125, 34])).bind fun r_2 => ((name_Unquote (str [34, 92, 117, 123, 52, 49, 125, 34])).bind fun r_3 => ((ref_Texts r_.1 [(str [97]), (str [98])]).bind fun r_4 => ((if r_4 then some r_.2.1 else some false).bind fun b => ((if b then some (r_.2.2 == 0) else some false).bind fun b1 => ((if b1 then some (r_1.2.2 == 206) else some false).bind fun b2 => ((if b2 then some (eqS r_2.1 (str [195, 169, 9])) else some false).bind fun b3 => ((if b3 then some r_2.2 else some false).bind fun b4 => ((if b4 then some (!r_3.2) else some false).bind fun b5 => ((if b5 then ((name_Join r_.1).bind fun r_5 => some (eqS r_5 (str [47, 97, 47, 98]))) else some false).bind fun b6 => ((if b6 then ((name_Count (str [195, 169, 120])).bind fun r_6 => some (r_6 == 2)) else some false).bind fun b7 => ((if b7 then ((name_Order (str [97]) (str [98])).bind fun r_7 => some (r_7 == (-1))) else some false).bind fun b8 => ((if b8 then ((name_Check (str [46, 46])).bind fun r_8 => some (r_8 == 206)) else some false).bind fun b9 => ((if b9 then ((name_Check (str [120])).bind fun r_9 => some (r_9 == 0)) else some false).bind fun b10 => some (b10)))))))))))))))))
noncomputable def law_Long_j2 (i : Int) (s_2 : Str) : Option ((Str × Int) ⊕ Str) :=
  some (.inl (s_2, (IntKind.i64.wrap (i + 1))))
noncomputable def law_Long_l1 (n : Int) (two : Bool) : (Str × Int) → Option ((Str × Int) ⊕ Str)
  | (s_, i) => (if (decide (i < n)) then (if two then ((catT s_ (str [195, 169])).bind fun s_3 => (law_Long_j2 i s_3)) else ((catT s_ (str [120])).bind fun s_4 => (law_Long_j2 i s_4))) else some (.inr s_))
noncomputable def law_Long_a1 (n : Int) : Str → Option (Bool)
  | s_1 => ((name_Check s_1).bind fun r_1 => (if (decide (((List.length s_1 : Nat) : Int) > 100)) then ((if (r_1 == 208) then ((heads).bind fun r_2 => some r_2) else some false).bind fun b1 => some (b1)) else ((if (r_1 == 0) then ((name_Count s_1).bind fun r_3 => some (r_3 == n)) else some false).bind fun b2 => ((if b2 then ((heads).bind fun r_4 => some r_4) else some false).bind fun b3 => some (b3)))))
noncomputable def law_Long (n : Int) (two : Bool) : Option (Bool) :=
  ((if (decide (n < 1)) then some true else some (decide (n > 300))).bind fun b => (if b then ((heads).bind fun r_ => some (r_)) else ((loop (law_Long_l1 n two) ((str []), 0)).bind (law_Long_a1 n))))
noncomputable def law_Once (s_ : Str) : Option (Bool) :=
  ((name_Unquote s_).bind fun r_ => (if (!r_.2) then ((if (eqS r_.1 (str [])) then ((heads).bind fun r_1 => some r_1) else some false).bind fun b => some (b)) else ((name_Quote r_.1).bind fun r_2 => ((if (eqS r_2 s_) then ((heads).bind fun r_3 => some r_3) else some false).bind fun b1 => some (b1)))))
noncomputable def law_Checks (s_ : Str) : Option (Bool) :=
  ((name_Split s_).bind fun r_ => ((ref_Split s_).bind fun r_1 => ((name_Check s_).bind fun r_2 => ((ref_Check s_).bind fun r_3 => ((if (r_2 == r_3) then ((ref_Texts r_.1 r_1.1).bind fun r_4 => some r_4) else some false).bind fun b => ((if b then some (r_.2.1 == r_1.2.1) else some false).bind fun b1 => ((if b1 then some (r_.2.2 == r_1.2.2) else some false).bind fun b2 => ((if b2 then ((name_Count s_).bind fun r_5 => ((ref_Count s_).bind fun r_6 => some (r_5 == r_6))) else some false).bind fun b3 => ((if b3 then ((heads).bind fun r_7 => some r_7) else some false).bind fun b4 => some (b4))))))))))
noncomputable def law_Orders (a : Str) (b : Str) : Option (Bool) :=
  ((name_Order a b).bind fun r_ => ((ref_Order a b).bind fun r_1 => ((if (r_ == r_1) then ((heads).bind fun r_2 => some r_2) else some false).bind fun b1 => some (b1))))
noncomputable def law_Quotes (s_ : Str) : Option (Bool) :=
  ((name_Unquote s_).bind fun r_ => ((ref_Unquote s_).bind fun r_1 => ((name_Quote s_).bind fun r_2 => ((ref_Quote s_).bind fun r_3 => ((if (eqS r_2 r_3) then some (eqS r_.1 r_1.1) else some false).bind fun b => ((if b then some (r_.2 == r_1.2) else some false).bind fun b1 => ((if b1 then ((heads).bind fun r_4 => some r_4) else some false).bind fun b2 => some (b2))))))))
noncomputable def law_Back_l1 (r_ : Str) : Int → Option (Int ⊕ (Unit ⊕ Bool))
  | i => (if (decide (i < ((List.length r_ : Nat) : Int))) then ((nth (α := UInt8) r_ i).bind fun c => ((if (decide (((c).toNat : Int) < 32)) then some true else ((nth (α := UInt8) r_ i).bind fun c1 => some (decide (((c1).toNat : Int) > 126)))).bind fun b => (if b then some (.inr (.inr false)) else some (.inl (IntKind.i64.wrap (i + 1)))))) else some (.inr (.inl ())))
noncomputable def law_Back_a1 (r_ : Str) (s_ : Str) : (Unit ⊕ Bool) → Option (Bool)
  | (.inl _) => ((name_Unquote r_).bind fun r_1 => ((if r_1.2 then some (eqS r_1.1 s_) else some false).bind fun b1 => ((if b1 then ((heads).bind fun r_2 => some r_2) else some false).bind fun b2 => some (b2))))
  | (.inr v) => some (v)
noncomputable def law_Back (s_ : Str) : Option (Bool) :=
  ((name_Quote s_).bind fun r_ => ((loop (law_Back_l1 r_) 0).bind (law_Back_a1 r_ s_)))
noncomputable def law_Joins_l1 (l : (List Str)) : (Int × Int) → Option ((Int × Int) ⊕ (Int ⊕ Bool))
  | (n, i) => ((if (decide (i < (l.length : Int))) then some (decide (n ≤ 1000)) else some false).bind fun b => (if b then ((nth l i).bind fun v1 => ((name_Check v1).bind fun r_ => (if (r_ != 0) then ((heads).bind fun r_1 => some (.inr (.inr r_1))) else ((nth l i).bind fun v2 => some (.inl ((IntKind.i64.wrap ((IntKind.i64.wrap (n + 1)) + ((List.length v2 : Nat) : Int))), (IntKind.i64.wrap (i + 1)))))))) else some (.inr (.inl n))))
noncomputable def law_Joins_a1 (l : (List Str)) : (Int ⊕ Bool) → Option (Bool)
  | (.inl n1) => (if (decide (n1 > 1000)) then ((heads).bind fun r_2 => some (r_2)) else ((name_Join l).bind fun r_3 => ((name_Split r_3).bind fun r_4 => ((ref_Texts r_4.1 l).bind fun r_5 => ((if r_5 then some (r_4.2.1 == ((l.length : Int) == 0)) else some false).bind fun b1 => ((if b1 then some (r_4.2.2 == 0) else some false).bind fun b2 => ((if b2 then ((heads).bind fun r_6 => some r_6) else some false).bind fun b3 => some (b3))))))))
  | (.inr v) => some (v)
noncomputable def law_Joins (l : (List Str)) : Option (Bool) :=
  ((loop (law_Joins_l1 l) (0, 0)).bind (law_Joins_a1 l))
noncomputable def law_Total (a : Str) (b : Str) (c : Str) : Option (Bool) :=
  ((name_Order a b).bind fun r_ => ((name_Order b c).bind fun r_1 => ((name_Order a c).bind fun r_2 => ((name_Order b a).bind fun r_3 => ((if (r_ != (IntKind.i64.wrap (0 - r_3))) then some true else some ((r_ == 0) != (eqS a b))).bind fun b1 => (if b1 then some (false) else ((if (decide (r_ ≤ 0)) then some (decide (r_1 ≤ 0)) else some false).bind fun b2 => ((if b2 then some (decide (r_2 > 0)) else some false).bind fun b3 => (if b3 then some (false) else ((heads).bind fun r_4 => some (r_4)))))))))))
theorem isPow2_wf (mx : Int) (x : Int) (r : Bool) (h : isPow2 x = some r) : MF Tryd.prog (pg9 mx) 83 [enc x] (sG (NG mx)) fun v _ => ris v r := by
  refine TF_run [(0, enc x)] Tryd.func83 rfl (by simp only [Tryd.f83]; rfl) fun ψ => ?_
  unfold isPow2 at h
  have hs : Hp (sG (NG mx)) [.gl (NG mx)] := Hp.gl0
  refine TC_seq ?_
  refine TC_reg ?_
  refine TO_as (v := (enc (false : Bool))) rfl ?_
  refine TO_nil ?_
  refine TC_seq ?_
  refine TC_reg ?_
  refine TO_mv (v := (enc (x : Int))) rfl ?_
  refine TO_mv (v := (enc (x : Int))) rfl ?_
  refine TO_bi (v := (enc ((IntKind.i64.wrap (x - 1)) : Int))) rfl rfl rfl ?_
  refine TO_bi (v := (enc ((IntKind.i64.wrap (bitAnd .i64 x (IntKind.i64.wrap (x - 1)))) : Int))) rfl rfl rfl ?_
  refine TO_bi (v := (enc (((IntKind.i64.wrap (bitAnd .i64 x (IntKind.i64.wrap (x - 1)))) == 0) : Bool))) rfl rfl rfl ?_
  refine TO_as (v := (enc (((IntKind.i64.wrap (bitAnd .i64 x (IntKind.i64.wrap (x - 1)))) == 0) : Bool))) rfl ?_
  refine TO_nil ?_
  refine TC_ret ?_
  rw [← Option.some.inj h]
  exact ⟨rfl, KE1 (a := (((IntKind.i64.wrap (bitAnd .i64 x (IntKind.i64.wrap (x - 1)))) == 0) : Bool)) rfl rfl (rfl : is _ (((IntKind.i64.wrap (bitAnd .i64 x (IntKind.i64.wrap (x - 1)))) == 0) : Bool)) (rfl : is _ (((IntKind.i64.wrap (bitAnd .i64 x (IntKind.i64.wrap (x - 1)))) == 0) : Bool))⟩
theorem isPow2_pc (mx : Int) : PureC Tryd.prog 83 (FnG (NG mx) (fun a : Int × Unit => isPow2 a.1)) := fnCG (pg9_ok mx) ⟨_, Tryd.func83, rfl⟩ <| fun a r h => isPow2_wf mx a.1 r h
noncomputable def ph1 (mx : Int) : Prims := (pg9 mx).addG 83 (FnG (NG mx) (fun a : Int × Unit => isPow2 a.1))
theorem ph1_ok (mx : Int) : PrimsOk Tryd.prog (ph1 mx) := primsOk_addG (pg9_ok mx) (isPow2_pc mx)
theorem fmtBits_wf (mx : Int) (dst : (List UInt8)) (u : UInt64) (r : (List UInt8) × Str) (h : fmtBits dst u = some r) : MF Tryd.prog (ph1 mx) 71 [enc dst, enc u, enc (16 : Int), enc (false : Bool), enc (false : Bool)] (sG (NG mx)) fun v _ => ris v r := by
  refine TF_run [(0, enc dst), (1, enc u), (2, enc (16 : Int)), (3, enc (false : Bool)), (4, enc (false : Bool))] Tryd.func71 rfl (by simp only [Tryd.f71]; rfl) fun ψ => ?_
  unfold fmtBits at h
  have hs : Hp (sG (NG mx)) [.gl (NG mx)] := Hp.gl0
  refine TC_seq ?_
  refine TC_reg ?_
  refine TO_as (v := .nils) rfl ?_
  refine TO_as (v := (enc ((str []) : Str))) rfl ?_
  refine TO_nil ?_
  refine TC_cut (fun φ s => Fx φ [(0, (enc (dst : (List UInt8)))), (1, (enc (u : UInt64))), (2, (enc (16 : Int))), (3, (enc (false : Bool))), (4, (enc (false : Bool))), (10, .nils), (11, (enc ((str []) : Str)))] ∧ Hp s [(.gl (NG mx))] ∧ fmtBits_j1 u = some r) ?_ ?_
  · refine TC_seq ?_
    refine TC_reg ?_
    refine TO_mv (v := (enc (16 : Int))) rfl ?_
    refine TO_bi (v := (enc ((decide (16 < 2)) : Bool))) rfl rfl rfl ?_
    refine TO_mv (v := (enc ((decide (16 < 2)) : Bool))) rfl ?_
    refine TO_on rfl rfl (by decide) ?_
    refine TO_mv (v := (enc (16 : Int))) rfl ?_
    refine TO_on rfl rfl (by decide) ?_
    refine TO_bi (v := (enc ((16 == 10) : Bool))) rfl rfl rfl ?_
    refine TO_pf (v := (enc ((16 == 10) : Bool))) rfl (by decide) rfl ?_
    refine TO_mv (v := (enc ((16 == 10) : Bool))) rfl ?_
    refine TO_on rfl rfl (by decide) ?_
    refine TO_mv (v := (enc (16 : Int))) rfl ?_
    refine TO_on rfl rfl (by decide) ?_
    refine TO_bi (v := (enc ((decide (16 > 36)) : Bool))) rfl rfl rfl ?_
    refine TO_pf (v := (enc ((decide (16 > 36)) : Bool))) rfl (by decide) rfl ?_
    refine TO_nil ?_
    refine TC_cond_f rfl Bool.false_ne_true ?_
    refine TC_skip ?_
    exact ⟨⟨rfl, rfl, rfl, rfl, rfl, rfl, rfl, trivial⟩, hs, h⟩
  · rintro φ s ⟨hF, hs, h⟩
    rw [← hF.eq]
    unfold fmtBits_j1 at h
    refine TC_seq ?_
    refine TC_reg ?_
    refine TO_alA (N := 65) (zv := (0 : UInt8)) rfl (by kernel_rfl) hs fun m s hs => ?_
    refine TO_nil ?_
    refine TC_seq ?_
    refine TC_reg ?_
    refine TO_as (v := (enc (65 : Int))) rfl ?_
    refine TO_nil ?_
    refine TC_cut (fun φ s => ∃ (u1 : UInt64), Fx φ [(0, (enc (dst : (List UInt8)))), (1, (enc (u1 : UInt64))), (2, (enc (16 : Int))), (3, (enc (false : Bool))), (4, (enc (false : Bool))), (10, .nils), (11, (enc ((str []) : Str))), (12, (.ptr m 0)), (13, (enc (65 : Int)))] ∧ Hp s [(.cells m (encA (List.replicate 65 (0 : UInt8)))), (.gl (NG mx))] ∧ fmtBits_j2 u1 = some r) ?_ ?_
    · refine TC_seq ?_
      refine TC_reg ?_
      refine TO_mv (v := (enc (false : Bool))) rfl ?_
      refine TO_nil ?_
      refine TC_cond_f rfl Bool.false_ne_true ?_
      refine TC_skip ?_
      exact ⟨u, ⟨rfl, rfl, rfl, rfl, rfl, rfl, rfl, rfl, rfl, trivial⟩, hs, h⟩
    · rintro φ s ⟨u1, hF, hs, h⟩
      rw [← hF.eq]
      unfold fmtBits_j2 at h
      refine TC_cut (fun φ s => ∃ (a : (List UInt8)) (i : Int), Fx φ [(0, (enc (dst : (List UInt8)))), (3, (enc (false : Bool))), (4, (enc (false : Bool))), (10, .nils), (11, (enc ((str []) : Str))), (12, (.ptr m 0)), (13, (enc (i : Int)))] ∧ Hp s [(.gl (NG mx)), (.cells m (encA a))] ∧ fmtBits_j3 a i = some r) ?_ ?_
      · refine TC_seq ?_
        refine TC_reg ?_
        refine TO_mv (v := (enc (16 : Int))) rfl ?_
        refine TO_fnG (f := fun a : Int × Unit => isPow2 a.1) (a := (16, ())) (r := (true : Bool)) rfl Tryd.func83 rfl rfl (.cons (a := (16 : Int)) (rfl : is _ (16 : Int)) .nil) hs (List.mem_cons_of_mem _ List.mem_cons_self) (by kernel_rfl) ?_
        refine TO_nil ?_
        refine TC_cond_t rfl rfl ?_
        refine TC_seq ?_
        refine TC_reg ?_
        refine TO_mv (v := (enc (16 : Int))) rfl ?_
        refine TO_cvu64 Tryd.underlying3 Tryd.underlying57 rfl ?_
        refine TO_fnG (f := fun a : UInt64 × Unit => tz16 a.1) (a := ((16 : UInt64), ())) (r := (4 : Int)) rfl Tryd.func84 rfl rfl (.cons (a := ((16 : UInt64) : UInt64)) (rfl : is _ ((16 : UInt64) : UInt64)) .nil) hs (List.mem_cons_of_mem _ List.mem_cons_self) (by kernel_rfl) ?_
        refine TO_cvu64 Tryd.underlying3 Tryd.underlying57 rfl ?_
        refine TO_as (v := (enc ((UInt64.ofInt 4) : UInt64))) rfl ?_
        refine TO_nil ?_
        refine TC_seq ?_
        refine TC_reg ?_
        refine TO_mv (v := (enc (16 : Int))) rfl ?_
        refine TO_cvu64 Tryd.underlying3 Tryd.underlying56 rfl ?_
        refine TO_as (v := (enc ((UInt64.ofInt 16) : UInt64))) rfl ?_
        refine TO_nil ?_
        refine TC_seq ?_
        refine TC_reg ?_
        refine TO_mv (v := (enc (16 : Int))) rfl ?_
        refine TO_cvu64 Tryd.underlying3 Tryd.underlying57 rfl ?_
        refine TO_biw64 rfl rfl rfl ?_
        refine TO_as (v := (enc ((UInt64.ofInt (16 - 1)) : UInt64))) rfl ?_
        refine TO_nil ?_
        refine TC_seq ?_
        refine TC_block ?_
        obtain ⟨o, hl, h⟩ := bs h
        refine TC_loop (fun (p : (UInt64 × (List UInt8) × Int)) φ s => match p with | (u2, a2, i2) => Fx φ [(0, (enc (dst : (List UInt8)))), (1, (enc (u2 : UInt64))), (3, (enc (false : Bool))), (4, (enc (false : Bool))), (10, .nils), (11, (enc ((str []) : Str))), (12, (.ptr m 0)), (13, (enc (i2 : Int))), (14, (enc ((UInt64.ofInt 4) : UInt64))), (15, (enc ((UInt64.ofInt 16) : UInt64))), (16, (enc ((UInt64.ofInt (16 - 1)) : UInt64)))] ∧ Hp s [(.gl (NG mx)), (.cells m (encA a2))]) (fun (o : (UInt64 × (List UInt8) × Int)) e φ s => match o with | (u3, a3, i3) => e = .exit 0 ∧ Fx φ [(0, (enc (dst : (List UInt8)))), (1, (enc (u3 : UInt64))), (3, (enc (false : Bool))), (4, (enc (false : Bool))), (10, .nils), (11, (enc ((str []) : Str))), (12, (.ptr m 0)), (13, (enc (i3 : Int)))] ∧ Hp s [(.gl (NG mx)), (.cells m (encA a3))]) ?_ hl ⟨⟨rfl, rfl, rfl, rfl, rfl, rfl, rfl, rfl, rfl, rfl, rfl, trivial⟩, (Hp.front [(.cells m (encA (List.replicate 65 (0 : UInt8))))] (b := []) (Hp.front [] (b := [(.gl (NG mx))]) hs))⟩ ?_
        · rintro ⟨u2, a2, i2⟩ o h φ s ⟨hF, hs⟩
          rw [← hF.eq]
          rw [fmtBits_l5] at h
          refine TC_seq ?_
          refine TC_seq ?_
          refine TC_reg ?_
          refine TO_mv (v := (enc (u2 : UInt64))) rfl ?_
          refine TO_mv (v := (enc ((UInt64.ofInt 16) : UInt64))) rfl ?_
          refine TO_bi (v := (enc ((decide (((u2).toNat : Int) ≥ 16)) : Bool))) rfl rfl rfl ?_
          refine TO_nil ?_
          split at h
          · rename_i hcond
            refine TC_cond_t rfl hcond ?_
            refine TC_skip ?_
            refine TC_block ?_
            refine TC_seq ?_
            refine TC_reg ?_
            refine TO_mv (v := (enc (i2 : Int))) rfl ?_
            refine TO_bi (v := (enc ((IntKind.i64.wrap (i2 - 1)) : Int))) rfl rfl rfl ?_
            refine TO_as (v := (enc ((IntKind.i64.wrap (i2 - 1)) : Int))) rfl ?_
            refine TO_nil ?_
            refine TC_seq ?_
            refine TC_reg ?_
            refine TO_mv (v := (enc ((IntKind.i64.wrap (i2 - 1)) : Int))) rfl ?_
            refine TO_mv (v := (enc (u2 : UInt64))) rfl ?_
            refine TO_mv (v := (enc ((UInt64.ofInt (16 - 1)) : UInt64))) rfl ?_
            refine TO_biw64 rfl rfl rfl ?_
            obtain ⟨c, hx1, h⟩ := bs h
            refine TO_ixS Tryd.underlying9 rfl rfl hx1 ?_
            obtain ⟨v, hx2, h⟩ := bs h
            refine TO_ixA Tryd.underlying102 TTryd.sz5 rfl rfl hx2 ?_
            replace hs := Hp.front [(.gl (NG mx))] (b := []) hs
            refine TO_stA (a := (c : UInt8)) rfl rfl rfl hx2 TTryd.sz5 hs fun s hs => ?_
            refine TO_nil ?_
            refine TC_reg ?_
            refine TO_mv (v := (enc (u2 : UInt64))) rfl ?_
            refine TO_mv (v := (enc ((UInt64.ofInt 4) : UInt64))) rfl ?_
            refine TO_biw64r rfl rfl rfl (shr_rng 4 (by have := u2.toNat_lt; omega)) ?_
            refine TO_as (v := (enc ((UInt64.ofInt ((((u2).toNat : Int)).fdiv (2 ^ 4))) : UInt64))) rfl ?_
            refine TO_nil ?_
            rw [← Option.some.inj h]
            exact ⟨_, rfl, ⟨⟨rfl, rfl, rfl, rfl, rfl, rfl, rfl, rfl, rfl, rfl, rfl, trivial⟩, (Hp.front [(.cells m (encA (a2.set (IntKind.i64.wrap (i2 - 1)).toNat c)))] (b := []) (Hp.front [] (b := [(.gl (NG mx))]) hs))⟩⟩
          · rename_i hcond
            refine TC_cond_f rfl hcond ?_
            refine TC_exit ?_
            rw [← Option.some.inj h]
            exact ⟨_, rfl, rfl, ⟨⟨rfl, rfl, rfl, rfl, rfl, rfl, rfl, rfl, trivial⟩, hs⟩⟩
        · intro e φ s hE
          rcases o with ⟨u3, a3, i3⟩
          obtain ⟨rfl, hF, hs⟩ := hE
          rw [← hF.eq]
          rw [fmtBits_a5] at h
          show if _ then _ else _
          rw [if_pos rfl]
          refine TC_seq ?_
          refine TC_reg ?_
          refine TO_mv (v := (enc (i3 : Int))) rfl ?_
          refine TO_bi (v := (enc ((IntKind.i64.wrap (i3 - 1)) : Int))) rfl rfl rfl ?_
          refine TO_as (v := (enc ((IntKind.i64.wrap (i3 - 1)) : Int))) rfl ?_
          refine TO_nil ?_
          refine TC_reg ?_
          refine TO_mv (v := (enc ((IntKind.i64.wrap (i3 - 1)) : Int))) rfl ?_
          refine TO_mv (v := (enc (u3 : UInt64))) rfl ?_
          obtain ⟨c1, hx3, h⟩ := bs h
          refine TO_ixS Tryd.underlying9 rfl rfl hx3 ?_
          obtain ⟨v1, hx4, h⟩ := bs h
          refine TO_ixA Tryd.underlying102 TTryd.sz5 rfl rfl hx4 ?_
          replace hs := Hp.front [(.gl (NG mx))] (b := []) hs
          refine TO_stA (a := (c1 : UInt8)) rfl rfl rfl hx4 TTryd.sz5 hs fun s hs => ?_
          refine TO_nil ?_
          exact ⟨(a3.set (IntKind.i64.wrap (i3 - 1)).toNat c1), (IntKind.i64.wrap (i3 - 1)), ⟨rfl, rfl, rfl, rfl, rfl, rfl, rfl, trivial⟩, (Hp.front [(.cells m (encA (a3.set (IntKind.i64.wrap (i3 - 1)).toNat c1)))] (b := []) (Hp.front [] (b := [(.gl (NG mx))]) hs)), h⟩
      · rintro φ s ⟨a, i, hF, hs, h⟩
        rw [← hF.eq]
        unfold fmtBits_j3 at h
        refine TC_cut (fun φ s => ∃ (a1 : (List UInt8)) (i1 : Int), Fx φ [(0, (enc (dst : (List UInt8)))), (4, (enc (false : Bool))), (10, .nils), (11, (enc ((str []) : Str))), (12, (.ptr m 0)), (13, (enc (i1 : Int)))] ∧ Hp s [(.gl (NG mx)), (.cells m (encA a1))] ∧ fmtBits_j4 a1 i1 = some r) ?_ ?_
        · refine TC_seq ?_
          refine TC_reg ?_
          refine TO_mv (v := (enc (false : Bool))) rfl ?_
          refine TO_nil ?_
          refine TC_cond_f rfl Bool.false_ne_true ?_
          refine TC_skip ?_
          exact ⟨a, i, ⟨rfl, rfl, rfl, rfl, rfl, rfl, trivial⟩, hs, h⟩
        · rintro φ s ⟨a1, i1, hF, hs, h⟩
          rw [← hF.eq]
          unfold fmtBits_j4 at h
          refine TC_seq ?_
          refine TC_seq ?_
          refine TC_reg ?_
          refine TO_mv (v := (enc (false : Bool))) rfl ?_
          refine TO_nil ?_
          refine TC_cond_f rfl Bool.false_ne_true ?_
          refine TC_skip ?_
          refine TC_seq ?_
          refine TC_reg ?_
          refine TO_mv (v := (enc (i1 : Int))) rfl ?_
          obtain ⟨t, hx, h⟩ := bs h
          refine TO_slA10 rfl Tryd.underlying102 TTryd.sh5 rfl rfl hx fun z hz => ?_
          replace hs := Hp.front [(.gl (NG mx))] (b := []) hs
          refine TO_cvVS Tryd.underlying47 Tryd.underlying9 Tryd.underlying5 rfl hz hs ?_
          refine TO_as (v := (enc ((str t) : Str))) rfl ?_
          refine TO_nil ?_
          refine TC_ret ?_
          rw [← Option.some.inj h]
          exact ⟨rfl, KE2 (a1 := ([] : (List UInt8))) (a2 := ((str t) : Str)) rfl rfl rfl isL.nil (rfl : is _ ((str t) : Str)) ⟨_, _, rfl, isL.nil, (rfl : is _ ((str t) : Str))⟩⟩
theorem fmtBits_pc (mx : Int) : PureC Tryd.prog 71 (FnG (NG mx) (fun a : (List UInt8) × UInt64 × Int × Bool × Bool × Unit => if a.2.2.1 = 16 ∧ a.2.2.2.1 = false ∧ a.2.2.2.2.1 = false then fmtBits a.1 a.2.1 else none)) := fnCG (ph1_ok mx) ⟨_, Tryd.func71, rfl⟩ <| fun a r h => by
  obtain ⟨x0, x1, x2, x3, x4, _⟩ := a
  simp only at h
  split at h
  · rename_i hc
    obtain ⟨rfl, rfl, rfl⟩ := hc
    exact fmtBits_wf mx x0 x1 r h
  · cases h
noncomputable def ph2 (mx : Int) : Prims := (ph1 mx).addG 71 (FnG (NG mx) (fun a : (List UInt8) × UInt64 × Int × Bool × Bool × Unit => if a.2.2.1 = 16 ∧ a.2.2.2.1 = false ∧ a.2.2.2.2.1 = false then fmtBits a.1 a.2.1 else none))
theorem ph2_ok (mx : Int) : PrimsOk Tryd.prog (ph2 mx) := primsOk_addG (ph1_ok mx) (fmtBits_pc mx)
theorem istr_FormatUint_wf (mx : Int) (i : UInt64) (r : Str) (h : istr_FormatUint i = some r) : MF Tryd.prog (ph2 mx) 54 [enc i, enc (16 : Int)] (sG (NG mx)) fun v _ => ris v r := by
  refine TF_run [(0, enc i), (1, enc (16 : Int))] Tryd.func54 rfl (by simp only [Tryd.f54]; rfl) fun ψ => ?_
  unfold istr_FormatUint at h
  have hs : Hp (sG (NG mx)) [.gl (NG mx)] := Hp.gl0
  refine TC_seq ?_
  refine TC_reg ?_
  refine TO_as (v := (enc ((str []) : Str))) rfl ?_
  refine TO_nil ?_
  refine TC_seq ?_
  refine TC_seq ?_
  refine TC_reg ?_
  refine TO_mv (v := (enc (16 : Int))) rfl ?_
  refine TO_bi (v := (enc ((16 == 10) : Bool))) rfl rfl rfl ?_
  refine TO_nil ?_
  refine TC_cond_f rfl Bool.false_ne_true ?_
  refine TC_skip ?_
  refine TC_seq ?_
  refine TC_reg ?_
  refine TO_mv (v := (enc (i : UInt64))) rfl ?_
  refine TO_mv (v := (enc (16 : Int))) rfl ?_
  obtain ⟨r_, hx, h⟩ := bs h
  refine TO_fnG (f := fun a : (List UInt8) × UInt64 × Int × Bool × Bool × Unit => if a.2.2.1 = 16 ∧ a.2.2.2.1 = false ∧ a.2.2.2.2.1 = false then fmtBits a.1 a.2.1 else none) (a := ([], i, 16, false, false, ())) rfl Tryd.func71 rfl rfl (.cons (a := ([] : (List UInt8))) isL.nil (.cons (a := (i : UInt64)) (Enc.self _) (.cons (a := (16 : Int)) (rfl : is _ (16 : Int)) (.cons (a := (false : Bool)) (rfl : is _ (false : Bool)) (.cons (a := (false : Bool)) (rfl : is _ (false : Bool)) .nil))))) hs List.mem_cons_self ((if_pos ⟨rfl, rfl, rfl⟩).trans hx) ?_
  refine TO_mv (v := (res r_)) rfl ?_
  refine TO_ex rfl rfl ?_
  refine TO_ex rfl rfl ?_
  refine TO_as (v := (enc (r_.1 : (List UInt8)))) rfl ?_
  refine TO_as (v := (enc (r_.2 : Str))) rfl ?_
  refine TO_nil ?_
  refine TC_seq ?_
  refine TC_reg ?_
  refine TO_mv (v := (enc (r_.2 : Str))) rfl ?_
  refine TO_as (v := (enc (r_.2 : Str))) rfl ?_
  refine TO_nil ?_
  refine TC_ret ?_
  rw [← Option.some.inj h]
  exact ⟨rfl, KE1 (a := (r_.2 : Str)) rfl rfl (rfl : is _ (r_.2 : Str)) (rfl : is _ (r_.2 : Str))⟩
theorem istr_FormatUint_pc (mx : Int) : PureC Tryd.prog 54 (FnG (NG mx) (fun a : UInt64 × Int × Unit => if a.2.1 = 16 then istr_FormatUint a.1 else none)) := fnCG (ph2_ok mx) ⟨_, Tryd.func54, rfl⟩ <| fun a r h => by
  obtain ⟨x0, x1, _⟩ := a
  simp only at h
  split at h
  · rename_i hc
    obtain rfl := hc
    exact istr_FormatUint_wf mx x0 r h
  · cases h
noncomputable def ph3 (mx : Int) : Prims := (ph2 mx).addG 54 (FnG (NG mx) (fun a : UInt64 × Int × Unit => if a.2.1 = 16 then istr_FormatUint a.1 else none))
theorem ph3_ok (mx : Int) : PrimsOk Tryd.prog (ph3 mx) := primsOk_addG (ph2_ok mx) (istr_FormatUint_pc mx)
theorem FormatUint_wf (mx : Int) (i : UInt64) (r : Str) (h : FormatUint i = some r) : MF Tryd.prog (ph3 mx) 34 [enc i, enc (16 : Int)] (sG (NG mx)) fun v _ => ris v r := by
  refine TF_run [(0, enc i), (1, enc (16 : Int))] Tryd.func34 rfl (by simp only [Tryd.f34]; rfl) fun ψ => ?_
  unfold FormatUint at h
  have hs : Hp (sG (NG mx)) [.gl (NG mx)] := Hp.gl0
  refine TC_seq ?_
  refine TC_reg ?_
  refine TO_as (v := (enc ((str []) : Str))) rfl ?_
  refine TO_nil ?_
  refine TC_seq ?_
  refine TC_reg ?_
  refine TO_mv (v := (enc (i : UInt64))) rfl ?_
  refine TO_mv (v := (enc (16 : Int))) rfl ?_
  obtain ⟨r_, hx, h⟩ := bs h
  refine TO_fnG (f := fun a : UInt64 × Int × Unit => if a.2.1 = 16 then istr_FormatUint a.1 else none) (a := (i, 16, ())) rfl Tryd.func54 rfl rfl (.cons (a := (i : UInt64)) (Enc.self _) (.cons (a := (16 : Int)) (rfl : is _ (16 : Int)) .nil)) hs List.mem_cons_self ((if_pos rfl).trans hx) ?_
  refine TO_as (v := (enc (r_ : Str))) rfl ?_
  refine TO_nil ?_
  refine TC_ret ?_
  rw [← Option.some.inj h]
  exact ⟨rfl, KE1 (a := (r_ : Str)) rfl rfl (rfl : is _ (r_ : Str)) (rfl : is _ (r_ : Str))⟩
theorem FormatUint_pc (mx : Int) : PureC Tryd.prog 34 (FnG (NG mx) (fun a : UInt64 × Int × Unit => if a.2.1 = 16 then FormatUint a.1 else none)) := fnCG (ph3_ok mx) ⟨_, Tryd.func34, rfl⟩ <| fun a r h => by
  obtain ⟨x0, x1, _⟩ := a
  simp only at h
  split at h
  · rename_i hc
    obtain rfl := hc
    exact FormatUint_wf mx x0 r h
  · cases h
noncomputable def ph4 (mx : Int) : Prims := (ph3 mx).addG 34 (FnG (NG mx) (fun a : UInt64 × Int × Unit => if a.2.1 = 16 then FormatUint a.1 else none))
theorem ph4_ok (mx : Int) : PrimsOk Tryd.prog (ph4 mx) := primsOk_addG (ph3_ok mx) (FormatUint_pc mx)
theorem name_Quote_wf (mx : Int) (s_ : Str) (r : Str) (h : name_Quote s_ = some r) : MF Tryd.prog (ph4 mx) 15 [enc s_] (sG (NG mx)) fun v _ => ris v r := by
  refine TF_run [(0, enc s_)] Tryd.func15 rfl (by simp only [Tryd.f15]; rfl) fun ψ => ?_
  unfold name_Quote at h
  have hs : Hp (sG (NG mx)) [.gl (NG mx)] := Hp.gl0
  refine TC_seq ?_
  refine TC_reg ?_
  refine TO_as (v := (enc ((str []) : Str))) rfl ?_
  refine TO_nil ?_
  refine TC_seq ?_
  refine TC_reg ?_
  refine TO_alT (z := .agg [.nilp, .nils]) (by kernel_rfl) rfl hs fun m s hs => ?_
  refine TO_nil ?_
  refine TC_seq ?_
  refine TC_reg ?_
  obtain ⟨bs_, hx, h⟩ := bs h
  refine TO_callM (by kernel_rfl) Tryd.func31 rfl (vs := [(.ptr m 0), (enc ((34 : UInt8) : UInt8))]) rfl (wb1 (by kernel_rfl) isB1_new hs hx) fun w s ⟨en, hb_en, hs⟩ => ?_
  refine TO_nil ?_
  refine TC_seq ?_
  refine TC_seq ?_
  refine TC_reg ?_
  refine TO_mv (v := (enc (s_ : Str))) rfl ?_
  refine TO_rg Tryd.underlying9 rfl hs fun m1 s hs => ?_
  refine TO_nil ?_
  refine TC_block ?_
  obtain ⟨b1, hl, h⟩ := bs h
  refine TC_loop (fun (p : ((List UInt8) × Nat)) φ s => match p with | (b, v) => ∃ (en1 : En), isB1 m en1 b ∧ Fx φ [(0, (enc (s_ : Str))), (3, (.ptr m 0)), (8, (.ptr m1 0))] ∧ Hp s [(.gl (NG mx)), en1, (.it m1 s_ v)]) (fun (o : (List UInt8)) e φ s => match o with | b1 => e = .exit 0 ∧ ∃ (en2 : En), isB1 m en2 b1 ∧ Fx φ [(3, (.ptr m 0))] ∧ Hp s [(.gl (NG mx)), en2]) ?_ hl ⟨en, hb_en, ⟨rfl, rfl, rfl, trivial⟩, (Hp.front [en, (.it m1 s_ 0)] (b := []) (Hp.front [(.it m1 s_ 0)] (b := [(.gl (NG mx))]) (Hp.front [] (b := [en, (.gl (NG mx))]) hs)))⟩ ?_
  · rintro ⟨b, v⟩ o h φ s ⟨en1, hb_en1, hF, hs⟩
    rw [← hF.eq]
    rw [name_Quote_l1] at h
    refine TC_seq ?_
    refine TC_reg ?_
    replace hs := Hp.front [(.gl (NG mx)), en1] (b := []) hs
    split at h
    · rename_i cn
      refine TO_nx_t rfl hs cn fun s hs => ?_
      refine TO_ex rfl rfl ?_
      refine TO_nil ?_
      refine TC_seq ?_
      refine TC_cond_t rfl rfl ?_
      refine TC_skip ?_
      refine TC_block ?_
      refine TC_seq ?_
      refine TC_reg ?_
      refine TO_ex rfl rfl ?_
      refine TO_ex rfl rfl ?_
      refine TO_as (v := (enc (((v : Nat) : Int) : Int))) rfl ?_
      refine TO_as (v := (enc ((runeAt s_ v) : Rune))) rfl ?_
      refine TO_nil ?_
      refine TC_block ?_
      refine TC_seq ?_
      refine TC_reg ?_
      refine TO_mv (v := (enc ((runeAt s_ v) : Rune))) rfl ?_
      refine TO_bi (v := (enc ((((runeAt s_ v)).v == ((Rune.mk 65533)).v) : Bool))) rfl rfl rfl ?_
      refine TO_mv (v := (enc ((((runeAt s_ v)).v == ((Rune.mk 65533)).v) : Bool))) rfl ?_
      obtain ⟨b2, hb_b2, h⟩ := bs h
      refine TO_cut 6 (fun φ s => Hp s [(.it m1 s_ (v + runeLen s_ v)), (.gl (NG mx)), en1] ∧ Fx φ [(0, (enc (s_ : Str))), (3, (.ptr m 0)), (4, (enc (((v : Nat) : Int) : Int))), (5, (enc ((runeAt s_ v) : Rune))), (8, (.ptr m1 0)), (28, (enc (b2 : Bool)))]) ?_ ?_
      · split at hb_b2
        · rename_i cg
          refine TO_on rfl rfl cg ?_
          refine TO_mv (v := (enc (s_ : Str))) rfl ?_
          refine TO_on rfl rfl cg ?_
          refine TO_mv (v := (enc (((v : Nat) : Int) : Int))) rfl ?_
          refine TO_on rfl rfl cg ?_
          obtain ⟨t, hx1, hb_b2⟩ := bs hb_b2
          refine TO_slS10 Tryd.underlying9 rfl rfl hx1 ?_
          refine TO_on rfl rfl cg ?_
          obtain ⟨r_, hx2, hb_b2⟩ := bs hb_b2
          refine TO_fn (f := fun a : Str × Str × Unit => strings_HasPrefix a.1 a.2.1) (a := (t, (str [239, 191, 189]), ())) rfl Tryd.func32 rfl rfl (.cons (a := (t : Str)) (Enc.self _) (.cons (a := ((str [239, 191, 189]) : Str)) (Enc.self _) .nil)) hx2 ?_
          refine TO_on rfl rfl cg ?_
          refine TO_un (v := (enc ((!r_) : Bool))) rfl rfl ?_
          refine TO_pt (v := (enc ((!r_) : Bool))) rfl cg rfl ?_
          refine TO_nil ?_
          rw [← Option.some.inj hb_b2]
          exact ⟨hs, ⟨rfl, rfl, rfl, rfl, rfl, rfl, trivial⟩⟩
        · rename_i cg1
          refine TO_off rfl rfl cg1 ?_
          refine TO_off rfl rfl cg1 ?_
          refine TO_off rfl rfl cg1 ?_
          refine TO_off rfl rfl cg1 ?_
          refine TO_off rfl rfl cg1 ?_
          refine TO_pf (v := (enc (false : Bool))) rfl cg1 rfl ?_
          refine TO_nil ?_
          rw [← Option.some.inj hb_b2]
          exact ⟨hs, ⟨rfl, rfl, rfl, rfl, rfl, rfl, trivial⟩⟩
      · rintro φ s ⟨hs, hF⟩
        rw [← hF.eq]
        refine TO_as (v := (enc (b2 : Bool))) rfl ?_
        refine TO_nil ?_
        split at h
        · rename_i hcond
          refine TC_cond_t rfl hcond ?_
          refine TC_ord [0, 1, 2, 3, 4, 5, 6, 7, 8, 9, 10, 11, 12, 13, 14] (by kernel_rfl) ?_
          refine TO_mv (v := (enc (s_ : Str))) rfl ?_
          refine TO_mv (v := (enc (((v : Nat) : Int) : Int))) rfl ?_
          obtain ⟨c, hx3, h⟩ := bs h
          refine TO_ixS Tryd.underlying9 rfl rfl hx3 ?_
          refine TO_biw8r rfl rfl rfl (shr_rng 4 (by have := c.toNat_lt; omega)) ?_
          refine TO_cvu64 Tryd.underlying5 Tryd.underlying56 rfl ?_
          obtain ⟨r_1, hx4, h⟩ := bs h
          refine TO_fnG (f := fun a : UInt64 × Int × Unit => if a.2.1 = 16 then FormatUint a.1 else none) (a := ((UInt64.ofInt (((UInt8.ofInt ((((c).toNat : Int)).fdiv (2 ^ 4)))).toNat : Int)), 16, ())) rfl Tryd.func34 rfl rfl (.cons (a := ((UInt64.ofInt (((UInt8.ofInt ((((c).toNat : Int)).fdiv (2 ^ 4)))).toNat : Int)) : UInt64)) (Enc.self _) (.cons (a := (16 : Int)) (rfl : is _ (16 : Int)) .nil)) hs (List.mem_cons_of_mem _ List.mem_cons_self) ((if_pos rfl).trans hx4) ?_
          obtain ⟨s_1, hx5, h⟩ := bs h
          refine TO_cat rfl rfl hx5 ?_
          refine TO_mv (v := (enc (s_ : Str))) rfl ?_
          refine TO_mv (v := (enc (((v : Nat) : Int) : Int))) rfl ?_
          obtain ⟨c1, hx6, h⟩ := bs h
          refine TO_ixS Tryd.underlying9 rfl rfl hx6 ?_
          refine TO_biw8 rfl rfl rfl ?_
          refine TO_cvu64 Tryd.underlying5 Tryd.underlying56 rfl ?_
          obtain ⟨r_2, hx7, h⟩ := bs h
          refine TO_fnG (f := fun a : UInt64 × Int × Unit => if a.2.1 = 16 then FormatUint a.1 else none) (a := ((UInt64.ofInt (((UInt8.ofInt (bitAnd .u8 ((c1).toNat : Int) 15))).toNat : Int)), 16, ())) rfl Tryd.func34 rfl rfl (.cons (a := ((UInt64.ofInt (((UInt8.ofInt (bitAnd .u8 ((c1).toNat : Int) 15))).toNat : Int)) : UInt64)) (Enc.self _) (.cons (a := (16 : Int)) (rfl : is _ (16 : Int)) .nil)) hs (List.mem_cons_of_mem _ List.mem_cons_self) ((if_pos rfl).trans hx7) ?_
          obtain ⟨s_2, hx8, h⟩ := bs h
          refine TO_cat rfl rfl hx8 ?_
          replace hs := Hp.front [(.it m1 s_ (v + runeLen s_ v)), (.gl (NG mx))] (b := []) hs
          obtain ⟨bs_1, hx9, h⟩ := bs h
          refine TO_callM (by kernel_rfl) Tryd.func33 rfl (vs := [(.ptr m 0), (enc (s_2 : Str))]) rfl (ws1 (by kernel_rfl) hb_en1 hs hx9) fun w1 s ⟨en3, hb_en3, hs⟩ => ?_
          refine TO_nil ?_
          rw [← Option.some.inj h]
          exact ⟨_, rfl, ⟨en3, hb_en3, ⟨rfl, rfl, rfl, trivial⟩, (Hp.front [en3, (.it m1 s_ (v + runeLen s_ v))] (b := []) (Hp.front [(.it m1 s_ (v + runeLen s_ v))] (b := [(.gl (NG mx))]) (Hp.front [en3] (b := [(.gl (NG mx))]) hs)))⟩⟩
        · rename_i hcond
          refine TC_cond_f rfl hcond ?_
          refine TC_seq ?_
          refine TC_reg ?_
          refine TO_mv (v := (enc ((runeAt s_ v) : Rune))) rfl ?_
          refine TO_bi (v := (enc ((((runeAt s_ v)).v == ((Rune.mk 34)).v) : Bool))) rfl rfl rfl ?_
          refine TO_mv (v := (enc ((((runeAt s_ v)).v == ((Rune.mk 34)).v) : Bool))) rfl ?_
          obtain ⟨b3, hb_b3, h⟩ := bs h
          refine TO_cut 3 (fun φ s => Hp s [(.it m1 s_ (v + runeLen s_ v)), (.gl (NG mx)), en1] ∧ Fx φ [(0, (enc (s_ : Str))), (3, (.ptr m 0)), (5, (enc ((runeAt s_ v) : Rune))), (8, (.ptr m1 0)), (50, (enc (b3 : Bool)))]) ?_ ?_
          · split at hb_b3
            · rename_i cg2
              refine TO_off rfl rfl (by simpa using cg2) ?_
              refine TO_off rfl rfl (by simpa using cg2) ?_
              refine TO_pt (v := (enc (true : Bool))) rfl cg2 rfl ?_
              refine TO_nil ?_
              rw [← Option.some.inj hb_b3]
              exact ⟨hs, ⟨rfl, rfl, rfl, rfl, rfl, trivial⟩⟩
            · rename_i cg3
              refine TO_on rfl rfl (by simpa using cg3) ?_
              refine TO_mv (v := (enc ((runeAt s_ v) : Rune))) rfl ?_
              refine TO_on rfl rfl (by simpa using cg3) ?_
              refine TO_bi (v := (enc ((((runeAt s_ v)).v == ((Rune.mk 92)).v) : Bool))) rfl rfl rfl ?_
              refine TO_pf (v := (enc ((((runeAt s_ v)).v == ((Rune.mk 92)).v) : Bool))) rfl cg3 rfl ?_
              refine TO_nil ?_
              rw [← Option.some.inj hb_b3]
              exact ⟨hs, ⟨rfl, rfl, rfl, rfl, rfl, trivial⟩⟩
          · rintro φ s ⟨hs, hF⟩
            rw [← hF.eq]
            refine TO_as (v := (enc (b3 : Bool))) rfl ?_
            refine TO_nil ?_
            split at h
            · rename_i hcond
              refine TC_cond_t rfl hcond ?_
              refine TC_reg ?_
              refine TO_mv (v := (enc ((runeAt s_ v) : Rune))) rfl ?_
              refine TO_cvRS Tryd.underlying21 Tryd.underlying9 rfl ?_
              obtain ⟨s_3, hx10, h⟩ := bs h
              refine TO_cat rfl rfl hx10 ?_
              replace hs := Hp.front [(.it m1 s_ (v + runeLen s_ v)), (.gl (NG mx))] (b := []) hs
              obtain ⟨bs_2, hx11, h⟩ := bs h
              refine TO_callM (by kernel_rfl) Tryd.func33 rfl (vs := [(.ptr m 0), (enc (s_3 : Str))]) rfl (ws1 (by kernel_rfl) hb_en1 hs hx11) fun w2 s ⟨en4, hb_en4, hs⟩ => ?_
              refine TO_nil ?_
              rw [← Option.some.inj h]
              exact ⟨_, rfl, ⟨en4, hb_en4, ⟨rfl, rfl, rfl, trivial⟩, (Hp.front [en4, (.it m1 s_ (v + runeLen s_ v))] (b := []) (Hp.front [(.it m1 s_ (v + runeLen s_ v))] (b := [(.gl (NG mx))]) (Hp.front [en4] (b := [(.gl (NG mx))]) hs)))⟩⟩
            · rename_i hcond
              refine TC_cond_f rfl hcond ?_
              refine TC_seq ?_
              refine TC_reg ?_
              refine TO_mv (v := (enc ((runeAt s_ v) : Rune))) rfl ?_
              refine TO_bi (v := (enc ((decide (((runeAt s_ v)).v ≥ ((Rune.mk 32)).v)) : Bool))) rfl rfl rfl ?_
              refine TO_mv (v := (enc ((decide (((runeAt s_ v)).v ≥ ((Rune.mk 32)).v)) : Bool))) rfl ?_
              obtain ⟨b4, hb_b4, h⟩ := bs h
              refine TO_cut 3 (fun φ s => Hp s [(.it m1 s_ (v + runeLen s_ v)), (.gl (NG mx)), en1] ∧ Fx φ [(0, (enc (s_ : Str))), (3, (.ptr m 0)), (5, (enc ((runeAt s_ v) : Rune))), (8, (.ptr m1 0)), (61, (enc (b4 : Bool)))]) ?_ ?_
              · split at hb_b4
                · rename_i cg4
                  refine TO_on rfl rfl cg4 ?_
                  refine TO_mv (v := (enc ((runeAt s_ v) : Rune))) rfl ?_
                  refine TO_on rfl rfl cg4 ?_
                  refine TO_bi (v := (enc ((decide (((runeAt s_ v)).v ≤ ((Rune.mk 126)).v)) : Bool))) rfl rfl rfl ?_
                  refine TO_pt (v := (enc ((decide (((runeAt s_ v)).v ≤ ((Rune.mk 126)).v)) : Bool))) rfl cg4 rfl ?_
                  refine TO_nil ?_
                  rw [← Option.some.inj hb_b4]
                  exact ⟨hs, ⟨rfl, rfl, rfl, rfl, rfl, trivial⟩⟩
                · rename_i cg5
                  refine TO_off rfl rfl cg5 ?_
                  refine TO_off rfl rfl cg5 ?_
                  refine TO_pf (v := (enc (false : Bool))) rfl cg5 rfl ?_
                  refine TO_nil ?_
                  rw [← Option.some.inj hb_b4]
                  exact ⟨hs, ⟨rfl, rfl, rfl, rfl, rfl, trivial⟩⟩
              · rintro φ s ⟨hs, hF⟩
                rw [← hF.eq]
                refine TO_as (v := (enc (b4 : Bool))) rfl ?_
                refine TO_nil ?_
                split at h
                · rename_i hcond
                  refine TC_cond_t rfl hcond ?_
                  refine TC_reg ?_
                  refine TO_mv (v := (enc ((runeAt s_ v) : Rune))) rfl ?_
                  replace hs := Hp.front [(.it m1 s_ (v + runeLen s_ v)), (.gl (NG mx))] (b := []) hs
                  obtain ⟨bs_3, hx12, h⟩ := bs h
                  refine TO_callM (by kernel_rfl) Tryd.func35 rfl (vs := [(.ptr m 0), (enc ((runeAt s_ v) : Rune))]) rfl (wr1 (by kernel_rfl) (by kernel_rfl) hb_en1 hs hx12) fun w3 s ⟨en5, hb_en5, hs⟩ => ?_
                  refine TO_nil ?_
                  rw [← Option.some.inj h]
                  exact ⟨_, rfl, ⟨en5, hb_en5, ⟨rfl, rfl, rfl, trivial⟩, (Hp.front [en5, (.it m1 s_ (v + runeLen s_ v))] (b := []) (Hp.front [(.it m1 s_ (v + runeLen s_ v))] (b := [(.gl (NG mx))]) (Hp.front [en5] (b := [(.gl (NG mx))]) hs)))⟩⟩
                · rename_i hcond
                  refine TC_cond_f rfl hcond ?_
                  refine TC_reg ?_
                  refine TO_mv (v := (enc ((runeAt s_ v) : Rune))) rfl ?_
                  refine TO_cvu64 Tryd.underlying21 Tryd.underlying56 rfl ?_
                  obtain ⟨r_3, hx13, h⟩ := bs h
                  refine TO_fnG (f := fun a : UInt64 × Int × Unit => if a.2.1 = 16 then FormatUint a.1 else none) (a := ((UInt64.ofInt ((runeAt s_ v)).v), 16, ())) rfl Tryd.func34 rfl rfl (.cons (a := ((UInt64.ofInt ((runeAt s_ v)).v) : UInt64)) (Enc.self _) (.cons (a := (16 : Int)) (rfl : is _ (16 : Int)) .nil)) hs (List.mem_cons_of_mem _ List.mem_cons_self) ((if_pos rfl).trans hx13) ?_
                  obtain ⟨s_4, hx14, h⟩ := bs h
                  refine TO_cat rfl rfl hx14 ?_
                  obtain ⟨s_5, hx15, h⟩ := bs h
                  refine TO_cat rfl rfl hx15 ?_
                  replace hs := Hp.front [(.it m1 s_ (v + runeLen s_ v)), (.gl (NG mx))] (b := []) hs
                  obtain ⟨bs_4, hx16, h⟩ := bs h
                  refine TO_callM (by kernel_rfl) Tryd.func33 rfl (vs := [(.ptr m 0), (enc (s_5 : Str))]) rfl (ws1 (by kernel_rfl) hb_en1 hs hx16) fun w4 s ⟨en6, hb_en6, hs⟩ => ?_
                  refine TO_nil ?_
                  rw [← Option.some.inj h]
                  exact ⟨_, rfl, ⟨en6, hb_en6, ⟨rfl, rfl, rfl, trivial⟩, (Hp.front [en6, (.it m1 s_ (v + runeLen s_ v))] (b := []) (Hp.front [(.it m1 s_ (v + runeLen s_ v))] (b := [(.gl (NG mx))]) (Hp.front [en6] (b := [(.gl (NG mx))]) hs)))⟩⟩
    · rename_i cn
      refine TO_nx_f rfl hs cn ?_
      refine TO_ex rfl rfl ?_
      refine TO_nil ?_
      refine TC_seq ?_
      refine TC_cond_f rfl Bool.false_ne_true ?_
      refine TC_exit ?_
      rw [← Option.some.inj h]
      exact ⟨_, rfl, rfl, ⟨en1, hb_en1, ⟨rfl, trivial⟩, (Hp.drop [] (b := [(.gl (NG mx)), en1]) hs)⟩⟩
  · intro e φ s hE
    obtain ⟨rfl, en2, hb_en2, hF, hs⟩ := hE
    rw [← hF.eq]
    rw [name_Quote_a1] at h
    show if _ then _ else _
    rw [if_pos rfl]
    refine TC_seq ?_
    refine TC_reg ?_
    replace hs := Hp.front [(.gl (NG mx))] (b := []) hs
    obtain ⟨bs_5, hx17, h⟩ := bs h
    refine TO_callM (by kernel_rfl) Tryd.func31 rfl (vs := [(.ptr m 0), (enc ((34 : UInt8) : UInt8))]) rfl (wb1 (by kernel_rfl) hb_en2 hs hx17) fun w5 s ⟨en7, hb_en7, hs⟩ => ?_
    refine TO_nil ?_
    refine TC_seq ?_
    refine TC_reg ?_
    obtain ⟨bs_6, hx18, h⟩ := bs h
    refine TO_callM (by kernel_rfl) Tryd.func36 rfl (vs := [(.ptr m 0)]) rfl (bst1  hb_en7 hs hx18) fun w6 s ⟨hv_, hs⟩ => ?_
    subst hv_
    refine TO_as (v := (enc (bs_6 : Str))) rfl ?_
    refine TO_nil ?_
    refine TC_ret ?_
    rw [← Option.some.inj h]
    exact ⟨rfl, KE1 (a := (bs_6 : Str)) rfl rfl (rfl : is _ (bs_6 : Str)) (rfl : is _ (bs_6 : Str))⟩
theorem name_Quote_pc (mx : Int) : PureC Tryd.prog 15 (FnG (NG mx) (fun a : Str × Unit => name_Quote a.1)) := fnCG (ph4_ok mx) ⟨_, Tryd.func15, rfl⟩ <| fun a r h => name_Quote_wf mx a.1 r h
noncomputable def ph5 (mx : Int) : Prims := (ph4 mx).addG 15 (FnG (NG mx) (fun a : Str × Unit => name_Quote a.1))
theorem ph5_ok (mx : Int) : PrimsOk Tryd.prog (ph5 mx) := primsOk_addG (ph4_ok mx) (name_Quote_pc mx)
theorem name_Unquote_wf (mx : Int) (s_ : Str) (r : Str × Bool) (h : name_Unquote s_ = some r) : MF Tryd.prog (ph5 mx) 14 [enc s_] (sG (NG mx)) fun v _ => ris v r := by
  refine TF_run [(0, enc s_)] Tryd.func14 rfl (by simp only [Tryd.f14]; rfl) fun ψ => ?_
  unfold name_Unquote at h
  have hs : Hp (sG (NG mx)) [.gl (NG mx)] := Hp.gl0
  refine TC_seq ?_
  refine TC_reg ?_
  refine TO_as (v := (enc ((str []) : Str))) rfl ?_
  refine TO_as (v := (enc (false : Bool))) rfl ?_
  refine TO_nil ?_
  refine TC_seq ?_
  refine TC_reg ?_
  refine TO_mv (v := (enc (s_ : Str))) rfl ?_
  obtain ⟨r_, hx, h⟩ := bs h
  refine TO_fn (f := fun a : Str × Str × Unit => strings_CutPrefix a.1 a.2.1) (a := (s_, (str [34]), ())) rfl Tryd.func27 rfl rfl (.cons (a := (s_ : Str)) (Enc.self _) (.cons (a := ((str [34]) : Str)) (Enc.self _) .nil)) hx ?_
  refine TO_mv (v := (res r_)) rfl ?_
  refine TO_ex rfl rfl ?_
  refine TO_ex rfl rfl ?_
  refine TO_as (v := (enc (r_.1 : Str))) rfl ?_
  refine TO_as (v := (enc (r_.2 : Bool))) rfl ?_
  refine TO_nil ?_
  refine TC_seq ?_
  refine TC_reg ?_
  refine TO_mv (v := (enc (r_.1 : Str))) rfl ?_
  obtain ⟨r_1, hx1, h⟩ := bs h
  refine TO_fn (f := fun a : Str × Str × Unit => strings_CutSuffix a.1 a.2.1) (a := (r_.1, (str [34]), ())) rfl Tryd.func28 rfl rfl (.cons (a := (r_.1 : Str)) (Enc.self _) (.cons (a := ((str [34]) : Str)) (Enc.self _) .nil)) hx1 ?_
  refine TO_mv (v := (res r_1)) rfl ?_
  refine TO_ex rfl rfl ?_
  refine TO_ex rfl rfl ?_
  refine TO_as (v := (enc (r_1.1 : Str))) rfl ?_
  refine TO_as (v := (enc (r_1.2 : Bool))) rfl ?_
  refine TO_nil ?_
  refine TC_seq ?_
  refine TC_seq ?_
  refine TC_reg ?_
  refine TO_mv (v := (enc (r_.2 : Bool))) rfl ?_
  refine TO_un (v := (enc ((!r_.2) : Bool))) rfl rfl ?_
  refine TO_mv (v := (enc ((!r_.2) : Bool))) rfl ?_
  obtain ⟨b, hb_b, h⟩ := bs h
  refine TO_cut 3 (fun φ s => Hp s [(.gl (NG mx))] ∧ Fx φ [(0, (enc (s_ : Str))), (4, (enc (r_1.1 : Str))), (29, (enc (b : Bool)))]) ?_ ?_
  · split at hb_b
    · rename_i cg
      refine TO_off rfl rfl (by simpa using cg) ?_
      refine TO_off rfl rfl (by simpa using cg) ?_
      refine TO_pt (v := (enc (true : Bool))) rfl cg rfl ?_
      refine TO_nil ?_
      rw [← Option.some.inj hb_b]
      exact ⟨hs, ⟨rfl, rfl, rfl, trivial⟩⟩
    · rename_i cg1
      refine TO_on rfl rfl (by simpa using cg1) ?_
      refine TO_mv (v := (enc (r_1.2 : Bool))) rfl ?_
      refine TO_on rfl rfl (by simpa using cg1) ?_
      refine TO_un (v := (enc ((!r_1.2) : Bool))) rfl rfl ?_
      refine TO_pf (v := (enc ((!r_1.2) : Bool))) rfl cg1 rfl ?_
      refine TO_nil ?_
      rw [← Option.some.inj hb_b]
      exact ⟨hs, ⟨rfl, rfl, rfl, trivial⟩⟩
  · rintro φ s ⟨hs, hF⟩
    rw [← hF.eq]
    refine TO_nil ?_
    split at h
    · rename_i hcond
      refine TC_cond_t rfl hcond ?_
      refine TC_seq ?_
      refine TC_reg ?_
      refine TO_as (v := (enc ((str []) : Str))) rfl ?_
      refine TO_as (v := (enc (false : Bool))) rfl ?_
      refine TO_nil ?_
      refine TC_ret ?_
      rw [← Option.some.inj h]
      exact ⟨rfl, KE2 (a1 := ((str []) : Str)) (a2 := (false : Bool)) rfl rfl rfl (rfl : is _ ((str []) : Str)) (rfl : is _ (false : Bool)) ⟨_, _, rfl, (rfl : is _ ((str []) : Str)), (rfl : is _ (false : Bool))⟩⟩
    · rename_i hcond
      refine TC_cond_f rfl hcond ?_
      refine TC_skip ?_
      refine TC_seq ?_
      refine TC_reg ?_
      refine TO_as (v := (enc ((str []) : Str))) rfl ?_
      refine TO_nil ?_
      refine TC_seq ?_
      refine TC_block ?_
      obtain ⟨o, hl, h⟩ := bs h
      refine TC_loop (fun (p : (Str × Str)) φ s => match p with | (inner, out_) => Fx φ [(0, (enc (s_ : Str))), (4, (enc (inner : Str))), (7, (enc (out_ : Str)))] ∧ Hp s [(.gl (NG mx))]) (fun (o : (Str ⊕ (Str × Bool))) e φ s => match o with | (.inl out_1) => e = .exit 0 ∧ Fx φ [(0, (enc (s_ : Str))), (7, (enc (out_1 : Str)))] ∧ Hp s [(.gl (NG mx))] | (.inr (v, v1)) => e = .ret ∧ Fx φ [(2, (enc (v : Str))), (3, (enc (v1 : Bool)))] ∧ Hp s [(.gl (NG mx))]) ?_ hl ⟨⟨rfl, rfl, rfl, trivial⟩, hs⟩ ?_
      · rintro ⟨inner, out_⟩ o h φ s ⟨hF, hs⟩
        rw [← hF.eq]
        rw [name_Unquote_l1] at h
        refine TC_seq ?_
        refine TC_seq ?_
        refine TC_reg ?_
        refine TO_mv (v := (enc (inner : Str))) rfl ?_
        refine TO_bi (v := (enc ((!eqS inner (str [])) : Bool))) rfl rfl rfl ?_
        refine TO_nil ?_
        split at h
        · rename_i hcond
          refine TC_cond_t rfl hcond ?_
          refine TC_skip ?_
          refine TC_block ?_
          refine TC_seq ?_
          refine TC_reg ?_
          refine TO_mv (v := (enc (inner : Str))) rfl ?_
          obtain ⟨r_2, hx2, h⟩ := bs h
          refine TO_fnG (f := fun a : Str × Str × Unit => strings_Cut a.1 a.2.1) (a := (inner, (str [92]), ())) rfl Tryd.func29 rfl rfl (.cons (a := (inner : Str)) (Enc.self _) (.cons (a := ((str [92]) : Str)) (Enc.self _) .nil)) hs List.mem_cons_self hx2 ?_
          refine TO_mv (v := (res r_2)) rfl ?_
          refine TO_ex rfl rfl ?_
          refine TO_ex rfl rfl ?_
          refine TO_ex rfl rfl ?_
          refine TO_as (v := (enc (r_2.1 : Str))) rfl ?_
          refine TO_as (v := (enc (r_2.2.1 : Str))) rfl ?_
          refine TO_as (v := (enc (r_2.2.2 : Bool))) rfl ?_
          refine TO_nil ?_
          refine TC_seq ?_
          refine TC_reg ?_
          refine TO_mv (v := (enc (out_ : Str))) rfl ?_
          refine TO_mv (v := (enc (r_2.1 : Str))) rfl ?_
          obtain ⟨s_1, hx3, h⟩ := bs h
          refine TO_cat rfl rfl hx3 ?_
          refine TO_as (v := (enc (s_1 : Str))) rfl ?_
          refine TO_nil ?_
          refine TC_seq ?_
          refine TC_reg ?_
          refine TO_mv (v := (enc (r_2.2.1 : Str))) rfl ?_
          refine TO_as (v := (enc (r_2.2.1 : Str))) rfl ?_
          refine TO_nil ?_
          refine TC_seq ?_
          refine TC_reg ?_
          refine TO_mv (v := (enc (r_2.2.2 : Bool))) rfl ?_
          refine TO_nil ?_
          split at h
          · rename_i hcond
            refine TC_cond_t rfl hcond ?_
            refine TC_seq ?_
            refine TC_reg ?_
            refine TO_mv (v := (enc (r_2.2.1 : Str))) rfl ?_
            obtain ⟨r_3, hx4, h⟩ := bs h
            refine TO_fnG (f := fun a : Str × Unit => name_escape a.1) (a := (r_2.2.1, ())) rfl Tryd.func30 rfl rfl (.cons (a := (r_2.2.1 : Str)) (Enc.self _) .nil) hs List.mem_cons_self hx4 ?_
            refine TO_mv (v := (res r_3)) rfl ?_
            refine TO_ex rfl rfl ?_
            refine TO_ex rfl rfl ?_
            refine TO_ex rfl rfl ?_
            refine TO_as (v := (enc (r_3.1 : Str))) rfl ?_
            refine TO_as (v := (enc (r_3.2.1 : Str))) rfl ?_
            refine TO_as (v := (enc (r_3.2.2 : Bool))) rfl ?_
            refine TO_nil ?_
            refine TC_seq ?_
            refine TC_seq ?_
            refine TC_reg ?_
            refine TO_mv (v := (enc (r_3.2.2 : Bool))) rfl ?_
            refine TO_un (v := (enc ((!r_3.2.2) : Bool))) rfl rfl ?_
            refine TO_nil ?_
            split at h
            · rename_i hcond
              refine TC_cond_t rfl hcond ?_
              refine TC_seq ?_
              refine TC_reg ?_
              refine TO_as (v := (enc ((str []) : Str))) rfl ?_
              refine TO_as (v := (enc (false : Bool))) rfl ?_
              refine TO_nil ?_
              refine TC_ret ?_
              show if _ then _ else _
              rw [if_neg (by simp)]
              rw [← Option.some.inj h]
              exact ⟨_, rfl, rfl, ⟨⟨rfl, rfl, trivial⟩, hs⟩⟩
            · rename_i hcond
              refine TC_cond_f rfl hcond ?_
              refine TC_skip ?_
              refine TC_seq ?_
              refine TC_reg ?_
              refine TO_mv (v := (enc (s_1 : Str))) rfl ?_
              refine TO_mv (v := (enc (r_3.1 : Str))) rfl ?_
              obtain ⟨s_2, hx5, h⟩ := bs h
              refine TO_cat rfl rfl hx5 ?_
              refine TO_as (v := (enc (s_2 : Str))) rfl ?_
              refine TO_nil ?_
              refine TC_reg ?_
              refine TO_mv (v := (enc (r_3.2.1 : Str))) rfl ?_
              refine TO_as (v := (enc (r_3.2.1 : Str))) rfl ?_
              refine TO_nil ?_
              rw [← Option.some.inj h]
              exact ⟨_, rfl, ⟨⟨rfl, rfl, rfl, trivial⟩, hs⟩⟩
          · rename_i hcond
            refine TC_cond_f rfl hcond ?_
            refine TC_skip ?_
            rw [← Option.some.inj h]
            exact ⟨_, rfl, ⟨⟨rfl, rfl, rfl, trivial⟩, hs⟩⟩
        · rename_i hcond
          refine TC_cond_f rfl hcond ?_
          refine TC_exit ?_
          rw [← Option.some.inj h]
          exact ⟨_, rfl, rfl, ⟨⟨rfl, rfl, trivial⟩, hs⟩⟩
      · intro e φ s hE
        rcases o with out_1 | ⟨v, v1⟩
        · obtain ⟨rfl, hF, hs⟩ := hE
          rw [← hF.eq]
          rw [name_Unquote_a1] at h
          show if _ then _ else _
          rw [if_pos rfl]
          refine TC_seq ?_
          refine TC_seq ?_
          refine TC_reg ?_
          refine TO_mv (v := (enc (out_1 : Str))) rfl ?_
          obtain ⟨r_4, hx6, h⟩ := bs h
          refine TO_fnG (f := fun a : Str × Unit => name_Quote a.1) (a := (out_1, ())) rfl Tryd.func15 rfl rfl (.cons (a := (out_1 : Str)) (Enc.self _) .nil) hs List.mem_cons_self hx6 ?_
          refine TO_mv (v := (enc (s_ : Str))) rfl ?_
          refine TO_bi (v := (enc ((!eqS r_4 s_) : Bool))) rfl rfl rfl ?_
          refine TO_nil ?_
          split at h
          · rename_i hcond
            refine TC_cond_t rfl hcond ?_
            refine TC_seq ?_
            refine TC_reg ?_
            refine TO_as (v := (enc ((str []) : Str))) rfl ?_
            refine TO_as (v := (enc (false : Bool))) rfl ?_
            refine TO_nil ?_
            refine TC_ret ?_
            rw [← Option.some.inj h]
            exact ⟨rfl, KE2 (a1 := ((str []) : Str)) (a2 := (false : Bool)) rfl rfl rfl (rfl : is _ ((str []) : Str)) (rfl : is _ (false : Bool)) ⟨_, _, rfl, (rfl : is _ ((str []) : Str)), (rfl : is _ (false : Bool))⟩⟩
          · rename_i hcond
            refine TC_cond_f rfl hcond ?_
            refine TC_skip ?_
            refine TC_seq ?_
            refine TC_reg ?_
            refine TO_mv (v := (enc (out_1 : Str))) rfl ?_
            refine TO_as (v := (enc (out_1 : Str))) rfl ?_
            refine TO_as (v := (enc (true : Bool))) rfl ?_
            refine TO_nil ?_
            refine TC_ret ?_
            rw [← Option.some.inj h]
            exact ⟨rfl, KE2 (a1 := (out_1 : Str)) (a2 := (true : Bool)) rfl rfl rfl (rfl : is _ (out_1 : Str)) (rfl : is _ (true : Bool)) ⟨_, _, rfl, (rfl : is _ (out_1 : Str)), (rfl : is _ (true : Bool))⟩⟩
        · obtain ⟨rfl, hF, hs⟩ := hE
          rw [← hF.eq]
          rw [name_Unquote_a1] at h
          show if _ then _ else _
          rw [if_neg (by simp)]
          rw [← Option.some.inj h]
          exact ⟨rfl, KE2 (a1 := (v : Str)) (a2 := (v1 : Bool)) rfl rfl rfl (rfl : is _ (v : Str)) (rfl : is _ (v1 : Bool)) ⟨_, _, rfl, (rfl : is _ (v : Str)), (rfl : is _ (v1 : Bool))⟩⟩
theorem name_Unquote_pc (mx : Int) : PureC Tryd.prog 14 (FnG (NG mx) (fun a : Str × Unit => name_Unquote a.1)) := fnCG (ph5_ok mx) ⟨_, Tryd.func14, rfl⟩ <| fun a r h => name_Unquote_wf mx a.1 r h
noncomputable def ph6 (mx : Int) : Prims := (ph5 mx).addG 14 (FnG (NG mx) (fun a : Str × Unit => name_Unquote a.1))
theorem ph6_ok (mx : Int) : PrimsOk Tryd.prog (ph6 mx) := primsOk_addG (ph5_ok mx) (name_Unquote_pc mx)
theorem heads_wf (mx : Int) (r : Bool) (h : heads = some r) : MF Tryd.prog (ph6 mx) 11 [] (sG (NG mx)) fun v _ => ris v r := by
  refine TF_run [] Tryd.func11 rfl (by simp only [Tryd.f11]; rfl) fun ψ => ?_
  unfold heads at h
  have hs : Hp (sG (NG mx)) [.gl (NG mx)] := Hp.gl0
  refine TC_seq ?_
  refine TC_reg ?_
  refine TO_as (v := (enc (false : Bool))) rfl ?_
  refine TO_nil ?_
  refine TC_seq ?_
  refine TC_reg ?_
  obtain ⟨r_, hx, h⟩ := bs h
  refine TO_fnG (f := fun a : Str × Unit => name_Split a.1) (a := ((str [47, 97, 47, 47, 46, 47, 98, 47]), ())) rfl Tryd.func16 rfl rfl (.cons (a := ((str [47, 97, 47, 47, 46, 47, 98, 47]) : Str)) (Enc.self _) .nil) hs List.mem_cons_self hx ?_
  refine TO_mv (v := (res r_)) rfl ?_
  refine TO_ex rfl rfl ?_
  refine TO_ex rfl rfl ?_
  refine TO_ex rfl rfl ?_
  refine TO_as (v := (enc (r_.1 : (List Str)))) rfl ?_
  refine TO_as (v := (enc (r_.2.1 : Bool))) rfl ?_
  refine TO_as (v := (enc (r_.2.2 : Int))) rfl ?_
  refine TO_nil ?_
  refine TC_seq ?_
  refine TC_reg ?_
  obtain ⟨r_1, hx1, h⟩ := bs h
  refine TO_fnG (f := fun a : Str × Unit => name_Split a.1) (a := ((str [97]), ())) rfl Tryd.func16 rfl rfl (.cons (a := ((str [97]) : Str)) (Enc.self _) .nil) hs List.mem_cons_self hx1 ?_
  refine TO_mv (v := (res r_1)) rfl ?_
  refine TO_ex rfl rfl ?_
  refine TO_ex rfl rfl ?_
  refine TO_ex rfl rfl ?_
  refine TO_as (v := (enc (r_1.1 : (List Str)))) rfl ?_
  refine TO_as (v := (enc (r_1.2.1 : Bool))) rfl ?_
  refine TO_as (v := (enc (r_1.2.2 : Int))) rfl ?_
  refine TO_nil ?_
  refine TC_seq ?_
  refine TC_reg ?_
  obtain ⟨r_2, hx2, h⟩ := bs h
  refine TO_fnG (f := fun a : Str × Unit => name_Unquote a.1) (a := ((str [34, 92, 117, 123, 101, 57, 125, 92, 117, 123, 57, 125, 34]), ())) (vs := [(enc ((str [34, 92, 117, 123, 101, 57, 125, 92, 117, 123, 57, 125, 34]) : Str))]) rfl Tryd.func14 rfl (by kernel_rfl) (.cons (a := ((str [34, 92, 117, 123, 101, 57, 125, 92, 117, 123, 57, 125, 34]) : Str)) (Enc.self _) .nil) hs List.mem_cons_self hx2 ?_
  refine TO_mv (v := (res r_2)) rfl ?_
  refine TO_ex rfl rfl ?_
  refine TO_ex rfl rfl ?_
  refine TO_as (v := (enc (r_2.1 : Str))) rfl ?_
  refine TO_as (v := (enc (r_2.2 : Bool))) rfl ?_
  refine TO_nil ?_
  refine TC_seq ?_
  refine TC_reg ?_
  obtain ⟨r_3, hx3, h⟩ := bs h
  refine TO_fnG (f := fun a : Str × Unit => name_Unquote a.1) (a := ((str [34, 92, 117, 123, 52, 49, 125, 34]), ())) rfl Tryd.func14 rfl rfl (.cons (a := ((str [34, 92, 117, 123, 52, 49, 125, 34]) : Str)) (Enc.self _) .nil) hs List.mem_cons_self hx3 ?_
  refine TO_mv (v := (res r_3)) rfl ?_
  refine TO_ex rfl rfl ?_
  refine TO_ex rfl rfl ?_
  refine TO_as (v := (enc (r_3.1 : Str))) rfl ?_
  refine TO_as (v := (enc (r_3.2 : Bool))) rfl ?_
  refine TO_nil ?_
  refine TC_seq ?_
  refine TC_reg ?_
  refine TO_mv (v := (enc (r_.1 : (List Str)))) rfl ?_
  refine TO_bs [(enc ((str [97]) : Str)), (enc ((str [98]) : Str))] ([(str [97]), (str [98])] : (List Str)) Tryd.underlying31 TTryd.ef9 rfl rfl rfl (Nat.le_of_ble_eq_true rfl) ⟨(rfl : is _ ((str [97]) : Str)), (rfl : is _ ((str [98]) : Str)), trivial⟩ fun z hz hzc hzn => ?_
  obtain ⟨r_4, hx4, h⟩ := bs h
  refine TO_fn (f := fun a : (List Str) × (List Str) × Unit => ref_Texts a.1 a.2.1) (a := (r_.1, [(str [97]), (str [98])], ())) rfl Tryd.func19 rfl rfl (.cons (a := (r_.1 : (List Str))) (Enc.self r_.1) (.cons (a := ([(str [97]), (str [98])] : (List Str))) hz .nil)) hx4 ?_
  refine TO_mv (v := (enc (r_4 : Bool))) rfl ?_
  obtain ⟨b, hb_b, h⟩ := bs h
  refine TO_cut 2 (fun φ s => Hp s [(.gl (NG mx))] ∧ Fx φ [(1, (enc (r_.1 : (List Str)))), (3, (enc (r_.2.2 : Int))), (6, (enc (r_1.2.2 : Int))), (7, (enc (r_2.1 : Str))), (8, (enc (r_2.2 : Bool))), (10, (enc (r_3.2 : Bool))), (34, (enc (b : Bool)))]) ?_ ?_
  · split at hb_b
    · rename_i cg
      refine TO_on rfl rfl cg ?_
      refine TO_mv (v := (enc (r_.2.1 : Bool))) rfl ?_
      refine TO_pt (v := (enc (r_.2.1 : Bool))) rfl cg rfl ?_
      refine TO_nil ?_
      rw [← Option.some.inj hb_b]
      exact ⟨hs, ⟨rfl, rfl, rfl, rfl, rfl, rfl, rfl, trivial⟩⟩
    · rename_i cg1
      refine TO_off rfl rfl cg1 ?_
      refine TO_pf (v := (enc (false : Bool))) rfl cg1 rfl ?_
      refine TO_nil ?_
      rw [← Option.some.inj hb_b]
      exact ⟨hs, ⟨rfl, rfl, rfl, rfl, rfl, rfl, rfl, trivial⟩⟩
  · rintro φ s ⟨hs, hF⟩
    rw [← hF.eq]
    refine TO_mv (v := (enc (b : Bool))) rfl ?_
    obtain ⟨b1, hb_b1, h⟩ := bs h
    refine TO_cut 3 (fun φ s => Hp s [(.gl (NG mx))] ∧ Fx φ [(1, (enc (r_.1 : (List Str)))), (6, (enc (r_1.2.2 : Int))), (7, (enc (r_2.1 : Str))), (8, (enc (r_2.2 : Bool))), (10, (enc (r_3.2 : Bool))), (38, (enc (b1 : Bool)))]) ?_ ?_
    · split at hb_b1
      · rename_i cg2
        refine TO_on rfl rfl cg2 ?_
        refine TO_mv (v := (enc (r_.2.2 : Int))) rfl ?_
        refine TO_on rfl rfl cg2 ?_
        refine TO_bi (v := (enc ((r_.2.2 == 0) : Bool))) rfl rfl rfl ?_
        refine TO_pt (v := (enc ((r_.2.2 == 0) : Bool))) rfl cg2 rfl ?_
        refine TO_nil ?_
        rw [← Option.some.inj hb_b1]
        exact ⟨hs, ⟨rfl, rfl, rfl, rfl, rfl, rfl, trivial⟩⟩
      · rename_i cg3
        refine TO_off rfl rfl cg3 ?_
        refine TO_off rfl rfl cg3 ?_
        refine TO_pf (v := (enc (false : Bool))) rfl cg3 rfl ?_
        refine TO_nil ?_
        rw [← Option.some.inj hb_b1]
        exact ⟨hs, ⟨rfl, rfl, rfl, rfl, rfl, rfl, trivial⟩⟩
    · rintro φ s ⟨hs, hF⟩
      rw [← hF.eq]
      refine TO_mv (v := (enc (b1 : Bool))) rfl ?_
      obtain ⟨b2, hb_b2, h⟩ := bs h
      refine TO_cut 3 (fun φ s => Hp s [(.gl (NG mx))] ∧ Fx φ [(1, (enc (r_.1 : (List Str)))), (7, (enc (r_2.1 : Str))), (8, (enc (r_2.2 : Bool))), (10, (enc (r_3.2 : Bool))), (42, (enc (b2 : Bool)))]) ?_ ?_
      · split at hb_b2
        · rename_i cg4
          refine TO_on rfl rfl cg4 ?_
          refine TO_mv (v := (enc (r_1.2.2 : Int))) rfl ?_
          refine TO_on rfl rfl cg4 ?_
          refine TO_bi (v := (enc ((r_1.2.2 == 206) : Bool))) rfl rfl rfl ?_
          refine TO_pt (v := (enc ((r_1.2.2 == 206) : Bool))) rfl cg4 rfl ?_
          refine TO_nil ?_
          rw [← Option.some.inj hb_b2]
          exact ⟨hs, ⟨rfl, rfl, rfl, rfl, rfl, trivial⟩⟩
        · rename_i cg5
          refine TO_off rfl rfl cg5 ?_
          refine TO_off rfl rfl cg5 ?_
          refine TO_pf (v := (enc (false : Bool))) rfl cg5 rfl ?_
          refine TO_nil ?_
          rw [← Option.some.inj hb_b2]
          exact ⟨hs, ⟨rfl, rfl, rfl, rfl, rfl, trivial⟩⟩
      · rintro φ s ⟨hs, hF⟩
        rw [← hF.eq]
        refine TO_mv (v := (enc (b2 : Bool))) rfl ?_
        obtain ⟨b3, hb_b3, h⟩ := bs h
        refine TO_cut 3 (fun φ s => Hp s [(.gl (NG mx))] ∧ Fx φ [(1, (enc (r_.1 : (List Str)))), (8, (enc (r_2.2 : Bool))), (10, (enc (r_3.2 : Bool))), (46, (enc (b3 : Bool)))]) ?_ ?_
        · split at hb_b3
          · rename_i cg6
            refine TO_on rfl rfl cg6 ?_
            refine TO_mv (v := (enc (r_2.1 : Str))) rfl ?_
            refine TO_on rfl rfl cg6 ?_
            refine TO_bi (v := (enc ((eqS r_2.1 (str [195, 169, 9])) : Bool))) rfl rfl rfl ?_
            refine TO_pt (v := (enc ((eqS r_2.1 (str [195, 169, 9])) : Bool))) rfl cg6 rfl ?_
            refine TO_nil ?_
            rw [← Option.some.inj hb_b3]
            exact ⟨hs, ⟨rfl, rfl, rfl, rfl, trivial⟩⟩
          · rename_i cg7
            refine TO_off rfl rfl cg7 ?_
            refine TO_off rfl rfl cg7 ?_
            refine TO_pf (v := (enc (false : Bool))) rfl cg7 rfl ?_
            refine TO_nil ?_
            rw [← Option.some.inj hb_b3]
            exact ⟨hs, ⟨rfl, rfl, rfl, rfl, trivial⟩⟩
        · rintro φ s ⟨hs, hF⟩
          rw [← hF.eq]
          refine TO_mv (v := (enc (b3 : Bool))) rfl ?_
          obtain ⟨b4, hb_b4, h⟩ := bs h
          refine TO_cut 2 (fun φ s => Hp s [(.gl (NG mx))] ∧ Fx φ [(1, (enc (r_.1 : (List Str)))), (10, (enc (r_3.2 : Bool))), (49, (enc (b4 : Bool)))]) ?_ ?_
          · split at hb_b4
            · rename_i cg8
              refine TO_on rfl rfl cg8 ?_
              refine TO_mv (v := (enc (r_2.2 : Bool))) rfl ?_
              refine TO_pt (v := (enc (r_2.2 : Bool))) rfl cg8 rfl ?_
              refine TO_nil ?_
              rw [← Option.some.inj hb_b4]
              exact ⟨hs, ⟨rfl, rfl, rfl, trivial⟩⟩
            · rename_i cg9
              refine TO_off rfl rfl cg9 ?_
              refine TO_pf (v := (enc (false : Bool))) rfl cg9 rfl ?_
              refine TO_nil ?_
              rw [← Option.some.inj hb_b4]
              exact ⟨hs, ⟨rfl, rfl, rfl, trivial⟩⟩
          · rintro φ s ⟨hs, hF⟩
            rw [← hF.eq]
            refine TO_mv (v := (enc (b4 : Bool))) rfl ?_
            obtain ⟨b5, hb_b5, h⟩ := bs h
            refine TO_cut 3 (fun φ s => Hp s [(.gl (NG mx))] ∧ Fx φ [(1, (enc (r_.1 : (List Str)))), (53, (enc (b5 : Bool)))]) ?_ ?_
            · split at hb_b5
              · rename_i cg10
                refine TO_on rfl rfl cg10 ?_
                refine TO_mv (v := (enc (r_3.2 : Bool))) rfl ?_
                refine TO_on rfl rfl cg10 ?_
                refine TO_un (v := (enc ((!r_3.2) : Bool))) rfl rfl ?_
                refine TO_pt (v := (enc ((!r_3.2) : Bool))) rfl cg10 rfl ?_
                refine TO_nil ?_
                rw [← Option.some.inj hb_b5]
                exact ⟨hs, ⟨rfl, rfl, trivial⟩⟩
              · rename_i cg11
                refine TO_off rfl rfl cg11 ?_
                refine TO_off rfl rfl cg11 ?_
                refine TO_pf (v := (enc (false : Bool))) rfl cg11 rfl ?_
                refine TO_nil ?_
                rw [← Option.some.inj hb_b5]
                exact ⟨hs, ⟨rfl, rfl, trivial⟩⟩
            · rintro φ s ⟨hs, hF⟩
              rw [← hF.eq]
              refine TO_mv (v := (enc (b5 : Bool))) rfl ?_
              obtain ⟨b6, hb_b6, h⟩ := bs h
              refine TO_cut 4 (fun φ s => Hp s [(.gl (NG mx))] ∧ Fx φ [(58, (enc (b6 : Bool)))]) ?_ ?_
              · split at hb_b6
                · rename_i cg12
                  refine TO_on rfl rfl cg12 ?_
                  refine TO_mv (v := (enc (r_.1 : (List Str)))) rfl ?_
                  refine TO_on rfl rfl cg12 ?_
                  obtain ⟨r_5, hx5, hb_b6⟩ := bs hb_b6
                  refine TO_fnG (f := fun a : (List Str) × Unit => name_Join a.1) (a := (r_.1, ())) rfl Tryd.func25 rfl rfl (.cons (a := (r_.1 : (List Str))) (Enc.self r_.1) .nil) hs List.mem_cons_self hx5 ?_
                  refine TO_on rfl rfl cg12 ?_
                  refine TO_bi (v := (enc ((eqS r_5 (str [47, 97, 47, 98])) : Bool))) rfl rfl rfl ?_
                  refine TO_pt (v := (enc ((eqS r_5 (str [47, 97, 47, 98])) : Bool))) rfl cg12 rfl ?_
                  refine TO_nil ?_
                  rw [← Option.some.inj hb_b6]
                  exact ⟨hs, ⟨rfl, trivial⟩⟩
                · rename_i cg13
                  refine TO_off rfl rfl cg13 ?_
                  refine TO_off rfl rfl cg13 ?_
                  refine TO_off rfl rfl cg13 ?_
                  refine TO_pf (v := (enc (false : Bool))) rfl cg13 rfl ?_
                  refine TO_nil ?_
                  rw [← Option.some.inj hb_b6]
                  exact ⟨hs, ⟨rfl, trivial⟩⟩
              · rintro φ s ⟨hs, hF⟩
                rw [← hF.eq]
                refine TO_mv (v := (enc (b6 : Bool))) rfl ?_
                obtain ⟨b7, hb_b7, h⟩ := bs h
                refine TO_cut 3 (fun φ s => Hp s [(.gl (NG mx))] ∧ Fx φ [(62, (enc (b7 : Bool)))]) ?_ ?_
                · split at hb_b7
                  · rename_i cg14
                    refine TO_on rfl rfl cg14 ?_
                    obtain ⟨r_6, hx6, hb_b7⟩ := bs hb_b7
                    refine TO_fn (f := fun a : Str × Unit => name_Count a.1) (a := ((str [195, 169, 120]), ())) rfl Tryd.func13 rfl rfl (.cons (a := ((str [195, 169, 120]) : Str)) (Enc.self _) .nil) hx6 ?_
                    refine TO_on rfl rfl cg14 ?_
                    refine TO_bi (v := (enc ((r_6 == 2) : Bool))) rfl rfl rfl ?_
                    refine TO_pt (v := (enc ((r_6 == 2) : Bool))) rfl cg14 rfl ?_
                    refine TO_nil ?_
                    rw [← Option.some.inj hb_b7]
                    exact ⟨hs, ⟨rfl, trivial⟩⟩
                  · rename_i cg15
                    refine TO_off rfl rfl cg15 ?_
                    refine TO_off rfl rfl cg15 ?_
                    refine TO_pf (v := (enc (false : Bool))) rfl cg15 rfl ?_
                    refine TO_nil ?_
                    rw [← Option.some.inj hb_b7]
                    exact ⟨hs, ⟨rfl, trivial⟩⟩
                · rintro φ s ⟨hs, hF⟩
                  rw [← hF.eq]
                  refine TO_mv (v := (enc (b7 : Bool))) rfl ?_
                  obtain ⟨b8, hb_b8, h⟩ := bs h
                  refine TO_cut 3 (fun φ s => Hp s [(.gl (NG mx))] ∧ Fx φ [(66, (enc (b8 : Bool)))]) ?_ ?_
                  · split at hb_b8
                    · rename_i cg16
                      refine TO_on rfl rfl cg16 ?_
                      obtain ⟨r_7, hx7, hb_b8⟩ := bs hb_b8
                      refine TO_fnG (f := fun a : Str × Str × Unit => name_Order a.1 a.2.1) (a := ((str [97]), (str [98]), ())) rfl Tryd.func21 rfl rfl (.cons (a := ((str [97]) : Str)) (Enc.self _) (.cons (a := ((str [98]) : Str)) (Enc.self _) .nil)) hs List.mem_cons_self hx7 ?_
                      refine TO_on rfl rfl cg16 ?_
                      refine TO_bi (v := (enc ((r_7 == (-1)) : Bool))) rfl rfl rfl ?_
                      refine TO_pt (v := (enc ((r_7 == (-1)) : Bool))) rfl cg16 rfl ?_
                      refine TO_nil ?_
                      rw [← Option.some.inj hb_b8]
                      exact ⟨hs, ⟨rfl, trivial⟩⟩
                    · rename_i cg17
                      refine TO_off rfl rfl cg17 ?_
                      refine TO_off rfl rfl cg17 ?_
                      refine TO_pf (v := (enc (false : Bool))) rfl cg17 rfl ?_
                      refine TO_nil ?_
                      rw [← Option.some.inj hb_b8]
                      exact ⟨hs, ⟨rfl, trivial⟩⟩
                  · rintro φ s ⟨hs, hF⟩
                    rw [← hF.eq]
                    refine TO_mv (v := (enc (b8 : Bool))) rfl ?_
                    obtain ⟨b9, hb_b9, h⟩ := bs h
                    refine TO_cut 3 (fun φ s => Hp s [(.gl (NG mx))] ∧ Fx φ [(70, (enc (b9 : Bool)))]) ?_ ?_
                    · split at hb_b9
                      · rename_i cg18
                        refine TO_on rfl rfl cg18 ?_
                        obtain ⟨r_8, hx8, hb_b9⟩ := bs hb_b9
                        refine TO_fnG (f := fun a : Str × Unit => name_Check a.1) (a := ((str [46, 46]), ())) rfl Tryd.func12 rfl rfl (.cons (a := ((str [46, 46]) : Str)) (Enc.self _) .nil) hs List.mem_cons_self hx8 ?_
                        refine TO_on rfl rfl cg18 ?_
                        refine TO_bi (v := (enc ((r_8 == 206) : Bool))) rfl rfl rfl ?_
                        refine TO_pt (v := (enc ((r_8 == 206) : Bool))) rfl cg18 rfl ?_
                        refine TO_nil ?_
                        rw [← Option.some.inj hb_b9]
                        exact ⟨hs, ⟨rfl, trivial⟩⟩
                      · rename_i cg19
                        refine TO_off rfl rfl cg19 ?_
                        refine TO_off rfl rfl cg19 ?_
                        refine TO_pf (v := (enc (false : Bool))) rfl cg19 rfl ?_
                        refine TO_nil ?_
                        rw [← Option.some.inj hb_b9]
                        exact ⟨hs, ⟨rfl, trivial⟩⟩
                    · rintro φ s ⟨hs, hF⟩
                      rw [← hF.eq]
                      refine TO_mv (v := (enc (b9 : Bool))) rfl ?_
                      obtain ⟨b10, hb_b10, h⟩ := bs h
                      refine TO_cut 3 (fun φ s => Hp s [(.gl (NG mx))] ∧ Fx φ [(74, (enc (b10 : Bool)))]) ?_ ?_
                      · split at hb_b10
                        · rename_i cg20
                          refine TO_on rfl rfl cg20 ?_
                          obtain ⟨r_9, hx9, hb_b10⟩ := bs hb_b10
                          refine TO_fnG (f := fun a : Str × Unit => name_Check a.1) (a := ((str [120]), ())) rfl Tryd.func12 rfl rfl (.cons (a := ((str [120]) : Str)) (Enc.self _) .nil) hs List.mem_cons_self hx9 ?_
                          refine TO_on rfl rfl cg20 ?_
                          refine TO_bi (v := (enc ((r_9 == 0) : Bool))) rfl rfl rfl ?_
                          refine TO_pt (v := (enc ((r_9 == 0) : Bool))) rfl cg20 rfl ?_
                          refine TO_nil ?_
                          rw [← Option.some.inj hb_b10]
                          exact ⟨hs, ⟨rfl, trivial⟩⟩
                        · rename_i cg21
                          refine TO_off rfl rfl cg21 ?_
                          refine TO_off rfl rfl cg21 ?_
                          refine TO_pf (v := (enc (false : Bool))) rfl cg21 rfl ?_
                          refine TO_nil ?_
                          rw [← Option.some.inj hb_b10]
                          exact ⟨hs, ⟨rfl, trivial⟩⟩
                      · rintro φ s ⟨hs, hF⟩
                        rw [← hF.eq]
                        refine TO_as (v := (enc (b10 : Bool))) rfl ?_
                        refine TO_nil ?_
                        refine TC_ret ?_
                        rw [← Option.some.inj h]
                        exact ⟨rfl, KE1 (a := (b10 : Bool)) rfl rfl (rfl : is _ (b10 : Bool)) (rfl : is _ (b10 : Bool))⟩
theorem heads_pc (mx : Int) : PureC Tryd.prog 11 (FnG (NG mx) (fun a : Unit => heads)) := fnCG (ph6_ok mx) ⟨_, Tryd.func11, rfl⟩ <| fun a r h => heads_wf mx r h
noncomputable def ph7 (mx : Int) : Prims := (ph6 mx).addG 11 (FnG (NG mx) (fun a : Unit => heads))
theorem ph7_ok (mx : Int) : PrimsOk Tryd.prog (ph7 mx) := primsOk_addG (ph6_ok mx) (heads_pc mx)
theorem law_Long_wf (mx : Int) (n : Int) (two : Bool) (r : Bool) (h : law_Long n two = some r) : MF Tryd.prog (ph7 mx) 3 [enc n, enc two] (sG (NG mx)) fun v _ => ris v r := by
  refine TF_run [(0, enc n), (1, enc two)] Tryd.func3 rfl (by simp only [Tryd.f3]; rfl) fun ψ => ?_
  unfold law_Long at h
  have hs : Hp (sG (NG mx)) [.gl (NG mx)] := Hp.gl0
  refine TC_seq ?_
  refine TC_reg ?_
  refine TO_as (v := (enc (false : Bool))) rfl ?_
  refine TO_nil ?_
  refine TC_seq ?_
  refine TC_seq ?_
  refine TC_reg ?_
  refine TO_mv (v := (enc (n : Int))) rfl ?_
  refine TO_bi (v := (enc ((decide (n < 1)) : Bool))) rfl rfl rfl ?_
  refine TO_mv (v := (enc ((decide (n < 1)) : Bool))) rfl ?_
  obtain ⟨b, hb_b, h⟩ := bs h
  refine TO_cut 3 (fun φ s => Hp s [(.gl (NG mx))] ∧ Fx φ [(0, (enc (n : Int))), (1, (enc (two : Bool))), (13, (enc (b : Bool)))]) ?_ ?_
  · split at hb_b
    · rename_i cg
      refine TO_off rfl rfl (by simpa using cg) ?_
      refine TO_off rfl rfl (by simpa using cg) ?_
      refine TO_pt (v := (enc (true : Bool))) rfl cg rfl ?_
      refine TO_nil ?_
      rw [← Option.some.inj hb_b]
      exact ⟨hs, ⟨rfl, rfl, rfl, trivial⟩⟩
    · rename_i cg1
      refine TO_on rfl rfl (by simpa using cg1) ?_
      refine TO_mv (v := (enc (n : Int))) rfl ?_
      refine TO_on rfl rfl (by simpa using cg1) ?_
      refine TO_bi (v := (enc ((decide (n > 300)) : Bool))) rfl rfl rfl ?_
      refine TO_pf (v := (enc ((decide (n > 300)) : Bool))) rfl cg1 rfl ?_
      refine TO_nil ?_
      rw [← Option.some.inj hb_b]
      exact ⟨hs, ⟨rfl, rfl, rfl, trivial⟩⟩
  · rintro φ s ⟨hs, hF⟩
    rw [← hF.eq]
    refine TO_nil ?_
    split at h
    · rename_i hcond
      refine TC_cond_t rfl hcond ?_
      refine TC_seq ?_
      refine TC_reg ?_
      obtain ⟨r_, hx, h⟩ := bs h
      refine TO_fnG (f := fun a : Unit => heads) (a := (())) rfl Tryd.func11 rfl rfl .nil hs List.mem_cons_self hx ?_
      refine TO_as (v := (enc (r_ : Bool))) rfl ?_
      refine TO_nil ?_
      refine TC_ret ?_
      rw [← Option.some.inj h]
      exact ⟨rfl, KE1 (a := (r_ : Bool)) rfl rfl (rfl : is _ (r_ : Bool)) (rfl : is _ (r_ : Bool))⟩
    · rename_i hcond
      refine TC_cond_f rfl hcond ?_
      refine TC_skip ?_
      refine TC_seq ?_
      refine TC_reg ?_
      refine TO_as (v := (enc ((str []) : Str))) rfl ?_
      refine TO_nil ?_
      refine TC_seq ?_
      refine TC_seq ?_
      refine TC_reg ?_
      refine TO_as (v := (enc (0 : Int))) rfl ?_
      refine TO_nil ?_
      refine TC_block ?_
      obtain ⟨s_1, hl, h⟩ := bs h
      refine TC_loop (fun (p : (Str × Int)) φ s => match p with | (s_, i) => Fx φ [(0, (enc (n : Int))), (1, (enc (two : Bool))), (5, (enc (s_ : Str))), (6, (enc (i : Int)))] ∧ Hp s [(.gl (NG mx))]) (fun (o : Str) e φ s => match o with | s_1 => e = .exit 0 ∧ Fx φ [(0, (enc (n : Int))), (5, (enc (s_1 : Str)))] ∧ Hp s [(.gl (NG mx))]) ?_ hl ⟨⟨rfl, rfl, rfl, rfl, trivial⟩, hs⟩ ?_
      · rintro ⟨s_, i⟩ o h φ s ⟨hF, hs⟩
        rw [← hF.eq]
        rw [law_Long_l1] at h
        refine TC_seq ?_
        refine TC_seq ?_
        refine TC_reg ?_
        refine TO_mv (v := (enc (i : Int))) rfl ?_
        refine TO_mv (v := (enc (n : Int))) rfl ?_
        refine TO_bi (v := (enc ((decide (i < n)) : Bool))) rfl rfl rfl ?_
        refine TO_nil ?_
        split at h
        · rename_i hcond
          refine TC_cond_t rfl hcond ?_
          refine TC_skip ?_
          refine TC_cut (fun φ s => ∃ (s_2 : Str), Fx φ [(0, (enc (n : Int))), (1, (enc (two : Bool))), (5, (enc (s_2 : Str))), (6, (enc (i : Int)))] ∧ Hp s [(.gl (NG mx))] ∧ law_Long_j2 i s_2 = some o) ?_ ?_
          · refine TC_block ?_
            refine TC_seq ?_
            refine TC_reg ?_
            refine TO_mv (v := (enc (two : Bool))) rfl ?_
            refine TO_nil ?_
            split at h
            · rename_i hcond
              refine TC_cond_t rfl hcond ?_
              refine TC_reg ?_
              refine TO_mv (v := (enc (s_ : Str))) rfl ?_
              obtain ⟨s_3, hx1, h⟩ := bs h
              refine TO_cat rfl rfl hx1 ?_
              refine TO_as (v := (enc (s_3 : Str))) rfl ?_
              refine TO_nil ?_
              exact ⟨s_3, ⟨rfl, rfl, rfl, rfl, trivial⟩, hs, h⟩
            · rename_i hcond
              refine TC_cond_f rfl hcond ?_
              refine TC_reg ?_
              refine TO_mv (v := (enc (s_ : Str))) rfl ?_
              obtain ⟨s_4, hx2, h⟩ := bs h
              refine TO_cat rfl rfl hx2 ?_
              refine TO_as (v := (enc (s_4 : Str))) rfl ?_
              refine TO_nil ?_
              exact ⟨s_4, ⟨rfl, rfl, rfl, rfl, trivial⟩, hs, h⟩
          · rintro φ s ⟨s_2, hF, hs, h⟩
            rw [← hF.eq]
            unfold law_Long_j2 at h
            refine TC_reg ?_
            refine TO_mv (v := (enc (i : Int))) rfl ?_
            refine TO_bi (v := (enc ((IntKind.i64.wrap (i + 1)) : Int))) rfl rfl rfl ?_
            refine TO_as (v := (enc ((IntKind.i64.wrap (i + 1)) : Int))) rfl ?_
            refine TO_nil ?_
            rw [← Option.some.inj h]
            exact ⟨_, rfl, ⟨⟨rfl, rfl, rfl, rfl, trivial⟩, hs⟩⟩
        · rename_i hcond
          refine TC_cond_f rfl hcond ?_
          refine TC_exit ?_
          rw [← Option.some.inj h]
          exact ⟨_, rfl, rfl, ⟨⟨rfl, rfl, trivial⟩, hs⟩⟩
      · intro e φ s hE
        obtain ⟨rfl, hF, hs⟩ := hE
        rw [← hF.eq]
        rw [law_Long_a1] at h
        show if _ then _ else _
        rw [if_pos rfl]
        refine TC_seq ?_
        refine TC_reg ?_
        refine TO_mv (v := (enc (s_1 : Str))) rfl ?_
        obtain ⟨r_1, hx3, h⟩ := bs h
        refine TO_fnG (f := fun a : Str × Unit => name_Check a.1) (a := (s_1, ())) rfl Tryd.func12 rfl rfl (.cons (a := (s_1 : Str)) (Enc.self _) .nil) hs List.mem_cons_self hx3 ?_
        refine TO_as (v := (enc (r_1 : Int))) rfl ?_
        refine TO_nil ?_
        refine TC_seq ?_
        refine TC_seq ?_
        refine TC_reg ?_
        refine TO_mv (v := (enc (s_1 : Str))) rfl ?_
        refine TO_lnS Tryd.underlying9 rfl rfl ?_
        refine TO_bi (v := (enc ((decide (((List.length s_1 : Nat) : Int) > 100)) : Bool))) rfl rfl rfl ?_
        refine TO_nil ?_
        split at h
        · rename_i hcond
          refine TC_cond_t rfl hcond ?_
          refine TC_seq ?_
          refine TC_reg ?_
          refine TO_mv (v := (enc (r_1 : Int))) rfl ?_
          refine TO_bi (v := (enc ((r_1 == 208) : Bool))) rfl rfl rfl ?_
          refine TO_mv (v := (enc ((r_1 == 208) : Bool))) rfl ?_
          obtain ⟨b1, hb_b1, h⟩ := bs h
          refine TO_cut 2 (fun φ s => Hp s [(.gl (NG mx))] ∧ Fx φ [(34, (enc (b1 : Bool)))]) ?_ ?_
          · split at hb_b1
            · rename_i cg2
              refine TO_on rfl rfl cg2 ?_
              obtain ⟨r_2, hx4, hb_b1⟩ := bs hb_b1
              refine TO_fnG (f := fun a : Unit => heads) (a := (())) rfl Tryd.func11 rfl rfl .nil hs List.mem_cons_self hx4 ?_
              refine TO_pt (v := (enc (r_2 : Bool))) rfl cg2 rfl ?_
              refine TO_nil ?_
              rw [← Option.some.inj hb_b1]
              exact ⟨hs, ⟨rfl, trivial⟩⟩
            · rename_i cg3
              refine TO_off rfl rfl cg3 ?_
              refine TO_pf (v := (enc (false : Bool))) rfl cg3 rfl ?_
              refine TO_nil ?_
              rw [← Option.some.inj hb_b1]
              exact ⟨hs, ⟨rfl, trivial⟩⟩
          · rintro φ s ⟨hs, hF⟩
            rw [← hF.eq]
            refine TO_as (v := (enc (b1 : Bool))) rfl ?_
            refine TO_nil ?_
            refine TC_ret ?_
            rw [← Option.some.inj h]
            exact ⟨rfl, KE1 (a := (b1 : Bool)) rfl rfl (rfl : is _ (b1 : Bool)) (rfl : is _ (b1 : Bool))⟩
        · rename_i hcond
          refine TC_cond_f rfl hcond ?_
          refine TC_skip ?_
          refine TC_seq ?_
          refine TC_reg ?_
          refine TO_mv (v := (enc (r_1 : Int))) rfl ?_
          refine TO_bi (v := (enc ((r_1 == 0) : Bool))) rfl rfl rfl ?_
          refine TO_mv (v := (enc ((r_1 == 0) : Bool))) rfl ?_
          obtain ⟨b2, hb_b2, h⟩ := bs h
          refine TO_cut 5 (fun φ s => Hp s [(.gl (NG mx))] ∧ Fx φ [(42, (enc (b2 : Bool)))]) ?_ ?_
          · split at hb_b2
            · rename_i cg4
              refine TO_on rfl rfl cg4 ?_
              refine TO_mv (v := (enc (s_1 : Str))) rfl ?_
              refine TO_on rfl rfl cg4 ?_
              obtain ⟨r_3, hx5, hb_b2⟩ := bs hb_b2
              refine TO_fn (f := fun a : Str × Unit => name_Count a.1) (a := (s_1, ())) rfl Tryd.func13 rfl rfl (.cons (a := (s_1 : Str)) (Enc.self _) .nil) hx5 ?_
              refine TO_on rfl rfl cg4 ?_
              refine TO_mv (v := (enc (n : Int))) rfl ?_
              refine TO_on rfl rfl cg4 ?_
              refine TO_bi (v := (enc ((r_3 == n) : Bool))) rfl rfl rfl ?_
              refine TO_pt (v := (enc ((r_3 == n) : Bool))) rfl cg4 rfl ?_
              refine TO_nil ?_
              rw [← Option.some.inj hb_b2]
              exact ⟨hs, ⟨rfl, trivial⟩⟩
            · rename_i cg5
              refine TO_off rfl rfl cg5 ?_
              refine TO_off rfl rfl cg5 ?_
              refine TO_off rfl rfl cg5 ?_
              refine TO_off rfl rfl cg5 ?_
              refine TO_pf (v := (enc (false : Bool))) rfl cg5 rfl ?_
              refine TO_nil ?_
              rw [← Option.some.inj hb_b2]
              exact ⟨hs, ⟨rfl, trivial⟩⟩
          · rintro φ s ⟨hs, hF⟩
            rw [← hF.eq]
            refine TO_mv (v := (enc (b2 : Bool))) rfl ?_
            obtain ⟨b3, hb_b3, h⟩ := bs h
            refine TO_cut 2 (fun φ s => Hp s [(.gl (NG mx))] ∧ Fx φ [(45, (enc (b3 : Bool)))]) ?_ ?_
            · split at hb_b3
              · rename_i cg6
                refine TO_on rfl rfl cg6 ?_
                obtain ⟨r_4, hx6, hb_b3⟩ := bs hb_b3
                refine TO_fnG (f := fun a : Unit => heads) (a := (())) rfl Tryd.func11 rfl rfl .nil hs List.mem_cons_self hx6 ?_
                refine TO_pt (v := (enc (r_4 : Bool))) rfl cg6 rfl ?_
                refine TO_nil ?_
                rw [← Option.some.inj hb_b3]
                exact ⟨hs, ⟨rfl, trivial⟩⟩
              · rename_i cg7
                refine TO_off rfl rfl cg7 ?_
                refine TO_pf (v := (enc (false : Bool))) rfl cg7 rfl ?_
                refine TO_nil ?_
                rw [← Option.some.inj hb_b3]
                exact ⟨hs, ⟨rfl, trivial⟩⟩
            · rintro φ s ⟨hs, hF⟩
              rw [← hF.eq]
              refine TO_as (v := (enc (b3 : Bool))) rfl ?_
              refine TO_nil ?_
              refine TC_ret ?_
              rw [← Option.some.inj h]
              exact ⟨rfl, KE1 (a := (b3 : Bool)) rfl rfl (rfl : is _ (b3 : Bool)) (rfl : is _ (b3 : Bool))⟩
theorem law_Long_pc (mx : Int) : PureC Tryd.prog 3 (FnG (NG mx) (fun a : Int × Bool × Unit => law_Long a.1 a.2.1)) := fnCG (ph7_ok mx) ⟨_, Tryd.func3, rfl⟩ <| fun a r h => law_Long_wf mx a.1 a.2.1 r h
noncomputable def ph8 (mx : Int) : Prims := (ph7 mx).addG 3 (FnG (NG mx) (fun a : Int × Bool × Unit => law_Long a.1 a.2.1))
theorem ph8_ok (mx : Int) : PrimsOk Tryd.prog (ph8 mx) := primsOk_addG (ph7_ok mx) (law_Long_pc mx)
theorem law_Once_wf (mx : Int) (s_ : Str) (r : Bool) (h : law_Once s_ = some r) : MF Tryd.prog (ph8 mx) 4 [enc s_] (sG (NG mx)) fun v _ => ris v r := by
  refine TF_run [(0, enc s_)] Tryd.func4 rfl (by simp only [Tryd.f4]; rfl) fun ψ => ?_
  unfold law_Once at h
  have hs : Hp (sG (NG mx)) [.gl (NG mx)] := Hp.gl0
  refine TC_seq ?_
  refine TC_reg ?_
  refine TO_as (v := (enc (false : Bool))) rfl ?_
  refine TO_nil ?_
  refine TC_seq ?_
  refine TC_reg ?_
  refine TO_mv (v := (enc (s_ : Str))) rfl ?_
  obtain ⟨r_, hx, h⟩ := bs h
  refine TO_fnG (f := fun a : Str × Unit => name_Unquote a.1) (a := (s_, ())) rfl Tryd.func14 rfl rfl (.cons (a := (s_ : Str)) (Enc.self _) .nil) hs List.mem_cons_self hx ?_
  refine TO_mv (v := (res r_)) rfl ?_
  refine TO_ex rfl rfl ?_
  refine TO_ex rfl rfl ?_
  refine TO_as (v := (enc (r_.1 : Str))) rfl ?_
  refine TO_as (v := (enc (r_.2 : Bool))) rfl ?_
  refine TO_nil ?_
  refine TC_seq ?_
  refine TC_seq ?_
  refine TC_reg ?_
  refine TO_mv (v := (enc (r_.2 : Bool))) rfl ?_
  refine TO_un (v := (enc ((!r_.2) : Bool))) rfl rfl ?_
  refine TO_nil ?_
  split at h
  · rename_i hcond
    refine TC_cond_t rfl hcond ?_
    refine TC_seq ?_
    refine TC_reg ?_
    refine TO_mv (v := (enc (r_.1 : Str))) rfl ?_
    refine TO_bi (v := (enc ((eqS r_.1 (str [])) : Bool))) rfl rfl rfl ?_
    refine TO_mv (v := (enc ((eqS r_.1 (str [])) : Bool))) rfl ?_
    obtain ⟨b, hb_b, h⟩ := bs h
    refine TO_cut 2 (fun φ s => Hp s [(.gl (NG mx))] ∧ Fx φ [(16, (enc (b : Bool)))]) ?_ ?_
    · split at hb_b
      · rename_i cg
        refine TO_on rfl rfl cg ?_
        obtain ⟨r_1, hx1, hb_b⟩ := bs hb_b
        refine TO_fnG (f := fun a : Unit => heads) (a := (())) rfl Tryd.func11 rfl rfl .nil hs List.mem_cons_self hx1 ?_
        refine TO_pt (v := (enc (r_1 : Bool))) rfl cg rfl ?_
        refine TO_nil ?_
        rw [← Option.some.inj hb_b]
        exact ⟨hs, ⟨rfl, trivial⟩⟩
      · rename_i cg1
        refine TO_off rfl rfl cg1 ?_
        refine TO_pf (v := (enc (false : Bool))) rfl cg1 rfl ?_
        refine TO_nil ?_
        rw [← Option.some.inj hb_b]
        exact ⟨hs, ⟨rfl, trivial⟩⟩
    · rintro φ s ⟨hs, hF⟩
      rw [← hF.eq]
      refine TO_as (v := (enc (b : Bool))) rfl ?_
      refine TO_nil ?_
      refine TC_ret ?_
      rw [← Option.some.inj h]
      exact ⟨rfl, KE1 (a := (b : Bool)) rfl rfl (rfl : is _ (b : Bool)) (rfl : is _ (b : Bool))⟩
  · rename_i hcond
    refine TC_cond_f rfl hcond ?_
    refine TC_skip ?_
    refine TC_seq ?_
    refine TC_reg ?_
    refine TO_mv (v := (enc (r_.1 : Str))) rfl ?_
    obtain ⟨r_2, hx2, h⟩ := bs h
    refine TO_fnG (f := fun a : Str × Unit => name_Quote a.1) (a := (r_.1, ())) rfl Tryd.func15 rfl rfl (.cons (a := (r_.1 : Str)) (Enc.self _) .nil) hs List.mem_cons_self hx2 ?_
    refine TO_mv (v := (enc (s_ : Str))) rfl ?_
    refine TO_bi (v := (enc ((eqS r_2 s_) : Bool))) rfl rfl rfl ?_
    refine TO_mv (v := (enc ((eqS r_2 s_) : Bool))) rfl ?_
    obtain ⟨b1, hb_b1, h⟩ := bs h
    refine TO_cut 2 (fun φ s => Hp s [(.gl (NG mx))] ∧ Fx φ [(23, (enc (b1 : Bool)))]) ?_ ?_
    · split at hb_b1
      · rename_i cg2
        refine TO_on rfl rfl cg2 ?_
        obtain ⟨r_3, hx3, hb_b1⟩ := bs hb_b1
        refine TO_fnG (f := fun a : Unit => heads) (a := (())) rfl Tryd.func11 rfl rfl .nil hs List.mem_cons_self hx3 ?_
        refine TO_pt (v := (enc (r_3 : Bool))) rfl cg2 rfl ?_
        refine TO_nil ?_
        rw [← Option.some.inj hb_b1]
        exact ⟨hs, ⟨rfl, trivial⟩⟩
      · rename_i cg3
        refine TO_off rfl rfl cg3 ?_
        refine TO_pf (v := (enc (false : Bool))) rfl cg3 rfl ?_
        refine TO_nil ?_
        rw [← Option.some.inj hb_b1]
        exact ⟨hs, ⟨rfl, trivial⟩⟩
    · rintro φ s ⟨hs, hF⟩
      rw [← hF.eq]
      refine TO_as (v := (enc (b1 : Bool))) rfl ?_
      refine TO_nil ?_
      refine TC_ret ?_
      rw [← Option.some.inj h]
      exact ⟨rfl, KE1 (a := (b1 : Bool)) rfl rfl (rfl : is _ (b1 : Bool)) (rfl : is _ (b1 : Bool))⟩
theorem law_Once_pc (mx : Int) : PureC Tryd.prog 4 (FnG (NG mx) (fun a : Str × Unit => law_Once a.1)) := fnCG (ph8_ok mx) ⟨_, Tryd.func4, rfl⟩ <| fun a r h => law_Once_wf mx a.1 r h
noncomputable def ph9 (mx : Int) : Prims := (ph8 mx).addG 4 (FnG (NG mx) (fun a : Str × Unit => law_Once a.1))
theorem ph9_ok (mx : Int) : PrimsOk Tryd.prog (ph9 mx) := primsOk_addG (ph8_ok mx) (law_Once_pc mx)
theorem law_Checks_wf (mx : Int) (s_ : Str) (r : Bool) (h : law_Checks s_ = some r) : MF Tryd.prog (ph9 mx) 5 [enc s_] (sG (NG mx)) fun v _ => ris v r := by
  refine TF_run [(0, enc s_)] Tryd.func5 rfl (by simp only [Tryd.f5]; rfl) fun ψ => ?_
  unfold law_Checks at h
  have hs : Hp (sG (NG mx)) [.gl (NG mx)] := Hp.gl0
  refine TC_seq ?_
  refine TC_reg ?_
  refine TO_as (v := (enc (false : Bool))) rfl ?_
  refine TO_nil ?_
  refine TC_seq ?_
  refine TC_reg ?_
  refine TO_mv (v := (enc (s_ : Str))) rfl ?_
  obtain ⟨r_, hx, h⟩ := bs h
  refine TO_fnG (f := fun a : Str × Unit => name_Split a.1) (a := (s_, ())) rfl Tryd.func16 rfl rfl (.cons (a := (s_ : Str)) (Enc.self _) .nil) hs List.mem_cons_self hx ?_
  refine TO_mv (v := (res r_)) rfl ?_
  refine TO_ex rfl rfl ?_
  refine TO_ex rfl rfl ?_
  refine TO_ex rfl rfl ?_
  refine TO_as (v := (enc (r_.1 : (List Str)))) rfl ?_
  refine TO_as (v := (enc (r_.2.1 : Bool))) rfl ?_
  refine TO_as (v := (enc (r_.2.2 : Int))) rfl ?_
  refine TO_nil ?_
  refine TC_seq ?_
  refine TC_reg ?_
  refine TO_mv (v := (enc (s_ : Str))) rfl ?_
  obtain ⟨r_1, hx1, h⟩ := bs h
  refine TO_fn (f := fun a : Str × Unit => ref_Split a.1) (a := (s_, ())) rfl Tryd.func17 rfl rfl (.cons (a := (s_ : Str)) (Enc.self _) .nil) hx1 ?_
  refine TO_mv (v := (res r_1)) rfl ?_
  refine TO_ex rfl rfl ?_
  refine TO_ex rfl rfl ?_
  refine TO_ex rfl rfl ?_
  refine TO_as (v := (enc (r_1.1 : (List Str)))) rfl ?_
  refine TO_as (v := (enc (r_1.2.1 : Bool))) rfl ?_
  refine TO_as (v := (enc (r_1.2.2 : Int))) rfl ?_
  refine TO_nil ?_
  refine TC_seq ?_
  refine TC_reg ?_
  refine TO_mv (v := (enc (s_ : Str))) rfl ?_
  obtain ⟨r_2, hx2, h⟩ := bs h
  refine TO_fnG (f := fun a : Str × Unit => name_Check a.1) (a := (s_, ())) rfl Tryd.func12 rfl rfl (.cons (a := (s_ : Str)) (Enc.self _) .nil) hs List.mem_cons_self hx2 ?_
  refine TO_mv (v := (enc (s_ : Str))) rfl ?_
  obtain ⟨r_3, hx3, h⟩ := bs h
  refine TO_fn (f := fun a : Str × Unit => ref_Check a.1) (a := (s_, ())) rfl Tryd.func18 rfl rfl (.cons (a := (s_ : Str)) (Enc.self _) .nil) hx3 ?_
  refine TO_bi (v := (enc ((r_2 == r_3) : Bool))) rfl rfl rfl ?_
  refine TO_mv (v := (enc ((r_2 == r_3) : Bool))) rfl ?_
  obtain ⟨b, hb_b, h⟩ := bs h
  refine TO_cut 4 (fun φ s => Hp s [(.gl (NG mx))] ∧ Fx φ [(0, (enc (s_ : Str))), (4, (enc (r_.2.1 : Bool))), (5, (enc (r_.2.2 : Int))), (7, (enc (r_1.2.1 : Bool))), (8, (enc (r_1.2.2 : Int))), (30, (enc (b : Bool)))]) ?_ ?_
  · split at hb_b
    · rename_i cg
      refine TO_on rfl rfl cg ?_
      refine TO_mv (v := (enc (r_.1 : (List Str)))) rfl ?_
      refine TO_on rfl rfl cg ?_
      refine TO_mv (v := (enc (r_1.1 : (List Str)))) rfl ?_
      refine TO_on rfl rfl cg ?_
      obtain ⟨r_4, hx4, hb_b⟩ := bs hb_b
      refine TO_fn (f := fun a : (List Str) × (List Str) × Unit => ref_Texts a.1 a.2.1) (a := (r_.1, r_1.1, ())) rfl Tryd.func19 rfl rfl (.cons (a := (r_.1 : (List Str))) (Enc.self r_.1) (.cons (a := (r_1.1 : (List Str))) (Enc.self r_1.1) .nil)) hx4 ?_
      refine TO_pt (v := (enc (r_4 : Bool))) rfl cg rfl ?_
      refine TO_nil ?_
      rw [← Option.some.inj hb_b]
      exact ⟨hs, ⟨rfl, rfl, rfl, rfl, rfl, rfl, trivial⟩⟩
    · rename_i cg1
      refine TO_off rfl rfl cg1 ?_
      refine TO_off rfl rfl cg1 ?_
      refine TO_off rfl rfl cg1 ?_
      refine TO_pf (v := (enc (false : Bool))) rfl cg1 rfl ?_
      refine TO_nil ?_
      rw [← Option.some.inj hb_b]
      exact ⟨hs, ⟨rfl, rfl, rfl, rfl, rfl, rfl, trivial⟩⟩
  · rintro φ s ⟨hs, hF⟩
    rw [← hF.eq]
    refine TO_mv (v := (enc (b : Bool))) rfl ?_
    obtain ⟨b1, hb_b1, h⟩ := bs h
    refine TO_cut 4 (fun φ s => Hp s [(.gl (NG mx))] ∧ Fx φ [(0, (enc (s_ : Str))), (5, (enc (r_.2.2 : Int))), (8, (enc (r_1.2.2 : Int))), (35, (enc (b1 : Bool)))]) ?_ ?_
    · split at hb_b1
      · rename_i cg2
        refine TO_on rfl rfl cg2 ?_
        refine TO_mv (v := (enc (r_.2.1 : Bool))) rfl ?_
        refine TO_on rfl rfl cg2 ?_
        refine TO_mv (v := (enc (r_1.2.1 : Bool))) rfl ?_
        refine TO_on rfl rfl cg2 ?_
        refine TO_biB Tryd.underlying4 rfl rfl ?_
        refine TO_pt (v := (enc ((r_.2.1 == r_1.2.1) : Bool))) rfl cg2 rfl ?_
        refine TO_nil ?_
        rw [← Option.some.inj hb_b1]
        exact ⟨hs, ⟨rfl, rfl, rfl, rfl, trivial⟩⟩
      · rename_i cg3
        refine TO_off rfl rfl cg3 ?_
        refine TO_off rfl rfl cg3 ?_
        refine TO_off rfl rfl cg3 ?_
        refine TO_pf (v := (enc (false : Bool))) rfl cg3 rfl ?_
        refine TO_nil ?_
        rw [← Option.some.inj hb_b1]
        exact ⟨hs, ⟨rfl, rfl, rfl, rfl, trivial⟩⟩
    · rintro φ s ⟨hs, hF⟩
      rw [← hF.eq]
      refine TO_mv (v := (enc (b1 : Bool))) rfl ?_
      obtain ⟨b2, hb_b2, h⟩ := bs h
      refine TO_cut 4 (fun φ s => Hp s [(.gl (NG mx))] ∧ Fx φ [(0, (enc (s_ : Str))), (40, (enc (b2 : Bool)))]) ?_ ?_
      · split at hb_b2
        · rename_i cg4
          refine TO_on rfl rfl cg4 ?_
          refine TO_mv (v := (enc (r_.2.2 : Int))) rfl ?_
          refine TO_on rfl rfl cg4 ?_
          refine TO_mv (v := (enc (r_1.2.2 : Int))) rfl ?_
          refine TO_on rfl rfl cg4 ?_
          refine TO_bi (v := (enc ((r_.2.2 == r_1.2.2) : Bool))) rfl rfl rfl ?_
          refine TO_pt (v := (enc ((r_.2.2 == r_1.2.2) : Bool))) rfl cg4 rfl ?_
          refine TO_nil ?_
          rw [← Option.some.inj hb_b2]
          exact ⟨hs, ⟨rfl, rfl, trivial⟩⟩
        · rename_i cg5
          refine TO_off rfl rfl cg5 ?_
          refine TO_off rfl rfl cg5 ?_
          refine TO_off rfl rfl cg5 ?_
          refine TO_pf (v := (enc (false : Bool))) rfl cg5 rfl ?_
          refine TO_nil ?_
          rw [← Option.some.inj hb_b2]
          exact ⟨hs, ⟨rfl, rfl, trivial⟩⟩
      · rintro φ s ⟨hs, hF⟩
        rw [← hF.eq]
        refine TO_mv (v := (enc (b2 : Bool))) rfl ?_
        obtain ⟨b3, hb_b3, h⟩ := bs h
        refine TO_cut 6 (fun φ s => Hp s [(.gl (NG mx))] ∧ Fx φ [(47, (enc (b3 : Bool)))]) ?_ ?_
        · split at hb_b3
          · rename_i cg6
            refine TO_on rfl rfl cg6 ?_
            refine TO_mv (v := (enc (s_ : Str))) rfl ?_
            refine TO_on rfl rfl cg6 ?_
            obtain ⟨r_5, hx5, hb_b3⟩ := bs hb_b3
            refine TO_fn (f := fun a : Str × Unit => name_Count a.1) (a := (s_, ())) rfl Tryd.func13 rfl rfl (.cons (a := (s_ : Str)) (Enc.self _) .nil) hx5 ?_
            refine TO_on rfl rfl cg6 ?_
            refine TO_mv (v := (enc (s_ : Str))) rfl ?_
            refine TO_on rfl rfl cg6 ?_
            obtain ⟨r_6, hx6, hb_b3⟩ := bs hb_b3
            refine TO_fn (f := fun a : Str × Unit => ref_Count a.1) (a := (s_, ())) rfl Tryd.func20 rfl rfl (.cons (a := (s_ : Str)) (Enc.self _) .nil) hx6 ?_
            refine TO_on rfl rfl cg6 ?_
            refine TO_bi (v := (enc ((r_5 == r_6) : Bool))) rfl rfl rfl ?_
            refine TO_pt (v := (enc ((r_5 == r_6) : Bool))) rfl cg6 rfl ?_
            refine TO_nil ?_
            rw [← Option.some.inj hb_b3]
            exact ⟨hs, ⟨rfl, trivial⟩⟩
          · rename_i cg7
            refine TO_off rfl rfl cg7 ?_
            refine TO_off rfl rfl cg7 ?_
            refine TO_off rfl rfl cg7 ?_
            refine TO_off rfl rfl cg7 ?_
            refine TO_off rfl rfl cg7 ?_
            refine TO_pf (v := (enc (false : Bool))) rfl cg7 rfl ?_
            refine TO_nil ?_
            rw [← Option.some.inj hb_b3]
            exact ⟨hs, ⟨rfl, trivial⟩⟩
        · rintro φ s ⟨hs, hF⟩
          rw [← hF.eq]
          refine TO_mv (v := (enc (b3 : Bool))) rfl ?_
          obtain ⟨b4, hb_b4, h⟩ := bs h
          refine TO_cut 2 (fun φ s => Hp s [(.gl (NG mx))] ∧ Fx φ [(50, (enc (b4 : Bool)))]) ?_ ?_
          · split at hb_b4
            · rename_i cg8
              refine TO_on rfl rfl cg8 ?_
              obtain ⟨r_7, hx7, hb_b4⟩ := bs hb_b4
              refine TO_fnG (f := fun a : Unit => heads) (a := (())) rfl Tryd.func11 rfl rfl .nil hs List.mem_cons_self hx7 ?_
              refine TO_pt (v := (enc (r_7 : Bool))) rfl cg8 rfl ?_
              refine TO_nil ?_
              rw [← Option.some.inj hb_b4]
              exact ⟨hs, ⟨rfl, trivial⟩⟩
            · rename_i cg9
              refine TO_off rfl rfl cg9 ?_
              refine TO_pf (v := (enc (false : Bool))) rfl cg9 rfl ?_
              refine TO_nil ?_
              rw [← Option.some.inj hb_b4]
              exact ⟨hs, ⟨rfl, trivial⟩⟩
          · rintro φ s ⟨hs, hF⟩
            rw [← hF.eq]
            refine TO_as (v := (enc (b4 : Bool))) rfl ?_
            refine TO_nil ?_
            refine TC_ret ?_
            rw [← Option.some.inj h]
            exact ⟨rfl, KE1 (a := (b4 : Bool)) rfl rfl (rfl : is _ (b4 : Bool)) (rfl : is _ (b4 : Bool))⟩
theorem law_Checks_pc (mx : Int) : PureC Tryd.prog 5 (FnG (NG mx) (fun a : Str × Unit => law_Checks a.1)) := fnCG (ph9_ok mx) ⟨_, Tryd.func5, rfl⟩ <| fun a r h => law_Checks_wf mx a.1 r h
noncomputable def ph10 (mx : Int) : Prims := (ph9 mx).addG 5 (FnG (NG mx) (fun a : Str × Unit => law_Checks a.1))
theorem ph10_ok (mx : Int) : PrimsOk Tryd.prog (ph10 mx) := primsOk_addG (ph9_ok mx) (law_Checks_pc mx)
theorem law_Orders_wf (mx : Int) (a : Str) (b : Str) (r : Bool) (h : law_Orders a b = some r) : MF Tryd.prog (ph10 mx) 6 [enc a, enc b] (sG (NG mx)) fun v _ => ris v r := by
  refine TF_run [(0, enc a), (1, enc b)] Tryd.func6 rfl (by simp only [Tryd.f6]; rfl) fun ψ => ?_
  unfold law_Orders at h
  have hs : Hp (sG (NG mx)) [.gl (NG mx)] := Hp.gl0
  refine TC_seq ?_
  refine TC_reg ?_
  refine TO_as (v := (enc (false : Bool))) rfl ?_
  refine TO_nil ?_
  refine TC_seq ?_
  refine TC_reg ?_
  refine TO_mv (v := (enc (a : Str))) rfl ?_
  refine TO_mv (v := (enc (b : Str))) rfl ?_
  obtain ⟨r_, hx, h⟩ := bs h
  refine TO_fnG (f := fun a : Str × Str × Unit => name_Order a.1 a.2.1) (a := (a, b, ())) rfl Tryd.func21 rfl rfl (.cons (a := (a : Str)) (Enc.self _) (.cons (a := (b : Str)) (Enc.self _) .nil)) hs List.mem_cons_self hx ?_
  refine TO_mv (v := (enc (a : Str))) rfl ?_
  refine TO_mv (v := (enc (b : Str))) rfl ?_
  obtain ⟨r_1, hx1, h⟩ := bs h
  refine TO_fn (f := fun a : Str × Str × Unit => ref_Order a.1 a.2.1) (a := (a, b, ())) rfl Tryd.func22 rfl rfl (.cons (a := (a : Str)) (Enc.self _) (.cons (a := (b : Str)) (Enc.self _) .nil)) hx1 ?_
  refine TO_bi (v := (enc ((r_ == r_1) : Bool))) rfl rfl rfl ?_
  refine TO_mv (v := (enc ((r_ == r_1) : Bool))) rfl ?_
  obtain ⟨b1, hb_b1, h⟩ := bs h
  refine TO_cut 2 (fun φ s => Hp s [(.gl (NG mx))] ∧ Fx φ [(14, (enc (b1 : Bool)))]) ?_ ?_
  · split at hb_b1
    · rename_i cg
      refine TO_on rfl rfl cg ?_
      obtain ⟨r_2, hx2, hb_b1⟩ := bs hb_b1
      refine TO_fnG (f := fun a : Unit => heads) (a := (())) rfl Tryd.func11 rfl rfl .nil hs List.mem_cons_self hx2 ?_
      refine TO_pt (v := (enc (r_2 : Bool))) rfl cg rfl ?_
      refine TO_nil ?_
      rw [← Option.some.inj hb_b1]
      exact ⟨hs, ⟨rfl, trivial⟩⟩
    · rename_i cg1
      refine TO_off rfl rfl cg1 ?_
      refine TO_pf (v := (enc (false : Bool))) rfl cg1 rfl ?_
      refine TO_nil ?_
      rw [← Option.some.inj hb_b1]
      exact ⟨hs, ⟨rfl, trivial⟩⟩
  · rintro φ s ⟨hs, hF⟩
    rw [← hF.eq]
    refine TO_as (v := (enc (b1 : Bool))) rfl ?_
    refine TO_nil ?_
    refine TC_ret ?_
    rw [← Option.some.inj h]
    exact ⟨rfl, KE1 (a := (b1 : Bool)) rfl rfl (rfl : is _ (b1 : Bool)) (rfl : is _ (b1 : Bool))⟩
theorem law_Orders_pc (mx : Int) : PureC Tryd.prog 6 (FnG (NG mx) (fun a : Str × Str × Unit => law_Orders a.1 a.2.1)) := fnCG (ph10_ok mx) ⟨_, Tryd.func6, rfl⟩ <| fun a r h => law_Orders_wf mx a.1 a.2.1 r h
noncomputable def ph11 (mx : Int) : Prims := (ph10 mx).addG 6 (FnG (NG mx) (fun a : Str × Str × Unit => law_Orders a.1 a.2.1))
theorem ph11_ok (mx : Int) : PrimsOk Tryd.prog (ph11 mx) := primsOk_addG (ph10_ok mx) (law_Orders_pc mx)
theorem law_Quotes_wf (mx : Int) (s_ : Str) (r : Bool) (h : law_Quotes s_ = some r) : MF Tryd.prog (ph11 mx) 7 [enc s_] (sG (NG mx)) fun v _ => ris v r := by
  refine TF_run [(0, enc s_)] Tryd.func7 rfl (by simp only [Tryd.f7]; rfl) fun ψ => ?_
  unfold law_Quotes at h
  have hs : Hp (sG (NG mx)) [.gl (NG mx)] := Hp.gl0
  refine TC_seq ?_
  refine TC_reg ?_
  refine TO_as (v := (enc (false : Bool))) rfl ?_
  refine TO_nil ?_
  refine TC_seq ?_
  refine TC_reg ?_
  refine TO_mv (v := (enc (s_ : Str))) rfl ?_
  obtain ⟨r_, hx, h⟩ := bs h
  refine TO_fnG (f := fun a : Str × Unit => name_Unquote a.1) (a := (s_, ())) rfl Tryd.func14 rfl rfl (.cons (a := (s_ : Str)) (Enc.self _) .nil) hs List.mem_cons_self hx ?_
  refine TO_mv (v := (res r_)) rfl ?_
  refine TO_ex rfl rfl ?_
  refine TO_ex rfl rfl ?_
  refine TO_as (v := (enc (r_.1 : Str))) rfl ?_
  refine TO_as (v := (enc (r_.2 : Bool))) rfl ?_
  refine TO_nil ?_
  refine TC_seq ?_
  refine TC_reg ?_
  refine TO_mv (v := (enc (s_ : Str))) rfl ?_
  obtain ⟨r_1, hx1, h⟩ := bs h
  refine TO_fn (f := fun a : Str × Unit => ref_Unquote a.1) (a := (s_, ())) rfl Tryd.func23 rfl rfl (.cons (a := (s_ : Str)) (Enc.self _) .nil) hx1 ?_
  refine TO_mv (v := (res r_1)) rfl ?_
  refine TO_ex rfl rfl ?_
  refine TO_ex rfl rfl ?_
  refine TO_as (v := (enc (r_1.1 : Str))) rfl ?_
  refine TO_as (v := (enc (r_1.2 : Bool))) rfl ?_
  refine TO_nil ?_
  refine TC_seq ?_
  refine TC_reg ?_
  refine TO_mv (v := (enc (s_ : Str))) rfl ?_
  obtain ⟨r_2, hx2, h⟩ := bs h
  refine TO_fnG (f := fun a : Str × Unit => name_Quote a.1) (a := (s_, ())) rfl Tryd.func15 rfl rfl (.cons (a := (s_ : Str)) (Enc.self _) .nil) hs List.mem_cons_self hx2 ?_
  refine TO_mv (v := (enc (s_ : Str))) rfl ?_
  obtain ⟨r_3, hx3, h⟩ := bs h
  refine TO_fn (f := fun a : Str × Unit => ref_Quote a.1) (a := (s_, ())) rfl Tryd.func24 rfl rfl (.cons (a := (s_ : Str)) (Enc.self _) .nil) hx3 ?_
  refine TO_bi (v := (enc ((eqS r_2 r_3) : Bool))) rfl rfl rfl ?_
  refine TO_mv (v := (enc ((eqS r_2 r_3) : Bool))) rfl ?_
  obtain ⟨b, hb_b, h⟩ := bs h
  refine TO_cut 4 (fun φ s => Hp s [(.gl (NG mx))] ∧ Fx φ [(4, (enc (r_.2 : Bool))), (6, (enc (r_1.2 : Bool))), (26, (enc (b : Bool)))]) ?_ ?_
  · split at hb_b
    · rename_i cg
      refine TO_on rfl rfl cg ?_
      refine TO_mv (v := (enc (r_.1 : Str))) rfl ?_
      refine TO_on rfl rfl cg ?_
      refine TO_mv (v := (enc (r_1.1 : Str))) rfl ?_
      refine TO_on rfl rfl cg ?_
      refine TO_bi (v := (enc ((eqS r_.1 r_1.1) : Bool))) rfl rfl rfl ?_
      refine TO_pt (v := (enc ((eqS r_.1 r_1.1) : Bool))) rfl cg rfl ?_
      refine TO_nil ?_
      rw [← Option.some.inj hb_b]
      exact ⟨hs, ⟨rfl, rfl, rfl, trivial⟩⟩
    · rename_i cg1
      refine TO_off rfl rfl cg1 ?_
      refine TO_off rfl rfl cg1 ?_
      refine TO_off rfl rfl cg1 ?_
      refine TO_pf (v := (enc (false : Bool))) rfl cg1 rfl ?_
      refine TO_nil ?_
      rw [← Option.some.inj hb_b]
      exact ⟨hs, ⟨rfl, rfl, rfl, trivial⟩⟩
  · rintro φ s ⟨hs, hF⟩
    rw [← hF.eq]
    refine TO_mv (v := (enc (b : Bool))) rfl ?_
    obtain ⟨b1, hb_b1, h⟩ := bs h
    refine TO_cut 4 (fun φ s => Hp s [(.gl (NG mx))] ∧ Fx φ [(31, (enc (b1 : Bool)))]) ?_ ?_
    · split at hb_b1
      · rename_i cg2
        refine TO_on rfl rfl cg2 ?_
        refine TO_mv (v := (enc (r_.2 : Bool))) rfl ?_
        refine TO_on rfl rfl cg2 ?_
        refine TO_mv (v := (enc (r_1.2 : Bool))) rfl ?_
        refine TO_on rfl rfl cg2 ?_
        refine TO_biB Tryd.underlying4 rfl rfl ?_
        refine TO_pt (v := (enc ((r_.2 == r_1.2) : Bool))) rfl cg2 rfl ?_
        refine TO_nil ?_
        rw [← Option.some.inj hb_b1]
        exact ⟨hs, ⟨rfl, trivial⟩⟩
      · rename_i cg3
        refine TO_off rfl rfl cg3 ?_
        refine TO_off rfl rfl cg3 ?_
        refine TO_off rfl rfl cg3 ?_
        refine TO_pf (v := (enc (false : Bool))) rfl cg3 rfl ?_
        refine TO_nil ?_
        rw [← Option.some.inj hb_b1]
        exact ⟨hs, ⟨rfl, trivial⟩⟩
    · rintro φ s ⟨hs, hF⟩
      rw [← hF.eq]
      refine TO_mv (v := (enc (b1 : Bool))) rfl ?_
      obtain ⟨b2, hb_b2, h⟩ := bs h
      refine TO_cut 2 (fun φ s => Hp s [(.gl (NG mx))] ∧ Fx φ [(34, (enc (b2 : Bool)))]) ?_ ?_
      · split at hb_b2
        · rename_i cg4
          refine TO_on rfl rfl cg4 ?_
          obtain ⟨r_4, hx4, hb_b2⟩ := bs hb_b2
          refine TO_fnG (f := fun a : Unit => heads) (a := (())) rfl Tryd.func11 rfl rfl .nil hs List.mem_cons_self hx4 ?_
          refine TO_pt (v := (enc (r_4 : Bool))) rfl cg4 rfl ?_
          refine TO_nil ?_
          rw [← Option.some.inj hb_b2]
          exact ⟨hs, ⟨rfl, trivial⟩⟩
        · rename_i cg5
          refine TO_off rfl rfl cg5 ?_
          refine TO_pf (v := (enc (false : Bool))) rfl cg5 rfl ?_
          refine TO_nil ?_
          rw [← Option.some.inj hb_b2]
          exact ⟨hs, ⟨rfl, trivial⟩⟩
      · rintro φ s ⟨hs, hF⟩
        rw [← hF.eq]
        refine TO_as (v := (enc (b2 : Bool))) rfl ?_
        refine TO_nil ?_
        refine TC_ret ?_
        rw [← Option.some.inj h]
        exact ⟨rfl, KE1 (a := (b2 : Bool)) rfl rfl (rfl : is _ (b2 : Bool)) (rfl : is _ (b2 : Bool))⟩
theorem law_Quotes_pc (mx : Int) : PureC Tryd.prog 7 (FnG (NG mx) (fun a : Str × Unit => law_Quotes a.1)) := fnCG (ph11_ok mx) ⟨_, Tryd.func7, rfl⟩ <| fun a r h => law_Quotes_wf mx a.1 r h
noncomputable def ph12 (mx : Int) : Prims := (ph11 mx).addG 7 (FnG (NG mx) (fun a : Str × Unit => law_Quotes a.1))
theorem ph12_ok (mx : Int) : PrimsOk Tryd.prog (ph12 mx) := primsOk_addG (ph11_ok mx) (law_Quotes_pc mx)
theorem law_Back_wf (mx : Int) (s_ : Str) (r : Bool) (h : law_Back s_ = some r) : MF Tryd.prog (ph12 mx) 8 [enc s_] (sG (NG mx)) fun v _ => ris v r := by
  refine TF_run [(0, enc s_)] Tryd.func8 rfl (by simp only [Tryd.f8]; rfl) fun ψ => ?_
  unfold law_Back at h
  have hs : Hp (sG (NG mx)) [.gl (NG mx)] := Hp.gl0
  refine TC_seq ?_
  refine TC_reg ?_
  refine TO_as (v := (enc (false : Bool))) rfl ?_
  refine TO_nil ?_
  refine TC_seq ?_
  refine TC_reg ?_
  refine TO_mv (v := (enc (s_ : Str))) rfl ?_
  obtain ⟨r_, hx, h⟩ := bs h
  refine TO_fnG (f := fun a : Str × Unit => name_Quote a.1) (a := (s_, ())) rfl Tryd.func15 rfl rfl (.cons (a := (s_ : Str)) (Enc.self _) .nil) hs List.mem_cons_self hx ?_
  refine TO_as (v := (enc (r_ : Str))) rfl ?_
  refine TO_nil ?_
  refine TC_seq ?_
  refine TC_seq ?_
  refine TC_reg ?_
  refine TO_as (v := (enc (0 : Int))) rfl ?_
  refine TO_nil ?_
  refine TC_block ?_
  obtain ⟨o, hl, h⟩ := bs h
  refine TC_loop (fun (p : Int) φ s => match p with | i => Fx φ [(0, (enc (s_ : Str))), (3, (enc (r_ : Str))), (4, (enc (i : Int)))] ∧ Hp s [(.gl (NG mx))]) (fun (o : (Unit ⊕ Bool)) e φ s => match o with | (.inl _) => e = .exit 0 ∧ Fx φ [(0, (enc (s_ : Str))), (3, (enc (r_ : Str)))] ∧ Hp s [(.gl (NG mx))] | (.inr v) => e = .ret ∧ Fx φ [(2, (enc (v : Bool)))] ∧ Hp s [(.gl (NG mx))]) ?_ hl ⟨⟨rfl, rfl, rfl, trivial⟩, hs⟩ ?_
  · rintro i o h φ s ⟨hF, hs⟩
    rw [← hF.eq]
    rw [law_Back_l1] at h
    refine TC_seq ?_
    refine TC_seq ?_
    refine TC_reg ?_
    refine TO_mv (v := (enc (i : Int))) rfl ?_
    refine TO_mv (v := (enc (r_ : Str))) rfl ?_
    refine TO_lnS Tryd.underlying9 rfl rfl ?_
    refine TO_bi (v := (enc ((decide (i < ((List.length r_ : Nat) : Int))) : Bool))) rfl rfl rfl ?_
    refine TO_nil ?_
    split at h
    · rename_i hcond
      refine TC_cond_t rfl hcond ?_
      refine TC_skip ?_
      refine TC_seq ?_
      refine TC_block ?_
      refine TC_seq ?_
      refine TC_reg ?_
      refine TO_mv (v := (enc (r_ : Str))) rfl ?_
      refine TO_mv (v := (enc (i : Int))) rfl ?_
      obtain ⟨c, hx1, h⟩ := bs h
      refine TO_ixS Tryd.underlying9 rfl rfl hx1 ?_
      refine TO_bi (v := (enc ((decide (((c).toNat : Int) < 32)) : Bool))) rfl rfl rfl ?_
      refine TO_mv (v := (enc ((decide (((c).toNat : Int) < 32)) : Bool))) rfl ?_
      obtain ⟨b, hb_b, h⟩ := bs h
      refine TO_cut 5 (fun φ s => Hp s [(.gl (NG mx))] ∧ Fx φ [(0, (enc (s_ : Str))), (3, (enc (r_ : Str))), (4, (enc (i : Int))), (24, (enc (b : Bool)))]) ?_ ?_
      · split at hb_b
        · rename_i cg
          refine TO_off rfl rfl (by simpa using cg) ?_
          refine TO_off rfl rfl (by simpa using cg) ?_
          refine TO_off rfl rfl (by simpa using cg) ?_
          refine TO_off rfl rfl (by simpa using cg) ?_
          refine TO_pt (v := (enc (true : Bool))) rfl cg rfl ?_
          refine TO_nil ?_
          rw [← Option.some.inj hb_b]
          exact ⟨hs, ⟨rfl, rfl, rfl, rfl, trivial⟩⟩
        · rename_i cg1
          refine TO_on rfl rfl (by simpa using cg1) ?_
          refine TO_mv (v := (enc (r_ : Str))) rfl ?_
          refine TO_on rfl rfl (by simpa using cg1) ?_
          refine TO_mv (v := (enc (i : Int))) rfl ?_
          refine TO_on rfl rfl (by simpa using cg1) ?_
          obtain ⟨c1, hx2, hb_b⟩ := bs hb_b
          refine TO_ixS Tryd.underlying9 rfl rfl hx2 ?_
          refine TO_on rfl rfl (by simpa using cg1) ?_
          refine TO_bi (v := (enc ((decide (((c1).toNat : Int) > 126)) : Bool))) rfl rfl rfl ?_
          refine TO_pf (v := (enc ((decide (((c1).toNat : Int) > 126)) : Bool))) rfl cg1 rfl ?_
          refine TO_nil ?_
          rw [← Option.some.inj hb_b]
          exact ⟨hs, ⟨rfl, rfl, rfl, rfl, trivial⟩⟩
      · rintro φ s ⟨hs, hF⟩
        rw [← hF.eq]
        refine TO_nil ?_
        split at h
        · rename_i hcond
          refine TC_cond_t rfl hcond ?_
          refine TC_seq ?_
          refine TC_reg ?_
          refine TO_as (v := (enc (false : Bool))) rfl ?_
          refine TO_nil ?_
          refine TC_ret ?_
          show if _ then _ else _
          rw [if_neg (by simp)]
          rw [← Option.some.inj h]
          exact ⟨_, rfl, rfl, ⟨⟨rfl, trivial⟩, hs⟩⟩
        · rename_i hcond
          refine TC_cond_f rfl hcond ?_
          refine TC_skip ?_
          refine TC_reg ?_
          refine TO_mv (v := (enc (i : Int))) rfl ?_
          refine TO_bi (v := (enc ((IntKind.i64.wrap (i + 1)) : Int))) rfl rfl rfl ?_
          refine TO_as (v := (enc ((IntKind.i64.wrap (i + 1)) : Int))) rfl ?_
          refine TO_nil ?_
          rw [← Option.some.inj h]
          exact ⟨_, rfl, ⟨⟨rfl, rfl, rfl, trivial⟩, hs⟩⟩
    · rename_i hcond
      refine TC_cond_f rfl hcond ?_
      refine TC_exit ?_
      rw [← Option.some.inj h]
      exact ⟨_, rfl, rfl, ⟨⟨rfl, rfl, trivial⟩, hs⟩⟩
  · intro e φ s hE
    rcases o with _u | v
    · obtain ⟨rfl, hF, hs⟩ := hE
      rw [← hF.eq]
      rw [law_Back_a1] at h
      show if _ then _ else _
      rw [if_pos rfl]
      refine TC_seq ?_
      refine TC_reg ?_
      refine TO_mv (v := (enc (r_ : Str))) rfl ?_
      obtain ⟨r_1, hx3, h⟩ := bs h
      refine TO_fnG (f := fun a : Str × Unit => name_Unquote a.1) (a := (r_, ())) rfl Tryd.func14 rfl rfl (.cons (a := (r_ : Str)) (Enc.self _) .nil) hs List.mem_cons_self hx3 ?_
      refine TO_mv (v := (res r_1)) rfl ?_
      refine TO_ex rfl rfl ?_
      refine TO_ex rfl rfl ?_
      refine TO_as (v := (enc (r_1.1 : Str))) rfl ?_
      refine TO_as (v := (enc (r_1.2 : Bool))) rfl ?_
      refine TO_nil ?_
      refine TC_seq ?_
      refine TC_reg ?_
      refine TO_mv (v := (enc (r_1.2 : Bool))) rfl ?_
      refine TO_mv (v := (enc (r_1.2 : Bool))) rfl ?_
      obtain ⟨b1, hb_b1, h⟩ := bs h
      refine TO_cut 4 (fun φ s => Hp s [(.gl (NG mx))] ∧ Fx φ [(35, (enc (b1 : Bool)))]) ?_ ?_
      · split at hb_b1
        · rename_i cg2
          refine TO_on rfl rfl cg2 ?_
          refine TO_mv (v := (enc (r_1.1 : Str))) rfl ?_
          refine TO_on rfl rfl cg2 ?_
          refine TO_mv (v := (enc (s_ : Str))) rfl ?_
          refine TO_on rfl rfl cg2 ?_
          refine TO_bi (v := (enc ((eqS r_1.1 s_) : Bool))) rfl rfl rfl ?_
          refine TO_pt (v := (enc ((eqS r_1.1 s_) : Bool))) rfl cg2 rfl ?_
          refine TO_nil ?_
          rw [← Option.some.inj hb_b1]
          exact ⟨hs, ⟨rfl, trivial⟩⟩
        · rename_i cg3
          refine TO_off rfl rfl cg3 ?_
          refine TO_off rfl rfl cg3 ?_
          refine TO_off rfl rfl cg3 ?_
          refine TO_pf (v := (enc (false : Bool))) rfl cg3 rfl ?_
          refine TO_nil ?_
          rw [← Option.some.inj hb_b1]
          exact ⟨hs, ⟨rfl, trivial⟩⟩
      · rintro φ s ⟨hs, hF⟩
        rw [← hF.eq]
        refine TO_mv (v := (enc (b1 : Bool))) rfl ?_
        obtain ⟨b2, hb_b2, h⟩ := bs h
        refine TO_cut 2 (fun φ s => Hp s [(.gl (NG mx))] ∧ Fx φ [(38, (enc (b2 : Bool)))]) ?_ ?_
        · split at hb_b2
          · rename_i cg4
            refine TO_on rfl rfl cg4 ?_
            obtain ⟨r_2, hx4, hb_b2⟩ := bs hb_b2
            refine TO_fnG (f := fun a : Unit => heads) (a := (())) rfl Tryd.func11 rfl rfl .nil hs List.mem_cons_self hx4 ?_
            refine TO_pt (v := (enc (r_2 : Bool))) rfl cg4 rfl ?_
            refine TO_nil ?_
            rw [← Option.some.inj hb_b2]
            exact ⟨hs, ⟨rfl, trivial⟩⟩
          · rename_i cg5
            refine TO_off rfl rfl cg5 ?_
            refine TO_pf (v := (enc (false : Bool))) rfl cg5 rfl ?_
            refine TO_nil ?_
            rw [← Option.some.inj hb_b2]
            exact ⟨hs, ⟨rfl, trivial⟩⟩
        · rintro φ s ⟨hs, hF⟩
          rw [← hF.eq]
          refine TO_as (v := (enc (b2 : Bool))) rfl ?_
          refine TO_nil ?_
          refine TC_ret ?_
          rw [← Option.some.inj h]
          exact ⟨rfl, KE1 (a := (b2 : Bool)) rfl rfl (rfl : is _ (b2 : Bool)) (rfl : is _ (b2 : Bool))⟩
    · obtain ⟨rfl, hF, hs⟩ := hE
      rw [← hF.eq]
      rw [law_Back_a1] at h
      show if _ then _ else _
      rw [if_neg (by simp)]
      rw [← Option.some.inj h]
      exact ⟨rfl, KE1 (a := (v : Bool)) rfl rfl (rfl : is _ (v : Bool)) (rfl : is _ (v : Bool))⟩
theorem law_Back_pc (mx : Int) : PureC Tryd.prog 8 (FnG (NG mx) (fun a : Str × Unit => law_Back a.1)) := fnCG (ph12_ok mx) ⟨_, Tryd.func8, rfl⟩ <| fun a r h => law_Back_wf mx a.1 r h
noncomputable def ph13 (mx : Int) : Prims := (ph12 mx).addG 8 (FnG (NG mx) (fun a : Str × Unit => law_Back a.1))
theorem ph13_ok (mx : Int) : PrimsOk Tryd.prog (ph13 mx) := primsOk_addG (ph12_ok mx) (law_Back_pc mx)
theorem law_Joins_wf (mx : Int) (l : (List Str)) (r : Bool) (h : law_Joins l = some r) : MF Tryd.prog (ph13 mx) 9 [enc l] (sG (NG mx)) fun v _ => ris v r := by
  refine TF_run [(0, enc l)] Tryd.func9 rfl (by simp only [Tryd.f9]; rfl) fun ψ => ?_
  unfold law_Joins at h
  have hs : Hp (sG (NG mx)) [.gl (NG mx)] := Hp.gl0
  refine TC_seq ?_
  refine TC_reg ?_
  refine TO_as (v := (enc (false : Bool))) rfl ?_
  refine TO_nil ?_
  refine TC_seq ?_
  refine TC_reg ?_
  refine TO_as (v := (enc (0 : Int))) rfl ?_
  refine TO_nil ?_
  refine TC_seq ?_
  refine TC_seq ?_
  refine TC_reg ?_
  refine TO_as (v := (enc (0 : Int))) rfl ?_
  refine TO_nil ?_
  refine TC_block ?_
  obtain ⟨o, hl, h⟩ := bs h
  refine TC_loop (fun (p : (Int × Int)) φ s => match p with | (n, i) => Fx φ [(0, (enc (l : (List Str)))), (3, (enc (n : Int))), (4, (enc (i : Int)))] ∧ Hp s [(.gl (NG mx))]) (fun (o : (Int ⊕ Bool)) e φ s => match o with | (.inl n1) => e = .exit 0 ∧ Fx φ [(0, (enc (l : (List Str)))), (3, (enc (n1 : Int)))] ∧ Hp s [(.gl (NG mx))] | (.inr v) => e = .ret ∧ Fx φ [(2, (enc (v : Bool)))] ∧ Hp s [(.gl (NG mx))]) ?_ hl ⟨⟨rfl, rfl, rfl, trivial⟩, hs⟩ ?_
  · rintro ⟨n, i⟩ o h φ s ⟨hF, hs⟩
    rw [← hF.eq]
    rw [law_Joins_l1] at h
    refine TC_seq ?_
    refine TC_seq ?_
    refine TC_reg ?_
    refine TO_mv (v := (enc (i : Int))) rfl ?_
    refine TO_mv (v := (enc (l : (List Str)))) rfl ?_
    refine TO_ln Tryd.underlying31 rfl rfl (Enc.self l) ?_
    refine TO_bi (v := (enc ((decide (i < (l.length : Int))) : Bool))) rfl rfl rfl ?_
    refine TO_mv (v := (enc ((decide (i < (l.length : Int))) : Bool))) rfl ?_
    obtain ⟨b, hb_b, h⟩ := bs h
    refine TO_cut 3 (fun φ s => Hp s [(.gl (NG mx))] ∧ Fx φ [(0, (enc (l : (List Str)))), (3, (enc (n : Int))), (4, (enc (i : Int))), (15, (enc (b : Bool)))]) ?_ ?_
    · split at hb_b
      · rename_i cg
        refine TO_on rfl rfl cg ?_
        refine TO_mv (v := (enc (n : Int))) rfl ?_
        refine TO_on rfl rfl cg ?_
        refine TO_bi (v := (enc ((decide (n ≤ 1000)) : Bool))) rfl rfl rfl ?_
        refine TO_pt (v := (enc ((decide (n ≤ 1000)) : Bool))) rfl cg rfl ?_
        refine TO_nil ?_
        rw [← Option.some.inj hb_b]
        exact ⟨hs, ⟨rfl, rfl, rfl, rfl, trivial⟩⟩
      · rename_i cg1
        refine TO_off rfl rfl cg1 ?_
        refine TO_off rfl rfl cg1 ?_
        refine TO_pf (v := (enc (false : Bool))) rfl cg1 rfl ?_
        refine TO_nil ?_
        rw [← Option.some.inj hb_b]
        exact ⟨hs, ⟨rfl, rfl, rfl, rfl, trivial⟩⟩
    · rintro φ s ⟨hs, hF⟩
      rw [← hF.eq]
      refine TO_nil ?_
      split at h
      · rename_i hcond
        refine TC_cond_t rfl hcond ?_
        refine TC_skip ?_
        refine TC_seq ?_
        refine TC_block ?_
        refine TC_seq ?_
        refine TC_seq ?_
        refine TC_reg ?_
        refine TO_mv (v := (enc (l : (List Str)))) rfl ?_
        refine TO_mv (v := (enc (i : Int))) rfl ?_
        obtain ⟨v1, hx, h⟩ := bs h
        refine TO_ix Tryd.underlying31 TTryd.sh9 rfl rfl (Enc.self l) hx fun p hp => ?_
        refine TO_ld rfl TTryd.ag9 rfl hp fun y hy => ?_
        cases hy
        obtain ⟨r_, hx1, h⟩ := bs h
        refine TO_fnG (f := fun a : Str × Unit => name_Check a.1) (a := (v1, ())) rfl Tryd.func12 rfl rfl (.cons (a := (v1 : Str)) (Enc.self _) .nil) hs List.mem_cons_self hx1 ?_
        refine TO_bi (v := (enc ((r_ != 0) : Bool))) rfl rfl rfl ?_
        refine TO_nil ?_
        split at h
        · rename_i hcond
          refine TC_cond_t rfl hcond ?_
          refine TC_seq ?_
          refine TC_reg ?_
          obtain ⟨r_1, hx2, h⟩ := bs h
          refine TO_fnG (f := fun a : Unit => heads) (a := (())) rfl Tryd.func11 rfl rfl .nil hs List.mem_cons_self hx2 ?_
          refine TO_as (v := (enc (r_1 : Bool))) rfl ?_
          refine TO_nil ?_
          refine TC_ret ?_
          show if _ then _ else _
          rw [if_neg (by simp)]
          rw [← Option.some.inj h]
          exact ⟨_, rfl, rfl, ⟨⟨rfl, trivial⟩, hs⟩⟩
        · rename_i hcond
          refine TC_cond_f rfl hcond ?_
          refine TC_skip ?_
          refine TC_reg ?_
          refine TO_mv (v := (enc (n : Int))) rfl ?_
          refine TO_bi (v := (enc ((IntKind.i64.wrap (n + 1)) : Int))) rfl rfl rfl ?_
          refine TO_mv (v := (enc (l : (List Str)))) rfl ?_
          refine TO_mv (v := (enc (i : Int))) rfl ?_
          obtain ⟨v2, hx3, h⟩ := bs h
          refine TO_ix Tryd.underlying31 TTryd.sh9 rfl rfl (Enc.self l) hx3 fun p1 hp1 => ?_
          refine TO_ld rfl TTryd.ag9 rfl hp1 fun y1 hy1 => ?_
          cases hy1
          refine TO_lnS Tryd.underlying9 rfl rfl ?_
          refine TO_bi (v := (enc ((IntKind.i64.wrap ((IntKind.i64.wrap (n + 1)) + ((List.length v2 : Nat) : Int))) : Int))) rfl rfl rfl ?_
          refine TO_as (v := (enc ((IntKind.i64.wrap ((IntKind.i64.wrap (n + 1)) + ((List.length v2 : Nat) : Int))) : Int))) rfl ?_
          refine TO_nil ?_
          refine TC_reg ?_
          refine TO_mv (v := (enc (i : Int))) rfl ?_
          refine TO_bi (v := (enc ((IntKind.i64.wrap (i + 1)) : Int))) rfl rfl rfl ?_
          refine TO_as (v := (enc ((IntKind.i64.wrap (i + 1)) : Int))) rfl ?_
          refine TO_nil ?_
          rw [← Option.some.inj h]
          exact ⟨_, rfl, ⟨⟨rfl, rfl, rfl, trivial⟩, hs⟩⟩
      · rename_i hcond
        refine TC_cond_f rfl hcond ?_
        refine TC_exit ?_
        rw [← Option.some.inj h]
        exact ⟨_, rfl, rfl, ⟨⟨rfl, rfl, trivial⟩, hs⟩⟩
  · intro e φ s hE
    rcases o with n1 | v
    · obtain ⟨rfl, hF, hs⟩ := hE
      rw [← hF.eq]
      rw [law_Joins_a1] at h
      show if _ then _ else _
      rw [if_pos rfl]
      refine TC_seq ?_
      refine TC_seq ?_
      refine TC_reg ?_
      refine TO_mv (v := (enc (n1 : Int))) rfl ?_
      refine TO_bi (v := (enc ((decide (n1 > 1000)) : Bool))) rfl rfl rfl ?_
      refine TO_nil ?_
      split at h
      · rename_i hcond
        refine TC_cond_t rfl hcond ?_
        refine TC_seq ?_
        refine TC_reg ?_
        obtain ⟨r_2, hx4, h⟩ := bs h
        refine TO_fnG (f := fun a : Unit => heads) (a := (())) rfl Tryd.func11 rfl rfl .nil hs List.mem_cons_self hx4 ?_
        refine TO_as (v := (enc (r_2 : Bool))) rfl ?_
        refine TO_nil ?_
        refine TC_ret ?_
        rw [← Option.some.inj h]
        exact ⟨rfl, KE1 (a := (r_2 : Bool)) rfl rfl (rfl : is _ (r_2 : Bool)) (rfl : is _ (r_2 : Bool))⟩
      · rename_i hcond
        refine TC_cond_f rfl hcond ?_
        refine TC_skip ?_
        refine TC_seq ?_
        refine TC_reg ?_
        refine TO_mv (v := (enc (l : (List Str)))) rfl ?_
        obtain ⟨r_3, hx5, h⟩ := bs h
        refine TO_fnG (f := fun a : (List Str) × Unit => name_Join a.1) (a := (l, ())) rfl Tryd.func25 rfl rfl (.cons (a := (l : (List Str))) (Enc.self l) .nil) hs List.mem_cons_self hx5 ?_
        obtain ⟨r_4, hx6, h⟩ := bs h
        refine TO_fnG (f := fun a : Str × Unit => name_Split a.1) (a := (r_3, ())) rfl Tryd.func16 rfl rfl (.cons (a := (r_3 : Str)) (Enc.self _) .nil) hs List.mem_cons_self hx6 ?_
        refine TO_mv (v := (res r_4)) rfl ?_
        refine TO_ex rfl rfl ?_
        refine TO_ex rfl rfl ?_
        refine TO_ex rfl rfl ?_
        refine TO_as (v := (enc (r_4.1 : (List Str)))) rfl ?_
        refine TO_as (v := (enc (r_4.2.1 : Bool))) rfl ?_
        refine TO_as (v := (enc (r_4.2.2 : Int))) rfl ?_
        refine TO_nil ?_
        refine TC_seq ?_
        refine TC_reg ?_
        refine TO_mv (v := (enc (r_4.1 : (List Str)))) rfl ?_
        refine TO_mv (v := (enc (l : (List Str)))) rfl ?_
        obtain ⟨r_5, hx7, h⟩ := bs h
        refine TO_fn (f := fun a : (List Str) × (List Str) × Unit => ref_Texts a.1 a.2.1) (a := (r_4.1, l, ())) rfl Tryd.func19 rfl rfl (.cons (a := (r_4.1 : (List Str))) (Enc.self r_4.1) (.cons (a := (l : (List Str))) (Enc.self l) .nil)) hx7 ?_
        refine TO_mv (v := (enc (r_5 : Bool))) rfl ?_
        obtain ⟨b1, hb_b1, h⟩ := bs h
        refine TO_cut 6 (fun φ s => Hp s [(.gl (NG mx))] ∧ Fx φ [(7, (enc (r_4.2.2 : Int))), (52, (enc (b1 : Bool)))]) ?_ ?_
        · split at hb_b1
          · rename_i cg2
            refine TO_on rfl rfl cg2 ?_
            refine TO_mv (v := (enc (r_4.2.1 : Bool))) rfl ?_
            refine TO_on rfl rfl cg2 ?_
            refine TO_mv (v := (enc (l : (List Str)))) rfl ?_
            refine TO_on rfl rfl cg2 ?_
            refine TO_ln Tryd.underlying31 rfl rfl (Enc.self l) ?_
            refine TO_on rfl rfl cg2 ?_
            refine TO_bi (v := (enc (((l.length : Int) == 0) : Bool))) rfl rfl rfl ?_
            refine TO_on rfl rfl cg2 ?_
            refine TO_biB Tryd.underlying4 rfl rfl ?_
            refine TO_pt (v := (enc ((r_4.2.1 == ((l.length : Int) == 0)) : Bool))) rfl cg2 rfl ?_
            refine TO_nil ?_
            rw [← Option.some.inj hb_b1]
            exact ⟨hs, ⟨rfl, rfl, trivial⟩⟩
          · rename_i cg3
            refine TO_off rfl rfl cg3 ?_
            refine TO_off rfl rfl cg3 ?_
            refine TO_off rfl rfl cg3 ?_
            refine TO_off rfl rfl cg3 ?_
            refine TO_off rfl rfl cg3 ?_
            refine TO_pf (v := (enc (false : Bool))) rfl cg3 rfl ?_
            refine TO_nil ?_
            rw [← Option.some.inj hb_b1]
            exact ⟨hs, ⟨rfl, rfl, trivial⟩⟩
        · rintro φ s ⟨hs, hF⟩
          rw [← hF.eq]
          refine TO_mv (v := (enc (b1 : Bool))) rfl ?_
          obtain ⟨b2, hb_b2, h⟩ := bs h
          refine TO_cut 3 (fun φ s => Hp s [(.gl (NG mx))] ∧ Fx φ [(56, (enc (b2 : Bool)))]) ?_ ?_
          · split at hb_b2
            · rename_i cg4
              refine TO_on rfl rfl cg4 ?_
              refine TO_mv (v := (enc (r_4.2.2 : Int))) rfl ?_
              refine TO_on rfl rfl cg4 ?_
              refine TO_bi (v := (enc ((r_4.2.2 == 0) : Bool))) rfl rfl rfl ?_
              refine TO_pt (v := (enc ((r_4.2.2 == 0) : Bool))) rfl cg4 rfl ?_
              refine TO_nil ?_
              rw [← Option.some.inj hb_b2]
              exact ⟨hs, ⟨rfl, trivial⟩⟩
            · rename_i cg5
              refine TO_off rfl rfl cg5 ?_
              refine TO_off rfl rfl cg5 ?_
              refine TO_pf (v := (enc (false : Bool))) rfl cg5 rfl ?_
              refine TO_nil ?_
              rw [← Option.some.inj hb_b2]
              exact ⟨hs, ⟨rfl, trivial⟩⟩
          · rintro φ s ⟨hs, hF⟩
            rw [← hF.eq]
            refine TO_mv (v := (enc (b2 : Bool))) rfl ?_
            obtain ⟨b3, hb_b3, h⟩ := bs h
            refine TO_cut 2 (fun φ s => Hp s [(.gl (NG mx))] ∧ Fx φ [(59, (enc (b3 : Bool)))]) ?_ ?_
            · split at hb_b3
              · rename_i cg6
                refine TO_on rfl rfl cg6 ?_
                obtain ⟨r_6, hx8, hb_b3⟩ := bs hb_b3
                refine TO_fnG (f := fun a : Unit => heads) (a := (())) rfl Tryd.func11 rfl rfl .nil hs List.mem_cons_self hx8 ?_
                refine TO_pt (v := (enc (r_6 : Bool))) rfl cg6 rfl ?_
                refine TO_nil ?_
                rw [← Option.some.inj hb_b3]
                exact ⟨hs, ⟨rfl, trivial⟩⟩
              · rename_i cg7
                refine TO_off rfl rfl cg7 ?_
                refine TO_pf (v := (enc (false : Bool))) rfl cg7 rfl ?_
                refine TO_nil ?_
                rw [← Option.some.inj hb_b3]
                exact ⟨hs, ⟨rfl, trivial⟩⟩
            · rintro φ s ⟨hs, hF⟩
              rw [← hF.eq]
              refine TO_as (v := (enc (b3 : Bool))) rfl ?_
              refine TO_nil ?_
              refine TC_ret ?_
              rw [← Option.some.inj h]
              exact ⟨rfl, KE1 (a := (b3 : Bool)) rfl rfl (rfl : is _ (b3 : Bool)) (rfl : is _ (b3 : Bool))⟩
    · obtain ⟨rfl, hF, hs⟩ := hE
      rw [← hF.eq]
      rw [law_Joins_a1] at h
      show if _ then _ else _
      rw [if_neg (by simp)]
      rw [← Option.some.inj h]
      exact ⟨rfl, KE1 (a := (v : Bool)) rfl rfl (rfl : is _ (v : Bool)) (rfl : is _ (v : Bool))⟩
theorem law_Joins_pc (mx : Int) : PureC Tryd.prog 9 (FnG (NG mx) (fun a : (List Str) × Unit => law_Joins a.1)) := fnCG (ph13_ok mx) ⟨_, Tryd.func9, rfl⟩ <| fun a r h => law_Joins_wf mx a.1 r h
noncomputable def ph14 (mx : Int) : Prims := (ph13 mx).addG 9 (FnG (NG mx) (fun a : (List Str) × Unit => law_Joins a.1))
theorem ph14_ok (mx : Int) : PrimsOk Tryd.prog (ph14 mx) := primsOk_addG (ph13_ok mx) (law_Joins_pc mx)
theorem law_Total_wf (mx : Int) (a : Str) (b : Str) (c : Str) (r : Bool) (h : law_Total a b c = some r) : MF Tryd.prog (ph14 mx) 10 [enc a, enc b, enc c] (sG (NG mx)) fun v _ => ris v r := by
  refine TF_run [(0, enc a), (1, enc b), (2, enc c)] Tryd.func10 rfl (by simp only [Tryd.f10]; rfl) fun ψ => ?_
  unfold law_Total at h
  have hs : Hp (sG (NG mx)) [.gl (NG mx)] := Hp.gl0
  refine TC_seq ?_
  refine TC_reg ?_
  refine TO_as (v := (enc (false : Bool))) rfl ?_
  refine TO_nil ?_
  refine TC_seq ?_
  refine TC_reg ?_
  refine TO_mv (v := (enc (a : Str))) rfl ?_
  refine TO_mv (v := (enc (b : Str))) rfl ?_
  obtain ⟨r_, hx, h⟩ := bs h
  refine TO_fnG (f := fun a : Str × Str × Unit => name_Order a.1 a.2.1) (a := (a, b, ())) rfl Tryd.func21 rfl rfl (.cons (a := (a : Str)) (Enc.self _) (.cons (a := (b : Str)) (Enc.self _) .nil)) hs List.mem_cons_self hx ?_
  refine TO_mv (v := (enc (b : Str))) rfl ?_
  refine TO_mv (v := (enc (c : Str))) rfl ?_
  obtain ⟨r_1, hx1, h⟩ := bs h
  refine TO_fnG (f := fun a : Str × Str × Unit => name_Order a.1 a.2.1) (a := (b, c, ())) rfl Tryd.func21 rfl rfl (.cons (a := (b : Str)) (Enc.self _) (.cons (a := (c : Str)) (Enc.self _) .nil)) hs List.mem_cons_self hx1 ?_
  refine TO_mv (v := (enc (a : Str))) rfl ?_
  refine TO_mv (v := (enc (c : Str))) rfl ?_
  obtain ⟨r_2, hx2, h⟩ := bs h
  refine TO_fnG (f := fun a : Str × Str × Unit => name_Order a.1 a.2.1) (a := (a, c, ())) rfl Tryd.func21 rfl rfl (.cons (a := (a : Str)) (Enc.self _) (.cons (a := (c : Str)) (Enc.self _) .nil)) hs List.mem_cons_self hx2 ?_
  refine TO_as (v := (enc (r_ : Int))) rfl ?_
  refine TO_as (v := (enc (r_1 : Int))) rfl ?_
  refine TO_as (v := (enc (r_2 : Int))) rfl ?_
  refine TO_nil ?_
  refine TC_seq ?_
  refine TC_seq ?_
  refine TC_reg ?_
  refine TO_mv (v := (enc (r_ : Int))) rfl ?_
  refine TO_mv (v := (enc (b : Str))) rfl ?_
  refine TO_mv (v := (enc (a : Str))) rfl ?_
  obtain ⟨r_3, hx3, h⟩ := bs h
  refine TO_fnG (f := fun a : Str × Str × Unit => name_Order a.1 a.2.1) (a := (b, a, ())) rfl Tryd.func21 rfl rfl (.cons (a := (b : Str)) (Enc.self _) (.cons (a := (a : Str)) (Enc.self _) .nil)) hs List.mem_cons_self hx3 ?_
  refine TO_un (v := (enc ((IntKind.i64.wrap (0 - r_3)) : Int))) rfl rfl ?_
  refine TO_bi (v := (enc ((r_ != (IntKind.i64.wrap (0 - r_3))) : Bool))) rfl rfl rfl ?_
  refine TO_mv (v := (enc ((r_ != (IntKind.i64.wrap (0 - r_3))) : Bool))) rfl ?_
  obtain ⟨b1, hb_b1, h⟩ := bs h
  refine TO_cut 7 (fun φ s => Hp s [(.gl (NG mx))] ∧ Fx φ [(7, (enc (r_ : Int))), (8, (enc (r_1 : Int))), (9, (enc (r_2 : Int))), (32, (enc (b1 : Bool)))]) ?_ ?_
  · split at hb_b1
    · rename_i cg
      refine TO_off rfl rfl (by simpa using cg) ?_
      refine TO_off rfl rfl (by simpa using cg) ?_
      refine TO_off rfl rfl (by simpa using cg) ?_
      refine TO_off rfl rfl (by simpa using cg) ?_
      refine TO_off rfl rfl (by simpa using cg) ?_
      refine TO_off rfl rfl (by simpa using cg) ?_
      refine TO_pt (v := (enc (true : Bool))) rfl cg rfl ?_
      refine TO_nil ?_
      rw [← Option.some.inj hb_b1]
      exact ⟨hs, ⟨rfl, rfl, rfl, rfl, trivial⟩⟩
    · rename_i cg1
      refine TO_on rfl rfl (by simpa using cg1) ?_
      refine TO_mv (v := (enc (r_ : Int))) rfl ?_
      refine TO_on rfl rfl (by simpa using cg1) ?_
      refine TO_bi (v := (enc ((r_ == 0) : Bool))) rfl rfl rfl ?_
      refine TO_on rfl rfl (by simpa using cg1) ?_
      refine TO_mv (v := (enc (a : Str))) rfl ?_
      refine TO_on rfl rfl (by simpa using cg1) ?_
      refine TO_mv (v := (enc (b : Str))) rfl ?_
      refine TO_on rfl rfl (by simpa using cg1) ?_
      refine TO_bi (v := (enc ((eqS a b) : Bool))) rfl rfl rfl ?_
      refine TO_on rfl rfl (by simpa using cg1) ?_
      refine TO_biBn Tryd.underlying4 rfl rfl ?_
      refine TO_pf (v := (enc (((r_ == 0) != (eqS a b)) : Bool))) rfl cg1 rfl ?_
      refine TO_nil ?_
      rw [← Option.some.inj hb_b1]
      exact ⟨hs, ⟨rfl, rfl, rfl, rfl, trivial⟩⟩
  · rintro φ s ⟨hs, hF⟩
    rw [← hF.eq]
    refine TO_nil ?_
    split at h
    · rename_i hcond
      refine TC_cond_t rfl hcond ?_
      refine TC_seq ?_
      refine TC_reg ?_
      refine TO_as (v := (enc (false : Bool))) rfl ?_
      refine TO_nil ?_
      refine TC_ret ?_
      rw [← Option.some.inj h]
      exact ⟨rfl, KE1 (a := (false : Bool)) rfl rfl (rfl : is _ (false : Bool)) (rfl : is _ (false : Bool))⟩
    · rename_i hcond
      refine TC_cond_f rfl hcond ?_
      refine TC_skip ?_
      refine TC_seq ?_
      refine TC_seq ?_
      refine TC_reg ?_
      refine TO_mv (v := (enc (r_ : Int))) rfl ?_
      refine TO_bi (v := (enc ((decide (r_ ≤ 0)) : Bool))) rfl rfl rfl ?_
      refine TO_mv (v := (enc ((decide (r_ ≤ 0)) : Bool))) rfl ?_
      obtain ⟨b2, hb_b2, h⟩ := bs h
      refine TO_cut 3 (fun φ s => Hp s [(.gl (NG mx))] ∧ Fx φ [(9, (enc (r_2 : Int))), (38, (enc (b2 : Bool)))]) ?_ ?_
      · split at hb_b2
        · rename_i cg2
          refine TO_on rfl rfl cg2 ?_
          refine TO_mv (v := (enc (r_1 : Int))) rfl ?_
          refine TO_on rfl rfl cg2 ?_
          refine TO_bi (v := (enc ((decide (r_1 ≤ 0)) : Bool))) rfl rfl rfl ?_
          refine TO_pt (v := (enc ((decide (r_1 ≤ 0)) : Bool))) rfl cg2 rfl ?_
          refine TO_nil ?_
          rw [← Option.some.inj hb_b2]
          exact ⟨hs, ⟨rfl, rfl, trivial⟩⟩
        · rename_i cg3
          refine TO_off rfl rfl cg3 ?_
          refine TO_off rfl rfl cg3 ?_
          refine TO_pf (v := (enc (false : Bool))) rfl cg3 rfl ?_
          refine TO_nil ?_
          rw [← Option.some.inj hb_b2]
          exact ⟨hs, ⟨rfl, rfl, trivial⟩⟩
      · rintro φ s ⟨hs, hF⟩
        rw [← hF.eq]
        refine TO_mv (v := (enc (b2 : Bool))) rfl ?_
        obtain ⟨b3, hb_b3, h⟩ := bs h
        refine TO_cut 3 (fun φ s => Hp s [(.gl (NG mx))] ∧ Fx φ [(42, (enc (b3 : Bool)))]) ?_ ?_
        · split at hb_b3
          · rename_i cg4
            refine TO_on rfl rfl cg4 ?_
            refine TO_mv (v := (enc (r_2 : Int))) rfl ?_
            refine TO_on rfl rfl cg4 ?_
            refine TO_bi (v := (enc ((decide (r_2 > 0)) : Bool))) rfl rfl rfl ?_
            refine TO_pt (v := (enc ((decide (r_2 > 0)) : Bool))) rfl cg4 rfl ?_
            refine TO_nil ?_
            rw [← Option.some.inj hb_b3]
            exact ⟨hs, ⟨rfl, trivial⟩⟩
          · rename_i cg5
            refine TO_off rfl rfl cg5 ?_
            refine TO_off rfl rfl cg5 ?_
            refine TO_pf (v := (enc (false : Bool))) rfl cg5 rfl ?_
            refine TO_nil ?_
            rw [← Option.some.inj hb_b3]
            exact ⟨hs, ⟨rfl, trivial⟩⟩
        · rintro φ s ⟨hs, hF⟩
          rw [← hF.eq]
          refine TO_nil ?_
          split at h
          · rename_i hcond
            refine TC_cond_t rfl hcond ?_
            refine TC_seq ?_
            refine TC_reg ?_
            refine TO_as (v := (enc (false : Bool))) rfl ?_
            refine TO_nil ?_
            refine TC_ret ?_
            rw [← Option.some.inj h]
            exact ⟨rfl, KE1 (a := (false : Bool)) rfl rfl (rfl : is _ (false : Bool)) (rfl : is _ (false : Bool))⟩
          · rename_i hcond
            refine TC_cond_f rfl hcond ?_
            refine TC_skip ?_
            refine TC_seq ?_
            refine TC_reg ?_
            obtain ⟨r_4, hx4, h⟩ := bs h
            refine TO_fnG (f := fun a : Unit => heads) (a := (())) rfl Tryd.func11 rfl rfl .nil hs List.mem_cons_self hx4 ?_
            refine TO_as (v := (enc (r_4 : Bool))) rfl ?_
            refine TO_nil ?_
            refine TC_ret ?_
            rw [← Option.some.inj h]
            exact ⟨rfl, KE1 (a := (r_4 : Bool)) rfl rfl (rfl : is _ (r_4 : Bool)) (rfl : is _ (r_4 : Bool))⟩
theorem law_Total_pc (mx : Int) : PureC Tryd.prog 10 (FnG (NG mx) (fun a : Str × Str × Str × Unit => law_Total a.1 a.2.1 a.2.2.1)) := fnCG (ph14_ok mx) ⟨_, Tryd.func10, rfl⟩ <| fun a r h => law_Total_wf mx a.1 a.2.1 a.2.2.1 r h
noncomputable def ph15 (mx : Int) : Prims := (ph14 mx).addG 10 (FnG (NG mx) (fun a : Str × Str × Str × Unit => law_Total a.1 a.2.1 a.2.2.1))
theorem ph15_ok (mx : Int) : PrimsOk Tryd.prog (ph15 mx) := primsOk_addG (ph14_ok mx) (law_Total_pc mx)
end Go.Ai.Rab
