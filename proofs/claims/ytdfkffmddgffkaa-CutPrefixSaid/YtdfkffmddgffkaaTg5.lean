/- Steps of a typed run: cuts, texts, small numbers. -/
import Derived.Test.YtdfkffmddgffkaaTg4
set_option linter.unusedVariables false
set_option linter.unusedSimpArgs false
open Go.Ai.Enc (enc is)
open Go.Ai.Res (res ris)
open Go.Ai.Args (args)
namespace Go.Ai
def eqS (a b : List UInt8) : Bool := a == b
def ltS (a b : List UInt8) : Bool := Op.bytesLess a b
def catS (a b : List UInt8) : Option (List UInt8) := if (a.length + b.length : Int) > 9223372036854775807 then none else some (a ++ b)
theorem catS_some {a b r : List UInt8} (h : catS a b = some r) : ¬ ((a.length + b.length : Int) > 9223372036854775807) ∧ r = a ++ b := by
  unfold catS at h
  split at h
  · cases h
  · rename_i h0; injection h with h; exact ⟨h0, h.symm⟩
def bitAnd (k : IntKind) (a b : Int) : Int := ((BitVec.ofInt k.bits a &&& BitVec.ofInt k.bits b).toNat : Int)
def bitOr (k : IntKind) (a b : Int) : Int := ((BitVec.ofInt k.bits a ||| BitVec.ofInt k.bits b).toNat : Int)
def bitXor (k : IntKind) (a b : Int) : Int := ((BitVec.ofInt k.bits a ^^^ BitVec.ofInt k.bits b).toNat : Int)
def bitAndNot (k : IntKind) (a b : Int) : Int := ((BitVec.ofInt k.bits a &&& ~~~ BitVec.ofInt k.bits b).toNat : Int)
theorem wrap_u8 (z : Int) : IntKind.u8.wrap z = ((UInt8.ofInt z).toNat : Int) := by
  have h : IntKind.u8.wrap z = z % 256 := IntKind.wrap_u8 z
  rw [h]; simp only [UInt8.ofInt, UInt8.toNat_ofNat']; omega
theorem wrap_u64 (z : Int) : IntKind.u64.wrap z = ((UInt64.ofInt z).toNat : Int) := by
  have h : IntKind.u64.wrap z = z % 18446744073709551616 := IntKind.wrap_u64 z
  rw [h]; simp only [UInt64.ofInt, UInt64.toNat_ofNat']; omega
theorem wrap_u32 (z : Int) : IntKind.u32.wrap z = ((UInt32.ofInt z).toNat : Int) := by
  have h : IntKind.u32.wrap z = z % 4294967296 := IntKind.wrap_u32 z
  rw [h]; simp only [UInt32.ofInt, UInt32.toNat_ofNat']; omega
theorem wrap_u8_i64 (b : UInt8) : IntKind.i64.wrap (b.toNat : Int) = (b.toNat : Int) := IntWalk.i64_in _ (by have := b.toNat_lt; omega)
theorem wrap_u32_i64 (b : UInt32) : IntKind.i64.wrap (b.toNat : Int) = (b.toNat : Int) := IntWalk.i64_in _ (by have := b.toNat_lt; omega)
theorem TC_cut {P : Program} {prims : Prims} {n : Nat} {K : Fm → St → Prop} {Q : AExit → Fm → St → Prop} {φ : Fm} {s : St} {x y : Code} (I : Fm → St → Prop) (ha : TC P prims n x I Q φ s) (hb : ∀ φ s, I φ s → TC P prims n y K Q φ s) : TC P prims n (.seq x y) K Q φ s :=
  TC_seq (ha.mono hb fun _ _ _ h => h)
section
variable {P : Program} {prims : Prims} {n : Nat} {b : Bool} {K : Fm → St → Prop} {Q : AExit → Fm → St → Prop} {φ : Fm} {s : St} {ops : Array Oper} {l : List Oper} {d : Tmp} {ty t t' e : TypeId} {pos : String} {af : Array Edge} {gd : Option (Nat × Bool)} {x y z : Operand} {u v w : AV}
theorem aOps_app {call : FuncId → List AV → St → Option (AV × St)} {l2 : List Oper} {fr2 : List AV} {s2 : St} : ∀ (l1 : List Oper) {fr fr1 : List AV} {s s1 : St}, aOps P call ops l1 fr s = some (fr1, s1) → aOps P call ops l2 fr1 s1 = some (fr2, s2) → aOps P call ops (l1 ++ l2) fr s = some (fr2, s2)
  | [], fr, fr1, s, s1, h, k => by simp only [aOps] at h; injection h with h; injection h with e1 e2; subst e1; subst e2; exact k
  | o :: l1, fr, fr1, s, s1, h, k => by
    simp only [List.cons_append, aOps] at h ⊢
    by_cases hw : Region.wanted o (aYield ops fr) = true
    · rw [if_pos hw] at h ⊢
      cases ho : aOp P call o fr s with
      | none => rw [ho] at h; cases h
      | some r => rw [ho] at h; exact aOps_app l1 h k
    · rw [if_neg hw] at h ⊢
      exact aOps_app l1 h k
theorem WO_app {I K : List AV → St → Prop} {l1 l2 : List Oper} {fr : List AV} {s : St} (h1 : WO P prims ops l1 I fr s) (h2 : ∀ fr s, I fr s → WO P prims ops l2 K fr s) : WO P prims ops (l1 ++ l2) K fr s := by
  unfold WO at h1
  obtain ⟨fr1, s1, hI, N, hN⟩ := h1
  have h3 := h2 fr1 s1 hI
  unfold WO at h3 ⊢
  obtain ⟨fr2, s2, hK, M, hM⟩ := h3
  exact ⟨fr2, s2, hK, N + M, fun m hm => aOps_app l1 (hN m (by omega)) (hM m (by omega))⟩
/-- A cut within a region. -/
theorem TO_cut (k : Nat) (I : Fm → St → Prop) (h1 : TO P prims n b ops (l.take k) I φ s) (h2 : ∀ φ s, I φ s → TO P prims n b ops (l.drop k) K φ s) : TO P prims n b ops l K φ s := by
  cases b with
  | true =>
    have := WO_app (P := P) (prims := prims) (ops := ops) h1 (K := fun fr' s' => ∃ φ', fr' = frm n φ' ∧ K φ' s') (l2 := l.drop k) (fun fr s ⟨φ, e, h⟩ => by subst e; exact h2 φ s h)
    rw [List.take_append_drop] at this
    exact this
  | false =>
    intro hp base ρ X w a R A hb hs hr hd hR
    rw [← List.take_append_drop k l, wl_app]
    refine h1 hp base ρ X w a R _ hb hs hr hd fun φ' s' a' w' hk hpf => ?_
    obtain ⟨ρ1, g1, g2, g3, g4, g5, g6, g7⟩ := hpf
    exact h2 φ' s' hk hp base ρ1 X w' a' R A (Nat.le_trans hb g5.size) g3 g4 g7 fun φ'' s'' a'' w'' hk' hq => hR φ'' s'' a'' w'' hk' (PostF.cons g1 g2 g5 g6 hq)
theorem TO_offU {op : Op} {g d' : Nat} {w : Bool} (hd : (ops[g]?).bind (·.dst) = some d') (hv : fEval n φ (.tmp d') = some .undef) (k : TO P prims n b ops l K (upd φ d .undef) s) : TO P prims n b ops (⟨some d, op, ty, pos, af, some (g, w)⟩ :: l) K φ s := by
  refine TO_skip rfl ?_ k
  rw [wanted_at]
  simp only [fEval] at hv
  split at hv
  · rename_i hb
    injection hv with hv
    have hlt : d' < n := Nat.le_of_ble_eq_true hb
    unfold aYield
    rw [hd, Option.bind_some]
    have : (frm n φ)[d']? = some .undef := by simp [frm, List.getElem?_range, hlt, hv]
    rw [this]; cases w <;> rfl
  · cases hv
theorem TO_biB {a b' : Bool} {t' : TypeId} (hu : P.underlying t = some .bool) (hx : fEval n φ x = some (.bool a)) (hy : fEval n φ y = some (.bool b')) (k : TO P prims n b ops l K (upd φ d (.bool (a == b'))) s) : TO P prims n b ops (⟨some d, .binOp .eql t x y t', ty, pos, af, none⟩ :: l) K φ s :=
  TO_bi hx hy (by simp [aBinOp, hu]) k
theorem TO_biBn {a b' : Bool} {t' : TypeId} (hu : P.underlying t = some .bool) (hx : fEval n φ x = some (.bool a)) (hy : fEval n φ y = some (.bool b')) (k : TO P prims n b ops l K (upd φ d (.bool (a != b'))) s) : TO P prims n b ops (⟨some d, .binOp .neq t x y t', ty, pos, af, none⟩ :: l) K φ s :=
  TO_bi hx hy (by simp [aBinOp, hu]) k
theorem TO_cat {a b' r : Str} {t' : TypeId} (hx : fEval n φ x = some (.str a)) (hy : fEval n φ y = some (.str b')) (hr : catS a b' = some r) (k : TO P prims n b ops l K (upd φ d (enc r)) s) : TO P prims n b ops (⟨some d, .binOp .add t x y t', ty, pos, af, none⟩ :: l) K φ s := by
  obtain ⟨h1, rfl⟩ := catS_some hr
  exact TO_bi hx hy (by simp only [aBinOp]; rw [if_neg h1]; rfl) k
theorem TO_biw8 {op : BinOp} {t' : TypeId} {z : Int} (hx : fEval n φ x = some u) (hy : fEval n φ y = some w) (hv : aBinOp P op t u w (isC x) (isC y) = some (.int .u8 (IntKind.u8.wrap z))) (k : TO P prims n b ops l K (upd φ d (enc (UInt8.ofInt z))) s) : TO P prims n b ops (⟨some d, .binOp op t x y t', ty, pos, af, none⟩ :: l) K φ s :=
  TO_bi hx hy (by rw [hv, wrap_u8]; rfl) k
theorem TO_biw64 {op : BinOp} {t' : TypeId} {z : Int} (hx : fEval n φ x = some u) (hy : fEval n φ y = some w) (hv : aBinOp P op t u w (isC x) (isC y) = some (.int .u64 (IntKind.u64.wrap z))) (k : TO P prims n b ops l K (upd φ d (enc (UInt64.ofInt z))) s) : TO P prims n b ops (⟨some d, .binOp op t x y t', ty, pos, af, none⟩ :: l) K φ s :=
  TO_bi hx hy (by rw [hv, wrap_u64]; rfl) k
theorem TO_biw32 {op : BinOp} {t' : TypeId} {z : Int} (hx : fEval n φ x = some u) (hy : fEval n φ y = some w) (hv : aBinOp P op t u w (isC x) (isC y) = some (.int .u32 (IntKind.u32.wrap z))) (k : TO P prims n b ops l K (upd φ d (enc (UInt32.ofInt z))) s) : TO P prims n b ops (⟨some d, .binOp op t x y t', ty, pos, af, none⟩ :: l) K φ s :=
  TO_bi hx hy (by rw [hv, wrap_u32]; rfl) k
theorem ofInt_u8 {z : Int} (h0 : 0 ≤ z) (h1 : z < 256) : ((UInt8.ofInt z).toNat : Int) = z := by rw [← wrap_u8]; exact IntWalk.u8_in _ ⟨h0, by omega⟩
theorem ofInt_u64 {z : Int} (h0 : 0 ≤ z) (h1 : z < 18446744073709551616) : ((UInt64.ofInt z).toNat : Int) = z := by rw [← wrap_u64, IntKind.wrap_u64]; omega
theorem TO_biw8r {op : BinOp} {t' : TypeId} {z : Int} (hx : fEval n φ x = some u) (hy : fEval n φ y = some w) (hv : aBinOp P op t u w (isC x) (isC y) = some (.int .u8 z)) (hz : 0 ≤ z ∧ z < 256) (k : TO P prims n b ops l K (upd φ d (enc (UInt8.ofInt z))) s) : TO P prims n b ops (⟨some d, .binOp op t x y t', ty, pos, af, none⟩ :: l) K φ s :=
  TO_bi hx hy (v := enc (UInt8.ofInt z)) (by rw [hv]; show _ = some (AV.int .u8 ((UInt8.ofInt z).toNat : Int)); rw [ofInt_u8 hz.1 hz.2]) k
theorem TO_biw64r {op : BinOp} {t' : TypeId} {z : Int} (hx : fEval n φ x = some u) (hy : fEval n φ y = some w) (hv : aBinOp P op t u w (isC x) (isC y) = some (.int .u64 z)) (hz : 0 ≤ z ∧ z < 18446744073709551616) (k : TO P prims n b ops l K (upd φ d (enc (UInt64.ofInt z))) s) : TO P prims n b ops (⟨some d, .binOp op t x y t', ty, pos, af, none⟩ :: l) K φ s :=
  TO_bi hx hy (v := enc (UInt64.ofInt z)) (by rw [hv]; show _ = some (AV.int .u64 ((UInt64.ofInt z).toNat : Int)); rw [ofInt_u64 hz.1 hz.2]) k
theorem TO_cvu8 {src dst : TypeId} {d0 : TypeDesc} {k1 : IntKind} {i : Int} (h1 : P.underlying src = some d0) (h2 : P.underlying dst = some (.int .u8)) (hx : fEval n φ x = some (.int k1 i)) (k : TO P prims n b ops l K (upd φ d (enc (UInt8.ofInt i))) s) : TO P prims n b ops (⟨some d, .convert src dst x, ty, pos, af, none⟩ :: l) K φ s :=
  TO_cv h1 h2 hx (by rw [wrap_u8]; exact k)
theorem TO_cvu64 {src dst : TypeId} {d0 : TypeDesc} {k1 : IntKind} {i : Int} (h1 : P.underlying src = some d0) (h2 : P.underlying dst = some (.int .u64)) (hx : fEval n φ x = some (.int k1 i)) (k : TO P prims n b ops l K (upd φ d (enc (UInt64.ofInt i))) s) : TO P prims n b ops (⟨some d, .convert src dst x, ty, pos, af, none⟩ :: l) K φ s :=
  TO_cv h1 h2 hx (by rw [wrap_u64]; exact k)
theorem TO_cvu32 {src dst : TypeId} {d0 : TypeDesc} {k1 : IntKind} {i : Int} (h1 : P.underlying src = some d0) (h2 : P.underlying dst = some (.int .u32)) (hx : fEval n φ x = some (.int k1 i)) (k : TO P prims n b ops l K (upd φ d (enc (UInt32.ofInt i))) s) : TO P prims n b ops (⟨some d, .convert src dst x, ty, pos, af, none⟩ :: l) K φ s :=
  TO_cv h1 h2 hx (by rw [wrap_u32]; exact k)
end
end Go.Ai
