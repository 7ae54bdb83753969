/- My own texts DevTg5, DevTg6, DevTg7, DevTg8, DevTg9, DevTg10, one behind the other. -/
import Derived.Test.YtabgpaejofjpbaaDoorWAE
import Derived.Test.YtabgpaejofjpbaaDoorWAD
import Derived.DataShut
section
/- Steps of a typed run: cuts, texts, small numbers. -/
set_option linter.unusedVariables false
set_option linter.unusedSimpArgs false
open Go.Ai.Enc (enc is)
open Go.Ai.Res (res ris)
open Go.Ai.Args (args)
namespace Go.Ai
def eqS (a b : List UInt8) : Bool := a == b
def ltS (a b : List UInt8) : Bool := Op.bytesLess a b
def catS (a b : List UInt8) : Option (List UInt8) := if (a.length + b.length : Int) > 9223372036854775807 then none else some (a ++ b)
theorem catS_some {a b r : List UInt8} (h : catS a b = some r) : ¬ ((a.length + b.length : Int) > 9223372036854775807) ∧ r = a ++ b := by
  unfold catS at h
  split at h
  · cases h
  · rename_i h0; injection h with h; exact ⟨h0, h.symm⟩
def bitAnd (k : IntKind) (a b : Int) : Int := ((BitVec.ofInt k.bits a &&& BitVec.ofInt k.bits b).toNat : Int)
def bitOr (k : IntKind) (a b : Int) : Int := ((BitVec.ofInt k.bits a ||| BitVec.ofInt k.bits b).toNat : Int)
def bitXor (k : IntKind) (a b : Int) : Int := ((BitVec.ofInt k.bits a ^^^ BitVec.ofInt k.bits b).toNat : Int)
def bitAndNot (k : IntKind) (a b : Int) : Int := ((BitVec.ofInt k.bits a &&& ~~~ BitVec.ofInt k.bits b).toNat : Int)
theorem wrap_u8 (z : Int) : IntKind.u8.wrap z = ((UInt8.ofInt z).toNat : Int) := by
  have h : IntKind.u8.wrap z = z % 256 := IntKind.wrap_u8 z
  rw [h]; simp only [UInt8.ofInt, UInt8.toNat_ofNat']; omega
theorem wrap_u64 (z : Int) : IntKind.u64.wrap z = ((UInt64.ofInt z).toNat : Int) := by
  have h : IntKind.u64.wrap z = z % 18446744073709551616 := IntKind.wrap_u64 z
  rw [h]; simp only [UInt64.ofInt, UInt64.toNat_ofNat']; omega
theorem wrap_u32 (z : Int) : IntKind.u32.wrap z = ((UInt32.ofInt z).toNat : Int) := by
  have h : IntKind.u32.wrap z = z % 4294967296 := IntKind.wrap_u32 z
  rw [h]; simp only [UInt32.ofInt, UInt32.toNat_ofNat']; omega
theorem wrap_u8_i64 (b : UInt8) : IntKind.i64.wrap (b.toNat : Int) = (b.toNat : Int) := IntWalk.i64_in _ (by have := b.toNat_lt; omega)
theorem wrap_u32_i64 (b : UInt32) : IntKind.i64.wrap (b.toNat : Int) = (b.toNat : Int) := IntWalk.i64_in _ (by have := b.toNat_lt; omega)
theorem TC_cut {P : Program} {prims : Prims} {n : Nat} {K : Fm → St → Prop} {Q : AExit → Fm → St → Prop} {φ : Fm} {s : St} {x y : Code} (I : Fm → St → Prop) (ha : TC P prims n x I Q φ s) (hb : ∀ φ s, I φ s → TC P prims n y K Q φ s) : TC P prims n (.seq x y) K Q φ s :=
  TC_seq (ha.mono hb fun _ _ _ h => h)
section
variable {P : Program} {prims : Prims} {n : Nat} {b : Bool} {K : Fm → St → Prop} {Q : AExit → Fm → St → Prop} {φ : Fm} {s : St} {ops : Array Oper} {l : List Oper} {d : Tmp} {ty t t' e : TypeId} {pos : String} {af : Array Edge} {gd : Option (Nat × Bool)} {x y z : Operand} {u v w : AV}
theorem aOps_app {call : FuncId → List AV → St → Option (AV × St)} {l2 : List Oper} {fr2 : List AV} {s2 : St} : ∀ (l1 : List Oper) {fr fr1 : List AV} {s s1 : St}, aOps P call ops l1 fr s = some (fr1, s1) → aOps P call ops l2 fr1 s1 = some (fr2, s2) → aOps P call ops (l1 ++ l2) fr s = some (fr2, s2)
  | [], fr, fr1, s, s1, h, k => by simp only [aOps] at h; injection h with h; injection h with e1 e2; subst e1; subst e2; exact k
  | o :: l1, fr, fr1, s, s1, h, k => by
    simp only [List.cons_append, aOps] at h ⊢
    by_cases hw : Region.wanted o (aYield ops fr) = true
    · rw [if_pos hw] at h ⊢
      cases ho : aOp P call o fr s with
      | none => rw [ho] at h; cases h
      | some r => rw [ho] at h; exact aOps_app l1 h k
    · rw [if_neg hw] at h ⊢
      exact aOps_app l1 h k
theorem WO_app {I K : List AV → St → Prop} {l1 l2 : List Oper} {fr : List AV} {s : St} (h1 : WO P prims ops l1 I fr s) (h2 : ∀ fr s, I fr s → WO P prims ops l2 K fr s) : WO P prims ops (l1 ++ l2) K fr s := by
  unfold WO at h1
  obtain ⟨fr1, s1, hI, N, hN⟩ := h1
  have h3 := h2 fr1 s1 hI
  unfold WO at h3 ⊢
  obtain ⟨fr2, s2, hK, M, hM⟩ := h3
  exact ⟨fr2, s2, hK, N + M, fun m hm => aOps_app l1 (hN m (by omega)) (hM m (by omega))⟩
/-- A cut within a region. -/
theorem TO_cut (k : Nat) (I : Fm → St → Prop) (h1 : TO P prims n b ops (l.take k) I φ s) (h2 : ∀ φ s, I φ s → TO P prims n b ops (l.drop k) K φ s) : TO P prims n b ops l K φ s := by
  cases b with
  | true =>
    have := WO_app (P := P) (prims := prims) (ops := ops) h1 (K := fun fr' s' => ∃ φ', fr' = frm n φ' ∧ K φ' s') (l2 := l.drop k) (fun fr s ⟨φ, e, h⟩ => by subst e; exact h2 φ s h)
    rw [List.take_append_drop] at this
    exact this
  | false =>
    intro hp base ρ X w a R A hb hs hr hd hR
    rw [← List.take_append_drop k l, wl_app]
    refine h1 hp base ρ X w a R _ hb hs hr hd fun φ' s' a' w' hk hpf => ?_
    obtain ⟨ρ1, g1, g2, g3, g4, g5, g6, g7⟩ := hpf
    exact h2 φ' s' hk hp base ρ1 X w' a' R A (Nat.le_trans hb g5.size) g3 g4 g7 fun φ'' s'' a'' w'' hk' hq => hR φ'' s'' a'' w'' hk' (PostF.cons g1 g2 g5 g6 hq)
theorem TO_offU {op : Op} {g d' : Nat} {w : Bool} (hd : (ops[g]?).bind (·.dst) = some d') (hv : fEval n φ (.tmp d') = some .undef) (k : TO P prims n b ops l K (upd φ d .undef) s) : TO P prims n b ops (⟨some d, op, ty, pos, af, some (g, w)⟩ :: l) K φ s := by
  refine TO_skip rfl ?_ k
  rw [wanted_at]
  simp only [fEval] at hv
  split at hv
  · rename_i hb
    injection hv with hv
    have hlt : d' < n := Nat.le_of_ble_eq_true hb
    unfold aYield
    rw [hd, Option.bind_some]
    have : (frm n φ)[d']? = some .undef := by simp [frm, List.getElem?_range, hlt, hv]
    rw [this]; cases w <;> rfl
  · cases hv
theorem TO_biB {a b' : Bool} {t' : TypeId} (hu : P.underlying t = some .bool) (hx : fEval n φ x = some (.bool a)) (hy : fEval n φ y = some (.bool b')) (k : TO P prims n b ops l K (upd φ d (.bool (a == b'))) s) : TO P prims n b ops (⟨some d, .binOp .eql t x y t', ty, pos, af, none⟩ :: l) K φ s :=
  TO_bi hx hy (by simp [aBinOp, hu]) k
theorem TO_biBn {a b' : Bool} {t' : TypeId} (hu : P.underlying t = some .bool) (hx : fEval n φ x = some (.bool a)) (hy : fEval n φ y = some (.bool b')) (k : TO P prims n b ops l K (upd φ d (.bool (a != b'))) s) : TO P prims n b ops (⟨some d, .binOp .neq t x y t', ty, pos, af, none⟩ :: l) K φ s :=
  TO_bi hx hy (by simp [aBinOp, hu]) k
theorem TO_cat {a b' r : Str} {t' : TypeId} (hx : fEval n φ x = some (.str a)) (hy : fEval n φ y = some (.str b')) (hr : catS a b' = some r) (k : TO P prims n b ops l K (upd φ d (enc r)) s) : TO P prims n b ops (⟨some d, .binOp .add t x y t', ty, pos, af, none⟩ :: l) K φ s := by
  obtain ⟨h1, rfl⟩ := catS_some hr
  exact TO_bi hx hy (by simp only [aBinOp]; rw [if_neg h1]; rfl) k
theorem TO_biw8 {op : BinOp} {t' : TypeId} {z : Int} (hx : fEval n φ x = some u) (hy : fEval n φ y = some w) (hv : aBinOp P op t u w (isC x) (isC y) = some (.int .u8 (IntKind.u8.wrap z))) (k : TO P prims n b ops l K (upd φ d (enc (UInt8.ofInt z))) s) : TO P prims n b ops (⟨some d, .binOp op t x y t', ty, pos, af, none⟩ :: l) K φ s :=
  TO_bi hx hy (by rw [hv, wrap_u8]; rfl) k
theorem TO_biw64 {op : BinOp} {t' : TypeId} {z : Int} (hx : fEval n φ x = some u) (hy : fEval n φ y = some w) (hv : aBinOp P op t u w (isC x) (isC y) = some (.int .u64 (IntKind.u64.wrap z))) (k : TO P prims n b ops l K (upd φ d (enc (UInt64.ofInt z))) s) : TO P prims n b ops (⟨some d, .binOp op t x y t', ty, pos, af, none⟩ :: l) K φ s :=
  TO_bi hx hy (by rw [hv, wrap_u64]; rfl) k
theorem TO_biw32 {op : BinOp} {t' : TypeId} {z : Int} (hx : fEval n φ x = some u) (hy : fEval n φ y = some w) (hv : aBinOp P op t u w (isC x) (isC y) = some (.int .u32 (IntKind.u32.wrap z))) (k : TO P prims n b ops l K (upd φ d (enc (UInt32.ofInt z))) s) : TO P prims n b ops (⟨some d, .binOp op t x y t', ty, pos, af, none⟩ :: l) K φ s :=
  TO_bi hx hy (by rw [hv, wrap_u32]; rfl) k
theorem ofInt_u8 {z : Int} (h0 : 0 ≤ z) (h1 : z < 256) : ((UInt8.ofInt z).toNat : Int) = z := by rw [← wrap_u8]; exact IntWalk.u8_in _ ⟨h0, by omega⟩
theorem ofInt_u64 {z : Int} (h0 : 0 ≤ z) (h1 : z < 18446744073709551616) : ((UInt64.ofInt z).toNat : Int) = z := by rw [← wrap_u64, IntKind.wrap_u64]; omega
theorem TO_biw8r {op : BinOp} {t' : TypeId} {z : Int} (hx : fEval n φ x = some u) (hy : fEval n φ y = some w) (hv : aBinOp P op t u w (isC x) (isC y) = some (.int .u8 z)) (hz : 0 ≤ z ∧ z < 256) (k : TO P prims n b ops l K (upd φ d (enc (UInt8.ofInt z))) s) : TO P prims n b ops (⟨some d, .binOp op t x y t', ty, pos, af, none⟩ :: l) K φ s :=
  TO_bi hx hy (v := enc (UInt8.ofInt z)) (by rw [hv]; show _ = some (AV.int .u8 ((UInt8.ofInt z).toNat : Int)); rw [ofInt_u8 hz.1 hz.2]) k
theorem TO_biw64r {op : BinOp} {t' : TypeId} {z : Int} (hx : fEval n φ x = some u) (hy : fEval n φ y = some w) (hv : aBinOp P op t u w (isC x) (isC y) = some (.int .u64 z)) (hz : 0 ≤ z ∧ z < 18446744073709551616) (k : TO P prims n b ops l K (upd φ d (enc (UInt64.ofInt z))) s) : TO P prims n b ops (⟨some d, .binOp op t x y t', ty, pos, af, none⟩ :: l) K φ s :=
  TO_bi hx hy (v := enc (UInt64.ofInt z)) (by rw [hv]; show _ = some (AV.int .u64 ((UInt64.ofInt z).toNat : Int)); rw [ofInt_u64 hz.1 hz.2]) k
theorem TO_cvu8 {src dst : TypeId} {d0 : TypeDesc} {k1 : IntKind} {i : Int} (h1 : P.underlying src = some d0) (h2 : P.underlying dst = some (.int .u8)) (hx : fEval n φ x = some (.int k1 i)) (k : TO P prims n b ops l K (upd φ d (enc (UInt8.ofInt i))) s) : TO P prims n b ops (⟨some d, .convert src dst x, ty, pos, af, none⟩ :: l) K φ s :=
  TO_cv h1 h2 hx (by rw [wrap_u8]; exact k)
theorem TO_cvu64 {src dst : TypeId} {d0 : TypeDesc} {k1 : IntKind} {i : Int} (h1 : P.underlying src = some d0) (h2 : P.underlying dst = some (.int .u64)) (hx : fEval n φ x = some (.int k1 i)) (k : TO P prims n b ops l K (upd φ d (enc (UInt64.ofInt i))) s) : TO P prims n b ops (⟨some d, .convert src dst x, ty, pos, af, none⟩ :: l) K φ s :=
  TO_cv h1 h2 hx (by rw [wrap_u64]; exact k)
theorem TO_cvu32 {src dst : TypeId} {d0 : TypeDesc} {k1 : IntKind} {i : Int} (h1 : P.underlying src = some d0) (h2 : P.underlying dst = some (.int .u32)) (hx : fEval n φ x = some (.int k1 i)) (k : TO P prims n b ops l K (upd φ d (enc (UInt32.ofInt i))) s) : TO P prims n b ops (⟨some d, .convert src dst x, ty, pos, af, none⟩ :: l) K φ s :=
  TO_cv h1 h2 hx (by rw [wrap_u32]; exact k)
end
end Go.Ai
end
section
/- Rows that are written into: objects with a known room; how they become rows that nobody turns. -/
set_option linter.unusedVariables false
set_option linter.unusedSimpArgs false
open Go.Ai.Enc (enc is)
open Go.Ai.Res (res ris)
open Go.Ai.Args (args)
namespace Go.Ai
section
variable {P : Program} {prims : Prims} {n : Nat} {K : Fm → St → Prop} {φ : Fm} {s : St} {ops : Array Oper} {l : List Oper} {d : Tmp} {ty t t' e : TypeId} {pos : String} {af : Array Edge} {x y z : Operand} {u v w : AV}
variable {T : Type} [Enc T]
/-- The cells of a row with room: the elements, and what lies behind them. -/
def mcells (xs sp : List AV) : List AV := xs.flatMap AV.cells ++ sp
theorem elems_m {k m cap : Nat} {xs sp : List AV} (hx : ∀ v ∈ xs, okElem k v) (hg : hget s.h m = some (.cells (mcells xs sp))) : elems (.hs k m 0 xs.length cap) s = some (k, xs) := by
  have hl := flat_len (z := esz k) xs (fun v hv => (hx v hv).1)
  have hc : chunk k (mcells xs sp) xs.length = xs := by
    have h1 : ∀ (ys : List AV) (sp : List AV), (∀ v ∈ ys, okElem k v) → chunk k (ys.flatMap AV.cells ++ sp) ys.length = chunk k (ys.flatMap AV.cells) ys.length := by
      intro ys
      induction ys with
      | nil => intro sp _; rfl
      | cons v ys ih =>
        intro sp h
        have hv := (h v (by simp)).1
        simp only [List.flatMap_cons, List.length_cons, chunk, List.append_assoc]
        have e1 : (v.cells ++ (ys.flatMap AV.cells ++ sp)).drop (esz k) = ys.flatMap AV.cells ++ sp := by rw [← hv, List.drop_left]
        have e2 : (v.cells ++ ys.flatMap AV.cells).drop (esz k) = ys.flatMap AV.cells := by rw [← hv, List.drop_left]
        rw [e1, e2, ih sp (fun w hw => h w (by simp [hw]))]
        congr 1
        by_cases hk : k = 0
        · subst hk
          simp only [if_true]
          have hp : 0 < v.cells.length := by rw [hv]; exact esz_pos 0
          cases hc : v.cells with
          | nil => rw [hc] at hp; simp at hp
          | cons c cs => simp
        · simp only [if_neg hk]
          have h6 : esz k = k := by simp [esz, hk]
          congr 1
          rw [h6] at hv
          rw [List.take_append_of_le_length (by omega), List.take_append_of_le_length (by omega)]
    unfold mcells
    rw [h1 xs sp hx, chunk_flat xs hx]
  simp only [elems, hg, List.drop_zero]
  rw [if_pos (by simp [mcells, hl]), hc]
/-- A row that is written into: its object, its elements' values, its room. (An empty one may have no object.) -/
def isO (x : AV) (es : En) (xs : List T) : Prop := ∃ (m cap : Nat) (ys sp : List AV), x = .hs (Enc.k T) m 0 xs.length cap ∧ es = .cells m (mcells ys sp) ∧ isR ys xs ∧ sp.length = (cap - xs.length) * esz (Enc.k T) ∧ xs.length ≤ cap ∧ ∀ y ∈ sp, y.one = true
def isM (x : AV) (es : En) (xs : List T) : Prop := isO x es xs ∨ (xs = [] ∧ is x ([] : List T) ∧ canOwn x = true ∧ noTok x = true ∧ es = .own .nils)
/-- Nobody writes into it any more: it becomes a row. -/
theorem freeze_o {x : AV} {en : En} {xs : List T} {es : List En} (h : isO x en xs) (hs : Hp s (en :: es)) : ∃ m z, is z xs ∧ frozenNames 0 x = [m] ∧ freezeV 0 s x = some z ∧ Hp (s.del m) es := by
  obtain ⟨m, cap, ys, sp, rfl, rfl, h1, h2, h3, _⟩ := h
  have hg : hget s.h m = some (.cells (mcells ys sp)) := hs.get rfl
  have he := elems_m (k := Enc.k T) (m := m) (cap := cap) h1.ok hg
  rw [h1.len] at he
  refine ⟨m, .vec (Enc.k T) ys (if xs.length = cap then .tight else .unk), .inr ⟨_, _, rfl, h1⟩, ?_, ?_, hs.del rfl⟩
  · simp [frozenNames]
  · simp only [freezeV, Nat.not_lt_zero, if_false]
    rw [if_neg (by omega), he]
    rfl
theorem post_frz {base : Nat} {ρ : Pl} {X : Reg} {w : World} {s s' : St} {v u : AV} {v' : Value} {w' : World} {m : Nat} (h : Post base ρ X s w v s' v' w') (hf : freezeV 0 s' v = some u) (hn : frozenNames 0 v = [m]) : Post base ρ X s w u (s'.del m) v' w' := by
  obtain ⟨ρ', h1, h2, h3, h4, h5, h6⟩ := h
  obtain ⟨g1, g2, g3⟩ := del_all (ρ := ρ') 0 [m] h3
  exact ⟨ρ', h1, h2, h3.del m, freezeV_rel h3 h4 hf rfl (fun k o hk => by
    rw [hn]
    have := hget_hdel hk
    exact ⟨by simpa using this.1, this.2⟩), h5, fun b j hb hj => h6 b j hb hj.del⟩
/-- make, and nobody writes into it. -/
theorem TO_mk {k1 k2 : IntKind} {i : Int} {by_ : Nat} {zv : T} (hu : P.underlying t = some (.slice e)) (he : EF P e (Enc.k T) by_) (hz : ∃ a, zeroT P e = some a ∧ is a zv) (hx : fEval n φ x = some (.int k1 i)) (hy : fEval n φ y = some (.int k2 i)) (h0 : 0 ≤ i) (hr : roomy i.toNat by_ = true)
    (k : ∀ z s', is z (List.replicate i.toNat zv) → (∀ es, Hp s es → Hp s' es) → TO P prims n false ops l K (upd φ d z) s') : TO P prims n false ops (⟨some d, .makeSlice t x y, ty, pos, af, none⟩ :: l) K φ s := by
  obtain ⟨a, ha, hiz⟩ := hz
  obtain ⟨inf, hi, hi1, hi2⟩ := he.info
  obtain ⟨z0, hz0, hz1, hz2⟩ := he.zero
  rw [ha] at hz0; injection hz0 with hz0; subst hz0
  have hrep : isR (List.replicate i.toNat a) (List.replicate i.toNat zv) := by
    generalize i.toNat = q
    induction q with
    | zero => trivial
    | succ q ih => exact ⟨hiz, ih⟩
  have hmk : ∀ call, aOp P call ⟨some d, .makeSlice t x y, ty, pos, af, none⟩ (frm n φ) s = some (.hs (Enc.k T) s.c 0 i.toNat i.toNat, s.new (.cells ((List.replicate i.toNat a.cells).flatten))) := fun _ => by
    simp only [aOp, fEval_eq hx, fEval_eq hy, Option.bind_eq_bind, Option.bind_some, aMakeSlice, hu, hi, he.sh, aInt, ha]
    rw [if_pos ⟨h0, Int.le_refl _, by rw [hi2]; exact hr, hz1, hz2, hi1⟩]
  refine TO_sem rfl rfl (fun _ => rfl) fun hp base ρ X wd ac A B hb hs hrl hd hA => ?_
  refine op_wp (aCall_sound hp 0) hb hs hrl (hmk _) fun v' w' hpost => ?_
  have hcs : (List.replicate i.toNat a.cells).flatten = mcells (List.replicate i.toNat a) [] := by
    simp [mcells, List.flatMap, List.map_replicate]
  have hg : hget (s.new (.cells ((List.replicate i.toNat a.cells).flatten))).h s.c = some (.cells (mcells (List.replicate i.toNat a) [])) := by
    rw [hcs]; simp [St.new, hget]
  have hel := elems_m (cap := i.toNat) hrep.ok hg
  rw [List.length_replicate] at hel
  have hfz : freezeV 0 (s.new (.cells ((List.replicate i.toNat a.cells).flatten))) (.hs (Enc.k T) s.c 0 i.toNat i.toNat) = some (.vec (Enc.k T) (List.replicate i.toNat a) .tight) := by
    simp only [freezeV, Nat.not_lt_zero, if_false, Nat.lt_irrefl, hel, Option.map_some, if_true]
  refine hA _ _ v' w' (k (.vec (Enc.k T) (List.replicate i.toNat a) .tight) _ (.inr ⟨_, _, rfl, hrep⟩) fun es h => ?_) (post_frz (m := s.c) hpost hfz (by simp [frozenNames]))
  have := (Hp.new h (.cells ((List.replicate i.toNat a.cells).flatten)) (.cells s.c _) rfl).del rfl
  exact this
/-- make, to be written into. -/
theorem TO_mkm {k1 k2 : IntKind} {i j : Int} {by_ : Nat} {zv : T} {es : List En} {b : Bool} (hu : P.underlying t = some (.slice e)) (he : EF P e (Enc.k T) by_) (hz : ∃ a, zeroT P e = some a ∧ is a zv) (hx : fEval n φ x = some (.int k1 i)) (hy : fEval n φ y = some (.int k2 j)) (h0 : 0 ≤ i ∧ i ≤ j) (hr : roomy j.toNat by_ = true) (hs : Hp s es)
    (k : ∀ z en s', isM z en (List.replicate i.toNat zv) → Hp s' (en :: es) → TO P prims n b ops l K (upd φ d z) s') : TO P prims n b ops (⟨some d, .makeSlice t x y, ty, pos, af, none⟩ :: l) K φ s := by
  obtain ⟨a, ha, hiz⟩ := hz
  obtain ⟨inf, hi, hi1, hi2⟩ := he.info
  obtain ⟨z0, hz0, hz1, hz2⟩ := he.zero
  rw [ha] at hz0; injection hz0 with hz0; subst hz0
  have hrep : ∀ q, isR (List.replicate q a) (List.replicate q zv) := by
    intro q
    induction q with
    | zero => trivial
    | succ q ih => exact ⟨hiz, ih⟩
  have hsplit : (List.replicate j.toNat a.cells).flatten = mcells (List.replicate i.toNat a) ((List.replicate (j.toNat - i.toNat) a.cells).flatten) := by
    unfold mcells
    rw [List.flatMap, List.map_replicate, ← List.flatten_append, List.replicate_append_replicate]
    congr 2; omega
  refine TO_op rfl rfl (v := .hs (Enc.k T) s.c 0 i.toNat j.toNat) (s' := s.new (.cells ((List.replicate j.toNat a.cells).flatten))) (fun _ => ?_) (k _ (.cells s.c (mcells (List.replicate i.toNat a) ((List.replicate (j.toNat - i.toNat) a.cells).flatten))) _ ?_ ?_)
  · simp only [aOp, fEval_eq hx, fEval_eq hy, Option.bind_eq_bind, Option.bind_some, aMakeSlice, hu, hi, he.sh, aInt, ha]
    rw [if_pos ⟨h0.1, h0.2, by rw [hi2]; exact hr, hz1, hz2, hi1⟩]
  · refine .inl ⟨s.c, j.toNat, List.replicate i.toNat a, _, by simp, rfl, hrep _, ?_, ?_, ?_⟩
    · simp [List.length_flatten, hz1]
    · simp; omega
    · intro y hy
      obtain ⟨q, hq1, hq2⟩ := List.mem_flatten.1 hy
      obtain ⟨_, rfl⟩ := List.mem_replicate.1 hq1
      exact List.all_eq_true.1 hz2 y hq2
  · rw [hsplit]; exact Hp.new hs _ _ rfl
/-- An address in it, to be written to. -/
def MPtr (p : AV) (en : En) (i : Nat) (T : Type) [Enc T] : Prop := ∃ m cs, en = .cells m cs ∧ p = .ptr m (i * esz (Enc.k T))
theorem TO_ixm {b : Bool} {kk : IntKind} {i : Int} {en : En} {xs : List T} (hu : P.underlying t = some (.slice e)) (hsh : shapeT P e = some (Enc.k T)) (hx : fEval n φ x = some u) (hy : fEval n φ y = some (.int kk i)) (h : isM u en xs) (h0 : 0 ≤ i) (h1 : i < xs.length)
    (k : ∀ p, MPtr p en i.toNat T → TO P prims n b ops l K (upd φ d p) s) : TO P prims n b ops (⟨some d, .indexAddr t x y, ty, pos, af, none⟩ :: l) K φ s := by
  obtain ⟨m, cap, ys, sp, rfl, rfl, h2, h3, h4, h5⟩ | ⟨rfl, _⟩ := h
  rotate_left
  · simp at h1; omega
  refine TO_op rfl rfl (fun _ => op_addr (fEval_eq hx) (fEval_eq hy) (v := .ptr m (i.toNat * esz (Enc.k T))) ?_) (k _ ⟨m, _, rfl, rfl⟩)
  simp [aIndexAddr, aInt, hu, hsh, h0, h1]
theorem mcells_set {k : Nat} {xs sp : List AV} {i : Nat} {v : AV} (hx : ∀ v ∈ xs, okElem k v) (hv : v.cells.length = esz k) (hi : i < xs.length) : splice (mcells xs sp) (i * esz k) v.cells = mcells (xs.set i v) sp := by
  induction xs generalizing i with
  | nil => simp at hi
  | cons y xs ih =>
    have hy := (hx y (by simp)).1
    cases i with
    | zero =>
      unfold splice mcells
      simp only [Nat.zero_mul, List.take_zero, List.nil_append, Nat.zero_add, List.set_cons_zero, List.flatMap_cons, List.append_assoc, hv]
      congr 1
      rw [← hy, List.drop_left]
    | succ i =>
      have ih' := ih (fun v hv => hx v (by simp [hv])) (i := i) (by simpa using hi)
      unfold splice mcells at ih' ⊢
      simp only [List.set_cons_succ, List.flatMap_cons, List.append_assoc]
      have e1 : (i + 1) * esz k = y.cells.length + i * esz k := by rw [hy, Nat.succ_mul, Nat.add_comm]
      rw [e1, List.take_append, List.take_of_length_le (by omega), List.drop_append, List.drop_of_length_le (by omega)]
      simp only [List.nil_append, List.append_assoc]
      congr 1
      rw [show y.cells.length + i * esz k - y.cells.length = i * esz k by omega, show y.cells.length + i * esz k + v.cells.length - y.cells.length = i * esz k + v.cells.length by omega]
      rw [← ih']; simp [List.append_assoc]
/-- A store of an element. -/
theorem TO_stm {b : Bool} {i : Nat} {en : En} {es : List En} {m0 : AV} {xs : List T} {a : T} (hp : fEval n φ x = some u) (hy : fEval n φ y = some v) (hm : MPtr u en i T) (h : isM m0 en xs) (hi : i < xs.length) (ha : is v a) (hsz : szT P t = some (esz (Enc.k T))) (hs : Hp s (en :: es))
    (k : ∀ en' s', isM m0 en' (xs.set i a) → Hp s' (en' :: es) → TO P prims n b ops l K φ s') : TO P prims n b ops (⟨none, .store t x y, ty, pos, af, none⟩ :: l) K φ s := by
  obtain ⟨m, cap, ys, sp, rfl, rfl, h2, h3, h4, h5⟩ | ⟨rfl, _⟩ := h
  rotate_left
  · simp at hi
  obtain ⟨m', cs, e1, rfl⟩ := hm
  injection e1 with e1 e2; subst e1; subst e2
  have hg : hget s.h m = some (.cells (mcells ys sp)) := hs.get rfl
  have hel := Enc.el ha
  have hl := flat_len (z := esz (Enc.k T)) ys (fun v hv => (h2.ok v hv).1)
  have hyl := h2.len
  refine TO_op0 rfl rfl (v := .undef) (s' := s.put m (.cells (mcells (ys.set i v) sp))) (fun _ => ?_) (k (.cells m (mcells (ys.set i v) sp)) _ (.inl ⟨m, cap, ys.set i v, sp, by simp, rfl, h2.set i ha, by simpa using h3, by simpa using h4, h5⟩) (Hp.put hs rfl rfl))
  simp only [aOp, fEval_eq hp, fEval_eq hy, Option.bind_eq_bind, Option.bind_some, aStore, aStoreAt, hg, hsz, hel.1, if_true]
  have hle : i * esz (Enc.k T) + esz (Enc.k T) ≤ (mcells ys sp).length := by
    have : (i + 1) * esz (Enc.k T) ≤ ys.length * esz (Enc.k T) := Nat.mul_le_mul_right _ (by omega)
    rw [Nat.succ_mul] at this
    simp only [mcells, List.length_append, hl]; omega
  rw [if_pos ⟨hle, List.all_eq_true.2 hel.2.1⟩, mcells_set h2.ok hel.1 (by omega)]
  rfl
theorem set_getD {α : Type} (l : List α) (q : Nat) (d : α) : l.set q (l.getD q d) = l := by
  apply List.ext_getElem?
  intro i
  rw [List.getElem?_set]
  split
  · rename_i h
    subst h
    split
    · rename_i h; rw [List.getD_eq_getElem?_getD, List.getElem?_eq_getElem h]; rfl
    · rename_i h; rw [List.getElem?_eq_none (by omega)]
  · rfl
/-- It is written into no more. -/
theorem TO_frz {en : En} {es : List En} {xs : List T} {q : Nat} (hq : φ q = u) (h : isM u en xs) (hs : Hp s (en :: es)) (k : ∀ z s', is z xs → Hp s' es → TO P prims n false ops l K (upd φ q z) s') : TO P prims n false ops l K φ s := by
  rcases h with h | ⟨rfl, h, _, _, rfl⟩
  rotate_left
  · have := k u s h hs.tail
    rwa [← hq, upd_same] at this
  obtain ⟨m, z, h1, h2, h3, h4⟩ := freeze_o h hs
  intro hp base ρ X wd ac R A hb hsim hrl hd hA
  have hk := k z _ h1 h4 hp base ρ X wd ac R A hb (hsim.del m)
  have hU : ∀ b j, UX ρ (s.del m).h X b j → UX ρ s.h X b j := fun b j hj => hj.imp Umap.del id
  have hm : Mono wd ρ (UX ρ s.h X) s.c wd ρ (UX ρ (s.del m).h X) (s.del m).c := ⟨Nat.le_refl _, fun _ _ => rfl, fun a u hu _ => hu, fun a ha => ha, fun b j _ hj => hU b j hj⟩
  have hrl' : RelL wd ρ (UX ρ (s.del m).h X) (s.del m).c (frm n (upd φ q z)) ac.tmps.toList := by
    rw [← frm_set]
    have hr2 := RelL.mono hm _ _ hrl
    by_cases hqn : q < n
    · have hz : Rel wd ρ (UX ρ (s.del m).h X) (s.del m).c z (ac.tmps.toList.getD q undef) := by
        have := hrl.getD q
        rw [frm_getD hqn, hq] at this
        exact freezeV_rel hsim this h3 rfl (fun k o hk => by
          rw [h2]
          have := hget_hdel hk
          exact ⟨by simpa using this.1, this.2⟩)
      have := hr2.set q hz
      rwa [set_getD] at this
    · rw [List.set_eq_of_length_le (by simp [frm]; omega)]
      exact hr2
  refine hk hrl' hd fun φ' s' a' w' hK hpf => hA φ' s' a' w' hK ?_
  obtain ⟨ρ', g1, g2, g3, g4, g5, g6, g7⟩ := hpf
  exact ⟨ρ', g1, g2, g3, g4, g5.weaken (fun b j hj => hj.del), fun b j hb hj => (g6 b j hb hj).del, g7⟩
/-! ### append onto what is written into -/
theorem does_growM {base : Nat} {ρ : Pl} {X : Reg} {wd : World} {k : Nat} {xs ys zc : List AV} {e : TypeId} {cs us : List Value} {zv : Value} {newCap : Nat} (hb : base ≤ wd.heap.size) (h : Sim base ρ X s wd)
    (hcs : RelC wd ρ (UX ρ s.h X) s.c k xs cs) (hus : RelC wd ρ (UX ρ s.h X) s.c k ys us) (hx : ∀ v ∈ xs, okElem k v) (hy : ∀ v ∈ ys, okElem k v) (hz : RelL wd ρ (UX ρ s.h X) s.c zc zv.cells.toList) (hz1 : ∀ y ∈ zc, y.one = true) (hzp : 0 < zv.cells.size) (hle : xs.length + ys.length ≤ newCap) :
    Post base ρ X s wd (.hs k s.c 0 (xs.length + ys.length) newCap) (s.new (.cells (mcells (xs ++ ys) ((List.replicate (newCap - (xs.length + ys.length)) zc).flatten)))) (.slice (some ⟨wd.heap.size, 0, none⟩) (xs.length + ys.length) newCap) (wd.drew.alloc (.cells (cs.toArray ++ us.toArray ++ Builtin.zeroCells zv.cells (newCap - (xs.length + ys.length))) e)) := by
  refine Post.new (w' := wd.drew.alloc (.cells (cs.toArray ++ us.toArray ++ Builtin.zeroCells zv.cells (newCap - (xs.length + ys.length))) e)) h rfl rfl rfl (by simp) (fun b hb => ?_) hb (.cells (mcells (xs ++ ys) ((List.replicate (newCap - (xs.length + ys.length)) zc).flatten))) wd.heap.size 0 (Nat.le_refl _) _ _ (fun ρ' U' c' m hρ' hU' hc' => ⟨?_, ?_⟩)
  · show (wd.heap.push _)[b]? = _
    rw [Array.getElem?_push, if_neg (by omega)]
  · refine ⟨_, e, (0, 0), heap_alloc_new wd.drew _, by simp [thawed], ?_, ?_⟩
    · have e1 : (cs.toArray ++ us.toArray ++ Builtin.zeroCells zv.cells (newCap - (xs.length + ys.length))).toList = (cs ++ us) ++ (List.replicate (newCap - (xs.length + ys.length)) zv.cells.toList).flatten := by
        rw [← made_list _ _ hzp]; simp; rfl
      rw [e1]
      unfold mcells
      refine RelL.append ?_ ?_
      · rw [List.flatMap_append]
        exact (RelL.mono m _ _ hcs.cells).append (RelL.mono m _ _ hus.cells)
      · exact (RelL.mono m _ _ hz).flatten _
    · intro y hy'
      unfold mcells at hy'
      rcases List.mem_append.1 hy' with hy' | hy'
      · obtain ⟨v, hv, hy'⟩ := List.mem_flatMap.1 hy'
        rcases List.mem_append.1 hv with hv | hv
        · exact (hx v hv).2.1 y hy'
        · exact (hy v hv).2.1 y hy'
      · obtain ⟨q, hq1, hq2⟩ := List.mem_flatten.1 hy'
        obtain ⟨_, rfl⟩ := List.mem_replicate.1 hq1
        exact hz1 y hq2
  · simp only [Rel]
    exact ⟨by rw [hc']; omega, by rw [hρ']⟩
/-- append onto nothing, or onto a row that is written into: what comes out is written into. -/
theorem TO_apm {by_ : Nat} {a bv : AV} {ea : En} {es : List En} {xs m r : List T} {ts : Array TypeId} (hu : P.underlying t = some (.slice e)) (hu' : P.underlying t' = some (.slice e)) (h0 : ts[0]? = some t) (h1 : ts[1]? = some t') (he : EF P e (Enc.k T) by_) (hx : fEval n φ x = some a) (hy : fEval n φ y = some bv)
    (ha : isO a ea xs ∨ (xs = [] ∧ is a ([] : List T) ∧ canOwn a = true ∧ noTok a = true ∧ ea = .own .nils)) (hb : is bv m) (hr : app by_ xs m = some r) (hs : Hp s (ea :: es))
    (k : ∀ z en s', isM z en r → Hp s' (en :: es) → TO P prims n false ops l K (upd φ d z) s') : TO P prims n false ops (⟨some d, .call ⟨.builtin .append, #[x, y], ts⟩, ty, pos, af, none⟩ :: l) K φ s := by
  obtain ⟨hroom, rfl⟩ := app_some hr
  obtain ⟨i, hi, hi1, hi2⟩ := he.info
  obtain ⟨z, hz, hz1, hz2⟩ := he.zero
  obtain ⟨ys, hsrc, hys⟩ := source_is (s := s) hb
  have hyl := hys.len
  refine TO_sem rfl rfl (fun _ => rfl) fun hp base ρ X wd ac A B hba hsim hrl hd hA => ?_
  have hxr := aEval_rel hrl (fEval_eq hx)
  have hyr := aEval_rel hrl (fEval_eq hy)
  -- a run of the machine
  have hexec : ∀ {v' : Value} {w' : World}, (Builtin.append_ ts ty #[ac.eval x, ac.eval y]).run P wd = .ok v' w' → A (ac.put (some d) v') w' → Oper.wp P ⟨some d, .call ⟨.builtin .append, #[x, y], ts⟩, ty, pos, af, none⟩ ac wd A B := by
    intro v' w' hrun hA'
    refine wp_val (v' := v') (w' := w') ?_ hA'
    have : execOp ac.eval ⟨some d, .call ⟨.builtin .append, #[x, y], ts⟩, ty, pos, af, none⟩ = (do pure (.value (← Builtin.append_ ts ty #[ac.eval x, ac.eval y])) : Sem Next) := by
      simp only [execOp, resolve, pure_bind, invoke, List.map_toArray, List.map_cons, List.map_nil]; rfl
    rw [this]
    simp [hrun]
  -- what the interpreter can do
  have hdet : ∀ {v : AV} {s' : St} {en : En}, aAppend P ts a bv s = some (v, s') → isM v en (xs ++ m) → Hp s' (en :: es) → Oper.wp P ⟨some d, .call ⟨.builtin .append, #[x, y], ts⟩, ty, pos, af, none⟩ ac wd A B := by
    intro v s' en happ hm hs'
    refine op_wp (aCall_sound hp 0) hba hsim hrl (op_append (fEval_eq hx) (fEval_eq hy) happ) fun v' w' hpost => hA v s' v' w' (k v en s' hm hs') hpost
  -- a new row
  have hgrow : ∀ (base0 : Option Addr) (cap : Nat) (zs : List AV) (cs : List Value), ac.eval x = .slice base0 zs.length cap → isR zs xs → RelC wd ρ (UX ρ s.h X) s.c (Enc.k T) zs cs → (∀ w' : World, w'.heap = wd.heap → (Builtin.firstCells (esz (Enc.k T)) zs.length (.slice base0 zs.length cap)).run P w' = .ok cs.toArray w') → cap < zs.length + ys.length → ys ≠ [] → Hp s es →
      Oper.wp P ⟨some d, .call ⟨.builtin .append, #[x, y], ts⟩, ty, pos, af, none⟩ ac wd A B := by
    intro base0 cap zs cs hxe hzs hcs hold hgt hne hs0
    obtain ⟨i', hi', zv, hzv, hz'⟩ : ∃ i', P.info? e = some i' ∧ ∃ zv, i'.zero = some zv ∧ ofVal zv = some z := by
      simp only [zeroT, Option.bind_eq_bind, Option.bind_eq_some_iff] at hz
      exact hz
    have hzr : ∀ w, (zeroValue e).run P w = .ok zv w := fun w => by simp [zeroValue, typeInfo, hi', hzv]
    have hzrel := ofVal_rel (w := wd) (ρ := ρ) (U := UX ρ s.h X) (c := s.c) hz'
    have hzs' : zv.cells.size = esz (Enc.k T) := by rw [hzrel.cells_size, hz1]
    obtain ⟨us, hus, hlen, hfirst⟩ := source_rel (P := P) hsim hyr hsrc
    have hul := hus.length
    have hfull : us.take (ys.length * esz (Enc.k T)) = us := List.take_of_length_le (by omega)
    have hf : ∀ w' : World, w'.heap = wd.heap → (Builtin.firstCells (esz (Enc.k T)) ys.length (ac.eval y)).run P w' = .ok us.toArray w' := fun w' e => by
      have := hfirst w' (fun a u hu => by unfold World.cell? at hu ⊢; rw [e]; exact hu) ys.length (Nat.le_refl _)
      rwa [hfull] at this
    obtain ⟨newCap, hle, hrun⟩ := run_append_grows (P := P) (w := wd) (ty := ty) (base0 := base0) (n := zs.length) (m := ys.length) (cap := cap) (zv := zv) (i := i) (us := cs) (ys := us) h0 h1 hu hu' (fun q h => by cases h) hi (shapeT_some he.sh).1 hzr hzs' hlen hf hold hgt (by rw [hzs.len, hyl, hi2]; exact hroom)
    refine hexec (by rw [hxe]; exact hrun) ?_
    have hpost := does_growM (e := e) hba hsim hcs hus hzs.ok hys.ok hzrel.cells (fun y hy => List.all_eq_true.1 hz2 y hy) (by rw [hzs']; exact esz_pos _) hle
    refine hA _ _ _ _ (k _ (.cells s.c _) _ (.inl ⟨s.c, newCap, zs ++ ys, _, ?_, rfl, hzs.append hys, ?_, ?_, ?_⟩) (Hp.new hs0 _ _ rfl)) hpost
    · rw [List.length_append, hzs.len, hyl]
    · rw [List.length_flatten, List.map_replicate, List.sum_replicate_nat, hz1, List.length_append, hzs.len, hyl]
    · rw [List.length_append, ← hzs.len, ← hyl]; exact hle
    · intro y hy
      obtain ⟨q, hq1, hq2⟩ := List.mem_flatten.1 hy
      obtain ⟨_, rfl⟩ := List.mem_replicate.1 hq1
      exact List.all_eq_true.1 hz2 y hq2
  by_cases hye : ys.isEmpty = true
  · have hy0 : ys = [] := List.isEmpty_iff.1 hye
    subst hy0
    have hm0 : m = [] := List.eq_nil_of_length_eq_zero (by simpa using hyl.symm)
    subst hm0
    have hpre : ∀ R, (match a with
        | .nils => some (.nils, s)
        | .emp z => some (.emp z, s)
        | .vec k' zs c => if k' ≠ Enc.k T then none else some (.vec (Enc.k T) zs c, s)
        | .hs k' n off len cap => if k' ≠ Enc.k T then none else if cap < len then none else some (a, s)
        | _ => none) = some R → aAppend P ts a bv s = some R := by
      intro R hR
      unfold aAppend
      simp only [h0, h1, hu, hu', he.sh, hi, hz, hsrc, Option.bind_eq_bind, Option.bind_some, List.isEmpty_nil, if_true]
      rw [if_neg (by simp [hz1])]
      rw [← hR]
      cases a <;> rfl
    rw [List.append_nil] at *
    rcases ha with ho | ⟨rfl, hi0, hc, hn, rfl⟩
    · obtain ⟨q, cap, zs, sp, rfl, rfl, g1, g2, g3, g4⟩ := ho
      exact hdet (hpre _ (by simp only [ne_eq, not_true_eq_false, if_false]; rw [if_neg (by omega)])) (.inl ⟨q, cap, zs, sp, rfl, rfl, g1, g2, g3, g4⟩) hs
    · refine hdet (v := a) (s' := s) (hpre _ ?_) (.inr ⟨rfl, hi0, hc, hn, rfl⟩) hs
      rcases hi0 with ⟨rfl | ⟨z, rfl⟩, _⟩ | ⟨zs, c, rfl, _⟩
      · rfl
      · rfl
      · simp
  · have hne : ys ≠ [] := fun h => hye (by rw [h]; rfl)
    have hpos : 0 < ys.length := List.length_pos_iff.2 hne
    rcases ha with ho | ⟨rfl, hi0, hc, hn, rfl⟩
    · obtain ⟨q, cap, zs, sp, rfl, rfl, g1, g2, g3, g4⟩ := ho
      have hg : hget s.h q = some (.cells (mcells zs sp)) := hs.get rfl
      have hel := elems_m (k := Enc.k T) (m := q) (cap := cap) g1.ok hg
      rw [g1.len] at hel
      have hl := flat_len (z := esz (Enc.k T)) zs (fun v hv => (g1.ok v hv).1)
      have hxr' := hxr
      simp only [Rel] at hxr
      obtain ⟨hq1, hxe⟩ := hxr
      by_cases hfit : xs.length + ys.length ≤ cap
      · have hly := flat_len (z := esz (Enc.k T)) ys (fun v hv => (hys.ok v hv).1)
        have hcap : (cap - xs.length) * esz (Enc.k T) = cap * esz (Enc.k T) - xs.length * esz (Enc.k T) := Nat.sub_mul _ _ _
        have hle2 : (xs.length + ys.length) * esz (Enc.k T) ≤ cap * esz (Enc.k T) := Nat.mul_le_mul_right _ hfit
        rw [Nat.add_mul] at hle2
        have hspl : splice (mcells zs sp) (0 + xs.length * esz (Enc.k T)) (ys.flatMap AV.cells) = mcells (zs ++ ys) (sp.drop (ys.length * esz (Enc.k T))) := by
          unfold splice mcells
          rw [Nat.zero_add, ← g1.len, ← hl, List.take_left, List.flatMap_append, hly]
          congr 1
          rw [List.drop_append, List.drop_of_length_le (by omega)]
          simp
        refine hdet (v := .hs (Enc.k T) q 0 (xs.length + ys.length) cap) (s' := s.put q (.cells (mcells (zs ++ ys) (sp.drop (ys.length * esz (Enc.k T)))))) (en := .cells q (mcells (zs ++ ys) (sp.drop (ys.length * esz (Enc.k T))))) ?_ (.inl ⟨q, cap, zs ++ ys, _, by rw [List.length_append, hyl], rfl, g1.append hys, ?_, ?_, fun y hy => g4 y (List.mem_of_mem_drop hy)⟩) (Hp.put hs rfl rfl)
        · unfold aAppend
          simp only [h0, h1, hu, hu', he.sh, hi, hz, hsrc, Option.bind_eq_bind, Option.bind_some, if_neg hye, ne_eq, not_true_eq_false, if_false]
          rw [if_neg (by simp [hz1]), if_neg (by omega), if_pos hfit]
          unfold aStoreAt
          rw [hg]
          simp only []
          rw [if_pos ⟨by simp only [mcells, List.length_append, hl, hly, g2, Nat.zero_add]; rw [← g1.len] at *; omega, by
            rw [List.all_eq_true]; intro y hy
            obtain ⟨v, hv, hy⟩ := List.mem_flatMap.1 hy
            exact (hys.ok v hv).2.1 y hy⟩, hspl]
          rfl
        · rw [List.length_drop, g2, List.length_append, ← hyl, hcap, Nat.sub_mul, Nat.add_mul]; omega
        · rw [List.length_append, ← hyl]; exact hfit
      · obtain ⟨A0, cap', cs, e0, k1, k2⟩ := elems_rel hsim hxr' hel
        rw [hxe] at e0
        injection e0 with e0 e1 e2
        subst e2
        refine hgrow (some A0) cap zs cs (by rw [hxe, e0, g1.len]) g1 k1 (fun w' e => ?_) (by rw [g1.len]; omega) hne hs.tail
        have hr := run_loadCells_list (P := P) w' A0 cs (fun j u hj => by
          have := k2 j u hj
          unfold World.cell? at this ⊢; rw [e]; exact this)
        rw [k1.length] at hr
        simpa [Builtin.firstCells] using hr
    · rcases hi0 with ⟨rfl | ⟨zb, rfl⟩, _⟩ | ⟨zs, c, rfl, hz0⟩
      · simp only [Rel] at hxr
        exact hgrow none 0 [] [] hxr trivial (by simp [RelC]) (fun w' _ => by simp [Builtin.firstCells]) (by simpa using hpos) hne hs.tail
      · simp only [Rel] at hxr
        obtain ⟨a0, cap, hxe, _, hcap⟩ := hxr
        have hzb : zb = true := by cases zb <;> simp [canOwn] at hc ⊢
        have hc0 := hcap hzb
        subst hc0
        exact hgrow a0 0 [] [] hxe trivial (by simp [RelC]) (fun w' _ => by cases a0 <;> simp [Builtin.firstCells, loadCells, loadCellsFrom]) (by simpa using hpos) hne hs.tail
      · have hzs : zs = [] := List.eq_nil_of_length_eq_zero (by simpa using hz0.len)
        subst hzs
        have hct : c = .tight := by cases c <;> simp [canOwn, noTok] at hc hn ⊢
        subst hct
        simp only [Rel] at hxr
        obtain ⟨a0, cap, cs, hxe, _, hcs, _, hcap⟩ := hxr
        simp only [CapOk] at hcap
        simp only [RelC] at hcs
        subst hcs
        exact hgrow (some a0) cap [] [] hxe trivial (by simp [RelC]) (fun w' _ => by simp [Builtin.firstCells, loadCells, loadCellsFrom]) (by rw [hcap]; simpa using hpos) hne hs.tail
end
end Go.Ai
end
section
/- More steps over rows that are written into, as the printed proofs take them. -/
set_option linter.unusedVariables false
set_option linter.unusedSimpArgs false
open Go.Ai.Enc (enc is)
open Go.Ai.Res (res ris)
open Go.Ai.Args (args)
namespace Go.Ai
def mkz {α : Type} (by_ : Nat) (i : Int) (z : α) : Option (List α) := if 0 ≤ i ∧ roomy i.toNat by_ = true then some (List.replicate i.toNat z) else none
def mkzc {α : Type} (by_ : Nat) (i j : Int) (z : α) : Option (List α) := if 0 ≤ i ∧ i ≤ j ∧ roomy j.toNat by_ = true then some (List.replicate i.toNat z) else none
theorem mkz_some {α : Type} {by_ : Nat} {i : Int} {z : α} {r : List α} (h : mkz by_ i z = some r) : 0 ≤ i ∧ roomy i.toNat by_ = true ∧ r = List.replicate i.toNat z := by
  unfold mkz at h
  split at h
  · rename_i h0; injection h with h; exact ⟨h0.1, h0.2, h.symm⟩
  · cases h
theorem mkzc_some {α : Type} {by_ : Nat} {i j : Int} {z : α} {r : List α} (h : mkzc by_ i j z = some r) : (0 ≤ i ∧ i ≤ j) ∧ roomy j.toNat by_ = true ∧ r = List.replicate i.toNat z := by
  unfold mkzc at h
  split at h
  · rename_i h0; injection h with h; exact ⟨⟨h0.1, h0.2.1⟩, h0.2.2, h.symm⟩
  · cases h
theorem nth_lt {α : Type} {l : List α} {i : Int} {a : α} (h : nth l i = some a) : i.toNat < l.length := by
  obtain ⟨h0, h1, _⟩ := nth_some h; omega
section
variable {P : Program} {prims : Prims} {n : Nat} {b : Bool} {K : Fm → St → Prop} {φ : Fm} {s : St} {ops : Array Oper} {l : List Oper} {d : Tmp} {ty t t' e : TypeId} {pos : String} {af : Array Edge} {x y z : Operand} {u v w : AV}
variable {T : Type} [Enc T]
theorem isM.ap {x : AV} {en : En} {xs : List T} (h : isM x en xs) : isO x en xs ∨ (xs = [] ∧ is x ([] : List T) ∧ canOwn x = true ∧ noTok x = true ∧ en = .own .nils) := h
theorem TO_mk_z {k1 k2 : IntKind} {i : Int} {by_ : Nat} {zv : T} {r : List T} (hu : P.underlying t = some (.slice e)) (he : EF P e (Enc.k T) by_) (hz : ∃ a, zeroT P e = some a ∧ is a zv) (hx : fEval n φ x = some (.int k1 i)) (hy : fEval n φ y = some (.int k2 i)) (hr : mkz by_ i zv = some r)
    (k : ∀ z s', is z r → (∀ es, Hp s es → Hp s' es) → TO P prims n false ops l K (upd φ d z) s') : TO P prims n false ops (⟨some d, .makeSlice t x y, ty, pos, af, none⟩ :: l) K φ s := by
  obtain ⟨h0, h1, rfl⟩ := mkz_some hr
  exact TO_mk hu he hz hx hy h0 h1 k
theorem TO_mkm_z {k1 k2 : IntKind} {i : Int} {by_ : Nat} {zv : T} {r : List T} {es : List En} (hu : P.underlying t = some (.slice e)) (he : EF P e (Enc.k T) by_) (hz : ∃ a, zeroT P e = some a ∧ is a zv) (hx : fEval n φ x = some (.int k1 i)) (hy : fEval n φ y = some (.int k2 i)) (hr : mkz by_ i zv = some r) (hs : Hp s es)
    (k : ∀ z en s', isM z en r → Hp s' (en :: es) → TO P prims n b ops l K (upd φ d z) s') : TO P prims n b ops (⟨some d, .makeSlice t x y, ty, pos, af, none⟩ :: l) K φ s := by
  obtain ⟨h0, h1, rfl⟩ := mkz_some hr
  exact TO_mkm hu he hz hx hy ⟨h0, Int.le_refl _⟩ h1 hs k
theorem TO_mkm_zc {k1 k2 : IntKind} {i j : Int} {by_ : Nat} {zv : T} {r : List T} {es : List En} (hu : P.underlying t = some (.slice e)) (he : EF P e (Enc.k T) by_) (hz : ∃ a, zeroT P e = some a ∧ is a zv) (hx : fEval n φ x = some (.int k1 i)) (hy : fEval n φ y = some (.int k2 j)) (hr : mkzc by_ i j zv = some r) (hs : Hp s es)
    (k : ∀ z en s', isM z en r → Hp s' (en :: es) → TO P prims n b ops l K (upd φ d z) s') : TO P prims n b ops (⟨some d, .makeSlice t x y, ty, pos, af, none⟩ :: l) K φ s := by
  obtain ⟨h0, h1, rfl⟩ := mkzc_some hr
  exact TO_mkm hu he hz hx hy h0 h1 hs k
theorem TO_lnm {en : En} {xs : List T} {ts : Array TypeId} (hu : P.underlying t = some (.slice e)) (ht : ts[0]? = some t) (hx : fEval n φ x = some u) (h : isM u en xs) (k : TO P prims n b ops l K (upd φ d (enc (xs.length : Int))) s) : TO P prims n b ops (⟨some d, .call ⟨.builtin .len, #[x], ts⟩, ty, pos, af, none⟩ :: l) K φ s := by
  rcases h with ⟨m, cap, ys, sp, rfl, _⟩ | ⟨rfl, h, _⟩
  · exact TO_op rfl rfl (fun _ => op_len (fEval_eq hx) ht (by simp [aLen, hu, enc])) k
  · exact TO_ln hu ht hx h k
/-- An element is read. -/
theorem TO_ldm {en : En} {es : List En} {xs : List T} {i : Int} {a : T} {m0 : AV} (hk : Enc.k T = 0) (hg : aggT P t = some false) (hx : fEval n φ x = some u) (hp : MPtr u en i.toNat T) (h : isM m0 en xs) (ha : nth xs i = some a) (hs : Hp s (en :: es))
    (k : ∀ v, is v a → TO P prims n b ops l K (upd φ d v) s) : TO P prims n b ops (⟨some d, .load t x, ty, pos, af, none⟩ :: l) K φ s := by
  obtain ⟨h0, h1, h2⟩ := nth_some ha
  rcases h with ⟨m, cap, ys, sp, rfl, rfl, g1, g2, g3, g4⟩ | ⟨rfl, _⟩
  · obtain ⟨m', cs, e1, rfl⟩ := hp
    injection e1 with e1 e2; subst e1; subst e2
    obtain ⟨w, hw, hw2⟩ := g1.get h2
    have hgt : hget s.h m = some (.cells (mcells ys sp)) := hs.get rfl
    refine TO_op rfl rfl (fun _ => op_load (fEval_eq hx) (v := w) ?_) (k w hw2)
    have e1 : esz (Enc.k T) = 1 := by rw [hk]; rfl
    have hcells : ∀ (ys : List AV), (∀ v ∈ ys, okElem (Enc.k T) v) → ys.flatMap AV.cells = ys := by
      intro ys
      induction ys with
      | nil => intro _; rfl
      | cons y ys ih =>
        intro hy
        have h4 := (hy y (by simp)).2.2.1 hk
        have hc : y.cells = [y] := by cases y <;> first | rfl | simp [AV.one] at h4
        rw [List.flatMap_cons, hc, ih (fun v hv => hy v (by simp [hv]))]; rfl
    simp only [aLoad, hgt, aPart, hg, Option.bind_eq_bind, Option.bind_some, Bool.false_eq_true, if_false, e1, Nat.mul_one]
    rw [mcells, hcells ys g1.ok, List.getElem?_append_left (List.getElem?_eq_some_iff.1 hw).1]
    exact hw
  · simp at h1; omega
end
end Go.Ai
end
section
/- Bytes that a caller hands in, as values with types. -/
set_option linter.unusedVariables false
set_option linter.unusedSimpArgs false
open Go.Ai.Enc (enc is)
open Go.Ai.Res (res ris)
open Go.Ai.Args (args)
namespace Go.Ai
theorem wf_u8' {n : Int} (h : (Lit.int .u8 n).wf = true) : 0 ≤ n ∧ n < 256 := by
  rw [Lit.wf_int_iff] at h
  simp [IntKind.min, IntKind.max, IntKind.bits, IntKind.signed] at h; omega
theorem u8_back {n : Int} (h : (Lit.int .u8 n).wf = true) : (enc (UInt8.ofNat n.toNat) : AV) = .int .u8 n := by
  have h := wf_u8' h
  show AV.int .u8 ((UInt8.ofNat n.toNat).toNat : Int) = _
  congr 1
  have : (UInt8.ofNat n.toNat).toNat = n.toNat := by rw [UInt8.toNat_ofNat']; exact Nat.mod_eq_of_lt (by omega)
  rw [this]; omega
theorem u8_given {n : Int} (h : (Lit.int .u8 n).wf = true) : ∃ x : UInt8, (enc x : AV) = .int .u8 n := ⟨_, u8_back h⟩
theorem i64_given (n : Int) : ∃ x : Int, (enc x : AV) = .int .i64 n := ⟨n, rfl⟩
theorem bool_given (n : Bool) : ∃ x : Bool, (enc x : AV) = .bool n := ⟨n, rfl⟩
theorem bytes_enc : ∀ (l : List Int), (∀ n ∈ l, (Lit.int .u8 n).wf = true) → (l.map fun n => UInt8.ofNat n.toNat).map (enc : UInt8 → AV) = l.map (.int .u8)
  | [], _ => rfl
  | n :: l, h => by
    rw [List.map_cons, List.map_cons, List.map_cons, bytes_enc l (fun m hm => h m (List.mem_cons_of_mem _ hm)), u8_back (h n List.mem_cons_self)]
theorem bytes_given_nil {W : World} : ∃ l : List UInt8, Rel W ρ0 noReg 0 (enc l) (.slice none 0 0) :=
  ⟨[], by show Rel _ _ _ _ (.emp false) _; simp only [Rel]; exact ⟨none, 0, rfl, fun _ => rfl, fun _ => rfl⟩⟩
theorem bytes_given_cells {W : World} {x : Addr} {len cap : Nat} {zs : List Int} (hl : len ≤ cap) (hm : cap ≤ maxLen) (hz : zs.length = cap) (hcell : ∀ i, i < zs.length → W.cell? (x.add i) = some (.int .u8 (zs.getD i 0))) (hwz : ∀ n ∈ zs, (Lit.int .u8 n).wf = true) :
    ∃ l : List UInt8, Rel W ρ0 noReg 0 (enc l) (.slice (some x) len cap) := by
  obtain ⟨y, l, ⟨h1, hw⟩, h2⟩ := IntRow.of_cells (k := .u8) hl hz hcell hwz
  refine ⟨l.map fun n => UInt8.ofNat n.toNat, ?_⟩
  rcases h1 with ⟨rfl | ⟨z, rfl⟩, rfl⟩ | ⟨c, rfl⟩
  · simp [Rel] at h2
  · show Rel _ _ _ _ (.emp false) _
    simp only [Rel] at h2 ⊢
    obtain ⟨a, cap', e, _⟩ := h2
    injection e with e1 e2 e3
    exact ⟨some x, cap, by rw [e2] <;> rfl, fun e => (by cases e), fun e => (by cases e)⟩
  · cases l with
    | nil =>
      show Rel _ _ _ _ (.emp false) _
      simp only [Rel] at h2 ⊢
      obtain ⟨a, cap', cs, e, _⟩ := h2
      injection e with e1 e2 e3
      exact ⟨some x, cap, by rw [e2] <;> rfl, fun e => (by cases e), fun e => (by cases e)⟩
    | cons n l =>
      have e : (enc ((n :: l).map fun n => UInt8.ofNat n.toNat) : AV) = .vec 0 ((n :: l).map (.int .u8)) .unk := by
        rw [← bytes_enc (n :: l) hw]; rfl
      rw [e]
      simp only [Rel] at h2 ⊢
      obtain ⟨a, cap', cs, q1, q2, q3, q4, q5⟩ := h2
      exact ⟨a, cap', cs, q1, q2, q3, q4, by simp [CapOk]⟩
end Go.Ai
end
section
/- Ranges over texts, texts of runes. -/
set_option linter.unusedVariables false
set_option linter.unusedSimpArgs false
open Go.Ai.Enc (enc is)
open Go.Ai.Res (res ris)
open Go.Ai.Args (args)
namespace Go.Ai
/-- The rune at a place, and how many bytes it has. -/
def runeAt (l : Str) (p : Nat) : Rune := ⟨(Utf8.decode ⟨List.toArray (show List UInt8 from l)⟩ p).1⟩
def runeLen (l : Str) (p : Nat) : Nat := (Utf8.decode ⟨List.toArray (show List UInt8 from l)⟩ p).2
abbrev str (l : List UInt8) : Str := l
def subT (l : Str) (a b : Int) : Option Str := sub (α := UInt8) l a b
def catT (a b : Str) : Option Str := catS a b
def encR (r : Rune) : Str := (Utf8.encode r.v).data.toList
section
variable {P : Program} {prims : Prims} {n : Nat} {b : Bool} {K : Fm → St → Prop} {φ : Fm} {s : St} {ops : Array Oper} {l : List Oper} {d : Tmp} {x : Operand} {t ty : TypeId} {pos : String} {af : Array Edge} {es : List En}
theorem TO_rg {st : Str} (hu : P.underlying t = some .string) (hx : fEval n φ x = some (enc st)) (hs : Hp s es)
    (k : ∀ m s', Hp s' (.it m st 0 :: es) → TO P prims n b ops l K (upd φ d (.ptr m 0)) s') : TO P prims n b ops (⟨some d, .range t x, ty, pos, af, none⟩ :: l) K φ s := by
  refine TO_op rfl rfl (v := .ptr s.c 0) (s' := s.new (.siter st 0)) (fun _ => ?_) (k s.c _ (hs.new _ _ rfl))
  simp only [aOp, fEval_eq hx, hu, Option.bind_eq_bind, Option.bind_some]; rfl
theorem TO_nx_t {st : Str} {m p : Nat} (hx : fEval n φ x = some (.ptr m 0)) (hs : Hp s (.it m st p :: es)) (h : p < List.length st)
    (k : ∀ s', Hp s' (.it m st (p + runeLen st p) :: es) → TO P prims n b ops l K (upd φ d (.tup [enc true, enc ((p : Nat) : Int), enc (runeAt st p)])) s') : TO P prims n b ops (⟨some d, .next x true, ty, pos, af, none⟩ :: l) K φ s := by
  have hg := (hs.2.1 (m, .siter st p) (by simp [entsOf, En.ents])).2
  refine TO_op rfl rfl (fun _ => ?_) (k (s.put m (.siter st (p + runeLen st p))) (hs.put rfl rfl))
  simp only [aOp, fEval_eq hx, Option.bind_eq_bind, Option.bind_some, aNext, hg, if_pos h]; rfl
theorem TO_nx_f {st : Str} {m p : Nat} (hx : fEval n φ x = some (.ptr m 0)) (hs : Hp s (.it m st p :: es)) (h : ¬ p < List.length st)
    (k : TO P prims n b ops l K (upd φ d (.tup [enc false])) s) : TO P prims n b ops (⟨some d, .next x true, ty, pos, af, none⟩ :: l) K φ s := by
  have hg := (hs.2.1 (m, .siter st p) (by simp [entsOf, En.ents])).2
  refine TO_op rfl rfl (fun _ => ?_) k
  simp only [aOp, fEval_eq hx, Option.bind_eq_bind, Option.bind_some, aNext, hg, if_neg h]; rfl
theorem TO_cvRS {src dst : TypeId} {r : Rune} {d0 : IntKind} (h1 : P.underlying src = some (.int d0)) (h2 : P.underlying dst = some .string) (hx : fEval n φ x = some (enc r)) (k : TO P prims n b ops l K (upd φ d (enc (encR r))) s) : TO P prims n b ops (⟨some d, .convert src dst x, ty, pos, af, none⟩ :: l) K φ s := by
  refine TO_op rfl rfl (fun _ => ?_) k
  simp only [aOp, fEval_eq hx, Option.bind_eq_bind, Option.bind_some]
  show aConvert P src dst (.int .i32 r.v) s = _
  simp only [aConvert, h1, h2]; rfl
end
end Go.Ai
end
section
/- Contracts that read package variables. -/
set_option linter.unusedVariables false
set_option linter.unusedSimpArgs false
open Go.Ai.Enc (enc is)
open Go.Ai.Res (res ris)
open Go.Ai.Args (args)
namespace Go.Ai
section
variable {P : Program} {prims : Prims} {n : Nat} {b : Bool} {K : Fm → St → Prop} {φ : Fm} {s : St} {ops : Array Oper} {l : List Oper} {d : Tmp} {x y : Operand} {t ty e : TypeId} {pos : String} {af : Array Edge} {es : List En}
theorem mf_callsG {g : FuncId} (hp : PrimsOk P prims) {as : List AV} {R : Type} [Res R] {r : R} {G : Glob} (h : MF P prims g as (sG G) fun v _ => ris v r) {w : World} {U : Reg} {vs : List Value} (hU : ∀ b j, U b j → b < w.heap.size) (hG : GlobOk w ρ0 U 0 G) (hr : RelL w ρ0 U 0 as vs) :
    Calls P g vs.toArray w fun e w' => ∃ v', e = .returned v' ∧ Rel w' ρ0 U 0 (res r) v' ∧ RowKit.Below w.heap.size w w' := by
  have hUX : ∀ b j, UX ρ0 (sG G).h U b j → U b j := by
    rintro b j (⟨n, o, hn, _⟩ | hx)
    · simp [sG, hget] at hn
    · exact hx
  have hr' : RelL w ρ0 (UX ρ0 (sG G).h U) (sG G).c as vs := RelL.mono ⟨Nat.le_refl _, fun _ _ => rfl, fun a u hu _ => hu, fun a ha => ha, fun b j _ hj => hUX b j hj⟩ _ _ hr
  refine (h hp w.heap.size ρ0 U w vs (Nat.le_refl _) (simG hU hG) hr').mono fun e w' he => ?_
  obtain ⟨v', rfl, v, s', hv, ρ', g1, g2, g3, g4, g5, g6⟩ := he
  refine ⟨v', rfl, out_rel (fun b j hj => .inr hj) (Res.out hv) g4, ⟨g5.os, g5.tape, g5.output, g5.size, fun k hk => g5.blk k hk ?_⟩⟩
  rintro j ⟨m, o, hm, _⟩
  simp [sG, hget] at hm
open Classical in
/-- A contract of a function that reads package variables. -/
noncomputable def FnG {A R : Type} [Args A] [Res R] (G0 : Glob) (f : A → Option R) : Glob → List AV → Option AV := fun G xs => if G = G0 then Fn f xs else none
theorem FnG_some {A R : Type} [Args A] [Res R] {G0 G : Glob} {f : A → Option R} {xs : List AV} {v : AV} (h : FnG G0 f G xs = some v) : G = G0 ∧ ∃ a r, xs = args a ∧ f a = some r ∧ v = res r := by
  unfold FnG at h
  split at h
  · exact ⟨by assumption, Fn_some h⟩
  · cases h
theorem FnG_at {A R : Type} [Args A] [Res R] {G0 : Glob} {f : A → Option R} {a : A} {r : R} (h : f a = some r) : FnG G0 f G0 (args a) = some (res r) := by
  unfold FnG; rw [if_pos rfl]; exact Fn_at h
theorem fnCG {G0 : Glob} {g : FuncId} (hp : PrimsOk P prims) (he : ∃ fn, P.funcs[g]? = some fn ∧ enters fn = true) {A R : Type} [Args A] [Res R] {f : A → Option R}
    (h : ∀ a r, f a = some r → MF P prims g (args a) (sG G0) fun v _ => ris v r) : PureC P g (FnG G0 f) :=
  ⟨he, fun G xs v hv w U vs hU hG hr => by
    obtain ⟨rfl, a, r, rfl, h1, rfl⟩ := FnG_some hv
    exact mf_callsG hp (h a r h1) hU hG hr⟩
theorem TO_fnG {g : FuncId} {fn : Func} {as : Array Operand} {ts : Array TypeId} {A R : Type} [Args A] [Res R] {G0 : Glob} {f : A → Option R} {a : A} {r : R} {vs : List AV} (hp : prims g = some (FnG G0 f)) (hf : P.funcs[g]? = some fn) (hn : enters fn = true)
    (ha : fEvals n φ as.toList = some vs) (hv : Vs vs (args a)) (hs : Hp s es) (hg : En.gl G0 ∈ es) (hr : f a = some r) (k : TO P prims n b ops l K (upd φ d (res r)) s) : TO P prims n b ops (⟨some d, .call ⟨.value (.func g), as, ts⟩, ty, pos, af, none⟩ :: l) K φ s := by
  refine TO_pr hp hf hn ha hv ?_ k
  rw [hs.glob hg]; exact FnG_at hr
end
section
theorem relC_enc' {T : Type} [Enc T] (hk : Enc.k T = 0) {w : World} {ρ : Pl} {U : Reg} {c : Nat} : ∀ {l : List T} {cs : List Value}, RelC w ρ U c 0 (l.map enc) cs → cs.length = l.length ∧ ∀ (i : Nat) (a : T) (v : Value), l[i]? = some a → cs[i]? = some v → Rel w ρ U c (enc a) v
  | [], cs, h => by simp only [List.map_nil, RelC] at h; subst h; simp
  | a :: l, cs, h => by
    simp only [List.map_cons, RelC] at h
    obtain ⟨v, us, rfl, h1, h2, h3⟩ := h
    obtain ⟨g1, g2⟩ := relC_enc' hk h3
    have hv : v.cells.toList = [v] := by
      have h5 := h2.one (h1.2.2.1 rfl)
      cases v <;> first | rfl | (simp [Value.oneCell'] at h5; done)
    rw [hv]
    refine ⟨by simp [g1], fun i b u hb hu => ?_⟩
    cases i with
    | zero => simp at hb hu; subst hb; subst hu; exact h2
    | succ i => simp only [List.getElem?_cons_succ, List.singleton_append] at hb hu; exact g2 i b u hb hu
end
end Go.Ai
end
