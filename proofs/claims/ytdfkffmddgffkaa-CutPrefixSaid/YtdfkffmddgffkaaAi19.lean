/- From a law's arguments, as a row reads them, to values of the interpreter. -/
import Derived.Test.YtdfkffmddgffkaaAi18
set_option linter.unusedVariables false
set_option linter.unusedSimpArgs false
namespace Go.Ai
variable {w : World} {ρ : Pl} {U : Reg} {c : Nat}
theorem relL_nil : RelL w ρ U c [] [] := by simp [RelL]
theorem relL_cons {x : AV} {xs : List AV} {v : Value} {vs : List Value} (h : Rel w ρ U c x v) (k : RelL w ρ U c xs vs) : RelL w ρ U c (x :: xs) (v :: vs) := by
  simp only [RelL]; exact ⟨v, vs, rfl, h, k⟩
theorem rel_int {k : IntKind} {n : Int} : Rel w ρ U c (.int k n) (.int k n) := by simp [Rel]
theorem rel_bool {b : Bool} : Rel w ρ U c (.bool b) (.bool b) := by simp [Rel]
theorem rel_bool_inv {b : Bool} {v : Value} (h : Rel w ρ U c (.bool b) v) : v = .bool b := by simpa [Rel] using h
theorem rel_str {s : ByteArray} : Rel w ρ U c (.str s.data.toList) (.string s) := by simp [Rel]

/-- A slice of whole numbers, as a law gets it. -/
def IntRow (k : IntKind) (x : AV) (l : List Int) : Prop := (((x = .nils ∨ ∃ z, x = .emp z) ∧ l = []) ∨ ∃ c, x = .vec 0 (l.map (.int k)) c) ∧ ∀ n ∈ l, (Lit.int k n).wf = true
theorem IntRow.of_nil {k : IntKind} {W : World} : ∃ (x : AV) (l : List Int), IntRow k x l ∧ Rel W ρ0 noReg 0 x (.slice none 0 0) :=
  ⟨.nils, [], ⟨.inl ⟨.inl rfl, rfl⟩, by simp⟩, by simp [Rel]⟩
theorem relC_row {k : IntKind} : ∀ l : List Int, RelC w ρ U c 0 (l.map (.int k)) (l.map (.int k))
  | [] => by simp [RelC]
  | n :: l => by
    simp only [List.map_cons, RelC]
    exact ⟨.int k n, l.map (.int k), by simp [Value.cells], ⟨by simp [AV.cells, esz], by simp [AV.cells, AV.one], fun _ => rfl, fun h => absurd rfl h⟩, by simp [Rel], relC_row l⟩
theorem IntRow.of_cells {k : IntKind} {W : World} {x : Addr} {len cap : Nat} {zs : List Int} (hl : len ≤ cap) (hz : zs.length = cap) (hcell : ∀ i, i < zs.length → W.cell? (x.add i) = some (.int k (zs.getD i 0))) (hwz : ∀ n ∈ zs, (Lit.int k n).wf = true) :
    ∃ (y : AV) (l : List Int), IntRow k y l ∧ Rel W ρ0 noReg 0 y (.slice (some x) len cap) := by
  refine ⟨.vec 0 ((zs.take len).map (.int k)) .unk, zs.take len, ⟨.inr ⟨.unk, rfl⟩, fun n hn => hwz n (List.mem_of_mem_take hn)⟩, ?_⟩
  simp only [Rel]
  refine ⟨x, cap, (zs.take len).map (.int k), ?_, ?_, relC_row _, ?_, trivial⟩
  · simp [hz, hl]
  · simp [hz]; omega
  · intro j u hj
    rw [List.getElem?_map, Option.map_eq_some_iff] at hj
    obtain ⟨n, hn, rfl⟩ := hj
    have hj' := (List.getElem?_eq_some_iff.1 hn).1
    rw [List.length_take] at hj'
    rw [List.getElem?_take_of_lt (by omega)] at hn
    refine ⟨?_, fun h => h.elim⟩
    rw [hcell j (by omega), List.getD_eq_getElem?_getD, hn]
    rfl
end Go.Ai
namespace Go.Ai
section
variable {P : Program} {t e : TypeId} {k kk : IntKind} {x : AV} {l : List Int} {s : St}
theorem row_len (h : IntRow k x l) (hu : P.underlying t = some (.slice e)) : aLen P t x s = some (.int .i64 l.length) := by
  obtain ⟨⟨rfl | ⟨z, rfl⟩, rfl⟩ | ⟨c, rfl⟩, _⟩ := h <;> simp [aLen, hu]
theorem row_addr (h : IntRow k x l) (hu : P.underlying t = some (.slice e)) (hs : shapeT P e = some 0) {i : Int} (h0 : 0 ≤ i) (h1 : i < l.length) : aIndexAddr P t x (.int kk i) = some (.rptr 0 (l.map (.int k)) i.toNat 0) := by
  obtain ⟨⟨_, rfl⟩ | ⟨c, rfl⟩, _⟩ := h
  · simp at h1; omega
  · simp [aIndexAddr, aInt, hu, hs]; omega
theorem row_load (ha : aggT P e = some false) {i : Nat} (hi : i < l.length) : aLoad P e (.rptr 0 (l.map (.int k)) i 0) s = some (.int k (l.getD i 0)) := by
  simp [aLoad, aPart, ha, hi, AV.cells]
theorem op_len {call : FuncId → List AV → St → Option (AV × St)} {dst : Option Tmp} {type : TypeId} {pos : String} {after : Array Edge} {guard : Option (Nat × Bool)} {fr : List AV} {y : Operand} {ts : Array TypeId} {v : AV} (hy : aEval fr y = some x) (ht : ts[0]? = some t) (hv : aLen P t x s = some v) : aOp P call ⟨dst, .call ⟨.builtin .len, #[y], ts⟩, type, pos, after, guard⟩ fr s = some (v, s) := by
  simp [aOp, aEvals, hy, aBuiltin, ht, hv]
theorem op_addr {call : FuncId → List AV → St → Option (AV × St)} {dst : Option Tmp} {type : TypeId} {pos : String} {after : Array Edge} {guard : Option (Nat × Bool)} {fr : List AV} {y z : Operand} {i v : AV} (hy : aEval fr y = some x) (hz : aEval fr z = some i) (hv : aIndexAddr P t x i = some v) : aOp P call ⟨dst, .indexAddr t y z, type, pos, after, guard⟩ fr s = some (v, s) := by
  simp [aOp, hy, hz, hv]
theorem op_load {call : FuncId → List AV → St → Option (AV × St)} {dst : Option Tmp} {type : TypeId} {pos : String} {after : Array Edge} {guard : Option (Nat × Bool)} {fr : List AV} {y : Operand} {v : AV} (hy : aEval fr y = some x) (hv : aLoad P t x s = some v) : aOp P call ⟨dst, .load t y, type, pos, after, guard⟩ fr s = some (v, s) := by
  simp [aOp, hy, hv]
end
end Go.Ai
namespace Go.Ai
section
variable {P : Program} {t e : TypeId} {k kk : IntKind} {x : AV} {l : List Int} {s : St}
theorem pureL_ints : ∀ l : List Int, pureL (l.map (.int k)) = true
  | [] => rfl
  | n :: l => by simp [pureL, pureV, pureL_ints l]
theorem strip_ints : ∀ l : List Int, stripL (l.map (.int k)) = l.map (.int k)
  | [] => rfl
  | n :: l => by simp [stripL, stripV, strip_ints l]
theorem view_row (h : IntRow k x l) : ∃ y, view s x = some (y, false) ∧ IntRow k y l := by
  obtain ⟨⟨rfl | ⟨z, rfl⟩, rfl⟩ | ⟨c, rfl⟩, hw⟩ := h
  · exact ⟨.emp false, by simp [view, pureV, stripV], .inl ⟨.inr ⟨_, rfl⟩, rfl⟩, hw⟩
  · exact ⟨.emp false, by simp [view, pureV, stripV], .inl ⟨.inr ⟨_, rfl⟩, rfl⟩, hw⟩
  · cases l with
    | nil => exact ⟨.emp false, by simp [view, pureV, stripV], .inl ⟨.inr ⟨_, rfl⟩, rfl⟩, hw⟩
    | cons n l => exact ⟨.vec 0 ((n :: l).map (.int k)) .unk, by simp only [view, stripV, strip_ints, List.map_cons, List.isEmpty_cons, Bool.false_eq_true, if_false]; rw [← List.map_cons, strip_ints]; simp only [pureV, pureL_ints, Bool.and_self, if_true], .inr ⟨_, rfl⟩, hw⟩
theorem callPrim_row {F : Glob → List AV → Option AV} {r : AV} (h : IntRow k x l) (hF : ∀ y, IntRow k y l → F s.g [y] = some r) : callPrim F [x] s = some (r, s) := by
  obtain ⟨y, h1, h2⟩ := view_row (s := s) h
  simp [callPrim, h1, hF y h2]
/-- The numbers of a row. -/
def rowOf (k : IntKind) : AV → Option (List Int)
  | .nils | .emp _ => some []
  | .vec 0 xs _ => xs.mapM fun | .int k' n => if k' = k ∧ (Lit.int k n).wf = true then some n else none | _ => none
  | _ => none
theorem rowOf_of (h : IntRow k x l) : rowOf k x = some l := by
  obtain ⟨⟨rfl | ⟨z, rfl⟩, rfl⟩ | ⟨c, rfl⟩, hw⟩ := h
  · rfl
  · rfl
  · simp only [rowOf]
    induction l with
    | nil => rfl
    | cons n l ih =>
      have h1 : (Lit.int k n).wf = true := hw n (by simp)
      simp only [List.map_cons, List.mapM_cons, h1, and_self, if_true, Option.bind_eq_bind, Option.bind_some, ih (fun m hm => hw m (by simp [hm])), Option.pure_def]
theorem rowOf_some (h : rowOf k x = some l) : IntRow k x l := by
  unfold rowOf at h
  split at h
  · injection h with h; subst h; exact ⟨.inl ⟨.inl rfl, rfl⟩, by simp⟩
  · injection h with h; subst h; exact ⟨.inl ⟨.inr ⟨_, rfl⟩, rfl⟩, by simp⟩
  · rename_i xs c
    have key : ∀ (xs : List AV) (l : List Int), (xs.mapM fun | AV.int k' n => if k' = k ∧ (Lit.int k n).wf = true then some n else none | _ => none) = some l → xs = l.map (.int k) ∧ ∀ n ∈ l, (Lit.int k n).wf = true := by
      intro xs
      induction xs with
      | nil => intro l h; simp at h; subst h; exact ⟨rfl, by simp⟩
      | cons y ys ih =>
        intro l h
        simp only [List.mapM_cons, Option.bind_eq_bind, Option.bind_eq_some_iff, Option.pure_def] at h
        obtain ⟨n, hn, m, hm, h⟩ := h
        injection h with h; subst h
        obtain ⟨e1, e2⟩ := ih m hm
        split at hn
        · simp only [Option.ite_none_right_eq_some] at hn
          obtain ⟨⟨rfl, hw⟩, hn⟩ := hn
          injection hn with hn; subst hn
          exact ⟨by rw [e1]; rfl, fun q hq => (List.mem_cons.1 hq).elim (fun e => e ▸ hw) (e2 q)⟩
        · cases hn
    obtain ⟨e1, e2⟩ := key xs l h
    exact ⟨.inr ⟨c, by rw [e1]⟩, e2⟩
  · cases h
theorem row_slice (h : IntRow k x l) (hu : P.underlying t = some (.slice e)) (hs : shapeT P e = some 0) {lo hi : Option AV} {a b : Nat} (hb : bnds l.length l.length lo hi none = some (a, b, l.length)) : ∃ y, aSlice P t x lo hi none s = some y ∧ IntRow k y ((l.take b).drop a) := by
  obtain ⟨⟨rfl | ⟨z, rfl⟩, rfl⟩ | ⟨c, rfl⟩, hw⟩ := h
  · refine ⟨.nils, ?_, .inl ⟨.inl rfl, by simp⟩, by simp⟩
    simp only [List.length_nil] at hb
    simp only [aSlice, hu, hb, hs, Option.bind_eq_bind, Option.bind_some]
  · refine ⟨.emp (z || false), ?_, .inl ⟨.inr ⟨_, rfl⟩, by simp⟩, by simp⟩
    simp only [List.length_nil] at hb
    simp only [aSlice, hu, hb, hs, Option.bind_eq_bind, Option.bind_some]
    rfl
  · refine ⟨_, by simp only [aSlice, hu, hs, List.length_map, hb, Option.bind_eq_bind, Option.bind_some, ne_eq, not_true_eq_false, if_false]; rfl, .inr ⟨_, by rw [← List.map_take, ← List.map_drop]⟩, fun n hn => hw n (List.mem_of_mem_take (List.mem_of_mem_drop hn))⟩
end
end Go.Ai
namespace Go.Ai
theorem bnds_hi {k : IntKind} {n : Nat} {h : Int} (h0 : 0 ≤ h) (h1 : h ≤ n) : bnds n n none (some (.int k h)) none = some (0, h.toNat, n) := by
  simp only [bnds, bnd, Option.bind_eq_bind, Option.bind_some, Option.isSome_none, Bool.false_eq_true, false_and, if_false]
  rw [if_pos ⟨h0, h1⟩]; rfl
theorem bnds_lo {k : IntKind} {n : Nat} {a : Int} (h0 : 0 ≤ a) (h1 : a ≤ n) : bnds n n (some (.int k a)) none none = some (a.toNat, n, n) := by
  simp only [bnds, bnd, Option.bind_eq_bind, Option.bind_some, Option.isSome_none, Bool.false_eq_true, false_and, if_false]
  rw [if_pos ⟨h0, h1⟩]; rfl
theorem bnds_lohi {k k' : IntKind} {n : Nat} {a h : Int} (h0 : 0 ≤ a) (h1 : a ≤ h) (h2 : h ≤ n) : bnds n n (some (.int k a)) (some (.int k' h)) none = some (a.toNat, h.toNat, n) := by
  simp only [bnds, bnd, Option.bind_eq_bind, Option.bind_some, Option.isSome_none, Bool.false_eq_true, false_and, if_false]
  rw [if_pos ⟨by omega, h2⟩, Option.bind_some, if_pos ⟨h0, by omega⟩]; rfl
theorem op_slice {P : Program} {call : FuncId → List AV → St → Option (AV × St)} {dst : Option Tmp} {type t : TypeId} {pos : String} {after : Array Edge} {guard : Option (Nat × Bool)} {fr : List AV} {s : St} {y : Operand} {lo hi mx : Option Operand} {x v : AV} {a b c : Option AV} (hy : aEval fr y = some x) (hlo : aEvalO fr lo = some a) (hhi : aEvalO fr hi = some b) (hmx : aEvalO fr mx = some c) (hv : aSlice P t x a b c s = some v) :
    aOp P call ⟨dst, .slice t y lo hi mx, type, pos, after, guard⟩ fr s = some (v, s) := by
  simp only [aOp, hy, hlo, hhi, hmx, hv, Option.bind_eq_bind, Option.bind_some]
end Go.Ai
namespace Go.Ai
section
variable {P : Program} {t t' e : TypeId} {k : IntKind} {x a : AV} {l m : List Int} {s : St}
/-- A slice that the call itself grows: nothing, or a row with room of its own. -/
def OwnRow (k : IntKind) (x : AV) (l : List Int) (s : St) : Prop := ((x = .nils ∧ l = []) ∨ ∃ n, x = .vec 0 (l.map (.int k)) (.tok n) ∧ hget s.h n = some .tok) ∧ ∀ n ∈ l, (Lit.int k n).wf = true
theorem OwnRow.row (h : OwnRow k x l s) : IntRow k x l := ⟨h.1.imp (fun e => ⟨.inl e.1, e.2⟩) fun ⟨n, e, _⟩ => ⟨_, e⟩, h.2⟩
theorem OwnRow.nil : OwnRow k .nils [] s := ⟨.inl ⟨rfl, rfl⟩, by simp⟩
theorem row_source (h : IntRow k x l) : source 0 x s = some (l.map (.int k)) := by
  obtain ⟨⟨rfl | ⟨z, rfl⟩, rfl⟩ | ⟨c, rfl⟩, _⟩ := h
  · rfl
  · rfl
  · simp [source, elems]
theorem own_append (ha : OwnRow k a l s) (hx : IntRow k x m) {ts : Array TypeId} {i : TypeInfo} {z : AV} (h0 : ts[0]? = some t) (h1 : ts[1]? = some t') (hu : P.underlying t = some (.slice e)) (hu' : P.underlying t' = some (.slice e))
    (hs : shapeT P e = some 0) (hi : P.info? e = some i) (hz : zeroT P e = some z) (hzl : z.cells.length = 1) (hr : roomy (l.length + m.length) i.bytes = true) :
    ∃ y s', aAppend P ts a x s = some (y, s') ∧ OwnRow k y (l ++ m) s' := by
  have hsrc := row_source (s := s) hx
  have hw : ∀ n ∈ l ++ m, (Lit.int k n).wf = true := fun n hn => (List.mem_append.1 hn).elim (ha.2 n) (hx.2 n)
  have hzl' : ¬ z.cells.length ≠ esz 0 := by rw [hzl]; simp [esz]
  unfold aAppend
  simp only [h0, h1, hu, hu', hs, hi, hz, hsrc, Option.bind_eq_bind, Option.bind_some, if_neg hzl']
  obtain ⟨⟨rfl, rfl⟩ | ⟨n, rfl, hn⟩, _⟩ := ha
  · cases m with
    | nil => exact ⟨.nils, s, by simp, .inl ⟨rfl, rfl⟩, hw⟩
    | cons q m =>
      refine ⟨_, _, by simp only [List.map_cons, List.isEmpty_cons, Bool.false_eq_true, if_false, aGrow]; rw [if_pos (by simpa using hr)], .inr ⟨s.c, by simp, by simp [St.new, hget]⟩, hw⟩
  · cases m with
    | nil => exact ⟨.vec 0 (l.map (.int k)) (.tok n), s, by simp, .inr ⟨n, by simp, hn⟩, hw⟩
    | cons q m =>
      refine ⟨_, _, by simp only [ne_eq, not_true_eq_false, if_false, List.map_cons, List.isEmpty_cons, Bool.false_eq_true, hn, aGrow]; rw [if_pos (by simpa using hr)], .inr ⟨(s.del n).c, by simp, by simp [St.new, hget]⟩, hw⟩
theorem op_append {call : FuncId → List AV → St → Option (AV × St)} {dst : Option Tmp} {type : TypeId} {pos : String} {after : Array Edge} {guard : Option (Nat × Bool)} {fr : List AV} {y z : Operand} {ts : Array TypeId} {v : AV} {s' : St} (hy : aEval fr y = some a) (hz : aEval fr z = some x) (hv : aAppend P ts a x s = some (v, s')) :
    aOp P call ⟨dst, .call ⟨.builtin .append, #[y, z], ts⟩, type, pos, after, guard⟩ fr s = some (v, s') := by
  simp [aOp, aEvals, hy, hz, aBuiltin, hv]
theorem u8_xor (a b : Nat) (ha : a < 256) (hb : b < 256) : aIntOp .xor .u8 (a : Int) (b : Int) = some (.int .u8 ((a ^^^ b : Nat) : Int)) := by
  have h : a ^^^ b < 2 ^ 8 := Nat.xor_lt_two_pow (by omega) (by omega)
  have e : (BitVec.ofInt 8 (a : Int) ^^^ BitVec.ofInt 8 (b : Int)).toNat = a ^^^ b := by
    rw [BitVec.toNat_xor, BitVec.ofInt_natCast, BitVec.ofInt_natCast, BitVec.toNat_ofNat, BitVec.toNat_ofNat, Nat.mod_eq_of_lt (show a < 2 ^ 8 by omega), Nat.mod_eq_of_lt (show b < 2 ^ 8 by omega)]
  show some (AV.int .u8 (IntKind.u8.wrap ((BitVec.ofInt 8 (a : Int) ^^^ BitVec.ofInt 8 (b : Int)).toNat : Int))) = _
  rw [e, IntWalk.u8_in _ (by omega)]
theorem bin_int {k : IntKind} {op : BinOp} {a b : Int} {cx cy : Bool} {v : AV} (h1 : op ≠ .shl) (h2 : op ≠ .shr) (h : aIntOp op k a b = some v) : aBinOp P op t (.int k a) (.int k b) cx cy = some v := by
  cases op <;> first | (exact absurd rfl h1) | (exact absurd rfl h2) | (simp only [aBinOp, if_true]; exact h)
end
end Go.Ai
