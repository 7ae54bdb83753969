/- More steps: literals of slices, least numbers, made slices. -/
import Derived.Test.YtdfkffmddgffkaaAi19
set_option linter.unusedVariables false
set_option linter.unusedSimpArgs false
namespace Go.Ai
section
variable {P : Program} {t t' e : TypeId} {k k' : IntKind} {x a : AV} {l m : List Int} {s : St} {call : FuncId → List AV → St → Option (AV × St)} {dst : Option Tmp} {type : TypeId} {pos : String} {after : Array Edge} {guard : Option (Nat × Bool)} {fr : List AV} {ts : Array TypeId}
theorem op_min {y z : Operand} {a b : Int} (hy : aEval fr y = some (.int k a)) (hz : aEval fr z = some (.int k' b)) : aOp P call ⟨dst, .call ⟨.builtin .min, #[y, z], ts⟩, type, pos, after, guard⟩ fr s = some (.int k (if b < a then b else a), s) := by
  simp [aOp, aEvals, hy, hz, aBuiltin]
theorem op_max {y z : Operand} {a b : Int} (hy : aEval fr y = some (.int k a)) (hz : aEval fr z = some (.int k' b)) : aOp P call ⟨dst, .call ⟨.builtin .max, #[y, z], ts⟩, type, pos, after, guard⟩ fr s = some (.int k (if b > a then b else a), s) := by
  simp [aOp, aEvals, hy, hz, aBuiltin]
/-- A literal of one element. -/
theorem build1 {n : Int} {i : TypeInfo} (hu : P.underlying t = some (.slice e)) (hs : shapeT P e = some 0) (hi : P.info? e = some i) (hz : zeroT P e = some (.int k 0)) (hsz : i.size = 1) : aBuildSlice P t 1 [(0, .int k n)] = some (.vec 0 [.int k n] .tight) := by
  simp [aBuildSlice, hu, hs, hi, hz, hsz, esz, aFill, splice, AV.cells, AV.one, chunk]
theorem op_build1 {n : Int} {z : Operand} (hy : aEval fr z = some (.int k n)) (hv : aBuildSlice P t 1 [(0, .int k n)] = some x) : aOp P call ⟨dst, .buildSlice t 1 #[(0, z)], type, pos, after, guard⟩ fr s = some (x, s) := by
  simp [aOp, hy, hv]
theorem row_one {n : Int} (h : (Lit.int k n).wf = true) (c : Cap) : IntRow k (.vec 0 [.int k n] c) [n] := ⟨.inr ⟨c, rfl⟩, fun q hq => by simp at hq; subst hq; exact h⟩
/-- A fresh slice of noughts, as long as it is roomy. -/
theorem make_row {n : Nat} {i : TypeInfo} (hu : P.underlying t = some (.slice e)) (hs : shapeT P e = some 0) (hi : P.info? e = some i) (hz : zeroT P e = some (.int k 0)) (hsz : i.size = 1) (hr : roomy n i.bytes = true) :
    aMakeSlice P t (.int k' n) (.int k' n) s = some (.hs 0 s.c 0 n n, s.new (.cells (List.replicate n (.int k 0)))) := by
  have e : (List.replicate n [AV.int k 0]).flatten = List.replicate n (AV.int k 0) := by
    induction n with
    | zero => rfl
    | succ n ih => simp [List.replicate_succ]
  simp [aMakeSlice, hu, hi, hs, hz, aInt, hr, AV.cells, AV.one, esz, hsz]
theorem chunk_cells : ∀ (cs : List AV) (n : Nat), n ≤ cs.length → chunk 0 cs n = cs.take n
  | _, 0, _ => by simp [chunk]
  | [], n + 1, h => by simp at h
  | c :: cs, n + 1, h => by
    simp only [List.length_cons] at h
    simp [chunk, esz, chunk_cells cs n (by omega)]
theorem elems_hs {n len cap : Nat} {cs : List AV} (hg : hget s.h n = some (.cells cs)) (hl : len ≤ cs.length) : elems (.hs 0 n 0 len cap) s = some (0, cs.take len) := by
  simp [elems, hg, esz, hl, chunk_cells cs len hl]
/-- A full slice of a fresh block, grown. -/
theorem hs_append {n : Nat} {l : List Int} (hg : hget s.h n = some (.cells (l.map (.int k)))) (hwl : ∀ q ∈ l, (Lit.int k q).wf = true) (hx : IntRow k x m) {i : TypeInfo} {z : AV} (h0 : ts[0]? = some t) (h1 : ts[1]? = some t') (hu : P.underlying t = some (.slice e)) (hu' : P.underlying t' = some (.slice e))
    (hs : shapeT P e = some 0) (hi : P.info? e = some i) (hz : zeroT P e = some z) (hzl : z.cells.length = 1) (hr : roomy (l.length + m.length) i.bytes = true) (hm : m ≠ []) :
    aAppend P ts (.hs 0 n 0 l.length l.length) x s = some (.vec 0 ((l ++ m).map (.int k)) (.tok s.c), s.new .tok) := by
  have hsrc := row_source (s := s) hx
  have hzl' : ¬ z.cells.length ≠ esz 0 := by rw [hzl]; simp [esz]
  obtain ⟨q, m', rfl⟩ : ∃ q m', m = q :: m' := by cases m with
    | nil => exact absurd rfl hm
    | cons q m' => exact ⟨q, m', rfl⟩
  have hel := elems_hs (s := s) (n := n) (len := l.length) (cap := l.length) hg (by simp)
  have hel' : elems (.hs 0 n 0 l.length l.length) s = some (0, l.map (.int k)) := by rw [hel, List.take_of_length_le (by simp)]
  unfold aAppend
  simp only [h0, h1, hu, hu', hs, hi, hz, hsrc, Option.bind_eq_bind, Option.bind_some, if_neg hzl', ne_eq, not_true_eq_false, if_false, Nat.lt_irrefl, List.map_cons, List.isEmpty_cons, Bool.false_eq_true, List.length_cons, List.length_map, hel']
  rw [if_neg (by omega)]
  simp only [Option.bind_some, aGrow]
  rw [if_pos (by simpa using hr)]
  simp
theorem op_make {y z : Operand} {a b v : AV} {s' : St} (hy : aEval fr y = some a) (hz : aEval fr z = some b) (hv : aMakeSlice P t a b s = some (v, s')) : aOp P call ⟨dst, .makeSlice t y z, type, pos, after, guard⟩ fr s = some (v, s') := by
  simp [aOp, hy, hz, hv]
end
end Go.Ai
namespace Go.Ai
theorem IntRow.given_nil {k : IntKind} {W : World} : ∃ (x : AV) (l : List Int), IntRow k x l ∧ l.length ≤ 9223372036854775807 ∧ Rel W ρ0 noReg 0 x (.slice none 0 0) := by
  obtain ⟨x, l, h1, h2⟩ := IntRow.of_nil (k := k) (W := W)
  refine ⟨.nils, [], ⟨.inl ⟨.inl rfl, rfl⟩, by simp⟩, by simp, by simp [Rel]⟩
theorem IntRow.given_cells {k : IntKind} {W : World} {x : Addr} {len cap : Nat} {zs : List Int} (hl : len ≤ cap) (hm : cap ≤ maxLen) (hz : zs.length = cap) (hcell : ∀ i, i < zs.length → W.cell? (x.add i) = some (.int k (zs.getD i 0))) (hwz : ∀ n ∈ zs, (Lit.int k n).wf = true) :
    ∃ (y : AV) (l : List Int), IntRow k y l ∧ l.length ≤ 9223372036854775807 ∧ Rel W ρ0 noReg 0 y (.slice (some x) len cap) := by
  obtain ⟨y, l, h1, h2⟩ := IntRow.of_cells hl hz hcell hwz
  refine ⟨y, l, h1, ?_, h2⟩
  have hlen : l.length = len := by
    obtain ⟨⟨rfl | ⟨z, rfl⟩, rfl⟩ | ⟨c, rfl⟩, _⟩ := h1
    · simp [Rel] at h2
    · simp only [Rel] at h2
      obtain ⟨a, cap', e, _⟩ := h2
      injection e with e1 e2 e3
      simpa using e2.symm
    · simp only [Rel] at h2
      obtain ⟨a, cap', cs, e, _⟩ := h2
      injection e with e1 e2 e3
      simpa using e2.symm
  have : maxLen = 9223372036854775807 := by decide
  omega
end Go.Ai
