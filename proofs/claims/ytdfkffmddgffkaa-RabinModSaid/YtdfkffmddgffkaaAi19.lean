/- From a law's arguments, as a row reads them, to values of the interpreter. -/
import Derived.Test.YtdfkffmddgffkaaAi18
set_option linter.unusedVariables false
set_option linter.unusedSimpArgs false
namespace Go.Ai
variable {w : World} {ρ : Pl} {U : Reg} {c : Nat}
theorem relL_nil : RelL w ρ U c [] [] := by simp [RelL]
theorem relL_cons {x : AV} {xs : List AV} {v : Value} {vs : List Value} (h : Rel w ρ U c x v) (k : RelL w ρ U c xs vs) : RelL w ρ U c (x :: xs) (v :: vs) := by
  simp only [RelL]; exact ⟨v, vs, rfl, h, k⟩
theorem rel_int {k : IntKind} {n : Int} : Rel w ρ U c (.int k n) (.int k n) := by simp [Rel]
theorem rel_bool {b : Bool} : Rel w ρ U c (.bool b) (.bool b) := by simp [Rel]
theorem rel_bool_inv {b : Bool} {v : Value} (h : Rel w ρ U c (.bool b) v) : v = .bool b := by simpa [Rel] using h
theorem rel_str {s : ByteArray} : Rel w ρ U c (.str s.data.toList) (.string s) := by simp [Rel]

/-- A slice of whole numbers, as a law gets it. -/
def IntRow (k : IntKind) (x : AV) (l : List Int) : Prop := ((x = .nils ∧ l = []) ∨ x = .vec 0 (l.map (.int k)) .unk) ∧ ∀ n ∈ l, (Lit.int k n).wf = true
theorem IntRow.of_nil {k : IntKind} {W : World} : ∃ (x : AV) (l : List Int), IntRow k x l ∧ Rel W ρ0 noReg 0 x (.slice none 0 0) :=
  ⟨.nils, [], ⟨.inl ⟨rfl, rfl⟩, by simp⟩, by simp [Rel]⟩
theorem relC_row {k : IntKind} : ∀ l : List Int, RelC w ρ U c 0 (l.map (.int k)) (l.map (.int k))
  | [] => by simp [RelC]
  | n :: l => by
    simp only [List.map_cons, RelC]
    exact ⟨.int k n, l.map (.int k), by simp [Value.cells], ⟨by simp [AV.cells, esz], by simp [AV.cells, AV.one], fun _ => rfl, fun h => absurd rfl h⟩, by simp [Rel], relC_row l⟩
theorem IntRow.of_cells {k : IntKind} {W : World} {x : Addr} {len cap : Nat} {zs : List Int} (hl : len ≤ cap) (hz : zs.length = cap) (hcell : ∀ i, i < zs.length → W.cell? (x.add i) = some (.int k (zs.getD i 0))) (hwz : ∀ n ∈ zs, (Lit.int k n).wf = true) :
    ∃ (y : AV) (l : List Int), IntRow k y l ∧ Rel W ρ0 noReg 0 y (.slice (some x) len cap) := by
  refine ⟨.vec 0 ((zs.take len).map (.int k)) .unk, zs.take len, ⟨.inr rfl, fun n hn => hwz n (List.mem_of_mem_take hn)⟩, ?_⟩
  simp only [Rel]
  refine ⟨x, cap, (zs.take len).map (.int k), ?_, ?_, relC_row _, ?_, trivial⟩
  · simp [hz, hl]
  · simp [hz]; omega
  · intro j u hj
    rw [List.getElem?_map, Option.map_eq_some_iff] at hj
    obtain ⟨n, hn, rfl⟩ := hj
    have hj' := (List.getElem?_eq_some_iff.1 hn).1
    rw [List.length_take] at hj'
    rw [List.getElem?_take_of_lt (by omega)] at hn
    refine ⟨?_, fun h => h.elim⟩
    rw [hcell j (by omega), List.getD_eq_getElem?_getD, hn]
    rfl
end Go.Ai
