/- Bytes that a caller hands in, as values with types. -/
import Derived.Test.YtdfkffmddgffkaaTg7
import Derived.Test.YtdfkffmddgffkaaAi20
import Derived.DataShut
set_option linter.unusedVariables false
set_option linter.unusedSimpArgs false
open Go.Ai.Enc (enc is)
open Go.Ai.Res (res ris)
open Go.Ai.Args (args)
namespace Go.Ai
theorem wf_u8' {n : Int} (h : (Lit.int .u8 n).wf = true) : 0 ≤ n ∧ n < 256 := by
  rw [Lit.wf_int_iff] at h
  simp [IntKind.min, IntKind.max, IntKind.bits, IntKind.signed] at h; omega
theorem u8_back {n : Int} (h : (Lit.int .u8 n).wf = true) : (enc (UInt8.ofNat n.toNat) : AV) = .int .u8 n := by
  have h := wf_u8' h
  show AV.int .u8 ((UInt8.ofNat n.toNat).toNat : Int) = _
  congr 1
  have : (UInt8.ofNat n.toNat).toNat = n.toNat := by rw [UInt8.toNat_ofNat']; exact Nat.mod_eq_of_lt (by omega)
  rw [this]; omega
theorem u8_given {n : Int} (h : (Lit.int .u8 n).wf = true) : ∃ x : UInt8, (enc x : AV) = .int .u8 n := ⟨_, u8_back h⟩
theorem i64_given (n : Int) : ∃ x : Int, (enc x : AV) = .int .i64 n := ⟨n, rfl⟩
theorem bool_given (n : Bool) : ∃ x : Bool, (enc x : AV) = .bool n := ⟨n, rfl⟩
theorem bytes_enc : ∀ (l : List Int), (∀ n ∈ l, (Lit.int .u8 n).wf = true) → (l.map fun n => UInt8.ofNat n.toNat).map (enc : UInt8 → AV) = l.map (.int .u8)
  | [], _ => rfl
  | n :: l, h => by
    rw [List.map_cons, List.map_cons, List.map_cons, bytes_enc l (fun m hm => h m (List.mem_cons_of_mem _ hm)), u8_back (h n List.mem_cons_self)]
theorem bytes_given_nil {W : World} : ∃ l : List UInt8, Rel W ρ0 noReg 0 (enc l) (.slice none 0 0) :=
  ⟨[], by show Rel _ _ _ _ (.emp false) _; simp only [Rel]; exact ⟨none, 0, rfl, fun _ => rfl, fun _ => rfl⟩⟩
theorem bytes_given_cells {W : World} {x : Addr} {len cap : Nat} {zs : List Int} (hl : len ≤ cap) (hm : cap ≤ maxLen) (hz : zs.length = cap) (hcell : ∀ i, i < zs.length → W.cell? (x.add i) = some (.int .u8 (zs.getD i 0))) (hwz : ∀ n ∈ zs, (Lit.int .u8 n).wf = true) :
    ∃ l : List UInt8, Rel W ρ0 noReg 0 (enc l) (.slice (some x) len cap) := by
  obtain ⟨y, l, ⟨h1, hw⟩, h2⟩ := IntRow.of_cells (k := .u8) hl hz hcell hwz
  refine ⟨l.map fun n => UInt8.ofNat n.toNat, ?_⟩
  rcases h1 with ⟨rfl | ⟨z, rfl⟩, rfl⟩ | ⟨c, rfl⟩
  · simp [Rel] at h2
  · show Rel _ _ _ _ (.emp false) _
    simp only [Rel] at h2 ⊢
    obtain ⟨a, cap', e, _⟩ := h2
    injection e with e1 e2 e3
    exact ⟨some x, cap, by rw [e2] <;> rfl, fun e => (by cases e), fun e => (by cases e)⟩
  · cases l with
    | nil =>
      show Rel _ _ _ _ (.emp false) _
      simp only [Rel] at h2 ⊢
      obtain ⟨a, cap', cs, e, _⟩ := h2
      injection e with e1 e2 e3
      exact ⟨some x, cap, by rw [e2] <;> rfl, fun e => (by cases e), fun e => (by cases e)⟩
    | cons n l =>
      have e : (enc ((n :: l).map fun n => UInt8.ofNat n.toNat) : AV) = .vec 0 ((n :: l).map (.int .u8)) .unk := by
        rw [← bytes_enc (n :: l) hw]; rfl
      rw [e]
      simp only [Rel] at h2 ⊢
      obtain ⟨a, cap', cs, q1, q2, q3, q4, q5⟩ := h2
      exact ⟨a, cap', cs, q1, q2, q3, q4, by simp [CapOk]⟩
end Go.Ai
