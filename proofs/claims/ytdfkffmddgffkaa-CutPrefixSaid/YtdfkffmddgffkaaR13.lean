/- cut.First as a contract. -/
import Derived.Test.YtdfkffmddgffkaaR12
set_option linter.unusedVariables false
set_option linter.unusedSimpArgs false
namespace Go.Ai.Rab
open Go.Proofs
set_option maxRecDepth 100000
set_option maxHeartbeats 4000000
attribute [local irreducible] L
def F30 : List AV → Option AV
  | [x] => (rowOf .u8 x).bind fun l => if l.length ≤ 9223372036854775807 then some (.int .i64 (firstN l : Nat)) else none
  | _ => none
theorem pure30 : PureC Try.prog 30 (fun _ => F30) := pureC_of prims10_ok ⟨_, Try.func30, rfl⟩ fun args r h => by
  unfold F30 at h
  split at h
  · rename_i x
    obtain ⟨l, hl, h⟩ := Option.bind_eq_some_iff.1 h
    split at h
    · rename_i hlen
      injection h with h; subst h
      exact answers (first30 x l (rowOf_some hl) hlen) rfl
    · cases h
  · cases h
def prims11 : Prims := prims10.add 30 F30
theorem prims11_ok : PrimsOk Try.prog prims11 := primsOk_add prims10_ok pure30
theorem F30_at {x : AV} {l : List Int} {s : St} (h : IntRow .u8 x l) (hl : l.length ≤ 9223372036854775807) : callPrim (fun _ => F30) [x] s = some (.int .i64 (firstN l : Nat), s) :=
  callPrim_row h fun y hy => by simp [F30, rowOf_of hy, hl]
theorem seek_bd (l : List Int) : ∀ k n, n ≤ seek l k n ∧ seek l k n ≤ n + k
  | 0, n => ⟨Nat.le_refl _, Nat.le_refl _⟩
  | k + 1, n => by
    simp only [seek]
    split
    · omega
    · have := seek_bd l k (n + 1); omega
theorem first_bd (l : List Int) : firstN l ≤ l.length ∧ (l ≠ [] → 0 < firstN l) ∧ firstN l ≤ 2048 := by
  unfold firstN
  split
  · refine ⟨Nat.le_refl _, fun h => List.length_pos_iff.2 h, by omega⟩
  · have := seek_bd l (min l.length 2048 - 512) 512
    omega
end Go.Ai.Rab
