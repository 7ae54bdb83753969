/- Window as a contract; RabinRolls' walk. -/
import Derived.Test.YtdfkffmddgffkaaR5
set_option linter.unusedVariables false
set_option linter.unusedSimpArgs false
namespace Go.Ai.Rab
open Go.Proofs
set_option maxRecDepth 100000
set_option maxHeartbeats 4000000
attribute [local irreducible] L
def F16 : List AV → Option AV
  | [x] => (rowOf .u8 x).bind fun l => if l.length ≤ 9223372036854775807 then some (.int .u64 (win l : Nat)) else none
  | _ => none
theorem pure16 : PureC Try.prog 16 (fun _ => F16) := pureC_of prims6_ok ⟨_, Try.func16, rfl⟩ fun args r h => by
  unfold F16 at h
  split at h
  · rename_i x
    obtain ⟨l, hl, h⟩ := Option.bind_eq_some_iff.1 h
    split at h
    · rename_i hlen
      injection h with h; subst h
      exact answer_of ((window_run prims6 rfl rfl rfl x l (rowOf_some hl) hlen).mono fun v s e => by rw [e]; rfl)
    · cases h
  · cases h
def prims7 : Prims := prims6.add 16 F16
theorem prims7_ok : PrimsOk Try.prog prims7 := primsOk_add prims6_ok pure16
theorem F16_at {x : AV} {l : List Int} {s : St} (h : IntRow .u8 x l) (hl : l.length ≤ 9223372036854775807) : callPrim (fun _ => F16) [x] s = some (.int .u64 (win l : Nat), s) :=
  callPrim_row h fun y hy => by simp [F16, rowOf_of hy, hl]
end Go.Ai.Rab
