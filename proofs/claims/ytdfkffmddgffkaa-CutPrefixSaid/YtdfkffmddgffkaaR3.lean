/- The law's heads hold. -/
import Derived.Test.YtdfkffmddgffkaaR2
import Derived.KernelRfl
set_option linter.unusedVariables false
set_option linter.unusedSimpArgs false
namespace Go.Ai.Rab
open Go.Proofs
set_option maxRecDepth 100000
set_option maxHeartbeats 4000000
def prims2 : Prims := prims1.add 17 F17
theorem prims2_ok : PrimsOk Try.prog prims2 := primsOk_add prims1_ok pure17
theorem heads_ans : answer Try.prog prims2 1000 14 [] = some (.bool true) := by kernel_rfl
def Ftrue : List AV → Option AV
  | [] => some (.bool true)
  | _ => none
theorem pure14 : PureC Try.prog 14 (fun _ => Ftrue) := pureC_of prims2_ok ⟨_, Try.func14, rfl⟩ fun args r h => by
  unfold Ftrue at h
  split at h
  · injection h with h; subst h; exact ⟨1000, heads_ans⟩
  · cases h
def prims3 : Prims := prims2.add 14 Ftrue
theorem prims3_ok : PrimsOk Try.prog prims3 := primsOk_add prims2_ok pure14
end Go.Ai.Rab
