/- The row of the law CutJoins: out of its contract. The form is the kit's printed row's. -/
import Derived.Test.YtdfkffmddgffkaaRows
import Derived.Test.YtdfkffmddgffkaaAi20
import Derived.Test.YtdfkffmddgffkaaP3
import Derived.Test.YtdfkffmddgffkaaTg8
import Derived.Test.YtdfkffmddgffkaaS2
import Derived.WalkKit
import Derived.ProofKit
import Derived.OpenShut
import Derived.ShutString
import Derived.ChangeOld
import Derived.Below
import Derived.SizedLaws
namespace Go.Proofs.Ytdfkffmddgffkaa.cutJoins
open Go.ChangeShapes Go.WideShapes Go.ChangeAt Go.RowKit
open Go.ChangeMaps (open_string shut_string)
theorem own : ownKnob Try.prog.godebug = none := by kernel_rfl
theorem laidOut : laidOutB Try.prog = true := by kernel_rfl
set_option maxRecDepth 100000 in
theorem lifted (os : Os) (started : os.Started) (H : Type) (enc : TypeId × Value → H) :
    ReturnsInHanded {} Try.checked os 11 .any (Rows.cutJoinsSpec.pre6 enc Try.prog Try.f11 Rows.cutJoinsRow.domain false) (Rows.cutJoinsSpec.post enc Try.prog Try.f11 false true false false) := by
  refine returnsInHanded_of_change_sized (C := Try.checked) own started (by kernel_rfl) Try.func11
    (ChangeSpec.witness6 (enc := enc) (C := Try.checked) false ⟨#[], #[.slice none 0 0], []⟩ 8 (by kernel_rfl) (by kernel_rfl) (by kernel_rfl) (by kernel_rfl)) ?_
  intro W base args ds gs before hval0 hW hcnd hsz0 _
  have hsz : (DataW.weightsEach Try.prog (Try.f11.params.toList ++ Rows.cutJoinsSpec.plain.varTypes Try.prog) (ds ++ gs)).all (· ≤ reachBytes) = true := hsz0
  have hval : ∀ (j : Nat) t v, Try.f11.params[j]? = some t → args[j]? = some v → Value.okWide Try.prog W .any base t v := hval0
  have hW' := hW
  obtain ⟨p, q, hA0, hV, rfl, hfz, hnd⟩ := hW
  have hA : DataW.TrodAll enc Try.prog W 0 (fun _ => true) true Try.f11.params.toList args.toList ds p := hA0
  rw [Try.params11] at hA hval hsz
  obtain ⟨v0, vs0, d0, ds0, p0, q0, hargs, rfl, rfl, h0, r0⟩ := trodAll_cons hA
  obtain ⟨rfl, rfl, rfl⟩ := trodAll_nil r0
  obtain rfl : args = #[v0] := by cases args; simp_all
  obtain ⟨rfl, rfl⟩ := trodVars_none hV
  obtain ⟨a0, len0, cap0, rfl⟩ := okWide_slice Try.underlying22 (hval 0 22 v0 rfl rfl)
  have k0 := h0
  have lt0 : ∀ x ∈ p0, x.block < W.heap.size := by obtain ⟨m, hm⟩ := k0; exact DataW.trod_lt m _ _ _ hm
  have rr0 : ∃ l : List UInt8, Ai.Rel W Ai.ρ0 Ai.noReg 0 (Ai.Enc.enc l) (.slice a0 len0 cap0) := by
    obtain ⟨fuel, hf⟩ := h0
    rcases open_ints Try.underlying22 Try.underlying5 (by kernel_rfl) hf with ⟨hcs, _⟩ | ⟨x, l, c, zs, hcs, _, hl, hm, hz, _, hcell, hwz⟩
    · simp [Value.cells] at hcs
      obtain ⟨rfl, rfl, rfl⟩ := hcs
      exact Ai.bytes_given_nil
    · simp [Value.cells] at hcs
      obtain ⟨rfl, rfl, rfl⟩ := hcs
      exact Ai.bytes_given_cells hl hm (by simpa using hz) hcell hwz
  obtain ⟨l0, rel0⟩ := rr0
  clear hA0 hval0 hsz0 hsz
  have law : Ai.Rab.CutJoins l0 = some true := Ai.Rab.joins_true l0
  refine (Ai.Rab.CutJoins_pc.2 Ai.noGlob [Ai.Enc.enc l0] (.bool true) (Ai.Fn_at (a := (l0, ())) law) W Ai.noReg _ (fun b j h => h.elim) Ai.globOk_none (Ai.relL_cons rel0 Ai.relL_nil)).mono fun e W' he => ?_
  obtain ⟨v', rfl, hv', bel⟩ := he
  obtain rfl := Ai.rel_bool_inv hv'
  exact ⟨_, rfl, _, _, _, [], _, [], hW', trodAll_mk1 (shut_bool Try.underlying4 _), (trodAll_cons_mk (Below.trod laidOut (by kernel_rfl) (of_decide_eq_true (by kernel_rfl)) k0 bel lt0) trodAll_mk0), rfl, bel.frame _, fun h => by cases h⟩
theorem over : Rows.cutJoinsRow.holds Try.pinned (OpenSpec.ofChange Rows.cutJoinsSpec) :=
  OpenClaim.holds_of_wide 11 Try.f11 rfl rfl rfl rfl rfl rfl rfl ⟨rfl, rfl, rfl, rfl, rfl⟩ rfl rfl rfl rfl rfl (by kernel_rfl) Try.func11 (by kernel_rfl)
    (of_decide_eq_true (by kernel_rfl)) (by unfold Func.isWrapper; first | (rw [if_pos (by decide +kernel)]; kernel_rfl) | (rw [if_neg (by decide +kernel)]; exact ⟨rfl, rfl⟩))
    (fun os started H enc _ => lifted os started H enc)
theorem proved : Rows.CutJoinsSaid := over
#print axioms proved
end Go.Proofs.Ytdfkffmddgffkaa.cutJoins
namespace Go.Proofs.Ytdfkffmddgffkaa
/-- The row, under a short name, for the claim. -/
theorem cutJoins_holds : Rows.CutJoinsSaid := cutJoins.proved
end Go.Proofs.Ytdfkffmddgffkaa
