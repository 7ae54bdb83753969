/- bytes.Clone and bytes.Join as contracts of values with types. -/
import Derived.Test.YtdfkffmddgffkaaS1
set_option linter.unusedVariables false
set_option linter.unusedSimpArgs false
set_option maxRecDepth 100000
open Go.Ai.Enc (enc is)
open Go.Ai.Res (res ris)
open Go.Ai.Args (args)
namespace Go.Ai.TTry
open Go.Proofs
theorem ef5 : EF Try.prog 5 0 1 := EF_of (by kernel_rfl)
end Go.Ai.TTry
namespace Go.Ai.Rab
open Go.Proofs
def bytes_Clone (b : List UInt8) : Option (List UInt8) := app 1 [] b
theorem clone_vec (xs : List AV) (b r : List UInt8) (hb : isR xs b) (h : bytes_Clone b = some r) : MF Try.prog prims10 38 [.vec 0 xs .unk] s0 fun v _ => ris v r := by
  have hx : is (.vec 0 xs .unk) b := .inr ⟨_, _, rfl, hb⟩
  refine TF_run [(0, .vec 0 xs .unk)] Try.func38 rfl (by simp only [Try.f38]; rfl) fun ψ => ?_
  refine TC_seq (TC_reg (TO_as rfl (TO_nil (TC_seq (TC_seq (TC_reg (TO_mv (v := .vec 0 xs .unk) rfl ?_)))))))
  refine TO_bi (u := .vec 0 xs .unk) (w := .nils) (v := .bool false) rfl rfl (by simp [aBinOp, aNilEq, Try.underlying22, nilAs, isC]) (TO_nil (TC_cond_f rfl (by simp) (TC_skip ?_)))
  refine TC_seq (TC_reg ?_)
  refine TO_bs [] ([] : List UInt8) Try.underlying22 TTry.ef5 rfl rfl rfl (by decide) trivial fun z hz hzc hzn => TO_mv rfl ?_
  have hs := Hp.add (s := s0) Hp.nil hzn
  refine TO_ap [] (es2 := []) Try.underlying22 Try.underlying22 rfl rfl TTry.ef5 rfl rfl hz hzc hs hx h fun y s hy hyc hs => ?_
  refine TO_as rfl (TO_nil (TC_ret ?_))
  exact ⟨rfl, KE1 rfl rfl hy hy⟩
theorem clone_nil : MF Try.prog prims10 38 [.nils] s0 fun v _ => ris v ([] : List UInt8) := by
  refine TF_run [(0, .nils)] Try.func38 rfl (by simp only [Try.f38]; rfl) fun ψ => ?_
  refine TC_seq (TC_reg (TO_as rfl (TO_nil (TC_seq (TC_seq (TC_reg (TO_mv (v := .nils) rfl ?_)))))))
  refine TO_bi (u := .nils) (w := .nils) (v := .bool true) rfl rfl (by simp [aBinOp, aNilEq, Try.underlying22, nilAs, isC, isIfc]) (TO_nil (TC_cond_t rfl rfl ?_))
  refine TC_seq (TC_reg (TO_as rfl (TO_nil (TC_ret ?_))))
  exact ⟨rfl, KE1 (T := List UInt8) (a := []) (v := .nils) rfl rfl isL.nil isL.nil⟩
theorem bytes_Clone_pc : PureC Try.prog 38 (fun _ => Fn (fun a : (List UInt8) × Unit => bytes_Clone a.1)) :=
  ⟨⟨_, Try.func38, rfl⟩, fun G xs v hv w U vs hU hG hr => by
    obtain ⟨⟨b, u⟩, r, rfl, h1, rfl⟩ := Fn_some hv
    have h1 : bytes_Clone b = some r := h1
    cases b with
    | nil =>
      have hr0 : r = [] := by simpa [bytes_Clone, app, roomy] using h1.symm
      subst hr0
      simp only [args, RelL] at hr
      obtain ⟨x, us, rfl, h2, rfl⟩ := hr
      rcases rel_emp h2 with h3 | h3
      · exact mf_calls prims10_ok clone_nil hU (relL_cons h3 relL_nil)
      · exact mf_calls prims10_ok (clone_vec [] [] [] trivial h1) hU (relL_cons (h3 0) relL_nil)
    | cons x b =>
      exact mf_calls prims10_ok (clone_vec _ _ r (isR.self (x :: b)) h1) hU hr⟩
def bytes_Join (s : List (List UInt8)) (sep : List UInt8) : Option (List UInt8) := if s.length ≤ 137438953472 ∧ Lib.lens s + sep.length * (s.length - 1) ≤ 137438953472 then some (Lib.join s sep) else none
theorem bytes_Join_pc : PureC Try.prog 39 (fun _ => Fn (fun a : (List (List UInt8)) × (List UInt8) × Unit => bytes_Join a.1 a.2.1)) :=
  ⟨⟨_, Try.func39, rfl⟩, fun G xs v hv w U vs hU hG hr => by
    obtain ⟨⟨s, sep, u⟩, r, rfl, h1, rfl⟩ := Fn_some hv
    have h1 : bytes_Join s sep = some r := h1
    unfold bytes_Join at h1
    split at h1
    · rename_i hb
      injection h1 with h1; subst h1
      simp only [args, RelL] at hr
      obtain ⟨v1, us, rfl, g1, v2, us2, rfl, g2, rfl⟩ := hr
      have hsep := holds_of_rel g2
      have fin : ∀ {l : List UInt8} {e : Ending} {w' : World}, (∃ v', e = .returned v' ∧ Lib.FreshBytes w.heap.size w' v' l ∧ RowKit.Below w.heap.size w w') → ∃ v', e = .returned v' ∧ Rel w' ρ0 U 0 (res l) v' ∧ RowKit.Below w.heap.size w w' := fun ⟨v', h1, h2, h3⟩ => ⟨v', h1, rel_of_fresh h2 hU, h3⟩
      cases s with
      | nil =>
        have g1 : Rel w ρ0 U 0 (.emp false) v1 := g1
        simp only [Rel] at g1
        obtain ⟨a, cap, rfl, _⟩ := g1
        refine (Try.bytes_Join_none a cap v2 w).mono fun e w' he => ?_
        obtain ⟨rfl, rfl⟩ := he
        refine ⟨_, rfl, ?_, RowKit.Below.alloc (RowKit.Below.refl _ _) (Nat.le_refl _) _⟩
        show Rel _ _ _ _ (.emp false) _
        simp only [Rel]
        exact ⟨_, _, rfl, fun e => by (cases e), fun e => by (cases e)⟩
      | cons l0 ls =>
        have g1 : Rel w ρ0 U 0 (.vec 0 ((l0 :: ls).map enc) .unk) v1 := g1
        simp only [Rel] at g1
        obtain ⟨a, cap, cs, rfl, k2, k3, k4, _⟩ := g1
        obtain ⟨e1, e2⟩ := relC_enc (T := List UInt8) rfl k3
        have hcs : ∀ i u, cs[i]? = some u → w.cell? (a.add i) = some u := fun i u hu => (k4 i u hu).1
        obtain ⟨b, o, sp⟩ := a
        have hsp : sp = none := by
          have h0 := hcs 0 (cs[0]'(by rw [e1]; simp)) (List.getElem?_eq_getElem _)
          simp only [Addr.add, if_true, World.cell?] at h0
          cases sp with
          | none => rfl
          | some q => split at h0 <;> simp at h0
        subst hsp
        have hp : Lib.PartsAt w ⟨b, o, none⟩ cs (l0 :: ls) := ⟨e1, hcs, fun i u l hu hl => holds_of_rel (e2 i l u hl hu)⟩
        cases ls with
        | nil =>
          obtain ⟨p, c0, l, f1, f2, f3, f4⟩ := hp.get 0 (by simp)
          simp at f1; subst f1
          simp only [Addr.add, if_true] at f2
          cases l0 with
          | nil =>
            refine (Try.bytes_Join_one_empty b o cap p c0 v2 w f2).mono fun e w' he => ?_
            obtain ⟨rfl, rfl⟩ := he
            refine ⟨_, rfl, ?_, RowKit.Below.refl _ _⟩
            show Rel _ _ _ _ (.emp false) _
            simp only [Rel]
            exact ⟨none, 0, rfl, fun _ => rfl, fun _ => rfl⟩
          | cons x l0 =>
            cases p with
            | none => cases f3 rfl
            | some ad =>
              refine (Try.bytes_Join_one b o cap ad c0 (x :: l0) v2 w f2 (f4 ad rfl) (by simp) (by
                have := hb.2
                simp [Lib.lens] at this ⊢
                omega)).mono fun e w' he => fin (by rw [show Lib.join [x :: l0] sep = x :: l0 by simp [Lib.join]]; exact he)
        | cons l1 ls =>
          have hl : (List.map (enc (T := List UInt8)) (l0 :: l1 :: ls)).length = (l0 :: l1 :: ls).length := by simp
          rw [hl] at k2 ⊢
          exact (Try.bytes_Join_many b o _ cap cs (l0 :: l1 :: ls) v2 sep w rfl (by simp) hp k2 hsep (by have := hb.1; omega) (by have := hb.2; omega)).mono fun e w' he => fin he
    · cases h1⟩
noncomputable def pt0 : Prims := (((prims10.add 30 (Fn (fun a : (List UInt8) × Unit => cut_First a.1))).add 31 (Fn (fun a : (List UInt8) × Unit => ref06_First a.1))).add 38 (Fn (fun a : (List UInt8) × Unit => bytes_Clone a.1))).add 39 (Fn (fun a : (List (List UInt8)) × (List UInt8) × Unit => bytes_Join a.1 a.2.1))
theorem pt0_ok : PrimsOk Try.prog pt0 := primsOk_add (primsOk_add (primsOk_add (primsOk_add prims10_ok cut_First_pc) ref06_First_pc) bytes_Clone_pc) bytes_Join_pc
end Go.Ai.Rab
