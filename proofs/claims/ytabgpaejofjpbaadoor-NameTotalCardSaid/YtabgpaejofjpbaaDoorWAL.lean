/- My own texts DevNgB, one behind the other. -/
import Derived.Test.YtabgpaejofjpbaaDoorWAF
import Derived.Test.YtabgpaejofjpbaaDoorWAG
import Derived.Test.YtabgpaejofjpbaaDoorWAK
/- Functions of the program as functions of values with types, and that the code answers as they do. -/
set_option linter.unusedVariables false
set_option linter.unusedSimpArgs false
set_option maxRecDepth 100000
set_option maxHeartbeats 4000000
attribute [local irreducible] Go.Ai.TC Go.Ai.TO Go.Ai.MF Go.Ai.runeAt Go.Ai.runeLen Go.Ai.encR
open Go.Ai.Enc (enc is)
open Go.Ai.Res (res ris)
open Go.Ai.Args (args)
namespace Go.Ai.TTryd
open Go.Proofs
theorem ef3 : EF Tryd.prog 3 0 8 := EF_of (by kernel_rfl)

end Go.Ai.TTryd
namespace Go.Ai.Rab
open Go.Proofs
noncomputable def name_Check_l1 (s_ : Str) : Nat → Option (Nat ⊕ (Unit ⊕ Int))
  | v => (if v < List.length s_ then ((if (((runeAt s_ v)).v == ((Rune.mk 47)).v) then some true else some (((runeAt s_ v)).v == ((Rune.mk 0)).v)).bind fun b2 => (if b2 then some (.inr (.inr 206)) else some (.inl (v + runeLen s_ v)))) else some (.inr (.inl ())))
noncomputable def name_Check_a1 : (Unit ⊕ Int) → Option (Int)
  | (.inl _) => some (0)
  | (.inr v1) => some (v1)
noncomputable def name_Check (s_ : Str) : Option (Int) :=
  (if (eqS s_ (str [])) then some (206) else (if (decide (((List.length s_ : Nat) : Int) > 100)) then some (208) else ((if (eqS s_ (str [46])) then some true else some (eqS s_ (str [46, 46]))).bind fun b => ((if b then some true else ((utf8_ValidString s_).bind fun r_ => some (!r_))).bind fun b1 => (if b1 then some (206) else ((loop (name_Check_l1 s_) 0).bind (name_Check_a1)))))))
noncomputable def name_Split_j2 (v : Int) (out_2 : (List Str)) (dir2 : Bool) : Option (((List Str) × Bool × Int) ⊕ (((List Str) × Bool) ⊕ ((List Str) × Bool × Int))) :=
  some (.inl (out_2, dir2, (IntKind.i64.wrap (v + 1))))
noncomputable def name_Split_l1 (r_ : (List Str)) : ((List Str) × Bool × Int) → Option (((List Str) × Bool × Int) ⊕ (((List Str) × Bool) ⊕ ((List Str) × Bool × Int)))
  | (out_, dir, v) => (if (decide (v < (r_.length : Int))) then ((nth r_ v).bind fun v4 => ((if (eqS v4 (str [])) then some true else some (eqS v4 (str [46]))).bind fun b => (if b then (name_Split_j2 v out_ b) else ((name_Check v4).bind fun r_1 => ((if (r_1 != 0) then some (!eqS v4 (str [46, 46])) else some false).bind fun b1 => (if b1 then some (.inr (.inr ([], false, r_1))) else ((app 16 out_ [v4]).bind fun l => (name_Split_j2 v l b)))))))) else some (.inr (.inl (out_, dir))))
noncomputable def name_Split_a1 : (((List Str) × Bool) ⊕ ((List Str) × Bool × Int)) → Option ((List Str) × Bool × Int)
  | (.inl (out_1, dir1)) => some (out_1, dir1, 0)
  | (.inr (v1, v2, v3)) => some (v1, v2, v3)
noncomputable def name_Split (s_ : Str) : Option ((List Str) × Bool × Int) :=
  (if (eqS s_ (str [])) then some ([], false, 206) else (if (decide (((List.length s_ : Nat) : Int) > 1000)) then some ([], false, 208) else ((nth (α := UInt8) s_ 0).bind fun c => (if (((c).toNat : Int) != 47) then some ([], false, 206) else ((subT s_ 1 (List.length s_ : Nat)).bind fun t => ((strings_Split t (str [47])).bind fun r_ => ((loop (name_Split_l1 r_) ([], false, 0)).bind (name_Split_a1))))))))
noncomputable def name_Join (l : (List Str)) : Option (Str) :=
  (if ((l.length : Int) == 0) then some ((str [47])) else ((strings_Join l (str [47])).bind fun r_ => ((catT (str [47]) r_).bind fun s_ => some (s_))))
noncomputable def name_Order_l1 : (Str × Str) → Option ((Str × Str) ⊕ ((Str × Str) ⊕ Int))
  | (x, y) => ((if (!eqS x (str [])) then some (!eqS y (str [])) else some false).bind fun b1 => (if b1 then ((utf8_Decode x).bind fun r_ => ((utf8_Decode y).bind fun r_1 => ((cmpR r_.1 r_1.1).bind fun r_2 => (if (r_2 != 0) then some (.inr (.inr r_2)) else ((subT x r_.2 (List.length x : Nat)).bind fun t => ((subT y r_1.2 (List.length y : Nat)).bind fun t1 => some (.inl (t, t1)))))))) else some (.inr (.inl (x, y)))))
noncomputable def name_Order_a1 (a : Str) (b : Str) : ((Str × Str) ⊕ Int) → Option (Int)
  | (.inl (x1, y1)) => ((cmpI (imin ((List.length x1 : Nat) : Int) 1) (imin ((List.length y1 : Nat) : Int) 1)).bind fun r_3 => ((cmpS a b).bind fun r_4 => ((orI [r_3, r_4]).bind fun r_5 => some (r_5))))
  | (.inr v) => some (v)
noncomputable def name_Order (a : Str) (b : Str) : Option (Int) :=
  ((loop (name_Order_l1) (a, b)).bind (name_Order_a1 a b))
noncomputable def strings_Index (s_ : Str) (substr : Str) : Option (Int) :=
  ((slite_Index s_ substr).bind fun r_ => some (r_))
noncomputable def slite_Cut (s_ : Str) (sep : Str) : Option (Str × Str × Bool) :=
  ((slite_Index s_ sep).bind fun r_ => (if (decide (r_ ≥ 0)) then ((subT s_ 0 r_).bind fun t => ((subT s_ (IntKind.i64.wrap (r_ + ((List.length sep : Nat) : Int))) (List.length s_ : Nat)).bind fun t1 => some (t, t1, true))) else some (s_, (str []), false)))
noncomputable def strings_Cut (s_ : Str) (sep : Str) : Option (Str × Str × Bool) :=
  ((slite_Cut s_ sep).bind fun r_ => some (r_.1, r_.2.1, r_.2.2))
noncomputable def name_digits_l1 (s_ : Str) : (Rune × Nat) → Option ((Rune × Nat) ⊕ (Rune ⊕ (Rune × Bool)))
  | (x, v) => (if v < List.length s_ then ((strings_Index (str [48, 49, 50, 51, 52, 53, 54, 55, 56, 57, 97, 98, 99, 100, 101, 102]) (encR (runeAt s_ v))).bind fun r_ => ((if (decide (r_ < 0)) then some true else some (decide (x.v > ((Rune.mk 1114111)).v))).bind fun b => (if b then some (.inr (.inr ((Rune.mk 0), false))) else some (.inl ((Rune.mk (IntKind.i32.wrap (bitOr .i32 ((Rune.mk (IntKind.i32.wrap (x.v * 2 ^ 4)))).v ((Rune.mk (IntKind.i32.wrap r_))).v))), (v + runeLen s_ v)))))) else some (.inr (.inl x)))
noncomputable def name_digits_a1 (s_ : Str) : (Rune ⊕ (Rune × Bool)) → Option (Rune × Bool)
  | (.inl x1) => some (x1, (!eqS s_ (str [])))
  | (.inr (v1, v2)) => some (v1, v2)
noncomputable def name_digits (s_ : Str) : Option (Rune × Bool) :=
  ((loop (name_digits_l1 s_) ((Rune.mk 0), 0)).bind (name_digits_a1 s_))
noncomputable def name_escape (s_ : Str) : Option (Str × Str × Bool) :=
  (if (eqS s_ (str [])) then some ((str []), (str []), false) else ((nth (α := UInt8) s_ 0).bind fun c => ((if (((c).toNat : Int) == 34) then some true else ((nth (α := UInt8) s_ 0).bind fun c1 => some (((c1).toNat : Int) == 92))).bind fun b => (if b then ((subT s_ 0 1).bind fun t => ((subT s_ 1 (List.length s_ : Nat)).bind fun t1 => some (t, t1, true))) else ((nth (α := UInt8) s_ 0).bind fun c2 => ((if (((c2).toNat : Int) == 120) then some (decide (((List.length s_ : Nat) : Int) ≥ 3)) else some false).bind fun b1 => (if b1 then ((subT s_ 1 3).bind fun t2 => ((name_digits t2).bind fun r_ => ((subT s_ 3 (List.length s_ : Nat)).bind fun t3 => some ((str [(UInt8.ofInt r_.1.v)]), t3, r_.2)))) else ((strings_HasPrefix s_ (str [117, 123])).bind fun r_1 => (if r_1 then ((subT s_ 2 (List.length s_ : Nat)).bind fun t4 => ((strings_Cut t4 (str [125])).bind fun r_2 => ((name_digits r_2.1).bind fun r_3 => ((if r_3.2 then some r_2.2.2 else some false).bind fun b2 => some ((encR r_3.1), r_2.2.1, b2))))) else some ((str []), (str []), false))))))))))
theorem name_Check_wf (mx : Int) (s_ : Str) (r : Int) (h : name_Check s_ = some r) : MF Tryd.prog (pg0 mx) 12 [enc s_] (sG (NG mx)) fun v _ => ris v r := by
  refine TF_run [(0, enc s_)] Tryd.func12 rfl (by simp only [Tryd.f12]; rfl) fun ψ => ?_
  unfold name_Check at h
  have hs : Hp (sG (NG mx)) [.gl (NG mx)] := Hp.gl0
  refine TC_seq ?_
  refine TC_reg ?_
  refine TO_as (v := (enc (0 : Int))) rfl ?_
  refine TO_nil ?_
  refine TC_seq ?_
  refine TC_block ?_
  refine TC_seq ?_
  refine TC_reg ?_
  refine TO_mv (v := (enc (s_ : Str))) rfl ?_
  refine TO_bi (v := (enc ((eqS s_ (str [])) : Bool))) rfl rfl rfl ?_
  refine TO_as (v := (enc ((eqS s_ (str [])) : Bool))) rfl ?_
  refine TO_nil ?_
  split at h
  · rename_i hcond
    refine TC_cond_t rfl hcond ?_
    refine TC_seq ?_
    refine TC_reg ?_
    refine TO_as (v := (enc (206 : Int))) rfl ?_
    refine TO_nil ?_
    refine TC_ret ?_
    show if _ then _ else _
    rw [if_neg (by simp)]
    rw [← Option.some.inj h]
    exact ⟨rfl, KE1 (a := (206 : Int)) rfl rfl (rfl : is _ (206 : Int)) (rfl : is _ (206 : Int))⟩
  · rename_i hcond
    refine TC_cond_f rfl hcond ?_
    refine TC_seq ?_
    refine TC_reg ?_
    refine TO_mv (v := (enc (s_ : Str))) rfl ?_
    refine TO_lnS Tryd.underlying9 rfl rfl ?_
    refine TO_bi (v := (enc ((decide (((List.length s_ : Nat) : Int) > 100)) : Bool))) rfl rfl rfl ?_
    refine TO_as (v := (enc ((decide (((List.length s_ : Nat) : Int) > 100)) : Bool))) rfl ?_
    refine TO_nil ?_
    split at h
    · rename_i hcond
      refine TC_cond_t rfl hcond ?_
      refine TC_seq ?_
      refine TC_reg ?_
      refine TO_as (v := (enc (208 : Int))) rfl ?_
      refine TO_nil ?_
      refine TC_ret ?_
      show if _ then _ else _
      rw [if_neg (by simp)]
      rw [← Option.some.inj h]
      exact ⟨rfl, KE1 (a := (208 : Int)) rfl rfl (rfl : is _ (208 : Int)) (rfl : is _ (208 : Int))⟩
    · rename_i hcond
      refine TC_cond_f rfl hcond ?_
      refine TC_seq ?_
      refine TC_reg ?_
      refine TO_mv (v := (enc (s_ : Str))) rfl ?_
      refine TO_bi (v := (enc ((eqS s_ (str [46])) : Bool))) rfl rfl rfl ?_
      refine TO_mv (v := (enc ((eqS s_ (str [46])) : Bool))) rfl ?_
      obtain ⟨b, hb_b, h⟩ := bs h
      refine TO_cut 3 (fun φ s => Hp s [(.gl (NG mx))] ∧ Fx φ [(0, (enc (s_ : Str))), (18, (enc (b : Bool)))]) ?_ ?_
      · split at hb_b
        · rename_i cg
          refine TO_off rfl rfl (by simpa using cg) ?_
          refine TO_off rfl rfl (by simpa using cg) ?_
          refine TO_pt (v := (enc (true : Bool))) rfl cg rfl ?_
          refine TO_nil ?_
          rw [← Option.some.inj hb_b]
          exact ⟨hs, ⟨rfl, rfl, trivial⟩⟩
        · rename_i cg1
          refine TO_on rfl rfl (by simpa using cg1) ?_
          refine TO_mv (v := (enc (s_ : Str))) rfl ?_
          refine TO_on rfl rfl (by simpa using cg1) ?_
          refine TO_bi (v := (enc ((eqS s_ (str [46, 46])) : Bool))) rfl rfl rfl ?_
          refine TO_pf (v := (enc ((eqS s_ (str [46, 46])) : Bool))) rfl cg1 rfl ?_
          refine TO_nil ?_
          rw [← Option.some.inj hb_b]
          exact ⟨hs, ⟨rfl, rfl, trivial⟩⟩
      · rintro φ s ⟨hs, hF⟩
        rw [← hF.eq]
        refine TO_mv (v := (enc (b : Bool))) rfl ?_
        obtain ⟨b1, hb_b1, h⟩ := bs h
        refine TO_cut 4 (fun φ s => Hp s [(.gl (NG mx))] ∧ Fx φ [(0, (enc (s_ : Str))), (23, (enc (b1 : Bool)))]) ?_ ?_
        · split at hb_b1
          · rename_i cg2
            refine TO_off rfl rfl (by simpa using cg2) ?_
            refine TO_off rfl rfl (by simpa using cg2) ?_
            refine TO_off rfl rfl (by simpa using cg2) ?_
            refine TO_pt (v := (enc (true : Bool))) rfl cg2 rfl ?_
            refine TO_nil ?_
            rw [← Option.some.inj hb_b1]
            exact ⟨hs, ⟨rfl, rfl, trivial⟩⟩
          · rename_i cg3
            refine TO_on rfl rfl (by simpa using cg3) ?_
            refine TO_mv (v := (enc (s_ : Str))) rfl ?_
            refine TO_on rfl rfl (by simpa using cg3) ?_
            obtain ⟨r_, hx, hb_b1⟩ := bs hb_b1
            refine TO_fnG (f := fun a : Str × Unit => utf8_ValidString a.1) (a := (s_, ())) rfl Tryd.func26 rfl rfl (.cons (a := (s_ : Str)) (Enc.self _) .nil) hs List.mem_cons_self hx ?_
            refine TO_on rfl rfl (by simpa using cg3) ?_
            refine TO_un (v := (enc ((!r_) : Bool))) rfl rfl ?_
            refine TO_pf (v := (enc ((!r_) : Bool))) rfl cg3 rfl ?_
            refine TO_nil ?_
            rw [← Option.some.inj hb_b1]
            exact ⟨hs, ⟨rfl, rfl, trivial⟩⟩
        · rintro φ s ⟨hs, hF⟩
          rw [← hF.eq]
          refine TO_as (v := (enc (b1 : Bool))) rfl ?_
          refine TO_nil ?_
          split at h
          · rename_i hcond
            refine TC_cond_t rfl hcond ?_
            refine TC_seq ?_
            refine TC_reg ?_
            refine TO_as (v := (enc (206 : Int))) rfl ?_
            refine TO_nil ?_
            refine TC_ret ?_
            show if _ then _ else _
            rw [if_neg (by simp)]
            rw [← Option.some.inj h]
            exact ⟨rfl, KE1 (a := (206 : Int)) rfl rfl (rfl : is _ (206 : Int)) (rfl : is _ (206 : Int))⟩
          · rename_i hcond
            refine TC_cond_f rfl hcond ?_
            refine TC_skip ?_
            refine TC_seq ?_
            refine TC_seq ?_
            refine TC_reg ?_
            refine TO_mv (v := (enc (s_ : Str))) rfl ?_
            refine TO_rg Tryd.underlying9 rfl hs fun m s hs => ?_
            refine TO_nil ?_
            refine TC_block ?_
            obtain ⟨o, hl, h⟩ := bs h
            refine TC_loop (fun (p : Nat) φ s => match p with | v => Fx φ [(25, (.ptr m 0))] ∧ Hp s [(.gl (NG mx)), (.it m s_ v)]) (fun (o : (Unit ⊕ Int)) e φ s => match o with | (.inl _) => e = .exit 1 ∧ Fx φ [] ∧ Hp s [(.gl (NG mx))] | (.inr v1) => e = .ret ∧ Fx φ [(2, (enc (v1 : Int)))] ∧ Hp s [(.gl (NG mx))]) ?_ hl ⟨⟨rfl, trivial⟩, (Hp.front [(.it m s_ 0)] (b := []) (Hp.front [] (b := [(.gl (NG mx))]) hs))⟩ ?_
            · rintro v o h φ s ⟨hF, hs⟩
              rw [← hF.eq]
              rw [name_Check_l1] at h
              refine TC_seq ?_
              refine TC_reg ?_
              replace hs := Hp.front [(.gl (NG mx))] (b := []) hs
              split at h
              · rename_i cn
                refine TO_nx_t rfl hs cn fun s hs => ?_
                refine TO_ex rfl rfl ?_
                refine TO_nil ?_
                refine TC_seq ?_
                refine TC_cond_t rfl rfl ?_
                refine TC_skip ?_
                refine TC_block ?_
                refine TC_seq ?_
                refine TC_reg ?_
                refine TO_ex rfl rfl ?_
                refine TO_as (v := (enc ((runeAt s_ v) : Rune))) rfl ?_
                refine TO_nil ?_
                refine TC_seq ?_
                refine TC_reg ?_
                refine TO_mv (v := (enc ((runeAt s_ v) : Rune))) rfl ?_
                refine TO_bi (v := (enc ((((runeAt s_ v)).v == ((Rune.mk 47)).v) : Bool))) rfl rfl rfl ?_
                refine TO_mv (v := (enc ((((runeAt s_ v)).v == ((Rune.mk 47)).v) : Bool))) rfl ?_
                obtain ⟨b2, hb_b2, h⟩ := bs h
                refine TO_cut 3 (fun φ s => Hp s [(.it m s_ (v + runeLen s_ v)), (.gl (NG mx))] ∧ Fx φ [(25, (.ptr m 0)), (34, (enc (b2 : Bool)))]) ?_ ?_
                · split at hb_b2
                  · rename_i cg4
                    refine TO_off rfl rfl (by simpa using cg4) ?_
                    refine TO_off rfl rfl (by simpa using cg4) ?_
                    refine TO_pt (v := (enc (true : Bool))) rfl cg4 rfl ?_
                    refine TO_nil ?_
                    rw [← Option.some.inj hb_b2]
                    exact ⟨hs, ⟨rfl, rfl, trivial⟩⟩
                  · rename_i cg5
                    refine TO_on rfl rfl (by simpa using cg5) ?_
                    refine TO_mv (v := (enc ((runeAt s_ v) : Rune))) rfl ?_
                    refine TO_on rfl rfl (by simpa using cg5) ?_
                    refine TO_bi (v := (enc ((((runeAt s_ v)).v == ((Rune.mk 0)).v) : Bool))) rfl rfl rfl ?_
                    refine TO_pf (v := (enc ((((runeAt s_ v)).v == ((Rune.mk 0)).v) : Bool))) rfl cg5 rfl ?_
                    refine TO_nil ?_
                    rw [← Option.some.inj hb_b2]
                    exact ⟨hs, ⟨rfl, rfl, trivial⟩⟩
                · rintro φ s ⟨hs, hF⟩
                  rw [← hF.eq]
                  refine TO_nil ?_
                  split at h
                  · rename_i hcond
                    refine TC_cond_t rfl hcond ?_
                    refine TC_seq ?_
                    refine TC_reg ?_
                    refine TO_as (v := (enc (206 : Int))) rfl ?_
                    refine TO_nil ?_
                    refine TC_ret ?_
                    show if _ then _ else _
                    rw [if_neg (by simp)]
                    rw [← Option.some.inj h]
                    exact ⟨_, rfl, rfl, ⟨⟨rfl, trivial⟩, (Hp.drop [] (b := [(.gl (NG mx))]) hs)⟩⟩
                  · rename_i hcond
                    refine TC_cond_f rfl hcond ?_
                    refine TC_skip ?_
                    rw [← Option.some.inj h]
                    exact ⟨_, rfl, ⟨⟨rfl, trivial⟩, (Hp.front [(.it m s_ (v + runeLen s_ v))] (b := []) (Hp.front [] (b := [(.gl (NG mx))]) hs))⟩⟩
              · rename_i cn
                refine TO_nx_f rfl hs cn ?_
                refine TO_ex rfl rfl ?_
                refine TO_nil ?_
                refine TC_seq ?_
                refine TC_cond_f rfl Bool.false_ne_true ?_
                refine TC_exit ?_
                rw [← Option.some.inj h]
                exact ⟨_, rfl, rfl, ⟨trivial, (Hp.drop [] (b := [(.gl (NG mx))]) hs)⟩⟩
            · intro e φ s hE
              rcases o with _u | v1
              · obtain ⟨rfl, hF, hs⟩ := hE
                rw [← hF.eq]
                rw [name_Check_a1] at h
                show if _ then _ else _
                rw [if_pos rfl]
                refine TC_seq ?_
                refine TC_reg ?_
                refine TO_as (v := (enc (0 : Int))) rfl ?_
                refine TO_nil ?_
                refine TC_ret ?_
                rw [← Option.some.inj h]
                exact ⟨rfl, KE1 (a := (0 : Int)) rfl rfl (rfl : is _ (0 : Int)) (rfl : is _ (0 : Int))⟩
              · obtain ⟨rfl, hF, hs⟩ := hE
                rw [← hF.eq]
                rw [name_Check_a1] at h
                show if _ then _ else _
                rw [if_neg (by simp)]
                rw [← Option.some.inj h]
                exact ⟨rfl, KE1 (a := (v1 : Int)) rfl rfl (rfl : is _ (v1 : Int)) (rfl : is _ (v1 : Int))⟩
theorem name_Check_pc (mx : Int) : PureC Tryd.prog 12 (FnG (NG mx) (fun a : Str × Unit => name_Check a.1)) := fnCG (pg0_ok mx) ⟨_, Tryd.func12, rfl⟩ fun a r h => name_Check_wf mx a.1 r h
noncomputable def pg1 (mx : Int) : Prims := (pg0 mx).addG 12 (FnG (NG mx) (fun a : Str × Unit => name_Check a.1))
theorem pg1_ok (mx : Int) : PrimsOk Tryd.prog (pg1 mx) := primsOk_addG (pg0_ok mx) (name_Check_pc mx)
theorem name_Split_wf (mx : Int) (s_ : Str) (r : (List Str) × Bool × Int) (h : name_Split s_ = some r) : MF Tryd.prog (pg1 mx) 16 [enc s_] (sG (NG mx)) fun v _ => ris v r := by
  refine TF_run [(0, enc s_)] Tryd.func16 rfl (by simp only [Tryd.f16]; rfl) fun ψ => ?_
  unfold name_Split at h
  have hs : Hp (sG (NG mx)) [.gl (NG mx)] := Hp.gl0
  refine TC_seq ?_
  refine TC_reg ?_
  refine TO_as (v := .nils) rfl ?_
  refine TO_as (v := (enc (false : Bool))) rfl ?_
  refine TO_as (v := (enc (0 : Int))) rfl ?_
  refine TO_nil ?_
  refine TC_scope ?_
  refine TC_seq ?_
  refine TC_block ?_
  refine TC_seq ?_
  refine TC_reg ?_
  refine TO_mv (v := (enc (s_ : Str))) rfl ?_
  refine TO_bi (v := (enc ((eqS s_ (str [])) : Bool))) rfl rfl rfl ?_
  refine TO_as (v := (enc ((eqS s_ (str [])) : Bool))) rfl ?_
  refine TO_nil ?_
  split at h
  · rename_i hcond
    refine TC_cond_t rfl hcond ?_
    refine TC_seq ?_
    refine TC_reg ?_
    refine TO_as (v := .nils) rfl ?_
    refine TO_as (v := (enc (false : Bool))) rfl ?_
    refine TO_as (v := (enc (206 : Int))) rfl ?_
    refine TO_nil ?_
    refine TC_ret ?_
    show if _ then _ else _
    rw [if_neg (by simp)]
    rw [← Option.some.inj h]
    exact ⟨rfl, KE3 (a1 := ([] : (List Str))) (a2 := (false : Bool)) (a3 := (206 : Int)) rfl rfl rfl rfl isL.nil (rfl : is _ (false : Bool)) (rfl : is _ (206 : Int)) ⟨_, _, _, rfl, isL.nil, (rfl : is _ (false : Bool)), (rfl : is _ (206 : Int))⟩⟩
  · rename_i hcond
    refine TC_cond_f rfl hcond ?_
    refine TC_seq ?_
    refine TC_reg ?_
    refine TO_mv (v := (enc (s_ : Str))) rfl ?_
    refine TO_lnS Tryd.underlying9 rfl rfl ?_
    refine TO_bi (v := (enc ((decide (((List.length s_ : Nat) : Int) > 1000)) : Bool))) rfl rfl rfl ?_
    refine TO_as (v := (enc ((decide (((List.length s_ : Nat) : Int) > 1000)) : Bool))) rfl ?_
    refine TO_nil ?_
    split at h
    · rename_i hcond
      refine TC_cond_t rfl hcond ?_
      refine TC_seq ?_
      refine TC_reg ?_
      refine TO_as (v := .nils) rfl ?_
      refine TO_as (v := (enc (false : Bool))) rfl ?_
      refine TO_as (v := (enc (208 : Int))) rfl ?_
      refine TO_nil ?_
      refine TC_ret ?_
      show if _ then _ else _
      rw [if_neg (by simp)]
      rw [← Option.some.inj h]
      exact ⟨rfl, KE3 (a1 := ([] : (List Str))) (a2 := (false : Bool)) (a3 := (208 : Int)) rfl rfl rfl rfl isL.nil (rfl : is _ (false : Bool)) (rfl : is _ (208 : Int)) ⟨_, _, _, rfl, isL.nil, (rfl : is _ (false : Bool)), (rfl : is _ (208 : Int))⟩⟩
    · rename_i hcond
      refine TC_cond_f rfl hcond ?_
      refine TC_seq ?_
      refine TC_reg ?_
      refine TO_mv (v := (enc (s_ : Str))) rfl ?_
      obtain ⟨c, hx, h⟩ := bs h
      refine TO_ixS Tryd.underlying9 rfl rfl hx ?_
      refine TO_bi (v := (enc ((((c).toNat : Int) != 47) : Bool))) rfl rfl rfl ?_
      refine TO_as (v := (enc ((((c).toNat : Int) != 47) : Bool))) rfl ?_
      refine TO_nil ?_
      split at h
      · rename_i hcond
        refine TC_cond_t rfl hcond ?_
        refine TC_seq ?_
        refine TC_reg ?_
        refine TO_as (v := .nils) rfl ?_
        refine TO_as (v := (enc (false : Bool))) rfl ?_
        refine TO_as (v := (enc (206 : Int))) rfl ?_
        refine TO_nil ?_
        refine TC_ret ?_
        show if _ then _ else _
        rw [if_neg (by simp)]
        rw [← Option.some.inj h]
        exact ⟨rfl, KE3 (a1 := ([] : (List Str))) (a2 := (false : Bool)) (a3 := (206 : Int)) rfl rfl rfl rfl isL.nil (rfl : is _ (false : Bool)) (rfl : is _ (206 : Int)) ⟨_, _, _, rfl, isL.nil, (rfl : is _ (false : Bool)), (rfl : is _ (206 : Int))⟩⟩
      · rename_i hcond
        refine TC_cond_f rfl hcond ?_
        refine TC_skip ?_
        refine TC_seq ?_
        refine TC_reg ?_
        refine TO_as (v := .nils) rfl ?_
        refine TO_nil ?_
        refine TC_seq ?_
        refine TC_reg ?_
        refine TO_as (v := (enc (false : Bool))) rfl ?_
        refine TO_nil ?_
        refine TC_seq ?_
        refine TC_label ?_
        refine TC_seq ?_
        refine TC_seq ?_
        refine TC_reg ?_
        refine TO_mv (v := (enc (s_ : Str))) rfl ?_
        obtain ⟨t, hx1, h⟩ := bs h
        refine TO_slS10 Tryd.underlying9 rfl rfl hx1 ?_
        obtain ⟨r_, hx2, h⟩ := bs h
        refine TO_fnG (f := fun a : Str × Str × Unit => strings_Split a.1 a.2.1) (a := (t, (str [47]), ())) rfl Tryd.func37 rfl rfl (.cons (a := (t : Str)) (Enc.self _) (.cons (a := ((str [47]) : Str)) (Enc.self _) .nil)) hs List.mem_cons_self hx2 ?_
        refine TO_ln Tryd.underlying31 rfl rfl (Enc.self r_) ?_
        refine TO_mv (v := (enc (0 : Int))) rfl ?_
        refine TO_nil ?_
        refine TC_block ?_
        obtain ⟨o, hl, h⟩ := bs h
        refine TC_loop (fun (p : ((List Str) × Bool × Int)) φ s => match p with | (out_, dir, v) => ∃ (x_out_ : AV), is x_out_ out_ ∧ canOwn x_out_ = true ∧ Fx φ [(5, x_out_), (6, (enc (dir : Bool))), (23, (enc (r_ : (List Str)))), (24, (enc ((r_.length : Int) : Int))), (25, (enc (v : Int)))] ∧ Hp s [(.gl (NG mx)), .own x_out_]) (fun (o : (((List Str) × Bool) ⊕ ((List Str) × Bool × Int))) e φ s => match o with | (.inl (out_1, dir1)) => e = .exit 1 ∧ ∃ (x_out_1 : AV), is x_out_1 out_1 ∧ canOwn x_out_1 = true ∧ Fx φ [(5, x_out_1), (6, (enc (dir1 : Bool)))] ∧ Hp s [(.gl (NG mx)), .own x_out_1] | (.inr (v1, v2, v3)) => e = .ret ∧ ∃ (x_v1 : AV), is x_v1 v1 ∧ Fx φ [(2, x_v1), (3, (enc (v2 : Bool))), (4, (enc (v3 : Int)))] ∧ Hp s [(.gl (NG mx))]) ?_ hl ⟨.nils, isL.nil, rfl, ⟨rfl, rfl, rfl, rfl, rfl, trivial⟩, (Hp.front [.own .nils] (b := []) (Hp.front [] (b := [(.gl (NG mx))]) (Hp.add hs rfl)))⟩ ?_
        · rintro ⟨out_, dir, v⟩ o h φ s ⟨x_out_, h_out_, h_out_c, hF, hs⟩
          rw [← hF.eq]
          rw [name_Split_l1] at h
          refine TC_seq ?_
          refine TC_reg ?_
          refine TO_bi (v := (enc ((decide (v < (r_.length : Int))) : Bool))) rfl rfl rfl ?_
          refine TO_nil ?_
          refine TC_seq ?_
          split at h
          · rename_i hcond
            refine TC_cond_t rfl hcond ?_
            refine TC_skip ?_
            refine TC_cut (fun φ s => ∃ (out_2 : (List Str)) (dir2 : Bool) (x_out_2 : AV), is x_out_2 out_2 ∧ canOwn x_out_2 = true ∧ Fx φ [(5, x_out_2), (6, (enc (dir2 : Bool))), (23, (enc (r_ : (List Str)))), (24, (enc ((r_.length : Int) : Int))), (25, (enc (v : Int)))] ∧ Hp s [(.gl (NG mx)), .own x_out_2] ∧ name_Split_j2 v out_2 dir2 = some o) ?_ ?_
            · refine TC_block ?_
              refine TC_seq ?_
              refine TC_reg ?_
              obtain ⟨v4, hx3, h⟩ := bs h
              refine TO_ix Tryd.underlying31 TTryd.sh9 rfl rfl (Enc.self r_) hx3 fun p hp => ?_
              refine TO_ld rfl TTryd.ag9 rfl hp fun y hy => ?_
              cases hy
              refine TO_as (v := (enc (v4 : Str))) rfl ?_
              refine TO_nil ?_
              refine TC_seq ?_
              refine TC_reg ?_
              refine TO_mv (v := (enc (v4 : Str))) rfl ?_
              refine TO_bi (v := (enc ((eqS v4 (str [])) : Bool))) rfl rfl rfl ?_
              refine TO_mv (v := (enc ((eqS v4 (str [])) : Bool))) rfl ?_
              obtain ⟨b, hb_b, h⟩ := bs h
              refine TO_cut 3 (fun φ s => Hp s [(.gl (NG mx)), .own x_out_] ∧ Fx φ [(5, x_out_), (8, (enc (v4 : Str))), (23, (enc (r_ : (List Str)))), (24, (enc ((r_.length : Int) : Int))), (25, (enc (v : Int))), (34, (enc (b : Bool)))]) ?_ ?_
              · split at hb_b
                · rename_i cg
                  refine TO_off rfl rfl (by simpa using cg) ?_
                  refine TO_off rfl rfl (by simpa using cg) ?_
                  refine TO_pt (v := (enc (true : Bool))) rfl cg rfl ?_
                  refine TO_nil ?_
                  rw [← Option.some.inj hb_b]
                  exact ⟨hs, ⟨rfl, rfl, rfl, rfl, rfl, rfl, trivial⟩⟩
                · rename_i cg1
                  refine TO_on rfl rfl (by simpa using cg1) ?_
                  refine TO_mv (v := (enc (v4 : Str))) rfl ?_
                  refine TO_on rfl rfl (by simpa using cg1) ?_
                  refine TO_bi (v := (enc ((eqS v4 (str [46])) : Bool))) rfl rfl rfl ?_
                  refine TO_pf (v := (enc ((eqS v4 (str [46])) : Bool))) rfl cg1 rfl ?_
                  refine TO_nil ?_
                  rw [← Option.some.inj hb_b]
                  exact ⟨hs, ⟨rfl, rfl, rfl, rfl, rfl, rfl, trivial⟩⟩
              · rintro φ s ⟨hs, hF⟩
                rw [← hF.eq]
                refine TO_as (v := (enc (b : Bool))) rfl ?_
                refine TO_nil ?_
                refine TC_seq ?_
                refine TC_seq ?_
                refine TC_reg ?_
                refine TO_mv (v := (enc (b : Bool))) rfl ?_
                refine TO_nil ?_
                split at h
                · rename_i hcond
                  refine TC_cond_t rfl hcond ?_
                  refine TC_exit ?_
                  show if _ then _ else _
                  rw [if_pos rfl]
                  exact ⟨out_, b, x_out_, h_out_, h_out_c, ⟨rfl, rfl, rfl, rfl, rfl, trivial⟩, hs, h⟩
                · rename_i hcond
                  refine TC_cond_f rfl hcond ?_
                  refine TC_skip ?_
                  refine TC_seq ?_
                  refine TC_seq ?_
                  refine TC_reg ?_
                  refine TO_mv (v := (enc (v4 : Str))) rfl ?_
                  obtain ⟨r_1, hx4, h⟩ := bs h
                  refine TO_fnG (f := fun a : Str × Unit => name_Check a.1) (a := (v4, ())) rfl Tryd.func12 rfl rfl (.cons (a := (v4 : Str)) (Enc.self _) .nil) hs List.mem_cons_self hx4 ?_
                  refine TO_as (v := (enc (r_1 : Int))) rfl ?_
                  refine TO_nil ?_
                  refine TC_seq ?_
                  refine TC_reg ?_
                  refine TO_mv (v := (enc (r_1 : Int))) rfl ?_
                  refine TO_bi (v := (enc ((r_1 != 0) : Bool))) rfl rfl rfl ?_
                  refine TO_mv (v := (enc ((r_1 != 0) : Bool))) rfl ?_
                  obtain ⟨b1, hb_b1, h⟩ := bs h
                  refine TO_cut 3 (fun φ s => Hp s [(.gl (NG mx)), .own x_out_] ∧ Fx φ [(5, x_out_), (6, (enc (b : Bool))), (8, (enc (v4 : Str))), (9, (enc (r_1 : Int))), (23, (enc (r_ : (List Str)))), (24, (enc ((r_.length : Int) : Int))), (25, (enc (v : Int))), (43, (enc (b1 : Bool)))]) ?_ ?_
                  · split at hb_b1
                    · rename_i cg2
                      refine TO_on rfl rfl cg2 ?_
                      refine TO_mv (v := (enc (v4 : Str))) rfl ?_
                      refine TO_on rfl rfl cg2 ?_
                      refine TO_bi (v := (enc ((!eqS v4 (str [46, 46])) : Bool))) rfl rfl rfl ?_
                      refine TO_pt (v := (enc ((!eqS v4 (str [46, 46])) : Bool))) rfl cg2 rfl ?_
                      refine TO_nil ?_
                      rw [← Option.some.inj hb_b1]
                      exact ⟨hs, ⟨rfl, rfl, rfl, rfl, rfl, rfl, rfl, rfl, trivial⟩⟩
                    · rename_i cg3
                      refine TO_off rfl rfl cg3 ?_
                      refine TO_off rfl rfl cg3 ?_
                      refine TO_pf (v := (enc (false : Bool))) rfl cg3 rfl ?_
                      refine TO_nil ?_
                      rw [← Option.some.inj hb_b1]
                      exact ⟨hs, ⟨rfl, rfl, rfl, rfl, rfl, rfl, rfl, rfl, trivial⟩⟩
                  · rintro φ s ⟨hs, hF⟩
                    rw [← hF.eq]
                    refine TO_nil ?_
                    split at h
                    · rename_i hcond
                      refine TC_cond_t rfl hcond ?_
                      refine TC_seq ?_
                      refine TC_reg ?_
                      refine TO_mv (v := (enc (r_1 : Int))) rfl ?_
                      refine TO_as (v := .nils) rfl ?_
                      refine TO_as (v := (enc (false : Bool))) rfl ?_
                      refine TO_as (v := (enc (r_1 : Int))) rfl ?_
                      refine TO_nil ?_
                      refine TC_ret ?_
                      show if _ then _ else _
                      rw [if_neg (by simp)]
                      rw [← Option.some.inj h]
                      exact ⟨_, rfl, rfl, ⟨.nils, isL.nil, ⟨rfl, rfl, rfl, trivial⟩, (Hp.drop [(.gl (NG mx))] (b := []) hs)⟩⟩
                    · rename_i hcond
                      refine TC_cond_f rfl hcond ?_
                      refine TC_skip ?_
                      refine TC_reg ?_
                      refine TO_mv (v := x_out_) rfl ?_
                      refine TO_mv (v := (enc (v4 : Str))) rfl ?_
                      refine TO_bs [(enc (v4 : Str))] ([v4] : (List Str)) Tryd.underlying31 TTryd.ef9 rfl rfl rfl (Nat.le_of_ble_eq_true rfl) ⟨(rfl : is _ (v4 : Str)), trivial⟩ fun z hz hzc hzn => ?_
                      obtain ⟨l, hx5, h⟩ := bs h
                      refine TO_ap [(.gl (NG mx))] (es2 := []) Tryd.underlying31 Tryd.underlying31 rfl rfl TTryd.ef9 rfl rfl h_out_ h_out_c hs hz hx5 fun z1 s hz1 hz1c hs => ?_
                      refine TO_as (v := z1) rfl ?_
                      refine TO_nil ?_
                      exact ⟨l, b, z1, hz1, hz1c, ⟨rfl, rfl, rfl, rfl, rfl, trivial⟩, hs, h⟩
            · rintro φ s ⟨out_2, dir2, x_out_2, h_out_2, h_out_2c, hF, hs, h⟩
              rw [← hF.eq]
              unfold name_Split_j2 at h
              refine TC_reg ?_
              refine TO_bi (v := (enc ((IntKind.i64.wrap (v + 1)) : Int))) rfl rfl rfl ?_
              refine TO_mv (v := (enc ((IntKind.i64.wrap (v + 1)) : Int))) rfl ?_
              refine TO_nil ?_
              rw [← Option.some.inj h]
              exact ⟨_, rfl, ⟨x_out_2, h_out_2, h_out_2c, ⟨rfl, rfl, rfl, rfl, rfl, trivial⟩, hs⟩⟩
          · rename_i hcond
            refine TC_cond_f rfl hcond ?_
            refine TC_exit ?_
            rw [← Option.some.inj h]
            exact ⟨_, rfl, rfl, ⟨x_out_, h_out_, h_out_c, ⟨rfl, rfl, trivial⟩, hs⟩⟩
        · intro e φ s hE
          rcases o with ⟨out_1, dir1⟩ | ⟨v1, v2, v3⟩
          · obtain ⟨rfl, x_out_1, h_out_1, h_out_1c, hF, hs⟩ := hE
            rw [← hF.eq]
            rw [name_Split_a1] at h
            show if _ then _ else _
            rw [if_pos rfl]
            refine TC_seq ?_
            refine TC_reg ?_
            refine TO_mv (v := x_out_1) rfl ?_
            refine TO_mv (v := (enc (dir1 : Bool))) rfl ?_
            refine TO_as (v := x_out_1) rfl ?_
            refine TO_as (v := (enc (dir1 : Bool))) rfl ?_
            refine TO_as (v := (enc (0 : Int))) rfl ?_
            refine TO_nil ?_
            refine TC_ret ?_
            rw [← Option.some.inj h]
            exact ⟨rfl, KE3 (a1 := (out_1 : (List Str))) (a2 := (dir1 : Bool)) (a3 := (0 : Int)) rfl rfl rfl rfl h_out_1 (rfl : is _ (dir1 : Bool)) (rfl : is _ (0 : Int)) ⟨_, _, _, rfl, h_out_1, (rfl : is _ (dir1 : Bool)), (rfl : is _ (0 : Int))⟩⟩
          · obtain ⟨rfl, x_v1, h_v1, hF, hs⟩ := hE
            rw [← hF.eq]
            rw [name_Split_a1] at h
            show if _ then _ else _
            rw [if_neg (by simp)]
            rw [← Option.some.inj h]
            exact ⟨rfl, KE3 (a1 := (v1 : (List Str))) (a2 := (v2 : Bool)) (a3 := (v3 : Int)) rfl rfl rfl rfl h_v1 (rfl : is _ (v2 : Bool)) (rfl : is _ (v3 : Int)) ⟨_, _, _, rfl, h_v1, (rfl : is _ (v2 : Bool)), (rfl : is _ (v3 : Int))⟩⟩
theorem name_Split_pc (mx : Int) : PureC Tryd.prog 16 (FnG (NG mx) (fun a : Str × Unit => name_Split a.1)) := fnCG (pg1_ok mx) ⟨_, Tryd.func16, rfl⟩ fun a r h => name_Split_wf mx a.1 r h
noncomputable def pg2 (mx : Int) : Prims := (pg1 mx).addG 16 (FnG (NG mx) (fun a : Str × Unit => name_Split a.1))
theorem pg2_ok (mx : Int) : PrimsOk Tryd.prog (pg2 mx) := primsOk_addG (pg1_ok mx) (name_Split_pc mx)
theorem name_Join_wf (mx : Int) (l : (List Str)) (r : Str) (h : name_Join l = some r) : MF Tryd.prog (pg2 mx) 25 [enc l] (sG (NG mx)) fun v _ => ris v r := by
  refine TF_run [(0, enc l)] Tryd.func25 rfl (by simp only [Tryd.f25]; rfl) fun ψ => ?_
  unfold name_Join at h
  have hs : Hp (sG (NG mx)) [.gl (NG mx)] := Hp.gl0
  refine TC_seq ?_
  refine TC_reg ?_
  refine TO_as (v := (enc ((str []) : Str))) rfl ?_
  refine TO_nil ?_
  refine TC_seq ?_
  refine TC_seq ?_
  refine TC_reg ?_
  refine TO_mv (v := (enc (l : (List Str)))) rfl ?_
  refine TO_ln Tryd.underlying31 rfl rfl (Enc.self l) ?_
  refine TO_bi (v := (enc (((l.length : Int) == 0) : Bool))) rfl rfl rfl ?_
  refine TO_nil ?_
  split at h
  · rename_i hcond
    refine TC_cond_t rfl hcond ?_
    refine TC_seq ?_
    refine TC_reg ?_
    refine TO_as (v := (enc ((str [47]) : Str))) rfl ?_
    refine TO_nil ?_
    refine TC_ret ?_
    rw [← Option.some.inj h]
    exact ⟨rfl, KE1 (a := ((str [47]) : Str)) rfl rfl (rfl : is _ ((str [47]) : Str)) (rfl : is _ ((str [47]) : Str))⟩
  · rename_i hcond
    refine TC_cond_f rfl hcond ?_
    refine TC_skip ?_
    refine TC_seq ?_
    refine TC_reg ?_
    refine TO_mv (v := (enc (l : (List Str)))) rfl ?_
    obtain ⟨r_, hx, h⟩ := bs h
    refine TO_fn (f := fun a : (List Str) × Str × Unit => strings_Join a.1 a.2.1) (a := (l, (str [47]), ())) rfl Tryd.func46 rfl rfl (.cons (a := (l : (List Str))) (Enc.self l) (.cons (a := ((str [47]) : Str)) (Enc.self _) .nil)) hx ?_
    obtain ⟨s_, hx1, h⟩ := bs h
    refine TO_cat rfl rfl hx1 ?_
    refine TO_as (v := (enc (s_ : Str))) rfl ?_
    refine TO_nil ?_
    refine TC_ret ?_
    rw [← Option.some.inj h]
    exact ⟨rfl, KE1 (a := (s_ : Str)) rfl rfl (rfl : is _ (s_ : Str)) (rfl : is _ (s_ : Str))⟩
theorem name_Join_pc (mx : Int) : PureC Tryd.prog 25 (FnG (NG mx) (fun a : (List Str) × Unit => name_Join a.1)) := fnCG (pg2_ok mx) ⟨_, Tryd.func25, rfl⟩ fun a r h => name_Join_wf mx a.1 r h
noncomputable def pg3 (mx : Int) : Prims := (pg2 mx).addG 25 (FnG (NG mx) (fun a : (List Str) × Unit => name_Join a.1))
theorem pg3_ok (mx : Int) : PrimsOk Tryd.prog (pg3 mx) := primsOk_addG (pg2_ok mx) (name_Join_pc mx)
theorem name_Order_wf (mx : Int) (a : Str) (b : Str) (r : Int) (h : name_Order a b = some r) : MF Tryd.prog (pg3 mx) 21 [enc a, enc b] (sG (NG mx)) fun v _ => ris v r := by
  refine TF_run [(0, enc a), (1, enc b)] Tryd.func21 rfl (by simp only [Tryd.f21]; rfl) fun ψ => ?_
  unfold name_Order at h
  have hs : Hp (sG (NG mx)) [.gl (NG mx)] := Hp.gl0
  refine TC_seq ?_
  refine TC_reg ?_
  refine TO_as (v := (enc (0 : Int))) rfl ?_
  refine TO_nil ?_
  refine TC_seq ?_
  refine TC_reg ?_
  refine TO_mv (v := (enc (a : Str))) rfl ?_
  refine TO_mv (v := (enc (b : Str))) rfl ?_
  refine TO_as (v := (enc (a : Str))) rfl ?_
  refine TO_as (v := (enc (b : Str))) rfl ?_
  refine TO_nil ?_
  refine TC_seq ?_
  refine TC_block ?_
  obtain ⟨o, hl, h⟩ := bs h
  refine TC_loop (fun (p : (Str × Str)) φ s => match p with | (x, y) => Fx φ [(0, (enc (a : Str))), (1, (enc (b : Str))), (5, (enc (x : Str))), (6, (enc (y : Str)))] ∧ Hp s [(.gl (NG mx))]) (fun (o : ((Str × Str) ⊕ Int)) e φ s => match o with | (.inl (x1, y1)) => e = .exit 0 ∧ Fx φ [(0, (enc (a : Str))), (1, (enc (b : Str))), (5, (enc (x1 : Str))), (6, (enc (y1 : Str)))] ∧ Hp s [(.gl (NG mx))] | (.inr v) => e = .ret ∧ Fx φ [(4, (enc (v : Int)))] ∧ Hp s [(.gl (NG mx))]) ?_ hl ⟨⟨rfl, rfl, rfl, rfl, trivial⟩, hs⟩ ?_
  · rintro ⟨x, y⟩ o h φ s ⟨hF, hs⟩
    rw [← hF.eq]
    rw [name_Order_l1] at h
    refine TC_seq ?_
    refine TC_seq ?_
    refine TC_reg ?_
    refine TO_mv (v := (enc (x : Str))) rfl ?_
    refine TO_bi (v := (enc ((!eqS x (str [])) : Bool))) rfl rfl rfl ?_
    refine TO_mv (v := (enc ((!eqS x (str [])) : Bool))) rfl ?_
    obtain ⟨b1, hb_b1, h⟩ := bs h
    refine TO_cut 3 (fun φ s => Hp s [(.gl (NG mx))] ∧ Fx φ [(0, (enc (a : Str))), (1, (enc (b : Str))), (5, (enc (x : Str))), (6, (enc (y : Str))), (19, (enc (b1 : Bool)))]) ?_ ?_
    · split at hb_b1
      · rename_i cg
        refine TO_on rfl rfl cg ?_
        refine TO_mv (v := (enc (y : Str))) rfl ?_
        refine TO_on rfl rfl cg ?_
        refine TO_bi (v := (enc ((!eqS y (str [])) : Bool))) rfl rfl rfl ?_
        refine TO_pt (v := (enc ((!eqS y (str [])) : Bool))) rfl cg rfl ?_
        refine TO_nil ?_
        rw [← Option.some.inj hb_b1]
        exact ⟨hs, ⟨rfl, rfl, rfl, rfl, rfl, trivial⟩⟩
      · rename_i cg1
        refine TO_off rfl rfl cg1 ?_
        refine TO_off rfl rfl cg1 ?_
        refine TO_pf (v := (enc (false : Bool))) rfl cg1 rfl ?_
        refine TO_nil ?_
        rw [← Option.some.inj hb_b1]
        exact ⟨hs, ⟨rfl, rfl, rfl, rfl, rfl, trivial⟩⟩
    · rintro φ s ⟨hs, hF⟩
      rw [← hF.eq]
      refine TO_nil ?_
      split at h
      · rename_i hcond
        refine TC_cond_t rfl hcond ?_
        refine TC_skip ?_
        refine TC_block ?_
        refine TC_seq ?_
        refine TC_reg ?_
        refine TO_mv (v := (enc (x : Str))) rfl ?_
        obtain ⟨r_, hx, h⟩ := bs h
        refine TO_fnG (f := fun a : Str × Unit => utf8_Decode a.1) (a := (x, ())) rfl Tryd.func39 rfl rfl (.cons (a := (x : Str)) (Enc.self _) .nil) hs List.mem_cons_self hx ?_
        refine TO_mv (v := (res r_)) rfl ?_
        refine TO_ex rfl rfl ?_
        refine TO_ex rfl rfl ?_
        refine TO_as (v := (enc (r_.1 : Rune))) rfl ?_
        refine TO_as (v := (enc (r_.2 : Int))) rfl ?_
        refine TO_nil ?_
        refine TC_seq ?_
        refine TC_reg ?_
        refine TO_mv (v := (enc (y : Str))) rfl ?_
        obtain ⟨r_1, hx1, h⟩ := bs h
        refine TO_fnG (f := fun a : Str × Unit => utf8_Decode a.1) (a := (y, ())) rfl Tryd.func39 rfl rfl (.cons (a := (y : Str)) (Enc.self _) .nil) hs List.mem_cons_self hx1 ?_
        refine TO_mv (v := (res r_1)) rfl ?_
        refine TO_ex rfl rfl ?_
        refine TO_ex rfl rfl ?_
        refine TO_as (v := (enc (r_1.1 : Rune))) rfl ?_
        refine TO_as (v := (enc (r_1.2 : Int))) rfl ?_
        refine TO_nil ?_
        refine TC_seq ?_
        refine TC_seq ?_
        refine TC_reg ?_
        refine TO_mv (v := (enc (r_.1 : Rune))) rfl ?_
        refine TO_mv (v := (enc (r_1.1 : Rune))) rfl ?_
        obtain ⟨r_2, hx2, h⟩ := bs h
        refine TO_fn (f := fun a : Rune × Rune × Unit => cmpR a.1 a.2.1) (a := (r_.1, r_1.1, ())) rfl Tryd.func40 rfl rfl (.cons (a := (r_.1 : Rune)) (Enc.self _) (.cons (a := (r_1.1 : Rune)) (Enc.self _) .nil)) hx2 ?_
        refine TO_as (v := (enc (r_2 : Int))) rfl ?_
        refine TO_nil ?_
        refine TC_seq ?_
        refine TC_reg ?_
        refine TO_mv (v := (enc (r_2 : Int))) rfl ?_
        refine TO_bi (v := (enc ((r_2 != 0) : Bool))) rfl rfl rfl ?_
        refine TO_nil ?_
        split at h
        · rename_i hcond
          refine TC_cond_t rfl hcond ?_
          refine TC_seq ?_
          refine TC_reg ?_
          refine TO_mv (v := (enc (r_2 : Int))) rfl ?_
          refine TO_as (v := (enc (r_2 : Int))) rfl ?_
          refine TO_nil ?_
          refine TC_ret ?_
          show if _ then _ else _
          rw [if_neg (by simp)]
          rw [← Option.some.inj h]
          exact ⟨_, rfl, rfl, ⟨⟨rfl, trivial⟩, hs⟩⟩
        · rename_i hcond
          refine TC_cond_f rfl hcond ?_
          refine TC_skip ?_
          refine TC_drawn (by decide +kernel) (by kernel_rfl) ?_
          refine TO_mv (v := (enc (x : Str))) rfl ?_
          refine TO_mv (v := (enc (r_.2 : Int))) rfl ?_
          obtain ⟨t, hx3, h⟩ := bs h
          refine TO_slS10 Tryd.underlying9 rfl rfl hx3 ?_
          refine TO_mv (v := (enc (y : Str))) rfl ?_
          refine TO_mv (v := (enc (r_1.2 : Int))) rfl ?_
          obtain ⟨t1, hx4, h⟩ := bs h
          refine TO_slS10 Tryd.underlying9 rfl rfl hx4 ?_
          refine TO_as (v := (enc (t : Str))) rfl ?_
          refine TO_as (v := (enc (t1 : Str))) rfl ?_
          refine TO_nil ?_
          rw [← Option.some.inj h]
          exact ⟨_, rfl, ⟨⟨rfl, rfl, rfl, rfl, trivial⟩, hs⟩⟩
      · rename_i hcond
        refine TC_cond_f rfl hcond ?_
        refine TC_exit ?_
        rw [← Option.some.inj h]
        exact ⟨_, rfl, rfl, ⟨⟨rfl, rfl, rfl, rfl, trivial⟩, hs⟩⟩
  · intro e φ s hE
    rcases o with ⟨x1, y1⟩ | v
    · obtain ⟨rfl, hF, hs⟩ := hE
      rw [← hF.eq]
      rw [name_Order_a1] at h
      show if _ then _ else _
      rw [if_pos rfl]
      refine TC_seq ?_
      refine TC_reg ?_
      refine TO_mv (v := (enc (x1 : Str))) rfl ?_
      refine TO_lnS Tryd.underlying9 rfl rfl ?_
      refine TO_mn rfl rfl ?_
      refine TO_mv (v := (enc (y1 : Str))) rfl ?_
      refine TO_lnS Tryd.underlying9 rfl rfl ?_
      refine TO_mn rfl rfl ?_
      obtain ⟨r_3, hx5, h⟩ := bs h
      refine TO_fn (f := fun a : Int × Int × Unit => cmpI a.1 a.2.1) (a := ((imin ((List.length x1 : Nat) : Int) 1), (imin ((List.length y1 : Nat) : Int) 1), ())) rfl Tryd.func42 rfl rfl (.cons (a := ((imin ((List.length x1 : Nat) : Int) 1) : Int)) (Enc.self _) (.cons (a := ((imin ((List.length y1 : Nat) : Int) 1) : Int)) (Enc.self _) .nil)) hx5 ?_
      refine TO_mv (v := (enc (a : Str))) rfl ?_
      refine TO_mv (v := (enc (b : Str))) rfl ?_
      obtain ⟨r_4, hx6, h⟩ := bs h
      refine TO_fn (f := fun a : Str × Str × Unit => cmpS a.1 a.2.1) (a := (a, b, ())) rfl Tryd.func43 rfl rfl (.cons (a := (a : Str)) (Enc.self _) (.cons (a := (b : Str)) (Enc.self _) .nil)) hx6 ?_
      refine TO_bs [(enc (r_3 : Int)), (enc (r_4 : Int))] ([r_3, r_4] : (List Int)) Tryd.underlying83 TTryd.ef3 rfl rfl rfl (Nat.le_of_ble_eq_true rfl) ⟨(rfl : is _ (r_3 : Int)), (rfl : is _ (r_4 : Int)), trivial⟩ fun z hz hzc hzn => ?_
      obtain ⟨r_5, hx7, h⟩ := bs h
      refine TO_fn (f := fun a : (List Int) × Unit => orI a.1) (a := ([r_3, r_4], ())) rfl Tryd.func41 rfl rfl (.cons (a := ([r_3, r_4] : (List Int))) hz .nil) hx7 ?_
      refine TO_as (v := (enc (r_5 : Int))) rfl ?_
      refine TO_nil ?_
      refine TC_ret ?_
      rw [← Option.some.inj h]
      exact ⟨rfl, KE1 (a := (r_5 : Int)) rfl rfl (rfl : is _ (r_5 : Int)) (rfl : is _ (r_5 : Int))⟩
    · obtain ⟨rfl, hF, hs⟩ := hE
      rw [← hF.eq]
      rw [name_Order_a1] at h
      show if _ then _ else _
      rw [if_neg (by simp)]
      rw [← Option.some.inj h]
      exact ⟨rfl, KE1 (a := (v : Int)) rfl rfl (rfl : is _ (v : Int)) (rfl : is _ (v : Int))⟩
theorem name_Order_pc (mx : Int) : PureC Tryd.prog 21 (FnG (NG mx) (fun a : Str × Str × Unit => name_Order a.1 a.2.1)) := fnCG (pg3_ok mx) ⟨_, Tryd.func21, rfl⟩ fun a r h => name_Order_wf mx a.1 a.2.1 r h
noncomputable def pg4 (mx : Int) : Prims := (pg3 mx).addG 21 (FnG (NG mx) (fun a : Str × Str × Unit => name_Order a.1 a.2.1))
theorem pg4_ok (mx : Int) : PrimsOk Tryd.prog (pg4 mx) := primsOk_addG (pg3_ok mx) (name_Order_pc mx)
theorem strings_Index_wf (mx : Int) (s_ : Str) (substr : Str) (r : Int) (h : strings_Index s_ substr = some r) : MF Tryd.prog (pg4 mx) 66 [enc s_, enc substr] (sG (NG mx)) fun v _ => ris v r := by
  refine TF_run [(0, enc s_), (1, enc substr)] Tryd.func66 rfl (by simp only [Tryd.f66]; rfl) fun ψ => ?_
  unfold strings_Index at h
  have hs : Hp (sG (NG mx)) [.gl (NG mx)] := Hp.gl0
  refine TC_seq ?_
  refine TC_reg ?_
  refine TO_as (v := (enc (0 : Int))) rfl ?_
  refine TO_nil ?_
  refine TC_seq ?_
  refine TC_reg ?_
  refine TO_mv (v := (enc (s_ : Str))) rfl ?_
  refine TO_mv (v := (enc (substr : Str))) rfl ?_
  obtain ⟨r_, hx, h⟩ := bs h
  refine TO_fnG (f := fun a : Str × Str × Unit => slite_Index a.1 a.2.1) (a := (s_, substr, ())) rfl Tryd.func65 rfl rfl (.cons (a := (s_ : Str)) (Enc.self _) (.cons (a := (substr : Str)) (Enc.self _) .nil)) hs List.mem_cons_self hx ?_
  refine TO_as (v := (enc (r_ : Int))) rfl ?_
  refine TO_nil ?_
  refine TC_ret ?_
  rw [← Option.some.inj h]
  exact ⟨rfl, KE1 (a := (r_ : Int)) rfl rfl (rfl : is _ (r_ : Int)) (rfl : is _ (r_ : Int))⟩
theorem strings_Index_pc (mx : Int) : PureC Tryd.prog 66 (FnG (NG mx) (fun a : Str × Str × Unit => strings_Index a.1 a.2.1)) := fnCG (pg4_ok mx) ⟨_, Tryd.func66, rfl⟩ fun a r h => strings_Index_wf mx a.1 a.2.1 r h
noncomputable def pg5 (mx : Int) : Prims := (pg4 mx).addG 66 (FnG (NG mx) (fun a : Str × Str × Unit => strings_Index a.1 a.2.1))
theorem pg5_ok (mx : Int) : PrimsOk Tryd.prog (pg5 mx) := primsOk_addG (pg4_ok mx) (strings_Index_pc mx)
theorem slite_Cut_wf (mx : Int) (s_ : Str) (sep : Str) (r : Str × Str × Bool) (h : slite_Cut s_ sep = some r) : MF Tryd.prog (pg5 mx) 50 [enc s_, enc sep] (sG (NG mx)) fun v _ => ris v r := by
  refine TF_run [(0, enc s_), (1, enc sep)] Tryd.func50 rfl (by simp only [Tryd.f50]; rfl) fun ψ => ?_
  unfold slite_Cut at h
  have hs : Hp (sG (NG mx)) [.gl (NG mx)] := Hp.gl0
  refine TC_seq ?_
  refine TC_reg ?_
  refine TO_as (v := (enc ((str []) : Str))) rfl ?_
  refine TO_as (v := (enc ((str []) : Str))) rfl ?_
  refine TO_as (v := (enc (false : Bool))) rfl ?_
  refine TO_nil ?_
  refine TC_seq ?_
  refine TC_seq ?_
  refine TC_reg ?_
  refine TO_mv (v := (enc (s_ : Str))) rfl ?_
  refine TO_mv (v := (enc (sep : Str))) rfl ?_
  obtain ⟨r_, hx, h⟩ := bs h
  refine TO_fnG (f := fun a : Str × Str × Unit => slite_Index a.1 a.2.1) (a := (s_, sep, ())) rfl Tryd.func65 rfl rfl (.cons (a := (s_ : Str)) (Enc.self _) (.cons (a := (sep : Str)) (Enc.self _) .nil)) hs List.mem_cons_self hx ?_
  refine TO_as (v := (enc (r_ : Int))) rfl ?_
  refine TO_nil ?_
  refine TC_seq ?_
  refine TC_reg ?_
  refine TO_mv (v := (enc (r_ : Int))) rfl ?_
  refine TO_bi (v := (enc ((decide (r_ ≥ 0)) : Bool))) rfl rfl rfl ?_
  refine TO_nil ?_
  split at h
  · rename_i hcond
    refine TC_cond_t rfl hcond ?_
    refine TC_seq ?_
    refine TC_drawn (by decide +kernel) (by kernel_rfl) ?_
    refine TO_mv (v := (enc (s_ : Str))) rfl ?_
    refine TO_mv (v := (enc (r_ : Int))) rfl ?_
    obtain ⟨t, hx1, h⟩ := bs h
    refine TO_slS01 Tryd.underlying9 rfl rfl hx1 ?_
    refine TO_mv (v := (enc (s_ : Str))) rfl ?_
    refine TO_mv (v := (enc (r_ : Int))) rfl ?_
    refine TO_mv (v := (enc (sep : Str))) rfl ?_
    refine TO_lnS Tryd.underlying9 rfl rfl ?_
    refine TO_bi (v := (enc ((IntKind.i64.wrap (r_ + ((List.length sep : Nat) : Int))) : Int))) rfl rfl rfl ?_
    obtain ⟨t1, hx2, h⟩ := bs h
    refine TO_slS10 Tryd.underlying9 rfl rfl hx2 ?_
    refine TO_as (v := (enc (t : Str))) rfl ?_
    refine TO_as (v := (enc (t1 : Str))) rfl ?_
    refine TO_as (v := (enc (true : Bool))) rfl ?_
    refine TO_nil ?_
    refine TC_ret ?_
    rw [← Option.some.inj h]
    exact ⟨rfl, KE3 (a1 := (t : Str)) (a2 := (t1 : Str)) (a3 := (true : Bool)) rfl rfl rfl rfl (rfl : is _ (t : Str)) (rfl : is _ (t1 : Str)) (rfl : is _ (true : Bool)) ⟨_, _, _, rfl, (rfl : is _ (t : Str)), (rfl : is _ (t1 : Str)), (rfl : is _ (true : Bool))⟩⟩
  · rename_i hcond
    refine TC_cond_f rfl hcond ?_
    refine TC_skip ?_
    refine TC_seq ?_
    refine TC_reg ?_
    refine TO_mv (v := (enc (s_ : Str))) rfl ?_
    refine TO_as (v := (enc (s_ : Str))) rfl ?_
    refine TO_as (v := (enc ((str []) : Str))) rfl ?_
    refine TO_as (v := (enc (false : Bool))) rfl ?_
    refine TO_nil ?_
    refine TC_ret ?_
    rw [← Option.some.inj h]
    exact ⟨rfl, KE3 (a1 := (s_ : Str)) (a2 := ((str []) : Str)) (a3 := (false : Bool)) rfl rfl rfl rfl (rfl : is _ (s_ : Str)) (rfl : is _ ((str []) : Str)) (rfl : is _ (false : Bool)) ⟨_, _, _, rfl, (rfl : is _ (s_ : Str)), (rfl : is _ ((str []) : Str)), (rfl : is _ (false : Bool))⟩⟩
theorem slite_Cut_pc (mx : Int) : PureC Tryd.prog 50 (FnG (NG mx) (fun a : Str × Str × Unit => slite_Cut a.1 a.2.1)) := fnCG (pg5_ok mx) ⟨_, Tryd.func50, rfl⟩ fun a r h => slite_Cut_wf mx a.1 a.2.1 r h
noncomputable def pg6 (mx : Int) : Prims := (pg5 mx).addG 50 (FnG (NG mx) (fun a : Str × Str × Unit => slite_Cut a.1 a.2.1))
theorem pg6_ok (mx : Int) : PrimsOk Tryd.prog (pg6 mx) := primsOk_addG (pg5_ok mx) (slite_Cut_pc mx)
theorem strings_Cut_wf (mx : Int) (s_ : Str) (sep : Str) (r : Str × Str × Bool) (h : strings_Cut s_ sep = some r) : MF Tryd.prog (pg6 mx) 29 [enc s_, enc sep] (sG (NG mx)) fun v _ => ris v r := by
  refine TF_run [(0, enc s_), (1, enc sep)] Tryd.func29 rfl (by simp only [Tryd.f29]; rfl) fun ψ => ?_
  unfold strings_Cut at h
  have hs : Hp (sG (NG mx)) [.gl (NG mx)] := Hp.gl0
  refine TC_seq ?_
  refine TC_reg ?_
  refine TO_as (v := (enc ((str []) : Str))) rfl ?_
  refine TO_as (v := (enc ((str []) : Str))) rfl ?_
  refine TO_as (v := (enc (false : Bool))) rfl ?_
  refine TO_nil ?_
  refine TC_seq ?_
  refine TC_reg ?_
  refine TO_mv (v := (enc (s_ : Str))) rfl ?_
  refine TO_mv (v := (enc (sep : Str))) rfl ?_
  obtain ⟨r_, hx, h⟩ := bs h
  refine TO_fnG (f := fun a : Str × Str × Unit => slite_Cut a.1 a.2.1) (a := (s_, sep, ())) rfl Tryd.func50 rfl rfl (.cons (a := (s_ : Str)) (Enc.self _) (.cons (a := (sep : Str)) (Enc.self _) .nil)) hs List.mem_cons_self hx ?_
  refine TO_ex rfl rfl ?_
  refine TO_ex rfl rfl ?_
  refine TO_ex rfl rfl ?_
  refine TO_as (v := (enc (r_.1 : Str))) rfl ?_
  refine TO_as (v := (enc (r_.2.1 : Str))) rfl ?_
  refine TO_as (v := (enc (r_.2.2 : Bool))) rfl ?_
  refine TO_nil ?_
  refine TC_ret ?_
  rw [← Option.some.inj h]
  exact ⟨rfl, KE3 (a1 := (r_.1 : Str)) (a2 := (r_.2.1 : Str)) (a3 := (r_.2.2 : Bool)) rfl rfl rfl rfl (rfl : is _ (r_.1 : Str)) (rfl : is _ (r_.2.1 : Str)) (rfl : is _ (r_.2.2 : Bool)) ⟨_, _, _, rfl, (rfl : is _ (r_.1 : Str)), (rfl : is _ (r_.2.1 : Str)), (rfl : is _ (r_.2.2 : Bool))⟩⟩
theorem strings_Cut_pc (mx : Int) : PureC Tryd.prog 29 (FnG (NG mx) (fun a : Str × Str × Unit => strings_Cut a.1 a.2.1)) := fnCG (pg6_ok mx) ⟨_, Tryd.func29, rfl⟩ fun a r h => strings_Cut_wf mx a.1 a.2.1 r h
noncomputable def pg7 (mx : Int) : Prims := (pg6 mx).addG 29 (FnG (NG mx) (fun a : Str × Str × Unit => strings_Cut a.1 a.2.1))
theorem pg7_ok (mx : Int) : PrimsOk Tryd.prog (pg7 mx) := primsOk_addG (pg6_ok mx) (strings_Cut_pc mx)
theorem name_digits_wf (mx : Int) (s_ : Str) (r : Rune × Bool) (h : name_digits s_ = some r) : MF Tryd.prog (pg7 mx) 51 [enc s_] (sG (NG mx)) fun v _ => ris v r := by
  refine TF_run [(0, enc s_)] Tryd.func51 rfl (by simp only [Tryd.f51]; rfl) fun ψ => ?_
  unfold name_digits at h
  have hs : Hp (sG (NG mx)) [.gl (NG mx)] := Hp.gl0
  refine TC_seq ?_
  refine TC_reg ?_
  refine TO_as (v := (enc ((Rune.mk 0) : Rune))) rfl ?_
  refine TO_as (v := (enc (false : Bool))) rfl ?_
  refine TO_nil ?_
  refine TC_seq ?_
  refine TC_reg ?_
  refine TO_as (v := (enc ((Rune.mk 0) : Rune))) rfl ?_
  refine TO_nil ?_
  refine TC_seq ?_
  refine TC_seq ?_
  refine TC_reg ?_
  refine TO_mv (v := (enc (s_ : Str))) rfl ?_
  refine TO_rg Tryd.underlying9 rfl hs fun m s hs => ?_
  refine TO_nil ?_
  refine TC_block ?_
  obtain ⟨o, hl, h⟩ := bs h
  refine TC_loop (fun (p : (Rune × Nat)) φ s => match p with | (x, v) => Fx φ [(0, (enc (s_ : Str))), (4, (enc (x : Rune))), (9, (.ptr m 0))] ∧ Hp s [(.gl (NG mx)), (.it m s_ v)]) (fun (o : (Rune ⊕ (Rune × Bool))) e φ s => match o with | (.inl x1) => e = .exit 0 ∧ Fx φ [(0, (enc (s_ : Str))), (4, (enc (x1 : Rune)))] ∧ Hp s [(.gl (NG mx))] | (.inr (v1, v2)) => e = .ret ∧ Fx φ [(2, (enc (v1 : Rune))), (3, (enc (v2 : Bool)))] ∧ Hp s [(.gl (NG mx))]) ?_ hl ⟨⟨rfl, rfl, rfl, trivial⟩, (Hp.front [(.it m s_ 0)] (b := []) (Hp.front [] (b := [(.gl (NG mx))]) hs))⟩ ?_
  · rintro ⟨x, v⟩ o h φ s ⟨hF, hs⟩
    rw [← hF.eq]
    rw [name_digits_l1] at h
    refine TC_seq ?_
    refine TC_reg ?_
    replace hs := Hp.front [(.gl (NG mx))] (b := []) hs
    split at h
    · rename_i cn
      refine TO_nx_t rfl hs cn fun s hs => ?_
      refine TO_ex rfl rfl ?_
      refine TO_nil ?_
      refine TC_seq ?_
      refine TC_cond_t rfl rfl ?_
      refine TC_skip ?_
      refine TC_block ?_
      refine TC_seq ?_
      refine TC_reg ?_
      refine TO_ex rfl rfl ?_
      refine TO_as (v := (enc ((runeAt s_ v) : Rune))) rfl ?_
      refine TO_nil ?_
      refine TC_seq ?_
      refine TC_reg ?_
      refine TO_mv (v := (enc ((runeAt s_ v) : Rune))) rfl ?_
      refine TO_cvRS Tryd.underlying21 Tryd.underlying9 rfl ?_
      obtain ⟨r_, hx, h⟩ := bs h
      refine TO_fnG (f := fun a : Str × Str × Unit => strings_Index a.1 a.2.1) (a := ((str [48, 49, 50, 51, 52, 53, 54, 55, 56, 57, 97, 98, 99, 100, 101, 102]), (encR (runeAt s_ v)), ())) (vs := [(enc ((str [48, 49, 50, 51, 52, 53, 54, 55, 56, 57, 97, 98, 99, 100, 101, 102]) : Str)), (enc ((encR (runeAt s_ v)) : Str))]) rfl Tryd.func66 rfl (by kernel_rfl) (.cons (a := ((str [48, 49, 50, 51, 52, 53, 54, 55, 56, 57, 97, 98, 99, 100, 101, 102]) : Str)) (Enc.self _) (.cons (a := ((encR (runeAt s_ v)) : Str)) (Enc.self _) .nil)) hs (List.mem_cons_of_mem _ List.mem_cons_self) hx ?_
      refine TO_as (v := (enc (r_ : Int))) rfl ?_
      refine TO_nil ?_
      refine TC_seq ?_
      refine TC_seq ?_
      refine TC_reg ?_
      refine TO_mv (v := (enc (r_ : Int))) rfl ?_
      refine TO_bi (v := (enc ((decide (r_ < 0)) : Bool))) rfl rfl rfl ?_
      refine TO_mv (v := (enc ((decide (r_ < 0)) : Bool))) rfl ?_
      obtain ⟨b, hb_b, h⟩ := bs h
      refine TO_cut 3 (fun φ s => Hp s [(.it m s_ (v + runeLen s_ v)), (.gl (NG mx))] ∧ Fx φ [(0, (enc (s_ : Str))), (4, (enc (x : Rune))), (7, (enc (r_ : Int))), (9, (.ptr m 0)), (21, (enc (b : Bool)))]) ?_ ?_
      · split at hb_b
        · rename_i cg
          refine TO_off rfl rfl (by simpa using cg) ?_
          refine TO_off rfl rfl (by simpa using cg) ?_
          refine TO_pt (v := (enc (true : Bool))) rfl cg rfl ?_
          refine TO_nil ?_
          rw [← Option.some.inj hb_b]
          exact ⟨hs, ⟨rfl, rfl, rfl, rfl, rfl, trivial⟩⟩
        · rename_i cg1
          refine TO_on rfl rfl (by simpa using cg1) ?_
          refine TO_mv (v := (enc (x : Rune))) rfl ?_
          refine TO_on rfl rfl (by simpa using cg1) ?_
          refine TO_bi (v := (enc ((decide (x.v > ((Rune.mk 1114111)).v)) : Bool))) rfl rfl rfl ?_
          refine TO_pf (v := (enc ((decide (x.v > ((Rune.mk 1114111)).v)) : Bool))) rfl cg1 rfl ?_
          refine TO_nil ?_
          rw [← Option.some.inj hb_b]
          exact ⟨hs, ⟨rfl, rfl, rfl, rfl, rfl, trivial⟩⟩
      · rintro φ s ⟨hs, hF⟩
        rw [← hF.eq]
        refine TO_nil ?_
        split at h
        · rename_i hcond
          refine TC_cond_t rfl hcond ?_
          refine TC_seq ?_
          refine TC_reg ?_
          refine TO_as (v := (enc ((Rune.mk 0) : Rune))) rfl ?_
          refine TO_as (v := (enc (false : Bool))) rfl ?_
          refine TO_nil ?_
          refine TC_ret ?_
          show if _ then _ else _
          rw [if_neg (by simp)]
          rw [← Option.some.inj h]
          exact ⟨_, rfl, rfl, ⟨⟨rfl, rfl, trivial⟩, (Hp.drop [] (b := [(.gl (NG mx))]) hs)⟩⟩
        · rename_i hcond
          refine TC_cond_f rfl hcond ?_
          refine TC_skip ?_
          refine TC_reg ?_
          refine TO_mv (v := (enc (x : Rune))) rfl ?_
          refine TO_bi (v := (enc ((Rune.mk (IntKind.i32.wrap (x.v * 2 ^ 4))) : Rune))) rfl rfl rfl ?_
          refine TO_mv (v := (enc (r_ : Int))) rfl ?_
          refine TO_cv Tryd.underlying3 Tryd.underlying21 rfl ?_
          refine TO_bi (v := (enc ((Rune.mk (IntKind.i32.wrap (bitOr .i32 ((Rune.mk (IntKind.i32.wrap (x.v * 2 ^ 4)))).v ((Rune.mk (IntKind.i32.wrap r_))).v))) : Rune))) rfl rfl rfl ?_
          refine TO_as (v := (enc ((Rune.mk (IntKind.i32.wrap (bitOr .i32 ((Rune.mk (IntKind.i32.wrap (x.v * 2 ^ 4)))).v ((Rune.mk (IntKind.i32.wrap r_))).v))) : Rune))) rfl ?_
          refine TO_nil ?_
          rw [← Option.some.inj h]
          exact ⟨_, rfl, ⟨⟨rfl, rfl, rfl, trivial⟩, (Hp.front [(.it m s_ (v + runeLen s_ v))] (b := []) (Hp.front [] (b := [(.gl (NG mx))]) hs))⟩⟩
    · rename_i cn
      refine TO_nx_f rfl hs cn ?_
      refine TO_ex rfl rfl ?_
      refine TO_nil ?_
      refine TC_seq ?_
      refine TC_cond_f rfl Bool.false_ne_true ?_
      refine TC_exit ?_
      rw [← Option.some.inj h]
      exact ⟨_, rfl, rfl, ⟨⟨rfl, rfl, trivial⟩, (Hp.drop [] (b := [(.gl (NG mx))]) hs)⟩⟩
  · intro e φ s hE
    rcases o with x1 | ⟨v1, v2⟩
    · obtain ⟨rfl, hF, hs⟩ := hE
      rw [← hF.eq]
      rw [name_digits_a1] at h
      show if _ then _ else _
      rw [if_pos rfl]
      refine TC_seq ?_
      refine TC_reg ?_
      refine TO_mv (v := (enc (x1 : Rune))) rfl ?_
      refine TO_mv (v := (enc (s_ : Str))) rfl ?_
      refine TO_bi (v := (enc ((!eqS s_ (str [])) : Bool))) rfl rfl rfl ?_
      refine TO_as (v := (enc (x1 : Rune))) rfl ?_
      refine TO_as (v := (enc ((!eqS s_ (str [])) : Bool))) rfl ?_
      refine TO_nil ?_
      refine TC_ret ?_
      rw [← Option.some.inj h]
      exact ⟨rfl, KE2 (a1 := (x1 : Rune)) (a2 := ((!eqS s_ (str [])) : Bool)) rfl rfl rfl (rfl : is _ (x1 : Rune)) (rfl : is _ ((!eqS s_ (str [])) : Bool)) ⟨_, _, rfl, (rfl : is _ (x1 : Rune)), (rfl : is _ ((!eqS s_ (str [])) : Bool))⟩⟩
    · obtain ⟨rfl, hF, hs⟩ := hE
      rw [← hF.eq]
      rw [name_digits_a1] at h
      show if _ then _ else _
      rw [if_neg (by simp)]
      rw [← Option.some.inj h]
      exact ⟨rfl, KE2 (a1 := (v1 : Rune)) (a2 := (v2 : Bool)) rfl rfl rfl (rfl : is _ (v1 : Rune)) (rfl : is _ (v2 : Bool)) ⟨_, _, rfl, (rfl : is _ (v1 : Rune)), (rfl : is _ (v2 : Bool))⟩⟩
theorem name_digits_pc (mx : Int) : PureC Tryd.prog 51 (FnG (NG mx) (fun a : Str × Unit => name_digits a.1)) := fnCG (pg7_ok mx) ⟨_, Tryd.func51, rfl⟩ fun a r h => name_digits_wf mx a.1 r h
noncomputable def pg8 (mx : Int) : Prims := (pg7 mx).addG 51 (FnG (NG mx) (fun a : Str × Unit => name_digits a.1))
theorem pg8_ok (mx : Int) : PrimsOk Tryd.prog (pg8 mx) := primsOk_addG (pg7_ok mx) (name_digits_pc mx)
theorem name_escape_wf (mx : Int) (s_ : Str) (r : Str × Str × Bool) (h : name_escape s_ = some r) : MF Tryd.prog (pg8 mx) 30 [enc s_] (sG (NG mx)) fun v _ => ris v r := by
  refine TF_run [(0, enc s_)] Tryd.func30 rfl (by simp only [Tryd.f30]; rfl) fun ψ => ?_
  unfold name_escape at h
  have hs : Hp (sG (NG mx)) [.gl (NG mx)] := Hp.gl0
  refine TC_seq ?_
  refine TC_reg ?_
  refine TO_as (v := (enc ((str []) : Str))) rfl ?_
  refine TO_as (v := (enc ((str []) : Str))) rfl ?_
  refine TO_as (v := (enc (false : Bool))) rfl ?_
  refine TO_nil ?_
  refine TC_seq ?_
  refine TC_block ?_
  refine TC_seq ?_
  refine TC_reg ?_
  refine TO_mv (v := (enc (s_ : Str))) rfl ?_
  refine TO_bi (v := (enc ((eqS s_ (str [])) : Bool))) rfl rfl rfl ?_
  refine TO_as (v := (enc ((eqS s_ (str [])) : Bool))) rfl ?_
  refine TO_nil ?_
  split at h
  · rename_i hcond
    refine TC_cond_t rfl hcond ?_
    refine TC_seq ?_
    refine TC_reg ?_
    refine TO_as (v := (enc ((str []) : Str))) rfl ?_
    refine TO_as (v := (enc ((str []) : Str))) rfl ?_
    refine TO_as (v := (enc (false : Bool))) rfl ?_
    refine TO_nil ?_
    refine TC_ret ?_
    show if _ then _ else _
    rw [if_neg (by simp)]
    rw [← Option.some.inj h]
    exact ⟨rfl, KE3 (a1 := ((str []) : Str)) (a2 := ((str []) : Str)) (a3 := (false : Bool)) rfl rfl rfl rfl (rfl : is _ ((str []) : Str)) (rfl : is _ ((str []) : Str)) (rfl : is _ (false : Bool)) ⟨_, _, _, rfl, (rfl : is _ ((str []) : Str)), (rfl : is _ ((str []) : Str)), (rfl : is _ (false : Bool))⟩⟩
  · rename_i hcond
    refine TC_cond_f rfl hcond ?_
    refine TC_seq ?_
    refine TC_reg ?_
    refine TO_mv (v := (enc (s_ : Str))) rfl ?_
    obtain ⟨c, hx, h⟩ := bs h
    refine TO_ixS Tryd.underlying9 rfl rfl hx ?_
    refine TO_bi (v := (enc ((((c).toNat : Int) == 34) : Bool))) rfl rfl rfl ?_
    refine TO_mv (v := (enc ((((c).toNat : Int) == 34) : Bool))) rfl ?_
    obtain ⟨b, hb_b, h⟩ := bs h
    refine TO_cut 4 (fun φ s => Hp s [(.gl (NG mx))] ∧ Fx φ [(0, (enc (s_ : Str))), (23, (enc (b : Bool)))]) ?_ ?_
    · split at hb_b
      · rename_i cg
        refine TO_off rfl rfl (by simpa using cg) ?_
        refine TO_off rfl rfl (by simpa using cg) ?_
        refine TO_off rfl rfl (by simpa using cg) ?_
        refine TO_pt (v := (enc (true : Bool))) rfl cg rfl ?_
        refine TO_nil ?_
        rw [← Option.some.inj hb_b]
        exact ⟨hs, ⟨rfl, rfl, trivial⟩⟩
      · rename_i cg1
        refine TO_on rfl rfl (by simpa using cg1) ?_
        refine TO_mv (v := (enc (s_ : Str))) rfl ?_
        refine TO_on rfl rfl (by simpa using cg1) ?_
        obtain ⟨c1, hx1, hb_b⟩ := bs hb_b
        refine TO_ixS Tryd.underlying9 rfl rfl hx1 ?_
        refine TO_on rfl rfl (by simpa using cg1) ?_
        refine TO_bi (v := (enc ((((c1).toNat : Int) == 92) : Bool))) rfl rfl rfl ?_
        refine TO_pf (v := (enc ((((c1).toNat : Int) == 92) : Bool))) rfl cg1 rfl ?_
        refine TO_nil ?_
        rw [← Option.some.inj hb_b]
        exact ⟨hs, ⟨rfl, rfl, trivial⟩⟩
    · rintro φ s ⟨hs, hF⟩
      rw [← hF.eq]
      refine TO_as (v := (enc (b : Bool))) rfl ?_
      refine TO_nil ?_
      split at h
      · rename_i hcond
        refine TC_cond_t rfl hcond ?_
        refine TC_seq ?_
        refine TC_drawn (by decide +kernel) (by kernel_rfl) ?_
        refine TO_mv (v := (enc (s_ : Str))) rfl ?_
        obtain ⟨t, hx2, h⟩ := bs h
        refine TO_slS01 Tryd.underlying9 rfl rfl hx2 ?_
        refine TO_mv (v := (enc (s_ : Str))) rfl ?_
        obtain ⟨t1, hx3, h⟩ := bs h
        refine TO_slS10 Tryd.underlying9 rfl rfl hx3 ?_
        refine TO_as (v := (enc (t : Str))) rfl ?_
        refine TO_as (v := (enc (t1 : Str))) rfl ?_
        refine TO_as (v := (enc (true : Bool))) rfl ?_
        refine TO_nil ?_
        refine TC_ret ?_
        show if _ then _ else _
        rw [if_neg (by simp)]
        rw [← Option.some.inj h]
        exact ⟨rfl, KE3 (a1 := (t : Str)) (a2 := (t1 : Str)) (a3 := (true : Bool)) rfl rfl rfl rfl (rfl : is _ (t : Str)) (rfl : is _ (t1 : Str)) (rfl : is _ (true : Bool)) ⟨_, _, _, rfl, (rfl : is _ (t : Str)), (rfl : is _ (t1 : Str)), (rfl : is _ (true : Bool))⟩⟩
      · rename_i hcond
        refine TC_cond_f rfl hcond ?_
        refine TC_seq ?_
        refine TC_reg ?_
        refine TO_mv (v := (enc (s_ : Str))) rfl ?_
        obtain ⟨c2, hx4, h⟩ := bs h
        refine TO_ixS Tryd.underlying9 rfl rfl hx4 ?_
        refine TO_bi (v := (enc ((((c2).toNat : Int) == 120) : Bool))) rfl rfl rfl ?_
        refine TO_mv (v := (enc ((((c2).toNat : Int) == 120) : Bool))) rfl ?_
        obtain ⟨b1, hb_b1, h⟩ := bs h
        refine TO_cut 4 (fun φ s => Hp s [(.gl (NG mx))] ∧ Fx φ [(0, (enc (s_ : Str))), (36, (enc (b1 : Bool)))]) ?_ ?_
        · split at hb_b1
          · rename_i cg2
            refine TO_on rfl rfl cg2 ?_
            refine TO_mv (v := (enc (s_ : Str))) rfl ?_
            refine TO_on rfl rfl cg2 ?_
            refine TO_lnS Tryd.underlying9 rfl rfl ?_
            refine TO_on rfl rfl cg2 ?_
            refine TO_bi (v := (enc ((decide (((List.length s_ : Nat) : Int) ≥ 3)) : Bool))) rfl rfl rfl ?_
            refine TO_pt (v := (enc ((decide (((List.length s_ : Nat) : Int) ≥ 3)) : Bool))) rfl cg2 rfl ?_
            refine TO_nil ?_
            rw [← Option.some.inj hb_b1]
            exact ⟨hs, ⟨rfl, rfl, trivial⟩⟩
          · rename_i cg3
            refine TO_off rfl rfl cg3 ?_
            refine TO_off rfl rfl cg3 ?_
            refine TO_off rfl rfl cg3 ?_
            refine TO_pf (v := (enc (false : Bool))) rfl cg3 rfl ?_
            refine TO_nil ?_
            rw [← Option.some.inj hb_b1]
            exact ⟨hs, ⟨rfl, rfl, trivial⟩⟩
        · rintro φ s ⟨hs, hF⟩
          rw [← hF.eq]
          refine TO_as (v := (enc (b1 : Bool))) rfl ?_
          refine TO_nil ?_
          split at h
          · rename_i hcond
            refine TC_cond_t rfl hcond ?_
            refine TC_seq ?_
            refine TC_reg ?_
            refine TO_mv (v := (enc (s_ : Str))) rfl ?_
            obtain ⟨t2, hx5, h⟩ := bs h
            refine TO_slS11 Tryd.underlying9 rfl rfl rfl hx5 ?_
            obtain ⟨r_, hx6, h⟩ := bs h
            refine TO_fnG (f := fun a : Str × Unit => name_digits a.1) (a := (t2, ())) rfl Tryd.func51 rfl rfl (.cons (a := (t2 : Str)) (Enc.self _) .nil) hs List.mem_cons_self hx6 ?_
            refine TO_mv (v := (res r_)) rfl ?_
            refine TO_ex rfl rfl ?_
            refine TO_ex rfl rfl ?_
            refine TO_as (v := (enc (r_.1 : Rune))) rfl ?_
            refine TO_as (v := (enc (r_.2 : Bool))) rfl ?_
            refine TO_nil ?_
            refine TC_seq ?_
            refine TC_drawn (by decide +kernel) (by kernel_rfl) ?_
            refine TO_mv (v := (enc (r_.1 : Rune))) rfl ?_
            refine TO_cvu8 Tryd.underlying21 Tryd.underlying5 rfl ?_
            refine TO_bs [(enc ((UInt8.ofInt r_.1.v) : UInt8))] ([(UInt8.ofInt r_.1.v)] : (List UInt8)) Tryd.underlying47 TTryd.ef5 rfl rfl rfl (Nat.le_of_ble_eq_true rfl) ⟨(rfl : is _ ((UInt8.ofInt r_.1.v) : UInt8)), trivial⟩ fun z hz hzc hzn => ?_
            refine TO_cvSB (st := str [(UInt8.ofInt r_.1.v)]) Tryd.underlying47 Tryd.underlying5 Tryd.underlying9 rfl hz ?_
            refine TO_mv (v := (enc (s_ : Str))) rfl ?_
            obtain ⟨t3, hx7, h⟩ := bs h
            refine TO_slS10 Tryd.underlying9 rfl rfl hx7 ?_
            refine TO_mv (v := (enc (r_.2 : Bool))) rfl ?_
            refine TO_as (v := (enc ((str [(UInt8.ofInt r_.1.v)]) : Str))) rfl ?_
            refine TO_as (v := (enc (t3 : Str))) rfl ?_
            refine TO_as (v := (enc (r_.2 : Bool))) rfl ?_
            refine TO_nil ?_
            refine TC_ret ?_
            show if _ then _ else _
            rw [if_neg (by simp)]
            rw [← Option.some.inj h]
            exact ⟨rfl, KE3 (a1 := ((str [(UInt8.ofInt r_.1.v)]) : Str)) (a2 := (t3 : Str)) (a3 := (r_.2 : Bool)) rfl rfl rfl rfl (rfl : is _ ((str [(UInt8.ofInt r_.1.v)]) : Str)) (rfl : is _ (t3 : Str)) (rfl : is _ (r_.2 : Bool)) ⟨_, _, _, rfl, (rfl : is _ ((str [(UInt8.ofInt r_.1.v)]) : Str)), (rfl : is _ (t3 : Str)), (rfl : is _ (r_.2 : Bool))⟩⟩
          · rename_i hcond
            refine TC_cond_f rfl hcond ?_
            refine TC_seq ?_
            refine TC_reg ?_
            refine TO_mv (v := (enc (s_ : Str))) rfl ?_
            obtain ⟨r_1, hx8, h⟩ := bs h
            refine TO_fn (f := fun a : Str × Str × Unit => strings_HasPrefix a.1 a.2.1) (a := (s_, (str [117, 123]), ())) rfl Tryd.func32 rfl rfl (.cons (a := (s_ : Str)) (Enc.self _) (.cons (a := ((str [117, 123]) : Str)) (Enc.self _) .nil)) hx8 ?_
            refine TO_as (v := (enc (r_1 : Bool))) rfl ?_
            refine TO_nil ?_
            split at h
            · rename_i hcond
              refine TC_cond_t rfl hcond ?_
              refine TC_seq ?_
              refine TC_reg ?_
              refine TO_mv (v := (enc (s_ : Str))) rfl ?_
              obtain ⟨t4, hx9, h⟩ := bs h
              refine TO_slS10 Tryd.underlying9 rfl rfl hx9 ?_
              obtain ⟨r_2, hx10, h⟩ := bs h
              refine TO_fnG (f := fun a : Str × Str × Unit => strings_Cut a.1 a.2.1) (a := (t4, (str [125]), ())) rfl Tryd.func29 rfl rfl (.cons (a := (t4 : Str)) (Enc.self _) (.cons (a := ((str [125]) : Str)) (Enc.self _) .nil)) hs List.mem_cons_self hx10 ?_
              refine TO_mv (v := (res r_2)) rfl ?_
              refine TO_ex rfl rfl ?_
              refine TO_ex rfl rfl ?_
              refine TO_ex rfl rfl ?_
              refine TO_as (v := (enc (r_2.1 : Str))) rfl ?_
              refine TO_as (v := (enc (r_2.2.1 : Str))) rfl ?_
              refine TO_as (v := (enc (r_2.2.2 : Bool))) rfl ?_
              refine TO_nil ?_
              refine TC_seq ?_
              refine TC_reg ?_
              refine TO_mv (v := (enc (r_2.1 : Str))) rfl ?_
              obtain ⟨r_3, hx11, h⟩ := bs h
              refine TO_fnG (f := fun a : Str × Unit => name_digits a.1) (a := (r_2.1, ())) rfl Tryd.func51 rfl rfl (.cons (a := (r_2.1 : Str)) (Enc.self _) .nil) hs List.mem_cons_self hx11 ?_
              refine TO_mv (v := (res r_3)) rfl ?_
              refine TO_ex rfl rfl ?_
              refine TO_ex rfl rfl ?_
              refine TO_as (v := (enc (r_3.1 : Rune))) rfl ?_
              refine TO_as (v := (enc (r_3.2 : Bool))) rfl ?_
              refine TO_nil ?_
              refine TC_seq ?_
              refine TC_reg ?_
              refine TO_mv (v := (enc (r_3.1 : Rune))) rfl ?_
              refine TO_cvRS Tryd.underlying21 Tryd.underlying9 rfl ?_
              refine TO_mv (v := (enc (r_2.2.1 : Str))) rfl ?_
              refine TO_mv (v := (enc (r_3.2 : Bool))) rfl ?_
              refine TO_mv (v := (enc (r_3.2 : Bool))) rfl ?_
              obtain ⟨b2, hb_b2, h⟩ := bs h
              refine TO_cut 2 (fun φ s => Hp s [(.gl (NG mx))] ∧ Fx φ [(66, (enc ((encR r_3.1) : Str))), (67, (enc (r_2.2.1 : Str))), (71, (enc (b2 : Bool)))]) ?_ ?_
              · split at hb_b2
                · rename_i cg4
                  refine TO_on rfl rfl cg4 ?_
                  refine TO_mv (v := (enc (r_2.2.2 : Bool))) rfl ?_
                  refine TO_pt (v := (enc (r_2.2.2 : Bool))) rfl cg4 rfl ?_
                  refine TO_nil ?_
                  rw [← Option.some.inj hb_b2]
                  exact ⟨hs, ⟨rfl, rfl, rfl, trivial⟩⟩
                · rename_i cg5
                  refine TO_off rfl rfl cg5 ?_
                  refine TO_pf (v := (enc (false : Bool))) rfl cg5 rfl ?_
                  refine TO_nil ?_
                  rw [← Option.some.inj hb_b2]
                  exact ⟨hs, ⟨rfl, rfl, rfl, trivial⟩⟩
              · rintro φ s ⟨hs, hF⟩
                rw [← hF.eq]
                refine TO_as (v := (enc ((encR r_3.1) : Str))) rfl ?_
                refine TO_as (v := (enc (r_2.2.1 : Str))) rfl ?_
                refine TO_as (v := (enc (b2 : Bool))) rfl ?_
                refine TO_nil ?_
                refine TC_ret ?_
                show if _ then _ else _
                rw [if_neg (by simp)]
                rw [← Option.some.inj h]
                exact ⟨rfl, KE3 (a1 := ((encR r_3.1) : Str)) (a2 := (r_2.2.1 : Str)) (a3 := (b2 : Bool)) rfl rfl rfl rfl (rfl : is _ ((encR r_3.1) : Str)) (rfl : is _ (r_2.2.1 : Str)) (rfl : is _ (b2 : Bool)) ⟨_, _, _, rfl, (rfl : is _ ((encR r_3.1) : Str)), (rfl : is _ (r_2.2.1 : Str)), (rfl : is _ (b2 : Bool))⟩⟩
            · rename_i hcond
              refine TC_cond_f rfl hcond ?_
              refine TC_skip ?_
              refine TC_seq ?_
              refine TC_reg ?_
              refine TO_as (v := (enc ((str []) : Str))) rfl ?_
              refine TO_as (v := (enc ((str []) : Str))) rfl ?_
              refine TO_as (v := (enc (false : Bool))) rfl ?_
              refine TO_nil ?_
              refine TC_ret ?_
              rw [← Option.some.inj h]
              exact ⟨rfl, KE3 (a1 := ((str []) : Str)) (a2 := ((str []) : Str)) (a3 := (false : Bool)) rfl rfl rfl rfl (rfl : is _ ((str []) : Str)) (rfl : is _ ((str []) : Str)) (rfl : is _ (false : Bool)) ⟨_, _, _, rfl, (rfl : is _ ((str []) : Str)), (rfl : is _ ((str []) : Str)), (rfl : is _ (false : Bool))⟩⟩
theorem name_escape_pc (mx : Int) : PureC Tryd.prog 30 (FnG (NG mx) (fun a : Str × Unit => name_escape a.1)) := fnCG (pg8_ok mx) ⟨_, Tryd.func30, rfl⟩ fun a r h => name_escape_wf mx a.1 r h
noncomputable def pg9 (mx : Int) : Prims := (pg8 mx).addG 30 (FnG (NG mx) (fun a : Str × Unit => name_escape a.1))
theorem pg9_ok (mx : Int) : PrimsOk Tryd.prog (pg9 mx) := primsOk_addG (pg8_ok mx) (name_escape_pc mx)
end Go.Ai.Rab
