/- My own texts DevPgC, DevPgD, one behind the other. -/
import Derived.Test.YtcffjblfdjkcbaaGreatDoorWAE
import Derived.Test.YtcffjblfdjkcbaaGreatDoorWAL
import Derived.Test.YtcffjblfdjkcbaaGreatDoorWAI
import Derived.Test.YtcffjblfdjkcbaaGreatDoorWAK
section
/- Functions of the program aS functions of values with types, and that the code answers aS they do. -/
set_option linter.unusedVariables false
set_option linter.unusedSimpArgs false
set_option maxRecDepth 100000
set_option maxHeartbeats 4000000
attribute [local irreducible] Go.Ai.TC Go.Ai.TO Go.Ai.MF Go.Ai.runeAt Go.Ai.runeLen Go.Ai.encR
open Go.Ai.Enc (enc is)
open Go.Ai.Res (res ris)
open Go.Ai.Args (args)
open Go.Ai.Flds (fe fi fk)
namespace Go.Ai

end Go.Ai
namespace Go.Ai.TTryz
open Go.Proofs
theorem ef20 : EF Tryz.prog 20 0 16 := EF_of (by kernel_rfl)
def zx89 : List AV := [enc (str []), .nils]
theorem zr89 : zeroT Tryz.prog 89 = some (.agg zx89) := by kernel_rfl
theorem zf89 : fi zx89 (Rec.mk ((str []), ([] : (List UInt8)), ()) : AttrR).v := ⟨_, _, rfl, rfl, ⟨_, _, rfl, isL.nil, rfl⟩⟩
end Go.Ai.TTryz
namespace Go.Ai.Rab
open Go.Proofs
noncomputable def name_Check_l1 (s_ : Str) : Nat → Option (Nat ⊕ (Unit ⊕ Int))
 | v => (if v < List.length s_ then ((if (((runeAt s_ v)).v == ((Rune.mk 47)).v) then some true else some (((runeAt s_ v)).v == ((Rune.mk 0)).v)).bind fun b2 => (if b2 then some (.inr (.inr 206)) else some (.inl (v + runeLen s_ v)))) else some (.inr (.inl ())))
noncomputable def name_Check_a1 : (Unit ⊕ Int) → Option (Int)
 | (.inl _) => some (0)
 | (.inr v1) => some (v1)
noncomputable def name_Check (s_ : Str) : Option (Int) :=
 (if (eqS s_ (str [])) then some (206) else (if (decide (((List.length s_ : Nat) : Int) > 100)) then some (208) else ((if (eqS s_ (str [46])) then some true else some (eqS s_ (str [46, 46]))).bind fun b => ((if b then some true else ((utf8_ValidString s_).bind fun r_ => some (!r_))).bind fun b1 => (if b1 then some (206) else ((loop (name_Check_l1 s_) 0).bind (name_Check_a1)))))))
noncomputable def obj_rising_l1 (l : (List Str)) : Int → Option (Int ⊕ (Unit ⊕ Bool))
 | v => (if (decide (v < (l.length : Int))) then ((nth l v).bind fun v2 => ((name_Check v2).bind fun r_ => ((if (r_ != 0) then some true else ((if (decide (v > 0)) then ((nth l (IntKind.i64.wrap (v - 1))).bind fun v3 => some (ltS v2 v3 || eqS v2 v3)) else some false).bind fun b1 => some b1)).bind fun b => (if b then some (.inr (.inr false)) else some (.inl (IntKind.i64.wrap (v + 1))))))) else some (.inr (.inl ())))
noncomputable def obj_rising_a1 : (Unit ⊕ Bool) → Option (Bool)
 | (.inl _) => some (true)
 | (.inr v1) => some (v1)
noncomputable def obj_rising (l : (List Str)) : Option (Bool) :=
 ((loop (obj_rising_l1 l) 0).bind (obj_rising_a1))
noncomputable def obj_attrs_l1 (l : (List AttrR)) : ((List Str) × Int) → Option (((List Str) × Int) ⊕ ((List Str) ⊕ Bool))
 | (names, v) => (if (decide (v < (l.length : Int))) then ((nth l v).bind fun v2 => ((app 16 names [v2.v.1]).bind fun l1 => (if (decide ((v2.v.2.1.length : Int) > 256)) then some (.inr (.inr false)) else some (.inl (l1, (IntKind.i64.wrap (v + 1))))))) else some (.inr (.inl names)))
noncomputable def obj_attrs_a1 (l : (List AttrR)) : ((List Str) ⊕ Bool) → Option (Bool)
 | (.inl names1) => ((if (decide ((l.length : Int) ≤ 8)) then ((obj_rising names1).bind fun r_ => some r_) else some false).bind fun b => some (b))
 | (.inr v1) => some (v1)
noncomputable def obj_attrs (l : (List AttrR)) : Option (Bool) :=
 ((loop (obj_attrs_l1 l) ([], 0)).bind (obj_attrs_a1 l))
noncomputable def obj_target (m : MetaR) : Option (Bool) :=
 (if (m.v.1 != 3) then some ((eqS m.v.2.2.2.2.1 (str []))) else ((if (!eqS m.v.2.2.2.2.1 (str [])) then some (decide (((List.length m.v.2.2.2.2.1 : Nat) : Int) ≤ 1000)) else some false).bind fun b => ((if b then ((str_Contains m.v.2.2.2.2.1 (str [0])).bind fun r_ => some (!r_)) else some false).bind fun b1 => ((if b1 then some (m.v.2.2.2.1 == 0) else some false).bind fun b2 => some (b2)))))
noncomputable def obj_meta_l1 (m : MetaR) : (Int × Int) → Option ((Int × Int) ⊕ (Int ⊕ Bool))
 | (n, v) => (if (decide (v < (m.v.2.2.2.2.2.2.1.length : Int))) then ((nth m.v.2.2.2.2.2.2.1 v).bind fun v2 => none) else some (.inr (.inl n)))
noncomputable def obj_meta_a1 (m : MetaR) : (Int ⊕ Bool) → Option (Bool)
 | (.inl n1) => some ((n1 == m.v.2.2.2.1))
 | (.inr v1) => some (v1)
noncomputable def obj_meta (m : MetaR) : Option (Bool) :=
 ((if (decide (m.v.2.1 ≥ 0)) then some (decide (m.v.2.1 ≤ 4095)) else some false).bind fun b => ((if b then some (decide (m.v.2.2.1 ≥ 0)) else some false).bind fun b1 => ((if b1 then some (decide (m.v.2.2.1 ≤ 64)) else some false).bind fun b2 => ((if b2 then some (decide (m.v.2.2.2.1 ≥ 0)) else some false).bind fun b3 => ((if b3 then some (decide (m.v.2.2.2.1 ≤ 32768)) else some false).bind fun b4 => ((if b4 then some (decide ((m.v.2.2.2.2.2.2.1.length : Int) ≤ 128)) else some false).bind fun b5 => ((if (decide (m.v.1 < 1)) then some true else some (decide (m.v.1 > 3))).bind fun b6 => ((if b6 then some true else some (!b5)).bind fun b7 => ((if b7 then some true else ((obj_target m).bind fun r_ => some (!r_))).bind fun b8 => ((if b8 then some true else ((obj_attrs m.v.2.2.2.2.2.1).bind fun r_1 => some (!r_1))).bind fun b9 => (if b9 then some (false) else ((loop (obj_meta_l1 m) (0, 0)).bind (obj_meta_a1 m)))))))))))))
noncomputable def obj_PutMeta_l1 (m : MetaR) : ((List UInt8) × Int) → Option (((List UInt8) × Int) ⊕ (List UInt8))
 | (b, v) => (if (decide (v < (m.v.2.2.2.2.2.1.length : Int))) then ((nth m.v.2.2.2.2.2.1 v).bind fun v1 => ((obj_put b [(toAny 9 (v1.v.1 : Str)), (toAny 33 (v1.v.2.1 : (List UInt8)))]).bind fun r_2 => some (.inl (r_2, (IntKind.i64.wrap (v + 1)))))) else some (.inr b))
noncomputable def obj_PutMeta_j3 (v2 : Int) (b4 : (List UInt8)) : Option (((List UInt8) × Int) ⊕ (List UInt8)) :=
 some (.inl (b4, (IntKind.i64.wrap (v2 + 1))))
noncomputable def obj_PutMeta_l2 (m : MetaR) : ((List UInt8) × Int) → Option (((List UInt8) × Int) ⊕ (List UInt8))
 | (b2, v2) => (if (decide (v2 < (m.v.2.2.2.2.2.2.1.length : Int))) then ((nth m.v.2.2.2.2.2.2.1 v2).bind fun v3 => (if (!eqS v3.v.1 (str [])) then ((obj_put b2 [(toAny 4 (true : Bool)), (toAny 122 (v3.v.1 : Str)), (toAny 3 (v3.v.2.2.2.1 : Int))]).bind fun r_4 => (obj_PutMeta_j3 v2 r_4)) else ((obj_put b2 [(toAny 4 (false : Bool)), (toAny 3 (v3.v.2.1 : Int)), (toAny 3 (v3.v.2.2.1 : Int)), (toAny 3 (v3.v.2.2.2.1 : Int))]).bind fun r_5 => (obj_PutMeta_j3 v2 r_5)))) else some (.inr b2))
noncomputable def obj_PutMeta_a2 : (List UInt8) → Option ((List UInt8) × Int)
 | b3 => some (b3, 0)
noncomputable def obj_PutMeta_a1 (m : MetaR) : (List UInt8) → Option ((List UInt8) × Int)
 | b1 => ((obj_put b1 [(toAny 3 ((m.v.2.2.2.2.2.2.1.length : Int) : Int))]).bind fun r_3 => ((loop (obj_PutMeta_l2 m) (r_3, 0)).bind (obj_PutMeta_a2)))
noncomputable def obj_PutMeta (m : MetaR) : Option ((List UInt8) × Int) :=
 ((obj_meta m).bind fun r_ => (if (!r_) then some ([], 80) else ((obj_put [] [(toAny 3 (m.v.1 : Int)), (toAny 3 (m.v.2.1 : Int)), (toAny 3 (m.v.2.2.1 : Int)), (toAny 3 (m.v.2.2.2.1 : Int)), (toAny 9 (m.v.2.2.2.2.1 : Str)), (toAny 3 ((m.v.2.2.2.2.2.1.length : Int) : Int))]).bind fun r_1 => ((loop (obj_PutMeta_l1 m) (r_1, 0)).bind (obj_PutMeta_a1 m)))))
noncomputable def obj_PutListing_l1 (l : ListingR) : ((List UInt8) × Int) → Option (((List UInt8) × Int) ⊕ (List UInt8))
 | (b3, v) => (if (decide (v < (l.v.2.1.length : Int))) then ((nth l.v.2.1 v).bind fun v1 => ((obj_put b3 [(toAny 9 (v1 : Str))]).bind fun r_3 => some (.inl (r_3, (IntKind.i64.wrap (v + 1)))))) else some (.inr b3))
noncomputable def obj_PutListing_l2 (l : ListingR) : ((List UInt8) × Int) → Option (((List UInt8) × Int) ⊕ (List UInt8))
 | (b5, v2) => (if (decide (v2 < (l.v.2.2.1.length : Int))) then ((nth l.v.2.2.1 v2).bind fun v3 => ((obj_put b5 [(toAny 3 (v3 : Int))]).bind fun r_4 => some (.inl (r_4, (IntKind.i64.wrap (v2 + 1)))))) else some (.inr b5))
noncomputable def obj_PutListing_a2 : (List UInt8) → Option ((List UInt8) × Int)
 | b6 => some (b6, 0)
noncomputable def obj_PutListing_a1 (l : ListingR) : (List UInt8) → Option ((List UInt8) × Int)
 | b4 => ((loop (obj_PutListing_l2 l) (b4, 0)).bind (obj_PutListing_a2))
noncomputable def obj_PutListing (l : ListingR) : Option ((List UInt8) × Int) :=
 ((if (decide ((l.v.2.1.length : Int) > 256)) then some true else some ((l.v.2.2.1.length : Int) != (l.v.2.1.length : Int))).bind fun b => ((if b then some true else ((obj_rising l.v.2.1).bind fun r_ => some (!r_))).bind fun b1 => ((if b1 then some true else ((sl_ContainsFunc l.v.2.2.1 (Clo.mk ((PtrC.mk l : PtrC ListingR), ()) : Clo 74 ((PtrC ListingR) × Unit))).bind fun r_1 => some r_1)).bind fun b2 => (if b2 then some ([], 80) else ((obj_put [] [(toAny 4 (l.v.1 : Bool)), (toAny 3 ((l.v.2.1.length : Int) : Int))]).bind fun r_2 => ((loop (obj_PutListing_l1 l) (r_2, 0)).bind (obj_PutListing_a1 l)))))))
noncomputable def plain_right (x : InodeR) : Option (Bool) :=
 ((obj_PutMeta (Rec.mk (x.v.2.1, x.v.2.2.1, x.v.2.2.2.1, (0 : Int), x.v.2.2.2.2.2.1, x.v.2.2.2.2.2.2.2.2.1, ([] : (List RefR)), ()) : MetaR)).bind fun r_ => ((if ((x.v.2.2.2.2.1.length : Int) == 0) then some true else ((if (x.v.2.1 == 1) then some (decide ((x.v.2.2.2.2.1.length : Int) ≤ 32768)) else some false).bind fun b1 => some b1)).bind fun b => ((if (r_.2 != 0) then some true else some (!b)).bind fun b2 => ((if b2 then some true else some (decide (x.v.1 < 1))).bind fun b3 => ((if b3 then some true else some (decide (x.v.1 > 1024))).bind fun b4 => (if b4 then some (false) else (if (x.v.2.1 != 2) then some (((IntKind.i64.wrap ((x.v.2.2.2.2.2.2.1.length : Int) + (x.v.2.2.2.2.2.2.2.1.length : Int))) == 0)) else ((obj_PutListing (Rec.mk (true, x.v.2.2.2.2.2.2.1, x.v.2.2.2.2.2.2.2.1, ()) : ListingR)).bind fun r_1 => ((if (r_1.2 == 0) then some (x.v.2.2.2.1 == 1) else some false).bind fun b5 => ((if b5 then some (decide ((x.v.2.2.2.2.2.2.1.length : Int) ≤ 128)) else some false).bind fun b6 => some (b6)))))))))))
theorem name_Check_wf (mx : Int) (s_ : Str) (r : Int) (h : name_Check s_ = some r) : MF Tryz.prog (pv0 mx) 64 [enc s_] (sG (NG mx)) fun v _ => ris v r := by
 refine TF_run [(0, enc s_)] Tryz.func64 rfl (by simp only [Tryz.f64]; rfl) fun ψ => ?_
 unfold name_Check at h
 have hs : Hp (sG (NG mx)) [.gl (NG mx)] := Hp.gl0
 refine TC_seq <| TC_reg <| TO_as (v := (enc (0 : Int))) rfl <| TO_nil <| TC_seq <| TC_block <| TC_seq <| TC_reg <| TO_mv rfl <| TO_bi (v := (enc ((eqS s_ (str [])) : Bool))) rfl rfl rfl <| TO_as rfl <| TO_nil ?_
 split at h
 ·rename_i hcond
  refine TC_cond_t rfl hcond <| TC_seq <| TC_reg <| TO_as (v := (enc (206 : Int))) rfl <| TO_nil <| TC_ret ?_
  show if _ then _ else _
  rw [if_neg (by simp)]
  rw [← Option.some.inj h]
  exact ⟨rfl, KE1 (a := (206 : Int)) rfl rfl (rfl : is _ (206 : Int)) (rfl : is _ (206 : Int))⟩
 ·rename_i hcond
  refine TC_cond_f rfl hcond <| TC_seq <| TC_reg <| TO_mv rfl <| TO_lnS Tryz.underlying9 rfl rfl <| TO_bi (v := (enc ((decide (((List.length s_ : Nat) : Int) > 100)) : Bool))) rfl rfl rfl <| TO_as rfl <| TO_nil ?_
  split at h
  ·rename_i hcond
   refine TC_cond_t rfl hcond <| TC_seq <| TC_reg <| TO_as (v := (enc (208 : Int))) rfl <| TO_nil <| TC_ret ?_
   show if _ then _ else _
   rw [if_neg (by simp)]
   rw [← Option.some.inj h]
   exact ⟨rfl, KE1 (a := (208 : Int)) rfl rfl (rfl : is _ (208 : Int)) (rfl : is _ (208 : Int))⟩
  ·rename_i hcond
   refine TC_cond_f rfl hcond <| TC_seq <| TC_reg <| TO_mv rfl <| TO_bi (v := (enc ((eqS s_ (str [46])) : Bool))) rfl rfl rfl <| TO_mv rfl ?_
   obtain ⟨b, hb_b, h⟩ := bs h
   refine TO_cut 3 (fun φ s => Hp s [(.gl (NG mx))] ∧ Fx φ [(0, (enc (s_ : Str))), (18, (enc (b : Bool)))]) ?_ ?_
   ·split at hb_b
    ·rename_i cg
     refine TO_off rfl rfl (by simpa using cg) <| TO_off rfl rfl (by simpa using cg) <| TO_pt (v := (enc (true : Bool))) rfl cg rfl <| TO_nil ?_
     rw [← Option.some.inj hb_b]
     exact ⟨hs, ⟨rfl, rfl, trivial⟩⟩
    ·rename_i cg1
     refine TO_on rfl rfl (by simpa using cg1) <| TO_mv rfl <| TO_on rfl rfl (by simpa using cg1) <| TO_bi (v := (enc ((eqS s_ (str [46, 46])) : Bool))) rfl rfl rfl <| TO_pf rfl cg1 rfl <| TO_nil ?_
     rw [← Option.some.inj hb_b]
     exact ⟨hs, ⟨rfl, rfl, trivial⟩⟩
   ·rintro φ s ⟨hs, hF⟩
    rw [← hF.eq]
    refine TO_mv rfl ?_
    obtain ⟨b1, hb_b1, h⟩ := bs h
    refine TO_cut 4 (fun φ s => Hp s [(.gl (NG mx))] ∧ Fx φ [(0, (enc (s_ : Str))), (23, (enc (b1 : Bool)))]) ?_ ?_
    ·split at hb_b1
     ·rename_i cg2
      refine TO_off rfl rfl (by simpa using cg2) <| TO_off rfl rfl (by simpa using cg2) <| TO_off rfl rfl (by simpa using cg2) <| TO_pt (v := (enc (true : Bool))) rfl cg2 rfl <| TO_nil ?_
      rw [← Option.some.inj hb_b1]
      exact ⟨hs, ⟨rfl, rfl, trivial⟩⟩
     ·rename_i cg3
      refine TO_on rfl rfl (by simpa using cg3) <| TO_mv rfl <| TO_on rfl rfl (by simpa using cg3) ?_
      obtain ⟨r_, hx, hb_b1⟩ := bs hb_b1
      refine TO_fnG (f := fun a : Str × Unit => utf8_ValidString a.1) (a := (s_, ())) rfl Tryz.func87 rfl rfl (.cons (a := (s_ : Str)) (Enc.self _) .nil) hs List.mem_cons_self hx <| TO_on rfl rfl (by simpa using cg3) <| TO_un (v := (enc ((!r_) : Bool))) rfl rfl <| TO_pf rfl cg3 rfl <| TO_nil ?_
      rw [← Option.some.inj hb_b1]
      exact ⟨hs, ⟨rfl, rfl, trivial⟩⟩
    ·rintro φ s ⟨hs, hF⟩
     rw [← hF.eq]
     refine TO_as rfl <| TO_nil ?_
     split at h
     ·rename_i hcond
      refine TC_cond_t rfl hcond <| TC_seq <| TC_reg <| TO_as (v := (enc (206 : Int))) rfl <| TO_nil <| TC_ret ?_
      show if _ then _ else _
      rw [if_neg (by simp)]
      rw [← Option.some.inj h]
      exact ⟨rfl, KE1 (a := (206 : Int)) rfl rfl (rfl : is _ (206 : Int)) (rfl : is _ (206 : Int))⟩
     ·rename_i hcond
      refine TC_cond_f rfl hcond <| TC_skip <| TC_seq <| TC_seq <| TC_reg <| TO_mv rfl <| TO_rg Tryz.underlying9 rfl hs fun m s hs => TO_nil <| TC_block ?_
      obtain ⟨o, hl, h⟩ := bs h
      refine TC_loop (fun (p : Nat) φ s => match p with | v => Fx φ [(25, (.ptr m 0))] ∧ Hp s [(.gl (NG mx)), (.it m s_ v)]) (fun (o : (Unit ⊕ Int)) e φ s => match o with | (.inl _) => e = .exit 1 ∧ Fx φ [] ∧ Hp s [(.gl (NG mx))] | (.inr v1) => e = .ret ∧ Fx φ [(2, (enc (v1 : Int)))] ∧ Hp s [(.gl (NG mx))]) ?_ hl ⟨⟨rfl, trivial⟩, (Hp.front [(.it m s_ 0)] (b := []) (Hp.front [] (b := [(.gl (NG mx))]) hs))⟩ ?_
      ·rintro v o h φ s ⟨hF, hs⟩
       rw [← hF.eq]
       rw [name_Check_l1] at h
       refine TC_seq <| TC_reg ?_
       replace hs := Hp.front [(.gl (NG mx))] (b := []) hs
       split at h
       ·rename_i cn
        refine TO_nx_t rfl hs cn fun s hs => TO_ex rfl rfl <| TO_nil <| TC_seq <| TC_cond_t rfl rfl <| TC_skip <| TC_block <| TC_seq <| TC_reg <| TO_ex rfl rfl <| TO_as rfl <| TO_nil <| TC_seq <| TC_reg <| TO_mv rfl ?_
        refine TO_bi (v := (enc ((((runeAt s_ v)).v == ((Rune.mk 47)).v) : Bool))) rfl rfl rfl <| TO_mv rfl ?_
        obtain ⟨b2, hb_b2, h⟩ := bs h
        refine TO_cut 3 (fun φ s => Hp s [(.it m s_ (v + runeLen s_ v)), (.gl (NG mx))] ∧ Fx φ [(25, (.ptr m 0)), (34, (enc (b2 : Bool)))]) ?_ ?_
        ·split at hb_b2
         ·rename_i cg4
          refine TO_off rfl rfl (by simpa using cg4) <| TO_off rfl rfl (by simpa using cg4) <| TO_pt (v := (enc (true : Bool))) rfl cg4 rfl <| TO_nil ?_
          rw [← Option.some.inj hb_b2]
          exact ⟨hs, ⟨rfl, rfl, trivial⟩⟩
         ·rename_i cg5
          refine TO_on rfl rfl (by simpa using cg5) <| TO_mv rfl <| TO_on rfl rfl (by simpa using cg5) <| TO_bi (v := (enc ((((runeAt s_ v)).v == ((Rune.mk 0)).v) : Bool))) rfl rfl rfl <| TO_pf rfl cg5 rfl <| TO_nil ?_
          rw [← Option.some.inj hb_b2]
          exact ⟨hs, ⟨rfl, rfl, trivial⟩⟩
        ·rintro φ s ⟨hs, hF⟩
         rw [← hF.eq]
         refine TO_nil ?_
         split at h
         ·rename_i hcond
          refine TC_cond_t rfl hcond <| TC_seq <| TC_reg <| TO_as (v := (enc (206 : Int))) rfl <| TO_nil <| TC_ret ?_
          show if _ then _ else _
          rw [if_neg (by simp)]
          rw [← Option.some.inj h]
          exact ⟨_, rfl, rfl, ⟨⟨rfl, trivial⟩, (Hp.drop [] (b := [(.gl (NG mx))]) hs)⟩⟩
         ·rename_i hcond
          refine TC_cond_f rfl hcond <| TC_skip ?_
          rw [← Option.some.inj h]
          exact ⟨_, rfl, ⟨⟨rfl, trivial⟩, (Hp.front [(.it m s_ (v + runeLen s_ v))] (b := []) (Hp.front [] (b := [(.gl (NG mx))]) hs))⟩⟩
       ·rename_i cn
        refine TO_nx_f rfl hs cn <| TO_ex rfl rfl <| TO_nil <| TC_seq <| TC_cond_f rfl Bool.false_ne_true <| TC_exit ?_
        rw [← Option.some.inj h]
        exact ⟨_, rfl, rfl, ⟨trivial, (Hp.drop [] (b := [(.gl (NG mx))]) hs)⟩⟩
      ·intro e φ s hE
       rcases o with _u | v1
       ·obtain ⟨rfl, hF, hs⟩ := hE
        rw [← hF.eq]
        rw [name_Check_a1] at h
        show if _ then _ else _
        rw [if_pos rfl]
        refine TC_seq <| TC_reg <| TO_as (v := (enc (0 : Int))) rfl <| TO_nil <| TC_ret ?_
        rw [← Option.some.inj h]
        exact ⟨rfl, KE1 (a := (0 : Int)) rfl rfl (rfl : is _ (0 : Int)) (rfl : is _ (0 : Int))⟩
       ·obtain ⟨rfl, hF, hs⟩ := hE
        rw [← hF.eq]
        rw [name_Check_a1] at h
        show if _ then _ else _
        rw [if_neg (by simp)]
        rw [← Option.some.inj h]
        exact ⟨rfl, KE1 (a := (v1 : Int)) rfl rfl (rfl : is _ (v1 : Int)) (rfl : is _ (v1 : Int))⟩
theorem name_Check_pc (mx : Int) : PureC Tryz.prog 64 (FnG (NG mx) (fun a : Str × Unit => name_Check a.1)) := fnCG (pv0_ok mx) ⟨_, Tryz.func64, rfl⟩ <| fun a r h => name_Check_wf mx a.1 r h
noncomputable def pv1 (mx : Int) : Prims := (pv0 mx).addG 64 (FnG (NG mx) (fun a : Str × Unit => name_Check a.1))
theorem pv1_ok (mx : Int) : PrimsOk Tryz.prog (pv1 mx) := primsOk_addG (pv0_ok mx) (name_Check_pc mx)
theorem obj_rising_wf (mx : Int) (l : (List Str)) (r : Bool) (h : obj_rising l = some r) : MF Tryz.prog (pv1 mx) 75 [enc l] (sG (NG mx)) fun v _ => ris v r := by
 refine TF_run [(0, enc l)] Tryz.func75 rfl (by simp only [Tryz.f75]; rfl) fun ψ => ?_
 unfold obj_rising at h
 have hs : Hp (sG (NG mx)) [.gl (NG mx)] := Hp.gl0
 refine TC_seq <| TC_reg <| TO_as (v := (enc (false : Bool))) rfl <| TO_nil <| TC_seq <| TC_seq <| TC_reg <| TO_mv rfl <| TO_ln Tryz.underlying34 rfl rfl (Enc.self l) <| TO_mv (v := (enc (0 : Int))) rfl <| TO_nil <| TC_block ?_
 obtain ⟨o, hl, h⟩ := bs h
 refine TC_loop (fun (p : Int) φ s => match p with | v => Fx φ [(0, (enc (l : (List Str)))), (5, (enc (l : (List Str)))), (6, (enc ((l.length : Int) : Int))), (7, (enc (v : Int)))] ∧ Hp s [(.gl (NG mx))]) (fun (o : (Unit ⊕ Bool)) e φ s => match o with | (.inl _) => e = .exit 0 ∧ Fx φ [] ∧ Hp s [(.gl (NG mx))] | (.inr v1) => e = .ret ∧ Fx φ [(2, (enc (v1 : Bool)))] ∧ Hp s [(.gl (NG mx))]) ?_ hl ⟨⟨rfl, rfl, rfl, rfl, trivial⟩, hs⟩ ?_
 ·rintro v o h φ s ⟨hF, hs⟩
  rw [← hF.eq]
  rw [obj_rising_l1] at h
  refine TC_seq <| TC_reg <| TO_bi (v := (enc ((decide (v < (l.length : Int))) : Bool))) rfl rfl rfl <| TO_nil <| TC_seq ?_
  split at h
  ·rename_i hcond
   refine TC_cond_t rfl hcond <| TC_skip <| TC_seq <| TC_block <| TC_seq <| TC_reg <| TO_mv rfl ?_
   obtain ⟨v2, hx, h⟩ := bs h
   refine TO_ix Tryz.underlying34 TTryz.sh9 rfl rfl (Enc.self l) hx fun p hp => TO_ld rfl TTryz.ag9 rfl hp fun y hy => ?_
   cases hy
   refine TO_as rfl <| TO_as rfl <| TO_nil <| TC_seq <| TC_reg <| TO_mv rfl ?_
   obtain ⟨r_, hx1, h⟩ := bs h
   refine TO_fnG (f := fun a : Str × Unit => name_Check a.1) (a := (v2, ())) rfl Tryz.func64 rfl rfl (.cons (a := (v2 : Str)) (Enc.self _) .nil) hs List.mem_cons_self hx1 <| TO_bi (v := (enc ((r_ != 0) : Bool))) rfl rfl rfl <| TO_mv rfl ?_
   obtain ⟨b, hb_b, h⟩ := bs h
   refine TO_cut 12 (fun φ s => Hp s [(.gl (NG mx))] ∧ Fx φ [(0, (enc (l : (List Str)))), (5, (enc (l : (List Str)))), (6, (enc ((l.length : Int) : Int))), (7, (enc (v : Int))), (27, (enc (b : Bool)))]) ?_ ?_
   ·split at hb_b
    ·rename_i cg
     refine TO_off rfl rfl (by simpa using cg) <| TO_off rfl rfl (by simpa using cg) <| TO_off rfl rfl (by simpa using cg) <| TO_offU rfl rfl <| TO_offU rfl rfl <| TO_offU rfl rfl <| TO_offU rfl rfl <| TO_offU rfl rfl <| TO_offU rfl rfl <| TO_offU rfl rfl <| TO_off rfl rfl (by simpa using cg) <| TO_pt (v := (enc (true : Bool))) rfl cg rfl <| TO_nil ?_
     rw [← Option.some.inj hb_b]
     exact ⟨hs, ⟨rfl, rfl, rfl, rfl, rfl, trivial⟩⟩
    ·rename_i cg1
     refine TO_on rfl rfl (by simpa using cg1) <| TO_mv rfl <| TO_on rfl rfl (by simpa using cg1) <| TO_bi (v := (enc ((decide (v > 0)) : Bool))) rfl rfl rfl <| TO_on rfl rfl (by simpa using cg1) <| TO_mv rfl ?_
     obtain ⟨b1, hb_b1, hb_b⟩ := bs hb_b
     refine TO_cut 8 (fun φ s => Hp s [(.gl (NG mx))] ∧ Fx φ [(0, (enc (l : (List Str)))), (5, (enc (l : (List Str)))), (6, (enc ((l.length : Int) : Int))), (7, (enc (v : Int))), (15, (enc ((r_ != 0) : Bool))), (26, (enc (b1 : Bool)))]) ?_ ?_
     ·split at hb_b1
      ·rename_i cg2
       refine TO_on rfl rfl cg2 <| TO_mv rfl <| TO_on rfl rfl cg2 <| TO_mv rfl <| TO_on rfl rfl cg2 <| TO_mv rfl <| TO_on rfl rfl cg2 <| TO_bi (v := (enc ((IntKind.i64.wrap (v - 1)) : Int))) rfl rfl rfl <| TO_on rfl rfl cg2 ?_
       obtain ⟨v3, hx2, hb_b1⟩ := bs hb_b1
       refine TO_ix Tryz.underlying34 TTryz.sh9 rfl rfl (Enc.self l) hx2 fun p1 hp1 => TO_on rfl rfl cg2 <| TO_ld rfl TTryz.ag9 rfl hp1 fun y1 hy1 => ?_
       cases hy1
       refine TO_on rfl rfl cg2 <| TO_bi (v := (enc ((ltS v2 v3 || eqS v2 v3) : Bool))) rfl rfl rfl <| TO_on rfl rfl (by simpa using cg1) <| TO_pt rfl cg2 rfl <| TO_nil ?_
       rw [← Option.some.inj hb_b1]
       exact ⟨hs, ⟨rfl, rfl, rfl, rfl, rfl, rfl, trivial⟩⟩
      ·rename_i cg3
       refine TO_off rfl rfl cg3 <| TO_off rfl rfl cg3 <| TO_off rfl rfl cg3 <| TO_off rfl rfl cg3 <| TO_off rfl rfl cg3 <| TO_off rfl rfl cg3 <| TO_off rfl rfl cg3 <| TO_on rfl rfl (by simpa using cg1) <| TO_pf (v := (enc (false : Bool))) rfl cg3 rfl <| TO_nil ?_
       rw [← Option.some.inj hb_b1]
       exact ⟨hs, ⟨rfl, rfl, rfl, rfl, rfl, rfl, trivial⟩⟩
     ·rintro φ s ⟨hs, hF⟩
      rw [← hF.eq]
      refine TO_pf rfl cg1 rfl <| TO_nil ?_
      rw [← Option.some.inj hb_b]
      exact ⟨hs, ⟨rfl, rfl, rfl, rfl, rfl, trivial⟩⟩
   ·rintro φ s ⟨hs, hF⟩
    rw [← hF.eq]
    refine TO_nil ?_
    split at h
    ·rename_i hcond
     refine TC_cond_t rfl hcond <| TC_seq <| TC_reg <| TO_as (v := (enc (false : Bool))) rfl <| TO_nil <| TC_ret ?_
     show if _ then _ else _
     rw [if_neg (by simp)]
     rw [← Option.some.inj h]
     exact ⟨_, rfl, rfl, ⟨⟨rfl, trivial⟩, hs⟩⟩
    ·rename_i hcond
     refine TC_cond_f rfl hcond <| TC_skip <| TC_reg <| TO_bi (v := (enc ((IntKind.i64.wrap (v + 1)) : Int))) rfl rfl rfl <| TO_mv rfl <| TO_nil ?_
     rw [← Option.some.inj h]
     exact ⟨_, rfl, ⟨⟨rfl, rfl, rfl, rfl, trivial⟩, hs⟩⟩
  ·rename_i hcond
   refine TC_cond_f rfl hcond <| TC_exit ?_
   rw [← Option.some.inj h]
   exact ⟨_, rfl, rfl, ⟨trivial, hs⟩⟩
 ·intro e φ s hE
  rcases o with _u | v1
  ·obtain ⟨rfl, hF, hs⟩ := hE
   rw [← hF.eq]
   rw [obj_rising_a1] at h
   show if _ then _ else _
   rw [if_pos rfl]
   refine TC_seq <| TC_reg <| TO_as (v := (enc (true : Bool))) rfl <| TO_nil <| TC_ret ?_
   rw [← Option.some.inj h]
   exact ⟨rfl, KE1 (a := (true : Bool)) rfl rfl (rfl : is _ (true : Bool)) (rfl : is _ (true : Bool))⟩
  ·obtain ⟨rfl, hF, hs⟩ := hE
   rw [← hF.eq]
   rw [obj_rising_a1] at h
   show if _ then _ else _
   rw [if_neg (by simp)]
   rw [← Option.some.inj h]
   exact ⟨rfl, KE1 (a := (v1 : Bool)) rfl rfl (rfl : is _ (v1 : Bool)) (rfl : is _ (v1 : Bool))⟩
theorem obj_rising_pc (mx : Int) : PureC Tryz.prog 75 (FnG (NG mx) (fun a : (List Str) × Unit => obj_rising a.1)) := fnCG (pv1_ok mx) ⟨_, Tryz.func75, rfl⟩ <| fun a r h => obj_rising_wf mx a.1 r h
noncomputable def pv2 (mx : Int) : Prims := (pv1 mx).addG 75 (FnG (NG mx) (fun a : (List Str) × Unit => obj_rising a.1))
theorem pv2_ok (mx : Int) : PrimsOk Tryz.prog (pv2 mx) := primsOk_addG (pv1_ok mx) (obj_rising_pc mx)
theorem obj_attrs_wf (mx : Int) (l : (List AttrR)) (r : Bool) (h : obj_attrs l = some r) : MF Tryz.prog (pv2 mx) 97 [enc l] (sG (NG mx)) fun v _ => ris v r := by
 refine TF_run [(0, enc l)] Tryz.func97 rfl (by simp only [Tryz.f97]; rfl) fun ψ => ?_
 unfold obj_attrs at h
 have hs : Hp (sG (NG mx)) [.gl (NG mx)] := Hp.gl0
 refine TC_seq <| TC_reg <| TO_as (v := (enc (false : Bool))) rfl <| TO_nil <| TC_seq <| TC_reg <| TO_as (v := .nils) rfl <| TO_nil <| TC_seq <| TC_seq <| TC_reg <| TO_mv rfl <| TO_ln Tryz.underlying36 rfl rfl (Enc.self l) <| TO_mv (v := (enc (0 : Int))) rfl <| TO_nil ?_
 refine TC_block ?_
 obtain ⟨o, hl, h⟩ := bs h
 refine TC_loop (fun (p : ((List Str) × Int)) φ s => match p with | (names, v) => ∃ (x_names : AV), is x_names names ∧ canOwn x_names = true ∧ Fx φ [(0, (enc (l : (List AttrR)))), (3, x_names), (6, (enc (l : (List AttrR)))), (7, (enc ((l.length : Int) : Int))), (8, (enc (v : Int)))] ∧ Hp s [(.gl (NG mx)), .own x_names]) (fun (o : ((List Str) ⊕ Bool)) e φ s => match o with | (.inl names1) => e = .exit 0 ∧ ∃ (x_names1 : AV), is x_names1 names1 ∧ canOwn x_names1 = true ∧ Fx φ [(0, (enc (l : (List AttrR)))), (3, x_names1)] ∧ Hp s [(.gl (NG mx)), .own x_names1] | (.inr v1) => e = .ret ∧ Fx φ [(2, (enc (v1 : Bool)))] ∧ Hp s [(.gl (NG mx))]) ?_ hl ⟨.nils, isL.nil, rfl, ⟨rfl, rfl, rfl, rfl, rfl, trivial⟩, (Hp.front [.own .nils] (b := []) (Hp.front [] (b := [(.gl (NG mx))]) (Hp.add hs rfl)))⟩ ?_
 ·rintro ⟨names, v⟩ o h φ s ⟨x_names, h_names, h_namesc, hF, hs⟩
  rw [← hF.eq]
  rw [obj_attrs_l1] at h
  refine TC_seq <| TC_reg <| TO_bi (v := (enc ((decide (v < (l.length : Int))) : Bool))) rfl rfl rfl <| TO_nil <| TC_seq ?_
  split at h
  ·rename_i hcond
   refine TC_cond_t rfl hcond <| TC_skip <| TC_seq <| TC_block <| TC_seq <| TC_reg ?_
   obtain ⟨v2, hx, h⟩ := bs h
   refine TO_ix Tryz.underlying36 TTryz.sh89 rfl rfl (Enc.self l) hx fun p hp => TO_ldE TTryz.ag89 TTryz.sz89 rfl hp fun y hy => TO_alR (r := (Rec.mk ((str []), ([] : (List UInt8)), ()) : AttrR)) TTryz.zr89 TTryz.zf89 hs fun m s hs => TO_stR (r := v2) TTryz.sz89 rfl rfl TTryz.zf89 hy hs fun xs s hxs hs => TO_nil <| TC_seq <| TC_reg <| TO_mv (v := x_names) rfl <| TO_fv TTryz.fl89_0 rfl <| TO_ldV TTryz.ag9 Sel.zero rfl hxs hs fun y1 hy1 => ?_
   cases hy1
   refine TO_bs [(enc (v2.v.1 : Str))] ([v2.v.1] : (List Str)) Tryz.underlying34 TTryz.ef9 rfl rfl rfl (Nat.le_of_ble_eq_true rfl) ⟨(rfl : is _ (v2.v.1 : Str)), trivial⟩ fun z hz hzc hzn => ?_
   obtain ⟨l1, hx1, h⟩ := bs h
   refine TO_ap [(.cells m xs), (.gl (NG mx))] (es2 := []) Tryz.underlying34 Tryz.underlying34 rfl rfl TTryz.ef9 rfl rfl h_names h_namesc hs hz hx1 fun z1 s hz1 hz1c hs => TO_as (v := z1) rfl <| TO_nil <| TC_seq <| TC_reg <| TO_fv TTryz.fl89_1 rfl <| TO_ldV TTryz.ag33 (Sel.succ Sel.zero) rfl hxs hs fun y2 hy2 => TO_ln Tryz.underlying33 rfl rfl hy2 <| TO_bi (v := (enc ((decide ((v2.v.2.1.length : Int) > 256)) : Bool))) rfl rfl rfl <| TO_nil ?_
   split at h
   ·rename_i hcond
    refine TC_cond_t rfl hcond <| TC_seq <| TC_reg <| TO_as (v := (enc (false : Bool))) rfl <| TO_nil <| TC_ret ?_
    show if _ then _ else _
    rw [if_neg (by simp)]
    rw [← Option.some.inj h]
    exact ⟨_, rfl, rfl, ⟨⟨rfl, trivial⟩, (Hp.drop [(.gl (NG mx))] (b := []) (Hp.drop [] (b := [(.gl (NG mx)), .own z1]) hs))⟩⟩
   ·rename_i hcond
    refine TC_cond_f rfl hcond <| TC_skip <| TC_reg <| TO_bi (v := (enc ((IntKind.i64.wrap (v + 1)) : Int))) rfl rfl rfl <| TO_mv rfl <| TO_nil ?_
    rw [← Option.some.inj h]
    exact ⟨_, rfl, ⟨z1, hz1, hz1c, ⟨rfl, rfl, rfl, rfl, rfl, trivial⟩, (Hp.drop [] (b := [(.gl (NG mx)), .own z1]) hs)⟩⟩
  ·rename_i hcond
   refine TC_cond_f rfl hcond <| TC_exit ?_
   rw [← Option.some.inj h]
   exact ⟨_, rfl, rfl, ⟨x_names, h_names, h_namesc, ⟨rfl, rfl, trivial⟩, hs⟩⟩
 ·intro e φ s hE
  rcases o with names1 | v1
  ·obtain ⟨rfl, x_names1, h_names1, h_names1c, hF, hs⟩ := hE
   rw [← hF.eq]
   rw [obj_attrs_a1] at h
   show if _ then _ else _
   rw [if_pos rfl]
   refine TC_seq <| TC_reg <| TO_mv rfl <| TO_ln Tryz.underlying36 rfl rfl (Enc.self l) <| TO_bi (v := (enc ((decide ((l.length : Int) ≤ 8)) : Bool))) rfl rfl rfl <| TO_mv rfl ?_
   obtain ⟨b, hb_b, h⟩ := bs h
   refine TO_cut 3 (fun φ s => Hp s [(.gl (NG mx)), .own x_names1] ∧ Fx φ [(28, (enc (b : Bool)))]) ?_ ?_
   ·split at hb_b
    ·rename_i cg
     refine TO_on rfl rfl cg <| TO_mv (v := x_names1) rfl <| TO_on rfl rfl cg ?_
     obtain ⟨r_, hx2, hb_b⟩ := bs hb_b
     refine TO_fnG (f := fun a : (List Str) × Unit => obj_rising a.1) (a := (names1, ())) rfl Tryz.func75 rfl rfl (.cons (a := (names1 : (List Str))) h_names1 .nil) hs List.mem_cons_self hx2 <| TO_pt rfl cg rfl <| TO_nil ?_
     rw [← Option.some.inj hb_b]
     exact ⟨hs, ⟨rfl, trivial⟩⟩
    ·rename_i cg1
     refine TO_off rfl rfl cg1 <| TO_off rfl rfl cg1 <| TO_pf (v := (enc (false : Bool))) rfl cg1 rfl <| TO_nil ?_
     rw [← Option.some.inj hb_b]
     exact ⟨hs, ⟨rfl, trivial⟩⟩
   ·rintro φ s ⟨hs, hF⟩
    rw [← hF.eq]
    refine TO_as rfl <| TO_nil <| TC_ret ?_
    rw [← Option.some.inj h]
    exact ⟨rfl, KE1 (a := (b : Bool)) rfl rfl (rfl : is _ (b : Bool)) (rfl : is _ (b : Bool))⟩
  ·obtain ⟨rfl, hF, hs⟩ := hE
   rw [← hF.eq]
   rw [obj_attrs_a1] at h
   show if _ then _ else _
   rw [if_neg (by simp)]
   rw [← Option.some.inj h]
   exact ⟨rfl, KE1 (a := (v1 : Bool)) rfl rfl (rfl : is _ (v1 : Bool)) (rfl : is _ (v1 : Bool))⟩
theorem obj_attrs_pc (mx : Int) : PureC Tryz.prog 97 (FnG (NG mx) (fun a : (List AttrR) × Unit => obj_attrs a.1)) := fnCG (pv2_ok mx) ⟨_, Tryz.func97, rfl⟩ <| fun a r h => obj_attrs_wf mx a.1 r h
noncomputable def pv3 (mx : Int) : Prims := (pv2 mx).addG 97 (FnG (NG mx) (fun a : (List AttrR) × Unit => obj_attrs a.1))
theorem pv3_ok (mx : Int) : PrimsOk Tryz.prog (pv3 mx) := primsOk_addG (pv2_ok mx) (obj_attrs_pc mx)
theorem obj_target_wf (mx : Int) (m : MetaR) (r : Bool) (h : obj_target m = some r) : MF Tryz.prog (pv3 mx) 96 [enc m] (sG (NG mx)) fun v _ => ris v r := by
 refine TF_run [(0, enc m)] Tryz.func96 rfl (by simp only [Tryz.f96]; rfl) fun ψ => ?_
 unfold obj_target at h
 have hs : Hp (sG (NG mx)) [.gl (NG mx)] := Hp.gl0
 refine TC_seq <| TC_reg <| TO_bxR (r := m) rfl (Enc.self m) hs fun m1 xs s hxs hs => TO_as (v := (enc (false : Bool))) rfl <| TO_nil <| TC_seq <| TC_seq <| TC_reg <| TO_fv TTryz.fl96_0 rfl <| TO_ldV TTryz.ag25 Sel.zero rfl hxs hs fun y hy => ?_
 cases hy
 refine TO_bi (v := (enc ((m.v.1 != 3) : Bool))) rfl rfl rfl <| TO_nil ?_
 split at h
 ·rename_i hcond
  refine TC_cond_t rfl hcond <| TC_seq <| TC_reg <| TO_fv TTryz.fl96_4 rfl <| TO_ldV TTryz.ag9 (Sel.succ (Sel.succ (Sel.succ (Sel.succ Sel.zero)))) rfl hxs hs fun y1 hy1 => ?_
  cases hy1
  refine TO_bi (v := (enc ((eqS m.v.2.2.2.2.1 (str [])) : Bool))) rfl rfl rfl <| TO_as rfl <| TO_nil <| TC_ret ?_
  rw [← Option.some.inj h]
  exact ⟨rfl, KE1 (a := ((eqS m.v.2.2.2.2.1 (str [])) : Bool)) rfl rfl (rfl : is _ ((eqS m.v.2.2.2.2.1 (str [])) : Bool)) (rfl : is _ ((eqS m.v.2.2.2.2.1 (str [])) : Bool))⟩
 ·rename_i hcond
  refine TC_cond_f rfl hcond <| TC_skip <| TC_seq <| TC_reg <| TO_fv TTryz.fl96_4 rfl <| TO_ldV TTryz.ag9 (Sel.succ (Sel.succ (Sel.succ (Sel.succ Sel.zero)))) rfl hxs hs fun y2 hy2 => ?_
  cases hy2
  refine TO_bi (v := (enc ((!eqS m.v.2.2.2.2.1 (str [])) : Bool))) rfl rfl rfl <| TO_mv rfl ?_
  obtain ⟨b, hb_b, h⟩ := bs h
  refine TO_cut 5 (fun φ s => Hp s [(.cells m1 xs), (.gl (NG mx))] ∧ Fx φ [(1, (.ptr m1 0)), (17, (enc (b : Bool)))]) ?_ ?_
  ·split at hb_b
   ·rename_i cg
    refine TO_on rfl rfl cg <| TO_fv TTryz.fl96_4 rfl <| TO_on rfl rfl cg <| TO_ldV TTryz.ag9 (Sel.succ (Sel.succ (Sel.succ (Sel.succ Sel.zero)))) rfl hxs hs fun y3 hy3 => ?_
    cases hy3
    refine TO_on rfl rfl cg <| TO_lnS Tryz.underlying9 rfl rfl <| TO_on rfl rfl cg <| TO_bi (v := (enc ((decide (((List.length m.v.2.2.2.2.1 : Nat) : Int) ≤ 1000)) : Bool))) rfl rfl rfl <| TO_pt rfl cg rfl <| TO_nil ?_
    rw [← Option.some.inj hb_b]
    exact ⟨hs, ⟨rfl, rfl, trivial⟩⟩
   ·rename_i cg1
    refine TO_off rfl rfl cg1 <| TO_off rfl rfl cg1 <| TO_off rfl rfl cg1 <| TO_off rfl rfl cg1 <| TO_pf (v := (enc (false : Bool))) rfl cg1 rfl <| TO_nil ?_
    rw [← Option.some.inj hb_b]
    exact ⟨hs, ⟨rfl, rfl, trivial⟩⟩
  ·rintro φ s ⟨hs, hF⟩
   rw [← hF.eq]
   refine TO_mv rfl ?_
   obtain ⟨b1, hb_b1, h⟩ := bs h
   refine TO_cut 5 (fun φ s => Hp s [(.cells m1 xs), (.gl (NG mx))] ∧ Fx φ [(1, (.ptr m1 0)), (23, (enc (b1 : Bool)))]) ?_ ?_
   ·split at hb_b1
    ·rename_i cg2
     refine TO_on rfl rfl cg2 <| TO_fv TTryz.fl96_4 rfl <| TO_on rfl rfl cg2 <| TO_ldV TTryz.ag9 (Sel.succ (Sel.succ (Sel.succ (Sel.succ Sel.zero)))) rfl hxs hs fun y4 hy4 => ?_
     cases hy4
     refine TO_on rfl rfl cg2 ?_
     obtain ⟨r_, hx, hb_b1⟩ := bs hb_b1
     refine TO_fn (f := fun a : Str × Str × Unit => str_Contains a.1 a.2.1) (a := (m.v.2.2.2.2.1, (str [0]), ())) rfl Tryz.func114 rfl rfl (.cons (a := (m.v.2.2.2.2.1 : Str)) (Enc.self _) (.cons (a := ((str [0]) : Str)) (Enc.self _) .nil)) hx <| TO_on rfl rfl cg2 <| TO_un (v := (enc ((!r_) : Bool))) rfl rfl <| TO_pt rfl cg2 rfl <| TO_nil ?_
     rw [← Option.some.inj hb_b1]
     exact ⟨hs, ⟨rfl, rfl, trivial⟩⟩
    ·rename_i cg3
     refine TO_off rfl rfl cg3 <| TO_off rfl rfl cg3 <| TO_off rfl rfl cg3 <| TO_off rfl rfl cg3 <| TO_pf (v := (enc (false : Bool))) rfl cg3 rfl <| TO_nil ?_
     rw [← Option.some.inj hb_b1]
     exact ⟨hs, ⟨rfl, rfl, trivial⟩⟩
   ·rintro φ s ⟨hs, hF⟩
    rw [← hF.eq]
    refine TO_mv rfl ?_
    obtain ⟨b2, hb_b2, h⟩ := bs h
    refine TO_cut 4 (fun φ s => Hp s [(.cells m1 xs), (.gl (NG mx))] ∧ Fx φ [(28, (enc (b2 : Bool)))]) ?_ ?_
    ·split at hb_b2
     ·rename_i cg4
      refine TO_on rfl rfl cg4 <| TO_fv TTryz.fl96_3 rfl <| TO_on rfl rfl cg4 <| TO_ldV TTryz.ag3 (Sel.succ (Sel.succ (Sel.succ Sel.zero))) rfl hxs hs fun y5 hy5 => ?_
      cases hy5
      refine TO_on rfl rfl cg4 <| TO_bi (v := (enc ((m.v.2.2.2.1 == 0) : Bool))) rfl rfl rfl <| TO_pt rfl cg4 rfl <| TO_nil ?_
      rw [← Option.some.inj hb_b2]
      exact ⟨hs, ⟨rfl, trivial⟩⟩
     ·rename_i cg5
      refine TO_off rfl rfl cg5 <| TO_off rfl rfl cg5 <| TO_off rfl rfl cg5 <| TO_pf (v := (enc (false : Bool))) rfl cg5 rfl <| TO_nil ?_
      rw [← Option.some.inj hb_b2]
      exact ⟨hs, ⟨rfl, trivial⟩⟩
    ·rintro φ s ⟨hs, hF⟩
     rw [← hF.eq]
     refine TO_as rfl <| TO_nil <| TC_ret ?_
     rw [← Option.some.inj h]
     exact ⟨rfl, KE1 (a := (b2 : Bool)) rfl rfl (rfl : is _ (b2 : Bool)) (rfl : is _ (b2 : Bool))⟩
theorem obj_target_pc (mx : Int) : PureC Tryz.prog 96 (FnG (NG mx) (fun a : MetaR × Unit => obj_target a.1)) := fnCG (pv3_ok mx) ⟨_, Tryz.func96, rfl⟩ <| fun a r h => obj_target_wf mx a.1 r h
noncomputable def pv4 (mx : Int) : Prims := (pv3 mx).addG 96 (FnG (NG mx) (fun a : MetaR × Unit => obj_target a.1))
theorem pv4_ok (mx : Int) : PrimsOk Tryz.prog (pv4 mx) := primsOk_addG (pv3_ok mx) (obj_target_pc mx)
theorem obj_meta_wf (mx : Int) (m : MetaR) (r : Bool) (h : obj_meta m = some r) : MF Tryz.prog (pv4 mx) 72 [enc m] (sG (NG mx)) fun v _ => ris v r := by
 refine TF_run [(0, enc m)] Tryz.func72 rfl (by simp only [Tryz.f72]; rfl) fun ψ => ?_
 unfold obj_meta at h
 have hs : Hp (sG (NG mx)) [.gl (NG mx)] := Hp.gl0
 refine TC_seq <| TC_reg <| TO_bxR (r := m) rfl (Enc.self m) hs fun m1 xs s hxs hs => TO_as (v := (enc (false : Bool))) rfl <| TO_nil <| TC_seq <| TC_reg <| TO_fv TTryz.fl96_1 rfl <| TO_ldV TTryz.ag3 (Sel.succ Sel.zero) rfl hxs hs fun y hy => ?_
 cases hy
 refine TO_bi (v := (enc ((decide (m.v.2.1 ≥ 0)) : Bool))) rfl rfl rfl <| TO_mv rfl ?_
 obtain ⟨b, hb_b, h⟩ := bs h
 refine TO_cut 4 (fun φ s => Hp s [(.cells m1 xs), (.gl (NG mx))] ∧ Fx φ [(1, (.ptr m1 0)), (14, (enc (b : Bool)))]) ?_ ?_
 ·split at hb_b
  ·rename_i cg
   refine TO_on rfl rfl cg <| TO_fv TTryz.fl96_1 rfl <| TO_on rfl rfl cg <| TO_ldV TTryz.ag3 (Sel.succ Sel.zero) rfl hxs hs fun y1 hy1 => ?_
   cases hy1
   refine TO_on rfl rfl cg <| TO_bi (v := (enc ((decide (m.v.2.1 ≤ 4095)) : Bool))) rfl rfl rfl <| TO_pt rfl cg rfl <| TO_nil ?_
   rw [← Option.some.inj hb_b]
   exact ⟨hs, ⟨rfl, rfl, trivial⟩⟩
  ·rename_i cg1
   refine TO_off rfl rfl cg1 <| TO_off rfl rfl cg1 <| TO_off rfl rfl cg1 <| TO_pf (v := (enc (false : Bool))) rfl cg1 rfl <| TO_nil ?_
   rw [← Option.some.inj hb_b]
   exact ⟨hs, ⟨rfl, rfl, trivial⟩⟩
 ·rintro φ s ⟨hs, hF⟩
  rw [← hF.eq]
  refine TO_mv rfl ?_
  obtain ⟨b1, hb_b1, h⟩ := bs h
  refine TO_cut 4 (fun φ s => Hp s [(.cells m1 xs), (.gl (NG mx))] ∧ Fx φ [(1, (.ptr m1 0)), (19, (enc (b1 : Bool)))]) ?_ ?_
  ·split at hb_b1
   ·rename_i cg2
    refine TO_on rfl rfl cg2 <| TO_fv TTryz.fl96_2 rfl <| TO_on rfl rfl cg2 <| TO_ldV TTryz.ag3 (Sel.succ (Sel.succ Sel.zero)) rfl hxs hs fun y2 hy2 => ?_
    cases hy2
    refine TO_on rfl rfl cg2 <| TO_bi (v := (enc ((decide (m.v.2.2.1 ≥ 0)) : Bool))) rfl rfl rfl <| TO_pt rfl cg2 rfl <| TO_nil ?_
    rw [← Option.some.inj hb_b1]
    exact ⟨hs, ⟨rfl, rfl, trivial⟩⟩
   ·rename_i cg3
    refine TO_off rfl rfl cg3 <| TO_off rfl rfl cg3 <| TO_off rfl rfl cg3 <| TO_pf (v := (enc (false : Bool))) rfl cg3 rfl <| TO_nil ?_
    rw [← Option.some.inj hb_b1]
    exact ⟨hs, ⟨rfl, rfl, trivial⟩⟩
  ·rintro φ s ⟨hs, hF⟩
   rw [← hF.eq]
   refine TO_mv rfl ?_
   obtain ⟨b2, hb_b2, h⟩ := bs h
   refine TO_cut 4 (fun φ s => Hp s [(.cells m1 xs), (.gl (NG mx))] ∧ Fx φ [(1, (.ptr m1 0)), (24, (enc (b2 : Bool)))]) ?_ ?_
   ·split at hb_b2
    ·rename_i cg4
     refine TO_on rfl rfl cg4 <| TO_fv TTryz.fl96_2 rfl <| TO_on rfl rfl cg4 <| TO_ldV TTryz.ag3 (Sel.succ (Sel.succ Sel.zero)) rfl hxs hs fun y3 hy3 => ?_
     cases hy3
     refine TO_on rfl rfl cg4 <| TO_bi (v := (enc ((decide (m.v.2.2.1 ≤ 64)) : Bool))) rfl rfl rfl <| TO_pt rfl cg4 rfl <| TO_nil ?_
     rw [← Option.some.inj hb_b2]
     exact ⟨hs, ⟨rfl, rfl, trivial⟩⟩
    ·rename_i cg5
     refine TO_off rfl rfl cg5 <| TO_off rfl rfl cg5 <| TO_off rfl rfl cg5 <| TO_pf (v := (enc (false : Bool))) rfl cg5 rfl <| TO_nil ?_
     rw [← Option.some.inj hb_b2]
     exact ⟨hs, ⟨rfl, rfl, trivial⟩⟩
   ·rintro φ s ⟨hs, hF⟩
    rw [← hF.eq]
    refine TO_mv rfl ?_
    obtain ⟨b3, hb_b3, h⟩ := bs h
    refine TO_cut 4 (fun φ s => Hp s [(.cells m1 xs), (.gl (NG mx))] ∧ Fx φ [(1, (.ptr m1 0)), (29, (enc (b3 : Bool)))]) ?_ ?_
    ·split at hb_b3
     ·rename_i cg6
      refine TO_on rfl rfl cg6 <| TO_fv TTryz.fl96_3 rfl <| TO_on rfl rfl cg6 <| TO_ldV TTryz.ag3 (Sel.succ (Sel.succ (Sel.succ Sel.zero))) rfl hxs hs fun y4 hy4 => ?_
      cases hy4
      refine TO_on rfl rfl cg6 <| TO_bi (v := (enc ((decide (m.v.2.2.2.1 ≥ 0)) : Bool))) rfl rfl rfl <| TO_pt rfl cg6 rfl <| TO_nil ?_
      rw [← Option.some.inj hb_b3]
      exact ⟨hs, ⟨rfl, rfl, trivial⟩⟩
     ·rename_i cg7
      refine TO_off rfl rfl cg7 <| TO_off rfl rfl cg7 <| TO_off rfl rfl cg7 <| TO_pf (v := (enc (false : Bool))) rfl cg7 rfl <| TO_nil ?_
      rw [← Option.some.inj hb_b3]
      exact ⟨hs, ⟨rfl, rfl, trivial⟩⟩
    ·rintro φ s ⟨hs, hF⟩
     rw [← hF.eq]
     refine TO_mv rfl ?_
     obtain ⟨b4, hb_b4, h⟩ := bs h
     refine TO_cut 4 (fun φ s => Hp s [(.cells m1 xs), (.gl (NG mx))] ∧ Fx φ [(1, (.ptr m1 0)), (34, (enc (b4 : Bool)))]) ?_ ?_
     ·split at hb_b4
      ·rename_i cg8
       refine TO_on rfl rfl cg8 <| TO_fv TTryz.fl96_3 rfl <| TO_on rfl rfl cg8 <| TO_ldV TTryz.ag3 (Sel.succ (Sel.succ (Sel.succ Sel.zero))) rfl hxs hs fun y5 hy5 => ?_
       cases hy5
       refine TO_on rfl rfl cg8 <| TO_bi (v := (enc ((decide (m.v.2.2.2.1 ≤ 32768)) : Bool))) rfl rfl rfl <| TO_pt rfl cg8 rfl <| TO_nil ?_
       rw [← Option.some.inj hb_b4]
       exact ⟨hs, ⟨rfl, rfl, trivial⟩⟩
      ·rename_i cg9
       refine TO_off rfl rfl cg9 <| TO_off rfl rfl cg9 <| TO_off rfl rfl cg9 <| TO_pf (v := (enc (false : Bool))) rfl cg9 rfl <| TO_nil ?_
       rw [← Option.some.inj hb_b4]
       exact ⟨hs, ⟨rfl, rfl, trivial⟩⟩
     ·rintro φ s ⟨hs, hF⟩
      rw [← hF.eq]
      refine TO_mv rfl ?_
      obtain ⟨b5, hb_b5, h⟩ := bs h
      refine TO_cut 5 (fun φ s => Hp s [(.cells m1 xs), (.gl (NG mx))] ∧ Fx φ [(1, (.ptr m1 0)), (40, (enc (b5 : Bool)))]) ?_ ?_
      ·split at hb_b5
       ·rename_i cg10
        refine TO_on rfl rfl cg10 <| TO_fv TTryz.fl96_6 rfl <| TO_on rfl rfl cg10 <| TO_ldV TTryz.ag94 (Sel.succ (Sel.succ (Sel.succ (Sel.succ (Sel.succ (Sel.succ Sel.zero)))))) rfl hxs hs fun y6 hy6 => TO_on rfl rfl cg10 <| TO_ln Tryz.underlying94 rfl rfl hy6 <| TO_on rfl rfl cg10 <| TO_bi (v := (enc ((decide ((m.v.2.2.2.2.2.2.1.length : Int) ≤ 128)) : Bool))) rfl rfl rfl <| TO_pt rfl cg10 rfl <| TO_nil ?_
        rw [← Option.some.inj hb_b5]
        exact ⟨hs, ⟨rfl, rfl, trivial⟩⟩
       ·rename_i cg11
        refine TO_off rfl rfl cg11 <| TO_off rfl rfl cg11 <| TO_off rfl rfl cg11 <| TO_off rfl rfl cg11 <| TO_pf (v := (enc (false : Bool))) rfl cg11 rfl <| TO_nil ?_
        rw [← Option.some.inj hb_b5]
        exact ⟨hs, ⟨rfl, rfl, trivial⟩⟩
      ·rintro φ s ⟨hs, hF⟩
       rw [← hF.eq]
       refine TO_as rfl <| TO_nil <| TC_seq <| TC_seq <| TC_reg <| TO_fv TTryz.fl96_0 rfl <| TO_ldV TTryz.ag25 Sel.zero rfl hxs hs fun y7 hy7 => ?_
       cases hy7
       refine TO_bi (v := (enc ((decide (m.v.1 < 1)) : Bool))) rfl rfl rfl <| TO_mv rfl ?_
       obtain ⟨b6, hb_b6, h⟩ := bs h
       refine TO_cut 4 (fun φ s => Hp s [(.cells m1 xs), (.gl (NG mx))] ∧ Fx φ [(1, (.ptr m1 0)), (3, (enc (b5 : Bool))), (48, (enc (b6 : Bool)))]) ?_ ?_
       ·split at hb_b6
        ·rename_i cg12
         refine TO_off rfl rfl (by simpa using cg12) <| TO_off rfl rfl (by simpa using cg12) <| TO_off rfl rfl (by simpa using cg12) <| TO_pt (v := (enc (true : Bool))) rfl cg12 rfl <| TO_nil ?_
         rw [← Option.some.inj hb_b6]
         exact ⟨hs, ⟨rfl, rfl, rfl, trivial⟩⟩
        ·rename_i cg13
         refine TO_on rfl rfl (by simpa using cg13) <| TO_fv TTryz.fl96_0 rfl <| TO_on rfl rfl (by simpa using cg13) <| TO_ldV TTryz.ag25 Sel.zero rfl hxs hs fun y8 hy8 => ?_
         cases hy8
         refine TO_on rfl rfl (by simpa using cg13) <| TO_bi (v := (enc ((decide (m.v.1 > 3)) : Bool))) rfl rfl rfl <| TO_pf rfl cg13 rfl <| TO_nil ?_
         rw [← Option.some.inj hb_b6]
         exact ⟨hs, ⟨rfl, rfl, rfl, trivial⟩⟩
       ·rintro φ s ⟨hs, hF⟩
        rw [← hF.eq]
        refine TO_mv rfl ?_
        obtain ⟨b7, hb_b7, h⟩ := bs h
        refine TO_cut 3 (fun φ s => Hp s [(.cells m1 xs), (.gl (NG mx))] ∧ Fx φ [(1, (.ptr m1 0)), (52, (enc (b7 : Bool)))]) ?_ ?_
        ·split at hb_b7
         ·rename_i cg14
          refine TO_off rfl rfl (by simpa using cg14) <| TO_off rfl rfl (by simpa using cg14) <| TO_pt (v := (enc (true : Bool))) rfl cg14 rfl <| TO_nil ?_
          rw [← Option.some.inj hb_b7]
          exact ⟨hs, ⟨rfl, rfl, trivial⟩⟩
         ·rename_i cg15
          refine TO_on rfl rfl (by simpa using cg15) <| TO_mv rfl <| TO_on rfl rfl (by simpa using cg15) <| TO_un (v := (enc ((!b5) : Bool))) rfl rfl <| TO_pf rfl cg15 rfl <| TO_nil ?_
          rw [← Option.some.inj hb_b7]
          exact ⟨hs, ⟨rfl, rfl, trivial⟩⟩
        ·rintro φ s ⟨hs, hF⟩
         rw [← hF.eq]
         refine TO_mv rfl ?_
         obtain ⟨b8, hb_b8, h⟩ := bs h
         refine TO_cut 4 (fun φ s => Hp s [(.cells m1 xs), (.gl (NG mx))] ∧ Fx φ [(1, (.ptr m1 0)), (57, (enc (b8 : Bool)))]) ?_ ?_
         ·split at hb_b8
          ·rename_i cg16
           refine TO_off rfl rfl (by simpa using cg16) <| TO_off rfl rfl (by simpa using cg16) <| TO_off rfl rfl (by simpa using cg16) <| TO_pt (v := (enc (true : Bool))) rfl cg16 rfl <| TO_nil ?_
           rw [← Option.some.inj hb_b8]
           exact ⟨hs, ⟨rfl, rfl, trivial⟩⟩
          ·rename_i cg17
           refine TO_on rfl rfl (by simpa using cg17) <| TO_ldW (r := m) TTryz.ag96 TTryz.sz96 rfl hxs hs fun y9 hy9 => TO_on rfl rfl (by simpa using cg17) ?_
           obtain ⟨r_, hx, hb_b8⟩ := bs hb_b8
           refine TO_fnG (f := fun a : MetaR × Unit => obj_target a.1) (a := (m, ())) rfl Tryz.func96 rfl rfl (.cons (a := (m : MetaR)) hy9 .nil) hs (List.mem_cons_of_mem _ List.mem_cons_self) hx <| TO_on rfl rfl (by simpa using cg17) <| TO_un (v := (enc ((!r_) : Bool))) rfl rfl <| TO_pf rfl cg17 rfl <| TO_nil ?_
           rw [← Option.some.inj hb_b8]
           exact ⟨hs, ⟨rfl, rfl, trivial⟩⟩
         ·rintro φ s ⟨hs, hF⟩
          rw [← hF.eq]
          refine TO_mv rfl ?_
          obtain ⟨b9, hb_b9, h⟩ := bs h
          refine TO_cut 5 (fun φ s => Hp s [(.cells m1 xs), (.gl (NG mx))] ∧ Fx φ [(1, (.ptr m1 0)), (63, (enc (b9 : Bool)))]) ?_ ?_
          ·split at hb_b9
           ·rename_i cg18
            refine TO_off rfl rfl (by simpa using cg18) <| TO_off rfl rfl (by simpa using cg18) <| TO_off rfl rfl (by simpa using cg18) <| TO_off rfl rfl (by simpa using cg18) <| TO_pt (v := (enc (true : Bool))) rfl cg18 rfl <| TO_nil ?_
            rw [← Option.some.inj hb_b9]
            exact ⟨hs, ⟨rfl, rfl, trivial⟩⟩
           ·rename_i cg19
            refine TO_on rfl rfl (by simpa using cg19) <| TO_fv TTryz.fl96_5 rfl <| TO_on rfl rfl (by simpa using cg19) <| TO_ldV TTryz.ag36 (Sel.succ (Sel.succ (Sel.succ (Sel.succ (Sel.succ Sel.zero))))) rfl hxs hs fun y10 hy10 => TO_on rfl rfl (by simpa using cg19) ?_
            obtain ⟨r_1, hx1, hb_b9⟩ := bs hb_b9
            refine TO_fnG (f := fun a : (List AttrR) × Unit => obj_attrs a.1) (a := (m.v.2.2.2.2.2.1, ())) rfl Tryz.func97 rfl rfl (.cons (a := (m.v.2.2.2.2.2.1 : (List AttrR))) hy10 .nil) hs (List.mem_cons_of_mem _ List.mem_cons_self) hx1 <| TO_on rfl rfl (by simpa using cg19) <| TO_un (v := (enc ((!r_1) : Bool))) rfl rfl <| TO_pf rfl cg19 rfl <| TO_nil ?_
            rw [← Option.some.inj hb_b9]
            exact ⟨hs, ⟨rfl, rfl, trivial⟩⟩
          ·rintro φ s ⟨hs, hF⟩
           rw [← hF.eq]
           refine TO_nil ?_
           split at h
           ·rename_i hcond
            refine TC_cond_t rfl hcond <| TC_seq <| TC_reg <| TO_as (v := (enc (false : Bool))) rfl <| TO_nil <| TC_ret ?_
            rw [← Option.some.inj h]
            exact ⟨rfl, KE1 (a := (false : Bool)) rfl rfl (rfl : is _ (false : Bool)) (rfl : is _ (false : Bool))⟩
           ·rename_i hcond
            refine TC_cond_f rfl hcond <| TC_skip <| TC_seq <| TC_reg <| TO_as (v := (enc (0 : Int))) rfl <| TO_nil <| TC_seq <| TC_seq <| TC_reg <| TO_fv TTryz.fl96_6 rfl <| TO_ldV TTryz.ag94 (Sel.succ (Sel.succ (Sel.succ (Sel.succ (Sel.succ (Sel.succ Sel.zero)))))) rfl hxs hs fun y11 hy11 => TO_ln Tryz.underlying94 rfl rfl hy11 <| TO_mv (v := (enc (0 : Int))) rfl <| TO_nil <| TC_block ?_
            obtain ⟨o, hl, h⟩ := bs h
            refine TC_loop (fun (p : (Int × Int)) φ s => match p with | (n, v) => Fx φ [(1, (.ptr m1 0)), (4, (enc (n : Int))), (65, y11), (66, (enc ((m.v.2.2.2.2.2.2.1.length : Int) : Int))), (67, (enc (v : Int)))] ∧ Hp s [(.cells m1 xs), (.gl (NG mx))]) (fun (o : (Int ⊕ Bool)) e φ s => match o with | (.inl n1) => e = .exit 0 ∧ Fx φ [(1, (.ptr m1 0)), (4, (enc (n1 : Int)))] ∧ Hp s [(.cells m1 xs), (.gl (NG mx))] | (.inr v1) => e = .ret ∧ Fx φ [(2, (enc (v1 : Bool)))] ∧ Hp s [(.gl (NG mx))]) ?_ hl ⟨⟨rfl, rfl, rfl, rfl, rfl, trivial⟩, hs⟩ ?_
            ·rintro ⟨n, v⟩ o h φ s ⟨hF, hs⟩
             rw [← hF.eq]
             rw [obj_meta_l1] at h
             refine TC_seq <| TC_reg <| TO_bi (v := (enc ((decide (v < (m.v.2.2.2.2.2.2.1.length : Int))) : Bool))) rfl rfl rfl <| TO_nil <| TC_seq ?_
             split at h
             ·rename_i hcond
              refine TC_cond_t rfl hcond <| TC_skip <| TC_seq <| TC_block <| TC_seq <| TC_reg ?_
              obtain ⟨v2, hx2, h⟩ := bs h
              refine TO_ix Tryz.underlying94 TTryz.sh124 rfl rfl hy11 hx2 fun p hp => TO_ldE TTryz.ag124 TTryz.sz124 rfl hp fun y12 hy12 => TO_alR (r := (Rec.mk ((str []), (0 : Int), (0 : Int), (0 : Int), ()) : RefR)) TTryz.zr124 TTryz.zf124 hs fun m2 s hs => TO_stR (r := v2) TTryz.sz124 rfl rfl TTryz.zf124 hy12 hs fun xs1 s hxs1 hs => TO_nil <| TC_seq <| TC_seq <| TC_reg <| TO_ldW (r := v2) TTryz.ag124 TTryz.sz124 rfl hxs1 hs fun y13 hy13 => ?_
              cases h
             ·rename_i hcond
              refine TC_cond_f rfl hcond <| TC_exit ?_
              rw [← Option.some.inj h]
              exact ⟨_, rfl, rfl, ⟨⟨rfl, rfl, trivial⟩, hs⟩⟩
            ·intro e φ s hE
             rcases o with n1 | v1
             ·obtain ⟨rfl, hF, hs⟩ := hE
              rw [← hF.eq]
              rw [obj_meta_a1] at h
              show if _ then _ else _
              rw [if_pos rfl]
              refine TC_seq <| TC_reg <| TO_mv rfl <| TO_fv TTryz.fl96_3 rfl <| TO_ldV TTryz.ag3 (Sel.succ (Sel.succ (Sel.succ Sel.zero))) rfl hxs hs fun y14 hy14 => ?_
              cases hy14
              refine TO_bi (v := (enc ((n1 == m.v.2.2.2.1) : Bool))) rfl rfl rfl <| TO_as rfl <| TO_nil <| TC_ret ?_
              rw [← Option.some.inj h]
              exact ⟨rfl, KE1 (a := ((n1 == m.v.2.2.2.1) : Bool)) rfl rfl (rfl : is _ ((n1 == m.v.2.2.2.1) : Bool)) (rfl : is _ ((n1 == m.v.2.2.2.1) : Bool))⟩
             ·obtain ⟨rfl, hF, hs⟩ := hE
              rw [← hF.eq]
              rw [obj_meta_a1] at h
              show if _ then _ else _
              rw [if_neg (by simp)]
              rw [← Option.some.inj h]
              exact ⟨rfl, KE1 (a := (v1 : Bool)) rfl rfl (rfl : is _ (v1 : Bool)) (rfl : is _ (v1 : Bool))⟩
theorem obj_meta_pc (mx : Int) : PureC Tryz.prog 72 (FnG (NG mx) (fun a : MetaR × Unit => obj_meta a.1)) := fnCG (pv4_ok mx) ⟨_, Tryz.func72, rfl⟩ <| fun a r h => obj_meta_wf mx a.1 r h
noncomputable def pv5 (mx : Int) : Prims := (pv4 mx).addG 72 (FnG (NG mx) (fun a : MetaR × Unit => obj_meta a.1))
theorem pv5_ok (mx : Int) : PrimsOk Tryz.prog (pv5 mx) := primsOk_addG (pv4_ok mx) (obj_meta_pc mx)
theorem obj_PutMeta_wf (mx : Int) (m : MetaR) (r : (List UInt8) × Int) (h : obj_PutMeta m = some r) : MF Tryz.prog (pv5 mx) 54 [enc m] (sG (NG mx)) fun v _ => ris v r := by
 refine TF_run [(0, enc m)] Tryz.func54 rfl (by simp only [Tryz.f54]; rfl) fun ψ => ?_
 unfold obj_PutMeta at h
 have hs : Hp (sG (NG mx)) [.gl (NG mx)] := Hp.gl0
 refine TC_seq <| TC_reg <| TO_bxR (r := m) rfl (Enc.self m) hs fun m1 xs s hxs hs => TO_as (v := .nils) rfl <| TO_as (v := (enc (0 : Int))) rfl <| TO_nil <| TC_seq <| TC_seq <| TC_reg <| TO_ldW (r := m) TTryz.ag96 TTryz.sz96 rfl hxs hs fun y hy => ?_
 obtain ⟨r_, hx, h⟩ := bs h
 refine TO_fnG (f := fun a : MetaR × Unit => obj_meta a.1) (a := (m, ())) rfl Tryz.func72 rfl rfl (.cons (a := (m : MetaR)) hy .nil) hs (List.mem_cons_of_mem _ List.mem_cons_self) hx <| TO_un (v := (enc ((!r_) : Bool))) rfl rfl <| TO_nil ?_
 split at h
 ·rename_i hcond
  refine TC_cond_t rfl hcond <| TC_seq <| TC_reg <| TO_as (v := .nils) rfl <| TO_as (v := (enc (80 : Int))) rfl <| TO_nil <| TC_ret ?_
  rw [← Option.some.inj h]
  exact ⟨rfl, KE2 (a1 := ([] : (List UInt8))) (a2 := (80 : Int)) rfl rfl rfl isL.nil (rfl : is _ (80 : Int)) ⟨_, _, rfl, isL.nil, (rfl : is _ (80 : Int))⟩⟩
 ·rename_i hcond
  refine TC_cond_f rfl hcond <| TC_skip <| TC_seq <| TC_reg <| TO_fv TTryz.fl96_0 rfl <| TO_ldV TTryz.ag25 Sel.zero rfl hxs hs fun y1 hy1 => ?_
  cases hy1
  refine TO_mi (t := 3) (a := (m.v.1 : Int)) (by kernel_rfl) rfl (rfl : is _ (m.v.1 : Int)) fun z hz => TO_fv TTryz.fl96_1 rfl <| TO_ldV TTryz.ag3 (Sel.succ Sel.zero) rfl hxs hs fun y2 hy2 => ?_
  cases hy2
  refine TO_mi (t := 3) (a := (m.v.2.1 : Int)) (by kernel_rfl) rfl (rfl : is _ (m.v.2.1 : Int)) fun z1 hz1 => TO_fv TTryz.fl96_2 rfl <| TO_ldV TTryz.ag3 (Sel.succ (Sel.succ Sel.zero)) rfl hxs hs fun y3 hy3 => ?_
  cases hy3
  refine TO_mi (t := 3) (a := (m.v.2.2.1 : Int)) (by kernel_rfl) rfl (rfl : is _ (m.v.2.2.1 : Int)) fun z2 hz2 => TO_fv TTryz.fl96_3 rfl <| TO_ldV TTryz.ag3 (Sel.succ (Sel.succ (Sel.succ Sel.zero))) rfl hxs hs fun y4 hy4 => ?_
  cases hy4
  refine TO_mi (t := 3) (a := (m.v.2.2.2.1 : Int)) (by kernel_rfl) rfl (rfl : is _ (m.v.2.2.2.1 : Int)) fun z3 hz3 => TO_fv TTryz.fl96_4 rfl <| TO_ldV TTryz.ag9 (Sel.succ (Sel.succ (Sel.succ (Sel.succ Sel.zero)))) rfl hxs hs fun y5 hy5 => ?_
  cases hy5
  refine TO_mi (t := 9) (a := (m.v.2.2.2.2.1 : Str)) (by kernel_rfl) rfl (rfl : is _ (m.v.2.2.2.2.1 : Str)) fun z4 hz4 => TO_fv TTryz.fl96_5 rfl <| TO_ldV TTryz.ag36 (Sel.succ (Sel.succ (Sel.succ (Sel.succ (Sel.succ Sel.zero))))) rfl hxs hs fun y6 hy6 => TO_ln Tryz.underlying36 rfl rfl hy6 <| TO_mi (t := 3) (a := ((m.v.2.2.2.2.2.1.length : Int) : Int)) (by kernel_rfl) rfl (rfl : is _ ((m.v.2.2.2.2.2.1.length : Int) : Int)) fun z5 hz5 => TO_bs [z, z1, z2, z3, z4, z5] ([(toAny 3 (m.v.1 : Int)), (toAny 3 (m.v.2.1 : Int)), (toAny 3 (m.v.2.2.1 : Int)), (toAny 3 (m.v.2.2.2.1 : Int)), (toAny 9 (m.v.2.2.2.2.1 : Str)), (toAny 3 ((m.v.2.2.2.2.2.1.length : Int) : Int))] : (List AnyV)) Tryz.underlying152 TTryz.ef20 rfl rfl rfl (Nat.le_of_ble_eq_true rfl) ⟨hz, hz1, hz2, hz3, hz4, hz5, trivial⟩ fun z6 hz6 hz6c hz6n => ?_
  replace hs := Hp.add (x := .nils) hs rfl
  obtain ⟨r_1, hx1, h⟩ := bs h
  refine TO_callM (by kernel_rfl) Tryz.func73 rfl (vs := [.nils, z6]) rfl (MF.any (obj_put_wf [] [(toAny 3 (m.v.1 : Int)), (toAny 3 (m.v.2.1 : Int)), (toAny 3 (m.v.2.2.1 : Int)), (toAny 3 (m.v.2.2.2.1 : Int)), (toAny 9 (m.v.2.2.2.2.1 : Str)), (toAny 3 ((m.v.2.2.2.2.2.1.length : Int) : Int))] _ hx1 (.inr ⟨rfl, isL.nil, rfl, rfl, rfl⟩) hz6 (Hp.packG [(.own .nils)] [(.cells m1 xs), (.gl (NG mx))] hs)) py24_ok) fun w s ⟨en, hm, hq_⟩ => ?_
  replace hs := Hp.unpackG [(.own .nils)] [en] [(.cells m1 xs), (.gl (NG mx))] hs hq_
  refine TO_as (v := w) rfl <| TO_nil <| TC_seq <| TC_seq <| TC_reg <| TO_fv TTryz.fl96_5 rfl ?_
  replace hs := Hp.front [en] (b := [(.gl (NG mx))]) hs
  refine TO_ldV TTryz.ag36 (Sel.succ (Sel.succ (Sel.succ (Sel.succ (Sel.succ Sel.zero))))) rfl hxs hs fun y7 hy7 => TO_ln Tryz.underlying36 rfl rfl hy7 <| TO_mv (v := (enc (0 : Int))) rfl <| TO_nil <| TC_block ?_
  obtain ⟨b1, hl, h⟩ := bs h
  refine TC_loop (fun (p : ((List UInt8) × Int)) φ s => match p with | (b, v) => ∃ (x_b : AV) (en1 : En), isM x_b en1 b ∧ Fx φ [(1, (.ptr m1 0)), (4, x_b), (34, y7), (35, (enc ((m.v.2.2.2.2.2.1.length : Int) : Int))), (36, (enc (v : Int)))] ∧ Hp s [(.cells m1 xs), (.gl (NG mx)), en1]) (fun (o : (List UInt8)) e φ s => match o with | b1 => e = .exit 0 ∧ ∃ (x_b1 : AV) (en2 : En), isM x_b1 en2 b1 ∧ Fx φ [(1, (.ptr m1 0)), (4, x_b1)] ∧ Hp s [(.cells m1 xs), (.gl (NG mx)), en2]) ?_ hl ⟨w, en, hm, ⟨rfl, rfl, rfl, rfl, rfl, trivial⟩, (Hp.front [(.gl (NG mx)), en] (b := []) (Hp.front [en, (.cells m1 xs)] (b := []) (Hp.front [(.cells m1 xs)] (b := [(.gl (NG mx))]) hs)))⟩ ?_
  ·rintro ⟨b, v⟩ o h φ s ⟨x_b, en1, hm_x_b, hF, hs⟩
   rw [← hF.eq]
   rw [obj_PutMeta_l1] at h
   refine TC_seq <| TC_reg <| TO_bi (v := (enc ((decide (v < (m.v.2.2.2.2.2.1.length : Int))) : Bool))) rfl rfl rfl <| TO_nil <| TC_seq ?_
   split at h
   ·rename_i hcond
    refine TC_cond_t rfl hcond <| TC_skip <| TC_seq <| TC_block <| TC_seq <| TC_reg ?_
    obtain ⟨v1, hx2, h⟩ := bs h
    refine TO_ix Tryz.underlying36 TTryz.sh89 rfl rfl hy7 hx2 fun p hp => TO_ldE TTryz.ag89 TTryz.sz89 rfl hp fun y8 hy8 => TO_alR (r := (Rec.mk ((str []), ([] : (List UInt8)), ()) : AttrR)) TTryz.zr89 TTryz.zf89 hs fun m2 s hs => TO_stR (r := v1) TTryz.sz89 rfl rfl TTryz.zf89 hy8 hs fun xs1 s hxs1 hs => TO_nil <| TC_reg <| TO_mv (v := x_b) rfl <| TO_fv TTryz.fl89_0 rfl <| TO_ldV TTryz.ag9 Sel.zero rfl hxs1 hs fun y9 hy9 => ?_
    cases hy9
    refine TO_mi (t := 9) (a := (v1.v.1 : Str)) (by kernel_rfl) rfl (rfl : is _ (v1.v.1 : Str)) fun z7 hz7 => TO_fv TTryz.fl89_1 rfl <| TO_ldV TTryz.ag33 (Sel.succ Sel.zero) rfl hxs1 hs fun y10 hy10 => TO_mi (t := 33) (a := (v1.v.2.1 : (List UInt8))) (by kernel_rfl) rfl hy10 fun z8 hz8 => TO_bs [z7, z8] ([(toAny 9 (v1.v.1 : Str)), (toAny 33 (v1.v.2.1 : (List UInt8)))] : (List AnyV)) Tryz.underlying152 TTryz.ef20 rfl rfl rfl (Nat.le_of_ble_eq_true rfl) ⟨hz7, hz8, trivial⟩ fun z9 hz9 hz9c hz9n => ?_
    replace hs := Hp.front [(.cells m2 xs1), (.cells m1 xs), (.gl (NG mx))] (b := []) hs
    obtain ⟨r_2, hx3, h⟩ := bs h
    refine TO_callM (by kernel_rfl) Tryz.func73 rfl (vs := [x_b, z9]) rfl (MF.any (obj_put_wf b [(toAny 9 (v1.v.1 : Str)), (toAny 33 (v1.v.2.1 : (List UInt8)))] _ hx3 hm_x_b hz9 (Hp.packG [en1] [(.cells m2 xs1), (.cells m1 xs), (.gl (NG mx))] hs)) py24_ok) fun w1 s ⟨en3, hm1, hq_⟩ => ?_
    replace hs := Hp.unpackG [en1] [en3] [(.cells m2 xs1), (.cells m1 xs), (.gl (NG mx))] hs hq_
    refine TO_as (v := w1) rfl <| TO_nil <| TC_reg <| TO_bi (v := (enc ((IntKind.i64.wrap (v + 1)) : Int))) rfl rfl rfl <| TO_mv rfl <| TO_nil ?_
    rw [← Option.some.inj h]
    exact ⟨_, rfl, ⟨w1, en3, hm1, ⟨rfl, rfl, rfl, rfl, rfl, trivial⟩, (Hp.front [(.gl (NG mx)), en3] (b := []) (Hp.front [en3, (.cells m1 xs)] (b := []) (Hp.front [] (b := [(.cells m1 xs), (.gl (NG mx))]) (Hp.drop [en3] (b := [(.cells m1 xs), (.gl (NG mx))]) hs))))⟩⟩
   ·rename_i hcond
    refine TC_cond_f rfl hcond <| TC_exit ?_
    rw [← Option.some.inj h]
    exact ⟨_, rfl, rfl, ⟨x_b, en1, hm_x_b, ⟨rfl, rfl, trivial⟩, hs⟩⟩
  ·intro e φ s hE
   obtain ⟨rfl, x_b1, en2, hm_x_b1, hF, hs⟩ := hE
   rw [← hF.eq]
   rw [obj_PutMeta_a1] at h
   show if _ then _ else _
   rw [if_pos rfl]
   refine TC_seq <| TC_reg <| TO_mv (v := x_b1) rfl <| TO_fv TTryz.fl96_6 rfl <| TO_ldV TTryz.ag94 (Sel.succ (Sel.succ (Sel.succ (Sel.succ (Sel.succ (Sel.succ Sel.zero)))))) rfl hxs hs fun y11 hy11 => TO_ln Tryz.underlying94 rfl rfl hy11 <| TO_mi (t := 3) (a := ((m.v.2.2.2.2.2.2.1.length : Int) : Int)) (by kernel_rfl) rfl (rfl : is _ ((m.v.2.2.2.2.2.2.1.length : Int) : Int)) fun z10 hz10 => TO_bs [z10] ([(toAny 3 ((m.v.2.2.2.2.2.2.1.length : Int) : Int))] : (List AnyV)) Tryz.underlying152 TTryz.ef20 rfl rfl rfl (Nat.le_of_ble_eq_true rfl) ⟨hz10, trivial⟩ fun z11 hz11 hz11c hz11n => ?_
   replace hs := Hp.front [(.cells m1 xs), (.gl (NG mx))] (b := []) hs
   obtain ⟨r_3, hx4, h⟩ := bs h
   refine TO_callM (by kernel_rfl) Tryz.func73 rfl (vs := [x_b1, z11]) rfl (MF.any (obj_put_wf b1 [(toAny 3 ((m.v.2.2.2.2.2.2.1.length : Int) : Int))] _ hx4 hm_x_b1 hz11 (Hp.packG [en2] [(.cells m1 xs), (.gl (NG mx))] hs)) py24_ok) fun w2 s ⟨en4, hm2, hq_⟩ => ?_
   replace hs := Hp.unpackG [en2] [en4] [(.cells m1 xs), (.gl (NG mx))] hs hq_
   refine TO_as (v := w2) rfl <| TO_nil <| TC_seq <| TC_seq <| TC_reg <| TO_fv TTryz.fl96_6 rfl ?_
   replace hs := Hp.front [en4] (b := [(.gl (NG mx))]) hs
   refine TO_ldV TTryz.ag94 (Sel.succ (Sel.succ (Sel.succ (Sel.succ (Sel.succ (Sel.succ Sel.zero)))))) rfl hxs hs fun y12 hy12 => TO_ln Tryz.underlying94 rfl rfl hy12 <| TO_mv (v := (enc (0 : Int))) rfl <| TO_nil <| TC_block ?_
   obtain ⟨b3, hl, h⟩ := bs h
   refine TC_loop (fun (p : ((List UInt8) × Int)) φ s => match p with | (b2, v2) => ∃ (x_b2 : AV) (en5 : En), isM x_b2 en5 b2 ∧ Fx φ [(4, x_b2), (58, y12), (59, (enc ((m.v.2.2.2.2.2.2.1.length : Int) : Int))), (60, (enc (v2 : Int)))] ∧ Hp s [(.gl (NG mx)), en5]) (fun (o : (List UInt8)) e φ s => match o with | b3 => e = .exit 2 ∧ ∃ (x_b3 : AV) (en6 : En), isM x_b3 en6 b3 ∧ Fx φ [(4, x_b3)] ∧ Hp s [(.gl (NG mx)), en6]) ?_ hl ⟨w2, en4, hm2, ⟨rfl, rfl, rfl, rfl, trivial⟩, (Hp.front [en4] (b := []) (Hp.front [] (b := [(.gl (NG mx))]) (Hp.drop [] (b := [en4, (.gl (NG mx))]) hs)))⟩ ?_
   ·rintro ⟨b2, v2⟩ o h φ s ⟨x_b2, en5, hm_x_b2, hF, hs⟩
    rw [← hF.eq]
    rw [obj_PutMeta_l2] at h
    refine TC_seq <| TC_reg <| TO_bi (v := (enc ((decide (v2 < (m.v.2.2.2.2.2.2.1.length : Int))) : Bool))) rfl rfl rfl <| TO_nil <| TC_seq ?_
    split at h
    ·rename_i hcond
     refine TC_cond_t rfl hcond <| TC_skip <| TC_cut (fun φ s => ∃ (b4 : (List UInt8)) (x_b4 : AV) (en7 : En), isM x_b4 en7 b4 ∧ Fx φ [(4, x_b4), (58, y12), (59, (enc ((m.v.2.2.2.2.2.2.1.length : Int) : Int))), (60, (enc (v2 : Int)))] ∧ Hp s [(.gl (NG mx)), en7] ∧ obj_PutMeta_j3 v2 b4 = some o) ?_ ?_
     ·refine TC_block ?_
      refine TC_seq <| TC_reg ?_
      obtain ⟨v3, hx5, h⟩ := bs h
      refine TO_ix Tryz.underlying94 TTryz.sh124 rfl rfl hy12 hx5 fun p1 hp1 => TO_ldE TTryz.ag124 TTryz.sz124 rfl hp1 fun y13 hy13 => TO_alR (r := (Rec.mk ((str []), (0 : Int), (0 : Int), (0 : Int), ()) : RefR)) TTryz.zr124 TTryz.zf124 hs fun m3 s hs => TO_stR (r := v3) TTryz.sz124 rfl rfl TTryz.zf124 hy13 hs fun xs2 s hxs2 hs => TO_nil <| TC_seq <| TC_reg <| TO_fv TTryz.fl124_0 rfl <| TO_ldV TTryz.ag122 Sel.zero rfl hxs2 hs fun y14 hy14 => ?_
      cases hy14
      refine TO_bi (v := (enc ((!eqS v3.v.1 (str [])) : Bool))) rfl rfl rfl <| TO_nil ?_
      split at h
      ·rename_i hcond
       refine TC_cond_t rfl hcond <| TC_reg <| TO_mv (v := x_b2) rfl <| TO_mi (t := 4) (a := (true : Bool)) (by kernel_rfl) rfl (rfl : is _ (true : Bool)) fun z12 hz12 => TO_fv TTryz.fl124_0 rfl <| TO_ldV TTryz.ag122 Sel.zero rfl hxs2 hs fun y15 hy15 => ?_
       cases hy15
       refine TO_mi (t := 122) (a := (v3.v.1 : Str)) (by kernel_rfl) rfl (rfl : is _ (v3.v.1 : Str)) fun z13 hz13 => TO_fv TTryz.fl124_3 rfl <| TO_ldV TTryz.ag3 (Sel.succ (Sel.succ (Sel.succ Sel.zero))) rfl hxs2 hs fun y16 hy16 => ?_
       cases hy16
       refine TO_mi (t := 3) (a := (v3.v.2.2.2.1 : Int)) (by kernel_rfl) rfl (rfl : is _ (v3.v.2.2.2.1 : Int)) fun z14 hz14 => TO_bs [z12, z13, z14] ([(toAny 4 (true : Bool)), (toAny 122 (v3.v.1 : Str)), (toAny 3 (v3.v.2.2.2.1 : Int))] : (List AnyV)) Tryz.underlying152 TTryz.ef20 rfl rfl rfl (Nat.le_of_ble_eq_true rfl) ⟨hz12, hz13, hz14, trivial⟩ fun z15 hz15 hz15c hz15n => ?_
       replace hs := Hp.front [(.cells m3 xs2), (.gl (NG mx))] (b := []) hs
       obtain ⟨r_4, hx6, h⟩ := bs h
       refine TO_callM (by kernel_rfl) Tryz.func73 rfl (vs := [x_b2, z15]) rfl (MF.any (obj_put_wf b2 [(toAny 4 (true : Bool)), (toAny 122 (v3.v.1 : Str)), (toAny 3 (v3.v.2.2.2.1 : Int))] _ hx6 hm_x_b2 hz15 (Hp.packG [en5] [(.cells m3 xs2), (.gl (NG mx))] hs)) py24_ok) fun w3 s ⟨en8, hm3, hq_⟩ => ?_
       replace hs := Hp.unpackG [en5] [en8] [(.cells m3 xs2), (.gl (NG mx))] hs hq_
       refine TO_as (v := w3) rfl <| TO_nil ?_
       exact ⟨r_4, w3, en8, hm3, ⟨rfl, rfl, rfl, rfl, trivial⟩, (Hp.front [en8] (b := []) (Hp.front [] (b := [(.gl (NG mx))]) (Hp.drop [en8] (b := [(.gl (NG mx))]) hs))), h⟩
      ·rename_i hcond
       refine TC_cond_f rfl hcond <| TC_reg <| TO_mv (v := x_b2) rfl <| TO_mi (t := 4) (a := (false : Bool)) (by kernel_rfl) rfl (rfl : is _ (false : Bool)) fun z16 hz16 => TO_fv TTryz.fl124_1 rfl <| TO_ldV TTryz.ag3 (Sel.succ Sel.zero) rfl hxs2 hs fun y17 hy17 => ?_
       cases hy17
       refine TO_mi (t := 3) (a := (v3.v.2.1 : Int)) (by kernel_rfl) rfl (rfl : is _ (v3.v.2.1 : Int)) fun z17 hz17 => TO_fv TTryz.fl124_2 rfl <| TO_ldV TTryz.ag3 (Sel.succ (Sel.succ Sel.zero)) rfl hxs2 hs fun y18 hy18 => ?_
       cases hy18
       refine TO_mi (t := 3) (a := (v3.v.2.2.1 : Int)) (by kernel_rfl) rfl (rfl : is _ (v3.v.2.2.1 : Int)) fun z18 hz18 => TO_fv TTryz.fl124_3 rfl <| TO_ldV TTryz.ag3 (Sel.succ (Sel.succ (Sel.succ Sel.zero))) rfl hxs2 hs fun y19 hy19 => ?_
       cases hy19
       refine TO_mi (t := 3) (a := (v3.v.2.2.2.1 : Int)) (by kernel_rfl) rfl (rfl : is _ (v3.v.2.2.2.1 : Int)) fun z19 hz19 => TO_bs [z16, z17, z18, z19] ([(toAny 4 (false : Bool)), (toAny 3 (v3.v.2.1 : Int)), (toAny 3 (v3.v.2.2.1 : Int)), (toAny 3 (v3.v.2.2.2.1 : Int))] : (List AnyV)) Tryz.underlying152 TTryz.ef20 rfl rfl rfl (Nat.le_of_ble_eq_true rfl) ⟨hz16, hz17, hz18, hz19, trivial⟩ fun z20 hz20 hz20c hz20n => ?_
       replace hs := Hp.front [(.cells m3 xs2), (.gl (NG mx))] (b := []) hs
       obtain ⟨r_5, hx7, h⟩ := bs h
       refine TO_callM (by kernel_rfl) Tryz.func73 rfl (vs := [x_b2, z20]) rfl (MF.any (obj_put_wf b2 [(toAny 4 (false : Bool)), (toAny 3 (v3.v.2.1 : Int)), (toAny 3 (v3.v.2.2.1 : Int)), (toAny 3 (v3.v.2.2.2.1 : Int))] _ hx7 hm_x_b2 hz20 (Hp.packG [en5] [(.cells m3 xs2), (.gl (NG mx))] hs)) py24_ok) fun w4 s ⟨en9, hm4, hq_⟩ => ?_
       replace hs := Hp.unpackG [en5] [en9] [(.cells m3 xs2), (.gl (NG mx))] hs hq_
       refine TO_as (v := w4) rfl <| TO_nil ?_
       exact ⟨r_5, w4, en9, hm4, ⟨rfl, rfl, rfl, rfl, trivial⟩, (Hp.front [en9] (b := []) (Hp.front [] (b := [(.gl (NG mx))]) (Hp.drop [en9] (b := [(.gl (NG mx))]) hs))), h⟩
     ·rintro φ s ⟨b4, x_b4, en7, hm_x_b4, hF, hs, h⟩
      rw [← hF.eq]
      unfold obj_PutMeta_j3 at h
      refine TC_reg <| TO_bi (v := (enc ((IntKind.i64.wrap (v2 + 1)) : Int))) rfl rfl rfl <| TO_mv rfl <| TO_nil ?_
      rw [← Option.some.inj h]
      exact ⟨_, rfl, ⟨x_b4, en7, hm_x_b4, ⟨rfl, rfl, rfl, rfl, trivial⟩, hs⟩⟩
    ·rename_i hcond
     refine TC_cond_f rfl hcond <| TC_exit ?_
     rw [← Option.some.inj h]
     exact ⟨_, rfl, rfl, ⟨x_b2, en5, hm_x_b2, ⟨rfl, trivial⟩, hs⟩⟩
   ·intro e φ s hE
    obtain ⟨rfl, x_b3, en6, hm_x_b3, hF, hs⟩ := hE
    rw [← hF.eq]
    rw [obj_PutMeta_a2] at h
    show if _ then _ else _
    rw [if_pos rfl]
    refine TC_seq <| TC_reg ?_
    replace hs := Hp.front [(.gl (NG mx))] (b := []) hs
    refine TO_frz (q := 4) rfl hm_x_b3 hs fun z21 s hz21 hs => TO_mv (v := z21) rfl <| TO_as (v := z21) rfl <| TO_as (v := (enc (0 : Int))) rfl <| TO_nil <| TC_ret ?_
    rw [← Option.some.inj h]
    exact ⟨rfl, KE2 (a1 := (b3 : (List UInt8))) (a2 := (0 : Int)) rfl rfl rfl hz21 (rfl : is _ (0 : Int)) ⟨_, _, rfl, hz21, (rfl : is _ (0 : Int))⟩⟩
theorem obj_PutMeta_pc (mx : Int) : PureC Tryz.prog 54 (FnG (NG mx) (fun a : MetaR × Unit => obj_PutMeta a.1)) := fnCG (pv5_ok mx) ⟨_, Tryz.func54, rfl⟩ <| fun a r h => obj_PutMeta_wf mx a.1 r h
noncomputable def pv6 (mx : Int) : Prims := (pv5 mx).addG 54 (FnG (NG mx) (fun a : MetaR × Unit => obj_PutMeta a.1))
theorem pv6_ok (mx : Int) : PrimsOk Tryz.prog (pv6 mx) := primsOk_addG (pv5_ok mx) (obj_PutMeta_pc mx)
theorem obj_PutListing_wf (mx : Int) (l : ListingR) (r : (List UInt8) × Int) (h : obj_PutListing l = some r) : MF Tryz.prog (pv6 mx) 55 [enc l] (sG (NG mx)) fun v _ => ris v r := by
 refine TF_run [(0, enc l)] Tryz.func55 rfl (by simp only [Tryz.f55]; rfl) fun ψ => ?_
 unfold obj_PutListing at h
 have hs : Hp (sG (NG mx)) [.gl (NG mx)] := Hp.gl0
 refine TC_seq <| TC_reg <| TO_bxR (r := l) rfl (Enc.self l) hs fun m xs s hxs hs => TO_as (v := .nils) rfl <| TO_as (v := (enc (0 : Int))) rfl <| TO_nil <| TC_seq <| TC_reg <| TO_frzR (q := 1) (r := l) rfl hxs hs fun z s hz hs => TO_mkf (c := ((PtrC.mk l : PtrC ListingR), ())) rfl ⟨_, _, rfl, hz, rfl⟩ fun z1 hz1 => TO_as (v := z1) rfl <| TO_nil <| TC_seq <| TC_seq <| TC_reg ?_
 refine TO_fp TTryz.fl99_1 (Sel.succ Sel.zero) rfl (PtrC.ep hz) fun p hp => TO_ldF TTryz.ag34 rfl hp fun y hy => TO_ln Tryz.underlying34 rfl rfl hy <| TO_bi (v := (enc ((decide ((l.v.2.1.length : Int) > 256)) : Bool))) rfl rfl rfl <| TO_mv rfl ?_
 obtain ⟨b, hb_b, h⟩ := bs h
 refine TO_cut 8 (fun φ s => Hp s [(.gl (NG mx))] ∧ Fx φ [(1, z), (4, z1), (23, (enc (b : Bool)))]) ?_ ?_
 ·split at hb_b
  ·rename_i cg
   refine TO_off rfl rfl (by simpa using cg) <| TO_off rfl rfl (by simpa using cg) <| TO_off rfl rfl (by simpa using cg) <| TO_off rfl rfl (by simpa using cg) <| TO_off rfl rfl (by simpa using cg) <| TO_off rfl rfl (by simpa using cg) <| TO_off rfl rfl (by simpa using cg) <| TO_pt (v := (enc (true : Bool))) rfl cg rfl <| TO_nil ?_
   rw [← Option.some.inj hb_b]
   exact ⟨hs, ⟨rfl, rfl, rfl, trivial⟩⟩
  ·rename_i cg1
   refine TO_on rfl rfl (by simpa using cg1) <| TO_fp TTryz.fl99_2 (Sel.succ (Sel.succ Sel.zero)) rfl (PtrC.ep hz) fun p1 hp1 => TO_on rfl rfl (by simpa using cg1) <| TO_ldF TTryz.ag35 rfl hp1 fun y1 hy1 => TO_on rfl rfl (by simpa using cg1) <| TO_ln Tryz.underlying35 rfl rfl hy1 <| TO_on rfl rfl (by simpa using cg1) <| TO_fp TTryz.fl99_1 (Sel.succ Sel.zero) rfl (PtrC.ep hz) fun p2 hp2 => TO_on rfl rfl (by simpa using cg1) <| TO_ldF TTryz.ag34 rfl hp2 fun y2 hy2 => TO_on rfl rfl (by simpa using cg1) <| TO_ln Tryz.underlying34 rfl rfl hy2 <| TO_on rfl rfl (by simpa using cg1) <| TO_bi (v := (enc (((l.v.2.2.1.length : Int) != (l.v.2.1.length : Int)) : Bool))) rfl rfl rfl <| TO_pf rfl cg1 rfl ?_
   refine TO_nil ?_
   rw [← Option.some.inj hb_b]
   exact ⟨hs, ⟨rfl, rfl, rfl, trivial⟩⟩
 ·rintro φ s ⟨hs, hF⟩
  rw [← hF.eq]
  refine TO_mv rfl ?_
  obtain ⟨b1, hb_b1, h⟩ := bs h
  refine TO_cut 5 (fun φ s => Hp s [(.gl (NG mx))] ∧ Fx φ [(1, z), (4, z1), (29, (enc (b1 : Bool)))]) ?_ ?_
  ·split at hb_b1
   ·rename_i cg2
    refine TO_off rfl rfl (by simpa using cg2) <| TO_off rfl rfl (by simpa using cg2) <| TO_off rfl rfl (by simpa using cg2) <| TO_off rfl rfl (by simpa using cg2) <| TO_pt (v := (enc (true : Bool))) rfl cg2 rfl <| TO_nil ?_
    rw [← Option.some.inj hb_b1]
    exact ⟨hs, ⟨rfl, rfl, rfl, trivial⟩⟩
   ·rename_i cg3
    refine TO_on rfl rfl (by simpa using cg3) <| TO_fp TTryz.fl99_1 (Sel.succ Sel.zero) rfl (PtrC.ep hz) fun p3 hp3 => TO_on rfl rfl (by simpa using cg3) <| TO_ldF TTryz.ag34 rfl hp3 fun y3 hy3 => TO_on rfl rfl (by simpa using cg3) ?_
    obtain ⟨r_, hx, hb_b1⟩ := bs hb_b1
    refine TO_fnG (f := fun a : (List Str) × Unit => obj_rising a.1) (a := (l.v.2.1, ())) rfl Tryz.func75 rfl rfl (.cons (a := (l.v.2.1 : (List Str))) hy3 .nil) hs List.mem_cons_self hx <| TO_on rfl rfl (by simpa using cg3) <| TO_un (v := (enc ((!r_) : Bool))) rfl rfl <| TO_pf rfl cg3 rfl <| TO_nil ?_
    rw [← Option.some.inj hb_b1]
    exact ⟨hs, ⟨rfl, rfl, rfl, trivial⟩⟩
  ·rintro φ s ⟨hs, hF⟩
   rw [← hF.eq]
   refine TO_mv rfl ?_
   obtain ⟨b2, hb_b2, h⟩ := bs h
   refine TO_cut 5 (fun φ s => Hp s [(.gl (NG mx))] ∧ Fx φ [(1, z), (35, (enc (b2 : Bool)))]) ?_ ?_
   ·split at hb_b2
    ·rename_i cg4
     refine TO_off rfl rfl (by simpa using cg4) <| TO_off rfl rfl (by simpa using cg4) <| TO_off rfl rfl (by simpa using cg4) <| TO_off rfl rfl (by simpa using cg4) <| TO_pt (v := (enc (true : Bool))) rfl cg4 rfl <| TO_nil ?_
     rw [← Option.some.inj hb_b2]
     exact ⟨hs, ⟨rfl, rfl, trivial⟩⟩
    ·rename_i cg5
     refine TO_on rfl rfl (by simpa using cg5) <| TO_fp TTryz.fl99_2 (Sel.succ (Sel.succ Sel.zero)) rfl (PtrC.ep hz) fun p4 hp4 => TO_on rfl rfl (by simpa using cg5) <| TO_ldF TTryz.ag35 rfl hp4 fun y4 hy4 => TO_on rfl rfl (by simpa using cg5) <| TO_mv (v := z1) rfl <| TO_on rfl rfl (by simpa using cg5) ?_
     obtain ⟨r_1, hx1, hb_b2⟩ := bs hb_b2
     refine TO_fn (f := fun a : (List Int) × (Clo 74 ((PtrC ListingR) × Unit)) × Unit => sl_ContainsFunc a.1 a.2.1) (a := (l.v.2.2.1, (Clo.mk ((PtrC.mk l : PtrC ListingR), ()) : Clo 74 ((PtrC ListingR) × Unit)), ())) rfl Tryz.func76 rfl rfl (.cons (a := (l.v.2.2.1 : (List Int))) hy4 (.cons (a := ((Clo.mk ((PtrC.mk l : PtrC ListingR), ()) : Clo 74 ((PtrC ListingR) × Unit)) : (Clo 74 ((PtrC ListingR) × Unit)))) hz1 .nil)) hx1 <| TO_pf rfl cg5 rfl <| TO_nil ?_
     rw [← Option.some.inj hb_b2]
     exact ⟨hs, ⟨rfl, rfl, trivial⟩⟩
   ·rintro φ s ⟨hs, hF⟩
    rw [← hF.eq]
    refine TO_nil ?_
    split at h
    ·rename_i hcond
     refine TC_cond_t rfl hcond <| TC_seq <| TC_reg <| TO_as (v := .nils) rfl <| TO_as (v := (enc (80 : Int))) rfl <| TO_nil <| TC_ret ?_
     rw [← Option.some.inj h]
     exact ⟨rfl, KE2 (a1 := ([] : (List UInt8))) (a2 := (80 : Int)) rfl rfl rfl isL.nil (rfl : is _ (80 : Int)) ⟨_, _, rfl, isL.nil, (rfl : is _ (80 : Int))⟩⟩
    ·rename_i hcond
     refine TC_cond_f rfl hcond <| TC_skip <| TC_seq <| TC_reg <| TO_fp TTryz.fl99_0 Sel.zero rfl (PtrC.ep hz) fun p5 hp5 => TO_ldF TTryz.ag4 rfl hp5 fun y5 hy5 => ?_
     cases hy5
     refine TO_mi (t := 4) (a := (l.v.1 : Bool)) (by kernel_rfl) rfl (rfl : is _ (l.v.1 : Bool)) fun z2 hz2 => TO_fp TTryz.fl99_1 (Sel.succ Sel.zero) rfl (PtrC.ep hz) fun p6 hp6 => TO_ldF TTryz.ag34 rfl hp6 fun y6 hy6 => TO_ln Tryz.underlying34 rfl rfl hy6 <| TO_mi (t := 3) (a := ((l.v.2.1.length : Int) : Int)) (by kernel_rfl) rfl (rfl : is _ ((l.v.2.1.length : Int) : Int)) fun z3 hz3 => TO_bs [z2, z3] ([(toAny 4 (l.v.1 : Bool)), (toAny 3 ((l.v.2.1.length : Int) : Int))] : (List AnyV)) Tryz.underlying152 TTryz.ef20 rfl rfl rfl (Nat.le_of_ble_eq_true rfl) ⟨hz2, hz3, trivial⟩ fun z4 hz4 hz4c hz4n => ?_
     replace hs := Hp.add (x := .nils) hs rfl
     obtain ⟨r_2, hx2, h⟩ := bs h
     refine TO_callM (by kernel_rfl) Tryz.func73 rfl (vs := [.nils, z4]) rfl (MF.any (obj_put_wf [] [(toAny 4 (l.v.1 : Bool)), (toAny 3 ((l.v.2.1.length : Int) : Int))] _ hx2 (.inr ⟨rfl, isL.nil, rfl, rfl, rfl⟩) hz4 (Hp.packG [(.own .nils)] [(.gl (NG mx))] hs)) py24_ok) fun w s ⟨en, hm, hq_⟩ => ?_
     replace hs := Hp.unpackG [(.own .nils)] [en] [(.gl (NG mx))] hs hq_
     refine TO_as (v := w) rfl <| TO_nil <| TC_seq <| TC_seq <| TC_reg <| TO_fp TTryz.fl99_1 (Sel.succ Sel.zero) rfl (PtrC.ep hz) fun p7 hp7 => TO_ldF TTryz.ag34 rfl hp7 fun y7 hy7 => TO_ln Tryz.underlying34 rfl rfl hy7 <| TO_mv (v := (enc (0 : Int))) rfl <| TO_nil <| TC_block ?_
     obtain ⟨b4, hl, h⟩ := bs h
     refine TC_loop (fun (p : ((List UInt8) × Int)) φ s => match p with | (b3, v) => ∃ (x_b3 : AV) (en1 : En), isM x_b3 en1 b3 ∧ Fx φ [(1, z), (5, x_b3), (46, y7), (47, (enc ((l.v.2.1.length : Int) : Int))), (48, (enc (v : Int)))] ∧ Hp s [(.gl (NG mx)), en1]) (fun (o : (List UInt8)) e φ s => match o with | b4 => e = .exit 0 ∧ ∃ (x_b4 : AV) (en2 : En), isM x_b4 en2 b4 ∧ Fx φ [(1, z), (5, x_b4)] ∧ Hp s [(.gl (NG mx)), en2]) ?_ hl ⟨w, en, hm, ⟨rfl, rfl, rfl, rfl, rfl, trivial⟩, (Hp.front [en] (b := []) (Hp.front [] (b := [(.gl (NG mx))]) hs))⟩ ?_
     ·rintro ⟨b3, v⟩ o h φ s ⟨x_b3, en1, hm_x_b3, hF, hs⟩
      rw [← hF.eq]
      rw [obj_PutListing_l1] at h
      refine TC_seq <| TC_reg <| TO_bi (v := (enc ((decide (v < (l.v.2.1.length : Int))) : Bool))) rfl rfl rfl <| TO_nil <| TC_seq ?_
      split at h
      ·rename_i hcond
       refine TC_cond_t rfl hcond <| TC_skip <| TC_seq <| TC_block <| TC_seq <| TC_reg ?_
       obtain ⟨v1, hx3, h⟩ := bs h
       refine TO_ix Tryz.underlying34 TTryz.sh9 rfl rfl hy7 hx3 fun p8 hp8 => TO_ld rfl TTryz.ag9 rfl hp8 fun y8 hy8 => ?_
       cases hy8
       refine TO_as rfl <| TO_nil <| TC_reg <| TO_mv (v := x_b3) rfl <| TO_mv rfl <| TO_mi (t := 9) (a := (v1 : Str)) (by kernel_rfl) rfl (rfl : is _ (v1 : Str)) fun z5 hz5 => TO_bs [z5] ([(toAny 9 (v1 : Str))] : (List AnyV)) Tryz.underlying152 TTryz.ef20 rfl rfl rfl (Nat.le_of_ble_eq_true rfl) ⟨hz5, trivial⟩ fun z6 hz6 hz6c hz6n => ?_
       replace hs := Hp.front [(.gl (NG mx))] (b := []) hs
       obtain ⟨r_3, hx4, h⟩ := bs h
       refine TO_callM (by kernel_rfl) Tryz.func73 rfl (vs := [x_b3, z6]) rfl (MF.any (obj_put_wf b3 [(toAny 9 (v1 : Str))] _ hx4 hm_x_b3 hz6 (Hp.packG [en1] [(.gl (NG mx))] hs)) py24_ok) fun w1 s ⟨en3, hm1, hq_⟩ => ?_
       replace hs := Hp.unpackG [en1] [en3] [(.gl (NG mx))] hs hq_
       refine TO_as (v := w1) rfl <| TO_nil <| TC_reg <| TO_bi (v := (enc ((IntKind.i64.wrap (v + 1)) : Int))) rfl rfl rfl <| TO_mv rfl <| TO_nil ?_
       rw [← Option.some.inj h]
       exact ⟨_, rfl, ⟨w1, en3, hm1, ⟨rfl, rfl, rfl, rfl, rfl, trivial⟩, (Hp.front [en3] (b := []) (Hp.front [] (b := [(.gl (NG mx))]) hs))⟩⟩
      ·rename_i hcond
       refine TC_cond_f rfl hcond <| TC_exit ?_
       rw [← Option.some.inj h]
       exact ⟨_, rfl, rfl, ⟨x_b3, en1, hm_x_b3, ⟨rfl, rfl, trivial⟩, hs⟩⟩
     ·intro e φ s hE
      obtain ⟨rfl, x_b4, en2, hm_x_b4, hF, hs⟩ := hE
      rw [← hF.eq]
      rw [obj_PutListing_a1] at h
      show if _ then _ else _
      rw [if_pos rfl]
      refine TC_seq <| TC_seq <| TC_reg <| TO_fp TTryz.fl99_2 (Sel.succ (Sel.succ Sel.zero)) rfl (PtrC.ep hz) fun p9 hp9 => TO_ldF TTryz.ag35 rfl hp9 fun y9 hy9 => TO_ln Tryz.underlying35 rfl rfl hy9 <| TO_mv (v := (enc (0 : Int))) rfl <| TO_nil <| TC_block ?_
      obtain ⟨b6, hl, h⟩ := bs h
      refine TC_loop (fun (p : ((List UInt8) × Int)) φ s => match p with | (b5, v2) => ∃ (x_b5 : AV) (en4 : En), isM x_b5 en4 b5 ∧ Fx φ [(5, x_b5), (59, y9), (60, (enc ((l.v.2.2.1.length : Int) : Int))), (61, (enc (v2 : Int)))] ∧ Hp s [(.gl (NG mx)), en4]) (fun (o : (List UInt8)) e φ s => match o with | b6 => e = .exit 2 ∧ ∃ (x_b6 : AV) (en5 : En), isM x_b6 en5 b6 ∧ Fx φ [(5, x_b6)] ∧ Hp s [(.gl (NG mx)), en5]) ?_ hl ⟨x_b4, en2, hm_x_b4, ⟨rfl, rfl, rfl, rfl, trivial⟩, hs⟩ ?_
      ·rintro ⟨b5, v2⟩ o h φ s ⟨x_b5, en4, hm_x_b5, hF, hs⟩
       rw [← hF.eq]
       rw [obj_PutListing_l2] at h
       refine TC_seq <| TC_reg <| TO_bi (v := (enc ((decide (v2 < (l.v.2.2.1.length : Int))) : Bool))) rfl rfl rfl <| TO_nil <| TC_seq ?_
       split at h
       ·rename_i hcond
        refine TC_cond_t rfl hcond <| TC_skip <| TC_seq <| TC_block <| TC_seq <| TC_reg ?_
        obtain ⟨v3, hx5, h⟩ := bs h
        refine TO_ix Tryz.underlying35 TTryz.sh3 rfl rfl hy9 hx5 fun p10 hp10 => TO_ld rfl TTryz.ag3 rfl hp10 fun y10 hy10 => ?_
        cases hy10
        refine TO_as rfl <| TO_nil <| TC_reg <| TO_mv (v := x_b5) rfl <| TO_mv rfl <| TO_mi (t := 3) (a := (v3 : Int)) (by kernel_rfl) rfl (rfl : is _ (v3 : Int)) fun z7 hz7 => TO_bs [z7] ([(toAny 3 (v3 : Int))] : (List AnyV)) Tryz.underlying152 TTryz.ef20 rfl rfl rfl (Nat.le_of_ble_eq_true rfl) ⟨hz7, trivial⟩ fun z8 hz8 hz8c hz8n => ?_
        replace hs := Hp.front [(.gl (NG mx))] (b := []) hs
        obtain ⟨r_4, hx6, h⟩ := bs h
        refine TO_callM (by kernel_rfl) Tryz.func73 rfl (vs := [x_b5, z8]) rfl (MF.any (obj_put_wf b5 [(toAny 3 (v3 : Int))] _ hx6 hm_x_b5 hz8 (Hp.packG [en4] [(.gl (NG mx))] hs)) py24_ok) fun w2 s ⟨en6, hm2, hq_⟩ => ?_
        replace hs := Hp.unpackG [en4] [en6] [(.gl (NG mx))] hs hq_
        refine TO_as (v := w2) rfl <| TO_nil <| TC_reg <| TO_bi (v := (enc ((IntKind.i64.wrap (v2 + 1)) : Int))) rfl rfl rfl <| TO_mv rfl <| TO_nil ?_
        rw [← Option.some.inj h]
        exact ⟨_, rfl, ⟨w2, en6, hm2, ⟨rfl, rfl, rfl, rfl, trivial⟩, (Hp.front [en6] (b := []) (Hp.front [] (b := [(.gl (NG mx))]) hs))⟩⟩
       ·rename_i hcond
        refine TC_cond_f rfl hcond <| TC_exit ?_
        rw [← Option.some.inj h]
        exact ⟨_, rfl, rfl, ⟨x_b5, en4, hm_x_b5, ⟨rfl, trivial⟩, hs⟩⟩
      ·intro e φ s hE
       obtain ⟨rfl, x_b6, en5, hm_x_b6, hF, hs⟩ := hE
       rw [← hF.eq]
       rw [obj_PutListing_a2] at h
       show if _ then _ else _
       rw [if_pos rfl]
       refine TC_seq <| TC_reg ?_
       replace hs := Hp.front [(.gl (NG mx))] (b := []) hs
       refine TO_frz (q := 5) rfl hm_x_b6 hs fun z9 s hz9 hs => TO_mv (v := z9) rfl <| TO_as (v := z9) rfl <| TO_as (v := (enc (0 : Int))) rfl <| TO_nil <| TC_ret ?_
       rw [← Option.some.inj h]
       exact ⟨rfl, KE2 (a1 := (b6 : (List UInt8))) (a2 := (0 : Int)) rfl rfl rfl hz9 (rfl : is _ (0 : Int)) ⟨_, _, rfl, hz9, (rfl : is _ (0 : Int))⟩⟩
theorem obj_PutListing_pc (mx : Int) : PureC Tryz.prog 55 (FnG (NG mx) (fun a : ListingR × Unit => obj_PutListing a.1)) := fnCG (pv6_ok mx) ⟨_, Tryz.func55, rfl⟩ <| fun a r h => obj_PutListing_wf mx a.1 r h
noncomputable def pv7 (mx : Int) : Prims := (pv6 mx).addG 55 (FnG (NG mx) (fun a : ListingR × Unit => obj_PutListing a.1))
theorem pv7_ok (mx : Int) : PrimsOk Tryz.prog (pv7 mx) := primsOk_addG (pv6_ok mx) (obj_PutListing_pc mx)
theorem plain_right_wf (mx : Int) (x : InodeR) (r : Bool) (h : plain_right x = some r) : MF Tryz.prog (pv7 mx) 27 [enc x] (sG (NG mx)) fun v _ => ris v r := by
 refine TF_run [(0, enc x)] Tryz.func27 rfl (by simp only [Tryz.f27]; rfl) fun ψ => ?_
 unfold plain_right at h
 have hs : Hp (sG (NG mx)) [.gl (NG mx)] := Hp.gl0
 refine TC_seq <| TC_reg <| TO_bxR (r := x) rfl (Enc.self x) hs fun m xs s hxs hs => TO_as (v := (enc (false : Bool))) rfl <| TO_nil <| TC_seq <| TC_reg <| TO_fv TTryz.fl38_1 rfl <| TO_ldV TTryz.ag25 (Sel.succ Sel.zero) rfl hxs hs fun y hy => ?_
 cases hy
 refine TO_fv TTryz.fl38_2 rfl <| TO_ldV TTryz.ag3 (Sel.succ (Sel.succ Sel.zero)) rfl hxs hs fun y1 hy1 => ?_
 cases hy1
 refine TO_fv TTryz.fl38_3 rfl <| TO_ldV TTryz.ag3 (Sel.succ (Sel.succ (Sel.succ Sel.zero))) rfl hxs hs fun y2 hy2 => ?_
 cases hy2
 refine TO_fv TTryz.fl38_5 rfl <| TO_ldV TTryz.ag9 (Sel.succ (Sel.succ (Sel.succ (Sel.succ (Sel.succ Sel.zero))))) rfl hxs hs fun y3 hy3 => ?_
 cases hy3
 refine TO_fv TTryz.fl38_8 rfl <| TO_ldV TTryz.ag36 (Sel.succ (Sel.succ (Sel.succ (Sel.succ (Sel.succ (Sel.succ (Sel.succ (Sel.succ Sel.zero)))))))) rfl hxs hs fun y4 hy4 => TO_buR (r0 := ((0 : Int), (0 : Int), (0 : Int), (0 : Int), (str []), ([] : (List AttrR)), ([] : (List RefR)), ())) TTryz.bu96 TTryz.zr96 TTryz.zf96 rfl rfl (r := (x.v.2.1, x.v.2.2.1, x.v.2.2.2.1, (0 : Int), x.v.2.2.2.2.2.1, x.v.2.2.2.2.2.2.2.2.1, ([] : (List RefR)), ())) (.cons (z := (x.v.2.1 : Int)) Sel.zero (rfl : is _ (x.v.2.1 : Int)) (.cons (z := (x.v.2.2.1 : Int)) (Sel.succ Sel.zero) (rfl : is _ (x.v.2.2.1 : Int)) (.cons (z := (x.v.2.2.2.1 : Int)) (Sel.succ (Sel.succ Sel.zero)) (rfl : is _ (x.v.2.2.2.1 : Int)) (.cons (z := (x.v.2.2.2.2.2.1 : Str)) (Sel.succ (Sel.succ (Sel.succ (Sel.succ Sel.zero)))) (rfl : is _ (x.v.2.2.2.2.2.1 : Str)) (.cons (z := (x.v.2.2.2.2.2.2.2.2.1 : (List AttrR))) (Sel.succ (Sel.succ (Sel.succ (Sel.succ (Sel.succ Sel.zero))))) hy4 .nil))))) fun y5 hy5 => ?_
 obtain ⟨r_, hx, h⟩ := bs h
 refine TO_fnG (f := fun a : MetaR × Unit => obj_PutMeta a.1) (a := ((Rec.mk (x.v.2.1, x.v.2.2.1, x.v.2.2.2.1, (0 : Int), x.v.2.2.2.2.2.1, x.v.2.2.2.2.2.2.2.2.1, ([] : (List RefR)), ()) : MetaR), ())) rfl Tryz.func54 rfl rfl (.cons (a := ((Rec.mk (x.v.2.1, x.v.2.2.1, x.v.2.2.2.1, (0 : Int), x.v.2.2.2.2.2.1, x.v.2.2.2.2.2.2.2.2.1, ([] : (List RefR)), ()) : MetaR) : MetaR)) hy5 .nil) hs (List.mem_cons_of_mem _ List.mem_cons_self) hx <| TO_mv (v := (res r_)) rfl <| TO_ex rfl rfl <| TO_ex rfl rfl <| TO_as rfl <| TO_as rfl <| TO_nil <| TC_seq <| TC_reg <| TO_fv TTryz.fl38_4 rfl <| TO_ldV TTryz.ag33 (Sel.succ (Sel.succ (Sel.succ (Sel.succ Sel.zero)))) rfl hxs hs fun y6 hy6 => TO_ln Tryz.underlying33 rfl rfl hy6 <| TO_bi (v := (enc (((x.v.2.2.2.2.1.length : Int) == 0) : Bool))) rfl rfl rfl <| TO_mv rfl ?_
 obtain ⟨b, hb_b, h⟩ := bs h
 refine TO_cut 10 (fun φ s => Hp s [(.cells m xs), (.gl (NG mx))] ∧ Fx φ [(1, (.ptr m 0)), (4, (enc (r_.2 : Int))), (35, (enc (b : Bool)))]) ?_ ?_
 ·split at hb_b
  ·rename_i cg
   refine TO_off rfl rfl (by simpa using cg) <| TO_off rfl rfl (by simpa using cg) <| TO_off rfl rfl (by simpa using cg) <| TO_off rfl rfl (by simpa using cg) <| TO_offU rfl rfl <| TO_offU rfl rfl <| TO_offU rfl rfl <| TO_offU rfl rfl <| TO_off rfl rfl (by simpa using cg) <| TO_pt (v := (enc (true : Bool))) rfl cg rfl <| TO_nil ?_
   rw [← Option.some.inj hb_b]
   exact ⟨hs, ⟨rfl, rfl, rfl, trivial⟩⟩
  ·rename_i cg1
   refine TO_on rfl rfl (by simpa using cg1) <| TO_fv TTryz.fl38_1 rfl <| TO_on rfl rfl (by simpa using cg1) <| TO_ldV TTryz.ag25 (Sel.succ Sel.zero) rfl hxs hs fun y7 hy7 => ?_
   cases hy7
   refine TO_on rfl rfl (by simpa using cg1) <| TO_bi (v := (enc ((x.v.2.1 == 1) : Bool))) rfl rfl rfl <| TO_on rfl rfl (by simpa using cg1) <| TO_mv rfl ?_
   obtain ⟨b1, hb_b1, hb_b⟩ := bs hb_b
   refine TO_cut 5 (fun φ s => Hp s [(.cells m xs), (.gl (NG mx))] ∧ Fx φ [(1, (.ptr m 0)), (4, (enc (r_.2 : Int))), (25, (enc (((x.v.2.2.2.2.1.length : Int) == 0) : Bool))), (34, (enc (b1 : Bool)))]) ?_ ?_
   ·split at hb_b1
    ·rename_i cg2
     refine TO_on rfl rfl cg2 <| TO_fv TTryz.fl38_4 rfl <| TO_on rfl rfl cg2 <| TO_ldV TTryz.ag33 (Sel.succ (Sel.succ (Sel.succ (Sel.succ Sel.zero)))) rfl hxs hs fun y8 hy8 => TO_on rfl rfl cg2 <| TO_ln Tryz.underlying33 rfl rfl hy8 <| TO_on rfl rfl cg2 <| TO_bi (v := (enc ((decide ((x.v.2.2.2.2.1.length : Int) ≤ 32768)) : Bool))) rfl rfl rfl <| TO_on rfl rfl (by simpa using cg1) <| TO_pt rfl cg2 rfl <| TO_nil ?_
     rw [← Option.some.inj hb_b1]
     exact ⟨hs, ⟨rfl, rfl, rfl, rfl, trivial⟩⟩
    ·rename_i cg3
     refine TO_off rfl rfl cg3 <| TO_off rfl rfl cg3 <| TO_off rfl rfl cg3 <| TO_off rfl rfl cg3 <| TO_on rfl rfl (by simpa using cg1) <| TO_pf (v := (enc (false : Bool))) rfl cg3 rfl <| TO_nil ?_
     rw [← Option.some.inj hb_b1]
     exact ⟨hs, ⟨rfl, rfl, rfl, rfl, trivial⟩⟩
   ·rintro φ s ⟨hs, hF⟩
    rw [← hF.eq]
    refine TO_pf rfl cg1 rfl <| TO_nil ?_
    rw [← Option.some.inj hb_b]
    exact ⟨hs, ⟨rfl, rfl, rfl, trivial⟩⟩
 ·rintro φ s ⟨hs, hF⟩
  rw [← hF.eq]
  refine TO_as rfl <| TO_nil <| TC_seq <| TC_seq <| TC_reg <| TO_mv rfl <| TO_bi (v := (enc ((r_.2 != 0) : Bool))) rfl rfl rfl <| TO_mv rfl ?_
  obtain ⟨b2, hb_b2, h⟩ := bs h
  refine TO_cut 3 (fun φ s => Hp s [(.cells m xs), (.gl (NG mx))] ∧ Fx φ [(1, (.ptr m 0)), (41, (enc (b2 : Bool)))]) ?_ ?_
  ·split at hb_b2
   ·rename_i cg4
    refine TO_off rfl rfl (by simpa using cg4) <| TO_off rfl rfl (by simpa using cg4) <| TO_pt (v := (enc (true : Bool))) rfl cg4 rfl <| TO_nil ?_
    rw [← Option.some.inj hb_b2]
    exact ⟨hs, ⟨rfl, rfl, trivial⟩⟩
   ·rename_i cg5
    refine TO_on rfl rfl (by simpa using cg5) <| TO_mv rfl <| TO_on rfl rfl (by simpa using cg5) <| TO_un (v := (enc ((!b) : Bool))) rfl rfl <| TO_pf rfl cg5 rfl <| TO_nil ?_
    rw [← Option.some.inj hb_b2]
    exact ⟨hs, ⟨rfl, rfl, trivial⟩⟩
  ·rintro φ s ⟨hs, hF⟩
   rw [← hF.eq]
   refine TO_mv rfl ?_
   obtain ⟨b3, hb_b3, h⟩ := bs h
   refine TO_cut 4 (fun φ s => Hp s [(.cells m xs), (.gl (NG mx))] ∧ Fx φ [(1, (.ptr m 0)), (46, (enc (b3 : Bool)))]) ?_ ?_
   ·split at hb_b3
    ·rename_i cg6
     refine TO_off rfl rfl (by simpa using cg6) <| TO_off rfl rfl (by simpa using cg6) <| TO_off rfl rfl (by simpa using cg6) <| TO_pt (v := (enc (true : Bool))) rfl cg6 rfl <| TO_nil ?_
     rw [← Option.some.inj hb_b3]
     exact ⟨hs, ⟨rfl, rfl, trivial⟩⟩
    ·rename_i cg7
     refine TO_on rfl rfl (by simpa using cg7) <| TO_fv TTryz.fl38_0 rfl <| TO_on rfl rfl (by simpa using cg7) <| TO_ldV TTryz.ag3 Sel.zero rfl hxs hs fun y9 hy9 => ?_
     cases hy9
     refine TO_on rfl rfl (by simpa using cg7) <| TO_bi (v := (enc ((decide (x.v.1 < 1)) : Bool))) rfl rfl rfl <| TO_pf rfl cg7 rfl <| TO_nil ?_
     rw [← Option.some.inj hb_b3]
     exact ⟨hs, ⟨rfl, rfl, trivial⟩⟩
   ·rintro φ s ⟨hs, hF⟩
    rw [← hF.eq]
    refine TO_mv rfl ?_
    obtain ⟨b4, hb_b4, h⟩ := bs h
    refine TO_cut 4 (fun φ s => Hp s [(.cells m xs), (.gl (NG mx))] ∧ Fx φ [(1, (.ptr m 0)), (51, (enc (b4 : Bool)))]) ?_ ?_
    ·split at hb_b4
     ·rename_i cg8
      refine TO_off rfl rfl (by simpa using cg8) <| TO_off rfl rfl (by simpa using cg8) <| TO_off rfl rfl (by simpa using cg8) <| TO_pt (v := (enc (true : Bool))) rfl cg8 rfl <| TO_nil ?_
      rw [← Option.some.inj hb_b4]
      exact ⟨hs, ⟨rfl, rfl, trivial⟩⟩
     ·rename_i cg9
      refine TO_on rfl rfl (by simpa using cg9) <| TO_fv TTryz.fl38_0 rfl <| TO_on rfl rfl (by simpa using cg9) <| TO_ldV TTryz.ag3 Sel.zero rfl hxs hs fun y10 hy10 => ?_
      cases hy10
      refine TO_on rfl rfl (by simpa using cg9) <| TO_bi (v := (enc ((decide (x.v.1 > 1024)) : Bool))) rfl rfl rfl <| TO_pf rfl cg9 rfl <| TO_nil ?_
      rw [← Option.some.inj hb_b4]
      exact ⟨hs, ⟨rfl, rfl, trivial⟩⟩
    ·rintro φ s ⟨hs, hF⟩
     rw [← hF.eq]
     refine TO_nil ?_
     split at h
     ·rename_i hcond
      refine TC_cond_t rfl hcond <| TC_seq <| TC_reg <| TO_as (v := (enc (false : Bool))) rfl <| TO_nil <| TC_ret ?_
      rw [← Option.some.inj h]
      exact ⟨rfl, KE1 (a := (false : Bool)) rfl rfl (rfl : is _ (false : Bool)) (rfl : is _ (false : Bool))⟩
     ·rename_i hcond
      refine TC_cond_f rfl hcond <| TC_skip <| TC_seq <| TC_seq <| TC_reg <| TO_fv TTryz.fl38_1 rfl <| TO_ldV TTryz.ag25 (Sel.succ Sel.zero) rfl hxs hs fun y11 hy11 => ?_
      cases hy11
      refine TO_bi (v := (enc ((x.v.2.1 != 2) : Bool))) rfl rfl rfl <| TO_nil ?_
      split at h
      ·rename_i hcond
       refine TC_cond_t rfl hcond <| TC_seq <| TC_reg <| TO_fv TTryz.fl38_6 rfl <| TO_ldV TTryz.ag34 (Sel.succ (Sel.succ (Sel.succ (Sel.succ (Sel.succ (Sel.succ Sel.zero)))))) rfl hxs hs fun y12 hy12 => TO_ln Tryz.underlying34 rfl rfl hy12 <| TO_fv TTryz.fl38_7 rfl <| TO_ldV TTryz.ag35 (Sel.succ (Sel.succ (Sel.succ (Sel.succ (Sel.succ (Sel.succ (Sel.succ Sel.zero))))))) rfl hxs hs fun y13 hy13 => TO_ln Tryz.underlying35 rfl rfl hy13 <| TO_bi (v := (enc ((IntKind.i64.wrap ((x.v.2.2.2.2.2.2.1.length : Int) + (x.v.2.2.2.2.2.2.2.1.length : Int))) : Int))) rfl rfl rfl <| TO_bi (v := (enc (((IntKind.i64.wrap ((x.v.2.2.2.2.2.2.1.length : Int) + (x.v.2.2.2.2.2.2.2.1.length : Int))) == 0) : Bool))) rfl rfl rfl <| TO_as rfl <| TO_nil <| TC_ret ?_
       rw [← Option.some.inj h]
       exact ⟨rfl, KE1 (a := (((IntKind.i64.wrap ((x.v.2.2.2.2.2.2.1.length : Int) + (x.v.2.2.2.2.2.2.2.1.length : Int))) == 0) : Bool)) rfl rfl (rfl : is _ (((IntKind.i64.wrap ((x.v.2.2.2.2.2.2.1.length : Int) + (x.v.2.2.2.2.2.2.2.1.length : Int))) == 0) : Bool)) (rfl : is _ (((IntKind.i64.wrap ((x.v.2.2.2.2.2.2.1.length : Int) + (x.v.2.2.2.2.2.2.2.1.length : Int))) == 0) : Bool))⟩
      ·rename_i hcond
       refine TC_cond_f rfl hcond <| TC_skip <| TC_seq <| TC_reg <| TO_fv TTryz.fl38_6 rfl <| TO_ldV TTryz.ag34 (Sel.succ (Sel.succ (Sel.succ (Sel.succ (Sel.succ (Sel.succ Sel.zero)))))) rfl hxs hs fun y14 hy14 => TO_fv TTryz.fl38_7 rfl <| TO_ldV TTryz.ag35 (Sel.succ (Sel.succ (Sel.succ (Sel.succ (Sel.succ (Sel.succ (Sel.succ Sel.zero))))))) rfl hxs hs fun y15 hy15 => TO_buR (r0 := (false, ([] : (List Str)), ([] : (List Int)), ())) TTryz.bu99 TTryz.zr99 TTryz.zf99 rfl rfl (r := (true, x.v.2.2.2.2.2.2.1, x.v.2.2.2.2.2.2.2.1, ())) (.cons (z := (true : Bool)) Sel.zero (rfl : is _ (true : Bool)) (.cons (z := (x.v.2.2.2.2.2.2.1 : (List Str))) (Sel.succ Sel.zero) hy14 (.cons (z := (x.v.2.2.2.2.2.2.2.1 : (List Int))) (Sel.succ (Sel.succ Sel.zero)) hy15 .nil))) fun y16 hy16 => ?_
       obtain ⟨r_1, hx1, h⟩ := bs h
       refine TO_fnG (f := fun a : ListingR × Unit => obj_PutListing a.1) (a := ((Rec.mk (true, x.v.2.2.2.2.2.2.1, x.v.2.2.2.2.2.2.2.1, ()) : ListingR), ())) rfl Tryz.func55 rfl rfl (.cons (a := ((Rec.mk (true, x.v.2.2.2.2.2.2.1, x.v.2.2.2.2.2.2.2.1, ()) : ListingR) : ListingR)) hy16 .nil) hs (List.mem_cons_of_mem _ List.mem_cons_self) hx1 <| TO_mv (v := (res r_1)) rfl <| TO_ex rfl rfl <| TO_ex rfl rfl <| TO_as rfl <| TO_nil <| TC_seq <| TC_reg <| TO_mv rfl <| TO_bi (v := (enc ((r_1.2 == 0) : Bool))) rfl rfl rfl <| TO_mv rfl ?_
       obtain ⟨b5, hb_b5, h⟩ := bs h
       refine TO_cut 4 (fun φ s => Hp s [(.cells m xs), (.gl (NG mx))] ∧ Fx φ [(1, (.ptr m 0)), (78, (enc (b5 : Bool)))]) ?_ ?_
       ·split at hb_b5
        ·rename_i cg10
         refine TO_on rfl rfl cg10 <| TO_fv TTryz.fl38_3 rfl <| TO_on rfl rfl cg10 <| TO_ldV TTryz.ag3 (Sel.succ (Sel.succ (Sel.succ Sel.zero))) rfl hxs hs fun y17 hy17 => ?_
         cases hy17
         refine TO_on rfl rfl cg10 <| TO_bi (v := (enc ((x.v.2.2.2.1 == 1) : Bool))) rfl rfl rfl <| TO_pt rfl cg10 rfl <| TO_nil ?_
         rw [← Option.some.inj hb_b5]
         exact ⟨hs, ⟨rfl, rfl, trivial⟩⟩
        ·rename_i cg11
         refine TO_off rfl rfl cg11 <| TO_off rfl rfl cg11 <| TO_off rfl rfl cg11 <| TO_pf (v := (enc (false : Bool))) rfl cg11 rfl <| TO_nil ?_
         rw [← Option.some.inj hb_b5]
         exact ⟨hs, ⟨rfl, rfl, trivial⟩⟩
       ·rintro φ s ⟨hs, hF⟩
        rw [← hF.eq]
        refine TO_mv rfl ?_
        obtain ⟨b6, hb_b6, h⟩ := bs h
        refine TO_cut 5 (fun φ s => Hp s [(.cells m xs), (.gl (NG mx))] ∧ Fx φ [(84, (enc (b6 : Bool)))]) ?_ ?_
        ·split at hb_b6
         ·rename_i cg12
          refine TO_on rfl rfl cg12 <| TO_fv TTryz.fl38_6 rfl <| TO_on rfl rfl cg12 <| TO_ldV TTryz.ag34 (Sel.succ (Sel.succ (Sel.succ (Sel.succ (Sel.succ (Sel.succ Sel.zero)))))) rfl hxs hs fun y18 hy18 => TO_on rfl rfl cg12 <| TO_ln Tryz.underlying34 rfl rfl hy18 <| TO_on rfl rfl cg12 <| TO_bi (v := (enc ((decide ((x.v.2.2.2.2.2.2.1.length : Int) ≤ 128)) : Bool))) rfl rfl rfl <| TO_pt rfl cg12 rfl <| TO_nil ?_
          rw [← Option.some.inj hb_b6]
          exact ⟨hs, ⟨rfl, trivial⟩⟩
         ·rename_i cg13
          refine TO_off rfl rfl cg13 <| TO_off rfl rfl cg13 <| TO_off rfl rfl cg13 <| TO_off rfl rfl cg13 <| TO_pf (v := (enc (false : Bool))) rfl cg13 rfl <| TO_nil ?_
          rw [← Option.some.inj hb_b6]
          exact ⟨hs, ⟨rfl, trivial⟩⟩
        ·rintro φ s ⟨hs, hF⟩
         rw [← hF.eq]
         refine TO_as rfl <| TO_nil <| TC_ret ?_
         rw [← Option.some.inj h]
         exact ⟨rfl, KE1 (a := (b6 : Bool)) rfl rfl (rfl : is _ (b6 : Bool)) (rfl : is _ (b6 : Bool))⟩
theorem plain_right_pc (mx : Int) : PureC Tryz.prog 27 (FnG (NG mx) (fun a : InodeR × Unit => plain_right a.1)) := fnCG (pv7_ok mx) ⟨_, Tryz.func27, rfl⟩ <| fun a r h => plain_right_wf mx a.1 r h
noncomputable def pv8 (mx : Int) : Prims := (pv7 mx).addG 27 (FnG (NG mx) (fun a : InodeR × Unit => plain_right a.1))
theorem pv8_ok (mx : Int) : PrimsOk Tryz.prog (pv8 mx) := primsOk_addG (pv7_ok mx) (plain_right_pc mx)
end Go.Ai.Rab
end
section
/- Functions of the program aS functions of values with types, and that the code answers aS they do. -/
set_option linter.unusedVariables false
set_option linter.unusedSimpArgs false
set_option maxRecDepth 100000
set_option maxHeartbeats 4000000
attribute [local irreducible] Go.Ai.TC Go.Ai.TO Go.Ai.MF Go.Ai.runeAt Go.Ai.runeLen Go.Ai.encR
open Go.Ai.Enc (enc is)
open Go.Ai.Res (res ris)
open Go.Ai.Args (args)
open Go.Ai.Flds (fe fi fk)
namespace Go.Ai

end Go.Ai
namespace Go.Ai.TTryz
open Go.Proofs

end Go.Ai.TTryz
namespace Go.Ai.Rab
open Go.Proofs
noncomputable def plain_ups_l2 (v1 : InodeR) : ((List (Int × (List Int))) × Int) → Option (((List (Int × (List Int))) × Int) ⊕ (List (Int × (List Int))))
 | (out_2, v2) => (if (decide (v2 < (v1.v.2.2.2.2.2.2.2.1.length : Int))) then ((nth v1.v.2.2.2.2.2.2.2.1 v2).bind fun v3 => ((app 8 ((mget out_2 v3).getD []) [v1.v.1]).bind fun l => some (.inl ((mput out_2 v3 l), (IntKind.i64.wrap (v2 + 1)))))) else some (.inr out_2))
noncomputable def plain_ups_a2 (v : Int) : (List (Int × (List Int))) → Option (((List (Int × (List Int))) × Int) ⊕ (List (Int × (List Int))))
 | out_3 => some (.inl (out_3, (IntKind.i64.wrap (v + 1))))
noncomputable def plain_ups_l1 (f : FsR) : ((List (Int × (List Int))) × Int) → Option (((List (Int × (List Int))) × Int) ⊕ (List (Int × (List Int))))
 | (out_, v) => (if (decide (v < (f.v.1.length : Int))) then ((nth f.v.1 v).bind fun v1 => ((loop (plain_ups_l2 v1) (out_, 0)).bind (plain_ups_a2 v))) else some (.inr out_))
noncomputable def plain_ups_a1 : (List (Int × (List Int))) → Option ((List (Int × (List Int))))
 | out_1 => some (out_1)
noncomputable def plain_ups (f : FsR) : Option ((List (Int × (List Int)))) :=
 ((loop (plain_ups_l1 f) (([] : (List (Int × (List Int)))), 0)).bind (plain_ups_a1))
noncomputable def plain_ends_l1 (most : Int) (up : (List (Int × (List Int)))) : (Int × Int) → Option ((Int × Int) ⊕ (Unit ⊕ Bool))
 | (num1, v) => (if (decide (v < (IntKind.i64.wrap (most + 1)))) then (if ((((mget up num1).getD []).length : Int) == 0) then some (.inr (.inr true)) else ((nth ((mget up num1).getD []) 0).bind fun v2 => some (.inl (v2, (IntKind.i64.wrap (v + 1)))))) else some (.inr (.inl ())))
noncomputable def plain_ends_a1 : (Unit ⊕ Bool) → Option (Bool)
 | (.inl _) => some (false)
 | (.inr v1) => some (v1)
noncomputable def plain_ends (up : (List (Int × (List Int)))) (num : Int) (most : Int) : Option (Bool) :=
 ((loop (plain_ends_l1 most up) (num, 0)).bind (plain_ends_a1))
theorem plain_ups_wf (f : FsR) (r : (List (Int × (List Int)))) (h : plain_ups f = some r) {x_f : AV} (hy_f : is x_f f) {s : St} {enF : En} {G : Glob} (hs : Hp s [enF, (.gl G)]) : MF Tryz.prog pct 32 [x_f] s fun v s' => ∃ en', isMR v en' r ∧ Hp s' [en', enF, .gl G] := by
 refine TF_runN [(0, x_f)] Tryz.func32 rfl (by simp only [Tryz.f32]; rfl) fun ψ => ?_
 unfold plain_ups at h
 refine TC_seq <| TC_reg <| TO_bxR (r := f) rfl hy_f hs fun m xs s hxs hs => TO_as (v := .nilmp) rfl <| TO_nil <| TC_seq <| TC_reg <| TO_mkM hs fun m1 s hs => TO_as (v := (.mp m1)) rfl <| TO_nil <| TC_seq <| TC_seq <| TC_reg <| TO_fv TTryz.fl24_0 rfl ?_
 replace hs := Hp.front [(.grp [(m1, .map [])])] (b := [enF, (.gl G)]) hs
 refine TO_ldV TTryz.ag22 Sel.zero rfl hxs hs fun y hy => TO_ln Tryz.underlying22 rfl rfl hy <| TO_mv (v := (enc (0 : Int))) rfl <| TO_nil <| TC_block ?_
 obtain ⟨out_1, hl, h⟩ := bs h
 refine TC_loop (fun (p : ((List (Int × (List Int))) × Int)) φ s => match p with | (out_, v) => ∃ (en : En), isMR (.mp m1) en out_ ∧ Fx φ [(3, (.mp m1)), (10, y), (11, (enc ((f.v.1.length : Int) : Int))), (12, (enc (v : Int)))] ∧ Hp s [enF, (.gl G), en]) (fun (o : (List (Int × (List Int)))) e φ s => match o with | out_1 => e = .exit 0 ∧ ∃ (en1 : En), isMR (.mp m1) en1 out_1 ∧ Fx φ [(3, (.mp m1))] ∧ Hp s [enF, (.gl G), en1]) ?_ hl ⟨(.grp [(m1, .map [])]), isMR_new, ⟨rfl, rfl, rfl, rfl, trivial⟩, (Hp.front [(.gl G), (.grp [(m1, .map [])])] (b := []) (Hp.front [(.grp [(m1, .map [])]), enF] (b := []) (Hp.front [] (b := [enF, (.gl G)]) (Hp.drop [] (b := [(.grp [(m1, .map [])]), enF, (.gl G)]) hs))))⟩ ?_
 ·rintro ⟨out_, v⟩ o h φ s ⟨en, hb_en, hF, hs⟩
  rw [← hF.eq]
  rw [plain_ups_l1] at h
  refine TC_seq <| TC_reg <| TO_bi (v := (enc ((decide (v < (f.v.1.length : Int))) : Bool))) rfl rfl rfl <| TO_nil <| TC_seq ?_
  split at h
  ·rename_i hcond
   refine TC_cond_t rfl hcond <| TC_skip <| TC_seq <| TC_block <| TC_seq <| TC_reg ?_
   obtain ⟨v1, hx, h⟩ := bs h
   refine TO_ix Tryz.underlying22 TTryz.sh38 rfl rfl hy hx fun p hp => TO_ldE TTryz.ag38 TTryz.sz38 rfl hp fun y1 hy1 => TO_alR (r := (Rec.mk ((0 : Int), (0 : Int), (0 : Int), (0 : Int), ([] : (List UInt8)), (str []), ([] : (List Str)), ([] : (List Int)), ([] : (List AttrR)), ()) : InodeR)) TTryz.zr38 TTryz.zf38 hs fun m2 s hs => TO_stR (r := v1) TTryz.sz38 rfl rfl TTryz.zf38 hy1 hs fun xs1 s hxs1 hs => TO_nil <| TC_seq <| TC_reg <| TO_fv TTryz.fl38_7 rfl <| TO_ldV TTryz.ag35 (Sel.succ (Sel.succ (Sel.succ (Sel.succ (Sel.succ (Sel.succ (Sel.succ Sel.zero))))))) rfl hxs1 hs fun y2 hy2 => TO_ln Tryz.underlying35 rfl rfl hy2 <| TO_mv (v := (enc (0 : Int))) rfl <| TO_nil <| TC_block ?_
   obtain ⟨out_3, hl, h⟩ := bs h
   refine TC_loop (fun (p : ((List (Int × (List Int))) × Int)) φ s => match p with | (out_2, v2) => ∃ (en2 : En), isMR (.mp m1) en2 out_2 ∧ Fx φ [(3, (.mp m1)), (5, (.ptr m2 0)), (10, y), (11, (enc ((f.v.1.length : Int) : Int))), (12, (enc (v : Int))), (17, y2), (18, (enc ((v1.v.2.2.2.2.2.2.2.1.length : Int) : Int))), (19, (enc (v2 : Int)))] ∧ Hp s [(.cells m2 xs1), enF, (.gl G), en2]) (fun (o : (List (Int × (List Int)))) e φ s => match o with | out_3 => e = .exit 2 ∧ ∃ (en3 : En), isMR (.mp m1) en3 out_3 ∧ Fx φ [(3, (.mp m1)), (10, y), (11, (enc ((f.v.1.length : Int) : Int))), (12, (enc (v : Int)))] ∧ Hp s [enF, (.gl G), en3]) ?_ hl ⟨en, hb_en, ⟨rfl, rfl, rfl, rfl, rfl, rfl, rfl, rfl, trivial⟩, hs⟩ ?_
   ·rintro ⟨out_2, v2⟩ o h φ s ⟨en2, hb_en2, hF, hs⟩
    rw [← hF.eq]
    rw [plain_ups_l2] at h
    refine TC_seq <| TC_reg <| TO_bi (v := (enc ((decide (v2 < (v1.v.2.2.2.2.2.2.2.1.length : Int))) : Bool))) rfl rfl rfl <| TO_nil <| TC_seq ?_
    split at h
    ·rename_i hcond
     refine TC_cond_t rfl hcond <| TC_skip <| TC_seq <| TC_block <| TC_seq <| TC_reg ?_
     obtain ⟨v3, hx1, h⟩ := bs h
     refine TO_ix Tryz.underlying35 TTryz.sh3 rfl rfl hy2 hx1 fun p1 hp1 => TO_ld rfl TTryz.ag3 rfl hp1 fun y3 hy3 => ?_
     cases hy3
     refine TO_as rfl <| TO_nil <| TC_reg <| TO_mv (v := (.mp m1)) rfl <| TO_mv rfl <| TO_mv (v := (.mp m1)) rfl <| TO_mv rfl ?_
     replace hs := Hp.front [(.cells m2 xs1), enF, (.gl G)] (b := []) hs
     refine TO_lkA (xs := out_2) (k := v3) Tryz.underlying64 Tryz.underlying3 (by kernel_rfl) rfl rfl hb_en2 hs fun w en4 hw hwc hmx_en4 hs => TO_fv TTryz.fl38_0 rfl ?_
     replace hs := Hp.front [.own w, en4] (b := [enF, (.gl G)]) hs
     refine TO_ldV TTryz.ag3 Sel.zero rfl hxs1 hs fun y4 hy4 => ?_
     cases hy4
     refine TO_bs [(enc (v1.v.1 : Int))] ([v1.v.1] : (List Int)) Tryz.underlying35 TTryz.ef3 rfl rfl rfl (Nat.le_of_ble_eq_true rfl) ⟨(rfl : is _ (v1.v.1 : Int)), trivial⟩ fun z hz hzc hzn => ?_
     obtain ⟨l, hx2, h⟩ := bs h
     refine TO_ap [(.cells m2 xs1)] (es2 := [en4, enF, (.gl G)]) Tryz.underlying35 Tryz.underlying35 rfl rfl TTryz.ef3 rfl rfl hw hwc hs hz hx2 fun z1 s hz1 hz1c hs => ?_
     replace hs := Hp.front [(.cells m2 xs1), .own z1] (b := [enF, (.gl G)]) hs
     replace hs := Hp.front [en4, (.cells m2 xs1)] (b := [enF, (.gl G)]) hs
     refine TO_muR (k := v3) (r := l) Tryz.underlying64 Tryz.underlying3 rfl rfl rfl hmx_en4 hz1 hz1c hs fun en5 s hb_en5 hs => TO_nil <| TC_reg <| TO_bi (v := (enc ((IntKind.i64.wrap (v2 + 1)) : Int))) rfl rfl rfl <| TO_mv rfl <| TO_nil ?_
     rw [← Option.some.inj h]
     exact ⟨_, rfl, ⟨en5, hb_en5, ⟨rfl, rfl, rfl, rfl, rfl, rfl, rfl, rfl, trivial⟩, (Hp.front [enF, (.gl G), en5] (b := []) (Hp.front [(.gl G), en5, (.cells m2 xs1)] (b := []) (Hp.front [en5, (.cells m2 xs1), enF] (b := []) (Hp.front [] (b := [(.cells m2 xs1), enF, (.gl G)]) hs))))⟩⟩
    ·rename_i hcond
     refine TC_cond_f rfl hcond <| TC_exit ?_
     rw [← Option.some.inj h]
     exact ⟨_, rfl, rfl, ⟨en2, hb_en2, ⟨rfl, rfl, rfl, rfl, trivial⟩, (Hp.drop [] (b := [enF, (.gl G), en2]) hs)⟩⟩
   ·intro e φ s hE
    obtain ⟨rfl, en3, hb_en3, hF, hs⟩ := hE
    rw [← hF.eq]
    rw [plain_ups_a2] at h
    show if _ then _ else _
    rw [if_pos rfl]
    refine TC_reg <| TO_bi (v := (enc ((IntKind.i64.wrap (v + 1)) : Int))) rfl rfl rfl <| TO_mv rfl <| TO_nil ?_
    rw [← Option.some.inj h]
    exact ⟨_, rfl, ⟨en3, hb_en3, ⟨rfl, rfl, rfl, rfl, trivial⟩, hs⟩⟩
  ·rename_i hcond
   refine TC_cond_f rfl hcond <| TC_exit ?_
   rw [← Option.some.inj h]
   exact ⟨_, rfl, rfl, ⟨en, hb_en, ⟨rfl, trivial⟩, hs⟩⟩
 ·intro e φ s hE
  obtain ⟨rfl, en1, hb_en1, hF, hs⟩ := hE
  rw [← hF.eq]
  rw [plain_ups_a1] at h
  show if _ then _ else _
  rw [if_pos rfl]
  refine TC_seq <| TC_reg <| TO_mv (v := (.mp m1)) rfl <| TO_as (v := (.mp m1)) rfl <| TO_nil <| TC_ret ?_
  rw [← Option.some.inj h]
  exact ⟨rfl, KN1 rfl rfl ⟨_, hb_en1, (Hp.front [enF, (.gl G)] (b := []) (Hp.front [(.gl G)] (b := [en1]) (Hp.front [enF] (b := [en1]) hs)))⟩⟩
theorem plain_ends_wf (up : (List (Int × (List Int)))) (num : Int) (most : Int) (r : Bool) (h : plain_ends up num most = some r) {x_up : AV} {en_up : En} (hm_up : isMR x_up en_up up) {s : St} {enF : En} {G : Glob} (hs : Hp s [en_up, enF, (.gl G)]) : MF Tryz.prog pct 53 [x_up, (enc (num : Int)), (enc (most : Int))] s fun v s' => ris v r ∧ Hp s' [en_up, enF, .gl G] := by
 refine TF_runN [(0, x_up), (1, (enc (num : Int))), (2, (enc (most : Int)))] Tryz.func53 rfl (by simp only [Tryz.f53]; rfl) fun ψ => ?_
 unfold plain_ends at h
 refine TC_seq <| TC_reg <| TO_as (v := (enc (false : Bool))) rfl <| TO_nil <| TC_seq <| TC_seq <| TC_reg <| TO_mv rfl <| TO_bi (v := (enc ((IntKind.i64.wrap (most + 1)) : Int))) rfl rfl rfl <| TO_mv (v := (enc (0 : Int))) rfl <| TO_nil <| TC_block ?_
 obtain ⟨o, hl, h⟩ := bs h
 refine TC_loop (fun (p : (Int × Int)) φ s => match p with | (num1, v) => Fx φ [(0, x_up), (1, (enc (num1 : Int))), (9, (enc ((IntKind.i64.wrap (most + 1)) : Int))), (10, (enc (v : Int)))] ∧ Hp s [en_up, enF, (.gl G)]) (fun (o : (Unit ⊕ Bool)) e φ s => match o with | (.inl _) => e = .exit 0 ∧ Fx φ [] ∧ Hp s [en_up, enF, (.gl G)] | (.inr v1) => e = .ret ∧ Fx φ [(6, (enc (v1 : Bool)))] ∧ Hp s [en_up, enF, (.gl G)]) ?_ hl ⟨⟨rfl, rfl, rfl, rfl, trivial⟩, hs⟩ ?_
 ·rintro ⟨num1, v⟩ o h φ s ⟨hF, hs⟩
  rw [← hF.eq]
  rw [plain_ends_l1] at h
  refine TC_seq <| TC_reg <| TO_bi (v := (enc ((decide (v < (IntKind.i64.wrap (most + 1)))) : Bool))) rfl rfl rfl <| TO_nil <| TC_seq ?_
  split at h
  ·rename_i hcond
   refine TC_cond_t rfl hcond <| TC_skip <| TC_seq <| TC_block <| TC_seq <| TC_reg <| TO_mv (v := x_up) rfl <| TO_mv rfl <| TO_lkR (xs := up) (k := num1) Tryz.underlying64 Tryz.underlying3 (by kernel_rfl) rfl rfl hm_up hs fun w hw => TO_as (v := w) rfl <| TO_nil <| TC_seq <| TC_seq <| TC_reg <| TO_mv (v := w) rfl ?_
   refine TO_ln Tryz.underlying35 rfl rfl hw <| TO_bi (v := (enc (((((mget up num1).getD []).length : Int) == 0) : Bool))) rfl rfl rfl <| TO_nil ?_
   split at h
   ·rename_i hcond
    refine TC_cond_t rfl hcond <| TC_seq <| TC_reg <| TO_as (v := (enc (true : Bool))) rfl <| TO_nil <| TC_ret ?_
    show if _ then _ else _
    rw [if_neg (by simp)]
    rw [← Option.some.inj h]
    exact ⟨_, rfl, rfl, ⟨⟨rfl, trivial⟩, hs⟩⟩
   ·rename_i hcond
    refine TC_cond_f rfl hcond <| TC_skip <| TC_reg <| TO_mv (v := w) rfl ?_
    obtain ⟨v2, hx, h⟩ := bs h
    refine TO_ix Tryz.underlying35 TTryz.sh3 rfl rfl hw hx fun p hp => TO_ld rfl TTryz.ag3 rfl hp fun y hy => ?_
    cases hy
    refine TO_as rfl <| TO_nil <| TC_reg <| TO_bi (v := (enc ((IntKind.i64.wrap (v + 1)) : Int))) rfl rfl rfl <| TO_mv rfl <| TO_nil ?_
    rw [← Option.some.inj h]
    exact ⟨_, rfl, ⟨⟨rfl, rfl, rfl, rfl, trivial⟩, hs⟩⟩
  ·rename_i hcond
   refine TC_cond_f rfl hcond <| TC_exit ?_
   rw [← Option.some.inj h]
   exact ⟨_, rfl, rfl, ⟨trivial, hs⟩⟩
 ·intro e φ s hE
  rcases o with _u | v1
  ·obtain ⟨rfl, hF, hs⟩ := hE
   rw [← hF.eq]
   rw [plain_ends_a1] at h
   show if _ then _ else _
   rw [if_pos rfl]
   refine TC_seq <| TC_reg <| TO_as (v := (enc (false : Bool))) rfl <| TO_nil <| TC_ret ?_
   rw [← Option.some.inj h]
   exact ⟨rfl, KN1 rfl rfl ⟨(rfl : is _ (false : Bool)), hs⟩⟩
  ·obtain ⟨rfl, hF, hs⟩ := hE
   rw [← hF.eq]
   rw [plain_ends_a1] at h
   show if _ then _ else _
   rw [if_neg (by simp)]
   rw [← Option.some.inj h]
   exact ⟨rfl, KN1 rfl rfl ⟨(rfl : is _ (v1 : Bool)), hs⟩⟩
end Go.Ai.Rab
end
