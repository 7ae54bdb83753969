/- My own texts DevPn0, DevPgA, one behind the other. -/
import Derived.Test.YtcffjblfdjkcbaaGreatDoorWAE
section
/- Nothing known yet of the program's functions. -/
namespace Go.Ai.Rab
open Go.Proofs
def pz0 : Prims := fun _ => none
theorem pz0_ok : PrimsOk Tryz.prog pz0 := fun g F h => by simp [pz0] at h
end Go.Ai.Rab
end
section
/- Functions of the program aS functions of values with types, and that the code answers aS they do. -/
set_option linter.unusedVariables false
set_option linter.unusedSimpArgs false
set_option maxRecDepth 100000
set_option maxHeartbeats 4000000
attribute [local irreducible] Go.Ai.TC Go.Ai.TO Go.Ai.MF Go.Ai.runeAt Go.Ai.runeLen Go.Ai.encR
open Go.Ai.Enc (enc is)
open Go.Ai.Res (res ris)
open Go.Ai.Args (args)
open Go.Ai.Flds (fe fi fk)
namespace Go.Ai
abbrev AttrR : Type := (Rec (Str × (List UInt8) × Unit))
abbrev InodeR : Type := (Rec (Int × Int × Int × Int × (List UInt8) × Str × (List Str) × (List Int) × (List AttrR) × Unit))
abbrev FsR : Type := (Rec ((List InodeR) × Int × Unit))
abbrev RefR : Type := (Rec (Str × Int × Int × Int × Unit))
abbrev MetaR : Type := (Rec (Int × Int × Int × Int × Str × (List AttrR) × (List RefR) × Unit))
abbrev ListingR : Type := (Rec (Bool × (List Str) × (List Int) × Unit))
end Go.Ai
namespace Go.Ai.TTryz
open Go.Proofs
theorem ef3 : EF Tryz.prog 3 0 8 := EF_of (by kernel_rfl)
theorem ef5 : EF Tryz.prog 5 0 1 := EF_of (by kernel_rfl)
theorem ef9 : EF Tryz.prog 9 0 16 := EF_of (by kernel_rfl)
theorem ef38 : EF Tryz.prog 38 9 144 := EF_of (by kernel_rfl)
theorem ef89 : EF Tryz.prog 89 2 40 := EF_of (by kernel_rfl)
def zx24 : List AV := [.nils, enc (0 : Int)]
theorem zr24 : zeroT Tryz.prog 24 = some (.agg zx24) := by kernel_rfl
theorem zf24 : fi zx24 (Rec.mk (([] : (List InodeR)), (0 : Int), ()) : FsR).v := ⟨_, _, rfl, isL.nil, ⟨_, _, rfl, rfl, rfl⟩⟩
theorem bu24 : buB Tryz.prog 24 2 = true := by kernel_rfl
def zx38 : List AV := [enc (0 : Int), enc (0 : Int), enc (0 : Int), enc (0 : Int), .nils, enc (str []), .nils, .nils, .nils]
theorem zr38 : zeroT Tryz.prog 38 = some (.agg zx38) := by kernel_rfl
theorem zf38 : fi zx38 (Rec.mk ((0 : Int), (0 : Int), (0 : Int), (0 : Int), ([] : (List UInt8)), (str []), ([] : (List Str)), ([] : (List Int)), ([] : (List AttrR)), ()) : InodeR).v := ⟨_, _, rfl, rfl, ⟨_, _, rfl, rfl, ⟨_, _, rfl, rfl, ⟨_, _, rfl, rfl, ⟨_, _, rfl, isL.nil, ⟨_, _, rfl, rfl, ⟨_, _, rfl, isL.nil, ⟨_, _, rfl, isL.nil, ⟨_, _, rfl, isL.nil, rfl⟩⟩⟩⟩⟩⟩⟩⟩⟩
theorem bu38 : buB Tryz.prog 38 9 = true := by kernel_rfl
def zx96 : List AV := [enc (0 : Int), enc (0 : Int), enc (0 : Int), enc (0 : Int), enc (str []), .nils, .nils]
theorem zr96 : zeroT Tryz.prog 96 = some (.agg zx96) := by kernel_rfl
theorem zf96 : fi zx96 (Rec.mk ((0 : Int), (0 : Int), (0 : Int), (0 : Int), (str []), ([] : (List AttrR)), ([] : (List RefR)), ()) : MetaR).v := ⟨_, _, rfl, rfl, ⟨_, _, rfl, rfl, ⟨_, _, rfl, rfl, ⟨_, _, rfl, rfl, ⟨_, _, rfl, rfl, ⟨_, _, rfl, isL.nil, ⟨_, _, rfl, isL.nil, rfl⟩⟩⟩⟩⟩⟩⟩
theorem bu96 : buB Tryz.prog 96 7 = true := by kernel_rfl
def zx99 : List AV := [enc false, .nils, .nils]
theorem zr99 : zeroT Tryz.prog 99 = some (.agg zx99) := by kernel_rfl
theorem zf99 : fi zx99 (Rec.mk (false, ([] : (List Str)), ([] : (List Int)), ()) : ListingR).v := ⟨_, _, rfl, rfl, ⟨_, _, rfl, isL.nil, ⟨_, _, rfl, isL.nil, rfl⟩⟩⟩
theorem bu99 : buB Tryz.prog 99 3 = true := by kernel_rfl
def zx124 : List AV := [enc (str []), enc (0 : Int), enc (0 : Int), enc (0 : Int)]
theorem zr124 : zeroT Tryz.prog 124 = some (.agg zx124) := by kernel_rfl
theorem zf124 : fi zx124 (Rec.mk ((str []), (0 : Int), (0 : Int), (0 : Int), ()) : RefR).v := ⟨_, _, rfl, rfl, ⟨_, _, rfl, rfl, ⟨_, _, rfl, rfl, ⟨_, _, rfl, rfl, rfl⟩⟩⟩⟩
theorem fl24_0 : flB Tryz.prog 24 0 = true := by kernel_rfl
theorem fl24_1 : flB Tryz.prog 24 1 = true := by kernel_rfl
theorem fl38_0 : flB Tryz.prog 38 0 = true := by kernel_rfl
theorem fl38_1 : flB Tryz.prog 38 1 = true := by kernel_rfl
theorem fl38_2 : flB Tryz.prog 38 2 = true := by kernel_rfl
theorem fl38_3 : flB Tryz.prog 38 3 = true := by kernel_rfl
theorem fl38_4 : flB Tryz.prog 38 4 = true := by kernel_rfl
theorem fl38_5 : flB Tryz.prog 38 5 = true := by kernel_rfl
theorem fl38_6 : flB Tryz.prog 38 6 = true := by kernel_rfl
theorem fl38_7 : flB Tryz.prog 38 7 = true := by kernel_rfl
theorem fl38_8 : flB Tryz.prog 38 8 = true := by kernel_rfl
theorem fl89_0 : flB Tryz.prog 89 0 = true := by kernel_rfl
theorem fl89_1 : flB Tryz.prog 89 1 = true := by kernel_rfl
theorem fl96_0 : flB Tryz.prog 96 0 = true := by kernel_rfl
theorem fl96_1 : flB Tryz.prog 96 1 = true := by kernel_rfl
theorem fl96_2 : flB Tryz.prog 96 2 = true := by kernel_rfl
theorem fl96_3 : flB Tryz.prog 96 3 = true := by kernel_rfl
theorem fl96_4 : flB Tryz.prog 96 4 = true := by kernel_rfl
theorem fl96_5 : flB Tryz.prog 96 5 = true := by kernel_rfl
theorem fl96_6 : flB Tryz.prog 96 6 = true := by kernel_rfl
theorem fl99_0 : flB Tryz.prog 99 0 = true := by kernel_rfl
theorem fl99_1 : flB Tryz.prog 99 1 = true := by kernel_rfl
theorem fl99_2 : flB Tryz.prog 99 2 = true := by kernel_rfl
theorem fl124_0 : flB Tryz.prog 124 0 = true := by kernel_rfl
theorem fl124_1 : flB Tryz.prog 124 1 = true := by kernel_rfl
theorem fl124_2 : flB Tryz.prog 124 2 = true := by kernel_rfl
theorem fl124_3 : flB Tryz.prog 124 3 = true := by kernel_rfl
end Go.Ai.TTryz
namespace Go.Ai.Rab
open Go.Proofs
noncomputable def law_small_l1 (f : FsR) : (Int × Int) → Option ((Int × Int) ⊕ Int)
 | (n, i) => ((if (decide (i < (f.v.1.length : Int))) then some (decide (n ≤ 50000)) else some false).bind fun b => (if b then ((nth f.v.1 i).bind fun v => some (.inl ((IntKind.i64.wrap (n + (v.v.2.2.2.2.1.length : Int))), (IntKind.i64.wrap (i + 1))))) else some (.inr n)))
noncomputable def law_small_a1 : Int → Option (Bool)
 | n1 => some ((decide (n1 ≤ 50000)))
noncomputable def law_small (f : FsR) : Option (Bool) :=
 (if (decide ((f.v.1.length : Int) > 60)) then some (false) else ((loop (law_small_l1 f) (0, 0)).bind (law_small_a1)))
noncomputable def ref_attrs_l1 (a : (List AttrR)) (b : (List AttrR)) : Int → Option (Int ⊕ (Unit ⊕ Bool))
 | i => (if (decide (i < (a.length : Int))) then ((nth a i).bind fun v1 => ((nth b i).bind fun v2 => ((if (!eqS v1.v.1 v2.v.1) then some true else ((nth a i).bind fun v3 => ((nth b i).bind fun v4 => some (!eqS (str v3.v.2.1) (str v4.v.2.1))))).bind fun b1 => (if b1 then some (.inr (.inr false)) else some (.inl (IntKind.i64.wrap (i + 1))))))) else some (.inr (.inl ())))
noncomputable def ref_attrs_a1 : (Unit ⊕ Bool) → Option (Bool)
 | (.inl _) => some (true)
 | (.inr v) => some (v)
noncomputable def ref_attrs (a : (List AttrR)) (b : (List AttrR)) : Option (Bool) :=
 (if ((a.length : Int) != (b.length : Int)) then some (false) else ((loop (ref_attrs_l1 a b) 0).bind (ref_attrs_a1)))
noncomputable def ref_Inode_l1 (a : InodeR) (b : InodeR) : Int → Option (Int ⊕ (Unit ⊕ Bool))
 | i => (if (decide (i < (a.v.2.2.2.2.2.2.1.length : Int))) then ((nth a.v.2.2.2.2.2.2.1 i).bind fun v1 => ((nth b.v.2.2.2.2.2.2.1 i).bind fun v2 => (if (!eqS v1 v2) then some (.inr (.inr false)) else some (.inl (IntKind.i64.wrap (i + 1)))))) else some (.inr (.inl ())))
noncomputable def ref_Inode_l2 (a : InodeR) (b : InodeR) : Int → Option (Int ⊕ (Unit ⊕ Bool))
 | i1 => (if (decide (i1 < (a.v.2.2.2.2.2.2.2.1.length : Int))) then ((nth a.v.2.2.2.2.2.2.2.1 i1).bind fun v4 => ((nth b.v.2.2.2.2.2.2.2.1 i1).bind fun v5 => (if (v4 != v5) then some (.inr (.inr false)) else some (.inl (IntKind.i64.wrap (i1 + 1)))))) else some (.inr (.inl ())))
noncomputable def ref_Inode_a2 : (Unit ⊕ Bool) → Option (Bool)
 | (.inl _) => some (true)
 | (.inr v3) => some (v3)
noncomputable def ref_Inode_a1 (a : InodeR) (b : InodeR) : (Unit ⊕ Bool) → Option (Bool)
 | (.inl _) => ((loop (ref_Inode_l2 a b) 0).bind (ref_Inode_a2))
 | (.inr v) => some (v)
noncomputable def ref_Inode (a : InodeR) (b : InodeR) : Option (Bool) :=
 ((if (a.v.1 != b.v.1) then some true else some (a.v.2.1 != b.v.2.1)).bind fun b1 => ((if b1 then some true else some (a.v.2.2.1 != b.v.2.2.1)).bind fun b2 => ((if b2 then some true else some (a.v.2.2.2.1 != b.v.2.2.2.1)).bind fun b3 => ((if b3 then some true else some (!eqS (str a.v.2.2.2.2.1) (str b.v.2.2.2.2.1))).bind fun b4 => ((if b4 then some true else some (!eqS a.v.2.2.2.2.2.1 b.v.2.2.2.2.2.1)).bind fun b5 => ((if b5 then some true else some ((a.v.2.2.2.2.2.2.1.length : Int) != (b.v.2.2.2.2.2.2.1.length : Int))).bind fun b6 => ((if b6 then some true else some ((a.v.2.2.2.2.2.2.2.1.length : Int) != (b.v.2.2.2.2.2.2.2.1.length : Int))).bind fun b7 => ((if b7 then some true else ((ref_attrs a.v.2.2.2.2.2.2.2.2.1 b.v.2.2.2.2.2.2.2.2.1).bind fun r_ => some (!r_))).bind fun b8 => (if b8 then some (false) else ((loop (ref_Inode_l1 a b) 0).bind (ref_Inode_a1 a b)))))))))))
noncomputable def ref_Same_l1 (a : FsR) (b : FsR) : Int → Option (Int ⊕ (Unit ⊕ Bool))
 | i => (if (decide (i < (a.v.1.length : Int))) then ((nth a.v.1 i).bind fun v1 => ((nth b.v.1 i).bind fun v2 => ((ref_Inode v1 v2).bind fun r_ => (if (!r_) then some (.inr (.inr false)) else some (.inl (IntKind.i64.wrap (i + 1))))))) else some (.inr (.inl ())))
noncomputable def ref_Same_a1 : (Unit ⊕ Bool) → Option (Bool)
 | (.inl _) => some (true)
 | (.inr v) => some (v)
noncomputable def ref_Same (a : FsR) (b : FsR) : Option (Bool) :=
 ((if (a.v.2.1 != b.v.2.1) then some true else some ((a.v.1.length : Int) != (b.v.1.length : Int))).bind fun b1 => (if b1 then some (false) else ((loop (ref_Same_l1 a b) 0).bind (ref_Same_a1))))
theorem law_small_wf (f : FsR) (r : Bool) (h : law_small f = some r) : MF Tryz.prog pz0 9 [enc f] s0 fun v _ => ris v r := by
 refine TF_run [(0, enc f)] Tryz.func9 rfl (by simp only [Tryz.f9]; rfl) fun ψ => ?_
 unfold law_small at h
 refine TC_seq <| TC_reg <| TO_bxR (r := f) rfl (Enc.self f) Hp.nil fun m xs s hxs hs => TO_as (v := (enc (false : Bool))) rfl <| TO_nil <| TC_seq <| TC_seq <| TC_reg <| TO_fv TTryz.fl24_0 rfl <| TO_ldV TTryz.ag22 Sel.zero rfl hxs hs fun y hy => TO_ln Tryz.underlying22 rfl rfl hy <| TO_bi (v := (enc ((decide ((f.v.1.length : Int) > 60)) : Bool))) rfl rfl rfl <| TO_nil ?_
 split at h
 ·rename_i hcond
  refine TC_cond_t rfl hcond <| TC_seq <| TC_reg <| TO_as (v := (enc (false : Bool))) rfl <| TO_nil <| TC_ret ?_
  rw [← Option.some.inj h]
  exact ⟨rfl, KE1 (a := (false : Bool)) rfl rfl (rfl : is _ (false : Bool)) (rfl : is _ (false : Bool))⟩
 ·rename_i hcond
  refine TC_cond_f rfl hcond <| TC_skip <| TC_seq <| TC_reg <| TO_as (v := (enc (0 : Int))) rfl <| TO_nil <| TC_seq <| TC_seq <| TC_reg <| TO_as (v := (enc (0 : Int))) rfl <| TO_nil <| TC_block ?_
  obtain ⟨n1, hl, h⟩ := bs h
  refine TC_loop (fun (p : (Int × Int)) φ s => match p with | (n, i) => Fx φ [(1, (.ptr m 0)), (3, (enc (n : Int))), (4, (enc (i : Int)))] ∧ Hp s [(.cells m xs)]) (fun (o : Int) e φ s => match o with | n1 => e = .exit 0 ∧ Fx φ [(3, (enc (n1 : Int)))]) ?_ hl ⟨⟨rfl, rfl, rfl, trivial⟩, hs⟩ ?_
  ·rintro ⟨n, i⟩ o h φ s ⟨hF, hs⟩
   rw [← hF.eq]
   rw [law_small_l1] at h
   refine TC_seq <| TC_seq <| TC_reg <| TO_mv rfl <| TO_fv TTryz.fl24_0 rfl <| TO_ldV TTryz.ag22 Sel.zero rfl hxs hs fun y1 hy1 => TO_ln Tryz.underlying22 rfl rfl hy1 <| TO_bi (v := (enc ((decide (i < (f.v.1.length : Int))) : Bool))) rfl rfl rfl <| TO_mv rfl ?_
   obtain ⟨b, hb_b, h⟩ := bs h
   refine TO_cut 3 (fun φ s => Hp s [(.cells m xs)] ∧ Fx φ [(1, (.ptr m 0)), (3, (enc (n : Int))), (4, (enc (i : Int))), (17, (enc (b : Bool)))]) ?_ ?_
   ·split at hb_b
    ·rename_i cg
     refine TO_on rfl rfl cg <| TO_mv rfl <| TO_on rfl rfl cg <| TO_bi (v := (enc ((decide (n ≤ 50000)) : Bool))) rfl rfl rfl <| TO_pt rfl cg rfl <| TO_nil ?_
     rw [← Option.some.inj hb_b]
     exact ⟨hs, ⟨rfl, rfl, rfl, rfl, trivial⟩⟩
    ·rename_i cg1
     refine TO_off rfl rfl cg1 <| TO_off rfl rfl cg1 <| TO_pf (v := (enc (false : Bool))) rfl cg1 rfl <| TO_nil ?_
     rw [← Option.some.inj hb_b]
     exact ⟨hs, ⟨rfl, rfl, rfl, rfl, trivial⟩⟩
   ·rintro φ s ⟨hs, hF⟩
    rw [← hF.eq]
    refine TO_nil ?_
    split at h
    ·rename_i hcond
     refine TC_cond_t rfl hcond <| TC_skip <| TC_seq <| TC_block <| TC_reg <| TO_mv rfl <| TO_fv TTryz.fl24_0 rfl <| TO_ldV TTryz.ag22 Sel.zero rfl hxs hs fun y2 hy2 => TO_mv rfl ?_
     obtain ⟨v, hx, h⟩ := bs h
     refine TO_ix Tryz.underlying22 TTryz.sh38 rfl rfl hy2 hx fun p hp => TO_fp TTryz.fl38_4 (Sel.succ (Sel.succ (Sel.succ (Sel.succ Sel.zero)))) rfl hp fun p1 hp1 => TO_ldF TTryz.ag33 rfl hp1 fun y3 hy3 => TO_ln Tryz.underlying33 rfl rfl hy3 <| TO_bi (v := (enc ((IntKind.i64.wrap (n + (v.v.2.2.2.2.1.length : Int))) : Int))) rfl rfl rfl <| TO_as rfl <| TO_nil <| TC_reg <| TO_mv rfl <| TO_bi (v := (enc ((IntKind.i64.wrap (i + 1)) : Int))) rfl rfl rfl <| TO_as rfl <| TO_nil ?_
     rw [← Option.some.inj h]
     exact ⟨_, rfl, ⟨⟨rfl, rfl, rfl, trivial⟩, hs⟩⟩
    ·rename_i hcond
     refine TC_cond_f rfl hcond <| TC_exit ?_
     rw [← Option.some.inj h]
     exact ⟨_, rfl, rfl, ⟨rfl, trivial⟩⟩
  ·intro e φ s hE
   obtain ⟨rfl, hF⟩ := hE
   rw [← hF.eq]
   rw [law_small_a1] at h
   show if _ then _ else _
   rw [if_pos rfl]
   refine TC_seq <| TC_reg <| TO_mv rfl <| TO_bi (v := (enc ((decide (n1 ≤ 50000)) : Bool))) rfl rfl rfl <| TO_as rfl <| TO_nil <| TC_ret ?_
   rw [← Option.some.inj h]
   exact ⟨rfl, KE1 (a := ((decide (n1 ≤ 50000)) : Bool)) rfl rfl (rfl : is _ ((decide (n1 ≤ 50000)) : Bool)) (rfl : is _ ((decide (n1 ≤ 50000)) : Bool))⟩
theorem law_small_pc : PureC Tryz.prog 9 (fun _ => Fn (fun a : FsR × Unit => law_small a.1)) := fnC pz0_ok ⟨_, Tryz.func9, rfl⟩ <| fun a r h => law_small_wf a.1 r h
noncomputable def pz1 : Prims := pz0.add 9 (Fn (fun a : FsR × Unit => law_small a.1))
theorem pz1_ok : PrimsOk Tryz.prog pz1 := primsOk_add pz0_ok law_small_pc
theorem ref_attrs_wf (a : (List AttrR)) (b : (List AttrR)) (r : Bool) (h : ref_attrs a b = some r) : MF Tryz.prog pz1 59 [enc a, enc b] s0 fun v _ => ris v r := by
 refine TF_run [(0, enc a), (1, enc b)] Tryz.func59 rfl (by simp only [Tryz.f59]; rfl) fun ψ => ?_
 unfold ref_attrs at h
 refine TC_seq <| TC_reg <| TO_as (v := (enc (false : Bool))) rfl <| TO_nil <| TC_seq <| TC_seq <| TC_reg <| TO_mv rfl <| TO_ln Tryz.underlying36 rfl rfl (Enc.self a) <| TO_mv rfl <| TO_ln Tryz.underlying36 rfl rfl (Enc.self b) <| TO_bi (v := (enc (((a.length : Int) != (b.length : Int)) : Bool))) rfl rfl rfl <| TO_nil ?_
 split at h
 ·rename_i hcond
  refine TC_cond_t rfl hcond <| TC_seq <| TC_reg <| TO_as (v := (enc (false : Bool))) rfl <| TO_nil <| TC_ret ?_
  rw [← Option.some.inj h]
  exact ⟨rfl, KE1 (a := (false : Bool)) rfl rfl (rfl : is _ (false : Bool)) (rfl : is _ (false : Bool))⟩
 ·rename_i hcond
  refine TC_cond_f rfl hcond <| TC_skip <| TC_seq <| TC_seq <| TC_reg <| TO_as (v := (enc (0 : Int))) rfl <| TO_nil <| TC_block ?_
  obtain ⟨o, hl, h⟩ := bs h
  refine TC_loop (fun (p : Int) φ s => match p with | i => Fx φ [(0, (enc (a : (List AttrR)))), (1, (enc (b : (List AttrR)))), (5, (enc (i : Int)))]) (fun (o : (Unit ⊕ Bool)) e φ s => match o with | (.inl _) => e = .exit 0 ∧ Fx φ [] | (.inr v) => e = .ret ∧ Fx φ [(4, (enc (v : Bool)))]) ?_ hl ⟨rfl, rfl, rfl, trivial⟩ ?_
  ·rintro i o h φ s hF
   rw [← hF.eq]
   rw [ref_attrs_l1] at h
   refine TC_seq <| TC_seq <| TC_reg <| TO_mv rfl <| TO_mv rfl <| TO_ln Tryz.underlying36 rfl rfl (Enc.self a) <| TO_bi (v := (enc ((decide (i < (a.length : Int))) : Bool))) rfl rfl rfl <| TO_nil ?_
   split at h
   ·rename_i hcond
    refine TC_cond_t rfl hcond <| TC_skip <| TC_seq <| TC_block <| TC_seq <| TC_drawn (by decide +kernel) (by decide +kernel) <| TO_mv rfl <| TO_mv rfl ?_
    obtain ⟨v1, hx, h⟩ := bs h
    refine TO_ix Tryz.underlying36 TTryz.sh89 rfl rfl (Enc.self a) hx fun p hp => TO_fp TTryz.fl89_0 Sel.zero rfl hp fun p1 hp1 => TO_ldF TTryz.ag9 rfl hp1 fun y hy => ?_
    cases hy
    refine TO_mv rfl <| TO_mv rfl ?_
    obtain ⟨v2, hx1, h⟩ := bs h
    refine TO_ix Tryz.underlying36 TTryz.sh89 rfl rfl (Enc.self b) hx1 fun p2 hp2 => TO_fp TTryz.fl89_0 Sel.zero rfl hp2 fun p3 hp3 => TO_ldF TTryz.ag9 rfl hp3 fun y1 hy1 => ?_
    cases hy1
    refine TO_bi (v := (enc ((!eqS v1.v.1 v2.v.1) : Bool))) rfl rfl rfl <| TO_mv rfl ?_
    obtain ⟨b1, hb_b1, h⟩ := bs h
    refine TO_cut 14 (fun φ s => Fx φ [(0, (enc (a : (List AttrR)))), (1, (enc (b : (List AttrR)))), (5, (enc (i : Int))), (42, (enc (b1 : Bool)))]) ?_ ?_
    ·split at hb_b1
     ·rename_i cg
      refine TO_off rfl rfl (by simpa using cg) <| TO_off rfl rfl (by simpa using cg) <| TO_off rfl rfl (by simpa using cg) <| TO_off rfl rfl (by simpa using cg) <| TO_off rfl rfl (by simpa using cg) <| TO_off rfl rfl (by simpa using cg) <| TO_off rfl rfl (by simpa using cg) <| TO_off rfl rfl (by simpa using cg) <| TO_off rfl rfl (by simpa using cg) <| TO_off rfl rfl (by simpa using cg) <| TO_off rfl rfl (by simpa using cg) <| TO_off rfl rfl (by simpa using cg) <| TO_off rfl rfl (by simpa using cg) <| TO_pt (v := (enc (true : Bool))) rfl cg rfl <| TO_nil ?_
      rw [← Option.some.inj hb_b1]
      exact ⟨rfl, rfl, rfl, rfl, trivial⟩
     ·rename_i cg1
      refine TO_on rfl rfl (by simpa using cg1) <| TO_mv rfl <| TO_on rfl rfl (by simpa using cg1) <| TO_mv rfl <| TO_on rfl rfl (by simpa using cg1) ?_
      obtain ⟨v3, hx2, hb_b1⟩ := bs hb_b1
      refine TO_ix Tryz.underlying36 TTryz.sh89 rfl rfl (Enc.self a) hx2 fun p4 hp4 => TO_on rfl rfl (by simpa using cg1) <| TO_fp TTryz.fl89_1 (Sel.succ Sel.zero) rfl hp4 fun p5 hp5 => TO_on rfl rfl (by simpa using cg1) <| TO_ldF TTryz.ag33 rfl hp5 fun y2 hy2 => TO_on rfl rfl (by simpa using cg1) <| TO_cvSB (sT := str v3.v.2.1) Tryz.underlying33 Tryz.underlying5 Tryz.underlying9 rfl hy2 <| TO_on rfl rfl (by simpa using cg1) <| TO_mv rfl <| TO_on rfl rfl (by simpa using cg1) <| TO_mv rfl <| TO_on rfl rfl (by simpa using cg1) ?_
      obtain ⟨v4, hx3, hb_b1⟩ := bs hb_b1
      refine TO_ix Tryz.underlying36 TTryz.sh89 rfl rfl (Enc.self b) hx3 fun p6 hp6 => TO_on rfl rfl (by simpa using cg1) <| TO_fp TTryz.fl89_1 (Sel.succ Sel.zero) rfl hp6 fun p7 hp7 => TO_on rfl rfl (by simpa using cg1) <| TO_ldF TTryz.ag33 rfl hp7 fun y3 hy3 => TO_on rfl rfl (by simpa using cg1) <| TO_cvSB (sT := str v4.v.2.1) Tryz.underlying33 Tryz.underlying5 Tryz.underlying9 rfl hy3 <| TO_on rfl rfl (by simpa using cg1) <| TO_bi (v := (enc ((!eqS (str v3.v.2.1) (str v4.v.2.1)) : Bool))) rfl rfl rfl <| TO_pf rfl cg1 rfl <| TO_nil ?_
      rw [← Option.some.inj hb_b1]
      exact ⟨rfl, rfl, rfl, rfl, trivial⟩
    ·rintro φ s hF
     rw [← hF.eq]
     refine TO_nil ?_
     split at h
     ·rename_i hcond
      refine TC_cond_t rfl hcond <| TC_seq <| TC_reg <| TO_as (v := (enc (false : Bool))) rfl <| TO_nil <| TC_ret ?_
      show if _ then _ else _
      rw [if_neg (by simp)]
      rw [← Option.some.inj h]
      exact ⟨_, rfl, rfl, ⟨rfl, trivial⟩⟩
     ·rename_i hcond
      refine TC_cond_f rfl hcond <| TC_skip <| TC_reg <| TO_mv rfl <| TO_bi (v := (enc ((IntKind.i64.wrap (i + 1)) : Int))) rfl rfl rfl <| TO_as rfl <| TO_nil ?_
      rw [← Option.some.inj h]
      exact ⟨_, rfl, ⟨rfl, rfl, rfl, trivial⟩⟩
   ·rename_i hcond
    refine TC_cond_f rfl hcond <| TC_exit ?_
    rw [← Option.some.inj h]
    exact ⟨_, rfl, rfl, trivial⟩
  ·intro e φ s hE
   rcases o with _u | v
   ·obtain ⟨rfl, hF⟩ := hE
    rw [← hF.eq]
    rw [ref_attrs_a1] at h
    show if _ then _ else _
    rw [if_pos rfl]
    refine TC_seq <| TC_reg <| TO_as (v := (enc (true : Bool))) rfl <| TO_nil <| TC_ret ?_
    rw [← Option.some.inj h]
    exact ⟨rfl, KE1 (a := (true : Bool)) rfl rfl (rfl : is _ (true : Bool)) (rfl : is _ (true : Bool))⟩
   ·obtain ⟨rfl, hF⟩ := hE
    rw [← hF.eq]
    rw [ref_attrs_a1] at h
    show if _ then _ else _
    rw [if_neg (by simp)]
    rw [← Option.some.inj h]
    exact ⟨rfl, KE1 (a := (v : Bool)) rfl rfl (rfl : is _ (v : Bool)) (rfl : is _ (v : Bool))⟩
theorem ref_attrs_pc : PureC Tryz.prog 59 (fun _ => Fn (fun a : (List AttrR) × (List AttrR) × Unit => ref_attrs a.1 a.2.1)) := fnC pz1_ok ⟨_, Tryz.func59, rfl⟩ <| fun a r h => ref_attrs_wf a.1 a.2.1 r h
noncomputable def pz2 : Prims := pz1.add 59 (Fn (fun a : (List AttrR) × (List AttrR) × Unit => ref_attrs a.1 a.2.1))
theorem pz2_ok : PrimsOk Tryz.prog pz2 := primsOk_add pz1_ok ref_attrs_pc
theorem ref_Inode_wf (a : InodeR) (b : InodeR) (r : Bool) (h : ref_Inode a b = some r) : MF Tryz.prog pz2 29 [enc a, enc b] s0 fun v _ => ris v r := by
 refine TF_run [(0, enc a), (1, enc b)] Tryz.func29 rfl (by simp only [Tryz.f29]; rfl) fun ψ => ?_
 unfold ref_Inode at h
 refine TC_seq <| TC_reg <| TO_bxR (r := a) rfl (Enc.self a) Hp.nil fun m xs s hxs hs => TO_bxR (r := b) rfl (Enc.self b) hs fun m1 xs1 s hxs1 hs => TO_as (v := (enc (false : Bool))) rfl <| TO_nil <| TC_seq <| TC_seq <| TC_reg <| TO_fv TTryz.fl38_0 rfl ?_
 replace hs := Hp.front [(.cells m1 xs1)] (b := []) hs
 refine TO_ldV TTryz.ag3 Sel.zero rfl hxs hs fun y hy => ?_
 cases hy
 refine TO_fv TTryz.fl38_0 rfl ?_
 replace hs := Hp.front [(.cells m xs)] (b := []) hs
 refine TO_ldV TTryz.ag3 Sel.zero rfl hxs1 hs fun y1 hy1 => ?_
 cases hy1
 refine TO_bi (v := (enc ((a.v.1 != b.v.1) : Bool))) rfl rfl rfl <| TO_mv rfl ?_
 obtain ⟨b1, hb_b1, h⟩ := bs h
 refine TO_cut 6 (fun φ s => Hp s [(.cells m1 xs1), (.cells m xs)] ∧ Fx φ [(2, (.ptr m 0)), (3, (.ptr m1 0)), (18, (enc (b1 : Bool)))]) ?_ ?_
 ·split at hb_b1
  ·rename_i cg
   refine TO_off rfl rfl (by simpa using cg) <| TO_off rfl rfl (by simpa using cg) <| TO_off rfl rfl (by simpa using cg) <| TO_off rfl rfl (by simpa using cg) <| TO_off rfl rfl (by simpa using cg) <| TO_pt (v := (enc (true : Bool))) rfl cg rfl <| TO_nil ?_
   rw [← Option.some.inj hb_b1]
   exact ⟨hs, ⟨rfl, rfl, rfl, trivial⟩⟩
  ·rename_i cg1
   refine TO_on rfl rfl (by simpa using cg1) <| TO_fv TTryz.fl38_1 rfl <| TO_on rfl rfl (by simpa using cg1) ?_
   replace hs := Hp.front [(.cells m1 xs1)] (b := []) hs
   refine TO_ldV TTryz.ag25 (Sel.succ Sel.zero) rfl hxs hs fun y2 hy2 => ?_
   cases hy2
   refine TO_on rfl rfl (by simpa using cg1) <| TO_fv TTryz.fl38_1 rfl <| TO_on rfl rfl (by simpa using cg1) ?_
   replace hs := Hp.front [(.cells m xs)] (b := []) hs
   refine TO_ldV TTryz.ag25 (Sel.succ Sel.zero) rfl hxs1 hs fun y3 hy3 => ?_
   cases hy3
   refine TO_on rfl rfl (by simpa using cg1) <| TO_bi (v := (enc ((a.v.2.1 != b.v.2.1) : Bool))) rfl rfl rfl <| TO_pf rfl cg1 rfl <| TO_nil ?_
   rw [← Option.some.inj hb_b1]
   exact ⟨hs, ⟨rfl, rfl, rfl, trivial⟩⟩
 ·rintro φ s ⟨hs, hF⟩
  rw [← hF.eq]
  refine TO_mv rfl ?_
  obtain ⟨b2, hb_b2, h⟩ := bs h
  refine TO_cut 6 (fun φ s => Hp s [(.cells m1 xs1), (.cells m xs)] ∧ Fx φ [(2, (.ptr m 0)), (3, (.ptr m1 0)), (25, (enc (b2 : Bool)))]) ?_ ?_
  ·split at hb_b2
   ·rename_i cg2
    refine TO_off rfl rfl (by simpa using cg2) <| TO_off rfl rfl (by simpa using cg2) <| TO_off rfl rfl (by simpa using cg2) <| TO_off rfl rfl (by simpa using cg2) <| TO_off rfl rfl (by simpa using cg2) <| TO_pt (v := (enc (true : Bool))) rfl cg2 rfl <| TO_nil ?_
    rw [← Option.some.inj hb_b2]
    exact ⟨hs, ⟨rfl, rfl, rfl, trivial⟩⟩
   ·rename_i cg3
    refine TO_on rfl rfl (by simpa using cg3) <| TO_fv TTryz.fl38_2 rfl <| TO_on rfl rfl (by simpa using cg3) ?_
    replace hs := Hp.front [(.cells m1 xs1)] (b := []) hs
    refine TO_ldV TTryz.ag3 (Sel.succ (Sel.succ Sel.zero)) rfl hxs hs fun y4 hy4 => ?_
    cases hy4
    refine TO_on rfl rfl (by simpa using cg3) <| TO_fv TTryz.fl38_2 rfl <| TO_on rfl rfl (by simpa using cg3) ?_
    replace hs := Hp.front [(.cells m xs)] (b := []) hs
    refine TO_ldV TTryz.ag3 (Sel.succ (Sel.succ Sel.zero)) rfl hxs1 hs fun y5 hy5 => ?_
    cases hy5
    refine TO_on rfl rfl (by simpa using cg3) <| TO_bi (v := (enc ((a.v.2.2.1 != b.v.2.2.1) : Bool))) rfl rfl rfl <| TO_pf rfl cg3 rfl <| TO_nil ?_
    rw [← Option.some.inj hb_b2]
    exact ⟨hs, ⟨rfl, rfl, rfl, trivial⟩⟩
  ·rintro φ s ⟨hs, hF⟩
   rw [← hF.eq]
   refine TO_mv rfl ?_
   obtain ⟨b3, hb_b3, h⟩ := bs h
   refine TO_cut 6 (fun φ s => Hp s [(.cells m1 xs1), (.cells m xs)] ∧ Fx φ [(2, (.ptr m 0)), (3, (.ptr m1 0)), (32, (enc (b3 : Bool)))]) ?_ ?_
   ·split at hb_b3
    ·rename_i cg4
     refine TO_off rfl rfl (by simpa using cg4) <| TO_off rfl rfl (by simpa using cg4) <| TO_off rfl rfl (by simpa using cg4) <| TO_off rfl rfl (by simpa using cg4) <| TO_off rfl rfl (by simpa using cg4) <| TO_pt (v := (enc (true : Bool))) rfl cg4 rfl <| TO_nil ?_
     rw [← Option.some.inj hb_b3]
     exact ⟨hs, ⟨rfl, rfl, rfl, trivial⟩⟩
    ·rename_i cg5
     refine TO_on rfl rfl (by simpa using cg5) <| TO_fv TTryz.fl38_3 rfl <| TO_on rfl rfl (by simpa using cg5) ?_
     replace hs := Hp.front [(.cells m1 xs1)] (b := []) hs
     refine TO_ldV TTryz.ag3 (Sel.succ (Sel.succ (Sel.succ Sel.zero))) rfl hxs hs fun y6 hy6 => ?_
     cases hy6
     refine TO_on rfl rfl (by simpa using cg5) <| TO_fv TTryz.fl38_3 rfl <| TO_on rfl rfl (by simpa using cg5) ?_
     replace hs := Hp.front [(.cells m xs)] (b := []) hs
     refine TO_ldV TTryz.ag3 (Sel.succ (Sel.succ (Sel.succ Sel.zero))) rfl hxs1 hs fun y7 hy7 => ?_
     cases hy7
     refine TO_on rfl rfl (by simpa using cg5) <| TO_bi (v := (enc ((a.v.2.2.2.1 != b.v.2.2.2.1) : Bool))) rfl rfl rfl <| TO_pf rfl cg5 rfl <| TO_nil ?_
     rw [← Option.some.inj hb_b3]
     exact ⟨hs, ⟨rfl, rfl, rfl, trivial⟩⟩
   ·rintro φ s ⟨hs, hF⟩
    rw [← hF.eq]
    refine TO_mv rfl ?_
    obtain ⟨b4, hb_b4, h⟩ := bs h
    refine TO_cut 8 (fun φ s => Hp s [(.cells m1 xs1), (.cells m xs)] ∧ Fx φ [(2, (.ptr m 0)), (3, (.ptr m1 0)), (41, (enc (b4 : Bool)))]) ?_ ?_
    ·split at hb_b4
     ·rename_i cg6
      refine TO_off rfl rfl (by simpa using cg6) <| TO_off rfl rfl (by simpa using cg6) <| TO_off rfl rfl (by simpa using cg6) <| TO_off rfl rfl (by simpa using cg6) <| TO_off rfl rfl (by simpa using cg6) <| TO_off rfl rfl (by simpa using cg6) <| TO_off rfl rfl (by simpa using cg6) <| TO_pt (v := (enc (true : Bool))) rfl cg6 rfl <| TO_nil ?_
      rw [← Option.some.inj hb_b4]
      exact ⟨hs, ⟨rfl, rfl, rfl, trivial⟩⟩
     ·rename_i cg7
      refine TO_on rfl rfl (by simpa using cg7) <| TO_fv TTryz.fl38_4 rfl <| TO_on rfl rfl (by simpa using cg7) ?_
      replace hs := Hp.front [(.cells m1 xs1)] (b := []) hs
      refine TO_ldV TTryz.ag33 (Sel.succ (Sel.succ (Sel.succ (Sel.succ Sel.zero)))) rfl hxs hs fun y8 hy8 => TO_on rfl rfl (by simpa using cg7) <| TO_cvSB (sT := str a.v.2.2.2.2.1) Tryz.underlying33 Tryz.underlying5 Tryz.underlying9 rfl hy8 <| TO_on rfl rfl (by simpa using cg7) <| TO_fv TTryz.fl38_4 rfl <| TO_on rfl rfl (by simpa using cg7) ?_
      replace hs := Hp.front [(.cells m xs)] (b := []) hs
      refine TO_ldV TTryz.ag33 (Sel.succ (Sel.succ (Sel.succ (Sel.succ Sel.zero)))) rfl hxs1 hs fun y9 hy9 => TO_on rfl rfl (by simpa using cg7) <| TO_cvSB (sT := str b.v.2.2.2.2.1) Tryz.underlying33 Tryz.underlying5 Tryz.underlying9 rfl hy9 <| TO_on rfl rfl (by simpa using cg7) <| TO_bi (v := (enc ((!eqS (str a.v.2.2.2.2.1) (str b.v.2.2.2.2.1)) : Bool))) rfl rfl rfl <| TO_pf rfl cg7 rfl <| TO_nil ?_
      rw [← Option.some.inj hb_b4]
      exact ⟨hs, ⟨rfl, rfl, rfl, trivial⟩⟩
    ·rintro φ s ⟨hs, hF⟩
     rw [← hF.eq]
     refine TO_mv rfl ?_
     obtain ⟨b5, hb_b5, h⟩ := bs h
     refine TO_cut 6 (fun φ s => Hp s [(.cells m1 xs1), (.cells m xs)] ∧ Fx φ [(2, (.ptr m 0)), (3, (.ptr m1 0)), (48, (enc (b5 : Bool)))]) ?_ ?_
     ·split at hb_b5
      ·rename_i cg8
       refine TO_off rfl rfl (by simpa using cg8) <| TO_off rfl rfl (by simpa using cg8) <| TO_off rfl rfl (by simpa using cg8) <| TO_off rfl rfl (by simpa using cg8) <| TO_off rfl rfl (by simpa using cg8) <| TO_pt (v := (enc (true : Bool))) rfl cg8 rfl <| TO_nil ?_
       rw [← Option.some.inj hb_b5]
       exact ⟨hs, ⟨rfl, rfl, rfl, trivial⟩⟩
      ·rename_i cg9
       refine TO_on rfl rfl (by simpa using cg9) <| TO_fv TTryz.fl38_5 rfl <| TO_on rfl rfl (by simpa using cg9) ?_
       replace hs := Hp.front [(.cells m1 xs1)] (b := []) hs
       refine TO_ldV TTryz.ag9 (Sel.succ (Sel.succ (Sel.succ (Sel.succ (Sel.succ Sel.zero))))) rfl hxs hs fun y10 hy10 => ?_
       cases hy10
       refine TO_on rfl rfl (by simpa using cg9) <| TO_fv TTryz.fl38_5 rfl <| TO_on rfl rfl (by simpa using cg9) ?_
       replace hs := Hp.front [(.cells m xs)] (b := []) hs
       refine TO_ldV TTryz.ag9 (Sel.succ (Sel.succ (Sel.succ (Sel.succ (Sel.succ Sel.zero))))) rfl hxs1 hs fun y11 hy11 => ?_
       cases hy11
       refine TO_on rfl rfl (by simpa using cg9) <| TO_bi (v := (enc ((!eqS a.v.2.2.2.2.2.1 b.v.2.2.2.2.2.1) : Bool))) rfl rfl rfl <| TO_pf rfl cg9 rfl <| TO_nil ?_
       rw [← Option.some.inj hb_b5]
       exact ⟨hs, ⟨rfl, rfl, rfl, trivial⟩⟩
     ·rintro φ s ⟨hs, hF⟩
      rw [← hF.eq]
      refine TO_mv rfl ?_
      obtain ⟨b6, hb_b6, h⟩ := bs h
      refine TO_cut 8 (fun φ s => Hp s [(.cells m1 xs1), (.cells m xs)] ∧ Fx φ [(2, (.ptr m 0)), (3, (.ptr m1 0)), (57, (enc (b6 : Bool)))]) ?_ ?_
      ·split at hb_b6
       ·rename_i cg10
        refine TO_off rfl rfl (by simpa using cg10) <| TO_off rfl rfl (by simpa using cg10) <| TO_off rfl rfl (by simpa using cg10) <| TO_off rfl rfl (by simpa using cg10) <| TO_off rfl rfl (by simpa using cg10) <| TO_off rfl rfl (by simpa using cg10) <| TO_off rfl rfl (by simpa using cg10) <| TO_pt (v := (enc (true : Bool))) rfl cg10 rfl <| TO_nil ?_
        rw [← Option.some.inj hb_b6]
        exact ⟨hs, ⟨rfl, rfl, rfl, trivial⟩⟩
       ·rename_i cg11
        refine TO_on rfl rfl (by simpa using cg11) <| TO_fv TTryz.fl38_6 rfl <| TO_on rfl rfl (by simpa using cg11) ?_
        replace hs := Hp.front [(.cells m1 xs1)] (b := []) hs
        refine TO_ldV TTryz.ag34 (Sel.succ (Sel.succ (Sel.succ (Sel.succ (Sel.succ (Sel.succ Sel.zero)))))) rfl hxs hs fun y12 hy12 => TO_on rfl rfl (by simpa using cg11) <| TO_ln Tryz.underlying34 rfl rfl hy12 <| TO_on rfl rfl (by simpa using cg11) <| TO_fv TTryz.fl38_6 rfl <| TO_on rfl rfl (by simpa using cg11) ?_
        replace hs := Hp.front [(.cells m xs)] (b := []) hs
        refine TO_ldV TTryz.ag34 (Sel.succ (Sel.succ (Sel.succ (Sel.succ (Sel.succ (Sel.succ Sel.zero)))))) rfl hxs1 hs fun y13 hy13 => TO_on rfl rfl (by simpa using cg11) <| TO_ln Tryz.underlying34 rfl rfl hy13 <| TO_on rfl rfl (by simpa using cg11) <| TO_bi (v := (enc (((a.v.2.2.2.2.2.2.1.length : Int) != (b.v.2.2.2.2.2.2.1.length : Int)) : Bool))) rfl rfl rfl <| TO_pf rfl cg11 rfl <| TO_nil ?_
        rw [← Option.some.inj hb_b6]
        exact ⟨hs, ⟨rfl, rfl, rfl, trivial⟩⟩
      ·rintro φ s ⟨hs, hF⟩
       rw [← hF.eq]
       refine TO_mv rfl ?_
       obtain ⟨b7, hb_b7, h⟩ := bs h
       refine TO_cut 8 (fun φ s => Hp s [(.cells m1 xs1), (.cells m xs)] ∧ Fx φ [(2, (.ptr m 0)), (3, (.ptr m1 0)), (66, (enc (b7 : Bool)))]) ?_ ?_
       ·split at hb_b7
        ·rename_i cg12
         refine TO_off rfl rfl (by simpa using cg12) <| TO_off rfl rfl (by simpa using cg12) <| TO_off rfl rfl (by simpa using cg12) <| TO_off rfl rfl (by simpa using cg12) <| TO_off rfl rfl (by simpa using cg12) <| TO_off rfl rfl (by simpa using cg12) <| TO_off rfl rfl (by simpa using cg12) <| TO_pt (v := (enc (true : Bool))) rfl cg12 rfl <| TO_nil ?_
         rw [← Option.some.inj hb_b7]
         exact ⟨hs, ⟨rfl, rfl, rfl, trivial⟩⟩
        ·rename_i cg13
         refine TO_on rfl rfl (by simpa using cg13) <| TO_fv TTryz.fl38_7 rfl <| TO_on rfl rfl (by simpa using cg13) ?_
         replace hs := Hp.front [(.cells m1 xs1)] (b := []) hs
         refine TO_ldV TTryz.ag35 (Sel.succ (Sel.succ (Sel.succ (Sel.succ (Sel.succ (Sel.succ (Sel.succ Sel.zero))))))) rfl hxs hs fun y14 hy14 => TO_on rfl rfl (by simpa using cg13) <| TO_ln Tryz.underlying35 rfl rfl hy14 <| TO_on rfl rfl (by simpa using cg13) <| TO_fv TTryz.fl38_7 rfl <| TO_on rfl rfl (by simpa using cg13) ?_
         replace hs := Hp.front [(.cells m xs)] (b := []) hs
         refine TO_ldV TTryz.ag35 (Sel.succ (Sel.succ (Sel.succ (Sel.succ (Sel.succ (Sel.succ (Sel.succ Sel.zero))))))) rfl hxs1 hs fun y15 hy15 => TO_on rfl rfl (by simpa using cg13) <| TO_ln Tryz.underlying35 rfl rfl hy15 <| TO_on rfl rfl (by simpa using cg13) <| TO_bi (v := (enc (((a.v.2.2.2.2.2.2.2.1.length : Int) != (b.v.2.2.2.2.2.2.2.1.length : Int)) : Bool))) rfl rfl rfl <| TO_pf rfl cg13 rfl <| TO_nil ?_
         rw [← Option.some.inj hb_b7]
         exact ⟨hs, ⟨rfl, rfl, rfl, trivial⟩⟩
       ·rintro φ s ⟨hs, hF⟩
        rw [← hF.eq]
        refine TO_mv rfl ?_
        obtain ⟨b8, hb_b8, h⟩ := bs h
        refine TO_cut 7 (fun φ s => Hp s [(.cells m1 xs1), (.cells m xs)] ∧ Fx φ [(2, (.ptr m 0)), (3, (.ptr m1 0)), (74, (enc (b8 : Bool)))]) ?_ ?_
        ·split at hb_b8
         ·rename_i cg14
          refine TO_off rfl rfl (by simpa using cg14) <| TO_off rfl rfl (by simpa using cg14) <| TO_off rfl rfl (by simpa using cg14) <| TO_off rfl rfl (by simpa using cg14) <| TO_off rfl rfl (by simpa using cg14) <| TO_off rfl rfl (by simpa using cg14) <| TO_pt (v := (enc (true : Bool))) rfl cg14 rfl <| TO_nil ?_
          rw [← Option.some.inj hb_b8]
          exact ⟨hs, ⟨rfl, rfl, rfl, trivial⟩⟩
         ·rename_i cg15
          refine TO_on rfl rfl (by simpa using cg15) <| TO_fv TTryz.fl38_8 rfl <| TO_on rfl rfl (by simpa using cg15) ?_
          replace hs := Hp.front [(.cells m1 xs1)] (b := []) hs
          refine TO_ldV TTryz.ag36 (Sel.succ (Sel.succ (Sel.succ (Sel.succ (Sel.succ (Sel.succ (Sel.succ (Sel.succ Sel.zero)))))))) rfl hxs hs fun y16 hy16 => TO_on rfl rfl (by simpa using cg15) <| TO_fv TTryz.fl38_8 rfl <| TO_on rfl rfl (by simpa using cg15) ?_
          replace hs := Hp.front [(.cells m xs)] (b := []) hs
          refine TO_ldV TTryz.ag36 (Sel.succ (Sel.succ (Sel.succ (Sel.succ (Sel.succ (Sel.succ (Sel.succ (Sel.succ Sel.zero)))))))) rfl hxs1 hs fun y17 hy17 => TO_on rfl rfl (by simpa using cg15) ?_
          obtain ⟨r_, hx, hb_b8⟩ := bs hb_b8
          refine TO_fn (f := fun a : (List AttrR) × (List AttrR) × Unit => ref_attrs a.1 a.2.1) (a := (a.v.2.2.2.2.2.2.2.2.1, b.v.2.2.2.2.2.2.2.2.1, ())) rfl Tryz.func59 rfl rfl (.cons (a := (a.v.2.2.2.2.2.2.2.2.1 : (List AttrR))) hy16 (.cons (a := (b.v.2.2.2.2.2.2.2.2.1 : (List AttrR))) hy17 .nil)) hx <| TO_on rfl rfl (by simpa using cg15) <| TO_un (v := (enc ((!r_) : Bool))) rfl rfl <| TO_pf rfl cg15 rfl <| TO_nil ?_
          rw [← Option.some.inj hb_b8]
          exact ⟨hs, ⟨rfl, rfl, rfl, trivial⟩⟩
        ·rintro φ s ⟨hs, hF⟩
         rw [← hF.eq]
         refine TO_nil ?_
         split at h
         ·rename_i hcond
          refine TC_cond_t rfl hcond <| TC_seq <| TC_reg <| TO_as (v := (enc (false : Bool))) rfl <| TO_nil <| TC_ret ?_
          rw [← Option.some.inj h]
          exact ⟨rfl, KE1 (a := (false : Bool)) rfl rfl (rfl : is _ (false : Bool)) (rfl : is _ (false : Bool))⟩
         ·rename_i hcond
          refine TC_cond_f rfl hcond <| TC_skip <| TC_seq <| TC_seq <| TC_reg <| TO_as (v := (enc (0 : Int))) rfl <| TO_nil <| TC_block ?_
          obtain ⟨o, hl, h⟩ := bs h
          refine TC_loop (fun (p : Int) φ s => match p with | i => Fx φ [(2, (.ptr m 0)), (3, (.ptr m1 0)), (5, (enc (i : Int)))] ∧ Hp s [(.cells m1 xs1), (.cells m xs)]) (fun (o : (Unit ⊕ Bool)) e φ s => match o with | (.inl _) => e = .exit 0 ∧ Fx φ [(2, (.ptr m 0)), (3, (.ptr m1 0))] ∧ Hp s [(.cells m1 xs1), (.cells m xs)] | (.inr v) => e = .ret ∧ Fx φ [(4, (enc (v : Bool)))]) ?_ hl ⟨⟨rfl, rfl, rfl, trivial⟩, hs⟩ ?_
          ·rintro i o h φ s ⟨hF, hs⟩
           rw [← hF.eq]
           rw [ref_Inode_l1] at h
           refine TC_seq <| TC_seq <| TC_reg <| TO_mv rfl <| TO_fv TTryz.fl38_6 rfl ?_
           replace hs := Hp.front [(.cells m1 xs1)] (b := []) hs
           refine TO_ldV TTryz.ag34 (Sel.succ (Sel.succ (Sel.succ (Sel.succ (Sel.succ (Sel.succ Sel.zero)))))) rfl hxs hs fun y18 hy18 => TO_ln Tryz.underlying34 rfl rfl hy18 <| TO_bi (v := (enc ((decide (i < (a.v.2.2.2.2.2.2.1.length : Int))) : Bool))) rfl rfl rfl <| TO_nil ?_
           split at h
           ·rename_i hcond
            refine TC_cond_t rfl hcond <| TC_skip <| TC_seq <| TC_block <| TC_seq <| TC_drawn (by decide +kernel) (by decide +kernel) <| TO_fv TTryz.fl38_6 rfl <| TO_ldV TTryz.ag34 (Sel.succ (Sel.succ (Sel.succ (Sel.succ (Sel.succ (Sel.succ Sel.zero)))))) rfl hxs hs fun y19 hy19 => TO_mv rfl ?_
            obtain ⟨v1, hx1, h⟩ := bs h
            refine TO_ix Tryz.underlying34 TTryz.sh9 rfl rfl hy19 hx1 fun p hp => TO_ld rfl TTryz.ag9 rfl hp fun y20 hy20 => ?_
            cases hy20
            refine TO_fv TTryz.fl38_6 rfl ?_
            replace hs := Hp.front [(.cells m xs)] (b := []) hs
            refine TO_ldV TTryz.ag34 (Sel.succ (Sel.succ (Sel.succ (Sel.succ (Sel.succ (Sel.succ Sel.zero)))))) rfl hxs1 hs fun y21 hy21 => TO_mv rfl ?_
            obtain ⟨v2, hx2, h⟩ := bs h
            refine TO_ix Tryz.underlying34 TTryz.sh9 rfl rfl hy21 hx2 fun p1 hp1 => TO_ld rfl TTryz.ag9 rfl hp1 fun y22 hy22 => ?_
            cases hy22
            refine TO_bi (v := (enc ((!eqS v1 v2) : Bool))) rfl rfl rfl <| TO_nil ?_
            split at h
            ·rename_i hcond
             refine TC_cond_t rfl hcond <| TC_seq <| TC_reg <| TO_as (v := (enc (false : Bool))) rfl <| TO_nil <| TC_ret ?_
             show if _ then _ else _
             rw [if_neg (by simp)]
             rw [← Option.some.inj h]
             exact ⟨_, rfl, rfl, ⟨rfl, trivial⟩⟩
            ·rename_i hcond
             refine TC_cond_f rfl hcond <| TC_skip <| TC_reg <| TO_mv rfl <| TO_bi (v := (enc ((IntKind.i64.wrap (i + 1)) : Int))) rfl rfl rfl <| TO_as rfl <| TO_nil ?_
             rw [← Option.some.inj h]
             exact ⟨_, rfl, ⟨⟨rfl, rfl, rfl, trivial⟩, hs⟩⟩
           ·rename_i hcond
            refine TC_cond_f rfl hcond <| TC_exit ?_
            rw [← Option.some.inj h]
            exact ⟨_, rfl, rfl, ⟨⟨rfl, rfl, trivial⟩, (Hp.front [(.cells m xs)] (b := []) (Hp.front [] (b := [(.cells m1 xs1)]) hs))⟩⟩
          ·intro e φ s hE
           rcases o with _u | v
           ·obtain ⟨rfl, hF, hs⟩ := hE
            rw [← hF.eq]
            rw [ref_Inode_a1] at h
            show if _ then _ else _
            rw [if_pos rfl]
            refine TC_seq <| TC_seq <| TC_reg <| TO_as (v := (enc (0 : Int))) rfl <| TO_nil <| TC_block ?_
            obtain ⟨o, hl, h⟩ := bs h
            refine TC_loop (fun (p : Int) φ s => match p with | i1 => Fx φ [(2, (.ptr m 0)), (3, (.ptr m1 0)), (6, (enc (i1 : Int)))] ∧ Hp s [(.cells m1 xs1), (.cells m xs)]) (fun (o : (Unit ⊕ Bool)) e φ s => match o with | (.inl _) => e = .exit 2 ∧ Fx φ [] | (.inr v3) => e = .ret ∧ Fx φ [(4, (enc (v3 : Bool)))]) ?_ hl ⟨⟨rfl, rfl, rfl, trivial⟩, hs⟩ ?_
            ·rintro i1 o h φ s ⟨hF, hs⟩
             rw [← hF.eq]
             rw [ref_Inode_l2] at h
             refine TC_seq <| TC_seq <| TC_reg <| TO_mv rfl <| TO_fv TTryz.fl38_7 rfl ?_
             replace hs := Hp.front [(.cells m1 xs1)] (b := []) hs
             refine TO_ldV TTryz.ag35 (Sel.succ (Sel.succ (Sel.succ (Sel.succ (Sel.succ (Sel.succ (Sel.succ Sel.zero))))))) rfl hxs hs fun y23 hy23 => TO_ln Tryz.underlying35 rfl rfl hy23 <| TO_bi (v := (enc ((decide (i1 < (a.v.2.2.2.2.2.2.2.1.length : Int))) : Bool))) rfl rfl rfl <| TO_nil ?_
             split at h
             ·rename_i hcond
              refine TC_cond_t rfl hcond <| TC_skip <| TC_seq <| TC_block <| TC_seq <| TC_drawn (by decide +kernel) (by decide +kernel) <| TO_fv TTryz.fl38_7 rfl <| TO_ldV TTryz.ag35 (Sel.succ (Sel.succ (Sel.succ (Sel.succ (Sel.succ (Sel.succ (Sel.succ Sel.zero))))))) rfl hxs hs fun y24 hy24 => TO_mv rfl ?_
              obtain ⟨v4, hx3, h⟩ := bs h
              refine TO_ix Tryz.underlying35 TTryz.sh3 rfl rfl hy24 hx3 fun p2 hp2 => TO_ld rfl TTryz.ag3 rfl hp2 fun y25 hy25 => ?_
              cases hy25
              refine TO_fv TTryz.fl38_7 rfl ?_
              replace hs := Hp.front [(.cells m xs)] (b := []) hs
              refine TO_ldV TTryz.ag35 (Sel.succ (Sel.succ (Sel.succ (Sel.succ (Sel.succ (Sel.succ (Sel.succ Sel.zero))))))) rfl hxs1 hs fun y26 hy26 => TO_mv rfl ?_
              obtain ⟨v5, hx4, h⟩ := bs h
              refine TO_ix Tryz.underlying35 TTryz.sh3 rfl rfl hy26 hx4 fun p3 hp3 => TO_ld rfl TTryz.ag3 rfl hp3 fun y27 hy27 => ?_
              cases hy27
              refine TO_bi (v := (enc ((v4 != v5) : Bool))) rfl rfl rfl <| TO_nil ?_
              split at h
              ·rename_i hcond
               refine TC_cond_t rfl hcond <| TC_seq <| TC_reg <| TO_as (v := (enc (false : Bool))) rfl <| TO_nil <| TC_ret ?_
               show if _ then _ else _
               rw [if_neg (by simp)]
               rw [← Option.some.inj h]
               exact ⟨_, rfl, rfl, ⟨rfl, trivial⟩⟩
              ·rename_i hcond
               refine TC_cond_f rfl hcond <| TC_skip <| TC_reg <| TO_mv rfl <| TO_bi (v := (enc ((IntKind.i64.wrap (i1 + 1)) : Int))) rfl rfl rfl <| TO_as rfl <| TO_nil ?_
               rw [← Option.some.inj h]
               exact ⟨_, rfl, ⟨⟨rfl, rfl, rfl, trivial⟩, hs⟩⟩
             ·rename_i hcond
              refine TC_cond_f rfl hcond <| TC_exit ?_
              rw [← Option.some.inj h]
              exact ⟨_, rfl, rfl, trivial⟩
            ·intro e φ s hE
             rcases o with _u | v3
             ·obtain ⟨rfl, hF⟩ := hE
              rw [← hF.eq]
              rw [ref_Inode_a2] at h
              show if _ then _ else _
              rw [if_pos rfl]
              refine TC_seq <| TC_reg <| TO_as (v := (enc (true : Bool))) rfl <| TO_nil <| TC_ret ?_
              rw [← Option.some.inj h]
              exact ⟨rfl, KE1 (a := (true : Bool)) rfl rfl (rfl : is _ (true : Bool)) (rfl : is _ (true : Bool))⟩
             ·obtain ⟨rfl, hF⟩ := hE
              rw [← hF.eq]
              rw [ref_Inode_a2] at h
              show if _ then _ else _
              rw [if_neg (by simp)]
              rw [← Option.some.inj h]
              exact ⟨rfl, KE1 (a := (v3 : Bool)) rfl rfl (rfl : is _ (v3 : Bool)) (rfl : is _ (v3 : Bool))⟩
           ·obtain ⟨rfl, hF⟩ := hE
            rw [← hF.eq]
            rw [ref_Inode_a1] at h
            show if _ then _ else _
            rw [if_neg (by simp)]
            rw [← Option.some.inj h]
            exact ⟨rfl, KE1 (a := (v : Bool)) rfl rfl (rfl : is _ (v : Bool)) (rfl : is _ (v : Bool))⟩
theorem ref_Inode_pc : PureC Tryz.prog 29 (fun _ => Fn (fun a : InodeR × InodeR × Unit => ref_Inode a.1 a.2.1)) := fnC pz2_ok ⟨_, Tryz.func29, rfl⟩ <| fun a r h => ref_Inode_wf a.1 a.2.1 r h
noncomputable def pz3 : Prims := pz2.add 29 (Fn (fun a : InodeR × InodeR × Unit => ref_Inode a.1 a.2.1))
theorem pz3_ok : PrimsOk Tryz.prog pz3 := primsOk_add pz2_ok ref_Inode_pc
theorem ref_Same_wf (a : FsR) (b : FsR) (r : Bool) (h : ref_Same a b = some r) : MF Tryz.prog pz3 12 [enc a, enc b] s0 fun v _ => ris v r := by
 refine TF_run [(0, enc a), (1, enc b)] Tryz.func12 rfl (by simp only [Tryz.f12]; rfl) fun ψ => ?_
 unfold ref_Same at h
 refine TC_seq <| TC_reg <| TO_bxR (r := a) rfl (Enc.self a) Hp.nil fun m xs s hxs hs => TO_bxR (r := b) rfl (Enc.self b) hs fun m1 xs1 s hxs1 hs => TO_as (v := (enc (false : Bool))) rfl <| TO_nil <| TC_seq <| TC_seq <| TC_reg <| TO_fv TTryz.fl24_1 rfl ?_
 replace hs := Hp.front [(.cells m1 xs1)] (b := []) hs
 refine TO_ldV TTryz.ag3 (Sel.succ Sel.zero) rfl hxs hs fun y hy => ?_
 cases hy
 refine TO_fv TTryz.fl24_1 rfl ?_
 replace hs := Hp.front [(.cells m xs)] (b := []) hs
 refine TO_ldV TTryz.ag3 (Sel.succ Sel.zero) rfl hxs1 hs fun y1 hy1 => ?_
 cases hy1
 refine TO_bi (v := (enc ((a.v.2.1 != b.v.2.1) : Bool))) rfl rfl rfl <| TO_mv rfl ?_
 obtain ⟨b1, hb_b1, h⟩ := bs h
 refine TO_cut 8 (fun φ s => Hp s [(.cells m1 xs1), (.cells m xs)] ∧ Fx φ [(2, (.ptr m 0)), (3, (.ptr m1 0)), (19, (enc (b1 : Bool)))]) ?_ ?_
 ·split at hb_b1
  ·rename_i cg
   refine TO_off rfl rfl (by simpa using cg) <| TO_off rfl rfl (by simpa using cg) <| TO_off rfl rfl (by simpa using cg) <| TO_off rfl rfl (by simpa using cg) <| TO_off rfl rfl (by simpa using cg) <| TO_off rfl rfl (by simpa using cg) <| TO_off rfl rfl (by simpa using cg) <| TO_pt (v := (enc (true : Bool))) rfl cg rfl <| TO_nil ?_
   rw [← Option.some.inj hb_b1]
   exact ⟨hs, ⟨rfl, rfl, rfl, trivial⟩⟩
  ·rename_i cg1
   refine TO_on rfl rfl (by simpa using cg1) <| TO_fv TTryz.fl24_0 rfl <| TO_on rfl rfl (by simpa using cg1) ?_
   replace hs := Hp.front [(.cells m1 xs1)] (b := []) hs
   refine TO_ldV TTryz.ag22 Sel.zero rfl hxs hs fun y2 hy2 => TO_on rfl rfl (by simpa using cg1) <| TO_ln Tryz.underlying22 rfl rfl hy2 <| TO_on rfl rfl (by simpa using cg1) <| TO_fv TTryz.fl24_0 rfl <| TO_on rfl rfl (by simpa using cg1) ?_
   replace hs := Hp.front [(.cells m xs)] (b := []) hs
   refine TO_ldV TTryz.ag22 Sel.zero rfl hxs1 hs fun y3 hy3 => TO_on rfl rfl (by simpa using cg1) <| TO_ln Tryz.underlying22 rfl rfl hy3 <| TO_on rfl rfl (by simpa using cg1) <| TO_bi (v := (enc (((a.v.1.length : Int) != (b.v.1.length : Int)) : Bool))) rfl rfl rfl <| TO_pf rfl cg1 rfl <| TO_nil ?_
   rw [← Option.some.inj hb_b1]
   exact ⟨hs, ⟨rfl, rfl, rfl, trivial⟩⟩
 ·rintro φ s ⟨hs, hF⟩
  rw [← hF.eq]
  refine TO_nil ?_
  split at h
  ·rename_i hcond
   refine TC_cond_t rfl hcond <| TC_seq <| TC_reg <| TO_as (v := (enc (false : Bool))) rfl <| TO_nil <| TC_ret ?_
   rw [← Option.some.inj h]
   exact ⟨rfl, KE1 (a := (false : Bool)) rfl rfl (rfl : is _ (false : Bool)) (rfl : is _ (false : Bool))⟩
  ·rename_i hcond
   refine TC_cond_f rfl hcond <| TC_skip <| TC_seq <| TC_seq <| TC_reg <| TO_as (v := (enc (0 : Int))) rfl <| TO_nil <| TC_block ?_
   obtain ⟨o, hl, h⟩ := bs h
   refine TC_loop (fun (p : Int) φ s => match p with | i => Fx φ [(2, (.ptr m 0)), (3, (.ptr m1 0)), (5, (enc (i : Int)))] ∧ Hp s [(.cells m1 xs1), (.cells m xs)]) (fun (o : (Unit ⊕ Bool)) e φ s => match o with | (.inl _) => e = .exit 0 ∧ Fx φ [] | (.inr v) => e = .ret ∧ Fx φ [(4, (enc (v : Bool)))]) ?_ hl ⟨⟨rfl, rfl, rfl, trivial⟩, hs⟩ ?_
   ·rintro i o h φ s ⟨hF, hs⟩
    rw [← hF.eq]
    rw [ref_Same_l1] at h
    refine TC_seq <| TC_seq <| TC_reg <| TO_mv rfl <| TO_fv TTryz.fl24_0 rfl ?_
    replace hs := Hp.front [(.cells m1 xs1)] (b := []) hs
    refine TO_ldV TTryz.ag22 Sel.zero rfl hxs hs fun y4 hy4 => TO_ln Tryz.underlying22 rfl rfl hy4 <| TO_bi (v := (enc ((decide (i < (a.v.1.length : Int))) : Bool))) rfl rfl rfl <| TO_nil ?_
    split at h
    ·rename_i hcond
     refine TC_cond_t rfl hcond <| TC_skip <| TC_seq <| TC_block <| TC_seq <| TC_drawn (by decide +kernel) (by decide +kernel) <| TO_fv TTryz.fl24_0 rfl <| TO_ldV TTryz.ag22 Sel.zero rfl hxs hs fun y5 hy5 => TO_mv rfl ?_
     obtain ⟨v1, hx, h⟩ := bs h
     refine TO_ix Tryz.underlying22 TTryz.sh38 rfl rfl hy5 hx fun p hp => TO_ldE TTryz.ag38 TTryz.sz38 rfl hp fun y6 hy6 => TO_fv TTryz.fl24_0 rfl ?_
     replace hs := Hp.front [(.cells m xs)] (b := []) hs
     refine TO_ldV TTryz.ag22 Sel.zero rfl hxs1 hs fun y7 hy7 => TO_mv rfl ?_
     obtain ⟨v2, hx1, h⟩ := bs h
     refine TO_ix Tryz.underlying22 TTryz.sh38 rfl rfl hy7 hx1 fun p1 hp1 => TO_ldE TTryz.ag38 TTryz.sz38 rfl hp1 fun y8 hy8 => ?_
     obtain ⟨r_, hx2, h⟩ := bs h
     refine TO_fn (f := fun a : InodeR × InodeR × Unit => ref_Inode a.1 a.2.1) (a := (v1, v2, ())) rfl Tryz.func29 rfl rfl (.cons (a := (v1 : InodeR)) hy6 (.cons (a := (v2 : InodeR)) hy8 .nil)) hx2 <| TO_un (v := (enc ((!r_) : Bool))) rfl rfl <| TO_nil ?_
     split at h
     ·rename_i hcond
      refine TC_cond_t rfl hcond <| TC_seq <| TC_reg <| TO_as (v := (enc (false : Bool))) rfl <| TO_nil <| TC_ret ?_
      show if _ then _ else _
      rw [if_neg (by simp)]
      rw [← Option.some.inj h]
      exact ⟨_, rfl, rfl, ⟨rfl, trivial⟩⟩
     ·rename_i hcond
      refine TC_cond_f rfl hcond <| TC_skip <| TC_reg <| TO_mv rfl <| TO_bi (v := (enc ((IntKind.i64.wrap (i + 1)) : Int))) rfl rfl rfl <| TO_as rfl <| TO_nil ?_
      rw [← Option.some.inj h]
      exact ⟨_, rfl, ⟨⟨rfl, rfl, rfl, trivial⟩, hs⟩⟩
    ·rename_i hcond
     refine TC_cond_f rfl hcond <| TC_exit ?_
     rw [← Option.some.inj h]
     exact ⟨_, rfl, rfl, trivial⟩
   ·intro e φ s hE
    rcases o with _u | v
    ·obtain ⟨rfl, hF⟩ := hE
     rw [← hF.eq]
     rw [ref_Same_a1] at h
     show if _ then _ else _
     rw [if_pos rfl]
     refine TC_seq <| TC_reg <| TO_as (v := (enc (true : Bool))) rfl <| TO_nil <| TC_ret ?_
     rw [← Option.some.inj h]
     exact ⟨rfl, KE1 (a := (true : Bool)) rfl rfl (rfl : is _ (true : Bool)) (rfl : is _ (true : Bool))⟩
    ·obtain ⟨rfl, hF⟩ := hE
     rw [← hF.eq]
     rw [ref_Same_a1] at h
     show if _ then _ else _
     rw [if_neg (by simp)]
     rw [← Option.some.inj h]
     exact ⟨rfl, KE1 (a := (v : Bool)) rfl rfl (rfl : is _ (v : Bool)) (rfl : is _ (v : Bool))⟩
theorem ref_Same_pc : PureC Tryz.prog 12 (fun _ => Fn (fun a : FsR × FsR × Unit => ref_Same a.1 a.2.1)) := fnC pz3_ok ⟨_, Tryz.func12, rfl⟩ <| fun a r h => ref_Same_wf a.1 a.2.1 r h
noncomputable def pz4 : Prims := pz3.add 12 (Fn (fun a : FsR × FsR × Unit => ref_Same a.1 a.2.1))
theorem pz4_ok : PrimsOk Tryz.prog pz4 := primsOk_add pz3_ok ref_Same_pc
noncomputable def pz30 : Prims := pz4
theorem pz30_ok : PrimsOk Tryz.prog pz30 := pz4_ok
end Go.Ai.Rab
end
