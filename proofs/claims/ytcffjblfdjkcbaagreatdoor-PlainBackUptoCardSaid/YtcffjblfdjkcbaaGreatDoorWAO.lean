/- My own texts DevPgE, one behind the other. -/
import Derived.Test.YtcffjblfdjkcbaaGreatDoorWAE
import Derived.Test.YtcffjblfdjkcbaaGreatDoorWAM
import Derived.Test.YtcffjblfdjkcbaaGreatDoorWAN
/- Functions of the program aS functions of values with types, and that the code answers aS they do. -/
set_option linter.unusedVariables false
set_option linter.unusedSimpArgs false
set_option maxRecDepth 100000
set_option maxHeartbeats 4000000
attribute [local irreducible] Go.Ai.TC Go.Ai.TO Go.Ai.MF Go.Ai.runeAt Go.Ai.runeLen Go.Ai.encR
open Go.Ai.Enc (enc is)
open Go.Ai.Res (res ris)
open Go.Ai.Args (args)
open Go.Ai.Flds (fe fi fk)
namespace Go.Ai

end Go.Ai
namespace Go.Ai.TTryz
open Go.Proofs

end Go.Ai.TTryz
namespace Go.Ai.Rab
open Go.Proofs
noncomputable def plain_Check_l1 (f : FsR) : ((List (Int × Bool)) × Int) → Option (((List (Int × Bool)) × Int) ⊕ ((List (Int × Bool)) ⊕ Bool))
 | (known, v2) => (if (decide (v2 < (f.v.1.length : Int))) then ((nth f.v.1 v2).bind fun v4 => ((plain_right v4).bind fun r_ => ((if (!r_) then some true else ((if (decide (v2 > 0)) then ((nth f.v.1 (IntKind.i64.wrap (v2 - 1))).bind fun v5 => some (decide (v5.v.1 ≥ v4.v.1))) else some false).bind fun b6 => some b6)).bind fun b5 => (if b5 then some (.inr (.inr false)) else some (.inl ((mput known v4.v.1 true), (IntKind.i64.wrap (v2 + 1)))))))) else some (.inr (.inl known)))
noncomputable def plain_Check_l2 (known1 : (List (Int × Bool))) : Int → Option (Unit ⊕ Bool)
 | k => (if (!((mget known1 k).getD false)) then some (.inr false) else some (.inl ()))
noncomputable def plain_Check_l3 (f : FsR) (r_1 : (List (Int × (List Int)))) : Int → Option (Int ⊕ (Unit ⊕ Bool))
 | v7 => (if (decide (v7 < (f.v.1.length : Int))) then ((nth f.v.1 v7).bind fun v9 => ((if (v9.v.2.1 != 2) then some ((((mget r_1 v9.v.1).getD []).length : Int) != v9.v.2.2.2.1) else some false).bind fun b7 => (if b7 then some (.inr (.inr false)) else ((if (v9.v.2.1 == 2) then ((if (decide ((((mget r_1 v9.v.1).getD []).length : Int) > 1)) then some true else ((if (decide ((((mget r_1 v9.v.1).getD []).length : Int) > 0)) then some (v9.v.1 == 1) else some false).bind fun b10 => some b10)).bind fun b9 => ((if b9 then some true else ((plain_ends r_1 v9.v.1 (f.v.1.length : Int)).bind fun r_2 => some (!r_2))).bind fun b11 => some b11)) else some false).bind fun b8 => (if b8 then some (.inr (.inr false)) else some (.inl (IntKind.i64.wrap (v7 + 1)))))))) else some (.inr (.inl ())))
noncomputable def plain_Check_a3 : (Unit ⊕ Bool) → Option (Bool)
 | (.inl _) => some (true)
 | (.inr v8) => some (v8)
noncomputable def plain_Check_a2 (f : FsR) (r_1 : (List (Int × (List Int)))) : (Unit ⊕ Bool) → Option (Bool)
 | (.inl _) => ((loop (plain_Check_l3 f r_1) 0).bind (plain_Check_a3))
 | (.inr v6) => some (v6)
noncomputable def plain_Check_a1 (f : FsR) : ((List (Int × Bool)) ⊕ Bool) → Option (Bool)
 | (.inl known1) => ((plain_ups f).bind fun r_1 => ((mrange r_1 (plain_Check_l2 known1)).bind (plain_Check_a2 f r_1)))
 | (.inr v3) => some (v3)
noncomputable def plain_Check (f : FsR) : Option (Bool) :=
 ((if ((f.v.1.length : Int) == 0) then some true else some (decide ((f.v.1.length : Int) > 512))).bind fun b => ((if b then some true else ((nth f.v.1 0).bind fun v => some (v.v.1 != 1))).bind fun b1 => ((if b1 then some true else ((nth f.v.1 0).bind fun v1 => some (v1.v.2.1 != 2))).bind fun b2 => ((if b2 then some true else some (decide (f.v.2.1 < 2))).bind fun b3 => ((if b3 then some true else some (decide (f.v.2.1 > 513))).bind fun b4 => (if b4 then some (false) else ((loop (plain_Check_l1 f) (([] : (List (Int × Bool))), 0)).bind (plain_Check_a1 f))))))))
noncomputable def plain_directory (f : FsR) (num : Int) : Option (InodeR × (Err 111)) :=
 ((plain_Find f num).bind fun r_ => ((plain_Check f).bind fun r_1 => (if (!r_1) then ((plain_no 2).bind fun r_2 => some ((Rec.mk ((0 : Int), (0 : Int), (0 : Int), (0 : Int), ([] : (List UInt8)), (str []), ([] : (List Str)), ([] : (List Int)), ([] : (List AttrR)), ()) : InodeR), r_2)) else (if (decide (r_ < 0)) then ((plain_no 201).bind fun r_3 => some ((Rec.mk ((0 : Int), (0 : Int), (0 : Int), (0 : Int), ([] : (List UInt8)), (str []), ([] : (List Str)), ([] : (List Int)), ([] : (List AttrR)), ()) : InodeR), r_3)) else ((nth f.v.1 r_).bind fun v => (if (v.v.2.1 != 2) then ((plain_no 203).bind fun r_4 => some ((Rec.mk ((0 : Int), (0 : Int), (0 : Int), (0 : Int), ([] : (List UInt8)), (str []), ([] : (List Str)), ([] : (List Int)), ([] : (List AttrR)), ()) : InodeR), r_4)) else ((nth f.v.1 r_).bind fun v1 => some (v1, (Err.mk none : Err 111)))))))))
noncomputable def plain_with_j2 (v : Int) (out_2 : (List InodeR)) : Option (((List InodeR) × Int) ⊕ (List InodeR)) :=
 some (.inl (out_2, (IntKind.i64.wrap (v + 1))))
noncomputable def plain_with_l1 (l : (List InodeR)) : ((List InodeR) × Int) → Option (((List InodeR) × Int) ⊕ (List InodeR))
 | (out_, v) => (if (decide (v < (l.length : Int))) then ((nth l v).bind fun v1 => ((plain_seek out_ v1.v.1 (Clo.mk () : Clo 57 Unit)).bind fun r_1 => (if r_1.2 then ((nth out_ r_1.1).bind fun v2 => (plain_with_j2 v (out_.set r_1.1.toNat v1))) else ((sl_Insert1 out_ r_1.1 [v1]).bind fun r_2 => (plain_with_j2 v r_2))))) else some (.inr out_))
noncomputable def plain_with_a1 (f : FsR) : (List InodeR) → Option (FsR)
 | out_1 => some ((Rec.mk (out_1, f.v.2.1, ()) : FsR))
noncomputable def plain_with (f : FsR) (l : (List InodeR)) : Option (FsR) :=
 ((sl_Clone1 f.v.1).bind fun r_ => ((loop (plain_with_l1 l) (r_, 0)).bind (plain_with_a1 f)))
noncomputable def plain_put (x : InodeR) (s_ : Str) (num : Int) : Option (InodeR) :=
 ((binS x.v.2.2.2.2.2.2.1 s_).bind fun r_ => ((sl_Clone2 x.v.2.2.2.2.2.2.1).bind fun r_1 => ((sl_Insert2 r_1 r_.1 [s_]).bind fun r_2 => ((sl_Clone3 x.v.2.2.2.2.2.2.2.1).bind fun r_3 => ((sl_Insert3 r_3 r_.1 [num]).bind fun r_4 => some ((Rec.mk (x.v.1, x.v.2.1, x.v.2.2.1, x.v.2.2.2.1, x.v.2.2.2.2.1, x.v.2.2.2.2.2.1, r_2, r_4, x.v.2.2.2.2.2.2.2.2.1, ()) : InodeR)))))))
noncomputable def plain_Lookup (f : FsR) (dir : Int) (s_ : Str) : Option (Int × Int) :=
 ((plain_directory f dir).bind fun r_ => (if r_.2.c.isSome then ((plain_errno r_.2).bind fun r_1 => some (0, r_1)) else ((binS r_.1.v.2.2.2.2.2.2.1 s_).bind fun r_2 => (if (!r_2.2) then some (0, 201) else ((nth r_.1.v.2.2.2.2.2.2.2.1 r_2.1).bind fun v => some (v, 0))))))
noncomputable def plain_Parent (f : FsR) (num : Int) : Option (Int) :=
 ((plain_directory f num).bind fun r_ => (if r_.2.c.isSome then some (0) else ((plain_ups f).bind fun r_1 => (if (decide ((((mget r_1 num).getD []).length : Int) > 0)) then ((nth ((mget r_1 num).getD []) 0).bind fun v => some (v)) else some (0)))))
noncomputable def plain_Make_j2 (v : Int) (x2 : InodeR) : Option ((InodeR × Int) ⊕ InodeR) :=
 some (.inl (x2, (IntKind.i64.wrap (v + 1))))
noncomputable def plain_Make_l1 (f : FsR) : (InodeR × Int) → Option ((InodeR × Int) ⊕ InodeR)
 | (x, v) => (if (decide (v < (f.v.1.length : Int))) then ((nth f.v.1 v).bind fun v1 => (if (v1.v.1 == x.v.1) then (plain_Make_j2 v (Rec.mk ((IntKind.i64.wrap (x.v.1 + 1)), x.v.2.1, x.v.2.2.1, x.v.2.2.2.1, x.v.2.2.2.2.1, x.v.2.2.2.2.2.1, x.v.2.2.2.2.2.2.1, x.v.2.2.2.2.2.2.2.1, x.v.2.2.2.2.2.2.2.2.1, ()) : InodeR)) else (plain_Make_j2 v x))) else some (.inr x))
noncomputable def plain_Make_j3 (f : FsR) (x3 : InodeR) : Option (FsR × Int × Int) :=
 ((plain_right x3).bind fun r_1 => (if (!r_1) then some (f, 0, 2) else ((plain_with f [x3]).bind fun r_2 => some (r_2, x3.v.1, 0))))
noncomputable def plain_Make_a1 (kind : Int) (f : FsR) : InodeR → Option (FsR × Int × Int)
 | x1 => (if (kind == 2) then (plain_Make_j3 f (Rec.mk (x1.v.1, x1.v.2.1, x1.v.2.2.1, 1, x1.v.2.2.2.2.1, x1.v.2.2.2.2.2.1, x1.v.2.2.2.2.2.2.1, x1.v.2.2.2.2.2.2.2.1, x1.v.2.2.2.2.2.2.2.2.1, ()) : InodeR)) else (plain_Make_j3 f x1))
noncomputable def plain_Make (f : FsR) (kind : Int) (mode : Int) (target : Str) : Option (FsR × Int × Int) :=
 ((plain_Check f).bind fun r_ => (if (!r_) then some (f, 0, 2) else (if ((f.v.1.length : Int) == 512) then some (f, 0, 211) else ((loop (plain_Make_l1 f) ((Rec.mk (f.v.2.1, kind, mode, (0 : Int), ([] : (List UInt8)), target, ([] : (List Str)), ([] : (List Int)), ([] : (List AttrR)), ()) : InodeR), 0)).bind (plain_Make_a1 kind f)))))
noncomputable def plain_enter_j1 (f : FsR) (out_ : FsR) : Option (FsR × (Err 111)) :=
 ((plain_Check out_).bind fun r_11 => (if (!r_11) then ((plain_no 2).bind fun r_12 => some (f, r_12)) else some (out_, (Err.mk none : Err 111))))
noncomputable def plain_enter (f : FsR) (dir : Int) (s_ : Str) (num : Int) : Option (FsR × (Err 111)) :=
 ((plain_directory f dir).bind fun r_ => (if r_.2.c.isSome then some (f, r_.2) else ((name_Check s_).bind fun r_1 => (if (r_1 != 0) then ((plain_no r_1).bind fun r_2 => some (f, r_2)) else ((plain_Find f num).bind fun r_3 => ((containsS r_.1.v.2.2.2.2.2.2.1 s_).bind fun r_4 => (if r_4 then ((plain_no 202).bind fun r_5 => some (f, r_5)) else (if (decide (r_3 < 0)) then ((plain_no 201).bind fun r_6 => some (f, r_6)) else ((nth f.v.1 r_3).bind fun v => ((if (v.v.2.1 != 2) then some (v.v.2.2.2.1 == 64) else some false).bind fun b => (if b then ((plain_no 210).bind fun r_7 => some (f, r_7)) else (if ((r_.1.v.2.2.2.2.2.2.1.length : Int) == 128) then ((plain_no 211).bind fun r_8 => some (f, r_8)) else ((plain_put r_.1 s_ num).bind fun r_9 => ((plain_with f [r_9]).bind fun r_10 => (if (v.v.2.1 != 2) then ((plain_with r_10 [(Rec.mk (v.v.1, v.v.2.1, v.v.2.2.1, (IntKind.i64.wrap (v.v.2.2.2.1 + 1)), v.v.2.2.2.2.1, v.v.2.2.2.2.2.1, v.v.2.2.2.2.2.2.1, v.v.2.2.2.2.2.2.2.1, v.v.2.2.2.2.2.2.2.2.1, ()) : InodeR)]).bind fun r_13 => (plain_enter_j1 f r_13)) else (plain_enter_j1 f r_10))))))))))))))))
noncomputable def plain_Enter (f : FsR) (dir : Int) (s_ : Str) (num : Int) : Option (FsR × Int) :=
 ((plain_enter f dir s_ num).bind fun r_ => ((plain_errno r_.2).bind fun r_1 => some (r_.1, r_1)))
noncomputable def plain_Leave (f : FsR) (dir : Int) (s_ : Str) : Option (FsR × Int × Int) :=
 ((plain_Lookup f dir s_).bind fun r_ => (if (r_.2 != 0) then some (f, 0, r_.2) else ((plain_Find f dir).bind fun r_1 => ((nth f.v.1 r_1).bind fun v => ((plain_Find f r_.1).bind fun r_2 => ((nth f.v.1 r_2).bind fun v1 => ((binS v.v.2.2.2.2.2.2.1 s_).bind fun r_3 => ((sl_Clone2 v.v.2.2.2.2.2.2.1).bind fun r_4 => ((sl_Delete2 r_4 r_3.1 (IntKind.i64.wrap (r_3.1 + 1))).bind fun r_5 => ((sl_Clone3 v.v.2.2.2.2.2.2.2.1).bind fun r_6 => ((sl_Delete3 r_6 r_3.1 (IntKind.i64.wrap (r_3.1 + 1))).bind fun r_7 => (if (v1.v.2.1 != 2) then ((plain_with f [(Rec.mk (v.v.1, v.v.2.1, v.v.2.2.1, v.v.2.2.2.1, v.v.2.2.2.2.1, v.v.2.2.2.2.2.1, r_5, r_7, v.v.2.2.2.2.2.2.2.2.1, ()) : InodeR), (Rec.mk (v1.v.1, v1.v.2.1, v1.v.2.2.1, (IntKind.i64.wrap (v1.v.2.2.2.1 - 1)), v1.v.2.2.2.2.1, v1.v.2.2.2.2.2.1, v1.v.2.2.2.2.2.2.1, v1.v.2.2.2.2.2.2.2.1, v1.v.2.2.2.2.2.2.2.2.1, ()) : InodeR)]).bind fun r_8 => some (r_8, r_.1, 0)) else ((plain_with f [(Rec.mk (v.v.1, v.v.2.1, v.v.2.2.1, v.v.2.2.2.1, v.v.2.2.2.2.1, v.v.2.2.2.2.2.1, r_5, r_7, v.v.2.2.2.2.2.2.2.2.1, ()) : InodeR)]).bind fun r_9 => some (r_9, r_.1, 0))))))))))))))
noncomputable def plain_Drop (f : FsR) (num : Int) : Option (FsR × Int) :=
 ((plain_Find f num).bind fun r_ => ((plain_Check f).bind fun r_1 => (if (!r_1) then some (f, 2) else (if (decide (r_ < 0)) then some (f, 201) else ((if (num == 1) then some true else ((nth f.v.1 r_).bind fun v => some (decide ((v.v.2.2.2.2.2.2.1.length : Int) > 0)))).bind fun b => ((if b then some true else ((plain_ups f).bind fun r_2 => some (decide ((((mget r_2 num).getD []).length : Int) > 0)))).bind fun b1 => (if b1 then some (f, 215) else ((sl_Clone1 f.v.1).bind fun r_3 => ((sl_Delete1 r_3 r_ (IntKind.i64.wrap (r_ + 1))).bind fun r_4 => some ((Rec.mk (r_4, f.v.2.1, ()) : FsR), 0))))))))))
theorem plain_Check_wf (mx : Int) (f : FsR) (r : Bool) (h : plain_Check f = some r) : MF Tryz.prog (pv8 mx) 25 [enc f] (sG (NG mx)) fun v _ => ris v r := by
 refine TF_run [(0, enc f)] Tryz.func25 rfl (by simp only [Tryz.f25]; rfl) fun ψ => ?_
 unfold plain_Check at h
 have hs : Hp (sG (NG mx)) [.gl (NG mx)] := Hp.gl0
 refine TC_seq <| TC_reg <| TO_bxR (r := f) rfl (Enc.self f) hs fun m xs s hxs hs => TO_as (v := (enc (false : Bool))) rfl <| TO_nil <| TC_seq <| TC_reg <| TO_fv TTryz.fl24_0 rfl <| TO_ldV TTryz.ag22 Sel.zero rfl hxs hs fun y hy => TO_ln Tryz.underlying22 rfl rfl hy <| TO_as rfl <| TO_nil <| TC_seq <| TC_seq <| TC_reg ?_
 refine TO_mv rfl <| TO_bi (v := (enc (((f.v.1.length : Int) == 0) : Bool))) rfl rfl rfl <| TO_mv rfl ?_
 obtain ⟨b, hb_b, h⟩ := bs h
 refine TO_cut 3 (fun φ s => Hp s [(.cells m xs), (.gl (NG mx))] ∧ Fx φ [(1, (.ptr m 0)), (20, (enc (b : Bool)))]) ?_ ?_
 ·split at hb_b
  ·rename_i cg
   refine TO_off rfl rfl (by simpa using cg) <| TO_off rfl rfl (by simpa using cg) <| TO_pt (v := (enc (true : Bool))) rfl cg rfl <| TO_nil ?_
   rw [← Option.some.inj hb_b]
   exact ⟨hs, ⟨rfl, rfl, trivial⟩⟩
  ·rename_i cg1
   refine TO_on rfl rfl (by simpa using cg1) <| TO_mv rfl <| TO_on rfl rfl (by simpa using cg1) <| TO_bi (v := (enc ((decide ((f.v.1.length : Int) > 512)) : Bool))) rfl rfl rfl <| TO_pf rfl cg1 rfl <| TO_nil ?_
   rw [← Option.some.inj hb_b]
   exact ⟨hs, ⟨rfl, rfl, trivial⟩⟩
 ·rintro φ s ⟨hs, hF⟩
  rw [← hF.eq]
  refine TO_mv rfl ?_
  obtain ⟨b1, hb_b1, h⟩ := bs h
  refine TO_cut 7 (fun φ s => Hp s [(.cells m xs), (.gl (NG mx))] ∧ Fx φ [(1, (.ptr m 0)), (28, (enc (b1 : Bool)))]) ?_ ?_
  ·split at hb_b1
   ·rename_i cg2
    refine TO_off rfl rfl (by simpa using cg2) <| TO_off rfl rfl (by simpa using cg2) <| TO_off rfl rfl (by simpa using cg2) <| TO_off rfl rfl (by simpa using cg2) <| TO_off rfl rfl (by simpa using cg2) <| TO_off rfl rfl (by simpa using cg2) <| TO_pt (v := (enc (true : Bool))) rfl cg2 rfl <| TO_nil ?_
    rw [← Option.some.inj hb_b1]
    exact ⟨hs, ⟨rfl, rfl, trivial⟩⟩
   ·rename_i cg3
    refine TO_on rfl rfl (by simpa using cg3) <| TO_fv TTryz.fl24_0 rfl <| TO_on rfl rfl (by simpa using cg3) <| TO_ldV TTryz.ag22 Sel.zero rfl hxs hs fun y1 hy1 => TO_on rfl rfl (by simpa using cg3) ?_
    obtain ⟨v, hx, hb_b1⟩ := bs hb_b1
    refine TO_ix Tryz.underlying22 TTryz.sh38 rfl rfl hy1 hx fun p hp => TO_on rfl rfl (by simpa using cg3) <| TO_fp TTryz.fl38_0 Sel.zero rfl hp fun p1 hp1 => TO_on rfl rfl (by simpa using cg3) <| TO_ldF TTryz.ag3 rfl hp1 fun y2 hy2 => ?_
    cases hy2
    refine TO_on rfl rfl (by simpa using cg3) <| TO_bi (v := (enc ((v.v.1 != 1) : Bool))) rfl rfl rfl <| TO_pf rfl cg3 rfl <| TO_nil ?_
    rw [← Option.some.inj hb_b1]
    exact ⟨hs, ⟨rfl, rfl, trivial⟩⟩
  ·rintro φ s ⟨hs, hF⟩
   rw [← hF.eq]
   refine TO_mv rfl ?_
   obtain ⟨b2, hb_b2, h⟩ := bs h
   refine TO_cut 7 (fun φ s => Hp s [(.cells m xs), (.gl (NG mx))] ∧ Fx φ [(1, (.ptr m 0)), (36, (enc (b2 : Bool)))]) ?_ ?_
   ·split at hb_b2
    ·rename_i cg4
     refine TO_off rfl rfl (by simpa using cg4) <| TO_off rfl rfl (by simpa using cg4) <| TO_off rfl rfl (by simpa using cg4) <| TO_off rfl rfl (by simpa using cg4) <| TO_off rfl rfl (by simpa using cg4) <| TO_off rfl rfl (by simpa using cg4) <| TO_pt (v := (enc (true : Bool))) rfl cg4 rfl <| TO_nil ?_
     rw [← Option.some.inj hb_b2]
     exact ⟨hs, ⟨rfl, rfl, trivial⟩⟩
    ·rename_i cg5
     refine TO_on rfl rfl (by simpa using cg5) <| TO_fv TTryz.fl24_0 rfl <| TO_on rfl rfl (by simpa using cg5) <| TO_ldV TTryz.ag22 Sel.zero rfl hxs hs fun y3 hy3 => TO_on rfl rfl (by simpa using cg5) ?_
     obtain ⟨v1, hx1, hb_b2⟩ := bs hb_b2
     refine TO_ix Tryz.underlying22 TTryz.sh38 rfl rfl hy3 hx1 fun p2 hp2 => TO_on rfl rfl (by simpa using cg5) <| TO_fp TTryz.fl38_1 (Sel.succ Sel.zero) rfl hp2 fun p3 hp3 => TO_on rfl rfl (by simpa using cg5) <| TO_ldF TTryz.ag25 rfl hp3 fun y4 hy4 => ?_
     cases hy4
     refine TO_on rfl rfl (by simpa using cg5) <| TO_bi (v := (enc ((v1.v.2.1 != 2) : Bool))) rfl rfl rfl <| TO_pf rfl cg5 rfl <| TO_nil ?_
     rw [← Option.some.inj hb_b2]
     exact ⟨hs, ⟨rfl, rfl, trivial⟩⟩
   ·rintro φ s ⟨hs, hF⟩
    rw [← hF.eq]
    refine TO_mv rfl ?_
    obtain ⟨b3, hb_b3, h⟩ := bs h
    refine TO_cut 4 (fun φ s => Hp s [(.cells m xs), (.gl (NG mx))] ∧ Fx φ [(1, (.ptr m 0)), (41, (enc (b3 : Bool)))]) ?_ ?_
    ·split at hb_b3
     ·rename_i cg6
      refine TO_off rfl rfl (by simpa using cg6) <| TO_off rfl rfl (by simpa using cg6) <| TO_off rfl rfl (by simpa using cg6) <| TO_pt (v := (enc (true : Bool))) rfl cg6 rfl <| TO_nil ?_
      rw [← Option.some.inj hb_b3]
      exact ⟨hs, ⟨rfl, rfl, trivial⟩⟩
     ·rename_i cg7
      refine TO_on rfl rfl (by simpa using cg7) <| TO_fv TTryz.fl24_1 rfl <| TO_on rfl rfl (by simpa using cg7) <| TO_ldV TTryz.ag3 (Sel.succ Sel.zero) rfl hxs hs fun y5 hy5 => ?_
      cases hy5
      refine TO_on rfl rfl (by simpa using cg7) <| TO_bi (v := (enc ((decide (f.v.2.1 < 2)) : Bool))) rfl rfl rfl <| TO_pf rfl cg7 rfl <| TO_nil ?_
      rw [← Option.some.inj hb_b3]
      exact ⟨hs, ⟨rfl, rfl, trivial⟩⟩
    ·rintro φ s ⟨hs, hF⟩
     rw [← hF.eq]
     refine TO_mv rfl ?_
     obtain ⟨b4, hb_b4, h⟩ := bs h
     refine TO_cut 4 (fun φ s => Hp s [(.cells m xs), (.gl (NG mx))] ∧ Fx φ [(1, (.ptr m 0)), (46, (enc (b4 : Bool)))]) ?_ ?_
     ·split at hb_b4
      ·rename_i cg8
       refine TO_off rfl rfl (by simpa using cg8) <| TO_off rfl rfl (by simpa using cg8) <| TO_off rfl rfl (by simpa using cg8) <| TO_pt (v := (enc (true : Bool))) rfl cg8 rfl <| TO_nil ?_
       rw [← Option.some.inj hb_b4]
       exact ⟨hs, ⟨rfl, rfl, trivial⟩⟩
      ·rename_i cg9
       refine TO_on rfl rfl (by simpa using cg9) <| TO_fv TTryz.fl24_1 rfl <| TO_on rfl rfl (by simpa using cg9) <| TO_ldV TTryz.ag3 (Sel.succ Sel.zero) rfl hxs hs fun y6 hy6 => ?_
       cases hy6
       refine TO_on rfl rfl (by simpa using cg9) <| TO_bi (v := (enc ((decide (f.v.2.1 > 513)) : Bool))) rfl rfl rfl <| TO_pf rfl cg9 rfl <| TO_nil ?_
       rw [← Option.some.inj hb_b4]
       exact ⟨hs, ⟨rfl, rfl, trivial⟩⟩
     ·rintro φ s ⟨hs, hF⟩
      rw [← hF.eq]
      refine TO_nil ?_
      split at h
      ·rename_i hcond
       refine TC_cond_t rfl hcond <| TC_seq <| TC_reg <| TO_as (v := (enc (false : Bool))) rfl <| TO_nil <| TC_ret ?_
       rw [← Option.some.inj h]
       exact ⟨rfl, KE1 (a := (false : Bool)) rfl rfl (rfl : is _ (false : Bool)) (rfl : is _ (false : Bool))⟩
      ·rename_i hcond
       refine TC_cond_f rfl hcond <| TC_skip <| TC_seq <| TC_reg <| TO_mkM hs fun m1 s hs => ?_
       replace hs : Hp s [(.grp [(m1, .map (emE ([] : (List (Int × Bool)))))]), (.cells m xs), (.gl (NG mx))] := hs
       refine TO_as (v := (.mp m1)) rfl <| TO_nil <| TC_seq <| TC_seq <| TC_reg <| TO_fv TTryz.fl24_0 rfl ?_
       replace hs := Hp.front [(.grp [(m1, .map (emE ([] : (List (Int × Bool)))))])] (b := [(.gl (NG mx))]) hs
       refine TO_ldV TTryz.ag22 Sel.zero rfl hxs hs fun y7 hy7 => TO_ln Tryz.underlying22 rfl rfl hy7 <| TO_mv (v := (enc (0 : Int))) rfl <| TO_nil <| TC_block ?_
       obtain ⟨o, hl, h⟩ := bs h
       refine TC_loop (fun (p : ((List (Int × Bool)) × Int)) φ s => match p with | (known, v2) => Fx φ [(1, (.ptr m 0)), (4, (.mp m1)), (49, y7), (50, (enc ((f.v.1.length : Int) : Int))), (51, (enc (v2 : Int)))] ∧ Hp s [(.cells m xs), (.gl (NG mx)), (.grp [(m1, .map (emE known))])]) (fun (o : ((List (Int × Bool)) ⊕ Bool)) e φ s => match o with | (.inl known1) => e = .exit 0 ∧ Fx φ [(1, (.ptr m 0)), (4, (.mp m1))] ∧ Hp s [(.cells m xs), (.gl (NG mx)), (.grp [(m1, .map (emE known1))])] | (.inr v3) => e = .ret ∧ Fx φ [(2, (enc (v3 : Bool)))] ∧ Hp s [(.gl (NG mx))]) ?_ hl ⟨⟨rfl, rfl, rfl, rfl, rfl, trivial⟩, (Hp.front [(.gl (NG mx)), (.grp [(m1, .map (emE ([] : (List (Int × Bool)))))])] (b := []) (Hp.front [(.grp [(m1, .map (emE ([] : (List (Int × Bool)))))]), (.cells m xs)] (b := []) (Hp.front [(.cells m xs)] (b := [(.gl (NG mx))]) hs)))⟩ ?_
       ·rintro ⟨known, v2⟩ o h φ s ⟨hF, hs⟩
        rw [← hF.eq]
        rw [plain_Check_l1] at h
        refine TC_seq <| TC_reg <| TO_bi (v := (enc ((decide (v2 < (f.v.1.length : Int))) : Bool))) rfl rfl rfl <| TO_nil <| TC_seq ?_
        split at h
        ·rename_i hcond
         refine TC_cond_t rfl hcond <| TC_skip <| TC_seq <| TC_block <| TC_seq <| TC_reg <| TO_mv rfl ?_
         obtain ⟨v4, hx2, h⟩ := bs h
         refine TO_ix Tryz.underlying22 TTryz.sh38 rfl rfl hy7 hx2 fun p4 hp4 => TO_ldE TTryz.ag38 TTryz.sz38 rfl hp4 fun y8 hy8 => TO_alR (r := (Rec.mk ((0 : Int), (0 : Int), (0 : Int), (0 : Int), ([] : (List UInt8)), (str []), ([] : (List Str)), ([] : (List Int)), ([] : (List AttrR)), ()) : InodeR)) TTryz.zr38 TTryz.zf38 hs fun m2 s hs => TO_as rfl <| TO_stR (r := v4) TTryz.sz38 rfl rfl TTryz.zf38 hy8 hs fun xs1 s hxs1 hs => TO_nil <| TC_seq <| TC_seq <| TC_drawn (by decide +kernel) (by kernel_rfl) <| TO_ldW (r := v4) TTryz.ag38 TTryz.sz38 rfl hxs1 hs fun y9 hy9 => ?_
         obtain ⟨r_, hx3, h⟩ := bs h
         refine TO_fnG (f := fun a : InodeR × Unit => plain_right a.1) (a := (v4, ())) rfl Tryz.func27 rfl rfl (.cons (a := (v4 : InodeR)) hy9 .nil) hs (List.mem_cons_of_mem _ (List.mem_cons_of_mem _ List.mem_cons_self)) hx3 <| TO_un (v := (enc ((!r_) : Bool))) rfl rfl <| TO_mv rfl ?_
         obtain ⟨b5, hb_b5, h⟩ := bs h
         refine TO_cut 15 (fun φ s => Hp s [(.cells m2 xs1), (.cells m xs), (.gl (NG mx)), (.grp [(m1, .map (emE known))])] ∧ Fx φ [(1, (.ptr m 0)), (4, (.mp m1)), (6, (.ptr m2 0)), (49, y7), (50, (enc ((f.v.1.length : Int) : Int))), (51, (enc (v2 : Int))), (74, (enc (b5 : Bool)))]) ?_ ?_
         ·split at hb_b5
          ·rename_i cg10
           refine TO_off rfl rfl (by simpa using cg10) <| TO_off rfl rfl (by simpa using cg10) <| TO_off rfl rfl (by simpa using cg10) <| TO_offU rfl rfl <| TO_offU rfl rfl <| TO_offU rfl rfl <| TO_offU rfl rfl <| TO_offU rfl rfl <| TO_offU rfl rfl <| TO_offU rfl rfl <| TO_offU rfl rfl <| TO_offU rfl rfl <| TO_offU rfl rfl <| TO_off rfl rfl (by simpa using cg10) <| TO_pt (v := (enc (true : Bool))) rfl cg10 rfl ?_
           refine TO_nil ?_
           rw [← Option.some.inj hb_b5]
           exact ⟨hs, ⟨rfl, rfl, rfl, rfl, rfl, rfl, rfl, trivial⟩⟩
          ·rename_i cg11
           refine TO_on rfl rfl (by simpa using cg11) <| TO_mv rfl <| TO_on rfl rfl (by simpa using cg11) <| TO_bi (v := (enc ((decide (v2 > 0)) : Bool))) rfl rfl rfl <| TO_on rfl rfl (by simpa using cg11) <| TO_mv rfl ?_
           obtain ⟨b6, hb_b6, hb_b5⟩ := bs hb_b5
           refine TO_cut 11 (fun φ s => Hp s [(.cells m2 xs1), (.cells m xs), (.gl (NG mx)), (.grp [(m1, .map (emE known))])] ∧ Fx φ [(1, (.ptr m 0)), (4, (.mp m1)), (6, (.ptr m2 0)), (49, y7), (50, (enc ((f.v.1.length : Int) : Int))), (51, (enc (v2 : Int))), (59, (enc ((!r_) : Bool))), (73, (enc (b6 : Bool)))]) ?_ ?_
           ·split at hb_b6
            ·rename_i cg12
             refine TO_on rfl rfl cg12 <| TO_fv TTryz.fl24_0 rfl <| TO_on rfl rfl cg12 ?_
             replace hs := Hp.front [(.cells m2 xs1)] (b := [(.gl (NG mx)), (.grp [(m1, .map (emE known))])]) hs
             refine TO_ldV TTryz.ag22 Sel.zero rfl hxs hs fun y10 hy10 => TO_on rfl rfl cg12 <| TO_mv rfl <| TO_on rfl rfl cg12 <| TO_bi (v := (enc ((IntKind.i64.wrap (v2 - 1)) : Int))) rfl rfl rfl <| TO_on rfl rfl cg12 ?_
             obtain ⟨v5, hx4, hb_b6⟩ := bs hb_b6
             refine TO_ix Tryz.underlying22 TTryz.sh38 rfl rfl hy10 hx4 fun p5 hp5 => TO_on rfl rfl cg12 <| TO_fp TTryz.fl38_0 Sel.zero rfl hp5 fun p6 hp6 => TO_on rfl rfl cg12 <| TO_ldF TTryz.ag3 rfl hp6 fun y11 hy11 => ?_
             cases hy11
             refine TO_on rfl rfl cg12 <| TO_fv TTryz.fl38_0 rfl <| TO_on rfl rfl cg12 ?_
             replace hs := Hp.front [(.cells m xs)] (b := [(.gl (NG mx)), (.grp [(m1, .map (emE known))])]) hs
             refine TO_ldV TTryz.ag3 Sel.zero rfl hxs1 hs fun y12 hy12 => ?_
             cases hy12
             refine TO_on rfl rfl cg12 <| TO_bi (v := (enc ((decide (v5.v.1 ≥ v4.v.1)) : Bool))) rfl rfl rfl <| TO_on rfl rfl (by simpa using cg11) <| TO_pt rfl cg12 rfl <| TO_nil ?_
             rw [← Option.some.inj hb_b6]
             exact ⟨hs, ⟨rfl, rfl, rfl, rfl, rfl, rfl, rfl, rfl, trivial⟩⟩
            ·rename_i cg13
             refine TO_off rfl rfl cg13 <| TO_off rfl rfl cg13 <| TO_off rfl rfl cg13 <| TO_off rfl rfl cg13 <| TO_off rfl rfl cg13 <| TO_off rfl rfl cg13 <| TO_off rfl rfl cg13 <| TO_off rfl rfl cg13 <| TO_off rfl rfl cg13 <| TO_off rfl rfl cg13 <| TO_on rfl rfl (by simpa using cg11) <| TO_pf (v := (enc (false : Bool))) rfl cg13 rfl <| TO_nil ?_
             rw [← Option.some.inj hb_b6]
             exact ⟨hs, ⟨rfl, rfl, rfl, rfl, rfl, rfl, rfl, rfl, trivial⟩⟩
           ·rintro φ s ⟨hs, hF⟩
            rw [← hF.eq]
            refine TO_pf rfl cg11 rfl <| TO_nil ?_
            rw [← Option.some.inj hb_b5]
            exact ⟨hs, ⟨rfl, rfl, rfl, rfl, rfl, rfl, rfl, trivial⟩⟩
         ·rintro φ s ⟨hs, hF⟩
          rw [← hF.eq]
          refine TO_nil ?_
          split at h
          ·rename_i hcond
           refine TC_cond_t rfl hcond <| TC_seq <| TC_reg <| TO_as (v := (enc (false : Bool))) rfl <| TO_nil <| TC_ret ?_
           show if _ then _ else _
           rw [if_neg (by simp)]
           rw [← Option.some.inj h]
           exact ⟨_, rfl, rfl, ⟨⟨rfl, trivial⟩, (Hp.drop [(.gl (NG mx))] (b := []) (Hp.drop [] (b := [(.gl (NG mx)), (.grp [(m1, .map (emE known))])]) (Hp.drop [] (b := [(.cells m xs), (.gl (NG mx)), (.grp [(m1, .map (emE known))])]) hs)))⟩⟩
          ·rename_i hcond
           refine TC_cond_f rfl hcond <| TC_skip <| TC_reg <| TO_mv (v := (.mp m1)) rfl <| TO_fv TTryz.fl38_0 rfl <| TO_ldV TTryz.ag3 Sel.zero rfl hxs1 hs fun y13 hy13 => ?_
           cases hy13
           replace hs := Hp.front [(.cells m2 xs1), (.cells m xs), (.gl (NG mx))] (b := []) hs
           refine TO_muE (xs := known) (k := v4.v.1) (v := (true : Bool)) Tryz.underlying90 Tryz.underlying3 rfl rfl rfl hs fun s hs => TO_nil <| TC_reg <| TO_bi (v := (enc ((IntKind.i64.wrap (v2 + 1)) : Int))) rfl rfl rfl <| TO_mv rfl <| TO_nil ?_
           rw [← Option.some.inj h]
           exact ⟨_, rfl, ⟨⟨rfl, rfl, rfl, rfl, rfl, trivial⟩, (Hp.front [(.gl (NG mx)), (.grp [(m1, .map (emE (mput known v4.v.1 true)))])] (b := []) (Hp.front [(.grp [(m1, .map (emE (mput known v4.v.1 true)))]), (.cells m xs)] (b := []) (Hp.front [] (b := [(.cells m xs), (.gl (NG mx))]) (Hp.drop [(.grp [(m1, .map (emE (mput known v4.v.1 true)))])] (b := [(.cells m xs), (.gl (NG mx))]) hs))))⟩⟩
        ·rename_i hcond
         refine TC_cond_f rfl hcond <| TC_exit ?_
         rw [← Option.some.inj h]
         exact ⟨_, rfl, rfl, ⟨⟨rfl, rfl, trivial⟩, hs⟩⟩
       ·intro e φ s hE
        rcases o with known1 | v3
        ·obtain ⟨rfl, hF, hs⟩ := hE
         rw [← hF.eq]
         rw [plain_Check_a1] at h
         show if _ then _ else _
         rw [if_pos rfl]
         refine TC_seq <| TC_reg <| TO_ldW (r := f) TTryz.ag24 TTryz.sz24 rfl hxs hs fun y14 hy14 => ?_
         obtain ⟨r_1, hx5, h⟩ := bs h
         refine TO_callM (by kernel_rfl) Tryz.func32 rfl (vs := [y14]) rfl (MF.any (plain_ups_wf f _ hx5 hy14 (Hp.packG [] [(.cells m xs), (.gl (NG mx)), (.grp [(m1, .map (emE known1))])] hs)) pct_ok) fun w s ⟨en, hm, hq_⟩ => ?_
         replace hs := Hp.unpackG [] [en] [(.cells m xs), (.gl (NG mx)), (.grp [(m1, .map (emE known1))])] hs hq_
         refine TO_as (v := w) rfl <| TO_nil <| TC_seq <| TC_seq <| TC_reg <| TO_mv (v := w) rfl <| TO_rgR (xs := r_1) Tryz.underlying64 rfl hm hs fun m3 ms bs_ ck it s hrm_m3 hu_m3 hln_m3 hnd_m3 hs => TO_nil <| TC_block ?_
         obtain ⟨o, hl, h⟩ := bs h
         refine TC_mr hrm_m3.keys.1 hrm_m3.keys.2 hln_m3 hnd_m3 hl (fun φ => Fx φ [(1, (.ptr m 0)), (4, (.mp m1)), (7, w), (82, (.ptr it 0))]) (fun o e φ s => match o with | .inl _ => e = .exit 2 ∧ ∃ (en1 : En), isMR w en1 r_1 ∧ Fx φ [(1, (.ptr m 0)), (7, w)] ∧ Hp s [(.cells m xs), (.gl (NG mx)), en1] | .inr v6 => e = .ret ∧ Fx φ [(2, (enc (v6 : Bool)))] ∧ Hp s [(.gl (NG mx))]) ?_ ⟨rfl, rfl, rfl, rfl, trivial⟩ hs ?_
         ·intro φ s seen hF hs
          rw [← hF.eq]
          refine TC_seq <| TC_reg ?_
          refine TO_nxM rfl hs (fun hall => ?_) (fun i_ key_ val_ b_ s he_ hb_ hn_ hs => ?_)
          ·refine TO_unR (xs := r_1) hrm_m3 hu_m3 hs fun en2 s hb_en2 hs => ?_
           refine TO_ex rfl rfl <| TO_nil <| TC_seq <| TC_cond_f rfl Bool.false_ne_true <| TC_exit ?_
           exact .inl ⟨hall, rfl, _, hb_en2, ⟨rfl, rfl, trivial⟩, (Hp.front [(.gl (NG mx)), en2] (b := []) (Hp.front [en2, (.cells m xs)] (b := []) (Hp.front [] (b := [(.cells m xs), (.gl (NG mx))]) (Hp.drop [en2, (.cells m xs), (.gl (NG mx))] (b := []) hs))))⟩
          ·obtain ⟨k, x_, rfl, hx_⟩ := mr_each hl hrm_m3 he_
           have h := hx_
           rw [plain_Check_l2] at h
           refine TO_ex rfl rfl <| TO_nil <| TC_seq <| TC_cond_t rfl rfl <| TC_skip <| TC_block <| TC_seq <| TC_reg ?_
           replace hs := (Hp.front [(.grp [(m3, .mapb ms bs_ ck)]), (.grp (toks ms)), (.cells m xs), (.gl (NG mx)), (.grp [(m1, .map (emE known1))])] (b := []) (Hp.front [(.grp (toks ms)), (.cells m xs), (.gl (NG mx)), (.grp [(m1, .map (emE known1))]), (.grp [(it, .miter m3 ck (seen ++ [b_]) ck)])] (b := []) (Hp.front [(.cells m xs), (.gl (NG mx)), (.grp [(m1, .map (emE known1))]), (.grp [(it, .miter m3 ck (seen ++ [b_]) ck)]), (.grp [(m3, .mapb ms bs_ ck)])] (b := []) (Hp.front [(.gl (NG mx)), (.grp [(m1, .map (emE known1))]), (.grp [(it, .miter m3 ck (seen ++ [b_]) ck)]), (.grp [(m3, .mapb ms bs_ ck)]), (.grp (toks ms))] (b := []) (Hp.front [(.grp [(m1, .map (emE known1))]), (.grp [(it, .miter m3 ck (seen ++ [b_]) ck)]), (.grp [(m3, .mapb ms bs_ ck)]), (.grp (toks ms)), (.cells m xs)] (b := []) (Hp.front [(.grp [(it, .miter m3 ck (seen ++ [b_]) ck)]), (.grp [(m3, .mapb ms bs_ ck)]), (.grp (toks ms)), (.cells m xs), (.gl (NG mx))] (b := []) hs))))))
           refine TO_enM rfl hs he_ hb_ <| TO_ex rfl rfl <| TO_as rfl <| TO_nil <| TC_seq <| TC_reg <| TO_mv (v := (.mp m1)) rfl <| TO_mv rfl ?_
           replace hs := Hp.front [(.grp [(it, .miter m3 ck (seen ++ [b_]) ck)]), (.grp [(m3, .mapb ms bs_ ck)]), (.grp (toks ms)), (.cells m xs), (.gl (NG mx))] (b := []) hs
           refine TO_lkE (xs := known1) (k := k) (z := false) Tryz.underlying90 Tryz.underlying3 (by kernel_rfl) rfl rfl hs <| TO_un (v := (enc ((!((mget known1 k).getD false)) : Bool))) rfl rfl <| TO_nil ?_
           split at h
           ·rename_i hcond
            refine TC_cond_t rfl hcond <| TC_seq <| TC_reg <| TO_as (v := (enc (false : Bool))) rfl <| TO_nil <| TC_ret ?_
            show if _ then _ else _
            rw [if_neg (by simp)]
            exact .inr ⟨i_, k, val_, false, he_, hx_.trans h.symm, rfl, ⟨⟨rfl, trivial⟩, (Hp.drop [] (b := [(.gl (NG mx))]) (Hp.drop [] (b := [(.cells m xs), (.gl (NG mx))]) (Hp.drop [] (b := [(.grp (toks ms)), (.cells m xs), (.gl (NG mx))]) (Hp.drop [] (b := [(.grp [(m3, .mapb ms bs_ ck)]), (.grp (toks ms)), (.cells m xs), (.gl (NG mx))]) (Hp.drop [] (b := [(.grp [(it, .miter m3 ck (seen ++ [b_]) ck)]), (.grp [(m3, .mapb ms bs_ ck)]), (.grp (toks ms)), (.cells m xs), (.gl (NG mx))]) hs)))))⟩⟩
           ·rename_i hcond
            refine TC_cond_f rfl hcond <| TC_skip ?_
            exact ⟨i_, k, val_, b_, he_, hb_, hn_, hx_.trans h.symm, ⟨rfl, rfl, rfl, rfl, trivial⟩, (Hp.front [(.grp [(m3, .mapb ms bs_ ck)]), (.grp (toks ms)), (.cells m xs), (.gl (NG mx)), (.grp [(m1, .map (emE known1))])] (b := []) (Hp.front [(.grp (toks ms)), (.cells m xs), (.gl (NG mx)), (.grp [(m1, .map (emE known1))]), (.grp [(it, .miter m3 ck (seen ++ [b_]) ck)])] (b := []) (Hp.front [(.cells m xs), (.gl (NG mx)), (.grp [(m1, .map (emE known1))]), (.grp [(it, .miter m3 ck (seen ++ [b_]) ck)]), (.grp [(m3, .mapb ms bs_ ck)])] (b := []) (Hp.front [(.gl (NG mx)), (.grp [(m1, .map (emE known1))]), (.grp [(it, .miter m3 ck (seen ++ [b_]) ck)]), (.grp [(m3, .mapb ms bs_ ck)]), (.grp (toks ms))] (b := []) (Hp.front [(.grp [(m1, .map (emE known1))]), (.grp [(it, .miter m3 ck (seen ++ [b_]) ck)]), (.grp [(m3, .mapb ms bs_ ck)]), (.grp (toks ms)), (.cells m xs)] (b := []) (Hp.front [] (b := [(.grp [(it, .miter m3 ck (seen ++ [b_]) ck)]), (.grp [(m3, .mapb ms bs_ ck)]), (.grp (toks ms)), (.cells m xs), (.gl (NG mx))]) hs))))))⟩
         ·intro e φ s hE
          rcases o with _ | v6
          ·obtain ⟨rfl, en1, hb_en1, hF, hs⟩ := hE
           rw [← hF.eq]
           rw [plain_Check_a2] at h
           show if _ then _ else _
           rw [if_pos rfl]
           refine TC_seq <| TC_seq <| TC_reg <| TO_fv TTryz.fl24_0 rfl <| TO_ldV TTryz.ag22 Sel.zero rfl hxs hs fun y15 hy15 => TO_ln Tryz.underlying22 rfl rfl hy15 <| TO_mv (v := (enc (0 : Int))) rfl <| TO_nil <| TC_block ?_
           obtain ⟨o, hl, h⟩ := bs h
           refine TC_loop (fun (p : Int) φ s => match p with | v7 => Fx φ [(1, (.ptr m 0)), (7, w), (92, y15), (93, (enc ((f.v.1.length : Int) : Int))), (94, (enc (v7 : Int)))] ∧ Hp s [(.cells m xs), (.gl (NG mx)), en1]) (fun (o : (Unit ⊕ Bool)) e φ s => match o with | (.inl _) => e = .exit 4 ∧ Fx φ [] ∧ Hp s [(.gl (NG mx))] | (.inr v8) => e = .ret ∧ Fx φ [(2, (enc (v8 : Bool)))] ∧ Hp s [(.gl (NG mx))]) ?_ hl ⟨⟨rfl, rfl, rfl, rfl, rfl, trivial⟩, hs⟩ ?_
           ·rintro v7 o h φ s ⟨hF, hs⟩
            rw [← hF.eq]
            rw [plain_Check_l3] at h
            refine TC_seq <| TC_reg <| TO_bi (v := (enc ((decide (v7 < (f.v.1.length : Int))) : Bool))) rfl rfl rfl <| TO_nil <| TC_seq ?_
            split at h
            ·rename_i hcond
             refine TC_cond_t rfl hcond <| TC_skip <| TC_seq <| TC_block <| TC_seq <| TC_reg ?_
             obtain ⟨v9, hx6, h⟩ := bs h
             refine TO_ix Tryz.underlying22 TTryz.sh38 rfl rfl hy15 hx6 fun p7 hp7 => TO_ldE TTryz.ag38 TTryz.sz38 rfl hp7 fun y16 hy16 => TO_alR (r := (Rec.mk ((0 : Int), (0 : Int), (0 : Int), (0 : Int), ([] : (List UInt8)), (str []), ([] : (List Str)), ([] : (List Int)), ([] : (List AttrR)), ()) : InodeR)) TTryz.zr38 TTryz.zf38 hs fun m4 s hs => TO_stR (r := v9) TTryz.sz38 rfl rfl TTryz.zf38 hy16 hs fun xs2 s hxs2 hs => TO_nil <| TC_seq <| TC_reg <| TO_mv (v := w) rfl <| TO_fv TTryz.fl38_0 rfl <| TO_ldV TTryz.ag3 Sel.zero rfl hxs2 hs fun y17 hy17 => ?_
             cases hy17
             replace hs := Hp.front [(.cells m4 xs2), (.cells m xs), (.gl (NG mx))] (b := []) hs
             refine TO_lkR (xs := r_1) (k := v9.v.1) Tryz.underlying64 Tryz.underlying3 (by kernel_rfl) rfl rfl hb_en1 hs fun w1 hw1 => TO_ln Tryz.underlying35 rfl rfl hw1 <| TO_as rfl <| TO_nil <| TC_block <| TC_seq <| TC_reg <| TO_fv TTryz.fl38_1 rfl ?_
             replace hs := Hp.front [en1] (b := [(.cells m xs), (.gl (NG mx))]) hs
             refine TO_ldV TTryz.ag25 (Sel.succ Sel.zero) rfl hxs2 hs fun y18 hy18 => ?_
             cases hy18
             refine TO_bi (v := (enc ((v9.v.2.1 != 2) : Bool))) rfl rfl rfl <| TO_mv rfl ?_
             obtain ⟨b7, hb_b7, h⟩ := bs h
             refine TO_cut 5 (fun φ s => Hp s [(.cells m4 xs2), en1, (.cells m xs), (.gl (NG mx))] ∧ Fx φ [(1, (.ptr m 0)), (7, w), (10, (.ptr m4 0)), (11, (enc ((((mget r_1 v9.v.1).getD []).length : Int) : Int))), (92, y15), (93, (enc ((f.v.1.length : Int) : Int))), (94, (enc (v7 : Int))), (112, (enc (b7 : Bool)))]) ?_ ?_
             ·split at hb_b7
              ·rename_i cg14
               refine TO_on rfl rfl cg14 <| TO_mv rfl <| TO_on rfl rfl cg14 <| TO_fv TTryz.fl38_3 rfl <| TO_on rfl rfl cg14 <| TO_ldV TTryz.ag3 (Sel.succ (Sel.succ (Sel.succ Sel.zero))) rfl hxs2 hs fun y19 hy19 => ?_
               cases hy19
               refine TO_on rfl rfl cg14 <| TO_bi (v := (enc (((((mget r_1 v9.v.1).getD []).length : Int) != v9.v.2.2.2.1) : Bool))) rfl rfl rfl <| TO_pt rfl cg14 rfl <| TO_nil ?_
               rw [← Option.some.inj hb_b7]
               exact ⟨hs, ⟨rfl, rfl, rfl, rfl, rfl, rfl, rfl, rfl, trivial⟩⟩
              ·rename_i cg15
               refine TO_off rfl rfl cg15 <| TO_off rfl rfl cg15 <| TO_off rfl rfl cg15 <| TO_off rfl rfl cg15 <| TO_pf (v := (enc (false : Bool))) rfl cg15 rfl <| TO_nil ?_
               rw [← Option.some.inj hb_b7]
               exact ⟨hs, ⟨rfl, rfl, rfl, rfl, rfl, rfl, rfl, rfl, trivial⟩⟩
             ·rintro φ s ⟨hs, hF⟩
              rw [← hF.eq]
              refine TO_as rfl <| TO_nil ?_
              split at h
              ·rename_i hcond
               refine TC_cond_t rfl hcond <| TC_seq <| TC_reg <| TO_as (v := (enc (false : Bool))) rfl <| TO_nil <| TC_ret ?_
               show if _ then _ else _
               rw [if_neg (by simp)]
               show if _ then _ else _
               rw [if_neg (by simp)]
               rw [← Option.some.inj h]
               exact ⟨_, rfl, rfl, ⟨⟨rfl, trivial⟩, (Hp.drop [] (b := [(.gl (NG mx))]) (Hp.drop [] (b := [(.cells m xs), (.gl (NG mx))]) (Hp.drop [] (b := [en1, (.cells m xs), (.gl (NG mx))]) hs)))⟩⟩
              ·rename_i hcond
               refine TC_cond_f rfl hcond <| TC_seq <| TC_reg <| TO_fv TTryz.fl38_1 rfl <| TO_ldV TTryz.ag25 (Sel.succ Sel.zero) rfl hxs2 hs fun y20 hy20 => ?_
               cases hy20
               refine TO_bi (v := (enc ((v9.v.2.1 == 2) : Bool))) rfl rfl rfl <| TO_mv rfl ?_
               obtain ⟨b8, hb_b8, h⟩ := bs h
               refine TO_cut 22 (fun φ s => Hp s [(.cells m4 xs2), en1, (.cells m xs), (.gl (NG mx))] ∧ Fx φ [(1, (.ptr m 0)), (7, w), (92, y15), (93, (enc ((f.v.1.length : Int) : Int))), (94, (enc (v7 : Int))), (139, (enc (b8 : Bool)))]) ?_ ?_
               ·split at hb_b8
                ·rename_i cg16
                 refine TO_on rfl rfl cg16 <| TO_mv rfl <| TO_on rfl rfl cg16 <| TO_bi (v := (enc ((decide ((((mget r_1 v9.v.1).getD []).length : Int) > 1)) : Bool))) rfl rfl rfl <| TO_on rfl rfl cg16 <| TO_mv rfl ?_
                 obtain ⟨b9, hb_b9, hb_b8⟩ := bs hb_b8
                 refine TO_cut 8 (fun φ s => Hp s [(.cells m4 xs2), en1, (.cells m xs), (.gl (NG mx))] ∧ Fx φ [(1, (.ptr m 0)), (7, w), (10, (.ptr m4 0)), (92, y15), (93, (enc ((f.v.1.length : Int) : Int))), (94, (enc (v7 : Int))), (117, (enc ((v9.v.2.1 == 2) : Bool))), (128, (enc (b9 : Bool)))]) ?_ ?_
                 ·split at hb_b9
                  ·rename_i cg17
                   refine TO_off rfl rfl (by simpa using cg17) <| TO_off rfl rfl (by simpa using cg17) <| TO_off rfl rfl (by simpa using cg17) <| TO_offU rfl rfl <| TO_offU rfl rfl <| TO_offU rfl rfl <| TO_off rfl rfl (by simpa using cg17) <| TO_on rfl rfl cg16 <| TO_pt (v := (enc (true : Bool))) rfl cg17 rfl <| TO_nil ?_
                   rw [← Option.some.inj hb_b9]
                   exact ⟨hs, ⟨rfl, rfl, rfl, rfl, rfl, rfl, rfl, rfl, trivial⟩⟩
                  ·rename_i cg18
                   refine TO_on rfl rfl (by simpa using cg18) <| TO_mv rfl <| TO_on rfl rfl (by simpa using cg18) <| TO_bi (v := (enc ((decide ((((mget r_1 v9.v.1).getD []).length : Int) > 0)) : Bool))) rfl rfl rfl <| TO_on rfl rfl (by simpa using cg18) <| TO_mv rfl ?_
                   obtain ⟨b10, hb_b10, hb_b9⟩ := bs hb_b9
                   refine TO_cut 4 (fun φ s => Hp s [(.cells m4 xs2), en1, (.cells m xs), (.gl (NG mx))] ∧ Fx φ [(1, (.ptr m 0)), (7, w), (10, (.ptr m4 0)), (92, y15), (93, (enc ((f.v.1.length : Int) : Int))), (94, (enc (v7 : Int))), (117, (enc ((v9.v.2.1 == 2) : Bool))), (120, (enc ((decide ((((mget r_1 v9.v.1).getD []).length : Int) > 1)) : Bool))), (127, (enc (b10 : Bool)))]) ?_ ?_
                   ·split at hb_b10
                    ·rename_i cg19
                     refine TO_on rfl rfl cg19 <| TO_fv TTryz.fl38_0 rfl <| TO_on rfl rfl cg19 <| TO_ldV TTryz.ag3 Sel.zero rfl hxs2 hs fun y21 hy21 => ?_
                     cases hy21
                     refine TO_on rfl rfl cg19 <| TO_bi (v := (enc ((v9.v.1 == 1) : Bool))) rfl rfl rfl <| TO_on rfl rfl (by simpa using cg18) <| TO_pt rfl cg19 rfl <| TO_nil ?_
                     rw [← Option.some.inj hb_b10]
                     exact ⟨hs, ⟨rfl, rfl, rfl, rfl, rfl, rfl, rfl, rfl, rfl, trivial⟩⟩
                    ·rename_i cg20
                     refine TO_off rfl rfl cg20 <| TO_off rfl rfl cg20 <| TO_off rfl rfl cg20 <| TO_on rfl rfl (by simpa using cg18) <| TO_pf (v := (enc (false : Bool))) rfl cg20 rfl <| TO_nil ?_
                     rw [← Option.some.inj hb_b10]
                     exact ⟨hs, ⟨rfl, rfl, rfl, rfl, rfl, rfl, rfl, rfl, rfl, trivial⟩⟩
                   ·rintro φ s ⟨hs, hF⟩
                    rw [← hF.eq]
                    refine TO_on rfl rfl cg16 <| TO_pf rfl cg18 rfl <| TO_nil ?_
                    rw [← Option.some.inj hb_b9]
                    exact ⟨hs, ⟨rfl, rfl, rfl, rfl, rfl, rfl, rfl, rfl, trivial⟩⟩
                 ·rintro φ s ⟨hs, hF⟩
                  rw [← hF.eq]
                  refine TO_on rfl rfl cg16 <| TO_mv rfl ?_
                  obtain ⟨b11, hb_b11, hb_b8⟩ := bs hb_b8
                  refine TO_cut 9 (fun φ s => Hp s [(.cells m4 xs2), en1, (.cells m xs), (.gl (NG mx))] ∧ Fx φ [(1, (.ptr m 0)), (7, w), (92, y15), (93, (enc ((f.v.1.length : Int) : Int))), (94, (enc (v7 : Int))), (117, (enc ((v9.v.2.1 == 2) : Bool))), (138, (enc (b11 : Bool)))]) ?_ ?_
                  ·split at hb_b11
                   ·rename_i cg21
                    refine TO_off rfl rfl (by simpa using cg21) <| TO_off rfl rfl (by simpa using cg21) <| TO_off rfl rfl (by simpa using cg21) <| TO_off rfl rfl (by simpa using cg21) <| TO_off rfl rfl (by simpa using cg21) <| TO_off rfl rfl (by simpa using cg21) <| TO_off rfl rfl (by simpa using cg21) <| TO_off rfl rfl (by simpa using cg21) <| TO_on rfl rfl cg16 <| TO_pt (v := (enc (true : Bool))) rfl cg21 rfl <| TO_nil ?_
                    rw [← Option.some.inj hb_b11]
                    exact ⟨hs, ⟨rfl, rfl, rfl, rfl, rfl, rfl, rfl, trivial⟩⟩
                   ·rename_i cg22
                    refine TO_on rfl rfl (by simpa using cg22) <| TO_mv (v := w) rfl <| TO_on rfl rfl (by simpa using cg22) <| TO_fv TTryz.fl38_0 rfl <| TO_on rfl rfl (by simpa using cg22) <| TO_ldV TTryz.ag3 Sel.zero rfl hxs2 hs fun y22 hy22 => ?_
                    cases hy22
                    refine TO_on rfl rfl (by simpa using cg22) <| TO_fv TTryz.fl24_0 rfl <| TO_on rfl rfl (by simpa using cg22) ?_
                    replace hs := Hp.front [(.cells m4 xs2), en1] (b := [(.gl (NG mx))]) hs
                    refine TO_ldV TTryz.ag22 Sel.zero rfl hxs hs fun y23 hy23 => TO_on rfl rfl (by simpa using cg22) <| TO_ln Tryz.underlying22 rfl rfl hy23 <| TO_on rfl rfl (by simpa using cg22) ?_
                    replace hs := Hp.front [(.cells m xs), (.cells m4 xs2)] (b := [(.gl (NG mx))]) hs
                    obtain ⟨r_2, hx7, hb_b11⟩ := bs hb_b11
                    refine TO_callM (by kernel_rfl) Tryz.func53 rfl (vs := [w, (enc (v9.v.1 : Int)), (enc ((f.v.1.length : Int) : Int))]) rfl (MF.any (plain_ends_wf r_1 v9.v.1 (f.v.1.length : Int) _ hx7 hb_en1 (Hp.packG [en1] [(.cells m xs), (.cells m4 xs2), (.gl (NG mx))] hs)) pct_ok) fun w2 s ⟨hm1, hq_⟩ => ?_
                    replace hs := Hp.unpackG [en1] [en1] [(.cells m xs), (.cells m4 xs2), (.gl (NG mx))] hs hq_
                    cases hm1
                    refine TO_on rfl rfl (by simpa using cg22) <| TO_un (v := (enc ((!r_2) : Bool))) rfl rfl <| TO_on rfl rfl cg16 <| TO_pf rfl cg22 rfl <| TO_nil ?_
                    rw [← Option.some.inj hb_b11]
                    exact ⟨(Hp.front [en1, (.cells m xs), (.gl (NG mx))] (b := []) (Hp.front [(.cells m xs), (.gl (NG mx))] (b := [(.cells m4 xs2)]) (Hp.front [(.gl (NG mx)), en1] (b := [(.cells m4 xs2)]) (Hp.front [en1, (.cells m xs), (.cells m4 xs2)] (b := []) hs)))), ⟨rfl, rfl, rfl, rfl, rfl, rfl, rfl, trivial⟩⟩
                  ·rintro φ s ⟨hs, hF⟩
                   rw [← hF.eq]
                   refine TO_pt rfl cg16 rfl <| TO_nil ?_
                   rw [← Option.some.inj hb_b8]
                   exact ⟨hs, ⟨rfl, rfl, rfl, rfl, rfl, rfl, trivial⟩⟩
                ·rename_i cg23
                 refine TO_off rfl rfl cg23 <| TO_off rfl rfl cg23 <| TO_off rfl rfl cg23 <| TO_offU rfl rfl <| TO_offU rfl rfl <| TO_offU rfl rfl <| TO_offU rfl rfl <| TO_offU rfl rfl <| TO_offU rfl rfl <| TO_offU rfl rfl <| TO_off rfl rfl cg23 <| TO_off rfl rfl cg23 <| TO_offU rfl rfl <| TO_offU rfl rfl <| TO_offU rfl rfl ?_
                 refine TO_offU rfl rfl <| TO_offU rfl rfl <| TO_offU rfl rfl <| TO_offU rfl rfl <| TO_offU rfl rfl <| TO_off rfl rfl cg23 <| TO_pf (v := (enc (false : Bool))) rfl cg23 rfl <| TO_nil ?_
                 rw [← Option.some.inj hb_b8]
                 exact ⟨hs, ⟨rfl, rfl, rfl, rfl, rfl, rfl, trivial⟩⟩
               ·rintro φ s ⟨hs, hF⟩
                rw [← hF.eq]
                refine TO_as rfl <| TO_nil ?_
                split at h
                ·rename_i hcond
                 refine TC_cond_t rfl hcond <| TC_seq <| TC_reg <| TO_as (v := (enc (false : Bool))) rfl <| TO_nil <| TC_ret ?_
                 show if _ then _ else _
                 rw [if_neg (by simp)]
                 show if _ then _ else _
                 rw [if_neg (by simp)]
                 rw [← Option.some.inj h]
                 exact ⟨_, rfl, rfl, ⟨⟨rfl, trivial⟩, (Hp.drop [] (b := [(.gl (NG mx))]) (Hp.drop [] (b := [(.cells m xs), (.gl (NG mx))]) (Hp.drop [] (b := [en1, (.cells m xs), (.gl (NG mx))]) hs)))⟩⟩
                ·rename_i hcond
                 refine TC_cond_f rfl hcond <| TC_skip <| TC_reg <| TO_bi (v := (enc ((IntKind.i64.wrap (v7 + 1)) : Int))) rfl rfl rfl <| TO_mv rfl <| TO_nil ?_
                 rw [← Option.some.inj h]
                 exact ⟨_, rfl, ⟨⟨rfl, rfl, rfl, rfl, rfl, trivial⟩, (Hp.front [(.gl (NG mx)), en1] (b := []) (Hp.front [en1, (.cells m xs)] (b := []) (Hp.front [] (b := [(.cells m xs), (.gl (NG mx))]) (Hp.drop [] (b := [en1, (.cells m xs), (.gl (NG mx))]) hs))))⟩⟩
            ·rename_i hcond
             refine TC_cond_f rfl hcond <| TC_exit ?_
             rw [← Option.some.inj h]
             exact ⟨_, rfl, rfl, ⟨trivial, (Hp.drop [(.gl (NG mx))] (b := []) (Hp.drop [] (b := [(.gl (NG mx)), en1]) hs))⟩⟩
           ·intro e φ s hE
            rcases o with _u | v8
            ·obtain ⟨rfl, hF, hs⟩ := hE
             rw [← hF.eq]
             rw [plain_Check_a3] at h
             show if _ then _ else _
             rw [if_pos rfl]
             refine TC_seq <| TC_reg <| TO_as (v := (enc (true : Bool))) rfl <| TO_nil <| TC_ret ?_
             rw [← Option.some.inj h]
             exact ⟨rfl, KE1 (a := (true : Bool)) rfl rfl (rfl : is _ (true : Bool)) (rfl : is _ (true : Bool))⟩
            ·obtain ⟨rfl, hF, hs⟩ := hE
             rw [← hF.eq]
             rw [plain_Check_a3] at h
             show if _ then _ else _
             rw [if_neg (by simp)]
             rw [← Option.some.inj h]
             exact ⟨rfl, KE1 (a := (v8 : Bool)) rfl rfl (rfl : is _ (v8 : Bool)) (rfl : is _ (v8 : Bool))⟩
          ·obtain ⟨rfl, hF, hs⟩ := hE
           rw [← hF.eq]
           rw [plain_Check_a2] at h
           show if _ then _ else _
           rw [if_neg (by simp)]
           rw [← Option.some.inj h]
           exact ⟨rfl, KE1 (a := (v6 : Bool)) rfl rfl (rfl : is _ (v6 : Bool)) (rfl : is _ (v6 : Bool))⟩
        ·obtain ⟨rfl, hF, hs⟩ := hE
         rw [← hF.eq]
         rw [plain_Check_a1] at h
         show if _ then _ else _
         rw [if_neg (by simp)]
         rw [← Option.some.inj h]
         exact ⟨rfl, KE1 (a := (v3 : Bool)) rfl rfl (rfl : is _ (v3 : Bool)) (rfl : is _ (v3 : Bool))⟩
theorem plain_Check_pc (mx : Int) : PureC Tryz.prog 25 (FnG (NG mx) (fun a : FsR × Unit => plain_Check a.1)) := fnCG (pv8_ok mx) ⟨_, Tryz.func25, rfl⟩ <| fun a r h => plain_Check_wf mx a.1 r h
noncomputable def pu1 (mx : Int) : Prims := (pv8 mx).addG 25 (FnG (NG mx) (fun a : FsR × Unit => plain_Check a.1))
theorem pu1_ok (mx : Int) : PrimsOk Tryz.prog (pu1 mx) := primsOk_addG (pv8_ok mx) (plain_Check_pc mx)
theorem plain_directory_wf (mx : Int) (f : FsR) (num : Int) (r : InodeR × (Err 111)) (h : plain_directory f num = some r) : MF Tryz.prog (pu1 mx) 44 [enc f, enc num] (sG (NG mx)) fun v _ => ris v r := by
 refine TF_run [(0, enc f), (1, enc num)] Tryz.func44 rfl (by simp only [Tryz.f44]; rfl) fun ψ => ?_
 unfold plain_directory at h
 have hs : Hp (sG (NG mx)) [.gl (NG mx)] := Hp.gl0
 refine TC_seq <| TC_reg <| TO_bxR (r := f) rfl (Enc.self f) hs fun m xs s hxs hs => TO_alR (r := (Rec.mk ((0 : Int), (0 : Int), (0 : Int), (0 : Int), ([] : (List UInt8)), (str []), ([] : (List Str)), ([] : (List Int)), ([] : (List AttrR)), ()) : InodeR)) TTryz.zr38 TTryz.zf38 hs fun m1 s hs => TO_as (v := .nifc) rfl <| TO_nil <| TC_seq <| TC_reg ?_
 replace hs := Hp.front [(.cells m1 TTryz.zx38)] (b := [(.gl (NG mx))]) hs
 refine TO_ldW (r := f) TTryz.ag24 TTryz.sz24 rfl hxs hs fun y hy => TO_mv rfl ?_
 obtain ⟨r_, hx, h⟩ := bs h
 refine TO_fn (f := fun a : FsR × Int × Unit => plain_Find a.1 a.2.1) (a := (f, num, ())) rfl Tryz.func13 rfl rfl (.cons (a := (f : FsR)) hy (.cons (a := (num : Int)) (Enc.self _) .nil)) hx <| TO_as rfl <| TO_nil <| TC_seq <| TC_block <| TC_seq <| TC_reg <| TO_ldW (r := f) TTryz.ag24 TTryz.sz24 rfl hxs hs fun y1 hy1 => ?_
 obtain ⟨r_1, hx1, h⟩ := bs h
 refine TO_fnG (f := fun a : FsR × Unit => plain_Check a.1) (a := (f, ())) rfl Tryz.func25 rfl rfl (.cons (a := (f : FsR)) hy1 .nil) hs (List.mem_cons_of_mem _ (List.mem_cons_of_mem _ List.mem_cons_self)) hx1 <| TO_un (v := (enc ((!r_1) : Bool))) rfl rfl <| TO_as rfl <| TO_nil ?_
 split at h
 ·rename_i hcond
  refine TC_cond_t rfl hcond <| TC_seq <| TC_reg <| TO_buR (r0 := ((0 : Int), (0 : Int), (0 : Int), (0 : Int), ([] : (List UInt8)), (str []), ([] : (List Str)), ([] : (List Int)), ([] : (List AttrR)), ())) TTryz.bu38 TTryz.zr38 TTryz.zf38 rfl rfl (r := ((0 : Int), (0 : Int), (0 : Int), (0 : Int), ([] : (List UInt8)), (str []), ([] : (List Str)), ([] : (List Int)), ([] : (List AttrR)), ())) .nil fun y2 hy2 => ?_
  obtain ⟨r_2, hx2, h⟩ := bs h
  refine TO_fn (f := fun a : Int × Unit => plain_no a.1) (a := (2, ())) rfl Tryz.func65 rfl rfl (.cons (a := (2 : Int)) (rfl : is _ (2 : Int)) .nil) hx2 ?_
  replace hs := Hp.front [(.cells m xs)] (b := [(.gl (NG mx))]) hs
  refine TO_stR (r := (Rec.mk ((0 : Int), (0 : Int), (0 : Int), (0 : Int), ([] : (List UInt8)), (str []), ([] : (List Str)), ([] : (List Int)), ([] : (List AttrR)), ()) : InodeR)) TTryz.sz38 rfl rfl TTryz.zf38 hy2 hs fun xs1 s hxs1 hs => TO_as rfl <| TO_nil <| TC_ret ?_
  show if _ then _ else _
  rw [if_neg (by simp)]
  obtain ⟨w, hlw, hw⟩ := ldW (r := (Rec.mk ((0 : Int), (0 : Int), (0 : Int), (0 : Int), ([] : (List UInt8)), (str []), ([] : (List Str)), ([] : (List Int)), ([] : (List AttrR)), ()) : InodeR)) TTryz.ag38 TTryz.sz38 hxs1 hs
  rw [← Option.some.inj h]
  exact ⟨rfl, KEc2 (a1 := ((Rec.mk ((0 : Int), (0 : Int), (0 : Int), (0 : Int), ([] : (List UInt8)), (str []), ([] : (List Str)), ([] : (List Int)), ([] : (List AttrR)), ()) : InodeR) : InodeR)) (a2 := (r_2 : (Err 111))) rfl (.cell rfl hlw (.tmp rfl .nil)) hw (Enc.self r_2) ⟨_, _, rfl, hw, (Enc.self r_2)⟩⟩
 ·rename_i hcond
  refine TC_cond_f rfl hcond <| TC_seq <| TC_reg <| TO_mv rfl <| TO_bi (v := (enc ((decide (r_ < 0)) : Bool))) rfl rfl rfl <| TO_as rfl <| TO_nil ?_
  split at h
  ·rename_i hcond
   refine TC_cond_t rfl hcond <| TC_seq <| TC_reg <| TO_buR (r0 := ((0 : Int), (0 : Int), (0 : Int), (0 : Int), ([] : (List UInt8)), (str []), ([] : (List Str)), ([] : (List Int)), ([] : (List AttrR)), ())) TTryz.bu38 TTryz.zr38 TTryz.zf38 rfl rfl (r := ((0 : Int), (0 : Int), (0 : Int), (0 : Int), ([] : (List UInt8)), (str []), ([] : (List Str)), ([] : (List Int)), ([] : (List AttrR)), ())) .nil fun y3 hy3 => ?_
   obtain ⟨r_3, hx3, h⟩ := bs h
   refine TO_fn (f := fun a : Int × Unit => plain_no a.1) (a := (201, ())) rfl Tryz.func65 rfl rfl (.cons (a := (201 : Int)) (rfl : is _ (201 : Int)) .nil) hx3 ?_
   replace hs := Hp.front [(.cells m xs)] (b := [(.gl (NG mx))]) hs
   refine TO_stR (r := (Rec.mk ((0 : Int), (0 : Int), (0 : Int), (0 : Int), ([] : (List UInt8)), (str []), ([] : (List Str)), ([] : (List Int)), ([] : (List AttrR)), ()) : InodeR)) TTryz.sz38 rfl rfl TTryz.zf38 hy3 hs fun xs2 s hxs2 hs => TO_as rfl <| TO_nil <| TC_ret ?_
   show if _ then _ else _
   rw [if_neg (by simp)]
   obtain ⟨w1, hlw1, hw1⟩ := ldW (r := (Rec.mk ((0 : Int), (0 : Int), (0 : Int), (0 : Int), ([] : (List UInt8)), (str []), ([] : (List Str)), ([] : (List Int)), ([] : (List AttrR)), ()) : InodeR)) TTryz.ag38 TTryz.sz38 hxs2 hs
   rw [← Option.some.inj h]
   exact ⟨rfl, KEc2 (a1 := ((Rec.mk ((0 : Int), (0 : Int), (0 : Int), (0 : Int), ([] : (List UInt8)), (str []), ([] : (List Str)), ([] : (List Int)), ([] : (List AttrR)), ()) : InodeR) : InodeR)) (a2 := (r_3 : (Err 111))) rfl (.cell rfl hlw1 (.tmp rfl .nil)) hw1 (Enc.self r_3) ⟨_, _, rfl, hw1, (Enc.self r_3)⟩⟩
  ·rename_i hcond
   refine TC_cond_f rfl hcond <| TC_seq <| TC_reg <| TO_fv TTryz.fl24_0 rfl <| TO_ldV TTryz.ag22 Sel.zero rfl hxs hs fun y4 hy4 => TO_mv rfl ?_
   obtain ⟨v, hx4, h⟩ := bs h
   refine TO_ix Tryz.underlying22 TTryz.sh38 rfl rfl hy4 hx4 fun p hp => TO_fp TTryz.fl38_1 (Sel.succ Sel.zero) rfl hp fun p1 hp1 => TO_ldF TTryz.ag25 rfl hp1 fun y5 hy5 => ?_
   cases hy5
   refine TO_bi (v := (enc ((v.v.2.1 != 2) : Bool))) rfl rfl rfl <| TO_as rfl <| TO_nil ?_
   split at h
   ·rename_i hcond
    refine TC_cond_t rfl hcond <| TC_seq <| TC_reg <| TO_buR (r0 := ((0 : Int), (0 : Int), (0 : Int), (0 : Int), ([] : (List UInt8)), (str []), ([] : (List Str)), ([] : (List Int)), ([] : (List AttrR)), ())) TTryz.bu38 TTryz.zr38 TTryz.zf38 rfl rfl (r := ((0 : Int), (0 : Int), (0 : Int), (0 : Int), ([] : (List UInt8)), (str []), ([] : (List Str)), ([] : (List Int)), ([] : (List AttrR)), ())) .nil fun y6 hy6 => ?_
    obtain ⟨r_4, hx5, h⟩ := bs h
    refine TO_fn (f := fun a : Int × Unit => plain_no a.1) (a := (203, ())) rfl Tryz.func65 rfl rfl (.cons (a := (203 : Int)) (rfl : is _ (203 : Int)) .nil) hx5 ?_
    replace hs := Hp.front [(.cells m xs)] (b := [(.gl (NG mx))]) hs
    refine TO_stR (r := (Rec.mk ((0 : Int), (0 : Int), (0 : Int), (0 : Int), ([] : (List UInt8)), (str []), ([] : (List Str)), ([] : (List Int)), ([] : (List AttrR)), ()) : InodeR)) TTryz.sz38 rfl rfl TTryz.zf38 hy6 hs fun xs3 s hxs3 hs => TO_as rfl <| TO_nil <| TC_ret ?_
    show if _ then _ else _
    rw [if_neg (by simp)]
    obtain ⟨w2, hlw2, hw2⟩ := ldW (r := (Rec.mk ((0 : Int), (0 : Int), (0 : Int), (0 : Int), ([] : (List UInt8)), (str []), ([] : (List Str)), ([] : (List Int)), ([] : (List AttrR)), ()) : InodeR)) TTryz.ag38 TTryz.sz38 hxs3 hs
    rw [← Option.some.inj h]
    exact ⟨rfl, KEc2 (a1 := ((Rec.mk ((0 : Int), (0 : Int), (0 : Int), (0 : Int), ([] : (List UInt8)), (str []), ([] : (List Str)), ([] : (List Int)), ([] : (List AttrR)), ()) : InodeR) : InodeR)) (a2 := (r_4 : (Err 111))) rfl (.cell rfl hlw2 (.tmp rfl .nil)) hw2 (Enc.self r_4) ⟨_, _, rfl, hw2, (Enc.self r_4)⟩⟩
   ·rename_i hcond
    refine TC_cond_f rfl hcond <| TC_skip <| TC_seq <| TC_reg <| TO_fv TTryz.fl24_0 rfl <| TO_ldV TTryz.ag22 Sel.zero rfl hxs hs fun y7 hy7 => TO_mv rfl ?_
    obtain ⟨v1, hx6, h⟩ := bs h
    refine TO_ix Tryz.underlying22 TTryz.sh38 rfl rfl hy7 hx6 fun p2 hp2 => TO_ldE TTryz.ag38 TTryz.sz38 rfl hp2 fun y8 hy8 => ?_
    replace hs := Hp.front [(.cells m xs)] (b := [(.gl (NG mx))]) hs
    refine TO_stR (r := v1) TTryz.sz38 rfl rfl TTryz.zf38 hy8 hs fun xs4 s hxs4 hs => TO_as (v := .nifc) rfl <| TO_nil <| TC_ret ?_
    obtain ⟨w3, hlw3, hw3⟩ := ldW (r := v1) TTryz.ag38 TTryz.sz38 hxs4 hs
    rw [← Option.some.inj h]
    exact ⟨rfl, KEc2 (a1 := (v1 : InodeR)) (a2 := ((Err.mk none : Err 111) : (Err 111))) rfl (.cell rfl hlw3 (.tmp rfl .nil)) hw3 rfl ⟨_, _, rfl, hw3, rfl⟩⟩
theorem plain_directory_pc (mx : Int) : PureC Tryz.prog 44 (FnG (NG mx) (fun a : FsR × Int × Unit => plain_directory a.1 a.2.1)) := fnCG (pu1_ok mx) ⟨_, Tryz.func44, rfl⟩ <| fun a r h => plain_directory_wf mx a.1 a.2.1 r h
noncomputable def pu2 (mx : Int) : Prims := (pu1 mx).addG 44 (FnG (NG mx) (fun a : FsR × Int × Unit => plain_directory a.1 a.2.1))
theorem pu2_ok (mx : Int) : PrimsOk Tryz.prog (pu2 mx) := primsOk_addG (pu1_ok mx) (plain_directory_pc mx)
theorem plain_with_wf (mx : Int) (f : FsR) (l : (List InodeR)) (r : FsR) (h : plain_with f l = some r) : MF Tryz.prog (pu2 mx) 28 [enc f, enc l] (sG (NG mx)) fun v _ => ris v r := by
 refine TF_run [(0, enc f), (1, enc l)] Tryz.func28 rfl (by simp only [Tryz.f28]; rfl) fun ψ => ?_
 unfold plain_with at h
 have hs : Hp (sG (NG mx)) [.gl (NG mx)] := Hp.gl0
 refine TC_seq <| TC_reg <| TO_bxR (r := f) rfl (Enc.self f) hs fun m xs s hxs hs => TO_alR (r := (Rec.mk (([] : (List InodeR)), (0 : Int), ()) : FsR)) TTryz.zr24 TTryz.zf24 hs fun m1 s hs => TO_nil <| TC_seq <| TC_reg <| TO_fv TTryz.fl24_0 rfl ?_
 replace hs := Hp.front [(.cells m1 TTryz.zx24)] (b := [(.gl (NG mx))]) hs
 refine TO_ldV TTryz.ag22 Sel.zero rfl hxs hs fun y hy => ?_
 obtain ⟨r_, hx, h⟩ := bs h
 refine TO_callM (by kernel_rfl) Tryz.func34 rfl (vs := [y]) rfl (MF.any (sl_Clone1_wf f.v.1 _ hx hy (Hp.packG [] [(.cells m xs), (.cells m1 TTryz.zx24), (.gl (NG mx))] hs)) py13_ok) fun w s ⟨en, hm, hq_⟩ => ?_
 replace hs := Hp.unpackG [] [en] [(.cells m xs), (.cells m1 TTryz.zx24), (.gl (NG mx))] hs hq_
 refine TO_as (v := w) rfl <| TO_nil <| TC_seq <| TC_seq <| TC_reg <| TO_mv rfl <| TO_ln Tryz.underlying22 rfl rfl (Enc.self l) <| TO_mv (v := (enc (0 : Int))) rfl <| TO_nil <| TC_block ?_
 obtain ⟨out_1, hl, h⟩ := bs h
 refine TC_loop (fun (p : ((List InodeR) × Int)) φ s => match p with | (out_, v) => ∃ (x_out_ : AV) (en1 : En), isM x_out_ en1 out_ ∧ Fx φ [(2, (.ptr m 0)), (4, (.ptr m1 0)), (5, x_out_), (13, (enc (l : (List InodeR)))), (14, (enc ((l.length : Int) : Int))), (15, (enc (v : Int)))] ∧ Hp s [(.cells m xs), (.cells m1 TTryz.zx24), (.gl (NG mx)), en1]) (fun (o : (List InodeR)) e φ s => match o with | out_1 => e = .exit 0 ∧ ∃ (x_out_1 : AV) (en2 : En), isM x_out_1 en2 out_1 ∧ Fx φ [(2, (.ptr m 0)), (4, (.ptr m1 0)), (5, x_out_1)] ∧ Hp s [(.cells m xs), (.cells m1 TTryz.zx24), (.gl (NG mx)), en2]) ?_ hl ⟨w, en, hm, ⟨rfl, rfl, rfl, rfl, rfl, rfl, trivial⟩, (Hp.front [(.cells m1 TTryz.zx24), (.gl (NG mx)), en] (b := []) (Hp.front [(.gl (NG mx)), en, (.cells m xs)] (b := []) (Hp.front [en, (.cells m xs), (.cells m1 TTryz.zx24)] (b := []) (Hp.front [] (b := [(.cells m xs), (.cells m1 TTryz.zx24), (.gl (NG mx))]) hs))))⟩ ?_
 ·rintro ⟨out_, v⟩ o h φ s ⟨x_out_, en1, hm_x_out_, hF, hs⟩
  rw [← hF.eq]
  rw [plain_with_l1] at h
  refine TC_seq <| TC_reg <| TO_bi (v := (enc ((decide (v < (l.length : Int))) : Bool))) rfl rfl rfl <| TO_nil <| TC_seq ?_
  split at h
  ·rename_i hcond
   refine TC_cond_t rfl hcond <| TC_skip <| TC_cut (fun φ s => ∃ (out_2 : (List InodeR)) (x_out_2 : AV) (en3 : En), isM x_out_2 en3 out_2 ∧ Fx φ [(2, (.ptr m 0)), (4, (.ptr m1 0)), (5, x_out_2), (13, (enc (l : (List InodeR)))), (14, (enc ((l.length : Int) : Int))), (15, (enc (v : Int)))] ∧ Hp s [(.cells m xs), (.cells m1 TTryz.zx24), (.gl (NG mx)), en3] ∧ plain_with_j2 v out_2 = some o) ?_ ?_
   ·refine TC_block ?_
    refine TC_seq <| TC_reg ?_
    obtain ⟨v1, hx1, h⟩ := bs h
    refine TO_ix Tryz.underlying22 TTryz.sh38 rfl rfl (Enc.self l) hx1 fun p hp => TO_ldE TTryz.ag38 TTryz.sz38 rfl hp fun y1 hy1 => TO_alR (r := (Rec.mk ((0 : Int), (0 : Int), (0 : Int), (0 : Int), ([] : (List UInt8)), (str []), ([] : (List Str)), ([] : (List Int)), ([] : (List AttrR)), ()) : InodeR)) TTryz.zr38 TTryz.zf38 hs fun m2 s hs => TO_stR (r := v1) TTryz.sz38 rfl rfl TTryz.zf38 hy1 hs fun xs1 s hxs1 hs => TO_nil <| TC_seq <| TC_reg <| TO_mv (v := x_out_) rfl <| TO_fv TTryz.fl38_0 rfl <| TO_ldV TTryz.ag3 Sel.zero rfl hxs1 hs fun y2 hy2 => ?_
    cases hy2
    replace hs := Hp.front [(.cells m2 xs1), (.cells m xs), (.cells m1 TTryz.zx24), (.gl (NG mx))] (b := []) hs
    obtain ⟨r_1, hx2, h⟩ := bs h
    refine TO_fnB (f := fun a : (List InodeR) × Int × (Clo 57 (Unit)) × Unit => plain_seek a.1 a.2.1 a.2.2.1) (a := (out_, v1.v.1, (Clo.mk () : Clo 57 Unit), ())) rfl Tryz.func56 rfl rfl hm_x_out_ hs (.cons (a := (v1.v.1 : Int)) (Enc.self _) (.cons (a := ((Clo.mk () : Clo 57 Unit) : (Clo 57 Unit))) (Enc.self _) .nil)) rfl hx2 rfl <| TO_mv (v := (res r_1)) rfl <| TO_ex rfl rfl <| TO_ex rfl rfl <| TO_as rfl <| TO_as rfl <| TO_nil <| TC_seq <| TC_reg <| TO_mv rfl <| TO_nil ?_
    split at h
    ·rename_i hcond
     refine TC_cond_t rfl hcond <| TC_reg <| TO_mv (v := x_out_) rfl <| TO_mv rfl ?_
     replace hs := Hp.front [en1] (b := [(.cells m xs), (.cells m1 TTryz.zx24), (.gl (NG mx))]) hs
     refine TO_ldW (r := v1) TTryz.ag38 TTryz.sz38 rfl hxs1 hs fun y3 hy3 => ?_
     obtain ⟨v2, hx3, h⟩ := bs h
     refine TO_ixm Tryz.underlying22 TTryz.sh38 rfl rfl hm_x_out_ (nth_some hx3).1 (nth_some hx3).2.1 fun p1 hp1 => ?_
     replace hs := Hp.front [(.cells m2 xs1)] (b := [(.cells m xs), (.cells m1 TTryz.zx24), (.gl (NG mx))]) hs
     refine TO_stm (a := (v1 : InodeR)) rfl rfl hp1 hm_x_out_ (nth_lt hx3) hy3 TTryz.sz38 hs fun en4 s hm1 hs => TO_nil ?_
     exact ⟨(out_.set r_1.1.toNat v1), x_out_, en4, hm1, ⟨rfl, rfl, rfl, rfl, rfl, rfl, trivial⟩, (Hp.front [(.cells m1 TTryz.zx24), (.gl (NG mx)), en4] (b := []) (Hp.front [(.gl (NG mx)), en4, (.cells m xs)] (b := []) (Hp.front [en4, (.cells m xs), (.cells m1 TTryz.zx24)] (b := []) (Hp.front [] (b := [(.cells m xs), (.cells m1 TTryz.zx24), (.gl (NG mx))]) (Hp.drop [en4] (b := [(.cells m xs), (.cells m1 TTryz.zx24), (.gl (NG mx))]) hs))))), h⟩
    ·rename_i hcond
     refine TC_cond_f rfl hcond <| TC_reg <| TO_mv (v := x_out_) rfl <| TO_mv rfl ?_
     replace hs := Hp.front [en1] (b := [(.cells m xs), (.cells m1 TTryz.zx24), (.gl (NG mx))]) hs
     refine TO_ldW (r := v1) TTryz.ag38 TTryz.sz38 rfl hxs1 hs fun y4 hy4 => TO_bs [y4] ([v1] : (List InodeR)) Tryz.underlying22 TTryz.ef38 rfl rfl rfl (Nat.le_of_ble_eq_true rfl) ⟨hy4, trivial⟩ fun z hz hzc hzn => ?_
     replace hs := Hp.front [(.cells m2 xs1)] (b := [(.cells m xs), (.cells m1 TTryz.zx24), (.gl (NG mx))]) hs
     obtain ⟨r_2, hx4, h⟩ := bs h
     refine TO_callM (by kernel_rfl) Tryz.func58 rfl (vs := [x_out_, (enc (r_1.1 : Int)), z]) rfl (MF.any (sl_Insert1_wf out_ r_1.1 [v1] _ hx4 hm_x_out_ hz (Hp.packG [en1] [(.cells m2 xs1), (.cells m xs), (.cells m1 TTryz.zx24), (.gl (NG mx))] hs)) pz30_ok) fun w1 s ⟨en5, hm2, hq_⟩ => ?_
     replace hs := Hp.unpackG [en1] [en5] [(.cells m2 xs1), (.cells m xs), (.cells m1 TTryz.zx24), (.gl (NG mx))] hs hq_
     refine TO_as (v := w1) rfl <| TO_nil ?_
     exact ⟨r_2, w1, en5, hm2, ⟨rfl, rfl, rfl, rfl, rfl, rfl, trivial⟩, (Hp.front [(.cells m1 TTryz.zx24), (.gl (NG mx)), en5] (b := []) (Hp.front [(.gl (NG mx)), en5, (.cells m xs)] (b := []) (Hp.front [en5, (.cells m xs), (.cells m1 TTryz.zx24)] (b := []) (Hp.front [] (b := [(.cells m xs), (.cells m1 TTryz.zx24), (.gl (NG mx))]) (Hp.drop [en5] (b := [(.cells m xs), (.cells m1 TTryz.zx24), (.gl (NG mx))]) hs))))), h⟩
   ·rintro φ s ⟨out_2, x_out_2, en3, hm_x_out_2, hF, hs, h⟩
    rw [← hF.eq]
    unfold plain_with_j2 at h
    refine TC_reg <| TO_bi (v := (enc ((IntKind.i64.wrap (v + 1)) : Int))) rfl rfl rfl <| TO_mv rfl <| TO_nil ?_
    rw [← Option.some.inj h]
    exact ⟨_, rfl, ⟨x_out_2, en3, hm_x_out_2, ⟨rfl, rfl, rfl, rfl, rfl, rfl, trivial⟩, hs⟩⟩
  ·rename_i hcond
   refine TC_cond_f rfl hcond <| TC_exit ?_
   rw [← Option.some.inj h]
   exact ⟨_, rfl, rfl, ⟨x_out_, en1, hm_x_out_, ⟨rfl, rfl, rfl, trivial⟩, hs⟩⟩
 ·intro e φ s hE
  obtain ⟨rfl, x_out_1, en2, hm_x_out_1, hF, hs⟩ := hE
  rw [← hF.eq]
  rw [plain_with_a1] at h
  show if _ then _ else _
  rw [if_pos rfl]
  refine TC_seq <| TC_reg ?_
  replace hs := Hp.front [(.cells m xs), (.cells m1 TTryz.zx24), (.gl (NG mx))] (b := []) hs
  refine TO_frz (q := 5) rfl hm_x_out_1 hs fun z1 s hz1 hs => TO_mv (v := z1) rfl <| TO_fv TTryz.fl24_1 rfl <| TO_ldV TTryz.ag3 (Sel.succ Sel.zero) rfl hxs hs fun y5 hy5 => ?_
  cases hy5
  refine TO_buR (r0 := (([] : (List InodeR)), (0 : Int), ())) TTryz.bu24 TTryz.zr24 TTryz.zf24 rfl rfl (r := (out_1, f.v.2.1, ())) (.cons (z := (out_1 : (List InodeR))) Sel.zero hz1 (.cons (z := (f.v.2.1 : Int)) (Sel.succ Sel.zero) (rfl : is _ (f.v.2.1 : Int)) .nil)) fun y6 hy6 => ?_
  replace hs := Hp.front [(.cells m xs)] (b := [(.gl (NG mx))]) hs
  refine TO_stR (r := (Rec.mk (out_1, f.v.2.1, ()) : FsR)) TTryz.sz24 rfl rfl TTryz.zf24 hy6 hs fun xs2 s hxs2 hs => TO_nil <| TC_ret ?_
  obtain ⟨w2, hlw2, hw2⟩ := ldW (r := (Rec.mk (out_1, f.v.2.1, ()) : FsR)) TTryz.ag24 TTryz.sz24 hxs2 hs
  rw [← Option.some.inj h]
  exact ⟨rfl, KEc1 (a := ((Rec.mk (out_1, f.v.2.1, ()) : FsR) : FsR)) rfl (.cell rfl hlw2 .nil) hw2 hw2⟩
theorem plain_with_pc (mx : Int) : PureC Tryz.prog 28 (FnG (NG mx) (fun a : FsR × (List InodeR) × Unit => plain_with a.1 a.2.1)) := fnCG (pu2_ok mx) ⟨_, Tryz.func28, rfl⟩ <| fun a r h => plain_with_wf mx a.1 a.2.1 r h
noncomputable def pu3 (mx : Int) : Prims := (pu2 mx).addG 28 (FnG (NG mx) (fun a : FsR × (List InodeR) × Unit => plain_with a.1 a.2.1))
theorem pu3_ok (mx : Int) : PrimsOk Tryz.prog (pu3 mx) := primsOk_addG (pu2_ok mx) (plain_with_pc mx)
theorem plain_put_wf (mx : Int) (x : InodeR) (s_ : Str) (num : Int) (r : InodeR) (h : plain_put x s_ num = some r) : MF Tryz.prog (pu3 mx) 67 [enc x, enc s_, enc num] (sG (NG mx)) fun v _ => ris v r := by
 refine TF_run [(0, enc x), (1, enc s_), (2, enc num)] Tryz.func67 rfl (by simp only [Tryz.f67]; rfl) fun ψ => ?_
 unfold plain_put at h
 have hs : Hp (sG (NG mx)) [.gl (NG mx)] := Hp.gl0
 refine TC_seq <| TC_reg <| TO_bxR (r := x) rfl (Enc.self x) hs fun m xs s hxs hs => TO_alR (r := (Rec.mk ((0 : Int), (0 : Int), (0 : Int), (0 : Int), ([] : (List UInt8)), (str []), ([] : (List Str)), ([] : (List Int)), ([] : (List AttrR)), ()) : InodeR)) TTryz.zr38 TTryz.zf38 hs fun m1 s hs => TO_nil <| TC_seq <| TC_reg <| TO_fv TTryz.fl38_6 rfl ?_
 replace hs := Hp.front [(.cells m1 TTryz.zx38)] (b := [(.gl (NG mx))]) hs
 refine TO_ldV TTryz.ag34 (Sel.succ (Sel.succ (Sel.succ (Sel.succ (Sel.succ (Sel.succ Sel.zero)))))) rfl hxs hs fun y hy => TO_mv rfl ?_
 obtain ⟨r_, hx, h⟩ := bs h
 refine TO_fn (f := fun a : (List Str) × Str × Unit => binS a.1 a.2.1) (a := (x.v.2.2.2.2.2.2.1, s_, ())) rfl Tryz.func45 rfl rfl (.cons (a := (x.v.2.2.2.2.2.2.1 : (List Str))) hy (.cons (a := (s_ : Str)) (Enc.self _) .nil)) hx <| TO_mv (v := (res r_)) rfl <| TO_ex rfl rfl <| TO_ex rfl rfl <| TO_as rfl <| TO_as rfl <| TO_nil <| TC_seq <| TC_reg <| TO_fv TTryz.fl38_6 rfl <| TO_ldV TTryz.ag34 (Sel.succ (Sel.succ (Sel.succ (Sel.succ (Sel.succ (Sel.succ Sel.zero)))))) rfl hxs hs fun y1 hy1 => ?_
 obtain ⟨r_1, hx1, h⟩ := bs h
 refine TO_callM (by kernel_rfl) Tryz.func47 rfl (vs := [y1]) rfl (MF.any (sl_Clone2_wf x.v.2.2.2.2.2.2.1 _ hx1 hy1 (Hp.packG [] [(.cells m xs), (.cells m1 TTryz.zx38), (.gl (NG mx))] hs)) py13_ok) fun w s ⟨en, hm, hq_⟩ => ?_
 replace hs := Hp.unpackG [] [en] [(.cells m xs), (.cells m1 TTryz.zx38), (.gl (NG mx))] hs hq_
 refine TO_mv rfl <| TO_mv rfl <| TO_bs [(enc (s_ : Str))] ([s_] : (List Str)) Tryz.underlying34 TTryz.ef9 rfl rfl rfl (Nat.le_of_ble_eq_true rfl) ⟨(rfl : is _ (s_ : Str)), trivial⟩ fun z hz hzc hzn => ?_
 obtain ⟨r_2, hx2, h⟩ := bs h
 refine TO_callM (by kernel_rfl) Tryz.func89 rfl (vs := [w, (enc (r_.1 : Int)), z]) rfl (MF.any (sl_Insert2_wf r_1 r_.1 [s_] _ hx2 hm hz (Hp.packG [en] [(.cells m xs), (.cells m1 TTryz.zx38), (.gl (NG mx))] hs)) pz30_ok) fun w1 s ⟨en1, hm1, hq_⟩ => ?_
 replace hs := Hp.unpackG [en] [en1] [(.cells m xs), (.cells m1 TTryz.zx38), (.gl (NG mx))] hs hq_
 refine TO_frz (q := 22) rfl hm1 hs fun z1 s hz1 hs => TO_fv TTryz.fl38_6 rfl <| TO_stV (z := (r_2 : (List Str))) TTryz.sz34 (Sel.succ (Sel.succ (Sel.succ (Sel.succ (Sel.succ (Sel.succ Sel.zero)))))) rfl rfl hz1 hxs hs fun xs1 s hxs1 hs => TO_nil <| TC_seq <| TC_reg <| TO_fv TTryz.fl38_7 rfl <| TO_ldV TTryz.ag35 (Sel.succ (Sel.succ (Sel.succ (Sel.succ (Sel.succ (Sel.succ (Sel.succ Sel.zero))))))) rfl hxs1 hs fun y2 hy2 => ?_
 obtain ⟨r_3, hx3, h⟩ := bs h
 refine TO_callM (by kernel_rfl) Tryz.func49 rfl (vs := [y2]) rfl (MF.any (sl_Clone3_wf x.v.2.2.2.2.2.2.2.1 _ hx3 hy2 (Hp.packG [] [(.cells m xs1), (.cells m1 TTryz.zx38), (.gl (NG mx))] hs)) py13_ok) fun w2 s ⟨en2, hm2, hq_⟩ => ?_
 replace hs := Hp.unpackG [] [en2] [(.cells m xs1), (.cells m1 TTryz.zx38), (.gl (NG mx))] hs hq_
 refine TO_mv rfl <| TO_mv rfl <| TO_bs [(enc (num : Int))] ([num] : (List Int)) Tryz.underlying35 TTryz.ef3 rfl rfl rfl (Nat.le_of_ble_eq_true rfl) ⟨(rfl : is _ (num : Int)), trivial⟩ fun z2 hz2 hz2c hz2n => ?_
 obtain ⟨r_4, hx4, h⟩ := bs h
 refine TO_callM (by kernel_rfl) Tryz.func90 rfl (vs := [w2, (enc (r_.1 : Int)), z2]) rfl (MF.any (sl_Insert3_wf r_3 r_.1 [num] _ hx4 hm2 hz2 (Hp.packG [en2] [(.cells m xs1), (.cells m1 TTryz.zx38), (.gl (NG mx))] hs)) pz30_ok) fun w3 s ⟨en3, hm3, hq_⟩ => ?_
 replace hs := Hp.unpackG [en2] [en3] [(.cells m xs1), (.cells m1 TTryz.zx38), (.gl (NG mx))] hs hq_
 refine TO_frz (q := 30) rfl hm3 hs fun z3 s hz3 hs => TO_fv TTryz.fl38_7 rfl <| TO_stV (z := (r_4 : (List Int))) TTryz.sz35 (Sel.succ (Sel.succ (Sel.succ (Sel.succ (Sel.succ (Sel.succ (Sel.succ Sel.zero))))))) rfl rfl hz3 hxs1 hs fun xs2 s hxs2 hs => TO_nil <| TC_seq <| TC_reg <| TO_ldW (r := (Rec.mk (x.v.1, x.v.2.1, x.v.2.2.1, x.v.2.2.2.1, x.v.2.2.2.2.1, x.v.2.2.2.2.2.1, r_2, r_4, x.v.2.2.2.2.2.2.2.2.1, ()) : InodeR)) TTryz.ag38 TTryz.sz38 rfl hxs2 hs fun y3 hy3 => ?_
 replace hs := Hp.front [(.cells m xs2)] (b := [(.gl (NG mx))]) hs
 refine TO_stR (r := (Rec.mk (x.v.1, x.v.2.1, x.v.2.2.1, x.v.2.2.2.1, x.v.2.2.2.2.1, x.v.2.2.2.2.2.1, r_2, r_4, x.v.2.2.2.2.2.2.2.2.1, ()) : InodeR)) TTryz.sz38 rfl rfl TTryz.zf38 hy3 hs fun xs3 s hxs3 hs => TO_nil <| TC_ret ?_
 obtain ⟨w4, hlw4, hw4⟩ := ldW (r := (Rec.mk (x.v.1, x.v.2.1, x.v.2.2.1, x.v.2.2.2.1, x.v.2.2.2.2.1, x.v.2.2.2.2.2.1, r_2, r_4, x.v.2.2.2.2.2.2.2.2.1, ()) : InodeR)) TTryz.ag38 TTryz.sz38 hxs3 hs
 rw [← Option.some.inj h]
 exact ⟨rfl, KEc1 (a := ((Rec.mk (x.v.1, x.v.2.1, x.v.2.2.1, x.v.2.2.2.1, x.v.2.2.2.2.1, x.v.2.2.2.2.2.1, r_2, r_4, x.v.2.2.2.2.2.2.2.2.1, ()) : InodeR) : InodeR)) rfl (.cell rfl hlw4 .nil) hw4 hw4⟩
theorem plain_put_pc (mx : Int) : PureC Tryz.prog 67 (FnG (NG mx) (fun a : InodeR × Str × Int × Unit => plain_put a.1 a.2.1 a.2.2.1)) := fnCG (pu3_ok mx) ⟨_, Tryz.func67, rfl⟩ <| fun a r h => plain_put_wf mx a.1 a.2.1 a.2.2.1 r h
noncomputable def pu4 (mx : Int) : Prims := (pu3 mx).addG 67 (FnG (NG mx) (fun a : InodeR × Str × Int × Unit => plain_put a.1 a.2.1 a.2.2.1))
theorem pu4_ok (mx : Int) : PrimsOk Tryz.prog (pu4 mx) := primsOk_addG (pu3_ok mx) (plain_put_pc mx)
theorem plain_Lookup_wf (mx : Int) (f : FsR) (dir : Int) (s_ : Str) (r : Int × Int) (h : plain_Lookup f dir s_ = some r) : MF Tryz.prog (pu4 mx) 18 [enc f, enc dir, enc s_] (sG (NG mx)) fun v _ => ris v r := by
 refine TF_run [(0, enc f), (1, enc dir), (2, enc s_)] Tryz.func18 rfl (by simp only [Tryz.f18]; rfl) fun ψ => ?_
 unfold plain_Lookup at h
 have hs : Hp (sG (NG mx)) [.gl (NG mx)] := Hp.gl0
 refine TC_seq <| TC_reg <| TO_bxR (r := f) rfl (Enc.self f) hs fun m xs s hxs hs => TO_as (v := (enc (0 : Int))) rfl <| TO_as (v := (enc (0 : Int))) rfl <| TO_nil <| TC_seq <| TC_reg <| TO_ldW (r := f) TTryz.ag24 TTryz.sz24 rfl hxs hs fun y hy => TO_mv rfl ?_
 obtain ⟨r_, hx, h⟩ := bs h
 refine TO_fnG (f := fun a : FsR × Int × Unit => plain_directory a.1 a.2.1) (a := (f, dir, ())) rfl Tryz.func44 rfl rfl (.cons (a := (f : FsR)) hy (.cons (a := (dir : Int)) (Enc.self _) .nil)) hs (List.mem_cons_of_mem _ List.mem_cons_self) hx <| TO_mv (v := (res r_)) rfl <| TO_ex rfl rfl <| TO_ex rfl rfl <| TO_alR (r := (Rec.mk ((0 : Int), (0 : Int), (0 : Int), (0 : Int), ([] : (List UInt8)), (str []), ([] : (List Str)), ([] : (List Int)), ([] : (List AttrR)), ()) : InodeR)) TTryz.zr38 TTryz.zf38 hs fun m1 s hs => TO_stR (r := r_.1) TTryz.sz38 rfl rfl TTryz.zf38 (Enc.self r_.1) hs fun xs1 s hxs1 hs => TO_as rfl <| TO_nil <| TC_seq <| TC_seq <| TC_reg <| TO_mv rfl <| TO_neE (r := r_.2) Tryz.underlying70 rfl (Enc.self r_.2) <| TO_nil ?_
 split at h
 ·rename_i hcond
  refine TC_cond_t rfl hcond <| TC_seq <| TC_reg <| TO_mv rfl ?_
  obtain ⟨r_1, hx1, h⟩ := bs h
  refine TO_fnG (f := fun a : (Err 111) × Unit => plain_errno a.1) (a := (r_.2, ())) rfl Tryz.func40 rfl rfl (.cons (a := (r_.2 : (Err 111))) (Enc.self r_.2) .nil) hs (List.mem_cons_of_mem _ (List.mem_cons_of_mem _ List.mem_cons_self)) hx1 <| TO_as (v := (enc (0 : Int))) rfl <| TO_as rfl <| TO_nil <| TC_ret ?_
  rw [← Option.some.inj h]
  exact ⟨rfl, KE2 (a1 := (0 : Int)) (a2 := (r_1 : Int)) rfl rfl rfl (rfl : is _ (0 : Int)) (rfl : is _ (r_1 : Int)) ⟨_, _, rfl, (rfl : is _ (0 : Int)), (rfl : is _ (r_1 : Int))⟩⟩
 ·rename_i hcond
  refine TC_cond_f rfl hcond <| TC_skip <| TC_seq <| TC_reg <| TO_fv TTryz.fl38_6 rfl <| TO_ldV TTryz.ag34 (Sel.succ (Sel.succ (Sel.succ (Sel.succ (Sel.succ (Sel.succ Sel.zero)))))) rfl hxs1 hs fun y1 hy1 => TO_mv rfl ?_
  obtain ⟨r_2, hx2, h⟩ := bs h
  refine TO_fn (f := fun a : (List Str) × Str × Unit => binS a.1 a.2.1) (a := (r_.1.v.2.2.2.2.2.2.1, s_, ())) rfl Tryz.func45 rfl rfl (.cons (a := (r_.1.v.2.2.2.2.2.2.1 : (List Str))) hy1 (.cons (a := (s_ : Str)) (Enc.self _) .nil)) hx2 <| TO_mv (v := (res r_2)) rfl <| TO_ex rfl rfl <| TO_ex rfl rfl <| TO_as rfl <| TO_as rfl <| TO_nil <| TC_seq <| TC_seq <| TC_reg <| TO_mv rfl <| TO_un (v := (enc ((!r_2.2) : Bool))) rfl rfl <| TO_nil ?_
  split at h
  ·rename_i hcond
   refine TC_cond_t rfl hcond <| TC_seq <| TC_reg <| TO_as (v := (enc (0 : Int))) rfl <| TO_as (v := (enc (201 : Int))) rfl <| TO_nil <| TC_ret ?_
   rw [← Option.some.inj h]
   exact ⟨rfl, KE2 (a1 := (0 : Int)) (a2 := (201 : Int)) rfl rfl rfl (rfl : is _ (0 : Int)) (rfl : is _ (201 : Int)) ⟨_, _, rfl, (rfl : is _ (0 : Int)), (rfl : is _ (201 : Int))⟩⟩
  ·rename_i hcond
   refine TC_cond_f rfl hcond <| TC_skip <| TC_seq <| TC_reg <| TO_fv TTryz.fl38_7 rfl <| TO_ldV TTryz.ag35 (Sel.succ (Sel.succ (Sel.succ (Sel.succ (Sel.succ (Sel.succ (Sel.succ Sel.zero))))))) rfl hxs1 hs fun y2 hy2 => TO_mv rfl ?_
   obtain ⟨v, hx3, h⟩ := bs h
   refine TO_ix Tryz.underlying35 TTryz.sh3 rfl rfl hy2 hx3 fun p hp => TO_ld rfl TTryz.ag3 rfl hp fun y3 hy3 => ?_
   cases hy3
   refine TO_as rfl <| TO_as (v := (enc (0 : Int))) rfl <| TO_nil <| TC_ret ?_
   rw [← Option.some.inj h]
   exact ⟨rfl, KE2 (a1 := (v : Int)) (a2 := (0 : Int)) rfl rfl rfl (rfl : is _ (v : Int)) (rfl : is _ (0 : Int)) ⟨_, _, rfl, (rfl : is _ (v : Int)), (rfl : is _ (0 : Int))⟩⟩
theorem plain_Lookup_pc (mx : Int) : PureC Tryz.prog 18 (FnG (NG mx) (fun a : FsR × Int × Str × Unit => plain_Lookup a.1 a.2.1 a.2.2.1)) := fnCG (pu4_ok mx) ⟨_, Tryz.func18, rfl⟩ <| fun a r h => plain_Lookup_wf mx a.1 a.2.1 a.2.2.1 r h
noncomputable def pu5 (mx : Int) : Prims := (pu4 mx).addG 18 (FnG (NG mx) (fun a : FsR × Int × Str × Unit => plain_Lookup a.1 a.2.1 a.2.2.1))
theorem pu5_ok (mx : Int) : PrimsOk Tryz.prog (pu5 mx) := primsOk_addG (pu4_ok mx) (plain_Lookup_pc mx)
theorem plain_Parent_wf (mx : Int) (f : FsR) (num : Int) (r : Int) (h : plain_Parent f num = some r) : MF Tryz.prog (pu5 mx) 20 [enc f, enc num] (sG (NG mx)) fun v _ => ris v r := by
 refine TF_run [(0, enc f), (1, enc num)] Tryz.func20 rfl (by simp only [Tryz.f20]; rfl) fun ψ => ?_
 unfold plain_Parent at h
 have hs : Hp (sG (NG mx)) [.gl (NG mx)] := Hp.gl0
 refine TC_seq <| TC_reg <| TO_bxR (r := f) rfl (Enc.self f) hs fun m xs s hxs hs => TO_as (v := (enc (0 : Int))) rfl <| TO_nil <| TC_seq <| TC_seq <| TC_reg <| TO_ldW (r := f) TTryz.ag24 TTryz.sz24 rfl hxs hs fun y hy => TO_mv rfl ?_
 obtain ⟨r_, hx, h⟩ := bs h
 refine TO_fnG (f := fun a : FsR × Int × Unit => plain_directory a.1 a.2.1) (a := (f, num, ())) rfl Tryz.func44 rfl rfl (.cons (a := (f : FsR)) hy (.cons (a := (num : Int)) (Enc.self _) .nil)) hs (List.mem_cons_of_mem _ List.mem_cons_self) hx <| TO_mv (v := (res r_)) rfl <| TO_ex rfl rfl <| TO_ex rfl rfl <| TO_alR (r := (Rec.mk ((0 : Int), (0 : Int), (0 : Int), (0 : Int), ([] : (List UInt8)), (str []), ([] : (List Str)), ([] : (List Int)), ([] : (List AttrR)), ()) : InodeR)) TTryz.zr38 TTryz.zf38 hs fun m1 s hs => TO_stR (r := r_.1) TTryz.sz38 rfl rfl TTryz.zf38 (Enc.self r_.1) hs fun xs1 s hxs1 hs => TO_as rfl <| TO_nil <| TC_seq <| TC_reg <| TO_mv rfl <| TO_neE (r := r_.2) Tryz.underlying70 rfl (Enc.self r_.2) <| TO_nil ?_
 split at h
 ·rename_i hcond
  refine TC_cond_t rfl hcond <| TC_seq <| TC_reg <| TO_as (v := (enc (0 : Int))) rfl <| TO_nil <| TC_ret ?_
  rw [← Option.some.inj h]
  exact ⟨rfl, KE1 (a := (0 : Int)) rfl rfl (rfl : is _ (0 : Int)) (rfl : is _ (0 : Int))⟩
 ·rename_i hcond
  refine TC_cond_f rfl hcond <| TC_skip <| TC_seq <| TC_seq <| TC_reg ?_
  replace hs := Hp.front [(.cells m1 xs1)] (b := [(.gl (NG mx))]) hs
  refine TO_ldW (r := f) TTryz.ag24 TTryz.sz24 rfl hxs hs fun y1 hy1 => ?_
  obtain ⟨r_1, hx1, h⟩ := bs h
  refine TO_callM (by kernel_rfl) Tryz.func32 rfl (vs := [y1]) rfl (MF.any (plain_ups_wf f _ hx1 hy1 (Hp.packG [] [(.cells m xs), (.cells m1 xs1), (.gl (NG mx))] hs)) pct_ok) fun w s ⟨en, hm, hq_⟩ => ?_
  replace hs := Hp.unpackG [] [en] [(.cells m xs), (.cells m1 xs1), (.gl (NG mx))] hs hq_
  refine TO_mv rfl <| TO_lkR (xs := r_1) (k := num) Tryz.underlying64 Tryz.underlying3 (by kernel_rfl) rfl rfl hm hs fun w1 hw1 => TO_as (v := w1) rfl <| TO_nil <| TC_seq <| TC_reg <| TO_mv (v := w1) rfl <| TO_ln Tryz.underlying35 rfl rfl hw1 <| TO_bi (v := (enc ((decide ((((mget r_1 num).getD []).length : Int) > 0)) : Bool))) rfl rfl rfl <| TO_nil ?_
  split at h
  ·rename_i hcond
   refine TC_cond_t rfl hcond <| TC_seq <| TC_reg <| TO_mv (v := w1) rfl ?_
   obtain ⟨v, hx2, h⟩ := bs h
   refine TO_ix Tryz.underlying35 TTryz.sh3 rfl rfl hw1 hx2 fun p hp => TO_ld rfl TTryz.ag3 rfl hp fun y2 hy2 => ?_
   cases hy2
   refine TO_as rfl <| TO_nil <| TC_ret ?_
   rw [← Option.some.inj h]
   exact ⟨rfl, KE1 (a := (v : Int)) rfl rfl (rfl : is _ (v : Int)) (rfl : is _ (v : Int))⟩
  ·rename_i hcond
   refine TC_cond_f rfl hcond <| TC_skip <| TC_seq <| TC_reg <| TO_as (v := (enc (0 : Int))) rfl <| TO_nil <| TC_ret ?_
   rw [← Option.some.inj h]
   exact ⟨rfl, KE1 (a := (0 : Int)) rfl rfl (rfl : is _ (0 : Int)) (rfl : is _ (0 : Int))⟩
theorem plain_Parent_pc (mx : Int) : PureC Tryz.prog 20 (FnG (NG mx) (fun a : FsR × Int × Unit => plain_Parent a.1 a.2.1)) := fnCG (pu5_ok mx) ⟨_, Tryz.func20, rfl⟩ <| fun a r h => plain_Parent_wf mx a.1 a.2.1 r h
noncomputable def pu6 (mx : Int) : Prims := (pu5 mx).addG 20 (FnG (NG mx) (fun a : FsR × Int × Unit => plain_Parent a.1 a.2.1))
theorem pu6_ok (mx : Int) : PrimsOk Tryz.prog (pu6 mx) := primsOk_addG (pu5_ok mx) (plain_Parent_pc mx)
theorem plain_Make_wf (mx : Int) (f : FsR) (kind : Int) (mode : Int) (target : Str) (r : FsR × Int × Int) (h : plain_Make f kind mode target = some r) : MF Tryz.prog (pu6 mx) 11 [enc f, enc kind, enc mode, enc target] (sG (NG mx)) fun v _ => ris v r := by
 refine TF_run [(0, enc f), (1, enc kind), (2, enc mode), (3, enc target)] Tryz.func11 rfl (by simp only [Tryz.f11]; rfl) fun ψ => ?_
 unfold plain_Make at h
 have hs : Hp (sG (NG mx)) [.gl (NG mx)] := Hp.gl0
 refine TC_seq <| TC_reg <| TO_bxR (r := f) rfl (Enc.self f) hs fun m xs s hxs hs => TO_alR (r := (Rec.mk (([] : (List InodeR)), (0 : Int), ()) : FsR)) TTryz.zr24 TTryz.zf24 hs fun m1 s hs => TO_as (v := (enc (0 : Int))) rfl <| TO_as (v := (enc (0 : Int))) rfl <| TO_nil <| TC_seq <| TC_block <| TC_seq <| TC_reg ?_
 replace hs := Hp.front [(.cells m1 TTryz.zx24)] (b := [(.gl (NG mx))]) hs
 refine TO_ldW (r := f) TTryz.ag24 TTryz.sz24 rfl hxs hs fun y hy => ?_
 obtain ⟨r_, hx, h⟩ := bs h
 refine TO_fnG (f := fun a : FsR × Unit => plain_Check a.1) (a := (f, ())) rfl Tryz.func25 rfl rfl (.cons (a := (f : FsR)) hy .nil) hs (List.mem_cons_of_mem _ (List.mem_cons_of_mem _ List.mem_cons_self)) hx <| TO_un (v := (enc ((!r_) : Bool))) rfl rfl <| TO_as rfl <| TO_nil ?_
 split at h
 ·rename_i hcond
  refine TC_cond_t rfl hcond <| TC_seq <| TC_reg <| TO_ldW (r := f) TTryz.ag24 TTryz.sz24 rfl hxs hs fun y1 hy1 => ?_
  replace hs := Hp.front [(.cells m xs)] (b := [(.gl (NG mx))]) hs
  refine TO_stR (r := f) TTryz.sz24 rfl rfl TTryz.zf24 hy1 hs fun xs1 s hxs1 hs => TO_as (v := (enc (0 : Int))) rfl <| TO_as (v := (enc (2 : Int))) rfl <| TO_nil <| TC_ret ?_
  show if _ then _ else _
  rw [if_neg (by simp)]
  obtain ⟨w, hlw, hw⟩ := ldW (r := f) TTryz.ag24 TTryz.sz24 hxs1 hs
  rw [← Option.some.inj h]
  exact ⟨rfl, KEc3 (a1 := (f : FsR)) (a2 := (0 : Int)) (a3 := (2 : Int)) rfl (.cell rfl hlw (.tmp rfl (.tmp rfl .nil))) hw (rfl : is _ (0 : Int)) (rfl : is _ (2 : Int)) ⟨_, _, _, rfl, hw, (rfl : is _ (0 : Int)), (rfl : is _ (2 : Int))⟩⟩
 ·rename_i hcond
  refine TC_cond_f rfl hcond <| TC_seq <| TC_reg <| TO_fv TTryz.fl24_0 rfl <| TO_ldV TTryz.ag22 Sel.zero rfl hxs hs fun y2 hy2 => TO_ln Tryz.underlying22 rfl rfl hy2 <| TO_bi (v := (enc (((f.v.1.length : Int) == 512) : Bool))) rfl rfl rfl <| TO_as rfl <| TO_nil ?_
  split at h
  ·rename_i hcond
   refine TC_cond_t rfl hcond <| TC_seq <| TC_reg <| TO_ldW (r := f) TTryz.ag24 TTryz.sz24 rfl hxs hs fun y3 hy3 => ?_
   replace hs := Hp.front [(.cells m xs)] (b := [(.gl (NG mx))]) hs
   refine TO_stR (r := f) TTryz.sz24 rfl rfl TTryz.zf24 hy3 hs fun xs2 s hxs2 hs => TO_as (v := (enc (0 : Int))) rfl <| TO_as (v := (enc (211 : Int))) rfl <| TO_nil <| TC_ret ?_
   show if _ then _ else _
   rw [if_neg (by simp)]
   obtain ⟨w1, hlw1, hw1⟩ := ldW (r := f) TTryz.ag24 TTryz.sz24 hxs2 hs
   rw [← Option.some.inj h]
   exact ⟨rfl, KEc3 (a1 := (f : FsR)) (a2 := (0 : Int)) (a3 := (211 : Int)) rfl (.cell rfl hlw1 (.tmp rfl (.tmp rfl .nil))) hw1 (rfl : is _ (0 : Int)) (rfl : is _ (211 : Int)) ⟨_, _, _, rfl, hw1, (rfl : is _ (0 : Int)), (rfl : is _ (211 : Int))⟩⟩
  ·rename_i hcond
   refine TC_cond_f rfl hcond <| TC_skip <| TC_seq <| TC_reg <| TO_fv TTryz.fl24_1 rfl <| TO_ldV TTryz.ag3 (Sel.succ Sel.zero) rfl hxs hs fun y4 hy4 => ?_
   cases hy4
   refine TO_mv rfl <| TO_mv rfl <| TO_mv rfl <| TO_buR (r0 := ((0 : Int), (0 : Int), (0 : Int), (0 : Int), ([] : (List UInt8)), (str []), ([] : (List Str)), ([] : (List Int)), ([] : (List AttrR)), ())) TTryz.bu38 TTryz.zr38 TTryz.zf38 rfl rfl (r := (f.v.2.1, kind, mode, (0 : Int), ([] : (List UInt8)), target, ([] : (List Str)), ([] : (List Int)), ([] : (List AttrR)), ())) (.cons (z := (f.v.2.1 : Int)) Sel.zero (rfl : is _ (f.v.2.1 : Int)) (.cons (z := (kind : Int)) (Sel.succ Sel.zero) (rfl : is _ (kind : Int)) (.cons (z := (mode : Int)) (Sel.succ (Sel.succ Sel.zero)) (rfl : is _ (mode : Int)) (.cons (z := (target : Str)) (Sel.succ (Sel.succ (Sel.succ (Sel.succ (Sel.succ Sel.zero))))) (rfl : is _ (target : Str)) .nil)))) fun y5 hy5 => TO_alR (r := (Rec.mk ((0 : Int), (0 : Int), (0 : Int), (0 : Int), ([] : (List UInt8)), (str []), ([] : (List Str)), ([] : (List Int)), ([] : (List AttrR)), ()) : InodeR)) TTryz.zr38 TTryz.zf38 hs fun m2 s hs => TO_stR (r := (Rec.mk (f.v.2.1, kind, mode, (0 : Int), ([] : (List UInt8)), target, ([] : (List Str)), ([] : (List Int)), ([] : (List AttrR)), ()) : InodeR)) TTryz.sz38 rfl rfl TTryz.zf38 hy5 hs fun xs3 s hxs3 hs => TO_nil <| TC_seq <| TC_seq <| TC_reg <| TO_fv TTryz.fl24_0 rfl ?_
   replace hs := Hp.front [(.cells m2 xs3)] (b := [(.cells m1 TTryz.zx24), (.gl (NG mx))]) hs
   refine TO_ldV TTryz.ag22 Sel.zero rfl hxs hs fun y6 hy6 => TO_ln Tryz.underlying22 rfl rfl hy6 <| TO_mv (v := (enc (0 : Int))) rfl <| TO_nil <| TC_block ?_
   obtain ⟨x1, hl, h⟩ := bs h
   refine TC_loop (fun (p : (InodeR × Int)) φ s => match p with | (x, v) => ∃ (xs_x : List AV), fi xs_x x.v ∧ Fx φ [(1, (enc (kind : Int))), (4, (.ptr m 0)), (8, (.ptr m1 0)), (11, (.ptr m2 0)), (32, y6), (33, (enc ((f.v.1.length : Int) : Int))), (34, (enc (v : Int)))] ∧ Hp s [(.cells m xs), (.cells m1 TTryz.zx24), (.gl (NG mx)), (.cells m2 xs_x)]) (fun (o : InodeR) e φ s => match o with | x1 => e = .exit 1 ∧ ∃ (xs_x1 : List AV), fi xs_x1 x1.v ∧ Fx φ [(1, (enc (kind : Int))), (4, (.ptr m 0)), (8, (.ptr m1 0)), (11, (.ptr m2 0))] ∧ Hp s [(.cells m xs), (.cells m1 TTryz.zx24), (.gl (NG mx)), (.cells m2 xs_x1)]) ?_ hl ⟨xs3, hxs3, ⟨rfl, rfl, rfl, rfl, rfl, rfl, rfl, trivial⟩, (Hp.front [(.cells m1 TTryz.zx24), (.gl (NG mx)), (.cells m2 xs3)] (b := []) (Hp.front [(.gl (NG mx)), (.cells m2 xs3), (.cells m xs)] (b := []) (Hp.front [(.cells m2 xs3), (.cells m xs), (.cells m1 TTryz.zx24)] (b := []) (Hp.front [(.cells m xs)] (b := [(.cells m1 TTryz.zx24), (.gl (NG mx))]) hs))))⟩ ?_
   ·rintro ⟨x, v⟩ o h φ s ⟨xs_x, hxs_x, hF, hs⟩
    rw [← hF.eq]
    rw [plain_Make_l1] at h
    refine TC_seq <| TC_reg <| TO_bi (v := (enc ((decide (v < (f.v.1.length : Int))) : Bool))) rfl rfl rfl <| TO_nil <| TC_seq ?_
    split at h
    ·rename_i hcond
     refine TC_cond_t rfl hcond <| TC_skip <| TC_cut (fun φ s => ∃ (x2 : InodeR) (xs_x2 : List AV), fi xs_x2 x2.v ∧ Fx φ [(1, (enc (kind : Int))), (4, (.ptr m 0)), (8, (.ptr m1 0)), (11, (.ptr m2 0)), (32, y6), (33, (enc ((f.v.1.length : Int) : Int))), (34, (enc (v : Int)))] ∧ Hp s [(.cells m xs), (.cells m1 TTryz.zx24), (.gl (NG mx)), (.cells m2 xs_x2)] ∧ plain_Make_j2 v x2 = some o) ?_ ?_
     ·refine TC_block ?_
      refine TC_seq <| TC_reg ?_
      obtain ⟨v1, hx1, h⟩ := bs h
      refine TO_ix Tryz.underlying22 TTryz.sh38 rfl rfl hy6 hx1 fun p hp => TO_ldE TTryz.ag38 TTryz.sz38 rfl hp fun y7 hy7 => TO_alR (r := (Rec.mk ((0 : Int), (0 : Int), (0 : Int), (0 : Int), ([] : (List UInt8)), (str []), ([] : (List Str)), ([] : (List Int)), ([] : (List AttrR)), ()) : InodeR)) TTryz.zr38 TTryz.zf38 hs fun m3 s hs => TO_stR (r := v1) TTryz.sz38 rfl rfl TTryz.zf38 hy7 hs fun xs4 s hxs4 hs => TO_nil <| TC_seq <| TC_reg <| TO_fv TTryz.fl38_0 rfl <| TO_ldV TTryz.ag3 Sel.zero rfl hxs4 hs fun y8 hy8 => ?_
      cases hy8
      refine TO_fv TTryz.fl38_0 rfl ?_
      replace hs := Hp.front [(.cells m3 xs4), (.cells m xs), (.cells m1 TTryz.zx24), (.gl (NG mx))] (b := []) hs
      refine TO_ldV TTryz.ag3 Sel.zero rfl hxs_x hs fun y9 hy9 => ?_
      cases hy9
      refine TO_bi (v := (enc ((v1.v.1 == x.v.1) : Bool))) rfl rfl rfl <| TO_nil ?_
      split at h
      ·rename_i hcond
       refine TC_cond_t rfl hcond <| TC_reg <| TO_fv TTryz.fl38_0 rfl <| TO_ldV TTryz.ag3 Sel.zero rfl hxs_x hs fun y10 hy10 => ?_
       cases hy10
       refine TO_bi (v := (enc ((IntKind.i64.wrap (x.v.1 + 1)) : Int))) rfl rfl rfl <| TO_fv TTryz.fl38_0 rfl <| TO_stV (z := ((IntKind.i64.wrap (x.v.1 + 1)) : Int)) TTryz.sz3 Sel.zero rfl rfl (rfl : is _ ((IntKind.i64.wrap (x.v.1 + 1)) : Int)) hxs_x hs fun xs5 s hxs5 hs => TO_nil ?_
       exact ⟨(Rec.mk ((IntKind.i64.wrap (x.v.1 + 1)), x.v.2.1, x.v.2.2.1, x.v.2.2.2.1, x.v.2.2.2.2.1, x.v.2.2.2.2.2.1, x.v.2.2.2.2.2.2.1, x.v.2.2.2.2.2.2.2.1, x.v.2.2.2.2.2.2.2.2.1, ()) : InodeR), xs5, hxs5, ⟨rfl, rfl, rfl, rfl, rfl, rfl, rfl, trivial⟩, (Hp.front [(.cells m1 TTryz.zx24), (.gl (NG mx)), (.cells m2 xs5)] (b := []) (Hp.front [(.gl (NG mx)), (.cells m2 xs5), (.cells m xs)] (b := []) (Hp.front [(.cells m2 xs5), (.cells m xs), (.cells m1 TTryz.zx24)] (b := []) (Hp.front [] (b := [(.cells m xs), (.cells m1 TTryz.zx24), (.gl (NG mx))]) (Hp.drop [(.cells m2 xs5)] (b := [(.cells m xs), (.cells m1 TTryz.zx24), (.gl (NG mx))]) hs))))), h⟩
      ·rename_i hcond
       refine TC_cond_f rfl hcond <| TC_skip ?_
       exact ⟨x, xs_x, hxs_x, ⟨rfl, rfl, rfl, rfl, rfl, rfl, rfl, trivial⟩, (Hp.front [(.cells m1 TTryz.zx24), (.gl (NG mx)), (.cells m2 xs_x)] (b := []) (Hp.front [(.gl (NG mx)), (.cells m2 xs_x), (.cells m xs)] (b := []) (Hp.front [(.cells m2 xs_x), (.cells m xs), (.cells m1 TTryz.zx24)] (b := []) (Hp.front [] (b := [(.cells m xs), (.cells m1 TTryz.zx24), (.gl (NG mx))]) (Hp.drop [(.cells m2 xs_x)] (b := [(.cells m xs), (.cells m1 TTryz.zx24), (.gl (NG mx))]) hs))))), h⟩
     ·rintro φ s ⟨x2, xs_x2, hxs_x2, hF, hs, h⟩
      rw [← hF.eq]
      unfold plain_Make_j2 at h
      refine TC_reg <| TO_bi (v := (enc ((IntKind.i64.wrap (v + 1)) : Int))) rfl rfl rfl <| TO_mv rfl <| TO_nil ?_
      rw [← Option.some.inj h]
      exact ⟨_, rfl, ⟨xs_x2, hxs_x2, ⟨rfl, rfl, rfl, rfl, rfl, rfl, rfl, trivial⟩, hs⟩⟩
    ·rename_i hcond
     refine TC_cond_f rfl hcond <| TC_exit ?_
     rw [← Option.some.inj h]
     exact ⟨_, rfl, rfl, ⟨xs_x, hxs_x, ⟨rfl, rfl, rfl, rfl, trivial⟩, hs⟩⟩
   ·intro e φ s hE
    obtain ⟨rfl, xs_x1, hxs_x1, hF, hs⟩ := hE
    rw [← hF.eq]
    rw [plain_Make_a1] at h
    show if _ then _ else _
    rw [if_pos rfl]
    refine TC_cut (fun φ s => ∃ (x3 : InodeR) (xs_x3 : List AV), fi xs_x3 x3.v ∧ Fx φ [(4, (.ptr m 0)), (8, (.ptr m1 0)), (11, (.ptr m2 0))] ∧ Hp s [(.cells m xs), (.cells m1 TTryz.zx24), (.gl (NG mx)), (.cells m2 xs_x3)] ∧ plain_Make_j3 f x3 = some r) ?_ ?_
    ·refine TC_seq ?_
     refine TC_reg <| TO_mv rfl <| TO_bi (v := (enc ((kind == 2) : Bool))) rfl rfl rfl <| TO_nil ?_
     split at h
     ·rename_i hcond
      refine TC_cond_t rfl hcond <| TC_reg <| TO_fv TTryz.fl38_3 rfl ?_
      replace hs := Hp.front [(.cells m xs), (.cells m1 TTryz.zx24), (.gl (NG mx))] (b := []) hs
      refine TO_stV (z := (1 : Int)) TTryz.sz3 (Sel.succ (Sel.succ (Sel.succ Sel.zero))) rfl rfl (rfl : is _ (1 : Int)) hxs_x1 hs fun xs8 s hxs8 hs => TO_nil ?_
      exact ⟨(Rec.mk (x1.v.1, x1.v.2.1, x1.v.2.2.1, 1, x1.v.2.2.2.2.1, x1.v.2.2.2.2.2.1, x1.v.2.2.2.2.2.2.1, x1.v.2.2.2.2.2.2.2.1, x1.v.2.2.2.2.2.2.2.2.1, ()) : InodeR), xs8, hxs8, ⟨rfl, rfl, rfl, trivial⟩, (Hp.front [(.cells m1 TTryz.zx24), (.gl (NG mx)), (.cells m2 xs8)] (b := []) (Hp.front [(.gl (NG mx)), (.cells m2 xs8), (.cells m xs)] (b := []) (Hp.front [(.cells m2 xs8), (.cells m xs), (.cells m1 TTryz.zx24)] (b := []) (Hp.front [] (b := [(.cells m xs), (.cells m1 TTryz.zx24), (.gl (NG mx))]) hs)))), h⟩
     ·rename_i hcond
      refine TC_cond_f rfl hcond <| TC_skip ?_
      exact ⟨x1, xs_x1, hxs_x1, ⟨rfl, rfl, rfl, trivial⟩, hs, h⟩
    ·rintro φ s ⟨x3, xs_x3, hxs_x3, hF, hs, h⟩
     rw [← hF.eq]
     unfold plain_Make_j3 at h
     refine TC_seq <| TC_seq <| TC_reg ?_
     replace hs := Hp.front [(.cells m xs), (.cells m1 TTryz.zx24), (.gl (NG mx))] (b := []) hs
     refine TO_ldW (r := x3) TTryz.ag38 TTryz.sz38 rfl hxs_x3 hs fun y11 hy11 => ?_
     obtain ⟨r_1, hx2, h⟩ := bs h
     refine TO_fnG (f := fun a : InodeR × Unit => plain_right a.1) (a := (x3, ())) rfl Tryz.func27 rfl rfl (.cons (a := (x3 : InodeR)) hy11 .nil) hs (List.mem_cons_of_mem _ (List.mem_cons_of_mem _ (List.mem_cons_of_mem _ List.mem_cons_self))) hx2 <| TO_un (v := (enc ((!r_1) : Bool))) rfl rfl <| TO_nil ?_
     split at h
     ·rename_i hcond
      refine TC_cond_t rfl hcond <| TC_seq <| TC_reg ?_
      replace hs := Hp.front [(.cells m2 xs_x3)] (b := [(.cells m1 TTryz.zx24), (.gl (NG mx))]) hs
      refine TO_ldW (r := f) TTryz.ag24 TTryz.sz24 rfl hxs hs fun y12 hy12 => ?_
      replace hs := Hp.front [(.cells m xs), (.cells m2 xs_x3)] (b := [(.gl (NG mx))]) hs
      refine TO_stR (r := f) TTryz.sz24 rfl rfl TTryz.zf24 hy12 hs fun xs6 s hxs6 hs => TO_as (v := (enc (0 : Int))) rfl <| TO_as (v := (enc (2 : Int))) rfl <| TO_nil <| TC_ret ?_
      obtain ⟨w2, hlw2, hw2⟩ := ldW (r := f) TTryz.ag24 TTryz.sz24 hxs6 hs
      rw [← Option.some.inj h]
      exact ⟨rfl, KEc3 (a1 := (f : FsR)) (a2 := (0 : Int)) (a3 := (2 : Int)) rfl (.cell rfl hlw2 (.tmp rfl (.tmp rfl .nil))) hw2 (rfl : is _ (0 : Int)) (rfl : is _ (2 : Int)) ⟨_, _, _, rfl, hw2, (rfl : is _ (0 : Int)), (rfl : is _ (2 : Int))⟩⟩
     ·rename_i hcond
      refine TC_cond_f rfl hcond <| TC_skip <| TC_seq <| TC_ord2 [0, 1, 4] 5 [2, 3] 6 [7, 8] rfl (by kernel_rfl) ?_
      replace hs := Hp.front [(.cells m2 xs_x3)] (b := [(.cells m1 TTryz.zx24), (.gl (NG mx))]) hs
      refine TO_ldW (r := f) TTryz.ag24 TTryz.sz24 rfl hxs hs fun y13 hy13 => ?_
      replace hs := Hp.front [(.cells m xs)] (b := [(.cells m1 TTryz.zx24), (.gl (NG mx))]) hs
      refine TO_ldW (r := x3) TTryz.ag38 TTryz.sz38 rfl hxs_x3 hs fun y14 hy14 => TO_fv TTryz.fl38_0 rfl <| TO_nil ?_
      refine ⟨?_, ?_⟩
      ·refine TO_ldV TTryz.ag3 Sel.zero rfl hxs_x3 hs fun y15 hy15 => ?_
       cases hy15
       refine TO_nil ?_
       trivial
      ·refine TO_bs [y14] ([x3] : (List InodeR)) Tryz.underlying22 TTryz.ef38 rfl rfl rfl (Nat.le_of_ble_eq_true rfl) ⟨hy14, trivial⟩ fun z hz hzc hzn => ?_
       obtain ⟨r_2, hx3, h⟩ := bs h
       refine TO_fnG (f := fun a : FsR × (List InodeR) × Unit => plain_with a.1 a.2.1) (a := (f, [x3], ())) rfl Tryz.func28 rfl rfl (.cons (a := (f : FsR)) hy13 (.cons (a := ([x3] : (List InodeR))) hz .nil)) hs (List.mem_cons_of_mem _ (List.mem_cons_of_mem _ (List.mem_cons_of_mem _ List.mem_cons_self))) hx3 <| TO_nil ?_
       refine ⟨?_, ?_⟩
       ·refine TO_ldV TTryz.ag3 Sel.zero rfl hxs_x3 hs fun y15 hy15 => ?_
        cases hy15
        replace hs := Hp.front [(.cells m2 xs_x3), (.cells m xs)] (b := [(.gl (NG mx))]) hs
        refine TO_stR (r := r_2) TTryz.sz24 rfl rfl TTryz.zf24 (Enc.self r_2) hs fun xs7 s hxs7 hs => TO_as rfl <| TO_as (v := (enc (0 : Int))) rfl <| TO_nil <| TC_ret ?_
        obtain ⟨w3, hlw3, hw3⟩ := ldW (r := r_2) TTryz.ag24 TTryz.sz24 hxs7 hs
        rw [← Option.some.inj h]
        exact ⟨rfl, KEc3 (a1 := (r_2 : FsR)) (a2 := (x3.v.1 : Int)) (a3 := (0 : Int)) rfl (.cell rfl hlw3 (.tmp rfl (.tmp rfl .nil))) hw3 (rfl : is _ (x3.v.1 : Int)) (rfl : is _ (0 : Int)) ⟨_, _, _, rfl, hw3, (rfl : is _ (x3.v.1 : Int)), (rfl : is _ (0 : Int))⟩⟩
       ·replace hs := Hp.front [(.cells m2 xs_x3), (.cells m xs)] (b := [(.gl (NG mx))]) hs
        refine TO_stR (r := r_2) TTryz.sz24 rfl rfl TTryz.zf24 (Enc.self r_2) hs fun xs7 s hxs7 hs => ?_
        replace hs := Hp.front [(.cells m1 xs7)] (b := [(.cells m xs), (.gl (NG mx))]) hs
        refine TO_ldV TTryz.ag3 Sel.zero rfl hxs_x3 hs fun y15 hy15 => ?_
        cases hy15
        refine TO_as rfl <| TO_as (v := (enc (0 : Int))) rfl <| TO_nil <| TC_ret ?_
        replace hs := Hp.front [(.cells m2 xs_x3)] (b := [(.cells m xs), (.gl (NG mx))]) hs
        obtain ⟨w3, hlw3, hw3⟩ := ldW (r := r_2) TTryz.ag24 TTryz.sz24 hxs7 hs
        rw [← Option.some.inj h]
        exact ⟨rfl, KEc3 (a1 := (r_2 : FsR)) (a2 := (x3.v.1 : Int)) (a3 := (0 : Int)) rfl (.cell rfl hlw3 (.tmp rfl (.tmp rfl .nil))) hw3 (rfl : is _ (x3.v.1 : Int)) (rfl : is _ (0 : Int)) ⟨_, _, _, rfl, hw3, (rfl : is _ (x3.v.1 : Int)), (rfl : is _ (0 : Int))⟩⟩
theorem plain_Make_pc (mx : Int) : PureC Tryz.prog 11 (FnG (NG mx) (fun a : FsR × Int × Int × Str × Unit => plain_Make a.1 a.2.1 a.2.2.1 a.2.2.2.1)) := fnCG (pu6_ok mx) ⟨_, Tryz.func11, rfl⟩ <| fun a r h => plain_Make_wf mx a.1 a.2.1 a.2.2.1 a.2.2.2.1 r h
noncomputable def pu7 (mx : Int) : Prims := (pu6 mx).addG 11 (FnG (NG mx) (fun a : FsR × Int × Int × Str × Unit => plain_Make a.1 a.2.1 a.2.2.1 a.2.2.2.1))
theorem pu7_ok (mx : Int) : PrimsOk Tryz.prog (pu7 mx) := primsOk_addG (pu6_ok mx) (plain_Make_pc mx)
theorem plain_enter_wf (mx : Int) (f : FsR) (dir : Int) (s_ : Str) (num : Int) (r : FsR × (Err 111)) (h : plain_enter f dir s_ num = some r) : MF Tryz.prog (pu7 mx) 39 [enc f, enc dir, enc s_, enc num] (sG (NG mx)) fun v _ => ris v r := by
 refine TF_run [(0, enc f), (1, enc dir), (2, enc s_), (3, enc num)] Tryz.func39 rfl (by simp only [Tryz.f39]; rfl) fun ψ => ?_
 unfold plain_enter at h
 have hs : Hp (sG (NG mx)) [.gl (NG mx)] := Hp.gl0
 refine TC_seq <| TC_reg <| TO_bxR (r := f) rfl (Enc.self f) hs fun m xs s hxs hs => TO_alR (r := (Rec.mk (([] : (List InodeR)), (0 : Int), ()) : FsR)) TTryz.zr24 TTryz.zf24 hs fun m1 s hs => TO_as (v := .nifc) rfl <| TO_nil <| TC_seq <| TC_reg ?_
 replace hs := Hp.front [(.cells m1 TTryz.zx24)] (b := [(.gl (NG mx))]) hs
 refine TO_ldW (r := f) TTryz.ag24 TTryz.sz24 rfl hxs hs fun y hy => TO_mv rfl ?_
 obtain ⟨r_, hx, h⟩ := bs h
 refine TO_fnG (f := fun a : FsR × Int × Unit => plain_directory a.1 a.2.1) (a := (f, dir, ())) rfl Tryz.func44 rfl rfl (.cons (a := (f : FsR)) hy (.cons (a := (dir : Int)) (Enc.self _) .nil)) hs (List.mem_cons_of_mem _ (List.mem_cons_of_mem _ List.mem_cons_self)) hx <| TO_mv (v := (res r_)) rfl <| TO_ex rfl rfl <| TO_ex rfl rfl <| TO_alR (r := (Rec.mk ((0 : Int), (0 : Int), (0 : Int), (0 : Int), ([] : (List UInt8)), (str []), ([] : (List Str)), ([] : (List Int)), ([] : (List AttrR)), ()) : InodeR)) TTryz.zr38 TTryz.zf38 hs fun m2 s hs => TO_stR (r := r_.1) TTryz.sz38 rfl rfl TTryz.zf38 (Enc.self r_.1) hs fun xs1 s hxs1 hs => TO_as rfl <| TO_nil <| TC_seq <| TC_seq <| TC_reg <| TO_mv rfl <| TO_neE (r := r_.2) Tryz.underlying70 rfl (Enc.self r_.2) <| TO_nil ?_
 split at h
 ·rename_i hcond
  refine TC_cond_t rfl hcond <| TC_seq <| TC_reg ?_
  replace hs := Hp.front [(.cells m2 xs1)] (b := [(.cells m1 TTryz.zx24), (.gl (NG mx))]) hs
  refine TO_ldW (r := f) TTryz.ag24 TTryz.sz24 rfl hxs hs fun y1 hy1 => TO_mv rfl ?_
  replace hs := Hp.front [(.cells m xs), (.cells m2 xs1)] (b := [(.gl (NG mx))]) hs
  refine TO_stR (r := f) TTryz.sz24 rfl rfl TTryz.zf24 hy1 hs fun xs2 s hxs2 hs => TO_as rfl <| TO_nil <| TC_ret ?_
  obtain ⟨w, hlw, hw⟩ := ldW (r := f) TTryz.ag24 TTryz.sz24 hxs2 hs
  rw [← Option.some.inj h]
  exact ⟨rfl, KEc2 (a1 := (f : FsR)) (a2 := (r_.2 : (Err 111))) rfl (.cell rfl hlw (.tmp rfl .nil)) hw (Enc.self r_.2) ⟨_, _, rfl, hw, (Enc.self r_.2)⟩⟩
 ·rename_i hcond
  refine TC_cond_f rfl hcond <| TC_skip <| TC_seq <| TC_seq <| TC_reg <| TO_mv rfl ?_
  obtain ⟨r_1, hx1, h⟩ := bs h
  refine TO_fnG (f := fun a : Str × Unit => name_Check a.1) (a := (s_, ())) rfl Tryz.func64 rfl rfl (.cons (a := (s_ : Str)) (Enc.self _) .nil) hs (List.mem_cons_of_mem _ (List.mem_cons_of_mem _ (List.mem_cons_of_mem _ List.mem_cons_self))) hx1 <| TO_as rfl <| TO_nil <| TC_seq <| TC_reg <| TO_mv rfl <| TO_bi (v := (enc ((r_1 != 0) : Bool))) rfl rfl rfl <| TO_nil ?_
  split at h
  ·rename_i hcond
   refine TC_cond_t rfl hcond <| TC_seq <| TC_drawn (by decide +kernel) (by kernel_rfl) ?_
   replace hs := Hp.front [(.cells m2 xs1)] (b := [(.cells m1 TTryz.zx24), (.gl (NG mx))]) hs
   refine TO_ldW (r := f) TTryz.ag24 TTryz.sz24 rfl hxs hs fun y2 hy2 => TO_mv rfl ?_
   obtain ⟨r_2, hx2, h⟩ := bs h
   refine TO_fn (f := fun a : Int × Unit => plain_no a.1) (a := (r_1, ())) rfl Tryz.func65 rfl rfl (.cons (a := (r_1 : Int)) (Enc.self _) .nil) hx2 ?_
   replace hs := Hp.front [(.cells m xs), (.cells m2 xs1)] (b := [(.gl (NG mx))]) hs
   refine TO_stR (r := f) TTryz.sz24 rfl rfl TTryz.zf24 hy2 hs fun xs3 s hxs3 hs => TO_as rfl <| TO_nil <| TC_ret ?_
   obtain ⟨w1, hlw1, hw1⟩ := ldW (r := f) TTryz.ag24 TTryz.sz24 hxs3 hs
   rw [← Option.some.inj h]
   exact ⟨rfl, KEc2 (a1 := (f : FsR)) (a2 := (r_2 : (Err 111))) rfl (.cell rfl hlw1 (.tmp rfl .nil)) hw1 (Enc.self r_2) ⟨_, _, rfl, hw1, (Enc.self r_2)⟩⟩
  ·rename_i hcond
   refine TC_cond_f rfl hcond <| TC_skip <| TC_seq <| TC_reg ?_
   replace hs := Hp.front [(.cells m2 xs1)] (b := [(.cells m1 TTryz.zx24), (.gl (NG mx))]) hs
   refine TO_ldW (r := f) TTryz.ag24 TTryz.sz24 rfl hxs hs fun y3 hy3 => TO_mv rfl ?_
   obtain ⟨r_3, hx3, h⟩ := bs h
   refine TO_fn (f := fun a : FsR × Int × Unit => plain_Find a.1 a.2.1) (a := (f, num, ())) rfl Tryz.func13 rfl rfl (.cons (a := (f : FsR)) hy3 (.cons (a := (num : Int)) (Enc.self _) .nil)) hx3 <| TO_as rfl <| TO_nil <| TC_seq <| TC_block <| TC_seq <| TC_reg <| TO_fv TTryz.fl38_6 rfl ?_
   replace hs := Hp.front [(.cells m xs)] (b := [(.cells m1 TTryz.zx24), (.gl (NG mx))]) hs
   refine TO_ldV TTryz.ag34 (Sel.succ (Sel.succ (Sel.succ (Sel.succ (Sel.succ (Sel.succ Sel.zero)))))) rfl hxs1 hs fun y4 hy4 => TO_mv rfl ?_
   obtain ⟨r_4, hx4, h⟩ := bs h
   refine TO_fn (f := fun a : (List Str) × Str × Unit => containsS a.1 a.2.1) (a := (r_.1.v.2.2.2.2.2.2.1, s_, ())) rfl Tryz.func66 rfl rfl (.cons (a := (r_.1.v.2.2.2.2.2.2.1 : (List Str))) hy4 (.cons (a := (s_ : Str)) (Enc.self _) .nil)) hx4 <| TO_as rfl <| TO_nil ?_
   split at h
   ·rename_i hcond
    refine TC_cond_t rfl hcond <| TC_seq <| TC_drawn (by decide +kernel) (by kernel_rfl) ?_
    replace hs := Hp.front [(.cells m2 xs1)] (b := [(.cells m1 TTryz.zx24), (.gl (NG mx))]) hs
    refine TO_ldW (r := f) TTryz.ag24 TTryz.sz24 rfl hxs hs fun y5 hy5 => ?_
    obtain ⟨r_5, hx5, h⟩ := bs h
    refine TO_fn (f := fun a : Int × Unit => plain_no a.1) (a := (202, ())) rfl Tryz.func65 rfl rfl (.cons (a := (202 : Int)) (rfl : is _ (202 : Int)) .nil) hx5 ?_
    replace hs := Hp.front [(.cells m xs), (.cells m2 xs1)] (b := [(.gl (NG mx))]) hs
    refine TO_stR (r := f) TTryz.sz24 rfl rfl TTryz.zf24 hy5 hs fun xs4 s hxs4 hs => TO_as rfl <| TO_nil <| TC_ret ?_
    show if _ then _ else _
    rw [if_neg (by simp)]
    obtain ⟨w2, hlw2, hw2⟩ := ldW (r := f) TTryz.ag24 TTryz.sz24 hxs4 hs
    rw [← Option.some.inj h]
    exact ⟨rfl, KEc2 (a1 := (f : FsR)) (a2 := (r_5 : (Err 111))) rfl (.cell rfl hlw2 (.tmp rfl .nil)) hw2 (Enc.self r_5) ⟨_, _, rfl, hw2, (Enc.self r_5)⟩⟩
   ·rename_i hcond
    refine TC_cond_f rfl hcond <| TC_seq <| TC_reg <| TO_mv rfl <| TO_bi (v := (enc ((decide (r_3 < 0)) : Bool))) rfl rfl rfl <| TO_as rfl <| TO_nil ?_
    split at h
    ·rename_i hcond
     refine TC_cond_t rfl hcond <| TC_seq <| TC_drawn (by decide +kernel) (by kernel_rfl) ?_
     replace hs := Hp.front [(.cells m2 xs1)] (b := [(.cells m1 TTryz.zx24), (.gl (NG mx))]) hs
     refine TO_ldW (r := f) TTryz.ag24 TTryz.sz24 rfl hxs hs fun y6 hy6 => ?_
     obtain ⟨r_6, hx6, h⟩ := bs h
     refine TO_fn (f := fun a : Int × Unit => plain_no a.1) (a := (201, ())) rfl Tryz.func65 rfl rfl (.cons (a := (201 : Int)) (rfl : is _ (201 : Int)) .nil) hx6 ?_
     replace hs := Hp.front [(.cells m xs), (.cells m2 xs1)] (b := [(.gl (NG mx))]) hs
     refine TO_stR (r := f) TTryz.sz24 rfl rfl TTryz.zf24 hy6 hs fun xs5 s hxs5 hs => TO_as rfl <| TO_nil <| TC_ret ?_
     show if _ then _ else _
     rw [if_neg (by simp)]
     obtain ⟨w3, hlw3, hw3⟩ := ldW (r := f) TTryz.ag24 TTryz.sz24 hxs5 hs
     rw [← Option.some.inj h]
     exact ⟨rfl, KEc2 (a1 := (f : FsR)) (a2 := (r_6 : (Err 111))) rfl (.cell rfl hlw3 (.tmp rfl .nil)) hw3 (Enc.self r_6) ⟨_, _, rfl, hw3, (Enc.self r_6)⟩⟩
    ·rename_i hcond
     refine TC_cond_f rfl hcond <| TC_skip <| TC_seq <| TC_reg <| TO_fv TTryz.fl24_0 rfl ?_
     replace hs := Hp.front [(.cells m2 xs1)] (b := [(.cells m1 TTryz.zx24), (.gl (NG mx))]) hs
     refine TO_ldV TTryz.ag22 Sel.zero rfl hxs hs fun y7 hy7 => TO_mv rfl ?_
     obtain ⟨v, hx7, h⟩ := bs h
     refine TO_ix Tryz.underlying22 TTryz.sh38 rfl rfl hy7 hx7 fun p hp => TO_ldE TTryz.ag38 TTryz.sz38 rfl hp fun y8 hy8 => TO_alR (r := (Rec.mk ((0 : Int), (0 : Int), (0 : Int), (0 : Int), ([] : (List UInt8)), (str []), ([] : (List Str)), ([] : (List Int)), ([] : (List AttrR)), ()) : InodeR)) TTryz.zr38 TTryz.zf38 hs fun m3 s hs => TO_stR (r := v) TTryz.sz38 rfl rfl TTryz.zf38 hy8 hs fun xs6 s hxs6 hs => TO_nil <| TC_seq <| TC_reg <| TO_fv TTryz.fl38_1 rfl <| TO_ldV TTryz.ag25 (Sel.succ Sel.zero) rfl hxs6 hs fun y9 hy9 => ?_
     cases hy9
     refine TO_bi (v := (enc ((v.v.2.1 != 2) : Bool))) rfl rfl rfl <| TO_as rfl <| TO_nil <| TC_seq <| TC_block <| TC_seq <| TC_reg <| TO_mv rfl <| TO_mv rfl ?_
     obtain ⟨b, hb_b, h⟩ := bs h
     refine TO_cut 4 (fun φ s => Hp s [(.cells m3 xs6), (.cells m xs), (.cells m2 xs1), (.cells m1 TTryz.zx24), (.gl (NG mx))] ∧ Fx φ [(2, (enc (s_ : Str))), (3, (enc (num : Int))), (4, (.ptr m 0)), (8, (.ptr m1 0)), (10, (.ptr m2 0)), (14, (.ptr m3 0)), (15, (enc ((v.v.2.1 != 2) : Bool))), (63, (enc (b : Bool)))]) ?_ ?_
     ·split at hb_b
      ·rename_i cg
       refine TO_on rfl rfl cg <| TO_fv TTryz.fl38_3 rfl <| TO_on rfl rfl cg <| TO_ldV TTryz.ag3 (Sel.succ (Sel.succ (Sel.succ Sel.zero))) rfl hxs6 hs fun y10 hy10 => ?_
       cases hy10
       refine TO_on rfl rfl cg <| TO_bi (v := (enc ((v.v.2.2.2.1 == 64) : Bool))) rfl rfl rfl <| TO_pt rfl cg rfl <| TO_nil ?_
       rw [← Option.some.inj hb_b]
       exact ⟨hs, ⟨rfl, rfl, rfl, rfl, rfl, rfl, rfl, rfl, trivial⟩⟩
      ·rename_i cg1
       refine TO_off rfl rfl cg1 <| TO_off rfl rfl cg1 <| TO_off rfl rfl cg1 <| TO_pf (v := (enc (false : Bool))) rfl cg1 rfl <| TO_nil ?_
       rw [← Option.some.inj hb_b]
       exact ⟨hs, ⟨rfl, rfl, rfl, rfl, rfl, rfl, rfl, rfl, trivial⟩⟩
     ·rintro φ s ⟨hs, hF⟩
      rw [← hF.eq]
      refine TO_as rfl <| TO_nil ?_
      split at h
      ·rename_i hcond
       refine TC_cond_t rfl hcond <| TC_seq <| TC_drawn (by decide +kernel) (by kernel_rfl) ?_
       replace hs := Hp.front [(.cells m3 xs6)] (b := [(.cells m2 xs1), (.cells m1 TTryz.zx24), (.gl (NG mx))]) hs
       refine TO_ldW (r := f) TTryz.ag24 TTryz.sz24 rfl hxs hs fun y11 hy11 => ?_
       obtain ⟨r_7, hx8, h⟩ := bs h
       refine TO_fn (f := fun a : Int × Unit => plain_no a.1) (a := (210, ())) rfl Tryz.func65 rfl rfl (.cons (a := (210 : Int)) (rfl : is _ (210 : Int)) .nil) hx8 ?_
       replace hs := Hp.front [(.cells m xs), (.cells m3 xs6), (.cells m2 xs1)] (b := [(.gl (NG mx))]) hs
       refine TO_stR (r := f) TTryz.sz24 rfl rfl TTryz.zf24 hy11 hs fun xs7 s hxs7 hs => TO_as rfl <| TO_nil <| TC_ret ?_
       show if _ then _ else _
       rw [if_neg (by simp)]
       obtain ⟨w4, hlw4, hw4⟩ := ldW (r := f) TTryz.ag24 TTryz.sz24 hxs7 hs
       rw [← Option.some.inj h]
       exact ⟨rfl, KEc2 (a1 := (f : FsR)) (a2 := (r_7 : (Err 111))) rfl (.cell rfl hlw4 (.tmp rfl .nil)) hw4 (Enc.self r_7) ⟨_, _, rfl, hw4, (Enc.self r_7)⟩⟩
      ·rename_i hcond
       refine TC_cond_f rfl hcond <| TC_seq <| TC_reg <| TO_fv TTryz.fl38_6 rfl ?_
       replace hs := Hp.front [(.cells m3 xs6), (.cells m xs)] (b := [(.cells m1 TTryz.zx24), (.gl (NG mx))]) hs
       refine TO_ldV TTryz.ag34 (Sel.succ (Sel.succ (Sel.succ (Sel.succ (Sel.succ (Sel.succ Sel.zero)))))) rfl hxs1 hs fun y12 hy12 => TO_ln Tryz.underlying34 rfl rfl hy12 <| TO_bi (v := (enc (((r_.1.v.2.2.2.2.2.2.1.length : Int) == 128) : Bool))) rfl rfl rfl <| TO_as rfl <| TO_nil ?_
       split at h
       ·rename_i hcond
        refine TC_cond_t rfl hcond <| TC_seq <| TC_drawn (by decide +kernel) (by kernel_rfl) ?_
        replace hs := Hp.front [(.cells m2 xs1), (.cells m3 xs6)] (b := [(.cells m1 TTryz.zx24), (.gl (NG mx))]) hs
        refine TO_ldW (r := f) TTryz.ag24 TTryz.sz24 rfl hxs hs fun y13 hy13 => ?_
        obtain ⟨r_8, hx9, h⟩ := bs h
        refine TO_fn (f := fun a : Int × Unit => plain_no a.1) (a := (211, ())) rfl Tryz.func65 rfl rfl (.cons (a := (211 : Int)) (rfl : is _ (211 : Int)) .nil) hx9 ?_
        replace hs := Hp.front [(.cells m xs), (.cells m2 xs1), (.cells m3 xs6)] (b := [(.gl (NG mx))]) hs
        refine TO_stR (r := f) TTryz.sz24 rfl rfl TTryz.zf24 hy13 hs fun xs8 s hxs8 hs => TO_as rfl <| TO_nil <| TC_ret ?_
        show if _ then _ else _
        rw [if_neg (by simp)]
        obtain ⟨w5, hlw5, hw5⟩ := ldW (r := f) TTryz.ag24 TTryz.sz24 hxs8 hs
        rw [← Option.some.inj h]
        exact ⟨rfl, KEc2 (a1 := (f : FsR)) (a2 := (r_8 : (Err 111))) rfl (.cell rfl hlw5 (.tmp rfl .nil)) hw5 (Enc.self r_8) ⟨_, _, rfl, hw5, (Enc.self r_8)⟩⟩
       ·rename_i hcond
        refine TC_cond_f rfl hcond <| TC_skip <| TC_seq <| TC_drawn (by decide +kernel) (by kernel_rfl) ?_
        replace hs := Hp.front [(.cells m2 xs1), (.cells m3 xs6)] (b := [(.cells m1 TTryz.zx24), (.gl (NG mx))]) hs
        refine TO_ldW (r := f) TTryz.ag24 TTryz.sz24 rfl hxs hs fun y14 hy14 => ?_
        replace hs := Hp.front [(.cells m xs)] (b := [(.cells m3 xs6), (.cells m1 TTryz.zx24), (.gl (NG mx))]) hs
        refine TO_ldW (r := r_.1) TTryz.ag38 TTryz.sz38 rfl hxs1 hs fun y15 hy15 => TO_mv rfl <| TO_mv rfl ?_
        obtain ⟨r_9, hx10, h⟩ := bs h
        refine TO_fnG (f := fun a : InodeR × Str × Int × Unit => plain_put a.1 a.2.1 a.2.2.1) (a := (r_.1, s_, num, ())) rfl Tryz.func67 rfl rfl (.cons (a := (r_.1 : InodeR)) hy15 (.cons (a := (s_ : Str)) (Enc.self _) (.cons (a := (num : Int)) (Enc.self _) .nil))) hs (List.mem_cons_of_mem _ (List.mem_cons_of_mem _ (List.mem_cons_of_mem _ (List.mem_cons_of_mem _ List.mem_cons_self)))) hx10 <| TO_bs [(enc (r_9 : InodeR))] ([r_9] : (List InodeR)) Tryz.underlying22 TTryz.ef38 rfl rfl rfl (Nat.le_of_ble_eq_true rfl) ⟨(Enc.self r_9), trivial⟩ fun z hz hzc hzn => ?_
        obtain ⟨r_10, hx11, h⟩ := bs h
        refine TO_fnG (f := fun a : FsR × (List InodeR) × Unit => plain_with a.1 a.2.1) (a := (f, [r_9], ())) rfl Tryz.func28 rfl rfl (.cons (a := (f : FsR)) hy14 (.cons (a := ([r_9] : (List InodeR))) hz .nil)) hs (List.mem_cons_of_mem _ (List.mem_cons_of_mem _ (List.mem_cons_of_mem _ (List.mem_cons_of_mem _ List.mem_cons_self)))) hx11 <| TO_alR (r := (Rec.mk (([] : (List InodeR)), (0 : Int), ()) : FsR)) TTryz.zr24 TTryz.zf24 hs fun m4 s hs => TO_stR (r := r_10) TTryz.sz24 rfl rfl TTryz.zf24 (Enc.self r_10) hs fun xs9 s hxs9 hs => TO_nil <| TC_cut (fun φ s => ∃ (out_ : FsR) (xs_out_ : List AV), fi xs_out_ out_.v ∧ Fx φ [(4, (.ptr m 0)), (8, (.ptr m1 0)), (16, (.ptr m4 0))] ∧ Hp s [(.cells m xs), (.cells m1 TTryz.zx24), (.gl (NG mx)), (.cells m4 xs_out_)] ∧ plain_enter_j1 f out_ = some r) ?_ ?_
        ·refine TC_seq ?_
         refine TC_reg <| TO_mv rfl <| TO_nil ?_
         split at h
         ·rename_i hcond
          refine TC_cond_t rfl hcond <| TC_seq <| TC_reg <| TO_fv TTryz.fl38_3 rfl ?_
          replace hs := Hp.front [(.cells m4 xs9), (.cells m2 xs1), (.cells m xs)] (b := [(.cells m1 TTryz.zx24), (.gl (NG mx))]) hs
          refine TO_ldV TTryz.ag3 (Sel.succ (Sel.succ (Sel.succ Sel.zero))) rfl hxs6 hs fun y19 hy19 => ?_
          cases hy19
          refine TO_bi (v := (enc ((IntKind.i64.wrap (v.v.2.2.2.1 + 1)) : Int))) rfl rfl rfl <| TO_fv TTryz.fl38_3 rfl <| TO_stV (z := ((IntKind.i64.wrap (v.v.2.2.2.1 + 1)) : Int)) TTryz.sz3 (Sel.succ (Sel.succ (Sel.succ Sel.zero))) rfl rfl (rfl : is _ ((IntKind.i64.wrap (v.v.2.2.2.1 + 1)) : Int)) hxs6 hs fun xs12 s hxs12 hs => TO_nil <| TC_reg ?_
          replace hs := Hp.front [(.cells m3 xs12)] (b := [(.cells m2 xs1), (.cells m xs), (.cells m1 TTryz.zx24), (.gl (NG mx))]) hs
          refine TO_ldW (r := r_10) TTryz.ag24 TTryz.sz24 rfl hxs9 hs fun y20 hy20 => ?_
          replace hs := Hp.front [(.cells m4 xs9)] (b := [(.cells m2 xs1), (.cells m xs), (.cells m1 TTryz.zx24), (.gl (NG mx))]) hs
          refine TO_ldW (r := (Rec.mk (v.v.1, v.v.2.1, v.v.2.2.1, (IntKind.i64.wrap (v.v.2.2.2.1 + 1)), v.v.2.2.2.2.1, v.v.2.2.2.2.2.1, v.v.2.2.2.2.2.2.1, v.v.2.2.2.2.2.2.2.1, v.v.2.2.2.2.2.2.2.2.1, ()) : InodeR)) TTryz.ag38 TTryz.sz38 rfl hxs12 hs fun y21 hy21 => TO_bs [y21] ([(Rec.mk (v.v.1, v.v.2.1, v.v.2.2.1, (IntKind.i64.wrap (v.v.2.2.2.1 + 1)), v.v.2.2.2.2.1, v.v.2.2.2.2.2.1, v.v.2.2.2.2.2.2.1, v.v.2.2.2.2.2.2.2.1, v.v.2.2.2.2.2.2.2.2.1, ()) : InodeR)] : (List InodeR)) Tryz.underlying22 TTryz.ef38 rfl rfl rfl (Nat.le_of_ble_eq_true rfl) ⟨hy21, trivial⟩ fun z1 hz1 hz1c hz1n => ?_
          obtain ⟨r_13, hx14, h⟩ := bs h
          refine TO_fnG (f := fun a : FsR × (List InodeR) × Unit => plain_with a.1 a.2.1) (a := (r_10, [(Rec.mk (v.v.1, v.v.2.1, v.v.2.2.1, (IntKind.i64.wrap (v.v.2.2.2.1 + 1)), v.v.2.2.2.2.1, v.v.2.2.2.2.2.1, v.v.2.2.2.2.2.2.1, v.v.2.2.2.2.2.2.2.1, v.v.2.2.2.2.2.2.2.2.1, ()) : InodeR)], ())) rfl Tryz.func28 rfl rfl (.cons (a := (r_10 : FsR)) hy20 (.cons (a := ([(Rec.mk (v.v.1, v.v.2.1, v.v.2.2.1, (IntKind.i64.wrap (v.v.2.2.2.1 + 1)), v.v.2.2.2.2.1, v.v.2.2.2.2.2.1, v.v.2.2.2.2.2.2.1, v.v.2.2.2.2.2.2.2.1, v.v.2.2.2.2.2.2.2.2.1, ()) : InodeR)] : (List InodeR))) hz1 .nil)) hs (List.mem_cons_of_mem _ (List.mem_cons_of_mem _ (List.mem_cons_of_mem _ (List.mem_cons_of_mem _ (List.mem_cons_of_mem _ List.mem_cons_self))))) hx14 ?_
          replace hs := Hp.front [(.cells m3 xs12)] (b := [(.cells m2 xs1), (.cells m xs), (.cells m1 TTryz.zx24), (.gl (NG mx))]) hs
          refine TO_stR (r := r_13) TTryz.sz24 rfl rfl hxs9 (Enc.self r_13) hs fun xs13 s hxs13 hs => TO_nil ?_
          exact ⟨r_13, xs13, hxs13, ⟨rfl, rfl, rfl, trivial⟩, (Hp.front [(.cells m1 TTryz.zx24), (.gl (NG mx)), (.cells m4 xs13)] (b := []) (Hp.front [(.gl (NG mx)), (.cells m4 xs13), (.cells m xs)] (b := []) (Hp.front [(.cells m4 xs13), (.cells m xs), (.cells m1 TTryz.zx24)] (b := []) (Hp.front [] (b := [(.cells m xs), (.cells m1 TTryz.zx24), (.gl (NG mx))]) (Hp.drop [(.cells m4 xs13)] (b := [(.cells m xs), (.cells m1 TTryz.zx24), (.gl (NG mx))]) (Hp.drop [(.cells m4 xs13)] (b := [(.cells m2 xs1), (.cells m xs), (.cells m1 TTryz.zx24), (.gl (NG mx))]) hs)))))), h⟩
         ·rename_i hcond
          refine TC_cond_f rfl hcond <| TC_skip ?_
          exact ⟨r_10, xs9, hxs9, ⟨rfl, rfl, rfl, trivial⟩, (Hp.front [(.cells m1 TTryz.zx24), (.gl (NG mx)), (.cells m4 xs9)] (b := []) (Hp.front [(.gl (NG mx)), (.cells m4 xs9), (.cells m xs)] (b := []) (Hp.front [(.cells m4 xs9), (.cells m xs), (.cells m1 TTryz.zx24)] (b := []) (Hp.front [] (b := [(.cells m xs), (.cells m1 TTryz.zx24), (.gl (NG mx))]) (Hp.drop [(.cells m4 xs9), (.cells m xs)] (b := [(.cells m1 TTryz.zx24), (.gl (NG mx))]) (Hp.drop [(.cells m4 xs9)] (b := [(.cells m xs), (.cells m3 xs6), (.cells m1 TTryz.zx24), (.gl (NG mx))]) hs)))))), h⟩
        ·rintro φ s ⟨out_, xs_out_, hxs_out_, hF, hs, h⟩
         rw [← hF.eq]
         unfold plain_enter_j1 at h
         refine TC_seq <| TC_seq <| TC_reg ?_
         replace hs := Hp.front [(.cells m xs), (.cells m1 TTryz.zx24), (.gl (NG mx))] (b := []) hs
         refine TO_ldW (r := out_) TTryz.ag24 TTryz.sz24 rfl hxs_out_ hs fun y16 hy16 => ?_
         obtain ⟨r_11, hx12, h⟩ := bs h
         refine TO_fnG (f := fun a : FsR × Unit => plain_Check a.1) (a := (out_, ())) rfl Tryz.func25 rfl rfl (.cons (a := (out_ : FsR)) hy16 .nil) hs (List.mem_cons_of_mem _ (List.mem_cons_of_mem _ (List.mem_cons_of_mem _ List.mem_cons_self))) hx12 <| TO_un (v := (enc ((!r_11) : Bool))) rfl rfl <| TO_nil ?_
         split at h
         ·rename_i hcond
          refine TC_cond_t rfl hcond <| TC_seq <| TC_drawn (by decide +kernel) (by kernel_rfl) ?_
          replace hs := Hp.front [(.cells m4 xs_out_)] (b := [(.cells m1 TTryz.zx24), (.gl (NG mx))]) hs
          refine TO_ldW (r := f) TTryz.ag24 TTryz.sz24 rfl hxs hs fun y17 hy17 => ?_
          obtain ⟨r_12, hx13, h⟩ := bs h
          refine TO_fn (f := fun a : Int × Unit => plain_no a.1) (a := (2, ())) rfl Tryz.func65 rfl rfl (.cons (a := (2 : Int)) (rfl : is _ (2 : Int)) .nil) hx13 ?_
          replace hs := Hp.front [(.cells m xs), (.cells m4 xs_out_)] (b := [(.gl (NG mx))]) hs
          refine TO_stR (r := f) TTryz.sz24 rfl rfl TTryz.zf24 hy17 hs fun xs10 s hxs10 hs => TO_as rfl <| TO_nil <| TC_ret ?_
          obtain ⟨w6, hlw6, hw6⟩ := ldW (r := f) TTryz.ag24 TTryz.sz24 hxs10 hs
          rw [← Option.some.inj h]
          exact ⟨rfl, KEc2 (a1 := (f : FsR)) (a2 := (r_12 : (Err 111))) rfl (.cell rfl hlw6 (.tmp rfl .nil)) hw6 (Enc.self r_12) ⟨_, _, rfl, hw6, (Enc.self r_12)⟩⟩
         ·rename_i hcond
          refine TC_cond_f rfl hcond <| TC_skip <| TC_seq <| TC_reg <| TO_ldW (r := out_) TTryz.ag24 TTryz.sz24 rfl hxs_out_ hs fun y18 hy18 => ?_
          replace hs := Hp.front [(.cells m4 xs_out_), (.cells m xs)] (b := [(.gl (NG mx))]) hs
          refine TO_stR (r := out_) TTryz.sz24 rfl rfl TTryz.zf24 hy18 hs fun xs11 s hxs11 hs => TO_as (v := .nifc) rfl <| TO_nil <| TC_ret ?_
          obtain ⟨w7, hlw7, hw7⟩ := ldW (r := out_) TTryz.ag24 TTryz.sz24 hxs11 hs
          rw [← Option.some.inj h]
          exact ⟨rfl, KEc2 (a1 := (out_ : FsR)) (a2 := ((Err.mk none : Err 111) : (Err 111))) rfl (.cell rfl hlw7 (.tmp rfl .nil)) hw7 rfl ⟨_, _, rfl, hw7, rfl⟩⟩
theorem plain_enter_pc (mx : Int) : PureC Tryz.prog 39 (FnG (NG mx) (fun a : FsR × Int × Str × Int × Unit => plain_enter a.1 a.2.1 a.2.2.1 a.2.2.2.1)) := fnCG (pu7_ok mx) ⟨_, Tryz.func39, rfl⟩ <| fun a r h => plain_enter_wf mx a.1 a.2.1 a.2.2.1 a.2.2.2.1 r h
noncomputable def pu8 (mx : Int) : Prims := (pu7 mx).addG 39 (FnG (NG mx) (fun a : FsR × Int × Str × Int × Unit => plain_enter a.1 a.2.1 a.2.2.1 a.2.2.2.1))
theorem pu8_ok (mx : Int) : PrimsOk Tryz.prog (pu8 mx) := primsOk_addG (pu7_ok mx) (plain_enter_pc mx)
theorem plain_Enter_wf (mx : Int) (f : FsR) (dir : Int) (s_ : Str) (num : Int) (r : FsR × Int) (h : plain_Enter f dir s_ num = some r) : MF Tryz.prog (pu8 mx) 16 [enc f, enc dir, enc s_, enc num] (sG (NG mx)) fun v _ => ris v r := by
 refine TF_run [(0, enc f), (1, enc dir), (2, enc s_), (3, enc num)] Tryz.func16 rfl (by simp only [Tryz.f16]; rfl) fun ψ => ?_
 unfold plain_Enter at h
 have hs : Hp (sG (NG mx)) [.gl (NG mx)] := Hp.gl0
 refine TC_seq <| TC_reg <| TO_bxR (r := f) rfl (Enc.self f) hs fun m xs s hxs hs => TO_alR (r := (Rec.mk (([] : (List InodeR)), (0 : Int), ()) : FsR)) TTryz.zr24 TTryz.zf24 hs fun m1 s hs => TO_as (v := (enc (0 : Int))) rfl <| TO_nil <| TC_seq <| TC_reg ?_
 replace hs := Hp.front [(.cells m1 TTryz.zx24)] (b := [(.gl (NG mx))]) hs
 refine TO_ldW (r := f) TTryz.ag24 TTryz.sz24 rfl hxs hs fun y hy => TO_mv rfl <| TO_mv rfl <| TO_mv rfl ?_
 obtain ⟨r_, hx, h⟩ := bs h
 refine TO_fnG (f := fun a : FsR × Int × Str × Int × Unit => plain_enter a.1 a.2.1 a.2.2.1 a.2.2.2.1) (a := (f, dir, s_, num, ())) rfl Tryz.func39 rfl rfl (.cons (a := (f : FsR)) hy (.cons (a := (dir : Int)) (Enc.self _) (.cons (a := (s_ : Str)) (Enc.self _) (.cons (a := (num : Int)) (Enc.self _) .nil)))) hs (List.mem_cons_of_mem _ (List.mem_cons_of_mem _ List.mem_cons_self)) hx <| TO_mv (v := (res r_)) rfl <| TO_ex rfl rfl <| TO_ex rfl rfl <| TO_alR (r := (Rec.mk (([] : (List InodeR)), (0 : Int), ()) : FsR)) TTryz.zr24 TTryz.zf24 hs fun m2 s hs => TO_stR (r := r_.1) TTryz.sz24 rfl rfl TTryz.zf24 (Enc.self r_.1) hs fun xs1 s hxs1 hs => TO_as rfl <| TO_nil <| TC_seq <| TC_drawn (by decide +kernel) (by kernel_rfl) <| TO_ldW (r := r_.1) TTryz.ag24 TTryz.sz24 rfl hxs1 hs fun y1 hy1 => TO_mv rfl ?_
 obtain ⟨r_1, hx1, h⟩ := bs h
 refine TO_fnG (f := fun a : (Err 111) × Unit => plain_errno a.1) (a := (r_.2, ())) rfl Tryz.func40 rfl rfl (.cons (a := (r_.2 : (Err 111))) (Enc.self r_.2) .nil) hs (List.mem_cons_of_mem _ (List.mem_cons_of_mem _ (List.mem_cons_of_mem _ List.mem_cons_self))) hx1 ?_
 replace hs := Hp.front [(.cells m2 xs1), (.cells m xs)] (b := [(.gl (NG mx))]) hs
 refine TO_stR (r := r_.1) TTryz.sz24 rfl rfl TTryz.zf24 hy1 hs fun xs2 s hxs2 hs => TO_as rfl <| TO_nil <| TC_ret ?_
 obtain ⟨w, hlw, hw⟩ := ldW (r := r_.1) TTryz.ag24 TTryz.sz24 hxs2 hs
 rw [← Option.some.inj h]
 exact ⟨rfl, KEc2 (a1 := (r_.1 : FsR)) (a2 := (r_1 : Int)) rfl (.cell rfl hlw (.tmp rfl .nil)) hw (rfl : is _ (r_1 : Int)) ⟨_, _, rfl, hw, (rfl : is _ (r_1 : Int))⟩⟩
theorem plain_Enter_pc (mx : Int) : PureC Tryz.prog 16 (FnG (NG mx) (fun a : FsR × Int × Str × Int × Unit => plain_Enter a.1 a.2.1 a.2.2.1 a.2.2.2.1)) := fnCG (pu8_ok mx) ⟨_, Tryz.func16, rfl⟩ <| fun a r h => plain_Enter_wf mx a.1 a.2.1 a.2.2.1 a.2.2.2.1 r h
noncomputable def pu9 (mx : Int) : Prims := (pu8 mx).addG 16 (FnG (NG mx) (fun a : FsR × Int × Str × Int × Unit => plain_Enter a.1 a.2.1 a.2.2.1 a.2.2.2.1))
theorem pu9_ok (mx : Int) : PrimsOk Tryz.prog (pu9 mx) := primsOk_addG (pu8_ok mx) (plain_Enter_pc mx)
theorem plain_Leave_wf (mx : Int) (f : FsR) (dir : Int) (s_ : Str) (r : FsR × Int × Int) (h : plain_Leave f dir s_ = some r) : MF Tryz.prog (pu9 mx) 19 [enc f, enc dir, enc s_] (sG (NG mx)) fun v _ => ris v r := by
 refine TF_run [(0, enc f), (1, enc dir), (2, enc s_)] Tryz.func19 rfl (by simp only [Tryz.f19]; rfl) fun ψ => ?_
 unfold plain_Leave at h
 have hs : Hp (sG (NG mx)) [.gl (NG mx)] := Hp.gl0
 refine TC_seq <| TC_reg <| TO_bxR (r := f) rfl (Enc.self f) hs fun m xs s hxs hs => TO_alR (r := (Rec.mk (([] : (List InodeR)), (0 : Int), ()) : FsR)) TTryz.zr24 TTryz.zf24 hs fun m1 s hs => TO_as (v := (enc (0 : Int))) rfl <| TO_as (v := (enc (0 : Int))) rfl <| TO_nil <| TC_seq <| TC_reg ?_
 replace hs := Hp.front [(.cells m1 TTryz.zx24)] (b := [(.gl (NG mx))]) hs
 refine TO_ldW (r := f) TTryz.ag24 TTryz.sz24 rfl hxs hs fun y hy => TO_mv rfl <| TO_mv rfl ?_
 obtain ⟨r_, hx, h⟩ := bs h
 refine TO_fnG (f := fun a : FsR × Int × Str × Unit => plain_Lookup a.1 a.2.1 a.2.2.1) (a := (f, dir, s_, ())) rfl Tryz.func18 rfl rfl (.cons (a := (f : FsR)) hy (.cons (a := (dir : Int)) (Enc.self _) (.cons (a := (s_ : Str)) (Enc.self _) .nil))) hs (List.mem_cons_of_mem _ (List.mem_cons_of_mem _ List.mem_cons_self)) hx <| TO_mv (v := (res r_)) rfl <| TO_ex rfl rfl <| TO_ex rfl rfl <| TO_as rfl <| TO_as rfl <| TO_nil <| TC_seq <| TC_seq <| TC_reg <| TO_mv rfl <| TO_bi (v := (enc ((r_.2 != 0) : Bool))) rfl rfl rfl <| TO_nil ?_
 split at h
 ·rename_i hcond
  refine TC_cond_t rfl hcond <| TC_seq <| TC_reg <| TO_ldW (r := f) TTryz.ag24 TTryz.sz24 rfl hxs hs fun y1 hy1 => TO_mv rfl ?_
  replace hs := Hp.front [(.cells m xs)] (b := [(.gl (NG mx))]) hs
  refine TO_stR (r := f) TTryz.sz24 rfl rfl TTryz.zf24 hy1 hs fun xs1 s hxs1 hs => TO_as (v := (enc (0 : Int))) rfl <| TO_as rfl <| TO_nil <| TC_ret ?_
  obtain ⟨w, hlw, hw⟩ := ldW (r := f) TTryz.ag24 TTryz.sz24 hxs1 hs
  rw [← Option.some.inj h]
  exact ⟨rfl, KEc3 (a1 := (f : FsR)) (a2 := (0 : Int)) (a3 := (r_.2 : Int)) rfl (.cell rfl hlw (.tmp rfl (.tmp rfl .nil))) hw (rfl : is _ (0 : Int)) (rfl : is _ (r_.2 : Int)) ⟨_, _, _, rfl, hw, (rfl : is _ (0 : Int)), (rfl : is _ (r_.2 : Int))⟩⟩
 ·rename_i hcond
  refine TC_cond_f rfl hcond <| TC_skip <| TC_seq <| TC_drawn2 14 (by decide +kernel) (by kernel_rfl) (by kernel_rfl) ?_ ?_
  ·refine TO_fv TTryz.fl24_0 rfl ?_
   refine TO_ldV TTryz.ag22 Sel.zero rfl hxs hs fun y2 hy2 => TO_ldW (r := f) TTryz.ag24 TTryz.sz24 rfl hxs hs fun y3 hy3 => TO_mv rfl ?_
   obtain ⟨r_1, hx1, h⟩ := bs h
   refine TO_fn (f := fun a : FsR × Int × Unit => plain_Find a.1 a.2.1) (a := (f, dir, ())) rfl Tryz.func13 rfl rfl (.cons (a := (f : FsR)) hy3 (.cons (a := (dir : Int)) (Enc.self _) .nil)) hx1 ?_
   obtain ⟨v, hx2, h⟩ := bs h
   refine TO_ix Tryz.underlying22 TTryz.sh38 rfl rfl hy2 hx2 fun p hp => TO_ldE TTryz.ag38 TTryz.sz38 rfl hp fun y4 hy4 => TO_fv TTryz.fl24_0 rfl <| TO_ldV TTryz.ag22 Sel.zero rfl hxs hs fun y5 hy5 => TO_ldW (r := f) TTryz.ag24 TTryz.sz24 rfl hxs hs fun y6 hy6 => TO_mv rfl ?_
   obtain ⟨r_2, hx3, h⟩ := bs h
   refine TO_fn (f := fun a : FsR × Int × Unit => plain_Find a.1 a.2.1) (a := (f, r_.1, ())) rfl Tryz.func13 rfl rfl (.cons (a := (f : FsR)) hy6 (.cons (a := (r_.1 : Int)) (Enc.self _) .nil)) hx3 ?_
   obtain ⟨v1, hx4, h⟩ := bs h
   refine TO_ix Tryz.underlying22 TTryz.sh38 rfl rfl hy5 hx4 fun p1 hp1 => TO_ldE TTryz.ag38 TTryz.sz38 rfl hp1 fun y7 hy7 => TO_alR (r := (Rec.mk ((0 : Int), (0 : Int), (0 : Int), (0 : Int), ([] : (List UInt8)), (str []), ([] : (List Str)), ([] : (List Int)), ([] : (List AttrR)), ()) : InodeR)) TTryz.zr38 TTryz.zf38 hs fun m2 s hs => TO_alR (r := (Rec.mk ((0 : Int), (0 : Int), (0 : Int), (0 : Int), ([] : (List UInt8)), (str []), ([] : (List Str)), ([] : (List Int)), ([] : (List AttrR)), ()) : InodeR)) TTryz.zr38 TTryz.zf38 hs fun m3 s hs => ?_
   replace hs := Hp.front [(.cells m3 TTryz.zx38)] (b := [(.cells m xs), (.cells m1 TTryz.zx24), (.gl (NG mx))]) hs
   refine TO_stR (r := v) TTryz.sz38 rfl rfl TTryz.zf38 hy4 hs fun xs2 s hxs2 hs => ?_
   replace hs := Hp.front [(.cells m2 xs2)] (b := [(.cells m xs), (.cells m1 TTryz.zx24), (.gl (NG mx))]) hs
   refine TO_stR (r := v1) TTryz.sz38 rfl rfl TTryz.zf38 hy7 hs fun xs3 s hxs3 hs => TO_nil <| TC_seq <| TC_reg <| TO_fv TTryz.fl38_6 rfl ?_
   replace hs := Hp.front [(.cells m3 xs3)] (b := [(.cells m xs), (.cells m1 TTryz.zx24), (.gl (NG mx))]) hs
   refine TO_ldV TTryz.ag34 (Sel.succ (Sel.succ (Sel.succ (Sel.succ (Sel.succ (Sel.succ Sel.zero)))))) rfl hxs2 hs fun y8 hy8 => TO_mv rfl ?_
   obtain ⟨r_3, hx5, h⟩ := bs h
   refine TO_fn (f := fun a : (List Str) × Str × Unit => binS a.1 a.2.1) (a := (v.v.2.2.2.2.2.2.1, s_, ())) rfl Tryz.func45 rfl rfl (.cons (a := (v.v.2.2.2.2.2.2.1 : (List Str))) hy8 (.cons (a := (s_ : Str)) (Enc.self _) .nil)) hx5 <| TO_mv (v := (res r_3)) rfl <| TO_ex rfl rfl <| TO_ex rfl rfl <| TO_as rfl <| TO_as rfl <| TO_nil <| TC_seq <| TC_reg <| TO_fv TTryz.fl38_6 rfl <| TO_ldV TTryz.ag34 (Sel.succ (Sel.succ (Sel.succ (Sel.succ (Sel.succ (Sel.succ Sel.zero)))))) rfl hxs2 hs fun y9 hy9 => ?_
   obtain ⟨r_4, hx6, h⟩ := bs h
   refine TO_callM (by kernel_rfl) Tryz.func47 rfl (vs := [y9]) rfl (MF.any (sl_Clone2_wf v.v.2.2.2.2.2.2.1 _ hx6 hy9 (Hp.packG [] [(.cells m2 xs2), (.cells m3 xs3), (.cells m xs), (.cells m1 TTryz.zx24), (.gl (NG mx))] hs)) py13_ok) fun w1 s ⟨en, hm, hq_⟩ => ?_
   replace hs := Hp.unpackG [] [en] [(.cells m2 xs2), (.cells m3 xs3), (.cells m xs), (.cells m1 TTryz.zx24), (.gl (NG mx))] hs hq_
   refine TO_mv rfl <| TO_mv rfl <| TO_bi (v := (enc ((IntKind.i64.wrap (r_3.1 + 1)) : Int))) rfl rfl rfl ?_
   obtain ⟨r_5, hx7, h⟩ := bs h
   refine TO_callM (by kernel_rfl) Tryz.func46 rfl (vs := [w1, (enc (r_3.1 : Int)), (enc ((IntKind.i64.wrap (r_3.1 + 1)) : Int))]) rfl (MF.any (sl_Delete2_wf r_4 r_3.1 (IntKind.i64.wrap (r_3.1 + 1)) _ hx7 hm (Hp.packG [en] [(.cells m2 xs2), (.cells m3 xs3), (.cells m xs), (.cells m1 TTryz.zx24), (.gl (NG mx))] hs)) pz30_ok) fun w2 s ⟨en1, hm1, hq_⟩ => ?_
   replace hs := Hp.unpackG [en] [en1] [(.cells m2 xs2), (.cells m3 xs3), (.cells m xs), (.cells m1 TTryz.zx24), (.gl (NG mx))] hs hq_
   refine TO_frz (q := 53) rfl hm1 hs fun z s hz hs => TO_fv TTryz.fl38_6 rfl <| TO_stV (z := (r_5 : (List Str))) TTryz.sz34 (Sel.succ (Sel.succ (Sel.succ (Sel.succ (Sel.succ (Sel.succ Sel.zero)))))) rfl rfl hz hxs2 hs fun xs4 s hxs4 hs => TO_nil <| TC_seq <| TC_reg <| TO_fv TTryz.fl38_7 rfl <| TO_ldV TTryz.ag35 (Sel.succ (Sel.succ (Sel.succ (Sel.succ (Sel.succ (Sel.succ (Sel.succ Sel.zero))))))) rfl hxs4 hs fun y10 hy10 => ?_
   obtain ⟨r_6, hx8, h⟩ := bs h
   refine TO_callM (by kernel_rfl) Tryz.func49 rfl (vs := [y10]) rfl (MF.any (sl_Clone3_wf v.v.2.2.2.2.2.2.2.1 _ hx8 hy10 (Hp.packG [] [(.cells m2 xs4), (.cells m3 xs3), (.cells m xs), (.cells m1 TTryz.zx24), (.gl (NG mx))] hs)) py13_ok) fun w3 s ⟨en2, hm2, hq_⟩ => ?_
   replace hs := Hp.unpackG [] [en2] [(.cells m2 xs4), (.cells m3 xs3), (.cells m xs), (.cells m1 TTryz.zx24), (.gl (NG mx))] hs hq_
   refine TO_mv rfl <| TO_mv rfl <| TO_bi (v := (enc ((IntKind.i64.wrap (r_3.1 + 1)) : Int))) rfl rfl rfl ?_
   obtain ⟨r_7, hx9, h⟩ := bs h
   refine TO_callM (by kernel_rfl) Tryz.func48 rfl (vs := [w3, (enc (r_3.1 : Int)), (enc ((IntKind.i64.wrap (r_3.1 + 1)) : Int))]) rfl (MF.any (sl_Delete3_wf r_6 r_3.1 (IntKind.i64.wrap (r_3.1 + 1)) _ hx9 hm2 (Hp.packG [en2] [(.cells m2 xs4), (.cells m3 xs3), (.cells m xs), (.cells m1 TTryz.zx24), (.gl (NG mx))] hs)) pz30_ok) fun w4 s ⟨en3, hm3, hq_⟩ => ?_
   replace hs := Hp.unpackG [en2] [en3] [(.cells m2 xs4), (.cells m3 xs3), (.cells m xs), (.cells m1 TTryz.zx24), (.gl (NG mx))] hs hq_
   refine TO_frz (q := 61) rfl hm3 hs fun z1 s hz1 hs => TO_fv TTryz.fl38_7 rfl <| TO_stV (z := (r_7 : (List Int))) TTryz.sz35 (Sel.succ (Sel.succ (Sel.succ (Sel.succ (Sel.succ (Sel.succ (Sel.succ Sel.zero))))))) rfl rfl hz1 hxs4 hs fun xs5 s hxs5 hs => TO_nil <| TC_seq <| TC_seq <| TC_reg <| TO_fv TTryz.fl38_1 rfl ?_
   replace hs := Hp.front [(.cells m2 xs5)] (b := [(.cells m xs), (.cells m1 TTryz.zx24), (.gl (NG mx))]) hs
   refine TO_ldV TTryz.ag25 (Sel.succ Sel.zero) rfl hxs3 hs fun y11 hy11 => ?_
   cases hy11
   refine TO_bi (v := (enc ((v1.v.2.1 != 2) : Bool))) rfl rfl rfl <| TO_nil ?_
   split at h
   ·rename_i hcond
    refine TC_cond_t rfl hcond <| TC_seq <| TC_reg <| TO_fv TTryz.fl38_3 rfl <| TO_ldV TTryz.ag3 (Sel.succ (Sel.succ (Sel.succ Sel.zero))) rfl hxs3 hs fun y12 hy12 => ?_
    cases hy12
    refine TO_bi (v := (enc ((IntKind.i64.wrap (v1.v.2.2.2.1 - 1)) : Int))) rfl rfl rfl <| TO_fv TTryz.fl38_3 rfl <| TO_stV (z := ((IntKind.i64.wrap (v1.v.2.2.2.1 - 1)) : Int)) TTryz.sz3 (Sel.succ (Sel.succ (Sel.succ Sel.zero))) rfl rfl (rfl : is _ ((IntKind.i64.wrap (v1.v.2.2.2.1 - 1)) : Int)) hxs3 hs fun xs6 s hxs6 hs => TO_nil <| TC_seq <| TC_reg ?_
    replace hs := Hp.front [(.cells m3 xs6), (.cells m2 xs5)] (b := [(.cells m1 TTryz.zx24), (.gl (NG mx))]) hs
    refine TO_ldW (r := f) TTryz.ag24 TTryz.sz24 rfl hxs hs fun y13 hy13 => ?_
    replace hs := Hp.front [(.cells m xs), (.cells m3 xs6)] (b := [(.cells m1 TTryz.zx24), (.gl (NG mx))]) hs
    refine TO_ldW (r := (Rec.mk (v.v.1, v.v.2.1, v.v.2.2.1, v.v.2.2.2.1, v.v.2.2.2.2.1, v.v.2.2.2.2.2.1, r_5, r_7, v.v.2.2.2.2.2.2.2.2.1, ()) : InodeR)) TTryz.ag38 TTryz.sz38 rfl hxs5 hs fun y14 hy14 => ?_
    replace hs := Hp.front [(.cells m2 xs5), (.cells m xs)] (b := [(.cells m1 TTryz.zx24), (.gl (NG mx))]) hs
    refine TO_ldW (r := (Rec.mk (v1.v.1, v1.v.2.1, v1.v.2.2.1, (IntKind.i64.wrap (v1.v.2.2.2.1 - 1)), v1.v.2.2.2.2.1, v1.v.2.2.2.2.2.1, v1.v.2.2.2.2.2.2.1, v1.v.2.2.2.2.2.2.2.1, v1.v.2.2.2.2.2.2.2.2.1, ()) : InodeR)) TTryz.ag38 TTryz.sz38 rfl hxs6 hs fun y15 hy15 => TO_bs [y14, y15] ([(Rec.mk (v.v.1, v.v.2.1, v.v.2.2.1, v.v.2.2.2.1, v.v.2.2.2.2.1, v.v.2.2.2.2.2.1, r_5, r_7, v.v.2.2.2.2.2.2.2.2.1, ()) : InodeR), (Rec.mk (v1.v.1, v1.v.2.1, v1.v.2.2.1, (IntKind.i64.wrap (v1.v.2.2.2.1 - 1)), v1.v.2.2.2.2.1, v1.v.2.2.2.2.2.1, v1.v.2.2.2.2.2.2.1, v1.v.2.2.2.2.2.2.2.1, v1.v.2.2.2.2.2.2.2.2.1, ()) : InodeR)] : (List InodeR)) Tryz.underlying22 TTryz.ef38 rfl rfl rfl (Nat.le_of_ble_eq_true rfl) ⟨hy14, hy15, trivial⟩ fun z2 hz2 hz2c hz2n => ?_
    obtain ⟨r_8, hx10, h⟩ := bs h
    refine TO_fnG (f := fun a : FsR × (List InodeR) × Unit => plain_with a.1 a.2.1) (a := (f, [(Rec.mk (v.v.1, v.v.2.1, v.v.2.2.1, v.v.2.2.2.1, v.v.2.2.2.2.1, v.v.2.2.2.2.2.1, r_5, r_7, v.v.2.2.2.2.2.2.2.2.1, ()) : InodeR), (Rec.mk (v1.v.1, v1.v.2.1, v1.v.2.2.1, (IntKind.i64.wrap (v1.v.2.2.2.1 - 1)), v1.v.2.2.2.2.1, v1.v.2.2.2.2.2.1, v1.v.2.2.2.2.2.2.1, v1.v.2.2.2.2.2.2.2.1, v1.v.2.2.2.2.2.2.2.2.1, ()) : InodeR)], ())) rfl Tryz.func28 rfl rfl (.cons (a := (f : FsR)) hy13 (.cons (a := ([(Rec.mk (v.v.1, v.v.2.1, v.v.2.2.1, v.v.2.2.2.1, v.v.2.2.2.2.1, v.v.2.2.2.2.2.1, r_5, r_7, v.v.2.2.2.2.2.2.2.2.1, ()) : InodeR), (Rec.mk (v1.v.1, v1.v.2.1, v1.v.2.2.1, (IntKind.i64.wrap (v1.v.2.2.2.1 - 1)), v1.v.2.2.2.2.1, v1.v.2.2.2.2.2.1, v1.v.2.2.2.2.2.2.1, v1.v.2.2.2.2.2.2.2.1, v1.v.2.2.2.2.2.2.2.2.1, ()) : InodeR)] : (List InodeR))) hz2 .nil)) hs (List.mem_cons_of_mem _ (List.mem_cons_of_mem _ (List.mem_cons_of_mem _ (List.mem_cons_of_mem _ List.mem_cons_self)))) hx10 <| TO_mv rfl ?_
    replace hs := Hp.front [(.cells m3 xs6), (.cells m2 xs5), (.cells m xs)] (b := [(.gl (NG mx))]) hs
    refine TO_stR (r := r_8) TTryz.sz24 rfl rfl TTryz.zf24 (Enc.self r_8) hs fun xs7 s hxs7 hs => TO_as rfl <| TO_as (v := (enc (0 : Int))) rfl <| TO_nil <| TC_ret ?_
    obtain ⟨w5, hlw5, hw5⟩ := ldW (r := r_8) TTryz.ag24 TTryz.sz24 hxs7 hs
    rw [← Option.some.inj h]
    exact ⟨rfl, KEc3 (a1 := (r_8 : FsR)) (a2 := (r_.1 : Int)) (a3 := (0 : Int)) rfl (.cell rfl hlw5 (.tmp rfl (.tmp rfl .nil))) hw5 (rfl : is _ (r_.1 : Int)) (rfl : is _ (0 : Int)) ⟨_, _, _, rfl, hw5, (rfl : is _ (r_.1 : Int)), (rfl : is _ (0 : Int))⟩⟩
   ·rename_i hcond
    refine TC_cond_f rfl hcond <| TC_skip <| TC_seq <| TC_reg ?_
    replace hs := Hp.front [(.cells m3 xs3), (.cells m2 xs5)] (b := [(.cells m1 TTryz.zx24), (.gl (NG mx))]) hs
    refine TO_ldW (r := f) TTryz.ag24 TTryz.sz24 rfl hxs hs fun y16 hy16 => ?_
    replace hs := Hp.front [(.cells m xs), (.cells m3 xs3)] (b := [(.cells m1 TTryz.zx24), (.gl (NG mx))]) hs
    refine TO_ldW (r := (Rec.mk (v.v.1, v.v.2.1, v.v.2.2.1, v.v.2.2.2.1, v.v.2.2.2.2.1, v.v.2.2.2.2.2.1, r_5, r_7, v.v.2.2.2.2.2.2.2.2.1, ()) : InodeR)) TTryz.ag38 TTryz.sz38 rfl hxs5 hs fun y17 hy17 => TO_bs [y17] ([(Rec.mk (v.v.1, v.v.2.1, v.v.2.2.1, v.v.2.2.2.1, v.v.2.2.2.2.1, v.v.2.2.2.2.2.1, r_5, r_7, v.v.2.2.2.2.2.2.2.2.1, ()) : InodeR)] : (List InodeR)) Tryz.underlying22 TTryz.ef38 rfl rfl rfl (Nat.le_of_ble_eq_true rfl) ⟨hy17, trivial⟩ fun z3 hz3 hz3c hz3n => ?_
    obtain ⟨r_9, hx11, h⟩ := bs h
    refine TO_fnG (f := fun a : FsR × (List InodeR) × Unit => plain_with a.1 a.2.1) (a := (f, [(Rec.mk (v.v.1, v.v.2.1, v.v.2.2.1, v.v.2.2.2.1, v.v.2.2.2.2.1, v.v.2.2.2.2.2.1, r_5, r_7, v.v.2.2.2.2.2.2.2.2.1, ()) : InodeR)], ())) rfl Tryz.func28 rfl rfl (.cons (a := (f : FsR)) hy16 (.cons (a := ([(Rec.mk (v.v.1, v.v.2.1, v.v.2.2.1, v.v.2.2.2.1, v.v.2.2.2.2.1, v.v.2.2.2.2.2.1, r_5, r_7, v.v.2.2.2.2.2.2.2.2.1, ()) : InodeR)] : (List InodeR))) hz3 .nil)) hs (List.mem_cons_of_mem _ (List.mem_cons_of_mem _ (List.mem_cons_of_mem _ (List.mem_cons_of_mem _ List.mem_cons_self)))) hx11 <| TO_mv rfl ?_
    replace hs := Hp.front [(.cells m2 xs5), (.cells m xs), (.cells m3 xs3)] (b := [(.gl (NG mx))]) hs
    refine TO_stR (r := r_9) TTryz.sz24 rfl rfl TTryz.zf24 (Enc.self r_9) hs fun xs8 s hxs8 hs => TO_as rfl <| TO_as (v := (enc (0 : Int))) rfl <| TO_nil <| TC_ret ?_
    obtain ⟨w6, hlw6, hw6⟩ := ldW (r := r_9) TTryz.ag24 TTryz.sz24 hxs8 hs
    rw [← Option.some.inj h]
    exact ⟨rfl, KEc3 (a1 := (r_9 : FsR)) (a2 := (r_.1 : Int)) (a3 := (0 : Int)) rfl (.cell rfl hlw6 (.tmp rfl (.tmp rfl .nil))) hw6 (rfl : is _ (r_.1 : Int)) (rfl : is _ (0 : Int)) ⟨_, _, _, rfl, hw6, (rfl : is _ (r_.1 : Int)), (rfl : is _ (0 : Int))⟩⟩
  ·refine TO_fv TTryz.fl24_0 rfl ?_
   refine TO_ldV TTryz.ag22 Sel.zero rfl hxs hs fun y2 hy2 => TO_ldW (r := f) TTryz.ag24 TTryz.sz24 rfl hxs hs fun y3 hy3 => TO_mv rfl ?_
   obtain ⟨r_1, hx1, h⟩ := bs h
   refine TO_fn (f := fun a : FsR × Int × Unit => plain_Find a.1 a.2.1) (a := (f, dir, ())) rfl Tryz.func13 rfl rfl (.cons (a := (f : FsR)) hy3 (.cons (a := (dir : Int)) (Enc.self _) .nil)) hx1 ?_
   obtain ⟨v, hx2, h⟩ := bs h
   refine TO_ix Tryz.underlying22 TTryz.sh38 rfl rfl hy2 hx2 fun p hp => TO_ldE TTryz.ag38 TTryz.sz38 rfl hp fun y4 hy4 => TO_fv TTryz.fl24_0 rfl <| TO_ldV TTryz.ag22 Sel.zero rfl hxs hs fun y5 hy5 => TO_ldW (r := f) TTryz.ag24 TTryz.sz24 rfl hxs hs fun y6 hy6 => TO_mv rfl ?_
   obtain ⟨r_2, hx3, h⟩ := bs h
   refine TO_fn (f := fun a : FsR × Int × Unit => plain_Find a.1 a.2.1) (a := (f, r_.1, ())) rfl Tryz.func13 rfl rfl (.cons (a := (f : FsR)) hy6 (.cons (a := (r_.1 : Int)) (Enc.self _) .nil)) hx3 ?_
   obtain ⟨v1, hx4, h⟩ := bs h
   refine TO_ix Tryz.underlying22 TTryz.sh38 rfl rfl hy5 hx4 fun p1 hp1 => TO_ldE TTryz.ag38 TTryz.sz38 rfl hp1 fun y7 hy7 => TO_alR (r := (Rec.mk ((0 : Int), (0 : Int), (0 : Int), (0 : Int), ([] : (List UInt8)), (str []), ([] : (List Str)), ([] : (List Int)), ([] : (List AttrR)), ()) : InodeR)) TTryz.zr38 TTryz.zf38 hs fun m2 s hs => TO_alR (r := (Rec.mk ((0 : Int), (0 : Int), (0 : Int), (0 : Int), ([] : (List UInt8)), (str []), ([] : (List Str)), ([] : (List Int)), ([] : (List AttrR)), ()) : InodeR)) TTryz.zr38 TTryz.zf38 hs fun m3 s hs => TO_stR (r := v) TTryz.sz38 rfl rfl TTryz.zf38 hy4 hs fun xs2 s hxs2 hs => ?_
   replace hs := Hp.front [(.cells m3 xs2)] (b := [(.cells m xs), (.cells m1 TTryz.zx24), (.gl (NG mx))]) hs
   refine TO_stR (r := v1) TTryz.sz38 rfl rfl TTryz.zf38 hy7 hs fun xs3 s hxs3 hs => TO_nil <| TC_seq <| TC_reg <| TO_fv TTryz.fl38_6 rfl ?_
   replace hs := Hp.front [(.cells m2 xs3)] (b := [(.cells m xs), (.cells m1 TTryz.zx24), (.gl (NG mx))]) hs
   refine TO_ldV TTryz.ag34 (Sel.succ (Sel.succ (Sel.succ (Sel.succ (Sel.succ (Sel.succ Sel.zero)))))) rfl hxs2 hs fun y8 hy8 => TO_mv rfl ?_
   obtain ⟨r_3, hx5, h⟩ := bs h
   refine TO_fn (f := fun a : (List Str) × Str × Unit => binS a.1 a.2.1) (a := (v.v.2.2.2.2.2.2.1, s_, ())) rfl Tryz.func45 rfl rfl (.cons (a := (v.v.2.2.2.2.2.2.1 : (List Str))) hy8 (.cons (a := (s_ : Str)) (Enc.self _) .nil)) hx5 <| TO_mv (v := (res r_3)) rfl <| TO_ex rfl rfl <| TO_ex rfl rfl <| TO_as rfl <| TO_as rfl <| TO_nil <| TC_seq <| TC_reg <| TO_fv TTryz.fl38_6 rfl <| TO_ldV TTryz.ag34 (Sel.succ (Sel.succ (Sel.succ (Sel.succ (Sel.succ (Sel.succ Sel.zero)))))) rfl hxs2 hs fun y9 hy9 => ?_
   obtain ⟨r_4, hx6, h⟩ := bs h
   refine TO_callM (by kernel_rfl) Tryz.func47 rfl (vs := [y9]) rfl (MF.any (sl_Clone2_wf v.v.2.2.2.2.2.2.1 _ hx6 hy9 (Hp.packG [] [(.cells m3 xs2), (.cells m2 xs3), (.cells m xs), (.cells m1 TTryz.zx24), (.gl (NG mx))] hs)) py13_ok) fun w1 s ⟨en, hm, hq_⟩ => ?_
   replace hs := Hp.unpackG [] [en] [(.cells m3 xs2), (.cells m2 xs3), (.cells m xs), (.cells m1 TTryz.zx24), (.gl (NG mx))] hs hq_
   refine TO_mv rfl <| TO_mv rfl <| TO_bi (v := (enc ((IntKind.i64.wrap (r_3.1 + 1)) : Int))) rfl rfl rfl ?_
   obtain ⟨r_5, hx7, h⟩ := bs h
   refine TO_callM (by kernel_rfl) Tryz.func46 rfl (vs := [w1, (enc (r_3.1 : Int)), (enc ((IntKind.i64.wrap (r_3.1 + 1)) : Int))]) rfl (MF.any (sl_Delete2_wf r_4 r_3.1 (IntKind.i64.wrap (r_3.1 + 1)) _ hx7 hm (Hp.packG [en] [(.cells m3 xs2), (.cells m2 xs3), (.cells m xs), (.cells m1 TTryz.zx24), (.gl (NG mx))] hs)) pz30_ok) fun w2 s ⟨en1, hm1, hq_⟩ => ?_
   replace hs := Hp.unpackG [en] [en1] [(.cells m3 xs2), (.cells m2 xs3), (.cells m xs), (.cells m1 TTryz.zx24), (.gl (NG mx))] hs hq_
   refine TO_frz (q := 53) rfl hm1 hs fun z s hz hs => TO_fv TTryz.fl38_6 rfl <| TO_stV (z := (r_5 : (List Str))) TTryz.sz34 (Sel.succ (Sel.succ (Sel.succ (Sel.succ (Sel.succ (Sel.succ Sel.zero)))))) rfl rfl hz hxs2 hs fun xs4 s hxs4 hs => TO_nil <| TC_seq <| TC_reg <| TO_fv TTryz.fl38_7 rfl <| TO_ldV TTryz.ag35 (Sel.succ (Sel.succ (Sel.succ (Sel.succ (Sel.succ (Sel.succ (Sel.succ Sel.zero))))))) rfl hxs4 hs fun y10 hy10 => ?_
   obtain ⟨r_6, hx8, h⟩ := bs h
   refine TO_callM (by kernel_rfl) Tryz.func49 rfl (vs := [y10]) rfl (MF.any (sl_Clone3_wf v.v.2.2.2.2.2.2.2.1 _ hx8 hy10 (Hp.packG [] [(.cells m3 xs4), (.cells m2 xs3), (.cells m xs), (.cells m1 TTryz.zx24), (.gl (NG mx))] hs)) py13_ok) fun w3 s ⟨en2, hm2, hq_⟩ => ?_
   replace hs := Hp.unpackG [] [en2] [(.cells m3 xs4), (.cells m2 xs3), (.cells m xs), (.cells m1 TTryz.zx24), (.gl (NG mx))] hs hq_
   refine TO_mv rfl <| TO_mv rfl <| TO_bi (v := (enc ((IntKind.i64.wrap (r_3.1 + 1)) : Int))) rfl rfl rfl ?_
   obtain ⟨r_7, hx9, h⟩ := bs h
   refine TO_callM (by kernel_rfl) Tryz.func48 rfl (vs := [w3, (enc (r_3.1 : Int)), (enc ((IntKind.i64.wrap (r_3.1 + 1)) : Int))]) rfl (MF.any (sl_Delete3_wf r_6 r_3.1 (IntKind.i64.wrap (r_3.1 + 1)) _ hx9 hm2 (Hp.packG [en2] [(.cells m3 xs4), (.cells m2 xs3), (.cells m xs), (.cells m1 TTryz.zx24), (.gl (NG mx))] hs)) pz30_ok) fun w4 s ⟨en3, hm3, hq_⟩ => ?_
   replace hs := Hp.unpackG [en2] [en3] [(.cells m3 xs4), (.cells m2 xs3), (.cells m xs), (.cells m1 TTryz.zx24), (.gl (NG mx))] hs hq_
   refine TO_frz (q := 61) rfl hm3 hs fun z1 s hz1 hs => TO_fv TTryz.fl38_7 rfl <| TO_stV (z := (r_7 : (List Int))) TTryz.sz35 (Sel.succ (Sel.succ (Sel.succ (Sel.succ (Sel.succ (Sel.succ (Sel.succ Sel.zero))))))) rfl rfl hz1 hxs4 hs fun xs5 s hxs5 hs => TO_nil <| TC_seq <| TC_seq <| TC_reg <| TO_fv TTryz.fl38_1 rfl ?_
   replace hs := Hp.front [(.cells m3 xs5)] (b := [(.cells m xs), (.cells m1 TTryz.zx24), (.gl (NG mx))]) hs
   refine TO_ldV TTryz.ag25 (Sel.succ Sel.zero) rfl hxs3 hs fun y11 hy11 => ?_
   cases hy11
   refine TO_bi (v := (enc ((v1.v.2.1 != 2) : Bool))) rfl rfl rfl <| TO_nil ?_
   split at h
   ·rename_i hcond
    refine TC_cond_t rfl hcond <| TC_seq <| TC_reg <| TO_fv TTryz.fl38_3 rfl <| TO_ldV TTryz.ag3 (Sel.succ (Sel.succ (Sel.succ Sel.zero))) rfl hxs3 hs fun y12 hy12 => ?_
    cases hy12
    refine TO_bi (v := (enc ((IntKind.i64.wrap (v1.v.2.2.2.1 - 1)) : Int))) rfl rfl rfl <| TO_fv TTryz.fl38_3 rfl <| TO_stV (z := ((IntKind.i64.wrap (v1.v.2.2.2.1 - 1)) : Int)) TTryz.sz3 (Sel.succ (Sel.succ (Sel.succ Sel.zero))) rfl rfl (rfl : is _ ((IntKind.i64.wrap (v1.v.2.2.2.1 - 1)) : Int)) hxs3 hs fun xs6 s hxs6 hs => TO_nil <| TC_seq <| TC_reg ?_
    replace hs := Hp.front [(.cells m2 xs6), (.cells m3 xs5)] (b := [(.cells m1 TTryz.zx24), (.gl (NG mx))]) hs
    refine TO_ldW (r := f) TTryz.ag24 TTryz.sz24 rfl hxs hs fun y13 hy13 => ?_
    replace hs := Hp.front [(.cells m xs), (.cells m2 xs6)] (b := [(.cells m1 TTryz.zx24), (.gl (NG mx))]) hs
    refine TO_ldW (r := (Rec.mk (v.v.1, v.v.2.1, v.v.2.2.1, v.v.2.2.2.1, v.v.2.2.2.2.1, v.v.2.2.2.2.2.1, r_5, r_7, v.v.2.2.2.2.2.2.2.2.1, ()) : InodeR)) TTryz.ag38 TTryz.sz38 rfl hxs5 hs fun y14 hy14 => ?_
    replace hs := Hp.front [(.cells m3 xs5), (.cells m xs)] (b := [(.cells m1 TTryz.zx24), (.gl (NG mx))]) hs
    refine TO_ldW (r := (Rec.mk (v1.v.1, v1.v.2.1, v1.v.2.2.1, (IntKind.i64.wrap (v1.v.2.2.2.1 - 1)), v1.v.2.2.2.2.1, v1.v.2.2.2.2.2.1, v1.v.2.2.2.2.2.2.1, v1.v.2.2.2.2.2.2.2.1, v1.v.2.2.2.2.2.2.2.2.1, ()) : InodeR)) TTryz.ag38 TTryz.sz38 rfl hxs6 hs fun y15 hy15 => TO_bs [y14, y15] ([(Rec.mk (v.v.1, v.v.2.1, v.v.2.2.1, v.v.2.2.2.1, v.v.2.2.2.2.1, v.v.2.2.2.2.2.1, r_5, r_7, v.v.2.2.2.2.2.2.2.2.1, ()) : InodeR), (Rec.mk (v1.v.1, v1.v.2.1, v1.v.2.2.1, (IntKind.i64.wrap (v1.v.2.2.2.1 - 1)), v1.v.2.2.2.2.1, v1.v.2.2.2.2.2.1, v1.v.2.2.2.2.2.2.1, v1.v.2.2.2.2.2.2.2.1, v1.v.2.2.2.2.2.2.2.2.1, ()) : InodeR)] : (List InodeR)) Tryz.underlying22 TTryz.ef38 rfl rfl rfl (Nat.le_of_ble_eq_true rfl) ⟨hy14, hy15, trivial⟩ fun z2 hz2 hz2c hz2n => ?_
    obtain ⟨r_8, hx10, h⟩ := bs h
    refine TO_fnG (f := fun a : FsR × (List InodeR) × Unit => plain_with a.1 a.2.1) (a := (f, [(Rec.mk (v.v.1, v.v.2.1, v.v.2.2.1, v.v.2.2.2.1, v.v.2.2.2.2.1, v.v.2.2.2.2.2.1, r_5, r_7, v.v.2.2.2.2.2.2.2.2.1, ()) : InodeR), (Rec.mk (v1.v.1, v1.v.2.1, v1.v.2.2.1, (IntKind.i64.wrap (v1.v.2.2.2.1 - 1)), v1.v.2.2.2.2.1, v1.v.2.2.2.2.2.1, v1.v.2.2.2.2.2.2.1, v1.v.2.2.2.2.2.2.2.1, v1.v.2.2.2.2.2.2.2.2.1, ()) : InodeR)], ())) rfl Tryz.func28 rfl rfl (.cons (a := (f : FsR)) hy13 (.cons (a := ([(Rec.mk (v.v.1, v.v.2.1, v.v.2.2.1, v.v.2.2.2.1, v.v.2.2.2.2.1, v.v.2.2.2.2.2.1, r_5, r_7, v.v.2.2.2.2.2.2.2.2.1, ()) : InodeR), (Rec.mk (v1.v.1, v1.v.2.1, v1.v.2.2.1, (IntKind.i64.wrap (v1.v.2.2.2.1 - 1)), v1.v.2.2.2.2.1, v1.v.2.2.2.2.2.1, v1.v.2.2.2.2.2.2.1, v1.v.2.2.2.2.2.2.2.1, v1.v.2.2.2.2.2.2.2.2.1, ()) : InodeR)] : (List InodeR))) hz2 .nil)) hs (List.mem_cons_of_mem _ (List.mem_cons_of_mem _ (List.mem_cons_of_mem _ (List.mem_cons_of_mem _ List.mem_cons_self)))) hx10 <| TO_mv rfl ?_
    replace hs := Hp.front [(.cells m2 xs6), (.cells m3 xs5), (.cells m xs)] (b := [(.gl (NG mx))]) hs
    refine TO_stR (r := r_8) TTryz.sz24 rfl rfl TTryz.zf24 (Enc.self r_8) hs fun xs7 s hxs7 hs => TO_as rfl <| TO_as (v := (enc (0 : Int))) rfl <| TO_nil <| TC_ret ?_
    obtain ⟨w5, hlw5, hw5⟩ := ldW (r := r_8) TTryz.ag24 TTryz.sz24 hxs7 hs
    rw [← Option.some.inj h]
    exact ⟨rfl, KEc3 (a1 := (r_8 : FsR)) (a2 := (r_.1 : Int)) (a3 := (0 : Int)) rfl (.cell rfl hlw5 (.tmp rfl (.tmp rfl .nil))) hw5 (rfl : is _ (r_.1 : Int)) (rfl : is _ (0 : Int)) ⟨_, _, _, rfl, hw5, (rfl : is _ (r_.1 : Int)), (rfl : is _ (0 : Int))⟩⟩
   ·rename_i hcond
    refine TC_cond_f rfl hcond <| TC_skip <| TC_seq <| TC_reg ?_
    replace hs := Hp.front [(.cells m2 xs3), (.cells m3 xs5)] (b := [(.cells m1 TTryz.zx24), (.gl (NG mx))]) hs
    refine TO_ldW (r := f) TTryz.ag24 TTryz.sz24 rfl hxs hs fun y16 hy16 => ?_
    replace hs := Hp.front [(.cells m xs), (.cells m2 xs3)] (b := [(.cells m1 TTryz.zx24), (.gl (NG mx))]) hs
    refine TO_ldW (r := (Rec.mk (v.v.1, v.v.2.1, v.v.2.2.1, v.v.2.2.2.1, v.v.2.2.2.2.1, v.v.2.2.2.2.2.1, r_5, r_7, v.v.2.2.2.2.2.2.2.2.1, ()) : InodeR)) TTryz.ag38 TTryz.sz38 rfl hxs5 hs fun y17 hy17 => TO_bs [y17] ([(Rec.mk (v.v.1, v.v.2.1, v.v.2.2.1, v.v.2.2.2.1, v.v.2.2.2.2.1, v.v.2.2.2.2.2.1, r_5, r_7, v.v.2.2.2.2.2.2.2.2.1, ()) : InodeR)] : (List InodeR)) Tryz.underlying22 TTryz.ef38 rfl rfl rfl (Nat.le_of_ble_eq_true rfl) ⟨hy17, trivial⟩ fun z3 hz3 hz3c hz3n => ?_
    obtain ⟨r_9, hx11, h⟩ := bs h
    refine TO_fnG (f := fun a : FsR × (List InodeR) × Unit => plain_with a.1 a.2.1) (a := (f, [(Rec.mk (v.v.1, v.v.2.1, v.v.2.2.1, v.v.2.2.2.1, v.v.2.2.2.2.1, v.v.2.2.2.2.2.1, r_5, r_7, v.v.2.2.2.2.2.2.2.2.1, ()) : InodeR)], ())) rfl Tryz.func28 rfl rfl (.cons (a := (f : FsR)) hy16 (.cons (a := ([(Rec.mk (v.v.1, v.v.2.1, v.v.2.2.1, v.v.2.2.2.1, v.v.2.2.2.2.1, v.v.2.2.2.2.2.1, r_5, r_7, v.v.2.2.2.2.2.2.2.2.1, ()) : InodeR)] : (List InodeR))) hz3 .nil)) hs (List.mem_cons_of_mem _ (List.mem_cons_of_mem _ (List.mem_cons_of_mem _ (List.mem_cons_of_mem _ List.mem_cons_self)))) hx11 <| TO_mv rfl ?_
    replace hs := Hp.front [(.cells m3 xs5), (.cells m xs), (.cells m2 xs3)] (b := [(.gl (NG mx))]) hs
    refine TO_stR (r := r_9) TTryz.sz24 rfl rfl TTryz.zf24 (Enc.self r_9) hs fun xs8 s hxs8 hs => TO_as rfl <| TO_as (v := (enc (0 : Int))) rfl <| TO_nil <| TC_ret ?_
    obtain ⟨w6, hlw6, hw6⟩ := ldW (r := r_9) TTryz.ag24 TTryz.sz24 hxs8 hs
    rw [← Option.some.inj h]
    exact ⟨rfl, KEc3 (a1 := (r_9 : FsR)) (a2 := (r_.1 : Int)) (a3 := (0 : Int)) rfl (.cell rfl hlw6 (.tmp rfl (.tmp rfl .nil))) hw6 (rfl : is _ (r_.1 : Int)) (rfl : is _ (0 : Int)) ⟨_, _, _, rfl, hw6, (rfl : is _ (r_.1 : Int)), (rfl : is _ (0 : Int))⟩⟩
theorem plain_Leave_pc (mx : Int) : PureC Tryz.prog 19 (FnG (NG mx) (fun a : FsR × Int × Str × Unit => plain_Leave a.1 a.2.1 a.2.2.1)) := fnCG (pu9_ok mx) ⟨_, Tryz.func19, rfl⟩ <| fun a r h => plain_Leave_wf mx a.1 a.2.1 a.2.2.1 r h
noncomputable def pu10 (mx : Int) : Prims := (pu9 mx).addG 19 (FnG (NG mx) (fun a : FsR × Int × Str × Unit => plain_Leave a.1 a.2.1 a.2.2.1))
theorem pu10_ok (mx : Int) : PrimsOk Tryz.prog (pu10 mx) := primsOk_addG (pu9_ok mx) (plain_Leave_pc mx)
theorem plain_Drop_wf (mx : Int) (f : FsR) (num : Int) (r : FsR × Int) (h : plain_Drop f num = some r) : MF Tryz.prog (pu10 mx) 14 [enc f, enc num] (sG (NG mx)) fun v _ => ris v r := by
 refine TF_run [(0, enc f), (1, enc num)] Tryz.func14 rfl (by simp only [Tryz.f14]; rfl) fun ψ => ?_
 unfold plain_Drop at h
 have hs : Hp (sG (NG mx)) [.gl (NG mx)] := Hp.gl0
 refine TC_seq <| TC_reg <| TO_bxR (r := f) rfl (Enc.self f) hs fun m xs s hxs hs => TO_alR (r := (Rec.mk (([] : (List InodeR)), (0 : Int), ()) : FsR)) TTryz.zr24 TTryz.zf24 hs fun m1 s hs => TO_as (v := (enc (0 : Int))) rfl <| TO_nil <| TC_seq <| TC_reg ?_
 replace hs := Hp.front [(.cells m1 TTryz.zx24)] (b := [(.gl (NG mx))]) hs
 refine TO_ldW (r := f) TTryz.ag24 TTryz.sz24 rfl hxs hs fun y hy => TO_mv rfl ?_
 obtain ⟨r_, hx, h⟩ := bs h
 refine TO_fn (f := fun a : FsR × Int × Unit => plain_Find a.1 a.2.1) (a := (f, num, ())) rfl Tryz.func13 rfl rfl (.cons (a := (f : FsR)) hy (.cons (a := (num : Int)) (Enc.self _) .nil)) hx <| TO_as rfl <| TO_nil <| TC_seq <| TC_block <| TC_seq <| TC_reg <| TO_ldW (r := f) TTryz.ag24 TTryz.sz24 rfl hxs hs fun y1 hy1 => ?_
 obtain ⟨r_1, hx1, h⟩ := bs h
 refine TO_fnG (f := fun a : FsR × Unit => plain_Check a.1) (a := (f, ())) rfl Tryz.func25 rfl rfl (.cons (a := (f : FsR)) hy1 .nil) hs (List.mem_cons_of_mem _ (List.mem_cons_of_mem _ List.mem_cons_self)) hx1 <| TO_un (v := (enc ((!r_1) : Bool))) rfl rfl <| TO_as rfl <| TO_nil ?_
 split at h
 ·rename_i hcond
  refine TC_cond_t rfl hcond <| TC_seq <| TC_reg <| TO_ldW (r := f) TTryz.ag24 TTryz.sz24 rfl hxs hs fun y2 hy2 => ?_
  replace hs := Hp.front [(.cells m xs)] (b := [(.gl (NG mx))]) hs
  refine TO_stR (r := f) TTryz.sz24 rfl rfl TTryz.zf24 hy2 hs fun xs1 s hxs1 hs => TO_as (v := (enc (2 : Int))) rfl <| TO_nil <| TC_ret ?_
  show if _ then _ else _
  rw [if_neg (by simp)]
  obtain ⟨w, hlw, hw⟩ := ldW (r := f) TTryz.ag24 TTryz.sz24 hxs1 hs
  rw [← Option.some.inj h]
  exact ⟨rfl, KEc2 (a1 := (f : FsR)) (a2 := (2 : Int)) rfl (.cell rfl hlw (.tmp rfl .nil)) hw (rfl : is _ (2 : Int)) ⟨_, _, rfl, hw, (rfl : is _ (2 : Int))⟩⟩
 ·rename_i hcond
  refine TC_cond_f rfl hcond <| TC_seq <| TC_reg <| TO_mv rfl <| TO_bi (v := (enc ((decide (r_ < 0)) : Bool))) rfl rfl rfl <| TO_as rfl <| TO_nil ?_
  split at h
  ·rename_i hcond
   refine TC_cond_t rfl hcond <| TC_seq <| TC_reg <| TO_ldW (r := f) TTryz.ag24 TTryz.sz24 rfl hxs hs fun y3 hy3 => ?_
   replace hs := Hp.front [(.cells m xs)] (b := [(.gl (NG mx))]) hs
   refine TO_stR (r := f) TTryz.sz24 rfl rfl TTryz.zf24 hy3 hs fun xs2 s hxs2 hs => TO_as (v := (enc (201 : Int))) rfl <| TO_nil <| TC_ret ?_
   show if _ then _ else _
   rw [if_neg (by simp)]
   obtain ⟨w1, hlw1, hw1⟩ := ldW (r := f) TTryz.ag24 TTryz.sz24 hxs2 hs
   rw [← Option.some.inj h]
   exact ⟨rfl, KEc2 (a1 := (f : FsR)) (a2 := (201 : Int)) rfl (.cell rfl hlw1 (.tmp rfl .nil)) hw1 (rfl : is _ (201 : Int)) ⟨_, _, rfl, hw1, (rfl : is _ (201 : Int))⟩⟩
  ·rename_i hcond
   refine TC_cond_f rfl hcond <| TC_seq <| TC_reg <| TO_mv rfl <| TO_bi (v := (enc ((num == 1) : Bool))) rfl rfl rfl <| TO_mv rfl ?_
   obtain ⟨b, hb_b, h⟩ := bs h
   refine TO_cut 9 (fun φ s => Hp s [(.cells m xs), (.cells m1 TTryz.zx24), (.gl (NG mx))] ∧ Fx φ [(1, (enc (num : Int))), (2, (.ptr m 0)), (4, (.ptr m1 0)), (6, (enc (r_ : Int))), (31, (enc (b : Bool)))]) ?_ ?_
   ·split at hb_b
    ·rename_i cg
     refine TO_off rfl rfl (by simpa using cg) <| TO_off rfl rfl (by simpa using cg) <| TO_off rfl rfl (by simpa using cg) <| TO_off rfl rfl (by simpa using cg) <| TO_off rfl rfl (by simpa using cg) <| TO_off rfl rfl (by simpa using cg) <| TO_off rfl rfl (by simpa using cg) <| TO_off rfl rfl (by simpa using cg) <| TO_pt (v := (enc (true : Bool))) rfl cg rfl <| TO_nil ?_
     rw [← Option.some.inj hb_b]
     exact ⟨hs, ⟨rfl, rfl, rfl, rfl, rfl, trivial⟩⟩
    ·rename_i cg1
     refine TO_on rfl rfl (by simpa using cg1) <| TO_fv TTryz.fl24_0 rfl <| TO_on rfl rfl (by simpa using cg1) <| TO_ldV TTryz.ag22 Sel.zero rfl hxs hs fun y4 hy4 => TO_on rfl rfl (by simpa using cg1) <| TO_mv rfl <| TO_on rfl rfl (by simpa using cg1) ?_
     obtain ⟨v, hx2, hb_b⟩ := bs hb_b
     refine TO_ix Tryz.underlying22 TTryz.sh38 rfl rfl hy4 hx2 fun p hp => TO_on rfl rfl (by simpa using cg1) <| TO_fp TTryz.fl38_6 (Sel.succ (Sel.succ (Sel.succ (Sel.succ (Sel.succ (Sel.succ Sel.zero)))))) rfl hp fun p1 hp1 => TO_on rfl rfl (by simpa using cg1) <| TO_ldF TTryz.ag34 rfl hp1 fun y5 hy5 => TO_on rfl rfl (by simpa using cg1) <| TO_ln Tryz.underlying34 rfl rfl hy5 <| TO_on rfl rfl (by simpa using cg1) <| TO_bi (v := (enc ((decide ((v.v.2.2.2.2.2.2.1.length : Int) > 0)) : Bool))) rfl rfl rfl <| TO_pf rfl cg1 rfl <| TO_nil ?_
     rw [← Option.some.inj hb_b]
     exact ⟨hs, ⟨rfl, rfl, rfl, rfl, rfl, trivial⟩⟩
   ·rintro φ s ⟨hs, hF⟩
    rw [← hF.eq]
    refine TO_mv rfl ?_
    obtain ⟨b1, hb_b1, h⟩ := bs h
    refine TO_cut 7 (fun φ s => Hp s [(.cells m xs), (.cells m1 TTryz.zx24), (.gl (NG mx))] ∧ Fx φ [(2, (.ptr m 0)), (4, (.ptr m1 0)), (6, (enc (r_ : Int))), (39, (enc (b1 : Bool)))]) ?_ ?_
    ·split at hb_b1
     ·rename_i cg2
      refine TO_off rfl rfl (by simpa using cg2) <| TO_off rfl rfl (by simpa using cg2) <| TO_off rfl rfl (by simpa using cg2) <| TO_off rfl rfl (by simpa using cg2) <| TO_off rfl rfl (by simpa using cg2) <| TO_off rfl rfl (by simpa using cg2) <| TO_pt (v := (enc (true : Bool))) rfl cg2 rfl <| TO_nil ?_
      rw [← Option.some.inj hb_b1]
      exact ⟨hs, ⟨rfl, rfl, rfl, rfl, trivial⟩⟩
     ·rename_i cg3
      refine TO_on rfl rfl (by simpa using cg3) <| TO_ldW (r := f) TTryz.ag24 TTryz.sz24 rfl hxs hs fun y6 hy6 => TO_on rfl rfl (by simpa using cg3) ?_
      obtain ⟨r_2, hx3, hb_b1⟩ := bs hb_b1
      refine TO_callM (by kernel_rfl) Tryz.func32 rfl (vs := [y6]) rfl (MF.any (plain_ups_wf f _ hx3 hy6 (Hp.packG [] [(.cells m xs), (.cells m1 TTryz.zx24), (.gl (NG mx))] hs)) pct_ok) fun w2 s ⟨en, hm, hq_⟩ => ?_
      replace hs := Hp.unpackG [] [en] [(.cells m xs), (.cells m1 TTryz.zx24), (.gl (NG mx))] hs hq_
      refine TO_on rfl rfl (by simpa using cg3) <| TO_mv rfl <| TO_on rfl rfl (by simpa using cg3) <| TO_lkR (xs := r_2) (k := num) Tryz.underlying64 Tryz.underlying3 (by kernel_rfl) rfl rfl hm hs fun w3 hw3 => TO_on rfl rfl (by simpa using cg3) <| TO_ln Tryz.underlying35 rfl rfl hw3 <| TO_on rfl rfl (by simpa using cg3) <| TO_bi (v := (enc ((decide ((((mget r_2 num).getD []).length : Int) > 0)) : Bool))) rfl rfl rfl <| TO_pf rfl cg3 rfl <| TO_nil ?_
      rw [← Option.some.inj hb_b1]
      exact ⟨(Hp.drop [] (b := [(.cells m xs), (.cells m1 TTryz.zx24), (.gl (NG mx))]) hs), ⟨rfl, rfl, rfl, rfl, trivial⟩⟩
    ·rintro φ s ⟨hs, hF⟩
     rw [← hF.eq]
     refine TO_as rfl <| TO_nil ?_
     split at h
     ·rename_i hcond
      refine TC_cond_t rfl hcond <| TC_seq <| TC_reg <| TO_ldW (r := f) TTryz.ag24 TTryz.sz24 rfl hxs hs fun y7 hy7 => ?_
      replace hs := Hp.front [(.cells m xs)] (b := [(.gl (NG mx))]) hs
      refine TO_stR (r := f) TTryz.sz24 rfl rfl TTryz.zf24 hy7 hs fun xs3 s hxs3 hs => TO_as (v := (enc (215 : Int))) rfl <| TO_nil <| TC_ret ?_
      show if _ then _ else _
      rw [if_neg (by simp)]
      obtain ⟨w4, hlw4, hw4⟩ := ldW (r := f) TTryz.ag24 TTryz.sz24 hxs3 hs
      rw [← Option.some.inj h]
      exact ⟨rfl, KEc2 (a1 := (f : FsR)) (a2 := (215 : Int)) rfl (.cell rfl hlw4 (.tmp rfl .nil)) hw4 (rfl : is _ (215 : Int)) ⟨_, _, rfl, hw4, (rfl : is _ (215 : Int))⟩⟩
     ·rename_i hcond
      refine TC_cond_f rfl hcond <| TC_skip <| TC_seq <| TC_ord3 [0, 1, 3, 4, 5, 7] 8 2 6 [9, 10, 11] rfl rfl (by kernel_rfl) <| TO_fv TTryz.fl24_0 rfl <| TO_ldV TTryz.ag22 Sel.zero rfl hxs hs fun y8 hy8 => TO_mv rfl <| TO_mv rfl <| TO_bi (v := (enc ((IntKind.i64.wrap (r_ + 1)) : Int))) rfl rfl rfl <| TO_fv TTryz.fl24_1 rfl <| TO_nil ?_
      refine ⟨?_, ?_⟩
      ·refine TO_ldV TTryz.ag3 (Sel.succ Sel.zero) rfl hxs hs fun y9 hy9 => ?_
       cases hy9
       obtain ⟨r_3, hx4, h⟩ := bs h
       refine TO_callM (by kernel_rfl) Tryz.func34 rfl (vs := [y8]) rfl (MF.any (sl_Clone1_wf f.v.1 _ hx4 hy8 (Hp.packG [] [(.cells m xs), (.cells m1 TTryz.zx24), (.gl (NG mx))] hs)) py13_ok) fun w5 s ⟨en1, hm1, hq_⟩ => ?_
       replace hs := Hp.unpackG [] [en1] [(.cells m xs), (.cells m1 TTryz.zx24), (.gl (NG mx))] hs hq_
       obtain ⟨r_4, hx5, h⟩ := bs h
       refine TO_callM (by kernel_rfl) Tryz.func33 rfl (vs := [w5, (enc (r_ : Int)), (enc ((IntKind.i64.wrap (r_ + 1)) : Int))]) rfl (MF.any (sl_Delete1_wf r_3 r_ (IntKind.i64.wrap (r_ + 1)) _ hx5 hm1 (Hp.packG [en1] [(.cells m xs), (.cells m1 TTryz.zx24), (.gl (NG mx))] hs)) pz30_ok) fun w6 s ⟨en2, hm2, hq_⟩ => ?_
       replace hs := Hp.unpackG [en1] [en2] [(.cells m xs), (.cells m1 TTryz.zx24), (.gl (NG mx))] hs hq_
       refine TO_frz (q := 47) rfl hm2 hs fun z s hz hs => TO_buR (r0 := (([] : (List InodeR)), (0 : Int), ())) TTryz.bu24 TTryz.zr24 TTryz.zf24 rfl rfl (r := (r_4, f.v.2.1, ())) (.cons (z := (r_4 : (List InodeR))) Sel.zero hz (.cons (z := (f.v.2.1 : Int)) (Sel.succ Sel.zero) (rfl : is _ (f.v.2.1 : Int)) .nil)) fun y10 hy10 => ?_
       replace hs := Hp.front [(.cells m xs)] (b := [(.gl (NG mx))]) hs
       refine TO_stR (r := (Rec.mk (r_4, f.v.2.1, ()) : FsR)) TTryz.sz24 rfl rfl TTryz.zf24 hy10 hs fun xs4 s hxs4 hs => TO_as (v := (enc (0 : Int))) rfl <| TO_nil <| TC_ret ?_
       obtain ⟨w7, hlw7, hw7⟩ := ldW (r := (Rec.mk (r_4, f.v.2.1, ()) : FsR)) TTryz.ag24 TTryz.sz24 hxs4 hs
       rw [← Option.some.inj h]
       exact ⟨rfl, KEc2 (a1 := ((Rec.mk (r_4, f.v.2.1, ()) : FsR) : FsR)) (a2 := (0 : Int)) rfl (.cell rfl hlw7 (.tmp rfl .nil)) hw7 (rfl : is _ (0 : Int)) ⟨_, _, rfl, hw7, (rfl : is _ (0 : Int))⟩⟩
      ·obtain ⟨r_3, hx4, h⟩ := bs h
       refine TO_callM (by kernel_rfl) Tryz.func34 rfl (vs := [y8]) rfl (MF.any (sl_Clone1_wf f.v.1 _ hx4 hy8 (Hp.packG [] [(.cells m xs), (.cells m1 TTryz.zx24), (.gl (NG mx))] hs)) py13_ok) fun w5 s ⟨en1, hm1, hq_⟩ => ?_
       replace hs := Hp.unpackG [] [en1] [(.cells m xs), (.cells m1 TTryz.zx24), (.gl (NG mx))] hs hq_
       refine TO_nil ?_
       refine ⟨?_, ?_⟩
       ·replace hs := Hp.front [en1] (b := [(.cells m1 TTryz.zx24), (.gl (NG mx))]) hs
        refine TO_ldV TTryz.ag3 (Sel.succ Sel.zero) rfl hxs hs fun y9 hy9 => ?_
        cases hy9
        replace hs := Hp.front [(.cells m xs)] (b := [(.cells m1 TTryz.zx24), (.gl (NG mx))]) hs
        obtain ⟨r_4, hx5, h⟩ := bs h
        refine TO_callM (by kernel_rfl) Tryz.func33 rfl (vs := [w5, (enc (r_ : Int)), (enc ((IntKind.i64.wrap (r_ + 1)) : Int))]) rfl (MF.any (sl_Delete1_wf r_3 r_ (IntKind.i64.wrap (r_ + 1)) _ hx5 hm1 (Hp.packG [en1] [(.cells m xs), (.cells m1 TTryz.zx24), (.gl (NG mx))] hs)) pz30_ok) fun w6 s ⟨en2, hm2, hq_⟩ => ?_
        replace hs := Hp.unpackG [en1] [en2] [(.cells m xs), (.cells m1 TTryz.zx24), (.gl (NG mx))] hs hq_
        refine TO_frz (q := 47) rfl hm2 hs fun z s hz hs => TO_buR (r0 := (([] : (List InodeR)), (0 : Int), ())) TTryz.bu24 TTryz.zr24 TTryz.zf24 rfl rfl (r := (r_4, f.v.2.1, ())) (.cons (z := (r_4 : (List InodeR))) Sel.zero hz (.cons (z := (f.v.2.1 : Int)) (Sel.succ Sel.zero) (rfl : is _ (f.v.2.1 : Int)) .nil)) fun y10 hy10 => ?_
        replace hs := Hp.front [(.cells m xs)] (b := [(.gl (NG mx))]) hs
        refine TO_stR (r := (Rec.mk (r_4, f.v.2.1, ()) : FsR)) TTryz.sz24 rfl rfl TTryz.zf24 hy10 hs fun xs4 s hxs4 hs => TO_as (v := (enc (0 : Int))) rfl <| TO_nil <| TC_ret ?_
        obtain ⟨w7, hlw7, hw7⟩ := ldW (r := (Rec.mk (r_4, f.v.2.1, ()) : FsR)) TTryz.ag24 TTryz.sz24 hxs4 hs
        rw [← Option.some.inj h]
        exact ⟨rfl, KEc2 (a1 := ((Rec.mk (r_4, f.v.2.1, ()) : FsR) : FsR)) (a2 := (0 : Int)) rfl (.cell rfl hlw7 (.tmp rfl .nil)) hw7 (rfl : is _ (0 : Int)) ⟨_, _, rfl, hw7, (rfl : is _ (0 : Int))⟩⟩
       ·obtain ⟨r_4, hx5, h⟩ := bs h
        refine TO_callM (by kernel_rfl) Tryz.func33 rfl (vs := [w5, (enc (r_ : Int)), (enc ((IntKind.i64.wrap (r_ + 1)) : Int))]) rfl (MF.any (sl_Delete1_wf r_3 r_ (IntKind.i64.wrap (r_ + 1)) _ hx5 hm1 (Hp.packG [en1] [(.cells m xs), (.cells m1 TTryz.zx24), (.gl (NG mx))] hs)) pz30_ok) fun w6 s ⟨en2, hm2, hq_⟩ => ?_
        replace hs := Hp.unpackG [en1] [en2] [(.cells m xs), (.cells m1 TTryz.zx24), (.gl (NG mx))] hs hq_
        refine TO_frz (q := 47) rfl hm2 hs fun z s hz hs => TO_ldV TTryz.ag3 (Sel.succ Sel.zero) rfl hxs hs fun y9 hy9 => ?_
        cases hy9
        refine TO_buR (r0 := (([] : (List InodeR)), (0 : Int), ())) TTryz.bu24 TTryz.zr24 TTryz.zf24 rfl rfl (r := (r_4, f.v.2.1, ())) (.cons (z := (r_4 : (List InodeR))) Sel.zero hz (.cons (z := (f.v.2.1 : Int)) (Sel.succ Sel.zero) (rfl : is _ (f.v.2.1 : Int)) .nil)) fun y10 hy10 => ?_
        replace hs := Hp.front [(.cells m xs)] (b := [(.gl (NG mx))]) hs
        refine TO_stR (r := (Rec.mk (r_4, f.v.2.1, ()) : FsR)) TTryz.sz24 rfl rfl TTryz.zf24 hy10 hs fun xs4 s hxs4 hs => TO_as (v := (enc (0 : Int))) rfl <| TO_nil <| TC_ret ?_
        obtain ⟨w7, hlw7, hw7⟩ := ldW (r := (Rec.mk (r_4, f.v.2.1, ()) : FsR)) TTryz.ag24 TTryz.sz24 hxs4 hs
        rw [← Option.some.inj h]
        exact ⟨rfl, KEc2 (a1 := ((Rec.mk (r_4, f.v.2.1, ()) : FsR) : FsR)) (a2 := (0 : Int)) rfl (.cell rfl hlw7 (.tmp rfl .nil)) hw7 (rfl : is _ (0 : Int)) ⟨_, _, rfl, hw7, (rfl : is _ (0 : Int))⟩⟩
theorem plain_Drop_pc (mx : Int) : PureC Tryz.prog 14 (FnG (NG mx) (fun a : FsR × Int × Unit => plain_Drop a.1 a.2.1)) := fnCG (pu10_ok mx) ⟨_, Tryz.func14, rfl⟩ <| fun a r h => plain_Drop_wf mx a.1 a.2.1 r h
noncomputable def pu11 (mx : Int) : Prims := (pu10 mx).addG 14 (FnG (NG mx) (fun a : FsR × Int × Unit => plain_Drop a.1 a.2.1))
theorem pu11_ok (mx : Int) : PrimsOk Tryz.prog (pu11 mx) := primsOk_addG (pu10_ok mx) (plain_Drop_pc mx)
end Go.Ai.Rab
