/- My own texts DevPgF, DevP0, one behind the other. -/
import Derived.Test.YtcffjblfdjkcbaaGreatDoorWAE
import Derived.Test.YtcffjblfdjkcbaaGreatDoorWAO
section
/- Functions of the program aS functions of values with types, and that the code answers aS they do. -/
set_option linter.unusedVariables false
set_option linter.unusedSimpArgs false
set_option maxRecDepth 100000
set_option maxHeartbeats 4000000
attribute [local irreducible] Go.Ai.TC Go.Ai.TO Go.Ai.MF Go.Ai.runeAt Go.Ai.runeLen Go.Ai.encR
open Go.Ai.Enc (enc is)
open Go.Ai.Res (res ris)
open Go.Ai.Args (args)
open Go.Ai.Flds (fe fi fk)
namespace Go.Ai

end Go.Ai
namespace Go.Ai.TTryz
open Go.Proofs

end Go.Ai.TTryz
namespace Go.Ai.Rab
open Go.Proofs
noncomputable def law_empty : Option (FsR) :=
 some ((Rec.mk ([(Rec.mk (1, 2, (0 : Int), 1, ([] : (List UInt8)), (str []), ([] : (List Str)), ([] : (List Int)), ([] : (List AttrR)), ()) : InodeR)], 2, ()) : FsR))
noncomputable def law_heads : Option (Bool) :=
 ((law_empty).bind fun r_ => ((plain_Make r_ 1 420 (str [])).bind fun r_1 => ((plain_Enter r_1.1 1 (str [97]) r_1.2.1).bind fun r_2 => ((plain_Enter r_2.1 1 (str [98]) r_1.2.1).bind fun r_3 => ((plain_Leave r_3.1 1 (str [97])).bind fun r_4 => ((plain_Lookup r_4.1 1 (str [98])).bind fun r_5 => ((plain_Lookup r_4.1 1 (str [97])).bind fun r_6 => ((plain_Drop r_4.1 r_1.2.1).bind fun r_7 => ((plain_Drop (Rec.mk (([] : (List InodeR)), (0 : Int), ()) : FsR) 1).bind fun r_8 => ((if (r_1.2.2 == 0) then some (r_1.2.1 == 2) else some false).bind fun b => ((if b then some (r_2.2 == 0) else some false).bind fun b1 => ((if b1 then some (r_3.2 == 0) else some false).bind fun b2 => ((if b2 then some (r_4.2.2 == 0) else some false).bind fun b3 => ((if b3 then some (r_4.2.1 == 2) else some false).bind fun b4 => ((if b4 then some (r_5.1 == 2) else some false).bind fun b5 => ((if b5 then some (r_5.2 == 0) else some false).bind fun b6 => ((if b6 then some (r_6.2 == 201) else some false).bind fun b7 => ((if b7 then some (r_7.2 == 215) else some false).bind fun b8 => ((if b8 then some (r_8.2 == 2) else some false).bind fun b9 => ((if b9 then some ((r_4.1.v.1.length : Int) == 2) else some false).bind fun b10 => ((if b10 then ((nth r_4.1.v.1 1).bind fun v => some (v.v.2.2.2.1 == 1)) else some false).bind fun b11 => ((if b11 then ((plain_Check r_4.1).bind fun r_9 => some r_9) else some false).bind fun b12 => some (b12)))))))))))))))))))))))
noncomputable def law_Numbers_l1 (r_2 : (FsR × Int × Int)) (f : FsR) : Int → Option (Int ⊕ (Unit ⊕ Bool))
 | k => (if (decide (k < r_2.2.1)) then ((plain_Find f k).bind fun r_5 => (if (decide (r_5 < 0)) then some (.inr (.inr false)) else some (.inl (IntKind.i64.wrap (k + 1))))) else some (.inr (.inl ())))
noncomputable def law_Numbers_a1 (r_2 : (FsR × Int × Int)) (f : FsR) (kind : Int) : (Unit ⊕ Bool) → Option (Bool)
 | (.inl _) => ((plain_Find r_2.1 r_2.2.1).bind fun r_6 => ((if (decide (r_6 < 0)) then some true else some (decide (r_2.2.1 < f.v.2.1))).bind fun b1 => ((if b1 then some true else ((plain_Find f r_2.2.1).bind fun r_7 => some (decide (r_7 ≥ 0)))).bind fun b2 => ((if b2 then some true else some ((r_2.1.v.1.length : Int) != (IntKind.i64.wrap ((f.v.1.length : Int) + 1)))).bind fun b3 => (if b3 then some (false) else ((nth r_2.1.v.1 r_6).bind fun v1 => ((plain_Drop r_2.1 r_2.2.1).bind fun r_8 => ((if (v1.v.2.1 == kind) then some (v1.v.2.2.1 == 420) else some false).bind fun b4 => ((if b4 then some ((IntKind.i64.wrap ((IntKind.i64.wrap ((v1.v.2.2.2.2.1.length : Int) + (v1.v.2.2.2.2.2.2.1.length : Int))) + (v1.v.2.2.2.2.2.2.2.2.1.length : Int))) == 0) else some false).bind fun b5 => ((if b5 then some (r_8.2 == 0) else some false).bind fun b6 => ((if b6 then ((ref_Same r_8.1 f).bind fun r_9 => some r_9) else some false).bind fun b7 => ((if b7 then ((law_heads).bind fun r_10 => some r_10) else some false).bind fun b8 => some (b8)))))))))))))
 | (.inr v) => some (v)
noncomputable def law_Numbers (f : FsR) (kind : Int) : Option (Bool) :=
 ((law_small f).bind fun r_ => (if (!r_) then ((law_heads).bind fun r_1 => some (r_1)) else ((plain_Make f kind 420 (str [])).bind fun r_2 => (if (r_2.2.2 != 0) then ((ref_Same r_2.1 f).bind fun r_3 => ((if r_3 then ((law_heads).bind fun r_4 => some r_4) else some false).bind fun b => some (b))) else ((loop (law_Numbers_l1 r_2 f) f.v.2.1).bind (law_Numbers_a1 r_2 f kind))))))
theorem law_empty_wf (mx : Int) (r : FsR) (h : law_empty = some r) : MF Tryz.prog (pu11 mx) 26 [] (sG (NG mx)) fun v _ => ris v r := by
 refine TF_run [] Tryz.func26 rfl (by simp only [Tryz.f26]; rfl) fun ψ => ?_
 unfold law_empty at h
 have hs : Hp (sG (NG mx)) [.gl (NG mx)] := Hp.gl0
 refine TC_seq <| TC_reg <| TO_alR (r := (Rec.mk (([] : (List InodeR)), (0 : Int), ()) : FsR)) TTryz.zr24 TTryz.zf24 hs fun m s hs => TO_nil <| TC_seq <| TC_reg <| TO_buR (r0 := ((0 : Int), (0 : Int), (0 : Int), (0 : Int), ([] : (List UInt8)), (str []), ([] : (List Str)), ([] : (List Int)), ([] : (List AttrR)), ())) TTryz.bu38 TTryz.zr38 TTryz.zf38 rfl rfl (r := (1, 2, (0 : Int), 1, ([] : (List UInt8)), (str []), ([] : (List Str)), ([] : (List Int)), ([] : (List AttrR)), ())) (.cons (z := (1 : Int)) Sel.zero (rfl : is _ (1 : Int)) (.cons (z := (2 : Int)) (Sel.succ Sel.zero) (rfl : is _ (2 : Int)) (.cons (z := (1 : Int)) (Sel.succ (Sel.succ (Sel.succ Sel.zero))) (rfl : is _ (1 : Int)) .nil))) fun y hy => TO_bs [y] ([(Rec.mk (1, 2, (0 : Int), 1, ([] : (List UInt8)), (str []), ([] : (List Str)), ([] : (List Int)), ([] : (List AttrR)), ()) : InodeR)] : (List InodeR)) Tryz.underlying22 TTryz.ef38 rfl rfl rfl (Nat.le_of_ble_eq_true rfl) ⟨hy, trivial⟩ fun z hz hzc hzn => TO_buR (r0 := (([] : (List InodeR)), (0 : Int), ())) TTryz.bu24 TTryz.zr24 TTryz.zf24 rfl rfl (r := ([(Rec.mk (1, 2, (0 : Int), 1, ([] : (List UInt8)), (str []), ([] : (List Str)), ([] : (List Int)), ([] : (List AttrR)), ()) : InodeR)], 2, ())) (.cons (z := ([(Rec.mk (1, 2, (0 : Int), 1, ([] : (List UInt8)), (str []), ([] : (List Str)), ([] : (List Int)), ([] : (List AttrR)), ()) : InodeR)] : (List InodeR))) Sel.zero hz (.cons (z := (2 : Int)) (Sel.succ Sel.zero) (rfl : is _ (2 : Int)) .nil)) fun y1 hy1 => TO_stR (r := (Rec.mk ([(Rec.mk (1, 2, (0 : Int), 1, ([] : (List UInt8)), (str []), ([] : (List Str)), ([] : (List Int)), ([] : (List AttrR)), ()) : InodeR)], 2, ()) : FsR)) TTryz.sz24 rfl rfl TTryz.zf24 hy1 hs fun xs s hxs hs => ?_
 refine TO_nil <| TC_ret ?_
 obtain ⟨w, hlw, hw⟩ := ldW (r := (Rec.mk ([(Rec.mk (1, 2, (0 : Int), 1, ([] : (List UInt8)), (str []), ([] : (List Str)), ([] : (List Int)), ([] : (List AttrR)), ()) : InodeR)], 2, ()) : FsR)) TTryz.ag24 TTryz.sz24 hxs hs
 rw [← Option.some.inj h]
 exact ⟨rfl, KEc1 (a := ((Rec.mk ([(Rec.mk (1, 2, (0 : Int), 1, ([] : (List UInt8)), (str []), ([] : (List Str)), ([] : (List Int)), ([] : (List AttrR)), ()) : InodeR)], 2, ()) : FsR) : FsR)) rfl (.cell rfl hlw .nil) hw hw⟩
theorem law_empty_pc (mx : Int) : PureC Tryz.prog 26 (FnG (NG mx) (fun a : Unit => law_empty)) := fnCG (pu11_ok mx) ⟨_, Tryz.func26, rfl⟩ <| fun a r h => law_empty_wf mx r h
noncomputable def px1 (mx : Int) : Prims := (pu11 mx).addG 26 (FnG (NG mx) (fun a : Unit => law_empty))
theorem px1_ok (mx : Int) : PrimsOk Tryz.prog (px1 mx) := primsOk_addG (pu11_ok mx) (law_empty_pc mx)
theorem law_heads_wf (mx : Int) (r : Bool) (h : law_heads = some r) : MF Tryz.prog (px1 mx) 10 [] (sG (NG mx)) fun v _ => ris v r := by
 refine TF_run [] Tryz.func10 rfl (by simp only [Tryz.f10]; rfl) fun ψ => ?_
 unfold law_heads at h
 have hs : Hp (sG (NG mx)) [.gl (NG mx)] := Hp.gl0
 refine TC_seq <| TC_reg <| TO_as (v := (enc (false : Bool))) rfl <| TO_nil <| TC_seq <| TC_reg ?_
 obtain ⟨r_, hx, h⟩ := bs h
 refine TO_fnG (f := fun a : Unit => law_empty) (a := (())) rfl Tryz.func26 rfl rfl .nil hs List.mem_cons_self hx ?_
 obtain ⟨r_1, hx1, h⟩ := bs h
 refine TO_fnG (f := fun a : FsR × Int × Int × Str × Unit => plain_Make a.1 a.2.1 a.2.2.1 a.2.2.2.1) (a := (r_, 1, 420, (str []), ())) rfl Tryz.func11 rfl rfl (.cons (a := (r_ : FsR)) (Enc.self r_) (.cons (a := (1 : Int)) (rfl : is _ (1 : Int)) (.cons (a := (420 : Int)) (rfl : is _ (420 : Int)) (.cons (a := ((str []) : Str)) (Enc.self _) .nil)))) hs List.mem_cons_self hx1 <| TO_mv (v := (res r_1)) rfl <| TO_ex rfl rfl <| TO_ex rfl rfl <| TO_ex rfl rfl <| TO_alR (r := (Rec.mk (([] : (List InodeR)), (0 : Int), ()) : FsR)) TTryz.zr24 TTryz.zf24 hs fun m s hs => TO_stR (r := r_1.1) TTryz.sz24 rfl rfl TTryz.zf24 (Enc.self r_1.1) hs fun xs s hxs hs => TO_as rfl <| TO_as rfl <| TO_nil <| TC_seq <| TC_reg <| TO_ldW (r := r_1.1) TTryz.ag24 TTryz.sz24 rfl hxs hs fun y hy => TO_mv rfl ?_
 obtain ⟨r_2, hx2, h⟩ := bs h
 refine TO_fnG (f := fun a : FsR × Int × Str × Int × Unit => plain_Enter a.1 a.2.1 a.2.2.1 a.2.2.2.1) (a := (r_1.1, 1, (str [97]), r_1.2.1, ())) rfl Tryz.func16 rfl rfl (.cons (a := (r_1.1 : FsR)) hy (.cons (a := (1 : Int)) (rfl : is _ (1 : Int)) (.cons (a := ((str [97]) : Str)) (Enc.self _) (.cons (a := (r_1.2.1 : Int)) (Enc.self _) .nil)))) hs (List.mem_cons_of_mem _ List.mem_cons_self) hx2 <| TO_mv (v := (res r_2)) rfl <| TO_ex rfl rfl <| TO_ex rfl rfl <| TO_stR (r := r_2.1) TTryz.sz24 rfl rfl hxs (Enc.self r_2.1) hs fun xs1 s hxs1 hs => TO_as rfl <| TO_nil <| TC_seq <| TC_reg <| TO_ldW (r := r_2.1) TTryz.ag24 TTryz.sz24 rfl hxs1 hs fun y1 hy1 => TO_mv rfl ?_
 obtain ⟨r_3, hx3, h⟩ := bs h
 refine TO_fnG (f := fun a : FsR × Int × Str × Int × Unit => plain_Enter a.1 a.2.1 a.2.2.1 a.2.2.2.1) (a := (r_2.1, 1, (str [98]), r_1.2.1, ())) rfl Tryz.func16 rfl rfl (.cons (a := (r_2.1 : FsR)) hy1 (.cons (a := (1 : Int)) (rfl : is _ (1 : Int)) (.cons (a := ((str [98]) : Str)) (Enc.self _) (.cons (a := (r_1.2.1 : Int)) (Enc.self _) .nil)))) hs (List.mem_cons_of_mem _ List.mem_cons_self) hx3 <| TO_mv (v := (res r_3)) rfl <| TO_ex rfl rfl <| TO_ex rfl rfl <| TO_stR (r := r_3.1) TTryz.sz24 rfl rfl hxs1 (Enc.self r_3.1) hs fun xs2 s hxs2 hs => TO_as rfl <| TO_nil <| TC_seq <| TC_reg <| TO_ldW (r := r_3.1) TTryz.ag24 TTryz.sz24 rfl hxs2 hs fun y2 hy2 => ?_
 obtain ⟨r_4, hx4, h⟩ := bs h
 refine TO_fnG (f := fun a : FsR × Int × Str × Unit => plain_Leave a.1 a.2.1 a.2.2.1) (a := (r_3.1, 1, (str [97]), ())) rfl Tryz.func19 rfl rfl (.cons (a := (r_3.1 : FsR)) hy2 (.cons (a := (1 : Int)) (rfl : is _ (1 : Int)) (.cons (a := ((str [97]) : Str)) (Enc.self _) .nil))) hs (List.mem_cons_of_mem _ List.mem_cons_self) hx4 <| TO_mv (v := (res r_4)) rfl <| TO_ex rfl rfl <| TO_ex rfl rfl <| TO_ex rfl rfl <| TO_stR (r := r_4.1) TTryz.sz24 rfl rfl hxs2 (Enc.self r_4.1) hs fun xs3 s hxs3 hs => TO_as rfl <| TO_as rfl <| TO_nil <| TC_seq <| TC_reg <| TO_ldW (r := r_4.1) TTryz.ag24 TTryz.sz24 rfl hxs3 hs fun y3 hy3 => ?_
 obtain ⟨r_5, hx5, h⟩ := bs h
 refine TO_fnG (f := fun a : FsR × Int × Str × Unit => plain_Lookup a.1 a.2.1 a.2.2.1) (a := (r_4.1, 1, (str [98]), ())) rfl Tryz.func18 rfl rfl (.cons (a := (r_4.1 : FsR)) hy3 (.cons (a := (1 : Int)) (rfl : is _ (1 : Int)) (.cons (a := ((str [98]) : Str)) (Enc.self _) .nil))) hs (List.mem_cons_of_mem _ List.mem_cons_self) hx5 <| TO_mv (v := (res r_5)) rfl <| TO_ex rfl rfl <| TO_ex rfl rfl <| TO_as rfl <| TO_as rfl <| TO_nil <| TC_seq <| TC_reg <| TO_ldW (r := r_4.1) TTryz.ag24 TTryz.sz24 rfl hxs3 hs fun y4 hy4 => ?_
 obtain ⟨r_6, hx6, h⟩ := bs h
 refine TO_fnG (f := fun a : FsR × Int × Str × Unit => plain_Lookup a.1 a.2.1 a.2.2.1) (a := (r_4.1, 1, (str [97]), ())) rfl Tryz.func18 rfl rfl (.cons (a := (r_4.1 : FsR)) hy4 (.cons (a := (1 : Int)) (rfl : is _ (1 : Int)) (.cons (a := ((str [97]) : Str)) (Enc.self _) .nil))) hs (List.mem_cons_of_mem _ List.mem_cons_self) hx6 <| TO_mv (v := (res r_6)) rfl <| TO_ex rfl rfl <| TO_ex rfl rfl <| TO_as rfl <| TO_as rfl <| TO_nil <| TC_seq <| TC_reg <| TO_ldW (r := r_4.1) TTryz.ag24 TTryz.sz24 rfl hxs3 hs fun y5 hy5 => TO_mv rfl ?_
 obtain ⟨r_7, hx7, h⟩ := bs h
 refine TO_fnG (f := fun a : FsR × Int × Unit => plain_Drop a.1 a.2.1) (a := (r_4.1, r_1.2.1, ())) rfl Tryz.func14 rfl rfl (.cons (a := (r_4.1 : FsR)) hy5 (.cons (a := (r_1.2.1 : Int)) (Enc.self _) .nil)) hs (List.mem_cons_of_mem _ List.mem_cons_self) hx7 <| TO_mv (v := (res r_7)) rfl <| TO_ex rfl rfl <| TO_ex rfl rfl <| TO_alR (r := (Rec.mk (([] : (List InodeR)), (0 : Int), ()) : FsR)) TTryz.zr24 TTryz.zf24 hs fun m1 s hs => TO_stR (r := r_7.1) TTryz.sz24 rfl rfl TTryz.zf24 (Enc.self r_7.1) hs fun xs4 s hxs4 hs => TO_as rfl <| TO_nil <| TC_seq <| TC_reg <| TO_buR (r0 := (([] : (List InodeR)), (0 : Int), ())) TTryz.bu24 TTryz.zr24 TTryz.zf24 rfl rfl (r := (([] : (List InodeR)), (0 : Int), ())) .nil fun y6 hy6 => ?_
 obtain ⟨r_8, hx8, h⟩ := bs h
 refine TO_fnG (f := fun a : FsR × Int × Unit => plain_Drop a.1 a.2.1) (a := ((Rec.mk (([] : (List InodeR)), (0 : Int), ()) : FsR), 1, ())) rfl Tryz.func14 rfl rfl (.cons (a := ((Rec.mk (([] : (List InodeR)), (0 : Int), ()) : FsR) : FsR)) hy6 (.cons (a := (1 : Int)) (rfl : is _ (1 : Int)) .nil)) hs (List.mem_cons_of_mem _ (List.mem_cons_of_mem _ List.mem_cons_self)) hx8 <| TO_mv (v := (res r_8)) rfl <| TO_ex rfl rfl <| TO_ex rfl rfl <| TO_alR (r := (Rec.mk (([] : (List InodeR)), (0 : Int), ()) : FsR)) TTryz.zr24 TTryz.zf24 hs fun m2 s hs => TO_stR (r := r_8.1) TTryz.sz24 rfl rfl TTryz.zf24 (Enc.self r_8.1) hs fun xs5 s hxs5 hs => TO_as rfl <| TO_nil <| TC_seq <| TC_reg <| TO_mv rfl <| TO_bi (v := (enc ((r_1.2.2 == 0) : Bool))) rfl rfl rfl <| TO_mv rfl ?_
 obtain ⟨b, hb_b, h⟩ := bs h
 refine TO_cut 3 (fun φ s => Hp s [(.cells m2 xs5), (.cells m1 xs4), (.cells m xs3), (.gl (NG mx))] ∧ Fx φ [(1, (.ptr m 0)), (4, (enc (r_2.2 : Int))), (5, (enc (r_3.2 : Int))), (6, (enc (r_4.2.1 : Int))), (7, (enc (r_4.2.2 : Int))), (8, (enc (r_5.1 : Int))), (9, (enc (r_5.2 : Int))), (11, (enc (r_6.2 : Int))), (13, (enc (r_7.2 : Int))), (15, (enc (r_8.2 : Int))), (66, (enc (b : Bool)))]) ?_ ?_
 ·split at hb_b
  ·rename_i cg
   refine TO_on rfl rfl cg <| TO_mv rfl <| TO_on rfl rfl cg <| TO_bi (v := (enc ((r_1.2.1 == 2) : Bool))) rfl rfl rfl <| TO_pt rfl cg rfl <| TO_nil ?_
   rw [← Option.some.inj hb_b]
   exact ⟨hs, ⟨rfl, rfl, rfl, rfl, rfl, rfl, rfl, rfl, rfl, rfl, rfl, trivial⟩⟩
  ·rename_i cg1
   refine TO_off rfl rfl cg1 <| TO_off rfl rfl cg1 <| TO_pf (v := (enc (false : Bool))) rfl cg1 rfl <| TO_nil ?_
   rw [← Option.some.inj hb_b]
   exact ⟨hs, ⟨rfl, rfl, rfl, rfl, rfl, rfl, rfl, rfl, rfl, rfl, rfl, trivial⟩⟩
 ·rintro φ s ⟨hs, hF⟩
  rw [← hF.eq]
  refine TO_mv rfl ?_
  obtain ⟨b1, hb_b1, h⟩ := bs h
  refine TO_cut 3 (fun φ s => Hp s [(.cells m2 xs5), (.cells m1 xs4), (.cells m xs3), (.gl (NG mx))] ∧ Fx φ [(1, (.ptr m 0)), (5, (enc (r_3.2 : Int))), (6, (enc (r_4.2.1 : Int))), (7, (enc (r_4.2.2 : Int))), (8, (enc (r_5.1 : Int))), (9, (enc (r_5.2 : Int))), (11, (enc (r_6.2 : Int))), (13, (enc (r_7.2 : Int))), (15, (enc (r_8.2 : Int))), (70, (enc (b1 : Bool)))]) ?_ ?_
  ·split at hb_b1
   ·rename_i cg2
    refine TO_on rfl rfl cg2 <| TO_mv rfl <| TO_on rfl rfl cg2 <| TO_bi (v := (enc ((r_2.2 == 0) : Bool))) rfl rfl rfl <| TO_pt rfl cg2 rfl <| TO_nil ?_
    rw [← Option.some.inj hb_b1]
    exact ⟨hs, ⟨rfl, rfl, rfl, rfl, rfl, rfl, rfl, rfl, rfl, rfl, trivial⟩⟩
   ·rename_i cg3
    refine TO_off rfl rfl cg3 <| TO_off rfl rfl cg3 <| TO_pf (v := (enc (false : Bool))) rfl cg3 rfl <| TO_nil ?_
    rw [← Option.some.inj hb_b1]
    exact ⟨hs, ⟨rfl, rfl, rfl, rfl, rfl, rfl, rfl, rfl, rfl, rfl, trivial⟩⟩
  ·rintro φ s ⟨hs, hF⟩
   rw [← hF.eq]
   refine TO_mv rfl ?_
   obtain ⟨b2, hb_b2, h⟩ := bs h
   refine TO_cut 3 (fun φ s => Hp s [(.cells m2 xs5), (.cells m1 xs4), (.cells m xs3), (.gl (NG mx))] ∧ Fx φ [(1, (.ptr m 0)), (6, (enc (r_4.2.1 : Int))), (7, (enc (r_4.2.2 : Int))), (8, (enc (r_5.1 : Int))), (9, (enc (r_5.2 : Int))), (11, (enc (r_6.2 : Int))), (13, (enc (r_7.2 : Int))), (15, (enc (r_8.2 : Int))), (74, (enc (b2 : Bool)))]) ?_ ?_
   ·split at hb_b2
    ·rename_i cg4
     refine TO_on rfl rfl cg4 <| TO_mv rfl <| TO_on rfl rfl cg4 <| TO_bi (v := (enc ((r_3.2 == 0) : Bool))) rfl rfl rfl <| TO_pt rfl cg4 rfl <| TO_nil ?_
     rw [← Option.some.inj hb_b2]
     exact ⟨hs, ⟨rfl, rfl, rfl, rfl, rfl, rfl, rfl, rfl, rfl, trivial⟩⟩
    ·rename_i cg5
     refine TO_off rfl rfl cg5 <| TO_off rfl rfl cg5 <| TO_pf (v := (enc (false : Bool))) rfl cg5 rfl <| TO_nil ?_
     rw [← Option.some.inj hb_b2]
     exact ⟨hs, ⟨rfl, rfl, rfl, rfl, rfl, rfl, rfl, rfl, rfl, trivial⟩⟩
   ·rintro φ s ⟨hs, hF⟩
    rw [← hF.eq]
    refine TO_mv rfl ?_
    obtain ⟨b3, hb_b3, h⟩ := bs h
    refine TO_cut 3 (fun φ s => Hp s [(.cells m2 xs5), (.cells m1 xs4), (.cells m xs3), (.gl (NG mx))] ∧ Fx φ [(1, (.ptr m 0)), (6, (enc (r_4.2.1 : Int))), (8, (enc (r_5.1 : Int))), (9, (enc (r_5.2 : Int))), (11, (enc (r_6.2 : Int))), (13, (enc (r_7.2 : Int))), (15, (enc (r_8.2 : Int))), (78, (enc (b3 : Bool)))]) ?_ ?_
    ·split at hb_b3
     ·rename_i cg6
      refine TO_on rfl rfl cg6 <| TO_mv rfl <| TO_on rfl rfl cg6 <| TO_bi (v := (enc ((r_4.2.2 == 0) : Bool))) rfl rfl rfl <| TO_pt rfl cg6 rfl <| TO_nil ?_
      rw [← Option.some.inj hb_b3]
      exact ⟨hs, ⟨rfl, rfl, rfl, rfl, rfl, rfl, rfl, rfl, trivial⟩⟩
     ·rename_i cg7
      refine TO_off rfl rfl cg7 <| TO_off rfl rfl cg7 <| TO_pf (v := (enc (false : Bool))) rfl cg7 rfl <| TO_nil ?_
      rw [← Option.some.inj hb_b3]
      exact ⟨hs, ⟨rfl, rfl, rfl, rfl, rfl, rfl, rfl, rfl, trivial⟩⟩
    ·rintro φ s ⟨hs, hF⟩
     rw [← hF.eq]
     refine TO_mv rfl ?_
     obtain ⟨b4, hb_b4, h⟩ := bs h
     refine TO_cut 3 (fun φ s => Hp s [(.cells m2 xs5), (.cells m1 xs4), (.cells m xs3), (.gl (NG mx))] ∧ Fx φ [(1, (.ptr m 0)), (8, (enc (r_5.1 : Int))), (9, (enc (r_5.2 : Int))), (11, (enc (r_6.2 : Int))), (13, (enc (r_7.2 : Int))), (15, (enc (r_8.2 : Int))), (82, (enc (b4 : Bool)))]) ?_ ?_
     ·split at hb_b4
      ·rename_i cg8
       refine TO_on rfl rfl cg8 <| TO_mv rfl <| TO_on rfl rfl cg8 <| TO_bi (v := (enc ((r_4.2.1 == 2) : Bool))) rfl rfl rfl <| TO_pt rfl cg8 rfl <| TO_nil ?_
       rw [← Option.some.inj hb_b4]
       exact ⟨hs, ⟨rfl, rfl, rfl, rfl, rfl, rfl, rfl, trivial⟩⟩
      ·rename_i cg9
       refine TO_off rfl rfl cg9 <| TO_off rfl rfl cg9 <| TO_pf (v := (enc (false : Bool))) rfl cg9 rfl <| TO_nil ?_
       rw [← Option.some.inj hb_b4]
       exact ⟨hs, ⟨rfl, rfl, rfl, rfl, rfl, rfl, rfl, trivial⟩⟩
     ·rintro φ s ⟨hs, hF⟩
      rw [← hF.eq]
      refine TO_mv rfl ?_
      obtain ⟨b5, hb_b5, h⟩ := bs h
      refine TO_cut 3 (fun φ s => Hp s [(.cells m2 xs5), (.cells m1 xs4), (.cells m xs3), (.gl (NG mx))] ∧ Fx φ [(1, (.ptr m 0)), (9, (enc (r_5.2 : Int))), (11, (enc (r_6.2 : Int))), (13, (enc (r_7.2 : Int))), (15, (enc (r_8.2 : Int))), (86, (enc (b5 : Bool)))]) ?_ ?_
      ·split at hb_b5
       ·rename_i cg10
        refine TO_on rfl rfl cg10 <| TO_mv rfl <| TO_on rfl rfl cg10 <| TO_bi (v := (enc ((r_5.1 == 2) : Bool))) rfl rfl rfl <| TO_pt rfl cg10 rfl <| TO_nil ?_
        rw [← Option.some.inj hb_b5]
        exact ⟨hs, ⟨rfl, rfl, rfl, rfl, rfl, rfl, trivial⟩⟩
       ·rename_i cg11
        refine TO_off rfl rfl cg11 <| TO_off rfl rfl cg11 <| TO_pf (v := (enc (false : Bool))) rfl cg11 rfl <| TO_nil ?_
        rw [← Option.some.inj hb_b5]
        exact ⟨hs, ⟨rfl, rfl, rfl, rfl, rfl, rfl, trivial⟩⟩
      ·rintro φ s ⟨hs, hF⟩
       rw [← hF.eq]
       refine TO_mv rfl ?_
       obtain ⟨b6, hb_b6, h⟩ := bs h
       refine TO_cut 3 (fun φ s => Hp s [(.cells m2 xs5), (.cells m1 xs4), (.cells m xs3), (.gl (NG mx))] ∧ Fx φ [(1, (.ptr m 0)), (11, (enc (r_6.2 : Int))), (13, (enc (r_7.2 : Int))), (15, (enc (r_8.2 : Int))), (90, (enc (b6 : Bool)))]) ?_ ?_
       ·split at hb_b6
        ·rename_i cg12
         refine TO_on rfl rfl cg12 <| TO_mv rfl <| TO_on rfl rfl cg12 <| TO_bi (v := (enc ((r_5.2 == 0) : Bool))) rfl rfl rfl <| TO_pt rfl cg12 rfl <| TO_nil ?_
         rw [← Option.some.inj hb_b6]
         exact ⟨hs, ⟨rfl, rfl, rfl, rfl, rfl, trivial⟩⟩
        ·rename_i cg13
         refine TO_off rfl rfl cg13 <| TO_off rfl rfl cg13 <| TO_pf (v := (enc (false : Bool))) rfl cg13 rfl <| TO_nil ?_
         rw [← Option.some.inj hb_b6]
         exact ⟨hs, ⟨rfl, rfl, rfl, rfl, rfl, trivial⟩⟩
       ·rintro φ s ⟨hs, hF⟩
        rw [← hF.eq]
        refine TO_mv rfl ?_
        obtain ⟨b7, hb_b7, h⟩ := bs h
        refine TO_cut 3 (fun φ s => Hp s [(.cells m2 xs5), (.cells m1 xs4), (.cells m xs3), (.gl (NG mx))] ∧ Fx φ [(1, (.ptr m 0)), (13, (enc (r_7.2 : Int))), (15, (enc (r_8.2 : Int))), (94, (enc (b7 : Bool)))]) ?_ ?_
        ·split at hb_b7
         ·rename_i cg14
          refine TO_on rfl rfl cg14 <| TO_mv rfl <| TO_on rfl rfl cg14 <| TO_bi (v := (enc ((r_6.2 == 201) : Bool))) rfl rfl rfl <| TO_pt rfl cg14 rfl <| TO_nil ?_
          rw [← Option.some.inj hb_b7]
          exact ⟨hs, ⟨rfl, rfl, rfl, rfl, trivial⟩⟩
         ·rename_i cg15
          refine TO_off rfl rfl cg15 <| TO_off rfl rfl cg15 <| TO_pf (v := (enc (false : Bool))) rfl cg15 rfl <| TO_nil ?_
          rw [← Option.some.inj hb_b7]
          exact ⟨hs, ⟨rfl, rfl, rfl, rfl, trivial⟩⟩
        ·rintro φ s ⟨hs, hF⟩
         rw [← hF.eq]
         refine TO_mv rfl ?_
         obtain ⟨b8, hb_b8, h⟩ := bs h
         refine TO_cut 3 (fun φ s => Hp s [(.cells m2 xs5), (.cells m1 xs4), (.cells m xs3), (.gl (NG mx))] ∧ Fx φ [(1, (.ptr m 0)), (15, (enc (r_8.2 : Int))), (98, (enc (b8 : Bool)))]) ?_ ?_
         ·split at hb_b8
          ·rename_i cg16
           refine TO_on rfl rfl cg16 <| TO_mv rfl <| TO_on rfl rfl cg16 <| TO_bi (v := (enc ((r_7.2 == 215) : Bool))) rfl rfl rfl <| TO_pt rfl cg16 rfl <| TO_nil ?_
           rw [← Option.some.inj hb_b8]
           exact ⟨hs, ⟨rfl, rfl, rfl, trivial⟩⟩
          ·rename_i cg17
           refine TO_off rfl rfl cg17 <| TO_off rfl rfl cg17 <| TO_pf (v := (enc (false : Bool))) rfl cg17 rfl <| TO_nil ?_
           rw [← Option.some.inj hb_b8]
           exact ⟨hs, ⟨rfl, rfl, rfl, trivial⟩⟩
         ·rintro φ s ⟨hs, hF⟩
          rw [← hF.eq]
          refine TO_mv rfl ?_
          obtain ⟨b9, hb_b9, h⟩ := bs h
          refine TO_cut 3 (fun φ s => Hp s [(.cells m2 xs5), (.cells m1 xs4), (.cells m xs3), (.gl (NG mx))] ∧ Fx φ [(1, (.ptr m 0)), (102, (enc (b9 : Bool)))]) ?_ ?_
          ·split at hb_b9
           ·rename_i cg18
            refine TO_on rfl rfl cg18 <| TO_mv rfl <| TO_on rfl rfl cg18 <| TO_bi (v := (enc ((r_8.2 == 2) : Bool))) rfl rfl rfl <| TO_pt rfl cg18 rfl <| TO_nil ?_
            rw [← Option.some.inj hb_b9]
            exact ⟨hs, ⟨rfl, rfl, trivial⟩⟩
           ·rename_i cg19
            refine TO_off rfl rfl cg19 <| TO_off rfl rfl cg19 <| TO_pf (v := (enc (false : Bool))) rfl cg19 rfl <| TO_nil ?_
            rw [← Option.some.inj hb_b9]
            exact ⟨hs, ⟨rfl, rfl, trivial⟩⟩
          ·rintro φ s ⟨hs, hF⟩
           rw [← hF.eq]
           refine TO_mv rfl ?_
           obtain ⟨b10, hb_b10, h⟩ := bs h
           refine TO_cut 5 (fun φ s => Hp s [(.cells m2 xs5), (.cells m1 xs4), (.cells m xs3), (.gl (NG mx))] ∧ Fx φ [(1, (.ptr m 0)), (108, (enc (b10 : Bool)))]) ?_ ?_
           ·split at hb_b10
            ·rename_i cg20
             refine TO_on rfl rfl cg20 <| TO_fv TTryz.fl24_0 rfl <| TO_on rfl rfl cg20 ?_
             replace hs := Hp.front [(.cells m2 xs5), (.cells m1 xs4)] (b := [(.gl (NG mx))]) hs
             refine TO_ldV TTryz.ag22 Sel.zero rfl hxs3 hs fun y7 hy7 => TO_on rfl rfl cg20 <| TO_ln Tryz.underlying22 rfl rfl hy7 <| TO_on rfl rfl cg20 <| TO_bi (v := (enc (((r_4.1.v.1.length : Int) == 2) : Bool))) rfl rfl rfl <| TO_pt rfl cg20 rfl <| TO_nil ?_
             rw [← Option.some.inj hb_b10]
             exact ⟨(Hp.front [(.cells m1 xs4), (.cells m xs3), (.gl (NG mx))] (b := []) (Hp.front [(.cells m xs3), (.gl (NG mx)), (.cells m2 xs5)] (b := []) (Hp.front [(.gl (NG mx))] (b := [(.cells m2 xs5), (.cells m1 xs4)]) (Hp.front [(.cells m xs3), (.cells m2 xs5), (.cells m1 xs4)] (b := []) hs)))), ⟨rfl, rfl, trivial⟩⟩
            ·rename_i cg21
             refine TO_off rfl rfl cg21 <| TO_off rfl rfl cg21 <| TO_off rfl rfl cg21 <| TO_off rfl rfl cg21 <| TO_pf (v := (enc (false : Bool))) rfl cg21 rfl <| TO_nil ?_
             rw [← Option.some.inj hb_b10]
             exact ⟨hs, ⟨rfl, rfl, trivial⟩⟩
           ·rintro φ s ⟨hs, hF⟩
            rw [← hF.eq]
            refine TO_mv rfl ?_
            obtain ⟨b11, hb_b11, h⟩ := bs h
            refine TO_cut 7 (fun φ s => Hp s [(.cells m2 xs5), (.cells m1 xs4), (.cells m xs3), (.gl (NG mx))] ∧ Fx φ [(1, (.ptr m 0)), (116, (enc (b11 : Bool)))]) ?_ ?_
            ·split at hb_b11
             ·rename_i cg22
              refine TO_on rfl rfl cg22 <| TO_fv TTryz.fl24_0 rfl <| TO_on rfl rfl cg22 ?_
              replace hs := Hp.front [(.cells m2 xs5), (.cells m1 xs4)] (b := [(.gl (NG mx))]) hs
              refine TO_ldV TTryz.ag22 Sel.zero rfl hxs3 hs fun y8 hy8 => TO_on rfl rfl cg22 ?_
              obtain ⟨v, hx9, hb_b11⟩ := bs hb_b11
              refine TO_ix Tryz.underlying22 TTryz.sh38 rfl rfl hy8 hx9 fun p hp => TO_on rfl rfl cg22 <| TO_fp TTryz.fl38_3 (Sel.succ (Sel.succ (Sel.succ Sel.zero))) rfl hp fun p1 hp1 => TO_on rfl rfl cg22 <| TO_ldF TTryz.ag3 rfl hp1 fun y9 hy9 => ?_
              cases hy9
              refine TO_on rfl rfl cg22 <| TO_bi (v := (enc ((v.v.2.2.2.1 == 1) : Bool))) rfl rfl rfl <| TO_pt rfl cg22 rfl <| TO_nil ?_
              rw [← Option.some.inj hb_b11]
              exact ⟨(Hp.front [(.cells m1 xs4), (.cells m xs3), (.gl (NG mx))] (b := []) (Hp.front [(.cells m xs3), (.gl (NG mx)), (.cells m2 xs5)] (b := []) (Hp.front [(.gl (NG mx))] (b := [(.cells m2 xs5), (.cells m1 xs4)]) (Hp.front [(.cells m xs3), (.cells m2 xs5), (.cells m1 xs4)] (b := []) hs)))), ⟨rfl, rfl, trivial⟩⟩
             ·rename_i cg23
              refine TO_off rfl rfl cg23 <| TO_off rfl rfl cg23 <| TO_off rfl rfl cg23 <| TO_off rfl rfl cg23 <| TO_off rfl rfl cg23 <| TO_off rfl rfl cg23 <| TO_pf (v := (enc (false : Bool))) rfl cg23 rfl <| TO_nil ?_
              rw [← Option.some.inj hb_b11]
              exact ⟨hs, ⟨rfl, rfl, trivial⟩⟩
            ·rintro φ s ⟨hs, hF⟩
             rw [← hF.eq]
             refine TO_mv rfl ?_
             obtain ⟨b12, hb_b12, h⟩ := bs h
             refine TO_cut 3 (fun φ s => Hp s [(.cells m2 xs5), (.cells m1 xs4), (.cells m xs3), (.gl (NG mx))] ∧ Fx φ [(120, (enc (b12 : Bool)))]) ?_ ?_
             ·split at hb_b12
              ·rename_i cg24
               refine TO_on rfl rfl cg24 ?_
               replace hs := Hp.front [(.cells m2 xs5), (.cells m1 xs4)] (b := [(.gl (NG mx))]) hs
               refine TO_ldW (r := r_4.1) TTryz.ag24 TTryz.sz24 rfl hxs3 hs fun y10 hy10 => TO_on rfl rfl cg24 ?_
               obtain ⟨r_9, hx10, hb_b12⟩ := bs hb_b12
               refine TO_fnG (f := fun a : FsR × Unit => plain_Check a.1) (a := (r_4.1, ())) rfl Tryz.func25 rfl rfl (.cons (a := (r_4.1 : FsR)) hy10 .nil) hs (List.mem_cons_of_mem _ (List.mem_cons_of_mem _ (List.mem_cons_of_mem _ List.mem_cons_self))) hx10 <| TO_pt rfl cg24 rfl <| TO_nil ?_
               rw [← Option.some.inj hb_b12]
               exact ⟨(Hp.front [(.cells m1 xs4), (.cells m xs3), (.gl (NG mx))] (b := []) (Hp.front [(.cells m xs3), (.gl (NG mx)), (.cells m2 xs5)] (b := []) (Hp.front [(.gl (NG mx))] (b := [(.cells m2 xs5), (.cells m1 xs4)]) (Hp.front [(.cells m xs3), (.cells m2 xs5), (.cells m1 xs4)] (b := []) hs)))), ⟨rfl, trivial⟩⟩
              ·rename_i cg25
               refine TO_off rfl rfl cg25 <| TO_off rfl rfl cg25 <| TO_pf (v := (enc (false : Bool))) rfl cg25 rfl <| TO_nil ?_
               rw [← Option.some.inj hb_b12]
               exact ⟨hs, ⟨rfl, trivial⟩⟩
             ·rintro φ s ⟨hs, hF⟩
              rw [← hF.eq]
              refine TO_as rfl <| TO_nil <| TC_ret ?_
              rw [← Option.some.inj h]
              exact ⟨rfl, KE1 (a := (b12 : Bool)) rfl rfl (rfl : is _ (b12 : Bool)) (rfl : is _ (b12 : Bool))⟩
theorem law_heads_pc (mx : Int) : PureC Tryz.prog 10 (FnG (NG mx) (fun a : Unit => law_heads)) := fnCG (px1_ok mx) ⟨_, Tryz.func10, rfl⟩ <| fun a r h => law_heads_wf mx r h
noncomputable def px2 (mx : Int) : Prims := (px1 mx).addG 10 (FnG (NG mx) (fun a : Unit => law_heads))
theorem px2_ok (mx : Int) : PrimsOk Tryz.prog (px2 mx) := primsOk_addG (px1_ok mx) (law_heads_pc mx)
theorem law_Numbers_wf (mx : Int) (f : FsR) (kind : Int) (r : Bool) (h : law_Numbers f kind = some r) : MF Tryz.prog (px2 mx) 3 [enc f, enc kind] (sG (NG mx)) fun v _ => ris v r := by
 refine TF_run [(0, enc f), (1, enc kind)] Tryz.func3 rfl (by simp only [Tryz.f3]; rfl) fun ψ => ?_
 unfold law_Numbers at h
 have hs : Hp (sG (NG mx)) [.gl (NG mx)] := Hp.gl0
 refine TC_seq <| TC_reg <| TO_bxR (r := f) rfl (Enc.self f) hs fun m xs s hxs hs => TO_as (v := (enc (false : Bool))) rfl <| TO_nil <| TC_seq <| TC_seq <| TC_reg <| TO_ldW (r := f) TTryz.ag24 TTryz.sz24 rfl hxs hs fun y hy => ?_
 obtain ⟨r_, hx, h⟩ := bs h
 refine TO_fn (f := fun a : FsR × Unit => law_small a.1) (a := (f, ())) rfl Tryz.func9 rfl rfl (.cons (a := (f : FsR)) hy .nil) hx <| TO_un (v := (enc ((!r_) : Bool))) rfl rfl <| TO_nil ?_
 split at h
 ·rename_i hcond
  refine TC_cond_t rfl hcond <| TC_seq <| TC_reg ?_
  obtain ⟨r_1, hx1, h⟩ := bs h
  refine TO_fnG (f := fun a : Unit => law_heads) (a := (())) rfl Tryz.func10 rfl rfl .nil hs (List.mem_cons_of_mem _ List.mem_cons_self) hx1 <| TO_as rfl <| TO_nil <| TC_ret ?_
  rw [← Option.some.inj h]
  exact ⟨rfl, KE1 (a := (r_1 : Bool)) rfl rfl (rfl : is _ (r_1 : Bool)) (rfl : is _ (r_1 : Bool))⟩
 ·rename_i hcond
  refine TC_cond_f rfl hcond <| TC_skip <| TC_seq <| TC_reg <| TO_ldW (r := f) TTryz.ag24 TTryz.sz24 rfl hxs hs fun y1 hy1 => TO_mv rfl ?_
  obtain ⟨r_2, hx2, h⟩ := bs h
  refine TO_fnG (f := fun a : FsR × Int × Int × Str × Unit => plain_Make a.1 a.2.1 a.2.2.1 a.2.2.2.1) (a := (f, kind, 420, (str []), ())) rfl Tryz.func11 rfl rfl (.cons (a := (f : FsR)) hy1 (.cons (a := (kind : Int)) (Enc.self _) (.cons (a := (420 : Int)) (rfl : is _ (420 : Int)) (.cons (a := ((str []) : Str)) (Enc.self _) .nil)))) hs (List.mem_cons_of_mem _ List.mem_cons_self) hx2 <| TO_mv (v := (res r_2)) rfl <| TO_ex rfl rfl <| TO_ex rfl rfl <| TO_ex rfl rfl <| TO_alR (r := (Rec.mk (([] : (List InodeR)), (0 : Int), ()) : FsR)) TTryz.zr24 TTryz.zf24 hs fun m1 s hs => TO_stR (r := r_2.1) TTryz.sz24 rfl rfl TTryz.zf24 (Enc.self r_2.1) hs fun xs1 s hxs1 hs => TO_as rfl <| TO_as rfl <| TO_nil <| TC_seq <| TC_seq <| TC_reg <| TO_mv rfl <| TO_bi (v := (enc ((r_2.2.2 != 0) : Bool))) rfl rfl rfl ?_
  refine TO_nil ?_
  split at h
  ·rename_i hcond
   refine TC_cond_t rfl hcond <| TC_seq <| TC_reg <| TO_ldW (r := r_2.1) TTryz.ag24 TTryz.sz24 rfl hxs1 hs fun y2 hy2 => ?_
   replace hs := Hp.front [(.cells m1 xs1)] (b := [(.gl (NG mx))]) hs
   refine TO_ldW (r := f) TTryz.ag24 TTryz.sz24 rfl hxs hs fun y3 hy3 => ?_
   obtain ⟨r_3, hx3, h⟩ := bs h
   refine TO_fn (f := fun a : FsR × FsR × Unit => ref_Same a.1 a.2.1) (a := (r_2.1, f, ())) rfl Tryz.func12 rfl rfl (.cons (a := (r_2.1 : FsR)) hy2 (.cons (a := (f : FsR)) hy3 .nil)) hx3 <| TO_mv rfl ?_
   obtain ⟨b, hb_b, h⟩ := bs h
   refine TO_cut 2 (fun φ s => Hp s [(.cells m xs), (.cells m1 xs1), (.gl (NG mx))] ∧ Fx φ [(31, (enc (b : Bool)))]) ?_ ?_
   ·split at hb_b
    ·rename_i cg
     refine TO_on rfl rfl cg ?_
     obtain ⟨r_4, hx4, hb_b⟩ := bs hb_b
     refine TO_fnG (f := fun a : Unit => law_heads) (a := (())) rfl Tryz.func10 rfl rfl .nil hs (List.mem_cons_of_mem _ (List.mem_cons_of_mem _ List.mem_cons_self)) hx4 <| TO_pt rfl cg rfl <| TO_nil ?_
     rw [← Option.some.inj hb_b]
     exact ⟨hs, ⟨rfl, trivial⟩⟩
    ·rename_i cg1
     refine TO_off rfl rfl cg1 <| TO_pf (v := (enc (false : Bool))) rfl cg1 rfl <| TO_nil ?_
     rw [← Option.some.inj hb_b]
     exact ⟨hs, ⟨rfl, trivial⟩⟩
   ·rintro φ s ⟨hs, hF⟩
    rw [← hF.eq]
    refine TO_as rfl <| TO_nil <| TC_ret ?_
    rw [← Option.some.inj h]
    exact ⟨rfl, KE1 (a := (b : Bool)) rfl rfl (rfl : is _ (b : Bool)) (rfl : is _ (b : Bool))⟩
  ·rename_i hcond
   refine TC_cond_f rfl hcond <| TC_skip <| TC_seq <| TC_seq <| TC_reg <| TO_fv TTryz.fl24_1 rfl ?_
   replace hs := Hp.front [(.cells m1 xs1)] (b := [(.gl (NG mx))]) hs
   refine TO_ldV TTryz.ag3 (Sel.succ Sel.zero) rfl hxs hs fun y4 hy4 => ?_
   cases hy4
   refine TO_as rfl <| TO_nil <| TC_block ?_
   obtain ⟨o, hl, h⟩ := bs h
   refine TC_loop (fun (p : Int) φ s => match p with | k => Fx φ [(1, (enc (kind : Int))), (2, (.ptr m 0)), (5, (.ptr m1 0)), (6, (enc (r_2.2.1 : Int))), (8, (enc (k : Int)))] ∧ Hp s [(.cells m xs), (.cells m1 xs1), (.gl (NG mx))]) (fun (o : (Unit ⊕ Bool)) e φ s => match o with | (.inl _) => e = .exit 0 ∧ Fx φ [(1, (enc (kind : Int))), (2, (.ptr m 0)), (5, (.ptr m1 0)), (6, (enc (r_2.2.1 : Int)))] ∧ Hp s [(.cells m xs), (.cells m1 xs1), (.gl (NG mx))] | (.inr v) => e = .ret ∧ Fx φ [(4, (enc (v : Bool)))] ∧ Hp s [(.gl (NG mx))]) ?_ hl ⟨⟨rfl, rfl, rfl, rfl, rfl, trivial⟩, hs⟩ ?_
   ·rintro k o h φ s ⟨hF, hs⟩
    rw [← hF.eq]
    rw [law_Numbers_l1] at h
    refine TC_seq <| TC_seq <| TC_reg <| TO_mv rfl <| TO_mv rfl <| TO_bi (v := (enc ((decide (k < r_2.2.1)) : Bool))) rfl rfl rfl <| TO_nil ?_
    split at h
    ·rename_i hcond
     refine TC_cond_t rfl hcond <| TC_skip <| TC_seq <| TC_block <| TC_seq <| TC_reg <| TO_ldW (r := f) TTryz.ag24 TTryz.sz24 rfl hxs hs fun y5 hy5 => TO_mv rfl ?_
     obtain ⟨r_5, hx5, h⟩ := bs h
     refine TO_fn (f := fun a : FsR × Int × Unit => plain_Find a.1 a.2.1) (a := (f, k, ())) rfl Tryz.func13 rfl rfl (.cons (a := (f : FsR)) hy5 (.cons (a := (k : Int)) (Enc.self _) .nil)) hx5 <| TO_bi (v := (enc ((decide (r_5 < 0)) : Bool))) rfl rfl rfl <| TO_nil ?_
     split at h
     ·rename_i hcond
      refine TC_cond_t rfl hcond <| TC_seq <| TC_reg <| TO_as (v := (enc (false : Bool))) rfl <| TO_nil <| TC_ret ?_
      show if _ then _ else _
      rw [if_neg (by simp)]
      rw [← Option.some.inj h]
      exact ⟨_, rfl, rfl, ⟨⟨rfl, trivial⟩, (Hp.drop [] (b := [(.gl (NG mx))]) (Hp.drop [] (b := [(.cells m1 xs1), (.gl (NG mx))]) hs))⟩⟩
     ·rename_i hcond
      refine TC_cond_f rfl hcond <| TC_skip <| TC_reg <| TO_mv rfl <| TO_bi (v := (enc ((IntKind.i64.wrap (k + 1)) : Int))) rfl rfl rfl <| TO_as rfl <| TO_nil ?_
      rw [← Option.some.inj h]
      exact ⟨_, rfl, ⟨⟨rfl, rfl, rfl, rfl, rfl, trivial⟩, hs⟩⟩
    ·rename_i hcond
     refine TC_cond_f rfl hcond <| TC_exit ?_
     rw [← Option.some.inj h]
     exact ⟨_, rfl, rfl, ⟨⟨rfl, rfl, rfl, rfl, trivial⟩, hs⟩⟩
   ·intro e φ s hE
    rcases o with _u | v
    ·obtain ⟨rfl, hF, hs⟩ := hE
     rw [← hF.eq]
     rw [law_Numbers_a1] at h
     show if _ then _ else _
     rw [if_pos rfl]
     refine TC_seq <| TC_reg ?_
     replace hs := Hp.front [(.cells m xs)] (b := [(.gl (NG mx))]) hs
     refine TO_ldW (r := r_2.1) TTryz.ag24 TTryz.sz24 rfl hxs1 hs fun y6 hy6 => TO_mv rfl ?_
     obtain ⟨r_6, hx6, h⟩ := bs h
     refine TO_fn (f := fun a : FsR × Int × Unit => plain_Find a.1 a.2.1) (a := (r_2.1, r_2.2.1, ())) rfl Tryz.func13 rfl rfl (.cons (a := (r_2.1 : FsR)) hy6 (.cons (a := (r_2.2.1 : Int)) (Enc.self _) .nil)) hx6 <| TO_as rfl <| TO_nil <| TC_seq <| TC_seq <| TC_reg <| TO_mv rfl <| TO_bi (v := (enc ((decide (r_6 < 0)) : Bool))) rfl rfl rfl <| TO_mv rfl ?_
     obtain ⟨b1, hb_b1, h⟩ := bs h
     refine TO_cut 5 (fun φ s => Hp s [(.cells m1 xs1), (.cells m xs), (.gl (NG mx))] ∧ Fx φ [(1, (enc (kind : Int))), (2, (.ptr m 0)), (5, (.ptr m1 0)), (6, (enc (r_2.2.1 : Int))), (9, (enc (r_6 : Int))), (53, (enc (b1 : Bool)))]) ?_ ?_
     ·split at hb_b1
      ·rename_i cg2
       refine TO_off rfl rfl (by simpa using cg2) <| TO_off rfl rfl (by simpa using cg2) <| TO_off rfl rfl (by simpa using cg2) <| TO_off rfl rfl (by simpa using cg2) <| TO_pt (v := (enc (true : Bool))) rfl cg2 rfl <| TO_nil ?_
       rw [← Option.some.inj hb_b1]
       exact ⟨hs, ⟨rfl, rfl, rfl, rfl, rfl, rfl, trivial⟩⟩
      ·rename_i cg3
       refine TO_on rfl rfl (by simpa using cg3) <| TO_mv rfl <| TO_on rfl rfl (by simpa using cg3) <| TO_fv TTryz.fl24_1 rfl <| TO_on rfl rfl (by simpa using cg3) ?_
       replace hs := Hp.front [(.cells m1 xs1)] (b := [(.gl (NG mx))]) hs
       refine TO_ldV TTryz.ag3 (Sel.succ Sel.zero) rfl hxs hs fun y7 hy7 => ?_
       cases hy7
       refine TO_on rfl rfl (by simpa using cg3) <| TO_bi (v := (enc ((decide (r_2.2.1 < f.v.2.1)) : Bool))) rfl rfl rfl <| TO_pf rfl cg3 rfl <| TO_nil ?_
       rw [← Option.some.inj hb_b1]
       exact ⟨(Hp.front [(.cells m xs), (.gl (NG mx))] (b := []) (Hp.front [(.gl (NG mx))] (b := [(.cells m1 xs1)]) (Hp.front [(.cells m xs), (.cells m1 xs1)] (b := []) hs))), ⟨rfl, rfl, rfl, rfl, rfl, rfl, trivial⟩⟩
     ·rintro φ s ⟨hs, hF⟩
      rw [← hF.eq]
      refine TO_mv rfl ?_
      obtain ⟨b2, hb_b2, h⟩ := bs h
      refine TO_cut 5 (fun φ s => Hp s [(.cells m1 xs1), (.cells m xs), (.gl (NG mx))] ∧ Fx φ [(1, (enc (kind : Int))), (2, (.ptr m 0)), (5, (.ptr m1 0)), (6, (enc (r_2.2.1 : Int))), (9, (enc (r_6 : Int))), (59, (enc (b2 : Bool)))]) ?_ ?_
      ·split at hb_b2
       ·rename_i cg4
        refine TO_off rfl rfl (by simpa using cg4) <| TO_off rfl rfl (by simpa using cg4) <| TO_off rfl rfl (by simpa using cg4) <| TO_off rfl rfl (by simpa using cg4) <| TO_pt (v := (enc (true : Bool))) rfl cg4 rfl <| TO_nil ?_
        rw [← Option.some.inj hb_b2]
        exact ⟨hs, ⟨rfl, rfl, rfl, rfl, rfl, rfl, trivial⟩⟩
       ·rename_i cg5
        refine TO_on rfl rfl (by simpa using cg5) ?_
        replace hs := Hp.front [(.cells m1 xs1)] (b := [(.gl (NG mx))]) hs
        refine TO_ldW (r := f) TTryz.ag24 TTryz.sz24 rfl hxs hs fun y8 hy8 => TO_on rfl rfl (by simpa using cg5) <| TO_mv rfl <| TO_on rfl rfl (by simpa using cg5) ?_
        obtain ⟨r_7, hx7, hb_b2⟩ := bs hb_b2
        refine TO_fn (f := fun a : FsR × Int × Unit => plain_Find a.1 a.2.1) (a := (f, r_2.2.1, ())) rfl Tryz.func13 rfl rfl (.cons (a := (f : FsR)) hy8 (.cons (a := (r_2.2.1 : Int)) (Enc.self _) .nil)) hx7 <| TO_on rfl rfl (by simpa using cg5) <| TO_bi (v := (enc ((decide (r_7 ≥ 0)) : Bool))) rfl rfl rfl <| TO_pf rfl cg5 rfl <| TO_nil ?_
        rw [← Option.some.inj hb_b2]
        exact ⟨(Hp.front [(.cells m xs), (.gl (NG mx))] (b := []) (Hp.front [(.gl (NG mx))] (b := [(.cells m1 xs1)]) (Hp.front [(.cells m xs), (.cells m1 xs1)] (b := []) hs))), ⟨rfl, rfl, rfl, rfl, rfl, rfl, trivial⟩⟩
      ·rintro φ s ⟨hs, hF⟩
       rw [← hF.eq]
       refine TO_mv rfl ?_
       obtain ⟨b3, hb_b3, h⟩ := bs h
       refine TO_cut 9 (fun φ s => Hp s [(.cells m1 xs1), (.cells m xs), (.gl (NG mx))] ∧ Fx φ [(1, (enc (kind : Int))), (2, (.ptr m 0)), (5, (.ptr m1 0)), (6, (enc (r_2.2.1 : Int))), (9, (enc (r_6 : Int))), (69, (enc (b3 : Bool)))]) ?_ ?_
       ·split at hb_b3
        ·rename_i cg6
         refine TO_off rfl rfl (by simpa using cg6) <| TO_off rfl rfl (by simpa using cg6) <| TO_off rfl rfl (by simpa using cg6) <| TO_off rfl rfl (by simpa using cg6) <| TO_off rfl rfl (by simpa using cg6) <| TO_off rfl rfl (by simpa using cg6) <| TO_off rfl rfl (by simpa using cg6) <| TO_off rfl rfl (by simpa using cg6) <| TO_pt (v := (enc (true : Bool))) rfl cg6 rfl <| TO_nil ?_
         rw [← Option.some.inj hb_b3]
         exact ⟨hs, ⟨rfl, rfl, rfl, rfl, rfl, rfl, trivial⟩⟩
        ·rename_i cg7
         refine TO_on rfl rfl (by simpa using cg7) <| TO_fv TTryz.fl24_0 rfl <| TO_on rfl rfl (by simpa using cg7) <| TO_ldV TTryz.ag22 Sel.zero rfl hxs1 hs fun y9 hy9 => TO_on rfl rfl (by simpa using cg7) <| TO_ln Tryz.underlying22 rfl rfl hy9 <| TO_on rfl rfl (by simpa using cg7) <| TO_fv TTryz.fl24_0 rfl <| TO_on rfl rfl (by simpa using cg7) ?_
         replace hs := Hp.front [(.cells m1 xs1)] (b := [(.gl (NG mx))]) hs
         refine TO_ldV TTryz.ag22 Sel.zero rfl hxs hs fun y10 hy10 => TO_on rfl rfl (by simpa using cg7) <| TO_ln Tryz.underlying22 rfl rfl hy10 <| TO_on rfl rfl (by simpa using cg7) <| TO_bi (v := (enc ((IntKind.i64.wrap ((f.v.1.length : Int) + 1)) : Int))) rfl rfl rfl <| TO_on rfl rfl (by simpa using cg7) <| TO_bi (v := (enc (((r_2.1.v.1.length : Int) != (IntKind.i64.wrap ((f.v.1.length : Int) + 1))) : Bool))) rfl rfl rfl <| TO_pf rfl cg7 rfl <| TO_nil ?_
         rw [← Option.some.inj hb_b3]
         exact ⟨(Hp.front [(.cells m xs), (.gl (NG mx))] (b := []) (Hp.front [(.gl (NG mx))] (b := [(.cells m1 xs1)]) (Hp.front [(.cells m xs), (.cells m1 xs1)] (b := []) hs))), ⟨rfl, rfl, rfl, rfl, rfl, rfl, trivial⟩⟩
       ·rintro φ s ⟨hs, hF⟩
        rw [← hF.eq]
        refine TO_nil ?_
        split at h
        ·rename_i hcond
         refine TC_cond_t rfl hcond <| TC_seq <| TC_reg <| TO_as (v := (enc (false : Bool))) rfl <| TO_nil <| TC_ret ?_
         rw [← Option.some.inj h]
         exact ⟨rfl, KE1 (a := (false : Bool)) rfl rfl (rfl : is _ (false : Bool)) (rfl : is _ (false : Bool))⟩
        ·rename_i hcond
         refine TC_cond_f rfl hcond <| TC_skip <| TC_seq <| TC_reg <| TO_fv TTryz.fl24_0 rfl <| TO_ldV TTryz.ag22 Sel.zero rfl hxs1 hs fun y11 hy11 => TO_mv rfl ?_
         obtain ⟨v1, hx8, h⟩ := bs h
         refine TO_ix Tryz.underlying22 TTryz.sh38 rfl rfl hy11 hx8 fun p hp => TO_ldE TTryz.ag38 TTryz.sz38 rfl hp fun y12 hy12 => TO_alR (r := (Rec.mk ((0 : Int), (0 : Int), (0 : Int), (0 : Int), ([] : (List UInt8)), (str []), ([] : (List Str)), ([] : (List Int)), ([] : (List AttrR)), ()) : InodeR)) TTryz.zr38 TTryz.zf38 hs fun m2 s hs => TO_stR (r := v1) TTryz.sz38 rfl rfl TTryz.zf38 hy12 hs fun xs2 s hxs2 hs => TO_nil <| TC_seq <| TC_reg ?_
         replace hs := Hp.front [(.cells m2 xs2)] (b := [(.cells m xs), (.gl (NG mx))]) hs
         refine TO_ldW (r := r_2.1) TTryz.ag24 TTryz.sz24 rfl hxs1 hs fun y13 hy13 => TO_mv rfl ?_
         obtain ⟨r_8, hx9, h⟩ := bs h
         refine TO_fnG (f := fun a : FsR × Int × Unit => plain_Drop a.1 a.2.1) (a := (r_2.1, r_2.2.1, ())) rfl Tryz.func14 rfl rfl (.cons (a := (r_2.1 : FsR)) hy13 (.cons (a := (r_2.2.1 : Int)) (Enc.self _) .nil)) hs (List.mem_cons_of_mem _ (List.mem_cons_of_mem _ (List.mem_cons_of_mem _ List.mem_cons_self))) hx9 <| TO_mv (v := (res r_8)) rfl <| TO_ex rfl rfl <| TO_ex rfl rfl <| TO_alR (r := (Rec.mk (([] : (List InodeR)), (0 : Int), ()) : FsR)) TTryz.zr24 TTryz.zf24 hs fun m3 s hs => TO_stR (r := r_8.1) TTryz.sz24 rfl rfl TTryz.zf24 (Enc.self r_8.1) hs fun xs3 s hxs3 hs => TO_as rfl <| TO_nil <| TC_seq <| TC_reg <| TO_fv TTryz.fl38_1 rfl ?_
         replace hs := Hp.front [(.cells m3 xs3), (.cells m1 xs1)] (b := [(.cells m xs), (.gl (NG mx))]) hs
         refine TO_ldV TTryz.ag25 (Sel.succ Sel.zero) rfl hxs2 hs fun y14 hy14 => ?_
         cases hy14
         refine TO_mv rfl <| TO_bi (v := (enc ((v1.v.2.1 == kind) : Bool))) rfl rfl rfl <| TO_mv rfl ?_
         obtain ⟨b4, hb_b4, h⟩ := bs h
         refine TO_cut 4 (fun φ s => Hp s [(.cells m2 xs2), (.cells m3 xs3), (.cells m1 xs1), (.cells m xs), (.gl (NG mx))] ∧ Fx φ [(2, (.ptr m 0)), (10, (.ptr m2 0)), (11, (.ptr m3 0)), (12, (enc (r_8.2 : Int))), (89, (enc (b4 : Bool)))]) ?_ ?_
         ·split at hb_b4
          ·rename_i cg8
           refine TO_on rfl rfl cg8 <| TO_fv TTryz.fl38_2 rfl <| TO_on rfl rfl cg8 <| TO_ldV TTryz.ag3 (Sel.succ (Sel.succ Sel.zero)) rfl hxs2 hs fun y15 hy15 => ?_
           cases hy15
           refine TO_on rfl rfl cg8 <| TO_bi (v := (enc ((v1.v.2.2.1 == 420) : Bool))) rfl rfl rfl <| TO_pt rfl cg8 rfl <| TO_nil ?_
           rw [← Option.some.inj hb_b4]
           exact ⟨hs, ⟨rfl, rfl, rfl, rfl, rfl, trivial⟩⟩
          ·rename_i cg9
           refine TO_off rfl rfl cg9 <| TO_off rfl rfl cg9 <| TO_off rfl rfl cg9 <| TO_pf (v := (enc (false : Bool))) rfl cg9 rfl <| TO_nil ?_
           rw [← Option.some.inj hb_b4]
           exact ⟨hs, ⟨rfl, rfl, rfl, rfl, rfl, trivial⟩⟩
         ·rintro φ s ⟨hs, hF⟩
          rw [← hF.eq]
          refine TO_mv rfl ?_
          obtain ⟨b5, hb_b5, h⟩ := bs h
          refine TO_cut 13 (fun φ s => Hp s [(.cells m2 xs2), (.cells m3 xs3), (.cells m1 xs1), (.cells m xs), (.gl (NG mx))] ∧ Fx φ [(2, (.ptr m 0)), (11, (.ptr m3 0)), (12, (enc (r_8.2 : Int))), (103, (enc (b5 : Bool)))]) ?_ ?_
          ·split at hb_b5
           ·rename_i cg10
            refine TO_on rfl rfl cg10 <| TO_fv TTryz.fl38_4 rfl <| TO_on rfl rfl cg10 <| TO_ldV TTryz.ag33 (Sel.succ (Sel.succ (Sel.succ (Sel.succ Sel.zero)))) rfl hxs2 hs fun y16 hy16 => TO_on rfl rfl cg10 <| TO_ln Tryz.underlying33 rfl rfl hy16 <| TO_on rfl rfl cg10 <| TO_fv TTryz.fl38_6 rfl <| TO_on rfl rfl cg10 <| TO_ldV TTryz.ag34 (Sel.succ (Sel.succ (Sel.succ (Sel.succ (Sel.succ (Sel.succ Sel.zero)))))) rfl hxs2 hs fun y17 hy17 => TO_on rfl rfl cg10 <| TO_ln Tryz.underlying34 rfl rfl hy17 <| TO_on rfl rfl cg10 <| TO_bi (v := (enc ((IntKind.i64.wrap ((v1.v.2.2.2.2.1.length : Int) + (v1.v.2.2.2.2.2.2.1.length : Int))) : Int))) rfl rfl rfl <| TO_on rfl rfl cg10 ?_
            refine TO_fv TTryz.fl38_8 rfl <| TO_on rfl rfl cg10 <| TO_ldV TTryz.ag36 (Sel.succ (Sel.succ (Sel.succ (Sel.succ (Sel.succ (Sel.succ (Sel.succ (Sel.succ Sel.zero)))))))) rfl hxs2 hs fun y18 hy18 => TO_on rfl rfl cg10 <| TO_ln Tryz.underlying36 rfl rfl hy18 <| TO_on rfl rfl cg10 <| TO_bi (v := (enc ((IntKind.i64.wrap ((IntKind.i64.wrap ((v1.v.2.2.2.2.1.length : Int) + (v1.v.2.2.2.2.2.2.1.length : Int))) + (v1.v.2.2.2.2.2.2.2.2.1.length : Int))) : Int))) rfl rfl rfl <| TO_on rfl rfl cg10 <| TO_bi (v := (enc (((IntKind.i64.wrap ((IntKind.i64.wrap ((v1.v.2.2.2.2.1.length : Int) + (v1.v.2.2.2.2.2.2.1.length : Int))) + (v1.v.2.2.2.2.2.2.2.2.1.length : Int))) == 0) : Bool))) rfl rfl rfl <| TO_pt rfl cg10 rfl <| TO_nil ?_
            rw [← Option.some.inj hb_b5]
            exact ⟨hs, ⟨rfl, rfl, rfl, rfl, trivial⟩⟩
           ·rename_i cg11
            refine TO_off rfl rfl cg11 <| TO_off rfl rfl cg11 <| TO_off rfl rfl cg11 <| TO_off rfl rfl cg11 <| TO_off rfl rfl cg11 <| TO_off rfl rfl cg11 <| TO_off rfl rfl cg11 <| TO_off rfl rfl cg11 <| TO_off rfl rfl cg11 <| TO_off rfl rfl cg11 <| TO_off rfl rfl cg11 <| TO_off rfl rfl cg11 <| TO_pf (v := (enc (false : Bool))) rfl cg11 rfl <| TO_nil ?_
            rw [← Option.some.inj hb_b5]
            exact ⟨hs, ⟨rfl, rfl, rfl, rfl, trivial⟩⟩
          ·rintro φ s ⟨hs, hF⟩
           rw [← hF.eq]
           refine TO_mv rfl ?_
           obtain ⟨b6, hb_b6, h⟩ := bs h
           refine TO_cut 3 (fun φ s => Hp s [(.cells m2 xs2), (.cells m3 xs3), (.cells m1 xs1), (.cells m xs), (.gl (NG mx))] ∧ Fx φ [(2, (.ptr m 0)), (11, (.ptr m3 0)), (107, (enc (b6 : Bool)))]) ?_ ?_
           ·split at hb_b6
            ·rename_i cg12
             refine TO_on rfl rfl cg12 <| TO_mv rfl <| TO_on rfl rfl cg12 <| TO_bi (v := (enc ((r_8.2 == 0) : Bool))) rfl rfl rfl <| TO_pt rfl cg12 rfl <| TO_nil ?_
             rw [← Option.some.inj hb_b6]
             exact ⟨hs, ⟨rfl, rfl, rfl, trivial⟩⟩
            ·rename_i cg13
             refine TO_off rfl rfl cg13 <| TO_off rfl rfl cg13 <| TO_pf (v := (enc (false : Bool))) rfl cg13 rfl <| TO_nil ?_
             rw [← Option.some.inj hb_b6]
             exact ⟨hs, ⟨rfl, rfl, rfl, trivial⟩⟩
           ·rintro φ s ⟨hs, hF⟩
            rw [← hF.eq]
            refine TO_mv rfl ?_
            obtain ⟨b7, hb_b7, h⟩ := bs h
            refine TO_cut 4 (fun φ s => Hp s [(.cells m2 xs2), (.cells m3 xs3), (.cells m1 xs1), (.cells m xs), (.gl (NG mx))] ∧ Fx φ [(112, (enc (b7 : Bool)))]) ?_ ?_
            ·split at hb_b7
             ·rename_i cg14
              refine TO_on rfl rfl cg14 ?_
              replace hs := Hp.front [(.cells m2 xs2)] (b := [(.cells m1 xs1), (.cells m xs), (.gl (NG mx))]) hs
              refine TO_ldW (r := r_8.1) TTryz.ag24 TTryz.sz24 rfl hxs3 hs fun y19 hy19 => TO_on rfl rfl cg14 ?_
              replace hs := Hp.front [(.cells m3 xs3), (.cells m2 xs2), (.cells m1 xs1)] (b := [(.gl (NG mx))]) hs
              refine TO_ldW (r := f) TTryz.ag24 TTryz.sz24 rfl hxs hs fun y20 hy20 => TO_on rfl rfl cg14 ?_
              obtain ⟨r_9, hx10, hb_b7⟩ := bs hb_b7
              refine TO_fn (f := fun a : FsR × FsR × Unit => ref_Same a.1 a.2.1) (a := (r_8.1, f, ())) rfl Tryz.func12 rfl rfl (.cons (a := (r_8.1 : FsR)) hy19 (.cons (a := (f : FsR)) hy20 .nil)) hx10 <| TO_pt rfl cg14 rfl <| TO_nil ?_
              rw [← Option.some.inj hb_b7]
              exact ⟨(Hp.front [(.cells m3 xs3), (.cells m1 xs1), (.cells m xs), (.gl (NG mx))] (b := []) (Hp.front [(.cells m1 xs1), (.cells m xs), (.gl (NG mx))] (b := [(.cells m2 xs2)]) (Hp.front [(.cells m xs), (.gl (NG mx)), (.cells m3 xs3), (.cells m2 xs2)] (b := []) (Hp.front [(.gl (NG mx))] (b := [(.cells m3 xs3), (.cells m2 xs2), (.cells m1 xs1)]) (Hp.front [(.cells m xs), (.cells m3 xs3), (.cells m2 xs2), (.cells m1 xs1)] (b := []) hs))))), ⟨rfl, trivial⟩⟩
             ·rename_i cg15
              refine TO_off rfl rfl cg15 <| TO_off rfl rfl cg15 <| TO_off rfl rfl cg15 <| TO_pf (v := (enc (false : Bool))) rfl cg15 rfl <| TO_nil ?_
              rw [← Option.some.inj hb_b7]
              exact ⟨hs, ⟨rfl, trivial⟩⟩
            ·rintro φ s ⟨hs, hF⟩
             rw [← hF.eq]
             refine TO_mv rfl ?_
             obtain ⟨b8, hb_b8, h⟩ := bs h
             refine TO_cut 2 (fun φ s => Hp s [(.cells m2 xs2), (.cells m3 xs3), (.cells m1 xs1), (.cells m xs), (.gl (NG mx))] ∧ Fx φ [(115, (enc (b8 : Bool)))]) ?_ ?_
             ·split at hb_b8
              ·rename_i cg16
               refine TO_on rfl rfl cg16 ?_
               obtain ⟨r_10, hx11, hb_b8⟩ := bs hb_b8
               refine TO_fnG (f := fun a : Unit => law_heads) (a := (())) rfl Tryz.func10 rfl rfl .nil hs (List.mem_cons_of_mem _ (List.mem_cons_of_mem _ (List.mem_cons_of_mem _ (List.mem_cons_of_mem _ List.mem_cons_self)))) hx11 <| TO_pt rfl cg16 rfl <| TO_nil ?_
               rw [← Option.some.inj hb_b8]
               exact ⟨hs, ⟨rfl, trivial⟩⟩
              ·rename_i cg17
               refine TO_off rfl rfl cg17 <| TO_pf (v := (enc (false : Bool))) rfl cg17 rfl <| TO_nil ?_
               rw [← Option.some.inj hb_b8]
               exact ⟨hs, ⟨rfl, trivial⟩⟩
             ·rintro φ s ⟨hs, hF⟩
              rw [← hF.eq]
              refine TO_as rfl <| TO_nil <| TC_ret ?_
              rw [← Option.some.inj h]
              exact ⟨rfl, KE1 (a := (b8 : Bool)) rfl rfl (rfl : is _ (b8 : Bool)) (rfl : is _ (b8 : Bool))⟩
    ·obtain ⟨rfl, hF, hs⟩ := hE
     rw [← hF.eq]
     rw [law_Numbers_a1] at h
     show if _ then _ else _
     rw [if_neg (by simp)]
     rw [← Option.some.inj h]
     exact ⟨rfl, KE1 (a := (v : Bool)) rfl rfl (rfl : is _ (v : Bool)) (rfl : is _ (v : Bool))⟩
theorem law_Numbers_pc (mx : Int) : PureC Tryz.prog 3 (FnG (NG mx) (fun a : FsR × Int × Unit => law_Numbers a.1 a.2.1)) := fnCG (px2_ok mx) ⟨_, Tryz.func3, rfl⟩ <| fun a r h => law_Numbers_wf mx a.1 a.2.1 r h
end Go.Ai.Rab
end
section
/- Plain laws on typed loops. -/
set_option linter.unusedVariables false
set_option linter.unusedSimpArgs false
open Go.Ai.Enc (enc is)
open Go.Ai.Res (res ris)
open Go.Ai.Args (args)
namespace Go.Ai
theorem nth_nat {α : Type} (l : List α) (i : Nat) : nth l (i : Int) = l[i]? := by simp [nth]
theorem nth_get {α : Type} {l : List α} {i : Nat} (h : i < l.length) : nth l (i : Int) = some l[i] := by rw [nth_nat, List.getElem?_eq_getElem h]
theorem app_ok {α : Type} {z : Nat} (l m : List α) (h : l.length + m.length ≤ 137438953472) (h' : (l.length + m.length) * z ≤ 137438953472) : app z l m = some (l ++ m) := by
 unfold app roomy; rw [if_pos (by simp [h, h'])]
theorem mkz_ok {α : Type} {z : α} {by_ n : Nat} (h : n ≤ 137438953472) (h' : n * by_ ≤ 137438953472) : mkz by_ (n : Int) z = some (List.replicate n z) := by
 unfold mkz roomy; rw [if_pos (by simp [h, h'])]; simp
theorem loop_all {ρ : Type} {body : Int → Option (Int ⊕ (Unit ⊕ ρ))} (n : Nat) (p : Nat → Bool) (r : ρ) (h : ∀ i : Nat, i < n → body i = if p i then some (.inl ((i + 1 : Nat) : Int)) else some (.inr (.inr r))) (hn : body n = some (.inr (.inl ()))) :
  ∀ i : Nat, i ≤ n → loop body i = some (if (List.range' i (n - i)).all p then .inl () else .inr r) := by
 intro i hi
 obtain ⟨d, rfl⟩ : ∃ d, n = i + d := ⟨n - i, by omega⟩
 clear hi
 induction d generalizing i with
 | zero => simp only [Nat.add_zero, Nat.sub_self, List.range'_zero, List.all_nil, if_true]; exact loop_done hn
 | succ d ih =>
  have e : i + (d + 1) - i = d + 1 := by omega
  rw [e, List.range'_succ, List.all_cons]
  have h1 := h i (by omega)
  by_cases hp : p i = true
  ·rw [if_pos hp] at h1
   rw [loop_next h1, show i + (d + 1) = (i + 1) + d by omega] at *
   have := ih (i + 1) (fun j hj => h j (by omega)) hn
   rw [show i + 1 + d - (i + 1) = d by omega] at this
   rw [this, hp, Bool.true_and]
  ·rw [if_neg hp] at h1
   have hp' : p i = false := by simpa using hp
   rw [loop_done h1, hp', Bool.false_and]; rfl
theorem range_all {n : Nat} {p : Nat → Bool} : (List.range' 0 n).all p = true ↔ ∀ i, i < n → p i = true := by
 simp [List.all_eq_true, List.mem_range'_1]
end Go.Ai
end
