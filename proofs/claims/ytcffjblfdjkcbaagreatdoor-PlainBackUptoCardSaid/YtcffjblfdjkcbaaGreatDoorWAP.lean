/- My own texts DevPgF, DevP0, DevPp1, DevPp2, DevPp3, DevPp4, one behind the other. -/
import Derived.Test.YtcffjblfdjkcbaaGreatDoorWAE
import Derived.Test.YtcffjblfdjkcbaaGreatDoorWAO
import Derived.Lib.TrimUEq
import Derived.Lib.QuoteLoop
import Derived.Lib.ValidLaws
import Derived.Lib.IndexLaws
section
/- Functions of the program aS functions of values with types, and that the code answers aS they do. -/
set_option linter.unusedVariables false
set_option linter.unusedSimpArgs false
set_option maxRecDepth 100000
set_option maxHeartbeats 4000000
attribute [local irreducible] Go.Ai.TC Go.Ai.TO Go.Ai.MF Go.Ai.runeAt Go.Ai.runeLen Go.Ai.encR
open Go.Ai.Enc (enc is)
open Go.Ai.Res (res ris)
open Go.Ai.Args (args)
open Go.Ai.Flds (fe fi fk)
namespace Go.Ai

end Go.Ai
namespace Go.Ai.TTryz
open Go.Proofs

end Go.Ai.TTryz
namespace Go.Ai.Rab
open Go.Proofs
noncomputable def law_empty : Option (FsR) :=
 some ((Rec.mk ([(Rec.mk (1, 2, (0 : Int), 1, ([] : (List UInt8)), (str []), ([] : (List Str)), ([] : (List Int)), ([] : (List AttrR)), ()) : InodeR)], 2, ()) : FsR))
noncomputable def law_heads : Option (Bool) :=
 ((law_empty).bind fun r_ => ((plain_Make r_ 1 420 (str [])).bind fun r_1 => ((plain_Enter r_1.1 1 (str [97]) r_1.2.1).bind fun r_2 => ((plain_Enter r_2.1 1 (str [98]) r_1.2.1).bind fun r_3 => ((plain_Leave r_3.1 1 (str [97])).bind fun r_4 => ((plain_Lookup r_4.1 1 (str [98])).bind fun r_5 => ((plain_Lookup r_4.1 1 (str [97])).bind fun r_6 => ((plain_Drop r_4.1 r_1.2.1).bind fun r_7 => ((plain_Drop (Rec.mk (([] : (List InodeR)), (0 : Int), ()) : FsR) 1).bind fun r_8 => ((if (r_1.2.2 == 0) then some (r_1.2.1 == 2) else some false).bind fun b => ((if b then some (r_2.2 == 0) else some false).bind fun b1 => ((if b1 then some (r_3.2 == 0) else some false).bind fun b2 => ((if b2 then some (r_4.2.2 == 0) else some false).bind fun b3 => ((if b3 then some (r_4.2.1 == 2) else some false).bind fun b4 => ((if b4 then some (r_5.1 == 2) else some false).bind fun b5 => ((if b5 then some (r_5.2 == 0) else some false).bind fun b6 => ((if b6 then some (r_6.2 == 201) else some false).bind fun b7 => ((if b7 then some (r_7.2 == 215) else some false).bind fun b8 => ((if b8 then some (r_8.2 == 2) else some false).bind fun b9 => ((if b9 then some ((r_4.1.v.1.length : Int) == 2) else some false).bind fun b10 => ((if b10 then ((nth r_4.1.v.1 1).bind fun v => some (v.v.2.2.2.1 == 1)) else some false).bind fun b11 => ((if b11 then ((plain_Check r_4.1).bind fun r_9 => some r_9) else some false).bind fun b12 => some (b12)))))))))))))))))))))))
noncomputable def law_Back (f : FsR) (dir : Int) (s_ : Str) (num : Int) : Option (Bool) :=
 ((law_small f).bind fun r_ => (if (!r_) then ((law_heads).bind fun r_1 => some (r_1)) else ((plain_Enter f dir s_ num).bind fun r_2 => (if (r_2.2 != 0) then ((ref_Same r_2.1 f).bind fun r_3 => ((if r_3 then ((law_heads).bind fun r_4 => some r_4) else some false).bind fun b => some (b))) else ((plain_Lookup r_2.1 dir s_).bind fun r_5 => ((plain_Leave r_2.1 dir s_).bind fun r_6 => ((if (r_5.1 == num) then some (r_5.2 == 0) else some false).bind fun b1 => ((if b1 then some (r_6.2.1 == num) else some false).bind fun b2 => ((if b2 then some (r_6.2.2 == 0) else some false).bind fun b3 => ((if b3 then ((ref_Same r_6.1 f).bind fun r_7 => some r_7) else some false).bind fun b4 => ((if b4 then ((law_heads).bind fun r_8 => some r_8) else some false).bind fun b5 => some (b5))))))))))))
theorem law_empty_wf (mx : Int) (r : FsR) (h : law_empty = some r) : MF Tryz.prog (pu11 mx) 26 [] (sG (NG mx)) fun v _ => ris v r := by
 refine TF_run [] Tryz.func26 rfl (by simp only [Tryz.f26]; rfl) fun ψ => ?_
 unfold law_empty at h
 have hs : Hp (sG (NG mx)) [.gl (NG mx)] := Hp.gl0
 refine TC_seq <| TC_reg <| TO_alR (r := (Rec.mk (([] : (List InodeR)), (0 : Int), ()) : FsR)) TTryz.zr24 TTryz.zf24 hs fun m s hs => TO_nil <| TC_seq <| TC_reg <| TO_buR (r0 := ((0 : Int), (0 : Int), (0 : Int), (0 : Int), ([] : (List UInt8)), (str []), ([] : (List Str)), ([] : (List Int)), ([] : (List AttrR)), ())) TTryz.bu38 TTryz.zr38 TTryz.zf38 rfl rfl (r := (1, 2, (0 : Int), 1, ([] : (List UInt8)), (str []), ([] : (List Str)), ([] : (List Int)), ([] : (List AttrR)), ())) (.cons (z := (1 : Int)) Sel.zero (rfl : is _ (1 : Int)) (.cons (z := (2 : Int)) (Sel.succ Sel.zero) (rfl : is _ (2 : Int)) (.cons (z := (1 : Int)) (Sel.succ (Sel.succ (Sel.succ Sel.zero))) (rfl : is _ (1 : Int)) .nil))) fun y hy => TO_bs [y] ([(Rec.mk (1, 2, (0 : Int), 1, ([] : (List UInt8)), (str []), ([] : (List Str)), ([] : (List Int)), ([] : (List AttrR)), ()) : InodeR)] : (List InodeR)) Tryz.underlying22 TTryz.ef38 rfl rfl rfl (Nat.le_of_ble_eq_true rfl) ⟨hy, trivial⟩ fun z hz hzc hzn => TO_buR (r0 := (([] : (List InodeR)), (0 : Int), ())) TTryz.bu24 TTryz.zr24 TTryz.zf24 rfl rfl (r := ([(Rec.mk (1, 2, (0 : Int), 1, ([] : (List UInt8)), (str []), ([] : (List Str)), ([] : (List Int)), ([] : (List AttrR)), ()) : InodeR)], 2, ())) (.cons (z := ([(Rec.mk (1, 2, (0 : Int), 1, ([] : (List UInt8)), (str []), ([] : (List Str)), ([] : (List Int)), ([] : (List AttrR)), ()) : InodeR)] : (List InodeR))) Sel.zero hz (.cons (z := (2 : Int)) (Sel.succ Sel.zero) (rfl : is _ (2 : Int)) .nil)) fun y1 hy1 => TO_stR (r := (Rec.mk ([(Rec.mk (1, 2, (0 : Int), 1, ([] : (List UInt8)), (str []), ([] : (List Str)), ([] : (List Int)), ([] : (List AttrR)), ()) : InodeR)], 2, ()) : FsR)) TTryz.sz24 rfl rfl TTryz.zf24 hy1 hs fun xs s hxs hs => ?_
 refine TO_nil <| TC_ret ?_
 obtain ⟨w, hlw, hw⟩ := ldW (r := (Rec.mk ([(Rec.mk (1, 2, (0 : Int), 1, ([] : (List UInt8)), (str []), ([] : (List Str)), ([] : (List Int)), ([] : (List AttrR)), ()) : InodeR)], 2, ()) : FsR)) TTryz.ag24 TTryz.sz24 hxs hs
 rw [← Option.some.inj h]
 exact ⟨rfl, KEc1 (a := ((Rec.mk ([(Rec.mk (1, 2, (0 : Int), 1, ([] : (List UInt8)), (str []), ([] : (List Str)), ([] : (List Int)), ([] : (List AttrR)), ()) : InodeR)], 2, ()) : FsR) : FsR)) rfl (.cell rfl hlw .nil) hw hw⟩
theorem law_empty_pc (mx : Int) : PureC Tryz.prog 26 (FnG (NG mx) (fun a : Unit => law_empty)) := fnCG (pu11_ok mx) ⟨_, Tryz.func26, rfl⟩ <| fun a r h => law_empty_wf mx r h
noncomputable def px1 (mx : Int) : Prims := (pu11 mx).addG 26 (FnG (NG mx) (fun a : Unit => law_empty))
theorem px1_ok (mx : Int) : PrimsOk Tryz.prog (px1 mx) := primsOk_addG (pu11_ok mx) (law_empty_pc mx)
theorem law_heads_wf (mx : Int) (r : Bool) (h : law_heads = some r) : MF Tryz.prog (px1 mx) 10 [] (sG (NG mx)) fun v _ => ris v r := by
 refine TF_run [] Tryz.func10 rfl (by simp only [Tryz.f10]; rfl) fun ψ => ?_
 unfold law_heads at h
 have hs : Hp (sG (NG mx)) [.gl (NG mx)] := Hp.gl0
 refine TC_seq <| TC_reg <| TO_as (v := (enc (false : Bool))) rfl <| TO_nil <| TC_seq <| TC_reg ?_
 obtain ⟨r_, hx, h⟩ := bs h
 refine TO_fnG (f := fun a : Unit => law_empty) (a := (())) rfl Tryz.func26 rfl rfl .nil hs List.mem_cons_self hx ?_
 obtain ⟨r_1, hx1, h⟩ := bs h
 refine TO_fnG (f := fun a : FsR × Int × Int × Str × Unit => plain_Make a.1 a.2.1 a.2.2.1 a.2.2.2.1) (a := (r_, 1, 420, (str []), ())) rfl Tryz.func11 rfl rfl (.cons (a := (r_ : FsR)) (Enc.self r_) (.cons (a := (1 : Int)) (rfl : is _ (1 : Int)) (.cons (a := (420 : Int)) (rfl : is _ (420 : Int)) (.cons (a := ((str []) : Str)) (Enc.self _) .nil)))) hs List.mem_cons_self hx1 <| TO_mv (v := (res r_1)) rfl <| TO_ex rfl rfl <| TO_ex rfl rfl <| TO_ex rfl rfl <| TO_alR (r := (Rec.mk (([] : (List InodeR)), (0 : Int), ()) : FsR)) TTryz.zr24 TTryz.zf24 hs fun m s hs => TO_stR (r := r_1.1) TTryz.sz24 rfl rfl TTryz.zf24 (Enc.self r_1.1) hs fun xs s hxs hs => TO_as rfl <| TO_as rfl <| TO_nil <| TC_seq <| TC_reg <| TO_ldW (r := r_1.1) TTryz.ag24 TTryz.sz24 rfl hxs hs fun y hy => TO_mv rfl ?_
 obtain ⟨r_2, hx2, h⟩ := bs h
 refine TO_fnG (f := fun a : FsR × Int × Str × Int × Unit => plain_Enter a.1 a.2.1 a.2.2.1 a.2.2.2.1) (a := (r_1.1, 1, (str [97]), r_1.2.1, ())) rfl Tryz.func16 rfl rfl (.cons (a := (r_1.1 : FsR)) hy (.cons (a := (1 : Int)) (rfl : is _ (1 : Int)) (.cons (a := ((str [97]) : Str)) (Enc.self _) (.cons (a := (r_1.2.1 : Int)) (Enc.self _) .nil)))) hs (List.mem_cons_of_mem _ List.mem_cons_self) hx2 <| TO_mv (v := (res r_2)) rfl <| TO_ex rfl rfl <| TO_ex rfl rfl <| TO_stR (r := r_2.1) TTryz.sz24 rfl rfl hxs (Enc.self r_2.1) hs fun xs1 s hxs1 hs => TO_as rfl <| TO_nil <| TC_seq <| TC_reg <| TO_ldW (r := r_2.1) TTryz.ag24 TTryz.sz24 rfl hxs1 hs fun y1 hy1 => TO_mv rfl ?_
 obtain ⟨r_3, hx3, h⟩ := bs h
 refine TO_fnG (f := fun a : FsR × Int × Str × Int × Unit => plain_Enter a.1 a.2.1 a.2.2.1 a.2.2.2.1) (a := (r_2.1, 1, (str [98]), r_1.2.1, ())) rfl Tryz.func16 rfl rfl (.cons (a := (r_2.1 : FsR)) hy1 (.cons (a := (1 : Int)) (rfl : is _ (1 : Int)) (.cons (a := ((str [98]) : Str)) (Enc.self _) (.cons (a := (r_1.2.1 : Int)) (Enc.self _) .nil)))) hs (List.mem_cons_of_mem _ List.mem_cons_self) hx3 <| TO_mv (v := (res r_3)) rfl <| TO_ex rfl rfl <| TO_ex rfl rfl <| TO_stR (r := r_3.1) TTryz.sz24 rfl rfl hxs1 (Enc.self r_3.1) hs fun xs2 s hxs2 hs => TO_as rfl <| TO_nil <| TC_seq <| TC_reg <| TO_ldW (r := r_3.1) TTryz.ag24 TTryz.sz24 rfl hxs2 hs fun y2 hy2 => ?_
 obtain ⟨r_4, hx4, h⟩ := bs h
 refine TO_fnG (f := fun a : FsR × Int × Str × Unit => plain_Leave a.1 a.2.1 a.2.2.1) (a := (r_3.1, 1, (str [97]), ())) rfl Tryz.func19 rfl rfl (.cons (a := (r_3.1 : FsR)) hy2 (.cons (a := (1 : Int)) (rfl : is _ (1 : Int)) (.cons (a := ((str [97]) : Str)) (Enc.self _) .nil))) hs (List.mem_cons_of_mem _ List.mem_cons_self) hx4 <| TO_mv (v := (res r_4)) rfl <| TO_ex rfl rfl <| TO_ex rfl rfl <| TO_ex rfl rfl <| TO_stR (r := r_4.1) TTryz.sz24 rfl rfl hxs2 (Enc.self r_4.1) hs fun xs3 s hxs3 hs => TO_as rfl <| TO_as rfl <| TO_nil <| TC_seq <| TC_reg <| TO_ldW (r := r_4.1) TTryz.ag24 TTryz.sz24 rfl hxs3 hs fun y3 hy3 => ?_
 obtain ⟨r_5, hx5, h⟩ := bs h
 refine TO_fnG (f := fun a : FsR × Int × Str × Unit => plain_Lookup a.1 a.2.1 a.2.2.1) (a := (r_4.1, 1, (str [98]), ())) rfl Tryz.func18 rfl rfl (.cons (a := (r_4.1 : FsR)) hy3 (.cons (a := (1 : Int)) (rfl : is _ (1 : Int)) (.cons (a := ((str [98]) : Str)) (Enc.self _) .nil))) hs (List.mem_cons_of_mem _ List.mem_cons_self) hx5 <| TO_mv (v := (res r_5)) rfl <| TO_ex rfl rfl <| TO_ex rfl rfl <| TO_as rfl <| TO_as rfl <| TO_nil <| TC_seq <| TC_reg <| TO_ldW (r := r_4.1) TTryz.ag24 TTryz.sz24 rfl hxs3 hs fun y4 hy4 => ?_
 obtain ⟨r_6, hx6, h⟩ := bs h
 refine TO_fnG (f := fun a : FsR × Int × Str × Unit => plain_Lookup a.1 a.2.1 a.2.2.1) (a := (r_4.1, 1, (str [97]), ())) rfl Tryz.func18 rfl rfl (.cons (a := (r_4.1 : FsR)) hy4 (.cons (a := (1 : Int)) (rfl : is _ (1 : Int)) (.cons (a := ((str [97]) : Str)) (Enc.self _) .nil))) hs (List.mem_cons_of_mem _ List.mem_cons_self) hx6 <| TO_mv (v := (res r_6)) rfl <| TO_ex rfl rfl <| TO_ex rfl rfl <| TO_as rfl <| TO_as rfl <| TO_nil <| TC_seq <| TC_reg <| TO_ldW (r := r_4.1) TTryz.ag24 TTryz.sz24 rfl hxs3 hs fun y5 hy5 => TO_mv rfl ?_
 obtain ⟨r_7, hx7, h⟩ := bs h
 refine TO_fnG (f := fun a : FsR × Int × Unit => plain_Drop a.1 a.2.1) (a := (r_4.1, r_1.2.1, ())) rfl Tryz.func14 rfl rfl (.cons (a := (r_4.1 : FsR)) hy5 (.cons (a := (r_1.2.1 : Int)) (Enc.self _) .nil)) hs (List.mem_cons_of_mem _ List.mem_cons_self) hx7 <| TO_mv (v := (res r_7)) rfl <| TO_ex rfl rfl <| TO_ex rfl rfl <| TO_alR (r := (Rec.mk (([] : (List InodeR)), (0 : Int), ()) : FsR)) TTryz.zr24 TTryz.zf24 hs fun m1 s hs => TO_stR (r := r_7.1) TTryz.sz24 rfl rfl TTryz.zf24 (Enc.self r_7.1) hs fun xs4 s hxs4 hs => TO_as rfl <| TO_nil <| TC_seq <| TC_reg <| TO_buR (r0 := (([] : (List InodeR)), (0 : Int), ())) TTryz.bu24 TTryz.zr24 TTryz.zf24 rfl rfl (r := (([] : (List InodeR)), (0 : Int), ())) .nil fun y6 hy6 => ?_
 obtain ⟨r_8, hx8, h⟩ := bs h
 refine TO_fnG (f := fun a : FsR × Int × Unit => plain_Drop a.1 a.2.1) (a := ((Rec.mk (([] : (List InodeR)), (0 : Int), ()) : FsR), 1, ())) rfl Tryz.func14 rfl rfl (.cons (a := ((Rec.mk (([] : (List InodeR)), (0 : Int), ()) : FsR) : FsR)) hy6 (.cons (a := (1 : Int)) (rfl : is _ (1 : Int)) .nil)) hs (List.mem_cons_of_mem _ (List.mem_cons_of_mem _ List.mem_cons_self)) hx8 <| TO_mv (v := (res r_8)) rfl <| TO_ex rfl rfl <| TO_ex rfl rfl <| TO_alR (r := (Rec.mk (([] : (List InodeR)), (0 : Int), ()) : FsR)) TTryz.zr24 TTryz.zf24 hs fun m2 s hs => TO_stR (r := r_8.1) TTryz.sz24 rfl rfl TTryz.zf24 (Enc.self r_8.1) hs fun xs5 s hxs5 hs => TO_as rfl <| TO_nil <| TC_seq <| TC_reg <| TO_mv rfl <| TO_bi (v := (enc ((r_1.2.2 == 0) : Bool))) rfl rfl rfl <| TO_mv rfl ?_
 obtain ⟨b, hb_b, h⟩ := bs h
 refine TO_cut 3 (fun φ s => Hp s [(.cells m2 xs5), (.cells m1 xs4), (.cells m xs3), (.gl (NG mx))] ∧ Fx φ [(1, (.ptr m 0)), (4, (enc (r_2.2 : Int))), (5, (enc (r_3.2 : Int))), (6, (enc (r_4.2.1 : Int))), (7, (enc (r_4.2.2 : Int))), (8, (enc (r_5.1 : Int))), (9, (enc (r_5.2 : Int))), (11, (enc (r_6.2 : Int))), (13, (enc (r_7.2 : Int))), (15, (enc (r_8.2 : Int))), (66, (enc (b : Bool)))]) ?_ ?_
 ·split at hb_b
  ·rename_i cg
   refine TO_on rfl rfl cg <| TO_mv rfl <| TO_on rfl rfl cg <| TO_bi (v := (enc ((r_1.2.1 == 2) : Bool))) rfl rfl rfl <| TO_pt rfl cg rfl <| TO_nil ?_
   rw [← Option.some.inj hb_b]
   exact ⟨hs, ⟨rfl, rfl, rfl, rfl, rfl, rfl, rfl, rfl, rfl, rfl, rfl, trivial⟩⟩
  ·rename_i cg1
   refine TO_off rfl rfl cg1 <| TO_off rfl rfl cg1 <| TO_pf (v := (enc (false : Bool))) rfl cg1 rfl <| TO_nil ?_
   rw [← Option.some.inj hb_b]
   exact ⟨hs, ⟨rfl, rfl, rfl, rfl, rfl, rfl, rfl, rfl, rfl, rfl, rfl, trivial⟩⟩
 ·rintro φ s ⟨hs, hF⟩
  rw [← hF.eq]
  refine TO_mv rfl ?_
  obtain ⟨b1, hb_b1, h⟩ := bs h
  refine TO_cut 3 (fun φ s => Hp s [(.cells m2 xs5), (.cells m1 xs4), (.cells m xs3), (.gl (NG mx))] ∧ Fx φ [(1, (.ptr m 0)), (5, (enc (r_3.2 : Int))), (6, (enc (r_4.2.1 : Int))), (7, (enc (r_4.2.2 : Int))), (8, (enc (r_5.1 : Int))), (9, (enc (r_5.2 : Int))), (11, (enc (r_6.2 : Int))), (13, (enc (r_7.2 : Int))), (15, (enc (r_8.2 : Int))), (70, (enc (b1 : Bool)))]) ?_ ?_
  ·split at hb_b1
   ·rename_i cg2
    refine TO_on rfl rfl cg2 <| TO_mv rfl <| TO_on rfl rfl cg2 <| TO_bi (v := (enc ((r_2.2 == 0) : Bool))) rfl rfl rfl <| TO_pt rfl cg2 rfl <| TO_nil ?_
    rw [← Option.some.inj hb_b1]
    exact ⟨hs, ⟨rfl, rfl, rfl, rfl, rfl, rfl, rfl, rfl, rfl, rfl, trivial⟩⟩
   ·rename_i cg3
    refine TO_off rfl rfl cg3 <| TO_off rfl rfl cg3 <| TO_pf (v := (enc (false : Bool))) rfl cg3 rfl <| TO_nil ?_
    rw [← Option.some.inj hb_b1]
    exact ⟨hs, ⟨rfl, rfl, rfl, rfl, rfl, rfl, rfl, rfl, rfl, rfl, trivial⟩⟩
  ·rintro φ s ⟨hs, hF⟩
   rw [← hF.eq]
   refine TO_mv rfl ?_
   obtain ⟨b2, hb_b2, h⟩ := bs h
   refine TO_cut 3 (fun φ s => Hp s [(.cells m2 xs5), (.cells m1 xs4), (.cells m xs3), (.gl (NG mx))] ∧ Fx φ [(1, (.ptr m 0)), (6, (enc (r_4.2.1 : Int))), (7, (enc (r_4.2.2 : Int))), (8, (enc (r_5.1 : Int))), (9, (enc (r_5.2 : Int))), (11, (enc (r_6.2 : Int))), (13, (enc (r_7.2 : Int))), (15, (enc (r_8.2 : Int))), (74, (enc (b2 : Bool)))]) ?_ ?_
   ·split at hb_b2
    ·rename_i cg4
     refine TO_on rfl rfl cg4 <| TO_mv rfl <| TO_on rfl rfl cg4 <| TO_bi (v := (enc ((r_3.2 == 0) : Bool))) rfl rfl rfl <| TO_pt rfl cg4 rfl <| TO_nil ?_
     rw [← Option.some.inj hb_b2]
     exact ⟨hs, ⟨rfl, rfl, rfl, rfl, rfl, rfl, rfl, rfl, rfl, trivial⟩⟩
    ·rename_i cg5
     refine TO_off rfl rfl cg5 <| TO_off rfl rfl cg5 <| TO_pf (v := (enc (false : Bool))) rfl cg5 rfl <| TO_nil ?_
     rw [← Option.some.inj hb_b2]
     exact ⟨hs, ⟨rfl, rfl, rfl, rfl, rfl, rfl, rfl, rfl, rfl, trivial⟩⟩
   ·rintro φ s ⟨hs, hF⟩
    rw [← hF.eq]
    refine TO_mv rfl ?_
    obtain ⟨b3, hb_b3, h⟩ := bs h
    refine TO_cut 3 (fun φ s => Hp s [(.cells m2 xs5), (.cells m1 xs4), (.cells m xs3), (.gl (NG mx))] ∧ Fx φ [(1, (.ptr m 0)), (6, (enc (r_4.2.1 : Int))), (8, (enc (r_5.1 : Int))), (9, (enc (r_5.2 : Int))), (11, (enc (r_6.2 : Int))), (13, (enc (r_7.2 : Int))), (15, (enc (r_8.2 : Int))), (78, (enc (b3 : Bool)))]) ?_ ?_
    ·split at hb_b3
     ·rename_i cg6
      refine TO_on rfl rfl cg6 <| TO_mv rfl <| TO_on rfl rfl cg6 <| TO_bi (v := (enc ((r_4.2.2 == 0) : Bool))) rfl rfl rfl <| TO_pt rfl cg6 rfl <| TO_nil ?_
      rw [← Option.some.inj hb_b3]
      exact ⟨hs, ⟨rfl, rfl, rfl, rfl, rfl, rfl, rfl, rfl, trivial⟩⟩
     ·rename_i cg7
      refine TO_off rfl rfl cg7 <| TO_off rfl rfl cg7 <| TO_pf (v := (enc (false : Bool))) rfl cg7 rfl <| TO_nil ?_
      rw [← Option.some.inj hb_b3]
      exact ⟨hs, ⟨rfl, rfl, rfl, rfl, rfl, rfl, rfl, rfl, trivial⟩⟩
    ·rintro φ s ⟨hs, hF⟩
     rw [← hF.eq]
     refine TO_mv rfl ?_
     obtain ⟨b4, hb_b4, h⟩ := bs h
     refine TO_cut 3 (fun φ s => Hp s [(.cells m2 xs5), (.cells m1 xs4), (.cells m xs3), (.gl (NG mx))] ∧ Fx φ [(1, (.ptr m 0)), (8, (enc (r_5.1 : Int))), (9, (enc (r_5.2 : Int))), (11, (enc (r_6.2 : Int))), (13, (enc (r_7.2 : Int))), (15, (enc (r_8.2 : Int))), (82, (enc (b4 : Bool)))]) ?_ ?_
     ·split at hb_b4
      ·rename_i cg8
       refine TO_on rfl rfl cg8 <| TO_mv rfl <| TO_on rfl rfl cg8 <| TO_bi (v := (enc ((r_4.2.1 == 2) : Bool))) rfl rfl rfl <| TO_pt rfl cg8 rfl <| TO_nil ?_
       rw [← Option.some.inj hb_b4]
       exact ⟨hs, ⟨rfl, rfl, rfl, rfl, rfl, rfl, rfl, trivial⟩⟩
      ·rename_i cg9
       refine TO_off rfl rfl cg9 <| TO_off rfl rfl cg9 <| TO_pf (v := (enc (false : Bool))) rfl cg9 rfl <| TO_nil ?_
       rw [← Option.some.inj hb_b4]
       exact ⟨hs, ⟨rfl, rfl, rfl, rfl, rfl, rfl, rfl, trivial⟩⟩
     ·rintro φ s ⟨hs, hF⟩
      rw [← hF.eq]
      refine TO_mv rfl ?_
      obtain ⟨b5, hb_b5, h⟩ := bs h
      refine TO_cut 3 (fun φ s => Hp s [(.cells m2 xs5), (.cells m1 xs4), (.cells m xs3), (.gl (NG mx))] ∧ Fx φ [(1, (.ptr m 0)), (9, (enc (r_5.2 : Int))), (11, (enc (r_6.2 : Int))), (13, (enc (r_7.2 : Int))), (15, (enc (r_8.2 : Int))), (86, (enc (b5 : Bool)))]) ?_ ?_
      ·split at hb_b5
       ·rename_i cg10
        refine TO_on rfl rfl cg10 <| TO_mv rfl <| TO_on rfl rfl cg10 <| TO_bi (v := (enc ((r_5.1 == 2) : Bool))) rfl rfl rfl <| TO_pt rfl cg10 rfl <| TO_nil ?_
        rw [← Option.some.inj hb_b5]
        exact ⟨hs, ⟨rfl, rfl, rfl, rfl, rfl, rfl, trivial⟩⟩
       ·rename_i cg11
        refine TO_off rfl rfl cg11 <| TO_off rfl rfl cg11 <| TO_pf (v := (enc (false : Bool))) rfl cg11 rfl <| TO_nil ?_
        rw [← Option.some.inj hb_b5]
        exact ⟨hs, ⟨rfl, rfl, rfl, rfl, rfl, rfl, trivial⟩⟩
      ·rintro φ s ⟨hs, hF⟩
       rw [← hF.eq]
       refine TO_mv rfl ?_
       obtain ⟨b6, hb_b6, h⟩ := bs h
       refine TO_cut 3 (fun φ s => Hp s [(.cells m2 xs5), (.cells m1 xs4), (.cells m xs3), (.gl (NG mx))] ∧ Fx φ [(1, (.ptr m 0)), (11, (enc (r_6.2 : Int))), (13, (enc (r_7.2 : Int))), (15, (enc (r_8.2 : Int))), (90, (enc (b6 : Bool)))]) ?_ ?_
       ·split at hb_b6
        ·rename_i cg12
         refine TO_on rfl rfl cg12 <| TO_mv rfl <| TO_on rfl rfl cg12 <| TO_bi (v := (enc ((r_5.2 == 0) : Bool))) rfl rfl rfl <| TO_pt rfl cg12 rfl <| TO_nil ?_
         rw [← Option.some.inj hb_b6]
         exact ⟨hs, ⟨rfl, rfl, rfl, rfl, rfl, trivial⟩⟩
        ·rename_i cg13
         refine TO_off rfl rfl cg13 <| TO_off rfl rfl cg13 <| TO_pf (v := (enc (false : Bool))) rfl cg13 rfl <| TO_nil ?_
         rw [← Option.some.inj hb_b6]
         exact ⟨hs, ⟨rfl, rfl, rfl, rfl, rfl, trivial⟩⟩
       ·rintro φ s ⟨hs, hF⟩
        rw [← hF.eq]
        refine TO_mv rfl ?_
        obtain ⟨b7, hb_b7, h⟩ := bs h
        refine TO_cut 3 (fun φ s => Hp s [(.cells m2 xs5), (.cells m1 xs4), (.cells m xs3), (.gl (NG mx))] ∧ Fx φ [(1, (.ptr m 0)), (13, (enc (r_7.2 : Int))), (15, (enc (r_8.2 : Int))), (94, (enc (b7 : Bool)))]) ?_ ?_
        ·split at hb_b7
         ·rename_i cg14
          refine TO_on rfl rfl cg14 <| TO_mv rfl <| TO_on rfl rfl cg14 <| TO_bi (v := (enc ((r_6.2 == 201) : Bool))) rfl rfl rfl <| TO_pt rfl cg14 rfl <| TO_nil ?_
          rw [← Option.some.inj hb_b7]
          exact ⟨hs, ⟨rfl, rfl, rfl, rfl, trivial⟩⟩
         ·rename_i cg15
          refine TO_off rfl rfl cg15 <| TO_off rfl rfl cg15 <| TO_pf (v := (enc (false : Bool))) rfl cg15 rfl <| TO_nil ?_
          rw [← Option.some.inj hb_b7]
          exact ⟨hs, ⟨rfl, rfl, rfl, rfl, trivial⟩⟩
        ·rintro φ s ⟨hs, hF⟩
         rw [← hF.eq]
         refine TO_mv rfl ?_
         obtain ⟨b8, hb_b8, h⟩ := bs h
         refine TO_cut 3 (fun φ s => Hp s [(.cells m2 xs5), (.cells m1 xs4), (.cells m xs3), (.gl (NG mx))] ∧ Fx φ [(1, (.ptr m 0)), (15, (enc (r_8.2 : Int))), (98, (enc (b8 : Bool)))]) ?_ ?_
         ·split at hb_b8
          ·rename_i cg16
           refine TO_on rfl rfl cg16 <| TO_mv rfl <| TO_on rfl rfl cg16 <| TO_bi (v := (enc ((r_7.2 == 215) : Bool))) rfl rfl rfl <| TO_pt rfl cg16 rfl <| TO_nil ?_
           rw [← Option.some.inj hb_b8]
           exact ⟨hs, ⟨rfl, rfl, rfl, trivial⟩⟩
          ·rename_i cg17
           refine TO_off rfl rfl cg17 <| TO_off rfl rfl cg17 <| TO_pf (v := (enc (false : Bool))) rfl cg17 rfl <| TO_nil ?_
           rw [← Option.some.inj hb_b8]
           exact ⟨hs, ⟨rfl, rfl, rfl, trivial⟩⟩
         ·rintro φ s ⟨hs, hF⟩
          rw [← hF.eq]
          refine TO_mv rfl ?_
          obtain ⟨b9, hb_b9, h⟩ := bs h
          refine TO_cut 3 (fun φ s => Hp s [(.cells m2 xs5), (.cells m1 xs4), (.cells m xs3), (.gl (NG mx))] ∧ Fx φ [(1, (.ptr m 0)), (102, (enc (b9 : Bool)))]) ?_ ?_
          ·split at hb_b9
           ·rename_i cg18
            refine TO_on rfl rfl cg18 <| TO_mv rfl <| TO_on rfl rfl cg18 <| TO_bi (v := (enc ((r_8.2 == 2) : Bool))) rfl rfl rfl <| TO_pt rfl cg18 rfl <| TO_nil ?_
            rw [← Option.some.inj hb_b9]
            exact ⟨hs, ⟨rfl, rfl, trivial⟩⟩
           ·rename_i cg19
            refine TO_off rfl rfl cg19 <| TO_off rfl rfl cg19 <| TO_pf (v := (enc (false : Bool))) rfl cg19 rfl <| TO_nil ?_
            rw [← Option.some.inj hb_b9]
            exact ⟨hs, ⟨rfl, rfl, trivial⟩⟩
          ·rintro φ s ⟨hs, hF⟩
           rw [← hF.eq]
           refine TO_mv rfl ?_
           obtain ⟨b10, hb_b10, h⟩ := bs h
           refine TO_cut 5 (fun φ s => Hp s [(.cells m2 xs5), (.cells m1 xs4), (.cells m xs3), (.gl (NG mx))] ∧ Fx φ [(1, (.ptr m 0)), (108, (enc (b10 : Bool)))]) ?_ ?_
           ·split at hb_b10
            ·rename_i cg20
             refine TO_on rfl rfl cg20 <| TO_fv TTryz.fl24_0 rfl <| TO_on rfl rfl cg20 ?_
             replace hs := Hp.front [(.cells m2 xs5), (.cells m1 xs4)] (b := [(.gl (NG mx))]) hs
             refine TO_ldV TTryz.ag22 Sel.zero rfl hxs3 hs fun y7 hy7 => TO_on rfl rfl cg20 <| TO_ln Tryz.underlying22 rfl rfl hy7 <| TO_on rfl rfl cg20 <| TO_bi (v := (enc (((r_4.1.v.1.length : Int) == 2) : Bool))) rfl rfl rfl <| TO_pt rfl cg20 rfl <| TO_nil ?_
             rw [← Option.some.inj hb_b10]
             exact ⟨(Hp.front [(.cells m1 xs4), (.cells m xs3), (.gl (NG mx))] (b := []) (Hp.front [(.cells m xs3), (.gl (NG mx)), (.cells m2 xs5)] (b := []) (Hp.front [(.gl (NG mx))] (b := [(.cells m2 xs5), (.cells m1 xs4)]) (Hp.front [(.cells m xs3), (.cells m2 xs5), (.cells m1 xs4)] (b := []) hs)))), ⟨rfl, rfl, trivial⟩⟩
            ·rename_i cg21
             refine TO_off rfl rfl cg21 <| TO_off rfl rfl cg21 <| TO_off rfl rfl cg21 <| TO_off rfl rfl cg21 <| TO_pf (v := (enc (false : Bool))) rfl cg21 rfl <| TO_nil ?_
             rw [← Option.some.inj hb_b10]
             exact ⟨hs, ⟨rfl, rfl, trivial⟩⟩
           ·rintro φ s ⟨hs, hF⟩
            rw [← hF.eq]
            refine TO_mv rfl ?_
            obtain ⟨b11, hb_b11, h⟩ := bs h
            refine TO_cut 7 (fun φ s => Hp s [(.cells m2 xs5), (.cells m1 xs4), (.cells m xs3), (.gl (NG mx))] ∧ Fx φ [(1, (.ptr m 0)), (116, (enc (b11 : Bool)))]) ?_ ?_
            ·split at hb_b11
             ·rename_i cg22
              refine TO_on rfl rfl cg22 <| TO_fv TTryz.fl24_0 rfl <| TO_on rfl rfl cg22 ?_
              replace hs := Hp.front [(.cells m2 xs5), (.cells m1 xs4)] (b := [(.gl (NG mx))]) hs
              refine TO_ldV TTryz.ag22 Sel.zero rfl hxs3 hs fun y8 hy8 => TO_on rfl rfl cg22 ?_
              obtain ⟨v, hx9, hb_b11⟩ := bs hb_b11
              refine TO_ix Tryz.underlying22 TTryz.sh38 rfl rfl hy8 hx9 fun p hp => TO_on rfl rfl cg22 <| TO_fp TTryz.fl38_3 (Sel.succ (Sel.succ (Sel.succ Sel.zero))) rfl hp fun p1 hp1 => TO_on rfl rfl cg22 <| TO_ldF TTryz.ag3 rfl hp1 fun y9 hy9 => ?_
              cases hy9
              refine TO_on rfl rfl cg22 <| TO_bi (v := (enc ((v.v.2.2.2.1 == 1) : Bool))) rfl rfl rfl <| TO_pt rfl cg22 rfl <| TO_nil ?_
              rw [← Option.some.inj hb_b11]
              exact ⟨(Hp.front [(.cells m1 xs4), (.cells m xs3), (.gl (NG mx))] (b := []) (Hp.front [(.cells m xs3), (.gl (NG mx)), (.cells m2 xs5)] (b := []) (Hp.front [(.gl (NG mx))] (b := [(.cells m2 xs5), (.cells m1 xs4)]) (Hp.front [(.cells m xs3), (.cells m2 xs5), (.cells m1 xs4)] (b := []) hs)))), ⟨rfl, rfl, trivial⟩⟩
             ·rename_i cg23
              refine TO_off rfl rfl cg23 <| TO_off rfl rfl cg23 <| TO_off rfl rfl cg23 <| TO_off rfl rfl cg23 <| TO_off rfl rfl cg23 <| TO_off rfl rfl cg23 <| TO_pf (v := (enc (false : Bool))) rfl cg23 rfl <| TO_nil ?_
              rw [← Option.some.inj hb_b11]
              exact ⟨hs, ⟨rfl, rfl, trivial⟩⟩
            ·rintro φ s ⟨hs, hF⟩
             rw [← hF.eq]
             refine TO_mv rfl ?_
             obtain ⟨b12, hb_b12, h⟩ := bs h
             refine TO_cut 3 (fun φ s => Hp s [(.cells m2 xs5), (.cells m1 xs4), (.cells m xs3), (.gl (NG mx))] ∧ Fx φ [(120, (enc (b12 : Bool)))]) ?_ ?_
             ·split at hb_b12
              ·rename_i cg24
               refine TO_on rfl rfl cg24 ?_
               replace hs := Hp.front [(.cells m2 xs5), (.cells m1 xs4)] (b := [(.gl (NG mx))]) hs
               refine TO_ldW (r := r_4.1) TTryz.ag24 TTryz.sz24 rfl hxs3 hs fun y10 hy10 => TO_on rfl rfl cg24 ?_
               obtain ⟨r_9, hx10, hb_b12⟩ := bs hb_b12
               refine TO_fnG (f := fun a : FsR × Unit => plain_Check a.1) (a := (r_4.1, ())) rfl Tryz.func25 rfl rfl (.cons (a := (r_4.1 : FsR)) hy10 .nil) hs (List.mem_cons_of_mem _ (List.mem_cons_of_mem _ (List.mem_cons_of_mem _ List.mem_cons_self))) hx10 <| TO_pt rfl cg24 rfl <| TO_nil ?_
               rw [← Option.some.inj hb_b12]
               exact ⟨(Hp.front [(.cells m1 xs4), (.cells m xs3), (.gl (NG mx))] (b := []) (Hp.front [(.cells m xs3), (.gl (NG mx)), (.cells m2 xs5)] (b := []) (Hp.front [(.gl (NG mx))] (b := [(.cells m2 xs5), (.cells m1 xs4)]) (Hp.front [(.cells m xs3), (.cells m2 xs5), (.cells m1 xs4)] (b := []) hs)))), ⟨rfl, trivial⟩⟩
              ·rename_i cg25
               refine TO_off rfl rfl cg25 <| TO_off rfl rfl cg25 <| TO_pf (v := (enc (false : Bool))) rfl cg25 rfl <| TO_nil ?_
               rw [← Option.some.inj hb_b12]
               exact ⟨hs, ⟨rfl, trivial⟩⟩
             ·rintro φ s ⟨hs, hF⟩
              rw [← hF.eq]
              refine TO_as rfl <| TO_nil <| TC_ret ?_
              rw [← Option.some.inj h]
              exact ⟨rfl, KE1 (a := (b12 : Bool)) rfl rfl (rfl : is _ (b12 : Bool)) (rfl : is _ (b12 : Bool))⟩
theorem law_heads_pc (mx : Int) : PureC Tryz.prog 10 (FnG (NG mx) (fun a : Unit => law_heads)) := fnCG (px1_ok mx) ⟨_, Tryz.func10, rfl⟩ <| fun a r h => law_heads_wf mx r h
noncomputable def px2 (mx : Int) : Prims := (px1 mx).addG 10 (FnG (NG mx) (fun a : Unit => law_heads))
theorem px2_ok (mx : Int) : PrimsOk Tryz.prog (px2 mx) := primsOk_addG (px1_ok mx) (law_heads_pc mx)
theorem law_Back_wf (mx : Int) (f : FsR) (dir : Int) (s_ : Str) (num : Int) (r : Bool) (h : law_Back f dir s_ num = some r) : MF Tryz.prog (px2 mx) 5 [enc f, enc dir, enc s_, enc num] (sG (NG mx)) fun v _ => ris v r := by
 refine TF_run [(0, enc f), (1, enc dir), (2, enc s_), (3, enc num)] Tryz.func5 rfl (by simp only [Tryz.f5]; rfl) fun ψ => ?_
 unfold law_Back at h
 have hs : Hp (sG (NG mx)) [.gl (NG mx)] := Hp.gl0
 refine TC_seq <| TC_reg <| TO_bxR (r := f) rfl (Enc.self f) hs fun m xs s hxs hs => TO_as (v := (enc (false : Bool))) rfl <| TO_nil <| TC_seq <| TC_seq <| TC_reg <| TO_ldW (r := f) TTryz.ag24 TTryz.sz24 rfl hxs hs fun y hy => ?_
 obtain ⟨r_, hx, h⟩ := bs h
 refine TO_fn (f := fun a : FsR × Unit => law_small a.1) (a := (f, ())) rfl Tryz.func9 rfl rfl (.cons (a := (f : FsR)) hy .nil) hx <| TO_un (v := (enc ((!r_) : Bool))) rfl rfl <| TO_nil ?_
 split at h
 ·rename_i hcond
  refine TC_cond_t rfl hcond <| TC_seq <| TC_reg ?_
  obtain ⟨r_1, hx1, h⟩ := bs h
  refine TO_fnG (f := fun a : Unit => law_heads) (a := (())) rfl Tryz.func10 rfl rfl .nil hs (List.mem_cons_of_mem _ List.mem_cons_self) hx1 <| TO_as rfl <| TO_nil <| TC_ret ?_
  rw [← Option.some.inj h]
  exact ⟨rfl, KE1 (a := (r_1 : Bool)) rfl rfl (rfl : is _ (r_1 : Bool)) (rfl : is _ (r_1 : Bool))⟩
 ·rename_i hcond
  refine TC_cond_f rfl hcond <| TC_skip <| TC_seq <| TC_reg <| TO_ldW (r := f) TTryz.ag24 TTryz.sz24 rfl hxs hs fun y1 hy1 => TO_mv rfl <| TO_mv rfl <| TO_mv rfl ?_
  obtain ⟨r_2, hx2, h⟩ := bs h
  refine TO_fnG (f := fun a : FsR × Int × Str × Int × Unit => plain_Enter a.1 a.2.1 a.2.2.1 a.2.2.2.1) (a := (f, dir, s_, num, ())) rfl Tryz.func16 rfl rfl (.cons (a := (f : FsR)) hy1 (.cons (a := (dir : Int)) (Enc.self _) (.cons (a := (s_ : Str)) (Enc.self _) (.cons (a := (num : Int)) (Enc.self _) .nil)))) hs (List.mem_cons_of_mem _ List.mem_cons_self) hx2 <| TO_mv (v := (res r_2)) rfl <| TO_ex rfl rfl <| TO_ex rfl rfl <| TO_alR (r := (Rec.mk (([] : (List InodeR)), (0 : Int), ()) : FsR)) TTryz.zr24 TTryz.zf24 hs fun m1 s hs => TO_stR (r := r_2.1) TTryz.sz24 rfl rfl TTryz.zf24 (Enc.self r_2.1) hs fun xs1 s hxs1 hs => TO_as rfl <| TO_nil <| TC_seq <| TC_seq <| TC_reg <| TO_mv rfl <| TO_bi (v := (enc ((r_2.2 != 0) : Bool))) rfl rfl rfl <| TO_nil ?_
  split at h
  ·rename_i hcond
   refine TC_cond_t rfl hcond <| TC_seq <| TC_reg <| TO_ldW (r := r_2.1) TTryz.ag24 TTryz.sz24 rfl hxs1 hs fun y2 hy2 => ?_
   replace hs := Hp.front [(.cells m1 xs1)] (b := [(.gl (NG mx))]) hs
   refine TO_ldW (r := f) TTryz.ag24 TTryz.sz24 rfl hxs hs fun y3 hy3 => ?_
   obtain ⟨r_3, hx3, h⟩ := bs h
   refine TO_fn (f := fun a : FsR × FsR × Unit => ref_Same a.1 a.2.1) (a := (r_2.1, f, ())) rfl Tryz.func12 rfl rfl (.cons (a := (r_2.1 : FsR)) hy2 (.cons (a := (f : FsR)) hy3 .nil)) hx3 <| TO_mv rfl ?_
   obtain ⟨b, hb_b, h⟩ := bs h
   refine TO_cut 2 (fun φ s => Hp s [(.cells m xs), (.cells m1 xs1), (.gl (NG mx))] ∧ Fx φ [(35, (enc (b : Bool)))]) ?_ ?_
   ·split at hb_b
    ·rename_i cg
     refine TO_on rfl rfl cg ?_
     obtain ⟨r_4, hx4, hb_b⟩ := bs hb_b
     refine TO_fnG (f := fun a : Unit => law_heads) (a := (())) rfl Tryz.func10 rfl rfl .nil hs (List.mem_cons_of_mem _ (List.mem_cons_of_mem _ List.mem_cons_self)) hx4 <| TO_pt rfl cg rfl <| TO_nil ?_
     rw [← Option.some.inj hb_b]
     exact ⟨hs, ⟨rfl, trivial⟩⟩
    ·rename_i cg1
     refine TO_off rfl rfl cg1 <| TO_pf (v := (enc (false : Bool))) rfl cg1 rfl <| TO_nil ?_
     rw [← Option.some.inj hb_b]
     exact ⟨hs, ⟨rfl, trivial⟩⟩
   ·rintro φ s ⟨hs, hF⟩
    rw [← hF.eq]
    refine TO_as rfl <| TO_nil <| TC_ret ?_
    rw [← Option.some.inj h]
    exact ⟨rfl, KE1 (a := (b : Bool)) rfl rfl (rfl : is _ (b : Bool)) (rfl : is _ (b : Bool))⟩
  ·rename_i hcond
   refine TC_cond_f rfl hcond <| TC_skip <| TC_seq <| TC_reg <| TO_ldW (r := r_2.1) TTryz.ag24 TTryz.sz24 rfl hxs1 hs fun y4 hy4 => TO_mv rfl <| TO_mv rfl ?_
   obtain ⟨r_5, hx5, h⟩ := bs h
   refine TO_fnG (f := fun a : FsR × Int × Str × Unit => plain_Lookup a.1 a.2.1 a.2.2.1) (a := (r_2.1, dir, s_, ())) rfl Tryz.func18 rfl rfl (.cons (a := (r_2.1 : FsR)) hy4 (.cons (a := (dir : Int)) (Enc.self _) (.cons (a := (s_ : Str)) (Enc.self _) .nil))) hs (List.mem_cons_of_mem _ (List.mem_cons_of_mem _ List.mem_cons_self)) hx5 <| TO_mv (v := (res r_5)) rfl <| TO_ex rfl rfl <| TO_ex rfl rfl <| TO_as rfl <| TO_as rfl <| TO_nil <| TC_seq <| TC_reg <| TO_ldW (r := r_2.1) TTryz.ag24 TTryz.sz24 rfl hxs1 hs fun y5 hy5 => TO_mv rfl <| TO_mv rfl ?_
   obtain ⟨r_6, hx6, h⟩ := bs h
   refine TO_fnG (f := fun a : FsR × Int × Str × Unit => plain_Leave a.1 a.2.1 a.2.2.1) (a := (r_2.1, dir, s_, ())) rfl Tryz.func19 rfl rfl (.cons (a := (r_2.1 : FsR)) hy5 (.cons (a := (dir : Int)) (Enc.self _) (.cons (a := (s_ : Str)) (Enc.self _) .nil))) hs (List.mem_cons_of_mem _ (List.mem_cons_of_mem _ List.mem_cons_self)) hx6 <| TO_mv (v := (res r_6)) rfl <| TO_ex rfl rfl <| TO_ex rfl rfl <| TO_ex rfl rfl <| TO_alR (r := (Rec.mk (([] : (List InodeR)), (0 : Int), ()) : FsR)) TTryz.zr24 TTryz.zf24 hs fun m2 s hs => TO_stR (r := r_6.1) TTryz.sz24 rfl rfl TTryz.zf24 (Enc.self r_6.1) hs fun xs2 s hxs2 hs => TO_as rfl <| TO_as rfl <| TO_nil <| TC_seq <| TC_reg <| TO_mv rfl <| TO_mv rfl <| TO_bi (v := (enc ((r_5.1 == num) : Bool))) rfl rfl rfl ?_
   refine TO_mv rfl ?_
   obtain ⟨b1, hb_b1, h⟩ := bs h
   refine TO_cut 3 (fun φ s => Hp s [(.cells m2 xs2), (.cells m1 xs1), (.cells m xs), (.gl (NG mx))] ∧ Fx φ [(3, (enc (num : Int))), (4, (.ptr m 0)), (13, (.ptr m2 0)), (14, (enc (r_6.2.1 : Int))), (15, (enc (r_6.2.2 : Int))), (57, (enc (b1 : Bool)))]) ?_ ?_
   ·split at hb_b1
    ·rename_i cg2
     refine TO_on rfl rfl cg2 <| TO_mv rfl <| TO_on rfl rfl cg2 <| TO_bi (v := (enc ((r_5.2 == 0) : Bool))) rfl rfl rfl <| TO_pt rfl cg2 rfl <| TO_nil ?_
     rw [← Option.some.inj hb_b1]
     exact ⟨hs, ⟨rfl, rfl, rfl, rfl, rfl, rfl, trivial⟩⟩
    ·rename_i cg3
     refine TO_off rfl rfl cg3 <| TO_off rfl rfl cg3 <| TO_pf (v := (enc (false : Bool))) rfl cg3 rfl <| TO_nil ?_
     rw [← Option.some.inj hb_b1]
     exact ⟨hs, ⟨rfl, rfl, rfl, rfl, rfl, rfl, trivial⟩⟩
   ·rintro φ s ⟨hs, hF⟩
    rw [← hF.eq]
    refine TO_mv rfl ?_
    obtain ⟨b2, hb_b2, h⟩ := bs h
    refine TO_cut 4 (fun φ s => Hp s [(.cells m2 xs2), (.cells m1 xs1), (.cells m xs), (.gl (NG mx))] ∧ Fx φ [(4, (.ptr m 0)), (13, (.ptr m2 0)), (15, (enc (r_6.2.2 : Int))), (62, (enc (b2 : Bool)))]) ?_ ?_
    ·split at hb_b2
     ·rename_i cg4
      refine TO_on rfl rfl cg4 <| TO_mv rfl <| TO_on rfl rfl cg4 <| TO_mv rfl <| TO_on rfl rfl cg4 <| TO_bi (v := (enc ((r_6.2.1 == num) : Bool))) rfl rfl rfl <| TO_pt rfl cg4 rfl <| TO_nil ?_
      rw [← Option.some.inj hb_b2]
      exact ⟨hs, ⟨rfl, rfl, rfl, rfl, trivial⟩⟩
     ·rename_i cg5
      refine TO_off rfl rfl cg5 <| TO_off rfl rfl cg5 <| TO_off rfl rfl cg5 <| TO_pf (v := (enc (false : Bool))) rfl cg5 rfl <| TO_nil ?_
      rw [← Option.some.inj hb_b2]
      exact ⟨hs, ⟨rfl, rfl, rfl, rfl, trivial⟩⟩
    ·rintro φ s ⟨hs, hF⟩
     rw [← hF.eq]
     refine TO_mv rfl ?_
     obtain ⟨b3, hb_b3, h⟩ := bs h
     refine TO_cut 3 (fun φ s => Hp s [(.cells m2 xs2), (.cells m1 xs1), (.cells m xs), (.gl (NG mx))] ∧ Fx φ [(4, (.ptr m 0)), (13, (.ptr m2 0)), (66, (enc (b3 : Bool)))]) ?_ ?_
     ·split at hb_b3
      ·rename_i cg6
       refine TO_on rfl rfl cg6 <| TO_mv rfl <| TO_on rfl rfl cg6 <| TO_bi (v := (enc ((r_6.2.2 == 0) : Bool))) rfl rfl rfl <| TO_pt rfl cg6 rfl <| TO_nil ?_
       rw [← Option.some.inj hb_b3]
       exact ⟨hs, ⟨rfl, rfl, rfl, trivial⟩⟩
      ·rename_i cg7
       refine TO_off rfl rfl cg7 <| TO_off rfl rfl cg7 <| TO_pf (v := (enc (false : Bool))) rfl cg7 rfl <| TO_nil ?_
       rw [← Option.some.inj hb_b3]
       exact ⟨hs, ⟨rfl, rfl, rfl, trivial⟩⟩
     ·rintro φ s ⟨hs, hF⟩
      rw [← hF.eq]
      refine TO_mv rfl ?_
      obtain ⟨b4, hb_b4, h⟩ := bs h
      refine TO_cut 4 (fun φ s => Hp s [(.cells m2 xs2), (.cells m1 xs1), (.cells m xs), (.gl (NG mx))] ∧ Fx φ [(71, (enc (b4 : Bool)))]) ?_ ?_
      ·split at hb_b4
       ·rename_i cg8
        refine TO_on rfl rfl cg8 <| TO_ldW (r := r_6.1) TTryz.ag24 TTryz.sz24 rfl hxs2 hs fun y6 hy6 => TO_on rfl rfl cg8 ?_
        replace hs := Hp.front [(.cells m2 xs2), (.cells m1 xs1)] (b := [(.gl (NG mx))]) hs
        refine TO_ldW (r := f) TTryz.ag24 TTryz.sz24 rfl hxs hs fun y7 hy7 => TO_on rfl rfl cg8 ?_
        obtain ⟨r_7, hx7, hb_b4⟩ := bs hb_b4
        refine TO_fn (f := fun a : FsR × FsR × Unit => ref_Same a.1 a.2.1) (a := (r_6.1, f, ())) rfl Tryz.func12 rfl rfl (.cons (a := (r_6.1 : FsR)) hy6 (.cons (a := (f : FsR)) hy7 .nil)) hx7 <| TO_pt rfl cg8 rfl <| TO_nil ?_
        rw [← Option.some.inj hb_b4]
        exact ⟨(Hp.front [(.cells m1 xs1), (.cells m xs), (.gl (NG mx))] (b := []) (Hp.front [(.cells m xs), (.gl (NG mx)), (.cells m2 xs2)] (b := []) (Hp.front [(.gl (NG mx))] (b := [(.cells m2 xs2), (.cells m1 xs1)]) (Hp.front [(.cells m xs), (.cells m2 xs2), (.cells m1 xs1)] (b := []) hs)))), ⟨rfl, trivial⟩⟩
       ·rename_i cg9
        refine TO_off rfl rfl cg9 <| TO_off rfl rfl cg9 <| TO_off rfl rfl cg9 <| TO_pf (v := (enc (false : Bool))) rfl cg9 rfl <| TO_nil ?_
        rw [← Option.some.inj hb_b4]
        exact ⟨hs, ⟨rfl, trivial⟩⟩
      ·rintro φ s ⟨hs, hF⟩
       rw [← hF.eq]
       refine TO_mv rfl ?_
       obtain ⟨b5, hb_b5, h⟩ := bs h
       refine TO_cut 2 (fun φ s => Hp s [(.cells m2 xs2), (.cells m1 xs1), (.cells m xs), (.gl (NG mx))] ∧ Fx φ [(74, (enc (b5 : Bool)))]) ?_ ?_
       ·split at hb_b5
        ·rename_i cg10
         refine TO_on rfl rfl cg10 ?_
         obtain ⟨r_8, hx8, hb_b5⟩ := bs hb_b5
         refine TO_fnG (f := fun a : Unit => law_heads) (a := (())) rfl Tryz.func10 rfl rfl .nil hs (List.mem_cons_of_mem _ (List.mem_cons_of_mem _ (List.mem_cons_of_mem _ List.mem_cons_self))) hx8 <| TO_pt rfl cg10 rfl <| TO_nil ?_
         rw [← Option.some.inj hb_b5]
         exact ⟨hs, ⟨rfl, trivial⟩⟩
        ·rename_i cg11
         refine TO_off rfl rfl cg11 <| TO_pf (v := (enc (false : Bool))) rfl cg11 rfl <| TO_nil ?_
         rw [← Option.some.inj hb_b5]
         exact ⟨hs, ⟨rfl, trivial⟩⟩
       ·rintro φ s ⟨hs, hF⟩
        rw [← hF.eq]
        refine TO_as rfl <| TO_nil <| TC_ret ?_
        rw [← Option.some.inj h]
        exact ⟨rfl, KE1 (a := (b5 : Bool)) rfl rfl (rfl : is _ (b5 : Bool)) (rfl : is _ (b5 : Bool))⟩
theorem law_Back_pc (mx : Int) : PureC Tryz.prog 5 (FnG (NG mx) (fun a : FsR × Int × Str × Int × Unit => law_Back a.1 a.2.1 a.2.2.1 a.2.2.2.1)) := fnCG (px2_ok mx) ⟨_, Tryz.func5, rfl⟩ <| fun a r h => law_Back_wf mx a.1 a.2.1 a.2.2.1 a.2.2.2.1 r h
end Go.Ai.Rab
end
section
/- Plain laws on typed loops. -/
set_option linter.unusedVariables false
set_option linter.unusedSimpArgs false
open Go.Ai.Enc (enc is)
open Go.Ai.Res (res ris)
open Go.Ai.Args (args)
namespace Go.Ai
theorem nth_nat {α : Type} (l : List α) (i : Nat) : nth l (i : Int) = l[i]? := by simp [nth]
theorem nth_get {α : Type} {l : List α} {i : Nat} (h : i < l.length) : nth l (i : Int) = some l[i] := by rw [nth_nat, List.getElem?_eq_getElem h]
theorem app_ok {α : Type} {z : Nat} (l m : List α) (h : l.length + m.length ≤ 137438953472) (h' : (l.length + m.length) * z ≤ 137438953472) : app z l m = some (l ++ m) := by
 unfold app roomy; rw [if_pos (by simp [h, h'])]
theorem mkz_ok {α : Type} {z : α} {by_ n : Nat} (h : n ≤ 137438953472) (h' : n * by_ ≤ 137438953472) : mkz by_ (n : Int) z = some (List.replicate n z) := by
 unfold mkz roomy; rw [if_pos (by simp [h, h'])]; simp
theorem loop_all {ρ : Type} {body : Int → Option (Int ⊕ (Unit ⊕ ρ))} (n : Nat) (p : Nat → Bool) (r : ρ) (h : ∀ i : Nat, i < n → body i = if p i then some (.inl ((i + 1 : Nat) : Int)) else some (.inr (.inr r))) (hn : body n = some (.inr (.inl ()))) :
  ∀ i : Nat, i ≤ n → loop body i = some (if (List.range' i (n - i)).all p then .inl () else .inr r) := by
 intro i hi
 obtain ⟨d, rfl⟩ : ∃ d, n = i + d := ⟨n - i, by omega⟩
 clear hi
 induction d generalizing i with
 | zero => simp only [Nat.add_zero, Nat.sub_self, List.range'_zero, List.all_nil, if_true]; exact loop_done hn
 | succ d ih =>
  have e : i + (d + 1) - i = d + 1 := by omega
  rw [e, List.range'_succ, List.all_cons]
  have h1 := h i (by omega)
  by_cases hp : p i = true
  ·rw [if_pos hp] at h1
   rw [loop_next h1, show i + (d + 1) = (i + 1) + d by omega] at *
   have := ih (i + 1) (fun j hj => h j (by omega)) hn
   rw [show i + 1 + d - (i + 1) = d by omega] at this
   rw [this, hp, Bool.true_and]
  ·rw [if_neg hp] at h1
   have hp' : p i = false := by simpa using hp
   rw [loop_done h1, hp', Bool.false_and]; rfl
theorem range_all {n : Nat} {p : Nat → Bool} : (List.range' 0 n).all p = true ↔ ∀ i, i < n → p i = true := by
 simp [List.all_eq_true, List.mem_range'_1]
end Go.Ai
end
section
/- Names, plainly: runes; which may be. -/
set_option linter.unusedVariables false
set_option linter.unusedSimpArgs false
open Go.Ai.Enc (enc is)
namespace Go.Ai.Rab
open Go.Lib (decodeL decodeN)

def rn (l : List UInt8) : Nat := (decodeL l).1
def wd (l : List UInt8) : Nat := (decodeL l).2
def okr (l : List UInt8) : Bool := !decide (rn l = 65533 ∧ wd l = 1)
theorem wd_pos (l : List UInt8) : 1 ≤ wd l := by unfold wd; rw [Go.Lib.decodeL_N]; exact Go.Lib.decodeN_ge1 _ _ _ _ _
theorem wd_le {l : List UInt8} (h : l ≠ []) : wd l ≤ l.length := by
 unfold wd; rw [Go.Lib.decodeL_N]
 exact Go.Lib.decodeN_width_le _ _ _ _ _ (by have := List.length_pos_iff.2 h; omega)
theorem runeAt_eq (s : List UInt8) (p : Nat) : runeAt s p = ⟨(rn (List.drop p s) : Nat)⟩ := by
 unfold runeAt rn
 rw [← Go.Lib.decodeL_drop]
theorem runeLen_eq (s : List UInt8) (p : Nat) : runeLen s p = wd (List.drop p s) := by
 unfold runeLen wd
 rw [← Go.Lib.decodeL_drop]
/-! ### The document's rune -/
theorem i64w {n : Int} (h : -9223372036854775808 ≤ n ∧ n ≤ 9223372036854775807) : IntKind.i64.wrap n = n := IntWalk.i64_in n h
theorem bds {α β : Type} {o : Option α} {x : α} {f : α → Option β} (h : o = some x) : o.bind f = f x := by rw [h]; rfl
theorem bd {α β : Type} (x : α) (f : α → Option β) : (some x).bind f = f x := rfl
def goodF : Nat → List UInt8 → Bool
 | 0, _ => true
 | f + 1, l => if l = [] then true else okr l && (rn l != 47 && (rn l != 0 && goodF f (l.drop (wd l))))
def plainF : Nat → List UInt8 → Bool
 | 0, _ => true
 | f + 1, l => if l = [] then true else rn l != 47 && (rn l != 0 && plainF f (l.drop (wd l)))
theorem goodF_eq : ∀ (f : Nat) (l : List UInt8), goodF f l = (Go.Lib.validGoD f l && plainF f l)
 | 0, _ => rfl
 | f + 1, l => by
  unfold goodF plainF Go.Lib.validGoD
  by_cases h : l = []
  ·simp [h]
  ·rw [if_neg h, if_neg h, if_neg h, goodF_eq f]
   by_cases h1 : rn l = 65533 ∧ wd l = 1
   ·have h2 : (decodeL l).1 = 65533 ∧ (decodeL l).2 = 1 := h1
    rw [if_pos h2]
    simp [okr, h1]
   ·have h2 : ¬ ((decodeL l).1 = 65533 ∧ (decodeL l).2 = 1) := h1
    rw [if_neg h2]
    have : okr l = true := by unfold okr; rw [decide_eq_false h1]; rfl
    rw [this]
    show (true && (rn l != 47 && (rn l != 0 && (Go.Lib.validGoD f (l.drop (wd l)) && plainF f (l.drop (wd l)))))) = (Go.Lib.validGoD f (l.drop (wd l)) && (rn l != 47 && (rn l != 0 && plainF f (l.drop (wd l)))))
    cases (rn l != 47) <;> cases (rn l != 0) <;> cases Go.Lib.validGoD f (l.drop (wd l)) <;> simp
def chkS (s : List UInt8) : Int := if s = [] then 206 else if s.length > 100 then 208 else if s = [46] ∨ s = [46, 46] then 206 else if goodF s.length s then 0 else 206
theorem drop_ne {s : List UInt8} {p : Nat} (hp : p < s.length) : List.drop p s ≠ [] := fun e => by
 have := congrArg List.length e
 rw [List.length_drop] at this; simp at this; omega
theorem check_loop {s : List UInt8} : ∀ (f p : Nat), p ≤ s.length → s.length ≤ p + f → loop (name_Check_l1 s) p = some (if plainF f (List.drop p s) then .inl () else .inr 206)
 | 0, p, h1, h2 => by
  refine (loop_done (r := .inl ()) ?_).trans (by rfl)
  show (if p < List.length s then _ else _) = _
  rw [if_neg (by omega)]
 | f + 1, p, h1, h2 => by
  by_cases hp : p < s.length
  ·have hne := drop_ne hp
   have hw := wd_pos (List.drop p s)
   have hw2 := wd_le hne
   rw [List.length_drop] at hw2
   have hstep : name_Check_l1 s p = if rn (List.drop p s) = 47 ∨ rn (List.drop p s) = 0 then some (.inr (.inr 206)) else some (.inl (p + wd (List.drop p s))) := by
    show (if p < List.length s then _ else _) = _
    rw [if_pos hp, runeLen_eq, runeAt_eq]
    show Option.bind (if (((rn (List.drop p s) : Nat) : Int) == 47) = true then some true else some (((rn (List.drop p s) : Nat) : Int) == 0)) _ = _
    by_cases e1 : rn (List.drop p s) = 47
    ·rw [e1]; rfl
    ·have : (((rn (List.drop p s) : Nat) : Int) == 47) = false := by simp; omega
     rw [this]
     by_cases e2 : rn (List.drop p s) = 0
     ·rw [e2]; rfl
     ·have : (((rn (List.drop p s) : Nat) : Int) == 0) = false := by simp; omega
      rw [this, if_neg (show ¬ (rn (List.drop p s) = 47 ∨ rn (List.drop p s) = 0) by omega)]
      rfl
   have hpl : plainF (f + 1) (List.drop p s) = (rn (List.drop p s) != 47 && (rn (List.drop p s) != 0 && plainF f (List.drop (p + wd (List.drop p s)) s))) := by
    show (if List.drop p s = [] then true else _) = _
    rw [if_neg hne, List.drop_drop]
   by_cases hb : rn (List.drop p s) = 47 ∨ rn (List.drop p s) = 0
   ·rw [if_pos hb] at hstep
    rw [loop_done hstep, hpl]
    rcases hb with hb | hb <;> simp [hb]
   ·rw [if_neg hb] at hstep
    rw [loop_next hstep, check_loop f _ (by omega) (by omega), hpl]
    have e1 : (rn (List.drop p s) != 47) = true := by simp; omega
    have e2 : (rn (List.drop p s) != 0) = true := by simp; omega
    rw [e1, e2, Bool.true_and, Bool.true_and]
  ·refine (loop_done (r := .inl ()) ?_).trans ?_
   ·show (if p < List.length s then _ else _) = _
    rw [if_neg hp]
   ·have : List.drop p s = [] := List.drop_of_length_le (by omega)
    rw [this]; rfl
theorem eqS_dec (a b : List UInt8) : eqS a b = decide (a = b) := by
 unfold eqS
 by_cases h : a = b
 ·simp [h]
 ·simp [h]
theorem Check_eq (s : List UInt8) : name_Check s = some (chkS s) := by
 unfold name_Check chkS
 rw [eqS_dec, eqS_dec, eqS_dec]
 by_cases h0 : s = []
 ·rw [if_pos (decide_eq_true h0), if_pos h0]
 ·rw [if_neg (by simpa using h0), if_neg h0]
  by_cases h1 : s.length > 100
  ·rw [if_pos (decide_eq_true (by omega)), if_pos h1]
  ·rw [if_neg (by simp; omega), if_neg h1]
   by_cases h2 : s = [46]
   ·rw [if_pos (decide_eq_true h2), if_pos (.inl h2)]; rfl
   ·rw [if_neg (by simpa using h2)]
    by_cases h3 : s = [46, 46]
    ·rw [decide_eq_true h3, if_pos (.inr h3)]; rfl
    ·rw [decide_eq_false h3, if_neg (by simp [h2, h3])]
     have hv : utf8_ValidString s = some (Go.Lib.validD s) := by
      unfold utf8_ValidString
      exact if_pos (by omega)
     show ((utf8_ValidString s).bind fun r_ => some (!r_)).bind _ = _
     rw [hv]
     show (if (!Go.Lib.validD s) = true then some 206 else (loop (name_Check_l1 s) 0).bind name_Check_a1) = _
     rw [check_loop s.length 0 (by omega) (by omega), List.drop_zero, goodF_eq]
     show _ = some (if (Go.Lib.validD s && plainF s.length s) = true then 0 else 206)
     cases Go.Lib.validD s <;> cases plainF s.length s <;> rfl
end Go.Ai.Rab
end
section
/- Plain, plainly: what is written out comes to an end. -/
set_option linter.unusedVariables false
set_option linter.unusedSimpArgs false
set_option maxRecDepth 10000
open Go.Ai.Enc (enc is)
namespace Go.Ai.Rab
theorem loop_inv {σ ρ : Type} {body : σ → Option (σ ⊕ ρ)} (I : σ → Prop) (Q : ρ → Prop) (m : σ → Nat)
  (h : ∀ a, I a → (∃ b, body a = some (.inl b) ∧ I b ∧ m b < m a) ∨ (∃ r, body a = some (.inr r) ∧ Q r)) : ∀ (n : Nat) (a : σ), m a ≤ n → I a → ∃ r, loop body a = some r ∧ Q r
 | n, a, hn, hI => by
  rcases h a hI with ⟨b, h1, h2, h3⟩ | ⟨r, h1, h2⟩
  ·obtain ⟨n, rfl⟩ : ∃ k, n = k + 1 := ⟨n - 1, by omega⟩
   rw [loop_next h1]
   exact loop_inv I Q m h n b (by omega) h2
  ·exact ⟨r, loop_done h1, h2⟩
theorem nthD {α : Type} {l : List α} {i : Nat} (d : α) (h : i < l.length) : nth l (i : Int) = some (l.getD i d) := by
 rw [nth_get h]; simp [List.getD, h]
theorem loop_keep {σ ρ : Type} {body : σ × Int → Option ((σ × Int) ⊕ ρ)} (n : Nat) (I : Nat → σ → Prop) (Q : ρ → Prop) (h : ∀ i s, i < n → I i s → ∃ s', body (s, (i : Int)) = some (.inl (s', ((i + 1 : Nat) : Int))) ∧ I (i + 1) s')
  (he : ∀ s, I n s → ∃ r, body (s, (n : Int)) = some (.inr r) ∧ Q r) : ∀ i s, i ≤ n → I i s → ∃ r, loop body (s, (i : Int)) = some r ∧ Q r := by
 intro i s hi hI
 obtain ⟨d, rfl⟩ : ∃ d, n = i + d := ⟨n - i, by omega⟩
 clear hi
 induction d generalizing i s with
 | zero =>
  obtain ⟨r, h1, h2⟩ := he s hI
  exact ⟨r, loop_done h1, h2⟩
 | succ d ih =>
  obtain ⟨s', h1, h2⟩ := h i s (by omega) hI
  rw [loop_next h1]
  have e : i + (d + 1) = (i + 1) + d := by omega
  rw [e] at h he
  exact ih (i + 1) s' h2 h he
theorem lim {n : Nat} (h : n < 9223372036854775807) : IntKind.i64.wrap ((n : Int) + 1) = ((n + 1 : Nat) : Int) := by rw [i64w (by omega)]; rfl
/-! ### Numbers aS bytes -/
theorem j3_some (x : UInt64) (n : Int) (hn : 0 ≤ n ∧ n ≤ 1000) : ∃ r, len64_j3 x n = some r ∧ 0 ≤ r ∧ r ≤ n + 255 := by
 unfold len64_j3
 have hx : ((UInt8.ofInt ((x).toNat : Int))).toNat < 256 := UInt8.toNat_lt _
 obtain ⟨c, hc⟩ : ∃ c, (nth (α := UInt8) (str [0, 1, 2, 2, 3, 3, 3, 3, 4, 4, 4, 4, 4, 4, 4, 4, 5, 5, 5, 5, 5, 5, 5, 5, 5, 5, 5, 5, 5, 5, 5, 5, 6, 6, 6, 6, 6, 6, 6, 6, 6, 6, 6, 6, 6, 6, 6, 6, 6, 6, 6, 6, 6, 6, 6, 6, 6, 6, 6, 6, 6, 6, 6, 6, 7, 7, 7, 7, 7, 7, 7, 7, 7, 7, 7, 7, 7, 7, 7, 7, 7, 7, 7, 7, 7, 7, 7, 7, 7, 7, 7, 7, 7, 7, 7, 7, 7, 7, 7, 7, 7, 7, 7, 7, 7, 7, 7, 7, 7, 7, 7, 7, 7, 7, 7, 7, 7, 7, 7, 7, 7, 7, 7, 7, 7, 7, 7, 7, 8, 8, 8, 8, 8, 8, 8, 8, 8, 8, 8, 8, 8, 8, 8, 8, 8, 8, 8, 8, 8, 8, 8, 8, 8, 8, 8, 8, 8, 8, 8, 8, 8, 8, 8, 8, 8, 8, 8, 8, 8, 8, 8, 8, 8, 8, 8, 8, 8, 8, 8, 8, 8, 8, 8, 8, 8, 8, 8, 8, 8, 8, 8, 8, 8, 8, 8, 8, 8, 8, 8, 8, 8, 8, 8, 8, 8, 8, 8, 8, 8, 8, 8, 8, 8, 8, 8, 8, 8, 8, 8, 8, 8, 8, 8, 8, 8, 8, 8, 8, 8, 8, 8, 8, 8, 8, 8, 8, 8, 8, 8, 8, 8, 8, 8, 8, 8, 8, 8, 8, 8, 8, 8, 8, 8, 8, 8, 8]) (((UInt8.ofInt ((x).toNat : Int))).toNat : Int)) = some c := ⟨_, nthD 0 (by rw [show (List.length (str _) = 256) from rfl]; exact hx)⟩
 refine ⟨_, bds hc, ?_⟩
 have := c.toNat_lt
 rw [i64w (by omega)]
 omega
theorem len64_some (x : UInt64) : ∃ r, len64 x = some r ∧ 0 ≤ r ∧ r ≤ 1000 := by
 have w1 : ∀ n : Int, 0 ≤ n ∧ n ≤ 1000 → IntKind.i64.wrap (n + 8) = n + 8 := fun n h => i64w (by omega)
 have w2 : ∀ n : Int, 0 ≤ n ∧ n ≤ 1000 → IntKind.i64.wrap (n + 16) = n + 16 := fun n h => i64w (by omega)
 have h2 : ∀ (x : UInt64) (n : Int), 0 ≤ n ∧ n ≤ 100 → ∃ r, len64_j2 x n = some r ∧ 0 ≤ r ∧ r ≤ n + 300 := fun x n hn => by
  unfold len64_j2
  split
  ·rw [w1 n (by omega)]
   obtain ⟨r, h1, h2, h3⟩ := j3_some (UInt64.ofInt ((((x).toNat : Int)).fdiv (2 ^ 8))) (n + 8) (by omega)
   exact ⟨r, h1, h2, by omega⟩
  ·obtain ⟨r, h1, h2, h3⟩ := j3_some x n (by omega)
   exact ⟨r, h1, h2, by omega⟩
 have h1 : ∀ (x : UInt64) (n : Int), 0 ≤ n ∧ n ≤ 50 → ∃ r, len64_j1 x n = some r ∧ 0 ≤ r ∧ r ≤ n + 400 := fun x n hn => by
  unfold len64_j1
  split
  ·rw [w2 n (by omega)]
   obtain ⟨r, h1, h2, h3⟩ := h2 (UInt64.ofInt ((((x).toNat : Int)).fdiv (2 ^ 16))) (n + 16) (by omega)
   exact ⟨r, h1, h2, by omega⟩
  ·obtain ⟨r, h1, h2, h3⟩ := h2 x n (by omega)
   exact ⟨r, h1, h2, by omega⟩
 unfold len64
 split
 ·obtain ⟨r, h1, h2, h3⟩ := h1 (UInt64.ofInt ((((x).toNat : Int)).fdiv (2 ^ 32))) 32 (by omega)
  exact ⟨r, h1, h2, by omega⟩
 ·obtain ⟨r, h1, h2, h3⟩ := h1 x 0 (by omega)
  exact ⟨r, h1, h2, by omega⟩
theorem lebSize_some (x : UInt64) : ∃ r : Nat, lebSize x = some (r : Int) ∧ 1 ≤ r ∧ r ≤ 200 := by
 obtain ⟨r, h1, h2, h3⟩ := len64_some x
 have e1 : IntKind.i64.wrap (r + 7) = r + 7 := i64w (by omega)
 have e2 : IntKind.i64.wrap (r + 7 - 1) = r + 7 - 1 := i64w (by omega)
 have e3 : (r + 7 - 1).tdiv 7 = (r + 6) / 7 := by rw [show r + 7 - 1 = r + 6 by omega]; exact Int.tdiv_eq_ediv_of_nonneg (by omega)
 have e4 : IntKind.i64.wrap ((r + 6) / 7) = (r + 6) / 7 := i64w (by omega)
 have e0 : lebSize x = some (imax 1 ((r + 6) / 7)) := by
  unfold lebSize
  refine (bds h1).trans ?_
  show some (imax 1 (IntKind.i64.wrap ((IntKind.i64.wrap (IntKind.i64.wrap (r + 7) - 1)).tdiv 7))) = _
  rw [e1, e2, e3, e4]
 refine ⟨(imax 1 ((r + 6) / 7)).toNat, ?_, ?_⟩
 ·rw [e0]; unfold imax; split <;> congr 1 <;> omega
 ·unfold imax; split <;> omega
theorem leb_Put_some (x : UInt64) : ∃ b, leb_Put x = some b ∧ b.length ≤ 200 := by
 obtain ⟨r, h1, h2, h3⟩ := lebSize_some x
 have e0 : leb_Put x = _ := bds h1
 have e0 := e0.trans (bds (mkz_ok (z := (0 : UInt8)) (by omega) (by omega)))
 obtain ⟨b, hb, hbl⟩ := loop_keep (body := leb_Put_l1 (List.replicate r (0 : UInt8)) x) r (fun _ s => s.length = r) (fun s => s.length = r) (fun i s hi hs => by
   have hw : IntKind.i64.wrap (7 * (i : Int)) = 7 * (i : Int) := i64w (by omega)
   have hu : shrU x (IntKind.i64.wrap (7 * (i : Int))) = some (UInt64.ofInt ((x.toNat : Int).fdiv (2 ^ (min (7 * (i : Int)).toNat 64)))) := by
    rw [hw]; unfold shrU; exact if_pos (by omega)
   have hn : nth s (i : Int) = some (s.getD i 0) := nthD 0 (by omega)
   refine ⟨s.set i (UInt8.ofInt (bitOr .u8 (((UInt8.ofInt (((UInt64.ofInt ((x.toNat : Int).fdiv (2 ^ (min (7 * (i : Int)).toNat 64)))).toNat : Int))).toNat : Int)) 128)), ?_, by simp [hs]⟩
   show (if decide ((i : Int) < ((List.replicate r (0 : UInt8)).length : Int)) = true then _ else _) = _
   rw [if_pos (decide_eq_true (by simp; omega))]
   refine (bds hu).trans ((bds hn).trans ?_)
   rw [lim (by omega)]; rfl) (fun s hs => by
   refine ⟨s, ?_, hs⟩
   show (if decide ((r : Int) < ((List.replicate r (0 : UInt8)).length : Int)) = true then _ else _) = _
   rw [if_neg (by simp)]) 0 (List.replicate r 0) (by omega) (by simp)
 have e0 := e0.trans (bds hb)
 have hw : IntKind.i64.wrap ((b.length : Int) - 1) = ((b.length - 1 : Nat) : Int) := by rw [i64w (by omega)]; omega
 have hn : nth b (IntKind.i64.wrap ((b.length : Int) - 1)) = some (b.getD (b.length - 1) 0) := by rw [hw]; exact nthD 0 (by omega)
 have e0 := e0.trans ((bds hn).trans (bds hn))
 exact ⟨_, e0, by simp; omega⟩
theorem leb_Bytes_some (b : List UInt8) (h : b.length ≤ 100000) : ∃ r, leb_Bytes b = some r ∧ r.length ≤ b.length + 200 := by
 obtain ⟨c, h1, h2⟩ := leb_Put_some (UInt64.ofInt (b.length : Int))
 refine ⟨_, (bds h1).trans (bds (app_ok c b (by omega) (by omega))), by simp; omega⟩
/-! ### Fields -/
def okF : AnyV → Prop
 | .mk 3 (.int _) => True
 | .mk 9 (.str s) => List.length s ≤ 2000
 | .mk 33 (.bytes s) => s.length ≤ 2000
 | .mk 4 (.bool _) => True
 | _ => False
theorem put_some {fields : List AnyV} {b : List UInt8} (hb : b.length ≤ 100000000) (hf : fields.length ≤ 100) (h : ∀ v ∈ fields, okF v) : ∃ r, obj_put b fields = some r ∧ r.length ≤ b.length + 3000 * fields.length := by
 obtain ⟨r, h1, h2⟩ := loop_keep (body := obj_put_l1 fields) fields.length (fun i s => s.length ≤ b.length + 3000 * i) (fun s => s.length ≤ b.length + 3000 * fields.length) (fun i s hi hs => by
   have hn : nth fields (i : Int) = some fields[i] := nth_get hi
   have hk := h fields[i] (List.getElem_mem hi)
   have e0 : obj_put_l1 fields (s, (i : Int)) = _ := if_pos (decide_eq_true (show (i : Int) < (fields.length : Int) by omega))
   have e0 := e0.trans (bds hn)
   generalize fields[i] = v at e0 hk
   have fin : ∀ t : List UInt8, t.length ≤ 2900 → ∃ s', (((app 1 s t).bind fun l => obj_put_j2 (i : Int) l) = some (.inl (s', ((i + 1 : Nat) : Int)))) ∧ s'.length ≤ b.length + 3000 * (i + 1) := fun t ht => by
    refine ⟨s ++ t, ?_, by simp; omega⟩
    refine (bds (app_ok s t (by omega) (by omega))).trans ?_
    unfold obj_put_j2
    rw [lim (by omega)]
   unfold okF at hk
   split at hk
   ·rename_i n
    obtain ⟨c, c1, c2⟩ := leb_Put_some (UInt64.ofInt n)
    obtain ⟨s', f1, f2⟩ := fin c (by omega)
    refine ⟨s', ?_, f2⟩
    refine e0.trans (Eq.trans (bds (x := (n, true)) rfl) ?_)
    exact (if_pos rfl).trans ((bds c1).trans f1)
   ·rename_i t
    obtain ⟨c, c1, c2⟩ := leb_Bytes_some t (by omega)
    obtain ⟨s', f1, f2⟩ := fin c (by omega)
    refine ⟨s', ?_, f2⟩
    refine e0.trans (Eq.trans (bds (x := ((0 : Int), false)) rfl) ?_)
    refine (if_neg Bool.false_ne_true).trans (Eq.trans (bds (x := ((t : Str), true)) rfl) ?_)
    exact (if_pos rfl).trans ((bds (app_ok [] t (by simp; omega) (by simp; omega))).trans ((bds c1).trans f1))
   ·rename_i t
    obtain ⟨c, c1, c2⟩ := leb_Bytes_some t (by omega)
    obtain ⟨s', f1, f2⟩ := fin c (by omega)
    refine ⟨s', ?_, f2⟩
    refine e0.trans (Eq.trans (bds (x := ((0 : Int), false)) rfl) ?_)
    refine (if_neg Bool.false_ne_true).trans (Eq.trans (bds (x := ((str [] : Str), false)) rfl) ?_)
    refine (if_neg Bool.false_ne_true).trans (Eq.trans (bds (x := ((t : List UInt8), true)) rfl) ?_)
    exact (if_pos rfl).trans ((bds c1).trans f1)
   ·rename_i t
    obtain ⟨c, c1, c2⟩ := leb_Put_some (UInt64.ofInt (if t = true then 1 else 0))
    obtain ⟨s', f1, f2⟩ := fin c (by omega)
    refine ⟨s', ?_, f2⟩
    refine e0.trans (Eq.trans (bds (x := ((0 : Int), false)) rfl) ?_)
    refine (if_neg Bool.false_ne_true).trans (Eq.trans (bds (x := ((str [] : Str), false)) rfl) ?_)
    refine (if_neg Bool.false_ne_true).trans (Eq.trans (bds (x := (([] : List UInt8), false)) rfl) ?_)
    refine (if_neg Bool.false_ne_true).trans (Eq.trans (bds (x := ((str [] : Str), false)) rfl) ?_)
    refine (if_neg Bool.false_ne_true).trans (Eq.trans (bds (x := (t, true)) rfl) ?_)
    refine (if_pos rfl).trans ?_
    cases t with
    | true => exact (if_pos rfl).trans ((bds c1).trans f1)
    | false => exact (if_neg Bool.false_ne_true).trans ((bds c1).trans f1)
   ·cases hk) (fun s hs => by
   refine ⟨s, ?_, hs⟩
   exact if_neg (by simp)) 0 b (by omega) (by simp)
 exact ⟨r, bds h1, h2⟩
theorem put_somen {fields : List AnyV} {b : List UInt8} (n : Nat) (hn : fields.length = n) (hb : b.length ≤ 100000000) (hf : n ≤ 100) (h : ∀ v ∈ fields, okF v) : ∃ r, obj_put b fields = some r ∧ r.length ≤ b.length + 3000 * n := by
 subst hn; exact put_some hb hf h
theorem eqS_iff (a b : List UInt8) : eqS a b = true ↔ a = b := by unfold eqS; simp
end Go.Ai.Rab
end
section
/- Plain, plainly: which inodes may be, alone. -/
set_option linter.unusedVariables false
set_option linter.unusedSimpArgs false
set_option maxRecDepth 10000
open Go.Ai.Enc (enc is)
namespace Go.Ai.Rab
/-! ### Rows of names that rise -/
def nmAt (l : List Str) (i : Nat) : Str := l.getD i (str [])
theorem nthN {l : List Str} {i : Nat} (h : i < l.length) : nth l (i : Int) = some (nmAt l i) := nthD (str []) h
theorem nmAt_get {l : List Str} {i : Nat} (h : i < l.length) : nmAt l i = l[i] := by unfold nmAt; simp only [List.getD_eq_getElem?_getD, List.getElem?_eq_getElem h, Option.getD_some]
def risP (l : List Str) (i : Nat) : Bool := chkS (nmAt l i) == 0 && !(decide (0 < i) && (ltS (nmAt l i) (nmAt l (i - 1)) || eqS (nmAt l i) (nmAt l (i - 1))))
def risB (l : List Str) : Bool := (List.range' 0 l.length).all (risP l)
theorem ris_in {l : List Str} {i : Nat} (h : i < l.length) (hl : l.length < 9000000000000000000) :
  (if decide ((i : Int) > 0) = true then ((nth l (IntKind.i64.wrap ((i : Int) - 1))).bind fun v3 => some (ltS (nmAt l i) v3 || eqS (nmAt l i) v3)) else some false) = some (decide (0 < i) && (ltS (nmAt l i) (nmAt l (i - 1)) || eqS (nmAt l i) (nmAt l (i - 1)))) := by
 by_cases h0 : 0 < i
 ·have hw : IntKind.i64.wrap ((i : Int) - 1) = ((i - 1 : Nat) : Int) := by rw [i64w (by omega)]; omega
  rw [if_pos (decide_eq_true (by omega)), hw, decide_eq_true h0, Bool.true_and]
  exact bds (nthN (by omega))
 ·rw [if_neg (by simp; omega), decide_eq_false h0, Bool.false_and]
theorem ris_fin (c : Int) (x : Bool) {α : Type} (a b : Option α) : ((if (c != 0) = true then some true else ((some x).bind fun b1 => some b1)).bind fun b' => if b' = true then a else b) = if (c == 0 && !x) = true then b else a := by
 by_cases h : c = 0
 ·subst h; cases x <;> rfl
 ·have e1 : (c != 0) = true := by simp [h]
  have e2 : (c == 0) = false := by simp [h]
  rw [e1, e2]; rfl
theorem obj_rising_eq {l : List Str} (hl : l.length < 9000000000000000000) : obj_rising l = some (risB l) := by
 have h := loop_all (body := obj_rising_l1 l) l.length (risP l) false (fun i hi => by
  show (if decide ((i : Int) < (l.length : Int)) = true then _ else _) = _
  rw [if_pos (decide_eq_true (by omega))]
  refine (bds (nthN hi)).trans ((bds (Check_eq _)).trans ?_)
  rw [ris_in hi hl, ris_fin, lim (by omega)]
  rfl) (by
  show (if decide ((l.length : Int) < (l.length : Int)) = true then _ else _) = _
  rw [if_neg (by simp)]) 0 (Nat.zero_le _)
 refine (bds h).trans ?_
 show _ = some ((List.range' 0 l.length).all (risP l))
 cases (List.range' 0 (l.length - 0)).all (risP l) <;> rfl
theorem risB_ok {l : List Str} (h : risB l = true) : ∀ s ∈ l, chkS s = 0 := by
 intro s hs
 obtain ⟨i, hi, rfl⟩ := List.getElem_of_mem hs
 have := range_all.1 h i hi
 unfold risP at this
 simp only [Bool.and_eq_true, beq_iff_eq] at this
 have h1 := this.1
 rw [nmAt_get hi] at h1; exact h1
theorem chkS_len {s : Str} (h : chkS s = 0) : List.length s ≤ 100 := by
 unfold chkS at h
 split at h
 ·cases h
 ·split at h
  ·cases h
  ·omega
/-! ### Attributes -/
def atP (l : List AttrR) (i : Nat) : Bool := decide ((l[i]?.map fun a => a.v.2.1.length).getD 0 ≤ 256)
def attrsB (l : List AttrR) : Bool := (List.range' 0 l.length).all (atP l) && (decide (l.length ≤ 8) && risB (l.map fun a => a.v.1))
theorem loop_names {α : Type} {body : (List Str × Int) → Option ((List Str × Int) ⊕ (List Str ⊕ Bool))} {l : List α} (nm : α → Str) (p : Nat → Bool) (h : ∀ (i : Nat) (hi : i < l.length) (s : List Str), s.length = i → body (s, (i : Int)) = if p i then some (.inl (s ++ [nm l[i]], ((i + 1 : Nat) : Int))) else some (.inr (.inr false)))
  (he : ∀ s, body (s, (l.length : Int)) = some (.inr (.inl s))) : ∀ (d i : Nat) (hi : i + d = l.length) (s : List Str), s.length = i → loop body (s, (i : Int)) = some (if (List.range' i d).all p then .inl (s ++ (l.drop i).map nm) else .inr false)
 | 0, i, hi, s, hs => by
  have : i = l.length := by omega
  subst this
  rw [loop_done (he s)]; simp
 | d + 1, i, hi, s, hs => by
  have h1 := h i (by omega) s hs
  rw [List.range'_succ, List.all_cons]
  cases hp : p i with
  | false => rw [hp, if_neg Bool.false_ne_true] at h1; rw [loop_done h1]; rfl
  | true =>
   rw [hp, if_pos rfl] at h1
   rw [loop_next h1, loop_names nm p h he d (i + 1) (by omega) _ (by simp [hs]), Bool.true_and]
   have : s ++ [nm l[i]] ++ (l.drop (i + 1)).map nm = s ++ (l.drop i).map nm := by
    rw [List.drop_eq_getElem_cons (show i < l.length by omega), List.map_cons, List.append_assoc]; rfl
   rw [this]
theorem obj_attrs_eq {l : List AttrR} (hl : l.length ≤ 2000000) : obj_attrs l = some (attrsB l) := by
 have h := loop_names (body := obj_attrs_l1 l) (l := l) (fun a => a.v.1) (atP l) (fun i hi s hs => by
  show (if decide ((i : Int) < (l.length : Int)) = true then _ else _) = _
  rw [if_pos (decide_eq_true (by omega))]
  refine (bds (nth_get hi)).trans ((bds (app_ok s [l[i].v.1] (by simp; omega) (by simp; omega))).trans ?_)
  have : atP l i = decide (l[i].v.2.1.length ≤ 256) := by simp [atP, hi]
  rw [this, lim (by omega)]
  by_cases hc : l[i].v.2.1.length ≤ 256
  ·rw [decide_eq_true hc, if_neg (by simp; omega), if_pos rfl]
  ·rw [decide_eq_false hc, if_pos (decide_eq_true (by omega)), if_neg Bool.false_ne_true]) (fun s => by
  show (if decide ((l.length : Int) < (l.length : Int)) = true then _ else _) = _
  rw [if_neg (by simp)]) l.length 0 (by omega) [] rfl
 refine (bds h).trans ?_
 unfold attrsB
 cases (List.range' 0 l.length).all (atP l) with
 | false => rfl
 | true =>
  rw [if_pos rfl, Bool.true_and]
  show ((if decide ((l.length : Int) ≤ 8) = true then ((obj_rising (List.map (fun a : AttrR => a.v.1) l)).bind fun r_ => some r_) else some false).bind fun b => some b) = _
  rw [obj_rising_eq (by simp; omega)]
  have : decide ((l.length : Int) ≤ 8) = decide (l.length ≤ 8) := by rw [decide_eq_decide]; omega
  rw [this]
  cases decide (l.length ≤ 8) <;> rfl
/-! ### Nodes -/
def tgB (k : Int) (t : Str) : Bool := if k != 3 then eqS t (str []) else !eqS t (str []) && (decide (List.length t ≤ 1000) && !decide (Go.Lib.indexByte t 0 ≥ 0))
def metaB (k m n : Int) (t : Str) (l : List AttrR) : Bool := decide (0 ≤ m ∧ m ≤ 4095) && (decide (0 ≤ n ∧ n ≤ 64) && (decide (1 ≤ k ∧ k ≤ 3) && (tgB k t && attrsB l)))
theorem contains_eq (t : Str) : str_Contains t (str [0]) = some (decide (Go.Lib.indexByte t 0 ≥ 0)) := rfl
abbrev metaOf (k m n : Int) (t : Str) (l : List AttrR) : MetaR := Rec.mk (k, m, n, (0 : Int), t, l, ([] : List RefR), ())
theorem obj_target_eq (k m n : Int) (t : Str) (l : List AttrR) : obj_target (metaOf k m n t l) = some (tgB k t) := by
 unfold obj_target tgB
 show (if (k != 3) = true then some (eqS t (str [])) else _) = _
 by_cases hk : (k != 3) = true
 ·rw [if_pos hk, if_pos hk]
 ·rw [if_neg hk, if_neg hk]
  show ((if (!eqS t (str [])) = true then some (decide (((List.length t : Nat) : Int) ≤ 1000)) else some false).bind fun b => ((if b = true then ((str_Contains t (str [0])).bind fun r_ => some (!r_)) else some false).bind fun b1 => ((if b1 = true then some ((0 : Int) == 0) else some false).bind fun b2 => some b2))) = _
  have e : decide (((List.length t : Nat) : Int) ≤ 1000) = decide (List.length t ≤ 1000) := by rw [decide_eq_decide]; omega
  rw [e, contains_eq]
  cases (!eqS t (str [])) <;> cases decide (List.length t ≤ 1000) <;> cases decide (Go.Lib.indexByte t 0 ≥ 0) <;> rfl
theorem dec2 (a lo hi : Int) : (if decide (a ≥ lo) = true then some (decide (a ≤ hi)) else some false) = some (decide (lo ≤ a ∧ a ≤ hi)) := by
 by_cases h : a ≥ lo
 ·rw [if_pos (decide_eq_true h)]; congr 1; rw [decide_eq_decide]; omega
 ·rw [if_neg (by simpa using h), decide_eq_false (by omega)]
theorem obj_meta_eq {k m n : Int} {t : Str} {l : List AttrR} (hl : l.length ≤ 2000000) : obj_meta (metaOf k m n t l) = some (metaB k m n t l) := by
 unfold obj_meta metaB
 have e1 : ∀ (b : Bool) (g : Bool → Option Bool), ((if b = true then some (decide ((0 : Int) ≥ 0)) else some false).bind fun b3 => ((if b3 = true then some (decide ((0 : Int) ≤ 32768)) else some false).bind fun b4 => ((if b4 = true then some (decide ((([] : List RefR).length : Int) ≤ 128)) else some false).bind g))) = g b := fun b g => by cases b <;> rfl
 show ((if decide (m ≥ 0) = true then some (decide (m ≤ 4095)) else some false).bind fun b => ((if b = true then some (decide (n ≥ 0)) else some false).bind fun b1 => ((if b1 = true then some (decide (n ≤ 64)) else some false).bind fun b2 => ((if b2 = true then some (decide ((0 : Int) ≥ 0)) else some false).bind fun b3 => ((if b3 = true then some (decide ((0 : Int) ≤ 32768)) else some false).bind fun b4 => ((if b4 = true then some (decide ((([] : List RefR).length : Int) ≤ 128)) else some false).bind fun b5 => ((if decide (k < 1) = true then some true else some (decide (k > 3))).bind fun b6 => ((if b6 = true then some true else some (!b5)).bind fun b7 => ((if b7 = true then some true else ((obj_target (metaOf k m n t l)).bind fun r_ => some (!r_))).bind fun b8 => ((if b8 = true then some true else ((obj_attrs l).bind fun r_1 => some (!r_1))).bind fun b9 => (if b9 = true then some false else ((loop (obj_meta_l1 (metaOf k m n t l)) (0, 0)).bind (obj_meta_a1 (metaOf k m n t l))))))))))))))  = _
 have e2 : ∀ b : Bool, ((if b = true then some (decide (n ≥ 0)) else some false).bind fun b1 => (if b1 = true then some (decide (n ≤ 64)) else some false)) = some (b && decide (0 ≤ n ∧ n ≤ 64)) := fun b => by
  cases b with
  | false => rfl
  | true => rw [if_pos rfl, bd, dec2]; rfl
 have e3 : (if decide (k < 1) = true then some true else some (decide (k > 3))) = some (!decide (1 ≤ k ∧ k ≤ 3)) := by
  by_cases h : k < 1
  ·rw [if_pos (decide_eq_true h), decide_eq_false (by omega)]; rfl
  ·rw [if_neg (by simpa using h)]; congr 1
   by_cases h2 : k ≤ 3
   ·rw [decide_eq_false (by omega), decide_eq_true (by omega)]; rfl
   ·rw [decide_eq_true (by omega), decide_eq_false (by omega)]; rfl
 have e4 : loop (obj_meta_l1 (metaOf k m n t l)) (0, 0) = some (.inl 0) := loop_done rfl
 rw [dec2, bd]
 have e5 : ∀ (b : Bool) (g : Bool → Option Bool), ((if b = true then some (decide (n ≥ 0)) else some false).bind fun b1 => ((if b1 = true then some (decide (n ≤ 64)) else some false).bind g)) = g (b && decide (0 ≤ n ∧ n ≤ 64)) := fun b g => by
  rw [← Option.bind_assoc, e2, bd]
 rw [e5, e1, e3, bd, obj_target_eq, obj_attrs_eq hl, e4]
 have hz : (Option.bind (some (Sum.inl (0 : Int))) (obj_meta_a1 (metaOf k m n t l)) : Option Bool) = some true := rfl
 rw [hz]
 cases decide (0 ≤ m ∧ m ≤ 4095) <;> cases decide (0 ≤ n ∧ n ≤ 64) <;> cases decide (1 ≤ k ∧ k ≤ 3) <;> cases tgB k t <;> cases attrsB l <;> rfl
theorem attrs_len {l : List AttrR} (h : attrsB l = true) : l.length ≤ 8 ∧ ∀ a ∈ l, List.length a.v.1 ≤ 100 ∧ a.v.2.1.length ≤ 256 := by
 unfold attrsB at h
 simp only [Bool.and_eq_true, decide_eq_true_eq] at h
 obtain ⟨h1, h2, h3⟩ := h
 refine ⟨h2, fun a ha => ⟨chkS_len (risB_ok h3 _ (List.mem_map_of_mem ha)), ?_⟩⟩
 obtain ⟨i, hi, rfl⟩ := List.getElem_of_mem ha
 have := range_all.1 h1 i hi
 simpa [atP, hi] using this
theorem tg_len {k : Int} {t : Str} (h : tgB k t = true) : List.length t ≤ 1000 := by
 unfold tgB at h
 split at h
 ·have := congrArg List.length ((eqS_iff t []).1 h)
  rw [this]; decide
 ·simp only [Bool.and_eq_true, decide_eq_true_eq] at h
  exact h.2.1
theorem aux6 {i a b : Nat} (h : a ≤ 20000 + 7000 * i) (k : b ≤ a + 6000) : b ≤ 20000 + 7000 * (i + 1) := by rw [Nat.mul_succ, ← Nat.add_assoc]; exact Nat.le_trans k (Nat.add_le_add h (by decide))
theorem PutMeta_eq {k m n : Int} {t : Str} {l : List AttrR} (hl : l.length ≤ 2000000) : ∃ b, obj_PutMeta (metaOf k m n t l) = some (b, if metaB k m n t l = true then 0 else 80) := by
 have e0 : obj_PutMeta (metaOf k m n t l) = _ := bds (obj_meta_eq hl)
 cases hm : metaB k m n t l with
 | false =>
  rw [hm] at e0
  exact ⟨[], e0.trans (if_pos rfl)⟩
 | true =>
  rw [hm] at e0
  have hm' := hm
  unfold metaB at hm'
  simp only [Bool.and_eq_true, decide_eq_true_eq] at hm'
  obtain ⟨_, _, _, h4, h5⟩ := hm'
  obtain ⟨l1, l2⟩ := attrs_len h5
  have l3 := tg_len h4
  have e0 := e0.trans (if_neg (show ¬ (!true) = true by decide))
  obtain ⟨b1, p1, p2⟩ := put_somen 6 (b := []) (fields := [toAny 3 (k : Int), toAny 3 (m : Int), toAny 3 (n : Int), toAny 3 (0 : Int), toAny 9 (t : Str), toAny 3 ((l.length : Int) : Int)]) rfl (by simp) (by decide) (by
   intro v hv
   simp only [List.mem_cons, List.not_mem_nil, or_false] at hv
   rcases hv with rfl | rfl | rfl | rfl | rfl | rfl <;> first | trivial | (show List.length t ≤ 2000; omega))
  have e0 := e0.trans (bds p1)
  rw [List.length_nil] at p2
  obtain ⟨b2, q1, q2⟩ := loop_keep (body := obj_PutMeta_l1 (metaOf k m n t l)) l.length (fun i s => s.length ≤ 20000 + 7000 * i) (fun s => s.length ≤ 20000 + 7000 * l.length) (fun i s hi hs => by
   obtain ⟨h6, h7⟩ := l2 l[i] (List.getElem_mem hi)
   obtain ⟨b', r1, r2⟩ := put_somen 2 (b := s) (fields := [toAny 9 (l[i].v.1 : Str), toAny 33 (l[i].v.2.1 : List UInt8)]) rfl (by omega) (by decide) (by
    intro v hv
    simp only [List.mem_cons, List.not_mem_nil, or_false] at hv
    rcases hv with rfl | rfl
    ·show List.length l[i].v.1 ≤ 2000; omega
    ·show List.length l[i].v.2.1 ≤ 2000; omega)
   refine ⟨b', ?_, aux6 hs r2⟩
   refine (if_pos (decide_eq_true (show (i : Int) < (l.length : Int) by omega))).trans ?_
   refine (bds (nth_get hi)).trans ((bds r1).trans ?_)
   rw [lim (by omega)]) (fun s hs => ⟨s, if_neg (by simp), hs⟩) 0 b1 (by omega) (by omega)
  have e0 := e0.trans (bds q1)
  obtain ⟨b3, s1, s2⟩ := put_somen 1 (b := b2) (fields := [toAny 3 ((([] : List RefR).length : Int) : Int)]) rfl (by omega) (by decide) (by
   intro v hv
   simp only [List.mem_cons, List.not_mem_nil, or_false] at hv
   subst hv; trivial)
  have e0 := e0.trans (bds s1)
  have e4 : loop (obj_PutMeta_l2 (metaOf k m n t l)) (b3, 0) = some b3 := loop_done rfl
  exact ⟨b3, e0.trans (bds e4)⟩
/-! ### Listings -/
def numB (n : Int) : Bool := decide (1 ≤ n ∧ n ≤ 1024)
def listB (a : List Str) (b : List Int) : Bool := decide (a.length ≤ 256) && (decide (b.length = a.length) && (risB a && b.all numB))
abbrev listOf (a : List Str) (b : List Int) : ListingR := Rec.mk (true, a, b, ())
theorem odd_eq (n : Int) (a : List Str) (b : List Int) : odd_num n (PtrC.mk (listOf a b)) = some (!numB n) := by
 unfold odd_num numB
 show ((if decide (n < 0) = true then some true else some (decide (n > 1024))).bind fun b => ((if b = true then some true else ((if true = true then some (n == 0) else some false).bind fun b2 => some b2)).bind fun b1 => some b1)) = _
 by_cases h1 : n < 0
 ·rw [if_pos (decide_eq_true h1), decide_eq_false (by omega)]; rfl
 ·rw [if_neg (by simpa using h1)]
  by_cases h2 : n > 1024
  ·rw [decide_eq_true h2, decide_eq_false (by omega)]; rfl
  ·rw [decide_eq_false h2]
   by_cases h3 : n = 0
   ·subst h3; rfl
   ·have : (n == 0) = false := by simpa using h3
    rw [this, decide_eq_true (show 1 ≤ n ∧ n ≤ 1024 by omega)]; rfl
theorem loop_first {body : Int → Option (Int ⊕ (Unit ⊕ Int))} (n : Nat) (p : Nat → Bool) (h : ∀ i : Nat, i < n → body i = if p i then some (.inr (.inr (i : Int))) else some (.inl ((i + 1 : Nat) : Int))) (hn : body n = some (.inr (.inl ()))) :
  ∀ (d i : Nat), i + d = n → loop body i = some (match (List.range' i d).find? p with | some k => .inr (k : Int) | none => .inl ())
 | 0, i, hi => by
  have : i = n := by omega
  subst this
  exact loop_done hn
 | d + 1, i, hi => by
  have h1 := h i (by omega)
  rw [List.range'_succ, List.find?_cons]
  cases hp : p i with
  | true => rw [hp, if_pos rfl] at h1; rw [loop_done h1]
  | false => rw [hp, if_neg Bool.false_ne_true] at h1; rw [loop_next h1, loop_first n p h hn d (i + 1) (by omega)]
theorem find_all {p : Nat → Bool} {d i : Nat} : (List.range' i d).find? p = none ↔ (List.range' i d).all (fun k => !p k) = true := by
 rw [List.find?_eq_none, List.all_eq_true]; simp
theorem Contains_eq {a : List Str} {b : List Int} (hb : b.length < 9000000000000000000) (f : Clo 74 ((PtrC ListingR) × Unit)) (hf : f.cap.1 = PtrC.mk (listOf a b)) : sl_ContainsFunc b f = some (!b.all numB) := by
 have h := loop_first (body := sl_IndexFunc2_l1 b f) b.length (fun i => !numB (b.getD i 0)) (fun i hi => by
  refine (if_pos (decide_eq_true (show (i : Int) < (b.length : Int) by omega))).trans ?_
  refine (bds (nthD 0 hi)).trans ?_
  rw [hf]
  refine (bds (odd_eq _ _ _)).trans ?_
  rw [lim (by omega)]) (if_neg (by simp)) b.length 0 (by omega)
 have e0 : sl_IndexFunc2 b f = _ := bds h
 have hall : b.all numB = (List.range' 0 b.length).all fun i => numB (b.getD i 0) := by
  rw [Bool.eq_iff_iff, List.all_eq_true, range_all]
  constructor
  ·intro h i hi
   simp only [List.getD_eq_getElem?_getD, List.getElem?_eq_getElem hi, Option.getD_some]
   exact h _ (List.getElem_mem hi)
  ·intro h x hx
   obtain ⟨i, hi, rfl⟩ := List.getElem_of_mem hx
   have := h i hi
   simpa only [List.getD_eq_getElem?_getD, List.getElem?_eq_getElem hi, Option.getD_some] using this
 rw [hall]
 cases hf : (List.range' 0 b.length).find? (fun i => !numB (b.getD i 0)) with
 | none =>
  rw [hf] at e0
  refine (bds e0).trans ?_
  have := find_all.1 hf
  simp only [Bool.not_not] at this
  rw [this]; rfl
 | some k =>
  rw [hf] at e0
  refine (bds e0).trans ?_
  have : (List.range' 0 b.length).all (fun i => numB (b.getD i 0)) = false := by
   rw [Bool.eq_false_iff]
   intro h
   have h1 := List.find?_some hf
   have h2 := List.all_eq_true.1 h k (List.mem_of_find?_eq_some hf)
   rw [h2] at h1; cases h1
  rw [this]
  show some (decide ((k : Int) ≥ 0)) = _
  rw [decide_eq_true (by omega)]; rfl
theorem PutListing_eq {a : List Str} {b : List Int} (ha : a.length ≤ 2000000) (hb : b.length ≤ 2000000) : ∃ c, obj_PutListing (listOf a b) = some (c, if listB a b = true then 0 else 80) := by
 have g1 : (if decide ((a.length : Int) > 256) = true then some true else some ((b.length : Int) != (a.length : Int))) = some (!(decide (a.length ≤ 256) && decide (b.length = a.length))) := by
  by_cases h : a.length ≤ 256
  ·rw [if_neg (by simp; omega), decide_eq_true h, Bool.true_and]
   congr 1
   by_cases h2 : b.length = a.length
   ·simp [h2]
   ·rw [decide_eq_false h2]; simp; omega
  ·rw [if_pos (decide_eq_true (by omega)), decide_eq_false h]; rfl
 have e0 : obj_PutListing (listOf a b) = _ := bds g1
 have g2 : ∀ x : Bool, (if (!x) = true then some true else ((obj_rising a).bind fun r_ => some (!r_))) = some (!(x && risB a)) := fun x => by
  rw [obj_rising_eq (by omega)]; cases x <;> rfl
 have e0 := e0.trans (bds (g2 _))
 have g3 : ∀ x : Bool, (if (!x) = true then some true else ((sl_ContainsFunc b (Clo.mk ((PtrC.mk (listOf a b) : PtrC ListingR), ()) : Clo 74 ((PtrC ListingR) × Unit))).bind fun r_1 => some r_1)) = some (!(x && b.all numB)) := fun x => by
  rw [Contains_eq (by omega) _ rfl]; cases x <;> rfl
 have e0 := e0.trans (bds (g3 _))
 have hL : (((decide (a.length ≤ 256) && decide (b.length = a.length)) && risB a) && b.all numB) = listB a b := by
  unfold listB; simp only [Bool.and_assoc]
 rw [hL] at e0
 cases hm : listB a b with
 | false =>
  rw [hm] at e0
  exact ⟨[], e0.trans (if_pos rfl)⟩
 | true =>
  rw [hm] at e0
  have hm' := hm
  unfold listB at hm'
  simp only [Bool.and_eq_true, decide_eq_true_eq] at hm'
  obtain ⟨h1, h2, h3, h4⟩ := hm'
  have e0 := e0.trans (if_neg (show ¬ (!true) = true by decide))
  obtain ⟨b1, p1, p2⟩ := put_somen 2 (b := []) (fields := [toAny 4 (true : Bool), toAny 3 ((a.length : Int) : Int)]) rfl (by simp) (by decide) (by
   intro v hv
   simp only [List.mem_cons, List.not_mem_nil, or_false] at hv
   rcases hv with rfl | rfl <;> trivial)
  have e0 := e0.trans (bds p1)
  rw [List.length_nil] at p2
  obtain ⟨b2, q1, q2⟩ := loop_keep (body := obj_PutListing_l1 (listOf a b)) a.length (fun i s => s.length ≤ 20000 + 6000 * i) (fun s => s.length ≤ 20000 + 6000 * a.length) (fun i s hi hs => by
   have h6 := chkS_len (risB_ok h3 a[i] (List.getElem_mem hi))
   obtain ⟨b', r1, r2⟩ := put_somen 1 (b := s) (fields := [toAny 9 (a[i] : Str)]) rfl (by omega) (by decide) (by
    intro v hv
    simp only [List.mem_cons, List.not_mem_nil, or_false] at hv
    subst hv
    show List.length a[i] ≤ 2000; omega)
   refine ⟨b', ?_, by omega⟩
   refine (if_pos (decide_eq_true (show (i : Int) < (a.length : Int) by omega))).trans ?_
   refine (bds (nth_get hi)).trans ((bds r1).trans ?_)
   rw [lim (by omega)]) (fun s hs => ⟨s, if_neg (by simp), hs⟩) 0 b1 (by omega) (by omega)
  have e0 := e0.trans (bds q1)
  obtain ⟨b3, s1, s2⟩ := loop_keep (body := obj_PutListing_l2 (listOf a b)) b.length (fun i s => s.length ≤ 2000000 + 6000 * i) (fun s => True) (fun i s hi hs => by
   obtain ⟨b', r1, r2⟩ := put_somen 1 (b := s) (fields := [toAny 3 (b[i] : Int)]) rfl (by omega) (by decide) (by
    intro v hv
    simp only [List.mem_cons, List.not_mem_nil, or_false] at hv
    subst hv; trivial)
   refine ⟨b', ?_, by omega⟩
   refine (if_pos (decide_eq_true (show (i : Int) < (b.length : Int) by omega))).trans ?_
   refine (bds (nth_get hi)).trans ((bds r1).trans ?_)
   rw [lim (by omega)]) (fun s hs => ⟨s, if_neg (by simp), trivial⟩) 0 b2 (by omega) (by omega)
  have e0 := e0.trans (bds s1)
  exact ⟨b3, e0⟩
/-! ### Inodes -/
def aloneB (x : InodeR) : Bool := metaB x.v.2.1 x.v.2.2.1 x.v.2.2.2.1 x.v.2.2.2.2.2.1 x.v.2.2.2.2.2.2.2.2.1 && ((decide (x.v.2.2.2.2.1.length = 0) || decide (x.v.2.1 = 1 ∧ x.v.2.2.2.2.1.length ≤ 32768)) && (decide (1 ≤ x.v.1 ∧ x.v.1 ≤ 1024) &&
 (if x.v.2.1 != 2 then decide (x.v.2.2.2.2.2.2.1.length = 0 ∧ x.v.2.2.2.2.2.2.2.1.length = 0) else listB x.v.2.2.2.2.2.2.1 x.v.2.2.2.2.2.2.2.1 && (decide (x.v.2.2.2.1 = 1) && decide (x.v.2.2.2.2.2.2.1.length ≤ 128)))))
def smallI (x : InodeR) : Prop := x.v.2.2.2.2.1.length ≤ 2000000 ∧ x.v.2.2.2.2.2.2.1.length ≤ 2000000 ∧ x.v.2.2.2.2.2.2.2.1.length ≤ 2000000 ∧ x.v.2.2.2.2.2.2.2.2.1.length ≤ 2000000
theorem right_eq {x : InodeR} (h : smallI x) : plain_right x = some (aloneB x) := by
 obtain ⟨h1, h2, h3, h4⟩ := h
 obtain ⟨⟨num, k, m, n, d, t, ns, is, at_, u⟩⟩ := x
 simp only at h1 h2 h3 h4
 obtain ⟨b, hb⟩ := PutMeta_eq (k := k) (m := m) (n := n) (t := t) (l := at_) h4
 have e0 : plain_right (Rec.mk (num, k, m, n, d, t, ns, is, at_, u)) = _ := bds hb
 have g1 : (if ((d.length : Int) == 0) = true then some true else ((if (k == 1) = true then some (decide ((d.length : Int) ≤ 32768)) else some false).bind fun b1 => some b1)) = some (decide (d.length = 0) || decide (k = 1 ∧ d.length ≤ 32768)) := by
  by_cases hd : d.length = 0
  ·rw [if_pos (by simp [hd]), decide_eq_true hd]; rfl
  ·rw [if_neg (by simp; intro e; exact hd (by rw [e]; rfl)), decide_eq_false hd, Bool.false_or]
   by_cases hk : k = 1
   ·rw [if_pos (by simp [hk]), bd]; congr 1; rw [decide_eq_decide]; omega
   ·rw [if_neg (by simpa using hk), decide_eq_false (by omega)]; rfl
 have e0 := e0.trans (bds g1)
 have g2 : ∀ x y : Bool, (if ((if x = true then (0 : Int) else 80) != 0) = true then some true else some (!y)) = some (!(x && y)) := fun x y => by cases x <;> cases y <;> rfl
 have e0 := e0.trans (bds (g2 _ _))
 have g3 : ∀ x : Bool, ((if (!x) = true then some true else some (decide (num < 1))).bind fun b3 => (if b3 = true then some true else some (decide (num > 1024)))) = some (!(x && decide (1 ≤ num ∧ num ≤ 1024))) := fun x => by
  cases x with
  | false => rfl
  | true =>
   rw [if_neg (by decide), bd, Bool.true_and]
   by_cases hn : num < 1
   ·rw [if_pos (decide_eq_true hn), decide_eq_false (by omega)]; rfl
   ·rw [if_neg (by simpa using hn)]
    by_cases hn2 : num > 1024
    ·rw [decide_eq_true hn2, decide_eq_false (by omega)]; rfl
    ·rw [decide_eq_false hn2, decide_eq_true (by omega)]; rfl
 rw [← Option.bind_assoc, g3] at e0
 refine e0.trans ?_
 show (if (!((metaB k m n t at_ && (decide (d.length = 0) || decide (k = 1 ∧ d.length ≤ 32768))) && decide (1 ≤ num ∧ num ≤ 1024))) = true then some false else _) = some (metaB k m n t at_ && ((decide (d.length = 0) || decide (k = 1 ∧ d.length ≤ 32768)) && (decide (1 ≤ num ∧ num ≤ 1024) && (if k != 2 then decide (ns.length = 0 ∧ is.length = 0) else listB ns is && (decide (n = 1) && decide (ns.length ≤ 128))))))
 rw [← Bool.and_assoc, ← Bool.and_assoc]
 cases ((metaB k m n t at_ && (decide (d.length = 0) || decide (k = 1 ∧ d.length ≤ 32768))) && decide (1 ≤ num ∧ num ≤ 1024)) with
 | false => rfl
 | true =>
  rw [if_neg (by decide), Bool.true_and]
  by_cases hk : (k != 2) = true
  ·rw [if_pos hk]
   show some (IntKind.i64.wrap ((ns.length : Int) + (is.length : Int)) == 0) = _
   rw [if_pos hk]
   rw [i64w (by omega)]
   congr 1
   by_cases hz : ns.length = 0 ∧ is.length = 0
   ·rw [decide_eq_true hz, hz.1, hz.2]; rfl
   ·rw [decide_eq_false hz]; simp; intro e; apply hz; constructor <;> simp only [List.length_eq_zero_iff] <;> (first | (apply List.eq_nil_of_length_eq_zero; omega))
  ·rw [if_neg hk]
   obtain ⟨c, hc⟩ := PutListing_eq (a := ns) (b := is) h2 h3
   refine (bds hc).trans ?_
   rw [if_neg hk]
   show ((if ((if listB ns is = true then (0 : Int) else 80) == 0) = true then some (n == 1) else some false).bind fun b5 => ((if b5 = true then some (decide ((ns.length : Int) ≤ 128)) else some false).bind fun b6 => some b6)) = _
   have e1 : (n == 1) = decide (n = 1) := by rw [Bool.eq_iff_iff]; simp
   have e2 : decide ((ns.length : Int) ≤ 128) = decide (ns.length ≤ 128) := by rw [decide_eq_decide]; omega
   rw [e1, e2]
   cases listB ns is <;> cases decide (n = 1) <;> cases decide (ns.length ≤ 128) <;> rfl
end Go.Ai.Rab
end
section
/- Plain, plainly: which file systems may be. -/
set_option linter.unusedVariables false
set_option linter.unusedSimpArgs false
set_option maxRecDepth 10000
open Go.Ai.Enc (enc is)
namespace Go.Ai.Rab
/-! ### Inodes in their row -/
def noI : InodeR := Rec.mk (0, 0, 0, 0, [], str [], [], [], [], ())
def inAt (l : List InodeR) (i : Nat) : InodeR := l.getD i noI
theorem nthIn {l : List InodeR} {i : Nat} (h : i < l.length) : nth l (i : Int) = some (inAt l i) := nthD noI h
theorem inAt_get {l : List InodeR} {i : Nat} (h : i < l.length) : inAt l i = l[i] := by unfold inAt; simp only [List.getD_eq_getElem?_getD, List.getElem?_eq_getElem h, Option.getD_some]
theorem inAt_mem {l : List InodeR} {i : Nat} (h : i < l.length) : inAt l i ∈ l := by rw [inAt_get h]; exact List.getElem_mem h
def posI (l : List InodeR) (n : Int) : Option Nat := (List.range' 0 l.length).find? fun i => (inAt l i).v.1 == n
def fndI (l : List InodeR) (n : Int) : Int := match posI l n with | some k => (k : Int) | none => -1
theorem Find_eq {f : FsR} (hl : f.v.1.length < 9000000000000000000) (n : Int) : plain_Find f n = some (fndI f.v.1 n) := by
 have h := loop_first (body := sl_IndexFunc1_l1 f.v.1 (Clo.mk ((PtrC.mk n : PtrC Int), ()) : Clo 31 ((PtrC Int) × Unit))) f.v.1.length (fun i => (inAt f.v.1 i).v.1 == n) (fun i hi => by
  refine (if_pos (decide_eq_true (show (i : Int) < (f.v.1.length : Int) by omega))).trans ?_
  refine (bds (nthIn hi)).trans ?_
  refine (bds (x := ((inAt f.v.1 i).v.1 == n)) rfl).trans ?_
  rw [lim (by omega)]) (if_neg (by simp)) f.v.1.length 0 (by omega)
 have e0 : sl_IndexFunc1 f.v.1 (Clo.mk ((PtrC.mk n : PtrC Int), ()) : Clo 31 ((PtrC Int) × Unit)) = _ := bds h
 refine (bds (e0.trans ?_)).trans rfl
 unfold fndI posI
 cases (List.range' 0 f.v.1.length).find? (fun i => (inAt f.v.1 i).v.1 == n) <;> rfl
theorem posI_some {l : List InodeR} {n : Int} {k : Nat} (h : posI l n = some k) : k < l.length ∧ (inAt l k).v.1 = n := by
 unfold posI at h
 have h1 := List.find?_some h
 have h2 := List.mem_of_find?_eq_some h
 simp only [List.mem_range'_1] at h2
 exact ⟨by omega, by simpa using h1⟩
theorem posI_none {l : List InodeR} {n : Int} (h : posI l n = none) : ∀ i, i < l.length → (inAt l i).v.1 ≠ n := by
 intro i hi e
 unfold posI at h
 rw [List.find?_eq_none] at h
 exact h i (by simp [List.mem_range'_1, hi]) (by simpa using e)
/-! ### Maps -/
theorem mget_mput {V : Type} : ∀ (m : List (Int × V)) (i k : Int) (x : V), mget (mput m i x) k = if k = i then some x else mget m k
 | [], i, k, x => by
  unfold mput mget mget
  by_cases h : k = i
  ·rw [if_pos h.symm, if_pos h]
  ·rw [if_neg (fun e => h e.symm), if_neg h]
 | (j, v) :: m, i, k, x => by
  unfold mput
  by_cases h : j = i
  ·rw [if_pos h]
   unfold mget
   by_cases h2 : k = i
   ·rw [if_pos h2.symm, if_pos h2]
   ·rw [if_neg (fun e => h2 e.symm), if_neg h2, if_neg (fun e => h2 (by rw [← e, h]))]
  ·rw [if_neg h]
   unfold mget
   by_cases h2 : j = k
   ·rw [if_pos h2, if_neg (fun e => h (by rw [h2, e])), if_pos h2]
   ·rw [if_neg h2, mget_mput m i k x, if_neg h2]
theorem mem_mput {V : Type} : ∀ (m : List (Int × V)) (i n : Int) (x : V), (∃ v, (n, v) ∈ mput m i x) ↔ n = i ∨ ∃ v, (n, v) ∈ m
 | [], i, n, x => by simp [mput]
 | (j, v) :: m, i, n, x => by
  unfold mput
  by_cases h : j = i
  ·rw [if_pos h]
   subst h
   constructor
   ·rintro ⟨w, hw⟩
    rcases List.mem_cons.1 hw with hw | hw
    ·injection hw with e1 e2; exact .inl e1
    ·exact .inr ⟨w, List.mem_cons_of_mem _ hw⟩
   ·rintro (rfl | ⟨w, hw⟩)
    ·exact ⟨x, List.mem_cons_self⟩
    ·rcases List.mem_cons.1 hw with hw | hw
     ·injection hw with e1 e2; subst e1; exact ⟨x, List.mem_cons_self⟩
     ·exact ⟨w, List.mem_cons_of_mem _ hw⟩
  ·rw [if_neg h]
   have ih := mem_mput m i n x
   constructor
   ·rintro ⟨w, hw⟩
    rcases List.mem_cons.1 hw with hw | hw
    ·exact .inr ⟨w, by rw [hw]; exact List.mem_cons_self⟩
    ·rcases ih.1 ⟨w, hw⟩ with h1 | ⟨u, hu⟩
     ·exact .inl h1
     ·exact .inr ⟨u, List.mem_cons_of_mem _ hu⟩
   ·rintro (h1 | ⟨w, hw⟩)
    ·obtain ⟨u, hu⟩ := ih.2 (.inl h1); exact ⟨u, List.mem_cons_of_mem _ hu⟩
    ·rcases List.mem_cons.1 hw with hw | hw
     ·exact ⟨w, by rw [hw]; exact List.mem_cons_self⟩
     ·obtain ⟨u, hu⟩ := ih.2 (.inr ⟨w, hw⟩); exact ⟨u, List.mem_cons_of_mem _ hu⟩
/-! ### Where numbers stand -/
def upsX (x : InodeR) (l : List Int) (k : Int) : List Int := (l.filter (· == k)).map fun _ => x.v.1
def upsL (l : List InodeR) (k : Int) : List Int := l.flatMap fun x => upsX x x.v.2.2.2.2.2.2.2.1 k
def numsL (l : List InodeR) : List Int := l.flatMap fun x => x.v.2.2.2.2.2.2.2.1
theorem upsX_len (x : InodeR) (l : List Int) (k : Int) : (upsX x l k).length ≤ l.length := by unfold upsX; rw [List.length_map]; exact List.length_filter_le _ _
theorem upsL_len (k : Int) : ∀ (l : List InodeR), (∀ x ∈ l, x.v.2.2.2.2.2.2.2.1.length ≤ 200) → (upsL l k).length ≤ 200 * l.length
 | [], _ => by simp [upsL]
 | x :: l, h => by
  have h1 := upsL_len k l (fun y hy => h y (List.mem_cons_of_mem _ hy))
  have h2 := upsX_len x x.v.2.2.2.2.2.2.2.1 k
  have h3 := h x List.mem_cons_self
  unfold upsL at h1 ⊢
  rw [List.flatMap_cons, List.length_append, List.length_cons]
  omega
theorem ups_in {x : InodeR} (hx : x.v.2.2.2.2.2.2.2.1.length ≤ 200) (m0 : List (Int × List Int)) (base : Int → List Int) (S : List Int) (hb : ∀ k, (base k).length ≤ 200000) (h0 : ∀ k, (mget m0 k).getD [] = base k) (hk : ∀ n, (∃ v, (n, v) ∈ m0) ↔ n ∈ S) :
  ∃ m, loop (plain_ups_l2 x) (m0, 0) = some m ∧ (∀ k, (mget m k).getD [] = base k ++ upsX x x.v.2.2.2.2.2.2.2.1 k) ∧ ∀ n, (∃ v, (n, v) ∈ m) ↔ n ∈ S ++ x.v.2.2.2.2.2.2.2.1 := by
 generalize hns : x.v.2.2.2.2.2.2.2.1 = ns at *
 refine loop_keep (body := plain_ups_l2 x) ns.length (fun j m => (∀ k, (mget m k).getD [] = base k ++ upsX x (ns.take j) k) ∧ ∀ n, (∃ v, (n, v) ∈ m) ↔ n ∈ S ++ ns.take j) _ (fun i m hi hI => ?_) (fun m hI => ?_) 0 m0 (by omega) ?_
 ·obtain ⟨I1, I2⟩ := hI
  have hn : nth ns (i : Int) = some ns[i] := nth_get hi
  have hlen : ((mget m ns[i]).getD []).length ≤ 200200 := by
   rw [I1, List.length_append]
   have := hb ns[i]
   have h2 := upsX_len x (ns.take i) ns[i]
   rw [List.length_take] at h2
   omega
  refine ⟨mput m ns[i] ((mget m ns[i]).getD [] ++ [x.v.1]), ?_, ?_, ?_⟩
  ·show (if decide ((i : Int) < (x.v.2.2.2.2.2.2.2.1.length : Int)) = true then ((nth x.v.2.2.2.2.2.2.2.1 (i : Int)).bind fun v3 => ((app 8 ((mget m v3).getD []) [x.v.1]).bind fun l => some (Sum.inl ((mput m v3 l), (IntKind.i64.wrap ((i : Int) + 1)))))) else some (Sum.inr m)) = _
   rw [hns, if_pos (decide_eq_true (by omega))]
   refine (bds hn).trans ((bds (app_ok _ [x.v.1] (by simp only [List.length_singleton]; omega) (by simp only [List.length_singleton]; omega))).trans ?_)
   rw [lim (by omega)]
  ·intro k
   rw [mget_mput]
   have ht : ns.take (i + 1) = ns.take i ++ [ns[i]] := by rw [List.take_add_one, List.getElem?_eq_getElem hi]; rfl
   rw [ht]
   unfold upsX
   rw [List.filter_append, List.map_append]
   by_cases e : k = ns[i]
   ·rw [if_pos e, Option.getD_some, I1, ← e]
    have : ([k] : List Int).filter (· == k) = [k] := by simp
    rw [this, ← List.append_assoc]; rfl
   ·rw [if_neg e, I1]
    have : ([ns[i]] : List Int).filter (· == k) = [] := by simp; exact fun e' => e e'.symm
    rw [this, List.map_nil, List.append_nil]; rfl
  ·intro n
   rw [mem_mput, I2]
   have ht : ns.take (i + 1) = ns.take i ++ [ns[i]] := by rw [List.take_add_one, List.getElem?_eq_getElem hi]; rfl
   rw [ht, ← List.append_assoc]
   simp only [List.mem_append, List.mem_singleton]
   constructor
   ·rintro (h | h)
    ·exact .inr h
    ·exact .inl h
   ·rintro (h | h)
    ·exact .inr h
    ·exact .inl h
 ·refine ⟨m, ?_, ?_⟩
  ·show (if decide ((ns.length : Int) < (x.v.2.2.2.2.2.2.2.1.length : Int)) = true then _ else some (Sum.inr m)) = _
   rw [hns, if_neg (by simp)]
  ·rw [List.take_length] at hI; exact hI
 ·refine ⟨fun k => ?_, fun n => ?_⟩
  ·rw [h0]; simp [upsX]
  ·rw [hk]; simp
theorem ups_some {f : FsR} (hl : f.v.1.length ≤ 512) (hx : ∀ x ∈ f.v.1, x.v.2.2.2.2.2.2.2.1.length ≤ 200) : ∃ m, plain_ups f = some m ∧ (∀ k, (mget m k).getD [] = upsL f.v.1 k) ∧ ∀ n, (∃ v, (n, v) ∈ m) ↔ n ∈ numsL f.v.1 := by
 generalize hf : f.v.1 = l at *
 obtain ⟨m, h1, h2, h3⟩ := loop_keep (body := plain_ups_l1 f) l.length (fun i m => (∀ k, (mget m k).getD [] = upsL (l.take i) k) ∧ ∀ n, (∃ v, (n, v) ∈ m) ↔ n ∈ numsL (l.take i)) (fun m => (∀ k, (mget m k).getD [] = upsL l k) ∧ ∀ n, (∃ v, (n, v) ∈ m) ↔ n ∈ numsL l) (fun i m hi hI => by
   obtain ⟨I1, I2⟩ := hI
   have hb : ∀ k, (upsL (l.take i) k).length ≤ 200000 := fun k => by
    have h1 := upsL_len k (l.take i) (fun x hx' => hx x (List.mem_of_mem_take hx'))
    rw [List.length_take] at h1
    omega
   obtain ⟨m', g1, g2, g3⟩ := ups_in (hx l[i] (List.getElem_mem hi)) m _ _ hb I1 I2
   have ht : l.take (i + 1) = l.take i ++ [l[i]] := by rw [List.take_add_one, List.getElem?_eq_getElem hi]; rfl
   refine ⟨m', ?_, ?_, ?_⟩
   ·show (if decide ((i : Int) < (f.v.1.length : Int)) = true then ((nth f.v.1 (i : Int)).bind fun v1 => ((loop (plain_ups_l2 v1) (m, 0)).bind (plain_ups_a2 (i : Int)))) else some (Sum.inr m)) = _
    rw [hf, if_pos (decide_eq_true (by omega))]
    refine (bds (nth_get hi)).trans ((bds g1).trans ?_)
    show some (Sum.inl (m', IntKind.i64.wrap ((i : Int) + 1))) = _
    rw [lim (by omega)]
   ·intro k
    rw [g2, ht]
    unfold upsL
    rw [List.flatMap_append, List.flatMap_cons, List.flatMap_nil, List.append_nil]
   ·intro n
    rw [g3, ht]
    unfold numsL
    rw [List.flatMap_append, List.flatMap_cons, List.flatMap_nil, List.append_nil]) (fun m hI => by
   refine ⟨m, ?_, ?_⟩
   ·show (if decide ((l.length : Int) < (f.v.1.length : Int)) = true then _ else some (Sum.inr m)) = _
    rw [hf, if_neg (by simp)]
   ·rw [List.take_length] at hI; exact hI) 0 [] (by omega) ⟨fun k => by simp [upsL, mget], fun n => by simp [numsL]⟩
 exact ⟨m, bds h1, h2, h3⟩
def endsF (l : List InodeR) : Nat → Int → Bool
 | 0, _ => false
 | d + 1, n => match upsL l n with
  | [] => true
  | p :: _ => endsF l d p
theorem ends_loop {m : List (Int × List Int)} {l : List InodeR} (hm : ∀ k, (mget m k).getD [] = upsL l k) (most : Nat) (hmost : most ≤ 10000) : ∀ (d v : Nat) (n : Int), v + d = most + 1 → loop (plain_ends_l1 (most : Int) m) (n, (v : Int)) = some (if endsF l d n = true then .inr true else .inl ())
 | 0, v, n, hv => by
  refine loop_done ?_
  show (if decide ((v : Int) < IntKind.i64.wrap ((most : Int) + 1)) = true then _ else _) = _
  rw [lim (by omega), if_neg (by simp; omega)]; rfl
 | d + 1, v, n, hv => by
  have e0 : plain_ends_l1 (most : Int) m (n, (v : Int)) = if ((((mget m n).getD []).length : Int) == 0) = true then some (.inr (.inr true)) else ((nth ((mget m n).getD []) 0).bind fun v2 => some (.inl (v2, (IntKind.i64.wrap ((v : Int) + 1))))) := by
   show (if decide ((v : Int) < IntKind.i64.wrap ((most : Int) + 1)) = true then _ else _) = _
   rw [lim (by omega), if_pos (decide_eq_true (by omega))]
  rw [hm] at e0
  unfold endsF
  cases hu : upsL l n with
  | nil =>
   rw [hu] at e0
   exact loop_done e0
  | cons p q =>
   rw [hu] at e0
   have e0 := e0.trans ((if_neg (show ¬ ((((p :: q).length : Nat) : Int) == 0) = true by simp; omega)).trans (bds (x := p) rfl))
   rw [lim (by omega)] at e0
   rw [loop_next e0]
   exact ends_loop hm most hmost d (v + 1) p (by omega)
theorem ends_eq {m : List (Int × List Int)} {l : List InodeR} (hm : ∀ k, (mget m k).getD [] = upsL l k) (most : Nat) (hmost : most ≤ 10000) (n : Int) : plain_ends m n (most : Int) = some (endsF l (most + 1) n) := by
 refine (bds (ends_loop hm most hmost (most + 1) 0 n (by omega))).trans ?_
 cases endsF l (most + 1) n <;> rfl
/-! ### Check -/
def hdB (l : List InodeR) (nx : Int) : Bool := decide (l.length ≠ 0 ∧ l.length ≤ 512) && (decide ((inAt l 0).v.1 = 1) && (decide ((inAt l 0).v.2.1 = 2) && decide (2 ≤ nx ∧ nx ≤ 513)))
def sorP (l : List InodeR) (i : Nat) : Bool := aloneB (inAt l i) && !(decide (0 < i) && decide ((inAt l (i - 1)).v.1 ≥ (inAt l i).v.1))
def knB (l : List InodeR) (k : Int) : Bool := (List.range' 0 l.length).any fun i => (inAt l i).v.1 == k
def cndX (l : List InodeR) (x : InodeR) : Bool := if x.v.2.1 != 2 then decide (((upsL l x.v.1).length : Int) = x.v.2.2.2.1) else decide ((upsL l x.v.1).length ≤ 1) && (!(decide (0 < (upsL l x.v.1).length) && decide (x.v.1 = 1)) && endsF l (l.length + 1) x.v.1)
def chkL (l : List InodeR) (nx : Int) : Bool := hdB l nx && ((List.range' 0 l.length).all (sorP l) && ((numsL l).all (knB l) && (List.range' 0 l.length).all fun i => cndX l (inAt l i)))
theorem knB_iff {l : List InodeR} {k : Int} : knB l k = true ↔ ∃ i, i < l.length ∧ (inAt l i).v.1 = k := by
 unfold knB
 rw [List.any_eq_true]
 constructor
 ·rintro ⟨i, hi, h⟩
  simp only [List.mem_range'_1] at hi
  exact ⟨i, by omega, by simpa using h⟩
 ·rintro ⟨i, hi, h⟩
  exact ⟨i, by simp [List.mem_range'_1, hi], by simpa using h⟩
theorem loop_acc {σ ρ : Type} {body : σ × Int → Option ((σ × Int) ⊕ (σ ⊕ ρ))} (n : Nat) (p : Nat → Bool) (J : Nat → σ → Prop) (r0 : ρ) (h : ∀ i s, i < n → J i s → (p i = true → ∃ s', body (s, (i : Int)) = some (.inl (s', ((i + 1 : Nat) : Int))) ∧ J (i + 1) s') ∧ (p i = false → body (s, (i : Int)) = some (.inr (.inr r0))))
  (he : ∀ s, body (s, (n : Int)) = some (.inr (.inl s))) : ∀ d i s, i + d = n → J i s → ∃ s', ((List.range' i d).all p = true → J n s') ∧ loop body (s, (i : Int)) = some (if (List.range' i d).all p = true then .inl s' else .inr r0)
 | 0, i, s, hi, hJ => by
  have : i = n := by omega
  subst this
  exact ⟨s, fun _ => hJ, loop_done (he s)⟩
 | d + 1, i, s, hi, hJ => by
  obtain ⟨h1, h2⟩ := h i s (by omega) hJ
  rw [List.range'_succ, List.all_cons]
  cases hp : p i with
  | false => exact ⟨s, fun e => by simp at e, loop_done (h2 hp)⟩
  | true =>
   obtain ⟨s1, g1, g2⟩ := h1 hp
   obtain ⟨s', g3, g4⟩ := loop_acc n p J r0 h he d (i + 1) s1 (by omega) g2
   exact ⟨s', by rw [Bool.true_and]; exact g3, by rw [loop_next g1, Bool.true_and]; exact g4⟩
def smallL (l : List InodeR) : Prop := l.length ≤ 2000000 ∧ ∀ x ∈ l, smallI x
theorem alone_nums {x : InodeR} (h : aloneB x = true) : x.v.2.2.2.2.2.2.2.1.length ≤ 200 ∧ x.v.2.2.2.2.2.2.1.length = x.v.2.2.2.2.2.2.2.1.length := by
 unfold aloneB at h
 simp only [Bool.and_eq_true] at h
 obtain ⟨_, _, _, h⟩ := h
 split at h
 ·have := of_decide_eq_true h
  omega
 ·simp only [Bool.and_eq_true, decide_eq_true_eq] at h
  unfold listB at h
  simp only [Bool.and_eq_true, decide_eq_true_eq] at h
  omega
theorem sor_in {l : List InodeR} {i : Nat} (h : i < l.length) (hl : l.length ≤ 512) :
  (if decide ((i : Int) > 0) = true then ((nth l (IntKind.i64.wrap ((i : Int) - 1))).bind fun v5 => some (decide (v5.v.1 ≥ (inAt l i).v.1))) else some false) = some (decide (0 < i) && decide ((inAt l (i - 1)).v.1 ≥ (inAt l i).v.1)) := by
 by_cases h0 : 0 < i
 ·have hw : IntKind.i64.wrap ((i : Int) - 1) = ((i - 1 : Nat) : Int) := by rw [i64w (by omega)]; omega
  rw [if_pos (decide_eq_true (by omega)), hw, decide_eq_true h0, Bool.true_and]
  exact bds (nthIn (by omega))
 ·rw [if_neg (by simp; omega), decide_eq_false h0, Bool.false_and]
theorem cnd_loop {f : FsR} {m : List (Int × List Int)} (hl : f.v.1.length ≤ 512) (hm : ∀ k, (mget m k).getD [] = upsL f.v.1 k) :
  loop (plain_Check_l3 f m) 0 = some (if (List.range' 0 f.v.1.length).all (fun i => cndX f.v.1 (inAt f.v.1 i)) then .inl () else .inr false) := by
 refine loop_all (body := plain_Check_l3 f m) f.v.1.length (fun i => cndX f.v.1 (inAt f.v.1 i)) false (fun i hi => ?_) (if_neg (by simp)) 0 (Nat.zero_le _)
 refine (if_pos (decide_eq_true (show (i : Int) < (f.v.1.length : Int) by omega))).trans ?_
 refine (bds (nthIn hi)).trans ?_
 rw [hm, ends_eq hm f.v.1.length (by omega), lim (by omega)]
 generalize inAt f.v.1 i = x
 unfold cndX
 generalize hu : upsL f.v.1 x.v.1 = u
 have e1 : ((u.length : Int) != x.v.2.2.2.1) = !decide ((u.length : Int) = x.v.2.2.2.1) := by rw [Bool.eq_iff_iff]; simp
 have e2 : decide ((u.length : Int) > 1) = !decide (u.length ≤ 1) := by rw [Bool.eq_iff_iff]; simp; omega
 have e3 : decide ((u.length : Int) > 0) = decide (0 < u.length) := by rw [decide_eq_decide]; omega
 have e4 : (x.v.1 == 1) = decide (x.v.1 = 1) := by rw [Bool.eq_iff_iff]; simp
 rw [e1, e2, e3, e4]
 by_cases hk : x.v.2.1 = 2
 ·have k1 : (x.v.2.1 != 2) = false := by simp [hk]
  have k2 : (x.v.2.1 == 2) = true := by simp [hk]
  rw [k1, k2]
  cases decide (u.length ≤ 1) <;> cases decide (0 < u.length) <;> cases decide (x.v.1 = 1) <;> cases endsF f.v.1 (f.v.1.length + 1) x.v.1 <;> rfl
 ·have k1 : (x.v.2.1 != 2) = true := by simpa using hk
  have k2 : (x.v.2.1 == 2) = false := by simpa using hk
  rw [k1, k2]
  cases decide ((u.length : Int) = x.v.2.2.2.1) <;> rfl
theorem known_range {f : FsR} {m : List (Int × List Int)} {kn : List (Int × Bool)} (hk : ∀ k, (mget kn k).getD false = true ↔ ∃ i, i < f.v.1.length ∧ (inAt f.v.1 i).v.1 = k) (hm : ∀ n, (∃ v, (n, v) ∈ m) ↔ n ∈ numsL f.v.1) :
  mrange m (plain_Check_l2 kn) = some (if (numsL f.v.1).all (knB f.v.1) = true then .inl () else .inr false) := by
 have e0 : ∀ k, plain_Check_l2 kn k = if knB f.v.1 k = true then some (.inl ()) else some (.inr false) := fun k => by
  show (if (!((mget kn k).getD false)) = true then _ else _) = _
  have : (mget kn k).getD false = knB f.v.1 k := by rw [Bool.eq_iff_iff, hk, knB_iff]
  rw [this]
  cases knB f.v.1 k <;> rfl
 refine mrange_of ?_
 cases hb : (numsL f.v.1).all (knB f.v.1) with
 | true =>
  refine .inl ⟨rfl, fun kv hkv => ?_⟩
  rw [e0, if_pos (List.all_eq_true.1 hb kv.1 ((hm kv.1).1 ⟨kv.2, hkv⟩))]
 | false =>
  refine .inr ⟨false, rfl, ?_, fun kv hkv => ?_⟩
  ·rw [List.all_eq_false] at hb
   obtain ⟨k, hk1, hk2⟩ := hb
   obtain ⟨v, hv⟩ := (hm k).2 hk1
   exact ⟨(k, v), hv, by rw [e0, if_neg hk2]⟩
  ·rw [e0]; split
   ·exact .inl rfl
   ·exact .inr rfl
theorem Check_eqL {f : FsR} (hs : smallL f.v.1) : plain_Check f = some (chkL f.v.1 f.v.2.1) := by
 obtain ⟨hs1, hs2⟩ := hs
 have g0 : (if ((f.v.1.length : Int) == 0) = true then some true else some (decide ((f.v.1.length : Int) > 512))) = some (!decide (f.v.1.length ≠ 0 ∧ f.v.1.length ≤ 512)) := by
  by_cases h : f.v.1.length = 0
  ·rw [if_pos (by simp [h]), decide_eq_false (by omega)]; rfl
  ·rw [if_neg (by simp; intro e; exact h (by rw [e]; rfl))]
   by_cases h2 : f.v.1.length ≤ 512
   ·rw [decide_eq_false (by omega), decide_eq_true ⟨h, h2⟩]; rfl
   ·rw [decide_eq_true (by omega), decide_eq_false (by omega)]; rfl
 have e0 : plain_Check f = _ := bds g0
 by_cases hsz : f.v.1.length ≠ 0 ∧ f.v.1.length ≤ 512
 ·rw [decide_eq_true hsz] at e0
  have hn0 : nth f.v.1 0 = some (inAt f.v.1 0) := nthIn (i := 0) (by omega)
  have e0 := e0.trans (bds (x := !decide ((inAt f.v.1 0).v.1 = 1)) (by
   rw [if_neg (by decide), hn0]
   show some ((inAt f.v.1 0).v.1 != 1) = _
   congr 1))
  have e0 := e0.trans (bds (x := !(decide ((inAt f.v.1 0).v.1 = 1) && decide ((inAt f.v.1 0).v.2.1 = 2))) (by
   rw [hn0]
   show (if (!decide ((inAt f.v.1 0).v.1 = 1)) = true then some true else some ((inAt f.v.1 0).v.2.1 != 2)) = _
   have : ((inAt f.v.1 0).v.2.1 != 2) = !decide ((inAt f.v.1 0).v.2.1 = 2) := by rw [Bool.eq_iff_iff]; simp
   rw [this]
   cases decide ((inAt f.v.1 0).v.1 = 1) <;> rfl))
  generalize hd0 : decide ((inAt f.v.1 0).v.1 = 1) = d1 at e0
  generalize hd1 : decide ((inAt f.v.1 0).v.2.1 = 2) = d2 at e0
  have g3 : ∀ x : Bool, ((if (!x) = true then some true else some (decide (f.v.2.1 < 2))).bind fun b3 => (if b3 = true then some true else some (decide (f.v.2.1 > 513)))) = some (!(x && decide (2 ≤ f.v.2.1 ∧ f.v.2.1 ≤ 513))) := fun x => by
   cases x with
   | false => rfl
   | true =>
    rw [if_neg (by decide), bd, Bool.true_and]
    by_cases hn : f.v.2.1 < 2
    ·rw [if_pos (decide_eq_true hn), decide_eq_false (by omega)]; rfl
    ·rw [if_neg (by simpa using hn)]
     by_cases hn2 : f.v.2.1 > 513
     ·rw [decide_eq_true hn2, decide_eq_false (by omega)]; rfl
     ·rw [decide_eq_false hn2, decide_eq_true (by omega)]; rfl
  rw [← Option.bind_assoc, g3] at e0
  refine e0.trans ?_
  have hhd : hdB f.v.1 f.v.2.1 = ((d1 && d2) && decide (2 ≤ f.v.2.1 ∧ f.v.2.1 ≤ 513)) := by
   unfold hdB
   rw [decide_eq_true hsz, Bool.true_and, hd0, hd1, Bool.and_assoc]
  unfold chkL
  rw [bd, hhd]
  cases ((d1 && d2) && decide (2 ≤ f.v.2.1 ∧ f.v.2.1 ≤ 513)) with
  | false => rfl
  | true =>
   rw [if_neg (by decide), Bool.true_and]
   obtain ⟨kn, k1, k2⟩ := loop_acc (body := plain_Check_l1 f) f.v.1.length (sorP f.v.1) (fun i s => (∀ k, (mget s k).getD false = true ↔ ∃ j, j < i ∧ (inAt f.v.1 j).v.1 = k)) false (fun i s hi hJ => by
    have e0 : plain_Check_l1 f (s, (i : Int)) = _ := if_pos (decide_eq_true (show (i : Int) < (f.v.1.length : Int) by omega))
    have e0 := e0.trans ((bds (nthIn hi)).trans (bds (right_eq (hs2 _ (inAt_mem hi)))))
    have e0 := e0.trans (bds (x := !sorP f.v.1 i) (by
     rw [sor_in hi hsz.2]
     unfold sorP
     generalize (decide (0 < i) && decide ((inAt f.v.1 (i - 1)).v.1 ≥ (inAt f.v.1 i).v.1)) = q
     cases aloneB (inAt f.v.1 i) <;> cases q <;> rfl))
    rw [lim (by omega)] at e0
    refine ⟨fun hp => ?_, fun hp => ?_⟩
    ·rw [hp] at e0
     refine ⟨_, e0.trans (if_neg (by decide)), fun k => ?_⟩
     rw [mget_mput]
     by_cases e : k = (inAt f.v.1 i).v.1
     ·rw [if_pos e]
      exact ⟨fun _ => ⟨i, by omega, e.symm⟩, fun _ => rfl⟩
     ·rw [if_neg e, hJ]
      constructor
      ·rintro ⟨j, h1, h2⟩; exact ⟨j, by omega, h2⟩
      ·rintro ⟨j, h1, h2⟩
       refine ⟨j, ?_, h2⟩
       have : j ≠ i := fun e' => e (by rw [← h2, e'])
       omega
    ·rw [hp] at e0
     exact e0.trans (if_pos rfl)) (fun s => if_neg (by simp)) f.v.1.length 0 [] (by omega) (fun k => ⟨fun h => by simp [mget] at h, fun ⟨j, h, _⟩ => by omega⟩)
   refine (bds k2).trans ?_
   cases hsor : (List.range' 0 f.v.1.length).all (sorP f.v.1) with
   | false => rfl
   | true =>
    rw [if_pos rfl, Bool.true_and]
    have hal : ∀ x ∈ f.v.1, x.v.2.2.2.2.2.2.2.1.length ≤ 200 := fun x hx => by
     obtain ⟨i, hi, rfl⟩ := List.getElem_of_mem hx
     have := range_all.1 hsor i hi
     unfold sorP at this
     simp only [Bool.and_eq_true] at this
     have h2 := (alone_nums this.1).1
     rwa [inAt_get hi] at h2
    obtain ⟨m, m1, m2, m3⟩ := ups_some hsz.2 hal
    show ((plain_ups f).bind fun r_1 => ((mrange r_1 (plain_Check_l2 kn)).bind (plain_Check_a2 f r_1))) = _
    refine (bds m1).trans ((bds (known_range (k1 hsor) m3)).trans ?_)
    cases hkn : (numsL f.v.1).all (knB f.v.1) with
    | false => rfl
    | true =>
     rw [if_pos rfl, Bool.true_and]
     show ((loop (plain_Check_l3 f m) 0).bind plain_Check_a3) = _
     refine (bds (cnd_loop hsz.2 m2)).trans ?_
     cases (List.range' 0 f.v.1.length).all (fun i => cndX f.v.1 (inAt f.v.1 i)) <;> rfl
 ·have : chkL f.v.1 f.v.2.1 = false := by unfold chkL hdB; rw [decide_eq_false hsz]; rfl
  rw [decide_eq_false hsz] at e0
  rw [this]
  exact e0.trans rfl
end Go.Ai.Rab
end
