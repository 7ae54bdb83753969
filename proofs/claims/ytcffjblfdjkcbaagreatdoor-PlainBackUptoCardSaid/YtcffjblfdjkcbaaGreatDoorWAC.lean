/- My own texts DevAi13, DevAi14, DevAi15, DevAi16, DevAi17, DevAi18, one behind the other. -/
import Derived.Test.YtcffjblfdjkcbaaGreatDoorWAB
import Derived.LoopN
import Derived.Scope
import Derived.IntWalk
import Derived.Laws.Bits64
section
/- Regions in order, code, results. -/
set_option linter.unusedVariables false
set_option linter.unusedSimpArgs false
namespace Go.Ai
section
variable {P : Program} {base : Nat} {ρ : Pl} {X U : Reg} {c : Nat} {s s' : St} {w : World}

def PostF (base : Nat) (ρ : Pl) (X : Reg) (s : St) (w : World) (fr' : List AV) (s' : St) (a' : Act) (w' : World) : Prop :=
 ∃ ρ' : Pl, (∀ n, n < s.c → ρ' n = ρ n) ∧ s.c ≤ s'.c ∧ Sim base ρ' X s' w' ∧ RelL w' ρ' (UX ρ' s'.h X) s'.c fr' a'.tmps.toList ∧ Fr (Umap ρ s.h) w w' ∧ (∀ b j, b < w.heap.size → Umap ρ' s'.h b j → Umap ρ s.h b j) ∧ a'.defers = []
theorem PostF.refl {fr : List AV} {a : Act} (h : Sim base ρ X s w) (hf : RelL w ρ (UX ρ s.h X) s.c fr a.tmps.toList) (hd : a.defers = []) : PostF base ρ X s w fr s a w :=
 ⟨ρ, fun _ _ => rfl, Nat.le_refl _, h, hf, Fr.refl _ _, fun _ _ _ hj => hj, hd⟩
theorem PostF.trans {fr1 fr2 : List AV} {s1 s2 : St} {a1 a2 : Act} {w1 w2 : World} (h : PostF base ρ X s w fr1 s1 a1 w1)
  (k : ∀ ρ1, Sim base ρ1 X s1 w1 → RelL w1 ρ1 (UX ρ1 s1.h X) s1.c fr1 a1.tmps.toList → a1.defers = [] → PostF base ρ1 X s1 w1 fr2 s2 a2 w2) : PostF base ρ X s w fr2 s2 a2 w2 := by
 obtain ⟨ρ1, h1, h2, h3, h4, h5, h6, h7⟩ := h
 obtain ⟨ρ2, k1, k2, k3, k4, k5, k6, k7⟩ := k ρ1 h3 h4 h7
 exact ⟨ρ2, fun n hn => (k1 n (Nat.lt_of_lt_of_le hn h2)).trans (h1 n hn), Nat.le_trans h2 k2, k3, k4, h5.trans k5 h6, fun b j hb hj => h6 b j hb (k6 b j (Nat.lt_of_lt_of_le hb h5.size) hj), k7⟩
theorem PostF.cons {fr2 : List AV} {s1 s2 : St} {a2 : Act} {w1 w2 : World} {ρ1 : Pl} (h1 : ∀ n, n < s.c → ρ1 n = ρ n) (h2 : s.c ≤ s1.c) (h5 : Fr (Umap ρ s.h) w w1) (h6 : ∀ b j, b < w.heap.size → Umap ρ1 s1.h b j → Umap ρ s.h b j)
  (k : PostF base ρ1 X s1 w1 fr2 s2 a2 w2) : PostF base ρ X s w fr2 s2 a2 w2 := by
 obtain ⟨ρ2, k1, k2, k3, k4, k5, k6, k7⟩ := k
 exact ⟨ρ2, fun n hn => (k1 n (Nat.lt_of_lt_of_le hn h2)).trans (h1 n hn), Nat.le_trans h2 k2, k3, k4, h5.trans k5 h6, fun b j hb hj => h6 b j hb (k6 b j (Nat.lt_of_lt_of_le hb h5.size) hj), k7⟩
theorem Post.frame {fr : List AV} {a : Act} {v : AV} {v' : Value} {w' : World} {dst : Option Tmp} (h : Sim base ρ X s w) (hf : RelL w ρ (UX ρ s.h X) s.c fr a.tmps.toList) (hd : a.defers = []) (hp : Post base ρ X s w v s' v' w') :
  PostF base ρ X s w (aPut fr dst v) s' (a.put dst v') w' := by
 obtain ⟨ρ', h3, h4, hm, h1, h5, h6⟩ := hp.mono_of h
 refine ⟨ρ', h1, hm.le, h3, aPut_rel (RelL.mono hm _ _ hf) dst h4, h5, h6, ?_⟩
 cases dst <;> exact hd

theorem aYield_eq {ops : Array Oper} {fr : List AV} {a : Act} (hf : RelL w ρ U c fr a.tmps.toList) : aYield ops fr = yielded ops a.tmps := by
 funext j
 unfold aYield yielded
 cases hd : (ops[j]?).bind (·.dst) with
 | none => rfl
 | some t =>
  simp only [Option.bind_some]
  cases hx : fr[t]? with
  | none =>
   have : a.tmps[t]? = none := by
    have hl := hf.length
    simp only [Array.length_toList] at hl
    rw [List.getElem?_eq_none_iff] at hx
    rw [Array.getElem?_eq_none_iff]; omega
   rw [this]
  | some x =>
   obtain ⟨v, hv, hr⟩ := hf.get hx
   have hv' : a.tmps[t]? = some v := by simpa using hv
   rw [hv']
   cases x <;> simp only [Rel] at hr <;> first
    | (subst hr; rfl)
    | (obtain ⟨_, rfl⟩ := hr; rfl)
    | (obtain ⟨_, _, _, rfl, _⟩ := hr; rfl)
    | (obtain ⟨_, _, rfl, _⟩ := hr; rfl)
    | (obtain ⟨_, rfl, _⟩ := hr; rfl)

variable {call : FuncId → List AV → St → Option (AV × St)}

theorem aOps_wp (hcall : CallOk P base call) {ops : Array Oper} {Q : Exit → Act → World → Prop} : ∀ (l : List Oper) (i : Nat), ops.toList.drop i = l → ∀ {fr fr' : List AV} {s s' : St} {a : Act} {w : World} {ρ : Pl}, base ≤ w.heap.size → Sim base ρ X s w → RelL w ρ (UX ρ s.h X) s.c fr a.tmps.toList → a.defers = [] →
  aOps P call ops l fr s = some (fr', s') → (∀ a' w', PostF base ρ X s w fr' s' a' w' → Q .normal a' w') → wpOps P ops Q (List.range' i l.length) a w
 | [], i, hi, fr, fr', s, s', a, w, ρ, hb, h, hf, hd, ho, hQ => by
  simp only [aOps] at ho
  injection ho with ho; injection ho with e1 e2; subst e1; subst e2
  exact hQ a w (.refl h hf hd)
 | o :: l, i, hi, fr, fr', s, s', a, w, ρ, hb, h, hf, hd, ho, hQ => by
  have hoi : ops[i]? = some o := by
   have : (ops.toList.drop i)[0]? = some o := by rw [hi]; rfl
   rw [List.getElem?_drop] at this
   simpa using this
  have hnext : ops.toList.drop (i + 1) = l := by
   have : (ops.toList.drop i).drop 1 = l := by rw [hi]; rfl
   rwa [List.drop_drop] at this
  rw [List.length_cons, List.range'_succ, wpOps_cons]
  unfold wpOp
  simp only [hoi]
  have hy := aYield_eq (ops := ops) hf
  simp only [aOps, hy] at ho
  split
  ·rename_i hw
   rw [if_pos hw] at ho
   split at ho
   ·rename_i v s1 hop
    left
    refine op_wp hcall hb h hf hop fun v' w' hp => ?_
    have hpf := Post.frame (dst := o.dst) h hf hd hp
    obtain ⟨ρ1, h1, h2, h3, h4, h5, h6, h7⟩ := hpf
    exact aOps_wp hcall l (i + 1) hnext (Nat.le_trans hb h5.size) h3 h4 h7 ho fun a' w'' hq => hQ a' w'' (PostF.cons h1 h2 h5 h6 hq)
   ·cases ho
  ·rename_i hw
   rw [if_neg hw] at ho
   have hf' : RelL w ρ (UX ρ s.h X) s.c (aPut fr o.dst .undef) (a.put o.dst undef).tmps.toList := aPut_rel hf o.dst (by simp [Rel, RelL, undef])
   have hd' : (a.put o.dst undef).defers = [] := by cases o.dst <;> exact hd
   exact aOps_wp hcall l (i + 1) hnext hb h hf' hd' ho hQ

def exitOf : AExit → Exit
 | .normal => .normal
 | .exit id => .exit id
 | .ret => .ret

def DrawOk (P : Program) (base : Nat) (call : FuncId → List AV → St → Option (AV × St)) (prims : Prims) : Prop :=
 ∀ (ops : Array Oper) (Q : Exit → Act → World → Prop) (id : Nat) {fr fr' : List AV} {s s' : St} {a : Act} {w : World} {ρ : Pl} {X : Reg}, drawOk P ops = true → base ≤ w.heap.size → Sim base ρ X s w → RelL w ρ (UX ρ s.h X) s.c fr a.tmps.toList → a.defers = [] →
  aDraw P call prims ops (Region.before ops) (List.range ops.size) fr s = some (fr', s') → (∀ a' w', PostF base ρ X s w fr' s' a' w' → Q .normal a' w') → (Code.region id ops true).wp P Q a w

theorem aCode_wp (hcall : CallOk P base call) {prims : Prims} (hdraw : DrawOk P base call prims) : ∀ (n : Nat),
  (∀ {c : Code} {e : AExit} {fr fr' : List AV} {s s' : St} {a : Act} {w : World} {ρ : Pl} {Q : Exit → Act → World → Prop}, base ≤ w.heap.size → Sim base ρ X s w → RelL w ρ (UX ρ s.h X) s.c fr a.tmps.toList → a.defers = [] →
   aCode P call prims n c fr s = some (e, fr', s') → (∀ a' w', PostF base ρ X s w fr' s' a' w' → Q (exitOf e) a' w') → c.wp P Q a w) ∧
  (∀ {c : Code} {e : AExit} {fr fr' : List AV} {s s' : St} {a : Act} {w : World} {ρ : Pl} {Q : Exit → Act → World → Prop}, base ≤ w.heap.size → Sim base ρ X s w → RelL w ρ (UX ρ s.h X) s.c fr a.tmps.toList → a.defers = [] →
   aCode P call prims n (.loop c) fr s = some (e, fr', s') → (∀ a' w', PostF base ρ X s w fr' s' a' w' → Q (exitOf e) a' w') → Code.rounds P c Q n a w)
 | 0 => ⟨fun _ _ _ _ h => by simp [aCode] at h, fun _ _ _ _ h => by simp [aCode] at h⟩
 | n + 1 => by
  obtain ⟨ih1, ih2⟩ := aCode_wp hcall hdraw n
  have hloop : ∀ {c : Code} {e : AExit} {fr fr' : List AV} {s s' : St} {a : Act} {w : World} {ρ : Pl} {Q : Exit → Act → World → Prop}, base ≤ w.heap.size → Sim base ρ X s w → RelL w ρ (UX ρ s.h X) s.c fr a.tmps.toList → a.defers = [] →
    aCode P call prims (n + 1) (.loop c) fr s = some (e, fr', s') → (∀ a' w', PostF base ρ X s w fr' s' a' w' → Q (exitOf e) a' w') → Code.rounds P c Q (n + 1) a w := by
   intro c e fr fr' s s' a w ρ Q hb h hf hd ho hQ
   rw [rounds_succ]
   simp only [aCode] at ho
   split at ho
   ·rename_i fr1 s1 h1
    refine ih1 hb h hf hd h1 fun a1 w1 hp => ?_
    obtain ⟨ρ1, g1, g2, g3, g4, g5, g6, g7⟩ := hp
    exact ih2 (Nat.le_trans hb g5.size) g3 g4 g7 ho fun a' w' hq => hQ a' w' (PostF.cons g1 g2 g5 g6 hq)
   ·rename_i hno
    refine ih1 hb h hf hd ho fun a1 w1 hp => ?_
    cases e with
    | normal => exact absurd ho (hno _ _)
    | exit id => exact hQ _ _ hp
    | ret => exact hQ _ _ hp
  refine ⟨?_, hloop⟩
  intro c e fr fr' s s' a w ρ Q hb h hf hd ho hQ
  cases c with
  | skip =>
   simp only [aCode] at ho
   injection ho with ho; injection ho with e1 e2; injection e2 with e2 e3; subst e1; subst e2; subst e3
   exact wp_skip (hQ a w (.refl h hf hd))
  | region id ops draw =>
   cases draw with
   | false =>
    simp only [aCode, Option.map_eq_some_iff] at ho
    obtain ⟨⟨fr1, s1⟩, h1, ho⟩ := ho
    injection ho with e1 e2; injection e2 with e2 e3; subst e1; subst e2; subst e3
    have := aOps_wp hcall (Q := Q) ops.toList 0 rfl hb h hf hd h1 hQ
    exact wp_region (by simpa [List.range_eq_range'] using this)
   | true =>
    simp only [aCode] at ho
    split at ho
    ·rename_i hok
     simp only [Option.map_eq_some_iff] at ho
     obtain ⟨⟨fr1, s1⟩, h1, ho⟩ := ho
     injection ho with e1 e2; injection e2 with e2 e3; subst e1; subst e2; subst e3
     exact hdraw ops Q id hok hb h hf hd h1 hQ
    ·cases ho
  | seq x y =>
   simp only [aCode] at ho
   split at ho
   ·rename_i fr1 s1 h1
    refine wp_seq (ih1 hb h hf hd h1 fun a1 w1 hp => ?_)
    obtain ⟨ρ1, g1, g2, g3, g4, g5, g6, g7⟩ := hp
    exact ih1 (Nat.le_trans hb g5.size) g3 g4 g7 ho fun a' w' hq => hQ a' w' (PostF.cons g1 g2 g5 g6 hq)
   ·rename_i hno
    refine wp_seq (ih1 hb h hf hd ho fun a1 w1 hp => ?_)
    cases e with
    | normal => exact absurd ho (hno _ _)
    | exit id => exact hQ _ _ hp
    | ret => exact hQ _ _ hp
  | cond cc x y =>
   simp only [aCode] at ho
   split at ho
   ·rename_i hc
    have hr := aEval_rel hf hc
    simp only [Rel] at hr
    exact wp_cond_true hr (ih1 hb h hf hd ho hQ)
   ·rename_i hc
    have hr := aEval_rel hf hc
    simp only [Rel] at hr
    exact wp_cond_false hr (ih1 hb h hf hd ho hQ)
   ·cases ho
  | block id body =>
   simp only [aCode] at ho
   split at ho
   ·rename_i id' fr1 s1 h1
    injection ho with ho; injection ho with e1 e2; injection e2 with e2 e3; subst e2; subst e3
    refine wp_block (ih1 hb h hf hd h1 fun a1 w1 hp => ?_)
    show Exit.inBlock id Q (.exit id') a1 w1
    simp only [Exit.inBlock]
    split
    ·rename_i hid
     rw [if_pos hid] at e1; subst e1
     exact hQ _ _ hp
    ·rename_i hid
     rw [if_neg hid] at e1; subst e1
     exact hQ _ _ hp
   ·rename_i hno
    refine wp_block (ih1 hb h hf hd ho fun a1 w1 hp => ?_)
    cases e with
    | normal => exact hQ _ _ hp
    | exit id' => exact absurd ho (hno _ _ _)
    | ret => exact hQ _ _ hp
  | loop body => exact wp_loop_rounds (n + 1) (hloop hb h hf hd ho hQ)
  | scope body =>
   simp only [aCode] at ho
   refine wp_scope_straight (ih1 hb h hf hd ho fun a1 w1 hp => ?_)
   cases e <;> exact hQ _ _ hp
  | label l =>
   simp only [aCode] at ho
   injection ho with ho; injection ho with e1 e2; injection e2 with e2 e3; subst e1; subst e2; subst e3
   exact wp_label (hQ a w (.refl h hf hd))
  | exit id =>
   simp only [aCode] at ho
   injection ho with ho; injection ho with e1 e2; injection e2 with e2 e3; subst e1; subst e2; subst e3
   exact wp_exit (hQ a w (.refl h hf hd))
  | ret =>
   simp only [aCode] at ho
   injection ho with ho; injection ho with e1 e2; injection e2 with e2 e3; subst e1; subst e2; subst e3
   exact wp_ret (hQ a w (.refl h hf hd))
  | _ => simp [aCode] at ho

/-! ### Results -/
def rv (tmps : Array Value) : ResultVar → Sem Value
 | .tmp t => pure (tmps.getD t undef)
 | .cell x t => do loadVar t (← asAddr (tmps.getD x undef))
theorem results_eq (fn : Func) (tmps : Array Value) : results fn tmps = (do let vs ← fn.results.mapM (rv tmps); pure (if h : vs.size = 1 then vs[0] else .tuple vs)) := by
 unfold results
 congr 1
theorem run_results {fn : Func} {fr : List AV} {a : Act} {v : AV} (h : Sim base ρ X s w) (hf : RelL w ρ (UX ρ s.h X) s.c fr a.tmps.toList) (ho : aResults P fn fr s = some v) : ∃ v', (results fn a.tmps).run P w = .ok v' w ∧ Rel w ρ (UX ρ s.h X) s.c v v' := by
 simp only [aResults, Option.bind_eq_bind, Option.bind_eq_some_iff] at ho
 obtain ⟨vs, hvs, ho⟩ := ho
 have key : ∀ (l : List ResultVar) (vs : List AV), l.mapM (aResult P fr s) = some vs → ∃ us, (l.mapM (rv a.tmps)).run P w = .ok us w ∧ RelL w ρ (UX ρ s.h X) s.c vs us := by
  intro l
  induction l with
  | nil => intro vs hv; simp at hv; subst hv; exact ⟨[], by simp, by simp [RelL]⟩
  | cons r l ih =>
   intro vs hv
   simp only [List.mapM_cons, Option.bind_eq_bind, Option.bind_eq_some_iff, Option.pure_def] at hv
   obtain ⟨x, hx, xs, hxs, hv⟩ := hv
   injection hv with hv; subst hv
   obtain ⟨us, h1, h2⟩ := ih xs hxs
   rw [List.mapM_cons]
   cases r with
   | tmp t =>
    simp only [aResult] at hx; injection hx with hx; subst hx
    refine ⟨a.tmps.getD t undef :: us, by simp only [rv, Sem.run_bind, Sem.run_pure, Result.andThen_ok, h1], ?_⟩
    simp only [RelL]
    exact ⟨_, _, rfl, by simpa using hf.getD t, h2⟩
   | cell y t =>
    simp only [aResult] at hx
    have hr := hf.getD y
    obtain ⟨v', g1, g2⟩ := gives_load h hr hx
    have hp : ∃ A, a.tmps.toList.getD y undef = .pointer (some A) := by
     unfold aLoad at hx
     split at hx
     ·rename_i he; rw [he] at hr; simp only [Rel] at hr; exact ⟨_, hr.2⟩
     ·rename_i he; rw [he] at hr; simp only [Rel] at hr; obtain ⟨_, _, A, hA, _⟩ := hr; exact ⟨_, hA⟩
     ·rename_i he; rw [he] at hr; simp only [Rel] at hr; exact ⟨_, hr⟩
     ·cases hx
    obtain ⟨A, hA⟩ := hp
    rw [hA] at g1
    have hA' : a.tmps.getD y undef = .pointer (some A) := by simpa using hA
    simp only [Instr.loadAt, Instr.sureAddr, Sem.run_bind, Sem.run_pure, Result.andThen_ok] at g1
    refine ⟨v' :: us, by simp only [rv, Sem.run_bind, hA', asAddr, Sem.run_pure, Result.andThen_ok, g1, h1], ?_⟩
    simp only [RelL]
    exact ⟨_, _, rfl, g2, h2⟩
 obtain ⟨us, h1, h2⟩ := key _ _ hvs
 have hrun : (fn.results.mapM (rv a.tmps)).run P w = .ok us.toArray w := by
  rw [Array.mapM_eq_mapM_toList, Sem.run_map, h1]
  rfl
 rw [results_eq]
 split at ho
 ·rename_i x
  injection ho with ho; subst ho
  simp only [RelL] at h2
  obtain ⟨u, us', rfl, hr, rfl⟩ := h2
  refine ⟨u, ?_, hr⟩
  simp only [Sem.run_bind, hrun, Result.andThen_ok, Sem.run_pure]
  rfl
 ·rename_i hno
  injection ho with ho; subst ho
  have hl := h2.length
  refine ⟨.tuple us.toArray, ?_, by simp only [Rel]; exact ⟨us, rfl, h2⟩⟩
  have hne : ¬ us.toArray.size = 1 := by
   intro e
   simp at e
   rw [hl] at e
   obtain ⟨x, rfl⟩ := List.length_eq_one_iff.1 e
   exact hno x rfl
  simp only [Sem.run_bind, hrun, Result.andThen_ok, Sem.run_pure, dif_neg hne]

/-! ### Slices of memory that becomes a row -/
theorem del_all (c0 : Nat) : ∀ (l : List Nat) {s : St}, Sim base ρ X s w → Sim base ρ X (l.foldl St.del s) w ∧ (l.foldl St.del s).c = s.c ∧ (∀ n o, hget (l.foldl St.del s).h n = some o → n ∉ l ∧ hget s.h n = some o)
 | [], s, h => ⟨h, rfl, fun n o hn => ⟨by simp, hn⟩⟩
 | m :: l, s, h => by
  obtain ⟨h1, h2, h3⟩ := del_all c0 l (h.del m)
  refine ⟨h1, h2, fun n o hn => ?_⟩
  obtain ⟨g1, g2⟩ := h3 n o hn
  obtain ⟨g3, g4⟩ := hget_hdel g2
  exact ⟨by simp [g1, g3], g4⟩
theorem freezeV_rel {c0 : Nat} {v u : AV} {v' : Value} {s' : St} (h : Sim base ρ X s w) (hr : Rel w ρ (UX ρ s.h X) s.c v v') (hu : freezeV c0 s v = some u) (hc : s'.c = s.c) (hs : ∀ n o, hget s'.h n = some o → n ∉ frozenNames c0 v ∧ hget s.h n = some o) :
  Rel w ρ (UX ρ s'.h X) s'.c u v' := by
 have hU : ∀ b j, UX ρ s'.h X b j → UX ρ s.h X b j := by
  rintro b j (⟨n, o, hn, hrest⟩ | hx)
  ·exact .inl ⟨n, o, (hs n o hn).2, hrest⟩
  ·exact .inr hx
 have m : Mono w ρ (UX ρ s.h X) s.c w ρ (UX ρ s'.h X) s'.c := ⟨by rw [hc]; exact Nat.le_refl _, fun _ _ => rfl, fun a u hu _ => hu, fun a ha => ha, fun b j _ hj => hU b j hj⟩
 unfold freezeV at hu
 split at hu
 ·rename_i k n off len cap
  split at hu
  ·injection hu with hu; subst hu
   exact Rel.mono m _ _ hr
  ·rename_i hn
   split at hu
   ·cases hu
   ·rename_i hlc
    simp only [Option.map_eq_some_iff] at hu
    obtain ⟨⟨k', xs⟩, he, rfl⟩ := hu
    have hr0 := hr
    obtain ⟨A, cap', cs, e0, g1, g2⟩ := elems_rel h hr0 he
    simp only [Rel] at hr
    obtain ⟨h1, rfl⟩ := hr
    injection e0 with e0 e1 e2
    injection e0 with e0
    subst e0; subst e2
    obtain ⟨o, ho⟩ : ∃ o, hget s.h n = some o := by
     simp only [elems] at he
     split at he
     ·exact ⟨_, ‹_›⟩
     ·cases he
    have hkk : k' = k := by
     simp only [elems] at he
     split at he
     ·split at he
      ·injection he with he; injection he with e1 e2; exact e1.symm
      ·cases he
     ·cases he
    subst hkk
    simp only [Rel]
    refine ⟨⟨(ρ n).1, off, none⟩, cap, cs, by rw [e1], by omega, RelC.mono m k' _ _ g1, fun j u hj => ⟨g2 j u hj, ?_⟩, ?_⟩
    ·rintro (⟨q, o', hq, hqb, _⟩ | hx)
     ·obtain ⟨k1, k2⟩ := hs q o' hq
      by_cases e : q = n
      ·subst e; simp [frozenNames, hn] at k1
      ·exact h.inj q n o' o k2 ho e hqb
     ·exact h.apart n o ho _ hx
    ·split
     ·simp only [CapOk]; omega
     ·trivial
 ·injection hu with hu; subst hu
  exact Rel.mono m _ _ hr
theorem freezeL_rel {c0 : Nat} : ∀ {vs us : List AV} {vs' : List Value} {s' : St}, Sim base ρ X s w → RelL w ρ (UX ρ s.h X) s.c vs vs' → vs.mapM (freezeV c0 s) = some us → s'.c = s.c → (∀ n o, hget s'.h n = some o → n ∉ vs.flatMap (frozenNames c0) ∧ hget s.h n = some o) → RelL w ρ (UX ρ s'.h X) s'.c us vs'
 | [], us, vs', s', h, hr, hu, hc, hs => by
  simp at hu; subst hu; simpa [RelL] using hr
 | v :: vs, us, vs', s', h, hr, hu, hc, hs => by
  simp only [List.mapM_cons, Option.bind_eq_bind, Option.bind_eq_some_iff, Option.pure_def] at hu
  obtain ⟨x, hx, xs, hxs, hu⟩ := hu
  injection hu with hu; subst hu
  simp only [RelL] at hr ⊢
  obtain ⟨u, us', rfl, h1, h2⟩ := hr
  exact ⟨u, us', rfl, freezeV_rel h h1 hx hc (fun n o hn => ⟨fun hm => (hs n o hn).1 (by simp [hm]), (hs n o hn).2⟩), freezeL_rel h h2 hxs hc (fun n o hn => ⟨fun hm => (hs n o hn).1 (by
   rw [List.flatMap_cons]; exact List.mem_append_right _ hm), (hs n o hn).2⟩)⟩
theorem freezeTop_rel {c0 : Nat} {v u : AV} {v' : Value} (h : Sim base ρ X s w) (hr : Rel w ρ (UX ρ s.h X) s.c v v') (hu : freezeTop c0 v s = some (u, s')) : Sim base ρ X s' w ∧ s'.c = s.c ∧ Rel w ρ (UX ρ s'.h X) s'.c u v' ∧ (∀ b j, Umap ρ s'.h b j → Umap ρ s.h b j) := by
 unfold freezeTop at hu
 split at hu
 ·rename_i vs
  simp only [Option.bind_eq_bind, Option.bind_eq_some_iff] at hu
  obtain ⟨us, hus, hu⟩ := hu
  injection hu with hu; injection hu with e1 e2; subst e1; subst e2
  obtain ⟨h1, h2, h3⟩ := del_all c0 (vs.flatMap (frozenNames c0)) h
  simp only [Rel] at hr ⊢
  obtain ⟨ws, rfl, hl⟩ := hr
  exact ⟨h1, h2, ⟨ws, rfl, freezeL_rel h hl hus h2 h3⟩, fun b j ⟨n, o, hn, hrest⟩ => ⟨n, o, (h3 n o hn).2, hrest⟩⟩
 ·rename_i vs
  simp only [Option.bind_eq_bind, Option.bind_eq_some_iff] at hu
  obtain ⟨us, hus, hu⟩ := hu
  injection hu with hu; injection hu with e1 e2; subst e1; subst e2
  obtain ⟨h1, h2, h3⟩ := del_all c0 (vs.flatMap (frozenNames c0)) h
  simp only [Rel] at hr ⊢
  obtain ⟨ws, rfl, hl⟩ := hr
  exact ⟨h1, h2, ⟨ws, rfl, freezeL_rel h hl hus h2 h3⟩, fun b j ⟨n, o, hn, hrest⟩ => ⟨n, o, (h3 n o hn).2, hrest⟩⟩
 ·simp only [Option.bind_eq_bind, Option.bind_eq_some_iff] at hu
  obtain ⟨u', hu', hu⟩ := hu
  injection hu with hu; injection hu with e1 e2; subst e1; subst e2
  obtain ⟨h1, h2, h3⟩ := del_all c0 (frozenNames c0 v) h
  exact ⟨h1, h2, freezeV_rel h hr hu' h2 h3, fun b j ⟨n, o, hn, hrest⟩ => ⟨n, o, (h3 n o hn).2, hrest⟩⟩
end
end Go.Ai
end
section
/- Calls. -/
set_option linter.unusedVariables false
set_option linter.unusedSimpArgs false
namespace Go.Ai
section
variable {P : Program} {base : Nat} {ρ ρ' : Pl} {X U U' : Reg} {c c' : Nat} {s s' : St} {w w' : World}

/-! ### Values without names -/
mutual
theorem Rel.pure (hU : ∀ b j, U' b j → U b j) : ∀ (x : AV) (v : Value), pureV x = true → Rel w ρ U c x v → Rel w ρ' U' c' x v
 | .int _ _, _, _, h => h
 | .bool _, _, _, h => h
 | .str _, _, _, h => h
 | .nilp, _, _, h => h
 | .ptr _ _, _, hp, _ => by simp [pureV] at hp
 | .rptr k xs i off, v, hp, h => by
  simp only [pureV] at hp
  simp only [Rel] at h ⊢
  obtain ⟨h1, h2, a, h3, cs, h4, h5⟩ := h
  exact ⟨h1, h2, a, h3, cs, RelC.pure hU k xs cs hp h4, fun j u hj => ⟨(h5 j u hj).1, fun hu => (h5 j u hj).2 (hU _ _ hu)⟩⟩
 | .nils, _, _, h => h
 | .emp _, _, _, h => h
 | .gptr _ _, _, _, h => h
 | .vec k xs cp, v, hp, h => by
  simp only [pureV, Bool.and_eq_true] at hp
  simp only [Rel] at h ⊢
  obtain ⟨a, cap, cs, h1, h2, h3, h4, h5⟩ := h
  refine ⟨a, cap, cs, h1, h2, RelC.pure hU k xs cs hp.2 h3, fun j u hj => ⟨(h4 j u hj).1, fun hu => (h4 j u hj).2 (hU _ _ hu)⟩, ?_⟩
  cases cp with
  | tight => exact h5
  | unk => trivial
  | tok t => simp at hp
 | .hs _ _ _ _ _, _, hp, _ => by simp [pureV] at hp
 | .agg xs, v, hp, h => by
  simp only [pureV] at hp
  simp only [Rel] at h ⊢
  obtain ⟨vs, h1, h2⟩ := h
  exact ⟨vs, h1, RelL.pure hU xs vs hp h2⟩
 | .tup xs, v, hp, h => by
  simp only [pureV] at hp
  simp only [Rel] at h ⊢
  obtain ⟨vs, h1, h2⟩ := h
  exact ⟨vs, h1, RelL.pure hU xs vs hp h2⟩
 | .ifc t x, v, hp, h => by
  simp only [pureV] at hp
  simp only [Rel] at h ⊢
  obtain ⟨u, h1, h2⟩ := h
  exact ⟨u, h1, Rel.pure hU x u hp h2⟩
 | .nifc, _, _, h => h
 | .fn f xs ys, v, hp, h => by
  simp only [pureV, Bool.and_eq_true] at hp
  simp only [Rel] at h ⊢
  obtain ⟨us, vs, h1, h2, h3⟩ := h
  exact ⟨us, vs, h1, RelL.pure hU xs us hp.1 h2, RelL.pure hU ys vs hp.2 h3⟩
 | .nilfn, _, _, h => h
 | .mp _, _, hp, _ => by simp [pureV] at hp
 | .nilmp, _, _, h => h
theorem RelL.pure (hU : ∀ b j, U' b j → U b j) : ∀ (xs : List AV) (vs : List Value), pureL xs = true → RelL w ρ U c xs vs → RelL w ρ' U' c' xs vs
 | [], _, _, h => h
 | x :: xs, vs, hp, h => by
  simp only [pureL, Bool.and_eq_true] at hp
  simp only [RelL] at h ⊢
  obtain ⟨v, us, h1, h2, h3⟩ := h
  exact ⟨v, us, h1, Rel.pure hU x v hp.1 h2, RelL.pure hU xs us hp.2 h3⟩
theorem RelC.pure (hU : ∀ b j, U' b j → U b j) (k : Nat) : ∀ (xs : List AV) (cs : List Value), pureL xs = true → RelC w ρ U c k xs cs → RelC w ρ' U' c' k xs cs
 | [], _, _, h => h
 | x :: xs, cs, hp, h => by
  simp only [pureL, Bool.and_eq_true] at hp
  simp only [RelC] at h ⊢
  obtain ⟨v, us, h1, h2, h3, h4⟩ := h
  exact ⟨v, us, h1, h2, Rel.pure hU x v hp.1 h3, RelC.pure hU k xs us hp.2 h4⟩
end
theorem strip_cells : ∀ x : AV, (stripV x).cells = stripL x.cells ∧ (stripV x).one = x.one := by
 intro x
 cases x
 case vec k xs c => cases xs <;> simp [stripV, AV.cells, AV.one, stripL]
 all_goals simp [stripV, AV.cells, AV.one, stripL]
theorem strip_len : ∀ xs : List AV, (stripL xs).length = xs.length
 | [] => rfl
 | x :: xs => by simp [stripL, strip_len xs]
theorem strip_mem : ∀ {xs : List AV} {y : AV}, y ∈ stripL xs → ∃ x ∈ xs, y = stripV x
 | [], y, h => by simp [stripL] at h
 | x :: xs, y, h => by
  simp only [stripL, List.mem_cons] at h
  rcases h with rfl | h
  ·exact ⟨x, by simp, rfl⟩
  ·obtain ⟨z, hz, e⟩ := strip_mem h
   exact ⟨z, by simp [hz], e⟩
theorem strip_ok {k : Nat} {x : AV} (h : okElem k x) : okElem k (stripV x) := by
 obtain ⟨h1, h2, h3, h4⟩ := h
 obtain ⟨e1, e2⟩ := strip_cells x
 refine ⟨by rw [e1, strip_len]; exact h1, fun y hy => ?_, fun hk => by rw [e2]; exact h3 hk, fun hk => by rw [e2]; exact h4 hk⟩
 rw [e1] at hy
 obtain ⟨z, hz, rfl⟩ := strip_mem hy
 rw [(strip_cells z).2]; exact h2 z hz
mutual
theorem strip_rel : ∀ (x : AV) (v : Value), Rel w ρ U c x v → Rel w ρ U c (stripV x) v
 | .int _ _, _, h => h
 | .bool _, _, h => h
 | .str _, _, h => h
 | .nilp, _, h => h
 | .ptr _ _, _, h => h
 | .rptr k xs i off, v, h => by
  simp only [stripV, Rel] at h ⊢
  obtain ⟨h1, h2, a, h3, cs, h4, h5⟩ := h
  exact ⟨by rw [strip_len]; exact h1, h2, a, h3, cs, strip_relC k xs cs h4, h5⟩
 | .nils, _, h => by
  simp only [stripV, Rel] at h ⊢
  exact ⟨none, 0, h, fun _ => rfl, fun _ => rfl⟩
 | .emp z, _, h => by
  simp only [stripV, Rel] at h ⊢
  obtain ⟨a, cap, h1, h2, h3⟩ := h
  refine ⟨a, cap, h1, h2, ?_⟩
  intro e; cases e
 | .gptr _ _, _, h => h
 | .vec k [] cp, v, h => by
  simp only [Rel] at h
  obtain ⟨a, cap, cs, h1, h2, h3, h4, h5⟩ := h
  simp only [stripV, List.isEmpty_nil, if_true, Rel]
  refine ⟨some a, cap, h1, ?_, ?_⟩ <;> (intro e; cases e)
 | .vec k (y :: ys) cp, v, h => by
  simp only [Rel] at h
  obtain ⟨a, cap, cs, h1, h2, h3, h4, h5⟩ := h
  simp only [stripV, List.isEmpty_cons, Bool.false_eq_true, if_false, Rel]
  rw [strip_len]
  exact ⟨a, cap, cs, h1, h2, strip_relC k (y :: ys) cs h3, h4, trivial⟩
 | .hs _ _ _ _ _, _, h => h
 | .agg xs, v, h => by
  simp only [stripV, Rel] at h ⊢
  obtain ⟨vs, h1, h2⟩ := h
  exact ⟨vs, h1, strip_relL xs vs h2⟩
 | .tup xs, v, h => by
  simp only [stripV, Rel] at h ⊢
  obtain ⟨vs, h1, h2⟩ := h
  exact ⟨vs, h1, strip_relL xs vs h2⟩
 | .ifc t x, v, h => by
  simp only [stripV, Rel] at h ⊢
  obtain ⟨u, h1, h2⟩ := h
  exact ⟨u, h1, strip_rel x u h2⟩
 | .nifc, _, h => h
 | .fn f xs ys, v, h => by
  simp only [stripV, Rel] at h ⊢
  obtain ⟨us, vs, h1, h2, h3⟩ := h
  exact ⟨us, vs, h1, strip_relL xs us h2, strip_relL ys vs h3⟩
 | .nilfn, _, h => h
 | .mp _, _, h => h
 | .nilmp, _, h => h
theorem strip_relL : ∀ (xs : List AV) (vs : List Value), RelL w ρ U c xs vs → RelL w ρ U c (stripL xs) vs
 | [], _, h => h
 | x :: xs, vs, h => by
  simp only [stripL, RelL] at h ⊢
  obtain ⟨v, us, h1, h2, h3⟩ := h
  exact ⟨v, us, h1, strip_rel x v h2, strip_relL xs us h3⟩
theorem strip_relC (k : Nat) : ∀ (xs : List AV) (cs : List Value), RelC w ρ U c k xs cs → RelC w ρ U c k (stripL xs) cs
 | [], _, h => h
 | x :: xs, cs, h => by
  simp only [stripL, RelC] at h ⊢
  obtain ⟨v, us, h1, h2, h3, h4⟩ := h
  exact ⟨v, us, h1, strip_ok h2, strip_rel x v h3, strip_relC k xs us h4⟩
end
theorem flat_rel {x : AV} {v : Value} (hf : flat x = true) (h : Rel w ρ U c x v) : Rel w' ρ' U' c' x v := by
 cases x <;> simp [flat] at hf <;> exact h
theorem flatL_rel : ∀ {xs : List AV} {vs : List Value}, xs.all flat = true → RelL w ρ U c xs vs → RelL w' ρ' U' c' xs vs
 | [], _, _, h => h
 | x :: xs, vs, hp, h => by
  simp only [List.all_cons, Bool.and_eq_true] at hp
  simp only [RelL] at h ⊢
  obtain ⟨v, us, h1, h2, h3⟩ := h
  exact ⟨v, us, h1, flat_rel hp.1 h2, flatL_rel hp.2 h3⟩
theorem solid_rel {x : AV} {v : Value} (hf : solid x = true) (h : Rel w ρ U c x v) : Rel w' ρ' U' c' x v := by
 unfold solid at hf
 split at hf
 ·simp only [Rel] at h ⊢
  obtain ⟨vs, h1, h2⟩ := h
  exact ⟨vs, h1, flatL_rel hf h2⟩
 ·simp only [Rel] at h ⊢
  obtain ⟨vs, h1, h2⟩ := h
  exact ⟨vs, h1, flatL_rel hf h2⟩
 ·exact flat_rel hf h

def ρ0 : Pl := fun _ => (0, 0)
def noReg : Reg := fun _ _ => False

def PureC (P : Program) (f : FuncId) (F : Glob → List AV → Option AV) : Prop :=
 (∃ fn, P.funcs[f]? = some fn ∧ enters fn = true) ∧
 ∀ G args r, F G args = some r → ∀ (w : World) (U : Reg) (vs : List Value), (∀ b j, U b j → b < w.heap.size) → GlobOk w ρ0 U 0 G → RelL w ρ0 U 0 args vs →
  Calls P f vs.toArray w fun e w' => ∃ v', e = .returned v' ∧ Rel w' ρ0 U 0 r v' ∧ RowKit.Below w.heap.size w w'

theorem view_rel {v u : AV} {v' : Value} {b : Bool} (h : Sim base ρ X s w) (hr : Rel w ρ (UX ρ s.h X) s.c v v') (hv : view s v = some (u, b)) (hU : ∀ x y, U x y → b = false ∧ UX ρ s.h X x y) : Rel w ρ0 U 0 u v' := by
 have hsub : ∀ x y, U x y → UX ρ s.h X x y := fun x y hxy => (hU x y hxy).2
 unfold view at hv
 split at hv
 ·rename_i k n off len cap
  split at hv
  ·rename_i k' xs he
   split at hv
   ·rename_i hp
    simp only [Bool.and_eq_true, decide_eq_true_eq] at hp
    injection hv with hv; injection hv with e1 e2; subst e1; subst e2
    obtain ⟨A, cap', cs, e0, g1, g2⟩ := elems_rel h hr he
    have hkk : k' = k := by
     simp only [elems] at he
     split at he
     ·split at he
      ·injection he with he; injection he with e1 e2; exact e1.symm
      ·cases he
     ·cases he
    subst hkk
    simp only [Rel] at hr
    obtain ⟨h1, rfl⟩ := hr
    injection e0 with e0 e1 e2
    subst e2
    refine Rel.pure (ρ := ρ) (c := s.c) (U := U) (fun _ _ hu => hu) _ _ hp.1 (strip_rel _ _ ?_)
    simp only [Rel]
    refine ⟨A, cap, cs, by rw [e0, e1], by omega, RelC.mono ⟨Nat.le_refl _, fun _ _ => rfl, fun a u hu _ => hu, fun a ha => ha, fun x y _ hxy => hsub x y hxy⟩ _ _ _ g1, fun j u hj => ⟨g2 j u hj, fun hu => by have := (hU _ _ hu).1; cases this⟩, trivial⟩
   ·cases hv
  ·cases hv
 ·rename_i n off
  split at hv
  ·rename_i cs hg
   split at hv
   ·rename_i hp
    simp only [Bool.and_eq_true, decide_eq_true_eq] at hp
    injection hv with hv; injection hv with e1 e2; subst e1; subst e2
    simp only [Rel] at hr
    obtain ⟨h1, rfl⟩ := hr
    obtain ⟨C, e, fz, g1, g2, g3, g4⟩ := h.obj n _ hg
    have hk : esz cs.length = cs.length := by unfold esz; rw [if_neg (by omega)]
    simp only [Rel, List.length_cons, List.length_nil]
    refine ⟨by omega, by rw [hk]; exact hp.1, ⟨(ρ n).1, 0, none⟩, ?_, C.toList, ?_, fun j u hj => ⟨?_, fun hu => by have := (hU _ _ hu).1; cases this⟩⟩
    ·rw [add_lit]; simp
    ·simp only [RelC]
     refine ⟨.agg C, [], by simp [Value.cells], ⟨by rw [hk]; exact strip_len cs, fun y hy => by obtain ⟨z, hz, rfl⟩ := strip_mem (show y ∈ stripL cs from hy); rw [(strip_cells z).2]; exact g4 z hz, fun e => by omega, fun _ => rfl⟩, ?_, rfl⟩
     simp only [Rel]
     exact ⟨C.toList, by simp, RelL.pure hsub _ _ hp.2 (strip_relL _ _ g3)⟩
    ·rw [add_lit, Nat.zero_add, cell_at g1]; simpa using hj
   ·cases hv
  ·cases hv
 ·split at hv
  ·rename_i hp
   injection hv with hv; injection hv with e1 e2; subst e1; subst e2
   exact Rel.pure hsub _ _ hp (strip_rel _ _ hr)
  ·cases hv
theorem views_rel : ∀ {vs : List AV} {us : List (AV × Bool)} {vs' : List Value}, Sim base ρ X s w → RelL w ρ (UX ρ s.h X) s.c vs vs' → vs.mapM (view s) = some us → (∀ x y, U x y → us.any (·.2) = false ∧ UX ρ s.h X x y) → RelL w ρ0 U 0 (us.map (·.1)) vs'
 | [], us, vs', h, hr, hu, hU => by simp at hu; subst hu; simpa [RelL] using hr
 | v :: vs, us, vs', h, hr, hu, hU => by
  simp only [List.mapM_cons, Option.bind_eq_bind, Option.bind_eq_some_iff, Option.pure_def] at hu
  obtain ⟨x, hx, xs, hxs, hu⟩ := hu
  injection hu with hu; subst hu
  simp only [List.map_cons, RelL] at hr ⊢
  obtain ⟨u, us', rfl, h1, h2⟩ := hr
  have hU' : ∀ a b, U a b → (x.2 = false ∧ xs.any (·.2) = false) ∧ UX ρ s.h X a b := fun a b hab => by
   have := hU a b hab
   simpa using this
  exact ⟨u, us', rfl, view_rel (u := x.1) (b := x.2) h h1 hx (fun a b hab => ⟨(hU' a b hab).1.1, (hU' a b hab).2⟩), views_rel h h2 hxs (fun a b hab => ⟨(hU' a b hab).1.2, (hU' a b hab).2⟩)⟩

theorem prim_calls {f : FuncId} {F : Glob → List AV → Option AV} (hF : PureC P f F) {args : List AV} {v : AV} {vs : List Value} (h : Sim base ρ X s w) (hr : RelL w ρ (UX ρ s.h X) s.c args vs) (hc : callPrim F args s = some (v, s')) :
  Calls P f vs.toArray w fun e w' => ∃ v', e = .returned v' ∧ Post base ρ X s w v s' v' w' := by
 simp only [callPrim, Option.bind_eq_bind, Option.bind_eq_some_iff] at hc
 obtain ⟨us, hus, r, hr', hc⟩ := hc
 split at hc
 ·cases hc
 ·rename_i hno
  injection hc with hc; injection hc with e1 e2; subst e1; subst e2
  have hold : ∀ b j, UX ρ s.h X b j → b < w.heap.size := by
   rintro b j (⟨n, o, hn, hnb, _⟩ | hx)
   ·rw [← hnb]; exact h.blk_lt hn
   ·exact h.old b j hx
  cases hany : us.any (·.2) with
  | false =>
   have hv := views_rel (U := UX ρ s.h X) h hr hus (fun x y hxy => ⟨hany, hxy⟩)
   have hG : GlobOk w ρ0 (UX ρ s.h X) 0 s.g := fun g cs hg => by
    obtain ⟨g1, ws, g2, g3⟩ := h.glob g cs hg
    exact ⟨g1, ws, RelL.pure (fun _ _ hj => hj) _ _ g1 g2, g3⟩
   refine (hF.2 _ _ r hr' w (UX ρ s.h X) vs hold hG hv).mono fun e w' he => ?_
   obtain ⟨v', rfl, hr2, hb⟩ := he
   refine ⟨v', rfl, Post.grow h hb.os hb.tape hb.output hb.size (fun b hb' => hb.block b hb') ?_⟩
   exact Rel.mono ⟨Nat.zero_le _, fun n hn => absurd hn (Nat.not_lt_zero _), fun a u hu _ => hu, fun a ha => ha, fun _ _ _ hj => hj⟩ _ _ hr2
  | true =>
   have hs : solid r = true := by simpa [hany] using hno
   have hv := views_rel (U := noReg) h hr hus (fun x y hxy => hxy.elim)
   have hG : GlobOk w ρ0 noReg 0 s.g := fun g cs hg => by
    obtain ⟨g1, ws, g2, g3⟩ := h.glob g cs hg
    exact ⟨g1, ws, RelL.pure (fun _ _ hj => hj.elim) _ _ g1 g2, fun j u hj => ⟨(g3 j u hj).1, fun hj => hj.elim⟩⟩
   refine (hF.2 _ _ r hr' w noReg vs (fun b j hj => hj.elim) hG hv).mono fun e w' he => ?_
   obtain ⟨v', rfl, hr2, hb⟩ := he
   exact ⟨v', rfl, Post.grow h hb.os hb.tape hb.output hb.size (fun b hb' => hb.block b hb') (solid_rel hs hr2)⟩

def PrimsOk (P : Program) (prims : Prims) : Prop := ∀ f F, prims f = some F → PureC P f F

theorem undefs_rel : ∀ n, RelL w ρ U c (List.replicate n AV.undef) (List.replicate n undef)
 | 0 => by simp [RelL]
 | n + 1 => by
  rw [List.replicate_succ, List.replicate_succ]
  simp only [RelL]
  exact ⟨undef, _, rfl, by simp [Rel, RelL, undef], undefs_rel n⟩

theorem aCall_ok {prims : Prims} (hp : PrimsOk P prims) (hdraw : ∀ n, CallOk P base (aCall P prims n) → DrawOk P base (aCall P prims n) prims) : ∀ n, CallOk P base (aCall P prims n)
 | 0 => fun f args s v s' h => by simp [aCall] at h
 | n + 1 => by
  intro f args s v s' h
  have ih := aCall_ok hp hdraw n
  simp only [aCall] at h
  split at h
  ·cases h
  ·rename_i fn hfn
   split at h
   ·rename_i hen
    refine ⟨⟨fn, hfn, hen⟩, fun ρ X w vs hb hs hr => ?_⟩
    split at h
    ·rename_i F hF
     exact prim_calls (hp f F hF) hs hr h
    ·split at h
     ·cases h
     ·rename_i c hbody
      have hfr : RelL w ρ (UX ρ s.h X) s.c (args ++ List.replicate (fn.ntmps - args.length) .undef) (vs.toArray ++ Array.replicate (fn.ntmps - vs.toArray.size) undef).toList := by
       have hl := hr.length
       simp only [Array.toList_append, Array.toList_replicate, List.size_toArray]
       rw [hl]
       exact hr.append (undefs_rel _)
      have key : ∀ (e : AExit) (fr' : List AV) (s1 : St), aCode P (aCall P prims n) prims n c (args ++ List.replicate (fn.ntmps - args.length) .undef) s = some (e, fr', s1) → (e = .normal ∨ e = .ret) →
        (∃ r, aResults P fn fr' s1 = some r ∧ freezeTop s.c r s1 = some (v, s')) → Calls P f vs.toArray w fun e w' => ∃ v', e = .returned v' ∧ Post base ρ X s w v s' v' w' := by
       rintro e fr' s1 hc he ⟨r, hres, hfz⟩
       refine calls_of_wp hfn hbody ((aCode_wp ih (hdraw n ih) n).1 hb hs hfr rfl hc fun a' w' hpf => ?_)
       obtain ⟨ρ1, g1, g2, g3, g4, g5, g6, g7⟩ := hpf
       obtain ⟨v', h1, h2⟩ := run_results g3 g4 hres
       obtain ⟨k1, k2, k3, k4⟩ := freezeTop_rel g3 h2 hfz
       have fin : bodyPost P fn (fun e w' => ∃ v', e = .returned v' ∧ Post base ρ X s w v s' v' w') .ret a' w' :=
        ⟨g7, v', h1, v', rfl, ρ1, g1, by rw [k2]; exact g2, k1, k3, g5, fun b j hb' hj => g6 b j hb' (k4 b j hj)⟩
       rcases he with rfl | rfl <;> exact fin
      split at h
      ·rename_i fr' s1 hc
       simp only [Option.bind_eq_bind, Option.bind_eq_some_iff] at h
       exact key _ _ _ hc (.inl rfl) h
      ·rename_i fr' s1 hc
       simp only [Option.bind_eq_bind, Option.bind_eq_some_iff] at h
       exact key _ _ _ hc (.inr rfl) h
      ·cases h
   ·cases h
end
end Go.Ai
end
section
/- Regions that draw their order. -/
set_option linter.unusedVariables false
set_option linter.unusedSimpArgs false
namespace Go.Ai

/-! ### What must come before -/
theorem bits_fold (acc : Array Nat) (j : Nat) : ∀ (l : List Edge) (s0 : Nat), (l.foldl (fun s e => if Region.binds .any e then s ||| 2 ^ e.on ||| acc.getD e.on 0 else s) s0).testBit j = true ↔
  s0.testBit j = true ∨ ∃ e ∈ l, Region.binds .any e = true ∧ (j = e.on ∨ (acc.getD e.on 0).testBit j = true)
 | [], s0 => by simp
 | e :: l, s0 => by
  rw [List.foldl_cons, bits_fold acc j l]
  by_cases hb : Region.binds .any e = true
  ·rw [if_pos hb, Nat.testBit_or, Nat.testBit_or, Nat.testBit_two_pow]
   constructor
   ·rintro (h | ⟨e', h1, h2⟩)
    ·simp only [Bool.or_eq_true, decide_eq_true_eq] at h
     rcases h with (h | h) | h
     ·exact .inl h
     ·exact .inr ⟨e, by simp, hb, .inl h.symm⟩
     ·exact .inr ⟨e, by simp, hb, .inr h⟩
    ·exact .inr ⟨e', by simp [h1], h2⟩
   ·rintro (h | ⟨e', h1, h2, h3⟩)
    ·left; simp [h]
    ·rcases List.mem_cons.1 h1 with rfl | h1
     ·left
      rcases h3 with h3 | h3
      ·simp [h3]
      ·rw [h3]; simp
     ·exact .inr ⟨e', h1, h2, h3⟩
  ·rw [if_neg hb]
   constructor
   ·rintro (h | ⟨e', h1, h2⟩)
    ·exact .inl h
    ·exact .inr ⟨e', by simp [h1], h2⟩
   ·rintro (h | ⟨e', h1, h2, h3⟩)
    ·exact .inl h
    ·rcases List.mem_cons.1 h1 with rfl | h1
     ·exact absurd h2 hb
     ·exact .inr ⟨e', h1, h2, h3⟩
def bstep (acc : Array Nat) (o : Oper) : Array Nat := acc.push (o.after.foldl (fun s e => if Region.binds .any e then s ||| 2 ^ e.on ||| acc.getD e.on 0 else s) 0)
theorem bfold_size : ∀ (l : List Oper) (acc : Array Nat), (l.foldl bstep acc).size = acc.size + l.length
 | [], acc => by simp
 | o :: l, acc => by rw [List.foldl_cons, bfold_size l]; simp [bstep]; omega
theorem bfold_low : ∀ (l : List Oper) (acc : Array Nat) (k : Nat), k < acc.size → (l.foldl bstep acc).getD k 0 = acc.getD k 0
 | [], acc, k, h => rfl
 | o :: l, acc, k, h => by
  rw [List.foldl_cons, bfold_low l _ k (by simp [bstep]; omega)]
  simp only [bstep, Array.getD_eq_getD_getElem?]
  rw [Array.getElem?_push, if_neg (by omega)]
theorem before_eq (ops : Array Oper) : Region.before ops = ops.toList.foldl bstep #[] := by
 unfold Region.before
 rw [← Array.foldl_toList]
 rfl
theorem before_spec {ops : Array Oper} {i : Nat} {o : Oper} (ho : ops[i]? = some o) (hlt : ∀ e ∈ o.after, Region.binds .any e = true → e.on < i) (j : Nat) :
  ((Region.before ops).getD i 0).testBit j = true ↔ ∃ e ∈ o.after, Region.binds .any e = true ∧ (j = e.on ∨ ((Region.before ops).getD e.on 0).testBit j = true) := by
 have hi : i < ops.toList.length := by simpa using (Array.getElem?_eq_some_iff.1 ho).1
 have hsplit : ops.toList = ops.toList.take i ++ o :: ops.toList.drop (i + 1) := by
  have e : ops.toList[i] = o := by
   have := (Array.getElem?_eq_some_iff.1 ho).2
   simpa using this
  rw [← e, ← List.drop_eq_getElem_cons hi, List.take_append_drop]
 have hsz : ((ops.toList.take i).foldl bstep #[]).size = i := by
  have : i < ops.size := by simpa using hi
  rw [bfold_size]; simp; omega
 have h1 : (Region.before ops).getD i 0 = (bstep ((ops.toList.take i).foldl bstep #[]) o).getD i 0 := by
  rw [before_eq, hsplit, List.foldl_append, List.foldl_cons, bfold_low _ _ i (by simp [bstep, hsz])]
  rw [← hsplit]
 have h2 : ∀ k, k < i → (Region.before ops).getD k 0 = ((ops.toList.take i).foldl bstep #[]).getD k 0 := fun k hk => by
  rw [before_eq, hsplit, List.foldl_append, List.foldl_cons, bfold_low _ _ k (by simp [bstep, hsz]; omega), ← hsplit]
  simp only [bstep, Array.getD_eq_getD_getElem?]
  rw [Array.getElem?_push, if_neg (by rw [hsz]; omega)]
 rw [h1]
 have h3 : (bstep ((ops.toList.take i).foldl bstep #[]) o).getD i 0 = (o.after.toList.foldl (fun s e => if Region.binds .any e then s ||| 2 ^ e.on ||| ((ops.toList.take i).foldl bstep #[]).getD e.on 0 else s) 0) := by
  simp only [bstep, Array.getD_eq_getD_getElem?]
  rw [Array.getElem?_push, if_pos hsz.symm]
  simp only [Option.getD_some]
  rw [← Array.foldl_toList]
 rw [h3, bits_fold]
 simp only [Nat.zero_testBit, Bool.false_eq_true, false_or]
 constructor
 ·rintro ⟨e, he, hb, h⟩
  refine ⟨e, by simpa using he, hb, ?_⟩
  rw [h2 _ (hlt e (by simpa using he) hb)]; exact h
 ·rintro ⟨e, he, hb, h⟩
  refine ⟨e, by simpa using he, hb, ?_⟩
  rw [← h2 _ (hlt e he hb)]; exact h

/-! ### An operation looks at the frame by its operands alone -/
section
variable {P : Program} {call : FuncId → List AV → St → Option (AV × St)}
theorem aEval_congr {fr fr' : List AV} {x : Operand} (h : ∀ t, x = .tmp t → fr.getD t .undef = fr'.getD t .undef) : aEval fr x = aEval fr' x := by
 cases x with
 | tmp t => simp only [aEval]; rw [h t rfl]
 | _ => rfl
theorem aEvals_congr {fr fr' : List AV} : ∀ {xs : List Operand}, (∀ x ∈ xs, aEval fr x = aEval fr' x) → aEvals fr xs = aEvals fr' xs
 | [], _ => rfl
 | x :: xs, h => by
  simp only [aEvals, List.mapM_cons]
  rw [h x (by simp)]
  have := aEvals_congr (xs := xs) (fun y hy => h y (by simp [hy]))
  simp only [aEvals] at this
  rw [this]
theorem aEvalO_congr {fr fr' : List AV} {x : Option Operand} (h : ∀ y, x = some y → aEval fr y = aEval fr' y) : aEvalO fr x = aEvalO fr' x := by
 cases x with
 | none => rfl
 | some y => simp only [aEvalO]; rw [h y rfl]
theorem parts_congr {fr fr' : List AV} : ∀ {ps : List (Nat × Operand)}, (∀ p ∈ ps, aEval fr p.2 = aEval fr' p.2) → (ps.mapM fun (p : Nat × Operand) => (aEval fr p.2).map (p.1, ·)) = ps.mapM fun (p : Nat × Operand) => (aEval fr' p.2).map (p.1, ·)
 | [], _ => rfl
 | p :: ps, h => by
  simp only [List.mapM_cons]
  rw [h p (by simp), parts_congr (fun q hq => h q (by simp [hq]))]
theorem aOp_congr {o : Oper} {fr fr' : List AV} {s : St} (h : ∀ x ∈ o.op.operands, aEval fr x = aEval fr' x) : aOp P call o fr s = aOp P call o fr' s := by
 obtain ⟨dst, op, type, pos, after, guard⟩ := o
 cases op <;> simp only [Op.operands] at h <;> simp only [aOp]
 case build t ps => rw [parts_congr (fr' := fr') (fun p hp => h p.2 (by simp; exact ⟨p.1, by simpa using hp⟩))]
 case buildSlice t n ps => rw [parts_congr (fr' := fr') (fun p hp => h p.2 (by simp; exact ⟨p.1, by simpa using hp⟩))]
 case makeFunc f first captured =>
  rw [aEvals_congr (fr' := fr') (xs := first.toList) (fun x hx => h x (by rw [Array.mem_append]; exact .inl (by simpa using hx))), aEvals_congr (fr' := fr') (xs := captured.toList) (fun x hx => h x (by rw [Array.mem_append]; exact .inr (by simpa using hx)))]
 case makeMap t r => cases r <;> rfl
 case slice t x lo hi mx =>
  rw [h x (by simp), aEvalO_congr (fr' := fr') (x := lo) (fun y hy => h y (by simp [hy])), aEvalO_congr (fr' := fr') (x := hi) (fun y hy => h y (by simp [hy])), aEvalO_congr (fr' := fr') (x := mx) (fun y hy => h y (by simp [hy]))]
 case next it isS =>
  cases isS with
  | false => rfl
  | true => simp only [aOp]; rw [h it (by simp)]
 case call c =>
  simp only [Call.operands] at h
  rw [aEvals_congr (fr' := fr') (xs := c.args.toList) (fun x hx => h x (by rw [Array.mem_append]; exact .inr (by simpa using hx)))]
  cases hc : c.callee with
  | value f => simp only [hc]; rw [h f (by simp [hc])]
  | _ => rfl
 case pick c x y =>
  rw [h c (by simp)]
  have h1 := h x (by simp)
  have h2 := h y (by simp)
  congr 1
  funext v
  cases v <;> try rfl
  rename_i t
  cases t <;> simp [h1, h2]
 all_goals first
  | rfl
  | (rw [h _ (by simp)]; done)
  | (rw [h _ (List.mem_cons_self ..)]; done)
  | (simp_all; done)
end
end Go.Ai
end
section
/- Regions that draw: whatever the order, the text's own answer. -/
set_option linter.unusedVariables false
set_option linter.unusedSimpArgs false
namespace Go.Ai
section
variable {P : Program} {call : FuncId → List AV → St → Option (AV × St)} {prims : Prims}

def Quiet (prims : Prims) (call : FuncId → List AV → St → Option (AV × St)) : Prop := ∀ g args s v s', (prims g).isNone = false → call g args s = some (v, s') → s' = s ∧ ∀ s2 : St, s2.g = s.g → (∀ x ∈ args, ∀ r, view s x = some r → view s2 x = some r) → call g args s2 = some (v, s2)

theorem map_fst {x : Option AV} {s s' : St} {v : AV} (h : x.map (·, s) = some (v, s')) : s' = s ∧ ∀ s2 : St, x.map (·, s2) = some (v, s2) := by
 cases x with
 | none => cases h
 | some a => simp at h; exact ⟨h.2.symm, fun s2 => by simp [h.1]⟩

theorem nolook {o : Oper} {fr : List AV} {s s' : St} {v : AV} (hl : looks o.op = false) (h : aOp P call o fr s = some (v, s')) : s' = s ∧ ∀ s2, aOp P call o fr s2 = some (v, s2) := by
 obtain ⟨dst, op, type, pos, after, guard⟩ := o
 cases op <;> simp only [looks, reduceCtorEq, Bool.true_eq_false] at hl <;> simp only [aOp] at h ⊢
 case move x => exact map_fst h
 case assign x => exact map_fst h
 case pick c x y =>
  simp only [Option.bind_eq_bind, Option.bind_eq_some_iff] at h ⊢
  obtain ⟨cv, hc, h⟩ := h
  cases cv <;> simp only [reduceCtorEq, Option.bind_eq_some_iff] at h
  obtain ⟨x', hx, h⟩ := h
  injection h with h; injection h with e1 e2
  exact ⟨e2.symm, fun s2 => ⟨_, hc, by simp only [Option.bind_eq_some_iff]; exact ⟨_, hx, by rw [e1]⟩⟩⟩
 case slice t x lo hi mx =>
  simp only [Option.bind_eq_bind, Option.bind_eq_some_iff] at h ⊢
  obtain ⟨x', hx, l', hl', h', hh', m', hm', z, hz, h⟩ := h
  injection h with h; injection h with e1 e2
  exact ⟨e2.symm, fun s2 => ⟨x', hx, l', hl', h', hh', m', hm', z, hz, by rw [e1]⟩⟩
 case makeInterface t x =>
  simp only [Option.bind_eq_bind, Option.bind_eq_some_iff] at h ⊢
  obtain ⟨d, hd, h⟩ := h
  refine ⟨?_, fun s2 => ⟨d, hd, ?_⟩⟩
  ·split at h
   ·cases h
   ·simp only [Option.bind_eq_some_iff] at h
    obtain ⟨x', hx, h⟩ := h
    injection h with h; injection h with e1 e2; exact e2.symm
  ·split at h
   ·cases h
   ·simp only [Option.bind_eq_some_iff] at h ⊢
    obtain ⟨x', hx, h⟩ := h
    injection h with h; injection h with e1 e2; exact ⟨x', hx, by rw [e1]⟩
 case makeFunc f first captured =>
  cases f <;> simp only [reduceCtorEq, Option.bind_eq_bind, Option.bind_eq_some_iff] at h ⊢
  obtain ⟨x, hx, y, hy, h⟩ := h
  injection h with h; injection h with e1 e2
  exact ⟨e2.symm, fun s2 => ⟨x, hx, y, hy, by rw [e1]⟩⟩
 case nilCheck x =>
  simp only [Option.bind_eq_bind, Option.bind_eq_some_iff] at h ⊢
  obtain ⟨d, hd, h⟩ := h
  cases d <;> simp only [reduceCtorEq] at h <;> (injection h with h; injection h with e1 e2; exact ⟨e2.symm, fun s2 => ⟨_, hd, by rw [← e1]⟩⟩)
 case extract x i =>
  simp only [Option.bind_eq_bind, Option.bind_eq_some_iff] at h ⊢
  obtain ⟨d, hd, h⟩ := h
  cases d <;> simp only [reduceCtorEq] at h
  exact ⟨(map_fst h).1, fun s2 => ⟨_, hd, (map_fst h).2 s2⟩⟩
 all_goals first
  | (cases h; done)
  | (
   simp only [Option.bind_eq_bind, Option.bind_eq_some_iff] at h ⊢
   obtain ⟨x, hx, h⟩ := h
   first
    | (injection h with h; injection h with e1 e2; exact ⟨e2.symm, fun s2 => ⟨x, hx, by rw [e1]⟩⟩)
    | (
     obtain ⟨y, hy, h⟩ := h
     first
      | (injection h with h; injection h with e1 e2; exact ⟨e2.symm, fun s2 => ⟨x, hx, y, hy, by rw [e1]⟩⟩)
      | (
       obtain ⟨z, hz, h⟩ := h
       injection h with h; injection h with e1 e2; exact ⟨e2.symm, fun s2 => ⟨x, hx, y, hy, z, hz, by rw [e1]⟩⟩)))

theorem turns_looks {fr : List AV} {op : Op} (h : turns P prims fr op = true) : looks op = true := by
 cases op <;> simp only [turns, looks] at h ⊢ <;> first | rfl | exact h | cases h

theorem noturn (hq : Quiet prims call) {o : Oper} {fr : List AV} {s s' : St} {v : AV} (ht : turns P prims fr o.op = false) (h : aOp P call o fr s = some (v, s')) : s' = s := by
 cases hl : looks o.op with
 | false => exact (nolook hl h).1
 | true =>
  obtain ⟨dst, op, type, pos, after, guard⟩ := o
  cases op <;> simp only [looks, reduceCtorEq, Bool.false_eq_true] at hl <;> simp only [turns, looks, Bool.true_eq_false] at ht <;> simp only [aOp] at h
  case load t a =>
   simp only [Option.bind_eq_bind, Option.bind_eq_some_iff] at h
   obtain ⟨x, hx, y, hy, h⟩ := h
   injection h with h; injection h with e1 e2; exact e2.symm
  case convert src dst x =>
   simp only [Option.bind_eq_bind, Option.bind_eq_some_iff] at h
   obtain ⟨y, hy, h⟩ := h
   simp only [aConvert, Option.bind_eq_bind, Option.bind_eq_some_iff] at h
   obtain ⟨d1, hd1, d2, hd2, h⟩ := h
   simp only [convTurns, hd2] at ht
   split at h <;> first
    | (injection h with h; injection h with e1 e2; exact e2.symm)
    | (cases ht; done)
    | skip
   ·split at h
    ·split at h
     ·injection h with h; injection h with e1 e2; exact e2.symm
     ·injection h with h; injection h with e1 e2; exact e2.symm
     ·simp only [Option.bind_eq_some_iff] at h
      obtain ⟨r, hr, h⟩ := h
      split at h
      ·simp only [Option.map_eq_some_iff] at h
       obtain ⟨l, hl, h⟩ := h
       injection h with e1 e2; exact e2.symm
      ·cases h
    ·cases h
   ·cases h
  case lookup t x k ok =>
   simp only [Option.bind_eq_bind, Option.bind_eq_some_iff] at h
   obtain ⟨x, hx, y, hy, r, hr, h⟩ := h
   injection h with h; injection h with e1 e2; exact e2.symm
  case call c =>
   simp only [Option.bind_eq_bind, Option.bind_eq_some_iff] at h
   obtain ⟨args, ha, h⟩ := h
   cases hc : c.callee with
   | invoke r m => simp only [hc, Bool.true_eq_false] at ht
   | builtin b =>
    simp only [hc] at h ht
    cases b <;> simp only [Bool.true_eq_false] at ht <;> simp only [aBuiltin] at h <;> split at h <;> first
     | (cases h; done)
     | (rename_i hh _; cases hh; done)
     | (rename_i hh; cases hh; done)
     | (rename_i hh _ _; cases hh; done)
     | (
      simp only [Option.bind_eq_bind, Option.bind_eq_some_iff] at h
      obtain ⟨x, hx, y, hy, h⟩ := h
      injection h with h; injection h with e1 e2; exact e2.symm)
     | (injection h with h; injection h with e1 e2; exact e2.symm)
   | value f =>
    simp only [hc, Option.bind_eq_some_iff] at h
    obtain ⟨fv, hf, h⟩ := h
    simp only [hc, hf] at ht
    cases fv <;> simp only [reduceCtorEq] at h
    exact (hq _ _ _ _ _ ht h).1

/-! ### The run in the text's order -/
def DStep (P : Program) (call : FuncId → List AV → St → Option (AV × St)) (prims : Prims) (ops : Array Oper) (b : Array Nat) (j : Nat) (f : List AV) (s : St) (v : AV) (f' : List AV) (s' : St) : Prop :=
 ∃ o, ops[j]? = some o ∧ f' = aPut f o.dst v ∧
  ((Region.wanted o (aYield ops f) = true ∧ (turns P prims f o.op = true → lone prims ops b j = true) ∧ aOp P call o f s = some (v, s')) ∨
   (Region.wanted o (aYield ops f) = false ∧ v = .undef ∧ s' = s))
theorem draw_trace {ops : Array Oper} {b : Array Nat} : ∀ (k i : Nat) {fr fr' : List AV} {s s' : St}, aDraw P call prims ops b (List.range' i k) fr s = some (fr', s') →
  ∃ (frs : Nat → List AV) (ss : Nat → St) (vs : Nat → AV), frs i = fr ∧ ss i = s ∧ frs (i + k) = fr' ∧ ss (i + k) = s' ∧ ∀ j, i ≤ j → j < i + k → DStep P call prims ops b j (frs j) (ss j) (vs j) (frs (j + 1)) (ss (j + 1))
 | 0, i, fr, fr', s, s', h => by
  simp only [List.range'_zero, aDraw] at h
  injection h with h; injection h with e1 e2
  exact ⟨fun _ => fr, fun _ => s, fun _ => .undef, rfl, rfl, e1, e2, fun j h1 h2 => by omega⟩
 | k + 1, i, fr, fr', s, s', h => by
  simp only [List.range'_succ, aDraw] at h
  cases ho : ops[i]? with
  | none => simp [ho] at h
  | some o =>
   simp only [ho] at h
   have key : ∀ v s1, DStep P call prims ops b i fr s v (aPut fr o.dst v) s1 → aDraw P call prims ops b (List.range' (i + 1) k) (aPut fr o.dst v) s1 = some (fr', s') →
     ∃ (frs : Nat → List AV) (ss : Nat → St) (vs : Nat → AV), frs i = fr ∧ ss i = s ∧ frs (i + (k + 1)) = fr' ∧ ss (i + (k + 1)) = s' ∧ ∀ j, i ≤ j → j < i + (k + 1) → DStep P call prims ops b j (frs j) (ss j) (vs j) (frs (j + 1)) (ss (j + 1)) := by
    intro v s1 hst hr
    obtain ⟨frs, ss, vs, h1, h2, h3, h4, h5⟩ := draw_trace k (i + 1) hr
    have e : i + (k + 1) = i + 1 + k := by omega
    refine ⟨fun m => if m = i then fr else frs m, fun m => if m = i then s else ss m, fun m => if m = i then v else vs m, by simp, by simp, ?_, ?_, ?_⟩
    ·simp only [e]; rw [if_neg (by omega)]; exact h3
    ·simp only [e]; rw [if_neg (by omega)]; exact h4
    ·intro j hj1 hj2
     by_cases hji : j = i
     ·subst hji
      simp only [if_true]
      rw [if_neg (by omega), if_neg (by omega), h1, h2]
      exact hst
     ·simp only [if_neg hji]
      rw [if_neg (by omega), if_neg (by omega)]
      exact h5 j (by omega) (by omega)
   split at h
   ·rename_i hw
    split at h
    ·cases h
    ·rename_i hl
     split at h
     ·rename_i v s1 hop
      exact key v s1 ⟨o, ho, rfl, .inl ⟨hw, fun ht => by simpa [ht] using hl, hop⟩⟩ h
     ·cases h
   ·rename_i hw
    exact key .undef s ⟨o, ho, rfl, .inr ⟨by simpa using hw, rfl, rfl⟩⟩ h

/-! ### Who wrote last -/
def lastv (ops : Array Oper) (vs : Nat → AV) (fr : List AV) (S : Nat → Bool) (t : Tmp) : Nat → Option AV
 | 0 => fr[t]?
 | m + 1 => if S m && ((ops[m]?).bind (·.dst)) == some t then (fr[t]?).map fun _ => vs m else lastv ops vs fr S t m
theorem lastv_congr {ops : Array Oper} {vs : Nat → AV} {fr : List AV} {S S' : Nat → Bool} {t : Tmp} : ∀ (m : Nat), (∀ j, j < m → (ops[j]?).bind (·.dst) = some t → S j = S' j) → lastv ops vs fr S t m = lastv ops vs fr S' t m
 | 0, _ => rfl
 | m + 1, h => by
  simp only [lastv]
  rw [lastv_congr m fun j hj => h j (by omega)]
  by_cases hd : (ops[m]?).bind (·.dst) = some t
  ·rw [h m (by omega) hd]
  ·have hb : ((ops[m]?).bind (·.dst) == some t) = false := by simpa using hd
   simp only [hb, Bool.and_false]
theorem lastv_cut {ops : Array Oper} {vs : Nat → AV} {fr : List AV} {S : Nat → Bool} {t : Tmp} (i : Nat) : ∀ (m : Nat), i ≤ m → (∀ j, i ≤ j → j < m → (ops[j]?).bind (·.dst) = some t → S j = false) → lastv ops vs fr S t m = lastv ops vs fr S t i
 | 0, hi, _ => by
  have : i = 0 := by omega
  subst this; rfl
 | m + 1, hi, h => by
  by_cases e : i = m + 1
  ·subst e; rfl
  ·simp only [lastv]
   rw [lastv_cut i m (by omega) fun j h1 h2 => h j h1 (by omega)]
   by_cases hd : (ops[m]?).bind (·.dst) = some t
   ·rw [h m (by omega) (by omega) hd]; simp
   ·have hb : ((ops[m]?).bind (·.dst) == some t) = false := by simpa using hd
    simp only [hb, Bool.and_false, Bool.false_eq_true, if_false]
theorem aPut_get {fr : List AV} {d : Option Tmp} {v : AV} (t : Tmp) : (aPut fr d v)[t]? = if d == some t then (fr[t]?).map fun _ => v else fr[t]? := by
 cases d with
 | none => rfl
 | some d =>
  simp only [aPut]
  by_cases h : d = t
  ·subst h
   have hb : (some d == some d) = true := by simp
   rw [hb, if_pos rfl, List.getElem?_set, if_pos rfl]
   cases hx : fr[d]? with
   | none => rw [List.getElem?_eq_none_iff] at hx; rw [if_neg (by omega)]; rfl
   | some x => have := (List.getElem?_eq_some_iff.1 hx).1; rw [if_pos this]; rfl
  ·have hb : (some d == some t) = false := by simpa using h
   rw [hb]; simp [List.getElem?_set, h]
theorem aPut_len {fr : List AV} {d : Option Tmp} {v : AV} : (aPut fr d v).length = fr.length := by cases d <;> simp [aPut]
def lasts (tn : Nat → Bool) (ss : Nat → St) (s : St) (S : Nat → Bool) : Nat → St
 | 0 => s
 | m + 1 => if S m && tn m then ss (m + 1) else lasts tn ss s S m
theorem lasts_congr {tn : Nat → Bool} {ss : Nat → St} {s : St} {S S' : Nat → Bool} : ∀ (m : Nat), (∀ j, j < m → tn j = true → S j = S' j) → lasts tn ss s S m = lasts tn ss s S' m
 | 0, _ => rfl
 | m + 1, h => by
  simp only [lasts]
  rw [lasts_congr m fun j hj => h j (by omega)]
  by_cases ht : tn m = true
  ·rw [h m (by omega) ht]
  ·have ht : tn m = false := by simpa using ht
   simp [ht]
theorem lasts_cut {tn : Nat → Bool} {ss : Nat → St} {s : St} {S : Nat → Bool} (i : Nat) : ∀ (m : Nat), i ≤ m → (∀ j, i ≤ j → j < m → tn j = true → S j = false) → lasts tn ss s S m = lasts tn ss s S i
 | 0, hi, _ => by
  have : i = 0 := by omega
  subst this; rfl
 | m + 1, hi, h => by
  by_cases e : i = m + 1
  ·subst e; rfl
  ·simp only [lasts]
   rw [lasts_cut i m (by omega) fun j h1 h2 => h j h1 (by omega)]
   by_cases ht : tn m = true
   ·rw [h m (by omega) (by omega) ht]; simp
   ·have ht : tn m = false := by simpa using ht
    simp [ht]

theorem lasts_at {tn : Nat → Bool} {ss : Nat → St} {s : St} {S : Nat → Bool} (h0 : ss 0 = s) : ∀ n, ∃ q, q ≤ n ∧ lasts tn ss s S n = ss q ∧ (∀ j, q ≤ j → j < n → tn j = true → S j = false) ∧ (q = 0 ∨ ∃ p, q = p + 1 ∧ S p = true ∧ tn p = true)
 | 0 => ⟨0, Nat.le_refl _, h0.symm, fun j _ h => absurd h (Nat.not_lt_zero j), .inl rfl⟩
 | n + 1 => by
  unfold lasts
  cases hb : S n && tn n with
  | true =>
   rw [if_pos rfl]
   simp only [Bool.and_eq_true] at hb
   exact ⟨n + 1, Nat.le_refl _, rfl, fun j h1 h2 => by omega, .inr ⟨n, rfl, hb.1, hb.2⟩⟩
  | false =>
   rw [if_neg (by simp)]
   obtain ⟨q, h1, h2, h3, h4⟩ := lasts_at (tn := tn) (S := S) h0 n
   refine ⟨q, by omega, h2, fun j g1 g2 g3 => ?_, h4⟩
   by_cases e : j = n
   ·subst e
    rw [g3, Bool.and_true] at hb
    exact hb
   ·exact h3 j g1 (by omega) g3
theorem bits_lt {ops : Array Oper} (hlt : ∀ (i : Nat) (o : Oper), ops[i]? = some o → ∀ e ∈ o.after, Region.binds .any e = true → e.on < i) : ∀ (i j : Nat), ((Region.before ops).getD i 0).testBit j = true → j < i := by
 intro i
 induction i using Nat.strongRecOn with
 | ind i ih =>
  intro j h
  cases ho : ops[i]? with
  | none =>
   have hsz : (Region.before ops).size = ops.size := by rw [before_eq, bfold_size]; simp
   have : (Region.before ops)[i]? = none := by rw [Array.getElem?_eq_none_iff] at ho ⊢; omega
   rw [Array.getD_eq_getD_getElem?, this] at h
   simp at h
  | some o =>
   obtain ⟨e, he, hb, h'⟩ := (before_spec ho (hlt i o ho) j).1 h
   have h1 := hlt i o ho e he hb
   rcases h' with rfl | h'
   ·exact h1
   ·exact Nat.lt_trans (ih e.on h1 j h') h1

def left (S : Nat → Bool) : Nat → Nat
 | 0 => 0
 | m + 1 => left S m + if S m then 0 else 1
theorem left_zero {S : Nat → Bool} : ∀ (m : Nat), left S m = 0 → ∀ j, j < m → S j = true
 | 0, _, j, hj => by omega
 | m + 1, h, j, hj => by
  simp only [left] at h
  by_cases e : j = m
  ·subst e
   cases hs : S j with
   | true => rfl
   | false => simp [hs] at h
  ·exact left_zero m (by omega) j (by omega)
theorem left_same {S S' : Nat → Bool} : ∀ (m : Nat), (∀ j, j < m → S' j = S j) → left S' m = left S m
 | 0, _ => rfl
 | m + 1, h => by simp only [left]; rw [left_same m fun j hj => h j (by omega), h m (by omega)]
theorem left_set {S S' : Nat → Bool} {i : Nat} (hi : S i = false) (hi' : S' i = true) (hne : ∀ j, j ≠ i → S' j = S j) : ∀ (m : Nat), i < m → left S m = left S' m + 1
 | 0, h => by omega
 | m + 1, h => by
  simp only [left]
  by_cases e : i = m
  ·subst e
   rw [hi, hi', left_same i fun j hj => hne j (by omega)]
   simp
  ·rw [left_set hi hi' hne m (by omega), hne m (Ne.symm e)]
   omega

theorem clash_spec {ops : Array Oper} {b : Array Nat} {i : Nat} {o : Oper} (h : clash ops b i o = false) {d : Tmp} (hd : o.dst = some d) {j : Nat} {p : Oper} (hj : ops[j]? = some p) (hne : j ≠ i) (hx : d ∈ p.looksAt ops ∨ p.dst = some d) : comparable b i j = true := by
 unfold clash at h
 rw [hd] at h
 simp only [List.any_eq_false, List.mem_range] at h
 have h1 := h j (Array.getElem?_eq_some_iff.1 hj).1
 simp only [hj] at h1
 cases hc : comparable b i j with
 | true => rfl
 | false =>
  exfalso
  apply h1
  have e1 : (j != i) = true := by simpa using hne
  rw [e1, hc]
  rcases hx with hx | hx
  ·simp [hx]
  ·simp [hx]
theorem lone_spec {ops : Array Oper} {b : Array Nat} {i : Nat} (h : lone prims ops b i = true) {j : Nat} {p : Oper} (hj : ops[j]? = some p) (hne : j ≠ i) (hl : looks p.op = true) : comparable b i j = true ∨ ((mildA ops i = true ∨ ahead j (freshAt ops i) = true) ∧ seer prims p.op = true ∧ mildR prims ops = true) := by
 unfold lone at h
 simp only [List.all_eq_true, List.mem_range] at h
 have h1 := h j (Array.getElem?_eq_some_iff.1 hj).1
 simp only [hj, hl, Bool.not_true, Bool.or_false, Bool.or_eq_true, beq_iff_eq, hne, false_or, Bool.and_eq_true] at h1
 rcases h1 with h1 | h1
 ·exact .inl h1
 ·exact .inr ⟨h1.1.1, h1.1.2, h1.2⟩
/-! ### Appends to rows of the region's own, and loads from elsewhere -/
def rowU (v : AV) : Prop := v = .undef ∨ v = .nils ∨ (∃ z, v = .emp z) ∨ ∃ k xs c, v = .vec k xs c
def Mild (s s' : St) : Prop := s.c ≤ s'.c ∧ s'.g = s.g ∧ ∀ n cs, n < s.c → (hget s'.h n = some (.cells cs) ↔ hget s.h n = some (.cells cs))
theorem Mild.refl (s : St) : Mild s s := ⟨Nat.le_refl _, rfl, fun _ _ _ => Iff.rfl⟩
theorem Mild.new (s : St) (o : AO) : Mild s (s.new o) := ⟨Nat.le_succ _, rfl, fun n cs hn => by
 show hget ((s.c, o) :: s.h) n = _ ↔ _
 have : ¬ n = s.c := by omega
 simp only [hget, this, if_false]⟩
theorem Mild.delTok {s : St} {t : Nat} (h : hget s.h t = some .tok) : Mild s (s.del t) := ⟨Nat.le_refl _, rfl, fun n cs hn => by
 show hget (hdel s.h t) n = _ ↔ _
 by_cases e : n = t
 ·subst e
  rw [hget_hdel_same, h]
  exact ⟨fun e => (by cases e), fun e => (by cases e)⟩
 ·rw [hget_hdel_other e]⟩
theorem Mild.trans {s s1 s2 : St} (h : Mild s s1) (k : Mild s1 s2) : Mild s s2 := ⟨Nat.le_trans h.1 k.1, k.2.1.trans h.2.1, fun n cs hn => (k.2.2 n cs (Nat.lt_of_lt_of_le hn h.1)).trans (h.2.2 n cs hn)⟩
def Wf (s : St) : Prop := ∀ n o, hget s.h n = some o → n < s.c
theorem Wf.new {s : St} (h : Wf s) (o : AO) : Wf (s.new o) := fun n x hx => by
 have hx : (if n = s.c then some o else hget s.h n) = some x := hx
 show n < s.c + 1
 split at hx
 ·omega
 ·have := h n x hx; omega
theorem Wf.del {s : St} (h : Wf s) (t : Nat) : Wf (s.del t) := fun n x hx => h n x (hget_hdel hx).2
theorem Wf.put {s : St} (h : Wf s) {m : Nat} {o o' : AO} (hm : hget s.h m = some o) : Wf (s.put m o') := fun n x hx => by
 rcases hget_hset hm hx with ⟨rfl, _⟩ | ⟨_, hx⟩
 ·exact h _ _ hm
 ·exact h _ _ hx
theorem grow_mild {k bytes : Nat} {xs ys : List AV} {s s' : St} {v : AV} (h : aGrow k bytes xs ys s = some (v, s')) : rowU v ∧ Mild s s' ∧ (Wf s → Wf s') := by
 unfold aGrow at h
 split at h
 ·injection h with h; injection h with e1 e2
  subst e1; subst e2
  exact ⟨.inr (.inr (.inr ⟨_, _, _, rfl⟩)), Mild.new _ _, fun hw => hw.new _⟩
 ·cases h
theorem append_mild {ts : Array TypeId} {a x : AV} {s s' : St} {v : AV} (h : aAppend P ts a x s = some (v, s')) (ha : rowU a) : rowU v ∧ Mild s s' ∧ (Wf s → Wf s') := by
 unfold aAppend at h
 simp only [Option.bind_eq_bind, Option.bind_eq_some_iff] at h
 obtain ⟨t, _, u, _, h⟩ := h
 split at h
 ·simp only [Option.bind_eq_some_iff] at h
  obtain ⟨t1, _, h⟩ := h
  split at h
  ·cases h
  ·cases h
  ·simp only [Option.bind_eq_some_iff] at h
   obtain ⟨k, _, i, _, z, _, ys, _, h⟩ := h
   split at h
   ·cases h
   ·rcases ha with rfl | rfl | ⟨z, rfl⟩ | ⟨k', xs, c, rfl⟩
    ·cases h
    ·simp only at h
     split at h
     ·injection h with h; injection h with e1 e2; subst e1; subst e2
      exact ⟨.inr (.inl rfl), Mild.refl _, fun hw => hw⟩
     ·exact grow_mild h
    ·simp only at h
     split at h
     ·injection h with h; injection h with e1 e2; subst e1; subst e2
      exact ⟨.inr (.inr (.inl ⟨_, rfl⟩)), Mild.refl _, fun hw => hw⟩
     ·split at h
      ·exact grow_mild h
      ·cases h
    ·simp only at h
     split at h
     ·cases h
     ·split at h
      ·injection h with h; injection h with e1 e2; subst e1; subst e2
       exact ⟨.inr (.inr (.inr ⟨_, _, _, rfl⟩)), Mild.refl _, fun hw => hw⟩
      ·cases c with
       | tight => exact grow_mild h
       | unk => cases h
       | tok t =>
        simp only at h
        split at h
        ·rename_i ht
         have := grow_mild h
         exact ⟨this.1, (Mild.delTok ht).trans this.2.1, fun hw => this.2.2 (hw.del _)⟩
        ·cases h
 ·cases h
theorem lastv_def {ops : Array Oper} {vs : Nat → AV} {fr : List AV} {t : Tmp} : ∀ (m : Nat), (∀ d, defOf ops t m = some d → d < m ∧ lastv ops vs fr (fun _ => true) t m = (fr[t]?).map fun _ => vs d) ∧ (defOf ops t m = none → lastv ops vs fr (fun _ => true) t m = fr[t]?)
 | 0 => ⟨fun d h => (by cases h), fun _ => rfl⟩
 | m + 1 => by
  obtain ⟨h1, h2⟩ := lastv_def (ops := ops) (vs := vs) (fr := fr) (t := t) m
  simp only [defOf, lastv, Bool.true_and]
  split
  ·refine ⟨fun d h => ?_, fun h => (by cases h)⟩
   injection h with h
   subst h
   exact ⟨Nat.lt_succ_self _, rfl⟩
  ·exact ⟨fun d h => ⟨Nat.lt_succ_of_lt (h1 d h).1, (h1 d h).2⟩, h2⟩
theorem drawOk_spec {ops : Array Oper} (h : drawOk P ops = true) : P.follows .mixedOrders = true ∧ ∀ (i : Nat) (o : Oper), ops[i]? = some o → clash ops (Region.before ops) i o = false ∧ ∀ e ∈ o.after, Region.binds .any e = true → e.on < i := by
 unfold drawOk at h
 simp only [Bool.and_eq_true, List.all_eq_true] at h
 refine ⟨h.1, fun i o ho => ?_⟩
 have hm : (o, i) ∈ ops.toList.zipIdx := by
  rw [List.mem_zipIdx_iff_getElem?]
  simpa using ho
 have h1 := h.2 (o, i) hm
 simp only [Bool.not_eq_true', Array.all_eq_true_iff_forall_mem, decide_eq_true_eq] at h1
 exact ⟨h1.1.1, fun e he hb => by
  have := h1.1.2 e he
  rw [hb] at this
  simpa using this⟩

def tnOf (P : Program) (prims : Prims) (ops : Array Oper) (frs : Nat → List AV) (j : Nat) : Bool := match ops[j]? with
  | some o => Region.wanted o (aYield ops (frs j)) && turns P prims (frs j) o.op
  | none => false
structure DInv (P : Program) (prims : Prims) (base : Nat) (ρ : Pl) (X : Reg) (w0 : World) (ops : Array Oper) (fr : List AV) (s : St) (frs : Nat → List AV) (ss : Nat → St) (vs : Nat → AV) (fuel : Nat) (listed : Array Bool) (F : List AV) (T : St) (a : Act) (w : World) : Prop where
 sz : listed.size = ops.size
 cl : ∀ k j, listed.getD k false = true → ((Region.before ops).getD k 0).testBit j = true → listed.getD j false = true
 len : F.length = fr.length
 hF : ∀ t : Tmp, F[t]? = lastv ops vs fr (fun j => listed.getD j false) t ops.size
 hT : T = lasts (tnOf P prims ops frs) ss s (fun j => listed.getD j false) ops.size
 fu : left (fun j => listed.getD j false) ops.size ≤ fuel
 p : PostF base ρ X s w0 F T a w
variable {base : Nat}
theorem draw_main (hcall : CallOk P base call) (hq : Quiet prims call) {ops : Array Oper} {Q : Exit → Act → World → Prop} {fr fr' : List AV} {s s' : St} {a0 : Act} {w0 : World} {ρ : Pl} {X : Reg} (hok : drawOk P ops = true) (hb : base ≤ w0.heap.size)
  (h : Sim base ρ X s w0) (ho : aDraw P call prims ops (Region.before ops) (List.range ops.size) fr s = some (fr', s'))
  (hQ : ∀ a w, PostF base ρ X s w0 fr' s' a w → Q .normal a w) :
  ∃ (frs : Nat → List AV) (ss : Nat → St) (vs : Nat → AV), frs 0 = fr ∧ ss 0 = s ∧ (∀ j, j < ops.size → DStep P call prims ops (Region.before ops) j (frs j) (ss j) (vs j) (frs (j + 1)) (ss (j + 1))) ∧
   ∀ (M : Nat → Array Bool → Act → World → Prop), (∀ listed F T a w, DInv P prims base ρ X w0 ops fr s frs ss vs 0 listed F T a w → Region.ready .any ops listed = [] → Q .normal a w → M 0 listed a w) →
    (∀ fuel listed F T a w, DInv P prims base ρ X w0 ops fr s frs ss vs (fuel + 1) listed F T a w → (Region.ready .any ops listed = [] → Q .normal a w) → (∀ i ∈ Region.ready .any ops listed, wpOp P ops Q i (M fuel (listed.setIfInBounds i true)) a w) → M (fuel + 1) listed a w) →
    ∀ fuel listed F T a w, DInv P prims base ρ X w0 ops fr s frs ss vs fuel listed F T a w → M fuel listed a w := by
 obtain ⟨hm, hall⟩ := drawOk_spec hok
 have hlt : ∀ (i : Nat) (o : Oper), ops[i]? = some o → ∀ e ∈ o.after, Region.binds .any e = true → e.on < i := fun i o hi => (hall i o hi).2
 rw [List.range_eq_range'] at ho
 obtain ⟨frs, ss, vs, t0, t1, t2, t3, t4⟩ := draw_trace ops.size 0 ho
 rw [Nat.zero_add] at t2 t3
 let B := Region.before ops
 let n := ops.size
 let tn : Nat → Bool := tnOf P prims ops frs
 have tframe : ∀ m, m ≤ n → ∀ t : Tmp, (frs m)[t]? = lastv ops vs fr (fun _ => true) t m := by
  intro m
  induction m with
  | zero => intro _ t; rw [t0]; rfl
  | succ m ih =>
   intro hm t
   obtain ⟨o, h1, h2, _⟩ := t4 m (by omega) (by omega)
   have hl : ∀ x : Tmp, ((frs m)[x]?).isSome = (fr[x]?).isSome := by
    have : ∀ k, k ≤ m → (frs k).length = fr.length := by
     intro k
     induction k with
     | zero => intro _; rw [t0]
     | succ k ihk =>
      intro hk
      obtain ⟨_, _, h2', _⟩ := t4 k (by omega) (by have : m < n := hm; show k < 0 + ops.size; have : n = ops.size := rfl; omega)
      rw [h2', aPut_len]; exact ihk (by omega)
    intro x
    have hlen := this m (Nat.le_refl m)
    by_cases hx : x < fr.length
    ·simp [hx, hlen]
    ·simp [hx, hlen]
   rw [h2, aPut_get]
   simp only [lastv, h1, Option.bind_some, Bool.true_and]
   split
   ·have := hl t
    cases e1 : (frs m)[t]? <;> cases e2 : fr[t]? <;> simp [e1, e2] at this ⊢
   ·exact ih (by omega) t
 have tstate : ∀ m, m ≤ n → ss m = lasts tn ss s (fun _ => true) m := by
  intro m
  induction m with
  | zero => intro _; rw [t1]; rfl
  | succ m ih =>
   intro hm
   obtain ⟨o, h1, h2, h3⟩ := t4 m (by omega) (by omega)
   simp only [lasts, Bool.true_and]
   cases ht : tn m with
   | true => rfl
   | false =>
    simp only [Bool.false_eq_true, if_false]
    rw [← ih (by omega)]
    have ht' : (Region.wanted o (aYield ops (frs m)) && turns P prims (frs m) o.op) = false := by
     have : tn m = (Region.wanted o (aYield ops (frs m)) && turns P prims (frs m) o.op) := by show tnOf P prims ops frs _ = _; unfold tnOf; rw [h1]
     rw [← this]; exact ht
    rcases h3 with ⟨hw, _, hop⟩ | ⟨hw, _, e⟩
    ·rw [hw, Bool.true_and] at ht'
     exact noturn hq ht' hop
    ·exact e
 have rowAt : ∀ k j, j < n → mildS ops k j = true → rowU (vs j) ∧ Mild (ss j) (ss (j + 1)) ∧ (Wf (ss j) → Wf (ss (j + 1))) := by
  intro k
  induction k with
  | zero => intro j _ h; cases h
  | succ k ih =>
   intro j hj hm
   unfold mildS at hm
   obtain ⟨o, h1, h2, h3⟩ := t4 j (by omega) (by show j < 0 + ops.size; have : n = ops.size := rfl; omega)
   rw [h1, Option.bind_some] at hm
   split at hm
   ·rename_i t ht
    split at hm
    ·rename_i d hd
     obtain ⟨hdj, hl⟩ := (lastv_def (vs := vs) (fr := fr) j).1 d hd
     have hvd : rowU (vs d) := by
      rcases Bool.or_eq_true_iff.1 hm with hb | hk
      ·obtain ⟨p, p1, p2, p3⟩ := t4 d (by omega) (by show d < 0 + ops.size; have : n = ops.size := rfl; omega)
       rw [p1, Option.map_some, beq_iff_eq] at hb
       injection hb with hb
       rcases p3 with ⟨_, _, hop⟩ | ⟨_, e, _⟩
       ·obtain ⟨dst, op, type, pos, after, guard⟩ := p
        cases op <;> simp only [isBuild, reduceCtorEq, Bool.false_eq_true] at hb
        simp only [aOp, Option.bind_eq_bind, Option.bind_eq_some_iff] at hop
        obtain ⟨ps, _, r, hr, hop⟩ := hop
        injection hop with hop; injection hop with e1 e2
        subst e1
        unfold aBuildSlice at hr
        simp only [Option.bind_eq_bind, Option.bind_eq_some_iff] at hr
        obtain ⟨_, _, hr⟩ := hr
        split at hr
        ·simp only [Option.bind_eq_some_iff] at hr
         obtain ⟨_, _, _, _, hr⟩ := hr
         split at hr
         ·cases hr
         ·simp only [Option.bind_eq_some_iff] at hr
          obtain ⟨_, _, hr⟩ := hr
          split at hr
          ·cases hr
          ·simp only [Option.bind_eq_some_iff] at hr
           obtain ⟨_, _, hr⟩ := hr
           split at hr
           ·injection hr with hr
            exact .inr (.inr (.inr ⟨_, _, _, hr.symm⟩))
           ·cases hr
        ·cases hr
       ·exact .inl e
      ·exact (ih d (by omega) hk).1
     rcases h3 with ⟨_, _, hop⟩ | ⟨_, e, es⟩
     ·obtain ⟨dst, op, type, pos, after, guard⟩ := o
      unfold appBase at ht
      split at ht
      ·rename_i c args ts hop'
       split at ht
       ·rename_i t' rest hargs
        injection ht with ht
        subst ht
        subst hop'
        simp only [aOp, hargs, Option.bind_eq_bind, Option.bind_eq_some_iff] at hop
        obtain ⟨aS, has, hop⟩ := hop
        unfold aEvals at has
        rw [List.mapM_cons] at has
        simp only [Option.bind_eq_bind, Option.bind_eq_some_iff, aEval, Option.pure_def] at has
        obtain ⟨a1, ha1, a2, _, has⟩ := has
        injection ha1 with ha1
        injection has with has
        subst has
        have ha : rowU a1 := by
         rw [← ha1, List.getD_eq_getElem?_getD, tframe j (by omega) _, hl]
         cases fr[t']? with
         | none => exact .inl rfl
         | some _ => exact hvd
        simp only [aBuiltin] at hop
        split at hop <;> first
         | (rename_i e1 e2; cases e1; done)
         | skip
        all_goals first
         | (rename_i e2; injection e2 with e3 e4; subst e3; exact append_mild hop ha)
         | (rename_i e2 _; injection e2 with e3 e4; subst e3; exact append_mild hop ha)
         | (rename_i _ e2; injection e2 with e3 e4; subst e3; exact append_mild hop ha)
         | (cases hop; done)
         | skip
       ·cases ht
      ·cases ht
     ·rw [es]; exact ⟨.inl e, Mild.refl _, fun hw => hw⟩
    ·cases hm
   ·cases hm
 have mildAt : ∀ j, j < n → mildA ops j = true → Mild (ss j) (ss (j + 1)) ∧ (Wf (ss j) → Wf (ss (j + 1))) := by
  intro j hj hm
  rcases Bool.or_eq_true_iff.1 hm with hm | hm
  ·exact (rowAt _ j hj hm).2
  ·obtain ⟨o, h1, h2, h3⟩ := t4 j (by omega) (by show j < 0 + ops.size; have : n = ops.size := rfl; omega)
   rw [h1] at hm
   rcases h3 with ⟨_, _, hop⟩ | ⟨_, _, es⟩
   ·obtain ⟨dst, op, type, pos, after, guard⟩ := o
    have nv : ∀ {v : AV} {r : AV × St}, aNewVar v (ss j) = some r → Mild (ss j) r.2 ∧ (Wf (ss j) → Wf r.2) := by
     intro v r hr
     unfold aNewVar at hr
     split at hr
     ·injection hr with hr
      rw [← hr]
      exact ⟨Mild.new _ _, fun hw => hw.new _⟩
     ·cases hr
    cases op <;> simp only [isLay, Bool.false_eq_true] at hm
    ·simp only [aOp, aAlloc, Option.bind_eq_bind, Option.bind_eq_some_iff] at hop
     obtain ⟨z, _, hop⟩ := hop
     exact nv hop
    ·simp only [aOp, Option.bind_eq_bind, Option.bind_eq_some_iff] at hop
     obtain ⟨z, _, hop⟩ := hop
     exact nv hop
   ·rw [es]; exact ⟨Mild.refl _, fun hw => hw⟩
 have tameAt : mildR prims ops = true → ∀ j, j < n → (ss j).c ≤ (ss (j + 1)).c ∧ (ss (j + 1)).g = (ss j).g ∧ (Wf (ss j) → Wf (ss (j + 1))) := by
  intro hR j hj
  obtain ⟨o, h1, h2, h3⟩ := t4 j (by omega) (by show j < 0 + ops.size; have : n = ops.size := rfl; omega)
  unfold mildR at hR
  rw [List.all_eq_true] at hR
  have hR := hR j (List.mem_range.2 hj)
  rw [h1] at hR
  rcases Bool.or_eq_true_iff.1 hR with hm | ht
  ·have := mildAt j hj hm
   exact ⟨this.1.1, this.1.2.1, this.2⟩
  ·rcases h3 with ⟨_, _, hop⟩ | ⟨_, _, es⟩
   ·have stay : turns P prims (frs j) o.op = false → (ss j).c ≤ (ss (j + 1)).c ∧ (ss (j + 1)).g = (ss j).g ∧ (Wf (ss j) → Wf (ss (j + 1))) := fun hn => by rw [noturn hq hn hop]; exact ⟨Nat.le_refl _, rfl, fun hw => hw⟩
    have still : looks o.op = false → (ss j).c ≤ (ss (j + 1)).c ∧ (ss (j + 1)).g = (ss j).g ∧ (Wf (ss j) → Wf (ss (j + 1))) := fun hn => by rw [(nolook hn hop).1]; exact ⟨Nat.le_refl _, rfl, fun hw => hw⟩
    cases hop' : o.op with
    | load t x => exact stay (by rw [hop']; rfl)
    | store t x y =>
     obtain ⟨dst, op, type, pos, after, guard⟩ := o
     have hop' : op = .store t x y := hop'
     subst hop'
     simp only [aOp, Option.bind_eq_bind, Option.bind_eq_some_iff] at hop
     obtain ⟨x1, _, x2, _, s2, hs2, hop⟩ := hop
     injection hop with hop; injection hop with e1 e2
     subst e2
     unfold aStore at hs2
     split at hs2
     ·split at hs2
      ·unfold aStoreAt at hs2
       split at hs2
       ·split at hs2
        ·rename_i hgc _
         injection hs2 with hs2
         rw [← hs2]
         exact ⟨Nat.le_refl _, rfl, fun hw => hw.put hgc⟩
        ·cases hs2
       ·cases hs2
      ·cases hs2
     ·cases hs2
    | call c =>
     obtain ⟨callee, args, ts⟩ := c
     rw [hop'] at ht
     cases callee with
     | builtin b => cases b <;> first | exact stay (by rw [hop']; rfl) | (simp [tame, looks] at ht; done)
     | value f =>
      cases f with
      | func g =>
       refine stay ?_
       have hg : (prims g).isSome = true := ht
       rw [hop']
       show (prims g).isNone = false
       cases hpg : prims g with
       | none => rw [hpg] at hg; cases hg
       | some _ => rfl
      | _ => simp [tame, looks] at ht
     | invoke f g => simp [tame, looks] at ht
    | _ => exact still (by rw [hop'] at ht ⊢; simpa [tame] using ht)
   ·rw [es]; exact ⟨Nat.le_refl _, rfl, fun hw => hw⟩
 have cAt : mildR prims ops = true → ∀ j, j ≤ n → Wf (ss j) ∧ (ss j).g = s.g := by
  intro hR j
  induction j with
  | zero => intro _; rw [t1]; exact ⟨h.lt, rfl⟩
  | succ j ih =>
   intro hj
   have h1 := ih (by omega)
   have h2 := tameAt hR j (by omega)
   exact ⟨h2.2.2 h1.1, h2.2.1.trans h1.2⟩
 have storeAt : ∀ j d, j < n → freshAt ops j = some d → d < j ∧ ∀ m cs, m < (ss d).c → (hget (ss (j + 1)).h m = some (.cells cs) ↔ hget (ss j).h m = some (.cells cs)) := by
  intro j d hj hf
  obtain ⟨o, h1, h2, h3⟩ := t4 j (by omega) (by show j < 0 + ops.size; have : n = ops.size := rfl; omega)
  unfold freshAt at hf
  rw [h1, Option.map_some] at hf
  split at hf
  ·rename_i ty a y hop'
   injection hop' with hop'
   split at hf
   ·rename_i d' hd
    split at hf
    ·rename_i te hal
     injection hf with hf
     subst hf
     obtain ⟨hdj, hl⟩ := (lastv_def (vs := vs) (fr := fr) j).1 d' hd
     refine ⟨hdj, fun m cs hm => ?_⟩
     rcases h3 with ⟨_, _, hop⟩ | ⟨_, _, es⟩
     ·obtain ⟨dst, op, type, pos, after, guard⟩ := o
      have hop' : op = .store ty (.tmp a) y := hop'
      subst hop'
      simp only [aOp, Option.bind_eq_bind, Option.bind_eq_some_iff, aEval] at hop
      obtain ⟨x1, hx1, x2, _, s2, hs2, hop⟩ := hop
      injection hx1 with hx1
      injection hop with hop; injection hop with e1 e2
      subst e2
      obtain ⟨p, p1, p2, p3⟩ := t4 d' (by omega) (by show d' < 0 + ops.size; have : n = ops.size := rfl; omega)
      rw [p1, Option.map_some] at hal
      injection hal with hal
      have hvd : vs d' = .undef ∨ vs d' = .ptr (ss d').c 0 := by
       rcases p3 with ⟨_, _, hop⟩ | ⟨_, e, _⟩
       ·obtain ⟨dst, op, type, pos, after, guard⟩ := p
        have hal : op = .alloc te := hal
        subst hal
        simp only [aOp, aAlloc, Option.bind_eq_bind, Option.bind_eq_some_iff] at hop
        obtain ⟨z, _, hop⟩ := hop
        unfold aNewVar at hop
        split at hop
        ·injection hop with hop; injection hop with e1 e2
         exact .inr e1.symm
        ·cases hop
       ·exact .inl e
      have hx : x1 = .undef ∨ x1 = .ptr (ss d').c 0 := by
       rw [← hx1, List.getD_eq_getElem?_getD, tframe j (by omega) _, hl]
       cases fr[a]? with
       | none => exact .inl rfl
       | some _ => exact hvd
      rcases hx with rfl | rfl
      ·simp [aStore] at hs2
      ·unfold aStore at hs2
       simp only at hs2
       split at hs2
       ·unfold aStoreAt at hs2
        split at hs2
        ·split at hs2
         ·injection hs2 with hs2
          rw [← hs2]
          show hget (hset (ss j).h (ss d').c _) m = _ ↔ _
          rw [hget_hset_other (by omega)]
         ·cases hs2
        ·cases hs2
       ·cases hs2
     ·rw [es]
    ·cases hf
   ·cases hf
  ·cases hf
 have monoAt : mildR prims ops = true → ∀ b a, a ≤ b → b ≤ n → (ss a).c ≤ (ss b).c := by
  intro hR b
  induction b with
  | zero => intro a ha _; rw [show a = 0 by omega]; exact Nat.le_refl _
  | succ b ih =>
   intro a ha hb
   by_cases e : a = b + 1
   ·rw [e]; exact Nat.le_refl _
   ·exact Nat.le_trans (ih a (by omega) (by omega)) (tameAt hR b (by omega)).1
 have viewAt : mildR prims ops = true → ∀ b a, a ≤ b → b ≤ n → (∀ j, a ≤ j → j < b → tn j = true → mildA ops j = true ∨ ∃ d, freshAt ops j = some d ∧ a ≤ d) → (ss a).c ≤ (ss b).c ∧ ∀ m cs, m < (ss a).c → (hget (ss b).h m = some (.cells cs) ↔ hget (ss a).h m = some (.cells cs)) := by
  intro hR b
  induction b with
  | zero => intro a ha _ _; rw [show a = 0 by omega]; exact ⟨Nat.le_refl _, fun _ _ _ => Iff.rfl⟩
  | succ b ih =>
   intro a ha hb hj
   by_cases e : a = b + 1
   ·rw [e]; exact ⟨Nat.le_refl _, fun _ _ _ => Iff.rfl⟩
   ·obtain ⟨i1, i2⟩ := ih a (by omega) (by omega) (fun j h1 h2 => hj j h1 (by omega))
    cases ht : tn b with
    | true =>
     rcases hj b (by omega) (by omega) ht with hmj | ⟨d, hd, had⟩
     ·have hm := (mildAt b (by omega) hmj).1
      exact ⟨Nat.le_trans i1 hm.1, fun m cs hmc => (hm.2.2 m cs (Nat.lt_of_lt_of_le hmc i1)).trans (i2 m cs hmc)⟩
     ·obtain ⟨hdb, hst⟩ := storeAt b d (by omega) hd
      exact ⟨Nat.le_trans i1 (tameAt hR b (by omega)).1, fun m cs hmc => (hst m cs (Nat.lt_of_lt_of_le hmc (monoAt hR d a had (by omega)))).trans (i2 m cs hmc)⟩
    | false =>
     have : ss (b + 1) = ss b := by
      rw [tstate (b + 1) hb]
      simp only [lasts, ht, Bool.and_false, Bool.false_eq_true, if_false]
      exact (tstate b (by omega)).symm
     rw [this]
     exact ⟨i1, i2⟩
 refine ⟨frs, ss, vs, t0, t1, fun j hj => t4 j (Nat.zero_le _) (by omega), fun M hM0 hMS => ?_⟩
 have main : ∀ (fuel : Nat) (listed : Array Bool) (F : List AV) (T : St) (a : Act) (w : World), listed.size = n →
   (∀ k j, listed.getD k false = true → (B.getD k 0).testBit j = true → listed.getD j false = true) →
   F.length = fr.length → (∀ t : Tmp, F[t]? = lastv ops vs fr (fun j => listed.getD j false) t n) → T = lasts tn ss s (fun j => listed.getD j false) n →
   left (fun j => listed.getD j false) n ≤ fuel → PostF base ρ X s w0 F T a w → M fuel listed a w := by
  intro fuel
  induction fuel with
  | zero =>
   intro listed F T a w hsz hcl hlen hF hT hfu hp
   have hS := left_zero n (by omega : left (fun j => listed.getD j false) n = 0)
   have hend : Q .normal a w := by
    refine hQ a w ?_
    have e1 : F = fr' := List.ext_getElem? fun t => by
     rw [hF t, ← t2, tframe n (Nat.le_refl n)]
     exact lastv_congr n fun j hj _ => hS j hj
    have e2 : T = s' := by
     rw [hT, ← t3, tstate n (Nat.le_refl n)]
     exact lasts_congr n fun j hj _ => hS j hj
    rw [← e1, ← e2]; exact hp
   refine hM0 listed F T a w ⟨hsz, hcl, hlen, hF, hT, hfu, hp⟩ ?_ hend
   rw [List.eq_nil_iff_forall_not_mem]
   intro i hi
   obtain ⟨h1, o, h2, _⟩ := mem_ready.1 hi
   have hin : i < n := (Array.getElem?_eq_some_iff.1 h2).1
   have h3 := hS i hin
   simp only [Array.getD_eq_getD_getElem?] at h1 h3
   have h4 : listed[i]? = some listed[i] := Array.getElem?_eq_getElem (by omega)
   rw [h4] at h1 h3
   simp at h1 h3
   rw [h1] at h3; cases h3
  | succ fuel ih =>
   intro listed F T a w hsz hcl hlen hF hT hfu hp
   have hget : ∀ j, j < n → listed.getD j true = listed.getD j false := fun j hj => by
    simp only [Array.getD_eq_getD_getElem?]
    rw [Array.getElem?_eq_getElem (by omega)]; rfl
   refine hMS fuel listed F T a w ⟨hsz, hcl, hlen, hF, hT, hfu, hp⟩ (fun hr => ?_) fun i hi => ?_
   ·have hS : ∀ j, j < n → listed.getD j false = true := by
     intro j
     induction j using Nat.strongRecOn with
     | ind j ihj =>
      intro hj
      cases hs : listed.getD j false with
      | true => rfl
      | false =>
       exfalso
       have hj' : ops[j]? = some ops[j] := Array.getElem?_eq_getElem hj
       have : j ∈ Region.ready .any ops listed := mem_ready.2 ⟨by rw [hget j hj]; exact hs, ops[j], hj', fun e he hb => ihj e.on (hlt j _ hj' e he hb) (Nat.lt_trans (hlt j _ hj' e he hb) hj)⟩
       rw [hr] at this; cases this
    refine hQ a w ?_
    have e1 : F = fr' := List.ext_getElem? fun t => by
     rw [hF t, ← t2, tframe n (Nat.le_refl n)]
     exact lastv_congr n fun j hj _ => hS j hj
    have e2 : T = s' := by
     rw [hT, ← t3, tstate n (Nat.le_refl n)]
     exact lasts_congr n fun j hj _ => hS j hj
    rw [← e1, ← e2]; exact hp
   ·obtain ⟨h1, o, hoi, haft⟩ := mem_ready.1 hi
    have hin : i < n := (Array.getElem?_eq_some_iff.1 hoi).1
    have hSi : listed.getD i false = false := by rw [← hget i hin]; exact h1
    have hbef : ∀ j, (B.getD i 0).testBit j = true → listed.getD j false = true := fun j hj => by
     obtain ⟨e, he, hbi, h'⟩ := (before_spec hoi (hlt i o hoi) j).1 hj
     have := haft e he hbi
     rcases h' with rfl | h'
     ·exact this
     ·exact hcl _ _ this h'
    have hcmp : ∀ j, comparable B i j = true ∨ comparable B j i = true → listed.getD j false = decide (j < i) := by
     intro j hj
     have hj' : (B.getD i 0).testBit j = true ∨ (B.getD j 0).testBit i = true := by
      rcases hj with hj | hj <;> simp only [comparable, Bool.or_eq_true] at hj
      ·exact hj
      ·exact hj.symm
     rcases hj' with hj' | hj'
     ·rw [hbef j hj', decide_eq_true (bits_lt hlt i j hj')]
     ·have : i < j := bits_lt hlt j i hj'
      rw [decide_eq_false (by omega)]
      cases hs : listed.getD j false with
      | false => rfl
      | true => rw [hcl j i hs hj'] at hSi; cases hSi
    have hself : listed.getD i false = decide (i < i) := by rw [hSi]; simp
    -- the slots that the operation looks at
    have factA : ∀ t : Tmp, t ∈ o.looksAt ops → F[t]? = (frs i)[t]? := by
     intro t ht
     have hw : ∀ j, j < n → (ops[j]?).bind (·.dst) = some t → listed.getD j false = decide (j < i) := by
      intro j hj hdst
      by_cases e : j = i
      ·subst e; exact hself
      ·obtain ⟨p, hp1, hp2⟩ := Option.bind_eq_some_iff.1 hdst
       exact hcmp j (.inr (clash_spec (hall j p hp1).1 hp2 hoi (Ne.symm e) (.inl ht)))
     rw [hF t, tframe i (by omega) t, lastv_congr (S' := fun j => decide (j < i)) n hw, lastv_cut i n (by omega) fun j h1 h2 _ => by simp; omega]
     exact lastv_congr i fun j hj _ => by simp [hj]
    have hev : ∀ x ∈ o.op.operands, aEval F x = aEval (frs i) x := fun x hx => aEval_congr fun t e => by
     subst e
     have := factA t (List.mem_append_left _ (List.mem_filterMap.2 ⟨.tmp t, by simpa using hx, rfl⟩))
     rw [List.getD_eq_getElem?_getD, List.getD_eq_getElem?_getD, this]
    have hwant : Region.wanted o (aYield ops F) = Region.wanted o (aYield ops (frs i)) := by
     unfold Region.wanted
     cases hg : o.guard with
     | none => rfl
     | some gw =>
      obtain ⟨g, want⟩ := gw
      have : aYield ops F g = aYield ops (frs i) g := by
       unfold aYield
       cases ht : (ops[g]?).bind (·.dst) with
       | none => rfl
       | some t =>
        have := factA t (by simp [Oper.looksAt, hg, ht])
        simp only [Option.bind_some, this]
      simp only [this]
    have htn : tn i = (Region.wanted o (aYield ops (frs i)) && turns P prims (frs i) o.op) := by show tnOf P prims ops frs _ = _; unfold tnOf; rw [hoi]
    obtain ⟨o', ho', hfr1, hst⟩ := t4 i (by omega) (by omega)
    rw [hoi] at ho'; injection ho' with ho'; subst ho'
    -- what turns
    have factC : ¬ (seer prims o.op = true ∧ mildR prims ops = true) → looks o.op = true → ∀ j, j < n → tn j = true → listed.getD j false = decide (j < i) := by
     intro hno hl j hj ht
     by_cases e : j = i
     ·subst e; exact hself
     ·obtain ⟨p, hp1, _, hp3⟩ := t4 j (by omega) (by show j < 0 + ops.size; have : n = ops.size := rfl; omega)
      have ht' : (Region.wanted p (aYield ops (frs j)) && turns P prims (frs j) p.op) = true := by
       have : tn j = (Region.wanted p (aYield ops (frs j)) && turns P prims (frs j) p.op) := by show tnOf P prims ops frs _ = _; unfold tnOf; rw [hp1]
       rw [← this]; exact ht
      simp only [Bool.and_eq_true] at ht'
      rcases hp3 with ⟨_, hlone, _⟩ | ⟨hw, _, _⟩
      ·rcases lone_spec (hlone ht'.2) hoi (Ne.symm e) hl with hc | ⟨_, hc⟩
       ·exact hcmp j (.inr hc)
       ·exact absurd hc hno
      ·rw [hw] at ht'; cases ht'.1
    have stateAt : ¬ (seer prims o.op = true ∧ mildR prims ops = true) → looks o.op = true → T = ss i := by
     intro hno hl
     rw [hT, tstate i (by omega), lasts_congr (S' := fun j => decide (j < i)) n (factC hno hl), lasts_cut i n (by omega) fun j h1 h2 _ => by simp; omega]
     exact lasts_congr i fun j hj _ => by simp [hj]
    -- behind the step
    have hS' : ∀ j, (listed.setIfInBounds i true).getD j false = if j = i then true else listed.getD j false := fun j => by
     by_cases e : j = i
     ·subst e
      rw [if_pos rfl]
      simp [Array.getD_eq_getD_getElem?, hsz, hin]
     ·rw [if_neg e, getD_set_ne false (Ne.symm e)]
    have hne' : ∀ j, j ≠ i → (listed.setIfInBounds i true).getD j false = listed.getD j false := fun j hj => by rw [hS' j, if_neg hj]
    have hi' : (listed.setIfInBounds i true).getD i false = true := by rw [hS' i, if_pos rfl]
    have next : ∀ (T' : St) (a' : Act) (w' : World), T' = lasts tn ss s (fun j => (listed.setIfInBounds i true).getD j false) n → PostF base ρ X s w0 (aPut F o.dst (vs i)) T' a' w' → M fuel (listed.setIfInBounds i true) a' w' := by
     intro T' a' w' hT' hp'
     refine ih (listed.setIfInBounds i true) (aPut F o.dst (vs i)) T' a' w' (by simpa using hsz) ?_ (by rw [aPut_len]; exact hlen) ?_ hT' ?_ hp'
     ·intro k j hk hbit
      by_cases ek : k = i
      ·subst ek
       have := hbef j hbit
       rw [hS' j]; split
       ·rfl
       ·exact this
      ·rw [hne' k ek] at hk
       have := hcl k j hk hbit
       rw [hS' j]; split
       ·rfl
       ·exact this
     ·intro t
      rw [aPut_get]
      by_cases e : o.dst = some t
      ·have eb : (o.dst == some t) = true := by simpa using e
       rw [eb, if_pos rfl]
       rw [lastv_cut (i + 1) n (by omega) fun j h1 h2 hdst => by
        obtain ⟨p, hp1, hp2⟩ := Option.bind_eq_some_iff.1 hdst
        have := hcmp j (.inl (clash_spec (hall i o hoi).1 e hp1 (by omega) (.inr hp2)))
        rw [hne' j (by omega), this]; simp; omega]
       simp only [lastv, hi', hoi, Option.bind_some, eb, Bool.and_true, if_true]
       by_cases hx : t < fr.length
       ·simp [hx, hlen]
       ·simp [hx, hlen]
      ·have eb : (o.dst == some t) = false := by simpa using e
       rw [eb]
       simp only [Bool.false_eq_true, if_false]
       rw [hF t]
       refine lastv_congr n fun j hj hdst => ?_
       by_cases ej : j = i
       ·subst ej
        rw [hoi] at hdst
        exact absurd hdst e
       ·exact (hne' j ej).symm
     ·have := left_set (S := fun j => listed.getD j false) (S' := fun j => (listed.setIfInBounds i true).getD j false) hSi hi' hne' n hin
      omega
    have tnfalse : tn i = false → lasts tn ss s (fun j => (listed.setIfInBounds i true).getD j false) n = T := by
     intro hf'
     rw [hT]
     refine lasts_congr n fun j hj ht => ?_
     by_cases ej : j = i
     ·subst ej; rw [hf'] at ht; cases ht
     ·exact hne' j ej
    obtain ⟨ρ1, g1, g2, g3, g4, g5, g6, g7⟩ := hp
    have hb1 : base ≤ w.heap.size := Nat.le_trans hb g5.size
    unfold wpOp
    simp only [hoi]
    have hy := aYield_eq (ops := ops) g4
    rw [← hy, hwant]
    rcases hst with ⟨hw, hlone, hop⟩ | ⟨hw, hv, hs⟩
    ·rw [hw, if_pos rfl]
     left
     have hT' : ∃ T', aOp P call o F T = some (vs i, T') ∧ T' = lasts tn ss s (fun j => (listed.setIfInBounds i true).getD j false) n := by
      rw [aOp_congr hev]
      cases hl : looks o.op with
      | false =>
       refine ⟨T, (nolook hl hop).2 T, (tnfalse ?_).symm⟩
       rw [htn, hw, Bool.true_and]
       cases ht : turns P prims (frs i) o.op with
       | false => rfl
       | true => rw [turns_looks ht] at hl; cases hl
      | true =>
       by_cases hno : seer prims o.op = true ∧ mildR prims ops = true
       ·have hnt : turns P prims (frs i) o.op = false := by
         have hse := hno.1
         unfold seer at hse
         split at hse
         ·rename_i e; rw [e]; rfl
         ·rename_i e
          rw [e]
          show (prims _).isNone = false
          cases hpg : prims _ with
          | none => rw [hpg] at hse; cases hse
          | some _ => rfl
         ·cases hse
        have hti : tn i = false := by rw [htn, hnt, Bool.and_false]
        obtain ⟨q, q1, q2, q3, q4⟩ := lasts_at (tn := tn) (S := fun j => listed.getD j false) t1 n
        have hTq : T = ss q := hT.trans q2
        have lk : ∀ j, j < n → tn j = true → comparable B i j = true ∨ mildA ops j = true ∨ ∃ d, freshAt ops j = some d ∧ i < d := by
         intro j hj ht
         obtain ⟨p, hp1, _, hp3⟩ := t4 j (by omega) (by show j < 0 + ops.size; have : n = ops.size := rfl; omega)
         have ht' : (Region.wanted p (aYield ops (frs j)) && turns P prims (frs j) p.op) = true := by
          have : tn j = (Region.wanted p (aYield ops (frs j)) && turns P prims (frs j) p.op) := by show tnOf P prims ops frs _ = _; unfold tnOf; rw [hp1]
          rw [← this]; exact ht
         simp only [Bool.and_eq_true] at ht'
         have hji : i ≠ j := fun e => by subst e; rw [hti] at ht; cases ht
         rcases hp3 with ⟨_, hlone, _⟩ | ⟨hw', _, _⟩
         ·rcases lone_spec (hlone ht'.2) hoi hji hl with hc | ⟨hc, _⟩
          ·left
           simp only [comparable, Bool.or_eq_true] at hc ⊢
           exact hc.symm
          ·rcases hc with hc | hc
           ·exact .inr (.inl hc)
           ·right; right
            cases hfa : freshAt ops j with
            | none => rw [hfa] at hc; cases hc
            | some d => rw [hfa] at hc; exact ⟨d, rfl, by simpa [ahead] using hc⟩
         ·rw [hw'] at ht'; cases ht'.1
        have same : ∀ m cs, m < T.c → Go.Ai.hget (ss i).h m = some (.cells cs) → Go.Ai.hget T.h m = some (.cells cs) := by
         intro m cs hm hh
         rw [hTq] at hm ⊢
         by_cases hqi : q ≤ i
         ·refine ((viewAt hno.2 i q hqi (by omega) (fun j h1 h2 ht => ?_)).2 m cs hm).1 hh
          rcases lk j (by omega) ht with hc | hc
          ·have e1 := hcmp j (.inl hc)
           have e2 := q3 j h1 (by omega) ht
           rw [e2] at e1
           simp at e1
           omega
          ·rcases hc with hc | ⟨d, hd, hid⟩
           ·exact .inl hc
           ·have := (storeAt j d (by omega) hd).1; omega
         ·refine ((viewAt hno.2 q i (by omega) q1 (fun j h1 h2 ht => ?_)).2 m cs ((cAt hno.2 i (by omega)).1 m _ hh)).2 hh
          rcases lk j (by omega) ht with hc | hc
          ·exfalso
           have e1 := hcmp j (.inl hc)
           rw [decide_eq_false (by omega)] at e1
           rcases q4 with rfl | ⟨p, rfl, p1, p2⟩
           ·omega
           ·by_cases ejp : j = p
            ·subst ejp
             have p1 : listed.getD j false = true := p1
             rw [e1] at p1; cases p1
            ·obtain ⟨r, hr1, _, hr3⟩ := t4 j (by omega) (by show j < 0 + ops.size; have : n = ops.size := rfl; omega)
             have ht' : (Region.wanted r (aYield ops (frs j)) && turns P prims (frs j) r.op) = true := by
              have : tn j = (Region.wanted r (aYield ops (frs j)) && turns P prims (frs j) r.op) := by show tnOf P prims ops frs _ = _; unfold tnOf; rw [hr1]
              rw [← this]; exact ht
             obtain ⟨r', hr1', _, hr3'⟩ := t4 p (by omega) (by show p < 0 + ops.size; have : n = ops.size := rfl; omega)
             have htp : (Region.wanted r' (aYield ops (frs p)) && turns P prims (frs p) r'.op) = true := by
              have : tn p = (Region.wanted r' (aYield ops (frs p)) && turns P prims (frs p) r'.op) := by show tnOf P prims ops frs _ = _; unfold tnOf; rw [hr1']
              rw [← this]; exact p2
             simp only [Bool.and_eq_true] at ht' htp
             rcases hr3 with ⟨_, hlone, _⟩ | ⟨hw', _, _⟩
             ·have hcj : comparable B j p = true := by
               rcases lone_spec (hlone ht'.2) hr1' (fun e => ejp e.symm) (turns_looks htp.2) with hc2 | ⟨_, hc2, _⟩
               ·exact hc2
               ·exfalso
                have htp2 := htp.2
                unfold seer at hc2
                split at hc2
                ·rename_i e; rw [e] at htp2; cases htp2
                ·rename_i g _ _ e
                 rw [e] at htp2
                 have htp2 : (prims g).isNone = true := htp2
                 cases hpg : prims g with
                 | none => rw [hpg] at hc2; cases hc2
                 | some _ => rw [hpg] at htp2; cases htp2
                ·cases hc2
              simp only [comparable, Bool.or_eq_true] at hcj
              rcases hcj with hb | hb
              ·have := bits_lt hlt j p hb; omega
              ·have := hcl p j p1 hb
               rw [e1] at this; cases this
             ·rw [hw'] at ht'; cases ht'.1
          ·rcases hc with hc | ⟨d, hd, hid⟩
           ·exact .inl hc
           ·exact .inr ⟨d, hd, by omega⟩
        have hg : T.g = (ss i).g := by rw [hTq, (cAt hno.2 q q1).2, (cAt hno.2 i (by omega)).2]
        refine ⟨T, ?_, ?_⟩
        ·have hb' : ∀ x v, x ∈ o.op.operands → aEval (frs i) x = some v → Rel w ρ1 (UX ρ1 T.h X) T.c v (a.eval x) := fun x v hx hv => aEval_rel g4 ((hev x hx).trans hv)
         obtain ⟨dst, op, type, pos, after, guard⟩ := o
         have hse := hno.1
         unfold seer at hse
         split at hse
         ·rename_i ty x e
          have e : op = .load ty x := e
          subst e
          simp only [aOp, Option.bind_eq_bind, Option.bind_eq_some_iff] at hop ⊢
          obtain ⟨av, hav, y, hy, hop⟩ := hop
          injection hop with hop; injection hop with e1 e2
          refine ⟨av, hav, y, ?_, by rw [e1]⟩
          cases av with
          | ptr m off =>
           have hm := hb' x _ (by simp [Op.operands]) hav
           simp only [Rel] at hm
           simp only [aLoad] at hy ⊢
           split at hy
           ·rename_i cs hcs
            rw [same m cs hm.1 hcs]
            exact hy
           ·cases hy
          | gptr g off => simp only [aLoad, hg] at hy ⊢; exact hy
          | rptr k xs j off => exact hy
          | _ => cases hy
         ·rename_i g args ts e
          have e : op = .call ⟨.value (.func g), args, ts⟩ := e
          subst e
          simp only [aOp, Option.bind_eq_bind, Option.bind_eq_some_iff] at hop ⊢
          obtain ⟨as_, has, fv, hfv, hop⟩ := hop
          refine ⟨as_, has, fv, hfv, ?_⟩
          have hpn : (prims g).isNone = false := by
           cases hpg : prims g with
           | none => rw [hpg] at hse; cases hse
           | some _ => rfl
          have efv : fv = .fn g [] [] := by
           simp only [aEval, Option.some.injEq] at hfv
           exact hfv.symm
          subst efv
          simp only [List.nil_append, List.append_nil] at hop ⊢
          refine (hq g as_ (ss i) _ _ hpn hop).2 T hg fun x hx r hr => ?_
          have hxr : ∃ v', Rel w ρ1 (UX ρ1 T.h X) T.c x v' := by
           have hl2 := aEvals_rel g4 (xs := args.toList) (vs := as_) (by rw [← has]; exact aEvals_congr fun y hy => hev y (by simp [Op.operands, Call.operands]; exact .inr (by simpa using hy)))
           have key : ∀ {xs : List AV} {us : List Value}, RelL w ρ1 (UX ρ1 T.h X) T.c xs us → ∀ x ∈ xs, ∃ v', Rel w ρ1 (UX ρ1 T.h X) T.c x v' := by
            intro xs
            induction xs with
            | nil => intro us _ x hx; cases hx
            | cons y ys ih =>
             intro us hr x hx
             simp only [RelL] at hr
             obtain ⟨u, vs, rfl, q1, q2⟩ := hr
             rcases List.mem_cons.1 hx with rfl | hx
             ·exact ⟨u, q1⟩
             ·exact ih q2 x hx
           exact key hl2 x hx
          obtain ⟨v', hv'⟩ := hxr
          cases x with
          | ptr m off =>
           simp only [Rel] at hv'
           simp only [view] at hr ⊢
           split at hr
           ·rename_i cs hcs
            rw [same m cs hv'.1 hcs]
            exact hr
           ·cases hr
          | hs k m off len cap =>
           simp only [Rel] at hv'
           simp only [view, elems] at hr ⊢
           cases hcs : Go.Ai.hget (ss i).h m with
           | none => rw [hcs] at hr; cases hr
           | some o' =>
            rw [hcs] at hr
            cases o' with
            | cells cs => rw [same m cs hv'.1 hcs]; exact hr
            | _ => cases hr
          | _ => exact hr
         ·cases hse
        ·exact (tnfalse hti).symm
       ·refine ⟨ss (i + 1), by rw [stateAt hno hl]; exact hop, ?_⟩
        cases ht : turns P prims (frs i) o.op with
        | false => rw [tnfalse (by rw [htn, ht, Bool.and_false]), noturn hq ht hop, stateAt hno hl]
        | true =>
         have e : tn i = true := by rw [htn, hw, ht]; rfl
         rw [lasts_cut (i + 1) n (by omega) fun j h1 h2 htj => by
          rw [hne' j (by omega), factC hno hl j h2 htj]; simp; omega]
         simp only [lasts, hi', e, Bool.and_true, if_true]
     obtain ⟨T', hop', eT'⟩ := hT'
     refine op_wp hcall hb1 g3 g4 hop' fun v' w' hpo => ?_
     exact next T' _ w' eT' (PostF.cons g1 g2 g5 g6 (Post.frame (dst := o.dst) g3 g4 g7 hpo))
    ·rw [hw]
     simp only [Bool.false_eq_true, if_false]
     refine next T _ w ?_ ⟨ρ1, g1, g2, g3, ?_, g5, g6, by cases o.dst <;> exact g7⟩
     ·exact (tnfalse (by rw [htn, hw, Bool.false_and])).symm
     ·rw [hv]
      exact aPut_rel g4 o.dst (by simp [Rel, RelL, undef])
 intro fuel listed F T a w hI
 exact main fuel listed F T a w hI.sz hI.cl hI.len hI.hF hI.hT hI.fu hI.p
theorem DInv.start {ops : Array Oper} {fr : List AV} {s : St} {a0 : Act} {w0 : World} {ρ : Pl} {X : Reg} {frs : Nat → List AV} {ss : Nat → St} {vs : Nat → AV}
  (h : Sim base ρ X s w0) (hf : RelL w0 ρ (UX ρ s.h X) s.c fr a0.tmps.toList) (hd : a0.defers = []) :
  DInv P prims base ρ X w0 ops fr s frs ss vs ops.size (Array.replicate ops.size false) fr s a0 { w0 with drawn := w0.drawn + 1 } := by
 refine ⟨by simp, ?_, rfl, ?_, ?_, ?_, ?_⟩
 ·intro k j hk
  exfalso
  rw [Array.getD_eq_getD_getElem?, Array.getElem?_replicate] at hk
  split at hk <;> simp at hk
 ·intro t
  rw [lastv_cut 0 ops.size (by omega) fun j _ hj _ => by
  rw [Array.getD_eq_getD_getElem?, Array.getElem?_replicate, if_pos hj]; rfl]
  rfl
 ·rw [lasts_cut 0 ops.size (by omega) fun j _ hj _ => by
  rw [Array.getD_eq_getD_getElem?, Array.getElem?_replicate, if_pos hj]; rfl]
  rfl
 ·have : ∀ (S : Nat → Bool) m, left S m ≤ m := fun S m => by
   induction m with
   | zero => simp [left]
   | succ m ih => simp only [left]; split <;> omega
  exact this _ _
 ·have hu : Rel w0 ρ (UX ρ s.h X) s.c .undef undef := by simp [Rel, RelL, undef]
  have := Post.grow (v := .undef) (v' := undef) (w' := { w0 with drawn := w0.drawn + 1 }) h rfl rfl rfl (Nat.le_refl _) (fun _ _ => rfl) (by simp [Rel, RelL, undef])
  exact Post.frame (dst := none) h hf hd this
theorem draw_ok (hcall : CallOk P base call) (hq : Quiet prims call) : DrawOk P base call prims := by
 intro ops Q id fr fr' s s' a0 w0 ρ X hok hb h hf hd ho hQ
 obtain ⟨hm, _⟩ := drawOk_spec hok
 obtain ⟨frs, ss, vs, _, _, _, main⟩ := draw_main hcall hq (Q := Q) (a0 := a0) hok hb h ho hQ
 exact wp_region_any hm (main (wpAny P .any ops Q) (fun listed F T a w _ h1 h2 => ⟨h1, h2⟩) (fun fuel listed F T a w _ h1 h2 => ⟨h1, h2⟩) _ _ _ _ _ _ (DInv.start h hf hd))
end
end Go.Ai
end
section
/- Contracts from runs. -/
set_option linter.unusedVariables false
set_option linter.unusedSimpArgs false
namespace Go.Ai
section
variable {P : Program} {prims : Prims}

theorem callPrim_state {p : Glob → List AV → Option AV} {args : List AV} {s s' : St} {v : AV} (h : callPrim p args s = some (v, s')) : s' = s := by
 simp only [callPrim, Option.bind_eq_bind, Option.bind_eq_some_iff] at h
 obtain ⟨us, _, r, _, h⟩ := h
 split at h
 ·cases h
 ·injection h with h; injection h with e1 e2; exact e2.symm
theorem callPrim_seen {p : Glob → List AV → Option AV} {args : List AV} {s s2 : St} {v : AV} {s' : St} (h : callPrim p args s = some (v, s')) (hg : s2.g = s.g) (hv : ∀ x ∈ args, ∀ r, view s x = some r → view s2 x = some r) : callPrim p args s2 = some (v, s2) := by
 simp only [callPrim, Option.bind_eq_bind, Option.bind_eq_some_iff] at h ⊢
 obtain ⟨us, hu, r, hr, h⟩ := h
 have key : ∀ (l : List AV) (us : List (AV × Bool)), (∀ x ∈ l, ∀ r, view s x = some r → view s2 x = some r) → l.mapM (view s) = some us → l.mapM (view s2) = some us := by
  intro l
  induction l with
  | nil => intro us _ h; exact h
  | cons x l ih =>
   intro us hv h
   rw [List.mapM_cons] at h ⊢
   simp only [Option.bind_eq_bind, Option.bind_eq_some_iff, Option.pure_def] at h ⊢
   obtain ⟨a, ha, b, hb, h⟩ := h
   exact ⟨a, hv x List.mem_cons_self a ha, b, ih b (fun y hy => hv y (List.mem_cons_of_mem _ hy)) hb, h⟩
 refine ⟨us, key _ _ hv hu, r, by rw [hg]; exact hr, ?_⟩
 split at h
 ·cases h
 ·rename_i hc
  rw [if_neg hc]
  injection h with h; injection h with e1 e2
  rw [e1]
theorem aCall_quiet : ∀ n, Quiet prims (aCall P prims n)
 | 0 => fun g args s v s' _ h => by simp [aCall] at h
 | n + 1 => fun g args s v s' hp h => by
  simp only [aCall] at h
  split at h
  ·cases h
  ·rename_i fn hfn
   split at h
   ·rename_i hent
    split at h
    ·rename_i p hpp
     refine ⟨callPrim_state h, fun s2 hg hv => ?_⟩
     simp only [aCall, hfn, hent, if_true, hpp]
     exact callPrim_seen h hg hv
    ·rename_i hn; rw [hn] at hp; cases hp
   ·cases h
theorem aCall_sound {base : Nat} (hp : PrimsOk P prims) (n : Nat) : CallOk P base (aCall P prims n) :=
 aCall_ok hp (fun n hc => draw_ok hc (aCall_quiet n)) n

def out (v : AV) : Option AV := if pureV (stripV v) then some (stripV v) else none
theorem out_rel {w : World} {ρ ρ' : Pl} {U U' : Reg} {c c' : Nat} {x u : AV} {v : Value} (hU : ∀ b j, U' b j → U b j) (hu : out x = some u) (h : Rel w ρ U c x v) : Rel w ρ' U' c' u v := by
 unfold out at hu
 simp only [Option.ite_none_right_eq_some] at hu
 obtain ⟨hp, hu⟩ := hu
 injection hu with hu
 rw [hu] at hp
 refine Rel.pure (ρ := ρ) (c := c) hU u v hp ?_
 rw [← hu]
 exact strip_rel x v h

def noGlob : Glob := fun _ => none
def sG (G : Glob) : St := ⟨[], 0, 0, G⟩
def s0 : St := sG noGlob
def answer (P : Program) (prims : Prims) (n : Nat) (f : FuncId) (args : List AV) : Option AV := (aCall P prims n f args s0).bind fun r => out r.1

theorem simG {w : World} {U : Reg} {G : Glob} (hU : ∀ b j, U b j → b < w.heap.size) (hG : GlobOk w ρ0 U 0 G) : Sim w.heap.size ρ0 U (sG G) w :=
 ⟨fun n o h => by simp [sG, hget] at h, fun n o h => by simp [sG, hget] at h, fun n m o o' h => by simp [sG, hget] at h, fun n o h => by simp [sG, hget] at h, fun n o h => by simp [sG, hget] at h, hU, by
  refine hG.mono ⟨Nat.le_refl _, fun _ _ => rfl, fun a u hu _ => hu, fun a ha => ha, ?_⟩
  rintro b j _ (⟨n, o, hn, _⟩ | hx)
  ·simp [sG, hget] at hn
  ·exact hx⟩
theorem globOk_none {w : World} {ρ : Pl} {U : Reg} {c : Nat} : GlobOk w ρ U c noGlob := fun g cs h => by cases h

def Prims.addG (prims : Prims) (f : FuncId) (F : Glob → List AV → Option AV) : Prims := fun g => if g = f then some F else prims g
def Prims.add (prims : Prims) (f : FuncId) (F : List AV → Option AV) : Prims := fun g => if g = f then some (fun _ => F) else prims g
theorem primsOk_addG {f : FuncId} {F : Glob → List AV → Option AV} (hp : PrimsOk P prims) (hF : PureC P f F) : PrimsOk P (prims.addG f F) := fun g G h => by
 unfold Prims.addG at h
 split at h
 ·rename_i e; subst e; injection h with h; subst h; exact hF
 ·exact hp g G h
theorem primsOk_add {f : FuncId} {F : List AV → Option AV} (hp : PrimsOk P prims) (hF : PureC P f (fun _ => F)) : PrimsOk P (prims.add f F) := primsOk_addG hp hF
end
end Go.Ai
end
section
/- Rules for runs: what a piece of code comes to, with fuel enough. -/
set_option linter.unusedVariables false
set_option linter.unusedSimpArgs false
namespace Go.Ai
section
variable {P : Program} {prims : Prims}

def WC (P : Program) (prims : Prims) (c : Code) (K : List AV → St → Prop) (Q : AExit → List AV → St → Prop) (fr : List AV) (s : St) : Prop :=
 ∃ e fr' s', (match e with | .normal => K fr' s' | e => Q e fr' s') ∧ ∃ N, ∀ m, N ≤ m → ∀ n, N ≤ n → aCode P (aCall P prims m) prims n c fr s = some (e, fr', s')
def WO (P : Program) (prims : Prims) (ops : Array Oper) (l : List Oper) (K : List AV → St → Prop) (fr : List AV) (s : St) : Prop :=
 ∃ fr' s', K fr' s' ∧ ∃ N, ∀ m, N ≤ m → aOps P (aCall P prims m) ops l fr s = some (fr', s')
def WD (P : Program) (prims : Prims) (ops : Array Oper) (b : Array Nat) (l : List Nat) (K : List AV → St → Prop) (fr : List AV) (s : St) : Prop :=
 ∃ fr' s', K fr' s' ∧ ∃ N, ∀ m, N ≤ m → aDraw P (aCall P prims m) prims ops b l fr s = some (fr', s')
def WF (P : Program) (prims : Prims) (f : FuncId) (args : List AV) (s : St) (K : AV → St → Prop) : Prop :=
 ∃ v s', K v s' ∧ ∃ N, ∀ m, N ≤ m → aCall P prims m f args s = some (v, s')
def WP (P : Program) (prims : Prims) (o : Oper) (fr : List AV) (s : St) (K : AV → St → Prop) : Prop :=
 ∃ v s', K v s' ∧ ∃ N, ∀ m, N ≤ m → aOp P (aCall P prims m) o fr s = some (v, s')

variable {K K' : List AV → St → Prop} {Q Q' : AExit → List AV → St → Prop} {fr fr' : List AV} {s s' : St}

theorem WC.mono {c : Code} (h : WC P prims c K Q fr s) (hK : ∀ fr s, K fr s → K' fr s) (hQ : ∀ e fr s, Q e fr s → Q' e fr s) : WC P prims c K' Q' fr s := by
 obtain ⟨e, fr', s', h1, h2⟩ := h
 refine ⟨e, fr', s', ?_, h2⟩
 cases e <;> first | exact hK _ _ h1 | exact hQ _ _ _ h1

theorem WO_nil {ops : Array Oper} (h : K fr s) : WO P prims ops [] K fr s := ⟨fr, s, h, 0, fun m _ => rfl⟩
theorem WO_cons {ops : Array Oper} {o : Oper} {l : List Oper} (hg : o.guard = none) (h : WP P prims o fr s fun v s' => WO P prims ops l K (aPut fr o.dst v) s') : WO P prims ops (o :: l) K fr s := by
 obtain ⟨v, s1, ⟨fr2, s2, k1, M, hM⟩, N, hN⟩ := h
 refine ⟨fr2, s2, k1, N + M, fun m hm => ?_⟩
 have hw : Region.wanted o (aYield ops fr) = true := by simp [Region.wanted, hg]
 simp only [aOps, hw, if_true, hN m (by omega), hM m (by omega)]
theorem WO_guard {ops : Array Oper} {o : Oper} {l : List Oper} {b : Bool} (hb : Region.wanted o (aYield ops fr) = b) (h1 : b = true → WP P prims o fr s fun v s' => WO P prims ops l K (aPut fr o.dst v) s')
  (h2 : b = false → WO P prims ops l K (aPut fr o.dst .undef) s) : WO P prims ops (o :: l) K fr s := by
 cases b with
 | true =>
  obtain ⟨v, s1, ⟨fr2, s2, k1, M, hM⟩, N, hN⟩ := h1 rfl
  refine ⟨fr2, s2, k1, N + M, fun m hm => ?_⟩
  simp only [aOps, hb, if_true, hN m (by omega), hM m (by omega)]
 | false =>
  obtain ⟨fr2, s2, k1, M, hM⟩ := h2 rfl
  refine ⟨fr2, s2, k1, M, fun m hm => ?_⟩
  simp only [aOps, hb, Bool.false_eq_true, if_false, hM m (by omega)]

/-! ### Operations -/
variable {H : AV → St → Prop}
theorem WP_any {o : Oper} {v : AV} (h : ∀ call, aOp P call o fr s = some (v, s')) (k : H v s') : WP P prims o fr s H := ⟨v, s', k, 0, fun m _ => h _⟩
theorem WP_call {dst : Option Tmp} {type : TypeId} {pos : String} {after : Array Edge} {guard : Option (Nat × Bool)} {f : Operand} {xs : Array Operand} {ts : Array TypeId} {g : FuncId} {first captured args : List AV}
  (ha : aEvals fr xs.toList = some args) (hf : aEval fr f = some (.fn g first captured)) (h : WF P prims g (first ++ args ++ captured) s H) : WP P prims ⟨dst, .call ⟨.value f, xs, ts⟩, type, pos, after, guard⟩ fr s H := by
 obtain ⟨v, s1, k1, M, hM⟩ := h
 refine ⟨v, s1, k1, M, fun m hm => ?_⟩
 simp only [aOp, Option.bind_eq_bind, ha, hf, Option.bind_some, hM m hm]
theorem WP_func {dst : Option Tmp} {type : TypeId} {pos : String} {after : Array Edge} {guard : Option (Nat × Bool)} {g : FuncId} {xs : Array Operand} {ts : Array TypeId} {args : List AV}
  (ha : aEvals fr xs.toList = some args) (h : WF P prims g args s H) : WP P prims ⟨dst, .call ⟨.value (.func g), xs, ts⟩, type, pos, after, guard⟩ fr s H :=
 WP_call ha rfl (by simpa using h)

/-! ### Calls -/
theorem WF_prim {f : FuncId} {fn : Func} {F : Glob → List AV → Option AV} {args : List AV} {r : AV} (hf : P.funcs[f]? = some fn) (he : enters fn = true) (hp : prims f = some F) (h : callPrim F args s = some (r, s)) (k : H r s) : WF P prims f args s H := by
 refine ⟨r, s, k, 1, fun m hm => ?_⟩
 obtain ⟨m, rfl⟩ : ∃ k, m = k + 1 := ⟨m - 1, by omega⟩
 simp only [aCall, hf, he, if_true, hp, h]
theorem answer_of {f : FuncId} {args : List AV} {r : AV} (h : WF P prims f args s0 fun v _ => out v = some r) : ∃ n, answer P prims n f args = some r := by
 obtain ⟨v, s1, k, N, hN⟩ := h
 exact ⟨N, by simp only [answer, hN N (Nat.le_refl _), Option.bind_some, k]⟩
end
end Go.Ai
namespace Go.Ai
section
variable {P : Program} {prims : Prims} {K : List AV → St → Prop} {Q : AExit → List AV → St → Prop} {fr fr' : List AV} {s s' : St}
/-! ### Steps, with what they make written out -/
theorem WO_step {ops : Array Oper} {o : Oper} {l : List Oper} {v : AV} (hg : o.guard = none) (h : ∀ call, aOp P call o fr s = some (v, s')) (hf : aPut fr o.dst v = fr') (k : WO P prims ops l K fr' s') : WO P prims ops (o :: l) K fr s :=
 WO_cons hg (WP_any h (by rw [hf]; exact k))
theorem WO_func {ops : Array Oper} {l : List Oper} {dst : Option Tmp} {type : TypeId} {pos : String} {after : Array Edge} {g : FuncId} {xs : Array Operand} {ts : Array TypeId} {args : List AV}
  (ha : aEvals fr xs.toList = some args) (h : WF P prims g args s fun v s' => ∃ fr', aPut fr dst v = fr' ∧ WO P prims ops l K fr' s') : WO P prims ops (⟨dst, .call ⟨.value (.func g), xs, ts⟩, type, pos, after, none⟩ :: l) K fr s :=
 WO_cons rfl (WP_func ha (by obtain ⟨v, s1, ⟨fr', h1, h2⟩, h3⟩ := h; subst h1; exact ⟨v, s1, h2, h3⟩))
theorem WO_prim {ops : Array Oper} {l : List Oper} {dst : Option Tmp} {type : TypeId} {pos : String} {after : Array Edge} {g : FuncId} {fn : Func} {xs : Array Operand} {ts : Array TypeId} {args : List AV} {F : Glob → List AV → Option AV} {r : AV}
  (hp : prims g = some F) (hf : P.funcs[g]? = some fn) (he : enters fn = true) (ha : aEvals fr xs.toList = some args) (hc : callPrim F args s = some (r, s)) (hput : aPut fr dst r = fr') (h : WO P prims ops l K fr' s) : WO P prims ops (⟨dst, .call ⟨.value (.func g), xs, ts⟩, type, pos, after, none⟩ :: l) K fr s :=
 WO_func ha (WF_prim hf he hp hc ⟨fr', hput, h⟩)
end
end Go.Ai
namespace Go.Ai
end Go.Ai
namespace Go.Ai
end Go.Ai
namespace Go.Ai
end Go.Ai
namespace Go.Ai
end Go.Ai
namespace Go.Ai
theorem op_bin {P : Program} {call : FuncId → List AV → St → Option (AV × St)} {dst : Option Tmp} {type t t' : TypeId} {pos : String} {after : Array Edge} {guard : Option (Nat × Bool)} {fr : List AV} {s : St} {op : BinOp} {x y : Operand} {a b v : AV}
  (hx : aEval fr x = some a) (hy : aEval fr y = some b) (hv : aBinOp P op t a b (isC x) (isC y) = some v) : aOp P call ⟨dst, .binOp op t x y t', type, pos, after, guard⟩ fr s = some (v, s) := by
 simp only [aOp, hx, hy, hv, Option.bind_eq_bind, Option.bind_some]
end Go.Ai
namespace Go.Ai
section
variable {P : Program} {prims : Prims} {K : List AV → St → Prop} {Q : AExit → List AV → St → Prop} {fr fr' : List AV} {s s' : St}
theorem WO_gskip {ops : Array Oper} {o : Oper} {l : List Oper} (hb : Region.wanted o (aYield ops fr) = false) (hf : aPut fr o.dst .undef = fr') (k : WO P prims ops l K fr' s) : WO P prims ops (o :: l) K fr s :=
 WO_guard hb (fun e => by cases e) (fun _ => by rw [hf]; exact k)
end
end Go.Ai
namespace Go.Ai
theorem wanted_none {dst : Option Tmp} {op : Op} {type : TypeId} {pos : String} {after : Array Edge} {y : Nat → Option Bool} : Region.wanted ⟨dst, op, type, pos, after, none⟩ y = true := rfl
end Go.Ai
namespace Go.Ai
theorem wanted_at {dst : Option Tmp} {op : Op} {type : TypeId} {pos : String} {after : Array Edge} {y : Nat → Option Bool} {g : Nat} {w : Bool} : Region.wanted ⟨dst, op, type, pos, after, some (g, w)⟩ y = (y g == some w) := rfl
end Go.Ai
namespace Go.Ai
theorem WF.mono {P : Program} {prims : Prims} {f : FuncId} {args : List AV} {s : St} {H H' : AV → St → Prop} (h : WF P prims f args s H) (k : ∀ v s', H v s' → H' v s') : WF P prims f args s H' := by
 obtain ⟨v, s', h1, h2⟩ := h
 exact ⟨v, s', k v s' h1, h2⟩
theorem answers {P : Program} {prims : Prims} {f : FuncId} {args : List AV} {r v0 : AV} {s1 : St} (h : WF P prims f args s0 fun v s => v = v0 ∧ s = s1) (ho : out v0 = some r) : ∃ n, answer P prims n f args = some r :=
 answer_of (h.mono fun v s ⟨e, _⟩ => by rw [e]; exact ho)
def sturns (P : Program) (prims : Prims) : Op → Bool
 | .convert _ dst _ => convTurns P dst
 | .load _ _ | .slice _ _ _ _ _ | .lookup _ _ _ _ => false
 | .call c =>
  match c.callee with
  | .builtin .len | .builtin .cap | .builtin .min | .builtin .max => false
  | .value (.func g) => (prims g).isNone
  | _ => true
 | op => looks op
theorem sturns_turns {P : Program} {prims : Prims} {fr : List AV} {op : Op} (h : sturns P prims op = false) : turns P prims fr op = false := by
 cases op <;> simp only [sturns, turns] at h ⊢ <;> try exact h
 rename_i c
 cases hc : c.callee with
 | builtin b => simp only [hc] at h ⊢; cases b <;> simp_all
 | invoke r m => simp only [hc] at h; cases h
 | value f =>
  simp only [hc] at h ⊢
  cases f <;> simp only [aEval] at h ⊢ <;> first | exact h | cases h
def calm (P : Program) (prims : Prims) (ops : Array Oper) (b : Array Nat) : Bool := ops.toList.zipIdx.all fun (o, i) => !sturns P prims o.op || lone prims ops b i
theorem draw_eq {P : Program} {prims : Prims} {call : FuncId → List AV → St → Option (AV × St)} {ops : Array Oper} {b : Array Nat} (hc : calm P prims ops b = true) : ∀ (l : List Oper) (i : Nat), ops.toList.drop i = l → ∀ (fr : List AV) (s : St), aDraw P call prims ops b (List.range' i l.length) fr s = aOps P call ops l fr s
 | [], i, hi, fr, s => rfl
 | o :: l, i, hi, fr, s => by
  have hoi : ops[i]? = some o := by
   have : (ops.toList.drop i)[0]? = some o := by rw [hi]; rfl
   rw [List.getElem?_drop] at this
   simpa using this
  have hnext : ops.toList.drop (i + 1) = l := by
   have : (ops.toList.drop i).drop 1 = l := by rw [hi]; rfl
   rwa [List.drop_drop] at this
  have hno : (turns P prims fr o.op && !lone prims ops b i) = false := by
   unfold calm at hc
   have h1 := List.all_eq_true.1 hc (o, i) (by rw [List.mem_zipIdx_iff_getElem?]; simpa using hoi)
   simp only [Bool.or_eq_true, Bool.not_eq_true'] at h1
   rcases h1 with h1 | h1
   ·rw [sturns_turns h1]; rfl
   ·rw [h1]; simp
  rw [List.length_cons, List.range'_succ]
  simp only [aDraw, hoi, aOps, hno, Bool.false_eq_true, if_false]
  split
  ·cases aOp P call o fr s with
   | none => rfl
   | some r => exact draw_eq hc l (i + 1) hnext _ _
  ·exact draw_eq hc l (i + 1) hnext _ _
attribute [irreducible] WC WO WD WF WP
end Go.Ai
end
