/- Regions in order, code, results. -/
import Derived.Test.YtdfkffmddgffkaaAi12
import Derived.LoopN
import Derived.Scope
set_option linter.unusedVariables false
set_option linter.unusedSimpArgs false
namespace Go.Ai
section
variable {P : Program} {base : Nat} {ρ : Pl} {X U : Reg} {c : Nat} {s s' : St} {w : World}

/-- What a piece of code leaves. -/
def PostF (base : Nat) (ρ : Pl) (X : Reg) (s : St) (w : World) (fr' : List AV) (s' : St) (a' : Act) (w' : World) : Prop :=
  ∃ ρ' : Pl, (∀ n, n < s.c → ρ' n = ρ n) ∧ s.c ≤ s'.c ∧ Sim base ρ' X s' w' ∧ RelL w' ρ' (UX ρ' s'.h X) s'.c fr' a'.tmps.toList ∧ Fr (Umap ρ s.h) w w' ∧ (∀ b j, b < w.heap.size → Umap ρ' s'.h b j → Umap ρ s.h b j) ∧ a'.defers = []
theorem PostF.refl {fr : List AV} {a : Act} (h : Sim base ρ X s w) (hf : RelL w ρ (UX ρ s.h X) s.c fr a.tmps.toList) (hd : a.defers = []) : PostF base ρ X s w fr s a w :=
  ⟨ρ, fun _ _ => rfl, Nat.le_refl _, h, hf, Fr.refl _ _, fun _ _ _ hj => hj, hd⟩
theorem PostF.trans {fr1 fr2 : List AV} {s1 s2 : St} {a1 a2 : Act} {w1 w2 : World} (h : PostF base ρ X s w fr1 s1 a1 w1)
    (k : ∀ ρ1, Sim base ρ1 X s1 w1 → RelL w1 ρ1 (UX ρ1 s1.h X) s1.c fr1 a1.tmps.toList → a1.defers = [] → PostF base ρ1 X s1 w1 fr2 s2 a2 w2) : PostF base ρ X s w fr2 s2 a2 w2 := by
  obtain ⟨ρ1, h1, h2, h3, h4, h5, h6, h7⟩ := h
  obtain ⟨ρ2, k1, k2, k3, k4, k5, k6, k7⟩ := k ρ1 h3 h4 h7
  exact ⟨ρ2, fun n hn => (k1 n (Nat.lt_of_lt_of_le hn h2)).trans (h1 n hn), Nat.le_trans h2 k2, k3, k4, h5.trans k5 h6, fun b j hb hj => h6 b j hb (k6 b j (Nat.lt_of_lt_of_le hb h5.size) hj), k7⟩
theorem PostF.cons {fr2 : List AV} {s1 s2 : St} {a2 : Act} {w1 w2 : World} {ρ1 : Pl} (h1 : ∀ n, n < s.c → ρ1 n = ρ n) (h2 : s.c ≤ s1.c) (h5 : Fr (Umap ρ s.h) w w1) (h6 : ∀ b j, b < w.heap.size → Umap ρ1 s1.h b j → Umap ρ s.h b j)
    (k : PostF base ρ1 X s1 w1 fr2 s2 a2 w2) : PostF base ρ X s w fr2 s2 a2 w2 := by
  obtain ⟨ρ2, k1, k2, k3, k4, k5, k6, k7⟩ := k
  exact ⟨ρ2, fun n hn => (k1 n (Nat.lt_of_lt_of_le hn h2)).trans (h1 n hn), Nat.le_trans h2 k2, k3, k4, h5.trans k5 h6, fun b j hb hj => h6 b j hb (k6 b j (Nat.lt_of_lt_of_le hb h5.size) hj), k7⟩
/-- Behind an operation. -/
theorem Post.frame {fr : List AV} {a : Act} {v : AV} {v' : Value} {w' : World} {dst : Option Tmp} (h : Sim base ρ X s w) (hf : RelL w ρ (UX ρ s.h X) s.c fr a.tmps.toList) (hd : a.defers = []) (hp : Post base ρ X s w v s' v' w') :
    PostF base ρ X s w (aPut fr dst v) s' (a.put dst v') w' := by
  obtain ⟨ρ', h3, h4, hm, h1, h5, h6⟩ := hp.mono_of h
  refine ⟨ρ', h1, hm.le, h3, aPut_rel (RelL.mono hm _ _ hf) dst h4, h5, h6, ?_⟩
  cases dst <;> exact hd

theorem aYield_eq {ops : Array Oper} {fr : List AV} {a : Act} (hf : RelL w ρ U c fr a.tmps.toList) : aYield ops fr = yielded ops a.tmps := by
  funext j
  unfold aYield yielded
  cases hd : (ops[j]?).bind (·.dst) with
  | none => rfl
  | some t =>
    simp only [Option.bind_some]
    cases hx : fr[t]? with
    | none =>
      have : a.tmps[t]? = none := by
        have hl := hf.length
        simp only [Array.length_toList] at hl
        rw [List.getElem?_eq_none_iff] at hx
        rw [Array.getElem?_eq_none_iff]; omega
      rw [this]
    | some x =>
      obtain ⟨v, hv, hr⟩ := hf.get hx
      have hv' : a.tmps[t]? = some v := by simpa using hv
      rw [hv']
      cases x <;> simp only [Rel] at hr <;> first
        | (subst hr; rfl)
        | (obtain ⟨_, rfl⟩ := hr; rfl)
        | (obtain ⟨_, _, _, rfl, _⟩ := hr; rfl)
        | (obtain ⟨_, _, rfl, _⟩ := hr; rfl)
        | (obtain ⟨_, rfl, _⟩ := hr; rfl)

variable {call : FuncId → List AV → St → Option (AV × St)}

theorem aOps_wp (hcall : CallOk P base call) {ops : Array Oper} {Q : Exit → Act → World → Prop} : ∀ (l : List Oper) (i : Nat), ops.toList.drop i = l → ∀ {fr fr' : List AV} {s s' : St} {a : Act} {w : World} {ρ : Pl}, base ≤ w.heap.size → Sim base ρ X s w → RelL w ρ (UX ρ s.h X) s.c fr a.tmps.toList → a.defers = [] →
    aOps P call ops l fr s = some (fr', s') → (∀ a' w', PostF base ρ X s w fr' s' a' w' → Q .normal a' w') → wpOps P ops Q (List.range' i l.length) a w
  | [], i, hi, fr, fr', s, s', a, w, ρ, hb, h, hf, hd, ho, hQ => by
    simp only [aOps] at ho
    injection ho with ho; injection ho with e1 e2; subst e1; subst e2
    exact hQ a w (.refl h hf hd)
  | o :: l, i, hi, fr, fr', s, s', a, w, ρ, hb, h, hf, hd, ho, hQ => by
    have hoi : ops[i]? = some o := by
      have : (ops.toList.drop i)[0]? = some o := by rw [hi]; rfl
      rw [List.getElem?_drop] at this
      simpa using this
    have hnext : ops.toList.drop (i + 1) = l := by
      have : (ops.toList.drop i).drop 1 = l := by rw [hi]; rfl
      rwa [List.drop_drop] at this
    rw [List.length_cons, List.range'_succ, wpOps_cons]
    unfold wpOp
    simp only [hoi]
    have hy := aYield_eq (ops := ops) hf
    simp only [aOps, hy] at ho
    split
    · rename_i hw
      rw [if_pos hw] at ho
      split at ho
      · rename_i v s1 hop
        left
        refine op_wp hcall hb h hf hop fun v' w' hp => ?_
        have hpf := Post.frame (dst := o.dst) h hf hd hp
        obtain ⟨ρ1, h1, h2, h3, h4, h5, h6, h7⟩ := hpf
        exact aOps_wp hcall l (i + 1) hnext (Nat.le_trans hb h5.size) h3 h4 h7 ho fun a' w'' hq => hQ a' w'' (PostF.cons h1 h2 h5 h6 hq)
      · cases ho
    · rename_i hw
      rw [if_neg hw] at ho
      have hf' : RelL w ρ (UX ρ s.h X) s.c (aPut fr o.dst .undef) (a.put o.dst undef).tmps.toList := aPut_rel hf o.dst (by simp [Rel, RelL, undef])
      have hd' : (a.put o.dst undef).defers = [] := by cases o.dst <;> exact hd
      exact aOps_wp hcall l (i + 1) hnext hb h hf' hd' ho hQ

def exitOf : AExit → Exit
  | .normal => .normal
  | .exit id => .exit id
  | .ret => .ret

def DrawOk (P : Program) (base : Nat) (call : FuncId → List AV → St → Option (AV × St)) (prims : Prims) : Prop :=
  ∀ (ops : Array Oper) (Q : Exit → Act → World → Prop) (id : Nat) {fr fr' : List AV} {s s' : St} {a : Act} {w : World} {ρ : Pl} {X : Reg}, drawOk P ops = true → base ≤ w.heap.size → Sim base ρ X s w → RelL w ρ (UX ρ s.h X) s.c fr a.tmps.toList → a.defers = [] →
    aDraw P call prims ops (Region.before ops) (List.range ops.size) fr s = some (fr', s') → (∀ a' w', PostF base ρ X s w fr' s' a' w' → Q .normal a' w') → (Code.region id ops true).wp P Q a w

theorem aCode_wp (hcall : CallOk P base call) {prims : Prims} (hdraw : DrawOk P base call prims) : ∀ (n : Nat),
    (∀ {c : Code} {e : AExit} {fr fr' : List AV} {s s' : St} {a : Act} {w : World} {ρ : Pl} {Q : Exit → Act → World → Prop}, base ≤ w.heap.size → Sim base ρ X s w → RelL w ρ (UX ρ s.h X) s.c fr a.tmps.toList → a.defers = [] →
      aCode P call prims n c fr s = some (e, fr', s') → (∀ a' w', PostF base ρ X s w fr' s' a' w' → Q (exitOf e) a' w') → c.wp P Q a w) ∧
    (∀ {c : Code} {e : AExit} {fr fr' : List AV} {s s' : St} {a : Act} {w : World} {ρ : Pl} {Q : Exit → Act → World → Prop}, base ≤ w.heap.size → Sim base ρ X s w → RelL w ρ (UX ρ s.h X) s.c fr a.tmps.toList → a.defers = [] →
      aCode P call prims n (.loop c) fr s = some (e, fr', s') → (∀ a' w', PostF base ρ X s w fr' s' a' w' → Q (exitOf e) a' w') → Code.rounds P c Q n a w)
  | 0 => ⟨fun _ _ _ _ h => by simp [aCode] at h, fun _ _ _ _ h => by simp [aCode] at h⟩
  | n + 1 => by
    obtain ⟨ih1, ih2⟩ := aCode_wp hcall hdraw n
    have hloop : ∀ {c : Code} {e : AExit} {fr fr' : List AV} {s s' : St} {a : Act} {w : World} {ρ : Pl} {Q : Exit → Act → World → Prop}, base ≤ w.heap.size → Sim base ρ X s w → RelL w ρ (UX ρ s.h X) s.c fr a.tmps.toList → a.defers = [] →
        aCode P call prims (n + 1) (.loop c) fr s = some (e, fr', s') → (∀ a' w', PostF base ρ X s w fr' s' a' w' → Q (exitOf e) a' w') → Code.rounds P c Q (n + 1) a w := by
      intro c e fr fr' s s' a w ρ Q hb h hf hd ho hQ
      rw [rounds_succ]
      simp only [aCode] at ho
      split at ho
      · rename_i fr1 s1 h1
        refine ih1 hb h hf hd h1 fun a1 w1 hp => ?_
        obtain ⟨ρ1, g1, g2, g3, g4, g5, g6, g7⟩ := hp
        exact ih2 (Nat.le_trans hb g5.size) g3 g4 g7 ho fun a' w' hq => hQ a' w' (PostF.cons g1 g2 g5 g6 hq)
      · rename_i hno
        refine ih1 hb h hf hd ho fun a1 w1 hp => ?_
        cases e with
        | normal => exact absurd ho (hno _ _)
        | exit id => exact hQ _ _ hp
        | ret => exact hQ _ _ hp
    refine ⟨?_, hloop⟩
    intro c e fr fr' s s' a w ρ Q hb h hf hd ho hQ
    cases c with
    | skip =>
      simp only [aCode] at ho
      injection ho with ho; injection ho with e1 e2; injection e2 with e2 e3; subst e1; subst e2; subst e3
      exact wp_skip (hQ a w (.refl h hf hd))
    | region id ops draw =>
      cases draw with
      | false =>
        simp only [aCode, Option.map_eq_some_iff] at ho
        obtain ⟨⟨fr1, s1⟩, h1, ho⟩ := ho
        injection ho with e1 e2; injection e2 with e2 e3; subst e1; subst e2; subst e3
        have := aOps_wp hcall (Q := Q) ops.toList 0 rfl hb h hf hd h1 hQ
        exact wp_region (by simpa [List.range_eq_range'] using this)
      | true =>
        simp only [aCode] at ho
        split at ho
        · rename_i hok
          simp only [Option.map_eq_some_iff] at ho
          obtain ⟨⟨fr1, s1⟩, h1, ho⟩ := ho
          injection ho with e1 e2; injection e2 with e2 e3; subst e1; subst e2; subst e3
          exact hdraw ops Q id hok hb h hf hd h1 hQ
        · cases ho
    | seq x y =>
      simp only [aCode] at ho
      split at ho
      · rename_i fr1 s1 h1
        refine wp_seq (ih1 hb h hf hd h1 fun a1 w1 hp => ?_)
        obtain ⟨ρ1, g1, g2, g3, g4, g5, g6, g7⟩ := hp
        exact ih1 (Nat.le_trans hb g5.size) g3 g4 g7 ho fun a' w' hq => hQ a' w' (PostF.cons g1 g2 g5 g6 hq)
      · rename_i hno
        refine wp_seq (ih1 hb h hf hd ho fun a1 w1 hp => ?_)
        cases e with
        | normal => exact absurd ho (hno _ _)
        | exit id => exact hQ _ _ hp
        | ret => exact hQ _ _ hp
    | cond cc x y =>
      simp only [aCode] at ho
      split at ho
      · rename_i hc
        have hr := aEval_rel hf hc
        simp only [Rel] at hr
        exact wp_cond_true hr (ih1 hb h hf hd ho hQ)
      · rename_i hc
        have hr := aEval_rel hf hc
        simp only [Rel] at hr
        exact wp_cond_false hr (ih1 hb h hf hd ho hQ)
      · cases ho
    | block id body =>
      simp only [aCode] at ho
      split at ho
      · rename_i id' fr1 s1 h1
        injection ho with ho; injection ho with e1 e2; injection e2 with e2 e3; subst e2; subst e3
        refine wp_block (ih1 hb h hf hd h1 fun a1 w1 hp => ?_)
        show Exit.inBlock id Q (.exit id') a1 w1
        simp only [Exit.inBlock]
        split
        · rename_i hid
          rw [if_pos hid] at e1; subst e1
          exact hQ _ _ hp
        · rename_i hid
          rw [if_neg hid] at e1; subst e1
          exact hQ _ _ hp
      · rename_i hno
        refine wp_block (ih1 hb h hf hd ho fun a1 w1 hp => ?_)
        cases e with
        | normal => exact hQ _ _ hp
        | exit id' => exact absurd ho (hno _ _ _)
        | ret => exact hQ _ _ hp
    | loop body => exact wp_loop_rounds (n + 1) (hloop hb h hf hd ho hQ)
    | scope body =>
      simp only [aCode] at ho
      refine wp_scope_straight (ih1 hb h hf hd ho fun a1 w1 hp => ?_)
      cases e <;> exact hQ _ _ hp
    | label l =>
      simp only [aCode] at ho
      injection ho with ho; injection ho with e1 e2; injection e2 with e2 e3; subst e1; subst e2; subst e3
      exact wp_label (hQ a w (.refl h hf hd))
    | exit id =>
      simp only [aCode] at ho
      injection ho with ho; injection ho with e1 e2; injection e2 with e2 e3; subst e1; subst e2; subst e3
      exact wp_exit (hQ a w (.refl h hf hd))
    | ret =>
      simp only [aCode] at ho
      injection ho with ho; injection ho with e1 e2; injection e2 with e2 e3; subst e1; subst e2; subst e3
      exact wp_ret (hQ a w (.refl h hf hd))
    | _ => simp [aCode] at ho

/-! ### Results -/
def rv (tmps : Array Value) : ResultVar → Sem Value
  | .tmp t => pure (tmps.getD t undef)
  | .cell x t => do loadVar t (← asAddr (tmps.getD x undef))
theorem results_eq (fn : Func) (tmps : Array Value) : results fn tmps = (do let vs ← fn.results.mapM (rv tmps); pure (if h : vs.size = 1 then vs[0] else .tuple vs)) := by
  unfold results
  congr 1
theorem run_results {fn : Func} {fr : List AV} {a : Act} {v : AV} (h : Sim base ρ X s w) (hf : RelL w ρ (UX ρ s.h X) s.c fr a.tmps.toList) (ho : aResults P fn fr s = some v) : ∃ v', (results fn a.tmps).run P w = .ok v' w ∧ Rel w ρ (UX ρ s.h X) s.c v v' := by
  simp only [aResults, Option.bind_eq_bind, Option.bind_eq_some_iff] at ho
  obtain ⟨vs, hvs, ho⟩ := ho
  have key : ∀ (l : List ResultVar) (vs : List AV), l.mapM (aResult P fr s) = some vs → ∃ us, (l.mapM (rv a.tmps)).run P w = .ok us w ∧ RelL w ρ (UX ρ s.h X) s.c vs us := by
    intro l
    induction l with
    | nil => intro vs hv; simp at hv; subst hv; exact ⟨[], by simp, by simp [RelL]⟩
    | cons r l ih =>
      intro vs hv
      simp only [List.mapM_cons, Option.bind_eq_bind, Option.bind_eq_some_iff, Option.pure_def] at hv
      obtain ⟨x, hx, xs, hxs, hv⟩ := hv
      injection hv with hv; subst hv
      obtain ⟨us, h1, h2⟩ := ih xs hxs
      rw [List.mapM_cons]
      cases r with
      | tmp t =>
        simp only [aResult] at hx; injection hx with hx; subst hx
        refine ⟨a.tmps.getD t undef :: us, by simp only [rv, Sem.run_bind, Sem.run_pure, Result.andThen_ok, h1], ?_⟩
        simp only [RelL]
        exact ⟨_, _, rfl, by simpa using hf.getD t, h2⟩
      | cell y t =>
        simp only [aResult] at hx
        have hr := hf.getD y
        obtain ⟨v', g1, g2⟩ := gives_load h hr hx
        have hp : ∃ A, a.tmps.toList.getD y undef = .pointer (some A) := by
          unfold aLoad at hx
          split at hx
          · rename_i he; rw [he] at hr; simp only [Rel] at hr; exact ⟨_, hr.2⟩
          · rename_i he; rw [he] at hr; simp only [Rel] at hr; obtain ⟨_, _, A, hA, _⟩ := hr; exact ⟨_, hA⟩
          · rename_i he; rw [he] at hr; simp only [Rel] at hr; exact ⟨_, hr⟩
          · cases hx
        obtain ⟨A, hA⟩ := hp
        rw [hA] at g1
        have hA' : a.tmps.getD y undef = .pointer (some A) := by simpa using hA
        simp only [Instr.loadAt, Instr.sureAddr, Sem.run_bind, Sem.run_pure, Result.andThen_ok] at g1
        refine ⟨v' :: us, by simp only [rv, Sem.run_bind, hA', asAddr, Sem.run_pure, Result.andThen_ok, g1, h1], ?_⟩
        simp only [RelL]
        exact ⟨_, _, rfl, g2, h2⟩
  obtain ⟨us, h1, h2⟩ := key _ _ hvs
  have hrun : (fn.results.mapM (rv a.tmps)).run P w = .ok us.toArray w := by
    rw [Array.mapM_eq_mapM_toList, Sem.run_map, h1]
    rfl
  rw [results_eq]
  split at ho
  · rename_i x
    injection ho with ho; subst ho
    simp only [RelL] at h2
    obtain ⟨u, us', rfl, hr, rfl⟩ := h2
    refine ⟨u, ?_, hr⟩
    simp only [Sem.run_bind, hrun, Result.andThen_ok, Sem.run_pure]
    rfl
  · rename_i hno
    injection ho with ho; subst ho
    have hl := h2.length
    refine ⟨.tuple us.toArray, ?_, by simp only [Rel]; exact ⟨us, rfl, h2⟩⟩
    have hne : ¬ us.toArray.size = 1 := by
      intro e
      simp at e
      rw [hl] at e
      obtain ⟨x, rfl⟩ := List.length_eq_one_iff.1 e
      exact hno x rfl
    simp only [Sem.run_bind, hrun, Result.andThen_ok, Sem.run_pure, dif_neg hne]

/-! ### Slices of memory that becomes a row -/
theorem del_all (c0 : Nat) : ∀ (l : List Nat) {s : St}, Sim base ρ X s w → Sim base ρ X (l.foldl St.del s) w ∧ (l.foldl St.del s).c = s.c ∧ (∀ n o, hget (l.foldl St.del s).h n = some o → n ∉ l ∧ hget s.h n = some o)
  | [], s, h => ⟨h, rfl, fun n o hn => ⟨by simp, hn⟩⟩
  | m :: l, s, h => by
    obtain ⟨h1, h2, h3⟩ := del_all c0 l (h.del m)
    refine ⟨h1, h2, fun n o hn => ?_⟩
    obtain ⟨g1, g2⟩ := h3 n o hn
    obtain ⟨g3, g4⟩ := hget_hdel g2
    exact ⟨by simp [g1, g3], g4⟩
theorem freezeV_rel {c0 : Nat} {v u : AV} {v' : Value} {s' : St} (h : Sim base ρ X s w) (hr : Rel w ρ (UX ρ s.h X) s.c v v') (hu : freezeV c0 s v = some u) (hc : s'.c = s.c) (hs : ∀ n o, hget s'.h n = some o → n ∉ frozenNames c0 v ∧ hget s.h n = some o) :
    Rel w ρ (UX ρ s'.h X) s'.c u v' := by
  have hU : ∀ b j, UX ρ s'.h X b j → UX ρ s.h X b j := by
    rintro b j (⟨n, o, hn, hrest⟩ | hx)
    · exact .inl ⟨n, o, (hs n o hn).2, hrest⟩
    · exact .inr hx
  have m : Mono w ρ (UX ρ s.h X) s.c w ρ (UX ρ s'.h X) s'.c := ⟨by rw [hc]; exact Nat.le_refl _, fun _ _ => rfl, fun a u hu _ => hu, fun a ha => ha, fun b j _ hj => hU b j hj⟩
  unfold freezeV at hu
  split at hu
  · rename_i k n off len cap
    split at hu
    · injection hu with hu; subst hu
      exact Rel.mono m _ _ hr
    · rename_i hn
      split at hu
      · cases hu
      · rename_i hlc
        simp only [Option.map_eq_some_iff] at hu
        obtain ⟨⟨k', xs⟩, he, rfl⟩ := hu
        have hr0 := hr
        obtain ⟨A, cap', cs, e0, g1, g2⟩ := elems_rel h hr0 he
        simp only [Rel] at hr
        obtain ⟨h1, rfl⟩ := hr
        injection e0 with e0 e1 e2
        injection e0 with e0
        subst e0; subst e2
        obtain ⟨o, ho⟩ : ∃ o, hget s.h n = some o := by
          simp only [elems] at he
          split at he
          · exact ⟨_, ‹_›⟩
          · cases he
        have hkk : k' = k := by
          simp only [elems] at he
          split at he
          · split at he
            · injection he with he; injection he with e1 e2; exact e1.symm
            · cases he
          · cases he
        subst hkk
        simp only [Rel]
        refine ⟨⟨(ρ n).1, off, none⟩, cap, cs, by rw [e1], by omega, RelC.mono m k' _ _ g1, fun j u hj => ⟨g2 j u hj, ?_⟩, ?_⟩
        · rintro (⟨q, o', hq, hqb, _⟩ | hx)
          · obtain ⟨k1, k2⟩ := hs q o' hq
            by_cases e : q = n
            · subst e; simp [frozenNames, hn] at k1
            · exact h.inj q n o' o k2 ho e hqb
          · exact h.apart n o ho _ hx
        · split
          · simp only [CapOk]; omega
          · trivial
  · injection hu with hu; subst hu
    exact Rel.mono m _ _ hr
theorem freezeL_rel {c0 : Nat} : ∀ {vs us : List AV} {vs' : List Value} {s' : St}, Sim base ρ X s w → RelL w ρ (UX ρ s.h X) s.c vs vs' → vs.mapM (freezeV c0 s) = some us → s'.c = s.c → (∀ n o, hget s'.h n = some o → n ∉ vs.flatMap (frozenNames c0) ∧ hget s.h n = some o) → RelL w ρ (UX ρ s'.h X) s'.c us vs'
  | [], us, vs', s', h, hr, hu, hc, hs => by
    simp at hu; subst hu; simpa [RelL] using hr
  | v :: vs, us, vs', s', h, hr, hu, hc, hs => by
    simp only [List.mapM_cons, Option.bind_eq_bind, Option.bind_eq_some_iff, Option.pure_def] at hu
    obtain ⟨x, hx, xs, hxs, hu⟩ := hu
    injection hu with hu; subst hu
    simp only [RelL] at hr ⊢
    obtain ⟨u, us', rfl, h1, h2⟩ := hr
    exact ⟨u, us', rfl, freezeV_rel h h1 hx hc (fun n o hn => ⟨fun hm => (hs n o hn).1 (by simp [hm]), (hs n o hn).2⟩), freezeL_rel h h2 hxs hc (fun n o hn => ⟨fun hm => (hs n o hn).1 (by
      rw [List.flatMap_cons]; exact List.mem_append_right _ hm), (hs n o hn).2⟩)⟩
theorem freezeTop_rel {c0 : Nat} {v u : AV} {v' : Value} (h : Sim base ρ X s w) (hr : Rel w ρ (UX ρ s.h X) s.c v v') (hu : freezeTop c0 v s = some (u, s')) : Sim base ρ X s' w ∧ s'.c = s.c ∧ Rel w ρ (UX ρ s'.h X) s'.c u v' ∧ (∀ b j, Umap ρ s'.h b j → Umap ρ s.h b j) := by
  unfold freezeTop at hu
  split at hu
  · rename_i vs
    simp only [Option.bind_eq_bind, Option.bind_eq_some_iff] at hu
    obtain ⟨us, hus, hu⟩ := hu
    injection hu with hu; injection hu with e1 e2; subst e1; subst e2
    obtain ⟨h1, h2, h3⟩ := del_all c0 (vs.flatMap (frozenNames c0)) h
    simp only [Rel] at hr ⊢
    obtain ⟨ws, rfl, hl⟩ := hr
    exact ⟨h1, h2, ⟨ws, rfl, freezeL_rel h hl hus h2 h3⟩, fun b j ⟨n, o, hn, hrest⟩ => ⟨n, o, (h3 n o hn).2, hrest⟩⟩
  · rename_i vs
    simp only [Option.bind_eq_bind, Option.bind_eq_some_iff] at hu
    obtain ⟨us, hus, hu⟩ := hu
    injection hu with hu; injection hu with e1 e2; subst e1; subst e2
    obtain ⟨h1, h2, h3⟩ := del_all c0 (vs.flatMap (frozenNames c0)) h
    simp only [Rel] at hr ⊢
    obtain ⟨ws, rfl, hl⟩ := hr
    exact ⟨h1, h2, ⟨ws, rfl, freezeL_rel h hl hus h2 h3⟩, fun b j ⟨n, o, hn, hrest⟩ => ⟨n, o, (h3 n o hn).2, hrest⟩⟩
  · simp only [Option.bind_eq_bind, Option.bind_eq_some_iff] at hu
    obtain ⟨u', hu', hu⟩ := hu
    injection hu with hu; injection hu with e1 e2; subst e1; subst e2
    obtain ⟨h1, h2, h3⟩ := del_all c0 (frozenNames c0 v) h
    exact ⟨h1, h2, freezeV_rel h hr hu' h2 h3, fun b j ⟨n, o, hn, hrest⟩ => ⟨n, o, (h3 n o hn).2, hrest⟩⟩
end
end Go.Ai
