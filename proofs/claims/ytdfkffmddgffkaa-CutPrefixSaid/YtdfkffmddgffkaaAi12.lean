/- Every operation. -/
import Derived.Test.YtdfkffmddgffkaaAi11
set_option linter.unusedVariables false
set_option linter.unusedSimpArgs false
namespace Go.Ai
section
variable {P : Program} {base : Nat} {ρ : Pl} {X U : Reg} {c : Nat} {s s' : St} {w : World}

theorem gives_assert {x v : AV} {xv : Value} {xt t : TypeId} {ok : Bool} (hx : Rel w ρ U c x xv) (h : aAssert P x t ok = some v) : Gives P w ρ U c (Instr.typeAssert xv xt t ok) v := by
  simp only [aAssert, Option.bind_eq_bind, Option.bind_eq_some_iff] at h
  obtain ⟨d, hd, h⟩ := h
  split at h
  · cases h
  · rename_i hni
    simp only [Rel] at hx; subst hx
    split at h
    · rename_i hok
      simp only [Option.map_eq_some_iff] at h
      obtain ⟨z, hz, rfl⟩ := h
      obtain ⟨zv, hzr, hzz⟩ := run_zero hz w
      refine ⟨.tuple #[zv, .bool false], ?_, ?_⟩
      · unfold Instr.typeAssert
        cases d <;> first
          | exact absurd rfl (hni _)
          | simp [run_underlying hd, hok, hzr]
      · simp only [Rel, RelL]
        exact ⟨[zv, .bool false], rfl, zv, _, rfl, hzz _ _ _ _, _, _, rfl, rfl, rfl⟩
    · cases h
  · rename_i t' y hni
    simp only [Rel] at hx
    obtain ⟨u, rfl, hu⟩ := hx
    split at h
    · rename_i ht
      subst ht
      injection h with h; subst h
      refine ⟨if ok then .tuple #[u, .bool true] else u, ?_, ?_⟩
      · unfold Instr.typeAssert
        cases d <;> first
          | exact absurd rfl (hni _)
          | simp [run_underlying hd]
      · cases ok with
        | true =>
          simp only [if_true, Rel, RelL]
          exact ⟨[u, .bool true], rfl, u, _, rfl, hu, _, _, rfl, rfl, rfl⟩
        | false => simpa using hu
    · rename_i ht
      split at h
      · rename_i hok
        simp only [Option.map_eq_some_iff] at h
        obtain ⟨z, hz, rfl⟩ := h
        obtain ⟨zv, hzr, hzz⟩ := run_zero hz w
        refine ⟨.tuple #[zv, .bool false], ?_, ?_⟩
        · unfold Instr.typeAssert
          cases d <;> first
            | exact absurd rfl (hni _)
            | simp [run_underlying hd, hok, hzr, ht]
        · simp only [Rel, RelL]
          exact ⟨[zv, .bool false], rfl, zv, _, rfl, hzz _ _ _ _, _, _, rfl, rfl, rfl⟩
      · cases h
  · cases h

theorem alloc_old (w : World) (o : Obj) (b : Nat) (hb : b < w.heap.size) : (w.alloc o).heap[b]? = w.heap[b]? := by
  show (w.heap.push _)[b]? = _
  rw [Array.getElem?_push, if_neg (by omega)]

theorem does_range {l : List UInt8} {t : TypeId} (hb : base ≤ w.heap.size) (h : Sim base ρ X s w) (ht : P.underlying t = some .string) : Does P base ρ X s w (Instr.range t (.string ⟨l.toArray⟩)) (.ptr s.c 0) (s.new (.siter l 0)) := by
  refine ⟨.pointer (some ⟨w.heap.size, 0, none⟩), w.alloc (.stringIter ⟨l.toArray⟩ 0), ?_, ?_⟩
  · unfold Instr.range
    simp [run_underlying ht]
  · refine Post.new (w' := w.alloc (.stringIter ⟨l.toArray⟩ 0)) h rfl rfl rfl (by simp) (alloc_old w _) hb (.siter l 0) w.heap.size 0 (Nat.le_refl _) _ _ (fun ρ' U' c' m hρ' _ hc' => ⟨heap_alloc_new w _, ?_⟩)
    simp only [Rel]
    exact ⟨by rw [hc']; omega, by rw [hρ']⟩
theorem does_makeMap {t : TypeId} (hb : base ≤ w.heap.size) (h : Sim base ρ X s w) : Does P base ρ X s w (Instr.makeMap t none) (.mp s.c) (s.new (.map [])) := by
  refine ⟨.map (some w.heap.size), w.alloc (.map #[] 0), ?_, ?_⟩
  · unfold Instr.makeMap
    simp
  · refine Post.new (w' := w.alloc (.map #[] 0)) h rfl rfl rfl (by simp) (alloc_old w _) hb (.map []) w.heap.size 0 (Nat.le_refl _) _ _ (fun ρ' U' c' m hρ' _ hc' => ⟨⟨#[], 0, heap_alloc_new w _, by simp [RelL], by simp [RelL]⟩, ?_⟩)
    simp only [Rel]
    exact ⟨by rw [hc']; omega, by rw [hρ']⟩
theorem does_next {n : Nat} {ty : TypeId} {v : AV} {xv : Value} (h : Sim base ρ X s w) (hx : Rel w ρ (UX ρ s.h X) s.c (.ptr n 0) xv) (hh : aNext n s = some (v, s')) : Does P base ρ X s w (Instr.next xv true ty) v s' := by
  simp only [Rel] at hx
  obtain ⟨_, rfl⟩ := hx
  unfold aNext at hh
  split at hh
  · rename_i l pos hg
    have g1 : w.heap[(ρ n).1]? = some (.stringIter ⟨l.toArray⟩ pos) := h.obj n _ hg
    have hlt := h.blk_lt hg
    split at hh
    · rename_i hpos
      injection hh with hh; injection hh with e1 e2; subst e1; subst e2
      refine ⟨.tuple #[.bool true, .int .i64 pos, .int .i32 (Utf8.decode ⟨l.toArray⟩ pos).1], { w with heap := w.heap.setIfInBounds (ρ n).1 (.stringIter ⟨l.toArray⟩ (pos + (Utf8.decode ⟨l.toArray⟩ pos).2)) }, ?_, ?_⟩
      · unfold Instr.next
        have : pos < (⟨l.toArray⟩ : ByteArray).size := hpos
        simp only [getObj, Sem.run_bind, Sem.run, g1, Result.andThen_ok]
        rw [if_pos this]
        simp only [Sem.run_bind, setObj, Sem.run, g1, Result.andThen_ok, Sem.run_pure, goInt]
      · refine Post.put (w' := { w with heap := w.heap.setIfInBounds (ρ n).1 (.stringIter ⟨l.toArray⟩ (pos + (Utf8.decode ⟨l.toArray⟩ pos).2)) }) h hg (by simp) (.siter l (pos + (Utf8.decode ⟨l.toArray⟩ pos).2)) (by simp) rfl rfl rfl (by simp) (fun b hb => by simp [Array.getElem?_setIfInBounds_ne (Ne.symm hb)]) (fun a ha => ?_) _ _ (fun U' m => ⟨?_, ?_⟩)
        · obtain ⟨u, hu⟩ := Option.isSome_iff_exists.1 ha
          by_cases e : a.block = (ρ n).1
          · simp only [World.cell?, e, g1] at hu; cases hu
          · rw [World.cell?_of_block (w := w) (by simp [Array.getElem?_setIfInBounds_ne (Ne.symm e)])]; exact ha
        · show _ = _
          simp [hlt]
        · simp only [Rel, RelL]
          exact ⟨_, rfl, _, _, rfl, rfl, _, _, rfl, rfl, _, _, rfl, rfl, rfl⟩
    · rename_i hpos
      injection hh with hh; injection hh with e1 e2; subst e1; subst e2
      refine ⟨.tuple #[.bool false], w, ?_, .same h ?_⟩
      · unfold Instr.next
        have : ¬ pos < (⟨l.toArray⟩ : ByteArray).size := hpos
        simp only [getObj, Sem.run_bind, Sem.run, g1, Result.andThen_ok]
        rw [if_neg this]
        rfl
      · simp only [Rel, RelL]
        exact ⟨_, rfl, _, _, rfl, rfl, rfl⟩
  · cases hh

theorem map_arr {α β : Type} (f : α → β) (a : Array α) : a.map f = (a.toList.map f).toArray := by
  apply Array.ext'
  simp
/-! ### A call -/
/-- What is known of calls. -/
def CallOk (P : Program) (base : Nat) (call : FuncId → List AV → St → Option (AV × St)) : Prop :=
  ∀ f args s v s', call f args s = some (v, s') → (∃ fn, P.funcs[f]? = some fn ∧ enters fn = true) ∧
    ∀ ρ X w vs, base ≤ w.heap.size → Sim base ρ X s w → RelL w ρ (UX ρ s.h X) s.c args vs →
      Calls P f vs.toArray w fun e w' => ∃ v', e = .returned v' ∧ Post base ρ X s w v s' v' w'

theorem run_callFunc {f : FuncId} {fn : Func} (hf : P.funcs[f]? = some fn) (he : enters fn = true) (args : Array Value) (w : World) : (callFunc f args).run P w = .ok (.enter f args) w := by
  simp only [enters, Bool.and_eq_true, bne_iff_ne, ne_eq] at he
  have h2 : fn.body.isNone = false := by
    cases hb : fn.body with
    | none => simp [hb] at he
    | some _ => rfl
  have h1 : (fn.name == "runtime.NumGoroutine") = false := by simpa using he.1
  unfold callFunc
  simp only [Sem.run_bind, run_program, Result.andThen_ok, hf, h1, h2, Bool.false_eq_true, if_false, Sem.run_pure]

variable {call : FuncId → List AV → St → Option (AV × St)}

theorem wp_val {o : Oper} {a : Act} {K : Act → World → Prop} {Q : Exit → Act → World → Prop} {v' : Value} {w' : World} (h : (execOp a.eval o).run P w = .ok (.value v') w') (hK : K (a.put o.dst v') w') : o.wp P a w K Q := by
  unfold Oper.wp
  rw [h]
  exact hK
theorem wp_skp {o : Oper} {a : Act} {K : Act → World → Prop} {Q : Exit → Act → World → Prop} {w' : World} (h : (execOp a.eval o).run P w = .ok .skip w') (hK : K (a.put o.dst undef) w') : o.wp P a w K Q := by
  unfold Oper.wp
  rw [h]
  exact hK

theorem relP_of {fr : List AV} {a : Act} (hf : RelL w ρ U c fr a.tmps.toList) : ∀ {parts : List (Nat × Operand)} {ps : List (Nat × AV)}, (parts.mapM fun (p : Nat × Operand) => (aEval fr p.2).map (p.1, ·)) = some ps →
    RelP w ρ U c ps (parts.map fun p => (p.1, a.eval p.2))
  | [], ps, h => by
    simp at h; subst h
    exact ⟨rfl, fun j p q hp => by simp at hp⟩
  | (i, x) :: parts, ps, h => by
    simp only [List.mapM_cons, Option.bind_eq_bind, Option.bind_eq_some_iff, Option.map_eq_some_iff, Option.pure_def] at h
    obtain ⟨b, ⟨v, hv, rfl⟩, qs, hqs, h⟩ := h
    injection h with h; subst h
    obtain ⟨h1, h2⟩ := relP_of hf hqs
    refine ⟨by simpa using h1, fun j p q hp hq => ?_⟩
    cases j with
    | zero =>
      simp at hp hq; subst hp; subst hq
      exact ⟨rfl, aEval_rel hf hv⟩
    | succ j => exact h2 j p q (by simpa using hp) (by simpa using hq)
theorem relO_of {fr : List AV} {a : Act} (hf : RelL w ρ U c fr a.tmps.toList) {x : Option Operand} {v : Option AV} (h : aEvalO fr x = some v) : RelO w ρ U c v (x.map a.eval) := by
  cases x with
  | none => simp only [aEvalO] at h; injection h with h; subst h; trivial
  | some x =>
    simp only [aEvalO, Option.map_eq_some_iff] at h
    obtain ⟨u, hu, rfl⟩ := h
    exact aEval_rel hf hu

set_option maxHeartbeats 4000000 in
/-- EVERY OPERATION does in the machine what it does to the abstract state. -/
theorem op_wp (hcall : CallOk P base call) {o : Oper} {fr : List AV} {a : Act} {v : AV} (hb : base ≤ w.heap.size) (h : Sim base ρ X s w) (hf : RelL w ρ (UX ρ s.h X) s.c fr a.tmps.toList) (ho : aOp P call o fr s = some (v, s'))
    {K : Act → World → Prop} {Q : Exit → Act → World → Prop} (hK : ∀ v' w', Post base ρ X s w v s' v' w' → K (a.put o.dst v') w') : o.wp P a w K Q := by
  obtain ⟨dst, op, type, pos, after, guard⟩ := o
  have fin : ∀ {m : Sem Value} {o : Oper}, (∀ v' w', Post base ρ X s w v s' v' w' → K (a.put o.dst v') w') → Does P base ρ X s w m v s' → execOp a.eval o = (do pure (.value (← m)) : Sem Next) → o.wp P a w K Q := by
    rintro m o hK ⟨v', w', h1, h2⟩ h3
    refine wp_val (v' := v') (w' := w') ?_ (hK _ _ h2)
    rw [h3]
    simp [h1]
  cases op with
  | move x =>
    simp only [aOp, Option.map_eq_some_iff] at ho
    obtain ⟨u, hu, ho⟩ := ho
    injection ho with e1 e2; subst e1; subst e2
    exact wp_val (v' := a.eval x) (w' := w) (by simp [execOp]) (hK _ _ (.same h (aEval_rel hf hu)))
  | assign x =>
    simp only [aOp, Option.map_eq_some_iff] at ho
    obtain ⟨u, hu, ho⟩ := ho
    injection ho with e1 e2; subst e1; subst e2
    exact wp_val (v' := a.eval x) (w' := w) (by simp [execOp]) (hK _ _ (.same h (aEval_rel hf hu)))
  | pick cc x y =>
    simp only [aOp, Option.bind_eq_bind, Option.bind_eq_some_iff] at ho
    obtain ⟨b, hbv, ho⟩ := ho
    split at ho
    · rename_i t
      simp only [Option.bind_eq_some_iff] at ho
      obtain ⟨u, hu, ho⟩ := ho
      injection ho with ho; injection ho with e1 e2; subst e1; subst e2
      have hc := aEval_rel hf hbv
      simp only [Rel] at hc
      have := aEval_rel hf hu
      refine wp_val (v' := a.eval (if t then x else y)) (w' := w) ?_ (hK _ _ (.same h this))
      simp only [execOp, hc, asBool]
      cases t <;> simp
    · cases ho
  | alloc t =>
    exact fin hK (does_alloc hb h t ho) rfl
  | box t x =>
    simp only [aOp, Option.bind_eq_bind, Option.bind_eq_some_iff] at ho
    obtain ⟨u, hu, ho⟩ := ho
    exact fin hK (does_box hb h (aEval_rel hf hu) t ho) rfl
  | build t parts =>
    simp only [aOp, Option.bind_eq_bind, Option.bind_eq_some_iff] at ho
    obtain ⟨ps, hps, u, hu, ho⟩ := ho
    injection ho with ho; injection ho with e1 e2; subst e1; subst e2
    have hp := relP_of hf hps
    exact fin hK ((gives_build (pv := parts.map fun p => (p.1, a.eval p.2)) (by simpa using hp) hu).does h) rfl
  | buildSlice t n parts =>
    simp only [aOp, Option.bind_eq_bind, Option.bind_eq_some_iff] at ho
    obtain ⟨ps, hps, u, hu, ho⟩ := ho
    injection ho with ho; injection ho with e1 e2; subst e1; subst e2
    have hp := relP_of hf hps
    exact fin hK (does_buildSlice (pv := parts.map fun p => (p.1, a.eval p.2)) h (by simpa using hp) hu) rfl
  | load t x =>
    simp only [aOp, Option.bind_eq_bind, Option.bind_eq_some_iff] at ho
    obtain ⟨u, hu, y, hy, ho⟩ := ho
    injection ho with ho; injection ho with e1 e2; subst e1; subst e2
    exact fin hK ((gives_load h (aEval_rel hf hu) hy).does h) rfl
  | store t x y =>
    simp only [aOp, Option.bind_eq_bind, Option.bind_eq_some_iff] at ho
    obtain ⟨u, hu, z, hz, s1, hs1, ho⟩ := ho
    injection ho with ho; injection ho with e1 e2; subst e1; subst e2
    obtain ⟨w', h1, h2⟩ := does_store (P := P) h (aEval_rel hf hu) (aEval_rel hf hz) hs1
    exact wp_skp (w' := w') (by simp [execOp, h1]) (hK _ _ h2)
  | nilCheck x =>
    simp only [aOp, Option.bind_eq_bind, Option.bind_eq_some_iff] at ho
    obtain ⟨u, hu, ho⟩ := ho
    have hr := aEval_rel hf hu
    split at ho
    · cases ho
    · cases ho
    · cases ho
    · rename_i hn1 hn2 hn3
      injection ho with ho; injection ho with e1 e2; subst e1; subst e2
      refine wp_val (v' := a.eval x) (w' := w) ?_ (hK _ _ (.same h hr))
      simp only [execOp]
      generalize a.eval x = xv at hr
      cases u <;> simp only [Rel] at hr <;> first
        | exact absurd rfl hn1
        | exact absurd rfl hn2
        | exact absurd rfl hn3
        | (subst hr; rfl)
        | (obtain ⟨_, rfl⟩ := hr; rfl)
        | (obtain ⟨_, _, _, rfl, _⟩ := hr; rfl)
        | (obtain ⟨_, _, rfl, _⟩ := hr; rfl)
        | (obtain ⟨_, rfl, _⟩ := hr; rfl)
  | binOp op t x y yt =>
    simp only [aOp, Option.bind_eq_bind, Option.bind_eq_some_iff] at ho
    obtain ⟨u, hu, y', hy, z, hz, ho⟩ := ho
    injection ho with ho; injection ho with e1 e2; subst e1; subst e2
    exact fin hK ((gives_binOp (aEval_rel hf hu) (aEval_rel hf hy) hz).does h) rfl
  | unOp op t x =>
    simp only [aOp, Option.bind_eq_bind, Option.bind_eq_some_iff] at ho
    obtain ⟨u, hu, z, hz, ho⟩ := ho
    injection ho with ho; injection ho with e1 e2; subst e1; subst e2
    exact fin hK ((gives_unOp (aEval_rel hf hu) hz).does h) rfl
  | convert src dt x =>
    simp only [aOp, Option.bind_eq_bind, Option.bind_eq_some_iff] at ho
    obtain ⟨u, hu, ho⟩ := ho
    exact fin hK (does_convert hb h (aEval_rel hf hu) ho) rfl
  | makeInterface t x =>
    simp only [aOp, Option.bind_eq_bind, Option.bind_eq_some_iff] at ho
    obtain ⟨d, hd, ho⟩ := ho
    split at ho
    · cases ho
    · rename_i hni
      simp only [Option.bind_eq_some_iff] at ho
      obtain ⟨u, hu, ho⟩ := ho
      injection ho with ho; injection ho with e1 e2; subst e1; subst e2
      refine wp_val (v' := .iface t (a.eval x)) (w' := w) ?_ (hK _ _ (.same h ?_))
      · simp only [execOp, Instr.makeInterface]
        cases d <;> first
          | exact absurd rfl (hni _)
          | simp [run_underlying hd]
      · simp only [Rel]; exact ⟨_, rfl, aEval_rel hf hu⟩
  | makeFunc f first captured =>
    simp only [aOp, Option.bind_eq_bind] at ho
    split at ho
    · simp only [Option.bind_eq_some_iff] at ho
      obtain ⟨us, hus, vs, hvs, ho⟩ := ho
      injection ho with ho; injection ho with e1 e2; subst e1; subst e2
      rename_i g
      refine wp_val (v' := .func (.func g) (first.map a.eval) (captured.map a.eval)) (w' := w) (by simp [execOp, Instr.makeFunc]) (hK _ _ (.same h ?_))
      simp only [Rel]
      exact ⟨first.toList.map a.eval, captured.toList.map a.eval, by rw [← map_arr, ← map_arr], aEvals_rel hf hus, aEvals_rel hf hvs⟩
    · cases ho
  | makeMap t r =>
    cases r with
    | some r => simp [aOp] at ho
    | none =>
      simp only [aOp] at ho
      injection ho with ho; injection ho with e1 e2; subst e1; subst e2
      exact fin hK (does_makeMap (t := t) hb h) rfl
  | makeSlice t l cp =>
    simp only [aOp, Option.bind_eq_bind, Option.bind_eq_some_iff] at ho
    obtain ⟨u, hu, y, hy, ho⟩ := ho
    exact fin hK (does_makeSlice hb h (aEval_rel hf hu) (aEval_rel hf hy) ho) rfl
  | slice t x lo hi mx =>
    simp only [aOp, Option.bind_eq_bind, Option.bind_eq_some_iff] at ho
    obtain ⟨u, hu, l, hl, i, hi', m, hm, z, hz, ho⟩ := ho
    injection ho with ho; injection ho with e1 e2; subst e1; subst e2
    exact fin hK ((gives_slice (aEval_rel hf hu) (relO_of hf hl) (relO_of hf hi') (relO_of hf hm) hz).does h) rfl
  | fieldAddr t x f =>
    simp only [aOp, Option.bind_eq_bind, Option.bind_eq_some_iff] at ho
    obtain ⟨u, hu, z, hz, ho⟩ := ho
    injection ho with ho; injection ho with e1 e2; subst e1; subst e2
    exact fin hK ((gives_fieldAddr (aEval_rel hf hu) hz).does h) rfl
  | field t x f =>
    simp only [aOp, Option.bind_eq_bind, Option.bind_eq_some_iff] at ho
    obtain ⟨u, hu, z, hz, ho⟩ := ho
    injection ho with ho; injection ho with e1 e2; subst e1; subst e2
    exact fin hK ((gives_field (aEval_rel hf hu) hz).does h) rfl
  | indexAddr t x i =>
    simp only [aOp, Option.bind_eq_bind, Option.bind_eq_some_iff] at ho
    obtain ⟨u, hu, y, hy, z, hz, ho⟩ := ho
    injection ho with ho; injection ho with e1 e2; subst e1; subst e2
    exact fin hK ((gives_indexAddr (aEval_rel hf hu) (aEval_rel hf hy) hz).does h) rfl
  | index t x i =>
    simp only [aOp, Option.bind_eq_bind, Option.bind_eq_some_iff] at ho
    obtain ⟨u, hu, y, hy, z, hz, ho⟩ := ho
    injection ho with ho; injection ho with e1 e2; subst e1; subst e2
    exact fin hK ((gives_index (aEval_rel hf hu) (aEval_rel hf hy) hz).does h) rfl
  | lookup t x i ok =>
    simp only [aOp, Option.bind_eq_bind, Option.bind_eq_some_iff] at ho
    obtain ⟨u, hu, y, hy, z, hz, ho⟩ := ho
    injection ho with ho; injection ho with e1 e2; subst e1; subst e2
    exact fin hK ((gives_lookup h (aEval_rel hf hu) (aEval_rel hf hy) hz).does h) rfl
  | mapUpdate t m k x =>
    simp only [aOp, Option.bind_eq_bind, Option.bind_eq_some_iff] at ho
    obtain ⟨u, hu, y, hy, z, hz, s1, hs1, ho⟩ := ho
    injection ho with ho; injection ho with e1 e2; subst e1; subst e2
    obtain ⟨w', h1, h2⟩ := does_mapUpdate (P := P) h (aEval_rel hf hu) (aEval_rel hf hy) (aEval_rel hf hz) hs1
    exact wp_skp (w' := w') (by simp [execOp, h1]) (hK _ _ h2)
  | range t x =>
    simp only [aOp, Option.bind_eq_bind, Option.bind_eq_some_iff] at ho
    obtain ⟨d, hd, u, hu, ho⟩ := ho
    split at ho
    · rename_i l
      injection ho with ho; injection ho with e1 e2; subst e1; subst e2
      have hr := aEval_rel hf hu
      simp only [Rel] at hr
      refine fin hK (m := Instr.range t (a.eval x)) ?_ rfl
      rw [hr]
      exact does_range hb h hd
    · cases ho
  | next it isS =>
    cases isS with
    | false => simp [aOp] at ho
    | true =>
      simp only [aOp, Option.bind_eq_bind, Option.bind_eq_some_iff] at ho
      obtain ⟨u, hu, ho⟩ := ho
      split at ho
      · exact fin hK (does_next h (aEval_rel hf hu) ho) rfl
      · cases ho
  | typeAssert x xt t ok =>
    simp only [aOp, Option.bind_eq_bind, Option.bind_eq_some_iff] at ho
    obtain ⟨u, hu, z, hz, ho⟩ := ho
    injection ho with ho; injection ho with e1 e2; subst e1; subst e2
    exact fin hK ((gives_assert (aEval_rel hf hu) hz).does h) rfl
  | extract t i =>
    simp only [aOp, Option.bind_eq_bind, Option.bind_eq_some_iff] at ho
    obtain ⟨u, hu, ho⟩ := ho
    split at ho
    · rename_i vs
      simp only [Option.map_eq_some_iff] at ho
      obtain ⟨z, hz, ho⟩ := ho
      injection ho with e1 e2; subst e1; subst e2
      have hr := aEval_rel hf hu
      simp only [Rel] at hr
      obtain ⟨us, e, hl⟩ := hr
      obtain ⟨zv, hzv, hzr⟩ := hl.get hz
      refine wp_val (v' := zv) (w' := w) ?_ (hK _ _ (.same h hzr))
      simp [execOp, e, Instr.extract, hzv]
    · cases ho
  | call cl =>
    simp only [aOp, Option.bind_eq_bind, Option.bind_eq_some_iff] at ho
    obtain ⟨args, hargs, ho⟩ := ho
    have har := aEvals_rel hf hargs
    split at ho
    · rename_i b hcl
      have hres : ∀ s : Sem Value, (∀ consts, builtin b cl.argTypes type consts (cl.args.map a.eval) = (do pure (.value (← s)) : Sem Next)) →
          execOp a.eval { dst := dst, op := .call cl, type := type, pos := pos, after := after, guard := guard } = (do pure (.value (← s)) : Sem Next) := fun s hs => by
        simp only [execOp, resolve, hcl, pure_bind, invoke, hs]
      have hmap : cl.args.map a.eval = (cl.args.toList.map a.eval).toArray := by
        apply Array.ext'
        simp
      unfold aBuiltin at ho
      split at ho
      · rename_i x y
        obtain ⟨xv, us, e1, hx, har⟩ := (by simpa only [RelL] using har : ∃ v us, cl.args.toList.map a.eval = v :: us ∧ _ ∧ ∃ v' us', us = v' :: us' ∧ _ ∧ us' = [])
        obtain ⟨yv, us', e2, hy, e3⟩ := har
        subst e3; subst e2
        refine fin hK (m := Builtin.append_ cl.argTypes type #[xv, yv]) (does_append hb h hx hy ho) (hres _ (fun consts => ?_))
        rw [hmap, e1]; rfl
      · rename_i x y
        obtain ⟨xv, us, e1, hx, har⟩ := (by simpa only [RelL] using har : ∃ v us, cl.args.toList.map a.eval = v :: us ∧ _ ∧ ∃ v' us', us = v' :: us' ∧ _ ∧ us' = [])
        obtain ⟨yv, us', e2, hy, e3⟩ := har
        subst e3; subst e2
        refine fin hK (m := Builtin.copy_ cl.argTypes type #[xv, yv]) (does_copy h hx hy ho) (hres _ (fun consts => ?_))
        rw [hmap, e1]; rfl
      · rename_i x
        obtain ⟨xv, us, e1, hx, e3⟩ := (by simpa only [RelL] using har : ∃ v us, cl.args.toList.map a.eval = v :: us ∧ _ ∧ us = [])
        subst e3
        simp only [Option.bind_eq_bind, Option.bind_eq_some_iff] at ho
        obtain ⟨t, ht, z, hz, ho⟩ := ho
        injection ho with ho; injection ho with e2 e3; subst e2; subst e3
        have hg := gives_len (P := P) (ty := type) h hx hz
        refine fin hK (m := Builtin.len_ cl.argTypes type #[xv]) ?_ (hres _ (fun consts => ?_))
        · have e : Builtin.len_ cl.argTypes type #[xv] = Builtin.len_ #[t] type #[xv] := by unfold Builtin.len_; simp [ht]
          rw [e]; exact hg.does h
        · rw [hmap, e1]; rfl
      · rename_i x
        obtain ⟨xv, us, e1, hx, e3⟩ := (by simpa only [RelL] using har : ∃ v us, cl.args.toList.map a.eval = v :: us ∧ _ ∧ us = [])
        subst e3
        simp only [Option.bind_eq_bind, Option.bind_eq_some_iff] at ho
        obtain ⟨t, ht, z, hz, ho⟩ := ho
        injection ho with ho; injection ho with e2 e3; subst e2; subst e3
        have hg := gives_cap (P := P) (ty := type) hx hz
        refine fin hK (m := Builtin.cap_ cl.argTypes type #[xv]) ?_ (hres _ (fun consts => ?_))
        · have e : Builtin.cap_ cl.argTypes type #[xv] = Builtin.cap_ #[t] type #[xv] := by unfold Builtin.cap_; simp [ht]
          rw [e]; exact hg.does h
        · rw [hmap, e1]; rfl
      · rename_i k x k' y
        obtain ⟨xv, us, e1, hx, har⟩ := (by simpa only [RelL] using har : ∃ v us, cl.args.toList.map a.eval = v :: us ∧ _ ∧ ∃ v' us', us = v' :: us' ∧ _ ∧ us' = [])
        obtain ⟨yv, us', e2, hy, e3⟩ := har
        subst e3; subst e2
        simp only [Rel] at hx hy; subst hx; subst hy
        injection ho with ho; injection ho with e2 e3; subst e2; subst e3
        refine fin hK (m := Builtin.min_ cl.argTypes type #[.int k x, .int k' y]) ⟨.int k (if y < x then y else x), w, ?_, .same h (by simp [Rel])⟩ (hres _ (fun consts => ?_))
        · simp [Builtin.min_, Builtin.min2]
        · rw [hmap, e1]; rfl
      · rename_i k x k' y
        obtain ⟨xv, us, e1, hx, har⟩ := (by simpa only [RelL] using har : ∃ v us, cl.args.toList.map a.eval = v :: us ∧ _ ∧ ∃ v' us', us = v' :: us' ∧ _ ∧ us' = [])
        obtain ⟨yv, us', e2, hy, e3⟩ := har
        subst e3; subst e2
        simp only [Rel] at hx hy; subst hx; subst hy
        injection ho with ho; injection ho with e2 e3; subst e2; subst e3
        refine fin hK (m := Builtin.max_ cl.argTypes type #[.int k x, .int k' y]) ⟨.int k (if y > x then y else x), w, ?_, .same h (by simp [Rel])⟩ (hres _ (fun consts => ?_))
        · simp [Builtin.max_, Builtin.max2]
        · rw [hmap, e1]; rfl
      · cases ho
    · rename_i f hcl
      simp only [Option.bind_eq_some_iff] at ho
      obtain ⟨fv, hfv, ho⟩ := ho
      split at ho
      · rename_i g first captured
        have hr := aEval_rel hf hfv
        simp only [Rel] at hr
        obtain ⟨us, vs, e, h1, h2⟩ := hr
        obtain ⟨⟨fn, hfn, hen⟩, hc⟩ := hcall g _ s v s' ho
        have hcl' := hc ρ X w (us ++ cl.args.toList.map a.eval ++ vs) hb h ((h1.append har).append h2)
        unfold Oper.wp
        have hrun : (execOp a.eval { dst := dst, op := .call cl, type := type, pos := pos, after := after, guard := guard }).run P w = .ok (.enter g (us ++ cl.args.toList.map a.eval ++ vs).toArray) w := by
          simp only [execOp, resolve, hcl, e, Deferred.ofValue, pure_bind, invoke]
          rw [run_callFunc hfn hen]
          congr 2
          apply Array.ext'
          simp
        rw [hrun]
        refine hcl'.mono fun e' w' he => ?_
        obtain ⟨v', rfl, hp⟩ := he
        exact hK v' w' hp
      · cases ho
    · cases ho
  | _ => simp [aOp] at ho
end
end Go.Ai
