/- Frames as functions; the rules for runs over them; loops as a fixed point; values with types. -/
import Derived.Test.YtdfkffmddgffkaaAi21
import Derived.Tactics
set_option linter.unusedVariables false
set_option linter.unusedSimpArgs false
namespace Go.Ai

/-! ### Loops as a fixed point -/
inductive Runs {σ ρ : Type} (body : σ → Option (σ ⊕ ρ)) : σ → ρ → Prop
  | done {a : σ} {r : ρ} : body a = some (.inr r) → Runs body a r
  | next {a b : σ} {r : ρ} : body a = some (.inl b) → Runs body b r → Runs body a r
open Classical in
noncomputable def loop {σ ρ : Type} (body : σ → Option (σ ⊕ ρ)) (a : σ) : Option ρ :=
  if h : ∃ r, Runs body a r then some h.choose else none
section
variable {σ ρ : Type} {body : σ → Option (σ ⊕ ρ)}
theorem Runs.unique {a : σ} {r r' : ρ} (h : Runs body a r) (h' : Runs body a r') : r = r' := by
  induction h with
  | done e =>
    cases h' with
    | done e' => rw [e] at e'; injection e' with e'; injection e'
    | next e' _ => rw [e] at e'; injection e' with e'; cases e'
  | next e _ ih =>
    cases h' with
    | done e' => rw [e] at e'; injection e' with e'; cases e'
    | next e' k => rw [e] at e'; injection e' with e'; injection e' with e'; subst e'; exact ih k
theorem loop_iff {a : σ} {r : ρ} : loop body a = some r ↔ Runs body a r := by
  unfold loop
  constructor
  · intro h
    split at h
    · rename_i h'
      injection h with h; subst h; exact h'.choose_spec
    · cases h
  · intro h
    have h' : ∃ r, Runs body a r := ⟨r, h⟩
    rw [dif_pos h']
    exact congrArg some (h'.choose_spec.unique h)
theorem loop_eq (a : σ) : loop body a = match body a with | none => none | some (.inl b) => loop body b | some (.inr r) => some r := by
  cases hb : body a with
  | none =>
    simp only
    cases h : loop body a with
    | none => rfl
    | some r =>
      have := loop_iff.1 h
      cases this with
      | done e => rw [hb] at e; cases e
      | next e _ => rw [hb] at e; cases e
  | some o =>
    cases o with
    | inr r => exact loop_iff.2 (.done hb)
    | inl b =>
      simp only
      cases h : loop body b with
      | some r => exact loop_iff.2 (.next hb (loop_iff.1 h))
      | none =>
        cases h' : loop body a with
        | none => rfl
        | some r =>
          have := loop_iff.1 h'
          cases this with
          | done e => rw [hb] at e; cases e
          | next e k =>
            rw [hb] at e; injection e with e; injection e with e; subst e
            rw [loop_iff.2 k] at h; cases h
theorem loop_next {a b : σ} (h : body a = some (.inl b)) : loop body a = loop body b := by rw [loop_eq, h]
theorem loop_done {a : σ} {r : ρ} (h : body a = some (.inr r)) : loop body a = some r := by rw [loop_eq, h]
end
theorem bs {α β : Type} {x : Option α} {f : α → Option β} {r : β} (h : x.bind f = some r) : ∃ a, x = some a ∧ f a = some r := by
  cases x with
  | none => cases h
  | some a => exact ⟨a, rfl, h⟩

/-! ### Frames -/
abbrev Fm := Nat → AV
def frm (n : Nat) (φ : Fm) : List AV := (List.range n).map φ
def upd (φ : Fm) (d : Nat) (v : AV) : Fm := fun t => match Nat.beq t d with | true => v | false => φ t
def ups (φ : Fm) : List (Nat × AV) → Fm
  | [] => φ
  | (t, v) :: l => upd (ups φ l) t v
def Fx (φ : Fm) : List (Nat × AV) → Prop
  | [] => True
  | (t, v) :: l => φ t = v ∧ Fx φ l
theorem upd_same (φ : Fm) (d : Nat) : upd φ d (φ d) = φ := by
  funext t
  unfold upd
  split
  · rename_i h; rw [Nat.eq_of_beq_eq_true h]
  · rfl
theorem Fx.eq {φ : Fm} : ∀ {l : List (Nat × AV)}, Fx φ l → ups φ l = φ
  | [], _ => rfl
  | (t, v) :: l, ⟨h, k⟩ => by
    show upd (ups φ l) t v = φ
    rw [k.eq, ← h, upd_same]
/-- What stands for every frame of these entries stands for this one. -/
theorem Fx.use {T : Fm → Prop} {φ : Fm} {l : List (Nat × AV)} (J : ∀ ψ, T (ups ψ l)) (h : Fx φ l) : T φ := by
  have := J φ
  rwa [h.eq] at this
def fEval (n : Nat) (φ : Fm) : Operand → Option AV
  | .tmp t => match Nat.blt t n with | true => some (φ t) | false => none
  | .const v => ofVal v
  | .global g => some (.gptr g 0)
  | .func f => some (.fn f [] [])
theorem frm_getD {n : Nat} {φ : Fm} {t : Nat} (h : t < n) : (frm n φ).getD t .undef = φ t := by
  simp [frm, List.getD_eq_getElem?_getD, List.getElem?_range, h]
theorem frm_set {n : Nat} {φ : Fm} {d : Nat} {v : AV} : (frm n φ).set d v = frm n (upd φ d v) := by
  apply List.ext_getElem?
  intro t
  unfold frm upd
  rw [List.getElem?_set]
  by_cases h : d = t
  · subst h
    simp only [if_true, List.length_map, List.length_range, List.getElem?_map]
    by_cases hd : d < n
    · simp [hd, List.getElem?_range]
    · simp [hd]
  · rw [if_neg h]
    simp only [List.getElem?_map]
    have e : Nat.beq t d = false := by
      cases e : Nat.beq t d with
      | false => rfl
      | true => exact absurd (Nat.eq_of_beq_eq_true e).symm h
    cases hx : (List.range n)[t]? with
    | none => rfl
    | some u =>
      have : u = t := by
        have := List.getElem?_eq_some_iff.1 hx
        obtain ⟨h1, h2⟩ := this
        simpa using h2.symm
      subst this
      simp [e]
theorem fEval_eq {n : Nat} {φ : Fm} {x : Operand} {v : AV} (h : fEval n φ x = some v) : aEval (frm n φ) x = some v := by
  cases x with
  | tmp t =>
    simp only [fEval] at h
    split at h
    · rename_i hb
      rw [aEval, frm_getD (Nat.le_of_ble_eq_true hb)]; exact h
    · cases h
  | _ => exact h
theorem aPut_frm {n : Nat} {φ : Fm} {d : Nat} {v : AV} : aPut (frm n φ) (some d) v = frm n (upd φ d v) := frm_set

/-! ### What a piece of code comes to, on the machine -/
/-- The operations of a region in order, and what stands behind them. -/
def wl (P : Program) (ops : Array Oper) (R : Exit → Act → World → Prop) (A : Act → World → Prop) : List Oper → Act → World → Prop
  | [], a, w => A a w
  | o :: l, a, w => if Region.wanted o (yielded ops a.tmps) then o.wp P a w (wl P ops R A l) R else wl P ops R A l (a.put o.dst undef) w
theorem wl_app {P : Program} {ops : Array Oper} {R : Exit → Act → World → Prop} {A : Act → World → Prop} {l2 : List Oper} : ∀ l1 : List Oper, wl P ops R A (l1 ++ l2) = wl P ops R (wl P ops R A l2) l1
  | [] => rfl
  | o :: l1 => by funext a w; simp only [List.cons_append, wl, wl_app l1]
theorem wl_list {P : Program} {ops : Array Oper} {R : Exit → Act → World → Prop} : ∀ (l : List Oper) {a : Act} {w : World}, wl P ops R (R .normal) l a w → wpList P ops R l a w
  | [], _, _, h => h
  | o :: l, a, w, h => by
    unfold wl at h
    unfold wpList
    split
    · rename_i hw; rw [if_pos hw] at h; exact .inl (Oper.wp_mono (fun a w h => wl_list l h) h)
    · rename_i hw; rw [if_neg hw] at h; exact wl_list l h
section
variable (P : Program) (prims : Prims) (n : Nat)
/-- What stands behind a normal end K, and behind another Q. -/
def endK (K : Fm → St → Prop) (Q : AExit → Fm → St → Prop) : AExit → Fm → St → Prop
  | .normal => K
  | e => Q e
def TC (c : Code) (K : Fm → St → Prop) (Q : AExit → Fm → St → Prop) (φ : Fm) (s : St) : Prop :=
  PrimsOk P prims → ∀ (base : Nat) (ρ : Pl) (X : Reg) (w : World) (a : Act) (R : Exit → Act → World → Prop), base ≤ w.heap.size → Sim base ρ X s w → RelL w ρ (UX ρ s.h X) s.c (frm n φ) a.tmps.toList → a.defers = [] →
    (∀ e φ' s' a' w', endK K Q e φ' s' → PostF base ρ X s w (frm n φ') s' a' w' → R (exitOf e) a' w') → c.wp P R a w
/-- b: by a run of the interpreter; else: on the machine. -/
def TO (b : Bool) (ops : Array Oper) (l : List Oper) (K : Fm → St → Prop) (φ : Fm) (s : St) : Prop :=
  match b with
  | true => WO P prims ops l (fun fr' s' => ∃ φ', fr' = frm n φ' ∧ K φ' s') (frm n φ) s
  | false => PrimsOk P prims → ∀ (base : Nat) (ρ : Pl) (X : Reg) (w : World) (a : Act) (R : Exit → Act → World → Prop) (A : Act → World → Prop), base ≤ w.heap.size → Sim base ρ X s w → RelL w ρ (UX ρ s.h X) s.c (frm n φ) a.tmps.toList → a.defers = [] →
    (∀ φ' s' a' w', K φ' s' → PostF base ρ X s w (frm n φ') s' a' w' → A a' w') → wl P ops R A l a w
end
section
variable {P : Program} {prims : Prims} {n : Nat} {b : Bool} {K K' : Fm → St → Prop} {Q Q' : AExit → Fm → St → Prop} {φ φ' : Fm} {s s' : St}
theorem TC.mono {c : Code} (h : TC P prims n c K Q φ s) (hK : ∀ φ s, K φ s → K' φ s) (hQ : ∀ e φ s, Q e φ s → Q' e φ s) : TC P prims n c K' Q' φ s :=
  fun hp base ρ X w a R hb hs hr hd hR => h hp base ρ X w a R hb hs hr hd fun e φ' s' a' w' he => hR e φ' s' a' w' (by cases e <;> first | exact hK _ _ he | exact hQ _ _ _ he)
theorem TC_fx {c : Code} {l : List (Nat × AV)} (h : Fx φ l) (J : ∀ ψ, TC P prims n c K Q (ups ψ l) s) : TC P prims n c K Q φ s := Fx.use (T := fun φ => TC P prims n c K Q φ s) J h
theorem TO_fx {ops : Array Oper} {os : List Oper} {l : List (Nat × AV)} (h : Fx φ l) (J : ∀ ψ, TO P prims n b ops os K (ups ψ l) s) : TO P prims n b ops os K φ s := Fx.use (T := fun φ => TO P prims n b ops os K φ s) J h
theorem TC_seq {x y : Code} (h : TC P prims n x (fun φ s => TC P prims n y K Q φ s) Q φ s) : TC P prims n (.seq x y) K Q φ s :=
  fun hp base ρ X w a R hb hs hr hd hR => wp_seq (h hp base ρ X w a _ hb hs hr hd fun e φ' s' a' w' he hpf => by
    cases e with
    | normal =>
      obtain ⟨ρ1, g1, g2, g3, g4, g5, g6, g7⟩ := hpf
      exact he hp base ρ1 X w' a' R (Nat.le_trans hb g5.size) g3 g4 g7 fun e φ'' s'' a'' w'' he' hq => hR e φ'' s'' a'' w'' he' (PostF.cons g1 g2 g5 g6 hq)
    | exit id => exact hR _ _ _ _ _ he hpf
    | ret => exact hR _ _ _ _ _ he hpf)
theorem TC_skip (h : K φ s) : TC P prims n .skip K Q φ s := fun hp base ρ X w a R hb hs hr hd hR => wp_skip (hR .normal φ s a w h (.refl hs hr hd))
theorem TC_label {l : _} (h : K φ s) : TC P prims n (.label l) K Q φ s := fun hp base ρ X w a R hb hs hr hd hR => wp_label (hR .normal φ s a w h (.refl hs hr hd))
theorem TC_exit {id : Nat} (h : Q (.exit id) φ s) : TC P prims n (.exit id) K Q φ s := fun hp base ρ X w a R hb hs hr hd hR => wp_exit (hR (.exit id) φ s a w h (.refl hs hr hd))
theorem TC_ret (h : Q .ret φ s) : TC P prims n .ret K Q φ s := fun hp base ρ X w a R hb hs hr hd hR => wp_ret (hR .ret φ s a w h (.refl hs hr hd))
theorem TC_scope {c : Code} (h : TC P prims n c K Q φ s) : TC P prims n (.scope c) K Q φ s := fun hp base ρ X w a R hb hs hr hd hR => wp_scope_straight (h hp base ρ X w a _ hb hs hr hd fun e φ' s' a' w' he hpf => by cases e <;> exact hR _ _ _ _ _ he hpf)
theorem TC_cond_t {c : Operand} {x y : Code} {t : Bool} (hc : fEval n φ c = some (.bool t)) (ht : t = true) (k : TC P prims n x K Q φ s) : TC P prims n (.cond c x y) K Q φ s := by
  subst ht
  intro hp base ρ X w a R hb hs hr hd hR
  have hv := aEval_rel hr (fEval_eq hc)
  simp only [Rel] at hv
  exact wp_cond_true hv (k hp base ρ X w a R hb hs hr hd hR)
theorem TC_cond_f {c : Operand} {x y : Code} {t : Bool} (hc : fEval n φ c = some (.bool t)) (ht : ¬ t = true) (k : TC P prims n y K Q φ s) : TC P prims n (.cond c x y) K Q φ s := by
  have : t = false := by simpa using ht
  subst this
  intro hp base ρ X w a R hb hs hr hd hR
  have hv := aEval_rel hr (fEval_eq hc)
  simp only [Rel] at hv
  exact wp_cond_false hv (k hp base ρ X w a R hb hs hr hd hR)
theorem TC_block {id : Nat} {c : Code} (h : TC P prims n c K (fun e φ s => if e = .exit id then K φ s else Q e φ s) φ s) : TC P prims n (.block id c) K Q φ s :=
  fun hp base ρ X w a R hb hs hr hd hR => wp_block (h hp base ρ X w a _ hb hs hr hd fun e φ' s' a' w' he hpf => by
    cases e with
    | normal => exact hR .normal _ _ _ _ he hpf
    | exit id' =>
      show Exit.inBlock id R (.exit id') a' w'
      simp only [Exit.inBlock]
      have he : if (AExit.exit id') = .exit id then K φ' s' else Q (.exit id') φ' s' := he
      split
      · rename_i hid; subst hid; rw [if_pos rfl] at he; exact hR .normal _ _ _ _ he hpf
      · rename_i hid; rw [if_neg (by simpa using hid)] at he; exact hR (.exit id') _ _ _ _ he hpf
    | ret =>
      have he : if AExit.ret = .exit id then K φ' s' else Q .ret φ' s' := he
      rw [if_neg (by simp)] at he
      exact hR .ret _ _ _ _ he hpf)
theorem TC_reg {id : Nat} {ops : Array Oper} (h : TO P prims n false ops ops.toList K φ s) : TC P prims n (.region id ops false) K Q φ s :=
  fun hp base ρ X w a R hb hs hr hd hR => wp_region_list (wl_list _ (h hp base ρ X w a R _ hb hs hr hd fun φ' s' a' w' hk hpf => hR .normal _ _ _ _ hk hpf))
theorem draw_run {ops : Array Oper} {H : List AV → St → Prop} {fr : List AV} (hc : calm P prims ops (Region.before ops) = true) (h : WO P prims ops ops.toList H fr s) : ∃ fr' s' m, H fr' s' ∧ aDraw P (aCall P prims m) prims ops (Region.before ops) (List.range ops.size) fr s = some (fr', s') := by
  unfold WO at h
  obtain ⟨fr1, s1, h1, N, hN⟩ := h
  refine ⟨fr1, s1, N, h1, ?_⟩
  rw [List.range_eq_range', show ops.size = ops.toList.length by simp, draw_eq (P := P) (call := aCall P prims N) hc ops.toList 0 rfl fr s]
  exact hN N (Nat.le_refl _)
theorem TC_drawn {id : Nat} {ops : Array Oper} (hok : drawOk P ops = true) (hc : calm P prims ops (Region.before ops) = true) (h : TO P prims n true ops ops.toList K φ s) : TC P prims n (.region id ops true) K Q φ s := by
  intro hp base ρ X w a R hb hs hr hd hR
  obtain ⟨fr1, s1, m, ⟨φ', e, hK⟩, hrun⟩ := draw_run hc h
  subst e
  exact draw_ok (aCall_sound hp m) (aCall_quiet m) ops R id hok hb hs hr hd hrun fun a' w' hpf => hR .normal _ _ _ _ hK hpf
inductive RunsN {σ ρ : Type} (body : σ → Option (σ ⊕ ρ)) : Nat → σ → ρ → Prop
  | done {a : σ} {r : ρ} : body a = some (.inr r) → RunsN body 1 a r
  | next {k : Nat} {a b : σ} {r : ρ} : body a = some (.inl b) → RunsN body k b r → RunsN body (k + 1) a r
theorem Runs.count {σ ρ : Type} {body : σ → Option (σ ⊕ ρ)} {a : σ} {r : ρ} (h : Runs body a r) : ∃ k, RunsN body k a r := by
  induction h with
  | done h => exact ⟨1, .done h⟩
  | next h _ ih => obtain ⟨k, hk⟩ := ih; exact ⟨k + 1, .next h hk⟩
theorem TC_loop {σ τ : Type} {body : σ → Option (σ ⊕ τ)} {c : Code} (I : σ → Fm → St → Prop) (E : τ → AExit → Fm → St → Prop)
    (step : ∀ a o, body a = some o → ∀ φ s, I a φ s → TC P prims n c (fun φ' s' => ∃ b, o = .inl b ∧ I b φ' s') (fun e φ' s' => ∃ r, o = .inr r ∧ E r e φ' s') φ s)
    {a : σ} {r : τ} (hr : loop body a = some r) (h0 : I a φ s) (hE : ∀ e φ s, E r e φ s → Q e φ s) : TC P prims n (.loop c) K Q φ s := by
  obtain ⟨k, hk⟩ := (loop_iff.1 hr).count
  intro hp base ρ X w ac R hb hs hrl hd hR
  refine wp_loop_rounds k ?_
  clear hr
  induction hk generalizing φ s ρ w ac with
  | @done a r hb' =>
    rw [rounds_succ]
    refine step a _ hb' φ s h0 hp base ρ X w ac _ hb hs hrl hd fun e φ' s' a' w' he hpf => ?_
    cases e with
    | normal => obtain ⟨b, e2, _⟩ := he; cases e2
    | exit id => obtain ⟨r', e2, h⟩ := he; injection e2 with e2; subst e2; exact hR (.exit id) _ _ _ _ (hE _ _ _ h) hpf
    | ret => obtain ⟨r', e2, h⟩ := he; injection e2 with e2; subst e2; exact hR .ret _ _ _ _ (hE _ _ _ h) hpf
  | @next k a b r hb' hk ih =>
    rw [rounds_succ]
    refine step a _ hb' φ s h0 hp base ρ X w ac _ hb hs hrl hd fun e φ' s' a' w' he hpf => ?_
    cases e with
    | normal =>
      obtain ⟨b', e2, hI⟩ := he
      injection e2 with e2; subst e2
      obtain ⟨ρ1, g1, g2, g3, g4, g5, g6, g7⟩ := hpf
      exact ih hI hE ρ1 w' a' (Nat.le_trans hb g5.size) g3 g4 g7 fun e φ'' s'' a'' w'' he' hq => hR e φ'' s'' a'' w'' he' (PostF.cons g1 g2 g5 g6 hq)
    | exit id => obtain ⟨r', e2, h⟩ := he; cases e2
    | ret => obtain ⟨r', e2, h⟩ := he; cases e2
/-! ### Operations -/
theorem TO_nil {ops : Array Oper} (h : K φ s) : TO P prims n b ops [] K φ s := by
  cases b with
  | true => exact WO_nil ⟨φ, rfl, h⟩
  | false => exact fun hp base ρ X w a R A hb hs hr hd hR => hR φ s a w h (.refl hs hr hd)
/-- An operation that is done on the machine, whatever it then comes to. -/
theorem TO_sem {ops : Array Oper} {o : Oper} {l : List Oper} (hg : o.guard = none)
    (h : PrimsOk P prims → ∀ (base : Nat) (ρ : Pl) (X : Reg) (w : World) (a : Act) (A : Act → World → Prop) (B : Exit → Act → World → Prop), base ≤ w.heap.size → Sim base ρ X s w → RelL w ρ (UX ρ s.h X) s.c (frm n φ) a.tmps.toList → a.defers = [] →
      (∀ v s' v' w', TO P prims n false ops l K (match o.dst with | some d => upd φ d v | none => φ) s' → Post base ρ X s w v s' v' w' → A (a.put o.dst v') w') → o.wp P a w A B) : TO P prims n false ops (o :: l) K φ s := by
  intro hp base ρ X w a R A hb hs hr hd hR
  have hw : Region.wanted o (yielded ops a.tmps) = true := by simp [Region.wanted, hg]
  unfold wl
  rw [if_pos hw]
  refine h hp base ρ X w a _ _ hb hs hr hd fun v s' v' w' hk hpost => ?_
  have hpf := Post.frame (dst := o.dst) hs hr hd hpost
  have e : aPut (frm n φ) o.dst v = frm n (match o.dst with | some d => upd φ d v | none => φ) := by
    cases o.dst with
    | none => rfl
    | some d => exact aPut_frm
  rw [e] at hpf
  obtain ⟨ρ1, g1, g2, g3, g4, g5, g6, g7⟩ := hpf
  exact hk hp base ρ1 X w' _ R A (Nat.le_trans hb g5.size) g3 g4 g7 fun φ'' s'' a'' w'' hk' hq => hR φ'' s'' a'' w'' hk' (PostF.cons g1 g2 g5 g6 hq)
section
variable {ops : Array Oper} {l : List Oper} {d : Tmp} {v : AV}
/-- An operation that is done, and what it comes to. -/
theorem TO_op {o : Oper} (hg : o.guard = none) (hd : o.dst = some d) (h : ∀ call, aOp P call o (frm n φ) s = some (v, s')) (k : TO P prims n b ops l K (upd φ d v) s') : TO P prims n b ops (o :: l) K φ s := by
  cases b with
  | true =>
    refine WO_step hg h ?_ k
    rw [hd]; exact aPut_frm
  | false =>
    refine TO_sem hg fun hp base ρ X w a A B hb hs hr hdf hA => ?_
    exact op_wp (aCall_sound hp 0) hb hs hr (h _) fun v' w' hpost => hA v s' v' w' (by rw [hd]; exact k) hpost
theorem TO_op0 {o : Oper} (hg : o.guard = none) (hd : o.dst = none) (h : ∀ call, aOp P call o (frm n φ) s = some (v, s')) (k : TO P prims n b ops l K φ s') : TO P prims n b ops (o :: l) K φ s := by
  cases b with
  | true =>
    refine WO_step hg h ?_ k
    rw [hd]; rfl
  | false =>
    refine TO_sem hg fun hp base ρ X w a A B hb hs hr hdf hA => ?_
    exact op_wp (aCall_sound hp 0) hb hs hr (h _) fun v' w' hpost => hA v s' v' w' (by rw [hd]; exact k) hpost
/-- A call of what is known. -/
theorem TO_prim {g : FuncId} {fn : Func} {as : Array Operand} {ts : Array TypeId} {F : Glob → List AV → Option AV} {vs : List AV} {r : AV} {ty : TypeId} {pos : String} {af : Array Edge} (hp : prims g = some F) (hf : P.funcs[g]? = some fn) (hn : enters fn = true)
    (ha : aEvals (frm n φ) as.toList = some vs) (hc : callPrim F vs s = some (r, s)) (k : TO P prims n b ops l K (upd φ d r) s) : TO P prims n b ops (⟨some d, .call ⟨.value (.func g), as, ts⟩, ty, pos, af, none⟩ :: l) K φ s := by
  cases b with
  | true => exact WO_prim hp hf hn ha hc aPut_frm k
  | false =>
    refine TO_sem rfl fun hpr base ρ X w a A B hb hs hr hdf hA => ?_
    refine op_wp (v := r) (s' := s) (aCall_sound hpr 1) hb hs hr ?_ fun v' w' hpost => hA r s v' w' k hpost
    simp only [aOp, ha, aEval, Option.bind_eq_bind, Option.bind_some, aCall, hf, hn, if_true, hp, List.nil_append, List.append_nil]
    exact hc
end
end
end Go.Ai
