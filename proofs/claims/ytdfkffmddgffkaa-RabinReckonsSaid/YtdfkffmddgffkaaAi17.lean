/- Contracts from runs. -/
import Derived.Test.YtdfkffmddgffkaaAi16
set_option linter.unusedVariables false
set_option linter.unusedSimpArgs false
namespace Go.Ai
section
variable {P : Program} {prims : Prims}

theorem callPrim_state {p : List AV → Option AV} {args : List AV} {s s' : St} {v : AV} (h : callPrim p args s = some (v, s')) : s' = s := by
  simp only [callPrim, Option.bind_eq_bind, Option.bind_eq_some_iff] at h
  obtain ⟨us, _, r, _, h⟩ := h
  split at h
  · cases h
  · injection h with h; injection h with e1 e2; exact e2.symm
theorem aCall_quiet : ∀ n, Quiet prims (aCall P prims n)
  | 0 => fun g args s v s' _ h => by simp [aCall] at h
  | n + 1 => fun g args s v s' hp h => by
    simp only [aCall] at h
    split at h
    · cases h
    · split at h
      · split at h
        · exact callPrim_state h
        · rename_i hn; rw [hn] at hp; cases hp
      · cases h
theorem aCall_sound {base : Nat} (hp : PrimsOk P prims) (n : Nat) : CallOk P base (aCall P prims n) :=
  aCall_ok hp (fun n hc => draw_ok hc (aCall_quiet n)) n

/-- A result without names. -/
def outV : AV → AV
  | .vec k xs (.tok _) => .vec k xs .unk
  | v => v
def out (v : AV) : Option AV :=
  let u := match v with
    | .tup vs => .tup (vs.map outV)
    | .agg vs => .agg (vs.map outV)
    | v => outV v
  if pureV u then some u else none
theorem outV_rel {w : World} {ρ : Pl} {U : Reg} {c : Nat} {x : AV} {v : Value} (h : Rel w ρ U c x v) : Rel w ρ U c (outV x) v := by
  unfold outV
  split
  · simp only [Rel] at h ⊢
    obtain ⟨a, cap, cs, h1, h2, h3, h4, h5⟩ := h
    exact ⟨a, cap, cs, h1, h2, h3, h4, trivial⟩
  · exact h
theorem outL_rel {w : World} {ρ : Pl} {U : Reg} {c : Nat} : ∀ {xs : List AV} {vs : List Value}, RelL w ρ U c xs vs → RelL w ρ U c (xs.map outV) vs
  | [], _, h => h
  | x :: xs, vs, h => by
    simp only [List.map_cons, RelL] at h ⊢
    obtain ⟨v, us, h1, h2, h3⟩ := h
    exact ⟨v, us, h1, outV_rel h2, outL_rel h3⟩
theorem out_rel {w : World} {ρ ρ' : Pl} {U U' : Reg} {c c' : Nat} {x u : AV} {v : Value} (hU : ∀ b j, U' b j → U b j) (hu : out x = some u) (h : Rel w ρ U c x v) : Rel w ρ' U' c' u v := by
  unfold out at hu
  simp only [Option.ite_none_right_eq_some] at hu
  obtain ⟨hp, hu⟩ := hu
  injection hu with hu
  rw [hu] at hp
  refine Rel.pure (ρ := ρ) (c := c) hU u v hp ?_
  rw [← hu]
  split
  · simp only [Rel] at h ⊢
    obtain ⟨vs, h1, h2⟩ := h
    exact ⟨vs, h1, outL_rel h2⟩
  · simp only [Rel] at h ⊢
    obtain ⟨vs, h1, h2⟩ := h
    exact ⟨vs, h1, outL_rel h2⟩
  · exact outV_rel h

def s0 : St := ⟨[], 0, 0⟩
/-- What a run of a function answers to values without names. -/
def answer (P : Program) (prims : Prims) (n : Nat) (f : FuncId) (args : List AV) : Option AV := (aCall P prims n f args s0).bind fun r => out r.1

theorem sim0 {w : World} {U : Reg} (hU : ∀ b j, U b j → b < w.heap.size) : Sim w.heap.size ρ0 U s0 w :=
  ⟨fun n o h => by simp [s0, hget] at h, fun n o h => by simp [s0, hget] at h, fun n m o o' h => by simp [s0, hget] at h, fun n o h => by simp [s0, hget] at h, fun n o h => by simp [s0, hget] at h, hU⟩

theorem answer_calls (hp : PrimsOk P prims) {n : Nat} {f : FuncId} {args : List AV} {r : AV} (h : answer P prims n f args = some r) {w : World} {U : Reg} {vs : List Value} (hU : ∀ b j, U b j → b < w.heap.size) (hr : RelL w ρ0 U 0 args vs) :
    Calls P f vs.toArray w fun e w' => ∃ v', e = .returned v' ∧ Rel w' ρ0 U 0 r v' ∧ RowKit.Below w.heap.size w w' := by
  unfold answer at h
  obtain ⟨⟨v, s'⟩, h1, h2⟩ := Option.bind_eq_some_iff.1 h
  have hUX : ∀ b j, UX ρ0 s0.h U b j → U b j := by
    rintro b j (⟨n, o, hn, _⟩ | hx)
    · simp [s0, hget] at hn
    · exact hx
  have hr' : RelL w ρ0 (UX ρ0 s0.h U) s0.c args vs := RelL.mono ⟨Nat.le_refl _, fun _ _ => rfl, fun a u hu _ => hu, fun a ha => ha, fun b j _ hj => hUX b j hj⟩ _ _ hr
  refine ((aCall_sound hp n f args s0 v s' h1).2 ρ0 U w vs (Nat.le_refl _) (sim0 hU) hr').mono fun e w' he => ?_
  obtain ⟨v', rfl, ρ', g1, g2, g3, g4, g5, g6⟩ := he
  refine ⟨v', rfl, out_rel (fun b j hj => .inr hj) h2 g4, ⟨g5.os, g5.tape, g5.output, g5.size, fun k hk => g5.blk k hk ?_⟩⟩
  rintro j ⟨m, o, hm, _⟩
  simp [s0, hget] at hm
theorem answer_enters (hp : PrimsOk P prims) {n : Nat} {f : FuncId} {args : List AV} {r : AV} (h : answer P prims n f args = some r) : ∃ fn, P.funcs[f]? = some fn ∧ enters fn = true := by
  unfold answer at h
  obtain ⟨⟨v, s'⟩, h1, h2⟩ := Option.bind_eq_some_iff.1 h
  exact (aCall_sound (base := 0) hp n f args s0 v s' h1).1
/-- A contract of a function whose runs are known. -/
theorem pureC_of (hp : PrimsOk P prims) {f : FuncId} (he : ∃ fn, P.funcs[f]? = some fn ∧ enters fn = true) {F : List AV → Option AV} (h : ∀ args r, F args = some r → ∃ n, answer P prims n f args = some r) : PureC P f F :=
  ⟨he, fun args r hF w U vs hU hr => by
    obtain ⟨n, hn⟩ := h args r hF
    exact answer_calls hp hn hU hr⟩
theorem primsOk_nil : PrimsOk P fun _ => none := fun f F h => by cases h
/-- One more known function. -/
def Prims.add (prims : Prims) (f : FuncId) (F : List AV → Option AV) : Prims := fun g => if g = f then some F else prims g
theorem primsOk_add {f : FuncId} {F : List AV → Option AV} (hp : PrimsOk P prims) (hF : PureC P f F) : PrimsOk P (prims.add f F) := fun g G h => by
  unfold Prims.add at h
  split at h
  · rename_i e; subst e; injection h with h; subst h; exact hF
  · exact hp g G h
end
end Go.Ai
