/- Contracts from runs. -/
import Derived.Test.YtdfkffmddgffkaaAi16
set_option linter.unusedVariables false
set_option linter.unusedSimpArgs false
namespace Go.Ai
section
variable {P : Program} {prims : Prims}

theorem callPrim_state {p : Glob → List AV → Option AV} {args : List AV} {s s' : St} {v : AV} (h : callPrim p args s = some (v, s')) : s' = s := by
  simp only [callPrim, Option.bind_eq_bind, Option.bind_eq_some_iff] at h
  obtain ⟨us, _, r, _, h⟩ := h
  split at h
  · cases h
  · injection h with h; injection h with e1 e2; exact e2.symm
theorem aCall_quiet : ∀ n, Quiet prims (aCall P prims n)
  | 0 => fun g args s v s' _ h => by simp [aCall] at h
  | n + 1 => fun g args s v s' hp h => by
    simp only [aCall] at h
    split at h
    · cases h
    · split at h
      · split at h
        · exact callPrim_state h
        · rename_i hn; rw [hn] at hp; cases hp
      · cases h
theorem aCall_sound {base : Nat} (hp : PrimsOk P prims) (n : Nat) : CallOk P base (aCall P prims n) :=
  aCall_ok hp (fun n hc => draw_ok hc (aCall_quiet n)) n

/-- A result without names. -/
def out (v : AV) : Option AV := if pureV (stripV v) then some (stripV v) else none
theorem out_rel {w : World} {ρ ρ' : Pl} {U U' : Reg} {c c' : Nat} {x u : AV} {v : Value} (hU : ∀ b j, U' b j → U b j) (hu : out x = some u) (h : Rel w ρ U c x v) : Rel w ρ' U' c' u v := by
  unfold out at hu
  simp only [Option.ite_none_right_eq_some] at hu
  obtain ⟨hp, hu⟩ := hu
  injection hu with hu
  rw [hu] at hp
  refine Rel.pure (ρ := ρ) (c := c) hU u v hp ?_
  rw [← hu]
  exact strip_rel x v h

/-- Package variables of which nothing is known. -/
def noGlob : Glob := fun _ => none
def sG (G : Glob) : St := ⟨[], 0, 0, G⟩
def s0 : St := sG noGlob
/-- What a run of a function answers to values without names. -/
def answerG (P : Program) (prims : Prims) (G : Glob) (n : Nat) (f : FuncId) (args : List AV) : Option AV := (aCall P prims n f args (sG G)).bind fun r => out r.1
def answer (P : Program) (prims : Prims) (n : Nat) (f : FuncId) (args : List AV) : Option AV := (aCall P prims n f args s0).bind fun r => out r.1

theorem simG {w : World} {U : Reg} {G : Glob} (hU : ∀ b j, U b j → b < w.heap.size) (hG : GlobOk w ρ0 U 0 G) : Sim w.heap.size ρ0 U (sG G) w :=
  ⟨fun n o h => by simp [sG, hget] at h, fun n o h => by simp [sG, hget] at h, fun n m o o' h => by simp [sG, hget] at h, fun n o h => by simp [sG, hget] at h, fun n o h => by simp [sG, hget] at h, hU, by
    refine hG.mono ⟨Nat.le_refl _, fun _ _ => rfl, fun a u hu _ => hu, fun a ha => ha, ?_⟩
    rintro b j _ (⟨n, o, hn, _⟩ | hx)
    · simp [sG, hget] at hn
    · exact hx⟩
theorem globOk_none {w : World} {ρ : Pl} {U : Reg} {c : Nat} : GlobOk w ρ U c noGlob := fun g cs h => by cases h

theorem answer_callsG (hp : PrimsOk P prims) {G : Glob} {n : Nat} {f : FuncId} {args : List AV} {r : AV} (h : answerG P prims G n f args = some r) {w : World} {U : Reg} {vs : List Value} (hU : ∀ b j, U b j → b < w.heap.size) (hG : GlobOk w ρ0 U 0 G) (hr : RelL w ρ0 U 0 args vs) :
    Calls P f vs.toArray w fun e w' => ∃ v', e = .returned v' ∧ Rel w' ρ0 U 0 r v' ∧ RowKit.Below w.heap.size w w' := by
  unfold answerG at h
  obtain ⟨⟨v, s'⟩, h1, h2⟩ := Option.bind_eq_some_iff.1 h
  have hUX : ∀ b j, UX ρ0 (sG G).h U b j → U b j := by
    rintro b j (⟨n, o, hn, _⟩ | hx)
    · simp [sG, hget] at hn
    · exact hx
  have hr' : RelL w ρ0 (UX ρ0 (sG G).h U) (sG G).c args vs := RelL.mono ⟨Nat.le_refl _, fun _ _ => rfl, fun a u hu _ => hu, fun a ha => ha, fun b j _ hj => hUX b j hj⟩ _ _ hr
  refine ((aCall_sound hp n f args (sG G) v s' h1).2 ρ0 U w vs (Nat.le_refl _) (simG hU hG) hr').mono fun e w' he => ?_
  obtain ⟨v', rfl, ρ', g1, g2, g3, g4, g5, g6⟩ := he
  refine ⟨v', rfl, out_rel (fun b j hj => .inr hj) h2 g4, ⟨g5.os, g5.tape, g5.output, g5.size, fun k hk => g5.blk k hk ?_⟩⟩
  rintro j ⟨m, o, hm, _⟩
  simp [sG, hget] at hm
theorem answer_calls (hp : PrimsOk P prims) {n : Nat} {f : FuncId} {args : List AV} {r : AV} (h : answer P prims n f args = some r) {w : World} {U : Reg} {vs : List Value} (hU : ∀ b j, U b j → b < w.heap.size) (hr : RelL w ρ0 U 0 args vs) :
    Calls P f vs.toArray w fun e w' => ∃ v', e = .returned v' ∧ Rel w' ρ0 U 0 r v' ∧ RowKit.Below w.heap.size w w' :=
  answer_callsG (G := noGlob) hp h hU globOk_none hr
theorem answerG_enters (hp : PrimsOk P prims) {G : Glob} {n : Nat} {f : FuncId} {args : List AV} {r : AV} (h : answerG P prims G n f args = some r) : ∃ fn, P.funcs[f]? = some fn ∧ enters fn = true := by
  unfold answerG at h
  obtain ⟨⟨v, s'⟩, h1, h2⟩ := Option.bind_eq_some_iff.1 h
  exact (aCall_sound (base := 0) hp n f args (sG G) v s' h1).1
/-- A contract of a function whose runs are known. -/
theorem pureC_of (hp : PrimsOk P prims) {f : FuncId} (he : ∃ fn, P.funcs[f]? = some fn ∧ enters fn = true) {F : List AV → Option AV} (h : ∀ args r, F args = some r → ∃ n, answer P prims n f args = some r) : PureC P f (fun _ => F) :=
  ⟨he, fun _ args r hF w U vs hU _ hr => by
    obtain ⟨n, hn⟩ := h args r hF
    exact answer_calls hp hn hU hr⟩
theorem pureCG_of (hp : PrimsOk P prims) {f : FuncId} (he : ∃ fn, P.funcs[f]? = some fn ∧ enters fn = true) {F : Glob → List AV → Option AV} (h : ∀ G args r, F G args = some r → ∃ n, answerG P prims G n f args = some r) : PureC P f F :=
  ⟨he, fun G args r hF w U vs hU hG hr => by
    obtain ⟨n, hn⟩ := h G args r hF
    exact answer_callsG hp hn hU hG hr⟩
theorem primsOk_nil : PrimsOk P fun _ => none := fun f F h => by cases h
/-- One more known function. -/
def Prims.addG (prims : Prims) (f : FuncId) (F : Glob → List AV → Option AV) : Prims := fun g => if g = f then some F else prims g
def Prims.add (prims : Prims) (f : FuncId) (F : List AV → Option AV) : Prims := fun g => if g = f then some (fun _ => F) else prims g
theorem primsOk_addG {f : FuncId} {F : Glob → List AV → Option AV} (hp : PrimsOk P prims) (hF : PureC P f F) : PrimsOk P (prims.addG f F) := fun g G h => by
  unfold Prims.addG at h
  split at h
  · rename_i e; subst e; injection h with h; subst h; exact hF
  · exact hp g G h
theorem primsOk_add {f : FuncId} {F : List AV → Option AV} (hp : PrimsOk P prims) (hF : PureC P f (fun _ => F)) : PrimsOk P (prims.add f F) := primsOk_addG hp hF
end
end Go.Ai
