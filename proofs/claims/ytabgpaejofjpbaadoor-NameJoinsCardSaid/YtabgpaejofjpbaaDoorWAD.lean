/- My own texts DevAi18, DevAi19, DevAi20, DevAi21, one behind the other. -/
import Derived.Test.YtabgpaejofjpbaaDoorWAC
import Derived.IntWalk
import Derived.Laws.Bits64
section
/- Rules for runs: what a piece of code comes to, with fuel enough. -/
set_option linter.unusedVariables false
set_option linter.unusedSimpArgs false
namespace Go.Ai
section
variable {P : Program} {prims : Prims}

/-- A run of code: behind its normal end K, behind another Q. -/
def WC (P : Program) (prims : Prims) (c : Code) (K : List AV → St → Prop) (Q : AExit → List AV → St → Prop) (fr : List AV) (s : St) : Prop :=
  ∃ e fr' s', (match e with | .normal => K fr' s' | e => Q e fr' s') ∧ ∃ N, ∀ m, N ≤ m → ∀ n, N ≤ n → aCode P (aCall P prims m) prims n c fr s = some (e, fr', s')
def WO (P : Program) (prims : Prims) (ops : Array Oper) (l : List Oper) (K : List AV → St → Prop) (fr : List AV) (s : St) : Prop :=
  ∃ fr' s', K fr' s' ∧ ∃ N, ∀ m, N ≤ m → aOps P (aCall P prims m) ops l fr s = some (fr', s')
def WD (P : Program) (prims : Prims) (ops : Array Oper) (b : Array Nat) (l : List Nat) (K : List AV → St → Prop) (fr : List AV) (s : St) : Prop :=
  ∃ fr' s', K fr' s' ∧ ∃ N, ∀ m, N ≤ m → aDraw P (aCall P prims m) prims ops b l fr s = some (fr', s')
def WF (P : Program) (prims : Prims) (f : FuncId) (args : List AV) (s : St) (K : AV → St → Prop) : Prop :=
  ∃ v s', K v s' ∧ ∃ N, ∀ m, N ≤ m → aCall P prims m f args s = some (v, s')
def WP (P : Program) (prims : Prims) (o : Oper) (fr : List AV) (s : St) (K : AV → St → Prop) : Prop :=
  ∃ v s', K v s' ∧ ∃ N, ∀ m, N ≤ m → aOp P (aCall P prims m) o fr s = some (v, s')

variable {K K' : List AV → St → Prop} {Q Q' : AExit → List AV → St → Prop} {fr fr' : List AV} {s s' : St}

theorem WC.mono {c : Code} (h : WC P prims c K Q fr s) (hK : ∀ fr s, K fr s → K' fr s) (hQ : ∀ e fr s, Q e fr s → Q' e fr s) : WC P prims c K' Q' fr s := by
  obtain ⟨e, fr', s', h1, h2⟩ := h
  refine ⟨e, fr', s', ?_, h2⟩
  cases e <;> first | exact hK _ _ h1 | exact hQ _ _ _ h1
theorem WC_skip (h : K fr s) : WC P prims .skip K Q fr s :=
  ⟨.normal, fr, s, h, 1, fun m _ n hn => by obtain ⟨n, rfl⟩ : ∃ k, n = k + 1 := ⟨n - 1, by omega⟩; rfl⟩
theorem WC_label {l : _} (h : K fr s) : WC P prims (.label l) K Q fr s :=
  ⟨.normal, fr, s, h, 1, fun m _ n hn => by obtain ⟨n, rfl⟩ : ∃ k, n = k + 1 := ⟨n - 1, by omega⟩; rfl⟩
theorem WC_exit {id : Nat} (h : Q (.exit id) fr s) : WC P prims (.exit id) K Q fr s :=
  ⟨.exit id, fr, s, h, 1, fun m _ n hn => by obtain ⟨n, rfl⟩ : ∃ k, n = k + 1 := ⟨n - 1, by omega⟩; rfl⟩
theorem WC_ret (h : Q .ret fr s) : WC P prims .ret K Q fr s :=
  ⟨.ret, fr, s, h, 1, fun m _ n hn => by obtain ⟨n, rfl⟩ : ∃ k, n = k + 1 := ⟨n - 1, by omega⟩; rfl⟩
theorem WC_seq {a b : Code} (h : WC P prims a (fun fr s => WC P prims b K Q fr s) Q fr s) : WC P prims (.seq a b) K Q fr s := by
  obtain ⟨e, fr1, s1, h1, N, hN⟩ := h
  cases e with
  | normal =>
    obtain ⟨e2, fr2, s2, k1, M, hM⟩ := h1
    refine ⟨e2, fr2, s2, k1, N + M + 1, fun m hm n hn => ?_⟩
    obtain ⟨n, rfl⟩ : ∃ k, n = k + 1 := ⟨n - 1, by omega⟩
    simp only [aCode, hN m (by omega) n (by omega), hM m (by omega) n (by omega)]
  | exit id =>
    refine ⟨.exit id, fr1, s1, h1, N + 1, fun m hm n hn => ?_⟩
    obtain ⟨n, rfl⟩ : ∃ k, n = k + 1 := ⟨n - 1, by omega⟩
    simp only [aCode, hN m (by omega) n (by omega)]
  | ret =>
    refine ⟨.ret, fr1, s1, h1, N + 1, fun m hm n hn => ?_⟩
    obtain ⟨n, rfl⟩ : ∃ k, n = k + 1 := ⟨n - 1, by omega⟩
    simp only [aCode, hN m (by omega) n (by omega)]
theorem WC_cond {c : Operand} {a b : Code} {t : Bool} (hc : aEval fr c = some (.bool t)) (h1 : t = true → WC P prims a K Q fr s) (h2 : t = false → WC P prims b K Q fr s) : WC P prims (.cond c a b) K Q fr s := by
  cases t with
  | true =>
    obtain ⟨e2, fr2, s2, k1, M, hM⟩ := h1 rfl
    refine ⟨e2, fr2, s2, k1, M + 1, fun m hm n hn => ?_⟩
    obtain ⟨n, rfl⟩ : ∃ k, n = k + 1 := ⟨n - 1, by omega⟩
    simp only [aCode, hc, hM m (by omega) n (by omega)]
  | false =>
    obtain ⟨e2, fr2, s2, k1, M, hM⟩ := h2 rfl
    refine ⟨e2, fr2, s2, k1, M + 1, fun m hm n hn => ?_⟩
    obtain ⟨n, rfl⟩ : ∃ k, n = k + 1 := ⟨n - 1, by omega⟩
    simp only [aCode, hc, hM m (by omega) n (by omega)]
theorem WC_block {id : Nat} {c : Code} (h : WC P prims c K (fun e fr s => if e = .exit id then K fr s else Q e fr s) fr s) : WC P prims (.block id c) K Q fr s := by
  obtain ⟨e, fr1, s1, h1, N, hN⟩ := h
  cases e with
  | normal =>
    refine ⟨.normal, fr1, s1, h1, N + 1, fun m hm n hn => ?_⟩
    obtain ⟨n, rfl⟩ : ∃ k, n = k + 1 := ⟨n - 1, by omega⟩
    simp only [aCode, hN m (by omega) n (by omega)]
  | exit id' =>
    by_cases hid : id' = id
    · subst hid
      refine ⟨.normal, fr1, s1, by simpa using h1, N + 1, fun m hm n hn => ?_⟩
      obtain ⟨n, rfl⟩ : ∃ k, n = k + 1 := ⟨n - 1, by omega⟩
      simp only [aCode, hN m (by omega) n (by omega), if_true]
    · refine ⟨.exit id', fr1, s1, by simpa [hid] using h1, N + 1, fun m hm n hn => ?_⟩
      obtain ⟨n, rfl⟩ : ∃ k, n = k + 1 := ⟨n - 1, by omega⟩
      simp only [aCode, hN m (by omega) n (by omega), if_neg hid]
  | ret =>
    refine ⟨.ret, fr1, s1, by simpa using h1, N + 1, fun m hm n hn => ?_⟩
    obtain ⟨n, rfl⟩ : ∃ k, n = k + 1 := ⟨n - 1, by omega⟩
    simp only [aCode, hN m (by omega) n (by omega)]
theorem WC_scope {c : Code} (h : WC P prims c K Q fr s) : WC P prims (.scope c) K Q fr s := by
  obtain ⟨e2, fr2, s2, k1, M, hM⟩ := h
  refine ⟨e2, fr2, s2, k1, M + 1, fun m hm n hn => ?_⟩
  obtain ⟨n, rfl⟩ : ∃ k, n = k + 1 := ⟨n - 1, by omega⟩
  simp only [aCode, hM m (by omega) n (by omega)]
/-- A loop: I k is what stands at a round's start, with at most k rounds to go. -/
theorem WC_loop {c : Code} {ι : Sort _} (I : Nat → ι → Prop) (F : ι → List AV) (S : ι → St)
    (step : ∀ k x, I k x → WC P prims c (fun fr' s' => ∃ k' x', k' < k ∧ I k' x' ∧ fr' = F x' ∧ s' = S x') Q (F x) (S x)) : ∀ (k : Nat) (x : ι), I k x → WC P prims (.loop c) K Q (F x) (S x) := by
  intro k
  induction k using Nat.strongRecOn with
  | ind k ih =>
    intro x hx
    obtain ⟨e, fr1, s1, h1, N, hN⟩ := step k x hx
    cases e with
    | normal =>
      obtain ⟨k', x', hk, hI, rfl, rfl⟩ := h1
      obtain ⟨e2, fr2, s2, k1, M, hM⟩ := ih k' hk x' hI
      refine ⟨e2, fr2, s2, k1, N + M + 1, fun m hm n hn => ?_⟩
      obtain ⟨n, rfl⟩ : ∃ k, n = k + 1 := ⟨n - 1, by omega⟩
      simp only [aCode, hN m (by omega) n (by omega), hM m (by omega) n (by omega)]
    | exit id =>
      refine ⟨.exit id, fr1, s1, h1, N + 1, fun m hm n hn => ?_⟩
      obtain ⟨n, rfl⟩ : ∃ k, n = k + 1 := ⟨n - 1, by omega⟩
      simp only [aCode, hN m (by omega) n (by omega)]
    | ret =>
      refine ⟨.ret, fr1, s1, h1, N + 1, fun m hm n hn => ?_⟩
      obtain ⟨n, rfl⟩ : ∃ k, n = k + 1 := ⟨n - 1, by omega⟩
      simp only [aCode, hN m (by omega) n (by omega)]
theorem WC_region {id : Nat} {ops : Array Oper} (h : WO P prims ops ops.toList K fr s) : WC P prims (.region id ops false) K Q fr s := by
  obtain ⟨fr1, s1, h1, N, hN⟩ := h
  refine ⟨.normal, fr1, s1, h1, N + 1, fun m hm n hn => ?_⟩
  obtain ⟨n, rfl⟩ : ∃ k, n = k + 1 := ⟨n - 1, by omega⟩
  simp only [aCode, hN m (by omega), Option.map_some]
theorem WC_draw {id : Nat} {ops : Array Oper} (hok : drawOk P ops = true) (h : WD P prims ops (Region.before ops) (List.range ops.size) K fr s) : WC P prims (.region id ops true) K Q fr s := by
  obtain ⟨fr1, s1, h1, N, hN⟩ := h
  refine ⟨.normal, fr1, s1, h1, N + 1, fun m hm n hn => ?_⟩
  obtain ⟨n, rfl⟩ : ∃ k, n = k + 1 := ⟨n - 1, by omega⟩
  simp only [aCode, if_pos hok, hN m (by omega), Option.map_some]

theorem WO_nil {ops : Array Oper} (h : K fr s) : WO P prims ops [] K fr s := ⟨fr, s, h, 0, fun m _ => rfl⟩
theorem WO_cons {ops : Array Oper} {o : Oper} {l : List Oper} (hg : o.guard = none) (h : WP P prims o fr s fun v s' => WO P prims ops l K (aPut fr o.dst v) s') : WO P prims ops (o :: l) K fr s := by
  obtain ⟨v, s1, ⟨fr2, s2, k1, M, hM⟩, N, hN⟩ := h
  refine ⟨fr2, s2, k1, N + M, fun m hm => ?_⟩
  have hw : Region.wanted o (aYield ops fr) = true := by simp [Region.wanted, hg]
  simp only [aOps, hw, if_true, hN m (by omega), hM m (by omega)]
theorem WO_guard {ops : Array Oper} {o : Oper} {l : List Oper} {b : Bool} (hb : Region.wanted o (aYield ops fr) = b) (h1 : b = true → WP P prims o fr s fun v s' => WO P prims ops l K (aPut fr o.dst v) s')
    (h2 : b = false → WO P prims ops l K (aPut fr o.dst .undef) s) : WO P prims ops (o :: l) K fr s := by
  cases b with
  | true =>
    obtain ⟨v, s1, ⟨fr2, s2, k1, M, hM⟩, N, hN⟩ := h1 rfl
    refine ⟨fr2, s2, k1, N + M, fun m hm => ?_⟩
    simp only [aOps, hb, if_true, hN m (by omega), hM m (by omega)]
  | false =>
    obtain ⟨fr2, s2, k1, M, hM⟩ := h2 rfl
    refine ⟨fr2, s2, k1, M, fun m hm => ?_⟩
    simp only [aOps, hb, Bool.false_eq_true, if_false, hM m (by omega)]
theorem WD_nil {ops : Array Oper} {b : Array Nat} (h : K fr s) : WD P prims ops b [] K fr s := ⟨fr, s, h, 0, fun m _ => rfl⟩
theorem WD_cons {ops : Array Oper} {b : Array Nat} {i : Nat} {o : Oper} {l : List Nat} (hi : ops[i]? = some o) (hg : o.guard = none) (hl : (turns P prims fr o.op && !lone ops b i) = false) (h : WP P prims o fr s fun v s' => WD P prims ops b l K (aPut fr o.dst v) s') : WD P prims ops b (i :: l) K fr s := by
  obtain ⟨v, s1, ⟨fr2, s2, k1, M, hM⟩, N, hN⟩ := h
  refine ⟨fr2, s2, k1, N + M, fun m hm => ?_⟩
  have hw : Region.wanted o (aYield ops fr) = true := by simp [Region.wanted, hg]
  simp only [aDraw, hi, hw, if_true, hl, Bool.false_eq_true, if_false, hN m (by omega), hM m (by omega)]
theorem WD_guard {ops : Array Oper} {b : Array Nat} {i : Nat} {o : Oper} {l : List Nat} {t : Bool} (hi : ops[i]? = some o) (hb : Region.wanted o (aYield ops fr) = t) (hl : t = true → (turns P prims fr o.op && !lone ops b i) = false)
    (h1 : t = true → WP P prims o fr s fun v s' => WD P prims ops b l K (aPut fr o.dst v) s') (h2 : t = false → WD P prims ops b l K (aPut fr o.dst .undef) s) : WD P prims ops b (i :: l) K fr s := by
  cases t with
  | true =>
    obtain ⟨v, s1, ⟨fr2, s2, k1, M, hM⟩, N, hN⟩ := h1 rfl
    refine ⟨fr2, s2, k1, N + M, fun m hm => ?_⟩
    simp only [aDraw, hi, hb, if_true, hl rfl, Bool.false_eq_true, if_false, hN m (by omega), hM m (by omega)]
  | false =>
    obtain ⟨fr2, s2, k1, M, hM⟩ := h2 rfl
    refine ⟨fr2, s2, k1, M, fun m hm => ?_⟩
    simp only [aDraw, hi, hb, Bool.false_eq_true, if_false, hM m (by omega)]

/-! ### Operations -/
variable {H : AV → St → Prop}
theorem WP_any {o : Oper} {v : AV} (h : ∀ call, aOp P call o fr s = some (v, s')) (k : H v s') : WP P prims o fr s H := ⟨v, s', k, 0, fun m _ => h _⟩
theorem WP_call {dst : Option Tmp} {type : TypeId} {pos : String} {after : Array Edge} {guard : Option (Nat × Bool)} {f : Operand} {xs : Array Operand} {ts : Array TypeId} {g : FuncId} {first captured args : List AV}
    (ha : aEvals fr xs.toList = some args) (hf : aEval fr f = some (.fn g first captured)) (h : WF P prims g (first ++ args ++ captured) s H) : WP P prims ⟨dst, .call ⟨.value f, xs, ts⟩, type, pos, after, guard⟩ fr s H := by
  obtain ⟨v, s1, k1, M, hM⟩ := h
  refine ⟨v, s1, k1, M, fun m hm => ?_⟩
  simp only [aOp, Option.bind_eq_bind, ha, hf, Option.bind_some, hM m hm]
theorem WP_func {dst : Option Tmp} {type : TypeId} {pos : String} {after : Array Edge} {guard : Option (Nat × Bool)} {g : FuncId} {xs : Array Operand} {ts : Array TypeId} {args : List AV}
    (ha : aEvals fr xs.toList = some args) (h : WF P prims g args s H) : WP P prims ⟨dst, .call ⟨.value (.func g), xs, ts⟩, type, pos, after, guard⟩ fr s H :=
  WP_call ha rfl (by simpa using h)

/-! ### Calls -/
theorem WF_prim {f : FuncId} {fn : Func} {F : Glob → List AV → Option AV} {args : List AV} {r : AV} (hf : P.funcs[f]? = some fn) (he : enters fn = true) (hp : prims f = some F) (h : callPrim F args s = some (r, s)) (k : H r s) : WF P prims f args s H := by
  refine ⟨r, s, k, 1, fun m hm => ?_⟩
  obtain ⟨m, rfl⟩ : ∃ k, m = k + 1 := ⟨m - 1, by omega⟩
  simp only [aCall, hf, he, if_true, hp, h]
theorem WF_body {f : FuncId} {fn : Func} {c : Code} {args : List AV} (hf : P.funcs[f]? = some fn) (he : enters fn = true) (hp : prims f = none) (hb : fn.body = some c)
    (h : WC P prims c (fun fr s1 => ∃ r, aResults P fn fr s1 = some r ∧ ∃ v s2, freezeTop s.c r s1 = some (v, s2) ∧ H v s2) (fun e fr s1 => e = .ret ∧ ∃ r, aResults P fn fr s1 = some r ∧ ∃ v s2, freezeTop s.c r s1 = some (v, s2) ∧ H v s2)
      (args ++ List.replicate (fn.ntmps - args.length) .undef) s) : WF P prims f args s H := by
  obtain ⟨e, fr1, s1, h1, N, hN⟩ := h
  have key : ∃ r, aResults P fn fr1 s1 = some r ∧ ∃ v s2, freezeTop s.c r s1 = some (v, s2) ∧ H v s2 := by cases e <;> first | exact h1 | exact h1.2
  have he' : e = .normal ∨ e = .ret := by cases e <;> first | exact .inl rfl | (exact .inr h1.1)
  obtain ⟨r, k1, v, s2, k2, k3⟩ := key
  refine ⟨v, s2, k3, N + 1, fun m hm => ?_⟩
  obtain ⟨m, rfl⟩ : ∃ k, m = k + 1 := ⟨m - 1, by omega⟩
  simp only [aCall, hf, he, if_true, hp, hb, hN m (by omega) m (by omega)]
  rcases he' with rfl | rfl <;> simp only [Option.bind_eq_bind, k1, Option.bind_some, k2]
theorem answer_of {f : FuncId} {args : List AV} {r : AV} (h : WF P prims f args s0 fun v _ => out v = some r) : ∃ n, answer P prims n f args = some r := by
  obtain ⟨v, s1, k, N, hN⟩ := h
  exact ⟨N, by simp only [answer, hN N (Nat.le_refl _), Option.bind_some, k]⟩
end
end Go.Ai
namespace Go.Ai
section
variable {P : Program} {prims : Prims} {K : List AV → St → Prop} {Q : AExit → List AV → St → Prop} {fr fr' : List AV} {s s' : St}
/-! ### Steps, with what they make written out -/
theorem WO_step {ops : Array Oper} {o : Oper} {l : List Oper} {v : AV} (hg : o.guard = none) (h : ∀ call, aOp P call o fr s = some (v, s')) (hf : aPut fr o.dst v = fr') (k : WO P prims ops l K fr' s') : WO P prims ops (o :: l) K fr s :=
  WO_cons hg (WP_any h (by rw [hf]; exact k))
theorem WO_func {ops : Array Oper} {l : List Oper} {dst : Option Tmp} {type : TypeId} {pos : String} {after : Array Edge} {g : FuncId} {xs : Array Operand} {ts : Array TypeId} {args : List AV}
    (ha : aEvals fr xs.toList = some args) (h : WF P prims g args s fun v s' => ∃ fr', aPut fr dst v = fr' ∧ WO P prims ops l K fr' s') : WO P prims ops (⟨dst, .call ⟨.value (.func g), xs, ts⟩, type, pos, after, none⟩ :: l) K fr s :=
  WO_cons rfl (WP_func ha (by obtain ⟨v, s1, ⟨fr', h1, h2⟩, h3⟩ := h; subst h1; exact ⟨v, s1, h2, h3⟩))
theorem WO_prim {ops : Array Oper} {l : List Oper} {dst : Option Tmp} {type : TypeId} {pos : String} {after : Array Edge} {g : FuncId} {fn : Func} {xs : Array Operand} {ts : Array TypeId} {args : List AV} {F : Glob → List AV → Option AV} {r : AV}
    (hp : prims g = some F) (hf : P.funcs[g]? = some fn) (he : enters fn = true) (ha : aEvals fr xs.toList = some args) (hc : callPrim F args s = some (r, s)) (hput : aPut fr dst r = fr') (h : WO P prims ops l K fr' s) : WO P prims ops (⟨dst, .call ⟨.value (.func g), xs, ts⟩, type, pos, after, none⟩ :: l) K fr s :=
  WO_func ha (WF_prim hf he hp hc ⟨fr', hput, h⟩)
theorem WD_step {ops : Array Oper} {b : Array Nat} {i : Nat} {o : Oper} {l : List Nat} {v : AV} (hi : ops[i]? = some o) (hg : o.guard = none) (hl : (turns P prims fr o.op && !lone ops b i) = false) (h : ∀ call, aOp P call o fr s = some (v, s')) (hf : aPut fr o.dst v = fr') (k : WD P prims ops b l K fr' s') : WD P prims ops b (i :: l) K fr s :=
  WD_cons hi hg hl (WP_any h (by rw [hf]; exact k))
theorem WD_prim {ops : Array Oper} {b : Array Nat} {i : Nat} {l : List Nat} {dst : Option Tmp} {type : TypeId} {pos : String} {after : Array Edge} {g : FuncId} {fn : Func} {xs : Array Operand} {ts : Array TypeId} {args : List AV} {F : Glob → List AV → Option AV} {r : AV}
    (hi : ops[i]? = some ⟨dst, .call ⟨.value (.func g), xs, ts⟩, type, pos, after, none⟩) (hp : prims g = some F) (hf : P.funcs[g]? = some fn) (he : enters fn = true) (ha : aEvals fr xs.toList = some args) (hc : callPrim F args s = some (r, s)) (hput : aPut fr dst r = fr') (h : WD P prims ops b l K fr' s) : WD P prims ops b (i :: l) K fr s :=
  WD_cons hi rfl (by simp [turns, aEval, hp]) (WP_func ha (WF_prim hf he hp hc (by subst hput; exact h)))
end
end Go.Ai
namespace Go.Ai
theorem ite_in {α : Type} [DecidableEq α] {a : α} {p q : Prop} (h : p) : if a = a then p else q := by rw [if_pos rfl]; exact h
theorem ite_out {α : Type} [DecidableEq α] {a b : α} {p q : Prop} (hab : a ≠ b) (h : q) : if a = b then p else q := by rw [if_neg hab]; exact h
end Go.Ai
namespace Go.Ai
theorem WF_run {P : Program} {prims : Prims} {H : AV → St → Prop} {s : St} {f : FuncId} {fn : Func} {c : Code} {args fr : List AV} (hf : P.funcs[f]? = some fn) (he : enters fn = true) (hp : prims f = none) (hb : fn.body = some c)
    (hfr : args ++ List.replicate (fn.ntmps - args.length) .undef = fr)
    (h : WC P prims c (fun fr s1 => ∃ r, aResults P fn fr s1 = some r ∧ ∃ v s2, freezeTop s.c r s1 = some (v, s2) ∧ H v s2) (fun e fr s1 => e = .ret ∧ ∃ r, aResults P fn fr s1 = some r ∧ ∃ v s2, freezeTop s.c r s1 = some (v, s2) ∧ H v s2) fr s) : WF P prims f args s H :=
  WF_body hf he hp hb (by rw [hfr]; exact h)
end Go.Ai
namespace Go.Ai
theorem WC_inv {P : Program} {prims : Prims} {K : List AV → St → Prop} {Q : AExit → List AV → St → Prop} {c : Code} (I : Nat → List AV → St → Prop)
    (step : ∀ k fr s, I k fr s → WC P prims c (fun fr' s' => ∃ k', k' < k ∧ I k' fr' s') Q fr s) {k : Nat} {fr : List AV} {s : St} (h : I k fr s) : WC P prims (.loop c) K Q fr s :=
  WC_loop (ι := List AV × St) (fun k x => I k x.1 x.2) (·.1) (·.2) (fun k x hx => (step k x.1 x.2 hx).mono (fun fr s ⟨k', h1, h2⟩ => ⟨k', (fr, s), h1, h2, rfl, rfl⟩) (fun _ _ _ h => h)) k (fr, s) h
/-- A cut: what stands between two pieces. -/
theorem WC_cut {P : Program} {prims : Prims} {K : List AV → St → Prop} {Q : AExit → List AV → St → Prop} {a b : Code} {fr : List AV} {s : St} (I : List AV → St → Prop)
    (h1 : WC P prims a I Q fr s) (h2 : ∀ fr s, I fr s → WC P prims b K Q fr s) : WC P prims (.seq a b) K Q fr s := WC_seq (h1.mono h2 fun _ _ _ h => h)
/-- A value that all see as it is. -/
def bare : AV → Bool
  | .int _ _ | .bool _ | .str _ | .nilp | .emp false | .nifc | .nilfn | .nilmp | .gptr _ _ => true
  | _ => false
theorem view_bare {s : St} {v : AV} (h : bare v = true) : view s v = some (v, false) := by
  cases v <;> simp [bare] at h <;> simp [view, pureV, stripV]
  rename_i z; cases z <;> simp_all
theorem views_bare {s : St} : ∀ {vs : List AV}, vs.all bare = true → vs.mapM (view s) = some (vs.map fun v => (v, false))
  | [], _ => rfl
  | v :: vs, h => by
    simp only [List.all_cons, Bool.and_eq_true] at h
    simp only [List.mapM_cons, view_bare h.1, views_bare h.2, Option.bind_eq_bind, Option.bind_some, Option.pure_def, List.map_cons]
theorem callPrim_flat {F : Glob → List AV → Option AV} {args : List AV} {r : AV} {s : St} (h : args.all bare = true) (hF : F s.g args = some r) : callPrim F args s = some (r, s) := by
  have e : ((args.map fun v => ((v, false) : AV × Bool)).map (·.1)) = args := by rw [List.map_map]; exact List.map_id _
  have e2 : (args.map fun v => ((v, false) : AV × Bool)).any (·.2) = false := by simp
  simp only [callPrim, views_bare h, Option.bind_eq_bind, Option.bind_some, e, hF, e2, Bool.false_and, Bool.false_eq_true, if_false]
/-- Numbers of 64 bits without a sign. -/
theorem u64_xor (a b : Nat) (ha : a < 18446744073709551616) (hb : b < 18446744073709551616) : aIntOp .xor .u64 (a : Int) (b : Int) = some (.int .u64 ((a ^^^ b : Nat) : Int)) := by
  have h : a ^^^ b < 2 ^ 64 := Nat.xor_lt_two_pow (by omega) (by omega)
  have e : (BitVec.ofInt 64 (a : Int) ^^^ BitVec.ofInt 64 (b : Int)).toNat = a ^^^ b := by
    rw [BitVec.toNat_xor, BitVec.ofInt_natCast, BitVec.ofInt_natCast, BitVec.toNat_ofNat, BitVec.toNat_ofNat, Nat.mod_eq_of_lt (show a < 2 ^ 64 by omega), Nat.mod_eq_of_lt (show b < 2 ^ 64 by omega)]
  show some (AV.int .u64 (IntKind.u64.wrap ((BitVec.ofInt 64 (a : Int) ^^^ BitVec.ofInt 64 (b : Int)).toNat : Int))) = _
  rw [e, IntKind.wrap_u64, Int.emod_eq_of_lt (by omega) (by omega)]
theorem u64_and (a b : Nat) (ha : a < 18446744073709551616) (hb : b < 18446744073709551616) : aIntOp .and .u64 (a : Int) (b : Int) = some (.int .u64 ((a &&& b : Nat) : Int)) := by
  have h : a &&& b < 2 ^ 64 := Nat.and_lt_two_pow _ (by omega)
  have e : (BitVec.ofInt 64 (a : Int) &&& BitVec.ofInt 64 (b : Int)).toNat = a &&& b := by
    rw [BitVec.toNat_and, BitVec.ofInt_natCast, BitVec.ofInt_natCast, BitVec.toNat_ofNat, BitVec.toNat_ofNat, Nat.mod_eq_of_lt (show a < 2 ^ 64 by omega), Nat.mod_eq_of_lt (show b < 2 ^ 64 by omega)]
  show some (AV.int .u64 (IntKind.u64.wrap ((BitVec.ofInt 64 (a : Int) &&& BitVec.ofInt 64 (b : Int)).toNat : Int))) = _
  rw [e, IntKind.wrap_u64, Int.emod_eq_of_lt (by omega) (by omega)]
theorem u64_or (a b : Nat) (ha : a < 18446744073709551616) (hb : b < 18446744073709551616) : aIntOp .or .u64 (a : Int) (b : Int) = some (.int .u64 ((a ||| b : Nat) : Int)) := by
  have h : a ||| b < 2 ^ 64 := Nat.or_lt_two_pow (by omega) (by omega)
  have e : (BitVec.ofInt 64 (a : Int) ||| BitVec.ofInt 64 (b : Int)).toNat = a ||| b := by
    rw [BitVec.toNat_or, BitVec.ofInt_natCast, BitVec.ofInt_natCast, BitVec.toNat_ofNat, BitVec.toNat_ofNat, Nat.mod_eq_of_lt (show a < 2 ^ 64 by omega), Nat.mod_eq_of_lt (show b < 2 ^ 64 by omega)]
  show some (AV.int .u64 (IntKind.u64.wrap ((BitVec.ofInt 64 (a : Int) ||| BitVec.ofInt 64 (b : Int)).toNat : Int))) = _
  rw [e, IntKind.wrap_u64, Int.emod_eq_of_lt (by omega) (by omega)]
end Go.Ai
namespace Go.Ai
theorem u64_shl (a b : Int) (ha : 0 ≤ a) (hb : 0 ≤ b) (hb' : b ≤ 64) (h : a.toNat <<< b.toNat < 18446744073709551616) : aShift .shl .u64 a b = some (.int .u64 ((a.toNat <<< b.toNat : Nat) : Int)) := by
  have hm : min b.toNat IntKind.u64.bits = b.toNat := by show min b.toNat 64 = _; omega
  have e : a * 2 ^ b.toNat = ((a.toNat <<< b.toNat : Nat) : Int) := by
    obtain ⟨n, rfl⟩ : ∃ n : Nat, a = n := ⟨a.toNat, by omega⟩
    rw [Int.toNat_natCast, Nat.shiftLeft_eq]; norm_cast
  show (if b < 0 then none else some (AV.int .u64 (IntKind.u64.wrap (a * 2 ^ (min b.toNat IntKind.u64.bits))))) = _
  rw [if_neg (by omega), hm, e, IntKind.wrap_u64]
  generalize a.toNat <<< b.toNat = z at h
  rw [Int.emod_eq_of_lt (by omega) (by omega)]
theorem u64_shr (a b : Int) (ha : 0 ≤ a) (ha' : a < 18446744073709551616) (hb : 0 ≤ b) : aShift .shr .u64 a b = some (.int .u64 ((a.toNat >>> b.toNat : Nat) : Int)) := by
  obtain ⟨n, rfl⟩ : ∃ n : Nat, a = n := ⟨a.toNat, by omega⟩
  have hp : ∀ k : Nat, ((n : Int).fdiv (2 ^ k)) = ((n >>> k : Nat) : Int) := fun k => by
    rw [Int.fdiv_eq_ediv_of_nonneg _ (Int.le_of_lt (Int.pow_pos (by decide))), Nat.shiftRight_eq_div_pow, Int.natCast_ediv, Int.natCast_pow]; rfl
  show (if b < 0 then none else some (AV.int .u64 ((n : Int).fdiv (2 ^ (min b.toNat IntKind.u64.bits))))) = _
  rw [if_neg (by omega), hp, Int.toNat_natCast]
  by_cases h : b.toNat ≤ 64
  · rw [show min b.toNat IntKind.u64.bits = b.toNat by show min b.toNat 64 = _; omega]
  · have e1 : n >>> b.toNat = 0 := by
      rw [Nat.shiftRight_eq_div_pow, Nat.div_eq_of_lt]
      exact Nat.lt_of_lt_of_le (show n < 2 ^ 64 by omega) (Nat.pow_le_pow_right (by decide) (by omega))
    have e2 : n >>> min b.toNat IntKind.u64.bits = 0 := by
      rw [show min b.toNat IntKind.u64.bits = 64 by show min b.toNat 64 = _; omega, Nat.shiftRight_eq_div_pow, Nat.div_eq_of_lt (by omega)]
    rw [e1, e2]
end Go.Ai
namespace Go.Ai
theorem op_bin {P : Program} {call : FuncId → List AV → St → Option (AV × St)} {dst : Option Tmp} {type t t' : TypeId} {pos : String} {after : Array Edge} {guard : Option (Nat × Bool)} {fr : List AV} {s : St} {op : BinOp} {x y : Operand} {a b v : AV}
    (hx : aEval fr x = some a) (hy : aEval fr y = some b) (hv : aBinOp P op t a b (isC x) (isC y) = some v) : aOp P call ⟨dst, .binOp op t x y t', type, pos, after, guard⟩ fr s = some (v, s) := by
  simp only [aOp, hx, hy, hv, Option.bind_eq_bind, Option.bind_some]
theorem bin_u64 {P : Program} {op : BinOp} {t : TypeId} {a b : Int} {cx cy : Bool} {v : AV} (h1 : op ≠ .shl) (h2 : op ≠ .shr) (h : aIntOp op .u64 a b = some v) : aBinOp P op t (.int .u64 a) (.int .u64 b) cx cy = some v := by
  cases op <;> first | (exact absurd rfl h1) | (exact absurd rfl h2) | (simp only [aBinOp, if_true]; exact h)
end Go.Ai
namespace Go.Ai
section
variable {P : Program} {prims : Prims} {K : List AV → St → Prop} {Q : AExit → List AV → St → Prop} {fr fr' : List AV} {s s' : St}
theorem WO_gstep {ops : Array Oper} {o : Oper} {l : List Oper} {v : AV} (hb : Region.wanted o (aYield ops fr) = true) (h : ∀ call, aOp P call o fr s = some (v, s')) (hf : aPut fr o.dst v = fr') (k : WO P prims ops l K fr' s') : WO P prims ops (o :: l) K fr s :=
  WO_guard hb (fun _ => WP_any h (by rw [hf]; exact k)) (fun e => by cases e)
theorem WO_gskip {ops : Array Oper} {o : Oper} {l : List Oper} (hb : Region.wanted o (aYield ops fr) = false) (hf : aPut fr o.dst .undef = fr') (k : WO P prims ops l K fr' s) : WO P prims ops (o :: l) K fr s :=
  WO_guard hb (fun e => by cases e) (fun _ => by rw [hf]; exact k)
theorem WO_gprim {ops : Array Oper} {l : List Oper} {dst : Option Tmp} {type : TypeId} {pos : String} {after : Array Edge} {guard : Option (Nat × Bool)} {g : FuncId} {fn : Func} {xs : Array Operand} {ts : Array TypeId} {args : List AV} {F : Glob → List AV → Option AV} {r : AV}
    (hb : Region.wanted ⟨dst, .call ⟨.value (.func g), xs, ts⟩, type, pos, after, guard⟩ (aYield ops fr) = true) (hp : prims g = some F) (hf : P.funcs[g]? = some fn) (he : enters fn = true) (ha : aEvals fr xs.toList = some args) (hc : callPrim F args s = some (r, s)) (hput : aPut fr dst r = fr') (h : WO P prims ops l K fr' s) :
    WO P prims ops (⟨dst, .call ⟨.value (.func g), xs, ts⟩, type, pos, after, guard⟩ :: l) K fr s :=
  WO_guard hb (fun _ => WP_func ha (WF_prim hf he hp hc (by subst hput; exact h))) (fun e => by cases e)
theorem WD_gstep {ops : Array Oper} {b : Array Nat} {i : Nat} {o : Oper} {l : List Nat} {v : AV} (hi : ops[i]? = some o) (hb : Region.wanted o (aYield ops fr) = true) (hl : (turns P prims fr o.op && !lone ops b i) = false) (h : ∀ call, aOp P call o fr s = some (v, s')) (hf : aPut fr o.dst v = fr') (k : WD P prims ops b l K fr' s') : WD P prims ops b (i :: l) K fr s :=
  WD_guard hi hb (fun _ => hl) (fun _ => WP_any h (by rw [hf]; exact k)) (fun e => by cases e)
theorem WD_gskip {ops : Array Oper} {b : Array Nat} {i : Nat} {o : Oper} {l : List Nat} (hi : ops[i]? = some o) (hb : Region.wanted o (aYield ops fr) = false) (hf : aPut fr o.dst .undef = fr') (k : WD P prims ops b l K fr' s) : WD P prims ops b (i :: l) K fr s :=
  WD_guard hi hb (fun e => by cases e) (fun e => by cases e) (fun _ => by rw [hf]; exact k)
theorem WD_gprim {ops : Array Oper} {b : Array Nat} {i : Nat} {l : List Nat} {dst : Option Tmp} {type : TypeId} {pos : String} {after : Array Edge} {guard : Option (Nat × Bool)} {g : FuncId} {fn : Func} {xs : Array Operand} {ts : Array TypeId} {args : List AV} {F : Glob → List AV → Option AV} {r : AV}
    (hi : ops[i]? = some ⟨dst, .call ⟨.value (.func g), xs, ts⟩, type, pos, after, guard⟩) (hb : Region.wanted ⟨dst, .call ⟨.value (.func g), xs, ts⟩, type, pos, after, guard⟩ (aYield ops fr) = true) (hp : prims g = some F) (hf : P.funcs[g]? = some fn) (he : enters fn = true) (ha : aEvals fr xs.toList = some args) (hc : callPrim F args s = some (r, s)) (hput : aPut fr dst r = fr') (h : WD P prims ops b l K fr' s) :
    WD P prims ops b (i :: l) K fr s :=
  WD_guard hi hb (fun _ => by simp [turns, aEval, hp]) (fun _ => WP_func ha (WF_prim hf he hp hc (by subst hput; exact h))) (fun e => by cases e)
end
end Go.Ai
namespace Go.Ai
theorem wanted_none {dst : Option Tmp} {op : Op} {type : TypeId} {pos : String} {after : Array Edge} {y : Nat → Option Bool} : Region.wanted ⟨dst, op, type, pos, after, none⟩ y = true := rfl
theorem wanted_some {dst : Option Tmp} {op : Op} {type : TypeId} {pos : String} {after : Array Edge} {y : Nat → Option Bool} {g : Nat} {w : Bool} (h : y g = some w) : Region.wanted ⟨dst, op, type, pos, after, some (g, w)⟩ y = true := by
  simp [Region.wanted, h]
theorem wanted_skip {dst : Option Tmp} {op : Op} {type : TypeId} {pos : String} {after : Array Edge} {y : Nat → Option Bool} {g : Nat} {w : Bool} (h : y g = some (!w)) : Region.wanted ⟨dst, op, type, pos, after, some (g, w)⟩ y = false := by
  cases w <;> simp [Region.wanted, h]
end Go.Ai
namespace Go.Ai
theorem wanted_at {dst : Option Tmp} {op : Op} {type : TypeId} {pos : String} {after : Array Edge} {y : Nat → Option Bool} {g : Nat} {w : Bool} : Region.wanted ⟨dst, op, type, pos, after, some (g, w)⟩ y = (y g == some w) := rfl
theorem some_beq_tf : ((some true : Option Bool) == some false) = false := rfl
theorem some_beq_ft : ((some false : Option Bool) == some true) = false := rfl
end Go.Ai
namespace Go.Ai
theorem WF.mono {P : Program} {prims : Prims} {f : FuncId} {args : List AV} {s : St} {H H' : AV → St → Prop} (h : WF P prims f args s H) (k : ∀ v s', H v s' → H' v s') : WF P prims f args s H' := by
  obtain ⟨v, s', h1, h2⟩ := h
  exact ⟨v, s', k v s' h1, h2⟩
/-- A contract of a function that answers one value without a name. -/
theorem answers {P : Program} {prims : Prims} {f : FuncId} {args : List AV} {r v0 : AV} {s1 : St} (h : WF P prims f args s0 fun v s => v = v0 ∧ s = s1) (ho : out v0 = some r) : ∃ n, answer P prims n f args = some r :=
  answer_of (h.mono fun v s ⟨e, _⟩ => by rw [e]; exact ho)
theorem int_add {k : IntKind} {a b : Int} : aIntOp .add k a b = some (.int k (k.wrap (a + b))) := rfl
theorem int_sub {k : IntKind} {a b : Int} : aIntOp .sub k a b = some (.int k (k.wrap (a - b))) := rfl
theorem int_mul {k : IntKind} {a b : Int} : aIntOp .mul k a b = some (.int k (k.wrap (a * b))) := rfl
theorem int_quo {k : IntKind} {a b : Int} : aIntOp .quo k a b = if b = 0 then none else some (.int k (k.wrap (a.tdiv b))) := rfl
theorem int_rem {k : IntKind} {a b : Int} : aIntOp .rem k a b = if b = 0 then none else some (.int k (a.tmod b)) := rfl
theorem int_eql {k : IntKind} {a b : Int} : aIntOp .eql k a b = some (.bool (a == b)) := rfl
theorem int_neq {k : IntKind} {a b : Int} : aIntOp .neq k a b = some (.bool (a != b)) := rfl
theorem int_lss {k : IntKind} {a b : Int} : aIntOp .lss k a b = some (.bool (a < b)) := rfl
theorem int_leq {k : IntKind} {a b : Int} : aIntOp .leq k a b = some (.bool (a ≤ b)) := rfl
theorem int_gtr {k : IntKind} {a b : Int} : aIntOp .gtr k a b = some (.bool (a > b)) := rfl
theorem int_geq {k : IntKind} {a b : Int} : aIntOp .geq k a b = some (.bool (a ≥ b)) := rfl
theorem bin_shl {P : Program} {t : TypeId} {k k' : IntKind} {a b : Int} {cx cy : Bool} {v : AV} (h : aShift .shl k a b = some v) : aBinOp P .shl t (.int k a) (.int k' b) cx cy = some v := h
theorem bin_shr {P : Program} {t : TypeId} {k k' : IntKind} {a b : Int} {cx cy : Bool} {v : AV} (h : aShift .shr k a b = some v) : aBinOp P .shr t (.int k a) (.int k' b) cx cy = some v := h
/-- May an operation change the state, whatever the frame? -/
def sturns (P : Program) (prims : Prims) : Op → Bool
  | .convert _ dst _ => convTurns P dst
  | .load _ _ | .slice _ _ _ _ _ | .lookup _ _ _ _ => false
  | .call c =>
    match c.callee with
    | .builtin .len | .builtin .cap | .builtin .min | .builtin .max => false
    | .value (.func g) => (prims g).isNone
    | _ => true
  | op => looks op
theorem sturns_turns {P : Program} {prims : Prims} {fr : List AV} {op : Op} (h : sturns P prims op = false) : turns P prims fr op = false := by
  cases op <;> simp only [sturns, turns] at h ⊢ <;> try exact h
  rename_i c
  cases hc : c.callee with
  | builtin b => simp only [hc] at h ⊢; cases b <;> simp_all
  | invoke r m => simp only [hc] at h; cases h
  | value f =>
    simp only [hc] at h ⊢
    cases f <;> simp only [aEval] at h ⊢ <;> first | exact h | cases h
def calm (P : Program) (prims : Prims) (ops : Array Oper) (b : Array Nat) : Bool := ops.toList.zipIdx.all fun (o, i) => !sturns P prims o.op || lone ops b i
theorem draw_eq {P : Program} {prims : Prims} {call : FuncId → List AV → St → Option (AV × St)} {ops : Array Oper} {b : Array Nat} (hc : calm P prims ops b = true) : ∀ (l : List Oper) (i : Nat), ops.toList.drop i = l → ∀ (fr : List AV) (s : St), aDraw P call prims ops b (List.range' i l.length) fr s = aOps P call ops l fr s
  | [], i, hi, fr, s => rfl
  | o :: l, i, hi, fr, s => by
    have hoi : ops[i]? = some o := by
      have : (ops.toList.drop i)[0]? = some o := by rw [hi]; rfl
      rw [List.getElem?_drop] at this
      simpa using this
    have hnext : ops.toList.drop (i + 1) = l := by
      have : (ops.toList.drop i).drop 1 = l := by rw [hi]; rfl
      rwa [List.drop_drop] at this
    have hno : (turns P prims fr o.op && !lone ops b i) = false := by
      unfold calm at hc
      have h1 := List.all_eq_true.1 hc (o, i) (by rw [List.mem_zipIdx_iff_getElem?]; simpa using hoi)
      simp only [Bool.or_eq_true, Bool.not_eq_true'] at h1
      rcases h1 with h1 | h1
      · rw [sturns_turns h1]; rfl
      · rw [h1]; simp
    rw [List.length_cons, List.range'_succ]
    simp only [aDraw, hoi, aOps, hno, Bool.false_eq_true, if_false]
    split
    · cases aOp P call o fr s with
      | none => rfl
      | some r => exact draw_eq hc l (i + 1) hnext _ _
    · exact draw_eq hc l (i + 1) hnext _ _
/-- A region that draws, in the text's order. -/
theorem WC_drawn {P : Program} {prims : Prims} {K : List AV → St → Prop} {Q : AExit → List AV → St → Prop} {fr : List AV} {s : St} {id : Nat} {ops : Array Oper} (hok : drawOk P ops = true) (hc : calm P prims ops (Region.before ops) = true) (h : WO P prims ops ops.toList K fr s) : WC P prims (.region id ops true) K Q fr s := by
  obtain ⟨fr1, s1, h1, N, hN⟩ := h
  refine WC_draw hok ⟨fr1, s1, h1, N, fun m hm => ?_⟩
  have := draw_eq (P := P) (call := aCall P prims m) hc ops.toList 0 rfl fr s
  rw [List.range_eq_range', show ops.size = ops.toList.length by simp, this]
  exact hN m hm
theorem WC_cond_t {P : Program} {prims : Prims} {K : List AV → St → Prop} {Q : AExit → List AV → St → Prop} {fr : List AV} {s : St} {c : Operand} {a b : Code} (hc : aEval fr c = some (.bool true)) (k : WC P prims a K Q fr s) : WC P prims (.cond c a b) K Q fr s := WC_cond hc (fun _ => k) (fun e => by cases e)
theorem WC_cond_f {P : Program} {prims : Prims} {K : List AV → St → Prop} {Q : AExit → List AV → St → Prop} {fr : List AV} {s : St} {c : Operand} {a b : Code} (hc : aEval fr c = some (.bool false)) (k : WC P prims b K Q fr s) : WC P prims (.cond c a b) K Q fr s := WC_cond hc (fun e => by cases e) (fun _ => k)
attribute [irreducible] WC WO WD WF WP
end Go.Ai
end
section
/- From a law's arguments, as a row reads them, to values of the interpreter. -/
set_option linter.unusedVariables false
set_option linter.unusedSimpArgs false
namespace Go.Ai
variable {w : World} {ρ : Pl} {U : Reg} {c : Nat}
theorem relL_nil : RelL w ρ U c [] [] := by simp [RelL]
theorem relL_cons {x : AV} {xs : List AV} {v : Value} {vs : List Value} (h : Rel w ρ U c x v) (k : RelL w ρ U c xs vs) : RelL w ρ U c (x :: xs) (v :: vs) := by
  simp only [RelL]; exact ⟨v, vs, rfl, h, k⟩
theorem rel_int {k : IntKind} {n : Int} : Rel w ρ U c (.int k n) (.int k n) := by simp [Rel]
theorem rel_bool {b : Bool} : Rel w ρ U c (.bool b) (.bool b) := by simp [Rel]
theorem rel_bool_inv {b : Bool} {v : Value} (h : Rel w ρ U c (.bool b) v) : v = .bool b := by simpa [Rel] using h
theorem rel_str {s : ByteArray} : Rel w ρ U c (.str s.data.toList) (.string s) := by simp [Rel]

/-- A slice of whole numbers, as a law gets it. -/
def IntRow (k : IntKind) (x : AV) (l : List Int) : Prop := (((x = .nils ∨ ∃ z, x = .emp z) ∧ l = []) ∨ ∃ c, x = .vec 0 (l.map (.int k)) c) ∧ ∀ n ∈ l, (Lit.int k n).wf = true
theorem IntRow.of_nil {k : IntKind} {W : World} : ∃ (x : AV) (l : List Int), IntRow k x l ∧ Rel W ρ0 noReg 0 x (.slice none 0 0) :=
  ⟨.nils, [], ⟨.inl ⟨.inl rfl, rfl⟩, by simp⟩, by simp [Rel]⟩
theorem relC_row {k : IntKind} : ∀ l : List Int, RelC w ρ U c 0 (l.map (.int k)) (l.map (.int k))
  | [] => by simp [RelC]
  | n :: l => by
    simp only [List.map_cons, RelC]
    exact ⟨.int k n, l.map (.int k), by simp [Value.cells], ⟨by simp [AV.cells, esz], by simp [AV.cells, AV.one], fun _ => rfl, fun h => absurd rfl h⟩, by simp [Rel], relC_row l⟩
theorem IntRow.of_cells {k : IntKind} {W : World} {x : Addr} {len cap : Nat} {zs : List Int} (hl : len ≤ cap) (hz : zs.length = cap) (hcell : ∀ i, i < zs.length → W.cell? (x.add i) = some (.int k (zs.getD i 0))) (hwz : ∀ n ∈ zs, (Lit.int k n).wf = true) :
    ∃ (y : AV) (l : List Int), IntRow k y l ∧ Rel W ρ0 noReg 0 y (.slice (some x) len cap) := by
  refine ⟨.vec 0 ((zs.take len).map (.int k)) .unk, zs.take len, ⟨.inr ⟨.unk, rfl⟩, fun n hn => hwz n (List.mem_of_mem_take hn)⟩, ?_⟩
  simp only [Rel]
  refine ⟨x, cap, (zs.take len).map (.int k), ?_, ?_, relC_row _, ?_, trivial⟩
  · simp [hz, hl]
  · simp [hz]; omega
  · intro j u hj
    rw [List.getElem?_map, Option.map_eq_some_iff] at hj
    obtain ⟨n, hn, rfl⟩ := hj
    have hj' := (List.getElem?_eq_some_iff.1 hn).1
    rw [List.length_take] at hj'
    rw [List.getElem?_take_of_lt (by omega)] at hn
    refine ⟨?_, fun h => h.elim⟩
    rw [hcell j (by omega), List.getD_eq_getElem?_getD, hn]
    rfl
end Go.Ai
namespace Go.Ai
section
variable {P : Program} {t e : TypeId} {k kk : IntKind} {x : AV} {l : List Int} {s : St}
theorem row_len (h : IntRow k x l) (hu : P.underlying t = some (.slice e)) : aLen P t x s = some (.int .i64 l.length) := by
  obtain ⟨⟨rfl | ⟨z, rfl⟩, rfl⟩ | ⟨c, rfl⟩, _⟩ := h <;> simp [aLen, hu]
theorem row_addr (h : IntRow k x l) (hu : P.underlying t = some (.slice e)) (hs : shapeT P e = some 0) {i : Int} (h0 : 0 ≤ i) (h1 : i < l.length) : aIndexAddr P t x (.int kk i) = some (.rptr 0 (l.map (.int k)) i.toNat 0) := by
  obtain ⟨⟨_, rfl⟩ | ⟨c, rfl⟩, _⟩ := h
  · simp at h1; omega
  · simp [aIndexAddr, aInt, hu, hs]; omega
theorem row_load (ha : aggT P e = some false) {i : Nat} (hi : i < l.length) : aLoad P e (.rptr 0 (l.map (.int k)) i 0) s = some (.int k (l.getD i 0)) := by
  simp [aLoad, aPart, ha, hi, AV.cells]
theorem op_len {call : FuncId → List AV → St → Option (AV × St)} {dst : Option Tmp} {type : TypeId} {pos : String} {after : Array Edge} {guard : Option (Nat × Bool)} {fr : List AV} {y : Operand} {ts : Array TypeId} {v : AV} (hy : aEval fr y = some x) (ht : ts[0]? = some t) (hv : aLen P t x s = some v) : aOp P call ⟨dst, .call ⟨.builtin .len, #[y], ts⟩, type, pos, after, guard⟩ fr s = some (v, s) := by
  simp [aOp, aEvals, hy, aBuiltin, ht, hv]
theorem op_addr {call : FuncId → List AV → St → Option (AV × St)} {dst : Option Tmp} {type : TypeId} {pos : String} {after : Array Edge} {guard : Option (Nat × Bool)} {fr : List AV} {y z : Operand} {i v : AV} (hy : aEval fr y = some x) (hz : aEval fr z = some i) (hv : aIndexAddr P t x i = some v) : aOp P call ⟨dst, .indexAddr t y z, type, pos, after, guard⟩ fr s = some (v, s) := by
  simp [aOp, hy, hz, hv]
theorem op_load {call : FuncId → List AV → St → Option (AV × St)} {dst : Option Tmp} {type : TypeId} {pos : String} {after : Array Edge} {guard : Option (Nat × Bool)} {fr : List AV} {y : Operand} {v : AV} (hy : aEval fr y = some x) (hv : aLoad P t x s = some v) : aOp P call ⟨dst, .load t y, type, pos, after, guard⟩ fr s = some (v, s) := by
  simp [aOp, hy, hv]
end
end Go.Ai
namespace Go.Ai
section
variable {P : Program} {t e : TypeId} {k kk : IntKind} {x : AV} {l : List Int} {s : St}
theorem pureL_ints : ∀ l : List Int, pureL (l.map (.int k)) = true
  | [] => rfl
  | n :: l => by simp [pureL, pureV, pureL_ints l]
theorem strip_ints : ∀ l : List Int, stripL (l.map (.int k)) = l.map (.int k)
  | [] => rfl
  | n :: l => by simp [stripL, stripV, strip_ints l]
theorem view_row (h : IntRow k x l) : ∃ y, view s x = some (y, false) ∧ IntRow k y l := by
  obtain ⟨⟨rfl | ⟨z, rfl⟩, rfl⟩ | ⟨c, rfl⟩, hw⟩ := h
  · exact ⟨.emp false, by simp [view, pureV, stripV], .inl ⟨.inr ⟨_, rfl⟩, rfl⟩, hw⟩
  · exact ⟨.emp false, by simp [view, pureV, stripV], .inl ⟨.inr ⟨_, rfl⟩, rfl⟩, hw⟩
  · cases l with
    | nil => exact ⟨.emp false, by simp [view, pureV, stripV], .inl ⟨.inr ⟨_, rfl⟩, rfl⟩, hw⟩
    | cons n l => exact ⟨.vec 0 ((n :: l).map (.int k)) .unk, by simp only [view, stripV, strip_ints, List.map_cons, List.isEmpty_cons, Bool.false_eq_true, if_false]; rw [← List.map_cons, strip_ints]; simp only [pureV, pureL_ints, Bool.and_self, if_true], .inr ⟨_, rfl⟩, hw⟩
theorem callPrim_row {F : Glob → List AV → Option AV} {r : AV} (h : IntRow k x l) (hF : ∀ y, IntRow k y l → F s.g [y] = some r) : callPrim F [x] s = some (r, s) := by
  obtain ⟨y, h1, h2⟩ := view_row (s := s) h
  simp [callPrim, h1, hF y h2]
/-- The numbers of a row. -/
def rowOf (k : IntKind) : AV → Option (List Int)
  | .nils | .emp _ => some []
  | .vec 0 xs _ => xs.mapM fun | .int k' n => if k' = k ∧ (Lit.int k n).wf = true then some n else none | _ => none
  | _ => none
theorem rowOf_of (h : IntRow k x l) : rowOf k x = some l := by
  obtain ⟨⟨rfl | ⟨z, rfl⟩, rfl⟩ | ⟨c, rfl⟩, hw⟩ := h
  · rfl
  · rfl
  · simp only [rowOf]
    induction l with
    | nil => rfl
    | cons n l ih =>
      have h1 : (Lit.int k n).wf = true := hw n (by simp)
      simp only [List.map_cons, List.mapM_cons, h1, and_self, if_true, Option.bind_eq_bind, Option.bind_some, ih (fun m hm => hw m (by simp [hm])), Option.pure_def]
theorem rowOf_some (h : rowOf k x = some l) : IntRow k x l := by
  unfold rowOf at h
  split at h
  · injection h with h; subst h; exact ⟨.inl ⟨.inl rfl, rfl⟩, by simp⟩
  · injection h with h; subst h; exact ⟨.inl ⟨.inr ⟨_, rfl⟩, rfl⟩, by simp⟩
  · rename_i xs c
    have key : ∀ (xs : List AV) (l : List Int), (xs.mapM fun | AV.int k' n => if k' = k ∧ (Lit.int k n).wf = true then some n else none | _ => none) = some l → xs = l.map (.int k) ∧ ∀ n ∈ l, (Lit.int k n).wf = true := by
      intro xs
      induction xs with
      | nil => intro l h; simp at h; subst h; exact ⟨rfl, by simp⟩
      | cons y ys ih =>
        intro l h
        simp only [List.mapM_cons, Option.bind_eq_bind, Option.bind_eq_some_iff, Option.pure_def] at h
        obtain ⟨n, hn, m, hm, h⟩ := h
        injection h with h; subst h
        obtain ⟨e1, e2⟩ := ih m hm
        split at hn
        · simp only [Option.ite_none_right_eq_some] at hn
          obtain ⟨⟨rfl, hw⟩, hn⟩ := hn
          injection hn with hn; subst hn
          exact ⟨by rw [e1]; rfl, fun q hq => (List.mem_cons.1 hq).elim (fun e => e ▸ hw) (e2 q)⟩
        · cases hn
    obtain ⟨e1, e2⟩ := key xs l h
    exact ⟨.inr ⟨c, by rw [e1]⟩, e2⟩
  · cases h
theorem row_slice (h : IntRow k x l) (hu : P.underlying t = some (.slice e)) (hs : shapeT P e = some 0) {lo hi : Option AV} {a b : Nat} (hb : bnds l.length l.length lo hi none = some (a, b, l.length)) : ∃ y, aSlice P t x lo hi none s = some y ∧ IntRow k y ((l.take b).drop a) := by
  obtain ⟨⟨rfl | ⟨z, rfl⟩, rfl⟩ | ⟨c, rfl⟩, hw⟩ := h
  · refine ⟨.nils, ?_, .inl ⟨.inl rfl, by simp⟩, by simp⟩
    simp only [List.length_nil] at hb
    simp only [aSlice, hu, hb, hs, Option.bind_eq_bind, Option.bind_some]
  · refine ⟨.emp (z || false), ?_, .inl ⟨.inr ⟨_, rfl⟩, by simp⟩, by simp⟩
    simp only [List.length_nil] at hb
    simp only [aSlice, hu, hb, hs, Option.bind_eq_bind, Option.bind_some]
    rfl
  · refine ⟨_, by simp only [aSlice, hu, hs, List.length_map, hb, Option.bind_eq_bind, Option.bind_some, ne_eq, not_true_eq_false, if_false]; rfl, .inr ⟨_, by rw [← List.map_take, ← List.map_drop]⟩, fun n hn => hw n (List.mem_of_mem_take (List.mem_of_mem_drop hn))⟩
end
end Go.Ai
namespace Go.Ai
theorem bnds_hi {k : IntKind} {n : Nat} {h : Int} (h0 : 0 ≤ h) (h1 : h ≤ n) : bnds n n none (some (.int k h)) none = some (0, h.toNat, n) := by
  simp only [bnds, bnd, Option.bind_eq_bind, Option.bind_some, Option.isSome_none, Bool.false_eq_true, false_and, if_false]
  rw [if_pos ⟨h0, h1⟩]; rfl
theorem bnds_lo {k : IntKind} {n : Nat} {a : Int} (h0 : 0 ≤ a) (h1 : a ≤ n) : bnds n n (some (.int k a)) none none = some (a.toNat, n, n) := by
  simp only [bnds, bnd, Option.bind_eq_bind, Option.bind_some, Option.isSome_none, Bool.false_eq_true, false_and, if_false]
  rw [if_pos ⟨h0, h1⟩]; rfl
theorem bnds_lohi {k k' : IntKind} {n : Nat} {a h : Int} (h0 : 0 ≤ a) (h1 : a ≤ h) (h2 : h ≤ n) : bnds n n (some (.int k a)) (some (.int k' h)) none = some (a.toNat, h.toNat, n) := by
  simp only [bnds, bnd, Option.bind_eq_bind, Option.bind_some, Option.isSome_none, Bool.false_eq_true, false_and, if_false]
  rw [if_pos ⟨by omega, h2⟩, Option.bind_some, if_pos ⟨h0, by omega⟩]; rfl
theorem op_slice {P : Program} {call : FuncId → List AV → St → Option (AV × St)} {dst : Option Tmp} {type t : TypeId} {pos : String} {after : Array Edge} {guard : Option (Nat × Bool)} {fr : List AV} {s : St} {y : Operand} {lo hi mx : Option Operand} {x v : AV} {a b c : Option AV} (hy : aEval fr y = some x) (hlo : aEvalO fr lo = some a) (hhi : aEvalO fr hi = some b) (hmx : aEvalO fr mx = some c) (hv : aSlice P t x a b c s = some v) :
    aOp P call ⟨dst, .slice t y lo hi mx, type, pos, after, guard⟩ fr s = some (v, s) := by
  simp only [aOp, hy, hlo, hhi, hmx, hv, Option.bind_eq_bind, Option.bind_some]
end Go.Ai
namespace Go.Ai
section
variable {P : Program} {t t' e : TypeId} {k : IntKind} {x a : AV} {l m : List Int} {s : St}
/-- A slice that the call itself grows: nothing, or a row with room of its own. -/
def OwnRow (k : IntKind) (x : AV) (l : List Int) (s : St) : Prop := ((x = .nils ∧ l = []) ∨ ∃ n, x = .vec 0 (l.map (.int k)) (.tok n) ∧ hget s.h n = some .tok) ∧ ∀ n ∈ l, (Lit.int k n).wf = true
theorem OwnRow.row (h : OwnRow k x l s) : IntRow k x l := ⟨h.1.imp (fun e => ⟨.inl e.1, e.2⟩) fun ⟨n, e, _⟩ => ⟨_, e⟩, h.2⟩
theorem OwnRow.nil : OwnRow k .nils [] s := ⟨.inl ⟨rfl, rfl⟩, by simp⟩
theorem row_source (h : IntRow k x l) : source 0 x s = some (l.map (.int k)) := by
  obtain ⟨⟨rfl | ⟨z, rfl⟩, rfl⟩ | ⟨c, rfl⟩, _⟩ := h
  · rfl
  · rfl
  · simp [source, elems]
theorem own_append (ha : OwnRow k a l s) (hx : IntRow k x m) {ts : Array TypeId} {i : TypeInfo} {z : AV} (h0 : ts[0]? = some t) (h1 : ts[1]? = some t') (hu : P.underlying t = some (.slice e)) (hu' : P.underlying t' = some (.slice e))
    (hs : shapeT P e = some 0) (hi : P.info? e = some i) (hz : zeroT P e = some z) (hzl : z.cells.length = 1) (hr : roomy (l.length + m.length) i.bytes = true) :
    ∃ y s', aAppend P ts a x s = some (y, s') ∧ OwnRow k y (l ++ m) s' := by
  have hsrc := row_source (s := s) hx
  have hw : ∀ n ∈ l ++ m, (Lit.int k n).wf = true := fun n hn => (List.mem_append.1 hn).elim (ha.2 n) (hx.2 n)
  have hzl' : ¬ z.cells.length ≠ esz 0 := by rw [hzl]; simp [esz]
  unfold aAppend
  simp only [h0, h1, hu, hu', hs, hi, hz, hsrc, Option.bind_eq_bind, Option.bind_some, if_neg hzl']
  obtain ⟨⟨rfl, rfl⟩ | ⟨n, rfl, hn⟩, _⟩ := ha
  · cases m with
    | nil => exact ⟨.nils, s, by simp, .inl ⟨rfl, rfl⟩, hw⟩
    | cons q m =>
      refine ⟨_, _, by simp only [List.map_cons, List.isEmpty_cons, Bool.false_eq_true, if_false, aGrow]; rw [if_pos (by simpa using hr)], .inr ⟨s.c, by simp, by simp [St.new, hget]⟩, hw⟩
  · cases m with
    | nil => exact ⟨.vec 0 (l.map (.int k)) (.tok n), s, by simp, .inr ⟨n, by simp, hn⟩, hw⟩
    | cons q m =>
      refine ⟨_, _, by simp only [ne_eq, not_true_eq_false, if_false, List.map_cons, List.isEmpty_cons, Bool.false_eq_true, hn, aGrow]; rw [if_pos (by simpa using hr)], .inr ⟨(s.del n).c, by simp, by simp [St.new, hget]⟩, hw⟩
theorem op_append {call : FuncId → List AV → St → Option (AV × St)} {dst : Option Tmp} {type : TypeId} {pos : String} {after : Array Edge} {guard : Option (Nat × Bool)} {fr : List AV} {y z : Operand} {ts : Array TypeId} {v : AV} {s' : St} (hy : aEval fr y = some a) (hz : aEval fr z = some x) (hv : aAppend P ts a x s = some (v, s')) :
    aOp P call ⟨dst, .call ⟨.builtin .append, #[y, z], ts⟩, type, pos, after, guard⟩ fr s = some (v, s') := by
  simp [aOp, aEvals, hy, hz, aBuiltin, hv]
theorem u8_xor (a b : Nat) (ha : a < 256) (hb : b < 256) : aIntOp .xor .u8 (a : Int) (b : Int) = some (.int .u8 ((a ^^^ b : Nat) : Int)) := by
  have h : a ^^^ b < 2 ^ 8 := Nat.xor_lt_two_pow (by omega) (by omega)
  have e : (BitVec.ofInt 8 (a : Int) ^^^ BitVec.ofInt 8 (b : Int)).toNat = a ^^^ b := by
    rw [BitVec.toNat_xor, BitVec.ofInt_natCast, BitVec.ofInt_natCast, BitVec.toNat_ofNat, BitVec.toNat_ofNat, Nat.mod_eq_of_lt (show a < 2 ^ 8 by omega), Nat.mod_eq_of_lt (show b < 2 ^ 8 by omega)]
  show some (AV.int .u8 (IntKind.u8.wrap ((BitVec.ofInt 8 (a : Int) ^^^ BitVec.ofInt 8 (b : Int)).toNat : Int))) = _
  rw [e, IntWalk.u8_in _ (by omega)]
theorem bin_int {k : IntKind} {op : BinOp} {a b : Int} {cx cy : Bool} {v : AV} (h1 : op ≠ .shl) (h2 : op ≠ .shr) (h : aIntOp op k a b = some v) : aBinOp P op t (.int k a) (.int k b) cx cy = some v := by
  cases op <;> first | (exact absurd rfl h1) | (exact absurd rfl h2) | (simp only [aBinOp, if_true]; exact h)
end
end Go.Ai
end
section
/- More steps: literals of slices, least numbers, made slices. -/
set_option linter.unusedVariables false
set_option linter.unusedSimpArgs false
namespace Go.Ai
section
variable {P : Program} {t t' e : TypeId} {k k' : IntKind} {x a : AV} {l m : List Int} {s : St} {call : FuncId → List AV → St → Option (AV × St)} {dst : Option Tmp} {type : TypeId} {pos : String} {after : Array Edge} {guard : Option (Nat × Bool)} {fr : List AV} {ts : Array TypeId}
theorem op_min {y z : Operand} {a b : Int} (hy : aEval fr y = some (.int k a)) (hz : aEval fr z = some (.int k' b)) : aOp P call ⟨dst, .call ⟨.builtin .min, #[y, z], ts⟩, type, pos, after, guard⟩ fr s = some (.int k (if b < a then b else a), s) := by
  simp [aOp, aEvals, hy, hz, aBuiltin]
theorem op_max {y z : Operand} {a b : Int} (hy : aEval fr y = some (.int k a)) (hz : aEval fr z = some (.int k' b)) : aOp P call ⟨dst, .call ⟨.builtin .max, #[y, z], ts⟩, type, pos, after, guard⟩ fr s = some (.int k (if b > a then b else a), s) := by
  simp [aOp, aEvals, hy, hz, aBuiltin]
/-- A literal of one element. -/
theorem build1 {n : Int} {i : TypeInfo} (hu : P.underlying t = some (.slice e)) (hs : shapeT P e = some 0) (hi : P.info? e = some i) (hz : zeroT P e = some (.int k 0)) (hsz : i.size = 1) : aBuildSlice P t 1 [(0, .int k n)] = some (.vec 0 [.int k n] .tight) := by
  simp [aBuildSlice, hu, hs, hi, hz, hsz, esz, aFill, splice, AV.cells, AV.one, chunk]
theorem op_build1 {n : Int} {z : Operand} (hy : aEval fr z = some (.int k n)) (hv : aBuildSlice P t 1 [(0, .int k n)] = some x) : aOp P call ⟨dst, .buildSlice t 1 #[(0, z)], type, pos, after, guard⟩ fr s = some (x, s) := by
  simp [aOp, hy, hv]
theorem row_one {n : Int} (h : (Lit.int k n).wf = true) (c : Cap) : IntRow k (.vec 0 [.int k n] c) [n] := ⟨.inr ⟨c, rfl⟩, fun q hq => by simp at hq; subst hq; exact h⟩
/-- A fresh slice of noughts, as long as it is roomy. -/
theorem make_row {n : Nat} {i : TypeInfo} (hu : P.underlying t = some (.slice e)) (hs : shapeT P e = some 0) (hi : P.info? e = some i) (hz : zeroT P e = some (.int k 0)) (hsz : i.size = 1) (hr : roomy n i.bytes = true) :
    aMakeSlice P t (.int k' n) (.int k' n) s = some (.hs 0 s.c 0 n n, s.new (.cells (List.replicate n (.int k 0)))) := by
  have e : (List.replicate n [AV.int k 0]).flatten = List.replicate n (AV.int k 0) := by
    induction n with
    | zero => rfl
    | succ n ih => simp [List.replicate_succ]
  simp [aMakeSlice, hu, hi, hs, hz, aInt, hr, AV.cells, AV.one, esz, hsz]
theorem chunk_cells : ∀ (cs : List AV) (n : Nat), n ≤ cs.length → chunk 0 cs n = cs.take n
  | _, 0, _ => by simp [chunk]
  | [], n + 1, h => by simp at h
  | c :: cs, n + 1, h => by
    simp only [List.length_cons] at h
    simp [chunk, esz, chunk_cells cs n (by omega)]
theorem elems_hs {n len cap : Nat} {cs : List AV} (hg : hget s.h n = some (.cells cs)) (hl : len ≤ cs.length) : elems (.hs 0 n 0 len cap) s = some (0, cs.take len) := by
  simp [elems, hg, esz, hl, chunk_cells cs len hl]
/-- A full slice of a fresh block, grown. -/
theorem hs_append {n : Nat} {l : List Int} (hg : hget s.h n = some (.cells (l.map (.int k)))) (hwl : ∀ q ∈ l, (Lit.int k q).wf = true) (hx : IntRow k x m) {i : TypeInfo} {z : AV} (h0 : ts[0]? = some t) (h1 : ts[1]? = some t') (hu : P.underlying t = some (.slice e)) (hu' : P.underlying t' = some (.slice e))
    (hs : shapeT P e = some 0) (hi : P.info? e = some i) (hz : zeroT P e = some z) (hzl : z.cells.length = 1) (hr : roomy (l.length + m.length) i.bytes = true) (hm : m ≠ []) :
    aAppend P ts (.hs 0 n 0 l.length l.length) x s = some (.vec 0 ((l ++ m).map (.int k)) (.tok s.c), s.new .tok) := by
  have hsrc := row_source (s := s) hx
  have hzl' : ¬ z.cells.length ≠ esz 0 := by rw [hzl]; simp [esz]
  obtain ⟨q, m', rfl⟩ : ∃ q m', m = q :: m' := by cases m with
    | nil => exact absurd rfl hm
    | cons q m' => exact ⟨q, m', rfl⟩
  have hel := elems_hs (s := s) (n := n) (len := l.length) (cap := l.length) hg (by simp)
  have hel' : elems (.hs 0 n 0 l.length l.length) s = some (0, l.map (.int k)) := by rw [hel, List.take_of_length_le (by simp)]
  unfold aAppend
  simp only [h0, h1, hu, hu', hs, hi, hz, hsrc, Option.bind_eq_bind, Option.bind_some, if_neg hzl', ne_eq, not_true_eq_false, if_false, Nat.lt_irrefl, List.map_cons, List.isEmpty_cons, Bool.false_eq_true, List.length_cons, List.length_map, hel']
  rw [if_neg (by omega)]
  simp only [Option.bind_some, aGrow]
  rw [if_pos (by simpa using hr)]
  simp
theorem op_make {y z : Operand} {a b v : AV} {s' : St} (hy : aEval fr y = some a) (hz : aEval fr z = some b) (hv : aMakeSlice P t a b s = some (v, s')) : aOp P call ⟨dst, .makeSlice t y z, type, pos, after, guard⟩ fr s = some (v, s') := by
  simp [aOp, hy, hz, hv]
end
end Go.Ai
namespace Go.Ai
theorem IntRow.given_nil {k : IntKind} {W : World} : ∃ (x : AV) (l : List Int), IntRow k x l ∧ l.length ≤ 9223372036854775807 ∧ Rel W ρ0 noReg 0 x (.slice none 0 0) := by
  obtain ⟨x, l, h1, h2⟩ := IntRow.of_nil (k := k) (W := W)
  refine ⟨.nils, [], ⟨.inl ⟨.inl rfl, rfl⟩, by simp⟩, by simp, by simp [Rel]⟩
theorem IntRow.given_cells {k : IntKind} {W : World} {x : Addr} {len cap : Nat} {zs : List Int} (hl : len ≤ cap) (hm : cap ≤ maxLen) (hz : zs.length = cap) (hcell : ∀ i, i < zs.length → W.cell? (x.add i) = some (.int k (zs.getD i 0))) (hwz : ∀ n ∈ zs, (Lit.int k n).wf = true) :
    ∃ (y : AV) (l : List Int), IntRow k y l ∧ l.length ≤ 9223372036854775807 ∧ Rel W ρ0 noReg 0 y (.slice (some x) len cap) := by
  obtain ⟨y, l, h1, h2⟩ := IntRow.of_cells hl hz hcell hwz
  refine ⟨y, l, h1, ?_, h2⟩
  have hlen : l.length = len := by
    obtain ⟨⟨rfl | ⟨z, rfl⟩, rfl⟩ | ⟨c, rfl⟩, _⟩ := h1
    · simp [Rel] at h2
    · simp only [Rel] at h2
      obtain ⟨a, cap', e, _⟩ := h2
      injection e with e1 e2 e3
      simpa using e2.symm
    · simp only [Rel] at h2
      obtain ⟨a, cap', cs, e, _⟩ := h2
      injection e with e1 e2 e3
      simpa using e2.symm
  have : maxLen = 9223372036854775807 := by decide
  omega
end Go.Ai
end
section
/- Rows of any elements that the call itself grows. -/
set_option linter.unusedVariables false
set_option linter.unusedSimpArgs false
namespace Go.Ai
section
variable {P : Program} {t t' e : TypeId} {k : Nat} {x a : AV} {xs ys : List AV} {s : St}
def OwnL (k : Nat) (x : AV) (xs : List AV) (s : St) : Prop := (x = .nils ∧ xs = []) ∨ ∃ n, x = .vec k xs (.tok n) ∧ hget s.h n = some .tok
theorem OwnL.nil : OwnL k .nils [] s := .inl ⟨rfl, rfl⟩
theorem ownL_append (ha : OwnL k a xs s) (hsrc : source k x s = some ys) {ts : Array TypeId} {i : TypeInfo} {z : AV} (h0 : ts[0]? = some t) (h1 : ts[1]? = some t') (hu : P.underlying t = some (.slice e)) (hu' : P.underlying t' = some (.slice e))
    (hs : shapeT P e = some k) (hi : P.info? e = some i) (hz : zeroT P e = some z) (hzl : z.cells.length = esz k) (hr : roomy (xs.length + ys.length) i.bytes = true) :
    ∃ y s', aAppend P ts a x s = some (y, s') ∧ OwnL k y (xs ++ ys) s' := by
  have hzl' : ¬ z.cells.length ≠ esz k := by rw [hzl]; simp
  unfold aAppend
  simp only [h0, h1, hu, hu', hs, hi, hz, hsrc, Option.bind_eq_bind, Option.bind_some, if_neg hzl']
  rcases ha with ⟨rfl, rfl⟩ | ⟨n, rfl, hn⟩
  · cases ys with
    | nil => exact ⟨.nils, s, by simp, .inl ⟨rfl, rfl⟩⟩
    | cons q m =>
      refine ⟨_, _, by simp only [List.isEmpty_cons, Bool.false_eq_true, if_false, aGrow]; rw [if_pos (by simpa using hr)], .inr ⟨s.c, by simp, by simp [St.new, hget]⟩⟩
  · cases ys with
    | nil => exact ⟨.vec k xs (.tok n), s, by simp, .inr ⟨n, by simp, hn⟩⟩
    | cons q m =>
      refine ⟨_, _, by simp only [ne_eq, not_true_eq_false, if_false, List.isEmpty_cons, Bool.false_eq_true, hn, aGrow]; rw [if_pos (by simpa using hr)], .inr ⟨(s.del n).c, by simp, by simp [St.new, hget]⟩⟩
theorem vec_source {c : Cap} : source k (.vec k xs c) s = some xs := by simp [source, elems]
/-- A literal of one element of any kind that takes one cell. -/
theorem build1v {v z : AV} {i : TypeInfo} (hu : P.underlying t = some (.slice e)) (hs : shapeT P e = some 0) (hi : P.info? e = some i) (hz : zeroT P e = some z) (hzc : z.cells = [z]) (hsz : i.size = 1) (hv : v.cells = [v]) (hv1 : v.one = true) : aBuildSlice P t 1 [(0, v)] = some (.vec 0 [v] .tight) := by
  simp [aBuildSlice, hu, hs, hi, hz, hzc, hsz, esz, aFill, splice, hv, hv1, chunk]
end
end Go.Ai
end
