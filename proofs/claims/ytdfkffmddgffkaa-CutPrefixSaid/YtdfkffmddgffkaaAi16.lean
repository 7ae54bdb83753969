/- Regions that draw: whatever the order, the text's own answer. -/
import Derived.Test.YtdfkffmddgffkaaAi15
set_option linter.unusedVariables false
set_option linter.unusedSimpArgs false
namespace Go.Ai
section
variable {P : Program} {call : FuncId → List AV → St → Option (AV × St)} {prims : Prims}

/-- Calls of known functions leave the state alone. -/
def Quiet (prims : Prims) (call : FuncId → List AV → St → Option (AV × St)) : Prop := ∀ g args s v s', (prims g).isNone = false → call g args s = some (v, s') → s' = s

theorem map_fst {x : Option AV} {s s' : St} {v : AV} (h : x.map (·, s) = some (v, s')) : s' = s ∧ ∀ s2 : St, x.map (·, s2) = some (v, s2) := by
  cases x with
  | none => cases h
  | some a => simp at h; exact ⟨h.2.symm, fun s2 => by simp [h.1]⟩

theorem nolook {o : Oper} {fr : List AV} {s s' : St} {v : AV} (hl : looks o.op = false) (h : aOp P call o fr s = some (v, s')) : s' = s ∧ ∀ s2, aOp P call o fr s2 = some (v, s2) := by
  obtain ⟨dst, op, type, pos, after, guard⟩ := o
  cases op <;> simp only [looks, reduceCtorEq, Bool.true_eq_false] at hl <;> simp only [aOp] at h ⊢
  case move x => exact map_fst h
  case assign x => exact map_fst h
  case pick c x y =>
    simp only [Option.bind_eq_bind, Option.bind_eq_some_iff] at h ⊢
    obtain ⟨cv, hc, h⟩ := h
    cases cv <;> simp only [reduceCtorEq, Option.bind_eq_some_iff] at h
    obtain ⟨x', hx, h⟩ := h
    injection h with h; injection h with e1 e2
    exact ⟨e2.symm, fun s2 => ⟨_, hc, by simp only [Option.bind_eq_some_iff]; exact ⟨_, hx, by rw [e1]⟩⟩⟩
  case makeInterface t x =>
    simp only [Option.bind_eq_bind, Option.bind_eq_some_iff] at h ⊢
    obtain ⟨d, hd, h⟩ := h
    refine ⟨?_, fun s2 => ⟨d, hd, ?_⟩⟩
    · split at h
      · cases h
      · simp only [Option.bind_eq_some_iff] at h
        obtain ⟨x', hx, h⟩ := h
        injection h with h; injection h with e1 e2; exact e2.symm
    · split at h
      · cases h
      · simp only [Option.bind_eq_some_iff] at h ⊢
        obtain ⟨x', hx, h⟩ := h
        injection h with h; injection h with e1 e2; exact ⟨x', hx, by rw [e1]⟩
  case makeFunc f first captured =>
    cases f <;> simp only [reduceCtorEq, Option.bind_eq_bind, Option.bind_eq_some_iff] at h ⊢
    obtain ⟨x, hx, y, hy, h⟩ := h
    injection h with h; injection h with e1 e2
    exact ⟨e2.symm, fun s2 => ⟨x, hx, y, hy, by rw [e1]⟩⟩
  case nilCheck x =>
    simp only [Option.bind_eq_bind, Option.bind_eq_some_iff] at h ⊢
    obtain ⟨d, hd, h⟩ := h
    cases d <;> simp only [reduceCtorEq] at h <;> (injection h with h; injection h with e1 e2; exact ⟨e2.symm, fun s2 => ⟨_, hd, by rw [← e1]⟩⟩)
  case extract x i =>
    simp only [Option.bind_eq_bind, Option.bind_eq_some_iff] at h ⊢
    obtain ⟨d, hd, h⟩ := h
    cases d <;> simp only [reduceCtorEq] at h
    exact ⟨(map_fst h).1, fun s2 => ⟨_, hd, (map_fst h).2 s2⟩⟩
  all_goals first
    | (cases h; done)
    | (simp only [Option.bind_eq_bind, Option.bind_eq_some_iff] at h ⊢
       obtain ⟨x, hx, h⟩ := h
       first
         | (injection h with h; injection h with e1 e2; exact ⟨e2.symm, fun s2 => ⟨x, hx, by rw [e1]⟩⟩)
         | (obtain ⟨y, hy, h⟩ := h
            first
              | (injection h with h; injection h with e1 e2; exact ⟨e2.symm, fun s2 => ⟨x, hx, y, hy, by rw [e1]⟩⟩)
              | (obtain ⟨z, hz, h⟩ := h
                 injection h with h; injection h with e1 e2; exact ⟨e2.symm, fun s2 => ⟨x, hx, y, hy, z, hz, by rw [e1]⟩⟩)))

theorem turns_looks {fr : List AV} {op : Op} (h : turns P prims fr op = true) : looks op = true := by
  cases op <;> simp only [turns, looks] at h ⊢ <;> first | rfl | exact h | cases h

theorem noturn (hq : Quiet prims call) {o : Oper} {fr : List AV} {s s' : St} {v : AV} (ht : turns P prims fr o.op = false) (h : aOp P call o fr s = some (v, s')) : s' = s := by
  cases hl : looks o.op with
  | false => exact (nolook hl h).1
  | true =>
    obtain ⟨dst, op, type, pos, after, guard⟩ := o
    cases op <;> simp only [looks, reduceCtorEq, Bool.false_eq_true] at hl <;> simp only [turns, looks, Bool.true_eq_false] at ht <;> simp only [aOp] at h
    case load t a =>
      simp only [Option.bind_eq_bind, Option.bind_eq_some_iff] at h
      obtain ⟨x, hx, y, hy, h⟩ := h
      injection h with h; injection h with e1 e2; exact e2.symm
    case convert src dst x =>
      simp only [Option.bind_eq_bind, Option.bind_eq_some_iff] at h
      obtain ⟨y, hy, h⟩ := h
      simp only [aConvert, Option.bind_eq_bind, Option.bind_eq_some_iff] at h
      obtain ⟨d1, hd1, d2, hd2, h⟩ := h
      simp only [convTurns, hd2] at ht
      split at h <;> first
        | (injection h with h; injection h with e1 e2; exact e2.symm)
        | (cases ht; done)
        | skip
      · split at h
        · split at h
          · injection h with h; injection h with e1 e2; exact e2.symm
          · injection h with h; injection h with e1 e2; exact e2.symm
          · simp only [Option.bind_eq_some_iff] at h
            obtain ⟨r, hr, h⟩ := h
            split at h
            · simp only [Option.map_eq_some_iff] at h
              obtain ⟨l, hl, h⟩ := h
              injection h with e1 e2; exact e2.symm
            · cases h
        · cases h
      · cases h
    case slice t x lo hi mx =>
      simp only [Option.bind_eq_bind, Option.bind_eq_some_iff] at h
      obtain ⟨x, hx, y, hy, z, hz, u, hu, r, hr, h⟩ := h
      injection h with h; injection h with e1 e2; exact e2.symm
    case lookup t x k ok =>
      simp only [Option.bind_eq_bind, Option.bind_eq_some_iff] at h
      obtain ⟨x, hx, y, hy, r, hr, h⟩ := h
      injection h with h; injection h with e1 e2; exact e2.symm
    case call c =>
      simp only [Option.bind_eq_bind, Option.bind_eq_some_iff] at h
      obtain ⟨args, ha, h⟩ := h
      cases hc : c.callee with
      | invoke r m => simp only [hc, Bool.true_eq_false] at ht
      | builtin b =>
        simp only [hc] at h ht
        cases b <;> simp only [Bool.true_eq_false] at ht <;> simp only [aBuiltin] at h <;> split at h <;> first
          | (cases h; done)
          | (rename_i hh _; cases hh; done)
          | (rename_i hh; cases hh; done)
          | (rename_i hh _ _; cases hh; done)
          | (simp only [Option.bind_eq_bind, Option.bind_eq_some_iff] at h
             obtain ⟨x, hx, y, hy, h⟩ := h
             injection h with h; injection h with e1 e2; exact e2.symm)
          | (injection h with h; injection h with e1 e2; exact e2.symm)
      | value f =>
        simp only [hc, Option.bind_eq_some_iff] at h
        obtain ⟨fv, hf, h⟩ := h
        simp only [hc, hf] at ht
        cases fv <;> simp only [reduceCtorEq] at h
        exact hq _ _ _ _ _ ht h

/-! ### The run in the text's order -/
/-- One step of it. -/
def DStep (P : Program) (call : FuncId → List AV → St → Option (AV × St)) (prims : Prims) (ops : Array Oper) (b : Array Nat) (j : Nat) (f : List AV) (s : St) (v : AV) (f' : List AV) (s' : St) : Prop :=
  ∃ o, ops[j]? = some o ∧ f' = aPut f o.dst v ∧
    ((Region.wanted o (aYield ops f) = true ∧ (turns P prims f o.op = true → lone ops b j = true) ∧ aOp P call o f s = some (v, s')) ∨
     (Region.wanted o (aYield ops f) = false ∧ v = .undef ∧ s' = s))
theorem draw_trace {ops : Array Oper} {b : Array Nat} : ∀ (k i : Nat) {fr fr' : List AV} {s s' : St}, aDraw P call prims ops b (List.range' i k) fr s = some (fr', s') →
    ∃ (frs : Nat → List AV) (ss : Nat → St) (vs : Nat → AV), frs i = fr ∧ ss i = s ∧ frs (i + k) = fr' ∧ ss (i + k) = s' ∧ ∀ j, i ≤ j → j < i + k → DStep P call prims ops b j (frs j) (ss j) (vs j) (frs (j + 1)) (ss (j + 1))
  | 0, i, fr, fr', s, s', h => by
    simp only [List.range'_zero, aDraw] at h
    injection h with h; injection h with e1 e2
    exact ⟨fun _ => fr, fun _ => s, fun _ => .undef, rfl, rfl, e1, e2, fun j h1 h2 => by omega⟩
  | k + 1, i, fr, fr', s, s', h => by
    simp only [List.range'_succ, aDraw] at h
    cases ho : ops[i]? with
    | none => simp [ho] at h
    | some o =>
      simp only [ho] at h
      have key : ∀ v s1, DStep P call prims ops b i fr s v (aPut fr o.dst v) s1 → aDraw P call prims ops b (List.range' (i + 1) k) (aPut fr o.dst v) s1 = some (fr', s') →
          ∃ (frs : Nat → List AV) (ss : Nat → St) (vs : Nat → AV), frs i = fr ∧ ss i = s ∧ frs (i + (k + 1)) = fr' ∧ ss (i + (k + 1)) = s' ∧ ∀ j, i ≤ j → j < i + (k + 1) → DStep P call prims ops b j (frs j) (ss j) (vs j) (frs (j + 1)) (ss (j + 1)) := by
        intro v s1 hst hr
        obtain ⟨frs, ss, vs, h1, h2, h3, h4, h5⟩ := draw_trace k (i + 1) hr
        have e : i + (k + 1) = i + 1 + k := by omega
        refine ⟨fun m => if m = i then fr else frs m, fun m => if m = i then s else ss m, fun m => if m = i then v else vs m, by simp, by simp, ?_, ?_, ?_⟩
        · simp only [e]; rw [if_neg (by omega)]; exact h3
        · simp only [e]; rw [if_neg (by omega)]; exact h4
        · intro j hj1 hj2
          by_cases hji : j = i
          · subst hji
            simp only [if_true]
            rw [if_neg (by omega), if_neg (by omega), h1, h2]
            exact hst
          · simp only [if_neg hji]
            rw [if_neg (by omega), if_neg (by omega)]
            exact h5 j (by omega) (by omega)
      split at h
      · rename_i hw
        split at h
        · cases h
        · rename_i hl
          split at h
          · rename_i v s1 hop
            exact key v s1 ⟨o, ho, rfl, .inl ⟨hw, fun ht => by simpa [ht] using hl, hop⟩⟩ h
          · cases h
      · rename_i hw
        exact key .undef s ⟨o, ho, rfl, .inr ⟨by simpa using hw, rfl, rfl⟩⟩ h

/-! ### Who wrote last -/
/-- A slot behind the operations of S. -/
def lastv (ops : Array Oper) (vs : Nat → AV) (fr : List AV) (S : Nat → Bool) (t : Tmp) : Nat → Option AV
  | 0 => fr[t]?
  | m + 1 => if S m && ((ops[m]?).bind (·.dst)) == some t then (fr[t]?).map fun _ => vs m else lastv ops vs fr S t m
theorem lastv_congr {ops : Array Oper} {vs : Nat → AV} {fr : List AV} {S S' : Nat → Bool} {t : Tmp} : ∀ (m : Nat), (∀ j, j < m → (ops[j]?).bind (·.dst) = some t → S j = S' j) → lastv ops vs fr S t m = lastv ops vs fr S' t m
  | 0, _ => rfl
  | m + 1, h => by
    simp only [lastv]
    rw [lastv_congr m fun j hj => h j (by omega)]
    by_cases hd : (ops[m]?).bind (·.dst) = some t
    · rw [h m (by omega) hd]
    · have hb : ((ops[m]?).bind (·.dst) == some t) = false := by simpa using hd
      simp only [hb, Bool.and_false]
theorem lastv_cut {ops : Array Oper} {vs : Nat → AV} {fr : List AV} {S : Nat → Bool} {t : Tmp} (i : Nat) : ∀ (m : Nat), i ≤ m → (∀ j, i ≤ j → j < m → (ops[j]?).bind (·.dst) = some t → S j = false) → lastv ops vs fr S t m = lastv ops vs fr S t i
  | 0, hi, _ => by have : i = 0 := by omega
                   subst this; rfl
  | m + 1, hi, h => by
    by_cases e : i = m + 1
    · subst e; rfl
    · simp only [lastv]
      rw [lastv_cut i m (by omega) fun j h1 h2 => h j h1 (by omega)]
      by_cases hd : (ops[m]?).bind (·.dst) = some t
      · rw [h m (by omega) (by omega) hd]; simp
      · have hb : ((ops[m]?).bind (·.dst) == some t) = false := by simpa using hd
        simp only [hb, Bool.and_false, Bool.false_eq_true, if_false]
theorem aPut_get {fr : List AV} {d : Option Tmp} {v : AV} (t : Tmp) : (aPut fr d v)[t]? = if d == some t then (fr[t]?).map fun _ => v else fr[t]? := by
  cases d with
  | none => rfl
  | some d =>
    simp only [aPut]
    by_cases h : d = t
    · subst h
      have hb : (some d == some d) = true := by simp
      rw [hb, if_pos rfl, List.getElem?_set, if_pos rfl]
      cases hx : fr[d]? with
      | none => rw [List.getElem?_eq_none_iff] at hx; rw [if_neg (by omega)]; rfl
      | some x => have := (List.getElem?_eq_some_iff.1 hx).1; rw [if_pos this]; rfl
    · have hb : (some d == some t) = false := by simpa using h
      rw [hb]; simp [List.getElem?_set, h]
theorem aPut_len {fr : List AV} {d : Option Tmp} {v : AV} : (aPut fr d v).length = fr.length := by cases d <;> simp [aPut]
/-- The state behind the operations of S. -/
def lasts (tn : Nat → Bool) (ss : Nat → St) (s : St) (S : Nat → Bool) : Nat → St
  | 0 => s
  | m + 1 => if S m && tn m then ss (m + 1) else lasts tn ss s S m
theorem lasts_congr {tn : Nat → Bool} {ss : Nat → St} {s : St} {S S' : Nat → Bool} : ∀ (m : Nat), (∀ j, j < m → tn j = true → S j = S' j) → lasts tn ss s S m = lasts tn ss s S' m
  | 0, _ => rfl
  | m + 1, h => by
    simp only [lasts]
    rw [lasts_congr m fun j hj => h j (by omega)]
    by_cases ht : tn m = true
    · rw [h m (by omega) ht]
    · have ht : tn m = false := by simpa using ht
      simp [ht]
theorem lasts_cut {tn : Nat → Bool} {ss : Nat → St} {s : St} {S : Nat → Bool} (i : Nat) : ∀ (m : Nat), i ≤ m → (∀ j, i ≤ j → j < m → tn j = true → S j = false) → lasts tn ss s S m = lasts tn ss s S i
  | 0, hi, _ => by have : i = 0 := by omega
                   subst this; rfl
  | m + 1, hi, h => by
    by_cases e : i = m + 1
    · subst e; rfl
    · simp only [lasts]
      rw [lasts_cut i m (by omega) fun j h1 h2 => h j h1 (by omega)]
      by_cases ht : tn m = true
      · rw [h m (by omega) (by omega) ht]; simp
      · have ht : tn m = false := by simpa using ht
        simp [ht]

theorem bits_lt {ops : Array Oper} (hlt : ∀ (i : Nat) (o : Oper), ops[i]? = some o → ∀ e ∈ o.after, e.on < i) : ∀ (i j : Nat), ((Region.before ops).getD i 0).testBit j = true → j < i := by
  intro i
  induction i using Nat.strongRecOn with
  | ind i ih =>
    intro j h
    cases ho : ops[i]? with
    | none =>
      have hsz : (Region.before ops).size = ops.size := by rw [before_eq, bfold_size]; simp
      have : (Region.before ops)[i]? = none := by rw [Array.getElem?_eq_none_iff] at ho ⊢; omega
      rw [Array.getD_eq_getD_getElem?, this] at h
      simp at h
    | some o =>
      obtain ⟨e, he, _, h'⟩ := (before_spec ho (hlt i o ho) j).1 h
      have h1 := hlt i o ho e he
      rcases h' with rfl | h'
      · exact h1
      · exact Nat.lt_trans (ih e.on h1 j h') h1

def left (S : Nat → Bool) : Nat → Nat
  | 0 => 0
  | m + 1 => left S m + if S m then 0 else 1
theorem left_zero {S : Nat → Bool} : ∀ (m : Nat), left S m = 0 → ∀ j, j < m → S j = true
  | 0, _, j, hj => by omega
  | m + 1, h, j, hj => by
    simp only [left] at h
    by_cases e : j = m
    · subst e
      cases hs : S j with
      | true => rfl
      | false => simp [hs] at h
    · exact left_zero m (by omega) j (by omega)
theorem left_same {S S' : Nat → Bool} : ∀ (m : Nat), (∀ j, j < m → S' j = S j) → left S' m = left S m
  | 0, _ => rfl
  | m + 1, h => by simp only [left]; rw [left_same m fun j hj => h j (by omega), h m (by omega)]
theorem left_set {S S' : Nat → Bool} {i : Nat} (hi : S i = false) (hi' : S' i = true) (hne : ∀ j, j ≠ i → S' j = S j) : ∀ (m : Nat), i < m → left S m = left S' m + 1
  | 0, h => by omega
  | m + 1, h => by
    simp only [left]
    by_cases e : i = m
    · subst e
      rw [hi, hi', left_same i fun j hj => hne j (by omega)]
      simp
    · rw [left_set hi hi' hne m (by omega), hne m (Ne.symm e)]
      omega

theorem clash_spec {ops : Array Oper} {b : Array Nat} {i : Nat} {o : Oper} (h : clash ops b i o = false) {d : Tmp} (hd : o.dst = some d) {j : Nat} {p : Oper} (hj : ops[j]? = some p) (hne : j ≠ i) (hx : d ∈ p.looksAt ops ∨ p.dst = some d) : comparable b i j = true := by
  unfold clash at h
  rw [hd] at h
  simp only [List.any_eq_false, List.mem_range] at h
  have h1 := h j (Array.getElem?_eq_some_iff.1 hj).1
  simp only [hj] at h1
  cases hc : comparable b i j with
  | true => rfl
  | false =>
    exfalso
    apply h1
    have e1 : (j != i) = true := by simpa using hne
    rw [e1, hc]
    rcases hx with hx | hx
    · simp [hx]
    · simp [hx]
theorem lone_spec {ops : Array Oper} {b : Array Nat} {i : Nat} (h : lone ops b i = true) {j : Nat} {p : Oper} (hj : ops[j]? = some p) (hne : j ≠ i) (hl : looks p.op = true) : comparable b i j = true := by
  unfold lone at h
  simp only [List.all_eq_true, List.mem_range] at h
  have h1 := h j (Array.getElem?_eq_some_iff.1 hj).1
  simp only [hj, hl, Bool.not_true, Bool.or_false, Bool.or_eq_true, beq_iff_eq, hne, false_or] at h1
  exact h1

theorem drawOk_spec {ops : Array Oper} (h : drawOk P ops = true) : P.follows .mixedOrders = true ∧ ∀ (i : Nat) (o : Oper), ops[i]? = some o → clash ops (Region.before ops) i o = false ∧ ∀ e ∈ o.after, e.on < i := by
  unfold drawOk at h
  simp only [Bool.and_eq_true, List.all_eq_true] at h
  refine ⟨h.1, fun i o ho => ?_⟩
  have hm : (o, i) ∈ ops.toList.zipIdx := by
    rw [List.mem_zipIdx_iff_getElem?]
    simpa using ho
  have h1 := h.2 (o, i) hm
  simp only [Bool.not_eq_true', Array.all_eq_true_iff_forall_mem, decide_eq_true_eq] at h1
  exact ⟨h1.1.1, h1.1.2⟩

variable {base : Nat}
theorem draw_ok (hcall : CallOk P base call) (hq : Quiet prims call) : DrawOk P base call prims := by
  intro ops Q id fr fr' s s' a0 w0 ρ X hok hb h hf hd ho hQ
  obtain ⟨hm, hall⟩ := drawOk_spec hok
  have hlt : ∀ (i : Nat) (o : Oper), ops[i]? = some o → ∀ e ∈ o.after, e.on < i := fun i o hi => (hall i o hi).2
  rw [List.range_eq_range'] at ho
  obtain ⟨frs, ss, vs, t0, t1, t2, t3, t4⟩ := draw_trace ops.size 0 ho
  rw [Nat.zero_add] at t2 t3
  let B := Region.before ops
  let n := ops.size
  let tn : Nat → Bool := fun j => match ops[j]? with
    | some o => Region.wanted o (aYield ops (frs j)) && turns P prims (frs j) o.op
    | none => false
  have tframe : ∀ m, m ≤ n → ∀ t : Tmp, (frs m)[t]? = lastv ops vs fr (fun _ => true) t m := by
    intro m
    induction m with
    | zero => intro _ t; rw [t0]; rfl
    | succ m ih =>
      intro hm t
      obtain ⟨o, h1, h2, _⟩ := t4 m (by omega) (by omega)
      have hl : ∀ x : Tmp, ((frs m)[x]?).isSome = (fr[x]?).isSome := by
        have : ∀ k, k ≤ m → (frs k).length = fr.length := by
          intro k
          induction k with
          | zero => intro _; rw [t0]
          | succ k ihk =>
            intro hk
            obtain ⟨_, _, h2', _⟩ := t4 k (by omega) (by have : m < n := hm; show k < 0 + ops.size; have : n = ops.size := rfl; omega)
            rw [h2', aPut_len]; exact ihk (by omega)
        intro x
        have hlen := this m (Nat.le_refl m)
        by_cases hx : x < fr.length
        · simp [hx, hlen]
        · simp [hx, hlen]
      rw [h2, aPut_get]
      simp only [lastv, h1, Option.bind_some, Bool.true_and]
      split
      · have := hl t
        cases e1 : (frs m)[t]? <;> cases e2 : fr[t]? <;> simp [e1, e2] at this ⊢
      · exact ih (by omega) t
  have tstate : ∀ m, m ≤ n → ss m = lasts tn ss s (fun _ => true) m := by
    intro m
    induction m with
    | zero => intro _; rw [t1]; rfl
    | succ m ih =>
      intro hm
      obtain ⟨o, h1, h2, h3⟩ := t4 m (by omega) (by omega)
      simp only [lasts, Bool.true_and]
      cases ht : tn m with
      | true => rfl
      | false =>
        simp only [Bool.false_eq_true, if_false]
        rw [← ih (by omega)]
        have ht' : (Region.wanted o (aYield ops (frs m)) && turns P prims (frs m) o.op) = false := by
          have : tn m = (Region.wanted o (aYield ops (frs m)) && turns P prims (frs m) o.op) := by show (match ops[m]? with | some o => _ | none => _) = _; rw [h1]
          rw [← this]; exact ht
        rcases h3 with ⟨hw, _, hop⟩ | ⟨hw, _, e⟩
        · rw [hw, Bool.true_and] at ht'
          exact noturn hq ht' hop
        · exact e
  have main : ∀ (fuel : Nat) (listed : Array Bool) (F : List AV) (T : St) (a : Act) (w : World), listed.size = n →
      (∀ k j, listed.getD k false = true → (B.getD k 0).testBit j = true → listed.getD j false = true) →
      F.length = fr.length → (∀ t : Tmp, F[t]? = lastv ops vs fr (fun j => listed.getD j false) t n) → T = lasts tn ss s (fun j => listed.getD j false) n →
      left (fun j => listed.getD j false) n ≤ fuel → PostF base ρ X s w0 F T a w → wpAny P .any ops Q fuel listed a w := by
    intro fuel
    induction fuel with
    | zero =>
      intro listed F T a w hsz hcl hlen hF hT hfu hp
      have hS := left_zero n (by omega : left (fun j => listed.getD j false) n = 0)
      have hend : Q .normal a w := by
        refine hQ a w ?_
        have e1 : F = fr' := List.ext_getElem? fun t => by
          rw [hF t, ← t2, tframe n (Nat.le_refl n)]
          exact lastv_congr n fun j hj _ => hS j hj
        have e2 : T = s' := by
          rw [hT, ← t3, tstate n (Nat.le_refl n)]
          exact lasts_congr n fun j hj _ => hS j hj
        rw [← e1, ← e2]; exact hp
      refine ⟨?_, hend⟩
      rw [List.eq_nil_iff_forall_not_mem]
      intro i hi
      obtain ⟨h1, o, h2, _⟩ := mem_ready.1 hi
      have hin : i < n := (Array.getElem?_eq_some_iff.1 h2).1
      have h3 := hS i hin
      simp only [Array.getD_eq_getD_getElem?] at h1 h3
      have h4 : listed[i]? = some listed[i] := Array.getElem?_eq_getElem (by omega)
      rw [h4] at h1 h3
      simp at h1 h3
      rw [h1] at h3; cases h3
    | succ fuel ih =>
      intro listed F T a w hsz hcl hlen hF hT hfu hp
      have hget : ∀ j, j < n → listed.getD j true = listed.getD j false := fun j hj => by
        simp only [Array.getD_eq_getD_getElem?]
        rw [Array.getElem?_eq_getElem (by omega)]; rfl
      refine ⟨fun hr => ?_, fun i hi => ?_⟩
      · have hS : ∀ j, j < n → listed.getD j false = true := by
          intro j
          induction j using Nat.strongRecOn with
          | ind j ihj =>
            intro hj
            cases hs : listed.getD j false with
            | true => rfl
            | false =>
              exfalso
              have hj' : ops[j]? = some ops[j] := Array.getElem?_eq_getElem hj
              have : j ∈ Region.ready .any ops listed := mem_ready.2 ⟨by rw [hget j hj]; exact hs, ops[j], hj', fun e he _ => ihj e.on (hlt j _ hj' e he) (Nat.lt_trans (hlt j _ hj' e he) hj)⟩
              rw [hr] at this; cases this
        refine hQ a w ?_
        have e1 : F = fr' := List.ext_getElem? fun t => by
          rw [hF t, ← t2, tframe n (Nat.le_refl n)]
          exact lastv_congr n fun j hj _ => hS j hj
        have e2 : T = s' := by
          rw [hT, ← t3, tstate n (Nat.le_refl n)]
          exact lasts_congr n fun j hj _ => hS j hj
        rw [← e1, ← e2]; exact hp
      · obtain ⟨h1, o, hoi, haft⟩ := mem_ready.1 hi
        have hin : i < n := (Array.getElem?_eq_some_iff.1 hoi).1
        have hSi : listed.getD i false = false := by rw [← hget i hin]; exact h1
        have hbef : ∀ j, (B.getD i 0).testBit j = true → listed.getD j false = true := fun j hj => by
          obtain ⟨e, he, hbi, h'⟩ := (before_spec hoi (hlt i o hoi) j).1 hj
          have := haft e he hbi
          rcases h' with rfl | h'
          · exact this
          · exact hcl _ _ this h'
        have hcmp : ∀ j, comparable B i j = true ∨ comparable B j i = true → listed.getD j false = decide (j < i) := by
          intro j hj
          have hj' : (B.getD i 0).testBit j = true ∨ (B.getD j 0).testBit i = true := by
            rcases hj with hj | hj <;> simp only [comparable, Bool.or_eq_true] at hj
            · exact hj
            · exact hj.symm
          rcases hj' with hj' | hj'
          · rw [hbef j hj', decide_eq_true (bits_lt hlt i j hj')]
          · have : i < j := bits_lt hlt j i hj'
            rw [decide_eq_false (by omega)]
            cases hs : listed.getD j false with
            | false => rfl
            | true => rw [hcl j i hs hj'] at hSi; cases hSi
        have hself : listed.getD i false = decide (i < i) := by rw [hSi]; simp
        -- the slots that the operation looks at
        have factA : ∀ t : Tmp, t ∈ o.looksAt ops → F[t]? = (frs i)[t]? := by
          intro t ht
          have hw : ∀ j, j < n → (ops[j]?).bind (·.dst) = some t → listed.getD j false = decide (j < i) := by
            intro j hj hdst
            by_cases e : j = i
            · subst e; exact hself
            · obtain ⟨p, hp1, hp2⟩ := Option.bind_eq_some_iff.1 hdst
              exact hcmp j (.inr (clash_spec (hall j p hp1).1 hp2 hoi (Ne.symm e) (.inl ht)))
          rw [hF t, tframe i (by omega) t, lastv_congr (S' := fun j => decide (j < i)) n hw, lastv_cut i n (by omega) fun j h1 h2 _ => by simp; omega]
          exact lastv_congr i fun j hj _ => by simp [hj]
        have hev : ∀ x ∈ o.op.operands, aEval F x = aEval (frs i) x := fun x hx => aEval_congr fun t e => by
          subst e
          have := factA t (List.mem_append_left _ (List.mem_filterMap.2 ⟨.tmp t, by simpa using hx, rfl⟩))
          rw [List.getD_eq_getElem?_getD, List.getD_eq_getElem?_getD, this]
        have hwant : Region.wanted o (aYield ops F) = Region.wanted o (aYield ops (frs i)) := by
          unfold Region.wanted
          cases hg : o.guard with
          | none => rfl
          | some gw =>
            obtain ⟨g, want⟩ := gw
            have : aYield ops F g = aYield ops (frs i) g := by
              unfold aYield
              cases ht : (ops[g]?).bind (·.dst) with
              | none => rfl
              | some t =>
                have := factA t (by simp [Oper.looksAt, hg, ht])
                simp only [Option.bind_some, this]
            simp only [this]
        have htn : tn i = (Region.wanted o (aYield ops (frs i)) && turns P prims (frs i) o.op) := by show (match ops[i]? with | some o => _ | none => _) = _; rw [hoi]
        obtain ⟨o', ho', hfr1, hst⟩ := t4 i (by omega) (by omega)
        rw [hoi] at ho'; injection ho' with ho'; subst ho'
        -- what turns
        have factC : looks o.op = true → ∀ j, j < n → tn j = true → listed.getD j false = decide (j < i) := by
          intro hl j hj ht
          by_cases e : j = i
          · subst e; exact hself
          · obtain ⟨p, hp1, _, hp3⟩ := t4 j (by omega) (by show j < 0 + ops.size; have : n = ops.size := rfl; omega)
            have ht' : (Region.wanted p (aYield ops (frs j)) && turns P prims (frs j) p.op) = true := by
              have : tn j = (Region.wanted p (aYield ops (frs j)) && turns P prims (frs j) p.op) := by show (match ops[j]? with | some o => _ | none => _) = _; rw [hp1]
              rw [← this]; exact ht
            simp only [Bool.and_eq_true] at ht'
            rcases hp3 with ⟨_, hlone, _⟩ | ⟨hw, _, _⟩
            · exact hcmp j (.inr (lone_spec (hlone ht'.2) hoi (Ne.symm e) hl))
            · rw [hw] at ht'; cases ht'.1
        have stateAt : looks o.op = true → T = ss i := by
          intro hl
          rw [hT, tstate i (by omega), lasts_congr (S' := fun j => decide (j < i)) n (factC hl), lasts_cut i n (by omega) fun j h1 h2 _ => by simp; omega]
          exact lasts_congr i fun j hj _ => by simp [hj]
        -- behind the step
        have hS' : ∀ j, (listed.setIfInBounds i true).getD j false = if j = i then true else listed.getD j false := fun j => by
          by_cases e : j = i
          · subst e
            rw [if_pos rfl]
            simp [Array.getD_eq_getD_getElem?, hsz, hin]
          · rw [if_neg e, getD_set_ne false (Ne.symm e)]
        have hne' : ∀ j, j ≠ i → (listed.setIfInBounds i true).getD j false = listed.getD j false := fun j hj => by rw [hS' j, if_neg hj]
        have hi' : (listed.setIfInBounds i true).getD i false = true := by rw [hS' i, if_pos rfl]
        have next : ∀ (T' : St) (a' : Act) (w' : World), T' = lasts tn ss s (fun j => (listed.setIfInBounds i true).getD j false) n → PostF base ρ X s w0 (aPut F o.dst (vs i)) T' a' w' → wpAny P .any ops Q fuel (listed.setIfInBounds i true) a' w' := by
          intro T' a' w' hT' hp'
          refine ih (listed.setIfInBounds i true) (aPut F o.dst (vs i)) T' a' w' (by simpa using hsz) ?_ (by rw [aPut_len]; exact hlen) ?_ hT' ?_ hp'
          · intro k j hk hbit
            by_cases ek : k = i
            · subst ek
              have := hbef j hbit
              rw [hS' j]; split
              · rfl
              · exact this
            · rw [hne' k ek] at hk
              have := hcl k j hk hbit
              rw [hS' j]; split
              · rfl
              · exact this
          · intro t
            rw [aPut_get]
            by_cases e : o.dst = some t
            · have eb : (o.dst == some t) = true := by simpa using e
              rw [eb, if_pos rfl]
              rw [lastv_cut (i + 1) n (by omega) fun j h1 h2 hdst => by
                obtain ⟨p, hp1, hp2⟩ := Option.bind_eq_some_iff.1 hdst
                have := hcmp j (.inl (clash_spec (hall i o hoi).1 e hp1 (by omega) (.inr hp2)))
                rw [hne' j (by omega), this]; simp; omega]
              simp only [lastv, hi', hoi, Option.bind_some, eb, Bool.and_true, if_true]
              by_cases hx : t < fr.length
              · simp [hx, hlen]
              · simp [hx, hlen]
            · have eb : (o.dst == some t) = false := by simpa using e
              rw [eb]
              simp only [Bool.false_eq_true, if_false]
              rw [hF t]
              refine lastv_congr n fun j hj hdst => ?_
              by_cases ej : j = i
              · subst ej
                rw [hoi] at hdst
                exact absurd hdst e
              · exact (hne' j ej).symm
          · have := left_set (S := fun j => listed.getD j false) (S' := fun j => (listed.setIfInBounds i true).getD j false) hSi hi' hne' n hin
            omega
        have tnfalse : tn i = false → lasts tn ss s (fun j => (listed.setIfInBounds i true).getD j false) n = T := by
          intro hf'
          rw [hT]
          refine lasts_congr n fun j hj ht => ?_
          by_cases ej : j = i
          · subst ej; rw [hf'] at ht; cases ht
          · exact hne' j ej
        obtain ⟨ρ1, g1, g2, g3, g4, g5, g6, g7⟩ := hp
        have hb1 : base ≤ w.heap.size := Nat.le_trans hb g5.size
        unfold wpOp
        simp only [hoi]
        have hy := aYield_eq (ops := ops) g4
        rw [← hy, hwant]
        rcases hst with ⟨hw, hlone, hop⟩ | ⟨hw, hv, hs⟩
        · rw [hw, if_pos rfl]
          left
          have hT' : ∃ T', aOp P call o F T = some (vs i, T') ∧ T' = lasts tn ss s (fun j => (listed.setIfInBounds i true).getD j false) n := by
            rw [aOp_congr hev]
            cases hl : looks o.op with
            | false =>
              refine ⟨T, (nolook hl hop).2 T, (tnfalse ?_).symm⟩
              rw [htn, hw, Bool.true_and]
              cases ht : turns P prims (frs i) o.op with
              | false => rfl
              | true => rw [turns_looks ht] at hl; cases hl
            | true =>
              refine ⟨ss (i + 1), by rw [stateAt hl]; exact hop, ?_⟩
              cases ht : turns P prims (frs i) o.op with
              | false => rw [tnfalse (by rw [htn, ht, Bool.and_false]), noturn hq ht hop, stateAt hl]
              | true =>
                have e : tn i = true := by rw [htn, hw, ht]; rfl
                rw [lasts_cut (i + 1) n (by omega) fun j h1 h2 htj => by
                  rw [hne' j (by omega), factC hl j h2 htj]; simp; omega]
                simp only [lasts, hi', e, Bool.and_true, if_true]
          obtain ⟨T', hop', eT'⟩ := hT'
          refine op_wp hcall hb1 g3 g4 hop' fun v' w' hpo => ?_
          exact next T' _ w' eT' (PostF.cons g1 g2 g5 g6 (Post.frame (dst := o.dst) g3 g4 g7 hpo))
        · rw [hw]
          simp only [Bool.false_eq_true, if_false]
          refine next T _ w ?_ ⟨ρ1, g1, g2, g3, ?_, g5, g6, by cases o.dst <;> exact g7⟩
          · exact (tnfalse (by rw [htn, hw, Bool.false_and])).symm
          · rw [hv]
            exact aPut_rel g4 o.dst (by simp [Rel, RelL, undef])
  refine wp_region_any hm (main ops.size _ fr s a0 _ (by simp [n]) ?_ rfl ?_ ?_ ?_ ?_)
  · intro k j hk
    exfalso
    rw [Array.getD_eq_getD_getElem?, Array.getElem?_replicate] at hk
    split at hk <;> simp at hk
  · intro t
    rw [lastv_cut 0 n (by omega) fun j _ hj _ => by
    rw [Array.getD_eq_getD_getElem?, Array.getElem?_replicate, if_pos hj]; rfl]
    rfl
  · rw [lasts_cut 0 n (by omega) fun j _ hj _ => by
    rw [Array.getD_eq_getD_getElem?, Array.getElem?_replicate, if_pos hj]; rfl]
    rfl
  · have : ∀ (S : Nat → Bool) m, left S m ≤ m := fun S m => by
      induction m with
      | zero => simp [left]
      | succ m ih => simp only [left]; split <;> omega
    exact this _ _
  · have hu : Rel w0 ρ (UX ρ s.h X) s.c .undef undef := by simp [Rel, RelL, undef]
    have := Post.grow (v := .undef) (v' := undef) (w' := { w0 with drawn := w0.drawn + 1 }) h rfl rfl rfl (Nat.le_refl _) (fun _ _ => rfl) (by simp [Rel, RelL, undef])
    exact Post.frame (dst := none) h hf hd this
end
end Go.Ai
