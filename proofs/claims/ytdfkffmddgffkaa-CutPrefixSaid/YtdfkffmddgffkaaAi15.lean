/- Regions that draw their order. -/
import Derived.Test.YtdfkffmddgffkaaAi14
set_option linter.unusedVariables false
set_option linter.unusedSimpArgs false
namespace Go.Ai

/-! ### What must come before -/
theorem bits_fold (acc : Array Nat) (j : Nat) : ∀ (l : List Edge) (s0 : Nat), (l.foldl (fun s e => if Region.binds .any e then s ||| 2 ^ e.on ||| acc.getD e.on 0 else s) s0).testBit j = true ↔
    s0.testBit j = true ∨ ∃ e ∈ l, Region.binds .any e = true ∧ (j = e.on ∨ (acc.getD e.on 0).testBit j = true)
  | [], s0 => by simp
  | e :: l, s0 => by
    rw [List.foldl_cons, bits_fold acc j l]
    by_cases hb : Region.binds .any e = true
    · rw [if_pos hb, Nat.testBit_or, Nat.testBit_or, Nat.testBit_two_pow]
      constructor
      · rintro (h | ⟨e', h1, h2⟩)
        · simp only [Bool.or_eq_true, decide_eq_true_eq] at h
          rcases h with (h | h) | h
          · exact .inl h
          · exact .inr ⟨e, by simp, hb, .inl h.symm⟩
          · exact .inr ⟨e, by simp, hb, .inr h⟩
        · exact .inr ⟨e', by simp [h1], h2⟩
      · rintro (h | ⟨e', h1, h2, h3⟩)
        · left; simp [h]
        · rcases List.mem_cons.1 h1 with rfl | h1
          · left
            rcases h3 with h3 | h3
            · simp [h3]
            · rw [h3]; simp
          · exact .inr ⟨e', h1, h2, h3⟩
    · rw [if_neg hb]
      constructor
      · rintro (h | ⟨e', h1, h2⟩)
        · exact .inl h
        · exact .inr ⟨e', by simp [h1], h2⟩
      · rintro (h | ⟨e', h1, h2, h3⟩)
        · exact .inl h
        · rcases List.mem_cons.1 h1 with rfl | h1
          · exact absurd h2 hb
          · exact .inr ⟨e', h1, h2, h3⟩
def bstep (acc : Array Nat) (o : Oper) : Array Nat := acc.push (o.after.foldl (fun s e => if Region.binds .any e then s ||| 2 ^ e.on ||| acc.getD e.on 0 else s) 0)
theorem bfold_size : ∀ (l : List Oper) (acc : Array Nat), (l.foldl bstep acc).size = acc.size + l.length
  | [], acc => by simp
  | o :: l, acc => by rw [List.foldl_cons, bfold_size l]; simp [bstep]; omega
theorem bfold_low : ∀ (l : List Oper) (acc : Array Nat) (k : Nat), k < acc.size → (l.foldl bstep acc).getD k 0 = acc.getD k 0
  | [], acc, k, h => rfl
  | o :: l, acc, k, h => by
    rw [List.foldl_cons, bfold_low l _ k (by simp [bstep]; omega)]
    simp only [bstep, Array.getD_eq_getD_getElem?]
    rw [Array.getElem?_push, if_neg (by omega)]
theorem before_eq (ops : Array Oper) : Region.before ops = ops.toList.foldl bstep #[] := by
  unfold Region.before
  rw [← Array.foldl_toList]
  rfl
theorem before_spec {ops : Array Oper} {i : Nat} {o : Oper} (ho : ops[i]? = some o) (hlt : ∀ e ∈ o.after, e.on < i) (j : Nat) :
    ((Region.before ops).getD i 0).testBit j = true ↔ ∃ e ∈ o.after, Region.binds .any e = true ∧ (j = e.on ∨ ((Region.before ops).getD e.on 0).testBit j = true) := by
  have hi : i < ops.toList.length := by simpa using (Array.getElem?_eq_some_iff.1 ho).1
  have hsplit : ops.toList = ops.toList.take i ++ o :: ops.toList.drop (i + 1) := by
    have e : ops.toList[i] = o := by
      have := (Array.getElem?_eq_some_iff.1 ho).2
      simpa using this
    rw [← e, ← List.drop_eq_getElem_cons hi, List.take_append_drop]
  have hsz : ((ops.toList.take i).foldl bstep #[]).size = i := by
    have : i < ops.size := by simpa using hi
    rw [bfold_size]; simp; omega
  have h1 : (Region.before ops).getD i 0 = (bstep ((ops.toList.take i).foldl bstep #[]) o).getD i 0 := by
    rw [before_eq, hsplit, List.foldl_append, List.foldl_cons, bfold_low _ _ i (by simp [bstep, hsz])]
    rw [← hsplit]
  have h2 : ∀ k, k < i → (Region.before ops).getD k 0 = ((ops.toList.take i).foldl bstep #[]).getD k 0 := fun k hk => by
    rw [before_eq, hsplit, List.foldl_append, List.foldl_cons, bfold_low _ _ k (by simp [bstep, hsz]; omega), ← hsplit]
    simp only [bstep, Array.getD_eq_getD_getElem?]
    rw [Array.getElem?_push, if_neg (by rw [hsz]; omega)]
  rw [h1]
  have h3 : (bstep ((ops.toList.take i).foldl bstep #[]) o).getD i 0 = (o.after.toList.foldl (fun s e => if Region.binds .any e then s ||| 2 ^ e.on ||| ((ops.toList.take i).foldl bstep #[]).getD e.on 0 else s) 0) := by
    simp only [bstep, Array.getD_eq_getD_getElem?]
    rw [Array.getElem?_push, if_pos hsz.symm]
    simp only [Option.getD_some]
    rw [← Array.foldl_toList]
  rw [h3, bits_fold]
  simp only [Nat.zero_testBit, Bool.false_eq_true, false_or]
  constructor
  · rintro ⟨e, he, hb, h⟩
    refine ⟨e, by simpa using he, hb, ?_⟩
    rw [h2 _ (hlt e (by simpa using he))]; exact h
  · rintro ⟨e, he, hb, h⟩
    refine ⟨e, by simpa using he, hb, ?_⟩
    rw [← h2 _ (hlt e he)]; exact h

/-! ### An operation looks at the frame by its operands alone -/
section
variable {P : Program} {call : FuncId → List AV → St → Option (AV × St)}
theorem aEval_congr {fr fr' : List AV} {x : Operand} (h : ∀ t, x = .tmp t → fr.getD t .undef = fr'.getD t .undef) : aEval fr x = aEval fr' x := by
  cases x with
  | tmp t => simp only [aEval]; rw [h t rfl]
  | _ => rfl
theorem aEvals_congr {fr fr' : List AV} : ∀ {xs : List Operand}, (∀ x ∈ xs, aEval fr x = aEval fr' x) → aEvals fr xs = aEvals fr' xs
  | [], _ => rfl
  | x :: xs, h => by
    simp only [aEvals, List.mapM_cons]
    rw [h x (by simp)]
    have := aEvals_congr (xs := xs) (fun y hy => h y (by simp [hy]))
    simp only [aEvals] at this
    rw [this]
theorem aEvalO_congr {fr fr' : List AV} {x : Option Operand} (h : ∀ y, x = some y → aEval fr y = aEval fr' y) : aEvalO fr x = aEvalO fr' x := by
  cases x with
  | none => rfl
  | some y => simp only [aEvalO]; rw [h y rfl]
theorem parts_congr {fr fr' : List AV} : ∀ {ps : List (Nat × Operand)}, (∀ p ∈ ps, aEval fr p.2 = aEval fr' p.2) → (ps.mapM fun (p : Nat × Operand) => (aEval fr p.2).map (p.1, ·)) = ps.mapM fun (p : Nat × Operand) => (aEval fr' p.2).map (p.1, ·)
  | [], _ => rfl
  | p :: ps, h => by
    simp only [List.mapM_cons]
    rw [h p (by simp), parts_congr (fun q hq => h q (by simp [hq]))]
theorem aOp_congr {o : Oper} {fr fr' : List AV} {s : St} (h : ∀ x ∈ o.op.operands, aEval fr x = aEval fr' x) : aOp P call o fr s = aOp P call o fr' s := by
  obtain ⟨dst, op, type, pos, after, guard⟩ := o
  cases op <;> simp only [Op.operands] at h <;> simp only [aOp]
  case build t ps => rw [parts_congr (fr' := fr') (fun p hp => h p.2 (by simp; exact ⟨p.1, by simpa using hp⟩))]
  case buildSlice t n ps => rw [parts_congr (fr' := fr') (fun p hp => h p.2 (by simp; exact ⟨p.1, by simpa using hp⟩))]
  case makeFunc f first captured =>
    rw [aEvals_congr (fr' := fr') (xs := first.toList) (fun x hx => h x (by rw [Array.mem_append]; exact .inl (by simpa using hx))), aEvals_congr (fr' := fr') (xs := captured.toList) (fun x hx => h x (by rw [Array.mem_append]; exact .inr (by simpa using hx)))]
  case makeMap t r => cases r <;> rfl
  case slice t x lo hi mx =>
    rw [h x (by simp), aEvalO_congr (fr' := fr') (x := lo) (fun y hy => h y (by simp [hy])), aEvalO_congr (fr' := fr') (x := hi) (fun y hy => h y (by simp [hy])), aEvalO_congr (fr' := fr') (x := mx) (fun y hy => h y (by simp [hy]))]
  case next it isS =>
    cases isS with
    | false => rfl
    | true => simp only [aOp]; rw [h it (by simp)]
  case call c =>
    simp only [Call.operands] at h
    rw [aEvals_congr (fr' := fr') (xs := c.args.toList) (fun x hx => h x (by rw [Array.mem_append]; exact .inr (by simpa using hx)))]
    cases hc : c.callee with
    | value f => simp only [hc]; rw [h f (by simp [hc])]
    | _ => rfl
  case pick c x y =>
    rw [h c (by simp)]
    have h1 := h x (by simp)
    have h2 := h y (by simp)
    congr 1
    funext v
    cases v <;> try rfl
    rename_i t
    cases t <;> simp [h1, h2]
  all_goals first
    | rfl
    | (rw [h _ (by simp)]; done)
    | (rw [h _ (List.mem_cons_self ..)]; done)
    | (simp_all; done)
theorem turns_congr {prims : Prims} {op : Op} {fr fr' : List AV} (h : ∀ x ∈ op.operands, aEval fr x = aEval fr' x) : turns P prims fr op = turns P prims fr' op := by
  cases op <;> simp only [turns]
  case call c =>
    cases hc : c.callee with
    | value f =>
      simp only [hc]
      rw [h f (by simp [Op.operands, Call.operands, hc])]
    | builtin b => cases b <;> rfl
    | invoke r m => rfl
end
end Go.Ai
