/- Plain laws on typed loops. -/
import Derived.Test.YtdfkffmddgffkaaTg7
set_option linter.unusedVariables false
set_option linter.unusedSimpArgs false
open Go.Ai.Enc (enc is)
open Go.Ai.Res (res ris)
open Go.Ai.Args (args)
namespace Go.Ai
theorem i64_ok (n : Int) (h : -9223372036854775808 ≤ n ∧ n ≤ 9223372036854775807) : IntKind.i64.wrap n = n := IntWalk.i64_in n h
theorem nth_nat {α : Type} (l : List α) (i : Nat) : nth l (i : Int) = l[i]? := by simp [nth]
theorem nth_get {α : Type} {l : List α} {i : Nat} (h : i < l.length) : nth l (i : Int) = some l[i] := by rw [nth_nat, List.getElem?_eq_getElem h]
theorem sub_nat {α : Type} (l : List α) (a b : Nat) (h : a ≤ b) (h' : b ≤ l.length) : sub l (a : Int) (b : Int) = some ((l.take b).drop a) := by
  unfold sub; rw [if_pos (by omega)]; simp
theorem app_ok {α : Type} {z : Nat} (l m : List α) (h : l.length + m.length ≤ 137438953472) (h' : (l.length + m.length) * z ≤ 137438953472) : app z l m = some (l ++ m) := by
  unfold app roomy; rw [if_pos (by simp [h, h'])]
theorem mkz_ok {α : Type} {z : α} {by_ n : Nat} (h : n ≤ 137438953472) (h' : n * by_ ≤ 137438953472) : mkz by_ (n : Int) z = some (List.replicate n z) := by
  unfold mkz roomy; rw [if_pos (by simp [h, h'])]; simp
/-- A loop that looks at each number till one is not as it should be. -/
theorem loop_all {ρ : Type} {body : Int → Option (Int ⊕ (Unit ⊕ ρ))} (n : Nat) (p : Nat → Bool) (r : ρ) (h : ∀ i : Nat, i < n → body i = if p i then some (.inl ((i + 1 : Nat) : Int)) else some (.inr (.inr r))) (hn : body n = some (.inr (.inl ()))) :
    ∀ i : Nat, i ≤ n → loop body i = some (if (List.range' i (n - i)).all p then .inl () else .inr r) := by
  intro i hi
  obtain ⟨d, rfl⟩ : ∃ d, n = i + d := ⟨n - i, by omega⟩
  clear hi
  induction d generalizing i with
  | zero => simp only [Nat.add_zero, Nat.sub_self, List.range'_zero, List.all_nil, if_true]; exact loop_done hn
  | succ d ih =>
    have e : i + (d + 1) - i = d + 1 := by omega
    rw [e, List.range'_succ, List.all_cons]
    have h1 := h i (by omega)
    by_cases hp : p i = true
    · rw [if_pos hp] at h1
      rw [loop_next h1, show i + (d + 1) = (i + 1) + d by omega] at *
      have := ih (i + 1) (fun j hj => h j (by omega)) hn
      rw [show i + 1 + d - (i + 1) = d by omega] at this
      rw [this, hp, Bool.true_and]
    · rw [if_neg hp] at h1
      have hp' : p i = false := by simpa using hp
      rw [loop_done h1, hp', Bool.false_and]; rfl
theorem range_all {n : Nat} {p : Nat → Bool} : (List.range' 0 n).all p = true ↔ ∀ i, i < n → p i = true := by
  simp [List.all_eq_true, List.mem_range'_1]
/-- A loop over a row's numbers that carries a value on. -/
theorem loop_fold {σ ρ : Type} {body : σ × Int → Option ((σ × Int) ⊕ ρ)} (f : Nat → σ → σ) (ok : Nat → σ → Prop) (out : σ → ρ) (d : Nat) :
    ∀ (i : Nat) (s : σ), ok i s → (∀ (j : Nat) (s : σ), j < i + d → ok j s → body (s, (j : Int)) = some (.inl (f j s, ((j + 1 : Nat) : Int))) ∧ ok (j + 1) (f j s)) → (∀ s, ok (i + d) s → body (s, ((i + d : Nat) : Int)) = some (.inr (out s))) → loop body (s, (i : Int)) = some (out ((List.range' i d).foldl (fun s i => f i s) s)) := by
  induction d with
  | zero => intro i s ho h hn; exact loop_done (hn s ho)
  | succ d ih =>
    intro i s ho h hn
    rw [List.range'_succ, List.foldl_cons]
    obtain ⟨h1, h2⟩ := h i s (by omega) ho
    rw [loop_next h1]
    have e : i + (d + 1) = (i + 1) + d := by omega
    exact ih (i + 1) (f i s) h2 (fun j s hj => h j s (by omega)) (by rw [← e]; exact hn)
end Go.Ai
