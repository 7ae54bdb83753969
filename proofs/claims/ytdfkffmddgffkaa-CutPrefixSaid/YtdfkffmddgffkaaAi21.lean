/- Rows of any elements that the call itself grows. -/
import Derived.Test.YtdfkffmddgffkaaAi20
set_option linter.unusedVariables false
set_option linter.unusedSimpArgs false
namespace Go.Ai
section
variable {P : Program} {t t' e : TypeId} {k : Nat} {x a : AV} {xs ys : List AV} {s : St}
def OwnL (k : Nat) (x : AV) (xs : List AV) (s : St) : Prop := (x = .nils ∧ xs = []) ∨ ∃ n, x = .vec k xs (.tok n) ∧ hget s.h n = some .tok
theorem OwnL.nil : OwnL k .nils [] s := .inl ⟨rfl, rfl⟩
theorem ownL_append (ha : OwnL k a xs s) (hsrc : source k x s = some ys) {ts : Array TypeId} {i : TypeInfo} {z : AV} (h0 : ts[0]? = some t) (h1 : ts[1]? = some t') (hu : P.underlying t = some (.slice e)) (hu' : P.underlying t' = some (.slice e))
    (hs : shapeT P e = some k) (hi : P.info? e = some i) (hz : zeroT P e = some z) (hzl : z.cells.length = esz k) (hr : roomy (xs.length + ys.length) i.bytes = true) :
    ∃ y s', aAppend P ts a x s = some (y, s') ∧ OwnL k y (xs ++ ys) s' := by
  have hzl' : ¬ z.cells.length ≠ esz k := by rw [hzl]; simp
  unfold aAppend
  simp only [h0, h1, hu, hu', hs, hi, hz, hsrc, Option.bind_eq_bind, Option.bind_some, if_neg hzl']
  rcases ha with ⟨rfl, rfl⟩ | ⟨n, rfl, hn⟩
  · cases ys with
    | nil => exact ⟨.nils, s, by simp, .inl ⟨rfl, rfl⟩⟩
    | cons q m =>
      refine ⟨_, _, by simp only [List.isEmpty_cons, Bool.false_eq_true, if_false, aGrow]; rw [if_pos (by simpa using hr)], .inr ⟨s.c, by simp, by simp [St.new, hget]⟩⟩
  · cases ys with
    | nil => exact ⟨.vec k xs (.tok n), s, by simp, .inr ⟨n, by simp, hn⟩⟩
    | cons q m =>
      refine ⟨_, _, by simp only [ne_eq, not_true_eq_false, if_false, List.isEmpty_cons, Bool.false_eq_true, hn, aGrow]; rw [if_pos (by simpa using hr)], .inr ⟨(s.del n).c, by simp, by simp [St.new, hget]⟩⟩
theorem vec_source {c : Cap} : source k (.vec k xs c) s = some xs := by simp [source, elems]
/-- A literal of one element of any kind that takes one cell. -/
theorem build1v {v z : AV} {i : TypeInfo} (hu : P.underlying t = some (.slice e)) (hs : shapeT P e = some 0) (hi : P.info? e = some i) (hz : zeroT P e = some z) (hzc : z.cells = [z]) (hsz : i.size = 1) (hv : v.cells = [v]) (hv1 : v.one = true) : aBuildSlice P t 1 [(0, v)] = some (.vec 0 [v] .tight) := by
  simp [aBuildSlice, hu, hs, hi, hz, hzc, hsz, esz, aFill, splice, hv, hv1, chunk]
end
end Go.Ai
