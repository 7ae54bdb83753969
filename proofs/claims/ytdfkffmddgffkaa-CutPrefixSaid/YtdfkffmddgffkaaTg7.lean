/- More steps over rows that are written into, as the printed proofs take them. -/
import Derived.Test.YtdfkffmddgffkaaTg6
set_option linter.unusedVariables false
set_option linter.unusedSimpArgs false
open Go.Ai.Enc (enc is)
open Go.Ai.Res (res ris)
open Go.Ai.Args (args)
namespace Go.Ai
def mkz {α : Type} (by_ : Nat) (i : Int) (z : α) : Option (List α) := if 0 ≤ i ∧ roomy i.toNat by_ = true then some (List.replicate i.toNat z) else none
def mkzc {α : Type} (by_ : Nat) (i j : Int) (z : α) : Option (List α) := if 0 ≤ i ∧ i ≤ j ∧ roomy j.toNat by_ = true then some (List.replicate i.toNat z) else none
theorem mkz_some {α : Type} {by_ : Nat} {i : Int} {z : α} {r : List α} (h : mkz by_ i z = some r) : 0 ≤ i ∧ roomy i.toNat by_ = true ∧ r = List.replicate i.toNat z := by
  unfold mkz at h
  split at h
  · rename_i h0; injection h with h; exact ⟨h0.1, h0.2, h.symm⟩
  · cases h
theorem mkzc_some {α : Type} {by_ : Nat} {i j : Int} {z : α} {r : List α} (h : mkzc by_ i j z = some r) : (0 ≤ i ∧ i ≤ j) ∧ roomy j.toNat by_ = true ∧ r = List.replicate i.toNat z := by
  unfold mkzc at h
  split at h
  · rename_i h0; injection h with h; exact ⟨⟨h0.1, h0.2.1⟩, h0.2.2, h.symm⟩
  · cases h
theorem nth_lt {α : Type} {l : List α} {i : Int} {a : α} (h : nth l i = some a) : i.toNat < l.length := by
  obtain ⟨h0, h1, _⟩ := nth_some h; omega
section
variable {P : Program} {prims : Prims} {n : Nat} {b : Bool} {K : Fm → St → Prop} {φ : Fm} {s : St} {ops : Array Oper} {l : List Oper} {d : Tmp} {ty t t' e : TypeId} {pos : String} {af : Array Edge} {x y z : Operand} {u v w : AV}
variable {T : Type} [Enc T]
theorem isM.ap {x : AV} {en : En} {xs : List T} (h : isM x en xs) : isO x en xs ∨ (xs = [] ∧ is x ([] : List T) ∧ canOwn x = true ∧ noTok x = true ∧ en = .own .nils) := h
theorem TO_mk_z {k1 k2 : IntKind} {i : Int} {by_ : Nat} {zv : T} {r : List T} (hu : P.underlying t = some (.slice e)) (he : EF P e (Enc.k T) by_) (hz : ∃ a, zeroT P e = some a ∧ is a zv) (hx : fEval n φ x = some (.int k1 i)) (hy : fEval n φ y = some (.int k2 i)) (hr : mkz by_ i zv = some r)
    (k : ∀ z s', is z r → (∀ es, Hp s es → Hp s' es) → TO P prims n false ops l K (upd φ d z) s') : TO P prims n false ops (⟨some d, .makeSlice t x y, ty, pos, af, none⟩ :: l) K φ s := by
  obtain ⟨h0, h1, rfl⟩ := mkz_some hr
  exact TO_mk hu he hz hx hy h0 h1 k
theorem TO_mkm_z {k1 k2 : IntKind} {i : Int} {by_ : Nat} {zv : T} {r : List T} {es : List En} (hu : P.underlying t = some (.slice e)) (he : EF P e (Enc.k T) by_) (hz : ∃ a, zeroT P e = some a ∧ is a zv) (hx : fEval n φ x = some (.int k1 i)) (hy : fEval n φ y = some (.int k2 i)) (hr : mkz by_ i zv = some r) (hs : Hp s es)
    (k : ∀ z en s', isM z en r → Hp s' (en :: es) → TO P prims n b ops l K (upd φ d z) s') : TO P prims n b ops (⟨some d, .makeSlice t x y, ty, pos, af, none⟩ :: l) K φ s := by
  obtain ⟨h0, h1, rfl⟩ := mkz_some hr
  exact TO_mkm hu he hz hx hy ⟨h0, Int.le_refl _⟩ h1 hs k
theorem TO_mkm_zc {k1 k2 : IntKind} {i j : Int} {by_ : Nat} {zv : T} {r : List T} {es : List En} (hu : P.underlying t = some (.slice e)) (he : EF P e (Enc.k T) by_) (hz : ∃ a, zeroT P e = some a ∧ is a zv) (hx : fEval n φ x = some (.int k1 i)) (hy : fEval n φ y = some (.int k2 j)) (hr : mkzc by_ i j zv = some r) (hs : Hp s es)
    (k : ∀ z en s', isM z en r → Hp s' (en :: es) → TO P prims n b ops l K (upd φ d z) s') : TO P prims n b ops (⟨some d, .makeSlice t x y, ty, pos, af, none⟩ :: l) K φ s := by
  obtain ⟨h0, h1, rfl⟩ := mkzc_some hr
  exact TO_mkm hu he hz hx hy h0 h1 hs k
theorem TO_lnm {en : En} {xs : List T} {ts : Array TypeId} (hu : P.underlying t = some (.slice e)) (ht : ts[0]? = some t) (hx : fEval n φ x = some u) (h : isM u en xs) (k : TO P prims n b ops l K (upd φ d (enc (xs.length : Int))) s) : TO P prims n b ops (⟨some d, .call ⟨.builtin .len, #[x], ts⟩, ty, pos, af, none⟩ :: l) K φ s := by
  rcases h with ⟨m, cap, ys, sp, rfl, _⟩ | ⟨rfl, h, _⟩
  · exact TO_op rfl rfl (fun _ => op_len (fEval_eq hx) ht (by simp [aLen, hu, enc])) k
  · exact TO_ln hu ht hx h k
/-- An element is read. -/
theorem TO_ldm {en : En} {es : List En} {xs : List T} {i : Int} {a : T} {m0 : AV} (hk : Enc.k T = 0) (hg : aggT P t = some false) (hx : fEval n φ x = some u) (hp : MPtr u en i.toNat T) (h : isM m0 en xs) (ha : nth xs i = some a) (hs : Hp s (en :: es))
    (k : ∀ v, is v a → TO P prims n b ops l K (upd φ d v) s) : TO P prims n b ops (⟨some d, .load t x, ty, pos, af, none⟩ :: l) K φ s := by
  obtain ⟨h0, h1, h2⟩ := nth_some ha
  rcases h with ⟨m, cap, ys, sp, rfl, rfl, g1, g2, g3, g4⟩ | ⟨rfl, _⟩
  · obtain ⟨m', cs, e1, rfl⟩ := hp
    injection e1 with e1 e2; subst e1; subst e2
    obtain ⟨w, hw, hw2⟩ := g1.get h2
    have hgt : hget s.h m = some (.cells (mcells ys sp)) := hs.get rfl
    refine TO_op rfl rfl (fun _ => op_load (fEval_eq hx) (v := w) ?_) (k w hw2)
    have e1 : esz (Enc.k T) = 1 := by rw [hk]; rfl
    have hcells : ∀ (ys : List AV), (∀ v ∈ ys, okElem (Enc.k T) v) → ys.flatMap AV.cells = ys := by
      intro ys
      induction ys with
      | nil => intro _; rfl
      | cons y ys ih =>
        intro hy
        have h4 := (hy y (by simp)).2.2.1 hk
        have hc : y.cells = [y] := by cases y <;> first | rfl | simp [AV.one] at h4
        rw [List.flatMap_cons, hc, ih (fun v hv => hy v (by simp [hv]))]; rfl
    simp only [aLoad, hgt, aPart, hg, Option.bind_eq_bind, Option.bind_some, Bool.false_eq_true, if_false, e1, Nat.mul_one]
    rw [mcells, hcells ys g1.ok, List.getElem?_append_left (List.getElem?_eq_some_iff.1 hw).1]
    exact hw
  · simp at h1; omega
end
end Go.Ai
