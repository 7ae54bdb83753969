/- What an abstract value stands for in memory, and what keeps it. -/
import Derived.Test.YtdfkffmddgffkaaAi1
import Derived.Laws.Cells
import Derived.Laws.World
import Derived.Laws.Rows
set_option linter.unusedVariables false
set_option linter.unusedSimpArgs false
namespace Go.Ai

abbrev Reg := Nat → Nat → Prop
abbrev Pl := Nat → Nat × Nat

/-- A row of cells, none of which may turn. -/
def Row (w : World) (U : Reg) (a : Addr) (cs : List Value) : Prop :=
  ∀ j u, cs[j]? = some u → w.cell? (a.add j) = some u ∧ ¬ U a.block (a.off + j)
def okElem (k : Nat) (x : AV) : Prop :=
  x.cells.length = esz k ∧ (∀ y ∈ x.cells, y.one = true) ∧ (k = 0 → x.one = true) ∧ (k ≠ 0 → x.one = false)
/-- What is known of a slice's room behind its end. -/
def CapOk (w : World) (ρ : Pl) (c : Nat) (cp : Cap) (a : Addr) (z len cap : Nat) : Prop :=
  match cp with
  | .tight => cap = len
  | .unk => True
  | .tok t => t < c ∧ a.block = (ρ t).1 ∧ a.spot = none ∧ a.off + len * z = (ρ t).2 ∧ ∀ j, j < cap * z → (w.cell? ⟨a.block, a.off + j, none⟩).isSome = true

section
variable (w : World) (ρ : Pl) (U : Reg) (c : Nat)
mutual
def Rel : AV → Value → Prop
  | .int k n, v => v = .int k n
  | .bool b, v => v = .bool b
  | .str l, v => v = .string ⟨l.toArray⟩
  | .nilp, v => v = .pointer none
  | .ptr n off, v => n < c ∧ v = .pointer (some ⟨(ρ n).1, off, none⟩)
  | .rptr k xs i off, v => i < xs.length ∧ off < esz k ∧ ∃ a : Addr, v = .pointer (some (a.add (i * esz k + off))) ∧ ∃ cs, RelC k xs cs ∧ Row w U a cs
  | .nils, v => v = .slice none 0 0
  | .emp z, v => ∃ (a : Option Addr) (cap : Nat), v = .slice a 0 cap ∧ (a = none → cap = 0) ∧ (z = true → cap = 0)
  | .vec k xs cp, v => ∃ (a : Addr) (cap : Nat) (cs : List Value), v = .slice (some a) xs.length cap ∧ xs.length ≤ cap ∧ RelC k xs cs ∧ Row w U a cs ∧ CapOk w ρ c cp a (esz k) xs.length cap
  | .hs _ n off len cap, v => n < c ∧ v = .slice (some ⟨(ρ n).1, off, none⟩) len cap
  | .agg xs, v => ∃ vs : List Value, v = .agg vs.toArray ∧ RelL xs vs
  | .tup xs, v => ∃ vs : List Value, v = .tuple vs.toArray ∧ RelL xs vs
  | .ifc t x, v => ∃ u, v = .iface t u ∧ Rel x u
  | .nifc, v => v = .nilIface
  | .fn f xs ys, v => ∃ us vs : List Value, v = .func (.func f) us.toArray vs.toArray ∧ RelL xs us ∧ RelL ys vs
  | .nilfn, v => v = .nilFunc
  | .mp n, v => n < c ∧ v = .map (some (ρ n).1)
  | .nilmp, v => v = .map none
  | .gptr g off, v => v = .pointer (some ⟨g, off, none⟩)
def RelL : List AV → List Value → Prop
  | [], vs => vs = []
  | x :: xs, vs => ∃ v us, vs = v :: us ∧ Rel x v ∧ RelL xs us
def RelC (k : Nat) : List AV → List Value → Prop
  | [], cs => cs = []
  | x :: xs, cs => ∃ v us, cs = v.cells.toList ++ us ∧ okElem k x ∧ Rel x v ∧ RelC k xs us
end
end

/-- What a step may turn: cells in U; what was there stays there. -/
structure Fr (U : Reg) (w w' : World) : Prop where
  os : w'.os = w.os
  tape : w'.tape = w.tape
  output : w'.output = w.output
  size : w.heap.size ≤ w'.heap.size
  blk : ∀ b, b < w.heap.size → (∀ j, ¬ U b j) → w'.heap[b]? = w.heap[b]?
  cell : ∀ (a : Addr) u, w.cell? a = some u → ¬ U a.block a.off → w'.cell? a = some u
  keep : ∀ a : Addr, (w.cell? a).isSome = true → (w'.cell? a).isSome = true

theorem Fr.refl (U : Reg) (w : World) : Fr U w w := ⟨rfl, rfl, rfl, Nat.le_refl _, fun _ _ _ => rfl, fun _ _ h _ => h, fun _ h => h⟩
theorem Fr.trans {U U' : Reg} {w w1 w2 : World} (h : Fr U w w1) (k : Fr U' w1 w2) (hU : ∀ b j, b < w.heap.size → U' b j → U b j) : Fr U w w2 :=
  ⟨k.os.trans h.os, k.tape.trans h.tape, k.output.trans h.output, Nat.le_trans h.size k.size,
   fun b hb hn => (k.blk b (Nat.lt_of_lt_of_le hb h.size) (fun j hj => hn j (hU b j hb hj))).trans (h.blk b hb hn),
   fun a u hc hn => k.cell a u (h.cell a u hc hn) (fun hj => hn (hU _ _ (World.block_lt_of_cell? w a hc) hj)),
   fun a ha => k.keep a (h.keep a ha)⟩
theorem Fr.weaken {U U' : Reg} {w w' : World} (h : Fr U w w') (hU : ∀ b j, U b j → U' b j) : Fr U' w w' :=
  ⟨h.os, h.tape, h.output, h.size, fun b hb hn => h.blk b hb (fun j hj => hn j (hU b j hj)), fun a u hc hn => h.cell a u hc (fun hj => hn (hU _ _ hj)), h.keep⟩

/-- What carries a value's meaning over. -/
structure Mono (w : World) (ρ : Pl) (U : Reg) (c : Nat) (w' : World) (ρ' : Pl) (U' : Reg) (c' : Nat) : Prop where
  le : c ≤ c'
  pl : ∀ n, n < c → ρ' n = ρ n
  cell : ∀ (a : Addr) u, w.cell? a = some u → ¬ U a.block a.off → w'.cell? a = some u
  keep : ∀ a : Addr, (w.cell? a).isSome = true → (w'.cell? a).isSome = true
  reg : ∀ b j, b < w.heap.size → U' b j → U b j

section
variable {w w' : World} {ρ ρ' : Pl} {U U' : Reg} {c c' : Nat}
theorem add_block (a : Addr) (j : Nat) : (a.add j).block = a.block := by unfold Addr.add; split <;> rfl
theorem add_off (a : Addr) (j : Nat) : (a.add j).off = a.off + j := by unfold Addr.add; split <;> simp_all
theorem add_add_ (a : Addr) (i j : Nat) : (a.add i).add j = a.add (i + j) := by
  unfold Addr.add
  by_cases hj : j = 0
  · subst hj; simp
  · by_cases hi : i = 0
    · subst hi; simp
    · simp [hi, hj]; omega
theorem add_lit (b o j : Nat) : (⟨b, o, none⟩ : Addr).add j = ⟨b, o + j, none⟩ := by unfold Addr.add; split <;> simp_all

theorem Row.mono {a : Addr} {cs : List Value} (h : Row w U a cs) (m : Mono w ρ U c w' ρ' U' c') : Row w' U' a cs := fun j u hj => by
  obtain ⟨h1, h2⟩ := h j u hj
  refine ⟨m.cell _ _ h1 (by rw [add_block, add_off]; exact h2), fun hU => h2 (m.reg _ _ ?_ hU)⟩
  have := World.block_lt_of_cell? w _ h1
  rwa [add_block] at this
theorem CapOk.mono {cp : Cap} {a : Addr} {z len cap : Nat} (h : CapOk w ρ c cp a z len cap) (m : Mono w ρ U c w' ρ' U' c') : CapOk w' ρ' c' cp a z len cap := by
  cases cp with
  | tight => exact h
  | unk => trivial
  | tok t =>
    obtain ⟨h1, h2, h3, h4, h5⟩ := h
    have e := m.pl t h1
    exact ⟨Nat.lt_of_lt_of_le h1 m.le, by rw [e]; exact h2, h3, by rw [e]; exact h4, fun j hj => m.keep _ (h5 j hj)⟩

mutual
theorem Rel.mono (m : Mono w ρ U c w' ρ' U' c') : ∀ (x : AV) (v : Value), Rel w ρ U c x v → Rel w' ρ' U' c' x v
  | .int _ _, _, h => h
  | .bool _, _, h => h
  | .str _, _, h => h
  | .nilp, _, h => h
  | .ptr n off, v, h => by
    simp only [Rel] at h ⊢
    exact ⟨Nat.lt_of_lt_of_le h.1 m.le, by rw [m.pl n h.1]; exact h.2⟩
  | .rptr k xs i off, v, h => by
    simp only [Rel] at h ⊢
    obtain ⟨h1, h2, a, h3, cs, h4, h5⟩ := h
    exact ⟨h1, h2, a, h3, cs, RelC.mono m k xs cs h4, h5.mono m⟩
  | .nils, _, h => h
  | .emp _, _, h => h
  | .gptr _ _, _, h => h
  | .vec k xs cp, v, h => by
    simp only [Rel] at h ⊢
    obtain ⟨a, cap, cs, h1, h2, h3, h4, h5⟩ := h
    exact ⟨a, cap, cs, h1, h2, RelC.mono m k xs cs h3, h4.mono m, h5.mono m⟩
  | .hs k n off len cap, v, h => by
    simp only [Rel] at h ⊢
    exact ⟨Nat.lt_of_lt_of_le h.1 m.le, by rw [m.pl n h.1]; exact h.2⟩
  | .agg xs, v, h => by
    simp only [Rel] at h ⊢
    obtain ⟨vs, h1, h2⟩ := h
    exact ⟨vs, h1, RelL.mono m xs vs h2⟩
  | .tup xs, v, h => by
    simp only [Rel] at h ⊢
    obtain ⟨vs, h1, h2⟩ := h
    exact ⟨vs, h1, RelL.mono m xs vs h2⟩
  | .ifc t x, v, h => by
    simp only [Rel] at h ⊢
    obtain ⟨u, h1, h2⟩ := h
    exact ⟨u, h1, Rel.mono m x u h2⟩
  | .nifc, _, h => h
  | .fn f xs ys, v, h => by
    simp only [Rel] at h ⊢
    obtain ⟨us, vs, h1, h2, h3⟩ := h
    exact ⟨us, vs, h1, RelL.mono m xs us h2, RelL.mono m ys vs h3⟩
  | .nilfn, _, h => h
  | .mp n, v, h => by
    simp only [Rel] at h ⊢
    exact ⟨Nat.lt_of_lt_of_le h.1 m.le, by rw [m.pl n h.1]; exact h.2⟩
  | .nilmp, _, h => h
theorem RelL.mono (m : Mono w ρ U c w' ρ' U' c') : ∀ (xs : List AV) (vs : List Value), RelL w ρ U c xs vs → RelL w' ρ' U' c' xs vs
  | [], _, h => h
  | x :: xs, vs, h => by
    simp only [RelL] at h ⊢
    obtain ⟨v, us, h1, h2, h3⟩ := h
    exact ⟨v, us, h1, Rel.mono m x v h2, RelL.mono m xs us h3⟩
theorem RelC.mono (m : Mono w ρ U c w' ρ' U' c') (k : Nat) : ∀ (xs : List AV) (cs : List Value), RelC w ρ U c k xs cs → RelC w' ρ' U' c' k xs cs
  | [], _, h => h
  | x :: xs, cs, h => by
    simp only [RelC] at h ⊢
    obtain ⟨v, us, h1, h2, h3, h4⟩ := h
    exact ⟨v, us, h1, h2, Rel.mono m x v h3, RelC.mono m k xs us h4⟩
end

/-! ### Lists -/
theorem RelL.length : ∀ {xs : List AV} {vs : List Value}, RelL w ρ U c xs vs → vs.length = xs.length
  | [], _, h => by simp only [RelL] at h; simp [h]
  | x :: xs, vs, h => by
    simp only [RelL] at h
    obtain ⟨v, us, rfl, _, h3⟩ := h
    simp [RelL.length h3]
theorem RelL.get : ∀ {xs : List AV} {vs : List Value}, RelL w ρ U c xs vs → ∀ {i : Nat} {x : AV}, xs[i]? = some x → ∃ v, vs[i]? = some v ∧ Rel w ρ U c x v
  | [], _, _, i, x, hx => by simp at hx
  | y :: xs, vs, h, i, x, hx => by
    simp only [RelL] at h
    obtain ⟨v, us, rfl, h2, h3⟩ := h
    cases i with
    | zero => simp at hx; subst hx; exact ⟨v, by simp, h2⟩
    | succ i => simp only [List.getElem?_cons_succ] at hx ⊢; exact RelL.get h3 hx
theorem RelL.get' : ∀ {xs : List AV} {vs : List Value}, RelL w ρ U c xs vs → ∀ {i : Nat} {v : Value}, vs[i]? = some v → ∃ x, xs[i]? = some x ∧ Rel w ρ U c x v := by
  intro xs vs h i v hv
  have hl := h.length
  have hi : i < xs.length := by rw [← hl]; exact (List.getElem?_eq_some_iff.1 hv).1
  obtain ⟨v', hv', hr⟩ := h.get (i := i) (x := xs[i]) (List.getElem?_eq_getElem hi)
  rw [hv] at hv'
  injection hv' with e
  subst e
  exact ⟨xs[i], List.getElem?_eq_getElem hi, hr⟩
theorem RelL.of : ∀ {xs : List AV} {vs : List Value}, vs.length = xs.length → (∀ (i : Nat) (x : AV) (v : Value), xs[i]? = some x → vs[i]? = some v → Rel w ρ U c x v) → RelL w ρ U c xs vs
  | [], vs, hl, _ => by simp only [RelL]; exact List.eq_nil_of_length_eq_zero (by simpa using hl)
  | x :: xs, [], hl, _ => by simp at hl
  | x :: xs, v :: vs, hl, h => by
    simp only [RelL]
    exact ⟨v, vs, rfl, h 0 x v (by simp) (by simp), RelL.of (by simpa using hl) (fun i x' v' hx hv => h (i + 1) x' v' (by simpa using hx) (by simpa using hv))⟩
theorem RelL.append {xs ys : List AV} {us vs : List Value} (h : RelL w ρ U c xs us) (k : RelL w ρ U c ys vs) : RelL w ρ U c (xs ++ ys) (us ++ vs) := by
  induction xs generalizing us with
  | nil => simp only [RelL] at h; subst h; simpa using k
  | cons x xs ih =>
    simp only [RelL] at h
    obtain ⟨v, us', rfl, h2, h3⟩ := h
    simp only [List.cons_append, RelL]
    exact ⟨v, us' ++ vs, rfl, h2, ih h3⟩
theorem RelL.take {xs : List AV} {us : List Value} (h : RelL w ρ U c xs us) (n : Nat) : RelL w ρ U c (xs.take n) (us.take n) := by
  refine RelL.of (by simp [h.length]) fun i x v hx hv => ?_
  rw [List.getElem?_take] at hx hv
  split at hx
  · rw [if_pos ‹_›] at hv
    obtain ⟨v', hv', hr⟩ := h.get hx
    rw [hv] at hv'; injection hv' with e; subst e; exact hr
  · simp at hx
theorem RelL.drop {xs : List AV} {us : List Value} (h : RelL w ρ U c xs us) (n : Nat) : RelL w ρ U c (xs.drop n) (us.drop n) := by
  refine RelL.of (by simp [h.length]) fun i x v hx hv => ?_
  rw [List.getElem?_drop] at hx hv
  obtain ⟨v', hv', hr⟩ := h.get hx
  rw [hv] at hv'; injection hv' with e; subst e; exact hr
theorem RelL.set {xs : List AV} {us : List Value} (h : RelL w ρ U c xs us) (n : Nat) {x : AV} {v : Value} (hr : Rel w ρ U c x v) : RelL w ρ U c (xs.set n x) (us.set n v) := by
  refine RelL.of (by simp [h.length]) fun i y u hy hu => ?_
  rw [List.getElem?_set] at hy hu
  split at hy
  · rename_i hni
    subst hni
    rw [if_pos rfl] at hu
    split at hy
    · rw [if_pos (by rw [h.length]; assumption)] at hu
      simp at hy hu; subst hy; subst hu; exact hr
    · simp at hy
  · rw [if_neg ‹_›] at hu
    obtain ⟨v', hv', hr'⟩ := h.get hy
    rw [hu] at hv'; injection hv' with e; subst e; exact hr'
theorem RelL.getD {xs : List AV} {us : List Value} (h : RelL w ρ U c xs us) (n : Nat) : Rel w ρ U c (xs.getD n .undef) (us.getD n undef) := by
  rw [List.getD_eq_getElem?_getD, List.getD_eq_getElem?_getD]
  cases hx : xs[n]? with
  | some x =>
    obtain ⟨v, hv, hr⟩ := h.get hx
    simpa [hv] using hr
  | none =>
    have : us[n]? = none := by
      rw [List.getElem?_eq_none_iff] at hx ⊢
      rw [h.length]; exact hx
    simp [this, Rel, RelL, undef]

/-! ### Cells of a value -/
theorem Rel.one {x : AV} {v : Value} (h : Rel w ρ U c x v) (ho : x.one = true) : v.oneCell' = true := by
  cases x <;> simp only [Rel, AV.one] at h ho <;> first
    | (subst h; rfl)
    | (obtain ⟨_, rfl⟩ := h; rfl)
    | (obtain ⟨_, _, _, rfl, _⟩ := h; rfl)
    | (obtain ⟨_, rfl, _⟩ := h; rfl)
    | (obtain ⟨_, _, rfl, _⟩ := h; rfl)
    | (simp at ho)
theorem Rel.cells {x : AV} {v : Value} (h : Rel w ρ U c x v) : RelL w ρ U c x.cells v.cells.toList := by
  by_cases ha : ∃ xs, x = .agg xs
  · obtain ⟨xs, rfl⟩ := ha
    simp only [Rel] at h
    obtain ⟨vs, rfl, hl⟩ := h
    simpa [AV.cells, Value.cells] using hl
  · have e1 : x.cells = [x] := by cases x <;> simp_all [AV.cells]
    have e2 : v.cells.toList = [v] := by
      cases v with
      | agg vs =>
        exfalso
        cases x <;> simp only [Rel] at h <;> simp_all
      | _ => rfl
    rw [e1, e2]
    simp only [RelL]
    exact ⟨v, [], rfl, h, rfl⟩
theorem Rel.cells_size {x : AV} {v : Value} (h : Rel w ρ U c x v) : v.cells.size = x.cells.length := by
  have := h.cells.length
  simpa using this
theorem RelL.one {xs : List AV} {vs : List Value} (h : RelL w ρ U c xs vs) (ho : ∀ x ∈ xs, x.one = true) : ∀ v ∈ vs, v.oneCell' = true := by
  intro v hv
  obtain ⟨i, hi⟩ := List.mem_iff_getElem?.1 hv
  obtain ⟨x, hx, hr⟩ := h.get' hi
  exact hr.one (ho x (List.mem_iff_getElem?.2 ⟨i, hx⟩))

theorem RelC.length {k : Nat} : ∀ {xs : List AV} {cs : List Value}, RelC w ρ U c k xs cs → cs.length = xs.length * esz k
  | [], _, h => by simp only [RelC] at h; simp [h]
  | x :: xs, cs, h => by
    simp only [RelC] at h
    obtain ⟨v, us, rfl, h1, h2, h3⟩ := h
    have := RelC.length h3
    have h4 := h2.cells_size
    rw [h1.1] at h4
    simp only [List.length_append, Array.length_toList, List.length_cons, this, h4, Nat.succ_mul]
    omega
theorem esz_pos (k : Nat) : 0 < esz k := by unfold esz; split <;> omega
/-- Element i, and its cells. -/
theorem RelC.get {k : Nat} : ∀ {xs : List AV} {cs : List Value}, RelC w ρ U c k xs cs → ∀ {i : Nat} {x : AV}, xs[i]? = some x →
    ∃ v, okElem k x ∧ Rel w ρ U c x v ∧ ∀ j u, v.cells[j]? = some u → cs[i * esz k + j]? = some u
  | [], _, _, i, x, hx => by simp at hx
  | y :: xs, cs, h, i, x, hx => by
    simp only [RelC] at h
    obtain ⟨v, us, rfl, h1, h2, h3⟩ := h
    have hs : v.cells.toList.length = esz k := by have := h2.cells_size; rw [h1.1] at this; simpa using this
    cases i with
    | zero =>
      simp at hx; subst hx
      refine ⟨v, h1, h2, fun j u hj => ?_⟩
      rw [Nat.zero_mul, Nat.zero_add, List.getElem?_append_left]
      · simpa using hj
      · simpa using (Array.getElem?_eq_some_iff.1 hj).1
    | succ i =>
      simp only [List.getElem?_cons_succ] at hx
      obtain ⟨v', h4, h5, h6⟩ := RelC.get h3 hx
      refine ⟨v', h4, h5, fun j u hj => ?_⟩
      rw [List.getElem?_append_right (by rw [hs, Nat.succ_mul]; omega), hs, show (i + 1) * esz k + j - esz k = i * esz k + j by rw [Nat.succ_mul]; omega]
      exact h6 j u hj
theorem RelC.append {k : Nat} {xs ys : List AV} {us vs : List Value} (h : RelC w ρ U c k xs us) (g : RelC w ρ U c k ys vs) : RelC w ρ U c k (xs ++ ys) (us ++ vs) := by
  induction xs generalizing us with
  | nil => simp only [RelC] at h; subst h; simpa using g
  | cons x xs ih =>
    simp only [RelC] at h
    obtain ⟨v, us', rfl, h1, h2, h3⟩ := h
    simp only [List.cons_append, RelC]
    exact ⟨v, us' ++ vs, by simp, h1, h2, ih h3⟩
theorem RelC.take {k : Nat} : ∀ {xs : List AV} {cs : List Value}, RelC w ρ U c k xs cs → ∀ n, RelC w ρ U c k (xs.take n) (cs.take (n * esz k))
  | [], _, h, n => by simp only [RelC] at h; subst h; simp [RelC]
  | x :: xs, cs, h, 0 => by simp [RelC]
  | x :: xs, cs, h, n + 1 => by
    simp only [RelC] at h
    obtain ⟨v, us, rfl, h1, h2, h3⟩ := h
    have hs : v.cells.toList.length = esz k := by have := h2.cells_size; rw [h1.1] at this; simpa using this
    simp only [List.take_succ_cons, RelC]
    refine ⟨v, us.take (n * esz k), ?_, h1, h2, RelC.take h3 n⟩
    rw [List.take_append, hs, List.take_of_length_le (by rw [hs, Nat.succ_mul]; omega), show (n + 1) * esz k - esz k = n * esz k by rw [Nat.succ_mul]; omega]
theorem RelC.drop {k : Nat} : ∀ {xs : List AV} {cs : List Value}, RelC w ρ U c k xs cs → ∀ n, RelC w ρ U c k (xs.drop n) (cs.drop (n * esz k))
  | [], _, h, n => by simp only [RelC] at h; subst h; simp [RelC]
  | x :: xs, cs, h, 0 => by simpa using h
  | x :: xs, cs, h, n + 1 => by
    simp only [RelC] at h
    obtain ⟨v, us, rfl, h1, h2, h3⟩ := h
    have hs : v.cells.toList.length = esz k := by have := h2.cells_size; rw [h1.1] at this; simpa using this
    rw [List.drop_succ_cons, List.drop_append, hs, List.drop_of_length_le (i := (n + 1) * esz k) (l := v.cells.toList) (by rw [hs, Nat.succ_mul]; omega), show (n + 1) * esz k - esz k = n * esz k by rw [Nat.succ_mul]; omega]
    simpa using RelC.drop h3 n
theorem Row.take {a : Addr} {cs : List Value} (h : Row w U a cs) (n : Nat) : Row w U a (cs.take n) := fun j u hj => by
  rw [List.getElem?_take] at hj
  split at hj
  · exact h j u hj
  · simp at hj
theorem Row.drop {a : Addr} {cs : List Value} (h : Row w U a cs) (n : Nat) : Row w U (a.add n) (cs.drop n) := fun j u hj => by
  rw [List.getElem?_drop] at hj
  obtain ⟨h1, h2⟩ := h _ u hj
  rw [add_add_, add_block, add_off, Nat.add_assoc]
  exact ⟨h1, h2⟩
theorem Row.nil (a : Addr) : Row w U a [] := fun j u hj => by simp at hj
/-- The cells of a row are one-cell values. -/
theorem RelC.one {k : Nat} : ∀ {xs : List AV} {cs : List Value}, RelC w ρ U c k xs cs → ∀ v ∈ cs, v.oneCell' = true
  | [], _, h => by simp only [RelC] at h; subst h; simp
  | x :: xs, cs, h => by
    simp only [RelC] at h
    obtain ⟨v, us, rfl, h1, h2, h3⟩ := h
    intro u hu
    rcases List.mem_append.1 hu with hu | hu
    · exact h2.cells.one h1.2.1 u hu
    · exact RelC.one h3 u hu
theorem RelC.cells {k : Nat} : ∀ {xs : List AV} {cs : List Value}, RelC w ρ U c k xs cs → RelL w ρ U c (xs.flatMap AV.cells) cs
  | [], _, h => by simp only [RelC] at h; subst h; simp [RelL]
  | x :: xs, cs, h => by
    simp only [RelC] at h
    obtain ⟨v, us, rfl, h1, h2, h3⟩ := h
    simp only [List.flatMap_cons]
    exact h2.cells.append (RelC.cells h3)
theorem RelC.oks {k : Nat} : ∀ {xs : List AV} {cs : List Value}, RelC w ρ U c k xs cs → ∀ x ∈ xs, okElem k x
  | [], _, _ => by simp
  | x :: xs, cs, h => by
    simp only [RelC] at h
    obtain ⟨v, us, rfl, h1, h2, h3⟩ := h
    intro y hy
    rcases List.mem_cons.1 hy with rfl | hy
    · exact h1
    · exact RelC.oks h3 y hy
end
end Go.Ai
