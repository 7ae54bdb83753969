/- The plain facts about the cutting. -/
import Derived.Test.YtdfkffmddgffkaaP0
import Derived.Test.YtdfkffmddgffkaaS2
set_option linter.unusedVariables false
set_option linter.unusedSimpArgs false
open Go.Ai.Enc (enc is)
open Go.Ai.Res (res ris)
open Go.Ai.Args (args)
namespace Go.Ai.Rab
theorem win_zero (n : Nat) : win (List.replicate n 0) = 0 := by
  unfold win
  induction n with
  | zero => rfl
  | succ n ih =>
    rw [List.replicate_succ, List.foldl_cons]
    have : pushN 0 0 = 0 := by show L (0 <<< 8 ||| 0) = 0; rw [L_small _ (by decide)]; rfl
    rw [this]; exact ih
theorem seek_same (l m : List Int) : ∀ k n, (∀ i, n ≤ i → i ≤ seek l k n → winAt l i = winAt m i) → seek m k n = seek l k n
  | 0, n, _ => rfl
  | k + 1, n, h => by
    have h0 := h n (Nat.le_refl _) (seek_bd l (k + 1) n).1
    simp only [seek] at h ⊢
    rw [← h0]
    split
    · rfl
    · rename_i c
      rw [if_neg c] at h
      exact seek_same l m k (n + 1) fun i h1 h2 => h i (by omega) h2
theorem seek_more (l : List Int) : ∀ k k' n, k ≤ k' → seek l k n < n + k → seek l k' n = seek l k n
  | 0, k', n, _, h => by simp [seek] at h
  | k + 1, 0, n, h, _ => by omega
  | k + 1, k' + 1, n, h, h' => by
    simp only [seek] at h' ⊢
    split
    · rfl
    · rename_i c
      rw [if_neg c] at h'
      exact seek_more l k k' (n + 1) (by omega) (by omega)
theorem winAt_take {l m : List Int} {n k : Nat} (h : l.take k = m.take k) (hn : n ≤ k) : winAt l n = winAt m n := by
  unfold winAt
  have : l.take n = m.take n := by rw [← Nat.min_eq_left hn, ← List.take_take, h, List.take_take]
  rw [this]
def fst (b : List UInt8) : Nat := firstN (ints b)
theorem fst_bd (b : List UInt8) : fst b ≤ b.length ∧ (b ≠ [] → 0 < fst b) ∧ fst b ≤ 2048 ∧ (fst b < b.length → 512 ≤ fst b) := by
  have h := first_bd (ints b)
  refine ⟨by have := h.1; rw [ints_len] at this; exact this, fun hb => h.2.1 (by intro e; exact hb (by simpa [ints] using e)), h.2.2, fun hl => ?_⟩
  unfold fst firstN at *
  rw [ints_len] at *
  split at hl
  · omega
  · rename_i c; rw [if_neg c]; exact (seek_bd _ _ _).1
theorem fst_local {b m : List UInt8} {k : Nat} (hl : b.length = m.length) (ht : b.take k = m.take k) (hk : k < b.length) (h : fst b ≤ k) : fst m = fst b := by
  unfold fst firstN at *
  rw [ints_len] at *
  rw [← hl]
  split at h
  · omega
  · rename_i c
    rw [if_neg c, if_neg (by rw [ints_len]; exact c), ints_len]
    exact seek_same _ _ _ _ fun i h1 h2 => winAt_take (k := k) (by simp only [ints, ← List.map_take, ht]) (by omega)
theorem fst_prefix {b m : List UInt8} (h : fst b < b.length) : fst (b ++ m) = fst b := by
  have h0 := h
  unfold fst firstN at h
  rw [ints_len] at h
  split at h
  · omega
  · rename_i c
    have hb : fst b = seek (ints b) (min b.length 2048 - 512) 512 := by unfold fst firstN; rw [ints_len, if_neg c]
    have hbm : fst (b ++ m) = seek (ints (b ++ m)) (min (b ++ m).length 2048 - 512) 512 := by unfold fst firstN; rw [ints_len, if_neg (by rw [List.length_append]; omega)]
    rw [hb, hbm]
    have h1 : seek (ints (b ++ m)) (min b.length 2048 - 512) 512 = seek (ints b) (min b.length 2048 - 512) 512 :=
      seek_same _ _ _ _ fun i h1 h2 => winAt_take (k := b.length) (by
        rw [List.take_of_length_le (by rw [ints_len]; exact Nat.le_refl _)]
        unfold ints
        rw [List.map_append]
        exact (List.take_left' (by simp)).symm) (by omega)
    by_cases hc : b.length < 2048
    · rw [← h1]
      exact seek_more _ _ _ _ (by rw [List.length_append]; omega) (by rw [h1, ← hb]; omega)
    · rw [← h1, show min (b ++ m).length 2048 = min b.length 2048 by rw [List.length_append]; omega]
theorem fst_noughts (n : Nat) : fst (List.replicate n 0) = min n 2048 := by
  have hw : ∀ k i, seek (List.replicate n (0 : Int)) k i = i + k := by
    intro k
    induction k with
    | zero => intro i; rfl
    | succ k ih =>
      intro i
      have h0 : winAt (List.replicate n (0 : Int)) i = 0 := by
        unfold winAt
        rw [List.take_replicate, List.drop_replicate]
        exact win_zero _
      simp only [seek, h0]
      rw [if_neg (by decide), ih]; omega
  unfold fst firstN
  have e : ints (List.replicate n 0) = List.replicate n 0 := by simp [ints]
  rw [e, List.length_replicate, hw]
  split <;> omega
def chunkF : Nat → List UInt8 → List (List UInt8)
  | 0, _ => []
  | k + 1, l => if l = [] then [] else l.take (fst l) :: chunkF k (l.drop (fst l))
def cks (l : List UInt8) : List (List UInt8) := chunkF l.length l
theorem chunkF_mono : ∀ (k : Nat) (l : List UInt8), l.length ≤ k → chunkF k l = cks l := by
  intro k
  induction k using Nat.strongRecOn with
  | ind k ih =>
    intro l hl
    unfold cks
    cases k with
    | zero =>
      have : l = [] := List.length_eq_zero_iff.1 (by omega)
      subst this; rfl
    | succ k =>
      by_cases h : l = []
      · subst h; rfl
      · obtain ⟨h1, h2, _⟩ := fst_bd l
        have h2 := h2 h
        obtain ⟨m, hm⟩ : ∃ m, l.length = m + 1 := ⟨l.length - 1, by omega⟩
        rw [hm]
        simp only [chunkF, if_neg h]
        congr 1
        rw [ih k (by omega) _ (by rw [List.length_drop]; omega)]
        by_cases e : m = k
        · rw [e, ih k (by omega) _ (by rw [List.length_drop]; omega)]
        · rw [ih m (by omega) _ (by rw [List.length_drop]; omega)]
theorem cks_nil : cks [] = [] := rfl
theorem cks_cons (l : List UInt8) (h : l ≠ []) : cks l = l.take (fst l) :: cks (l.drop (fst l)) := by
  obtain ⟨h1, h2, _⟩ := fst_bd l
  have h2 := h2 h
  obtain ⟨m, hm⟩ : ∃ m, l.length = m + 1 := ⟨l.length - 1, by omega⟩
  conv => lhs; unfold cks
  rw [hm]
  simp only [chunkF, if_neg h]
  rw [chunkF_mono m _ (by rw [List.length_drop]; omega)]
/-- Induction over the chunks. -/
theorem cks_ind {p : List UInt8 → Prop} (h0 : p []) (h1 : ∀ l, l ≠ [] → p (l.drop (fst l)) → p l) (l : List UInt8) : p l := by
  obtain ⟨n, hn⟩ : ∃ n, l.length ≤ n := ⟨_, Nat.le_refl _⟩
  induction n generalizing l with
  | zero =>
    have : l = [] := List.length_eq_zero_iff.1 (by omega)
    subst this; exact h0
  | succ n ih =>
    by_cases h : l = []
    · subst h; exact h0
    · exact h1 l h (ih _ (by have := (fst_bd l).2.1 h; rw [List.length_drop]; omega))
theorem cks_flat (l : List UInt8) : (cks l).flatten = l :=
  cks_ind (p := fun l => (cks l).flatten = l) rfl (fun l h ih => by rw [cks_cons l h, List.flatten_cons, ih, List.take_append_drop]) l
theorem cks_len (l : List UInt8) : (cks l).length ≤ l.length :=
  cks_ind (p := fun l => (cks l).length ≤ l.length) (Nat.le_refl _) (fun l h ih => by
    have := (fst_bd l).2.1 h
    have h1 := (fst_bd l).1
    rw [cks_cons l h, List.length_cons]
    rw [List.length_drop] at ih
    omega) l
theorem cks_ne {l : List UInt8} (h : l ≠ []) : cks l ≠ [] := by rw [cks_cons l h]; exact List.cons_ne_nil _ _
theorem cks_bd (l : List UInt8) : ∀ (i : Nat) (h : i < (cks l).length), (cks l)[i].length ≤ 2048 ∧ 0 < (cks l)[i].length ∧ (i + 1 < (cks l).length → 512 ≤ (cks l)[i].length) := by
  refine cks_ind (p := fun l => ∀ (i : Nat) (h : i < (cks l).length), (cks l)[i].length ≤ 2048 ∧ 0 < (cks l)[i].length ∧ (i + 1 < (cks l).length → 512 ≤ (cks l)[i].length)) (fun i h => by simp [cks_nil] at h) (fun l hl ih => ?_) l
  have e := cks_cons l hl
  obtain ⟨h1, h2, h3, h4⟩ := fst_bd l
  have h2 := h2 hl
  intro i h
  simp only [e] at h ⊢
  cases i with
  | zero =>
    simp only [List.getElem_cons_zero, List.length_take, List.length_cons]
    refine ⟨by omega, by omega, fun hh => ?_⟩
    have : l.drop (fst l) ≠ [] := by
      intro e2
      rw [e2, cks_nil] at hh
      simp at hh
    have : fst l < l.length := by
      apply Nat.lt_of_not_le
      intro hle
      exact this (List.drop_eq_nil_of_le hle)
    have := h4 this
    omega
  | succ i =>
    simp only [List.getElem_cons_succ, List.length_cons] at h ⊢
    have := ih i (by omega)
    exact ⟨this.1, this.2.1, fun hh => this.2.2 (by omega)⟩
/-! ### Ends -/
def ends : Nat → List (List UInt8) → List Nat
  | _, [] => []
  | n, c :: cs => (n + c.length) :: ends (n + c.length) cs
theorem ends_app (a b : List (List UInt8)) : ∀ n, ends n (a ++ b) = ends n a ++ ends (n + a.flatten.length) b := by
  induction a with
  | nil => intro n; simp [ends]
  | cons c a ih => intro n; simp [ends, ih, Nat.add_assoc]
theorem ends_len (a : List (List UInt8)) : ∀ n, (ends n a).length = a.length := by
  induction a with
  | nil => intro n; rfl
  | cons c a ih => intro n; simp [ends, ih]
theorem ends_shift (k : Nat) (a : List (List UInt8)) : ∀ n, ends (k + n) a = (ends n a).map (k + ·) := by
  induction a with
  | nil => intro n; rfl
  | cons c a ih => intro n; simp [ends, Nat.add_assoc, ih]
theorem ends_le (a : List (List UInt8)) : ∀ n, ∀ x ∈ ends n a, n ≤ x ∧ x ≤ n + a.flatten.length := by
  induction a with
  | nil => intro n x h; simp [ends] at h
  | cons c a ih =>
    intro n x h
    simp only [ends, List.mem_cons] at h
    rcases h with rfl | h
    · rw [List.flatten_cons, List.length_append]; omega
    · have := ih _ x h; rw [List.flatten_cons, List.length_append]; omega
def cuts (l : List UInt8) : List Nat := ends 0 (cks l)
theorem cuts_cons (l : List UInt8) (h : l ≠ []) : cuts l = fst l :: (cuts (l.drop (fst l))).map (fst l + ·) := by
  unfold cuts
  rw [cks_cons l h]
  have h1 := (fst_bd l).1
  simp only [ends, Nat.zero_add, List.length_take, Nat.min_eq_left h1]
  rw [← ends_shift, Nat.add_zero]
theorem cuts_pos (l : List UInt8) : ∀ x ∈ cuts l, 0 < x ∧ x ≤ l.length := by
  intro x hx
  refine ⟨?_, by have := (ends_le _ _ x hx).2; rw [cks_flat] at this; omega⟩
  by_cases h : l = []
  · subst h; simp [cuts, cks_nil, ends] at hx
  · have h2 := (fst_bd l).2.1 h
    rw [cuts_cons l h] at hx
    simp only [List.mem_cons, List.mem_map] at hx
    rcases hx with rfl | ⟨y, _, rfl⟩ <;> omega
theorem cuts_noughts (n : Nat) : cuts (List.replicate n 0) = (List.range ((n + 2047) / 2048)).map fun i => min n (2048 * (i + 1)) := by
  induction n using Nat.strongRecOn with
  | ind n ih =>
    by_cases h : n = 0
    · subst h; rfl
    · have hne : List.replicate n (0 : UInt8) ≠ [] := by intro e; have := congrArg List.length e; simp at this; omega
      rw [cuts_cons _ hne, fst_noughts, List.drop_replicate]
      by_cases hc : n ≤ 2048
      · have e : n - min n 2048 = 0 := by omega
        have e2 : (n + 2047) / 2048 = 1 := by omega
        rw [e, e2]
        simp [cuts, cks_nil, ends, List.range_succ]
      · rw [ih _ (by omega)]
        have e2 : (n + 2047) / 2048 = (n - min n 2048 + 2047) / 2048 + 1 := by omega
        rw [e2, List.range_succ_eq_map, List.map_cons, List.map_map, List.map_map]
        congr 1
        refine List.map_congr_left fun i hi => ?_
        simp only [Function.comp]
        omega
theorem cuts_again : ∀ (a tail : List UInt8), (a = [] ∨ a.length ∈ cuts (a ++ tail)) → ((cuts (a ++ tail)).filter (a.length < ·)).map (· - a.length) = cuts tail := by
  intro a
  obtain ⟨n, hn⟩ : ∃ n, a.length ≤ n := ⟨_, Nat.le_refl _⟩
  induction n generalizing a with
  | zero =>
    intro tail _
    have : a = [] := List.length_eq_zero_iff.1 (by omega)
    subst this
    simp only [List.nil_append, List.length_nil]
    rw [List.filter_eq_self.2 (fun x hx => by have := cuts_pos tail x hx; simp; omega)]
    simp
  | succ n ih =>
    intro tail h
    by_cases ha : a = []
    · subst ha
      exact ih [] (by simp) tail (.inl rfl)
    · rcases h with h | h
      · exact absurd h ha
      have hne : a ++ tail ≠ [] := by simp [ha]
      have h2 := (fst_bd (a ++ tail)).2.1 hne
      rw [cuts_cons _ hne] at h ⊢
      simp only [List.mem_cons, List.mem_map] at h
      rcases h with h | ⟨y, hy, hyk⟩
      · rw [← h, List.drop_left' rfl]
        rw [List.filter_cons_of_neg (by simp)]
        rw [List.filter_eq_self.2 (fun x hx => by
          simp only [List.mem_map] at hx
          obtain ⟨z, hz, rfl⟩ := hx
          have := cuts_pos tail z hz; simp; omega)]
        rw [List.map_map]
        conv => rhs; rw [← List.map_id (cuts tail)]
        exact List.map_congr_left fun i hi => by simp [Function.comp]
      · generalize hk : fst (a ++ tail) = k at *
        have hp := cuts_pos _ y hy
        have hd : (a ++ tail).drop k = a.drop k ++ tail := by rw [List.drop_append_of_le_length (by omega)]
        rw [hd] at hy ⊢
        have := ih (a.drop k) (by rw [List.length_drop]; omega) tail (.inr (by rw [List.length_drop]; rw [show a.length - k = y by omega]; exact hy))
        rw [← this, List.filter_cons_of_neg (by simp; omega), List.filter_map, List.map_map, List.length_drop]
        have e : ((fun x => decide (a.length < x)) ∘ fun x => k + x) = fun x => decide (a.length - k < x) := by
          funext x; simp only [Function.comp]; congr 1; exact propext ⟨fun _ => by omega, fun _ => by omega⟩
        rw [e]
        exact List.map_congr_left fun i hi => by simp only [Function.comp]; omega
theorem cks_prefix (b m : List UInt8) (h : b ≠ []) : ∃ cs c ds, cks b = cs ++ [c] ∧ cks (b ++ m) = cs ++ ds ∧ ds ≠ [] := by
  refine cks_ind (p := fun b => b ≠ [] → ∃ cs c ds, cks b = cs ++ [c] ∧ cks (b ++ m) = cs ++ ds ∧ ds ≠ []) (fun h => absurd rfl h) (fun l hl ih _ => ?_) b h
  obtain ⟨h1, h2, h3, h4⟩ := fst_bd l
  by_cases hc : fst l < l.length
  · obtain ⟨cs, c, ds, e1, e2, e3⟩ := ih (by intro e; have := congrArg List.length e; rw [List.length_drop, List.length_nil] at this; omega)
    refine ⟨l.take (fst l) :: cs, c, ds, by rw [cks_cons l hl, e1]; rfl, ?_, e3⟩
    rw [cks_cons (l ++ m) (by simp [hl]), fst_prefix hc, List.take_append_of_le_length h1, List.drop_append_of_le_length h1, e2]; rfl
  · refine ⟨[], l.take (fst l), cks (l ++ m), ?_, rfl, cks_ne (by simp [hl])⟩
    rw [cks_cons l hl, List.drop_eq_nil_of_le (by omega), cks_nil]; rfl
theorem cks_local (b : List UInt8) (x : UInt8) : ∀ (k : Nat), k < b.length → ∃ cs d ds es, cks b = cs ++ d :: ds ∧ cks (b.set k x) = cs ++ es ∧ cs.flatten.length ≤ k ∧ k < cs.flatten.length + d.length := by
  refine cks_ind (p := fun b => ∀ (k : Nat), k < b.length → ∃ cs d ds es, cks b = cs ++ d :: ds ∧ cks (b.set k x) = cs ++ es ∧ cs.flatten.length ≤ k ∧ k < cs.flatten.length + d.length) (fun k h => by simp at h) (fun l hl ih k hk => ?_) b
  obtain ⟨h1, h2, h3, h4⟩ := fst_bd l
  by_cases hc : fst l ≤ k
  · obtain ⟨cs, d, ds, es, e1, e2, e3, e4⟩ := ih (k - fst l) (by rw [List.length_drop]; omega)
    have hf : fst (l.set k x) = fst l := fst_local (by simp) (by rw [List.take_set_of_le (Nat.le_refl _)]) hk hc
    refine ⟨l.take (fst l) :: cs, d, ds, es, by rw [cks_cons l hl, e1]; rfl, ?_, ?_, ?_⟩
    · rw [cks_cons (l.set k x) (by intro e; have := congrArg List.length e; simp at this; exact hl this), hf, List.take_set_of_le hc, List.drop_set, if_neg (by omega), e2]; rfl
    · rw [List.flatten_cons, List.length_append, List.length_take]; omega
    · rw [List.flatten_cons, List.length_append, List.length_take]; omega
  · refine ⟨[], l.take (fst l), cks (l.drop (fst l)), cks (l.set k x), by rw [cks_cons l hl]; rfl, rfl, by simp, ?_⟩
    rw [List.flatten_nil, List.length_nil, List.length_take]; omega
end Go.Ai.Rab
