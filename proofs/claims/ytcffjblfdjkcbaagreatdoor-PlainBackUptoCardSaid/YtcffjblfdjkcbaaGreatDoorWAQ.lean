/- My own texts DevPp5, DevPp6, DevPp7, one behind the other. -/
import Derived.Test.YtcffjblfdjkcbaaGreatDoorWAP
import Derived.KernelRfl
section
/- Plain, plainly: places in rows that rise. -/
set_option linter.unusedVariables false
set_option linter.unusedSimpArgs false
set_option maxRecDepth 10000
open Go.Ai.Enc (enc is)
namespace Go.Ai.Rab
/-! ### The order of texts -/
theorem eqS_iffS (a b : Str) : eqS a b = true ↔ a = b := eqS_iff a b
theorem lt_irr : ∀ a : List UInt8, ltS a a = false
 | [] => rfl
 | a :: l => by
  have := lt_irr l
  unfold ltS at this ⊢
  unfold Op.bytesLess
  rw [this]; simp
theorem lt_trans : ∀ {a b c : List UInt8}, ltS a b = true → ltS b c = true → ltS a c = true
 | [], [], _, h, _ => by simp [ltS, Op.bytesLess] at h
 | _ :: _, [], _, h, _ => by simp [ltS, Op.bytesLess] at h
 | _, _ :: _, [], _, h => by simp [ltS, Op.bytesLess] at h
 | [], _ :: _, _ :: _, _, _ => by simp [ltS, Op.bytesLess]
 | a :: x, b :: y, c :: z, h, k => by
  unfold ltS Op.bytesLess at h k ⊢
  simp only [Bool.or_eq_true, Bool.and_eq_true, decide_eq_true_eq, beq_iff_eq] at h k ⊢
  rcases h with h | ⟨rfl, h⟩
  ·rcases k with k | ⟨rfl, k⟩
   ·exact .inl (UInt8.lt_trans h k)
   ·exact .inl h
  ·rcases k with k | ⟨rfl, k⟩
   ·exact .inl k
   ·exact .inr ⟨rfl, lt_trans (a := x) (b := y) h k⟩
theorem lt_tri : ∀ {a b : List UInt8}, ltS a b = false → ltS b a = false → a = b
 | [], [], _, _ => rfl
 | [], _ :: _, h, _ => by simp [ltS, Op.bytesLess] at h
 | _ :: _, [], _, h => by simp [ltS, Op.bytesLess] at h
 | a :: x, b :: y, h, k => by
  unfold ltS Op.bytesLess at h k
  simp only [Bool.or_eq_false_iff, Bool.and_eq_false_iff, decide_eq_false_iff_not, beq_eq_false_iff_ne] at h k
  have hab : a = b := UInt8.le_antisymm (UInt8.not_lt.1 k.1) (UInt8.not_lt.1 h.1)
  subst hab
  rw [lt_tri (a := x) (b := y) (h.2.resolve_left fun e => e rfl) (k.2.resolve_left fun e => e rfl)]
/-! ### How many stand ahead -/
def pt {α : Type} (less : α → Bool) (l : List α) : Nat := (l.takeWhile less).length
theorem pt_le {α : Type} (less : α → Bool) : ∀ l : List α, pt less l ≤ l.length
 | [] => Nat.le_refl _
 | a :: l => by
  have := pt_le less l
  unfold pt at this ⊢
  rw [List.takeWhile_cons]
  split
  ·simp only [List.length_cons]; omega
  ·simp
theorem pt_cons {α : Type} (less : α → Bool) (a : α) (l : List α) : pt less (a :: l) = if less a = true then pt less l + 1 else 0 := by
 unfold pt; rw [List.takeWhile_cons]; split <;> rfl
theorem pt_lt {α : Type} (less : α → Bool) : ∀ (l : List α) (k : Nat) (h : k < l.length), k < pt less l → less l[k] = true
 | a :: l, k, h, hk => by
  rw [pt_cons] at hk
  split at hk
  ·rename_i ha
   cases k with
   | zero => exact ha
   | succ k => exact pt_lt less l k (by simpa using h) (by omega)
  ·omega
theorem pt_ge {α : Type} (less : α → Bool) : ∀ (l : List α) (h : pt less l < l.length), less l[pt less l] = false
 | [], h => by simp at h
 | a :: l, h => by
  cases ha : less a with
  | false =>
   have : pt less (a :: l) = 0 := by rw [pt_cons, ha, if_neg Bool.false_ne_true]
   simp only [this, List.getElem_cons_zero]; exact ha
  | true =>
   have e : pt less (a :: l) = pt less l + 1 := by rw [pt_cons, ha, if_pos rfl]
   have h2 : pt less l < l.length := by rw [e] at h; simpa using h
   have := pt_ge less l h2
   simp only [e, List.getElem_cons_succ]; exact this
theorem pt_uniq {α : Type} {less : α → Bool} {l : List α} {p : Nat} (hp : p ≤ l.length) (h1 : ∀ k (h : k < l.length), k < p → less l[k] = true) (h2 : ∀ h : p < l.length, less l[p] = false) : p = pt less l := by
 rcases Nat.lt_trichotomy p (pt less l) with h | h | h
 ·have hl := pt_le less l
  have := pt_lt less l p (by omega) h
  rw [h2 (by omega)] at this; cases this
 ·exact h
 ·have h3 := pt_ge less l (by omega)
  rw [h1 _ (by omega) h] at h3; cases h3
theorem half {i j : Nat} (h : i + j < 9000000000000000000) : IntKind.i64.wrap (((UInt64.ofInt (((((UInt64.ofInt (IntKind.i64.wrap ((i : Int) + (j : Int))))).toNat : Int)).fdiv (2 ^ 1)))).toNat : Int) = (((i + j) / 2 : Nat) : Int) := by
 rw [i64w (show -9223372036854775808 ≤ (i : Int) + j ∧ (i : Int) + j ≤ 9223372036854775807 by omega), ofInt_u64 (z := (i : Int) + j) (by omega) (by omega)]
 have : ((i : Int) + (j : Int)).fdiv (2 ^ 1) = (((i + j) / 2 : Nat) : Int) := by
  rw [Int.fdiv_eq_ediv_of_nonneg _ (by decide)]
  omega
 rw [this, ofInt_u64 (by omega) (by omega), i64w (by omega)]
theorem bin_loop {body : Int × Int → Option ((Int × Int) ⊕ Int)} (n : Nat) (less : Nat → Bool) (hmono : ∀ i j, i ≤ j → j < n → less j = true → less i = true)
  (h : ∀ i j : Nat, i < j → j ≤ n → body ((i : Int), (j : Int)) = if less ((i + j) / 2) = true then some (.inl ((((i + j) / 2 + 1 : Nat) : Int), (j : Int))) else some (.inl ((i : Int), (((i + j) / 2 : Nat) : Int))))
  (he : ∀ i : Nat, i ≤ n → body ((i : Int), (i : Int)) = some (.inr (i : Int))) : ∀ (d i j : Nat), i ≤ j → j ≤ n → j - i ≤ d → (∀ k, k < i → less k = true) → (∀ k, j ≤ k → k < n → less k = false) →
   ∃ p : Nat, loop body ((i : Int), (j : Int)) = some (p : Int) ∧ p ≤ n ∧ (∀ k, k < p → less k = true) ∧ (∀ k, p ≤ k → k < n → less k = false) := by
 intro d
 induction d with
 | zero =>
  intro i j h1 h2 h3 h4 h5
  have : i = j := by omega
  subst this
  exact ⟨i, loop_done (he i h2), h2, h4, h5⟩
 | succ d ih =>
  intro i j h1 h2 h3 h4 h5
  by_cases e : i = j
  ·subst e
   exact ⟨i, loop_done (he i h2), h2, h4, h5⟩
  ·have hb := h i j (by omega) h2
   cases hl : less ((i + j) / 2) with
   | true =>
    rw [hl, if_pos rfl] at hb
    rw [loop_next hb]
    exact ih _ _ (by omega) h2 (by omega) (fun k hk => hmono k ((i + j) / 2) (by omega) (by omega) hl) h5
   | false =>
    rw [hl, if_neg Bool.false_ne_true] at hb
    rw [loop_next hb]
    refine ih _ _ (by omega) (by omega) (by omega) h4 (fun k hk hkn => ?_)
    cases hlk : less k with
    | false => rfl
    | true => rw [hmono ((i + j) / 2) k hk hkn hlk] at hl; cases hl
theorem bin_pt {α : Type} {body : Int × Int → Option ((Int × Int) ⊕ Int)} (l : List α) (less : α → Bool) (hmono : ∀ i j (h : j < l.length) (h' : i ≤ j), less l[j] = true → less l[i] = true)
  (h : ∀ i j : Nat, i < j → (hj : j ≤ l.length) → (hh : (i + j) / 2 < l.length) → body ((i : Int), (j : Int)) = if less l[(i + j) / 2] = true then some (.inl ((((i + j) / 2 + 1 : Nat) : Int), (j : Int))) else some (.inl ((i : Int), (((i + j) / 2 : Nat) : Int))))
  (he : ∀ i : Nat, i ≤ l.length → body ((i : Int), (i : Int)) = some (.inr (i : Int))) : loop body (0, (l.length : Int)) = some ((pt less l : Nat) : Int) := by
 let lk : Nat → Bool := fun k => if h : k < l.length then less l[k] else false
 have hlk : ∀ k (h : k < l.length), lk k = less l[k] := fun k h => dif_pos h
 obtain ⟨p, h1, h2, h3, h4⟩ := bin_loop (body := body) l.length lk (fun i j hij hj hl => by rw [hlk j hj] at hl; rw [hlk i (by omega)]; exact hmono i j hj hij hl)
  (fun i j hij hj => by rw [h i j hij hj (by omega), hlk _ (by omega)]) he l.length 0 l.length (Nat.zero_le _) (Nat.le_refl _) (by omega) (fun k hk => by omega) (fun k hk hk' => by omega)
 have : p = pt less l := pt_uniq h2 (fun k hk hkp => by rw [← hlk k hk]; exact h3 k hkp) (fun hp => by rw [← hlk p hp]; exact h4 p (Nat.le_refl _) hp)
 subst this
 exact h1
/-! ### Names -/
theorem ris_lt {l : List Str} (h : risB l = true) : ∀ i j (hj : j < l.length), (hij : i < j) → ltS l[i] l[j] = true := by
 have step : ∀ i (hi : i + 1 < l.length), ltS l[i] l[i + 1] = true := fun i hi => by
  have := range_all.1 h (i + 1) hi
  unfold risP at this
  simp only [Bool.and_eq_true, Bool.not_eq_true', Bool.and_eq_false_iff, Bool.or_eq_false_iff, decide_eq_false_iff_not, Nat.add_sub_cancel] at this
  have h1 := this.2.resolve_left (by omega)
  rw [nmAt_get hi, nmAt_get (show i < l.length by omega)] at h1
  cases hx : ltS l[i] l[i + 1] with
  | true => rfl
  | false =>
   have e := lt_tri hx h1.1
   have h2 := h1.2
   rw [← Bool.not_eq_true, eqS_iffS] at h2
   exact absurd e.symm h2
 intro i j
 induction j with
 | zero => intro _ h; omega
 | succ j ih =>
  intro hj hij
  by_cases e : i = j
  ·subst e; exact step i hj
  ·exact lt_trans (ih (by omega) (by omega)) (step j hj)
def ptN (l : List Str) (s : Str) : Nat := pt (fun a : Str => ltS a s) l
def hasN (l : List Str) (s : Str) : Bool := decide (ptN l s < l.length) && eqS (nmAt l (ptN l s)) s
theorem less_eq (a b : Str) : lessS a b = some (ltS a b) := by
 unfold lessS isNaNS
 have e : ∀ c : Str, (!eqS c c) = false := fun c => by rw [(eqS_iff c c).2 rfl]; rfl
 show Option.bind (if (!eqS a a) = true then some (!(!eqS b b)) else some false) _ = _
 rw [e, if_neg Bool.false_ne_true]; rfl
theorem bin_eq {l : List Str} (hr : risB l = true) (hl : l.length ≤ 2000000) (s : Str) : binS l s = some (((ptN l s : Nat) : Int), hasN l s) := by
 have h1 : loop (binS_l1 l s) (0, (l.length : Int)) = some ((ptN l s : Nat) : Int) := by
  refine bin_pt l (fun a : Str => ltS a s) (fun i j hj hij h => ?_) (fun i j hij hj hh => ?_) (fun i hi => ?_)
  ·by_cases e : i = j
   ·subst e; exact h
   ·exact lt_trans (ris_lt hr i j hj (by omega)) h
  ·refine (if_pos (decide_eq_true (show (i : Int) < (j : Int) by omega))).trans ?_
   rw [half (by omega), lim (by omega)]
   refine (bds (nth_get hh)).trans ((bds (less_eq _ _)).trans ?_)
   rfl
  ·exact if_neg (by simp)
 refine (bds h1).trans ?_
 have hp := pt_le (fun a : Str => ltS a s) l
 show ((if decide (((ptN l s : Nat) : Int) < (l.length : Int)) = true then ((nth l ((ptN l s : Nat) : Int)).bind fun v1 => ((if (eqS v1 s) = true then some true else ((nth l ((ptN l s : Nat) : Int)).bind fun v2 => ((isNaNS2 v2).bind fun r_1 => ((if r_1 = true then ((isNaNS2 s).bind fun r_2 => some r_2) else some false).bind fun b2 => some b2)))).bind fun b1 => some b1)) else some false).bind fun b => some (((ptN l s : Nat) : Int), b)) = _
 unfold hasN
 by_cases h : ptN l s < l.length
 ·rw [if_pos (decide_eq_true (by omega)), decide_eq_true h, Bool.true_and]
  rw [nthN h]
  have e : ∀ c : Str, (!eqS c c) = false := fun c => by rw [(eqS_iff c c).2 rfl]; rfl
  have e2 : ((isNaNS2 (nmAt l (ptN l s))).bind fun r_1 => ((if r_1 = true then ((isNaNS2 s).bind fun r_2 => some r_2) else some false).bind fun b2 => some b2)) = some false := by
   unfold isNaNS2
   rw [e]; rfl
  show (Option.bind (if eqS (nmAt l (ptN l s)) s = true then some true else ((isNaNS2 (nmAt l (ptN l s))).bind fun r_1 => ((if r_1 = true then ((isNaNS2 s).bind fun r_2 => some r_2) else some false).bind fun b2 => some b2))) (fun b1 => some b1)).bind _ = _
  rw [e2]
  cases eqS (nmAt l (ptN l s)) s <;> rfl
 ·rw [if_neg (by simp; omega), decide_eq_false h]; rfl
theorem has_mem {l : List Str} (hr : risB l = true) (s : Str) : hasN l s = true ↔ s ∈ l := by
 unfold hasN
 rw [Bool.and_eq_true, decide_eq_true_eq, eqS_iffS]
 constructor
 ·rintro ⟨h1, h2⟩
  rw [nmAt_get h1] at h2
  rw [← h2]; exact List.getElem_mem h1
 ·intro h
  obtain ⟨i, hi, rfl⟩ := List.getElem_of_mem h
  have : i = ptN l l[i] := pt_uniq (by omega) (fun k hk hki => ris_lt hr k i hi hki) (fun _ => lt_irr _)
  rw [← this]
  exact ⟨hi, nmAt_get hi⟩
theorem contains_some {l : List Str} (hr : risB l = true) (hl : l.length ≤ 2000000) (s : Str) : containsS l s = some (hasN l s) := by
 have h := loop_first (body := indexS_l1 l s) l.length (fun i => eqS s (nmAt l i)) (fun i hi => by
  refine (if_pos (decide_eq_true (show (i : Int) < (l.length : Int) by omega))).trans ?_
  refine (bds (nthN hi)).trans ?_
  rw [lim (by omega)]) (if_neg (by simp)) l.length 0 (by omega)
 have e0 : indexS l s = _ := bds h
 cases hf : (List.range' 0 l.length).find? (fun i => eqS s (nmAt l i)) with
 | none =>
  rw [hf] at e0
  refine (bds e0).trans ?_
  have : hasN l s = false := by
   cases hh : hasN l s with
   | false => rfl
   | true =>
    obtain ⟨i, hi, e⟩ := List.getElem_of_mem ((has_mem hr s).1 hh)
    rw [List.find?_eq_none] at hf
    exact absurd ((eqS_iff s (nmAt l i)).2 (by rw [nmAt_get hi, e])) (hf i (by simp [List.mem_range'_1, hi]))
  rw [this]; rfl
 | some k =>
  rw [hf] at e0
  refine (bds e0).trans ?_
  have h1 := List.find?_some hf
  have h2 := List.mem_of_find?_eq_some hf
  simp only [List.mem_range'_1] at h2
  have hk : k < l.length := by omega
  have : hasN l s = true := (has_mem hr s).2 (by rw [(eqS_iff _ _).1 h1, nmAt_get hk]; exact List.getElem_mem hk)
  rw [this]
  show some (decide ((k : Int) ≥ 0)) = _
  rw [decide_eq_true (by omega)]
/-! ### Inodes -/
def sorted (l : List InodeR) : Prop := ∀ i j (hj : j < l.length) (hij : i < j), l[i].v.1 < l[j].v.1
def ptI (l : List InodeR) (n : Int) : Nat := pt (fun x : InodeR => decide (x.v.1 < n)) l
def hasI (l : List InodeR) (n : Int) : Bool := decide (ptI l n < l.length) && decide ((inAt l (ptI l n)).v.1 = n)
theorem cmpI_eq (a b : Int) : cmpI a b = some (if a < b then -1 else if a > b then 1 else 0) := by
 unfold cmpI isNaNI
 have e : ∀ c : Int, (c != c) = false := fun c => by simp
 rw [e, bd]
 show Option.bind (some (b != b)) _ = _
 rw [e, bd]
 show (if decide (a < b) = true then some (-1 : Int) else if decide (a > b) = true then some 1 else some 0) = _
 by_cases h : a < b
 ·rw [if_pos (decide_eq_true h), if_pos h]
 ·rw [if_neg (by simpa using h), if_neg h]
  by_cases h2 : a > b
  ·rw [if_pos (decide_eq_true h2), if_pos h2]
  ·rw [if_neg (by simpa using h2), if_neg h2]
theorem seekOf_eq (x : InodeR) (n : Int) (c : PtrC (Clo 57 (Unit))) : seek_of x n c = some (if x.v.1 < n then -1 else if x.v.1 > n then 1 else 0) := (bds (x := x.v.1) rfl).trans ((bds (cmpI_eq _ _)).trans rfl)
theorem seek_eq {l : List InodeR} (hs : sorted l) (hl : l.length ≤ 2000000) (n : Int) (c : Clo 57 Unit) : plain_seek l n c = some (((ptI l n : Nat) : Int), hasI l n) := by
 generalize hcl : (Clo.mk ((PtrC.mk c : PtrC (Clo 57 (Unit))), ()) : Clo 78 ((PtrC (Clo 57 (Unit))) × Unit)) = cc
 have h1 : loop (sl_BinFunc_l1 l n cc) (0, (l.length : Int)) = some ((ptI l n : Nat) : Int) := by
  refine bin_pt l (fun x : InodeR => decide (x.v.1 < n)) (fun i j hj hij h => ?_) (fun i j hij hj hh => ?_) (fun i hi => ?_)
  ·by_cases e : i = j
   ·subst e; exact h
   ·have := hs i j hj (by omega)
    have h := of_decide_eq_true h
    exact decide_eq_true (by omega)
  ·refine (if_pos (decide_eq_true (show (i : Int) < (j : Int) by omega))).trans ?_
   rw [half (by omega), lim (by omega)]
   refine (bds (nth_get hh)).trans ((bds (seekOf_eq _ _ _)).trans ?_)
   by_cases hx : l[(i + j) / 2].v.1 < n
   ·rw [if_pos hx, decide_eq_true hx]; rfl
   ·rw [if_neg hx, decide_eq_false hx]
    split <;> rfl
  ·exact if_neg (by simp)
 have hb : sl_BinFunc l n cc = some (((ptI l n : Nat) : Int), hasI l n) := by
  refine (bds h1).trans ?_
  have hp := pt_le (fun x : InodeR => decide (x.v.1 < n)) l
  show ((if decide (((ptI l n : Nat) : Int) < (l.length : Int)) = true then ((nth l ((ptI l n : Nat) : Int)).bind fun v1 => ((seek_of v1 n cc.cap.1).bind fun r_1 => some (r_1 == 0))) else some false).bind fun b => some (((ptI l n : Nat) : Int), b)) = _
  unfold hasI
  by_cases h : ptI l n < l.length
  ·rw [if_pos (decide_eq_true (by omega)), decide_eq_true h, Bool.true_and]
   rw [nthIn h]
   show (Option.bind ((seek_of (inAt l (ptI l n)) n cc.cap.1).bind fun r_1 => some (r_1 == 0)) _) = _
   rw [seekOf_eq]
   have hge := pt_ge (fun x : InodeR => decide (x.v.1 < n)) l h
   have hge : ¬ (inAt l (ptI l n)).v.1 < n := by rw [inAt_get h]; exact of_decide_eq_false hge
   rw [if_neg hge]
   by_cases e : (inAt l (ptI l n)).v.1 = n
   ·rw [if_neg (by omega), decide_eq_true e]; rfl
   ·rw [if_pos (by omega), decide_eq_false e]; rfl
  ·rw [if_neg (by simp; omega), decide_eq_false h]; rfl
 unfold plain_seek
 rw [hcl]
 exact bds hb
def withL (l : List InodeR) (x : InodeR) : List InodeR := l.take (ptI l x.v.1) ++ x :: l.drop (if hasI l x.v.1 = true then ptI l x.v.1 + 1 else ptI l x.v.1)
theorem withL_len (l : List InodeR) (x : InodeR) : (withL l x).length = if hasI l x.v.1 = true then l.length else l.length + 1 := by
 have hp := pt_le (fun y : InodeR => decide (y.v.1 < x.v.1)) l
 have hp : ptI l x.v.1 ≤ l.length := hp
 unfold withL
 cases hh : hasI l x.v.1 with
 | true =>
  have : ptI l x.v.1 < l.length := by unfold hasI at hh; simp only [Bool.and_eq_true, decide_eq_true_eq] at hh; exact hh.1
  simp only [if_true, List.length_append, List.length_take, List.length_cons, List.length_drop]; omega
 | false => simp only [Bool.false_eq_true, if_false, List.length_append, List.length_take, List.length_cons, List.length_drop]; omega
theorem withL_sorted {l : List InodeR} (hs : sorted l) (x : InodeR) : sorted (withL l x) := by
 have hp : ptI l x.v.1 ≤ l.length := pt_le _ l
 have hlt : ∀ k (h : k < l.length), k < ptI l x.v.1 → l[k].v.1 < x.v.1 := fun k h hk => of_decide_eq_true (pt_lt (fun y : InodeR => decide (y.v.1 < x.v.1)) l k h hk)
 have hgt : ∀ k (h : k < l.length), (if hasI l x.v.1 = true then ptI l x.v.1 + 1 else ptI l x.v.1) ≤ k → x.v.1 < l[k].v.1 := fun k h hk => by
  split at hk
  ·rename_i hh
   unfold hasI at hh
   simp only [Bool.and_eq_true, decide_eq_true_eq] at hh
   have h2 := hs (ptI l x.v.1) k h (by omega)
   rw [← inAt_get hh.1, hh.2] at h2; exact h2
  ·rename_i hh
   have h0 : ptI l x.v.1 < l.length := by omega
   have hge := of_decide_eq_false (pt_ge (fun y : InodeR => decide (y.v.1 < x.v.1)) l h0)
   have hne : (inAt l (ptI l x.v.1)).v.1 ≠ x.v.1 := fun e => hh (by unfold hasI; rw [decide_eq_true h0, decide_eq_true e]; rfl)
   rw [inAt_get h0] at hne
   have hge : ¬ l[ptI l x.v.1].v.1 < x.v.1 := hge
   by_cases e : k = ptI l x.v.1
   ·subst e; omega
   ·have := hs (ptI l x.v.1) k h (by omega); omega
 generalize hd : (if hasI l x.v.1 = true then ptI l x.v.1 + 1 else ptI l x.v.1) = d at hgt
 have hpd : ptI l x.v.1 ≤ d := by rw [← hd]; split <;> omega
 have eW : withL l x = l.take (ptI l x.v.1) ++ x :: l.drop d := by unfold withL; rw [hd]
 generalize hpp : ptI l x.v.1 = p at *
 have hpw : List.Pairwise (fun a b : InodeR => a.v.1 < b.v.1) l := List.pairwise_iff_getElem.2 fun i j hi hj hij => hs i j hj hij
 have : List.Pairwise (fun a b : InodeR => a.v.1 < b.v.1) (withL l x) := by
  rw [eW, List.pairwise_append]
  refine ⟨hpw.sublist (List.take_sublist _ _), List.pairwise_cons.2 ⟨fun b hb => ?_, hpw.sublist (List.drop_sublist _ _)⟩, fun a ha b hb => ?_⟩
  ·obtain ⟨i, hi, rfl⟩ := List.getElem_of_mem hb
   rw [List.getElem_drop]
   exact hgt _ _ (by omega)
  ·obtain ⟨i, hi, rfl⟩ := List.getElem_of_mem ha
   rw [List.length_take] at hi
   have h1 : (l.take p)[i].v.1 < x.v.1 := by rw [List.getElem_take]; exact hlt i (by omega) (by omega)
   rcases List.mem_cons.1 hb with rfl | hb
   ·exact h1
   ·obtain ⟨j, hj, rfl⟩ := List.getElem_of_mem hb
    have h2 : x.v.1 < (l.drop d)[j].v.1 := by rw [List.getElem_drop]; exact hgt _ _ (by omega)
    omega
 exact fun i j hj hij => List.pairwise_iff_getElem.1 this i j (by omega) hj hij
theorem withL_small {l : List InodeR} {x : InodeR} (h : ∀ y ∈ l, smallI y) (hx : smallI x) : ∀ y ∈ withL l x, smallI y := by
 intro y hy
 unfold withL at hy
 rcases List.mem_append.1 hy with hy | hy
 ·exact h y (List.mem_of_mem_take hy)
 ·rcases List.mem_cons.1 hy with rfl | hy
  ·exact hx
  ·exact h y (List.mem_of_mem_drop hy)
theorem ins_ok {α : Type} {z : Nat} (l : List α) (i : Nat) (v : List α) (hi : i ≤ l.length) (h : l.length + v.length ≤ 137438953472) (h' : (l.length + v.length) * z ≤ 137438953472) : ins z l (i : Int) v = some (l.take i ++ v ++ l.drop i) := by
 unfold ins roomy
 rw [if_pos (by simp [h, h', hi])]; simp
theorem with_step {l : List InodeR} (hs : sorted l) (hl : l.length ≤ 1000) (l0 : List InodeR) (v : Nat) (hv : v < l0.length) (hl0 : l0.length ≤ 100) :
  plain_with_l1 l0 (l, (v : Int)) = some (.inl (withL l l0[v], ((v + 1 : Nat) : Int))) := by
 refine (if_pos (decide_eq_true (show (v : Int) < (l0.length : Int) by omega))).trans ?_
 refine (bds (nth_get hv)).trans ((bds (seek_eq hs (by omega) _ _)).trans ?_)
 generalize l0[v] = x
 have hp : ptI l x.v.1 ≤ l.length := pt_le _ l
 unfold withL
 show (if hasI l x.v.1 = true then ((nth l ((ptI l x.v.1 : Nat) : Int)).bind fun v2 => (plain_with_j2 (v : Int) (l.set ((ptI l x.v.1 : Nat) : Int).toNat x))) else ((sl_Insert1 l ((ptI l x.v.1 : Nat) : Int) [x]).bind fun r_2 => (plain_with_j2 (v : Int) r_2))) = _
 unfold plain_with_j2
 rw [lim (by omega)]
 cases hh : hasI l x.v.1 with
 | true =>
  have h0 : ptI l x.v.1 < l.length := by unfold hasI at hh; simp only [Bool.and_eq_true, decide_eq_true_eq] at hh; exact hh.1
  rw [if_pos rfl, if_pos rfl]
  refine (bds (nth_get h0)).trans ?_
  have : l.set ((ptI l x.v.1 : Nat) : Int).toNat x = l.take (ptI l x.v.1) ++ x :: l.drop (ptI l x.v.1 + 1) := by
   rw [Int.toNat_natCast, List.set_eq_take_append_cons_drop, if_pos h0]
  rw [this]
 | false =>
  rw [if_neg Bool.false_ne_true, if_neg Bool.false_ne_true]
  refine (bds (ins_ok l _ [x] hp (by simp only [List.length_singleton]; omega) (by simp only [List.length_singleton]; omega))).trans ?_
  rw [List.append_assoc]; rfl
theorem clone1_eq (l : List InodeR) (h : l.length ≤ 1000) : sl_Clone1 l = some l := by
 unfold sl_Clone1
 refine (bds (app_ok ([] : List InodeR) l (by simp only [List.length_nil]; omega) (by simp only [List.length_nil]; omega))).trans ?_
 rw [List.nil_append]
theorem with1_eq {f : FsR} (hs : sorted f.v.1) (hl : f.v.1.length ≤ 1000) (x : InodeR) : plain_with f [x] = some (Rec.mk (withL f.v.1 x, f.v.2.1, ())) := by
 refine (bds (clone1_eq _ hl)).trans ?_
 have e1 := with_step hs hl [x] 0 (by simp) (by simp)
 have e2 : plain_with_l1 [x] (withL f.v.1 x, ((0 + 1 : Nat) : Int)) = some (.inr (withL f.v.1 x)) := rfl
 refine (bds ((loop_next e1).trans (loop_done e2))).trans rfl
theorem with2_eq {f : FsR} (hs : sorted f.v.1) (hl : f.v.1.length ≤ 900) (x y : InodeR) : plain_with f [x, y] = some (Rec.mk (withL (withL f.v.1 x) y, f.v.2.1, ())) := by
 refine (bds (clone1_eq _ (by omega))).trans ?_
 have e1 := with_step hs (by omega) [x, y] 0 (by simp) (by simp)
 have e2 := with_step (withL_sorted hs x) (by rw [withL_len]; split <;> omega) [x, y] 1 (by simp) (by simp)
 have e3 : plain_with_l1 [x, y] (withL (withL f.v.1 x) y, ((1 + 1 : Nat) : Int)) = some (.inr (withL (withL f.v.1 x) y)) := rfl
 refine (bds ((loop_next e1).trans ((loop_next e2).trans (loop_done e3)))).trans rfl
end Go.Ai.Rab
end
section
/- Plain, plainly: what the functions of a file system answer. -/
set_option linter.unusedVariables false
set_option linter.unusedSimpArgs false
set_option maxRecDepth 10000
open Go.Ai.Enc (enc is)
namespace Go.Ai.Rab
structure Ok (l : List InodeR) (nx : Int) : Prop where
 len0 : 0 < l.length
 len : l.length ≤ 512
 n0 : (inAt l 0).v.1 = 1
 k0 : (inAt l 0).v.2.1 = 2
 nx : 2 ≤ nx ∧ nx ≤ 513
 al : ∀ x ∈ l, aloneB x = true
 so : sorted l
 kn : ∀ k ∈ numsL l, ∃ x ∈ l, x.v.1 = k
 cn : ∀ x ∈ l, cndX l x = true
theorem all_in {l : List InodeR} {p : InodeR → Bool} : ((List.range' 0 l.length).all fun i => p (inAt l i)) = true ↔ ∀ x ∈ l, p x = true := by
 rw [range_all]
 constructor
 ·intro h x hx
  obtain ⟨i, hi, rfl⟩ := List.getElem_of_mem hx
  rw [← inAt_get hi]; exact h i hi
 ·intro h i hi
  exact h _ (inAt_mem hi)
theorem sor_iff {l : List InodeR} : (List.range' 0 l.length).all (sorP l) = true ↔ (∀ x ∈ l, aloneB x = true) ∧ sorted l := by
 rw [range_all]
 constructor
 ·intro h
  have h1 : ∀ i, i < l.length → aloneB (inAt l i) = true := fun i hi => by
   have := h i hi
   unfold sorP at this
   simp only [Bool.and_eq_true] at this
   exact this.1
  have h2 : ∀ i (hi : i + 1 < l.length), l[i].v.1 < l[i + 1].v.1 := fun i hi => by
   have := h (i + 1) hi
   unfold sorP at this
   simp only [Bool.and_eq_true, Bool.not_eq_true', Bool.and_eq_false_iff, decide_eq_false_iff_not, Nat.add_sub_cancel] at this
   have h3 := this.2.resolve_left (by omega)
   rw [inAt_get hi, inAt_get (show i < l.length by omega)] at h3
   omega
  refine ⟨fun x hx => ?_, fun i j => ?_⟩
  ·obtain ⟨i, hi, rfl⟩ := List.getElem_of_mem hx
   rw [← inAt_get hi]; exact h1 i hi
  ·induction j with
   | zero => intro _ h; omega
   | succ j ih =>
    intro hj hij
    have := h2 j hj
    by_cases e : i = j
    ·subst e; exact this
    ·have := ih (by omega) (by omega); omega
 ·rintro ⟨h1, h2⟩ i hi
  unfold sorP
  rw [h1 _ (inAt_mem hi), Bool.true_and]
  by_cases h0 : 0 < i
  ·have := h2 (i - 1) i hi (by omega)
   rw [inAt_get hi, inAt_get (show i - 1 < l.length by omega), decide_eq_false (show ¬ l[i - 1].v.1 ≥ l[i].v.1 by omega)]
   simp
  ·rw [decide_eq_false h0]; rfl
theorem kn_iff {l : List InodeR} {k : Int} : knB l k = true ↔ ∃ x ∈ l, x.v.1 = k := by
 rw [knB_iff]
 constructor
 ·rintro ⟨i, hi, h⟩; exact ⟨_, inAt_mem hi, h⟩
 ·rintro ⟨x, hx, h⟩
  obtain ⟨i, hi, rfl⟩ := List.getElem_of_mem hx
  exact ⟨i, hi, by rw [inAt_get hi]; exact h⟩
theorem chkL_iff {l : List InodeR} {nx : Int} : chkL l nx = true ↔ Ok l nx := by
 unfold chkL hdB
 simp only [Bool.and_eq_true]
 rw [sor_iff, all_in (p := cndX l), List.all_eq_true]
 simp only [decide_eq_true_eq]
 constructor
 ·rintro ⟨⟨h1, h2, h3, h4⟩, ⟨h5, h6⟩, h7, h8⟩
  exact ⟨by omega, h1.2, h2, h3, h4, h5, h6, fun k hk => kn_iff.1 (h7 k hk), h8⟩
 ·intro h
  exact ⟨⟨⟨by have := h.len0; omega, h.len⟩, h.n0, h.k0, h.nx⟩, ⟨h.al, h.so⟩, fun k hk => kn_iff.2 (h.kn k hk), h.cn⟩
theorem alone_dir {x : InodeR} (h : aloneB x = true) (hk : x.v.2.1 = 2) : risB x.v.2.2.2.2.2.2.1 = true ∧ x.v.2.2.2.2.2.2.2.1.length = x.v.2.2.2.2.2.2.1.length ∧ x.v.2.2.2.2.2.2.1.length ≤ 128 ∧ x.v.2.2.2.1 = 1 ∧ x.v.2.2.2.2.2.2.2.1.all numB = true := by
 unfold aloneB at h
 simp only [Bool.and_eq_true] at h
 obtain ⟨_, _, _, h⟩ := h
 rw [if_neg (by simp [hk])] at h
 simp only [Bool.and_eq_true, decide_eq_true_eq] at h
 unfold listB at h
 simp only [Bool.and_eq_true, decide_eq_true_eq] at h
 exact ⟨h.1.2.2.1, h.1.2.1, h.2.2, h.2.1, h.1.2.2.2⟩
theorem alone_small {x : InodeR} (h : aloneB x = true) : x.v.2.2.2.2.1.length ≤ 32768 ∧ x.v.2.2.2.2.2.2.1.length ≤ 128 ∧ x.v.2.2.2.2.2.2.2.1.length ≤ 128 ∧ x.v.2.2.2.2.2.2.2.2.1.length ≤ 8 ∧ 0 ≤ x.v.2.2.2.1 ∧ x.v.2.2.2.1 ≤ 64 ∧ 1 ≤ x.v.1 ∧ x.v.1 ≤ 1024 := by
 have h0 := h
 unfold aloneB metaB at h
 simp only [Bool.and_eq_true, decide_eq_true_eq] at h
 obtain ⟨⟨_, h1, _, _, h2⟩, h3, h4, h5⟩ := h
 have h6 := (attrs_len h2).1
 have h7 : x.v.2.2.2.2.1.length ≤ 32768 := by
  simp only [Bool.or_eq_true, decide_eq_true_eq] at h3
  omega
 refine ⟨h7, ?_, ?_, h6, h1.1, h1.2, h4.1, h4.2⟩
 ·by_cases hk : x.v.2.1 = 2
  ·exact (alone_dir h0 hk).2.2.1
  ·rw [if_pos (by simpa using hk)] at h5
   have := of_decide_eq_true h5
   omega
 ·by_cases hk : x.v.2.1 = 2
  ·have := alone_dir h0 hk; omega
  ·rw [if_pos (by simpa using hk)] at h5
   have := of_decide_eq_true h5
   omega
theorem alone_smallI {x : InodeR} (h : aloneB x = true) : smallI x := by
 have := alone_small h
 exact ⟨by omega, by omega, by omega, by omega⟩
theorem Ok.small {l : List InodeR} {nx : Int} (h : Ok l nx) : smallL l := ⟨by have := h.len; omega, fun x hx => alone_smallI (h.al x hx)⟩
def linkI (y : InodeR) (d : Int) : InodeR := Rec.mk (y.v.1, y.v.2.1, y.v.2.2.1, y.v.2.2.2.1 + d, y.v.2.2.2.2.1, y.v.2.2.2.2.2.1, y.v.2.2.2.2.2.2.1, y.v.2.2.2.2.2.2.2.1, y.v.2.2.2.2.2.2.2.2.1, ())
def namesI (x : InodeR) (ns : List Str) (is : List Int) : InodeR := Rec.mk (x.v.1, x.v.2.1, x.v.2.2.1, x.v.2.2.2.1, x.v.2.2.2.2.1, x.v.2.2.2.2.2.1, ns, is, x.v.2.2.2.2.2.2.2.2.1, ())
def putI (x : InodeR) (s : Str) (n : Int) : InodeR := namesI x (x.v.2.2.2.2.2.2.1.take (ptN x.v.2.2.2.2.2.2.1 s) ++ s :: x.v.2.2.2.2.2.2.1.drop (ptN x.v.2.2.2.2.2.2.1 s)) (x.v.2.2.2.2.2.2.2.1.take (ptN x.v.2.2.2.2.2.2.1 s) ++ n :: x.v.2.2.2.2.2.2.2.1.drop (ptN x.v.2.2.2.2.2.2.1 s))
def cutI (x : InodeR) (p : Nat) : InodeR := namesI x (x.v.2.2.2.2.2.2.1.take p ++ x.v.2.2.2.2.2.2.1.drop (p + 1)) (x.v.2.2.2.2.2.2.2.1.take p ++ x.v.2.2.2.2.2.2.2.1.drop (p + 1))
/-! ### What they answer -/
def dirS (f : FsR) (n : Int) : InodeR × Err 111 :=
 if chkL f.v.1 f.v.2.1 = true then match posI f.v.1 n with
  | none => (noI, Err.mk (some 201))
  | some i => if ((inAt f.v.1 i).v.2.1 != 2) = true then (noI, Err.mk (some 203)) else (inAt f.v.1 i, Err.mk none)
 else (noI, Err.mk (some 2))
def lookS (f : FsR) (n : Int) (s : Str) : Int × Int := match (dirS f n).2.c with
 | some e => (0, e)
 | none => if hasN (dirS f n).1.v.2.2.2.2.2.2.1 s = true then ((dirS f n).1.v.2.2.2.2.2.2.2.1.getD (ptN (dirS f n).1.v.2.2.2.2.2.2.1 s) 0, 0) else (0, 201)
def numF (l : List InodeR) (k : Int) : Int := l.foldl (fun k y => if y.v.1 = k then k + 1 else k) k
def newI (k kind mode : Int) (t : Str) : InodeR := Rec.mk (k, kind, mode, if kind = 2 then 1 else 0, [], t, [], [], [], ())
def makeS (f : FsR) (kind mode : Int) (t : Str) : FsR × Int × Int :=
 if chkL f.v.1 f.v.2.1 = true then if f.v.1.length = 512 then (f, 0, 211) else
  if aloneB (newI (numF f.v.1 f.v.2.1) kind mode t) = true then (Rec.mk (withL f.v.1 (newI (numF f.v.1 f.v.2.1) kind mode t), f.v.2.1, ()), numF f.v.1 f.v.2.1, 0) else (f, 0, 2)
 else (f, 0, 2)
def entL (l : List InodeR) (x y : InodeR) (s : Str) (n : Int) : List InodeR := if (y.v.2.1 != 2) = true then withL (withL l (putI x s n)) (linkI y 1) else withL l (putI x s n)
def entS (f : FsR) (d : Int) (s : Str) (n : Int) : FsR × Int := match (dirS f d).2.c with
 | some e => (f, e)
 | none => if chkS s ≠ 0 then (f, chkS s) else if hasN (dirS f d).1.v.2.2.2.2.2.2.1 s = true then (f, 202) else match posI f.v.1 n with
  | none => (f, 201)
  | some i => if (inAt f.v.1 i).v.2.1 ≠ 2 ∧ (inAt f.v.1 i).v.2.2.2.1 = 64 then (f, 210) else if (dirS f d).1.v.2.2.2.2.2.2.1.length = 128 then (f, 211) else
   if chkL (entL f.v.1 (dirS f d).1 (inAt f.v.1 i) s n) f.v.2.1 = true then (Rec.mk (entL f.v.1 (dirS f d).1 (inAt f.v.1 i) s n, f.v.2.1, ()), 0) else (f, 2)
def leaL (l : List InodeR) (x y : InodeR) (s : Str) : List InodeR := if (y.v.2.1 != 2) = true then withL (withL l (cutI x (ptN x.v.2.2.2.2.2.2.1 s))) (linkI y (-1)) else withL l (cutI x (ptN x.v.2.2.2.2.2.2.1 s))
def leaS (f : FsR) (d : Int) (s : Str) : FsR × Int × Int := if (lookS f d s).2 ≠ 0 then (f, 0, (lookS f d s).2) else
 (Rec.mk (leaL f.v.1 (inAt f.v.1 ((posI f.v.1 d).getD 0)) (inAt f.v.1 ((posI f.v.1 (lookS f d s).1).getD 0)) s, f.v.2.1, ()), (lookS f d s).1, 0)
def droS (f : FsR) (n : Int) : FsR × Int :=
 if chkL f.v.1 f.v.2.1 = true then match posI f.v.1 n with
  | none => (f, 201)
  | some i => if n = 1 ∨ 0 < (inAt f.v.1 i).v.2.2.2.2.2.2.1.length ∨ 0 < (upsL f.v.1 n).length then (f, 215) else (Rec.mk (f.v.1.take i ++ f.v.1.drop (i + 1), f.v.2.1, ()), 0)
 else (f, 2)
theorem dir_eq {f : FsR} (hs : smallL f.v.1) (n : Int) : plain_directory f n = some (dirS f n) := by
 refine (bds (Find_eq (by have := hs.1; omega) n)).trans ((bds (Check_eqL hs)).trans ?_)
 unfold dirS
 cases chkL f.v.1 f.v.2.1 with
 | false => rfl
 | true =>
  rw [if_neg (by decide), if_pos rfl]
  unfold fndI
  cases hp : posI f.v.1 n with
  | none => rfl
  | some i =>
   obtain ⟨h1, h2⟩ := posI_some hp
   show (if decide ((i : Int) < 0) = true then _ else _) = _
   rw [if_neg (by simp)]
   refine (bds (nthIn h1)).trans ?_
   show _ = some (if ((inAt f.v.1 i).v.2.1 != 2) = true then _ else _)
   by_cases hk : ((inAt f.v.1 i).v.2.1 != 2) = true
   ·rw [if_pos hk, if_pos hk]; rfl
   ·rw [if_neg hk, if_neg hk]
    exact (bds (nthIn h1))
theorem dirS_none {f : FsR} {n : Int} (h : (dirS f n).2.c = none) : Ok f.v.1 f.v.2.1 ∧ ∃ i, posI f.v.1 n = some i ∧ i < f.v.1.length ∧ (inAt f.v.1 i).v.1 = n ∧ (inAt f.v.1 i).v.2.1 = 2 ∧ (dirS f n).1 = inAt f.v.1 i := by
 unfold dirS at h ⊢
 cases hc : chkL f.v.1 f.v.2.1 with
 | false => rw [hc] at h; simp at h
 | true =>
  rw [hc, if_pos rfl] at h
  rw [if_pos rfl]
  refine ⟨chkL_iff.1 hc, ?_⟩
  cases hp : posI f.v.1 n with
  | none => rw [hp] at h; simp at h
  | some i =>
   rw [hp] at h
   obtain ⟨h1, h2⟩ := posI_some hp
   simp only at h ⊢
   by_cases hk : ((inAt f.v.1 i).v.2.1 != 2) = true
   ·rw [if_pos hk] at h; simp at h
   ·rw [if_neg hk]
    exact ⟨i, rfl, h1, h2, by simpa using hk, rfl⟩
theorem Lookup_eq {f : FsR} (hs : smallL f.v.1) (n : Int) (s : Str) : plain_Lookup f n s = some (lookS f n s) := by
 refine (bds (dir_eq hs n)).trans ?_
 unfold lookS
 cases he : (dirS f n).2.c with
 | some e =>
  refine (if_pos rfl).trans ?_
  show ((plain_errno (dirS f n).2).bind fun r_1 => some ((0 : Int), r_1)) = _
  unfold plain_errno
  rw [he]; rfl
 | none =>
  refine (if_neg (by decide)).trans ?_
  obtain ⟨hok, i, p1, p2, p3, p4, p5⟩ := dirS_none he
  rw [p5]
  have hal := hok.al _ (inAt_mem p2)
  obtain ⟨d1, d2, d3, d4, d5⟩ := alone_dir hal p4
  refine (bds (bin_eq d1 (by omega) s)).trans ?_
  show (if (!(hasN (inAt f.v.1 i).v.2.2.2.2.2.2.1 s)) = true then _ else _) = _
  cases hh : hasN (inAt f.v.1 i).v.2.2.2.2.2.2.1 s with
  | false => rfl
  | true =>
   rw [if_neg (by decide)]
   have : ptN (inAt f.v.1 i).v.2.2.2.2.2.2.1 s < (inAt f.v.1 i).v.2.2.2.2.2.2.2.1.length := by
    unfold hasN at hh
    simp only [Bool.and_eq_true, decide_eq_true_eq] at hh
    omega
   exact (bds (nthD 0 this))
theorem Ok.nums {l : List InodeR} {nx : Int} (h : Ok l nx) : ∀ x ∈ l, x.v.2.2.2.2.2.2.2.1.length ≤ 200 := fun x hx => by have := alone_small (h.al x hx); omega
theorem numF_le : ∀ (l : List InodeR) (k : Int), k ≤ numF l k ∧ numF l k ≤ k + l.length
 | [], k => by simp [numF]
 | y :: l, k => by
  have h1 := numF_le l k
  have h2 := numF_le l (k + 1)
  unfold numF at h1 h2 ⊢
  rw [List.foldl_cons]
  simp only [List.length_cons]
  split <;> omega
theorem Make_eq {f : FsR} (hs : smallL f.v.1) (kind mode : Int) (t : Str) : plain_Make f kind mode t = some (makeS f kind mode t) := by
 refine (bds (Check_eqL hs)).trans ?_
 unfold makeS
 cases hc : chkL f.v.1 f.v.2.1 with
 | false => rfl
 | true =>
  rw [if_neg (by decide), if_pos rfl]
  have hok := chkL_iff.1 hc
  by_cases h5 : f.v.1.length = 512
  ·rw [if_pos (by simp [h5]), if_pos h5]
  ·rw [if_neg (by simp; omega), if_neg h5]
   obtain ⟨x1, g1, g2⟩ := loop_keep (body := plain_Make_l1 f) f.v.1.length (fun i x => x = (Rec.mk (numF (f.v.1.take i) f.v.2.1, kind, mode, (0 : Int), ([] : List UInt8), t, ([] : List Str), ([] : List Int), ([] : List AttrR), ()) : InodeR)) (fun x => x = (Rec.mk (numF f.v.1 f.v.2.1, kind, mode, (0 : Int), ([] : List UInt8), t, ([] : List Str), ([] : List Int), ([] : List AttrR), ()) : InodeR)) (fun i x hi hx => by
     subst hx
     have hb := numF_le (f.v.1.take i) f.v.2.1
     have hn := hok.nx
     have hl := hok.len
     rw [List.length_take] at hb
     refine ⟨_, ?_, rfl⟩
     refine (if_pos (decide_eq_true (show (i : Int) < (f.v.1.length : Int) by omega))).trans ?_
     refine (bds (nth_get hi)).trans ?_
     have ht : f.v.1.take (i + 1) = f.v.1.take i ++ [f.v.1[i]] := by rw [List.take_add_one, List.getElem?_eq_getElem hi]; rfl
     have hf : numF (f.v.1.take (i + 1)) f.v.2.1 = if f.v.1[i].v.1 = numF (f.v.1.take i) f.v.2.1 then numF (f.v.1.take i) f.v.2.1 + 1 else numF (f.v.1.take i) f.v.2.1 := by
      rw [ht]; unfold numF; rw [List.foldl_append]; rfl
     rw [hf]
     have hw : IntKind.i64.wrap (numF (f.v.1.take i) f.v.2.1 + 1) = numF (f.v.1.take i) f.v.2.1 + 1 := i64w (by omega)
     unfold plain_Make_j2
     rw [lim (by omega)]
     by_cases e : f.v.1[i].v.1 = numF (f.v.1.take i) f.v.2.1
     ·refine (if_pos (by simpa using e)).trans ?_
      rw [if_pos e]
      show some (Sum.inl ((Rec.mk (IntKind.i64.wrap (numF (f.v.1.take i) f.v.2.1 + 1), _) : InodeR), _)) = _
      rw [hw]
     ·refine (if_neg (by simpa using e)).trans ?_
      rw [if_neg e]) (fun x hx => by
     rw [List.take_length] at hx
     exact ⟨x, if_neg (by simp), hx⟩) 0 (Rec.mk (f.v.2.1, kind, mode, (0 : Int), ([] : List UInt8), t, ([] : List Str), ([] : List Int), ([] : List AttrR), ()) : InodeR) (by omega) (by simp [numF])
   refine (bds g1).trans ?_
   subst g2
   have fin : ∀ x : InodeR, x = newI (numF f.v.1 f.v.2.1) kind mode t → plain_Make_j3 f x = some (if aloneB (newI (numF f.v.1 f.v.2.1) kind mode t) = true then (Rec.mk (withL f.v.1 (newI (numF f.v.1 f.v.2.1) kind mode t), f.v.2.1, ()), numF f.v.1 f.v.2.1, 0) else (f, 0, 2)) := fun x hx => by
    subst hx
    have hsm : smallI (newI (numF f.v.1 f.v.2.1) kind mode t) := ⟨Nat.zero_le _, Nat.zero_le _, Nat.zero_le _, Nat.zero_le _⟩
    refine (bds (right_eq hsm)).trans ?_
    cases ha : aloneB (newI (numF f.v.1 f.v.2.1) kind mode t) with
    | false => rfl
    | true =>
     rw [if_neg (by decide), if_pos rfl]
     exact (bds (with1_eq hok.so (by have := hok.len; omega) _)).trans rfl
   show (if (kind == 2) = true then _ else _) = _
   by_cases hk : kind = 2
   ·rw [if_pos (by simp [hk])]
    exact fin _ (by unfold newI; rw [if_pos hk])
   ·rw [if_neg (by simpa using hk)]
    exact fin _ (by unfold newI; rw [if_neg hk])
theorem clone2_eq (l : List Str) (h : l.length ≤ 2000000) : sl_Clone2 l = some l := by
 unfold sl_Clone2
 refine (bds (app_ok ([] : List Str) l (by simp only [List.length_nil]; omega) (by simp only [List.length_nil]; omega))).trans ?_
 rw [List.nil_append]
theorem clone3_eq (l : List Int) (h : l.length ≤ 2000000) : sl_Clone3 l = some l := by
 unfold sl_Clone3
 refine (bds (app_ok ([] : List Int) l (by simp only [List.length_nil]; omega) (by simp only [List.length_nil]; omega))).trans ?_
 rw [List.nil_append]
theorem put_eq {x : InodeR} (h : aloneB x = true) (hk : x.v.2.1 = 2) (s : Str) (n : Int) : plain_put x s n = some (putI x s n) := by
 obtain ⟨d1, d2, d3, d4, d5⟩ := alone_dir h hk
 have hp : ptN x.v.2.2.2.2.2.2.1 s ≤ x.v.2.2.2.2.2.2.1.length := pt_le _ _
 refine (bds (bin_eq d1 (by omega) s)).trans ?_
 refine (bds (clone2_eq _ (by omega))).trans ?_
 refine (bds (ins_ok _ _ [s] hp (by simp only [List.length_singleton]; omega) (by simp only [List.length_singleton]; omega))).trans ?_
 refine (bds (clone3_eq _ (by omega))).trans ?_
 refine (bds (ins_ok _ _ [n] (by omega) (by simp only [List.length_singleton]; omega) (by simp only [List.length_singleton]; omega))).trans ?_
 unfold putI namesI
 rw [List.append_assoc, List.append_assoc]; rfl
theorem putI_small {x : InodeR} (h : aloneB x = true) (s : Str) (n : Int) : smallI (putI x s n) := by
 have := alone_small h
 refine ⟨?_, ?_, ?_, ?_⟩
 ·show x.v.2.2.2.2.1.length ≤ _; omega
 ·show (x.v.2.2.2.2.2.2.1.take _ ++ s :: x.v.2.2.2.2.2.2.1.drop _).length ≤ _
  simp only [List.length_append, List.length_take, List.length_cons, List.length_drop]; omega
 ·show (x.v.2.2.2.2.2.2.2.1.take _ ++ n :: x.v.2.2.2.2.2.2.2.1.drop _).length ≤ _
  simp only [List.length_append, List.length_take, List.length_cons, List.length_drop]; omega
 ·show x.v.2.2.2.2.2.2.2.2.1.length ≤ _; omega
theorem linkI_small {x : InodeR} (h : smallI x) (d : Int) : smallI (linkI x d) := h
theorem withL_len_le (l : List InodeR) (x : InodeR) : (withL l x).length ≤ l.length + 1 := by rw [withL_len]; split <;> omega
theorem entL_small {l : List InodeR} {nx : Int} (hok : Ok l nx) {x y : InodeR} (hx : x ∈ l) (hy : y ∈ l) (s : Str) (n : Int) : smallL (entL l x y s n) := by
 have h1 : ∀ z ∈ withL l (putI x s n), smallI z := withL_small hok.small.2 (putI_small (hok.al x hx) s n)
 have h2 := withL_len_le l (putI x s n)
 have h3 := hok.len
 unfold entL
 split
 ·exact ⟨by have := withL_len_le (withL l (putI x s n)) (linkI y 1); omega, withL_small h1 (linkI_small (alone_smallI (hok.al y hy)) 1)⟩
 ·exact ⟨by omega, h1⟩
theorem enter_eq {f : FsR} (hs : smallL f.v.1) (d : Int) (s : Str) (n : Int) : plain_Enter f d s n = some (entS f d s n) := by
 have key : ∃ e : Err 111, plain_enter f d s n = some ((entS f d s n).1, e) ∧ e.c.getD 0 = (entS f d s n).2 := by
  have e0 : plain_enter f d s n = _ := bds (dir_eq hs d)
  unfold entS
  cases he : (dirS f d).2.c with
  | some e =>
   have e0 := e0.trans (if_pos (by rw [he]; rfl))
   exact ⟨_, e0, by rw [he]; rfl⟩
  | none =>
   have e0 := e0.trans (if_neg (by rw [he]; decide))
   have e0 := e0.trans (bds (Check_eq s))
   obtain ⟨hok, j, p1, p2, p3, p4, p5⟩ := dirS_none he
   by_cases hc : chkS s = 0
   ·have e0 := e0.trans (if_neg (by simp [hc]))
    have e0 := e0.trans (bds (Find_eq (by have := hs.1; omega) n))
    have hal : aloneB (dirS f d).1 = true := by rw [p5]; exact hok.al _ (inAt_mem p2)
    have hk : (dirS f d).1.v.2.1 = 2 := by rw [p5]; exact p4
    have hmem : (dirS f d).1 ∈ f.v.1 := by rw [p5]; exact inAt_mem p2
    generalize (dirS f d).1 = x at *
    obtain ⟨d1, d2, d3, d4, d5⟩ := alone_dir hal hk
    have e0 := e0.trans (bds (contains_some d1 (by omega) s))
    simp only [ne_eq, hc, not_true_eq_false, if_false]
    cases hh : hasN x.v.2.2.2.2.2.2.1 s with
    | true =>
     rw [hh] at e0
     exact ⟨_, e0.trans (if_pos rfl), rfl⟩
    | false =>
     rw [hh] at e0
     have e0 := e0.trans (if_neg (by decide))
     simp only [Bool.false_eq_true, if_false]
     unfold fndI at e0
     cases hp : posI f.v.1 n with
     | none =>
      rw [hp] at e0
      exact ⟨_, e0.trans (if_pos (by decide)), rfl⟩
     | some i =>
      rw [hp] at e0
      obtain ⟨q1, q2⟩ := posI_some hp
      have e0 := e0.trans ((if_neg (by simp)).trans (bds (nthIn q1)))
      simp only
      have hyal := hok.al _ (inAt_mem q1)
      have hym := inAt_mem q1
      generalize inAt f.v.1 i = y at *
      have e0 := e0.trans (bds (x := decide (y.v.2.1 ≠ 2 ∧ y.v.2.2.2.1 = 64)) (by
       by_cases hk2 : y.v.2.1 = 2
       ·rw [if_neg (by simp [hk2]), decide_eq_false (by simp [hk2])]
       ·rw [if_pos (by simpa using hk2)]; congr 1; rw [Bool.eq_iff_iff]; simp [hk2]))
      by_cases h210 : y.v.2.1 ≠ 2 ∧ y.v.2.2.2.1 = 64
      ·rw [decide_eq_true h210] at e0
       rw [if_pos h210]
       exact ⟨_, e0.trans (if_pos rfl), rfl⟩
      ·rw [decide_eq_false h210] at e0
       have e0 := e0.trans (if_neg (by decide))
       rw [if_neg h210]
       by_cases h128 : x.v.2.2.2.2.2.2.1.length = 128
       ·rw [if_pos h128]
        exact ⟨_, e0.trans (if_pos (by simp [h128])), rfl⟩
       ·rw [if_neg h128]
        have e0 := e0.trans ((if_neg (by simp; omega)).trans (bds (put_eq hal hk s n)))
        have e0 := e0.trans (bds (with1_eq hok.so (by have := hok.len; omega) _))
        have hsm := entL_small hok hmem hym s n
        have fin : ∀ out : FsR, out = Rec.mk (entL f.v.1 x y s n, f.v.2.1, ()) → ∃ e : Err 111, plain_enter_j1 f out = some ((if chkL (entL f.v.1 x y s n) f.v.2.1 = true then (Rec.mk (entL f.v.1 x y s n, f.v.2.1, ()), (0 : Int)) else (f, 2)).1, e) ∧ e.c.getD 0 = (if chkL (entL f.v.1 x y s n) f.v.2.1 = true then ((Rec.mk (entL f.v.1 x y s n, f.v.2.1, ()) : FsR), (0 : Int)) else (f, 2)).2 := fun out ho => by
         subst ho
         have g0 : plain_enter_j1 f (Rec.mk (entL f.v.1 x y s n, f.v.2.1, ())) = _ := bds (Check_eqL hsm)
         cases hcc : chkL (entL f.v.1 x y s n) f.v.2.1 with
         | false =>
          have g0 := g0.trans (if_pos (by show (!chkL (entL f.v.1 x y s n) f.v.2.1) = true; rw [hcc]; rfl))
          exact ⟨_, g0, rfl⟩
         | true =>
          have g0 := g0.trans (if_neg (by show ¬ (!chkL (entL f.v.1 x y s n) f.v.2.1) = true; rw [hcc]; decide))
          exact ⟨_, g0, rfl⟩
        by_cases hk2 : y.v.2.1 = 2
        ·have e0 := e0.trans (if_neg (by simp [hk2]))
         obtain ⟨e, f1, f2⟩ := fin (Rec.mk (withL f.v.1 (putI x s n), f.v.2.1, ())) (by unfold entL; rw [if_neg (by simp [hk2])])
         exact ⟨e, e0.trans f1, f2⟩
        ·have e0 := e0.trans (if_pos (by simpa using hk2))
         have hla := alone_small hyal
         have hw : IntKind.i64.wrap (y.v.2.2.2.1 + 1) = y.v.2.2.2.1 + 1 := i64w (by omega)
         have hl2 := withL_len_le f.v.1 (putI x s n)
         have e0 := e0.trans (bds (with1_eq (f := Rec.mk (withL f.v.1 (putI x s n), f.v.2.1, ())) (withL_sorted hok.so _) (by have := hok.len; show (withL f.v.1 (putI x s n)).length ≤ 1000; omega) _))
         obtain ⟨e, f1, f2⟩ := fin (Rec.mk (withL (withL f.v.1 (putI x s n)) (linkI y 1), f.v.2.1, ())) (by unfold entL; rw [if_pos (by simpa using hk2)])
         refine ⟨e, e0.trans (Eq.trans ?_ f1), f2⟩
         rw [hw]; rfl
   ·have e0 := e0.trans (if_pos (by simpa using hc))
    rw [if_pos hc]
    exact ⟨_, e0, rfl⟩
 obtain ⟨e, h1, h2⟩ := key
 refine (bds h1).trans ?_
 show ((plain_errno e).bind fun r_1 => some ((entS f d s n).1, r_1)) = _
 unfold plain_errno
 rw [h2]; rfl
theorem del_ok {α : Type} (l : List α) (i : Nat) (hi : i < l.length) (hl : l.length ≤ 2000000) : del l (i : Int) (IntKind.i64.wrap ((i : Int) + 1)) = some (l.take i ++ l.drop (i + 1)) := by
 rw [lim (by omega)]
 unfold del
 rw [if_pos ⟨by omega, by omega, by omega, by omega⟩]; rfl
theorem look_ok {f : FsR} {d : Int} {s : Str} (h : (lookS f d s).2 = 0) : Ok f.v.1 f.v.2.1 ∧ ∃ i, posI f.v.1 d = some i ∧ i < f.v.1.length ∧ (inAt f.v.1 i).v.1 = d ∧ (inAt f.v.1 i).v.2.1 = 2 ∧ hasN (inAt f.v.1 i).v.2.2.2.2.2.2.1 s = true ∧ (lookS f d s).1 = (inAt f.v.1 i).v.2.2.2.2.2.2.2.1.getD (ptN (inAt f.v.1 i).v.2.2.2.2.2.2.1 s) 0 ∧
  ptN (inAt f.v.1 i).v.2.2.2.2.2.2.1 s < (inAt f.v.1 i).v.2.2.2.2.2.2.1.length ∧ (inAt f.v.1 i).v.2.2.2.2.2.2.2.1.length = (inAt f.v.1 i).v.2.2.2.2.2.2.1.length ∧ ∃ k, posI f.v.1 (lookS f d s).1 = some k ∧ k < f.v.1.length ∧ (inAt f.v.1 k).v.1 = (lookS f d s).1 := by
 unfold lookS at h ⊢
 cases he : (dirS f d).2.c with
 | some e =>
  rw [he] at h
  exfalso
  have h : e = 0 := h
  subst h
  unfold dirS at he
  split at he
  ·split at he
   ·simp at he
   ·split at he <;> simp at he
  ·simp at he
 | none =>
  obtain ⟨hok, i, p1, p2, p3, p4, p5⟩ := dirS_none he
  rw [he] at h
  simp only [p5] at h ⊢
  cases hh : hasN (inAt f.v.1 i).v.2.2.2.2.2.2.1 s with
  | false => rw [hh] at h; simp at h
  | true =>
   obtain ⟨d1, d2, d3, d4, d5⟩ := alone_dir (hok.al _ (inAt_mem p2)) p4
   have hlt : ptN (inAt f.v.1 i).v.2.2.2.2.2.2.1 s < (inAt f.v.1 i).v.2.2.2.2.2.2.1.length := by
    unfold hasN at hh
    simp only [Bool.and_eq_true, decide_eq_true_eq] at hh
    exact hh.1
   refine ⟨hok, i, p1, p2, p3, p4, hh, rfl, hlt, d2, ?_⟩
   simp only [if_true]
   have hm : (inAt f.v.1 i).v.2.2.2.2.2.2.2.1.getD (ptN (inAt f.v.1 i).v.2.2.2.2.2.2.1 s) 0 ∈ numsL f.v.1 := by
    unfold numsL
    rw [List.mem_flatMap]
    refine ⟨_, inAt_mem p2, ?_⟩
    rw [List.getD_eq_getElem?_getD, List.getElem?_eq_getElem (by omega), Option.getD_some]
    exact List.getElem_mem _
   obtain ⟨x, x1, x2⟩ := hok.kn _ hm
   cases hp : posI f.v.1 ((inAt f.v.1 i).v.2.2.2.2.2.2.2.1.getD (ptN (inAt f.v.1 i).v.2.2.2.2.2.2.1 s) 0) with
   | none =>
    exfalso
    obtain ⟨k, hk, rfl⟩ := List.getElem_of_mem x1
    exact posI_none hp k hk (by rw [inAt_get hk]; exact x2)
   | some k => exact ⟨k, rfl, (posI_some hp).1, (posI_some hp).2⟩
theorem Leave_eq {f : FsR} (hs : smallL f.v.1) (d : Int) (s : Str) : plain_Leave f d s = some (leaS f d s) := by
 have e0 : plain_Leave f d s = _ := bds (Lookup_eq hs d s)
 unfold leaS
 by_cases hc : (lookS f d s).2 = 0
 ·have e0 := e0.trans (if_neg (by simp [hc]))
  rw [if_neg (by simp [hc])]
  obtain ⟨hok, i, p1, p2, p3, p4, p5, p6, p7, p8, k, q1, q2, q3⟩ := look_ok hc
  have e0 := e0.trans (bds (Find_eq (by have := hs.1; omega) d))
  have f1 : fndI f.v.1 d = (i : Int) := by unfold fndI; rw [p1]
  have f2 : fndI f.v.1 (lookS f d s).1 = (k : Int) := by unfold fndI; rw [q1]
  rw [f1] at e0
  have e0 := e0.trans ((bds (nthIn p2)).trans (bds (Find_eq (by have := hs.1; omega) _)))
  rw [f2] at e0
  have e0 := e0.trans (bds (nthIn q2))
  rw [p1, q1, Option.getD_some, Option.getD_some]
  have hal := hok.al _ (inAt_mem p2)
  have hyal := hok.al _ (inAt_mem q2)
  generalize inAt f.v.1 i = x at *
  generalize inAt f.v.1 k = y at *
  obtain ⟨d1, d2, d3, d4, d5⟩ := alone_dir hal p4
  have e0 := e0.trans ((bds (bin_eq d1 (by omega) s)).trans (bds (clone2_eq _ (by omega))))
  have e0 := e0.trans ((bds (del_ok _ _ p7 (by omega))).trans ((bds (clone3_eq _ (by omega))).trans (bds (del_ok _ _ (by omega) (by omega)))))
  have hl := hok.len
  by_cases hk2 : y.v.2.1 = 2
  ·have e0 := e0.trans ((if_neg (by simp [hk2])).trans (bds (with1_eq hok.so (by omega) _)))
   refine e0.trans ?_
   unfold leaL
   rw [if_neg (by simp [hk2])]; rfl
  ·have e0 := e0.trans ((if_pos (by simpa using hk2)).trans (bds (with2_eq hok.so (by omega) _ _)))
   refine e0.trans ?_
   have hla := alone_small hyal
   have hw : IntKind.i64.wrap (y.v.2.2.2.1 - 1) = y.v.2.2.2.1 + -1 := by rw [i64w (by omega)]; rfl
   rw [hw]
   unfold leaL
   rw [if_pos (by simpa using hk2)]; rfl
 ·exact (e0.trans (if_pos (by simpa using hc))).trans (by rw [if_pos hc])
theorem Drop_eq {f : FsR} (hs : smallL f.v.1) (n : Int) : plain_Drop f n = some (droS f n) := by
 have e0 : plain_Drop f n = _ := (bds (Find_eq (by have := hs.1; omega) n)).trans (bds (Check_eqL hs))
 unfold droS
 cases hc : chkL f.v.1 f.v.2.1 with
 | false => rw [hc] at e0; exact e0
 | true =>
  rw [hc] at e0
  have e0 := e0.trans (if_neg (by decide))
  have hok := chkL_iff.1 hc
  rw [if_pos rfl]
  unfold fndI at e0
  cases hp : posI f.v.1 n with
  | none => rw [hp] at e0; exact e0.trans (if_pos (by decide))
  | some i =>
   rw [hp] at e0
   obtain ⟨q1, q2⟩ := posI_some hp
   have e0 := e0.trans (if_neg (by simp))
   simp only
   obtain ⟨m, m1, m2, m3⟩ := ups_some hok.len hok.nums
   have e0 := e0.trans (bds (x := decide (n = 1) || decide (0 < (inAt f.v.1 i).v.2.2.2.2.2.2.1.length)) (by
    by_cases h1 : n = 1
    ·rw [if_pos (by simp [h1]), decide_eq_true h1]; rfl
    ·rw [if_neg (by simpa using h1), decide_eq_false h1, Bool.false_or]
     refine (bds (nthIn q1)).trans ?_
     congr 1; rw [decide_eq_decide]; omega))
   have e0 := e0.trans (bds (x := decide (n = 1 ∨ 0 < (inAt f.v.1 i).v.2.2.2.2.2.2.1.length ∨ 0 < (upsL f.v.1 n).length)) (by
    by_cases h1 : n = 1 ∨ 0 < (inAt f.v.1 i).v.2.2.2.2.2.2.1.length
    ·have : (decide (n = 1) || decide (0 < (inAt f.v.1 i).v.2.2.2.2.2.2.1.length)) = true := by simpa using h1
     rw [this, if_pos rfl, decide_eq_true (by rcases h1 with h1 | h1; exact .inl h1; exact .inr (.inl h1))]
    ·have : (decide (n = 1) || decide (0 < (inAt f.v.1 i).v.2.2.2.2.2.2.1.length)) = false := by
      rw [Bool.or_eq_false_iff]; exact ⟨decide_eq_false fun e => h1 (.inl e), decide_eq_false fun e => h1 (.inr e)⟩
     rw [this, if_neg (by decide)]
     refine (bds m1).trans ?_
     rw [m2]
     congr 1; rw [decide_eq_decide]
     constructor
     ·intro h; exact .inr (.inr (by omega))
     ·rintro (h | h | h)
      ·exact absurd (.inl h) h1
      ·exact absurd (.inr h) h1
      ·omega))
   by_cases hb : n = 1 ∨ 0 < (inAt f.v.1 i).v.2.2.2.2.2.2.1.length ∨ 0 < (upsL f.v.1 n).length
   ·rw [decide_eq_true hb] at e0
    rw [if_pos hb]
    exact e0.trans (if_pos rfl)
   ·rw [decide_eq_false hb] at e0
    rw [if_neg hb]
    have hl := hok.len
    have e0 := e0.trans ((if_neg (by decide)).trans (bds (clone1_eq _ (by omega))))
    exact e0.trans (bds (del_ok _ _ q1 (by omega)))
end Go.Ai.Rab
end
section
/- Plain, plainly: what comes at any rate; who is above whom. -/
set_option linter.unusedVariables false
set_option linter.unusedSimpArgs false
set_option maxRecDepth 10000
open Go.Ai.Enc (enc is)
namespace Go.Ai.Rab
/-! ### Small -/
theorem small_some {f : FsR} (hs : smallL f.v.1) : ∃ b, law_small f = some b ∧ (b = true → f.v.1.length ≤ 60) := by
 unfold law_small
 by_cases h : f.v.1.length ≤ 60
 ·rw [if_neg (by simp; omega)]
  obtain ⟨r, h1, h2⟩ := loop_inv (body := law_small_l1 f) (fun a => 0 ≤ a.1 ∧ a.1 ≤ 2060000 ∧ 0 ≤ a.2 ∧ a.2 ≤ f.v.1.length) (fun _ => True) (fun a => (f.v.1.length - a.2).toNat) (fun a hI => by
   obtain ⟨n, i⟩ := a
   obtain ⟨g1, g2, g3, g4⟩ := hI
   simp only at g1 g2 g3 g4
   have e0 : law_small_l1 f (n, i) = _ := bds (x := decide (i < (f.v.1.length : Int)) && decide (n ≤ 50000)) (by
    cases decide (i < (f.v.1.length : Int)) <;> rfl)
   cases hb : decide (i < (f.v.1.length : Int)) && decide (n ≤ 50000) with
   | false =>
    rw [hb] at e0
    exact .inr ⟨n, e0.trans (if_neg (by decide)), trivial⟩
   | true =>
    rw [hb] at e0
    simp only [Bool.and_eq_true, decide_eq_true_eq] at hb
    have e0 := e0.trans (if_pos rfl)
    obtain ⟨k, rfl⟩ : ∃ k : Nat, i = k := ⟨i.toNat, by omega⟩
    have hk : k < f.v.1.length := by omega
    have e0 := e0.trans (bds (nthIn hk))
    have hd := (hs.2 _ (inAt_mem hk)).1
    rw [lim (by omega), i64w (by omega)] at e0
    refine .inl ⟨_, e0, ⟨?_, ?_, ?_, ?_⟩, ?_⟩
    ·simp only; omega
    ·simp only; omega
    ·simp only; omega
    ·simp only; omega
    ·simp only; omega) _ (0, 0) (Nat.le_refl _) ⟨by simp, by simp, by simp, by simp⟩
  exact ⟨_, (bds h1).trans rfl, fun _ => h⟩
 ·rw [if_pos (decide_eq_true (by omega))]
  exact ⟨false, rfl, fun e => by cases e⟩
/-! ### Same -/
theorem eqS_refl (a : List UInt8) : (!eqS a a) = false := by rw [(eqS_iff a a).2 rfl]; rfl
theorem eqS_reflS (a : Str) : (!eqS a a) = false := eqS_refl a
theorem attrs_same {a : List AttrR} (h : a.length ≤ 2000000) : ref_attrs a a = some true := by
 unfold ref_attrs
 rw [if_neg (by simp)]
 have h1 := loop_all (body := ref_attrs_l1 a a) a.length (fun _ => true) false (fun i hi => by
  refine (if_pos (decide_eq_true (show (i : Int) < (a.length : Int) by omega))).trans ?_
  refine (bds (nth_get hi)).trans ((bds (nth_get hi)).trans ?_)
  rw [eqS_reflS]
  refine (bds (x := false) ?_).trans ?_
  ·rw [if_neg (by decide)]
   refine (bds (nth_get hi)).trans ((bds (nth_get hi)).trans ?_)
   congr 1; exact eqS_refl _
  ·rw [lim (by omega)]; rfl) (if_neg (by simp)) 0 (Nat.zero_le _)
 have : (List.range' 0 (a.length - 0)).all (fun _ => true) = true := by simp
 rw [this] at h1
 exact (bds h1).trans rfl
theorem inode_same {x : InodeR} (h : smallI x) : ref_Inode x x = some true := by
 obtain ⟨h1, h2, h3, h4⟩ := h
 obtain ⟨⟨num, k, m, n, d, t, ns, is, at_, u⟩⟩ := x
 simp only at h1 h2 h3 h4
 have b1 : ∀ c : Int, (c != c) = false := fun c => by simp
 unfold ref_Inode
 simp only [b1, if_neg Bool.false_ne_true, bd, eqS_refl, eqS_reflS, attrs_same h4, Bool.false_eq_true, if_false, Option.bind_some, Bool.not_true]
 have g1 := loop_all (body := ref_Inode_l1 (Rec.mk (num, k, m, n, d, t, ns, is, at_, u)) (Rec.mk (num, k, m, n, d, t, ns, is, at_, u))) ns.length (fun _ => true) false (fun i hi => by
  refine (if_pos (decide_eq_true (show (i : Int) < (ns.length : Int) by omega))).trans ?_
  refine (bds (nthN hi)).trans ((bds (nthN hi)).trans ?_)
  rw [eqS_reflS, lim (by omega)]; rfl) (if_neg (by simp)) 0 (Nat.zero_le _)
 have g2 := loop_all (body := ref_Inode_l2 (Rec.mk (num, k, m, n, d, t, ns, is, at_, u)) (Rec.mk (num, k, m, n, d, t, ns, is, at_, u))) is.length (fun _ => true) false (fun i hi => by
  refine (if_pos (decide_eq_true (show (i : Int) < (is.length : Int) by omega))).trans ?_
  refine (bds (nthD 0 hi)).trans ((bds (nthD 0 hi)).trans ?_)
  rw [b1, lim (by omega)]; rfl) (if_neg (by simp)) 0 (Nat.zero_le _)
 have e1 : (List.range' 0 (ns.length - 0)).all (fun _ => true) = true := by simp
 have e2 : (List.range' 0 (is.length - 0)).all (fun _ => true) = true := by simp
 rw [e1] at g1; rw [e2] at g2
 refine (bds g1).trans ?_
 exact (bds g2).trans rfl
theorem Same_refl {f : FsR} (hs : smallL f.v.1) : ref_Same f f = some true := by
 have b1 : ∀ c : Int, (c != c) = false := fun c => by simp
 unfold ref_Same
 simp only [b1, Bool.false_eq_true, if_false, Option.bind_some]
 have g1 := loop_all (body := ref_Same_l1 f f) f.v.1.length (fun _ => true) false (fun i hi => by
  refine (if_pos (decide_eq_true (show (i : Int) < (f.v.1.length : Int) by omega))).trans ?_
  refine (bds (nthIn hi)).trans ((bds (nthIn hi)).trans ((bds (inode_same (hs.2 _ (inAt_mem hi)))).trans ?_))
  have := hs.1
  rw [lim (by omega)]; rfl) (if_neg (by simp)) 0 (Nat.zero_le _)
 have e1 : (List.range' 0 (f.v.1.length - 0)).all (fun _ => true) = true := by simp
 rw [e1] at g1
 exact (bds g1).trans rfl
/-! ### What must come at any rate -/
theorem small_chk {f : FsR} (h : chkL f.v.1 f.v.2.1 = true) : smallL f.v.1 := (chkL_iff.1 h).small
def F0 : FsR := Rec.mk ([Rec.mk (1, 2, 0, 1, [], str [], [], [], [], ())], 2, ())
def F1 : FsR := Rec.mk ([Rec.mk (1, 2, 0, 1, [], str [], [], [], [], ()), Rec.mk (2, 1, 420, 0, [], str [], [], [], [], ())], 2, ())
def F2 : FsR := Rec.mk ([Rec.mk (1, 2, 0, 1, [], str [], [str [97]], [2], [], ()), Rec.mk (2, 1, 420, 1, [], str [], [], [], [], ())], 2, ())
def F3 : FsR := Rec.mk ([Rec.mk (1, 2, 0, 1, [], str [], [str [97], str [98]], [2, 2], [], ()), Rec.mk (2, 1, 420, 2, [], str [], [], [], [], ())], 2, ())
def F4 : FsR := Rec.mk ([Rec.mk (1, 2, 0, 1, [], str [], [str [98]], [2], [], ()), Rec.mk (2, 1, 420, 1, [], str [], [], [], [], ())], 2, ())
theorem c0 : chkL F0.v.1 F0.v.2.1 = true := by kernel_rfl
theorem c1 : chkL F1.v.1 F1.v.2.1 = true := by kernel_rfl
theorem c2 : chkL F2.v.1 F2.v.2.1 = true := by kernel_rfl
theorem c3 : chkL F3.v.1 F3.v.2.1 = true := by kernel_rfl
theorem c4 : chkL F4.v.1 F4.v.2.1 = true := by kernel_rfl
theorem m1 : makeS F0 1 420 (str []) = (F1, 2, 0) := by kernel_rfl
theorem m2 : entS F1 1 (str [97]) 2 = (F2, 0) := by kernel_rfl
theorem m3 : entS F2 1 (str [98]) 2 = (F3, 0) := by kernel_rfl
theorem m4 : leaS F3 1 (str [97]) = (F4, 2, 0) := by kernel_rfl
theorem m5 : lookS F4 1 (str [98]) = (2, 0) := by kernel_rfl
theorem m6 : lookS F4 1 (str [97]) = (0, 201) := by kernel_rfl
theorem m7 : (droS F4 2).2 = 215 := by kernel_rfl
theorem m8 : (droS (Rec.mk (([] : List InodeR), (0 : Int), ())) 1).2 = 2 := by kernel_rfl
theorem heads_ok : law_heads = some true := by
 have e0 : law_heads = _ := bds (x := F0) rfl
 have e0 := e0.trans (bds ((Make_eq (small_chk c0) _ _ _).trans (congrArg some m1)))
 have e0 := e0.trans (bds ((enter_eq (small_chk c1) _ _ _).trans (congrArg some m2)))
 have e0 := e0.trans (bds ((enter_eq (small_chk c2) _ _ _).trans (congrArg some m3)))
 have e0 := e0.trans (bds ((Leave_eq (small_chk c3) _ _).trans (congrArg some m4)))
 have e0 := e0.trans (bds ((Lookup_eq (small_chk c4) _ _).trans (congrArg some m5)))
 have e0 := e0.trans (bds ((Lookup_eq (small_chk c4) _ _).trans (congrArg some m6)))
 have e0 := e0.trans (bds (Drop_eq (small_chk c4) _))
 have e0 := e0.trans (bds (Drop_eq (f := Rec.mk (([] : List InodeR), (0 : Int), ())) ⟨Nat.zero_le _, fun x hx => by cases hx⟩ _))
 rw [show plain_Check F4 = some true from (Check_eqL (small_chk c4)).trans (congrArg some c4)] at e0
 show law_heads = _
 refine e0.trans ?_
 show ((if ((0 : Int) == 0) = true then some ((2 : Int) == 2) else some false).bind _) = _
 simp only [m7, m8]
 rfl
/-! ### Who is above whom -/
theorem upsX_mem {x : InodeR} {l : List Int} {k d : Int} : d ∈ upsX x l k ↔ d = x.v.1 ∧ k ∈ l := by
 unfold upsX
 simp only [List.mem_map, List.mem_filter, beq_iff_eq]
 constructor
 ·rintro ⟨a, ⟨h1, rfl⟩, rfl⟩; exact ⟨rfl, h1⟩
 ·rintro ⟨rfl, h⟩; exact ⟨k, ⟨h, rfl⟩, rfl⟩
theorem upsL_mem {l : List InodeR} {k d : Int} : d ∈ upsL l k ↔ ∃ x ∈ l, d = x.v.1 ∧ k ∈ x.v.2.2.2.2.2.2.2.1 := by
 unfold upsL
 simp only [List.mem_flatMap, upsX_mem]
theorem Ok.num {l : List InodeR} {nx : Int} (h : Ok l nx) {x : InodeR} (hx : x ∈ l) : 1 ≤ x.v.1 ∧ x.v.1 ≤ 1024 := by
 have := alone_small (h.al x hx); omega
theorem Ok.dir {l : List InodeR} {nx : Int} (h : Ok l nx) {x : InodeR} (hx : x ∈ l) (hk : x.v.2.1 = 2) : (upsL l x.v.1).length ≤ 1 ∧ ¬ (0 < (upsL l x.v.1).length ∧ x.v.1 = 1) ∧ endsF l (l.length + 1) x.v.1 = true := by
 have := h.cn x hx
 unfold cndX at this
 rw [if_neg (by simp [hk])] at this
 simp only [Bool.and_eq_true, Bool.not_eq_true', Bool.and_eq_false_iff, decide_eq_true_eq, decide_eq_false_iff_not] at this
 exact ⟨this.1, fun h => by rcases this.2.1 with h1 | h1; exact h1 h.1; exact h1 h.2, this.2.2⟩
theorem Ok.file {l : List InodeR} {nx : Int} (h : Ok l nx) {x : InodeR} (hx : x ∈ l) (hk : x.v.2.1 ≠ 2) : ((upsL l x.v.1).length : Int) = x.v.2.2.2.1 := by
 have := h.cn x hx
 unfold cndX at this
 rw [if_pos (by simpa using hk)] at this
 exact of_decide_eq_true this
end Go.Ai.Rab
end
