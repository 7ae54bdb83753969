/- My own texts DevP0, DevNp1, DevNp2, DevNp3, DevNp4, one behind the other. -/
import Derived.Test.YtabgpaejofjpbaaDoorWAF
import Derived.Test.YtabgpaejofjpbaaDoorWAO
import Derived.Lib.TrimUEq
import Derived.Lib.QuoteLoop
import Derived.Lib.ValidLaws
import Derived.Lib.SplitLaws
section
/- Plain laws on typed loops. -/
set_option linter.unusedVariables false
set_option linter.unusedSimpArgs false
open Go.Ai.Enc (enc is)
open Go.Ai.Res (res ris)
open Go.Ai.Args (args)
namespace Go.Ai
theorem i64_ok (n : Int) (h : -9223372036854775808 ≤ n ∧ n ≤ 9223372036854775807) : IntKind.i64.wrap n = n := IntWalk.i64_in n h
theorem nth_nat {α : Type} (l : List α) (i : Nat) : nth l (i : Int) = l[i]? := by simp [nth]
theorem nth_get {α : Type} {l : List α} {i : Nat} (h : i < l.length) : nth l (i : Int) = some l[i] := by rw [nth_nat, List.getElem?_eq_getElem h]
theorem sub_nat {α : Type} (l : List α) (a b : Nat) (h : a ≤ b) (h' : b ≤ l.length) : sub l (a : Int) (b : Int) = some ((l.take b).drop a) := by
  unfold sub; rw [if_pos (by omega)]; simp
theorem app_ok {α : Type} {z : Nat} (l m : List α) (h : l.length + m.length ≤ 137438953472) (h' : (l.length + m.length) * z ≤ 137438953472) : app z l m = some (l ++ m) := by
  unfold app roomy; rw [if_pos (by simp [h, h'])]
theorem mkz_ok {α : Type} {z : α} {by_ n : Nat} (h : n ≤ 137438953472) (h' : n * by_ ≤ 137438953472) : mkz by_ (n : Int) z = some (List.replicate n z) := by
  unfold mkz roomy; rw [if_pos (by simp [h, h'])]; simp
/-- A loop that looks at each number till one is not as it should be. -/
theorem loop_all {ρ : Type} {body : Int → Option (Int ⊕ (Unit ⊕ ρ))} (n : Nat) (p : Nat → Bool) (r : ρ) (h : ∀ i : Nat, i < n → body i = if p i then some (.inl ((i + 1 : Nat) : Int)) else some (.inr (.inr r))) (hn : body n = some (.inr (.inl ()))) :
    ∀ i : Nat, i ≤ n → loop body i = some (if (List.range' i (n - i)).all p then .inl () else .inr r) := by
  intro i hi
  obtain ⟨d, rfl⟩ : ∃ d, n = i + d := ⟨n - i, by omega⟩
  clear hi
  induction d generalizing i with
  | zero => simp only [Nat.add_zero, Nat.sub_self, List.range'_zero, List.all_nil, if_true]; exact loop_done hn
  | succ d ih =>
    have e : i + (d + 1) - i = d + 1 := by omega
    rw [e, List.range'_succ, List.all_cons]
    have h1 := h i (by omega)
    by_cases hp : p i = true
    · rw [if_pos hp] at h1
      rw [loop_next h1, show i + (d + 1) = (i + 1) + d by omega] at *
      have := ih (i + 1) (fun j hj => h j (by omega)) hn
      rw [show i + 1 + d - (i + 1) = d by omega] at this
      rw [this, hp, Bool.true_and]
    · rw [if_neg hp] at h1
      have hp' : p i = false := by simpa using hp
      rw [loop_done h1, hp', Bool.false_and]; rfl
theorem range_all {n : Nat} {p : Nat → Bool} : (List.range' 0 n).all p = true ↔ ∀ i, i < n → p i = true := by
  simp [List.all_eq_true, List.mem_range'_1]
/-- A loop over a row's numbers that carries a value on. -/
theorem loop_fold {σ ρ : Type} {body : σ × Int → Option ((σ × Int) ⊕ ρ)} (f : Nat → σ → σ) (ok : Nat → σ → Prop) (out : σ → ρ) (d : Nat) :
    ∀ (i : Nat) (s : σ), ok i s → (∀ (j : Nat) (s : σ), j < i + d → ok j s → body (s, (j : Int)) = some (.inl (f j s, ((j + 1 : Nat) : Int))) ∧ ok (j + 1) (f j s)) → (∀ s, ok (i + d) s → body (s, ((i + d : Nat) : Int)) = some (.inr (out s))) → loop body (s, (i : Int)) = some (out ((List.range' i d).foldl (fun s i => f i s) s)) := by
  induction d with
  | zero => intro i s ho h hn; exact loop_done (hn s ho)
  | succ d ih =>
    intro i s ho h hn
    rw [List.range'_succ, List.foldl_cons]
    obtain ⟨h1, h2⟩ := h i s (by omega) ho
    rw [loop_next h1]
    have e : i + (d + 1) = (i + 1) + d := by omega
    exact ih (i + 1) (f i s) h2 (fun j s hj => h j s (by omega)) (by rw [← e]; exact hn)
end Go.Ai
end
section
/- Names, plainly: runes. -/
set_option linter.unusedVariables false
set_option linter.unusedSimpArgs false
open Go.Ai.Enc (enc is)
namespace Go.Ai.Rab
open Go.Lib (decodeL decodeN)

/-- The first rune's number, and how many bytes it takes. -/
def rn (l : List UInt8) : Nat := (decodeL l).1
def wd (l : List UInt8) : Nat := (decodeL l).2
/-- Is it a rune? -/
def okr (l : List UInt8) : Bool := !decide (rn l = 65533 ∧ wd l = 1)
theorem wd_pos (l : List UInt8) : 1 ≤ wd l := by unfold wd; rw [Go.Lib.decodeL_N]; exact Go.Lib.decodeN_ge1 _ _ _ _ _
theorem wd_le {l : List UInt8} (h : l ≠ []) : wd l ≤ l.length := by
  unfold wd; rw [Go.Lib.decodeL_N]
  exact Go.Lib.decodeN_width_le _ _ _ _ _ (by have := List.length_pos_iff.2 h; omega)
theorem rn_le (l : List UInt8) : rn l ≤ 1114111 := by unfold rn; rw [Go.Lib.decodeL_N]; exact Go.Lib.decodeN_rune_le _ _ _ _ _ (UInt8.toNat_lt _)
theorem runeAt_eq (s : List UInt8) (p : Nat) : runeAt s p = ⟨(rn (List.drop p s) : Nat)⟩ := by
  unfold runeAt rn
  rw [← Go.Lib.decodeL_drop]
theorem runeLen_eq (s : List UInt8) (p : Nat) : runeLen s p = wd (List.drop p s) := by
  unfold runeLen wd
  rw [← Go.Lib.decodeL_drop]
theorem Decode_eq {s : List UInt8} (h : List.length s ≠ 0) : utf8_Decode s = some (Rune.mk (rn s : Nat), ((wd s : Nat) : Int)) := by
  unfold utf8_Decode Go.Lib.decodeGo
  have e : (ba s).size = List.length s := List.size_toArray ..
  rw [e, if_neg h]
  rfl
/-! ### The document's rune -/
theorem nth_at {l : List UInt8} {i : Nat} (h : i < l.length) : nth l (i : Int) = some (l.getD i 0) := by
  rw [nth_get h]; simp [List.getD, h]
theorem i64w {n : Int} (h : -9223372036854775808 ≤ n ∧ n ≤ 9223372036854775807) : IntKind.i64.wrap n = n := IntWalk.i64_in n h
theorem rune_step {n : Int} {s : List UInt8} {x : Int} {i : Nat} (hn : n ≤ 4) (hi : (i : Int) < n) (hl : i < List.length s) (hx : 0 ≤ x ∧ x < 100000000) :
    ref_Rune_l2 n s (x, (i : Int)) = if (List.getD s i 0).toNat / 64 = 2 then some (.inl (x * 64 + (List.getD s i 0).toNat - 128, ((i + 1 : Nat) : Int))) else some (.inr (.inr (65533, 1, false))) := by
  have hc := (List.getD s i 0).toNat_lt
  generalize hc0 : List.getD s i 0 = c at *
  have e1 : IntKind.i64.wrap (x * 64) = x * 64 := i64w (by omega)
  have e2 : IntKind.i64.wrap (x * 64 + (c.toNat : Int)) = x * 64 + c.toNat := i64w (by omega)
  have e3 : IntKind.i64.wrap (x * 64 + (c.toNat : Int) - 128) = x * 64 + c.toNat - 128 := i64w (by omega)
  have e4 : IntKind.i64.wrap ((i : Int) + 1) = (i : Int) + 1 := i64w (by omega)
  have e5 : nth s (i : Int) = some c := by rw [← hc0]; exact nth_at hl
  show (if decide ((i : Int) < n) = true then _ else _) = _
  rw [if_pos (decide_eq_true hi)]
  show ((nth s (i : Int)).bind fun c1 => _) = _
  rw [e5, Option.bind_some, e1, e2, e3, e4]
  by_cases h1 : c.toNat < 128
  · rw [if_pos (decide_eq_true (by omega)), Option.bind_some, if_pos rfl, if_neg (by omega)]
  · rw [if_neg (by simp; omega), Option.bind_some]
    by_cases h2 : c.toNat ≥ 192
    · rw [if_pos (decide_eq_true (by omega)), if_neg (by omega)]
    · rw [if_neg (by simp; omega), if_pos (by omega)]
      rfl
theorem rune_end {n : Int} {s : List UInt8} {x : Int} {i : Int} (hi : ¬ i < n) : ref_Rune_l2 n s (x, i) = some (.inr (.inl x)) := by
  show (if decide (i < n) = true then _ else _) = _
  rw [if_neg (by simp; omega)]
theorem rune_fin {least n x : Int} : ref_Rune_a2 least n (.inl x) = some (if x < least ∨ x > 1114111 ∨ (55296 ≤ x ∧ x < 57344) then (65533, 1, false) else (x, n, true)) := by
  show (Option.bind _ _) = _
  by_cases h1 : x < least
  · rw [if_pos (decide_eq_true h1), Option.bind_some, if_pos rfl, Option.bind_some, if_pos rfl, if_pos (.inl h1)]
  · rw [if_neg (by simpa using h1), Option.bind_some]
    by_cases h2 : x > 1114111
    · rw [if_pos (decide_eq_true h2), Option.bind_some, if_pos rfl, if_pos (.inr (.inl h2))]
    · rw [if_neg (by simpa using h2)]
      by_cases h3 : x ≥ 55296
      · rw [if_pos (decide_eq_true h3), Option.bind_some, Option.bind_some]
        by_cases h4 : x < 57344
        · rw [if_pos (decide_eq_true h4), if_pos (by omega)]
        · rw [if_neg (by simpa using h4), if_neg (by omega)]
      · rw [if_neg (by simpa using h3), Option.bind_some, Option.bind_some, if_neg (by simp), if_neg (by omega)]
/-- What the document's rune is, of a text's length and first bytes. -/
def refN (n b0 b1 b2 b3 : Nat) : Int × Int × Bool :=
  let fin (least w x : Int) : Int × Int × Bool := if x < least ∨ x > 1114111 ∨ (55296 ≤ x ∧ x < 57344) then (65533, 1, false) else (x, w, true)
  if b0 < 128 then (b0, 1, true)
  else if 194 ≤ b0 ∧ b0 < 224 then (if n < 2 then (65533, 1, false) else if b1 / 64 = 2 then fin 128 2 ((b0 - 192) * 64 + b1 - 128) else (65533, 1, false))
  else if 224 ≤ b0 ∧ b0 < 240 then (if n < 3 then (65533, 1, false) else if b1 / 64 = 2 then (if b2 / 64 = 2 then fin 2048 3 (((b0 - 224) * 64 + b1 - 128) * 64 + b2 - 128) else (65533, 1, false)) else (65533, 1, false))
  else if 240 ≤ b0 ∧ b0 < 245 then (if n < 4 then (65533, 1, false) else if b1 / 64 = 2 then (if b2 / 64 = 2 then (if b3 / 64 = 2 then fin 65536 4 ((((b0 - 240) * 64 + b1 - 128) * 64 + b2 - 128) * 64 + b3 - 128) else (65533, 1, false)) else (65533, 1, false)) else (65533, 1, false))
  else (65533, 1, false)
set_option maxHeartbeats 2000000 in
theorem refN_eq (n b0 b1 b2 b3 : Nat) (h0 : b0 < 256) (h1 : b1 < 256) (h2 : b2 < 256) (h3 : b3 < 256) : refN n b0 b1 b2 b3 = (((decodeN n b0 b1 b2 b3).1 : Int), ((decodeN n b0 b1 b2 b3).2 : Int), !decide ((decodeN n b0 b1 b2 b3).1 = 65533 ∧ (decodeN n b0 b1 b2 b3).2 = 1)) := by
  unfold refN decodeN
  simp only []
  repeat' split
  all_goals first
    | (exfalso; omega)
    | (simp; omega)
    | (simp; done)
    | skip
theorem bds {α β : Type} {o : Option α} {x : α} {f : α → Option β} (h : o = some x) : o.bind f = f x := by rw [h]; rfl
theorem bd {α β : Type} (x : α) (f : α → Option β) : (some x).bind f = f x := rfl
theorem rune_j2 {s : List UInt8} {x least : Int} (hx : 0 ≤ x ∧ x < 1000) : ref_Rune_j1 s 2 x least = some (if List.length s < 2 then (65533, 1, false) else if (List.getD s 1 0).toNat / 64 = 2 then (if x * 64 + (List.getD s 1 0).toNat - 128 < least ∨ x * 64 + (List.getD s 1 0).toNat - 128 > 1114111 ∨ (55296 ≤ x * 64 + (List.getD s 1 0).toNat - 128 ∧ x * 64 + (List.getD s 1 0).toNat - 128 < 57344) then (65533, 1, false) else (x * 64 + (List.getD s 1 0).toNat - 128, 2, true)) else (65533, 1, false)) := by
  unfold ref_Rune_j1
  by_cases hl : List.length s < 2
  · rw [if_pos (decide_eq_true (by omega)), if_pos hl]
  · rw [if_neg (by simp; omega), if_neg hl]
    have s1 := rune_step (n := 2) (s := s) (x := x) (i := 1) (by omega) (by omega) (by omega) (by omega)
    by_cases c1 : (List.getD s 1 0).toNat / 64 = 2
    · rw [if_pos c1] at s1
      rw [if_pos c1, show ((x, 1) : Int × Int) = (x, ((1 : Nat) : Int)) from rfl, loop_next s1, loop_done (rune_end (by decide)), bd, rune_fin]
    · rw [if_neg c1] at s1
      rw [if_neg c1, show ((x, 1) : Int × Int) = (x, ((1 : Nat) : Int)) from rfl, loop_done s1]; rfl
theorem rune_j3 {s : List UInt8} {x least : Int} (hx : 0 ≤ x ∧ x < 1000) : ref_Rune_j1 s 3 x least = some (if List.length s < 3 then (65533, 1, false) else if (List.getD s 1 0).toNat / 64 = 2 then (if (List.getD s 2 0).toNat / 64 = 2 then (if (x * 64 + (List.getD s 1 0).toNat - 128) * 64 + (List.getD s 2 0).toNat - 128 < least ∨ (x * 64 + (List.getD s 1 0).toNat - 128) * 64 + (List.getD s 2 0).toNat - 128 > 1114111 ∨ (55296 ≤ (x * 64 + (List.getD s 1 0).toNat - 128) * 64 + (List.getD s 2 0).toNat - 128 ∧ (x * 64 + (List.getD s 1 0).toNat - 128) * 64 + (List.getD s 2 0).toNat - 128 < 57344) then (65533, 1, false) else ((x * 64 + (List.getD s 1 0).toNat - 128) * 64 + (List.getD s 2 0).toNat - 128, 3, true)) else (65533, 1, false)) else (65533, 1, false)) := by
  unfold ref_Rune_j1
  by_cases hl : List.length s < 3
  · rw [if_pos (decide_eq_true (by omega)), if_pos hl]
  · rw [if_neg (by simp; omega), if_neg hl]
    have s1 := rune_step (n := 3) (s := s) (x := x) (i := 1) (by omega) (by omega) (by omega) (by omega)
    by_cases c1 : (List.getD s 1 0).toNat / 64 = 2
    · rw [if_pos c1] at s1
      have hb := (List.getD s 1 0).toNat_lt
      have s2 := rune_step (n := 3) (s := s) (x := x * 64 + (List.getD s 1 0).toNat - 128) (i := 2) (by omega) (by omega) (by omega) (by omega)
      rw [if_pos c1, show ((x, 1) : Int × Int) = (x, ((1 : Nat) : Int)) from rfl, loop_next s1]
      by_cases c2 : (List.getD s 2 0).toNat / 64 = 2
      · rw [if_pos c2] at s2
        rw [if_pos c2, loop_next s2, loop_done (rune_end (by decide)), bd, rune_fin]
      · rw [if_neg c2] at s2
        rw [if_neg c2, loop_done s2]; rfl
    · rw [if_neg c1] at s1
      rw [if_neg c1, show ((x, 1) : Int × Int) = (x, ((1 : Nat) : Int)) from rfl, loop_done s1]; rfl
theorem rune_j4 {s : List UInt8} {x least : Int} (hx : 0 ≤ x ∧ x < 100) : ref_Rune_j1 s 4 x least = some (if List.length s < 4 then (65533, 1, false) else if (List.getD s 1 0).toNat / 64 = 2 then (if (List.getD s 2 0).toNat / 64 = 2 then (if (List.getD s 3 0).toNat / 64 = 2 then (if ((x * 64 + (List.getD s 1 0).toNat - 128) * 64 + (List.getD s 2 0).toNat - 128) * 64 + (List.getD s 3 0).toNat - 128 < least ∨ ((x * 64 + (List.getD s 1 0).toNat - 128) * 64 + (List.getD s 2 0).toNat - 128) * 64 + (List.getD s 3 0).toNat - 128 > 1114111 ∨ (55296 ≤ ((x * 64 + (List.getD s 1 0).toNat - 128) * 64 + (List.getD s 2 0).toNat - 128) * 64 + (List.getD s 3 0).toNat - 128 ∧ ((x * 64 + (List.getD s 1 0).toNat - 128) * 64 + (List.getD s 2 0).toNat - 128) * 64 + (List.getD s 3 0).toNat - 128 < 57344) then (65533, 1, false) else (((x * 64 + (List.getD s 1 0).toNat - 128) * 64 + (List.getD s 2 0).toNat - 128) * 64 + (List.getD s 3 0).toNat - 128, 4, true)) else (65533, 1, false)) else (65533, 1, false)) else (65533, 1, false)) := by
  unfold ref_Rune_j1
  by_cases hl : List.length s < 4
  · rw [if_pos (decide_eq_true (by omega)), if_pos hl]
  · rw [if_neg (by simp; omega), if_neg hl]
    have s1 := rune_step (n := 4) (s := s) (x := x) (i := 1) (by omega) (by omega) (by omega) (by omega)
    by_cases c1 : (List.getD s 1 0).toNat / 64 = 2
    · rw [if_pos c1] at s1
      have hb := (List.getD s 1 0).toNat_lt
      have s2 := rune_step (n := 4) (s := s) (x := x * 64 + (List.getD s 1 0).toNat - 128) (i := 2) (by omega) (by omega) (by omega) (by omega)
      rw [if_pos c1, show ((x, 1) : Int × Int) = (x, ((1 : Nat) : Int)) from rfl, loop_next s1]
      by_cases c2 : (List.getD s 2 0).toNat / 64 = 2
      · rw [if_pos c2] at s2
        have hb2 := (List.getD s 2 0).toNat_lt
        have s3 := rune_step (n := 4) (s := s) (x := (x * 64 + (List.getD s 1 0).toNat - 128) * 64 + (List.getD s 2 0).toNat - 128) (i := 3) (by omega) (by omega) (by omega) (by omega)
        rw [if_pos c2, loop_next s2]
        by_cases c3 : (List.getD s 3 0).toNat / 64 = 2
        · rw [if_pos c3] at s3
          rw [if_pos c3, loop_next s3, loop_done (rune_end (by decide)), bd, rune_fin]
        · rw [if_neg c3] at s3
          rw [if_neg c3, loop_done s3]; rfl
      · rw [if_neg c2] at s2
        rw [if_neg c2, loop_done s2]; rfl
    · rw [if_neg c1] at s1
      rw [if_neg c1, show ((x, 1) : Int × Int) = (x, ((1 : Nat) : Int)) from rfl, loop_done s1]; rfl
theorem Rune_refN {s : List UInt8} (h : List.length s ≠ 0) : ref_Rune s = some (refN (List.length s) (List.getD s 0 0).toNat (List.getD s 1 0).toNat (List.getD s 2 0).toNat (List.getD s 3 0).toNat) := by
  have hc := (List.getD s 0 0).toNat_lt
  have e0 : nth (α := UInt8) s 0 = some (List.getD s 0 0) := nth_at (l := s) (i := 0) (by omega)
  unfold ref_Rune refN
  rw [e0, bd]
  generalize hc0 : List.getD s 0 0 = c at *
  have w1 : 194 ≤ c.toNat → IntKind.i64.wrap ((c.toNat : Int) - 192) = (c.toNat : Int) - 192 := fun _ => i64w (by omega)
  have w2 : 194 ≤ c.toNat → IntKind.i64.wrap ((c.toNat : Int) - 224) = (c.toNat : Int) - 224 := fun _ => i64w (by omega)
  have w3 : 194 ≤ c.toNat → IntKind.i64.wrap ((c.toNat : Int) - 240) = (c.toNat : Int) - 240 := fun _ => i64w (by omega)
  have D : ∀ {p q : Prop} [Decidable p] [Decidable q], (p ↔ q) → decide p = decide q := fun h => decide_eq_decide.2 h
  rw [D (show ((c.toNat : Int) < 128) ↔ c.toNat < 128 by omega), D (show ((c.toNat : Int) ≥ 194) ↔ 194 ≤ c.toNat by omega), D (show ((c.toNat : Int) < 224) ↔ c.toNat < 224 by omega), D (show ((c.toNat : Int) ≥ 224) ↔ 224 ≤ c.toNat by omega), D (show ((c.toNat : Int) < 240) ↔ c.toNat < 240 by omega), D (show ((c.toNat : Int) ≥ 240) ↔ 240 ≤ c.toNat by omega), D (show ((c.toNat : Int) < 245) ↔ c.toNat < 245 by omega)]
  by_cases a0 : c.toNat < 128
  · simp only [a0, decide_true, if_true]
  · by_cases a1 : 194 ≤ c.toNat
    · rw [w1 a1, w2 a1, w3 a1]
      by_cases a2 : c.toNat < 224
      · simp only [a0, a1, a2, decide_true, decide_false, if_true, if_false, Bool.false_eq_true, bd, and_self]
        exact rune_j2 (by omega)
      · have a3 : 224 ≤ c.toNat := by omega
        by_cases a4 : c.toNat < 240
        · simp only [a0, a1, a2, a3, a4, decide_true, decide_false, if_true, if_false, Bool.false_eq_true, bd, and_self, and_false]
          exact rune_j3 (by omega)
        · have a5 : 240 ≤ c.toNat := by omega
          by_cases a6 : c.toNat < 245
          · simp only [a0, a1, a2, a3, a4, a5, a6, decide_true, decide_false, if_true, if_false, Bool.false_eq_true, bd, and_self, and_false]
            exact rune_j4 (by omega)
          · simp only [a0, a1, a2, a3, a4, a5, a6, decide_true, decide_false, if_true, if_false, Bool.false_eq_true, bd, and_self, and_false]
    · have a3 : ¬ 224 ≤ c.toNat := by omega
      have a5 : ¬ 240 ≤ c.toNat := by omega
      simp only [a0, a1, a3, a5, decide_true, decide_false, if_true, if_false, Bool.false_eq_true, bd, and_self, false_and]
theorem Rune_eq {s : List UInt8} (h : List.length s ≠ 0) : ref_Rune s = some ((rn s : Int), (wd s : Int), okr s) := by
  rw [Rune_refN h, refN_eq _ _ _ _ _ (UInt8.toNat_lt _) (UInt8.toNat_lt _) (UInt8.toNat_lt _) (UInt8.toNat_lt _)]
  have e : decodeN (List.length s) (List.getD s 0 0).toNat (List.getD s 1 0).toNat (List.getD s 2 0).toNat (List.getD s 3 0).toNat = decodeL s := (Go.Lib.decodeL_N s).symm
  rw [e]
  rfl
/-! ### How many runes -/
theorem subT_drop {s : List UInt8} {i : Nat} (h : i ≤ List.length s) : subT s (i : Int) (List.length s : Nat) = some (List.drop i s) := by
  unfold subT
  rw [sub_nat (α := UInt8) s i (List.length s) h (Nat.le_refl _)]
  rw [List.take_length]
def cntF : Nat → List UInt8 → Nat
  | 0, _ => 0
  | f + 1, l => if l = [] then 0 else cntF f (l.drop (wd l)) + 1
theorem cntF_succ (f : Nat) (l : List UInt8) : cntF (f + 1) l = if l = [] then 0 else cntF f (l.drop (wd l)) + 1 := rfl
theorem cntF_le : ∀ (f : Nat) (l : List UInt8), cntF f l ≤ l.length
  | 0, _ => Nat.zero_le _
  | f + 1, l => by
    unfold cntF
    split
    · exact Nat.zero_le _
    · have h1 := cntF_le f (l.drop (wd l))
      have h2 := wd_pos l
      rw [List.length_drop] at h1
      have : 0 < l.length := List.length_pos_iff.2 ‹_›
      omega
theorem count_loop {s : List UInt8} : ∀ (f p : Nat) (n : Nat), p ≤ List.length s → List.length s ≤ p + f → n + (List.length s - p) ≤ 9223372036854775807 → loop (name_Count_l1 s) ((n : Int), p) = some ((n + cntF f (List.drop p s) : Nat) : Int)
  | 0, p, n, h1, h2, h3 => by
    refine (loop_done (r := (n : Int)) ?_).trans (by simp [cntF])
    show (if p < List.length s then _ else _) = _
    rw [if_neg (by omega)]
  | f + 1, p, n, h1, h2, h3 => by
    by_cases hp : p < List.length s
    · have hne : List.drop p s ≠ [] := fun e => by
        have := congrArg List.length e
        rw [List.length_drop] at this; simp at this; omega
      have hw := wd_pos (List.drop p s)
      have hw2 := wd_le hne
      rw [List.length_drop] at hw2
      have hb : name_Count_l1 s ((n : Int), p) = some (.inl (((n + 1 : Nat) : Int), p + wd (List.drop p s))) := by
        show (if p < List.length s then _ else _) = _
        rw [if_pos hp, runeLen_eq, i64w (by omega)]
        rfl
      rw [loop_next hb, count_loop f _ (n + 1) (by omega) (by omega) (by omega)]
      rw [cntF_succ, if_neg hne, List.drop_drop, show n + 1 + cntF f (List.drop (p + wd (List.drop p s)) s) = n + (cntF f (List.drop (p + wd (List.drop p s)) s) + 1) by omega]
    · refine (loop_done (r := (n : Int)) ?_).trans ?_
      · show (if p < List.length s then _ else _) = _
        rw [if_neg hp]
      · have : List.drop p s = [] := List.drop_of_length_le (by omega)
        rw [this]
        simp [cntF]
theorem Count_eq {s : List UInt8} (h : List.length s ≤ 9223372036854775807) : name_Count s = some ((cntF (List.length s) s : Nat) : Int) := by
  unfold name_Count
  have := count_loop (s := s) (List.length s) 0 0 (by omega) (by omega) (by omega)
  rw [List.drop_zero, Nat.zero_add] at this
  rw [show (((0 : Int), 0) : Int × Nat) = (((0 : Nat) : Int), 0) from rfl, this]
  rfl
theorem rcount_loop {s : List UInt8} (hs : List.length s ≤ 9223372036854775807) : ∀ (f p : Nat) (n : Nat), p ≤ List.length s → List.length s ≤ p + f → n + (List.length s - p) ≤ 9223372036854775807 → loop (ref_Count_l1 s) ((n : Int), (p : Int)) = some ((n + cntF f (List.drop p s) : Nat) : Int)
  | 0, p, n, h1, h2, h3 => by
    refine (loop_done (r := (n : Int)) ?_).trans (by simp [cntF])
    show (if decide ((p : Int) < ((List.length s : Nat) : Int)) = true then _ else _) = _
    rw [if_neg (by simp; omega)]
  | f + 1, p, n, h1, h2, h3 => by
    by_cases hp : p < List.length s
    · have hne : List.drop p s ≠ [] := fun e => by
        have := congrArg List.length e
        rw [List.length_drop] at this; simp at this; omega
      have hw := wd_pos (List.drop p s)
      have hw2 := wd_le hne
      rw [List.length_drop] at hw2
      have hb : ref_Count_l1 s ((n : Int), (p : Int)) = some (.inl (((n + 1 : Nat) : Int), ((p + wd (List.drop p s) : Nat) : Int))) := by
        show (if decide ((p : Int) < ((List.length s : Nat) : Int)) = true then _ else _) = _
        rw [if_pos (decide_eq_true (by omega))]
        refine (bds (subT_drop h1)).trans ((bds (Rune_eq (by rw [List.length_drop]; omega))).trans ?_)
        show some (Sum.inl (IntKind.i64.wrap ((n : Int) + 1), IntKind.i64.wrap ((p : Int) + (wd (List.drop p s) : Int)))) = _
        rw [i64w (by omega), i64w (by omega)]
        rfl
      rw [loop_next hb, rcount_loop hs f _ (n + 1) (by omega) (by omega) (by omega)]
      rw [cntF_succ, if_neg hne, List.drop_drop, show n + 1 + cntF f (List.drop (p + wd (List.drop p s)) s) = n + (cntF f (List.drop (p + wd (List.drop p s)) s) + 1) by omega]
    · refine (loop_done (r := (n : Int)) ?_).trans ?_
      · show (if decide ((p : Int) < ((List.length s : Nat) : Int)) = true then _ else _) = _
        rw [if_neg (by simp; omega)]
      · have : List.drop p s = [] := List.drop_of_length_le (by omega)
        rw [this]
        simp [cntF]
theorem rCount_eq {s : List UInt8} (h : List.length s ≤ 9223372036854775807) : ref_Count s = some ((cntF (List.length s) s : Nat) : Int) := by
  unfold ref_Count
  have := rcount_loop h (s := s) (List.length s) 0 0 (by omega) (by omega) (by omega)
  rw [List.drop_zero, Nat.zero_add] at this
  rw [show (((0 : Int), 0) : Int × Int) = (((0 : Nat) : Int), ((0 : Nat) : Int)) from rfl, this]
  rfl
end Go.Ai.Rab
end
section
/- Names, plainly: which may be. -/
set_option linter.unusedVariables false
set_option linter.unusedSimpArgs false
open Go.Ai.Enc (enc is)
namespace Go.Ai.Rab
open Go.Lib (decodeL decodeN)
def goodF : Nat → List UInt8 → Bool
  | 0, _ => true
  | f + 1, l => if l = [] then true else okr l && (rn l != 47 && (rn l != 0 && goodF f (l.drop (wd l))))
def plainF : Nat → List UInt8 → Bool
  | 0, _ => true
  | f + 1, l => if l = [] then true else rn l != 47 && (rn l != 0 && plainF f (l.drop (wd l)))
theorem goodF_eq : ∀ (f : Nat) (l : List UInt8), goodF f l = (Go.Lib.validGoD f l && plainF f l)
  | 0, _ => rfl
  | f + 1, l => by
    unfold goodF plainF Go.Lib.validGoD
    by_cases h : l = []
    · simp [h]
    · rw [if_neg h, if_neg h, if_neg h, goodF_eq f]
      by_cases h1 : rn l = 65533 ∧ wd l = 1
      · have h2 : (decodeL l).1 = 65533 ∧ (decodeL l).2 = 1 := h1
        rw [if_pos h2]
        simp [okr, h1]
      · have h2 : ¬ ((decodeL l).1 = 65533 ∧ (decodeL l).2 = 1) := h1
        rw [if_neg h2]
        have : okr l = true := by unfold okr; rw [decide_eq_false h1]; rfl
        rw [this]
        show (true && (rn l != 47 && (rn l != 0 && (Go.Lib.validGoD f (l.drop (wd l)) && plainF f (l.drop (wd l)))))) = (Go.Lib.validGoD f (l.drop (wd l)) && (rn l != 47 && (rn l != 0 && plainF f (l.drop (wd l)))))
        cases (rn l != 47) <;> cases (rn l != 0) <;> cases Go.Lib.validGoD f (l.drop (wd l)) <;> simp
def chkS (s : List UInt8) : Int := if s = [] then 206 else if s.length > 100 then 208 else if s = [46] ∨ s = [46, 46] then 206 else if goodF s.length s then 0 else 206
theorem drop_ne {s : List UInt8} {p : Nat} (hp : p < s.length) : List.drop p s ≠ [] := fun e => by
  have := congrArg List.length e
  rw [List.length_drop] at this; simp at this; omega
theorem check_loop {s : List UInt8} : ∀ (f p : Nat), p ≤ s.length → s.length ≤ p + f → loop (name_Check_l1 s) p = some (if plainF f (List.drop p s) then .inl () else .inr 206)
  | 0, p, h1, h2 => by
    refine (loop_done (r := .inl ()) ?_).trans (by rfl)
    show (if p < List.length s then _ else _) = _
    rw [if_neg (by omega)]
  | f + 1, p, h1, h2 => by
    by_cases hp : p < s.length
    · have hne := drop_ne hp
      have hw := wd_pos (List.drop p s)
      have hw2 := wd_le hne
      rw [List.length_drop] at hw2
      have hstep : name_Check_l1 s p = if rn (List.drop p s) = 47 ∨ rn (List.drop p s) = 0 then some (.inr (.inr 206)) else some (.inl (p + wd (List.drop p s))) := by
        show (if p < List.length s then _ else _) = _
        rw [if_pos hp, runeLen_eq, runeAt_eq]
        show Option.bind (if (((rn (List.drop p s) : Nat) : Int) == 47) = true then some true else some (((rn (List.drop p s) : Nat) : Int) == 0)) _ = _
        by_cases e1 : rn (List.drop p s) = 47
        · rw [e1]; rfl
        · have : (((rn (List.drop p s) : Nat) : Int) == 47) = false := by simp; omega
          rw [this]
          by_cases e2 : rn (List.drop p s) = 0
          · rw [e2]; rfl
          · have : (((rn (List.drop p s) : Nat) : Int) == 0) = false := by simp; omega
            rw [this, if_neg (show ¬ (rn (List.drop p s) = 47 ∨ rn (List.drop p s) = 0) by omega)]
            rfl
      have hpl : plainF (f + 1) (List.drop p s) = (rn (List.drop p s) != 47 && (rn (List.drop p s) != 0 && plainF f (List.drop (p + wd (List.drop p s)) s))) := by
        show (if List.drop p s = [] then true else _) = _
        rw [if_neg hne, List.drop_drop]
      by_cases hb : rn (List.drop p s) = 47 ∨ rn (List.drop p s) = 0
      · rw [if_pos hb] at hstep
        rw [loop_done hstep, hpl]
        rcases hb with hb | hb <;> simp [hb]
      · rw [if_neg hb] at hstep
        rw [loop_next hstep, check_loop f _ (by omega) (by omega), hpl]
        have e1 : (rn (List.drop p s) != 47) = true := by simp; omega
        have e2 : (rn (List.drop p s) != 0) = true := by simp; omega
        rw [e1, e2, Bool.true_and, Bool.true_and]
    · refine (loop_done (r := .inl ()) ?_).trans ?_
      · show (if p < List.length s then _ else _) = _
        rw [if_neg hp]
      · have : List.drop p s = [] := List.drop_of_length_le (by omega)
        rw [this]; rfl
theorem rcheck_loop {s : List UInt8} (hs : s.length ≤ 9223372036854775807) : ∀ (f p : Nat), p ≤ s.length → s.length ≤ p + f → loop (ref_Check_l1 s) (p : Int) = some (if goodF f (List.drop p s) then .inl () else .inr 206)
  | 0, p, h1, h2 => by
    refine (loop_done (r := .inl ()) ?_).trans (by rfl)
    show (if decide ((p : Int) < ((List.length s : Nat) : Int)) = true then _ else _) = _
    rw [if_neg (by simp; omega)]
  | f + 1, p, h1, h2 => by
    by_cases hp : p < s.length
    · have hne := drop_ne hp
      have hw := wd_pos (List.drop p s)
      have hw2 := wd_le hne
      rw [List.length_drop] at hw2
      have hstep : ref_Check_l1 s (p : Int) = if okr (List.drop p s) = true ∧ rn (List.drop p s) ≠ 47 ∧ rn (List.drop p s) ≠ 0 then some (.inl ((p + wd (List.drop p s) : Nat) : Int)) else some (.inr (.inr 206)) := by
        show (if decide ((p : Int) < ((List.length s : Nat) : Int)) = true then _ else _) = _
        rw [if_pos (decide_eq_true (by omega))]
        refine (bds (subT_drop h1)).trans ((bds (Rune_eq (by rw [List.length_drop]; omega))).trans ?_)
        show Option.bind (if (!okr (List.drop p s)) = true then some true else some (((rn (List.drop p s) : Nat) : Int) == 47)) _ = _
        cases ho : okr (List.drop p s) with
        | false => rfl
        | true =>
          by_cases e1 : rn (List.drop p s) = 47
          · rw [e1]; rfl
          · have : (((rn (List.drop p s) : Nat) : Int) == 47) = false := by simp; omega
            rw [this]
            show (Option.bind (some (((rn (List.drop p s) : Nat) : Int) == 0)) fun b2 => if b2 = true then some (Sum.inr (Sum.inr 206)) else some (Sum.inl (IntKind.i64.wrap ((p : Int) + (wd (List.drop p s) : Int))))) = _
            by_cases e2 : rn (List.drop p s) = 0
            · rw [e2]; rfl
            · have : (((rn (List.drop p s) : Nat) : Int) == 0) = false := by simp; omega
              rw [this, if_pos ⟨rfl, e1, e2⟩]
              show some (Sum.inl (IntKind.i64.wrap ((p : Int) + (wd (List.drop p s) : Int)))) = _
              rw [i64w (by omega)]; rfl
      have hpl : goodF (f + 1) (List.drop p s) = (okr (List.drop p s) && (rn (List.drop p s) != 47 && (rn (List.drop p s) != 0 && goodF f (List.drop (p + wd (List.drop p s)) s)))) := by
        show (if List.drop p s = [] then true else _) = _
        rw [if_neg hne, List.drop_drop]
      by_cases hb : okr (List.drop p s) = true ∧ rn (List.drop p s) ≠ 47 ∧ rn (List.drop p s) ≠ 0
      · rw [if_pos hb] at hstep
        rw [loop_next hstep, rcheck_loop hs f _ (by omega) (by omega), hpl]
        have e1 : (rn (List.drop p s) != 47) = true := by simp; exact hb.2.1
        have e2 : (rn (List.drop p s) != 0) = true := by simp; exact hb.2.2
        rw [hb.1, e1, e2, Bool.true_and, Bool.true_and, Bool.true_and]
      · rw [if_neg hb] at hstep
        rw [loop_done hstep, hpl]
        have : (okr (List.drop p s) && (rn (List.drop p s) != 47 && (rn (List.drop p s) != 0 && goodF f (List.drop (p + wd (List.drop p s)) s)))) = false := by
          cases ho : okr (List.drop p s) with
          | false => rfl
          | true =>
            rw [ho] at hb
            by_cases e1 : rn (List.drop p s) = 47
            · simp [e1]
            · have : rn (List.drop p s) = 0 := Classical.byContradiction fun h => hb ⟨rfl, e1, h⟩
              simp [this]
        rw [this]; rfl
    · refine (loop_done (r := .inl ()) ?_).trans ?_
      · show (if decide ((p : Int) < ((List.length s : Nat) : Int)) = true then _ else _) = _
        rw [if_neg (by simp; omega)]
      · have : List.drop p s = [] := List.drop_of_length_le (by omega)
        rw [this]; rfl
theorem eqS_dec (a b : List UInt8) : eqS a b = decide (a = b) := by
  unfold eqS
  by_cases h : a = b
  · simp [h]
  · simp [h]
theorem rCheck_eq (s : List UInt8) : ref_Check s = some (chkS s) := by
  unfold ref_Check chkS
  rw [eqS_dec, eqS_dec, eqS_dec]
  by_cases h0 : s = []
  · rw [if_pos (decide_eq_true h0), if_pos h0]
  · rw [if_neg (by simpa using h0), if_neg h0]
    by_cases h1 : s.length > 100
    · rw [if_pos (decide_eq_true (by omega)), if_pos h1]
    · rw [if_neg (by simp; omega), if_neg h1]
      by_cases h2 : s = [46]
      · rw [if_pos (decide_eq_true h2), if_pos (.inl h2)]; rfl
      · rw [if_neg (by simpa using h2)]
        by_cases h3 : s = [46, 46]
        · rw [decide_eq_true h3, if_pos (.inr h3)]; rfl
        · rw [decide_eq_false h3, if_neg (by simp [h2, h3])]
          show (loop (ref_Check_l1 s) ((0 : Nat) : Int)).bind ref_Check_a1 = _
          rw [rcheck_loop (by omega) s.length 0 (by omega) (by omega), List.drop_zero]
          cases goodF s.length s <;> rfl
theorem Check_eq (s : List UInt8) : name_Check s = some (chkS s) := by
  unfold name_Check chkS
  rw [eqS_dec, eqS_dec, eqS_dec]
  by_cases h0 : s = []
  · rw [if_pos (decide_eq_true h0), if_pos h0]
  · rw [if_neg (by simpa using h0), if_neg h0]
    by_cases h1 : s.length > 100
    · rw [if_pos (decide_eq_true (by omega)), if_pos h1]
    · rw [if_neg (by simp; omega), if_neg h1]
      by_cases h2 : s = [46]
      · rw [if_pos (decide_eq_true h2), if_pos (.inl h2)]; rfl
      · rw [if_neg (by simpa using h2)]
        by_cases h3 : s = [46, 46]
        · rw [decide_eq_true h3, if_pos (.inr h3)]; rfl
        · rw [decide_eq_false h3, if_neg (by simp [h2, h3])]
          have hv : utf8_ValidString s = some (Go.Lib.validD s) := by
            unfold utf8_ValidString
            exact if_pos (by omega)
          show ((utf8_ValidString s).bind fun r_ => some (!r_)).bind _ = _
          rw [hv]
          show (if (!Go.Lib.validD s) = true then some 206 else (loop (name_Check_l1 s) 0).bind name_Check_a1) = _
          rw [check_loop s.length 0 (by omega) (by omega), List.drop_zero, goodF_eq]
          show _ = some (if (Go.Lib.validD s && plainF s.length s) = true then 0 else 206)
          cases Go.Lib.validD s <;> cases plainF s.length s <;> rfl
end Go.Ai.Rab
end
section
/- Names, plainly: the order of texts. -/
set_option linter.unusedVariables false
set_option linter.unusedSimpArgs false
open Go.Ai.Enc (enc is)
namespace Go.Ai.Rab
/-! ### Rows of numbers, letter by letter -/
def cmpN : List Nat → List Nat → Int
  | [], [] => 0
  | [], _ :: _ => -1
  | _ :: _, [] => 1
  | a :: l, b :: m => if a < b then -1 else if b < a then 1 else cmpN l m
theorem cmpN_range : ∀ l m, cmpN l m = -1 ∨ cmpN l m = 0 ∨ cmpN l m = 1
  | [], [] => by simp [cmpN]
  | [], _ :: _ => by simp [cmpN]
  | _ :: _, [] => by simp [cmpN]
  | a :: l, b :: m => by
    unfold cmpN
    split
    · simp
    · split
      · simp
      · exact cmpN_range l m
theorem cmpN_anti : ∀ l m, cmpN m l = - cmpN l m
  | [], [] => by simp [cmpN]
  | [], _ :: _ => by simp [cmpN]
  | _ :: _, [] => by simp [cmpN]
  | a :: l, b :: m => by
    unfold cmpN
    by_cases h1 : a < b
    · rw [if_pos h1, if_neg (by omega), if_pos h1]; rfl
    · by_cases h2 : b < a
      · rw [if_pos h2, if_neg h1, if_pos h2]
      · rw [if_neg h2, if_neg h1, if_neg h1, if_neg h2, cmpN_anti l m]
theorem cmpN_zero : ∀ l m, cmpN l m = 0 ↔ l = m
  | [], [] => by simp [cmpN]
  | [], _ :: _ => by simp [cmpN]
  | _ :: _, [] => by simp [cmpN]
  | a :: l, b :: m => by
    unfold cmpN
    by_cases h1 : a < b
    · rw [if_pos h1]; simp; omega
    · by_cases h2 : b < a
      · rw [if_neg h1, if_pos h2]; simp; omega
      · rw [if_neg h1, if_neg h2, cmpN_zero l m]
        have : a = b := by omega
        simp [this]
theorem cmpN_trans : ∀ l m k, cmpN l m ≤ 0 → cmpN m k ≤ 0 → cmpN l k ≤ 0
  | [], _, [], _, _ => by simp [cmpN]
  | [], _, _ :: _, _, _ => by simp [cmpN]
  | _ :: _, [], _, h, _ => by simp [cmpN] at h
  | _ :: _, _ :: _, [], _, h => by simp [cmpN] at h
  | a :: l, b :: m, c :: k, h1, h2 => by
    unfold cmpN at h1 h2 ⊢
    by_cases x1 : a < b
    · by_cases x2 : b < c
      · rw [if_pos (by omega)]; decide
      · rw [if_neg x2] at h2
        by_cases x3 : c < b
        · rw [if_pos x3] at h2; omega
        · rw [if_pos (by omega)]; decide
    · rw [if_neg x1] at h1
      by_cases x2 : b < a
      · rw [if_pos x2] at h1; omega
      · rw [if_neg x2] at h1
        by_cases x3 : b < c
        · rw [if_pos (by omega)]; decide
        · rw [if_neg x3] at h2
          by_cases x4 : c < b
          · rw [if_pos x4] at h2; omega
          · rw [if_neg x4] at h2
            rw [if_neg (by omega), if_neg (by omega)]
            exact cmpN_trans l m k h1 h2
/-! ### Texts -/
def rsF : Nat → List UInt8 → List Nat
  | 0, _ => []
  | f + 1, l => if l = [] then [] else rn l :: rsF f (l.drop (wd l))
theorem rsF_succ (f : Nat) (l : List UInt8) : rsF (f + 1) l = if l = [] then [] else rn l :: rsF f (l.drop (wd l)) := rfl
theorem rsF_nil : ∀ f, rsF f [] = []
  | 0 => rfl
  | f + 1 => rfl
theorem rsF_eq : ∀ (f g : Nat) (l : List UInt8), l.length ≤ f → l.length ≤ g → rsF f l = rsF g l
  | 0, g, l, h1, h2 => by
    have : l = [] := List.eq_nil_of_length_eq_zero (by omega)
    subst this
    rw [rsF_nil, rsF_nil]
  | f + 1, 0, l, h1, h2 => by
    have : l = [] := List.eq_nil_of_length_eq_zero (by omega)
    subst this
    rw [rsF_nil, rsF_nil]
  | f + 1, g + 1, l, h1, h2 => by
    rw [rsF_succ, rsF_succ]
    by_cases h : l = []
    · rw [if_pos h, if_pos h]
    · have := wd_pos l
      have : 0 < l.length := List.length_pos_iff.2 h
      rw [if_neg h, if_neg h, rsF_eq f g _ (by rw [List.length_drop]; omega) (by rw [List.length_drop]; omega)]
def rs (l : List UInt8) : List Nat := rsF l.length l
theorem rs_nil : rs [] = [] := rfl
theorem rs_cons {l : List UInt8} (h : l ≠ []) : rs l = rn l :: rs (l.drop (wd l)) := by
  have h1 : 0 < l.length := List.length_pos_iff.2 h
  have h2 := wd_pos l
  unfold rs
  rw [show l.length = (l.length - 1) + 1 by omega, rsF_succ, if_neg h]
  rw [rsF_eq _ ((l.drop (wd l)).length) _ (by rw [List.length_drop]; omega) (Nat.le_refl _)]
def nb (l : List UInt8) : List Nat := l.map UInt8.toNat
def ordS (a b : List UInt8) : Int := if cmpN (rs a) (rs b) ≠ 0 then cmpN (rs a) (rs b) else cmpN (nb a) (nb b)
theorem nb_inj {a b : List UInt8} (h : nb a = nb b) : a = b := by
  unfold nb at h
  induction a generalizing b with
  | nil => cases b with
    | nil => rfl
    | cons y b => simp at h
  | cons x a ih => cases b with
    | nil => simp at h
    | cons y b =>
      simp only [List.map_cons, List.cons.injEq] at h
      rw [UInt8.toNat_inj.1 h.1, ih h.2]
theorem ordS_anti (a b : List UInt8) : ordS b a = - ordS a b := by
  unfold ordS
  rw [cmpN_anti (rs a) (rs b), cmpN_anti (nb a) (nb b)]
  by_cases h : cmpN (rs a) (rs b) = 0
  · rw [if_neg (by omega), if_neg (by simpa using h)]
  · rw [if_pos (by omega), if_pos h]
theorem ordS_zero (a b : List UInt8) : ordS a b = 0 ↔ a = b := by
  unfold ordS
  constructor
  · intro h
    split at h
    · rename_i h1; exact absurd h h1
    · exact nb_inj ((cmpN_zero _ _).1 h)
  · rintro rfl
    rw [if_neg (by simpa using (cmpN_zero _ _).2 rfl)]
    exact (cmpN_zero _ _).2 rfl
theorem ordS_trans (a b c : List UInt8) (h1 : ordS a b ≤ 0) (h2 : ordS b c ≤ 0) : ordS a c ≤ 0 := by
  unfold ordS at *
  have k1 : cmpN (rs a) (rs b) ≤ 0 := by split at h1 <;> omega
  have k2 : cmpN (rs b) (rs c) ≤ 0 := by split at h2 <;> omega
  have k3 := cmpN_trans _ _ _ k1 k2
  by_cases h : cmpN (rs a) (rs c) = 0
  · have e := (cmpN_zero _ _).1 h
    have e2 : cmpN (rs b) (rs c) = - cmpN (rs a) (rs b) := by rw [← e]; exact cmpN_anti _ _
    have z1 : cmpN (rs a) (rs b) = 0 := by omega
    have z2 : cmpN (rs b) (rs c) = 0 := by omega
    rw [if_neg (by omega)] at h1 h2 ⊢
    exact cmpN_trans _ _ _ h1 h2
  · rw [if_pos h]; exact k3
theorem ordS_range (a b : List UInt8) : ordS a b = -1 ∨ ordS a b = 0 ∨ ordS a b = 1 := by
  unfold ordS
  split
  · exact cmpN_range _ _
  · exact cmpN_range _ _
/-! ### The code's order -/
theorem ltS_nb : ∀ (a b : List UInt8), ltS a b = decide (cmpN (nb a) (nb b) = -1)
  | [], [] => rfl
  | [], _ :: _ => rfl
  | _ :: _, [] => rfl
  | x :: a, y :: b => by
    have ih := ltS_nb a b
    show (decide (x < y) || (x == y && Op.bytesLess a b)) = decide ((if x.toNat < y.toNat then (-1 : Int) else if y.toNat < x.toNat then 1 else cmpN (nb a) (nb b)) = -1)
    have e1 : (x < y) ↔ x.toNat < y.toNat := UInt8.lt_iff_toNat_lt
    by_cases h1 : x.toNat < y.toNat
    · rw [if_pos h1, decide_eq_true (e1.2 h1)]; rfl
    · rw [if_neg h1, decide_eq_false (fun h => h1 (e1.1 h)), Bool.false_or]
      by_cases h2 : y.toNat < x.toNat
      · rw [if_pos h2]
        have : (x == y) = false := by
          simp only [beq_eq_false_iff_ne, ne_eq]
          rintro rfl; omega
        rw [this]; rfl
      · rw [if_neg h2]
        have : x = y := UInt8.toNat_inj.1 (by omega)
        subst this
        rw [beq_self_eq_true, Bool.true_and]
        exact ih
theorem eqS_nb (a b : List UInt8) : eqS a b = decide (cmpN (nb a) (nb b) = 0) := by
  rw [eqS_dec]
  refine decide_eq_decide.2 ⟨fun h => (cmpN_zero _ _).2 (by rw [h]), fun h => nb_inj ((cmpN_zero _ _).1 h)⟩
theorem cmpS_eq (a b : List UInt8) : cmpS a b = some (cmpN (nb a) (nb b)) := by
  unfold cmpS nanS
  rw [eqS_dec, eqS_dec, decide_eq_true rfl, decide_eq_true rfl]
  show (if ltS a b = true then some (-1) else if (!(ltS a b || eqS a b)) = true then some 1 else some 0) = _
  rw [ltS_nb, eqS_nb]
  rcases cmpN_range (nb a) (nb b) with h | h | h <;> rw [h] <;> rfl
theorem cmpI_eq (x y : Int) : cmpI x y = some (if x < y then -1 else if x > y then 1 else 0) := by
  unfold cmpI nanI
  rw [bne_self_eq_false, bne_self_eq_false]
  show (if decide (x < y) = true then some (-1) else if decide (x > y) = true then some 1 else some 0) = _
  by_cases h1 : x < y
  · rw [if_pos (decide_eq_true h1), if_pos h1]
  · rw [if_neg (by simpa using h1), if_neg h1]
    by_cases h2 : x > y
    · rw [if_pos (decide_eq_true h2), if_pos h2]
    · rw [if_neg (by simpa using h2), if_neg h2]
theorem cmpR_eq (x y : Rune) : cmpR x y = some (if x.v < y.v then -1 else if x.v > y.v then 1 else 0) := by
  unfold cmpR nanR
  rw [bne_self_eq_false, bne_self_eq_false]
  show (if decide (x.v < y.v) = true then some (-1) else if decide (x.v > y.v) = true then some 1 else some 0) = _
  by_cases h1 : x.v < y.v
  · rw [if_pos (decide_eq_true h1), if_pos h1]
  · rw [if_neg (by simpa using h1), if_neg h1]
    by_cases h2 : x.v > y.v
    · rw [if_pos (decide_eq_true h2), if_pos h2]
    · rw [if_neg (by simpa using h2), if_neg h2]
theorem orI_two (a b : Int) : orI [a, b] = some (if a ≠ 0 then a else b) := by
  unfold orI
  have s0 : orI_l1 [a, b] 0 = if (a != 0) = true then some (.inr (.inr a)) else some (.inl 1) := rfl
  have s1 : orI_l1 [a, b] 1 = if (b != 0) = true then some (.inr (.inr b)) else some (.inl 2) := rfl
  have s2 : orI_l1 [a, b] 2 = some (.inr (.inl ())) := rfl
  by_cases ha : a = 0
  · rw [if_neg (by simpa using ha)] at s0
    rw [loop_next s0, if_neg (by simpa using ha)]
    by_cases hb : b = 0
    · rw [if_neg (by simpa using hb)] at s1
      rw [loop_next s1, loop_done s2, hb]; rfl
    · rw [if_pos (by simpa using hb)] at s1
      rw [loop_done s1]; rfl
  · rw [if_pos (by simpa using ha)] at s0
    rw [loop_done s0, if_pos ha]; rfl
/-- Where the code's loop ends. -/
def stopsF : Nat → List UInt8 → List UInt8 → (List UInt8 × List UInt8) ⊕ Int
  | 0, x, y => .inl (x, y)
  | f + 1, x, y => if x = [] ∨ y = [] then .inl (x, y) else if rn x < rn y then .inr (-1) else if rn y < rn x then .inr 1 else stopsF f (x.drop (wd x)) (y.drop (wd y))
theorem stops_cmp : ∀ (f : Nat) (x y : List UInt8), x.length ≤ f → (∃ r, stopsF f x y = .inr r ∧ cmpN (rs x) (rs y) = r ∧ r ≠ 0) ∨ ∃ u v, stopsF f x y = .inl (u, v) ∧ (u = [] ∨ v = []) ∧ cmpN (rs x) (rs y) = cmpN (rs u) (rs v)
  | 0, x, y, h => .inr ⟨x, y, rfl, .inl (List.eq_nil_of_length_eq_zero (by omega)), rfl⟩
  | f + 1, x, y, h => by
    unfold stopsF
    by_cases h0 : x = [] ∨ y = []
    · rw [if_pos h0]; exact .inr ⟨x, y, rfl, h0, rfl⟩
    · rw [if_neg h0]
      have hx : x ≠ [] := fun e => h0 (.inl e)
      have hy : y ≠ [] := fun e => h0 (.inr e)
      have hl : 0 < x.length := List.length_pos_iff.2 hx
      have hw := wd_pos x
      rw [rs_cons hx, rs_cons hy]
      show (∃ r, _ ∧ (if rn x < rn y then (-1 : Int) else if rn y < rn x then 1 else cmpN (rs (x.drop (wd x))) (rs (y.drop (wd y)))) = r ∧ r ≠ 0) ∨ ∃ u v, _ ∧ _ ∧ (if rn x < rn y then (-1 : Int) else if rn y < rn x then 1 else cmpN (rs (x.drop (wd x))) (rs (y.drop (wd y)))) = _
      by_cases h1 : rn x < rn y
      · rw [if_pos h1, if_pos h1]; exact .inl ⟨-1, rfl, rfl, by decide⟩
      · rw [if_neg h1, if_neg h1]
        by_cases h2 : rn y < rn x
        · rw [if_pos h2, if_pos h2]; exact .inl ⟨1, rfl, rfl, by decide⟩
        · rw [if_neg h2, if_neg h2]
          exact stops_cmp f _ _ (by rw [List.length_drop]; omega)
theorem len_ne {l : List UInt8} (h : l ≠ []) : List.length l ≠ 0 := by have := List.length_pos_iff.2 h; omega
theorem order_loop : ∀ (f : Nat) (x y : List UInt8), x.length ≤ f → loop name_Order_l1 (x, y) = some (stopsF f x y)
  | 0, x, y, h => by
    have : x = [] := List.eq_nil_of_length_eq_zero (by omega)
    subst this
    exact loop_done (by rfl)
  | f + 1, x, y, h => by
    unfold stopsF
    by_cases h0 : x = [] ∨ y = []
    · rw [if_pos h0]
      refine loop_done ?_
      show (Option.bind (if (!eqS x []) = true then some (!eqS y []) else some false) _) = _
      rw [eqS_dec, eqS_dec]
      rcases h0 with rfl | rfl
      · rfl
      · by_cases hx : x = []
        · subst hx; rfl
        · rw [decide_eq_false hx]; rfl
    · rw [if_neg h0]
      have hx : x ≠ [] := fun e => h0 (.inl e)
      have hy : y ≠ [] := fun e => h0 (.inr e)
      have hl : 0 < x.length := List.length_pos_iff.2 hx
      have hw := wd_pos x
      have hwx := wd_le hx
      have hwy := wd_le hy
      have hb : name_Order_l1 (x, y) = if rn x < rn y then some (.inr (.inr (-1))) else if rn y < rn x then some (.inr (.inr 1)) else some (.inl (x.drop (wd x), y.drop (wd y))) := by
        show (Option.bind (if (!eqS x []) = true then some (!eqS y []) else some false) _) = _
        rw [eqS_dec, eqS_dec, decide_eq_false hx, decide_eq_false hy]
        show ((utf8_Decode x).bind fun r_ => (utf8_Decode y).bind fun r_1 => (cmpR r_.1 r_1.1).bind fun r_2 => (if (r_2 != 0) = true then some (Sum.inr (Sum.inr r_2)) else (subT x r_.2 (List.length x : Nat)).bind fun t => (subT y r_1.2 (List.length y : Nat)).bind fun t1 => some (Sum.inl (t, t1)))) = _
        refine (bds (Decode_eq (len_ne hx))).trans ((bds (Decode_eq (len_ne hy))).trans ((bds (cmpR_eq _ _)).trans ?_))
        show (if ((if ((rn x : Nat) : Int) < ((rn y : Nat) : Int) then (-1 : Int) else if ((rn x : Nat) : Int) > ((rn y : Nat) : Int) then 1 else 0) != 0) = true then some (Sum.inr (Sum.inr (if ((rn x : Nat) : Int) < ((rn y : Nat) : Int) then (-1 : Int) else if ((rn x : Nat) : Int) > ((rn y : Nat) : Int) then 1 else 0))) else (subT x ((wd x : Nat) : Int) (List.length x : Nat)).bind fun t => (subT y ((wd y : Nat) : Int) (List.length y : Nat)).bind fun t1 => some (Sum.inl (t, t1))) = _
        by_cases h1 : rn x < rn y
        · rw [if_pos (show ((rn x : Nat) : Int) < ((rn y : Nat) : Int) by omega), if_pos h1]; rfl
        · rw [if_neg (show ¬ ((rn x : Nat) : Int) < ((rn y : Nat) : Int) by omega), if_neg h1]
          by_cases h2 : rn y < rn x
          · rw [if_pos (show ((rn x : Nat) : Int) > ((rn y : Nat) : Int) by omega), if_pos h2]; rfl
          · rw [if_neg (show ¬ ((rn x : Nat) : Int) > ((rn y : Nat) : Int) by omega), if_neg h2, if_neg (by simp)]
            exact (bds (subT_drop hwx)).trans (bds (subT_drop hwy))
      by_cases h1 : rn x < rn y
      · rw [if_pos h1] at hb ⊢; exact loop_done hb
      · rw [if_neg h1] at hb ⊢
        by_cases h2 : rn y < rn x
        · rw [if_pos h2] at hb ⊢; exact loop_done hb
        · rw [if_neg h2] at hb ⊢
          rw [loop_next hb]
          exact order_loop f _ _ (by rw [List.length_drop]; omega)
theorem Order_eq (a b : List UInt8) : name_Order a b = some (ordS a b) := by
  unfold name_Order
  rw [order_loop a.length a b (Nat.le_refl _)]
  unfold ordS
  rcases stops_cmp a.length a b (Nat.le_refl _) with ⟨r, h1, h2, h3⟩ | ⟨u, v, h1, h2, h3⟩
  · rw [h1, h2, if_pos h3]; rfl
  · rw [h1, h3]
    show ((cmpI (imin ((List.length u : Nat) : Int) 1) (imin ((List.length v : Nat) : Int) 1)).bind fun r_3 => (cmpS a b).bind fun r_4 => (orI [r_3, r_4]).bind fun r_5 => some r_5) = _
    refine (bds (cmpI_eq _ _)).trans ((bds (cmpS_eq _ _)).trans ((bds (orI_two _ _)).trans ?_))
    by_cases hu : u = []
    · subst hu
      by_cases hv : v = []
      · subst hv; rfl
      · have := List.length_pos_iff.2 hv
        have e : imin ((List.length v : Nat) : Int) 1 = 1 := by unfold imin; split <;> omega
        rw [e, rs_cons hv]
        rfl
    · have hv : v = [] := h2.resolve_left hu
      subst hv
      have := List.length_pos_iff.2 hu
      have e : imin ((List.length u : Nat) : Int) 1 = 1 := by unfold imin; split <;> omega
      rw [e, rs_cons hu]
      rfl
/-! ### The document's -/
theorem rorder_loop {a b : List UInt8} (ha : a.length ≤ 9223372036854775807) (hb : b.length ≤ 9223372036854775807) : ∀ (f i k : Nat), i ≤ a.length → k ≤ b.length → a.length ≤ i + f → ∃ r, loop (ref_Order_l1 a b) ((i : Int), (k : Int)) = some r ∧
    (match stopsF f (a.drop i) (b.drop k) with | .inr q => r = .inr q | .inl (u, v) => ∃ i' k' : Nat, r = .inl ((i' : Int), (k' : Int)) ∧ i' ≤ a.length ∧ k' ≤ b.length ∧ u = a.drop i' ∧ v = b.drop k')
  | 0, i, k, hi, hk, hf => by
    refine ⟨.inl ((i : Int), (k : Int)), loop_done ?_, i, k, rfl, hi, hk, rfl, rfl⟩
    show (Option.bind (if decide ((i : Int) < ((List.length a : Nat) : Int)) = true then _ else _) _) = _
    rw [if_neg (by simp; omega)]; rfl
  | f + 1, i, k, hi, hk, hf => by
    by_cases h0 : i < a.length ∧ k < b.length
    · have hx := drop_ne h0.1
      have hy := drop_ne h0.2
      have hwx := wd_le hx
      have hwy := wd_le hy
      rw [List.length_drop] at hwx hwy
      have hw := wd_pos (a.drop i)
      have hb' : ref_Order_l1 a b ((i : Int), (k : Int)) = if rn (a.drop i) < rn (b.drop k) then some (.inr (.inr (-1))) else if rn (b.drop k) < rn (a.drop i) then some (.inr (.inr 1)) else some (.inl (((i + wd (a.drop i) : Nat) : Int), ((k + wd (b.drop k) : Nat) : Int))) := by
        show (Option.bind (if decide ((i : Int) < ((List.length a : Nat) : Int)) = true then some (decide ((k : Int) < ((List.length b : Nat) : Int))) else some false) _) = _
        rw [decide_eq_true (show (i : Int) < ((List.length a : Nat) : Int) by omega), decide_eq_true (show (k : Int) < ((List.length b : Nat) : Int) by omega)]
        show ((subT a (i : Int) (List.length a : Nat)).bind fun t => (ref_Rune t).bind fun r_ => (subT b (k : Int) (List.length b : Nat)).bind fun t1 => (ref_Rune t1).bind fun r_1 => (if decide (r_.1 < r_1.1) = true then some (Sum.inr (Sum.inr (-1))) else (if decide (r_.1 > r_1.1) = true then some (Sum.inr (Sum.inr 1)) else some (Sum.inl ((IntKind.i64.wrap ((i : Int) + r_.2.1)), (IntKind.i64.wrap ((k : Int) + r_1.2.1))))))) = _
        refine (bds (subT_drop hi)).trans ((bds (Rune_eq (len_ne hx))).trans ((bds (subT_drop hk)).trans ((bds (Rune_eq (len_ne hy))).trans ?_)))
        show (if decide (((rn (a.drop i) : Nat) : Int) < ((rn (b.drop k) : Nat) : Int)) = true then some (Sum.inr (Sum.inr (-1))) else (if decide (((rn (a.drop i) : Nat) : Int) > ((rn (b.drop k) : Nat) : Int)) = true then some (Sum.inr (Sum.inr 1)) else some (Sum.inl ((IntKind.i64.wrap ((i : Int) + ((wd (a.drop i) : Nat) : Int))), (IntKind.i64.wrap ((k : Int) + ((wd (b.drop k) : Nat) : Int))))))) = _
        rw [i64w (by omega), i64w (by omega)]
        by_cases h1 : rn (a.drop i) < rn (b.drop k)
        · rw [if_pos (decide_eq_true (by omega)), if_pos h1]
        · rw [if_neg (by simp; omega), if_neg h1]
          by_cases h2 : rn (b.drop k) < rn (a.drop i)
          · rw [if_pos (decide_eq_true (by omega)), if_pos h2]
          · rw [if_neg (by simp; omega), if_neg h2]; rfl
      unfold stopsF
      rw [if_neg (by simp [hx, hy])]
      by_cases h1 : rn (a.drop i) < rn (b.drop k)
      · rw [if_pos h1] at hb' ⊢
        exact ⟨_, loop_done hb', rfl⟩
      · rw [if_neg h1] at hb' ⊢
        by_cases h2 : rn (b.drop k) < rn (a.drop i)
        · rw [if_pos h2] at hb' ⊢
          exact ⟨_, loop_done hb', rfl⟩
        · rw [if_neg h2] at hb' ⊢
          rw [loop_next hb', List.drop_drop, List.drop_drop]
          exact rorder_loop ha hb f _ _ (by omega) (by omega) (by omega)
    · have : a.drop i = [] ∨ b.drop k = [] := by
        by_cases h : i < a.length
        · right; exact List.drop_of_length_le (by omega)
        · left; exact List.drop_of_length_le (by omega)
      unfold stopsF
      rw [if_pos this]
      refine ⟨.inl ((i : Int), (k : Int)), loop_done ?_, i, k, rfl, hi, hk, rfl, rfl⟩
      show (Option.bind (if decide ((i : Int) < ((List.length a : Nat) : Int)) = true then some (decide ((k : Int) < ((List.length b : Nat) : Int))) else some false) _) = _
      by_cases h : i < a.length
      · rw [decide_eq_true (show (i : Int) < ((List.length a : Nat) : Int) by omega), decide_eq_false (show ¬ (k : Int) < ((List.length b : Nat) : Int) by omega)]; rfl
      · rw [decide_eq_false (show ¬ (i : Int) < ((List.length a : Nat) : Int) by omega)]; rfl
theorem rOrder_eq (a b : List UInt8) (ha : a.length ≤ 9223372036854775807) (hb : b.length ≤ 9223372036854775807) : ref_Order a b = some (ordS a b) := by
  unfold ref_Order
  obtain ⟨r, h1, h2⟩ := rorder_loop ha hb a.length 0 0 (by omega) (by omega) (by omega)
  rw [show (((0 : Int), 0) : Int × Int) = (((0 : Nat) : Int), ((0 : Nat) : Int)) from rfl, h1]
  rw [List.drop_zero, List.drop_zero] at h2
  unfold ordS
  rcases stops_cmp a.length a b (Nat.le_refl _) with ⟨q, g1, g2, g3⟩ | ⟨u, v, g1, g2, g3⟩
  · rw [g1] at h2
    obtain rfl : r = .inr q := h2
    rw [g2, if_pos g3]; rfl
  · rw [g1] at h2
    obtain ⟨i', k', rfl, hi, hk, rfl, rfl⟩ := h2
    rw [g3]
    show (if decide ((k' : Int) < ((List.length b : Nat) : Int)) = true then some (-1) else if decide ((i' : Int) < ((List.length a : Nat) : Int)) = true then some 1 else if ltS a b = true then some (-1) else if (!(ltS a b || eqS a b)) = true then some 1 else some 0) = _
    by_cases h : k' < b.length
    · have hv := drop_ne h
      have hu := g2.resolve_right hv
      rw [if_pos (decide_eq_true (by omega)), hu, rs_cons hv]
      rfl
    · rw [if_neg (by simp; omega)]
      have hv : b.drop k' = [] := List.drop_of_length_le (by omega)
      by_cases h3 : i' < a.length
      · have hu := drop_ne h3
        rw [if_pos (decide_eq_true (by omega)), hv, rs_cons hu]
        rfl
      · have hu : a.drop i' = [] := List.drop_of_length_le (by omega)
        rw [if_neg (by simp; omega), hu, hv]
        have := cmpS_eq a b
        unfold cmpS nanS at this
        rw [eqS_dec, eqS_dec, decide_eq_true rfl, decide_eq_true rfl] at this
        exact this
end Go.Ai.Rab
end
section
/- Names, plainly: paths. -/
set_option linter.unusedVariables false
set_option linter.unusedSimpArgs false
open Go.Ai.Enc (enc is)
namespace Go.Ai.Rab
/-! ### The pieces between strokes -/
def pcs : List UInt8 → List Str
  | [] => [str []]
  | c :: l => if c = 47 then str [] :: pcs l else match pcs l with
    | [] => [str [c]]
    | h :: t => str (c :: h) :: t
theorem pcs_ne : ∀ l, pcs l ≠ []
  | [] => by simp [pcs]
  | c :: l => by
    unfold pcs
    split
    · simp
    · split <;> simp
theorem pcs_miss : ∀ {l : List UInt8}, 47 ∉ l → pcs l = [str l]
  | [], _ => rfl
  | c :: l, h => by
    simp only [List.mem_cons, not_or] at h
    unfold pcs
    rw [if_neg (fun e => h.1 e.symm), pcs_miss h.2]
theorem pcs_hit : ∀ {a b : List UInt8}, 47 ∉ a → pcs (a ++ 47 :: b) = str a :: pcs b
  | [], b, _ => by
    show pcs (47 :: b) = _
    rw [pcs, if_pos rfl]
  | c :: a, b, h => by
    simp only [List.mem_cons, not_or] at h
    show pcs (c :: (a ++ 47 :: b)) = _
    rw [pcs, if_neg (fun e => h.1 e.symm), pcs_hit h.2]
theorem pcs_len : ∀ l, (pcs l).length ≤ l.length + 1
  | [] => by simp [pcs]
  | c :: l => by
    have ih := pcs_len l
    unfold pcs
    split
    · simp; omega
    · split
      · simp
      · rename_i h t e
        rw [e] at ih
        simp at ih ⊢; omega
theorem index_one : ∀ s : List UInt8, (Go.Lib.index s [47] = -1 ∧ 47 ∉ s) ∨ ∃ i : Nat, Go.Lib.index s [47] = i ∧ i < s.length ∧ 47 ∉ s.take i ∧ s = s.take i ++ 47 :: s.drop (i + 1)
  | [] => .inl ⟨rfl, by simp⟩
  | b :: l => by
    have e : Go.Lib.index (b :: l) [47] = if b = 47 then 0 else if Go.Lib.index l [47] = -1 then -1 else Go.Lib.index l [47] + 1 := by
      show (if (47 == b && true) = true then (0 : Int) else if (Go.Lib.index l [47] == -1) = true then -1 else Go.Lib.index l [47] + 1) = _
      by_cases h : b = 47
      · subst h; rfl
      · have : ((47 : UInt8) == b) = false := by simp only [beq_eq_false_iff_ne]; exact fun e => h e.symm
        rw [this, if_neg h]
        by_cases h2 : Go.Lib.index l [47] = -1
        · rw [h2]; rfl
        · rw [if_neg h2, Bool.false_and, if_neg Bool.false_ne_true, if_neg (by simp [h2])]
    by_cases h : b = 47
    · subst h
      exact .inr ⟨0, by rw [e, if_pos rfl]; rfl, by simp, by simp, by simp⟩
    · rw [if_neg h] at e
      rcases index_one l with ⟨h1, h2⟩ | ⟨i, h1, h2, h3, h4⟩
      · left
        rw [if_pos h1] at e
        exact ⟨e, by simp only [List.mem_cons, not_or]; exact ⟨fun e => h e.symm, h2⟩⟩
      · right
        rw [if_neg (by omega)] at e
        refine ⟨i + 1, by omega, by simp; omega, ?_, ?_⟩
        · simp only [List.take_succ_cons, List.mem_cons, not_or]
          exact ⟨fun e => h e.symm, h3⟩
        · simp only [List.take_succ_cons, List.drop_succ_cons, List.cons_append]
          congr 1
theorem splitK_pcs : ∀ (n : Nat) (s : List UInt8), s.length ≤ n → Go.Lib.splitK [47] 0 (Go.Lib.count s [47]) s = pcs s
  | 0, s, h => by
    have : s = [] := List.eq_nil_of_length_eq_zero (by omega)
    subst this; rfl
  | n + 1, s, h => by
    rcases index_one s with ⟨h1, h2⟩ | ⟨i, h1, h2, h3, h4⟩
    · rw [Go.Lib.count_miss h1, pcs_miss h2]; rfl
    · have hc := Go.Lib.count_hit (sub := [47]) (by simp) h1
      rw [hc, Nat.add_comm]
      show (if (Go.Lib.index s [47] == -1) = true then [s] else s.take ((Go.Lib.index s [47]).toNat + 0) :: Go.Lib.splitK [47] 0 (Go.Lib.count (s.drop (i + [47].length)) [47]) (s.drop ((Go.Lib.index s [47]).toNat + [47].length))) = _
      rw [h1, if_neg (by simp)]
      have ih := splitK_pcs n (s.drop (i + 1)) (by rw [List.length_drop]; omega)
      show s.take (i + 0) :: Go.Lib.splitK [47] 0 (Go.Lib.count (s.drop (i + 1)) [47]) (s.drop (i + 1)) = _
      rw [ih, Nat.add_zero]
      have e := pcs_hit (b := s.drop (i + 1)) h3
      rw [← h4] at e
      exact e.symm
theorem ba_lst (s : List UInt8) : (ba s).data.toList = s := by
  show (List.toArray s).toList = s
  simp
theorem Split_pcs {s : List UInt8} (h : s.length < 4294967281) : strings_Split s (str [47]) = some (pcs s) := by
  unfold strings_Split
  have h1 : 1 ≤ (ba (str [47])).size := Nat.le_refl 1
  have h2 := Go.Lib.splitB_all (ba (str [47])) h1 0 _ (ba s) rfl
  have hc : s.length < 4294967281 ∧ 1 ≤ List.length (str [47]) ∧ (Go.Lib.splitB (ba (str [47])) 0 (Go.Lib.countB (ba s) (ba (str [47]))) (ba s)).length = Go.Lib.countB (ba s) (ba (str [47])) + 1 := ⟨h, Nat.le_refl 1, h2⟩
  refine (if_pos hc).trans ?_
  congr 1
  have e1 : (ba s).data.toList = s := ba_lst s
  have e2 : (ba (str [47])).data.toList = [47] := rfl
  have h4 : Go.Lib.countB (ba s) (ba (str [47])) = Go.Lib.count s [47] := by
    show Go.Lib.count (ba s).data.toList (ba (str [47])).data.toList = _
    exact (congrArg (fun a => Go.Lib.count a _) e1).trans (congrArg (fun b => Go.Lib.count s b) e2)
  have h3 : (Go.Lib.splitB (ba (str [47])) 0 (Go.Lib.count s [47]) (ba s)).map (·.data.toList) = Go.Lib.splitK (ba (str [47])).data.toList 0 (Go.Lib.count s [47]) (ba s).data.toList := Go.Lib.splitB_data _ _ _ _
  have h5 : Go.Lib.splitK (ba (str [47])).data.toList 0 (Go.Lib.count s [47]) (ba s).data.toList = pcs s := ((congrArg (fun a => Go.Lib.splitK a 0 (Go.Lib.count s [47]) (ba s).data.toList) e2).trans (congrArg (fun b => Go.Lib.splitK [47] 0 (Go.Lib.count s [47]) b) e1)).trans (splitK_pcs s.length s (Nat.le_refl _))
  rw [h4]
  exact h3.trans h5
/-! ### What a path's names are -/
def splL : List Str → List Str → Bool → List Str × Bool × Int
  | [], out, dir => (out, dir, 0)
  | p :: ps, out, dir => if (eqS p (str []) || eqS p (str [46])) = true then splL ps out true else if (!eqS p (str [46, 46]) && chkS p != 0) = true then ([], false, chkS p) else splL ps (out ++ [p]) false
def spl (s : List UInt8) : List Str × Bool × Int := if s = [] then ([], false, 206) else if s.length > 1000 then ([], false, 208) else if s.getD 0 0 ≠ 47 then ([], false, 206) else splL (pcs (s.drop 1)) [] false
theorem splL_cons (p : Str) (ps out : List Str) (dir : Bool) : splL (p :: ps) out dir = if (eqS p (str []) || eqS p (str [46])) = true then splL ps out true else if (!eqS p (str [46, 46]) && chkS p != 0) = true then ([], false, chkS p) else splL ps (out ++ [p]) false := rfl
theorem split_loop {r : List Str} (hr : r.length ≤ 2000) : ∀ (f v : Nat) (out : List Str) (dir : Bool), v ≤ r.length → r.length = v + f → out.length ≤ v → (loop (name_Split_l1 r) (out, dir, (v : Int))).bind name_Split_a1 = some (splL (r.drop v) out dir)
  | 0, v, out, dir, h1, h2, h3 => by
    have hd : r.drop v = [] := List.drop_of_length_le (by omega)
    rw [hd, loop_done (r := .inl (out, dir))]
    · rfl
    · show (if decide ((v : Int) < ((List.length r : Nat) : Int)) = true then _ else _) = _
      rw [if_neg (by simp; omega)]
  | f + 1, v, out, dir, h1, h2, h3 => by
    have hv : v < r.length := by omega
    have hd : r.drop v = r[v] :: r.drop (v + 1) := List.drop_eq_getElem_cons hv
    have hn : nth r (v : Int) = some r[v] := nth_get hv
    rw [hd, splL_cons]
    generalize r[v] = p at *
    have hb : name_Split_l1 r (out, dir, (v : Int)) = if (eqS p (str []) || eqS p (str [46])) = true then some (.inl (out, true, ((v + 1 : Nat) : Int))) else if (!eqS p (str [46, 46]) && chkS p != 0) = true then some (.inr (.inr ([], false, chkS p))) else some (.inl (out ++ [p], false, ((v + 1 : Nat) : Int))) := by
      show (if decide ((v : Int) < ((List.length r : Nat) : Int)) = true then _ else _) = _
      rw [if_pos (decide_eq_true (by omega))]
      refine (bds hn).trans ?_
      have hw : IntKind.i64.wrap ((v : Int) + 1) = ((v + 1 : Nat) : Int) := by rw [i64w (by omega)]; rfl
      show (Option.bind (if eqS p (str []) = true then some true else some (eqS p (str [46]))) fun b => if b = true then name_Split_j2 (v : Int) out b else (name_Check p).bind fun r_1 => (if (r_1 != 0) = true then some (!eqS p (str [46, 46])) else some false).bind fun b1 => if b1 = true then some (Sum.inr (Sum.inr ([], false, r_1))) else (app 16 out [p]).bind fun l => name_Split_j2 (v : Int) l b) = _
      unfold name_Split_j2
      rw [hw]
      cases e1 : eqS p (str []) with
      | true => rfl
      | false =>
        cases e2 : eqS p (str [46]) with
        | true => rfl
        | false =>
          show ((name_Check p).bind fun r_1 => (if (r_1 != 0) = true then some (!eqS p (str [46, 46])) else some false).bind fun b1 => if b1 = true then some (Sum.inr (Sum.inr ([], false, r_1))) else (app 16 out [p]).bind fun l => some (Sum.inl (l, false, ((v + 1 : Nat) : Int)))) = _
          refine (bds (Check_eq p)).trans ?_
          have ha : app 16 out [p] = some (out ++ [p]) := app_ok _ _ (by simp; omega) (by simp; omega)
          rw [ha]
          cases e3 : (chkS p != 0) with
          | false => cases eqS p (str [46, 46]) <;> rfl
          | true => cases eqS p (str [46, 46]) <;> rfl
    by_cases c1 : (eqS p (str []) || eqS p (str [46])) = true
    · rw [if_pos c1] at hb ⊢
      rw [loop_next hb]
      exact split_loop hr f (v + 1) out true (by omega) (by omega) (by omega)
    · rw [if_neg c1] at hb ⊢
      by_cases c2 : (!eqS p (str [46, 46]) && chkS p != 0) = true
      · rw [if_pos c2] at hb ⊢
        rw [loop_done hb]; rfl
      · rw [if_neg c2] at hb ⊢
        rw [loop_next hb]
        exact split_loop hr f (v + 1) (out ++ [p]) false (by omega) (by omega) (by simp; omega)
theorem Split_eq (s : List UInt8) : name_Split s = some (spl s) := by
  unfold name_Split spl
  rw [eqS_dec]
  by_cases h0 : s = []
  · rw [if_pos (decide_eq_true h0), if_pos h0]
  · rw [if_neg (by simpa using h0), if_neg h0]
    by_cases h1 : s.length > 1000
    · rw [if_pos (decide_eq_true (by omega)), if_pos h1]
    · rw [if_neg (by simp; omega), if_neg h1]
      have hl : 0 < s.length := List.length_pos_iff.2 h0
      have e0 : nth (α := UInt8) s 0 = some (s.getD 0 0) := nth_at (l := s) (i := 0) hl
      refine (bds e0).trans ?_
      by_cases h2 : s.getD 0 0 = 47
      · rw [h2]
        show ((subT s ((1 : Nat) : Int) (List.length s : Nat)).bind fun t => (strings_Split t (str [47])).bind fun r_ => (loop (name_Split_l1 r_) ([], false, ((0 : Nat) : Int))).bind name_Split_a1) = _
        refine (bds (subT_drop (i := 1) (by omega))).trans ((bds (Split_pcs (by rw [List.length_drop]; omega))).trans ?_)
        have := pcs_len (s.drop 1)
        rw [List.length_drop] at this
        refine (split_loop (by omega) (pcs (s.drop 1)).length 0 [] false (by omega) (by omega) (by simp)).trans ?_
        rw [if_neg (by simp)]
        rfl
      · have : (((s.getD 0 0).toNat : Int) != 47) = true := by
          simp only [bne_iff_ne, ne_eq]
          intro h
          exact h2 (UInt8.toNat_inj.1 (by show _ = 47; omega))
        rw [if_pos h2]
        show (if (((s.getD 0 0).toNat : Int) != 47) = true then _ else _) = _
        rw [if_pos this]
/-! ### The document's -/
theorem pcs_grow : ∀ {a b : List UInt8}, 47 ∉ a → ∃ h t, pcs b = h :: t ∧ pcs (a ++ b) = str (a ++ (show List UInt8 from h)) :: t
  | [], b, _ => by
    cases e : pcs b with
    | nil => exact absurd e (pcs_ne b)
    | cons h t => exact ⟨h, t, rfl, e⟩
  | c :: a, b, hn => by
    simp only [List.mem_cons, not_or] at hn
    obtain ⟨h, t, e1, e2⟩ := pcs_grow (a := a) (b := b) hn.2
    refine ⟨h, t, e1, ?_⟩
    show pcs (c :: (a ++ b)) = _
    rw [pcs, if_neg (fun e => hn.1 e.symm), e2]
    rfl
theorem rsplit_loop {s : List UInt8} (hs : s.length ≤ 1000) : ∀ (f i from_ : Nat) (out : List Str) (last : Str) (d : Bool), from_ ≤ i → i ≤ s.length → s.length = i + f → 47 ∉ (s.take i).drop from_ → out.length ≤ i →
    (loop (ref_Split_l1 s) (out, last, (from_ : Int), (i : Int))).bind ref_Split_a1 = some (splL (pcs (s.drop from_)) out d) := by
  intro f
  induction f with
  | zero =>
    intro i from_ out last d h1 h2 h3 h4 h5
    have hi : i = s.length := by omega
    subst hi
    rw [List.take_length] at h4
    rw [pcs_miss h4, splL_cons]
    have hw : IntKind.i64.wrap ((s.length : Int) + 1) = ((s.length + 1 : Nat) : Int) := by rw [i64w (by omega)]; rfl
    have hsub : subT s (from_ : Int) (s.length : Int) = some (str (s.drop from_)) := subT_drop h1
    have hend : ∀ (o : List Str) (t : Str), ref_Split_l1 s (o, t, ((s.length + 1 : Nat) : Int), ((s.length + 1 : Nat) : Int)) = some (.inr (.inl (o, t))) := fun o t => by
      show (if decide (((s.length + 1 : Nat) : Int) ≤ ((List.length s : Nat) : Int)) = true then _ else _) = _
      rw [if_neg (by simp; omega)]
    have hb : ref_Split_l1 s (out, last, (from_ : Int), (s.length : Int)) = if (eqS (str (s.drop from_)) (str []) || eqS (str (s.drop from_)) (str [46])) = true then some (.inl (out, str (s.drop from_), ((s.length + 1 : Nat) : Int), ((s.length + 1 : Nat) : Int))) else if (!eqS (str (s.drop from_)) (str [46, 46]) && chkS (s.drop from_) != 0) = true then some (.inr (.inr ([], false, chkS (s.drop from_)))) else some (.inl (out ++ [str (s.drop from_)], str (s.drop from_), ((s.length + 1 : Nat) : Int), ((s.length + 1 : Nat) : Int))) := by
      show (if decide ((s.length : Int) ≤ ((List.length s : Nat) : Int)) = true then (if decide ((s.length : Int) < ((List.length s : Nat) : Int)) = true then _ else some false).bind _ else _) = _
      rw [if_pos (decide_eq_true (Int.le_refl _)), if_neg (by simp)]
      refine (bds hsub).trans ?_
      have ha : app 16 out [str (s.drop from_)] = some (out ++ [str (s.drop from_)]) := app_ok _ _ (by simp; omega) (by simp; omega)
      unfold ref_Split_j3 ref_Split_j2
      rw [ha, hw]
      cases e1 : eqS (str (s.drop from_)) (str []) with
      | true => rfl
      | false =>
        cases e2 : eqS (str (s.drop from_)) (str [46]) with
        | true => rfl
        | false =>
          cases e3 : eqS (str (s.drop from_)) (str [46, 46]) with
          | true => rfl
          | false =>
            show ((ref_Check (str (s.drop from_))).bind fun r_ => if (r_ != 0) = true then some (Sum.inr (Sum.inr ([], false, r_))) else some (Sum.inl (out ++ [str (s.drop from_)], str (s.drop from_), ((s.length + 1 : Nat) : Int), ((s.length + 1 : Nat) : Int)))) = _
            refine (bds (rCheck_eq _)).trans ?_
            cases e4 : (chkS (s.drop from_) != 0) <;> rfl
    by_cases c1 : (eqS (str (s.drop from_)) (str []) || eqS (str (s.drop from_)) (str [46])) = true
    · rw [if_pos c1] at hb ⊢
      rw [loop_next hb, loop_done (hend _ _)]
      show ((if eqS (str (s.drop from_)) (str []) = true then some true else some (eqS (str (s.drop from_)) (str [46]))).bind fun b2 => some (out, b2, 0)) = _
      cases e1 : eqS (str (s.drop from_)) (str []) with
      | true => rfl
      | false =>
        rw [e1, Bool.false_or] at c1
        rw [c1]; rfl
    · rw [if_neg c1] at hb ⊢
      by_cases c2 : (!eqS (str (s.drop from_)) (str [46, 46]) && chkS (s.drop from_) != 0) = true
      · rw [if_pos c2] at hb ⊢
        rw [loop_done hb]; rfl
      · rw [if_neg c2] at hb ⊢
        rw [loop_next hb, loop_done (hend _ _)]
        show ((if eqS (str (s.drop from_)) (str []) = true then some true else some (eqS (str (s.drop from_)) (str [46]))).bind fun b2 => some (out ++ [str (s.drop from_)], b2, 0)) = _
        cases e1 : eqS (str (s.drop from_)) (str []) with
        | true => rw [e1] at c1; simp at c1
        | false =>
          rw [e1, Bool.false_or] at c1
          cases e2 : eqS (str (s.drop from_)) (str [46]) with
          | true => exact absurd e2 c1
          | false => rfl
  | succ f ih =>
    intro i from_ out last d h1 h2 h3 h4 h5
    have hi : i < s.length := by omega
    have hw : IntKind.i64.wrap ((i : Int) + 1) = ((i + 1 : Nat) : Int) := by rw [i64w (by omega)]; rfl
    have hc : nth s (i : Int) = some (s.getD i 0) := nth_at hi
    have hdi : s.drop i = s.getD i 0 :: s.drop (i + 1) := by rw [List.drop_eq_getElem_cons hi]; simp [List.getD, hi]
    by_cases hsl : s.getD i 0 = 47
    · have hsub : subT s (from_ : Int) (i : Int) = some (str ((s.take i).drop from_)) := sub_nat (α := UInt8) s from_ i h1 h2
      have hdf : s.drop from_ = (s.take i).drop from_ ++ 47 :: s.drop (i + 1) := by
        rw [← hsl, ← hdi]
        have e : s = s.take i ++ s.drop i := (List.take_append_drop i s).symm
        conv => lhs; rw [e]
        rw [List.drop_append_of_le_length (by rw [List.length_take]; omega)]
      generalize hp : (s.take i).drop from_ = p at *
      rw [hdf, pcs_hit h4, splL_cons]
      have hb : ref_Split_l1 s (out, last, (from_ : Int), (i : Int)) = if (eqS (str p) (str []) || eqS (str p) (str [46])) = true then some (.inl (out, str p, ((i + 1 : Nat) : Int), ((i + 1 : Nat) : Int))) else if (!eqS (str p) (str [46, 46]) && chkS p != 0) = true then some (.inr (.inr ([], false, chkS p))) else some (.inl (out ++ [str p], str p, ((i + 1 : Nat) : Int), ((i + 1 : Nat) : Int))) := by
        show (if decide ((i : Int) ≤ ((List.length s : Nat) : Int)) = true then (if decide ((i : Int) < ((List.length s : Nat) : Int)) = true then (nth s (i : Int)).bind fun c1 => some (((c1).toNat : Int) != 47) else some false).bind _ else _) = _
        rw [if_pos (decide_eq_true (by omega)), if_pos (decide_eq_true (by omega)), hc, hsl]
        refine (bds hsub).trans ?_
        have ha : app 16 out [str p] = some (out ++ [str p]) := app_ok _ _ (by simp; omega) (by simp; omega)
        unfold ref_Split_j3 ref_Split_j2
        rw [ha, hw]
        cases e1 : eqS (str p) (str []) with
        | true => rfl
        | false =>
          cases e2 : eqS (str p) (str [46]) with
          | true => rfl
          | false =>
            cases e3 : eqS (str p) (str [46, 46]) with
            | true => rfl
            | false =>
              show ((ref_Check (str p)).bind fun r_ => if (r_ != 0) = true then some (Sum.inr (Sum.inr ([], false, r_))) else some (Sum.inl (out ++ [str p], str p, ((i + 1 : Nat) : Int), ((i + 1 : Nat) : Int)))) = _
              refine (bds (rCheck_eq _)).trans ?_
              cases e4 : (chkS p != 0) <;> rfl
      have hno : 47 ∉ (s.take (i + 1)).drop (i + 1) := by
        rw [List.drop_of_length_le (by rw [List.length_take]; omega)]; simp
      by_cases c1 : (eqS (str p) (str []) || eqS (str p) (str [46])) = true
      · rw [if_pos c1] at hb ⊢
        rw [loop_next hb]
        exact ih (i + 1) (i + 1) out (str p) true (Nat.le_refl _) (by omega) (by omega) hno (by omega)
      · rw [if_neg c1] at hb ⊢
        by_cases c2 : (!eqS (str p) (str [46, 46]) && chkS p != 0) = true
        · rw [if_pos c2] at hb ⊢
          rw [loop_done hb]; rfl
        · rw [if_neg c2] at hb ⊢
          rw [loop_next hb]
          exact ih (i + 1) (i + 1) (out ++ [str p]) (str p) false (Nat.le_refl _) (by omega) (by omega) hno (by simp; omega)
    · have hb : ref_Split_l1 s (out, last, (from_ : Int), (i : Int)) = some (.inl (out, last, (from_ : Int), ((i + 1 : Nat) : Int))) := by
        show (if decide ((i : Int) ≤ ((List.length s : Nat) : Int)) = true then (if decide ((i : Int) < ((List.length s : Nat) : Int)) = true then (nth s (i : Int)).bind fun c1 => some (((c1).toNat : Int) != 47) else some false).bind _ else _) = _
        rw [if_pos (decide_eq_true (by omega)), if_pos (decide_eq_true (by omega)), hc]
        have : (((s.getD i 0).toNat : Int) != 47) = true := by
          simp only [bne_iff_ne, ne_eq]
          intro h
          exact hsl (UInt8.toNat_inj.1 (by show _ = 47; omega))
        refine (bds (bds rfl)).trans ?_
        rw [this]
        unfold ref_Split_j2
        rw [hw]; rfl
      rw [loop_next hb]
      refine ih (i + 1) from_ out last d (by omega) (by omega) (by omega) ?_ (by omega)
      have e : s.take (i + 1) = s.take i ++ [s.getD i 0] := by
        rw [List.take_succ_eq_append_getElem hi]; simp [List.getD, hi]
      rw [e, List.drop_append_of_le_length (by rw [List.length_take]; omega)]
      simp only [List.mem_append, List.mem_singleton, not_or]
      exact ⟨h4, fun e => hsl e.symm⟩
theorem rSplit_eq (s : List UInt8) : ref_Split s = some (spl s) := by
  unfold ref_Split spl
  rw [eqS_dec]
  by_cases h0 : s = []
  · rw [if_pos (decide_eq_true h0), if_pos h0]
  · rw [if_neg (by simpa using h0), if_neg h0]
    by_cases h1 : s.length > 1000
    · rw [if_pos (decide_eq_true (by omega)), if_pos h1]
    · rw [if_neg (by simp; omega), if_neg h1]
      have hl : 0 < s.length := List.length_pos_iff.2 h0
      have e0 : nth (α := UInt8) s 0 = some (s.getD 0 0) := nth_at (l := s) (i := 0) hl
      refine (bds e0).trans ?_
      by_cases h2 : s.getD 0 0 = 47
      · rw [h2, if_neg (by simp)]
        have hno : 47 ∉ (s.take 1).drop 1 := by
          rw [List.drop_of_length_le (by rw [List.length_take]; omega)]; simp
        exact rsplit_loop (by omega) (s.length - 1) 1 1 [] (str []) false (Nat.le_refl _) (by omega) (by omega) hno (by simp)
      · have : (((s.getD 0 0).toNat : Int) != 47) = true := by
          simp only [bne_iff_ne, ne_eq]
          intro h
          exact h2 (UInt8.toNat_inj.1 (by show _ = 47; omega))
        rw [if_pos h2]
        show (if (((s.getD 0 0).toNat : Int) != 47) = true then _ else _) = _
        rw [if_pos this]
/-! ### The same texts -/
theorem eqS_refl (a : List UInt8) : eqS a a = true := by rw [eqS_dec]; simp
theorem texts_loop {l : List Str} (hl : l.length ≤ 9223372036854775806) : ∀ (f i : Nat), l.length = i + f → loop (ref_Texts_l1 l l) (i : Int) = some (.inl ())
  | 0, i, h => by
    refine loop_done ?_
    show (if decide ((i : Int) < ((List.length l : Nat) : Int)) = true then _ else _) = _
    rw [if_neg (by simp; omega)]
  | f + 1, i, h => by
    have hi : i < l.length := by omega
    have hb : ref_Texts_l1 l l (i : Int) = some (.inl ((i + 1 : Nat) : Int)) := by
      show (if decide ((i : Int) < ((List.length l : Nat) : Int)) = true then _ else _) = _
      rw [if_pos (decide_eq_true (by omega))]
      refine (bds (nth_get hi)).trans ((bds (nth_get hi)).trans ?_)
      rw [show eqS l[i] l[i] = true from eqS_refl _, i64w (by omega)]; rfl
    rw [loop_next hb]
    exact texts_loop hl f (i + 1) (by omega)
theorem Texts_refl {l : List Str} (hl : l.length ≤ 9223372036854775806) : ref_Texts l l = some true := by
  unfold ref_Texts
  rw [if_neg (by simp)]
  show (loop (ref_Texts_l1 l l) ((0 : Nat) : Int)).bind ref_Texts_a1 = _
  rw [texts_loop hl l.length 0 (by omega)]
  rfl
/-! ### Names that are joined -/
theorem wd_one {l : List UInt8} (h : okr l = true) (hw : wd l = 1) : rn l = (l.getD 0 0).toNat := by
  unfold okr rn wd at *
  rw [Go.Lib.decodeL_N] at *
  revert h hw
  generalize l.length = n, (l.getD 0 0).toNat = b0, (l.getD 1 0).toNat = b1, (l.getD 2 0).toNat = b2, (l.getD 3 0).toNat = b3
  unfold Go.Lib.decodeN
  repeat' split
  all_goals simp
theorem wd_more {l : List UInt8} (hw : wd l ≠ 1) : ∀ i, i < wd l → 128 ≤ (l.getD i 0).toNat := by
  unfold wd at *
  rw [Go.Lib.decodeL_N] at *
  revert hw
  intro hw i hi
  have h0 : i = 0 ∨ i = 1 ∨ i = 2 ∨ i = 3 := by
    have : (Go.Lib.decodeN l.length (l.getD 0 0).toNat (l.getD 1 0).toNat (l.getD 2 0).toNat (l.getD 3 0).toNat).2 ≤ 4 := by
      unfold Go.Lib.decodeN
      repeat' split
      all_goals simp
    omega
  have key : ∀ n b0 b1 b2 b3 : Nat, (Go.Lib.decodeN n b0 b1 b2 b3).2 ≠ 1 → 128 ≤ b0 ∧ (1 < (Go.Lib.decodeN n b0 b1 b2 b3).2 → 128 ≤ b1) ∧ (2 < (Go.Lib.decodeN n b0 b1 b2 b3).2 → 128 ≤ b2) ∧ (3 < (Go.Lib.decodeN n b0 b1 b2 b3).2 → 128 ≤ b3) := by
    intro n b0 b1 b2 b3
    unfold Go.Lib.decodeN
    repeat' split
    all_goals (intro h; simp at h ⊢ <;> omega)
  obtain ⟨k0, k1, k2, k3⟩ := key _ _ _ _ _ hw
  rcases h0 with rfl | rfl | rfl | rfl
  · exact k0
  · exact k1 hi
  · exact k2 hi
  · exact k3 hi
theorem good_nostroke : ∀ (f : Nat) (l : List UInt8), l.length ≤ f → goodF f l = true → 47 ∉ l
  | 0, l, h, _ => by
    have : l = [] := List.eq_nil_of_length_eq_zero (by omega)
    subst this; simp
  | f + 1, l, h, hg => by
    by_cases h0 : l = []
    · subst h0; simp
    · have hw := wd_pos l
      have hw2 := wd_le h0
      have hg' : okr l = true ∧ rn l ≠ 47 ∧ rn l ≠ 0 ∧ goodF f (l.drop (wd l)) = true := by
        have : (if l = [] then true else okr l && (rn l != 47 && (rn l != 0 && goodF f (l.drop (wd l))))) = true := hg
        rw [if_neg h0] at this
        simp only [Bool.and_eq_true, bne_iff_ne] at this
        exact this
      obtain ⟨g1, g2, g3, g4⟩ := hg'
      have ih := good_nostroke f (l.drop (wd l)) (by rw [List.length_drop]; omega) g4
      intro hm
      rw [← List.take_append_drop (wd l) l] at hm
      rcases List.mem_append.1 hm with hm | hm
      · obtain ⟨i, hi⟩ := List.mem_iff_getElem?.1 hm
        have hil : i < wd l := by
          have := (List.getElem?_eq_some_iff.1 hi).1
          rw [List.length_take] at this; omega
        rw [List.getElem?_take, if_pos hil] at hi
        have hgd : l.getD i 0 = 47 := by simp [List.getD, hi]
        by_cases h1 : wd l = 1
        · have : i = 0 := by omega
          subst this
          have := wd_one g1 h1
          rw [hgd] at this
          exact g2 this
        · have := wd_more h1 i hil
          rw [hgd] at this
          exact absurd this (by decide)
      · exact ih hm
theorem chk_ok {p : List UInt8} (h : chkS p = 0) : p ≠ [] ∧ p ≠ [46] ∧ p.length ≤ 100 ∧ 47 ∉ p := by
  unfold chkS at h
  split at h
  · simp at h
  · rename_i h0
    split at h
    · simp at h
    · rename_i h1
      split at h
      · simp at h
      · rename_i h2
        split at h
        · rename_i h3
          exact ⟨h0, fun e => h2 (.inl e), by omega, good_nostroke _ p (Nat.le_refl _) h3⟩
        · simp at h
def strs (l : List (List UInt8)) : List Str := l
theorem pcs_join : ∀ (x : List UInt8) (l : List (List UInt8)), (∀ p ∈ (x :: l), 47 ∉ p) → pcs (Go.Lib.join (x :: l) [47]) = strs (x :: l)
  | x, [], h => by
    rw [Go.Lib.join_one]
    exact pcs_miss (h x (by simp))
  | x, y :: l, h => by
    have e : Go.Lib.join (x :: y :: l) [47] = x ++ 47 :: Go.Lib.join (y :: l) [47] := by
      show List.intercalate [47] _ = _
      rw [List.intercalate_cons_cons]
      simp [Go.Lib.join]
    rw [e, pcs_hit (h x (by simp)), pcs_join y l (fun p hp => h p (List.mem_cons_of_mem _ hp))]
    rfl
theorem splL_all : ∀ (l out : List Str) (d : Bool), (∀ p ∈ l, chkS p = 0) → splL l out d = (out ++ l, (if l = [] then d else false), 0)
  | [], out, d, _ => by simp [splL]
  | p :: l, out, d, h => by
    obtain ⟨h1, h2, h3, h4⟩ := chk_ok (h p (by simp))
    rw [splL_cons]
    have e1 : eqS p (str []) = false := by rw [eqS_dec (show List UInt8 from p)]; exact decide_eq_false h1
    have e2 : eqS p (str [46]) = false := by rw [eqS_dec (show List UInt8 from p)]; exact decide_eq_false h2
    have e3 : (!eqS p (str [46, 46]) && chkS p != 0) = false := by rw [h p (by simp)]; simp
    rw [e1, e2, e3, Bool.or_false, if_neg Bool.false_ne_true, if_neg Bool.false_ne_true]
    rw [splL_all l _ false (fun q hq => h q (by simp [hq]))]
    simp
end Go.Ai.Rab
end
