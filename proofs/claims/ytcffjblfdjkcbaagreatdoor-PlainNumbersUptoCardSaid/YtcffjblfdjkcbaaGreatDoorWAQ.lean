/- My own texts DevPp1, DevPp2, DevPp3, DevPp4, DevPp5, DevPp6, one behind the other. -/
import Derived.Test.YtcffjblfdjkcbaaGreatDoorWAP
import Derived.Lib.TrimUEq
import Derived.Lib.QuoteLoop
import Derived.Lib.ValidLaws
import Derived.Lib.IndexLaws
section
/- Names, plainly: runes; which may be. -/
set_option linter.unusedVariables false
set_option linter.unusedSimpArgs false
open Go.Ai.Enc (enc is)
namespace Go.Ai.Rab
open Go.Lib (decodeL decodeN)

def rn (l : List UInt8) : Nat := (decodeL l).1
def wd (l : List UInt8) : Nat := (decodeL l).2
def okr (l : List UInt8) : Bool := !decide (rn l = 65533 ∧ wd l = 1)
theorem wd_pos (l : List UInt8) : 1 ≤ wd l := by unfold wd; rw [Go.Lib.decodeL_N]; exact Go.Lib.decodeN_ge1 _ _ _ _ _
theorem wd_le {l : List UInt8} (h : l ≠ []) : wd l ≤ l.length := by
 unfold wd; rw [Go.Lib.decodeL_N]
 exact Go.Lib.decodeN_width_le _ _ _ _ _ (by have := List.length_pos_iff.2 h; omega)
theorem runeAt_eq (s : List UInt8) (p : Nat) : runeAt s p = ⟨(rn (List.drop p s) : Nat)⟩ := by
 unfold runeAt rn
 rw [← Go.Lib.decodeL_drop]
theorem runeLen_eq (s : List UInt8) (p : Nat) : runeLen s p = wd (List.drop p s) := by
 unfold runeLen wd
 rw [← Go.Lib.decodeL_drop]
/-! ### The document's rune -/
theorem i64w {n : Int} (h : -9223372036854775808 ≤ n ∧ n ≤ 9223372036854775807) : IntKind.i64.wrap n = n := IntWalk.i64_in n h
theorem bds {α β : Type} {o : Option α} {x : α} {f : α → Option β} (h : o = some x) : o.bind f = f x := by rw [h]; rfl
theorem bd {α β : Type} (x : α) (f : α → Option β) : (some x).bind f = f x := rfl
def goodF : Nat → List UInt8 → Bool
 | 0, _ => true
 | f + 1, l => if l = [] then true else okr l && (rn l != 47 && (rn l != 0 && goodF f (l.drop (wd l))))
def plainF : Nat → List UInt8 → Bool
 | 0, _ => true
 | f + 1, l => if l = [] then true else rn l != 47 && (rn l != 0 && plainF f (l.drop (wd l)))
theorem goodF_eq : ∀ (f : Nat) (l : List UInt8), goodF f l = (Go.Lib.validGoD f l && plainF f l)
 | 0, _ => rfl
 | f + 1, l => by
  unfold goodF plainF Go.Lib.validGoD
  by_cases h : l = []
  ·simp [h]
  ·rw [if_neg h, if_neg h, if_neg h, goodF_eq f]
   by_cases h1 : rn l = 65533 ∧ wd l = 1
   ·have h2 : (decodeL l).1 = 65533 ∧ (decodeL l).2 = 1 := h1
    rw [if_pos h2]
    simp [okr, h1]
   ·have h2 : ¬ ((decodeL l).1 = 65533 ∧ (decodeL l).2 = 1) := h1
    rw [if_neg h2]
    have : okr l = true := by unfold okr; rw [decide_eq_false h1]; rfl
    rw [this]
    show (true && (rn l != 47 && (rn l != 0 && (Go.Lib.validGoD f (l.drop (wd l)) && plainF f (l.drop (wd l)))))) = (Go.Lib.validGoD f (l.drop (wd l)) && (rn l != 47 && (rn l != 0 && plainF f (l.drop (wd l)))))
    cases (rn l != 47) <;> cases (rn l != 0) <;> cases Go.Lib.validGoD f (l.drop (wd l)) <;> simp
def chkS (s : List UInt8) : Int := if s = [] then 206 else if s.length > 100 then 208 else if s = [46] ∨ s = [46, 46] then 206 else if goodF s.length s then 0 else 206
theorem drop_ne {s : List UInt8} {p : Nat} (hp : p < s.length) : List.drop p s ≠ [] := fun e => by
 have := congrArg List.length e
 rw [List.length_drop] at this; simp at this; omega
theorem check_loop {s : List UInt8} : ∀ (f p : Nat), p ≤ s.length → s.length ≤ p + f → loop (name_Check_l1 s) p = some (if plainF f (List.drop p s) then .inl () else .inr 206)
 | 0, p, h1, h2 => by
  refine (loop_done (r := .inl ()) ?_).trans (by rfl)
  show (if p < List.length s then _ else _) = _
  rw [if_neg (by omega)]
 | f + 1, p, h1, h2 => by
  by_cases hp : p < s.length
  ·have hne := drop_ne hp
   have hw := wd_pos (List.drop p s)
   have hw2 := wd_le hne
   rw [List.length_drop] at hw2
   have hstep : name_Check_l1 s p = if rn (List.drop p s) = 47 ∨ rn (List.drop p s) = 0 then some (.inr (.inr 206)) else some (.inl (p + wd (List.drop p s))) := by
    show (if p < List.length s then _ else _) = _
    rw [if_pos hp, runeLen_eq, runeAt_eq]
    show Option.bind (if (((rn (List.drop p s) : Nat) : Int) == 47) = true then some true else some (((rn (List.drop p s) : Nat) : Int) == 0)) _ = _
    by_cases e1 : rn (List.drop p s) = 47
    ·rw [e1]; rfl
    ·have : (((rn (List.drop p s) : Nat) : Int) == 47) = false := by simp; omega
     rw [this]
     by_cases e2 : rn (List.drop p s) = 0
     ·rw [e2]; rfl
     ·have : (((rn (List.drop p s) : Nat) : Int) == 0) = false := by simp; omega
      rw [this, if_neg (show ¬ (rn (List.drop p s) = 47 ∨ rn (List.drop p s) = 0) by omega)]
      rfl
   have hpl : plainF (f + 1) (List.drop p s) = (rn (List.drop p s) != 47 && (rn (List.drop p s) != 0 && plainF f (List.drop (p + wd (List.drop p s)) s))) := by
    show (if List.drop p s = [] then true else _) = _
    rw [if_neg hne, List.drop_drop]
   by_cases hb : rn (List.drop p s) = 47 ∨ rn (List.drop p s) = 0
   ·rw [if_pos hb] at hstep
    rw [loop_done hstep, hpl]
    rcases hb with hb | hb <;> simp [hb]
   ·rw [if_neg hb] at hstep
    rw [loop_next hstep, check_loop f _ (by omega) (by omega), hpl]
    have e1 : (rn (List.drop p s) != 47) = true := by simp; omega
    have e2 : (rn (List.drop p s) != 0) = true := by simp; omega
    rw [e1, e2, Bool.true_and, Bool.true_and]
  ·refine (loop_done (r := .inl ()) ?_).trans ?_
   ·show (if p < List.length s then _ else _) = _
    rw [if_neg hp]
   ·have : List.drop p s = [] := List.drop_of_length_le (by omega)
    rw [this]; rfl
theorem eqS_dec (a b : List UInt8) : eqS a b = decide (a = b) := by
 unfold eqS
 by_cases h : a = b
 ·simp [h]
 ·simp [h]
theorem Check_eq (s : List UInt8) : name_Check s = some (chkS s) := by
 unfold name_Check chkS
 rw [eqS_dec, eqS_dec, eqS_dec]
 by_cases h0 : s = []
 ·rw [if_pos (decide_eq_true h0), if_pos h0]
 ·rw [if_neg (by simpa using h0), if_neg h0]
  by_cases h1 : s.length > 100
  ·rw [if_pos (decide_eq_true (by omega)), if_pos h1]
  ·rw [if_neg (by simp; omega), if_neg h1]
   by_cases h2 : s = [46]
   ·rw [if_pos (decide_eq_true h2), if_pos (.inl h2)]; rfl
   ·rw [if_neg (by simpa using h2)]
    by_cases h3 : s = [46, 46]
    ·rw [decide_eq_true h3, if_pos (.inr h3)]; rfl
    ·rw [decide_eq_false h3, if_neg (by simp [h2, h3])]
     have hv : utf8_ValidString s = some (Go.Lib.validD s) := by
      unfold utf8_ValidString
      exact if_pos (by omega)
     show ((utf8_ValidString s).bind fun r_ => some (!r_)).bind _ = _
     rw [hv]
     show (if (!Go.Lib.validD s) = true then some 206 else (loop (name_Check_l1 s) 0).bind name_Check_a1) = _
     rw [check_loop s.length 0 (by omega) (by omega), List.drop_zero, goodF_eq]
     show _ = some (if (Go.Lib.validD s && plainF s.length s) = true then 0 else 206)
     cases Go.Lib.validD s <;> cases plainF s.length s <;> rfl
end Go.Ai.Rab
end
section
/- Plain, plainly: what is written out comes to an end. -/
set_option linter.unusedVariables false
set_option linter.unusedSimpArgs false
set_option maxRecDepth 10000
open Go.Ai.Enc (enc is)
namespace Go.Ai.Rab
theorem loop_inv {σ ρ : Type} {body : σ → Option (σ ⊕ ρ)} (I : σ → Prop) (Q : ρ → Prop) (m : σ → Nat)
  (h : ∀ a, I a → (∃ b, body a = some (.inl b) ∧ I b ∧ m b < m a) ∨ (∃ r, body a = some (.inr r) ∧ Q r)) : ∀ (n : Nat) (a : σ), m a ≤ n → I a → ∃ r, loop body a = some r ∧ Q r
 | n, a, hn, hI => by
  rcases h a hI with ⟨b, h1, h2, h3⟩ | ⟨r, h1, h2⟩
  ·obtain ⟨n, rfl⟩ : ∃ k, n = k + 1 := ⟨n - 1, by omega⟩
   rw [loop_next h1]
   exact loop_inv I Q m h n b (by omega) h2
  ·exact ⟨r, loop_done h1, h2⟩
theorem nthD {α : Type} {l : List α} {i : Nat} (d : α) (h : i < l.length) : nth l (i : Int) = some (l.getD i d) := by
 rw [nth_get h]; simp [List.getD, h]
theorem loop_keep {σ ρ : Type} {body : σ × Int → Option ((σ × Int) ⊕ ρ)} (n : Nat) (I : Nat → σ → Prop) (Q : ρ → Prop) (h : ∀ i s, i < n → I i s → ∃ s', body (s, (i : Int)) = some (.inl (s', ((i + 1 : Nat) : Int))) ∧ I (i + 1) s')
  (he : ∀ s, I n s → ∃ r, body (s, (n : Int)) = some (.inr r) ∧ Q r) : ∀ i s, i ≤ n → I i s → ∃ r, loop body (s, (i : Int)) = some r ∧ Q r := by
 intro i s hi hI
 obtain ⟨d, rfl⟩ : ∃ d, n = i + d := ⟨n - i, by omega⟩
 clear hi
 induction d generalizing i s with
 | zero =>
  obtain ⟨r, h1, h2⟩ := he s hI
  exact ⟨r, loop_done h1, h2⟩
 | succ d ih =>
  obtain ⟨s', h1, h2⟩ := h i s (by omega) hI
  rw [loop_next h1]
  have e : i + (d + 1) = (i + 1) + d := by omega
  rw [e] at h he
  exact ih (i + 1) s' h2 h he
theorem lim {n : Nat} (h : n < 9223372036854775807) : IntKind.i64.wrap ((n : Int) + 1) = ((n + 1 : Nat) : Int) := by rw [i64w (by omega)]; rfl
/-! ### Numbers aS bytes -/
theorem j3_some (x : UInt64) (n : Int) (hn : 0 ≤ n ∧ n ≤ 1000) : ∃ r, len64_j3 x n = some r ∧ 0 ≤ r ∧ r ≤ n + 255 := by
 unfold len64_j3
 have hx : ((UInt8.ofInt ((x).toNat : Int))).toNat < 256 := UInt8.toNat_lt _
 obtain ⟨c, hc⟩ : ∃ c, (nth (α := UInt8) (str [0, 1, 2, 2, 3, 3, 3, 3, 4, 4, 4, 4, 4, 4, 4, 4, 5, 5, 5, 5, 5, 5, 5, 5, 5, 5, 5, 5, 5, 5, 5, 5, 6, 6, 6, 6, 6, 6, 6, 6, 6, 6, 6, 6, 6, 6, 6, 6, 6, 6, 6, 6, 6, 6, 6, 6, 6, 6, 6, 6, 6, 6, 6, 6, 7, 7, 7, 7, 7, 7, 7, 7, 7, 7, 7, 7, 7, 7, 7, 7, 7, 7, 7, 7, 7, 7, 7, 7, 7, 7, 7, 7, 7, 7, 7, 7, 7, 7, 7, 7, 7, 7, 7, 7, 7, 7, 7, 7, 7, 7, 7, 7, 7, 7, 7, 7, 7, 7, 7, 7, 7, 7, 7, 7, 7, 7, 7, 7, 8, 8, 8, 8, 8, 8, 8, 8, 8, 8, 8, 8, 8, 8, 8, 8, 8, 8, 8, 8, 8, 8, 8, 8, 8, 8, 8, 8, 8, 8, 8, 8, 8, 8, 8, 8, 8, 8, 8, 8, 8, 8, 8, 8, 8, 8, 8, 8, 8, 8, 8, 8, 8, 8, 8, 8, 8, 8, 8, 8, 8, 8, 8, 8, 8, 8, 8, 8, 8, 8, 8, 8, 8, 8, 8, 8, 8, 8, 8, 8, 8, 8, 8, 8, 8, 8, 8, 8, 8, 8, 8, 8, 8, 8, 8, 8, 8, 8, 8, 8, 8, 8, 8, 8, 8, 8, 8, 8, 8, 8, 8, 8, 8, 8, 8, 8, 8, 8, 8, 8, 8, 8, 8, 8, 8, 8, 8, 8]) (((UInt8.ofInt ((x).toNat : Int))).toNat : Int)) = some c := ⟨_, nthD 0 (by rw [show (List.length (str _) = 256) from rfl]; exact hx)⟩
 refine ⟨_, bds hc, ?_⟩
 have := c.toNat_lt
 rw [i64w (by omega)]
 omega
theorem len64_some (x : UInt64) : ∃ r, len64 x = some r ∧ 0 ≤ r ∧ r ≤ 1000 := by
 have w1 : ∀ n : Int, 0 ≤ n ∧ n ≤ 1000 → IntKind.i64.wrap (n + 8) = n + 8 := fun n h => i64w (by omega)
 have w2 : ∀ n : Int, 0 ≤ n ∧ n ≤ 1000 → IntKind.i64.wrap (n + 16) = n + 16 := fun n h => i64w (by omega)
 have h2 : ∀ (x : UInt64) (n : Int), 0 ≤ n ∧ n ≤ 100 → ∃ r, len64_j2 x n = some r ∧ 0 ≤ r ∧ r ≤ n + 300 := fun x n hn => by
  unfold len64_j2
  split
  ·rw [w1 n (by omega)]
   obtain ⟨r, h1, h2, h3⟩ := j3_some (UInt64.ofInt ((((x).toNat : Int)).fdiv (2 ^ 8))) (n + 8) (by omega)
   exact ⟨r, h1, h2, by omega⟩
  ·obtain ⟨r, h1, h2, h3⟩ := j3_some x n (by omega)
   exact ⟨r, h1, h2, by omega⟩
 have h1 : ∀ (x : UInt64) (n : Int), 0 ≤ n ∧ n ≤ 50 → ∃ r, len64_j1 x n = some r ∧ 0 ≤ r ∧ r ≤ n + 400 := fun x n hn => by
  unfold len64_j1
  split
  ·rw [w2 n (by omega)]
   obtain ⟨r, h1, h2, h3⟩ := h2 (UInt64.ofInt ((((x).toNat : Int)).fdiv (2 ^ 16))) (n + 16) (by omega)
   exact ⟨r, h1, h2, by omega⟩
  ·obtain ⟨r, h1, h2, h3⟩ := h2 x n (by omega)
   exact ⟨r, h1, h2, by omega⟩
 unfold len64
 split
 ·obtain ⟨r, h1, h2, h3⟩ := h1 (UInt64.ofInt ((((x).toNat : Int)).fdiv (2 ^ 32))) 32 (by omega)
  exact ⟨r, h1, h2, by omega⟩
 ·obtain ⟨r, h1, h2, h3⟩ := h1 x 0 (by omega)
  exact ⟨r, h1, h2, by omega⟩
theorem lebSize_some (x : UInt64) : ∃ r : Nat, lebSize x = some (r : Int) ∧ 1 ≤ r ∧ r ≤ 200 := by
 obtain ⟨r, h1, h2, h3⟩ := len64_some x
 have e1 : IntKind.i64.wrap (r + 7) = r + 7 := i64w (by omega)
 have e2 : IntKind.i64.wrap (r + 7 - 1) = r + 7 - 1 := i64w (by omega)
 have e3 : (r + 7 - 1).tdiv 7 = (r + 6) / 7 := by rw [show r + 7 - 1 = r + 6 by omega]; exact Int.tdiv_eq_ediv_of_nonneg (by omega)
 have e4 : IntKind.i64.wrap ((r + 6) / 7) = (r + 6) / 7 := i64w (by omega)
 have e0 : lebSize x = some (imax 1 ((r + 6) / 7)) := by
  unfold lebSize
  refine (bds h1).trans ?_
  show some (imax 1 (IntKind.i64.wrap ((IntKind.i64.wrap (IntKind.i64.wrap (r + 7) - 1)).tdiv 7))) = _
  rw [e1, e2, e3, e4]
 refine ⟨(imax 1 ((r + 6) / 7)).toNat, ?_, ?_⟩
 ·rw [e0]; unfold imax; split <;> congr 1 <;> omega
 ·unfold imax; split <;> omega
theorem leb_Put_some (x : UInt64) : ∃ b, leb_Put x = some b ∧ b.length ≤ 200 := by
 obtain ⟨r, h1, h2, h3⟩ := lebSize_some x
 have e0 : leb_Put x = _ := bds h1
 have e0 := e0.trans (bds (mkz_ok (z := (0 : UInt8)) (by omega) (by omega)))
 obtain ⟨b, hb, hbl⟩ := loop_keep (body := leb_Put_l1 (List.replicate r (0 : UInt8)) x) r (fun _ s => s.length = r) (fun s => s.length = r) (fun i s hi hs => by
   have hw : IntKind.i64.wrap (7 * (i : Int)) = 7 * (i : Int) := i64w (by omega)
   have hu : shrU x (IntKind.i64.wrap (7 * (i : Int))) = some (UInt64.ofInt ((x.toNat : Int).fdiv (2 ^ (min (7 * (i : Int)).toNat 64)))) := by
    rw [hw]; unfold shrU; exact if_pos (by omega)
   have hn : nth s (i : Int) = some (s.getD i 0) := nthD 0 (by omega)
   refine ⟨s.set i (UInt8.ofInt (bitOr .u8 (((UInt8.ofInt (((UInt64.ofInt ((x.toNat : Int).fdiv (2 ^ (min (7 * (i : Int)).toNat 64)))).toNat : Int))).toNat : Int)) 128)), ?_, by simp [hs]⟩
   show (if decide ((i : Int) < ((List.replicate r (0 : UInt8)).length : Int)) = true then _ else _) = _
   rw [if_pos (decide_eq_true (by simp; omega))]
   refine (bds hu).trans ((bds hn).trans ?_)
   rw [lim (by omega)]; rfl) (fun s hs => by
   refine ⟨s, ?_, hs⟩
   show (if decide ((r : Int) < ((List.replicate r (0 : UInt8)).length : Int)) = true then _ else _) = _
   rw [if_neg (by simp)]) 0 (List.replicate r 0) (by omega) (by simp)
 have e0 := e0.trans (bds hb)
 have hw : IntKind.i64.wrap ((b.length : Int) - 1) = ((b.length - 1 : Nat) : Int) := by rw [i64w (by omega)]; omega
 have hn : nth b (IntKind.i64.wrap ((b.length : Int) - 1)) = some (b.getD (b.length - 1) 0) := by rw [hw]; exact nthD 0 (by omega)
 have e0 := e0.trans ((bds hn).trans (bds hn))
 exact ⟨_, e0, by simp; omega⟩
theorem leb_Bytes_some (b : List UInt8) (h : b.length ≤ 100000) : ∃ r, leb_Bytes b = some r ∧ r.length ≤ b.length + 200 := by
 obtain ⟨c, h1, h2⟩ := leb_Put_some (UInt64.ofInt (b.length : Int))
 refine ⟨_, (bds h1).trans (bds (app_ok c b (by omega) (by omega))), by simp; omega⟩
/-! ### Fields -/
def okF : AnyV → Prop
 | .mk 3 (.int _) => True
 | .mk 9 (.str s) => List.length s ≤ 2000
 | .mk 33 (.bytes s) => s.length ≤ 2000
 | .mk 4 (.bool _) => True
 | _ => False
theorem put_some {fields : List AnyV} {b : List UInt8} (hb : b.length ≤ 100000000) (hf : fields.length ≤ 100) (h : ∀ v ∈ fields, okF v) : ∃ r, obj_put b fields = some r ∧ r.length ≤ b.length + 3000 * fields.length := by
 obtain ⟨r, h1, h2⟩ := loop_keep (body := obj_put_l1 fields) fields.length (fun i s => s.length ≤ b.length + 3000 * i) (fun s => s.length ≤ b.length + 3000 * fields.length) (fun i s hi hs => by
   have hn : nth fields (i : Int) = some fields[i] := nth_get hi
   have hk := h fields[i] (List.getElem_mem hi)
   have e0 : obj_put_l1 fields (s, (i : Int)) = _ := if_pos (decide_eq_true (show (i : Int) < (fields.length : Int) by omega))
   have e0 := e0.trans (bds hn)
   generalize fields[i] = v at e0 hk
   have fin : ∀ t : List UInt8, t.length ≤ 2900 → ∃ s', (((app 1 s t).bind fun l => obj_put_j2 (i : Int) l) = some (.inl (s', ((i + 1 : Nat) : Int)))) ∧ s'.length ≤ b.length + 3000 * (i + 1) := fun t ht => by
    refine ⟨s ++ t, ?_, by simp; omega⟩
    refine (bds (app_ok s t (by omega) (by omega))).trans ?_
    unfold obj_put_j2
    rw [lim (by omega)]
   unfold okF at hk
   split at hk
   ·rename_i n
    obtain ⟨c, c1, c2⟩ := leb_Put_some (UInt64.ofInt n)
    obtain ⟨s', f1, f2⟩ := fin c (by omega)
    refine ⟨s', ?_, f2⟩
    refine e0.trans (Eq.trans (bds (x := (n, true)) rfl) ?_)
    exact (if_pos rfl).trans ((bds c1).trans f1)
   ·rename_i t
    obtain ⟨c, c1, c2⟩ := leb_Bytes_some t (by omega)
    obtain ⟨s', f1, f2⟩ := fin c (by omega)
    refine ⟨s', ?_, f2⟩
    refine e0.trans (Eq.trans (bds (x := ((0 : Int), false)) rfl) ?_)
    refine (if_neg Bool.false_ne_true).trans (Eq.trans (bds (x := ((t : Str), true)) rfl) ?_)
    exact (if_pos rfl).trans ((bds (app_ok [] t (by simp; omega) (by simp; omega))).trans ((bds c1).trans f1))
   ·rename_i t
    obtain ⟨c, c1, c2⟩ := leb_Bytes_some t (by omega)
    obtain ⟨s', f1, f2⟩ := fin c (by omega)
    refine ⟨s', ?_, f2⟩
    refine e0.trans (Eq.trans (bds (x := ((0 : Int), false)) rfl) ?_)
    refine (if_neg Bool.false_ne_true).trans (Eq.trans (bds (x := ((str [] : Str), false)) rfl) ?_)
    refine (if_neg Bool.false_ne_true).trans (Eq.trans (bds (x := ((t : List UInt8), true)) rfl) ?_)
    exact (if_pos rfl).trans ((bds c1).trans f1)
   ·rename_i t
    obtain ⟨c, c1, c2⟩ := leb_Put_some (UInt64.ofInt (if t = true then 1 else 0))
    obtain ⟨s', f1, f2⟩ := fin c (by omega)
    refine ⟨s', ?_, f2⟩
    refine e0.trans (Eq.trans (bds (x := ((0 : Int), false)) rfl) ?_)
    refine (if_neg Bool.false_ne_true).trans (Eq.trans (bds (x := ((str [] : Str), false)) rfl) ?_)
    refine (if_neg Bool.false_ne_true).trans (Eq.trans (bds (x := (([] : List UInt8), false)) rfl) ?_)
    refine (if_neg Bool.false_ne_true).trans (Eq.trans (bds (x := ((str [] : Str), false)) rfl) ?_)
    refine (if_neg Bool.false_ne_true).trans (Eq.trans (bds (x := (t, true)) rfl) ?_)
    refine (if_pos rfl).trans ?_
    cases t with
    | true => exact (if_pos rfl).trans ((bds c1).trans f1)
    | false => exact (if_neg Bool.false_ne_true).trans ((bds c1).trans f1)
   ·cases hk) (fun s hs => by
   refine ⟨s, ?_, hs⟩
   exact if_neg (by simp)) 0 b (by omega) (by simp)
 exact ⟨r, bds h1, h2⟩
theorem put_somen {fields : List AnyV} {b : List UInt8} (n : Nat) (hn : fields.length = n) (hb : b.length ≤ 100000000) (hf : n ≤ 100) (h : ∀ v ∈ fields, okF v) : ∃ r, obj_put b fields = some r ∧ r.length ≤ b.length + 3000 * n := by
 subst hn; exact put_some hb hf h
theorem eqS_iff (a b : List UInt8) : eqS a b = true ↔ a = b := by unfold eqS; simp
end Go.Ai.Rab
end
section
/- Plain, plainly: which inodes may be, alone. -/
set_option linter.unusedVariables false
set_option linter.unusedSimpArgs false
set_option maxRecDepth 10000
open Go.Ai.Enc (enc is)
namespace Go.Ai.Rab
/-! ### Rows of names that rise -/
def nmAt (l : List Str) (i : Nat) : Str := l.getD i (str [])
theorem nthN {l : List Str} {i : Nat} (h : i < l.length) : nth l (i : Int) = some (nmAt l i) := nthD (str []) h
theorem nmAt_get {l : List Str} {i : Nat} (h : i < l.length) : nmAt l i = l[i] := by unfold nmAt; simp only [List.getD_eq_getElem?_getD, List.getElem?_eq_getElem h, Option.getD_some]
def risP (l : List Str) (i : Nat) : Bool := chkS (nmAt l i) == 0 && !(decide (0 < i) && (ltS (nmAt l i) (nmAt l (i - 1)) || eqS (nmAt l i) (nmAt l (i - 1))))
def risB (l : List Str) : Bool := (List.range' 0 l.length).all (risP l)
theorem ris_in {l : List Str} {i : Nat} (h : i < l.length) (hl : l.length < 9000000000000000000) :
  (if decide ((i : Int) > 0) = true then ((nth l (IntKind.i64.wrap ((i : Int) - 1))).bind fun v3 => some (ltS (nmAt l i) v3 || eqS (nmAt l i) v3)) else some false) = some (decide (0 < i) && (ltS (nmAt l i) (nmAt l (i - 1)) || eqS (nmAt l i) (nmAt l (i - 1)))) := by
 by_cases h0 : 0 < i
 ·have hw : IntKind.i64.wrap ((i : Int) - 1) = ((i - 1 : Nat) : Int) := by rw [i64w (by omega)]; omega
  rw [if_pos (decide_eq_true (by omega)), hw, decide_eq_true h0, Bool.true_and]
  exact bds (nthN (by omega))
 ·rw [if_neg (by simp; omega), decide_eq_false h0, Bool.false_and]
theorem ris_fin (c : Int) (x : Bool) {α : Type} (a b : Option α) : ((if (c != 0) = true then some true else ((some x).bind fun b1 => some b1)).bind fun b' => if b' = true then a else b) = if (c == 0 && !x) = true then b else a := by
 by_cases h : c = 0
 ·subst h; cases x <;> rfl
 ·have e1 : (c != 0) = true := by simp [h]
  have e2 : (c == 0) = false := by simp [h]
  rw [e1, e2]; rfl
theorem obj_rising_eq {l : List Str} (hl : l.length < 9000000000000000000) : obj_rising l = some (risB l) := by
 have h := loop_all (body := obj_rising_l1 l) l.length (risP l) false (fun i hi => by
  show (if decide ((i : Int) < (l.length : Int)) = true then _ else _) = _
  rw [if_pos (decide_eq_true (by omega))]
  refine (bds (nthN hi)).trans ((bds (Check_eq _)).trans ?_)
  rw [ris_in hi hl, ris_fin, lim (by omega)]
  rfl) (by
  show (if decide ((l.length : Int) < (l.length : Int)) = true then _ else _) = _
  rw [if_neg (by simp)]) 0 (Nat.zero_le _)
 refine (bds h).trans ?_
 show _ = some ((List.range' 0 l.length).all (risP l))
 cases (List.range' 0 (l.length - 0)).all (risP l) <;> rfl
theorem risB_ok {l : List Str} (h : risB l = true) : ∀ s ∈ l, chkS s = 0 := by
 intro s hs
 obtain ⟨i, hi, rfl⟩ := List.getElem_of_mem hs
 have := range_all.1 h i hi
 unfold risP at this
 simp only [Bool.and_eq_true, beq_iff_eq] at this
 have h1 := this.1
 rw [nmAt_get hi] at h1; exact h1
theorem chkS_len {s : Str} (h : chkS s = 0) : List.length s ≤ 100 := by
 unfold chkS at h
 split at h
 ·cases h
 ·split at h
  ·cases h
  ·omega
/-! ### Attributes -/
def atP (l : List AttrR) (i : Nat) : Bool := decide ((l[i]?.map fun a => a.v.2.1.length).getD 0 ≤ 256)
def attrsB (l : List AttrR) : Bool := (List.range' 0 l.length).all (atP l) && (decide (l.length ≤ 8) && risB (l.map fun a => a.v.1))
theorem loop_names {α : Type} {body : (List Str × Int) → Option ((List Str × Int) ⊕ (List Str ⊕ Bool))} {l : List α} (nm : α → Str) (p : Nat → Bool) (h : ∀ (i : Nat) (hi : i < l.length) (s : List Str), s.length = i → body (s, (i : Int)) = if p i then some (.inl (s ++ [nm l[i]], ((i + 1 : Nat) : Int))) else some (.inr (.inr false)))
  (he : ∀ s, body (s, (l.length : Int)) = some (.inr (.inl s))) : ∀ (d i : Nat) (hi : i + d = l.length) (s : List Str), s.length = i → loop body (s, (i : Int)) = some (if (List.range' i d).all p then .inl (s ++ (l.drop i).map nm) else .inr false)
 | 0, i, hi, s, hs => by
  have : i = l.length := by omega
  subst this
  rw [loop_done (he s)]; simp
 | d + 1, i, hi, s, hs => by
  have h1 := h i (by omega) s hs
  rw [List.range'_succ, List.all_cons]
  cases hp : p i with
  | false => rw [hp, if_neg Bool.false_ne_true] at h1; rw [loop_done h1]; rfl
  | true =>
   rw [hp, if_pos rfl] at h1
   rw [loop_next h1, loop_names nm p h he d (i + 1) (by omega) _ (by simp [hs]), Bool.true_and]
   have : s ++ [nm l[i]] ++ (l.drop (i + 1)).map nm = s ++ (l.drop i).map nm := by
    rw [List.drop_eq_getElem_cons (show i < l.length by omega), List.map_cons, List.append_assoc]; rfl
   rw [this]
theorem obj_attrs_eq {l : List AttrR} (hl : l.length ≤ 2000000) : obj_attrs l = some (attrsB l) := by
 have h := loop_names (body := obj_attrs_l1 l) (l := l) (fun a => a.v.1) (atP l) (fun i hi s hs => by
  show (if decide ((i : Int) < (l.length : Int)) = true then _ else _) = _
  rw [if_pos (decide_eq_true (by omega))]
  refine (bds (nth_get hi)).trans ((bds (app_ok s [l[i].v.1] (by simp; omega) (by simp; omega))).trans ?_)
  have : atP l i = decide (l[i].v.2.1.length ≤ 256) := by simp [atP, hi]
  rw [this, lim (by omega)]
  by_cases hc : l[i].v.2.1.length ≤ 256
  ·rw [decide_eq_true hc, if_neg (by simp; omega), if_pos rfl]
  ·rw [decide_eq_false hc, if_pos (decide_eq_true (by omega)), if_neg Bool.false_ne_true]) (fun s => by
  show (if decide ((l.length : Int) < (l.length : Int)) = true then _ else _) = _
  rw [if_neg (by simp)]) l.length 0 (by omega) [] rfl
 refine (bds h).trans ?_
 unfold attrsB
 cases (List.range' 0 l.length).all (atP l) with
 | false => rfl
 | true =>
  rw [if_pos rfl, Bool.true_and]
  show ((if decide ((l.length : Int) ≤ 8) = true then ((obj_rising (List.map (fun a : AttrR => a.v.1) l)).bind fun r_ => some r_) else some false).bind fun b => some b) = _
  rw [obj_rising_eq (by simp; omega)]
  have : decide ((l.length : Int) ≤ 8) = decide (l.length ≤ 8) := by rw [decide_eq_decide]; omega
  rw [this]
  cases decide (l.length ≤ 8) <;> rfl
/-! ### Nodes -/
def tgB (k : Int) (t : Str) : Bool := if k != 3 then eqS t (str []) else !eqS t (str []) && (decide (List.length t ≤ 1000) && !decide (Go.Lib.indexByte t 0 ≥ 0))
def metaB (k m n : Int) (t : Str) (l : List AttrR) : Bool := decide (0 ≤ m ∧ m ≤ 4095) && (decide (0 ≤ n ∧ n ≤ 64) && (decide (1 ≤ k ∧ k ≤ 3) && (tgB k t && attrsB l)))
theorem contains_eq (t : Str) : str_Contains t (str [0]) = some (decide (Go.Lib.indexByte t 0 ≥ 0)) := rfl
abbrev metaOf (k m n : Int) (t : Str) (l : List AttrR) : MetaR := Rec.mk (k, m, n, (0 : Int), t, l, ([] : List RefR), ())
theorem obj_target_eq (k m n : Int) (t : Str) (l : List AttrR) : obj_target (metaOf k m n t l) = some (tgB k t) := by
 unfold obj_target tgB
 show (if (k != 3) = true then some (eqS t (str [])) else _) = _
 by_cases hk : (k != 3) = true
 ·rw [if_pos hk, if_pos hk]
 ·rw [if_neg hk, if_neg hk]
  show ((if (!eqS t (str [])) = true then some (decide (((List.length t : Nat) : Int) ≤ 1000)) else some false).bind fun b => ((if b = true then ((str_Contains t (str [0])).bind fun r_ => some (!r_)) else some false).bind fun b1 => ((if b1 = true then some ((0 : Int) == 0) else some false).bind fun b2 => some b2))) = _
  have e : decide (((List.length t : Nat) : Int) ≤ 1000) = decide (List.length t ≤ 1000) := by rw [decide_eq_decide]; omega
  rw [e, contains_eq]
  cases (!eqS t (str [])) <;> cases decide (List.length t ≤ 1000) <;> cases decide (Go.Lib.indexByte t 0 ≥ 0) <;> rfl
theorem dec2 (a lo hi : Int) : (if decide (a ≥ lo) = true then some (decide (a ≤ hi)) else some false) = some (decide (lo ≤ a ∧ a ≤ hi)) := by
 by_cases h : a ≥ lo
 ·rw [if_pos (decide_eq_true h)]; congr 1; rw [decide_eq_decide]; omega
 ·rw [if_neg (by simpa using h), decide_eq_false (by omega)]
theorem obj_meta_eq {k m n : Int} {t : Str} {l : List AttrR} (hl : l.length ≤ 2000000) : obj_meta (metaOf k m n t l) = some (metaB k m n t l) := by
 unfold obj_meta metaB
 have e1 : ∀ (b : Bool) (g : Bool → Option Bool), ((if b = true then some (decide ((0 : Int) ≥ 0)) else some false).bind fun b3 => ((if b3 = true then some (decide ((0 : Int) ≤ 32768)) else some false).bind fun b4 => ((if b4 = true then some (decide ((([] : List RefR).length : Int) ≤ 128)) else some false).bind g))) = g b := fun b g => by cases b <;> rfl
 show ((if decide (m ≥ 0) = true then some (decide (m ≤ 4095)) else some false).bind fun b => ((if b = true then some (decide (n ≥ 0)) else some false).bind fun b1 => ((if b1 = true then some (decide (n ≤ 64)) else some false).bind fun b2 => ((if b2 = true then some (decide ((0 : Int) ≥ 0)) else some false).bind fun b3 => ((if b3 = true then some (decide ((0 : Int) ≤ 32768)) else some false).bind fun b4 => ((if b4 = true then some (decide ((([] : List RefR).length : Int) ≤ 128)) else some false).bind fun b5 => ((if decide (k < 1) = true then some true else some (decide (k > 3))).bind fun b6 => ((if b6 = true then some true else some (!b5)).bind fun b7 => ((if b7 = true then some true else ((obj_target (metaOf k m n t l)).bind fun r_ => some (!r_))).bind fun b8 => ((if b8 = true then some true else ((obj_attrs l).bind fun r_1 => some (!r_1))).bind fun b9 => (if b9 = true then some false else ((loop (obj_meta_l1 (metaOf k m n t l)) (0, 0)).bind (obj_meta_a1 (metaOf k m n t l))))))))))))))  = _
 have e2 : ∀ b : Bool, ((if b = true then some (decide (n ≥ 0)) else some false).bind fun b1 => (if b1 = true then some (decide (n ≤ 64)) else some false)) = some (b && decide (0 ≤ n ∧ n ≤ 64)) := fun b => by
  cases b with
  | false => rfl
  | true => rw [if_pos rfl, bd, dec2]; rfl
 have e3 : (if decide (k < 1) = true then some true else some (decide (k > 3))) = some (!decide (1 ≤ k ∧ k ≤ 3)) := by
  by_cases h : k < 1
  ·rw [if_pos (decide_eq_true h), decide_eq_false (by omega)]; rfl
  ·rw [if_neg (by simpa using h)]; congr 1
   by_cases h2 : k ≤ 3
   ·rw [decide_eq_false (by omega), decide_eq_true (by omega)]; rfl
   ·rw [decide_eq_true (by omega), decide_eq_false (by omega)]; rfl
 have e4 : loop (obj_meta_l1 (metaOf k m n t l)) (0, 0) = some (.inl 0) := loop_done rfl
 rw [dec2, bd]
 have e5 : ∀ (b : Bool) (g : Bool → Option Bool), ((if b = true then some (decide (n ≥ 0)) else some false).bind fun b1 => ((if b1 = true then some (decide (n ≤ 64)) else some false).bind g)) = g (b && decide (0 ≤ n ∧ n ≤ 64)) := fun b g => by
  rw [← Option.bind_assoc, e2, bd]
 rw [e5, e1, e3, bd, obj_target_eq, obj_attrs_eq hl, e4]
 have hz : (Option.bind (some (Sum.inl (0 : Int))) (obj_meta_a1 (metaOf k m n t l)) : Option Bool) = some true := rfl
 rw [hz]
 cases decide (0 ≤ m ∧ m ≤ 4095) <;> cases decide (0 ≤ n ∧ n ≤ 64) <;> cases decide (1 ≤ k ∧ k ≤ 3) <;> cases tgB k t <;> cases attrsB l <;> rfl
theorem attrs_len {l : List AttrR} (h : attrsB l = true) : l.length ≤ 8 ∧ ∀ a ∈ l, List.length a.v.1 ≤ 100 ∧ a.v.2.1.length ≤ 256 := by
 unfold attrsB at h
 simp only [Bool.and_eq_true, decide_eq_true_eq] at h
 obtain ⟨h1, h2, h3⟩ := h
 refine ⟨h2, fun a ha => ⟨chkS_len (risB_ok h3 _ (List.mem_map_of_mem ha)), ?_⟩⟩
 obtain ⟨i, hi, rfl⟩ := List.getElem_of_mem ha
 have := range_all.1 h1 i hi
 simpa [atP, hi] using this
theorem tg_len {k : Int} {t : Str} (h : tgB k t = true) : List.length t ≤ 1000 := by
 unfold tgB at h
 split at h
 ·have := congrArg List.length ((eqS_iff t []).1 h)
  rw [this]; decide
 ·simp only [Bool.and_eq_true, decide_eq_true_eq] at h
  exact h.2.1
theorem aux6 {i a b : Nat} (h : a ≤ 20000 + 7000 * i) (k : b ≤ a + 6000) : b ≤ 20000 + 7000 * (i + 1) := by rw [Nat.mul_succ, ← Nat.add_assoc]; exact Nat.le_trans k (Nat.add_le_add h (by decide))
theorem PutMeta_eq {k m n : Int} {t : Str} {l : List AttrR} (hl : l.length ≤ 2000000) : ∃ b, obj_PutMeta (metaOf k m n t l) = some (b, if metaB k m n t l = true then 0 else 80) := by
 have e0 : obj_PutMeta (metaOf k m n t l) = _ := bds (obj_meta_eq hl)
 cases hm : metaB k m n t l with
 | false =>
  rw [hm] at e0
  exact ⟨[], e0.trans (if_pos rfl)⟩
 | true =>
  rw [hm] at e0
  have hm' := hm
  unfold metaB at hm'
  simp only [Bool.and_eq_true, decide_eq_true_eq] at hm'
  obtain ⟨_, _, _, h4, h5⟩ := hm'
  obtain ⟨l1, l2⟩ := attrs_len h5
  have l3 := tg_len h4
  have e0 := e0.trans (if_neg (show ¬ (!true) = true by decide))
  obtain ⟨b1, p1, p2⟩ := put_somen 6 (b := []) (fields := [toAny 3 (k : Int), toAny 3 (m : Int), toAny 3 (n : Int), toAny 3 (0 : Int), toAny 9 (t : Str), toAny 3 ((l.length : Int) : Int)]) rfl (by simp) (by decide) (by
   intro v hv
   simp only [List.mem_cons, List.not_mem_nil, or_false] at hv
   rcases hv with rfl | rfl | rfl | rfl | rfl | rfl <;> first | trivial | (show List.length t ≤ 2000; omega))
  have e0 := e0.trans (bds p1)
  rw [List.length_nil] at p2
  obtain ⟨b2, q1, q2⟩ := loop_keep (body := obj_PutMeta_l1 (metaOf k m n t l)) l.length (fun i s => s.length ≤ 20000 + 7000 * i) (fun s => s.length ≤ 20000 + 7000 * l.length) (fun i s hi hs => by
   obtain ⟨h6, h7⟩ := l2 l[i] (List.getElem_mem hi)
   obtain ⟨b', r1, r2⟩ := put_somen 2 (b := s) (fields := [toAny 9 (l[i].v.1 : Str), toAny 33 (l[i].v.2.1 : List UInt8)]) rfl (by omega) (by decide) (by
    intro v hv
    simp only [List.mem_cons, List.not_mem_nil, or_false] at hv
    rcases hv with rfl | rfl
    ·show List.length l[i].v.1 ≤ 2000; omega
    ·show List.length l[i].v.2.1 ≤ 2000; omega)
   refine ⟨b', ?_, aux6 hs r2⟩
   refine (if_pos (decide_eq_true (show (i : Int) < (l.length : Int) by omega))).trans ?_
   refine (bds (nth_get hi)).trans ((bds r1).trans ?_)
   rw [lim (by omega)]) (fun s hs => ⟨s, if_neg (by simp), hs⟩) 0 b1 (by omega) (by omega)
  have e0 := e0.trans (bds q1)
  obtain ⟨b3, s1, s2⟩ := put_somen 1 (b := b2) (fields := [toAny 3 ((([] : List RefR).length : Int) : Int)]) rfl (by omega) (by decide) (by
   intro v hv
   simp only [List.mem_cons, List.not_mem_nil, or_false] at hv
   subst hv; trivial)
  have e0 := e0.trans (bds s1)
  have e4 : loop (obj_PutMeta_l2 (metaOf k m n t l)) (b3, 0) = some b3 := loop_done rfl
  exact ⟨b3, e0.trans (bds e4)⟩
/-! ### Listings -/
def numB (n : Int) : Bool := decide (1 ≤ n ∧ n ≤ 1024)
def listB (a : List Str) (b : List Int) : Bool := decide (a.length ≤ 256) && (decide (b.length = a.length) && (risB a && b.all numB))
abbrev listOf (a : List Str) (b : List Int) : ListingR := Rec.mk (true, a, b, ())
theorem odd_eq (n : Int) (a : List Str) (b : List Int) : odd_num n (PtrC.mk (listOf a b)) = some (!numB n) := by
 unfold odd_num numB
 show ((if decide (n < 0) = true then some true else some (decide (n > 1024))).bind fun b => ((if b = true then some true else ((if true = true then some (n == 0) else some false).bind fun b2 => some b2)).bind fun b1 => some b1)) = _
 by_cases h1 : n < 0
 ·rw [if_pos (decide_eq_true h1), decide_eq_false (by omega)]; rfl
 ·rw [if_neg (by simpa using h1)]
  by_cases h2 : n > 1024
  ·rw [decide_eq_true h2, decide_eq_false (by omega)]; rfl
  ·rw [decide_eq_false h2]
   by_cases h3 : n = 0
   ·subst h3; rfl
   ·have : (n == 0) = false := by simpa using h3
    rw [this, decide_eq_true (show 1 ≤ n ∧ n ≤ 1024 by omega)]; rfl
theorem loop_first {body : Int → Option (Int ⊕ (Unit ⊕ Int))} (n : Nat) (p : Nat → Bool) (h : ∀ i : Nat, i < n → body i = if p i then some (.inr (.inr (i : Int))) else some (.inl ((i + 1 : Nat) : Int))) (hn : body n = some (.inr (.inl ()))) :
  ∀ (d i : Nat), i + d = n → loop body i = some (match (List.range' i d).find? p with | some k => .inr (k : Int) | none => .inl ())
 | 0, i, hi => by
  have : i = n := by omega
  subst this
  exact loop_done hn
 | d + 1, i, hi => by
  have h1 := h i (by omega)
  rw [List.range'_succ, List.find?_cons]
  cases hp : p i with
  | true => rw [hp, if_pos rfl] at h1; rw [loop_done h1]
  | false => rw [hp, if_neg Bool.false_ne_true] at h1; rw [loop_next h1, loop_first n p h hn d (i + 1) (by omega)]
theorem find_all {p : Nat → Bool} {d i : Nat} : (List.range' i d).find? p = none ↔ (List.range' i d).all (fun k => !p k) = true := by
 rw [List.find?_eq_none, List.all_eq_true]; simp
theorem Contains_eq {a : List Str} {b : List Int} (hb : b.length < 9000000000000000000) (f : Clo 74 ((PtrC ListingR) × Unit)) (hf : f.cap.1 = PtrC.mk (listOf a b)) : sl_ContainsFunc b f = some (!b.all numB) := by
 have h := loop_first (body := sl_IndexFunc2_l1 b f) b.length (fun i => !numB (b.getD i 0)) (fun i hi => by
  refine (if_pos (decide_eq_true (show (i : Int) < (b.length : Int) by omega))).trans ?_
  refine (bds (nthD 0 hi)).trans ?_
  rw [hf]
  refine (bds (odd_eq _ _ _)).trans ?_
  rw [lim (by omega)]) (if_neg (by simp)) b.length 0 (by omega)
 have e0 : sl_IndexFunc2 b f = _ := bds h
 have hall : b.all numB = (List.range' 0 b.length).all fun i => numB (b.getD i 0) := by
  rw [Bool.eq_iff_iff, List.all_eq_true, range_all]
  constructor
  ·intro h i hi
   simp only [List.getD_eq_getElem?_getD, List.getElem?_eq_getElem hi, Option.getD_some]
   exact h _ (List.getElem_mem hi)
  ·intro h x hx
   obtain ⟨i, hi, rfl⟩ := List.getElem_of_mem hx
   have := h i hi
   simpa only [List.getD_eq_getElem?_getD, List.getElem?_eq_getElem hi, Option.getD_some] using this
 rw [hall]
 cases hf : (List.range' 0 b.length).find? (fun i => !numB (b.getD i 0)) with
 | none =>
  rw [hf] at e0
  refine (bds e0).trans ?_
  have := find_all.1 hf
  simp only [Bool.not_not] at this
  rw [this]; rfl
 | some k =>
  rw [hf] at e0
  refine (bds e0).trans ?_
  have : (List.range' 0 b.length).all (fun i => numB (b.getD i 0)) = false := by
   rw [Bool.eq_false_iff]
   intro h
   have h1 := List.find?_some hf
   have h2 := List.all_eq_true.1 h k (List.mem_of_find?_eq_some hf)
   rw [h2] at h1; cases h1
  rw [this]
  show some (decide ((k : Int) ≥ 0)) = _
  rw [decide_eq_true (by omega)]; rfl
theorem PutListing_eq {a : List Str} {b : List Int} (ha : a.length ≤ 2000000) (hb : b.length ≤ 2000000) : ∃ c, obj_PutListing (listOf a b) = some (c, if listB a b = true then 0 else 80) := by
 have g1 : (if decide ((a.length : Int) > 256) = true then some true else some ((b.length : Int) != (a.length : Int))) = some (!(decide (a.length ≤ 256) && decide (b.length = a.length))) := by
  by_cases h : a.length ≤ 256
  ·rw [if_neg (by simp; omega), decide_eq_true h, Bool.true_and]
   congr 1
   by_cases h2 : b.length = a.length
   ·simp [h2]
   ·rw [decide_eq_false h2]; simp; omega
  ·rw [if_pos (decide_eq_true (by omega)), decide_eq_false h]; rfl
 have e0 : obj_PutListing (listOf a b) = _ := bds g1
 have g2 : ∀ x : Bool, (if (!x) = true then some true else ((obj_rising a).bind fun r_ => some (!r_))) = some (!(x && risB a)) := fun x => by
  rw [obj_rising_eq (by omega)]; cases x <;> rfl
 have e0 := e0.trans (bds (g2 _))
 have g3 : ∀ x : Bool, (if (!x) = true then some true else ((sl_ContainsFunc b (Clo.mk ((PtrC.mk (listOf a b) : PtrC ListingR), ()) : Clo 74 ((PtrC ListingR) × Unit))).bind fun r_1 => some r_1)) = some (!(x && b.all numB)) := fun x => by
  rw [Contains_eq (by omega) _ rfl]; cases x <;> rfl
 have e0 := e0.trans (bds (g3 _))
 have hL : (((decide (a.length ≤ 256) && decide (b.length = a.length)) && risB a) && b.all numB) = listB a b := by
  unfold listB; simp only [Bool.and_assoc]
 rw [hL] at e0
 cases hm : listB a b with
 | false =>
  rw [hm] at e0
  exact ⟨[], e0.trans (if_pos rfl)⟩
 | true =>
  rw [hm] at e0
  have hm' := hm
  unfold listB at hm'
  simp only [Bool.and_eq_true, decide_eq_true_eq] at hm'
  obtain ⟨h1, h2, h3, h4⟩ := hm'
  have e0 := e0.trans (if_neg (show ¬ (!true) = true by decide))
  obtain ⟨b1, p1, p2⟩ := put_somen 2 (b := []) (fields := [toAny 4 (true : Bool), toAny 3 ((a.length : Int) : Int)]) rfl (by simp) (by decide) (by
   intro v hv
   simp only [List.mem_cons, List.not_mem_nil, or_false] at hv
   rcases hv with rfl | rfl <;> trivial)
  have e0 := e0.trans (bds p1)
  rw [List.length_nil] at p2
  obtain ⟨b2, q1, q2⟩ := loop_keep (body := obj_PutListing_l1 (listOf a b)) a.length (fun i s => s.length ≤ 20000 + 6000 * i) (fun s => s.length ≤ 20000 + 6000 * a.length) (fun i s hi hs => by
   have h6 := chkS_len (risB_ok h3 a[i] (List.getElem_mem hi))
   obtain ⟨b', r1, r2⟩ := put_somen 1 (b := s) (fields := [toAny 9 (a[i] : Str)]) rfl (by omega) (by decide) (by
    intro v hv
    simp only [List.mem_cons, List.not_mem_nil, or_false] at hv
    subst hv
    show List.length a[i] ≤ 2000; omega)
   refine ⟨b', ?_, by omega⟩
   refine (if_pos (decide_eq_true (show (i : Int) < (a.length : Int) by omega))).trans ?_
   refine (bds (nth_get hi)).trans ((bds r1).trans ?_)
   rw [lim (by omega)]) (fun s hs => ⟨s, if_neg (by simp), hs⟩) 0 b1 (by omega) (by omega)
  have e0 := e0.trans (bds q1)
  obtain ⟨b3, s1, s2⟩ := loop_keep (body := obj_PutListing_l2 (listOf a b)) b.length (fun i s => s.length ≤ 2000000 + 6000 * i) (fun s => True) (fun i s hi hs => by
   obtain ⟨b', r1, r2⟩ := put_somen 1 (b := s) (fields := [toAny 3 (b[i] : Int)]) rfl (by omega) (by decide) (by
    intro v hv
    simp only [List.mem_cons, List.not_mem_nil, or_false] at hv
    subst hv; trivial)
   refine ⟨b', ?_, by omega⟩
   refine (if_pos (decide_eq_true (show (i : Int) < (b.length : Int) by omega))).trans ?_
   refine (bds (nth_get hi)).trans ((bds r1).trans ?_)
   rw [lim (by omega)]) (fun s hs => ⟨s, if_neg (by simp), trivial⟩) 0 b2 (by omega) (by omega)
  have e0 := e0.trans (bds s1)
  exact ⟨b3, e0⟩
/-! ### Inodes -/
def aloneB (x : InodeR) : Bool := metaB x.v.2.1 x.v.2.2.1 x.v.2.2.2.1 x.v.2.2.2.2.2.1 x.v.2.2.2.2.2.2.2.2.1 && ((decide (x.v.2.2.2.2.1.length = 0) || decide (x.v.2.1 = 1 ∧ x.v.2.2.2.2.1.length ≤ 32768)) && (decide (1 ≤ x.v.1 ∧ x.v.1 ≤ 1024) &&
 (if x.v.2.1 != 2 then decide (x.v.2.2.2.2.2.2.1.length = 0 ∧ x.v.2.2.2.2.2.2.2.1.length = 0) else listB x.v.2.2.2.2.2.2.1 x.v.2.2.2.2.2.2.2.1 && (decide (x.v.2.2.2.1 = 1) && decide (x.v.2.2.2.2.2.2.1.length ≤ 128)))))
def smallI (x : InodeR) : Prop := x.v.2.2.2.2.1.length ≤ 2000000 ∧ x.v.2.2.2.2.2.2.1.length ≤ 2000000 ∧ x.v.2.2.2.2.2.2.2.1.length ≤ 2000000 ∧ x.v.2.2.2.2.2.2.2.2.1.length ≤ 2000000
theorem right_eq {x : InodeR} (h : smallI x) : plain_right x = some (aloneB x) := by
 obtain ⟨h1, h2, h3, h4⟩ := h
 obtain ⟨⟨num, k, m, n, d, t, ns, is, at_, u⟩⟩ := x
 simp only at h1 h2 h3 h4
 obtain ⟨b, hb⟩ := PutMeta_eq (k := k) (m := m) (n := n) (t := t) (l := at_) h4
 have e0 : plain_right (Rec.mk (num, k, m, n, d, t, ns, is, at_, u)) = _ := bds hb
 have g1 : (if ((d.length : Int) == 0) = true then some true else ((if (k == 1) = true then some (decide ((d.length : Int) ≤ 32768)) else some false).bind fun b1 => some b1)) = some (decide (d.length = 0) || decide (k = 1 ∧ d.length ≤ 32768)) := by
  by_cases hd : d.length = 0
  ·rw [if_pos (by simp [hd]), decide_eq_true hd]; rfl
  ·rw [if_neg (by simp; intro e; exact hd (by rw [e]; rfl)), decide_eq_false hd, Bool.false_or]
   by_cases hk : k = 1
   ·rw [if_pos (by simp [hk]), bd]; congr 1; rw [decide_eq_decide]; omega
   ·rw [if_neg (by simpa using hk), decide_eq_false (by omega)]; rfl
 have e0 := e0.trans (bds g1)
 have g2 : ∀ x y : Bool, (if ((if x = true then (0 : Int) else 80) != 0) = true then some true else some (!y)) = some (!(x && y)) := fun x y => by cases x <;> cases y <;> rfl
 have e0 := e0.trans (bds (g2 _ _))
 have g3 : ∀ x : Bool, ((if (!x) = true then some true else some (decide (num < 1))).bind fun b3 => (if b3 = true then some true else some (decide (num > 1024)))) = some (!(x && decide (1 ≤ num ∧ num ≤ 1024))) := fun x => by
  cases x with
  | false => rfl
  | true =>
   rw [if_neg (by decide), bd, Bool.true_and]
   by_cases hn : num < 1
   ·rw [if_pos (decide_eq_true hn), decide_eq_false (by omega)]; rfl
   ·rw [if_neg (by simpa using hn)]
    by_cases hn2 : num > 1024
    ·rw [decide_eq_true hn2, decide_eq_false (by omega)]; rfl
    ·rw [decide_eq_false hn2, decide_eq_true (by omega)]; rfl
 rw [← Option.bind_assoc, g3] at e0
 refine e0.trans ?_
 show (if (!((metaB k m n t at_ && (decide (d.length = 0) || decide (k = 1 ∧ d.length ≤ 32768))) && decide (1 ≤ num ∧ num ≤ 1024))) = true then some false else _) = some (metaB k m n t at_ && ((decide (d.length = 0) || decide (k = 1 ∧ d.length ≤ 32768)) && (decide (1 ≤ num ∧ num ≤ 1024) && (if k != 2 then decide (ns.length = 0 ∧ is.length = 0) else listB ns is && (decide (n = 1) && decide (ns.length ≤ 128))))))
 rw [← Bool.and_assoc, ← Bool.and_assoc]
 cases ((metaB k m n t at_ && (decide (d.length = 0) || decide (k = 1 ∧ d.length ≤ 32768))) && decide (1 ≤ num ∧ num ≤ 1024)) with
 | false => rfl
 | true =>
  rw [if_neg (by decide), Bool.true_and]
  by_cases hk : (k != 2) = true
  ·rw [if_pos hk]
   show some (IntKind.i64.wrap ((ns.length : Int) + (is.length : Int)) == 0) = _
   rw [if_pos hk]
   rw [i64w (by omega)]
   congr 1
   by_cases hz : ns.length = 0 ∧ is.length = 0
   ·rw [decide_eq_true hz, hz.1, hz.2]; rfl
   ·rw [decide_eq_false hz]; simp; intro e; apply hz; constructor <;> simp only [List.length_eq_zero_iff] <;> (first | (apply List.eq_nil_of_length_eq_zero; omega))
  ·rw [if_neg hk]
   obtain ⟨c, hc⟩ := PutListing_eq (a := ns) (b := is) h2 h3
   refine (bds hc).trans ?_
   rw [if_neg hk]
   show ((if ((if listB ns is = true then (0 : Int) else 80) == 0) = true then some (n == 1) else some false).bind fun b5 => ((if b5 = true then some (decide ((ns.length : Int) ≤ 128)) else some false).bind fun b6 => some b6)) = _
   have e1 : (n == 1) = decide (n = 1) := by rw [Bool.eq_iff_iff]; simp
   have e2 : decide ((ns.length : Int) ≤ 128) = decide (ns.length ≤ 128) := by rw [decide_eq_decide]; omega
   rw [e1, e2]
   cases listB ns is <;> cases decide (n = 1) <;> cases decide (ns.length ≤ 128) <;> rfl
end Go.Ai.Rab
end
section
/- Plain, plainly: which file systems may be. -/
set_option linter.unusedVariables false
set_option linter.unusedSimpArgs false
set_option maxRecDepth 10000
open Go.Ai.Enc (enc is)
namespace Go.Ai.Rab
/-! ### Inodes in their row -/
def noI : InodeR := Rec.mk (0, 0, 0, 0, [], str [], [], [], [], ())
def inAt (l : List InodeR) (i : Nat) : InodeR := l.getD i noI
theorem nthIn {l : List InodeR} {i : Nat} (h : i < l.length) : nth l (i : Int) = some (inAt l i) := nthD noI h
theorem inAt_get {l : List InodeR} {i : Nat} (h : i < l.length) : inAt l i = l[i] := by unfold inAt; simp only [List.getD_eq_getElem?_getD, List.getElem?_eq_getElem h, Option.getD_some]
theorem inAt_mem {l : List InodeR} {i : Nat} (h : i < l.length) : inAt l i ∈ l := by rw [inAt_get h]; exact List.getElem_mem h
def posI (l : List InodeR) (n : Int) : Option Nat := (List.range' 0 l.length).find? fun i => (inAt l i).v.1 == n
def fndI (l : List InodeR) (n : Int) : Int := match posI l n with | some k => (k : Int) | none => -1
theorem Find_eq {f : FsR} (hl : f.v.1.length < 9000000000000000000) (n : Int) : plain_Find f n = some (fndI f.v.1 n) := by
 have h := loop_first (body := sl_IndexFunc1_l1 f.v.1 (Clo.mk ((PtrC.mk n : PtrC Int), ()) : Clo 31 ((PtrC Int) × Unit))) f.v.1.length (fun i => (inAt f.v.1 i).v.1 == n) (fun i hi => by
  refine (if_pos (decide_eq_true (show (i : Int) < (f.v.1.length : Int) by omega))).trans ?_
  refine (bds (nthIn hi)).trans ?_
  refine (bds (x := ((inAt f.v.1 i).v.1 == n)) rfl).trans ?_
  rw [lim (by omega)]) (if_neg (by simp)) f.v.1.length 0 (by omega)
 have e0 : sl_IndexFunc1 f.v.1 (Clo.mk ((PtrC.mk n : PtrC Int), ()) : Clo 31 ((PtrC Int) × Unit)) = _ := bds h
 refine (bds (e0.trans ?_)).trans rfl
 unfold fndI posI
 cases (List.range' 0 f.v.1.length).find? (fun i => (inAt f.v.1 i).v.1 == n) <;> rfl
theorem posI_some {l : List InodeR} {n : Int} {k : Nat} (h : posI l n = some k) : k < l.length ∧ (inAt l k).v.1 = n := by
 unfold posI at h
 have h1 := List.find?_some h
 have h2 := List.mem_of_find?_eq_some h
 simp only [List.mem_range'_1] at h2
 exact ⟨by omega, by simpa using h1⟩
theorem posI_none {l : List InodeR} {n : Int} (h : posI l n = none) : ∀ i, i < l.length → (inAt l i).v.1 ≠ n := by
 intro i hi e
 unfold posI at h
 rw [List.find?_eq_none] at h
 exact h i (by simp [List.mem_range'_1, hi]) (by simpa using e)
theorem fndI_neg {l : List InodeR} {n : Int} : fndI l n < 0 ↔ posI l n = none := by
 unfold fndI
 cases posI l n with
 | none => simp
 | some k => simp
/-! ### Maps -/
theorem mget_mput {V : Type} : ∀ (m : List (Int × V)) (i k : Int) (x : V), mget (mput m i x) k = if k = i then some x else mget m k
 | [], i, k, x => by
  unfold mput mget mget
  by_cases h : k = i
  ·rw [if_pos h.symm, if_pos h]
  ·rw [if_neg (fun e => h e.symm), if_neg h]
 | (j, v) :: m, i, k, x => by
  unfold mput
  by_cases h : j = i
  ·rw [if_pos h]
   unfold mget
   by_cases h2 : k = i
   ·rw [if_pos h2.symm, if_pos h2]
   ·rw [if_neg (fun e => h2 e.symm), if_neg h2, if_neg (fun e => h2 (by rw [← e, h]))]
  ·rw [if_neg h]
   unfold mget
   by_cases h2 : j = k
   ·rw [if_pos h2, if_neg (fun e => h (by rw [h2, e])), if_pos h2]
   ·rw [if_neg h2, mget_mput m i k x, if_neg h2]
theorem mem_mput {V : Type} : ∀ (m : List (Int × V)) (i n : Int) (x : V), (∃ v, (n, v) ∈ mput m i x) ↔ n = i ∨ ∃ v, (n, v) ∈ m
 | [], i, n, x => by simp [mput]
 | (j, v) :: m, i, n, x => by
  unfold mput
  by_cases h : j = i
  ·rw [if_pos h]
   subst h
   constructor
   ·rintro ⟨w, hw⟩
    rcases List.mem_cons.1 hw with hw | hw
    ·injection hw with e1 e2; exact .inl e1
    ·exact .inr ⟨w, List.mem_cons_of_mem _ hw⟩
   ·rintro (rfl | ⟨w, hw⟩)
    ·exact ⟨x, List.mem_cons_self⟩
    ·rcases List.mem_cons.1 hw with hw | hw
     ·injection hw with e1 e2; subst e1; exact ⟨x, List.mem_cons_self⟩
     ·exact ⟨w, List.mem_cons_of_mem _ hw⟩
  ·rw [if_neg h]
   have ih := mem_mput m i n x
   constructor
   ·rintro ⟨w, hw⟩
    rcases List.mem_cons.1 hw with hw | hw
    ·exact .inr ⟨w, by rw [hw]; exact List.mem_cons_self⟩
    ·rcases ih.1 ⟨w, hw⟩ with h1 | ⟨u, hu⟩
     ·exact .inl h1
     ·exact .inr ⟨u, List.mem_cons_of_mem _ hu⟩
   ·rintro (h1 | ⟨w, hw⟩)
    ·obtain ⟨u, hu⟩ := ih.2 (.inl h1); exact ⟨u, List.mem_cons_of_mem _ hu⟩
    ·rcases List.mem_cons.1 hw with hw | hw
     ·exact ⟨w, by rw [hw]; exact List.mem_cons_self⟩
     ·obtain ⟨u, hu⟩ := ih.2 (.inr ⟨w, hw⟩); exact ⟨u, List.mem_cons_of_mem _ hu⟩
/-! ### Where numbers stand -/
def upsX (x : InodeR) (l : List Int) (k : Int) : List Int := (l.filter (· == k)).map fun _ => x.v.1
def upsL (l : List InodeR) (k : Int) : List Int := l.flatMap fun x => upsX x x.v.2.2.2.2.2.2.2.1 k
def numsL (l : List InodeR) : List Int := l.flatMap fun x => x.v.2.2.2.2.2.2.2.1
theorem upsX_len (x : InodeR) (l : List Int) (k : Int) : (upsX x l k).length ≤ l.length := by unfold upsX; rw [List.length_map]; exact List.length_filter_le _ _
theorem upsL_len (k : Int) : ∀ (l : List InodeR), (∀ x ∈ l, x.v.2.2.2.2.2.2.2.1.length ≤ 200) → (upsL l k).length ≤ 200 * l.length
 | [], _ => by simp [upsL]
 | x :: l, h => by
  have h1 := upsL_len k l (fun y hy => h y (List.mem_cons_of_mem _ hy))
  have h2 := upsX_len x x.v.2.2.2.2.2.2.2.1 k
  have h3 := h x List.mem_cons_self
  unfold upsL at h1 ⊢
  rw [List.flatMap_cons, List.length_append, List.length_cons]
  omega
theorem ups_in {x : InodeR} (hx : x.v.2.2.2.2.2.2.2.1.length ≤ 200) (m0 : List (Int × List Int)) (base : Int → List Int) (S : List Int) (hb : ∀ k, (base k).length ≤ 200000) (h0 : ∀ k, (mget m0 k).getD [] = base k) (hk : ∀ n, (∃ v, (n, v) ∈ m0) ↔ n ∈ S) :
  ∃ m, loop (plain_ups_l2 x) (m0, 0) = some m ∧ (∀ k, (mget m k).getD [] = base k ++ upsX x x.v.2.2.2.2.2.2.2.1 k) ∧ ∀ n, (∃ v, (n, v) ∈ m) ↔ n ∈ S ++ x.v.2.2.2.2.2.2.2.1 := by
 generalize hns : x.v.2.2.2.2.2.2.2.1 = ns at *
 refine loop_keep (body := plain_ups_l2 x) ns.length (fun j m => (∀ k, (mget m k).getD [] = base k ++ upsX x (ns.take j) k) ∧ ∀ n, (∃ v, (n, v) ∈ m) ↔ n ∈ S ++ ns.take j) _ (fun i m hi hI => ?_) (fun m hI => ?_) 0 m0 (by omega) ?_
 ·obtain ⟨I1, I2⟩ := hI
  have hn : nth ns (i : Int) = some ns[i] := nth_get hi
  have hlen : ((mget m ns[i]).getD []).length ≤ 200200 := by
   rw [I1, List.length_append]
   have := hb ns[i]
   have h2 := upsX_len x (ns.take i) ns[i]
   rw [List.length_take] at h2
   omega
  refine ⟨mput m ns[i] ((mget m ns[i]).getD [] ++ [x.v.1]), ?_, ?_, ?_⟩
  ·show (if decide ((i : Int) < (x.v.2.2.2.2.2.2.2.1.length : Int)) = true then ((nth x.v.2.2.2.2.2.2.2.1 (i : Int)).bind fun v3 => ((app 8 ((mget m v3).getD []) [x.v.1]).bind fun l => some (Sum.inl ((mput m v3 l), (IntKind.i64.wrap ((i : Int) + 1)))))) else some (Sum.inr m)) = _
   rw [hns, if_pos (decide_eq_true (by omega))]
   refine (bds hn).trans ((bds (app_ok _ [x.v.1] (by simp only [List.length_singleton]; omega) (by simp only [List.length_singleton]; omega))).trans ?_)
   rw [lim (by omega)]
  ·intro k
   rw [mget_mput]
   have ht : ns.take (i + 1) = ns.take i ++ [ns[i]] := by rw [List.take_add_one, List.getElem?_eq_getElem hi]; rfl
   rw [ht]
   unfold upsX
   rw [List.filter_append, List.map_append]
   by_cases e : k = ns[i]
   ·rw [if_pos e, Option.getD_some, I1, ← e]
    have : ([k] : List Int).filter (· == k) = [k] := by simp
    rw [this, ← List.append_assoc]; rfl
   ·rw [if_neg e, I1]
    have : ([ns[i]] : List Int).filter (· == k) = [] := by simp; exact fun e' => e e'.symm
    rw [this, List.map_nil, List.append_nil]; rfl
  ·intro n
   rw [mem_mput, I2]
   have ht : ns.take (i + 1) = ns.take i ++ [ns[i]] := by rw [List.take_add_one, List.getElem?_eq_getElem hi]; rfl
   rw [ht, ← List.append_assoc]
   simp only [List.mem_append, List.mem_singleton]
   constructor
   ·rintro (h | h)
    ·exact .inr h
    ·exact .inl h
   ·rintro (h | h)
    ·exact .inr h
    ·exact .inl h
 ·refine ⟨m, ?_, ?_⟩
  ·show (if decide ((ns.length : Int) < (x.v.2.2.2.2.2.2.2.1.length : Int)) = true then _ else some (Sum.inr m)) = _
   rw [hns, if_neg (by simp)]
  ·rw [List.take_length] at hI; exact hI
 ·refine ⟨fun k => ?_, fun n => ?_⟩
  ·rw [h0]; simp [upsX]
  ·rw [hk]; simp
theorem ups_some {f : FsR} (hl : f.v.1.length ≤ 512) (hx : ∀ x ∈ f.v.1, x.v.2.2.2.2.2.2.2.1.length ≤ 200) : ∃ m, plain_ups f = some m ∧ (∀ k, (mget m k).getD [] = upsL f.v.1 k) ∧ ∀ n, (∃ v, (n, v) ∈ m) ↔ n ∈ numsL f.v.1 := by
 generalize hf : f.v.1 = l at *
 obtain ⟨m, h1, h2, h3⟩ := loop_keep (body := plain_ups_l1 f) l.length (fun i m => (∀ k, (mget m k).getD [] = upsL (l.take i) k) ∧ ∀ n, (∃ v, (n, v) ∈ m) ↔ n ∈ numsL (l.take i)) (fun m => (∀ k, (mget m k).getD [] = upsL l k) ∧ ∀ n, (∃ v, (n, v) ∈ m) ↔ n ∈ numsL l) (fun i m hi hI => by
   obtain ⟨I1, I2⟩ := hI
   have hb : ∀ k, (upsL (l.take i) k).length ≤ 200000 := fun k => by
    have h1 := upsL_len k (l.take i) (fun x hx' => hx x (List.mem_of_mem_take hx'))
    rw [List.length_take] at h1
    omega
   obtain ⟨m', g1, g2, g3⟩ := ups_in (hx l[i] (List.getElem_mem hi)) m _ _ hb I1 I2
   have ht : l.take (i + 1) = l.take i ++ [l[i]] := by rw [List.take_add_one, List.getElem?_eq_getElem hi]; rfl
   refine ⟨m', ?_, ?_, ?_⟩
   ·show (if decide ((i : Int) < (f.v.1.length : Int)) = true then ((nth f.v.1 (i : Int)).bind fun v1 => ((loop (plain_ups_l2 v1) (m, 0)).bind (plain_ups_a2 (i : Int)))) else some (Sum.inr m)) = _
    rw [hf, if_pos (decide_eq_true (by omega))]
    refine (bds (nth_get hi)).trans ((bds g1).trans ?_)
    show some (Sum.inl (m', IntKind.i64.wrap ((i : Int) + 1))) = _
    rw [lim (by omega)]
   ·intro k
    rw [g2, ht]
    unfold upsL
    rw [List.flatMap_append, List.flatMap_cons, List.flatMap_nil, List.append_nil]
   ·intro n
    rw [g3, ht]
    unfold numsL
    rw [List.flatMap_append, List.flatMap_cons, List.flatMap_nil, List.append_nil]) (fun m hI => by
   refine ⟨m, ?_, ?_⟩
   ·show (if decide ((l.length : Int) < (f.v.1.length : Int)) = true then _ else some (Sum.inr m)) = _
    rw [hf, if_neg (by simp)]
   ·rw [List.take_length] at hI; exact hI) 0 [] (by omega) ⟨fun k => by simp [upsL, mget], fun n => by simp [numsL]⟩
 exact ⟨m, bds h1, h2, h3⟩
def endsF (l : List InodeR) : Nat → Int → Bool
 | 0, _ => false
 | d + 1, n => match upsL l n with
  | [] => true
  | p :: _ => endsF l d p
theorem ends_loop {m : List (Int × List Int)} {l : List InodeR} (hm : ∀ k, (mget m k).getD [] = upsL l k) (most : Nat) (hmost : most ≤ 10000) : ∀ (d v : Nat) (n : Int), v + d = most + 1 → loop (plain_ends_l1 (most : Int) m) (n, (v : Int)) = some (if endsF l d n = true then .inr true else .inl ())
 | 0, v, n, hv => by
  refine loop_done ?_
  show (if decide ((v : Int) < IntKind.i64.wrap ((most : Int) + 1)) = true then _ else _) = _
  rw [lim (by omega), if_neg (by simp; omega)]; rfl
 | d + 1, v, n, hv => by
  have e0 : plain_ends_l1 (most : Int) m (n, (v : Int)) = if ((((mget m n).getD []).length : Int) == 0) = true then some (.inr (.inr true)) else ((nth ((mget m n).getD []) 0).bind fun v2 => some (.inl (v2, (IntKind.i64.wrap ((v : Int) + 1))))) := by
   show (if decide ((v : Int) < IntKind.i64.wrap ((most : Int) + 1)) = true then _ else _) = _
   rw [lim (by omega), if_pos (decide_eq_true (by omega))]
  rw [hm] at e0
  unfold endsF
  cases hu : upsL l n with
  | nil =>
   rw [hu] at e0
   exact loop_done e0
  | cons p q =>
   rw [hu] at e0
   have e0 := e0.trans ((if_neg (show ¬ ((((p :: q).length : Nat) : Int) == 0) = true by simp; omega)).trans (bds (x := p) rfl))
   rw [lim (by omega)] at e0
   rw [loop_next e0]
   exact ends_loop hm most hmost d (v + 1) p (by omega)
theorem ends_eq {m : List (Int × List Int)} {l : List InodeR} (hm : ∀ k, (mget m k).getD [] = upsL l k) (most : Nat) (hmost : most ≤ 10000) (n : Int) : plain_ends m n (most : Int) = some (endsF l (most + 1) n) := by
 refine (bds (ends_loop hm most hmost (most + 1) 0 n (by omega))).trans ?_
 cases endsF l (most + 1) n <;> rfl
/-! ### Check -/
def hdB (l : List InodeR) (nx : Int) : Bool := decide (l.length ≠ 0 ∧ l.length ≤ 512) && (decide ((inAt l 0).v.1 = 1) && (decide ((inAt l 0).v.2.1 = 2) && decide (2 ≤ nx ∧ nx ≤ 513)))
def sorP (l : List InodeR) (i : Nat) : Bool := aloneB (inAt l i) && !(decide (0 < i) && decide ((inAt l (i - 1)).v.1 ≥ (inAt l i).v.1))
def knB (l : List InodeR) (k : Int) : Bool := (List.range' 0 l.length).any fun i => (inAt l i).v.1 == k
def cndX (l : List InodeR) (x : InodeR) : Bool := if x.v.2.1 != 2 then decide (((upsL l x.v.1).length : Int) = x.v.2.2.2.1) else decide ((upsL l x.v.1).length ≤ 1) && (!(decide (0 < (upsL l x.v.1).length) && decide (x.v.1 = 1)) && endsF l (l.length + 1) x.v.1)
def chkL (l : List InodeR) (nx : Int) : Bool := hdB l nx && ((List.range' 0 l.length).all (sorP l) && ((numsL l).all (knB l) && (List.range' 0 l.length).all fun i => cndX l (inAt l i)))
theorem knB_iff {l : List InodeR} {k : Int} : knB l k = true ↔ ∃ i, i < l.length ∧ (inAt l i).v.1 = k := by
 unfold knB
 rw [List.any_eq_true]
 constructor
 ·rintro ⟨i, hi, h⟩
  simp only [List.mem_range'_1] at hi
  exact ⟨i, by omega, by simpa using h⟩
 ·rintro ⟨i, hi, h⟩
  exact ⟨i, by simp [List.mem_range'_1, hi], by simpa using h⟩
theorem loop_acc {σ ρ : Type} {body : σ × Int → Option ((σ × Int) ⊕ (σ ⊕ ρ))} (n : Nat) (p : Nat → Bool) (J : Nat → σ → Prop) (r0 : ρ) (h : ∀ i s, i < n → J i s → (p i = true → ∃ s', body (s, (i : Int)) = some (.inl (s', ((i + 1 : Nat) : Int))) ∧ J (i + 1) s') ∧ (p i = false → body (s, (i : Int)) = some (.inr (.inr r0))))
  (he : ∀ s, body (s, (n : Int)) = some (.inr (.inl s))) : ∀ d i s, i + d = n → J i s → ∃ s', ((List.range' i d).all p = true → J n s') ∧ loop body (s, (i : Int)) = some (if (List.range' i d).all p = true then .inl s' else .inr r0)
 | 0, i, s, hi, hJ => by
  have : i = n := by omega
  subst this
  exact ⟨s, fun _ => hJ, loop_done (he s)⟩
 | d + 1, i, s, hi, hJ => by
  obtain ⟨h1, h2⟩ := h i s (by omega) hJ
  rw [List.range'_succ, List.all_cons]
  cases hp : p i with
  | false => exact ⟨s, fun e => by simp at e, loop_done (h2 hp)⟩
  | true =>
   obtain ⟨s1, g1, g2⟩ := h1 hp
   obtain ⟨s', g3, g4⟩ := loop_acc n p J r0 h he d (i + 1) s1 (by omega) g2
   exact ⟨s', by rw [Bool.true_and]; exact g3, by rw [loop_next g1, Bool.true_and]; exact g4⟩
def smallL (l : List InodeR) : Prop := l.length ≤ 2000000 ∧ ∀ x ∈ l, smallI x
theorem alone_nums {x : InodeR} (h : aloneB x = true) : x.v.2.2.2.2.2.2.2.1.length ≤ 200 ∧ x.v.2.2.2.2.2.2.1.length = x.v.2.2.2.2.2.2.2.1.length := by
 unfold aloneB at h
 simp only [Bool.and_eq_true] at h
 obtain ⟨_, _, _, h⟩ := h
 split at h
 ·have := of_decide_eq_true h
  omega
 ·simp only [Bool.and_eq_true, decide_eq_true_eq] at h
  unfold listB at h
  simp only [Bool.and_eq_true, decide_eq_true_eq] at h
  omega
theorem sor_in {l : List InodeR} {i : Nat} (h : i < l.length) (hl : l.length ≤ 512) :
  (if decide ((i : Int) > 0) = true then ((nth l (IntKind.i64.wrap ((i : Int) - 1))).bind fun v5 => some (decide (v5.v.1 ≥ (inAt l i).v.1))) else some false) = some (decide (0 < i) && decide ((inAt l (i - 1)).v.1 ≥ (inAt l i).v.1)) := by
 by_cases h0 : 0 < i
 ·have hw : IntKind.i64.wrap ((i : Int) - 1) = ((i - 1 : Nat) : Int) := by rw [i64w (by omega)]; omega
  rw [if_pos (decide_eq_true (by omega)), hw, decide_eq_true h0, Bool.true_and]
  exact bds (nthIn (by omega))
 ·rw [if_neg (by simp; omega), decide_eq_false h0, Bool.false_and]
theorem cnd_loop {f : FsR} {m : List (Int × List Int)} (hl : f.v.1.length ≤ 512) (hm : ∀ k, (mget m k).getD [] = upsL f.v.1 k) :
  loop (plain_Check_l3 f m) 0 = some (if (List.range' 0 f.v.1.length).all (fun i => cndX f.v.1 (inAt f.v.1 i)) then .inl () else .inr false) := by
 refine loop_all (body := plain_Check_l3 f m) f.v.1.length (fun i => cndX f.v.1 (inAt f.v.1 i)) false (fun i hi => ?_) (if_neg (by simp)) 0 (Nat.zero_le _)
 refine (if_pos (decide_eq_true (show (i : Int) < (f.v.1.length : Int) by omega))).trans ?_
 refine (bds (nthIn hi)).trans ?_
 rw [hm, ends_eq hm f.v.1.length (by omega), lim (by omega)]
 generalize inAt f.v.1 i = x
 unfold cndX
 generalize hu : upsL f.v.1 x.v.1 = u
 have e1 : ((u.length : Int) != x.v.2.2.2.1) = !decide ((u.length : Int) = x.v.2.2.2.1) := by rw [Bool.eq_iff_iff]; simp
 have e2 : decide ((u.length : Int) > 1) = !decide (u.length ≤ 1) := by rw [Bool.eq_iff_iff]; simp; omega
 have e3 : decide ((u.length : Int) > 0) = decide (0 < u.length) := by rw [decide_eq_decide]; omega
 have e4 : (x.v.1 == 1) = decide (x.v.1 = 1) := by rw [Bool.eq_iff_iff]; simp
 rw [e1, e2, e3, e4]
 by_cases hk : x.v.2.1 = 2
 ·have k1 : (x.v.2.1 != 2) = false := by simp [hk]
  have k2 : (x.v.2.1 == 2) = true := by simp [hk]
  rw [k1, k2]
  cases decide (u.length ≤ 1) <;> cases decide (0 < u.length) <;> cases decide (x.v.1 = 1) <;> cases endsF f.v.1 (f.v.1.length + 1) x.v.1 <;> rfl
 ·have k1 : (x.v.2.1 != 2) = true := by simpa using hk
  have k2 : (x.v.2.1 == 2) = false := by simpa using hk
  rw [k1, k2]
  cases decide ((u.length : Int) = x.v.2.2.2.1) <;> rfl
theorem known_range {f : FsR} {m : List (Int × List Int)} {kn : List (Int × Bool)} (hk : ∀ k, (mget kn k).getD false = true ↔ ∃ i, i < f.v.1.length ∧ (inAt f.v.1 i).v.1 = k) (hm : ∀ n, (∃ v, (n, v) ∈ m) ↔ n ∈ numsL f.v.1) :
  mrange m (plain_Check_l2 kn) = some (if (numsL f.v.1).all (knB f.v.1) = true then .inl () else .inr false) := by
 have e0 : ∀ k, plain_Check_l2 kn k = if knB f.v.1 k = true then some (.inl ()) else some (.inr false) := fun k => by
  show (if (!((mget kn k).getD false)) = true then _ else _) = _
  have : (mget kn k).getD false = knB f.v.1 k := by rw [Bool.eq_iff_iff, hk, knB_iff]
  rw [this]
  cases knB f.v.1 k <;> rfl
 refine mrange_of ?_
 cases hb : (numsL f.v.1).all (knB f.v.1) with
 | true =>
  refine .inl ⟨rfl, fun kv hkv => ?_⟩
  rw [e0, if_pos (List.all_eq_true.1 hb kv.1 ((hm kv.1).1 ⟨kv.2, hkv⟩))]
 | false =>
  refine .inr ⟨false, rfl, ?_, fun kv hkv => ?_⟩
  ·rw [List.all_eq_false] at hb
   obtain ⟨k, hk1, hk2⟩ := hb
   obtain ⟨v, hv⟩ := (hm k).2 hk1
   exact ⟨(k, v), hv, by rw [e0, if_neg hk2]⟩
  ·rw [e0]; split
   ·exact .inl rfl
   ·exact .inr rfl
theorem Check_eqL {f : FsR} (hs : smallL f.v.1) : plain_Check f = some (chkL f.v.1 f.v.2.1) := by
 obtain ⟨hs1, hs2⟩ := hs
 have g0 : (if ((f.v.1.length : Int) == 0) = true then some true else some (decide ((f.v.1.length : Int) > 512))) = some (!decide (f.v.1.length ≠ 0 ∧ f.v.1.length ≤ 512)) := by
  by_cases h : f.v.1.length = 0
  ·rw [if_pos (by simp [h]), decide_eq_false (by omega)]; rfl
  ·rw [if_neg (by simp; intro e; exact h (by rw [e]; rfl))]
   by_cases h2 : f.v.1.length ≤ 512
   ·rw [decide_eq_false (by omega), decide_eq_true ⟨h, h2⟩]; rfl
   ·rw [decide_eq_true (by omega), decide_eq_false (by omega)]; rfl
 have e0 : plain_Check f = _ := bds g0
 by_cases hsz : f.v.1.length ≠ 0 ∧ f.v.1.length ≤ 512
 ·rw [decide_eq_true hsz] at e0
  have hn0 : nth f.v.1 0 = some (inAt f.v.1 0) := nthIn (i := 0) (by omega)
  have e0 := e0.trans (bds (x := !decide ((inAt f.v.1 0).v.1 = 1)) (by
   rw [if_neg (by decide), hn0]
   show some ((inAt f.v.1 0).v.1 != 1) = _
   congr 1))
  have e0 := e0.trans (bds (x := !(decide ((inAt f.v.1 0).v.1 = 1) && decide ((inAt f.v.1 0).v.2.1 = 2))) (by
   rw [hn0]
   show (if (!decide ((inAt f.v.1 0).v.1 = 1)) = true then some true else some ((inAt f.v.1 0).v.2.1 != 2)) = _
   have : ((inAt f.v.1 0).v.2.1 != 2) = !decide ((inAt f.v.1 0).v.2.1 = 2) := by rw [Bool.eq_iff_iff]; simp
   rw [this]
   cases decide ((inAt f.v.1 0).v.1 = 1) <;> rfl))
  generalize hd0 : decide ((inAt f.v.1 0).v.1 = 1) = d1 at e0
  generalize hd1 : decide ((inAt f.v.1 0).v.2.1 = 2) = d2 at e0
  have g3 : ∀ x : Bool, ((if (!x) = true then some true else some (decide (f.v.2.1 < 2))).bind fun b3 => (if b3 = true then some true else some (decide (f.v.2.1 > 513)))) = some (!(x && decide (2 ≤ f.v.2.1 ∧ f.v.2.1 ≤ 513))) := fun x => by
   cases x with
   | false => rfl
   | true =>
    rw [if_neg (by decide), bd, Bool.true_and]
    by_cases hn : f.v.2.1 < 2
    ·rw [if_pos (decide_eq_true hn), decide_eq_false (by omega)]; rfl
    ·rw [if_neg (by simpa using hn)]
     by_cases hn2 : f.v.2.1 > 513
     ·rw [decide_eq_true hn2, decide_eq_false (by omega)]; rfl
     ·rw [decide_eq_false hn2, decide_eq_true (by omega)]; rfl
  rw [← Option.bind_assoc, g3] at e0
  refine e0.trans ?_
  have hhd : hdB f.v.1 f.v.2.1 = ((d1 && d2) && decide (2 ≤ f.v.2.1 ∧ f.v.2.1 ≤ 513)) := by
   unfold hdB
   rw [decide_eq_true hsz, Bool.true_and, hd0, hd1, Bool.and_assoc]
  unfold chkL
  rw [bd, hhd]
  cases ((d1 && d2) && decide (2 ≤ f.v.2.1 ∧ f.v.2.1 ≤ 513)) with
  | false => rfl
  | true =>
   rw [if_neg (by decide), Bool.true_and]
   obtain ⟨kn, k1, k2⟩ := loop_acc (body := plain_Check_l1 f) f.v.1.length (sorP f.v.1) (fun i s => (∀ k, (mget s k).getD false = true ↔ ∃ j, j < i ∧ (inAt f.v.1 j).v.1 = k)) false (fun i s hi hJ => by
    have e0 : plain_Check_l1 f (s, (i : Int)) = _ := if_pos (decide_eq_true (show (i : Int) < (f.v.1.length : Int) by omega))
    have e0 := e0.trans ((bds (nthIn hi)).trans (bds (right_eq (hs2 _ (inAt_mem hi)))))
    have e0 := e0.trans (bds (x := !sorP f.v.1 i) (by
     rw [sor_in hi hsz.2]
     unfold sorP
     generalize (decide (0 < i) && decide ((inAt f.v.1 (i - 1)).v.1 ≥ (inAt f.v.1 i).v.1)) = q
     cases aloneB (inAt f.v.1 i) <;> cases q <;> rfl))
    rw [lim (by omega)] at e0
    refine ⟨fun hp => ?_, fun hp => ?_⟩
    ·rw [hp] at e0
     refine ⟨_, e0.trans (if_neg (by decide)), fun k => ?_⟩
     rw [mget_mput]
     by_cases e : k = (inAt f.v.1 i).v.1
     ·rw [if_pos e]
      exact ⟨fun _ => ⟨i, by omega, e.symm⟩, fun _ => rfl⟩
     ·rw [if_neg e, hJ]
      constructor
      ·rintro ⟨j, h1, h2⟩; exact ⟨j, by omega, h2⟩
      ·rintro ⟨j, h1, h2⟩
       refine ⟨j, ?_, h2⟩
       have : j ≠ i := fun e' => e (by rw [← h2, e'])
       omega
    ·rw [hp] at e0
     exact e0.trans (if_pos rfl)) (fun s => if_neg (by simp)) f.v.1.length 0 [] (by omega) (fun k => ⟨fun h => by simp [mget] at h, fun ⟨j, h, _⟩ => by omega⟩)
   refine (bds k2).trans ?_
   cases hsor : (List.range' 0 f.v.1.length).all (sorP f.v.1) with
   | false => rfl
   | true =>
    rw [if_pos rfl, Bool.true_and]
    have hal : ∀ x ∈ f.v.1, x.v.2.2.2.2.2.2.2.1.length ≤ 200 := fun x hx => by
     obtain ⟨i, hi, rfl⟩ := List.getElem_of_mem hx
     have := range_all.1 hsor i hi
     unfold sorP at this
     simp only [Bool.and_eq_true] at this
     have h2 := (alone_nums this.1).1
     rwa [inAt_get hi] at h2
    obtain ⟨m, m1, m2, m3⟩ := ups_some hsz.2 hal
    show ((plain_ups f).bind fun r_1 => ((mrange r_1 (plain_Check_l2 kn)).bind (plain_Check_a2 f r_1))) = _
    refine (bds m1).trans ((bds (known_range (k1 hsor) m3)).trans ?_)
    cases hkn : (numsL f.v.1).all (knB f.v.1) with
    | false => rfl
    | true =>
     rw [if_pos rfl, Bool.true_and]
     show ((loop (plain_Check_l3 f m) 0).bind plain_Check_a3) = _
     refine (bds (cnd_loop hsz.2 m2)).trans ?_
     cases (List.range' 0 f.v.1.length).all (fun i => cndX f.v.1 (inAt f.v.1 i)) <;> rfl
 ·have : chkL f.v.1 f.v.2.1 = false := by unfold chkL hdB; rw [decide_eq_false hsz]; rfl
  rw [decide_eq_false hsz] at e0
  rw [this]
  exact e0.trans rfl
end Go.Ai.Rab
end
section
/- Plain, plainly: places in rows that rise. -/
set_option linter.unusedVariables false
set_option linter.unusedSimpArgs false
set_option maxRecDepth 10000
open Go.Ai.Enc (enc is)
namespace Go.Ai.Rab
/-! ### The order of texts -/
theorem eqS_iffS (a b : Str) : eqS a b = true ↔ a = b := eqS_iff a b
theorem lt_irr : ∀ a : List UInt8, ltS a a = false
 | [] => rfl
 | a :: l => by
  have := lt_irr l
  unfold ltS at this ⊢
  unfold Op.bytesLess
  rw [this]; simp
theorem lt_trans : ∀ {a b c : List UInt8}, ltS a b = true → ltS b c = true → ltS a c = true
 | [], [], _, h, _ => by simp [ltS, Op.bytesLess] at h
 | _ :: _, [], _, h, _ => by simp [ltS, Op.bytesLess] at h
 | _, _ :: _, [], _, h => by simp [ltS, Op.bytesLess] at h
 | [], _ :: _, _ :: _, _, _ => by simp [ltS, Op.bytesLess]
 | a :: x, b :: y, c :: z, h, k => by
  unfold ltS Op.bytesLess at h k ⊢
  simp only [Bool.or_eq_true, Bool.and_eq_true, decide_eq_true_eq, beq_iff_eq] at h k ⊢
  rcases h with h | ⟨rfl, h⟩
  ·rcases k with k | ⟨rfl, k⟩
   ·exact .inl (UInt8.lt_trans h k)
   ·exact .inl h
  ·rcases k with k | ⟨rfl, k⟩
   ·exact .inl k
   ·exact .inr ⟨rfl, lt_trans (a := x) (b := y) h k⟩
theorem lt_tri : ∀ {a b : List UInt8}, ltS a b = false → ltS b a = false → a = b
 | [], [], _, _ => rfl
 | [], _ :: _, h, _ => by simp [ltS, Op.bytesLess] at h
 | _ :: _, [], _, h => by simp [ltS, Op.bytesLess] at h
 | a :: x, b :: y, h, k => by
  unfold ltS Op.bytesLess at h k
  simp only [Bool.or_eq_false_iff, Bool.and_eq_false_iff, decide_eq_false_iff_not, beq_eq_false_iff_ne] at h k
  have hab : a = b := UInt8.le_antisymm (UInt8.not_lt.1 k.1) (UInt8.not_lt.1 h.1)
  subst hab
  rw [lt_tri (a := x) (b := y) (h.2.resolve_left fun e => e rfl) (k.2.resolve_left fun e => e rfl)]
/-! ### How many stand ahead -/
def pt {α : Type} (less : α → Bool) (l : List α) : Nat := (l.takeWhile less).length
theorem pt_le {α : Type} (less : α → Bool) : ∀ l : List α, pt less l ≤ l.length
 | [] => Nat.le_refl _
 | a :: l => by
  have := pt_le less l
  unfold pt at this ⊢
  rw [List.takeWhile_cons]
  split
  ·simp only [List.length_cons]; omega
  ·simp
theorem pt_cons {α : Type} (less : α → Bool) (a : α) (l : List α) : pt less (a :: l) = if less a = true then pt less l + 1 else 0 := by
 unfold pt; rw [List.takeWhile_cons]; split <;> rfl
theorem pt_lt {α : Type} (less : α → Bool) : ∀ (l : List α) (k : Nat) (h : k < l.length), k < pt less l → less l[k] = true
 | a :: l, k, h, hk => by
  rw [pt_cons] at hk
  split at hk
  ·rename_i ha
   cases k with
   | zero => exact ha
   | succ k => exact pt_lt less l k (by simpa using h) (by omega)
  ·omega
theorem pt_ge {α : Type} (less : α → Bool) : ∀ (l : List α) (h : pt less l < l.length), less l[pt less l] = false
 | [], h => by simp at h
 | a :: l, h => by
  cases ha : less a with
  | false =>
   have : pt less (a :: l) = 0 := by rw [pt_cons, ha, if_neg Bool.false_ne_true]
   simp only [this, List.getElem_cons_zero]; exact ha
  | true =>
   have e : pt less (a :: l) = pt less l + 1 := by rw [pt_cons, ha, if_pos rfl]
   have h2 : pt less l < l.length := by rw [e] at h; simpa using h
   have := pt_ge less l h2
   simp only [e, List.getElem_cons_succ]; exact this
theorem pt_uniq {α : Type} {less : α → Bool} {l : List α} {p : Nat} (hp : p ≤ l.length) (h1 : ∀ k (h : k < l.length), k < p → less l[k] = true) (h2 : ∀ h : p < l.length, less l[p] = false) : p = pt less l := by
 rcases Nat.lt_trichotomy p (pt less l) with h | h | h
 ·have hl := pt_le less l
  have := pt_lt less l p (by omega) h
  rw [h2 (by omega)] at this; cases this
 ·exact h
 ·have h3 := pt_ge less l (by omega)
  rw [h1 _ (by omega) h] at h3; cases h3
theorem half {i j : Nat} (h : i + j < 9000000000000000000) : IntKind.i64.wrap (((UInt64.ofInt (((((UInt64.ofInt (IntKind.i64.wrap ((i : Int) + (j : Int))))).toNat : Int)).fdiv (2 ^ 1)))).toNat : Int) = (((i + j) / 2 : Nat) : Int) := by
 rw [i64w (show -9223372036854775808 ≤ (i : Int) + j ∧ (i : Int) + j ≤ 9223372036854775807 by omega), ofInt_u64 (z := (i : Int) + j) (by omega) (by omega)]
 have : ((i : Int) + (j : Int)).fdiv (2 ^ 1) = (((i + j) / 2 : Nat) : Int) := by
  rw [Int.fdiv_eq_ediv_of_nonneg _ (by decide)]
  omega
 rw [this, ofInt_u64 (by omega) (by omega), i64w (by omega)]
theorem bin_loop {body : Int × Int → Option ((Int × Int) ⊕ Int)} (n : Nat) (less : Nat → Bool) (hmono : ∀ i j, i ≤ j → j < n → less j = true → less i = true)
  (h : ∀ i j : Nat, i < j → j ≤ n → body ((i : Int), (j : Int)) = if less ((i + j) / 2) = true then some (.inl ((((i + j) / 2 + 1 : Nat) : Int), (j : Int))) else some (.inl ((i : Int), (((i + j) / 2 : Nat) : Int))))
  (he : ∀ i : Nat, i ≤ n → body ((i : Int), (i : Int)) = some (.inr (i : Int))) : ∀ (d i j : Nat), i ≤ j → j ≤ n → j - i ≤ d → (∀ k, k < i → less k = true) → (∀ k, j ≤ k → k < n → less k = false) →
   ∃ p : Nat, loop body ((i : Int), (j : Int)) = some (p : Int) ∧ p ≤ n ∧ (∀ k, k < p → less k = true) ∧ (∀ k, p ≤ k → k < n → less k = false) := by
 intro d
 induction d with
 | zero =>
  intro i j h1 h2 h3 h4 h5
  have : i = j := by omega
  subst this
  exact ⟨i, loop_done (he i h2), h2, h4, h5⟩
 | succ d ih =>
  intro i j h1 h2 h3 h4 h5
  by_cases e : i = j
  ·subst e
   exact ⟨i, loop_done (he i h2), h2, h4, h5⟩
  ·have hb := h i j (by omega) h2
   cases hl : less ((i + j) / 2) with
   | true =>
    rw [hl, if_pos rfl] at hb
    rw [loop_next hb]
    exact ih _ _ (by omega) h2 (by omega) (fun k hk => hmono k ((i + j) / 2) (by omega) (by omega) hl) h5
   | false =>
    rw [hl, if_neg Bool.false_ne_true] at hb
    rw [loop_next hb]
    refine ih _ _ (by omega) (by omega) (by omega) h4 (fun k hk hkn => ?_)
    cases hlk : less k with
    | false => rfl
    | true => rw [hmono ((i + j) / 2) k hk hkn hlk] at hl; cases hl
theorem bin_pt {α : Type} {body : Int × Int → Option ((Int × Int) ⊕ Int)} (l : List α) (less : α → Bool) (hmono : ∀ i j (h : j < l.length) (h' : i ≤ j), less l[j] = true → less l[i] = true)
  (h : ∀ i j : Nat, i < j → (hj : j ≤ l.length) → (hh : (i + j) / 2 < l.length) → body ((i : Int), (j : Int)) = if less l[(i + j) / 2] = true then some (.inl ((((i + j) / 2 + 1 : Nat) : Int), (j : Int))) else some (.inl ((i : Int), (((i + j) / 2 : Nat) : Int))))
  (he : ∀ i : Nat, i ≤ l.length → body ((i : Int), (i : Int)) = some (.inr (i : Int))) : loop body (0, (l.length : Int)) = some ((pt less l : Nat) : Int) := by
 let lk : Nat → Bool := fun k => if h : k < l.length then less l[k] else false
 have hlk : ∀ k (h : k < l.length), lk k = less l[k] := fun k h => dif_pos h
 obtain ⟨p, h1, h2, h3, h4⟩ := bin_loop (body := body) l.length lk (fun i j hij hj hl => by rw [hlk j hj] at hl; rw [hlk i (by omega)]; exact hmono i j hj hij hl)
  (fun i j hij hj => by rw [h i j hij hj (by omega), hlk _ (by omega)]) he l.length 0 l.length (Nat.zero_le _) (Nat.le_refl _) (by omega) (fun k hk => by omega) (fun k hk hk' => by omega)
 have : p = pt less l := pt_uniq h2 (fun k hk hkp => by rw [← hlk k hk]; exact h3 k hkp) (fun hp => by rw [← hlk p hp]; exact h4 p (Nat.le_refl _) hp)
 subst this
 exact h1
/-! ### Names -/
theorem ris_lt {l : List Str} (h : risB l = true) : ∀ i j (hj : j < l.length), (hij : i < j) → ltS l[i] l[j] = true := by
 have step : ∀ i (hi : i + 1 < l.length), ltS l[i] l[i + 1] = true := fun i hi => by
  have := range_all.1 h (i + 1) hi
  unfold risP at this
  simp only [Bool.and_eq_true, Bool.not_eq_true', Bool.and_eq_false_iff, Bool.or_eq_false_iff, decide_eq_false_iff_not, Nat.add_sub_cancel] at this
  have h1 := this.2.resolve_left (by omega)
  rw [nmAt_get hi, nmAt_get (show i < l.length by omega)] at h1
  cases hx : ltS l[i] l[i + 1] with
  | true => rfl
  | false =>
   have e := lt_tri hx h1.1
   have h2 := h1.2
   rw [← Bool.not_eq_true, eqS_iffS] at h2
   exact absurd e.symm h2
 intro i j
 induction j with
 | zero => intro _ h; omega
 | succ j ih =>
  intro hj hij
  by_cases e : i = j
  ·subst e; exact step i hj
  ·exact lt_trans (ih (by omega) (by omega)) (step j hj)
def ptN (l : List Str) (s : Str) : Nat := pt (fun a : Str => ltS a s) l
def hasN (l : List Str) (s : Str) : Bool := decide (ptN l s < l.length) && eqS (nmAt l (ptN l s)) s
theorem less_eq (a b : Str) : lessS a b = some (ltS a b) := by
 unfold lessS isNaNS
 have e : ∀ c : Str, (!eqS c c) = false := fun c => by rw [(eqS_iff c c).2 rfl]; rfl
 show Option.bind (if (!eqS a a) = true then some (!(!eqS b b)) else some false) _ = _
 rw [e, if_neg Bool.false_ne_true]; rfl
theorem bin_eq {l : List Str} (hr : risB l = true) (hl : l.length ≤ 2000000) (s : Str) : binS l s = some (((ptN l s : Nat) : Int), hasN l s) := by
 have h1 : loop (binS_l1 l s) (0, (l.length : Int)) = some ((ptN l s : Nat) : Int) := by
  refine bin_pt l (fun a : Str => ltS a s) (fun i j hj hij h => ?_) (fun i j hij hj hh => ?_) (fun i hi => ?_)
  ·by_cases e : i = j
   ·subst e; exact h
   ·exact lt_trans (ris_lt hr i j hj (by omega)) h
  ·refine (if_pos (decide_eq_true (show (i : Int) < (j : Int) by omega))).trans ?_
   rw [half (by omega), lim (by omega)]
   refine (bds (nth_get hh)).trans ((bds (less_eq _ _)).trans ?_)
   rfl
  ·exact if_neg (by simp)
 refine (bds h1).trans ?_
 have hp := pt_le (fun a : Str => ltS a s) l
 show ((if decide (((ptN l s : Nat) : Int) < (l.length : Int)) = true then ((nth l ((ptN l s : Nat) : Int)).bind fun v1 => ((if (eqS v1 s) = true then some true else ((nth l ((ptN l s : Nat) : Int)).bind fun v2 => ((isNaNS2 v2).bind fun r_1 => ((if r_1 = true then ((isNaNS2 s).bind fun r_2 => some r_2) else some false).bind fun b2 => some b2)))).bind fun b1 => some b1)) else some false).bind fun b => some (((ptN l s : Nat) : Int), b)) = _
 unfold hasN
 by_cases h : ptN l s < l.length
 ·rw [if_pos (decide_eq_true (by omega)), decide_eq_true h, Bool.true_and]
  rw [nthN h]
  have e : ∀ c : Str, (!eqS c c) = false := fun c => by rw [(eqS_iff c c).2 rfl]; rfl
  have e2 : ((isNaNS2 (nmAt l (ptN l s))).bind fun r_1 => ((if r_1 = true then ((isNaNS2 s).bind fun r_2 => some r_2) else some false).bind fun b2 => some b2)) = some false := by
   unfold isNaNS2
   rw [e]; rfl
  show (Option.bind (if eqS (nmAt l (ptN l s)) s = true then some true else ((isNaNS2 (nmAt l (ptN l s))).bind fun r_1 => ((if r_1 = true then ((isNaNS2 s).bind fun r_2 => some r_2) else some false).bind fun b2 => some b2))) (fun b1 => some b1)).bind _ = _
  rw [e2]
  cases eqS (nmAt l (ptN l s)) s <;> rfl
 ·rw [if_neg (by simp; omega), decide_eq_false h]; rfl
theorem has_mem {l : List Str} (hr : risB l = true) (s : Str) : hasN l s = true ↔ s ∈ l := by
 unfold hasN
 rw [Bool.and_eq_true, decide_eq_true_eq, eqS_iffS]
 constructor
 ·rintro ⟨h1, h2⟩
  rw [nmAt_get h1] at h2
  rw [← h2]; exact List.getElem_mem h1
 ·intro h
  obtain ⟨i, hi, rfl⟩ := List.getElem_of_mem h
  have : i = ptN l l[i] := pt_uniq (by omega) (fun k hk hki => ris_lt hr k i hi hki) (fun _ => lt_irr _)
  rw [← this]
  exact ⟨hi, nmAt_get hi⟩
theorem contains_some {l : List Str} (hr : risB l = true) (hl : l.length ≤ 2000000) (s : Str) : containsS l s = some (hasN l s) := by
 have h := loop_first (body := indexS_l1 l s) l.length (fun i => eqS s (nmAt l i)) (fun i hi => by
  refine (if_pos (decide_eq_true (show (i : Int) < (l.length : Int) by omega))).trans ?_
  refine (bds (nthN hi)).trans ?_
  rw [lim (by omega)]) (if_neg (by simp)) l.length 0 (by omega)
 have e0 : indexS l s = _ := bds h
 cases hf : (List.range' 0 l.length).find? (fun i => eqS s (nmAt l i)) with
 | none =>
  rw [hf] at e0
  refine (bds e0).trans ?_
  have : hasN l s = false := by
   cases hh : hasN l s with
   | false => rfl
   | true =>
    obtain ⟨i, hi, e⟩ := List.getElem_of_mem ((has_mem hr s).1 hh)
    rw [List.find?_eq_none] at hf
    exact absurd ((eqS_iff s (nmAt l i)).2 (by rw [nmAt_get hi, e])) (hf i (by simp [List.mem_range'_1, hi]))
  rw [this]; rfl
 | some k =>
  rw [hf] at e0
  refine (bds e0).trans ?_
  have h1 := List.find?_some hf
  have h2 := List.mem_of_find?_eq_some hf
  simp only [List.mem_range'_1] at h2
  have hk : k < l.length := by omega
  have : hasN l s = true := (has_mem hr s).2 (by rw [(eqS_iff _ _).1 h1, nmAt_get hk]; exact List.getElem_mem hk)
  rw [this]
  show some (decide ((k : Int) ≥ 0)) = _
  rw [decide_eq_true (by omega)]
/-! ### Inodes -/
def sorted (l : List InodeR) : Prop := ∀ i j (hj : j < l.length) (hij : i < j), l[i].v.1 < l[j].v.1
def ptI (l : List InodeR) (n : Int) : Nat := pt (fun x : InodeR => decide (x.v.1 < n)) l
def hasI (l : List InodeR) (n : Int) : Bool := decide (ptI l n < l.length) && decide ((inAt l (ptI l n)).v.1 = n)
theorem cmpI_eq (a b : Int) : cmpI a b = some (if a < b then -1 else if a > b then 1 else 0) := by
 unfold cmpI isNaNI
 have e : ∀ c : Int, (c != c) = false := fun c => by simp
 rw [e, bd]
 show Option.bind (some (b != b)) _ = _
 rw [e, bd]
 show (if decide (a < b) = true then some (-1 : Int) else if decide (a > b) = true then some 1 else some 0) = _
 by_cases h : a < b
 ·rw [if_pos (decide_eq_true h), if_pos h]
 ·rw [if_neg (by simpa using h), if_neg h]
  by_cases h2 : a > b
  ·rw [if_pos (decide_eq_true h2), if_pos h2]
  ·rw [if_neg (by simpa using h2), if_neg h2]
theorem seekOf_eq (x : InodeR) (n : Int) (c : PtrC (Clo 57 (Unit))) : seek_of x n c = some (if x.v.1 < n then -1 else if x.v.1 > n then 1 else 0) := (bds (x := x.v.1) rfl).trans ((bds (cmpI_eq _ _)).trans rfl)
theorem seek_eq {l : List InodeR} (hs : sorted l) (hl : l.length ≤ 2000000) (n : Int) (c : Clo 57 Unit) : plain_seek l n c = some (((ptI l n : Nat) : Int), hasI l n) := by
 generalize hcl : (Clo.mk ((PtrC.mk c : PtrC (Clo 57 (Unit))), ()) : Clo 78 ((PtrC (Clo 57 (Unit))) × Unit)) = cc
 have h1 : loop (sl_BinFunc_l1 l n cc) (0, (l.length : Int)) = some ((ptI l n : Nat) : Int) := by
  refine bin_pt l (fun x : InodeR => decide (x.v.1 < n)) (fun i j hj hij h => ?_) (fun i j hij hj hh => ?_) (fun i hi => ?_)
  ·by_cases e : i = j
   ·subst e; exact h
   ·have := hs i j hj (by omega)
    have h := of_decide_eq_true h
    exact decide_eq_true (by omega)
  ·refine (if_pos (decide_eq_true (show (i : Int) < (j : Int) by omega))).trans ?_
   rw [half (by omega), lim (by omega)]
   refine (bds (nth_get hh)).trans ((bds (seekOf_eq _ _ _)).trans ?_)
   by_cases hx : l[(i + j) / 2].v.1 < n
   ·rw [if_pos hx, decide_eq_true hx]; rfl
   ·rw [if_neg hx, decide_eq_false hx]
    split <;> rfl
  ·exact if_neg (by simp)
 have hb : sl_BinFunc l n cc = some (((ptI l n : Nat) : Int), hasI l n) := by
  refine (bds h1).trans ?_
  have hp := pt_le (fun x : InodeR => decide (x.v.1 < n)) l
  show ((if decide (((ptI l n : Nat) : Int) < (l.length : Int)) = true then ((nth l ((ptI l n : Nat) : Int)).bind fun v1 => ((seek_of v1 n cc.cap.1).bind fun r_1 => some (r_1 == 0))) else some false).bind fun b => some (((ptI l n : Nat) : Int), b)) = _
  unfold hasI
  by_cases h : ptI l n < l.length
  ·rw [if_pos (decide_eq_true (by omega)), decide_eq_true h, Bool.true_and]
   rw [nthIn h]
   show (Option.bind ((seek_of (inAt l (ptI l n)) n cc.cap.1).bind fun r_1 => some (r_1 == 0)) _) = _
   rw [seekOf_eq]
   have hge := pt_ge (fun x : InodeR => decide (x.v.1 < n)) l h
   have hge : ¬ (inAt l (ptI l n)).v.1 < n := by rw [inAt_get h]; exact of_decide_eq_false hge
   rw [if_neg hge]
   by_cases e : (inAt l (ptI l n)).v.1 = n
   ·rw [if_neg (by omega), decide_eq_true e]; rfl
   ·rw [if_pos (by omega), decide_eq_false e]; rfl
  ·rw [if_neg (by simp; omega), decide_eq_false h]; rfl
 unfold plain_seek
 rw [hcl]
 exact bds hb
def withL (l : List InodeR) (x : InodeR) : List InodeR := l.take (ptI l x.v.1) ++ x :: l.drop (if hasI l x.v.1 = true then ptI l x.v.1 + 1 else ptI l x.v.1)
theorem withL_len (l : List InodeR) (x : InodeR) : (withL l x).length = if hasI l x.v.1 = true then l.length else l.length + 1 := by
 have hp := pt_le (fun y : InodeR => decide (y.v.1 < x.v.1)) l
 have hp : ptI l x.v.1 ≤ l.length := hp
 unfold withL
 cases hh : hasI l x.v.1 with
 | true =>
  have : ptI l x.v.1 < l.length := by unfold hasI at hh; simp only [Bool.and_eq_true, decide_eq_true_eq] at hh; exact hh.1
  simp only [if_true, List.length_append, List.length_take, List.length_cons, List.length_drop]; omega
 | false => simp only [Bool.false_eq_true, if_false, List.length_append, List.length_take, List.length_cons, List.length_drop]; omega
theorem withL_sorted {l : List InodeR} (hs : sorted l) (x : InodeR) : sorted (withL l x) := by
 have hp : ptI l x.v.1 ≤ l.length := pt_le _ l
 have hlt : ∀ k (h : k < l.length), k < ptI l x.v.1 → l[k].v.1 < x.v.1 := fun k h hk => of_decide_eq_true (pt_lt (fun y : InodeR => decide (y.v.1 < x.v.1)) l k h hk)
 have hgt : ∀ k (h : k < l.length), (if hasI l x.v.1 = true then ptI l x.v.1 + 1 else ptI l x.v.1) ≤ k → x.v.1 < l[k].v.1 := fun k h hk => by
  split at hk
  ·rename_i hh
   unfold hasI at hh
   simp only [Bool.and_eq_true, decide_eq_true_eq] at hh
   have h2 := hs (ptI l x.v.1) k h (by omega)
   rw [← inAt_get hh.1, hh.2] at h2; exact h2
  ·rename_i hh
   have h0 : ptI l x.v.1 < l.length := by omega
   have hge := of_decide_eq_false (pt_ge (fun y : InodeR => decide (y.v.1 < x.v.1)) l h0)
   have hne : (inAt l (ptI l x.v.1)).v.1 ≠ x.v.1 := fun e => hh (by unfold hasI; rw [decide_eq_true h0, decide_eq_true e]; rfl)
   rw [inAt_get h0] at hne
   have hge : ¬ l[ptI l x.v.1].v.1 < x.v.1 := hge
   by_cases e : k = ptI l x.v.1
   ·subst e; omega
   ·have := hs (ptI l x.v.1) k h (by omega); omega
 generalize hd : (if hasI l x.v.1 = true then ptI l x.v.1 + 1 else ptI l x.v.1) = d at hgt
 have hpd : ptI l x.v.1 ≤ d := by rw [← hd]; split <;> omega
 have eW : withL l x = l.take (ptI l x.v.1) ++ x :: l.drop d := by unfold withL; rw [hd]
 generalize hpp : ptI l x.v.1 = p at *
 have hpw : List.Pairwise (fun a b : InodeR => a.v.1 < b.v.1) l := List.pairwise_iff_getElem.2 fun i j hi hj hij => hs i j hj hij
 have : List.Pairwise (fun a b : InodeR => a.v.1 < b.v.1) (withL l x) := by
  rw [eW, List.pairwise_append]
  refine ⟨hpw.sublist (List.take_sublist _ _), List.pairwise_cons.2 ⟨fun b hb => ?_, hpw.sublist (List.drop_sublist _ _)⟩, fun a ha b hb => ?_⟩
  ·obtain ⟨i, hi, rfl⟩ := List.getElem_of_mem hb
   rw [List.getElem_drop]
   exact hgt _ _ (by omega)
  ·obtain ⟨i, hi, rfl⟩ := List.getElem_of_mem ha
   rw [List.length_take] at hi
   have h1 : (l.take p)[i].v.1 < x.v.1 := by rw [List.getElem_take]; exact hlt i (by omega) (by omega)
   rcases List.mem_cons.1 hb with rfl | hb
   ·exact h1
   ·obtain ⟨j, hj, rfl⟩ := List.getElem_of_mem hb
    have h2 : x.v.1 < (l.drop d)[j].v.1 := by rw [List.getElem_drop]; exact hgt _ _ (by omega)
    omega
 exact fun i j hj hij => List.pairwise_iff_getElem.1 this i j (by omega) hj hij
theorem withL_small {l : List InodeR} {x : InodeR} (h : ∀ y ∈ l, smallI y) (hx : smallI x) : ∀ y ∈ withL l x, smallI y := by
 intro y hy
 unfold withL at hy
 rcases List.mem_append.1 hy with hy | hy
 ·exact h y (List.mem_of_mem_take hy)
 ·rcases List.mem_cons.1 hy with rfl | hy
  ·exact hx
  ·exact h y (List.mem_of_mem_drop hy)
theorem ins_ok {α : Type} {z : Nat} (l : List α) (i : Nat) (v : List α) (hi : i ≤ l.length) (h : l.length + v.length ≤ 137438953472) (h' : (l.length + v.length) * z ≤ 137438953472) : ins z l (i : Int) v = some (l.take i ++ v ++ l.drop i) := by
 unfold ins roomy
 rw [if_pos (by simp [h, h', hi])]; simp
theorem with_step {l : List InodeR} (hs : sorted l) (hl : l.length ≤ 1000) (l0 : List InodeR) (v : Nat) (hv : v < l0.length) (hl0 : l0.length ≤ 100) :
  plain_with_l1 l0 (l, (v : Int)) = some (.inl (withL l l0[v], ((v + 1 : Nat) : Int))) := by
 refine (if_pos (decide_eq_true (show (v : Int) < (l0.length : Int) by omega))).trans ?_
 refine (bds (nth_get hv)).trans ((bds (seek_eq hs (by omega) _ _)).trans ?_)
 generalize l0[v] = x
 have hp : ptI l x.v.1 ≤ l.length := pt_le _ l
 unfold withL
 show (if hasI l x.v.1 = true then ((nth l ((ptI l x.v.1 : Nat) : Int)).bind fun v2 => (plain_with_j2 (v : Int) (l.set ((ptI l x.v.1 : Nat) : Int).toNat x))) else ((sl_Insert1 l ((ptI l x.v.1 : Nat) : Int) [x]).bind fun r_2 => (plain_with_j2 (v : Int) r_2))) = _
 unfold plain_with_j2
 rw [lim (by omega)]
 cases hh : hasI l x.v.1 with
 | true =>
  have h0 : ptI l x.v.1 < l.length := by unfold hasI at hh; simp only [Bool.and_eq_true, decide_eq_true_eq] at hh; exact hh.1
  rw [if_pos rfl, if_pos rfl]
  refine (bds (nth_get h0)).trans ?_
  have : l.set ((ptI l x.v.1 : Nat) : Int).toNat x = l.take (ptI l x.v.1) ++ x :: l.drop (ptI l x.v.1 + 1) := by
   rw [Int.toNat_natCast, List.set_eq_take_append_cons_drop, if_pos h0]
  rw [this]
 | false =>
  rw [if_neg Bool.false_ne_true, if_neg Bool.false_ne_true]
  refine (bds (ins_ok l _ [x] hp (by simp only [List.length_singleton]; omega) (by simp only [List.length_singleton]; omega))).trans ?_
  rw [List.append_assoc]; rfl
theorem clone1_eq (l : List InodeR) (h : l.length ≤ 1000) : sl_Clone1 l = some l := by
 unfold sl_Clone1
 refine (bds (app_ok ([] : List InodeR) l (by simp only [List.length_nil]; omega) (by simp only [List.length_nil]; omega))).trans ?_
 rw [List.nil_append]
theorem with1_eq {f : FsR} (hs : sorted f.v.1) (hl : f.v.1.length ≤ 1000) (x : InodeR) : plain_with f [x] = some (Rec.mk (withL f.v.1 x, f.v.2.1, ())) := by
 refine (bds (clone1_eq _ hl)).trans ?_
 have e1 := with_step hs hl [x] 0 (by simp) (by simp)
 have e2 : plain_with_l1 [x] (withL f.v.1 x, ((0 + 1 : Nat) : Int)) = some (.inr (withL f.v.1 x)) := rfl
 refine (bds ((loop_next e1).trans (loop_done e2))).trans rfl
theorem with2_eq {f : FsR} (hs : sorted f.v.1) (hl : f.v.1.length ≤ 900) (x y : InodeR) : plain_with f [x, y] = some (Rec.mk (withL (withL f.v.1 x) y, f.v.2.1, ())) := by
 refine (bds (clone1_eq _ (by omega))).trans ?_
 have e1 := with_step hs (by omega) [x, y] 0 (by simp) (by simp)
 have e2 := with_step (withL_sorted hs x) (by rw [withL_len]; split <;> omega) [x, y] 1 (by simp) (by simp)
 have e3 : plain_with_l1 [x, y] (withL (withL f.v.1 x) y, ((1 + 1 : Nat) : Int)) = some (.inr (withL (withL f.v.1 x) y)) := rfl
 refine (bds ((loop_next e1).trans ((loop_next e2).trans (loop_done e3)))).trans rfl
end Go.Ai.Rab
end
section
/- Plain, plainly: what the functions of a file system answer. -/
set_option linter.unusedVariables false
set_option linter.unusedSimpArgs false
set_option maxRecDepth 10000
open Go.Ai.Enc (enc is)
namespace Go.Ai.Rab
structure Ok (l : List InodeR) (nx : Int) : Prop where
 len0 : 0 < l.length
 len : l.length ≤ 512
 n0 : (inAt l 0).v.1 = 1
 k0 : (inAt l 0).v.2.1 = 2
 nx : 2 ≤ nx ∧ nx ≤ 513
 al : ∀ x ∈ l, aloneB x = true
 so : sorted l
 kn : ∀ k ∈ numsL l, ∃ x ∈ l, x.v.1 = k
 cn : ∀ x ∈ l, cndX l x = true
theorem all_in {l : List InodeR} {p : InodeR → Bool} : ((List.range' 0 l.length).all fun i => p (inAt l i)) = true ↔ ∀ x ∈ l, p x = true := by
 rw [range_all]
 constructor
 ·intro h x hx
  obtain ⟨i, hi, rfl⟩ := List.getElem_of_mem hx
  rw [← inAt_get hi]; exact h i hi
 ·intro h i hi
  exact h _ (inAt_mem hi)
theorem sor_iff {l : List InodeR} : (List.range' 0 l.length).all (sorP l) = true ↔ (∀ x ∈ l, aloneB x = true) ∧ sorted l := by
 rw [range_all]
 constructor
 ·intro h
  have h1 : ∀ i, i < l.length → aloneB (inAt l i) = true := fun i hi => by
   have := h i hi
   unfold sorP at this
   simp only [Bool.and_eq_true] at this
   exact this.1
  have h2 : ∀ i (hi : i + 1 < l.length), l[i].v.1 < l[i + 1].v.1 := fun i hi => by
   have := h (i + 1) hi
   unfold sorP at this
   simp only [Bool.and_eq_true, Bool.not_eq_true', Bool.and_eq_false_iff, decide_eq_false_iff_not, Nat.add_sub_cancel] at this
   have h3 := this.2.resolve_left (by omega)
   rw [inAt_get hi, inAt_get (show i < l.length by omega)] at h3
   omega
  refine ⟨fun x hx => ?_, fun i j => ?_⟩
  ·obtain ⟨i, hi, rfl⟩ := List.getElem_of_mem hx
   rw [← inAt_get hi]; exact h1 i hi
  ·induction j with
   | zero => intro _ h; omega
   | succ j ih =>
    intro hj hij
    have := h2 j hj
    by_cases e : i = j
    ·subst e; exact this
    ·have := ih (by omega) (by omega); omega
 ·rintro ⟨h1, h2⟩ i hi
  unfold sorP
  rw [h1 _ (inAt_mem hi), Bool.true_and]
  by_cases h0 : 0 < i
  ·have := h2 (i - 1) i hi (by omega)
   rw [inAt_get hi, inAt_get (show i - 1 < l.length by omega), decide_eq_false (show ¬ l[i - 1].v.1 ≥ l[i].v.1 by omega)]
   simp
  ·rw [decide_eq_false h0]; rfl
theorem kn_iff {l : List InodeR} {k : Int} : knB l k = true ↔ ∃ x ∈ l, x.v.1 = k := by
 rw [knB_iff]
 constructor
 ·rintro ⟨i, hi, h⟩; exact ⟨_, inAt_mem hi, h⟩
 ·rintro ⟨x, hx, h⟩
  obtain ⟨i, hi, rfl⟩ := List.getElem_of_mem hx
  exact ⟨i, hi, by rw [inAt_get hi]; exact h⟩
theorem chkL_iff {l : List InodeR} {nx : Int} : chkL l nx = true ↔ Ok l nx := by
 unfold chkL hdB
 simp only [Bool.and_eq_true]
 rw [sor_iff, all_in (p := cndX l), List.all_eq_true]
 simp only [decide_eq_true_eq]
 constructor
 ·rintro ⟨⟨h1, h2, h3, h4⟩, ⟨h5, h6⟩, h7, h8⟩
  exact ⟨by omega, h1.2, h2, h3, h4, h5, h6, fun k hk => kn_iff.1 (h7 k hk), h8⟩
 ·intro h
  exact ⟨⟨⟨by have := h.len0; omega, h.len⟩, h.n0, h.k0, h.nx⟩, ⟨h.al, h.so⟩, fun k hk => kn_iff.2 (h.kn k hk), h.cn⟩
theorem alone_dir {x : InodeR} (h : aloneB x = true) (hk : x.v.2.1 = 2) : risB x.v.2.2.2.2.2.2.1 = true ∧ x.v.2.2.2.2.2.2.2.1.length = x.v.2.2.2.2.2.2.1.length ∧ x.v.2.2.2.2.2.2.1.length ≤ 128 ∧ x.v.2.2.2.1 = 1 ∧ x.v.2.2.2.2.2.2.2.1.all numB = true := by
 unfold aloneB at h
 simp only [Bool.and_eq_true] at h
 obtain ⟨_, _, _, h⟩ := h
 rw [if_neg (by simp [hk])] at h
 simp only [Bool.and_eq_true, decide_eq_true_eq] at h
 unfold listB at h
 simp only [Bool.and_eq_true, decide_eq_true_eq] at h
 exact ⟨h.1.2.2.1, h.1.2.1, h.2.2, h.2.1, h.1.2.2.2⟩
theorem alone_small {x : InodeR} (h : aloneB x = true) : x.v.2.2.2.2.1.length ≤ 32768 ∧ x.v.2.2.2.2.2.2.1.length ≤ 128 ∧ x.v.2.2.2.2.2.2.2.1.length ≤ 128 ∧ x.v.2.2.2.2.2.2.2.2.1.length ≤ 8 ∧ 0 ≤ x.v.2.2.2.1 ∧ x.v.2.2.2.1 ≤ 64 ∧ 1 ≤ x.v.1 ∧ x.v.1 ≤ 1024 := by
 have h0 := h
 unfold aloneB metaB at h
 simp only [Bool.and_eq_true, decide_eq_true_eq] at h
 obtain ⟨⟨_, h1, _, _, h2⟩, h3, h4, h5⟩ := h
 have h6 := (attrs_len h2).1
 have h7 : x.v.2.2.2.2.1.length ≤ 32768 := by
  simp only [Bool.or_eq_true, decide_eq_true_eq] at h3
  omega
 refine ⟨h7, ?_, ?_, h6, h1.1, h1.2, h4.1, h4.2⟩
 ·by_cases hk : x.v.2.1 = 2
  ·exact (alone_dir h0 hk).2.2.1
  ·rw [if_pos (by simpa using hk)] at h5
   have := of_decide_eq_true h5
   omega
 ·by_cases hk : x.v.2.1 = 2
  ·have := alone_dir h0 hk; omega
  ·rw [if_pos (by simpa using hk)] at h5
   have := of_decide_eq_true h5
   omega
theorem alone_smallI {x : InodeR} (h : aloneB x = true) : smallI x := by
 have := alone_small h
 exact ⟨by omega, by omega, by omega, by omega⟩
theorem Ok.small {l : List InodeR} {nx : Int} (h : Ok l nx) : smallL l := ⟨by have := h.len; omega, fun x hx => alone_smallI (h.al x hx)⟩
def linkI (y : InodeR) (d : Int) : InodeR := Rec.mk (y.v.1, y.v.2.1, y.v.2.2.1, y.v.2.2.2.1 + d, y.v.2.2.2.2.1, y.v.2.2.2.2.2.1, y.v.2.2.2.2.2.2.1, y.v.2.2.2.2.2.2.2.1, y.v.2.2.2.2.2.2.2.2.1, ())
def namesI (x : InodeR) (ns : List Str) (is : List Int) : InodeR := Rec.mk (x.v.1, x.v.2.1, x.v.2.2.1, x.v.2.2.2.1, x.v.2.2.2.2.1, x.v.2.2.2.2.2.1, ns, is, x.v.2.2.2.2.2.2.2.2.1, ())
def putI (x : InodeR) (s : Str) (n : Int) : InodeR := namesI x (x.v.2.2.2.2.2.2.1.take (ptN x.v.2.2.2.2.2.2.1 s) ++ s :: x.v.2.2.2.2.2.2.1.drop (ptN x.v.2.2.2.2.2.2.1 s)) (x.v.2.2.2.2.2.2.2.1.take (ptN x.v.2.2.2.2.2.2.1 s) ++ n :: x.v.2.2.2.2.2.2.2.1.drop (ptN x.v.2.2.2.2.2.2.1 s))
def cutI (x : InodeR) (p : Nat) : InodeR := namesI x (x.v.2.2.2.2.2.2.1.take p ++ x.v.2.2.2.2.2.2.1.drop (p + 1)) (x.v.2.2.2.2.2.2.2.1.take p ++ x.v.2.2.2.2.2.2.2.1.drop (p + 1))
/-! ### What they answer -/
def dirS (f : FsR) (n : Int) : InodeR × Err 111 :=
 if chkL f.v.1 f.v.2.1 = true then match posI f.v.1 n with
  | none => (noI, Err.mk (some 201))
  | some i => if ((inAt f.v.1 i).v.2.1 != 2) = true then (noI, Err.mk (some 203)) else (inAt f.v.1 i, Err.mk none)
 else (noI, Err.mk (some 2))
def lookS (f : FsR) (n : Int) (s : Str) : Int × Int := match (dirS f n).2.c with
 | some e => (0, e)
 | none => if hasN (dirS f n).1.v.2.2.2.2.2.2.1 s = true then ((dirS f n).1.v.2.2.2.2.2.2.2.1.getD (ptN (dirS f n).1.v.2.2.2.2.2.2.1 s) 0, 0) else (0, 201)
def numF (l : List InodeR) (k : Int) : Int := l.foldl (fun k y => if y.v.1 = k then k + 1 else k) k
def newI (k kind mode : Int) (t : Str) : InodeR := Rec.mk (k, kind, mode, if kind = 2 then 1 else 0, [], t, [], [], [], ())
def makeS (f : FsR) (kind mode : Int) (t : Str) : FsR × Int × Int :=
 if chkL f.v.1 f.v.2.1 = true then if f.v.1.length = 512 then (f, 0, 211) else
  if aloneB (newI (numF f.v.1 f.v.2.1) kind mode t) = true then (Rec.mk (withL f.v.1 (newI (numF f.v.1 f.v.2.1) kind mode t), f.v.2.1, ()), numF f.v.1 f.v.2.1, 0) else (f, 0, 2)
 else (f, 0, 2)
def entL (l : List InodeR) (x y : InodeR) (s : Str) (n : Int) : List InodeR := if (y.v.2.1 != 2) = true then withL (withL l (putI x s n)) (linkI y 1) else withL l (putI x s n)
def entS (f : FsR) (d : Int) (s : Str) (n : Int) : FsR × Int := match (dirS f d).2.c with
 | some e => (f, e)
 | none => if chkS s ≠ 0 then (f, chkS s) else if hasN (dirS f d).1.v.2.2.2.2.2.2.1 s = true then (f, 202) else match posI f.v.1 n with
  | none => (f, 201)
  | some i => if (inAt f.v.1 i).v.2.1 ≠ 2 ∧ (inAt f.v.1 i).v.2.2.2.1 = 64 then (f, 210) else if (dirS f d).1.v.2.2.2.2.2.2.1.length = 128 then (f, 211) else
   if chkL (entL f.v.1 (dirS f d).1 (inAt f.v.1 i) s n) f.v.2.1 = true then (Rec.mk (entL f.v.1 (dirS f d).1 (inAt f.v.1 i) s n, f.v.2.1, ()), 0) else (f, 2)
def leaL (l : List InodeR) (x y : InodeR) (s : Str) : List InodeR := if (y.v.2.1 != 2) = true then withL (withL l (cutI x (ptN x.v.2.2.2.2.2.2.1 s))) (linkI y (-1)) else withL l (cutI x (ptN x.v.2.2.2.2.2.2.1 s))
def leaS (f : FsR) (d : Int) (s : Str) : FsR × Int × Int := if (lookS f d s).2 ≠ 0 then (f, 0, (lookS f d s).2) else
 (Rec.mk (leaL f.v.1 (inAt f.v.1 ((posI f.v.1 d).getD 0)) (inAt f.v.1 ((posI f.v.1 (lookS f d s).1).getD 0)) s, f.v.2.1, ()), (lookS f d s).1, 0)
def droS (f : FsR) (n : Int) : FsR × Int :=
 if chkL f.v.1 f.v.2.1 = true then match posI f.v.1 n with
  | none => (f, 201)
  | some i => if n = 1 ∨ 0 < (inAt f.v.1 i).v.2.2.2.2.2.2.1.length ∨ 0 < (upsL f.v.1 n).length then (f, 215) else (Rec.mk (f.v.1.take i ++ f.v.1.drop (i + 1), f.v.2.1, ()), 0)
 else (f, 2)
theorem dir_eq {f : FsR} (hs : smallL f.v.1) (n : Int) : plain_directory f n = some (dirS f n) := by
 refine (bds (Find_eq (by have := hs.1; omega) n)).trans ((bds (Check_eqL hs)).trans ?_)
 unfold dirS
 cases chkL f.v.1 f.v.2.1 with
 | false => rfl
 | true =>
  rw [if_neg (by decide), if_pos rfl]
  unfold fndI
  cases hp : posI f.v.1 n with
  | none => rfl
  | some i =>
   obtain ⟨h1, h2⟩ := posI_some hp
   show (if decide ((i : Int) < 0) = true then _ else _) = _
   rw [if_neg (by simp)]
   refine (bds (nthIn h1)).trans ?_
   show _ = some (if ((inAt f.v.1 i).v.2.1 != 2) = true then _ else _)
   by_cases hk : ((inAt f.v.1 i).v.2.1 != 2) = true
   ·rw [if_pos hk, if_pos hk]; rfl
   ·rw [if_neg hk, if_neg hk]
    exact (bds (nthIn h1))
theorem dirS_none {f : FsR} {n : Int} (h : (dirS f n).2.c = none) : Ok f.v.1 f.v.2.1 ∧ ∃ i, posI f.v.1 n = some i ∧ i < f.v.1.length ∧ (inAt f.v.1 i).v.1 = n ∧ (inAt f.v.1 i).v.2.1 = 2 ∧ (dirS f n).1 = inAt f.v.1 i := by
 unfold dirS at h ⊢
 cases hc : chkL f.v.1 f.v.2.1 with
 | false => rw [hc] at h; simp at h
 | true =>
  rw [hc, if_pos rfl] at h
  rw [if_pos rfl]
  refine ⟨chkL_iff.1 hc, ?_⟩
  cases hp : posI f.v.1 n with
  | none => rw [hp] at h; simp at h
  | some i =>
   rw [hp] at h
   obtain ⟨h1, h2⟩ := posI_some hp
   simp only at h ⊢
   by_cases hk : ((inAt f.v.1 i).v.2.1 != 2) = true
   ·rw [if_pos hk] at h; simp at h
   ·rw [if_neg hk]
    exact ⟨i, rfl, h1, h2, by simpa using hk, rfl⟩
theorem Lookup_eq {f : FsR} (hs : smallL f.v.1) (n : Int) (s : Str) : plain_Lookup f n s = some (lookS f n s) := by
 refine (bds (dir_eq hs n)).trans ?_
 unfold lookS
 cases he : (dirS f n).2.c with
 | some e =>
  refine (if_pos rfl).trans ?_
  show ((plain_errno (dirS f n).2).bind fun r_1 => some ((0 : Int), r_1)) = _
  unfold plain_errno
  rw [he]; rfl
 | none =>
  refine (if_neg (by decide)).trans ?_
  obtain ⟨hok, i, p1, p2, p3, p4, p5⟩ := dirS_none he
  rw [p5]
  have hal := hok.al _ (inAt_mem p2)
  obtain ⟨d1, d2, d3, d4, d5⟩ := alone_dir hal p4
  refine (bds (bin_eq d1 (by omega) s)).trans ?_
  show (if (!(hasN (inAt f.v.1 i).v.2.2.2.2.2.2.1 s)) = true then _ else _) = _
  cases hh : hasN (inAt f.v.1 i).v.2.2.2.2.2.2.1 s with
  | false => rfl
  | true =>
   rw [if_neg (by decide)]
   have : ptN (inAt f.v.1 i).v.2.2.2.2.2.2.1 s < (inAt f.v.1 i).v.2.2.2.2.2.2.2.1.length := by
    unfold hasN at hh
    simp only [Bool.and_eq_true, decide_eq_true_eq] at hh
    omega
   exact (bds (nthD 0 this))
theorem Ok.nums {l : List InodeR} {nx : Int} (h : Ok l nx) : ∀ x ∈ l, x.v.2.2.2.2.2.2.2.1.length ≤ 200 := fun x hx => by have := alone_small (h.al x hx); omega
theorem numF_le : ∀ (l : List InodeR) (k : Int), k ≤ numF l k ∧ numF l k ≤ k + l.length
 | [], k => by simp [numF]
 | y :: l, k => by
  have h1 := numF_le l k
  have h2 := numF_le l (k + 1)
  unfold numF at h1 h2 ⊢
  rw [List.foldl_cons]
  simp only [List.length_cons]
  split <;> omega
theorem Make_eq {f : FsR} (hs : smallL f.v.1) (kind mode : Int) (t : Str) : plain_Make f kind mode t = some (makeS f kind mode t) := by
 refine (bds (Check_eqL hs)).trans ?_
 unfold makeS
 cases hc : chkL f.v.1 f.v.2.1 with
 | false => rfl
 | true =>
  rw [if_neg (by decide), if_pos rfl]
  have hok := chkL_iff.1 hc
  by_cases h5 : f.v.1.length = 512
  ·rw [if_pos (by simp [h5]), if_pos h5]
  ·rw [if_neg (by simp; omega), if_neg h5]
   obtain ⟨x1, g1, g2⟩ := loop_keep (body := plain_Make_l1 f) f.v.1.length (fun i x => x = (Rec.mk (numF (f.v.1.take i) f.v.2.1, kind, mode, (0 : Int), ([] : List UInt8), t, ([] : List Str), ([] : List Int), ([] : List AttrR), ()) : InodeR)) (fun x => x = (Rec.mk (numF f.v.1 f.v.2.1, kind, mode, (0 : Int), ([] : List UInt8), t, ([] : List Str), ([] : List Int), ([] : List AttrR), ()) : InodeR)) (fun i x hi hx => by
     subst hx
     have hb := numF_le (f.v.1.take i) f.v.2.1
     have hn := hok.nx
     have hl := hok.len
     rw [List.length_take] at hb
     refine ⟨_, ?_, rfl⟩
     refine (if_pos (decide_eq_true (show (i : Int) < (f.v.1.length : Int) by omega))).trans ?_
     refine (bds (nth_get hi)).trans ?_
     have ht : f.v.1.take (i + 1) = f.v.1.take i ++ [f.v.1[i]] := by rw [List.take_add_one, List.getElem?_eq_getElem hi]; rfl
     have hf : numF (f.v.1.take (i + 1)) f.v.2.1 = if f.v.1[i].v.1 = numF (f.v.1.take i) f.v.2.1 then numF (f.v.1.take i) f.v.2.1 + 1 else numF (f.v.1.take i) f.v.2.1 := by
      rw [ht]; unfold numF; rw [List.foldl_append]; rfl
     rw [hf]
     have hw : IntKind.i64.wrap (numF (f.v.1.take i) f.v.2.1 + 1) = numF (f.v.1.take i) f.v.2.1 + 1 := i64w (by omega)
     unfold plain_Make_j2
     rw [lim (by omega)]
     by_cases e : f.v.1[i].v.1 = numF (f.v.1.take i) f.v.2.1
     ·refine (if_pos (by simpa using e)).trans ?_
      rw [if_pos e]
      show some (Sum.inl ((Rec.mk (IntKind.i64.wrap (numF (f.v.1.take i) f.v.2.1 + 1), _) : InodeR), _)) = _
      rw [hw]
     ·refine (if_neg (by simpa using e)).trans ?_
      rw [if_neg e]) (fun x hx => by
     rw [List.take_length] at hx
     exact ⟨x, if_neg (by simp), hx⟩) 0 (Rec.mk (f.v.2.1, kind, mode, (0 : Int), ([] : List UInt8), t, ([] : List Str), ([] : List Int), ([] : List AttrR), ()) : InodeR) (by omega) (by simp [numF])
   refine (bds g1).trans ?_
   subst g2
   have fin : ∀ x : InodeR, x = newI (numF f.v.1 f.v.2.1) kind mode t → plain_Make_j3 f x = some (if aloneB (newI (numF f.v.1 f.v.2.1) kind mode t) = true then (Rec.mk (withL f.v.1 (newI (numF f.v.1 f.v.2.1) kind mode t), f.v.2.1, ()), numF f.v.1 f.v.2.1, 0) else (f, 0, 2)) := fun x hx => by
    subst hx
    have hsm : smallI (newI (numF f.v.1 f.v.2.1) kind mode t) := ⟨Nat.zero_le _, Nat.zero_le _, Nat.zero_le _, Nat.zero_le _⟩
    refine (bds (right_eq hsm)).trans ?_
    cases ha : aloneB (newI (numF f.v.1 f.v.2.1) kind mode t) with
    | false => rfl
    | true =>
     rw [if_neg (by decide), if_pos rfl]
     exact (bds (with1_eq hok.so (by have := hok.len; omega) _)).trans rfl
   show (if (kind == 2) = true then _ else _) = _
   by_cases hk : kind = 2
   ·rw [if_pos (by simp [hk])]
    exact fin _ (by unfold newI; rw [if_pos hk])
   ·rw [if_neg (by simpa using hk)]
    exact fin _ (by unfold newI; rw [if_neg hk])
theorem clone2_eq (l : List Str) (h : l.length ≤ 2000000) : sl_Clone2 l = some l := by
 unfold sl_Clone2
 refine (bds (app_ok ([] : List Str) l (by simp only [List.length_nil]; omega) (by simp only [List.length_nil]; omega))).trans ?_
 rw [List.nil_append]
theorem clone3_eq (l : List Int) (h : l.length ≤ 2000000) : sl_Clone3 l = some l := by
 unfold sl_Clone3
 refine (bds (app_ok ([] : List Int) l (by simp only [List.length_nil]; omega) (by simp only [List.length_nil]; omega))).trans ?_
 rw [List.nil_append]
theorem put_eq {x : InodeR} (h : aloneB x = true) (hk : x.v.2.1 = 2) (s : Str) (n : Int) : plain_put x s n = some (putI x s n) := by
 obtain ⟨d1, d2, d3, d4, d5⟩ := alone_dir h hk
 have hp : ptN x.v.2.2.2.2.2.2.1 s ≤ x.v.2.2.2.2.2.2.1.length := pt_le _ _
 refine (bds (bin_eq d1 (by omega) s)).trans ?_
 refine (bds (clone2_eq _ (by omega))).trans ?_
 refine (bds (ins_ok _ _ [s] hp (by simp only [List.length_singleton]; omega) (by simp only [List.length_singleton]; omega))).trans ?_
 refine (bds (clone3_eq _ (by omega))).trans ?_
 refine (bds (ins_ok _ _ [n] (by omega) (by simp only [List.length_singleton]; omega) (by simp only [List.length_singleton]; omega))).trans ?_
 unfold putI namesI
 rw [List.append_assoc, List.append_assoc]; rfl
theorem putI_small {x : InodeR} (h : aloneB x = true) (s : Str) (n : Int) : smallI (putI x s n) := by
 have := alone_small h
 refine ⟨?_, ?_, ?_, ?_⟩
 ·show x.v.2.2.2.2.1.length ≤ _; omega
 ·show (x.v.2.2.2.2.2.2.1.take _ ++ s :: x.v.2.2.2.2.2.2.1.drop _).length ≤ _
  simp only [List.length_append, List.length_take, List.length_cons, List.length_drop]; omega
 ·show (x.v.2.2.2.2.2.2.2.1.take _ ++ n :: x.v.2.2.2.2.2.2.2.1.drop _).length ≤ _
  simp only [List.length_append, List.length_take, List.length_cons, List.length_drop]; omega
 ·show x.v.2.2.2.2.2.2.2.2.1.length ≤ _; omega
theorem linkI_small {x : InodeR} (h : smallI x) (d : Int) : smallI (linkI x d) := h
theorem withL_len_le (l : List InodeR) (x : InodeR) : (withL l x).length ≤ l.length + 1 := by rw [withL_len]; split <;> omega
theorem entL_small {l : List InodeR} {nx : Int} (hok : Ok l nx) {x y : InodeR} (hx : x ∈ l) (hy : y ∈ l) (s : Str) (n : Int) : smallL (entL l x y s n) := by
 have h1 : ∀ z ∈ withL l (putI x s n), smallI z := withL_small hok.small.2 (putI_small (hok.al x hx) s n)
 have h2 := withL_len_le l (putI x s n)
 have h3 := hok.len
 unfold entL
 split
 ·exact ⟨by have := withL_len_le (withL l (putI x s n)) (linkI y 1); omega, withL_small h1 (linkI_small (alone_smallI (hok.al y hy)) 1)⟩
 ·exact ⟨by omega, h1⟩
theorem enter_eq {f : FsR} (hs : smallL f.v.1) (d : Int) (s : Str) (n : Int) : plain_Enter f d s n = some (entS f d s n) := by
 have key : ∃ e : Err 111, plain_enter f d s n = some ((entS f d s n).1, e) ∧ e.c.getD 0 = (entS f d s n).2 := by
  have e0 : plain_enter f d s n = _ := bds (dir_eq hs d)
  unfold entS
  cases he : (dirS f d).2.c with
  | some e =>
   have e0 := e0.trans (if_pos (by rw [he]; rfl))
   exact ⟨_, e0, by rw [he]; rfl⟩
  | none =>
   have e0 := e0.trans (if_neg (by rw [he]; decide))
   have e0 := e0.trans (bds (Check_eq s))
   obtain ⟨hok, j, p1, p2, p3, p4, p5⟩ := dirS_none he
   by_cases hc : chkS s = 0
   ·have e0 := e0.trans (if_neg (by simp [hc]))
    have e0 := e0.trans (bds (Find_eq (by have := hs.1; omega) n))
    have hal : aloneB (dirS f d).1 = true := by rw [p5]; exact hok.al _ (inAt_mem p2)
    have hk : (dirS f d).1.v.2.1 = 2 := by rw [p5]; exact p4
    have hmem : (dirS f d).1 ∈ f.v.1 := by rw [p5]; exact inAt_mem p2
    generalize (dirS f d).1 = x at *
    obtain ⟨d1, d2, d3, d4, d5⟩ := alone_dir hal hk
    have e0 := e0.trans (bds (contains_some d1 (by omega) s))
    simp only [ne_eq, hc, not_true_eq_false, if_false]
    cases hh : hasN x.v.2.2.2.2.2.2.1 s with
    | true =>
     rw [hh] at e0
     exact ⟨_, e0.trans (if_pos rfl), rfl⟩
    | false =>
     rw [hh] at e0
     have e0 := e0.trans (if_neg (by decide))
     simp only [Bool.false_eq_true, if_false]
     unfold fndI at e0
     cases hp : posI f.v.1 n with
     | none =>
      rw [hp] at e0
      exact ⟨_, e0.trans (if_pos (by decide)), rfl⟩
     | some i =>
      rw [hp] at e0
      obtain ⟨q1, q2⟩ := posI_some hp
      have e0 := e0.trans ((if_neg (by simp)).trans (bds (nthIn q1)))
      simp only
      have hyal := hok.al _ (inAt_mem q1)
      have hym := inAt_mem q1
      generalize inAt f.v.1 i = y at *
      have e0 := e0.trans (bds (x := decide (y.v.2.1 ≠ 2 ∧ y.v.2.2.2.1 = 64)) (by
       by_cases hk2 : y.v.2.1 = 2
       ·rw [if_neg (by simp [hk2]), decide_eq_false (by simp [hk2])]
       ·rw [if_pos (by simpa using hk2)]; congr 1; rw [Bool.eq_iff_iff]; simp [hk2]))
      by_cases h210 : y.v.2.1 ≠ 2 ∧ y.v.2.2.2.1 = 64
      ·rw [decide_eq_true h210] at e0
       rw [if_pos h210]
       exact ⟨_, e0.trans (if_pos rfl), rfl⟩
      ·rw [decide_eq_false h210] at e0
       have e0 := e0.trans (if_neg (by decide))
       rw [if_neg h210]
       by_cases h128 : x.v.2.2.2.2.2.2.1.length = 128
       ·rw [if_pos h128]
        exact ⟨_, e0.trans (if_pos (by simp [h128])), rfl⟩
       ·rw [if_neg h128]
        have e0 := e0.trans ((if_neg (by simp; omega)).trans (bds (put_eq hal hk s n)))
        have e0 := e0.trans (bds (with1_eq hok.so (by have := hok.len; omega) _))
        have hsm := entL_small hok hmem hym s n
        have fin : ∀ out : FsR, out = Rec.mk (entL f.v.1 x y s n, f.v.2.1, ()) → ∃ e : Err 111, plain_enter_j1 f out = some ((if chkL (entL f.v.1 x y s n) f.v.2.1 = true then (Rec.mk (entL f.v.1 x y s n, f.v.2.1, ()), (0 : Int)) else (f, 2)).1, e) ∧ e.c.getD 0 = (if chkL (entL f.v.1 x y s n) f.v.2.1 = true then ((Rec.mk (entL f.v.1 x y s n, f.v.2.1, ()) : FsR), (0 : Int)) else (f, 2)).2 := fun out ho => by
         subst ho
         have g0 : plain_enter_j1 f (Rec.mk (entL f.v.1 x y s n, f.v.2.1, ())) = _ := bds (Check_eqL hsm)
         cases hcc : chkL (entL f.v.1 x y s n) f.v.2.1 with
         | false =>
          have g0 := g0.trans (if_pos (by show (!chkL (entL f.v.1 x y s n) f.v.2.1) = true; rw [hcc]; rfl))
          exact ⟨_, g0, rfl⟩
         | true =>
          have g0 := g0.trans (if_neg (by show ¬ (!chkL (entL f.v.1 x y s n) f.v.2.1) = true; rw [hcc]; decide))
          exact ⟨_, g0, rfl⟩
        by_cases hk2 : y.v.2.1 = 2
        ·have e0 := e0.trans (if_neg (by simp [hk2]))
         obtain ⟨e, f1, f2⟩ := fin (Rec.mk (withL f.v.1 (putI x s n), f.v.2.1, ())) (by unfold entL; rw [if_neg (by simp [hk2])])
         exact ⟨e, e0.trans f1, f2⟩
        ·have e0 := e0.trans (if_pos (by simpa using hk2))
         have hla := alone_small hyal
         have hw : IntKind.i64.wrap (y.v.2.2.2.1 + 1) = y.v.2.2.2.1 + 1 := i64w (by omega)
         have hl2 := withL_len_le f.v.1 (putI x s n)
         have e0 := e0.trans (bds (with1_eq (f := Rec.mk (withL f.v.1 (putI x s n), f.v.2.1, ())) (withL_sorted hok.so _) (by have := hok.len; show (withL f.v.1 (putI x s n)).length ≤ 1000; omega) _))
         obtain ⟨e, f1, f2⟩ := fin (Rec.mk (withL (withL f.v.1 (putI x s n)) (linkI y 1), f.v.2.1, ())) (by unfold entL; rw [if_pos (by simpa using hk2)])
         refine ⟨e, e0.trans (Eq.trans ?_ f1), f2⟩
         rw [hw]; rfl
   ·have e0 := e0.trans (if_pos (by simpa using hc))
    rw [if_pos hc]
    exact ⟨_, e0, rfl⟩
 obtain ⟨e, h1, h2⟩ := key
 refine (bds h1).trans ?_
 show ((plain_errno e).bind fun r_1 => some ((entS f d s n).1, r_1)) = _
 unfold plain_errno
 rw [h2]; rfl
theorem del_ok {α : Type} (l : List α) (i : Nat) (hi : i < l.length) (hl : l.length ≤ 2000000) : del l (i : Int) (IntKind.i64.wrap ((i : Int) + 1)) = some (l.take i ++ l.drop (i + 1)) := by
 rw [lim (by omega)]
 unfold del
 rw [if_pos ⟨by omega, by omega, by omega, by omega⟩]; rfl
theorem look_ok {f : FsR} {d : Int} {s : Str} (h : (lookS f d s).2 = 0) : Ok f.v.1 f.v.2.1 ∧ ∃ i, posI f.v.1 d = some i ∧ i < f.v.1.length ∧ (inAt f.v.1 i).v.1 = d ∧ (inAt f.v.1 i).v.2.1 = 2 ∧ hasN (inAt f.v.1 i).v.2.2.2.2.2.2.1 s = true ∧ (lookS f d s).1 = (inAt f.v.1 i).v.2.2.2.2.2.2.2.1.getD (ptN (inAt f.v.1 i).v.2.2.2.2.2.2.1 s) 0 ∧
  ptN (inAt f.v.1 i).v.2.2.2.2.2.2.1 s < (inAt f.v.1 i).v.2.2.2.2.2.2.1.length ∧ (inAt f.v.1 i).v.2.2.2.2.2.2.2.1.length = (inAt f.v.1 i).v.2.2.2.2.2.2.1.length ∧ ∃ k, posI f.v.1 (lookS f d s).1 = some k ∧ k < f.v.1.length ∧ (inAt f.v.1 k).v.1 = (lookS f d s).1 := by
 unfold lookS at h ⊢
 cases he : (dirS f d).2.c with
 | some e =>
  rw [he] at h
  exfalso
  have h : e = 0 := h
  subst h
  unfold dirS at he
  split at he
  ·split at he
   ·simp at he
   ·split at he <;> simp at he
  ·simp at he
 | none =>
  obtain ⟨hok, i, p1, p2, p3, p4, p5⟩ := dirS_none he
  rw [he] at h
  simp only [p5] at h ⊢
  cases hh : hasN (inAt f.v.1 i).v.2.2.2.2.2.2.1 s with
  | false => rw [hh] at h; simp at h
  | true =>
   obtain ⟨d1, d2, d3, d4, d5⟩ := alone_dir (hok.al _ (inAt_mem p2)) p4
   have hlt : ptN (inAt f.v.1 i).v.2.2.2.2.2.2.1 s < (inAt f.v.1 i).v.2.2.2.2.2.2.1.length := by
    unfold hasN at hh
    simp only [Bool.and_eq_true, decide_eq_true_eq] at hh
    exact hh.1
   refine ⟨hok, i, p1, p2, p3, p4, hh, rfl, hlt, d2, ?_⟩
   simp only [if_true]
   have hm : (inAt f.v.1 i).v.2.2.2.2.2.2.2.1.getD (ptN (inAt f.v.1 i).v.2.2.2.2.2.2.1 s) 0 ∈ numsL f.v.1 := by
    unfold numsL
    rw [List.mem_flatMap]
    refine ⟨_, inAt_mem p2, ?_⟩
    rw [List.getD_eq_getElem?_getD, List.getElem?_eq_getElem (by omega), Option.getD_some]
    exact List.getElem_mem _
   obtain ⟨x, x1, x2⟩ := hok.kn _ hm
   cases hp : posI f.v.1 ((inAt f.v.1 i).v.2.2.2.2.2.2.2.1.getD (ptN (inAt f.v.1 i).v.2.2.2.2.2.2.1 s) 0) with
   | none =>
    exfalso
    obtain ⟨k, hk, rfl⟩ := List.getElem_of_mem x1
    exact posI_none hp k hk (by rw [inAt_get hk]; exact x2)
   | some k => exact ⟨k, rfl, (posI_some hp).1, (posI_some hp).2⟩
theorem Leave_eq {f : FsR} (hs : smallL f.v.1) (d : Int) (s : Str) : plain_Leave f d s = some (leaS f d s) := by
 have e0 : plain_Leave f d s = _ := bds (Lookup_eq hs d s)
 unfold leaS
 by_cases hc : (lookS f d s).2 = 0
 ·have e0 := e0.trans (if_neg (by simp [hc]))
  rw [if_neg (by simp [hc])]
  obtain ⟨hok, i, p1, p2, p3, p4, p5, p6, p7, p8, k, q1, q2, q3⟩ := look_ok hc
  have e0 := e0.trans (bds (Find_eq (by have := hs.1; omega) d))
  have f1 : fndI f.v.1 d = (i : Int) := by unfold fndI; rw [p1]
  have f2 : fndI f.v.1 (lookS f d s).1 = (k : Int) := by unfold fndI; rw [q1]
  rw [f1] at e0
  have e0 := e0.trans ((bds (nthIn p2)).trans (bds (Find_eq (by have := hs.1; omega) _)))
  rw [f2] at e0
  have e0 := e0.trans (bds (nthIn q2))
  rw [p1, q1, Option.getD_some, Option.getD_some]
  have hal := hok.al _ (inAt_mem p2)
  have hyal := hok.al _ (inAt_mem q2)
  generalize inAt f.v.1 i = x at *
  generalize inAt f.v.1 k = y at *
  obtain ⟨d1, d2, d3, d4, d5⟩ := alone_dir hal p4
  have e0 := e0.trans ((bds (bin_eq d1 (by omega) s)).trans (bds (clone2_eq _ (by omega))))
  have e0 := e0.trans ((bds (del_ok _ _ p7 (by omega))).trans ((bds (clone3_eq _ (by omega))).trans (bds (del_ok _ _ (by omega) (by omega)))))
  have hl := hok.len
  by_cases hk2 : y.v.2.1 = 2
  ·have e0 := e0.trans ((if_neg (by simp [hk2])).trans (bds (with1_eq hok.so (by omega) _)))
   refine e0.trans ?_
   unfold leaL
   rw [if_neg (by simp [hk2])]; rfl
  ·have e0 := e0.trans ((if_pos (by simpa using hk2)).trans (bds (with2_eq hok.so (by omega) _ _)))
   refine e0.trans ?_
   have hla := alone_small hyal
   have hw : IntKind.i64.wrap (y.v.2.2.2.1 - 1) = y.v.2.2.2.1 + -1 := by rw [i64w (by omega)]; rfl
   rw [hw]
   unfold leaL
   rw [if_pos (by simpa using hk2)]; rfl
 ·exact (e0.trans (if_pos (by simpa using hc))).trans (by rw [if_pos hc])
theorem Drop_eq {f : FsR} (hs : smallL f.v.1) (n : Int) : plain_Drop f n = some (droS f n) := by
 have e0 : plain_Drop f n = _ := (bds (Find_eq (by have := hs.1; omega) n)).trans (bds (Check_eqL hs))
 unfold droS
 cases hc : chkL f.v.1 f.v.2.1 with
 | false => rw [hc] at e0; exact e0
 | true =>
  rw [hc] at e0
  have e0 := e0.trans (if_neg (by decide))
  have hok := chkL_iff.1 hc
  rw [if_pos rfl]
  unfold fndI at e0
  cases hp : posI f.v.1 n with
  | none => rw [hp] at e0; exact e0.trans (if_pos (by decide))
  | some i =>
   rw [hp] at e0
   obtain ⟨q1, q2⟩ := posI_some hp
   have e0 := e0.trans (if_neg (by simp))
   simp only
   obtain ⟨m, m1, m2, m3⟩ := ups_some hok.len hok.nums
   have e0 := e0.trans (bds (x := decide (n = 1) || decide (0 < (inAt f.v.1 i).v.2.2.2.2.2.2.1.length)) (by
    by_cases h1 : n = 1
    ·rw [if_pos (by simp [h1]), decide_eq_true h1]; rfl
    ·rw [if_neg (by simpa using h1), decide_eq_false h1, Bool.false_or]
     refine (bds (nthIn q1)).trans ?_
     congr 1; rw [decide_eq_decide]; omega))
   have e0 := e0.trans (bds (x := decide (n = 1 ∨ 0 < (inAt f.v.1 i).v.2.2.2.2.2.2.1.length ∨ 0 < (upsL f.v.1 n).length)) (by
    by_cases h1 : n = 1 ∨ 0 < (inAt f.v.1 i).v.2.2.2.2.2.2.1.length
    ·have : (decide (n = 1) || decide (0 < (inAt f.v.1 i).v.2.2.2.2.2.2.1.length)) = true := by simpa using h1
     rw [this, if_pos rfl, decide_eq_true (by rcases h1 with h1 | h1; exact .inl h1; exact .inr (.inl h1))]
    ·have : (decide (n = 1) || decide (0 < (inAt f.v.1 i).v.2.2.2.2.2.2.1.length)) = false := by
      rw [Bool.or_eq_false_iff]; exact ⟨decide_eq_false fun e => h1 (.inl e), decide_eq_false fun e => h1 (.inr e)⟩
     rw [this, if_neg (by decide)]
     refine (bds m1).trans ?_
     rw [m2]
     congr 1; rw [decide_eq_decide]
     constructor
     ·intro h; exact .inr (.inr (by omega))
     ·rintro (h | h | h)
      ·exact absurd (.inl h) h1
      ·exact absurd (.inr h) h1
      ·omega))
   by_cases hb : n = 1 ∨ 0 < (inAt f.v.1 i).v.2.2.2.2.2.2.1.length ∨ 0 < (upsL f.v.1 n).length
   ·rw [decide_eq_true hb] at e0
    rw [if_pos hb]
    exact e0.trans (if_pos rfl)
   ·rw [decide_eq_false hb] at e0
    rw [if_neg hb]
    have hl := hok.len
    have e0 := e0.trans ((if_neg (by decide)).trans (bds (clone1_eq _ (by omega))))
    exact e0.trans (bds (del_ok _ _ q1 (by omega)))
end Go.Ai.Rab
end
