/- The laws of Cut. -/
import Derived.Test.YtdfkffmddgffkaaP2
set_option linter.unusedVariables false
set_option linter.unusedSimpArgs false
open Go.Ai.Enc (enc is)
open Go.Ai.Res (res ris)
open Go.Ai.Args (args)
namespace Go.Ai.Rab
attribute [local irreducible] fst law06_heads
theorem ofN_len (l : List Nat) : (ofN l).length = l.length := by simp [ofN]
theorem ofN_get (l : List Nat) (i : Nat) (h : i < l.length) : nth (ofN l) (i : Int) = some ((l[i] : Int)) := by
  rw [nth_nat]; simp [ofN, h]
theorem cuts_len (l : List UInt8) : (cuts l).length ≤ l.length := by unfold cuts; rw [ends_len]; exact cks_len l
theorem noughts_true (n : Int) : CutNoughts n = some true := by
  unfold CutNoughts
  by_cases h0 : n < 0
  · rw [if_pos (by simpa using h0), Option.bind_some, if_pos rfl, heads_eq]; rfl
  rw [if_neg (by simpa using h0), Option.bind_some]
  by_cases h1 : n > 20000
  · rw [if_pos (by simpa using h1), heads_eq]; rfl
  rw [if_neg (by simpa using h1)]
  obtain ⟨k, rfl⟩ : ∃ k : Nat, n = (k : Int) := ⟨n.toNat, by omega⟩
  rw [mkz_ok (by omega) (by omega), Option.bind_some, cuts_eq _ (rep_le _ (by omega)), Option.bind_some, cuts_noughts]
  generalize hm : (k + 2047) / 2048 = m
  generalize hr : (List.range m).map (fun i => min k (2048 * (i + 1))) = r
  have hl : r.length = m := by rw [← hr]; simp
  have hg : ∀ (i : Nat) (h : i < r.length), r[i] = min k (2048 * (i + 1)) := by intro i h; subst hr; simp
  have := loop_all (body := CutNoughts_l1 (ofN r) k) m (fun _ => true) false (fun i hi => by
    simp only [CutNoughts_l1]
    rw [if_pos (by rw [ofN_len]; simp; omega), ofN_get _ _ (by omega), Option.bind_some, hg, i64_ok ((i : Int) + 1) (by omega), i64_ok (2048 * ((i : Int) + 1)) (by omega), if_neg (by
      unfold imin
      simp only [bne_iff_ne, ne_eq, Decidable.not_not]
      split <;> omega)]
    simp) (by simp only [CutNoughts_l1]; rw [if_neg (by rw [ofN_len]; simp; omega)]) 0 (by omega)
  rw [show loop (CutNoughts_l1 (ofN r) k) 0 = _ from this, if_pos (by simp), Option.bind_some]
  simp only [CutNoughts_a1]
  rw [if_pos (by
    rw [ofN_len, i64_ok ((k : Int) + 2047) (by omega), hl]
    have : ((k : Int) + 2047).tdiv 2048 = (m : Int) := by
      rw [Int.tdiv_eq_ediv_of_nonneg (by omega)]; omega
    rw [this, i64_ok _ (by omega)]; simp), heads_eq]; rfl
theorem ends_at (cs : List (List UInt8)) (i : Nat) (h : i < (ends 0 cs).length) : (ends 0 cs)[i] ≤ cs.flatten.length := by
  have := ends_le cs 0 _ (List.getElem_mem h)
  omega
theorem set_app (b : List UInt8) (k : Nat) (x : UInt8) : (([] : List UInt8) ++ b).set k x = b.set k x := by rw [List.nil_append]
theorem local_true (b : List UInt8) (at_ : Int) (x : UInt8) : CutLocal b at_ x = some true := by
  unfold CutLocal
  by_cases h0 : (b.length : Int) > 8000
  · rw [if_pos (by simpa using h0), Option.bind_some, if_pos rfl, Option.bind_some, if_pos rfl, heads_eq]; rfl
  rw [if_neg (by simpa using h0), Option.bind_some]
  by_cases h1 : at_ < 0
  · rw [if_pos (by simpa using h1), Option.bind_some, if_pos rfl, heads_eq]; rfl
  rw [if_neg (by simpa using h1), Option.bind_some]
  by_cases h2 : at_ ≥ (b.length : Int)
  · rw [if_pos (by simpa using h2), heads_eq]; rfl
  rw [if_neg (by simpa using h2)]
  obtain ⟨k, rfl⟩ : ∃ k : Nat, at_ = (k : Int) := ⟨at_.toNat, by omega⟩
  rw [app_ok _ _ (by simp; omega) (by simp; omega), Option.bind_some, List.nil_append, nth_get (i := k) (by omega), Option.bind_some, cuts_eq _ (by omega), Option.bind_some, cuts_eq _ (by simp; omega), Option.bind_some, Int.toNat_natCast]
  obtain ⟨cs, d, ds, es, e1, e2, e3, e4⟩ := cks_local b x k (by omega)
  have hl1 := cuts_len b
  have hl2 := cuts_len (b.set k x)
  have q1 : cuts b = ends 0 cs ++ ends cs.flatten.length (d :: ds) := by unfold cuts; rw [e1, ends_app]; simp
  have q2 : cuts (b.set k x) = ends 0 cs ++ ends cs.flatten.length es := by unfold cuts; rw [e2, ends_app]; simp
  generalize cuts b = r1 at *
  generalize cuts (b.set k x) = r2 at *
  have hn : (ends 0 cs).length = cs.length := ends_len _ _
  have l1 : cs.length < r1.length := by rw [q1]; simp [hn, ends]
  have l2 : cs.length ≤ r2.length := by rw [q2]; simp [hn]
  have g : ∀ (i : Nat) (h : i < cs.length), ∃ v : Nat, v ≤ k ∧ nth (ofN r1) (i : Int) = some (v : Int) ∧ nth (ofN r2) (i : Int) = some (v : Int) := by
    intro i h
    refine ⟨(ends 0 cs)[i], by have := ends_at cs i (by omega); omega, ?_, ?_⟩
    · rw [ofN_get _ _ (by omega)]; simp [q1, hn, h, List.getElem_append_left]
    · rw [ofN_get _ _ (by omega)]; simp [q2, hn, h, List.getElem_append_left]
  have ge : nth (ofN r1) (cs.length : Int) = some ((cs.flatten.length + d.length : Nat) : Int) := by
    rw [ofN_get _ _ l1]
    simp [q1, hn, ends, List.getElem_append_right]
  have := loop_all (body := CutLocal_l1 (ofN r1) k (ofN r2)) cs.length (fun _ => true) false (fun i hi => by
    obtain ⟨v, hv, g1, g2⟩ := g i hi
    simp only [CutLocal_l1]
    rw [if_pos (by rw [ofN_len]; simp; omega), g1, Option.bind_some, Option.bind_some, if_pos (by simp; omega), if_neg (by rw [ofN_len]; simp; omega), g2, Option.bind_some, Option.bind_some, Option.bind_some, if_neg (bne_self _), i64_ok _ (by omega)]
    simp) (by
    simp only [CutLocal_l1]
    rw [if_pos (by rw [ofN_len]; simp; omega), ge, Option.bind_some, Option.bind_some, if_neg (by simp only [decide_eq_true_eq]; omega)]) 0 (by omega)
  rw [show loop (CutLocal_l1 (ofN r1) k (ofN r2)) 0 = _ from this, if_pos (by simp), Option.bind_some]
  simp only [CutLocal_a1]
  rw [heads_eq]; rfl
theorem finds_true (b : List UInt8) : CutFinds b = some true := by
  unfold CutFinds
  by_cases h0 : (b.length : Int) > 12000
  · rw [if_pos (by simpa using h0), heads_eq]; rfl
  have hl1 := cuts_len b
  have hl2 := cks_len b
  rw [if_neg (by simpa using h0), cuts_eq _ (by omega), Option.bind_some, refcuts_eq _ (by omega), Option.bind_some, ints_same _ (by rw [ofN_len]; omega), Option.bind_some, if_pos rfl, split_eq _ (by omega), Option.bind_some, refsplit_eq _ (by omega), Option.bind_some, lists_same _ (by omega), Option.bind_some, Option.bind_some, if_pos rfl, first_eq _ (by omega), Option.bind_some, ref06_First, first_eq _ (by omega), Option.bind_some, Option.bind_some, if_pos (by simp), heads_eq]; rfl
theorem joins_true (b : List UInt8) : CutJoins b = some true := by
  unfold CutJoins
  by_cases h0 : (b.length : Int) > 40000
  · rw [if_pos (by simpa using h0), heads_eq]; rfl
  have hl2 := cks_len b
  rw [if_neg (by simpa using h0), split_eq _ (by omega), Option.bind_some]
  have := loop_all (body := CutJoins_l1 (cks b)) (cks b).length (fun _ => true) false (fun i hi => by
    obtain ⟨g1, g2, g3⟩ := cks_bd b i hi
    simp only [CutJoins_l1]
    rw [if_pos (by simp; omega), nth_get hi, Option.bind_some, if_neg (by simp; omega), Option.bind_some]
    have : (if decide (((cks b)[i].length : Int) < 512) = true then some (decide ((i : Int) < IntKind.i64.wrap (((cks b).length : Int) - 1))) else some false) = some false := by
      split
      · rename_i c
        rw [i64_ok _ (by omega)]
        simp at c
        simp; omega
      · rfl
    rw [this]
    simp only [Option.bind_some]
    rw [if_neg (by simp)]
    simp only [Option.bind_some]
    rw [if_neg (by simp; intro e; rw [e] at g2; simp at g2), i64_ok _ (by omega)]
    simp) (by simp only [CutJoins_l1]; rw [if_neg (by simp)]) 0 (by omega)
  rw [show loop (CutJoins_l1 (cks b)) 0 = _ from this, if_pos (by simp), Option.bind_some]
  simp only [CutJoins_a1]
  rw [join_eq _ (by omega) (by rw [cks_flat]; omega), Option.bind_some, cks_flat, ref02_Same, Option.bind_some, if_pos (by simp [eqS]), heads_eq]; rfl
theorem prefix_true (b m : List UInt8) : CutPrefix b m = some true := by
  unfold CutPrefix
  by_cases h0 : (b.length : Int) > 8000
  · rw [if_pos (by simpa using h0), Option.bind_some, if_pos rfl, heads_eq]; rfl
  rw [if_neg (by simpa using h0), Option.bind_some]
  by_cases h1 : (m.length : Int) > 4000
  · rw [if_pos (by simpa using h1), heads_eq]; rfl
  rw [if_neg (by simpa using h1), cuts_eq _ (by omega), Option.bind_some, app_ok _ _ (by simp; omega) (by simp; omega), Option.bind_some, List.nil_append, app_ok _ _ (by omega) (by omega), Option.bind_some, cuts_eq _ (by simp; omega), Option.bind_some]
  have hl1 := cuts_len b
  have hl2 := cuts_len (b ++ m)
  have key : ∃ E F G : List Nat, cuts b = E ++ F ∧ cuts (b ++ m) = E ++ G ∧ F.length ≤ 1 ∧ F.length ≤ G.length ∧ (F = [] → E = []) := by
    by_cases hb : b = []
    · exact ⟨[], [], cuts (b ++ m), by subst hb; rfl, rfl, by simp, by simp, fun _ => rfl⟩
    · obtain ⟨cs, c, ds, e1, e2, e3⟩ := cks_prefix b m hb
      refine ⟨ends 0 cs, ends (0 + cs.flatten.length) [c], ends (0 + cs.flatten.length) ds, by unfold cuts; rw [e1, ends_app], by unfold cuts; rw [e2, ends_app], by rw [ends_len]; simp, by rw [ends_len, ends_len]; exact List.length_pos_iff.2 e3, fun e => ?_⟩
      simp [ends] at e
  obtain ⟨E, F, G, q1, q2, q3, q4, q5⟩ := key
  generalize cuts b = r1 at *
  generalize cuts (b ++ m) = r2 at *
  have n1 : r1.length = E.length + F.length := by rw [q1, List.length_append]
  have n2 : r2.length = E.length + G.length := by rw [q2, List.length_append]
  rw [if_neg (by rw [ofN_len, ofN_len]; simp; omega)]
  have hn : IntKind.i64.wrap (((ofN r1).length : Int) - 1) ≤ (E.length : Int) ∧ ((E.length : Int) ≤ IntKind.i64.wrap (((ofN r1).length : Int) - 1) ∨ E = []) := by
    rw [ofN_len, i64_ok _ (by omega)]
    refine ⟨by omega, ?_⟩
    by_cases hF : F = []
    · exact .inr (q5 hF)
    · have := List.length_pos_iff.2 hF
      exact .inl (by omega)
  have := loop_all (body := CutPrefix_l1 (ofN r1) (ofN r2)) E.length (fun _ => true) false (fun i hi => by
    simp only [CutPrefix_l1]
    have hE : E ≠ [] := by intro e; rw [e] at hi; simp at hi
    have h3 := hn.2.resolve_right hE
    have gi1 : nth (ofN r1) (i : Int) = some (E[i] : Int) := by rw [ofN_get _ _ (by omega)]; simp [q1, hi, List.getElem_append_left]
    have gi2 : nth (ofN r2) (i : Int) = some (E[i] : Int) := by rw [ofN_get _ _ (by omega)]; simp [q2, hi, List.getElem_append_left]
    rw [if_pos (by simp only [decide_eq_true_eq]; omega), gi1, Option.bind_some, gi2, Option.bind_some, if_neg (bne_self _), i64_ok _ (by omega)]
    simp) (by
    simp only [CutPrefix_l1]
    rw [if_neg (by simp only [decide_eq_true_eq]; omega)]) 0 (by omega)
  rw [show loop (CutPrefix_l1 (ofN r1) (ofN r2)) 0 = _ from this, if_pos (by simp), Option.bind_some]
  simp only [CutPrefix_a1]
  rw [heads_eq]; rfl
/-- What is kept of the ends. -/
def keep (A : Nat) (l : List Nat) : List Int := (l.filter (A < ·)).map fun (n : Nat) => ((n - A : Nat) : Int)
theorem keep_app (A : Nat) (l m : List Nat) : keep A (l ++ m) = keep A l ++ keep A m := by simp [keep]
theorem again_step (r : List Nat) (a : List UInt8) (v : List Int) (on : Bool) (i : Nat) (hr : r.length ≤ 100000) (hx : ∀ x ∈ r, x ≤ 100000) (hv : v.length ≤ i) (hi : i < r.length) :
    CutAgain_l1 (ofN r) a (v, on, (i : Int)) = some (.inl (v ++ keep a.length [r[i]], on || r[i] == a.length, ((i + 1 : Nat) : Int))) := by
  have hxi := hx _ (List.getElem_mem hi)
  simp only [CutAgain_l1]
  rw [if_pos (by rw [ofN_len]; simp; omega), ofN_get _ _ hi, Option.bind_some]
  have e : (if on = true then some true else some (((r[i] : Nat) : Int) == (a.length : Int))) = some (on || r[i] == a.length) := by
    cases on
    · simp only [Bool.false_eq_true, if_false, Bool.false_or]
      congr 1
      exact Bool.eq_iff_iff.2 (by simp only [beq_iff_eq]; omega)
    · rfl
  rw [e, Option.bind_some, Option.bind_some]
  by_cases c : a.length < r[i]
  · rw [if_pos (by simp only [decide_eq_true_eq]; omega), Option.bind_some, i64_ok _ (by omega), app_ok _ _ (by simp; omega) (by simp; omega), Option.bind_some, CutAgain_j2, i64_ok _ (by omega)]
    have : keep a.length [r[i]] = [((r[i] : Nat) : Int) - (a.length : Int)] := by simp [keep, c]; omega
    rw [this]; simp
  · rw [if_neg (by simp only [decide_eq_true_eq]; omega), CutAgain_j2, i64_ok _ (by omega)]
    have : keep a.length [r[i]] = [] := by simp [keep, c]
    rw [this]; simp
theorem again_l3 (r : List Int) (a : List UInt8) : CutAgain_l3 r a = CutAgain_l1 r a := by
  funext ⟨w, at_, i⟩; rfl
theorem again_loop (a : List UInt8) (r2 : List Nat) : ∀ (r1 : List Nat) (v : List Int) (on : Bool), (r1 ++ r2).length ≤ 100000 → (∀ x ∈ r1 ++ r2, x ≤ 100000) → v.length ≤ r1.length →
    loop (CutAgain_l1 (ofN (r1 ++ r2)) a) (v, on, (r1.length : Int)) = some (v ++ keep a.length r2, on || r2.any (· == a.length)) := by
  induction r2 with
  | nil =>
    intro r1 v on _ _ _
    refine loop_done ?_
    simp [CutAgain_l1, ofN_len, keep]
  | cons x r2 ih =>
    intro r1 v on h1 h2 h3
    have hi : r1.length < (r1 ++ x :: r2).length := by simp
    have hs := again_step (r1 ++ x :: r2) a v on r1.length h1 h2 h3 hi
    have hx : (r1 ++ x :: r2)[r1.length] = x := by simp
    rw [hx] at hs
    have hk : (keep a.length [x]).length ≤ 1 := by unfold keep; rw [List.length_map]; exact Nat.le_trans (List.length_filter_le _ _) (by simp)
    rw [loop_next hs, show r1 ++ x :: r2 = (r1 ++ [x]) ++ r2 by simp, show r1.length + 1 = (r1 ++ [x]).length by simp, ih (r1 ++ [x]) _ _ (by simpa using h1) (by simpa using h2) (by simp; omega)]
    rw [show keep a.length (x :: r2) = keep a.length [x] ++ keep a.length r2 from keep_app _ [x] r2, List.append_assoc, List.any_cons, Bool.or_assoc]
theorem again_true (a b tail : List UInt8) : CutAgain a b tail = some true := by
  unfold CutAgain
  by_cases h0 : (a.length : Int) > 10000
  · rw [if_pos (by simpa using h0), Option.bind_some, if_pos rfl, Option.bind_some, if_pos rfl, heads_eq]; rfl
  rw [if_neg (by simpa using h0), Option.bind_some]
  by_cases h1 : (b.length : Int) > 10000
  · rw [if_pos (by simpa using h1), Option.bind_some, if_pos rfl, heads_eq]; rfl
  rw [if_neg (by simpa using h1), Option.bind_some]
  by_cases h2 : (tail.length : Int) > 10000
  · rw [if_pos (by simpa using h2), heads_eq]; rfl
  rw [if_neg (by simpa using h2)]
  rw [app_ok _ _ (by simp; omega) (by simp; omega), Option.bind_some, List.nil_append, app_ok _ _ (by omega) (by omega), Option.bind_some, cuts_eq _ (by simp; omega), Option.bind_some]
  rw [app_ok _ _ (by simp; omega) (by simp; omega), Option.bind_some, List.nil_append, app_ok _ _ (by omega) (by omega), Option.bind_some, cuts_eq _ (by simp; omega), Option.bind_some]
  have ka : ∀ c : List UInt8, c.length ≤ 10000 → (cuts (c ++ tail)).length ≤ 100000 ∧ ∀ x ∈ cuts (c ++ tail), x ≤ 100000 := fun c hc => by
    have l1 := cuts_len (c ++ tail)
    rw [List.length_append] at l1
    exact ⟨by omega, fun x hx => by have := (cuts_pos _ x hx).2; rw [List.length_append] at this; omega⟩
  have lo : ∀ c : List UInt8, c.length ≤ 10000 → loop (CutAgain_l1 (ofN (cuts (c ++ tail))) c) ([], ((c.length : Int) == 0), 0) = some (keep c.length (cuts (c ++ tail)), ((c.length : Int) == 0) || (cuts (c ++ tail)).any (· == c.length)) := fun c hc => by
    obtain ⟨k1, k2⟩ := ka c hc
    have := again_loop c (cuts (c ++ tail)) [] [] ((c.length : Int) == 0) k1 k2 (by simp)
    exact this
  have fin : ∀ c : List UInt8, (((c.length : Int) == 0) || (cuts (c ++ tail)).any (· == c.length)) = true → keep c.length (cuts (c ++ tail)) = ofN (cuts tail) := fun c hc => by
    have := cuts_again c tail (by
      rcases Bool.or_eq_true _ _ ▸ hc with h | h
      · exact .inl (List.length_eq_zero_iff.1 (by simpa using h))
      · obtain ⟨x, hx, e⟩ := List.any_eq_true.1 h
        have : x = c.length := by simpa using e
        exact .inr (this ▸ hx))
    rw [← this]
    simp [keep, ofN, List.map_map, Function.comp]
  rw [lo a (by omega), Option.bind_some]
  simp only [CutAgain_a1]
  rw [again_l3, lo b (by omega), Option.bind_some]
  simp only [CutAgain_a3]
  generalize e1 : ((a.length : Int) == 0 || (cuts (a ++ tail)).any (· == a.length)) = on
  generalize e2 : ((b.length : Int) == 0 || (cuts (b ++ tail)).any (· == b.length)) = at_
  have hl := cuts_len tail
  cases on
  · rw [if_pos (by rfl), Option.bind_some, if_pos rfl, Option.bind_some, if_pos rfl, heads_eq]; rfl
  · rw [if_neg (by simp), Option.bind_some]
    cases at_
    · rw [if_pos (by rfl), Option.bind_some, if_pos rfl, heads_eq]; rfl
    · rw [if_neg (by simp), fin a e1, fin b e2, ints_same _ (by rw [ofN_len]; omega), Option.bind_some, Option.bind_some, if_pos rfl, heads_eq]; rfl
end Go.Ai.Rab
