/- What the functions of Cut answer. -/
import Derived.Test.YtdfkffmddgffkaaP1
import Derived.Test.YtdfkffmddgffkaaTgX
set_option linter.unusedVariables false
set_option linter.unusedSimpArgs false
open Go.Ai.Enc (enc is)
open Go.Ai.Res (res ris)
open Go.Ai.Args (args)
namespace Go.Ai.Rab
attribute [local irreducible] fst
theorem first_eq (b : List UInt8) (h : b.length ≤ 100000) : cut_First b = some ((fst b : Int)) := by
  unfold cut_First fst; rw [if_pos (by omega)]
theorem split_loop (l : List UInt8) : ∀ out : List (List UInt8), out.length + l.length ≤ 100000 → loop cut_Split_l1 (l, out) = some (out ++ cks l) := by
  refine cks_ind (p := fun l => ∀ out : List (List UInt8), out.length + l.length ≤ 100000 → loop cut_Split_l1 (l, out) = some (out ++ cks l)) (fun out h => ?_) (fun l hl ih out h => ?_) l
  · rw [cks_nil, List.append_nil]
    exact loop_done rfl
  · obtain ⟨h1, h2, _⟩ := fst_bd l
    have h2 := h2 hl
    have hp : 0 < l.length := List.length_pos_iff.2 hl
    have hs1 := sub_nat l 0 (fst l) (by omega) h1
    have hs2 := sub_nat l (fst l) l.length h1 (Nat.le_refl _)
    rw [List.take_length] at hs2
    have hb : cut_Split_l1 (l, out) = some (.inl (l.drop (fst l), out ++ [l.take (fst l)])) := by
      simp only [cut_Split_l1]
      rw [if_pos (by simp; omega), first_eq l (by omega), Option.bind_some]
      rw [show (sub l 0 (fst l : Nat)) = _ from hs1, Option.bind_some, bytes_Clone, app_ok _ _ (by simp; omega) (by simp; omega), Option.bind_some, app_ok _ _ (by simp; omega) (by simp; omega), Option.bind_some, hs2, Option.bind_some]
      rfl
    rw [loop_next hb, ih _ (by rw [List.length_append, List.length_drop]; simp; omega), cks_cons l hl, List.append_assoc]; rfl
theorem split_eq (l : List UInt8) (h : l.length ≤ 100000) : cut_Split l = some (cks l) := by
  unfold cut_Split
  rw [split_loop l [] (by simpa using h)]; rfl
def ofN (l : List Nat) : List Int := l.map fun (n : Nat) => (n : Int)
theorem cuts_loop (rest : List (List UInt8)) : ∀ (pre : List (List UInt8)) (out : List Int) (n : Nat), n + rest.flatten.length ≤ 100000 → out.length + rest.length ≤ 100000 → pre.length + rest.length ≤ 100000 →
    loop (cut_Cuts_l1 (pre ++ rest)) (out, (n : Int), (pre.length : Int)) = some (out ++ ofN (ends n rest)) := by
  induction rest with
  | nil =>
    intro pre out n _ _ _
    refine loop_done ?_
    simp [cut_Cuts_l1, ends, ofN]
  | cons c rest ih =>
    intro pre out n h h' h''
    rw [List.flatten_cons, List.length_append] at h
    rw [List.length_cons] at h' h''
    have hn : nth (pre ++ c :: rest) (pre.length : Int) = some c := by rw [nth_nat]; simp
    have hb : cut_Cuts_l1 (pre ++ c :: rest) (out, (n : Int), (pre.length : Int)) = some (.inl (out ++ [((n + c.length : Nat) : Int)], ((n + c.length : Nat) : Int), (((pre ++ [c]).length : Nat) : Int))) := by
      simp only [cut_Cuts_l1]
      rw [if_pos (by simp; omega), hn, Option.bind_some, i64_ok _ (by omega), app_ok _ _ (by simp; omega) (by simp; omega), Option.bind_some, i64_ok _ (by omega)]
      simp
    rw [loop_next hb, show pre ++ c :: rest = (pre ++ [c]) ++ rest by simp, ih _ _ _ (by omega) (by simp; omega) (by simp; omega)]
    simp [ends, ofN]
theorem cuts_eq (l : List UInt8) (h : l.length ≤ 100000) : cut_Cuts l = some (ofN (cuts l)) := by
  unfold cut_Cuts
  rw [split_eq l h, Option.bind_some]
  have := cks_len l
  have := cuts_loop (cks l) [] [] 0 (by rw [cks_flat]; omega) (by simp; omega) (by simp; omega)
  rw [List.nil_append] at this
  rw [show loop (cut_Cuts_l1 (cks l)) ([], 0, 0) = _ from this]; rfl
theorem refcuts_loop (l b : List UInt8) : ∀ (out : List Int) (n : Nat), b.drop n = l → n ≤ b.length → b.length ≤ 100000 → out.length + l.length ≤ 100000 →
    loop (ref06_Cuts_l1 b) (out, (n : Int)) = some (out ++ ofN (ends n (cks l))) := by
  refine cks_ind (p := fun l => ∀ (out : List Int) (n : Nat), b.drop n = l → n ≤ b.length → b.length ≤ 100000 → out.length + l.length ≤ 100000 → loop (ref06_Cuts_l1 b) (out, (n : Int)) = some (out ++ ofN (ends n (cks l)))) (fun out n h h1 h2 h3 => ?_) (fun l hl ih out n h h1 h2 h3 => ?_) l
  · refine loop_done ?_
    have : b.length ≤ n := List.drop_eq_nil_iff.1 h
    simp only [ref06_Cuts_l1]
    rw [if_neg (by simp; omega)]
    simp [cks_nil, ends, ofN]
  · obtain ⟨k1, k2, _⟩ := fst_bd l
    have k2 := k2 hl
    have e : l.length = b.length - n := by rw [← h, List.length_drop]
    have hs := sub_nat b n b.length h1 (Nat.le_refl _)
    rw [List.take_length, h] at hs
    have hb : ref06_Cuts_l1 b (out, (n : Int)) = some (.inl (out ++ [((n + fst l : Nat) : Int)], ((n + fst l : Nat) : Int))) := by
      simp only [ref06_Cuts_l1]
      rw [if_pos (by simp; omega), hs, Option.bind_some, ref06_First, first_eq l (by omega), Option.bind_some, i64_ok _ (by omega), app_ok _ _ (by simp; omega) (by simp; omega), Option.bind_some]
      simp
    rw [loop_next hb, ih _ _ (by rw [← h, List.drop_drop]) (by omega) h2 (by rw [List.length_append, List.length_drop]; simp; omega), cks_cons l hl]
    simp [ends, ofN, List.length_take, Nat.min_eq_left k1]
theorem refcuts_eq (l : List UInt8) (h : l.length ≤ 100000) : ref06_Cuts l = some (ofN (cuts l)) := by
  unfold ref06_Cuts
  rw [show loop (ref06_Cuts_l1 l) ([], 0) = _ from refcuts_loop l l [] 0 rfl (by omega) h (by simpa using h)]; rfl
theorem refsplit_loop (b : List UInt8) (cs : List (List UInt8)) : ∀ (pre : List Nat) (out : List (List UInt8)) (n : Nat), b.drop n = cs.flatten → n ≤ b.length → b.length ≤ 100000 → out.length + cs.length ≤ 100000 → pre.length + cs.length ≤ 100000 →
    loop (ref06_Split_l1 (ofN (pre ++ ends n cs)) b) (out, (n : Int), (pre.length : Int)) = some (out ++ cs) := by
  induction cs with
  | nil =>
    intro pre out n _ _ _ _ _
    refine loop_done ?_
    simp [ref06_Split_l1, ends, ofN]
  | cons c cs ih =>
    intro pre out n h1 h2 h3 h4 h5
    rw [List.length_cons] at h4 h5
    have e := congrArg List.length h1
    rw [List.flatten_cons, List.length_append, List.length_drop] at e
    have hn : nth (ofN (pre ++ ends n (c :: cs))) (pre.length : Int) = some ((n + c.length : Nat) : Int) := by
      rw [nth_nat]; simp [ofN, ends]
    have hs := sub_nat b n (n + c.length) (by omega) (by omega)
    have hc : (b.take (n + c.length)).drop n = c := by
      rw [List.drop_take, h1, List.flatten_cons, show n + c.length - n = c.length by omega, List.take_left' rfl]
    rw [hc] at hs
    have hb : ref06_Split_l1 (ofN (pre ++ ends n (c :: cs))) b (out, (n : Int), (pre.length : Int)) = some (.inl (out ++ [c], ((n + c.length : Nat) : Int), (((pre ++ [n + c.length]).length : Nat) : Int))) := by
      simp only [ref06_Split_l1]
      rw [if_pos (by simp [ofN, ends, ends_len]; omega), hn, Option.bind_some, hs, Option.bind_some, app_ok _ _ (by simp; omega) (by simp; omega), Option.bind_some, app_ok _ _ (by simp; omega) (by simp; omega), Option.bind_some, Option.bind_some, i64_ok _ (by omega)]
      simp
    rw [loop_next hb, show ofN (pre ++ ends n (c :: cs)) = ofN ((pre ++ [n + c.length]) ++ ends (n + c.length) cs) by simp [ends], ih _ _ _ (by rw [← List.drop_drop, h1, List.flatten_cons, List.drop_left' rfl]) (by omega) h3 (by simp; omega) (by simp; omega)]
    simp
theorem refsplit_eq (l : List UInt8) (h : l.length ≤ 100000) : ref06_Split l = some (cks l) := by
  unfold ref06_Split
  have := cks_len l
  rw [refcuts_eq l h, Option.bind_some]
  rw [show loop (ref06_Split_l1 (ofN (cuts l)) l) ([], 0, 0) = _ from refsplit_loop l (cks l) [] [] 0 (by rw [cks_flat]; rfl) (by omega) h (by simp; omega) (by simp; omega)]; rfl
theorem bne_self {α : Type} [BEq α] [LawfulBEq α] (a : α) : ¬ (a != a) = true := by simp
theorem ints_same (a : List Int) (h : a.length ≤ 100000) : ref06_Ints a a = some true := by
  unfold ref06_Ints
  rw [if_neg (bne_self _)]
  have := loop_all (body := ref06_Ints_l1 a a) a.length (fun _ => true) false (fun i hi => by
    simp only [ref06_Ints_l1]
    rw [if_pos (by simp; omega), nth_get hi, Option.bind_some, Option.bind_some, if_neg (bne_self _), i64_ok _ (by omega)]
    simp) (by simp [ref06_Ints_l1]) 0 (by omega)
  rw [show loop (ref06_Ints_l1 a a) 0 = _ from this, if_pos (by simp)]; rfl
theorem lists_same (a : List (List UInt8)) (h : a.length ≤ 100000) : ref06_Lists a a = some true := by
  unfold ref06_Lists
  rw [if_neg (bne_self _)]
  have := loop_all (body := ref06_Lists_l1 a a) a.length (fun _ => true) false (fun i hi => by
    simp only [ref06_Lists_l1]
    rw [if_pos (by simp; omega), nth_get hi, Option.bind_some, Option.bind_some, if_neg (by simp [eqS]), i64_ok _ (by omega)]
    simp) (by simp [ref06_Lists_l1]) 0 (by omega)
  rw [show loop (ref06_Lists_l1 a a) 0 = _ from this, if_pos (by simp)]; rfl
theorem join_eq (s : List (List UInt8)) (h : s.length ≤ 100000) (h' : s.flatten.length ≤ 100000) : cut_Join s = some s.flatten := by
  unfold cut_Join bytes_Join
  have e : Lib.join s [] = s.flatten := by
    unfold Lib.join List.intercalate
    induction s with
    | nil => rfl
    | cons a s ih =>
      cases s with
      | nil => rfl
      | cons b s => 
        have := ih (by simp at h ⊢; omega) (by simp at h' ⊢; omega)
        simp only [List.intersperse, List.flatten_cons, List.nil_append] at this ⊢
        rw [this]
  rw [if_pos ⟨by omega, by
    have : Lib.lens s = s.flatten.length := by simp [Lib.lens, List.length_flatten]
    simp; omega⟩, Option.bind_some, e]
theorem rep_ne (n : Nat) (h : 0 < n) : List.replicate n (0 : UInt8) ≠ [] := by
  intro e; have := congrArg List.length e; rw [List.length_replicate] at this; simp at this; omega
theorem rep_le (n : Nat) (h : n ≤ 100000) : (List.replicate n (0 : UInt8)).length ≤ 100000 := by rw [List.length_replicate]; exact h
theorem heads_eq : law06_heads = some true := by
  have hc : cuts (List.replicate 2053 (0 : UInt8)) = [2048, 2053] := by rw [cuts_noughts]; rfl
  have hk : cks (List.replicate 2053 (0 : UInt8)) = [List.replicate 2048 0, List.replicate 5 0] := by
    rw [cks_cons _ (rep_ne _ (by omega)), fst_noughts, List.drop_replicate, List.take_replicate, cks_cons _ (rep_ne _ (by omega)), fst_noughts, List.drop_replicate, List.take_replicate]
    rfl
  have hj := cks_flat (List.replicate 2053 (0 : UInt8))
  unfold law06_heads
  rw [show mkz 1 2053 (0 : UInt8) = some (List.replicate 2053 0) from mkz_ok (n := 2053) (by omega) (by omega), Option.bind_some, split_eq _ (rep_le _ (by omega)), Option.bind_some, cuts_eq _ (rep_le _ (by omega)), Option.bind_some, hc]
  rw [show ref06_Ints (ofN [2048, 2053]) [2048, 2053] = some true from ints_same [2048, 2053] (by simp), Option.bind_some, if_pos rfl]
  rw [show sub (List.replicate 2053 (0 : UInt8)) 0 9 = _ from sub_nat _ 0 9 (by omega) (by rw [List.length_replicate]; omega), Option.bind_some, List.drop_zero, List.take_replicate, first_eq _ (rep_le _ (by omega)), fst_noughts, Option.bind_some, Option.bind_some, if_pos (by rfl), hk, Option.bind_some, if_pos (by rfl), show nth [List.replicate 2048 (0 : UInt8), List.replicate 5 0] 1 = some (List.replicate 5 0) from rfl, Option.bind_some, Option.bind_some, List.length_replicate, if_pos (by rfl), cuts_eq [] (Nat.zero_le _), Option.bind_some, Option.bind_some, if_pos (by rfl), ← hk, join_eq _ (Nat.le_trans (cks_len _) (rep_le _ (by omega))) (by rw [hj]; exact rep_le _ (by omega)), hj, Option.bind_some, Option.bind_some, List.length_replicate]
  rfl
end Go.Ai.Rab
