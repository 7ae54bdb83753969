/- My own texts DevNpC, DevNpD, DevNpE, one behind the other. -/
import Derived.Test.YtabgpaejofjpbaaDoorWAQ
import Derived.Test.YtabgpaejofjpbaaDoorWAO
section
/- Names, plainly: the heads hold. -/
set_option linter.unusedVariables false
set_option linter.unusedSimpArgs false
open Go.Ai.Enc (enc is)
namespace Go.Ai.Rab
theorem hexS9 : hexS 9 = [57] := by rw [hexS_lt (by decide)]; decide
theorem hexSe9 : hexS 233 = [101, 57] := by rw [hexS_ge (by decide), hexS_lt (by decide)]; decide
theorem hexS41 : hexS 65 = [52, 49] := by rw [hexS_ge (by decide), hexS_lt (by decide)]; decide
theorem splA : spl [47, 97, 47, 47, 46, 47, 98, 47] = ([str [97], str [98]], true, 0) := by decide
theorem splB : spl [97] = ([], false, 206) := by decide
theorem rnA : rn [195, 169, 9] = 233 ∧ wd [195, 169, 9] = 2 ∧ okr [195, 169, 9] = true := by decide
theorem rnB : rn [9] = 9 ∧ wd [9] = 1 ∧ okr [9] = true := by decide
theorem rnC : rn [65] = 65 ∧ wd [65] = 1 ∧ okr [65] = true := by decide
theorem qtsA : qts [195, 169, 9] = [34, 92, 117, 123, 101, 57, 125, 92, 117, 123, 57, 125, 34] := by
  unfold qts
  rw [qt_cons (by simp), rnA.2.1]
  show 34 :: (piece _ ++ qt [9]) ++ [34] = _
  rw [qt_cons (by simp), rnB.2.1]
  show 34 :: (piece _ ++ (piece _ ++ [])) ++ [34] = _
  unfold piece
  rw [rnA.2.2, rnA.1, rnB.2.2, rnB.1, hexSe9, hexS9]
  decide
theorem qtsC : qts [65] = [34, 65, 34] := by
  unfold qts
  rw [qt_cons (by simp), rnC.2.1]
  show 34 :: (piece _ ++ []) ++ [34] = _
  unfold piece
  rw [rnC.2.2, rnC.1]
  decide
theorem unq_hit {inner out a bb x rest : List UInt8} (h0 : inner ≠ []) (hc : strings_Cut inner (str [92]) = some (str a, str bb, true)) (g1 : name_escape bb = some (str x, str rest, true)) (hl : out.length + a.length + x.length ≤ 9223372036854775807) : name_Unquote_l1 (inner, out) = some (.inl (str rest, str (out ++ a ++ x))) := by
  have hlen : (out ++ a).length = out.length + a.length := List.length_append
  show (if (!eqS inner (str [])) = true then _ else _) = _
  rw [eqS_dec inner, decide_eq_false h0, Bool.not_false, if_pos rfl]
  refine (bds hc).trans ((bds (catT_ok (a := out) (b := a) (by omega))).trans ((if_pos rfl).trans ((bds g1).trans ((if_neg (by simp)).trans (bds (catT_ok (a := out ++ a) (b := x) (by omega)))))))
theorem unq_end' (inner out : List UInt8) (h0 : inner = []) : name_Unquote_l1 (inner, out) = some (.inr (.inl out)) := by
  show (if (!eqS inner (str [])) = true then _ else _) = _
  rw [eqS_dec inner, decide_eq_true h0]; rfl
theorem unq_end (out : List UInt8) : name_Unquote_l1 (str [], out) = some (.inr (.inl out)) := unq_end' [] out rfl
theorem unqC : name_Unquote (str [34, 92, 117, 123, 52, 49, 125, 34]) = some (str [], false) := by
  unfold name_Unquote
  have e1 : strings_CutPrefix (str [34, 92, 117, 123, 52, 49, 125, 34]) (str [34]) = some (str [92, 117, 123, 52, 49, 125, 34], true) := by decide
  have e2 : strings_CutSuffix (str [92, 117, 123, 52, 49, 125, 34]) (str [34]) = some (str [92, 117, 123, 52, 49, 125], true) := by decide
  refine (bds e1).trans ((bds e2).trans ?_)
  show (loop name_Unquote_l1 (str [92, 117, 123, 52, 49, 125], str [])).bind (name_Unquote_a1 (str [34, 92, 117, 123, 52, 49, 125, 34])) = _
  have s1 : name_Unquote_l1 (str [92, 117, 123, 52, 49, 125], str []) = some (.inl (str [], str [65])) := by
    have c1 : strings_Cut (str [92, 117, 123, 52, 49, 125]) (str [92]) = some (str [], str [117, 123, 52, 49, 125], true) := Cut_hit (a := []) (b := [117, 123, 52, 49, 125]) (c := 92) (by simp) (by simp)
    have c2 : name_escape (str [117, 123, 52, 49, 125]) = some (str [65], str [], true) := by
      have h := esc3 (n := 65) (r := []) (by decide) (by decide)
      rw [hexS41, encR_low (by decide)] at h
      exact h
    exact unq_hit (inner := [92, 117, 123, 52, 49, 125]) (out := []) (a := []) (bb := [117, 123, 52, 49, 125]) (x := [65]) (rest := []) (by simp) c1 c2 (by decide)
  rw [loop_next s1, loop_done (r := .inl (str [65])) (unq_end [65])]
  have q : name_Quote (str [65]) = some (str [34, 65, 34]) := by
    have h := Quote_eq (s := [65]) (by decide)
    rw [qtsC] at h
    exact h
  exact (bds q).trans (if_pos (by decide))
theorem unqA : name_Unquote (str [34, 92, 117, 123, 101, 57, 125, 92, 117, 123, 57, 125, 34]) = some (str [195, 169, 9], true) := by
  have h := Unquote_qts (t := [195, 169, 9]) (by decide)
  rw [qtsA] at h
  exact h
theorem heads_true : heads = some true := by
  unfold heads
  have h1 : name_Split (str [47, 97, 47, 47, 46, 47, 98, 47]) = some ([str [97], str [98]], true, 0) := by rw [← splA]; exact Split_eq _
  have h2 : name_Split (str [97]) = some ([], false, 206) := by rw [← splB]; exact Split_eq _
  have h3 : ref_Texts [str [97], str [98]] [str [97], str [98]] = some true := Texts_refl (by decide)
  have h4 : name_Join [str [97], str [98]] = some (str [47, 97, 47, 98]) := by
    have c1 : strings_Join [str [97], str [98]] (str [47]) = some (str [97, 47, 98]) := by decide
    have c2 : catT (str [47]) (str [97, 47, 98]) = some (str [47, 97, 47, 98]) := catT_ok (a := [47]) (b := [97, 47, 98]) (by decide)
    exact (if_neg (by decide)).trans ((bds c1).trans (bds c2))
  have h5 : name_Count (str [195, 169, 120]) = some 2 := (Count_eq (s := [195, 169, 120]) (by decide)).trans (by decide)
  have h6 : name_Order (str [97]) (str [98]) = some (-1) := (Order_eq [97] [98]).trans (by decide)
  have h7 : name_Check (str [46, 46]) = some 206 := (Check_eq [46, 46]).trans (by decide)
  have h8 : name_Check (str [120]) = some 0 := (Check_eq [120]).trans (by decide)
  refine (bds h1).trans ((bds h2).trans ((bds unqA).trans ((bds unqC).trans ((bds h3).trans ?_))))
  refine (bds (x := true) rfl).trans ((bds (x := true) rfl).trans ((bds (x := true) rfl).trans ((bds (x := true) (by decide)).trans ((bds (x := true) rfl).trans ((bds (x := true) rfl).trans ?_)))))
  refine (bds (x := true) ((if_pos rfl).trans ((bds h4).trans (by decide)))).trans ?_
  refine (bds (x := true) ((if_pos rfl).trans ((bds h5).trans (by decide)))).trans ?_
  refine (bds (x := true) ((if_pos rfl).trans ((bds h6).trans (by decide)))).trans ?_
  refine (bds (x := true) ((if_pos rfl).trans ((bds h7).trans (by decide)))).trans ?_
  refine (bds (x := true) ((if_pos rfl).trans ((bds h8).trans (by decide)))).trans ?_
  rfl
end Go.Ai.Rab
end
section
/- Names, plainly: the laws. -/
set_option linter.unusedVariables false
set_option linter.unusedSimpArgs false
open Go.Ai.Enc (enc is)
namespace Go.Ai.Rab
theorem hd_b : ((heads).bind fun r_ => some r_) = some true := bds heads_true
/-- Splitting keeps no more texts than the text has letters, and one. -/
theorem splL_len : ∀ (l out : List Str) (d : Bool), (splL l out d).1.length ≤ out.length + l.length
  | [], out, d => Nat.le_refl _
  | p :: ps, out, d => by
    rw [splL_cons]
    split
    · have := splL_len ps out true
      simp only [List.length_cons]; omega
    · split
      · exact Nat.zero_le _
      · have := splL_len ps (out ++ [p]) false
        simp only [List.length_append, List.length_cons, List.length_nil] at this ⊢; omega
theorem spl_len (s : List UInt8) : (spl s).1.length ≤ s.length + 1 := by
  unfold spl
  split
  · exact Nat.zero_le _
  · split
    · exact Nat.zero_le _
    · split
      · exact Nat.zero_le _
      · have h1 := splL_len (pcs (s.drop 1)) [] false
        have h2 := pcs_len (s.drop 1)
        rw [List.length_drop] at h2
        simp only [List.length_nil] at h1
        omega
theorem Checks_eq {s : List UInt8} (h : s.length ≤ 9223372036854775800) : law_Checks s = some true := by
  unfold law_Checks
  have hl := spl_len s
  refine (bds (Split_eq s)).trans ((bds (rSplit_eq s)).trans ((bds (Check_eq s)).trans ((bds (rCheck_eq s)).trans ?_)))
  refine (bds (x := true) ((if_pos (beq_self_eq_true _)).trans ((bds (Texts_refl (by omega))).trans rfl))).trans ?_
  refine (bds (x := true) ((if_pos rfl).trans (congrArg some (beq_self_eq_true _)))).trans ?_
  refine (bds (x := true) ((if_pos rfl).trans (congrArg some (beq_self_eq_true _)))).trans ?_
  have hc : ((name_Count s).bind fun r_5 => ((ref_Count s).bind fun r_6 => some (r_5 == r_6))) = some true := by
    rw [Count_eq (s := s) (by omega), rCount_eq (s := s) (by omega)]
    exact congrArg some (beq_self_eq_true ((cntF (List.length s) s : Nat) : Int))
  refine (bds (x := true) ((if_pos rfl).trans hc)).trans ?_
  exact bds (x := true) ((if_pos rfl).trans hd_b)
theorem Orders_eq {a b : List UInt8} (ha : a.length ≤ 9223372036854775807) (hb : b.length ≤ 9223372036854775807) : law_Orders a b = some true := by
  unfold law_Orders
  refine (bds (Order_eq a b)).trans ((bds (rOrder_eq a b ha hb)).trans ?_)
  exact bds (x := true) ((if_pos (beq_self_eq_true _)).trans hd_b)
theorem Total_eq (a b c : List UInt8) : law_Total a b c = some true := by
  unfold law_Total
  refine (bds (Order_eq a b)).trans ((bds (Order_eq b c)).trans ((bds (Order_eq a c)).trans ((bds (Order_eq b a)).trans ?_)))
  have h1 := ordS_anti a b
  have h2 := ordS_range a b
  have h3 := ordS_trans a b c
  have h4 : eqS a b = (ordS a b == 0) := by
    rw [eqS_dec, Bool.eq_iff_iff, decide_eq_true_iff, beq_iff_eq]
    exact (ordS_zero a b).symm
  have w : IntKind.i64.wrap (0 - ordS b a) = ordS a b := by
    rw [h1, i64w (by omega)]
    omega
  refine (bds (x := false) ?_).trans ?_
  · rw [w, h4]
    simp
  · refine (if_neg Bool.false_ne_true).trans ?_
    by_cases hab : ordS a b ≤ 0
    · refine (bds (x := decide (ordS b c ≤ 0)) (if_pos (decide_eq_true hab))).trans ?_
      by_cases hbc : ordS b c ≤ 0
      · refine (bds (x := false) ?_).trans ?_
        · refine (if_pos (decide_eq_true hbc)).trans (congrArg some (decide_eq_false ?_))
          have := h3 hab hbc
          omega
        · exact (if_neg Bool.false_ne_true).trans hd_b
      · refine (bds (x := false) ?_).trans ?_
        · exact if_neg (by rw [decide_eq_false hbc]; exact Bool.false_ne_true)
        · exact (if_neg Bool.false_ne_true).trans hd_b
    · refine (bds (x := false) (if_neg (by rw [decide_eq_false hab]; exact Bool.false_ne_true))).trans ?_
      refine (bds (x := false) (if_neg Bool.false_ne_true)).trans ?_
      exact (if_neg Bool.false_ne_true).trans hd_b
theorem Once_eq {s : List UInt8} (h : s.length ≤ 1048576) : law_Once s = some true := by
  unfold law_Once
  obtain ⟨t, ok, hu, hq⟩ := Unquote_some s h
  refine (bds hu).trans ?_
  rcases hq with ⟨rfl, hq, hl⟩ | ⟨rfl, rfl⟩
  · refine (if_neg (by simp)).trans ((bds (Quote_eq hl)).trans ?_)
    refine bds (x := true) ((if_pos ?_).trans hd_b)
    rw [hq]
    exact eqS_refl s
  · refine (if_pos rfl).trans ?_
    exact bds (x := true) ((if_pos (eqS_refl [])).trans hd_b)
theorem Quotes_eq {s : List UInt8} (h : s.length ≤ 1048576) : law_Quotes s = some true := by
  unfold law_Quotes
  obtain ⟨t, ok, hu, hq⟩ := Unquote_some s h
  obtain ⟨t', ok', hu', hq'⟩ := rUnquote_some s h
  have same : t = t' ∧ ok = ok' := by
    rcases hq with ⟨rfl, e1, l1⟩ | ⟨rfl, rfl⟩
    · have r := rUnquote_qts l1
      rw [e1] at r
      have := Option.some.inj (r.symm.trans hu')
      exact ⟨congrArg Prod.fst this, congrArg Prod.snd this⟩
    · rcases hq' with ⟨rfl, e1, l1⟩ | ⟨rfl, rfl⟩
      · have r := Unquote_qts l1
        rw [e1] at r
        have := Option.some.inj (r.symm.trans hu)
        exact ⟨(congrArg Prod.fst this).symm, (congrArg Prod.snd this).symm⟩
      · exact ⟨rfl, rfl⟩
  obtain ⟨rfl, rfl⟩ := same
  refine (bds hu).trans ((bds hu').trans ((bds (Quote_eq (by omega))).trans ((bds (rQuote_eq (by omega))).trans ?_)))
  refine (bds (x := true) ((if_pos (eqS_refl (qts s))).trans (congrArg some (eqS_refl t)))).trans ?_
  refine (bds (x := true) ((if_pos rfl).trans (congrArg some (beq_self_eq_true _)))).trans ?_
  exact bds (x := true) ((if_pos rfl).trans hd_b)
/-! ### Quoted letters -/
def inR (c : UInt8) : Prop := 32 ≤ c.toNat ∧ c.toNat ≤ 126
theorem hexd_inR : ∀ d : Fin 16, 32 ≤ (hexd d.val).toNat ∧ (hexd d.val).toNat ≤ 126 := by decide
theorem hexd_r {d : Nat} (h : d < 16) : inR (hexd d) := hexd_inR ⟨d, h⟩
theorem hexS_r : ∀ (f n : Nat), n ≤ f → ∀ c ∈ hexS n, inR c
  | f, n, hn => by
    by_cases h : n < 16
    · rw [hexS_lt h]
      intro c hc
      rw [List.mem_singleton.1 hc]
      exact hexd_r h
    · rw [hexS_ge h]
      intro c hc
      rcases List.mem_append.1 hc with hc | hc
      · match f, hn with
        | 0, hn => omega
        | f + 1, hn => exact hexS_r f (n / 16) (by omega) c hc
      · rw [List.mem_singleton.1 hc]
        exact hexd_r (Nat.mod_lt _ (by decide))
theorem low_r {n : Nat} (h : 32 ≤ n ∧ n ≤ 126) : inR (UInt8.ofNat n) := by
  have : (UInt8.ofNat n).toNat = n := by simp; omega
  unfold inR
  rw [this]
  exact h
theorem piece_r (l : List UInt8) : ∀ c ∈ piece l, inR c := by
  have e : ∀ n : Nat, 32 ≤ n → n ≤ 126 → ∀ c : UInt8, c = UInt8.ofNat n → inR c := fun n h1 h2 c hc => by rw [hc]; exact low_r ⟨h1, h2⟩
  intro c hc
  unfold piece at hc
  split at hc
  · simp only [List.mem_cons, List.not_mem_nil, or_false] at hc
    have hb : (l.getD 0 0).toNat < 256 := UInt8.toNat_lt _
    rcases hc with h | h | h | h
    · rw [h]; exact low_r (n := 92) (by decide)
    · rw [h]; exact low_r (n := 120) (by decide)
    · rw [h]; exact hexd_r (by omega)
    · rw [h]; exact hexd_r (by omega)
  · split at hc
    · rename_i h1
      simp only [List.mem_cons, List.not_mem_nil, or_false] at hc
      rcases hc with h | h
      · rw [h]; exact low_r (n := 92) (by decide)
      · rw [h]; exact low_r (by omega)
    · split at hc
      · rename_i h1
        rw [List.mem_singleton.1 hc]
        exact low_r h1
      · rcases List.mem_append.1 hc with hc | hc
        · rcases List.mem_append.1 hc with hc | hc
          · simp only [List.mem_cons, List.not_mem_nil, or_false] at hc
            rcases hc with h | h | h
            · rw [h]; exact low_r (n := 92) (by decide)
            · rw [h]; exact low_r (n := 117) (by decide)
            · rw [h]; exact low_r (n := 123) (by decide)
          · exact hexS_r _ _ (Nat.le_refl _) c hc
        · rw [List.mem_singleton.1 hc]
          exact low_r (n := 125) (by decide)
theorem qtF_r : ∀ (f : Nat) (l : List UInt8), ∀ c ∈ qtF f l, inR c
  | 0, l, c, hc => by cases hc
  | f + 1, l, c, hc => by
    rw [qtF_succ] at hc
    split at hc
    · cases hc
    · rcases List.mem_append.1 hc with hc | hc
      · exact piece_r l c hc
      · exact qtF_r f _ c hc
theorem qts_r (s : List UInt8) : ∀ c ∈ qts s, inR c := by
  intro c hc
  unfold qts at hc
  rcases List.mem_append.1 hc with hc | hc
  · rcases List.mem_cons.1 hc with hc | hc
    · rw [hc]; exact low_r (n := 34) (by decide)
    · exact qtF_r _ _ c hc
  · rw [List.mem_singleton.1 hc]
    exact low_r (n := 34) (by decide)
theorem backl {r : List UInt8} (hl : r.length ≤ 9223372036854775800) (hr : ∀ c ∈ r, inR c) : ∃ o, loop (law_Back_l1 r) 0 = some o ∧ o = .inl () := by
  refine loop_inv (fun i : Int => 0 ≤ i) _ (fun i : Int => ((r.length : Int) - i).toNat) (fun i hI => ?_) _ (0 : Int) (Nat.le_refl _) (by decide)
  by_cases hi : i < ((List.length r : Nat) : Int)
  · obtain ⟨n, rfl⟩ : ∃ n : Nat, i = n := ⟨i.toNat, by omega⟩
    have hn : n < r.length := by omega
    have hc := nth_at (l := r) hn
    have hm : inR (r.getD n 0) := hr _ (by rw [List.getD_eq_getElem?_getD, List.getElem?_eq_getElem hn]; exact List.getElem_mem hn)
    have e0 : law_Back_l1 r (n : Int) = _ := if_pos (decide_eq_true hi)
    have e0 := e0.trans (bds hc)
    have e0 := e0.trans (bds (x := false) ((if_neg (by rw [decide_eq_false (by unfold inR at hm; omega)]; exact Bool.false_ne_true)).trans ((bds hc).trans (congrArg some (decide_eq_false (by unfold inR at hm; omega))))))
    have e0 := e0.trans (if_neg Bool.false_ne_true)
    rw [i64w (n := (n : Int) + 1) (by omega)] at e0
    refine .inl ⟨_, e0, ?_, ?_⟩
    · show (0 : Int) ≤ n + 1; omega
    · show ((r.length : Int) - (n + 1)).toNat < ((r.length : Int) - n).toNat; omega
  · have e0 : law_Back_l1 r i = _ := if_neg (by rw [decide_eq_false hi]; exact Bool.false_ne_true)
    exact .inr ⟨_, e0, rfl⟩
theorem Back_eq {s : List UInt8} (h : s.length ≤ 8000000) : law_Back s = some true := by
  unfold law_Back
  refine (bds (Quote_eq h)).trans ?_
  have hql := qt_len s.length s (Nat.le_refl _)
  have hl : (qts s).length ≤ 9223372036854775800 := by
    unfold qts; simp; omega
  obtain ⟨o, ho, rfl⟩ := backl (r := qts s) hl (qts_r s)
  refine (bds ho).trans ?_
  refine (bds (Unquote_qts h)).trans ?_
  refine (bds (x := true) ((if_pos rfl).trans (congrArg some (eqS_refl s)))).trans ?_
  exact bds (x := true) ((if_pos rfl).trans hd_b)
end Go.Ai.Rab
end
section
/- Names, plainly: the laws of long names and of joins. -/
set_option linter.unusedVariables false
set_option linter.unusedSimpArgs false
open Go.Ai.Enc (enc is)
namespace Go.Ai.Rab
/-! ### Long names -/
def unitL (two : Bool) : List UInt8 := if two then [195, 169] else [120]
def repL (two : Bool) : Nat → List UInt8
  | 0 => []
  | k + 1 => unitL two ++ repL two k
theorem repL_snoc (two : Bool) : ∀ k, repL two k ++ unitL two = repL two (k + 1)
  | 0 => by simp [repL]
  | k + 1 => by
    show unitL two ++ repL two k ++ unitL two = unitL two ++ repL two (k + 1)
    rw [List.append_assoc, repL_snoc two k]
theorem repL_len (two : Bool) : ∀ k, (repL two k).length = (if two then 2 else 1) * k
  | 0 => by simp [repL]
  | k + 1 => by
    show (unitL two ++ repL two k).length = _
    rw [List.length_append, repL_len two k]
    cases two <;> simp [unitL] <;> omega
theorem two_at (l : List UInt8) : rn (195 :: 169 :: l) = 233 ∧ wd (195 :: 169 :: l) = 2 := by
  unfold rn wd
  rw [Go.Lib.decodeL_N]
  show (Go.Lib.decodeN (l.length + 2) 195 169 _ _).1 = 233 ∧ (Go.Lib.decodeN (l.length + 2) 195 169 _ _).2 = 2
  unfold Go.Lib.decodeN
  rw [if_neg (by decide), if_pos ⟨by decide, by omega, by decide⟩, if_pos (by decide)]
  exact ⟨rfl, rfl⟩
theorem rep_at (two : Bool) (k : Nat) : ∃ r : Nat, rn (repL two (k + 1)) = r ∧ r ≠ 47 ∧ r ≠ 0 ∧ r ≠ 65533 ∧ (repL two (k + 1)).drop (wd (repL two (k + 1))) = repL two k ∧ repL two (k + 1) ≠ [] := by
  cases two with
  | true =>
    have h := two_at (repL true k)
    refine ⟨233, h.1, by decide, by decide, by decide, ?_, by simp [repL, unitL]⟩
    show (195 :: 169 :: repL true k).drop (wd (195 :: 169 :: repL true k)) = _
    rw [h.2]
    rfl
  | false =>
    have h := rn_ascii (l := 120 :: repL false k) (show (120 : UInt8).toNat < 128 by decide)
    refine ⟨120, h.1, by decide, by decide, by decide, ?_, by simp [repL, unitL]⟩
    show (120 :: repL false k).drop (wd (120 :: repL false k)) = _
    rw [h.2]
    rfl
theorem rep_good (two : Bool) : ∀ (f k : Nat), goodF f (repL two k) = true
  | 0, k => rfl
  | f + 1, 0 => rfl
  | f + 1, k + 1 => by
    obtain ⟨r, h1, h2, h3, h4, h5, h6⟩ := rep_at two k
    show (if repL two (k + 1) = [] then true else _) = true
    rw [if_neg h6, h1, h5, rep_good two f k, okr_of_ne (by rw [h1]; exact h4)]
    simp [h2, h3]
theorem rep_cnt (two : Bool) : ∀ (f k : Nat), k ≤ f → cntF f (repL two k) = k
  | 0, k, h => by
    have : k = 0 := by omega
    subst this; rfl
  | f + 1, 0, _ => rfl
  | f + 1, k + 1, h => by
    obtain ⟨r, h1, h2, h3, h4, h5, h6⟩ := rep_at two k
    rw [cntF_succ, if_neg h6, h5, rep_cnt two f k (by omega)]
theorem long_step {n : Int} {two : Bool} {s : List UInt8} {i : Int} (hi : i < n) (h : 0 ≤ i ∧ i ≤ 1000) (hs : s.length ≤ 10000) : law_Long_l1 n two (s, i) = some (.inl (str (s ++ unitL two), i + 1)) := by
  have e0 : law_Long_l1 n two (s, i) = _ := if_pos (decide_eq_true hi)
  have w : IntKind.i64.wrap (i + 1) = i + 1 := i64w (by omega)
  cases two with
  | true =>
    refine e0.trans ((if_pos rfl).trans ((bds (catT_ok (a := s) (b := [195, 169]) (by simp; omega))).trans ?_))
    show some (Sum.inl (_, IntKind.i64.wrap (i + 1))) = _
    rw [w]; rfl
  | false =>
    refine e0.trans ((if_neg Bool.false_ne_true).trans ((bds (catT_ok (a := s) (b := [120]) (by simp; omega))).trans ?_))
    show some (Sum.inl (_, IntKind.i64.wrap (i + 1))) = _
    rw [w]; rfl
theorem long_loop {n : Nat} {two : Bool} (hn : n ≤ 300) : ∀ (f k : Nat), k + f = n → loop (law_Long_l1 n two) (repL two k, (k : Int)) = some (repL two n)
  | 0, k, h => by
    have : k = n := by omega
    subst this
    have e0 : law_Long_l1 (k : Int) two (repL two k, (k : Int)) = _ := if_neg (by rw [decide_eq_false (by omega)]; exact Bool.false_ne_true)
    exact loop_done e0
  | f + 1, k, h => by
    have hl : (repL two k).length ≤ 10000 := by
      rw [repL_len]
      split <;> omega
    have e0 := long_step (n := (n : Int)) (two := two) (s := repL two k) (i := (k : Int)) (by omega) (by omega) hl
    rw [repL_snoc] at e0
    rw [loop_next e0]
    exact long_loop hn f (k + 1) (by omega)
theorem Long_eq (n : Int) (two : Bool) : law_Long n two = some true := by
  unfold law_Long
  by_cases h1 : n < 1
  · exact (bds (x := true) (if_pos (decide_eq_true h1))).trans ((if_pos rfl).trans hd_b)
  by_cases h2 : n > 300
  · exact (bds (x := true) ((if_neg (by rw [decide_eq_false h1]; exact Bool.false_ne_true)).trans (congrArg some (decide_eq_true h2)))).trans ((if_pos rfl).trans hd_b)
  refine (bds (x := false) ((if_neg (by rw [decide_eq_false h1]; exact Bool.false_ne_true)).trans (congrArg some (decide_eq_false h2)))).trans ((if_neg Bool.false_ne_true).trans ?_)
  obtain ⟨k, rfl⟩ : ∃ k : Nat, n = k := ⟨n.toNat, by omega⟩
  have hk : k ≤ 300 := by omega
  obtain ⟨k, rfl⟩ : ∃ j : Nat, k = j + 1 := ⟨k - 1, by omega⟩
  have hlen : (repL two (k + 1)).length = (if two then 2 else 1) * (k + 1) := repL_len two (k + 1)
  have hL : loop (law_Long_l1 ((k + 1 : Nat) : Int) two) (str [], 0) = some (repL two (k + 1)) := long_loop (n := k + 1) (two := two) hk (k + 1) 0 (by omega)
  refine (bds hL).trans ?_
  refine (bds (Check_eq (repL two (k + 1)))).trans ?_
  obtain ⟨r, _, _, _, _, _, hne⟩ := rep_at two k
  have hkl : k + 1 ≤ (repL two (k + 1)).length := by
    rw [hlen]; split <;> omega
  have hh : (repL two (k + 1)).head? = some (if two then 195 else 120) := by cases two <;> rfl
  have n1 : repL two (k + 1) ≠ [46] := fun e => by
    rw [e] at hh
    cases two <;> cases hh
  have n2 : repL two (k + 1) ≠ [46, 46] := fun e => by
    rw [e] at hh
    cases two <;> cases hh
  generalize hx : repL two (k + 1) = x at *
  by_cases hb : x.length > 100
  · have hc : chkS x = 208 := by
      unfold chkS
      rw [if_neg hne, if_pos hb]
    have hd : ((List.length (show List UInt8 from x) : Nat) : Int) > 100 := by
      show ((x.length : Nat) : Int) > 100
      omega
    refine (if_pos (decide_eq_true hd)).trans ?_
    exact bds (x := true) ((if_pos (by rw [hc]; rfl)).trans hd_b)
  · have hc : chkS x = 0 := by
      unfold chkS
      have hg : goodF x.length x = true := by rw [← hx]; exact rep_good two _ _
      rw [if_neg hne, if_neg hb, if_neg (by rintro (e | e); exact n1 e; exact n2 e), if_pos hg]
    have hd : ¬ ((List.length (show List UInt8 from x) : Nat) : Int) > 100 := by
      show ¬ ((x.length : Nat) : Int) > 100
      omega
    refine (if_neg (by rw [decide_eq_false hd]; exact Bool.false_ne_true)).trans ?_
    have hn : name_Count x = some ((k + 1 : Nat) : Int) := by
      rw [Count_eq (s := x) (by omega)]
      have := rep_cnt two x.length (k + 1) hkl
      rw [hx] at this
      rw [this]
    refine (bds (x := true) ((if_pos (by rw [hc]; rfl)).trans ((bds hn).trans (congrArg some (beq_self_eq_true _))))).trans ?_
    exact bds (x := true) ((if_pos rfl).trans hd_b)
/-! ### Joins -/
def tot (l : List (List UInt8)) : Nat := (l.map fun p => p.length + 1).sum
theorem tot_take {l : List (List UInt8)} {k : Nat} {y : List UInt8} (h : l[k]? = some y) : tot (l.take (k + 1)) = tot (l.take k) + y.length + 1 := by
  unfold tot
  rw [List.take_add_one, h]
  simp
  omega
theorem tot_len (l : List (List UInt8)) : l.length ≤ tot l := by
  unfold tot
  induction l with
  | nil => exact Nat.le_refl _
  | cons x l ih => simp only [List.length_cons, List.map_cons, List.sum_cons]; omega
theorem tot_join : ∀ (x : List UInt8) (l : List (List UInt8)), (Go.Lib.join (x :: l) [47]).length + 1 = tot (x :: l)
  | x, [] => by rw [Go.Lib.join_one]; simp [tot]
  | x, y :: l => by
    have e : Go.Lib.join (x :: y :: l) [47] = x ++ 47 :: Go.Lib.join (y :: l) [47] := by
      show List.intercalate [47] _ = _
      rw [List.intercalate_cons_cons]
      simp [Go.Lib.join]
    have ih := tot_join y l
    rw [e]
    have : tot (x :: y :: l) = x.length + 1 + tot (y :: l) := by simp [tot]
    rw [this, List.length_append, List.length_cons]
    omega
theorem joinl {l : List (List UInt8)} (hl : l.length ≤ 9223372036854775807) : ∃ r, loop (law_Joins_l1 (strs l)) (0, 0) = some r ∧ match r with | .inl n => n > 1000 ∨ ((n : Int) = (tot l : Nat) ∧ ∀ p ∈ l, chkS p = 0) | .inr v => v = true := by
  refine loop_inv (fun a : Int × Int => 0 ≤ a.2 ∧ a.2 ≤ (l.length : Int) ∧ a.1 = (tot (l.take a.2.toNat) : Nat) ∧ a.1 ≤ 1101 ∧ ∀ p ∈ l.take a.2.toNat, chkS p = 0) _ (fun a : Int × Int => ((l.length : Int) - a.2).toNat) (fun a hI => ?_) _ ((0 : Int), (0 : Int)) (Nat.le_refl _) ⟨by decide, by show (0 : Int) ≤ _; omega, by simp [tot], by decide, by intro p hp; simp at hp⟩
  obtain ⟨n, i⟩ := a
  have hI : 0 ≤ i ∧ i ≤ (l.length : Int) ∧ n = (tot (l.take i.toNat) : Nat) ∧ n ≤ 1101 ∧ ∀ p ∈ l.take i.toNat, chkS p = 0 := hI
  obtain ⟨i, rfl⟩ : ∃ k : Nat, i = k := ⟨i.toNat, by omega⟩
  rw [Int.toNat_natCast] at hI
  obtain ⟨h1, h2, h3, h4, h5⟩ := hI
  have hll : ((strs l).length : Int) = (l.length : Int) := rfl
  by_cases hi : (i : Int) < ((strs l).length : Int)
  · have hil : i < l.length := by rw [hll] at hi; omega
    by_cases hn : n ≤ 1000
    · have e0 : law_Joins_l1 (strs l) (n, (i : Int)) = _ := bds (x := true) ((if_pos (decide_eq_true hi)).trans (congrArg some (decide_eq_true hn)))
      have hnth : nth (strs l) (i : Int) = some (str (l[i]'hil)) := by
        unfold nth
        rw [if_pos (by omega), Int.toNat_natCast]
        show l[i]? = some _
        rw [List.getElem?_eq_getElem hil]
      have e0 := e0.trans ((if_pos rfl).trans ((bds hnth).trans (bds (Check_eq (l[i]'hil)))))
      have hgt : l[i]? = some (l[i]'hil) := List.getElem?_eq_getElem hil
      generalize hp : l[i]'hil = p at *
      by_cases hc : chkS p = 0
      · have e0 := e0.trans ((if_neg (by rw [hc]; decide)).trans (bds hnth))
        have hpl := (chk_ok hc).2.2.1
        have w : IntKind.i64.wrap (IntKind.i64.wrap (n + 1) + ((List.length (show List UInt8 from str p) : Nat) : Int)) = n + 1 + (p.length : Nat) := by
          show IntKind.i64.wrap (IntKind.i64.wrap (n + 1) + ((p.length : Nat) : Int)) = _
          have : 0 ≤ n := by rw [h3]; omega
          rw [i64w (n := n + 1) (by omega)]
          exact i64w (by omega)
        have w2 : IntKind.i64.wrap ((i : Int) + 1) = ((i + 1 : Nat) : Int) := by
          rw [i64w (by omega)]
          omega
        have e0 : law_Joins_l1 (strs l) (n, (i : Int)) = some (.inl (_, _)) := e0
        rw [w, w2] at e0
        have ht := tot_take hgt
        refine .inl ⟨_, e0, ⟨?_, ?_, ?_, ?_, ?_⟩, ?_⟩
        · show (0 : Int) ≤ ((i + 1 : Nat) : Int); omega
        · show ((i + 1 : Nat) : Int) ≤ _; omega
        · show n + 1 + (p.length : Nat) = (tot (l.take (i + 1)) : Nat)
          rw [ht]
          omega
        · show n + 1 + (p.length : Nat) ≤ 1101; omega
        · show ∀ q ∈ l.take (i + 1), chkS q = 0
          intro q hq
          rw [List.take_add_one, hgt] at hq
          rcases List.mem_append.1 hq with hq | hq
          · exact h5 q hq
          · simp at hq
            rw [hq]; exact hc
        · show ((l.length : Int) - ((i + 1 : Nat) : Int)).toNat < ((l.length : Int) - (i : Int)).toNat
          omega
      · have e0 := e0.trans ((if_pos (bne_iff_ne.2 hc)).trans (bds heads_true))
        exact .inr ⟨_, e0, rfl⟩
    · have e0 : law_Joins_l1 (strs l) (n, (i : Int)) = _ := bds (x := false) ((if_pos (decide_eq_true hi)).trans (congrArg some (decide_eq_false hn)))
      exact .inr ⟨_, e0.trans (if_neg Bool.false_ne_true), .inl (by omega)⟩
  · have e0 : law_Joins_l1 (strs l) (n, (i : Int)) = _ := bds (x := false) (if_neg (by rw [decide_eq_false hi]; exact Bool.false_ne_true))
    refine .inr ⟨_, e0.trans (if_neg Bool.false_ne_true), .inr ?_⟩
    have : i = l.length := by rw [hll] at hi; omega
    subst this
    rw [List.take_length] at h3 h5
    exact ⟨h3, h5⟩
theorem Joins_eq {l : List (List UInt8)} (hl : l.length ≤ 9223372036854775807) : law_Joins (strs l) = some true := by
  unfold law_Joins
  obtain ⟨r, hr, hQ⟩ := joinl hl
  refine (bds hr).trans ?_
  rcases r with n | v
  · by_cases hn : n > 1000
    · exact (if_pos (decide_eq_true hn)).trans hd_b
    · rcases hQ with h | ⟨h1, h2⟩
      · exact absurd h hn
      · refine (if_neg (by rw [decide_eq_false hn]; exact Bool.false_ne_true)).trans ?_
        cases l with
        | nil =>
          have e1 : name_Join (strs []) = some (str [47]) := rfl
          have e2 : name_Split (str [47]) = some ([], true, 0) := (Split_eq [47]).trans (by decide)
          refine (bds e1).trans ((bds e2).trans ((bds (Texts_refl (l := []) (by decide))).trans ?_))
          refine (bds (x := true) rfl).trans ((bds (x := true) rfl).trans ?_)
          exact bds (x := true) ((if_pos rfl).trans hd_b)
        | cons x l =>
          have hj := tot_join x l
          have hll := tot_len (x :: l)
          have hp : ∀ p ∈ (x :: l), 47 ∉ p := fun p hp => (chk_ok (h2 p hp)).2.2.2
          have c1 : strings_Join (strs (x :: l)) (str [47]) = some (str (Go.Lib.join (x :: l) [47])) := if_pos ⟨List.cons_ne_nil _ _, by show List.length (x :: l) ≤ _; omega, by show List.length (Go.Lib.join (x :: l) [47]) ≤ _; omega⟩
          have pj := pcs_join x l hp
          generalize hjj : Go.Lib.join (x :: l) [47] = j at *
          have c2 : catT (str [47]) (str j) = some (str (47 :: j)) := catT_ok (a := [47]) (b := j) (by simp; omega)
          have hne : ¬ (((strs (x :: l)).length : Int) == 0) = true := by
            rw [beq_iff_eq]
            show ¬ ((List.length (x :: l) : Nat) : Int) = 0
            simp only [List.length_cons]; omega
          have e1 : name_Join (strs (x :: l)) = some (str (47 :: j)) := (if_neg hne).trans ((bds c1).trans (bds c2))
          have sp : spl (47 :: j) = (strs (x :: l), false, 0) := by
            unfold spl
            rw [if_neg (List.cons_ne_nil _ _), if_neg (by simp; omega), if_neg (by simp)]
            show splL (pcs j) [] false = _
            rw [pj, splL_all (strs (x :: l)) [] false h2]
            rfl
          have e2 : name_Split (str (47 :: j)) = some (strs (x :: l), false, 0) := (Split_eq (47 :: j)).trans (congrArg some sp)
          have e3 : ref_Texts (strs (x :: l)) (strs (x :: l)) = some true := Texts_refl (by show List.length (x :: l) ≤ _; omega)
          refine (bds e1).trans ((bds e2).trans ((bds e3).trans ?_))
          have hf : (((strs (x :: l)).length : Int) == 0) = false := Bool.eq_false_iff.2 hne
          refine (bds (x := true) ((if_pos rfl).trans (by rw [hf]; rfl))).trans ((bds (x := true) rfl).trans ?_)
          exact bds (x := true) ((if_pos rfl).trans hd_b)
  · have hQ : v = true := hQ
    subst hQ
    rfl
end Go.Ai.Rab
end
