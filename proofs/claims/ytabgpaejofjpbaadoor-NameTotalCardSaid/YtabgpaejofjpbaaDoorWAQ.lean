/- My own texts DevRn0, DevNp5, DevNp6, DevNp7, DevNp8, DevNp9, DevNpA, DevNpB, one behind the other. -/
import Derived.Test.YtabgpaejofjpbaaDoorCards
import Derived.Test.YtabgpaejofjpbaaDoorTie
import Derived.Test.YtabgpaejofjpbaaDoorWAI
import Derived.Test.YtabgpaejofjpbaaDoorWAD
import Derived.Test.YtabgpaejofjpbaaDoorWAP
import Derived.Lib.LaidU8T
import Derived.WalkKit
import Derived.ProofKit
import Derived.OpenShut
import Derived.Deep.DeepHandedRow
import Derived.Lay
import Derived.MakeChecks
import Derived.Lib.MapLaws
section
/- Rows of names: what the listed variables give. -/
set_option linter.unusedVariables false
namespace Go.Ai.Rab
open Go.Proofs Go.Lib Go.Proofs.YtabgpaejofjpbaaDoor
set_option maxRecDepth 100000
def laidN : List (String × DataW Unit) := [("math/bits.deBruijn32tab", Rows.laid_math_bits_deBruijn32tab), ("math/bits.deBruijn64tab", Rows.laid_math_bits_deBruijn64tab), ("internal/strconv.uint64pow10", Rows.laid_internal_strconv_uint64pow10), ("unicode/utf8.acceptRanges", Rows.laid_unicode_utf8_acceptRanges), ("unicode/utf8.first", Rows.laid_unicode_utf8_first)]
theorem first_data : (Rows.laid_unicode_utf8_first : DataW Unit) = firstData := by kernel_rfl
theorem accept_data : (Rows.laid_unicode_utf8_acceptRanges : DataW Unit) = acceptData := by kernel_rfl
def z64 : List Int := [0, 1, 56, 2, 57, 49, 28, 3, 61, 58, 42, 50, 38, 29, 17, 4, 62, 47, 59, 36, 45, 43, 51, 22, 53, 39, 33, 30, 24, 18, 12, 5, 63, 55, 48, 27, 60, 41, 37, 16, 46, 35, 44, 21, 52, 32, 23, 11, 54, 26, 40, 15, 34, 20, 31, 10, 25, 14, 19, 9, 13, 8, 7, 6]
theorem bruijn_data : (Rows.laid_math_bits_deBruijn64tab : DataW Unit) = tabData .u8 z64 := by kernel_rfl
theorem relL_row {w : World} {ρ : Pl} {U : Reg} {c : Nat} {k : IntKind} : ∀ l : List Int, RelL w ρ U c (l.map (.int k)) (l.map (.int k))
  | [] => relL_nil
  | n :: l => relL_cons rel_int (relL_row l)
theorem globRow {W : World} {g : Nat} {k : IntKind} {cs : List AV} {l : List Int} (hc : cs = l.map (.int k)) (hp : pureL cs = true) (h : ∀ j, j < l.length → W.cell? ⟨g, j, none⟩ = some (.int k (l.getD j 0))) :
    pureL cs = true ∧ ∃ vs : List Value, RelL W ρ0 noReg 0 cs vs ∧ ∀ j u, vs[j]? = some u → W.cell? ⟨g, j, none⟩ = some u ∧ ¬ noReg g j := by
  subst hc
  refine ⟨hp, l.map (.int k), relL_row l, fun j u hj => ⟨?_, fun h => h.elim⟩⟩
  rw [List.getElem?_map, Option.map_eq_some_iff] at hj
  obtain ⟨n, hn, rfl⟩ := hj
  rw [h j (List.getElem?_eq_some_iff.1 hn).1, List.getD_eq_getElem?_getD, hn]
  rfl
def l0 : List Int := (List.range 256).map fun c => (firstT c : Int)
def l1 : List Int := (List.range 32).map fun c => if c % 2 = 0 then (accLo (c / 2) : Int) else (accHi (c / 2) : Int)
theorem t0_eq : tab0 = l0.map (.int .u8) := by kernel_rfl
theorem t1_eq : tab1 = l1.map (.int .u8) := by kernel_rfl
theorem t5_eq : tab5 = z64.map (.int .u8) := by kernel_rfl
theorem globN {W : World} {mx : Int} (h0 : Utf8Tabs 0 1 W) (h2 : W.cell? ⟨2, 0, none⟩ = some (.int .i64 mx)) (h5 : ∀ j, j < z64.length → W.cell? ⟨5, j, none⟩ = some (.int .u8 (z64.getD j 0))) : GlobOk W ρ0 noReg 0 (NG mx) := by
  intro g cs hg
  unfold NG at hg
  split at hg
  · rename_i e; subst e
    obtain rfl := Option.some.inj hg
    refine globRow t0_eq (by kernel_rfl) fun j hj => ?_
    have hj : j < 256 := by simpa [l0] using hj
    rw [h0.1 j hj]
    simp [l0, hj]
  · split at hg
    · rename_i e; subst e
      obtain rfl := Option.some.inj hg
      refine globRow t1_eq (by kernel_rfl) fun j hj => ?_
      have hj : j < 32 := by simpa [l1] using hj
      obtain ⟨q1, q2⟩ := h0.2 (j / 2) (by omega)
      by_cases hm : j % 2 = 0
      · rw [show 2 * (j / 2) = j by omega] at q1
        rw [q1]
        simp [l1, hj, hm]
      · rw [show 2 * (j / 2) + 1 = j by omega] at q2
        rw [q2]
        simp [l1, hj, hm]
    · split at hg
      · rename_i e; subst e
        obtain rfl := Option.some.inj hg
        refine globRow (l := [mx]) (k := .i64) rfl rfl fun j hj => ?_
        have hj : j = 0 := by simpa using hj
        subst hj
        exact h2
      · split at hg
        · rename_i e; subst e
          obtain rfl := Option.some.inj hg
          exact globRow t5_eq (by kernel_rfl) h5
        · cases hg
theorem u8x : U8Extra Tryd.prog Tryd.lays196_ren where
  n3 := by kernel_rfl
  n4 := by kernel_rfl
  y3 := by kernel_rfl
  y4 := by kernel_rfl
  c5 := by kernel_rfl
  c119 := by kernel_rfl
  c138 := by kernel_rfl
/-- WHAT A ROW's LIST GIVES. -/
theorem globs {W : World} (hL : laidMetH Tryd.prog laidN W) (hs : W.ShapedOpen Tryd.prog) : ∃ mx, GlobOk W ρ0 noReg 0 (NG mx) := by
  rw [MakeChecks.laidMetH_plain _ _ _ (by kernel_rfl)] at hL
  have h3 : VarReads Tryd.prog W "unicode/utf8.first" firstData := first_data ▸ laidMet.reads hL (.tail _ (.tail _ (.tail _ (.tail _ (.head _)))))
  have h4 : VarReads Tryd.prog W "unicode/utf8.acceptRanges" acceptData := accept_data ▸ laidMet.reads hL (.tail _ (.tail _ (.tail _ (.head _))))
  have h5 : VarReads Tryd.prog W "math/bits.deBruijn64tab" (tabData .u8 z64) := bruijn_data ▸ laidMet.reads hL (.tail _ (.head _))
  obtain ⟨mx, hmx⟩ := cell_of_shapedOpen_int (P := Tryd.prog) (w := W) (g := 2) (t := 3) (zero := #[.int .i64 0]) (k := .i64) hs (of_decide_eq_true (by kernel_rfl)) (by kernel_rfl) (by kernel_rfl) (by kernel_rfl) (by kernel_rfl) (by kernel_rfl)
  refine ⟨mx, globN (utf8Tabs_of_readsT (U8Types.of196 Tryd.lays196) u8x h3 h4) hmx fun j hj => ?_⟩
  obtain ⟨g, t, cs, fuel, p, hg, hty, hvar, hd⟩ := h5
  obtain rfl := Option.some.inj ((show Tryd.prog.globalNamed "math/bits.deBruijn64tab" = some 5 by kernel_rfl).symm.trans hg)
  have hy : (Tryd.prog.globals[5]?).map (·.type) = some t := hty
  obtain ⟨t', ht', ha⟩ : ∃ t', (Tryd.prog.globals[5]?).map (·.type) = some t' ∧ Tryd.prog.underlying t' = some (.array 64 5) ∧ Tryd.prog.underlying 5 = some (.int .u8) ∧ Tryd.prog.cellsOf 5 = 1 ∧ Tryd.prog.cellsOf t' = 64 := ⟨_, rfl, by kernel_rfl, by kernel_rfl, by kernel_rfl, by kernel_rfl⟩
  obtain rfl := Option.some.inj (ht'.symm.trans hy)
  have hcs := cells_of_tab ha.1 ha.2.1 ha.2.2.1 ha.2.2.2 hd
  rw [World.var?_cell hg hvar j, ← Array.getElem?_toList, hcs, List.getElem?_map, List.getElem?_eq_getElem hj, List.getD_eq_getElem?_getD, List.getElem?_eq_getElem hj]
  rfl
/-! ### Rows of texts -/
theorem relC_texts {w : World} {ρ : Pl} {U : Reg} {c : Nat} : ∀ l : List ByteArray, RelC w ρ U c 0 (l.map fun s => .str s.data.toList) (l.map .string)
  | [] => by simp [RelC]
  | n :: l => by
    simp only [List.map_cons, RelC]
    exact ⟨.string n, l.map .string, by simp [Value.cells], ⟨by simp [AV.cells, esz], by simp [AV.cells, AV.one], fun _ => rfl, fun h => absurd rfl h⟩, by simp [Rel], relC_texts l⟩
theorem texts_given_nil {W : World} : ∃ l : List (List UInt8), l.length ≤ maxLen ∧ Rel W ρ0 noReg 0 (Enc.enc (strs l)) (.slice none 0 0) :=
  ⟨[], Nat.zero_le _, by show Rel _ _ _ _ (.emp false) _; simp only [Rel]; exact ⟨none, 0, rfl, fun _ => rfl, fun _ => rfl⟩⟩
theorem texts_given_cells {W : World} {x : Addr} {len cap : Nat} {ss : List ByteArray} (hl : len ≤ cap) (hm : cap ≤ maxLen) (hz : ss.length = cap) (hcell : ∀ i, i < ss.length → W.cell? (x.add i) = some (.string (ss.getD i ByteArray.empty))) :
    ∃ l : List (List UInt8), l.length ≤ maxLen ∧ Rel W ρ0 noReg 0 (Enc.enc (strs l)) (.slice (some x) len cap) := by
  refine ⟨(ss.take len).map fun s => s.data.toList, by simp; omega, ?_⟩
  have hlen : (ss.take len).length = len := by simp; omega
  have h1 : ∀ j u, ((ss.take len).map Value.string)[j]? = some u → W.cell? (x.add j) = some u := by
    intro j u hj
    rw [List.getElem?_map, Option.map_eq_some_iff] at hj
    obtain ⟨n, hn, rfl⟩ := hj
    have hj' := (List.getElem?_eq_some_iff.1 hn).1
    rw [hlen] at hj'
    rw [List.getElem?_take_of_lt (by omega)] at hn
    rw [hcell j (by omega), List.getD_eq_getElem?_getD, hn]
    rfl
  generalize ss.take len = l at *
  cases l with
  | nil =>
    show Rel _ _ _ _ (.emp false) _
    simp only [Rel]
    exact ⟨some x, cap, by rw [← hlen]; rfl, fun e => (by cases e), fun e => (by cases e)⟩
  | cons n l =>
    have e : (Enc.enc (strs ((n :: l).map fun s => s.data.toList)) : AV) = .vec 0 ((n :: l).map fun s => .str s.data.toList) .unk := by
      have h : (strs ((n :: l).map fun s => s.data.toList)).map (Enc.enc : Str → AV) = (n :: l).map fun s => .str s.data.toList := List.map_map
      rw [← h]
      rfl
    rw [e]
    simp only [Rel]
    refine ⟨x, cap, (n :: l).map .string, by rw [List.length_map, hlen], ?_, relC_texts _, fun j u hj => ⟨h1 j u hj, fun h => h.elim⟩, ?_⟩
    · rw [List.length_map, hlen]; exact hl
    · simp [CapOk]
end Go.Ai.Rab
end
section
/- Names, plainly: digits, quoting. -/
set_option linter.unusedVariables false
set_option linter.unusedSimpArgs false
open Go.Ai.Enc (enc is)
namespace Go.Ai.Rab
/-! ### Digits of 16 -/
def hexd (k : Nat) : UInt8 := if k < 10 then UInt8.ofNat (48 + k) else UInt8.ofNat (87 + k)
def hexS (n : Nat) : List UInt8 := if h : n < 16 then [hexd n] else hexS (n / 16) ++ [hexd (n % 16)]
theorem hexS_lt {n : Nat} (h : n < 16) : hexS n = [hexd n] := by rw [hexS, dif_pos h]
theorem hexS_ge {n : Nat} (h : ¬ n < 16) : hexS n = hexS (n / 16) ++ [hexd (n % 16)] := by rw [hexS, dif_neg h]
abbrev digs16 : List UInt8 := [48, 49, 50, 51, 52, 53, 54, 55, 56, 57, 97, 98, 99, 100, 101, 102]
abbrev digs36 : List UInt8 := [48, 49, 50, 51, 52, 53, 54, 55, 56, 57, 97, 98, 99, 100, 101, 102, 103, 104, 105, 106, 107, 108, 109, 110, 111, 112, 113, 114, 115, 116, 117, 118, 119, 120, 121, 122]
theorem digs16_at : ∀ k : Fin 16, sub (α := UInt8) digs16 (k.val : Int) ((k.val : Int) + 1) = some [hexd k.val] := by decide
theorem digs36_at : ∀ k : Fin 16, nth (α := UInt8) digs36 (k.val : Int) = some (hexd k.val) := by decide
theorem subD {k : Nat} (h : k < 16) {e : Int} (he : e = (k : Int) + 1) : subT (str digs16) (k : Int) e = some (str [hexd k]) := by subst he; exact digs16_at ⟨k, h⟩
theorem nthD {k : Nat} (h : k < 16) : nth (α := UInt8) (str digs36) (k : Int) = some (hexd k) := digs36_at ⟨k, h⟩
theorem and15 (n : Nat) (h : n < 2 ^ 64) : bitAnd .u64 (n : Int) 15 = ((n % 16 : Nat) : Int) := by
  unfold bitAnd
  have e : (BitVec.ofInt IntKind.u64.bits (n : Int) &&& BitVec.ofInt IntKind.u64.bits 15).toNat = n % 16 := by
    show (BitVec.ofInt 64 (n : Int) &&& BitVec.ofInt 64 15).toNat = _
    rw [BitVec.toNat_and]
    have e1 : (BitVec.ofInt 64 (n : Int)).toNat = n := by
      rw [BitVec.toNat_ofInt]
      have : ((n : Int) % ((2 ^ 64 : Nat) : Int)) = (n : Int) := Int.emod_eq_of_lt (by omega) (by omega)
      rw [this]; rfl
    have e2 : (BitVec.ofInt 64 15).toNat = 2 ^ 4 - 1 := by decide
    rw [e1, e2, Nat.and_two_pow_sub_one_eq_mod]
  rw [e]
theorem and15b (n : Nat) (h : n < 256) : bitAnd .u8 (n : Int) 15 = ((n % 16 : Nat) : Int) := by
  unfold bitAnd
  have e : (BitVec.ofInt IntKind.u8.bits (n : Int) &&& BitVec.ofInt IntKind.u8.bits 15).toNat = n % 16 := by
    show (BitVec.ofInt 8 (n : Int) &&& BitVec.ofInt 8 15).toNat = _
    rw [BitVec.toNat_and]
    have e1 : (BitVec.ofInt 8 (n : Int)).toNat = n := by
      rw [BitVec.toNat_ofInt]
      have : ((n : Int) % ((2 ^ 8 : Nat) : Int)) = (n : Int) := Int.emod_eq_of_lt (by omega) (by omega)
      rw [this]; rfl
    have e2 : (BitVec.ofInt 8 15).toNat = 2 ^ 4 - 1 := by decide
    rw [e1, e2, Nat.and_two_pow_sub_one_eq_mod]
  rw [e]
theorem u64n (n : Nat) (h : n < 2 ^ 64) : (UInt64.ofInt (n : Int)).toNat = n := by
  have := ofInt_u64 (z := (n : Int)) (by omega) (by omega)
  omega
theorem u8n (n : Nat) (h : n < 256) : (UInt8.ofInt (n : Int)).toNat = n := by
  have := ofInt_u8 (z := (n : Int)) (by omega) (by omega)
  omega
theorem fdiv16 (n : Nat) : ((n : Int)).fdiv (2 ^ 4) = ((n / 16 : Nat) : Int) := by
  rw [Int.fdiv_eq_ediv_of_nonneg _ (by decide)]
  show (n : Int) / 16 = _
  omega
theorem fmt_loop : ∀ (f : Nat) (u : UInt64) (a : List UInt8) (i : Nat), u.toNat < 16 ^ i → 1 ≤ i → i ≤ f → i ≤ 65 → a.length = 65 →
    (loop fmtBits_l5 (u, a, (i : Int))).bind fmtBits_a5 = some ([], str (hexS u.toNat ++ a.drop i))
  | 0, u, a, i, h1, h2, h3, h4, h5 => by omega
  | f + 1, u, a, i, h1, h2, h3, h4, h5 => by
    have hu := u.toNat_lt
    have hw : IntKind.i64.wrap ((i : Int) - 1) = ((i - 1 : Nat) : Int) := by rw [i64w (by omega)]; omega
    have hna : nthA 65 a ((i - 1 : Nat) : Int) = some (a.getD (i - 1) 0) := by
      unfold nthA
      rw [if_pos (by omega)]
      exact nth_at (by omega)
    have hdrop : ∀ c : UInt8, (a.set (i - 1) c).drop (i - 1) = c :: a.drop i := fun c => by
      rw [List.drop_eq_getElem_cons (by simp; omega)]
      simp [show i - 1 + 1 = i by omega]
      rw [List.drop_set_of_lt (by omega)]
    by_cases hge : u.toNat ≥ 16
    · have hi : 2 ≤ i := by
        rcases Nat.lt_or_ge i 2 with h | h
        · have : i = 1 := by omega
          subst this; omega
        · exact h
      have hb : fmtBits_l5 (u, a, (i : Int)) = some (.inl (UInt64.ofInt ((u.toNat / 16 : Nat) : Int), a.set (i - 1) (hexd (u.toNat % 16)), ((i - 1 : Nat) : Int))) := by
        show (if decide ((u.toNat : Int) ≥ 16) = true then _ else _) = _
        rw [if_pos (decide_eq_true (by omega))]
        have e : (((UInt64.ofInt (bitAnd .u64 ((u).toNat : Int) 15))).toNat : Int) = ((u.toNat % 16 : Nat) : Int) := by
          rw [and15 _ hu, u64n _ (by omega)]
        refine (bds (x := hexd (u.toNat % 16)) ?_).trans ?_
        · rw [e]; exact nthD (Nat.mod_lt _ (by decide))
        · rw [hw]
          refine (bds hna).trans ?_
          rw [fdiv16]; rfl
      rw [loop_next hb]
      have hun : (UInt64.ofInt ((u.toNat / 16 : Nat) : Int)).toNat = u.toNat / 16 := u64n _ (by omega)
      have ih := fmt_loop f (UInt64.ofInt ((u.toNat / 16 : Nat) : Int)) (a.set (i - 1) (hexd (u.toNat % 16))) (i - 1) (by
        rw [hun]
        have : 16 ^ i = 16 ^ (i - 1) * 16 := by rw [← Nat.pow_succ]; congr 1; omega
        omega) (by omega) (by omega) (by omega) (by simp [h5])
      rw [ih, hun, hdrop, hexS_ge (by omega) (n := u.toNat)]
      simp
    · have hb : fmtBits_l5 (u, a, (i : Int)) = some (.inr (u, a, (i : Int))) := by
        show (if decide ((u.toNat : Int) ≥ 16) = true then _ else _) = _
        rw [if_neg (by simp; omega)]
      rw [loop_done hb]
      show ((nth (α := UInt8) (str digs36) ((u).toNat : Int)).bind fun c1 => ((nthA 65 a (IntKind.i64.wrap ((i : Int) - 1))).bind fun v1 => (fmtBits_j3 (a.set (IntKind.i64.wrap ((i : Int) - 1)).toNat c1) (IntKind.i64.wrap ((i : Int) - 1))))) = _
      refine (bds (nthD (by omega))).trans ?_
      rw [hw]
      refine (bds hna).trans ?_
      have hda : dropA 65 (a.set (i - 1) (hexd u.toNat)) ((i - 1 : Nat) : Int) = some (hexd u.toNat :: a.drop i) := by
        unfold dropA
        rw [if_pos ⟨by omega, by omega, by simp [h5]⟩]
        show some ((a.set (i - 1) (hexd u.toNat)).drop (i - 1)) = _
        rw [hdrop]
      show ((dropA 65 (a.set (i - 1) (hexd u.toNat)) ((i - 1 : Nat) : Int)).bind fun t => some ([], str t)) = _
      refine (bds hda).trans ?_
      rw [hexS_lt (by omega)]; rfl
theorem Format_eq (u : UInt64) : FormatUint u = some (str (hexS u.toNat)) := by
  have hu := u.toNat_lt
  have h := fmt_loop 65 u (List.replicate 65 0) 65 (by have : (2 : Nat) ^ 64 ≤ 16 ^ 65 := by decide
                                                       omega) (by omega) (by omega) (by omega) (by simp)
  have hd : (List.replicate 65 (0 : UInt8)).drop 65 = [] := by decide
  rw [hd, List.append_nil] at h
  have h2 : fmtBits [] u = some ([], str (hexS u.toNat)) := h
  unfold FormatUint istr_FormatUint
  rw [h2]; rfl
theorem hexr_loop : ∀ (f n : Nat) (s : List UInt8), n ≤ f → n ≤ 1114111 → s.length ≤ 100 + (1114111 - n) → (loop ref_hex_l1 ((n : Int), s)).bind ref_hex_a1 = some (str (hexS n ++ s))
  | f, n, s, h1, h2, h3 => by
    by_cases hg : n < 16
    · have hb : ref_hex_l1 ((n : Int), s) = some (.inr ((n : Int), s)) := by
        show (if decide ((n : Int) > 15) = true then _ else _) = _
        rw [if_neg (by simp; omega)]
      rw [loop_done hb]
      show ((subT (str digs16) (n : Int) (IntKind.i64.wrap ((n : Int) + 1))).bind fun t1 => (catT t1 s).bind fun s_3 => some s_3) = _
      refine (bds (subD hg (i64w (by omega)))).trans ?_
      have : catT (str [hexd n]) s = some (str ([hexd n] ++ s)) := by
        show catS _ _ = _
        unfold catS
        rw [if_neg (by simp; omega)]; rfl
      rw [hexS_lt hg]
      exact (bds this)
    · obtain ⟨f, rfl⟩ : ∃ g, f = g + 1 := ⟨f - 1, by omega⟩
      have hb : ref_hex_l1 ((n : Int), s) = some (.inl (((n / 16 : Nat) : Int), str (hexd (n % 16) :: s))) := by
        show (if decide ((n : Int) > 15) = true then _ else _) = _
        rw [if_pos (decide_eq_true (by omega))]
        have e1 : (n : Int).tmod 16 = ((n % 16 : Nat) : Int) := by rw [Int.tmod_eq_emod_of_nonneg (by omega)]; omega
        have e2 : (n : Int).tdiv 16 = ((n / 16 : Nat) : Int) := by rw [Int.tdiv_eq_ediv_of_nonneg (by omega)]; omega
        rw [e1, e2]
        refine (bds (subD (Nat.mod_lt _ (by decide)) (i64w (by omega)))).trans ?_
        have : catT (str [hexd (n % 16)]) s = some (str (hexd (n % 16) :: s)) := by
          show catS _ _ = _
          unfold catS
          rw [if_neg (by simp; omega)]; rfl
        rw [this, i64w (by omega)]; rfl
      rw [loop_next hb, hexr_loop f (n / 16) (hexd (n % 16) :: s) (by omega) (by omega) (by simp; omega), hexS_ge hg]
      simp
theorem Hex_eq {n : Nat} (h : n ≤ 1114111) : ref_hex (n : Int) = some (str (hexS n)) := by
  unfold ref_hex
  have := hexr_loop n n [] (Nat.le_refl _) h (by simp)
  rw [List.append_nil] at this
  exact this
theorem hexS_len : ∀ (k n : Nat), n < 16 ^ k → 1 ≤ k → (hexS n).length ≤ k
  | 0, n, _, h => by omega
  | k + 1, n, h, _ => by
    by_cases hg : n < 16
    · rw [hexS_lt hg]; simp
    · rw [hexS_ge hg, List.length_append]
      have hk : 1 ≤ k := by
        rcases Nat.eq_zero_or_pos k with h0 | h0
        · subst h0; omega
        · exact h0
      have := hexS_len k (n / 16) (by rw [Nat.pow_succ] at h; omega) hk
      simp; omega
/-! ### Quoting -/
def piece (l : List UInt8) : List UInt8 :=
  if okr l = false then [92, 120, hexd ((l.getD 0 0).toNat / 16), hexd ((l.getD 0 0).toNat % 16)]
  else if rn l = 34 ∨ rn l = 92 then [92, UInt8.ofNat (rn l)]
  else if 32 ≤ rn l ∧ rn l ≤ 126 then [UInt8.ofNat (rn l)]
  else [92, 117, 123] ++ hexS (rn l) ++ [125]
def qtF : Nat → List UInt8 → List UInt8
  | 0, _ => []
  | f + 1, l => if l = [] then [] else piece l ++ qtF f (l.drop (wd l))
def qt (l : List UInt8) : List UInt8 := qtF l.length l
theorem qtF_succ (f : Nat) (l : List UInt8) : qtF (f + 1) l = if l = [] then [] else piece l ++ qtF f (l.drop (wd l)) := rfl
theorem qtF_nil : ∀ f, qtF f [] = []
  | 0 => rfl
  | f + 1 => rfl
theorem qtF_eq : ∀ (f g : Nat) (l : List UInt8), l.length ≤ f → l.length ≤ g → qtF f l = qtF g l
  | 0, g, l, h1, h2 => by
    have : l = [] := List.eq_nil_of_length_eq_zero (by omega)
    subst this
    rw [qtF_nil, qtF_nil]
  | f + 1, 0, l, h1, h2 => by
    have : l = [] := List.eq_nil_of_length_eq_zero (by omega)
    subst this
    rw [qtF_nil, qtF_nil]
  | f + 1, g + 1, l, h1, h2 => by
    rw [qtF_succ, qtF_succ]
    by_cases h : l = []
    · rw [if_pos h, if_pos h]
    · have := wd_pos l
      have : 0 < l.length := List.length_pos_iff.2 h
      rw [if_neg h, if_neg h, qtF_eq f g _ (by rw [List.length_drop]; omega) (by rw [List.length_drop]; omega)]
theorem qt_cons {l : List UInt8} (h : l ≠ []) : qt l = piece l ++ qt (l.drop (wd l)) := by
  have h1 : 0 < l.length := List.length_pos_iff.2 h
  have h2 := wd_pos l
  unfold qt
  rw [show l.length = (l.length - 1) + 1 by omega, qtF_succ, if_neg h]
  rw [qtF_eq _ ((l.drop (wd l)).length) _ (by rw [List.length_drop]; omega) (Nat.le_refl _)]
theorem piece_len (l : List UInt8) : (piece l).length ≤ 10 := by
  unfold piece
  have := rn_le l
  have h6 := hexS_len 6 (rn l) (by have : (16 : Nat) ^ 6 = 16777216 := by decide
                                   omega) (by omega)
  repeat' split
  all_goals simp
  omega
theorem qt_len : ∀ (n : Nat) (l : List UInt8), l.length ≤ n → (qt l).length ≤ 10 * l.length
  | 0, l, h => by
    have : l = [] := List.eq_nil_of_length_eq_zero (by omega)
    subst this; simp [qt, qtF]
  | n + 1, l, h => by
    by_cases h0 : l = []
    · subst h0; simp [qt, qtF]
    · have h1 : 0 < l.length := List.length_pos_iff.2 h0
      have h2 := wd_pos l
      have h3 := wd_le h0
      have ih := qt_len n (l.drop (wd l)) (by rw [List.length_drop]; omega)
      have := piece_len l
      rw [qt_cons h0, List.length_append]
      rw [List.length_drop] at ih
      omega
/-! what a rune's number tells of its bytes -/
theorem rn_low {l : List UInt8} (h : l ≠ []) (hr : rn l < 128) : wd l = 1 ∧ (l.getD 0 0).toNat = rn l := by
  unfold rn wd at *
  rw [Go.Lib.decodeL_N] at *
  revert hr
  generalize l.length = n, (l.getD 0 0).toNat = b0, (l.getD 1 0).toNat = b1, (l.getD 2 0).toNat = b2, (l.getD 3 0).toNat = b3
  unfold Go.Lib.decodeN
  repeat' split
  all_goals (intro hr; simp at hr ⊢ <;> omega)
theorem rn_err {l : List UInt8} (hr : rn l = 65533) : (wd l = 1 ∨ wd l = 3) ∧ (wd l = 3 ↔ (2 < l.length ∧ (l.getD 0 0).toNat = 239 ∧ (l.getD 1 0).toNat = 191 ∧ (l.getD 2 0).toNat = 189)) := by
  unfold rn wd at *
  rw [Go.Lib.decodeL_N] at *
  revert hr
  have h0 := (l.getD 0 0).toNat_lt
  have h1 := (l.getD 1 0).toNat_lt
  have h2 := (l.getD 2 0).toNat_lt
  revert h0 h1 h2
  generalize l.length = n, (l.getD 0 0).toNat = b0, (l.getD 1 0).toNat = b1, (l.getD 2 0).toNat = b2, (l.getD 3 0).toNat = b3
  unfold Go.Lib.decodeN
  repeat' split
  all_goals (intro h0 h1 h2 hr; simp at hr ⊢ <;> omega)
theorem prefix3 (l : List UInt8) : Go.Lib.hasPrefix l [239, 191, 189] = decide (2 < l.length ∧ (l.getD 0 0).toNat = 239 ∧ (l.getD 1 0).toNat = 191 ∧ (l.getD 2 0).toNat = 189) := by
  have e : ∀ (b : UInt8) (c : UInt8), (c == b) = decide (b.toNat = c.toNat) := fun b c => by
    by_cases h : b = c
    · subst h; simp
    · have h2 : ¬ b.toNat = c.toNat := fun e => h (UInt8.toNat_inj.1 e)
      rw [decide_eq_false h2]
      simp only [beq_eq_false_iff_ne]
      exact fun e => h e.symm
  match l with
  | [] => rfl
  | [a] => simp [Go.Lib.hasPrefix, List.isPrefixOf]
  | [a, b] => simp [Go.Lib.hasPrefix, List.isPrefixOf]
  | a :: b :: c :: l =>
    show (239 == a && (191 == b && (189 == c && true))) = _
    rw [e, e, e]
    have h3 : (2 < (a :: b :: c :: l).length) := by simp
    by_cases h1 : a.toNat = 239 <;> by_cases h2 : b.toNat = 191 <;> by_cases h4 : c.toNat = 189 <;> simp [h1, h2, h4]
theorem okr_prefix (l : List UInt8) (hr : rn l = 65533) : Go.Lib.hasPrefix l [239, 191, 189] = okr l := by
  obtain ⟨h1, h2⟩ := rn_err hr
  rw [prefix3]
  unfold okr
  rcases h1 with h1 | h1
  · rw [decide_eq_false (fun h => by have := h2.2 h; omega), decide_eq_true ⟨hr, h1⟩]; rfl
  · rw [decide_eq_true (h2.1 h1), decide_eq_false (by omega)]; rfl
theorem okr_of_ne {l : List UInt8} (hr : rn l ≠ 65533) : okr l = true := by
  unfold okr; rw [decide_eq_false (fun h => hr h.1)]; rfl
end Go.Ai.Rab
end
section
/- Names, plainly: what a text is quoted as. -/
set_option linter.unusedVariables false
set_option linter.unusedSimpArgs false
open Go.Ai.Enc (enc is)
namespace Go.Ai.Rab
theorem catT_ok {a b : List UInt8} (h : a.length + b.length ≤ 9223372036854775807) : catT a b = some (str (a ++ b)) := by
  show catS _ _ = _
  unfold catS
  rw [if_neg (by omega)]; rfl
theorem app1b {l m : List UInt8} (h : l.length + m.length ≤ 137438953472) : app 1 l m = some (l ++ m) := app_ok _ _ h (by omega)
theorem val_low {n : Nat} (h : n < 128) : Utf8.valid (n : Int) = true := by
  unfold Utf8.valid
  rw [Bool.or_eq_true]
  left
  rw [Bool.and_eq_true]
  exact ⟨decide_eq_true (by omega), decide_eq_true (by omega)⟩
theorem enc1 {n : Nat} (h : n < 128) : (Utf8.encode (n : Int)).data.toList = [UInt8.ofNat n] := by
    unfold Utf8.encode
    simp only [val_low h, if_true, Int.toNat_natCast, h]
theorem enc2 (z : Int) (l : List UInt8) (h : (Utf8.encode z).data.toList = l) : encR (Rune.mk z) = str l := by
  unfold encR
  exact h
theorem encR_low {n : Nat} (h : n < 128) : encR (Rune.mk (n : Int)) = str [UInt8.ofNat n] := enc2 _ _ (enc1 h)
theorem enc4 (r : Int) (h0 : 0 ≤ r) (h1 : r ≤ 1114111) : (Utf8.encode r).data.toList = Lib.encodeRune r := by
  unfold Utf8.encode Lib.encodeRune
  have e : ∀ (z : Int) (k : Nat), z = k → UInt8.ofNat k = z.toNat.toUInt8 := fun z k h => by subst h; rfl
  by_cases hv : r < 55296 ∨ 57344 ≤ r
  · have hval : Utf8.valid r = true := by
      unfold Utf8.valid
      rw [Bool.or_eq_true]
      rcases hv with hv | hv
      · left; rw [Bool.and_eq_true]; exact ⟨decide_eq_true (by omega), decide_eq_true (by omega)⟩
      · right; rw [Bool.and_eq_true]; exact ⟨decide_eq_true (by omega), decide_eq_true (by omega)⟩
    simp only [hval, if_true]
    by_cases c1 : r.toNat < 128
    · rw [if_pos c1, Lib.encodeRuneZ_one (by omega) (by omega)]
      simp only [List.map_cons, List.map_nil]
    · rw [if_neg c1]
      by_cases c2 : r.toNat < 2048
      · rw [if_pos c2, Lib.encodeRuneZ_two (by omega) (by omega)]
        simp only [List.map_cons, List.map_nil]
        rw [← e (192 + r / 64) (192 + r.toNat / 64) (by omega), ← e (128 + r % 64) (128 + r.toNat % 64) (by omega)]
      · rw [if_neg c2]
        by_cases c3 : r.toNat < 65536
        · rw [if_pos c3, Lib.encodeRuneZ_three (by omega)]
          simp only [List.map_cons, List.map_nil]
          rw [← e (224 + r / 4096) (224 + r.toNat / 4096) (by omega), ← e (128 + r / 64 % 64) (128 + r.toNat / 64 % 64) (by omega), ← e (128 + r % 64) (128 + r.toNat % 64) (by omega)]
        · rw [if_neg c3, Lib.encodeRuneZ_four (by omega) (by omega)]
          simp only [List.map_cons, List.map_nil]
          rw [← e (240 + r / 262144) (240 + r.toNat / 262144) (by omega), ← e (128 + r / 4096 % 64) (128 + r.toNat / 4096 % 64) (by omega), ← e (128 + r / 64 % 64) (128 + r.toNat / 64 % 64) (by omega), ← e (128 + r % 64) (128 + r.toNat % 64) (by omega)]
  · have hval : Utf8.valid r = false := by
      unfold Utf8.valid
      rw [Bool.or_eq_false_iff, Bool.and_eq_false_iff, Bool.and_eq_false_iff]
      exact ⟨.inr (decide_eq_false (by omega)), .inl (decide_eq_false (by omega))⟩
    simp only [hval, Bool.false_eq_true, if_false]
    rw [Lib.encodeRuneZ_bad (by omega)]
    rfl
theorem encR_list (r : Int) (h0 : 0 ≤ r) (h1 : r ≤ 1114111) : encR (Rune.mk r) = str (Lib.encodeRune r) := enc2 _ _ (enc4 r h0 h1)
theorem ofInt_nat (n : Nat) : UInt8.ofInt (n : Int) = UInt8.ofNat n := by
  apply UInt8.toNat_inj.1
  simp [UInt8.ofInt, UInt8.toNat_ofNat']
  omega
set_option maxRecDepth 100000 in
theorem quote_step {s : List UInt8} {b : List UInt8} {v : Nat} (hv : v < s.length) (hb : b.length + 10 ≤ 1000000000) : name_Quote_l1 s (b, v) = some (.inl (b ++ piece (s.drop v), v + wd (s.drop v))) := by
  have hne := drop_ne hv
  have hrl := rn_le (s.drop v)
  show (if v < List.length s then _ else _) = _
  rw [if_pos hv, runeLen_eq, runeAt_eq]
  generalize hl : s.drop v = l at *
  have hc : nth (α := UInt8) s (v : Int) = some (l.getD 0 0) := by
    rw [nth_at hv, ← hl]; simp [List.getD, List.getElem?_drop]
  have hsub : subT s ((v : Nat) : Int) (List.length s : Nat) = some (str l) := by rw [← hl]; exact subT_drop (by omega)
  have hcl := (l.getD 0 0).toNat_lt
  -- the first test
  have hb2 : (if (((rn l : Nat) : Int) == 65533) = true then (subT s ((v : Nat) : Int) (List.length s : Nat)).bind fun t => (strings_HasPrefix t (str [239, 191, 189])).bind fun r_ => some (!r_) else some false) = some (!okr l) := by
    by_cases h : rn l = 65533
    · rw [if_pos (by simp; omega)]
      refine (bds hsub).trans ?_
      show some (!Go.Lib.hasPrefix l [239, 191, 189]) = _
      rw [okr_prefix l h]
    · rw [if_neg (by simp; omega), okr_of_ne h]; rfl
  refine (bds hb2).trans ?_
  unfold piece
  cases ho : okr l with
  | false =>
    rw [if_pos rfl]
    show ((nth (α := UInt8) s ((v : Nat) : Int)).bind fun c => ((FormatUint (UInt64.ofInt (((UInt8.ofInt ((((c).toNat : Int)).fdiv (2 ^ 4)))).toNat : Int))).bind fun r_1 => ((catT (str [92, 120]) r_1).bind fun s_1 => ((nth (α := UInt8) s ((v : Nat) : Int)).bind fun c1 => ((FormatUint (UInt64.ofInt (((UInt8.ofInt (bitAnd .u8 ((c1).toNat : Int) 15))).toNat : Int))).bind fun r_2 => ((catT s_1 r_2).bind fun s_2 => ((appS b s_2).bind fun bs_1 => some (Sum.inl (bs_1, (v + wd l)))))))))) = _
    refine (bds hc).trans ?_
    generalize l.getD 0 0 = c at *
    have e1 : FormatUint (UInt64.ofInt (((UInt8.ofInt ((((c).toNat : Int)).fdiv (2 ^ 4)))).toNat : Int)) = some (str [hexd (c.toNat / 16)]) := by
      rw [fdiv16, u8n _ (by omega), Format_eq, u64n _ (by omega), hexS_lt (by omega)]
    have e2 : FormatUint (UInt64.ofInt (((UInt8.ofInt (bitAnd .u8 ((c).toNat : Int) 15))).toNat : Int)) = some (str [hexd (c.toNat % 16)]) := by
      rw [and15b _ hcl, u8n _ (by omega), Format_eq, u64n _ (by omega), hexS_lt (by omega)]
    refine (bds e1).trans ((bds (catT_ok (by simp))).trans ((bds hc).trans ((bds e2).trans ((bds (catT_ok (by simp))).trans ?_))))
    refine (bds (show appS b _ = _ from app1b (by simp; omega))).trans ?_
    rfl
  | true =>
    rw [if_neg (by simp)]
    show ((if (((rn l : Nat) : Int) == 34) = true then some true else some (((rn l : Nat) : Int) == 92)).bind fun b3 => (if b3 = true then ((catT (str [92]) (encR (Rune.mk ((rn l : Nat) : Int)))).bind fun s_3 => ((appS b s_3).bind fun bs_2 => some (Sum.inl (bs_2, (v + wd l))))) else ((if (decide (((rn l : Nat) : Int) ≥ 32)) = true then some (decide (((rn l : Nat) : Int) ≤ 126)) else some false).bind fun b4 => (if b4 = true then ((app1 b (Rune.mk ((rn l : Nat) : Int))).bind fun bs_3 => some (Sum.inl (bs_3, (v + wd l)))) else ((FormatUint (UInt64.ofInt ((rn l : Nat) : Int))).bind fun r_3 => ((catT (str [92, 117, 123]) r_3).bind fun s_4 => ((catT s_4 (str [125])).bind fun s_5 => ((appS b s_5).bind fun bs_4 => some (Sum.inl (bs_4, (v + wd l)))))))))) ) = _
    have h3 : (if (((rn l : Nat) : Int) == 34) = true then some true else some (((rn l : Nat) : Int) == 92)) = some (decide (rn l = 34 ∨ rn l = 92)) := by
      by_cases h : rn l = 34
      · rw [h]; rfl
      · rw [if_neg (by simp; omega)]
        by_cases h' : rn l = 92
        · rw [h']; rfl
        · rw [decide_eq_false (by omega)]
          congr 1
          simp; omega
    refine (bds h3).trans ?_
    by_cases h34 : rn l = 34 ∨ rn l = 92
    · rw [if_pos (decide_eq_true h34), if_pos h34, encR_low (by omega)]
      refine (bds (catT_ok (by simp))).trans ((bds (show appS b _ = _ from app1b (by simp; omega))).trans ?_)
      rfl
    · rw [if_neg (by simpa using h34), if_neg h34]
      have h4 : (if (decide (((rn l : Nat) : Int) ≥ 32)) = true then some (decide (((rn l : Nat) : Int) ≤ 126)) else some false) = some (decide (32 ≤ rn l ∧ rn l ≤ 126)) := by
        by_cases h : 32 ≤ rn l
        · rw [if_pos (decide_eq_true (by omega))]
          congr 1
          exact decide_eq_decide.2 ⟨fun x => ⟨h, by omega⟩, fun x => by omega⟩
        · rw [if_neg (by simp; omega), decide_eq_false (by omega)]
      refine (bds h4).trans ?_
      by_cases hp : 32 ≤ rn l ∧ rn l ≤ 126
      · rw [if_pos (decide_eq_true hp), if_pos hp]
        have : app1 b (Rune.mk ((rn l : Nat) : Int)) = some (b ++ [UInt8.ofNat (rn l)]) := by
          unfold app1
          rw [if_pos (show (0 : Int) ≤ ((rn l : Nat) : Int) ∧ ((rn l : Nat) : Int) < 128 by omega)]
          show app 1 b [UInt8.ofInt ((rn l : Nat) : Int)] = _
          rw [ofInt_nat]
          exact app1b (by simp; omega)
        exact bds this
      · rw [if_neg (by simpa using hp), if_neg hp]
        have h6 := hexS_len 6 (rn l) (by have : (16 : Nat) ^ 6 = 16777216 := by decide
                                         omega) (by omega)
        have e1 : FormatUint (UInt64.ofInt ((rn l : Nat) : Int)) = some (str (hexS (rn l))) := by rw [Format_eq, u64n _ (by omega)]
        refine (bds e1).trans ((bds (catT_ok (b := hexS (rn l)) (by simp; omega))).trans ((bds (catT_ok (a := [92, 117, 123] ++ hexS (rn l)) (by simp; omega))).trans ((bds (show appS b _ = _ from app1b (m := [92, 117, 123] ++ hexS (rn l) ++ [125]) (by simp; omega))).trans ?_)))
        rfl
theorem quote_loop {s : List UInt8} (hs : s.length ≤ 8000000) : ∀ (f v : Nat) (b : List UInt8), v ≤ s.length → s.length ≤ v + f → b.length ≤ 1 + 10 * v → loop (name_Quote_l1 s) (b, v) = some (b ++ qtF f (s.drop v))
  | 0, v, b, h1, h2, h3 => by
    refine (loop_done (r := b) ?_).trans (by simp [qtF])
    show (if v < List.length s then _ else _) = _
    rw [if_neg (by omega)]
  | f + 1, v, b, h1, h2, h3 => by
    by_cases hp : v < s.length
    · have hne := drop_ne hp
      have hw := wd_pos (s.drop v)
      have hw2 := wd_le hne
      rw [List.length_drop] at hw2
      have hpl := piece_len (s.drop v)
      rw [loop_next (quote_step hp (by omega)), quote_loop hs f _ _ (by omega) (by omega) (by simp; omega), qtF_succ, if_neg hne, List.drop_drop]
      simp
    · refine (loop_done (r := b) ?_).trans ?_
      · show (if v < List.length s then _ else _) = _
        rw [if_neg hp]
      · rw [List.drop_of_length_le (by omega), qtF_nil, List.append_nil]
/-- What a text is quoted as. -/
def qts (s : List UInt8) : List UInt8 := 34 :: qt s ++ [34]
theorem Quote_eq {s : List UInt8} (hs : s.length ≤ 8000000) : name_Quote s = some (str (qts s)) := by
  unfold name_Quote
  refine (bds (app1b (l := []) (m := [34]) (by decide))).trans ?_
  have hl := quote_loop hs s.length 0 [34] (by omega) (by omega) (by simp)
  rw [List.drop_zero] at hl
  show (loop (name_Quote_l1 s) ([34], 0)).bind name_Quote_a1 = _
  refine (bds hl).trans ?_
  have hq := qt_len s.length s (Nat.le_refl _)
  have hq' : (qtF s.length s).length ≤ 10 * s.length := hq
  show ((app 1 ([34] ++ qtF s.length s) [(34 : UInt8)]).bind fun bs_5 => (strB bs_5).bind fun bs_6 => some bs_6) = _
  refine (bds (app1b (by simp; omega))).trans ?_
  have : strB ([34] ++ qtF s.length s ++ [34]) = some (str (qts s)) := by
    unfold strB
    rw [if_pos (by simp; omega)]
    rfl
  exact bds this
/-! ### The document's -/
set_option maxRecDepth 100000 in
theorem rquote_step {s : List UInt8} {b : List UInt8} {v : Nat} (hs : s.length ≤ 8000000) (hv : v < s.length) (hb : b.length + 10 ≤ 1000000000) : ref_Quote_l1 s (b, (v : Int)) = some (.inl (str (b ++ piece (s.drop v)), ((v + wd (s.drop v) : Nat) : Int))) := by
  have hne := drop_ne hv
  have hrl := rn_le (s.drop v)
  have hwl := wd_le hne
  rw [List.length_drop] at hwl
  show (if decide ((v : Int) < ((List.length s : Nat) : Int)) = true then _ else _) = _
  rw [if_pos (decide_eq_true (by omega))]
  have hsub : subT s ((v : Nat) : Int) (List.length s : Nat) = some (str (s.drop v)) := subT_drop (by omega)
  have hc : nth (α := UInt8) s (v : Int) = some ((s.drop v).getD 0 0) := by
    rw [nth_at hv]; simp [List.getD, List.getElem?_drop]
  have hone : subT s (v : Int) (IntKind.i64.wrap ((v : Int) + 1)) = some (str [(s.drop v).getD 0 0]) := by
    rw [i64w (by omega)]
    have : subT s (v : Int) ((v + 1 : Nat) : Int) = some (str ((s.take (v + 1)).drop v)) := sub_nat (α := UInt8) s v (v + 1) (by omega) (by omega)
    refine this.trans ?_
    congr 1
    rw [List.take_succ_eq_append_getElem hv, List.drop_append_of_le_length (by rw [List.length_take]; omega), List.drop_of_length_le (by rw [List.length_take]; omega)]
    simp [List.getD, hv]
  refine (bds hsub).trans ((bds (Rune_eq (len_ne hne))).trans ?_)
  have hlow := rn_low hne
  generalize hl : s.drop v = l at *
  have hcl := (l.getD 0 0).toNat_lt
  have hj : ∀ o : Str, ref_Quote_j2 (v : Int) (((rn l : Nat) : Int), ((wd l : Nat) : Int), okr l) o = some (.inl (o, ((v + wd l : Nat) : Int))) := fun o => by
    show some (Sum.inl (o, IntKind.i64.wrap ((v : Int) + ((wd l : Nat) : Int)))) = _
    rw [i64w (by omega)]; rfl
  unfold piece
  cases ho : okr l with
  | false =>
    rw [ho] at hj
    rw [if_pos rfl]
    show ((nth (α := UInt8) s (v : Int)).bind fun c => ((catT b (str [92, 120])).bind fun s_1 => ((subT (str digs16) (IntKind.i64.wrap ((((c).toNat : Int)).tdiv 16)) (IntKind.i64.wrap ((IntKind.i64.wrap ((((c).toNat : Int)).tdiv 16)) + 1))).bind fun t1 => ((catT s_1 t1).bind fun s_2 => ((subT (str digs16) ((((c).toNat : Int)).tmod 16) (IntKind.i64.wrap (((((c).toNat : Int)).tmod 16) + 1))).bind fun t2 => ((catT s_2 t2).bind fun s_3 => (ref_Quote_j2 (v : Int) (((rn l : Nat) : Int), ((wd l : Nat) : Int), false) s_3))))))) = _
    refine (bds hc).trans ?_
    generalize l.getD 0 0 = c at *
    have e1 : (c.toNat : Int).tmod 16 = ((c.toNat % 16 : Nat) : Int) := by rw [Int.tmod_eq_emod_of_nonneg (by omega)]; omega
    have e2 : (c.toNat : Int).tdiv 16 = ((c.toNat / 16 : Nat) : Int) := by rw [Int.tdiv_eq_ediv_of_nonneg (by omega)]; omega
    have e3 : IntKind.i64.wrap ((c.toNat / 16 : Nat) : Int) = ((c.toNat / 16 : Nat) : Int) := i64w (by omega)
    rw [e1, e2, e3]
    refine (bds (catT_ok (by simp; omega))).trans ((bds (subD (by omega) (i64w (by omega)))).trans ((bds (catT_ok (by simp; omega))).trans ((bds (subD (by omega) (i64w (by omega)))).trans ((bds (catT_ok (by simp; omega))).trans ?_))))
    rw [hj]
    simp [str]
  | true =>
    rw [ho] at hj
    rw [if_neg (by simp)]
    show ((if (((rn l : Nat) : Int) == 34) = true then some true else some (((rn l : Nat) : Int) == 92)).bind fun b_ => (if b_ = true then ((catT b (str [92])).bind fun s_4 => ((subT s (v : Int) (IntKind.i64.wrap ((v : Int) + 1))).bind fun t3 => ((catT s_4 t3).bind fun s_5 => (ref_Quote_j2 (v : Int) (((rn l : Nat) : Int), ((wd l : Nat) : Int), true) s_5)))) else ((if (decide (((rn l : Nat) : Int) ≥ 32)) = true then some (decide (((rn l : Nat) : Int) ≤ 126)) else some false).bind fun b1 => (if b1 = true then ((subT s (v : Int) (IntKind.i64.wrap ((v : Int) + 1))).bind fun t4 => ((catT b t4).bind fun s_6 => (ref_Quote_j2 (v : Int) (((rn l : Nat) : Int), ((wd l : Nat) : Int), true) s_6))) else ((catT b (str [92, 117, 123])).bind fun s_7 => ((ref_hex ((rn l : Nat) : Int)).bind fun r_1 => ((catT s_7 r_1).bind fun s_8 => ((catT s_8 (str [125])).bind fun s_9 => (ref_Quote_j2 (v : Int) (((rn l : Nat) : Int), ((wd l : Nat) : Int), true) s_9)))))))) ) = _
    have h3 : (if (((rn l : Nat) : Int) == 34) = true then some true else some (((rn l : Nat) : Int) == 92)) = some (decide (rn l = 34 ∨ rn l = 92)) := by
      by_cases h : rn l = 34
      · rw [h]; rfl
      · rw [if_neg (by simp; omega)]
        by_cases h' : rn l = 92
        · rw [h']; rfl
        · rw [decide_eq_false (by omega)]
          congr 1
          simp; omega
    refine (bds h3).trans ?_
    by_cases h34 : rn l = 34 ∨ rn l = 92
    · have hg : UInt8.ofNat (rn l) = l.getD 0 0 := UInt8.toNat_inj.1 (by
        rw [(hlow (by omega)).2]
        simp [UInt8.toNat_ofNat']; omega)
      rw [if_pos (decide_eq_true h34), if_pos h34, hg]
      refine (bds (catT_ok (by simp; omega))).trans ((bds hone).trans ((bds (catT_ok (by simp; omega))).trans ?_))
      rw [hj]
      simp [str]
    · rw [if_neg (by simpa using h34), if_neg h34]
      have h4 : (if (decide (((rn l : Nat) : Int) ≥ 32)) = true then some (decide (((rn l : Nat) : Int) ≤ 126)) else some false) = some (decide (32 ≤ rn l ∧ rn l ≤ 126)) := by
        by_cases h : 32 ≤ rn l
        · rw [if_pos (decide_eq_true (by omega))]
          congr 1
          exact decide_eq_decide.2 ⟨fun x => ⟨h, by omega⟩, fun x => by omega⟩
        · rw [if_neg (by simp; omega), decide_eq_false (by omega)]
      refine (bds h4).trans ?_
      by_cases hp : 32 ≤ rn l ∧ rn l ≤ 126
      · have hg : UInt8.ofNat (rn l) = l.getD 0 0 := UInt8.toNat_inj.1 (by
          rw [(hlow (by omega)).2]
          simp [UInt8.toNat_ofNat']; omega)
        rw [if_pos (decide_eq_true hp), if_pos hp, hg]
        refine (bds hone).trans ((bds (catT_ok (by simp; omega))).trans ?_)
        rw [hj]
        simp [str]
      · rw [if_neg (by simpa using hp), if_neg hp]
        have h6 := hexS_len 6 (rn l) (by have : (16 : Nat) ^ 6 = 16777216 := by decide
                                         omega) (by omega)
        refine (bds (catT_ok (by simp; omega))).trans ((bds (Hex_eq hrl)).trans ((bds (catT_ok (a := b ++ [92, 117, 123]) (b := hexS (rn l)) (by simp; omega))).trans ((bds (catT_ok (a := b ++ [92, 117, 123] ++ hexS (rn l)) (by simp; omega))).trans ?_)))
        rw [hj]
        simp [str]
theorem rquote_loop {s : List UInt8} (hs : s.length ≤ 8000000) : ∀ (f v : Nat) (b : List UInt8), v ≤ s.length → s.length ≤ v + f → b.length ≤ 1 + 10 * v → loop (ref_Quote_l1 s) (b, (v : Int)) = some (str (b ++ qtF f (s.drop v)))
  | 0, v, b, h1, h2, h3 => by
    refine (loop_done (r := str b) ?_).trans (by simp [qtF])
    show (if decide ((v : Int) < ((List.length s : Nat) : Int)) = true then _ else _) = _
    rw [if_neg (by simp; omega)]
  | f + 1, v, b, h1, h2, h3 => by
    by_cases hp : v < s.length
    · have hne := drop_ne hp
      have hw := wd_pos (s.drop v)
      have hw2 := wd_le hne
      rw [List.length_drop] at hw2
      have hpl := piece_len (s.drop v)
      rw [loop_next (rquote_step hs hp (by omega))]
      refine (rquote_loop hs f _ (b ++ piece (s.drop v)) (by omega) (by omega) (by simp; omega)).trans ?_
      rw [qtF_succ, if_neg hne, List.drop_drop]
      simp
    · refine (loop_done (r := str b) ?_).trans ?_
      · show (if decide ((v : Int) < ((List.length s : Nat) : Int)) = true then _ else _) = _
        rw [if_neg (by simp; omega)]
      · rw [List.drop_of_length_le (by omega), qtF_nil, List.append_nil]
theorem rQuote_eq {s : List UInt8} (hs : s.length ≤ 8000000) : ref_Quote s = some (str (qts s)) := by
  unfold ref_Quote
  have hl := rquote_loop hs s.length 0 [34] (by omega) (by omega) (by simp)
  rw [List.drop_zero] at hl
  refine (bds hl).trans ?_
  have hq := qt_len s.length s (Nat.le_refl _)
  have hq' : (qtF s.length s).length ≤ 10 * s.length := hq
  show ((catT (str ([34] ++ qtF s.length s)) (str [34])).bind fun s_10 => some s_10) = _
  exact bds (catT_ok (by simp; omega))
end Go.Ai.Rab
end
section
/- Names, plainly: what was quoted is unquoted as it was. -/
set_option linter.unusedVariables false
set_option linter.unusedSimpArgs false
open Go.Ai.Enc (enc is)
namespace Go.Ai.Rab
/-! ### Cut at a byte -/
theorem ib_miss : ∀ {c : UInt8} {l : List UInt8}, c ∉ l → Go.Lib.indexByte l c = -1
  | c, [], _ => rfl
  | c, b :: l, h => by
    simp only [List.mem_cons, not_or] at h
    show (if (b == c) = true then (0 : Int) else if (Go.Lib.indexByte l c == -1) = true then -1 else Go.Lib.indexByte l c + 1) = _
    rw [if_neg (by simp only [beq_iff_eq]; exact fun e => h.1 e.symm), ib_miss h.2]; rfl
theorem ib_hit : ∀ {c : UInt8} {a b : List UInt8}, c ∉ a → Go.Lib.indexByte (a ++ c :: b) c = (a.length : Int)
  | c, [], b, _ => by
    show (if (c == c) = true then (0 : Int) else _) = _
    rw [if_pos (by simp)]; rfl
  | c, x :: a, b, h => by
    simp only [List.mem_cons, not_or] at h
    show (if (x == c) = true then (0 : Int) else if (Go.Lib.indexByte (a ++ c :: b) c == -1) = true then -1 else Go.Lib.indexByte (a ++ c :: b) c + 1) = _
    rw [if_neg (by simp only [beq_iff_eq]; exact fun e => h.1 e.symm), ib_hit h.2, if_neg (by simp)]
    simp
theorem Index_one (s : List UInt8) (c : UInt8) : slite_Index s (str [c]) = some (Go.Lib.indexByte s c) := rfl
theorem Cut_miss {s : List UInt8} {c : UInt8} (h : c ∉ s) : strings_Cut s (str [c]) = some (str s, str [], false) := by
  have hc : slite_Cut s (str [c]) = some (str s, str [], false) := by
    unfold slite_Cut
    refine (bds (Index_one s c)).trans ?_
    rw [ib_miss h]; rfl
  exact bds hc
theorem Cut_hit {a b : List UInt8} {c : UInt8} (h : c ∉ a) (hl : (a ++ c :: b).length ≤ 9223372036854775807) : strings_Cut (a ++ c :: b) (str [c]) = some (str a, str b, true) := by
  suffices hc : slite_Cut (a ++ c :: b) (str [c]) = some (str a, str b, true) from bds hc
  unfold slite_Cut
  refine (bds (Index_one _ c)).trans ?_
  rw [ib_hit h, if_pos (decide_eq_true (by omega))]
  have e1 : subT (a ++ c :: b) 0 (a.length : Int) = some (str a) := by
    have := sub_nat (α := UInt8) (a ++ c :: b) 0 a.length (by omega) (by simp)
    refine (show subT (a ++ c :: b) 0 (a.length : Int) = _ from this).trans ?_
    simp; rfl
  have e2 : subT (a ++ c :: b) (IntKind.i64.wrap ((a.length : Int) + ((List.length (str [c]) : Nat) : Int))) (List.length (a ++ c :: b) : Nat) = some (str b) := by
    have hw : IntKind.i64.wrap ((a.length : Int) + ((List.length (str [c]) : Nat) : Int)) = ((a.length + 1 : Nat) : Int) := by
      rw [List.length_append, List.length_cons] at hl
      show IntKind.i64.wrap ((a.length : Int) + 1) = _
      rw [i64w (by omega)]; rfl
    rw [hw]
    refine (subT_drop (s := a ++ c :: b) (i := a.length + 1) (by simp)).trans ?_
    have : (a ++ c :: b).drop (a.length + 1) = b := by
      rw [← List.drop_drop, List.drop_left]; rfl
    rw [this]; rfl
  refine (bds e1).trans ((bds e2).trans ?_)
  rfl
/-! ### The number of some digits -/
def val : List Nat → Nat → Nat
  | [], x => x
  | d :: ds, x => val ds (16 * x + d)
def okv : List Nat → Nat → Prop
  | [], _ => True
  | d :: ds, x => x ≤ 1114111 ∧ d < 16 ∧ okv ds (16 * x + d)
theorem val_snoc : ∀ (l : List Nat) (d x : Nat), val (l ++ [d]) x = 16 * val l x + d
  | [], d, x => rfl
  | e :: l, d, x => val_snoc l d _
theorem okv_snoc : ∀ (l : List Nat) (d x : Nat), okv l x → val l x ≤ 1114111 → d < 16 → okv (l ++ [d]) x
  | [], d, x, _, h, hd => ⟨h, hd, trivial⟩
  | e :: l, d, x, h, hv, hd => ⟨h.1, h.2.1, okv_snoc l d _ h.2.2 hv hd⟩
theorem hexS_digs : ∀ (f n : Nat), n ≤ f → n ≤ 1114111 → ∃ ds, hexS n = ds.map hexd ∧ val ds 0 = n ∧ okv ds 0 ∧ ds ≠ []
  | f, n, h1, h2 => by
    by_cases hg : n < 16
    · exact ⟨[n], by rw [hexS_lt hg]; rfl, by simp [val], ⟨by omega, hg, trivial⟩, by simp⟩
    · obtain ⟨f, rfl⟩ : ∃ g, f = g + 1 := ⟨f - 1, by omega⟩
      obtain ⟨ds, g1, g2, g3, g4⟩ := hexS_digs f (n / 16) (by omega) (by omega)
      refine ⟨ds ++ [n % 16], by rw [hexS_ge hg, g1]; simp, by rw [val_snoc, g2]; omega, okv_snoc ds _ _ g3 (by omega) (by omega), by simp⟩
theorem hexd_low : ∀ d : Fin 16, (hexd d.val).toNat < 128 ∧ hexd d.val ≠ 125 ∧ Go.Lib.indexByte digs16 (hexd d.val) = (d.val : Int) ∧ hexd d.val ≠ 92 := by decide
theorem rn_ascii {l : List UInt8} (h : (l.getD 0 0).toNat < 128) : rn l = (l.getD 0 0).toNat ∧ wd l = 1 := by
  unfold rn wd
  rw [Go.Lib.decodeL_N, Go.Lib.decodeN_ascii _ _ _ _ _ h]
  exact ⟨rfl, rfl⟩
theorem or_low (x d : Nat) (hx : x ≤ 1114111) (hd : d < 16) : IntKind.i32.wrap (bitOr .i32 (IntKind.i32.wrap ((x : Int) * 2 ^ 4)) (IntKind.i32.wrap (d : Int))) = ((16 * x + d : Nat) : Int) := by
  have e1 : IntKind.i32.wrap ((x : Int) * 2 ^ 4) = ((16 * x : Nat) : Int) := by
    rw [show ((x : Int) * 2 ^ 4) = ((16 * x : Nat) : Int) by omega]
    exact IntWalk.i32_in _ (by omega)
  have e2 : IntKind.i32.wrap (d : Int) = (d : Int) := IntWalk.i32_in _ (by omega)
  rw [e1, e2]
  have e3 : bitOr .i32 ((16 * x : Nat) : Int) (d : Int) = ((16 * x + d : Nat) : Int) := by
    unfold bitOr
    have e : (BitVec.ofInt IntKind.i32.bits ((16 * x : Nat) : Int) ||| BitVec.ofInt IntKind.i32.bits (d : Int)).toNat = 16 * x + d := by
      show (BitVec.ofInt 32 ((16 * x : Nat) : Int) ||| BitVec.ofInt 32 (d : Int)).toNat = _
      rw [BitVec.toNat_or]
      have k1 : (BitVec.ofInt 32 ((16 * x : Nat) : Int)).toNat = 16 * x := by
        rw [BitVec.toNat_ofInt]
        have : (((16 * x : Nat) : Int) % ((2 ^ 32 : Nat) : Int)) = ((16 * x : Nat) : Int) := Int.emod_eq_of_lt (by omega) (by omega)
        rw [this]; rfl
      have k2 : (BitVec.ofInt 32 (d : Int)).toNat = d := by
        rw [BitVec.toNat_ofInt]
        have : ((d : Int) % ((2 ^ 32 : Nat) : Int)) = (d : Int) := Int.emod_eq_of_lt (by omega) (by omega)
        rw [this]; rfl
      rw [k1, k2]
      have := Nat.shiftLeft_add_eq_or_of_lt (a := x) (b := d) (i := 4) (by omega)
      rw [Nat.shiftLeft_eq] at this
      rw [show 16 * x = x * 2 ^ 4 by omega, ← this]
    rw [e]
  rw [e3]
  exact IntWalk.i32_in _ (by omega)
theorem digits_loop {s : List UInt8} : ∀ (ds : List Nat) (x v : Nat), s.drop v = ds.map hexd → v ≤ s.length → okv ds x → loop (name_digits_l1 s) (Rune.mk (x : Int), v) = some (.inl (Rune.mk (val ds x : Int)))
  | [], x, v, h, hv, _ => by
    have : s.length ≤ v := by
      have := congrArg List.length h
      rw [List.length_drop] at this
      simp at this; omega
    refine loop_done ?_
    show (if v < List.length s then _ else _) = _
    rw [if_neg (by omega)]; rfl
  | d :: ds, x, v, h, hv, ho => by
    obtain ⟨o1, o2, o3⟩ := ho
    have hlt : v < s.length := by
      have := congrArg List.length h
      rw [List.length_drop] at this
      simp at this; omega
    obtain ⟨k1, k2, k3, k4⟩ := hexd_low ⟨d, o2⟩
    have h0 : (s.drop v).getD 0 0 = hexd d := by rw [h]; rfl
    obtain ⟨r1, r2⟩ := rn_ascii (l := s.drop v) (by rw [h0]; exact k1)
    rw [h0] at r1
    have hd2 : s.drop (v + 1) = ds.map hexd := by
      have : s.drop (v + 1) = (s.drop v).drop 1 := by rw [List.drop_drop]
      rw [this, h]; rfl
    have hb : name_digits_l1 s (Rune.mk (x : Int), v) = some (.inl (Rune.mk ((16 * x + d : Nat) : Int), v + 1)) := by
      show (if v < List.length s then _ else _) = _
      rw [if_pos hlt, runeLen_eq, runeAt_eq, r1, r2, encR_low k1]
      have hi : strings_Index (str digs16) (str [UInt8.ofNat (hexd d).toNat]) = some (d : Int) := by
        rw [show UInt8.ofNat (hexd d).toNat = hexd d by simp]
        show (slite_Index (str digs16) (str [hexd d])).bind _ = _
        refine (bds (Index_one _ _)).trans ?_
        exact congrArg some k3
      refine (bds hi).trans ?_
      show ((if decide ((d : Int) < 0) = true then some true else some (decide ((x : Int) > 1114111))).bind fun b => if b = true then some (Sum.inr (Sum.inr (Rune.mk 0, false))) else some (Sum.inl (Rune.mk (IntKind.i32.wrap (bitOr .i32 (IntKind.i32.wrap ((x : Int) * 2 ^ 4)) (IntKind.i32.wrap (d : Int)))), v + 1))) = _
      rw [if_neg (by simp), decide_eq_false (show ¬ ((x : Int) > 1114111) by omega), or_low x d o1 o2]
      rfl
    rw [loop_next hb]
    exact digits_loop ds _ _ hd2 (by omega) o3
theorem digits_eq {ds : List Nat} (hne : ds ≠ []) (ho : okv ds 0) : name_digits (ds.map hexd) = some (Rune.mk (val ds 0 : Int), true) := by
  unfold name_digits
  refine (bds (digits_loop (s := ds.map hexd) ds 0 0 (by simp) (by simp) ho)).trans ?_
  show some (Rune.mk (val ds 0 : Int), !eqS (ds.map hexd) []) = _
  rw [eqS_dec, decide_eq_false (by simpa using hne)]; rfl
/-! ### Behind a backslash -/
theorem nth0 {a : UInt8} {l : List UInt8} : nth (α := UInt8) (a :: l) 0 = some a := rfl
theorem esc1 {a : UInt8} {r : List UInt8} (h : a = 34 ∨ a = 92) : name_escape (a :: r) = some (str [a], str r, true) := by
  unfold name_escape
  have e1 : subT (a :: r) 0 1 = some (str [a]) := by
    refine (show subT (a :: r) 0 1 = _ from sub_nat (α := UInt8) (a :: r) 0 1 (by omega) (by simp)).trans ?_
    simp; rfl
  have e2 : subT (a :: r) 1 (List.length (a :: r) : Nat) = some (str r) := subT_drop (s := a :: r) (i := 1) (by simp)
  rw [eqS_dec, decide_eq_false (by simp), if_neg Bool.false_ne_true]
  refine (bds nth0).trans ?_
  have hb : (if ((a.toNat : Int) == 34) = true then some true else (nth (α := UInt8) (a :: r) 0).bind fun c1 => some (((c1).toNat : Int) == 92)) = some true := by
    rcases h with rfl | rfl
    · rfl
    · rfl
  refine (bds hb).trans ?_
  rw [if_pos rfl]
  exact (bds e1).trans (bds e2)
theorem esc2 {a b : Nat} {r : List UInt8} (ha : a < 16) (hb : b < 16) : name_escape (120 :: hexd a :: hexd b :: r) = some (str [UInt8.ofNat (16 * a + b)], str r, true) := by
  unfold name_escape
  have e1 : subT (120 :: hexd a :: hexd b :: r) 1 3 = some (str [hexd a, hexd b]) := by
    refine (show subT (120 :: hexd a :: hexd b :: r) 1 3 = _ from sub_nat (α := UInt8) _ 1 3 (by omega) (by simp)).trans ?_
    simp; rfl
  have e2 : subT (120 :: hexd a :: hexd b :: r) 3 (List.length (120 :: hexd a :: hexd b :: r) : Nat) = some (str r) := subT_drop (s := 120 :: hexd a :: hexd b :: r) (i := 3) (by simp)
  have e3 : name_digits (str [hexd a, hexd b]) = some (Rune.mk (val [a, b] 0 : Int), true) := digits_eq (ds := [a, b]) (by simp) ⟨by omega, ha, by omega, hb, trivial⟩
  rw [eqS_dec, decide_eq_false (by simp), if_neg Bool.false_ne_true]
  have hf : (if ((((120 : UInt8).toNat : Nat) : Int) == 34) = true then some true else (nth (α := UInt8) (120 :: hexd a :: hexd b :: r) 0).bind fun c1 => some (((c1).toNat : Int) == 92)) = some false := rfl
  refine (bds nth0).trans ((bds hf).trans ?_)
  rw [if_neg Bool.false_ne_true]
  have hb1 : (if ((((120 : UInt8).toNat : Nat) : Int) == 120) = true then some (decide (((List.length (120 :: hexd a :: hexd b :: r) : Nat) : Int) ≥ 3)) else some false) = some true := by
    rw [decide_eq_true (by simp; omega)]; rfl
  refine (bds nth0).trans ((bds hb1).trans ?_)
  rw [if_pos rfl]
  refine (bds e1).trans ((bds e3).trans ((bds e2).trans ?_))
  show some (str [UInt8.ofInt ((val [a, b] 0 : Nat) : Int)], str r, true) = _
  rw [ofInt_nat]
  simp [val]
theorem esc3 {n : Nat} {r : List UInt8} (hn : n ≤ 1114111) (hl : r.length ≤ 1000000000) : name_escape (117 :: 123 :: (hexS n ++ 125 :: r)) = some (encR (Rune.mk (n : Int)), str r, true) := by
  unfold name_escape
  obtain ⟨ds, g1, g2, g3, g4⟩ := hexS_digs n n (Nat.le_refl _) hn
  have hlen := hexS_len 6 n (by have : (16 : Nat) ^ 6 = 16777216 := by decide
                                omega) (by omega)
  have hno : (125 : UInt8) ∉ hexS n := by
    rw [g1]
    intro hm
    obtain ⟨d, hd, e⟩ := List.mem_map.1 hm
    have hd16 : d < 16 := by
      have : ∀ (l : List Nat) (x : Nat), okv l x → ∀ d ∈ l, d < 16 := by
        intro l
        induction l with
        | nil => intro x _ d hd; cases hd
        | cons y l ih =>
          intro x h d hd
          rcases List.mem_cons.1 hd with rfl | hd
          · exact h.2.1
          · exact ih _ h.2.2 d hd
      exact this ds 0 g3 d hd
    exact (hexd_low ⟨d, hd16⟩).2.1 e
  have e1 : subT (117 :: 123 :: (hexS n ++ 125 :: r)) 2 (List.length (117 :: 123 :: (hexS n ++ 125 :: r)) : Nat) = some (str (hexS n ++ 125 :: r)) := subT_drop (s := 117 :: 123 :: (hexS n ++ 125 :: r)) (i := 2) (by simp)
  have e2 : strings_Cut (str (hexS n ++ 125 :: r)) (str [125]) = some (str (hexS n), str r, true) := Cut_hit hno (by simp; omega)
  have e3 : name_digits (str (hexS n)) = some (Rune.mk (n : Int), true) := by
    have := digits_eq g4 g3
    rw [g2, ← g1] at this
    exact this
  rw [eqS_dec, decide_eq_false (by simp), if_neg Bool.false_ne_true]
  have hf : (if ((((117 : UInt8).toNat : Nat) : Int) == 34) = true then some true else (nth (α := UInt8) (117 :: 123 :: (hexS n ++ 125 :: r)) 0).bind fun c1 => some (((c1).toNat : Int) == 92)) = some false := rfl
  refine (bds nth0).trans ((bds hf).trans ?_)
  rw [if_neg Bool.false_ne_true]
  have hf2 : (if ((((117 : UInt8).toNat : Nat) : Int) == 120) = true then some (decide (((List.length (117 :: 123 :: (hexS n ++ 125 :: r)) : Nat) : Int) ≥ 3)) else some false) = some false := rfl
  refine (bds nth0).trans ((bds hf2).trans ?_)
  rw [if_neg Bool.false_ne_true]
  have hp : strings_HasPrefix (117 :: 123 :: (hexS n ++ 125 :: r)) (str [117, 123]) = some true := by
    show some (List.isPrefixOf [117, 123] (117 :: 123 :: (hexS n ++ 125 :: r))) = _
    simp [List.isPrefixOf]
  refine (bds hp).trans ?_
  rw [if_pos rfl]
  exact (bds e1).trans ((bds e2).trans (bds e3))
end Go.Ai.Rab
end
section
/- Names, plainly: what was quoted is unquoted as it was (2). -/
set_option linter.unusedVariables false
set_option linter.unusedSimpArgs false
open Go.Ai.Enc (enc is)
namespace Go.Ai.Rab
/-- The first rune's bytes. -/
theorem take1 {l : List UInt8} (h : l ≠ []) : l.take 1 = [l.getD 0 0] := by
  cases l with
  | nil => exact absurd rfl h
  | cons a l => rfl
theorem hexd_byte (b : UInt8) : UInt8.ofNat (16 * (b.toNat / 16) + b.toNat % 16) = b := by
  rw [show 16 * (b.toNat / 16) + b.toNat % 16 = b.toNat by omega]; simp
theorem encR_take {l : List UInt8} (h : l ≠ []) (ho : okr l = true) : encR (Rune.mk ((rn l : Nat) : Int)) = str (l.take (wd l)) := by
  have hr := rn_le l
  rw [encR_list _ (by omega) (by omega)]
  have := Go.Lib.encode_decode l h (by
    intro hc
    have : okr l = false := by
      unfold okr
      rw [decide_eq_true (show rn l = 65533 ∧ wd l = 1 from hc)]; rfl
    rw [this] at ho; cases ho)
  exact congrArg str this
/-- A rune that is written as it is. -/
def plainR (l : List UInt8) : Prop := okr l = true ∧ 32 ≤ rn l ∧ rn l ≤ 126 ∧ rn l ≠ 34 ∧ rn l ≠ 92
theorem piece_plain {l : List UInt8} (h : l ≠ []) (hp : plainR l) : piece l = [l.getD 0 0] ∧ wd l = 1 ∧ l.getD 0 0 ≠ 92 := by
  obtain ⟨h1, h2, h3, h4, h5⟩ := hp
  obtain ⟨k1, k2⟩ := rn_low h (by omega)
  have e : UInt8.ofNat (rn l) = l.getD 0 0 := by rw [← k2]; simp
  refine ⟨?_, k1, fun hc => ?_⟩
  · unfold piece
    rw [if_neg (by rw [h1]; simp), if_neg (by omega), if_pos ⟨h2, h3⟩, e]
  · rw [hc] at k2
    exact h5 k2.symm
/-- .. and one that is not: behind its backslash. -/
theorem piece_esc {l : List UInt8} (h : l ≠ []) (hp : ¬ plainR l) (r : List UInt8) (hr : r.length ≤ 1000000000) : ∃ tl, piece l = 92 :: tl ∧ name_escape (tl ++ r) = some (str (l.take (wd l)), str r, true) := by
  have hrl := rn_le l
  cases ho : okr l with
  | false =>
    refine ⟨[120, hexd ((l.getD 0 0).toNat / 16), hexd ((l.getD 0 0).toNat % 16)], by unfold piece; rw [if_pos ho], ?_⟩
    have hw : wd l = 1 := by
      unfold okr at ho
      simp at ho; exact ho.2
    have hb := (l.getD 0 0).toNat_lt
    have := esc2 (a := (l.getD 0 0).toNat / 16) (b := (l.getD 0 0).toNat % 16) (r := r) (by omega) (by omega)
    rw [hexd_byte] at this
    rw [hw, take1 h]
    exact this
  | true =>
    by_cases h34 : rn l = 34 ∨ rn l = 92
    · obtain ⟨k1, k2⟩ := rn_low h (by omega)
      have e : UInt8.ofNat (rn l) = l.getD 0 0 := by rw [← k2]; simp
      refine ⟨[l.getD 0 0], by unfold piece; rw [if_neg (by rw [ho]; simp), if_pos h34, e], ?_⟩
      rw [k1, take1 h]
      refine esc1 ?_
      rcases h34 with h34 | h34
      · left; apply UInt8.toNat_inj.1; rw [k2, h34]; rfl
      · right; apply UInt8.toNat_inj.1; rw [k2, h34]; rfl
    · have hn : ¬ (32 ≤ rn l ∧ rn l ≤ 126) := fun hc => hp ⟨ho, hc.1, hc.2, fun e => h34 (.inl e), fun e => h34 (.inr e)⟩
      refine ⟨117 :: 123 :: (hexS (rn l) ++ [125]), by unfold piece; rw [if_neg (by rw [ho]; simp), if_neg h34, if_neg hn]; rfl, ?_⟩
      have := esc3 (n := rn l) (r := r) hrl hr
      rw [encR_take h ho] at this
      rw [← this]
      simp
/-- The plain runes ahead. -/
theorem runs : ∀ (f : Nat) (t : List UInt8), t.length ≤ f → ∃ p t', t = p ++ t' ∧ qt t = p ++ qt t' ∧ 92 ∉ p ∧ (t' = [] ∨ ¬ plainR t')
  | 0, t, h => by
    have : t = [] := List.eq_nil_of_length_eq_zero (by omega)
    subst this
    exact ⟨[], [], rfl, rfl, by simp, .inl rfl⟩
  | f + 1, t, h => by
    by_cases h0 : t = []
    · subst h0
      exact ⟨[], [], rfl, rfl, by simp, .inl rfl⟩
    · by_cases hp : plainR t
      · obtain ⟨k1, k2, k3⟩ := piece_plain h0 hp
        have hl : 0 < t.length := List.length_pos_iff.2 h0
        obtain ⟨p, t', g1, g2, g3, g4⟩ := runs f (t.drop 1) (by rw [List.length_drop]; omega)
        have et : t = t.getD 0 0 :: t.drop 1 := by
          cases t with
          | nil => exact absurd rfl h0
          | cons a t => rfl
        refine ⟨t.getD 0 0 :: p, t', ?_, ?_, ?_, g4⟩
        · rw [List.cons_append, ← g1]; exact et
        · rw [qt_cons h0, k1, k2, g2]; rfl
        · simp only [List.mem_cons, not_or]
          exact ⟨fun e => k3 e.symm, g3⟩
      · exact ⟨[], t, rfl, rfl, by simp, .inr hp⟩
theorem unq_loop : ∀ (f : Nat) (t out : List UInt8), t.length ≤ f → t.length ≤ 8000000 → out.length + t.length ≤ 1000000000 → loop name_Unquote_l1 (qt t, out) = some (.inl (str (out ++ t)))
  | f, t, out, h1, h2, h3 => by
    have hend : ∀ o : List UInt8, name_Unquote_l1 (str [], str o) = some (.inr (.inl (str o))) := fun o => rfl
    obtain ⟨p, t', g1, g2, g3, g4⟩ := runs t.length t (Nat.le_refl _)
    have hql := qt_len t.length t (Nat.le_refl _)
    by_cases ht : t = []
    · subst ht
      refine (loop_done (hend out)).trans ?_
      simp
    · have hne : qt t ≠ [] := by
        intro e
        rw [qt_cons ht] at e
        have h4 := (List.append_eq_nil_iff.1 e).1
        by_cases hp : plainR t
        · rw [(piece_plain ht hp).1] at h4; cases h4
        · obtain ⟨tl, k1, _⟩ := piece_esc ht hp [] (by simp)
          rw [k1] at h4; cases h4
      have htl : t.length = p.length + t'.length := by rw [g1]; simp
      by_cases ht' : t' = []
      · subst ht'
        rw [List.append_nil] at g1
        have g2 : qt t = p := by rw [g2]; exact List.append_nil p
        subst g1
        have hb : name_Unquote_l1 (qt t, out) = some (.inl (str [], str (out ++ t))) := by
          show (if (!eqS (qt t) (str [])) = true then _ else _) = _
          rw [eqS_dec, decide_eq_false hne, Bool.not_false, if_pos rfl]
          have hcut : strings_Cut (qt t) (str [92]) = some (str t, str [], false) := by rw [g2]; exact Cut_miss g3
          refine (bds hcut).trans ((bds (catT_ok (a := out) (b := t) (by omega))).trans ?_)
          rfl
        rw [loop_next hb]
        exact (loop_done (hend _)).trans rfl
      · have hnp := g4.resolve_left ht'
        have hw := wd_pos t'
        have hwl := wd_le ht'
        have hq2 := qt_len (t'.drop (wd t')).length (t'.drop (wd t')) (Nat.le_refl _)
        rw [List.length_drop] at hq2
        obtain ⟨tl, k1, k2⟩ := piece_esc ht' hnp (qt (t'.drop (wd t'))) (by omega)
        obtain ⟨f, rfl⟩ : ∃ g, f = g + 1 := ⟨f - 1, by have := List.length_pos_iff.2 ht; omega⟩
        have eq : qt t = p ++ 92 :: (tl ++ qt (t'.drop (wd t'))) := by rw [g2, qt_cons ht', k1]; rfl
        have hb : name_Unquote_l1 (qt t, out) = some (.inl (str (qt (t'.drop (wd t'))), str (out ++ p ++ t'.take (wd t')))) := by
          show (if (!eqS (qt t) (str [])) = true then _ else _) = _
          rw [eqS_dec, decide_eq_false hne, Bool.not_false, if_pos rfl]
          have hcut : strings_Cut (qt t) (str [92]) = some (str p, str (tl ++ qt (t'.drop (wd t'))), true) := by
            rw [eq]
            exact Cut_hit g3 (by rw [← eq]; omega)
          refine (bds hcut).trans ((bds (catT_ok (a := out) (b := p) (by omega))).trans ?_)
          rw [if_pos rfl]
          refine (bds k2).trans ?_
          rw [if_neg (by simp)]
          refine (bds (catT_ok (a := out ++ p) (b := t'.take (wd t')) (by simp; omega))).trans ?_
          rfl
        rw [loop_next hb]
        refine (unq_loop f (t'.drop (wd t')) (out ++ p ++ t'.take (wd t')) (by rw [List.length_drop]; omega) (by rw [List.length_drop]; omega) (by simp; omega)).trans ?_
        congr 2
        have : str (out ++ p ++ t'.take (wd t') ++ t'.drop (wd t')) = str (out ++ t) := by
          rw [g1, List.append_assoc, List.take_append_drop, List.append_assoc]
        exact this
theorem Unquote_qts {t : List UInt8} (h : t.length ≤ 8000000) : name_Unquote (qts t) = some (str t, true) := by
  have hql := qt_len t.length t (Nat.le_refl _)
  unfold name_Unquote
  have e1 : strings_CutPrefix (qts t) (str [34]) = some (str (qt t ++ [34]), true) := by
    show some (Go.Lib.trimPrefix (qts t) [34], Go.Lib.hasPrefix (qts t) [34]) = _
    have hp : Go.Lib.hasPrefix (qts t) [34] = true := by
      show List.isPrefixOf [34] (34 :: (qt t ++ [34])) = true
      simp [List.isPrefixOf]
    unfold Go.Lib.trimPrefix
    rw [hp, if_pos rfl]
    rfl
  have e2 : strings_CutSuffix (qt t ++ [34]) (str [34]) = some (str (qt t), true) := by
    have hp : Go.Lib.hasSuffix (qt t ++ [34]) [34] = true := by
      unfold Go.Lib.hasSuffix
      rw [List.isSuffixOf_iff_suffix]
      exact List.suffix_append _ _
    unfold strings_CutSuffix
    have hlen : (qt t ++ [34]).length = (qt t).length + 1 := by simp
    refine (if_pos (show (qt t ++ [34]).length ≤ 9223372036854775807 by omega)).trans ?_
    show some (Go.Lib.trimSuffix (qt t ++ [34]) [34], Go.Lib.hasSuffix (qt t ++ [34]) [34]) = _
    unfold Go.Lib.trimSuffix
    rw [hp, if_pos rfl]
    simp
    rfl
  refine (bds e1).trans ((bds e2).trans ?_)
  show (loop name_Unquote_l1 (qt t, str [])).bind (name_Unquote_a1 (qts t)) = _
  refine (bds (unq_loop t.length t [] (Nat.le_refl _) h (by simp; omega))).trans ?_
  show ((name_Quote (str ([] ++ t))).bind fun r_4 => if (!eqS r_4 (qts t)) = true then some (str [], false) else some (str ([] ++ t), true)) = _
  rw [List.nil_append]
  refine (bds (Quote_eq h)).trans ?_
  rw [show eqS (str (qts t)) (qts t) = true from eqS_refl _]
  rfl
/-! ### The document's -/
/-- The first place of a digit, from i on. -/
def findF (c : UInt8) : Nat → Nat → Unit ⊕ Int
  | 0, _ => .inl ()
  | f + 1, i => if (digs16.getD i 0).toNat = c.toNat then .inr (i : Int) else findF c f (i + 1)
theorem digit_loop {c : UInt8} : ∀ (f i : Nat), i + f = 16 → loop (ref_digit_l1 c) (i : Int) = some (findF c f i)
  | 0, i, h => by
    refine loop_done ?_
    show (if decide ((i : Int) < 16) = true then _ else _) = _
    rw [if_neg (by simp; omega)]; rfl
  | f + 1, i, h => by
    have hn : nth (α := UInt8) (str digs16) (i : Int) = some (digs16.getD i 0) := nth_at (l := digs16) (by show i < 16; omega)
    have hb : ref_digit_l1 c (i : Int) = if (digs16.getD i 0).toNat = c.toNat then some (.inr (.inr (i : Int))) else some (.inl ((i + 1 : Nat) : Int)) := by
      show (if decide ((i : Int) < 16) = true then _ else _) = _
      rw [if_pos (decide_eq_true (by omega))]
      refine (bds hn).trans ?_
      show (if ((((digs16.getD i 0).toNat : Nat) : Int) == ((c.toNat : Nat) : Int)) = true then some (Sum.inr (Sum.inr (i : Int))) else some (Sum.inl (IntKind.i64.wrap ((i : Int) + 1)))) = _
      rw [i64w (by omega)]
      by_cases h : (digs16.getD i 0).toNat = c.toNat
      · rw [if_pos h, h, if_pos (by simp)]
      · rw [if_neg h, if_neg (by rw [beq_iff_eq]; omega)]; rfl
    unfold findF
    by_cases h : (digs16.getD i 0).toNat = c.toNat
    · rw [if_pos h] at hb ⊢
      exact loop_done hb
    · rw [if_neg h] at hb ⊢
      rw [loop_next hb]
      exact digit_loop f (i + 1) (by omega)
theorem find_rng {c : UInt8} : ∀ (f i : Nat), findF c f i = .inl () ∨ ∃ k : Nat, findF c f i = .inr (k : Int) ∧ k < i + f
  | 0, i => .inl rfl
  | f + 1, i => by
    unfold findF
    split
    · exact .inr ⟨i, rfl, by omega⟩
    · rcases find_rng f (i + 1) with h | ⟨k, h, hk⟩
      · exact .inl h
      · exact .inr ⟨k, h, by omega⟩
theorem Digit_some (c : UInt8) : ∃ r : Int, ref_digit c = some r ∧ -1 ≤ r ∧ r < 16 := by
  unfold ref_digit
  have h := digit_loop (c := c) 16 0 rfl
  rcases find_rng (c := c) 16 0 with e | ⟨k, e, hk⟩
  · exact ⟨-1, (bds (h.trans (congrArg some e))).trans rfl, by omega, by omega⟩
  · exact ⟨(k : Int), (bds (h.trans (congrArg some e))).trans rfl, by omega, by omega⟩
theorem find_hexd : ∀ d : Fin 16, findF (hexd d.val) 16 0 = .inr (d.val : Int) := by decide
theorem Digit_hexd {d : Nat} (hd : d < 16) : ref_digit (hexd d) = some (d : Int) := by
  unfold ref_digit
  exact (bds ((digit_loop (c := hexd d) 16 0 rfl).trans (congrArg some (find_hexd ⟨d, hd⟩)))).trans rfl
theorem renc_list {n : Nat} (h : n < 55296 ∨ (57344 ≤ n ∧ n ≤ 1114111)) : ref_encode (n : Int) = some (Go.Lib.encodeRune (n : Int), true) := by
  have e : ∀ (z : Int), 0 ≤ z → z < 256 → UInt8.ofInt z = z.toNat.toUInt8 := fun z h0 h1 => by
    obtain ⟨k, rfl⟩ : ∃ k : Nat, z = (k : Int) := ⟨z.toNat, by omega⟩
    rw [ofInt_nat]; rfl
  have w : ∀ (z : Int), -9223372036854775808 ≤ z ∧ z ≤ 9223372036854775807 → IntKind.i64.wrap z = z := fun z h => i64w h
  have td : ∀ k : Int, 0 < k → (n : Int).tdiv k = (n : Int) / k := fun k hk => Int.tdiv_eq_ediv_of_nonneg (by omega)
  have tm : ∀ (a k : Int), 0 ≤ a → a.tmod k = a % k := fun a k ha => Int.tmod_eq_emod_of_nonneg ha
  unfold ref_encode Go.Lib.encodeRune
  by_cases c1 : n < 128
  · rw [if_pos (decide_eq_true (by omega)), Go.Lib.encodeRuneZ_one (by omega) (by omega)]
    simp only [List.map_cons, List.map_nil]
    rw [e _ (by omega) (by omega)]
  · rw [if_neg (by simp; omega)]
    by_cases c2 : n < 2048
    · rw [if_pos (decide_eq_true (by omega)), Go.Lib.encodeRuneZ_two (by omega) (by omega)]
      simp only [List.map_cons, List.map_nil]
      rw [td 64 (by omega), tm _ 64 (by omega), w ((n : Int) / 64) (by omega), w _ (by omega), w _ (by omega), e _ (by omega) (by omega), e _ (by omega) (by omega)]
    · rw [if_neg (by simp; omega)]
      have hb : ((if decide ((n : Int) ≥ 55296) = true then some (decide ((n : Int) < 57344)) else some false).bind fun b => (if b = true then some true else some (decide ((n : Int) > 1114111))).bind fun b1 => (some b1)) = some false := by
        by_cases g : (n : Int) ≥ 55296
        · rw [if_pos (decide_eq_true g), decide_eq_false (show ¬ ((n : Int) < 57344) by omega), decide_eq_false (show ¬ ((n : Int) > 1114111) by omega)]; rfl
        · rw [if_neg (by simpa using g), decide_eq_false (show ¬ ((n : Int) > 1114111) by omega)]; rfl
      have hb' : (if decide ((n : Int) ≥ 55296) = true then some (decide ((n : Int) < 57344)) else some false) = some false := by
        by_cases g : (n : Int) ≥ 55296
        · rw [if_pos (decide_eq_true g), decide_eq_false (show ¬ ((n : Int) < 57344) by omega)]
        · rw [if_neg (by simpa using g)]
      refine (bds hb').trans ?_
      rw [if_neg Bool.false_ne_true, decide_eq_false (show ¬ ((n : Int) > 1114111) by omega)]
      refine (bds rfl).trans ?_
      rw [if_neg Bool.false_ne_true]
      by_cases c3 : n < 65536
      · rw [if_pos (decide_eq_true (by omega)), Go.Lib.encodeRuneZ_three (by omega)]
        simp only [List.map_cons, List.map_nil]
        rw [td 4096 (by omega), td 64 (by omega), tm (n : Int) 64 (by omega), w ((n : Int) / 4096) (by omega), w ((n : Int) / 64) (by omega), tm ((n : Int) / 64) 64 (by omega), w _ (by omega), w _ (by omega), w _ (by omega), e _ (by omega) (by omega), e _ (by omega) (by omega), e _ (by omega) (by omega)]
      · rw [if_neg (by simp; omega), Go.Lib.encodeRuneZ_four (by omega) (by omega)]
        simp only [List.map_cons, List.map_nil]
        rw [td 262144 (by omega), td 4096 (by omega), td 64 (by omega), tm (n : Int) 64 (by omega), w ((n : Int) / 262144) (by omega), w ((n : Int) / 4096) (by omega), w ((n : Int) / 64) (by omega), tm ((n : Int) / 4096) 64 (by omega), tm ((n : Int) / 64) 64 (by omega), w _ (by omega), w _ (by omega), w _ (by omega), w _ (by omega), e _ (by omega) (by omega), e _ (by omega) (by omega), e _ (by omega) (by omega), e _ (by omega) (by omega)]
theorem renc_some (x : Int) : ∃ b o, ref_encode x = some (b, o) ∧ b.length ≤ 4 := by
  unfold ref_encode
  split
  · exact ⟨_, _, rfl, by simp⟩
  · split
    · exact ⟨_, _, rfl, by simp⟩
    · have : ∃ q, (if decide (x ≥ 55296) = true then some (decide (x < 57344)) else some false) = some q := by split <;> exact ⟨_, rfl⟩
      obtain ⟨q, hq⟩ := this
      have : ∃ q2, (if q = true then some true else some (decide (x > 1114111))) = some q2 := by split <;> exact ⟨_, rfl⟩
      obtain ⟨q2, hq2⟩ := this
      have e : ∀ F : Bool → Option (List UInt8 × Bool), ((if decide (x ≥ 55296) = true then some (decide (x < 57344)) else some false).bind fun b => (if b = true then some true else some (decide (x > 1114111))).bind F) = F q2 := fun F => (bds hq).trans (bds hq2)
      rw [e]
      split
      · exact ⟨_, _, rfl, by simp⟩
      · split
        · exact ⟨_, _, rfl, by simp⟩
        · exact ⟨_, _, rfl, by simp⟩
end Go.Ai.Rab
end
section
/- Names, plainly: the document's unquoting; every text. -/
set_option linter.unusedVariables false
set_option linter.unusedSimpArgs false
open Go.Ai.Enc (enc is)
namespace Go.Ai.Rab
theorem rfirst {a : UInt8} {r : List UInt8} (q : Bool) (h : ((a.toNat : Int) == 34) = q ∨ q = true) (hq : q = true ↔ (a = 34 ∨ a = 92)) : (if (decide (((List.length (a :: r) : Nat) : Int) > 0)) = true then ((nth (α := UInt8) (a :: r) 0).bind fun c => ((if (((c).toNat : Int) == 34) = true then some true else ((nth (α := UInt8) (a :: r) 0).bind fun c1 => some (((c1).toNat : Int) == 92))).bind fun b1 => some b1)) else some false) = some q := by
  rw [if_pos (decide_eq_true (by simp))]
  refine (bds nth0).trans ?_
  have e : (if ((a.toNat : Int) == 34) = true then some true else ((nth (α := UInt8) (a :: r) 0).bind fun c1 => some (((c1).toNat : Int) == 92))) = some q := by
    by_cases h1 : a = 34
    · subst h1; rw [hq.2 (.inl rfl)]; rfl
    · have n1 : ((a.toNat : Int) == 34) = false := by
        rw [beq_eq_false_iff_ne]
        intro e; exact h1 (UInt8.toNat_inj.1 (by show _ = 34; omega))
      rw [n1, if_neg Bool.false_ne_true]
      refine (bds nth0).trans ?_
      by_cases h2 : a = 92
      · subst h2; rw [hq.2 (.inr rfl)]; rfl
      · have n2 : ((a.toNat : Int) == 92) = false := by
          rw [beq_eq_false_iff_ne]
          intro e; exact h2 (UInt8.toNat_inj.1 (by show _ = 92; omega))
        rw [n2]
        cases q with
        | false => rfl
        | true => exact absurd (hq.1 rfl) (by simp [h1, h2])
  exact (bds e)
theorem rE1 {a : UInt8} {r : List UInt8} (h : a = 34 ∨ a = 92) : ref_escape (a :: r) = some ([a], 1, true) := by
  unfold ref_escape
  refine (bds (rfirst true (.inr rfl) ⟨fun _ => h, fun _ => rfl⟩)).trans ?_
  rw [if_pos rfl]
  exact bds nth0
theorem nth1 {a b : UInt8} {l : List UInt8} : nth (α := UInt8) (a :: b :: l) 1 = some b := rfl
theorem nth2 {a b c : UInt8} {l : List UInt8} : nth (α := UInt8) (a :: b :: c :: l) 2 = some c := rfl
theorem rE2 {a b : Nat} {r : List UInt8} (ha : a < 16) (hb : b < 16) : ref_escape (120 :: hexd a :: hexd b :: r) = some ([UInt8.ofNat (16 * a + b)], 3, true) := by
  unfold ref_escape
  refine (bds (rfirst false (.inl rfl) (by decide))).trans ?_
  rw [if_neg Bool.false_ne_true]
  have h2 : (if (decide (((List.length (120 :: hexd a :: hexd b :: r) : Nat) : Int) ≥ 3)) = true then ((nth (α := UInt8) (120 :: hexd a :: hexd b :: r) 0).bind fun c3 => some (((c3).toNat : Int) == 120)) else some false) = some true := by
    rw [if_pos (decide_eq_true (by simp; omega))]; rfl
  refine (bds h2).trans ?_
  have h3 : (if true = true then ((nth (α := UInt8) (120 :: hexd a :: hexd b :: r) 1).bind fun c4 => ((ref_digit c4).bind fun r_ => some (decide (r_ ≥ 0)))) else some false) = some true := by
    rw [if_pos rfl]
    refine (bds nth1).trans ((bds (Digit_hexd ha)).trans ?_)
    rw [decide_eq_true (by omega)]
  refine (bds h3).trans ?_
  have h4 : (if true = true then ((nth (α := UInt8) (120 :: hexd a :: hexd b :: r) 2).bind fun c5 => ((ref_digit c5).bind fun r_1 => some (decide (r_1 ≥ 0)))) else some false) = some true := by
    rw [if_pos rfl]
    refine (bds nth2).trans ((bds (Digit_hexd hb)).trans ?_)
    rw [decide_eq_true (by omega)]
  refine (bds h4).trans ?_
  rw [if_pos rfl]
  refine (bds nth1).trans ((bds (Digit_hexd ha)).trans ((bds nth2).trans ((bds (Digit_hexd hb)).trans ?_)))
  rw [i64w (n := 16 * (a : Int)) (by omega), i64w (by omega), show (16 * (a : Int) + (b : Int)) = ((16 * a + b : Nat) : Int) by omega, ofInt_nat]
theorem resc_loop {s r : List UInt8} {n : Nat} (hn : n < 55296 ∨ (57344 ≤ n ∧ n ≤ 1114111)) : ∀ (ds : List Nat) (x i : Nat), s.drop i = ds.map hexd ++ 125 :: r → i + ds.length ≤ 8 → 2 ≤ i → (ds ≠ [] ∨ 2 < i) → okv ds x → val ds x = n →
    loop (ref_escape_l1 s) ((x : Int), (i : Int)) = some (.inr (Go.Lib.encodeRune (n : Int), ((i + ds.length + 1 : Nat) : Int), true))
  | [], x, i, h1, h2, h3, h4, h5, h6 => by
    have hx : x = n := h6
    subst hx
    have hi : i < s.length := by
      have := congrArg List.length h1
      rw [List.length_drop] at this; simp at this; omega
    have hc : nth (α := UInt8) s (i : Int) = some 125 := by
      rw [nth_at hi]
      have : (s.drop i).getD 0 0 = 125 := by rw [h1]; rfl
      rw [← this]; simp [List.getD, List.getElem?_drop]
    have h2i : 2 < i := h4.resolve_left (by simp)
    refine loop_done ?_
    have hb : (if (decide ((i : Int) < ((List.length s : Nat) : Int))) = true then some (decide ((i : Int) < 9)) else some false) = some true := by
      rw [if_pos (decide_eq_true (by omega)), decide_eq_true (by simp at h2; omega)]
    refine (bds hb).trans ?_
    rw [if_pos rfl]
    refine (bds hc).trans ?_
    have hb8 : (if (((((125 : UInt8)).toNat : Nat) : Int) == 125) = true then some (decide ((i : Int) > 2)) else some false) = some true := by
      rw [decide_eq_true (by omega)]; rfl
    refine (bds hb8).trans ?_
    rw [if_pos rfl]
    refine (bds (renc_list hn)).trans ?_
    rw [i64w (by omega)]; rfl
  | d :: ds, x, i, h1, h2, h3, h4, h5, h6 => by
    obtain ⟨o1, o2, o3⟩ := h5
    have hi : i < s.length := by
      have := congrArg List.length h1
      rw [List.length_drop] at this; simp at this; omega
    have hc : nth (α := UInt8) s (i : Int) = some (hexd d) := by
      rw [nth_at hi]
      have : (s.drop i).getD 0 0 = hexd d := by rw [h1]; rfl
      rw [← this]; simp [List.getD, List.getElem?_drop]
    have hlen : i + ds.length + 1 ≤ 8 := by simp at h2; omega
    have hd2 : s.drop (i + 1) = ds.map hexd ++ 125 :: r := by
      have : s.drop (i + 1) = (s.drop i).drop 1 := by rw [List.drop_drop]
      rw [this, h1]; rfl
    have hb' : ref_escape_l1 s ((x : Int), (i : Int)) = some (.inl (((16 * x + d : Nat) : Int), ((i + 1 : Nat) : Int))) := by
      have hb : (if (decide ((i : Int) < ((List.length s : Nat) : Int))) = true then some (decide ((i : Int) < 9)) else some false) = some true := by
        rw [if_pos (decide_eq_true (by omega)), decide_eq_true (by omega)]
      refine (bds hb).trans ?_
      rw [if_pos rfl]
      refine (bds hc).trans ?_
      have hne := (hexd_low ⟨d, o2⟩).2.1
      have hb8 : (if ((((hexd d).toNat : Nat) : Int) == 125) = true then some (decide ((i : Int) > 2)) else some false) = some false := by
        rw [if_neg]
        rw [beq_iff_eq]
        intro e
        exact hne (UInt8.toNat_inj.1 (by show (hexd d).toNat = 125; omega))
      refine (bds hb8).trans ?_
      rw [if_neg Bool.false_ne_true]
      refine (bds hc).trans ((bds (Digit_hexd o2)).trans ?_)
      rw [if_neg (by simp)]
      refine (bds hc).trans ((bds (Digit_hexd o2)).trans ?_)
      rw [i64w (n := 16 * (x : Int)) (by omega), i64w (by omega), i64w (by omega), show (16 * (x : Int) + (d : Int)) = ((16 * x + d : Nat) : Int) by omega]
      rfl
    rw [loop_next hb', resc_loop hn ds _ (i + 1) hd2 (by omega) (by omega) (.inr (by omega)) o3 h6]
    congr 3
    simp; omega
theorem rE3 {n : Nat} {r : List UInt8} (hn : n < 55296 ∨ (57344 ≤ n ∧ n ≤ 1114111)) : ref_escape (117 :: 123 :: (hexS n ++ 125 :: r)) = some (Go.Lib.encodeRune (n : Int), (((hexS n).length + 3 : Nat) : Int), true) := by
  obtain ⟨ds, g1, g2, g3, g4⟩ := hexS_digs n n (Nat.le_refl _) (by omega)
  have hlen := hexS_len 6 n (by have : (16 : Nat) ^ 6 = 16777216 := by decide
                                omega) (by omega)
  unfold ref_escape
  refine (bds (rfirst false (.inl rfl) (by decide))).trans ?_
  rw [if_neg Bool.false_ne_true]
  have h2 : (if (decide (((List.length (117 :: 123 :: (hexS n ++ 125 :: r)) : Nat) : Int) ≥ 3)) = true then ((nth (α := UInt8) (117 :: 123 :: (hexS n ++ 125 :: r)) 0).bind fun c3 => some (((c3).toNat : Int) == 120)) else some false) = some false := by
    rw [if_pos (decide_eq_true (by simp; omega))]; rfl
  refine (bds h2).trans ?_
  rw [if_neg Bool.false_ne_true]
  refine (bds rfl).trans ?_
  rw [if_neg Bool.false_ne_true]
  refine (bds rfl).trans ?_
  rw [if_neg Bool.false_ne_true]
  have hpos : 1 ≤ (hexS n).length := by rw [g1, List.length_map]; exact List.length_pos_iff.2 g4
  have h5 : (if (decide (((List.length (117 :: 123 :: (hexS n ++ 125 :: r)) : Nat) : Int) < 4)) = true then some true else ((nth (α := UInt8) (117 :: 123 :: (hexS n ++ 125 :: r)) 0).bind fun c8 => some (((c8).toNat : Int) != 117))) = some false := by
    rw [if_neg (by simp; omega)]; rfl
  refine (bds h5).trans ?_
  rw [if_neg Bool.false_ne_true]
  have h6 : ((nth (α := UInt8) (117 :: 123 :: (hexS n ++ 125 :: r)) 1).bind fun c9 => some (((c9).toNat : Int) != 123)) = some false := rfl
  refine (bds h6).trans ?_
  rw [if_neg Bool.false_ne_true]
  have hl := resc_loop (s := 117 :: 123 :: (hexS n ++ 125 :: r)) (r := r) hn ds 0 2 (by rw [g1]; rfl) (by rw [g1, List.length_map] at hlen; omega) (by omega) (.inl g4) g3 g2
  refine (bds hl).trans ?_
  show some (Go.Lib.encodeRune (n : Int), ((2 + ds.length + 1 : Nat) : Int), true) = _
  have : (2 + ds.length + 1 : Nat) = (hexS n).length + 3 := by rw [g1, List.length_map]; omega
  rw [this]
theorem rn_valid (l : List UInt8) : rn l < 55296 ∨ (57344 ≤ rn l ∧ rn l ≤ 1114111) := by
  unfold rn
  rw [Go.Lib.decodeL_N]
  have := Go.Lib.decodeN_valid l.length (l.getD 0 0).toNat (l.getD 1 0).toNat (l.getD 2 0).toNat (l.getD 3 0).toNat (l.getD 0 0).toNat_lt
  omega
theorem rpiece_esc {l : List UInt8} (h : l ≠ []) (hp : ¬ plainR l) (r : List UInt8) : ∃ tl, piece l = 92 :: tl ∧ ref_escape (tl ++ r) = some (l.take (wd l), (tl.length : Int), true) := by
  cases ho : okr l with
  | false =>
    refine ⟨[120, hexd ((l.getD 0 0).toNat / 16), hexd ((l.getD 0 0).toNat % 16)], by unfold piece; rw [if_pos ho], ?_⟩
    have hw : wd l = 1 := by
      unfold okr at ho
      simp at ho; exact ho.2
    have hb := (l.getD 0 0).toNat_lt
    have := rE2 (a := (l.getD 0 0).toNat / 16) (b := (l.getD 0 0).toNat % 16) (r := r) (by omega) (by omega)
    rw [hexd_byte] at this
    rw [hw, take1 h]
    exact this
  | true =>
    by_cases h34 : rn l = 34 ∨ rn l = 92
    · obtain ⟨k1, k2⟩ := rn_low h (by omega)
      have e : UInt8.ofNat (rn l) = l.getD 0 0 := by rw [← k2]; simp
      refine ⟨[l.getD 0 0], by unfold piece; rw [if_neg (by rw [ho]; simp), if_pos h34, e], ?_⟩
      rw [k1, take1 h]
      refine rE1 ?_
      rcases h34 with h34 | h34
      · left; apply UInt8.toNat_inj.1; rw [k2, h34]; rfl
      · right; apply UInt8.toNat_inj.1; rw [k2, h34]; rfl
    · have hn : ¬ (32 ≤ rn l ∧ rn l ≤ 126) := fun hc => hp ⟨ho, hc.1, hc.2, fun e => h34 (.inl e), fun e => h34 (.inr e)⟩
      refine ⟨117 :: 123 :: (hexS (rn l) ++ [125]), by unfold piece; rw [if_neg (by rw [ho]; simp), if_neg h34, if_neg hn]; rfl, ?_⟩
      have := rE3 (n := rn l) (r := r) (rn_valid l)
      have he : Go.Lib.encodeRune ((rn l : Nat) : Int) = l.take (wd l) := Go.Lib.encode_decode l h (by
        intro hc
        have : okr l = false := by
          unfold okr
          rw [decide_eq_true (show rn l = 65533 ∧ wd l = 1 from hc)]; rfl
        rw [this] at ho; cases ho)
      rw [he] at this
      have e2 : 117 :: 123 :: (hexS (rn l) ++ [125]) ++ r = 117 :: 123 :: (hexS (rn l) ++ 125 :: r) := by simp
      rw [e2, this]
      congr 3
      simp
      omega
theorem qt_ne {t : List UInt8} (ht : t ≠ []) : qt t ≠ [] := by
  intro e
  rw [qt_cons ht] at e
  have h4 := (List.append_eq_nil_iff.1 e).1
  by_cases hp : plainR t
  · rw [(piece_plain ht hp).1] at h4; cases h4
  · obtain ⟨tl, k1, _⟩ := piece_esc ht hp [] (by simp)
    rw [k1] at h4; cases h4
theorem runq_loop {s : List UInt8} (hs : s.length ≤ 100000000) : ∀ (f : Nat) (t out : List UInt8) (i : Nat), t.length ≤ f → s.drop i = qt t ++ [34] → out.length + t.length ≤ 100000000 → loop (ref_Unquote_l1 s) (out, (i : Int)) = some (.inl (out ++ t))
  | f, t, out, i, h1, h2, h3 => by
    have hlen : s.length = i + (qt t).length + 1 := by
      have := congrArg List.length h2
      rw [List.length_drop] at this; simp at this; omega
    have hw : IntKind.i64.wrap (((List.length s : Nat) : Int) - 1) = ((s.length - 1 : Nat) : Int) := by rw [i64w (by omega)]; omega
    by_cases ht : t = []
    · subst ht
      refine (loop_done (r := .inl out) ?_).trans (by simp)
      show (if decide ((i : Int) < IntKind.i64.wrap (((List.length s : Nat) : Int) - 1)) = true then _ else _) = _
      have : (qt []).length = 0 := rfl
      rw [hw, if_neg (by simp; omega)]
    · have hq : 0 < (qt t).length := List.length_pos_iff.2 (qt_ne ht)
      have hi : i < s.length := by omega
      have hl : 0 < t.length := List.length_pos_iff.2 ht
      obtain ⟨f, rfl⟩ : ∃ g, f = g + 1 := ⟨f - 1, by omega⟩
      have hc : nth (α := UInt8) s (i : Int) = some ((qt t ++ [34]).getD 0 0) := by
        rw [nth_at hi, ← h2]
        simp [List.getD, List.getElem?_drop]
      have hd1 : s.drop (i + 1) = (qt t ++ [34]).drop 1 := by rw [← h2, List.drop_drop]
      by_cases hp : plainR t
      · obtain ⟨k1, k2, k3⟩ := piece_plain ht hp
        have hqt : qt t = t.getD 0 0 :: qt (t.drop 1) := by rw [qt_cons ht, k1, k2]; rfl
        have hb : ref_Unquote_l1 s (out, (i : Int)) = some (.inl (out ++ [t.getD 0 0], ((i + 1 : Nat) : Int))) := by
          show (if decide ((i : Int) < IntKind.i64.wrap (((List.length s : Nat) : Int) - 1)) = true then _ else _) = _
          rw [hw, if_pos (decide_eq_true (by omega))]
          rw [hqt] at hc
          refine (bds hc).trans ?_
          show (if (((t.getD 0 0).toNat : Int) != 92) = true then ((nth (α := UInt8) s (i : Int)).bind fun c3 => ((app 1 out [c3]).bind fun l => some (Sum.inl (l, (IntKind.i64.wrap ((i : Int) + 1)))))) else _) = _
          rw [if_pos (by rw [bne_iff_ne]; intro e; exact k3 (UInt8.toNat_inj.1 (by show _ = 92; omega)))]
          refine (bds hc).trans ((bds (app1b (by simp; omega))).trans ?_)
          rw [i64w (by omega)]; rfl
        have et : t = t.getD 0 0 :: t.drop 1 := by
          cases t with
          | nil => exact absurd rfl ht
          | cons a t => rfl
        rw [loop_next hb, runq_loop hs f (t.drop 1) (out ++ [t.getD 0 0]) (i + 1) (by rw [List.length_drop]; omega) (by rw [hd1, hqt]; rfl) (by simp; omega)]
        congr 2
        conv => rhs; rw [et]
        simp
      · have hw1 := wd_pos t
        have hwl := wd_le ht
        obtain ⟨tl, k1, k2⟩ := rpiece_esc ht hp (qt (t.drop (wd t)) ++ [34])
        have hqt : qt t = 92 :: (tl ++ qt (t.drop (wd t))) := by rw [qt_cons ht, k1]; rfl
        have hql : (qt t).length = 1 + tl.length + (qt (t.drop (wd t))).length := by rw [hqt]; simp; omega
        have hb : ref_Unquote_l1 s (out, (i : Int)) = some (.inl (out ++ t.take (wd t), ((i + 1 + tl.length : Nat) : Int))) := by
          show (if decide ((i : Int) < IntKind.i64.wrap (((List.length s : Nat) : Int) - 1)) = true then _ else _) = _
          rw [hw, if_pos (decide_eq_true (by omega))]
          rw [hqt] at hc
          have hc : nth (α := UInt8) s (i : Int) = some 92 := hc
          refine (bds hc).trans ?_
          rw [if_neg (show ¬ (((((92 : UInt8)).toNat : Nat) : Int) != 92) = true by decide)]
          have hsub : subT s (IntKind.i64.wrap ((i : Int) + 1)) (List.length s : Nat) = some (str (tl ++ (qt (t.drop (wd t)) ++ [34]))) := by
            have e : IntKind.i64.wrap ((i : Int) + 1) = ((i + 1 : Nat) : Int) := by rw [i64w (by omega)]; rfl
            rw [e]
            refine (subT_drop (s := s) (i := i + 1) (by omega)).trans ?_
            rw [hd1, hqt]
            simp; rfl
          refine (bds hsub).trans ((bds k2).trans ?_)
          rw [if_neg (by simp)]
          refine (bds (app1b (by simp; omega))).trans ?_
          show some (Sum.inl (out ++ t.take (wd t), IntKind.i64.wrap (IntKind.i64.wrap ((i : Int) + 1) + (tl.length : Int)))) = _
          rw [i64w (n := (i : Int) + 1) (by omega), i64w (by omega)]
          rfl
        have hd2 : s.drop (i + 1 + tl.length) = qt (t.drop (wd t)) ++ [34] := by
          rw [← List.drop_drop, hd1, hqt]
          simp
        rw [loop_next hb, runq_loop hs f (t.drop (wd t)) (out ++ t.take (wd t)) _ (by rw [List.length_drop]; omega) hd2 (by simp; omega)]
        congr 2
        rw [List.append_assoc, List.take_append_drop]
theorem rUnquote_qts {t : List UInt8} (h : t.length ≤ 8000000) : ref_Unquote (qts t) = some (str t, true) := by
  have hql := qt_len t.length t (Nat.le_refl _)
  have hsl : (qts t).length = (qt t).length + 2 := by unfold qts; simp
  unfold ref_Unquote
  have e0 : nth (α := UInt8) (qts t) 0 = some 34 := rfl
  have e1 : nth (α := UInt8) (qts t) (IntKind.i64.wrap (((List.length (qts t) : Nat) : Int) - 1)) = some 34 := by
    have e : IntKind.i64.wrap (((List.length (qts t) : Nat) : Int) - 1) = (((qt t).length + 1 : Nat) : Int) := by
      have : ((List.length (qts t) : Nat) : Int) = (((qt t).length + 2 : Nat) : Int) := by rw [← hsl]
      rw [this, i64w (by omega)]; omega
    rw [e, nth_nat]
    unfold qts
    simp
  have hb : (if (decide (((List.length (qts t) : Nat) : Int) < 2)) = true then some true else ((nth (α := UInt8) (qts t) 0).bind fun c => some (((c).toNat : Int) != 34))) = some false := by
    rw [if_neg (by have : ((List.length (qts t) : Nat) : Int) = (((qt t).length + 2 : Nat) : Int) := by rw [← hsl]
                   rw [this]; simp; omega)]
    exact (bds e0)
  refine (bds hb).trans ?_
  rw [if_neg Bool.false_ne_true]
  have hb2 : ((nth (α := UInt8) (qts t) (IntKind.i64.wrap (((List.length (qts t) : Nat) : Int) - 1))).bind fun c1 => some (((c1).toNat : Int) != 34)) = some false := bds e1
  refine (bds hb2).trans ?_
  rw [if_neg Bool.false_ne_true]
  show (loop (ref_Unquote_l1 (qts t)) ([], ((1 : Nat) : Int))).bind (ref_Unquote_a1 (qts t)) = _
  refine (bds (runq_loop (s := qts t) (by omega) t.length t [] 1 (Nat.le_refl _) rfl (by simp; omega))).trans ?_
  show ((ref_Quote (str ([] ++ t))).bind fun r_1 => if (!eqS r_1 (qts t)) = true then some (str [], false) else some (str ([] ++ t), true)) = _
  rw [List.nil_append]
  refine (bds (rQuote_eq h)).trans ?_
  rw [show eqS (str (qts t)) (qts t) = true from eqS_refl _]
  rfl
end Go.Ai.Rab
end
section
/- Names, plainly: every text is unquoted, or not; the laws. -/
set_option linter.unusedVariables false
set_option linter.unusedSimpArgs false
open Go.Ai.Enc (enc is)
namespace Go.Ai.Rab
/-- A loop that goes down comes to an end. -/
theorem loop_inv {σ ρ : Type} {body : σ → Option (σ ⊕ ρ)} (I : σ → Prop) (Q : ρ → Prop) (m : σ → Nat)
    (h : ∀ a, I a → (∃ b, body a = some (.inl b) ∧ I b ∧ m b < m a) ∨ (∃ r, body a = some (.inr r) ∧ Q r)) : ∀ (n : Nat) (a : σ), m a ≤ n → I a → ∃ r, loop body a = some r ∧ Q r
  | n, a, hn, hI => by
    rcases h a hI with ⟨b, h1, h2, h3⟩ | ⟨r, h1, h2⟩
    · obtain ⟨n, rfl⟩ : ∃ k, n = k + 1 := ⟨n - 1, by omega⟩
      rw [loop_next h1]
      exact loop_inv I Q m h n b (by omega) h2
    · exact ⟨r, loop_done h1, h2⟩
theorem encR_len (r : Rune) : List.length (encR r) ≤ 4 := by
  have : ((Utf8.encode r.v).data.toList).length ≤ 4 := by
    unfold Utf8.encode
    generalize (if Utf8.valid r.v = true then r.v.toNat else Utf8.runeError) = c
    show (List.length (if c < 128 then _ else _ : ByteArray).data.toList) ≤ 4
    split
    · simp
    · split
      · simp
      · split <;> simp
  unfold encR
  exact this
theorem Index16_some (sub : List UInt8) : ∃ r, strings_Index (str digs16) (str sub) = some r := by
  have : ∃ r, slite_Index (str digs16) (str sub) = some r := by
    unfold slite_Index
    split
    · exact ⟨_, rfl⟩
    · exact ⟨_, if_pos (by decide)⟩
  obtain ⟨r, hr⟩ := this
  exact ⟨r, bds hr⟩
theorem digits_some (s : List UInt8) : ∃ r, name_digits s = some r := by
  unfold name_digits
  obtain ⟨r, hr, _⟩ := loop_inv (body := name_digits_l1 s) (fun _ => True) (fun _ => True) (fun a => s.length - a.2) (fun a _ => by
    obtain ⟨x, v⟩ := a
    by_cases hv : v < s.length
    · obtain ⟨q, hq⟩ := Index16_some (encR (runeAt s v))
      have e : name_digits_l1 s (x, v) = (if decide (q < 0) = true then some true else some (decide (x.v > 1114111))).bind fun b => if b = true then some (.inr (.inr (Rune.mk 0, false))) else some (.inl (Rune.mk (IntKind.i32.wrap (bitOr .i32 (IntKind.i32.wrap (x.v * 2 ^ 4)) (IntKind.i32.wrap q))), v + runeLen s v)) := by
        show (if v < List.length s then _ else _) = _
        rw [if_pos hv]
        exact bds hq
      have hb : ∃ b, (if decide (q < 0) = true then some true else some (decide (x.v > 1114111))) = some b := by split <;> exact ⟨_, rfl⟩
      obtain ⟨b, hb⟩ := hb
      rw [bds hb] at e
      cases b with
      | true => exact .inr ⟨_, e, trivial⟩
      | false =>
        refine .inl ⟨_, e, trivial, ?_⟩
        have := wd_pos (List.drop v s)
        rw [← runeLen_eq] at this
        show s.length - (v + runeLen s v) < s.length - v
        omega
    · refine .inr ⟨.inl x, ?_, trivial⟩
      show (if v < List.length s then _ else _) = _
      rw [if_neg hv]) _ (Rune.mk 0, 0) (Nat.le_refl _) trivial
  rw [hr]
  rcases r with x1 | ⟨v1, v2⟩
  · exact ⟨_, rfl⟩
  · exact ⟨_, rfl⟩
theorem ib_some (c : UInt8) (s : List UInt8) : c ∉ s ∨ ∃ a b, s = a ++ c :: b ∧ c ∉ a := by
  induction s with
  | nil => left; simp
  | cons x s ih =>
    by_cases hx : x = c
    · subst hx; exact .inr ⟨[], s, rfl, by simp⟩
    · rcases ih with h | ⟨a, b, rfl, h⟩
      · left
        simp only [List.mem_cons, not_or]
        exact ⟨fun e => hx e.symm, h⟩
      · right
        refine ⟨x :: a, b, rfl, ?_⟩
        simp only [List.mem_cons, not_or]
        exact ⟨fun e => hx e.symm, h⟩
theorem Cut_some (s : List UInt8) (c : UInt8) (h : s.length ≤ 9223372036854775807) : ∃ a b m, strings_Cut s (str [c]) = some (str a, str b, m) ∧ ((m = true ∧ a.length + 1 + b.length = s.length) ∨ (m = false ∧ a = s ∧ b = [])) := by
  rcases ib_some c s with h1 | ⟨a, b, rfl, h1⟩
  · exact ⟨s, [], false, Cut_miss h1, .inr ⟨rfl, rfl, rfl⟩⟩
  · exact ⟨a, b, true, Cut_hit h1 h, .inl ⟨rfl, by simp; omega⟩⟩
theorem escape_some (s : List UInt8) (h : s.length ≤ 9223372036854775807) : ∃ x rest ok, name_escape s = some (str x, str rest, ok) ∧ x.length ≤ 4 ∧ rest.length ≤ s.length := by
  unfold name_escape
  rw [eqS_dec]
  by_cases h0 : s = []
  · rw [if_pos (decide_eq_true h0)]
    exact ⟨[], [], false, rfl, by simp, by simp⟩
  · rw [if_neg (by simpa using h0)]
    have hl : 0 < s.length := List.length_pos_iff.2 h0
    have e0 : nth (α := UInt8) s 0 = some (s.getD 0 0) := nth_at (l := s) (i := 0) hl
    rw [bds e0]
    generalize s.getD 0 0 = c at *
    have hb : ∃ b, (if ((c.toNat : Int) == 34) = true then some true else ((nth (α := UInt8) s 0).bind fun c1 => some (((c1).toNat : Int) == 92))) = some b := by
      split
      · exact ⟨_, rfl⟩
      · exact ⟨_, bds e0⟩
    obtain ⟨b, hb⟩ := hb
    rw [bds hb]
    have e1 : subT s 0 1 = some (str ((s.take 1).drop 0)) := sub_nat (α := UInt8) s 0 1 (by omega) (by omega)
    have e2 : subT s 1 (List.length s : Nat) = some (str (s.drop 1)) := subT_drop (s := s) (i := 1) (by omega)
    cases b with
    | true =>
      rw [if_pos rfl, bds e1, bds e2]
      exact ⟨_, _, _, rfl, by simp; omega, by simp⟩
    | false =>
      rw [if_neg Bool.false_ne_true, bds e0]
      by_cases h1 : (if ((c.toNat : Int) == 120) = true then some (decide (((List.length s : Nat) : Int) ≥ 3)) else some false) = some true
      · have h3 : 3 ≤ s.length := by
          split at h1
          · injection h1 with h1; have := of_decide_eq_true h1; omega
          · cases h1
        rw [bds h1, if_pos rfl]
        have e3 : subT s 1 3 = some (str ((s.take 3).drop 1)) := sub_nat (α := UInt8) s 1 3 (by omega) (by omega)
        have e4 : subT s 3 (List.length s : Nat) = some (str (s.drop 3)) := subT_drop (s := s) (i := 3) (by omega)
        obtain ⟨r, hr⟩ := digits_some ((s.take 3).drop 1)
        have hr : name_digits (str ((s.take 3).drop 1)) = some r := hr
        rw [bds e3, bds hr, bds e4]
        exact ⟨_, _, _, rfl, by simp, by simp⟩
      · have h1' : (if ((c.toNat : Int) == 120) = true then some (decide (((List.length s : Nat) : Int) ≥ 3)) else some false) = some false := by
          split at h1
          · rename_i hc
            rw [if_pos hc]
            cases hd : decide (((List.length s : Nat) : Int) ≥ 3) with
            | true => exact absurd (congrArg some hd) h1
            | false => rfl
          · rename_i hc
            rw [if_neg hc]
        rw [bds h1', if_neg Bool.false_ne_true]
        have hp : strings_HasPrefix s (str [117, 123]) = some (Go.Lib.hasPrefix s [117, 123]) := rfl
        rw [bds hp]
        cases hpp : Go.Lib.hasPrefix s [117, 123] with
        | false =>
          rw [if_neg Bool.false_ne_true]
          exact ⟨[], [], false, rfl, by simp, by simp⟩
        | true =>
          have h2 : 2 ≤ s.length := by
            have : [117, 123] <+: s := List.isPrefixOf_iff_prefix.1 hpp
            have := this.length_le
            simpa using this
          rw [if_pos rfl]
          have e5 : subT s 2 (List.length s : Nat) = some (str (s.drop 2)) := subT_drop (s := s) (i := 2) h2
          obtain ⟨a, bb, m, hc, hcm⟩ := Cut_some (s.drop 2) 125 (by rw [List.length_drop]; omega)
          have hc : strings_Cut (str (s.drop 2)) (str [125]) = some (str a, str bb, m) := hc
          obtain ⟨r, hr⟩ := digits_some a
          have hr : name_digits (str a) = some r := hr
          rw [bds e5, bds hc, bds hr]
          have hq : ∃ q, (if r.2 = true then some m else some false) = some q := by split <;> exact ⟨_, rfl⟩
          obtain ⟨q, hq⟩ := hq
          have : ((if r.2 = true then some m else some false).bind fun b2 => some (encR r.1, str bb, b2)) = some (encR r.1, str bb, q) := bds hq
          rw [this]
          refine ⟨_, _, _, rfl, encR_len _, ?_⟩
          rcases hcm with ⟨_, hcm⟩ | ⟨_, _, hcm⟩
          · rw [List.length_drop] at hcm; omega
          · rw [hcm]; simp
theorem Unquote_some (s : List UInt8) (h : s.length ≤ 1048576) : ∃ t ok, name_Unquote s = some (str t, ok) ∧ ((ok = true ∧ qts t = s ∧ t.length ≤ 8000000) ∨ (ok = false ∧ t = [])) := by
  unfold name_Unquote
  have e1 : strings_CutPrefix s (str [34]) = some (str (Go.Lib.trimPrefix s [34]), Go.Lib.hasPrefix s [34]) := rfl
  have hl1 : (Go.Lib.trimPrefix s [34]).length ≤ s.length := by
    unfold Go.Lib.trimPrefix
    split
    · rw [List.length_drop]; omega
    · exact Nat.le_refl _
  rw [bds e1]
  generalize Go.Lib.trimPrefix s [34] = s1 at *
  generalize Go.Lib.hasPrefix s [34] = p1 at *
  have e2 : strings_CutSuffix s1 (str [34]) = some (str (Go.Lib.trimSuffix s1 [34]), Go.Lib.hasSuffix s1 [34]) := if_pos (show s1.length ≤ 9223372036854775807 by omega)
  have hl2 : (Go.Lib.trimSuffix s1 [34]).length ≤ s1.length := by
    unfold Go.Lib.trimSuffix
    split
    · rw [List.length_take]; omega
    · exact Nat.le_refl _
  rw [bds e2]
  generalize Go.Lib.trimSuffix s1 [34] = s2 at *
  generalize Go.Lib.hasSuffix s1 [34] = p2 at *
  have hb : ∃ b, (if (!p1) = true then some true else some (!p2)) = some b := by split <;> exact ⟨_, rfl⟩
  obtain ⟨b, hb⟩ := hb
  show ∃ t ok, ((if (!p1) = true then some true else some (!p2)).bind fun b => if b = true then some (str [], false) else (loop name_Unquote_l1 (s2, str [])).bind (name_Unquote_a1 s)) = some (str t, ok) ∧ _
  rw [bds hb]
  cases b with
  | true => exact ⟨[], false, rfl, .inr ⟨rfl, rfl⟩⟩
  | false =>
    rw [if_neg Bool.false_ne_true]
    obtain ⟨r, hr, hQ⟩ := loop_inv (body := name_Unquote_l1) (fun a => List.length a.2 + 4 * List.length a.1 ≤ 4 * 1048576) (fun r => match r with | .inl o => List.length o ≤ 4 * 1048576 | .inr (v, v1) => v = [] ∧ v1 = false) (fun a => List.length a.1) (fun a hI => by
      obtain ⟨inner, out⟩ := a
      have hI : List.length out + 4 * List.length inner ≤ 4 * 1048576 := hI
      by_cases h0 : (show List UInt8 from inner) = []
      · refine .inr ⟨.inl out, ?_, ?_⟩
        · show (if (!eqS inner (str [])) = true then _ else _) = _
          rw [eqS_dec (show List UInt8 from inner), decide_eq_true h0]; rfl
        · show List.length out ≤ 4 * 1048576
          omega
      · have hpos : 0 < List.length inner := List.length_pos_iff.2 h0
        obtain ⟨a, bb, m, hc, hcm⟩ := Cut_some (show List UInt8 from inner) 92 (by show List.length inner ≤ _; omega)
        have hcl : a.length ≤ List.length inner ∧ bb.length < List.length inner ∧ (m = true → a.length + 1 + bb.length = List.length inner) := by
          rcases hcm with ⟨_, hcm⟩ | ⟨hm, hcm, hcm2⟩
          · have hcm : a.length + 1 + bb.length = List.length inner := hcm
            exact ⟨by omega, by omega, fun _ => hcm⟩
          · have q1 : a.length = List.length inner := congrArg List.length hcm
            have q2 : bb.length = 0 := congrArg List.length hcm2
            exact ⟨by omega, by omega, fun e => by rw [hm] at e; cases e⟩
        have e : name_Unquote_l1 (inner, out) = (if m = true then ((name_escape bb).bind fun r_3 => (if (!r_3.2.2) = true then some (.inr (.inr ((str []), false))) else ((catT (str ((show List UInt8 from out) ++ a)) r_3.1).bind fun s_2 => some (.inl (r_3.2.1, s_2))))) else some (.inl (str bb, str ((show List UInt8 from out) ++ a)))) := by
          show (if (!eqS inner (str [])) = true then _ else _) = _
          rw [eqS_dec (show List UInt8 from inner), decide_eq_false h0, Bool.not_false, if_pos rfl]
          exact (bds hc).trans (bds (catT_ok (a := (show List UInt8 from out)) (b := a) (by show List.length out + _ ≤ _; omega)))
        cases m with
        | false =>
          rw [if_neg Bool.false_ne_true] at e
          refine .inl ⟨_, e, ?_, hcl.2.1⟩
          show ((show List UInt8 from out) ++ a).length + 4 * bb.length ≤ _
          rw [List.length_append]
          show List.length out + a.length + 4 * bb.length ≤ _
          rcases hcm with ⟨hm, _⟩ | ⟨_, hcm, hcm2⟩
          · cases hm
          · have q1 : a.length = List.length inner := congrArg List.length hcm
            have q2 : bb.length = 0 := congrArg List.length hcm2
            omega
        | true =>
          have hs := hcl.2.2 rfl
          rw [if_pos rfl] at e
          obtain ⟨x, rest, ok, g1, g2, g3⟩ := escape_some bb (by omega)
          rw [bds g1] at e
          cases ok with
          | false =>
            refine .inr ⟨_, e, ?_⟩
            exact ⟨rfl, rfl⟩
          | true =>
            have hlen : ((show List UInt8 from out) ++ a).length = List.length out + a.length := List.length_append
            have e' : name_Unquote_l1 (inner, out) = some (.inl (str rest, str ((show List UInt8 from out) ++ a ++ x))) := e.trans ((if_neg (by simp)).trans (bds (catT_ok (a := (show List UInt8 from out) ++ a) (b := x) (by omega))))
            refine .inl ⟨_, e', ?_, ?_⟩
            · show ((show List UInt8 from out) ++ a ++ x).length + 4 * rest.length ≤ _
              rw [List.length_append, hlen]
              omega
            · show rest.length < List.length inner
              omega) _ (s2, str []) (Nat.le_refl _) (by
        show 0 + 4 * s2.length ≤ _
        omega)
    rw [bds hr]
    rcases r with o | ⟨v, v1⟩
    · have hQ : List.length o ≤ 4 * 1048576 := hQ
      have hq : name_Quote o = some (str (qts o)) := Quote_eq (s := o) (by show List.length o ≤ _; omega)
      show ∃ t ok, ((name_Quote o).bind fun r_4 => if (!eqS r_4 s) = true then some (str [], false) else some (o, true)) = some (str t, ok) ∧ _
      rw [bds hq]
      cases he : eqS (str (qts o)) s with
      | false => exact ⟨[], false, rfl, .inr ⟨rfl, rfl⟩⟩
      | true =>
        refine ⟨o, true, rfl, .inl ⟨rfl, ?_, by show List.length o ≤ _; omega⟩⟩
        rw [eqS_dec (qts o)] at he
        exact of_decide_eq_true he
    · obtain ⟨rfl, rfl⟩ := hQ
      exact ⟨[], false, rfl, .inr ⟨rfl, rfl⟩⟩
end Go.Ai.Rab
end
section
/- Names, plainly: the document's unquoting comes to an end for every text. -/
set_option linter.unusedVariables false
set_option linter.unusedSimpArgs false
open Go.Ai.Enc (enc is)
namespace Go.Ai.Rab
theorem andO (b : Bool) (o : Option Bool) (h : b = true → ∃ x, o = some x) : ∃ b', (if b = true then o else some false) = some b' ∧ (b' = true → b = true ∧ o = some true) := by
  cases b with
  | true => obtain ⟨x, hx⟩ := h rfl; exact ⟨x, (if_pos rfl).trans hx, fun e => ⟨rfl, by rw [hx, e]⟩⟩
  | false => exact ⟨false, if_neg Bool.false_ne_true, fun e => by cases e⟩
theorem orO (b : Bool) (o : Option Bool) (h : b = false → ∃ x, o = some x) : ∃ b', (if b = true then some true else o) = some b' ∧ (b' = false → b = false ∧ o = some false) := by
  cases b with
  | false => obtain ⟨x, hx⟩ := h rfl; exact ⟨x, (if_neg Bool.false_ne_true).trans hx, fun e => ⟨rfl, by rw [hx, e]⟩⟩
  | true => exact ⟨true, if_pos rfl, fun e => by cases e⟩
theorem nthI {s : List UInt8} {i : Int} (h0 : 0 ≤ i) (h1 : i < s.length) : ∃ c, nth (α := UInt8) s i = some c := by
  obtain ⟨n, rfl⟩ : ∃ n : Nat, i = n := ⟨i.toNat, by omega⟩
  exact ⟨_, nth_at (by omega)⟩
theorem rescl_some {s : List UInt8} (hs : s.length ≤ 9223372036854775807) : ∃ r, loop (ref_escape_l1 s) (0, 2) = some r ∧ match r with | .inl _ => True | .inr (b, n, o) => b.length ≤ 4 ∧ (o = true → 1 ≤ n ∧ n ≤ s.length) := by
  refine loop_inv (fun a => 2 ≤ a.2 ∧ a.2 ≤ 9) _ (fun a => (9 - a.2).toNat) (fun a hI => ?_) _ (0, 2) (Nat.le_refl _) ⟨by decide, by decide⟩
  obtain ⟨x, i⟩ := a
  have hI : 2 ≤ i ∧ i ≤ 9 := hI
  obtain ⟨b7, g7, k7⟩ := andO (decide (i < ((List.length s : Nat) : Int))) (some (decide (i < 9))) (fun _ => ⟨_, rfl⟩)
  have e0 : ref_escape_l1 s (x, i) = _ := bds g7
  cases b7 with
  | false =>
    refine .inr ⟨.inl (), e0.trans (if_neg Bool.false_ne_true), trivial⟩
  | true =>
    have hi : i < s.length := of_decide_eq_true (k7 rfl).1
    have hi9 : i < 9 := of_decide_eq_true (Option.some.inj (k7 rfl).2)
    obtain ⟨c, hc⟩ := nthI (s := s) (i := i) (by omega) hi
    have e0 := e0.trans ((if_pos rfl).trans (bds hc))
    obtain ⟨b8, g8, k8⟩ := andO ((c.toNat : Int) == 125) (some (decide (i > 2))) (fun _ => ⟨_, rfl⟩)
    have e0 := e0.trans (bds g8)
    cases b8 with
    | true =>
      obtain ⟨bb, o, hb, hbl⟩ := renc_some x
      have e0 := e0.trans ((if_pos rfl).trans (bds hb))
      refine .inr ⟨_, e0, hbl, fun _ => ?_⟩
      have : IntKind.i64.wrap (i + 1) = i + 1 := i64w (by omega)
      rw [this]
      omega
    | false =>
      obtain ⟨d, hd, hd1, hd2⟩ := Digit_some c
      have e0 := e0.trans ((if_neg Bool.false_ne_true).trans ((bds hc).trans (bds hd)))
      by_cases hneg : d < 0
      · have e0 := e0.trans (if_pos (decide_eq_true hneg))
        exact .inr ⟨_, e0, Nat.zero_le _, fun e => by cases e⟩
      · have e0 := e0.trans ((if_neg (by rw [decide_eq_false hneg]; exact Bool.false_ne_true)).trans ((bds hc).trans (bds hd)))
        have : IntKind.i64.wrap (i + 1) = i + 1 := i64w (by omega)
        rw [this] at e0
        refine .inl ⟨_, e0, ⟨by omega, by omega⟩, ?_⟩
        show (9 - (i + 1)).toNat < (9 - i).toNat
        omega
theorem resc_some (s : List UInt8) (hs : s.length ≤ 9223372036854775807) : ∃ b n ok, ref_escape s = some (b, n, ok) ∧ b.length ≤ 4 ∧ (ok = true → 1 ≤ n ∧ n ≤ s.length) := by
  have at_ : ∀ {i : Int}, 0 ≤ i → i < s.length → ∃ c, nth (α := UInt8) s i = some c := nthI
  have dig : ∀ {i : Int}, 0 ≤ i → i < s.length → ∃ x, ((nth (α := UInt8) s i).bind fun c4 => ((ref_digit c4).bind fun r_ => some (decide (r_ ≥ 0)))) = some x := fun h0 h1 => by
    obtain ⟨c, hc⟩ := nthI h0 h1
    obtain ⟨d, hd, _, _⟩ := Digit_some c
    exact ⟨_, (bds hc).trans (bds hd)⟩
  obtain ⟨b, g, k⟩ := andO (decide (((List.length s : Nat) : Int) > 0)) ((nth (α := UInt8) s 0).bind fun c => ((if (((c).toNat : Int) == 34) then some true else ((nth (α := UInt8) s 0).bind fun c1 => some (((c1).toNat : Int) == 92))).bind fun b1 => some b1)) (fun h => by
    have h : ((List.length s : Nat) : Int) > 0 := of_decide_eq_true h
    obtain ⟨c, hc⟩ := at_ (i := 0) (by omega) (by omega)
    rw [bds hc]
    obtain ⟨b1, g1, _⟩ := orO (((c).toNat : Int) == 34) ((nth (α := UInt8) s 0).bind fun c1 => some (((c1).toNat : Int) == 92)) (fun _ => ⟨_, bds hc⟩)
    exact ⟨_, bds g1⟩)
  have e0 : ref_escape s = _ := bds g
  cases b with
  | true =>
    have h : ((List.length s : Nat) : Int) > 0 := of_decide_eq_true (k rfl).1
    obtain ⟨c, hc⟩ := at_ (i := 0) (by omega) (by omega)
    exact ⟨_, _, _, e0.trans ((if_pos rfl).trans (bds hc)), by simp, fun _ => ⟨by omega, by omega⟩⟩
  | false =>
    have e0 := e0.trans (if_neg Bool.false_ne_true)
    obtain ⟨b2, g2, k2⟩ := andO (decide (((List.length s : Nat) : Int) ≥ 3)) ((nth (α := UInt8) s 0).bind fun c3 => some (((c3).toNat : Int) == 120)) (fun h => by
      have h : ((List.length s : Nat) : Int) ≥ 3 := of_decide_eq_true h
      obtain ⟨c, hc⟩ := at_ (i := 0) (by omega) (by omega)
      exact ⟨_, bds hc⟩)
    have e0 := e0.trans (bds g2)
    have l2 : b2 = true → 3 ≤ s.length := fun e => by have h : ((List.length s : Nat) : Int) ≥ 3 := of_decide_eq_true (k2 e).1; omega
    obtain ⟨b3, g3, k3⟩ := andO b2 ((nth (α := UInt8) s 1).bind fun c4 => ((ref_digit c4).bind fun r_ => some (decide (r_ ≥ 0)))) (fun h => dig (by omega) (by have := l2 h; omega))
    have e0 := e0.trans (bds g3)
    obtain ⟨b4, g4, k4⟩ := andO b3 ((nth (α := UInt8) s 2).bind fun c4 => ((ref_digit c4).bind fun r_ => some (decide (r_ ≥ 0)))) (fun h => dig (by omega) (by have := l2 (k3 h).1; omega))
    have e0 := e0.trans (bds g4)
    cases b4 with
    | true =>
      have l := l2 (k3 (k4 rfl).1).1
      obtain ⟨c1, hc1⟩ := at_ (i := 1) (by omega) (by omega)
      obtain ⟨c2, hc2⟩ := at_ (i := 2) (by omega) (by omega)
      obtain ⟨d1, hd1, _, _⟩ := Digit_some c1
      obtain ⟨d2, hd2, _, _⟩ := Digit_some c2
      exact ⟨_, _, _, e0.trans ((if_pos rfl).trans ((bds hc1).trans ((bds hd1).trans ((bds hc2).trans (bds hd2))))), by simp, fun _ => ⟨by omega, by omega⟩⟩
    | false =>
      have e0 := e0.trans (if_neg Bool.false_ne_true)
      obtain ⟨b5, g5, k5⟩ := orO (decide (((List.length s : Nat) : Int) < 4)) ((nth (α := UInt8) s 0).bind fun c8 => some (((c8).toNat : Int) != 117)) (fun h => by
        have h : ¬ ((List.length s : Nat) : Int) < 4 := of_decide_eq_false h
        obtain ⟨c, hc⟩ := at_ (i := 0) (by omega) (by omega)
        exact ⟨_, bds hc⟩)
      have e0 := e0.trans (bds g5)
      obtain ⟨b6, g6, k6⟩ := orO b5 ((nth (α := UInt8) s 1).bind fun c9 => some (((c9).toNat : Int) != 123)) (fun h => by
        have h : ¬ ((List.length s : Nat) : Int) < 4 := of_decide_eq_false (k5 h).1
        obtain ⟨c, hc⟩ := at_ (i := 1) (by omega) (by omega)
        exact ⟨_, bds hc⟩)
      have e0 := e0.trans (bds g6)
      cases b6 with
      | true => exact ⟨_, _, _, e0.trans (if_pos rfl), Nat.zero_le _, fun e => by cases e⟩
      | false =>
        have e0 := e0.trans (if_neg Bool.false_ne_true)
        obtain ⟨r, hr, hQ⟩ := rescl_some hs
        have e0 := e0.trans (bds hr)
        rcases r with u | ⟨bb, n, o⟩
        · exact ⟨_, _, _, e0, Nat.zero_le _, fun e => by cases e⟩
        · exact ⟨_, _, _, e0, hQ.1, hQ.2⟩
theorem runql_some {s : List UInt8} (hs : s.length ≤ 1048576) : ∃ r, loop (ref_Unquote_l1 s) ([], 1) = some r ∧ match r with | .inl o => List.length o ≤ 4 * 1048576 | .inr (v, v1) => v = [] ∧ v1 = false := by
  by_cases h1 : 1 ≤ s.length
  · refine loop_inv (fun a : List UInt8 × Int => 1 ≤ a.2 ∧ a.2 ≤ (s.length : Int) ∧ (List.length a.1 : Int) ≤ 4 * a.2) _ (fun a : List UInt8 × Int => ((s.length : Int) - a.2).toNat) (fun a hI => ?_) _ ([], 1) (Nat.le_refl _) ⟨by decide, by show (1 : Int) ≤ _; omega, by decide⟩
    obtain ⟨out, i⟩ := a
    have hI : 1 ≤ i ∧ i ≤ s.length ∧ (List.length out : Int) ≤ 4 * i := hI
    have w0 : IntKind.i64.wrap (((List.length s : Nat) : Int) - 1) = ((List.length s : Nat) : Int) - 1 := i64w (by omega)
    by_cases hi : i < ((List.length s : Nat) : Int) - 1
    · have e0 : ref_Unquote_l1 s (out, i) = _ := if_pos (by rw [w0]; exact decide_eq_true hi)
      obtain ⟨c, hc⟩ := nthI (s := s) (i := i) (by omega) (by omega)
      have e0 := e0.trans (bds hc)
      have w1 : IntKind.i64.wrap (i + 1) = i + 1 := i64w (by omega)
      by_cases hc92 : (((c).toNat : Int) != 92) = true
      · have e0 := e0.trans ((if_pos hc92).trans ((bds hc).trans (bds (app1b (l := out) (m := [c]) (by simp; omega)))))
        rw [w1] at e0
        refine .inl ⟨_, e0, ⟨by omega, by omega, ?_⟩, ?_⟩
        · show ((out ++ [c]).length : Int) ≤ 4 * (i + 1)
          rw [List.length_append]
          simp
          omega
        · show (s.length - (i + 1)).toNat < (s.length - i).toNat
          omega
      · have e1 : subT s (IntKind.i64.wrap (i + 1)) (List.length s : Nat) = some (str (s.drop (i + 1).toNat)) := by
          rw [w1]
          have : (i + 1) = (((i + 1).toNat : Nat) : Int) := by omega
          have h := subT_drop (s := s) (i := (i + 1).toNat) (by omega)
          rw [← this] at h
          exact h
        obtain ⟨bb, n, ok, hr, hbl, hn⟩ := resc_some (s.drop (i + 1).toNat) (by rw [List.length_drop]; omega)
        have hr : ref_escape (str (s.drop (i + 1).toNat)) = some (bb, n, ok) := hr
        have e0 := e0.trans ((if_neg hc92).trans ((bds e1).trans (bds hr)))
        cases ok with
        | false =>
          have e0 := e0.trans (if_pos rfl)
          exact .inr ⟨_, e0, rfl, rfl⟩
        | true =>
          have hn := hn rfl
          rw [List.length_drop] at hn
          have e0 := e0.trans ((if_neg (by simp)).trans (bds (app1b (l := out) (m := bb) (by omega))))
          have w2 : IntKind.i64.wrap (IntKind.i64.wrap (i + 1) + n) = i + 1 + n := by rw [w1]; exact i64w (by omega)
          have e0 : ref_Unquote_l1 s (out, i) = some (.inl (out ++ bb, IntKind.i64.wrap (IntKind.i64.wrap (i + 1) + n))) := e0
          rw [w2] at e0
          refine .inl ⟨_, e0, ⟨by omega, by omega, ?_⟩, ?_⟩
          · show ((out ++ bb).length : Int) ≤ 4 * (i + 1 + n)
            rw [List.length_append]
            omega
          · show (s.length - (i + 1 + n)).toNat < (s.length - i).toNat
            omega
    · have e0 : ref_Unquote_l1 s (out, i) = _ := if_neg (by rw [w0, decide_eq_false hi]; exact Bool.false_ne_true)
      refine .inr ⟨.inl out, e0, ?_⟩
      show List.length out ≤ _
      omega
  · have : s = [] := List.length_eq_zero_iff.1 (by omega)
    subst this
    exact ⟨.inl [], loop_done rfl, Nat.zero_le _⟩
theorem rUnquote_some (s : List UInt8) (hs : s.length ≤ 1048576) : ∃ t ok, ref_Unquote s = some (str t, ok) ∧ ((ok = true ∧ qts t = s ∧ t.length ≤ 8000000) ∨ (ok = false ∧ t = [])) := by
  obtain ⟨b, g, k⟩ := orO (decide (((List.length s : Nat) : Int) < 2)) ((nth (α := UInt8) s 0).bind fun c => some (((c).toNat : Int) != 34)) (fun h => by
    have h : ¬ ((List.length s : Nat) : Int) < 2 := of_decide_eq_false h
    obtain ⟨c, hc⟩ := nthI (s := s) (i := 0) (by omega) (by omega)
    exact ⟨_, bds hc⟩)
  have e0 : ref_Unquote s = _ := bds g
  obtain ⟨b1, g1, k1⟩ := orO b ((nth (α := UInt8) s (IntKind.i64.wrap (((List.length s : Nat) : Int) - 1))).bind fun c1 => some (((c1).toNat : Int) != 34)) (fun h => by
    have h : ¬ ((List.length s : Nat) : Int) < 2 := of_decide_eq_false (k h).1
    rw [i64w (n := ((List.length s : Nat) : Int) - 1) (by omega)]
    obtain ⟨c, hc⟩ := nthI (s := s) (i := ((List.length s : Nat) : Int) - 1) (by omega) (by omega)
    exact ⟨_, bds hc⟩)
  have e0 := e0.trans (bds g1)
  cases b1 with
  | true => exact ⟨[], false, e0.trans (if_pos rfl), .inr ⟨rfl, rfl⟩⟩
  | false =>
    obtain ⟨r, hr, hQ⟩ := runql_some hs
    have e0 := e0.trans ((if_neg Bool.false_ne_true).trans (bds hr))
    rcases r with o | ⟨v, v1⟩
    · have hQ : List.length o ≤ 4 * 1048576 := hQ
      have hq : ref_Quote (str o) = some (str (qts o)) := rQuote_eq (s := o) (by show List.length o ≤ _; omega)
      have e0 := e0.trans (bds hq)
      cases he : eqS (str (qts o)) s with
      | false =>
        have e0 := e0.trans (if_pos (by rw [he]; rfl))
        exact ⟨[], false, e0, .inr ⟨rfl, rfl⟩⟩
      | true =>
        have e0 := e0.trans (if_neg (by rw [he]; simp))
        refine ⟨o, true, e0, .inl ⟨rfl, ?_, by show List.length o ≤ _; omega⟩⟩
        rw [eqS_dec (qts o)] at he
        exact of_decide_eq_true he
    · obtain ⟨rfl, rfl⟩ := hQ
      exact ⟨[], false, e0, .inr ⟨rfl, rfl⟩⟩
end Go.Ai.Rab
end
