/- Operations: addresses, indexes, slices' parts. -/
import Derived.Test.YtdfkffmddgffkaaAi5
set_option linter.unusedVariables false
set_option linter.unusedSimpArgs false
namespace Go.Ai
section
variable {P : Program} {base : Nat} {ρ : Pl} {X U : Reg} {c : Nat} {s : St} {w : World}

theorem aInt_rel {x : AV} {xv : Value} {i : Int} (hx : Rel w ρ U c x xv) (h : aInt x = some i) : ∃ k, xv = .int k i := by
  cases x <;> simp only [aInt] at h <;> first
    | (cases h; done)
    | (injection h with h; subst h; simp only [Rel] at hx; exact ⟨_, hx⟩)

theorem mk_getElem? (l : List UInt8) (i : Nat) : (⟨l.toArray⟩ : ByteArray)[i]? = l[i]? := by
  have hs : (⟨l.toArray⟩ : ByteArray).size = l.length := by simp [ByteArray.size]
  by_cases h : i < l.length
  · rw [getElem?_pos (⟨l.toArray⟩ : ByteArray) i (by rw [hs]; exact h), List.getElem?_eq_getElem h]
    rfl
  · rw [getElem?_neg (⟨l.toArray⟩ : ByteArray) i (by rw [hs]; exact h), List.getElem?_eq_none (by omega)]

theorem gives_index {t : TypeId} {x i v : AV} {xv iv : Value} (hx : Rel w ρ U c x xv) (hi : Rel w ρ U c i iv) (h : aIndex P t x i = some v) : Gives P w ρ U c (Instr.index t xv iv) v := by
  simp only [aIndex, Option.bind_eq_bind, Option.bind_eq_some_iff] at h
  obtain ⟨n, hn, d, hd, h⟩ := h
  obtain ⟨k, rfl⟩ := aInt_rel hi hn
  unfold Instr.index
  split at h
  · rename_i l
    simp only [Rel] at hx; subst hx
    split at h
    · rename_i h0
      simp only [Option.map_eq_some_iff] at h
      obtain ⟨b, hb, rfl⟩ := h
      refine ⟨.int .u8 b.toNat, ?_, by simp [Rel]⟩
      simp [asIntOf, run_underlying hd, h0, mk_getElem?, hb]
    · cases h
  · rename_i len e cs
    simp only [Option.bind_eq_some_iff] at h
    obtain ⟨z, hz, h⟩ := h
    split at h
    · rename_i h01
      simp only [Rel] at hx
      obtain ⟨vs, rfl, hl⟩ := hx
      obtain ⟨v', h1, h2⟩ := gives_cut (P := P) hl h
      refine ⟨v', ?_, h2⟩
      simp [asIntOf, run_underlying hd, run_sizeOf_ hz, h01, h1]
    · cases h
  · cases h

theorem gives_indexAddr {t : TypeId} {x i v : AV} {xv iv : Value} (hx : Rel w ρ U c x xv) (hi : Rel w ρ U c i iv) (h : aIndexAddr P t x i = some v) : Gives P w ρ U c (Instr.indexAt t xv iv) v := by
  simp only [aIndexAddr, Option.bind_eq_bind, Option.bind_eq_some_iff] at h
  obtain ⟨n, hn, d, hd, h⟩ := h
  obtain ⟨k, rfl⟩ := aInt_rel hi hn
  unfold Instr.indexAt
  split at h
  · rename_i len e m off
    simp only [Option.bind_eq_some_iff] at h
    obtain ⟨z, hz, h⟩ := h
    split at h
    · rename_i h01
      injection h with h; subst h
      simp only [Rel] at hx
      obtain ⟨h1, rfl⟩ := hx
      refine ⟨.pointer (some ⟨(ρ m).1, off + n.toNat * z, none⟩), ?_, ?_⟩
      · simp [asIntOf, run_underlying hd, run_sizeOf_ hz, h01, Instr.sureAddr, add_lit]
      · simp [Rel, h1]
    · cases h
  · rename_i len e g off
    simp only [Option.bind_eq_some_iff] at h
    obtain ⟨z, hz, h⟩ := h
    split at h
    · rename_i h01
      injection h with h; subst h
      simp only [Rel] at hx; subst hx
      refine ⟨.pointer (some ⟨g, off + n.toNat * z, none⟩), ?_, by simp [Rel]⟩
      simp [asIntOf, run_underlying hd, run_sizeOf_ hz, h01, Instr.sureAddr, add_lit]
    · cases h
  · rename_i len e kk xs j off
    simp only [Option.bind_eq_some_iff] at h
    obtain ⟨z, hz, h⟩ := h
    split at h
    · rename_i h01
      injection h with h; subst h
      simp only [Rel] at hx
      obtain ⟨h1, h2, A, rfl, cs, h3, h4⟩ := hx
      refine ⟨.pointer (some ((A.add (j * esz kk + off)).add (n.toNat * z))), ?_, ?_⟩
      · simp [asIntOf, run_underlying hd, run_sizeOf_ hz, h01, Instr.sureAddr]
      · simp only [Rel]
        exact ⟨h1, h01.2.2, A, by rw [add_add_, Nat.add_assoc], cs, h3, h4⟩
    · cases h
  · rename_i e kk xs cp
    simp only [Option.bind_eq_some_iff] at h
    obtain ⟨z, hz, h⟩ := h
    split at h
    · rename_i h01
      injection h with h; subst h
      obtain ⟨rfl, h0, h1⟩ := h01
      simp only [Rel] at hx
      obtain ⟨A, cap, cs, rfl, h2, h3, h4, h5⟩ := hx
      refine ⟨.pointer (some (A.add (n.toNat * esz z))), ?_, ?_⟩
      · simp [asIntOf, run_underlying hd, run_sizeOf_ (shapeT_some hz).1, h0, h1]
      · simp only [Rel]
        exact ⟨by omega, esz_pos _, A, by rw [Nat.add_zero], cs, h3, h4⟩
    · cases h
  · rename_i e kk m off len cap
    simp only [Option.bind_eq_some_iff] at h
    obtain ⟨z, hz, h⟩ := h
    split at h
    · rename_i h01
      injection h with h; subst h
      obtain ⟨rfl, h0, h1⟩ := h01
      simp only [Rel] at hx
      obtain ⟨h2, rfl⟩ := hx
      refine ⟨.pointer (some ⟨(ρ m).1, off + n.toNat * esz z, none⟩), ?_, ?_⟩
      · simp [asIntOf, run_underlying hd, run_sizeOf_ (shapeT_some hz).1, h0, h1, add_lit]
      · simp [Rel, h2]
    · cases h
  · cases h

theorem gives_fieldAddr {t : TypeId} {x v : AV} {xv : Value} {f : Nat} (hx : Rel w ρ U c x xv) (h : aFieldAddr P t x f = some v) : Gives P w ρ U c (Instr.fieldAt t xv f) v := by
  simp only [aFieldAddr, Option.bind_eq_bind, Option.bind_eq_some_iff] at h
  obtain ⟨d, hd, h⟩ := h
  split at h
  · rename_i fs
    simp only [Option.bind_eq_some_iff] at h
    obtain ⟨fd, hf, z, hz, h⟩ := h
    split at h
    · cases h
    · rename_i hz0
      unfold Instr.fieldAt fieldPlace
      split at h
      · rename_i n off
        injection h with h; subst h
        simp only [Rel] at hx
        obtain ⟨h1, rfl⟩ := hx
        refine ⟨.pointer (some ⟨(ρ n).1, off + fd.offset, none⟩), ?_, ?_⟩
        · simp [run_underlying hd, hf, Instr.sureAddr, run_sizeOf_ hz, hz0, add_lit]
        · simp [Rel, h1]
      · rename_i g off
        injection h with h; subst h
        simp only [Rel] at hx; subst hx
        refine ⟨.pointer (some ⟨g, off + fd.offset, none⟩), ?_, by simp [Rel]⟩
        simp [run_underlying hd, hf, Instr.sureAddr, run_sizeOf_ hz, hz0, add_lit]
      · rename_i k xs i off
        split at h
        · rename_i hlt
          injection h with h; subst h
          simp only [Rel] at hx
          obtain ⟨h1, h2, A, rfl, cs, h3, h4⟩ := hx
          refine ⟨.pointer (some ((A.add (i * esz k + off)).add fd.offset)), ?_, ?_⟩
          · simp [run_underlying hd, hf, Instr.sureAddr, run_sizeOf_ hz, hz0]
          · simp only [Rel]
            exact ⟨h1, hlt, A, by rw [add_add_, Nat.add_assoc], cs, h3, h4⟩
        · cases h
      · cases h
  · cases h

theorem gives_field {t : TypeId} {x v : AV} {xv : Value} {f : Nat} (hx : Rel w ρ U c x xv) (h : aField P t x f = some v) : Gives P w ρ U c (Instr.field t xv f) v := by
  simp only [aField, Option.bind_eq_bind, Option.bind_eq_some_iff] at h
  obtain ⟨d, hd, h⟩ := h
  split at h
  · simp only [Option.bind_eq_some_iff] at h
    obtain ⟨fd, hf, h⟩ := h
    split at h
    · rename_i cs
      simp only [Rel] at hx
      obtain ⟨vs, rfl, hl⟩ := hx
      obtain ⟨v', h1, h2⟩ := gives_cut (P := P) hl h
      refine ⟨v', ?_, h2⟩
      unfold Instr.field
      simp [run_underlying hd, hf, asAgg, h1]
    · cases h
  · cases h

/-! ### Bounds of a slice -/
def RelO (w : World) (ρ : Pl) (U : Reg) (c : Nat) : Option AV → Option Value → Prop
  | none, none => True
  | some x, some v => Rel w ρ U c x v
  | _, _ => False
theorem run_bound {x : AV} {xv : Value} {d y y' n : Nat} {cd : BoundsCode} (hx : Rel w ρ U c x xv) (hy : y ≤ y') (h : bnd (some x) d y = some n) : (Instr.sliceBound xv y' cd).run P w = .ok n w ∧ n ≤ y := by
  unfold bnd at h
  split at h
  · rename_i he; cases he
  · rename_i k i he
    injection he with he; subst he
    simp only [Rel] at hx; subst hx
    split at h
    · rename_i h01
      injection h with h; subst h
      have : i ≤ y' := by omega
      exact ⟨by simp [Instr.sliceBound, asIntOf, h01.1, this], by omega⟩
    · cases h
  · cases h
/-- The bounds, the machine's capacity being at least ours. -/
theorem run_bounds {isSlice : Bool} {len cap cap' : Nat} {lo hi mx : Option AV} {lov hiv mxv : Option Value} {a b m : Nat} (hlo : RelO w ρ U c lo lov) (hhi : RelO w ρ U c hi hiv) (hmx : RelO w ρ U c mx mxv) (hc : cap ≤ cap') (hl : len ≤ cap)
    (h : bnds len cap lo hi mx = some (a, b, m)) : (Instr.sliceBounds isSlice len cap' lov hiv mxv).run P w = .ok (a, b, if mx.isSome then m else cap') w ∧ a ≤ b ∧ b ≤ m ∧ m ≤ cap ∧ (mx = none → m = cap) ∧ (hi = none → b = len) := by
  simp only [bnds, Option.bind_eq_bind, Option.bind_eq_some_iff] at h
  obtain ⟨m', hm, h⟩ := h
  split at h
  · cases h
  · rename_i hno
    simp only [Option.bind_eq_some_iff] at h
    obtain ⟨h', hh, l', hl', h⟩ := h
    injection h with h
    injection h with e1 h
    injection h with e2 e3
    subst e1; subst e2; subst e3
    unfold Instr.sliceBounds
    cases mx with
    | none =>
      cases mxv with
      | some _ => exact hmx.elim
      | none =>
        simp only [bnd] at hm
        injection hm with hm; subst hm
        cases hi with
        | none =>
          cases hiv with
          | some _ => exact hhi.elim
          | none =>
            simp only [bnd] at hh
            injection hh with hh; subst hh
            cases lo with
            | none =>
              cases lov with
              | some _ => exact hlo.elim
              | none =>
                simp only [bnd] at hl'
                injection hl' with hl'; subst hl'
                exact ⟨by simp, by omega, by omega, by omega, fun _ => rfl, fun _ => rfl⟩
            | some lo =>
              cases lov with
              | none => exact hlo.elim
              | some lov =>
                have hb := run_bound (P := P) (cd := .sliceB) hlo (Nat.le_refl _) hl'
                exact ⟨by simp [hb.1], hb.2, by omega, by omega, fun _ => rfl, fun _ => rfl⟩
        | some hi =>
          cases hiv with
          | none => exact hhi.elim
          | some hiv =>
            have hb1 := run_bound (P := P) (y' := cap') (cd := if isSlice then .sliceAcap else .sliceAlen) hhi hc hh
            cases lo with
            | none =>
              cases lov with
              | some _ => exact hlo.elim
              | none =>
                simp only [bnd] at hl'
                injection hl' with hl'; subst hl'
                exact ⟨by simp [hb1.1], by omega, by omega, by omega, fun _ => rfl, fun e => by cases e⟩
            | some lo =>
              cases lov with
              | none => exact hlo.elim
              | some lov =>
                have hb := run_bound (P := P) (cd := .sliceB) hlo (Nat.le_refl _) hl'
                exact ⟨by simp [hb1.1, hb.1], hb.2, hb1.2, by omega, fun _ => rfl, fun e => by cases e⟩
    | some mx =>
      cases mxv with
      | none => exact hmx.elim
      | some mxv =>
        have hb0 := run_bound (P := P) (y' := cap') (cd := if isSlice then .slice3Acap else .slice3Alen) hmx hc hm
        cases hi with
        | none => exact absurd ⟨rfl, rfl⟩ hno
        | some hi =>
          cases hiv with
          | none => exact hhi.elim
          | some hiv =>
            have hb1 := run_bound (P := P) (cd := .slice3B) hhi (Nat.le_refl _) hh
            cases lo with
            | none =>
              cases lov with
              | some _ => exact hlo.elim
              | none =>
                simp only [bnd] at hl'
                injection hl' with hl'; subst hl'
                exact ⟨by simp [hb0.1, hb1.1], by omega, hb1.2, hb0.2, fun e => (by cases e), fun e => (by cases e)⟩
            | some lo =>
              cases lov with
              | none => exact hlo.elim
              | some lov =>
                have hb := run_bound (P := P) (cd := .slice3C) hlo (Nat.le_refl _) hl'
                exact ⟨by simp [hb0.1, hb1.1, hb.1], hb.2, hb1.2, hb0.2, fun e => (by cases e), fun e => (by cases e)⟩
end
end Go.Ai
