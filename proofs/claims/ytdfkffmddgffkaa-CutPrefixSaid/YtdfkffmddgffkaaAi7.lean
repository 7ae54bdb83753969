/- Operations: slices cut, their elements, lengths. -/
import Derived.Test.YtdfkffmddgffkaaAi6
set_option linter.unusedVariables false
set_option linter.unusedSimpArgs false
namespace Go.Ai
section
variable {P : Program} {base : Nat} {ρ : Pl} {X U : Reg} {c : Nat} {s : St} {w : World}

theorem extract_mk (l : List UInt8) (a b : Nat) : (⟨l.toArray⟩ : ByteArray).extract a b = ⟨((l.take b).drop a).toArray⟩ := by
  apply ByteArray.ext
  rw [ByteArray.data_extract]
  apply Array.ext'
  simp [List.extract_eq_take_drop, List.drop_take]

theorem gives_slice {t : TypeId} {x v : AV} {lo hi mx : Option AV} {xv : Value} {lov hiv mxv : Option Value} (hx : Rel w ρ U c x xv) (hlo : RelO w ρ U c lo lov) (hhi : RelO w ρ U c hi hiv) (hmx : RelO w ρ U c mx mxv)
    (h : aSlice P t x lo hi mx s = some v) : Gives P w ρ U c (Instr.sliceAt t xv lov hiv mxv) v := by
  simp only [aSlice, Option.bind_eq_bind, Option.bind_eq_some_iff] at h
  obtain ⟨d, hd, h⟩ := h
  unfold Instr.sliceAt
  split at h
  · rename_i l
    simp only [Rel] at hx; subst hx
    split at h
    · cases h
    · rename_i hm
      simp only [Option.bind_eq_some_iff] at h
      obtain ⟨⟨a, b, m⟩, hb, h⟩ := h
      injection h with h; subst h
      cases mx with
      | some _ => simp at hm
      | none =>
        cases mxv with
        | some _ => exact hmx.elim
        | none =>
          have hs : (⟨l.toArray⟩ : ByteArray).size = l.length := by simp [ByteArray.size]
          have hr := run_bounds (P := P) (isSlice := false) hlo hhi (show RelO w ρ U c none none from trivial) (Nat.le_refl _) (Nat.le_refl _) hb
          refine ⟨.string ⟨((l.take b).drop a).toArray⟩, ?_, by simp [Rel]⟩
          simp only [Sem.run_bind, run_underlying hd, Result.andThen_ok, Instr.slice, hs, hr.1, extract_mk, Sem.run_pure]
          simp [Sem.run_bind, run_underlying hd, Result.andThen_ok, hs, hr.1, extract_mk]
  · rename_i e
    simp only [Option.bind_eq_some_iff] at h
    obtain ⟨⟨a, b, m⟩, hb, k, hk, h⟩ := h
    injection h with h; subst h
    simp only [Rel] at hx; subst hx
    have hr := run_bounds (P := P) (isSlice := true) hlo hhi hmx (Nat.le_refl 0) (Nat.le_refl 0) hb
    have ha : a = 0 := by omega
    have hb' : b = 0 := by omega
    have hm' : m = 0 := by omega
    subst ha; subst hb'; subst hm'
    refine ⟨.slice none 0 0, ?_, by simp [Rel]⟩
    simp [run_underlying hd, Instr.slice, hr.1, run_sizeOf_ (shapeT_some hk).1]
  · rename_i e z
    simp only [Option.bind_eq_some_iff] at h
    obtain ⟨⟨a, b, m⟩, hb, k, hk, h⟩ := h
    injection h with h; subst h
    simp only [Rel] at hx
    obtain ⟨A, cap, rfl, hA, hz⟩ := hx
    have hr := run_bounds (P := P) (isSlice := true) (len := 0) hlo hhi hmx (Nat.zero_le cap) (Nat.le_refl 0) hb
    have ha : a = 0 := by omega
    have hb' : b = 0 := by omega
    have hm' : m = 0 := by omega
    subst ha; subst hb'; subst hm'
    obtain ⟨hr1, _⟩ := hr
    obtain ⟨M, hM⟩ : ∃ M, M = (if mx.isSome then 0 else cap) := ⟨_, rfl⟩
    rw [← hM] at hr1
    cases A with
    | none =>
      have hc0 : cap = 0 := hA rfl
      subst hc0
      have hM0 : M = 0 := by rw [hM]; split <;> rfl
      subst hM0
      refine ⟨.slice none 0 0, ?_, ?_⟩
      · simp only [Sem.run_bind, run_underlying hd, Result.andThen_ok, Instr.slice, hr1, run_sizeOf_ (shapeT_some hk).1, Sem.run_pure]
        simp
      · simp only [Rel]
        exact ⟨none, 0, rfl, fun _ => rfl, fun _ => rfl⟩
    | some A =>
      refine ⟨.slice (some (if M = 0 then A else A.add (0 * esz k))) (0 - 0) (M - 0), ?_, ?_⟩
      · simp only [Sem.run_bind, run_underlying hd, Result.andThen_ok, Instr.slice, hr1, run_sizeOf_ (shapeT_some hk).1, Sem.run_pure]
        split <;> rfl
      · simp only [Rel]
        refine ⟨_, _, rfl, ?_, ?_⟩
        · intro e; cases e
        intro e
        simp only [Bool.or_eq_true] at e
        rcases e with e | e
        · have := hz e
          rw [hM]; split <;> omega
        · rw [hM, if_pos e]
  · rename_i e k xs cp
    simp only [Option.bind_eq_some_iff] at h
    obtain ⟨k', hk, h⟩ := h
    split at h
    · cases h
    · rename_i hkk
      have hkk : k' = k := by simpa using hkk
      subst hkk
      simp only [Option.bind_eq_some_iff] at h
      obtain ⟨⟨a, b, m⟩, hb, h⟩ := h
      injection h with h; subst h
      simp only [Rel] at hx
      obtain ⟨A, cap, cs, rfl, h2, h3, h4, h5⟩ := hx
      have hr := run_bounds (P := P) (isSlice := true) (len := xs.length) hlo hhi hmx h2 (Nat.le_refl _) hb
      obtain ⟨hr1, hab, hbm, hmc, hmn, hhn⟩ := hr
      obtain ⟨M, hM⟩ : ∃ M, M = (if mx.isSome then m else cap) := ⟨_, rfl⟩
      have hml : m ≤ M := by rw [hM]; split <;> omega
      rw [← hM] at hr1
      refine ⟨.slice (some (if M = a then A else A.add (a * esz k'))) (b - a) (M - a), ?_, ?_⟩
      · simp only [Sem.run_bind, run_underlying hd, Result.andThen_ok, Instr.slice, hr1, run_sizeOf_ (shapeT_some hk).1, Sem.run_pure]
        split <;> rfl
      · have hlen : ((xs.take b).drop a).length = b - a := by
          simp
          omega
        simp only [Rel]
        refine ⟨_, _, (cs.take (b * esz k')).drop (a * esz k'), by rw [hlen], by rw [hlen]; omega, (h3.take b).drop a, ?_, ?_⟩
        · by_cases hma : M = a
          · have : cs.take (b * esz k') = (cs.take (b * esz k')).take (a * esz k') := by
              rw [List.take_take, Nat.min_eq_right]
              exact Nat.mul_le_mul_right _ (by omega)
            rw [this, List.drop_of_length_le (by simp; omega)]
            exact Row.nil _
          · rw [if_neg hma]
            exact (h4.take _).drop _
        · rw [hlen]
          by_cases hmx' : mx.isSome = true
          · simp only [hmx', if_true] at hM ⊢
            by_cases hbm' : b = m
            · simp [hbm', CapOk, hM]
            · simp [hbm', CapOk]
          · simp only [hmx', if_false, Bool.false_eq_true] at hM ⊢
            have hmx0 : mx = none := by cases mx <;> simp_all
            by_cases hbl : b = xs.length
            · simp only [hbl, if_true]
              cases cp with
              | tight => simp only [CapOk] at h5 ⊢; simp [hM, h5]
              | unk => simp [CapOk]
              | tok tk =>
                by_cases hal : a < xs.length
                · simp only [hal, if_true]
                  simp only [CapOk] at h5 ⊢
                  obtain ⟨g1, g2, g3, g4, g5⟩ := h5
                  have hca : ¬ (M = a) := by omega
                  simp only [hca, if_false]
                  refine ⟨g1, by rw [add_block]; exact g2, ?_, ?_, ?_⟩
                  · unfold Addr.add; split <;> simp [g3]
                  · rw [add_off, ← g4, Nat.add_assoc, ← Nat.add_mul, show a + (xs.length - a) = xs.length by omega]
                  · intro j hj
                    have := g5 (a * esz k' + j) (by
                      have : (M - a) * esz k' = M * esz k' - a * esz k' := Nat.sub_mul _ _ _
                      rw [hM] at *
                      omega)
                    rw [add_block, add_off, Nat.add_assoc]
                    exact this
                · simp [hal, CapOk]
            · simp [hbl, CapOk]
  · rename_i e k n off len cap
    simp only [Option.bind_eq_some_iff] at h
    obtain ⟨k', hk, h⟩ := h
    split at h
    · cases h
    · rename_i hkk
      have hkk : k' = k := by simpa using hkk
      subst hkk
      simp only [Option.bind_eq_some_iff] at h
      obtain ⟨⟨a, b, m⟩, hb, h⟩ := h
      split at h
      · cases h
      · rename_i hlc
        injection h with h; subst h
        simp only [Rel] at hx
        obtain ⟨h1, rfl⟩ := hx
        obtain ⟨hr1, hab, hbm, hmc, hmn, hhn⟩ := run_bounds (P := P) (isSlice := true) hlo hhi hmx (Nat.le_refl cap) (by omega) hb
        have hmm : (if mx.isSome then m else cap) = m := by
          cases mx with
          | none => simp [hmn rfl]
          | some _ => simp
        rw [hmm] at hr1
        refine ⟨.slice (some (if m = a then ⟨(ρ n).1, off, none⟩ else ⟨(ρ n).1, off + a * esz k', none⟩)) (b - a) (m - a), ?_, ?_⟩
        · simp only [Sem.run_bind, run_underlying hd, Result.andThen_ok, Instr.slice, hr1, run_sizeOf_ (shapeT_some hk).1, Sem.run_pure]
          split <;> simp [add_lit]
        · simp only [Rel]
          refine ⟨h1, ?_⟩
          split <;> rfl
  · rename_i n e p off
    simp only [Option.bind_eq_some_iff] at h
    obtain ⟨k, hk, ⟨a, b, m⟩, hb, h⟩ := h
    injection h with h; subst h
    simp only [Rel] at hx
    obtain ⟨h1, rfl⟩ := hx
    obtain ⟨hr1, hab, hbm, hmc, hmn, hhn⟩ := run_bounds (P := P) (isSlice := false) hlo hhi hmx (Nat.le_refl n) (Nat.le_refl n) hb
    have hmm : (if mx.isSome then m else n) = m := by
      cases mx with
      | none => simp [hmn rfl]
      | some _ => simp
    rw [hmm] at hr1
    refine ⟨.slice (some (if m = a then ⟨(ρ p).1, off, none⟩ else ⟨(ρ p).1, off + a * esz k, none⟩)) (b - a) (m - a), ?_, ?_⟩
    · simp only [Sem.run_bind, run_underlying hd, Result.andThen_ok, Instr.sureAddr, hr1, run_sizeOf_ (shapeT_some hk).1, Sem.run_pure]
      split <;> simp [add_lit]
    · simp only [Rel]
      refine ⟨h1, ?_⟩
      split <;> rfl
  · cases h

/-! ### A slice's elements as they lie -/
theorem chunk_relC {k : Nat} : ∀ {n : Nat} {cs : List AV} {us : List Value}, RelL w ρ U c cs us → (∀ x ∈ cs, x.one = true) → n * esz k ≤ cs.length → RelC w ρ U c k (chunk k cs n) (us.take (n * esz k))
  | 0, cs, us, h, _, _ => by simp [chunk, RelC]
  | n + 1, cs, us, h, ho, hl => by
    have hl' : esz k ≤ cs.length := by rw [Nat.succ_mul] at hl; omega
    have hu := h.length
    simp only [chunk, RelC]
    refine ⟨if k = 0 then us.headD undef else .agg (us.take k).toArray, (us.drop (esz k)).take (n * esz k), ?_, ?_, ?_, ?_⟩
    · have e : us.take ((n + 1) * esz k) = us.take (esz k) ++ (us.drop (esz k)).take (n * esz k) := by
        rw [Nat.succ_mul, Nat.add_comm, List.take_add]
      rw [e]
      congr 1
      by_cases hk : k = 0
      · subst hk
        simp only [esz, if_true] at hl' ⊢
        cases us with
        | nil => simp at hu; omega
        | cons u us =>
          obtain ⟨x, hx, hr⟩ := h.get' (i := 0) (v := u) (by simp)
          have := hr.one (ho x (List.mem_iff_getElem?.2 ⟨0, hx⟩))
          cases u <;> simp_all [Value.cells, Value.oneCell']
      · simp only [hk, if_false, Value.cells, esz]
    · by_cases hk : k = 0
      · subst hk
        simp only [if_true]
        cases cs with
        | nil => simp [esz] at hl'
        | cons x cs =>
          have hx := ho x (by simp)
          refine ⟨?_, ?_, fun _ => hx, fun e => absurd rfl e⟩
          · cases x <;> simp_all [AV.cells, AV.one, esz]
          · intro y hy
            cases x <;> simp_all [AV.cells, AV.one]
      · simp only [hk, if_false]
        refine ⟨?_, ?_, fun e => absurd e hk, fun _ => rfl⟩
        · simp only [AV.cells, esz, hk, if_false] at hl' ⊢
          simp; omega
        · intro y hy
          exact ho y (List.mem_of_mem_take hy)
    · by_cases hk : k = 0
      · subst hk
        simp only [if_true]
        cases cs with
        | nil => simp [esz] at hl'
        | cons x cs =>
          simp only [RelL] at h
          obtain ⟨v, us', rfl, h1, h2⟩ := h
          simpa using h1
      · simp only [hk, if_false, Rel]
        exact ⟨_, rfl, h.take k⟩
    · exact chunk_relC (h.drop (esz k)) (fun x hx => ho x (List.mem_of_mem_drop hx)) (by rw [List.length_drop]; rw [Nat.succ_mul] at hl; omega)
theorem chunk_length {k n : Nat} {cs : List AV} : (chunk k cs n).length = n := by
  induction n generalizing cs with
  | zero => rfl
  | succ n ih => simp [chunk, ih]

/-- What a slice's elements are, and where they lie. -/
theorem elems_rel {x : AV} {xv : Value} {k : Nat} {xs : List AV} (h : Sim base ρ X s w) (hx : Rel w ρ (UX ρ s.h X) s.c x xv) (he : elems x s = some (k, xs)) :
    ∃ A cap cs, xv = .slice (some A) xs.length cap ∧ RelC w ρ (UX ρ s.h X) s.c k xs cs ∧ ∀ j u, cs[j]? = some u → w.cell? (A.add j) = some u := by
  unfold elems at he
  split at he
  · rename_i k' xs' cp
    injection he with he
    injection he with e1 e2
    subst e1; subst e2
    simp only [Rel] at hx
    obtain ⟨A, cap, cs, rfl, h2, h3, h4, h5⟩ := hx
    exact ⟨A, cap, cs, rfl, h3, fun j u hj => (h4 j u hj).1⟩
  · rename_i k' n off len cap
    split at he
    · rename_i cs hg
      split at he
      · rename_i hle
        injection he with he
        injection he with e1 e2
        subst e1; subst e2
        simp only [Rel] at hx
        obtain ⟨h1, rfl⟩ := hx
        obtain ⟨C, e, fz, g1, g2, g3, g4⟩ := h.obj n _ hg
        refine ⟨_, cap, ((C.toList.drop off).take (len * esz k')), by rw [chunk_length], chunk_relC (g3.drop off) (fun x hx => g4 x (List.mem_of_mem_drop hx)) (by simp; omega), fun j u hj => ?_⟩
        rw [add_lit, cell_at g1]
        rw [List.getElem?_take] at hj
        split at hj
        · rw [List.getElem?_drop] at hj; simpa using hj
        · cases hj
      · cases he
    · cases he
  · cases he

theorem size_mk (l : List UInt8) : (⟨l.toArray⟩ : ByteArray).size = l.length := rfl
theorem gives_len {t ty : TypeId} {x v : AV} {xv : Value} (h : Sim base ρ X s w) (hx : Rel w ρ (UX ρ s.h X) s.c x xv) (hl : aLen P t x s = some v) : Gives P w ρ (UX ρ s.h X) s.c (Builtin.len_ #[t] ty #[xv]) v := by
  simp only [aLen, Option.bind_eq_bind, Option.bind_eq_some_iff] at hl
  obtain ⟨d, hd, hl⟩ := hl
  split at hl
  · simp only [Rel] at hx; subst hx
    injection hl with hl; subst hl
    exact ⟨_, by simp [Builtin.len_, run_underlying hd, goInt, size_mk]; rfl, by simp [Rel]⟩
  · injection hl with hl; subst hl
    exact ⟨_, by simp [Builtin.len_, run_underlying hd, goInt]; rfl, by simp [Rel]⟩
  · simp only [Rel] at hx; subst hx
    injection hl with hl; subst hl
    exact ⟨_, by simp [Builtin.len_, run_underlying hd, goInt]; rfl, by simp [Rel]⟩
  · simp only [Rel] at hx
    obtain ⟨A, cap, rfl, _⟩ := hx
    injection hl with hl; subst hl
    exact ⟨_, by simp [Builtin.len_, run_underlying hd, goInt]; rfl, by simp [Rel]⟩
  · simp only [Rel] at hx
    obtain ⟨A, cap, cs, rfl, _⟩ := hx
    injection hl with hl; subst hl
    exact ⟨_, by simp [Builtin.len_, run_underlying hd, goInt]; rfl, by simp [Rel]⟩
  · simp only [Rel] at hx
    obtain ⟨_, rfl⟩ := hx
    injection hl with hl; subst hl
    exact ⟨_, by simp [Builtin.len_, run_underlying hd, goInt]; rfl, by simp [Rel]⟩
  · simp only [Rel] at hx; subst hx
    injection hl with hl; subst hl
    exact ⟨_, by simp [Builtin.len_, run_underlying hd, goInt]; rfl, by simp [Rel]⟩
  · rename_i n
    split at hl
    · rename_i es hg
      simp only [Rel] at hx
      obtain ⟨_, rfl⟩ := hx
      injection hl with hl; subst hl
      obtain ⟨ents, clock, h1, h2, h3⟩ := h.obj n _ hg
      have := h2.length
      simp at this
      refine ⟨.int .i64 ents.size, ?_, by simp [Rel, this]⟩
      simp [Builtin.len_, run_underlying hd, goInt, getObj, Sem.run, h1]
    · cases hl
  · cases hl
theorem gives_cap {t ty : TypeId} {x v : AV} {xv : Value} (hx : Rel w ρ U c x xv) (hl : aCap P t x = some v) : Gives P w ρ U c (Builtin.cap_ #[t] ty #[xv]) v := by
  simp only [aCap, Option.bind_eq_bind, Option.bind_eq_some_iff] at hl
  obtain ⟨d, hd, hl⟩ := hl
  split at hl
  · simp only [Rel] at hx; subst hx
    injection hl with hl; subst hl
    exact ⟨_, by simp [Builtin.cap_, run_underlying hd, goInt]; rfl, by simp [Rel]⟩
  · simp only [Rel] at hx
    obtain ⟨A, cap, cs, rfl, _, _, _, h5⟩ := hx
    simp only [CapOk] at h5
    injection hl with hl; subst hl
    exact ⟨_, by simp [Builtin.cap_, run_underlying hd, goInt]; rfl, by simp [Rel, h5]⟩
  · simp only [Rel] at hx
    obtain ⟨_, rfl⟩ := hx
    injection hl with hl; subst hl
    exact ⟨_, by simp [Builtin.cap_, run_underlying hd, goInt]; rfl, by simp [Rel]⟩
  · cases hl
end
end Go.Ai
