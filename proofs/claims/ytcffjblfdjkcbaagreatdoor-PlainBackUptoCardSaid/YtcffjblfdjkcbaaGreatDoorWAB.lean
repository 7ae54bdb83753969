/- My own texts DevAi7, DevAi8, DevAi9, DevAi10, DevAi11, DevAi12, one behind the other. -/
import Derived.Test.YtcffjblfdjkcbaaGreatDoorWAA
import Derived.Laws.MakeOwn
import Derived.Laws.BytesArg
section
/- Operations: slices cut, their elements, lengths. -/
set_option linter.unusedVariables false
set_option linter.unusedSimpArgs false
namespace Go.Ai
section
variable {P : Program} {base : Nat} {ρ : Pl} {X U : Reg} {c : Nat} {s : St} {w : World}

theorem extract_mk (l : List UInt8) (a b : Nat) : (⟨l.toArray⟩ : ByteArray).extract a b = ⟨((l.take b).drop a).toArray⟩ := by
 apply ByteArray.ext
 rw [ByteArray.data_extract]
 apply Array.ext'
 simp [List.extract_eq_take_drop, List.drop_take]

theorem gives_slice {t : TypeId} {x v : AV} {lo hi mx : Option AV} {xv : Value} {lov hiv mxv : Option Value} (hx : Rel w ρ U c x xv) (hlo : RelO w ρ U c lo lov) (hhi : RelO w ρ U c hi hiv) (hmx : RelO w ρ U c mx mxv)
  (h : aSlice P t x lo hi mx s = some v) : Gives P w ρ U c (Instr.sliceAt t xv lov hiv mxv) v := by
 simp only [aSlice, Option.bind_eq_bind, Option.bind_eq_some_iff] at h
 obtain ⟨d, hd, h⟩ := h
 unfold Instr.sliceAt
 split at h
 ·rename_i l
  simp only [Rel] at hx; subst hx
  split at h
  ·cases h
  ·rename_i hm
   simp only [Option.bind_eq_some_iff] at h
   obtain ⟨⟨a, b, m⟩, hb, h⟩ := h
   injection h with h; subst h
   cases mx with
   | some _ => simp at hm
   | none =>
    cases mxv with
    | some _ => exact hmx.elim
    | none =>
     have hs : (⟨l.toArray⟩ : ByteArray).size = l.length := by simp [ByteArray.size]
     have hr := run_bounds (P := P) (isSlice := false) hlo hhi (show RelO w ρ U c none none from trivial) (Nat.le_refl _) (Nat.le_refl _) hb
     refine ⟨.string ⟨((l.take b).drop a).toArray⟩, ?_, by simp [Rel]⟩
     simp only [Sem.run_bind, run_underlying hd, Result.andThen_ok, Instr.slice, hs, hr.1, extract_mk, Sem.run_pure]
     simp [Sem.run_bind, run_underlying hd, Result.andThen_ok, hs, hr.1, extract_mk]
 ·rename_i e
  simp only [Option.bind_eq_some_iff] at h
  obtain ⟨⟨a, b, m⟩, hb, k, hk, h⟩ := h
  injection h with h; subst h
  simp only [Rel] at hx; subst hx
  have hr := run_bounds (P := P) (isSlice := true) hlo hhi hmx (Nat.le_refl 0) (Nat.le_refl 0) hb
  have ha : a = 0 := by omega
  have hb' : b = 0 := by omega
  have hm' : m = 0 := by omega
  subst ha; subst hb'; subst hm'
  refine ⟨.slice none 0 0, ?_, by simp [Rel]⟩
  simp [run_underlying hd, Instr.slice, hr.1, run_sizeOf_ (shapeT_some hk).1]
 ·rename_i e z
  simp only [Option.bind_eq_some_iff] at h
  obtain ⟨⟨a, b, m⟩, hb, k, hk, h⟩ := h
  injection h with h; subst h
  simp only [Rel] at hx
  obtain ⟨A, cap, rfl, hA, hz⟩ := hx
  have hr := run_bounds (P := P) (isSlice := true) (len := 0) hlo hhi hmx (Nat.zero_le cap) (Nat.le_refl 0) hb
  have ha : a = 0 := by omega
  have hb' : b = 0 := by omega
  have hm' : m = 0 := by omega
  subst ha; subst hb'; subst hm'
  obtain ⟨hr1, _⟩ := hr
  obtain ⟨M, hM⟩ : ∃ M, M = (if mx.isSome then 0 else cap) := ⟨_, rfl⟩
  rw [← hM] at hr1
  cases A with
  | none =>
   have hc0 : cap = 0 := hA rfl
   subst hc0
   have hM0 : M = 0 := by rw [hM]; split <;> rfl
   subst hM0
   refine ⟨.slice none 0 0, ?_, ?_⟩
   ·simp only [Sem.run_bind, run_underlying hd, Result.andThen_ok, Instr.slice, hr1, run_sizeOf_ (shapeT_some hk).1, Sem.run_pure]
    simp
   ·simp only [Rel]
    exact ⟨none, 0, rfl, fun _ => rfl, fun _ => rfl⟩
  | some A =>
   refine ⟨.slice (some (if M = 0 then A else A.add (0 * esz k))) (0 - 0) (M - 0), ?_, ?_⟩
   ·simp only [Sem.run_bind, run_underlying hd, Result.andThen_ok, Instr.slice, hr1, run_sizeOf_ (shapeT_some hk).1, Sem.run_pure]
    split <;> rfl
   ·simp only [Rel]
    refine ⟨_, _, rfl, ?_, ?_⟩
    ·intro e; cases e
    intro e
    simp only [Bool.or_eq_true] at e
    rcases e with e | e
    ·have := hz e
     rw [hM]; split <;> omega
    ·rw [hM, if_pos e]
 ·rename_i e k xs cp
  simp only [Option.bind_eq_some_iff] at h
  obtain ⟨k', hk, h⟩ := h
  split at h
  ·cases h
  ·rename_i hkk
   have hkk : k' = k := by simpa using hkk
   subst hkk
   simp only [Option.bind_eq_some_iff] at h
   obtain ⟨⟨a, b, m⟩, hb, h⟩ := h
   injection h with h; subst h
   simp only [Rel] at hx
   obtain ⟨A, cap, cs, rfl, h2, h3, h4, h5⟩ := hx
   have hr := run_bounds (P := P) (isSlice := true) (len := xs.length) hlo hhi hmx h2 (Nat.le_refl _) hb
   obtain ⟨hr1, hab, hbm, hmc, hmn, hhn⟩ := hr
   obtain ⟨M, hM⟩ : ∃ M, M = (if mx.isSome then m else cap) := ⟨_, rfl⟩
   have hml : m ≤ M := by rw [hM]; split <;> omega
   rw [← hM] at hr1
   refine ⟨.slice (some (if M = a then A else A.add (a * esz k'))) (b - a) (M - a), ?_, ?_⟩
   ·simp only [Sem.run_bind, run_underlying hd, Result.andThen_ok, Instr.slice, hr1, run_sizeOf_ (shapeT_some hk).1, Sem.run_pure]
    split <;> rfl
   ·have hlen : ((xs.take b).drop a).length = b - a := by
     simp
     omega
    simp only [Rel]
    refine ⟨_, _, (cs.take (b * esz k')).drop (a * esz k'), by rw [hlen], by rw [hlen]; omega, (h3.take b).drop a, ?_, ?_⟩
    ·by_cases hma : M = a
     ·have : cs.take (b * esz k') = (cs.take (b * esz k')).take (a * esz k') := by
       rw [List.take_take, Nat.min_eq_right]
       exact Nat.mul_le_mul_right _ (by omega)
      rw [this, List.drop_of_length_le (by simp; omega)]
      exact Row.nil _
     ·rw [if_neg hma]
      exact (h4.take _).drop _
    ·rw [hlen]
     by_cases hmx' : mx.isSome = true
     ·simp only [hmx', if_true] at hM ⊢
      by_cases hbm' : b = m
      ·simp [hbm', CapOk, hM]
      ·simp [hbm', CapOk]
     ·simp only [hmx', if_false, Bool.false_eq_true] at hM ⊢
      have hmx0 : mx = none := by cases mx <;> simp_all
      by_cases hbl : b = xs.length
      ·simp only [hbl, if_true]
       cases cp with
       | tight => simp only [CapOk] at h5 ⊢; simp [hM, h5]
       | unk => simp [CapOk]
       | tok tk =>
        by_cases hal : a < xs.length
        ·simp only [hal, if_true]
         simp only [CapOk] at h5 ⊢
         obtain ⟨g1, g2, g3, g4, g5⟩ := h5
         have hca : ¬ (M = a) := by omega
         simp only [hca, if_false]
         refine ⟨g1, by rw [add_block]; exact g2, ?_, ?_, ?_⟩
         ·unfold Addr.add; split <;> simp [g3]
         ·rw [add_off, ← g4, Nat.add_assoc, ← Nat.add_mul, show a + (xs.length - a) = xs.length by omega]
         ·intro j hj
          have := g5 (a * esz k' + j) (by
           have : (M - a) * esz k' = M * esz k' - a * esz k' := Nat.sub_mul _ _ _
           rw [hM] at *
           omega)
          rw [add_block, add_off, Nat.add_assoc]
          exact this
        ·simp [hal, CapOk]
      ·simp [hbl, CapOk]
 ·rename_i e k n off len cap
  simp only [Option.bind_eq_some_iff] at h
  obtain ⟨k', hk, h⟩ := h
  split at h
  ·cases h
  ·rename_i hkk
   have hkk : k' = k := by simpa using hkk
   subst hkk
   simp only [Option.bind_eq_some_iff] at h
   obtain ⟨⟨a, b, m⟩, hb, h⟩ := h
   split at h
   ·cases h
   ·rename_i hlc
    injection h with h; subst h
    simp only [Rel] at hx
    obtain ⟨h1, rfl⟩ := hx
    obtain ⟨hr1, hab, hbm, hmc, hmn, hhn⟩ := run_bounds (P := P) (isSlice := true) hlo hhi hmx (Nat.le_refl cap) (by omega) hb
    have hmm : (if mx.isSome then m else cap) = m := by
     cases mx with
     | none => simp [hmn rfl]
     | some _ => simp
    rw [hmm] at hr1
    refine ⟨.slice (some (if m = a then ⟨(ρ n).1, off, none⟩ else ⟨(ρ n).1, off + a * esz k', none⟩)) (b - a) (m - a), ?_, ?_⟩
    ·simp only [Sem.run_bind, run_underlying hd, Result.andThen_ok, Instr.slice, hr1, run_sizeOf_ (shapeT_some hk).1, Sem.run_pure]
     split <;> simp [add_lit]
    ·simp only [Rel]
     refine ⟨h1, ?_⟩
     split <;> rfl
 ·rename_i n e p off
  simp only [Option.bind_eq_some_iff] at h
  obtain ⟨k, hk, ⟨a, b, m⟩, hb, h⟩ := h
  injection h with h; subst h
  simp only [Rel] at hx
  obtain ⟨h1, rfl⟩ := hx
  obtain ⟨hr1, hab, hbm, hmc, hmn, hhn⟩ := run_bounds (P := P) (isSlice := false) hlo hhi hmx (Nat.le_refl n) (Nat.le_refl n) hb
  have hmm : (if mx.isSome then m else n) = m := by
   cases mx with
   | none => simp [hmn rfl]
   | some _ => simp
  rw [hmm] at hr1
  refine ⟨.slice (some (if m = a then ⟨(ρ p).1, off, none⟩ else ⟨(ρ p).1, off + a * esz k, none⟩)) (b - a) (m - a), ?_, ?_⟩
  ·simp only [Sem.run_bind, run_underlying hd, Result.andThen_ok, Instr.sureAddr, hr1, run_sizeOf_ (shapeT_some hk).1, Sem.run_pure]
   split <;> simp [add_lit]
  ·simp only [Rel]
   refine ⟨h1, ?_⟩
   split <;> rfl
 ·cases h

/-! ### A slice's elements aS they lie -/
theorem chunk_relC {k : Nat} : ∀ {n : Nat} {cs : List AV} {us : List Value}, RelL w ρ U c cs us → (∀ x ∈ cs, x.one = true) → n * esz k ≤ cs.length → RelC w ρ U c k (chunk k cs n) (us.take (n * esz k))
 | 0, cs, us, h, _, _ => by simp [chunk, RelC]
 | n + 1, cs, us, h, ho, hl => by
  have hl' : esz k ≤ cs.length := by rw [Nat.succ_mul] at hl; omega
  have hu := h.length
  simp only [chunk, RelC]
  refine ⟨if k = 0 then us.headD undef else .agg (us.take k).toArray, (us.drop (esz k)).take (n * esz k), ?_, ?_, ?_, ?_⟩
  ·have e : us.take ((n + 1) * esz k) = us.take (esz k) ++ (us.drop (esz k)).take (n * esz k) := by
    rw [Nat.succ_mul, Nat.add_comm, List.take_add]
   rw [e]
   congr 1
   by_cases hk : k = 0
   ·subst hk
    simp only [esz, if_true] at hl' ⊢
    cases us with
    | nil => simp at hu; omega
    | cons u us =>
     obtain ⟨x, hx, hr⟩ := h.get' (i := 0) (v := u) (by simp)
     have := hr.one (ho x (List.mem_iff_getElem?.2 ⟨0, hx⟩))
     cases u <;> simp_all [Value.cells, Value.oneCell']
   ·simp only [hk, if_false, Value.cells, esz]
  ·by_cases hk : k = 0
   ·subst hk
    simp only [if_true]
    cases cs with
    | nil => simp [esz] at hl'
    | cons x cs =>
     have hx := ho x (by simp)
     refine ⟨?_, ?_, fun _ => hx, fun e => absurd rfl e⟩
     ·cases x <;> simp_all [AV.cells, AV.one, esz]
     ·intro y hy
      cases x <;> simp_all [AV.cells, AV.one]
   ·simp only [hk, if_false]
    refine ⟨?_, ?_, fun e => absurd e hk, fun _ => rfl⟩
    ·simp only [AV.cells, esz, hk, if_false] at hl' ⊢
     simp; omega
    ·intro y hy
     exact ho y (List.mem_of_mem_take hy)
  ·by_cases hk : k = 0
   ·subst hk
    simp only [if_true]
    cases cs with
    | nil => simp [esz] at hl'
    | cons x cs =>
     simp only [RelL] at h
     obtain ⟨v, us', rfl, h1, h2⟩ := h
     simpa using h1
   ·simp only [hk, if_false, Rel]
    exact ⟨_, rfl, h.take k⟩
  ·exact chunk_relC (h.drop (esz k)) (fun x hx => ho x (List.mem_of_mem_drop hx)) (by rw [List.length_drop]; rw [Nat.succ_mul] at hl; omega)
theorem chunk_length {k n : Nat} {cs : List AV} : (chunk k cs n).length = n := by
 induction n generalizing cs with
 | zero => rfl
 | succ n ih => simp [chunk, ih]

theorem elems_rel {x : AV} {xv : Value} {k : Nat} {xs : List AV} (h : Sim base ρ X s w) (hx : Rel w ρ (UX ρ s.h X) s.c x xv) (he : elems x s = some (k, xs)) :
  ∃ A cap cs, xv = .slice (some A) xs.length cap ∧ RelC w ρ (UX ρ s.h X) s.c k xs cs ∧ ∀ j u, cs[j]? = some u → w.cell? (A.add j) = some u := by
 unfold elems at he
 split at he
 ·rename_i k' xs' cp
  injection he with he
  injection he with e1 e2
  subst e1; subst e2
  simp only [Rel] at hx
  obtain ⟨A, cap, cs, rfl, h2, h3, h4, h5⟩ := hx
  exact ⟨A, cap, cs, rfl, h3, fun j u hj => (h4 j u hj).1⟩
 ·rename_i k' n off len cap
  split at he
  ·rename_i cs hg
   split at he
   ·rename_i hle
    injection he with he
    injection he with e1 e2
    subst e1; subst e2
    simp only [Rel] at hx
    obtain ⟨h1, rfl⟩ := hx
    obtain ⟨C, e, fz, g1, g2, g3, g4⟩ := h.obj n _ hg
    refine ⟨_, cap, ((C.toList.drop off).take (len * esz k')), by rw [chunk_length], chunk_relC (g3.drop off) (fun x hx => g4 x (List.mem_of_mem_drop hx)) (by simp; omega), fun j u hj => ?_⟩
    rw [add_lit, cell_at g1]
    rw [List.getElem?_take] at hj
    split at hj
    ·rw [List.getElem?_drop] at hj; simpa using hj
    ·cases hj
   ·cases he
  ·cases he
 ·cases he

theorem size_mk (l : List UInt8) : (⟨l.toArray⟩ : ByteArray).size = l.length := rfl
theorem gives_len {t ty : TypeId} {x v : AV} {xv : Value} (h : Sim base ρ X s w) (hx : Rel w ρ (UX ρ s.h X) s.c x xv) (hl : aLen P t x s = some v) : Gives P w ρ (UX ρ s.h X) s.c (Builtin.len_ #[t] ty #[xv]) v := by
 simp only [aLen, Option.bind_eq_bind, Option.bind_eq_some_iff] at hl
 obtain ⟨d, hd, hl⟩ := hl
 split at hl
 ·simp only [Rel] at hx; subst hx
  injection hl with hl; subst hl
  exact ⟨_, by simp [Builtin.len_, run_underlying hd, goInt, size_mk]; rfl, by simp [Rel]⟩
 ·injection hl with hl; subst hl
  exact ⟨_, by simp [Builtin.len_, run_underlying hd, goInt]; rfl, by simp [Rel]⟩
 ·simp only [Rel] at hx; subst hx
  injection hl with hl; subst hl
  exact ⟨_, by simp [Builtin.len_, run_underlying hd, goInt]; rfl, by simp [Rel]⟩
 ·simp only [Rel] at hx
  obtain ⟨A, cap, rfl, _⟩ := hx
  injection hl with hl; subst hl
  exact ⟨_, by simp [Builtin.len_, run_underlying hd, goInt]; rfl, by simp [Rel]⟩
 ·simp only [Rel] at hx
  obtain ⟨A, cap, cs, rfl, _⟩ := hx
  injection hl with hl; subst hl
  exact ⟨_, by simp [Builtin.len_, run_underlying hd, goInt]; rfl, by simp [Rel]⟩
 ·simp only [Rel] at hx
  obtain ⟨_, rfl⟩ := hx
  injection hl with hl; subst hl
  exact ⟨_, by simp [Builtin.len_, run_underlying hd, goInt]; rfl, by simp [Rel]⟩
 ·simp only [Rel] at hx; subst hx
  injection hl with hl; subst hl
  exact ⟨_, by simp [Builtin.len_, run_underlying hd, goInt]; rfl, by simp [Rel]⟩
 ·rename_i n
  split at hl
  ·rename_i es hg
   simp only [Rel] at hx
   obtain ⟨_, rfl⟩ := hx
   injection hl with hl; subst hl
   obtain ⟨ents, clock, h1, h2, h3⟩ := h.obj n _ hg
   have := h2.length
   simp at this
   refine ⟨.int .i64 ents.size, ?_, by simp [Rel, this]⟩
   simp [Builtin.len_, run_underlying hd, goInt, getObj, Sem.run, h1]
  ·cases hl
 ·cases hl
theorem gives_cap {t ty : TypeId} {x v : AV} {xv : Value} (hx : Rel w ρ U c x xv) (hl : aCap P t x = some v) : Gives P w ρ U c (Builtin.cap_ #[t] ty #[xv]) v := by
 simp only [aCap, Option.bind_eq_bind, Option.bind_eq_some_iff] at hl
 obtain ⟨d, hd, hl⟩ := hl
 split at hl
 ·simp only [Rel] at hx; subst hx
  injection hl with hl; subst hl
  exact ⟨_, by simp [Builtin.cap_, run_underlying hd, goInt]; rfl, by simp [Rel]⟩
 ·simp only [Rel] at hx
  obtain ⟨A, cap, cs, rfl, _, _, _, h5⟩ := hx
  simp only [CapOk] at h5
  injection hl with hl; subst hl
  exact ⟨_, by simp [Builtin.cap_, run_underlying hd, goInt]; rfl, by simp [Rel, h5]⟩
 ·simp only [Rel] at hx
  obtain ⟨_, rfl⟩ := hx
  injection hl with hl; subst hl
  exact ⟨_, by simp [Builtin.cap_, run_underlying hd, goInt]; rfl, by simp [Rel]⟩
 ·cases hl
end
end Go.Ai
end
section
/- Operations: append. -/
set_option linter.unusedVariables false
set_option linter.unusedSimpArgs false
namespace Go.Ai
section
variable {P : Program} {base : Nat} {ρ : Pl} {X U : Reg} {c : Nat} {s s' : St} {w : World}

theorem source_rel {x : AV} {xv : Value} {k : Nat} {ys : List AV} (h : Sim base ρ X s w) (hx : Rel w ρ (UX ρ s.h X) s.c x xv) (hs : source k x s = some ys) :
  ∃ us, RelC w ρ (UX ρ s.h X) s.c k ys us ∧ (∀ w' : World, (Builtin.lenOf xv).run P w' = .ok ys.length w') ∧
   ∀ w' : World, (∀ (a : Addr) u, w.cell? a = some u → w'.cell? a = some u) → ∀ n, n ≤ ys.length → (Builtin.firstCells (esz k) n xv).run P w' = .ok (us.take (n * esz k)).toArray w' := by
 unfold source at hs
 split at hs
 ·injection hs with hs; subst hs
  simp only [Rel] at hx; subst hx
  refine ⟨[], by simp [RelC], fun w' => by simp [Builtin.lenOf], fun w' _ n hn => ?_⟩
  have : n = 0 := by simpa using hn
  subst this
  simp [Builtin.firstCells]
 ·injection hs with hs; subst hs
  simp only [Rel] at hx
  obtain ⟨A, cap, rfl, _⟩ := hx
  refine ⟨[], by simp [RelC], fun w' => by simp [Builtin.lenOf], fun w' _ n hn => ?_⟩
  have : n = 0 := by simpa using hn
  subst this
  cases A <;> simp [Builtin.firstCells, loadCells, loadCellsFrom]
 ·rename_i l
  split at hs
  ·rename_i hk
   injection hs with hs; subst hs; subst hk
   simp only [Rel] at hx; subst hx
   refine ⟨l.map fun b => .int .u8 b.toNat, ?_, fun w' => by simp [Builtin.lenOf, size_mk], fun w' _ n hn => ?_⟩
   ·induction l with
    | nil => simp [RelC]
    | cons b l ih =>
     simp only [List.map_cons, RelC]
     exact ⟨.int .u8 b.toNat, _, rfl, ⟨rfl, by simp [AV.cells, AV.one], fun _ => rfl, fun e => absurd rfl e⟩, by simp [Rel], ih⟩
   ·simp only [Builtin.firstCells, extract_mk, Sem.run_pure]
    congr 1
    apply Array.ext'
    simp [esz, List.map_take]
  ·cases hs
 ·simp only [Option.bind_eq_bind, Option.bind_eq_some_iff] at hs
  obtain ⟨⟨k', xs⟩, he, hs⟩ := hs
  simp only at hs
  split at hs
  ·rename_i hk
   injection hs with hs; subst hs; subst hk
   obtain ⟨A, cap, cs, rfl, h1, h2⟩ := elems_rel h hx he
   refine ⟨cs, h1, fun w' => by simp [Builtin.lenOf], fun w' hw n hn => ?_⟩
   have hl := h1.length
   have hr := run_loadCells_list (P := P) w' A (cs.take (n * esz k')) (fun j u hj => hw _ _ (h2 j u (by
    rw [List.getElem?_take] at hj
    split at hj
    ·exact hj
    ·cases hj)))
   have hle : n * esz k' ≤ xs.length * esz k' := Nat.mul_le_mul_right _ hn
   rw [List.length_take, Nat.min_eq_left (by omega)] at hr
   simpa [Builtin.firstCells] using hr
  ·cases hs

theorem growBy_le (need : Nat) : ∀ (rounds c : Nat), c ≤ 2 * need + 1000 → c ≤ need ∨ 4 * c ≤ 5 * need + 768 → Builtin.growBy need rounds c ≤ 2 * need + 1000
 | 0, c, h, _ => h
 | r + 1, c, h, h2 => by
  unfold Builtin.growBy
  split
  ·exact h
  ·refine growBy_le need r _ ?_ ?_ <;> omega
theorem nextcap_le {need old : Nat} (h : old < need) : Builtin.nextslicecap need old ≤ 2 * need + 1000 := by
 unfold Builtin.nextslicecap
 split
 ·omega
 ·split
  ·omega
  ·exact growBy_le need 4 old (by omega) (.inl (by omega))
theorem roomy_spec {n bytes : Nat} (h : roomy n bytes = true) : n ≤ 137438953472 ∧ n * bytes ≤ 137438953472 := by
 simpa [roomy] using h

theorem zeroCells_size {z : Array Value} {n : Nat} : (Builtin.zeroCells z n).size = n * z.size := by
 simp [Builtin.zeroCells]

theorem run_append_grows {argTypes : Array TypeId} {t t1 ty e : TypeId} (ha0 : argTypes[0]? = some t) (ha1 : argTypes[1]? = some t1) {d1 : TypeDesc} {i : TypeInfo} {zv : Value} {k n m cap : Nat} {base0 : Option Addr} {xv : Value} {us ys : List Value}
  (ht : P.underlying t = some (.slice e)) (ht1 : P.underlying t1 = some d1) (hd1 : ∀ q, d1 ≠ .int q) (hi : P.info? e = some i) (hsz : szT P e = some (esz k)) (hz : ∀ w, (zeroValue e).run P w = .ok zv w) (hzs : zv.cells.size = esz k)
  (hlen : ∀ w' : World, (Builtin.lenOf xv).run P w' = .ok m w') (hfirst : ∀ w' : World, w'.heap = w.heap → (Builtin.firstCells (esz k) m xv).run P w' = .ok ys.toArray w')
  (hold : ∀ w' : World, w'.heap = w.heap → (Builtin.firstCells (esz k) n (.slice base0 n cap)).run P w' = .ok us.toArray w')
  (hgt : cap < n + m) (hroom : roomy (n + m) i.bytes = true) :
  ∃ newCap : Nat, n + m ≤ newCap ∧ (Builtin.append_ argTypes ty #[.slice base0 n cap, xv]).run P w =
   .ok (.slice (some ⟨w.heap.size, 0, none⟩) (n + m) newCap) (w.drew.alloc (.cells (us.toArray ++ ys.toArray ++ Builtin.zeroCells zv.cells (newCap - (n + m))) e)) := by
 obtain ⟨hr1, hr2⟩ := roomy_spec hroom
 refine ⟨(Question.appendCap (n + m) cap e).cut (w.tape w.drawn (Question.appendCap (n + m) cap e)), ?_, ?_⟩
 ·show n + m ≤ n + m + _
  omega
 ·have hint : (match d1 with | .int _ => true | _ => false) = false := by
   cases d1 <;> first | rfl | exact absurd rfl (hd1 _)
  have h1 : ¬ (n + m ≤ cap) := by omega
  have h2 : ¬ (((n + m : Nat) : Int) > IntKind.i64.max) := by rw [IntKind.max_i64]; omega
  have h3 : ¬ (Builtin.nextslicecap (n + m) cap * i.bytes > 2 ^ 48) := by
   have hb : i.bytes ≤ 137438953472 := by
    rcases Nat.eq_zero_or_pos i.bytes with h0 | h0
    ·omega
    ·exact Nat.le_trans (Nat.le_mul_of_pos_left i.bytes (by omega)) hr2
   have := Nat.mul_le_mul_right i.bytes (nextcap_le hgt)
   have e : (2 * (n + m) + 1000) * i.bytes = 2 * ((n + m) * i.bytes) + 1000 * i.bytes := by rw [Nat.add_mul, Nat.mul_assoc]
   have : (2:Nat) ^ 48 = 281474976710656 := by decide
   omega
  unfold Builtin.append_
  simp only [ha0, ha1, List.getElem?_toArray, List.getElem?_cons_zero, List.getElem?_cons_succ, Sem.run_bind, run_underlying ht, run_underlying ht1, Result.andThen_ok, run_sizeOf_ hsz, hint, Sem.run_pure, Bool.false_eq_true, if_false, hlen, h1, h2, false_and, hi,
   typeInfo, run_program, h3, run_choose, Question.forced, run_askRoom]
  have e0 := hold w.drew rfl
  have e1 := hfirst w.drew rfl
  have e2 := hz w.drew
  unfold World.drew at e0 e1 e2
  rw [e0, Result.andThen_ok, if_pos (show (!false) = true from rfl), e1, Result.andThen_ok, e2, Result.andThen_ok]
  simp [newRow]
  rfl

theorem does_grow {k bytes : Nat} {xs ys : List AV} {v : AV} {e : TypeId} {cs us zs : List Value} {newCap : Nat} (hb : base ≤ w.heap.size) (h : Sim base ρ X s w) (hg : aGrow k bytes xs ys s = some (v, s'))
  (hcs : RelC w ρ (UX ρ s.h X) s.c k xs cs) (hus : RelC w ρ (UX ρ s.h X) s.c k ys us) (hz : zs.length = (newCap - (xs.length + ys.length)) * esz k) (hle : xs.length + ys.length ≤ newCap) (hne : ys ≠ []) :
  Post base ρ X s w v s' (.slice (some ⟨w.heap.size, 0, none⟩) (xs.length + ys.length) newCap) (w.drew.alloc (.cells (cs.toArray ++ us.toArray ++ zs.toArray) e)) := by
 unfold aGrow at hg
 split at hg
 ·injection hg with hg
  injection hg with e1 e2
  subst e1; subst e2
  have hl : (cs ++ us).length = (xs.length + ys.length) * esz k := by
   rw [List.length_append, hcs.length, hus.length, Nat.add_mul]
  refine Post.new (w' := w.drew.alloc (.cells (cs.toArray ++ us.toArray ++ zs.toArray) e)) h rfl rfl rfl (by simp) (fun b hb => ?_) hb .tok w.heap.size ((xs.length + ys.length) * esz k) (Nat.le_refl _) _ _ (fun ρ' U' c' m hρ' hU' hc' => ⟨?_, ?_⟩)
  ·show (w.heap.push _)[b]? = _
   rw [Array.getElem?_push, if_neg (by omega)]
  ·refine ⟨_, e, (0, 0), heap_alloc_new w.drew _, by simp [thawed], ?_⟩
   simp at hl ⊢
   omega
  ·have hnew : (w.drew.alloc (.cells (cs.toArray ++ us.toArray ++ zs.toArray) e)).heap[w.heap.size]? = _ := heap_alloc_new w.drew (.cells (cs.toArray ++ us.toArray ++ zs.toArray) e)
   have hcell : ∀ j, (w.drew.alloc (.cells (cs.toArray ++ us.toArray ++ zs.toArray) e)).cell? ⟨w.heap.size, j, none⟩ = (cs ++ us ++ zs)[j]? := fun j => by
    rw [cell_at hnew]; simp
   simp only [Rel]
   refine ⟨⟨w.heap.size, 0, none⟩, newCap, cs ++ us, by simp, by simpa using hle, ?_, ?_, ?_⟩
   ·exact (RelC.mono m k _ _ hcs).append (RelC.mono m k _ _ hus)
   ·intro j u hj
    have hjl : j < (cs ++ us).length := (List.getElem?_eq_some_iff.1 hj).1
    rw [add_lit, Nat.zero_add, hcell, List.getElem?_append_left hjl]
    refine ⟨hj, fun hu => ?_⟩
    have := hU' j hu rfl
    omega
   ·simp only [CapOk]
    refine ⟨by rw [hc']; omega, by rw [hρ'], trivial, by rw [hρ']; simp, fun j hj => ?_⟩
    rw [Nat.zero_add, hcell]
    have e1 : newCap * esz k = (xs.length + ys.length) * esz k + (newCap - (xs.length + ys.length)) * esz k := by
     rw [← Nat.add_mul]; congr 1; omega
    rw [List.getElem?_eq_getElem (by rw [List.length_append, hl, hz]; omega)]
    rfl
 ·cases hg

theorem run_append_fits {argTypes : Array TypeId} {t t1 ty e : TypeId} (ha0 : argTypes[0]? = some t) (ha1 : argTypes[1]? = some t1) {d1 : TypeDesc} {k n m cap : Nat} {base0 : Option Addr} {xv : Value} {ys : List Value}
  (ht : P.underlying t = some (.slice e)) (ht1 : P.underlying t1 = some d1) (hd1 : ∀ q, d1 ≠ .int q) (hsz : szT P e = some (esz k))
  (hlen : (Builtin.lenOf xv).run P w = .ok m w) (hfirst : (Builtin.firstCells (esz k) m xv).run P w = .ok ys.toArray w) (hle : n + m ≤ cap) {w' : World}
  (hst : match base0 with | some a => (storeCells (a.add (n * esz k)) ys).run P w = .ok () w' | none => w' = w) :
  (Builtin.append_ argTypes ty #[.slice base0 n cap, xv]).run P w = .ok (.slice base0 (n + m) cap) w' := by
 have hint : (match d1 with | .int _ => true | _ => false) = false := by
  cases d1 <;> first | rfl | exact absurd rfl (hd1 _)
 unfold Builtin.append_
 simp only [ha0, ha1, List.getElem?_toArray, List.getElem?_cons_zero, List.getElem?_cons_succ, Sem.run_bind, run_underlying ht, run_underlying ht1, Result.andThen_ok, run_sizeOf_ hsz, hint, Sem.run_pure, Bool.false_eq_true, if_false, hlen, hle, if_true]
 rw [if_pos (show (!false) = true from rfl), hfirst, Result.andThen_ok]
 cases base0 with
 | none => subst hst; simp
 | some a => simp [hst]

theorem aGrow_put {k bytes : Nat} {xs ys : List AV} {v : AV} {s0 : St} (hg : aGrow k bytes xs ys s0 = some (v, s')) : v = .vec k (xs ++ ys) (.tok s0.c) ∧ s' = s0.new .tok ∧ roomy (xs.length + ys.length) bytes = true := by
 unfold aGrow at hg
 split at hg
 ·injection hg with hg; injection hg with e1 e2; exact ⟨e1.symm, e2.symm, ‹_›⟩
 ·cases hg

theorem does_retok {k tk cap : Nat} {xs ys : List AV} {A : Addr} {cs us : List Value} (h : Sim base ρ X s w) (ht : hget s.h tk = some .tok)
  (hcs : RelC w ρ (UX ρ s.h X) s.c k xs cs) (hrow : Row w (UX ρ s.h X) A cs) (hcap : CapOk w ρ s.c (.tok tk) A (esz k) xs.length cap)
  (hus : RelC w ρ (UX ρ s.h X) s.c k ys us) (hle : xs.length + ys.length ≤ cap) :
  ∃ w', (storeCells (A.add (xs.length * esz k)) us).run P w = .ok () w' ∧
   Post base ρ X s w (.vec k (xs ++ ys) (.tok s.c)) ((s.del tk).new .tok) (.slice (some A) (xs.length + ys.length) cap) w' := by
 obtain ⟨g1, g2, g3, g4, g5⟩ := hcap
 obtain ⟨C, e, fz, h1, h2, h3⟩ := h.obj tk _ ht
 obtain ⟨b, off, sp⟩ := A
 simp only at g2 g3 g4 g5
 subst g3; subst g2
 have hul := hus.length
 have hcl := hcs.length
 have hfit : off + xs.length * esz k + us.length ≤ C.size := by
  rcases Nat.eq_zero_or_pos ((xs.length + ys.length) * esz k) with h0 | h0
  ·rw [Nat.add_mul] at h0; omega
  ·have hlt : (xs.length + ys.length) * esz k - 1 < cap * esz k := by
    have := Nat.mul_le_mul_right (esz k) hle
    omega
   have := g5 _ hlt
   rw [cell_at h1] at this
   simp at this
   rw [Nat.add_mul] at this h0
   omega
 have hrun := run_storeCells_ P (ρ tk).1 (off + xs.length * esz k) e fz us 0 C w h1 h2 (by omega) hus.one
 simp only [Nat.add_zero] at hrun
 rw [add_lit]
 refine ⟨_, hrun, ?_⟩
 have hsz : ((C.toList.take (off + xs.length * esz k) ++ us ++ C.toList.drop (off + xs.length * esz k + us.length)).toArray).size = C.size := by simp; omega
 obtain ⟨D, hD⟩ : ∃ D, D = (C.toList.take (off + xs.length * esz k) ++ us ++ C.toList.drop (off + xs.length * esz k + us.length)).toArray := ⟨_, rfl⟩
 rw [← hD] at hsz ⊢
 have hlow : ∀ j, j < off + xs.length * esz k → D[j]? = C[j]? := fun j hj => by
  rw [hD]
  simp only [List.getElem?_toArray, List.append_assoc]
  rw [List.getElem?_append_left (by simp; omega), List.getElem?_take, if_pos hj]
  simp
 have hmid : ∀ j u, us[j]? = some u → D[off + xs.length * esz k + j]? = some u := fun j u hj => by
  have hjl := (List.getElem?_eq_some_iff.1 hj).1
  rw [hD]
  simp only [List.getElem?_toArray, List.append_assoc]
  rw [List.getElem?_append_right (by simp; omega), List.getElem?_append_left (by simp; omega)]
  simpa [show min (off + xs.length * esz k) C.size = off + xs.length * esz k by omega] using hj
 have hcellg : ∀ j, (w.setRow (ρ tk).1 D).cell? ⟨(ρ tk).1, j, none⟩ = D[j]? := fun j => cell_setRow_same w _ j C D e fz h1
 have hfr : Fr (Umap ρ s.h) w (w.setRow (ρ tk).1 D) := by
  refine ⟨rfl, rfl, rfl, by simp, fun b _ hb => setRow_other w _ b _ (fun e => hb (ρ tk).2 (e ▸ ⟨tk, .tok, ht, rfl, Nat.le_refl _⟩)), fun a u hu hn => ?_, fun a ha => keep_setRow h1 hsz a ha⟩
  by_cases ea : a.block = (ρ tk).1
  ·obtain ⟨b', o', sp'⟩ := a
   simp only at ea; subst ea
   cases sp' with
   | some q => simp [World.cell?, h1] at hu
   | none =>
    have hlt : o' < off + xs.length * esz k := by
     rw [g4]
     exact Nat.lt_of_not_le (fun hle' => hn ⟨tk, .tok, ht, rfl, hle'⟩)
    rw [hcellg, hlow o' hlt, ← cell_at h1]; exact hu
  ·rw [cell_setRow_other w _ D a ea]; exact hu
 have hg : ∀ n o, hget ((s.del tk).new .tok).h n = some o → (n = s.c ∧ o = .tok) ∨ (n ≠ s.c ∧ n ≠ tk ∧ hget s.h n = some o) := by
  intro n o hn
  simp only [St.new, St.del, hget] at hn
  split at hn
  ·injection hn with e; exact .inl ⟨‹_›, e.symm⟩
  ·obtain ⟨h5, h6⟩ := hget_hdel hn; exact .inr ⟨‹_›, h5, h6⟩
 have hρ : ∀ n, n < s.c → Pl.new ρ s.c ((ρ tk).1, off + (xs.length + ys.length) * esz k) n = ρ n := fun n hn => Pl.new_old hn
 have hge : (ρ tk).2 ≤ off + (xs.length + ys.length) * esz k := by rw [← g4, Nat.add_mul]; omega
 have hU : ∀ b' j, b' < w.heap.size → Umap (Pl.new ρ s.c ((ρ tk).1, off + (xs.length + ys.length) * esz k)) ((s.del tk).new .tok).h b' j → Umap ρ s.h b' j := by
  rintro b' j _ ⟨n, o, hn, hnb, hj⟩
  rcases hg n o hn with ⟨rfl, rfl⟩ | ⟨_, hne, hn'⟩
  ·rw [Pl.new_same] at hnb hj
   exact ⟨tk, .tok, ht, hnb, Nat.le_trans hge hj⟩
  ·rw [hρ n (h.lt n o hn')] at hnb hj
   exact ⟨n, o, hn', hnb, hj⟩
 have m : Mono w ρ (UX ρ s.h X) s.c (w.setRow (ρ tk).1 D) (Pl.new ρ s.c ((ρ tk).1, off + (xs.length + ys.length) * esz k)) (UX (Pl.new ρ s.c ((ρ tk).1, off + (xs.length + ys.length) * esz k)) ((s.del tk).new .tok).h X) (s.c + 1) :=
  .step (s' := (s.del tk).new .tok) h.old hfr hρ (Nat.le_succ _) hU
 refine ⟨_, hρ, Nat.le_succ _, ?_, ?_, hfr, hU⟩
 ·refine h.step (s' := (s.del tk).new .tok) hfr hρ (Nat.le_succ _) (fun n o hn => ?_) (fun n o hn => ?_) hU (fun n m' o1 o2 hn hm' hne => ?_) (fun n o hn => ?_)
  ·show n < s.c + 1
   rcases hg n o hn with ⟨rfl, _⟩ | ⟨_, _, hn'⟩
   ·omega
   ·have := h.lt n o hn'; omega
  ·rcases hg n o hn with ⟨rfl, rfl⟩ | ⟨_, hne, hn'⟩
   ·right
    rw [Pl.new_same]
    refine ⟨D, e, fz, setRow_heap w _ C D e fz h1, by intro j hj; rw [hsz] at hj; exact h2 j hj, ?_⟩
    rw [hsz, Nat.add_mul]; omega
   ·exact .inl ⟨h.lt n o hn', hn', setRow_other w _ _ D (h.inj n tk o .tok hn' ht hne)⟩
  ·rcases hg n o1 hn with ⟨rfl, _⟩ | ⟨_, hn1, hn'⟩ <;> rcases hg m' o2 hm' with ⟨rfl, _⟩ | ⟨_, hm1, hm''⟩
   ·exact absurd rfl hne
   ·rw [Pl.new_same, hρ m' (h.lt m' o2 hm'')]
    exact fun e => h.inj m' tk o2 .tok hm'' ht hm1 e.symm
   ·rw [Pl.new_same, hρ n (h.lt n o1 hn')]
    exact h.inj n tk o1 .tok hn' ht hn1
   ·rw [hρ n (h.lt n o1 hn'), hρ m' (h.lt m' o2 hm'')]
    exact h.inj n m' o1 o2 hn' hm'' hne
  ·rcases hg n o hn with ⟨rfl, _⟩ | ⟨_, _, hn'⟩
   ·rw [Pl.new_same]; exact h.base tk _ ht
   ·rw [hρ n (h.lt n o hn')]; exact h.base n o hn'
 ·simp only [Rel]
  have hs1 : ((s.del tk).new .tok).c = s.c + 1 := rfl
  rw [hs1]
  refine ⟨⟨(ρ tk).1, off, none⟩, cap, cs ++ us, by simp, by simpa using hle, (RelC.mono m k _ _ hcs).append (RelC.mono m k _ _ hus), ?_, ?_⟩
  ·intro j u hj
   by_cases hjl : j < cs.length
   ·rw [List.getElem?_append_left hjl] at hj
    exact (Row.mono hrow m) j u hj
   ·rw [List.getElem?_append_right (by omega)] at hj
    rw [add_lit, hcellg]
    refine ⟨?_, ?_⟩
    ·have := hmid _ u hj
     rwa [show off + xs.length * esz k + (j - cs.length) = off + j by omega] at this
    ·have hjl2 := (List.getElem?_eq_some_iff.1 hj).1
     rintro (⟨n, o, hn, hnb, hj'⟩ | hx)
     ·rcases hg n o hn with ⟨rfl, rfl⟩ | ⟨_, hne, hn'⟩
      ·rw [Pl.new_same] at hj'
       simp only at hj'
       rw [Nat.add_mul] at hj'
       omega
      ·rw [hρ n (h.lt n o hn')] at hnb
       exact h.inj n tk o .tok hn' ht hne hnb
     ·exact h.apart tk _ ht _ hx
  ·simp only [CapOk]
   refine ⟨by omega, by rw [Pl.new_same], trivial, by rw [Pl.new_same]; simp, fun j hj => ?_⟩
   exact m.keep _ (g5 j hj)
end
end Go.Ai
end
section
/- Operations: append, copy, make. -/
set_option linter.unusedVariables false
set_option linter.unusedSimpArgs false
namespace Go.Ai
section
variable {P : Program} {base : Nat} {ρ : Pl} {X U : Reg} {c : Nat} {s s' : St} {w : World}


theorem does_append {argTypes : Array TypeId} {ty : TypeId} {a x v : AV} {av xv : Value} (hb : base ≤ w.heap.size) (h : Sim base ρ X s w) (ha : Rel w ρ (UX ρ s.h X) s.c a av) (hx : Rel w ρ (UX ρ s.h X) s.c x xv)
  (hh : aAppend P argTypes a x s = some (v, s')) : Does P base ρ X s w (Builtin.append_ argTypes ty #[av, xv]) v s' := by
 simp only [aAppend, Option.bind_eq_bind, Option.bind_eq_some_iff] at hh
 obtain ⟨t, ha0, d, ht, hh⟩ := hh
 split at hh
 ·rename_i e
  simp only [Option.bind_eq_some_iff] at hh
  obtain ⟨t1, ha1, hh⟩ := hh
  split at hh
  ·cases hh
  ·cases hh
  ·rename_i hni hnn
   obtain ⟨d1, ht1⟩ : ∃ d1, P.underlying t1 = some d1 := by
    cases hu : P.underlying t1 with
    | none => exact absurd hu hnn
    | some d1 => exact ⟨d1, rfl⟩
   have hd1 : ∀ q, d1 ≠ .int q := fun q e => hni q (e ▸ ht1)
   simp only [Option.bind_eq_some_iff] at hh
   obtain ⟨k, hk, i, hi, z, hz, ys, hys, hh⟩ := hh
   obtain ⟨hsz, _⟩ := shapeT_some hk
   split at hh
   ·cases hh
   ·rename_i hzl
    have hzl : z.cells.length = esz k := by simpa using hzl
    simp only [zeroT, Option.bind_eq_bind, Option.bind_eq_some_iff] at hz
    obtain ⟨i', hi', zv, hzv, hz⟩ := hz
    have hzr : ∀ w, (zeroValue e).run P w = .ok zv w := fun w => by simp [zeroValue, typeInfo, hi', hzv]
    have hzs : zv.cells.size = esz k := by
     have := (ofVal_rel (w := w) (ρ := ρ) (U := fun _ _ => False) (c := 0) hz).cells_size
     omega
    obtain ⟨us, hus, hlen, hfirst⟩ := source_rel (P := P) h hx hys
    have hul := hus.length
    have hfull : us.take (ys.length * esz k) = us := List.take_of_length_le (by omega)
    have hsame : ∀ (w' : World), w'.heap = w.heap → ∀ (a : Addr) u, w.cell? a = some u → w'.cell? a = some u := fun w' e a u hu => by
     unfold World.cell? at hu ⊢
     rw [e]; exact hu
    have hf : ∀ w' : World, w'.heap = w.heap → (Builtin.firstCells (esz k) ys.length xv).run P w' = .ok us.toArray w' := fun w' e => by
     have := hfirst w' (hsame w' e) ys.length (Nat.le_refl _)
     rwa [hfull] at this
    -- nothing is appended
    have hnone : ∀ (base0 : Option Addr) (n cap : Nat), ys = [] → n ≤ cap → (Builtin.append_ argTypes ty #[.slice base0 n cap, xv]).run P w = .ok (.slice base0 n cap) w := fun base0 n cap he hle => by
     have hu0 : us = [] := List.eq_nil_of_length_eq_zero (by rw [hul, he]; simp)
     have hl0 : ys.length = 0 := by rw [he]; rfl
     have := run_append_fits (P := P) (w := w) (w' := w) (ty := ty) (base0 := base0) (n := n) (m := ys.length) (cap := cap) (k := k) ha0 ha1 ht ht1 hd1 hsz (hlen w) (hf w rfl) (by omega) (by
      rw [hu0]
      cases base0 with
      | none => rfl
      | some a => simp [storeCells])
     simpa [hl0] using this
    have hgrow : ∀ {xs : List AV} {s0 : St} (base0 : Option Addr) (cap : Nat) (cs : List Value), Sim base ρ X s0 w → UX ρ s0.h X = UX ρ s.h X ∨ (∀ b j, UX ρ s0.h X b j → UX ρ s.h X b j) → s0.c = s.c → (∀ b j, Umap ρ s0.h b j → Umap ρ s.h b j) →
      RelC w ρ (UX ρ s.h X) s.c k xs cs → (∀ w' : World, w'.heap = w.heap → (Builtin.firstCells (esz k) xs.length (.slice base0 xs.length cap)).run P w' = .ok cs.toArray w') → cap < xs.length + ys.length → ys ≠ [] →
      aGrow k i.bytes xs ys s0 = some (v, s') → Does P base ρ X s w (Builtin.append_ argTypes ty #[.slice base0 xs.length cap, xv]) v s' := by
     intro xs s0 base0 cap cs h0 hUs hc0 hU0 hcs hold hgt hne hg
     obtain ⟨_, hs'e, hroom⟩ := aGrow_put hg
     obtain ⟨newCap, hle, hrun⟩ := run_append_grows (P := P) (w := w) (ty := ty) (base0 := base0) (n := xs.length) (m := ys.length) (cap := cap) (zv := zv) (i := i) (us := cs) (ys := us) ha0 ha1 ht ht1 hd1 hi hsz hzr hzs hlen hf hold hgt hroom
     have m0 : Mono w ρ (UX ρ s.h X) s.c w ρ (UX ρ s0.h X) s0.c := ⟨by rw [hc0]; exact Nat.le_refl _, fun _ _ => rfl, fun a u hu _ => hu, fun a ha => ha, fun b j _ hj => hUs.elim (fun e => e ▸ hj) (fun f => f b j hj)⟩
     obtain ⟨ρ', p1, p2, p3, p4, p5, p6⟩ := does_grow (newCap := newCap) (zs := (Builtin.zeroCells zv.cells (newCap - (xs.length + ys.length))).toList) (e := e) hb h0 hg (RelC.mono m0 k _ _ hcs) (RelC.mono m0 k _ _ hus) (by simp [zeroCells_size, hzs]) hle hne
     refine ⟨_, _, hrun, ρ', ?_, ?_, ?_, p4, ?_, ?_⟩
     ·intro n hn; exact p1 n (by rw [hc0]; exact hn)
     ·rw [← hc0]; exact p2
     ·simpa using p3
     ·have : Fr (Umap ρ s.h) w (w.drew.alloc (.cells (cs.toArray ++ us.toArray ++ (Builtin.zeroCells zv.cells (newCap - (xs.length + ys.length)))) e)) := (Fr.drew w).trans (Fr.alloc _ _) (fun b j _ hj => hj)
      exact this
     ·intro b j hb' hj; exact hU0 b j (p6 b j hb' hj)
    split at hh
    ·-- nil
     simp only [Rel] at ha; subst ha
     split at hh
     ·rename_i hye
      injection hh with hh; injection hh with e1 e2; subst e1; subst e2
      exact ⟨_, w, hnone none 0 0 (by simpa using hye) (Nat.le_refl _), .same h (by simp [Rel])⟩
     ·rename_i hye
      have hne : ys ≠ [] := by simpa using hye
      have hpos : 0 < ys.length := List.length_pos_iff.2 hne
      exact hgrow (xs := []) none 0 [] h (.inl rfl) rfl (fun _ _ hj => hj) (by simp [RelC]) (fun w' _ => by simp [Builtin.firstCells]) (by simpa using hpos) hne hh
    ·-- an empty one
     rename_i z
     have ha' := ha
     simp only [Rel] at ha
     obtain ⟨A, cap, rfl, hA, hz⟩ := ha
     split at hh
     ·rename_i hye
      injection hh with hh; injection hh with e1 e2; subst e1; subst e2
      exact ⟨_, w, hnone A 0 cap (by simpa using hye) (Nat.zero_le _), .same h ha'⟩
     ·rename_i hye
      have hne : ys ≠ [] := by simpa using hye
      have hpos : 0 < ys.length := List.length_pos_iff.2 hne
      split at hh
      ·rename_i hzt
       have hc0 := hz hzt
       subst hc0
       exact hgrow (xs := []) A 0 [] h (.inl rfl) rfl (fun _ _ hj => hj) (by simp [RelC]) (fun w' _ => by cases A <;> simp [Builtin.firstCells, loadCells, loadCellsFrom]) (by simpa using hpos) hne hh
      ·cases hh
    ·-- a row
     rename_i k' xs cp
     split at hh
     ·cases hh
     ·rename_i hkk
      have hkk : k' = k := by simpa using hkk
      subst hkk
      have ha' := ha
      simp only [Rel] at ha
      obtain ⟨A, cap, cs, rfl, h2, h3, h4, h5⟩ := ha
      split at hh
      ·rename_i hye
       injection hh with hh; injection hh with e1 e2; subst e1; subst e2
       exact ⟨_, w, hnone (some A) xs.length cap (by simpa using hye) h2, .same h ha'⟩
      ·rename_i hye
       have hne : ys ≠ [] := by simpa using hye
       have hpos : 0 < ys.length := List.length_pos_iff.2 hne
       have hold : ∀ w' : World, w'.heap = w.heap → (Builtin.firstCells (esz k') xs.length (.slice (some A) xs.length cap)).run P w' = .ok cs.toArray w' := fun w' e => by
        have hr := run_loadCells_list (P := P) w' A cs (fun j u hj => hsame w' e _ _ (h4 j u hj).1)
        rw [h3.length] at hr
        simpa [Builtin.firstCells] using hr
       split at hh
       ·simp only [CapOk] at h5
        exact hgrow (some A) cap cs h (.inl rfl) rfl (fun _ _ hj => hj) h3 hold (by omega) hne hh
       ·rename_i tk
        split at hh
        ·rename_i htk
         by_cases hfit : xs.length + ys.length ≤ cap
         ·obtain ⟨hv, hs', hroom⟩ := aGrow_put hh
          obtain ⟨w', hst, hp⟩ := does_retok (P := P) h htk h3 h4 h5 hus hfit
          have hrun := run_append_fits (P := P) (w := w) (w' := w') (ty := ty) (base0 := some A) (n := xs.length) (m := ys.length) (cap := cap) (k := k') ha0 ha1 ht ht1 hd1 hsz (hlen w) (hf w rfl) hfit hst
          subst hv; subst hs'
          exact ⟨_, w', hrun, hp⟩
         ·exact hgrow (some A) cap cs (h.del tk) (.inr (fun b j hj => hj.imp Umap.del id)) rfl (fun _ _ hj => hj.del) h3 hold (by omega) hne hh
        ·cases hh
       ·cases hh
    ·-- memory of the call's own
     rename_i k' n off len cap
     split at hh
     ·cases hh
     ·rename_i hkk
      have hkk : k' = k := by simpa using hkk
      subst hkk
      split at hh
      ·cases hh
      ·rename_i hlc
       have ha' := ha
       simp only [Rel] at ha
       obtain ⟨h1, rfl⟩ := ha
       split at hh
       ·rename_i hye
        injection hh with hh; injection hh with e1 e2; subst e1; subst e2
        exact ⟨_, w, hnone _ len cap (by simpa using hye) (by omega), .same h ha'⟩
       ·rename_i hye
        have hne : ys ≠ [] := by simpa using hye
        split at hh
        ·rename_i hfit
         simp only [Option.bind_eq_some_iff] at hh
         obtain ⟨s1, hst, hh⟩ := hh
         injection hh with hh; injection hh with e1 e2; subst e1; subst e2
         obtain ⟨w', hr, hp⟩ := does_storeAt (P := P) h hus.cells hst
         have hrun := run_append_fits (P := P) (w := w) (w' := w') (ty := ty) (base0 := some ⟨(ρ n).1, off, none⟩) (n := len) (m := ys.length) (cap := cap) (k := k') ha0 ha1 ht ht1 hd1 hsz (hlen w) (hf w rfl) hfit (by
          simp only [add_lit]; exact hr)
         exact ⟨_, w', hrun, hp _ _ (by simp [Rel, h1])⟩
        ·rename_i hfit
         simp only [Option.bind_eq_some_iff] at hh
         obtain ⟨⟨kk, xs⟩, he, hh⟩ := hh
         simp only at hh
         have hkk : kk = k' ∧ xs.length = len := by
          simp only [elems] at he
          split at he
          ·split at he
           ·injection he with he; injection he with e1 e2; exact ⟨e1.symm, by rw [← e2, chunk_length]⟩
           ·cases he
          ·cases he
         obtain ⟨rfl, rfl⟩ := hkk
         obtain ⟨A, cap', cs, e0, g1, g2⟩ := elems_rel h ha' he
         injection e0 with e0 _ e0'
         injection e0 with e0
         subst e0; subst e0'
         have hold : ∀ w' : World, w'.heap = w.heap → (Builtin.firstCells (esz kk) xs.length (.slice (some ⟨(ρ n).1, off, none⟩) xs.length cap)).run P w' = .ok cs.toArray w' := fun w' e => by
          have hr := run_loadCells_list (P := P) w' _ cs (fun j u hj => hsame w' e _ _ (g2 j u hj))
          rw [g1.length] at hr
          simpa [Builtin.firstCells] using hr
         exact hgrow _ cap cs h (.inl rfl) rfl (fun _ _ hj => hj) g1 hold (by omega) hne hh
    ·cases hh
 ·cases hh

theorem does_copy {argTypes : Array TypeId} {ty : TypeId} {a x v : AV} {av xv : Value} (h : Sim base ρ X s w) (ha : Rel w ρ (UX ρ s.h X) s.c a av) (hx : Rel w ρ (UX ρ s.h X) s.c x xv)
  (hh : aCopy P argTypes a x s = some (v, s')) : Does P base ρ X s w (Builtin.copy_ argTypes ty #[av, xv]) v s' := by
 simp only [aCopy, Option.bind_eq_bind, Option.bind_eq_some_iff] at hh
 obtain ⟨t, ha0, d, ht, hh⟩ := hh
 split at hh
 ·rename_i e
  simp only [Option.bind_eq_some_iff] at hh
  obtain ⟨k, hk, ys, hys, hh⟩ := hh
  obtain ⟨hsz, _⟩ := shapeT_some hk
  obtain ⟨us, hus, hlen, hfirst⟩ := source_rel (P := P) h hx hys
  split at hh
  ·simp only [Rel] at ha; subst ha
   injection hh with hh; injection hh with e1 e2; subst e1; subst e2
   have hf := hfirst w (fun _ _ hu => hu) 0 (Nat.zero_le _)
   refine ⟨.int .i64 0, w, ?_, .same h (by simp [Rel])⟩
   unfold Builtin.copy_
   simp [ha0, run_underlying ht, hlen w, run_sizeOf_ hsz, hf, goInt]
  ·simp only [Rel] at ha
   obtain ⟨A, cap, rfl, hA, _⟩ := ha
   injection hh with hh; injection hh with e1 e2; subst e1; subst e2
   have hf := hfirst w (fun _ _ hu => hu) 0 (Nat.zero_le _)
   refine ⟨.int .i64 0, w, ?_, .same h (by simp [Rel])⟩
   unfold Builtin.copy_
   cases A <;> simp [ha0, run_underlying ht, hlen w, run_sizeOf_ hsz, hf, goInt, storeCells]
  ·rename_i k' n off len cap
   split at hh
   ·cases hh
   ·rename_i hkk
    have hkk : k' = k := by simpa using hkk
    subst hkk
    simp only [Option.bind_eq_some_iff] at hh
    obtain ⟨s1, hst, hh⟩ := hh
    injection hh with hh; injection hh with e1 e2; subst e1; subst e2
    simp only [Rel] at ha
    obtain ⟨h1, rfl⟩ := ha
    have hm : min ys.length len ≤ ys.length := Nat.min_le_left _ _
    have hf := hfirst w (fun _ _ hu => hu) (min ys.length len) hm
    obtain ⟨w', hr, hp⟩ := does_storeAt (P := P) h (hus.take (min ys.length len)).cells hst
    refine ⟨.int .i64 (min ys.length len : Nat), w', ?_, hp _ _ (by simp [Rel])⟩
    unfold Builtin.copy_
    have e : Nat.min ys.length len = min ys.length len := rfl
    simp [ha0, run_underlying ht, hlen w, run_sizeOf_ hsz, e, hf, hr, goInt]
  ·cases hh
 ·cases hh
end
end Go.Ai
end
section
/- Operations: make, structs and rows written out. -/
set_option linter.unusedVariables false
set_option linter.unusedSimpArgs false
namespace Go.Ai
section
variable {P : Program} {base : Nat} {ρ : Pl} {X U : Reg} {c : Nat} {s s' : St} {w : World}

theorem flatten_get {α : Type} (l : List α) (hl : 0 < l.length) : ∀ (n j : Nat), j < n * l.length → ((List.replicate n l).flatten)[j]? = l[j % l.length]?
 | 0, j, h => by simp at h
 | n + 1, j, h => by
  rw [List.replicate_succ, List.flatten_cons]
  by_cases hj : j < l.length
  ·rw [List.getElem?_append_left hj, Nat.mod_eq_of_lt hj]
  ·rw [Nat.add_mul, Nat.one_mul] at h
   rw [List.getElem?_append_right (by omega), flatten_get l hl n _ (by omega), ← Nat.mod_eq_sub_mod (by omega)]
theorem made_list (z : Array Value) (n : Nat) (hz : 0 < z.size) : (madeCells z (n * z.size)).toList = (List.replicate n z.toList).flatten := by
 apply List.ext_getElem?
 intro j
 have hlen : ((List.replicate n z.toList).flatten).length = n * z.size := by simp
 by_cases hj : j < n * z.size
 ·rw [flatten_get z.toList (by simpa using hz) n j (by simpa using hj)]
  have hm : j % z.size < z.size := Nat.mod_lt _ hz
  simp [madeCells, hj, hm]
 ·exact (List.getElem?_eq_none (by simp [madeCells]; omega)).trans (List.getElem?_eq_none (by rw [hlen]; omega)).symm
theorem RelL.flatten {z : List AV} {zs : List Value} (h : RelL w ρ U c z zs) : ∀ n, RelL w ρ U c ((List.replicate n z).flatten) ((List.replicate n zs).flatten)
 | 0 => by simp [RelL]
 | n + 1 => by
  rw [List.replicate_succ, List.replicate_succ, List.flatten_cons, List.flatten_cons]
  exact h.append (h.flatten n)
theorem all_one {xs : List AV} (h : xs.all AV.one = true) : ∀ x ∈ xs, x.one = true := by simpa using h

theorem does_makeSlice {t : TypeId} {l cc v : AV} {lv cv : Value} (hb : base ≤ w.heap.size) (h : Sim base ρ X s w) (hl : Rel w ρ (UX ρ s.h X) s.c l lv) (hc : Rel w ρ (UX ρ s.h X) s.c cc cv)
  (hh : aMakeSlice P t l cc s = some (v, s')) : Does P base ρ X s w (Instr.makeSlice t lv cv) v s' := by
 simp only [aMakeSlice, Option.bind_eq_bind, Option.bind_eq_some_iff] at hh
 obtain ⟨d, ht, hh⟩ := hh
 split at hh
 ·rename_i e
  simp only [Option.bind_eq_some_iff] at hh
  obtain ⟨i, hi, k, hk, ln, hln, cn, hcn, z, hz, hh⟩ := hh
  split at hh
  ·rename_i hc'
   obtain ⟨h0, h1, h2, h4, h5, h6⟩ := hc'
   injection hh with hh; injection hh with e1 e2; subst e1; subst e2
   obtain ⟨kl, rfl⟩ := aInt_rel hl hln
   obtain ⟨kc, rfl⟩ := aInt_rel hc hcn
   simp only [zeroT, Option.bind_eq_bind, Option.bind_eq_some_iff] at hz
   obtain ⟨i', hi', zv, hzv, hz⟩ := hz
   rw [hi] at hi'; injection hi' with hi'; subst hi'
   have hzr := ofVal_rel (w := w) (ρ := ρ) (U := UX ρ s.h X) (c := s.c) hz
   have hzs := hzr.cells_size
   obtain ⟨r1, r2⟩ := roomy_spec h2
   have hcc : (cn.toNat : Int) = cn := Int.toNat_of_nonneg (by omega)
   have hr2 : (i.bytes : Int) * cn ≤ 281474976710656 := by
    have : ((cn.toNat * i.bytes : Nat) : Int) ≤ 137438953472 := by omega
    rw [Int.natCast_mul, hcc, Int.mul_comm] at this
    omega
   have hrun := run_make (P := P) w t e i zv ht hi hzv kl kc ln cn h0 h1 hr2 (by omega)
   refine ⟨_, _, hrun, ?_⟩
   refine Post.new (w' := w.alloc (.cells (madeCells zv.cells (cn.toNat * i.size)) e)) h rfl rfl rfl (by simp) (fun b hb => ?_) hb (.cells ((List.replicate cn.toNat z.cells).flatten)) w.heap.size 0 (Nat.le_refl _) _ _ (fun ρ' U' c' m hρ' _ hc' => ⟨?_, ?_⟩)
   ·show (w.heap.push _)[b]? = _
    rw [Array.getElem?_push, if_neg (by omega)]
   ·refine ⟨_, e, (0, 0), heap_alloc_new w _, by simp [thawedE], ?_, ?_⟩
    ·have e : (madeCells zv.cells (cn.toNat * i.size)).toList = (List.replicate cn.toNat zv.cells.toList).flatten := by
      rw [h6, show esz k = zv.cells.size by omega, made_list _ _ (by have := esz_pos k; omega)]
     rw [e]
     exact (RelL.mono m _ _ hzr.cells).flatten _
    ·intro x hx
     obtain ⟨l, hl1, hl2⟩ := List.mem_flatten.1 hx
     obtain ⟨_, rfl⟩ := List.mem_replicate.1 hl1
     exact all_one h5 x hl2
   ·simp only [Rel]
    exact ⟨by rw [hc']; omega, by rw [hρ']⟩
  ·cases hh
 ·cases hh

/-! ### Parts put in -/
theorem fill_step (off : Nat) : ∀ (vs : List Value) (j : Nat) (cells : Array Value), off + j + vs.length ≤ cells.size →
  ((vs.zipIdx j).foldl (fun (cs : Array Value) (p : Value × Nat) => cs.setIfInBounds (off + p.2) p.1) cells).toList = cells.toList.take (off + j) ++ vs ++ cells.toList.drop (off + j + vs.length)
 | [], j, cells, _ => by simp
 | v :: vs, j, cells, h => by
  rw [List.zipIdx_cons, List.foldl_cons, fill_step off vs (j + 1) _ (by simp at h ⊢; omega)]
  have e := list_seg_step cells.toList (off + j) v vs (by simp at h ⊢; omega)
  simpa [Array.toList_setIfInBounds, Nat.add_assoc] using e
theorem fill_rel {place place' : Nat → Option (Nat × Nat)} (hp : ∀ i, place i = place' i) : ∀ {parts : List (Nat × AV)} {pv : List (Nat × Value)} {cells out : List AV} {cv : Array Value},
  (parts.length = pv.length ∧ ∀ (j : Nat) (p : Nat × AV) (q : Nat × Value), parts[j]? = some p → pv[j]? = some q → p.1 = q.1 ∧ Rel w ρ U c p.2 q.2) → RelL w ρ U c cells cv.toList → aFill place cells parts = some out →
  ∃ ov : Array Value, Instr.fill place' cv pv = some ov ∧ RelL w ρ U c out ov.toList ∧ out.length = cells.length
 | [], pv, cells, out, cv, hpv, hc, h => by
  simp only [aFill] at h
  injection h with h; subst h
  have : pv = [] := List.eq_nil_of_length_eq_zero (by simpa using hpv.1.symm)
  subst this
  exact ⟨cv, rfl, hc, rfl⟩
 | (i, x) :: parts, [], cells, out, cv, hpv, hc, h => by simp at hpv
 | (i, x) :: parts, (i', v) :: pv, cells, out, cv, hpv, hc, h => by
  obtain ⟨hl, hr⟩ := hpv
  obtain ⟨e1, hxv⟩ := hr 0 (i, x) (i', v) (by simp) (by simp)
  simp only at e1 hxv
  subst e1
  simp only [aFill, Option.bind_eq_bind, Option.bind_eq_some_iff] at h
  obtain ⟨⟨off, size⟩, hpl, h⟩ := h
  simp only at h
  split at h
  ·cases h
  ·rename_i hno
   have hxs := hxv.cells_size
   have hcl := hc.length
   simp only [Array.length_toList] at hcl
   have hsz : x.cells.length = size := by omega
   have hfit : off + x.cells.length ≤ cells.length := by omega
   have hstep := fill_step off v.cells.toList 0 cv (by simp; omega)
   have hrel : RelL w ρ U c (splice cells off x.cells) ((v.cells.toList.zipIdx 0).foldl (fun (cs : Array Value) (p : Value × Nat) => cs.setIfInBounds (off + p.2) p.1) cv).toList := by
    rw [hstep]
    exact splice_rel hc hxv.cells off
   obtain ⟨ov, h1, h2, h3⟩ := fill_rel hp ⟨by simpa using hl, fun j p q hp hq => hr (j + 1) p q (by simpa using hp) (by simpa using hq)⟩ hrel h
   refine ⟨ov, ?_, h2, by rw [h3, splice_length hfit]⟩
   unfold Instr.fill
   rw [← hp i, hpl]
   have g1 : (v.cells.size ≠ size || off + v.cells.size > cv.size) = false := by
    simp; omega
   simp only [g1, Bool.false_eq_true, if_false]
   rw [← h1]
   congr 1
   rw [← Array.foldl_toList, Array.toList_zipIdx]

def RelP (w : World) (ρ : Pl) (U : Reg) (c : Nat) (ps : List (Nat × AV)) (pv : List (Nat × Value)) : Prop :=
 ps.length = pv.length ∧ ∀ (j : Nat) (p : Nat × AV) (q : Nat × Value), ps[j]? = some p → pv[j]? = some q → p.1 = q.1 ∧ Rel w ρ U c p.2 q.2

theorem gives_build {t : TypeId} {ps : List (Nat × AV)} {pv : Array (Nat × Value)} {v : AV} (hp : RelP w ρ U c ps pv.toList) (h : aBuild P t ps = some v) : Gives P w ρ U c (Instr.build t pv) v := by
 simp only [aBuild, Option.bind_eq_bind, Option.bind_eq_some_iff] at h
 obtain ⟨z, hz, d, hd, h⟩ := h
 obtain ⟨zv, hzr, hzz⟩ := run_zero hz w
 have hzc := (hzz w ρ U c).cells
 unfold Instr.build
 split at h
 ·rename_i fs
  simp only [Option.bind_eq_some_iff] at h
  obtain ⟨places, hpl, h⟩ := h
  simp only [Option.map_eq_some_iff] at h
  obtain ⟨out, hout, rfl⟩ := h
  have hplaces : ∀ (l : List Field) (ps : List (Nat × Nat)), (l.mapM fun f => (szT P f.type).map fun z => (f.offset, z)) = some ps → (l.mapM (m := Sem) fun f => do pure (f.offset, ← sizeOf f.type)).run P w = .ok ps w := by
   intro l
   induction l with
   | nil => intro ps h; simp at h; subst h; simp
   | cons f l ih =>
    intro ps h
    simp only [List.mapM_cons, Option.bind_eq_bind, Option.bind_eq_some_iff, Option.map_eq_some_iff, Option.pure_def] at h
    obtain ⟨a, ⟨z, hz, rfl⟩, qs, hqs, h⟩ := h
    injection h with h; subst h
    rw [List.mapM_cons]
    simp only [Sem.run_bind, run_sizeOf_ hz, Result.andThen_ok, Sem.run_pure, ih qs hqs]
  have hpa : (fs.mapM (m := Sem) fun f => do pure (f.offset, ← sizeOf f.type)).run P w = .ok places.toArray w := by
   rw [Array.mapM_eq_mapM_toList, Sem.run_map, hplaces _ _ hpl]
   rfl
  obtain ⟨ov, h1, h2, _⟩ := fill_rel (place := (places[·]?)) (place' := (places.toArray[·]?)) (fun i => by simp) hp hzc hout
  refine ⟨.agg ov, ?_, by simp only [Rel]; exact ⟨ov.toList, by simp, h2⟩⟩
  simp only [Sem.run_bind, hzr, Result.andThen_ok, run_underlying hd, hpa, h1, Sem.run_pure]
 ·rename_i n e
  simp only [Option.bind_eq_some_iff] at h
  obtain ⟨size, hsz, h⟩ := h
  simp only [Option.map_eq_some_iff] at h
  obtain ⟨out, hout, rfl⟩ := h
  obtain ⟨ov, h1, h2, _⟩ := fill_rel (place := fun i => some (i * size, size)) (place' := fun i => some (i * size, size)) (fun i => rfl) hp hzc hout
  refine ⟨.agg ov, ?_, by simp only [Rel]; exact ⟨ov.toList, by simp, h2⟩⟩
  simp only [Sem.run_bind, hzr, Result.andThen_ok, run_underlying hd, run_sizeOf_ hsz, h1, Sem.run_pure]
 ·cases h

theorem does_buildSlice {t : TypeId} {len : Nat} {ps : List (Nat × AV)} {pv : Array (Nat × Value)} {v : AV} (h0 : Sim base ρ X s w) (hp : RelP w ρ (UX ρ s.h X) s.c ps pv.toList) (h : aBuildSlice P t len ps = some v) : Does P base ρ X s w (Instr.buildSlice t len pv) v s := by
 simp only [aBuildSlice, Option.bind_eq_bind, Option.bind_eq_some_iff] at h
 obtain ⟨d, hd, h⟩ := h
 split at h
 ·rename_i e
  simp only [Option.bind_eq_some_iff] at h
  obtain ⟨k, hk, i, hi, h⟩ := h
  split at h
  ·cases h
  ·rename_i hno
   simp only [Option.bind_eq_some_iff] at h
   obtain ⟨z, hz, h⟩ := h
   split at h
   ·cases h
   ·rename_i hzl
    simp only [Option.bind_eq_some_iff] at h
    obtain ⟨cs, hcs, h⟩ := h
    split at h
    ·rename_i hfin
     injection h with h; subst h
     obtain ⟨zv, hzr, hzz⟩ := run_zero hz w
     have hzs := (hzz w ρ (UX ρ s.h X) s.c).cells_size
     have hzl : z.cells.length = esz k := by simpa using hzl
     obtain ⟨hsz, _⟩ := shapeT_some hk
     have hbig : ¬ (len * esz k > 16777216) := by omega
     have hzero : ∀ n, ((Array.range n).map (zv.cells[· % zv.cells.size]!)) = madeCells zv.cells n := fun n => rfl
     have hzc : RelL w ρ (UX ρ s.h X) s.c ((List.replicate len z.cells).flatten) (madeCells zv.cells (len * esz k)).toList := by
      rw [show esz k = zv.cells.size by omega, made_list _ _ (by have := esz_pos k; omega)]
      exact (hzz w ρ _ _).cells.flatten _
     obtain ⟨ov, g1, g2, g3⟩ := fill_rel (place := fun i => some (i * esz k, esz k)) (place' := fun i => some (i * esz k, esz k)) (fun i => rfl) hp hzc hcs
     have hov : ov.size = cs.length := by have := g2.length; simpa using this
     refine ⟨.slice (some ⟨w.heap.size, 0, none⟩) len len, w.alloc (.cells ov e), ?_, ?_⟩
     ·unfold Instr.buildSlice
      have e24 : (2:Nat) ^ 24 = 16777216 := by decide
      have hbig' : ¬ (len * esz k > 2 ^ 24) := by omega
      by_cases hl0 : len * esz k = 0
      ·have hmade : ((Array.range (len * esz k)).map ((#[] : Array Value)[· % (#[] : Array Value).size]!)) = madeCells zv.cells (len * esz k) := by
        apply Array.ext
        ·simp [madeCells]
        ·intro j hj; simp [hl0] at hj
       simp only [Sem.run_bind, run_underlying hd, Result.andThen_ok, run_sizeOf_ hsz, if_neg hbig', if_pos hl0, Sem.run_pure, hmade, g1, newRow, run_newObj, World.alloc_eq]
      ·simp only [Sem.run_bind, run_underlying hd, Result.andThen_ok, run_sizeOf_ hsz, if_neg hbig', if_neg hl0, hzr, Sem.run_pure, hzero, g1, newRow, run_newObj, World.alloc_eq]
     ·have hfr : ∀ b, b < w.heap.size → (w.alloc (.cells ov e)).heap[b]? = w.heap[b]? := fun b hb => by
       show (w.heap.push _)[b]? = _
       rw [Array.getElem?_push, if_neg (by omega)]
      refine Post.grow h0 rfl rfl rfl (by simp) hfr ?_
      have m : Mono w ρ (UX ρ s.h X) s.c (w.alloc (.cells ov e)) ρ (UX ρ s.h X) s.c := Mono.grow (fun U => Fr.alloc w _)
      have hrc := chunk_relC (k := k) (n := len) (RelL.mono m _ _ g2) (all_one hfin.1) (by omega)
      have hfull : ov.toList.take (len * esz k) = ov.toList := List.take_of_length_le (by simp; omega)
      rw [hfull] at hrc
      simp only [Rel, chunk_length]
      refine ⟨⟨w.heap.size, 0, none⟩, len, ov.toList, rfl, Nat.le_refl _, hrc, ?_, rfl⟩
      intro j u hj
      rw [add_lit, Nat.zero_add, cell_at (heap_alloc_new w _)]
      refine ⟨by simpa using hj, ?_⟩
      rintro (⟨n, o, hn, hnb, _⟩ | hx)
      ·have := h0.blk_lt hn
       simp only at hnb; omega
      ·have := h0.old _ _ hx
       simp at this
    ·cases h
 ·cases h
end
end Go.Ai
end
section
/- Operations: conversions, maps, ranges over strings, assertions. -/
set_option linter.unusedVariables false
set_option linter.unusedSimpArgs false
namespace Go.Ai
section
variable {P : Program} {base : Nat} {ρ : Pl} {X U : Reg} {c : Nat} {s s' : St} {w : World}

theorem bytesOf_spec : ∀ {xs : List AV} {l : List UInt8}, bytesOf xs = some l → ∃ ns : List Int, xs = ns.map (AV.int .u8) ∧ l = ns.map fun n => UInt8.ofNat n.toNat
 | [], l, h => by simp only [bytesOf] at h; injection h with h; subst h; exact ⟨[], rfl, rfl⟩
 | x :: xs, l, h => by
  unfold bytesOf at h
  split at h
  ·rename_i heq; cases heq
  ·rename_i n xs' heq
   injection heq with e1 e2; subst e1; subst e2
   simp only [Option.map_eq_some_iff] at h
   obtain ⟨l', hl, rfl⟩ := h
   obtain ⟨ns, rfl, rfl⟩ := bytesOf_spec hl
   exact ⟨n :: ns, rfl, rfl⟩
  ·cases h
theorem relC_ints : ∀ {ns : List Int} {cs : List Value}, RelC w ρ U c 0 (ns.map (AV.int .u8)) cs → cs = ns.map (Value.int .u8)
 | [], cs, h => by simpa [RelC] using h
 | n :: ns, cs, h => by
  simp only [List.map_cons, RelC] at h
  obtain ⟨v, us, rfl, _, h2, h3⟩ := h
  simp only [Rel] at h2; subst h2
  rw [relC_ints h3]
  rfl

theorem freeze_new (w : World) (C : Array Value) (e : TypeId) : (((w.alloc (.cells C e)).freeze ⟨w.heap.size, C.size, none⟩ 1).heap[w.heap.size]? = some (.cells C e (C.size, C.size + 1))) ∧
  (∀ b, b < w.heap.size → ((w.alloc (.cells C e)).freeze ⟨w.heap.size, C.size, none⟩ 1).heap[b]? = w.heap[b]?) ∧ w.heap.size ≤ ((w.alloc (.cells C e)).freeze ⟨w.heap.size, C.size, none⟩ 1).heap.size := by
 refine ⟨?_, fun b hb => ?_, ?_⟩
 ·simp only [World.freeze, Nat.one_ne_zero, if_false, Array.getElem?_modify, if_true]
  rw [heap_alloc_new]
  rfl
 ·simp only [World.freeze, Nat.one_ne_zero, if_false, Array.getElem?_modify]
  rw [if_neg (by omega)]
  show (w.heap.push _)[b]? = _
  rw [Array.getElem?_push, if_neg (by omega)]
 ·simp [World.freeze]

theorem does_bytes {l : List UInt8} {e : TypeId} {v : AV} (hb : base ≤ w.heap.size) (h : Sim base ρ X s w) (hr : roomy l.length 1 = true) :
  Does P base ρ X s w (Conv.stringToBytes e ⟨l.toArray⟩) (.vec 0 (l.map fun b => .int .u8 b.toNat) (.tok s.c)) (s.new .tok) := by
 obtain ⟨cap, hcap⟩ : ∃ cap, cap = (Question.appendCap l.length 0 e).cut (w.tape w.drawn (.appendCap l.length 0 e)) := ⟨_, rfl⟩
 have hle : l.length ≤ cap := by rw [hcap]; show l.length ≤ l.length + _; omega
 obtain ⟨C, hC⟩ : ∃ C : Array Value, C = (l.toArray.map fun b => Value.int .u8 b.toNat) ++ Array.replicate (cap - l.length) (.int .u8 0) := ⟨_, rfl⟩
 have hCs : C.size = cap := by rw [hC]; simp; omega
 obtain ⟨f1, f2, f3⟩ := freeze_new w.drew C e
 replace f1 : ((w.drew.alloc (.cells C e)).freeze ⟨w.heap.size, C.size, none⟩ 1).heap[w.heap.size]? = some (.cells C e (C.size, C.size + 1)) := f1
 refine ⟨.slice (some ⟨w.heap.size, 0, none⟩) l.length cap, (w.drew.alloc (.cells C e)).freeze ⟨w.heap.size, C.size, none⟩ 1, ?_, ?_⟩
 ·unfold Conv.stringToBytes markStringish
  have hs : (w.drew.alloc (.cells C e)).shape? w.heap.size = some (e, C.size) := by
   have := heap_alloc_new w.drew (.cells C e)
   simp only [World.shape?]
   rw [show w.heap.size = w.drew.heap.size from rfl, this]
  simp only [size_mk, Sem.run_bind, run_choose, Question.forced, Bool.false_eq_true, if_false, Result.andThen_ok, ← hcap, ← hC, newRow, run_newObj, Sem.run_pure, World.drew_eq, World.alloc_eq, run_shape]
  rw [show w.drew.heap.size = w.heap.size from rfl, hs]
  simp
 ·have hlc : ∀ cs : List Value, cs = l.map (fun b => Value.int .u8 b.toNat) → ∀ (j : Nat) (u : Value), cs[j]? = some u → C[j]? = some u := by
   intro cs hcs j u hj
   have hjl : j < l.length := by
    have := (List.getElem?_eq_some_iff.1 hj).1
    rw [hcs] at this; simpa using this
   rw [hC, Array.getElem?_append_left (by simpa using hjl)]
   rw [hcs] at hj
   simpa using hj
  refine Post.new (w' := (w.drew.alloc (.cells C e)).freeze ⟨w.heap.size, C.size, none⟩ 1) h rfl rfl rfl f3 f2 hb .tok w.heap.size l.length (Nat.le_refl _) _ _ (fun ρ' U' c' m hρ' hU' hc' => ⟨?_, ?_⟩)
  ·refine ⟨C, e, _, f1, ?_, by simp only; omega⟩
   intro j hj hbad
   simp only at hbad; omega
  ·simp only [Rel]
   refine ⟨⟨w.heap.size, 0, none⟩, cap, l.map (fun b => Value.int .u8 b.toNat), by simp, by simpa using hle, ?_, ?_, ?_⟩
   ·clear hcap hle hC hCs f1 f2 f3 m hρ' hU' hlc hr
    induction l with
    | nil => simp [RelC]
    | cons b l ih =>
     simp only [List.map_cons, RelC]
     exact ⟨.int .u8 b.toNat, _, rfl, ⟨rfl, by simp [AV.cells, AV.one], fun _ => rfl, fun e => absurd rfl e⟩, by simp [Rel], ih⟩
   ·intro j u hj
    have hjl : j < l.length := by
     have := (List.getElem?_eq_some_iff.1 hj).1
     simpa using this
    rw [add_lit, Nat.zero_add, cell_at f1]
    refine ⟨hlc _ rfl j u hj, fun hu => ?_⟩
    have := hU' j hu rfl
    omega
   ·simp only [CapOk]
    refine ⟨by rw [hc']; omega, by rw [hρ'], trivial, by rw [hρ']; simp [esz], fun j hj => ?_⟩
    rw [Nat.zero_add, cell_at f1]
    have : j < C.size := by rw [hCs]; simpa [esz] using hj
    simp [this]

theorem does_convert {src dst : TypeId} {x v : AV} {xv : Value} (hb : base ≤ w.heap.size) (h : Sim base ρ X s w) (hx : Rel w ρ (UX ρ s.h X) s.c x xv) (hh : aConvert P src dst x s = some (v, s')) :
  Does P base ρ X s w (convert src dst xv) v s' := by
 simp only [aConvert, Option.bind_eq_bind, Option.bind_eq_some_iff] at hh
 obtain ⟨d1, hd1, d2, hd2, hh⟩ := hh
 split at hh
 ·injection hh with hh; injection hh with e1 e2; subst e1; subst e2
  simp only [Rel] at hx; subst hx
  exact ⟨_, w, by simp [convert, run_underlying hd1, run_underlying hd2, Conv.intToInt]; rfl, .same h (by simp [Rel])⟩
 ·injection hh with hh; injection hh with e1 e2; subst e1; subst e2
  simp only [Rel] at hx; subst hx
  exact ⟨_, w, by simp [convert, run_underlying hd1, run_underlying hd2, Conv.intToString]; rfl, .same h (by simp [Rel])⟩
 ·injection hh with hh; injection hh with e1 e2; subst e1; subst e2
  simp only [Rel] at hx; subst hx
  exact ⟨_, w, by simp [convert, run_underlying hd1, run_underlying hd2]; rfl, .same h (by simp [Rel])⟩
 ·rename_i e l
  simp only [Rel] at hx; subst hx
  split at hh
  ·rename_i he
   split at hh
   ·rename_i hr
    injection hh with hh; injection hh with e1 e2; subst e1; subst e2
    obtain ⟨v', w', g1, g2⟩ := does_bytes (P := P) (v := .undef) (e := e) hb h hr
    exact ⟨v', w', by simp [convert, run_underlying hd1, run_underlying hd2, run_underlying he, g1], g2⟩
   ·cases hh
  ·cases hh
 ·rename_i x0 e hn1 hn2
  split at hh
  ·rename_i he
   split at hh
   ·injection hh with hh; injection hh with e1 e2; subst e1; subst e2
    simp only [Rel] at hx; subst hx
    refine ⟨.string ByteArray.empty, w, run_convert_bytes_nil w src e hd1 he 0 0 dst hd2, .same h ?_⟩
    simp only [Rel]
    rfl
   ·injection hh with hh; injection hh with e1 e2; subst e1; subst e2
    simp only [Rel] at hx
    obtain ⟨A, cap, rfl, hA, _⟩ := hx
    refine ⟨.string ByteArray.empty, w, ?_, .same h ?_⟩
    ·cases A with
     | none => rw [hA rfl]; exact run_convert_bytes_nil w src e hd1 he 0 0 dst hd2
     | some A =>
      have := run_convert_bytes_string w src dst e (some A) 0 cap hd1 he hd2
      rw [this, run_bytesToString w A 0 cap [] (by simp [loadCells, loadCellsFrom]), foldl_push_bytes]
      rfl
    ·simp only [Rel]
     rfl
   ·simp only [Option.bind_eq_some_iff] at hh
    obtain ⟨⟨k, xs⟩, hel, hh⟩ := hh
    simp only at hh
    split at hh
    ·rename_i hk
     subst hk
     simp only [Option.map_eq_some_iff] at hh
     obtain ⟨l, hl, hh⟩ := hh
     injection hh with e1 e2; subst e1; subst e2
     obtain ⟨ns, rfl, rfl⟩ := bytesOf_spec hl
     obtain ⟨A, cap, cs, rfl, g1, g2⟩ := elems_rel h hx hel
     have hcs := relC_ints g1
     subst hcs
     have hload := run_loadCells_list (P := P) w A _ g2
     simp only [List.length_map] at hload
     refine ⟨.string (strOfNums ns), w, ?_, .same h (by simp [Rel, strOfNums])⟩
     have := run_convert_bytes_string w src dst e (some A) ns.length cap hd1 he hd2
     simp only [List.length_map]
     rw [this, run_bytesToString w A ns.length cap ns hload, foldl_push_bytes]
     simp [strOfNums, ByteArray.empty, ByteArray.emptyWithCapacity]
     rfl
    ·cases hh
  ·cases hh
 ·cases hh

/-! ### Maps -/
theorem sameNow_of {d : TypeDesc} {k x : AV} {kv xv : Value} {b : Bool} (hkind : keyKind d k = true) (hk : Rel w ρ U c k kv) (hx : Rel w ρ U c x xv) (h : keyEq k x = some b) : Instr.sameNow d kv xv = some b := by
 unfold keyEq at h
 split at h
 ·split at h
  ·rename_i e; subst e
   injection h with h; subst h
   simp only [Rel] at hk hx; subst hk; subst hx
   cases d <;> simp [keyKind] at hkind
   simp [Instr.sameNow]
  ·cases h
 ·injection h with h; subst h
  simp only [Rel] at hk hx; subst hk; subst hx
  cases d <;> simp [keyKind] at hkind
  simp only [Instr.sameNow]
  congr 1
  rename_i a b
  show ((a.toArray == b.toArray)) = (a == b)
  simp
 ·injection h with h; subst h
  simp only [Rel] at hk hx; subst hk; subst hx
  cases d <;> simp [keyKind] at hkind
  simp [Instr.sameNow]
 ·cases h
theorem findNow_rel {d : TypeDesc} {k : AV} {kv : Value} (hkind : keyKind d k = true) (hk : Rel w ρ U c k kv) : ∀ {es : List (AV × AV)} {ents : List MapEntry} {i : Nat} {r : Option AV}, RelL w ρ U c (es.map (·.1)) (ents.map (·.key)) → RelL w ρ U c (es.map (·.2)) (ents.map (·.val)) →
  mfind k es = some r → ∃ q, Instr.findNow d kv ents i = some q ∧ (match r, q with | none, none => True | some x, some (j, u) => Rel w ρ U c x u | _, _ => False)
 | [], ents, i, r, h1, h2, h => by
  have : ents = [] := by simpa [RelL] using h1
  subst this
  simp only [mfind] at h; injection h with h; subst h
  exact ⟨none, rfl, trivial⟩
 | (x, v) :: es, [], i, r, h1, h2, h => by simp [RelL] at h1
 | (x, v) :: es, en :: ents, i, r, h1, h2, h => by
  simp only [List.map_cons, RelL] at h1 h2
  obtain ⟨a1, b1, e1, hx, h1⟩ := h1
  obtain ⟨a2, b2, e2, hv, h2⟩ := h2
  injection e1 with e1 e1'; injection e2 with e2 e2'
  subst e1; subst e1'; subst e2; subst e2'
  simp only [mfind] at h
  unfold Instr.findNow
  split at h
  ·rename_i he
   injection h with h; subst h
   rw [sameNow_of hkind hk hx he]
   exact ⟨_, rfl, hv⟩
  ·rename_i he
   rw [sameNow_of hkind hk hx he]
   exact findNow_rel hkind hk h1 h2 h
  ·cases h
theorem run_checkKey {d : TypeDesc} {kt : TypeId} {k : AV} {kv : Value} {e : Bool} (hd : P.underlying kt = some d) (hkind : keyKind d k = true) (hk : Rel w ρ U c k kv) (w' : World) : (Instr.checkKey e 10000 kt kv).run P w' = .ok () w' := by
 show (Instr.checkKey e (9999 + 1) kt kv).run P w' = _
 generalize 9999 = n
 unfold keyKind at hkind
 split at hkind
 ·simp only [Rel] at hk; subst hk
  simp [Instr.checkKey, run_underlying hd]
 ·simp only [Rel] at hk; subst hk
  simp [Instr.checkKey, run_underlying hd]
 ·simp only [Rel] at hk; subst hk
  simp [Instr.checkKey, run_underlying hd]
 ·cases hkind

theorem ents_rel {x : AV} {xv : Value} {es : List (AV × AV)} (h : Sim base ρ X s w) (hx : Rel w ρ (UX ρ s.h X) s.c x xv) (he : mapEnts x s = some es) :
  ∃ ents : Array MapEntry, ((xv = .map none ∧ ents = #[]) ∨ (∃ b clock, xv = .map (some b) ∧ w.heap[b]? = some (.map ents clock))) ∧
   RelL w ρ (UX ρ s.h X) s.c (es.map (·.1)) (ents.toList.map (·.key)) ∧ RelL w ρ (UX ρ s.h X) s.c (es.map (·.2)) (ents.toList.map (·.val)) := by
 unfold mapEnts at he
 split at he
 ·simp only [Rel] at hx; subst hx
  injection he with he; subst he
  exact ⟨#[], .inl ⟨rfl, rfl⟩, by simp [RelL], by simp [RelL]⟩
 ·rename_i n
  split at he
  ·rename_i es' hg
   injection he with he; subst he
   simp only [Rel] at hx
   obtain ⟨_, rfl⟩ := hx
   obtain ⟨ents, clock, g1, g2, g3, _⟩ := h.obj n _ hg
   exact ⟨ents, .inr ⟨_, clock, rfl, g1⟩, g2, g3⟩
  ·cases he
 ·cases he
theorem gives_lookup {t : TypeId} {x k v : AV} {xv kv : Value} {ok : Bool} (h : Sim base ρ X s w) (hx : Rel w ρ (UX ρ s.h X) s.c x xv) (hk : Rel w ρ (UX ρ s.h X) s.c k kv) (hh : aLookup P t x k ok s = some v) :
  Gives P w ρ (UX ρ s.h X) s.c (Instr.lookup t xv kv ok) v := by
 simp only [aLookup, Option.bind_eq_bind, Option.bind_eq_some_iff] at hh
 obtain ⟨d, hd, hh⟩ := hh
 split at hh
 ·rename_i kt e
  simp only [Option.bind_eq_some_iff] at hh
  obtain ⟨dk, hdk, hh⟩ := hh
  split at hh
  ·cases hh
  ·rename_i hkk
   have hkk : keyKind dk k = true := by simpa using hkk
   simp only [Option.bind_eq_some_iff] at hh
   obtain ⟨z, hz, es, hes, r, hr, hh⟩ := hh
   injection hh with hh; subst hh
   obtain ⟨zv, hzr, hzz⟩ := run_zero hz w
   obtain ⟨ents, hents, g2, g3⟩ := ents_rel h hx hes
   obtain ⟨q, hq, hqr⟩ := findNow_rel (i := 0) hkk hk g2 g3 hr
   have hck := fun b => run_checkKey (P := P) (e := b) hdk hkk hk w
   have hfk : (Instr.findKey kt kv ents.toList).run P w = .ok q w := by
    unfold Instr.findKey
    simp [run_underlying hdk, hq]
   obtain ⟨v', hv1, hv2⟩ : ∃ v', (match q with | some (_, v) => v' = v ∧ r.isSome = true | none => v' = zv ∧ r.isSome = false) ∧ Rel w ρ (UX ρ s.h X) s.c (r.getD z) v' := by
    cases r with
    | none =>
     cases q with
     | none => exact ⟨zv, ⟨rfl, rfl⟩, hzz _ _ _ _⟩
     | some _ => exact hqr.elim
    | some x =>
     cases q with
     | none => exact hqr.elim
     | some p => exact ⟨p.2, ⟨rfl, rfl⟩, hqr⟩
   refine ⟨if ok then .tuple #[v', .bool r.isSome] else v', ?_, ?_⟩
   ·unfold Instr.lookup
    simp only [Sem.run_bind, run_underlying hd, Result.andThen_ok]
    rcases hents with ⟨rfl, rfl⟩ | ⟨b, clock, rfl, hb⟩
    ·simp only [Sem.run_bind, Sem.run_pure, Result.andThen_ok, hck, hfk]
     cases q with
     | none => simp only [Sem.run_bind, hzr, Result.andThen_ok, Sem.run_pure, hv1.1, hv1.2]
     | some p => simp only [Sem.run_bind, Result.andThen_ok, Sem.run_pure, hv1.1, hv1.2]
    ·simp only [getObj, Sem.run_bind, Sem.run, hb, Sem.run_pure, Result.andThen_ok, hck, hfk]
     cases q with
     | none => simp only [Sem.run_bind, hzr, Result.andThen_ok, Sem.run_pure, hv1.1, hv1.2]
     | some p => simp only [Sem.run_bind, Result.andThen_ok, Sem.run_pure, hv1.1, hv1.2]
   ·cases ok with
    | true =>
     simp only [if_true, Rel, RelL]
     exact ⟨[v', .bool r.isSome], rfl, v', _, rfl, hv2, _, _, rfl, by simp, rfl⟩
    | false => simpa using hv2
 ·cases hh

theorem mset_rel {d : TypeDesc} {k v : AV} {kv vv : Value} (hkind : keyKind d k = true) (hk : Rel w ρ U c k kv) (hv : Rel w ρ U c v vv) : ∀ {es es' : List (AV × AV)} {ents : List MapEntry} {i : Nat}, RelL w ρ U c (es.map (·.1)) (ents.map (·.key)) → RelL w ρ U c (es.map (·.2)) (ents.map (·.val)) →
  mset k v es = some es' → ∃ q, Instr.findNow d kv ents i = some q ∧
   (match q with
   | none => RelL w ρ U c (es'.map (·.1)) (ents.map (·.key) ++ [kv]) ∧ RelL w ρ U c (es'.map (·.2)) (ents.map (·.val) ++ [vv])
   | some (j, u) => i ≤ j ∧ ∃ en, ents[j - i]? = some en ∧ Instr.sameNow d kv en.key = some true ∧ RelL w ρ U c (es'.map (·.1)) ((ents.set (j - i) { en with key := kv, val := vv }).map (·.key)) ∧ RelL w ρ U c (es'.map (·.2)) ((ents.set (j - i) { en with key := kv, val := vv }).map (·.val)))
 | [], es', ents, i, h1, h2, h => by
  have : ents = [] := by simpa [RelL] using h1
  subst this
  simp only [mset] at h; injection h with h; subst h
  refine ⟨none, rfl, ?_, ?_⟩
  ·simp only [List.map_cons, List.map_nil, RelL]; exact ⟨kv, [], rfl, hk, rfl⟩
  ·simp only [List.map_cons, List.map_nil, RelL]; exact ⟨vv, [], rfl, hv, rfl⟩
 | (x, u) :: es, es', [], i, h1, h2, h => by simp [RelL] at h1
 | (x, u) :: es, es', en :: ents, i, h1, h2, h => by
  simp only [List.map_cons, RelL] at h1 h2
  obtain ⟨a1, b1, e1, hx, h1⟩ := h1
  obtain ⟨a2, b2, e2, hu, h2⟩ := h2
  injection e1 with e1 e1'; injection e2 with e2 e2'
  subst e1; subst e1'; subst e2; subst e2'
  simp only [mset] at h
  unfold Instr.findNow
  split at h
  ·rename_i he
   injection h with h; subst h
   rw [sameNow_of hkind hk hx he]
   refine ⟨_, rfl, Nat.le_refl _, en, by simp, sameNow_of hkind hk hx he, ?_, ?_⟩
   ·simp only [Nat.sub_self, List.set_cons_zero, List.map_cons, RelL]; exact ⟨_, _, rfl, hk, h1⟩
   ·simp only [Nat.sub_self, List.set_cons_zero, List.map_cons, RelL]; exact ⟨_, _, rfl, hv, h2⟩
  ·rename_i he
   rw [sameNow_of hkind hk hx he]
   simp only [Option.map_eq_some_iff] at h
   obtain ⟨es2, hes2, rfl⟩ := h
   obtain ⟨q, hq, hqr⟩ := mset_rel hkind hk hv (i := i + 1) h1 h2 hes2
   refine ⟨q, hq, ?_⟩
   cases q with
   | none =>
    obtain ⟨g1, g2⟩ := hqr
    refine ⟨?_, ?_⟩
    ·simp only [List.map_cons, List.cons_append, RelL]; exact ⟨_, _, rfl, hx, g1⟩
    ·simp only [List.map_cons, List.cons_append, RelL]; exact ⟨_, _, rfl, hu, g2⟩
   | some p =>
    obtain ⟨j, y⟩ := p
    obtain ⟨g0, en', g1, g2, g3, g4⟩ := hqr
    have e : j - i = (j - (i + 1)) + 1 := by omega
    refine ⟨by omega, en', by rw [e]; simpa using g1, g2, ?_, ?_⟩
    ·rw [e]; simp only [List.set_cons_succ, List.map_cons, RelL]; exact ⟨_, _, rfl, hx, g3⟩
    ·rw [e]; simp only [List.set_cons_succ, List.map_cons, RelL]; exact ⟨_, _, rfl, hu, g4⟩
  ·cases h
theorem sameBits_of {d : TypeDesc} {a b : Value} (h : Instr.sameNow d a b = some true) : Instr.sameBits 10000 b a = true := by
 unfold Instr.sameNow at h
 split at h
 ·split at h
  ·rename_i e; subst e
   injection h with h
   unfold Instr.sameBits
   rw [beq_iff_eq] at h
   simp [h]
  ·cases h
 ·injection h with h
  rename_i a b
  unfold Instr.sameBits
  obtain ⟨⟨a⟩⟩ := a
  obtain ⟨⟨b⟩⟩ := b
  have h : (a.toArray == b.toArray) = true := h
  show (b.toArray == a.toArray) = true
  simp at h ⊢
  exact h.symm
 ·injection h with h
  unfold Instr.sameBits
  rw [beq_iff_eq] at h ⊢
  exact h.symm
 ·cases h

theorem does_mapUpdate {t : TypeId} {x k v : AV} {xv kv vv : Value} (h : Sim base ρ X s w) (hx : Rel w ρ (UX ρ s.h X) s.c x xv) (hk : Rel w ρ (UX ρ s.h X) s.c k kv) (hv : Rel w ρ (UX ρ s.h X) s.c v vv) (hh : aMapUpdate P t x k v s = some s') :
  ∃ w', (Instr.mapUpdate t xv kv vv).run P w = .ok () w' ∧ Post base ρ X s w .undef s' undef w' := by
 simp only [aMapUpdate, Option.bind_eq_bind, Option.bind_eq_some_iff] at hh
 obtain ⟨d, hd, hh⟩ := hh
 split at hh
 ·rename_i kt e
  simp only [Option.bind_eq_some_iff] at hh
  obtain ⟨dk, hdk, hh⟩ := hh
  split at hh
  ·cases hh
  ·rename_i hkk
   have hkk : keyKind dk k = true := by simpa using hkk
   split at hh
   ·rename_i n
    split at hh
    ·rename_i es hg
     simp only [Option.map_eq_some_iff] at hh
     obtain ⟨es', hes', rfl⟩ := hh
     simp only [Rel] at hx
     obtain ⟨_, rfl⟩ := hx
     obtain ⟨ents, clock, g1, g2, g3, g4⟩ := h.obj n _ hg
     obtain ⟨q, hq, hqr⟩ := mset_rel (i := 0) hkk hk hv g2 g3 hes'
     have hck := fun b => run_checkKey (P := P) (e := b) hdk hkk hk w
     have hlt := h.blk_lt hg
     have hfk : (Instr.findKey kt kv ents.toList).run P w = .ok q w := by
      unfold Instr.findKey
      simp [run_underlying hdk, hq]
     -- the map's block alone turns
     have fin : ∀ (ents' : Array MapEntry) (clock' : Nat), RelL w ρ (UX ρ s.h X) s.c (es'.map (·.1)) (ents'.toList.map (·.key)) → RelL w ρ (UX ρ s.h X) s.c (es'.map (·.2)) (ents'.toList.map (·.val)) → bornOk ents' clock' →
       Post base ρ X s w .undef (s.put n (.map es')) undef { w with heap := w.heap.setIfInBounds (ρ n).1 (.map ents' clock') } := by
      intro ents' clock' h1 h2 h5
      refine Post.put (w' := { w with heap := w.heap.setIfInBounds (ρ n).1 (.map ents' clock') }) h hg (by simp) (.map es') (by simp) rfl rfl rfl (by simp) (fun b hb => by simp [Array.getElem?_setIfInBounds_ne (Ne.symm hb)]) (fun a ha => ?_) _ _ (fun U' m => ⟨?_, by simp [Rel, RelL, undef]⟩)
      ·obtain ⟨u, hu⟩ := Option.isSome_iff_exists.1 ha
       by_cases e : a.block = (ρ n).1
       ·simp only [World.cell?, e, g1] at hu; cases hu
       ·rw [World.cell?_of_block (w := w) (by simp [Array.getElem?_setIfInBounds_ne (Ne.symm e)])]; exact ha
      ·refine ⟨ents', clock', ?_, RelL.mono m _ _ h1, RelL.mono m _ _ h2, h5⟩
       simp [hlt]
     cases q with
     | none =>
      obtain ⟨h1, h2⟩ := hqr
      refine ⟨_, ?_, fin (ents.push { key := kv, val := vv, born := clock }) (clock + 1) (by simpa using h1) (by simpa using h2) ?_⟩
      ·unfold Instr.mapUpdate
       simp only [Sem.run_bind, run_underlying hd, Result.andThen_ok, getObj, Sem.run, g1, hck, hfk, setObj]
      ·refine ⟨?_, fun e he => ?_⟩
       ·rw [Array.toList_push, List.map_append]
        refine List.nodup_append.2 ⟨g4.1, by simp, fun a ha b hb => ?_⟩
        obtain ⟨e, he, rfl⟩ := List.mem_map.1 ha
        have := g4.2 e he
        simp at hb
        omega
       ·rw [Array.toList_push] at he
        rcases List.mem_append.1 he with he | he
        ·have := g4.2 e he; omega
        ·simp at he; subst he; simp
     | some p =>
      obtain ⟨j, u⟩ := p
      obtain ⟨_, en, h1, h2, h3, h4⟩ := hqr
      simp only [Nat.sub_zero] at h1 h3 h4
      have hsb := sameBits_of h2
      have hjl : j < ents.size := by have := (List.getElem?_eq_some_iff.1 h1).1; simpa using this
      have hen : ents[j]? = some en := by simpa using h1
      have e : (ents.modify j fun e => { e with key := kv, val := vv }).toList = ents.toList.set j { en with key := kv, val := vv } := by
       rw [Array.toList_modify]
       apply List.ext_getElem?
       intro q
       rw [List.getElem?_modify, List.getElem?_set]
       by_cases e : j = q
       ·subst e; simp [h1]
        have := (List.getElem?_eq_some_iff.1 h1).1; simpa using this
       ·simp [e]
      refine ⟨_, ?_, fin (ents.modify j fun e => { e with key := kv, val := vv }) clock ?_ ?_ ?_⟩
      ·unfold Instr.mapUpdate
       simp only [Sem.run_bind, run_underlying hd, Result.andThen_ok, getObj, Sem.run, g1, hck, hfk, setObj, hen, Option.map_some, Option.getD_some, Instr.keyThatStays]
       rw [if_pos hsb]
       simp only [Sem.run_pure, Result.andThen_ok, g1]
      ·rw [e]; exact h3
      ·rw [e]; exact h4
      ·have eb : (ents.modify j fun e => { e with key := kv, val := vv }).toList.map (·.born) = ents.toList.map (·.born) := by
        rw [e, List.map_set]
        apply List.ext_getElem?
        intro q
        rw [List.getElem?_set]
        by_cases e : j = q
        ·subst e; simp [h1]
         have := (List.getElem?_eq_some_iff.1 h1).1; simpa using this
        ·simp [e]
       refine ⟨by rw [eb]; exact g4.1, fun x hx => ?_⟩
       have hb : x.born ∈ ents.toList.map (·.born) := by rw [← eb]; exact List.mem_map.2 ⟨x, hx, rfl⟩
       obtain ⟨y, hy, e2⟩ := List.mem_map.1 hb
       rw [← e2]; exact g4.2 y hy
    ·cases hh
   ·cases hh
 ·cases hh
end
end Go.Ai
end
section
/- Every operation. -/
set_option linter.unusedVariables false
set_option linter.unusedSimpArgs false
namespace Go.Ai
section
variable {P : Program} {base : Nat} {ρ : Pl} {X U : Reg} {c : Nat} {s s' : St} {w : World}

theorem gives_assert {x v : AV} {xv : Value} {xt t : TypeId} {ok : Bool} (hx : Rel w ρ U c x xv) (h : aAssert P x t ok = some v) : Gives P w ρ U c (Instr.typeAssert xv xt t ok) v := by
 simp only [aAssert, Option.bind_eq_bind, Option.bind_eq_some_iff] at h
 obtain ⟨d, hd, h⟩ := h
 split at h
 ·cases h
 ·rename_i hni
  simp only [Rel] at hx; subst hx
  split at h
  ·rename_i hok
   simp only [Option.map_eq_some_iff] at h
   obtain ⟨z, hz, rfl⟩ := h
   obtain ⟨zv, hzr, hzz⟩ := run_zero hz w
   refine ⟨.tuple #[zv, .bool false], ?_, ?_⟩
   ·unfold Instr.typeAssert
    cases d <;> first
     | exact absurd rfl (hni _)
     | simp [run_underlying hd, hok, hzr]
   ·simp only [Rel, RelL]
    exact ⟨[zv, .bool false], rfl, zv, _, rfl, hzz _ _ _ _, _, _, rfl, rfl, rfl⟩
  ·cases h
 ·rename_i t' y hni
  simp only [Rel] at hx
  obtain ⟨u, rfl, hu⟩ := hx
  split at h
  ·rename_i ht
   subst ht
   injection h with h; subst h
   refine ⟨if ok then .tuple #[u, .bool true] else u, ?_, ?_⟩
   ·unfold Instr.typeAssert
    cases d <;> first
     | exact absurd rfl (hni _)
     | simp [run_underlying hd]
   ·cases ok with
    | true =>
     simp only [if_true, Rel, RelL]
     exact ⟨[u, .bool true], rfl, u, _, rfl, hu, _, _, rfl, rfl, rfl⟩
    | false => simpa using hu
  ·rename_i ht
   split at h
   ·rename_i hok
    simp only [Option.map_eq_some_iff] at h
    obtain ⟨z, hz, rfl⟩ := h
    obtain ⟨zv, hzr, hzz⟩ := run_zero hz w
    refine ⟨.tuple #[zv, .bool false], ?_, ?_⟩
    ·unfold Instr.typeAssert
     cases d <;> first
      | exact absurd rfl (hni _)
      | simp [run_underlying hd, hok, hzr, ht]
    ·simp only [Rel, RelL]
     exact ⟨[zv, .bool false], rfl, zv, _, rfl, hzz _ _ _ _, _, _, rfl, rfl, rfl⟩
   ·cases h
 ·cases h

theorem alloc_old (w : World) (o : Obj) (b : Nat) (hb : b < w.heap.size) : (w.alloc o).heap[b]? = w.heap[b]? := by
 show (w.heap.push _)[b]? = _
 rw [Array.getElem?_push, if_neg (by omega)]

theorem does_range {l : List UInt8} {t : TypeId} (hb : base ≤ w.heap.size) (h : Sim base ρ X s w) (ht : P.underlying t = some .string) : Does P base ρ X s w (Instr.range t (.string ⟨l.toArray⟩)) (.ptr s.c 0) (s.new (.siter l 0)) := by
 refine ⟨.pointer (some ⟨w.heap.size, 0, none⟩), w.alloc (.stringIter ⟨l.toArray⟩ 0), ?_, ?_⟩
 ·unfold Instr.range
  simp [run_underlying ht]
 ·refine Post.new (w' := w.alloc (.stringIter ⟨l.toArray⟩ 0)) h rfl rfl rfl (by simp) (alloc_old w _) hb (.siter l 0) w.heap.size 0 (Nat.le_refl _) _ _ (fun ρ' U' c' m hρ' _ hc' => ⟨heap_alloc_new w _, ?_⟩)
  simp only [Rel]
  exact ⟨by rw [hc']; omega, by rw [hρ']⟩
theorem does_makeMap {t : TypeId} (hb : base ≤ w.heap.size) (h : Sim base ρ X s w) : Does P base ρ X s w (Instr.makeMap t none) (.mp s.c) (s.new (.map [])) := by
 refine ⟨.map (some w.heap.size), w.alloc (.map #[] 0), ?_, ?_⟩
 ·unfold Instr.makeMap
  simp
 ·refine Post.new (w' := w.alloc (.map #[] 0)) h rfl rfl rfl (by simp) (alloc_old w _) hb (.map []) w.heap.size 0 (Nat.le_refl _) _ _ (fun ρ' U' c' m hρ' _ hc' => ⟨⟨#[], 0, heap_alloc_new w _, by simp [RelL], by simp [RelL], by simp [bornOk]⟩, ?_⟩)
  simp only [Rel]
  exact ⟨by rw [hc']; omega, by rw [hρ']⟩
theorem does_next {n : Nat} {ty : TypeId} {v : AV} {xv : Value} (h : Sim base ρ X s w) (hx : Rel w ρ (UX ρ s.h X) s.c (.ptr n 0) xv) (hh : aNext n s = some (v, s')) : Does P base ρ X s w (Instr.next xv true ty) v s' := by
 simp only [Rel] at hx
 obtain ⟨_, rfl⟩ := hx
 unfold aNext at hh
 split at hh
 ·rename_i l pos hg
  have g1 : w.heap[(ρ n).1]? = some (.stringIter ⟨l.toArray⟩ pos) := h.obj n _ hg
  have hlt := h.blk_lt hg
  split at hh
  ·rename_i hpos
   injection hh with hh; injection hh with e1 e2; subst e1; subst e2
   refine ⟨.tuple #[.bool true, .int .i64 pos, .int .i32 (Utf8.decode ⟨l.toArray⟩ pos).1], { w with heap := w.heap.setIfInBounds (ρ n).1 (.stringIter ⟨l.toArray⟩ (pos + (Utf8.decode ⟨l.toArray⟩ pos).2)) }, ?_, ?_⟩
   ·unfold Instr.next
    have : pos < (⟨l.toArray⟩ : ByteArray).size := hpos
    simp only [getObj, Sem.run_bind, Sem.run, g1, Result.andThen_ok]
    rw [if_pos this]
    simp only [Sem.run_bind, setObj, Sem.run, g1, Result.andThen_ok, Sem.run_pure, goInt]
   ·refine Post.put (w' := { w with heap := w.heap.setIfInBounds (ρ n).1 (.stringIter ⟨l.toArray⟩ (pos + (Utf8.decode ⟨l.toArray⟩ pos).2)) }) h hg (by simp) (.siter l (pos + (Utf8.decode ⟨l.toArray⟩ pos).2)) (by simp) rfl rfl rfl (by simp) (fun b hb => by simp [Array.getElem?_setIfInBounds_ne (Ne.symm hb)]) (fun a ha => ?_) _ _ (fun U' m => ⟨?_, ?_⟩)
    ·obtain ⟨u, hu⟩ := Option.isSome_iff_exists.1 ha
     by_cases e : a.block = (ρ n).1
     ·simp only [World.cell?, e, g1] at hu; cases hu
     ·rw [World.cell?_of_block (w := w) (by simp [Array.getElem?_setIfInBounds_ne (Ne.symm e)])]; exact ha
    ·show _ = _
     simp [hlt]
    ·simp only [Rel, RelL]
     exact ⟨_, rfl, _, _, rfl, rfl, _, _, rfl, rfl, _, _, rfl, rfl, rfl⟩
  ·rename_i hpos
   injection hh with hh; injection hh with e1 e2; subst e1; subst e2
   refine ⟨.tuple #[.bool false], w, ?_, .same h ?_⟩
   ·unfold Instr.next
    have : ¬ pos < (⟨l.toArray⟩ : ByteArray).size := hpos
    simp only [getObj, Sem.run_bind, Sem.run, g1, Result.andThen_ok]
    rw [if_neg this]
    rfl
   ·simp only [Rel, RelL]
    exact ⟨_, rfl, _, _, rfl, rfl, rfl⟩
 ·cases hh

theorem map_arr {α β : Type} (f : α → β) (a : Array α) : a.map f = (a.toList.map f).toArray := by
 apply Array.ext'
 simp
/-! ### A call -/
def CallOk (P : Program) (base : Nat) (call : FuncId → List AV → St → Option (AV × St)) : Prop :=
 ∀ f args s v s', call f args s = some (v, s') → (∃ fn, P.funcs[f]? = some fn ∧ enters fn = true) ∧
  ∀ ρ X w vs, base ≤ w.heap.size → Sim base ρ X s w → RelL w ρ (UX ρ s.h X) s.c args vs →
   Calls P f vs.toArray w fun e w' => ∃ v', e = .returned v' ∧ Post base ρ X s w v s' v' w'

theorem run_callFunc {f : FuncId} {fn : Func} (hf : P.funcs[f]? = some fn) (he : enters fn = true) (args : Array Value) (w : World) : (callFunc f args).run P w = .ok (.enter f args) w := by
 simp only [enters, Bool.and_eq_true, bne_iff_ne, ne_eq] at he
 have h2 : fn.body.isNone = false := by
  cases hb : fn.body with
  | none => simp [hb] at he
  | some _ => rfl
 have h1 : (fn.name == "runtime.NumGoroutine") = false := by simpa using he.1
 unfold callFunc
 simp only [Sem.run_bind, run_program, Result.andThen_ok, hf, h1, h2, Bool.false_eq_true, if_false, Sem.run_pure]

variable {call : FuncId → List AV → St → Option (AV × St)}

theorem wp_val {o : Oper} {a : Act} {K : Act → World → Prop} {Q : Exit → Act → World → Prop} {v' : Value} {w' : World} (h : (execOp a.eval o).run P w = .ok (.value v') w') (hK : K (a.put o.dst v') w') : o.wp P a w K Q := by
 unfold Oper.wp
 rw [h]
 exact hK
theorem wp_skp {o : Oper} {a : Act} {K : Act → World → Prop} {Q : Exit → Act → World → Prop} {w' : World} (h : (execOp a.eval o).run P w = .ok .skip w') (hK : K (a.put o.dst undef) w') : o.wp P a w K Q := by
 unfold Oper.wp
 rw [h]
 exact hK

theorem relP_of {fr : List AV} {a : Act} (hf : RelL w ρ U c fr a.tmps.toList) : ∀ {parts : List (Nat × Operand)} {ps : List (Nat × AV)}, (parts.mapM fun (p : Nat × Operand) => (aEval fr p.2).map (p.1, ·)) = some ps →
  RelP w ρ U c ps (parts.map fun p => (p.1, a.eval p.2))
 | [], ps, h => by
  simp at h; subst h
  exact ⟨rfl, fun j p q hp => by simp at hp⟩
 | (i, x) :: parts, ps, h => by
  simp only [List.mapM_cons, Option.bind_eq_bind, Option.bind_eq_some_iff, Option.map_eq_some_iff, Option.pure_def] at h
  obtain ⟨b, ⟨v, hv, rfl⟩, qs, hqs, h⟩ := h
  injection h with h; subst h
  obtain ⟨h1, h2⟩ := relP_of hf hqs
  refine ⟨by simpa using h1, fun j p q hp hq => ?_⟩
  cases j with
  | zero =>
   simp at hp hq; subst hp; subst hq
   exact ⟨rfl, aEval_rel hf hv⟩
  | succ j => exact h2 j p q (by simpa using hp) (by simpa using hq)
theorem relO_of {fr : List AV} {a : Act} (hf : RelL w ρ U c fr a.tmps.toList) {x : Option Operand} {v : Option AV} (h : aEvalO fr x = some v) : RelO w ρ U c v (x.map a.eval) := by
 cases x with
 | none => simp only [aEvalO] at h; injection h with h; subst h; trivial
 | some x =>
  simp only [aEvalO, Option.map_eq_some_iff] at h
  obtain ⟨u, hu, rfl⟩ := h
  exact aEval_rel hf hu

set_option maxHeartbeats 4000000 in
theorem op_wp (hcall : CallOk P base call) {o : Oper} {fr : List AV} {a : Act} {v : AV} (hb : base ≤ w.heap.size) (h : Sim base ρ X s w) (hf : RelL w ρ (UX ρ s.h X) s.c fr a.tmps.toList) (ho : aOp P call o fr s = some (v, s'))
  {K : Act → World → Prop} {Q : Exit → Act → World → Prop} (hK : ∀ v' w', Post base ρ X s w v s' v' w' → K (a.put o.dst v') w') : o.wp P a w K Q := by
 obtain ⟨dst, op, type, pos, after, guard⟩ := o
 have fin : ∀ {m : Sem Value} {o : Oper}, (∀ v' w', Post base ρ X s w v s' v' w' → K (a.put o.dst v') w') → Does P base ρ X s w m v s' → execOp a.eval o = (do pure (.value (← m)) : Sem Next) → o.wp P a w K Q := by
  rintro m o hK ⟨v', w', h1, h2⟩ h3
  refine wp_val (v' := v') (w' := w') ?_ (hK _ _ h2)
  rw [h3]
  simp [h1]
 cases op with
 | move x =>
  simp only [aOp, Option.map_eq_some_iff] at ho
  obtain ⟨u, hu, ho⟩ := ho
  injection ho with e1 e2; subst e1; subst e2
  exact wp_val (v' := a.eval x) (w' := w) (by simp [execOp]) (hK _ _ (.same h (aEval_rel hf hu)))
 | assign x =>
  simp only [aOp, Option.map_eq_some_iff] at ho
  obtain ⟨u, hu, ho⟩ := ho
  injection ho with e1 e2; subst e1; subst e2
  exact wp_val (v' := a.eval x) (w' := w) (by simp [execOp]) (hK _ _ (.same h (aEval_rel hf hu)))
 | pick cc x y =>
  simp only [aOp, Option.bind_eq_bind, Option.bind_eq_some_iff] at ho
  obtain ⟨b, hbv, ho⟩ := ho
  split at ho
  ·rename_i t
   simp only [Option.bind_eq_some_iff] at ho
   obtain ⟨u, hu, ho⟩ := ho
   injection ho with ho; injection ho with e1 e2; subst e1; subst e2
   have hc := aEval_rel hf hbv
   simp only [Rel] at hc
   have := aEval_rel hf hu
   refine wp_val (v' := a.eval (if t then x else y)) (w' := w) ?_ (hK _ _ (.same h this))
   simp only [execOp, hc, asBool]
   cases t <;> simp
  ·cases ho
 | alloc t =>
  exact fin hK (does_alloc hb h t ho) rfl
 | box t x =>
  simp only [aOp, Option.bind_eq_bind, Option.bind_eq_some_iff] at ho
  obtain ⟨u, hu, ho⟩ := ho
  exact fin hK (does_box hb h (aEval_rel hf hu) t ho) rfl
 | build t parts =>
  simp only [aOp, Option.bind_eq_bind, Option.bind_eq_some_iff] at ho
  obtain ⟨ps, hps, u, hu, ho⟩ := ho
  injection ho with ho; injection ho with e1 e2; subst e1; subst e2
  have hp := relP_of hf hps
  exact fin hK ((gives_build (pv := parts.map fun p => (p.1, a.eval p.2)) (by simpa using hp) hu).does h) rfl
 | buildSlice t n parts =>
  simp only [aOp, Option.bind_eq_bind, Option.bind_eq_some_iff] at ho
  obtain ⟨ps, hps, u, hu, ho⟩ := ho
  injection ho with ho; injection ho with e1 e2; subst e1; subst e2
  have hp := relP_of hf hps
  exact fin hK (does_buildSlice (pv := parts.map fun p => (p.1, a.eval p.2)) h (by simpa using hp) hu) rfl
 | load t x =>
  simp only [aOp, Option.bind_eq_bind, Option.bind_eq_some_iff] at ho
  obtain ⟨u, hu, y, hy, ho⟩ := ho
  injection ho with ho; injection ho with e1 e2; subst e1; subst e2
  exact fin hK ((gives_load h (aEval_rel hf hu) hy).does h) rfl
 | store t x y =>
  simp only [aOp, Option.bind_eq_bind, Option.bind_eq_some_iff] at ho
  obtain ⟨u, hu, z, hz, s1, hs1, ho⟩ := ho
  injection ho with ho; injection ho with e1 e2; subst e1; subst e2
  obtain ⟨w', h1, h2⟩ := does_store (P := P) h (aEval_rel hf hu) (aEval_rel hf hz) hs1
  exact wp_skp (w' := w') (by simp [execOp, h1]) (hK _ _ h2)
 | nilCheck x =>
  simp only [aOp, Option.bind_eq_bind, Option.bind_eq_some_iff] at ho
  obtain ⟨u, hu, ho⟩ := ho
  have hr := aEval_rel hf hu
  split at ho
  ·cases ho
  ·cases ho
  ·cases ho
  ·rename_i hn1 hn2 hn3
   injection ho with ho; injection ho with e1 e2; subst e1; subst e2
   refine wp_val (v' := a.eval x) (w' := w) ?_ (hK _ _ (.same h hr))
   simp only [execOp]
   generalize a.eval x = xv at hr
   cases u <;> simp only [Rel] at hr <;> first
    | exact absurd rfl hn1
    | exact absurd rfl hn2
    | exact absurd rfl hn3
    | (subst hr; rfl)
    | (obtain ⟨_, rfl⟩ := hr; rfl)
    | (obtain ⟨_, _, _, rfl, _⟩ := hr; rfl)
    | (obtain ⟨_, _, rfl, _⟩ := hr; rfl)
    | (obtain ⟨_, rfl, _⟩ := hr; rfl)
 | binOp op t x y yt =>
  simp only [aOp, Option.bind_eq_bind, Option.bind_eq_some_iff] at ho
  obtain ⟨u, hu, y', hy, z, hz, ho⟩ := ho
  injection ho with ho; injection ho with e1 e2; subst e1; subst e2
  exact fin hK ((gives_binOp (aEval_rel hf hu) (aEval_rel hf hy) hz).does h) rfl
 | unOp op t x =>
  simp only [aOp, Option.bind_eq_bind, Option.bind_eq_some_iff] at ho
  obtain ⟨u, hu, z, hz, ho⟩ := ho
  injection ho with ho; injection ho with e1 e2; subst e1; subst e2
  exact fin hK ((gives_unOp (aEval_rel hf hu) hz).does h) rfl
 | convert src dt x =>
  simp only [aOp, Option.bind_eq_bind, Option.bind_eq_some_iff] at ho
  obtain ⟨u, hu, ho⟩ := ho
  exact fin hK (does_convert hb h (aEval_rel hf hu) ho) rfl
 | makeInterface t x =>
  simp only [aOp, Option.bind_eq_bind, Option.bind_eq_some_iff] at ho
  obtain ⟨d, hd, ho⟩ := ho
  split at ho
  ·cases ho
  ·rename_i hni
   simp only [Option.bind_eq_some_iff] at ho
   obtain ⟨u, hu, ho⟩ := ho
   injection ho with ho; injection ho with e1 e2; subst e1; subst e2
   refine wp_val (v' := .iface t (a.eval x)) (w' := w) ?_ (hK _ _ (.same h ?_))
   ·simp only [execOp, Instr.makeInterface]
    cases d <;> first
     | exact absurd rfl (hni _)
     | simp [run_underlying hd]
   ·simp only [Rel]; exact ⟨_, rfl, aEval_rel hf hu⟩
 | makeFunc f first captured =>
  simp only [aOp, Option.bind_eq_bind] at ho
  split at ho
  ·simp only [Option.bind_eq_some_iff] at ho
   obtain ⟨us, hus, vs, hvs, ho⟩ := ho
   injection ho with ho; injection ho with e1 e2; subst e1; subst e2
   rename_i g
   refine wp_val (v' := .func (.func g) (first.map a.eval) (captured.map a.eval)) (w' := w) (by simp [execOp, Instr.makeFunc]) (hK _ _ (.same h ?_))
   simp only [Rel]
   exact ⟨first.toList.map a.eval, captured.toList.map a.eval, by rw [← map_arr, ← map_arr], aEvals_rel hf hus, aEvals_rel hf hvs⟩
  ·cases ho
 | makeMap t r =>
  cases r with
  | some r => simp [aOp] at ho
  | none =>
   simp only [aOp] at ho
   injection ho with ho; injection ho with e1 e2; subst e1; subst e2
   exact fin hK (does_makeMap (t := t) hb h) rfl
 | makeSlice t l cp =>
  simp only [aOp, Option.bind_eq_bind, Option.bind_eq_some_iff] at ho
  obtain ⟨u, hu, y, hy, ho⟩ := ho
  exact fin hK (does_makeSlice hb h (aEval_rel hf hu) (aEval_rel hf hy) ho) rfl
 | slice t x lo hi mx =>
  simp only [aOp, Option.bind_eq_bind, Option.bind_eq_some_iff] at ho
  obtain ⟨u, hu, l, hl, i, hi', m, hm, z, hz, ho⟩ := ho
  injection ho with ho; injection ho with e1 e2; subst e1; subst e2
  exact fin hK ((gives_slice (aEval_rel hf hu) (relO_of hf hl) (relO_of hf hi') (relO_of hf hm) hz).does h) rfl
 | fieldAddr t x f =>
  simp only [aOp, Option.bind_eq_bind, Option.bind_eq_some_iff] at ho
  obtain ⟨u, hu, z, hz, ho⟩ := ho
  injection ho with ho; injection ho with e1 e2; subst e1; subst e2
  exact fin hK ((gives_fieldAddr (aEval_rel hf hu) hz).does h) rfl
 | field t x f =>
  simp only [aOp, Option.bind_eq_bind, Option.bind_eq_some_iff] at ho
  obtain ⟨u, hu, z, hz, ho⟩ := ho
  injection ho with ho; injection ho with e1 e2; subst e1; subst e2
  exact fin hK ((gives_field (aEval_rel hf hu) hz).does h) rfl
 | indexAddr t x i =>
  simp only [aOp, Option.bind_eq_bind, Option.bind_eq_some_iff] at ho
  obtain ⟨u, hu, y, hy, z, hz, ho⟩ := ho
  injection ho with ho; injection ho with e1 e2; subst e1; subst e2
  exact fin hK ((gives_indexAddr (aEval_rel hf hu) (aEval_rel hf hy) hz).does h) rfl
 | index t x i =>
  simp only [aOp, Option.bind_eq_bind, Option.bind_eq_some_iff] at ho
  obtain ⟨u, hu, y, hy, z, hz, ho⟩ := ho
  injection ho with ho; injection ho with e1 e2; subst e1; subst e2
  exact fin hK ((gives_index (aEval_rel hf hu) (aEval_rel hf hy) hz).does h) rfl
 | lookup t x i ok =>
  simp only [aOp, Option.bind_eq_bind, Option.bind_eq_some_iff] at ho
  obtain ⟨u, hu, y, hy, z, hz, ho⟩ := ho
  injection ho with ho; injection ho with e1 e2; subst e1; subst e2
  exact fin hK ((gives_lookup h (aEval_rel hf hu) (aEval_rel hf hy) hz).does h) rfl
 | mapUpdate t m k x =>
  simp only [aOp, Option.bind_eq_bind, Option.bind_eq_some_iff] at ho
  obtain ⟨u, hu, y, hy, z, hz, s1, hs1, ho⟩ := ho
  injection ho with ho; injection ho with e1 e2; subst e1; subst e2
  obtain ⟨w', h1, h2⟩ := does_mapUpdate (P := P) h (aEval_rel hf hu) (aEval_rel hf hy) (aEval_rel hf hz) hs1
  exact wp_skp (w' := w') (by simp [execOp, h1]) (hK _ _ h2)
 | range t x =>
  simp only [aOp, Option.bind_eq_bind, Option.bind_eq_some_iff] at ho
  obtain ⟨d, hd, u, hu, ho⟩ := ho
  split at ho
  ·rename_i l
   injection ho with ho; injection ho with e1 e2; subst e1; subst e2
   have hr := aEval_rel hf hu
   simp only [Rel] at hr
   refine fin hK (m := Instr.range t (a.eval x)) ?_ rfl
   rw [hr]
   exact does_range hb h hd
  ·cases ho
 | next it isS =>
  cases isS with
  | false => simp [aOp] at ho
  | true =>
   simp only [aOp, Option.bind_eq_bind, Option.bind_eq_some_iff] at ho
   obtain ⟨u, hu, ho⟩ := ho
   split at ho
   ·exact fin hK (does_next h (aEval_rel hf hu) ho) rfl
   ·cases ho
 | typeAssert x xt t ok =>
  simp only [aOp, Option.bind_eq_bind, Option.bind_eq_some_iff] at ho
  obtain ⟨u, hu, z, hz, ho⟩ := ho
  injection ho with ho; injection ho with e1 e2; subst e1; subst e2
  exact fin hK ((gives_assert (aEval_rel hf hu) hz).does h) rfl
 | extract t i =>
  simp only [aOp, Option.bind_eq_bind, Option.bind_eq_some_iff] at ho
  obtain ⟨u, hu, ho⟩ := ho
  split at ho
  ·rename_i vs
   simp only [Option.map_eq_some_iff] at ho
   obtain ⟨z, hz, ho⟩ := ho
   injection ho with e1 e2; subst e1; subst e2
   have hr := aEval_rel hf hu
   simp only [Rel] at hr
   obtain ⟨us, e, hl⟩ := hr
   obtain ⟨zv, hzv, hzr⟩ := hl.get hz
   refine wp_val (v' := zv) (w' := w) ?_ (hK _ _ (.same h hzr))
   simp [execOp, e, Instr.extract, hzv]
  ·cases ho
 | call cl =>
  simp only [aOp, Option.bind_eq_bind, Option.bind_eq_some_iff] at ho
  obtain ⟨args, hargs, ho⟩ := ho
  have har := aEvals_rel hf hargs
  split at ho
  ·rename_i b hcl
   have hres : ∀ s : Sem Value, (∀ consts, builtin b cl.argTypes type consts (cl.args.map a.eval) = (do pure (.value (← s)) : Sem Next)) →
     execOp a.eval { dst := dst, op := .call cl, type := type, pos := pos, after := after, guard := guard } = (do pure (.value (← s)) : Sem Next) := fun s hs => by
    simp only [execOp, resolve, hcl, pure_bind, invoke, hs]
   have hmap : cl.args.map a.eval = (cl.args.toList.map a.eval).toArray := by
    apply Array.ext'
    simp
   unfold aBuiltin at ho
   split at ho
   ·rename_i x y
    obtain ⟨xv, us, e1, hx, har⟩ := (by simpa only [RelL] using har : ∃ v us, cl.args.toList.map a.eval = v :: us ∧ _ ∧ ∃ v' us', us = v' :: us' ∧ _ ∧ us' = [])
    obtain ⟨yv, us', e2, hy, e3⟩ := har
    subst e3; subst e2
    refine fin hK (m := Builtin.append_ cl.argTypes type #[xv, yv]) (does_append hb h hx hy ho) (hres _ (fun consts => ?_))
    rw [hmap, e1]; rfl
   ·rename_i x y
    obtain ⟨xv, us, e1, hx, har⟩ := (by simpa only [RelL] using har : ∃ v us, cl.args.toList.map a.eval = v :: us ∧ _ ∧ ∃ v' us', us = v' :: us' ∧ _ ∧ us' = [])
    obtain ⟨yv, us', e2, hy, e3⟩ := har
    subst e3; subst e2
    refine fin hK (m := Builtin.copy_ cl.argTypes type #[xv, yv]) (does_copy h hx hy ho) (hres _ (fun consts => ?_))
    rw [hmap, e1]; rfl
   ·rename_i x
    obtain ⟨xv, us, e1, hx, e3⟩ := (by simpa only [RelL] using har : ∃ v us, cl.args.toList.map a.eval = v :: us ∧ _ ∧ us = [])
    subst e3
    simp only [Option.bind_eq_bind, Option.bind_eq_some_iff] at ho
    obtain ⟨t, ht, z, hz, ho⟩ := ho
    injection ho with ho; injection ho with e2 e3; subst e2; subst e3
    have hg := gives_len (P := P) (ty := type) h hx hz
    refine fin hK (m := Builtin.len_ cl.argTypes type #[xv]) ?_ (hres _ (fun consts => ?_))
    ·have e : Builtin.len_ cl.argTypes type #[xv] = Builtin.len_ #[t] type #[xv] := by unfold Builtin.len_; simp [ht]
     rw [e]; exact hg.does h
    ·rw [hmap, e1]; rfl
   ·rename_i x
    obtain ⟨xv, us, e1, hx, e3⟩ := (by simpa only [RelL] using har : ∃ v us, cl.args.toList.map a.eval = v :: us ∧ _ ∧ us = [])
    subst e3
    simp only [Option.bind_eq_bind, Option.bind_eq_some_iff] at ho
    obtain ⟨t, ht, z, hz, ho⟩ := ho
    injection ho with ho; injection ho with e2 e3; subst e2; subst e3
    have hg := gives_cap (P := P) (ty := type) hx hz
    refine fin hK (m := Builtin.cap_ cl.argTypes type #[xv]) ?_ (hres _ (fun consts => ?_))
    ·have e : Builtin.cap_ cl.argTypes type #[xv] = Builtin.cap_ #[t] type #[xv] := by unfold Builtin.cap_; simp [ht]
     rw [e]; exact hg.does h
    ·rw [hmap, e1]; rfl
   ·rename_i k x k' y
    obtain ⟨xv, us, e1, hx, har⟩ := (by simpa only [RelL] using har : ∃ v us, cl.args.toList.map a.eval = v :: us ∧ _ ∧ ∃ v' us', us = v' :: us' ∧ _ ∧ us' = [])
    obtain ⟨yv, us', e2, hy, e3⟩ := har
    subst e3; subst e2
    simp only [Rel] at hx hy; subst hx; subst hy
    injection ho with ho; injection ho with e2 e3; subst e2; subst e3
    refine fin hK (m := Builtin.min_ cl.argTypes type #[.int k x, .int k' y]) ⟨.int k (if y < x then y else x), w, ?_, .same h (by simp [Rel])⟩ (hres _ (fun consts => ?_))
    ·simp [Builtin.min_, Builtin.min2]
    ·rw [hmap, e1]; rfl
   ·rename_i k x k' y
    obtain ⟨xv, us, e1, hx, har⟩ := (by simpa only [RelL] using har : ∃ v us, cl.args.toList.map a.eval = v :: us ∧ _ ∧ ∃ v' us', us = v' :: us' ∧ _ ∧ us' = [])
    obtain ⟨yv, us', e2, hy, e3⟩ := har
    subst e3; subst e2
    simp only [Rel] at hx hy; subst hx; subst hy
    injection ho with ho; injection ho with e2 e3; subst e2; subst e3
    refine fin hK (m := Builtin.max_ cl.argTypes type #[.int k x, .int k' y]) ⟨.int k (if y > x then y else x), w, ?_, .same h (by simp [Rel])⟩ (hres _ (fun consts => ?_))
    ·simp [Builtin.max_, Builtin.max2]
    ·rw [hmap, e1]; rfl
   ·cases ho
  ·rename_i f hcl
   simp only [Option.bind_eq_some_iff] at ho
   obtain ⟨fv, hfv, ho⟩ := ho
   split at ho
   ·rename_i g first captured
    have hr := aEval_rel hf hfv
    simp only [Rel] at hr
    obtain ⟨us, vs, e, h1, h2⟩ := hr
    obtain ⟨⟨fn, hfn, hen⟩, hc⟩ := hcall g _ s v s' ho
    have hcl' := hc ρ X w (us ++ cl.args.toList.map a.eval ++ vs) hb h ((h1.append har).append h2)
    unfold Oper.wp
    have hrun : (execOp a.eval { dst := dst, op := .call cl, type := type, pos := pos, after := after, guard := guard }).run P w = .ok (.enter g (us ++ cl.args.toList.map a.eval ++ vs).toArray) w := by
     simp only [execOp, resolve, hcl, e, Deferred.ofValue, pure_bind, invoke]
     rw [run_callFunc hfn hen]
     congr 2
     apply Array.ext'
     simp
    rw [hrun]
    refine hcl'.mono fun e' w' he => ?_
    obtain ⟨v', rfl, hp⟩ := he
    exact hK v' w' hp
   ·cases ho
  ·cases ho
 | _ => simp [aOp] at ho
end
end Go.Ai
end
