/- Operations: make, structs and rows written out. -/
import Derived.Test.YtdfkffmddgffkaaAi9
set_option linter.unusedVariables false
set_option linter.unusedSimpArgs false
namespace Go.Ai
section
variable {P : Program} {base : Nat} {ρ : Pl} {X U : Reg} {c : Nat} {s s' : St} {w : World}

theorem flatten_get {α : Type} (l : List α) (hl : 0 < l.length) : ∀ (n j : Nat), j < n * l.length → ((List.replicate n l).flatten)[j]? = l[j % l.length]?
  | 0, j, h => by simp at h
  | n + 1, j, h => by
    rw [List.replicate_succ, List.flatten_cons]
    by_cases hj : j < l.length
    · rw [List.getElem?_append_left hj, Nat.mod_eq_of_lt hj]
    · rw [Nat.add_mul, Nat.one_mul] at h
      rw [List.getElem?_append_right (by omega), flatten_get l hl n _ (by omega), ← Nat.mod_eq_sub_mod (by omega)]
theorem made_list (z : Array Value) (n : Nat) (hz : 0 < z.size) : (madeCells z (n * z.size)).toList = (List.replicate n z.toList).flatten := by
  apply List.ext_getElem?
  intro j
  have hlen : ((List.replicate n z.toList).flatten).length = n * z.size := by simp
  by_cases hj : j < n * z.size
  · rw [flatten_get z.toList (by simpa using hz) n j (by simpa using hj)]
    have hm : j % z.size < z.size := Nat.mod_lt _ hz
    simp [madeCells, hj, hm]
  · exact (List.getElem?_eq_none (by simp [madeCells]; omega)).trans (List.getElem?_eq_none (by rw [hlen]; omega)).symm
theorem RelL.flatten {z : List AV} {zs : List Value} (h : RelL w ρ U c z zs) : ∀ n, RelL w ρ U c ((List.replicate n z).flatten) ((List.replicate n zs).flatten)
  | 0 => by simp [RelL]
  | n + 1 => by
    rw [List.replicate_succ, List.replicate_succ, List.flatten_cons, List.flatten_cons]
    exact h.append (h.flatten n)
theorem all_one {xs : List AV} (h : xs.all AV.one = true) : ∀ x ∈ xs, x.one = true := by simpa using h

theorem does_makeSlice {t : TypeId} {l cc v : AV} {lv cv : Value} (hb : base ≤ w.heap.size) (h : Sim base ρ X s w) (hl : Rel w ρ (UX ρ s.h X) s.c l lv) (hc : Rel w ρ (UX ρ s.h X) s.c cc cv)
    (hh : aMakeSlice P t l cc s = some (v, s')) : Does P base ρ X s w (Instr.makeSlice t lv cv) v s' := by
  simp only [aMakeSlice, Option.bind_eq_bind, Option.bind_eq_some_iff] at hh
  obtain ⟨d, ht, hh⟩ := hh
  split at hh
  · rename_i e
    simp only [Option.bind_eq_some_iff] at hh
    obtain ⟨i, hi, k, hk, ln, hln, cn, hcn, z, hz, hh⟩ := hh
    split at hh
    · rename_i hc'
      obtain ⟨h0, h1, h2, h4, h5, h6⟩ := hc'
      injection hh with hh; injection hh with e1 e2; subst e1; subst e2
      obtain ⟨kl, rfl⟩ := aInt_rel hl hln
      obtain ⟨kc, rfl⟩ := aInt_rel hc hcn
      simp only [zeroT, Option.bind_eq_bind, Option.bind_eq_some_iff] at hz
      obtain ⟨i', hi', zv, hzv, hz⟩ := hz
      rw [hi] at hi'; injection hi' with hi'; subst hi'
      have hzr := ofVal_rel (w := w) (ρ := ρ) (U := UX ρ s.h X) (c := s.c) hz
      have hzs := hzr.cells_size
      obtain ⟨r1, r2⟩ := roomy_spec h2
      have hcc : (cn.toNat : Int) = cn := Int.toNat_of_nonneg (by omega)
      have hr2 : (i.bytes : Int) * cn ≤ 281474976710656 := by
        have : ((cn.toNat * i.bytes : Nat) : Int) ≤ 137438953472 := by omega
        rw [Int.natCast_mul, hcc, Int.mul_comm] at this
        omega
      have hrun := run_make (P := P) w t e i zv ht hi hzv kl kc ln cn h0 h1 hr2 (by omega)
      refine ⟨_, _, hrun, ?_⟩
      refine Post.new (w' := w.alloc (.cells (madeCells zv.cells (cn.toNat * i.size)) e)) h rfl rfl rfl (by simp) (fun b hb => ?_) hb (.cells ((List.replicate cn.toNat z.cells).flatten)) w.heap.size 0 (Nat.le_refl _) _ _ (fun ρ' U' c' m hρ' _ hc' => ⟨?_, ?_⟩)
      · show (w.heap.push _)[b]? = _
        rw [Array.getElem?_push, if_neg (by omega)]
      · refine ⟨_, e, (0, 0), heap_alloc_new w _, by simp [thawed], ?_, ?_⟩
        · have e : (madeCells zv.cells (cn.toNat * i.size)).toList = (List.replicate cn.toNat zv.cells.toList).flatten := by
            rw [h6, show esz k = zv.cells.size by omega, made_list _ _ (by have := esz_pos k; omega)]
          rw [e]
          exact (RelL.mono m _ _ hzr.cells).flatten _
        · intro x hx
          obtain ⟨l, hl1, hl2⟩ := List.mem_flatten.1 hx
          obtain ⟨_, rfl⟩ := List.mem_replicate.1 hl1
          exact all_one h5 x hl2
      · simp only [Rel]
        exact ⟨by rw [hc']; omega, by rw [hρ']⟩
    · cases hh
  · cases hh

/-! ### Parts put in -/
theorem fill_step (off : Nat) : ∀ (vs : List Value) (j : Nat) (cells : Array Value), off + j + vs.length ≤ cells.size →
    ((vs.zipIdx j).foldl (fun (cs : Array Value) (p : Value × Nat) => cs.setIfInBounds (off + p.2) p.1) cells).toList = cells.toList.take (off + j) ++ vs ++ cells.toList.drop (off + j + vs.length)
  | [], j, cells, _ => by simp
  | v :: vs, j, cells, h => by
    rw [List.zipIdx_cons, List.foldl_cons, fill_step off vs (j + 1) _ (by simp at h ⊢; omega)]
    have e := list_seg_step cells.toList (off + j) v vs (by simp at h ⊢; omega)
    simpa [Array.toList_setIfInBounds, Nat.add_assoc] using e
theorem fill_rel {place place' : Nat → Option (Nat × Nat)} (hp : ∀ i, place i = place' i) : ∀ {parts : List (Nat × AV)} {pv : List (Nat × Value)} {cells out : List AV} {cv : Array Value},
    (parts.length = pv.length ∧ ∀ (j : Nat) (p : Nat × AV) (q : Nat × Value), parts[j]? = some p → pv[j]? = some q → p.1 = q.1 ∧ Rel w ρ U c p.2 q.2) → RelL w ρ U c cells cv.toList → aFill place cells parts = some out →
    ∃ ov : Array Value, Instr.fill place' cv pv = some ov ∧ RelL w ρ U c out ov.toList ∧ out.length = cells.length
  | [], pv, cells, out, cv, hpv, hc, h => by
    simp only [aFill] at h
    injection h with h; subst h
    have : pv = [] := List.eq_nil_of_length_eq_zero (by simpa using hpv.1.symm)
    subst this
    exact ⟨cv, rfl, hc, rfl⟩
  | (i, x) :: parts, [], cells, out, cv, hpv, hc, h => by simp at hpv
  | (i, x) :: parts, (i', v) :: pv, cells, out, cv, hpv, hc, h => by
    obtain ⟨hl, hr⟩ := hpv
    obtain ⟨e1, hxv⟩ := hr 0 (i, x) (i', v) (by simp) (by simp)
    simp only at e1 hxv
    subst e1
    simp only [aFill, Option.bind_eq_bind, Option.bind_eq_some_iff] at h
    obtain ⟨⟨off, size⟩, hpl, h⟩ := h
    simp only at h
    split at h
    · cases h
    · rename_i hno
      have hxs := hxv.cells_size
      have hcl := hc.length
      simp only [Array.length_toList] at hcl
      have hsz : x.cells.length = size := by omega
      have hfit : off + x.cells.length ≤ cells.length := by omega
      have hstep := fill_step off v.cells.toList 0 cv (by simp; omega)
      have hrel : RelL w ρ U c (splice cells off x.cells) ((v.cells.toList.zipIdx 0).foldl (fun (cs : Array Value) (p : Value × Nat) => cs.setIfInBounds (off + p.2) p.1) cv).toList := by
        rw [hstep]
        exact splice_rel hc hxv.cells off
      obtain ⟨ov, h1, h2, h3⟩ := fill_rel hp ⟨by simpa using hl, fun j p q hp hq => hr (j + 1) p q (by simpa using hp) (by simpa using hq)⟩ hrel h
      refine ⟨ov, ?_, h2, by rw [h3, splice_length hfit]⟩
      unfold Instr.fill
      rw [← hp i, hpl]
      have g1 : (v.cells.size ≠ size || off + v.cells.size > cv.size) = false := by
        simp; omega
      simp only [g1, Bool.false_eq_true, if_false]
      rw [← h1]
      congr 1
      rw [← Array.foldl_toList, Array.toList_zipIdx]

def RelP (w : World) (ρ : Pl) (U : Reg) (c : Nat) (ps : List (Nat × AV)) (pv : List (Nat × Value)) : Prop :=
  ps.length = pv.length ∧ ∀ (j : Nat) (p : Nat × AV) (q : Nat × Value), ps[j]? = some p → pv[j]? = some q → p.1 = q.1 ∧ Rel w ρ U c p.2 q.2

theorem gives_build {t : TypeId} {ps : List (Nat × AV)} {pv : Array (Nat × Value)} {v : AV} (hp : RelP w ρ U c ps pv.toList) (h : aBuild P t ps = some v) : Gives P w ρ U c (Instr.build t pv) v := by
  simp only [aBuild, Option.bind_eq_bind, Option.bind_eq_some_iff] at h
  obtain ⟨z, hz, d, hd, h⟩ := h
  obtain ⟨zv, hzr, hzz⟩ := run_zero hz w
  have hzc := (hzz w ρ U c).cells
  unfold Instr.build
  split at h
  · rename_i fs
    simp only [Option.bind_eq_some_iff] at h
    obtain ⟨places, hpl, h⟩ := h
    simp only [Option.map_eq_some_iff] at h
    obtain ⟨out, hout, rfl⟩ := h
    have hplaces : ∀ (l : List Field) (ps : List (Nat × Nat)), (l.mapM fun f => (szT P f.type).map fun z => (f.offset, z)) = some ps → (l.mapM (m := Sem) fun f => do pure (f.offset, ← sizeOf f.type)).run P w = .ok ps w := by
      intro l
      induction l with
      | nil => intro ps h; simp at h; subst h; simp
      | cons f l ih =>
        intro ps h
        simp only [List.mapM_cons, Option.bind_eq_bind, Option.bind_eq_some_iff, Option.map_eq_some_iff, Option.pure_def] at h
        obtain ⟨a, ⟨z, hz, rfl⟩, qs, hqs, h⟩ := h
        injection h with h; subst h
        rw [List.mapM_cons]
        simp only [Sem.run_bind, run_sizeOf_ hz, Result.andThen_ok, Sem.run_pure, ih qs hqs]
    have hpa : (fs.mapM (m := Sem) fun f => do pure (f.offset, ← sizeOf f.type)).run P w = .ok places.toArray w := by
      rw [Array.mapM_eq_mapM_toList, Sem.run_map, hplaces _ _ hpl]
      rfl
    obtain ⟨ov, h1, h2, _⟩ := fill_rel (place := (places[·]?)) (place' := (places.toArray[·]?)) (fun i => by simp) hp hzc hout
    refine ⟨.agg ov, ?_, by simp only [Rel]; exact ⟨ov.toList, by simp, h2⟩⟩
    simp only [Sem.run_bind, hzr, Result.andThen_ok, run_underlying hd, hpa, h1, Sem.run_pure]
  · rename_i n e
    simp only [Option.bind_eq_some_iff] at h
    obtain ⟨size, hsz, h⟩ := h
    simp only [Option.map_eq_some_iff] at h
    obtain ⟨out, hout, rfl⟩ := h
    obtain ⟨ov, h1, h2, _⟩ := fill_rel (place := fun i => some (i * size, size)) (place' := fun i => some (i * size, size)) (fun i => rfl) hp hzc hout
    refine ⟨.agg ov, ?_, by simp only [Rel]; exact ⟨ov.toList, by simp, h2⟩⟩
    simp only [Sem.run_bind, hzr, Result.andThen_ok, run_underlying hd, run_sizeOf_ hsz, h1, Sem.run_pure]
  · cases h

theorem does_buildSlice {t : TypeId} {len : Nat} {ps : List (Nat × AV)} {pv : Array (Nat × Value)} {v : AV} (h0 : Sim base ρ X s w) (hp : RelP w ρ (UX ρ s.h X) s.c ps pv.toList) (h : aBuildSlice P t len ps = some v) : Does P base ρ X s w (Instr.buildSlice t len pv) v s := by
  simp only [aBuildSlice, Option.bind_eq_bind, Option.bind_eq_some_iff] at h
  obtain ⟨d, hd, h⟩ := h
  split at h
  · rename_i e
    simp only [Option.bind_eq_some_iff] at h
    obtain ⟨k, hk, i, hi, h⟩ := h
    split at h
    · cases h
    · rename_i hno
      simp only [Option.bind_eq_some_iff] at h
      obtain ⟨z, hz, h⟩ := h
      split at h
      · cases h
      · rename_i hzl
        simp only [Option.bind_eq_some_iff] at h
        obtain ⟨cs, hcs, h⟩ := h
        split at h
        · rename_i hfin
          injection h with h; subst h
          obtain ⟨zv, hzr, hzz⟩ := run_zero hz w
          have hzs := (hzz w ρ (UX ρ s.h X) s.c).cells_size
          have hzl : z.cells.length = esz k := by simpa using hzl
          obtain ⟨hsz, _⟩ := shapeT_some hk
          have hbig : ¬ (len * esz k > 16777216) := by omega
          have hzero : ∀ n, ((Array.range n).map (zv.cells[· % zv.cells.size]!)) = madeCells zv.cells n := fun n => rfl
          have hzc : RelL w ρ (UX ρ s.h X) s.c ((List.replicate len z.cells).flatten) (madeCells zv.cells (len * esz k)).toList := by
            rw [show esz k = zv.cells.size by omega, made_list _ _ (by have := esz_pos k; omega)]
            exact (hzz w ρ _ _).cells.flatten _
          obtain ⟨ov, g1, g2, g3⟩ := fill_rel (place := fun i => some (i * esz k, esz k)) (place' := fun i => some (i * esz k, esz k)) (fun i => rfl) hp hzc hcs
          have hov : ov.size = cs.length := by have := g2.length; simpa using this
          refine ⟨.slice (some ⟨w.heap.size, 0, none⟩) len len, w.alloc (.cells ov e), ?_, ?_⟩
          · unfold Instr.buildSlice
            have e24 : (2:Nat) ^ 24 = 16777216 := by decide
            have hbig' : ¬ (len * esz k > 2 ^ 24) := by omega
            by_cases hl0 : len * esz k = 0
            · have hmade : ((Array.range (len * esz k)).map ((#[] : Array Value)[· % (#[] : Array Value).size]!)) = madeCells zv.cells (len * esz k) := by
                apply Array.ext
                · simp [madeCells]
                · intro j hj; simp [hl0] at hj
              simp only [Sem.run_bind, run_underlying hd, Result.andThen_ok, run_sizeOf_ hsz, if_neg hbig', if_pos hl0, Sem.run_pure, hmade, g1, newRow, run_newObj, World.alloc_eq]
            · simp only [Sem.run_bind, run_underlying hd, Result.andThen_ok, run_sizeOf_ hsz, if_neg hbig', if_neg hl0, hzr, Sem.run_pure, hzero, g1, newRow, run_newObj, World.alloc_eq]
          · have hfr : ∀ b, b < w.heap.size → (w.alloc (.cells ov e)).heap[b]? = w.heap[b]? := fun b hb => by
              show (w.heap.push _)[b]? = _
              rw [Array.getElem?_push, if_neg (by omega)]
            refine Post.grow h0 rfl rfl rfl (by simp) hfr ?_
            have m : Mono w ρ (UX ρ s.h X) s.c (w.alloc (.cells ov e)) ρ (UX ρ s.h X) s.c := Mono.grow (fun U => Fr.alloc w _)
            have hrc := chunk_relC (k := k) (n := len) (RelL.mono m _ _ g2) (all_one hfin.1) (by omega)
            have hfull : ov.toList.take (len * esz k) = ov.toList := List.take_of_length_le (by simp; omega)
            rw [hfull] at hrc
            simp only [Rel, chunk_length]
            refine ⟨⟨w.heap.size, 0, none⟩, len, ov.toList, rfl, Nat.le_refl _, hrc, ?_, rfl⟩
            intro j u hj
            rw [add_lit, Nat.zero_add, cell_at (heap_alloc_new w _)]
            refine ⟨by simpa using hj, ?_⟩
            rintro (⟨n, o, hn, hnb, _⟩ | hx)
            · have := h0.blk_lt hn
              simp only at hnb; omega
            · have := h0.old _ _ hx
              simp at this
        · cases h
  · cases h
end
end Go.Ai
