/- Operations: constants, parts, loads, stores, new variables. -/
import Derived.Test.YtdfkffmddgffkaaAi3
import Derived.Laws.Entries
import Derived.ChangeKeysEq
set_option linter.unusedVariables false
set_option linter.unusedSimpArgs false
namespace Go.Ai
section
variable {P : Program} {base : Nat} {ρ : Pl} {X U : Reg} {c : Nat} {s s' : St} {w : World}

/-- What a piece of the machine does: it comes to a value that v stands for. -/
def Does (P : Program) (base : Nat) (ρ : Pl) (X : Reg) (s : St) (w : World) (m : Sem Value) (v : AV) (s' : St) : Prop :=
  ∃ v' w', m.run P w = .ok v' w' ∧ Post base ρ X s w v s' v' w'
/-- The same, where nothing turns. -/
def Gives (P : Program) (w : World) (ρ : Pl) (U : Reg) (c : Nat) (m : Sem Value) (v : AV) : Prop :=
  ∃ v', m.run P w = .ok v' w ∧ Rel w ρ U c v v'
theorem Gives.does {m : Sem Value} {v : AV} (h : Sim base ρ X s w) (g : Gives P w ρ (UX ρ s.h X) s.c m v) : Does P base ρ X s w m v s := by
  obtain ⟨v', h1, h2⟩ := g
  exact ⟨v', w, h1, .same h h2⟩

/-! ### Constants -/
theorem ofCell_rel : ∀ {v : Value} {x : AV}, ofCell v = some x → Rel w ρ U c x v := by
  intro v x h
  unfold ofCell at h
  split at h
  all_goals first
    | (injection h with h; subst h; simp [Rel]; done)
    | skip
  · split at h
    · rename_i f first captured hsz
      injection h with h; subst h
      simp only [Rel, RelL]
      refine ⟨[], [], ?_, rfl, rfl⟩
      have e1 : first = #[] := by simpa using hsz.1
      have e2 : captured = #[] := by simpa using hsz.2
      simp [e1, e2]
    · cases h
  · cases h
theorem mapM_ofCell : ∀ {vs : List Value} {xs : List AV}, vs.mapM ofCell = some xs → RelL w ρ U c xs vs
  | [], xs, h => by simp at h; subst h; simp [RelL]
  | v :: vs, xs, h => by
    simp only [List.mapM_cons, Option.bind_eq_bind, Option.bind_eq_some_iff, Option.pure_def] at h
    obtain ⟨x, hx, ys, hys, h⟩ := h
    injection h with h; subst h
    simp only [RelL]
    exact ⟨v, vs, rfl, ofCell_rel hx, mapM_ofCell hys⟩
theorem ofVal_rel {v : Value} {x : AV} (h : ofVal v = some x) : Rel w ρ U c x v := by
  unfold ofVal at h
  split at h
  · rename_i cs
    simp only [Option.map_eq_some_iff] at h
    obtain ⟨xs, h1, rfl⟩ := h
    simp only [Rel]
    exact ⟨cs.toList, by simp, mapM_ofCell h1⟩
  · rename_i cs
    split at h
    · injection h with h; subst h
      have e : cs = #[] := by simpa using ‹cs.size = 0›
      subst e
      simp only [Rel, RelL]
      exact ⟨[], rfl, rfl⟩
    · cases h
  · exact ofCell_rel h

theorem aEval_rel {fr : List AV} {a : Act} (hf : RelL w ρ U c fr a.tmps.toList) {x : Operand} {v : AV} (h : aEval fr x = some v) : Rel w ρ U c v (a.eval x) := by
  cases x with
  | tmp t =>
    simp only [aEval] at h; injection h with h; subst h
    have := hf.getD t
    simpa [Act.eval] using this
  | const v' => exact ofVal_rel h
  | global g =>
    simp only [aEval] at h; injection h with h; subst h
    simp [Rel, Act.eval]
  | func f =>
    simp only [aEval] at h; injection h with h; subst h
    simp only [Rel, RelL, Act.eval]
    exact ⟨[], [], rfl, rfl, rfl⟩
theorem aEvals_rel {fr : List AV} {a : Act} (hf : RelL w ρ U c fr a.tmps.toList) : ∀ {xs : List Operand} {vs : List AV}, aEvals fr xs = some vs → RelL w ρ U c vs (xs.map a.eval)
  | [], vs, h => by simp [aEvals] at h; subst h; simp [RelL]
  | x :: xs, vs, h => by
    simp only [aEvals, List.mapM_cons, Option.bind_eq_bind, Option.bind_eq_some_iff, Option.pure_def] at h
    obtain ⟨v, hv, us, hus, h⟩ := h
    injection h with h; subst h
    simp only [RelL, List.map_cons]
    exact ⟨_, _, rfl, aEval_rel hf hv, aEvals_rel hf hus⟩
theorem aPut_rel {fr : List AV} {a : Act} (hf : RelL w ρ U c fr a.tmps.toList) (d : Option Tmp) {v : AV} {v' : Value} (hr : Rel w ρ U c v v') : RelL w ρ U c (aPut fr d v) (a.put d v').tmps.toList := by
  cases d with
  | none => exact hf
  | some d => simpa [aPut, Act.put] using hf.set d hr

/-! ### Types -/
theorem szT_some {t : TypeId} {z : Nat} (h : szT P t = some z) : ∃ i, P.info? t = some i ∧ i.size = z := by
  simpa [szT, Option.map_eq_some_iff] using h
theorem run_sizeOf_ {t : TypeId} {z : Nat} (h : szT P t = some z) (w : World) : (sizeOf t).run P w = .ok z w := by
  obtain ⟨i, h1, h2⟩ := szT_some h
  simp [sizeOf, typeInfo, h1, h2]
theorem run_isAgg_ {t : TypeId} {b : Bool} (h : aggT P t = some b) (w : World) : (isAgg t).run P w = .ok b w := by
  unfold aggT at h
  unfold isAgg
  split at h <;> try cases h
  all_goals
    rename_i hu
    simp [run_underlying hu]
  all_goals (split <;> simp_all)
theorem run_zero {t : TypeId} {z : AV} (h : zeroT P t = some z) (w : World) : ∃ zv, (zeroValue t).run P w = .ok zv w ∧ ∀ w ρ U c, Rel w ρ U c z zv := by
  simp only [zeroT, Option.bind_eq_bind, Option.bind_eq_some_iff] at h
  obtain ⟨i, h1, zv, h2, h3⟩ := h
  exact ⟨zv, by simp [zeroValue, typeInfo, h1, h2], fun w ρ U c => ofVal_rel h3⟩
theorem shapeT_some {t : TypeId} {k : Nat} (h : shapeT P t = some k) : szT P t = some (esz k) ∧ aggT P t = some (decide (k ≠ 0)) := by
  simp only [shapeT, Option.bind_eq_bind, Option.bind_eq_some_iff] at h
  obtain ⟨z, h1, b, h2, h3⟩ := h
  cases b with
  | true =>
    simp at h3
    obtain ⟨h3, rfl⟩ := h3
    simp [esz, h3, h1, h2]
  | false =>
    simp at h3
    obtain ⟨rfl, rfl⟩ := h3
    simp [esz, h1, h2]

/-! ### Parts of a row of cells -/
/-- Read at an address behind which a row of cells lies. -/
theorem gives_part {t : TypeId} {A : Addr} {cs : List AV} {vs : List Value} {off : Nat} {v : AV} (hcs : RelL w ρ U c cs vs)
    (hcell : ∀ j u, vs[off + j]? = some u → w.cell? (A.add j) = some u) (h : aPart P t cs off = some v) : Gives P w ρ U c (loadVar t A) v := by
  simp only [aPart, Option.bind_eq_bind, Option.bind_eq_some_iff] at h
  obtain ⟨b, hb, h⟩ := h
  cases b with
  | true =>
    simp only [if_true, Option.bind_eq_some_iff] at h
    obtain ⟨z, hz, h⟩ := h
    split at h
    · rename_i hle
      injection h with h; subst h
      have hl : ((vs.drop off).take z).length = z := by
        have := hcs.length
        simp; omega
      have hrun := run_loadCells_list (P := P) w A ((vs.drop off).take z) (fun j u hj => hcell j u (by
        rw [List.getElem?_take] at hj
        split at hj
        · rwa [List.getElem?_drop] at hj
        · cases hj))
      rw [hl] at hrun
      refine ⟨.agg ((vs.drop off).take z).toArray, ?_, ?_⟩
      · unfold loadVar
        simp [run_isAgg_ hb, run_sizeOf_ hz, hrun]
      · simp only [Rel]
        exact ⟨_, rfl, (hcs.drop off).take z⟩
    · cases h
  | false =>
    simp only [Bool.false_eq_true, if_false] at h
    obtain ⟨u, hu, hr⟩ := hcs.get h
    refine ⟨u, ?_, hr⟩
    unfold loadVar
    have := hcell 0 u (by simpa using hu)
    simp only [Addr.add, if_true] at this
    simp [run_isAgg_ hb, this]
/-- A part of a value. -/
theorem gives_cut {t : TypeId} {cs : List AV} {vs : List Value} {off : Nat} {v : AV} (hcs : RelL w ρ U c cs vs) (h : aPart P t cs off = some v) : Gives P w ρ U c (part t vs.toArray off) v := by
  simp only [aPart, Option.bind_eq_bind, Option.bind_eq_some_iff] at h
  obtain ⟨b, hb, h⟩ := h
  cases b with
  | true =>
    simp only [if_true, Option.bind_eq_some_iff] at h
    obtain ⟨z, hz, h⟩ := h
    split at h
    · rename_i hle
      injection h with h; subst h
      refine ⟨.agg (vs.toArray.extract off (off + z)), ?_, ?_⟩
      · unfold part
        simp [run_isAgg_ hb, run_sizeOf_ hz]
      · simp only [Rel]
        refine ⟨(vs.drop off).take z, ?_, (hcs.drop off).take z⟩
        congr 1
        apply Array.ext'
        simp [List.extract_eq_take_drop]
    · cases h
  | false =>
    simp only [Bool.false_eq_true, if_false] at h
    obtain ⟨u, hu, hr⟩ := hcs.get h
    refine ⟨u, ?_, hr⟩
    unfold part
    simp [run_isAgg_ hb, hu]

theorem cell_at {g : Nat} {C : Array Value} {e : TypeId} {fz : Nat × Nat} (hg : w.heap[g]? = some (.cells C e fz)) (j : Nat) : w.cell? ⟨g, j, none⟩ = C[j]? := cell_of_row w g j C e fz hg

theorem gives_load {t : TypeId} {a v : AV} {av : Value} (h : Sim base ρ X s w) (ha : Rel w ρ (UX ρ s.h X) s.c a av) (hl : aLoad P t a s = some v) : Gives P w ρ (UX ρ s.h X) s.c (Instr.loadAt t av) v := by
  unfold aLoad at hl
  split at hl
  · rename_i n off
    split at hl
    · rename_i cs hg
      simp only [Rel] at ha
      obtain ⟨_, rfl⟩ := ha
      obtain ⟨C, e, fz, h1, h2, h3, h4⟩ := h.obj n _ hg
      obtain ⟨v', hrun, hr⟩ := gives_part (P := P) (A := ⟨(ρ n).1, off, none⟩) h3 (fun j u hj => by
        rw [add_lit, cell_at h1]; simpa using hj) hl
      exact ⟨v', by simpa [Instr.loadAt, Instr.sureAddr] using hrun, hr⟩
    · cases hl
  · rename_i k xs i off
    simp only [Option.bind_eq_bind, Option.bind_eq_some_iff] at hl
    obtain ⟨x, hx, hl⟩ := hl
    simp only [Rel] at ha
    obtain ⟨h1, h2, A, rfl, cs, h4, h5⟩ := ha
    obtain ⟨u, h6, h7, h8⟩ := h4.get hx
    obtain ⟨v', hrun, hr⟩ := gives_part (P := P) (A := A.add (i * esz k + off)) h7.cells (fun j y hj => by
      rw [add_add_]
      have := (h5 _ y (h8 (off + j) y (by simpa using hj))).1
      rwa [show i * esz k + off + j = i * esz k + (off + j) by omega]) hl
    exact ⟨v', by simpa [Instr.loadAt, Instr.sureAddr] using hrun, hr⟩
  · rename_i g off
    simp only [Option.bind_eq_bind, Option.bind_eq_some_iff] at hl
    obtain ⟨cs, hg, hl⟩ := hl
    simp only [Rel] at ha; subst ha
    obtain ⟨_, vs, h2, h3⟩ := h.glob g cs hg
    obtain ⟨v', hrun, hr⟩ := gives_part (P := P) (A := ⟨g, off, none⟩) h2 (fun j u hj => by
      rw [add_lit]; exact (h3 _ u hj).1) hl
    exact ⟨v', by simpa [Instr.loadAt, Instr.sureAddr] using hrun, hr⟩
  · cases hl

/-! ### Stores -/
theorem run_storeCells_ (P : Program) (g o : Nat) (t : TypeId) (fz : Nat × Nat) : ∀ (vs : List Value) (i : Nat) (cur : Array Value) (w : World), w.heap[g]? = some (.cells cur t fz) → thawed cur fz → o + i + vs.length ≤ cur.size → (∀ v ∈ vs, v.oneCell' = true) →
    (storeCells ⟨g, o, none⟩ vs i).run P w = .ok () (w.setRow g (cur.toList.take (o + i) ++ vs ++ cur.toList.drop (o + i + vs.length)).toArray)
  | [], i, cur, w, hg, _, _, _ => by
    simp only [storeCells, List.append_nil, List.length_nil, Nat.add_zero, List.take_append_drop, Array.toArray_toList]
    rw [setRow_self w g cur t fz hg]
    rfl
  | v :: rest, i, cur, w, hg, hfz, hl, h1 => by
    have hi : o + i < cur.size := by simp at hl; omega
    have hcell : w.cell? ⟨g, o + i, none⟩ = some cur[o + i] := by simp [World.cell?, hg, hi]
    have hfro : w.frozen? ⟨g, o + i, none⟩ = false := by
      obtain ⟨lo, hi'⟩ := fz
      have := hfz (o + i) hi
      simp only [World.frozen?, hg]
      simp only at this
      by_cases h1 : lo ≤ o + i
      · have : ¬ (o + i < hi') := fun h2 => this ⟨h1, h2⟩
        simp [this]
      · simp [h1]
    have hst : (store ((⟨g, o, none⟩ : Addr).add i) v).run P w = .ok () (w.setRow g (cur.setIfInBounds (o + i) v)) := by
      rw [add_lit, run_store P w _ v _ (h1 v (by simp)), hcell]
      simp [hfro, setCell_eq_setRow w g (o + i) cur t fz v hg]
    have ih := run_storeCells_ P g o t fz rest (i + 1) (cur.setIfInBounds (o + i) v) (w.setRow g (cur.setIfInBounds (o + i) v)) (setRow_heap w g cur _ t _ hg) (by simpa [thawed] using hfz) (by simp at hl ⊢; omega) (fun x hx => h1 x (by simp [hx]))
    simp only [storeCells, Sem.run_bind, hst, Result.andThen_ok, ih, setRow_setRow]
    congr 3
    have e := list_seg_step cur.toList (o + i) v rest (by simp at hl ⊢; omega)
    simpa [Array.toList_setIfInBounds, Nat.add_assoc] using e

theorem splice_rel {cs vs : List AV} {us ys : List Value} (h : RelL w ρ U c cs us) (k : RelL w ρ U c vs ys) (off : Nat) : RelL w ρ U c (splice cs off vs) (us.take off ++ ys ++ us.drop (off + ys.length)) := by
  unfold splice
  rw [k.length]
  exact ((h.take off).append k).append (h.drop _)
theorem splice_length {cs vs : List AV} {off : Nat} (h : off + vs.length ≤ cs.length) : (splice cs off vs).length = cs.length := by
  unfold splice
  simp; omega
theorem splice_one {cs vs : List AV} {off : Nat} (h1 : ∀ x ∈ cs, x.one = true) (h2 : ∀ x ∈ vs, x.one = true) : ∀ x ∈ splice cs off vs, x.one = true := by
  intro x hx
  unfold splice at hx
  rcases List.mem_append.1 hx with hx | hx
  · rcases List.mem_append.1 hx with hx | hx
    · exact h1 x (List.mem_of_mem_take hx)
    · exact h2 x hx
  · exact h1 x (List.mem_of_mem_drop hx)
theorem keep_setRow {g : Nat} {cur new : Array Value} {t : TypeId} {fz : Nat × Nat} (hg : w.heap[g]? = some (.cells cur t fz)) (hs : new.size = cur.size) (a : Addr) (h : (w.cell? a).isSome = true) : ((w.setRow g new).cell? a).isSome = true := by
  by_cases e : a.block = g
  · obtain ⟨b, o, sp⟩ := a
    simp only at e; subst e
    cases sp with
    | some q => simp [World.cell?, hg] at h
    | none =>
      rw [cell_of_row w b o cur t fz hg] at h
      rw [cell_setRow_same w b o cur new t fz hg]
      simp at h ⊢; omega
  · rwa [cell_setRow_other w g new a e]

/-- Cells are stored into a live block. -/
theorem does_storeAt {n off : Nat} {vs : List AV} {us : List Value} (h : Sim base ρ X s w) (hvs : RelL w ρ (UX ρ s.h X) s.c vs us) (ha : aStoreAt n off vs s = some s') :
    ∃ w', (storeCells ⟨(ρ n).1, off, none⟩ us).run P w = .ok () w' ∧ ∀ (v : AV) (v' : Value), Rel w ρ (UX ρ s.h X) s.c v v' → Post base ρ X s w v s' v' w' := by
  unfold aStoreAt at ha
  split at ha
  · rename_i cs hg
    split at ha
    · rename_i hle
      injection ha with ha; subst ha
      obtain ⟨C, e, fz, h1, h2, h3, h4⟩ := h.obj n _ hg
      have hl := h3.length
      have hl2 := hvs.length
      simp only [Array.length_toList] at hl
      have hone : ∀ x ∈ vs, x.one = true := by simpa using hle.2
      have hrun := run_storeCells_ P (ρ n).1 off e fz us 0 C w h1 h2 (by omega) (hvs.one hone)
      simp only [Nat.add_zero] at hrun
      refine ⟨_, hrun, fun v v' hr => ?_⟩
      have hsz : ((C.toList.take off ++ us ++ C.toList.drop (off + us.length)).toArray).size = C.size := by simp; omega
      refine Post.put (w' := w.setRow (ρ n).1 (C.toList.take off ++ us ++ C.toList.drop (off + us.length)).toArray) h hg (by simp) (.cells (splice cs off vs)) (by simp) rfl rfl rfl (by simp) (fun b hb => setRow_other w _ b _ hb) (fun a ha => keep_setRow h1 hsz a ha) v v' (fun U' m => ⟨?_, Rel.mono m _ _ hr⟩)
      refine ⟨_, e, fz, setRow_heap w _ C _ e fz h1, ?_, ?_, splice_one h4 hone⟩
      · intro j hj
        rw [hsz] at hj
        exact h2 j hj
      · exact RelL.mono m _ _ (splice_rel h3 hvs off)
    · cases ha
  · cases ha

theorem does_store {t : TypeId} {a x : AV} {av xv : Value} (h : Sim base ρ X s w) (ha : Rel w ρ (UX ρ s.h X) s.c a av) (hx : Rel w ρ (UX ρ s.h X) s.c x xv) (hs : aStore P t a x s = some s') :
    ∃ w', (Instr.storeAt t av xv).run P w = .ok () w' ∧ Post base ρ X s w .undef s' undef w' := by
  unfold aStore at hs
  split at hs
  · rename_i n off
    split at hs
    · rename_i hz
      simp only [Rel] at ha
      obtain ⟨_, rfl⟩ := ha
      obtain ⟨w', h1, h2⟩ := does_storeAt (P := P) h hx.cells hs
      refine ⟨w', ?_, h2 _ _ (by simp [Rel, RelL, undef])⟩
      unfold Instr.storeAt storeVar
      have := hx.cells_size
      simp [Instr.sureAddr, run_sizeOf_ hz, this, h1]
    · cases hs
  · cases hs

/-! ### New variables -/
theorem does_newVar {x v : AV} {xv : Value} (hb : base ≤ w.heap.size) (h : Sim base ρ X s w) (hx : Rel w ρ (UX ρ s.h X) s.c x xv) (t : TypeId) (hn : aNewVar x s = some (v, s')) :
    ∃ a w', (newVar t xv).run P w = .ok a w' ∧ Post base ρ X s w v s' (.pointer (some a)) w' := by
  unfold aNewVar at hn
  split at hn
  · rename_i hone
    injection hn with hn
    injection hn with hv hs
    subst hv; subst hs
    refine ⟨⟨w.heap.size, 0, none⟩, w.alloc (.cells xv.cells t), by simp [newVar, newRow], ?_⟩
    refine Post.new (w' := w.alloc (.cells xv.cells t)) h rfl rfl rfl (by simp) (fun b hb => ?_) hb (.cells x.cells) w.heap.size 0 (Nat.le_refl _) _ _ (fun ρ' U' c' m hρ' _ hc' => ⟨?_, ?_⟩)
    · show (w.heap.push _)[b]? = _
      rw [Array.getElem?_push, if_neg (by omega)]
    · refine ⟨xv.cells, t, (0, 0), heap_alloc_new w _, by simp [thawed], RelL.mono m _ _ hx.cells, by simpa using hone⟩
    · simp only [Rel]
      exact ⟨by rw [hc']; omega, by rw [hρ']⟩
  · cases hn
theorem does_box {x v : AV} {xv : Value} (hb : base ≤ w.heap.size) (h : Sim base ρ X s w) (hx : Rel w ρ (UX ρ s.h X) s.c x xv) (t : TypeId) (hn : aNewVar x s = some (v, s')) : Does P base ρ X s w (Instr.box t xv) v s' := by
  obtain ⟨a, w', h1, h2⟩ := does_newVar (P := P) hb h hx t hn
  exact ⟨_, w', by simp [Instr.box, h1], h2⟩
theorem does_alloc {v : AV} (hb : base ≤ w.heap.size) (h : Sim base ρ X s w) (t : TypeId) (hn : aAlloc P t s = some (v, s')) : Does P base ρ X s w (Instr.alloc t true (.tuple #[])) v s' := by
  simp only [aAlloc, Option.bind_eq_bind, Option.bind_eq_some_iff] at hn
  obtain ⟨z, hz, hn⟩ := hn
  obtain ⟨zv, hzr, hzz⟩ := run_zero hz w
  obtain ⟨a, w', h1, h2⟩ := does_newVar (P := P) hb h (hzz w ρ _ _) t hn
  exact ⟨_, w', by simp [Instr.alloc, hzr, h1], h2⟩
end
end Go.Ai
