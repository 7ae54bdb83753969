/- Operations: append, copy, make. -/
import Derived.Test.YtdfkffmddgffkaaAi8
import Derived.Laws.MakeOwn
set_option linter.unusedVariables false
set_option linter.unusedSimpArgs false
namespace Go.Ai
section
variable {P : Program} {base : Nat} {ρ : Pl} {X U : Reg} {c : Nat} {s s' : St} {w : World}

theorem source_len {x : AV} {k : Nat} {ys : List AV} {n : Nat} (h : n = ys.length) : n * esz k = (ys.length) * esz k := by rw [h]

theorem does_append {argTypes : Array TypeId} {ty : TypeId} {a x v : AV} {av xv : Value} (hb : base ≤ w.heap.size) (h : Sim base ρ X s w) (ha : Rel w ρ (UX ρ s.h X) s.c a av) (hx : Rel w ρ (UX ρ s.h X) s.c x xv)
    (hh : aAppend P argTypes a x s = some (v, s')) : Does P base ρ X s w (Builtin.append_ argTypes ty #[av, xv]) v s' := by
  simp only [aAppend, Option.bind_eq_bind, Option.bind_eq_some_iff] at hh
  obtain ⟨t, ha0, d, ht, hh⟩ := hh
  split at hh
  · rename_i e
    simp only [Option.bind_eq_some_iff] at hh
    obtain ⟨t1, ha1, hh⟩ := hh
    split at hh
    · cases hh
    · cases hh
    · rename_i hni hnn
      obtain ⟨d1, ht1⟩ : ∃ d1, P.underlying t1 = some d1 := by
        cases hu : P.underlying t1 with
        | none => exact absurd hu hnn
        | some d1 => exact ⟨d1, rfl⟩
      have hd1 : ∀ q, d1 ≠ .int q := fun q e => hni q (e ▸ ht1)
      simp only [Option.bind_eq_some_iff] at hh
      obtain ⟨k, hk, i, hi, z, hz, ys, hys, hh⟩ := hh
      obtain ⟨hsz, _⟩ := shapeT_some hk
      split at hh
      · cases hh
      · rename_i hzl
        have hzl : z.cells.length = esz k := by simpa using hzl
        simp only [zeroT, Option.bind_eq_bind, Option.bind_eq_some_iff] at hz
        obtain ⟨i', hi', zv, hzv, hz⟩ := hz
        have hzr : ∀ w, (zeroValue e).run P w = .ok zv w := fun w => by simp [zeroValue, typeInfo, hi', hzv]
        have hzs : zv.cells.size = esz k := by
          have := (ofVal_rel (w := w) (ρ := ρ) (U := fun _ _ => False) (c := 0) hz).cells_size
          omega
        obtain ⟨us, hus, hlen, hfirst⟩ := source_rel (P := P) h hx hys
        have hul := hus.length
        have hfull : us.take (ys.length * esz k) = us := List.take_of_length_le (by omega)
        have hsame : ∀ (w' : World), w'.heap = w.heap → ∀ (a : Addr) u, w.cell? a = some u → w'.cell? a = some u := fun w' e a u hu => by
          unfold World.cell? at hu ⊢
          rw [e]; exact hu
        have hf : ∀ w' : World, w'.heap = w.heap → (Builtin.firstCells (esz k) ys.length xv).run P w' = .ok us.toArray w' := fun w' e => by
          have := hfirst w' (hsame w' e) ys.length (Nat.le_refl _)
          rwa [hfull] at this
        -- nothing is appended
        have hnone : ∀ (base0 : Option Addr) (n cap : Nat), ys = [] → n ≤ cap → (Builtin.append_ argTypes ty #[.slice base0 n cap, xv]).run P w = .ok (.slice base0 n cap) w := fun base0 n cap he hle => by
          have hu0 : us = [] := List.eq_nil_of_length_eq_zero (by rw [hul, he]; simp)
          have hl0 : ys.length = 0 := by rw [he]; rfl
          have := run_append_fits (P := P) (w := w) (w' := w) (ty := ty) (base0 := base0) (n := n) (m := ys.length) (cap := cap) (k := k) ha0 ha1 ht ht1 hd1 hsz (hlen w) (hf w rfl) (by omega) (by
            rw [hu0]
            cases base0 with
            | none => rfl
            | some a => simp [storeCells])
          simpa [hl0] using this
        have hgrow : ∀ {xs : List AV} {s0 : St} (base0 : Option Addr) (cap : Nat) (cs : List Value), Sim base ρ X s0 w → UX ρ s0.h X = UX ρ s.h X ∨ (∀ b j, UX ρ s0.h X b j → UX ρ s.h X b j) → s0.c = s.c → (∀ b j, Umap ρ s0.h b j → Umap ρ s.h b j) →
            RelC w ρ (UX ρ s.h X) s.c k xs cs → (∀ w' : World, w'.heap = w.heap → (Builtin.firstCells (esz k) xs.length (.slice base0 xs.length cap)).run P w' = .ok cs.toArray w') → cap < xs.length + ys.length → ys ≠ [] →
            aGrow k i.bytes xs ys s0 = some (v, s') → Does P base ρ X s w (Builtin.append_ argTypes ty #[.slice base0 xs.length cap, xv]) v s' := by
          intro xs s0 base0 cap cs h0 hUs hc0 hU0 hcs hold hgt hne hg
          obtain ⟨_, hs'e, hroom⟩ := aGrow_put hg
          obtain ⟨newCap, hle, hrun⟩ := run_append_grows (P := P) (w := w) (ty := ty) (base0 := base0) (n := xs.length) (m := ys.length) (cap := cap) (zv := zv) (i := i) (us := cs) (ys := us) ha0 ha1 ht ht1 hd1 hi hsz hzr hzs hlen hf hold hgt hroom
          have m0 : Mono w ρ (UX ρ s.h X) s.c w ρ (UX ρ s0.h X) s0.c := ⟨by rw [hc0]; exact Nat.le_refl _, fun _ _ => rfl, fun a u hu _ => hu, fun a ha => ha, fun b j _ hj => hUs.elim (fun e => e ▸ hj) (fun f => f b j hj)⟩
          obtain ⟨ρ', p1, p2, p3, p4, p5, p6⟩ := does_grow (newCap := newCap) (zs := (Builtin.zeroCells zv.cells (newCap - (xs.length + ys.length))).toList) (e := e) hb h0 hg (RelC.mono m0 k _ _ hcs) (RelC.mono m0 k _ _ hus) (by simp [zeroCells_size, hzs]) hle hne
          refine ⟨_, _, hrun, ρ', ?_, ?_, ?_, p4, ?_, ?_⟩
          · intro n hn; exact p1 n (by rw [hc0]; exact hn)
          · rw [← hc0]; exact p2
          · simpa using p3
          · have : Fr (Umap ρ s.h) w (w.drew.alloc (.cells (cs.toArray ++ us.toArray ++ (Builtin.zeroCells zv.cells (newCap - (xs.length + ys.length)))) e)) := (Fr.drew w).trans (Fr.alloc _ _) (fun b j _ hj => hj)
            exact this
          · intro b j hb' hj; exact hU0 b j (p6 b j hb' hj)
        split at hh
        · -- nil
          simp only [Rel] at ha; subst ha
          split at hh
          · rename_i hye
            injection hh with hh; injection hh with e1 e2; subst e1; subst e2
            exact ⟨_, w, hnone none 0 0 (by simpa using hye) (Nat.le_refl _), .same h (by simp [Rel])⟩
          · rename_i hye
            have hne : ys ≠ [] := by simpa using hye
            have hpos : 0 < ys.length := List.length_pos_iff.2 hne
            exact hgrow (xs := []) none 0 [] h (.inl rfl) rfl (fun _ _ hj => hj) (by simp [RelC]) (fun w' _ => by simp [Builtin.firstCells]) (by simpa using hpos) hne hh
        · -- an empty one
          rename_i z
          have ha' := ha
          simp only [Rel] at ha
          obtain ⟨A, cap, rfl, hA, hz⟩ := ha
          split at hh
          · rename_i hye
            injection hh with hh; injection hh with e1 e2; subst e1; subst e2
            exact ⟨_, w, hnone A 0 cap (by simpa using hye) (Nat.zero_le _), .same h ha'⟩
          · rename_i hye
            have hne : ys ≠ [] := by simpa using hye
            have hpos : 0 < ys.length := List.length_pos_iff.2 hne
            split at hh
            · rename_i hzt
              have hc0 := hz hzt
              subst hc0
              exact hgrow (xs := []) A 0 [] h (.inl rfl) rfl (fun _ _ hj => hj) (by simp [RelC]) (fun w' _ => by cases A <;> simp [Builtin.firstCells, loadCells, loadCellsFrom]) (by simpa using hpos) hne hh
            · cases hh
        · -- a row
          rename_i k' xs cp
          split at hh
          · cases hh
          · rename_i hkk
            have hkk : k' = k := by simpa using hkk
            subst hkk
            have ha' := ha
            simp only [Rel] at ha
            obtain ⟨A, cap, cs, rfl, h2, h3, h4, h5⟩ := ha
            split at hh
            · rename_i hye
              injection hh with hh; injection hh with e1 e2; subst e1; subst e2
              exact ⟨_, w, hnone (some A) xs.length cap (by simpa using hye) h2, .same h ha'⟩
            · rename_i hye
              have hne : ys ≠ [] := by simpa using hye
              have hpos : 0 < ys.length := List.length_pos_iff.2 hne
              have hold : ∀ w' : World, w'.heap = w.heap → (Builtin.firstCells (esz k') xs.length (.slice (some A) xs.length cap)).run P w' = .ok cs.toArray w' := fun w' e => by
                have hr := run_loadCells_list (P := P) w' A cs (fun j u hj => hsame w' e _ _ (h4 j u hj).1)
                rw [h3.length] at hr
                simpa [Builtin.firstCells] using hr
              split at hh
              · simp only [CapOk] at h5
                exact hgrow (some A) cap cs h (.inl rfl) rfl (fun _ _ hj => hj) h3 hold (by omega) hne hh
              · rename_i tk
                split at hh
                · rename_i htk
                  by_cases hfit : xs.length + ys.length ≤ cap
                  · obtain ⟨hv, hs', hroom⟩ := aGrow_put hh
                    obtain ⟨w', hst, hp⟩ := does_retok (P := P) h htk h3 h4 h5 hus hfit
                    have hrun := run_append_fits (P := P) (w := w) (w' := w') (ty := ty) (base0 := some A) (n := xs.length) (m := ys.length) (cap := cap) (k := k') ha0 ha1 ht ht1 hd1 hsz (hlen w) (hf w rfl) hfit hst
                    subst hv; subst hs'
                    exact ⟨_, w', hrun, hp⟩
                  · exact hgrow (some A) cap cs (h.del tk) (.inr (fun b j hj => hj.imp Umap.del id)) rfl (fun _ _ hj => hj.del) h3 hold (by omega) hne hh
                · cases hh
              · cases hh
        · -- memory of the call's own
          rename_i k' n off len cap
          split at hh
          · cases hh
          · rename_i hkk
            have hkk : k' = k := by simpa using hkk
            subst hkk
            split at hh
            · cases hh
            · rename_i hlc
              have ha' := ha
              simp only [Rel] at ha
              obtain ⟨h1, rfl⟩ := ha
              split at hh
              · rename_i hye
                injection hh with hh; injection hh with e1 e2; subst e1; subst e2
                exact ⟨_, w, hnone _ len cap (by simpa using hye) (by omega), .same h ha'⟩
              · rename_i hye
                have hne : ys ≠ [] := by simpa using hye
                split at hh
                · rename_i hfit
                  simp only [Option.bind_eq_some_iff] at hh
                  obtain ⟨s1, hst, hh⟩ := hh
                  injection hh with hh; injection hh with e1 e2; subst e1; subst e2
                  obtain ⟨w', hr, hp⟩ := does_storeAt (P := P) h hus.cells hst
                  have hrun := run_append_fits (P := P) (w := w) (w' := w') (ty := ty) (base0 := some ⟨(ρ n).1, off, none⟩) (n := len) (m := ys.length) (cap := cap) (k := k') ha0 ha1 ht ht1 hd1 hsz (hlen w) (hf w rfl) hfit (by
                    simp only [add_lit]; exact hr)
                  exact ⟨_, w', hrun, hp _ _ (by simp [Rel, h1])⟩
                · rename_i hfit
                  simp only [Option.bind_eq_some_iff] at hh
                  obtain ⟨⟨kk, xs⟩, he, hh⟩ := hh
                  simp only at hh
                  have hkk : kk = k' ∧ xs.length = len := by
                    simp only [elems] at he
                    split at he
                    · split at he
                      · injection he with he; injection he with e1 e2; exact ⟨e1.symm, by rw [← e2, chunk_length]⟩
                      · cases he
                    · cases he
                  obtain ⟨rfl, rfl⟩ := hkk
                  obtain ⟨A, cap', cs, e0, g1, g2⟩ := elems_rel h ha' he
                  injection e0 with e0 _ e0'
                  injection e0 with e0
                  subst e0; subst e0'
                  have hold : ∀ w' : World, w'.heap = w.heap → (Builtin.firstCells (esz kk) xs.length (.slice (some ⟨(ρ n).1, off, none⟩) xs.length cap)).run P w' = .ok cs.toArray w' := fun w' e => by
                    have hr := run_loadCells_list (P := P) w' _ cs (fun j u hj => hsame w' e _ _ (g2 j u hj))
                    rw [g1.length] at hr
                    simpa [Builtin.firstCells] using hr
                  exact hgrow _ cap cs h (.inl rfl) rfl (fun _ _ hj => hj) g1 hold (by omega) hne hh
        · cases hh
  · cases hh

theorem does_copy {argTypes : Array TypeId} {ty : TypeId} {a x v : AV} {av xv : Value} (h : Sim base ρ X s w) (ha : Rel w ρ (UX ρ s.h X) s.c a av) (hx : Rel w ρ (UX ρ s.h X) s.c x xv)
    (hh : aCopy P argTypes a x s = some (v, s')) : Does P base ρ X s w (Builtin.copy_ argTypes ty #[av, xv]) v s' := by
  simp only [aCopy, Option.bind_eq_bind, Option.bind_eq_some_iff] at hh
  obtain ⟨t, ha0, d, ht, hh⟩ := hh
  split at hh
  · rename_i e
    simp only [Option.bind_eq_some_iff] at hh
    obtain ⟨k, hk, ys, hys, hh⟩ := hh
    obtain ⟨hsz, _⟩ := shapeT_some hk
    obtain ⟨us, hus, hlen, hfirst⟩ := source_rel (P := P) h hx hys
    split at hh
    · simp only [Rel] at ha; subst ha
      injection hh with hh; injection hh with e1 e2; subst e1; subst e2
      have hf := hfirst w (fun _ _ hu => hu) 0 (Nat.zero_le _)
      refine ⟨.int .i64 0, w, ?_, .same h (by simp [Rel])⟩
      unfold Builtin.copy_
      simp [ha0, run_underlying ht, hlen w, run_sizeOf_ hsz, hf, goInt]
    · simp only [Rel] at ha
      obtain ⟨A, cap, rfl, hA, _⟩ := ha
      injection hh with hh; injection hh with e1 e2; subst e1; subst e2
      have hf := hfirst w (fun _ _ hu => hu) 0 (Nat.zero_le _)
      refine ⟨.int .i64 0, w, ?_, .same h (by simp [Rel])⟩
      unfold Builtin.copy_
      cases A <;> simp [ha0, run_underlying ht, hlen w, run_sizeOf_ hsz, hf, goInt, storeCells]
    · rename_i k' n off len cap
      split at hh
      · cases hh
      · rename_i hkk
        have hkk : k' = k := by simpa using hkk
        subst hkk
        simp only [Option.bind_eq_some_iff] at hh
        obtain ⟨s1, hst, hh⟩ := hh
        injection hh with hh; injection hh with e1 e2; subst e1; subst e2
        simp only [Rel] at ha
        obtain ⟨h1, rfl⟩ := ha
        have hm : min ys.length len ≤ ys.length := Nat.min_le_left _ _
        have hf := hfirst w (fun _ _ hu => hu) (min ys.length len) hm
        obtain ⟨w', hr, hp⟩ := does_storeAt (P := P) h (hus.take (min ys.length len)).cells hst
        refine ⟨.int .i64 (min ys.length len : Nat), w', ?_, hp _ _ (by simp [Rel])⟩
        unfold Builtin.copy_
        have e : Nat.min ys.length len = min ys.length len := rfl
        simp [ha0, run_underlying ht, hlen w, run_sizeOf_ hsz, e, hf, hr, goInt]
    · cases hh
  · cases hh
end
end Go.Ai
