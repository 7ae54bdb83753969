/- Operations: append. -/
import Derived.Test.YtdfkffmddgffkaaAi7
set_option linter.unusedVariables false
set_option linter.unusedSimpArgs false
namespace Go.Ai
section
variable {P : Program} {base : Nat} {ρ : Pl} {X U : Reg} {c : Nat} {s s' : St} {w : World}

/-- What is appended or copied. -/
theorem source_rel {x : AV} {xv : Value} {k : Nat} {ys : List AV} (h : Sim base ρ X s w) (hx : Rel w ρ (UX ρ s.h X) s.c x xv) (hs : source k x s = some ys) :
    ∃ us, RelC w ρ (UX ρ s.h X) s.c k ys us ∧ (∀ w' : World, (Builtin.lenOf xv).run P w' = .ok ys.length w') ∧
      ∀ w' : World, (∀ (a : Addr) u, w.cell? a = some u → w'.cell? a = some u) → ∀ n, n ≤ ys.length → (Builtin.firstCells (esz k) n xv).run P w' = .ok (us.take (n * esz k)).toArray w' := by
  unfold source at hs
  split at hs
  · injection hs with hs; subst hs
    simp only [Rel] at hx; subst hx
    refine ⟨[], by simp [RelC], fun w' => by simp [Builtin.lenOf], fun w' _ n hn => ?_⟩
    have : n = 0 := by simpa using hn
    subst this
    simp [Builtin.firstCells]
  · injection hs with hs; subst hs
    simp only [Rel] at hx
    obtain ⟨A, cap, rfl, _⟩ := hx
    refine ⟨[], by simp [RelC], fun w' => by simp [Builtin.lenOf], fun w' _ n hn => ?_⟩
    have : n = 0 := by simpa using hn
    subst this
    cases A <;> simp [Builtin.firstCells, loadCells, loadCellsFrom]
  · rename_i l
    split at hs
    · rename_i hk
      injection hs with hs; subst hs; subst hk
      simp only [Rel] at hx; subst hx
      refine ⟨l.map fun b => .int .u8 b.toNat, ?_, fun w' => by simp [Builtin.lenOf, size_mk], fun w' _ n hn => ?_⟩
      · induction l with
        | nil => simp [RelC]
        | cons b l ih =>
          simp only [List.map_cons, RelC]
          exact ⟨.int .u8 b.toNat, _, rfl, ⟨rfl, by simp [AV.cells, AV.one], fun _ => rfl, fun e => absurd rfl e⟩, by simp [Rel], ih⟩
      · simp only [Builtin.firstCells, extract_mk, Sem.run_pure]
        congr 1
        apply Array.ext'
        simp [esz, List.map_take]
    · cases hs
  · simp only [Option.bind_eq_bind, Option.bind_eq_some_iff] at hs
    obtain ⟨⟨k', xs⟩, he, hs⟩ := hs
    simp only at hs
    split at hs
    · rename_i hk
      injection hs with hs; subst hs; subst hk
      obtain ⟨A, cap, cs, rfl, h1, h2⟩ := elems_rel h hx he
      refine ⟨cs, h1, fun w' => by simp [Builtin.lenOf], fun w' hw n hn => ?_⟩
      have hl := h1.length
      have hr := run_loadCells_list (P := P) w' A (cs.take (n * esz k')) (fun j u hj => hw _ _ (h2 j u (by
        rw [List.getElem?_take] at hj
        split at hj
        · exact hj
        · cases hj)))
      have hle : n * esz k' ≤ xs.length * esz k' := Nat.mul_le_mul_right _ hn
      rw [List.length_take, Nat.min_eq_left (by omega)] at hr
      simpa [Builtin.firstCells] using hr
    · cases hs

theorem growBy_le (need : Nat) : ∀ (rounds c : Nat), c ≤ 2 * need + 1000 → c ≤ need ∨ 4 * c ≤ 5 * need + 768 → Builtin.growBy need rounds c ≤ 2 * need + 1000
  | 0, c, h, _ => h
  | r + 1, c, h, h2 => by
    unfold Builtin.growBy
    split
    · exact h
    · refine growBy_le need r _ ?_ ?_ <;> omega
theorem nextcap_le {need old : Nat} (h : old < need) : Builtin.nextslicecap need old ≤ 2 * need + 1000 := by
  unfold Builtin.nextslicecap
  split
  · omega
  · split
    · omega
    · exact growBy_le need 4 old (by omega) (.inl (by omega))
theorem roomy_spec {n bytes : Nat} (h : roomy n bytes = true) : n ≤ 137438953472 ∧ n * bytes ≤ 137438953472 := by
  simpa [roomy] using h

theorem zeroCells_size {z : Array Value} {n : Nat} : (Builtin.zeroCells z n).size = n * z.size := by
  simp [Builtin.zeroCells]

/-- append that must make a new row. -/
theorem run_append_grows {argTypes : Array TypeId} {t t1 ty e : TypeId} (ha0 : argTypes[0]? = some t) (ha1 : argTypes[1]? = some t1) {d1 : TypeDesc} {i : TypeInfo} {zv : Value} {k n m cap : Nat} {base0 : Option Addr} {xv : Value} {us ys : List Value}
    (ht : P.underlying t = some (.slice e)) (ht1 : P.underlying t1 = some d1) (hd1 : ∀ q, d1 ≠ .int q) (hi : P.info? e = some i) (hsz : szT P e = some (esz k)) (hz : ∀ w, (zeroValue e).run P w = .ok zv w) (hzs : zv.cells.size = esz k)
    (hlen : ∀ w' : World, (Builtin.lenOf xv).run P w' = .ok m w') (hfirst : ∀ w' : World, w'.heap = w.heap → (Builtin.firstCells (esz k) m xv).run P w' = .ok ys.toArray w')
    (hold : ∀ w' : World, w'.heap = w.heap → (Builtin.firstCells (esz k) n (.slice base0 n cap)).run P w' = .ok us.toArray w')
    (hgt : cap < n + m) (hroom : roomy (n + m) i.bytes = true) :
    ∃ newCap : Nat, n + m ≤ newCap ∧ (Builtin.append_ argTypes ty #[.slice base0 n cap, xv]).run P w =
      .ok (.slice (some ⟨w.heap.size, 0, none⟩) (n + m) newCap) (w.drew.alloc (.cells (us.toArray ++ ys.toArray ++ Builtin.zeroCells zv.cells (newCap - (n + m))) e)) := by
  obtain ⟨hr1, hr2⟩ := roomy_spec hroom
  refine ⟨(Question.appendCap (n + m) cap e).cut (w.tape w.drawn (Question.appendCap (n + m) cap e)), ?_, ?_⟩
  · show n + m ≤ n + m + _
    omega
  · have hint : (match d1 with | .int _ => true | _ => false) = false := by
      cases d1 <;> first | rfl | exact absurd rfl (hd1 _)
    have h1 : ¬ (n + m ≤ cap) := by omega
    have h2 : ¬ (((n + m : Nat) : Int) > IntKind.i64.max) := by rw [IntKind.max_i64]; omega
    have h3 : ¬ (Builtin.nextslicecap (n + m) cap * i.bytes > 2 ^ 48) := by
      have hb : i.bytes ≤ 137438953472 := by
        rcases Nat.eq_zero_or_pos i.bytes with h0 | h0
        · omega
        · exact Nat.le_trans (Nat.le_mul_of_pos_left i.bytes (by omega)) hr2
      have := Nat.mul_le_mul_right i.bytes (nextcap_le hgt)
      have e : (2 * (n + m) + 1000) * i.bytes = 2 * ((n + m) * i.bytes) + 1000 * i.bytes := by rw [Nat.add_mul, Nat.mul_assoc]
      have : (2:Nat) ^ 48 = 281474976710656 := by decide
      omega
    unfold Builtin.append_
    simp only [ha0, ha1, List.getElem?_toArray, List.getElem?_cons_zero, List.getElem?_cons_succ, Sem.run_bind, run_underlying ht, run_underlying ht1, Result.andThen_ok, run_sizeOf_ hsz, hint, Sem.run_pure, Bool.false_eq_true, if_false, hlen, h1, h2, false_and, hi,
      typeInfo, run_program, h3, run_choose, Question.forced, run_askRoom]
    have e0 := hold w.drew rfl
    have e1 := hfirst w.drew rfl
    have e2 := hz w.drew
    unfold World.drew at e0 e1 e2
    rw [e0, Result.andThen_ok, if_pos (show (!false) = true from rfl), e1, Result.andThen_ok, e2, Result.andThen_ok]
    simp [newRow]
    rfl

/-- A row that is appended to where nothing is: a new one, its spare cells the token's. -/
theorem does_grow {k bytes : Nat} {xs ys : List AV} {v : AV} {e : TypeId} {cs us zs : List Value} {newCap : Nat} (hb : base ≤ w.heap.size) (h : Sim base ρ X s w) (hg : aGrow k bytes xs ys s = some (v, s'))
    (hcs : RelC w ρ (UX ρ s.h X) s.c k xs cs) (hus : RelC w ρ (UX ρ s.h X) s.c k ys us) (hz : zs.length = (newCap - (xs.length + ys.length)) * esz k) (hle : xs.length + ys.length ≤ newCap) (hne : ys ≠ []) :
    Post base ρ X s w v s' (.slice (some ⟨w.heap.size, 0, none⟩) (xs.length + ys.length) newCap) (w.drew.alloc (.cells (cs.toArray ++ us.toArray ++ zs.toArray) e)) := by
  unfold aGrow at hg
  split at hg
  · injection hg with hg
    injection hg with e1 e2
    subst e1; subst e2
    have hl : (cs ++ us).length = (xs.length + ys.length) * esz k := by
      rw [List.length_append, hcs.length, hus.length, Nat.add_mul]
    refine Post.new (w' := w.drew.alloc (.cells (cs.toArray ++ us.toArray ++ zs.toArray) e)) h rfl rfl rfl (by simp) (fun b hb => ?_) hb .tok w.heap.size ((xs.length + ys.length) * esz k) (Nat.le_refl _) _ _ (fun ρ' U' c' m hρ' hU' hc' => ⟨?_, ?_⟩)
    · show (w.heap.push _)[b]? = _
      rw [Array.getElem?_push, if_neg (by omega)]
    · refine ⟨_, e, (0, 0), heap_alloc_new w.drew _, by simp [thawed], ?_⟩
      simp at hl ⊢
      omega
    · have hnew : (w.drew.alloc (.cells (cs.toArray ++ us.toArray ++ zs.toArray) e)).heap[w.heap.size]? = _ := heap_alloc_new w.drew (.cells (cs.toArray ++ us.toArray ++ zs.toArray) e)
      have hcell : ∀ j, (w.drew.alloc (.cells (cs.toArray ++ us.toArray ++ zs.toArray) e)).cell? ⟨w.heap.size, j, none⟩ = (cs ++ us ++ zs)[j]? := fun j => by
        rw [cell_at hnew]; simp
      simp only [Rel]
      refine ⟨⟨w.heap.size, 0, none⟩, newCap, cs ++ us, by simp, by simpa using hle, ?_, ?_, ?_⟩
      · exact (RelC.mono m k _ _ hcs).append (RelC.mono m k _ _ hus)
      · intro j u hj
        have hjl : j < (cs ++ us).length := (List.getElem?_eq_some_iff.1 hj).1
        rw [add_lit, Nat.zero_add, hcell, List.getElem?_append_left hjl]
        refine ⟨hj, fun hu => ?_⟩
        have := hU' j hu rfl
        omega
      · simp only [CapOk]
        refine ⟨by rw [hc']; omega, by rw [hρ'], trivial, by rw [hρ']; simp, fun j hj => ?_⟩
        rw [Nat.zero_add, hcell]
        have e1 : newCap * esz k = (xs.length + ys.length) * esz k + (newCap - (xs.length + ys.length)) * esz k := by
          rw [← Nat.add_mul]; congr 1; omega
        rw [List.getElem?_eq_getElem (by rw [List.length_append, hl, hz]; omega)]
        rfl
  · cases hg

/-- append within the room. -/
theorem run_append_fits {argTypes : Array TypeId} {t t1 ty e : TypeId} (ha0 : argTypes[0]? = some t) (ha1 : argTypes[1]? = some t1) {d1 : TypeDesc} {k n m cap : Nat} {base0 : Option Addr} {xv : Value} {ys : List Value}
    (ht : P.underlying t = some (.slice e)) (ht1 : P.underlying t1 = some d1) (hd1 : ∀ q, d1 ≠ .int q) (hsz : szT P e = some (esz k))
    (hlen : (Builtin.lenOf xv).run P w = .ok m w) (hfirst : (Builtin.firstCells (esz k) m xv).run P w = .ok ys.toArray w) (hle : n + m ≤ cap) {w' : World}
    (hst : match base0 with | some a => (storeCells (a.add (n * esz k)) ys).run P w = .ok () w' | none => w' = w) :
    (Builtin.append_ argTypes ty #[.slice base0 n cap, xv]).run P w = .ok (.slice base0 (n + m) cap) w' := by
  have hint : (match d1 with | .int _ => true | _ => false) = false := by
    cases d1 <;> first | rfl | exact absurd rfl (hd1 _)
  unfold Builtin.append_
  simp only [ha0, ha1, List.getElem?_toArray, List.getElem?_cons_zero, List.getElem?_cons_succ, Sem.run_bind, run_underlying ht, run_underlying ht1, Result.andThen_ok, run_sizeOf_ hsz, hint, Sem.run_pure, Bool.false_eq_true, if_false, hlen, hle, if_true]
  rw [if_pos (show (!false) = true from rfl), hfirst, Result.andThen_ok]
  cases base0 with
  | none => subst hst; simp
  | some a => simp [hst]

theorem aGrow_put {k bytes : Nat} {xs ys : List AV} {v : AV} {s0 : St} (hg : aGrow k bytes xs ys s0 = some (v, s')) : v = .vec k (xs ++ ys) (.tok s0.c) ∧ s' = s0.new .tok ∧ roomy (xs.length + ys.length) bytes = true := by
  unfold aGrow at hg
  split at hg
  · injection hg with hg; injection hg with e1 e2; exact ⟨e1.symm, e2.symm, ‹_›⟩
  · cases hg

/-- A row's own spare cells are written: the token passes on. -/
theorem does_retok {k tk cap : Nat} {xs ys : List AV} {A : Addr} {cs us : List Value} (h : Sim base ρ X s w) (ht : hget s.h tk = some .tok)
    (hcs : RelC w ρ (UX ρ s.h X) s.c k xs cs) (hrow : Row w (UX ρ s.h X) A cs) (hcap : CapOk w ρ s.c (.tok tk) A (esz k) xs.length cap)
    (hus : RelC w ρ (UX ρ s.h X) s.c k ys us) (hle : xs.length + ys.length ≤ cap) :
    ∃ w', (storeCells (A.add (xs.length * esz k)) us).run P w = .ok () w' ∧
      Post base ρ X s w (.vec k (xs ++ ys) (.tok s.c)) ((s.del tk).new .tok) (.slice (some A) (xs.length + ys.length) cap) w' := by
  obtain ⟨g1, g2, g3, g4, g5⟩ := hcap
  obtain ⟨C, e, fz, h1, h2, h3⟩ := h.obj tk _ ht
  obtain ⟨b, off, sp⟩ := A
  simp only at g2 g3 g4 g5
  subst g3; subst g2
  have hul := hus.length
  have hcl := hcs.length
  have hfit : off + xs.length * esz k + us.length ≤ C.size := by
    rcases Nat.eq_zero_or_pos ((xs.length + ys.length) * esz k) with h0 | h0
    · rw [Nat.add_mul] at h0; omega
    · have hlt : (xs.length + ys.length) * esz k - 1 < cap * esz k := by
        have := Nat.mul_le_mul_right (esz k) hle
        omega
      have := g5 _ hlt
      rw [cell_at h1] at this
      simp at this
      rw [Nat.add_mul] at this h0
      omega
  have hrun := run_storeCells_ P (ρ tk).1 (off + xs.length * esz k) e fz us 0 C w h1 h2 (by omega) hus.one
  simp only [Nat.add_zero] at hrun
  rw [add_lit]
  refine ⟨_, hrun, ?_⟩
  have hsz : ((C.toList.take (off + xs.length * esz k) ++ us ++ C.toList.drop (off + xs.length * esz k + us.length)).toArray).size = C.size := by simp; omega
  obtain ⟨D, hD⟩ : ∃ D, D = (C.toList.take (off + xs.length * esz k) ++ us ++ C.toList.drop (off + xs.length * esz k + us.length)).toArray := ⟨_, rfl⟩
  rw [← hD] at hsz ⊢
  have hlow : ∀ j, j < off + xs.length * esz k → D[j]? = C[j]? := fun j hj => by
    rw [hD]
    simp only [List.getElem?_toArray, List.append_assoc]
    rw [List.getElem?_append_left (by simp; omega), List.getElem?_take, if_pos hj]
    simp
  have hmid : ∀ j u, us[j]? = some u → D[off + xs.length * esz k + j]? = some u := fun j u hj => by
    have hjl := (List.getElem?_eq_some_iff.1 hj).1
    rw [hD]
    simp only [List.getElem?_toArray, List.append_assoc]
    rw [List.getElem?_append_right (by simp; omega), List.getElem?_append_left (by simp; omega)]
    simpa [show min (off + xs.length * esz k) C.size = off + xs.length * esz k by omega] using hj
  have hcellg : ∀ j, (w.setRow (ρ tk).1 D).cell? ⟨(ρ tk).1, j, none⟩ = D[j]? := fun j => cell_setRow_same w _ j C D e fz h1
  have hfr : Fr (Umap ρ s.h) w (w.setRow (ρ tk).1 D) := by
    refine ⟨rfl, rfl, rfl, by simp, fun b _ hb => setRow_other w _ b _ (fun e => hb (ρ tk).2 (e ▸ ⟨tk, .tok, ht, rfl, Nat.le_refl _⟩)), fun a u hu hn => ?_, fun a ha => keep_setRow h1 hsz a ha⟩
    by_cases ea : a.block = (ρ tk).1
    · obtain ⟨b', o', sp'⟩ := a
      simp only at ea; subst ea
      cases sp' with
      | some q => simp [World.cell?, h1] at hu
      | none =>
        have hlt : o' < off + xs.length * esz k := by
          rw [g4]
          exact Nat.lt_of_not_le (fun hle' => hn ⟨tk, .tok, ht, rfl, hle'⟩)
        rw [hcellg, hlow o' hlt, ← cell_at h1]; exact hu
    · rw [cell_setRow_other w _ D a ea]; exact hu
  have hg : ∀ n o, hget ((s.del tk).new .tok).h n = some o → (n = s.c ∧ o = .tok) ∨ (n ≠ s.c ∧ n ≠ tk ∧ hget s.h n = some o) := by
    intro n o hn
    simp only [St.new, St.del, hget] at hn
    split at hn
    · injection hn with e; exact .inl ⟨‹_›, e.symm⟩
    · obtain ⟨h5, h6⟩ := hget_hdel hn; exact .inr ⟨‹_›, h5, h6⟩
  have hρ : ∀ n, n < s.c → Pl.new ρ s.c ((ρ tk).1, off + (xs.length + ys.length) * esz k) n = ρ n := fun n hn => Pl.new_old hn
  have hge : (ρ tk).2 ≤ off + (xs.length + ys.length) * esz k := by rw [← g4, Nat.add_mul]; omega
  have hU : ∀ b' j, b' < w.heap.size → Umap (Pl.new ρ s.c ((ρ tk).1, off + (xs.length + ys.length) * esz k)) ((s.del tk).new .tok).h b' j → Umap ρ s.h b' j := by
    rintro b' j _ ⟨n, o, hn, hnb, hj⟩
    rcases hg n o hn with ⟨rfl, rfl⟩ | ⟨_, hne, hn'⟩
    · rw [Pl.new_same] at hnb hj
      exact ⟨tk, .tok, ht, hnb, Nat.le_trans hge hj⟩
    · rw [hρ n (h.lt n o hn')] at hnb hj
      exact ⟨n, o, hn', hnb, hj⟩
  have m : Mono w ρ (UX ρ s.h X) s.c (w.setRow (ρ tk).1 D) (Pl.new ρ s.c ((ρ tk).1, off + (xs.length + ys.length) * esz k)) (UX (Pl.new ρ s.c ((ρ tk).1, off + (xs.length + ys.length) * esz k)) ((s.del tk).new .tok).h X) (s.c + 1) :=
    .step (s' := (s.del tk).new .tok) h.old hfr hρ (Nat.le_succ _) hU
  refine ⟨_, hρ, Nat.le_succ _, ?_, ?_, hfr, hU⟩
  · refine h.step (s' := (s.del tk).new .tok) hfr hρ (Nat.le_succ _) (fun n o hn => ?_) (fun n o hn => ?_) hU (fun n m' o1 o2 hn hm' hne => ?_) (fun n o hn => ?_)
    · show n < s.c + 1
      rcases hg n o hn with ⟨rfl, _⟩ | ⟨_, _, hn'⟩
      · omega
      · have := h.lt n o hn'; omega
    · rcases hg n o hn with ⟨rfl, rfl⟩ | ⟨_, hne, hn'⟩
      · right
        rw [Pl.new_same]
        refine ⟨D, e, fz, setRow_heap w _ C D e fz h1, by intro j hj; rw [hsz] at hj; exact h2 j hj, ?_⟩
        rw [hsz, Nat.add_mul]; omega
      · exact .inl ⟨h.lt n o hn', hn', setRow_other w _ _ D (h.inj n tk o .tok hn' ht hne)⟩
    · rcases hg n o1 hn with ⟨rfl, _⟩ | ⟨_, hn1, hn'⟩ <;> rcases hg m' o2 hm' with ⟨rfl, _⟩ | ⟨_, hm1, hm''⟩
      · exact absurd rfl hne
      · rw [Pl.new_same, hρ m' (h.lt m' o2 hm'')]
        exact fun e => h.inj m' tk o2 .tok hm'' ht hm1 e.symm
      · rw [Pl.new_same, hρ n (h.lt n o1 hn')]
        exact h.inj n tk o1 .tok hn' ht hn1
      · rw [hρ n (h.lt n o1 hn'), hρ m' (h.lt m' o2 hm'')]
        exact h.inj n m' o1 o2 hn' hm'' hne
    · rcases hg n o hn with ⟨rfl, _⟩ | ⟨_, _, hn'⟩
      · rw [Pl.new_same]; exact h.base tk _ ht
      · rw [hρ n (h.lt n o hn')]; exact h.base n o hn'
  · simp only [Rel]
    have hs1 : ((s.del tk).new .tok).c = s.c + 1 := rfl
    rw [hs1]
    refine ⟨⟨(ρ tk).1, off, none⟩, cap, cs ++ us, by simp, by simpa using hle, (RelC.mono m k _ _ hcs).append (RelC.mono m k _ _ hus), ?_, ?_⟩
    · intro j u hj
      by_cases hjl : j < cs.length
      · rw [List.getElem?_append_left hjl] at hj
        exact (Row.mono hrow m) j u hj
      · rw [List.getElem?_append_right (by omega)] at hj
        rw [add_lit, hcellg]
        refine ⟨?_, ?_⟩
        · have := hmid _ u hj
          rwa [show off + xs.length * esz k + (j - cs.length) = off + j by omega] at this
        · have hjl2 := (List.getElem?_eq_some_iff.1 hj).1
          rintro (⟨n, o, hn, hnb, hj'⟩ | hx)
          · rcases hg n o hn with ⟨rfl, rfl⟩ | ⟨_, hne, hn'⟩
            · rw [Pl.new_same] at hj'
              simp only at hj'
              rw [Nat.add_mul] at hj'
              omega
            · rw [hρ n (h.lt n o hn')] at hnb
              exact h.inj n tk o .tok hn' ht hne hnb
          · exact h.apart tk _ ht _ hx
    · simp only [CapOk]
      refine ⟨by omega, by rw [Pl.new_same], trivial, by rw [Pl.new_same]; simp, fun j hj => ?_⟩
      exact m.keep _ (g5 j hj)
end
end Go.Ai
