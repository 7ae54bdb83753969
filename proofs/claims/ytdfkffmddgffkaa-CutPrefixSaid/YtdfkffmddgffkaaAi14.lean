/- Calls. -/
import Derived.Test.YtdfkffmddgffkaaAi13
set_option linter.unusedVariables false
set_option linter.unusedSimpArgs false
namespace Go.Ai
section
variable {P : Program} {base : Nat} {ρ ρ' : Pl} {X U U' : Reg} {c c' : Nat} {s s' : St} {w w' : World}

/-! ### Values without names -/
mutual
theorem Rel.pure (hU : ∀ b j, U' b j → U b j) : ∀ (x : AV) (v : Value), pureV x = true → Rel w ρ U c x v → Rel w ρ' U' c' x v
  | .int _ _, _, _, h => h
  | .bool _, _, _, h => h
  | .str _, _, _, h => h
  | .nilp, _, _, h => h
  | .ptr _ _, _, hp, _ => by simp [pureV] at hp
  | .rptr k xs i off, v, hp, h => by
    simp only [pureV] at hp
    simp only [Rel] at h ⊢
    obtain ⟨h1, h2, a, h3, cs, h4, h5⟩ := h
    exact ⟨h1, h2, a, h3, cs, RelC.pure hU k xs cs hp h4, fun j u hj => ⟨(h5 j u hj).1, fun hu => (h5 j u hj).2 (hU _ _ hu)⟩⟩
  | .nils, _, _, h => h
  | .emp _, _, _, h => h
  | .gptr _ _, _, _, h => h
  | .vec k xs cp, v, hp, h => by
    simp only [pureV, Bool.and_eq_true] at hp
    simp only [Rel] at h ⊢
    obtain ⟨a, cap, cs, h1, h2, h3, h4, h5⟩ := h
    refine ⟨a, cap, cs, h1, h2, RelC.pure hU k xs cs hp.2 h3, fun j u hj => ⟨(h4 j u hj).1, fun hu => (h4 j u hj).2 (hU _ _ hu)⟩, ?_⟩
    cases cp with
    | tight => exact h5
    | unk => trivial
    | tok t => simp at hp
  | .hs _ _ _ _ _, _, hp, _ => by simp [pureV] at hp
  | .agg xs, v, hp, h => by
    simp only [pureV] at hp
    simp only [Rel] at h ⊢
    obtain ⟨vs, h1, h2⟩ := h
    exact ⟨vs, h1, RelL.pure hU xs vs hp h2⟩
  | .tup xs, v, hp, h => by
    simp only [pureV] at hp
    simp only [Rel] at h ⊢
    obtain ⟨vs, h1, h2⟩ := h
    exact ⟨vs, h1, RelL.pure hU xs vs hp h2⟩
  | .ifc t x, v, hp, h => by
    simp only [pureV] at hp
    simp only [Rel] at h ⊢
    obtain ⟨u, h1, h2⟩ := h
    exact ⟨u, h1, Rel.pure hU x u hp h2⟩
  | .nifc, _, _, h => h
  | .fn f xs ys, v, hp, h => by
    simp only [pureV, Bool.and_eq_true] at hp
    simp only [Rel] at h ⊢
    obtain ⟨us, vs, h1, h2, h3⟩ := h
    exact ⟨us, vs, h1, RelL.pure hU xs us hp.1 h2, RelL.pure hU ys vs hp.2 h3⟩
  | .nilfn, _, _, h => h
  | .mp _, _, hp, _ => by simp [pureV] at hp
  | .nilmp, _, _, h => h
theorem RelL.pure (hU : ∀ b j, U' b j → U b j) : ∀ (xs : List AV) (vs : List Value), pureL xs = true → RelL w ρ U c xs vs → RelL w ρ' U' c' xs vs
  | [], _, _, h => h
  | x :: xs, vs, hp, h => by
    simp only [pureL, Bool.and_eq_true] at hp
    simp only [RelL] at h ⊢
    obtain ⟨v, us, h1, h2, h3⟩ := h
    exact ⟨v, us, h1, Rel.pure hU x v hp.1 h2, RelL.pure hU xs us hp.2 h3⟩
theorem RelC.pure (hU : ∀ b j, U' b j → U b j) (k : Nat) : ∀ (xs : List AV) (cs : List Value), pureL xs = true → RelC w ρ U c k xs cs → RelC w ρ' U' c' k xs cs
  | [], _, _, h => h
  | x :: xs, cs, hp, h => by
    simp only [pureL, Bool.and_eq_true] at hp
    simp only [RelC] at h ⊢
    obtain ⟨v, us, h1, h2, h3, h4⟩ := h
    exact ⟨v, us, h1, h2, Rel.pure hU x v hp.1 h3, RelC.pure hU k xs us hp.2 h4⟩
end
theorem strip_cells : ∀ x : AV, (stripV x).cells = stripL x.cells ∧ (stripV x).one = x.one := by
  intro x
  cases x
  case vec k xs c => cases xs <;> simp [stripV, AV.cells, AV.one, stripL]
  all_goals simp [stripV, AV.cells, AV.one, stripL]
theorem strip_len : ∀ xs : List AV, (stripL xs).length = xs.length
  | [] => rfl
  | x :: xs => by simp [stripL, strip_len xs]
theorem strip_mem : ∀ {xs : List AV} {y : AV}, y ∈ stripL xs → ∃ x ∈ xs, y = stripV x
  | [], y, h => by simp [stripL] at h
  | x :: xs, y, h => by
    simp only [stripL, List.mem_cons] at h
    rcases h with rfl | h
    · exact ⟨x, by simp, rfl⟩
    · obtain ⟨z, hz, e⟩ := strip_mem h
      exact ⟨z, by simp [hz], e⟩
theorem strip_ok {k : Nat} {x : AV} (h : okElem k x) : okElem k (stripV x) := by
  obtain ⟨h1, h2, h3, h4⟩ := h
  obtain ⟨e1, e2⟩ := strip_cells x
  refine ⟨by rw [e1, strip_len]; exact h1, fun y hy => ?_, fun hk => by rw [e2]; exact h3 hk, fun hk => by rw [e2]; exact h4 hk⟩
  rw [e1] at hy
  obtain ⟨z, hz, rfl⟩ := strip_mem hy
  rw [(strip_cells z).2]; exact h2 z hz
mutual
theorem strip_rel : ∀ (x : AV) (v : Value), Rel w ρ U c x v → Rel w ρ U c (stripV x) v
  | .int _ _, _, h => h
  | .bool _, _, h => h
  | .str _, _, h => h
  | .nilp, _, h => h
  | .ptr _ _, _, h => h
  | .rptr k xs i off, v, h => by
    simp only [stripV, Rel] at h ⊢
    obtain ⟨h1, h2, a, h3, cs, h4, h5⟩ := h
    exact ⟨by rw [strip_len]; exact h1, h2, a, h3, cs, strip_relC k xs cs h4, h5⟩
  | .nils, _, h => by
    simp only [stripV, Rel] at h ⊢
    exact ⟨none, 0, h, fun _ => rfl, fun _ => rfl⟩
  | .emp z, _, h => by
    simp only [stripV, Rel] at h ⊢
    obtain ⟨a, cap, h1, h2, h3⟩ := h
    refine ⟨a, cap, h1, h2, ?_⟩
    intro e; cases e
  | .gptr _ _, _, h => h
  | .vec k [] cp, v, h => by
    simp only [Rel] at h
    obtain ⟨a, cap, cs, h1, h2, h3, h4, h5⟩ := h
    simp only [stripV, List.isEmpty_nil, if_true, Rel]
    refine ⟨some a, cap, h1, ?_, ?_⟩ <;> (intro e; cases e)
  | .vec k (y :: ys) cp, v, h => by
    simp only [Rel] at h
    obtain ⟨a, cap, cs, h1, h2, h3, h4, h5⟩ := h
    simp only [stripV, List.isEmpty_cons, Bool.false_eq_true, if_false, Rel]
    rw [strip_len]
    exact ⟨a, cap, cs, h1, h2, strip_relC k (y :: ys) cs h3, h4, trivial⟩
  | .hs _ _ _ _ _, _, h => h
  | .agg xs, v, h => by
    simp only [stripV, Rel] at h ⊢
    obtain ⟨vs, h1, h2⟩ := h
    exact ⟨vs, h1, strip_relL xs vs h2⟩
  | .tup xs, v, h => by
    simp only [stripV, Rel] at h ⊢
    obtain ⟨vs, h1, h2⟩ := h
    exact ⟨vs, h1, strip_relL xs vs h2⟩
  | .ifc t x, v, h => by
    simp only [stripV, Rel] at h ⊢
    obtain ⟨u, h1, h2⟩ := h
    exact ⟨u, h1, strip_rel x u h2⟩
  | .nifc, _, h => h
  | .fn f xs ys, v, h => by
    simp only [stripV, Rel] at h ⊢
    obtain ⟨us, vs, h1, h2, h3⟩ := h
    exact ⟨us, vs, h1, strip_relL xs us h2, strip_relL ys vs h3⟩
  | .nilfn, _, h => h
  | .mp _, _, h => h
  | .nilmp, _, h => h
theorem strip_relL : ∀ (xs : List AV) (vs : List Value), RelL w ρ U c xs vs → RelL w ρ U c (stripL xs) vs
  | [], _, h => h
  | x :: xs, vs, h => by
    simp only [stripL, RelL] at h ⊢
    obtain ⟨v, us, h1, h2, h3⟩ := h
    exact ⟨v, us, h1, strip_rel x v h2, strip_relL xs us h3⟩
theorem strip_relC (k : Nat) : ∀ (xs : List AV) (cs : List Value), RelC w ρ U c k xs cs → RelC w ρ U c k (stripL xs) cs
  | [], _, h => h
  | x :: xs, cs, h => by
    simp only [stripL, RelC] at h ⊢
    obtain ⟨v, us, h1, h2, h3, h4⟩ := h
    exact ⟨v, us, h1, strip_ok h2, strip_rel x v h3, strip_relC k xs us h4⟩
end
theorem flat_rel {x : AV} {v : Value} (hf : flat x = true) (h : Rel w ρ U c x v) : Rel w' ρ' U' c' x v := by
  cases x <;> simp [flat] at hf <;> exact h
theorem flatL_rel : ∀ {xs : List AV} {vs : List Value}, xs.all flat = true → RelL w ρ U c xs vs → RelL w' ρ' U' c' xs vs
  | [], _, _, h => h
  | x :: xs, vs, hp, h => by
    simp only [List.all_cons, Bool.and_eq_true] at hp
    simp only [RelL] at h ⊢
    obtain ⟨v, us, h1, h2, h3⟩ := h
    exact ⟨v, us, h1, flat_rel hp.1 h2, flatL_rel hp.2 h3⟩
theorem solid_rel {x : AV} {v : Value} (hf : solid x = true) (h : Rel w ρ U c x v) : Rel w' ρ' U' c' x v := by
  unfold solid at hf
  split at hf
  · simp only [Rel] at h ⊢
    obtain ⟨vs, h1, h2⟩ := h
    exact ⟨vs, h1, flatL_rel hf h2⟩
  · simp only [Rel] at h ⊢
    obtain ⟨vs, h1, h2⟩ := h
    exact ⟨vs, h1, flatL_rel hf h2⟩
  · exact flat_rel hf h

def ρ0 : Pl := fun _ => (0, 0)
def noReg : Reg := fun _ _ => False

/-- A contract without names: whatever memory the arguments are read in, the call comes to the value that F tells, and turns nothing that was there. -/
def PureC (P : Program) (f : FuncId) (F : Glob → List AV → Option AV) : Prop :=
  (∃ fn, P.funcs[f]? = some fn ∧ enters fn = true) ∧
  ∀ G args r, F G args = some r → ∀ (w : World) (U : Reg) (vs : List Value), (∀ b j, U b j → b < w.heap.size) → GlobOk w ρ0 U 0 G → RelL w ρ0 U 0 args vs →
    Calls P f vs.toArray w fun e w' => ∃ v', e = .returned v' ∧ Rel w' ρ0 U 0 r v' ∧ RowKit.Below w.heap.size w w'

theorem view_rel {v u : AV} {v' : Value} {b : Bool} (h : Sim base ρ X s w) (hr : Rel w ρ (UX ρ s.h X) s.c v v') (hv : view s v = some (u, b)) (hU : ∀ x y, U x y → b = false ∧ UX ρ s.h X x y) : Rel w ρ0 U 0 u v' := by
  have hsub : ∀ x y, U x y → UX ρ s.h X x y := fun x y hxy => (hU x y hxy).2
  unfold view at hv
  split at hv
  · rename_i k n off len cap
    split at hv
    · rename_i k' xs he
      split at hv
      · rename_i hp
        simp only [Bool.and_eq_true, decide_eq_true_eq] at hp
        injection hv with hv; injection hv with e1 e2; subst e1; subst e2
        obtain ⟨A, cap', cs, e0, g1, g2⟩ := elems_rel h hr he
        have hkk : k' = k := by
          simp only [elems] at he
          split at he
          · split at he
            · injection he with he; injection he with e1 e2; exact e1.symm
            · cases he
          · cases he
        subst hkk
        simp only [Rel] at hr
        obtain ⟨h1, rfl⟩ := hr
        injection e0 with e0 e1 e2
        subst e2
        refine Rel.pure (ρ := ρ) (c := s.c) (U := U) (fun _ _ hu => hu) _ _ hp.1 (strip_rel _ _ ?_)
        simp only [Rel]
        refine ⟨A, cap, cs, by rw [e0, e1], by omega, RelC.mono ⟨Nat.le_refl _, fun _ _ => rfl, fun a u hu _ => hu, fun a ha => ha, fun x y _ hxy => hsub x y hxy⟩ _ _ _ g1, fun j u hj => ⟨g2 j u hj, fun hu => by have := (hU _ _ hu).1; cases this⟩, trivial⟩
      · cases hv
    · cases hv
  · rename_i n off
    split at hv
    · rename_i cs hg
      split at hv
      · rename_i hp
        simp only [Bool.and_eq_true, decide_eq_true_eq] at hp
        injection hv with hv; injection hv with e1 e2; subst e1; subst e2
        simp only [Rel] at hr
        obtain ⟨h1, rfl⟩ := hr
        obtain ⟨C, e, fz, g1, g2, g3, g4⟩ := h.obj n _ hg
        have hk : esz cs.length = cs.length := by unfold esz; rw [if_neg (by omega)]
        simp only [Rel, List.length_cons, List.length_nil]
        refine ⟨by omega, by rw [hk]; exact hp.1, ⟨(ρ n).1, 0, none⟩, ?_, C.toList, ?_, fun j u hj => ⟨?_, fun hu => by have := (hU _ _ hu).1; cases this⟩⟩
        · rw [add_lit]; simp
        · simp only [RelC]
          refine ⟨.agg C, [], by simp [Value.cells], ⟨by rw [hk]; exact strip_len cs, fun y hy => by obtain ⟨z, hz, rfl⟩ := strip_mem (show y ∈ stripL cs from hy); rw [(strip_cells z).2]; exact g4 z hz, fun e => by omega, fun _ => rfl⟩, ?_, rfl⟩
          simp only [Rel]
          exact ⟨C.toList, by simp, RelL.pure hsub _ _ hp.2 (strip_relL _ _ g3)⟩
        · rw [add_lit, Nat.zero_add, cell_at g1]; simpa using hj
      · cases hv
    · cases hv
  · split at hv
    · rename_i hp
      injection hv with hv; injection hv with e1 e2; subst e1; subst e2
      exact Rel.pure hsub _ _ hp (strip_rel _ _ hr)
    · cases hv
theorem views_rel : ∀ {vs : List AV} {us : List (AV × Bool)} {vs' : List Value}, Sim base ρ X s w → RelL w ρ (UX ρ s.h X) s.c vs vs' → vs.mapM (view s) = some us → (∀ x y, U x y → us.any (·.2) = false ∧ UX ρ s.h X x y) → RelL w ρ0 U 0 (us.map (·.1)) vs'
  | [], us, vs', h, hr, hu, hU => by simp at hu; subst hu; simpa [RelL] using hr
  | v :: vs, us, vs', h, hr, hu, hU => by
    simp only [List.mapM_cons, Option.bind_eq_bind, Option.bind_eq_some_iff, Option.pure_def] at hu
    obtain ⟨x, hx, xs, hxs, hu⟩ := hu
    injection hu with hu; subst hu
    simp only [List.map_cons, RelL] at hr ⊢
    obtain ⟨u, us', rfl, h1, h2⟩ := hr
    have hU' : ∀ a b, U a b → (x.2 = false ∧ xs.any (·.2) = false) ∧ UX ρ s.h X a b := fun a b hab => by
      have := hU a b hab
      simpa using this
    exact ⟨u, us', rfl, view_rel (u := x.1) (b := x.2) h h1 hx (fun a b hab => ⟨(hU' a b hab).1.1, (hU' a b hab).2⟩), views_rel h h2 hxs (fun a b hab => ⟨(hU' a b hab).1.2, (hU' a b hab).2⟩)⟩

/-- A call of what a contract tells. -/
theorem prim_calls {f : FuncId} {F : Glob → List AV → Option AV} (hF : PureC P f F) {args : List AV} {v : AV} {vs : List Value} (h : Sim base ρ X s w) (hr : RelL w ρ (UX ρ s.h X) s.c args vs) (hc : callPrim F args s = some (v, s')) :
    Calls P f vs.toArray w fun e w' => ∃ v', e = .returned v' ∧ Post base ρ X s w v s' v' w' := by
  simp only [callPrim, Option.bind_eq_bind, Option.bind_eq_some_iff] at hc
  obtain ⟨us, hus, r, hr', hc⟩ := hc
  split at hc
  · cases hc
  · rename_i hno
    injection hc with hc; injection hc with e1 e2; subst e1; subst e2
    have hold : ∀ b j, UX ρ s.h X b j → b < w.heap.size := by
      rintro b j (⟨n, o, hn, hnb, _⟩ | hx)
      · rw [← hnb]; exact h.blk_lt hn
      · exact h.old b j hx
    cases hany : us.any (·.2) with
    | false =>
      have hv := views_rel (U := UX ρ s.h X) h hr hus (fun x y hxy => ⟨hany, hxy⟩)
      have hG : GlobOk w ρ0 (UX ρ s.h X) 0 s.g := fun g cs hg => by
        obtain ⟨g1, ws, g2, g3⟩ := h.glob g cs hg
        exact ⟨g1, ws, RelL.pure (fun _ _ hj => hj) _ _ g1 g2, g3⟩
      refine (hF.2 _ _ r hr' w (UX ρ s.h X) vs hold hG hv).mono fun e w' he => ?_
      obtain ⟨v', rfl, hr2, hb⟩ := he
      refine ⟨v', rfl, Post.grow h hb.os hb.tape hb.output hb.size (fun b hb' => hb.block b hb') ?_⟩
      exact Rel.mono ⟨Nat.zero_le _, fun n hn => absurd hn (Nat.not_lt_zero _), fun a u hu _ => hu, fun a ha => ha, fun _ _ _ hj => hj⟩ _ _ hr2
    | true =>
      have hs : solid r = true := by simpa [hany] using hno
      have hv := views_rel (U := noReg) h hr hus (fun x y hxy => hxy.elim)
      have hG : GlobOk w ρ0 noReg 0 s.g := fun g cs hg => by
        obtain ⟨g1, ws, g2, g3⟩ := h.glob g cs hg
        exact ⟨g1, ws, RelL.pure (fun _ _ hj => hj.elim) _ _ g1 g2, fun j u hj => ⟨(g3 j u hj).1, fun hj => hj.elim⟩⟩
      refine (hF.2 _ _ r hr' w noReg vs (fun b j hj => hj.elim) hG hv).mono fun e w' he => ?_
      obtain ⟨v', rfl, hr2, hb⟩ := he
      exact ⟨v', rfl, Post.grow h hb.os hb.tape hb.output hb.size (fun b hb' => hb.block b hb') (solid_rel hs hr2)⟩

def PrimsOk (P : Program) (prims : Prims) : Prop := ∀ f F, prims f = some F → PureC P f F

theorem undefs_rel : ∀ n, RelL w ρ U c (List.replicate n AV.undef) (List.replicate n undef)
  | 0 => by simp [RelL]
  | n + 1 => by
    rw [List.replicate_succ, List.replicate_succ]
    simp only [RelL]
    exact ⟨undef, _, rfl, by simp [Rel, RelL, undef], undefs_rel n⟩

/-- EVERY CALL that the interpreter comes through is one of the machine. -/
theorem aCall_ok {prims : Prims} (hp : PrimsOk P prims) (hdraw : ∀ n, CallOk P base (aCall P prims n) → DrawOk P base (aCall P prims n) prims) : ∀ n, CallOk P base (aCall P prims n)
  | 0 => fun f args s v s' h => by simp [aCall] at h
  | n + 1 => by
    intro f args s v s' h
    have ih := aCall_ok hp hdraw n
    simp only [aCall] at h
    split at h
    · cases h
    · rename_i fn hfn
      split at h
      · rename_i hen
        refine ⟨⟨fn, hfn, hen⟩, fun ρ X w vs hb hs hr => ?_⟩
        split at h
        · rename_i F hF
          exact prim_calls (hp f F hF) hs hr h
        · split at h
          · cases h
          · rename_i c hbody
            have hfr : RelL w ρ (UX ρ s.h X) s.c (args ++ List.replicate (fn.ntmps - args.length) .undef) (vs.toArray ++ Array.replicate (fn.ntmps - vs.toArray.size) undef).toList := by
              have hl := hr.length
              simp only [Array.toList_append, Array.toList_replicate, List.size_toArray]
              rw [hl]
              exact hr.append (undefs_rel _)
            have key : ∀ (e : AExit) (fr' : List AV) (s1 : St), aCode P (aCall P prims n) prims n c (args ++ List.replicate (fn.ntmps - args.length) .undef) s = some (e, fr', s1) → (e = .normal ∨ e = .ret) →
                (∃ r, aResults P fn fr' s1 = some r ∧ freezeTop s.c r s1 = some (v, s')) → Calls P f vs.toArray w fun e w' => ∃ v', e = .returned v' ∧ Post base ρ X s w v s' v' w' := by
              rintro e fr' s1 hc he ⟨r, hres, hfz⟩
              refine calls_of_wp hfn hbody ((aCode_wp ih (hdraw n ih) n).1 hb hs hfr rfl hc fun a' w' hpf => ?_)
              obtain ⟨ρ1, g1, g2, g3, g4, g5, g6, g7⟩ := hpf
              obtain ⟨v', h1, h2⟩ := run_results g3 g4 hres
              obtain ⟨k1, k2, k3, k4⟩ := freezeTop_rel g3 h2 hfz
              have fin : bodyPost P fn (fun e w' => ∃ v', e = .returned v' ∧ Post base ρ X s w v s' v' w') .ret a' w' :=
                ⟨g7, v', h1, v', rfl, ρ1, g1, by rw [k2]; exact g2, k1, k3, g5, fun b j hb' hj => g6 b j hb' (k4 b j hj)⟩
              rcases he with rfl | rfl <;> exact fin
            split at h
            · rename_i fr' s1 hc
              simp only [Option.bind_eq_bind, Option.bind_eq_some_iff] at h
              exact key _ _ _ hc (.inl rfl) h
            · rename_i fr' s1 hc
              simp only [Option.bind_eq_bind, Option.bind_eq_some_iff] at h
              exact key _ _ _ hc (.inr rfl) h
            · cases h
      · cases h
end
end Go.Ai
