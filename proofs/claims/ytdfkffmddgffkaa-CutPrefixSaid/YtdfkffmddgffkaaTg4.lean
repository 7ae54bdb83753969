/- Steps of a typed run: literals, append, calls, conversions, the end. -/
import Derived.Test.YtdfkffmddgffkaaTg3
set_option linter.unusedVariables false
set_option linter.unusedSimpArgs false
open Go.Ai.Enc (enc is)
open Go.Ai.Res (res ris)
open Go.Ai.Args (args)
namespace Go.Ai
/-- What is asked of a type of elements. -/
structure EF (P : Program) (e : TypeId) (k bytes : Nat) : Prop where
  sh : shapeT P e = some k
  info : ∃ i, P.info? e = some i ∧ i.size = esz k ∧ i.bytes = bytes
  zero : ∃ z, zeroT P e = some z ∧ z.cells.length = esz k ∧ z.cells.all AV.one = true
def efB (P : Program) (e : TypeId) (k bytes : Nat) : Bool :=
  decide (shapeT P e = some k) && (match P.info? e with | some i => decide (i.size = esz k) && decide (i.bytes = bytes) | none => false) && (match zeroT P e with | some z => decide (z.cells.length = esz k) && z.cells.all AV.one | none => false)
theorem EF_of {P : Program} {e : TypeId} {k bytes : Nat} (h : efB P e k bytes = true) : EF P e k bytes := by
  unfold efB at h
  simp only [Bool.and_eq_true, decide_eq_true_eq] at h
  obtain ⟨⟨h1, h2⟩, h3⟩ := h
  refine ⟨h1, ?_, ?_⟩
  · cases hi : P.info? e with
    | none => rw [hi] at h2; cases h2
    | some i => rw [hi] at h2; simp only [Bool.and_eq_true, decide_eq_true_eq] at h2; exact ⟨i, rfl, h2⟩
  · cases hz : zeroT P e with
    | none => rw [hz] at h3; cases h3
    | some z => rw [hz] at h3; simp only [Bool.and_eq_true, decide_eq_true_eq] at h3; exact ⟨z, rfl, h3⟩

theorem isR.ok {T : Type} [Enc T] {xs : List AV} {l : List T} (h : isR xs l) : ∀ x ∈ xs, okElem (Enc.k T) x := by
  induction xs generalizing l with
  | nil => intro x hx; cases hx
  | cons y ys ih => cases l with
    | nil => exact h.elim
    | cons a l =>
      intro x hx
      rcases List.mem_cons.1 hx with rfl | hx
      · exact Enc.el h.1
      · exact ih h.2 x hx
theorem fill_all (z : Nat) : ∀ (vs done zs : List AV) (i0 : Nat), (∀ v ∈ vs, v.cells.length = z) → done.length = i0 * z → zs.length = vs.length * z → aFill (fun i => some (i * z, z)) (done ++ zs) ((vs.zipIdx i0).map fun p => (p.2, p.1)) = some (done ++ vs.flatMap AV.cells)
  | [], done, zs, i0, _, _, h => by
    have : zs = [] := List.eq_nil_of_length_eq_zero (by simpa using h)
    subst this; simp [aFill]
  | v :: vs, done, zs, i0, hv, hd, hz => by
    have h1 := hv v (by simp)
    have hz' : zs.length = z + vs.length * z := by rw [hz, List.length_cons, Nat.succ_mul, Nat.add_comm]
    simp only [List.zipIdx_cons, List.map_cons, aFill, Option.bind_eq_bind, Option.bind_some]
    rw [if_neg (by simp [h1]; omega)]
    have e : splice (done ++ zs) (i0 * z) v.cells = (done ++ v.cells) ++ zs.drop z := by
      unfold splice
      rw [← hd, List.take_left, h1]
      congr 1
      rw [show done.length + z = done.length + z from rfl, List.drop_append, List.drop_of_length_le (by omega)]
      simp
    rw [e, fill_all z vs (done ++ v.cells) (zs.drop z) (i0 + 1) (fun w hw => hv w (by simp [hw])) (by simp [hd, h1, Nat.succ_mul]) (by rw [List.length_drop, hz']; omega)]
    simp
theorem chunk_flat {k : Nat} : ∀ (vs : List AV), (∀ v ∈ vs, okElem k v) → chunk k (vs.flatMap AV.cells) vs.length = vs
  | [], _ => rfl
  | v :: vs, h => by
    obtain ⟨h1, h2, h3, h4⟩ := h v (by simp)
    simp only [List.flatMap_cons, List.length_cons, chunk]
    have e : (v.cells ++ vs.flatMap AV.cells).drop (esz k) = vs.flatMap AV.cells := by rw [← h1, List.drop_left]
    rw [e, chunk_flat vs (fun w hw => h w (by simp [hw]))]
    congr 1
    by_cases hk : k = 0
    · rw [if_pos hk]
      have := h3 hk
      cases v <;> first | rfl | simp [AV.one] at this
    · rw [if_neg hk]
      have h5 := h4 hk
      have h6 : esz k = k := by simp [esz, hk]
      rw [← h6, ← h1, List.take_left]
      cases v <;> first | rfl | (simp [AV.one] at h5; done) | skip
      rename_i ts
      simp only [AV.cells, List.length_cons, List.length_nil] at h1
      have := h2 (.tup ts) (by simp [AV.cells])
      simp [AV.one] at this
theorem flat_len {z : Nat} : ∀ (vs : List AV), (∀ v ∈ vs, v.cells.length = z) → (vs.flatMap AV.cells).length = vs.length * z
  | [], _ => by simp
  | v :: vs, h => by simp only [List.flatMap_cons, List.length_append, List.length_cons, h v (by simp), flat_len vs (fun w hw => h w (by simp [hw])), Nat.succ_mul]; omega
theorem build_is {P : Program} {T : Type} [Enc T] {t e : TypeId} {by_ : Nat} {vs : List AV} {l : List T} (hu : P.underlying t = some (.slice e)) (he : EF P e (Enc.k T) by_) (h : isR vs l) (hn : vs.length * esz (Enc.k T) ≤ 16777216) :
    aBuildSlice P t vs.length (vs.zipIdx.map fun p => (p.2, p.1)) = some (.vec (Enc.k T) vs .tight) := by
  obtain ⟨i, hi, hi1, _⟩ := he.info
  obtain ⟨z, hz, hz1, hz2⟩ := he.zero
  have hok := h.ok
  have hfill := fill_all (esz (Enc.k T)) vs [] ((List.replicate vs.length z.cells).flatten) 0 (fun v hv => (hok v hv).1) (by simp) (by simp [hz1])
  simp only [List.nil_append] at hfill
  simp only [aBuildSlice, hu, he.sh, hi, hz, Option.bind_eq_bind, Option.bind_some]
  rw [if_neg (by simp [hi1]; omega), if_neg (by simp [hz1])]
  rw [hfill, Option.bind_some, if_pos, chunk_flat vs hok]
  refine ⟨?_, flat_len vs (fun v hv => (hok v hv).1)⟩
  rw [List.all_eq_true]
  intro y hy
  obtain ⟨v, hv, hy⟩ := List.mem_flatMap.1 hy
  exact (hok v hv).2.1 y hy

section
variable {P : Program} {prims : Prims} {n : Nat} {b : Bool} {K : Fm → St → Prop} {Q : AExit → Fm → St → Prop} {φ : Fm} {s : St} {ops : Array Oper} {l : List Oper} {d : Tmp} {ty t t' e : TypeId} {pos : String} {af : Array Edge} {gd : Option (Nat × Bool)} {x y z : Operand} {u v w : AV}
variable {T : Type} [Enc T] {xs : List T} {m : List T}
/-- A literal of a row. -/
theorem TO_bs {by_ : Nat} {parts : Array (Nat × Operand)} {ps : List (Nat × AV)} {len : Nat} (vs : List AV) (xs : List T) (hu : P.underlying t = some (.slice e)) (he : EF P e (Enc.k T) by_) (hp : (parts.toList.mapM fun (i, x) => (fEval n φ x).map (i, ·)) = some ps) (hps : ps = vs.zipIdx.map fun p => (p.2, p.1)) (hl : len = vs.length) (hn : vs.length * esz (Enc.k T) ≤ 16777216)
    (h : isR vs xs) (k : ∀ z, is z xs → canOwn z = true → noTok z = true → TO P prims n b ops l K (upd φ d z) s) : TO P prims n b ops (⟨some d, .buildSlice t len parts, ty, pos, af, none⟩ :: l) K φ s := by
  refine TO_op rfl rfl (fun _ => ?_) (k (.vec (Enc.k T) vs .tight) (.inr ⟨_, _, rfl, h⟩) rfl rfl)
  have hp' : (parts.toList.mapM fun (i, x) => (aEval (frm n φ) x).map (i, ·)) = some ps := by
    clear hps
    generalize parts.toList = q at hp
    induction q generalizing ps with
    | nil => exact hp
    | cons a q ih =>
      simp only [List.mapM_cons, Option.bind_eq_bind, Option.bind_eq_some_iff, Option.map_eq_some_iff, Option.pure_def] at hp ⊢
      obtain ⟨b, ⟨w, hw, rfl⟩, bs, hbs, h⟩ := hp
      exact ⟨_, ⟨w, fEval_eq hw, rfl⟩, bs, ih hbs, h⟩
  subst hps; subst hl
  simp only [aOp, Option.bind_eq_bind] at hp' ⊢
  rw [hp', Option.bind_some, build_is hu he h hn]
  rfl
theorem source_is {bv : AV} {m : List T} (h : is bv m) : ∃ ys, source (Enc.k T) bv s = some ys ∧ isR ys m := by
  rcases h with ⟨rfl | ⟨z, rfl⟩, rfl⟩ | ⟨ys, c, rfl, h⟩
  · exact ⟨[], rfl, trivial⟩
  · exact ⟨[], rfl, trivial⟩
  · exact ⟨ys, by simp [source, elems], h⟩
/-- Both rows in one. -/
def app {α : Type} (z : Nat) (l m : List α) : Option (List α) := if roomy (l.length + m.length) z then some (l ++ m) else none
theorem app_some {α : Type} {z : Nat} {l m r : List α} (h : app z l m = some r) : roomy (l.length + m.length) z = true ∧ r = l ++ m := by
  unfold app at h
  split at h
  · rename_i h0; injection h with h; exact ⟨h0, h.symm⟩
  · cases h
theorem append_own {by_ : Nat} {a bv : AV} {xs m r : List T} {ys : List AV} {es : List En} {ts : Array TypeId} (hu : P.underlying t = some (.slice e)) (hu' : ∃ q, P.underlying t' = some q ∧ ∀ k, q ≠ .int k) (h0 : ts[0]? = some t) (h1 : ts[1]? = some t') (he : EF P e (Enc.k T) by_)
    (ha : is a xs) (hc : canOwn a = true) (hs : Hp s (.own a :: es)) (hsrc : source (Enc.k T) bv s = some ys) (hys : isR ys m) (hr : app by_ xs m = some r) :
    ∃ y s', aAppend P ts a bv s = some (y, s') ∧ is y r ∧ canOwn y = true ∧ Hp s' (.own y :: es) := by
  obtain ⟨hroom, rfl⟩ := app_some hr
  obtain ⟨i, hi, hi1, hi2⟩ := he.info
  obtain ⟨z, hz, hz1, hz2⟩ := he.zero
  obtain ⟨q, hq, hqn⟩ := hu'
  have hyl := hys.len
  have hgrow : ∀ (zs : List AV) (s0 : St), isR zs xs → Hp s0 es → ∃ y s', aGrow (Enc.k T) i.bytes zs ys s0 = some (y, s') ∧ is y (xs ++ m) ∧ canOwn y = true ∧ Hp s' (.own y :: es) := by
    intro zs s0 hzs hs0
    refine ⟨_, _, by unfold aGrow; rw [if_pos (by rw [hzs.len, hyl, hi2]; exact hroom)], .inr ⟨_, _, rfl, hzs.append hys⟩, rfl, hs0.new _ _ rfl⟩
  have hpre : ∀ R, (match a with
      | .nils => if ys.isEmpty then some (.nils, s) else aGrow (Enc.k T) i.bytes [] ys s
      | .emp z => if ys.isEmpty then some (.emp z, s) else if z then aGrow (Enc.k T) i.bytes [] ys s else none
      | .vec k' zs c =>
        if k' ≠ Enc.k T then none else
        if ys.isEmpty then some (.vec (Enc.k T) zs c, s) else
        match c with
        | .tight => aGrow (Enc.k T) i.bytes zs ys s
        | .tok t => match hget s.h t with
          | some .tok => aGrow (Enc.k T) i.bytes zs ys (s.del t)
          | _ => none
        | .unk => none
      | _ => none) = some R → aAppend P ts a bv s = some R := by
    intro R hR
    unfold aAppend
    simp only [h0, h1, hu, hq, he.sh, hi, hz, hsrc, Option.bind_eq_bind, Option.bind_some]
    cases q
    case int k => exact absurd rfl (hqn k)
    all_goals
      simp only
      rw [if_neg (by simp [hz1])]
      rcases ha with ⟨rfl | ⟨z, rfl⟩, rfl⟩ | ⟨zs, c, rfl, ha⟩ <;> exact hR
  have hemp : ys.isEmpty = true → m = [] ∧ ys = [] := fun h => by
    have : ys = [] := List.isEmpty_iff.1 h
    subst this
    exact ⟨List.eq_nil_of_length_eq_zero (by simpa using hyl.symm), rfl⟩
  rcases ha with ⟨rfl | ⟨z, rfl⟩, rfl⟩ | ⟨zs, c, rfl, ha⟩
  · by_cases h : ys.isEmpty = true
    · obtain ⟨rfl, rfl⟩ := hemp h
      exact ⟨_, _, hpre _ rfl, isL.nil, rfl, hs⟩
    · obtain ⟨y, s', g1, g2⟩ := hgrow [] s trivial hs.tail
      exact ⟨y, s', hpre _ (by simp only [if_neg h, g1]), g2⟩
  · cases z with
    | false => cases hc
    | true =>
      by_cases h : ys.isEmpty = true
      · obtain ⟨rfl, rfl⟩ := hemp h
        exact ⟨_, _, hpre _ rfl, .inl ⟨.inr ⟨_, rfl⟩, rfl⟩, rfl, hs⟩
      · obtain ⟨y, s', g1, g2⟩ := hgrow [] s trivial hs.tail
        exact ⟨y, s', hpre _ (by simp only [if_neg h, if_true, g1]), g2⟩
  · by_cases h : ys.isEmpty = true
    · obtain ⟨rfl, rfl⟩ := hemp h
      exact ⟨_, _, hpre _ (by simp only [ne_eq, not_true_eq_false, if_false, List.isEmpty_nil, if_true]), by rw [List.append_nil]; exact .inr ⟨_, _, rfl, ha⟩, hc, hs⟩
    · cases c with
      | unk => cases hc
      | tight =>
        obtain ⟨y, s', g1, g2⟩ := hgrow zs s ha hs.tail
        exact ⟨y, s', hpre _ (by simp only [ne_eq, not_true_eq_false, if_false, if_neg h, g1]), g2⟩
      | tok tk =>
        obtain ⟨y, s', g1, g2⟩ := hgrow zs (s.del tk) ha (hs.del rfl)
        have hg : hget s.h tk = some .tok := hs.get rfl
        exact ⟨y, s', hpre _ (by simp only [ne_eq, not_true_eq_false, if_false, if_neg h, hg, g1]), g2⟩
theorem TO_ap {by_ : Nat} {a bv : AV} {xs m r : List T} (es1 : List En) {es2 : List En} {ts : Array TypeId} (hu : P.underlying t = some (.slice e)) (hu' : P.underlying t' = some (.slice e)) (h0 : ts[0]? = some t) (h1 : ts[1]? = some t') (he : EF P e (Enc.k T) by_) (hx : fEval n φ x = some a) (hy : fEval n φ y = some bv)
    (ha : is a xs) (hc : canOwn a = true) (hs : Hp s (es1 ++ .own a :: es2)) (hb : is bv m) (hr : app by_ xs m = some r)
    (k : ∀ z s', is z r → canOwn z = true → Hp s' (es1 ++ .own z :: es2) → TO P prims n b ops l K (upd φ d z) s') : TO P prims n b ops (⟨some d, .call ⟨.builtin .append, #[x, y], ts⟩, ty, pos, af, none⟩ :: l) K φ s := by
  obtain ⟨ys, hsrc, hys⟩ := source_is (s := s) hb
  obtain ⟨z, s', g1, g2, g3, g4⟩ := append_own (t' := t') hu ⟨_, hu', fun k h => by cases h⟩ h0 h1 he ha hc (hs.front es1) hsrc hys hr
  exact TO_op rfl rfl (fun _ => op_append (fEval_eq hx) (fEval_eq hy) g1) (k z s' g2 g3 (g4.back es1))

/-! ### Calls of what is known -/
/-- The arguments, as they stand. -/
inductive Vs : List AV → List AV → Prop
  | nil : Vs [] []
  | cons {T : Type} [Enc T] {x : AV} {a : T} {xs ys : List AV} : is x a → Vs xs ys → Vs (x :: xs) (enc a :: ys)
theorem Vs.view {xs ys : List AV} (h : Vs xs ys) : xs.mapM (view s) = some (ys.map fun y => (y, false)) := by
  induction h with
  | nil => rfl
  | cons h _ ih => simp only [List.mapM_cons, view_is h, ih, Option.bind_eq_bind, Option.bind_some, Option.pure_def, List.map_cons]
theorem callPrim_fn {A R : Type} [Args A] [Res R] {f : A → Option R} {a : A} {r : R} {xs : List AV} (h : Vs xs (args a)) (hr : f a = some r) : callPrim (fun _ => Fn f) xs s = some (res r, s) := by
  have e : (((args a).map fun v => ((v, false) : AV × Bool)).map (·.1)) = args a := by rw [List.map_map]; exact List.map_id _
  have e2 : ((args a).map fun v => ((v, false) : AV × Bool)).any (·.2) = false := by simp
  simp only [callPrim, h.view, Option.bind_eq_bind, Option.bind_some, e, Fn_at hr, e2, Bool.false_and, Bool.false_eq_true, if_false]
def fEvals (n : Nat) (φ : Fm) (xs : List Operand) : Option (List AV) := xs.mapM (fEval n φ)
theorem fEvals_eq : ∀ {xs : List Operand} {vs : List AV}, fEvals n φ xs = some vs → aEvals (frm n φ) xs = some vs
  | [], _, h => h
  | x :: xs, vs, h => by
    simp only [fEvals, aEvals, List.mapM_cons, Option.bind_eq_bind, Option.bind_eq_some_iff, Option.pure_def] at h ⊢
    obtain ⟨v, hv, us, hus, h⟩ := h
    exact ⟨v, fEval_eq hv, us, fEvals_eq hus, h⟩
theorem TO_fn {g : FuncId} {fn : Func} {as : Array Operand} {ts : Array TypeId} {A R : Type} [Args A] [Res R] {f : A → Option R} {a : A} {r : R} {vs : List AV} (hp : prims g = some fun _ => Fn f) (hf : P.funcs[g]? = some fn) (hn : enters fn = true)
    (ha : fEvals n φ as.toList = some vs) (hv : Vs vs (args a)) (hr : f a = some r) (k : TO P prims n b ops l K (upd φ d (res r)) s) : TO P prims n b ops (⟨some d, .call ⟨.value (.func g), as, ts⟩, ty, pos, af, none⟩ :: l) K φ s :=
  TO_prim hp hf hn (fEvals_eq ha) (callPrim_fn hv hr) k
/-- A known function whose contract was laid otherwise. -/
theorem TO_pr {g : FuncId} {fn : Func} {as : Array Operand} {ts : Array TypeId} {F : Glob → List AV → Option AV} {vs us : List AV} {r : AV} (hp : prims g = some F) (hf : P.funcs[g]? = some fn) (hn : enters fn = true)
    (ha : fEvals n φ as.toList = some vs) (hv : Vs vs us) (hr : F s.g us = some r) (k : TO P prims n b ops l K (upd φ d r) s) : TO P prims n b ops (⟨some d, .call ⟨.value (.func g), as, ts⟩, ty, pos, af, none⟩ :: l) K φ s := by
  refine TO_prim hp hf hn (fEvals_eq ha) ?_ k
  have e : ((us.map fun v => ((v, false) : AV × Bool)).map (·.1)) = us := by rw [List.map_map]; exact List.map_id _
  have e2 : (us.map fun v => ((v, false) : AV × Bool)).any (·.2) = false := by simp
  simp only [callPrim, hv.view, Option.bind_eq_bind, Option.bind_some, e, hr, e2, Bool.false_and, Bool.false_eq_true, if_false]
theorem TO_ex {i : Nat} {vs : List AV} (hx : fEval n φ x = some (.tup vs)) (hv : vs[i]? = some v) (k : TO P prims n b ops l K (upd φ d v) s) : TO P prims n b ops (⟨some d, .extract x i, ty, pos, af, none⟩ :: l) K φ s :=
  TO_op rfl rfl (fun _ => by simp only [aOp, fEval_eq hx, Option.bind_eq_bind, Option.bind_some, hv, Option.map_some]) k

/-! ### Numbers -/
theorem TO_cv {src dst : TypeId} {d0 : TypeDesc} {k1 k2 : IntKind} {i : Int} (h1 : P.underlying src = some d0) (h2 : P.underlying dst = some (.int k2)) (hx : fEval n φ x = some (.int k1 i)) (k : TO P prims n b ops l K (upd φ d (.int k2 (k2.wrap i))) s) : TO P prims n b ops (⟨some d, .convert src dst x, ty, pos, af, none⟩ :: l) K φ s :=
  TO_op rfl rfl (fun _ => by simp only [aOp, fEval_eq hx, Option.bind_eq_bind, Option.bind_some, aConvert, h1, h2]) k
theorem TO_cvSB {src dst : TypeId} {st : Str} (h1 : P.underlying src = some (.slice e)) (h1' : P.underlying e = some (.int .u8)) (h2 : P.underlying dst = some .string) (hx : fEval n φ x = some u) (h : is u (show List UInt8 from st)) (k : TO P prims n b ops l K (upd φ d (enc st)) s) : TO P prims n b ops (⟨some d, .convert src dst x, ty, pos, af, none⟩ :: l) K φ s := by
  have hb : ∀ (l : List UInt8) (ys : List AV), isR ys l → bytesOf ys = some l := by
    intro l
    induction l with
    | nil => intro ys hy; cases ys with
      | nil => rfl
      | cons => exact hy.elim
    | cons b l ih => intro ys hy; cases ys with
      | nil => exact hy.elim
      | cons y ys =>
        obtain ⟨hy1, hy2⟩ := hy
        have hy1 : y = .int .u8 (b.toNat : Int) := hy1
        subst hy1
        simp only [bytesOf, ih ys hy2, Option.map_some]
        simp
  refine TO_op rfl rfl (fun _ => ?_) k
  rcases h with ⟨rfl | ⟨z, rfl⟩, h0⟩ | ⟨ys, c, rfl, h⟩
  · have h0 : st = [] := h0
    subst h0
    simp only [aOp, fEval_eq hx, Option.bind_eq_bind, Option.bind_some, aConvert, h1, h2, h1']; rfl
  · have h0 : st = [] := h0
    subst h0
    simp only [aOp, fEval_eq hx, Option.bind_eq_bind, Option.bind_some, aConvert, h1, h2, h1']; rfl
  · have hk : Enc.k UInt8 = 0 := rfl
    simp only [aOp, fEval_eq hx, Option.bind_eq_bind, Option.bind_some, aConvert, h1, h2, h1', elems, hk, if_true, hb st ys h, Option.map_some]; rfl
def imin (i j : Int) : Int := if j < i then j else i
def imax (i j : Int) : Int := if j > i then j else i
theorem TO_mn {k1 k2 : IntKind} {i j : Int} {ts : Array TypeId} (hx : fEval n φ x = some (.int k1 i)) (hy : fEval n φ y = some (.int k2 j)) (k : TO P prims n b ops l K (upd φ d (.int k1 (imin i j))) s) : TO P prims n b ops (⟨some d, .call ⟨.builtin .min, #[x, y], ts⟩, ty, pos, af, none⟩ :: l) K φ s :=
  TO_op rfl rfl (fun _ => op_min (fEval_eq hx) (fEval_eq hy)) k
theorem TO_mx {k1 k2 : IntKind} {i j : Int} {ts : Array TypeId} (hx : fEval n φ x = some (.int k1 i)) (hy : fEval n φ y = some (.int k2 j)) (k : TO P prims n b ops l K (upd φ d (.int k1 (imax i j))) s) : TO P prims n b ops (⟨some d, .call ⟨.builtin .max, #[x, y], ts⟩, ty, pos, af, none⟩ :: l) K φ s :=
  TO_op rfl rfl (fun _ => op_max (fEval_eq hx) (fEval_eq hy)) k

/-! ### A function's run and its end -/
def Kend (P : Program) (fn : Func) (c0 : Nat) (H : AV → St → Prop) (φ : Fm) (s : St) : Prop := ∃ r, aResults P fn (frm fn.ntmps φ) s = some r ∧ ∃ v s2, freezeTop c0 r s = some (v, s2) ∧ H v s2
theorem KE_fx {fn : Func} {c0 : Nat} {H : AV → St → Prop} {l : List (Nat × AV)} (h : Fx φ l) (J : ∀ ψ, Kend P fn c0 H (ups ψ l) s) : Kend P fn c0 H φ s := Fx.use (T := fun φ => Kend P fn c0 H φ s) J h
/-- A call of a function, on the machine. -/
def MF (P : Program) (prims : Prims) (f : FuncId) (as : List AV) (s : St) (H : AV → St → Prop) : Prop :=
  PrimsOk P prims → ∀ (base : Nat) (ρ : Pl) (X : Reg) (w : World) (vs : List Value), base ≤ w.heap.size → Sim base ρ X s w → RelL w ρ (UX ρ s.h X) s.c as vs →
    Calls P f vs.toArray w fun e w' => ∃ v', e = .returned v' ∧ ∃ v s', H v s' ∧ Post base ρ X s w v s' v' w'
theorem MF.mono {f : FuncId} {as : List AV} {H H' : AV → St → Prop} (h : MF P prims f as s H) (k : ∀ v s, H v s → H' v s) : MF P prims f as s H' :=
  fun hp base ρ X w vs hb hs hr => (h hp base ρ X w vs hb hs hr).mono fun e w' ⟨v', e1, v, s', h1, h2⟩ => ⟨v', e1, v, s', k v s' h1, h2⟩
/-- A run of the interpreter is one of the machine. -/
theorem MF_run {f : FuncId} {as : List AV} {H : AV → St → Prop} (h : WF P prims f as s H) : MF P prims f as s H := by
  intro hp base ρ X w vs hb hs hr
  unfold WF at h
  obtain ⟨v, s', hH, N, hN⟩ := h
  exact ((aCall_sound hp N f as s v s' (hN N (Nat.le_refl _))).2 ρ X w vs hb hs hr).mono fun e w' ⟨v', e1, hpost⟩ => ⟨v', e1, v, s', hH, hpost⟩
theorem TF_run {f : FuncId} {fn : Func} {c : Code} {as : List AV} {H : AV → St → Prop} (lz : List (Nat × AV)) (hf : P.funcs[f]? = some fn) (hb : fn.body = some c)
    (hfr : as ++ List.replicate (fn.ntmps - as.length) .undef = frm fn.ntmps (ups (fun _ => .undef) lz))
    (h : ∀ ψ, TC P prims fn.ntmps c (Kend P fn s.c H) (fun e φ s1 => e = .ret ∧ Kend P fn s.c H φ s1) (ups ψ lz) s) : MF P prims f as s H := by
  intro hp base ρ X w vs hba hs hr
  have hfr' : RelL w ρ (UX ρ s.h X) s.c (frm fn.ntmps (ups (fun _ => .undef) lz)) (vs.toArray ++ Array.replicate (fn.ntmps - vs.toArray.size) undef).toList := by
    rw [← hfr]
    have hl := hr.length
    simp only [Array.toList_append, Array.toList_replicate, List.size_toArray]
    rw [hl]
    exact hr.append (undefs_rel _)
  refine calls_of_wp hf hb (h _ hp base ρ X w _ _ hba hs hfr' rfl fun e φ' s' a' w' he hpf => ?_)
  have key : Kend P fn s.c H φ' s' ∧ (e = .normal ∨ e = .ret) := by
    cases e with
    | normal => exact ⟨he, .inl rfl⟩
    | exit id => cases he.1
    | ret => exact ⟨he.2, .inr rfl⟩
  obtain ⟨⟨r, hres, v, s2, hfz, hH⟩, he'⟩ := key
  obtain ⟨ρ1, g1, g2, g3, g4, g5, g6, g7⟩ := hpf
  obtain ⟨v', k1, k2⟩ := run_results g3 g4 hres
  obtain ⟨f1, f2, f3, f4⟩ := freezeTop_rel g3 k2 hfz
  have fin : bodyPost P fn (fun e w' => ∃ v', e = .returned v' ∧ ∃ v s', H v s' ∧ Post base ρ X s w v s' v' w') .ret a' w' :=
    ⟨g7, v', k1, v', rfl, v, s2, hH, ρ1, g1, by rw [f2]; exact g2, f1, f3, g5, fun b j hb' hj => g6 b j hb' (f4 b j hj)⟩
  rcases he' with rfl | rfl <;> exact fin
theorem mf_calls {g : FuncId} (hp : PrimsOk P prims) {as : List AV} {R : Type} [Res R] {r : R} (h : MF P prims g as s0 fun v _ => ris v r) {w : World} {U : Reg} {vs : List Value} (hU : ∀ b j, U b j → b < w.heap.size) (hr : RelL w ρ0 U 0 as vs) :
    Calls P g vs.toArray w fun e w' => ∃ v', e = .returned v' ∧ Rel w' ρ0 U 0 (res r) v' ∧ RowKit.Below w.heap.size w w' := by
  have hUX : ∀ b j, UX ρ0 s0.h U b j → U b j := by
    rintro b j (⟨n, o, hn, _⟩ | hx)
    · simp [s0, sG, hget] at hn
    · exact hx
  have hr' : RelL w ρ0 (UX ρ0 s0.h U) s0.c as vs := RelL.mono ⟨Nat.le_refl _, fun _ _ => rfl, fun a u hu _ => hu, fun a ha => ha, fun b j _ hj => hUX b j hj⟩ _ _ hr
  refine (h hp w.heap.size ρ0 U w vs (Nat.le_refl _) (simG hU globOk_none) hr').mono fun e w' he => ?_
  obtain ⟨v', rfl, v, s', hv, ρ', g1, g2, g3, g4, g5, g6⟩ := he
  refine ⟨v', rfl, out_rel (fun b j hj => .inr hj) (Res.out hv) g4, ⟨g5.os, g5.tape, g5.output, g5.size, fun k hk => g5.blk k hk ?_⟩⟩
  rintro j ⟨m, o, hm, _⟩
  simp [s0, sG, hget] at hm
/-- A contract, out of what the calls come to. -/
theorem fnC {g : FuncId} (hp : PrimsOk P prims) (he : ∃ fn, P.funcs[g]? = some fn ∧ enters fn = true) {A R : Type} [Args A] [Res R] {f : A → Option R}
    (h : ∀ a r, f a = some r → MF P prims g (args a) s0 fun v _ => ris v r) : PureC P g (fun _ => Fn f) :=
  ⟨he, fun G xs v hv w U vs hU hG hr => by
    obtain ⟨a, r, rfl, h1, rfl⟩ := Fn_some hv
    exact mf_calls hp (h a r h1) hU hr⟩
theorem freeze_pure {c0 : Nat} {v : AV} (h : pureV (stripV v) = true) : freezeTop c0 v s = some (v, s) := by
  have h1 : ∀ x : AV, pureV (stripV x) = true → freezeV c0 s x = some x ∧ frozenNames c0 x = [] := by
    intro x hx
    cases x <;> first | exact ⟨rfl, rfl⟩ | (simp [stripV, pureV] at hx; done)
  have h2 : ∀ xs : List AV, pureL (stripL xs) = true → xs.mapM (freezeV c0 s) = some xs ∧ xs.flatMap (frozenNames c0) = [] := by
    intro xs
    induction xs with
    | nil => intro _; exact ⟨rfl, rfl⟩
    | cons x xs ih =>
      intro hx
      simp only [stripL, pureL, Bool.and_eq_true] at hx
      obtain ⟨g1, g2⟩ := h1 x hx.1
      obtain ⟨g3, g4⟩ := ih hx.2
      exact ⟨by simp only [List.mapM_cons, g1, g3, Option.bind_eq_bind, Option.bind_some, Option.pure_def], by simp only [List.flatMap_cons, g2, g4, List.append_nil]⟩
  unfold freezeTop
  split
  · rename_i vs
    simp only [stripV, pureV] at h
    obtain ⟨g1, g2⟩ := h2 vs h
    simp only [g1, g2, Option.bind_eq_bind, Option.bind_some, List.foldl_nil]
  · rename_i vs
    simp only [stripV, pureV] at h
    obtain ⟨g1, g2⟩ := h2 vs h
    simp only [g1, g2, Option.bind_eq_bind, Option.bind_some, List.foldl_nil]
  · obtain ⟨g1, g2⟩ := h1 v h
    simp only [g1, g2, Option.bind_eq_bind, Option.bind_some, List.foldl_nil]
theorem freeze_is {T : Type} [Enc T] {a : T} {c0 : Nat} {v : AV} (h : is v a) : freezeTop c0 v s = some (v, s) := freeze_pure (by rw [Enc.strip h]; exact Enc.pu a)
theorem pu_is {T : Type} [Enc T] {a : T} {v : AV} (h : is v a) : pureV (stripV v) = true := by rw [Enc.strip h]; exact Enc.pu a
/-- The end: one result. -/
theorem KE1 {fn : Func} {c0 : Nat} {H : AV → St → Prop} {t1 : Nat} {a : T} (hr : fn.results = #[.tmp t1]) (hv : fEval fn.ntmps φ (.tmp t1) = some v) (h : is v a) (k : H v s) : Kend P fn c0 H φ s := by
  have h1 := fEval_eq hv
  simp only [aEval] at h1
  refine ⟨v, by simp only [aResults, hr, aResult, h1, List.mapM_cons, List.mapM_nil, Option.pure_def, Option.bind_eq_bind, Option.bind_some], v, s, freeze_is h, k⟩
theorem KEn {fn : Func} {c0 : Nat} {H : AV → St → Prop} {r : AV} (hr : aResults P fn (frm fn.ntmps φ) s = some r) (hp : pureV (stripV r) = true) (k : H r s) : Kend P fn c0 H φ s := ⟨r, hr, r, s, freeze_pure hp, k⟩
theorem KE2 {A B : Type} [Enc A] [Enc B] {fn : Func} {c0 : Nat} {H : AV → St → Prop} {t1 t2 : Nat} {v1 v2 : AV} {a1 : A} {a2 : B} (hr : fn.results = #[.tmp t1, .tmp t2]) (g1 : fEval fn.ntmps φ (.tmp t1) = some v1) (g2 : fEval fn.ntmps φ (.tmp t2) = some v2) (h1 : is v1 a1) (h2 : is v2 a2) (k : H (.tup [v1, v2]) s) : Kend P fn c0 H φ s := by
  have e1 := fEval_eq g1
  have e2 := fEval_eq g2
  simp only [aEval] at e1 e2
  exact KEn (by simp only [aResults, hr, aResult, e1, e2, List.mapM_cons, List.mapM_nil, Option.pure_def, Option.bind_eq_bind, Option.bind_some]) (by simp only [stripV, stripL, pureV, pureL, pu_is h1, pu_is h2, Bool.and_self]) k
theorem KE3 {A B C : Type} [Enc A] [Enc B] [Enc C] {fn : Func} {c0 : Nat} {H : AV → St → Prop} {t1 t2 t3 : Nat} {v1 v2 v3 : AV} {a1 : A} {a2 : B} {a3 : C} (hr : fn.results = #[.tmp t1, .tmp t2, .tmp t3]) (g1 : fEval fn.ntmps φ (.tmp t1) = some v1) (g2 : fEval fn.ntmps φ (.tmp t2) = some v2) (g3 : fEval fn.ntmps φ (.tmp t3) = some v3) (h1 : is v1 a1) (h2 : is v2 a2) (h3 : is v3 a3) (k : H (.tup [v1, v2, v3]) s) : Kend P fn c0 H φ s := by
  have e1 := fEval_eq g1
  have e2 := fEval_eq g2
  have e3 := fEval_eq g3
  simp only [aEval] at e1 e2 e3
  exact KEn (by simp only [aResults, hr, aResult, e1, e2, e3, List.mapM_cons, List.mapM_nil, Option.pure_def, Option.bind_eq_bind, Option.bind_some]) (by simp only [stripV, stripL, pureV, pureL, pu_is h1, pu_is h2, pu_is h3, Bool.and_self]) k
end
end Go.Ai
