/- Steps of a typed run. -/
import Derived.Test.YtdfkffmddgffkaaTg2
set_option linter.unusedVariables false
set_option linter.unusedSimpArgs false
open Go.Ai.Enc (enc is)
open Go.Ai.Res (res ris)
open Go.Ai.Args (args)
namespace Go.Ai
/-! ### What is known of a state: objects, and rows that may be appended to -/
inductive En where
  | cells (n : Nat) (cs : List AV)
  | own (x : AV)
  | mp (n : Nat) (es : List (AV × AV))
  | it (n : Nat) (l : List UInt8) (pos : Nat)
def En.ents : En → List (Nat × AO)
  | .cells n cs => [(n, .cells cs)]
  | .own (.vec _ _ (.tok t)) => [(t, .tok)]
  | .own _ => []
  | .mp n es => [(n, .map es)]
  | .it n l p => [(n, .siter l p)]
def entsOf (es : List En) : List (Nat × AO) := es.flatMap En.ents
def Hp (s : St) (es : List En) : Prop := ((entsOf es).map (·.1)).Nodup ∧ ∀ p ∈ entsOf es, p.1 < s.c ∧ hget s.h p.1 = some p.2
theorem Hp.nil {s : St} : Hp s [] := ⟨List.nodup_nil, fun p hp => by cases hp⟩
theorem Hp.perm {s : St} {es es' : List En} (h : Hp s es) (k : (entsOf es').Perm (entsOf es)) : Hp s es' :=
  ⟨(k.map _).nodup_iff.2 h.1, fun p hp => h.2 p (k.mem_iff.1 hp)⟩
theorem entsOf_append (a b : List En) : entsOf (a ++ b) = entsOf a ++ entsOf b := by simp [entsOf]
theorem entsOf_cons (e : En) (b : List En) : entsOf (e :: b) = e.ents ++ entsOf b := by simp [entsOf]
/-- An entry ahead. -/
theorem Hp.front {s : St} (a : List En) {e : En} {b : List En} (h : Hp s (a ++ e :: b)) : Hp s (e :: (a ++ b)) := by
  refine h.perm ?_
  rw [entsOf_cons, entsOf_append, entsOf_append, entsOf_cons, ← List.append_assoc, ← List.append_assoc]
  exact List.perm_append_comm.append_right _
theorem Hp.back {s : St} (a : List En) {e : En} {b : List En} (h : Hp s (e :: (a ++ b))) : Hp s (a ++ e :: b) := by
  refine h.perm ?_
  rw [entsOf_cons, entsOf_append, entsOf_append, entsOf_cons, ← List.append_assoc, ← List.append_assoc]
  exact List.perm_append_comm.append_right _
theorem Hp.tail {s : St} {e : En} {es : List En} (h : Hp s (e :: es)) : Hp s es := by
  obtain ⟨h1, h2⟩ := h
  rw [entsOf_cons] at h1 h2
  rw [List.map_append] at h1
  exact ⟨(List.nodup_append.1 h1).2.1, fun p hp => h2 p (List.mem_append_right _ hp)⟩
/-- An entry falls away. -/
theorem Hp.drop {s : St} (a : List En) {e : En} {b : List En} (h : Hp s (a ++ e :: b)) : Hp s (a ++ b) := (h.front a).tail
/-- A row without room of its own is nobody's. -/
def noTok : AV → Bool
  | .vec _ _ (.tok _) => false
  | _ => true
theorem Hp.add {s : St} {x : AV} {es : List En} (h : Hp s es) (hx : noTok x = true) : Hp s (.own x :: es) := by
  have : En.ents (.own x) = [] := by
    cases x <;> try rfl
    rename_i c; cases c <;> first | rfl | cases hx
  unfold Hp
  rw [entsOf_cons, this]
  exact h
theorem hget_lt {s : St} {es : List En} (h : Hp s es) {n : Nat} {o : AO} (hn : (n, o) ∈ entsOf es) : n < s.c := (h.2 _ hn).1
theorem Hp.new {s : St} {es : List En} (h : Hp s es) (o : AO) (e : En) (he : e.ents = [(s.c, o)]) : Hp (s.new o) (e :: es) := by
  obtain ⟨h1, h2⟩ := h
  refine ⟨?_, ?_⟩
  · rw [entsOf_cons, he, List.map_append]
    refine List.nodup_append.2 ⟨by simp, h1, ?_⟩
    intro a ha b hb
    simp at ha; subst ha
    obtain ⟨p, hp, rfl⟩ := List.mem_map.1 hb
    have := (h2 p hp).1
    omega
  · intro p hp
    rw [entsOf_cons, he] at hp
    simp only [St.new, hget]
    rcases List.mem_append.1 hp with hp | hp
    · simp at hp; subst hp; exact ⟨Nat.lt_succ_self _, by simp⟩
    · obtain ⟨k1, k2⟩ := h2 p hp
      refine ⟨by omega, ?_⟩
      rw [if_neg (by omega)]; exact k2
theorem Hp.del {s : St} {es : List En} {e : En} {n : Nat} {o : AO} (h : Hp s (e :: es)) (he : e.ents = [(n, o)]) : Hp (s.del n) es := by
  obtain ⟨h1, h2⟩ := h
  rw [entsOf_cons, he] at h1 h2
  simp only [List.singleton_append, List.map_cons, List.nodup_cons] at h1
  refine ⟨h1.2, fun p hp => ?_⟩
  obtain ⟨k1, k2⟩ := h2 p (by simp [hp])
  have hne : p.1 ≠ n := fun e => h1.1 (List.mem_map.2 ⟨p, hp, e⟩)
  exact ⟨k1, by show hget (hdel s.h n) p.1 = _; rw [hget_hdel_other hne]; exact k2⟩
theorem Hp.put {s : St} {es : List En} {e e' : En} {n : Nat} {o o' : AO} (h : Hp s (e :: es)) (he : e.ents = [(n, o)]) (he' : e'.ents = [(n, o')]) : Hp (s.put n o') (e' :: es) := by
  obtain ⟨h1, h2⟩ := h
  rw [entsOf_cons, he] at h1 h2
  have hn := h2 (n, o) (by simp)
  refine ⟨?_, ?_⟩
  · rw [entsOf_cons, he']; simpa using h1
  · intro p hp
    rw [entsOf_cons, he'] at hp
    simp only [List.singleton_append, List.map_cons, List.nodup_cons] at h1
    rcases List.mem_append.1 hp with hp | hp
    · simp at hp; subst hp
      exact ⟨hn.1, hget_hset_same hn.2⟩
    · obtain ⟨k1, k2⟩ := h2 p (by simp [hp])
      have hne : p.1 ≠ n := fun e => h1.1 (List.mem_map.2 ⟨p, hp, e⟩)
      exact ⟨k1, by show hget (hset s.h n o') p.1 = _; rw [hget_hset_other hne]; exact k2⟩
theorem Hp.get {s : St} {es : List En} {e : En} {n : Nat} {o : AO} (h : Hp s (e :: es)) (he : e.ents = [(n, o)]) : hget s.h n = some o := (h.2 (n, o) (by rw [entsOf_cons, he]; simp)).2
/-- A row that an append may go on with. -/
def canOwn : AV → Bool
  | .nils | .emp true | .vec _ _ .tight | .vec _ _ (.tok _) => true
  | _ => false

section
variable {P : Program} {prims : Prims} {n : Nat} {b : Bool} {K : Fm → St → Prop} {Q : AExit → Fm → St → Prop} {φ : Fm} {s : St} {ops : Array Oper} {l : List Oper} {d : Tmp} {ty t e : TypeId} {pos : String} {af : Array Edge} {gd : Option (Nat × Bool)} {x y z : Operand} {u v w : AV}
/-- Under a guard that is met, that is not. -/
theorem yield_eq {g d' : Nat} {b : Bool} (hd : (ops[g]?).bind (·.dst) = some d') (hv : fEval n φ (.tmp d') = some (.bool b)) : aYield ops (frm n φ) g = some b := by
  simp only [fEval] at hv
  split at hv
  · rename_i hb
    injection hv with hv
    have hlt : d' < n := Nat.le_of_ble_eq_true hb
    unfold aYield
    rw [hd, Option.bind_some]
    have : (frm n φ)[d']? = some (.bool b) := by simp [frm, List.getElem?_range, hlt, hv]
    rw [this]
  · cases hv
theorem TO_on {op : Op} {od : Option Tmp} {g d' : Nat} {b' w : Bool} (hd : (ops[g]?).bind (·.dst) = some d') (hv : fEval n φ (.tmp d') = some (.bool b')) (hb : b' = w) (k : TO P prims n b ops (⟨od, op, ty, pos, af, none⟩ :: l) K φ s) : TO P prims n b ops (⟨od, op, ty, pos, af, some (g, w)⟩ :: l) K φ s := by
  have hw : Region.wanted ⟨od, op, ty, pos, af, some (g, w)⟩ (aYield ops (frm n φ)) = true := by
    rw [wanted_at, yield_eq hd hv, hb]; simp
  cases b with
  | true =>
    unfold TO WO at k ⊢
    obtain ⟨fr', s', hK, N, hN⟩ := k
    refine ⟨fr', s', hK, N, fun m hm => ?_⟩
    have := hN m hm
    simp only [aOps, hw, wanted_none, if_true] at this ⊢
    exact this
  | false =>
    intro hp base ρ X wd a R A hba hs hr hdf hR
    have hw' : Region.wanted ⟨od, op, ty, pos, af, some (g, w)⟩ (yielded ops a.tmps) = true := by rw [← aYield_eq (ops := ops) hr]; exact hw
    have h2 := k hp base ρ X wd a R A hba hs hr hdf hR
    unfold wl at h2 ⊢
    rw [wanted_none, if_pos rfl] at h2
    rw [hw', if_pos rfl]
    exact h2
theorem TO_skip {o : Oper} (hd : o.dst = some d) (hw : Region.wanted o (aYield ops (frm n φ)) = false) (k : TO P prims n b ops l K (upd φ d .undef) s) : TO P prims n b ops (o :: l) K φ s := by
  cases b with
  | true => exact WO_gskip hw (by rw [hd]; exact aPut_frm) k
  | false =>
    intro hp base ρ X wd a R A hba hs hr hdf hR
    have hw' : Region.wanted o (yielded ops a.tmps) = false := by rw [← aYield_eq (ops := ops) hr]; exact hw
    unfold wl
    rw [hw', if_neg (by simp)]
    have hr' : RelL wd ρ (UX ρ s.h X) s.c (frm n (upd φ d .undef)) (a.put o.dst undef).tmps.toList := by
      have := aPut_rel hr o.dst (v := .undef) (v' := undef) (by simp [Rel, RelL, undef])
      rwa [hd, aPut_frm, ← hd] at this
    exact k hp base ρ X wd _ R A hba hs hr' (by rw [hd]; exact hdf) hR
theorem TO_off {op : Op} {g d' : Nat} {b' w : Bool} (hd : (ops[g]?).bind (·.dst) = some d') (hv : fEval n φ (.tmp d') = some (.bool b')) (hb : ¬ b' = w) (k : TO P prims n b ops l K (upd φ d .undef) s) : TO P prims n b ops (⟨some d, op, ty, pos, af, some (g, w)⟩ :: l) K φ s := by
  refine TO_skip rfl ?_ k
  rw [wanted_at, yield_eq hd hv]
  cases b' <;> cases w <;> simp_all
theorem TO_mv (hx : fEval n φ x = some v) (k : TO P prims n b ops l K (upd φ d v) s) : TO P prims n b ops (⟨some d, .move x, ty, pos, af, none⟩ :: l) K φ s :=
  TO_op rfl rfl (fun _ => by simp only [aOp, fEval_eq hx, Option.map_some]) k
theorem TO_as (hx : fEval n φ x = some v) (k : TO P prims n b ops l K (upd φ d v) s) : TO P prims n b ops (⟨some d, .assign x, ty, pos, af, none⟩ :: l) K φ s :=
  TO_op rfl rfl (fun _ => by simp only [aOp, fEval_eq hx, Option.map_some]) k
theorem TO_bi {op : BinOp} {t' : TypeId} (hx : fEval n φ x = some u) (hy : fEval n φ y = some w) (hv : aBinOp P op t u w (isC x) (isC y) = some v) (k : TO P prims n b ops l K (upd φ d v) s) : TO P prims n b ops (⟨some d, .binOp op t x y t', ty, pos, af, none⟩ :: l) K φ s :=
  TO_op rfl rfl (fun _ => op_bin (fEval_eq hx) (fEval_eq hy) hv) k
theorem TO_un {op : UnOp} {t' : TypeId} (hx : fEval n φ x = some u) (hv : aUnOp op u = some v) (k : TO P prims n b ops l K (upd φ d v) s) : TO P prims n b ops (⟨some d, .unOp op t' x, ty, pos, af, none⟩ :: l) K φ s :=
  TO_op rfl rfl (fun _ => by simp only [aOp, fEval_eq hx, hv, Option.bind_eq_bind, Option.bind_some]) k
theorem TO_pt {c : Operand} {b' : Bool} (hc : fEval n φ c = some (.bool b')) (hb : b' = true) (hx : fEval n φ x = some v) (k : TO P prims n b ops l K (upd φ d v) s) : TO P prims n b ops (⟨some d, .pick c x y, ty, pos, af, none⟩ :: l) K φ s := by
  subst hb
  exact TO_op rfl rfl (fun _ => by simp only [aOp, fEval_eq hc, fEval_eq hx, Option.bind_eq_bind, Option.bind_some, if_true]) k
theorem TO_pf {c : Operand} {b' : Bool} (hc : fEval n φ c = some (.bool b')) (hb : ¬ b' = true) (hy : fEval n φ y = some v) (k : TO P prims n b ops l K (upd φ d v) s) : TO P prims n b ops (⟨some d, .pick c x y, ty, pos, af, none⟩ :: l) K φ s := by
  have hb : b' = false := by simpa using hb
  subst hb
  exact TO_op rfl rfl (fun _ => by simp only [aOp, fEval_eq hc, fEval_eq hy, Option.bind_eq_bind, Option.bind_some, Bool.false_eq_true, if_false]) k

/-! ### Rows: lengths, elements, parts -/
variable {T : Type} [Enc T] {xs : List T} {m : List T}
theorem TO_ln {ts : Array TypeId} (hu : P.underlying t = some (.slice e)) (ht : ts[0]? = some t) (hx : fEval n φ x = some u) (h : is u xs) (k : TO P prims n b ops l K (upd φ d (enc (xs.length : Int))) s) : TO P prims n b ops (⟨some d, .call ⟨.builtin .len, #[x], ts⟩, ty, pos, af, none⟩ :: l) K φ s := by
  refine TO_op rfl rfl (fun _ => op_len (fEval_eq hx) ht ?_) k
  rcases h with ⟨rfl | ⟨z, rfl⟩, rfl⟩ | ⟨ys, c, rfl, h⟩
  · simp [aLen, hu, enc]
  · simp [aLen, hu, enc]
  · simp [aLen, hu, h.len, enc]
theorem TO_lnS {ts : Array TypeId} {st : Str} (hu : P.underlying t = some .string) (ht : ts[0]? = some t) (hx : fEval n φ x = some (.str st)) (k : TO P prims n b ops l K (upd φ d (enc ((List.length st : Nat) : Int))) s) : TO P prims n b ops (⟨some d, .call ⟨.builtin .len, #[x], ts⟩, ty, pos, af, none⟩ :: l) K φ s :=
  TO_op rfl rfl (fun _ => op_len (fEval_eq hx) ht (by simp [aLen, hu, enc])) k
/-- An element, by its number. -/
def nth {α : Type} (l : List α) (i : Int) : Option α := if 0 ≤ i then l[i.toNat]? else none
theorem nth_some {α : Type} {l : List α} {i : Int} {a : α} (h : nth l i = some a) : 0 ≤ i ∧ i < l.length ∧ l[i.toNat]? = some a := by
  unfold nth at h
  split at h
  · rename_i h0
    have := (List.getElem?_eq_some_iff.1 h).1
    exact ⟨h0, by omega, h⟩
  · cases h
/-- A pointer at an element of a row that nobody turns. -/
def EPtr (p : AV) (a : T) : Prop := ∃ ys i y, p = .rptr (Enc.k T) ys i 0 ∧ ys[i]? = some y ∧ is y a
theorem TO_ix {kk : IntKind} {i : Int} {a : T} (hu : P.underlying t = some (.slice e)) (hs : shapeT P e = some (Enc.k T)) (hx : fEval n φ x = some u) (hy : fEval n φ y = some (.int kk i)) (h : is u xs) (ha : nth xs i = some a)
    (k : ∀ p, EPtr p a → TO P prims n b ops l K (upd φ d p) s) : TO P prims n b ops (⟨some d, .indexAddr t x y, ty, pos, af, none⟩ :: l) K φ s := by
  obtain ⟨h0, h1, h2⟩ := nth_some ha
  rcases h with ⟨_, rfl⟩ | ⟨ys, c, rfl, h⟩
  · simp at h1; omega
  · obtain ⟨w, hw, hw2⟩ := h.get h2
    refine TO_op rfl rfl (fun _ => op_addr (fEval_eq hx) (fEval_eq hy) (v := .rptr (Enc.k T) ys i.toNat 0) ?_) (k _ ⟨ys, i.toNat, w, rfl, hw, hw2⟩)
    have := h.len
    simp [aIndexAddr, aInt, hu, hs]
    omega
/-- An element that takes one cell is read. -/
theorem TO_ld {a : T} (hk : Enc.k T = 0) (hg : aggT P t = some false) (hx : fEval n φ x = some u) (hp : EPtr u a) (k : ∀ v, is v a → TO P prims n b ops l K (upd φ d v) s) : TO P prims n b ops (⟨some d, .load t x, ty, pos, af, none⟩ :: l) K φ s := by
  obtain ⟨ys, i, y, rfl, h1, h2⟩ := hp
  refine TO_op rfl rfl (fun _ => op_load (fEval_eq hx) (v := y) ?_) (k _ h2)
  have := (Enc.el h2).1
  have h4 := (Enc.el h2).2.2.1 hk
  have hc : y.cells = [y] := by cases y <;> first | rfl | simp [AV.one] at h4
  simp [aLoad, h1, aPart, hg, hc]
theorem TO_ixS {kk : IntKind} {i : Int} {st : Str} {a : UInt8} (hu : P.underlying t = some .string) (hx : fEval n φ x = some (.str st)) (hy : fEval n φ y = some (.int kk i)) (ha : nth st i = some a)
    (k : TO P prims n b ops l K (upd φ d (enc a)) s) : TO P prims n b ops (⟨some d, .index t x y, ty, pos, af, none⟩ :: l) K φ s := by
  obtain ⟨h0, h1, h2⟩ := nth_some ha
  refine TO_op rfl rfl (fun _ => ?_) k
  simp only [aOp, fEval_eq hx, fEval_eq hy, Option.bind_eq_bind, Option.bind_some, aIndex, aInt, hu, if_pos h0]
  rw [h2]; rfl

/-- A part of a row. -/
def sub {α : Type} (l : List α) (a b : Int) : Option (List α) := if 0 ≤ a ∧ a ≤ b ∧ b ≤ l.length then some ((l.take b.toNat).drop a.toNat) else none
theorem sub_some {α : Type} {l r : List α} {a b : Int} (h : sub l a b = some r) : 0 ≤ a ∧ a ≤ b ∧ b ≤ l.length ∧ r = (l.take b.toNat).drop a.toNat := by
  unfold sub at h
  split at h
  · rename_i h0; injection h with h; exact ⟨h0.1, h0.2.1, h0.2.2, h.symm⟩
  · cases h
def fEvalO (n : Nat) (φ : Fm) : Option Operand → Option (Option AV)
  | none => some none
  | some x => (fEval n φ x).map some
theorem fEvalO_eq {x : Option Operand} {v : Option AV} (h : fEvalO n φ x = some v) : aEvalO (frm n φ) x = some v := by
  cases x with
  | none => exact h
  | some x =>
    simp only [fEvalO, Option.map_eq_some_iff] at h
    obtain ⟨w, h1, rfl⟩ := h
    simp only [aEvalO, fEval_eq h1, Option.map_some]
theorem fEvalO_some {x : Operand} {v : AV} (h : fEval n φ x = some v) : fEvalO n φ (some x) = some (some v) := by simp only [fEvalO, h, Option.map_some]
theorem slice_is {lo hi mx : Option AV} {a b c : Nat} (hu : P.underlying t = some (.slice e)) (hs : shapeT P e = some (Enc.k T)) (h : is u xs) (hb : bnds xs.length xs.length lo hi mx = some (a, b, c)) : ∃ z, aSlice P t u lo hi mx s = some z ∧ is z ((xs.take b).drop a) := by
  rcases h with ⟨rfl | ⟨z, rfl⟩, rfl⟩ | ⟨ys, cp, rfl, h⟩
  · refine ⟨.nils, ?_, .inl ⟨.inl rfl, by simp⟩⟩
    simp only [List.length_nil] at hb
    simp only [aSlice, hu, hb, hs, Option.bind_eq_bind, Option.bind_some]
  · refine ⟨.emp (z || mx.isSome), ?_, .inl ⟨.inr ⟨_, rfl⟩, by simp⟩⟩
    simp only [List.length_nil] at hb
    simp only [aSlice, hu, hb, hs, Option.bind_eq_bind, Option.bind_some]
  · refine ⟨_, by simp only [aSlice, hu, hs, h.len, hb, Option.bind_eq_bind, Option.bind_some, ne_eq, not_true_eq_false, if_false]; rfl, .inr ⟨_, _, rfl, (h.take b).drop a⟩⟩
theorem TO_sl_ {lo hi mx : Option Operand} {lo' hi' mx' : Option AV} {a b2 c : Nat} (hu : P.underlying t = some (.slice e)) (hs : shapeT P e = some (Enc.k T)) (hx : fEval n φ x = some u) (hlo : fEvalO n φ lo = some lo') (hhi : fEvalO n φ hi = some hi') (hmx : fEvalO n φ mx = some mx')
    (h : is u xs) (hb : bnds xs.length xs.length lo' hi' mx' = some (a, b2, c)) (k : ∀ z, is z ((xs.take b2).drop a) → TO P prims n b ops l K (upd φ d z) s) : TO P prims n b ops (⟨some d, .slice t x lo hi mx, ty, pos, af, none⟩ :: l) K φ s := by
  obtain ⟨z, hz, hz2⟩ := slice_is (s := s) hu hs h hb
  exact TO_op rfl rfl (fun _ => op_slice (fEval_eq hx) (fEvalO_eq hlo) (fEvalO_eq hhi) (fEvalO_eq hmx) hz) (k _ hz2)
variable {r : List T} {k1 k2 k3 : IntKind} {a c : Int} {p q : Operand}
theorem TO_sl11 {b2 : Int} (hu : P.underlying t = some (.slice e)) (hs : shapeT P e = some (Enc.k T)) (hx : fEval n φ x = some u) (hp : fEval n φ p = some (.int k1 a)) (hq : fEval n φ q = some (.int k2 b2)) (h : is u xs) (hr : sub xs a b2 = some r)
    (k : ∀ z, is z r → TO P prims n b ops l K (upd φ d z) s) : TO P prims n b ops (⟨some d, .slice t x (some p) (some q) none, ty, pos, af, none⟩ :: l) K φ s := by
  obtain ⟨h0, h1, h2, rfl⟩ := sub_some hr
  exact TO_sl_ hu hs hx (fEvalO_some hp) (fEvalO_some hq) rfl h (bnds_lohi h0 h1 h2) k
theorem TO_sl10 (hu : P.underlying t = some (.slice e)) (hs : shapeT P e = some (Enc.k T)) (hx : fEval n φ x = some u) (hp : fEval n φ p = some (.int k1 a)) (h : is u xs) (hr : sub xs a xs.length = some r)
    (k : ∀ z, is z r → TO P prims n b ops l K (upd φ d z) s) : TO P prims n b ops (⟨some d, .slice t x (some p) none none, ty, pos, af, none⟩ :: l) K φ s := by
  obtain ⟨h0, h1, h2, rfl⟩ := sub_some hr
  exact TO_sl_ hu hs hx (fEvalO_some hp) rfl rfl h (bnds_lo h0 h1) (by simpa using k)
theorem TO_sl01 {b2 : Int} (hu : P.underlying t = some (.slice e)) (hs : shapeT P e = some (Enc.k T)) (hx : fEval n φ x = some u) (hq : fEval n φ q = some (.int k2 b2)) (h : is u xs) (hr : sub xs 0 b2 = some r)
    (k : ∀ z, is z r → TO P prims n b ops l K (upd φ d z) s) : TO P prims n b ops (⟨some d, .slice t x none (some q) none, ty, pos, af, none⟩ :: l) K φ s := by
  obtain ⟨h0, h1, h2, rfl⟩ := sub_some hr
  exact TO_sl_ hu hs hx rfl (fEvalO_some hq) rfl h (bnds_hi h1 h2) (by simpa using k)
theorem TO_sl00 (hu : P.underlying t = some (.slice e)) (hs : shapeT P e = some (Enc.k T)) (hx : fEval n φ x = some u) (h : is u xs)
    (k : ∀ z, is z xs → TO P prims n b ops l K (upd φ d z) s) : TO P prims n b ops (⟨some d, .slice t x none none none, ty, pos, af, none⟩ :: l) K φ s :=
  TO_sl_ hu hs hx rfl rfl rfl h (a := 0) (b2 := xs.length) (c := xs.length) (by simp [bnds, bnd]) (by simpa using k)
/-- .. and its room is cut: xs[:b:b]. -/
theorem TO_sl01x {b2 : Int} (hu : P.underlying t = some (.slice e)) (hs : shapeT P e = some (Enc.k T)) (hx : fEval n φ x = some u) (hq : fEval n φ q = some (.int k2 b2)) (hp : fEval n φ p = some (.int k1 b2)) (h : is u xs) (hr : sub xs 0 b2 = some r)
    (k : ∀ z, is z r → TO P prims n b ops l K (upd φ d z) s) : TO P prims n b ops (⟨some d, .slice t x none (some q) (some p), ty, pos, af, none⟩ :: l) K φ s := by
  obtain ⟨h0, h1, h2, rfl⟩ := sub_some hr
  refine TO_sl_ hu hs hx rfl (fEvalO_some hq) (fEvalO_some hp) h (a := 0) (b2 := b2.toNat) (c := b2.toNat) ?_ (by simpa using k)
  simp only [bnds, bnd, Option.isSome_some, Option.isNone_some, Bool.false_eq_true, and_false, if_false, Option.bind_eq_bind]
  rw [if_pos ⟨h1, h2⟩, Option.bind_some, if_pos ⟨h1, by omega⟩]; rfl
/-! ### Parts of texts -/
theorem TO_slS_ {lo hi : Option Operand} {lo' hi' : Option AV} {a b2 c : Nat} {st : Str} (hu : P.underlying t = some .string) (hx : fEval n φ x = some (.str st)) (hlo : fEvalO n φ lo = some lo') (hhi : fEvalO n φ hi = some hi')
    (hb : bnds (List.length st) (List.length st) lo' hi' none = some (a, b2, c)) (k : TO P prims n b ops l K (upd φ d (.str ((List.take b2 st).drop a))) s) : TO P prims n b ops (⟨some d, .slice t x lo hi none, ty, pos, af, none⟩ :: l) K φ s :=
  TO_op rfl rfl (fun _ => op_slice (c := none) (fEval_eq hx) (fEvalO_eq hlo) (fEvalO_eq hhi) rfl (by simp [aSlice, hu, hb])) k
variable {st rt : Str}
theorem TO_slS11 {b2 : Int} (hu : P.underlying t = some .string) (hx : fEval n φ x = some (.str st)) (hp : fEval n φ p = some (.int k1 a)) (hq : fEval n φ q = some (.int k2 b2)) (hr : sub (α := UInt8) st a b2 = some rt)
    (k : TO P prims n b ops l K (upd φ d (enc rt)) s) : TO P prims n b ops (⟨some d, .slice t x (some p) (some q) none, ty, pos, af, none⟩ :: l) K φ s := by
  obtain ⟨h0, h1, h2, rfl⟩ := sub_some hr
  exact TO_slS_ hu hx (fEvalO_some hp) (fEvalO_some hq) (bnds_lohi h0 h1 h2) k
theorem TO_slS10 (hu : P.underlying t = some .string) (hx : fEval n φ x = some (.str st)) (hp : fEval n φ p = some (.int k1 a)) (hr : sub (α := UInt8) st a (List.length st) = some rt)
    (k : TO P prims n b ops l K (upd φ d (enc rt)) s) : TO P prims n b ops (⟨some d, .slice t x (some p) none none, ty, pos, af, none⟩ :: l) K φ s := by
  obtain ⟨h0, h1, h2, rfl⟩ := sub_some hr
  exact TO_slS_ hu hx (fEvalO_some hp) rfl (bnds_lo h0 h1) (by simpa [enc] using k)
theorem TO_slS01 {b2 : Int} (hu : P.underlying t = some .string) (hx : fEval n φ x = some (.str st)) (hq : fEval n φ q = some (.int k2 b2)) (hr : sub (α := UInt8) st 0 b2 = some rt)
    (k : TO P prims n b ops l K (upd φ d (enc rt)) s) : TO P prims n b ops (⟨some d, .slice t x none (some q) none, ty, pos, af, none⟩ :: l) K φ s := by
  obtain ⟨h0, h1, h2, rfl⟩ := sub_some hr
  exact TO_slS_ hu hx rfl (fEvalO_some hq) (bnds_hi h1 h2) (by simpa [enc] using k)
end
end Go.Ai
