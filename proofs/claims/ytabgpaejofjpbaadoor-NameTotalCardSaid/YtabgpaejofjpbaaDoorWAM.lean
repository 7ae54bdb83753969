/- My own texts DevTg11, DevTg12, DevTg13, DevTg14, DevTg15, one behind the other. -/
import Derived.Test.YtabgpaejofjpbaaDoorWAF
import Derived.Shelf.Strings.Builder1
import Derived.Lib.UnsafeStr
section
/- Structs whose block is of a known type: a new one, reading and writing its fields. -/
set_option linter.unusedVariables false
set_option linter.unusedSimpArgs false
open Go.Ai.Enc (enc is)
namespace Go.Ai
section
variable {P : Program} {base : Nat} {ρ : Pl} {X : Reg} {s s' : St} {w : World}
theorem does_allocT {z : AV} (hb : base ≤ w.heap.size) (h : Sim base ρ X s w) (t : TypeId) (hz : zeroT P t = some z) (hone : z.cells.all AV.one = true) : Does P base ρ X s w (Instr.alloc t true (.tuple #[])) (.ptr s.c 0) (s.new (.tc t z.cells)) := by
  obtain ⟨zv, hzr, hzz⟩ := run_zero hz w
  have hx := hzz w ρ (UX ρ s.h X) s.c
  have h1 : (newVar t zv).run P w = .ok ⟨w.heap.size, 0, none⟩ (w.alloc (.cells zv.cells t)) := by simp [newVar, newRow]
  refine ⟨.pointer (some ⟨w.heap.size, 0, none⟩), w.alloc (.cells zv.cells t), by simp [Instr.alloc, hzr, h1], ?_⟩
  refine Post.new (w' := w.alloc (.cells zv.cells t)) h rfl rfl rfl (by simp) (fun b hb => ?_) hb (.tc t z.cells) w.heap.size 0 (Nat.le_refl _) _ _ (fun ρ' U' c' m hρ' _ hc' => ⟨?_, ?_⟩)
  · show (w.heap.push _)[b]? = _
    rw [Array.getElem?_push, if_neg (by omega)]
  · exact ⟨zv.cells, (0, 0), heap_alloc_new w _, by simp [thawed], RelL.mono m _ _ hx.cells, by simpa using hone⟩
  · simp only [Rel]
    exact ⟨by rw [hc']; omega, by rw [hρ']⟩
theorem gives_loadT {t t0 : TypeId} {n off : Nat} {cs : List AV} {v : AV} {av : Value} (h : Sim base ρ X s w) (hg : hget s.h n = some (.tc t0 cs)) (ha : Rel w ρ (UX ρ s.h X) s.c (.ptr n off) av) (hl : aPart P t cs off = some v) : Gives P w ρ (UX ρ s.h X) s.c (Instr.loadAt t av) v := by
  simp only [Rel] at ha
  obtain ⟨_, rfl⟩ := ha
  obtain ⟨C, fz, h1, h2, h3, h4⟩ := h.obj n _ hg
  obtain ⟨v', hrun, hr⟩ := gives_part (P := P) (A := ⟨(ρ n).1, off, none⟩) h3 (fun j u hj => by
    rw [add_lit, cell_at h1]
    simpa using hj) hl
  exact ⟨v', by simpa [Instr.loadAt, Instr.sureAddr] using hrun, hr⟩
theorem does_storeT {t t0 : TypeId} {n off : Nat} {cs : List AV} {x : AV} {av xv : Value} (h : Sim base ρ X s w) (hg : hget s.h n = some (.tc t0 cs)) (ha : Rel w ρ (UX ρ s.h X) s.c (.ptr n off) av) (hx : Rel w ρ (UX ρ s.h X) s.c x xv) (hz : szT P t = some x.cells.length) (hle : off + x.cells.length ≤ cs.length) (hone : x.cells.all AV.one = true) :
    ∃ w', (Instr.storeAt t av xv).run P w = .ok () w' ∧ Post base ρ X s w .undef (s.put n (.tc t0 (splice cs off x.cells))) undef w' := by
  simp only [Rel] at ha
  obtain ⟨_, rfl⟩ := ha
  obtain ⟨C, fz, h1, h2, h3, h4⟩ := h.obj n _ hg
  have hvs := hx.cells
  have hl := h3.length
  have hl2 := hvs.length
  simp only [Array.length_toList] at hl
  have hl3 : xv.cells.toList.length = xv.cells.size := by simp
  have hone' : ∀ y ∈ x.cells, y.one = true := by simpa using hone
  have hrun := run_storeCells_ P (ρ n).1 off t0 fz xv.cells.toList 0 C w h1 h2 (by omega) (hvs.one hone')
  simp only [Nat.add_zero] at hrun
  refine ⟨w.setRow (ρ n).1 (C.toList.take off ++ xv.cells.toList ++ C.toList.drop (off + xv.cells.toList.length)).toArray, ?_, ?_⟩
  · unfold Instr.storeAt storeVar
    have := hx.cells_size
    simp [Instr.sureAddr, run_sizeOf_ hz, this, hrun]
  · have hsz : ((C.toList.take off ++ xv.cells.toList ++ C.toList.drop (off + xv.cells.toList.length)).toArray).size = C.size := by simp; omega
    refine Post.put (w' := w.setRow (ρ n).1 (C.toList.take off ++ xv.cells.toList ++ C.toList.drop (off + xv.cells.toList.length)).toArray) h hg (by simp) (.tc t0 (splice cs off x.cells)) (by simp) rfl rfl rfl (by simp) (fun b hb => setRow_other w _ b _ hb) (fun a ha => keep_setRow h1 hsz a ha) .undef undef (fun U' m => ⟨?_, by simp [Rel, RelL, undef]⟩)
    refine ⟨_, fz, setRow_heap w _ C _ t0 fz h1, ?_, ?_, splice_one h4 hone'⟩
    · intro j hj
      rw [hsz] at hj
      exact h2 j hj
    · exact RelL.mono m _ _ (splice_rel h3 hvs off)
end
section
variable {P : Program} {prims : Prims} {n : Nat} {K : Fm → St → Prop} {φ : Fm} {s : St} {ops : Array Oper} {l : List Oper} {d : Tmp} {x y : Operand} {t ty : TypeId} {pos : String} {af : Array Edge} {es : List En}
/-- A new struct. -/
theorem TO_alT {z : AV} (hz : zeroT P t = some z) (hone : z.cells.all AV.one = true) (hs : Hp s es) (k : ∀ m s', Hp s' (.tc m t z.cells :: es) → TO P prims n false ops l K (upd φ d (.ptr m 0)) s') : TO P prims n false ops (⟨some d, .alloc t, ty, pos, af, none⟩ :: l) K φ s := by
  refine TO_sem rfl rfl (fun _ => rfl) fun hp base ρ X w a A B hb hsim hrl hdf hA => ?_
  obtain ⟨v', w', h1, h2⟩ := does_allocT hb hsim t hz hone
  refine wp_val (v' := v') (w' := w') ?_ (hA _ _ v' w' (k s.c _ (hs.new _ _ rfl)) h2)
  show (execOp a.eval _).run P w = _
  simp only [execOp]
  simp [h1]
/-- Reading in a struct. -/
theorem TO_ldT {m off : Nat} {t0 : TypeId} {cs : List AV} {v : AV} (hx : fEval n φ x = some (.ptr m off)) (hs : Hp s (.tc m t0 cs :: es)) (hv : aPart P t cs off = some v) (k : TO P prims n false ops l K (upd φ d v) s) : TO P prims n false ops (⟨some d, .load t x, ty, pos, af, none⟩ :: l) K φ s := by
  refine TO_sem rfl rfl (fun _ => rfl) fun hp base ρ X w a A B hb hsim hrl hdf hA => ?_
  obtain ⟨v', w', h1, h2⟩ := (gives_loadT (P := P) (t := t) hsim (hs.get rfl) (aEval_rel hrl (fEval_eq hx)) hv).does hsim
  refine wp_val (v' := v') (w' := w') ?_ (hA _ _ v' w' k h2)
  show (execOp a.eval _).run P w = _
  simp only [execOp]
  simp [h1]
/-- Writing in a struct. -/
theorem TO_stT {m off : Nat} {t0 : TypeId} {cs : List AV} {v : AV} (hx : fEval n φ x = some (.ptr m off)) (hy : fEval n φ y = some v) (hs : Hp s (.tc m t0 cs :: es)) (hz : szT P t = some v.cells.length) (hle : off + v.cells.length ≤ cs.length) (hone : v.cells.all AV.one = true) (k : ∀ s', Hp s' (.tc m t0 (splice cs off v.cells) :: es) → TO P prims n false ops l K φ s') : TO P prims n false ops (⟨none, .store t x y, ty, pos, af, none⟩ :: l) K φ s := by
  refine TO_sem rfl rfl (fun _ => rfl) fun hp base ρ X w a A B hb hsim hrl hdf hA => ?_
  obtain ⟨w', h1, h2⟩ := does_storeT (P := P) (t := t) hsim (hs.get rfl) (aEval_rel hrl (fEval_eq hx)) (aEval_rel hrl (fEval_eq hy)) hz hle hone
  refine wp_skp (w' := w') ?_ (hA .undef _ undef w' (k _ (hs.put rfl rfl)) h2)
  simp [execOp, h1]
end
end Go.Ai
end
section
/- A struct's pointer as an unsafe one, and back; abi.NoEscape. -/
set_option linter.unusedVariables false
set_option linter.unusedSimpArgs false
namespace Go.Ai
open Go.Proofs
section
variable {P : Program} {prims : Prims} {n : Nat} {K : Fm → St → Prop} {φ : Fm} {s : St} {ops : Array Oper} {l : List Oper} {d : Tmp} {x y : Operand} {t ty : TypeId} {pos : String} {af : Array Edge} {es : List En}
theorem shape_of {w : World} {r : Nat} {C : Array Value} {t : TypeId} {fz : Nat × Nat} (h : w.heap[r]? = some (.cells C t fz)) : w.shape? r = some (t, C.size) := by
  unfold World.shape?; rw [h]
theorem TO_cvPU {src dst t0 : TypeId} {m : Nat} {j : TypeInfo} {cs : List AV} (h1 : P.underlying src = some (.pointer t0)) (h2 : P.underlying dst = some .unsafePointer) (hi : P.info? t0 = some j) (hj : j.size ≠ 0) (hx : fEval n φ x = some (.ptr m 0)) (hs : Hp s (.tc m t0 cs :: es)) (hc : 0 < cs.length)
    (k : TO P prims n false ops l K (upd φ d (.ptr m 0)) s) : TO P prims n false ops (⟨some d, .convert src dst x, ty, pos, af, none⟩ :: l) K φ s := by
  refine TO_sem rfl (by simp [valOp, h1]) (fun _ => rfl) fun hp base ρ X w a A B hb hsim hrl hdf hA => ?_
  have hr := aEval_rel hrl (fEval_eq hx)
  obtain ⟨C, fz, g1, g2, g3, g4⟩ := hsim.obj m _ (hs.get rfl)
  have hl := g3.length
  have hv := hr
  simp only [Rel] at hv
  obtain ⟨_, hv⟩ := hv
  refine wp_val (v' := a.eval x) (w' := w) ?_ (hA _ _ _ w k (.same hsim hr))
  show (execOp a.eval _).run P w = _
  simp only [execOp]
  rw [hv]
  simp [Lib.run_to_unsafe w ⟨(ρ m).1, 0, none⟩ h1 h2 hi hj (shape_of g1) (show 0 < C.size by simp at hl; omega)]
theorem TO_cvUP {src dst t0 : TypeId} {m : Nat} {j : TypeInfo} {cs : List AV} (h1 : P.underlying src = some .unsafePointer) (h2 : P.underlying dst = some (.pointer t0)) (hi : P.info? t0 = some j) (hlies : liesAt P P.depth t0 (cs.length / P.cellsOf t0) 0 t0 1 = true) (hx : fEval n φ x = some (.ptr m 0)) (hs : Hp s (.tc m t0 cs :: es))
    (k : TO P prims n false ops l K (upd φ d (.ptr m 0)) s) : TO P prims n false ops (⟨some d, .convert src dst x, ty, pos, af, none⟩ :: l) K φ s := by
  refine TO_sem rfl (by simp [valOp, h1]) (fun _ => rfl) fun hp base ρ X w a A B hb hsim hrl hdf hA => ?_
  have hr := aEval_rel hrl (fEval_eq hx)
  obtain ⟨C, fz, g1, g2, g3, g4⟩ := hsim.obj m _ (hs.get rfl)
  have hl := g3.length
  have hv := hr
  simp only [Rel] at hv
  obtain ⟨_, hv⟩ := hv
  refine wp_val (v' := a.eval x) (w' := w) ?_ (hA _ _ _ w k (.same hsim hr))
  show (execOp a.eval _).run P w = _
  simp only [execOp]
  rw [hv]
  have hl' : C.size = cs.length := by simpa using hl
  simp [Lib.run_from_unsafe w ⟨(ρ m).1, 0, none⟩ h1 h2 hi (shape_of g1) (by rw [hl']; exact hlies)]
theorem TO_noEsc {g : FuncId} {fn : Func} {ts : Array TypeId} {v : AV} (hf : P.funcs[g]? = some fn) (h1 : (fn.name == "runtime.NumGoroutine") = false) (h2 : fn.body.isNone = true) (h3 : Extern.findNext fn = none) (h4 : Extern.find fn = some Extern.AbiNoEscape.same) (hx : fEval n φ x = some v)
    (k : TO P prims n false ops l K (upd φ d v) s) : TO P prims n false ops (⟨some d, .call ⟨.value (.func g), #[x], ts⟩, ty, pos, af, none⟩ :: l) K φ s := by
  refine TO_sem rfl rfl (fun hp => by
    show (prims g).isSome = false
    cases hg : prims g with
    | none => rfl
    | some F =>
      obtain ⟨⟨fn', hf', he'⟩, _⟩ := hp g F hg
      rw [hf] at hf'; injection hf' with hf'; subst hf'
      simp [enters] at he'
      rw [Option.isNone_iff_eq_none] at h2
      rw [h2] at he'; simp at he') fun hp base ρ X w a A B hb hsim hrl hdf hA => ?_
  have hr := aEval_rel hrl (fEval_eq hx)
  refine wp_val (v' := a.eval x) (w' := w) ?_ (hA _ _ _ w k (.same hsim hr))
  show (execOp a.eval _).run P w = _
  have e : a.eval (.func g) = .func (.func g) #[] #[] := rfl
  simp only [execOp, resolve, e, Deferred.ofValue, pure_bind, invoke]
  have hm : (#[] ++ (#[x].map a.eval) ++ #[] : Array Value) = #[a.eval x] := by simp
  first
    | rw [hm, run_callFunc_extern hf h1 h2 h3 h4, Lib.run_noEscape]; rfl
    | (simp only [Array.append_empty, Array.empty_append]; rw [run_callFunc_extern hf h1 h2 h3 h4]; simp [Lib.run_noEscape, Result.andThen])
/-- A pointer is itself. -/
theorem TO_neqP {m : Nat} {t0 t' : TypeId} {j : TypeInfo} (h1 : P.underlying t = some (.pointer t0)) (hi : P.info? t0 = some j) (hx : fEval n φ x = some (.ptr m 0)) (hy : fEval n φ y = some (.ptr m 0))
    (k : TO P prims n false ops l K (upd φ d (.bool false)) s) : TO P prims n false ops (⟨some d, .binOp .neq t x y t', ty, pos, af, none⟩ :: l) K φ s := by
  refine TO_semG rfl fun hp base ρ X w a A B hb hsim hrl hdf hA => ?_
  have hr := aEval_rel hrl (fEval_eq hx)
  have hr2 := aEval_rel hrl (fEval_eq hy)
  simp only [Rel] at hr hr2
  obtain ⟨_, hv⟩ := hr
  obtain ⟨_, hv2⟩ := hr2
  have hrun : ∀ w, (execOp a.eval (⟨some d, .binOp .neq t x y t', ty, pos, af, none⟩ : Oper)).run P w = .ok (.value (.bool false)) w := fun w => by
    simp only [execOp]
    rw [hv, hv2]
    have hg : ∀ (p q : Option Addr), (eqGuard .neq t x y (.pointer p) (.pointer q)).run P w = .ok () w := fun p q => by
      simp [eqGuard]
    simp [hg, Lib.run_neq_ptr_same w _ h1 hi]
  refine ⟨fun _ => ⟨_, hrun⟩, ?_⟩
  exact wp_val (v' := .bool false) (w' := w) (hrun w) (hA _ _ _ w k (.same hsim (by simp only [Rel])) fun _ => Sub.refl w)
/-- A call whose outcome is told on the machine. -/
theorem TO_callM {g : FuncId} {fn : Func} {xs : Array Operand} {ts : Array TypeId} {vs : List AV} {H : AV → St → Prop} (hq : prims g = none) (hf : P.funcs[g]? = some fn) (hn : enters fn = true) (ha : fEvals n φ xs.toList = some vs) (hm : MF P prims g vs s H)
    (k : ∀ v s', H v s' → TO P prims n false ops l K (upd φ d v) s') : TO P prims n false ops (⟨some d, .call ⟨.value (.func g), xs, ts⟩, ty, pos, af, none⟩ :: l) K φ s := by
  refine TO_sem rfl rfl (fun _ => by simp [qCall, hq]) fun hp base ρ X w a A B hb hsim hrl hdf hA => ?_
  have har := aEvals_rel hrl (fEvals_eq ha)
  have hcl := hm hp base ρ X w _ hb hsim har
  unfold Oper.wp
  have e : a.eval (.func g) = .func (.func g) #[] #[] := rfl
  have hrun : (execOp a.eval (⟨some d, .call ⟨.value (.func g), xs, ts⟩, ty, pos, af, none⟩ : Oper)).run P w = .ok (.enter g (xs.toList.map a.eval).toArray) w := by
    simp only [execOp, resolve, e, Deferred.ofValue, pure_bind, invoke]
    rw [run_callFunc hf hn]
    congr 2
    apply Array.ext'
    simp
  rw [hrun]
  refine hcl.mono fun e' w' he => ?_
  obtain ⟨v', rfl, v, s', h1, h2⟩ := he
  exact hA v s' v' w' (k v s' h1) h2
end
end Go.Ai
end
section
/- A region that draws its order: in whatever order, as in one that is written down, if what acts is ordered against what looks. On the machine. -/
set_option linter.unusedVariables false
set_option linter.unusedSimpArgs false
namespace Go.Ai
section
variable {P : Program} {q : Prims} {ops : Array Oper}
def noQ : Exit → Act → World → Prop := fun _ _ _ => False
/-- One operation, and what stands behind it. -/
def st (P : Program) (q : Prims) (ops : Array Oper) (K : Act → World → Prop) (o : Oper) (a : Act) (w : World) : Prop :=
  if Region.wanted o (yielded ops a.tmps) then (valOp P o.op = true → Steady P (execOp a.eval o)) ∧ o.wp P a w (fun a' w' => (qCall q o.op = true → Sub w w') ∧ K a' w') noQ else K (a.put o.dst undef) w
theorem wl_st {A : Act → World → Prop} {o : Oper} {l : List Oper} {a : Act} {w : World} : wl P q ops noQ A (o :: l) a w = st P q ops (wl P q ops noQ A l) o a w := rfl
/-- What it yields. -/
def Yl (P : Program) (ops : Array Oper) (S : World → Prop) (o : Oper) (v : Value) (a : Act) : Prop :=
  (Region.wanted o (yielded ops a.tmps) = true ∧ ∀ w', S w' → (execOp a.eval o).run P w' = .ok (.value v) w') ∨ (Region.wanted o (yielded ops a.tmps) = false ∧ v = undef)
theorem Yl.put {S : World → Prop} {x y : Oper} {v u : Value} {a : Act} (hap : ∀ d, y.dst = some d → d ∉ x.looksAt ops) (hs : ∀ cs b, x.op ≠ .select cs b) (h : Yl P ops S x v a) : Yl P ops S x v (a.put y.dst u) := by
  unfold Yl at *
  rw [execOp_put x hs a y.dst u hap, wanted_put x a y.dst u hap]; exact h
theorem Yl.unput {S : World → Prop} {x y : Oper} {v u : Value} {a : Act} (hap : ∀ d, y.dst = some d → d ∉ x.looksAt ops) (hs : ∀ cs b, x.op ≠ .select cs b) (h : Yl P ops S x v (a.put y.dst u)) : Yl P ops S x v a := by
  unfold Yl at *
  rw [execOp_put x hs a y.dst u hap, wanted_put x a y.dst u hap] at h; exact h
theorem valOp_q {op : Op} (h : valOp P op = true) : qCall q op = false := by
  unfold qCall
  split
  · simp [valOp] at h
  · rfl
theorem rdOp_q {op : Op} (h : rdOp op = true) : qCall q op = false := by
  unfold qCall
  split
  · simp [rdOp] at h
  · rfl
theorem rd_next {ρ : Operand → Value} {o : Oper} (h : rdOp o.op = true) {w : World} {r : Next} {w1 : World} (hr : (execOp ρ o).run P w = .ok r w1) : ∃ v, r = .value v := by
  obtain ⟨dst, op, type, pos, after, guard⟩ := o
  have key : ∀ m : Sem Value, (asNext m).run P w = .ok r w1 → ∃ v, r = .value v := fun m hm => by
    unfold asNext at hm
    rw [Sem.run_bind] at hm
    cases hx : m.run P w with
    | ok v w2 => rw [hx] at hm; simp at hm; exact ⟨v, hm.1.symm⟩
    | halt x w2 => rw [hx] at hm; cases hm
  unfold rdOp at h
  split at h
  · simp only at *
    rename_i t x hop
    subst hop
    exact key (Instr.loadAt t (ρ x)) hr
  · simp only at *
    rename_i xs ts hop
    subst hop
    refine key (Builtin.len_ ts type (xs.map ρ)) ?_
    exact hr
  · cases h
/-- Of an operation that its operands' values decide. -/
theorem st_val {K : Act → World → Prop} {o : Oper} {a : Act} {w : World} (hv : valOp P o.op = true) (h : st P q ops K o a w) : ∃ v, Yl P ops (fun _ => True) o v a ∧ K (a.put o.dst v) w := by
  unfold st at h
  split at h
  · rename_i hw
    obtain ⟨h1, h2⟩ := h
    obtain ⟨v, hr⟩ := h1 hv
    unfold Oper.wp at h2
    rw [hr w] at h2
    exact ⟨v, .inl ⟨hw, fun w' _ => hr w'⟩, h2.2⟩
  · rename_i hw
    exact ⟨undef, .inr ⟨by simpa using hw, rfl⟩, h⟩
theorem st_rd {K : Act → World → Prop} {o : Oper} {a : Act} {w : World} (hv : rdOp o.op = true) (h : st P q ops K o a w) : ∃ v, Yl P ops (Sub w) o v a ∧ K (a.put o.dst v) w := by
  unfold st at h
  split at h
  · rename_i hw
    obtain ⟨h1, h2⟩ := h
    unfold Oper.wp at h2
    cases hr : (execOp a.eval o).run P w with
    | halt x w1 => exfalso; rw [hr] at h2; cases x <;> exact h2
    | ok r w1 =>
      obtain ⟨v, rfl⟩ := rd_next hv hr
      obtain ⟨rfl, h3⟩ := rd_lk (P := P) hv _ _ _ hr
      rw [hr] at h2
      exact ⟨v, .inl ⟨hw, fun w' hw' => h3 w' fun _ => hw'⟩, h2.2⟩
  · rename_i hw
    exact ⟨undef, .inr ⟨by simpa using hw, rfl⟩, h⟩
theorem st_yl {S : World → Prop} {K : Act → World → Prop} {o : Oper} {v : Value} {a : Act} {w : World} (hst : valOp P o.op = true → Yl P ops (fun _ => True) o v a) (hq : qCall q o.op = false) (hS : S w) (h : Yl P ops S o v a) (k : K (a.put o.dst v) w) : st P q ops K o a w := by
  unfold st
  rcases h with ⟨hw, h⟩ | ⟨hw, rfl⟩
  · rw [if_pos hw]
    refine ⟨fun hv => ?_, ?_⟩
    · rcases hst hv with ⟨_, h2⟩ | ⟨h2, _⟩
      · exact ⟨v, fun w => h2 w trivial⟩
      · rw [hw] at h2; cases h2
    · unfold Oper.wp
      rw [h w hS]
      exact ⟨fun e => (by rw [hq] at e; cases e), k⟩
  · rw [if_neg (by simp [hw])]
    exact k
theorem Steady.yl {o : Oper} {v : Value} {a : Act} (h : Yl P ops (fun _ => True) o v a) (hw : Region.wanted o (yielded ops a.tmps) = true) : Steady P (execOp a.eval o) := by
  rcases h with ⟨_, h⟩ | ⟨h, _⟩
  · exact ⟨v, fun w => h w trivial⟩
  · rw [hw] at h; cases h

/-- What may be done behind instead of ahead. -/
def comm (P : Program) (q : Prims) (ops : Array Oper) (x y : Oper) : Bool :=
  x.apart ops y && (match x.op with | .select _ _ => false | _ => true) && (match y.op with | .select _ _ => false | _ => true) && (valOp P x.op || valOp P y.op || (rdOp x.op && (rdOp y.op || qCall q y.op)))

/-- What stands behind an operation, when what is ahead of it is done behind. -/
theorem st_over {K K' : Act → World → Prop} {x y : Oper} {v : Value} {a : Act} {w : World} (h1 : ∀ d, x.dst = some d → d ∉ y.looksAt ops) (h2 : ∀ d, x.dst = some d → y.dst ≠ some d) (hsy : ∀ cs b, y.op ≠ .select cs b)
    (hK : ∀ (a' : Act) (u : Value) w', (a' = a ∨ ∃ d, a' = { a with defers := d :: a.defers }) → (qCall q y.op = true → Sub w w') → (rdOp y.op = true → w' = w) → K ((a'.put x.dst v).put y.dst u) w' → K' (a'.put y.dst u) w')
    (h : st P q ops K y (a.put x.dst v) w) : st P q ops K' y a w := by
  unfold st at *
  rw [wanted_put y a x.dst v h1] at h
  split
  · rename_i hw
    rw [if_pos hw] at h
    rw [execOp_put y hsy a x.dst v h1] at h
    refine ⟨h.1, ?_⟩
    replace h := h.2
    unfold Oper.wp at *
    rw [execOp_put y hsy a x.dst v h1] at h
    have hrd : ∀ r w1, (execOp a.eval y).run P w = .ok r w1 → rdOp y.op = true → w1 = w ∧ ∃ v, r = .value v := fun r w1 hr hy => ⟨(rd_lk (P := P) hy _ _ _ hr).1, rd_next hy hr⟩
    generalize (execOp a.eval y).run P w = r at *
    cases r with
    | ok n w' =>
      replace hrd := hrd n w' rfl
      cases n <;> simp only [Oper.upon] at h ⊢
      case value u => exact ⟨h.1, hK a u w' (.inl rfl) h.1 (fun e => (hrd e).1) h.2⟩
      case skip => exact ⟨h.1, hK a undef w' (.inl rfl) h.1 (fun e => (hrd e).1) h.2⟩
      case defer d =>
        refine ⟨h.1, hK { a with defers := d :: a.defers } undef w' (.inr ⟨d, rfl⟩) h.1 (fun e => (hrd e).1) ?_⟩
        rw [← Act.put_defers a x.dst v d]
        exact h.2
      case enter f args =>
        refine Calls.mono h fun e w'' he => ?_
        cases e with
        | returned u => exact ⟨he.1, hK a u w'' (.inl rfl) he.1 (fun e => by obtain ⟨_, v, hv⟩ := hrd e; cases hv) he.2⟩
        | panicked c => exact he
        | outgrown => exact he
      case row row args => exact Rows.mono h fun u w'' he => ⟨he.1, hK a u w'' (.inl rfl) he.1 (fun e => by obtain ⟨_, v, hv⟩ := hrd e; cases hv) he.2⟩
    | halt x w' =>
      cases x <;> exact h
  · rename_i hw
    rw [if_neg hw] at h
    by_cases hq : qCall q y.op = true
    · exact hK a undef w (.inl rfl) (fun _ => Sub.refl w) (fun _ => rfl) h
    · exact hK a undef w (.inl rfl) (fun _ => Sub.refl w) (fun _ => rfl) h
theorem st_under {K K' : Act → World → Prop} {x y : Oper} {v : Value} {a : Act} {w : World} (h1 : ∀ d, x.dst = some d → d ∉ y.looksAt ops) (h2 : ∀ d, x.dst = some d → y.dst ≠ some d) (hsy : ∀ cs b, y.op ≠ .select cs b)
    (hK : ∀ (a' : Act) (u : Value) w', (a' = a ∨ ∃ d, a' = { a with defers := d :: a.defers }) → K (a'.put y.dst u) w' → K' ((a'.put x.dst v).put y.dst u) w')
    (h : st P q ops K y a w) : st P q ops K' y (a.put x.dst v) w := by
  unfold st at *
  rw [wanted_put y a x.dst v h1]
  split
  · rename_i hw
    rw [if_pos hw] at h
    rw [execOp_put y hsy a x.dst v h1]
    refine ⟨h.1, ?_⟩
    replace h := h.2
    unfold Oper.wp at *
    rw [execOp_put y hsy a x.dst v h1]
    generalize (execOp a.eval y).run P w = r at *
    cases r with
    | ok n w' =>
      cases n <;> simp only [Oper.upon] at h ⊢
      case value u => exact ⟨h.1, hK a u w' (.inl rfl) h.2⟩
      case skip => exact ⟨h.1, hK a undef w' (.inl rfl) h.2⟩
      case defer d => exact ⟨h.1, by rw [Act.put_defers]; exact hK { a with defers := d :: a.defers } undef w' (.inr ⟨d, rfl⟩) h.2⟩
      case enter f args =>
        refine Calls.mono h fun e w'' he => ?_
        cases e with
        | returned u => exact ⟨he.1, hK a u w'' (.inl rfl) he.2⟩
        | panicked c => exact he
        | outgrown => exact he
      case row row args => exact Rows.mono h fun u w'' he => ⟨he.1, hK a u w'' (.inl rfl) he.2⟩
    | halt x w' => cases x <;> exact h
  · rename_i hw
    rw [if_neg hw] at h
    exact hK a undef w (.inl rfl) h
/-- It comes to something. -/
theorem st_some {K : Act → World → Prop} {x : Oper} {a : Act} {w : World} (h : st P q ops K x a w) : ∃ (a' : Act) (u : Value) (w' : World), (a' = a ∨ ∃ d, a' = { a with defers := d :: a.defers }) ∧ K (a'.put x.dst u) w' := by
  unfold st at h
  split at h
  · have h := h.2
    unfold Oper.wp at h
    generalize (execOp a.eval x).run P w = r at *
    cases r with
    | ok n w' =>
      cases n <;> simp only [Oper.upon] at h
      case value u => exact ⟨a, u, w', .inl rfl, h.2⟩
      case skip => exact ⟨a, undef, w', .inl rfl, h.2⟩
      case defer d => exact ⟨_, undef, w', .inr ⟨d, rfl⟩, h.2⟩
      case enter f args =>
        obtain ⟨e, w'', fr, he, _⟩ := h []
        cases e with
        | returned u => exact ⟨a, u, w'', .inl rfl, he.2⟩
        | panicked c => exact he.elim
        | outgrown => obtain ⟨_, _, he⟩ := he; exact he.elim
      case row row args =>
        obtain ⟨u, w'', he, _⟩ := h (Frame.ofRow P row args .normal) []
        exact ⟨a, u, w'', .inl rfl, he.2⟩
    | halt x w' => cases x <;> exact h.elim
  · exact ⟨a, undef, w, .inl rfl, h⟩
theorem st_mono {K K' : Act → World → Prop} {x : Oper} {a : Act} {w : World} (hK : ∀ (a' : Act) (u : Value) w', (a' = a ∨ ∃ d, a' = { a with defers := d :: a.defers }) → K (a'.put x.dst u) w' → K' (a'.put x.dst u) w') (h : st P q ops K x a w) : st P q ops K' x a w := by
  unfold st at *
  split
  · rename_i hw
    rw [if_pos hw] at h
    refine ⟨h.1, ?_⟩
    replace h := h.2
    unfold Oper.wp at *
    generalize (execOp a.eval x).run P w = r at *
    cases r with
    | ok n w' =>
      cases n <;> simp only [Oper.upon] at h ⊢
      case value u => exact ⟨h.1, hK a u w' (.inl rfl) h.2⟩
      case skip => exact ⟨h.1, hK a undef w' (.inl rfl) h.2⟩
      case defer d => exact ⟨h.1, hK _ undef w' (.inr ⟨d, rfl⟩) h.2⟩
      case enter f args =>
        refine Calls.mono h fun e w'' he => ?_
        cases e with
        | returned u => exact ⟨he.1, hK a u w'' (.inl rfl) he.2⟩
        | panicked c => exact he
        | outgrown => exact he
      case row row args => exact Rows.mono h fun u w'' he => ⟨he.1, hK a u w'' (.inl rfl) he.2⟩
    | halt x w' => cases x <;> exact h
  · rename_i hw
    rw [if_neg hw] at h
    exact hK a undef w (.inl rfl) h
theorem Yl.defers {S : World → Prop} {o : Oper} {v : Value} {a a' : Act} (h : Yl P ops S o v a) (ha : a' = a ∨ ∃ d, a' = { a with defers := d :: a.defers }) : Yl P ops S o v a' := by
  rcases ha with rfl | ⟨d, rfl⟩
  · exact h
  · exact h
theorem Yl.defers' {S : World → Prop} {o : Oper} {v : Value} {a a' : Act} (h : Yl P ops S o v a') (ha : a' = a ∨ ∃ d, a' = { a with defers := d :: a.defers }) : Yl P ops S o v a := by
  rcases ha with rfl | ⟨d, rfl⟩
  · exact h
  · exact h
theorem swap {K : Act → World → Prop} {x y : Oper} (hc : comm P q ops x y = true) {a : Act} {w : World} (h : st P q ops (st P q ops K y) x a w) : st P q ops (st P q ops K x) y a w := by
  unfold comm at hc
  simp only [Bool.and_eq_true] at hc
  obtain ⟨⟨⟨hap, hsx⟩, hsy⟩, hk⟩ := hc
  obtain ⟨h1, h2, h3⟩ := Oper.apart_spec hap
  have hsx : ∀ cs b, x.op ≠ .select cs b := fun cs b e => by rw [e] at hsx; cases hsx
  have hsy : ∀ cs b, y.op ≠ .select cs b := fun cs b e => by rw [e] at hsy; cases hsy
  have h2' : ∀ d, y.dst = some d → x.dst ≠ some d := fun d hd e => h2 d e hd
  by_cases hvx : valOp P x.op = true
  · obtain ⟨v, hy1, hk1⟩ := st_val hvx h
    refine st_over (x := x) (v := v) h1 h2 hsy (fun a' u w' ha' _ _ hK => ?_) hk1
    have hy2 : Yl P ops (fun _ => True) x v (a'.put y.dst u) := (hy1.defers ha').put h3 hsx
    refine st_yl (S := fun _ => True) (fun _ => hy2) (valOp_q hvx) trivial hy2 ?_
    rw [Act.put_comm a' u v h2']; exact hK
  · by_cases hvy : valOp P y.op = true
    · obtain ⟨a1, u, w1, ha1, hs1⟩ := st_some h
      obtain ⟨v, hy1, _⟩ := st_val hvy hs1
      have hy0 : Yl P ops (fun _ => True) y v a := (hy1.unput h1 hsy).defers' ha1
      refine st_yl (S := fun _ => True) (fun _ => hy0) (valOp_q hvy) trivial hy0 ?_
      refine st_under (x := y) (v := v) h3 h2' hsx (fun a' u w' ha' hK => ?_) h
      obtain ⟨v', hy2, hk⟩ := st_val hvy hK
      have hy3 : Yl P ops (fun _ => True) y v (a'.put x.dst u) := (hy0.defers ha').put h1 hsy
      have : v' = v := by
        rcases hy2 with ⟨g1, g2⟩ | ⟨g1, rfl⟩ <;> rcases hy3 with ⟨g3, g4⟩ | ⟨g3, rfl⟩
        · have e1 := g2 w trivial
          have e2 := g4 w trivial
          rw [e1] at e2
          injection e2 with e2
          injection e2
        · rw [g1] at g3; cases g3
        · rw [g1] at g3; cases g3
        · rfl
      subst this
      rw [Act.put_comm a' v' u h2']; exact hk
    · simp only [hvx, hvy, Bool.false_or, Bool.or_eq_true, Bool.and_eq_true] at hk
      obtain ⟨hrx, hk⟩ := hk
      obtain ⟨v, hy1, hk1⟩ := st_rd hrx h
      refine st_over (x := x) (v := v) h1 h2 hsy (fun a' u w' ha' hsub hsame hK => ?_) hk1
      have hy2 : Yl P ops (Sub w) x v (a'.put y.dst u) := (hy1.defers ha').put h3 hsx
      refine st_yl (S := Sub w) (fun e => absurd e hvx) (rdOp_q hrx) ?_ hy2 ?_
      · rcases hk with hk | hk
        · rw [hsame hk]; exact Sub.refl w
        · exact hsub hk
      · rw [Act.put_comm a' u v h2']; exact hK

/-! ### Orders -/
/-- The operations of a row of numbers. -/
def pickOps (ops : Array Oper) (l : List Nat) : List Oper := l.filterMap (ops[·]?)
theorem wl_front {A : Act → World → Prop} {y : Oper} {post : List Oper} : ∀ (pre : List Oper) {a : Act} {w : World}, (∀ x ∈ pre, comm P q ops x y = true) → wl P q ops noQ A (pre ++ y :: post) a w → wl P q ops noQ A (y :: (pre ++ post)) a w
  | [], _, _, _, h => h
  | x :: pre, a, w, hc, h => by
    rw [List.cons_append, wl_st] at h
    have h2 : st P q ops (st P q ops (wl P q ops noQ A (pre ++ post)) y) x a w := st_mono (fun a' u w' _ hk => wl_front pre (fun z hz => hc z (by simp [hz])) hk) h
    have h3 := swap (hc x (by simp)) h2
    exact h3
/-- Whatever is ahead of another in a row of numbers must be ahead of it in every order, or may as well be behind it. -/
def Order (P : Program) (q : Prims) (ops : Array Oper) (l : List Nat) : Prop := l.Pairwise fun i j => ((Region.before ops).getD j 0).testBit i = true ∨ ∃ x y, ops[i]? = some x ∧ ops[j]? = some y ∧ comm P q ops x y = true
theorem wl_any {Q : Exit → Act → World → Prop} {A : Act → World → Prop} (hlt : ∀ (i : Nat) (o : Oper), ops[i]? = some o → ∀ e ∈ o.after, Region.binds .any e = true → e.on < i) (hQ : ∀ a w, A a w → Q .normal a w) :
    ∀ (fuel : Nat) (l : List Nat) (listed : Array Bool) (a : Act) (w : World), listed.size = ops.size → l.Nodup → (∀ i, i ∈ l ↔ i < ops.size ∧ listed.getD i false = false) → l.length ≤ fuel →
      (∀ k j, listed.getD k false = true → ((Region.before ops).getD k 0).testBit j = true → listed.getD j false = true) → Order P q ops l → wl P q ops noQ A (pickOps ops l) a w → wpAny P .any ops Q fuel listed a w := by
  have hdone : ∀ (l : List Nat) (listed : Array Bool) (a : Act) (w : World), listed.size = ops.size → (∀ i, i ∈ l ↔ i < ops.size ∧ listed.getD i false = false) → Region.ready .any ops listed = [] → wl P q ops noQ A (pickOps ops l) a w → Q .normal a w := by
    intro l listed a w hsz hl hr h
    have hall : ∀ j, j < ops.size → listed.getD j false = true := by
      intro j
      induction j using Nat.strongRecOn with
      | ind j ih =>
        intro hj
        cases hs : listed.getD j false with
        | true => rfl
        | false =>
          exfalso
          have hj' : ops[j]? = some ops[j] := Array.getElem?_eq_getElem hj
          have : j ∈ Region.ready .any ops listed := mem_ready.2 ⟨by
            rw [Array.getD_eq_getD_getElem?] at hs ⊢
            rw [Array.getElem?_eq_getElem (by omega)] at hs ⊢
            exact hs, ops[j], hj', fun e he hb => ih e.on (hlt j _ hj' e he hb) (Nat.lt_trans (hlt j _ hj' e he hb) hj)⟩
          rw [hr] at this; cases this
    have : l = [] := List.eq_nil_iff_forall_not_mem.2 fun i hi => by
      obtain ⟨h1, h2⟩ := (hl i).1 hi
      rw [hall i h1] at h2; cases h2
    subst this
    exact hQ a w h
  intro fuel
  induction fuel with
  | zero =>
    intro l listed a w hsz hnd hl hf hcl hor h
    have : l = [] := List.eq_nil_of_length_eq_zero (by omega)
    subst this
    refine ⟨?_, hQ a w h⟩
    rw [List.eq_nil_iff_forall_not_mem]
    intro i hi
    obtain ⟨h1, o, h2, _⟩ := mem_ready.1 hi
    have hin : i < ops.size := (Array.getElem?_eq_some_iff.1 h2).1
    have h3 := (hl i).2 ⟨hin, by
      rw [Array.getD_eq_getD_getElem?] at h1 ⊢
      rw [Array.getElem?_eq_getElem (by omega)] at h1 ⊢
      exact h1⟩
    cases h3
  | succ fuel ih =>
    intro l listed a w hsz hnd hl hf hcl hor h
    refine ⟨fun hr => hdone l listed a w hsz hl hr h, fun j hj => ?_⟩
    obtain ⟨h1, o, hoj, haft⟩ := mem_ready.1 hj
    have hjn : j < ops.size := (Array.getElem?_eq_some_iff.1 hoj).1
    have hSj : listed.getD j false = false := by
      rw [Array.getD_eq_getD_getElem?] at h1 ⊢
      rw [Array.getElem?_eq_getElem (by omega)] at h1 ⊢
      exact h1
    have hbef : ∀ k, ((Region.before ops).getD j 0).testBit k = true → listed.getD k false = true := fun k hk => by
      obtain ⟨e, he, hbi, h'⟩ := (before_spec hoj (hlt j o hoj) k).1 hk
      have := haft e he hbi
      rcases h' with rfl | h'
      · exact this
      · exact hcl _ _ this h'
    obtain ⟨pre, post, rfl⟩ := List.append_of_mem ((hl j).2 ⟨hjn, hSj⟩)
    have hpick : pickOps ops (pre ++ j :: post) = pickOps ops pre ++ o :: pickOps ops post := by
      unfold pickOps
      rw [List.filterMap_append, List.filterMap_cons, hoj]
    have hpick2 : pickOps ops (pre ++ post) = pickOps ops pre ++ pickOps ops post := by
      unfold pickOps
      rw [List.filterMap_append]
    have hnd' : j ∉ pre ∧ j ∉ post := by
      rw [List.nodup_append] at hnd
      obtain ⟨g1, g2, g3⟩ := hnd
      exact ⟨fun hm => g3 j hm j (by simp) rfl, (List.nodup_cons.1 g2).1⟩
    rw [hpick] at h
    have hfr := wl_front (pickOps ops pre) (fun x hx => by
      obtain ⟨i, hi, hxi⟩ := List.mem_filterMap.1 hx
      have := (List.pairwise_append.1 hor).2.2 i hi j (by simp)
      rcases this with hbit | ⟨x', y', g1, g2, g3⟩
      · have := hbef i hbit
        rw [((hl i).1 (by simp [hi])).2] at this; cases this
      · rw [hxi] at g1; injection g1 with g1; subst g1
        rw [hoj] at g2; injection g2 with g2; subst g2
        exact g3) h
    rw [← hpick2, wl_st] at hfr
    have hset : ∀ i, (listed.setIfInBounds j true).getD i false = if i = j then true else listed.getD i false := fun i => by
      by_cases e : i = j
      · subst e
        rw [if_pos rfl]
        simp [Array.getD_eq_getD_getElem?, hsz, hjn]
      · rw [if_neg e, getD_set_ne false (Ne.symm e)]
    have next : ∀ a' w', wl P q ops noQ A (pickOps ops (pre ++ post)) a' w' → wpAny P .any ops Q fuel (listed.setIfInBounds j true) a' w' := fun a' w' h' => by
      refine ih (pre ++ post) (listed.setIfInBounds j true) a' w' (by simpa using hsz) ?_ ?_ ?_ ?_ ?_ h'
      · exact (List.nodup_append.2 ⟨(List.nodup_append.1 hnd).1, (List.nodup_cons.1 (List.nodup_append.1 hnd).2.1).2, fun x hx y hy => (List.nodup_append.1 hnd).2.2 x hx y (by simp [hy])⟩)
      · intro i
        rw [hset i]
        have := hl i
        simp only [List.mem_append, List.mem_cons] at this ⊢
        by_cases e : i = j
        · subst e
          simp [hnd'.1, hnd'.2]
        · simp only [e, false_or, if_false] at this ⊢
          exact this
      · simp only [List.length_append, List.length_cons] at hf ⊢
        omega
      · intro k i hk hbit
        rw [hset k] at hk
        rw [hset i]
        split
        · rfl
        · split at hk
          · rename_i e; subst e; exact hbef i hbit
          · exact hcl k i hk hbit
      · refine List.pairwise_append.2 ⟨(List.pairwise_append.1 hor).1, (List.pairwise_cons.1 (List.pairwise_append.1 hor).2.1).2, fun x hx y hy => (List.pairwise_append.1 hor).2.2 x hx y (by simp [hy])⟩
    unfold wpOp
    simp only [hoj]
    unfold st at hfr
    split
    · rename_i hw
      rw [if_pos hw] at hfr
      left
      have h2 := hfr.2
      unfold Oper.wp at *
      generalize (execOp a.eval o).run P w = r at *
      cases r with
      | ok n w' =>
        cases n <;> simp only [Oper.upon] at h2 ⊢
        case value u => exact next _ _ h2.2
        case skip => exact next _ _ h2.2
        case defer d => exact next _ _ h2.2
        case enter f args =>
          refine Calls.mono h2 fun e w'' he => ?_
          cases e with
          | returned u => exact next _ _ he.2
          | panicked c => exact he.elim
          | outgrown => obtain ⟨_, _, he⟩ := he; exact he.elim
        case row row args => exact Rows.mono h2 fun u w'' he => next _ _ he.2
      | halt x w' => cases x <;> exact h2.elim
    · rename_i hw
      rw [if_neg hw] at hfr
      exact next _ _ hfr
end
theorem hole_len : ∀ (n : Nat) (l : List Nat), l.Nodup → (∀ i ∈ l, i < n) → l.length ≤ n
  | 0, [], _, _ => Nat.le_refl _
  | 0, i :: l, _, h => absurd (h i (by simp)) (Nat.not_lt_zero i)
  | n + 1, l, hn, h => by
    by_cases hm : n ∈ l
    · have := hole_len n (l.erase n) (hn.erase n) (fun i hi => by
        have h1 := (List.Nodup.mem_erase_iff hn).1 hi
        have := h i h1.2
        have := h1.1
        omega)
      rw [List.length_erase_of_mem hm] at this
      omega
    · have := hole_len n l hn (fun i hi => by
        have := h i hi
        have : i ≠ n := fun e => hm (e ▸ hi)
        omega)
      omega
theorem hole_all : ∀ (n : Nat) (l : List Nat), l.Nodup → (∀ i ∈ l, i < n) → l.length = n → ∀ i, i < n → i ∈ l
  | 0, _, _, _, _, i, hi => absurd hi (Nat.not_lt_zero i)
  | n + 1, l, hn, h, hl, i, hi => by
    have hm : n ∈ l := Classical.byContradiction fun hm => by
      have := hole_len n l hn (fun i hi => by
        have := h i hi
        have : i ≠ n := fun e => hm (e ▸ hi)
        omega)
      omega
    by_cases e : i = n
    · subst e; exact hm
    · have := hole_all n (l.erase n) (hn.erase n) (fun i hi => by
        have h1 := (List.Nodup.mem_erase_iff hn).1 hi
        have := h i h1.2
        have := h1.1
        omega) (by rw [List.length_erase_of_mem hm]; omega) i (by omega)
      exact ((List.Nodup.mem_erase_iff hn).1 this).2
/-- An order of a region's operations that stands for all. -/
def orderOk (P : Program) (q : Prims) (ops : Array Oper) (l : List Nat) : Bool :=
  P.follows .mixedOrders && (ops.toList.zipIdx.all fun (o, i) => o.after.all fun e => !Region.binds .any e || decide (e.on < i)) &&
  (let b := Region.before ops
   let rec go : List Nat → Bool
     | [] => true
     | i :: l => (l.all fun j => j != i && ((b.getD j 0).testBit i || match ops[i]?, ops[j]? with | some x, some y => comm P q ops x y | _, _ => false)) && decide (i < ops.size) && go l
   go l) && decide (l.length = ops.size)
section
variable {P : Program} {prims : Prims} {n : Nat} {K : Fm → St → Prop} {Q : AExit → Fm → St → Prop} {φ : Fm} {s : St}
theorem order_go {ops : Array Oper} : ∀ {l : List Nat}, orderOk.go P prims ops (Region.before ops) l = true → l.Nodup ∧ (∀ i ∈ l, i < ops.size) ∧ Order P prims ops l
  | [], _ => ⟨List.nodup_nil, fun i hi => by simp at hi, List.Pairwise.nil⟩
  | i :: l, h => by
    unfold orderOk.go at h
    simp only [Bool.and_eq_true, List.all_eq_true, decide_eq_true_eq] at h
    obtain ⟨⟨h1, h2⟩, h3⟩ := h
    obtain ⟨g1, g2, g3⟩ := order_go h3
    refine ⟨List.nodup_cons.2 ⟨fun hi => ?_, g1⟩, ?_, List.Pairwise.cons (fun j hj => ?_) g3⟩
    · have := (h1 i hi).1
      simp at this
    · intro k hk
      rcases List.mem_cons.1 hk with rfl | hk
      · exact h2
      · exact g2 k hk
    · have := (h1 j hj).2
      rw [Bool.or_eq_true] at this
      rcases this with h | h
      · exact .inl h
      · right
        split at h
        · rename_i x y hx hy; exact ⟨x, y, hx, hy, h⟩
        · cases h
/-- A region that draws: by any order that stands for all. -/
theorem TC_ord {id : Nat} {ops : Array Oper} (l : List Nat) (hok : orderOk P prims ops l = true) (h : TO P prims n false ops (pickOps ops l) K φ s) : TC P prims n (.region id ops true) K Q φ s := by
  unfold orderOk at hok
  simp only [Bool.and_eq_true, decide_eq_true_eq] at hok
  obtain ⟨⟨⟨hm, hed⟩, hgo⟩, hlen⟩ := hok
  obtain ⟨g1, g2, g3⟩ := order_go hgo
  intro hp base ρ X w a R hb hs hr hd hR
  have hlt : ∀ (i : Nat) (o : Oper), ops[i]? = some o → ∀ e ∈ o.after, Region.binds .any e = true → e.on < i := fun i o ho e he hb => by
    rw [List.all_eq_true] at hed
    have := hed (o, i) (by
      rw [List.mem_zipIdx_iff_getElem?]
      simpa using ho)
    have := Array.all_eq_true_iff_forall_mem.1 this e he
    simpa [hb] using this
  have hall : ∀ i, i ∈ l ↔ i < ops.size ∧ (Array.replicate ops.size false).getD i false = false := fun i => by
    constructor
    · intro hi
      refine ⟨g2 i hi, ?_⟩
      rw [Array.getD_eq_getD_getElem?, Array.getElem?_replicate]
      split <;> rfl
    · rintro ⟨hi, _⟩
      exact hole_all ops.size l g1 g2 hlen i hi
  have hu : Rel w ρ (UX ρ s.h X) s.c .undef undef := by simp [Rel, RelL, undef]
  have hpost := Post.grow (v := .undef) (v' := undef) (w' := { w with drawn := w.drawn + 1 }) hs rfl rfl rfl (Nat.le_refl _) (fun _ _ => rfl) (by simp [Rel, RelL, undef])
  have hpf := Post.frame (dst := none) hs hr hd hpost
  obtain ⟨ρ1, k1, k2, k3, k4, k5, k6, k7⟩ := hpf
  refine wp_region_any hm (wl_any (q := prims) (A := fun a' w' => R .normal a' w') hlt (fun _ _ h => h) ops.size l _ a _ (by simp) g1 hall (by omega) ?_ g3 ?_)
  · intro k j hk
    exfalso
    rw [Array.getD_eq_getD_getElem?, Array.getElem?_replicate] at hk
    split at hk <;> simp at hk
  · exact h hp base ρ1 X { w with drawn := w.drawn + 1 } a noQ _ (Nat.le_trans hb k5.size) k3 k4 k7 fun φ' s' a' w' hk hpf => hR .normal φ' s' a' w' hk (PostF.cons k1 k2 k5 k6 hpf)
end
end Go.Ai
end
section
/- Rows of bytes whose block is of a known type: append, unsafe.SliceData, unsafe.String. -/
set_option linter.unusedVariables false
set_option linter.unusedSimpArgs false
open Go.Ai.Enc (enc is)
namespace Go.Ai
section
variable {P : Program} {base : Nat} {ρ : Pl} {X : Reg} {s s' : St} {w : World}
theorem post_storeT {t0 : TypeId} {n off : Nat} {cs xs : List AV} {vs : List Value} {v : AV} {v' : Value} (h : Sim base ρ X s w) (hg : hget s.h n = some (.tc t0 cs)) (hx : RelL w ρ (UX ρ s.h X) s.c xs vs) (hle : off + xs.length ≤ cs.length) (hone : ∀ y ∈ xs, y.one = true)
    (hv : ∀ w' U', Mono w ρ (UX ρ s.h X) s.c w' ρ U' s.c → Rel w' ρ U' s.c v v') :
    ∃ w', (storeCells ⟨(ρ n).1, off, none⟩ vs).run P w = .ok () w' ∧ Post base ρ X s w v (s.put n (.tc t0 (splice cs off xs))) v' w' := by
  obtain ⟨C, fz, h1, h2, h3, h4⟩ := h.obj n _ hg
  have hl := h3.length
  have hl2 := hx.length
  simp only [Array.length_toList] at hl
  have hrun := run_storeCells_ P (ρ n).1 off t0 fz vs 0 C w h1 h2 (by omega) (hx.one hone)
  simp only [Nat.add_zero] at hrun
  refine ⟨w.setRow (ρ n).1 (C.toList.take off ++ vs ++ C.toList.drop (off + vs.length)).toArray, hrun, ?_⟩
  have hsz : ((C.toList.take off ++ vs ++ C.toList.drop (off + vs.length)).toArray).size = C.size := by simp; omega
  refine Post.put (w' := w.setRow (ρ n).1 (C.toList.take off ++ vs ++ C.toList.drop (off + vs.length)).toArray) h hg (by simp) (.tc t0 (splice cs off xs)) (by simp) rfl rfl rfl (by simp) (fun b hb => setRow_other w _ b _ hb) (fun a ha => keep_setRow h1 hsz a ha) v v' (fun U' m => ⟨?_, hv _ _ m⟩)
  refine ⟨_, fz, setRow_heap w _ C _ t0 fz h1, ?_, ?_, splice_one h4 hone⟩
  · intro j hj
    rw [hsz] at hj
    exact h2 j hj
  · exact RelL.mono m _ _ (splice_rel h3 hx off)
/-- Cells of a block are frozen: nobody knows it any more. -/
theorem post_freeze {t0 : TypeId} {n k : Nat} {cs : List AV} {v : AV} {v' : Value} (h : Sim base ρ X s w) (hg : hget s.h n = some (.tc t0 cs)) (a : Addr) (ha : a.block = (ρ n).1) (hv : lit v = true) (hv' : v' = litV v) : Post base ρ X s w v (s.del n) v' (w.freeze a k) := by
  have hb : ∀ b, b ≠ (ρ n).1 → (w.freeze a k).heap[b]? = w.heap[b]? := fun b hb => by
    unfold World.freeze
    split
    · rfl
    · simp only [Array.getElem?_modify]
      rw [if_neg (by rw [ha]; exact fun e => hb e.symm)]
  have hsz : (w.freeze a k).heap.size = w.heap.size := by
    unfold World.freeze
    split <;> simp
  obtain ⟨C, fz, h1, h2, h3, h4⟩ := h.obj n _ hg
  have hcell : ∀ c : Addr, (w.freeze a k).cell? c = w.cell? c := fun c => by
    by_cases e : c.block = (ρ n).1
    · by_cases hk : k = 0
      · rw [show w.freeze a k = w by unfold World.freeze; rw [if_pos hk]]
      · have : ∃ f, (w.freeze a k).heap[c.block]? = some (.cells C t0 f) := by
          obtain ⟨lo, hi⟩ := fz
          refine ⟨if lo == hi then (a.off, a.off + k) else (min lo a.off, max hi (a.off + k)), ?_⟩
          unfold World.freeze
          rw [if_neg hk]
          simp only [Array.getElem?_modify]
          rw [if_pos (by rw [ha, e]), e, h1]
          rfl
        obtain ⟨f, hf⟩ := this
        unfold World.cell?
        rw [hf, e, h1]
    · exact World.cell?_of_block (w := w) (hb c.block e)
  have hw : (w.freeze a k).os = w.os ∧ (w.freeze a k).tape = w.tape ∧ (w.freeze a k).output = w.output := by
    unfold World.freeze
    split <;> exact ⟨rfl, rfl, rfl⟩
  have hno : ∀ j, Umap ρ s.h (ρ n).1 j := fun j => ⟨n, _, hg, rfl, trivial⟩
  have hfr : Fr (Umap ρ s.h) w (w.freeze a k) := by
    refine ⟨hw.1, hw.2.1, hw.2.2, Nat.le_of_eq hsz.symm, fun b _ hj => hb b (fun e => hj 0 (e ▸ hno 0)), fun c u hu _ => by rw [hcell]; exact hu, fun c hc => by rw [hcell]; exact hc⟩
  have hU : ∀ b j, b < w.heap.size → Umap ρ (s.del n).h b j → Umap ρ s.h b j := by
    rintro b j _ ⟨m, o, hm, hr⟩; exact ⟨m, o, (hget_hdel hm).2, hr⟩
  refine ⟨ρ, fun _ _ => rfl, Nat.le_refl _, ?_, (lit_rel hv).2 hv', hfr, hU⟩
  exact h.step (s' := s.del n) hfr (fun _ _ => rfl) (Nat.le_refl _) (fun m o hm => h.lt m o (hget_hdel hm).2)
    (fun m o hm => .inl ⟨h.lt m o (hget_hdel hm).2, (hget_hdel hm).2, hb _ (h.inj m n o _ (hget_hdel hm).2 hg (hget_hdel hm).1)⟩) hU
    (fun m k o1 o2 hm hk hne => h.inj m k o1 o2 (hget_hdel hm).2 (hget_hdel hk).2 hne) (fun m o hm => h.base m o (hget_hdel hm).2)
end
/-- A row of bytes in a block of a known type; or none. -/
def isT (e : TypeId) (x : AV) (en : En) (l : List UInt8) : Prop := ∃ q cap sp, x = .hs 0 q 0 l.length cap ∧ en = .tc q e (l.map (enc : UInt8 → AV) ++ sp) ∧ sp.length = cap - l.length ∧ l.length ≤ cap ∧ 0 < l.length ∧ ∀ y ∈ sp, y.one = true
def isR0 (e : TypeId) (x : AV) (en : En) (l : List UInt8) : Prop := isT e x en l ∨ (x = .nils ∧ en = .own .nils ∧ l = [])
section
variable {P : Program} {prims : Prims} {n : Nat} {b : Bool} {K : Fm → St → Prop} {φ : Fm} {s : St} {ops : Array Oper} {l : List Oper} {d : Tmp} {x y : Operand} {t t' e ty : TypeId} {pos : String} {af : Array Edge} {es : List En}
theorem enc_one (b : UInt8) : (enc b : AV).one = true := rfl
theorem bytes_relC {w : World} {ρ : Pl} {U : Reg} {c : Nat} : ∀ l : List UInt8, RelC w ρ U c 0 (l.map (enc : UInt8 → AV)) (l.map fun b => .int .u8 b.toNat)
  | [] => rfl
  | b :: l => ⟨.int .u8 b.toNat, _, rfl, ⟨rfl, fun y hy => by simp [AV.cells, enc] at hy; subst hy; rfl, fun _ => rfl, fun e => absurd rfl e⟩, rfl, bytes_relC l⟩
theorem bytes_relL {w : World} {ρ : Pl} {U : Reg} {c : Nat} : ∀ l : List UInt8, RelL w ρ U c (l.map (enc : UInt8 → AV)) (l.map fun b => .int .u8 b.toNat)
  | [] => rfl
  | b :: l => ⟨.int .u8 b.toNat, _, rfl, rfl, bytes_relL l⟩
theorem bytes_rel_eq {w : World} {ρ : Pl} {U : Reg} {c : Nat} : ∀ {l : List UInt8} {vs : List Value}, RelL w ρ U c (l.map (enc : UInt8 → AV)) vs → vs = l.map fun b => .int .u8 b.toNat
  | [], vs, h => h
  | b :: l, vs, h => by
    obtain ⟨v, us, rfl, h1, h2⟩ := h
    rw [List.map_cons, bytes_rel_eq h2]
    congr 1
theorem relC_bytes {w : World} {ρ : Pl} {U : Reg} {c : Nat} : ∀ {l : List UInt8} {vs : List Value}, RelC w ρ U c 0 (l.map (enc : UInt8 → AV)) vs → vs = l.map fun b => .int .u8 b.toNat
  | [], vs, h => h
  | b :: l, vs, h => by
    obtain ⟨v, us, rfl, _, h1, h2⟩ := h
    rw [List.map_cons, relC_bytes h2]
    have : v = .int .u8 b.toNat := h1
    subst this; rfl
theorem bytes_rel_split {w : World} {ρ : Pl} {U : Reg} {c : Nat} {l : List UInt8} {sp : List AV} {C : List Value} (h : RelL w ρ U c (l.map (enc : UInt8 → AV) ++ sp) C) : ∃ D, C = (l.map fun b => .int .u8 b.toNat) ++ D ∧ RelL w ρ U c sp D := by
  have h1 := h.take l.length
  have h2 := h.drop l.length
  rw [show (l.map (enc : UInt8 → AV) ++ sp).take l.length = l.map enc by rw [show l.length = (l.map (enc : UInt8 → AV)).length by simp, List.take_left]] at h1
  rw [show (l.map (enc : UInt8 → AV) ++ sp).drop l.length = sp by rw [show l.length = (l.map (enc : UInt8 → AV)).length by simp, List.drop_left]] at h2
  exact ⟨C.drop l.length, by rw [← bytes_rel_eq h1, List.take_append_drop], h2⟩
/-- append onto a row of bytes of a known type. -/
theorem TO_apB {a bv ea : _} {xs m r : List UInt8} {ts : Array TypeId} {d1 : TypeDesc} (hu : P.underlying t = some (.slice e)) (hu' : P.underlying t' = some d1) (hd1 : ∀ q, d1 ≠ .int q) (h0 : ts[0]? = some t) (h1 : ts[1]? = some t') (he : EF P e 0 1) (hx : fEval n φ x = some a) (hy : fEval n φ y = some bv)
    (ha : isR0 e a ea xs) (hb : source 0 bv s = some (m.map enc)) (hr : app 1 xs m = some r) (hs : Hp s (ea :: es))
    (k : ∀ z en s', isR0 e z en r → Hp s' (en :: es) → TO P prims n false ops l K (upd φ d z) s') : TO P prims n false ops (⟨some d, .call ⟨.builtin .append, #[x, y], ts⟩, ty, pos, af, none⟩ :: l) K φ s := by
  obtain ⟨hroom, rfl⟩ := app_some hr
  obtain ⟨i, hi, hi1, hi2⟩ := he.info
  obtain ⟨z, hz, hz1, hz2⟩ := he.zero
  refine TO_sem rfl rfl (fun _ => rfl) fun hp base ρ X w ac A B hba hsim hrl hd hA => ?_
  have hxr := aEval_rel hrl (fEval_eq hx)
  have hyr := aEval_rel hrl (fEval_eq hy)
  have hexec : ∀ {v' : Value} {w' : World}, (Builtin.append_ ts ty #[ac.eval x, ac.eval y]).run P w = .ok v' w' → A (ac.put (some d) v') w' → Oper.wp P ⟨some d, .call ⟨.builtin .append, #[x, y], ts⟩, ty, pos, af, none⟩ ac w A B := by
    intro v' w' hrun hA'
    refine wp_val (v' := v') (w' := w') ?_ hA'
    have : execOp ac.eval ⟨some d, .call ⟨.builtin .append, #[x, y], ts⟩, ty, pos, af, none⟩ = (do pure (.value (← Builtin.append_ ts ty #[ac.eval x, ac.eval y])) : Sem Next) := by
      simp only [execOp, resolve, pure_bind, invoke, List.map_toArray, List.map_cons, List.map_nil]; rfl
    rw [this]
    simp [hrun]
  obtain ⟨us, hus, hlen, hfirst⟩ := source_rel (P := P) hsim hyr hb
  have hus' := relC_bytes hus
  subst hus'
  rw [List.length_map] at hlen hfirst
  have hfull : ((m.map fun b => Value.int .u8 b.toNat) : List Value).take (m.length * esz 0) = m.map fun b => .int .u8 b.toNat := List.take_of_length_le (by simp [esz])
  have hf : ∀ w' : World, w'.heap = w.heap → (Builtin.firstCells (esz 0) m.length (ac.eval y)).run P w' = .ok (m.map fun b => Value.int .u8 b.toNat).toArray w' := fun w' e => by
    have := hfirst w' (fun a u hu => by unfold World.cell? at hu ⊢; rw [e]; exact hu) m.length (Nat.le_refl _)
    rwa [hfull] at this
  -- a new row
  have hgrow : ∀ (base0 : Option Addr) (cap : Nat), ac.eval x = .slice base0 xs.length cap → (∀ w' : World, w'.heap = w.heap → (Builtin.firstCells (esz 0) xs.length (.slice base0 xs.length cap)).run P w' = .ok (xs.map fun b => Value.int .u8 b.toNat).toArray w') → cap < xs.length + m.length → m ≠ [] → Hp s es →
      Oper.wp P ⟨some d, .call ⟨.builtin .append, #[x, y], ts⟩, ty, pos, af, none⟩ ac w A B := by
    intro base0 cap hxe hold hgt hne hs0
    obtain ⟨i', hi', zv, hzv, hz'⟩ : ∃ i', P.info? e = some i' ∧ ∃ zv, i'.zero = some zv ∧ ofVal zv = some z := by
      simp only [zeroT, Option.bind_eq_bind, Option.bind_eq_some_iff] at hz
      exact hz
    have hzr : ∀ w, (zeroValue e).run P w = .ok zv w := fun w => by simp [zeroValue, typeInfo, hi', hzv]
    have hzrel := ofVal_rel (w := w) (ρ := ρ) (U := UX ρ s.h X) (c := s.c) hz'
    have hzs' : zv.cells.size = esz 0 := by rw [hzrel.cells_size, hz1]
    obtain ⟨newCap, hle, hrun⟩ := run_append_grows (P := P) (w := w) (ty := ty) (base0 := base0) (n := xs.length) (m := m.length) (cap := cap) (zv := zv) (i := i) (us := xs.map fun b => .int .u8 b.toNat) (ys := m.map fun b => .int .u8 b.toNat) h0 h1 hu hu' hd1 hi (shapeT_some he.sh).1 hzr hzs' hlen hf hold hgt (by rw [hi2]; exact hroom)
    refine hexec (by rw [hxe]; exact hrun) ?_
    have hpost : Post base ρ X s w (.hs 0 s.c 0 (xs.length + m.length) newCap) (s.new (.tc e ((xs ++ m).map enc ++ (List.replicate (newCap - (xs.length + m.length)) z.cells).flatten))) (.slice (some ⟨w.heap.size, 0, none⟩) (xs.length + m.length) newCap) (w.drew.alloc (.cells ((xs.map fun b => Value.int .u8 b.toNat).toArray ++ (m.map fun b => Value.int .u8 b.toNat).toArray ++ Builtin.zeroCells zv.cells (newCap - (xs.length + m.length))) e)) := by
      refine Post.new (w' := w.drew.alloc (.cells ((xs.map fun b => Value.int .u8 b.toNat).toArray ++ (m.map fun b => Value.int .u8 b.toNat).toArray ++ Builtin.zeroCells zv.cells (newCap - (xs.length + m.length))) e)) hsim rfl rfl rfl (by simp) (fun b hb => ?_) hba (.tc e ((xs ++ m).map enc ++ (List.replicate (newCap - (xs.length + m.length)) z.cells).flatten)) w.heap.size 0 (Nat.le_refl _) _ _ (fun ρ' U' c' mm hρ' hU' hc' => ⟨?_, ?_⟩)
      · show (w.heap.push _)[b]? = _
        rw [Array.getElem?_push, if_neg (by omega)]
      · refine ⟨_, (0, 0), heap_alloc_new w.drew _, by simp [thawed], ?_, ?_⟩
        · have e1 : ((xs.map fun b => Value.int .u8 b.toNat).toArray ++ (m.map fun b => Value.int .u8 b.toNat).toArray ++ Builtin.zeroCells zv.cells (newCap - (xs.length + m.length))).toList = ((xs ++ m).map fun b => Value.int .u8 b.toNat) ++ (List.replicate (newCap - (xs.length + m.length)) zv.cells.toList).flatten := by
            rw [← made_list _ _ (by rw [hzs']; exact esz_pos 0)]; simp; rfl
          rw [e1]
          exact (bytes_relL _).append ((RelL.mono mm _ _ hzrel.cells).flatten _)
        · intro y hy'
          rcases List.mem_append.1 hy' with hy' | hy'
          · obtain ⟨b, _, rfl⟩ := List.mem_map.1 hy'; rfl
          · obtain ⟨q, hq1, hq2⟩ := List.mem_flatten.1 hy'
            obtain ⟨_, rfl⟩ := List.mem_replicate.1 hq1
            exact List.all_eq_true.1 hz2 y hq2
      · simp only [Rel]
        exact ⟨by rw [hc']; omega, by rw [hρ']⟩
    refine hA _ _ _ _ (k _ (.tc s.c e _) _ (.inl ⟨s.c, newCap, _, ?_, rfl, ?_, ?_, ?_, ?_⟩) (Hp.new hs0 _ _ rfl)) hpost
    · rw [List.length_append]
    · rw [List.length_flatten, List.map_replicate, List.sum_replicate_nat, hz1, List.length_append]; simp [esz]
    · rw [List.length_append]; exact hle
    · rw [List.length_append]
      have := List.length_pos_iff.2 hne
      omega
    · intro y hy
      obtain ⟨q, hq1, hq2⟩ := List.mem_flatten.1 hy
      obtain ⟨_, rfl⟩ := List.mem_replicate.1 hq1
      exact List.all_eq_true.1 hz2 y hq2
  have hstay : ∀ {base0 : Option Addr} {cap : Nat}, ac.eval x = .slice base0 xs.length cap → xs.length ≤ cap → m = [] → Oper.wp P ⟨some d, .call ⟨.builtin .append, #[x, y], ts⟩, ty, pos, af, none⟩ ac w A B := by
    intro base0 cap hxe hcap hm
    subst hm
    rw [List.append_nil] at *
    refine hexec (v' := .slice base0 xs.length cap) (w' := w) ?_ (hA a s _ w (k a ea s ha hs) (.same hsim (by rw [← hxe]; exact hxr)))
    rw [hxe]
    refine run_append_fits (m := 0) h0 h1 hu hu' hd1 (shapeT_some he.sh).1 (hlen w) (by simpa using hf w rfl) (by omega) ?_
    cases base0 <;> simp [storeCells]
  rcases ha with ⟨q, cap, sp, rfl, rfl, g1, g2, g3, g4⟩ | ⟨rfl, rfl, rfl⟩
  · have hg : hget s.h q = some (.tc e (xs.map enc ++ sp)) := hs.get rfl
    have hxr' := hxr
    simp only [Rel] at hxr
    obtain ⟨hq1, hxe⟩ := hxr
    obtain ⟨C, fz, k1, k2, k3, k4⟩ := hsim.obj q _ hg
    obtain ⟨D, hD, hD2⟩ := bytes_rel_split k3
    by_cases hm : m = []
    · exact hstay hxe g2 hm
    · by_cases hfit : xs.length + m.length ≤ cap
      · obtain ⟨w', hst, hpost⟩ := post_storeT (P := P) (v := .hs 0 q 0 (xs.length + m.length) cap) (v' := .slice (some ⟨(ρ q).1, 0, none⟩) (xs.length + m.length) cap) (off := xs.length) hsim hg (bytes_relL m) (by simp [g1]; omega) (fun y hy => by obtain ⟨b, _, rfl⟩ := List.mem_map.1 hy; rfl) (fun w' U' mm => by simp [Rel, hq1])
        refine hexec (v' := .slice (some ⟨(ρ q).1, 0, none⟩) (xs.length + m.length) cap) (w' := w') ?_ (hA _ _ _ _ (k _ (.tc q e (splice (xs.map enc ++ sp) xs.length (m.map enc))) _ (.inl ⟨q, cap, sp.drop m.length, by rw [List.length_append], ?_, ?_, ?_, ?_, fun y hy => g4 y (List.mem_of_mem_drop hy)⟩) (Hp.put hs rfl rfl)) hpost)
        · rw [hxe]
          refine run_append_fits h0 h1 hu hu' hd1 (shapeT_some he.sh).1 (hlen w) (hf w rfl) hfit ?_
          simp only []
          rw [add_lit]
          simpa [esz] using hst
        · have : splice (xs.map enc ++ sp) xs.length (m.map (enc : UInt8 → AV)) = (xs ++ m).map enc ++ sp.drop m.length := by
            unfold splice
            rw [show (xs.map (enc : UInt8 → AV) ++ sp).take xs.length = xs.map enc by rw [show xs.length = (xs.map (enc : UInt8 → AV)).length by simp, List.take_left]]
            rw [List.map_append]
            congr 1
            rw [List.length_map, List.drop_append, List.drop_of_length_le (by simp)]
            simp
          rw [this]
        · rw [List.length_drop, g1, List.length_append]; omega
        · rw [List.length_append]; exact hfit
        · rw [List.length_append]; omega
      · refine hgrow (some ⟨(ρ q).1, 0, none⟩) cap hxe (fun w' e => ?_) (by omega) hm hs.tail
        have hr := run_loadCells_list (P := P) w' ⟨(ρ q).1, 0, none⟩ (xs.map fun b => .int .u8 b.toNat) (fun j u hj => by
          rw [add_lit, Nat.zero_add]
          unfold World.cell?
          rw [e, k1]
          have : C.toList[j]? = some u := by rw [hD, List.getElem?_append_left (List.getElem?_eq_some_iff.1 hj).1]; exact hj
          simpa using this)
        simpa [Builtin.firstCells, esz] using hr
  · simp only [Rel] at hxr
    by_cases hm : m = []
    · exact hstay (base0 := none) (cap := 0) hxr (Nat.le_refl _) hm
    · exact hgrow none 0 hxr (fun w' _ => by simp [Builtin.firstCells]) (by simpa using List.length_pos_iff.2 hm) hm hs.tail
/-- unsafe.SliceData. -/
theorem TO_usd {a ea : _} {xs : List UInt8} {ts : Array TypeId} (hx : fEval n φ x = some a) (ha : isR0 e a ea xs)
    (k : ∀ p, ((∃ q cap sp, a = .hs 0 q 0 xs.length cap ∧ ea = .tc q e (xs.map enc ++ sp) ∧ p = .ptr q 0) ∨ (xs = [] ∧ p = .nilp)) → TO P prims n false ops l K (upd φ d p) s) : TO P prims n false ops (⟨some d, .call ⟨.builtin .unsafeSliceData, #[x], ts⟩, ty, pos, af, none⟩ :: l) K φ s := by
  refine TO_semG rfl fun hp base ρ X w ac A B hba hsim hrl hd hA => ?_
  have hxr := aEval_rel hrl (fEval_eq hx)
  have he : ∀ {v' : Value}, (∀ w, (Builtin.unsafeSliceData_ ts ty #[ac.eval x]).run P w = .ok v' w) → A (ac.put (some d) v') w → (valOp P (Op.call ⟨.builtin .unsafeSliceData, #[x], ts⟩) = true → Steady P (execOp ac.eval ⟨some d, .call ⟨.builtin .unsafeSliceData, #[x], ts⟩, ty, pos, af, none⟩)) ∧ Oper.wp P ⟨some d, .call ⟨.builtin .unsafeSliceData, #[x], ts⟩, ty, pos, af, none⟩ ac w A B := by
    intro v' hrun hA'
    have hr : ∀ w, (execOp ac.eval (⟨some d, .call ⟨.builtin .unsafeSliceData, #[x], ts⟩, ty, pos, af, none⟩ : Oper)).run P w = .ok (.value v') w := fun w => by
      have : execOp ac.eval (⟨some d, .call ⟨.builtin .unsafeSliceData, #[x], ts⟩, ty, pos, af, none⟩ : Oper) = (do pure (.value (← Builtin.unsafeSliceData_ ts ty #[ac.eval x])) : Sem Next) := by
        simp only [execOp, resolve, pure_bind, invoke, List.map_toArray, List.map_cons, List.map_nil]; rfl
      rw [this]
      simp [hrun w]
    exact ⟨fun _ => ⟨v', hr⟩, wp_val (v' := v') (w' := w) (hr w) hA'⟩
  rcases ha with ⟨q, cap, sp, rfl, rfl, g1, g2, g3, g4⟩ | ⟨rfl, rfl, rfl⟩
  · simp only [Rel] at hxr
    obtain ⟨hq1, hxe⟩ := hxr
    refine he (v' := .pointer (some ⟨(ρ q).1, 0, none⟩)) (fun w => by rw [hxe]; exact Lib.run_unsafeSliceData_row w _ _ _ _ _ (by omega)) (hA (.ptr q 0) s _ w (k _ (.inl ⟨q, cap, sp, rfl, rfl, rfl⟩)) (.same hsim ?_) fun e => by cases e)
    simp [Rel, hq1]
  · simp only [Rel] at hxr
    exact he (v' := .pointer none) (fun w => by rw [hxr]; rfl) (hA .nilp s _ w (k _ (.inr ⟨rfl, rfl⟩)) (.same hsim (by simp only [Rel])) fun e => by cases e)
/-- unsafe.String: the row is known no more. -/
theorem TO_ust {p ea : _} {xs : List UInt8} {pt it : TypeId} (hpt : P.underlying pt = some (.pointer e)) (hc : P.cellsOf e = 1) (hx : fEval n φ x = some p) (hy : fEval n φ y = some (.int .i64 (xs.length : Int)))
    (ha : (∃ q sp, ea = .tc q e (xs.map enc ++ sp) ∧ p = .ptr q 0 ∧ 0 < xs.length ∧ xs.length ≤ 9223372036854775807) ∨ (xs = [] ∧ p = .nilp)) (hs : Hp s (ea :: es))
    (k : ∀ s', Hp s' es → TO P prims n false ops l K (upd φ d (.str xs)) s') : TO P prims n false ops (⟨some d, .call ⟨.builtin .unsafeString, #[x, y], #[pt, it]⟩, ty, pos, af, none⟩ :: l) K φ s := by
  refine TO_sem rfl rfl (fun _ => rfl) fun hp base ρ X w ac A B hba hsim hrl hd hA => ?_
  have hxr := aEval_rel hrl (fEval_eq hx)
  have hyr := aEval_rel hrl (fEval_eq hy)
  have hexec : ∀ {v' : Value} {w' : World}, (Builtin.unsafeString_ #[pt, it] ty #[ac.eval x, ac.eval y]).run P w = .ok v' w' → A (ac.put (some d) v') w' → Oper.wp P ⟨some d, .call ⟨.builtin .unsafeString, #[x, y], #[pt, it]⟩, ty, pos, af, none⟩ ac w A B := by
    intro v' w' hrun hA'
    refine wp_val (v' := v') (w' := w') ?_ hA'
    have : execOp ac.eval ⟨some d, .call ⟨.builtin .unsafeString, #[x, y], #[pt, it]⟩, ty, pos, af, none⟩ = (do pure (.value (← Builtin.unsafeString_ #[pt, it] ty #[ac.eval x, ac.eval y])) : Sem Next) := by
      simp only [execOp, resolve, pure_bind, invoke, List.map_toArray, List.map_cons, List.map_nil]; rfl
    rw [this]
    simp [hrun]
  simp only [Rel] at hyr
  rcases ha with ⟨q, sp, rfl, rfl, g1, g2⟩ | ⟨rfl, rfl⟩
  · simp only [Rel] at hxr
    obtain ⟨hq1, hxe⟩ := hxr
    have hg : hget s.h q = some (.tc e (xs.map enc ++ sp)) := hs.get rfl
    obtain ⟨C, fz, k1, k2, k3, k4⟩ := hsim.obj q _ hg
    obtain ⟨D, hD, hD2⟩ := bytes_rel_split k3
    have hCl : C.size = xs.length + D.length := by
      have : C.toList.length = _ := congrArg List.length hD
      simpa using this
    refine hexec (v' := .string ⟨xs.toArray⟩) (w' := w.freeze ⟨(ρ q).1, 0, none⟩ xs.length) ?_ (hA (.str xs) (s.del q) _ _ (k _ (hs.del rfl)) (post_freeze hsim hg _ rfl rfl rfl))
    rw [hxe, hyr]
    refine Lib.run_unsafeString_row w pt it ty e hpt hc (ρ q).1 C.size (shape_of k1) xs (List.length_pos_iff.1 g1) (by omega) (by omega) (fun j x hj => ?_)
    rw [add_lit, Nat.zero_add, cell_at k1]
    have : C.toList[j]? = some (.int .u8 x.toNat) := by
      have hjl := (List.getElem?_eq_some_iff.1 hj).1
      rw [hD, List.getElem?_append_left (by simpa using hjl), List.getElem?_map, hj]; rfl
    simpa using this
  · simp only [Rel] at hxr
    refine hexec (v' := .string .empty) (w' := w) ?_ (hA (.str []) s _ w (k _ hs.tail) (.same hsim (by simp only [Rel]; rfl)))
    rw [hxr, hyr]
    exact Lib.run_unsafeString_none w pt it ty none
/-- The end of a call: what it answers, as it is (a row that it made may be written into further on). -/
def KendN (P : Program) (fn : Func) (H : AV → St → Prop) (φ : Fm) (s : St) : Prop := ∃ r, aResults P fn (frm fn.ntmps φ) s = some r ∧ H r s
theorem TF_runN {f : FuncId} {fn : Func} {c : Code} {avs : List AV} {H : AV → St → Prop} (lz : List (Nat × AV)) (hf : P.funcs[f]? = some fn) (hb : fn.body = some c)
    (hfr : avs ++ List.replicate (fn.ntmps - avs.length) .undef = frm fn.ntmps (ups (fun _ => .undef) lz))
    (h : ∀ ψ, TC P prims fn.ntmps c (KendN P fn H) (fun e φ s1 => e = .ret ∧ KendN P fn H φ s1) (ups ψ lz) s) : MF P prims f avs s H := by
  intro hp base ρ X w vs hba hs hr
  have hfr' : RelL w ρ (UX ρ s.h X) s.c (frm fn.ntmps (ups (fun _ => .undef) lz)) (vs.toArray ++ Array.replicate (fn.ntmps - vs.toArray.size) undef).toList := by
    rw [← hfr]
    have hl := hr.length
    simp only [Array.toList_append, Array.toList_replicate, List.size_toArray]
    rw [hl]
    exact hr.append (undefs_rel _)
  refine calls_of_wp hf hb (h _ hp base ρ X w _ _ hba hs hfr' rfl fun e φ' s' a' w' he hpf => ?_)
  have key : KendN P fn H φ' s' ∧ (e = .normal ∨ e = .ret) := by
    cases e with
    | normal => exact ⟨he, .inl rfl⟩
    | exit id => cases he.1
    | ret => exact ⟨he.2, .inr rfl⟩
  obtain ⟨⟨r, hres, hH⟩, he'⟩ := key
  obtain ⟨ρ1, g1, g2, g3, g4, g5, g6, g7⟩ := hpf
  obtain ⟨v', k1, k2⟩ := run_results g3 g4 hres
  have fin : bodyPost P fn (fun e w' => ∃ v', e = .returned v' ∧ ∃ v s', H v s' ∧ Post base ρ X s w v s' v' w') .ret a' w' :=
    ⟨g7, v', k1, v', rfl, r, s', hH, ρ1, g1, g2, g3, k2, g5, g6⟩
  rcases he' with rfl | rfl <;> exact fin
theorem isR_bytes : ∀ {ys : List AV} {m : List UInt8}, isR ys m → ys = m.map enc
  | [], [], _ => rfl
  | [], _ :: _, h => h.elim
  | _ :: _, [], h => h.elim
  | y :: ys, b :: m, h => by rw [List.map_cons, isR_bytes h.2, show y = enc b from h.1]
theorem source_bytes {bv : AV} {m : List UInt8} (h : is bv m) : source 0 bv s = some (m.map enc) := by
  obtain ⟨ys, h1, h2⟩ := source_is (s := s) h
  rw [isR_bytes h2] at h1
  exact h1
theorem isR0.one {e : TypeId} {y : AV} {en : En} {l : List UInt8} (h : isR0 e y en l) : y.cells = [y] ∧ y.one = true := by
  rcases h with ⟨q, cap, sp, rfl, _⟩ | ⟨rfl, _⟩ <;> exact ⟨rfl, rfl⟩
theorem TO_lnB {a ea : _} {xs : List UInt8} {ts : Array TypeId} (hu : P.underlying t = some (.slice e)) (ht : ts[0]? = some t) (hx : fEval n φ x = some a) (h : isR0 e a ea xs) (k : TO P prims n b ops l K (upd φ d (enc ((xs.length : Nat) : Int))) s) : TO P prims n b ops (⟨some d, .call ⟨.builtin .len, #[x], ts⟩, ty, pos, af, none⟩ :: l) K φ s := by
  refine TO_op rfl rfl (fun _ => op_len (fEval_eq hx) ht ?_) k
  rcases h with ⟨q, cap, sp, rfl, _⟩ | ⟨rfl, _, rfl⟩
  · simp [aLen, hu, enc]
  · simp [aLen, hu, enc]
end
end Go.Ai
end
section
/- Arrays of one cell's elements: made, read, written, cut; builders as one entry. -/
set_option linter.unusedVariables false
set_option linter.unusedSimpArgs false
open Go.Ai.Enc (enc is)
namespace Go.Ai
def encA {T : Type} [Enc T] (l : List T) : List AV := l.map enc
/-- An element of an array of len. -/
def nthA {T : Type} (len : Nat) (l : List T) (i : Int) : Option T := if i < len then nth l i else none
theorem nthA_some {T : Type} {len : Nat} {l : List T} {i : Int} {v : T} (h : nthA len l i = some v) : 0 ≤ i ∧ i < len ∧ i.toNat < l.length ∧ l[i.toNat]? = some v := by
  unfold nthA at h
  split at h
  · rename_i h0
    obtain ⟨h1, h2, h3⟩ := nth_some h
    exact ⟨h1, h0, by omega, h3⟩
  · cases h
/-- What is behind a place of an array of len. -/
def dropA {T : Type} (len : Nat) (l : List T) (i : Int) : Option (List T) := if 0 ≤ i ∧ i ≤ len ∧ l.length = len then some (l.drop i.toNat) else none
/-- A part of an array that nobody else holds: its elements. -/
def isV {T : Type} [Enc T] (z : AV) (m : Nat) (A r : List T) : Prop := (∃ off len cap, z = .hs 0 m off len cap) ∧ ∀ s : St, hget s.h m = some (.cells (encA A)) → elems z s = some (0, encA r)
section
variable {P : Program} {prims : Prims} {n : Nat} {b : Bool} {K : Fm → St → Prop} {φ : Fm} {s : St} {ops : Array Oper} {l : List Oper} {d : Tmp} {x y : Operand} {t t' e ty : TypeId} {pos : String} {af : Array Edge} {es : List En}
variable {T : Type} [Enc T] {A : List T} {m len : Nat} {i : Int} {kk : IntKind} {v : T}
theorem encA_one (hk : Enc.k T = 0) : ∀ {A : List T} {y : AV}, y ∈ encA A → y.one = true := by
  intro A y hy
  obtain ⟨a, _, rfl⟩ := List.mem_map.1 hy
  exact (Enc.el (Enc.self a)).2.2.1 hk
theorem enc_cells (hk : Enc.k T = 0) (a : T) : (enc a : AV).cells = [enc a] := by
  have h1 : (enc a : AV).one = true := (Enc.el (Enc.self a)).2.2.1 hk
  cases h : (enc a : AV) <;> first | rfl | (rw [h] at h1; simp [AV.one] at h1; done)
theorem TO_alA {N : Nat} {zv : T} (hk : Enc.k T = 0) (hz : zeroT P t = some (.agg (List.replicate N (enc zv)))) (hs : Hp s es)
    (k : ∀ m s', Hp s' (.cells m (encA (List.replicate N zv)) :: es) → TO P prims n b ops l K (upd φ d (.ptr m 0)) s') : TO P prims n b ops (⟨some d, .alloc t, ty, pos, af, none⟩ :: l) K φ s := by
  refine TO_op rfl rfl (v := .ptr s.c 0) (s' := s.new (.cells (encA (List.replicate N zv)))) (fun _ => ?_) (k s.c _ (hs.new _ _ rfl))
  have e : (List.replicate N (enc zv : AV)) = encA (List.replicate N zv) := by simp [encA]
  simp only [aOp, aAlloc, hz, Option.bind_eq_bind, Option.bind_some, e]
  exact if_pos (List.all_eq_true.2 fun y hy => encA_one hk hy)
theorem TO_ixA {T : Type} {A : List T} {v : T} (hu : P.underlying t = some (.array len e)) (hz : szT P e = some 1) (hx : fEval n φ x = some (.ptr m 0)) (hy : fEval n φ y = some (.int kk i)) (ha : nthA len A i = some v)
    (k : TO P prims n b ops l K (upd φ d (.ptr m i.toNat)) s) : TO P prims n b ops (⟨some d, .indexAddr t x y, ty, pos, af, none⟩ :: l) K φ s := by
  obtain ⟨h0, h1, h2, h3⟩ := nthA_some ha
  refine TO_op rfl rfl (fun _ => op_addr (fEval_eq hx) (fEval_eq hy) (v := .ptr m i.toNat) ?_) k
  simp only [aIndexAddr, aInt, hu, hz, Option.bind_eq_bind, Option.bind_some]
  rw [if_pos ⟨h0, h1⟩]; simp
theorem TO_ldA (hk : Enc.k T = 0) (hg : aggT P t = some false) (hx : fEval n φ x = some (.ptr m i.toNat)) (ha : nthA len A i = some v) (hs : Hp s (.cells m (encA A) :: es)) (k : TO P prims n b ops l K (upd φ d (enc v)) s) : TO P prims n b ops (⟨some d, .load t x, ty, pos, af, none⟩ :: l) K φ s := by
  obtain ⟨h0, h1, h2, h3⟩ := nthA_some ha
  refine TO_op rfl rfl (fun _ => op_load (fEval_eq hx) (v := enc v) ?_) k
  simp only [aLoad, hs.get rfl, aPart, hg, Option.bind_eq_bind, Option.bind_some, Bool.false_eq_true, if_false]
  simp [encA, h3]
theorem TO_stA {a : T} (hk : Enc.k T = 0) (hx : fEval n φ x = some (.ptr m i.toNat)) (hy : fEval n φ y = some (enc a)) (ha : nthA len A i = some v) (hz : szT P t = some 1) (hs : Hp s (.cells m (encA A) :: es)) (k : ∀ s', Hp s' (.cells m (encA (A.set i.toNat a)) :: es) → TO P prims n b ops l K φ s') : TO P prims n b ops (⟨none, .store t x y, ty, pos, af, none⟩ :: l) K φ s := by
  obtain ⟨h0, h1, h2, h3⟩ := nthA_some ha
  have hc := enc_cells hk a
  refine TO_op0 rfl rfl (v := .undef) (s' := s.put m (.cells (encA (A.set i.toNat a)))) (fun _ => ?_) (k _ (hs.put rfl rfl))
  simp only [aOp, fEval_eq hx, fEval_eq hy, Option.bind_eq_bind, Option.bind_some, aStore, hc, hz, List.length_singleton, if_true, aStoreAt, hs.get rfl]
  rw [if_pos ⟨by simp [encA]; omega, by simp [(Enc.el (Enc.self a)).2.2.1 hk]⟩]
  have : splice (encA A) i.toNat [enc a] = encA (A.set i.toNat a) := by
    unfold encA
    rw [List.map_set]
    have hl : i.toNat < (A.map (enc : T → AV)).length := by simpa using h2
    rw [List.set_eq_take_append_cons_drop, if_pos hl]
    simp [splice]
  rw [this]
  rfl
/-- a[i:] of an array that is one's own. -/
theorem TO_slA10 {r : List T} (hk : Enc.k T = 0) (hu : P.underlying t = some (.array len e)) (hs : shapeT P e = some 0) (hx : fEval n φ x = some (.ptr m 0)) (hy : fEval n φ y = some (.int kk i)) (hr : dropA len A i = some r)
    (k : ∀ z, isV z m A r → TO P prims n b ops l K (upd φ d z) s) : TO P prims n b ops (⟨some d, .slice t x (some y) none none, ty, pos, af, none⟩ :: l) K φ s := by
  unfold dropA at hr
  split at hr
  · rename_i h0
    obtain ⟨h0, h1, h2⟩ := h0
    injection hr with hr; subst hr
    refine TO_op rfl rfl (v := .hs 0 m (if len = i.toNat then 0 else i.toNat) (len - i.toNat) (len - i.toNat)) (fun _ => ?_) (k _ ⟨⟨_, _, _, rfl⟩, fun s hg => ?_⟩)
    · refine op_slice (fEval_eq hx) (fEvalO_eq (fEvalO_some hy)) rfl rfl ?_
      simp only [aSlice, hu, hs, Option.bind_eq_bind, Option.bind_some]
      have : bnds len len (some (.int kk i)) none none = some (i.toNat, len, len) := by
        simp only [bnds, bnd, Option.isSome_none, Bool.false_eq_true, false_and, if_false, Option.bind_eq_bind, Option.bind_some]
        rw [if_pos ⟨h0, h1⟩]; rfl
      rw [this]
      simp [esz]
    · simp only [elems, hg]
      have hle : i.toNat ≤ len := by omega
      rw [if_pos (by
        simp only [esz, encA, List.length_map, h2, if_true]
        split <;> omega)]
      congr 2
      have key : ∀ (L : List T), chunk 0 (encA L) L.length = encA L := by
        intro L
        induction L with
        | nil => rfl
        | cons a L ih =>
          show chunk 0 (enc a :: encA L) (L.length + 1) = enc a :: encA L
          simp only [chunk, if_true, List.headD_cons, esz, List.drop_one, List.tail_cons, ih]
      by_cases e : len = i.toNat
      · rw [if_pos e]
        have : A.drop i.toNat = [] := List.drop_of_length_le (by omega)
        rw [this]
        simp only [e, Nat.sub_self]
        rfl
      · rw [if_neg e]
        have : (encA A).drop i.toNat = encA (A.drop i.toNat) := by simp [encA, List.map_drop]
        rw [this]
        have hl : len - i.toNat = (A.drop i.toNat).length := by simp [h2]
        rw [hl, key]
  · cases hr
theorem bytesOf_enc : ∀ l : List UInt8, bytesOf (encA l) = some l
  | [] => rfl
  | b :: l => by
    show bytesOf (.int .u8 (b.toNat : Int) :: encA l) = some (b :: l)
    simp only [bytesOf, bytesOf_enc l, Option.map_some]
    simp
theorem TO_cvVS {src dst : TypeId} {A r : List UInt8} {z : AV} (h1 : P.underlying src = some (.slice e)) (h2 : P.underlying dst = some .string) (h3 : P.underlying e = some (.int .u8)) (hx : fEval n φ x = some z) (hv : isV z m A r) (hs : Hp s (.cells m (encA A) :: es))
    (k : TO P prims n b ops l K (upd φ d (.str r)) s) : TO P prims n b ops (⟨some d, .convert src dst x, ty, pos, af, none⟩ :: l) K φ s := by
  obtain ⟨⟨off, len, cap, rfl⟩, hel⟩ := hv
  refine TO_op rfl rfl (s' := s) (fun _ => ?_) k
  have := hel s (hs.get rfl)
  simp only [aOp, fEval_eq hx, Option.bind_eq_bind, Option.bind_some, aConvert, h1, h2, h3, this, if_true, bytesOf_enc, Option.map_some]
/-! ### A shift by a number that is not written out -/
theorem shr_rng {a : Nat} {N : Int} (k : Nat) (h : (a : Int) < N) : 0 ≤ (a : Int).fdiv (2 ^ k) ∧ (a : Int).fdiv (2 ^ k) < N := by
  have hp : (0 : Int) < 2 ^ k := Int.pow_pos (by omega)
  rw [Int.fdiv_eq_ediv_of_nonneg _ (Int.le_of_lt hp)]
  exact ⟨Int.ediv_nonneg (by omega) (Int.le_of_lt hp), Int.lt_of_le_of_lt (Int.ediv_le_self _ (by omega)) h⟩
theorem rem_rng {a : Nat} {N b : Int} (h : (a : Int) < N) : 0 ≤ (a : Int).tmod b ∧ (a : Int).tmod b < N := by
  have h1 : 0 ≤ (a : Int).tmod b := Int.tmod_nonneg _ (by omega)
  refine ⟨h1, Int.lt_of_le_of_lt ?_ h⟩
  by_cases hb : b = 0
  · subst hb; simp
  · have h2 := Int.mul_tdiv_add_tmod (a : Int) b
    have h3 : 0 ≤ b * (a : Int).tdiv b := by
      rcases Int.lt_or_gt_of_ne hb with h | h
      · have : (a : Int).tdiv b ≤ 0 := Int.tdiv_nonpos_of_nonneg_of_nonpos (by omega) (Int.le_of_lt h)
        exact Int.mul_nonneg_of_nonpos_of_nonpos (Int.le_of_lt h) this
      · exact Int.mul_nonneg (Int.le_of_lt h) (Int.tdiv_nonneg (by omega) (Int.le_of_lt h))
    omega
end
end Go.Ai
end
