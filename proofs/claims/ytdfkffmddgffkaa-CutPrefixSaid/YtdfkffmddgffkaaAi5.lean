/- Operations: operators. -/
import Derived.Test.YtdfkffmddgffkaaAi4
import Derived.Lib.Props
set_option linter.unusedVariables false
set_option linter.unusedSimpArgs false
namespace Go.Ai
section
variable {P : Program} {ρ : Pl} {U : Reg} {c : Nat} {w : World}

theorem toList_mk (l : List UInt8) : (⟨l.toArray⟩ : ByteArray).toList = l := by
  rw [ByteArray.toList_eq]
theorem append_mk (a b : List UInt8) : (⟨a.toArray⟩ : ByteArray) ++ ⟨b.toArray⟩ = ⟨(a ++ b).toArray⟩ := by
  apply ByteArray.ext
  simp

theorem gives_shift {op : BinOp} {k yk : IntKind} {a b : Int} {v : AV} (h : aShift op k a b = some v) : Gives P w ρ U c (Op.shift op k a yk b) v := by
  unfold aShift at h
  split at h
  · cases h
  · rename_i hb
    split at h <;> first | (cases h; done) | (injection h with h; subst h; exact ⟨_, by simp [Op.shift, hb]; rfl, by simp [Rel]⟩)
theorem gives_int {op : BinOp} {t : TypeId} {k : IntKind} {a b : Int} {v : AV} (hs : op ≠ .shl) (hr : op ≠ .shr) (h : aIntOp op k a b = some v) : Gives P w ρ U c (binOp op t (.int k a) (.int k b)) v := by
  cases op <;> simp only [aIntOp] at h <;> first
    | (exact absurd rfl hs)
    | (exact absurd rfl hr)
    | (injection h with h; subst h; exact ⟨_, by simp [binOp, Op.intArith, Op.intCmp, Op.intBits]; rfl, by simp [Rel]⟩)
    | skip
  all_goals
    split at h
    · cases h
    · rename_i hb
      injection h with h; subst h
      exact ⟨_, by simp [binOp, Op.intDiv, hb]; rfl, by simp [Rel]⟩
theorem gives_cmp {op : BinOp} {a b : List UInt8} {v : AV} (h : cmpB op (a == b) (Op.bytesLess a b) = some v) : Gives P w ρ U c (Op.stringOp op ⟨a.toArray⟩ ⟨b.toArray⟩) v := by
  cases op <;> simp only [cmpB] at h <;> first
    | (cases h; done)
    | (injection h with h; subst h; exact ⟨_, by simp [Op.stringOp, toList_mk]; rfl, by simp [Rel]⟩)
theorem gives_cat {a b : List UInt8} (h : ¬ ((a.length + b.length : Int) > 9223372036854775807)) : Gives P w ρ U c (Op.stringOp .add ⟨a.toArray⟩ ⟨b.toArray⟩) (.str (a ++ b)) := by
  refine ⟨.string ⟨(a ++ b).toArray⟩, ?_, by simp [Rel]⟩
  have e1 : (⟨a.toArray⟩ : ByteArray).size = a.length := by simp [ByteArray.size]
  have e2 : (⟨b.toArray⟩ : ByteArray).size = b.length := by simp [ByteArray.size]
  have : ¬ (((a.length + b.length : Nat) : Int) > 9223372036854775807) := by omega
  simp only [Op.stringOp, e1, e2, IntKind.max_i64, if_neg this, append_mk, Sem.run_pure]

theorem run_equal_bool {t : TypeId} (ht : P.underlying t = some .bool) (a b : Bool) (w : World) : (Op.equal t (.bool a) (.bool b)).run P w = .ok (a == b) w := by
  show (Op.equalIn (9999 + 1) t _ _).run P w = _
  generalize 9999 = d
  simp [Op.equalIn, run_underlying ht]
/-- A pointer, a slice, a map, a function, an interface value: nil, or what it is. -/
inductive NilV : TypeDesc → Bool → Value → Prop where
  | p0 {e} : NilV (.pointer e) true (.pointer none)
  | p1 {e a} : NilV (.pointer e) false (.pointer (some a))
  | s0 {e} : NilV (.slice e) true (.slice none 0 0)
  | s1 {e a n m} : NilV (.slice e) false (.slice (some a) n m)
  | m0 {k e} : NilV (.map k e) true (.map none)
  | m1 {k e a} : NilV (.map k e) false (.map (some a))
  | f0 {a b v} : NilV (.func a b v) true .nilFunc
  | f1 {a b v f x y} : NilV (.func a b v) false (.func f x y)
  | i0 {ms} : NilV (.interface ms) true .nilIface
  | i1 {ms t v} : NilV (.interface ms) false (.iface t v)
theorem nilV_of {d : TypeDesc} {x : AV} {xv : Value} {a : Bool} (hx : Rel w ρ U c x xv) (ha : nilAs d x = some a) : NilV d a xv := by
  unfold nilAs at ha
  split at ha <;> first | (cases ha; done) | (injection ha with ha; subst ha)
  all_goals
    simp only [Rel] at hx
    first
      | (subst hx; constructor; done)
      | (obtain ⟨_, rfl⟩ := hx; constructor; done)
      | (obtain ⟨_, _, _, rfl, _⟩ := hx; constructor; done)
      | (obtain ⟨_, _, rfl, _⟩ := hx; constructor; done)
      | (obtain ⟨_, rfl, _⟩ := hx; constructor; done)
theorem run_equal_nil {d : TypeDesc} {t : TypeId} (ht : P.underlying t = some d) {xv yv : Value} {a b : Bool} (hx : NilV d a xv) (hy : NilV d b yv) (hab : (a || b) = true) (w : World) :
    (Op.equal t xv yv).run P w = .ok (a && b) w := by
  show (Op.equalIn (9999 + 1) t _ _).run P w = _
  generalize 9999 = q
  cases hx <;> cases hy <;> first
    | (simp at hab; done)
    | (simp [Op.equalIn, run_underlying ht]; done)
theorem NilV.noBin {d : TypeDesc} {t : TypeId} {xv yv : Value} {a b : Bool} (hx : NilV d a xv) (hy : NilV d b yv) :
    binOp .eql t xv yv = (do pure (.bool (← Op.equal t xv yv))) ∧ binOp .neq t xv yv = (do pure (.bool (!(← Op.equal t xv yv)))) := by
  cases hx <;> cases hy <;> exact ⟨rfl, rfl⟩
theorem NilV.noAgg {d : TypeDesc} {xv : Value} {a : Bool} (hx : NilV d a xv) (cs : Array Value) : xv ≠ .agg cs := by cases hx <;> simp
theorem NilV.ifc {d : TypeDesc} {a : Bool} (hx : NilV d a .nilIface) : a = true := by cases hx; rfl
/-- What the guard of '==' lets by. -/
theorem run_eqGuard {op : BinOp} {t : TypeId} {ox oy : Operand} {xv yv : Value} (hnn : xv = .nilIface → yv = .nilIface → (isC ox || isC oy) = true) (hna : ∀ cs, xv ≠ .agg cs) (w : World) :
    (eqGuard op t ox oy xv yv).run P w = .ok () w := by
  cases xv with
  | nilIface =>
    cases yv with
    | nilIface =>
      have := hnn rfl rfl
      cases ox <;> simp [isC] at this
      case const v => rw [eqGuard_nil_constL]; rfl
      all_goals
        cases oy <;> simp [isC] at this
        rw [eqGuard_nil_constR]; rfl
    | _ => cases op <;> rfl
  | agg cs => exact absurd rfl (hna cs)
  | _ => cases op <;> rfl

theorem aNilEq_some {t : TypeId} {x y : AV} {cc : Bool} {b : Bool} (h : aNilEq P t x y cc = some b) :
    ∃ d a1 a2, P.underlying t = some d ∧ nilAs d x = some a1 ∧ nilAs d y = some a2 ∧ (a1 || a2) = true ∧ b = (a1 && a2) ∧ (x = .nifc ∧ y = .nifc → cc = true) := by
  simp only [aNilEq, Option.bind_eq_bind, Option.bind_eq_some_iff] at h
  obtain ⟨d, hd, a1, h1, a2, h2, h⟩ := h
  by_cases hor : (a1 || a2) = true
  · rw [if_pos hor] at h
    by_cases hno : (a1 && a2 && (isIfc d && !cc)) = true
    · rw [if_pos hno] at h; cases h
    · rw [if_neg hno] at h
      injection h with h
      refine ⟨d, a1, a2, hd, h1, h2, hor, h.symm, ?_⟩
      rintro ⟨rfl, rfl⟩
      cases d <;> simp [nilAs] at h1 h2
      subst h1; subst h2
      simpa [isIfc] using hno
  · rw [if_neg hor] at h; cases h
theorem nilAs_agg {d : TypeDesc} {cs : List AV} : nilAs d (.agg cs) = none := by cases d <;> rfl

theorem gives_binOp {op : BinOp} {t : TypeId} {ox oy : Operand} {x y v : AV} {xv yv : Value} (hx : Rel w ρ U c x xv) (hy : Rel w ρ U c y yv) (h : aBinOp P op t x y (isC ox) (isC oy) = some v) :
    Gives P w ρ U c (do eqGuard op t ox oy xv yv; binOp op t xv yv) v := by
  have fin : (eqGuard op t ox oy xv yv).run P w = .ok () w → Gives P w ρ U c (binOp op t xv yv) v → Gives P w ρ U c (do eqGuard op t ox oy xv yv; binOp op t xv yv) v := by
    rintro h1 ⟨v', h2, h3⟩
    exact ⟨v', by simp [h1, h2], h3⟩
  unfold aBinOp at h
  split at h
  · rename_i k a yk b
    simp only [Rel] at hx hy; subst hx; subst hy
    exact fin (by simp [eqGuard]) (gives_shift (yk := yk) h)
  · rename_i k a yk b
    simp only [Rel] at hx hy; subst hx; subst hy
    exact fin (by simp [eqGuard]) (gives_shift (yk := yk) h)
  · rename_i k a k' b hn1 hn2
    split at h
    · rename_i e; subst e
      simp only [Rel] at hx hy; subst hx; subst hy
      exact fin (by rw [eqGuard_at_int]; rfl) (gives_int hn1 hn2 h)
    · cases h
  · rename_i a b
    simp only [Rel] at hx hy; subst hx; subst hy
    split at h
    · cases h
    · injection h with h; subst h
      exact fin (by rw [eqGuard_at_string]; rfl) (gives_cat ‹_›)
  · rename_i a b _
    simp only [Rel] at hx hy; subst hx; subst hy
    exact fin (by rw [eqGuard_at_string]; rfl) (by simpa [binOp] using gives_cmp h)
  · rename_i a b
    simp only [Rel] at hx hy; subst hx; subst hy
    split at h
    · rename_i ht
      injection h with h; subst h
      exact fin (by rw [eqGuard_at_bool]; rfl) ⟨.bool (a == b), by simp [binOp, run_equal_bool ht], by simp [Rel]⟩
    · cases h
  · rename_i a b
    simp only [Rel] at hx hy; subst hx; subst hy
    split at h
    · rename_i ht
      injection h with h; subst h
      exact fin (by rw [eqGuard_at_bool]; rfl) ⟨.bool (a != b), by simp [binOp, run_equal_bool ht, bne], by simp [Rel]⟩
    · cases h
  · simp only [Option.map_eq_some_iff] at h
    obtain ⟨b, h, rfl⟩ := h
    obtain ⟨d, a1, a2, hd, h1, h2, hor, rfl, hnn⟩ := aNilEq_some h
    have n1 := nilV_of hx h1
    have n2 := nilV_of hy h2
    refine fin (run_eqGuard (fun e1 e2 => hnn ⟨?_, ?_⟩) n1.noAgg w) ⟨.bool (a1 && a2), ?_, by simp [Rel]⟩
    · subst e1; have := n1.ifc; cases x <;> simp only [Rel] at hx <;> simp_all
    · subst e2; have := n2.ifc; cases y <;> simp only [Rel] at hy <;> simp_all
    · rw [(n1.noBin n2).1]
      simp [run_equal_nil hd n1 n2 hor]
  · simp only [Option.map_eq_some_iff] at h
    obtain ⟨b, h, rfl⟩ := h
    obtain ⟨d, a1, a2, hd, h1, h2, hor, rfl, hnn⟩ := aNilEq_some h
    have n1 := nilV_of hx h1
    have n2 := nilV_of hy h2
    refine fin (run_eqGuard (fun e1 e2 => hnn ⟨?_, ?_⟩) n1.noAgg w) ⟨.bool !(a1 && a2), ?_, by simp [Rel]⟩
    · subst e1; have := n1.ifc; cases x <;> simp only [Rel] at hx <;> simp_all
    · subst e2; have := n2.ifc; cases y <;> simp only [Rel] at hy <;> simp_all
    · rw [(n1.noBin n2).2]
      simp [run_equal_nil hd n1 n2 hor]
  · cases h

theorem gives_unOp {op : UnOp} {x v : AV} {xv : Value} (hx : Rel w ρ U c x xv) (h : aUnOp op x = some v) : Gives P w ρ U c (Op.unary op xv) v := by
  unfold aUnOp at h
  split at h
  · simp only [Rel] at hx; subst hx
    injection h with h; subst h
    exact ⟨_, by simp [Op.unary, Op.intArith]; rfl, by simp [Rel]⟩
  · simp only [Rel] at hx; subst hx
    simp only [aIntOp] at h
    injection h with h; subst h
    exact ⟨_, by simp [Op.unary, Op.intBits]; rfl, by simp [Rel]⟩
  · simp only [Rel] at hx; subst hx
    injection h with h; subst h
    exact ⟨_, by simp [Op.unary]; rfl, by simp [Rel]⟩
  · cases h
end
end Go.Ai
