/- My own texts DevNb1, one behind the other. -/
import Derived.Test.YtabgpaejofjpbaaDoorWAM
import Derived.Test.YtabgpaejofjpbaaDoorWAL
/- strings.Builder: its methods, on an object of a known type. -/
set_option linter.unusedVariables false
set_option linter.unusedSimpArgs false
set_option maxRecDepth 100000
attribute [local irreducible] Go.Ai.TC Go.Ai.TO Go.Ai.MF
open Go.Ai.Enc (enc is)
namespace Go.Ai.Rab
open Go.Proofs
theorem TO_nc {P : Program} {prims : Prims} {n : Nat} {b : Bool} {K : Fm → St → Prop} {φ : Fm} {s : St} {ops : Array Oper} {l : List Oper} {d : Tmp} {x : Operand} {ty : TypeId} {pos : String} {af : Array Edge} {m off : Nat} (hx : fEval n φ x = some (.ptr m off)) (k : TO P prims n b ops l K (upd φ d (.ptr m off)) s) : TO P prims n b ops (⟨some d, .nilCheck x, ty, pos, af, none⟩ :: l) K φ s :=
  TO_op rfl rfl (fun _ => by simp only [aOp, fEval_eq hx, Option.bind_eq_bind, Option.bind_some]) k
theorem TO_fa {P : Program} {prims : Prims} {n : Nat} {b : Bool} {K : Fm → St → Prop} {φ : Fm} {s : St} {ops : Array Oper} {l : List Oper} {d : Tmp} {x : Operand} {t ty : TypeId} {pos : String} {af : Array Edge} {m off f : Nat} {v : AV} (hx : fEval n φ x = some (.ptr m off)) (hv : aFieldAddr P t (.ptr m off) f = some v) (k : TO P prims n b ops l K (upd φ d v) s) : TO P prims n b ops (⟨some d, .fieldAddr t x f, ty, pos, af, none⟩ :: l) K φ s :=
  TO_op rfl rfl (fun _ => by simp only [aOp, fEval_eq hx, Option.bind_eq_bind, Option.bind_some, hv]) k
theorem cc_mf {prims : Prims} {s : St} {m : Nat} {a y : AV} {es : List En} (hs : Hp s (.tc m 49 [a, y] :: es)) (ha : a = .nilp ∨ a = .ptr m 0) (hy : y.cells.all AV.one = true) : MF Tryd.prog prims 52 [.ptr m 0] s fun v s' => v = .tup [] ∧ Hp s' (.tc m 49 [.ptr m 0, y] :: es) := by
  refine TF_run [(0, .ptr m 0)] Tryd.func52 rfl (by simp only [Tryd.f52]; rfl) fun ψ => ?_
  refine TC_seq ?_
  refine TC_reg ?_
  refine TO_mv (v := .ptr m 0) rfl ?_
  refine TO_nc (m := m) (off := 0) rfl ?_
  refine TO_fa (v := .ptr m 0) rfl (by kernel_rfl) ?_
  refine TO_ldT (m := m) (off := 0) (v := a) rfl hs (by kernel_rfl) ?_
  rcases ha with rfl | rfl
  · refine TO_bi (u := .nilp) (w := .nilp) (v := .bool true) rfl rfl (by kernel_rfl) ?_
    refine TO_nil ?_
    refine TC_cond_t rfl rfl ?_
    refine TC_reg ?_
    refine TO_mv (v := .ptr m 0) rfl ?_
    refine TO_mv (v := .ptr m 0) rfl ?_
    refine TO_cvPU (m := m) (t0 := 49) Tryd.underlying46 Tryd.underlying89 rfl (by decide) rfl hs (by simp) ?_
    refine TO_noEsc Tryd.func67 (by kernel_rfl) (by kernel_rfl) (by kernel_rfl) (by kernel_rfl) rfl ?_
    refine TO_cvUP (m := m) (t0 := 49) Tryd.underlying89 Tryd.underlying46 rfl (by kernel_rfl) rfl hs ?_
    refine TO_nc (m := m) (off := 0) rfl ?_
    refine TO_fa (v := .ptr m 0) rfl (by kernel_rfl) ?_
    refine TO_stT (m := m) (off := 0) (v := .ptr m 0) rfl rfl hs (by kernel_rfl) (by simp [AV.cells]) rfl fun s hs => ?_
    refine TO_nil ?_
    exact ⟨.tup [], rfl, .tup [], s, rfl, rfl, hs⟩
  · refine TO_bi (u := .ptr m 0) (w := .nilp) (v := .bool false) rfl rfl (by kernel_rfl) ?_
    refine TO_nil ?_
    refine TC_cond_f rfl Bool.false_ne_true ?_
    refine TC_seq ?_
    refine TC_reg ?_
    refine TO_mv (v := .ptr m 0) rfl ?_
    refine TO_nc (m := m) (off := 0) rfl ?_
    refine TO_fa (v := .ptr m 0) rfl (by kernel_rfl) ?_
    refine TO_ldT (m := m) (off := 0) (v := .ptr m 0) rfl hs (by kernel_rfl) ?_
    refine TO_mv (v := .ptr m 0) rfl ?_
    refine TO_neqP (m := m) (t0 := 49) Tryd.underlying46 rfl rfl rfl ?_
    refine TO_nil ?_
    refine TC_cond_f rfl Bool.false_ne_true ?_
    refine TC_skip ?_
    exact ⟨.tup [], rfl, .tup [], s, rfl, rfl, hs⟩
/-- A builder: its struct's block, and its bytes' block. -/
def isB (m : Nat) (en1 en2 : En) (l : List UInt8) : Prop := ∃ a y, en1 = .tc m 49 [a, y] ∧ (a = .nilp ∨ a = .ptr m 0) ∧ isR0 5 y en2 l
theorem wb_mf {prims : Prims} (h52 : prims 52 = none) {s : St} {m : Nat} {en1 en2 : En} {l r : List UInt8} {c : UInt8} {es : List En} (hB : isB m en1 en2 l) (hs : Hp s (en1 :: en2 :: es)) (h : app 1 l [c] = some r) :
    MF Tryd.prog prims 31 [.ptr m 0, enc c] s fun v s' => v = .nifc ∧ ∃ e1 e2, isB m e1 e2 r ∧ Hp s' (e1 :: e2 :: es) := by
  obtain ⟨a, y, rfl, ha, hy⟩ := hB
  obtain ⟨hy0, hy2⟩ := hy.one
  have hy1 : y.cells.all AV.one = true := by rw [hy0]; simp [hy2]
  refine TF_run [(0, .ptr m 0), (1, enc c)] Tryd.func31 rfl (by simp only [Tryd.f31]; rfl) fun ψ => ?_
  refine TC_seq ?_
  refine TC_reg ?_
  refine TO_as (v := .nifc) rfl ?_
  refine TO_nil ?_
  refine TC_seq ?_
  refine TC_reg ?_
  refine TO_mv (v := .ptr m 0) rfl ?_
  refine TO_callM h52 Tryd.func52 rfl (vs := [.ptr m 0]) rfl (cc_mf hs ha hy1) fun v s ⟨hv, hs⟩ => ?_
  refine TO_nil ?_
  refine TC_seq ?_
  refine TC_reg ?_
  refine TO_mv (v := .ptr m 0) rfl ?_
  refine TO_mv (v := .ptr m 0) rfl ?_
  refine TO_nc (m := m) (off := 0) rfl ?_
  refine TO_fa (v := .ptr m 1) rfl (by kernel_rfl) ?_
  refine TO_ldT (m := m) (off := 1) (v := y) rfl hs (by kernel_rfl) ?_
  refine TO_mv (v := enc c) rfl ?_
  refine TO_bs [enc c] ([c] : List UInt8) Tryd.underlying47 TTryd.ef5 rfl rfl rfl (Nat.le_of_ble_eq_true rfl) ⟨Enc.self _, trivial⟩ fun z hz hzc hzn => ?_
  refine TO_apB (es := .tc m 49 [.ptr m 0, y] :: es) Tryd.underlying47 Tryd.underlying47 (fun _ h => by cases h) rfl rfl TTryd.ef5 rfl rfl hy (source_bytes hz) h (hs.front [.tc m 49 [.ptr m 0, y]]) fun z en s hz hs => ?_
  replace hs := Hp.back [.tc m 49 [.ptr m 0, y]] hs
  refine TO_nc (m := m) (off := 0) rfl ?_
  refine TO_fa (v := .ptr m 1) rfl (by kernel_rfl) ?_
  obtain ⟨e1, e2⟩ := hz.one
  refine TO_stT (m := m) (off := 1) (v := z) rfl rfl hs (by rw [e1]; kernel_rfl) (by rw [e1]; simp) (by rw [e1]; simp [e2]) fun s hs => ?_
  refine TO_nil ?_
  rw [show splice [AV.ptr m 0, y] 1 z.cells = [.ptr m 0, z] by rw [e1]; rfl] at hs
  refine TC_seq ?_
  refine TC_reg ?_
  refine TO_as (v := .nifc) rfl ?_
  refine TO_nil ?_
  refine TC_ret ?_
  exact ⟨rfl, .nifc, rfl, .nifc, s, rfl, rfl, .tc m 49 [.ptr m 0, z], en, ⟨.ptr m 0, z, rfl, .inr rfl, hz⟩, hs⟩
theorem ws_mf {prims : Prims} (h52 : prims 52 = none) {s : St} {m : Nat} {en1 en2 : En} {l r : List UInt8} {st : Str} {es : List En} (hB : isB m en1 en2 l) (hs : Hp s (en1 :: en2 :: es)) (h : app 1 l (show List UInt8 from st) = some r) :
    MF Tryd.prog prims 33 [.ptr m 0, enc st] s fun v s' => ∃ k : Int, v = .tup [.int .i64 k, .nifc] ∧ ∃ e1 e2, isB m e1 e2 r ∧ Hp s' (e1 :: e2 :: es) := by
  obtain ⟨a, y, rfl, ha, hy⟩ := hB
  obtain ⟨hy0, hy2⟩ := hy.one
  have hy1 : y.cells.all AV.one = true := by rw [hy0]; simp [hy2]
  refine TF_run [(0, .ptr m 0), (1, enc st)] Tryd.func33 rfl (by simp only [Tryd.f33]; rfl) fun ψ => ?_
  refine TC_seq ?_
  refine TC_reg ?_
  refine TO_as (v := enc (0 : Int)) rfl ?_
  refine TO_as (v := .nifc) rfl ?_
  refine TO_nil ?_
  refine TC_seq ?_
  refine TC_reg ?_
  refine TO_mv (v := .ptr m 0) rfl ?_
  refine TO_callM h52 Tryd.func52 rfl (vs := [.ptr m 0]) rfl (cc_mf hs ha hy1) fun v s ⟨hv, hs⟩ => ?_
  refine TO_nil ?_
  refine TC_seq ?_
  refine TC_reg ?_
  refine TO_mv (v := .ptr m 0) rfl ?_
  refine TO_mv (v := .ptr m 0) rfl ?_
  refine TO_nc (m := m) (off := 0) rfl ?_
  refine TO_fa (v := .ptr m 1) rfl (by kernel_rfl) ?_
  refine TO_ldT (m := m) (off := 1) (v := y) rfl hs (by kernel_rfl) ?_
  refine TO_mv (v := enc st) rfl ?_
  refine TO_apB (es := .tc m 49 [.ptr m 0, y] :: es) Tryd.underlying47 Tryd.underlying9 (fun _ h => by cases h) rfl rfl TTryd.ef5 rfl rfl hy (m := st) rfl h (hs.front [.tc m 49 [.ptr m 0, y]]) fun z en s hz hs => ?_
  replace hs := Hp.back [.tc m 49 [.ptr m 0, y]] hs
  refine TO_nc (m := m) (off := 0) rfl ?_
  refine TO_fa (v := .ptr m 1) rfl (by kernel_rfl) ?_
  obtain ⟨e1, e2⟩ := hz.one
  refine TO_stT (m := m) (off := 1) (v := z) rfl rfl hs (by rw [e1]; kernel_rfl) (by rw [e1]; simp) (by rw [e1]; simp [e2]) fun s hs => ?_
  refine TO_nil ?_
  rw [show splice [AV.ptr m 0, y] 1 z.cells = [.ptr m 0, z] by rw [e1]; rfl] at hs
  refine TC_seq ?_
  refine TC_reg ?_
  refine TO_mv (v := enc st) rfl ?_
  refine TO_lnS (st := st) Tryd.underlying9 rfl rfl ?_
  refine TO_as (v := enc ((List.length st : Nat) : Int)) rfl ?_
  refine TO_as (v := .nifc) rfl ?_
  refine TO_nil ?_
  refine TC_ret ?_
  exact ⟨rfl, .tup [enc ((List.length st : Nat) : Int), .nifc], rfl, .tup [enc ((List.length st : Nat) : Int), .nifc], s, rfl, _, rfl, .tc m 49 [.ptr m 0, z], en, ⟨.ptr m 0, z, rfl, .inr rfl, hz⟩, hs⟩
/-- AppendRune of a rune of one byte, to a row that is owned. -/
theorem ar_mf {prims : Prims} {s : St} {y : AV} {en : En} {l r : List UInt8} {q : Rune} {es : List En} (hq : 0 ≤ q.v ∧ q.v < 128) (hy : isR0 5 y en l) (hs : Hp s (en :: es)) (h : app 1 l [UInt8.ofInt q.v] = some r) :
    MF Tryd.prog prims 55 [y, enc q] s fun v s' => ∃ en', isR0 5 v en' r ∧ Hp s' (en' :: es) := by
  refine TF_runN [(0, y), (1, enc q)] Tryd.func55 rfl (by simp only [Tryd.f55]; rfl) fun ψ => ?_
  refine TC_seq ?_
  refine TC_reg ?_
  refine TO_as (v := .nils) rfl ?_
  refine TO_nil ?_
  refine TC_seq ?_
  refine TC_seq ?_
  refine TC_reg ?_
  refine TO_mv (v := enc q) rfl ?_
  refine TO_cv Tryd.underlying21 Tryd.underlying96 rfl ?_
  rw [IntWalk.u32_in q.v (by omega)]
  refine TO_bi (u := .int .u32 q.v) (w := .int .u32 127) (v := .bool (decide (q.v ≤ 127))) rfl rfl rfl ?_
  refine TO_nil ?_
  refine TC_cond_t rfl (decide_eq_true (by omega)) ?_
  refine TC_seq ?_
  refine TC_reg ?_
  refine TO_mv (v := y) rfl ?_
  refine TO_mv (v := enc q) rfl ?_
  refine TO_cvu8 Tryd.underlying21 Tryd.underlying5 rfl ?_
  refine TO_bs [enc (UInt8.ofInt q.v)] ([UInt8.ofInt q.v] : List UInt8) Tryd.underlying47 TTryd.ef5 rfl rfl rfl (Nat.le_of_ble_eq_true rfl) ⟨Enc.self _, trivial⟩ fun z hz hzc hzn => ?_
  refine TO_apB (es := es) Tryd.underlying47 Tryd.underlying47 (fun _ h => by cases h) rfl rfl TTryd.ef5 rfl rfl hy (source_bytes hz) h hs fun z en s hz hs => ?_
  refine TO_as (v := z) rfl ?_
  refine TO_nil ?_
  refine TC_ret ?_
  exact ⟨rfl, z, rfl, en, hz, hs⟩
theorem wr_mf {prims : Prims} (h52 : prims 52 = none) (h55 : prims 55 = none) {s : St} {m : Nat} {en1 en2 : En} {l r : List UInt8} {q : Rune} {es : List En} (hq : 0 ≤ q.v ∧ q.v < 128) (hB : isB m en1 en2 l) (hs : Hp s (en1 :: en2 :: es)) (h : app 1 l [UInt8.ofInt q.v] = some r) :
    MF Tryd.prog prims 35 [.ptr m 0, enc q] s fun v s' => ∃ k : Int, v = .tup [.int .i64 k, .nifc] ∧ ∃ e1 e2, isB m e1 e2 r ∧ Hp s' (e1 :: e2 :: es) := by
  obtain ⟨a, y, rfl, ha, hy⟩ := hB
  obtain ⟨hy0, hy2⟩ := hy.one
  have hy1 : y.cells.all AV.one = true := by rw [hy0]; simp [hy2]
  refine TF_run [(0, .ptr m 0), (1, enc q)] Tryd.func35 rfl (by simp only [Tryd.f35]; rfl) fun ψ => ?_
  refine TC_seq ?_
  refine TC_reg ?_
  refine TO_as (v := enc (0 : Int)) rfl ?_
  refine TO_as (v := .nifc) rfl ?_
  refine TO_nil ?_
  refine TC_seq ?_
  refine TC_reg ?_
  refine TO_mv (v := .ptr m 0) rfl ?_
  refine TO_callM h52 Tryd.func52 rfl (vs := [.ptr m 0]) rfl (cc_mf hs ha hy1) fun v s ⟨hv, hs⟩ => ?_
  refine TO_nil ?_
  refine TC_seq ?_
  refine TC_reg ?_
  refine TO_mv (v := .ptr m 0) rfl ?_
  refine TO_nc (m := m) (off := 0) rfl ?_
  refine TO_fa (v := .ptr m 1) rfl (by kernel_rfl) ?_
  refine TO_ldT (m := m) (off := 1) (v := y) rfl hs (by kernel_rfl) ?_
  refine TO_lnB Tryd.underlying47 rfl rfl hy ?_
  refine TO_as (v := enc ((l.length : Nat) : Int)) rfl ?_
  refine TO_nil ?_
  refine TC_seq ?_
  refine TC_reg ?_
  refine TO_mv (v := .ptr m 0) rfl ?_
  refine TO_mv (v := .ptr m 0) rfl ?_
  refine TO_nc (m := m) (off := 0) rfl ?_
  refine TO_fa (v := .ptr m 1) rfl (by kernel_rfl) ?_
  refine TO_ldT (m := m) (off := 1) (v := y) rfl hs (by kernel_rfl) ?_
  refine TO_mv (v := enc q) rfl ?_
  refine TO_callM h55 Tryd.func55 rfl (vs := [y, enc q]) rfl (ar_mf (es := .tc m 49 [.ptr m 0, y] :: es) hq hy (hs.front [.tc m 49 [.ptr m 0, y]]) h) fun z s ⟨en, hz, hs⟩ => ?_
  replace hs := Hp.back [.tc m 49 [.ptr m 0, y]] hs
  refine TO_nc (m := m) (off := 0) rfl ?_
  refine TO_fa (v := .ptr m 1) rfl (by kernel_rfl) ?_
  obtain ⟨e1, e2⟩ := hz.one
  refine TO_stT (m := m) (off := 1) (v := z) rfl rfl hs (by rw [e1]; kernel_rfl) (by rw [e1]; simp) (by rw [e1]; simp [e2]) fun s hs => ?_
  refine TO_nil ?_
  rw [show splice [AV.ptr m 0, y] 1 z.cells = [.ptr m 0, z] by rw [e1]; rfl] at hs
  refine TC_seq ?_
  refine TC_reg ?_
  refine TO_mv (v := .ptr m 0) rfl ?_
  refine TO_nc (m := m) (off := 0) rfl ?_
  refine TO_fa (v := .ptr m 1) rfl (by kernel_rfl) ?_
  refine TO_ldT (m := m) (off := 1) (v := z) rfl hs (by kernel_rfl) ?_
  refine TO_lnB Tryd.underlying47 rfl rfl hz ?_
  refine TO_mv (v := enc ((l.length : Nat) : Int)) rfl ?_
  refine TO_bi (v := enc (IntKind.i64.wrap ((r.length : Int) - (l.length : Int)) : Int)) rfl rfl rfl ?_
  refine TO_as (v := enc (IntKind.i64.wrap ((r.length : Int) - (l.length : Int)) : Int)) rfl ?_
  refine TO_as (v := .nifc) rfl ?_
  refine TO_nil ?_
  refine TC_ret ?_
  exact ⟨rfl, .tup [enc (IntKind.i64.wrap ((r.length : Int) - (l.length : Int)) : Int), .nifc], rfl, .tup [enc (IntKind.i64.wrap ((r.length : Int) - (l.length : Int)) : Int), .nifc], s, rfl, _, rfl, .tc m 49 [.ptr m 0, z], en, ⟨.ptr m 0, z, rfl, .inr rfl, hz⟩, hs⟩
theorem bst_mf {prims : Prims} {s : St} {m : Nat} {en1 en2 : En} {l : List UInt8} {es : List En} (hB : isB m en1 en2 l) (hs : Hp s (en1 :: en2 :: es)) (hl : l.length ≤ 9223372036854775807) :
    MF Tryd.prog prims 36 [.ptr m 0] s fun v s' => v = .str l ∧ Hp s' es := by
  obtain ⟨a, y, rfl, ha, hy⟩ := hB
  obtain ⟨hy0, hy2⟩ := hy.one
  refine TF_runN [(0, .ptr m 0)] Tryd.func36 rfl (by simp only [Tryd.f36]; rfl) fun ψ => ?_
  refine TC_seq ?_
  refine TC_reg ?_
  refine TO_as (v := enc (str [])) rfl ?_
  refine TO_nil ?_
  refine TC_seq ?_
  refine TC_ord [0, 1, 2, 3, 5, 6, 7, 8, 4, 9, 10, 11] (by kernel_rfl) ?_
  refine TO_mv (v := .ptr m 0) rfl ?_
  refine TO_nc (m := m) (off := 0) rfl ?_
  refine TO_fa (v := .ptr m 1) rfl (by kernel_rfl) ?_
  refine TO_ldT (m := m) (off := 1) (v := y) rfl hs (by kernel_rfl) ?_
  refine TO_mv (v := .ptr m 0) rfl ?_
  refine TO_nc (m := m) (off := 0) rfl ?_
  refine TO_fa (v := .ptr m 1) rfl (by kernel_rfl) ?_
  refine TO_ldT (m := m) (off := 1) (v := y) rfl hs (by kernel_rfl) ?_
  refine TO_usd (a := y) rfl hy fun p hp => ?_
  refine TO_lnB Tryd.underlying47 rfl rfl hy ?_
  have hfr := hs.front [.tc m 49 [a, y]]
  refine TO_ust (p := p) (xs := l) (ea := en2) (es := .tc m 49 [a, y] :: es) Tryd.underlying80 (by kernel_rfl) rfl rfl ?_ hfr fun s hs => ?_
  · rcases hp with ⟨q, cap, sp, h1, h2, rfl⟩ | ⟨h1, rfl⟩
    · rcases hy with ⟨q', cap', sp', h3, h4, g1, g2, g3, g4⟩ | ⟨h3, h4, h5⟩
      · exact .inl ⟨q, sp, h2, rfl, g3, hl⟩
      · rw [h3] at h1; cases h1
    · exact .inr ⟨h1, rfl⟩
  refine TO_as (v := .str l) rfl ?_
  refine TO_nil ?_
  refine TC_ret ?_
  exact ⟨rfl, .str l, rfl, rfl, hs.tail⟩
/-! ### A builder as one entry -/
def isB1 (m : Nat) (en : En) (l : List UInt8) : Prop := ∃ a y, (a = .nilp ∨ a = .ptr m 0) ∧ ((y = .nils ∧ l = [] ∧ en = .tc m 49 [a, y]) ∨ ∃ q cs, isT 5 y (.tc q 5 cs) l ∧ en = .two m (.tc 49 [a, y]) q (.tc 5 cs))
theorem isB1_new {m : Nat} : isB1 m (.tc m 49 [.nilp, .nils]) [] := ⟨_, _, .inl rfl, .inl ⟨rfl, rfl, rfl⟩⟩
theorem isB1.two {s : St} {m : Nat} {en : En} {l : List UInt8} {es : List En} (h : isB1 m en l) (hs : Hp s (en :: es)) : ∃ e1 e2, isB m e1 e2 l ∧ Hp s (e1 :: e2 :: es) := by
  obtain ⟨a, y, ha, ⟨rfl, rfl, rfl⟩ | ⟨q, cs, hy, rfl⟩⟩ := h
  · exact ⟨_, .own .nils, ⟨a, .nils, rfl, ha, .inr ⟨rfl, rfl, rfl⟩⟩, (hs.tail.add (x := .nils) rfl |> fun _ => Hp.back [.tc m 49 [a, .nils]] (hs.add (x := .nils) rfl))⟩
  · refine ⟨_, _, ⟨a, y, rfl, ha, .inl hy⟩, ?_⟩
    obtain ⟨h1, h2, h3⟩ := hs
    refine ⟨h1, h2, fun e he => ?_⟩
    rcases List.mem_cons.1 he with rfl | he
    · trivial
    · rcases List.mem_cons.1 he with rfl | he
      · trivial
      · exact h3 e (List.mem_cons_of_mem _ he)
theorem isB.one {s : St} {m : Nat} {e1 e2 : En} {l : List UInt8} {es : List En} (h : isB m e1 e2 l) (hs : Hp s (e1 :: e2 :: es)) : ∃ en, isB1 m en l ∧ Hp s (en :: es) := by
  obtain ⟨a, y, rfl, ha, hy | ⟨rfl, rfl, rfl⟩⟩ := h
  · obtain ⟨q, cap, sp, h1, h2, h4⟩ := hy
    subst h2
    refine ⟨.two m (.tc 49 [a, y]) q (.tc 5 _), ⟨a, y, ha, .inr ⟨q, _, ⟨q, cap, sp, h1, rfl, h4⟩, rfl⟩⟩, ?_⟩
    obtain ⟨h1, h2, h3⟩ := hs
    refine ⟨h1, h2, fun e he => ?_⟩
    rcases List.mem_cons.1 he with rfl | he
    · trivial
    · exact h3 e (List.mem_cons_of_mem _ (List.mem_cons_of_mem _ he))
  · exact ⟨_, ⟨a, .nils, ha, .inl ⟨rfl, rfl, rfl⟩⟩, Hp.drop [.tc m 49 [a, .nils]] (b := es) hs⟩
theorem wb1 {prims : Prims} (h52 : prims 52 = none) {s : St} {m : Nat} {en : En} {l r : List UInt8} {c : UInt8} {es : List En} (hB : isB1 m en l) (hs : Hp s (en :: es)) (h : app 1 l [c] = some r) :
    MF Tryd.prog prims 31 [.ptr m 0, enc c] s fun v s' => ∃ en', isB1 m en' r ∧ Hp s' (en' :: es) := by
  obtain ⟨e1, e2, g1, g2⟩ := hB.two hs
  exact (wb_mf h52 g1 g2 h).mono fun v s' ⟨_, e1, e2, k1, k2⟩ => k1.one k2
theorem ws1 {prims : Prims} (h52 : prims 52 = none) {s : St} {m : Nat} {en : En} {l r : List UInt8} {st : Str} {es : List En} (hB : isB1 m en l) (hs : Hp s (en :: es)) (h : app 1 l (show List UInt8 from st) = some r) :
    MF Tryd.prog prims 33 [.ptr m 0, enc st] s fun v s' => ∃ en', isB1 m en' r ∧ Hp s' (en' :: es) := by
  obtain ⟨e1, e2, g1, g2⟩ := hB.two hs
  exact (ws_mf h52 g1 g2 h).mono fun v s' ⟨_, _, e1, e2, k1, k2⟩ => k1.one k2
/-- WriteRune of a rune of one byte. -/
def app1 (l : List UInt8) (q : Rune) : Option (List UInt8) := if 0 ≤ q.v ∧ q.v < 128 then app 1 l [UInt8.ofInt q.v] else none
theorem wr1 {prims : Prims} (h52 : prims 52 = none) (h55 : prims 55 = none) {s : St} {m : Nat} {en : En} {l r : List UInt8} {q : Rune} {es : List En} (hB : isB1 m en l) (hs : Hp s (en :: es)) (h : app1 l q = some r) :
    MF Tryd.prog prims 35 [.ptr m 0, enc q] s fun v s' => ∃ en', isB1 m en' r ∧ Hp s' (en' :: es) := by
  unfold app1 at h
  split at h
  · rename_i hq
    obtain ⟨e1, e2, g1, g2⟩ := hB.two hs
    exact (wr_mf h52 h55 hq g1 g2 h).mono fun v s' ⟨_, _, e1, e2, k1, k2⟩ => k1.one k2
  · cases h
abbrev appS (l : List UInt8) (st : Str) : Option (List UInt8) := app 1 l (show List UInt8 from st)
def strB (l : List UInt8) : Option Str := if l.length ≤ 9223372036854775807 then some l else none
theorem bst1 {prims : Prims} {s : St} {m : Nat} {en : En} {l : List UInt8} {r : Str} {es : List En} (hB : isB1 m en l) (hs : Hp s (en :: es)) (h : strB l = some r) :
    MF Tryd.prog prims 36 [.ptr m 0] s fun v s' => v = enc r ∧ Hp s' es := by
  unfold strB at h
  split at h
  · rename_i hl
    injection h with h; subst h
    obtain ⟨e1, e2, g1, g2⟩ := hB.two hs
    exact (bst_mf g1 g2 hl).mono fun v s' k => k
  · cases h
end Go.Ai.Rab
