/- Contracts of functions of values with types: First, the document's First, bytes.Clone, bytes.Join. -/
import Derived.Test.YtdfkffmddgffkaaTg5
import Derived.Test.YtdfkffmddgffkaaT0Try
import Derived.Test.YtdfkffmddgffkaaR16
import Derived.Test.YtdfkffmddgffkaaShelf
set_option linter.unusedVariables false
set_option linter.unusedSimpArgs false
set_option maxRecDepth 100000
open Go.Ai.Enc (enc is)
open Go.Ai.Res (res ris)
open Go.Ai.Args (args)
namespace Go.Ai.Rab
open Go.Proofs
def ints (b : List UInt8) : List Int := b.map fun x => (x.toNat : Int)
theorem ints_len (b : List UInt8) : (ints b).length = b.length := by simp [ints]
theorem bytes_row (b : List UInt8) : IntRow .u8 (enc b) (ints b) := by
  refine ⟨?_, fun n hn => ?_⟩
  · cases b with
    | nil => exact .inl ⟨.inr ⟨_, rfl⟩, rfl⟩
    | cons x b =>
      refine .inr ⟨.unk, ?_⟩
      show AV.vec 0 ((x :: b).map enc) .unk = _
      simp only [ints, List.map_map]; rfl
  · simp only [ints, List.mem_map] at hn
    obtain ⟨x, _, rfl⟩ := hn
    rw [Lit.wf_int_iff]
    have := x.toNat_lt
    simp [IntKind.min, IntKind.max, IntKind.bits, IntKind.signed]; omega
def cut_First (b : List UInt8) : Option Int := if b.length ≤ 9223372036854775807 then some (firstN (ints b) : Nat) else none
theorem cut_First_pc : PureC Try.prog 30 (fun _ => Fn (fun a : (List UInt8) × Unit => cut_First a.1)) := fnC prims10_ok ⟨_, Try.func30, rfl⟩ fun a r h => by
  unfold cut_First at h
  split at h
  · rename_i hl
    injection h with h; subst h
    exact MF_run ((first30 (enc a.1) (ints a.1) (bytes_row a.1) (by rw [ints_len]; exact hl)).mono fun v s k => k.1)
  · cases h
def ref06_First (b : List UInt8) : Option Int := cut_First b
theorem ref06_First_pc : PureC Try.prog 31 (fun _ => Fn (fun a : (List UInt8) × Unit => ref06_First a.1)) := fnC prims10_ok ⟨_, Try.func31, rfl⟩ fun a r h => by
  unfold ref06_First cut_First at h
  split at h
  · rename_i hl
    injection h with h; subst h
    exact MF_run ((refFirst31 (enc a.1) (ints a.1) (bytes_row a.1) (by rw [ints_len]; exact hl)).mono fun v s k => k.1)
  · cases h
end Go.Ai.Rab
namespace Go.Ai
/-- An empty slice: nil, or one of no element. -/
theorem rel_emp {w : World} {ρ : Pl} {U : Reg} {c : Nat} {v : Value} (h : Rel w ρ U c (.emp false) v) : Rel w ρ U c .nils v ∨ ∀ k, Rel w ρ U c (.vec k [] .unk) v := by
  simp only [Rel] at h
  obtain ⟨a, cap, rfl, ha, _⟩ := h
  cases a with
  | none => left; simp only [Rel]; rw [ha rfl]
  | some a =>
    right; intro k
    simp only [Rel]
    exact ⟨a, cap, [], rfl, Nat.zero_le _, by simp [RelC], Row.nil _, trivial⟩
theorem relC_enc {T : Type} [Enc T] (hk : Enc.k T = 0) {w : World} {ρ : Pl} {U : Reg} {c : Nat} : ∀ {l : List T} {cs : List Value}, RelC w ρ U c 0 (l.map enc) cs → cs.length = l.length ∧ ∀ (i : Nat) (a : T) (v : Value), l[i]? = some a → cs[i]? = some v → Rel w ρ U c (enc a) v
  | [], cs, h => by simp only [List.map_nil, RelC] at h; subst h; simp
  | a :: l, cs, h => by
    simp only [List.map_cons, RelC] at h
    obtain ⟨v, us, rfl, h1, h2, h3⟩ := h
    obtain ⟨g1, g2⟩ := relC_enc hk h3
    have hv : v.cells.toList = [v] := by
      have h5 := h2.one (h1.2.2.1 rfl)
      cases v <;> first | rfl | (simp [Value.oneCell'] at h5; done)
    rw [hv]
    refine ⟨by simp [g1], fun i b u hb hu => ?_⟩
    cases i with
    | zero => simp at hb hu; subst hb; subst hu; exact h2
    | succ i => simp only [List.getElem?_cons_succ, List.singleton_append] at hb hu; exact g2 i b u hb hu
theorem holds_of_rel {w : World} {ρ : Pl} {U : Reg} {c : Nat} {b : List UInt8} {v : Value} (h : Rel w ρ U c (enc b) v) : Lib.HoldsBytes w v b := by
  cases b with
  | nil =>
    have h : Rel w ρ U c (.emp false) v := h
    simp only [Rel] at h
    obtain ⟨a, cap, rfl, ha, _⟩ := h
    exact ⟨a, cap, rfl, fun _ => rfl, fun a _ i x hx => by simp at hx⟩
  | cons x b =>
    have h : Rel w ρ U c (.vec 0 ((x :: b).map enc) .unk) v := h
    simp only [Rel] at h
    obtain ⟨a, cap, cs, rfl, h2, h3, h4, _⟩ := h
    obtain ⟨g1, g2⟩ := relC_enc rfl h3
    refine ⟨some a, cap, by simp, fun e => by (cases e), fun a' ha i y hy => ?_⟩
    injection ha with ha; subst ha
    have hi := (List.getElem?_eq_some_iff.1 hy).1
    obtain ⟨u, hu⟩ : ∃ u, cs[i]? = some u := ⟨cs[i], List.getElem?_eq_getElem (by omega)⟩
    have h5 := g2 i y u hy hu
    have h5 : u = .int .u8 (y.toNat : Int) := by simpa [enc, Rel] using h5
    rw [(h4 i u hu).1, h5]
theorem rel_of_fresh {B : Nat} {w : World} {v : Value} {l : List UInt8} {ρ : Pl} {U : Reg} {c : Nat} (h : Lib.FreshBytes B w v l) (hU : ∀ b j, U b j → b < B) : Rel w ρ U c (enc l) v := by
  obtain ⟨g, cap, zs, rfl, h1, h2, h3, h4, h5, h6, h7, _⟩ := h
  cases l with
  | nil => show Rel w ρ U c (.emp false) _; simp only [Rel]; exact ⟨_, _, rfl, fun e => by (cases e), fun e => by (cases e)⟩
  | cons x l =>
    show Rel w ρ U c (.vec 0 ((x :: l).map enc) .unk) _
    simp only [Rel]
    have hz : ∀ i y, (x :: l)[i]? = some y → zs.getD i 0 = (y.toNat : Int) := by
      intro i y hy
      have hi := (List.getElem?_eq_some_iff.1 hy).1
      have e : (Lib.bytesOf (zs.take (x :: l).length))[i]? = some y := by rw [h6]; exact hy
      simp only [Lib.bytesOf, List.getElem?_map] at e
      rw [List.getElem?_take_of_lt (by simpa using hi)] at e
      rw [List.getD_eq_getElem?_getD]
      cases hq : zs[i]? with
      | none => rw [hq] at e; cases e
      | some q =>
        rw [hq] at e
        simp only [Option.map_some, Option.some.injEq] at e
        have := h5 q (List.mem_of_getElem? hq)
        subst e
        simp
        omega
    refine ⟨⟨g, 0, none⟩, cap, (x :: l).map fun b => .int .u8 (b.toNat : Int), by simp, by simpa using h2, ?_, fun j u hj => ?_, trivial⟩
    · generalize (x :: l) = m
      induction m with
      | nil => simp [RelC]
      | cons b m ih =>
        simp only [List.map_cons, RelC]
        exact ⟨.int .u8 (b.toNat : Int), _, rfl, Enc.el (Enc.self b), by simp [enc, Rel], ih⟩
    · rw [List.getElem?_map, Option.map_eq_some_iff] at hj
      obtain ⟨y, hy, rfl⟩ := hj
      have hi := (List.getElem?_eq_some_iff.1 hy).1
      rw [add_lit, Nat.zero_add]
      refine ⟨by rw [h7 j (by omega), hz j y hy], fun hu => ?_⟩
      have : g < B := hU _ _ hu
      omega
end Go.Ai
