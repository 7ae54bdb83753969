/- My own texts DevNs2, DevNs3, one behind the other. -/
import Derived.Test.YtabgpaejofjpbaaDoorWAI
import Derived.Test.YtabgpaejofjpbaaDoorWAF
import Derived.Test.YtabgpaejofjpbaaDoorWAJ
section
/- Contracts of strings.Index, HasPrefix, CutPrefix, CutSuffix, Split, Join at the names' seat. -/
set_option linter.unusedVariables false
set_option linter.unusedSimpArgs false
set_option maxRecDepth 100000
open Go.Ai.Enc (enc is)
open Go.Ai.Res (res ris)
open Go.Ai.Args (args)
namespace Go.Ai.Rab
open Go.Proofs
theorem below_refl {w : World} : RowKit.Below w.heap.size w w := RowKit.Below.refl _ _
theorem ba_size (s : Str) : (ba s).size = List.length s := by show (List.toArray (show List UInt8 from s)).size = _; rw [List.size_toArray]
theorem ba_list (s : Str) : (ba s).data.toList = s := rfl
/-- Where a text begins in another. -/
def slite_Index (s sub : Str) : Option Int :=
  match (show List UInt8 from sub) with
  | [c] => some (Lib.indexByte s c)
  | _ => if List.length s < 4294967281 then some (Lib.index s sub) else none
theorem slite_Index_pc (mx : Int) : PureC Tryd.prog 65 (FnG (NG mx) (fun a : Str × Str × Unit => slite_Index a.1 a.2.1)) :=
  ⟨⟨_, Tryd.func65, rfl⟩, fun G xs v hv w U vs hU hG hr => by
    obtain ⟨rfl, ⟨s, sub, u⟩, r, rfl, h1, rfl⟩ := FnG_some hv
    have h1 : slite_Index s sub = some r := h1
    simp only [args, RelL] at hr
    obtain ⟨v1, us, rfl, g1, v2, us2, rfl, g2, rfl⟩ := hr
    obtain rfl := str_rel g1
    obtain rfl := str_rel g2
    have fin : ∀ {i : Int} {e : Ending} {w' : World}, e = .returned (.int .i64 i) ∧ w' = w → ∃ v', e = .returned v' ∧ Rel w' ρ0 U 0 (res i) v' ∧ RowKit.Below w.heap.size w w' := by
      rintro i e w' ⟨rfl, rfl⟩
      exact ⟨_, rfl, by show Rel _ _ _ _ (.int .i64 _) _; simp only [Rel], below_refl⟩
    have gen : List.length s < 4294967281 → Lib.index s sub = r → Calls Tryd.prog 65 [.string (ba s), .string (ba sub)].toArray w fun e w' => ∃ v', e = .returned v' ∧ Rel w' ρ0 U 0 (res r) v' ∧ RowKit.Below w.heap.size w w' := fun hs e => by
      subst e
      exact (Tryd.stringslite_Index (ba s) (ba sub) mx w (by rw [ba_size]; exact hs) (tabs_of hG).2).mono fun e w' he => fin he
    unfold slite_Index at h1
    split at h1
    · rename_i c hc
      injection h1 with h1; subst h1
      have : ba sub = ⟨#[c]⟩ := by unfold ba; rw [hc]
      rw [this]
      exact (Tryd.stringslite_Index_one (ba s) c w).mono fun e w' he => fin he
    · split at h1
      · rename_i hs
        injection h1 with h1
        exact gen hs h1
      · cases h1⟩
def strings_HasPrefix (s p : Str) : Option Bool := some (Lib.hasPrefix s p)
theorem strings_HasPrefix_pc : PureC Tryd.prog 32 (fun _ => Fn (fun a : Str × Str × Unit => strings_HasPrefix a.1 a.2.1)) :=
  ⟨⟨_, Tryd.func32, rfl⟩, fun G xs v hv w U vs hU hG hr => by
    obtain ⟨⟨s, p, u⟩, r, rfl, h1, rfl⟩ := Fn_some hv
    have h1 : strings_HasPrefix s p = some r := h1
    injection h1 with h1; subst h1
    simp only [args, RelL] at hr
    obtain ⟨v1, us, rfl, g1, v2, us2, rfl, g2, rfl⟩ := hr
    obtain rfl := str_rel g1
    obtain rfl := str_rel g2
    refine (Tryd.strings_HasPrefix (ba s) (ba p) w).mono fun e w' he => ?_
    obtain ⟨rfl, rfl⟩ := he
    exact ⟨_, rfl, by show Rel _ _ _ _ (.bool _) _; simp only [Rel]; rfl, below_refl⟩⟩
theorem rel_pair {w : World} {ρ : Pl} {U : Reg} {c : Nat} {s : Str} {b : Bool} : Rel w ρ U c (res (s, b)) (.tuple #[.string (ba s), .bool b]) := by
  show Rel _ _ _ _ (.tup [.str s, .bool b]) _
  simp only [Rel, RelL]
  exact ⟨_, rfl, _, _, rfl, rfl, _, _, rfl, rfl, rfl⟩
def strings_CutPrefix (s p : Str) : Option (Str × Bool) := some (Lib.trimPrefix s p, Lib.hasPrefix s p)
theorem strings_CutPrefix_pc : PureC Tryd.prog 27 (fun _ => Fn (fun a : Str × Str × Unit => strings_CutPrefix a.1 a.2.1)) :=
  ⟨⟨_, Tryd.func27, rfl⟩, fun G xs v hv w U vs hU hG hr => by
    obtain ⟨⟨s, p, u⟩, r, rfl, h1, rfl⟩ := Fn_some hv
    have h1 : strings_CutPrefix s p = some r := h1
    injection h1 with h1; subst h1
    simp only [args, RelL] at hr
    obtain ⟨v1, us, rfl, g1, v2, us2, rfl, g2, rfl⟩ := hr
    obtain rfl := str_rel g1
    obtain rfl := str_rel g2
    refine (Tryd.strings_CutPrefix (ba s) (ba p) w).mono fun e w' he => ?_
    obtain ⟨rfl, rfl⟩ := he
    exact ⟨_, rfl, rel_pair, below_refl⟩⟩
def strings_CutSuffix (s p : Str) : Option (Str × Bool) := if List.length s ≤ 9223372036854775807 then some (Lib.trimSuffix s p, Lib.hasSuffix s p) else none
theorem strings_CutSuffix_pc : PureC Tryd.prog 28 (fun _ => Fn (fun a : Str × Str × Unit => strings_CutSuffix a.1 a.2.1)) :=
  ⟨⟨_, Tryd.func28, rfl⟩, fun G xs v hv w U vs hU hG hr => by
    obtain ⟨⟨s, p, u⟩, r, rfl, h1, rfl⟩ := Fn_some hv
    have h1 : strings_CutSuffix s p = some r := h1
    unfold strings_CutSuffix at h1
    split at h1
    · rename_i hs
      injection h1 with h1; subst h1
      simp only [args, RelL] at hr
      obtain ⟨v1, us, rfl, g1, v2, us2, rfl, g2, rfl⟩ := hr
      obtain rfl := str_rel g1
      obtain rfl := str_rel g2
      refine (Tryd.strings_CutSuffix (ba s) (ba p) w (by rw [ba_size]; exact hs)).mono fun e w' he => ?_
      obtain ⟨rfl, rfl⟩ := he
      exact ⟨_, rfl, rel_pair, below_refl⟩
    · cases h1⟩
/-! ### Rows of texts -/
theorem strs_relC {w : World} {ρ : Pl} {U : Reg} {c : Nat} : ∀ (m : List Str), RelC w ρ U c 0 (m.map enc) (m.map fun s => Value.string (ba s))
  | [] => by simp [RelC]
  | s :: m => by
    simp only [List.map_cons, RelC]
    exact ⟨.string (ba s), _, rfl, Enc.el (Enc.self s), by show Rel _ _ _ _ (.str s) _; simp only [Rel]; rfl, strs_relC m⟩
theorem strs_fresh {w : World} {ρ : Pl} {U : Reg} {c : Nat} {g cap : Nat} (l : List Str) (hl : l.length ≤ cap) (hc : ∀ i s, l[i]? = some s → w.cell? ⟨g, i, none⟩ = some (.string (ba s))) (hU : ∀ j, ¬ U g j) : Rel w ρ U c (enc l) (.slice (some ⟨g, 0, none⟩) l.length cap) := by
  cases l with
  | nil => show Rel w ρ U c (.emp false) _; simp only [Rel]; exact ⟨_, _, rfl, fun e => by (cases e), fun e => by (cases e)⟩
  | cons x l =>
    show Rel w ρ U c (.vec 0 ((x :: l).map enc) .unk) _
    simp only [Rel]
    refine ⟨⟨g, 0, none⟩, cap, (x :: l).map fun s => .string (ba s), by simp, by simpa using hl, strs_relC _, fun j u hj => ?_, trivial⟩
    rw [List.getElem?_map, Option.map_eq_some_iff] at hj
    obtain ⟨y, hy, rfl⟩ := hj
    refine ⟨?_, hU _⟩
    rw [add_lit, Nat.zero_add]
    exact hc j y hy
def sb (b : ByteArray) : Str := b.data.toList
def strings_Split (s sep : Str) : Option (List Str) := if List.length s < 4294967281 ∧ 1 ≤ List.length sep ∧ (Lib.splitB (ba sep) 0 (Lib.countB (ba s) (ba sep)) (ba s)).length = Lib.countB (ba s) (ba sep) + 1 then some ((Lib.splitB (ba sep) 0 (Lib.countB (ba s) (ba sep)) (ba s)).map sb) else none
theorem strings_Split_pc (mx : Int) : PureC Tryd.prog 37 (FnG (NG mx) (fun a : Str × Str × Unit => strings_Split a.1 a.2.1)) :=
  ⟨⟨_, Tryd.func37, rfl⟩, fun G xs v hv w U vs hU hG hr => by
    obtain ⟨rfl, ⟨s, p, u⟩, r, rfl, h1, rfl⟩ := FnG_some hv
    have h1 : strings_Split s p = some r := h1
    unfold strings_Split at h1
    split at h1
    · rename_i hs
      injection h1 with h1; subst h1
      simp only [args, RelL] at hr
      obtain ⟨v1, us, rfl, g1, v2, us2, rfl, g2, rfl⟩ := hr
      obtain rfl := str_rel g1
      obtain rfl := str_rel g2
      refine (Tryd.strings_Split (ba s) (ba p) mx w (by rw [ba_size]; exact hs.1) (tabs_of hG).2 (by rw [ba_size]; exact hs.2.1)).mono fun e w' he => ?_
      obtain ⟨rfl, rfl⟩ := he
      refine ⟨_, rfl, ?_, RowKit.Below.alloc (RowKit.Below.refl _ _) (Nat.le_refl _) _⟩
      generalize hq : Lib.splitB (ba p) 0 (Lib.countB (ba s) (ba p)) (ba s) = q at *
      have e : Lib.countB (ba s) (ba p) + 1 = (q.map sb).length := by rw [List.length_map]; exact hs.2.2.symm
      rw [e]
      refine strs_fresh _ (Nat.le_refl _) (fun i x hx => ?_) (fun j hj => by have := hU _ _ hj; omega)
      rw [List.getElem?_map, Option.map_eq_some_iff] at hx
      obtain ⟨y, hy, rfl⟩ := hx
      unfold World.cell?
      rw [show (⟨w.heap.size, i, none⟩ : Addr).block = w.heap.size from rfl, heap_alloc_new]
      show (if _ then _ else _) = _
      rw [if_neg (by exact Bool.false_ne_true)]
      show (List.map Value.string q).toArray[i]? = _
      rw [List.getElem?_toArray, List.getElem?_map, hy]
      rfl
    · cases h1⟩
theorem ba_join (l : List Str) : (l.map ba).map (fun x => x.data.toList) = l := by
  rw [List.map_map]; conv => rhs; rw [← List.map_id l]
  exact List.map_congr_left fun s _ => rfl
def strings_Join (l : List Str) (sep : Str) : Option Str := if l ≠ [] ∧ l.length ≤ 140737488355328 ∧ (Lib.join l sep).length ≤ 140737488355328 then some (Lib.join l sep) else none
theorem strings_Join_pc : PureC Tryd.prog 46 (fun _ => Fn (fun a : List Str × Str × Unit => strings_Join a.1 a.2.1)) :=
  ⟨⟨_, Tryd.func46, rfl⟩, fun G xs v hv w U vs hU hG hr => by
    obtain ⟨⟨l, sep, u⟩, r, rfl, h1, rfl⟩ := Fn_some hv
    have h1 : strings_Join l sep = some r := h1
    unfold strings_Join at h1
    split at h1
    · rename_i hb
      injection h1 with h1; subst h1
      simp only [args, RelL] at hr
      obtain ⟨v1, us, rfl, g1, v2, us2, rfl, g2, rfl⟩ := hr
      obtain rfl := str_rel g2
      cases l with
      | nil => exact absurd rfl hb.1
      | cons l0 ls =>
        have g1 : Rel w ρ0 U 0 (.vec 0 ((l0 :: ls).map enc) .unk) v1 := g1
        simp only [Rel] at g1
        obtain ⟨a, cap, cs, rfl, k2, k3, k4, _⟩ := g1
        obtain ⟨e1, e2⟩ := relC_enc' (T := Str) rfl k3
        have hcs : ∀ i u, cs[i]? = some u → w.cell? (a.add i) = some u := fun i u hu => (k4 i u hu).1
        obtain ⟨b, o, sp⟩ := a
        have hc0 := hcs 0 (cs[0]'(by rw [e1]; simp)) (List.getElem?_eq_getElem _)
        have hsp : sp = none := by
          simp only [Addr.add, if_true, World.cell?] at hc0
          cases sp with
          | none => rfl
          | some q => split at hc0 <;> simp at hc0
        subst hsp
        have hb0 : b < w.heap.size := by
          simp only [Addr.add, if_true, World.cell?] at hc0
          apply Nat.lt_of_not_le
          intro hle
          rw [Array.getElem?_eq_none hle] at hc0
          simp at hc0
        have hlen : ((l0 :: ls).map (enc (T := Str))).length = ((l0 :: ls).map ba).length := by rw [List.length_map, List.length_map]
        rw [hlen] at k2 ⊢
        refine (Tryd.strings_Join b o cap ((l0 :: ls).map ba) (ba sep) w (fun j x hx => ?_) hb0 (by rw [List.length_map]; exact hb.2.1) k2 (by rw [ba_join]; exact hb.2.2)).mono fun e w' he => ?_
        · rw [List.getElem?_map, Option.map_eq_some_iff] at hx
          obtain ⟨y, hy, rfl⟩ := hx
          have hj : j < cs.length := by rw [e1]; exact (List.getElem?_eq_some_iff.1 hy).1
          have h3 := e2 j y _ hy (List.getElem?_eq_getElem hj)
          have h4 := hcs j _ (List.getElem?_eq_getElem hj)
          rw [str_rel h3] at h4
          rw [add_lit] at h4
          exact h4
        · obtain ⟨rfl, hB⟩ := he
          rw [ba_join]
          exact ⟨_, rfl, by show Rel _ _ _ _ (.str _) _; simp only [Rel]; rfl, hB⟩
    · cases h1⟩
end Go.Ai.Rab
end
section
/- All that is known of Go's library at the names' seat. -/
open Go.Ai.Enc (enc is)
namespace Go.Ai.Rab
open Go.Proofs
noncomputable def pg0 (mx : Int) : Prims :=
  ((((((((pn20.addG 26 (FnG (NG mx) (fun a : Str × Unit => utf8_ValidString a.1))).addG 39 (FnG (NG mx) (fun a : Str × Unit => utf8_Decode a.1))).addG 65 (FnG (NG mx) (fun a : Str × Str × Unit => slite_Index a.1 a.2.1))).add 32 (Fn (fun a : Str × Str × Unit => strings_HasPrefix a.1 a.2.1))).add 27 (Fn (fun a : Str × Str × Unit => strings_CutPrefix a.1 a.2.1))).add 28 (Fn (fun a : Str × Str × Unit => strings_CutSuffix a.1 a.2.1))).addG 37 (FnG (NG mx) (fun a : Str × Str × Unit => strings_Split a.1 a.2.1))).add 46 (Fn (fun a : (List Str) × Str × Unit => strings_Join a.1 a.2.1))).addG 84 (FnG (NG mx) (fun a : UInt64 × Unit => tz16 a.1))
theorem pg0_ok (mx : Int) : PrimsOk Tryd.prog (pg0 mx) :=
  primsOk_addG (primsOk_add (primsOk_addG (primsOk_add (primsOk_add (primsOk_add (primsOk_addG (primsOk_addG (primsOk_addG pn20_ok (utf8_ValidString_pc mx)) (utf8_Decode_pc mx)) (slite_Index_pc mx)) strings_HasPrefix_pc) strings_CutPrefix_pc) strings_CutSuffix_pc) (strings_Split_pc mx)) strings_Join_pc) (tz16_pc mx)
end Go.Ai.Rab
end
