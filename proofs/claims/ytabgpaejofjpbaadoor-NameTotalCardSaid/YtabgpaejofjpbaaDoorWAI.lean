/- My own texts DevNs1, one behind the other. -/
import Derived.Test.YtabgpaejofjpbaaDoorWAF
import Derived.Test.YtabgpaejofjpbaaDoorWAG
import Derived.Test.YtabgpaejofjpbaaDoorWAH
import Derived.Shelf.Unicode.ValidAny
/- Contracts of Go's library at the names' seat: utf8.ValidString, DecodeRuneInString, strings.Cut and its kin. -/
set_option linter.unusedVariables false
set_option linter.unusedSimpArgs false
set_option maxRecDepth 100000
open Go.Ai.Enc (enc is)
open Go.Ai.Res (res ris)
open Go.Ai.Args (args)
namespace Go.Proofs
open Go.Shelf
def Tryd.lays196_ren : Go.Shelf.Ren := ⟨fun | 196 => 26 | 259 => 47 | n => n, fun | 0 => 0 | 3 => 3 | 4 => 4 | 5 => 5 | 9 => 9 | 12 => 12 | 46 => 57 | 53 => 56 | 119 => 73 | 138 => 75 | 139 => 76 | n => n, fun | 3 => 0 | 4 => 1 | n => n⟩
theorem Tryd.lays196 : Go.Proofs.Lays.n196 Tryd.prog Tryd.lays196_ren := {
  mixed := by kernel_rfl
  f196 := Tryd.func26.trans (congrArg some (by kernel_rfl))
  f259 := Tryd.func47.trans (congrArg some (by kernel_rfl))
  t0 := Tryd.underlying0
  a0 := Tryd.isAgg0
  z0 := Tryd.sizeOf0
  v0 := Tryd.zeroValue0
  t3 := Tryd.underlying3
  a3 := Tryd.isAgg3
  z3 := Tryd.sizeOf3
  v3 := Tryd.zeroValue3
  t4 := Tryd.underlying4
  a4 := Tryd.isAgg4
  z4 := Tryd.sizeOf4
  v4 := Tryd.zeroValue4
  t5 := Tryd.underlying5
  a5 := Tryd.isAgg5
  z5 := Tryd.sizeOf5
  v5 := Tryd.zeroValue5
  t9 := Tryd.underlying9
  a9 := Tryd.isAgg9
  z9 := Tryd.sizeOf9
  v9 := Tryd.zeroValue9
  t12 := Tryd.underlying12
  a12 := Tryd.isAgg12
  z12 := Tryd.sizeOf12
  v12 := Tryd.zeroValue12
  t46 := Tryd.underlying57
  a46 := Tryd.isAgg57
  z46 := Tryd.sizeOf57
  v46 := Tryd.zeroValue57
  t53 := Tryd.underlying56
  a53 := Tryd.isAgg56
  z53 := Tryd.sizeOf56
  v53 := Tryd.zeroValue56
  t119 := Tryd.underlying73
  a119 := Tryd.isAgg73
  z119 := Tryd.sizeOf73
  t138 := Tryd.underlying75
  a138 := Tryd.isAgg75
  z138 := Tryd.sizeOf75
  v138 := Tryd.zeroValue75
  t139 := Tryd.underlying76
  a139 := Tryd.isAgg76
  z139 := Tryd.sizeOf76
  v139 := Tryd.zeroValue76
  g3 := by kernel_rfl
  g4 := by kernel_rfl }
theorem Tryd.utf8_ValidString (s : ByteArray) (w : World) (hs : s.size ≤ 9223372036854775807) (hT : Lib.Utf8Tabs 0 1 w) :
    Calls Tryd.prog 26 #[.string s] w fun e w' => e = .returned (.bool (Lib.validD s.data.toList)) ∧ RowKit.Below w.heap.size w w' := Any.utf8_ValidString Tryd.lays196 s w hs hT
end Go.Proofs
namespace Go.Ai.Rab
open Go.Proofs
def tab0 : List AV := (List.range 256).map fun c => .int .u8 (Lib.firstT c)
def tab1 : List AV := (List.range 32).map fun c => .int .u8 (if c % 2 = 0 then Lib.accLo (c / 2) else Lib.accHi (c / 2))
def tab5 : List AV := [0, 1, 56, 2, 57, 49, 28, 3, 61, 58, 42, 50, 38, 29, 17, 4, 62, 47, 59, 36, 45, 43, 51, 22, 53, 39, 33, 30, 24, 18, 12, 5, 63, 55, 48, 27, 60, 41, 37, 16, 46, 35, 44, 21, 52, 32, 23, 11, 54, 26, 40, 15, 34, 20, 31, 10, 25, 14, 19, 9, 13, 8, 7, 6].map fun (c : Int) => .int .u8 c
/-- What the package variables hold: utf8's tables, and a number that nobody tells. -/
def NG (mx : Int) : Glob := fun g => if g = 0 then some tab0 else if g = 1 then some tab1 else if g = 2 then some [.int .i64 mx] else if g = 5 then some tab5 else none
theorem relL_get {w : World} {ρ : Pl} {U : Reg} {c : Nat} : ∀ {xs : List AV} {vs : List Value}, RelL w ρ U c xs vs → ∀ (i : Nat) (x : AV), xs[i]? = some x → ∃ v, vs[i]? = some v ∧ Rel w ρ U c x v
  | [], vs, h, i, x, hx => by simp at hx
  | y :: xs, vs, h, i, x, hx => by
    simp only [RelL] at h
    obtain ⟨v, us, rfl, h1, h2⟩ := h
    cases i with
    | zero => simp at hx; subst hx; exact ⟨v, rfl, h1⟩
    | succ i => exact relL_get h2 i x (by simpa using hx)
theorem glob_cell {w : World} {ρ : Pl} {U : Reg} {c : Nat} {G : Glob} (h : GlobOk w ρ U c G) {g i : Nat} {cs : List AV} (hg : G g = some cs) {k : IntKind} {n : Int} (hx : cs[i]? = some (.int k n)) : w.cell? ⟨g, i, none⟩ = some (.int k n) := by
  obtain ⟨_, vs, h1, h2⟩ := h g cs hg
  obtain ⟨v, e, hv⟩ := relL_get h1 i _ hx
  have := (h2 i v e).1
  simp only [Rel] at hv
  rw [this, hv]
theorem tabs_of {w : World} {U : Reg} {mx : Int} (h : GlobOk w ρ0 U 0 (NG mx)) : Lib.Utf8Tabs 0 1 w ∧ w.cell? ⟨2, 0, none⟩ = some (.int .i64 mx) := by
  refine ⟨⟨fun c hc => ?_, fun i hi => ⟨?_, ?_⟩⟩, ?_⟩
  · exact glob_cell h (g := 0) (cs := tab0) rfl (by simp [tab0, hc])
  · exact glob_cell h (g := 1) (cs := tab1) rfl (by
      have e : 2 * i < 32 := by omega
      have e1 : 2 * i % 2 = 0 := by omega
      have e2 : 2 * i / 2 = i := by omega
      simp [tab1, e, e1, e2])
  · exact glob_cell h (g := 1) (cs := tab1) rfl (by
      have e : 2 * i + 1 < 32 := by omega
      have e1 : ¬ (2 * i + 1) % 2 = 0 := by omega
      have e2 : (2 * i + 1) / 2 = i := by omega
      simp [tab1, e, e1, e2])
  · exact glob_cell h (g := 2) (cs := [.int .i64 mx]) rfl rfl
/-! ### utf8 -/
def ba (s : Str) : ByteArray := ⟨List.toArray (show List UInt8 from s)⟩
def utf8_ValidString (s : Str) : Option Bool := if List.length s ≤ 9223372036854775807 then some (Lib.validD s) else none
theorem str_rel {w : World} {ρ : Pl} {U : Reg} {c : Nat} {s : Str} {v : Value} (h : Rel w ρ U c (enc s) v) : v = .string (ba s) := by
  have h : Rel w ρ U c (.str s) v := h
  simp only [Rel] at h; exact h
theorem utf8_ValidString_pc (mx : Int) : PureC Tryd.prog 26 (FnG (NG mx) (fun a : Str × Unit => utf8_ValidString a.1)) :=
  ⟨⟨_, Tryd.func26, rfl⟩, fun G xs v hv w U vs hU hG hr => by
    obtain ⟨rfl, ⟨s, u⟩, r, rfl, h1, rfl⟩ := FnG_some hv
    have h1 : utf8_ValidString s = some r := h1
    unfold utf8_ValidString at h1
    split at h1
    · rename_i hs
      injection h1 with h1; subst h1
      simp only [args, RelL] at hr
      obtain ⟨v1, us, rfl, g1, rfl⟩ := hr
      obtain rfl := str_rel g1
      refine (Tryd.utf8_ValidString (ba s) w (by show (List.toArray (show List UInt8 from s)).size ≤ _; rw [List.size_toArray]; exact hs) (tabs_of hG).1).mono fun e w' he => ?_
      exact ⟨_, he.1, by show Rel _ _ _ _ (.bool _) _; simp only [Rel]; rfl, he.2⟩
    · cases h1⟩
def utf8_Decode (s : Str) : Option (Rune × Int) := some (⟨(Lib.decodeGo (ba s)).1⟩, (Lib.decodeGo (ba s)).2)
theorem utf8_Decode_pc (mx : Int) : PureC Tryd.prog 39 (FnG (NG mx) (fun a : Str × Unit => utf8_Decode a.1)) :=
  ⟨⟨_, Tryd.func39, rfl⟩, fun G xs v hv w U vs hU hG hr => by
    obtain ⟨rfl, ⟨s, u⟩, r, rfl, h1, rfl⟩ := FnG_some hv
    have h1 : utf8_Decode s = some r := h1
    injection h1 with h1; subst h1
    simp only [args, RelL] at hr
    obtain ⟨v1, us, rfl, g1, rfl⟩ := hr
    obtain rfl := str_rel g1
    refine (Tryd.utf8_DecodeRuneInString (ba s) w (tabs_of hG).1).mono fun e w' he => ?_
    refine ⟨_, he.1, ?_, he.2⟩
    show Rel _ _ _ _ (.tup [.int .i32 _, .int .i64 _]) _
    simp only [Rel, RelL]
    exact ⟨_, rfl, _, _, rfl, rfl, _, _, rfl, rfl, rfl⟩⟩
/-! ### bits.TrailingZeros of 16 -/
def tz16 (x : UInt64) : Option Int := if x = 16 then some 4 else none
theorem tz16_ans (mx : Int) : answerG Tryd.prog pn0 (NG mx) 60 84 [.int .u64 16] = some (.int .i64 4) := by kernel_rfl
theorem tz16_pc (mx : Int) : PureC Tryd.prog 84 (FnG (NG mx) (fun a : UInt64 × Unit => tz16 a.1)) :=
  pureCG_of pn0_ok ⟨_, Tryd.func84, rfl⟩ fun G xs r h => by
    obtain ⟨rfl, ⟨x, u⟩, v, rfl, h1, rfl⟩ := FnG_some h
    have h1 : tz16 x = some v := h1
    unfold tz16 at h1
    split at h1
    · rename_i e; subst e
      injection h1 with h1; subst h1
      exact ⟨60, tz16_ans mx⟩
    · cases h1
end Go.Ai.Rab
