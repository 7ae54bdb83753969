/- Values with types: how they stand as values of the interpreter. -/
import Derived.Test.YtdfkffmddgffkaaTg1
set_option linter.unusedVariables false
set_option linter.unusedSimpArgs false
namespace Go.Ai
/-- A text. -/
def Str : Type := List UInt8
instance : DecidableEq Str := inferInstanceAs (DecidableEq (List UInt8))

class Enc (T : Type) where
  enc : T → AV
  k : Nat
  is : AV → T → Prop
  inj : ∀ {a b}, enc a = enc b → a = b
  strip : ∀ {x a}, is x a → stripV x = enc a
  self : ∀ a, is (enc a) a
  el : ∀ {x a}, is x a → okElem k x
  pu : ∀ a, pureV (enc a) = true
open Enc (enc is)
theorem okElem_one {x : AV} (h1 : x.cells = [x]) (h2 : x.one = true) : okElem 0 x :=
  ⟨by rw [h1]; rfl, fun y hy => by rw [h1] at hy; simp at hy; subst hy; exact h2, fun _ => h2, fun h => absurd rfl h⟩
instance : Enc Int where
  enc n := .int .i64 n
  k := 0
  is x n := x = .int .i64 n
  inj h := by injection h
  strip h := by subst h; rfl
  self _ := rfl
  el h := by subst h; exact okElem_one rfl rfl
  pu _ := rfl
instance : Enc Bool where
  enc b := .bool b
  k := 0
  is x b := x = .bool b
  inj h := by injection h
  strip h := by subst h; rfl
  self _ := rfl
  el h := by subst h; exact okElem_one rfl rfl
  pu _ := rfl
instance : Enc Str where
  enc b := .str b
  k := 0
  is x b := x = .str b
  inj h := by injection h
  strip h := by subst h; rfl
  self _ := rfl
  el h := by subst h; exact okElem_one rfl rfl
  pu _ := rfl
instance : Enc UInt8 where
  enc b := .int .u8 (b.toNat : Int)
  k := 0
  is x b := x = .int .u8 (b.toNat : Int)
  inj h := by injection h with _ h; exact UInt8.toNat_inj.1 (by omega)
  strip h := by subst h; rfl
  self _ := rfl
  el h := by subst h; exact okElem_one rfl rfl
  pu _ := rfl
instance : Enc UInt64 where
  enc b := .int .u64 (b.toNat : Int)
  k := 0
  is x b := x = .int .u64 (b.toNat : Int)
  inj h := by injection h with _ h; exact UInt64.toNat_inj.1 (by omega)
  strip h := by subst h; rfl
  self _ := rfl
  el h := by subst h; exact okElem_one rfl rfl
  pu _ := rfl
instance : Enc UInt32 where
  enc b := .int .u32 (b.toNat : Int)
  k := 0
  is x b := x = .int .u32 (b.toNat : Int)
  inj h := by injection h with _ h; exact UInt32.toNat_inj.1 (by omega)
  strip h := by subst h; rfl
  self _ := rfl
  el h := by subst h; exact okElem_one rfl rfl
  pu _ := rfl
/-- A rune. -/
structure Rune where
  v : Int
  deriving DecidableEq
instance : Enc Rune where
  enc b := .int .i32 b.v
  k := 0
  is x b := x = .int .i32 b.v
  inj {a b} h := by injection h with _ h; cases a; cases b; simp_all
  strip h := by subst h; rfl
  self _ := rfl
  el h := by subst h; exact okElem_one rfl rfl
  pu _ := rfl

/-! ### Rows -/
section
variable {T : Type} [Enc T]
def encL : List T → AV
  | [] => .emp false
  | a :: l => .vec (Enc.k T) ((a :: l).map enc) .unk
def isR : List AV → List T → Prop
  | [], [] => True
  | x :: xs, a :: l => is x a ∧ isR xs l
  | _, _ => False
def isL (x : AV) (l : List T) : Prop := ((x = .nils ∨ ∃ z, x = .emp z) ∧ l = []) ∨ ∃ xs c, x = .vec (Enc.k T) xs c ∧ isR xs l
theorem map_inj {l m : List T} (h : l.map (enc (T := T)) = m.map enc) : l = m := by
  induction l generalizing m with
  | nil => cases m with
    | nil => rfl
    | cons b m => simp at h
  | cons a l ih => cases m with
    | nil => simp at h
    | cons b m =>
      simp only [List.map_cons, List.cons.injEq] at h
      rw [Enc.inj h.1, ih h.2]
theorem isR.len {xs : List AV} {l : List T} (h : isR xs l) : xs.length = l.length := by
  induction xs generalizing l with
  | nil => cases l with
    | nil => rfl
    | cons => exact h.elim
  | cons x xs ih => cases l with
    | nil => exact h.elim
    | cons a l => simp only [List.length_cons]; rw [ih h.2]
theorem isR.strip {xs : List AV} {l : List T} (h : isR xs l) : stripL xs = l.map enc := by
  induction xs generalizing l with
  | nil => cases l with
    | nil => rfl
    | cons => exact h.elim
  | cons x xs ih => cases l with
    | nil => exact h.elim
    | cons a l => simp only [stripL, List.map_cons]; rw [ih h.2, Enc.strip h.1]
theorem isR.self : ∀ l : List T, isR (l.map enc) l
  | [] => trivial
  | a :: l => ⟨Enc.self a, isR.self l⟩
theorem isR.append {xs ys : List AV} {l m : List T} (h : isR xs l) (k : isR ys m) : isR (xs ++ ys) (l ++ m) := by
  induction xs generalizing l with
  | nil => cases l with
    | nil => exact k
    | cons => exact h.elim
  | cons x xs ih => cases l with
    | nil => exact h.elim
    | cons a l => exact ⟨h.1, ih h.2⟩
theorem isR.take {xs : List AV} {l : List T} (h : isR xs l) (n : Nat) : isR (xs.take n) (l.take n) := by
  induction xs generalizing l n with
  | nil => cases l with
    | nil => simp [isR]
    | cons => exact h.elim
  | cons x xs ih => cases l with
    | nil => exact h.elim
    | cons a l => cases n with
      | zero => simp [isR]
      | succ n => exact ⟨h.1, ih h.2 n⟩
theorem isR.drop {xs : List AV} {l : List T} (h : isR xs l) (n : Nat) : isR (xs.drop n) (l.drop n) := by
  induction xs generalizing l n with
  | nil => cases l with
    | nil => simp [isR]
    | cons => exact h.elim
  | cons x xs ih => cases l with
    | nil => exact h.elim
    | cons a l => cases n with
      | zero => exact h
      | succ n => exact ih h.2 n
theorem isR.get {xs : List AV} {l : List T} (h : isR xs l) {i : Nat} {a : T} (ha : l[i]? = some a) : ∃ x, xs[i]? = some x ∧ is x a := by
  induction xs generalizing l i with
  | nil => cases l with
    | nil => simp at ha
    | cons => exact h.elim
  | cons x xs ih => cases l with
    | nil => exact h.elim
    | cons b l => cases i with
      | zero => simp at ha; subst ha; exact ⟨x, rfl, h.1⟩
      | succ i => simp only [List.getElem?_cons_succ] at ha ⊢; exact ih h.2 ha
theorem isR.set {xs : List AV} {l : List T} (h : isR xs l) (i : Nat) {x : AV} {a : T} (ha : is x a) : isR (xs.set i x) (l.set i a) := by
  induction xs generalizing l i with
  | nil => cases l with
    | nil => exact h
    | cons => exact h.elim
  | cons y xs ih => cases l with
    | nil => exact h.elim
    | cons b l => cases i with
      | zero => exact ⟨ha, h.2⟩
      | succ i => exact ⟨h.1, ih h.2 i⟩
theorem pureL_map : ∀ l : List T, pureL (l.map enc) = true
  | [] => rfl
  | a :: l => by simp only [List.map_cons, pureL, Enc.pu a, pureL_map l, Bool.and_self]
theorem isL.strip {x : AV} {l : List T} (h : isL x l) : stripV x = encL l := by
  rcases h with ⟨rfl | ⟨z, rfl⟩, rfl⟩ | ⟨xs, c, rfl, h⟩
  · rfl
  · rfl
  · cases l with
    | nil => cases xs with
      | nil => rfl
      | cons => exact h.elim
    | cons a l => cases xs with
      | nil => exact h.elim
      | cons x xs => simp only [stripV, List.isEmpty_cons, Bool.false_eq_true, if_false, h.strip]; rfl
instance : Enc (List T) where
  enc := encL
  k := 0
  is := isL
  inj {a b} h := by
    cases a with
    | nil => cases b with
      | nil => rfl
      | cons => cases h
    | cons a l => cases b with
      | nil => cases h
      | cons b m => injection h with _ h; exact map_inj h
  strip := isL.strip
  self l := by
    cases l with
    | nil => exact .inl ⟨.inr ⟨_, rfl⟩, rfl⟩
    | cons a l => exact .inr ⟨_, _, rfl, isR.self _⟩
  el h := by rcases h with ⟨rfl | ⟨z, rfl⟩, _⟩ | ⟨xs, c, rfl, _⟩ <;> exact okElem_one rfl rfl
  pu l := by
    cases l with
    | nil => rfl
    | cons a l => simp only [encL, pureV, pureL_map, Bool.and_self]
theorem isL.nil : isL .nils ([] : List T) := .inl ⟨.inl rfl, rfl⟩
theorem isL.vec {xs : List AV} {c : Cap} {l : List T} (h : isR xs l) : isL (.vec (Enc.k T) xs c) l := .inr ⟨_, _, rfl, h⟩
end

/-- What the callee sees of a value. -/
theorem view_is {T : Type} [Enc T] {x : AV} {a : T} {s : St} (h : is x a) : view s x = some (enc a, false) := by
  have h1 := Enc.strip h
  have h2 := Enc.pu a
  unfold view
  split
  · rw [stripV] at h1; rw [← h1] at h2; cases h2
  · rw [stripV] at h1; rw [← h1] at h2; cases h2
  · rw [h1, h2]; rfl

/-! ### Results -/
theorem out_of {x u : AV} (h : stripV x = u) (hp : pureV u = true) : out x = some u := by
  unfold out; rw [h, hp]; rfl
class Res (R : Type) where
  res : R → AV
  ris : AV → R → Prop
  out : ∀ {x r}, ris x r → out x = some (res r)
open Res (res ris)
instance {T : Type} [Enc T] : Res T where
  res := enc
  ris := is
  out h := out_of (Enc.strip h) (Enc.pu _)
instance {A B : Type} [Enc A] [Enc B] : Res (A × B) where
  res r := .tup [enc r.1, enc r.2]
  ris x r := ∃ u v, x = .tup [u, v] ∧ is u r.1 ∧ is v r.2
  out h := by
    obtain ⟨u, v, rfl, h1, h2⟩ := h
    exact out_of (by simp only [stripV, stripL, Enc.strip h1, Enc.strip h2]) (by simp only [pureV, pureL, Enc.pu, Bool.and_self])
instance {A B C : Type} [Enc A] [Enc B] [Enc C] : Res (A × B × C) where
  res r := .tup [enc r.1, enc r.2.1, enc r.2.2]
  ris x r := ∃ u v w, x = .tup [u, v, w] ∧ is u r.1 ∧ is v r.2.1 ∧ is w r.2.2
  out h := by
    obtain ⟨u, v, w, rfl, h1, h2, h3⟩ := h
    exact out_of (by simp only [stripV, stripL, Enc.strip h1, Enc.strip h2, Enc.strip h3]) (by simp only [pureV, pureL, Enc.pu, Bool.and_self])
instance {A B C D : Type} [Enc A] [Enc B] [Enc C] [Enc D] : Res (A × B × C × D) where
  res r := .tup [enc r.1, enc r.2.1, enc r.2.2.1, enc r.2.2.2]
  ris x r := ∃ u v w y, x = .tup [u, v, w, y] ∧ is u r.1 ∧ is v r.2.1 ∧ is w r.2.2.1 ∧ is y r.2.2.2
  out h := by
    obtain ⟨u, v, w, y, rfl, h1, h2, h3, h4⟩ := h
    exact out_of (by simp only [stripV, stripL, Enc.strip h1, Enc.strip h2, Enc.strip h3, Enc.strip h4]) (by simp only [pureV, pureL, Enc.pu, Bool.and_self])

/-! ### Arguments; a contract of a function of values with types -/
class Args (A : Type) where
  args : A → List AV
  inj : ∀ {a b}, args a = args b → a = b
open Args (args)
instance : Args Unit := ⟨fun _ => [], fun _ => rfl⟩
instance {T A : Type} [Enc T] [Args A] : Args (T × A) where
  args a := enc a.1 :: args a.2
  inj {a b} h := by
    injection h with h1 h2
    have e1 := Enc.inj h1
    have e2 := Args.inj h2
    cases a; cases b; simp_all
open Classical in
noncomputable def Fn {A R : Type} [Args A] [Res R] (f : A → Option R) (xs : List AV) : Option AV :=
  if h : ∃ a r, xs = args a ∧ f a = some r then some (res h.choose_spec.choose) else none
theorem Fn_at {A R : Type} [Args A] [Res R] {f : A → Option R} {a : A} {r : R} (h : f a = some r) : Fn f (args a) = some (res r) := by
  have h' : ∃ b r, args a = args b ∧ f b = some r := ⟨a, r, rfl, h⟩
  unfold Fn
  rw [dif_pos h']
  obtain ⟨e1, e2⟩ := h'.choose_spec.choose_spec
  have e3 := Args.inj e1
  have e4 := congrArg f e3
  rw [h, e2] at e4
  injection e4 with e4
  exact congrArg (fun x => some (res x)) e4.symm
theorem Fn_some {A R : Type} [Args A] [Res R] {f : A → Option R} {xs : List AV} {v : AV} (h : Fn f xs = some v) : ∃ a r, xs = args a ∧ f a = some r ∧ v = res r := by
  unfold Fn at h
  split at h
  · rename_i h'
    injection h with h
    exact ⟨_, _, h'.choose_spec.choose_spec.1, h'.choose_spec.choose_spec.2, h.symm⟩
  · cases h
end Go.Ai
