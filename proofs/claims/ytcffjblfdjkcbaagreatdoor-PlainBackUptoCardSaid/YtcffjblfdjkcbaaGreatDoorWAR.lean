/- My own texts DevRr0, DevPp8, DevPp9, DevPpB, one behind the other. -/
import Derived.Test.YtcffjblfdjkcbaaGreatDoorCards
import Derived.Test.YtcffjblfdjkcbaaGreatDoorTie
import Derived.Test.YtcffjblfdjkcbaaGreatDoorWAQ
import Derived.Test.YtcffjblfdjkcbaaGreatDoorWAD
import Derived.Test.YtcffjblfdjkcbaaGreatDoorWAG
import Derived.Lib.LaidU8T
import Derived.LaidHandle
import Derived.WalkKit
import Derived.ProofKit
import Derived.OpenShut
import Derived.Deep.DeepHandedRow
import Derived.Lay
import Derived.MakeChecks
import Derived.ChangeArms
import Derived.Shelf.Vars
import Derived.ChangeSlices
section
/- Rows of the plain file system: what the arguments read aS; what the listed variables give. -/
set_option linter.unusedVariables false
set_option linter.unusedSimpArgs false
open Go.Ai.Flds (fe fi fk)
namespace Go.Ai.Rab
open Go.Proofs Go.Lib Go.Proofs.YtcffjblfdjkcbaaGreatDoor
set_option maxRecDepth 100000
/-! ### What arguments read aS -/
def RdP (T : Type) [Enc T] (bk : T → Nat) (t : TypeId) : Prop := ∀ {H : Type} (en : TypeId × Value → H) (W : World) (fuel : Nat) (cs : List Value) (x : DataW H × List MemPlace),
 DataW.trod en Tryz.prog W 0 (fun _ => true) true fuel t cs = some x → ∃ (a : T) (v : Value), cs = v.cells.toList ∧ Rel W ρ0 noReg 0 (Enc.enc a) v ∧ bk a ≤ Rows.uptoBulk x.1 ∧ (Enc.k T = 0 → cs = [v])
def RdF (A : Type) [Flds A] (bk : A → Nat) (fl : List Field) (o : Nat) : Prop := ∀ {H : Type} (en : TypeId × Value → H) (W : World) (n : Nat) (cs : List Value) (xs : List (DataW H × List MemPlace)), xs.length = fl.length →
 (∀ (i : Nat) (f : Field), fl[i]? = some f → DataW.trod en Tryz.prog W 0 (fun _ => true) true n f.type ((cs.drop f.offset).take (Tryz.prog.cellsOf f.type)) = xs[i]?) → cs.length = o + fl.length →
 ∃ a : A, RelL W ρ0 noReg 0 (fe a) (cs.drop o) ∧ bk a ≤ Rows.uptoBulkAll (xs.map (·.1))
def one {T : Type} (_ : T) : Nat := 1
def bkS (s : Str) : Nat := List.length s + 1
def bkL {T : Type} (bk : T → Nat) (l : List T) : Nat := (l.map bk).sum + 1
def bkP {A B : Type} (b1 : A → Nat) (b2 : B → Nat) (a : A × B) : Nat := b1 a.1 + b2 a.2
def bkR {A : Type} (b : A → Nat) (r : Rec A) : Nat := b r.v + 1
theorem rd_int {t : TypeId} (hu : Tryz.prog.underlying t = some (.int .i64)) : RdP Int one t := fun en W fuel cs x h => by
 obtain ⟨n, rfl, rfl, hw⟩ := DataW.trod_int hu h
 exact ⟨n, .int .i64 n, rfl, rel_int, Nat.le_refl _, fun _ => rfl⟩
theorem rd_u8 {t : TypeId} (hu : Tryz.prog.underlying t = some (.int .u8)) : RdP UInt8 one t := fun en W fuel cs x h => by
 obtain ⟨n, rfl, rfl, hw⟩ := DataW.trod_int hu h
 have hw := Go.bounds_u8 hw
 refine ⟨UInt8.ofInt n, .int .u8 n, rfl, ?_, Nat.le_refl _, fun _ => rfl⟩
 have e : ((UInt8.ofInt n).toNat : Int) = n := by
  have : (UInt8.ofInt n).toNat = n.toNat := by
   obtain ⟨m, rfl⟩ : ∃ m : Nat, n = m := ⟨n.toNat, by omega⟩
   simp [UInt8.ofInt]
   omega
  omega
 show Rel _ _ _ _ (.int .u8 ((UInt8.ofInt n).toNat : Int)) _
 rw [e]
 exact rel_int
theorem rd_str {t : TypeId} (hu : Tryz.prog.underlying t = some .string) : RdP Str bkS t := fun en W fuel cs x h => by
 obtain ⟨s, rfl, rfl, hw⟩ := DataW.trod_string hu h
 exact ⟨s.data.toList, .string s, rfl, rel_str, Nat.le_refl _, fun _ => rfl⟩
theorem add_add (a : Addr) (x y : Nat) : (a.add x).add y = a.add (x + y) := by
 cases a
 by_cases hx : x = 0
 ·subst hx; simp [Addr.add]
 ·by_cases hy : y = 0
  ·subst hy; simp [Addr.add]
  ·simp [Addr.add, hx, hy, Nat.add_assoc]
theorem rd_list {T : Type} [Enc T] {bk : T → Nat} {t e : TypeId} (hu : Tryz.prog.underlying t = some (.slice e)) (hc : Tryz.prog.cellsOf e = esz (Enc.k T)) (he : RdP T bk e) : RdP (List T) (bkL bk) t := fun {H} en W fuel cs x h => by
 rcases DataW.trod_slice hu h with ⟨rfl, rfl⟩ | ⟨a, len, cap, elems, rest, n, _, rfl, rfl, hb, hl, hm, hlen, hel, _, _⟩
 ·refine ⟨[], .slice none 0 0, rfl, ?_, Nat.le_refl _, fun _ => rfl⟩
  show Rel _ _ _ _ (.emp false) _
  simp only [Rel]
  exact ⟨none, 0, rfl, fun _ => rfl, fun _ => rfl⟩
 ·have key : ∀ (d i : Nat), i + d = len → ∃ (l : List T) (us : List Value), l.length = d ∧ (l.map bk).sum ≤ Rows.uptoBulkAll ((elems.drop i).map (·.1)) ∧ us.length = d * esz (Enc.k T) ∧ RelC W ρ0 noReg 0 (Enc.k T) (l.map Enc.enc) us ∧ ∀ j, j < d * esz (Enc.k T) → W.cell? (a.add (i * esz (Enc.k T) + j)) = us[j]? := by
   intro d
   induction d with
   | zero => intro i hi; exact ⟨[], [], rfl, Nat.zero_le _, by simp, by simp [RelC], fun j hj => by simp at hj⟩
   | succ d ih =>
    intro i hi
    obtain ⟨l, us, l1, l2, l3, l4, l5⟩ := ih (i + 1) (by omega)
    have hi' : i < elems.length := by omega
    have h1 := hel i (by omega)
    rw [List.getElem?_eq_getElem hi', hc, Option.bind_eq_some_iff] at h1
    obtain ⟨cs1, g1, g2⟩ := h1
    obtain ⟨_, g3, g4⟩ := World.cells?_some g1
    obtain ⟨b, v, k1, k2, k3, k4⟩ := he en W n cs1 _ g2
    refine ⟨b :: l, cs1 ++ us, by simp [l1], ?_, by simp [l3, g3, Nat.succ_mul, Nat.add_comm], ?_, fun j hj => ?_⟩
    ·rw [List.drop_eq_getElem_cons hi']
     simp only [List.map_cons, List.sum_cons, Rows.uptoBulkAll]
     omega
    ·simp only [List.map_cons, RelC]
     exact ⟨v, us, by rw [k1], Enc.el (Enc.self b), k2, l4⟩
    ·by_cases hj2 : j < esz (Enc.k T)
     ·rw [List.getElem?_append_left (by omega), ← g4 j hj2, add_add]
     ·rw [List.getElem?_append_right (by omega), g3, ← l5 (j - esz (Enc.k T)) (by rw [Nat.succ_mul] at hj; omega)]
      congr 2
      rw [Nat.succ_mul]; omega
  obtain ⟨l, us, l1, l2, l3, l4, l5⟩ := key len 0 (by omega)
  refine ⟨l, .slice (some a) len cap, rfl, ?_, ?_, fun _ => rfl⟩
  ·cases l with
   | nil =>
    show Rel _ _ _ _ (.emp false) _
    simp only [Rel]
    exact ⟨some a, cap, by rw [← l1]; rfl, fun e => (by cases e), fun e => (by cases e)⟩
   | cons b l =>
    show Rel _ _ _ _ (.vec (Enc.k T) ((b :: l).map Enc.enc) .unk) _
    simp only [Rel]
    refine ⟨a, cap, us, by rw [List.length_map, l1], by rw [List.length_map, l1]; exact hl, l4, fun j u hj => ⟨?_, fun h => h.elim⟩, by simp [CapOk]⟩
    have hj' := (List.getElem?_eq_some_iff.1 hj).1
    have := l5 j (by omega)
    rw [Nat.zero_mul, Nat.zero_add] at this
    rw [this, hj]
  ·rw [List.drop_zero] at l2
   simp only [bkL, Rows.uptoBulk]
   omega
theorem rdf_nil {o : Nat} : RdF Unit (fun _ => 0) [] o := fun en W n cs xs h1 h2 h3 => by
 refine ⟨(), ?_, Nat.zero_le _⟩
 rw [List.drop_of_length_le (by simp at h3; omega)]
 exact relL_nil
theorem rdf_cons {T A : Type} [Enc T] [Enc0 T] [Flds A] {b1 : T → Nat} {b2 : A → Nat} {f : Field} {fl : List Field} {o : Nat} (ho : f.offset = o) (hc : Tryz.prog.cellsOf f.type = 1) (h : RdP T b1 f.type) (k : RdF A b2 fl (o + 1)) : RdF (T × A) (bkP b1 b2) (f :: fl) o := fun en W n cs xs h1 h2 h3 => by
 obtain ⟨x, xs, rfl⟩ : ∃ x ys, xs = x :: ys := by
  cases xs with
  | nil => simp at h1
  | cons x ys => exact ⟨x, ys, rfl⟩
 have e0 := h2 0 f rfl
 simp only [List.length_cons] at h3 h1
 have hlt : o < cs.length := by omega
 rw [ho, hc] at e0
 have e1 : (cs.drop o).take 1 = [cs[o]] := by rw [List.drop_eq_getElem_cons hlt]; rfl
 rw [e1] at e0
 obtain ⟨a, v, k1, k2, k3, k4⟩ := h en W n _ _ e0
 have k4 := k4 Enc0.k0
 injection k4 with k4 _
 obtain ⟨b, q1, q2⟩ := k en W n cs xs (by omega) (fun i g hg => h2 (i + 1) g hg) (by omega)
 refine ⟨(a, b), ?_, ?_⟩
 ·rw [List.drop_eq_getElem_cons hlt, k4]
  exact relL_cons k2 q1
 ·simp only [bkP, List.map_cons, Rows.uptoBulkAll]; omega
theorem rd_rec {T A : Type} [Enc T] [Enc0 T] [Flds A] {bk : T × A → Nat} {t : TypeId} {fs : Array Field} (hu : Tryz.prog.underlying t = some (.struct fs)) (hc : Tryz.prog.cellsOf t = fs.size) (h : RdF (T × A) bk fs.toList 0) : RdP (Rec (T × A)) (bkR bk) t := fun en W fuel cs x hx => by
 obtain ⟨xs, n, _, rfl, h1, h2, h3⟩ := DataW.trod_struct hu hx
 obtain ⟨a, q1, q2⟩ := h en W n cs xs (by simpa using h2) (fun i f hf => h3 i f (by simpa using hf)) (by rw [h1, hc]; simp)
 refine ⟨Rec.mk a, .agg cs.toArray, by simp [Value.cells], ?_, ?_, fun e => by cases e⟩
 ·show Rel _ _ _ _ (.agg (fe a)) _
  simp only [Rel]
  exact ⟨cs, rfl, q1⟩
 ·simp only [bkR, Rows.uptoBulk]; omega
abbrev bkA : AttrR → Nat := bkR (bkP bkS (bkP (bkL one) (fun _ => 0)))
abbrev bkI : InodeR → Nat := bkR (bkP one (bkP one (bkP one (bkP one (bkP (bkL one) (bkP bkS (bkP (bkL bkS) (bkP (bkL one) (bkP (bkL bkA) (fun _ => 0))))))))))
abbrev bkF : FsR → Nat := bkR (bkP (bkL bkI) (bkP one (fun _ => 0)))
theorem rdA : RdP AttrR bkA 89 := rd_rec Tryz.underlying89 (by kernel_rfl) (rdf_cons rfl (by kernel_rfl) (rd_str Tryz.underlying9) (rdf_cons rfl (by kernel_rfl) (rd_list Tryz.underlying33 (by kernel_rfl) (rd_u8 Tryz.underlying5)) rdf_nil))
theorem rdI : RdP InodeR bkI 38 := rd_rec Tryz.underlying38 (by kernel_rfl) (rdf_cons rfl (by kernel_rfl) (rd_int Tryz.underlying3) (rdf_cons rfl (by kernel_rfl) (rd_int Tryz.underlying25) (rdf_cons rfl (by kernel_rfl) (rd_int Tryz.underlying3) (rdf_cons rfl (by kernel_rfl) (rd_int Tryz.underlying3)
 (rdf_cons rfl (by kernel_rfl) (rd_list Tryz.underlying33 (by kernel_rfl) (rd_u8 Tryz.underlying5)) (rdf_cons rfl (by kernel_rfl) (rd_str Tryz.underlying9) (rdf_cons rfl (by kernel_rfl) (rd_list Tryz.underlying34 (by kernel_rfl) (rd_str Tryz.underlying9)) (rdf_cons rfl (by kernel_rfl) (rd_list Tryz.underlying35 (by kernel_rfl) (rd_int Tryz.underlying3))
 (rdf_cons rfl (by kernel_rfl) (rd_list Tryz.underlying36 (by kernel_rfl) rdA) rdf_nil)))))))))
theorem rdFs : RdP FsR bkF 24 := rd_rec Tryz.underlying24 (by kernel_rfl) (rdf_cons rfl (by kernel_rfl) (rd_list Tryz.underlying22 (by kernel_rfl) rdI) (rdf_cons rfl (by kernel_rfl) (rd_int Tryz.underlying3) rdf_nil))
theorem bkL_len {T : Type} {bk : T → Nat} (h : ∀ a, 1 ≤ bk a) : ∀ l : List T, l.length ≤ bkL bk l
 | [] => Nat.zero_le _
 | a :: l => by
  have h1 := bkL_len h l
  have h2 := h a
  simp only [bkL, List.map_cons, List.sum_cons, List.length_cons] at h1 ⊢
  omega
theorem bkL_mem {T : Type} {bk : T → Nat} : ∀ {l : List T} {a : T}, a ∈ l → bk a ≤ bkL bk l
 | b :: l, a, h => by
  simp only [bkL, List.map_cons, List.sum_cons]
  rcases List.mem_cons.1 h with rfl | h
  ·omega
  ·have := bkL_mem (bk := bk) h
   simp only [bkL] at this
   omega
theorem smallI_bk {x : InodeR} (h : bkI x ≤ 1048576) : smallI x := by
 have h1 := bkL_len (bk := one) (fun a => Nat.le_refl _) x.v.2.2.2.2.1
 have h2 := bkL_len (bk := bkS) (fun a => Nat.succ_le_succ (Nat.zero_le _)) x.v.2.2.2.2.2.2.1
 have h3 := bkL_len (bk := one) (fun a => Nat.le_refl _) x.v.2.2.2.2.2.2.2.1
 have h4 := bkL_len (bk := bkA) (fun a => Nat.succ_le_succ (Nat.zero_le _)) x.v.2.2.2.2.2.2.2.2.1
 simp only [bkI, bkR, bkP] at h
 exact ⟨by omega, by omega, by omega, by omega⟩
theorem smallF_bk {f : FsR} (h : bkF f ≤ 1048576) : smallL f.v.1 := by
 have h1 := bkL_len (bk := bkI) (fun a => Nat.succ_le_succ (Nat.zero_le _)) f.v.1
 simp only [bkF, bkR, bkP] at h
 exact ⟨by omega, fun x hx => smallI_bk (by have := bkL_mem (bk := bkI) hx; omega)⟩
theorem open_rec {T A : Type} [Enc T] [Enc0 T] [Flds A] {bk : Rec (T × A) → Nat} {t : TypeId} (hr : RdP (Rec (T × A)) bk t) {H : Type} {en : TypeId × Value → H} {W : World} {v : Value} {d : DataW H} {p : List MemPlace} (h2 : ∀ r : Rec (T × A), (fe r.v).length ≠ 1)
  (h : DataW.Trod en Tryz.prog W 0 (fun _ => true) true t v d p) : ∃ r : Rec (T × A), Rel W ρ0 noReg 0 (Enc.enc r) v ∧ bk r ≤ Rows.uptoBulk d := by
 obtain ⟨fuel, hf⟩ := h
 obtain ⟨r, v', k1, k2, k3, _⟩ := hr en W fuel _ _ hf
 refine ⟨r, ?_, k3⟩
 have k2' : Rel W ρ0 noReg 0 (.agg (fe r.v)) v' := k2
 simp only [Rel] at k2'
 obtain ⟨vs, rfl, hl⟩ := k2'
 have hlen : vs.length ≠ 1 := by
  have : ∀ (xs : List AV) (us : List Value), RelL W ρ0 noReg 0 xs us → us.length = xs.length := by
   intro xs
   induction xs with
   | nil => intro us hu; simp only [RelL] at hu; rw [hu]; rfl
   | cons x xs ih =>
    intro us hu
    simp only [RelL] at hu
    obtain ⟨u, us', rfl, _, hu⟩ := hu
    simp [ih us' hu]
  rw [this _ _ hl]
  exact h2 r
 have k1 : v.cells.toList = vs := by rw [k1]; simp [Value.cells]
 have : v = .agg vs.toArray := by
  cases v with
  | agg cs =>
   have k1 : cs.toList = vs := k1
   rw [← k1]
  | _ => (exfalso; apply hlen; rw [← k1]; rfl)
 rw [this]; exact k2
/-! ### What the listed variables give -/
def laidN : List (String × DataW Unit) := [("unicode/utf8.acceptRanges", Rows.laid_unicode_utf8_acceptRanges), ("errors.errorType", Rows.laid_errors_errorType), ("unicode/utf8.first", Rows.laid_unicode_utf8_first)]
def laidP : List (String × DataW Unit) := [("unicode/utf8.acceptRanges", Rows.laid_unicode_utf8_acceptRanges), ("unicode/utf8.first", Rows.laid_unicode_utf8_first)]
theorem first_data : (Rows.laid_unicode_utf8_first : DataW Unit) = firstData := by kernel_rfl
theorem accept_data : (Rows.laid_unicode_utf8_acceptRanges : DataW Unit) = acceptData := by kernel_rfl
theorem relL_row {w : World} {ρ : Pl} {U : Reg} {c : Nat} {k : IntKind} : ∀ l : List Int, RelL w ρ U c (l.map (.int k)) (l.map (.int k))
 | [] => relL_nil
 | n :: l => relL_cons rel_int (relL_row l)
theorem globRow {W : World} {g : Nat} {k : IntKind} {cs : List AV} {l : List Int} (hc : cs = l.map (.int k)) (hp : pureL cs = true) (h : ∀ j, j < l.length → W.cell? ⟨g, j, none⟩ = some (.int k (l.getD j 0))) :
  pureL cs = true ∧ ∃ vs : List Value, RelL W ρ0 noReg 0 cs vs ∧ ∀ j u, vs[j]? = some u → W.cell? ⟨g, j, none⟩ = some u ∧ ¬ noReg g j := by
 subst hc
 refine ⟨hp, l.map (.int k), relL_row l, fun j u hj => ⟨?_, fun h => h.elim⟩⟩
 rw [List.getElem?_map, Option.map_eq_some_iff] at hj
 obtain ⟨n, hn, rfl⟩ := hj
 rw [h j (List.getElem?_eq_some_iff.1 hn).1, List.getD_eq_getElem?_getD, hn]
 rfl
def l0 : List Int := (List.range 256).map fun c => (firstT c : Int)
def l1 : List Int := (List.range 32).map fun c => if c % 2 = 0 then (accLo (c / 2) : Int) else (accHi (c / 2) : Int)
theorem t0_eq : tab0 = l0.map (.int .u8) := by kernel_rfl
theorem t1_eq : tab1 = l1.map (.int .u8) := by kernel_rfl
theorem globN {W : World} {mx : Int} (he : W.cell? ⟨0, 0, none⟩ = some (.iface 168 (.agg #[.pointer (some ⟨4, 70, none⟩)]))) (h0 : Utf8Tabs 1 2 W) (h2 : W.cell? ⟨3, 0, none⟩ = some (.int .i64 mx)) : GlobOk W ρ0 noReg 0 (NG mx) := by
 intro g cs hg
 unfold NG at hg
 split at hg
 ·rename_i e; subst e
  obtain rfl := Option.some.inj hg
  refine ⟨by kernel_rfl, [.iface 168 (.agg #[.pointer (some ⟨4, 70, none⟩)])], ?_, fun j u hj => ?_⟩
  ·refine relL_cons ?_ relL_nil
   simp only [Rel]
   refine ⟨_, rfl, [.pointer (some ⟨4, 70, none⟩)], rfl, relL_cons ?_ relL_nil⟩
   simp only [Rel]
  ·cases j with
   | zero => simp at hj; subst hj; exact ⟨he, fun h => h.elim⟩
   | succ j => simp at hj
 ·split at hg
  ·rename_i e; subst e
   obtain rfl := Option.some.inj hg
   refine globRow t0_eq (by kernel_rfl) fun j hj => ?_
   have hj : j < 256 := by simpa [l0] using hj
   rw [h0.1 j hj]
   simp [l0, hj]
  ·split at hg
   ·rename_i e; subst e
    obtain rfl := Option.some.inj hg
    refine globRow t1_eq (by kernel_rfl) fun j hj => ?_
    have hj : j < 32 := by simpa [l1] using hj
    obtain ⟨q1, q2⟩ := h0.2 (j / 2) (by omega)
    by_cases hm : j % 2 = 0
    ·rw [show 2 * (j / 2) = j by omega] at q1
     rw [q1]
     simp [l1, hj, hm]
    ·rw [show 2 * (j / 2) + 1 = j by omega] at q2
     rw [q2]
     simp [l1, hj, hm]
   ·split at hg
    ·rename_i e; subst e
     obtain rfl := Option.some.inj hg
     refine globRow (l := [mx]) (k := .i64) rfl rfl fun j hj => ?_
     have hj : j = 0 := by simpa using hj
     subst hj
     exact h2
    ·cases hg
theorem u8x : U8Extra Tryz.prog Tryz.lays196_ren where
 n3 := by kernel_rfl
 n4 := by kernel_rfl
 y3 := by kernel_rfl
 y4 := by kernel_rfl
 c5 := by kernel_rfl
 c119 := by kernel_rfl
 c138 := by kernel_rfl
theorem et : Tryz.prog.globalNamed "errors.errorType" = some 0 := by kernel_rfl
theorem rt : (Tryz.prog.cutTypes.find? (·.1 == "internal/reflectlite.rtype")).map (·.2) = some 168 := by kernel_rfl
theorem oneRow : ((List.range Tryz.prog.types.size).filter fun t => Tryz.prog.rowNamed t [101, 114, 114, 111, 114]) = [70] := by kernel_rfl
theorem filt : (laidN.filter fun x => x.2.handleName?.isNone) = laidP := by kernel_rfl
theorem filt2 : (laidN.filter fun x => x.2.handleName?.isSome) = [("errors.errorType", Rows.laid_errors_errorType)] := by kernel_rfl
theorem globs {W : World} (hL : laidMetH Tryz.prog laidN W) (hs : W.ShapedOpen Tryz.prog) : ∃ mx, GlobOk W ρ0 noReg 0 (NG mx) := by
 have hL' : laidMet Tryz.prog laidP W ∧ handlesMet Tryz.prog [("errors.errorType", Rows.laid_errors_errorType)] W := by
  unfold laidMetH at hL
  rw [filt2, filt] at hL
  exact hL
 have h3 : VarReads Tryz.prog W "unicode/utf8.first" firstData := first_data ▸ laidMet.reads hL'.1 (.tail _ (.head _))
 have h4 : VarReads Tryz.prog W "unicode/utf8.acceptRanges" acceptData := accept_data ▸ laidMet.reads hL'.1 (.head _)
 obtain ⟨mx, hmx⟩ := cell_of_shapedOpen_int (P := Tryz.prog) (w := W) (g := 3) (t := 3) (zero := #[.int .i64 0]) (k := .i64) hs (of_decide_eq_true (by kernel_rfl)) (by kernel_rfl) (by kernel_rfl) (by kernel_rfl) (by kernel_rfl) (by kernel_rfl)
 obtain ⟨name, u, ty, e1, e2, e3, e4, e5⟩ := hL'.2 _ (List.mem_singleton.2 rfl)
 have en : name = [101, 114, 114, 111, 114] := (Option.some.inj e1).symm
 subst en
 obtain rfl := Option.some.inj (rt.symm.trans e2)
 have hm : ty ∈ (List.range Tryz.prog.types.size).filter fun t => Tryz.prog.rowNamed t [101, 114, 114, 111, 114] := List.mem_filter.2 ⟨List.mem_range.2 e3, e4⟩
 rw [oneRow] at hm
 obtain rfl := List.mem_singleton.1 hm
 have hh : typeHandle Tryz.prog 70 = .pointer (some ⟨4, 70, none⟩) := by kernel_rfl
 rw [hh] at e5
 have he : W.cell? ⟨0, 0, none⟩ = some (.iface 168 (.agg #[.pointer (some ⟨4, 70, none⟩)])) := by simpa using World.var?_cell et e5 0
 exact ⟨mx, globN he (utf8Tabs_of_readsT (U8Types.of196 Tryz.lays196) u8x h3 h4) hmx⟩
noncomputable def w1 (os : Os) : World :=
 let w0 := World.holding Tryz.prog os ⟨#[], #[], []⟩
 { w0 with heap := w0.heap.modify 0 fun
   | .cells _ t frozen => .cells #[.iface 168 (.agg #[.pointer (some ⟨4, 70, none⟩)])] t frozen
   | o => o }
noncomputable def LW (os : Os) : World := (w1 os).layVars Tryz.prog laidP
theorem LW_os (os : Os) : (LW os).os = os := World.layVars_os _ _ _
theorem laidLW (os : Os) (args : Array Value) : laidMet Tryz.prog laidP ((LW os).forCall (fun _ _ => 0) ⟨#[], args, []⟩).memory := by
 have e1 : (laidP.filter fun x => (laidP.map (·.1)).contains x.1) = laidP := List.filter_eq_self.2 fun x hx => List.contains_iff_mem.2 (List.mem_map.2 ⟨x, hx, rfl⟩)
 have e2 : (laidP.filter fun x => !(laidP.map (·.1)).contains x.1) = [] := List.filter_eq_nil_iff.2 fun x hx => by rw [List.contains_iff_mem.2 (List.mem_map.2 ⟨x, hx, rfl⟩)]; simp
 have h : laidMet Tryz.prog laidP (LW os) := laidMet_layVars (w0 := w1 os) (laidP.map (·.1)) [] (by rw [e1]; rfl) (by rw [e1]; kernel_rfl) (by rw [e1]; kernel_rfl) (by rw [e2]; exact LaidIn.none)
 exact h.of_heap (by simp [World.memory, World.forCall, Input.heap])
theorem handLW (os : Os) (args : Array Value) : (laidN.filter fun x => x.2.handleName?.isSome).all (handleAtB Tryz.prog ((LW os).forCall (fun _ _ => 0) ⟨#[], args, []⟩).memory) = true := by kernel_rfl
theorem metLW (os : Os) (args : Array Value) : laidMetH Tryz.prog laidN ((LW os).forCall (fun _ _ => 0) ⟨#[], args, []⟩).memory := laidMetH_of_parts (by rw [filt]; exact laidLW os args) (handLW os args)
end Go.Ai.Rab
end
section
/- Plain, plainly: rows of inodes that rise; what is new. -/
set_option linter.unusedVariables false
set_option linter.unusedSimpArgs false
set_option maxRecDepth 10000
open Go.Ai.Enc (enc is)
namespace Go.Ai.Rab
/-! ### Rows that rise -/
theorem sorted_pw {l : List InodeR} : sorted l ↔ List.Pairwise (fun a b : InodeR => a.v.1 < b.v.1) l := by
 rw [List.pairwise_iff_getElem]
 exact ⟨fun h i j hi hj hij => h i j hj hij, fun h i j hj hij => h i j (by omega) hj hij⟩
theorem sorted_uniq {l : List InodeR} (hs : sorted l) {x y : InodeR} (hx : x ∈ l) (hy : y ∈ l) (e : x.v.1 = y.v.1) : x = y := by
 obtain ⟨i, hi, rfl⟩ := List.getElem_of_mem hx
 obtain ⟨j, hj, rfl⟩ := List.getElem_of_mem hy
 rcases Nat.lt_trichotomy i j with h | h | h
 ·have := hs i j hj h; omega
 ·subst h; rfl
 ·have := hs j i hi h; omega
theorem sorted_ext : ∀ {a b : List InodeR}, sorted a → sorted b → (∀ z, z ∈ a ↔ z ∈ b) → a = b
 | [], b, _, _, h => by
  cases b with
  | nil => rfl
  | cons y b => exact absurd ((h y).2 List.mem_cons_self) (by simp)
 | x :: a, [], _, _, h => absurd ((h x).1 List.mem_cons_self) (by simp)
 | x :: a, y :: b, ha, hb, h => by
  have ha := sorted_pw.1 ha
  have hb := sorted_pw.1 hb
  rw [List.pairwise_cons] at ha hb
  have e : x = y := by
   rcases List.mem_cons.1 ((h x).1 List.mem_cons_self) with h1 | h1
   ·exact h1
   ·rcases List.mem_cons.1 ((h y).2 List.mem_cons_self) with h2 | h2
    ·exact h2.symm
    ·have := hb.1 x h1; have := ha.1 y h2; omega
  subst e
  rw [sorted_ext (sorted_pw.2 ha.2) (sorted_pw.2 hb.2) fun z => ?_]
  constructor
  ·intro hz
   rcases List.mem_cons.1 ((h z).1 (List.mem_cons_of_mem _ hz)) with h1 | h1
   ·subst h1; have := ha.1 z hz; omega
   ·exact h1
  ·intro hz
   rcases List.mem_cons.1 ((h z).2 (List.mem_cons_of_mem _ hz)) with h1 | h1
   ·subst h1; have := hb.1 z hz; omega
   ·exact h1
theorem posI_of {l : List InodeR} (hs : sorted l) {x : InodeR} (hx : x ∈ l) : ∃ i, posI l x.v.1 = some i ∧ i < l.length ∧ inAt l i = x := by
 cases hp : posI l x.v.1 with
 | none =>
  obtain ⟨k, hk, rfl⟩ := List.getElem_of_mem hx
  exact absurd (by rw [inAt_get hk]) (posI_none hp k hk)
 | some i =>
  obtain ⟨h1, h2⟩ := posI_some hp
  exact ⟨i, rfl, h1, sorted_uniq hs (inAt_mem h1) hx h2⟩
theorem with_split {l : List InodeR} (hs : sorted l) (x : InodeR) : ∃ A B : List InodeR, withL l x = A ++ x :: B ∧ (l = A ++ B ∧ (∀ z ∈ l, z.v.1 ≠ x.v.1) ∨ ∃ y, l = A ++ y :: B ∧ y.v.1 = x.v.1) := by
 have hp : ptI l x.v.1 ≤ l.length := pt_le _ l
 refine ⟨l.take (ptI l x.v.1), l.drop (if hasI l x.v.1 = true then ptI l x.v.1 + 1 else ptI l x.v.1), rfl, ?_⟩
 cases hh : hasI l x.v.1 with
 | true =>
  unfold hasI at hh
  simp only [Bool.and_eq_true, decide_eq_true_eq] at hh
  refine .inr ⟨_, ?_, hh.2⟩
  rw [if_pos rfl, inAt_get hh.1, ← List.drop_eq_getElem_cons hh.1, List.take_append_drop]
 | false =>
  refine .inl ⟨by rw [if_neg Bool.false_ne_true, List.take_append_drop], fun z hz e => ?_⟩
  obtain ⟨i, hi, rfl⟩ := List.getElem_of_mem hz
  have h1 : i = ptI l x.v.1 := pt_uniq (by omega) (fun k hk hki => decide_eq_true (by have := hs k i hi hki; omega)) (fun _ => decide_eq_false (by omega))
  unfold hasI at hh
  rw [← h1, decide_eq_true hi, inAt_get hi, decide_eq_true e] at hh
  cases hh
theorem mem_with {l : List InodeR} (hs : sorted l) (x z : InodeR) : z ∈ withL l x ↔ z = x ∨ (z ∈ l ∧ z.v.1 ≠ x.v.1) := by
 obtain ⟨A, B, e, h | ⟨y, h, hy⟩⟩ := with_split hs x
 ·rw [e, h.1]
  simp only [List.mem_append, List.mem_cons]
  constructor
  ·rintro (h1 | h1 | h1)
   ·exact .inr ⟨.inl h1, h.2 z (by rw [h.1]; simp [h1])⟩
   ·exact .inl h1
   ·exact .inr ⟨.inr h1, h.2 z (by rw [h.1]; simp [h1])⟩
  ·rintro (h1 | ⟨h1 | h1, _⟩)
   ·exact .inr (.inl h1)
   ·exact .inl h1
   ·exact .inr (.inr h1)
 ·have hpw := sorted_pw.1 hs
  rw [h, List.pairwise_append, List.pairwise_cons] at hpw
  obtain ⟨_, ⟨p2, _⟩, p3⟩ := hpw
  rw [e, h]
  simp only [List.mem_append, List.mem_cons]
  constructor
  ·rintro (h1 | h1 | h1)
   ·exact .inr ⟨.inl h1, by have := p3 z h1 y List.mem_cons_self; omega⟩
   ·exact .inl h1
   ·exact .inr ⟨.inr (.inr h1), by have := p2 z h1; omega⟩
  ·rintro (h1 | ⟨h1 | h1 | h1, h2⟩)
   ·exact .inr (.inl h1)
   ·exact .inl h1
   ·exact absurd (by rw [h1, hy]) h2
   ·exact .inr (.inr h1)
/-! ### Who is above whom, in rows that change -/
theorem upsL_app (a b : List InodeR) (k : Int) : upsL (a ++ b) k = upsL a k ++ upsL b k := by unfold upsL; rw [List.flatMap_append]
theorem upsL_cons (x : InodeR) (b : List InodeR) (k : Int) : upsL (x :: b) k = upsX x x.v.2.2.2.2.2.2.2.1 k ++ upsL b k := by unfold upsL; rw [List.flatMap_cons]
theorem endsF_congr {a b : List InodeR} (h : ∀ k, upsL a k = upsL b k) : ∀ (d : Nat) (n : Int), endsF a d n = endsF b d n
 | 0, _ => rfl
 | d + 1, n => by
  unfold endsF
  rw [h n]
  cases upsL b n with
  | nil => rfl
  | cons p q => exact endsF_congr h d p
theorem endsF_mono {l : List InodeR} : ∀ (d d' : Nat) (n : Int), d ≤ d' → endsF l d n = true → endsF l d' n = true
 | 0, _, _, _, h => by cases h
 | d + 1, 0, _, hd, _ => by omega
 | d + 1, d' + 1, n, hd, h => by
  unfold endsF at h ⊢
  cases hu : upsL l n with
  | nil => rfl
  | cons p q =>
   rw [hu] at h
   exact endsF_mono d d' p (by omega) h
theorem ok_of {l : List InodeR} {nx : Int} (len : l.length ≤ 512) (root : ∃ z ∈ l, z.v.1 = 1 ∧ z.v.2.1 = 2) (hn : 2 ≤ nx ∧ nx ≤ 513) (al : ∀ x ∈ l, aloneB x = true) (so : sorted l) (kn : ∀ k ∈ numsL l, ∃ x ∈ l, x.v.1 = k) (cn : ∀ x ∈ l, cndX l x = true) : Ok l nx := by
 obtain ⟨z, hz, z1, z2⟩ := root
 have hl : 0 < l.length := List.length_pos_of_mem hz
 have h0 : inAt l 0 = z := by
  obtain ⟨i, hi, e⟩ := List.getElem_of_mem hz
  rcases Nat.eq_zero_or_pos i with h | h
  ·subst h; rw [inAt_get hi, e]
  ·have h1 := so 0 i hi h
   have h2 := alone_small (al _ (List.getElem_mem hl))
   rw [e] at h1; omega
 exact ⟨hl, len, by rw [h0]; exact z1, by rw [h0]; exact z2, hn, al, so, kn, cn⟩
theorem Ok.root {l : List InodeR} {nx : Int} (h : Ok l nx) : ∃ z ∈ l, z.v.1 = 1 ∧ z.v.2.1 = 2 := ⟨_, inAt_mem h.len0, h.n0, h.k0⟩
theorem numsL_mem {l : List InodeR} {k : Int} : k ∈ numsL l ↔ ∃ x ∈ l, k ∈ x.v.2.2.2.2.2.2.2.1 := by unfold numsL; rw [List.mem_flatMap]
/-! ### What is new -/
theorem numF_above : ∀ (l : List InodeR) (k : Int), (∀ x ∈ l, k < x.v.1) → numF l k = k
 | [], _, _ => rfl
 | y :: l, k, h => by
  unfold numF
  rw [List.foldl_cons, if_neg (by have := h y List.mem_cons_self; omega)]
  exact numF_above l k fun x hx => h x (List.mem_cons_of_mem _ hx)
theorem numF_out : ∀ (l : List InodeR) (k : Int), sorted l → ∀ x ∈ l, x.v.1 ≠ numF l k
 | [], _, _, _, hx => by cases hx
 | y :: l, k, hs, x, hx => by
  have hpw := sorted_pw.1 hs
  rw [List.pairwise_cons] at hpw
  have hsl := sorted_pw.2 hpw.2
  have h1 := numF_le l k
  have h2 := numF_le l (k + 1)
  unfold numF
  rw [List.foldl_cons]
  by_cases e : y.v.1 = k
  ·rw [if_pos e]
   rcases List.mem_cons.1 hx with rfl | hx
   ·show x.v.1 ≠ numF l (k + 1); omega
   ·exact numF_out l (k + 1) hsl x hx
  ·rw [if_neg e]
   rcases List.mem_cons.1 hx with rfl | hx
   ·show x.v.1 ≠ numF l k
    by_cases hlt : x.v.1 < k
    ·omega
    ·rw [numF_above l k fun z hz => by have := hpw.1 z hz; omega]
     exact e
   ·exact numF_out l k hsl x hx
theorem Ok.make {l : List InodeR} {nx : Int} (h : Ok l nx) (h5 : l.length < 512) {x : InodeR} (hx : ∀ z ∈ l, z.v.1 ≠ x.v.1) (ha : aloneB x = true) (hi : x.v.2.2.2.2.2.2.2.1 = []) (hl : x.v.2.1 ≠ 2 → x.v.2.2.2.1 = 0) : Ok (withL l x) nx := by
 obtain ⟨A, B, e, hc⟩ := with_split h.so x
 have hAB : l = A ++ B := by
  rcases hc with hc | ⟨y, hy, hye⟩
  ·exact hc.1
  ·exact absurd hye (hx y (by rw [hy]; simp))
 have hu : ∀ k, upsL (withL l x) k = upsL l k := fun k => by
  rw [e, hAB, upsL_app, upsL_app, upsL_cons, hi]; rfl
 have hx0 : upsL l x.v.1 = [] := by
  rw [List.eq_nil_iff_forall_not_mem]
  intro d hd
  obtain ⟨z, hz, _, hk⟩ := upsL_mem.1 hd
  obtain ⟨w, hw, hwe⟩ := h.kn x.v.1 (numsL_mem.2 ⟨z, hz, hk⟩)
  exact hx w hw hwe
 have hlen : (withL l x).length = l.length + 1 := by rw [e, hAB]; simp; omega
 refine ok_of (by omega) ?_ h.nx (fun z hz => ?_) (withL_sorted h.so x) (fun k hk => ?_) fun z hz => ?_
 ·obtain ⟨z, hz, z1, z2⟩ := h.root
  exact ⟨z, (mem_with h.so x z).2 (.inr ⟨hz, hx z hz⟩), z1, z2⟩
 ·rcases (mem_with h.so x z).1 hz with rfl | hz
  ·exact ha
  ·exact h.al z hz.1
 ·obtain ⟨z, hz, hkz⟩ := numsL_mem.1 hk
  rcases (mem_with h.so x z).1 hz with rfl | hz
  ·rw [hi] at hkz; cases hkz
  ·obtain ⟨w, hw, hwe⟩ := h.kn k (numsL_mem.2 ⟨z, hz.1, hkz⟩)
   exact ⟨w, (mem_with h.so x w).2 (.inr ⟨hw, hx w hw⟩), hwe⟩
 ·rcases (mem_with h.so x z).1 hz with rfl | hz
  ·unfold cndX
   rw [hu, hx0]
   by_cases hk : z.v.2.1 = 2
   ·rw [if_neg (by simp [hk])]
    have : endsF (withL l z) ((withL l z).length + 1) z.v.1 = true := by
     unfold endsF
     rw [hu, hx0]
    rw [this]; rfl
   ·rw [if_pos (by simpa using hk), hl hk]; rfl
  ·have := h.cn z hz.1
   unfold cndX at this ⊢
   rw [hu]
   by_cases hk : z.v.2.1 = 2
   ·rw [if_neg (by simp [hk])] at this ⊢
    simp only [Bool.and_eq_true] at this ⊢
    refine ⟨this.1, this.2.1, ?_⟩
    rw [endsF_congr hu]
    exact endsF_mono _ _ _ (by omega) this.2.2
   ·rw [if_pos (by simpa using hk)] at this ⊢
    exact this
theorem make_ok {f : FsR} {kind mode : Int} {t : Str} (h : (makeS f kind mode t).2.2 = 0) : Ok f.v.1 f.v.2.1 ∧ f.v.1.length < 512 ∧ aloneB (newI (numF f.v.1 f.v.2.1) kind mode t) = true ∧ makeS f kind mode t = (Rec.mk (withL f.v.1 (newI (numF f.v.1 f.v.2.1) kind mode t), f.v.2.1, ()), numF f.v.1 f.v.2.1, 0) := by
 unfold makeS at h ⊢
 split at h
 ·rename_i h1
  split at h
  ·cases h
  ·rename_i h2
   split at h
   ·rename_i h3
    have hok := chkL_iff.1 h1
    rw [if_pos h1, if_neg h2, if_pos h3]
    exact ⟨hok, by have := hok.len; omega, h3, rfl⟩
   ·cases h
 ·cases h
theorem Ok.new {f : FsR} {kind mode : Int} {t : Str} (h : (makeS f kind mode t).2.2 = 0) : Ok (withL f.v.1 (newI (numF f.v.1 f.v.2.1) kind mode t)) f.v.2.1 := by
 obtain ⟨hok, h5, ha, _⟩ := make_ok h
 refine hok.make h5 (fun z hz => numF_out f.v.1 f.v.2.1 hok.so z hz) ha rfl fun hk => ?_
 show (if kind = 2 then (1 : Int) else 0) = 0
 exact if_neg hk
end Go.Ai.Rab
end
section
/- Plain, plainly: a name that is entered is found, and left again leaves all aS it was. -/
set_option linter.unusedVariables false
set_option linter.unusedSimpArgs false
set_option maxRecDepth 10000
open Go.Ai.Enc (enc is)
namespace Go.Ai.Rab
theorem dirS_some {f : FsR} {n e : Int} (h : (dirS f n).2.c = some e) : e ≠ 0 := by
 intro e0
 subst e0
 unfold dirS at h
 split at h
 ·split at h
  ·simp at h
  ·split at h <;> simp at h
 ·simp at h
theorem ent_code {f : FsR} {d n : Int} {s : Str} (h : (entS f d s n).2 ≠ 0) : (entS f d s n).1 = f := by
 unfold entS at h ⊢
 cases he : (dirS f d).2.c with
 | some e => rfl
 | none =>
  rw [he] at h
  simp only at h ⊢
  by_cases h1 : chkS s ≠ 0
  ·rw [if_pos h1]
  ·rw [if_neg h1] at h ⊢
   by_cases h2 : hasN (dirS f d).1.v.2.2.2.2.2.2.1 s = true
   ·rw [if_pos h2]
   ·rw [if_neg h2] at h ⊢
    cases hp : posI f.v.1 n with
    | none => rfl
    | some i =>
     rw [hp] at h
     simp only at h ⊢
     by_cases h3 : (inAt f.v.1 i).v.2.1 ≠ 2 ∧ (inAt f.v.1 i).v.2.2.2.1 = 64
     ·rw [if_pos h3]
     ·rw [if_neg h3] at h ⊢
      by_cases h4 : (dirS f d).1.v.2.2.2.2.2.2.1.length = 128
      ·rw [if_pos h4]
      ·rw [if_neg h4] at h ⊢
       by_cases h5 : chkL (entL f.v.1 (dirS f d).1 (inAt f.v.1 i) s n) f.v.2.1 = true
       ·rw [if_pos h5] at h; exact absurd rfl h
       ·rw [if_neg h5]
theorem ent_ok {f : FsR} {d n : Int} {s : Str} (h : (entS f d s n).2 = 0) : Ok f.v.1 f.v.2.1 ∧ ∃ x y, x ∈ f.v.1 ∧ x.v.1 = d ∧ x.v.2.1 = 2 ∧ hasN x.v.2.2.2.2.2.2.1 s = false ∧ y ∈ f.v.1 ∧ y.v.1 = n ∧ Ok (entL f.v.1 x y s n) f.v.2.1 ∧
  entS f d s n = (Rec.mk (entL f.v.1 x y s n, f.v.2.1, ()), 0) := by
 unfold entS at h ⊢
 cases he : (dirS f d).2.c with
 | some e => rw [he] at h; exact absurd h (dirS_some he)
 | none =>
  obtain ⟨hok, j, p1, p2, p3, p4, p5⟩ := dirS_none he
  rw [he] at h
  simp only at h ⊢
  by_cases h1 : chkS s ≠ 0
  ·rw [if_pos h1] at h; exact absurd h h1
  ·rw [if_neg h1] at h ⊢
   by_cases h2 : hasN (dirS f d).1.v.2.2.2.2.2.2.1 s = true
   ·rw [if_pos h2] at h; cases h
   ·rw [if_neg h2] at h ⊢
    cases hp : posI f.v.1 n with
    | none => rw [hp] at h; cases h
    | some i =>
     obtain ⟨q1, q2⟩ := posI_some hp
     rw [hp] at h
     simp only at h ⊢
     by_cases h3 : (inAt f.v.1 i).v.2.1 ≠ 2 ∧ (inAt f.v.1 i).v.2.2.2.1 = 64
     ·rw [if_pos h3] at h; cases h
     ·rw [if_neg h3] at h ⊢
      by_cases h4 : (dirS f d).1.v.2.2.2.2.2.2.1.length = 128
      ·rw [if_pos h4] at h; cases h
      ·rw [if_neg h4] at h ⊢
       by_cases h5 : chkL (entL f.v.1 (dirS f d).1 (inAt f.v.1 i) s n) f.v.2.1 = true
       ·rw [if_pos h5]
        refine ⟨hok, (dirS f d).1, inAt f.v.1 i, by rw [p5]; exact inAt_mem p2, by rw [p5]; exact p3, by rw [p5]; exact p4, by simpa using h2, inAt_mem q1, q2, chkL_iff.1 h5, rfl⟩
       ·rw [if_neg h5] at h; cases h
theorem dirS_of {f : FsR} (hok : Ok f.v.1 f.v.2.1) {x : InodeR} (hx : x ∈ f.v.1) (hk : x.v.2.1 = 2) : dirS f x.v.1 = (x, Err.mk none) := by
 obtain ⟨i, p1, p2, p3⟩ := posI_of hok.so hx
 unfold dirS
 rw [if_pos (chkL_iff.2 hok), p1]
 simp only [p3]
 rw [if_neg (by simp [hk])]
theorem lookS_of {f : FsR} (hok : Ok f.v.1 f.v.2.1) {x : InodeR} (hx : x ∈ f.v.1) (hk : x.v.2.1 = 2) (s : Str) : lookS f x.v.1 s = if hasN x.v.2.2.2.2.2.2.1 s = true then (x.v.2.2.2.2.2.2.2.1.getD (ptN x.v.2.2.2.2.2.2.1 s) 0, 0) else (0, 201) := by
 unfold lookS
 rw [dirS_of hok hx hk]
theorem leaS_of {f : FsR} (hok : Ok f.v.1 f.v.2.1) {x y : InodeR} (hx : x ∈ f.v.1) (hk : x.v.2.1 = 2) (hy : y ∈ f.v.1) {s : Str} (hh : hasN x.v.2.2.2.2.2.2.1 s = true) (hn : x.v.2.2.2.2.2.2.2.1.getD (ptN x.v.2.2.2.2.2.2.1 s) 0 = y.v.1) :
  leaS f x.v.1 s = (Rec.mk (leaL f.v.1 x y s, f.v.2.1, ()), y.v.1, 0) := by
 obtain ⟨i, p1, p2, p3⟩ := posI_of hok.so hx
 obtain ⟨k, q1, q2, q3⟩ := posI_of hok.so hy
 unfold leaS
 rw [lookS_of hok hx hk, if_pos hh, if_neg (by simp)]
 simp only [hn, p1, q1, Option.getD_some, p3, q3]
theorem ptN_of {l : List Str} (hr : risB l = true) {i : Nat} {s : Str} (h : l[i]? = some s) : ptN l s = i := by
 obtain ⟨hi, e⟩ := List.getElem?_eq_some_iff.1 h
 subst e
 exact (pt_uniq (by omega) (fun k hk hki => ris_lt hr k i hi hki) (fun _ => lt_irr _)).symm
theorem put_at {α : Type} (l : List α) (a : α) {p : Nat} (h : p ≤ l.length) : (l.take p ++ a :: l.drop p)[p]? = some a := by
 rw [List.getElem?_append_right (by simp; omega), List.length_take, show p - min p l.length = 0 by omega]; rfl
theorem cut_put {α : Type} (l : List α) (a : α) {p : Nat} (h : p ≤ l.length) : (l.take p ++ a :: l.drop p).take p ++ (l.take p ++ a :: l.drop p).drop (p + 1) = l := by
 have ht : (l.take p).length = p := by rw [List.length_take]; omega
 rw [List.take_left' ht, ← List.drop_drop, List.drop_left' ht]
 show l.take p ++ l.drop p = l
 exact List.take_append_drop _ _
theorem link_eta (y : InodeR) (d : Int) : linkI (linkI y d) (-d) = y := by
 have : y.v.2.2.2.1 + d + -d = y.v.2.2.2.1 := by omega
 show Rec.mk (_, _, _, y.v.2.2.2.1 + d + -d, _) = y
 rw [this]; rfl
end Go.Ai.Rab
end
section
/- PlainBack, plainly. -/
set_option linter.unusedVariables false
set_option linter.unusedSimpArgs false
set_option maxRecDepth 10000
open Go.Ai.Enc (enc is)
namespace Go.Ai.Rab
theorem law_Back_ok {f : FsR} (hs : smallL f.v.1) (d : Int) (s : Str) (n : Int) : law_Back f d s n = some true := by
 obtain ⟨b, hb, _⟩ := small_some hs
 have e0 : law_Back f d s n = _ := bds hb
 cases b with
 | false => exact e0.trans ((if_pos rfl).trans ((bds heads_ok).trans rfl))
 | true =>
  have e0 := e0.trans ((if_neg (by decide)).trans (bds (enter_eq hs d s n)))
  by_cases hc : (entS f d s n).2 = 0
  ·have e0 := e0.trans (if_neg (by simp [hc]))
   obtain ⟨hok, x, y, hx, hxd, hk, hh, hy, hyn, hg, he⟩ := ent_ok hc
   rw [he] at e0
   have e0 := e0.trans ((bds (Lookup_eq (f := Rec.mk (entL f.v.1 x y s n, f.v.2.1, ())) hg.small d s)).trans (bds (Leave_eq (f := Rec.mk (entL f.v.1 x y s n, f.v.2.1, ())) hg.small d s)))
   obtain ⟨d1, d2, d3, d4, d5⟩ := alone_dir (hok.al x hx) hk
   have hp : ptN x.v.2.2.2.2.2.2.1 s ≤ x.v.2.2.2.2.2.2.1.length := pt_le _ _
   generalize hpp : ptN x.v.2.2.2.2.2.2.1 s = p at hp
   have hx1n : (putI x s n).v.1 = d := hxd
   have hs1 := withL_sorted hok.so (putI x s n)
   -- the directory with the name
   have hx1 : putI x s n ∈ entL f.v.1 x y s n := by
    unfold entL
    have h1 : putI x s n ∈ withL f.v.1 (putI x s n) := (mem_with hok.so _ _).2 (.inl rfl)
    split
    ·rename_i hy2
     refine (mem_with hs1 _ _).2 (.inr ⟨h1, fun e => ?_⟩)
     have e : x.v.1 = y.v.1 := e
     rw [← sorted_uniq hok.so hx hy e, hk] at hy2
     simp at hy2
    ·exact h1
   have hk1 : (putI x s n).v.2.1 = 2 := hk
   obtain ⟨c1, c2, c3, c4, c5⟩ := alone_dir (hg.al _ hx1) hk1
   have hnm : (putI x s n).v.2.2.2.2.2.2.1[p]? = some s := by
    show (x.v.2.2.2.2.2.2.1.take (ptN x.v.2.2.2.2.2.2.1 s) ++ s :: x.v.2.2.2.2.2.2.1.drop (ptN x.v.2.2.2.2.2.2.1 s))[p]? = _
    rw [hpp]; exact put_at _ _ hp
   have hpt : ptN (putI x s n).v.2.2.2.2.2.2.1 s = p := ptN_of c1 hnm
   have hh1 : hasN (putI x s n).v.2.2.2.2.2.2.1 s = true := (has_mem c1 s).2 (List.mem_of_getElem? hnm)
   have hnum : (putI x s n).v.2.2.2.2.2.2.2.1.getD p 0 = n := by
    rw [List.getD_eq_getElem?_getD]
    show ((x.v.2.2.2.2.2.2.2.1.take (ptN x.v.2.2.2.2.2.2.1 s) ++ n :: x.v.2.2.2.2.2.2.2.1.drop (ptN x.v.2.2.2.2.2.2.1 s))[p]?).getD 0 = _
    rw [hpp, put_at _ _ (by omega)]; rfl
   have hlook : lookS (Rec.mk (entL f.v.1 x y s n, f.v.2.1, ())) d s = (n, 0) := by
    have := lookS_of (f := Rec.mk (entL f.v.1 x y s n, f.v.2.1, ())) hg hx1 hk1 s
    rw [hx1n, if_pos hh1, hpt, hnum] at this
    exact this
   have hcut : cutI (putI x s n) p = x := by
    have g1 : (putI x s n).v.2.2.2.2.2.2.1.take p ++ (putI x s n).v.2.2.2.2.2.2.1.drop (p + 1) = x.v.2.2.2.2.2.2.1 := by
     show (x.v.2.2.2.2.2.2.1.take (ptN x.v.2.2.2.2.2.2.1 s) ++ s :: x.v.2.2.2.2.2.2.1.drop (ptN x.v.2.2.2.2.2.2.1 s)).take p ++ (x.v.2.2.2.2.2.2.1.take (ptN x.v.2.2.2.2.2.2.1 s) ++ s :: x.v.2.2.2.2.2.2.1.drop (ptN x.v.2.2.2.2.2.2.1 s)).drop (p + 1) = _
     rw [hpp]; exact cut_put _ _ hp
    have g2 : (putI x s n).v.2.2.2.2.2.2.2.1.take p ++ (putI x s n).v.2.2.2.2.2.2.2.1.drop (p + 1) = x.v.2.2.2.2.2.2.2.1 := by
     show (x.v.2.2.2.2.2.2.2.1.take (ptN x.v.2.2.2.2.2.2.1 s) ++ n :: x.v.2.2.2.2.2.2.2.1.drop (ptN x.v.2.2.2.2.2.2.1 s)).take p ++ (x.v.2.2.2.2.2.2.2.1.take (ptN x.v.2.2.2.2.2.2.1 s) ++ n :: x.v.2.2.2.2.2.2.2.1.drop (ptN x.v.2.2.2.2.2.2.1 s)).drop (p + 1) = _
     rw [hpp]; exact cut_put _ _ (by omega)
    unfold cutI
    rw [g1, g2]; rfl
   have hlea : leaS (Rec.mk (entL f.v.1 x y s n, f.v.2.1, ())) d s = (f, n, 0) := by
    have key : ∀ y' : InodeR, y' ∈ entL f.v.1 x y s n → y'.v.1 = n → leaL (entL f.v.1 x y s n) (putI x s n) y' s = f.v.1 → leaS (Rec.mk (entL f.v.1 x y s n, f.v.2.1, ())) d s = (f, n, 0) := fun y' h1 h2 h3 => by
     have := leaS_of (f := Rec.mk (entL f.v.1 x y s n, f.v.2.1, ())) hg hx1 hk1 h1 hh1 (by rw [hpt, hnum, h2])
     rw [hx1n] at this
     rw [this]
     show ((Rec.mk (leaL (entL f.v.1 x y s n) (putI x s n) y' s, f.v.2.1, ()) : FsR), y'.v.1, (0 : Int)) = _
     rw [h3, h2]
    by_cases hy2 : y.v.2.1 = 2
    ·have hE : entL f.v.1 x y s n = withL f.v.1 (putI x s n) := by unfold entL; rw [if_neg (by simp [hy2])]
     have hL : ∀ y' : InodeR, y'.v.2.1 = 2 → leaL (entL f.v.1 x y s n) (putI x s n) y' s = f.v.1 := fun y' h => by
      unfold leaL
      rw [if_neg (by simp [h]), hpt, hcut, hE]
      refine sorted_ext (withL_sorted hs1 x) hok.so fun z => ?_
      rw [mem_with hs1, mem_with hok.so]
      constructor
      ·rintro (rfl | ⟨rfl | h1, h2⟩)
       ·exact hx
       ·exact absurd rfl h2
       ·exact h1.1
      ·intro hz
       by_cases e : z.v.1 = x.v.1
       ·exact .inl (sorted_uniq hok.so hz hx e)
       ·exact .inr ⟨.inr ⟨hz, e⟩, e⟩
     by_cases hnd : n = d
     ·exact key (putI x s n) hx1 (by rw [hx1n, hnd]) (hL _ hk1)
     ·refine key y ?_ hyn (hL y hy2)
      rw [hE]
      refine (mem_with hok.so _ _).2 (.inr ⟨hy, ?_⟩)
      show y.v.1 ≠ x.v.1
      rw [hyn, hxd]; exact hnd
    ·have hE : entL f.v.1 x y s n = withL (withL f.v.1 (putI x s n)) (linkI y 1) := by unfold entL; rw [if_pos (by simpa using hy2)]
     have hs2 := withL_sorted hs1 (linkI y 1)
     have hne : y.v.1 ≠ x.v.1 := fun e => by rw [← sorted_uniq hok.so hx hy e.symm, hk] at hy2; exact hy2 rfl
     refine key (linkI y 1) ?_ hyn ?_
     ·rw [hE]; exact (mem_with hs1 _ _).2 (.inl rfl)
     ·unfold leaL
      rw [if_pos (by show (y.v.2.1 != 2) = true; simpa using hy2), hpt, hcut, link_eta, hE]
      have hs3 := withL_sorted hs2 x
      refine sorted_ext (withL_sorted hs3 y) hok.so fun z => ?_
      rw [mem_with hs3, mem_with hs2, mem_with hs1, mem_with hok.so]
      constructor
      ·rintro (rfl | ⟨rfl | ⟨rfl | ⟨rfl | h1, h2⟩, h3⟩, h4⟩)
       ·exact hy
       ·exact hx
       ·exact absurd rfl h4
       ·exact absurd rfl h3
       ·exact h1.1
      ·intro hz
       by_cases e1 : z.v.1 = y.v.1
       ·exact .inl (sorted_uniq hok.so hz hy e1)
       ·by_cases e2 : z.v.1 = x.v.1
        ·exact .inr ⟨.inl (sorted_uniq hok.so hz hx e2), e1⟩
        ·exact .inr ⟨.inr ⟨.inr ⟨.inr ⟨hz, e2⟩, e1⟩, e2⟩, e1⟩
   rw [hlook, hlea] at e0
   have q1 : (n == n) = true := by simp
   refine e0.trans ?_
   show ((if (n == n) = true then some ((0 : Int) == 0) else some false).bind fun b1 => ((if b1 = true then some (n == n) else some false).bind fun b2 => ((if b2 = true then some ((0 : Int) == 0) else some false).bind fun b3 => ((if b3 = true then ((ref_Same f f).bind fun r_7 => some r_7) else some false).bind fun b4 => ((if b4 = true then ((law_heads).bind fun r_8 => some r_8) else some false).bind fun b5 => some b5))))) = _
   rw [q1, Same_refl hs, heads_ok]; rfl
  ·have e0 := e0.trans (if_pos (by simpa using hc))
   rw [ent_code hc] at e0
   have e0 := e0.trans (bds (Same_refl hs))
   exact e0.trans ((bds (x := true) ((if_pos rfl).trans ((bds heads_ok).trans rfl))).trans rfl)
end Go.Ai.Rab
end
