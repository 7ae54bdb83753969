/- My own texts DevRr0, DevPpU, one behind the other. -/
import Derived.Test.YtcffjblfdjkcbaaGreatDoorCards
import Derived.Test.YtcffjblfdjkcbaaGreatDoorTie
import Derived.Test.YtcffjblfdjkcbaaGreatDoorWAQ
import Derived.Test.YtcffjblfdjkcbaaGreatDoorWAD
import Derived.Test.YtcffjblfdjkcbaaGreatDoorWAG
import Derived.Lib.LaidU8T
import Derived.LaidHandle
import Derived.WalkKit
import Derived.ProofKit
import Derived.OpenShut
import Derived.Deep.DeepHandedRow
import Derived.Lay
import Derived.MakeChecks
import Derived.ChangeArms
import Derived.Shelf.Vars
import Derived.ChangeSlices
section
/- Rows of the plain file system: what the arguments read aS; what the listed variables give. -/
set_option linter.unusedVariables false
set_option linter.unusedSimpArgs false
open Go.Ai.Flds (fe fi fk)
namespace Go.Ai.Rab
open Go.Proofs Go.Lib Go.Proofs.YtcffjblfdjkcbaaGreatDoor
set_option maxRecDepth 100000
/-! ### What arguments read aS -/
def RdP (T : Type) [Enc T] (bk : T → Nat) (t : TypeId) : Prop := ∀ {H : Type} (en : TypeId × Value → H) (W : World) (fuel : Nat) (cs : List Value) (x : DataW H × List MemPlace),
 DataW.trod en Tryz.prog W 0 (fun _ => true) true fuel t cs = some x → ∃ (a : T) (v : Value), cs = v.cells.toList ∧ Rel W ρ0 noReg 0 (Enc.enc a) v ∧ bk a ≤ Rows.uptoBulk x.1 ∧ (Enc.k T = 0 → cs = [v])
def RdF (A : Type) [Flds A] (bk : A → Nat) (fl : List Field) (o : Nat) : Prop := ∀ {H : Type} (en : TypeId × Value → H) (W : World) (n : Nat) (cs : List Value) (xs : List (DataW H × List MemPlace)), xs.length = fl.length →
 (∀ (i : Nat) (f : Field), fl[i]? = some f → DataW.trod en Tryz.prog W 0 (fun _ => true) true n f.type ((cs.drop f.offset).take (Tryz.prog.cellsOf f.type)) = xs[i]?) → cs.length = o + fl.length →
 ∃ a : A, RelL W ρ0 noReg 0 (fe a) (cs.drop o) ∧ bk a ≤ Rows.uptoBulkAll (xs.map (·.1))
def one {T : Type} (_ : T) : Nat := 1
def bkS (s : Str) : Nat := List.length s + 1
def bkL {T : Type} (bk : T → Nat) (l : List T) : Nat := (l.map bk).sum + 1
def bkP {A B : Type} (b1 : A → Nat) (b2 : B → Nat) (a : A × B) : Nat := b1 a.1 + b2 a.2
def bkR {A : Type} (b : A → Nat) (r : Rec A) : Nat := b r.v + 1
theorem rd_int {t : TypeId} (hu : Tryz.prog.underlying t = some (.int .i64)) : RdP Int one t := fun en W fuel cs x h => by
 obtain ⟨n, rfl, rfl, hw⟩ := DataW.trod_int hu h
 exact ⟨n, .int .i64 n, rfl, rel_int, Nat.le_refl _, fun _ => rfl⟩
theorem rd_u8 {t : TypeId} (hu : Tryz.prog.underlying t = some (.int .u8)) : RdP UInt8 one t := fun en W fuel cs x h => by
 obtain ⟨n, rfl, rfl, hw⟩ := DataW.trod_int hu h
 have hw := Go.bounds_u8 hw
 refine ⟨UInt8.ofInt n, .int .u8 n, rfl, ?_, Nat.le_refl _, fun _ => rfl⟩
 have e : ((UInt8.ofInt n).toNat : Int) = n := by
  have : (UInt8.ofInt n).toNat = n.toNat := by
   obtain ⟨m, rfl⟩ : ∃ m : Nat, n = m := ⟨n.toNat, by omega⟩
   simp [UInt8.ofInt]
   omega
  omega
 show Rel _ _ _ _ (.int .u8 ((UInt8.ofInt n).toNat : Int)) _
 rw [e]
 exact rel_int
theorem rd_str {t : TypeId} (hu : Tryz.prog.underlying t = some .string) : RdP Str bkS t := fun en W fuel cs x h => by
 obtain ⟨s, rfl, rfl, hw⟩ := DataW.trod_string hu h
 exact ⟨s.data.toList, .string s, rfl, rel_str, Nat.le_refl _, fun _ => rfl⟩
theorem add_add (a : Addr) (x y : Nat) : (a.add x).add y = a.add (x + y) := by
 cases a
 by_cases hx : x = 0
 ·subst hx; simp [Addr.add]
 ·by_cases hy : y = 0
  ·subst hy; simp [Addr.add]
  ·simp [Addr.add, hx, hy, Nat.add_assoc]
theorem rd_list {T : Type} [Enc T] {bk : T → Nat} {t e : TypeId} (hu : Tryz.prog.underlying t = some (.slice e)) (hc : Tryz.prog.cellsOf e = esz (Enc.k T)) (he : RdP T bk e) : RdP (List T) (bkL bk) t := fun {H} en W fuel cs x h => by
 rcases DataW.trod_slice hu h with ⟨rfl, rfl⟩ | ⟨a, len, cap, elems, rest, n, _, rfl, rfl, hb, hl, hm, hlen, hel, _, _⟩
 ·refine ⟨[], .slice none 0 0, rfl, ?_, Nat.le_refl _, fun _ => rfl⟩
  show Rel _ _ _ _ (.emp false) _
  simp only [Rel]
  exact ⟨none, 0, rfl, fun _ => rfl, fun _ => rfl⟩
 ·have key : ∀ (d i : Nat), i + d = len → ∃ (l : List T) (us : List Value), l.length = d ∧ (l.map bk).sum ≤ Rows.uptoBulkAll ((elems.drop i).map (·.1)) ∧ us.length = d * esz (Enc.k T) ∧ RelC W ρ0 noReg 0 (Enc.k T) (l.map Enc.enc) us ∧ ∀ j, j < d * esz (Enc.k T) → W.cell? (a.add (i * esz (Enc.k T) + j)) = us[j]? := by
   intro d
   induction d with
   | zero => intro i hi; exact ⟨[], [], rfl, Nat.zero_le _, by simp, by simp [RelC], fun j hj => by simp at hj⟩
   | succ d ih =>
    intro i hi
    obtain ⟨l, us, l1, l2, l3, l4, l5⟩ := ih (i + 1) (by omega)
    have hi' : i < elems.length := by omega
    have h1 := hel i (by omega)
    rw [List.getElem?_eq_getElem hi', hc, Option.bind_eq_some_iff] at h1
    obtain ⟨cs1, g1, g2⟩ := h1
    obtain ⟨_, g3, g4⟩ := World.cells?_some g1
    obtain ⟨b, v, k1, k2, k3, k4⟩ := he en W n cs1 _ g2
    refine ⟨b :: l, cs1 ++ us, by simp [l1], ?_, by simp [l3, g3, Nat.succ_mul, Nat.add_comm], ?_, fun j hj => ?_⟩
    ·rw [List.drop_eq_getElem_cons hi']
     simp only [List.map_cons, List.sum_cons, Rows.uptoBulkAll]
     omega
    ·simp only [List.map_cons, RelC]
     exact ⟨v, us, by rw [k1], Enc.el (Enc.self b), k2, l4⟩
    ·by_cases hj2 : j < esz (Enc.k T)
     ·rw [List.getElem?_append_left (by omega), ← g4 j hj2, add_add]
     ·rw [List.getElem?_append_right (by omega), g3, ← l5 (j - esz (Enc.k T)) (by rw [Nat.succ_mul] at hj; omega)]
      congr 2
      rw [Nat.succ_mul]; omega
  obtain ⟨l, us, l1, l2, l3, l4, l5⟩ := key len 0 (by omega)
  refine ⟨l, .slice (some a) len cap, rfl, ?_, ?_, fun _ => rfl⟩
  ·cases l with
   | nil =>
    show Rel _ _ _ _ (.emp false) _
    simp only [Rel]
    exact ⟨some a, cap, by rw [← l1]; rfl, fun e => (by cases e), fun e => (by cases e)⟩
   | cons b l =>
    show Rel _ _ _ _ (.vec (Enc.k T) ((b :: l).map Enc.enc) .unk) _
    simp only [Rel]
    refine ⟨a, cap, us, by rw [List.length_map, l1], by rw [List.length_map, l1]; exact hl, l4, fun j u hj => ⟨?_, fun h => h.elim⟩, by simp [CapOk]⟩
    have hj' := (List.getElem?_eq_some_iff.1 hj).1
    have := l5 j (by omega)
    rw [Nat.zero_mul, Nat.zero_add] at this
    rw [this, hj]
  ·rw [List.drop_zero] at l2
   simp only [bkL, Rows.uptoBulk]
   omega
theorem rdf_nil {o : Nat} : RdF Unit (fun _ => 0) [] o := fun en W n cs xs h1 h2 h3 => by
 refine ⟨(), ?_, Nat.zero_le _⟩
 rw [List.drop_of_length_le (by simp at h3; omega)]
 exact relL_nil
theorem rdf_cons {T A : Type} [Enc T] [Enc0 T] [Flds A] {b1 : T → Nat} {b2 : A → Nat} {f : Field} {fl : List Field} {o : Nat} (ho : f.offset = o) (hc : Tryz.prog.cellsOf f.type = 1) (h : RdP T b1 f.type) (k : RdF A b2 fl (o + 1)) : RdF (T × A) (bkP b1 b2) (f :: fl) o := fun en W n cs xs h1 h2 h3 => by
 obtain ⟨x, xs, rfl⟩ : ∃ x ys, xs = x :: ys := by
  cases xs with
  | nil => simp at h1
  | cons x ys => exact ⟨x, ys, rfl⟩
 have e0 := h2 0 f rfl
 simp only [List.length_cons] at h3 h1
 have hlt : o < cs.length := by omega
 rw [ho, hc] at e0
 have e1 : (cs.drop o).take 1 = [cs[o]] := by rw [List.drop_eq_getElem_cons hlt]; rfl
 rw [e1] at e0
 obtain ⟨a, v, k1, k2, k3, k4⟩ := h en W n _ _ e0
 have k4 := k4 Enc0.k0
 injection k4 with k4 _
 obtain ⟨b, q1, q2⟩ := k en W n cs xs (by omega) (fun i g hg => h2 (i + 1) g hg) (by omega)
 refine ⟨(a, b), ?_, ?_⟩
 ·rw [List.drop_eq_getElem_cons hlt, k4]
  exact relL_cons k2 q1
 ·simp only [bkP, List.map_cons, Rows.uptoBulkAll]; omega
theorem rd_rec {T A : Type} [Enc T] [Enc0 T] [Flds A] {bk : T × A → Nat} {t : TypeId} {fs : Array Field} (hu : Tryz.prog.underlying t = some (.struct fs)) (hc : Tryz.prog.cellsOf t = fs.size) (h : RdF (T × A) bk fs.toList 0) : RdP (Rec (T × A)) (bkR bk) t := fun en W fuel cs x hx => by
 obtain ⟨xs, n, _, rfl, h1, h2, h3⟩ := DataW.trod_struct hu hx
 obtain ⟨a, q1, q2⟩ := h en W n cs xs (by simpa using h2) (fun i f hf => h3 i f (by simpa using hf)) (by rw [h1, hc]; simp)
 refine ⟨Rec.mk a, .agg cs.toArray, by simp [Value.cells], ?_, ?_, fun e => by cases e⟩
 ·show Rel _ _ _ _ (.agg (fe a)) _
  simp only [Rel]
  exact ⟨cs, rfl, q1⟩
 ·simp only [bkR, Rows.uptoBulk]; omega
abbrev bkA : AttrR → Nat := bkR (bkP bkS (bkP (bkL one) (fun _ => 0)))
abbrev bkI : InodeR → Nat := bkR (bkP one (bkP one (bkP one (bkP one (bkP (bkL one) (bkP bkS (bkP (bkL bkS) (bkP (bkL one) (bkP (bkL bkA) (fun _ => 0))))))))))
abbrev bkF : FsR → Nat := bkR (bkP (bkL bkI) (bkP one (fun _ => 0)))
theorem rdA : RdP AttrR bkA 89 := rd_rec Tryz.underlying89 (by kernel_rfl) (rdf_cons rfl (by kernel_rfl) (rd_str Tryz.underlying9) (rdf_cons rfl (by kernel_rfl) (rd_list Tryz.underlying33 (by kernel_rfl) (rd_u8 Tryz.underlying5)) rdf_nil))
theorem rdI : RdP InodeR bkI 38 := rd_rec Tryz.underlying38 (by kernel_rfl) (rdf_cons rfl (by kernel_rfl) (rd_int Tryz.underlying3) (rdf_cons rfl (by kernel_rfl) (rd_int Tryz.underlying25) (rdf_cons rfl (by kernel_rfl) (rd_int Tryz.underlying3) (rdf_cons rfl (by kernel_rfl) (rd_int Tryz.underlying3)
 (rdf_cons rfl (by kernel_rfl) (rd_list Tryz.underlying33 (by kernel_rfl) (rd_u8 Tryz.underlying5)) (rdf_cons rfl (by kernel_rfl) (rd_str Tryz.underlying9) (rdf_cons rfl (by kernel_rfl) (rd_list Tryz.underlying34 (by kernel_rfl) (rd_str Tryz.underlying9)) (rdf_cons rfl (by kernel_rfl) (rd_list Tryz.underlying35 (by kernel_rfl) (rd_int Tryz.underlying3))
 (rdf_cons rfl (by kernel_rfl) (rd_list Tryz.underlying36 (by kernel_rfl) rdA) rdf_nil)))))))))
theorem rdFs : RdP FsR bkF 24 := rd_rec Tryz.underlying24 (by kernel_rfl) (rdf_cons rfl (by kernel_rfl) (rd_list Tryz.underlying22 (by kernel_rfl) rdI) (rdf_cons rfl (by kernel_rfl) (rd_int Tryz.underlying3) rdf_nil))
theorem bkL_len {T : Type} {bk : T → Nat} (h : ∀ a, 1 ≤ bk a) : ∀ l : List T, l.length ≤ bkL bk l
 | [] => Nat.zero_le _
 | a :: l => by
  have h1 := bkL_len h l
  have h2 := h a
  simp only [bkL, List.map_cons, List.sum_cons, List.length_cons] at h1 ⊢
  omega
theorem bkL_mem {T : Type} {bk : T → Nat} : ∀ {l : List T} {a : T}, a ∈ l → bk a ≤ bkL bk l
 | b :: l, a, h => by
  simp only [bkL, List.map_cons, List.sum_cons]
  rcases List.mem_cons.1 h with rfl | h
  ·omega
  ·have := bkL_mem (bk := bk) h
   simp only [bkL] at this
   omega
theorem smallI_bk {x : InodeR} (h : bkI x ≤ 1048576) : smallI x := by
 have h1 := bkL_len (bk := one) (fun a => Nat.le_refl _) x.v.2.2.2.2.1
 have h2 := bkL_len (bk := bkS) (fun a => Nat.succ_le_succ (Nat.zero_le _)) x.v.2.2.2.2.2.2.1
 have h3 := bkL_len (bk := one) (fun a => Nat.le_refl _) x.v.2.2.2.2.2.2.2.1
 have h4 := bkL_len (bk := bkA) (fun a => Nat.succ_le_succ (Nat.zero_le _)) x.v.2.2.2.2.2.2.2.2.1
 simp only [bkI, bkR, bkP] at h
 exact ⟨by omega, by omega, by omega, by omega⟩
theorem smallF_bk {f : FsR} (h : bkF f ≤ 1048576) : smallL f.v.1 := by
 have h1 := bkL_len (bk := bkI) (fun a => Nat.succ_le_succ (Nat.zero_le _)) f.v.1
 simp only [bkF, bkR, bkP] at h
 exact ⟨by omega, fun x hx => smallI_bk (by have := bkL_mem (bk := bkI) hx; omega)⟩
theorem open_rec {T A : Type} [Enc T] [Enc0 T] [Flds A] {bk : Rec (T × A) → Nat} {t : TypeId} (hr : RdP (Rec (T × A)) bk t) {H : Type} {en : TypeId × Value → H} {W : World} {v : Value} {d : DataW H} {p : List MemPlace} (h2 : ∀ r : Rec (T × A), (fe r.v).length ≠ 1)
  (h : DataW.Trod en Tryz.prog W 0 (fun _ => true) true t v d p) : ∃ r : Rec (T × A), Rel W ρ0 noReg 0 (Enc.enc r) v ∧ bk r ≤ Rows.uptoBulk d := by
 obtain ⟨fuel, hf⟩ := h
 obtain ⟨r, v', k1, k2, k3, _⟩ := hr en W fuel _ _ hf
 refine ⟨r, ?_, k3⟩
 have k2' : Rel W ρ0 noReg 0 (.agg (fe r.v)) v' := k2
 simp only [Rel] at k2'
 obtain ⟨vs, rfl, hl⟩ := k2'
 have hlen : vs.length ≠ 1 := by
  have : ∀ (xs : List AV) (us : List Value), RelL W ρ0 noReg 0 xs us → us.length = xs.length := by
   intro xs
   induction xs with
   | nil => intro us hu; simp only [RelL] at hu; rw [hu]; rfl
   | cons x xs ih =>
    intro us hu
    simp only [RelL] at hu
    obtain ⟨u, us', rfl, _, hu⟩ := hu
    simp [ih us' hu]
  rw [this _ _ hl]
  exact h2 r
 have k1 : v.cells.toList = vs := by rw [k1]; simp [Value.cells]
 have : v = .agg vs.toArray := by
  cases v with
  | agg cs =>
   have k1 : cs.toList = vs := k1
   rw [← k1]
  | _ => (exfalso; apply hlen; rw [← k1]; rfl)
 rw [this]; exact k2
/-! ### What the listed variables give -/
def laidN : List (String × DataW Unit) := [("unicode/utf8.acceptRanges", Rows.laid_unicode_utf8_acceptRanges), ("errors.errorType", Rows.laid_errors_errorType), ("unicode/utf8.first", Rows.laid_unicode_utf8_first)]
def laidP : List (String × DataW Unit) := [("unicode/utf8.acceptRanges", Rows.laid_unicode_utf8_acceptRanges), ("unicode/utf8.first", Rows.laid_unicode_utf8_first)]
theorem first_data : (Rows.laid_unicode_utf8_first : DataW Unit) = firstData := by kernel_rfl
theorem accept_data : (Rows.laid_unicode_utf8_acceptRanges : DataW Unit) = acceptData := by kernel_rfl
theorem relL_row {w : World} {ρ : Pl} {U : Reg} {c : Nat} {k : IntKind} : ∀ l : List Int, RelL w ρ U c (l.map (.int k)) (l.map (.int k))
 | [] => relL_nil
 | n :: l => relL_cons rel_int (relL_row l)
theorem globRow {W : World} {g : Nat} {k : IntKind} {cs : List AV} {l : List Int} (hc : cs = l.map (.int k)) (hp : pureL cs = true) (h : ∀ j, j < l.length → W.cell? ⟨g, j, none⟩ = some (.int k (l.getD j 0))) :
  pureL cs = true ∧ ∃ vs : List Value, RelL W ρ0 noReg 0 cs vs ∧ ∀ j u, vs[j]? = some u → W.cell? ⟨g, j, none⟩ = some u ∧ ¬ noReg g j := by
 subst hc
 refine ⟨hp, l.map (.int k), relL_row l, fun j u hj => ⟨?_, fun h => h.elim⟩⟩
 rw [List.getElem?_map, Option.map_eq_some_iff] at hj
 obtain ⟨n, hn, rfl⟩ := hj
 rw [h j (List.getElem?_eq_some_iff.1 hn).1, List.getD_eq_getElem?_getD, hn]
 rfl
def l0 : List Int := (List.range 256).map fun c => (firstT c : Int)
def l1 : List Int := (List.range 32).map fun c => if c % 2 = 0 then (accLo (c / 2) : Int) else (accHi (c / 2) : Int)
theorem t0_eq : tab0 = l0.map (.int .u8) := by kernel_rfl
theorem t1_eq : tab1 = l1.map (.int .u8) := by kernel_rfl
theorem globN {W : World} {mx : Int} (he : W.cell? ⟨0, 0, none⟩ = some (.iface 168 (.agg #[.pointer (some ⟨4, 70, none⟩)]))) (h0 : Utf8Tabs 1 2 W) (h2 : W.cell? ⟨3, 0, none⟩ = some (.int .i64 mx)) : GlobOk W ρ0 noReg 0 (NG mx) := by
 intro g cs hg
 unfold NG at hg
 split at hg
 ·rename_i e; subst e
  obtain rfl := Option.some.inj hg
  refine ⟨by kernel_rfl, [.iface 168 (.agg #[.pointer (some ⟨4, 70, none⟩)])], ?_, fun j u hj => ?_⟩
  ·refine relL_cons ?_ relL_nil
   simp only [Rel]
   refine ⟨_, rfl, [.pointer (some ⟨4, 70, none⟩)], rfl, relL_cons ?_ relL_nil⟩
   simp only [Rel]
  ·cases j with
   | zero => simp at hj; subst hj; exact ⟨he, fun h => h.elim⟩
   | succ j => simp at hj
 ·split at hg
  ·rename_i e; subst e
   obtain rfl := Option.some.inj hg
   refine globRow t0_eq (by kernel_rfl) fun j hj => ?_
   have hj : j < 256 := by simpa [l0] using hj
   rw [h0.1 j hj]
   simp [l0, hj]
  ·split at hg
   ·rename_i e; subst e
    obtain rfl := Option.some.inj hg
    refine globRow t1_eq (by kernel_rfl) fun j hj => ?_
    have hj : j < 32 := by simpa [l1] using hj
    obtain ⟨q1, q2⟩ := h0.2 (j / 2) (by omega)
    by_cases hm : j % 2 = 0
    ·rw [show 2 * (j / 2) = j by omega] at q1
     rw [q1]
     simp [l1, hj, hm]
    ·rw [show 2 * (j / 2) + 1 = j by omega] at q2
     rw [q2]
     simp [l1, hj, hm]
   ·split at hg
    ·rename_i e; subst e
     obtain rfl := Option.some.inj hg
     refine globRow (l := [mx]) (k := .i64) rfl rfl fun j hj => ?_
     have hj : j = 0 := by simpa using hj
     subst hj
     exact h2
    ·cases hg
theorem u8x : U8Extra Tryz.prog Tryz.lays196_ren where
 n3 := by kernel_rfl
 n4 := by kernel_rfl
 y3 := by kernel_rfl
 y4 := by kernel_rfl
 c5 := by kernel_rfl
 c119 := by kernel_rfl
 c138 := by kernel_rfl
theorem et : Tryz.prog.globalNamed "errors.errorType" = some 0 := by kernel_rfl
theorem rt : (Tryz.prog.cutTypes.find? (·.1 == "internal/reflectlite.rtype")).map (·.2) = some 168 := by kernel_rfl
theorem oneRow : ((List.range Tryz.prog.types.size).filter fun t => Tryz.prog.rowNamed t [101, 114, 114, 111, 114]) = [70] := by kernel_rfl
theorem filt : (laidN.filter fun x => x.2.handleName?.isNone) = laidP := by kernel_rfl
theorem filt2 : (laidN.filter fun x => x.2.handleName?.isSome) = [("errors.errorType", Rows.laid_errors_errorType)] := by kernel_rfl
theorem globs {W : World} (hL : laidMetH Tryz.prog laidN W) (hs : W.ShapedOpen Tryz.prog) : ∃ mx, GlobOk W ρ0 noReg 0 (NG mx) := by
 have hL' : laidMet Tryz.prog laidP W ∧ handlesMet Tryz.prog [("errors.errorType", Rows.laid_errors_errorType)] W := by
  unfold laidMetH at hL
  rw [filt2, filt] at hL
  exact hL
 have h3 : VarReads Tryz.prog W "unicode/utf8.first" firstData := first_data ▸ laidMet.reads hL'.1 (.tail _ (.head _))
 have h4 : VarReads Tryz.prog W "unicode/utf8.acceptRanges" acceptData := accept_data ▸ laidMet.reads hL'.1 (.head _)
 obtain ⟨mx, hmx⟩ := cell_of_shapedOpen_int (P := Tryz.prog) (w := W) (g := 3) (t := 3) (zero := #[.int .i64 0]) (k := .i64) hs (of_decide_eq_true (by kernel_rfl)) (by kernel_rfl) (by kernel_rfl) (by kernel_rfl) (by kernel_rfl) (by kernel_rfl)
 obtain ⟨name, u, ty, e1, e2, e3, e4, e5⟩ := hL'.2 _ (List.mem_singleton.2 rfl)
 have en : name = [101, 114, 114, 111, 114] := (Option.some.inj e1).symm
 subst en
 obtain rfl := Option.some.inj (rt.symm.trans e2)
 have hm : ty ∈ (List.range Tryz.prog.types.size).filter fun t => Tryz.prog.rowNamed t [101, 114, 114, 111, 114] := List.mem_filter.2 ⟨List.mem_range.2 e3, e4⟩
 rw [oneRow] at hm
 obtain rfl := List.mem_singleton.1 hm
 have hh : typeHandle Tryz.prog 70 = .pointer (some ⟨4, 70, none⟩) := by kernel_rfl
 rw [hh] at e5
 have he : W.cell? ⟨0, 0, none⟩ = some (.iface 168 (.agg #[.pointer (some ⟨4, 70, none⟩)])) := by simpa using World.var?_cell et e5 0
 exact ⟨mx, globN he (utf8Tabs_of_readsT (U8Types.of196 Tryz.lays196) u8x h3 h4) hmx⟩
noncomputable def w1 (os : Os) : World :=
 let w0 := World.holding Tryz.prog os ⟨#[], #[], []⟩
 { w0 with heap := w0.heap.modify 0 fun
   | .cells _ t frozen => .cells #[.iface 168 (.agg #[.pointer (some ⟨4, 70, none⟩)])] t frozen
   | o => o }
noncomputable def LW (os : Os) : World := (w1 os).layVars Tryz.prog laidP
theorem LW_os (os : Os) : (LW os).os = os := World.layVars_os _ _ _
theorem laidLW (os : Os) (args : Array Value) : laidMet Tryz.prog laidP ((LW os).forCall (fun _ _ => 0) ⟨#[], args, []⟩).memory := by
 have e1 : (laidP.filter fun x => (laidP.map (·.1)).contains x.1) = laidP := List.filter_eq_self.2 fun x hx => List.contains_iff_mem.2 (List.mem_map.2 ⟨x, hx, rfl⟩)
 have e2 : (laidP.filter fun x => !(laidP.map (·.1)).contains x.1) = [] := List.filter_eq_nil_iff.2 fun x hx => by rw [List.contains_iff_mem.2 (List.mem_map.2 ⟨x, hx, rfl⟩)]; simp
 have h : laidMet Tryz.prog laidP (LW os) := laidMet_layVars (w0 := w1 os) (laidP.map (·.1)) [] (by rw [e1]; rfl) (by rw [e1]; kernel_rfl) (by rw [e1]; kernel_rfl) (by rw [e2]; exact LaidIn.none)
 exact h.of_heap (by simp [World.memory, World.forCall, Input.heap])
theorem handLW (os : Os) (args : Array Value) : (laidN.filter fun x => x.2.handleName?.isSome).all (handleAtB Tryz.prog ((LW os).forCall (fun _ _ => 0) ⟨#[], args, []⟩).memory) = true := by kernel_rfl
theorem metLW (os : Os) (args : Array Value) : laidMetH Tryz.prog laidN ((LW os).forCall (fun _ _ => 0) ⟨#[], args, []⟩).memory := laidMetH_of_parts (by rw [filt]; exact laidLW os args) (handLW os args)
end Go.Ai.Rab
end
section
/- PlainUp, plainly. -/
set_option linter.unusedVariables false
set_option linter.unusedSimpArgs false
set_option maxRecDepth 10000
open Go.Ai.Enc (enc is)
namespace Go.Ai.Rab
theorem law_Up_ok {f : FsR} (hs : smallL f.v.1) (d : Int) (s : Str) : law_Up f d s = some true := by
 obtain ⟨b, hb, _⟩ := small_some hs
 have e0 : law_Up f d s = _ := bds hb
 cases b with
 | false => exact e0.trans ((if_pos rfl).trans ((bds heads_ok).trans rfl))
 | true =>
  have e0 := e0.trans ((if_neg (by decide)).trans (bds (Lookup_eq hs d s)))
  by_cases hc : (lookS f d s).2 = 0
  ·have e0 := e0.trans (if_neg (by simp [hc]))
   obtain ⟨hok, i, p1, p2, p3, p4, p5, p6, p7, p8, k, q1, q2, q3⟩ := look_ok hc
   have f2 : fndI f.v.1 (lookS f d s).1 = (k : Int) := by unfold fndI; rw [q1]
   have e0 := e0.trans (bds (Find_eq (by have := hs.1; omega) _))
   rw [f2] at e0
   have e0 := e0.trans ((if_neg (by simp)).trans ((bds (Parent_eq hs _)).trans (bds (nthIn q2))))
   have hpar : parS f (lookS f d s).1 = if (inAt f.v.1 k).v.2.1 = 2 then d else 0 := by
    unfold parS
    rw [dirS_file hok q1]
    by_cases hk : (inAt f.v.1 k).v.2.1 = 2
    ·rw [if_pos hk, if_pos hk]
     have hd := hok.dir (inAt_mem q2) hk
     rw [q3] at hd
     have hm : d ∈ upsL f.v.1 (lookS f d s).1 := upsL_mem.2 ⟨_, inAt_mem p2, p3.symm, by
      rw [p6, List.getD_eq_getElem?_getD, List.getElem?_eq_getElem (by omega), Option.getD_some]
      exact List.getElem_mem _⟩
     cases hu : upsL f.v.1 (lookS f d s).1 with
     | nil => rw [hu] at hm; cases hm
     | cons a t =>
      rw [hu] at hd hm
      have : t = [] := List.eq_nil_of_length_eq_zero (by have := hd.1; simp only [List.length_cons] at this; omega)
      subst this
      simp only [List.mem_singleton] at hm
      rw [hm]; rfl
    ·rw [if_neg hk, if_neg hk]
   have hd0 : d ≠ 0 := by have := hok.num (inAt_mem p2); omega
   rw [hpar] at e0
   refine e0.trans ?_
   by_cases hk : (inAt f.v.1 k).v.2.1 = 2
   ·rw [if_pos hk]
    have e1 : ((inAt f.v.1 k).v.2.1 == 2) = true := by simp [hk]
    have e2 : (d != 0) = true := by simpa using hd0
    have e3 : (d == 0) = false := by simpa using hd0
    have e4 : (d == d) = true := by simp
    rw [e1, e2, e3, e4]
    show (Option.bind (some true) fun b3 => _) = _
    rw [bd]
    exact (bds (x := true) ((if_pos rfl).trans ((bds heads_ok).trans rfl))).trans rfl
   ·rw [if_neg hk]
    have e1 : ((inAt f.v.1 k).v.2.1 == 2) = false := by simpa using hk
    rw [e1]
    show (Option.bind (some true) fun b3 => _) = _
    rw [bd]
    exact (bds (x := true) ((if_pos rfl).trans ((bds heads_ok).trans rfl))).trans rfl
  ·have e0 := e0.trans (if_pos (by simpa using hc))
   rw [look_code hc] at e0
   exact e0.trans ((bds (x := true) ((if_pos rfl).trans ((bds heads_ok).trans rfl))).trans rfl)
end Go.Ai.Rab
end
