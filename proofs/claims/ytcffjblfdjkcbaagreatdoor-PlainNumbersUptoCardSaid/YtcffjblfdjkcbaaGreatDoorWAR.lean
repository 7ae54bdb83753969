/- My own texts DevPp7, DevRr0, DevPp8, DevPpN, one behind the other. -/
import Derived.Test.YtcffjblfdjkcbaaGreatDoorWAQ
import Derived.KernelRfl
import Derived.Test.YtcffjblfdjkcbaaGreatDoorCards
import Derived.Test.YtcffjblfdjkcbaaGreatDoorTie
import Derived.Test.YtcffjblfdjkcbaaGreatDoorWAD
import Derived.Test.YtcffjblfdjkcbaaGreatDoorWAG
import Derived.Lib.LaidU8T
import Derived.LaidHandle
import Derived.WalkKit
import Derived.ProofKit
import Derived.OpenShut
import Derived.Deep.DeepHandedRow
import Derived.Lay
import Derived.MakeChecks
import Derived.ChangeArms
import Derived.Shelf.Vars
import Derived.ChangeSlices
section
/- Plain, plainly: what comes at any rate; who is above whom. -/
set_option linter.unusedVariables false
set_option linter.unusedSimpArgs false
set_option maxRecDepth 10000
open Go.Ai.Enc (enc is)
namespace Go.Ai.Rab
/-! ### Small -/
theorem small_some {f : FsR} (hs : smallL f.v.1) : ∃ b, law_small f = some b ∧ (b = true → f.v.1.length ≤ 60) := by
 unfold law_small
 by_cases h : f.v.1.length ≤ 60
 ·rw [if_neg (by simp; omega)]
  obtain ⟨r, h1, h2⟩ := loop_inv (body := law_small_l1 f) (fun a => 0 ≤ a.1 ∧ a.1 ≤ 2060000 ∧ 0 ≤ a.2 ∧ a.2 ≤ f.v.1.length) (fun _ => True) (fun a => (f.v.1.length - a.2).toNat) (fun a hI => by
   obtain ⟨n, i⟩ := a
   obtain ⟨g1, g2, g3, g4⟩ := hI
   simp only at g1 g2 g3 g4
   have e0 : law_small_l1 f (n, i) = _ := bds (x := decide (i < (f.v.1.length : Int)) && decide (n ≤ 50000)) (by
    cases decide (i < (f.v.1.length : Int)) <;> rfl)
   cases hb : decide (i < (f.v.1.length : Int)) && decide (n ≤ 50000) with
   | false =>
    rw [hb] at e0
    exact .inr ⟨n, e0.trans (if_neg (by decide)), trivial⟩
   | true =>
    rw [hb] at e0
    simp only [Bool.and_eq_true, decide_eq_true_eq] at hb
    have e0 := e0.trans (if_pos rfl)
    obtain ⟨k, rfl⟩ : ∃ k : Nat, i = k := ⟨i.toNat, by omega⟩
    have hk : k < f.v.1.length := by omega
    have e0 := e0.trans (bds (nthIn hk))
    have hd := (hs.2 _ (inAt_mem hk)).1
    rw [lim (by omega), i64w (by omega)] at e0
    refine .inl ⟨_, e0, ⟨?_, ?_, ?_, ?_⟩, ?_⟩
    ·simp only; omega
    ·simp only; omega
    ·simp only; omega
    ·simp only; omega
    ·simp only; omega) _ (0, 0) (Nat.le_refl _) ⟨by simp, by simp, by simp, by simp⟩
  exact ⟨_, (bds h1).trans rfl, fun _ => h⟩
 ·rw [if_pos (decide_eq_true (by omega))]
  exact ⟨false, rfl, fun e => by cases e⟩
/-! ### Same -/
theorem eqS_refl (a : List UInt8) : (!eqS a a) = false := by rw [(eqS_iff a a).2 rfl]; rfl
theorem eqS_reflS (a : Str) : (!eqS a a) = false := eqS_refl a
theorem attrs_same {a : List AttrR} (h : a.length ≤ 2000000) : ref_attrs a a = some true := by
 unfold ref_attrs
 rw [if_neg (by simp)]
 have h1 := loop_all (body := ref_attrs_l1 a a) a.length (fun _ => true) false (fun i hi => by
  refine (if_pos (decide_eq_true (show (i : Int) < (a.length : Int) by omega))).trans ?_
  refine (bds (nth_get hi)).trans ((bds (nth_get hi)).trans ?_)
  rw [eqS_reflS]
  refine (bds (x := false) ?_).trans ?_
  ·rw [if_neg (by decide)]
   refine (bds (nth_get hi)).trans ((bds (nth_get hi)).trans ?_)
   congr 1; exact eqS_refl _
  ·rw [lim (by omega)]; rfl) (if_neg (by simp)) 0 (Nat.zero_le _)
 have : (List.range' 0 (a.length - 0)).all (fun _ => true) = true := by simp
 rw [this] at h1
 exact (bds h1).trans rfl
theorem inode_same {x : InodeR} (h : smallI x) : ref_Inode x x = some true := by
 obtain ⟨h1, h2, h3, h4⟩ := h
 obtain ⟨⟨num, k, m, n, d, t, ns, is, at_, u⟩⟩ := x
 simp only at h1 h2 h3 h4
 have b1 : ∀ c : Int, (c != c) = false := fun c => by simp
 unfold ref_Inode
 simp only [b1, if_neg Bool.false_ne_true, bd, eqS_refl, eqS_reflS, attrs_same h4, Bool.false_eq_true, if_false, Option.bind_some, Bool.not_true]
 have g1 := loop_all (body := ref_Inode_l1 (Rec.mk (num, k, m, n, d, t, ns, is, at_, u)) (Rec.mk (num, k, m, n, d, t, ns, is, at_, u))) ns.length (fun _ => true) false (fun i hi => by
  refine (if_pos (decide_eq_true (show (i : Int) < (ns.length : Int) by omega))).trans ?_
  refine (bds (nthN hi)).trans ((bds (nthN hi)).trans ?_)
  rw [eqS_reflS, lim (by omega)]; rfl) (if_neg (by simp)) 0 (Nat.zero_le _)
 have g2 := loop_all (body := ref_Inode_l2 (Rec.mk (num, k, m, n, d, t, ns, is, at_, u)) (Rec.mk (num, k, m, n, d, t, ns, is, at_, u))) is.length (fun _ => true) false (fun i hi => by
  refine (if_pos (decide_eq_true (show (i : Int) < (is.length : Int) by omega))).trans ?_
  refine (bds (nthD 0 hi)).trans ((bds (nthD 0 hi)).trans ?_)
  rw [b1, lim (by omega)]; rfl) (if_neg (by simp)) 0 (Nat.zero_le _)
 have e1 : (List.range' 0 (ns.length - 0)).all (fun _ => true) = true := by simp
 have e2 : (List.range' 0 (is.length - 0)).all (fun _ => true) = true := by simp
 rw [e1] at g1; rw [e2] at g2
 refine (bds g1).trans ?_
 exact (bds g2).trans rfl
theorem Same_refl {f : FsR} (hs : smallL f.v.1) : ref_Same f f = some true := by
 have b1 : ∀ c : Int, (c != c) = false := fun c => by simp
 unfold ref_Same
 simp only [b1, Bool.false_eq_true, if_false, Option.bind_some]
 have g1 := loop_all (body := ref_Same_l1 f f) f.v.1.length (fun _ => true) false (fun i hi => by
  refine (if_pos (decide_eq_true (show (i : Int) < (f.v.1.length : Int) by omega))).trans ?_
  refine (bds (nthIn hi)).trans ((bds (nthIn hi)).trans ((bds (inode_same (hs.2 _ (inAt_mem hi)))).trans ?_))
  have := hs.1
  rw [lim (by omega)]; rfl) (if_neg (by simp)) 0 (Nat.zero_le _)
 have e1 : (List.range' 0 (f.v.1.length - 0)).all (fun _ => true) = true := by simp
 rw [e1] at g1
 exact (bds g1).trans rfl
/-! ### What must come at any rate -/
theorem small_chk {f : FsR} (h : chkL f.v.1 f.v.2.1 = true) : smallL f.v.1 := (chkL_iff.1 h).small
def F0 : FsR := Rec.mk ([Rec.mk (1, 2, 0, 1, [], str [], [], [], [], ())], 2, ())
def F1 : FsR := Rec.mk ([Rec.mk (1, 2, 0, 1, [], str [], [], [], [], ()), Rec.mk (2, 1, 420, 0, [], str [], [], [], [], ())], 2, ())
def F2 : FsR := Rec.mk ([Rec.mk (1, 2, 0, 1, [], str [], [str [97]], [2], [], ()), Rec.mk (2, 1, 420, 1, [], str [], [], [], [], ())], 2, ())
def F3 : FsR := Rec.mk ([Rec.mk (1, 2, 0, 1, [], str [], [str [97], str [98]], [2, 2], [], ()), Rec.mk (2, 1, 420, 2, [], str [], [], [], [], ())], 2, ())
def F4 : FsR := Rec.mk ([Rec.mk (1, 2, 0, 1, [], str [], [str [98]], [2], [], ()), Rec.mk (2, 1, 420, 1, [], str [], [], [], [], ())], 2, ())
theorem c0 : chkL F0.v.1 F0.v.2.1 = true := by kernel_rfl
theorem c1 : chkL F1.v.1 F1.v.2.1 = true := by kernel_rfl
theorem c2 : chkL F2.v.1 F2.v.2.1 = true := by kernel_rfl
theorem c3 : chkL F3.v.1 F3.v.2.1 = true := by kernel_rfl
theorem c4 : chkL F4.v.1 F4.v.2.1 = true := by kernel_rfl
theorem m1 : makeS F0 1 420 (str []) = (F1, 2, 0) := by kernel_rfl
theorem m2 : entS F1 1 (str [97]) 2 = (F2, 0) := by kernel_rfl
theorem m3 : entS F2 1 (str [98]) 2 = (F3, 0) := by kernel_rfl
theorem m4 : leaS F3 1 (str [97]) = (F4, 2, 0) := by kernel_rfl
theorem m5 : lookS F4 1 (str [98]) = (2, 0) := by kernel_rfl
theorem m6 : lookS F4 1 (str [97]) = (0, 201) := by kernel_rfl
theorem m7 : (droS F4 2).2 = 215 := by kernel_rfl
theorem m8 : (droS (Rec.mk (([] : List InodeR), (0 : Int), ())) 1).2 = 2 := by kernel_rfl
theorem heads_ok : law_heads = some true := by
 have e0 : law_heads = _ := bds (x := F0) rfl
 have e0 := e0.trans (bds ((Make_eq (small_chk c0) _ _ _).trans (congrArg some m1)))
 have e0 := e0.trans (bds ((enter_eq (small_chk c1) _ _ _).trans (congrArg some m2)))
 have e0 := e0.trans (bds ((enter_eq (small_chk c2) _ _ _).trans (congrArg some m3)))
 have e0 := e0.trans (bds ((Leave_eq (small_chk c3) _ _).trans (congrArg some m4)))
 have e0 := e0.trans (bds ((Lookup_eq (small_chk c4) _ _).trans (congrArg some m5)))
 have e0 := e0.trans (bds ((Lookup_eq (small_chk c4) _ _).trans (congrArg some m6)))
 have e0 := e0.trans (bds (Drop_eq (small_chk c4) _))
 have e0 := e0.trans (bds (Drop_eq (f := Rec.mk (([] : List InodeR), (0 : Int), ())) ⟨Nat.zero_le _, fun x hx => by cases hx⟩ _))
 rw [show plain_Check F4 = some true from (Check_eqL (small_chk c4)).trans (congrArg some c4)] at e0
 show law_heads = _
 refine e0.trans ?_
 show ((if ((0 : Int) == 0) = true then some ((2 : Int) == 2) else some false).bind _) = _
 simp only [m7, m8]
 rfl
/-! ### Who is above whom -/
theorem upsX_mem {x : InodeR} {l : List Int} {k d : Int} : d ∈ upsX x l k ↔ d = x.v.1 ∧ k ∈ l := by
 unfold upsX
 simp only [List.mem_map, List.mem_filter, beq_iff_eq]
 constructor
 ·rintro ⟨a, ⟨h1, rfl⟩, rfl⟩; exact ⟨rfl, h1⟩
 ·rintro ⟨rfl, h⟩; exact ⟨k, ⟨h, rfl⟩, rfl⟩
theorem upsL_mem {l : List InodeR} {k d : Int} : d ∈ upsL l k ↔ ∃ x ∈ l, d = x.v.1 ∧ k ∈ x.v.2.2.2.2.2.2.2.1 := by
 unfold upsL
 simp only [List.mem_flatMap, upsX_mem]
theorem Ok.num {l : List InodeR} {nx : Int} (h : Ok l nx) {x : InodeR} (hx : x ∈ l) : 1 ≤ x.v.1 ∧ x.v.1 ≤ 1024 := by
 have := alone_small (h.al x hx); omega
theorem Ok.dir {l : List InodeR} {nx : Int} (h : Ok l nx) {x : InodeR} (hx : x ∈ l) (hk : x.v.2.1 = 2) : (upsL l x.v.1).length ≤ 1 ∧ ¬ (0 < (upsL l x.v.1).length ∧ x.v.1 = 1) ∧ endsF l (l.length + 1) x.v.1 = true := by
 have := h.cn x hx
 unfold cndX at this
 rw [if_neg (by simp [hk])] at this
 simp only [Bool.and_eq_true, Bool.not_eq_true', Bool.and_eq_false_iff, decide_eq_true_eq, decide_eq_false_iff_not] at this
 exact ⟨this.1, fun h => by rcases this.2.1 with h1 | h1; exact h1 h.1; exact h1 h.2, this.2.2⟩
theorem Ok.file {l : List InodeR} {nx : Int} (h : Ok l nx) {x : InodeR} (hx : x ∈ l) (hk : x.v.2.1 ≠ 2) : ((upsL l x.v.1).length : Int) = x.v.2.2.2.1 := by
 have := h.cn x hx
 unfold cndX at this
 rw [if_pos (by simpa using hk)] at this
 exact of_decide_eq_true this
end Go.Ai.Rab
end
section
/- Rows of the plain file system: what the arguments read aS; what the listed variables give. -/
set_option linter.unusedVariables false
set_option linter.unusedSimpArgs false
open Go.Ai.Flds (fe fi fk)
namespace Go.Ai.Rab
open Go.Proofs Go.Lib Go.Proofs.YtcffjblfdjkcbaaGreatDoor
set_option maxRecDepth 100000
/-! ### What arguments read aS -/
def RdP (T : Type) [Enc T] (bk : T → Nat) (t : TypeId) : Prop := ∀ {H : Type} (en : TypeId × Value → H) (W : World) (fuel : Nat) (cs : List Value) (x : DataW H × List MemPlace),
 DataW.trod en Tryz.prog W 0 (fun _ => true) true fuel t cs = some x → ∃ (a : T) (v : Value), cs = v.cells.toList ∧ Rel W ρ0 noReg 0 (Enc.enc a) v ∧ bk a ≤ Rows.uptoBulk x.1 ∧ (Enc.k T = 0 → cs = [v])
def RdF (A : Type) [Flds A] (bk : A → Nat) (fl : List Field) (o : Nat) : Prop := ∀ {H : Type} (en : TypeId × Value → H) (W : World) (n : Nat) (cs : List Value) (xs : List (DataW H × List MemPlace)), xs.length = fl.length →
 (∀ (i : Nat) (f : Field), fl[i]? = some f → DataW.trod en Tryz.prog W 0 (fun _ => true) true n f.type ((cs.drop f.offset).take (Tryz.prog.cellsOf f.type)) = xs[i]?) → cs.length = o + fl.length →
 ∃ a : A, RelL W ρ0 noReg 0 (fe a) (cs.drop o) ∧ bk a ≤ Rows.uptoBulkAll (xs.map (·.1))
def one {T : Type} (_ : T) : Nat := 1
def bkS (s : Str) : Nat := List.length s + 1
def bkL {T : Type} (bk : T → Nat) (l : List T) : Nat := (l.map bk).sum + 1
def bkP {A B : Type} (b1 : A → Nat) (b2 : B → Nat) (a : A × B) : Nat := b1 a.1 + b2 a.2
def bkR {A : Type} (b : A → Nat) (r : Rec A) : Nat := b r.v + 1
theorem rd_int {t : TypeId} (hu : Tryz.prog.underlying t = some (.int .i64)) : RdP Int one t := fun en W fuel cs x h => by
 obtain ⟨n, rfl, rfl, hw⟩ := DataW.trod_int hu h
 exact ⟨n, .int .i64 n, rfl, rel_int, Nat.le_refl _, fun _ => rfl⟩
theorem rd_u8 {t : TypeId} (hu : Tryz.prog.underlying t = some (.int .u8)) : RdP UInt8 one t := fun en W fuel cs x h => by
 obtain ⟨n, rfl, rfl, hw⟩ := DataW.trod_int hu h
 have hw := Go.bounds_u8 hw
 refine ⟨UInt8.ofInt n, .int .u8 n, rfl, ?_, Nat.le_refl _, fun _ => rfl⟩
 have e : ((UInt8.ofInt n).toNat : Int) = n := by
  have : (UInt8.ofInt n).toNat = n.toNat := by
   obtain ⟨m, rfl⟩ : ∃ m : Nat, n = m := ⟨n.toNat, by omega⟩
   simp [UInt8.ofInt]
   omega
  omega
 show Rel _ _ _ _ (.int .u8 ((UInt8.ofInt n).toNat : Int)) _
 rw [e]
 exact rel_int
theorem rd_str {t : TypeId} (hu : Tryz.prog.underlying t = some .string) : RdP Str bkS t := fun en W fuel cs x h => by
 obtain ⟨s, rfl, rfl, hw⟩ := DataW.trod_string hu h
 exact ⟨s.data.toList, .string s, rfl, rel_str, Nat.le_refl _, fun _ => rfl⟩
theorem add_add (a : Addr) (x y : Nat) : (a.add x).add y = a.add (x + y) := by
 cases a
 by_cases hx : x = 0
 ·subst hx; simp [Addr.add]
 ·by_cases hy : y = 0
  ·subst hy; simp [Addr.add]
  ·simp [Addr.add, hx, hy, Nat.add_assoc]
theorem rd_list {T : Type} [Enc T] {bk : T → Nat} {t e : TypeId} (hu : Tryz.prog.underlying t = some (.slice e)) (hc : Tryz.prog.cellsOf e = esz (Enc.k T)) (he : RdP T bk e) : RdP (List T) (bkL bk) t := fun {H} en W fuel cs x h => by
 rcases DataW.trod_slice hu h with ⟨rfl, rfl⟩ | ⟨a, len, cap, elems, rest, n, _, rfl, rfl, hb, hl, hm, hlen, hel, _, _⟩
 ·refine ⟨[], .slice none 0 0, rfl, ?_, Nat.le_refl _, fun _ => rfl⟩
  show Rel _ _ _ _ (.emp false) _
  simp only [Rel]
  exact ⟨none, 0, rfl, fun _ => rfl, fun _ => rfl⟩
 ·have key : ∀ (d i : Nat), i + d = len → ∃ (l : List T) (us : List Value), l.length = d ∧ (l.map bk).sum ≤ Rows.uptoBulkAll ((elems.drop i).map (·.1)) ∧ us.length = d * esz (Enc.k T) ∧ RelC W ρ0 noReg 0 (Enc.k T) (l.map Enc.enc) us ∧ ∀ j, j < d * esz (Enc.k T) → W.cell? (a.add (i * esz (Enc.k T) + j)) = us[j]? := by
   intro d
   induction d with
   | zero => intro i hi; exact ⟨[], [], rfl, Nat.zero_le _, by simp, by simp [RelC], fun j hj => by simp at hj⟩
   | succ d ih =>
    intro i hi
    obtain ⟨l, us, l1, l2, l3, l4, l5⟩ := ih (i + 1) (by omega)
    have hi' : i < elems.length := by omega
    have h1 := hel i (by omega)
    rw [List.getElem?_eq_getElem hi', hc, Option.bind_eq_some_iff] at h1
    obtain ⟨cs1, g1, g2⟩ := h1
    obtain ⟨_, g3, g4⟩ := World.cells?_some g1
    obtain ⟨b, v, k1, k2, k3, k4⟩ := he en W n cs1 _ g2
    refine ⟨b :: l, cs1 ++ us, by simp [l1], ?_, by simp [l3, g3, Nat.succ_mul, Nat.add_comm], ?_, fun j hj => ?_⟩
    ·rw [List.drop_eq_getElem_cons hi']
     simp only [List.map_cons, List.sum_cons, Rows.uptoBulkAll]
     omega
    ·simp only [List.map_cons, RelC]
     exact ⟨v, us, by rw [k1], Enc.el (Enc.self b), k2, l4⟩
    ·by_cases hj2 : j < esz (Enc.k T)
     ·rw [List.getElem?_append_left (by omega), ← g4 j hj2, add_add]
     ·rw [List.getElem?_append_right (by omega), g3, ← l5 (j - esz (Enc.k T)) (by rw [Nat.succ_mul] at hj; omega)]
      congr 2
      rw [Nat.succ_mul]; omega
  obtain ⟨l, us, l1, l2, l3, l4, l5⟩ := key len 0 (by omega)
  refine ⟨l, .slice (some a) len cap, rfl, ?_, ?_, fun _ => rfl⟩
  ·cases l with
   | nil =>
    show Rel _ _ _ _ (.emp false) _
    simp only [Rel]
    exact ⟨some a, cap, by rw [← l1]; rfl, fun e => (by cases e), fun e => (by cases e)⟩
   | cons b l =>
    show Rel _ _ _ _ (.vec (Enc.k T) ((b :: l).map Enc.enc) .unk) _
    simp only [Rel]
    refine ⟨a, cap, us, by rw [List.length_map, l1], by rw [List.length_map, l1]; exact hl, l4, fun j u hj => ⟨?_, fun h => h.elim⟩, by simp [CapOk]⟩
    have hj' := (List.getElem?_eq_some_iff.1 hj).1
    have := l5 j (by omega)
    rw [Nat.zero_mul, Nat.zero_add] at this
    rw [this, hj]
  ·rw [List.drop_zero] at l2
   simp only [bkL, Rows.uptoBulk]
   omega
theorem rdf_nil {o : Nat} : RdF Unit (fun _ => 0) [] o := fun en W n cs xs h1 h2 h3 => by
 refine ⟨(), ?_, Nat.zero_le _⟩
 rw [List.drop_of_length_le (by simp at h3; omega)]
 exact relL_nil
theorem rdf_cons {T A : Type} [Enc T] [Enc0 T] [Flds A] {b1 : T → Nat} {b2 : A → Nat} {f : Field} {fl : List Field} {o : Nat} (ho : f.offset = o) (hc : Tryz.prog.cellsOf f.type = 1) (h : RdP T b1 f.type) (k : RdF A b2 fl (o + 1)) : RdF (T × A) (bkP b1 b2) (f :: fl) o := fun en W n cs xs h1 h2 h3 => by
 obtain ⟨x, xs, rfl⟩ : ∃ x ys, xs = x :: ys := by
  cases xs with
  | nil => simp at h1
  | cons x ys => exact ⟨x, ys, rfl⟩
 have e0 := h2 0 f rfl
 simp only [List.length_cons] at h3 h1
 have hlt : o < cs.length := by omega
 rw [ho, hc] at e0
 have e1 : (cs.drop o).take 1 = [cs[o]] := by rw [List.drop_eq_getElem_cons hlt]; rfl
 rw [e1] at e0
 obtain ⟨a, v, k1, k2, k3, k4⟩ := h en W n _ _ e0
 have k4 := k4 Enc0.k0
 injection k4 with k4 _
 obtain ⟨b, q1, q2⟩ := k en W n cs xs (by omega) (fun i g hg => h2 (i + 1) g hg) (by omega)
 refine ⟨(a, b), ?_, ?_⟩
 ·rw [List.drop_eq_getElem_cons hlt, k4]
  exact relL_cons k2 q1
 ·simp only [bkP, List.map_cons, Rows.uptoBulkAll]; omega
theorem rd_rec {T A : Type} [Enc T] [Enc0 T] [Flds A] {bk : T × A → Nat} {t : TypeId} {fs : Array Field} (hu : Tryz.prog.underlying t = some (.struct fs)) (hc : Tryz.prog.cellsOf t = fs.size) (h : RdF (T × A) bk fs.toList 0) : RdP (Rec (T × A)) (bkR bk) t := fun en W fuel cs x hx => by
 obtain ⟨xs, n, _, rfl, h1, h2, h3⟩ := DataW.trod_struct hu hx
 obtain ⟨a, q1, q2⟩ := h en W n cs xs (by simpa using h2) (fun i f hf => h3 i f (by simpa using hf)) (by rw [h1, hc]; simp)
 refine ⟨Rec.mk a, .agg cs.toArray, by simp [Value.cells], ?_, ?_, fun e => by cases e⟩
 ·show Rel _ _ _ _ (.agg (fe a)) _
  simp only [Rel]
  exact ⟨cs, rfl, q1⟩
 ·simp only [bkR, Rows.uptoBulk]; omega
abbrev bkA : AttrR → Nat := bkR (bkP bkS (bkP (bkL one) (fun _ => 0)))
abbrev bkI : InodeR → Nat := bkR (bkP one (bkP one (bkP one (bkP one (bkP (bkL one) (bkP bkS (bkP (bkL bkS) (bkP (bkL one) (bkP (bkL bkA) (fun _ => 0))))))))))
abbrev bkF : FsR → Nat := bkR (bkP (bkL bkI) (bkP one (fun _ => 0)))
theorem rdA : RdP AttrR bkA 89 := rd_rec Tryz.underlying89 (by kernel_rfl) (rdf_cons rfl (by kernel_rfl) (rd_str Tryz.underlying9) (rdf_cons rfl (by kernel_rfl) (rd_list Tryz.underlying33 (by kernel_rfl) (rd_u8 Tryz.underlying5)) rdf_nil))
theorem rdI : RdP InodeR bkI 38 := rd_rec Tryz.underlying38 (by kernel_rfl) (rdf_cons rfl (by kernel_rfl) (rd_int Tryz.underlying3) (rdf_cons rfl (by kernel_rfl) (rd_int Tryz.underlying25) (rdf_cons rfl (by kernel_rfl) (rd_int Tryz.underlying3) (rdf_cons rfl (by kernel_rfl) (rd_int Tryz.underlying3)
 (rdf_cons rfl (by kernel_rfl) (rd_list Tryz.underlying33 (by kernel_rfl) (rd_u8 Tryz.underlying5)) (rdf_cons rfl (by kernel_rfl) (rd_str Tryz.underlying9) (rdf_cons rfl (by kernel_rfl) (rd_list Tryz.underlying34 (by kernel_rfl) (rd_str Tryz.underlying9)) (rdf_cons rfl (by kernel_rfl) (rd_list Tryz.underlying35 (by kernel_rfl) (rd_int Tryz.underlying3))
 (rdf_cons rfl (by kernel_rfl) (rd_list Tryz.underlying36 (by kernel_rfl) rdA) rdf_nil)))))))))
theorem rdFs : RdP FsR bkF 24 := rd_rec Tryz.underlying24 (by kernel_rfl) (rdf_cons rfl (by kernel_rfl) (rd_list Tryz.underlying22 (by kernel_rfl) rdI) (rdf_cons rfl (by kernel_rfl) (rd_int Tryz.underlying3) rdf_nil))
theorem bkL_len {T : Type} {bk : T → Nat} (h : ∀ a, 1 ≤ bk a) : ∀ l : List T, l.length ≤ bkL bk l
 | [] => Nat.zero_le _
 | a :: l => by
  have h1 := bkL_len h l
  have h2 := h a
  simp only [bkL, List.map_cons, List.sum_cons, List.length_cons] at h1 ⊢
  omega
theorem bkL_mem {T : Type} {bk : T → Nat} : ∀ {l : List T} {a : T}, a ∈ l → bk a ≤ bkL bk l
 | b :: l, a, h => by
  simp only [bkL, List.map_cons, List.sum_cons]
  rcases List.mem_cons.1 h with rfl | h
  ·omega
  ·have := bkL_mem (bk := bk) h
   simp only [bkL] at this
   omega
theorem smallI_bk {x : InodeR} (h : bkI x ≤ 1048576) : smallI x := by
 have h1 := bkL_len (bk := one) (fun a => Nat.le_refl _) x.v.2.2.2.2.1
 have h2 := bkL_len (bk := bkS) (fun a => Nat.succ_le_succ (Nat.zero_le _)) x.v.2.2.2.2.2.2.1
 have h3 := bkL_len (bk := one) (fun a => Nat.le_refl _) x.v.2.2.2.2.2.2.2.1
 have h4 := bkL_len (bk := bkA) (fun a => Nat.succ_le_succ (Nat.zero_le _)) x.v.2.2.2.2.2.2.2.2.1
 simp only [bkI, bkR, bkP] at h
 exact ⟨by omega, by omega, by omega, by omega⟩
theorem smallF_bk {f : FsR} (h : bkF f ≤ 1048576) : smallL f.v.1 := by
 have h1 := bkL_len (bk := bkI) (fun a => Nat.succ_le_succ (Nat.zero_le _)) f.v.1
 simp only [bkF, bkR, bkP] at h
 exact ⟨by omega, fun x hx => smallI_bk (by have := bkL_mem (bk := bkI) hx; omega)⟩
theorem open_rec {T A : Type} [Enc T] [Enc0 T] [Flds A] {bk : Rec (T × A) → Nat} {t : TypeId} (hr : RdP (Rec (T × A)) bk t) {H : Type} {en : TypeId × Value → H} {W : World} {v : Value} {d : DataW H} {p : List MemPlace} (h2 : ∀ r : Rec (T × A), (fe r.v).length ≠ 1)
  (h : DataW.Trod en Tryz.prog W 0 (fun _ => true) true t v d p) : ∃ r : Rec (T × A), Rel W ρ0 noReg 0 (Enc.enc r) v ∧ bk r ≤ Rows.uptoBulk d := by
 obtain ⟨fuel, hf⟩ := h
 obtain ⟨r, v', k1, k2, k3, _⟩ := hr en W fuel _ _ hf
 refine ⟨r, ?_, k3⟩
 have k2' : Rel W ρ0 noReg 0 (.agg (fe r.v)) v' := k2
 simp only [Rel] at k2'
 obtain ⟨vs, rfl, hl⟩ := k2'
 have hlen : vs.length ≠ 1 := by
  have : ∀ (xs : List AV) (us : List Value), RelL W ρ0 noReg 0 xs us → us.length = xs.length := by
   intro xs
   induction xs with
   | nil => intro us hu; simp only [RelL] at hu; rw [hu]; rfl
   | cons x xs ih =>
    intro us hu
    simp only [RelL] at hu
    obtain ⟨u, us', rfl, _, hu⟩ := hu
    simp [ih us' hu]
  rw [this _ _ hl]
  exact h2 r
 have k1 : v.cells.toList = vs := by rw [k1]; simp [Value.cells]
 have : v = .agg vs.toArray := by
  cases v with
  | agg cs =>
   have k1 : cs.toList = vs := k1
   rw [← k1]
  | _ => (exfalso; apply hlen; rw [← k1]; rfl)
 rw [this]; exact k2
/-! ### What the listed variables give -/
def laidN : List (String × DataW Unit) := [("unicode/utf8.acceptRanges", Rows.laid_unicode_utf8_acceptRanges), ("errors.errorType", Rows.laid_errors_errorType), ("unicode/utf8.first", Rows.laid_unicode_utf8_first)]
def laidP : List (String × DataW Unit) := [("unicode/utf8.acceptRanges", Rows.laid_unicode_utf8_acceptRanges), ("unicode/utf8.first", Rows.laid_unicode_utf8_first)]
theorem first_data : (Rows.laid_unicode_utf8_first : DataW Unit) = firstData := by kernel_rfl
theorem accept_data : (Rows.laid_unicode_utf8_acceptRanges : DataW Unit) = acceptData := by kernel_rfl
theorem relL_row {w : World} {ρ : Pl} {U : Reg} {c : Nat} {k : IntKind} : ∀ l : List Int, RelL w ρ U c (l.map (.int k)) (l.map (.int k))
 | [] => relL_nil
 | n :: l => relL_cons rel_int (relL_row l)
theorem globRow {W : World} {g : Nat} {k : IntKind} {cs : List AV} {l : List Int} (hc : cs = l.map (.int k)) (hp : pureL cs = true) (h : ∀ j, j < l.length → W.cell? ⟨g, j, none⟩ = some (.int k (l.getD j 0))) :
  pureL cs = true ∧ ∃ vs : List Value, RelL W ρ0 noReg 0 cs vs ∧ ∀ j u, vs[j]? = some u → W.cell? ⟨g, j, none⟩ = some u ∧ ¬ noReg g j := by
 subst hc
 refine ⟨hp, l.map (.int k), relL_row l, fun j u hj => ⟨?_, fun h => h.elim⟩⟩
 rw [List.getElem?_map, Option.map_eq_some_iff] at hj
 obtain ⟨n, hn, rfl⟩ := hj
 rw [h j (List.getElem?_eq_some_iff.1 hn).1, List.getD_eq_getElem?_getD, hn]
 rfl
def l0 : List Int := (List.range 256).map fun c => (firstT c : Int)
def l1 : List Int := (List.range 32).map fun c => if c % 2 = 0 then (accLo (c / 2) : Int) else (accHi (c / 2) : Int)
theorem t0_eq : tab0 = l0.map (.int .u8) := by kernel_rfl
theorem t1_eq : tab1 = l1.map (.int .u8) := by kernel_rfl
theorem globN {W : World} {mx : Int} (he : W.cell? ⟨0, 0, none⟩ = some (.iface 168 (.agg #[.pointer (some ⟨4, 70, none⟩)]))) (h0 : Utf8Tabs 1 2 W) (h2 : W.cell? ⟨3, 0, none⟩ = some (.int .i64 mx)) : GlobOk W ρ0 noReg 0 (NG mx) := by
 intro g cs hg
 unfold NG at hg
 split at hg
 ·rename_i e; subst e
  obtain rfl := Option.some.inj hg
  refine ⟨by kernel_rfl, [.iface 168 (.agg #[.pointer (some ⟨4, 70, none⟩)])], ?_, fun j u hj => ?_⟩
  ·refine relL_cons ?_ relL_nil
   simp only [Rel]
   refine ⟨_, rfl, [.pointer (some ⟨4, 70, none⟩)], rfl, relL_cons ?_ relL_nil⟩
   simp only [Rel]
  ·cases j with
   | zero => simp at hj; subst hj; exact ⟨he, fun h => h.elim⟩
   | succ j => simp at hj
 ·split at hg
  ·rename_i e; subst e
   obtain rfl := Option.some.inj hg
   refine globRow t0_eq (by kernel_rfl) fun j hj => ?_
   have hj : j < 256 := by simpa [l0] using hj
   rw [h0.1 j hj]
   simp [l0, hj]
  ·split at hg
   ·rename_i e; subst e
    obtain rfl := Option.some.inj hg
    refine globRow t1_eq (by kernel_rfl) fun j hj => ?_
    have hj : j < 32 := by simpa [l1] using hj
    obtain ⟨q1, q2⟩ := h0.2 (j / 2) (by omega)
    by_cases hm : j % 2 = 0
    ·rw [show 2 * (j / 2) = j by omega] at q1
     rw [q1]
     simp [l1, hj, hm]
    ·rw [show 2 * (j / 2) + 1 = j by omega] at q2
     rw [q2]
     simp [l1, hj, hm]
   ·split at hg
    ·rename_i e; subst e
     obtain rfl := Option.some.inj hg
     refine globRow (l := [mx]) (k := .i64) rfl rfl fun j hj => ?_
     have hj : j = 0 := by simpa using hj
     subst hj
     exact h2
    ·cases hg
theorem u8x : U8Extra Tryz.prog Tryz.lays196_ren where
 n3 := by kernel_rfl
 n4 := by kernel_rfl
 y3 := by kernel_rfl
 y4 := by kernel_rfl
 c5 := by kernel_rfl
 c119 := by kernel_rfl
 c138 := by kernel_rfl
theorem et : Tryz.prog.globalNamed "errors.errorType" = some 0 := by kernel_rfl
theorem rt : (Tryz.prog.cutTypes.find? (·.1 == "internal/reflectlite.rtype")).map (·.2) = some 168 := by kernel_rfl
theorem oneRow : ((List.range Tryz.prog.types.size).filter fun t => Tryz.prog.rowNamed t [101, 114, 114, 111, 114]) = [70] := by kernel_rfl
theorem filt : (laidN.filter fun x => x.2.handleName?.isNone) = laidP := by kernel_rfl
theorem filt2 : (laidN.filter fun x => x.2.handleName?.isSome) = [("errors.errorType", Rows.laid_errors_errorType)] := by kernel_rfl
theorem globs {W : World} (hL : laidMetH Tryz.prog laidN W) (hs : W.ShapedOpen Tryz.prog) : ∃ mx, GlobOk W ρ0 noReg 0 (NG mx) := by
 have hL' : laidMet Tryz.prog laidP W ∧ handlesMet Tryz.prog [("errors.errorType", Rows.laid_errors_errorType)] W := by
  unfold laidMetH at hL
  rw [filt2, filt] at hL
  exact hL
 have h3 : VarReads Tryz.prog W "unicode/utf8.first" firstData := first_data ▸ laidMet.reads hL'.1 (.tail _ (.head _))
 have h4 : VarReads Tryz.prog W "unicode/utf8.acceptRanges" acceptData := accept_data ▸ laidMet.reads hL'.1 (.head _)
 obtain ⟨mx, hmx⟩ := cell_of_shapedOpen_int (P := Tryz.prog) (w := W) (g := 3) (t := 3) (zero := #[.int .i64 0]) (k := .i64) hs (of_decide_eq_true (by kernel_rfl)) (by kernel_rfl) (by kernel_rfl) (by kernel_rfl) (by kernel_rfl) (by kernel_rfl)
 obtain ⟨name, u, ty, e1, e2, e3, e4, e5⟩ := hL'.2 _ (List.mem_singleton.2 rfl)
 have en : name = [101, 114, 114, 111, 114] := (Option.some.inj e1).symm
 subst en
 obtain rfl := Option.some.inj (rt.symm.trans e2)
 have hm : ty ∈ (List.range Tryz.prog.types.size).filter fun t => Tryz.prog.rowNamed t [101, 114, 114, 111, 114] := List.mem_filter.2 ⟨List.mem_range.2 e3, e4⟩
 rw [oneRow] at hm
 obtain rfl := List.mem_singleton.1 hm
 have hh : typeHandle Tryz.prog 70 = .pointer (some ⟨4, 70, none⟩) := by kernel_rfl
 rw [hh] at e5
 have he : W.cell? ⟨0, 0, none⟩ = some (.iface 168 (.agg #[.pointer (some ⟨4, 70, none⟩)])) := by simpa using World.var?_cell et e5 0
 exact ⟨mx, globN he (utf8Tabs_of_readsT (U8Types.of196 Tryz.lays196) u8x h3 h4) hmx⟩
noncomputable def w1 (os : Os) : World :=
 let w0 := World.holding Tryz.prog os ⟨#[], #[], []⟩
 { w0 with heap := w0.heap.modify 0 fun
   | .cells _ t frozen => .cells #[.iface 168 (.agg #[.pointer (some ⟨4, 70, none⟩)])] t frozen
   | o => o }
noncomputable def LW (os : Os) : World := (w1 os).layVars Tryz.prog laidP
theorem LW_os (os : Os) : (LW os).os = os := World.layVars_os _ _ _
theorem laidLW (os : Os) (args : Array Value) : laidMet Tryz.prog laidP ((LW os).forCall (fun _ _ => 0) ⟨#[], args, []⟩).memory := by
 have e1 : (laidP.filter fun x => (laidP.map (·.1)).contains x.1) = laidP := List.filter_eq_self.2 fun x hx => List.contains_iff_mem.2 (List.mem_map.2 ⟨x, hx, rfl⟩)
 have e2 : (laidP.filter fun x => !(laidP.map (·.1)).contains x.1) = [] := List.filter_eq_nil_iff.2 fun x hx => by rw [List.contains_iff_mem.2 (List.mem_map.2 ⟨x, hx, rfl⟩)]; simp
 have h : laidMet Tryz.prog laidP (LW os) := laidMet_layVars (w0 := w1 os) (laidP.map (·.1)) [] (by rw [e1]; rfl) (by rw [e1]; kernel_rfl) (by rw [e1]; kernel_rfl) (by rw [e2]; exact LaidIn.none)
 exact h.of_heap (by simp [World.memory, World.forCall, Input.heap])
theorem handLW (os : Os) (args : Array Value) : (laidN.filter fun x => x.2.handleName?.isSome).all (handleAtB Tryz.prog ((LW os).forCall (fun _ _ => 0) ⟨#[], args, []⟩).memory) = true := by kernel_rfl
theorem metLW (os : Os) (args : Array Value) : laidMetH Tryz.prog laidN ((LW os).forCall (fun _ _ => 0) ⟨#[], args, []⟩).memory := laidMetH_of_parts (by rw [filt]; exact laidLW os args) (handLW os args)
end Go.Ai.Rab
end
section
/- Plain, plainly: rows of inodes that rise; what is new. -/
set_option linter.unusedVariables false
set_option linter.unusedSimpArgs false
set_option maxRecDepth 10000
open Go.Ai.Enc (enc is)
namespace Go.Ai.Rab
/-! ### Rows that rise -/
theorem sorted_pw {l : List InodeR} : sorted l ↔ List.Pairwise (fun a b : InodeR => a.v.1 < b.v.1) l := by
 rw [List.pairwise_iff_getElem]
 exact ⟨fun h i j hi hj hij => h i j hj hij, fun h i j hj hij => h i j (by omega) hj hij⟩
theorem sorted_uniq {l : List InodeR} (hs : sorted l) {x y : InodeR} (hx : x ∈ l) (hy : y ∈ l) (e : x.v.1 = y.v.1) : x = y := by
 obtain ⟨i, hi, rfl⟩ := List.getElem_of_mem hx
 obtain ⟨j, hj, rfl⟩ := List.getElem_of_mem hy
 rcases Nat.lt_trichotomy i j with h | h | h
 ·have := hs i j hj h; omega
 ·subst h; rfl
 ·have := hs j i hi h; omega
theorem sorted_ext : ∀ {a b : List InodeR}, sorted a → sorted b → (∀ z, z ∈ a ↔ z ∈ b) → a = b
 | [], b, _, _, h => by
  cases b with
  | nil => rfl
  | cons y b => exact absurd ((h y).2 List.mem_cons_self) (by simp)
 | x :: a, [], _, _, h => absurd ((h x).1 List.mem_cons_self) (by simp)
 | x :: a, y :: b, ha, hb, h => by
  have ha := sorted_pw.1 ha
  have hb := sorted_pw.1 hb
  rw [List.pairwise_cons] at ha hb
  have e : x = y := by
   rcases List.mem_cons.1 ((h x).1 List.mem_cons_self) with h1 | h1
   ·exact h1
   ·rcases List.mem_cons.1 ((h y).2 List.mem_cons_self) with h2 | h2
    ·exact h2.symm
    ·have := hb.1 x h1; have := ha.1 y h2; omega
  subst e
  rw [sorted_ext (sorted_pw.2 ha.2) (sorted_pw.2 hb.2) fun z => ?_]
  constructor
  ·intro hz
   rcases List.mem_cons.1 ((h z).1 (List.mem_cons_of_mem _ hz)) with h1 | h1
   ·subst h1; have := ha.1 z hz; omega
   ·exact h1
  ·intro hz
   rcases List.mem_cons.1 ((h z).2 (List.mem_cons_of_mem _ hz)) with h1 | h1
   ·subst h1; have := hb.1 z hz; omega
   ·exact h1
theorem posI_of {l : List InodeR} (hs : sorted l) {x : InodeR} (hx : x ∈ l) : ∃ i, posI l x.v.1 = some i ∧ i < l.length ∧ inAt l i = x := by
 cases hp : posI l x.v.1 with
 | none =>
  obtain ⟨k, hk, rfl⟩ := List.getElem_of_mem hx
  exact absurd (by rw [inAt_get hk]) (posI_none hp k hk)
 | some i =>
  obtain ⟨h1, h2⟩ := posI_some hp
  exact ⟨i, rfl, h1, sorted_uniq hs (inAt_mem h1) hx h2⟩
theorem posI_not {l : List InodeR} {n : Int} (h : ∀ x ∈ l, x.v.1 ≠ n) : posI l n = none := by
 cases hp : posI l n with
 | none => rfl
 | some i => obtain ⟨h1, h2⟩ := posI_some hp; exact absurd h2 (h _ (inAt_mem h1))
theorem with_split {l : List InodeR} (hs : sorted l) (x : InodeR) : ∃ A B : List InodeR, withL l x = A ++ x :: B ∧ (l = A ++ B ∧ (∀ z ∈ l, z.v.1 ≠ x.v.1) ∨ ∃ y, l = A ++ y :: B ∧ y.v.1 = x.v.1) := by
 have hp : ptI l x.v.1 ≤ l.length := pt_le _ l
 refine ⟨l.take (ptI l x.v.1), l.drop (if hasI l x.v.1 = true then ptI l x.v.1 + 1 else ptI l x.v.1), rfl, ?_⟩
 cases hh : hasI l x.v.1 with
 | true =>
  unfold hasI at hh
  simp only [Bool.and_eq_true, decide_eq_true_eq] at hh
  refine .inr ⟨_, ?_, hh.2⟩
  rw [if_pos rfl, inAt_get hh.1, ← List.drop_eq_getElem_cons hh.1, List.take_append_drop]
 | false =>
  refine .inl ⟨by rw [if_neg Bool.false_ne_true, List.take_append_drop], fun z hz e => ?_⟩
  obtain ⟨i, hi, rfl⟩ := List.getElem_of_mem hz
  have h1 : i = ptI l x.v.1 := pt_uniq (by omega) (fun k hk hki => decide_eq_true (by have := hs k i hi hki; omega)) (fun _ => decide_eq_false (by omega))
  unfold hasI at hh
  rw [← h1, decide_eq_true hi, inAt_get hi, decide_eq_true e] at hh
  cases hh
theorem mem_with {l : List InodeR} (hs : sorted l) (x z : InodeR) : z ∈ withL l x ↔ z = x ∨ (z ∈ l ∧ z.v.1 ≠ x.v.1) := by
 obtain ⟨A, B, e, h | ⟨y, h, hy⟩⟩ := with_split hs x
 ·rw [e, h.1]
  simp only [List.mem_append, List.mem_cons]
  constructor
  ·rintro (h1 | h1 | h1)
   ·exact .inr ⟨.inl h1, h.2 z (by rw [h.1]; simp [h1])⟩
   ·exact .inl h1
   ·exact .inr ⟨.inr h1, h.2 z (by rw [h.1]; simp [h1])⟩
  ·rintro (h1 | ⟨h1 | h1, _⟩)
   ·exact .inr (.inl h1)
   ·exact .inl h1
   ·exact .inr (.inr h1)
 ·have hpw := sorted_pw.1 hs
  rw [h, List.pairwise_append, List.pairwise_cons] at hpw
  obtain ⟨_, ⟨p2, _⟩, p3⟩ := hpw
  rw [e, h]
  simp only [List.mem_append, List.mem_cons]
  constructor
  ·rintro (h1 | h1 | h1)
   ·exact .inr ⟨.inl h1, by have := p3 z h1 y List.mem_cons_self; omega⟩
   ·exact .inl h1
   ·exact .inr ⟨.inr (.inr h1), by have := p2 z h1; omega⟩
  ·rintro (h1 | ⟨h1 | h1 | h1, h2⟩)
   ·exact .inr (.inl h1)
   ·exact .inl h1
   ·exact absurd (by rw [h1, hy]) h2
   ·exact .inr (.inr h1)
theorem cut_sorted {l : List InodeR} (hs : sorted l) (i : Nat) : sorted (l.take i ++ l.drop (i + 1)) := by
 rw [sorted_pw] at hs ⊢
 refine hs.sublist ?_
 have h1 : (l.take i ++ l.drop (i + 1)).Sublist (l.take i ++ l.drop i) := by
  refine (List.Sublist.refl _).append ?_
  rw [← List.drop_drop]
  exact List.drop_sublist _ _
 rwa [List.take_append_drop] at h1
theorem mem_cut {l : List InodeR} (hs : sorted l) {i : Nat} (hi : i < l.length) (z : InodeR) : z ∈ l.take i ++ l.drop (i + 1) ↔ z ∈ l ∧ z.v.1 ≠ (inAt l i).v.1 := by
 have e : l = l.take i ++ l[i] :: l.drop (i + 1) := by rw [← List.drop_eq_getElem_cons hi, List.take_append_drop]
 have hpw := sorted_pw.1 hs
 rw [e, List.pairwise_append, List.pairwise_cons] at hpw
 obtain ⟨_, ⟨p2, _⟩, p3⟩ := hpw
 rw [inAt_get hi]
 constructor
 ·intro h
  rcases List.mem_append.1 h with h | h
  ·exact ⟨List.mem_of_mem_take h, by have := p3 z h _ List.mem_cons_self; omega⟩
  ·exact ⟨List.mem_of_mem_drop h, by have := p2 z h; omega⟩
 ·rintro ⟨h1, h2⟩
  rw [e] at h1
  rcases List.mem_append.1 h1 with h | h
  ·exact List.mem_append_left _ h
  ·rcases List.mem_cons.1 h with h | h
   ·exact absurd (by rw [h]) h2
   ·exact List.mem_append_right _ h
/-! ### Who is above whom, in rows that change -/
theorem upsL_app (a b : List InodeR) (k : Int) : upsL (a ++ b) k = upsL a k ++ upsL b k := by unfold upsL; rw [List.flatMap_append]
theorem upsL_cons (x : InodeR) (b : List InodeR) (k : Int) : upsL (x :: b) k = upsX x x.v.2.2.2.2.2.2.2.1 k ++ upsL b k := by unfold upsL; rw [List.flatMap_cons]
theorem endsF_congr {a b : List InodeR} (h : ∀ k, upsL a k = upsL b k) : ∀ (d : Nat) (n : Int), endsF a d n = endsF b d n
 | 0, _ => rfl
 | d + 1, n => by
  unfold endsF
  rw [h n]
  cases upsL b n with
  | nil => rfl
  | cons p q => exact endsF_congr h d p
theorem endsF_mono {l : List InodeR} : ∀ (d d' : Nat) (n : Int), d ≤ d' → endsF l d n = true → endsF l d' n = true
 | 0, _, _, _, h => by cases h
 | d + 1, 0, _, hd, _ => by omega
 | d + 1, d' + 1, n, hd, h => by
  unfold endsF at h ⊢
  cases hu : upsL l n with
  | nil => rfl
  | cons p q =>
   rw [hu] at h
   exact endsF_mono d d' p (by omega) h
theorem ok_of {l : List InodeR} {nx : Int} (len : l.length ≤ 512) (root : ∃ z ∈ l, z.v.1 = 1 ∧ z.v.2.1 = 2) (hn : 2 ≤ nx ∧ nx ≤ 513) (al : ∀ x ∈ l, aloneB x = true) (so : sorted l) (kn : ∀ k ∈ numsL l, ∃ x ∈ l, x.v.1 = k) (cn : ∀ x ∈ l, cndX l x = true) : Ok l nx := by
 obtain ⟨z, hz, z1, z2⟩ := root
 have hl : 0 < l.length := List.length_pos_of_mem hz
 have h0 : inAt l 0 = z := by
  obtain ⟨i, hi, e⟩ := List.getElem_of_mem hz
  rcases Nat.eq_zero_or_pos i with h | h
  ·subst h; rw [inAt_get hi, e]
  ·have h1 := so 0 i hi h
   have h2 := alone_small (al _ (List.getElem_mem hl))
   rw [e] at h1; omega
 exact ⟨hl, len, by rw [h0]; exact z1, by rw [h0]; exact z2, hn, al, so, kn, cn⟩
theorem Ok.root {l : List InodeR} {nx : Int} (h : Ok l nx) : ∃ z ∈ l, z.v.1 = 1 ∧ z.v.2.1 = 2 := ⟨_, inAt_mem h.len0, h.n0, h.k0⟩
theorem numsL_mem {l : List InodeR} {k : Int} : k ∈ numsL l ↔ ∃ x ∈ l, k ∈ x.v.2.2.2.2.2.2.2.1 := by unfold numsL; rw [List.mem_flatMap]
/-! ### What is new -/
theorem numF_in : ∀ (l : List InodeR) (k j : Int), k ≤ j → j < numF l k → ∃ x ∈ l, x.v.1 = j
 | [], k, j, h1, h2 => by simp [numF] at h2; omega
 | y :: l, k, j, h1, h2 => by
  unfold numF at h2
  rw [List.foldl_cons] at h2
  split at h2
  ·rename_i e
   by_cases hj : j = k
   ·exact ⟨y, List.mem_cons_self, by rw [hj]; exact e⟩
   ·obtain ⟨x, hx, hxe⟩ := numF_in l (k + 1) j (by omega) h2
    exact ⟨x, List.mem_cons_of_mem _ hx, hxe⟩
  ·obtain ⟨x, hx, hxe⟩ := numF_in l k j h1 h2
   exact ⟨x, List.mem_cons_of_mem _ hx, hxe⟩
theorem numF_above : ∀ (l : List InodeR) (k : Int), (∀ x ∈ l, k < x.v.1) → numF l k = k
 | [], _, _ => rfl
 | y :: l, k, h => by
  unfold numF
  rw [List.foldl_cons, if_neg (by have := h y List.mem_cons_self; omega)]
  exact numF_above l k fun x hx => h x (List.mem_cons_of_mem _ hx)
theorem numF_out : ∀ (l : List InodeR) (k : Int), sorted l → ∀ x ∈ l, x.v.1 ≠ numF l k
 | [], _, _, _, hx => by cases hx
 | y :: l, k, hs, x, hx => by
  have hpw := sorted_pw.1 hs
  rw [List.pairwise_cons] at hpw
  have hsl := sorted_pw.2 hpw.2
  have h1 := numF_le l k
  have h2 := numF_le l (k + 1)
  unfold numF
  rw [List.foldl_cons]
  by_cases e : y.v.1 = k
  ·rw [if_pos e]
   rcases List.mem_cons.1 hx with rfl | hx
   ·show x.v.1 ≠ numF l (k + 1); omega
   ·exact numF_out l (k + 1) hsl x hx
  ·rw [if_neg e]
   rcases List.mem_cons.1 hx with rfl | hx
   ·show x.v.1 ≠ numF l k
    by_cases hlt : x.v.1 < k
    ·omega
    ·rw [numF_above l k fun z hz => by have := hpw.1 z hz; omega]
     exact e
   ·exact numF_out l k hsl x hx
theorem Ok.make {l : List InodeR} {nx : Int} (h : Ok l nx) (h5 : l.length < 512) {x : InodeR} (hx : ∀ z ∈ l, z.v.1 ≠ x.v.1) (ha : aloneB x = true) (hi : x.v.2.2.2.2.2.2.2.1 = []) (hl : x.v.2.1 ≠ 2 → x.v.2.2.2.1 = 0) : Ok (withL l x) nx := by
 obtain ⟨A, B, e, hc⟩ := with_split h.so x
 have hAB : l = A ++ B := by
  rcases hc with hc | ⟨y, hy, hye⟩
  ·exact hc.1
  ·exact absurd hye (hx y (by rw [hy]; simp))
 have hu : ∀ k, upsL (withL l x) k = upsL l k := fun k => by
  rw [e, hAB, upsL_app, upsL_app, upsL_cons, hi]; rfl
 have hx0 : upsL l x.v.1 = [] := by
  rw [List.eq_nil_iff_forall_not_mem]
  intro d hd
  obtain ⟨z, hz, _, hk⟩ := upsL_mem.1 hd
  obtain ⟨w, hw, hwe⟩ := h.kn x.v.1 (numsL_mem.2 ⟨z, hz, hk⟩)
  exact hx w hw hwe
 have hlen : (withL l x).length = l.length + 1 := by rw [e, hAB]; simp; omega
 refine ok_of (by omega) ?_ h.nx (fun z hz => ?_) (withL_sorted h.so x) (fun k hk => ?_) fun z hz => ?_
 ·obtain ⟨z, hz, z1, z2⟩ := h.root
  exact ⟨z, (mem_with h.so x z).2 (.inr ⟨hz, hx z hz⟩), z1, z2⟩
 ·rcases (mem_with h.so x z).1 hz with rfl | hz
  ·exact ha
  ·exact h.al z hz.1
 ·obtain ⟨z, hz, hkz⟩ := numsL_mem.1 hk
  rcases (mem_with h.so x z).1 hz with rfl | hz
  ·rw [hi] at hkz; cases hkz
  ·obtain ⟨w, hw, hwe⟩ := h.kn k (numsL_mem.2 ⟨z, hz.1, hkz⟩)
   exact ⟨w, (mem_with h.so x w).2 (.inr ⟨hw, hx w hw⟩), hwe⟩
 ·rcases (mem_with h.so x z).1 hz with rfl | hz
  ·unfold cndX
   rw [hu, hx0]
   by_cases hk : z.v.2.1 = 2
   ·rw [if_neg (by simp [hk])]
    have : endsF (withL l z) ((withL l z).length + 1) z.v.1 = true := by
     unfold endsF
     rw [hu, hx0]
    rw [this]; rfl
   ·rw [if_pos (by simpa using hk), hl hk]; rfl
  ·have := h.cn z hz.1
   unfold cndX at this ⊢
   rw [hu]
   by_cases hk : z.v.2.1 = 2
   ·rw [if_neg (by simp [hk])] at this ⊢
    simp only [Bool.and_eq_true] at this ⊢
    refine ⟨this.1, this.2.1, ?_⟩
    rw [endsF_congr hu]
    exact endsF_mono _ _ _ (by omega) this.2.2
   ·rw [if_pos (by simpa using hk)] at this ⊢
    exact this
theorem make_code {f : FsR} {kind mode : Int} {t : Str} (h : (makeS f kind mode t).2.2 ≠ 0) : (makeS f kind mode t).1 = f := by
 unfold makeS at h ⊢
 split
 ·split
  ·rfl
  ·split
   ·rename_i h1 h2 h3
    rw [if_pos h1, if_neg h2, if_pos h3] at h
    exact absurd rfl h
   ·rfl
 ·rfl
theorem make_ok {f : FsR} {kind mode : Int} {t : Str} (h : (makeS f kind mode t).2.2 = 0) : Ok f.v.1 f.v.2.1 ∧ f.v.1.length < 512 ∧ aloneB (newI (numF f.v.1 f.v.2.1) kind mode t) = true ∧ makeS f kind mode t = (Rec.mk (withL f.v.1 (newI (numF f.v.1 f.v.2.1) kind mode t), f.v.2.1, ()), numF f.v.1 f.v.2.1, 0) := by
 unfold makeS at h ⊢
 split at h
 ·rename_i h1
  split at h
  ·cases h
  ·rename_i h2
   split at h
   ·rename_i h3
    have hok := chkL_iff.1 h1
    rw [if_pos h1, if_neg h2, if_pos h3]
    exact ⟨hok, by have := hok.len; omega, h3, rfl⟩
   ·cases h
 ·cases h
theorem Ok.new {f : FsR} {kind mode : Int} {t : Str} (h : (makeS f kind mode t).2.2 = 0) : Ok (withL f.v.1 (newI (numF f.v.1 f.v.2.1) kind mode t)) f.v.2.1 := by
 obtain ⟨hok, h5, ha, _⟩ := make_ok h
 refine hok.make h5 (fun z hz => numF_out f.v.1 f.v.2.1 hok.so z hz) ha rfl fun hk => ?_
 show (if kind = 2 then (1 : Int) else 0) = 0
 exact if_neg hk
end Go.Ai.Rab
end
section
/- PlainNumbers, plainly. -/
set_option linter.unusedVariables false
set_option linter.unusedSimpArgs false
set_option maxRecDepth 10000
open Go.Ai.Enc (enc is)
namespace Go.Ai.Rab
theorem law_Numbers_ok {f : FsR} (hs : smallL f.v.1) (kind : Int) : law_Numbers f kind = some true := by
 obtain ⟨b, hb, _⟩ := small_some hs
 have e0 : law_Numbers f kind = _ := bds hb
 cases b with
 | false => exact e0.trans ((if_pos rfl).trans ((bds heads_ok).trans rfl))
 | true =>
  have e0 := e0.trans ((if_neg (by decide)).trans (bds (Make_eq hs kind 420 (str []))))
  by_cases hc : (makeS f kind 420 (str [])).2.2 = 0
  ·have e0 := e0.trans (if_neg (by simp [hc]))
   obtain ⟨hok, h5, ha, he⟩ := make_ok hc
   have hg := Ok.new hc
   have hnot := fun z hz => numF_out f.v.1 f.v.2.1 hok.so z hz
   rw [he] at e0
   generalize hx : newI (numF f.v.1 f.v.2.1) kind 420 (str []) = x at *
   have hxn : x.v.1 = numF f.v.1 f.v.2.1 := by rw [← hx]; rfl
   have hle := numF_le f.v.1 f.v.2.1
   generalize hn : numF f.v.1 f.v.2.1 = n at *
   have hf1 : f.v.1.length < 9000000000000000000 := by have := hs.1; omega
   have hnx := hok.nx
   obtain ⟨r, g1, g2⟩ := loop_inv (body := law_Numbers_l1 ((Rec.mk (withL f.v.1 x, f.v.2.1, ()) : FsR), n, (0 : Int)) f) (fun k => f.v.2.1 ≤ k ∧ k ≤ n) (fun r => r = .inl ()) (fun k => (n - k).toNat) (fun k hk => by
    by_cases hkn : k < n
    ·refine .inl ⟨k + 1, ?_, by omega, by omega⟩
     refine (if_pos (decide_eq_true hkn)).trans ((bds (Find_eq hf1 k)).trans ?_)
     have : ¬ fndI f.v.1 k < 0 := fun hneg => by
      obtain ⟨y, hy, hye⟩ := numF_in f.v.1 f.v.2.1 k hk.1 (by rw [hn]; exact hkn)
      obtain ⟨i, hi, rfl⟩ := List.getElem_of_mem hy
      exact posI_none (fndI_neg.1 hneg) i hi (by rw [inAt_get hi]; exact hye)
     refine (if_neg (by simpa using this)).trans ?_
     rw [i64w (by omega)]
    ·exact .inr ⟨.inl (), if_neg (by simpa using hkn), rfl⟩) _ f.v.2.1 (Nat.le_refl _) ⟨Int.le_refl _, hle.1⟩
   subst g2
   have e0 := e0.trans (bds g1)
   have hxm : x ∈ withL f.v.1 x := (mem_with hok.so x x).2 (.inl rfl)
   obtain ⟨i, p1, p2, p3⟩ := posI_of hg.so hxm
   rw [hxn] at p1
   have e0 := e0.trans (bds (Find_eq (f := Rec.mk (withL f.v.1 x, f.v.2.1, ())) (by have := hg.len; show (withL f.v.1 x).length < _; omega) n))
   have f1 : fndI (withL f.v.1 x) n = (i : Int) := by unfold fndI; rw [p1]
   have f2 : fndI f.v.1 n = -1 := by unfold fndI; rw [posI_not hnot]
   have hlen : (withL f.v.1 x).length = f.v.1.length + 1 := by
    obtain ⟨A, B, e, hc⟩ := with_split hok.so x
    rcases hc with hc | ⟨y, hy, hye⟩
    ·rw [e, hc.1]; simp; omega
    ·exact absurd (by rw [hye, hxn]) (hnot y (by rw [hy]; simp))
   have e0 := e0.trans (bds (x := false) (by
    show (if decide (fndI (withL f.v.1 x) n < 0) = true then some true else some (decide (n < f.v.2.1))) = _
    rw [f1, if_neg (by simp), decide_eq_false (by omega)]))
   have e0 := e0.trans (bds (x := false) (by
    rw [if_neg (by decide)]
    refine (bds (Find_eq hf1 n)).trans ?_
    rw [f2]; rfl))
   have e0 := e0.trans (bds (x := false) (by
    rw [if_neg (by decide)]
    show some (((withL f.v.1 x).length : Int) != IntKind.i64.wrap ((f.v.1.length : Int) + 1)) = _
    rw [lim (by omega), hlen]; simp))
   have e0 := e0.trans (if_neg (by decide))
   rw [f1] at e0
   have e0 := e0.trans ((bds (nthIn p2)).trans (bds (Drop_eq (f := Rec.mk (withL f.v.1 x, f.v.2.1, ())) hg.small n)))
   have hdrop : droS (Rec.mk (withL f.v.1 x, f.v.2.1, ())) n = (f, 0) := by
    unfold droS
    show (if chkL (withL f.v.1 x) f.v.2.1 = true then match posI (withL f.v.1 x) n with
     | none => ((Rec.mk (withL f.v.1 x, f.v.2.1, ()) : FsR), (201 : Int))
     | some i => if n = 1 ∨ 0 < (inAt (withL f.v.1 x) i).v.2.2.2.2.2.2.1.length ∨ 0 < (upsL (withL f.v.1 x) n).length then (Rec.mk (withL f.v.1 x, f.v.2.1, ()), 215) else (Rec.mk ((withL f.v.1 x).take i ++ (withL f.v.1 x).drop (i + 1), f.v.2.1, ()), 0)
     else (Rec.mk (withL f.v.1 x, f.v.2.1, ()), 2)) = _
    rw [if_pos (chkL_iff.2 hg), p1]
    simp only
    have h1 : n ≠ 1 := by omega
    have h2 : (inAt (withL f.v.1 x) i).v.2.2.2.2.2.2.1.length = 0 := by rw [p3, ← hx]; rfl
    have h3 : (upsL (withL f.v.1 x) n).length = 0 := by
     rw [List.length_eq_zero_iff, List.eq_nil_iff_forall_not_mem]
     intro d hd
     obtain ⟨z, hz, _, hk⟩ := upsL_mem.1 hd
     rcases (mem_with hok.so x z).1 hz with rfl | hz
     ·rw [← hx] at hk; cases hk
     ·obtain ⟨w, hw, hwe⟩ := hok.kn n (numsL_mem.2 ⟨z, hz.1, hk⟩)
      exact hnot w hw hwe
    rw [if_neg (by omega)]
    have : (withL f.v.1 x).take i ++ (withL f.v.1 x).drop (i + 1) = f.v.1 := by
     refine sorted_ext (cut_sorted hg.so i) hok.so fun z => ?_
     rw [mem_cut hg.so p2, p3, mem_with hok.so]
     constructor
     ·rintro ⟨rfl | h, h2⟩
      ·exact absurd rfl h2
      ·exact h.1
     ·intro hz
      have : z.v.1 ≠ x.v.1 := by rw [hxn]; exact hnot z hz
      exact ⟨.inr ⟨hz, this⟩, this⟩
    rw [this]
   rw [hdrop, p3] at e0
   have q1 : (x.v.2.1 == kind) = true := by rw [← hx]; exact beq_self_eq_true _
   have q2 : (x.v.2.2.1 == 420) = true := by rw [← hx]; rfl
   have q3 : (IntKind.i64.wrap (IntKind.i64.wrap ((x.v.2.2.2.2.1.length : Int) + (x.v.2.2.2.2.2.2.1.length : Int)) + (x.v.2.2.2.2.2.2.2.2.1.length : Int)) == 0) = true := by rw [← hx]; rfl
   rw [q1, q2, q3] at e0
   refine e0.trans ?_
   show ((if true = true then ((ref_Same f f).bind fun r_9 => some r_9) else some false).bind fun b7 => ((if b7 = true then ((law_heads).bind fun r_10 => some r_10) else some false).bind fun b8 => some b8)) = _
   rw [Same_refl hs, heads_ok]; rfl
  ·have e0 := e0.trans (if_pos (by simpa using hc))
   rw [make_code hc] at e0
   have e0 := e0.trans (bds (Same_refl hs))
   exact e0.trans ((bds (x := true) ((if_pos rfl).trans ((bds heads_ok).trans rfl))).trans rfl)
end Go.Ai.Rab
end
