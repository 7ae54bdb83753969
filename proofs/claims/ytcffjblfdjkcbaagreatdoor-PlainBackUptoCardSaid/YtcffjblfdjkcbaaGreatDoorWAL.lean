/- My own texts DevPer2, DevPs2, one behind the other. -/
import Derived.Test.YtcffjblfdjkcbaaGreatDoorWAK
import Derived.Test.YtcffjblfdjkcbaaGreatDoorWAI
import Derived.Test.YtcffjblfdjkcbaaGreatDoorWAH
import Derived.Test.YtcffjblfdjkcbaaGreatDoorWAJ
section
/- plain.errno. -/
set_option maxRecDepth 100000
namespace Go.Proofs.Er
open Go.Proofs Go.RowKit Go.Extern.Stop Go.Stop Go.Extern
set_option maxHeartbeats 4000000 in
theorem errno_nil (w : World) : Calls Tryz.prog 40 #[.nilIface] w fun e w' => e = .returned (.int .i64 0) ∧ w' = w.alloc (.cells #[.pointer none] 111) := by
 go_enter Tryz.func40, Tryz.ntmps40
 go_wp2_with (go_at_call 68; refine (as_nil _ _).mono ?_; rintro e w' ⟨rfl, rfl⟩)
 go_ret
 exact ⟨rfl, rfl⟩
set_option maxHeartbeats 4000000 in
theorem errno_hit (a : Addr) (c : Int) (w : World) (hg : w.cell? ⟨0, 0, none⟩ = some (.iface 168 (.agg #[.pointer (some ⟨4, 70, none⟩)]))) (ha : w.cell? a = some (.int .i64 c)) : Calls Tryz.prog 40 #[.iface 111 (.pointer (some a))] w fun e w' => e = .returned (.int .i64 c) ∧ RowKit.Below w.heap.size w w' := by
 have hlt : 0 < w.heap.size := by
  rcases Nat.eq_zero_or_pos w.heap.size with h0 | h
  ·simp [World.cell?, h0] at hg
  ·exact h
 have hgA : (w.alloc (.cells #[.pointer none] 111)).cell? ⟨0, 0, none⟩ = some (.iface 168 (.agg #[.pointer (some ⟨4, 70, none⟩)])) := by
  rw [World.cell?_alloc_lt _ _ ⟨0, 0, none⟩ hlt]; exact hg
 have htA : (w.alloc (.cells #[.pointer none] 111)).cell? ⟨w.heap.size, 0, none⟩ = some (.pointer none) := by simp
 have hfA : (w.alloc (.cells #[.pointer none] 111)).frozen? ⟨w.heap.size, 0, none⟩ = false := by simp
 have hal : a.block < w.heap.size := by
  rcases Nat.lt_or_ge a.block w.heap.size with h | h
  ·exact h
  ·simp [World.cell?, Array.getElem?_eq_none h] at ha
 have hcl : ∀ o1 o2 o3 o4 o5 : Obj, (((((w.alloc o1).alloc o2).alloc o3).alloc o4).alloc o5).cell? a = some (.int .i64 c) := fun o1 o2 o3 o4 o5 => by
  rw [World.cell?_alloc_lt _ _ a (by simp; omega), World.cell?_alloc_lt _ _ a (by simp; omega), World.cell?_alloc_lt _ _ a (by simp; omega), World.cell?_alloc_lt _ _ a (by simp; omega), World.cell?_alloc_lt _ _ a hal]; exact ha
 go_enter Tryz.func40, Tryz.ntmps40
 go_wp2_with (go_at_call 68; refine (as_hit a _ (.pointer none) _ hgA htA hfA).mono ?_; rintro e w' ⟨rfl, rfl⟩)
 go_ret
 refine ⟨rfl, rfl, rfl, rfl, by simp; omega, fun k hk => ?_⟩
 have h : ∀ (w : World) (o : Obj), k < w.heap.size → (w.alloc o).heap[k]? = w.heap[k]? := fun w o hk => by
  show (w.heap.push o)[k]? = _
  rw [Array.getElem?_push_lt hk, Array.getElem?_eq_getElem hk]
 rw [h _ _ (by simp; omega), h _ _ (by simp; omega), h _ _ (by simp; omega), h _ _ (by simp; omega), h _ _ hk]
end Go.Proofs.Er
namespace Go.Ai.Rab
open Go.Proofs
open Go.Ai.Enc (enc is)
def plain_errno (e : Err 111) : Option Int := some (e.c.getD 0)
theorem plain_errno_pc (mx : Int) : PureC Tryz.prog 40 (FnG (NG mx) (fun a : (Err 111) × Unit => plain_errno a.1)) := by
 refine ⟨⟨_, Tryz.func40, rfl⟩, fun G args r hr w U vs hU hG hrel => ?_⟩
 obtain ⟨rfl, ⟨⟨ec⟩, _⟩, r', rfl, h1, rfl⟩ := FnG_some hr
 unfold plain_errno at h1
 injection h1 with h1
 subst h1
 have hrel : RelL w ρ0 U 0 [Err.av 111 ec] vs := hrel
 simp only [RelL] at hrel
 obtain ⟨v, us, rfl, hv, rfl⟩ := hrel
 cases ec with
 | none =>
  simp only [Err.av, Rel] at hv
  subst hv
  refine (Er.errno_nil w).mono ?_
  rintro e w' ⟨rfl, rfl⟩
  refine ⟨_, rfl, rfl, rfl, rfl, rfl, by simp, fun k hk => ?_⟩
  show (w.heap.push _)[k]? = _
  rw [Array.getElem?_push_lt hk, Array.getElem?_eq_getElem hk]
 | some c =>
  simp only [Err.av, Rel] at hv
  obtain ⟨u, rfl, _, _, a, rfl, cs, hcs, hrow⟩ := hv
  have hcs' : cs = [.int .i64 c] := by
   simp only [RelC] at hcs
   obtain ⟨q, qs, rfl, _, hq, rfl⟩ := hcs
   simp only [Rel, RelL] at hq
   obtain ⟨ws, rfl, x, xs, rfl, rfl, rfl⟩ := hq
   rfl
  subst hcs'
  have hc := (hrow 0 _ rfl).1
  have ha0 : a.add (0 * esz 1 + 0) = a := by cases a; rfl
  have ha1 : a.add 0 = a := by cases a; rfl
  rw [ha1] at hc
  rw [ha0]
  obtain ⟨_, gs, g1, g2⟩ := hG 0 _ rfl
  have hg : w.cell? ⟨0, 0, none⟩ = some (.iface 168 (.agg #[.pointer (some ⟨4, 70, none⟩)])) := by
   simp only [RelL, Rel] at g1
   obtain ⟨v0, us0, rfl, ⟨u, rfl, ws, rfl, z, zs, rfl, rfl, rfl⟩, rfl⟩ := g1
   exact (g2 0 _ rfl).1
  refine (Er.errno_hit a c w hg hc).mono ?_
  rintro e w' ⟨rfl, hb⟩
  exact ⟨_, rfl, rfl, hb⟩
end Go.Ai.Rab
end
section
/- All that is known of Go's library at the plain seat. -/
open Go.Ai.Enc (enc is)
namespace Go.Ai.Rab
open Go.Proofs
noncomputable def pv00 (mx : Int) : Prims := pct.addG 87 (FnG (NG mx) (fun a : Str × Unit => utf8_ValidString a.1))
theorem pv00_ok (mx : Int) : PrimsOk Tryz.prog (pv00 mx) := primsOk_addG pct_ok (utf8_ValidString_pc mx)
noncomputable def pv0 (mx : Int) : Prims := (pv00 mx).addG 40 (FnG (NG mx) (fun a : (Err 111) × Unit => plain_errno a.1))
theorem pv0_ok (mx : Int) : PrimsOk Tryz.prog (pv0 mx) := primsOk_addG (pv00_ok mx) (plain_errno_pc mx)
end Go.Ai.Rab
end
