/- The relation between an abstract state and a world; new objects, stores. -/
import Derived.Test.YtdfkffmddgffkaaAi2
import Derived.Laws.CopyRow
set_option linter.unusedVariables false
set_option linter.unusedSimpArgs false
namespace Go.Ai

def Umap (ρ : Pl) (h : List (Nat × AO)) : Reg := fun b j => ∃ n o, hget h n = some o ∧ (ρ n).1 = b ∧ (match o with | .tok => (ρ n).2 ≤ j | _ => True)
def UX (ρ : Pl) (h : List (Nat × AO)) (X : Reg) : Reg := fun b j => Umap ρ h b j ∨ X b j
def thawed (C : Array Value) (fz : Nat × Nat) : Prop := ∀ j, j < C.size → ¬ (fz.1 ≤ j ∧ j < fz.2)
def ObjOk (w : World) (ρ : Pl) (U : Reg) (c : Nat) (o : AO) (p : Nat × Nat) : Prop :=
  match o with
  | .cells cs => ∃ C e fz, w.heap[p.1]? = some (.cells C e fz) ∧ thawed C fz ∧ RelL w ρ U c cs C.toList ∧ ∀ x ∈ cs, x.one = true
  | .tok => ∃ C e fz, w.heap[p.1]? = some (.cells C e fz) ∧ thawed C fz ∧ p.2 ≤ C.size
  | .map es => ∃ (ents : Array MapEntry) (clock : Nat), w.heap[p.1]? = some (.map ents clock) ∧ RelL w ρ U c (es.map (·.1)) (ents.toList.map (·.key)) ∧ RelL w ρ U c (es.map (·.2)) (ents.toList.map (·.val))
  | .siter l pos => w.heap[p.1]? = some (.stringIter ⟨l.toArray⟩ pos)

/-- What is known of package variables, which nobody turns. -/
def GlobOk (w : World) (ρ : Pl) (U : Reg) (c : Nat) (G : Glob) : Prop :=
  ∀ g cs, G g = some cs → pureL cs = true ∧ ∃ vs : List Value, RelL w ρ U c cs vs ∧ ∀ j u, vs[j]? = some u → w.cell? ⟨g, j, none⟩ = some u ∧ ¬ U g j
structure Sim (base : Nat) (ρ : Pl) (X : Reg) (s : St) (w : World) : Prop where
  lt : ∀ n o, hget s.h n = some o → n < s.c
  obj : ∀ n o, hget s.h n = some o → ObjOk w ρ (UX ρ s.h X) s.c o (ρ n)
  inj : ∀ n m o o', hget s.h n = some o → hget s.h m = some o' → n ≠ m → (ρ n).1 ≠ (ρ m).1
  base : ∀ n o, hget s.h n = some o → base ≤ (ρ n).1
  apart : ∀ n o, hget s.h n = some o → ∀ j, ¬ X (ρ n).1 j
  old : ∀ b j, X b j → b < w.heap.size
  glob : GlobOk w ρ (UX ρ s.h X) s.c s.g
theorem GlobOk.mono {w w' : World} {ρ ρ' : Pl} {U U' : Reg} {c c' : Nat} {G : Glob} (h : GlobOk w ρ U c G) (m : Mono w ρ U c w' ρ' U' c') : GlobOk w' ρ' U' c' G := fun g cs hg => by
  obtain ⟨h1, vs, h2, h3⟩ := h g cs hg
  refine ⟨h1, vs, RelL.mono m _ _ h2, fun j u hj => ?_⟩
  obtain ⟨k1, k2⟩ := h3 j u hj
  exact ⟨m.cell _ _ k1 k2, fun hu => k2 (m.reg _ _ (World.block_lt_of_cell? w _ k1) hu)⟩

theorem ObjOk.lt {w : World} {ρ : Pl} {U : Reg} {c : Nat} {o : AO} {p : Nat × Nat} (h : ObjOk w ρ U c o p) : p.1 < w.heap.size := by
  have key : ∀ x, w.heap[p.1]? = some x → p.1 < w.heap.size := fun x hx => (Array.getElem?_eq_some_iff.1 hx).1
  cases o with
  | cells cs => obtain ⟨C, e, fz, hb, _⟩ := h; exact key _ hb
  | tok => obtain ⟨C, e, fz, hb, _⟩ := h; exact key _ hb
  | map es => obtain ⟨a, b, hb, _⟩ := h; exact key _ hb
  | siter l pos => exact key _ h
theorem ObjOk.mono {w w' : World} {ρ ρ' : Pl} {U U' : Reg} {c c' : Nat} {o : AO} {p : Nat × Nat} (h : ObjOk w ρ U c o p) (m : Mono w ρ U c w' ρ' U' c') (hb : w'.heap[p.1]? = w.heap[p.1]?) : ObjOk w' ρ' U' c' o p := by
  cases o with
  | cells cs => obtain ⟨C, e, fz, h1, h2, h3, h4⟩ := h; exact ⟨C, e, fz, hb.trans h1, h2, RelL.mono m _ _ h3, h4⟩
  | tok => obtain ⟨C, e, fz, h1, h2⟩ := h; exact ⟨C, e, fz, hb.trans h1, h2⟩
  | map es => obtain ⟨a, b, h1, h2, h3⟩ := h; exact ⟨a, b, hb.trans h1, RelL.mono m _ _ h2, RelL.mono m _ _ h3⟩
  | siter l pos => exact hb.trans h

section
variable {base : Nat} {ρ ρ' : Pl} {X : Reg} {s s' : St} {w w' : World}
theorem Sim.blk_lt (h : Sim base ρ X s w) {n : Nat} {o : AO} (ho : hget s.h n = some o) : (ρ n).1 < w.heap.size := (h.obj n o ho).lt

theorem Mono.step (hX : ∀ b j, X b j → b < w.heap.size) (hfr : Fr (Umap ρ s.h) w w') (hρ : ∀ n, n < s.c → ρ' n = ρ n) (hc : s.c ≤ s'.c) (hU : ∀ b j, b < w.heap.size → Umap ρ' s'.h b j → Umap ρ s.h b j) :
    Mono w ρ (UX ρ s.h X) s.c w' ρ' (UX ρ' s'.h X) s'.c :=
  ⟨hc, hρ, fun a u hu hn => hfr.cell a u hu (fun hj => hn (.inl hj)), hfr.keep, fun b j hb hj => hj.imp (hU b j hb) id⟩

theorem Sim.step (h : Sim base ρ X s w) (hfr : Fr (Umap ρ s.h) w w') (hρ : ∀ n, n < s.c → ρ' n = ρ n) (hc : s.c ≤ s'.c)
    (hlt : ∀ n o, hget s'.h n = some o → n < s'.c)
    (hobj : ∀ n o, hget s'.h n = some o → (n < s.c ∧ hget s.h n = some o ∧ w'.heap[(ρ n).1]? = w.heap[(ρ n).1]?) ∨ ObjOk w' ρ' (UX ρ' s'.h X) s'.c o (ρ' n))
    (hU : ∀ b j, b < w.heap.size → Umap ρ' s'.h b j → Umap ρ s.h b j)
    (hinj : ∀ n m o o', hget s'.h n = some o → hget s'.h m = some o' → n ≠ m → (ρ' n).1 ≠ (ρ' m).1)
    (hbase : ∀ n o, hget s'.h n = some o → base ≤ (ρ' n).1) (hG : s'.g = s.g := by rfl) : Sim base ρ' X s' w' := by
  have m : Mono w ρ (UX ρ s.h X) s.c w' ρ' (UX ρ' s'.h X) s'.c := .step h.old hfr hρ hc hU
  refine ⟨hlt, fun n o ho => ?_, hinj, hbase, fun n o ho j hj => ?_, fun b j hj => Nat.lt_of_lt_of_le (h.old b j hj) hfr.size, by rw [hG]; exact h.glob.mono m⟩
  · rcases hobj n o ho with ⟨h1, h2, h3⟩ | h1
    · rw [hρ n h1]
      exact (h.obj n o h2).mono m h3
    · exact h1
  · have hlt' := h.old _ _ hj
    have hu : Umap ρ s.h (ρ' n).1 ((ρ' n).2) := hU _ _ hlt' ⟨n, o, ho, rfl, by cases o <;> simp⟩
    obtain ⟨k, o', hk, hkb, _⟩ := hu
    exact h.apart k o' hk j (by rw [hkb]; exact hj)

/-- What an operation leaves. -/
def Post (base : Nat) (ρ : Pl) (X : Reg) (s : St) (w : World) (v : AV) (s' : St) (v' : Value) (w' : World) : Prop :=
  ∃ ρ' : Pl, (∀ n, n < s.c → ρ' n = ρ n) ∧ s.c ≤ s'.c ∧ Sim base ρ' X s' w' ∧ Rel w' ρ' (UX ρ' s'.h X) s'.c v v' ∧ Fr (Umap ρ s.h) w w' ∧ (∀ b j, b < w.heap.size → Umap ρ' s'.h b j → Umap ρ s.h b j)

theorem Post.mono_of {v : AV} {v' : Value} (h : Sim base ρ X s w) (hp : Post base ρ X s w v s' v' w') : ∃ ρ', Sim base ρ' X s' w' ∧ Rel w' ρ' (UX ρ' s'.h X) s'.c v v' ∧ Mono w ρ (UX ρ s.h X) s.c w' ρ' (UX ρ' s'.h X) s'.c ∧ (∀ n, n < s.c → ρ' n = ρ n) ∧ Fr (Umap ρ s.h) w w' ∧ (∀ b j, b < w.heap.size → Umap ρ' s'.h b j → Umap ρ s.h b j) := by
  obtain ⟨ρ', h1, h2, h3, h4, h5, h6⟩ := hp
  exact ⟨ρ', h3, h4, .step h.old h5 h1 h2 h6, h1, h5, h6⟩
theorem Post.same {v : AV} {v' : Value} (h : Sim base ρ X s w) (hr : Rel w ρ (UX ρ s.h X) s.c v v') : Post base ρ X s w v s v' w :=
  ⟨ρ, fun _ _ => rfl, Nat.le_refl _, h, hr, Fr.refl _ _, fun _ _ _ hj => hj⟩

/-! ### The world grows, nothing turns -/
theorem Fr.grow {U : Reg} (w w' : World) (hos : w'.os = w.os) (ht : w'.tape = w.tape) (ho : w'.output = w.output) (hsz : w.heap.size ≤ w'.heap.size) (hb : ∀ b, b < w.heap.size → w'.heap[b]? = w.heap[b]?) : Fr U w w' :=
  ⟨hos, ht, ho, hsz, fun b h _ => hb b h, fun a u hu _ => by rw [World.cell?_of_block (w := w) (hb a.block (World.block_lt_of_cell? w a hu))]; exact hu,
   fun a ha => by
    obtain ⟨u, hu⟩ := Option.isSome_iff_exists.1 ha
    rw [World.cell?_of_block (w := w) (hb a.block (World.block_lt_of_cell? w a hu))]; exact ha⟩
theorem Fr.alloc {U : Reg} (w : World) (o : Obj) : Fr U w (w.alloc o) :=
  Fr.grow w _ rfl rfl rfl (by simp) (fun b hb => by
    show (w.heap.push o)[b]? = _
    rw [Array.getElem?_push, if_neg (by omega)])
theorem Fr.drew {U : Reg} (w : World) : Fr U w w.drew := Fr.grow w _ rfl rfl rfl (by simp) (fun b hb => rfl)
theorem Fr.below {U : Reg} {w w' : World} (h : RowKit.Below w.heap.size w w') : Fr U w w' := Fr.grow w w' h.os h.tape h.output h.size (fun b hb => h.block b hb)

/-- The world has grown: the same state stands for it. -/
theorem Sim.grow (h : Sim base ρ X s w) (hos : w'.os = w.os) (ht : w'.tape = w.tape) (ho : w'.output = w.output) (hsz : w.heap.size ≤ w'.heap.size) (hb : ∀ b, b < w.heap.size → w'.heap[b]? = w.heap[b]?) : Sim base ρ X s w' :=
  h.step (s' := s) (Fr.grow w w' hos ht ho hsz hb) (fun _ _ => rfl) (Nat.le_refl _) h.lt (fun n o hn => .inl ⟨h.lt n o hn, hn, hb _ (h.blk_lt hn)⟩) (fun _ _ _ hj => hj) h.inj h.base
theorem Mono.grow {U : Reg} {c : Nat} (hfr : ∀ U : Reg, Fr U w w') : Mono w ρ U c w' ρ U c :=
  ⟨Nat.le_refl _, fun _ _ => rfl, fun a u hu _ => (hfr (fun _ _ => False)).cell a u hu (fun h => h), (hfr U).keep, fun _ _ _ h => h⟩
theorem Post.grow {v : AV} {v' : Value} (h : Sim base ρ X s w) (hos : w'.os = w.os) (ht : w'.tape = w.tape) (ho : w'.output = w.output) (hsz : w.heap.size ≤ w'.heap.size) (hb : ∀ b, b < w.heap.size → w'.heap[b]? = w.heap[b]?)
    (hr : Rel w' ρ (UX ρ s.h X) s.c v v') : Post base ρ X s w v s v' w' :=
  ⟨ρ, fun _ _ => rfl, Nat.le_refl _, h.grow hos ht ho hsz hb, hr, Fr.grow w w' hos ht ho hsz hb, fun _ _ _ hj => hj⟩
theorem Post.drew {v : AV} {v' : Value} (h : Sim base ρ X s w) (hr : Rel w ρ (UX ρ s.h X) s.c v v') : Post base ρ X s w v s v' w.drew :=
  Post.grow h rfl rfl rfl (by simp) (fun _ _ => rfl) (Rel.mono (Mono.grow (w' := w.drew) (fun U => Fr.drew w)) _ _ hr)

/-! ### A new object -/
def Pl.new (ρ : Pl) (n : Nat) (p : Nat × Nat) : Pl := fun m => if m = n then p else ρ m
theorem Pl.new_old {n m : Nat} {p : Nat × Nat} (h : m < n) : Pl.new ρ n p m = ρ m := by unfold Pl.new; rw [if_neg (by omega)]
theorem Pl.new_same {n : Nat} {p : Nat × Nat} : Pl.new ρ n p n = p := by simp [Pl.new]

/-- In a world that has grown from w, the block b being new, the object o stands for it. -/
theorem Post.new (h : Sim base ρ X s w) (hos : w'.os = w.os) (ht : w'.tape = w.tape) (ho : w'.output = w.output) (hsz : w.heap.size ≤ w'.heap.size) (hb : ∀ b, b < w.heap.size → w'.heap[b]? = w.heap[b]?) (hbase : base ≤ w.heap.size)
    (o : AO) (b pos : Nat) (hnew : w.heap.size ≤ b) (v : AV) (v' : Value)
    (hobj : ∀ ρ' U' c', Mono w ρ (UX ρ s.h X) s.c w' ρ' U' c' → ρ' s.c = (b, pos) → (∀ j, U' b j → o = .tok → pos ≤ j) → c' = s.c + 1 → ObjOk w' ρ' U' c' o (b, pos) ∧ Rel w' ρ' U' c' v v') :
    Post base ρ X s w v (s.new o) v' w' := by
  have hfr : ∀ U : Reg, Fr U w w' := fun U => Fr.grow w w' hos ht ho hsz hb
  have hg : ∀ n o', hget (s.new o).h n = some o' → (n = s.c ∧ o' = o) ∨ (n ≠ s.c ∧ hget s.h n = some o') := by
    intro n o' hn
    simp only [St.new, hget] at hn
    split at hn
    · injection hn with e; exact .inl ⟨‹_›, e.symm⟩
    · exact .inr ⟨‹_›, hn⟩
  have hρ : ∀ n, n < s.c → Pl.new ρ s.c (b, pos) n = ρ n := fun n hn => Pl.new_old hn
  have hU : ∀ b' j, b' < w.heap.size → Umap (Pl.new ρ s.c (b, pos)) (s.new o).h b' j → Umap ρ s.h b' j := by
    rintro b' j hb' ⟨n, o', hn, hnb, hj⟩
    rcases hg n o' hn with ⟨rfl, rfl⟩ | ⟨hne, hn'⟩
    · rw [Pl.new_same] at hnb; simp at hnb; omega
    · rw [hρ n (h.lt n o' hn')] at hnb hj
      exact ⟨n, o', hn', hnb, hj⟩
  have hm : Mono w ρ (UX ρ s.h X) s.c w' (Pl.new ρ s.c (b, pos)) (UX (Pl.new ρ s.c (b, pos)) (s.new o).h X) (s.c + 1) := .step (s' := s.new o) h.old (hfr _) hρ (Nat.le_succ _) hU
  obtain ⟨h1, h2⟩ := hobj _ _ _ hm Pl.new_same (by
    rintro j (hj | hj) he
    · obtain ⟨n, o', hn, hnb, hj⟩ := hj
      rcases hg n o' hn with ⟨rfl, rfl⟩ | ⟨hne, hn'⟩
      · subst he; rw [Pl.new_same] at hj; exact hj
      · rw [hρ n (h.lt n o' hn')] at hnb
        have := h.blk_lt hn'
        omega
    · have := h.old _ _ hj; omega) rfl
  refine ⟨Pl.new ρ s.c (b, pos), hρ, Nat.le_succ _, ?_, h2, hfr _, hU⟩
  refine h.step (s' := s.new o) (hfr _) hρ (Nat.le_succ _) (fun n o' hn => ?_) (fun n o' hn => ?_) hU (fun n m o1 o2 hn hm' hne => ?_) (fun n o' hn => ?_)
  · show n < s.c + 1
    rcases hg n o' hn with ⟨rfl, _⟩ | ⟨_, hn'⟩
    · omega
    · have := h.lt n o' hn'; omega
  · rcases hg n o' hn with ⟨rfl, rfl⟩ | ⟨_, hn'⟩
    · right; rw [Pl.new_same]; exact h1
    · exact .inl ⟨h.lt n o' hn', hn', hb _ (h.blk_lt hn')⟩
  · rcases hg n o1 hn with ⟨rfl, _⟩ | ⟨hn1, hn'⟩ <;> rcases hg m o2 hm' with ⟨rfl, _⟩ | ⟨hm1, hm''⟩
    · exact absurd rfl hne
    · rw [Pl.new_same, hρ m (h.lt m o2 hm'')]
      have := h.blk_lt hm''
      simp only; omega
    · rw [Pl.new_same, hρ n (h.lt n o1 hn')]
      have := h.blk_lt hn'
      simp only; omega
    · rw [hρ n (h.lt n o1 hn'), hρ m (h.lt m o2 hm'')]
      exact h.inj n m o1 o2 hn' hm'' hne
  · rcases hg n o' hn with ⟨rfl, _⟩ | ⟨_, hn'⟩
    · rw [Pl.new_same]; simp only; omega
    · rw [hρ n (h.lt n o' hn')]; exact h.base n o' hn'

/-! ### An object is put anew -/
theorem hget_hset_same : ∀ {h : List (Nat × AO)} {n : Nat} {o o' : AO}, hget h n = some o → hget (hset h n o') n = some o'
  | [], _, _, _, h => by simp [hget] at h
  | (m, x) :: h, n, o, o', hh => by
    simp only [hget] at hh
    by_cases e : n = m
    · simp [hset, e, hget]
    · simp only [if_neg e] at hh
      simp [hset, e, hget, hget_hset_same hh]
theorem hget_hset_other : ∀ {h : List (Nat × AO)} {n m : Nat} {o' : AO}, m ≠ n → hget (hset h n o') m = hget h m
  | [], _, _, _, _ => by simp [hset, hget]
  | (k, x) :: h, n, m, o', hne => by
    simp only [hset]
    split
    · rename_i e; subst e; simp [hget, hne]
    · simp only [hget]; split
      · rfl
      · exact hget_hset_other hne
theorem hget_hdel_same : ∀ {h : List (Nat × AO)} {n : Nat}, hget (hdel h n) n = none
  | [], _ => by simp [hdel, hget]
  | (k, x) :: h, n => by
    simp only [hdel]
    split
    · exact hget_hdel_same
    · rename_i hne; simp [hget, hne, hget_hdel_same]
theorem hget_hdel_other : ∀ {h : List (Nat × AO)} {n m : Nat}, m ≠ n → hget (hdel h n) m = hget h m
  | [], _, _, _ => by simp [hdel, hget]
  | (k, x) :: h, n, m, hne => by
    simp only [hdel]
    split
    · rename_i e; subst e; simp [hget, hne, hget_hdel_other hne]
    · simp only [hget]; split
      · rfl
      · exact hget_hdel_other hne
theorem hget_hdel {h : List (Nat × AO)} {n m : Nat} {o : AO} (hh : hget (hdel h n) m = some o) : m ≠ n ∧ hget h m = some o := by
  by_cases e : m = n
  · subst e; rw [hget_hdel_same] at hh; cases hh
  · exact ⟨e, by rwa [hget_hdel_other e] at hh⟩
theorem hget_hset {h : List (Nat × AO)} {n m : Nat} {o o' x : AO} (hn : hget h n = some x) (hh : hget (hset h n o') m = some o) : (m = n ∧ o = o') ∨ (m ≠ n ∧ hget h m = some o) := by
  by_cases e : m = n
  · subst e; rw [hget_hset_same hn] at hh; injection hh with hh; exact .inl ⟨rfl, hh.symm⟩
  · exact .inr ⟨e, by rwa [hget_hset_other e] at hh⟩

/-- The world turns in one live object's block alone. -/
theorem Post.put (h : Sim base ρ X s w) {n : Nat} {o0 : AO} (hn : hget s.h n = some o0) (hnt : o0 ≠ .tok) (o : AO) (hot : o ≠ .tok)
    (hos : w'.os = w.os) (ht : w'.tape = w.tape) (ho : w'.output = w.output) (hsz : w'.heap.size = w.heap.size) (hb : ∀ b, b ≠ (ρ n).1 → w'.heap[b]? = w.heap[b]?)
    (hkeep : ∀ a : Addr, (w.cell? a).isSome = true → (w'.cell? a).isSome = true) (v : AV) (v' : Value)
    (hobj : ∀ U', Mono w ρ (UX ρ s.h X) s.c w' ρ U' s.c → ObjOk w' ρ U' s.c o (ρ n) ∧ Rel w' ρ U' s.c v v') :
    Post base ρ X s w v (s.put n o) v' w' := by
  have hfr : Fr (Umap ρ s.h) w w' := by
    have hno : ∀ j, Umap ρ s.h (ρ n).1 j := fun j => ⟨n, o0, hn, rfl, by cases o0 <;> simp_all⟩
    refine ⟨hos, ht, ho, Nat.le_of_eq hsz.symm, fun b _ hj => hb b (fun e => hj 0 (e ▸ hno 0)), fun a u hu hj => ?_, hkeep⟩
    rw [World.cell?_of_block (w := w) (hb a.block (fun e => hj (e ▸ hno _)))]; exact hu
  have hg : ∀ m o', hget (s.put n o).h m = some o' → (m = n ∧ o' = o) ∨ (m ≠ n ∧ hget s.h m = some o') := fun m o' hm => hget_hset hn hm
  have hU : ∀ b j, b < w.heap.size → Umap ρ (s.put n o).h b j → Umap ρ s.h b j := by
    rintro b j _ ⟨m, o', hm, hmb, hj⟩
    rcases hg m o' hm with ⟨rfl, rfl⟩ | ⟨_, hm'⟩
    · exact ⟨m, o0, hn, hmb, by cases o0 <;> simp_all⟩
    · exact ⟨m, o', hm', hmb, hj⟩
  have hm : Mono w ρ (UX ρ s.h X) s.c w' ρ (UX ρ (s.put n o).h X) s.c := .step (s' := s.put n o) h.old hfr (fun _ _ => rfl) (Nat.le_refl _) hU
  obtain ⟨h1, h2⟩ := hobj _ hm
  refine ⟨ρ, fun _ _ => rfl, Nat.le_refl _, ?_, h2, hfr, hU⟩
  refine h.step (s' := s.put n o) hfr (fun _ _ => rfl) (Nat.le_refl _) (fun m o' hm' => ?_) (fun m o' hm' => ?_) hU (fun m k o1 o2 hm' hk hne => ?_) (fun m o' hm' => ?_)
  · rcases hg m o' hm' with ⟨rfl, _⟩ | ⟨_, hm''⟩
    · exact h.lt m o0 hn
    · exact h.lt m o' hm''
  · rcases hg m o' hm' with ⟨rfl, rfl⟩ | ⟨hne, hm''⟩
    · exact .inr h1
    · exact .inl ⟨h.lt m o' hm'', hm'', hb _ (h.inj m n o' o0 hm'' hn hne)⟩
  · obtain ⟨x, hx⟩ : ∃ x, hget s.h m = some x := (hg m o1 hm').elim (fun e => ⟨_, e.1 ▸ hn⟩) (fun e => ⟨_, e.2⟩)
    obtain ⟨y, hy⟩ : ∃ x, hget s.h k = some x := (hg k o2 hk).elim (fun e => ⟨_, e.1 ▸ hn⟩) (fun e => ⟨_, e.2⟩)
    exact h.inj m k x y hx hy hne
  · rcases hg m o' hm' with ⟨rfl, _⟩ | ⟨_, hm''⟩
    · exact h.base m o0 hn
    · exact h.base m o' hm''

/-- A name falls away. -/
theorem Sim.del (h : Sim base ρ X s w) (n : Nat) : Sim base ρ X (s.del n) w :=
  h.step (s' := s.del n) (Fr.refl _ _) (fun _ _ => rfl) (Nat.le_refl _) (fun m o hm => h.lt m o (hget_hdel hm).2)
    (fun m o hm => .inl ⟨h.lt m o (hget_hdel hm).2, (hget_hdel hm).2, rfl⟩)
    (by rintro b j _ ⟨m, o, hm, hr⟩; exact ⟨m, o, (hget_hdel hm).2, hr⟩)
    (fun m k o1 o2 hm hk hne => h.inj m k o1 o2 (hget_hdel hm).2 (hget_hdel hk).2 hne) (fun m o hm => h.base m o (hget_hdel hm).2)
theorem Umap.del {n b j : Nat} (h : Umap ρ (s.del n).h b j) : Umap ρ s.h b j := by
  obtain ⟨m, o, hm, hr⟩ := h; exact ⟨m, o, (hget_hdel hm).2, hr⟩

/-- Two steps, one behind the other. -/
theorem Post.trans {v1 v2 : AV} {u1 u2 : Value} {s1 s2 : St} {w1 w2 : World} (h : Post base ρ X s w v1 s1 u1 w1)
    (k : ∀ ρ1, Sim base ρ1 X s1 w1 → Rel w1 ρ1 (UX ρ1 s1.h X) s1.c v1 u1 → (∀ n, n < s.c → ρ1 n = ρ n) → Post base ρ1 X s1 w1 v2 s2 u2 w2) : Post base ρ X s w v2 s2 u2 w2 := by
  obtain ⟨ρ1, h1, h2, h3, h4, h5, h6⟩ := h
  obtain ⟨ρ2, k1, k2, k3, k4, k5, k6⟩ := k ρ1 h3 h4 h1
  refine ⟨ρ2, fun n hn => (k1 n (Nat.lt_of_lt_of_le hn h2)).trans (h1 n hn), Nat.le_trans h2 k2, k3, k4, h5.trans k5 h6, fun b j hb hj => h6 b j hb (k6 b j (Nat.lt_of_lt_of_le hb h5.size) hj)⟩
end
end Go.Ai
