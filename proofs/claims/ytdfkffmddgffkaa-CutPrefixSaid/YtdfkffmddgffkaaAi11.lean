/- Operations: conversions, maps, ranges over strings, assertions. -/
import Derived.Test.YtdfkffmddgffkaaAi10
import Derived.Laws.BytesArg
set_option linter.unusedVariables false
set_option linter.unusedSimpArgs false
namespace Go.Ai
section
variable {P : Program} {base : Nat} {ρ : Pl} {X U : Reg} {c : Nat} {s s' : St} {w : World}

theorem bytesOf_spec : ∀ {xs : List AV} {l : List UInt8}, bytesOf xs = some l → ∃ ns : List Int, xs = ns.map (AV.int .u8) ∧ l = ns.map fun n => UInt8.ofNat n.toNat
  | [], l, h => by simp only [bytesOf] at h; injection h with h; subst h; exact ⟨[], rfl, rfl⟩
  | x :: xs, l, h => by
    unfold bytesOf at h
    split at h
    · rename_i heq; cases heq
    · rename_i n xs' heq
      injection heq with e1 e2; subst e1; subst e2
      simp only [Option.map_eq_some_iff] at h
      obtain ⟨l', hl, rfl⟩ := h
      obtain ⟨ns, rfl, rfl⟩ := bytesOf_spec hl
      exact ⟨n :: ns, rfl, rfl⟩
    · cases h
theorem relC_ints : ∀ {ns : List Int} {cs : List Value}, RelC w ρ U c 0 (ns.map (AV.int .u8)) cs → cs = ns.map (Value.int .u8)
  | [], cs, h => by simpa [RelC] using h
  | n :: ns, cs, h => by
    simp only [List.map_cons, RelC] at h
    obtain ⟨v, us, rfl, _, h2, h3⟩ := h
    simp only [Rel] at h2; subst h2
    rw [relC_ints h3]
    rfl

theorem freeze_new (w : World) (C : Array Value) (e : TypeId) : (((w.alloc (.cells C e)).freeze ⟨w.heap.size, C.size, none⟩ 1).heap[w.heap.size]? = some (.cells C e (C.size, C.size + 1))) ∧
    (∀ b, b < w.heap.size → ((w.alloc (.cells C e)).freeze ⟨w.heap.size, C.size, none⟩ 1).heap[b]? = w.heap[b]?) ∧ w.heap.size ≤ ((w.alloc (.cells C e)).freeze ⟨w.heap.size, C.size, none⟩ 1).heap.size := by
  refine ⟨?_, fun b hb => ?_, ?_⟩
  · simp only [World.freeze, Nat.one_ne_zero, if_false, Array.getElem?_modify, if_true]
    rw [heap_alloc_new]
    rfl
  · simp only [World.freeze, Nat.one_ne_zero, if_false, Array.getElem?_modify]
    rw [if_neg (by omega)]
    show (w.heap.push _)[b]? = _
    rw [Array.getElem?_push, if_neg (by omega)]
  · simp [World.freeze]

theorem does_bytes {l : List UInt8} {e : TypeId} {v : AV} (hb : base ≤ w.heap.size) (h : Sim base ρ X s w) (hr : roomy l.length 1 = true) :
    Does P base ρ X s w (Conv.stringToBytes e ⟨l.toArray⟩) (.vec 0 (l.map fun b => .int .u8 b.toNat) (.tok s.c)) (s.new .tok) := by
  obtain ⟨cap, hcap⟩ : ∃ cap, cap = (Question.appendCap l.length 0 e).cut (w.tape w.drawn (.appendCap l.length 0 e)) := ⟨_, rfl⟩
  have hle : l.length ≤ cap := by rw [hcap]; show l.length ≤ l.length + _; omega
  obtain ⟨C, hC⟩ : ∃ C : Array Value, C = (l.toArray.map fun b => Value.int .u8 b.toNat) ++ Array.replicate (cap - l.length) (.int .u8 0) := ⟨_, rfl⟩
  have hCs : C.size = cap := by rw [hC]; simp; omega
  obtain ⟨f1, f2, f3⟩ := freeze_new w.drew C e
  replace f1 : ((w.drew.alloc (.cells C e)).freeze ⟨w.heap.size, C.size, none⟩ 1).heap[w.heap.size]? = some (.cells C e (C.size, C.size + 1)) := f1
  refine ⟨.slice (some ⟨w.heap.size, 0, none⟩) l.length cap, (w.drew.alloc (.cells C e)).freeze ⟨w.heap.size, C.size, none⟩ 1, ?_, ?_⟩
  · unfold Conv.stringToBytes markStringish
    have hs : (w.drew.alloc (.cells C e)).shape? w.heap.size = some (e, C.size) := by
      have := heap_alloc_new w.drew (.cells C e)
      simp only [World.shape?]
      rw [show w.heap.size = w.drew.heap.size from rfl, this]
    simp only [size_mk, Sem.run_bind, run_choose, Question.forced, Bool.false_eq_true, if_false, Result.andThen_ok, ← hcap, ← hC, newRow, run_newObj, Sem.run_pure, World.drew_eq, World.alloc_eq, run_shape]
    rw [show w.drew.heap.size = w.heap.size from rfl, hs]
    simp
  · have hlc : ∀ cs : List Value, cs = l.map (fun b => Value.int .u8 b.toNat) → ∀ (j : Nat) (u : Value), cs[j]? = some u → C[j]? = some u := by
      intro cs hcs j u hj
      have hjl : j < l.length := by
        have := (List.getElem?_eq_some_iff.1 hj).1
        rw [hcs] at this; simpa using this
      rw [hC, Array.getElem?_append_left (by simpa using hjl)]
      rw [hcs] at hj
      simpa using hj
    refine Post.new (w' := (w.drew.alloc (.cells C e)).freeze ⟨w.heap.size, C.size, none⟩ 1) h rfl rfl rfl f3 f2 hb .tok w.heap.size l.length (Nat.le_refl _) _ _ (fun ρ' U' c' m hρ' hU' hc' => ⟨?_, ?_⟩)
    · refine ⟨C, e, _, f1, ?_, by simp only; omega⟩
      intro j hj hbad
      simp only at hbad; omega
    · simp only [Rel]
      refine ⟨⟨w.heap.size, 0, none⟩, cap, l.map (fun b => Value.int .u8 b.toNat), by simp, by simpa using hle, ?_, ?_, ?_⟩
      · clear hcap hle hC hCs f1 f2 f3 m hρ' hU' hlc hr
        induction l with
        | nil => simp [RelC]
        | cons b l ih =>
          simp only [List.map_cons, RelC]
          exact ⟨.int .u8 b.toNat, _, rfl, ⟨rfl, by simp [AV.cells, AV.one], fun _ => rfl, fun e => absurd rfl e⟩, by simp [Rel], ih⟩
      · intro j u hj
        have hjl : j < l.length := by
          have := (List.getElem?_eq_some_iff.1 hj).1
          simpa using this
        rw [add_lit, Nat.zero_add, cell_at f1]
        refine ⟨hlc _ rfl j u hj, fun hu => ?_⟩
        have := hU' j hu rfl
        omega
      · simp only [CapOk]
        refine ⟨by rw [hc']; omega, by rw [hρ'], trivial, by rw [hρ']; simp [esz], fun j hj => ?_⟩
        rw [Nat.zero_add, cell_at f1]
        have : j < C.size := by rw [hCs]; simpa [esz] using hj
        simp [this]

theorem does_convert {src dst : TypeId} {x v : AV} {xv : Value} (hb : base ≤ w.heap.size) (h : Sim base ρ X s w) (hx : Rel w ρ (UX ρ s.h X) s.c x xv) (hh : aConvert P src dst x s = some (v, s')) :
    Does P base ρ X s w (convert src dst xv) v s' := by
  simp only [aConvert, Option.bind_eq_bind, Option.bind_eq_some_iff] at hh
  obtain ⟨d1, hd1, d2, hd2, hh⟩ := hh
  split at hh
  · injection hh with hh; injection hh with e1 e2; subst e1; subst e2
    simp only [Rel] at hx; subst hx
    exact ⟨_, w, by simp [convert, run_underlying hd1, run_underlying hd2, Conv.intToInt]; rfl, .same h (by simp [Rel])⟩
  · injection hh with hh; injection hh with e1 e2; subst e1; subst e2
    simp only [Rel] at hx; subst hx
    exact ⟨_, w, by simp [convert, run_underlying hd1, run_underlying hd2, Conv.intToString]; rfl, .same h (by simp [Rel])⟩
  · injection hh with hh; injection hh with e1 e2; subst e1; subst e2
    simp only [Rel] at hx; subst hx
    exact ⟨_, w, by simp [convert, run_underlying hd1, run_underlying hd2]; rfl, .same h (by simp [Rel])⟩
  · rename_i e l
    simp only [Rel] at hx; subst hx
    split at hh
    · rename_i he
      split at hh
      · rename_i hr
        injection hh with hh; injection hh with e1 e2; subst e1; subst e2
        obtain ⟨v', w', g1, g2⟩ := does_bytes (P := P) (v := .undef) (e := e) hb h hr
        exact ⟨v', w', by simp [convert, run_underlying hd1, run_underlying hd2, run_underlying he, g1], g2⟩
      · cases hh
    · cases hh
  · rename_i x0 e hn1 hn2
    split at hh
    · rename_i he
      split at hh
      · injection hh with hh; injection hh with e1 e2; subst e1; subst e2
        simp only [Rel] at hx; subst hx
        refine ⟨.string ByteArray.empty, w, run_convert_bytes_nil w src e hd1 he 0 0 dst hd2, .same h ?_⟩
        simp only [Rel]
        rfl
      · injection hh with hh; injection hh with e1 e2; subst e1; subst e2
        simp only [Rel] at hx
        obtain ⟨A, cap, rfl, hA, _⟩ := hx
        refine ⟨.string ByteArray.empty, w, ?_, .same h ?_⟩
        · cases A with
          | none => rw [hA rfl]; exact run_convert_bytes_nil w src e hd1 he 0 0 dst hd2
          | some A =>
            have := run_convert_bytes_string w src dst e (some A) 0 cap hd1 he hd2
            rw [this, run_bytesToString w A 0 cap [] (by simp [loadCells, loadCellsFrom]), foldl_push_bytes]
            rfl
        · simp only [Rel]
          rfl
      · simp only [Option.bind_eq_some_iff] at hh
        obtain ⟨⟨k, xs⟩, hel, hh⟩ := hh
        simp only at hh
        split at hh
        · rename_i hk
          subst hk
          simp only [Option.map_eq_some_iff] at hh
          obtain ⟨l, hl, hh⟩ := hh
          injection hh with e1 e2; subst e1; subst e2
          obtain ⟨ns, rfl, rfl⟩ := bytesOf_spec hl
          obtain ⟨A, cap, cs, rfl, g1, g2⟩ := elems_rel h hx hel
          have hcs := relC_ints g1
          subst hcs
          have hload := run_loadCells_list (P := P) w A _ g2
          simp only [List.length_map] at hload
          refine ⟨.string (strOfNums ns), w, ?_, .same h (by simp [Rel, strOfNums])⟩
          have := run_convert_bytes_string w src dst e (some A) ns.length cap hd1 he hd2
          simp only [List.length_map]
          rw [this, run_bytesToString w A ns.length cap ns hload, foldl_push_bytes]
          simp [strOfNums, ByteArray.empty, ByteArray.emptyWithCapacity]
          rfl
        · cases hh
    · cases hh
  · cases hh

/-! ### Maps -/
theorem sameNow_of {d : TypeDesc} {k x : AV} {kv xv : Value} {b : Bool} (hkind : keyKind d k = true) (hk : Rel w ρ U c k kv) (hx : Rel w ρ U c x xv) (h : keyEq k x = some b) : Instr.sameNow d kv xv = some b := by
  unfold keyEq at h
  split at h
  · split at h
    · rename_i e; subst e
      injection h with h; subst h
      simp only [Rel] at hk hx; subst hk; subst hx
      cases d <;> simp [keyKind] at hkind
      simp [Instr.sameNow]
    · cases h
  · injection h with h; subst h
    simp only [Rel] at hk hx; subst hk; subst hx
    cases d <;> simp [keyKind] at hkind
    simp only [Instr.sameNow]
    congr 1
    rename_i a b
    show ((a.toArray == b.toArray)) = (a == b)
    simp
  · injection h with h; subst h
    simp only [Rel] at hk hx; subst hk; subst hx
    cases d <;> simp [keyKind] at hkind
    simp [Instr.sameNow]
  · cases h
theorem findNow_rel {d : TypeDesc} {k : AV} {kv : Value} (hkind : keyKind d k = true) (hk : Rel w ρ U c k kv) : ∀ {es : List (AV × AV)} {ents : List MapEntry} {i : Nat} {r : Option AV}, RelL w ρ U c (es.map (·.1)) (ents.map (·.key)) → RelL w ρ U c (es.map (·.2)) (ents.map (·.val)) →
    mfind k es = some r → ∃ q, Instr.findNow d kv ents i = some q ∧ (match r, q with | none, none => True | some x, some (j, u) => Rel w ρ U c x u | _, _ => False)
  | [], ents, i, r, h1, h2, h => by
    have : ents = [] := by simpa [RelL] using h1
    subst this
    simp only [mfind] at h; injection h with h; subst h
    exact ⟨none, rfl, trivial⟩
  | (x, v) :: es, [], i, r, h1, h2, h => by simp [RelL] at h1
  | (x, v) :: es, en :: ents, i, r, h1, h2, h => by
    simp only [List.map_cons, RelL] at h1 h2
    obtain ⟨a1, b1, e1, hx, h1⟩ := h1
    obtain ⟨a2, b2, e2, hv, h2⟩ := h2
    injection e1 with e1 e1'; injection e2 with e2 e2'
    subst e1; subst e1'; subst e2; subst e2'
    simp only [mfind] at h
    unfold Instr.findNow
    split at h
    · rename_i he
      injection h with h; subst h
      rw [sameNow_of hkind hk hx he]
      exact ⟨_, rfl, hv⟩
    · rename_i he
      rw [sameNow_of hkind hk hx he]
      exact findNow_rel hkind hk h1 h2 h
    · cases h
theorem run_checkKey {d : TypeDesc} {kt : TypeId} {k : AV} {kv : Value} {e : Bool} (hd : P.underlying kt = some d) (hkind : keyKind d k = true) (hk : Rel w ρ U c k kv) (w' : World) : (Instr.checkKey e 10000 kt kv).run P w' = .ok () w' := by
  show (Instr.checkKey e (9999 + 1) kt kv).run P w' = _
  generalize 9999 = n
  unfold keyKind at hkind
  split at hkind
  · simp only [Rel] at hk; subst hk
    simp [Instr.checkKey, run_underlying hd]
  · simp only [Rel] at hk; subst hk
    simp [Instr.checkKey, run_underlying hd]
  · simp only [Rel] at hk; subst hk
    simp [Instr.checkKey, run_underlying hd]
  · cases hkind

/-- A map's entries. -/
theorem ents_rel {x : AV} {xv : Value} {es : List (AV × AV)} (h : Sim base ρ X s w) (hx : Rel w ρ (UX ρ s.h X) s.c x xv) (he : mapEnts x s = some es) :
    ∃ ents : Array MapEntry, ((xv = .map none ∧ ents = #[]) ∨ (∃ b clock, xv = .map (some b) ∧ w.heap[b]? = some (.map ents clock))) ∧
      RelL w ρ (UX ρ s.h X) s.c (es.map (·.1)) (ents.toList.map (·.key)) ∧ RelL w ρ (UX ρ s.h X) s.c (es.map (·.2)) (ents.toList.map (·.val)) := by
  unfold mapEnts at he
  split at he
  · simp only [Rel] at hx; subst hx
    injection he with he; subst he
    exact ⟨#[], .inl ⟨rfl, rfl⟩, by simp [RelL], by simp [RelL]⟩
  · rename_i n
    split at he
    · rename_i es' hg
      injection he with he; subst he
      simp only [Rel] at hx
      obtain ⟨_, rfl⟩ := hx
      obtain ⟨ents, clock, g1, g2, g3⟩ := h.obj n _ hg
      exact ⟨ents, .inr ⟨_, clock, rfl, g1⟩, g2, g3⟩
    · cases he
  · cases he
theorem gives_lookup {t : TypeId} {x k v : AV} {xv kv : Value} {ok : Bool} (h : Sim base ρ X s w) (hx : Rel w ρ (UX ρ s.h X) s.c x xv) (hk : Rel w ρ (UX ρ s.h X) s.c k kv) (hh : aLookup P t x k ok s = some v) :
    Gives P w ρ (UX ρ s.h X) s.c (Instr.lookup t xv kv ok) v := by
  simp only [aLookup, Option.bind_eq_bind, Option.bind_eq_some_iff] at hh
  obtain ⟨d, hd, hh⟩ := hh
  split at hh
  · rename_i kt e
    simp only [Option.bind_eq_some_iff] at hh
    obtain ⟨dk, hdk, hh⟩ := hh
    split at hh
    · cases hh
    · rename_i hkk
      have hkk : keyKind dk k = true := by simpa using hkk
      simp only [Option.bind_eq_some_iff] at hh
      obtain ⟨z, hz, es, hes, r, hr, hh⟩ := hh
      injection hh with hh; subst hh
      obtain ⟨zv, hzr, hzz⟩ := run_zero hz w
      obtain ⟨ents, hents, g2, g3⟩ := ents_rel h hx hes
      obtain ⟨q, hq, hqr⟩ := findNow_rel (i := 0) hkk hk g2 g3 hr
      have hck := fun b => run_checkKey (P := P) (e := b) hdk hkk hk w
      have hfk : (Instr.findKey kt kv ents.toList).run P w = .ok q w := by
        unfold Instr.findKey
        simp [run_underlying hdk, hq]
      obtain ⟨v', hv1, hv2⟩ : ∃ v', (match q with | some (_, v) => v' = v ∧ r.isSome = true | none => v' = zv ∧ r.isSome = false) ∧ Rel w ρ (UX ρ s.h X) s.c (r.getD z) v' := by
        cases r with
        | none =>
          cases q with
          | none => exact ⟨zv, ⟨rfl, rfl⟩, hzz _ _ _ _⟩
          | some _ => exact hqr.elim
        | some x =>
          cases q with
          | none => exact hqr.elim
          | some p => exact ⟨p.2, ⟨rfl, rfl⟩, hqr⟩
      refine ⟨if ok then .tuple #[v', .bool r.isSome] else v', ?_, ?_⟩
      · unfold Instr.lookup
        simp only [Sem.run_bind, run_underlying hd, Result.andThen_ok]
        rcases hents with ⟨rfl, rfl⟩ | ⟨b, clock, rfl, hb⟩
        · simp only [Sem.run_bind, Sem.run_pure, Result.andThen_ok, hck, hfk]
          cases q with
          | none => simp only [Sem.run_bind, hzr, Result.andThen_ok, Sem.run_pure, hv1.1, hv1.2]
          | some p => simp only [Sem.run_bind, Result.andThen_ok, Sem.run_pure, hv1.1, hv1.2]
        · simp only [getObj, Sem.run_bind, Sem.run, hb, Sem.run_pure, Result.andThen_ok, hck, hfk]
          cases q with
          | none => simp only [Sem.run_bind, hzr, Result.andThen_ok, Sem.run_pure, hv1.1, hv1.2]
          | some p => simp only [Sem.run_bind, Result.andThen_ok, Sem.run_pure, hv1.1, hv1.2]
      · cases ok with
        | true =>
          simp only [if_true, Rel, RelL]
          exact ⟨[v', .bool r.isSome], rfl, v', _, rfl, hv2, _, _, rfl, by simp, rfl⟩
        | false => simpa using hv2
  · cases hh

/-- An entry is set. -/
theorem mset_rel {d : TypeDesc} {k v : AV} {kv vv : Value} (hkind : keyKind d k = true) (hk : Rel w ρ U c k kv) (hv : Rel w ρ U c v vv) : ∀ {es es' : List (AV × AV)} {ents : List MapEntry} {i : Nat}, RelL w ρ U c (es.map (·.1)) (ents.map (·.key)) → RelL w ρ U c (es.map (·.2)) (ents.map (·.val)) →
    mset k v es = some es' → ∃ q, Instr.findNow d kv ents i = some q ∧
      (match q with
      | none => RelL w ρ U c (es'.map (·.1)) (ents.map (·.key) ++ [kv]) ∧ RelL w ρ U c (es'.map (·.2)) (ents.map (·.val) ++ [vv])
      | some (j, u) => i ≤ j ∧ ∃ en, ents[j - i]? = some en ∧ Instr.sameNow d kv en.key = some true ∧ RelL w ρ U c (es'.map (·.1)) ((ents.set (j - i) { en with key := kv, val := vv }).map (·.key)) ∧ RelL w ρ U c (es'.map (·.2)) ((ents.set (j - i) { en with key := kv, val := vv }).map (·.val)))
  | [], es', ents, i, h1, h2, h => by
    have : ents = [] := by simpa [RelL] using h1
    subst this
    simp only [mset] at h; injection h with h; subst h
    refine ⟨none, rfl, ?_, ?_⟩
    · simp only [List.map_cons, List.map_nil, RelL]; exact ⟨kv, [], rfl, hk, rfl⟩
    · simp only [List.map_cons, List.map_nil, RelL]; exact ⟨vv, [], rfl, hv, rfl⟩
  | (x, u) :: es, es', [], i, h1, h2, h => by simp [RelL] at h1
  | (x, u) :: es, es', en :: ents, i, h1, h2, h => by
    simp only [List.map_cons, RelL] at h1 h2
    obtain ⟨a1, b1, e1, hx, h1⟩ := h1
    obtain ⟨a2, b2, e2, hu, h2⟩ := h2
    injection e1 with e1 e1'; injection e2 with e2 e2'
    subst e1; subst e1'; subst e2; subst e2'
    simp only [mset] at h
    unfold Instr.findNow
    split at h
    · rename_i he
      injection h with h; subst h
      rw [sameNow_of hkind hk hx he]
      refine ⟨_, rfl, Nat.le_refl _, en, by simp, sameNow_of hkind hk hx he, ?_, ?_⟩
      · simp only [Nat.sub_self, List.set_cons_zero, List.map_cons, RelL]; exact ⟨_, _, rfl, hk, h1⟩
      · simp only [Nat.sub_self, List.set_cons_zero, List.map_cons, RelL]; exact ⟨_, _, rfl, hv, h2⟩
    · rename_i he
      rw [sameNow_of hkind hk hx he]
      simp only [Option.map_eq_some_iff] at h
      obtain ⟨es2, hes2, rfl⟩ := h
      obtain ⟨q, hq, hqr⟩ := mset_rel hkind hk hv (i := i + 1) h1 h2 hes2
      refine ⟨q, hq, ?_⟩
      cases q with
      | none =>
        obtain ⟨g1, g2⟩ := hqr
        refine ⟨?_, ?_⟩
        · simp only [List.map_cons, List.cons_append, RelL]; exact ⟨_, _, rfl, hx, g1⟩
        · simp only [List.map_cons, List.cons_append, RelL]; exact ⟨_, _, rfl, hu, g2⟩
      | some p =>
        obtain ⟨j, y⟩ := p
        obtain ⟨g0, en', g1, g2, g3, g4⟩ := hqr
        have e : j - i = (j - (i + 1)) + 1 := by omega
        refine ⟨by omega, en', by rw [e]; simpa using g1, g2, ?_, ?_⟩
        · rw [e]; simp only [List.set_cons_succ, List.map_cons, RelL]; exact ⟨_, _, rfl, hx, g3⟩
        · rw [e]; simp only [List.set_cons_succ, List.map_cons, RelL]; exact ⟨_, _, rfl, hu, g4⟩
    · cases h
theorem sameBits_of {d : TypeDesc} {a b : Value} (h : Instr.sameNow d a b = some true) : Instr.sameBits 10000 b a = true := by
  unfold Instr.sameNow at h
  split at h
  · split at h
    · rename_i e; subst e
      injection h with h
      unfold Instr.sameBits
      rw [beq_iff_eq] at h
      simp [h]
    · cases h
  · injection h with h
    rename_i a b
    unfold Instr.sameBits
    obtain ⟨⟨a⟩⟩ := a
    obtain ⟨⟨b⟩⟩ := b
    have h : (a.toArray == b.toArray) = true := h
    show (b.toArray == a.toArray) = true
    simp at h ⊢
    exact h.symm
  · injection h with h
    unfold Instr.sameBits
    rw [beq_iff_eq] at h ⊢
    exact h.symm
  · cases h

theorem does_mapUpdate {t : TypeId} {x k v : AV} {xv kv vv : Value} (h : Sim base ρ X s w) (hx : Rel w ρ (UX ρ s.h X) s.c x xv) (hk : Rel w ρ (UX ρ s.h X) s.c k kv) (hv : Rel w ρ (UX ρ s.h X) s.c v vv) (hh : aMapUpdate P t x k v s = some s') :
    ∃ w', (Instr.mapUpdate t xv kv vv).run P w = .ok () w' ∧ Post base ρ X s w .undef s' undef w' := by
  simp only [aMapUpdate, Option.bind_eq_bind, Option.bind_eq_some_iff] at hh
  obtain ⟨d, hd, hh⟩ := hh
  split at hh
  · rename_i kt e
    simp only [Option.bind_eq_some_iff] at hh
    obtain ⟨dk, hdk, hh⟩ := hh
    split at hh
    · cases hh
    · rename_i hkk
      have hkk : keyKind dk k = true := by simpa using hkk
      split at hh
      · rename_i n
        split at hh
        · rename_i es hg
          simp only [Option.map_eq_some_iff] at hh
          obtain ⟨es', hes', rfl⟩ := hh
          simp only [Rel] at hx
          obtain ⟨_, rfl⟩ := hx
          obtain ⟨ents, clock, g1, g2, g3⟩ := h.obj n _ hg
          obtain ⟨q, hq, hqr⟩ := mset_rel (i := 0) hkk hk hv g2 g3 hes'
          have hck := fun b => run_checkKey (P := P) (e := b) hdk hkk hk w
          have hlt := h.blk_lt hg
          have hfk : (Instr.findKey kt kv ents.toList).run P w = .ok q w := by
            unfold Instr.findKey
            simp [run_underlying hdk, hq]
          -- the map's block alone turns
          have fin : ∀ (ents' : Array MapEntry) (clock' : Nat), RelL w ρ (UX ρ s.h X) s.c (es'.map (·.1)) (ents'.toList.map (·.key)) → RelL w ρ (UX ρ s.h X) s.c (es'.map (·.2)) (ents'.toList.map (·.val)) →
              Post base ρ X s w .undef (s.put n (.map es')) undef { w with heap := w.heap.setIfInBounds (ρ n).1 (.map ents' clock') } := by
            intro ents' clock' h1 h2
            refine Post.put (w' := { w with heap := w.heap.setIfInBounds (ρ n).1 (.map ents' clock') }) h hg (by simp) (.map es') (by simp) rfl rfl rfl (by simp) (fun b hb => by simp [Array.getElem?_setIfInBounds_ne (Ne.symm hb)]) (fun a ha => ?_) _ _ (fun U' m => ⟨?_, by simp [Rel, RelL, undef]⟩)
            · obtain ⟨u, hu⟩ := Option.isSome_iff_exists.1 ha
              by_cases e : a.block = (ρ n).1
              · simp only [World.cell?, e, g1] at hu; cases hu
              · rw [World.cell?_of_block (w := w) (by simp [Array.getElem?_setIfInBounds_ne (Ne.symm e)])]; exact ha
            · refine ⟨ents', clock', ?_, RelL.mono m _ _ h1, RelL.mono m _ _ h2⟩
              simp [hlt]
          cases q with
          | none =>
            obtain ⟨h1, h2⟩ := hqr
            refine ⟨_, ?_, fin (ents.push { key := kv, val := vv, born := clock }) (clock + 1) (by simpa using h1) (by simpa using h2)⟩
            unfold Instr.mapUpdate
            simp only [Sem.run_bind, run_underlying hd, Result.andThen_ok, getObj, Sem.run, g1, hck, hfk, setObj]
          | some p =>
            obtain ⟨j, u⟩ := p
            obtain ⟨_, en, h1, h2, h3, h4⟩ := hqr
            simp only [Nat.sub_zero] at h1 h3 h4
            have hsb := sameBits_of h2
            have hjl : j < ents.size := by have := (List.getElem?_eq_some_iff.1 h1).1; simpa using this
            have hen : ents[j]? = some en := by simpa using h1
            refine ⟨_, ?_, fin (ents.modify j fun e => { e with key := kv, val := vv }) clock ?_ ?_⟩
            · unfold Instr.mapUpdate
              simp only [Sem.run_bind, run_underlying hd, Result.andThen_ok, getObj, Sem.run, g1, hck, hfk, setObj, hen, Option.map_some, Option.getD_some, Instr.keyThatStays]
              rw [if_pos hsb]
              simp only [Sem.run_pure, Result.andThen_ok, g1]
            · have e : (ents.modify j fun e => { e with key := kv, val := vv }).toList = ents.toList.set j { en with key := kv, val := vv } := by
                rw [Array.toList_modify]
                apply List.ext_getElem?
                intro q
                rw [List.getElem?_modify, List.getElem?_set]
                by_cases e : j = q
                · subst e; simp [h1]
                  have := (List.getElem?_eq_some_iff.1 h1).1; simpa using this
                · simp [e]
              rw [e]; exact h3
            · have e : (ents.modify j fun e => { e with key := kv, val := vv }).toList = ents.toList.set j { en with key := kv, val := vv } := by
                rw [Array.toList_modify]
                apply List.ext_getElem?
                intro q
                rw [List.getElem?_modify, List.getElem?_set]
                by_cases e : j = q
                · subst e; simp [h1]
                  have := (List.getElem?_eq_some_iff.1 h1).1; simpa using this
                · simp [e]
              rw [e]; exact h4
        · cases hh
      · cases hh
  · cases hh
end
end Go.Ai
