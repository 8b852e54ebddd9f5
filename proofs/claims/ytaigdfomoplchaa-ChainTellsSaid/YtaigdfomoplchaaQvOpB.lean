/- Each operation, run: what lays memory, places, parts, numbers. -/
import Derived.Test.YtaigdfomoplchaaQvOpA
set_option linter.unusedSimpArgs false
set_option linter.unusedVariables false
set_option linter.unusedSectionVars false
namespace Go.Q
variable [Link]

section
variable {P : Program} {w : World} {X : Nat → Prop} {ι : Nat → Nat} {σ σ' : Sto} {n n' lk : Nat} {ρ : Operand → Value} {ρ' : Opd → V}

/-- One new object of one element. -/
theorem good_new (hw : WF w X ι σ n) (hl : lk ≤ n) {e : V} {x : Value} (he : Rep w X ι n e x) (h1 : e.cells.all V.one = true) (t : TypeId) {r : Result Next}
    (hr : r = .ok (.value (.pointer (some ⟨w.heap.size, 0, none⟩))) (w.alloc (.cells x.cells t))) :
    Good w X ι σ n lk r (.ptr n e.cells.length 0 0) (upd σ n (some (.row e.cells.length [e]))) (n + 1) := by
  obtain ⟨hlx, hrx⟩ := cells_of_rep he
  refine ⟨w.alloc (.cells x.cells t), addX X w.heap.size, setι ι n w.heap.size, _, .inl hr, ?_, ?_, Ext.new hw hl _ _ _⟩
  · have := Rep.ptr (w := w.alloc (.cells x.cells t)) (X := addX X w.heap.size) (ι := setι ι n w.heap.size) (n := n + 1) n e.cells.length 0 0 (by omega) (by simp [setι])
    simpa [setι] using this
  · refine new_row hw (fun _ j => (x.cells[j]?).getD undef) (by simp; omega) ?_ ?_ ?_
    · intro i y hy
      cases i with
      | zero => simp at hy; subst hy; exact ⟨rfl, h1⟩
      | succ i => simp at hy
    · intro i y j c hy hc
      cases i with
      | zero =>
        simp at hy; subst hy
        have : j < x.cells.size := by have := (List.getElem?_eq_some_iff.1 hc).1; omega
        simp [this]
      | succ i => simp at hy
    · intro i y j c hy hc
      cases i with
      | zero =>
        simp at hy; subst hy
        have : j < x.cells.size := by have := (List.getElem?_eq_some_iff.1 hc).1; omega
        exact hrx j c _ hc (by simp [this])
      | succ i => simp at hy

theorem ev_alloc (hw : WF w X ι σ n) (hl : lk ≤ n) {t : TypeId} {i : TI} (ht : ti P t = some i) {v : V} (h : ev ρ' σ n lk (.alloc i.zero) = some (v, σ', n')) :
    Good w X ι σ n lk (((do pure (.value (← Instr.alloc t true (.tuple #[]))) : Sem Next)).run P w) v σ' n' := by
  simp only [ev, Option.some.injEq, Prod.mk.injEq] at h
  obtain ⟨rfl, rfl, rfl⟩ := h
  obtain ⟨z, hz, hv⟩ := run_zeroValue (w := w) ht
  refine good_new hw hl (ofValA_rep hv) (ofValA_one hv).1 t ?_
  simp [Instr.alloc, newVar, newRow, hz]

theorem ev_box (hw : WF w X ι σ n) (hl : lk ≤ n) {t : TypeId} {x : Operand} {x' : Opd} (hρ : Rep w X ι n (ρ' x') (ρ x)) {v : V} (h : ev ρ' σ n lk (.box x') = some (v, σ', n')) :
    Good w X ι σ n lk (((do pure (.value (← Instr.box t (ρ x))) : Sem Next)).run P w) v σ' n' := by
  simp only [ev] at h
  split at h
  · rename_i h1
    simp only [Option.some.injEq, Prod.mk.injEq] at h
    obtain ⟨rfl, rfl, rfl⟩ := h
    exact good_new hw hl hρ h1 t (by simp [Instr.box, newVar, newRow])
  · cases h

theorem fill_get (place : Nat → Option (Nat × Nat)) : ∀ (ps : List (Nat × Value)) (cells : Array Value) (qs : List (Nat × Nat × Opd)) (z cs : List V),
    qs.length = ps.length → z.length = cells.size → (∀ (i : Nat) (e : V) (u : Value), z[i]? = some e → cells[i]? = some u → Rep w X ι n e u) →
    (∀ (i : Nat) (p : Nat × Value) (q : Nat × Nat × Opd), ps[i]? = some p → qs[i]? = some q → place p.1 = some (q.1, q.2.1) ∧ Rep w X ι n (ρ' q.2.2) p.2) →
    partsOf ρ' z qs = some cs → ∃ out, Instr.fill place cells ps = some out ∧ cs.length = out.size ∧ ∀ (i : Nat) (e : V) (u : Value), cs[i]? = some e → out[i]? = some u → Rep w X ι n e u
  | [], cells, qs, z, cs, hq, hz, hr, _, h => by
    have : qs = [] := List.length_eq_zero_iff.1 (by simpa using hq)
    subst this
    simp only [partsOf, Option.some.injEq] at h
    subst h
    exact ⟨cells, rfl, hz, hr⟩
  | p :: ps, cells, [], z, cs, hq, hz, hr, hp, h => by simp at hq
  | p :: ps, cells, q :: qs, z, cs, hq, hz, hr, hp, h => by
    obtain ⟨off, size, x⟩ := q
    obtain ⟨k, v⟩ := p
    obtain ⟨hpl, hrep⟩ := hp 0 _ _ rfl rfl
    simp only at hpl hrep
    obtain ⟨hlv, hrv⟩ := cells_of_rep hrep
    simp only [partsOf] at h
    split at h
    · rename_i hc
      obtain ⟨hc1, hc2⟩ := hc
      have hfold : ∀ (l : List Value) (cs0 : Array Value) (o : Nat), (l.zipIdx o).foldl (fun cs (c, j) => cs.setIfInBounds (off + j) c) cs0 = writeAt cs0 (off + o) l := by
        intro l
        induction l with
        | nil => intro cs0 o; rfl
        | cons c l ih => intro cs0 o; simp only [List.zipIdx_cons, List.foldl_cons, writeAt]; rw [ih]; rfl
      have hfold' : v.cells.zipIdx.foldl (fun cs (c, j) => cs.setIfInBounds (off + j) c) cells = writeAt cells off v.cells.toList := by
        rw [← Array.foldl_toList]
        have := hfold v.cells.toList cells 0
        simpa using this
      have hcond : ¬ (v.cells.size ≠ size ∨ off + v.cells.size > cells.size) := by omega
      have hsz : off + v.cells.toList.length ≤ cells.size := by simp; omega
      obtain ⟨out, ho, h1, h2⟩ := fill_get place ps (writeAt cells off v.cells.toList) qs _ cs (by simpa using hq)
        (by simp; omega)
        (by
          intro i e u he hu
          rw [writeAt_get _ _ _ _ hsz] at hu
          have htk : (z.take off).length = off := by simp; omega
          by_cases h1 : i < off
          · rw [List.append_assoc, List.getElem?_append_left (by omega), List.getElem?_take, if_pos h1] at he
            rw [if_neg (by omega)] at hu
            exact hr i e u he hu
          · by_cases h2 : i < off + size
            · rw [List.append_assoc, List.getElem?_append_right (by omega), List.getElem?_append_left (by omega), htk] at he
              rw [if_pos (by simp; omega)] at hu
              exact hrv (i - off) e u he (by simpa using hu)
            · rw [List.getElem?_append_right (by simp; omega), List.getElem?_drop] at he
              rw [if_neg (by simp; omega)] at hu
              have : off + size + (i - (z.take off ++ (ρ' x).cells).length) = i := by simp; omega
              rw [this] at he
              exact hr i e u he hu)
        (fun i p q hp' hq' => hp (i + 1) p q (by simpa using hp') (by simpa using hq')) h
      refine ⟨out, ?_, h1, h2⟩
      simp only [Instr.fill, hpl, hfold']
      rw [if_neg (by simpa using hcond)]
      exact ho
    · cases h

theorem cParts_spec {pl : Nat → Option (Nat × Nat)} {ps : List (Nat × Operand)} {qs : List (Nat × Nat × Opd)} (h : cParts pl ps = some qs)
    (hρ : ∀ (x : Operand) (x' : Opd), cOpd x = some x' → Rep w X ι n (ρ' x') (ρ x)) :
    qs.length = ps.length ∧ ∀ (i : Nat) (p : Nat × Value) (q : Nat × Nat × Opd), (ps.map fun (i, x) => (i, ρ x))[i]? = some p → qs[i]? = some q → pl p.1 = some (q.1, q.2.1) ∧ Rep w X ι n (ρ' q.2.2) p.2 := by
  obtain ⟨h1, h2⟩ := mapM_get _ _ _ h
  refine ⟨h1.symm, fun i p q hp hq => ?_⟩
  simp only [List.getElem?_map, Option.map_eq_some_iff] at hp
  obtain ⟨⟨k, x⟩, hx, rfl⟩ := hp
  have := h2 i _ _ hx hq
  simp only [Option.bind_eq_bind, Option.bind_eq_some_iff] at this
  obtain ⟨⟨a, b⟩, hpl, y, hy, hq'⟩ := this
  cases hq'
  exact ⟨hpl, hρ _ _ hy⟩

theorem run_places (fs : List Field) (pl : List (Nat × Nat)) (h : fs.mapM (fun f => (ti P f.type).map fun j => (f.offset, j.size)) = some pl) :
    (fs.mapM (fun f => do pure (f.offset, ← sizeOf f.type) : Field → Sem (Nat × Nat))).run P w = .ok pl w := by
  induction fs generalizing pl with
  | nil => simp at h; subst h; simp
  | cons f fs ih =>
    simp only [List.mapM_cons, Option.pure_def, Option.bind_eq_bind, Option.bind_eq_some_iff, Option.some.injEq, Option.map_eq_some_iff] at h
    obtain ⟨b, ⟨j, hj, rfl⟩, pl', hp, rfl⟩ := h
    simp only [List.mapM_cons, Sem.run_bind, run_sizeOf hj, Result.andThen_ok, Sem.run_pure, ih pl' hp]

theorem ev_build_struct (hw : WF w X ι σ n) {t : TypeId} {i : TI} {fs : Array Field} {ps : Array (Nat × Operand)} {pl : List (Nat × Nat)} {qs : List (Nat × Nat × Opd)}
    (hρ : ∀ (x : Operand) (x' : Opd), cOpd x = some x' → Rep w X ι n (ρ' x') (ρ x)) (ht : ti P t = some i) (hd : i.d = .struct fs)
    (hpl : fs.toList.mapM (fun f => (ti P f.type).map fun j => (f.offset, j.size)) = some pl) (hq : cParts (fun k => pl[k]?) ps.toList = some qs)
    {v : V} (h : ev ρ' σ n lk (.build i.zero.cells qs) = some (v, σ', n')) :
    Good w X ι σ n lk (((do pure (.value (← Instr.build t (ps.map fun (i, x) => (i, ρ x)))) : Sem Next)).run P w) v σ' n' := by
  simp only [ev, Option.map_eq_some_iff, Prod.mk.injEq] at h
  obtain ⟨cs, hcs, rfl, rfl, rfl⟩ := h
  obtain ⟨z, hz, hv⟩ := run_zeroValue (w := w) ht
  obtain ⟨hlz, hrz⟩ := cells_of_rep (ofValA_rep (w := w) (X := X) (ι := ι) (n := n) hv)
  obtain ⟨q1, q2⟩ := cParts_spec hq hρ
  obtain ⟨out, ho, h1, h2⟩ := fill_get (ρ' := ρ') (fun k => pl[k]?) (ps.toList.map fun (i, x) => (i, ρ x)) z.cells qs _ cs (by simp [q1]) hlz hrz q2 hcs
  have hpla := run_places (w := w) _ _ hpl
  refine good_pure hw (u := .agg out) ?_ (.agg _ _ h1 h2)
  have hm : (fs.mapM fun f => do pure (f.offset, ← sizeOf f.type) : Sem (Array (Nat × Nat))).run P w = .ok pl.toArray w := by
    rw [Array.mapM_eq_mapM_toList]
    simp only [Sem.run_map, hpla, Result.andThen_ok]
  simp only [Instr.build, Sem.run_bind, hz, Result.andThen_ok, run_underlying (ti_spec ht).1, hd, hm]
  have : (ps.map fun x => match x with | (i, x) => (i, ρ x)).toList = ps.toList.map fun (i, x) => (i, ρ x) := by simp
  simp only [this, List.getElem?_toArray, ho, Sem.run_pure, Result.andThen_ok]

theorem ev_build_array (hw : WF w X ι σ n) {t e : TypeId} {i j : TI} {m : Nat} {ps : Array (Nat × Operand)} {qs : List (Nat × Nat × Opd)}
    (hρ : ∀ (x : Operand) (x' : Opd), cOpd x = some x' → Rep w X ι n (ρ' x') (ρ x)) (ht : ti P t = some i) (hd : i.d = .array m e) (hj : ti P e = some j)
    (hq : cParts (fun k => some (k * j.size, j.size)) ps.toList = some qs)
    {v : V} (h : ev ρ' σ n lk (.build i.zero.cells qs) = some (v, σ', n')) :
    Good w X ι σ n lk (((do pure (.value (← Instr.build t (ps.map fun (i, x) => (i, ρ x)))) : Sem Next)).run P w) v σ' n' := by
  simp only [ev, Option.map_eq_some_iff, Prod.mk.injEq] at h
  obtain ⟨cs, hcs, rfl, rfl, rfl⟩ := h
  obtain ⟨z, hz, hv⟩ := run_zeroValue (w := w) ht
  obtain ⟨hlz, hrz⟩ := cells_of_rep (ofValA_rep (w := w) (X := X) (ι := ι) (n := n) hv)
  obtain ⟨q1, q2⟩ := cParts_spec hq hρ
  obtain ⟨out, ho, h1, h2⟩ := fill_get (ρ' := ρ') (fun k => some (k * j.size, j.size)) (ps.toList.map fun (i, x) => (i, ρ x)) z.cells qs _ cs (by simp [q1]) hlz hrz q2 hcs
  refine good_pure hw (u := .agg out) ?_ (.agg _ _ h1 h2)
  have : (ps.map fun x => match x with | (i, x) => (i, ρ x)).toList = ps.toList.map fun (i, x) => (i, ρ x) := by simp
  simp only [Instr.build, Sem.run_bind, hz, Result.andThen_ok, run_underlying (ti_spec ht).1, hd, run_sizeOf hj, this, ho, Sem.run_pure]

end
end Go.Q
