/- Each operation, run: rows that are laid, places in rows, parts, numbers. -/
import Derived.Test.YtaigdfomoplchaaQvOpB
import Derived.IntWalk
set_option linter.unusedSimpArgs false
set_option linter.unusedVariables false
set_option linter.unusedSectionVars false
namespace Go.Q
variable [Link]

section
variable {P : Program} {w : World} {X : Nat → Prop} {ι : Nat → Nat} {σ σ' : Sto} {n n' lk : Nat} {ρ : Operand → Value} {ρ' : Opd → V}

theorem cOpds_spec {xs : List Operand} {es : List Opd} (h : cOpds xs = some es) (hρ : ∀ (x : Operand) (x' : Opd), cOpd x = some x' → Rep w X ι n (ρ' x') (ρ x)) :
    es.length = xs.length ∧ ∀ (i : Nat) (e : V) (u : Value), (es.map ρ')[i]? = some e → (xs.map ρ)[i]? = some u → Rep w X ι n e u := by
  obtain ⟨h1, h2⟩ := mapM_get _ _ _ h
  refine ⟨h1.symm, fun i e u he hu => ?_⟩
  simp only [List.getElem?_map, Option.map_eq_some_iff] at he hu
  obtain ⟨x', hx', rfl⟩ := he
  obtain ⟨x, hx, rfl⟩ := hu
  exact hρ _ _ (h2 i _ _ hx hx')

theorem mul_at {i j k m s : Nat} (hj : j < s) (hm : m < s) (h : i * s + j = k * s + m) : i = k ∧ j = m := by
  have h1 : (i * s + j) / s = i := by rw [Nat.mul_comm, Nat.mul_add_div (by omega), Nat.div_eq_of_lt hj]; omega
  have h2 : (k * s + m) / s = k := by rw [Nat.mul_comm, Nat.mul_add_div (by omega), Nat.div_eq_of_lt hm]; omega
  have : i = k := by rw [← h1, h, h2]
  subst this
  exact ⟨rfl, by omega⟩

theorem fill_seq (s : Nat) : ∀ (ps : List (Nat × Value)) (k : Nat) (cells : Array Value), (∀ (i : Nat) (p : Nat × Value), ps[i]? = some p → p.1 = k + i ∧ p.2.cells.size = s) →
    (k + ps.length) * s ≤ cells.size → ∃ out, Instr.fill (fun i => some (i * s, s)) cells ps = some out ∧ out.size = cells.size ∧ (∀ m, m < k * s → out[m]? = cells[m]?) ∧
      ∀ (i j : Nat) (p : Nat × Value), ps[i]? = some p → j < s → out[(k + i) * s + j]? = p.2.cells[j]?
  | [], k, cells, _, _ => ⟨cells, rfl, rfl, fun _ _ => rfl, fun i j p h _ => by simp at h⟩
  | p :: ps, k, cells, hp, hz => by
    obtain ⟨a, v⟩ := p
    obtain ⟨h1, h2⟩ := hp 0 _ rfl
    simp only [Nat.add_zero] at h1 h2
    subst h1
    simp only [List.length_cons] at hz
    have hz' : a * s + s ≤ cells.size := by
      have : (a + 1) * s ≤ (a + (ps.length + 1)) * s := Nat.mul_le_mul_right _ (by omega)
      rw [Nat.add_mul, Nat.one_mul] at this; omega
    have hfold : ∀ (l : List Value) (cs0 : Array Value) (o : Nat), (l.zipIdx o).foldl (fun cs (c, j) => cs.setIfInBounds (a * s + j) c) cs0 = writeAt cs0 (a * s + o) l := by
      intro l
      induction l with
      | nil => intro cs0 o; rfl
      | cons c l ih => intro cs0 o; simp only [List.zipIdx_cons, List.foldl_cons, writeAt]; rw [ih]; rfl
    have hfold' : v.cells.zipIdx.foldl (fun cs (c, j) => cs.setIfInBounds (a * s + j) c) cells = writeAt cells (a * s) v.cells.toList := by
      rw [← Array.foldl_toList]
      have := hfold v.cells.toList cells 0
      simpa using this
    have hvl : v.cells.toList.length = s := by simpa using h2
    obtain ⟨out, ho, b1, b2, b3⟩ := fill_seq s ps (a + 1) (writeAt cells (a * s) v.cells.toList)
      (fun i p hpi => by have := hp (i + 1) p (by simpa using hpi); exact ⟨by omega, this.2⟩) (by simp; rw [show a + 1 + ps.length = a + (ps.length + 1) by omega]; exact hz)
    have hlow : ∀ m, m < a * s + s → out[m]? = (writeAt cells (a * s) v.cells.toList)[m]? := fun m hm => b2 m (by rw [Nat.add_mul, Nat.one_mul]; exact hm)
    refine ⟨out, ?_, by simpa using b1, fun m hm => ?_, fun i j p hpi hj => ?_⟩
    · simp only [Instr.fill]
      rw [if_neg (by simp; omega), hfold']; exact ho
    · rw [hlow m (by omega), writeAt_get _ _ _ _ (by omega), if_neg (by omega)]
    · cases i with
      | zero =>
        simp at hpi; subst hpi
        rw [Nat.add_zero, hlow _ (by omega), writeAt_get _ _ _ _ (by omega), if_pos (by omega), show a * s + j - a * s = j by omega]
        simp
      | succ i =>
        rw [show a + (i + 1) = a + 1 + i by omega]
        exact b3 i j p (by simpa using hpi) hj

theorem flat_spec {i : TI} (h : i.flat = true) : i.zero.cells.length = i.size ∧ i.zero.cells.all V.one = true ∧ i.size ≠ 0 ∧ i.bytes ≠ 0 := by
  simp only [TI.flat, Bool.and_eq_true, decide_eq_true_eq] at h
  exact ⟨h.1.1.1.1, h.1.1.1.2, by simpa using h.1.1.2, by simpa using h.1.2⟩

theorem flat_bytes {i : TI} (h : i.flat = true) : i.bytes ≤ 1000000 := by
  simp only [TI.flat, Bool.and_eq_true, decide_eq_true_eq] at h
  exact h.2

/-- A new row. -/
theorem good_row (hw : WF w X ι σ n) (hl : lk ≤ n) {sz : Nat} {xs : List V} {cells : Array Value} {ty : TypeId} (d : Nat) (u : Nat → Nat → Value) {r : Result Next} {c : Nat}
    (hr : r = .ok (.value (.slice (some ⟨w.heap.size, 0, none⟩) xs.length c)) ({ w with drawn := d }.alloc (.cells cells ty)))
    (hc : xs.length ≤ c) (hz : c * sz ≤ cells.size)
    (hs : ∀ (i : Nat) (x : V), xs[i]? = some x → x.cells.length = sz ∧ x.cells.all V.one = true)
    (hm : ∀ (i : Nat) (x : V) (j : Nat) (e : V), xs[i]? = some x → x.cells[j]? = some e → cells[i * sz + j]? = some (u i j))
    (hrep : ∀ (i : Nat) (x : V) (j : Nat) (e : V), xs[i]? = some x → x.cells[j]? = some e → Rep w X ι n e (u i j)) :
    Good w X ι σ n lk r (.ref n 0 xs.length sz) (upd σ n (some (.row sz xs))) (n + 1) := by
  have hw' : WF { w with drawn := d } X ι σ n := hw.move (Nat.le_refl _) (fun _ _ => rfl) (fun _ _ => rfl) (fun _ _ => Iff.rfl) (Nat.le_refl _) hw.xlt
  have hrep' : ∀ (i : Nat) (x : V) (j : Nat) (e : V), xs[i]? = some x → x.cells[j]? = some e → Rep { w with drawn := d } X ι n e (u i j) := fun i x j e h1 h2 =>
    (hrep i x j e h1 h2).ext (lk := lk) hw (Ext.draw hw.xlt d)
  refine ⟨_, addX X w.heap.size, setι ι n w.heap.size, _, .inl hr, ?_, new_row hw' u ?_ hs hm hrep', (Ext.draw hw.xlt d).trans (Ext.new hw' hl cells ty _)⟩
  · have hnew : (({ w with drawn := d } : World).alloc (.cells cells ty)).heap[w.heap.size]? = some (.cells cells ty (0, 0)) := by
      show (w.heap.push _)[w.heap.size]? = _
      simp
    have := Rep.ref (w := ({ w with drawn := d } : World).alloc (.cells cells ty)) (X := addX X w.heap.size) (ι := setι ι n w.heap.size) (n := n + 1) n 0 xs.length sz c 0 cells ty (0, 0)
      (by omega) hc (.inr (by simp)) (by simpa [setι] using hnew) (.inr (by simpa using hz))
    simpa [setι] using this
  · exact Nat.le_trans (Nat.mul_le_mul_right _ hc) hz

theorem ev_lit (hw : WF w X ι σ n) (hl : lk ≤ n) {t e : TypeId} {j : TI} {len : Nat} {ps : Array (Nat × Operand)} {es : List Opd}
    (hρ : ∀ (x : Operand) (x' : Opd), cOpd x = some x' → Rep w X ι n (ρ' x') (ρ x)) (ht : P.underlying t = some (.slice e)) (hj : ti P e = some j)
    (hes : cOpds (ps.toList.map (·.2)) = some es) (hflat : j.flat = true) (hidx : ps.toList.map (·.1) = List.range len) (hlim : len * j.size ≤ 16777216)
    {v : V} (h : ev ρ' σ n lk (.lit j.size es) = some (v, σ', n')) :
    Good w X ι σ n lk (((do pure (.value (← Instr.buildSlice t len (ps.map fun (i, x) => (i, ρ x)))) : Sem Next)).run P w) v σ' n' := by
  simp only [ev] at h
  split at h
  · rename_i hall
    simp only [Option.some.injEq, Prod.mk.injEq] at h
    obtain ⟨rfl, rfl, rfl⟩ := h
    obtain ⟨f1, f2, f3, f4⟩ := flat_spec hflat
    obtain ⟨e1, e2⟩ := cOpds_spec hes hρ
    have hlen : ps.toList.length = len := by have := congrArg List.length hidx; simpa using this
    have helen : es.length = len := by rw [e1]; simpa using hlen
    rw [List.all_eq_true] at hall
    have hall' : ∀ (i : Nat) (x : V), (es.map ρ')[i]? = some x → x.cells.length = j.size ∧ x.cells.all V.one = true := by
      intro i x hx
      simp only [List.getElem?_map, Option.map_eq_some_iff] at hx
      obtain ⟨y, hy, rfl⟩ := hx
      have := hall y (List.mem_of_getElem? hy)
      simpa using this
    obtain ⟨z, hz, hv⟩ := run_zeroValue (w := w) hj
    obtain ⟨hlz, hrz⟩ := cells_of_rep (ofValA_rep (w := w) (X := X) (ι := ι) (n := n) hv)
    let ps' : List (Nat × Value) := ps.toList.map fun (i, x) => (i, ρ x)
    have hps' : ∀ (i : Nat) (p : Nat × Value), ps'[i]? = some p → p.1 = i ∧ (((ps.toList.map (·.2)).map ρ)[i]? = some p.2) := by
      intro i p hp
      simp only [ps', List.getElem?_map, Option.map_eq_some_iff] at hp
      obtain ⟨⟨a, x⟩, hx, rfl⟩ := hp
      have h1 : (ps.toList.map (·.1))[i]? = some a := by simp [hx]
      rw [hidx] at h1
      have := List.getElem?_eq_some_iff.1 h1
      obtain ⟨hlt, ha⟩ := this
      simp at ha
      exact ⟨ha.symm, by simp [hx]⟩
    have hps : ∀ (i : Nat) (p : Nat × Value), ps'[i]? = some p → p.1 = 0 + i ∧ p.2.cells.size = j.size := by
      intro i p hp
      obtain ⟨p1, p2⟩ := hps' i p hp
      have hlt : i < es.length := by
        have := (List.getElem?_eq_some_iff.1 hp).1
        simp only [ps', List.length_map] at this
        omega
      have hx : (es.map ρ')[i]? = some (ρ' es[i]) := by simp [hlt]
      have hr := e2 i _ _ hx p2
      have := (cells_of_rep hr).1
      rw [(hall' i _ hx).1] at this
      exact ⟨by omega, this.symm⟩
    obtain ⟨out, ho, b1, b2, b3⟩ := fill_seq j.size ps' 0 ((Array.range (len * j.size)).map (z.cells[· % z.cells.size]!)) hps (by simp [ps']; simp at hlen; rw [hlen]; exact Nat.le_refl _)
    have hpl : ps'.length = len := by simpa [ps'] using hlen
    refine good_row hw hl (c := es.length) (xs := es.map ρ') (cells := out) (ty := e) w.drawn (fun i q => ((out[i * j.size + q]?).getD undef)) ?_ (by simp) ?_ hall' ?_ ?_ |> fun g => by simpa using g
    · have hne : ¬ (len * j.size > 2 ^ 24) := by simp; omega
      have : (ps.map fun x => match x with | (i, x) => (i, ρ x)).toList = ps' := by simp [ps']
      have hl' : (es.map ρ').length = len := by simpa using helen
      simp only [Instr.buildSlice, Sem.run_bind, run_underlying ht, Result.andThen_ok, run_sizeOf hj]
      rw [if_neg hne, this, hl', helen]
      by_cases h0 : len * j.size = 0
      · have hmap : (Array.map (fun i => (#[] : Array Value)[i % (#[] : Array Value).size]!) (Array.range (len * j.size))) = (Array.range (len * j.size)).map (z.cells[· % z.cells.size]!) := by
          simp [h0]
        simp only [if_pos h0, Sem.run_pure, Sem.run_bind, Result.andThen_ok, hmap, ho, newRow, run_newObj]
        rfl
      · simp only [if_neg h0, Sem.run_pure, Sem.run_bind, Result.andThen_ok, hz, ho, newRow, run_newObj]
        rfl
    · simp only [List.length_map] at *
      rw [b1]; simp [helen]
    · intro i x q c hx hq
      have hlt : i < es.length := by have := (List.getElem?_eq_some_iff.1 hx).1; simpa using this
      have hqs : q < j.size := by have := (List.getElem?_eq_some_iff.1 hq).1; have := (hall' i x hx).1; omega
      have : i * j.size + q < out.size := by
        rw [b1]; simp
        have : (i + 1) * j.size ≤ len * j.size := Nat.mul_le_mul_right _ (by omega)
        rw [Nat.add_mul, Nat.one_mul] at this; omega
      simp [this]
    · intro i x q c hx hq
      have hlt : i < es.length := by have := (List.getElem?_eq_some_iff.1 hx).1; simpa using this
      have hqs : q < j.size := by have := (List.getElem?_eq_some_iff.1 hq).1; have := (hall' i x hx).1; omega
      obtain ⟨p, hp⟩ : ∃ p, ps'[i]? = some p := ⟨ps'[i], List.getElem?_eq_getElem (by omega)⟩
      have hb := b3 i q p hp hqs
      rw [Nat.zero_add] at hb
      have hr := e2 i x p.2 hx (hps' i p hp).2
      obtain ⟨c1, c2⟩ := cells_of_rep hr
      have hq2 : q < p.2.cells.size := by have := (List.getElem?_eq_some_iff.1 hq).1; omega
      rw [hb]
      exact c2 q c _ hq (by simp [hq2])
  · cases h

end
end Go.Q
