/- The machine's own reads and writes of rows of cells, run. -/
import Derived.Test.YtaigdfomoplchaaQvRep
set_option linter.unusedSimpArgs false
set_option linter.unusedVariables false
set_option linter.unusedSectionVars false
namespace Go.Q
variable [Link]

theorem add_none (b o i : Nat) : (⟨b, o, none⟩ : Addr).add i = ⟨b, o + i, none⟩ := by
  unfold Addr.add
  split
  · rename_i h; subst h; rfl
  · rfl

section
variable {P : Program} {w : World}

theorem run_load_cell {a : Addr} {u : Value} (h : w.cell? a = some u) : (load a).run P w = .ok u w := by
  rw [run_load, h]

theorem run_loadFrom (b o : Nat) : ∀ (us : List Value) (i : Nat) (acc : Array Value), (∀ (j : Nat) (u : Value), us[j]? = some u → w.cell? ⟨b, o + (i + j), none⟩ = some u) →
    (loadCellsFrom ⟨b, o, none⟩ i us.length acc).run P w = .ok (acc ++ us.toArray) w
  | [], i, acc, _ => by simp [loadCellsFrom]
  | u :: us, i, acc, h => by
    have h0 := h 0 u rfl
    have ih := run_loadFrom b o us (i + 1) (acc.push u) (fun j v hj => by have := h (j + 1) v (by simpa using hj); rwa [show i + (j + 1) = i + 1 + j by omega] at this)
    simp only [List.length_cons, loadCellsFrom, Sem.run_bind, add_none]
    rw [run_load_cell (by simpa using h0)]
    simp only [Result.andThen_ok]
    rw [ih]
    simp

theorem run_loadCells (b o : Nat) (us : List Value) (h : ∀ (j : Nat) (u : Value), us[j]? = some u → w.cell? ⟨b, o + j, none⟩ = some u) :
    (loadCells ⟨b, o, none⟩ us.length).run P w = .ok us.toArray w := by
  have := run_loadFrom (P := P) (w := w) b o us 0 #[] (fun j u hj => by simpa using h j u hj)
  simpa [loadCells] using this

/-- A row of cells over a row of cells. -/
def writeAt (cs : Array Value) (o : Nat) : List Value → Array Value
  | [] => cs
  | v :: vs => writeAt (cs.setIfInBounds o v) (o + 1) vs

@[simp] theorem writeAt_size (vs : List Value) : ∀ (cs : Array Value) (o : Nat), (writeAt cs o vs).size = cs.size := by
  induction vs with
  | nil => intro cs o; rfl
  | cons v vs ih => intro cs o; simp [writeAt, ih]

theorem writeAt_get (vs : List Value) : ∀ (cs : Array Value) (o k : Nat), o + vs.length ≤ cs.size →
    (writeAt cs o vs)[k]? = if o ≤ k ∧ k < o + vs.length then vs[k - o]? else cs[k]? := by
  induction vs with
  | nil => intro cs o k h; simp [writeAt]; intro h1 h2; omega
  | cons v vs ih =>
    intro cs o k h
    simp only [List.length_cons] at h
    rw [writeAt, ih _ _ _ (by simp; omega)]
    by_cases h1 : k = o
    · subst h1
      rw [if_neg (by omega), if_pos (by simp)]
      simp [Array.getElem?_setIfInBounds]; omega
    · by_cases h2 : o + 1 ≤ k ∧ k < o + 1 + vs.length
      · rw [if_pos h2, if_pos (by simp; omega)]
        rw [show k - o = (k - (o + 1)) + 1 by omega]; simp
      · rw [if_neg h2, if_neg (by simp; omega), Array.getElem?_setIfInBounds_ne (by omega)]

def putRow (w : World) (b : Nat) (cs : Array Value) (ty : TypeId) : World := { w with heap := w.heap.setIfInBounds b (.cells cs ty (0, 0)) }

theorem setCell_putRow {b o : Nat} {cs : Array Value} {ty : TypeId} (v : Value) (h : w.heap[b]? = some (.cells cs ty (0, 0))) :
    w.setCell ⟨b, o, none⟩ v = putRow w b (cs.setIfInBounds o v) ty := by
  obtain ⟨hlt, hg⟩ := Array.getElem?_eq_some_iff.1 h
  unfold World.setCell putRow
  congr 1
  apply Array.ext_getElem?
  intro k
  rw [Array.getElem?_modify, Array.getElem?_setIfInBounds]
  by_cases e : b = k
  · subst e; simp [hlt, hg]
  · simp [e]

theorem putRow_heap_same {b : Nat} {cs : Array Value} {ty : TypeId} (h : b < w.heap.size) : (putRow w b cs ty).heap[b]? = some (.cells cs ty (0, 0)) := by
  simp [putRow, h]
theorem putRow_heap_other {b k : Nat} {cs : Array Value} {ty : TypeId} (h : k ≠ b) : (putRow w b cs ty).heap[k]? = w.heap[k]? := by
  simp only [putRow]; rw [Array.getElem?_setIfInBounds_ne (Ne.symm h)]
@[simp] theorem putRow_size {b : Nat} {cs : Array Value} {ty : TypeId} : (putRow w b cs ty).heap.size = w.heap.size := by simp [putRow]
theorem putRow_twice {b : Nat} {cs cs' : Array Value} {ty : TypeId} : putRow (putRow w b cs ty) b cs' ty = putRow w b cs' ty := by
  simp [putRow]
theorem putRow_id {b : Nat} {cs : Array Value} {ty : TypeId} (h : w.heap[b]? = some (.cells cs ty (0, 0))) : putRow w b cs ty = w := by
  have : w.heap.setIfInBounds b (.cells cs ty (0, 0)) = w.heap := by
    apply Array.ext_getElem?
    intro k
    rw [Array.getElem?_setIfInBounds]
    by_cases e : b = k
    · subst e; rw [if_pos rfl, if_pos (Array.getElem?_eq_some_iff.1 h).1, h]
    · simp [e]
  simp [putRow, this]

theorem run_storeFrom (b o : Nat) (ty : TypeId) : ∀ (vs : List Value) (w : World) (i : Nat) (cs : Array Value), w.heap[b]? = some (.cells cs ty (0, 0)) → o + i + vs.length ≤ cs.size →
    vs.all Value.oneCell' = true → (storeCells ⟨b, o, none⟩ vs i).run P w = .ok () (putRow w b (writeAt cs (o + i) vs) ty)
  | [], w, i, cs, h, _, _ => by simp [storeCells, writeAt, putRow_id h]
  | v :: vs, w, i, cs, h, hz, h1 => by
    simp only [List.length_cons] at hz
    simp only [List.all_cons, Bool.and_eq_true] at h1
    have hlt := (Array.getElem?_eq_some_iff.1 h).1
    have hc : w.cell? ⟨b, o + i, none⟩ = some (cs[o + i]'(by omega)) := by
      simp [World.cell?, h]
    have hf : w.frozen? ⟨b, o + i, none⟩ = false := by simp [World.frozen?, h]
    have hp := putRow_heap_same (w := w) (cs := cs.setIfInBounds (o + i) v) (ty := ty) hlt
    have ih := run_storeFrom b o ty vs (putRow w b (cs.setIfInBounds (o + i) v) ty) (i + 1) _ hp (by simp; omega) h1.2
    simp only [storeCells, Sem.run_bind, add_none]
    rw [run_store _ _ _ _ _ h1.1, hc]
    simp only [hf, Bool.false_eq_true, if_false, Result.andThen_ok]
    rw [setCell_putRow v h, ih, putRow_twice, ← Nat.add_assoc]
    rfl

theorem run_storeCells {b o : Nat} {ty : TypeId} {vs : List Value} {cs : Array Value} (h : w.heap[b]? = some (.cells cs ty (0, 0))) (hz : o + vs.length ≤ cs.size)
    (h1 : vs.all Value.oneCell' = true) : (storeCells ⟨b, o, none⟩ vs).run P w = .ok () (putRow w b (writeAt cs o vs) ty) := by
  have := run_storeFrom (P := P) b o ty vs w 0 cs h (by simpa using hz) h1
  simpa using this

end

section
variable {w w' : World} {X : Nat → Prop} {ι : Nat → Nat} {σ : Sto} {n lk : Nat}

/-- A row of the store's is rewritten. -/
theorem set_row (hw : WF w X ι σ n) {id sz : Nat} {xs xs' : List V} {cs cs' : Array Value} {ty : TypeId} (h : σ id = some (.row sz xs)) (hl : lk ≤ id)
    (hc : w.heap[ι id]? = some (.cells cs ty (0, 0))) (hcz : cs'.size = cs.size) (u : Nat → Nat → Value) (hz : xs'.length * sz ≤ cs.size)
    (hs : ∀ (i : Nat) (x : V), xs'[i]? = some x → x.cells.length = sz ∧ x.cells.all V.one = true)
    (hm : ∀ (i : Nat) (x : V) (j : Nat) (e : V), xs'[i]? = some x → x.cells[j]? = some e → cs'[i * sz + j]? = some (u i j))
    (hr : ∀ (i : Nat) (x : V) (j : Nat) (e : V), xs'[i]? = some x → x.cells[j]? = some e → Rep w X ι n e (u i j)) :
    WF (putRow w (ι id) cs' ty) X ι (upd σ id (some (.row sz xs'))) n ∧ Ext w (putRow w (ι id) cs' ty) X X ι ι σ (upd σ id (some (.row sz xs'))) n n lk := by
  have hlt := (Array.getElem?_eq_some_iff.1 hc).1
  have hX := hw.own id (by rw [h]; simp)
  have hcells : ∀ (b : Nat) c t f, w.heap[b]? = some (.cells c t f) → ∃ c', (putRow w (ι id) cs' ty).heap[b]? = some (.cells c' t f) ∧ c'.size = c.size := by
    intro b c t f hb
    by_cases e : b = ι id
    · subst e; rw [hc] at hb; cases hb; exact ⟨cs', putRow_heap_same hlt, hcz⟩
    · exact ⟨c, by rw [putRow_heap_other e]; exact hb, rfl⟩
  have hrep : ∀ {v u}, Rep w X ι n v u → Rep (putRow w (ι id) cs' ty) X ι n v u := fun hh =>
    hh.move (by simp) (fun b _ hx => putRow_heap_other (fun e => hx (e ▸ hX))) hcells (fun _ _ => rfl) (fun _ _ h => h) (Nat.le_refl _)
  constructor
  · constructor
    · intro id' sz' ys hh
      by_cases e : id' = id
      · subst e
        simp only [upd, if_true, Option.some.injEq, Ob.row.injEq] at hh
        obtain ⟨rfl, rfl⟩ := hh
        exact ⟨cs', ty, u, putRow_heap_same hlt, by rw [hcz]; exact hz, hs, hm, fun i x j e hx he => hrep (hr i x j e hx he)⟩
      · simp only [upd, e, if_false] at hh
        obtain ⟨cells, ty', u', a1, a2, a3, a4, a5⟩ := hw.row id' sz' ys hh
        have hne : ι id' ≠ ι id := fun e' => e (hw.inj id' id (by rw [hh]; simp) (by rw [h]; simp) e')
        exact ⟨cells, ty', u', by rw [putRow_heap_other hne]; exact a1, a2, a3, a4, fun i x j e hx he => hrep (a5 i x j e hx he)⟩
    · intro l env ps a b st pend hh
      by_cases e : l = id
      · subst e; simp [upd] at hh
      · simp only [upd, e, if_false] at hh
        obtain ⟨r, a1, a2⟩ := hw.loop l env ps a b st pend hh
        have hne : ι l ≠ ι id := fun e' => e (hw.inj l id (by rw [hh]; simp) (by rw [h]; simp) e')
        exact ⟨r, by rw [putRow_heap_other hne]; exact a1, a2.hst, a2.hpend, a2.hpn, a2.hps, a2.code, fun t => hrep (a2.rep t)⟩
    · intro id' hh
      by_cases e : id' = id
      · subst e; exact hX
      · simp only [upd, e, if_false] at hh; exact hw.own id' hh
    · intro i1 i2 h1 h2 he
      refine hw.inj i1 i2 ?_ ?_ he
      · by_cases e : i1 = id
        · rw [e, h]; simp
        · simpa [upd, e] using h1
      · by_cases e : i2 = id
        · rw [e, h]; simp
        · simpa [upd, e] using h2
    · intro i1 h1
      by_cases e : i1 = id
      · exact hw.dom i1 (by rw [e, h]; simp)
      · exact hw.dom i1 (by simpa [upd, e] using h1)
    · intro b hb; simpa using hw.xlt b hb
  · exact {
      hn := Nat.le_refl _, os := rfl, tape := rfl, output := rfl, size := by simp
      heap := fun b hb ho => putRow_heap_other (fun e => ho ⟨id, hl, by rw [h]; simp, e.symm⟩)
      cells := hcells
      loops := fun b r hb => ⟨r, by rw [putRow_heap_other (fun e => by rw [e, hc] at hb; cases hb)]; exact hb⟩
      hι := fun _ _ => rfl
      xnew := fun _ _ h => h
      xold := fun _ h _ => h
      xlt := hw.xlt
      own := fun i hi hh _ => by
        by_cases e : i = id
        · exact ⟨i, hi, by rw [e, h]; simp, rfl⟩
        · exact ⟨i, hi, by simpa [upd, e] using hh, rfl⟩
      lock := fun i hi => by simp [upd]; omega }

/-- Objects fall out of the store: nobody writes them any more. -/
theorem drop_obj (hw : WF w X ι σ n) (id : Nat) (hl : lk ≤ id) :
    WF w X ι (upd σ id none) n ∧ Ext w w X X ι ι σ (upd σ id none) n n lk := by
  have key : ∀ i, upd σ id none i ≠ none → σ i ≠ none := fun i h => by
    by_cases e : i = id
    · simp [upd, e] at h
    · simpa [upd, e] using h
  constructor
  · exact ⟨fun i sz xs h => hw.row i sz xs (by
      by_cases e : i = id
      · simp [upd, e] at h
      · simpa [upd, e] using h), fun l env ps a b st pend h => hw.loop l env ps a b st pend (by
      by_cases e : l = id
      · simp [upd, e] at h
      · simpa [upd, e] using h), fun i h => hw.own i (key i h), fun i j h h' => hw.inj i j (key i h) (key j h'), fun i h => hw.dom i (key i h), hw.xlt⟩
  · exact { hn := Nat.le_refl _, os := rfl, tape := rfl, output := rfl, size := Nat.le_refl _, heap := fun _ _ _ => rfl, cells := fun b c t f h => ⟨c, h, rfl⟩, loops := fun _ r h => ⟨r, h⟩,
            hι := fun _ _ => rfl, xnew := fun _ _ h => h, xold := fun _ h _ => h, xlt := hw.xlt, own := fun i hi h _ => ⟨i, hi, key i h, rfl⟩,
            lock := fun i hi => by simp [upd]; omega }

theorem one_of_rep {v : V} {u : Value} (h : Rep w X ι n v u) (h1 : v.one = true) : u.oneCell' = true := by
  cases h <;> simp_all [V.one, Value.oneCell']

theorem cells_of_rep {v : V} {u : Value} (h : Rep w X ι n v u) : v.cells.length = u.cells.size ∧ ∀ (j : Nat) (e : V) (x : Value), v.cells[j]? = some e → u.cells[j]? = some x → Rep w X ι n e x := by
  cases h with
  | agg cs us hl hr => exact ⟨hl, hr⟩
  | _ => refine ⟨rfl, fun j e x h1 h2 => ?_⟩ <;> (cases j <;> simp [V.cells, Value.cells] at h1 h2; subst h1; subst h2; constructor <;> assumption)

end
end Go.Q
