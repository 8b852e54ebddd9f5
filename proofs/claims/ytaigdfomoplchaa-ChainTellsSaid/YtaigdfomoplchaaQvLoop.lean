/- Records of loops over functions in memory. -/
import Derived.Test.YtaigdfomoplchaaQvMem
import Derived.RangeFuncRecord
set_option linter.unusedSimpArgs false
set_option linter.unusedVariables false
set_option linter.unusedSectionVars false
namespace Go.Q
variable [Link]

section
variable {w w' : World} {X X' : Nat → Prop} {ι ι' : Nat → Nat} {σ σ' : Sto} {n n' lk : Nat}

/-- A block without cells is rewritten: cells stay. -/
theorem cell_put {b0 : Nat} {o o0 : Obj} (h0 : w.heap[b0]? = some o0) (hc : ∀ c t f, o0 ≠ .cells c t f) {b k : Nat} {u : Value} (h : w.cell? ⟨b, k, none⟩ = some u)
    (hv : ∀ c t, o0 ≠ .pending c t) : (w.putObj b0 o).cell? ⟨b, k, none⟩ = some u := by
  have hb : b ≠ b0 := by
    rintro rfl
    simp only [World.cell?, h0] at h
    cases o0 <;> simp_all
  simp only [World.cell?, World.putObj_heap_other hb] at *
  exact h

theorem Rep.put {b0 : Nat} {o o0 : Obj} (h0 : w.heap[b0]? = some o0) (hc : ∀ c t f, o0 ≠ .cells c t f) (hv : ∀ c t, o0 ≠ .pending c t) {v : V} {u : Value} (h : Rep w X ι n v u) :
    Rep (w.putObj b0 o) X ι n v u := by
  induction h with
  | int k m => exact .int k m
  | bool b => exact .bool b
  | str s => exact .str s
  | nilS => exact .nilS
  | sl sz xs b o' c u hc' hX hb hs hm hr ih =>
    exact .sl sz xs b o' c u hc' hX (by simpa using hb) hs (fun i x j e hx he => cell_put h0 hc (hm i x j e hx he) hv) ih
  | slE sz c a => exact .slE sz c a
  | ref id off len sz c o' cells ty fz hid hc' ho hm hz =>
    have hb : ι id ≠ b0 := by
      intro e; rw [e, h0] at hm; cases hm; exact hc _ _ _ rfl
    exact .ref id off len sz c o' cells ty fz hid hc' ho (by rw [World.putObj_heap_other hb]; exact hm) hz
  | agg cs us hl hr ih => exact .agg cs us hl ih
  | tup cs us hl hr ih => exact .tup cs us hl ih
  | nilP => exact .nilP
  | ptr id sz i j hid hb => exact .ptr id sz i j hid (by simpa using hb)
  | box cs b o' u hX hb h1' hm hr ih => exact .box cs b o' u hX (by simpa using hb) h1' (fun j e he => cell_put h0 hc (hm j e he) hv) ih
  | fn f cs us hl hr ih => exact .fn f cs us hl ih
  | yld l hid hb => exact .yld l hid (by simpa using hb)
  | nilF => exact .nilF
  | iface t x u hr ih => exact .iface t x u ih
  | nilI => exact .nilI
  | undef => exact .undef

/-- A block that no object of the store stands in is rewritten. -/
theorem put_dead (hw : WF w X ι σ n) {b0 : Nat} {o o0 : Obj} (h0 : w.heap[b0]? = some o0) (hc : ∀ c t f, o0 ≠ .cells c t f) (hv : ∀ c t, o0 ≠ .pending c t)
    (hd : ∀ id, σ id ≠ none → ι id ≠ b0) : WF (w.putObj b0 o) X ι σ n where
  row := fun id sz xs h => by
    obtain ⟨cells, ty, u, a1, a2, a3, a4, a5⟩ := hw.row id sz xs h
    exact ⟨cells, ty, u, by rw [World.putObj_heap_other (hd id (by rw [h]; simp))]; exact a1, a2, a3, a4, fun i x j e hx he => (a5 i x j e hx he).put h0 hc hv⟩
  loop := fun l env ps a b st pend h => by
    obtain ⟨r, a1, a2⟩ := hw.loop l env ps a b st pend h
    exact ⟨r, by rw [World.putObj_heap_other (hd l (by rw [h]; simp))]; exact a1, a2.hst, a2.hpend, a2.hpn, a2.hps, a2.code, fun t => (a2.rep t).put h0 hc hv⟩
  own := hw.own
  inj := hw.inj
  dom := hw.dom
  xlt := fun b h => by simpa using hw.xlt b h

/-- A record is rewritten. -/
theorem put_loop (hw : WF w X ι σ n) {l : Nat} {r r' : Loop} {o : Ob} (h : σ l = some o) (h0 : w.heap[ι l]? = some (.loop r)) (hl : lk ≤ l)
    {env : Nat → V} {ps : List Nat} {a b : AC} {st : LSt} {pend : Option Ex} (hr : LoopRep w X ι n r' env ps a b st pend) :
    WF (w.putObj (ι l) (.loop r')) X ι (upd σ l (some (.loop env ps a b st pend))) n ∧
      Ext w (w.putObj (ι l) (.loop r')) X X ι ι σ (upd σ l (some (.loop env ps a b st pend))) n n lk := by
  have hlt := (Array.getElem?_eq_some_iff.1 h0).1
  have hc : ∀ c t f, Obj.loop r ≠ .cells c t f := fun _ _ _ h => by cases h
  have hv : ∀ c t, Obj.loop r ≠ .pending c t := fun _ _ h => by cases h
  have hne : ∀ id, σ id ≠ none → id ≠ l → ι id ≠ ι l := fun id h1 h2 e => h2 (hw.inj id l h1 (by rw [h]; simp) e)
  have key : ∀ id, upd σ l (some (.loop env ps a b st pend)) id ≠ none → σ id ≠ none := fun id hh => by
    by_cases e : id = l
    · rw [e, h]; simp
    · simpa [upd, e] using hh
  constructor
  · constructor
    · intro id sz xs hh
      by_cases e : id = l
      · subst e; simp [upd] at hh
      · simp only [upd, e, if_false] at hh
        obtain ⟨cells, ty, u, a1, a2, a3, a4, a5⟩ := hw.row id sz xs hh
        exact ⟨cells, ty, u, by rw [World.putObj_heap_other (hne id (by rw [hh]; simp) e)]; exact a1, a2, a3, a4, fun i x j e hx he => (a5 i x j e hx he).put h0 hc hv⟩
    · intro id env' ps' a' b' st' pend' hh
      by_cases e : id = l
      · subst e
        simp only [upd, if_true, Option.some.injEq, Ob.loop.injEq] at hh
        obtain ⟨rfl, rfl, rfl, rfl, rfl, rfl⟩ := hh
        exact ⟨r', World.putObj_heap_same hlt, hr.hst, hr.hpend, hr.hpn, hr.hps, hr.code, fun t => (hr.rep t).put h0 hc hv⟩
      · simp only [upd, e, if_false] at hh
        obtain ⟨q, a1, a2⟩ := hw.loop id _ _ _ _ _ _ hh
        exact ⟨q, by rw [World.putObj_heap_other (hne id (by rw [hh]; simp) e)]; exact a1, a2.hst, a2.hpend, a2.hpn, a2.hps, a2.code, fun t => (a2.rep t).put h0 hc hv⟩
    · exact fun id hh => hw.own id (key id hh)
    · exact fun i j h1 h2 => hw.inj i j (key i h1) (key j h2)
    · exact fun id hh => hw.dom id (key id hh)
    · exact fun b hb => by simpa using hw.xlt b hb
  · exact {
      hn := Nat.le_refl _, os := rfl, tape := rfl, output := rfl, size := by simp
      heap := fun b _ ho => World.putObj_heap_other (fun e => ho ⟨l, hl, by rw [h]; simp, e.symm⟩)
      cells := fun b c t f hb => by
        have hb' : b ≠ ι l := by rintro rfl; rw [h0] at hb; cases hb
        exact ⟨c, by rw [World.putObj_heap_other hb']; exact hb, rfl⟩
      loops := fun b q hb => by
        by_cases e : b = ι l
        · exact ⟨r', by rw [e]; exact World.putObj_heap_same hlt⟩
        · exact ⟨q, by rw [World.putObj_heap_other e]; exact hb⟩
      hι := fun _ _ => rfl, xnew := fun _ _ h => h, xold := fun _ h _ => h, xlt := hw.xlt
      own := fun id h1 h2 _ => ⟨id, h1, key id h2, rfl⟩
      lock := fun id h1 => by simp [upd]; omega }

/-- A loop is over: its record falls out. -/
theorem end_loop (hw : WF w X ι σ n) {l : Nat} {r r' : Loop} (h : σ l ≠ none) (h0 : w.heap[ι l]? = some (.loop r)) (hl : lk ≤ l) :
    WF (w.putObj (ι l) (.loop r')) X ι (upd σ l none) n ∧ Ext w (w.putObj (ι l) (.loop r')) X X ι ι σ (upd σ l none) n n lk := by
  have hc : ∀ c t f, Obj.loop r ≠ .cells c t f := fun _ _ _ h => by cases h
  have hv : ∀ c t, Obj.loop r ≠ .pending c t := fun _ _ h => by cases h
  obtain ⟨d1, d2⟩ := drop_obj hw l hl
  have key : ∀ id, upd σ l none id ≠ none → σ id ≠ none ∧ id ≠ l := fun id hh => by
    by_cases e : id = l
    · simp [upd, e] at hh
    · exact ⟨by simpa [upd, e] using hh, e⟩
  refine ⟨put_dead d1 h0 hc hv (fun id hh e => (key id hh).2 (hw.inj id l (key id hh).1 h e)), ?_⟩
  exact {
    hn := Nat.le_refl _, os := rfl, tape := rfl, output := rfl, size := by simp
    heap := fun b _ ho => World.putObj_heap_other (fun e => ho ⟨l, hl, h, e.symm⟩)
    cells := fun b c t f hb => by
      have hb' : b ≠ ι l := by rintro rfl; rw [h0] at hb; cases hb
      exact ⟨c, by rw [World.putObj_heap_other hb']; exact hb, rfl⟩
    loops := fun b q hb => by
      by_cases e : b = ι l
      · exact ⟨r', by rw [e]; exact World.putObj_heap_same (Array.getElem?_eq_some_iff.1 h0).1⟩
      · exact ⟨q, by rw [World.putObj_heap_other e]; exact hb⟩
    hι := fun _ _ => rfl, xnew := fun _ _ h => h, xold := fun _ h _ => h, xlt := hw.xlt
    own := fun id h1 h2 _ => ⟨id, h1, (key id h2).1, rfl⟩
    lock := fun id h1 => by simp [upd]; omega }

/-- A block is laid that the store does not speak of. -/
theorem lay_block (hw : WF w X ι σ n) (o : Obj) : WF (w.alloc o) X ι σ n ∧ Ext w (w.alloc o) X X ι ι σ σ n n lk := by
  refine ⟨hw.move (by simp) (fun b hb => Go.RowKit.Below.heap_alloc _ _ _ hb) (fun _ _ => rfl) (fun _ _ => Iff.rfl) (Nat.le_refl _) (fun b h => by have := hw.xlt b h; simp; omega), ?_⟩
  exact {
    hn := Nat.le_refl _, os := rfl, tape := rfl, output := rfl, size := by simp
    heap := fun b hb _ => Go.RowKit.Below.heap_alloc _ _ _ hb
    cells := fun b c t f h => ⟨c, by rw [Go.RowKit.Below.heap_alloc _ _ _ (Array.getElem?_eq_some_iff.1 h).1]; exact h, rfl⟩
    loops := fun b r h => ⟨r, by rw [Go.RowKit.Below.heap_alloc _ _ _ (Array.getElem?_eq_some_iff.1 h).1]; exact h⟩
    hι := fun _ _ => rfl, xnew := fun _ _ h => h, xold := fun _ h _ => h, xlt := hw.xlt
    own := fun id h1 h2 _ => ⟨id, h1, h2, rfl⟩
    lock := fun _ _ => rfl }

/-- A record is laid. -/
theorem new_loop (hw : WF w X ι σ n) (hl : lk ≤ n) {r : Loop} {env : Nat → V} {ps : List Nat} {a b : AC} {st : LSt} {pend : Option Ex} (hr : LoopRep w X ι n r env ps a b st pend) :
    WF (w.alloc (.loop r)) (addX X w.heap.size) (setι ι n w.heap.size) (upd σ n (some (.loop env ps a b st pend))) (n + 1) ∧
      Ext w (w.alloc (.loop r)) X (addX X w.heap.size) ι (setι ι n w.heap.size) σ (upd σ n (some (.loop env ps a b st pend))) n (n + 1) lk := by
  have hm1 : WF (w.alloc (.loop r)) (addX X w.heap.size) (setι ι n w.heap.size) σ (n + 1) :=
    hw.move (by simp) (fun b hb => Go.RowKit.Below.heap_alloc _ _ _ hb) (fun id h => by simp [setι]; omega)
      (fun b hb => ⟨fun h => by rcases h with h | h; exact h; omega, fun h => .inl h⟩) (by omega)
      (fun b h => by rcases h with h | h; have := hw.xlt b h; simp; omega; simp; omega)
  have hn : σ n = none := by
    cases h : σ n with
    | none => rfl
    | some o => have := hw.dom n (by rw [h]; simp); omega
  have hlt : ∀ i, σ i ≠ none → setι ι n w.heap.size i < w.heap.size := fun i hi => by
    have := hw.dom i hi
    have h2 := hw.xlt _ (hw.own i hi)
    simp [setι]; split <;> omega
  constructor
  · constructor
    · intro id sz xs h
      by_cases e : id = n
      · subst e; simp [upd] at h
      · simp only [upd, e, if_false] at h; exact hm1.row id sz xs h
    · intro l env' ps' a' b' st' pend' h
      by_cases e : l = n
      · subst e
        simp only [upd, if_true, Option.some.injEq, Ob.loop.injEq] at h
        obtain ⟨rfl, rfl, rfl, rfl, rfl, rfl⟩ := h
        refine ⟨r, by simpa [setι] using World.alloc_heap_new w (.loop r), ?_⟩
        exact hr.move (by simp) (fun b hb _ => Go.RowKit.Below.heap_alloc _ _ _ hb)
          (fun b c t f hh => ⟨c, by rw [Go.RowKit.Below.heap_alloc _ _ _ (Array.getElem?_eq_some_iff.1 hh).1]; exact hh, rfl⟩)
          (fun id h => by simp [setι]; omega) (fun b hb h => by rcases h with h | h; exact h; omega) (by omega)
      · simp only [upd, e, if_false] at h
        exact hm1.loop l _ _ _ _ _ _ h
    · intro id h
      by_cases e : id = n
      · subst e; right; simp [setι]
      · simp only [upd, e, if_false] at h; exact hm1.own id h
    · intro id id' h h' he
      by_cases e : id = n <;> by_cases e' : id' = n
      · omega
      · simp only [upd, e', if_false] at h'
        have := hlt id' h'
        rw [← he, e] at this; simp [setι] at this
      · simp only [upd, e, if_false] at h
        have := hlt id h
        rw [he, e'] at this; simp [setι] at this
      · simp only [upd, e, e', if_false] at h h'
        exact hm1.inj id id' h h' he
    · intro id h
      by_cases e : id = n
      · omega
      · simp only [upd, e, if_false] at h; exact hm1.dom id h
    · exact hm1.xlt
  · exact {
      hn := by omega, os := rfl, tape := rfl, output := rfl, size := by simp
      heap := fun b hb _ => Go.RowKit.Below.heap_alloc _ _ _ hb
      cells := fun b c t f h => ⟨c, by rw [Go.RowKit.Below.heap_alloc _ _ _ (Array.getElem?_eq_some_iff.1 h).1]; exact h, rfl⟩
      loops := fun b r h => ⟨r, by rw [Go.RowKit.Below.heap_alloc _ _ _ (Array.getElem?_eq_some_iff.1 h).1]; exact h⟩
      hι := fun id h => by simp [setι]; omega
      xnew := fun b hb h => by rcases h with h | h; exact h; omega
      xold := fun b h _ => .inl h
      xlt := hw.xlt
      own := fun id hl' h hb => by
        by_cases e : id = n
        · simp [setι, e] at hb
        · simp only [setι, upd, e, if_false] at *
          exact ⟨id, hl', h, rfl⟩
      lock := fun id h => by simp [upd]; omega }

end
end Go.Q
