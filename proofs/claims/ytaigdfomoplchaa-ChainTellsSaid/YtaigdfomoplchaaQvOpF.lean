/- Append, run. -/
import Derived.Test.YtaigdfomoplchaaQvOpE
set_option linter.unusedSimpArgs false
set_option linter.unusedVariables false
set_option linter.unusedSectionVars false
namespace Go.Q
variable [Link]

section
variable {P : Program} {w : World} {X : Nat → Prop} {ι : Nat → Nat} {σ σ' : Sto} {n n' lk : Nat} {ρ : Operand → Value} {ρ' : Opd → V}

theorem Rep.undraw {d : Nat} {v : V} {u : Value} (h : Rep { w with drawn := d } X ι n v u) : Rep w X ι n v u :=
  Rep.move (w := { w with drawn := d }) (w' := w) (X := X) (X' := X) (ι := ι) (ι' := ι) (n := n) (n' := n) (Nat.le_refl _) (fun _ _ _ => rfl) (fun b c t f h => ⟨c, h, rfl⟩) (fun _ _ => rfl) (fun _ _ h => h) (Nat.le_refl _) h

/-- The cells of a row, one behind the other. -/
def flatU (sz m : Nat) (u : Nat → Nat → Value) : List Value := (List.range (m * sz)).map fun k => u (k / sz) (k % sz)

theorem flatU_len (sz m : Nat) (u : Nat → Nat → Value) : (flatU sz m u).length = m * sz := by simp [flatU]

theorem flatU_at {sz m : Nat} {u : Nat → Nat → Value} {i j : Nat} (hi : i < m) (hj : j < sz) : (flatU sz m u)[i * sz + j]? = some (u i j) := by
  have hlt : i * sz + j < m * sz := by
    have : (i + 1) * sz ≤ m * sz := Nat.mul_le_mul_right _ hi
    rw [Nat.add_mul, Nat.one_mul] at this; omega
  have h1 : (i * sz + j) / sz = i := by rw [Nat.mul_comm, Nat.mul_add_div (by omega), Nat.div_eq_of_lt hj]; omega
  have h2 : (i * sz + j) % sz = j := by rw [Nat.mul_comm, Nat.mul_add_mod, Nat.mod_eq_of_lt hj]
  simp [flatU, hlt, h1, h2]

theorem flatU_get {sz m k : Nat} {u : Nat → Nat → Value} {x : Value} (h : (flatU sz m u)[k]? = some x) : k < m * sz ∧ 0 < sz ∧ k / sz < m ∧ k % sz < sz ∧ k = (k / sz) * sz + k % sz ∧ x = u (k / sz) (k % sz) := by
  have hlt : k < m * sz := by have := (List.getElem?_eq_some_iff.1 h).1; rwa [flatU_len] at this
  have hsz : 0 < sz := by
    rcases Nat.eq_zero_or_pos sz with h0 | h0
    · subst h0; simp at hlt
    · exact h0
  have : x = u (k / sz) (k % sz) := by simp [flatU, hlt] at h; exact h.symm
  refine ⟨hlt, hsz, Nat.div_lt_of_lt_mul (by rwa [Nat.mul_comm]), Nat.mod_lt _ hsz, ?_, this⟩
  have := Nat.div_add_mod k sz
  rw [Nat.mul_comm] at this; omega

theorem row_load {sz b o : Nat} {ys : List V} {u : Nat → Nat → Value}
    (hs : ∀ (i : Nat) (x : V), ys[i]? = some x → x.cells.length = sz ∧ x.cells.all V.one = true)
    (hm : ∀ (i : Nat) (x : V) (j : Nat) (e : V), ys[i]? = some x → x.cells[j]? = some e → w.cell? ⟨b, o + i * sz + j, none⟩ = some (u i j)) :
    (loadCells ⟨b, o, none⟩ (ys.length * sz)).run P w = .ok (flatU sz ys.length u).toArray w := by
  have := run_loadCells (P := P) (w := w) b o (flatU sz ys.length u) (fun k x hk => by
    obtain ⟨h1, h2, h3, h4, h5, rfl⟩ := flatU_get hk
    have hy : ys[k / sz]? = some ys[k / sz] := List.getElem?_eq_getElem h3
    have hl := (hs _ _ hy).1
    have := hm _ _ (k % sz) _ hy (List.getElem?_eq_getElem (by omega))
    rwa [show o + k / sz * sz + k % sz = o + k by omega] at this)
  rwa [flatU_len] at this

theorem flatU_one {sz : Nat} {ys : List V} {u : Nat → Nat → Value}
    (hs : ∀ (i : Nat) (x : V), ys[i]? = some x → x.cells.length = sz ∧ x.cells.all V.one = true)
    (hr : ∀ (i : Nat) (x : V) (j : Nat) (e : V), ys[i]? = some x → x.cells[j]? = some e → Rep w X ι n e (u i j)) : (flatU sz ys.length u).all Value.oneCell' = true := by
  rw [List.all_eq_true]
  intro x hx
  obtain ⟨k, hk, rfl⟩ := List.getElem_of_mem hx
  obtain ⟨h1, h2, h3, h4, h5, h6⟩ := flatU_get (List.getElem?_eq_getElem hk)
  rw [h6]
  have hy : ys[k / sz]? = some ys[k / sz] := List.getElem?_eq_getElem h3
  obtain ⟨hl, ho⟩ := hs _ _ hy
  have hlt : k % sz < (ys[k / sz]).cells.length := by omega
  rw [List.all_eq_true] at ho
  exact one_of_rep (hr _ _ (k % sz) _ hy (List.getElem?_eq_getElem hlt)) (ho _ (List.getElem_mem hlt))

/-- What is appended: its cells. -/
theorem src_run (hw : WF w X ι σ n) {y : Operand} {y' : Opd} {sz : Nat} {ys : List V} (hsz : sz ≠ 0) (hy : Rep w X ι n (ρ' y') (ρ y)) (h : elems σ sz (ρ' y') = some ys) :
    ∃ u : Nat → Nat → Value, (∃ a c, ρ y = .slice a ys.length c) ∧ (Builtin.firstCells sz ys.length (ρ y)).run P w = .ok (flatU sz ys.length u).toArray w ∧
      (∀ (i : Nat) (x : V), ys[i]? = some x → x.cells.length = sz ∧ x.cells.all V.one = true) ∧
      (∀ (i : Nat) (x : V) (j : Nat) (e : V), ys[i]? = some x → x.cells[j]? = some e → Rep w X ι n e (u i j)) := by
  generalize hyy : ρ y = z at *
  generalize ρ' y' = q at *
  cases hy <;> simp only [elems, reduceCtorEq] at h
  case nilS =>
    simp only [Option.some.injEq] at h; subst h
    exact ⟨fun _ _ => undef, ⟨_, _, rfl⟩, by simp [Builtin.firstCells, flatU], by simp, by simp⟩
  case sl sz' xs b o c u hc hX hb hs hm hr =>
    split at h
    · rename_i e; subst e
      simp only [Option.some.injEq] at h; subst h
      exact ⟨u, ⟨_, _, rfl⟩, row_load hs hm, hs, fun i x j e hx he => (hr i x j e hx he).up⟩
    · cases h
  case slE sz' c b =>
    split at h
    · simp only [Option.some.injEq] at h; subst h
      exact ⟨fun _ _ => undef, ⟨_, _, rfl⟩, by simp [Builtin.firstCells, flatU, loadCells, loadCellsFrom], by simp, by simp⟩
    · cases h
  case ref id off len sz' c o cells ty fz hc ho hm hz hid =>
    split at h
    · rename_i sz'' xs hxs
      split at h
      · rename_i hcond
        obtain ⟨rfl, rfl, hle⟩ := hcond
        simp only [Option.some.injEq] at h
        subst h
        obtain ⟨cs, ty', u, h1, h2, h3, h4, h5⟩ := hw.row id _ _ hxs
        have hget : ∀ (i : Nat) (y : V), ((xs.drop off).take len)[i]? = some y → xs[off + i]? = some y := by
          intro i y hy
          rw [List.getElem?_take] at hy
          split at hy
          · rwa [List.getElem?_drop] at hy
          · cases hy
        have hlen : ((xs.drop off).take len).length = len := by simp; omega
        refine ⟨fun i j => u (off + i) j, ⟨_, _, by rw [hlen]⟩, ?_, fun i x hx => h3 _ _ (hget i x hx), fun i x j e hx he => h5 _ _ _ _ (hget i x hx) he⟩

        refine ho.elim (fun hc0 => ?_) (fun ho => ?_)
        · have hl0 : len = 0 := by omega
          subst hl0
          simp [Builtin.firstCells, flatU, loadCells, loadCellsFrom]
        · subst ho
          have := row_load (P := P) (w := w) (b := ι id) (o := off * sz'') (ys := (xs.drop off).take len) (u := fun i j => u (off + i) j) (sz := sz'')
            (fun i x hx => h3 _ _ (hget i x hx)) (fun i x j e hx he => by
              have := h4 _ _ _ _ (hget i x hx) he
              simp only [World.cell?, h1]
              rw [Nat.add_mul] at this
              simpa [Nat.add_assoc] using this)
          simpa [Builtin.firstCells] using this
      · cases h
    · cases h

theorem growBy_le (need : Nat) : ∀ (r c : Nat), c ≤ need + need / 4 + 192 → Builtin.growBy need r c ≤ need + need / 4 + 192 := by
  intro r
  induction r with
  | zero => intro c h; simpa [Builtin.growBy] using h
  | succ r ih =>
    intro c h
    rw [Builtin.growBy]
    split
    · exact h
    · exact ih _ (by omega)

theorem nextcap_le {need old : Nat} (h : old < need) : Builtin.nextslicecap need old ≤ need + need / 4 + 512 := by
  unfold Builtin.nextslicecap
  split
  · omega
  · split
    · omega
    · have := growBy_le need 4 old (by omega); omega

/-- The append that must grow. -/
theorem run_grow {t t' e e' : TypeId} {ty : TypeId} {j : TI} {base : Option Addr} {sLen sCap m : Nat} {y : Value} {us old : List Value} (ht : P.underlying t = some (.slice e)) (ht' : P.underlying t' = some (.slice e'))
    (hj : ti P e = some j) (hflat : j.flat = true) (hly : ∃ a c, y = .slice a m c) (hy : (Builtin.firstCells j.size m y).run P { w with drawn := w.drawn + 1 } = .ok us.toArray { w with drawn := w.drawn + 1 })
    (ho : (Builtin.firstCells j.size sLen (.slice base sLen sCap)).run P { w with drawn := w.drawn + 1 } = .ok old.toArray { w with drawn := w.drawn + 1 }) (hneed : sCap < sLen + m) (hlim : (sLen + m) * j.bytes ≤ LIM) :
    ∃ cap rest, sLen + m ≤ cap ∧ (Builtin.append_ #[t, t'] ty #[.slice base sLen sCap, y]).run P w =
      .ok (.slice (some ⟨w.heap.size, 0, none⟩) (sLen + m) cap) ({ w with drawn := w.drawn + 1 }.alloc (.cells (old.toArray ++ us.toArray ++ rest) e)) ∧ rest.size = (cap - (sLen + m)) * j.size := by
  obtain ⟨f1, f2, f3, f4⟩ := flat_spec hflat
  obtain ⟨a, c, rfl⟩ := hly
  obtain ⟨z, hz, hv⟩ := run_zeroValue (w := { w with drawn := w.drawn + 1 }) hj
  obtain ⟨hlz, hrz⟩ := cells_of_rep (ofValA_rep (w := w) (X := fun _ => False) (ι := id) (n := 0) hv)
  obtain ⟨hu, i, z', hi, hi1, hi2, hi3, hi4⟩ := ti_spec hj
  have hcap := nextcap_le hneed
  have hb0 : 1 ≤ j.bytes := by omega
  have hbig : ¬ (Builtin.nextslicecap (sLen + m) sCap * i.bytes > 2 ^ 48) := by
    rw [hi2]
    have h1 : Builtin.nextslicecap (sLen + m) sCap * j.bytes ≤ ((sLen + m) + (sLen + m) / 4 + 512) * j.bytes := Nat.mul_le_mul_right _ hcap
    have h2 : (sLen + m) / 4 * 4 * j.bytes ≤ (sLen + m) * j.bytes := Nat.mul_le_mul_right _ (by omega)
    have h3 : (sLen + m) / 4 * 4 * j.bytes = 4 * ((sLen + m) / 4 * j.bytes) := by rw [Nat.mul_comm _ 4, Nat.mul_assoc]
    have h4 := flat_bytes hflat
    rw [Nat.add_mul, Nat.add_mul] at h1
    unfold LIM at hlim
    have h5 : (2 : Nat) ^ 48 = 281474976710656 := rfl
    omega
  obtain ⟨cap, hcapdef⟩ : ∃ cap, Question.cut (.appendCap (sLen + m) sCap e) (w.tape w.drawn (.appendCap (sLen + m) sCap e)) = cap := ⟨_, rfl⟩
  have hcl : sLen + m ≤ cap := by rw [← hcapdef]; simp [Question.cut]
  refine ⟨cap, Builtin.zeroCells z.cells (cap - (sLen + m)), hcl, ?_, by simp [Builtin.zeroCells, ← hlz, f1]⟩
  have hn : ¬ (sLen + m ≤ sCap) := by omega
  have hmax : ¬ (((sLen + m : Nat) : Int) > IntKind.i64.max ∧ (false = true ∨ i.bytes = 0)) := by
    rintro ⟨_, h | h⟩ <;> first | cases h | omega
  have hb1 : i.bytes ≠ 0 := by omega
  simp only [Builtin.append_, List.getElem?_toArray, List.getElem?_cons_zero, List.getElem?_cons_succ, Sem.run_bind, run_underlying ht, Result.andThen_ok, run_sizeOf hj, run_underlying ht',
    Sem.run_pure, Builtin.lenOf, Bool.false_eq_true, if_false, hn, run_typeInfo hi]
  have hmax' : ¬ (((sLen + m : Nat) : Int) > IntKind.i64.max ∧ (False ∨ i.bytes = 0)) := by
    rintro ⟨_, h | h⟩
    · exact h
    · exact hb1 h
  have hforced : (Question.appendCap (sLen + m) sCap e).forced = false := rfl
  rw [if_neg hmax']
  simp only [Sem.run_bind, run_typeInfo hi, Result.andThen_ok]
  rw [if_neg hbig]
  simp only [Sem.run_bind, run_choose, hforced, Bool.false_eq_true, if_false, Result.andThen_ok, run_typeInfo hi, run_askRoom, ho, hcapdef, Bool.not_false, if_true, hy, hz, newRow, run_newObj, Sem.run_pure]
  rfl

/-- The append that has room. -/
theorem run_fits {t t' e e' : TypeId} {ty : TypeId} {j : TI} {base : Option Addr} {sLen sCap m : Nat} {y : Value} {us : List Value} {w' : World} (ht : P.underlying t = some (.slice e)) (ht' : P.underlying t' = some (.slice e'))
    (hj : ti P e = some j) (hly : ∃ a c, y = .slice a m c) (hy : (Builtin.firstCells j.size m y).run P w = .ok us.toArray w) (hneed : sLen + m ≤ sCap)
    (hst : ∀ a, base = some a → (storeCells (a.add (sLen * j.size)) us).run P w = .ok () w') (hno : base = none → w' = w) :
    (Builtin.append_ #[t, t'] ty #[.slice base sLen sCap, y]).run P w = .ok (.slice base (sLen + m) sCap) w' := by
  obtain ⟨a, c, rfl⟩ := hly
  simp only [Builtin.append_, List.getElem?_toArray, List.getElem?_cons_zero, List.getElem?_cons_succ, Sem.run_bind, run_underlying ht, Result.andThen_ok, run_sizeOf hj, run_underlying ht',
    Sem.run_pure, Builtin.lenOf, Bool.false_eq_true, if_false, hneed, if_true, Bool.not_false, hy]
  cases base with
  | none => simp [hno rfl]
  | some b => simp [hst b rfl]

/-- An object takes another number. -/
theorem move_obj (hw : WF w X ι σ n) {id : Nat} {o : Ob} (h : σ id = some o) (hl : lk ≤ id) :
    WF w X (setι ι n (ι id)) (upd (upd σ id none) n (some o)) (n + 1) ∧ Ext w w X X ι (setι ι n (ι id)) σ (upd (upd σ id none) n (some o)) n (n + 1) lk := by
  have hid := hw.dom id (by rw [h]; simp)
  have key : ∀ i, upd (upd σ id none) n (some o) i ≠ none → (i = n ∧ setι ι n (ι id) i = ι id) ∨ (i ≠ n ∧ i ≠ id ∧ σ i ≠ none ∧ setι ι n (ι id) i = ι i ∧ upd (upd σ id none) n (some o) i = σ i) := by
    intro i hi
    by_cases e : i = n
    · exact .inl ⟨e, by simp [setι, e]⟩
    · by_cases e' : i = id
      · subst e'; simp [upd, e] at hi
      · exact .inr ⟨e, e', by simpa [upd, e, e'] using hi, by simp [setι, e], by simp [upd, e, e']⟩
  have hrep : ∀ {v u}, Rep w X ι n v u → Rep w X (setι ι n (ι id)) (n + 1) v u := fun hh =>
    hh.move (Nat.le_refl _) (fun _ _ _ => rfl) (fun b c t f hb => ⟨c, hb, rfl⟩) (fun i hi => by simp [setι]; omega) (fun _ _ h => h) (by omega)
  constructor
  · constructor
    · intro i sz xs hi
      rcases key i (by rw [hi]; simp) with ⟨e, e'⟩ | ⟨e1, e2, e3, e4, e5⟩
      · subst e
        simp only [upd, if_true, Option.some.injEq] at hi
        subst hi
        obtain ⟨cells, ty, u, h1, h2, h3, h4, h5⟩ := hw.row id _ _ h
        exact ⟨cells, ty, u, by rw [e']; exact h1, h2, h3, h4, fun i x j e hx he => hrep (h5 i x j e hx he)⟩
      · rw [e5] at hi
        obtain ⟨cells, ty, u, h1, h2, h3, h4, h5⟩ := hw.row i _ _ hi
        exact ⟨cells, ty, u, by rw [e4]; exact h1, h2, h3, h4, fun i x j e hx he => hrep (h5 i x j e hx he)⟩
    · intro i env ps a b st pend hi
      rcases key i (by rw [hi]; simp) with ⟨e, e'⟩ | ⟨e1, e2, e3, e4, e5⟩
      · subst e
        simp only [upd, if_true, Option.some.injEq] at hi
        subst hi
        obtain ⟨r, h1, h2⟩ := hw.loop id _ _ _ _ _ _ h
        exact ⟨r, by rw [e']; exact h1, h2.hst, h2.hpend, h2.hpn, h2.hps, h2.code, fun t => hrep (h2.rep t)⟩
      · rw [e5] at hi
        obtain ⟨r, h1, h2⟩ := hw.loop i _ _ _ _ _ _ hi
        exact ⟨r, by rw [e4]; exact h1, h2.hst, h2.hpend, h2.hpn, h2.hps, h2.code, fun t => hrep (h2.rep t)⟩
    · intro i hi
      rcases key i hi with ⟨e, e'⟩ | ⟨e1, e2, e3, e4, e5⟩
      · rw [e']; exact hw.own id (by rw [h]; simp)
      · rw [e4]; exact hw.own i e3
    · intro i i' hi hi' he
      rcases key i hi with ⟨e, e'⟩ | ⟨e1, e2, e3, e4, e5⟩ <;> rcases key i' hi' with ⟨d, d'⟩ | ⟨d1, d2, d3, d4, d5⟩
      · omega
      · rw [e', d4] at he
        exact absurd (hw.inj id i' (by rw [h]; simp) d3 he).symm d2
      · rw [e4, d'] at he
        exact absurd (hw.inj i id e3 (by rw [h]; simp) he) e2
      · rw [e4, d4] at he
        exact hw.inj i i' e3 d3 he
    · intro i hi
      rcases key i hi with ⟨e, e'⟩ | ⟨e1, e2, e3, e4, e5⟩
      · omega
      · have := hw.dom i e3; omega
    · exact hw.xlt
  · exact {
      hn := by omega, os := rfl, tape := rfl, output := rfl, size := Nat.le_refl _, heap := fun _ _ _ => rfl, cells := fun b c t f hb => ⟨c, hb, rfl⟩, loops := fun _ r h => ⟨r, h⟩
      hι := fun i hi => by simp [setι]; omega
      xnew := fun _ _ h => h, xold := fun _ h _ => h, xlt := hw.xlt
      own := fun i hl' hi _ => by
        rcases key i hi with ⟨e, e'⟩ | ⟨e1, e2, e3, e4, e5⟩
        · rw [e']; exact ⟨id, hl, by rw [h]; simp, rfl⟩
        · rw [e4]; exact ⟨i, hl', e3, rfl⟩
      lock := fun i hi => by rw [upd, if_neg (by omega), upd, if_neg (by omega)] }

theorem ev_append (hw : WF w X ι σ n) (hl : lk ≤ n) {t t' e e' : TypeId} {ty : TypeId} {j : TI} {x y : Operand} {x' y' : Opd} (hx : Rep w X ι n (ρ' x') (ρ x)) (hy : Rep w X ι n (ρ' y') (ρ y))
    (ht : P.underlying t = some (.slice e)) (ht' : P.underlying t' = some (.slice e')) (hj : ti P e = some j) (hflat : j.flat = true)
    {v : V} (h : ev ρ' σ n lk (.append j.size j.bytes x' y') = some (v, σ', n')) :
    Good w X ι σ n lk (((do pure (.value (← Builtin.append_ #[t, t'] ty #[ρ x, ρ y])) : Sem Next)).run P w) v σ' n' := by
  obtain ⟨f1, f2, f3, f4⟩ := flat_spec hflat
  simp only [ev] at h
  cases hel : elems σ j.size (ρ' y') with
  | none => simp [hel] at h
  | some ys =>
    simp only [hel] at h
    obtain ⟨u, hly, hyc, hys, hyr⟩ := src_run (P := P) hw f3 hy hel
    have hw1 : WF { w with drawn := w.drawn + 1 } X ι σ n := hw.move (Nat.le_refl _) (fun _ _ => rfl) (fun _ _ => rfl) (fun _ _ => Iff.rfl) (Nat.le_refl _) hw.xlt
    have hy1 : Rep { w with drawn := w.drawn + 1 } X ι n (ρ' y') (ρ y) := hy.ext (lk := lk) hw (Ext.draw hw.xlt _)
    split at h
    · rename_i e1
      rw [e1] at hx
      generalize ρ x = a at *
      cases hx
      split at h
      · rename_i hemp
        simp only [Option.some.injEq, Prod.mk.injEq] at h
        obtain ⟨rfl, rfl, rfl⟩ := h
        have hl0 : ys.length = 0 := by simpa using hemp
        have := run_fits (P := P) (w := w) (w' := w) (ty := ty) (base := none) (sLen := 0) (sCap := 0) ht ht' hj hly hyc (by omega) (fun a h => by cases h) (fun _ => rfl)
        refine good_pure hw ?_ .nilS
        simp only [Sem.run_bind, this, Result.andThen_ok, Sem.run_pure, hl0]
      · rename_i hemp
        split at h
        · rename_i hlim
          simp only [Option.some.injEq, Prod.mk.injEq] at h
          obtain ⟨rfl, rfl, rfl⟩ := h
          have hl0 : ys.length ≠ 0 := by simpa using hemp
          obtain ⟨u1, hly1, hyc1, hys1, hyr1⟩ := src_run (P := P) hw1 f3 hy1 hel
          obtain ⟨cap, rest, g1, g2, g3⟩ := run_grow (P := P) (w := w) (ty := ty) (base := none) (sLen := 0) (sCap := 0) (old := []) ht ht' hj hflat hly1 hyc1 (by simp [Builtin.firstCells]) (by omega) (by simpa using hlim)
          refine good_row hw hl (w.drawn + 1) u1 (c := cap) (cells := #[] ++ (flatU j.size ys.length u1).toArray ++ rest) (ty := e) ?_ (by omega) ?_ hys1 ?_ (fun i x q e hx he => ?_)
          · simp only [Sem.run_bind, g2, Result.andThen_ok, Sem.run_pure, Nat.zero_add]
          · simp [flatU_len, g3]
            rw [← Nat.add_mul]
            exact Nat.mul_le_mul_right _ (by omega)
          · intro i x q c hx hq
            have hi : i < ys.length := (List.getElem?_eq_some_iff.1 hx).1
            have hqs : q < j.size := by have := (List.getElem?_eq_some_iff.1 hq).1; have := (hys1 i x hx).1; omega
            have hb := flatU_at (u := u1) hi hqs
            have hlt := (List.getElem?_eq_some_iff.1 hb).1
            rw [Array.getElem?_append_left (by simpa using hlt)]
            simpa using hb
          · exact (hyr1 i x q e hx he).undraw
        · cases h
    · rename_i id off len sz' e1
      split at h
      · rename_i sz'' xs hxs
        split at h
        · rename_i hcond
          obtain ⟨rfl, rfl, rfl, rfl, hlk, hlim⟩ := hcond
          simp only [Option.some.injEq, Prod.mk.injEq] at h
          obtain ⟨rfl, rfl, rfl⟩ := h
          rw [e1] at hx
          generalize ρ x = a at *
          cases hx with
          | ref _ _ _ _ c o cells0 ty0 fz hid hc ho hm hz =>
            obtain ⟨cells, ty1, ux, h1, h2, h3, h4, h5⟩ := hw.row id _ _ hxs
            rw [h1] at hm
            simp only [Option.some.injEq, Obj.cells.injEq] at hm
            obtain ⟨rfl, rfl, rfl⟩ := hm
            have hxy : ∀ (i : Nat) (x : V), (xs ++ ys)[i]? = some x → (i < xs.length ∧ xs[i]? = some x) ∨ (xs.length ≤ i ∧ ys[i - xs.length]? = some x) := by
              intro i x hi
              by_cases hlt : i < xs.length
              · rw [List.getElem?_append_left hlt] at hi; exact .inl ⟨hlt, hi⟩
              · rw [List.getElem?_append_right (by omega)] at hi; exact .inr ⟨by omega, hi⟩
            by_cases hfit : xs.length + ys.length ≤ c
            · -- in place
              have hfl : (flatU j.size ys.length u).length = ys.length * j.size := flatU_len _ _ _
              have hroom : xs.length * j.size + ys.length * j.size ≤ cells.size := by
                rcases hz with h0 | hz
                · have e1 : xs.length = 0 := by omega
                  have e2 : ys.length = 0 := by omega
                  simp [e1, e2]
                · rw [← Nat.add_mul]
                  exact Nat.le_trans (Nat.mul_le_mul_right _ (by omega)) hz
              have hstore : ∀ a, some (⟨ι id, o, none⟩ : Addr) = some a → (storeCells (a.add (xs.length * j.size)) (flatU j.size ys.length u)).run P w = .ok () (putRow w (ι id) (writeAt cells (xs.length * j.size) (flatU j.size ys.length u)) ty1) := by
                intro a ha
                cases ha
                rw [add_none]
                rcases ho with h0 | ho
                · have e1 : xs.length = 0 := by omega
                  have e2 : ys.length = 0 := by omega
                  have e3 : flatU j.size ys.length u = [] := by rw [e2]; simp [flatU]
                  rw [e3]
                  simp [storeCells, writeAt, putRow_id h1]
                · rw [Nat.zero_mul] at ho
                  subst ho
                  rw [Nat.zero_add]
                  exact run_storeCells h1 (by rw [hfl]; exact hroom) (flatU_one hys hyr)
              have hrun := run_fits (P := P) (ty := ty) (base := some ⟨ι id, o, none⟩) (sLen := xs.length) (sCap := c) ht ht' hj hly hyc hfit hstore (fun h => by cases h)
              obtain ⟨wf1, ex1⟩ := move_obj (lk := lk) hw hxs hlk
              have hrep1 : ∀ {v u}, Rep w X ι n v u → Rep w X (setι ι n (ι id)) (n + 1) v u := fun hh => hh.ext hw ex1
              have hιn : setι ι n (ι id) n = ι id := by simp [setι]
              obtain ⟨wf2, ex2⟩ := set_row (lk := lk) wf1 (id := n) (sz := j.size) (xs := xs) (xs' := xs ++ ys) (cs := cells) (ty := ty1) (cs' := writeAt cells (xs.length * j.size) (flatU j.size ys.length u))
                (by simp [upd]) hl (by rw [hιn]; exact h1) (by simp) (fun i q => if i < xs.length then ux i q else u (i - xs.length) q)
                (by simp; rw [Nat.add_mul]; exact hroom)
                (fun i x hi => by
                  rcases hxy i x hi with ⟨_, hi⟩ | ⟨_, hi⟩
                  · exact h3 i x hi
                  · exact hys _ x hi)
                (fun i x q e hi hq => by
                  rw [writeAt_get _ _ _ _ (by rw [hfl]; exact hroom), hfl]
                  rcases hxy i x hi with ⟨hlt, hi⟩ | ⟨hge, hi⟩
                  · have hqs : q < j.size := by have := (List.getElem?_eq_some_iff.1 hq).1; have := (h3 i x hi).1; omega
                    have : (i + 1) * j.size ≤ xs.length * j.size := Nat.mul_le_mul_right _ hlt
                    rw [Nat.add_mul, Nat.one_mul] at this
                    rw [if_neg (by omega), if_pos hlt]
                    exact h4 i x q e hi hq
                  · have hqs : q < j.size := by have := (List.getElem?_eq_some_iff.1 hq).1; have := (hys _ x hi).1; omega
                    have hil : i - xs.length < ys.length := (List.getElem?_eq_some_iff.1 hi).1
                    have e1 : i * j.size = xs.length * j.size + (i - xs.length) * j.size := by rw [← Nat.add_mul]; congr 1; omega
                    have e2 : (i - xs.length + 1) * j.size ≤ ys.length * j.size := Nat.mul_le_mul_right _ hil
                    rw [Nat.add_mul, Nat.one_mul] at e2
                    rw [if_pos (by omega), if_neg (by omega), show i * j.size + q - xs.length * j.size = (i - xs.length) * j.size + q by omega]
                    exact flatU_at hil hqs)
                (fun i x q e hi hq => by
                  rcases hxy i x hi with ⟨hlt, hi⟩ | ⟨hge, hi⟩
                  · rw [if_pos hlt]; exact hrep1 (h5 i x q e hi hq)
                  · rw [if_neg (by omega)]; exact hrep1 (hyr _ x q e hi hq))
              rw [hιn] at wf2 ex2
              have hσ : upd (upd (upd σ id none) n (some (.row j.size xs))) n (some (.row j.size (xs ++ ys))) = upd (upd σ id none) n (some (.row j.size (xs ++ ys))) := by
                funext i; simp only [upd]; split <;> rfl
              rw [hσ] at wf2 ex2
              refine ⟨_, X, setι ι n (ι id), .slice (some ⟨ι id, o, none⟩) (xs.length + ys.length) c, .inl (by simp only [Sem.run_bind, hrun, Result.andThen_ok, Sem.run_pure]), ?_, wf2, ex1.trans ex2⟩
              have hput : (putRow w (ι id) (writeAt cells (xs.length * j.size) (flatU j.size ys.length u)) ty1).heap[ι id]? = some (.cells (writeAt cells (xs.length * j.size) (flatU j.size ys.length u)) ty1 (0, 0)) :=
                putRow_heap_same (Array.getElem?_eq_some_iff.1 h1).1
              have := Rep.ref (w := putRow w (ι id) (writeAt cells (xs.length * j.size) (flatU j.size ys.length u)) ty1) (X := X) (ι := setι ι n (ι id)) (n := n + 1) n 0 (xs.length + ys.length) j.size c o
                _ ty1 (0, 0) (by omega) hfit ho (by rw [hιn]; exact hput) (by rcases hz with h0 | hz; exact .inl h0; exact .inr (by simpa using hz))
              rwa [hιn] at this
            · -- a new row
              obtain ⟨cells', ty1', ux, h1, h2, h3, h4, h5⟩ := hw1.row id _ _ hxs
              obtain ⟨u1, hly1, hyc1, hys1, hyr1⟩ := src_run (P := P) hw1 f3 hy1 hel
              have hold : (Builtin.firstCells j.size xs.length (.slice (some ⟨ι id, o, none⟩) xs.length c)).run P { w with drawn := w.drawn + 1 } = .ok (flatU j.size xs.length ux).toArray { w with drawn := w.drawn + 1 } := by
                rcases ho with h0 | ho
                · have e1 : xs.length = 0 := by omega
                  rw [e1]
                  simp [Builtin.firstCells, flatU, loadCells, loadCellsFrom]
                · rw [Nat.zero_mul] at ho
                  subst ho
                  have := row_load (P := P) (w := { w with drawn := w.drawn + 1 }) (b := ι id) (o := 0) (ys := xs) (u := ux) (sz := j.size) h3 (fun i x q e hx he => by
                    simp only [World.cell?, h1]
                    simpa using h4 i x q e hx he)
                  simpa [Builtin.firstCells] using this
              obtain ⟨cap, rest, g1, g2, g3⟩ := run_grow (P := P) (w := w) (ty := ty) (base := some ⟨ι id, o, none⟩) (sLen := xs.length) (sCap := c) ht ht' hj hflat hly1 hyc1 hold (by omega) hlim
              obtain ⟨wf0, ex0⟩ := drop_obj (lk := lk) hw id hlk
              have hfx : (flatU j.size xs.length ux).length = xs.length * j.size := flatU_len _ _ _
              have hfy : (flatU j.size ys.length u1).length = ys.length * j.size := flatU_len _ _ _
              have g := good_row wf0 hl (w.drawn + 1) (fun i q => if i < xs.length then ux i q else u1 (i - xs.length) q) (c := cap) (xs := xs ++ ys) (sz := j.size)
                (cells := (flatU j.size xs.length ux).toArray ++ (flatU j.size ys.length u1).toArray ++ rest) (ty := e) (lk := lk)
                (r := ((do pure (.value (← Builtin.append_ #[t, t'] ty #[.slice (some ⟨ι id, o, none⟩) xs.length c, ρ y])) : Sem Next)).run P w)
                (by simp only [Sem.run_bind, g2, Result.andThen_ok, Sem.run_pure, List.length_append]) (by simp; omega)
                (by
                  simp only [Array.size_append, List.size_toArray, hfx, hfy, g3]
                  rw [← Nat.add_mul, ← Nat.add_mul]
                  exact Nat.mul_le_mul_right _ (by omega))
                (fun i x hi => by
                  rcases hxy i x hi with ⟨_, hi⟩ | ⟨_, hi⟩
                  · exact h3 i x hi
                  · exact hys _ x hi)
                (fun i x q e hi hq => by
                  rcases hxy i x hi with ⟨hlt, hi⟩ | ⟨hge, hi⟩
                  · have hqs : q < j.size := by have := (List.getElem?_eq_some_iff.1 hq).1; have := (h3 i x hi).1; omega
                    have hb := flatU_at (u := ux) hlt hqs
                    have hb' := (List.getElem?_eq_some_iff.1 hb).1
                    rw [Array.append_assoc, Array.getElem?_append_left (by simpa using hb'), if_pos hlt]
                    simpa using hb
                  · have hqs : q < j.size := by have := (List.getElem?_eq_some_iff.1 hq).1; have := (hys _ x hi).1; omega
                    have hil : i - xs.length < ys.length := (List.getElem?_eq_some_iff.1 hi).1
                    have hb := flatU_at (u := u1) hil hqs
                    have hb' := (List.getElem?_eq_some_iff.1 hb).1
                    have e1 : i * j.size = xs.length * j.size + (i - xs.length) * j.size := by rw [← Nat.add_mul]; congr 1; omega
                    rw [hfy] at hb'
                    rw [Array.getElem?_append_left (by simp [hfx, hfy]; omega), Array.getElem?_append_right (by simp [hfx]; omega), if_neg (by omega)]
                    simp only [List.size_toArray, hfx, List.getElem?_toArray]
                    rw [show i * j.size + q - xs.length * j.size = (i - xs.length) * j.size + q by omega]
                    exact hb)
                (fun i x q e hi hq => by
                  have back : ∀ {v u}, Rep { w with drawn := w.drawn + 1 } X ι n v u → Rep w X ι n v u := fun hh =>
                    hh.undraw
                  rcases hxy i x hi with ⟨hlt, hi⟩ | ⟨hge, hi⟩
                  · rw [if_pos hlt]; exact back (h5 i x q e hi hq)
                  · rw [if_neg (by omega)]; exact back (hyr1 _ x q e hi hq))
              obtain ⟨w', X', ι', uu, gr, grep, gwf, gex⟩ := g
              exact ⟨w', X', ι', uu, gr, by simpa using grep, gwf, ex0.trans gex⟩
        · cases h
      · cases h
    · cases h

end
end Go.Q
