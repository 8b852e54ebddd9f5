/- Each operation, run: places, parts, numbers, slices. -/
import Derived.Test.YtaigdfomoplchaaQvOpC
set_option linter.unusedSimpArgs false
set_option linter.unusedVariables false
set_option linter.unusedSectionVars false
namespace Go.Q
variable [Link]

section
variable {P : Program} {w : World} {X : Nat → Prop} {ι : Nat → Nat} {σ σ' : Sto} {n n' lk : Nat} {ρ : Operand → Value} {ρ' : Opd → V}

theorem ev_mksl (hw : WF w X ι σ n) (hl : lk ≤ n) {t e : TypeId} {j : TI} {l c : Operand} {l' : Opd}
    (hρl : Rep w X ι n (ρ' l') (ρ l)) (hlc : ρ c = ρ l) (ht : P.underlying t = some (.slice e)) (hj : ti P e = some j) (hflat : j.flat = true)
    {v : V} (h : ev ρ' σ n lk (.mksl j.size j.bytes j.zero l') = some (v, σ', n')) :
    Good w X ι σ n lk (((do pure (.value (← Instr.makeSlice t (ρ l) (ρ c))) : Sem Next)).run P w) v σ' n' := by
  simp only [ev] at h
  split at h
  · rename_i m hm
    split at h
    · rename_i hc
      obtain ⟨h0, h1, _⟩ := hc
      simp only [Option.some.injEq, Prod.mk.injEq] at h
      obtain ⟨rfl, rfl, rfl⟩ := h
      rw [hm] at hρl
      rw [hlc]
      generalize ρ l = y at *
      cases hρl
      obtain ⟨f1, f2, f3, f4⟩ := flat_spec hflat
      obtain ⟨z, hz, hv⟩ := run_zeroValue (w := w) hj
      obtain ⟨hlz, hrz⟩ := cells_of_rep (ofValA_rep (w := w) (X := X) (ι := ι) (n := n) hv)
      obtain ⟨hu, i, z', hi, hi1, hi2, hi3, hi4⟩ := ti_spec hj
      obtain ⟨k, rfl⟩ := Int.eq_ofNat_of_zero_le h0
      have hb : (1 : Int) ≤ j.bytes := by omega
      have hk : (k : Int) ≤ 140737488355328 := by
        have : (1 : Int) * k ≤ j.bytes * k := Int.mul_le_mul_of_nonneg_right hb h0
        omega
      have hwrap : IntKind.i64.wrap (k : Int) = k := IntWalk.i64_in _ (by omega)
      have hbk : (i.bytes : Int) * k ≤ 140737488355328 := by rw [hi2]; exact h1
      simp only [Int.toNat_natCast]
      have g := good_row hw hl (c := k) (xs := List.replicate k j.zero) (cells := (Array.range (k * j.size)).map (z.cells[· % z.cells.size]!)) (ty := e) (sz := j.size) w.drawn
        (fun _ q => (z.cells[q]?).getD undef) (r := ((do pure (.value (← Instr.makeSlice t (.int .i64 k) (.int .i64 k))) : Sem Next)).run P w) ?_ (by simp) (by simp) ?_ ?_ ?_
      · simpa using g
      · have hcond : (decide ((k : Int) < 0) || decide ((i.bytes : Int) * k > 2 ^ 48)) = false := by
          have h3 : ¬ ((i.bytes : Int) * k > 2 ^ 48) := by
            have : (2 : Int) ^ 48 = 281474976710656 := rfl
            omega
          rw [decide_eq_false h3]; simp
        simp only [Instr.makeSlice, Sem.run_bind, run_underlying ht, Result.andThen_ok, asInt, asIntOf, Sem.run_pure, run_typeInfo hi, hwrap, hcond]
        have h00 : decide ((k : Int) < 0) = false := by simp
        have hkk : decide ((k : Int) > k) = false := by simp
        simp only [h00, hkk, Bool.or_false, Bool.false_eq_true, if_false, Sem.run_pure, Sem.run_bind, Result.andThen_ok, run_askRoom, run_sizeOf hj, Int.toNat_natCast]
        by_cases hz0 : k * j.size = 0
        · have hmap : (Array.map (fun i => (#[] : Array Value)[i % (#[] : Array Value).size]!) (Array.range (k * j.size))) = (Array.range (k * j.size)).map (z.cells[· % z.cells.size]!) := by
            simp [hz0]
          simp only [if_pos hz0, Sem.run_pure, Sem.run_bind, Result.andThen_ok, newRow, run_newObj, hmap, List.length_replicate]
          rfl
        · simp only [if_neg hz0, Sem.run_pure, Sem.run_bind, Result.andThen_ok, hz, newRow, run_newObj, List.length_replicate]
          rfl
      · intro i x hx
        have : x = j.zero := List.eq_of_mem_replicate (List.mem_of_getElem? hx)
        subst this
        exact ⟨f1, f2⟩
      · intro i x q c hx hq
        have hlt : i < k := by have := (List.getElem?_eq_some_iff.1 hx).1; simpa using this
        have hxz : x = j.zero := List.eq_of_mem_replicate (List.mem_of_getElem? hx)
        subst hxz
        have hqs : q < j.size := by have := (List.getElem?_eq_some_iff.1 hq).1; omega
        have hin : i * j.size + q < k * j.size := by
          have : (i + 1) * j.size ≤ k * j.size := Nat.mul_le_mul_right _ hlt
          rw [Nat.add_mul, Nat.one_mul] at this; omega
        have hmod : (i * j.size + q) % z.cells.size = q := by
          rw [← hlz, f1, Nat.mul_comm, Nat.mul_add_mod, Nat.mod_eq_of_lt hqs]
        have hqz : q < z.cells.size := by omega
        simp [hin, hmod, hqz]
      · intro i x q c hx hq
        have hxz : x = j.zero := List.eq_of_mem_replicate (List.mem_of_getElem? hx)
        subst hxz
        have hqz : q < z.cells.size := by have := (List.getElem?_eq_some_iff.1 hq).1; omega
        exact hrz q c _ hq (by simp [hqz])
    · cases h
  · cases h

/-- A part of an aggregate. -/
theorem part_sound {t : TypeId} {i : TI} (ht : ti P t = some i) (h1 : i.agg = true ∨ i.size = 1) {cs : List V} {us : Array Value} {off : Nat} (hl : cs.length = us.size)
    (hr : ∀ (i : Nat) (e : V) (u : Value), cs[i]? = some e → us[i]? = some u → Rep w X ι n e u) {v : V} (h : loadC i.agg i.size (cs.drop off) = some v) :
    ∃ x, (part t us off).run P w = .ok x w ∧ Rep w X ι n v x := by
  unfold loadC at h
  cases ha : i.agg with
  | true =>
    simp only [ha, if_true] at h
    split at h
    · rename_i hle
      cases h
      refine ⟨.agg (us.extract off (off + i.size)), ?_, .agg _ _ (by simp at hle ⊢; omega) (fun q e u he hu => ?_)⟩
      · simp only [part, Sem.run_bind, run_isAgg ht, ha, if_true, Result.andThen_ok, run_sizeOf ht, Sem.run_pure]
      · simp only [List.getElem?_take, List.getElem?_drop] at he
        split at he
        · rename_i hq
          have : us[off + q]? = some u := by
            rw [Array.getElem?_extract] at hu
            split at hu
            · exact hu
            · cases hu
          exact hr _ e u he this
        · cases he
    · cases h
  | false =>
    simp only [ha, Bool.false_eq_true, if_false, List.head?_drop] at h
    have hlt : off < us.size := by have := (List.getElem?_eq_some_iff.1 h).1; omega
    refine ⟨us[off], ?_, hr off v _ h (by simp [hlt])⟩
    simp only [part, Sem.run_bind, run_isAgg ht, ha, Bool.false_eq_true, if_false, Result.andThen_ok]
    simp [hlt]

theorem ev_fld (hw : WF w X ι σ n) {s : TypeId} {fs : Array Field} {f : Nat} {g : Field} {j : TI} {x : Operand} {x' : Opd} (hρ : Rep w X ι n (ρ' x') (ρ x))
    (hs : P.underlying s = some (.struct fs)) (hg : fs[f]? = some g) (hj : ti P g.type = some j) (h1 : j.agg = true ∨ j.size = 1)
    {v : V} (h : ev ρ' σ n lk (.fld j.agg j.size g.offset x') = some (v, σ', n')) :
    Good w X ι σ n lk (((do pure (.value (← Instr.field s (ρ x) f)) : Sem Next)).run P w) v σ' n' := by
  simp only [ev] at h
  cases hv : ρ' x' <;> rw [hv] at h hρ <;> simp only [reduceCtorEq] at h
  rename_i cs
  simp only [Option.map_eq_some_iff, Prod.mk.injEq] at h
  obtain ⟨v', hl, rfl, rfl, rfl⟩ := h
  generalize hy : ρ x = y at *
  cases hρ with
  | agg _ us hlen hr =>
    obtain ⟨z, hz, hrz⟩ := part_sound hj h1 hlen hr hl
    refine good_pure hw ?_ hrz
    simp [Instr.field, run_underlying hs, hg, asAgg, hz]

theorem ev_faddr (hw : WF w X ι σ n) {s : TypeId} {fs : Array Field} {f : Nat} {g : Field} {j : TI} {x : Operand} {x' : Opd} (hρ : Rep w X ι n (ρ' x') (ρ x))
    (hs : P.underlying s = some (.struct fs)) (hg : fs[f]? = some g) (hj : ti P g.type = some j) (h0 : j.size ≠ 0)
    {v : V} (h : ev ρ' σ n lk (.faddr x' g.offset) = some (v, σ', n')) :
    Good w X ι σ n lk (((do pure (.value (← Instr.fieldAt s (ρ x) f)) : Sem Next)).run P w) v σ' n' := by
  simp only [ev] at h
  cases hv : ρ' x' <;> rw [hv] at h hρ <;> simp only [reduceCtorEq, Option.some.injEq, Prod.mk.injEq] at h
  · rename_i id sz i j'
    obtain ⟨rfl, rfl, rfl⟩ := h
    generalize hy : ρ x = y at *
    cases hρ
    refine good_pure hw (u := .pointer (some ⟨ι id, i * sz + (j' + g.offset), none⟩)) ?_ (.ptr _ _ _ _ (by assumption) (by assumption))
    simp [Instr.fieldAt, run_underlying hs, hg, Instr.sureAddr, fieldPlace, run_sizeOf hj, h0, add_none, Nat.add_assoc]
  · rename_i cs
    obtain ⟨rfl, rfl, rfl⟩ := h
    generalize hy : ρ x = y at *
    cases hρ with
    | box _ b o u hX hb h1 hm hr =>
      refine good_pure hw (u := .pointer (some ⟨b, o + g.offset, none⟩)) ?_ (.box _ b (o + g.offset) (fun k => u (g.offset + k)) hX hb ?_ ?_ ?_)
      · simp [Instr.fieldAt, run_underlying hs, hg, Instr.sureAddr, fieldPlace, run_sizeOf hj, h0, add_none]
      · rw [List.all_eq_true] at h1 ⊢
        exact fun c hc => h1 c (List.mem_of_mem_drop hc)
      · intro k e he
        rw [List.getElem?_drop] at he
        rw [Nat.add_assoc]
        exact hm _ e he
      · intro k e he
        rw [List.getElem?_drop] at he
        exact hr _ e he

theorem run_index_in {k : IntKind} {i : Int} : (asIntOf (.int k i)).run P w = .ok (k, i) w := rfl

theorem ev_iaddr (hw : WF w X ι σ n) {t e : TypeId} {j : TI} {x i : Operand} {x' i' : Opd} (hρ : Rep w X ι n (ρ' x') (ρ x)) (hρi : Rep w X ι n (ρ' i') (ρ i))
    (ht : P.underlying t = some (.slice e)) (hj : ti P e = some j) {v : V} (h : ev ρ' σ n lk (.iaddr j.size x' i') = some (v, σ', n')) :
    Good w X ι σ n lk (((do pure (.value (← Instr.indexAt t (ρ x) (ρ i))) : Sem Next)).run P w) v σ' n' := by
  simp only [ev] at h
  split at h
  · rename_i sz xs k q hx hi
    split at h
    · rename_i hc
      obtain ⟨h0, rfl⟩ := hc
      simp only [Option.map_eq_some_iff, Prod.mk.injEq] at h
      obtain ⟨el, hel, rfl, rfl, rfl⟩ := h
      rw [hx] at hρ; rw [hi] at hρi
      generalize ρ x = y at *
      generalize ρ i = z at *
      cases hρi
      cases hρ with
      | slE => simp at hel
      | sl _ _ b o c u hc hX hb hs hm hr =>
        have hlt : q.toNat < xs.length := (List.getElem?_eq_some_iff.1 hel).1
        refine good_pure hw (u := .pointer (some ⟨b, o + q.toNat * j.size, none⟩)) ?_ (.box _ b _ (u q.toNat) hX hb (hs _ _ hel).2 (fun k e he => hm _ _ _ _ hel he) (fun k e he => hr _ _ _ _ hel he))
        have : (0 : Int) ≤ q ∧ q < (xs.length : Int) := by omega
        simp [Instr.indexAt, run_index_in, run_underlying ht, this, run_sizeOf hj, add_none]
    · cases h
  · rename_i id off len sz k q hx hi
    split at h
    · rename_i hc
      obtain ⟨h0, h1, rfl⟩ := hc
      simp only [Option.some.injEq, Prod.mk.injEq] at h
      obtain ⟨rfl, rfl, rfl⟩ := h
      rw [hx] at hρ; rw [hi] at hρi
      generalize ρ x = y at *
      generalize ρ i = z at *
      cases hρi
      cases hρ with
      | ref _ _ _ _ c o cells ty fz hid hc ho hm hz =>
        have ho' : o = off * j.size := by rcases ho with h | h; omega; exact h
        subst ho'
        have := Rep.ptr (w := w) (X := X) (ι := ι) (n := n) id j.size (off + q.toNat) 0 hid (Array.getElem?_eq_some_iff.1 (by assumption)).1
        refine good_pure hw ?_ this
        have : (0 : Int) ≤ q ∧ q < (len : Int) := by omega
        simp [Instr.indexAt, run_index_in, run_underlying ht, this, run_sizeOf hj, add_none, Nat.add_mul]
    · cases h
  · cases h

theorem ev_iaddrA (hw : WF w X ι σ n) {t e : TypeId} {m : Nat} {j : TI} {x i : Operand} {x' i' : Opd} (hρ : Rep w X ι n (ρ' x') (ρ x)) (hρi : Rep w X ι n (ρ' i') (ρ i))
    (ht : P.underlying t = some (.array m e)) (hj : ti P e = some j) {v : V} (h : ev ρ' σ n lk (.iaddrA m j.size x' i') = some (v, σ', n')) :
    Good w X ι σ n lk (((do pure (.value (← Instr.indexAt t (ρ x) (ρ i))) : Sem Next)).run P w) v σ' n' := by
  simp only [ev] at h
  split at h
  · rename_i id sz el j' k q hx hi
    split at h
    · rename_i hc
      simp only [Option.some.injEq, Prod.mk.injEq] at h
      obtain ⟨rfl, rfl, rfl⟩ := h
      rw [hx] at hρ; rw [hi] at hρi
      generalize ρ x = y at *
      generalize ρ i = z at *
      cases hρi
      cases hρ
      refine good_pure hw (u := .pointer (some ⟨ι id, el * sz + (j' + q.toNat * j.size), none⟩)) ?_ (.ptr _ _ _ _ (by assumption) (by assumption))
      have : (0 : Int) ≤ q ∧ q < (m : Int) := by omega
      simp [Instr.indexAt, run_index_in, run_underlying ht, Instr.sureAddr, this, run_sizeOf hj, add_none, Nat.add_assoc]
    · cases h
  · rename_i cs k q hx hi
    split at h
    · rename_i hc
      simp only [Option.some.injEq, Prod.mk.injEq] at h
      obtain ⟨rfl, rfl, rfl⟩ := h
      rw [hx] at hρ; rw [hi] at hρi
      generalize ρ x = y at *
      generalize ρ i = z at *
      cases hρi
      cases hρ with
      | box _ b o u hX hb h1 hm hr =>
        refine good_pure hw (u := .pointer (some ⟨b, o + q.toNat * j.size, none⟩)) ?_ (.box _ b (o + q.toNat * j.size) (fun k => u (q.toNat * j.size + k)) hX hb ?_ ?_ ?_)
        · have : (0 : Int) ≤ q ∧ q < (m : Int) := by omega
          simp [Instr.indexAt, run_index_in, run_underlying ht, Instr.sureAddr, this, run_sizeOf hj, add_none]
        · rw [List.all_eq_true] at h1 ⊢
          exact fun c hc => h1 c (List.mem_of_mem_drop hc)
        · intro k e he
          rw [List.getElem?_drop] at he
          rw [Nat.add_assoc]
          exact hm _ e he
        · intro k e he
          rw [List.getElem?_drop] at he
          exact hr _ e he
    · cases h
  · cases h

theorem ev_idxA (hw : WF w X ι σ n) {t e : TypeId} {m : Nat} {j : TI} {x i : Operand} {x' i' : Opd} (hρ : Rep w X ι n (ρ' x') (ρ x)) (hρi : Rep w X ι n (ρ' i') (ρ i))
    (ht : P.underlying t = some (.array m e)) (hj : ti P e = some j) (h1 : j.agg = true ∨ j.size = 1) {v : V} (h : ev ρ' σ n lk (.idxA j.agg m j.size x' i') = some (v, σ', n')) :
    Good w X ι σ n lk (((do pure (.value (← Instr.index t (ρ x) (ρ i))) : Sem Next)).run P w) v σ' n' := by
  simp only [ev] at h
  split at h
  · rename_i cs k q hx hi
    split at h
    · rename_i hc
      simp only [Option.map_eq_some_iff, Prod.mk.injEq] at h
      obtain ⟨v', hl, rfl, rfl, rfl⟩ := h
      rw [hx] at hρ; rw [hi] at hρi
      generalize ρ x = y at *
      generalize ρ i = z at *
      cases hρi
      cases hρ with
      | agg _ us hlen hr =>
        obtain ⟨z, hz, hrz⟩ := part_sound (w := w) hj h1 hlen hr hl
        refine good_pure hw ?_ hrz
        have : (0 : Int) ≤ q ∧ q < (m : Int) := by omega
        simp [Instr.index, run_index_in, run_underlying ht, this, run_sizeOf hj, hz]
    · cases h
  · cases h

theorem ev_idxS (hw : WF w X ι σ n) {t : TypeId} {x i : Operand} {x' i' : Opd} (hρ : Rep w X ι n (ρ' x') (ρ x)) (hρi : Rep w X ι n (ρ' i') (ρ i))
    (ht : P.underlying t = some .string) {v : V} (h : ev ρ' σ n lk (.idxS x' i') = some (v, σ', n')) :
    Good w X ι σ n lk (((do pure (.value (← Instr.index t (ρ x) (ρ i))) : Sem Next)).run P w) v σ' n' := by
  simp only [ev] at h
  split at h
  · rename_i s k q hx hi
    split at h
    · rename_i hc
      simp only [Option.map_eq_some_iff, Prod.mk.injEq] at h
      obtain ⟨b, hb, rfl, rfl, rfl⟩ := h
      rw [hx] at hρ; rw [hi] at hρi
      generalize ρ x = y at *
      generalize ρ i = z at *
      cases hρi
      cases hρ
      refine good_pure hw (u := .int .u8 b.toNat) ?_ (.int _ _)
      simp [Instr.index, run_index_in, run_underlying ht, hc, hb]
    · cases h
  · cases h

theorem ev_ext (hw : WF w X ι σ n) {x : Operand} {x' : Opd} {i : Nat} (hρ : Rep w X ι n (ρ' x') (ρ x)) {v : V} (h : ev ρ' σ n lk (.ext x' i) = some (v, σ', n')) :
    Good w X ι σ n lk (((do pure (.value (← Instr.extract (ρ x) i)) : Sem Next)).run P w) v σ' n' := by
  simp only [ev] at h
  cases hv : ρ' x' <;> rw [hv] at h hρ <;> simp only [reduceCtorEq] at h
  rename_i cs
  simp only [Option.map_eq_some_iff, Prod.mk.injEq] at h
  obtain ⟨v', hl, rfl, rfl, rfl⟩ := h
  generalize hy : ρ x = y at *
  cases hρ with
  | tup _ us hlen hr =>
    have hlt : i < us.size := by have := (List.getElem?_eq_some_iff.1 hl).1; omega
    refine good_pure hw (u := us[i]) ?_ (hr i _ _ hl (by simp [hlt]))
    simp [Instr.extract, hlt]

end
end Go.Q
