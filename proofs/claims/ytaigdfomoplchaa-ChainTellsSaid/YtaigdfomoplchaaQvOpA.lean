/- Each operation, run: moves, reads, writes, composites. -/
import Derived.Test.YtaigdfomoplchaaQvOp
set_option linter.unusedSimpArgs false
set_option linter.unusedVariables false
set_option linter.unusedSectionVars false
namespace Go.Q
variable [Link]

/-- What a run of an operation must come to. -/
def Good (w : World) (X : Nat → Prop) (ι : Nat → Nat) (σ : Sto) (n lk : Nat) (r : Result Next) (v : V) (σ' : Sto) (n' : Nat) : Prop :=
  ∃ w' X' ι' u, (r = .ok (.value u) w' ∨ (r = .ok .skip w' ∧ u = undef)) ∧ Rep w' X' ι' n' v u ∧ WF w' X' ι' σ' n' ∧ Ext w w' X X' ι ι' σ σ' n n' lk

section
variable {P : Program} {w : World} {X : Nat → Prop} {ι : Nat → Nat} {σ σ' : Sto} {n n' lk : Nat} {ρ : Operand → Value} {ρ' : Opd → V}

theorem good_pure (hw : WF w X ι σ n) {v : V} {u : Value} {r : Result Next} (hr : r = .ok (.value u) w) (h : Rep w X ι n v u) : Good w X ι σ n lk r v σ n :=
  ⟨w, X, ι, u, .inl hr, h, hw, Ext.refl hw.xlt⟩

theorem rep_at (hw : WF w X ι σ n) {id sz i : Nat} {e : V} (h : rowAt σ id sz i = some e) :
    (e.cells.length = sz ∧ e.cells.all V.one = true) ∧ ∃ u : Nat → Value, ∀ (j : Nat) (c : V), e.cells[j]? = some c → w.cell? ⟨ι id, i * sz + j, none⟩ = some (u j) ∧ Rep w X ι n c (u j) := by
  unfold rowAt at h
  split at h
  · rename_i sz' xs hs
    split at h
    · rename_i he
      subst he
      obtain ⟨cells, ty, u, h1, h2, h3, h4, h5⟩ := hw.row id _ _ hs
      refine ⟨h3 i e h, u i, fun j c hc => ⟨?_, h5 i e j c h hc⟩⟩
      simp only [World.cell?, h1]
      simpa using h4 i e j c h hc
    · cases h
  · cases h

theorem load_sound {t : TypeId} {i : TI} (ht : ti P t = some i) (h1 : i.agg = true ∨ i.size = 1) {cs : List V} {b o : Nat} {u : Nat → Value}
    (hc : ∀ (j : Nat) (c : V), cs[j]? = some c → w.cell? ⟨b, o + j, none⟩ = some (u j) ∧ Rep w X ι n c (u j)) {v : V} (h : loadC i.agg i.size cs = some v) :
    ∃ x, (loadVar t ⟨b, o, none⟩).run P w = .ok x w ∧ Rep w X ι n v x := by
  unfold loadC at h
  cases ha : i.agg with
  | true =>
    simp only [ha, if_true] at h
    split at h
    · rename_i hle
      cases h
      let us : List Value := (List.range i.size).map u
      have hus : us.length = i.size := by simp [us]
      have hrun := run_loadCells (P := P) (w := w) b o us (fun j x hj => by
        have hlt : j < i.size := by have := (List.getElem?_eq_some_iff.1 hj).1; omega
        have : x = u j := by simp [us, hlt] at hj; exact hj.symm
        rw [this]
        exact (hc j cs[j] (List.getElem?_eq_getElem (by omega))).1)
      rw [hus] at hrun
      refine ⟨.agg us.toArray, ?_, .agg _ _ (by simp [us]; omega) (fun j e x he hx => ?_)⟩
      · simp only [loadVar, Sem.run_bind, run_isAgg ht, ha, if_true, Result.andThen_ok, run_sizeOf ht, hrun, Sem.run_pure]
      · have hlt : j < i.size := by
          have := (Array.getElem?_eq_some_iff.1 hx).1
          simpa [us] using this
        have hx' : x = u j := by simp [us, hlt] at hx; exact hx.symm
        rw [List.getElem?_take, if_pos hlt] at he
        rw [hx']
        exact (hc j e he).2
    · cases h
  | false =>
    simp only [ha, Bool.false_eq_true, if_false] at h
    cases cs with
    | nil => cases h
    | cons c cs =>
      simp at h; subst h
      obtain ⟨h2, h3⟩ := hc 0 _ rfl
      refine ⟨u 0, ?_, h3⟩
      simp only [loadVar, Sem.run_bind, run_isAgg ht, ha, Bool.false_eq_true, if_false, Result.andThen_ok]
      exact run_load_cell (by simpa using h2)

theorem drop_at {cs : List V} {b o j : Nat} {u : Nat → Value} (hc : ∀ (k : Nat) (c : V), cs[k]? = some c → w.cell? ⟨b, o + k, none⟩ = some (u k) ∧ Rep w X ι n c (u k)) :
    ∀ (k : Nat) (c : V), (cs.drop j)[k]? = some c → w.cell? ⟨b, o + j + k, none⟩ = some (u (j + k)) ∧ Rep w X ι n c (u (j + k)) := fun k c h => by
  rw [List.getElem?_drop] at h
  have := hc _ _ h
  rwa [show o + (j + k) = o + j + k by omega] at this

theorem ev_load (hw : WF w X ι σ n) {t : TypeId} {x : Operand} {x' : Opd} {i : TI} (hρ : Rep w X ι n (ρ' x') (ρ x)) (ht : ti P t = some i) (h1 : i.agg = true ∨ i.size = 1)
    {v : V} (h : ev ρ' σ n lk (.load i.agg i.size x') = some (v, σ', n')) : Good w X ι σ n lk (((do pure (.value (← Instr.loadAt t (ρ x))) : Sem Next)).run P w) v σ' n' := by
  simp only [ev] at h
  cases hv : ρ' x' <;> rw [hv] at h hρ <;> simp only [reduceCtorEq] at h
  · rename_i id sz i' j
    simp only [Option.bind_eq_some_iff, Option.map_eq_some_iff, Prod.mk.injEq] at h
    obtain ⟨e, he, v', hl, rfl, rfl, rfl⟩ := h
    obtain ⟨_, u, hu⟩ := rep_at hw he
    generalize hy : ρ x = y at *
    cases hρ
    obtain ⟨z, hz, hr⟩ := load_sound (w := w) (X := X) (ι := ι) (n := n) ht h1 (drop_at hu) hl
    exact good_pure hw (by simp [Instr.loadAt, Instr.sureAddr, hz]) hr
  · rename_i cs
    simp only [Option.map_eq_some_iff, Prod.mk.injEq] at h
    obtain ⟨v', hl, rfl, rfl, rfl⟩ := h
    generalize hy : ρ x = y at *
    cases hρ with
    | box _ b o u hX hb h1' hm hr =>
      obtain ⟨z, hz, hr⟩ := load_sound (w := w) (X := X) (ι := ι) (n := n) ht h1 (fun j c hc => ⟨hm j c hc, (hr j c hc).up⟩) hl
      exact good_pure hw (by simp [Instr.loadAt, Instr.sureAddr, hz]) hr

theorem splice_cells (x : V) (j : Nat) (cs : List V) (h0 : 0 < cs.length) (h1 : cs.all V.one = true) (hj : j + cs.length ≤ x.cells.length) :
    (spliceC x j cs).cells = x.cells.take j ++ cs ++ x.cells.drop (j + cs.length) := by
  unfold spliceC
  split
  · rfl
  · rename_i hx'
    have hc : x.cells = [x] := by cases x <;> first | rfl | exact absurd rfl (hx' _)
    rw [hc] at hj ⊢
    simp only [List.length_cons, List.length_nil] at hj
    match cs, h0, h1, hj with
    | [c], _, h1, hj =>
      simp only [List.all_cons, List.all_nil, Bool.and_true] at h1
      have hcc : c.cells = [c] := by cases c <;> first | rfl | simp [V.one] at h1
      simp only [List.length_cons, List.length_nil] at hj
      have hj0 : j = 0 := by omega
      subst hj0
      simp [hcc]
    | _ :: _ :: _, _, _, hj => simp at hj; omega

theorem cells_all_one {x : V} {us : Value} (h : Rep w X ι n x us) (h1 : x.cells.all V.one = true) : us.cells.toList.all Value.oneCell' = true := by
  obtain ⟨hl, hr⟩ := cells_of_rep h
  rw [List.all_eq_true] at h1 ⊢
  intro e he
  obtain ⟨i, hi, rfl⟩ := List.getElem_of_mem he
  have hi' : i < x.cells.length := by simp at hi; omega
  exact one_of_rep (hr i x.cells[i] _ (List.getElem?_eq_getElem hi') (by simp at hi ⊢)) (h1 _ (List.getElem_mem hi'))

theorem ev_store (hw : WF w X ι σ n) {t : TypeId} {a v : Operand} {a' v' : Opd} {i : TI} (hρa : Rep w X ι n (ρ' a') (ρ a)) (hρv : Rep w X ι n (ρ' v') (ρ v))
    (ht : ti P t = some i) {r : V} (h : ev ρ' σ n lk (.store i.size a' v') = some (r, σ', n')) :
    Good w X ι σ n lk (((do Instr.storeAt t (ρ a) (ρ v); pure .skip : Sem Next)).run P w) r σ' n' := by
  simp only [ev] at h
  cases hv : ρ' a' <;> rw [hv] at h hρa <;> simp only [reduceCtorEq] at h
  rename_i id sz i' j
  split at h
  · rename_i sz' xs hs
    split at h
    · rename_i e he
      split at h
      · rename_i hcond
        obtain ⟨rfl, hlk, h0, hlen, hone, hle⟩ := hcond
        simp only [Option.some.injEq, Prod.mk.injEq] at h
        obtain ⟨rfl, rfl, rfl⟩ := h
        obtain ⟨cells, ty, u, h1, h2, h3, h4, h5⟩ := hw.row id _ _ hs
        generalize hy : ρ a = y at *
        cases hρa
        obtain ⟨hlv, hrv⟩ := cells_of_rep hρv
        have hx := h3 i' e he
        have hi' : i' < xs.length := (List.getElem?_eq_some_iff.1 he).1
        have hbound : i' * sz' + sz' ≤ cells.size := by
          have : (i' + 1) * sz' ≤ xs.length * sz' := Nat.mul_le_mul_right _ hi'
          rw [Nat.add_mul, Nat.one_mul] at this; omega
        have hvs : (ρ v).cells.toList.length = i.size := by simp; omega
        have hst := run_storeCells (P := P) (vs := (ρ v).cells.toList) (o := i' * sz' + j) h1 (by omega) (cells_all_one hρv hone)
        have hspl := splice_cells e j (ρ' v').cells (by omega) hone (by omega)
        have hget : ∀ (k : Nat) (x : V), (xs.set i' (spliceC e j (ρ' v').cells))[k]? = some x → (k = i' ∧ x = spliceC e j (ρ' v').cells) ∨ (k ≠ i' ∧ xs[k]? = some x) := by
          intro k x hk
          by_cases hki : k = i'
          · subst hki
            simp [hi'] at hk
            exact .inl ⟨rfl, hk.symm⟩
          · rw [List.getElem?_set_ne (Ne.symm hki)] at hk
            exact .inr ⟨hki, hk⟩
        have hcut : ∀ (q : Nat) (c : V), (spliceC e j (ρ' v').cells).cells[q]? = some c → (j ≤ q ∧ q < j + i.size ∧ (ρ' v').cells[q - j]? = some c) ∨ (¬ (j ≤ q ∧ q < j + i.size) ∧ e.cells[q]? = some c) := by
          intro q c hq
          rw [hspl] at hq
          have htk : (e.cells.take j).length = j := by simp; omega
          by_cases hq1 : q < j
          · rw [List.append_assoc, List.getElem?_append_left (by omega), List.getElem?_take, if_pos hq1] at hq
            exact .inr ⟨by omega, hq⟩
          · by_cases hq2 : q < j + i.size
            · rw [List.append_assoc, List.getElem?_append_right (by omega), List.getElem?_append_left (by omega), htk] at hq
              exact .inl ⟨by omega, hq2, hq⟩
            · rw [List.getElem?_append_right (by simp; omega), List.getElem?_drop] at hq
              refine .inr ⟨by omega, ?_⟩
              have : j + (ρ' v').cells.length + (q - (e.cells.take j ++ (ρ' v').cells).length) = q := by simp; omega
              rwa [this] at hq
        obtain ⟨wf, ex⟩ := set_row hw hs hlk h1 (cs' := writeAt cells (i' * sz' + j) (ρ v).cells.toList) (by simp)
          (fun k q => if k = i' ∧ j ≤ q ∧ q < j + i.size then ((ρ v).cells.toList[q - j]?).getD undef else u k q)
          (xs' := xs.set i' (spliceC e j (ρ' v').cells)) (by simpa using h2)
          (by
            intro k x hk
            rcases hget k x hk with ⟨_, rfl⟩ | ⟨_, hk⟩
            · rw [hspl]
              refine ⟨by simp; omega, ?_⟩
              simp only [List.all_append, Bool.and_eq_true]
              have := hx.2
              rw [List.all_eq_true] at this
              refine ⟨⟨?_, hone⟩, ?_⟩ <;> rw [List.all_eq_true] <;> intro c hc
              · exact this c (List.mem_of_mem_take hc)
              · exact this c (List.mem_of_mem_drop hc)
            · exact h3 k x hk)
          (by
            intro k x q c hk hq
            rw [writeAt_get _ _ _ _ (by omega), hvs]
            rcases hget k x hk with ⟨rfl, rfl⟩ | ⟨hki, hk⟩
            · rcases hcut q c hq with ⟨b1, b2, b3⟩ | ⟨b1, b3⟩
              · rw [if_pos (by omega), if_pos ⟨rfl, b1, b2⟩]
                have hlt : q - j < (ρ v).cells.toList.length := by omega
                rw [show k * sz' + q - (k * sz' + j) = q - j by omega, List.getElem?_eq_getElem hlt]; rfl
              · rw [if_neg (by omega), if_neg (by omega)]
                exact h4 k e q c he b3
            · have hqs : q < sz' := by have := (List.getElem?_eq_some_iff.1 hq).1; have := (h3 k x hk).1; omega
              have hne : ¬ (i' * sz' + j ≤ k * sz' + q ∧ k * sz' + q < i' * sz' + j + i.size) := by
                intro ⟨c1, c2⟩
                rcases Nat.lt_or_gt_of_ne hki with hlt | hgt
                · have : (k + 1) * sz' ≤ i' * sz' := Nat.mul_le_mul_right _ hlt
                  rw [Nat.add_mul, Nat.one_mul] at this; omega
                · have : (i' + 1) * sz' ≤ k * sz' := Nat.mul_le_mul_right _ hgt
                  rw [Nat.add_mul, Nat.one_mul] at this; omega
              rw [if_neg hne, if_neg (by omega)]
              exact h4 k x q c hk hq)
          (by
            intro k x q c hk hq
            rcases hget k x hk with ⟨rfl, rfl⟩ | ⟨hki, hk⟩
            · rcases hcut q c hq with ⟨b1, b2, b3⟩ | ⟨b1, b3⟩
              · rw [if_pos ⟨rfl, b1, b2⟩]
                have hlt : q - j < (ρ v).cells.toList.length := by omega
                rw [List.getElem?_eq_getElem hlt]
                exact hrv (q - j) c _ b3 (by simp)
              · rw [if_neg (by omega)]
                exact h5 k e q c he b3
            · rw [if_neg (by omega)]
              exact h5 k x q c hk hq)
        refine ⟨_, X, ι, undef, .inr ⟨?_, rfl⟩, .undef, wf, ex⟩
        simp only [Instr.storeAt, Instr.sureAddr, Sem.run_bind, Sem.run_pure, Result.andThen_ok, storeVar, run_sizeOf ht]
        rw [if_neg (by simp at hvs; omega)]
        simp only [hst, Result.andThen_ok, Sem.run_pure]
      · cases h
    · cases h
  · cases h

end
end Go.Q
