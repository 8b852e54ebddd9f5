/- Structs held against each other; least and greatest; every operation that is no call. -/
import Derived.Test.YtaigdfomoplchaaQvOpF
import Derived.Laws.StructEq
set_option linter.unusedSimpArgs false
set_option linter.unusedVariables false
set_option linter.unusedSectionVars false
namespace Go.Q
variable [Link]

section
variable {P : Program} {w : World} {X : Nat → Prop} {ι : Nat → Nat} {σ σ' : Sto} {n n' lk : Nat} {ρ : Operand → Value} {ρ' : Opd → V}

theorem eqCell_run {k : CK} {x y : V} {a b : Value} {r : Bool} {t : TypeId} {d : Nat} (hk : ckOf P t = some k) (hx : Rep w X ι n x a) (hy : Rep w X ι n y b) (h : eqCell k x y = some r) :
    (Op.equalIn (d + 1) t a b).run P w = .ok r w ∧ (isAgg t).run P w = .ok false w := by
  unfold ckOf at hk
  split at hk <;> simp only [Option.some.injEq, reduceCtorEq] at hk <;> subst hk
  · rename_i ht
    cases x <;> cases y <;> simp only [eqCell, reduceCtorEq, Option.some.injEq] at h
    cases hx; cases hy; subst h
    exact ⟨run_equalIn_bool' _ _ _ _ _ ht, by simp [isAgg, run_underlying ht]⟩
  · rename_i k' ht
    cases x <;> cases y <;> simp only [eqCell, reduceCtorEq, Option.some.injEq] at h
    split at h
    · rename_i e; subst e
      simp only [Option.some.injEq] at h; subst h
      cases hx; cases hy
      exact ⟨run_equalIn_int _ _ _ _ _ _ _ ht, by simp [isAgg, run_underlying ht]⟩
    · cases h
  · rename_i ht
    cases x <;> cases y <;> simp only [eqCell, reduceCtorEq, Option.some.injEq] at h
    cases hx; cases hy; subst h
    exact ⟨by rw [run_equalIn_string _ _ _ _ _ ht, beq_toListBytes], by simp [isAgg, run_underlying ht]⟩

theorem eqFields_run (d : Nat) : ∀ (fs : List Field) (ks : List CK) (xs ys : List V) (us vs : Array Value) (o : Nat) (r : Bool),
    (∀ (i : Nat) (f : Field), fs[i]? = some f → f.offset = o + i ∧ f.name ≠ "_") → fs.mapM (fun f => ckOf P f.type) = some ks →
    (∀ (i : Nat) (e : V), xs[i]? = some e → ∃ u, us[o + i]? = some u ∧ Rep w X ι n e u) → (∀ (i : Nat) (e : V), ys[i]? = some e → ∃ u, vs[o + i]? = some u ∧ Rep w X ι n e u) →
    eqCells ks xs ys = some r → (Op.eqFields (d + 1) us vs fs).run P w = .ok r w
  | [], ks, xs, ys, us, vs, o, r, hf, hk, hx, hy, h => by
    simp at hk; subst hk
    cases xs <;> cases ys <;> simp [eqCells] at h
    subst h
    simp [Op.eqFields]
  | f :: fs, ks, xs, ys, us, vs, o, r, hf, hk, hx, hy, h => by
    simp only [List.mapM_cons, Option.pure_def, Option.bind_eq_bind, Option.bind_eq_some_iff, Option.some.injEq] at hk
    obtain ⟨k, hk1, ks', hk2, rfl⟩ := hk
    cases xs with
    | nil => simp [eqCells] at h
    | cons x xs =>
      cases ys with
      | nil => simp [eqCells] at h
      | cons y ys =>
        simp only [eqCells, Option.bind_eq_some_iff, Option.map_eq_some_iff] at h
        obtain ⟨b, hb, c, hc, rfl⟩ := h
        obtain ⟨u, hu, hru⟩ := hx 0 x rfl
        obtain ⟨v, hv, hrv⟩ := hy 0 y rfl
        obtain ⟨hoff, hname⟩ := hf 0 f rfl
        simp only [Nat.add_zero] at hu hv hoff
        obtain ⟨e1, e2⟩ := eqCell_run (d := d) hk1 hru hrv hb
        have ih := eqFields_run d fs ks' xs ys us vs (o + 1) c
          (fun i g hg => by have := hf (i + 1) g (by simpa using hg); exact ⟨by omega, this.2⟩) hk2
          (fun i e he => by have := hx (i + 1) e (by simpa using he); rwa [show o + (i + 1) = o + 1 + i by omega] at this)
          (fun i e he => by have := hy (i + 1) e (by simpa using he); rwa [show o + (i + 1) = o + 1 + i by omega] at this) hc
        have p1 : (part f.type us f.offset).run P w = .ok u w := by
          simp only [part, Sem.run_bind, e2, Result.andThen_ok, Bool.false_eq_true, if_false, hoff, hu, Sem.run_pure]
        have p2 : (part f.type vs f.offset).run P w = .ok v w := by
          simp only [part, Sem.run_bind, e2, Result.andThen_ok, Bool.false_eq_true, if_false, hoff, hv, Sem.run_pure]
        simp only [Op.eqFields, hname, ne_eq, not_false_eq_true, if_true, Sem.run_bind, p1, p2, Result.andThen_ok, e1]
        cases b
        · simp
        · simpa using ih

theorem ev_eqA (hw : WF w X ι σ n) {neg : Bool} {t : TypeId} {fs : Array Field} {ks : List CK} {x y : Operand} {x' y' : Opd} (ht : P.underlying t = some (.struct fs)) (hks : cksOf P t fs.toList = some ks)
    (hx : Rep w X ι n (ρ' x') (ρ x)) (hy : Rep w X ι n (ρ' y') (ρ y)) {v : V} (h : ev ρ' σ n lk (.eqA neg ks x' y') = some (v, σ', n')) :
    Good w X ι σ n lk (((do pure (.value (← (do eqGuard (if neg then .neq else .eql) t x y (ρ x) (ρ y); Go.binOp (if neg then .neq else .eql) t (ρ x) (ρ y)))) : Sem Next)).run P w) v σ' n' := by
  unfold cksOf at hks
  split at hks
  · rename_i hc
    simp only [Bool.and_eq_true, Bool.not_eq_true', List.all_eq_true] at hc
    obtain ⟨⟨c1, c2⟩, c3⟩ := hc
    have hf : ∀ (i : Nat) (f : Field), fs.toList[i]? = some f → f.offset = 0 + i ∧ f.name ≠ "_" := by
      intro i f hf
      have hmem : (f, i) ∈ fs.toList.zipIdx := by
        rw [List.mem_iff_getElem?]
        exact ⟨i, by simp [List.getElem?_zipIdx] ; simpa using hf⟩
      have := c1 _ hmem
      simp only [beq_iff_eq, bne_iff_ne] at this
      exact ⟨by omega, this.2⟩
    simp only [ev] at h
    split at h
    · rename_i xs ys e1 e2
      simp only [Option.map_eq_some_iff, Prod.mk.injEq] at h
      obtain ⟨b, hb, rfl, rfl, rfl⟩ := h
      rw [e1] at hx; rw [e2] at hy
      generalize ρ x = a at *
      generalize ρ y = z at *
      cases hx with
      | agg _ us hlx hrx =>
        cases hy with
        | agg _ vs hly hry =>
          have hfo : P.fieldsOf t = fs := by simp [Program.fieldsOf, ht]
          have key : (Op.equal t (.agg us) (.agg vs)).run P w = .ok b w := by
            rw [equal_succ, run_equalIn_struct _ _ _ _ _ (by rw [hfo]; exact ht) c2, hfo]
            exact eqFields_run 9998 fs.toList ks xs ys us vs 0 b hf hks
              (fun i e he => by
                have hlt : i < us.size := by have := (List.getElem?_eq_some_iff.1 he).1; omega
                exact ⟨us[i], by simp [hlt], hrx i e _ he (by simp [hlt])⟩)
              (fun i e he => by
                have hlt : i < vs.size := by have := (List.getElem?_eq_some_iff.1 he).1; omega
                exact ⟨vs[i], by simp [hlt], hry i e _ he (by simp [hlt])⟩) hb
          have hguard : ∀ op, (eqGuard op t x y (.agg us) (.agg vs)).run P w = .ok () w := by
            intro op
            unfold eqGuard
            cases op <;> first | rfl | simp [c3]
          refine good_pure hw ?_ (.bool _)
          simp only [Sem.run_bind, hguard, Result.andThen_ok]
          cases neg <;> simp [Go.binOp, key]
    · cases h
  · cases hks

theorem foldM_min : ∀ (es : List V) (us : List Value) (x v : V) (a : Value), es.length = us.length → (∀ (i : Nat) (e : V) (u : Value), es[i]? = some e → us[i]? = some u → Rep w X ι n e u) → Rep w X ι n x a →
    es.foldlM minV x = some v → ∃ r, (us.foldlM Builtin.min2 a : Sem Value).run P w = .ok r w ∧ Rep w X ι n v r
  | [], us, x, v, a, hl, hr, hx, h => by
    have : us = [] := List.length_eq_zero_iff.1 (by simpa using hl.symm)
    subst this
    simp at h; subst h
    exact ⟨a, by simp, hx⟩
  | e :: es, [], x, v, a, hl, hr, hx, h => by simp at hl
  | e :: es, u :: us, x, v, a, hl, hr, hx, h => by
    have hu := hr 0 e u rfl rfl
    simp only [List.foldlM_cons, Option.bind_eq_bind, Option.bind_eq_some_iff] at h
    obtain ⟨y, hy, h⟩ := h
    cases x <;> cases e <;> simp only [minV, reduceCtorEq, Option.some.injEq] at hy
    subst hy
    cases hx; cases hu
    obtain ⟨r, h1, h2⟩ := foldM_min es us _ v _ (by simpa using hl) (fun i e u he hu => hr (i + 1) e u (by simpa using he) (by simpa using hu)) (.int _ _) h
    exact ⟨r, by simp only [List.foldlM_cons, Sem.run_bind, Builtin.min2, Sem.run_pure, Result.andThen_ok, h1], h2⟩

theorem foldM_max : ∀ (es : List V) (us : List Value) (x v : V) (a : Value), es.length = us.length → (∀ (i : Nat) (e : V) (u : Value), es[i]? = some e → us[i]? = some u → Rep w X ι n e u) → Rep w X ι n x a →
    es.foldlM maxV x = some v → ∃ r, (us.foldlM Builtin.max2 a : Sem Value).run P w = .ok r w ∧ Rep w X ι n v r
  | [], us, x, v, a, hl, hr, hx, h => by
    have : us = [] := List.length_eq_zero_iff.1 (by simpa using hl.symm)
    subst this
    simp at h; subst h
    exact ⟨a, by simp, hx⟩
  | e :: es, [], x, v, a, hl, hr, hx, h => by simp at hl
  | e :: es, u :: us, x, v, a, hl, hr, hx, h => by
    have hu := hr 0 e u rfl rfl
    simp only [List.foldlM_cons, Option.bind_eq_bind, Option.bind_eq_some_iff] at h
    obtain ⟨y, hy, h⟩ := h
    cases x <;> cases e <;> simp only [maxV, reduceCtorEq, Option.some.injEq] at hy
    subst hy
    cases hx; cases hu
    obtain ⟨r, h1, h2⟩ := foldM_max es us _ v _ (by simpa using hl) (fun i e u he hu => hr (i + 1) e u (by simpa using he) (by simpa using hu)) (.int _ _) h
    exact ⟨r, by simp only [List.foldlM_cons, Sem.run_bind, Builtin.max2, Sem.run_pure, Result.andThen_ok, h1], h2⟩

end
end Go.Q
