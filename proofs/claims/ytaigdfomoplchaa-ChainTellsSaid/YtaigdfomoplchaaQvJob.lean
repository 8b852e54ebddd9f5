/- Calls, run as the evaluator says. -/
import Derived.Test.YtaigdfomoplchaaQvBody
set_option linter.unusedSimpArgs false
set_option linter.unusedVariables false
set_option linter.unusedSectionVars false
namespace Go.Q

section
variable [Link] {P : Program} {T : Tab} {B : Base} {r : Option Nat} {N : Nat} {s : St} {a : Act} {w : World} {X : Nat → Prop} {ι : Nat → Nat}

/-- One result. -/
def resSem (tmps : Array Value) : ResultVar → Sem Value
  | .tmp t => pure (tmps.getD t undef)
  | .cell a t => do loadVar t (← asAddr (tmps.getD a undef))

theorem results_eq (fn : Func) (tmps : Array Value) : results fn tmps = (do let vs ← fn.results.mapM (resSem tmps); pure (if h : vs.size = 1 then vs[0] else .tuple vs)) := by
  unfold results
  congr 1
  try (congr 1)
  try (funext x; cases x <;> rfl)

theorem res_sound (h : At B r N s a w X ι) {x : ResultVar} {y : Res} (hc : cRes P x = some y) {v : V} (ho : resOf s y = some v) :
    ∃ u, (resSem a.tmps x).run P w = .ok u w ∧ Rep w X ι s.n v u := by
  cases x with
  | tmp t =>
    simp only [cRes, Option.some.injEq] at hc; subst hc
    simp only [resOf, Option.some.injEq] at ho; subst ho
    exact ⟨_, rfl, h.rep t⟩
  | cell t ty =>
    simp only [cRes, Option.bind_eq_bind, Option.bind_eq_some_iff] at hc
    obtain ⟨i, hi, hc⟩ := hc
    split at hc
    · rename_i h1
      simp only [Option.some.injEq] at hc; subst hc
      simp only [Bool.or_eq_true, beq_iff_eq] at h1
      simp only [resOf] at ho
      have hr := h.rep t
      split at ho
      · rename_i id sz' q j henv
        rw [henv] at hr
        simp only [Option.bind_eq_some_iff] at ho
        obtain ⟨e, he, hl⟩ := ho
        obtain ⟨_, u, hu⟩ := rep_at h.wf he
        generalize hx : a.tmps.getD t undef = x at hr
        cases hr with
        | ptr _ _ _ _ hid =>
          obtain ⟨z, hz, hrz⟩ := load_sound (P := P) (w := w) (X := X) (ι := ι) (n := s.n) (b := ι id) (o := q * sz' + j) (u := fun k => u (j + k)) hi h1 (cs := e.cells.drop j)
            (fun k c hk => by rw [List.getElem?_drop] at hk; have := hu _ _ hk; rwa [← Nat.add_assoc] at this) hl
          exact ⟨z, by simp only [resSem, hx]; simp [asAddr, Sem.run_bind, hz], hrz⟩
      · cases ho
    · cases hc

theorem resL_sound (h : At B r N s a w X ι) : ∀ (xs : List ResultVar) (ys : List Res) (vs : List V), xs.mapM (cRes P) = some ys → ys.mapM (resOf s) = some vs →
    ∃ us : List Value, (xs.mapM (resSem a.tmps)).run P w = .ok us w ∧ us.length = vs.length ∧ ∀ (i : Nat) (v : V) (u : Value), vs[i]? = some v → us[i]? = some u → Rep w X ι s.n v u
  | [], ys, vs, h1, h2 => by
    simp at h1; subst h1; simp at h2; subst h2
    exact ⟨[], by simp, rfl, fun i v u hv => by simp at hv⟩
  | x :: xs, ys, vs, h1, h2 => by
    simp only [List.mapM_cons, Option.pure_def, Option.bind_eq_bind, Option.bind_eq_some_iff, Option.some.injEq] at h1
    obtain ⟨y, hy, ys', hys, rfl⟩ := h1
    simp only [List.mapM_cons, Option.pure_def, Option.bind_eq_bind, Option.bind_eq_some_iff, Option.some.injEq] at h2
    obtain ⟨v, hv, vs', hvs, rfl⟩ := h2
    obtain ⟨u, hu, hr⟩ := res_sound h hy hv
    obtain ⟨us, hus, hl, hrs⟩ := resL_sound h xs ys' vs' hys hvs
    refine ⟨u :: us, by simp [List.mapM_cons, Sem.run_bind, hu, hus], by simp [hl], fun i v' u' hv' hu' => ?_⟩
    cases i with
    | zero => simp at hv' hu'; subst hv'; subst hu'; exact hr
    | succ i => exact hrs i v' u' (by simpa using hv') (by simpa using hu')

theorem results_sound (h : At B r N s a w X ι) {fn : Func} {rs : List Res} (hc : fn.results.toList.mapM (cRes P) = some rs) {v : V} (ho : outOf s rs = some v) :
    ∃ u, (results fn a.tmps).run P w = .ok u w ∧ Rep w X ι s.n v u := by
  have hlen := (mapM_get' _ _ _ hc).1
  have key : ∀ vs, rs.mapM (resOf s) = some vs → ∃ us : List Value, (fn.results.mapM (resSem a.tmps)).run P w = .ok us.toArray w ∧ us.length = vs.length ∧
      ∀ (i : Nat) (v : V) (u : Value), vs[i]? = some v → us[i]? = some u → Rep w X ι s.n v u := by
    intro vs hvs
    obtain ⟨us, h1, h2, h3⟩ := resL_sound h _ _ _ hc hvs
    refine ⟨us, ?_, h2, h3⟩
    rw [Array.mapM_eq_mapM_toList]
    simp only [Sem.run_map, h1, Result.andThen_ok]
  rw [results_eq]
  match rs, ho with
  | [], ho =>
    simp only [outOf, Option.some.injEq] at ho; subst ho
    obtain ⟨us, h1, h2, -⟩ := key [] rfl
    have : us = [] := by cases us; rfl; simp at h2
    subst this
    exact ⟨.tuple #[], by simp [Sem.run_bind, h1], .undef⟩
  | [y], ho =>
    simp only [outOf] at ho
    obtain ⟨us, h1, h2, h3⟩ := key [v] (by simp [List.mapM_cons, ho])
    match us, h2 with
    | [u], _ => exact ⟨u, by simp [Sem.run_bind, h1], h3 0 v u rfl rfl⟩
  | y :: y' :: ys, ho =>
    simp only [outOf, Option.map_eq_some_iff] at ho
    obtain ⟨vs, hvs, rfl⟩ := ho
    obtain ⟨us, h1, h2, h3⟩ := key vs hvs
    have hvl := (mapM_get' _ _ _ hvs).1
    simp only [List.length_cons] at hvl
    refine ⟨.tuple us.toArray, ?_, .tup _ _ (by simp [h2]) (fun i e u he hu => h3 i e u he (by simpa using hu))⟩
    have hne : us.length ≠ 1 := by omega
    simp [Sem.run_bind, h1, hne]

/-- Blocks of one's own that the store does not speak of may turn. -/
theorem Ext.put_new {w0 w : World} {X0 X : Nat → Prop} {ι0 ι : Nat → Nat} {σ0 σ : Sto} {n0 n lk : Nat} (h : Ext w0 w X0 X ι0 ι σ0 σ n0 n lk) {b : Nat} (hb : w0.heap.size ≤ b) (o : Obj) :
    Ext w0 (w.putObj b o) X0 X ι0 ι σ0 σ n0 n lk where
  hn := h.hn
  os := h.os
  tape := h.tape
  output := h.output
  size := by simpa using h.size
  heap := fun k hk ho => by rw [World.putObj_heap_other (by omega)]; exact h.heap k hk ho
  cells := fun k c t f hk => by
    have hlt := (Array.getElem?_eq_some_iff.1 hk).1
    rw [World.putObj_heap_other (by omega)]; exact h.cells k c t f hk
  loops := fun k q hk => by
    have hlt := (Array.getElem?_eq_some_iff.1 hk).1
    rw [World.putObj_heap_other (by omega)]; exact h.loops k q hk
  hι := h.hι
  xnew := h.xnew
  xold := h.xold
  xlt := h.xlt
  own := h.own
  lock := h.lock

/-- An activation leaves: its marks are taken. -/
theorem leaves {fn : Func} {R : Ending → World → Prop} {tmps : Array Value} : ∀ (rs : List Nat) (a : Act) (w : World), At B none N s a w X ι → a.tmps = tmps → a.defers = rs.map markOf → rs.Nodup →
    (∀ q ∈ rs, B.w.heap.size ≤ q ∧ w.heap[q]? = some (.deferred (some [])) ∧ ¬ X q) →
    (∀ (a : Act) (w : World), At B none N s a w X ι → a.tmps = tmps → ∃ v, (results fn tmps).run P w = .ok v w ∧ R (.returned v) w) →
    LeavesInM Fence.wide 0 P fn tmps R (rs.map markOf) .returning w
  | [], a, w, h, ht, _, _, _, hR => by
    simp only [List.map_nil, LeavesInM, LeavesIn]
    exact hR a w h ht
  | q :: rs, a, w, h, ht, hd, hn, hm, hR => by
    simp only [List.map_cons, LeavesInM]
    obtain ⟨m1, m2, m3⟩ := hm q (by simp)
    have hc : ∀ c t f, Obj.deferred (some []) ≠ .cells c t f := fun _ _ _ h => by cases h
    have hv : ∀ c t, Obj.deferred (some []) ≠ .pending c t := fun _ _ h => by cases h
    obtain ⟨hn1, hn2⟩ := List.nodup_cons.1 hn
    have hrest : ∀ q' ∈ rs, B.w.heap.size ≤ q' ∧ (w.putObj q (.deferred none)).heap[q']? = some (.deferred (some [])) ∧ ¬ X q' := fun q' hq' => by
      obtain ⟨c1, c2, c3⟩ := hm q' (List.mem_cons_of_mem _ hq')
      exact ⟨c1, by
        have hne : q' ≠ q := fun e => hn1 (e ▸ hq')
        rw [World.putObj_heap_other hne]; exact c2, c3⟩
    refine ⟨by simp, .inl ⟨q, _, rfl, run_takeDeferred m2, ?_⟩⟩
    refine leaves rs { a with defers := rs.map markOf } _ ?_ ht rfl hn2 hrest hR
    exact ⟨put_dead h.wf m2 hc hv (fun id hid e => m3 (e ▸ h.wf.own id hid)), h.hlk, h.le, h.size, fun t => (h.rep t).put m2 hc hv, h.ext.put_new m1 _,
      ⟨rs, rfl, hn2, hrest⟩, fun l hl => by cases hl⟩

end
end Go.Q
