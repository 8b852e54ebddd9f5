/- What the evaluator says of a call, the machine does. -/
import Derived.Test.YtaigdfomoplchaaQvJob
set_option linter.unusedSimpArgs false
set_option linter.unusedVariables false
set_option linter.unusedSectionVars false
namespace Go.Q

/-- The table is the program's. -/
def TabOf (P : Program) (T : Tab) : Prop := ∀ f fn, T.fn f = some fn → ∃ F, P.funcs[f]? = some F ∧ cFunc P (ownB T) F = some fn ∧ (F.name == "runtime.NumGoroutine") = false

section
variable {P : Program} {T : Tab}

theorem cFunc_spec {F : Func} {fn : Fn} (h : cFunc P (ownB T) F = some fn) : ∃ c, F.body = some c ∧ cCode P F.ntmps (ownB T) c = some fn.body ∧
    F.results.toList.mapM (cRes P) = some fn.res ∧ fn.np ≤ F.ntmps := by
  simp only [cFunc, Option.bind_eq_bind, Option.bind_eq_some_iff] at h
  obtain ⟨c, hc, b, hb, rs, hrs, h⟩ := h
  split at h
  · rename_i hle
    simp only [Option.some.injEq] at h
    subst h
    exact ⟨c, hc, hb, hrs, hle⟩
  · cases h

theorem start_rep [Link] {w : World} {X : Nat → Prop} {ι : Nat → Nat} {n k : Nat} {args : List V} {us : Array Value} (h : Reps w X ι n args us) (t : Nat) :
    Rep w X ι n (envOf args t) ((us ++ Array.replicate k undef).getD t undef) := by
  simp only [envOf, Array.getD_eq_getD_getElem?, Array.getElem?_append]
  split
  · rename_i hlt
    have hlt' : t < args.length := by rw [← h.1]; exact hlt
    rw [List.getElem?_eq_getElem hlt', Array.getElem?_eq_getElem hlt]
    exact h.2 t _ _ (List.getElem?_eq_getElem hlt') (Array.getElem?_eq_getElem hlt)
  · rename_i hlt
    have hlt' : args.length ≤ t := by rw [← h.1]; omega
    rw [List.getElem?_eq_none hlt']
    rw [Array.getElem?_replicate]
    split <;> exact .undef

/-- A function's body, from its start to its end. -/
theorem body_sound (hdraw : @DrawOk (lnk P T) P T) (hmix : P.follows .mixedOrders = true) {F : Func} {fn : Fn} {f : FuncId} (hf : P.funcs[f]? = some F) (hc : cFunc P (ownB T) F = some fn)
    {w : World} {X : Nat → Prop} {ι : Nat → Nat} {σ : Sto} {n lk : Nat} {args : List V} {us : Array Value} (hw : @WF (lnk P T) w X ι σ n) (hl : lk ≤ n) (hr : Reps w X ι n args us)
    {Q : V → St → Prop} (h : wpC T (@sndC (lnk P T) P T) fn.body ⟨envOf args, σ, n, lk⟩ fun ex s => isEnd ex = true ∧ ∃ v, outOf s fn.res = some v ∧ Q v s) :
    CallsIn Fence.wide 0 P f us w fun e w' => ∃ u v s X' ι', e = .returned u ∧ Q v s ∧ @WF (lnk P T) w' X' ι' s.σ s.n ∧ Rep w' X' ι' s.n v u ∧ Ext w w' X X' ι ι' σ s.σ n s.n lk := by
  letI := lnk P T
  obtain ⟨c, hb, hcode, hres, hnp⟩ := cFunc_spec hc
  refine callsIn_of_wp_marks (fn := F) (c := c) hf hb trivial ?_
  have hat : At ⟨w, X, ι, σ, n, lk⟩ none F.ntmps ⟨envOf args, σ, n, lk⟩ { tmps := us ++ Array.replicate (F.ntmps - us.size) undef, defers := [] } w X ι :=
    ⟨hw, rfl, hl, by simp; omega, fun t => start_rep hr t, Ext.refl hw.xlt, ⟨[], rfl, List.nodup_nil, by simp⟩, fun l hl => by cases hl⟩
  have := code_sound (r := none) hdraw hmix c fn.body hcode _ _ _ _ _ _ hat h
  refine wpIn_mono this (fun e a' w' hh => ?_)
  have fin : ∀ (s : St) (X' : Nat → Prop) (ι' : Nat → Nat), At ⟨w, X, ι, σ, n, lk⟩ none F.ntmps s a' w' X' ι' → (∃ v, outOf s fn.res = some v ∧ Q v s) →
      LeavesInM Fence.wide 0 P F a'.tmps (fun e w' => ∃ u v s X' ι', e = .returned u ∧ Q v s ∧ WF w' X' ι' s.σ s.n ∧ Rep w' X' ι' s.n v u ∧ Ext w w' X X' ι ι' σ s.σ n s.n lk) a'.defers .returning w' := by
    intro s X' ι' h1 h2
    obtain ⟨v, hv, hq⟩ := h2
    obtain ⟨rs, m1, m2, m3⟩ := h1.marks
    rw [m1]
    refine leaves rs a' w' h1 rfl m1 m2 m3 (fun a2 w2 h3 ht => ?_)
    obtain ⟨u, hu, hru⟩ := results_sound (P := P) h3 hres hv
    rw [ht] at hu
    exact ⟨u, hu, u, v, s, X', ι', rfl, hq, h3.wf, hru, h3.ext⟩
  cases e with
  | normal => obtain ⟨s, X', ι', h1, -, h2⟩ := hh; exact fin s X' ι' h1 h2
  | ret => obtain ⟨s, X', ι', h1, -, h2⟩ := hh; exact fin s X' ι' h1 h2
  | exit id => obtain ⟨s, X', ι', h1, h2, -⟩ := hh; simp [isEnd] at h2
  | goto l => exact hh.elim
  | panic ch => exact hh.elim
  | outgrown => exact hh.elim

theorem round_sound (hdraw : @DrawOk (lnk P T) P T) (hmix : P.follows .mixedOrders = true) {l : Nat} {env : Nat → V} {a b : AC} {σ : Sto} {n lk : Nat} {Q : Out → Prop}
    (h : jobW T (@sndC (lnk P T) P T) (.round l env a b σ n lk) Q) : @sndC (lnk P T) P T (.round l env a b σ n lk) Q := by
  letI := lnk P T
  intro w X ι N tmps fn ca cb hw hl hlk ⟨env0, ps0, a0, b0, pend0, hrow⟩ hN hca hcb hrep
  obtain ⟨rec, hrec, -⟩ := hw.loop _ _ _ _ _ _ _ hrow
  have hln : l < n := hw.dom l (by rw [hrow]; simp)
  have hat : At ⟨w, X, ι, σ, n, lk⟩ (some (ι l)) N ⟨env, σ, n, lk⟩ { tmps := tmps, defers := [] } w X ι :=
    ⟨hw, rfl, hl, hN, hrep, Ext.refl hw.xlt, ⟨[], rfl, List.nodup_nil, by simp⟩, fun q hq => by cases hq; exact ⟨rec, hrec⟩⟩
  simp only [jobW] at h
  refine roundIn_of_wpIn (F := Fence.wide) trivial ?_
  have h1 := code_sound (B := ⟨w, X, ι, σ, n, lk⟩) (r := some (ι l)) (N := N) hdraw hmix ca a hca _ _ _ _ _ _ hat h
  refine wpIn_mono h1 (fun e a1 w1 hh => ?_)
  cases e with
  | normal =>
    obtain ⟨s1, X1, ι1, hat1, -, env', ps, a', b', pend, hrow1, hbody⟩ := hh
    obtain ⟨rec1, hrec1, hlr1⟩ := hat1.wf.loop _ _ _ _ _ _ _ hrow1
    have hι1 : ι1 l = ι l := hat1.ext.hι l hln
    rw [hι1] at hrec1
    have hready : rec1.state = .ready := by rw [hlr1.hst]; rfl
    have hlk1 : s1.lk ≤ l := by rw [hat1.hlk]; exact hlk
    obtain ⟨c1, c2⟩ := put_loop (lk := s1.lk) (r' := { rec1 with state := .busy }) (env := env') (ps := ps) (a := a') (b := b') (st := .busy) (pend := pend) hat1.wf hrow1 (by rw [hι1]; exact hrec1) hlk1
      ⟨rfl, hlr1.hpend, hlr1.hpn, hlr1.hps, hlr1.code, hlr1.rep⟩
    rw [hι1] at c1 c2
    refine ⟨_, run_beginRound hrec1 hready, ?_⟩
    have hat2 := hat1.put (dst := none) (v := .undef) (u := undef) rfl .undef c1 c2
    have h2 := code_sound (B := ⟨w, X, ι, σ, n, lk⟩) (r := some (ι l)) (N := N) hdraw hmix cb b hcb _ _ _ _ _ _ hat2 hbody
    refine wpIn_mono h2 (fun e2 a2 w2 hh2 => ?_)
    have fin : ∀ (ex : Ex) (jump : Option Code), jump = (if ex = .normal then none else pendM (some ex)) → jump.isNone = decide (ex = .normal) → (∃ s X' ι', At ⟨w, X, ι, σ, n, lk⟩ (some (ι l)) N s a2 w2 X' ι' ∧
        ((∃ env2 ps2 a2 b2 pend2, s.σ l = some (.loop env2 ps2 a2 b2 .busy pend2)) ∧ Q (.fin ex s.σ s.n))) →
        ∃ v w', (Instr.endRound (ι l) jump).run P w2 = .ok v w' ∧ ∃ ex σ' n' X' ι' env2 ps2 a2 b2 pend2, Ending.returned v = .returned (.bool (decide (ex = .normal))) ∧ Q (.fin ex σ' n') ∧
          σ' l = some (.loop env2 ps2 a2 b2 .busy pend2) ∧ WF w' X' ι' (upd σ' l (some (roundEnd env2 ps2 a2 b2 ex))) n' ∧
          Ext w w' X X' ι ι' σ (upd σ' l (some (roundEnd env2 ps2 a2 b2 ex))) n n' lk := by
      intro ex jump hj hjn ⟨s, X', ι', hat3, ⟨env2, ps2, a2', b2, pend2, hrow2⟩, hq⟩
      obtain ⟨rec2, hrec2, hlr2⟩ := hat3.wf.loop _ _ _ _ _ _ _ hrow2
      have hι2 : ι' l = ι l := hat3.ext.hι l hln
      rw [hι2] at hrec2
      have hlk2 : s.lk ≤ l := by rw [hat3.hlk]; exact hlk
      obtain ⟨d1, d2⟩ := put_loop (lk := s.lk) (r' := { rec2 with state := if jump.isNone then .ready else .done, pending := jump }) (env := env2) (ps := ps2) (a := a2') (b := b2)
        (st := if ex = .normal then .ready else .done) (pend := if ex = .normal then none else some ex) hat3.wf hrow2 (by rw [hι2]; exact hrec2) hlk2
        ⟨by rw [hjn]; cases ex <;> simp [stM], by rw [hj]; cases ex <;> simp [pendM], by cases ex <;> simp, hlr2.hps, hlr2.code, hlr2.rep⟩
      rw [hι2] at d1 d2
      refine ⟨_, _, run_endRound jump hrec2, ex, s.σ, s.n, X', ι', env2, ps2, a2', b2, pend2, by rw [hjn], hq, hrow2, d1, hat3.ext.trans ?_⟩
      rw [hat3.hlk] at d2
      exact d2
    cases e2 with
    | normal => exact fin .normal none rfl rfl hh2
    | ret => exact fin .ret (some .ret) (by simp [pendM]) (by simp) hh2
    | exit id => exact fin (.exit id) (some (.exit id)) (by simp [pendM]) (by simp) hh2
    | goto q => exact hh2.elim
    | panic ch => exact hh2.elim
    | outgrown => exact hh2.elim
  | exit id => obtain ⟨_, _, _, _, h0, _⟩ := hh; cases h0
  | ret => obtain ⟨_, _, _, _, h0, _⟩ := hh; cases h0
  | goto q => exact hh.elim
  | panic ch => exact hh.elim
  | outgrown => exact hh.elim

theorem job_sound (hdraw : @DrawOk (lnk P T) P T) (hmix : P.follows .mixedOrders = true) (hT : TabOf P T) (j : Job) (Q : Out → Prop) (h : jobW T (@sndC (lnk P T) P T) j Q) :
    @sndC (lnk P T) P T j Q := by
  letI := lnk P T
  cases j with
  | pure f ts =>
    obtain ⟨fn, h1, h2, h3, h4⟩ := h
    obtain ⟨F, hF, hc, hname⟩ := hT f fn h1
    obtain ⟨c, hb, -⟩ := cFunc_spec hc
    refine ⟨⟨F, hF, hname, by rw [hb]; rfl⟩, fun w X0 us hX hr => ?_⟩
    refine (body_sound (lk := 0) hdraw hmix hF hc (WF.empty (n := 0) (ι := fun _ => 0) w hX) (Nat.le_refl _) hr h4).mono fun e w' hh => ?_
    obtain ⟨u, v, s, X', ι', rfl, ⟨r, hback, hq⟩, hwf, hrep, hext⟩ := hh
    exact ⟨u, r, rfl, hq, X', ι', s.σ, s.n, v, hwf, hrep, hback, hext⟩
  | raw f args σ n lk =>
    obtain ⟨fn, h1, h2, h4⟩ := h
    obtain ⟨F, hF, hc, hname⟩ := hT f fn h1
    obtain ⟨c, hb, -⟩ := cFunc_spec hc
    refine ⟨⟨F, hF, hname, by rw [hb]; rfl⟩, fun w X ι us hw hl hr => ?_⟩
    refine (body_sound (lk := lk) hdraw hmix hF hc hw hl hr h4).mono fun e w' hh => ?_
    obtain ⟨u, v, s, X', ι', rfl, hq, hwf, hrep, hext⟩ := hh
    exact ⟨u, v, s.σ, s.n, X', ι', rfl, hq, hwf, hrep, hext⟩
  | round l env a b σ n lk => exact round_sound hdraw hmix h

/-- The evaluator's word holds of the machine. -/
theorem run_sound (hdraw : @DrawOk (lnk P T) P T) (hmix : P.follows .mixedOrders = true) (hT : TabOf P T) {j : Job} {Q : Out → Prop} (h : run T j Q) : @sndC (lnk P T) P T j Q :=
  letI := lnk P T
  h (sndC P T) (sndC_mono P T) (job_sound hdraw hmix hT)

end
end Go.Q
