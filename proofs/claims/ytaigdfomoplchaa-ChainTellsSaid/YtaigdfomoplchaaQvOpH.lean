/- Every operation that is no call, run, does what the evaluator says. -/
import Derived.Test.YtaigdfomoplchaaQvOpG
set_option linter.unusedSimpArgs false
set_option linter.unusedVariables false
set_option linter.unusedSectionVars false
namespace Go.Q
variable [Link]

section
variable {P : Program} {w : World} {X : Nat → Prop} {ι : Nat → Nat} {σ σ' : Sto} {n n' lk : Nat} {ρ : Operand → Value} {ρ' : Opd → V}

theorem optOk_of {lo : Option Operand} {lo' : Option Opd} (h : cOpt lo = some lo') : optOk lo lo' := by
  cases lo with
  | none => simp [cOpt] at h; exact .inl ⟨rfl, h.symm⟩
  | some y =>
    simp only [cOpt, Option.map_eq_some_iff] at h
    obtain ⟨y', hy, rfl⟩ := h
    exact .inr ⟨y, y', rfl, rfl, hy⟩

theorem nilS_of {y : Operand} {x : V} (h : cOpd y = some (.con .nilS)) (hr : Rep w X ι n .nilS (ρ y)) : ρ y = .slice none 0 0 := by
  generalize ρ y = z at *
  cases hr; rfl

theorem nilF_of {y : Operand} (h : cOpd y = some (.con .nilF)) (hr : Rep w X ι n .nilF (ρ y)) : ρ y = .nilFunc := by
  generalize ρ y = z at *
  cases hr; rfl

theorem opdEq_val {l c : Operand} (h : opdEq l c = true) (hρc : ∀ v, ρ (.const v) = v) : ρ c = ρ l := by
  unfold opdEq at h
  split at h
  · simp at h; subst h; rfl
  · simp at h; obtain ⟨rfl, rfl⟩ := h; rfl
  · cases h

theorem op_sound (hw : WF w X ι σ n) (hl : lk ≤ n) (hρ : ∀ (x : Operand) (x' : Opd), cOpd x = some x' → Rep w X ι n (ρ' x') (ρ x)) (hcon : ∀ v, ρ' (.con v) = v) (hρc : ∀ v, ρ (.const v) = v)
    {o : Oper} {ai : AI} (hc : cOp P o = some ai) {v : V} (he : ev ρ' σ n lk ai = some (v, σ', n')) : Good w X ι σ n lk ((execOp ρ o).run P w) v σ' n' := by
  obtain ⟨dst, op, ty, pos, after, guard⟩ := o
  cases op <;> simp only [cOp, reduceCtorEq] at hc
  case move x =>
    simp only [Option.map_eq_some_iff] at hc
    obtain ⟨x', hx, rfl⟩ := hc
    simp only [ev, Option.some.injEq, Prod.mk.injEq] at he
    obtain ⟨rfl, rfl, rfl⟩ := he
    exact good_pure hw rfl (hρ _ _ hx)
  case assign x =>
    simp only [Option.map_eq_some_iff] at hc
    obtain ⟨x', hx, rfl⟩ := hc
    simp only [ev, Option.some.injEq, Prod.mk.injEq] at he
    obtain ⟨rfl, rfl, rfl⟩ := he
    exact good_pure hw rfl (hρ _ _ hx)
  case pick c a b =>
    simp only [Option.bind_eq_bind, Option.bind_eq_some_iff, Option.some.injEq] at hc
    obtain ⟨c', hc', a', ha, b', hb, rfl⟩ := hc
    exact ev_pick hw (hρ _ _ hc') (hρ _ _ ha) (hρ _ _ hb) he
  case alloc t =>
    simp only [Option.bind_eq_bind, Option.bind_eq_some_iff] at hc
    obtain ⟨i, hi, hc⟩ := hc
    split at hc
    · simp only [Option.some.injEq] at hc; subst hc
      exact ev_alloc hw hl hi he
    · cases hc
  case box t x =>
    simp only [Option.map_eq_some_iff] at hc
    obtain ⟨x', hx, rfl⟩ := hc
    exact ev_box hw hl (hρ _ _ hx) he
  case build t ps =>
    simp only [Option.bind_eq_bind, Option.bind_eq_some_iff] at hc
    obtain ⟨i, hi, hc⟩ := hc
    split at hc
    · rename_i fs hd
      simp only [Option.bind_eq_some_iff] at hc
      obtain ⟨pl, hpl, qs, hq, hc⟩ := hc
      split at hc
      · simp only [Option.some.injEq] at hc; subst hc
        exact ev_build_struct hw hρ hi hd hpl hq he
      · cases hc
    · rename_i m e hd
      simp only [Option.bind_eq_some_iff] at hc
      obtain ⟨j, hj, qs, hq, hc⟩ := hc
      split at hc
      · simp only [Option.some.injEq] at hc; subst hc
        exact ev_build_array hw hρ hi hd hj hq he
      · cases hc
    · cases hc
  case buildSlice t len ps =>
    simp only [Option.bind_eq_bind, Option.bind_eq_some_iff] at hc
    obtain ⟨d, hd, hc⟩ := hc
    split at hc
    · rename_i e
      simp only [Option.bind_eq_some_iff] at hc
      obtain ⟨j, hj, es, hes, hc⟩ := hc
      split at hc
      · rename_i hcond
        simp only [Option.some.injEq] at hc; subst hc
        simp only [Bool.and_eq_true, beq_iff_eq, decide_eq_true_eq] at hcond
        exact ev_lit hw hl hρ hd hj hes hcond.1.1 hcond.1.2 hcond.2 he
      · cases hc
    · cases hc
  case load t x =>
    simp only [Option.bind_eq_bind, Option.bind_eq_some_iff] at hc
    obtain ⟨i, hi, x', hx, hc⟩ := hc
    split at hc
    · rename_i hcond
      simp only [Option.some.injEq] at hc; subst hc
      simp only [Bool.or_eq_true, beq_iff_eq] at hcond
      exact ev_load hw (hρ _ _ hx) hi hcond he
    · cases hc
  case store t a x =>
    simp only [Option.bind_eq_bind, Option.bind_eq_some_iff, Option.some.injEq] at hc
    obtain ⟨i, hi, a', ha, x', hx, rfl⟩ := hc
    exact ev_store hw (hρ _ _ ha) (hρ _ _ hx) hi he
  case nilCheck x =>
    simp only [Option.map_eq_some_iff] at hc
    obtain ⟨x', hx, rfl⟩ := hc
    exact ev_nilck hw rfl (hρ _ _ hx) he
  case binOp bop t x y t' =>
    simp only [Option.bind_eq_bind, Option.bind_eq_some_iff] at hc
    obtain ⟨x', hx, y', hy, hc⟩ := hc
    split at hc
    · rename_i k ht
      simp only [Option.some.injEq] at hc; subst hc
      exact ev_bin hw (hρ _ _ hx) (hρ _ _ hy) he
    · rename_i ht
      simp only [Option.some.injEq] at hc; subst hc
      exact ev_bin hw (hρ _ _ hx) (hρ _ _ hy) he
    · rename_i ht
      split at hc <;> simp only [Option.some.injEq, reduceCtorEq] at hc <;> subst hc
      · exact ev_eqB (neg := false) hw ht (hρ _ _ hx) (hρ _ _ hy) he
      · exact ev_eqB (neg := true) hw ht (hρ _ _ hx) (hρ _ _ hy) he
    · rename_i e ht
      split at hc <;> simp only [Option.some.injEq, reduceCtorEq] at hc <;> subst hc
      · exact ev_eqN (neg := false) hw ht (hρ _ _ hx) (nilS_of (x := .nilS) hy (by have := hρ _ _ hy; rwa [hcon] at this)) he
      · exact ev_eqN (neg := true) hw ht (hρ _ _ hx) (nilS_of (x := .nilS) hy (by have := hρ _ _ hy; rwa [hcon] at this)) he
    · rename_i fs ht
      simp only [Option.bind_eq_some_iff] at hc
      obtain ⟨ks, hks, hc⟩ := hc
      split at hc <;> simp only [Option.some.injEq, reduceCtorEq] at hc <;> subst hc
      · exact ev_eqA (neg := false) hw ht hks (hρ _ _ hx) (hρ _ _ hy) he
      · exact ev_eqA (neg := true) hw ht hks (hρ _ _ hx) (hρ _ _ hy) he
    · rename_i ps rs b ht
      split at hc <;> simp only [Option.some.injEq, reduceCtorEq] at hc <;> subst hc
      · exact ev_eqF (neg := false) hw ht (hρ _ _ hx) (nilF_of hy (by have := hρ _ _ hy; rwa [hcon] at this)) he
      · exact ev_eqF (neg := true) hw ht (hρ _ _ hx) (nilF_of hy (by have := hρ _ _ hy; rwa [hcon] at this)) he
    · cases hc
  case unOp uop t x =>
    simp only [Option.map_eq_some_iff] at hc
    obtain ⟨x', hx, rfl⟩ := hc
    exact ev_un hw (hρ _ _ hx) he
  case convert s d x =>
    simp only [Option.bind_eq_bind, Option.bind_eq_some_iff] at hc
    obtain ⟨x', hx, hc⟩ := hc
    split at hc
    · rename_i j k hs hd
      simp only [Option.some.injEq] at hc; subst hc
      exact ev_conv hw hs hd (hρ _ _ hx) he
    · cases hc
  case makeInterface t x =>
    split at hc
    · cases hc
    · cases hc
    · rename_i h1 h2
      simp only [Option.map_eq_some_iff] at hc
      obtain ⟨x', hx, rfl⟩ := hc
      simp only [ev, Option.some.injEq, Prod.mk.injEq] at he
      obtain ⟨rfl, rfl, rfl⟩ := he
      cases hd : P.underlying t with
      | none => exact absurd hd h2
      | some d =>
        refine good_pure hw (u := .iface t (ρ x)) ?_ (.iface _ _ _ (hρ _ _ hx))
        have : ∀ ms, d ≠ .interface ms := fun ms e => h1 ms (by rw [hd, e])
        simp only [execOp, Instr.makeInterface, Sem.run_bind, run_underlying hd, Result.andThen_ok]
        cases d <;> first | rfl | exact absurd rfl (this _)
  case makeFunc fn first cs =>
    split at hc
    · rename_i f
      split at hc
      · rename_i hemp
        simp only [Option.map_eq_some_iff] at hc
        obtain ⟨es, hes, rfl⟩ := hc
        simp only [ev, Option.some.injEq, Prod.mk.injEq] at he
        obtain ⟨rfl, rfl, rfl⟩ := he
        obtain ⟨e1, e2⟩ := cOpds_spec hes hρ
        have hf : first = #[] := by simpa using hemp
        subst hf
        refine good_pure hw (u := .func (.func f) #[] (cs.map ρ)) ?_ (.fn _ _ _ (by simp [e1]) (fun i e u he hu => e2 i e u he (by simpa using hu)))
        simp [execOp, Instr.makeFunc]
      · cases hc
    · cases hc
  case makeSlice t l c =>
    simp only [Option.bind_eq_bind, Option.bind_eq_some_iff] at hc
    obtain ⟨d, hd, hc⟩ := hc
    split at hc
    · rename_i e
      simp only [Option.bind_eq_some_iff] at hc
      obtain ⟨j, hj, hc⟩ := hc
      split at hc
      · rename_i hcond
        simp only [Bool.and_eq_true] at hcond
        simp only [Option.map_eq_some_iff] at hc
        obtain ⟨l', hl', rfl⟩ := hc
        exact ev_mksl hw hl (hρ _ _ hl') (opdEq_val hcond.2 hρc) hd hj hcond.1 he
      · cases hc
    · cases hc
  case slice t x lo hi mx =>
    cases mx with
    | some m => simp at hc
    | none =>
      simp only [Option.bind_eq_bind, Option.bind_some, Option.bind_eq_some_iff] at hc
      obtain ⟨x', hx, lo', hlo, hi', hhi, hc⟩ := hc
      split at hc
      · rename_i e ht
        simp only [Option.map_eq_some_iff] at hc
        obtain ⟨j, hj, rfl⟩ := hc
        exact ev_slice hw hρ hx (optOk_of hlo) (optOk_of hhi) ht hj he
      · rename_i ht
        simp only [Option.some.injEq] at hc; subst hc
        exact ev_sliceS hw hρ hx (optOk_of hlo) (optOk_of hhi) ht he
      · cases hc
  case fieldAddr s x f =>
    simp only [Option.bind_eq_bind, Option.bind_eq_some_iff] at hc
    obtain ⟨d, hd, hc⟩ := hc
    split at hc
    · rename_i fs
      simp only [Option.bind_eq_some_iff] at hc
      obtain ⟨g, hg, j, hj, hc⟩ := hc
      split at hc
      · rename_i h0
        simp only [Option.map_eq_some_iff] at hc
        obtain ⟨x', hx, rfl⟩ := hc
        exact ev_faddr hw (hρ _ _ hx) hd hg hj h0 he
      · cases hc
    · cases hc
  case field s x f =>
    simp only [Option.bind_eq_bind, Option.bind_eq_some_iff] at hc
    obtain ⟨d, hd, hc⟩ := hc
    split at hc
    · rename_i fs
      simp only [Option.bind_eq_some_iff] at hc
      obtain ⟨g, hg, j, hj, hc⟩ := hc
      split at hc
      · rename_i h1
        simp only [Bool.or_eq_true, beq_iff_eq] at h1
        simp only [Option.map_eq_some_iff] at hc
        obtain ⟨x', hx, rfl⟩ := hc
        exact ev_fld hw (hρ _ _ hx) hd hg hj h1 he
      · cases hc
    · cases hc
  case indexAddr t x i =>
    simp only [Option.bind_eq_bind, Option.bind_eq_some_iff] at hc
    obtain ⟨x', hx, i', hi, hc⟩ := hc
    split at hc
    · rename_i e ht
      simp only [Option.map_eq_some_iff] at hc
      obtain ⟨j, hj, rfl⟩ := hc
      exact ev_iaddr hw (hρ _ _ hx) (hρ _ _ hi) ht hj he
    · rename_i m e ht
      simp only [Option.map_eq_some_iff] at hc
      obtain ⟨j, hj, rfl⟩ := hc
      exact ev_iaddrA hw (hρ _ _ hx) (hρ _ _ hi) ht hj he
    · cases hc
  case index t x i =>
    simp only [Option.bind_eq_bind, Option.bind_eq_some_iff] at hc
    obtain ⟨x', hx, i', hi, hc⟩ := hc
    split at hc
    · rename_i ht
      simp only [Option.some.injEq] at hc; subst hc
      exact ev_idxS hw (hρ _ _ hx) (hρ _ _ hi) ht he
    · rename_i m e ht
      simp only [Option.bind_eq_some_iff] at hc
      obtain ⟨j, hj, hc⟩ := hc
      split at hc
      · rename_i h1
        simp only [Bool.or_eq_true, beq_iff_eq] at h1
        simp only [Option.some.injEq] at hc; subst hc
        exact ev_idxA hw (hρ _ _ hx) (hρ _ _ hi) ht hj h1 he
      · cases hc
    · cases hc
  case extract x i =>
    simp only [Option.map_eq_some_iff] at hc
    obtain ⟨x', hx, rfl⟩ := hc
    exact ev_ext hw (hρ _ _ hx) he
  case call c =>
    obtain ⟨callee, args, argTypes⟩ := c
    split at hc
    · rename_i hcal
      have hex : execOp ρ ⟨dst, .call ⟨callee, args, argTypes⟩, ty, pos, after, guard⟩ = (do pure (Next.value (← Builtin.len_ argTypes ty (args.map ρ))) : Sem Next) := by subst hcal; rfl
      rw [hex]
      split at hc
      · rename_i x t h1 h2
        have e1 : args = #[x] := by apply Array.toList_inj.1; simpa using h1
        have e2 : argTypes = #[t] := by apply Array.toList_inj.1; simpa using h2
        subst e1; subst e2
        split at hc
        · rename_i ht
          simp only [Option.map_eq_some_iff] at hc
          obtain ⟨x', hx, rfl⟩ := hc
          have e3 : Array.map ρ #[x] = #[ρ x] := by simp
          rw [e3]
          exact ev_lenS hw ht (hρ _ _ hx) he
        · rename_i e ht
          simp only [Option.map_eq_some_iff] at hc
          obtain ⟨x', hx, rfl⟩ := hc
          have e3 : Array.map ρ #[x] = #[ρ x] := by simp
          rw [e3]
          exact ev_len hw ht (hρ _ _ hx) he
        · cases hc
      · cases hc
    · rename_i hcal
      have hex : execOp ρ ⟨dst, .call ⟨callee, args, argTypes⟩, ty, pos, after, guard⟩ = (do pure (Next.value (← Builtin.min_ argTypes ty (args.map ρ))) : Sem Next) := by subst hcal; rfl
      rw [hex]
      simp only [Option.map_eq_some_iff] at hc
      obtain ⟨es, hes, rfl⟩ := hc
      obtain ⟨e1, e2⟩ := cOpds_spec hes hρ
      simp only [ev] at he
      split at he
      · rename_i x ys hxs
        simp only [Option.map_eq_some_iff, Prod.mk.injEq] at he
        obtain ⟨v', hv, rfl, rfl, rfl⟩ := he
        rw [hxs] at e2
        cases hargs : args.toList with
        | nil => have := congrArg List.length hxs; rw [hargs] at e1; simp at this e1; rw [e1] at this; simp at this
        | cons a as =>
          rw [hargs] at e1 e2
          have hlen : ys.length = as.length := by have := congrArg List.length hxs; simp at this e1; omega
          obtain ⟨r, h1, h2⟩ := foldM_min (P := P) (w := w) (X := X) (ι := ι) (n := n) ys (as.map ρ) x v' (ρ a) (by simpa using hlen) (fun i e u he hu => e2 (i + 1) e u (by simpa using he) (by simpa using hu)) (e2 0 x (ρ a) rfl rfl) hv
          refine good_pure hw ?_ h2
          have hm : (args.map ρ).toList = ρ a :: as.map ρ := by simp [hargs]
          simp only [Sem.run_bind, Builtin.min_, hm, h1, Result.andThen_ok, Sem.run_pure]
      · cases he
    · rename_i hcal
      have hex : execOp ρ ⟨dst, .call ⟨callee, args, argTypes⟩, ty, pos, after, guard⟩ = (do pure (Next.value (← Builtin.max_ argTypes ty (args.map ρ))) : Sem Next) := by subst hcal; rfl
      rw [hex]
      simp only [Option.map_eq_some_iff] at hc
      obtain ⟨es, hes, rfl⟩ := hc
      obtain ⟨e1, e2⟩ := cOpds_spec hes hρ
      simp only [ev] at he
      split at he
      · rename_i x ys hxs
        simp only [Option.map_eq_some_iff, Prod.mk.injEq] at he
        obtain ⟨v', hv, rfl, rfl, rfl⟩ := he
        rw [hxs] at e2
        cases hargs : args.toList with
        | nil => have := congrArg List.length hxs; rw [hargs] at e1; simp at this e1; rw [e1] at this; simp at this
        | cons a as =>
          rw [hargs] at e1 e2
          have hlen : ys.length = as.length := by have := congrArg List.length hxs; simp at this e1; omega
          obtain ⟨r, h1, h2⟩ := foldM_max (P := P) (w := w) (X := X) (ι := ι) (n := n) ys (as.map ρ) x v' (ρ a) (by simpa using hlen) (fun i e u he hu => e2 (i + 1) e u (by simpa using he) (by simpa using hu)) (e2 0 x (ρ a) rfl rfl) hv
          refine good_pure hw ?_ h2
          have hm : (args.map ρ).toList = ρ a :: as.map ρ := by simp [hargs]
          simp only [Sem.run_bind, Builtin.max_, hm, h1, Result.andThen_ok, Sem.run_pure]
      · cases he
    · rename_i hcal
      have hex : execOp ρ ⟨dst, .call ⟨callee, args, argTypes⟩, ty, pos, after, guard⟩ = (do pure (Next.value (← Builtin.append_ argTypes ty (args.map ρ))) : Sem Next) := by subst hcal; rfl
      rw [hex]
      split at hc
      · rename_i x y t t' h1 h2
        have e1 : args = #[x, y] := by apply Array.toList_inj.1; simpa using h1
        have e2 : argTypes = #[t, t'] := by apply Array.toList_inj.1; simpa using h2
        subst e1; subst e2
        simp only [Option.bind_eq_bind, Option.bind_eq_some_iff] at hc
        obtain ⟨d, hd, hc⟩ := hc
        split at hc
        · rename_i e
          simp only [Option.bind_eq_some_iff] at hc
          obtain ⟨d', hd', hc⟩ := hc
          split at hc
          · rename_i e'
            simp only [Option.bind_eq_some_iff] at hc
            obtain ⟨j, hj, hc⟩ := hc
            split at hc
            · rename_i hflat
              simp only [Option.bind_eq_some_iff, Option.some.injEq] at hc
              obtain ⟨x', hx, y', hy, rfl⟩ := hc
              have e3 : Array.map ρ #[x, y] = #[ρ x, ρ y] := by simp
              rw [e3]
              exact ev_append hw hl (hρ _ _ hx) (hρ _ _ hy) hd hd' hj hflat he
            · cases hc
          · cases hc
        · cases hc
      · cases hc
    · simp only [Option.map_eq_some_iff] at hc
      obtain ⟨es, hes, rfl⟩ := hc
      simp [ev] at he
    · simp only [Option.bind_eq_bind, Option.bind_eq_some_iff, Option.some.injEq] at hc
      obtain ⟨g', hg, es, hes, rfl⟩ := hc
      simp [ev] at he
    · cases hc

end
end Go.Q
