/- What the evaluator comes to when it is run, its rules say. -/
import Derived.Test.YtaigdfomoplchaaQvExec
set_option linter.unusedSimpArgs false
set_option linter.unusedVariables false
namespace Go.Q

section
variable {T : Tab} {C : Calls'} {rec : Job → Option Out}

theorem exCall_sound (hm : MonoC C) (hr : ∀ j o, rec j = some o → C j (fun o' => o' = o)) {fs : Bool} {f : Nat} {args : List V} {σ σ' : Sto} {n n' lk : Nat} {v : V}
    (h : exCall T rec fs f args σ n lk = some (v, σ', n')) {Q : V → Sto → Nat → Prop} (hq : Q v σ' n') : callW T C fs f args σ n lk Q := by
  unfold exCall at h
  unfold callW
  have pure : (match args.mapM (frz σ DEEP) with
    | none => none
    | some ts => match rec (.pure f ts) with
      | some (.val r) =>
        if flat r then some (thaw (dropL σ []) n r)
        else if (fs || (args.flatMap (rch σ DEEP)).isEmpty) && (args.flatMap (rch σ DEEP)).all (fun id => decide (lk ≤ id)) then some (thaw (dropL σ (args.flatMap (rch σ DEEP))) n r) else none
      | _ => none) = some (v, σ', n') → ∃ ts, args.mapM (frz σ DEEP) = some ts ∧ ∃ r, C (.pure f ts) (fun o => o = .val r) ∧
      ∃ D : List Nat, D = (if flat r then [] else args.flatMap (rch σ DEEP)) ∧ (fs = false → D = []) ∧ (∀ id ∈ D, lk ≤ id) ∧
        Q (thaw (dropL σ D) n r).1 (thaw (dropL σ D) n r).2.1 (thaw (dropL σ D) n r).2.2 := by
    intro h
    split at h
    · cases h
    · rename_i ts hts
      split at h
      · rename_i r hrec
        refine ⟨ts, hts, r, hr _ _ hrec, ?_⟩
        split at h
        · rename_i hf
          simp only [Option.some.injEq] at h
          refine ⟨[], by simp [hf], fun _ => rfl, by simp, ?_⟩
          rw [h]; exact hq
        · rename_i hf
          split at h
          · rename_i hc
            simp only [Option.some.injEq] at h
            simp only [Bool.and_eq_true, Bool.or_eq_true, List.all_eq_true, decide_eq_true_eq] at hc
            refine ⟨args.flatMap (rch σ DEEP), by simp [hf], fun hfs => ?_, hc.2, ?_⟩
            · rcases hc.1 with h1 | h1
              · rw [hfs] at h1; cases h1
              · simpa using h1
            · rw [h]; exact hq
          · cases h
      · cases h
  cases hmode : T.mode f <;> simp only [hmode] at h ⊢
  case raw =>
    split at h
    · rename_i hfs
      refine ⟨hfs, ?_⟩
      split at h
      · rename_i v1 σ1 n1 hrec
        simp only [Option.some.injEq, Prod.mk.injEq] at h
        obtain ⟨rfl, rfl, rfl⟩ := h
        exact hm _ _ _ (fun o ho => by subst ho; exact hq) (hr _ _ hrec)
      · cases h
    · cases h
  all_goals exact pure h

theorem exYield_sound (hm : MonoC C) (hr : ∀ j o, rec j = some o → C j (fun o' => o' = o)) {l : Nat} {args : List V} {σ σ' : Sto} {n n' lk : Nat} {v : V}
    (h : exYield rec l args σ n lk = some (v, σ', n')) {Q : V → Sto → Nat → Prop} (hq : Q v σ' n') : yieldW C l args σ n lk Q := by
  unfold exYield at h
  unfold yieldW
  split at h
  · rename_i env ps assign body pend hrow0
    simp only [hrow0]
    split at h
    · rename_i hc
      refine ⟨hc.1, hc.2, ?_⟩
      split at h
      · rename_i ex σ1 n1 hrec
        split at h
        · rename_i env2 ps2 a2 b2 pend2 hrow
          simp only [Option.some.injEq, Prod.mk.injEq] at h
          obtain ⟨rfl, rfl, rfl⟩ := h
          exact hm _ _ _ (fun o ho => by subst ho; exact ⟨env2, ps2, a2, b2, pend2, hrow, hq⟩) (hr _ _ hrec)
        · cases h
      · cases h
    · cases h
  · cases h

theorem exOp_sound (hm : MonoC C) (hr : ∀ j o, rec j = some o → C j (fun o' => o' = o)) {fs : Bool} {ρ : Opd → V} {σ σ' : Sto} {n n' lk : Nat} {ai : AI} {v : V}
    (h : exOp T rec fs ρ σ n lk ai = some (v, σ', n')) {Q : V → Sto → Nat → Prop} (hq : Q v σ' n') : opW T C fs ρ σ n lk ai Q := by
  unfold exOp at h
  split at h
  · simp only [opW]; exact exCall_sound hm hr h hq
  · simp only [opW]
    split at h
    · rename_i hg; simp only [hg]; exact exCall_sound hm hr h hq
    · rename_i hg
      simp only [hg]
      split at h
      · rename_i hfs; exact ⟨hfs, exYield_sound hm hr h hq⟩
      · cases h
    · cases h
  · rename_i h1 h2
    unfold opW
    split
    · exact absurd rfl (h1 _ _)
    · exact absurd rfl (h2 _ _)
    · rw [h]; exact hq

theorem exR_sound (hm : MonoC C) (hr : ∀ j o, rec j = some o → C j (fun o' => o' = o)) : ∀ (ops : List AOp) (s s' : St) (Q : St → Prop), exR T rec ops s = some s' → Q s' → wpR T C ops s Q
  | [], s, s', Q, h, hq => by simp only [exR, Option.some.injEq] at h; subst h; exact hq
  | o :: ops, s, s', Q, h, hq => by
    simp only [exR] at h
    simp only [wpR]
    split at h
    · rename_i hw
      rw [if_pos hw]
      split at h
      · rename_i v σ1 n1 he
        exact exOp_sound hm hr he (exR_sound hm hr ops _ s' Q h hq)
      · cases h
    · rename_i hw
      rw [if_neg hw]
      exact exR_sound hm hr ops _ s' Q h hq

theorem exD_sound (hm : MonoC C) (hr : ∀ j o, rec j = some o → C j (fun o' => o' = o)) (n0 : Nat) : ∀ (ops : List DOp) (s s' : St) (Q : St → Prop), exD T rec n0 ops s = some s' → Q s' → wpD T C n0 ops s Q
  | [], s, s', Q, h, hq => by simp only [exD, Option.some.injEq] at h; subst h; exact hq
  | d :: ds, s, s', Q, h, hq => by
    simp only [exD] at h
    simp only [wpD]
    split at h
    · rename_i hw
      rw [if_pos hw]
      split at h
      · rename_i v σ1 n1 he
        by_cases hle : n1 ≤ n0 + BIG * d.rank + (if d.lays then BIG else 0)
        · rw [if_pos hle] at h
          exact exOp_sound hm hr he ⟨hle, exD_sound hm hr n0 ds _ s' Q h hq⟩
        · rw [if_neg hle] at h; cases h
      · cases h
    · rename_i hw
      rw [if_neg hw]
      exact exD_sound hm hr n0 ds _ s' Q h hq

theorem exS_sound (hm : MonoC C) (hr : ∀ j o, rec j = some o → C j (fun o' => o' = o)) : ∀ (segs : List Seg) (s s' : St) (Q : St → Prop), exS T rec segs s = some s' → Q s' → wpS T C segs s Q
  | [], s, s', Q, h, hq => by simp only [exS, Option.some.injEq] at h; subst h; exact hq
  | g :: gs, s, s', Q, h, hq => by
    simp only [exS] at h
    simp only [wpS]
    split at h
    · rename_i s1 h1
      split at h
      · rename_i s2 h2
        exact exD_sound hm hr s.n g.ds s s1 _ h1 (exR_sound hm hr g.ops _ s2 _ h2 (exS_sound hm hr gs s2 s' Q h hq))
      · cases h
    · cases h

theorem exLoop_sound (hm : MonoC C) {c : AC} {B : St → Option (Ex × St)} (hB : ∀ s ex s' (Q : Ex → St → Prop), B s = some (ex, s') → Q ex s' → wpC T C c s Q) :
    ∀ (k : Nat) (s : St) (ex : Ex) (s' : St) (Q : Ex → St → Prop), exLoop B k s = some (ex, s') → Q ex s' → loopW (wpC T C c) s Q
  | 0, s, ex, s', Q, h, _ => by simp [exLoop] at h
  | k + 1, s, ex, s', Q, h, hq => by
    simp only [exLoop] at h
    refine loopW_step (fun s Q Q' hQ h => wpC_mono (fun _ _ h => h) hm c s Q Q' hQ h) ?_
    split at h
    · rename_i s1 h1
      exact hB s .normal s1 _ h1 (exLoop_sound hm hB k s1 ex s' Q h hq)
    · rename_i hne
      refine hB s ex s' _ h ?_
      cases ex with
      | normal => exact absurd h (hne s')
      | exit i => exact hq
      | ret => exact hq

theorem exC_sound (hm : MonoC C) (hr : ∀ j o, rec j = some o → C j (fun o' => o' = o)) (k : Nat) : ∀ (c : AC) (s : St) (ex : Ex) (s' : St) (Q : Ex → St → Prop), exC T rec k c s = some (ex, s') → Q ex s' → wpC T C c s Q
  | .skip, s, ex, s', Q, h, hq => by
    simp only [exC, Option.some.injEq, Prod.mk.injEq] at h; obtain ⟨rfl, rfl⟩ := h; exact hq
  | .reg ops, s, ex, s', Q, h, hq => by
    simp only [exC, Option.map_eq_some_iff, Prod.mk.injEq] at h
    obtain ⟨s1, h1, rfl, rfl⟩ := h
    exact exR_sound hm hr ops s s1 _ h1 hq
  | .regd segs, s, ex, s', Q, h, hq => by
    simp only [exC, Option.map_eq_some_iff, Prod.mk.injEq] at h
    obtain ⟨s1, h1, rfl, rfl⟩ := h
    exact exS_sound hm hr segs s s1 _ h1 hq
  | .seq a b, s, ex, s', Q, h, hq => by
    simp only [exC] at h
    simp only [wpC]
    split at h
    · rename_i s1 h1
      exact exC_sound hm hr k a s _ s1 _ h1 (exC_sound hm hr k b s1 ex s' Q h hq)
    · rename_i hne
      refine exC_sound hm hr k a s ex s' _ h ?_
      cases ex with
      | normal => exact absurd h (hne s')
      | exit i => exact hq
      | ret => exact hq
  | .cond x a b, s, ex, s', Q, h, hq => by
    simp only [exC] at h
    simp only [wpC]
    split at h
    · rename_i hx; rw [hx]; exact exC_sound hm hr k a s ex s' Q h hq
    · rename_i hx; rw [hx]; exact exC_sound hm hr k b s ex s' Q h hq
    · cases h
  | .block id c, s, ex, s', Q, h, hq => by
    simp only [exC] at h
    simp only [wpC]
    split at h
    · rename_i i s1 h1
      refine exC_sound hm hr k c s _ s1 _ h1 ?_
      simp only [blockW]
      split at h <;> rename_i hi <;> simp only [Option.some.injEq, Prod.mk.injEq] at h <;> obtain ⟨rfl, rfl⟩ := h
      · rw [if_pos hi]; exact hq
      · rw [if_neg hi]; exact hq
    · rename_i hne
      refine exC_sound hm hr k c s ex s' _ h ?_
      cases ex with
      | normal => exact hq
      | exit i => exact absurd h (hne i s')
      | ret => exact hq
  | .loop c, s, ex, s', Q, h, hq => by
    simp only [exC] at h
    simp only [wpC]
    exact exLoop_sound hm (fun s ex s' Q h hq => exC_sound hm hr k c s ex s' Q h hq) k s ex s' Q h hq
  | .rangeF g ps assign body, s, ex, s', Q, h, hq => by
    simp only [exC] at h
    simp only [wpC, rangeW]
    split at h
    · rename_i f caps hg
      rw [hg]
      split at h
      · rename_i hlk
        refine ⟨hlk, ?_⟩
        split at h
        · rename_i v σ1 n1 hrec
          split at h
          · rename_i env a b c pend hrow
            simp only [Option.some.injEq, Prod.mk.injEq] at h
            obtain ⟨rfl, rfl⟩ := h
            exact hm _ _ _ (fun o ho => by subst ho; simp only [hrow]; exact ⟨by simp, hq⟩) (hr _ _ hrec)
          · rename_i env a b c pend hrow
            simp only [Option.some.injEq, Prod.mk.injEq] at h
            obtain ⟨rfl, rfl⟩ := h
            exact hm _ _ _ (fun o ho => by subst ho; simp only [hrow]; exact ⟨by simp, hq⟩) (hr _ _ hrec)
          · cases h
        · cases h
      · cases h
    · cases h
  | .exit id, s, ex, s', Q, h, hq => by
    simp only [exC, Option.some.injEq, Prod.mk.injEq] at h; obtain ⟨rfl, rfl⟩ := h; exact hq
  | .ret, s, ex, s', Q, h, hq => by
    simp only [exC, Option.some.injEq, Prod.mk.injEq] at h; obtain ⟨rfl, rfl⟩ := h; exact hq

end

/-- What a run of the evaluator comes to, calls come to. -/
theorem exJob_sound {T : Tab} : ∀ (k : Nat) (j : Job) (o : Out), exJob T k j = some o → run T j (fun o' => o' = o)
  | 0, j, o, h => by simp [exJob] at h
  | k + 1, .pure f args, o, h => by
    have ih := exJob_sound (T := T) k
    simp only [exJob] at h
    refine run_step ?_
    split at h
    · rename_i fn hfn
      split at h
      · rename_i hc
        refine ⟨fn, hfn, hc.1, hc.2, ?_⟩
        split at h
        · rename_i ex s hex
          refine exC_sound run_mono ih k _ _ ex s _ hex ?_
          split at h
          · rename_i hend
            simp only [Option.bind_eq_some_iff] at h
            obtain ⟨v, hv, h⟩ := h
            refine ⟨hend, v, hv, ?_⟩
            split at h
            · rename_i hown
              split at h
              · rename_i hnd
                simp only [Option.map_eq_some_iff] at h
                obtain ⟨r, hr, rfl⟩ := h
                exact ⟨r, by simp only [back, hown]; exact ⟨hr, hnd⟩, rfl⟩
              · cases h
            · rename_i hown
              simp only [Option.map_eq_some_iff] at h
              obtain ⟨r, hr, rfl⟩ := h
              refine ⟨r, ?_, rfl⟩
              unfold back
              split
              · rename_i hm; exact absurd hm hown
              · exact hr
          · cases h
        · cases h
      · cases h
    · cases h
  | k + 1, .raw f args σ n lk, o, h => by
    have ih := exJob_sound (T := T) k
    simp only [exJob] at h
    refine run_step ?_
    split at h
    · rename_i fn hfn
      split at h
      · rename_i hc
        refine ⟨fn, hfn, hc, ?_⟩
        split at h
        · rename_i ex s hex
          refine exC_sound run_mono ih k _ _ ex s _ hex ?_
          split at h
          · rename_i hend
            simp only [Option.map_eq_some_iff] at h
            obtain ⟨v, hv, rfl⟩ := h
            exact ⟨hend, v, hv, rfl⟩
          · cases h
        · cases h
      · cases h
    · cases h
  | k + 1, .round l env a b σ n lk, o, h => by
    have ih := exJob_sound (T := T) k
    simp only [exJob] at h
    refine run_step ?_
    split at h
    · rename_i s hs
      refine exC_sound run_mono ih k _ _ _ s _ hs ?_
      refine ⟨rfl, ?_⟩
      split at h
      · rename_i env' ps a' b' pend hrow
        refine ⟨env', ps, a', b', pend, hrow, ?_⟩
        split at h
        · rename_i ex s' hs'
          refine exC_sound run_mono ih k _ _ ex s' _ hs' ?_
          split at h
          · rename_i e2 p2 a2 b2 d2 hrow2
            simp only [Option.some.injEq] at h
            exact ⟨⟨_, _, _, _, _, hrow2⟩, h⟩
          · cases h
        · cases h
      · cases h
    · cases h

end Go.Q
