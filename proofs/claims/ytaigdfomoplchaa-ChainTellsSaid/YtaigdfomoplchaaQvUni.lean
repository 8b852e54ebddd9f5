/- A run comes to one end: what two runs of one job say holds of one outcome. -/
import Derived.Test.YtaigdfomoplchaaQvRun
set_option linter.unusedSimpArgs false
set_option linter.unusedVariables false
namespace Go.Q

section
variable {T : Tab}

/-- Two posts meet. -/
def MeetC (C C' : Calls') : Prop := ∀ j Q Q', C j Q → C' j Q' → ∃ o, Q o ∧ Q' o

variable {C C' : Calls'}

theorem callW_meet (h : MeetC C C') {fs : Bool} {f : Nat} {args : List V} {σ : Sto} {n lk : Nat} {Q Q' : V → Sto → Nat → Prop}
    (h1 : callW T C fs f args σ n lk Q) (h2 : callW T C' fs f args σ n lk Q') : ∃ v σ' n', Q v σ' n' ∧ Q' v σ' n' := by
  unfold callW at *
  cases hmode : T.mode f <;> simp only [hmode] at h1 h2
  case raw =>
    obtain ⟨o, ho, ho'⟩ := h _ _ _ h1.2 h2.2
    cases o <;> try exact ho.elim
    exact ⟨_, _, _, ho, ho'⟩
  all_goals
    obtain ⟨ts, a1, r, a2, D, a3, a4, a5, a6⟩ := h1
    obtain ⟨ts', b1, r', b2, D', b3, b4, b5, b6⟩ := h2
    rw [a1] at b1
    cases b1
    obtain ⟨o, ho, ho'⟩ := h _ _ _ a2 b2
    have hr := ho.symm.trans ho'
    simp only [Out.val.injEq] at hr
    subst hr
    have hD := a3.trans b3.symm
    subst hD
    exact ⟨_, _, _, a6, b6⟩

theorem yieldW_meet (h : MeetC C C') {l : Nat} {args : List V} {σ : Sto} {n lk : Nat} {Q Q' : V → Sto → Nat → Prop}
    (h1 : yieldW C l args σ n lk Q) (h2 : yieldW C' l args σ n lk Q') : ∃ v σ' n', Q v σ' n' ∧ Q' v σ' n' := by
  unfold yieldW at *
  split at h1
  · rename_i hl
    simp only [hl] at h2
    obtain ⟨o, ho, ho'⟩ := h _ _ _ h1.2.2 h2.2.2
    cases o <;> try exact ho.elim
    obtain ⟨a1, a2, a3, a4, a5, e1, q1⟩ := ho
    obtain ⟨b1, b2, b3, b4, b5, e2, q2⟩ := ho'
    rw [e1] at e2
    cases e2
    exact ⟨_, _, _, q1, q2⟩
  · exact h1.elim

theorem opW_meet (h : MeetC C C') {fs : Bool} {ρ : Opd → V} {σ : Sto} {n lk : Nat} {ai : AI} {Q Q' : V → Sto → Nat → Prop}
    (h1 : opW T C fs ρ σ n lk ai Q) (h2 : opW T C' fs ρ σ n lk ai Q') : ∃ v σ' n', Q v σ' n' ∧ Q' v σ' n' := by
  unfold opW at *
  split at h1
  · exact callW_meet h h1 h2
  · split at h1
    · rename_i hg; exact callW_meet h h1 (by simpa only [hg] using h2)
    · rename_i hg; simp only [hg] at h2; exact yieldW_meet h h1.2 h2.2
    · exact h1.elim
  · split at h1
    · rename_i v σ' n' he; exact ⟨_, _, _, h1, by simpa only [he] using h2⟩
    · exact h1.elim

theorem wpR_meet (h : MeetC C C') : ∀ (ops : List AOp) (s : St) (Q Q' : St → Prop), wpR T C ops s Q → wpR T C' ops s Q' → ∃ s', Q s' ∧ Q' s'
  | [], s, Q, Q', h1, h2 => ⟨s, h1, h2⟩
  | o :: ops, s, Q, Q', h1, h2 => by
    simp only [wpR] at *
    split at h1 <;> rename_i hw <;> simp only [hw, if_true, if_false, Bool.false_eq_true] at h2
    · obtain ⟨v, σ', n', a, b⟩ := opW_meet h h1 h2
      exact wpR_meet h ops _ _ _ a b
    · exact wpR_meet h ops _ _ _ h1 h2

theorem wpD_meet (h : MeetC C C') (n0 : Nat) : ∀ (ops : List DOp) (s : St) (Q Q' : St → Prop), wpD T C n0 ops s Q → wpD T C' n0 ops s Q' → ∃ s', Q s' ∧ Q' s'
  | [], s, Q, Q', h1, h2 => ⟨s, h1, h2⟩
  | d :: ops, s, Q, Q', h1, h2 => by
    simp only [wpD] at *
    split at h1 <;> rename_i hw <;> simp only [hw, if_true, if_false, Bool.false_eq_true] at h2
    · obtain ⟨v, σ', n', a, b⟩ := opW_meet h h1 h2
      exact wpD_meet h n0 ops _ _ _ a.2 b.2
    · exact wpD_meet h n0 ops _ _ _ h1 h2

theorem wpS_meet (h : MeetC C C') : ∀ (segs : List Seg) (s : St) (Q Q' : St → Prop), wpS T C segs s Q → wpS T C' segs s Q' → ∃ s', Q s' ∧ Q' s'
  | [], s, Q, Q', h1, h2 => ⟨s, h1, h2⟩
  | g :: gs, s, Q, Q', h1, h2 => by
    obtain ⟨s1, a, b⟩ := wpD_meet h s.n g.ds s _ _ h1 h2
    obtain ⟨s2, a, b⟩ := wpR_meet h g.ops _ _ _ a b
    exact wpS_meet h gs s2 _ _ a b

theorem thenW_meet {K K' : St → Prop} {Q Q' : Ex → St → Prop} {e : Ex} {s : St} (hk : K s → K' s → ∃ e s', Q e s' ∧ Q' e s')
    (h1 : thenW K Q e s) (h2 : thenW K' Q' e s) : ∃ e s', Q e s' ∧ Q' e s' := by
  cases e <;> simp only [thenW] at h1 h2
  · exact hk h1 h2
  · exact ⟨_, _, h1, h2⟩
  · exact ⟨_, _, h1, h2⟩

theorem loopW_out {B : St → (Ex → St → Prop) → Prop} (hB : ∀ s Q Q', (∀ e s, Q e s → Q' e s) → B s Q → B s Q') {s : St} {Q : Ex → St → Prop}
    (h : loopW B s Q) : B s (thenW (fun s' => loopW B s' Q) Q) :=
  h (fun s => B s (thenW (fun s' => loopW B s' Q) Q)) fun s hs => hB s _ _ (fun e s' hh => by
    cases e <;> simp only [thenW] at *
    · exact loopW_step hB hh
    · exact hh
    · exact hh) hs

theorem wpC_meet (hm' : MonoC C') (h : MeetC C C') : ∀ (c : AC) (s : St) (Q Q' : Ex → St → Prop), wpC T C c s Q → wpC T C' c s Q' → ∃ e s', Q e s' ∧ Q' e s'
  | .skip, s, Q, Q', h1, h2 => ⟨_, _, h1, h2⟩
  | .reg ops, s, Q, Q', h1, h2 => by
    obtain ⟨s', a, b⟩ := wpR_meet h ops s _ _ h1 h2
    exact ⟨_, _, a, b⟩
  | .regd segs, s, Q, Q', h1, h2 => by
    obtain ⟨s', a, b⟩ := wpS_meet h segs s _ _ h1 h2
    exact ⟨_, _, a, b⟩
  | .seq a b, s, Q, Q', h1, h2 => by
    simp only [wpC] at h1 h2
    obtain ⟨e, s', p, q⟩ := wpC_meet hm' h a s _ _ h1 h2
    exact thenW_meet (fun x y => wpC_meet hm' h b s' _ _ x y) p q
  | .cond x a b, s, Q, Q', h1, h2 => by
    simp only [wpC] at h1 h2
    split at h1
    · rename_i hx; simp only [hx] at h2; exact wpC_meet hm' h a s _ _ h1 h2
    · rename_i hx; simp only [hx] at h2; exact wpC_meet hm' h b s _ _ h1 h2
    · exact h1.elim
  | .block id c, s, Q, Q', h1, h2 => by
    simp only [wpC] at h1 h2
    obtain ⟨e, s', p, q⟩ := wpC_meet hm' h c s _ _ h1 h2
    cases e <;> simp only [blockW] at p q
    · exact ⟨_, _, p, q⟩
    · split at p <;> rename_i hi <;> simp only [hi, if_true, if_false] at q
      · exact ⟨_, _, p, q⟩
      · exact ⟨_, _, p, q⟩
    · exact ⟨_, _, p, q⟩
  | .loop c, s, Q, Q', h1, h2 => by
    simp only [wpC] at h1 h2
    refine h1 (fun s => loopW (wpC T C' c) s Q' → ∃ e s', Q e s' ∧ Q' e s') (fun s hs h2 => ?_) h2
    obtain ⟨e, s', p, q⟩ := wpC_meet hm' h c s _ _ hs (loopW_out (fun s Q Q' hq hh => wpC_mono (fun _ _ x => x) hm' c s Q Q' hq hh) h2)
    exact thenW_meet (fun x y => x y) p q
  | .rangeF g ps assign body, s, Q, Q', h1, h2 => by
    simp only [wpC, rangeW] at h1 h2
    split at h1
    · rename_i hg
      simp only [hg] at h2
      obtain ⟨o, ho, ho'⟩ := h _ _ _ h1.2 h2.2
      cases o <;> try exact ho.elim
      simp only at ho ho'
      split at ho
      · rename_i hl
        simp only [hl] at ho'
        exact ⟨_, _, ho.2, ho'.2⟩
      · exact ho.elim
    · exact h1.elim
  | .exit id, s, Q, Q', h1, h2 => ⟨_, _, h1, h2⟩
  | .ret, s, Q, Q', h1, h2 => ⟨_, _, h1, h2⟩

theorem back_one {m : Mode} {σ : Sto} {v r r' : V} (h : back m σ v r) (h' : back m σ v r') : r = r' := by
  cases m <;> simp only [back] at h h'
  · exact Option.some.inj (h.symm.trans h')
  · exact Option.some.inj (h.1.symm.trans h'.1)
  · exact Option.some.inj (h.symm.trans h')

theorem jobW_meet (hm' : MonoC C') (h : MeetC C C') {j : Job} {Q Q' : Out → Prop} (h1 : jobW T C j Q) (h2 : jobW T C' j Q') : ∃ o, Q o ∧ Q' o := by
  cases j <;> simp only [jobW] at h1 h2
  · obtain ⟨fn, a1, a2, a3, a4⟩ := h1
    obtain ⟨fn', b1, b2, b3, b4⟩ := h2
    rw [a1] at b1; cases b1
    obtain ⟨e, s, ⟨p1, v, p2, r, p3, p4⟩, ⟨q1, v', q2, r', q3, q4⟩⟩ := wpC_meet hm' h _ _ _ _ a4 b4
    rw [p2] at q2; cases q2
    cases back_one p3 q3
    exact ⟨_, p4, q4⟩
  · obtain ⟨fn, a1, a2, a4⟩ := h1
    obtain ⟨fn', b1, b2, b4⟩ := h2
    rw [a1] at b1; cases b1
    obtain ⟨e, s, ⟨p1, v, p2, p4⟩, ⟨q1, v', q2, q4⟩⟩ := wpC_meet hm' h _ _ _ _ a4 b4
    rw [p2] at q2; cases q2
    exact ⟨_, p4, q4⟩
  · obtain ⟨e, s, ⟨p1, x1, x2, x3, x4, x5, p2, p3⟩, ⟨q1, y1, y2, y3, y4, y5, q2, q3⟩⟩ := wpC_meet hm' h _ _ _ _ h1 h2
    rw [p2] at q2; cases q2
    obtain ⟨e', s', ⟨_, p4⟩, ⟨_, q4⟩⟩ := wpC_meet hm' h _ _ _ _ p3 q3
    exact ⟨_, p4, q4⟩

theorem run_out {j : Job} {Q : Out → Prop} (h : run T j Q) : jobW T (run T) j Q :=
  h (fun j Q => jobW T (run T) j Q) (fun j Q Q' hq hh => jobW_mono (fun _ _ x => x) run_mono hq hh)
    (fun j Q hh => jobW_mono (fun j Q x => run_step x) run_mono (fun _ x => x) hh)

theorem run_meet : MeetC (run T) (run T) := fun j Q Q' h h' => by
  refine h (fun j Q => ∀ Q', run T j Q' → ∃ o, Q o ∧ Q' o) (fun j Q Q' hq hh R hR => ?_) (fun j Q hh Q' hQ' => ?_) Q' h'
  · obtain ⟨o, a, b⟩ := hh R hR
    exact ⟨o, hq o a, b⟩
  · exact jobW_meet run_mono (fun j Q Q' a b => a Q' b) hh (run_out hQ')

/-- What a call on trees comes to. -/
noncomputable def res (T : Tab) (f : Nat) (vs : List V) : Option V :=
  open Classical in if h : ∃ r, run T (.pure f vs) (fun o => o = .val r) then some h.choose else none

theorem res_run {f : Nat} {vs : List V} {r : V} (h : res T f vs = some r) : run T (.pure f vs) (fun o => o = .val r) := by
  unfold res at h
  split at h
  · rename_i hx; cases h; exact hx.choose_spec
  · cases h

theorem run_res {f : Nat} {vs : List V} {r : V} (h : run T (.pure f vs) (fun o => o = .val r)) : res T f vs = some r := by
  have hx : ∃ r, run T (.pure f vs) (fun o => o = .val r) := ⟨r, h⟩
  unfold res
  rw [dif_pos hx]
  obtain ⟨o, a, b⟩ := run_meet _ _ _ hx.choose_spec h
  rw [a] at b
  simp only [Out.val.injEq] at b
  rw [b]

end
end Go.Q
