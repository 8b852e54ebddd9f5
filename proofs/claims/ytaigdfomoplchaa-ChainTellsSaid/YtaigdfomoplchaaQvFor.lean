/- Loops that count. -/
import Derived.Test.YtaigdfomoplchaaQvSlv
set_option linter.unusedSimpArgs false
set_option linter.unusedVariables false
namespace Go.Q

variable {T : Tab}

/-- What stands behind the body of a loop that counts. -/
def forQ (i : Nat) (y : Opd) (u k j N lk : Nat) (I : (Nat → V) → Sto → Nat → Prop) (Q : Ex → St → Prop) : Ex → St → Prop
  | .normal, s => s.lk = lk ∧ s.env i = .int .i64 (j : Int) ∧ vl s.env y = .int .i64 (N : Int) ∧ I (pt (pt s.env u (.int .i64 ((j + 1 : Nat) : Int))) i (.int .i64 ((j + 1 : Nat) : Int))) s.σ s.n
  | .exit e, s => if e = k then s.lk = lk ∧ s.env i = .int .i64 (j : Int) ∧ vl s.env y = .int .i64 (N : Int) ∧ I (pt (pt s.env u (.int .i64 ((j + 1 : Nat) : Int))) i (.int .i64 ((j + 1 : Nat) : Int))) s.σ s.n
      else Q (.exit e) s
  | .ret, s => Q .ret s
theorem forQ_normal (i : Nat) (y : Opd) (u k j N lk lk' : Nat) (I : (Nat → V) → Sto → Nat → Prop) (Q : Ex → St → Prop) (env : Nat → V) (σ : Sto) (n : Nat) :
    forQ i y u k j N lk I Q .normal ⟨env, σ, n, lk'⟩ = (lk' = lk ∧ env i = .int .i64 (j : Int) ∧ vl env y = .int .i64 (N : Int) ∧ I (pt (pt env u (.int .i64 ((j + 1 : Nat) : Int))) i (.int .i64 ((j + 1 : Nat) : Int))) σ n) := rfl
theorem forQ_exit (i : Nat) (y : Opd) (u k j N lk lk' e : Nat) (I : (Nat → V) → Sto → Nat → Prop) (Q : Ex → St → Prop) (env : Nat → V) (σ : Sto) (n : Nat) :
    forQ i y u k j N lk I Q (.exit e) ⟨env, σ, n, lk'⟩ = if e = k then (lk' = lk ∧ env i = .int .i64 (j : Int) ∧ vl env y = .int .i64 (N : Int) ∧ I (pt (pt env u (.int .i64 ((j + 1 : Nat) : Int))) i (.int .i64 ((j + 1 : Nat) : Int))) σ n) else Q (.exit e) ⟨env, σ, n, lk'⟩ := rfl
theorem forQ_ret (i : Nat) (y : Opd) (u k j N lk : Nat) (I : (Nat → V) → Sto → Nat → Prop) (Q : Ex → St → Prop) (s : St) : forQ i y u k j N lk I Q .ret s = Q .ret s := rfl

/-- The code of such a loop. -/
abbrev forC (g i u k b : Nat) (y : Opd) (body : AC) : AC :=
  .loop (.seq (.reg [⟨some g, none, .bin .lss (.tmp i) y⟩]) (.seq (.cond (.tmp g) .skip (.exit b)) (.seq (.block k body)
    (.reg [⟨some u, none, .bin .add (.tmp i) (.con (.int .i64 1))⟩, ⟨some i, none, .mov (.tmp u)⟩]))))

theorem WC_monoQ {c : AC} {env : Nat → V} {σ : Sto} {n lk : Nat} {Q Q' : Ex → St → Prop} (h : WC T c env σ n lk Q) (hq : ∀ e s, Q e s → Q' e s) : wpC T (run T) c ⟨env, σ, n, lk⟩ Q' :=
  wpC_mono (fun _ _ x => x) run_mono c _ _ _ hq (WC_ok c _ _ _ _ _ h)

theorem wpC_reg {ops : List AOp} {env : Nat → V} {σ : Sto} {n lk : Nat} {Q : Ex → St → Prop} (h : WR T ops env σ n lk (Q .normal)) : wpC T (run T) (.reg ops) ⟨env, σ, n, lk⟩ Q := WR_ok _ _ _ _ _ _ h

theorem WC_for {g i u k b : Nat} {y : Opd} {body : AC} {Q : Ex → St → Prop} (N : Nat) (lk : Nat) (I : Nat → (Nat → V) → Sto → Nat → Prop)
    (hN : N < 9223372036854775808) (hiu : i ≠ u) (hgi : i ≠ g) (hgy : ∀ (env : Nat → V) (v : V), vl (pt env g v) y = vl env y) (huy : ∀ (env : Nat → V) (v w : V), vl (pt (pt env u v) i w) y = vl env y)
    (hbody : ∀ j env σ n, j < N → env i = .int .i64 (j : Int) → vl env y = .int .i64 (N : Int) → I j env σ n → WC T body (pt env g (.bool true)) σ n lk (forQ i y u k j N lk (I (j + 1)) Q))
    (hend : ∀ env σ n, I N env σ n → env i = .int .i64 (N : Int) → vl env y = .int .i64 (N : Int) → Q (.exit b) ⟨pt env g (.bool false), σ, n, lk⟩)
    (env : Nat → V) (σ : Sto) (n : Nat) (h1 : env i = .int .i64 0) (h2 : vl env y = .int .i64 (N : Int)) (h0 : I 0 env σ n) : WC T (forC g i u k b y body) env σ n lk Q := by
  have key : ∀ (m j : Nat) (env : Nat → V) (σ : Sto) (n : Nat), N - j < m → j ≤ N → env i = .int .i64 (j : Int) → vl env y = .int .i64 (N : Int) → I j env σ n →
      wpC T (run T) (forC g i u k b y body) ⟨env, σ, n, lk⟩ Q := by
    intro m
    induction m with
    | zero => intro j _ _ _ h; omega
    | succ m ih =>
      intro j env σ n hm hj h1 h2 hI
      show loopW (wpC T (run T) _) _ _
      refine loopW_step (fun s Q Q' hq hh => wpC_mono (fun _ _ x => x) run_mono _ s Q Q' hq hh) ?_
      simp only [wpC]
      refine WR_ok _ _ _ _ _ _ ?_
      simp only [WR_cons, evw_bin, vl_tmp, h1, h2, bin_lss, r1_some, stepW_some, WR_nil, ptO_some, thenW]
      simp only [St.val, pt_get, if_true]
      have hnext : ∀ (env' : Nat → V) (σ' : Sto) (n' lk' : Nat), lk' = lk → env' i = .int .i64 (j : Int) → vl env' y = .int .i64 (N : Int) → j < N →
          I (j + 1) (pt (pt env' u (.int .i64 ((j + 1 : Nat) : Int))) i (.int .i64 ((j + 1 : Nat) : Int))) σ' n' →
          wpR T (run T) [⟨some u, none, .bin .add (.tmp i) (.con (.int .i64 1))⟩, ⟨some i, none, .mov (.tmp u)⟩] ⟨env', σ', n', lk'⟩ fun s' => loopW (wpC T (run T) (.seq (.reg [⟨some g, none, .bin .lss (.tmp i) y⟩]) (.seq (.cond (.tmp g) .skip (.exit b)) (.seq (.block k body)
    (.reg [⟨some u, none, .bin .add (.tmp i) (.con (.int .i64 1))⟩, ⟨some i, none, .mov (.tmp u)⟩]))))) s' Q := by
        intro env' σ' n' lk' hl e1 e2 hjN hI'
        subst hl
        refine WR_ok _ _ _ _ _ _ ?_
        have hw : IntKind.i64.wrap ((j : Int) + 1) = ((j + 1 : Nat) : Int) := by rw [wrap_i64] <;> omega
        simp only [WR_cons, evw_bin, vl_tmp, vl_con, e1, bin_add, r1_some, stepW_some, WR_nil, ptO_some, hw, evw_mov, pt_get, if_true]
        refine ih (j + 1) _ _ _ (by omega) (by omega) (by simp [pt_get]) ?_ hI'
        rw [huy]; exact e2
      by_cases hjN : j < N
      · have hd : decide ((j : Int) < (N : Int)) = true := by simp [hjN]
        simp only [hd]
        have hb := hbody j env σ n hjN h1 h2 hI
        refine WC_monoQ hb fun e s hs => ?_
        obtain ⟨env', σ', n', lk'⟩ := s
        cases e with
        | normal =>
          simp only [forQ_normal] at hs
          simp only [blockW, thenW]
          exact hnext _ _ _ _ hs.1 hs.2.1 hs.2.2.1 hjN hs.2.2.2
        | exit e =>
          simp only [forQ_exit] at hs
          simp only [blockW]
          split at hs <;> rename_i hek
          · rw [if_pos hek]
            exact hnext _ _ _ _ hs.1 hs.2.1 hs.2.2.1 hjN hs.2.2.2
          · rw [if_neg hek]
            exact hs
        | ret => exact hs
      · have hd : decide ((j : Int) < (N : Int)) = false := by simp; omega
        have hjN : j = N := by omega
        subst hjN
        simp only [hd]
        exact hend env σ n hI h1 h2
  exact key (N + 1) 0 env σ n (by omega) (by omega) h1 h2 h0

end Go.Q
