/- Rows of operations, run as the evaluator says. -/
import Derived.Test.YtaigdfomoplchaaQvSnd
import Derived.TacticsIn
import Derived.OrdersIn
set_option linter.unusedSimpArgs false
set_option linter.unusedVariables false
set_option linter.unusedSectionVars false
namespace Go.Q
variable [Link]

/-- Where an activation began. -/
structure Base where
  w : World
  X : Nat → Prop
  ι : Nat → Nat
  σ : Sto
  n : Nat
  lk : Nat

/-- The marks of an activation's loops over functions. -/
def markOf (r : Nat) : Deferred := { target := .collected r, args := #[] }

def Marks (lo : Nat) (X : Nat → Prop) (w : World) (ds : List Deferred) : Prop :=
  ∃ rs : List Nat, ds = rs.map markOf ∧ rs.Nodup ∧ ∀ r ∈ rs, lo ≤ r ∧ w.heap[r]? = some (.deferred (some [])) ∧ ¬ X r

/-- The evaluator's state stands in an activation and in memory. -/
structure At (B : Base) (r : Option Nat) (N : Nat) (s : St) (a : Act) (w : World) (X : Nat → Prop) (ι : Nat → Nat) : Prop where
  wf : WF w X ι s.σ s.n
  hlk : s.lk = B.lk
  le : B.lk ≤ s.n
  size : N ≤ a.tmps.size
  rep : ∀ t, Rep w X ι s.n (s.env t) (a.tmps.getD t undef)
  ext : Ext B.w w B.X X B.ι ι B.σ s.σ B.n s.n B.lk
  marks : Marks B.w.heap.size X w a.defers
  rnd : ∀ l, r = some l → ∃ rec, w.heap[l]? = some (.loop rec)

section
variable {P : Program} {T : Tab} {B : Base} {r : Option Nat} {N : Nat} {s : St} {a : Act} {w : World} {X : Nat → Prop} {ι : Nat → Nat}

theorem At.lkn (h : At B r N s a w X ι) : s.lk ≤ s.n := by rw [h.hlk]; exact h.le

theorem At.eval (h : At B r N s a w X ι) {x : Operand} {x' : Opd} (hc : cOpd x = some x') : Rep w X ι s.n (s.val x') (a.eval x) := by
  unfold cOpd at hc
  split at hc
  · simp only [Option.some.injEq] at hc; subst hc; exact h.rep _
  · simp only [Option.map_eq_some_iff] at hc
    obtain ⟨v, hv, rfl⟩ := hc
    exact ofValA_rep hv
  · simp only [Option.some.injEq] at hc; subst hc
    exact .fn _ [] #[] rfl (fun i e u he => by simp at he)
  · cases hc

theorem Marks.ext {lo : Nat} {w' : World} {X' : Nat → Prop} {ι' : Nat → Nat} {σ σ' : Sto} {n n' lk : Nat} {ds : List Deferred} (hw : WF w X ι σ n) (h : Marks lo X w ds)
    (e : Ext w w' X X' ι ι' σ σ' n n' lk) : Marks lo X' w' ds := by
  obtain ⟨rs, h1, h2, h3⟩ := h
  refine ⟨rs, h1, h2, fun r hr => ?_⟩
  obtain ⟨a1, a2, a3⟩ := h3 r hr
  have hlt := (Array.getElem?_eq_some_iff.1 a2).1
  exact ⟨a1, by rw [e.heap r hlt (fun ho => a3 (ho.sub hw))]; exact a2, fun hx => a3 (e.xnew r hlt hx)⟩

/-- An operation's outcome is put in place. -/
theorem At.put (h : At B r N s a w X ι) {v : V} {u : Value} {σ' : Sto} {n' : Nat} {w' : World} {X' : Nat → Prop} {ι' : Nat → Nat} {dst : Option Nat} (hd : fits N dst = true)
    (hr : Rep w' X' ι' n' v u) (hw : WF w' X' ι' σ' n') (he : Ext w w' X X' ι ι' s.σ σ' s.n n' s.lk) :
    At B r N (({ s with σ := σ', n := n' } : St).put dst v) (a.put dst u) w' X' ι' := by
  have hrep : ∀ t, Rep w' X' ι' n' (s.env t) (a.tmps.getD t undef) := fun t => (h.rep t).ext h.wf he
  have he' : Ext B.w w' B.X X' B.ι ι' B.σ σ' B.n n' B.lk := h.ext.trans (by rw [← h.hlk]; exact he)
  have hle : B.lk ≤ n' := Nat.le_trans h.le he.hn
  have hrn : ∀ l, r = some l → ∃ rec, w'.heap[l]? = some (.loop rec) := fun l hl => by
    obtain ⟨rec, hrec⟩ := h.rnd l hl
    exact he.loops _ _ hrec
  cases dst with
  | none => exact ⟨hw, h.hlk, hle, h.size, hrep, he', h.marks.ext h.wf he, hrn⟩
  | some d =>
    have hdN : d < N := by simpa [fits] using hd
    refine ⟨hw, h.hlk, hle, by simpa [Act.put] using h.size, fun t => ?_, he', h.marks.ext h.wf he, hrn⟩
    have hlt : d < a.tmps.size := Nat.lt_of_lt_of_le hdN h.size
    by_cases e : t = d
    · subst e
      simp only [St.put, Act.put, if_true, Array.getD_eq_getD_getElem?, Array.getElem?_setIfInBounds_self_of_lt hlt, Option.getD_some]
      exact hr
    · simp only [St.put, Act.put, e, if_false, Array.getD_eq_getD_getElem?, Array.getElem?_setIfInBounds_ne (Ne.symm e)]
      simpa [Array.getD_eq_getD_getElem?] using hrep t

theorem rep_bool {n : Nat} {v : V} {b : Bool} (h : Rep w X ι n v (.bool b)) : v = .bool b := by cases h; rfl
theorem rep_bool' {n : Nat} {u : Value} {b : Bool} (h : Rep w X ι n (.bool b) u) : u = .bool b := by cases h; rfl

theorem wants_iff' (h : ∀ t, ∃ m, Rep w X ι m (s.env t) (a.tmps.getD t undef)) {ops : Array Oper} {o : Oper} {ao : AOp} (hc : cOper P N ops o = some ao) :
    wants ao.guard s.env = Region.wanted o (yielded ops a.tmps) := by
  unfold cOper at hc
  split at hc
  · cases hc
  · split at hc
    · split at hc
      · rename_i hg
        simp only [Option.some.injEq] at hc; subst hc
        simp [wants, Region.wanted, hg]
      · rename_i j want hg
        split at hc
        · rename_i t ht
          simp only [Option.some.injEq] at hc; subst hc
          simp only [wants, Region.wanted, hg, yielded, ht, Option.bind_some]
          obtain ⟨m, hr⟩ := h t
          cases hx : a.tmps[t]? with
          | none =>
            rw [show a.tmps.getD t undef = undef by simp [Array.getD_eq_getD_getElem?, hx]] at hr
            generalize s.env t = y at hr
            cases hr <;> simp
          | some u =>
            rw [show a.tmps.getD t undef = u by simp [Array.getD_eq_getD_getElem?, hx]] at hr
            generalize s.env t = y at hr
            cases hr <;> simp
        · cases hc
    · cases hc

theorem wants_iff (h : At B r N s a w X ι) {ops : Array Oper} {o : Oper} {ao : AOp} (hc : cOper P N ops o = some ao) :
    wants ao.guard s.env = Region.wanted o (yielded ops a.tmps) := wants_iff' (fun t => ⟨_, h.rep t⟩) hc

theorem cOper_spec {ops : Array Oper} {o : Oper} {ao : AOp} (hc : cOper P N ops o = some ao) : cOp P o = some ao.op ∧ ao.dst = o.dst ∧ fits N o.dst = true := by
  unfold cOper at hc
  split at hc
  · cases hc
  · rename_i ai hai
    split at hc
    · rename_i hf
      split at hc
      · simp only [Option.some.injEq] at hc; subst hc; exact ⟨hai, rfl, hf⟩
      · split at hc
        · simp only [Option.some.injEq] at hc; subst hc; exact ⟨hai, rfl, hf⟩
        · cases hc
    · cases hc

/-- An operation that is not wanted. -/
theorem At.skip (h : At B r N s a w X ι) {dst : Option Nat} (hd : fits N dst = true) : At B r N (s.put dst .undef) (a.put dst undef) w X ι := by
  have := h.put (v := .undef) (u := undef) (σ' := s.σ) (n' := s.n) (dst := dst) hd .undef h.wf (Ext.refl h.wf.xlt)
  exact this

theorem wpR_sound {ops : Array Oper} {Qm : Exit → Act → World → Prop} {Q : St → Prop} (hQ : ∀ s a w X ι, At B r N s a w X ι → Q s → Qm .normal a w) :
    ∀ (l : List Oper) (al : List AOp), l.mapM (cOper P N ops) = some al → ∀ (s : St) (a : Act) (w : World) (X : Nat → Prop) (ι : Nat → Nat), At B r N s a w X ι →
      wpR T (sndC P T) al s Q → wpListIn (Fw r) 0 P ops Qm l a w
  | [], al, hl, s, a, w, X, ι, h, hw => by
    simp at hl; subst hl
    exact hQ s a w X ι h hw
  | o :: l, al, hl, s, a, w, X, ι, h, hw => by
    simp only [List.mapM_cons, Option.pure_def, Option.bind_eq_bind, Option.bind_eq_some_iff, Option.some.injEq] at hl
    obtain ⟨ao, hao, al', hal, rfl⟩ := hl
    obtain ⟨h1, h2, h3⟩ := cOper_spec hao
    simp only [wpR] at hw
    rw [wants_iff h hao] at hw
    unfold wpListIn
    split at hw <;> rename_i hwant
    · rw [if_pos hwant]
      refine opW_sound (r := r) h.wf h.lkn (fun x x' hx => h.eval hx) (fun _ => rfl) h1 hw _ _ ?_
      intro u w' hres
      obtain ⟨v, σ', n', X', ι', hq, hr, hwf, he⟩ := hres
      rw [h2] at hq
      exact wpR_sound hQ l al' hal _ _ _ _ _ (h.put h3 hr hwf he) hq
    · rw [if_neg hwant]
      rw [h2] at hw
      exact ⟨fun _ _ => trivial, wpR_sound hQ l al' hal _ _ _ _ _ (h.skip h3) hw⟩

end
end Go.Q
