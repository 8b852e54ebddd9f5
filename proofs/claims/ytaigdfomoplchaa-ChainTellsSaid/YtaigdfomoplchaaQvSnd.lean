/- Operations, calls among them, run as the evaluator says. -/
import Derived.Test.YtaigdfomoplchaaQvOpH
import Derived.Test.YtaigdfomoplchaaQvCall
import Derived.Test.YtaigdfomoplchaaQvLoop
import Derived.Test.YtaigdfomoplchaaQvCode
set_option linter.unusedSimpArgs false
set_option linter.unusedVariables false
set_option linter.unusedSectionVars false
namespace Go.Q
variable [Link]

def ownB (T : Tab) (f : Nat) : Bool := decide (T.mode f = .own)

/-- A function that a call enters. -/
def Ent (P : Program) (f : Nat) : Prop := ∃ F, P.funcs[f]? = some F ∧ (F.name == "runtime.NumGoroutine") = false ∧ F.body.isNone = false

theorem run_callFunc {P : Program} {f : Nat} (h : Ent P f) (args : Array Value) (w : World) : (callFunc f args).run P w = .ok (.enter f args) w := by
  obtain ⟨F, h1, h2, h3⟩ := h
  have h4 : F.name ≠ "runtime.NumGoroutine" := by simpa using h2
  have h5 : F.body ≠ none := by intro e; rw [e] at h3; simp at h3
  simp [callFunc, Sem.run_bind, h1, h4, h5]

def Reps (w : World) (X : Nat → Prop) (ι : Nat → Nat) (n : Nat) (vs : List V) (us : Array Value) : Prop :=
  us.size = vs.length ∧ ∀ (i : Nat) (e : V) (u : Value), vs[i]? = some e → us[i]? = some u → Rep w X ι n e u

/-- The record at the end of a round. -/
def roundEnd (env : Nat → V) (ps : List Nat) (a b : AC) (ex : Ex) : Ob := .loop env ps a b (if ex = .normal then .ready else .done) (if ex = .normal then none else some ex)

/-- What the machine must do for a call. -/
def sndC (P : Program) (T : Tab) : Calls'
  | .pure f ts, Q => Ent P f ∧ ∀ (w : World) (X0 : Nat → Prop) (us : Array Value), (∀ b, X0 b → b < w.heap.size) → Reps w X0 (fun _ => 0) 0 ts us →
      CallsIn Fence.wide 0 P f us w fun e w' => ∃ u r, e = .returned u ∧ Q (.val r) ∧ Back (T.mode f) w w' X0 r u
  | .raw f args σ n lk, Q => Ent P f ∧ ∀ (w : World) (X : Nat → Prop) (ι : Nat → Nat) (us : Array Value), WF w X ι σ n → lk ≤ n → Reps w X ι n args us →
      CallsIn Fence.wide 0 P f us w fun e w' => ∃ u v σ' n' X' ι', e = .returned u ∧ Q (.mem v σ' n') ∧ WF w' X' ι' σ' n' ∧ Rep w' X' ι' n' v u ∧ Ext w w' X X' ι ι' σ σ' n n' lk
  | .round l env a b σ n lk, Q => ∀ (w : World) (X : Nat → Prop) (ι : Nat → Nat) (N : Nat) (tmps : Array Value) (fn : FuncId) (ca cb : Code), WF w X ι σ n → lk ≤ n → lk ≤ l →
      (∃ env0 ps a0 b0 pend, σ l = some (.loop env0 ps a0 b0 .ready pend)) → N ≤ tmps.size → Link.rel N ca a → Link.rel N cb b → (∀ t, Rep w X ι n (env t) (tmps.getD t undef)) →
      RoundIn Fence.wide 0 P (ι l) fn tmps ca cb w fun e w' => ∃ ex σ' n' X' ι' env2 ps2 a2 b2 pend2, e = .returned (.bool (decide (ex = .normal))) ∧ Q (.fin ex σ' n') ∧
        σ' l = some (.loop env2 ps2 a2 b2 .busy pend2) ∧ WF w' X' ι' (upd σ' l (some (roundEnd env2 ps2 a2 b2 ex))) n' ∧
        Ext w w' X X' ι ι' σ (upd σ' l (some (roundEnd env2 ps2 a2 b2 ex))) n n' lk

theorem sndC_mono (P : Program) (T : Tab) : MonoC (sndC P T) := by
  intro j Q Q' hQ h
  cases j with
  | pure f ts =>
    refine ⟨h.1, fun w X0 us h1 h2 => (h.2 w X0 us h1 h2).mono fun e w' hh => ?_⟩
    obtain ⟨u, r, a, b, c⟩ := hh
    exact ⟨u, r, a, hQ _ b, c⟩
  | raw f args σ n lk =>
    refine ⟨h.1, fun w X ι us h1 h2 h3 => (h.2 w X ι us h1 h2 h3).mono fun e w' hh => ?_⟩
    obtain ⟨u, v, σ', n', X', ι', a, b, c⟩ := hh
    exact ⟨u, v, σ', n', X', ι', a, hQ _ b, c⟩
  | round l env a b σ n lk =>
    intro w X ι N tmps fn ca cb h1 h2 h3 h4 h5 h6 h7 h8
    refine (h w X ι N tmps fn ca cb h1 h2 h3 h4 h5 h6 h7 h8).mono fun e w' hh => ?_
    obtain ⟨ex, σ', n', X', ι', env2, ps2, a2, b2, pend2, p, q, r⟩ := hh
    exact ⟨ex, σ', n', X', ι', env2, ps2, a2, b2, pend2, p, hQ _ q, r⟩

/-- The fence of everything, in a round or not. -/
def Fw (r : Option Nat) : Fence := { Fence.wide with round := r }

theorem callsIn_fw {r : Option Nat} {n : Nat} {P : Program} {f : FuncId} {args : Array Value} {w : World} {R : Ending → World → Prop} (h : CallsIn Fence.wide n P f args w R) :
    CallsIn (Fw r) n P f args w R := h
theorem roundIn_fw {r : Option Nat} {n : Nat} {P : Program} {l : Nat} {f : FuncId} {tmps : Array Value} {assign body : Code} {w : World} {R : Ending → World → Prop}
    (h : RoundIn Fence.wide n P l f tmps assign body w R) : RoundIn (Fw r) n P l f tmps assign body w R := h

/-- An operation, run, comes to R. -/
def OpTo (r : Option Nat) (P : Program) (o : Oper) (a : Act) (w : World) (R : Value → World → Prop) : Prop :=
  ∀ (next : Act → World → Prop) (Qx : Exit → Act → World → Prop), (∀ u w', R u w' → next (a.put o.dst u) w') → o.wpIn (Fw r) 0 P a w next Qx

section
variable {P : Program} {T : Tab} {w : World} {X : Nat → Prop} {ι : Nat → Nat} {σ : Sto} {n lk : Nat} {ρ' : Opd → V}

/-- What an operation must come to. -/
def Res' (w : World) (X : Nat → Prop) (ι : Nat → Nat) (σ : Sto) (n lk : Nat) (Q : V → Sto → Nat → Prop) : Value → World → Prop := fun u w' =>
  ∃ v σ' n' X' ι', Q v σ' n' ∧ Rep w' X' ι' n' v u ∧ WF w' X' ι' σ' n' ∧ Ext w w' X X' ι ι' σ σ' n n' lk

theorem opTo_good {r : Option Nat} {ρ : Operand → Value} {o : Oper} {a : Act} {v : V} {σ' : Sto} {n' : Nat} {Q : V → Sto → Nat → Prop} (hd : ∀ c, o.op ≠ .defer c)
    (hxx : execOp a.eval o = execOp ρ o) (hg : Good w X ι σ n lk ((execOp ρ o).run P w) v σ' n') (hq : Q v σ' n') : OpTo r P o a w (Res' w X ι σ n lk Q) := by
  intro next Qx hn
  obtain ⟨w', X', ι', u, hr, h1, h2, h3⟩ := hg
  refine ⟨fun _ _ => trivial, ?_⟩
  rw [Oper.semAt_eq _ _ _ hd, hxx]
  rcases hr with hr | ⟨hr, rfl⟩ <;> rw [hr]
  · exact hn _ _ ⟨v, σ', n', X', ι', hq, h1, h2, h3⟩
  · exact hn _ _ ⟨v, σ', n', X', ι', hq, h1, h2, h3⟩

theorem callW_sound {r : Option Nat} {fs : Bool} {f : Nat} {args : List V} {us : Array Value} {Q : V → Sto → Nat → Prop} (hw : WF w X ι σ n) (hl : lk ≤ n) (hr : Reps w X ι n args us)
    (h : callW T (sndC P T) fs f args σ n lk Q) : Ent P f ∧ CallsIn (Fw r) 0 P f us w fun e w' => ∃ u, e = .returned u ∧ Res' w X ι σ n lk Q u w' := by
  unfold callW at h
  have pure : ∀ {m : Mode}, T.mode f = m → (∃ ts, args.mapM (frz σ DEEP) = some ts ∧ ∃ r, sndC P T (.pure f ts) (fun o => o = .val r) ∧
      ∃ D : List Nat, D = (if flat r then [] else args.flatMap (rch σ DEEP)) ∧ (fs = false → D = []) ∧ (∀ id ∈ D, lk ≤ id) ∧
        Q (thaw (dropL σ D) n r).1 (thaw (dropL σ D) n r).2.1 (thaw (dropL σ D) n r).2.2) →
      Ent P f ∧ CallsIn (Fw r) 0 P f us w fun e w' => ∃ u, e = .returned u ∧ Res' w X ι σ n lk Q u w' := by
    intro m hm ⟨ts, h1, r', ⟨hent, h2⟩, D, h3, h4, h5, h6⟩
    obtain ⟨b1, b2⟩ := args_frz hw h1 hr.1 hr.2
    refine ⟨hent, callsIn_fw ((h2 w (cutX X ι σ (args.flatMap (rch σ DEEP))) us (fun b hb => hw.xlt b hb.1) ⟨b1, b2⟩).mono fun e w' hh => ?_)⟩
    obtain ⟨u, r2, rfl, he, hb⟩ := hh
    cases he
    obtain ⟨X', ι', c1, c2, c3⟩ := call_back hw hl h3 h5 hb
    exact ⟨u, rfl, _, _, _, X', ι', h6, c2, c1, c3⟩
  split at h
  · obtain ⟨hent, h2⟩ := h.2
    refine ⟨hent, callsIn_fw ((h2 w X ι us hw hl hr).mono fun e w' hh => ?_)⟩
    obtain ⟨u, v, σ', n', X', ι', rfl, q, c1, c2, c3⟩ := hh
    exact ⟨u, rfl, v, σ', n', X', ι', q, c2, c1, c3⟩
  · exact pure rfl h

theorem opTo_enter {r : Option Nat} {o : Oper} {a : Act} {f : Nat} {us : Array Value} {R : Value → World → Prop} (hd : ∀ c, o.op ≠ .defer c)
    (hx : (execOp a.eval o).run P w = .ok (.enter f us) w) (hc : CallsIn (Fw r) 0 P f us w fun e w' => ∃ u, e = .returned u ∧ R u w') : OpTo r P o a w R := by
  intro next Qx hn
  refine ⟨fun _ _ => trivial, ?_⟩
  rw [Oper.semAt_eq _ _ _ hd, hx, Oper.uponIn_enter]
  refine ⟨fun h => by simp [Fw, Fence.wide] at h, hc.mono fun e w' hh => ?_⟩
  obtain ⟨u, rfl, hu⟩ := hh
  exact hn _ _ hu

theorem bind_reps {N : Nat} : ∀ (ps : List Nat) (xs : List V) (us : List Value) (env : Nat → V) (tmps : Array Value), (∀ p ∈ ps, p < N) → N ≤ tmps.size →
    (∀ t, Rep w X ι n (env t) (tmps.getD t undef)) → (∀ (i : Nat) (e : V) (u : Value), xs[i]? = some e → us[i]? = some u → Rep w X ι n e u) → xs.length = us.length →
    N ≤ ((ps.zip us).foldl (fun tmps (p : Nat × Value) => tmps.setIfInBounds p.1 p.2) tmps).size ∧
      ∀ t, Rep w X ι n (bindPs env ps xs t) (((ps.zip us).foldl (fun tmps (p : Nat × Value) => tmps.setIfInBounds p.1 p.2) tmps).getD t undef)
  | [], xs, us, env, tmps, _, h2, h3, _, _ => by simp [bindPs]; exact ⟨h2, by simpa using h3⟩
  | p :: ps, [], us, env, tmps, _, h2, h3, _, h5 => by
    have : us = [] := by cases us; rfl; simp at h5
    subst this; simp [bindPs]; exact ⟨h2, by simpa using h3⟩
  | p :: ps, x :: xs, [], env, tmps, _, _, _, _, h5 => by simp at h5
  | p :: ps, x :: xs, u :: us, env, tmps, h1, h2, h3, h4, h5 => by
    simp only [List.zip_cons_cons, List.foldl_cons, bindPs]
    refine bind_reps ps xs us _ _ (fun q hq => h1 q (List.mem_cons_of_mem _ hq)) (by simpa using h2) (fun t => ?_) (fun i e u' he hu => h4 (i + 1) e u' (by simpa using he) (by simpa using hu)) (by simpa using h5)
    have hp : p < tmps.size := Nat.lt_of_lt_of_le (h1 p (by simp)) h2
    by_cases e : t = p
    · subst e
      simp only [if_true, Array.getD_eq_getD_getElem?, Array.getElem?_setIfInBounds_self_of_lt hp, Option.getD_some]
      exact h4 0 x u rfl rfl
    · simp only [e, if_false, Array.getD_eq_getD_getElem?, Array.getElem?_setIfInBounds_ne (Ne.symm e)]
      simpa [Array.getD_eq_getD_getElem?] using h3 t

/-- Operations that are calls of a function's value. -/
theorem call_shape {P : Program} {o : Oper} {ai : AI} (hc : cOp P o = some ai) {g : Opd} {es : List Opd} (hai : ai = .callv g es ∨ ∃ f, ai = .call f es) :
    ∃ c, o.op = .call c ∧ ∃ x, c.callee = .value x ∧ ∃ es', cOpds c.args.toList = some es' ∧
        ((∃ f, x = .func f ∧ ai = .call f es') ∨ (∃ g', cOpd x = some g' ∧ ai = .callv g' es')) := by
  obtain ⟨dst, op, ty, pos, after, guard⟩ := o
  cases op <;> simp only [cOp, reduceCtorEq] at hc
  case call c =>
    refine ⟨c, rfl, ?_⟩
    split at hc
    · exfalso; rcases hai with rfl | ⟨f, rfl⟩ <;> (split at hc <;> (try split at hc) <;> simp at hc)
    · exfalso; rcases hai with rfl | ⟨f, rfl⟩ <;> simp at hc
    · exfalso; rcases hai with rfl | ⟨f, rfl⟩ <;> simp at hc
    · exfalso
      split at hc
      · simp only [Option.bind_eq_bind, Option.bind_eq_some_iff] at hc
        obtain ⟨d, _, hc⟩ := hc
        split at hc
        · simp only [Option.bind_eq_some_iff] at hc
          obtain ⟨d, _, hc⟩ := hc
          split at hc
          · simp only [Option.bind_eq_some_iff] at hc
            obtain ⟨j, _, hc⟩ := hc
            split at hc
            · simp only [Option.bind_eq_some_iff, Option.some.injEq] at hc
              obtain ⟨_, _, _, _, rfl⟩ := hc
              rcases hai with h | ⟨f, h⟩ <;> cases h
            · cases hc
          · cases hc
        · cases hc
      · cases hc
    · rename_i f hcal
      simp only [Option.map_eq_some_iff] at hc
      obtain ⟨es', hes, rfl⟩ := hc
      exact ⟨_, hcal, es', hes, .inl ⟨f, rfl, rfl⟩⟩
    · rename_i g0 hcal _
      simp only [Option.bind_eq_bind, Option.bind_eq_some_iff, Option.some.injEq] at hc
      obtain ⟨g', hg, es', hes, rfl⟩ := hc
      exact ⟨_, by assumption, es', hes, .inr ⟨g', hg, rfl⟩⟩
    · cases hc
  all_goals
    exfalso
    rcases hai with rfl | ⟨f, rfl⟩ <;>
    repeat' (first | (simp only [Option.bind_eq_bind, Option.bind_eq_some_iff, Option.map_eq_some_iff, Option.some.injEq, reduceCtorEq, and_false, exists_false] at hc; done) |
      (simp only [Option.bind_eq_bind, Option.bind_eq_some_iff, Option.map_eq_some_iff, Option.some.injEq, reduceCtorEq, and_false, exists_false] at hc) | (obtain ⟨_, _, hc⟩ := hc) | split at hc | cases hc)

theorem opW_sound' {r : Option Nat} {fs : Bool} {ρ : Operand → Value} {o : Oper} {ai : AI} {a : Act} {Q : V → Sto → Nat → Prop} (hw : WF w X ι σ n) (hl : lk ≤ n)
    (hρ : ∀ (x : Operand) (x' : Opd), cOpd x = some x' → Rep w X ι n (ρ' x') (ρ x)) (hcon : ∀ v, ρ' (.con v) = v) (hρc : ∀ v, ρ (.const v) = v)
    (hρf : ∀ f, ρ (.func f) = .func (.func f) #[] #[]) (hxx : execOp a.eval o = execOp ρ o) (hc : cOp P o = some ai)
    (h : opW T (sndC P T) fs ρ' σ n lk ai Q) : OpTo r P o a w (Res' w X ι σ n lk Q) := by
  have hd : ∀ c, o.op ≠ .defer c := fun c e => by
    obtain ⟨dst, op, ty, pos, after, guard⟩ := o
    simp only at e; subst e
    simp [cOp] at hc
  by_cases hcall : ∃ g es, ai = .callv g es ∨ ∃ f, ai = .call f es
  · obtain ⟨g, es, hai⟩ := hcall
    have hop := call_shape hc hai
    obtain ⟨c, hop, x, hcal, es', hes, hx⟩ := hop
    obtain ⟨e1, e2⟩ := cOpds_spec hes hρ
    have hreps : Reps w X ι n (es'.map ρ') (c.args.map ρ) := ⟨by simpa using e1.symm, fun i e u he hu => e2 i e u he (by simpa using hu)⟩
    have hex : execOp a.eval o = (do let d ← resolve ρ c o.type; invoke d.target d.args) := by
      obtain ⟨dst, op, ty, pos, after, guard⟩ := o
      rw [hxx]
      simp only at hop; subst hop; rfl
    have hres : ∀ (fn : Go.Fn) (first cap : Array Value), ρ x = .func fn first cap →
        (execOp a.eval o).run P w = (invoke (.fn fn cap) (first ++ c.args.map ρ)).run P w := fun fn first cap he => by
      rw [hex]
      simp [Sem.run_bind, resolve, hcal, he, Deferred.ofValue, Result.andThen]
    rcases hx with ⟨f, rfl, rfl⟩ | ⟨g', hg, rfl⟩
    · simp only [opW] at h
      obtain ⟨hent, hcall'⟩ := callW_sound (r := r) hw hl hreps h
      refine opTo_enter hd ?_ hcall'
      rw [hres (.func f) #[] #[] (hρf f)]
      simpa [invoke] using run_callFunc hent _ w
    · simp only [opW] at h
      have hgr := hρ _ _ hg
      split at h
      · rename_i f caps hval
        rw [hval] at hgr
        generalize hu : ρ x = u at hgr
        cases hgr with
        | fn _ _ cus hl' hr' =>
          have hreps' : Reps w X ι n (es'.map ρ' ++ caps) (c.args.map ρ ++ cus) := by
            refine ⟨by rw [Array.size_append, List.length_append, hreps.1, hl'], fun i e u he hu => ?_⟩
            rw [List.getElem?_append] at he
            rw [Array.getElem?_append] at hu
            rw [hreps.1] at hu
            split at he <;> rename_i hlt
            · rw [if_pos hlt] at hu; exact hreps.2 i e u he hu
            · rw [if_neg hlt] at hu; exact hr' _ e u he hu
          obtain ⟨hent, hcall'⟩ := callW_sound (r := r) hw hl hreps' h
          refine opTo_enter hd ?_ hcall'
          rw [hres (.func f) #[] cus hu]
          simpa [invoke] using run_callFunc hent _ w
      · rename_i l hval
        rw [hval] at hgr
        generalize hu : ρ x = u at hgr
        cases hgr with
        | yld _ hid =>
          obtain ⟨_, h⟩ := h
          unfold yieldW at h
          split at h
          · rename_i env ps assign body pend hrow
            obtain ⟨hlen, hlk, h⟩ := h
            obtain ⟨rec, hrec, hrep⟩ := hw.loop l _ _ _ _ _ _ hrow
            obtain ⟨N, hN, hps, hla, hlb⟩ := hrep.code
            have hsize : (c.args.map ρ).size = rec.params.size := by
              rw [hreps.1, hlen, ← hrep.hps]; simp
            have hb := bind_reps (N := N) ps (es'.map ρ') (c.args.map ρ).toList env rec.tmps hps hN hrep.rep (fun i e u he hu => hreps.2 i e u he (by simpa using hu)) (by rw [hlen, ← hrep.hps]; simp [← hsize])
            have hfold : (rec.params.zip (c.args.map ρ)).foldl (fun tmps (p : Nat × Value) => tmps.setIfInBounds p.1 p.2) rec.tmps =
                (ps.zip (c.args.map ρ).toList).foldl (fun tmps (p : Nat × Value) => tmps.setIfInBounds p.1 p.2) rec.tmps := by
              rw [← Array.foldl_toList, Array.toList_zip, hrep.hps]
            intro next Qx hn
            refine ⟨fun _ _ => trivial, ?_⟩
            rw [Oper.semAt_eq _ _ _ hd, hres (.yield (ι l)) #[] #[] hu]
            have hy := run_yield (P := P) (args := c.args.map ρ) hrec hsize
            simp only [invoke, Array.empty_append]
            rw [hy, Oper.uponIn_round]
            refine ⟨fun h => by simp [Fw, Fence.wide] at h, ?_⟩
            have hround := h w X ι N _ rec.fn rec.assign rec.body hw hl hlk ⟨_, _, _, _, _, hrow⟩ hb.1 hla hlb hb.2
            rw [← hfold] at hround
            refine roundIn_fw (r := r) (hround.mono (fun e w' hh => ?_))
            obtain ⟨ex, σ', n', X', ι', env2, ps2, a2, b2, pend2, rfl, ⟨e3, p3, a3, b3, d3, hq1, hq2⟩, hσ, hwf, hext⟩ := hh
            rw [hσ] at hq1
            simp only [Option.some.injEq, Ob.loop.injEq] at hq1
            obtain ⟨rfl, rfl, rfl, rfl, -, rfl⟩ := hq1
            exact hn _ _ ⟨_, _, _, X', ι', hq2, .bool _, hwf, hext⟩
          · exact h.elim
      · exact h.elim
  · have hev : ∃ v σ' n', ev ρ' σ n lk ai = some (v, σ', n') ∧ Q v σ' n' := by
      unfold opW at h
      split at h
      · exact absurd ⟨.con .undef, _, .inr ⟨_, rfl⟩⟩ hcall
      · exact absurd ⟨_, _, .inl rfl⟩ hcall
      · split at h
        · rename_i v σ' n' he; exact ⟨v, σ', n', he, h⟩
        · exact h.elim
    obtain ⟨v, σ', n', he, hq⟩ := hev
    exact opTo_good hd hxx (op_sound hw hl hρ hcon hρc hc he) hq

theorem opW_sound {r : Option Nat} {fs : Bool} {o : Oper} {ai : AI} {a : Act} {Q : V → Sto → Nat → Prop} (hw : WF w X ι σ n) (hl : lk ≤ n)
    (hρ : ∀ (x : Operand) (x' : Opd), cOpd x = some x' → Rep w X ι n (ρ' x') (a.eval x)) (hcon : ∀ v, ρ' (.con v) = v) (hc : cOp P o = some ai)
    (h : opW T (sndC P T) fs ρ' σ n lk ai Q) : OpTo r P o a w (Res' w X ι σ n lk Q) :=
  opW_sound' hw hl hρ hcon (fun _ => rfl) (fun _ => rfl) rfl hc h

end
end Go.Q
