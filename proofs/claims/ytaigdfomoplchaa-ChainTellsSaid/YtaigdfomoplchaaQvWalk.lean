/- The evaluator's rules in a form that a rewriter can follow: one road, values in normal form, guards as conditional values. -/
import Derived.Test.YtaigdfomoplchaaQvUni
set_option linter.unusedSimpArgs false
set_option linter.unusedVariables false
namespace Go.Q

/-- A value that hangs on a condition. -/
def cv (b : Bool) (x y : V) : V := if b = true then x else y

@[congr] theorem cv_congr {b b' : Bool} {x x' y y' : V} (hb : b = b') (hx : b' = true → x = x') (hy : b' = false → y = y') : cv b x y = cv b' x' y' := by
  subst hb
  cases b
  · simp [cv, hy rfl]
  · simp [cv, hx rfl]

theorem cv_true (x y : V) : cv true x y = x := rfl
theorem cv_false (x y : V) : cv false x y = y := rfl
theorem cv_and (a b : Bool) (x : V) : cv (a && b) x .undef = cv a (cv b x .undef) .undef := by cases a <;> rfl
theorem cv_bool_and (b : Bool) (x : Bool) : cv b (.bool x) (.bool false) = .bool (b && x) := by cases b <;> rfl
theorem cv_bool_or (b : Bool) (x : Bool) : cv b (.bool true) (.bool x) = .bool (b || x) := by cases b <;> rfl
theorem cv_same (b : Bool) (x : V) : cv b x x = x := by cases b <;> rfl

theorem cv_bool_imp (b : Bool) (x : Bool) : cv b (.bool x) (.bool true) = .bool (!b || x) := by cases b <;> rfl
theorem cv_bool_nand (b : Bool) (x : Bool) : cv b (.bool false) (.bool x) = .bool (!b && x) := by cases b <;> rfl
theorem cv_int (b : Bool) (k : IntKind) (x y : Int) : cv b (.int k x) (.int k y) = .int k (if b = true then x else y) := by cases b <;> rfl
theorem cv_not (b : Bool) (x y : V) : cv (!b) x y = cv b y x := by cases b <;> rfl

def pt (env : Nat → V) (d : Nat) (v : V) : Nat → V := fun t => if t = d then v else env t
theorem pt_get (env : Nat → V) (d : Nat) (v : V) (t : Nat) : pt env d v t = if t = d then v else env t := rfl

def ptO (env : Nat → V) (d : Option Nat) (v : V) : Nat → V := match d with
  | some d => pt env d v
  | none => env
theorem ptO_some (env : Nat → V) (d : Nat) (v : V) : ptO env (some d) v = pt env d v := rfl
theorem ptO_none (env : Nat → V) (v : V) : ptO env none v = env := rfl

def vl (env : Nat → V) : Opd → V
  | .tmp t => env t
  | .con v => v
theorem vl_tmp (env : Nat → V) (t : Nat) : vl env (.tmp t) = env t := rfl
theorem vl_con (env : Nat → V) (v : V) : vl env (.con v) = v := rfl

theorem st_val (env : Nat → V) (σ : Sto) (n lk : Nat) : St.val ⟨env, σ, n, lk⟩ = vl env := by funext x; cases x <;> rfl
theorem st_put (env : Nat → V) (σ : Sto) (n lk : Nat) (d : Option Nat) (v : V) : St.put ⟨env, σ, n, lk⟩ d v = ⟨ptO env d v, σ, n, lk⟩ := by cases d <;> rfl

abbrev R3 := Option (V × Sto × Nat)

/-- What comes, and what is done with it. -/
def bindE (e : R3) (K : V → Sto → Nat → Prop) : Prop := match e with
  | some (v, σ, n) => K v σ n
  | none => False
theorem bindE_some (v : V) (σ : Sto) (n : Nat) (K : V → Sto → Nat → Prop) : bindE (some (v, σ, n)) K = K v σ n := rfl
@[congr] theorem bindE_congr {e e' : R3} {K : V → Sto → Nat → Prop} (h : e = e') : bindE e K = bindE e' K := by rw [h]

/-- Done under a condition. -/
def gev (g : Bool) (e d : R3) : R3 := if g = true then e else d
@[congr] theorem gev_congr {b b' : Bool} {x x' y y' : R3} (hb : b = b') (hx : b' = true → x = x') (hy : y = y') : gev b x y = gev b' x' y' := by
  subst hb
  subst hy
  cases b
  · rfl
  · simp [gev, hx rfl]
theorem gev_true (e d : R3) : gev true e d = e := rfl
theorem gev_false (e d : R3) : gev false e d = d := rfl
theorem gev_and (a b : Bool) (e d : R3) : gev (a && b) e d = gev a (gev b e d) d := by cases a <;> rfl
theorem gev_some (g : Bool) (v u : V) (σ : Sto) (n : Nat) : gev g (some (v, σ, n)) (some (u, σ, n)) = some (cv g v u, σ, n) := by cases g <;> rfl

/-- Done where a condition fails. -/
def gevn (g : Bool) (e d : R3) : R3 := if g = true then d else e
@[congr] theorem gevn_congr {b b' : Bool} {x x' y y' : R3} (hb : b = b') (hx : b' = false → x = x') (hy : y = y') : gevn b x y = gevn b' x' y' := by
  subst hb
  subst hy
  cases b
  · simp [gevn, hx rfl]
  · rfl
theorem gev_not (g : Bool) (e d : R3) : gev (!g) e d = gevn g e d := by cases g <;> rfl
theorem gevn_true (e d : R3) : gevn true e d = d := rfl
theorem gevn_false (e d : R3) : gevn false e d = e := rfl
theorem gevn_some (g : Bool) (v u : V) (σ : Sto) (n : Nat) : gevn g (some (v, σ, n)) (some (u, σ, n)) = some (cv g u v, σ, n) := by cases g <;> rfl

def wantsV (w : Bool) : V → Bool
  | .bool b => b == w
  | _ => false
theorem wantsV_bool (w b : Bool) : wantsV w (.bool b) = (b == w) := rfl
theorem wantsV_undef (w : Bool) : wantsV w .undef = false := rfl
theorem wantsV_cv (w b : Bool) (x : V) : wantsV w (cv b x .undef) = (b && wantsV w x) := by cases b <;> rfl
theorem wantsV_cvn (w b : Bool) (x : V) : wantsV w (cv b .undef x) = (!b && wantsV w x) := by cases b <;> rfl
def wantsO (env : Nat → V) : Option (Nat × Bool) → Bool
  | none => true
  | some (t, w) => wantsV w (env t)
theorem wantsO_none (env : Nat → V) : wantsO env none = true := rfl
theorem wantsO_some (env : Nat → V) (t : Nat) (w : Bool) : wantsO env (some (t, w)) = wantsV w (env t) := rfl
theorem wants_eq (g : Option (Nat × Bool)) (env : Nat → V) : wants g env = wantsO env g := by
  rcases g with _ | ⟨t, w⟩
  · rfl
  · simp only [wants, wantsO, wantsV]
    cases env t <;> rfl

/-- What a call on trees hands back. -/
def backE (fs : Bool) (D : List Nat) (r : V) (σ : Sto) (n lk : Nat) : R3 :=
  if flat r = true then some (thaw σ n r) else if ((fs || D.isEmpty) && D.all (fun id => decide (lk ≤ id))) = true then some (thaw (dropL σ D) n r) else none

noncomputable def callR (T : Tab) (fs : Bool) (f : Nat) (ts : Option (List V)) (D : List Nat) (σ : Sto) (n lk : Nat) : R3 :=
  match ts with
  | none => none
  | some ts => match res T f ts with
    | none => none
    | some r => backE fs D r σ n lk

noncomputable def callE (T : Tab) (fs : Bool) (f : Nat) (args : List V) (σ : Sto) (n lk : Nat) : R3 :=
  if T.mode f = .raw then none else callR T fs f (args.mapM (frz σ DEEP)) (args.flatMap (rch σ DEEP)) σ n lk

noncomputable def callvE (T : Tab) (fs : Bool) (g : V) (args : List V) (σ : Sto) (n lk : Nat) : R3 :=
  match g with
  | .fn f caps => callE T fs f (args ++ caps) σ n lk
  | _ => none

noncomputable def evT (T : Tab) (fs : Bool) (ρ : Opd → V) (σ : Sto) (n lk : Nat) : AI → R3
  | .call f args => callE T fs f (args.map ρ) σ n lk
  | .callv g args => callvE T fs (ρ g) (args.map ρ) σ n lk
  | ai => ev ρ σ n lk ai

variable {T : Tab}

theorem callE_ok {fs : Bool} {f : Nat} {args : List V} {σ σ' : Sto} {n n' lk : Nat} {v : V} {Q : V → Sto → Nat → Prop}
    (h : callE T fs f args σ n lk = some (v, σ', n')) (hq : Q v σ' n') : callW T (run T) fs f args σ n lk Q := by
  unfold callE callR at h
  split at h
  · cases h
  rename_i hm
  split at h
  · cases h
  rename_i ts hts
  split at h
  · cases h
  rename_i r hr
  have key : ∃ D : List Nat, D = (if flat r then [] else args.flatMap (rch σ DEEP)) ∧ (fs = false → D = []) ∧ (∀ id ∈ D, lk ≤ id) ∧
        Q (thaw (dropL σ D) n r).1 (thaw (dropL σ D) n r).2.1 (thaw (dropL σ D) n r).2.2 := by
    refine ⟨_, rfl, ?_⟩
    unfold backE at h
    split at h
    · rename_i hf
      have h0 : dropL σ [] = σ := by funext id; simp [dropL]
      simp only [hf, if_true, h0]
      simp only [Option.some.injEq] at h
      rw [h]
      exact ⟨fun _ => trivial, fun id hid => by simp at hid, hq⟩
    · rename_i hf
      split at h
      · rename_i hc
        simp only [Bool.and_eq_true, Bool.or_eq_true, List.isEmpty_iff, List.all_eq_true, decide_eq_true_eq] at hc
        simp only [hf, if_false, Bool.false_eq_true]
        simp only [Option.some.injEq] at h
        rw [h]
        exact ⟨fun hfs => by simpa [hfs] using hc.1, hc.2, hq⟩
      · cases h
  unfold callW
  cases hmode : T.mode f
  case raw => exact absurd hmode hm
  all_goals exact ⟨ts, hts, r, res_run hr, key⟩

theorem evT_ok {fs : Bool} {ρ : Opd → V} {σ σ' : Sto} {n n' lk : Nat} {ai : AI} {v : V} {Q : V → Sto → Nat → Prop}
    (h : evT T fs ρ σ n lk ai = some (v, σ', n')) (hq : Q v σ' n') : opW T (run T) fs ρ σ n lk ai Q := by
  cases ai
  case call f args => exact callE_ok h hq
  case callv g args =>
    simp only [evT, callvE] at h
    simp only [opW]
    split at h
    · rename_i hg; simp only [hg]; exact callE_ok h hq
    · cases h
  all_goals
    simp only [evT] at h
    simp only [opW, h]
    exact hq

/-- Operations one by one. -/
noncomputable def WR (T : Tab) : List AOp → (Nat → V) → Sto → Nat → Nat → (St → Prop) → Prop
  | [], env, σ, n, lk, Q => Q ⟨env, σ, n, lk⟩
  | o :: ops, env, σ, n, lk, Q => bindE (gev (wantsO env o.guard) (evT T true (vl env) σ n lk o.op) (some (.undef, σ, n))) fun v σ' n' => WR T ops (ptO env o.dst v) σ' n' lk Q

/-- .. from a value on. -/
def stepW (T : Tab) (e : R3) (d : Option Nat) (ops : List AOp) (env : Nat → V) (lk : Nat) (Q : St → Prop) : Prop :=
  bindE e fun v σ' n' => WR T ops (ptO env d v) σ' n' lk Q
theorem stepW_some (v : V) (σ : Sto) (n : Nat) (d : Option Nat) (ops : List AOp) (env : Nat → V) (lk : Nat) (Q : St → Prop) :
    stepW T (some (v, σ, n)) d ops env lk Q = WR T ops (ptO env d v) σ n lk Q := rfl
theorem stepW_congr {e e' : R3} {d : Option Nat} {ops : List AOp} {env : Nat → V} {lk : Nat} {Q : St → Prop} (h : e = e') : stepW T e d ops env lk Q = stepW T e' d ops env lk Q := by rw [h]

theorem WR_nil (env : Nat → V) (σ : Sto) (n lk : Nat) (Q : St → Prop) : WR T [] env σ n lk Q = Q ⟨env, σ, n, lk⟩ := rfl
theorem WR_cons (d : Option Nat) (op : AI) (ops : List AOp) (env : Nat → V) (σ : Sto) (n lk : Nat) (Q : St → Prop) :
    WR T (⟨d, none, op⟩ :: ops) env σ n lk Q = stepW T (evT T true (vl env) σ n lk op) d ops env lk Q := rfl
theorem WR_consG (d : Option Nat) (t : Nat) (w : Bool) (op : AI) (ops : List AOp) (env : Nat → V) (σ : Sto) (n lk : Nat) (Q : St → Prop) :
    WR T (⟨d, some (t, w), op⟩ :: ops) env σ n lk Q = stepW T (gev (wantsV w (env t)) (evT T true (vl env) σ n lk op) (some (.undef, σ, n))) d ops env lk Q := rfl

theorem bindE_out {e : R3} {K : V → Sto → Nat → Prop} (h : bindE e K) : ∃ v σ n, e = some (v, σ, n) ∧ K v σ n := by
  unfold bindE at h
  split at h
  · exact ⟨_, _, _, rfl, h⟩
  · exact h.elim

theorem WR_ok : ∀ (ops : List AOp) (env : Nat → V) (σ : Sto) (n lk : Nat) (Q : St → Prop), WR T ops env σ n lk Q → wpR T (run T) ops ⟨env, σ, n, lk⟩ Q
  | [], env, σ, n, lk, Q, h => h
  | o :: ops, env, σ, n, lk, Q, h => by
    obtain ⟨v, σ', n', he, hk⟩ := bindE_out h
    simp only [wpR, st_val, st_put, wants_eq]
    cases hg : wantsO env o.guard <;> simp only [hg] at he
    · rw [gev_false] at he
      cases he
      simp only [Bool.false_eq_true, if_false]
      exact WR_ok ops _ _ _ _ _ hk
    · rw [gev_true] at he
      simp only [if_true]
      exact evT_ok he (WR_ok ops _ _ _ _ _ hk)

/-- One operation of a part whose order is drawn. -/
noncomputable def dE (T : Tab) (d : DOp) (env : Nat → V) (σ : Sto) (n0 lk : Nat) : R3 :=
  match evT T false (vl env) (if d.pure then Sto.empty else if d.wr then σ else hide σ n0 (n0 + BIG * d.rank) d.hid) (n0 + BIG * d.rank)
    (if d.wr && !d.pure then lk else n0 + BIG * d.rank) d.o.op with
  | some (v, σ', n') => if n' ≤ n0 + BIG * d.rank + (if d.lays then BIG else 0) then
      some (v, (if d.pure then σ else if d.wr then σ' else if d.lays then merge σ σ' (n0 + BIG * d.rank) else σ), n0) else none
  | none => none

/-- .. that touches nothing. -/
def keepS (σ : Sto) (n0 : Nat) (m : Nat) : R3 → R3
  | some (v, σ', n') => if n' ≤ m then some (v, σ, n0) else none
  | none => none
theorem keepS_some (σ σ' : Sto) (n0 m n' : Nat) (v : V) : keepS σ n0 m (some (v, σ', n')) = if n' ≤ m then some (v, σ, n0) else none := rfl

theorem dE_pure (dst : Option Nat) (g : Option (Nat × Bool)) (op : AI) (wr : Bool) (rank : Nat) (hid : List Nat) (env : Nat → V) (σ : Sto) (n0 lk : Nat) :
    dE T ⟨⟨dst, g, op⟩, true, wr, false, rank, hid⟩ env σ n0 lk = keepS σ n0 (n0 + BIG * rank) (evT T false (vl env) Sto.empty (n0 + BIG * rank) (n0 + BIG * rank) op) := by
  simp only [dE, keepS, if_true, Bool.not_true, Bool.and_false, Bool.false_eq_true, if_false, Nat.add_zero]
theorem dE_read (dst : Option Nat) (g : Option (Nat × Bool)) (op : AI) (rank : Nat) (hid : List Nat) (env : Nat → V) (σ : Sto) (n0 lk : Nat) :
    dE T ⟨⟨dst, g, op⟩, false, false, false, rank, hid⟩ env σ n0 lk = keepS σ n0 (n0 + BIG * rank) (evT T false (vl env) (hide σ n0 (n0 + BIG * rank) hid) (n0 + BIG * rank) (n0 + BIG * rank) op) := by
  simp only [dE, keepS, if_true, Bool.not_true, Bool.and_false, Bool.false_eq_true, if_false, Nat.add_zero, Bool.false_and]
theorem hide_nil (σ : Sto) (n0 lab : Nat) : hide σ n0 lab [] = σ := rfl

/-- What stands behind a part of a region. -/
abbrev AfterD := (Nat → V) → Sto → Prop

noncomputable def WD (T : Tab) (n0 : Nat) : List DOp → (Nat → V) → Sto → Nat → AfterD → Prop
  | [], env, σ, lk, Q => Q env σ
  | d :: ds, env, σ, lk, Q => bindE (gev (wantsO env d.o.guard) (dE T d env σ n0 lk) (some (.undef, σ, n0))) fun v σ' _ => WD T n0 ds (ptO env d.o.dst v) σ' lk Q

def stepDW (T : Tab) (n0 : Nat) (e : R3) (d : Option Nat) (ds : List DOp) (env : Nat → V) (lk : Nat) (Q : AfterD) : Prop :=
  bindE e fun v σ' _ => WD T n0 ds (ptO env d v) σ' lk Q
theorem stepDW_some (n0 : Nat) (v : V) (σ : Sto) (n : Nat) (d : Option Nat) (ds : List DOp) (env : Nat → V) (lk : Nat) (Q : AfterD) :
    stepDW T n0 (some (v, σ, n)) d ds env lk Q = WD T n0 ds (ptO env d v) σ lk Q := rfl

theorem WD_nil (n0 : Nat) (env : Nat → V) (σ : Sto) (lk : Nat) (Q : AfterD) : WD T n0 [] env σ lk Q = Q env σ := rfl
theorem WD_cons (n0 : Nat) (d : Option Nat) (op : AI) (a b c : Bool) (rank : Nat) (hid : List Nat) (ds : List DOp) (env : Nat → V) (σ : Sto) (lk : Nat) (Q : AfterD) :
    WD T n0 (⟨⟨d, none, op⟩, a, b, c, rank, hid⟩ :: ds) env σ lk Q = stepDW T n0 (dE T ⟨⟨d, none, op⟩, a, b, c, rank, hid⟩ env σ n0 lk) d ds env lk Q := rfl
theorem WD_consG (n0 : Nat) (d : Option Nat) (t : Nat) (w : Bool) (op : AI) (a b c : Bool) (rank : Nat) (hid : List Nat) (ds : List DOp) (env : Nat → V) (σ : Sto) (lk : Nat) (Q : AfterD) :
    WD T n0 (⟨⟨d, some (t, w), op⟩, a, b, c, rank, hid⟩ :: ds) env σ lk Q =
      stepDW T n0 (gev (wantsV w (env t)) (dE T ⟨⟨d, some (t, w), op⟩, a, b, c, rank, hid⟩ env σ n0 lk) (some (.undef, σ, n0))) d ds env lk Q := rfl

theorem WD_ok (n0 : Nat) : ∀ (ds : List DOp) (env : Nat → V) (σ : Sto) (n lk : Nat) (Q : (Nat → V) → Sto → Prop), WD T n0 ds env σ lk Q →
    wpD T (run T) n0 ds ⟨env, σ, n, lk⟩ fun s => s.n = n ∧ s.lk = lk ∧ Q s.env s.σ
  | [], env, σ, n, lk, Q, h => ⟨rfl, rfl, h⟩
  | d :: ds, env, σ, n, lk, Q, h => by
    obtain ⟨v, σ', n', he, hk⟩ := bindE_out h
    simp only [wpD, st_val, st_put, wants_eq]
    cases hg : wantsO env d.o.guard <;> simp only [hg] at he
    · rw [gev_false] at he
      cases he
      simp only [Bool.false_eq_true, if_false]
      exact WD_ok n0 ds _ _ _ _ _ hk
    · rw [gev_true] at he
      simp only [if_true]
      unfold dE at he
      generalize hev : evT T false (vl env) (if d.pure then Sto.empty else if d.wr then σ else hide σ n0 (n0 + BIG * d.rank) d.hid) (n0 + BIG * d.rank)
        (if d.wr && !d.pure then lk else n0 + BIG * d.rank) d.o.op = r at he
      rcases r with _ | ⟨v1, σ1, n1⟩
      · cases he
      · simp only at he
        by_cases hn : n1 ≤ n0 + BIG * d.rank + (if d.lays then BIG else 0)
        · rw [if_pos hn] at he
          simp only [Option.some.injEq, Prod.mk.injEq] at he
          obtain ⟨rfl, rfl, rfl⟩ := he
          exact evT_ok hev ⟨hn, WD_ok n0 ds _ _ _ _ _ hk⟩
        · rw [if_neg hn] at he
          cases he

noncomputable def WS (T : Tab) : List Seg → (Nat → V) → Sto → Nat → Nat → (St → Prop) → Prop
  | [], env, σ, n, lk, Q => Q ⟨env, σ, n, lk⟩
  | g :: gs, env, σ, n, lk, Q => WD T n g.ds env σ lk fun env' σ' => WR T g.ops env' σ' (n + BIG * g.lays) lk fun s => WS T gs s.env s.σ s.n s.lk Q

/-- What stands behind a region's part. -/
def segQ (T : Tab) (gs : List Seg) (Q : St → Prop) : St → Prop := fun s => WS T gs s.env s.σ s.n s.lk Q
theorem segQ_st (gs : List Seg) (Q : St → Prop) (env : Nat → V) (σ : Sto) (n lk : Nat) : segQ T gs Q ⟨env, σ, n, lk⟩ = WS T gs env σ n lk Q := rfl
def aftD (T : Tab) (ops : List AOp) (n lk : Nat) (Q : St → Prop) : AfterD := fun env σ => WR T ops env σ n lk Q
theorem aftD_st (ops : List AOp) (n lk : Nat) (Q : St → Prop) (env : Nat → V) (σ : Sto) : aftD T ops n lk Q env σ = WR T ops env σ n lk Q := rfl
theorem WS_nil (env : Nat → V) (σ : Sto) (n lk : Nat) (Q : St → Prop) : WS T [] env σ n lk Q = Q ⟨env, σ, n, lk⟩ := rfl
theorem WS_cons0 (ds : List DOp) (ops : List AOp) (gs : List Seg) (env : Nat → V) (σ : Sto) (n lk : Nat) (Q : St → Prop) :
    WS T (⟨ds, 0, ops⟩ :: gs) env σ n lk Q = WD T n ds env σ lk (aftD T ops n lk (segQ T gs Q)) := rfl
theorem WS_cons (ds : List DOp) (l : Nat) (ops : List AOp) (gs : List Seg) (env : Nat → V) (σ : Sto) (n lk : Nat) (Q : St → Prop) :
    WS T (⟨ds, l, ops⟩ :: gs) env σ n lk Q = WD T n ds env σ lk (aftD T ops (n + BIG * l) lk (segQ T gs Q)) := rfl

theorem wpD_weak {n0 : Nat} {ds : List DOp} {s : St} {Q Q' : St → Prop} (h : wpD T (run T) n0 ds s Q) (hq : ∀ s, Q s → Q' s) : wpD T (run T) n0 ds s Q' :=
  wpD_mono (fun _ _ x => x) run_mono n0 ds s Q Q' hq h

theorem WS_ok : ∀ (gs : List Seg) (env : Nat → V) (σ : Sto) (n lk : Nat) (Q : St → Prop), WS T gs env σ n lk Q → wpS T (run T) gs ⟨env, σ, n, lk⟩ Q
  | [], env, σ, n, lk, Q, h => h
  | g :: gs, env, σ, n, lk, Q, h => by
    simp only [wpS]
    refine wpD_weak (WD_ok n g.ds env σ n lk _ h) fun s hs => ?_
    obtain ⟨env', σ', n', lk'⟩ := s
    obtain ⟨rfl, rfl, hk⟩ := hs
    refine WR_ok g.ops _ _ _ _ _ ?_
    have : ∀ (ops : List AOp) (env : Nat → V) (σ : Sto) (n lk : Nat) (Q Q' : St → Prop), (∀ s, Q s → Q' s) → WR T ops env σ n lk Q → WR T ops env σ n lk Q' := by
      intro ops
      induction ops with
      | nil => exact fun env σ n lk Q Q' hq hh => hq _ hh
      | cons o ops ih =>
        intro env σ n lk Q Q' hq hh
        obtain ⟨v, σ', n', he, hk⟩ := bindE_out hh
        simp only [WR, he, bindE]
        exact ih _ _ _ _ _ _ hq hk
    exact this _ _ _ _ _ _ _ (fun s hs => WS_ok gs _ _ _ _ _ hs) hk

/-- A test. -/
def condW (v : V) (A B : Prop) : Prop := match v with
  | .bool true => A
  | .bool false => B
  | _ => False
@[congr] theorem condW_congr {v v' : V} {A B : Prop} (h : v = v') : condW v A B = condW v' A B := by rw [h]
theorem condW_true (A B : Prop) : condW (.bool true) A B = A := rfl
theorem condW_false (A B : Prop) : condW (.bool false) A B = B := rfl
theorem condW_split {b : Bool} {A B : Prop} (h : b = true → A) (h' : b = false → B) : condW (.bool b) A B := by
  cases b
  · exact h' rfl
  · exact h rfl

/-- A test in code. -/
def norQ (Q : Ex → St → Prop) : St → Prop := Q .normal
theorem norQ_st (Q : Ex → St → Prop) (s : St) : norQ Q s = Q .normal s := rfl

/-- Code, from a state laid open. -/
noncomputable def WC (T : Tab) : AC → (Nat → V) → Sto → Nat → Nat → (Ex → St → Prop) → Prop
  | .skip, env, σ, n, lk, Q => Q .normal ⟨env, σ, n, lk⟩
  | .reg ops, env, σ, n, lk, Q => WR T ops env σ n lk (Q .normal)
  | .regd gs, env, σ, n, lk, Q => WS T gs env σ n lk (Q .normal)
  | .seq a b, env, σ, n, lk, Q => WC T a env σ n lk fun ex s => match ex with
    | .normal => WC T b s.env s.σ s.n s.lk Q
    | ex => Q ex s
  | .cond x a b, env, σ, n, lk, Q => condW (vl env x) (WC T a env σ n lk Q) (WC T b env σ n lk Q)
  | .block id c, env, σ, n, lk, Q => WC T c env σ n lk (blockW id Q)
  | .loop c, env, σ, n, lk, Q => wpC T (run T) (.loop c) ⟨env, σ, n, lk⟩ Q
  | .rangeF g ps x y, env, σ, n, lk, Q => wpC T (run T) (.rangeF g ps x y) ⟨env, σ, n, lk⟩ Q
  | .exit id, env, σ, n, lk, Q => Q (.exit id) ⟨env, σ, n, lk⟩
  | .ret, env, σ, n, lk, Q => Q .ret ⟨env, σ, n, lk⟩

theorem WC_ok : ∀ (c : AC) (env : Nat → V) (σ : Sto) (n lk : Nat) (Q : Ex → St → Prop), WC T c env σ n lk Q → wpC T (run T) c ⟨env, σ, n, lk⟩ Q
  | .skip, env, σ, n, lk, Q, h => h
  | .reg ops, env, σ, n, lk, Q, h => WR_ok ops env σ n lk _ h
  | .regd gs, env, σ, n, lk, Q, h => WS_ok gs env σ n lk _ h
  | .seq a b, env, σ, n, lk, Q, h => by
    simp only [wpC]
    simp only [WC] at h
    refine wpC_mono (fun _ _ x => x) run_mono a _ _ _ (fun e s hh => ?_) (WC_ok a env σ n lk _ h)
    cases e <;> simp only [thenW] at hh ⊢
    · exact WC_ok b _ _ _ _ _ hh
    · exact hh
    · exact hh
  | .cond x a b, env, σ, n, lk, Q, h => by
    simp only [WC] at h
    simp only [wpC, st_val]
    unfold condW at h
    split at h
    · rename_i hx; simp only [hx]; exact WC_ok a _ _ _ _ _ h
    · rename_i hx; simp only [hx]; exact WC_ok b _ _ _ _ _ h
    · exact h.elim
  | .block id c, env, σ, n, lk, Q, h => WC_ok c env σ n lk _ h
  | .loop c, env, σ, n, lk, Q, h => h
  | .rangeF g ps x y, env, σ, n, lk, Q, h => h
  | .exit id, env, σ, n, lk, Q, h => h
  | .ret, env, σ, n, lk, Q, h => h

/-- What stands behind a part. -/
def seqQ (T : Tab) (b : AC) (Q : Ex → St → Prop) : Ex → St → Prop
  | .normal, ⟨env, σ, n, lk⟩ => WC T b env σ n lk Q
  | ex, s => Q ex s
theorem seqQ_normal (b : AC) (Q : Ex → St → Prop) (env : Nat → V) (σ : Sto) (n lk : Nat) : seqQ T b Q .normal ⟨env, σ, n, lk⟩ = WC T b env σ n lk Q := rfl
theorem seqQ_exit (b : AC) (Q : Ex → St → Prop) (i : Nat) (s : St) : seqQ T b Q (.exit i) s = Q (.exit i) s := rfl
theorem seqQ_ret (b : AC) (Q : Ex → St → Prop) (s : St) : seqQ T b Q .ret s = Q .ret s := rfl

theorem blockW_normal (i : Nat) (Q : Ex → St → Prop) (s : St) : blockW i Q .normal s = Q .normal s := rfl
theorem blockW_ret (i : Nat) (Q : Ex → St → Prop) (s : St) : blockW i Q .ret s = Q .ret s := rfl
theorem blockW_exit (i j : Nat) (Q : Ex → St → Prop) (s : St) : blockW i Q (.exit j) s = if j = i then Q .normal s else Q (.exit j) s := rfl

theorem WC_skip (env : Nat → V) (σ : Sto) (n lk : Nat) (Q : Ex → St → Prop) : WC T .skip env σ n lk Q = Q .normal ⟨env, σ, n, lk⟩ := rfl
theorem WC_ret (env : Nat → V) (σ : Sto) (n lk : Nat) (Q : Ex → St → Prop) : WC T .ret env σ n lk Q = Q .ret ⟨env, σ, n, lk⟩ := rfl
theorem WC_exit (i : Nat) (env : Nat → V) (σ : Sto) (n lk : Nat) (Q : Ex → St → Prop) : WC T (.exit i) env σ n lk Q = Q (.exit i) ⟨env, σ, n, lk⟩ := rfl
theorem WC_block (i : Nat) (c : AC) (env : Nat → V) (σ : Sto) (n lk : Nat) (Q : Ex → St → Prop) : WC T (.block i c) env σ n lk Q = WC T c env σ n lk (blockW i Q) := rfl
theorem WC_seq (a b : AC) (env : Nat → V) (σ : Sto) (n lk : Nat) (Q : Ex → St → Prop) : WC T (.seq a b) env σ n lk Q = WC T a env σ n lk (seqQ T b Q) := by
  simp only [WC]
  congr 1
  funext e s
  cases e <;> rfl
def condC (T : Tab) (v : V) (a b : AC) (env : Nat → V) (σ : Sto) (n lk : Nat) (Q : Ex → St → Prop) : Prop := condW v (WC T a env σ n lk Q) (WC T b env σ n lk Q)
theorem condC_true (a b : AC) (env : Nat → V) (σ : Sto) (n lk : Nat) (Q : Ex → St → Prop) : condC T (.bool true) a b env σ n lk Q = WC T a env σ n lk Q := rfl
theorem condC_false (a b : AC) (env : Nat → V) (σ : Sto) (n lk : Nat) (Q : Ex → St → Prop) : condC T (.bool false) a b env σ n lk Q = WC T b env σ n lk Q := rfl
theorem condC_split {x : Bool} {a b : AC} {env : Nat → V} {σ : Sto} {n lk : Nat} {Q : Ex → St → Prop} (h : x = true → WC T a env σ n lk Q) (h' : x = false → WC T b env σ n lk Q) :
    condC T (.bool x) a b env σ n lk Q := condW_split h h'
theorem WC_cond (x : Opd) (a b : AC) (env : Nat → V) (σ : Sto) (n lk : Nat) (Q : Ex → St → Prop) :
    WC T (.cond x a b) env σ n lk Q = condC T (vl env x) a b env σ n lk Q := rfl
theorem WC_reg (ops : List AOp) (env : Nat → V) (σ : Sto) (n lk : Nat) (Q : Ex → St → Prop) : WC T (.reg ops) env σ n lk Q = WR T ops env σ n lk (norQ Q) := rfl
theorem WC_regd (gs : List Seg) (env : Nat → V) (σ : Sto) (n lk : Nat) (Q : Ex → St → Prop) : WC T (.regd gs) env σ n lk Q = WS T gs env σ n lk (norQ Q) := rfl

/-- A loop, by something that grows less. -/
theorem WC_loop {α : Type} {c : AC} {Q : Ex → St → Prop} (I : α → St → Prop) (m : α → Nat)
    (hI : ∀ a env σ n lk, I a ⟨env, σ, n, lk⟩ → WC T c env σ n lk (fun e s => match e with
      | .normal => ∃ a', m a' < m a ∧ I a' s
      | e => Q e s)) : ∀ (a : α) (env : Nat → V) (σ : Sto) (n lk : Nat), I a ⟨env, σ, n, lk⟩ → WC T (.loop c) env σ n lk Q := by
  have key : ∀ (k : Nat) (a : α) (s : St), m a < k → I a s → wpC T (run T) (.loop c) s Q := by
    intro k
    induction k with
    | zero => intro a s h; omega
    | succ k ih =>
      intro a s hk hi
      simp only [wpC]
      refine loopW_step (fun s Q Q' hq hh => wpC_mono (fun _ _ x => x) run_mono c s Q Q' hq hh) ?_
      obtain ⟨env, σ, n, lk⟩ := s
      refine wpC_mono (fun _ _ x => x) run_mono c _ _ _ (fun e s' hh => ?_) (WC_ok c _ _ _ _ _ (hI a env σ n lk hi))
      cases e <;> simp only [thenW] at hh ⊢
      · obtain ⟨a', h1, h2⟩ := hh
        exact ih a' s' (by omega) h2
      · exact hh
      · exact hh
  exact fun a env σ n lk h => key (m a + 1) a _ (by omega) h

/-- What stands behind a loop's round. -/
def lpQ (J : (Nat → V) → Sto → Nat → Nat → Prop) (Q : Ex → St → Prop) : Ex → St → Prop
  | .normal, s => J s.env s.σ s.n s.lk
  | e, s => Q e s
theorem lpQ_normal (J : (Nat → V) → Sto → Nat → Nat → Prop) (Q : Ex → St → Prop) (env : Nat → V) (σ : Sto) (n lk : Nat) : lpQ J Q .normal ⟨env, σ, n, lk⟩ = J env σ n lk := rfl
theorem lpQ_exit (J : (Nat → V) → Sto → Nat → Nat → Prop) (Q : Ex → St → Prop) (i : Nat) (s : St) : lpQ J Q (.exit i) s = Q (.exit i) s := rfl
theorem lpQ_ret (J : (Nat → V) → Sto → Nat → Nat → Prop) (Q : Ex → St → Prop) (s : St) : lpQ J Q .ret s = Q .ret s := rfl

theorem WC_loopI {α : Type} {c : AC} {Q : Ex → St → Prop} (lk : Nat) (I : α → (Nat → V) → Sto → Nat → Prop) (m : α → Nat)
    (hI : ∀ a env σ n, I a env σ n → WC T c env σ n lk (lpQ (fun env' σ' n' lk' => lk' = lk ∧ ∃ a', m a' < m a ∧ I a' env' σ' n') Q)) (a : α) (env : Nat → V) (σ : Sto) (n : Nat) (h : I a env σ n) :
    WC T (.loop c) env σ n lk Q := by
  have key : ∀ (k : Nat) (a : α) (env : Nat → V) (σ : Sto) (n : Nat), m a < k → I a env σ n → wpC T (run T) (.loop c) ⟨env, σ, n, lk⟩ Q := by
    intro k
    induction k with
    | zero => intro a _ _ _ h; omega
    | succ k ih =>
      intro a env σ n hk hi
      simp only [wpC]
      refine loopW_step (fun s Q Q' hq hh => wpC_mono (fun _ _ x => x) run_mono c s Q Q' hq hh) ?_
      refine wpC_mono (fun _ _ x => x) run_mono c _ _ _ (fun e s' hh => ?_) (WC_ok c _ _ _ _ _ (hI a env σ n hi))
      cases e <;> simp only [thenW] at hh ⊢
      · obtain ⟨env', σ', n', lk'⟩ := s'
        obtain ⟨h0, a', h1, h2⟩ := hh
        simp only at h0
        subst h0
        exact ih a' _ _ _ (by omega) h2
      · exact hh
      · exact hh
  exact key (m a + 1) a env σ n (by omega) h

/-- A call's end. -/
def endQ (rs : List Res) (P : Sto → V → Prop) (ex : Ex) (s : St) : Prop := isEnd ex = true ∧ ∃ v, outOf s rs = some v ∧ P s.σ v

theorem run_pure {f : Nat} {args : List V} {r : V} {fn : Fn} (hf : T.fn f = some fn) (hl : args.length = fn.np) (hm : T.mode f = .pure)
    (h : WC T fn.body (envOf args) Sto.empty 0 0 (endQ fn.res fun σ v => frz σ DEEP v = some r)) : run T (.pure f args) (fun o => o = .val r) := by
  refine run_step ?_
  simp only [jobW]
  refine ⟨fn, hf, hl, (by rw [hm]; decide), wpC_mono (fun _ _ x => x) run_mono _ _ _ _ (fun e s hh => ?_) (WC_ok _ _ _ _ _ _ h)⟩
  obtain ⟨h1, v, h2, h3⟩ := hh
  exact ⟨h1, v, h2, r, by rw [hm]; exact h3, rfl⟩

theorem run_own {f : Nat} {args : List V} {r : V} {fn : Fn} (hf : T.fn f = some fn) (hl : args.length = fn.np) (hm : T.mode f = .own)
    (h : WC T fn.body (envOf args) Sto.empty 0 0 (endQ fn.res fun σ v => giv σ DEEP v = some r ∧ (gids σ DEEP v).Nodup)) : run T (.pure f args) (fun o => o = .val r) := by
  refine run_step ?_
  simp only [jobW]
  refine ⟨fn, hf, hl, (by rw [hm]; decide), wpC_mono (fun _ _ x => x) run_mono _ _ _ _ (fun e s hh => ?_) (WC_ok _ _ _ _ _ _ h)⟩
  obtain ⟨h1, v, h2, h3⟩ := hh
  exact ⟨h1, v, h2, r, by rw [hm]; exact h3, rfl⟩

end Go.Q
