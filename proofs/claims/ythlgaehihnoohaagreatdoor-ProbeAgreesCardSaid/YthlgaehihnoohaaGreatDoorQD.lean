/- The evaluator's rules in a form that a rewriter can follow: one road, values in normal form, guards as conditional values. -/
import Derived.Test.YthlgaehihnoohaaGreatDoorQC
import Derived.Lib.TrailingZeros
import Derived.Shelf.Spec.SlicesInsertGrow
import Derived.Deep.RegionLaw
set_option linter.unusedVariables false
set_option linter.unusedSimpArgs false
set_option linter.unusedSectionVars false
set_option linter.defProp false
section
namespace Go.Q
def cv (b : Bool) (x y : V) : V := if b = true then x else y
@[congr] theorem cv_congr {b b' : Bool} {x x' y y' : V} (hb : b = b') (hx : b' = true → x = x') (hy : b' = false → y = y') : cv b x y = cv b' x' y' := by
 subst hb
 cases b
 ·simp [cv, hy rfl]
 ·simp [cv, hx rfl]
theorem cv_true (x y : V) : cv true x y = x := rfl
theorem cv_false (x y : V) : cv false x y = y := rfl
theorem cv_bool_and (b : Bool) (x : Bool) : cv b (.bool x) (.bool false) = .bool (b && x) := by cases b <;> rfl
theorem cv_bool_or (b : Bool) (x : Bool) : cv b (.bool true) (.bool x) = .bool (b || x) := by cases b <;> rfl
theorem cv_same (b : Bool) (x : V) : cv b x x = x := by cases b <;> rfl
theorem cv_bool_imp (b : Bool) (x : Bool) : cv b (.bool x) (.bool true) = .bool (!b || x) := by cases b <;> rfl
theorem cv_bool_nand (b : Bool) (x : Bool) : cv b (.bool false) (.bool x) = .bool (!b && x) := by cases b <;> rfl
theorem cv_int (b : Bool) (k : IntKind) (x y : Int) : cv b (.int k x) (.int k y) = .int k (if b = true then x else y) := by cases b <;> rfl
theorem cv_not (b : Bool) (x y : V) : cv (!b) x y = cv b y x := by cases b <;> rfl
def pt (env : Nat → V) (d : Nat) (v : V) : Nat → V := fun t => if t = d then v else env t
theorem pt_get (env : Nat → V) (d : Nat) (v : V) (t : Nat) : pt env d v t = if t = d then v else env t := rfl
def ptO (env : Nat → V) (d : Option Nat) (v : V) : Nat → V := match d with
 | some d => pt env d v
 | none => env
theorem ptO_some (env : Nat → V) (d : Nat) (v : V) : ptO env (some d) v = pt env d v := rfl
theorem ptO_none (env : Nat → V) (v : V) : ptO env none v = env := rfl
def vl (env : Nat → V) : Opd → V
 | .tmp t => env t
 | .con v => v
theorem vl_tmp (env : Nat → V) (t : Nat) : vl env (.tmp t) = env t := rfl
theorem vl_con (env : Nat → V) (v : V) : vl env (.con v) = v := rfl
theorem st_val (env : Nat → V) (σ : Sto) (n lk : Nat) : St.val ⟨env, σ, n, lk⟩ = vl env := by funext x; cases x <;> rfl
theorem st_put (env : Nat → V) (σ : Sto) (n lk : Nat) (d : Option Nat) (v : V) : St.put ⟨env, σ, n, lk⟩ d v = ⟨ptO env d v, σ, n, lk⟩ := by cases d <;> rfl
abbrev R3 := Option (V × Sto × Nat)
def bindE (e : R3) (K : V → Sto → Nat → Prop) : Prop := match e with
 | some (v, σ, n) => K v σ n
 | none => False
@[congr] theorem bindE_congr {e e' : R3} {K : V → Sto → Nat → Prop} (h : e = e') : bindE e K = bindE e' K := by rw [h]
def gev (g : Bool) (e d : R3) : R3 := if g = true then e else d
@[congr] theorem gev_congr {b b' : Bool} {x x' y y' : R3} (hb : b = b') (hx : b' = true → x = x') (hy : y = y') : gev b x y = gev b' x' y' := by
 subst hb
 subst hy
 cases b
 ·rfl
 ·simp [gev, hx rfl]
theorem gev_true (e d : R3) : gev true e d = e := rfl
theorem gev_false (e d : R3) : gev false e d = d := rfl
theorem gev_some (g : Bool) (v u : V) (σ : Sto) (n : Nat) : gev g (some (v, σ, n)) (some (u, σ, n)) = some (cv g v u, σ, n) := by cases g <;> rfl
def gevn (g : Bool) (e d : R3) : R3 := if g = true then d else e
@[congr] theorem gevn_congr {b b' : Bool} {x x' y y' : R3} (hb : b = b') (hx : b' = false → x = x') (hy : y = y') : gevn b x y = gevn b' x' y' := by
 subst hb
 subst hy
 cases b
 ·simp [gevn, hx rfl]
 ·rfl
theorem gev_not (g : Bool) (e d : R3) : gev (!g) e d = gevn g e d := by cases g <;> rfl
theorem gevn_true (e d : R3) : gevn true e d = d := rfl
theorem gevn_false (e d : R3) : gevn false e d = e := rfl
theorem gevn_some (g : Bool) (v u : V) (σ : Sto) (n : Nat) : gevn g (some (v, σ, n)) (some (u, σ, n)) = some (cv g u v, σ, n) := by cases g <;> rfl
def wantsV (w : Bool) : V → Bool
 | .bool b => b == w
 | _ => false
theorem wantsV_bool (w b : Bool) : wantsV w (.bool b) = (b == w) := rfl
theorem wantsV_undef (w : Bool) : wantsV w .undef = false := rfl
theorem wantsV_cv (w b : Bool) (x : V) : wantsV w (cv b x .undef) = (b && wantsV w x) := by cases b <;> rfl
theorem wantsV_cvn (w b : Bool) (x : V) : wantsV w (cv b .undef x) = (!b && wantsV w x) := by cases b <;> rfl
def wantsO (env : Nat → V) : Option (Nat × Bool) → Bool
 | none => true
 | some (t, w) => wantsV w (env t)
theorem wants_eq (g : Option (Nat × Bool)) (env : Nat → V) : wants g env = wantsO env g := by
 rcases g with _ | ⟨t, w⟩
 ·rfl
 ·simp only [wants, wantsO, wantsV]
  cases env t <;> rfl
def backE (fs : Bool) (D : List Nat) (r : V) (σ : Sto) (n lk : Nat) : R3 :=
 if flat r = true then some (thaw σ n r) else if ((fs || D.isEmpty) && D.all (fun id => decide (lk ≤ id))) = true then some (thaw (dropL σ D) n r) else none
noncomputable def callR (T : Tab) (fs : Bool) (f : Nat) (ts : Option (List V)) (D : List Nat) (σ : Sto) (n lk : Nat) : R3 :=
 match ts with
 | none => none
 | some ts => match res T f ts with
   | none => none
   | some r => backE fs D r σ n lk
noncomputable def rawR (T : Tab) (f : Nat) (args : List V) (σ : Sto) (n lk : Nat) : R3 :=
 open Classical in if h : ∃ x : V × Sto × Nat, run T (.raw f args σ n lk) (fun o => o = .mem x.1 x.2.1 x.2.2) then some h.choose else none
noncomputable def yldR (T : Tab) (l : Nat) (args : List V) (σ : Sto) (n lk : Nat) : R3 :=
 open Classical in if h : ∃ x : V × Sto × Nat, yieldW (run T) l args σ n lk (fun v σ' n' => (v, σ', n') = x) then some h.choose else none
def memQ (Q : V → Sto → Nat → Prop) (o : Out) : Prop := match o with
 | .mem v σ' n' => Q v σ' n'
 | _ => False
theorem rawR_ok {T : Tab} {f : Nat} {args : List V} {σ σ' : Sto} {n n' lk : Nat} {v : V} {Q : V → Sto → Nat → Prop} (h : rawR T f args σ n lk = some (v, σ', n')) (hq : Q v σ' n') : run T (.raw f args σ n lk) (memQ Q) := by
 unfold rawR at h
 split at h
 ·rename_i hx
  simp only [Option.some.injEq] at h
  refine run_mono _ _ _ (fun o e => ?_) hx.choose_spec
  rw [h] at e
  subst e
  exact hq
 ·cases h
theorem rawR_of {T : Tab} {f : Nat} {args : List V} {σ : Sto} {n lk : Nat} {Q : V → Sto → Nat → Prop} (h : run T (.raw f args σ n lk) (memQ Q)) : ∃ v σ' n', rawR T f args σ n lk = some (v, σ', n') ∧ Q v σ' n' := by
 obtain ⟨o, hq, hd⟩ := run_def _ _ h
 cases o <;> try exact hq.elim
 rename_i v σ' n'
 have hx : ∃ x : V × Sto × Nat, run T (.raw f args σ n lk) (fun o => o = .mem x.1 x.2.1 x.2.2) := ⟨(v, σ', n'), hd⟩
 refine ⟨v, σ', n', ?_, hq⟩
 unfold rawR
 rw [dif_pos hx]
 obtain ⟨o, a, b⟩ := run_meet _ _ _ hx.choose_spec hd
 rw [a] at b
 simp only [Out.mem.injEq] at b
 obtain ⟨b1, b2, b3⟩ := b
 rw [← b1, ← b2, ← b3]
theorem yldR_ok {T : Tab} {l : Nat} {args : List V} {σ σ' : Sto} {n n' lk : Nat} {v : V} {Q : V → Sto → Nat → Prop} (h : yldR T l args σ n lk = some (v, σ', n')) (hq : Q v σ' n') : yieldW (run T) l args σ n lk Q := by
 unfold yldR at h
 split at h
 ·rename_i hx
  simp only [Option.some.injEq] at h
  refine yieldW_mono (fun _ _ x => x) run_mono (fun v2 σ2 n2 e => ?_) hx.choose_spec
  rw [h] at e
  simp only [Prod.mk.injEq] at e
  obtain ⟨rfl, rfl, rfl⟩ := e
  exact hq
 ·cases h
theorem yldR_of {T : Tab} {l : Nat} {args : List V} {σ : Sto} {n lk : Nat} {Q : V → Sto → Nat → Prop} (h : yieldW (run T) l args σ n lk Q) : ∃ v σ' n', yldR T l args σ n lk = some (v, σ', n') ∧ Q v σ' n' := by
 obtain ⟨v, σ', n', hq, hd⟩ := yieldW_def run_def run_mono h
 have hx : ∃ x : V × Sto × Nat, yieldW (run T) l args σ n lk (fun v σ' n' => (v, σ', n') = x) :=
  ⟨(v, σ', n'), yieldW_mono (fun _ _ x => x) run_mono (fun v2 σ2 n2 ⟨e1, e2, e3⟩ => by subst e1; subst e2; subst e3; rfl) hd⟩
 refine ⟨v, σ', n', ?_, hq⟩
 unfold yldR
 rw [dif_pos hx]
 obtain ⟨v2, σ2, n2, a, b⟩ := yieldW_meet run_meet hx.choose_spec hd
 rw [← a, b.1, b.2.1, b.2.2]
noncomputable def callE (T : Tab) (fs : Bool) (f : Nat) (args : List V) (σ : Sto) (n lk : Nat) : R3 :=
 if T.mode f = .raw then (if fs = true then rawR T f args σ n lk else none) else callR T fs f (args.mapM (frz σ DEEP)) (args.flatMap (rch σ DEEP)) σ n lk
noncomputable def callvE (T : Tab) (fs : Bool) (g : V) (args : List V) (σ : Sto) (n lk : Nat) : R3 :=
 match g with
 | .fn f caps => callE T fs f (args ++ caps) σ n lk
 | .bnd f bs => callE T fs f (bs ++ args) σ n lk
 | .yld l => if fs = true then yldR T l args σ n lk else none
 | _ => none
noncomputable def invE (T : Tab) (fs : Bool) (t : Option (Nat × V)) (args : List V) (σ : Sto) (n lk : Nat) : R3 :=
 match t with
 | some (f, r) => if fs = true then callE T fs f (r :: args) σ n lk else none
 | none => none
noncomputable def evT (T : Tab) (fs : Bool) (ρ : Opd → V) (σ : Sto) (n lk : Nat) : AI → R3
 | .call f args => callE T fs f (args.map ρ) σ n lk
 | .callv g args => callvE T fs (ρ g) (args.map ρ) σ n lk
 | .inv x tbl args => invE T fs (invOf σ tbl (ρ x)) (args.map ρ) σ n lk
 | .prim f args => primE T f (args.map ρ) σ n lk
 | ai => ev ρ σ n lk ai
variable {T : Tab}
theorem callE_ok {fs : Bool} {f : Nat} {args : List V} {σ σ' : Sto} {n n' lk : Nat} {v : V} {Q : V → Sto → Nat → Prop}
 (h : callE T fs f args σ n lk = some (v, σ', n')) (hq : Q v σ' n') : callW T (run T) fs f args σ n lk Q := by
 unfold callE callR at h
 split at h
 ·rename_i hm
  split at h
  ·rename_i hfs
   unfold callW
   rw [hm]
   exact ⟨hfs, rawR_ok h hq⟩
  ·cases h
 rename_i hm
 split at h
 ·cases h
 rename_i ts hts
 split at h
 ·cases h
 rename_i r hr
 have key : ∃ D : List Nat, D = (if flat r then [] else args.flatMap (rch σ DEEP)) ∧ (fs = false → D = []) ∧ (∀ id ∈ D, lk ≤ id) ∧
  Q (thaw (dropL σ D) n r).1 (thaw (dropL σ D) n r).2.1 (thaw (dropL σ D) n r).2.2 := by
  refine ⟨_, rfl, ?_⟩
  unfold backE at h
  split at h
  ·rename_i hf
   have h0 : dropL σ [] = σ := by funext id; simp [dropL]
   simp only [hf, if_true, h0]
   simp only [Option.some.injEq] at h
   rw [h]
   exact ⟨fun _ => trivial, fun id hid => by simp at hid, hq⟩
  ·rename_i hf
   split at h
   ·rename_i hc
    simp only [Bool.and_eq_true, Bool.or_eq_true, List.isEmpty_iff, List.all_eq_true, decide_eq_true_eq] at hc
    simp only [hf, if_false, Bool.false_eq_true]
    simp only [Option.some.injEq] at h
    rw [h]
    exact ⟨fun hfs => by simpa [hfs] using hc.1, hc.2, hq⟩
   ·cases h
 unfold callW
 cases hmode : T.mode f
 case raw => exact absurd hmode hm
 all_goals exact ⟨ts, hts, r, res_run hr, key⟩
theorem evT_ok {fs : Bool} {ρ : Opd → V} {σ σ' : Sto} {n n' lk : Nat} {ai : AI} {v : V} {Q : V → Sto → Nat → Prop}
 (h : evT T fs ρ σ n lk ai = some (v, σ', n')) (hq : Q v σ' n') : opW T (run T) fs ρ σ n lk ai Q := by
 cases ai
 case call f args => exact callE_ok h hq
 case callv g args =>
  simp only [evT, callvE] at h
  simp only [opW]
  split at h
  ·rename_i hg; simp only [hg]; exact callE_ok h hq
  ·rename_i hg; simp only [hg]; exact callE_ok h hq
  ·rename_i hg
   simp only [hg]
   split at h
   ·rename_i hfs; exact ⟨hfs, yldR_ok h hq⟩
   ·cases h
  ·cases h
 case inv x tbl args =>
  simp only [evT, invE] at h
  simp only [opW]
  split at h
  ·rename_i f r hi
   simp only [hi]
   split at h
   ·rename_i hfs; exact ⟨hfs, callE_ok h hq⟩
   ·cases h
  ·cases h
 case next it => simp [evT, ev] at h
 all_goals
  simp only [evT] at h
  simp only [opW, h]
  exact hq
noncomputable def WR (T : Tab) : List AOp → (Nat → V) → Sto → Nat → Nat → (St → Prop) → Prop
 | [], env, σ, n, lk, Q => Q ⟨env, σ, n, lk⟩
 | o :: ops, env, σ, n, lk, Q => bindE (gev (wantsO env o.guard) (evT T true (vl env) σ n lk o.op) (some (.undef, σ, n))) fun v σ' n' => WR T ops (ptO env o.dst v) σ' n' lk Q
def stepW (T : Tab) (e : R3) (d : Option Nat) (ops : List AOp) (env : Nat → V) (lk : Nat) (Q : St → Prop) : Prop :=
 bindE e fun v σ' n' => WR T ops (ptO env d v) σ' n' lk Q
theorem stepW_some (v : V) (σ : Sto) (n : Nat) (d : Option Nat) (ops : List AOp) (env : Nat → V) (lk : Nat) (Q : St → Prop) :
 stepW T (some (v, σ, n)) d ops env lk Q = WR T ops (ptO env d v) σ n lk Q := rfl
theorem stepW_raw {f : Nat} (hm : T.mode f = .raw) {args : List V} {σ : Sto} {n lk : Nat} {d : Option Nat} {ops : List AOp} {env : Nat → V} {Q : St → Prop}
 (h : run T (.raw f args σ n lk) (memQ fun v σ' n' => WR T ops (ptO env d v) σ' n' lk Q)) : stepW T (callE T true f args σ n lk) d ops env lk Q := by
 obtain ⟨v, σ', n', h1, h2⟩ := rawR_of h
 have : callE T true f args σ n lk = some (v, σ', n') := by unfold callE; rw [if_pos hm, if_pos rfl, h1]
 rw [this]; exact h2
theorem stepW_yld {l : Nat} {args : List V} {σ : Sto} {n lk : Nat} {d : Option Nat} {ops : List AOp} {env : Nat → V} {Q : St → Prop}
 (h : yieldW (run T) l args σ n lk (fun v σ' n' => WR T ops (ptO env d v) σ' n' lk Q)) : stepW T (callvE T true (.yld l) args σ n lk) d ops env lk Q := by
 obtain ⟨v, σ', n', h1, h2⟩ := yldR_of h
 have : callvE T true (.yld l) args σ n lk = some (v, σ', n') := h1
 rw [this]; exact h2
theorem WR_nil (env : Nat → V) (σ : Sto) (n lk : Nat) (Q : St → Prop) : WR T [] env σ n lk Q = Q ⟨env, σ, n, lk⟩ := rfl
theorem WR_cons (d : Option Nat) (op : AI) (ops : List AOp) (env : Nat → V) (σ : Sto) (n lk : Nat) (Q : St → Prop) :
 WR T (⟨d, none, op⟩ :: ops) env σ n lk Q = stepW T (evT T true (vl env) σ n lk op) d ops env lk Q := rfl
theorem WR_consG (d : Option Nat) (t : Nat) (w : Bool) (op : AI) (ops : List AOp) (env : Nat → V) (σ : Sto) (n lk : Nat) (Q : St → Prop) :
 WR T (⟨d, some (t, w), op⟩ :: ops) env σ n lk Q = stepW T (gev (wantsV w (env t)) (evT T true (vl env) σ n lk op) (some (.undef, σ, n))) d ops env lk Q := rfl
theorem bindE_out {e : R3} {K : V → Sto → Nat → Prop} (h : bindE e K) : ∃ v σ n, e = some (v, σ, n) ∧ K v σ n := by
 unfold bindE at h
 split at h
 ·exact ⟨_, _, _, rfl, h⟩
 ·exact h.elim
theorem WR_ok : ∀ (ops : List AOp) (env : Nat → V) (σ : Sto) (n lk : Nat) (Q : St → Prop), WR T ops env σ n lk Q → wpR T (run T) ops ⟨env, σ, n, lk⟩ Q
 | [], env, σ, n, lk, Q, h => h
 | o :: ops, env, σ, n, lk, Q, h => by
   obtain ⟨v, σ', n', he, hk⟩ := bindE_out h
   simp only [wpR, st_val, st_put, wants_eq]
   cases hg : wantsO env o.guard <;> simp only [hg] at he
   ·rw [gev_false] at he
    cases he
    simp only [Bool.false_eq_true, if_false]
    exact WR_ok ops _ _ _ _ _ hk
   ·rw [gev_true] at he
    simp only [if_true]
    exact evT_ok he (WR_ok ops _ _ _ _ _ hk)
noncomputable def dE (T : Tab) (d : DOp) (env : Nat → V) (σ : Sto) (n0 lk : Nat) : R3 :=
 match evT T false (vl env) (if d.pure then Sto.empty else if d.wr then σ else hide σ n0 (n0 + BIG * d.rank) d.hid) (n0 + BIG * d.rank)
  (if d.wr && !d.pure then lk else n0 + BIG * d.low.getD d.rank) d.o.op with
 | some (v, σ', n') => if n' ≤ n0 + BIG * d.rank + (if d.lays then BIG else 0) then
  some (v, (if d.pure then σ else if d.wr then σ' else match d.low with
   | some lo => mergeL σ σ' n0 lo (n0 + BIG * d.rank + (if d.lays then BIG else 0)) d.hid
   | none => if d.lays then merge σ σ' (n0 + BIG * d.rank) else σ), n0) else none
 | none => none
def keepS (σ : Sto) (n0 : Nat) (m : Nat) : R3 → R3
 | some (v, σ', n') => if n' ≤ m then some (v, σ, n0) else none
 | none => none
theorem keepS_some (σ σ' : Sto) (n0 m n' : Nat) (v : V) : keepS σ n0 m (some (v, σ', n')) = if n' ≤ m then some (v, σ, n0) else none := rfl
theorem dE_pure (dst : Option Nat) (g : Option (Nat × Bool)) (op : AI) (wr : Bool) (rank : Nat) (hid : List Nat) (env : Nat → V) (σ : Sto) (n0 lk : Nat) :
 dE T ⟨⟨dst, g, op⟩, true, wr, false, rank, hid, none⟩ env σ n0 lk = keepS σ n0 (n0 + BIG * rank) (evT T false (vl env) Sto.empty (n0 + BIG * rank) (n0 + BIG * rank) op) := by
 simp only [dE, keepS, Option.getD_none, if_true, Bool.not_true, Bool.and_false, Bool.false_eq_true, if_false, Nat.add_zero]
theorem dE_read (dst : Option Nat) (g : Option (Nat × Bool)) (op : AI) (rank : Nat) (hid : List Nat) (env : Nat → V) (σ : Sto) (n0 lk : Nat) :
 dE T ⟨⟨dst, g, op⟩, false, false, false, rank, hid, none⟩ env σ n0 lk = keepS σ n0 (n0 + BIG * rank) (evT T false (vl env) (hide σ n0 (n0 + BIG * rank) hid) (n0 + BIG * rank) (n0 + BIG * rank) op) := by
 simp only [dE, keepS, Option.getD_none, if_true, Bool.not_true, Bool.and_false, Bool.false_eq_true, if_false, Nat.add_zero, Bool.false_and]
def layS (σ : Sto) (n0 lab : Nat) : R3 → R3
 | some (v, σ', n') => if n' ≤ lab + BIG then some (v, merge σ σ' lab, n0) else none
 | none => none
theorem layS_some (σ σ' : Sto) (n0 lab n' : Nat) (v : V) : layS σ n0 lab (some (v, σ', n')) = if n' ≤ lab + BIG then some (v, merge σ σ' lab, n0) else none := rfl
theorem dE_lay (dst : Option Nat) (g : Option (Nat × Bool)) (op : AI) (rank : Nat) (hid : List Nat) (env : Nat → V) (σ : Sto) (n0 lk : Nat) :
 dE T ⟨⟨dst, g, op⟩, false, false, true, rank, hid, none⟩ env σ n0 lk = layS σ n0 (n0 + BIG * rank) (evT T false (vl env) (hide σ n0 (n0 + BIG * rank) hid) (n0 + BIG * rank) (n0 + BIG * rank) op) := by
 simp only [dE, layS, Option.getD_none, if_true, Bool.not_true, Bool.and_false, Bool.false_eq_true, if_false, Bool.false_and]
def wrS (n0 m : Nat) : R3 → R3
 | some (v, σ', n') => if n' ≤ m then some (v, σ', n0) else none
 | none => none
theorem wrS_some (σ' : Sto) (n0 m n' : Nat) (v : V) : wrS n0 m (some (v, σ', n')) = if n' ≤ m then some (v, σ', n0) else none := rfl
theorem dE_wrl (dst : Option Nat) (g : Option (Nat × Bool)) (op : AI) (rank : Nat) (hid : List Nat) (low : Option Nat) (env : Nat → V) (σ : Sto) (n0 lk : Nat) :
 dE T ⟨⟨dst, g, op⟩, false, true, true, rank, hid, low⟩ env σ n0 lk = wrS n0 (n0 + BIG * rank + BIG) (evT T false (vl env) σ (n0 + BIG * rank) lk op) := by
 simp only [dE, wrS, if_true, Bool.not_false, Bool.and_self, Bool.false_eq_true, if_false]
theorem dE_wr0 (dst : Option Nat) (g : Option (Nat × Bool)) (op : AI) (rank : Nat) (hid : List Nat) (low : Option Nat) (env : Nat → V) (σ : Sto) (n0 lk : Nat) :
 dE T ⟨⟨dst, g, op⟩, false, true, false, rank, hid, low⟩ env σ n0 lk = wrS n0 (n0 + BIG * rank) (evT T false (vl env) σ (n0 + BIG * rank) lk op) := by
 simp only [dE, wrS, if_true, Bool.not_false, Bool.and_self, Bool.false_eq_true, if_false, Nat.add_zero]
def lowS (σ : Sto) (n0 lo top : Nat) (hid : List Nat) : R3 → R3
 | some (v, σ', n') => if n' ≤ top then some (v, mergeL σ σ' n0 lo top hid, n0) else none
 | none => none
theorem lowS_some (σ σ' : Sto) (n0 lo top n' : Nat) (hid : List Nat) (v : V) : lowS σ n0 lo top hid (some (v, σ', n')) = if n' ≤ top then some (v, mergeL σ σ' n0 lo top hid, n0) else none := rfl
theorem dE_low0 (dst : Option Nat) (g : Option (Nat × Bool)) (op : AI) (rank : Nat) (hid : List Nat) (lo : Nat) (env : Nat → V) (σ : Sto) (n0 lk : Nat) :
 dE T ⟨⟨dst, g, op⟩, false, false, false, rank, hid, some lo⟩ env σ n0 lk = lowS σ n0 lo (n0 + BIG * rank) hid (evT T false (vl env) (hide σ n0 (n0 + BIG * rank) hid) (n0 + BIG * rank) (n0 + BIG * lo) op) := by
 simp only [dE, lowS, Option.getD_some, if_true, Bool.not_true, Bool.and_false, Bool.false_eq_true, if_false, Nat.add_zero, Bool.false_and]
theorem dE_lowl (dst : Option Nat) (g : Option (Nat × Bool)) (op : AI) (rank : Nat) (hid : List Nat) (lo : Nat) (env : Nat → V) (σ : Sto) (n0 lk : Nat) :
 dE T ⟨⟨dst, g, op⟩, false, false, true, rank, hid, some lo⟩ env σ n0 lk = lowS σ n0 lo (n0 + BIG * rank + BIG) hid (evT T false (vl env) (hide σ n0 (n0 + BIG * rank) hid) (n0 + BIG * rank) (n0 + BIG * lo) op) := by
 simp only [dE, lowS, Option.getD_some, if_true, Bool.not_true, Bool.and_false, Bool.false_eq_true, if_false, Nat.add_zero, Bool.false_and]
theorem hideR_low (σ : Sto) (n0 : Nat) : ∀ (hid : List Nat) {i : Nat}, i < n0 → hideR σ n0 hid i = σ i
 | [], _, _ => rfl
 | r :: rs, i, h => by
   have : ¬ (n0 + BIG * r ≤ i ∧ i < n0 + BIG * r + BIG) := by omega
   simp only [hideR, this, if_false]
   exact hideR_low σ n0 rs h
theorem hide_low (σ : Sto) (n0 lab : Nat) (hid : List Nat) {i : Nat} (h : i < n0) (hl : n0 ≤ lab) : hide σ n0 lab hid i = σ i := by
 cases hid with
 | nil => rfl
 | cons r rs =>
   have : i < lab := by omega
   simp only [hide, this, if_true]
   exact hideR_low σ n0 (r :: rs) h
theorem merge_low (σ σ' : Sto) (lab : Nat) {i : Nat} (h : i < lab) : merge σ σ' lab i = σ i := by
 have : ¬ (lab ≤ i ∧ i < lab + BIG) := by omega
 simp only [merge, this, if_false]
theorem merge_in (σ σ' : Sto) (lab : Nat) {i : Nat} (h : lab ≤ i) (h' : i < lab + BIG) : merge σ σ' lab i = σ' i := by
 simp only [merge, h, h', and_self, if_true]
theorem hide_nil (σ : Sto) (n0 lab : Nat) : hide σ n0 lab [] = σ := rfl
abbrev AfterD := (Nat → V) → Sto → Prop
noncomputable def WD (T : Tab) (n0 : Nat) : List DOp → (Nat → V) → Sto → Nat → AfterD → Prop
 | [], env, σ, lk, Q => Q env σ
 | d :: ds, env, σ, lk, Q => bindE (gev (wantsO env d.o.guard) (dE T d env σ n0 lk) (some (.undef, σ, n0))) fun v σ' _ => WD T n0 ds (ptO env d.o.dst v) σ' lk Q
def stepDW (T : Tab) (n0 : Nat) (e : R3) (d : Option Nat) (ds : List DOp) (env : Nat → V) (lk : Nat) (Q : AfterD) : Prop :=
 bindE e fun v σ' _ => WD T n0 ds (ptO env d v) σ' lk Q
theorem stepDW_some (n0 : Nat) (v : V) (σ : Sto) (n : Nat) (d : Option Nat) (ds : List DOp) (env : Nat → V) (lk : Nat) (Q : AfterD) :
 stepDW T n0 (some (v, σ, n)) d ds env lk Q = WD T n0 ds (ptO env d v) σ lk Q := rfl
theorem WD_nil (n0 : Nat) (env : Nat → V) (σ : Sto) (lk : Nat) (Q : AfterD) : WD T n0 [] env σ lk Q = Q env σ := rfl
theorem WD_cons (n0 : Nat) (d : Option Nat) (op : AI) (a b c : Bool) (rank : Nat) (hid : List Nat) (low : Option Nat) (ds : List DOp) (env : Nat → V) (σ : Sto) (lk : Nat) (Q : AfterD) :
 WD T n0 (⟨⟨d, none, op⟩, a, b, c, rank, hid, low⟩ :: ds) env σ lk Q = stepDW T n0 (dE T ⟨⟨d, none, op⟩, a, b, c, rank, hid, low⟩ env σ n0 lk) d ds env lk Q := rfl
theorem WD_consG (n0 : Nat) (d : Option Nat) (t : Nat) (w : Bool) (op : AI) (a b c : Bool) (rank : Nat) (hid : List Nat) (low : Option Nat) (ds : List DOp) (env : Nat → V) (σ : Sto) (lk : Nat) (Q : AfterD) :
 WD T n0 (⟨⟨d, some (t, w), op⟩, a, b, c, rank, hid, low⟩ :: ds) env σ lk Q =
  stepDW T n0 (gev (wantsV w (env t)) (dE T ⟨⟨d, some (t, w), op⟩, a, b, c, rank, hid, low⟩ env σ n0 lk) (some (.undef, σ, n0))) d ds env lk Q := rfl
theorem WD_ok (n0 : Nat) : ∀ (ds : List DOp) (env : Nat → V) (σ : Sto) (n lk : Nat) (Q : (Nat → V) → Sto → Prop), WD T n0 ds env σ lk Q →
 wpD T (run T) n0 ds ⟨env, σ, n, lk⟩ fun s => s.n = n ∧ s.lk = lk ∧ Q s.env s.σ
 | [], env, σ, n, lk, Q, h => ⟨rfl, rfl, h⟩
 | d :: ds, env, σ, n, lk, Q, h => by
   obtain ⟨v, σ', n', he, hk⟩ := bindE_out h
   simp only [wpD, st_val, st_put, wants_eq]
   cases hg : wantsO env d.o.guard <;> simp only [hg] at he
   ·rw [gev_false] at he
    cases he
    simp only [Bool.false_eq_true, if_false]
    exact WD_ok n0 ds _ _ _ _ _ hk
   ·rw [gev_true] at he
    simp only [if_true]
    unfold dE at he
    generalize hev : evT T false (vl env) (if d.pure then Sto.empty else if d.wr then σ else hide σ n0 (n0 + BIG * d.rank) d.hid) (n0 + BIG * d.rank)
     (if d.wr && !d.pure then lk else n0 + BIG * d.low.getD d.rank) d.o.op = r at he
    rcases r with _ | ⟨v1, σ1, n1⟩
    ·cases he
    ·simp only at he
     by_cases hn : n1 ≤ n0 + BIG * d.rank + (if d.lays then BIG else 0)
     ·rw [if_pos hn] at he
      simp only [Option.some.injEq, Prod.mk.injEq] at he
      obtain ⟨rfl, rfl, rfl⟩ := he
      exact evT_ok hev ⟨hn, WD_ok n0 ds _ _ _ _ _ hk⟩
     ·rw [if_neg hn] at he
      cases he
noncomputable def WS (T : Tab) : List Seg → (Nat → V) → Sto → Nat → Nat → (St → Prop) → Prop
 | [], env, σ, n, lk, Q => Q ⟨env, σ, n, lk⟩
 | g :: gs, env, σ, n, lk, Q => WD T n g.ds env σ lk fun env' σ' => WR T g.ops env' σ' (n + BIG * g.lays) lk fun s => WS T gs s.env s.σ s.n s.lk Q
def segQ (T : Tab) (gs : List Seg) (Q : St → Prop) : St → Prop := fun s => WS T gs s.env s.σ s.n s.lk Q
theorem segQ_st (gs : List Seg) (Q : St → Prop) (env : Nat → V) (σ : Sto) (n lk : Nat) : segQ T gs Q ⟨env, σ, n, lk⟩ = WS T gs env σ n lk Q := rfl
def aftD (T : Tab) (ops : List AOp) (n lk : Nat) (Q : St → Prop) : AfterD := fun env σ => WR T ops env σ n lk Q
theorem aftD_st (ops : List AOp) (n lk : Nat) (Q : St → Prop) (env : Nat → V) (σ : Sto) : aftD T ops n lk Q env σ = WR T ops env σ n lk Q := rfl
theorem WS_nil (env : Nat → V) (σ : Sto) (n lk : Nat) (Q : St → Prop) : WS T [] env σ n lk Q = Q ⟨env, σ, n, lk⟩ := rfl
theorem WS_cons0 (ds : List DOp) (ops : List AOp) (gs : List Seg) (env : Nat → V) (σ : Sto) (n lk : Nat) (Q : St → Prop) :
 WS T (⟨ds, 0, ops⟩ :: gs) env σ n lk Q = WD T n ds env σ lk (aftD T ops n lk (segQ T gs Q)) := rfl
theorem WS_cons (ds : List DOp) (l : Nat) (ops : List AOp) (gs : List Seg) (env : Nat → V) (σ : Sto) (n lk : Nat) (Q : St → Prop) :
 WS T (⟨ds, l, ops⟩ :: gs) env σ n lk Q = WD T n ds env σ lk (aftD T ops (n + BIG * l) lk (segQ T gs Q)) := rfl
theorem wpD_weak {n0 : Nat} {ds : List DOp} {s : St} {Q Q' : St → Prop} (h : wpD T (run T) n0 ds s Q) (hq : ∀ s, Q s → Q' s) : wpD T (run T) n0 ds s Q' :=
 wpD_mono (fun _ _ x => x) run_mono n0 ds s Q Q' hq h
theorem WS_ok : ∀ (gs : List Seg) (env : Nat → V) (σ : Sto) (n lk : Nat) (Q : St → Prop), WS T gs env σ n lk Q → wpS T (run T) gs ⟨env, σ, n, lk⟩ Q
 | [], env, σ, n, lk, Q, h => h
 | g :: gs, env, σ, n, lk, Q, h => by
   simp only [wpS]
   refine wpD_weak (WD_ok n g.ds env σ n lk _ h) fun s hs => ?_
   obtain ⟨env', σ', n', lk'⟩ := s
   obtain ⟨rfl, rfl, hk⟩ := hs
   refine WR_ok g.ops _ _ _ _ _ ?_
   have : ∀ (ops : List AOp) (env : Nat → V) (σ : Sto) (n lk : Nat) (Q Q' : St → Prop), (∀ s, Q s → Q' s) → WR T ops env σ n lk Q → WR T ops env σ n lk Q' := by
    intro ops
    induction ops with
    | nil => exact fun env σ n lk Q Q' hq hh => hq _ hh
    | cons o ops ih =>
      intro env σ n lk Q Q' hq hh
      obtain ⟨v, σ', n', he, hk⟩ := bindE_out hh
      simp only [WR, he, bindE]
      exact ih _ _ _ _ _ _ hq hk
   exact this _ _ _ _ _ _ _ (fun s hs => WS_ok gs _ _ _ _ _ hs) hk
def condW (v : V) (A B : Prop) : Prop := match v with
 | .bool true => A
 | .bool false => B
 | _ => False
@[congr] theorem condW_congr {v v' : V} {A B : Prop} (h : v = v') : condW v A B = condW v' A B := by rw [h]
theorem condW_true (A B : Prop) : condW (.bool true) A B = A := rfl
theorem condW_split {b : Bool} {A B : Prop} (h : b = true → A) (h' : b = false → B) : condW (.bool b) A B := by
 cases b
 ·exact h' rfl
 ·exact h rfl
def norQ (Q : Ex → St → Prop) : St → Prop := Q .normal
theorem norQ_st (Q : Ex → St → Prop) (s : St) : norQ Q s = Q .normal s := rfl
noncomputable def WC (T : Tab) : AC → (Nat → V) → Sto → Nat → Nat → (Ex → St → Prop) → Prop
 | .skip, env, σ, n, lk, Q => Q .normal ⟨env, σ, n, lk⟩
 | .reg ops, env, σ, n, lk, Q => WR T ops env σ n lk (Q .normal)
 | .regd gs, env, σ, n, lk, Q => WS T gs env σ n lk (Q .normal)
 | .seq a b, env, σ, n, lk, Q => WC T a env σ n lk fun ex s => match ex with
   | .normal => WC T b s.env s.σ s.n s.lk Q
   | ex => Q ex s
 | .cond x a b, env, σ, n, lk, Q => condW (vl env x) (WC T a env σ n lk Q) (WC T b env σ n lk Q)
 | .block id c, env, σ, n, lk, Q => WC T c env σ n lk (blockW id Q)
 | .loop c, env, σ, n, lk, Q => wpC T (run T) (.loop c) ⟨env, σ, n, lk⟩ Q
 | .rangeF g ps x y, env, σ, n, lk, Q => wpC T (run T) (.rangeF g ps x y) ⟨env, σ, n, lk⟩ Q
 | .exit id, env, σ, n, lk, Q => Q (.exit id) ⟨env, σ, n, lk⟩
 | .ret, env, σ, n, lk, Q => Q .ret ⟨env, σ, n, lk⟩
theorem WC_ok : ∀ (c : AC) (env : Nat → V) (σ : Sto) (n lk : Nat) (Q : Ex → St → Prop), WC T c env σ n lk Q → wpC T (run T) c ⟨env, σ, n, lk⟩ Q
 | .skip, env, σ, n, lk, Q, h => h
 | .reg ops, env, σ, n, lk, Q, h => WR_ok ops env σ n lk _ h
 | .regd gs, env, σ, n, lk, Q, h => WS_ok gs env σ n lk _ h
 | .seq a b, env, σ, n, lk, Q, h => by
   simp only [wpC]
   simp only [WC] at h
   refine wpC_mono (fun _ _ x => x) run_mono a _ _ _ (fun e s hh => ?_) (WC_ok a env σ n lk _ h)
   cases e <;> simp only [thenW] at hh ⊢
   ·exact WC_ok b _ _ _ _ _ hh
   ·exact hh
   ·exact hh
 | .cond x a b, env, σ, n, lk, Q, h => by
   simp only [WC] at h
   simp only [wpC, st_val]
   unfold condW at h
   split at h
   ·rename_i hx; simp only [hx]; exact WC_ok a _ _ _ _ _ h
   ·rename_i hx; simp only [hx]; exact WC_ok b _ _ _ _ _ h
   ·exact h.elim
 | .block id c, env, σ, n, lk, Q, h => WC_ok c env σ n lk _ h
 | .loop c, env, σ, n, lk, Q, h => h
 | .rangeF g ps x y, env, σ, n, lk, Q, h => h
 | .exit id, env, σ, n, lk, Q, h => h
 | .ret, env, σ, n, lk, Q, h => h
def seqQ (T : Tab) (b : AC) (Q : Ex → St → Prop) : Ex → St → Prop
 | .normal, ⟨env, σ, n, lk⟩ => WC T b env σ n lk Q
 | ex, s => Q ex s
theorem seqQ_normal (b : AC) (Q : Ex → St → Prop) (env : Nat → V) (σ : Sto) (n lk : Nat) : seqQ T b Q .normal ⟨env, σ, n, lk⟩ = WC T b env σ n lk Q := rfl
theorem seqQ_exit (b : AC) (Q : Ex → St → Prop) (i : Nat) (s : St) : seqQ T b Q (.exit i) s = Q (.exit i) s := rfl
theorem seqQ_ret (b : AC) (Q : Ex → St → Prop) (s : St) : seqQ T b Q .ret s = Q .ret s := rfl
theorem blockW_normal (i : Nat) (Q : Ex → St → Prop) (s : St) : blockW i Q .normal s = Q .normal s := rfl
theorem blockW_ret (i : Nat) (Q : Ex → St → Prop) (s : St) : blockW i Q .ret s = Q .ret s := rfl
theorem blockW_exit (i j : Nat) (Q : Ex → St → Prop) (s : St) : blockW i Q (.exit j) s = if j = i then Q .normal s else Q (.exit j) s := rfl
theorem WC_skip (env : Nat → V) (σ : Sto) (n lk : Nat) (Q : Ex → St → Prop) : WC T .skip env σ n lk Q = Q .normal ⟨env, σ, n, lk⟩ := rfl
theorem WC_ret (env : Nat → V) (σ : Sto) (n lk : Nat) (Q : Ex → St → Prop) : WC T .ret env σ n lk Q = Q .ret ⟨env, σ, n, lk⟩ := rfl
theorem WC_exit (i : Nat) (env : Nat → V) (σ : Sto) (n lk : Nat) (Q : Ex → St → Prop) : WC T (.exit i) env σ n lk Q = Q (.exit i) ⟨env, σ, n, lk⟩ := rfl
theorem WC_block (i : Nat) (c : AC) (env : Nat → V) (σ : Sto) (n lk : Nat) (Q : Ex → St → Prop) : WC T (.block i c) env σ n lk Q = WC T c env σ n lk (blockW i Q) := rfl
theorem WC_seq (a b : AC) (env : Nat → V) (σ : Sto) (n lk : Nat) (Q : Ex → St → Prop) : WC T (.seq a b) env σ n lk Q = WC T a env σ n lk (seqQ T b Q) := by
 simp only [WC]
 congr 1
 funext e s
 cases e <;> rfl
def condC (T : Tab) (v : V) (a b : AC) (env : Nat → V) (σ : Sto) (n lk : Nat) (Q : Ex → St → Prop) : Prop := condW v (WC T a env σ n lk Q) (WC T b env σ n lk Q)
theorem condC_true (a b : AC) (env : Nat → V) (σ : Sto) (n lk : Nat) (Q : Ex → St → Prop) : condC T (.bool true) a b env σ n lk Q = WC T a env σ n lk Q := rfl
theorem condC_false (a b : AC) (env : Nat → V) (σ : Sto) (n lk : Nat) (Q : Ex → St → Prop) : condC T (.bool false) a b env σ n lk Q = WC T b env σ n lk Q := rfl
theorem condC_split {x : Bool} {a b : AC} {env : Nat → V} {σ : Sto} {n lk : Nat} {Q : Ex → St → Prop} (h : x = true → WC T a env σ n lk Q) (h' : x = false → WC T b env σ n lk Q) :
 condC T (.bool x) a b env σ n lk Q := condW_split h h'
theorem WC_cond (x : Opd) (a b : AC) (env : Nat → V) (σ : Sto) (n lk : Nat) (Q : Ex → St → Prop) :
 WC T (.cond x a b) env σ n lk Q = condC T (vl env x) a b env σ n lk Q := rfl
theorem WC_reg (ops : List AOp) (env : Nat → V) (σ : Sto) (n lk : Nat) (Q : Ex → St → Prop) : WC T (.reg ops) env σ n lk Q = WR T ops env σ n lk (norQ Q) := rfl
theorem WC_regd (gs : List Seg) (env : Nat → V) (σ : Sto) (n lk : Nat) (Q : Ex → St → Prop) : WC T (.regd gs) env σ n lk Q = WS T gs env σ n lk (norQ Q) := rfl
def lpQ (J : (Nat → V) → Sto → Nat → Nat → Prop) (Q : Ex → St → Prop) : Ex → St → Prop
 | .normal, s => J s.env s.σ s.n s.lk
 | e, s => Q e s
theorem lpQ_normal (J : (Nat → V) → Sto → Nat → Nat → Prop) (Q : Ex → St → Prop) (env : Nat → V) (σ : Sto) (n lk : Nat) : lpQ J Q .normal ⟨env, σ, n, lk⟩ = J env σ n lk := rfl
theorem lpQ_exit (J : (Nat → V) → Sto → Nat → Nat → Prop) (Q : Ex → St → Prop) (i : Nat) (s : St) : lpQ J Q (.exit i) s = Q (.exit i) s := rfl
theorem lpQ_ret (J : (Nat → V) → Sto → Nat → Nat → Prop) (Q : Ex → St → Prop) (s : St) : lpQ J Q .ret s = Q .ret s := rfl
theorem WC_loopI {α : Type} {c : AC} {Q : Ex → St → Prop} (lk : Nat) (I : α → (Nat → V) → Sto → Nat → Prop) (m : α → Nat)
 (hI : ∀ a env σ n, I a env σ n → WC T c env σ n lk (lpQ (fun env' σ' n' lk' => lk' = lk ∧ ∃ a', m a' < m a ∧ I a' env' σ' n') Q)) (a : α) (env : Nat → V) (σ : Sto) (n : Nat) (h : I a env σ n) :
 WC T (.loop c) env σ n lk Q := by
 have key : ∀ (k : Nat) (a : α) (env : Nat → V) (σ : Sto) (n : Nat), m a < k → I a env σ n → wpC T (run T) (.loop c) ⟨env, σ, n, lk⟩ Q := by
  intro k
  induction k with
  | zero => intro a _ _ _ h; omega
  | succ k ih =>
    intro a env σ n hk hi
    simp only [wpC]
    refine loopW_step (fun s Q Q' hq hh => wpC_mono (fun _ _ x => x) run_mono c s Q Q' hq hh) ?_
    refine wpC_mono (fun _ _ x => x) run_mono c _ _ _ (fun e s' hh => ?_) (WC_ok c _ _ _ _ _ (hI a env σ n hi))
    cases e <;> simp only [thenW] at hh ⊢
    ·obtain ⟨env', σ', n', lk'⟩ := s'
     obtain ⟨h0, a', h1, h2⟩ := hh
     simp only at h0
     subst h0
     exact ih a' _ _ _ (by omega) h2
    ·exact hh
    ·exact hh
 exact key (m a + 1) a env σ n (by omega) h
def endQ (rs : List Res) (P : Sto → V → Prop) (ex : Ex) (s : St) : Prop := isEnd ex = true ∧ ∃ v, outOf s rs = some v ∧ P s.σ v
theorem run_pure {f : Nat} {args : List V} {r : V} {fn : Fn} (hf : T.fn f = some fn) (hl : args.length = fn.np) (hm : T.mode f = .pure)
 (h : WC T fn.body (envOf args) Sto.empty 0 0 (endQ fn.res fun σ v => frz σ DEEP v = some r)) : run T (.pure f args) (fun o => o = .val r) := by
 refine run_stepD ⟨_, rfl, ?_⟩
 simp only [jobW]
 refine ⟨fn, hf, hl, (by rw [hm]; decide), wpC_mono (fun _ _ x => x) run_mono _ _ _ _ (fun e s hh => ?_) (WC_ok _ _ _ _ _ _ h)⟩
 obtain ⟨h1, v, h2, h3⟩ := hh
 exact ⟨h1, v, h2, r, by rw [hm]; exact h3, rfl⟩
theorem run_own {f : Nat} {args : List V} {r : V} {fn : Fn} (hf : T.fn f = some fn) (hl : args.length = fn.np) (hm : T.mode f = .own)
 (h : WC T fn.body (envOf args) Sto.empty 0 0 (endQ fn.res fun σ v => giv σ DEEP v = some r ∧ (gids σ DEEP v).Nodup)) : run T (.pure f args) (fun o => o = .val r) := by
 refine run_stepD ⟨_, rfl, ?_⟩
 simp only [jobW]
 refine ⟨fn, hf, hl, (by rw [hm]; decide), wpC_mono (fun _ _ x => x) run_mono _ _ _ _ (fun e s hh => ?_) (WC_ok _ _ _ _ _ _ h)⟩
 obtain ⟨h1, v, h2, h3⟩ := hh
 exact ⟨h1, v, h2, r, by rw [hm]; exact h3, rfl⟩
theorem run_raw {f : Nat} {args : List V} {σ : Sto} {n lk : Nat} {fn : Fn} {Q : V → Sto → Nat → Prop} (hf : T.fn f = some fn) (hl : args.length = fn.np)
 (h : WC T fn.body (envOf args) σ n lk (fun ex s => isEnd ex = true ∧ ∃ v, outOf s fn.res = some v ∧ Q v s.σ s.n)) (hd : fn.body.det = true := by rfl) : run T (.raw f args σ n lk) (memQ Q) := by
 refine run_step (fun fn' e => by rw [hf] at e; cases e; exact hd) ?_
 simp only [jobW]
 exact ⟨fn, hf, hl, wpC_mono (fun _ _ x => x) run_mono _ _ _ _ (fun e s hh => hh) (WC_ok _ _ _ _ _ _ h)⟩
def endR (rs : List Res) (Q : V → Sto → Nat → Prop) (ex : Ex) (s : St) : Prop := isEnd ex = true ∧ ∃ v, outOf s rs = some v ∧ Q v s.σ s.n
theorem run_rawE {f : Nat} {args : List V} {σ : Sto} {n lk : Nat} {fn : Fn} {Q : V → Sto → Nat → Prop} (hf : T.fn f = some fn) (hl : args.length = fn.np)
 (h : WC T fn.body (envOf args) σ n lk (endR fn.res Q)) (hd : fn.body.det = true := by rfl) : run T (.raw f args σ n lk) (memQ Q) := run_raw hf hl h hd
end Go.Q
end

section
/- What single operations come to, in a form that a rewriter can follow. -/
namespace Go.Q
variable {T : Tab}
theorem row_at (σ : Sto) (id sz i : Nat) : rowAt σ id sz i = match σ id with
 | some (.row sz' xs) => if sz' = sz then xs[i]? else none
 | _ => none := rfl
def rowO (o : Option Ob) (sz i : Nat) : Option V := match o with
 | some (.row sz' xs) => if sz' = sz then xs[i]? else none
 | _ => none
theorem rowO_row (sz i : Nat) (xs : List V) : rowO (some (.row sz xs)) sz i = xs[i]? := by simp [rowO]
def r1 (v : Option V) (σ : Sto) (n : Nat) : R3 := v.map fun v => (v, σ, n)
theorem r1_some (v : V) (σ : Sto) (n : Nat) : r1 (some v) σ n = some (v, σ, n) := rfl
def pickE (c a b : V) (σ : Sto) (n : Nat) : R3 := match c with
 | .bool t => some (cv t a b, σ, n)
 | _ => none
theorem pickE_bool (t : Bool) (a b : V) (σ : Sto) (n : Nat) : pickE (.bool t) a b σ n = some (cv t a b, σ, n) := rfl
@[congr] theorem pickE_congr {c c' a a' b b' : V} {σ σ' : Sto} {n n' : Nat} (h : c = c') (h1 : σ = σ') (h2 : n = n') : pickE c a b σ n = pickE c' a b σ' n' := by rw [h, h1, h2]
def boxE (v : V) (σ : Sto) (n : Nat) : R3 := if v.cells.all V.one = true then some (.ptr n v.cells.length 0 0, upd σ n (some (.row v.cells.length [v])), n + 1) else none
def loadE (agg : Bool) (s : Nat) (v : V) (σ : Sto) (n : Nat) : R3 := match v with
 | .ptr id sz i j => r1 ((rowO (σ id) sz i).bind fun e => loadC agg s (e.cells.drop j)) σ n
 | .box cs => r1 (loadC agg s cs) σ n
 | _ => none
theorem loadE_ptr (agg : Bool) (s id sz i j : Nat) (σ : Sto) (n : Nat) : loadE agg s (.ptr id sz i j) σ n = r1 ((rowO (σ id) sz i).bind fun e => loadC agg s (e.cells.drop j)) σ n := rfl
theorem loadE_box (agg : Bool) (s : Nat) (cs : List V) (σ : Sto) (n : Nat) : loadE agg s (.box cs) σ n = r1 (loadC agg s cs) σ n := rfl
theorem loadC_one (s : Nat) (c : V) (cs : List V) : loadC false s (c :: cs) = some c := rfl
theorem loadC_agg (s : Nat) (cs : List V) : loadC true s cs = if s ≤ cs.length then some (.agg (cs.take s)) else none := rfl
def putR (o : Option Ob) (s id sz i j lk : Nat) (v : V) (σ : Sto) (n : Nat) : R3 := match o with
 | some (.row sz' xs) =>
   match xs[i]? with
   | some e =>
     if sz' = sz ∧ lk ≤ id ∧ 0 < s ∧ v.cells.length = s ∧ v.cells.all V.one = true ∧ j + s ≤ sz then
      some (.undef, upd σ id (some (.row sz (xs.set i (spliceC e j v.cells)))), n)
     else none
   | none => none
 | _ => none
def putE (s lk : Nat) (x v : V) (σ : Sto) (n : Nat) : R3 := match x with
 | .ptr id sz i j => putR (σ id) s id sz i j lk v σ n
 | _ => none
theorem putE_ptr (s lk id sz i j : Nat) (v : V) (σ : Sto) (n : Nat) : putE s lk (.ptr id sz i j) v σ n = putR (σ id) s id sz i j lk v σ n := rfl
def putX (e : Option V) (s id sz i j lk : Nat) (xs : List V) (v : V) (σ : Sto) (n : Nat) : R3 := match e with
 | some e =>
  if lk ≤ id ∧ 0 < s ∧ v.cells.length = s ∧ v.cells.all V.one = true ∧ j + s ≤ sz then
   some (.undef, upd σ id (some (.row sz (xs.set i (spliceC e j v.cells)))), n)
  else none
 | none => none
theorem putR_row (s id sz i j lk : Nat) (xs : List V) (v : V) (σ : Sto) (n : Nat) : putR (some (.row sz xs)) s id sz i j lk v σ n = putX xs[i]? s id sz i j lk xs v σ n := by
 unfold putR putX
 simp only [true_and]
theorem putX_some (e : V) (s id sz i j lk : Nat) (xs : List V) (v : V) (σ : Sto) (n : Nat) : putX (some e) s id sz i j lk xs v σ n =
 if lk ≤ id ∧ 0 < s ∧ v.cells.length = s ∧ v.cells.all V.one = true ∧ j + s ≤ sz then
  some (.undef, upd σ id (some (.row sz (xs.set i (spliceC e j v.cells)))), n)
 else none := rfl
def nilckE (v : V) (σ : Sto) (n : Nat) : R3 := match v with
 | .ptr id sz i j => some (.ptr id sz i j, σ, n)
 | .box cs => some (.box cs, σ, n)
 | .fn f caps => some (.fn f caps, σ, n)
 | _ => none
theorem nilckE_ptr (id sz i j : Nat) (σ : Sto) (n : Nat) : nilckE (.ptr id sz i j) σ n = some (.ptr id sz i j, σ, n) := rfl
theorem nilckE_box (cs : List V) (σ : Sto) (n : Nat) : nilckE (.box cs) σ n = some (.box cs, σ, n) := rfl
theorem nilckE_fn (f : Nat) (cs : List V) (σ : Sto) (n : Nat) : nilckE (.fn f cs) σ n = some (.fn f cs, σ, n) := rfl
def eqBE (neg : Bool) (x y : V) : Option V := match x, y with
 | .bool a, .bool b => some (.bool ((a == b) != neg))
 | _, _ => none
theorem eqBE_bool (neg a b : Bool) : eqBE neg (.bool a) (.bool b) = some (.bool ((a == b) != neg)) := rfl
def eqAE (neg : Bool) (ks : List CK) (x y : V) : Option V := match x, y with
 | .agg xs, .agg ys => (eqCells ks xs ys).map fun (b : Bool) => .bool (b != neg)
 | _, _ => none
theorem eqAE_agg (neg : Bool) (ks : List CK) (xs ys : List V) : eqAE neg ks (.agg xs) (.agg ys) = (eqCells ks xs ys).map fun (b : Bool) => .bool (b != neg) := rfl
def eqNE (neg : Bool) (x : V) : Option V := match x with
 | .nilS => some (.bool (!neg))
 | .sl .. | .ref .. => some (.bool neg)
 | _ => none
theorem eqNE_nil (neg : Bool) : eqNE neg .nilS = some (.bool (!neg)) := rfl
theorem eqNE_sl (neg : Bool) (sz : Nat) (xs : List V) : eqNE neg (.sl sz xs) = some (.bool neg) := rfl
theorem eqNE_ref (neg : Bool) (id off len sz : Nat) : eqNE neg (.ref id off len sz) = some (.bool neg) := rfl
def eqFE (neg : Bool) (x : V) : Option V := match x with
 | .nilF => some (.bool (!neg))
 | .fn .. => some (.bool neg)
 | _ => none
theorem eqFE_nil (neg : Bool) : eqFE neg .nilF = some (.bool (!neg)) := rfl
theorem eqFE_fn (neg : Bool) (f : Nat) (xs : List V) : eqFE neg (.fn f xs) = some (.bool neg) := rfl
def convE (k : IntKind) (x : V) : Option V := match x with
 | .int _ a => some (.int k (k.wrap a))
 | _ => none
theorem convE_int (k k' : IntKind) (a : Int) : convE k (.int k' a) = some (.int k (k.wrap a)) := rfl
def mkslE (sz bytes : Nat) (e len : V) (σ : Sto) (n : Nat) : R3 := match len with
 | .int .i64 l => if 0 ≤ l ∧ bytes * l ≤ 140737488355328 ∧ e.cells.length = sz then
  some (.ref n 0 l.toNat sz, upd σ n (some (.row sz (List.replicate l.toNat e))), n + 1) else none
 | _ => none
theorem mkslE_int (sz bytes : Nat) (e : V) (l : Int) (σ : Sto) (n : Nat) : mkslE sz bytes e (.int .i64 l) σ n = if 0 ≤ l ∧ bytes * l ≤ 140737488355328 ∧ e.cells.length = sz then
 some (.ref n 0 l.toNat sz, upd σ n (some (.row sz (List.replicate l.toNat e))), n + 1) else none := rfl
def bndE (v : V) (most : Nat) : Option Nat := match v with
 | .int _ n => if 0 ≤ n ∧ n ≤ most then some n.toNat else none
 | _ => none
theorem boundOf_none (ρ : Opd → V) (d most : Nat) : boundOf ρ none d most = some d := rfl
theorem boundOf_some (ρ : Opd → V) (x : Opd) (d most : Nat) : boundOf ρ (some x) d most = bndE (ρ x) most := by
 simp only [boundOf, bndE, intOf]
 cases ρ x <;> rfl
def sliceE (ρ : Opd → V) (sz : Nat) (x : V) (lo hi : Option Opd) : Option V := match x with
 | .nilS => (boundOf ρ hi 0 0).bind fun h => (boundOf ρ lo 0 h).bind fun l => if l = 0 ∧ h = 0 then some .nilS else none
 | .sl sz' xs => (boundOf ρ hi xs.length xs.length).bind fun h => (boundOf ρ lo 0 h).bind fun l =>
  if sz' = sz then some (.sl sz ((xs.take h).drop l)) else none
 | .ref id off len sz' => (boundOf ρ hi len len).bind fun h => (boundOf ρ lo 0 h).bind fun l =>
  if sz' = sz then some (.ref id (off + l) (h - l) sz) else none
 | _ => none
theorem sliceE_sl (ρ : Opd → V) (sz : Nat) (xs : List V) (lo hi : Option Opd) : sliceE ρ sz (.sl sz xs) lo hi =
 (boundOf ρ hi xs.length xs.length).bind fun h => (boundOf ρ lo 0 h).bind fun l => some (.sl sz ((xs.take h).drop l)) := by simp [sliceE]
theorem sliceE_ref (ρ : Opd → V) (id off len sz : Nat) (lo hi : Option Opd) : sliceE ρ sz (.ref id off len sz) lo hi =
 (boundOf ρ hi len len).bind fun h => (boundOf ρ lo 0 h).bind fun l => some (.ref id (off + l) (h - l) sz) := by simp [sliceE]
def sliceSE (ρ : Opd → V) (x : V) (lo hi : Option Opd) : Option V := match x with
 | .str s => (boundOf ρ hi s.size s.size).bind fun h => (boundOf ρ lo 0 h).bind fun l => some (.str (s.extract l h))
 | _ => none
theorem sliceSE_str (ρ : Opd → V) (s : ByteArray) (lo hi : Option Opd) : sliceSE ρ (.str s) lo hi = (boundOf ρ hi s.size s.size).bind fun h => (boundOf ρ lo 0 h).bind fun l => some (.str (s.extract l h)) := rfl
def faddrE (x : V) (off : Nat) : Option V := match x with
 | .ptr id sz i j => some (.ptr id sz i (j + off))
 | .box cs => some (.box (cs.drop off))
 | _ => none
theorem faddrE_ptr (id sz i j off : Nat) : faddrE (.ptr id sz i j) off = some (.ptr id sz i (j + off)) := rfl
theorem faddrE_box (cs : List V) (off : Nat) : faddrE (.box cs) off = some (.box (cs.drop off)) := rfl
def fldE (agg : Bool) (s off : Nat) (x : V) : Option V := match x with
 | .agg cs => loadC agg s (cs.drop off)
 | _ => none
theorem fldE_agg (agg : Bool) (s off : Nat) (cs : List V) : fldE agg s off (.agg cs) = loadC agg s (cs.drop off) := rfl
def iaddrE (sz : Nat) (x i : V) : Option V := match x, i with
 | .sl sz' xs, .int _ k => if 0 ≤ k ∧ sz' = sz then (xs[k.toNat]?).map fun e => .box e.cells else none
 | .ref id off len sz', .int _ k => if 0 ≤ k ∧ k < len ∧ sz' = sz then some (.ptr id sz (off + k.toNat) 0) else none
 | _, _ => none
theorem iaddrE_sl (sz : Nat) (xs : List V) (k : IntKind) (i : Nat) : iaddrE sz (.sl sz xs) (.int k (i : Int)) = (xs[i]?).map fun e => .box e.cells := by simp [iaddrE]
theorem iaddrE_ref (sz id off len : Nat) (k : IntKind) (i : Nat) : iaddrE sz (.ref id off len sz) (.int k (i : Int)) = if i < len then some (.ptr id sz (off + i) 0) else none := by
 simp [iaddrE]
def iaddrAE (m es : Nat) (x i : V) : Option V := match x, i with
 | .ptr id sz e j, .int _ k => if 0 ≤ k ∧ k < m then some (.ptr id sz e (j + k.toNat * es)) else none
 | .box cs, .int _ k => if 0 ≤ k ∧ k < m then some (.box (cs.drop (k.toNat * es))) else none
 | _, _ => none
def idxAE (agg : Bool) (m es : Nat) (x i : V) : Option V := match x, i with
 | .agg cs, .int _ k => if 0 ≤ k ∧ k < m then loadC agg es (cs.drop (k.toNat * es)) else none
 | _, _ => none
theorem idxAE_nat (agg : Bool) (m es : Nat) (cs : List V) (k : IntKind) (i : Nat) : idxAE agg m es (.agg cs) (.int k (i : Int)) = if i < m then loadC agg es (cs.drop (i * es)) else none := by
 simp [idxAE]
def idxSE (x i : V) : Option V := match x, i with
 | .str s, .int _ k => if 0 ≤ k then (s[k.toNat]?).map fun b => .int .u8 b.toNat else none
 | _, _ => none
def extE (x : V) (i : Nat) : Option V := match x with
 | .tup vs => vs[i]?
 | _ => none
theorem extE_tup (vs : List V) (i : Nat) : extE (.tup vs) i = vs[i]? := rfl
def lenE (x : V) : Option V := (lenOf x).map fun (l : Nat) => .int .i64 (l : Int)
theorem lenE_nil : lenE .nilS = some (.int .i64 ((0 : Nat) : Int)) := rfl
theorem lenE_sl (sz : Nat) (xs : List V) : lenE (.sl sz xs) = some (.int .i64 (xs.length : Int)) := rfl
theorem lenE_ref (id off len sz : Nat) : lenE (.ref id off len sz) = some (.int .i64 (len : Int)) := rfl
def lenSE (x : V) : Option V := match x with
 | .str s => some (.int .i64 s.size)
 | _ => none
theorem lenSE_str (s : ByteArray) : lenSE (.str s) = some (.int .i64 s.size) := rfl
theorem minV_int (k : IntKind) (x y : Int) : minV (.int k x) (.int k y) = some (.int k (if y < x then y else x)) := rfl
theorem maxV_int (k : IntKind) (x y : Int) : maxV (.int k x) (.int k y) = some (.int k (if x < y then y else x)) := rfl
def mmE (f : V → V → Option V) : List V → Option V
 | x :: ys => ys.foldlM f x
 | [] => none
theorem mmE_one (f : V → V → Option V) (x : V) : mmE f [x] = some x := rfl
theorem mmE_two (f : V → V → Option V) (x y : V) : mmE f [x, y] = f x y := by simp [mmE, List.foldlM]
theorem mmE_three (f : V → V → Option V) (x y z : V) : mmE f [x, y, z] = (f x y).bind fun a => f a z := by
 simp only [mmE, List.foldlM]
 cases f x y <;> simp
def tasE (ok : Bool) (t : Nat) (z : V) : V → Option V
 | .iface t' v => if t' = t then some (if ok then .tup [v, .bool true] else v) else if ok then some (.tup [z, .bool false]) else none
 | .nilI => if ok then some (.tup [z, .bool false]) else none
 | _ => none
theorem tasE_iface (t t' : Nat) (z v : V) : tasE true t z (.iface t' v) = if t' = t then some (.tup [v, .bool true]) else some (.tup [z, .bool false]) := by
 simp [tasE]
def appE (o : Option Ob) (sz bytes id len lk : Nat) (ys : List V) (σ : Sto) (n : Nat) : R3 := match o with
 | some (.row sz'' xs) =>
  if sz'' = sz ∧ len ≤ xs.length ∧ lk ≤ id ∧ (len + ys.length) * bytes ≤ LIM then
   some (.ref n 0 (len + ys.length) sz, upd (upd σ id none) n (some (.row sz (xs.take len ++ ys))), n + 1)
   else none
 | _ => none
def appendE (sz bytes lk : Nat) (x : V) (ys : Option (List V)) (σ : Sto) (n : Nat) : R3 := match ys with
 | none => none
 | some ys => match x with
   | .nilS => if ys.isEmpty = true then some (.nilS, σ, n) else
    if ys.length * bytes ≤ LIM then some (.ref n 0 ys.length sz, upd σ n (some (.row sz ys)), n + 1) else none
   | .ref id off len sz' => if sz' = sz ∧ off = 0 then appE (σ id) sz bytes id len lk ys σ n else none
   | _ => none
theorem appendE_nil (sz bytes lk : Nat) (ys : List V) (σ : Sto) (n : Nat) : appendE sz bytes lk .nilS (some ys) σ n = if ys.isEmpty = true then some (.nilS, σ, n) else
 if ys.length * bytes ≤ LIM then some (.ref n 0 ys.length sz, upd σ n (some (.row sz ys)), n + 1) else none := rfl
theorem appendE_ref (sz bytes lk id len : Nat) (ys : List V) (σ : Sto) (n : Nat) : appendE sz bytes lk (.ref id 0 len sz) (some ys) σ n = appE (σ id) sz bytes id len lk ys σ n := by
 simp [appendE]
theorem elems_nil (σ : Sto) (sz : Nat) : elems σ sz .nilS = some [] := rfl
theorem elems_sl (σ : Sto) (sz : Nat) (xs : List V) : elems σ sz (.sl sz xs) = some xs := by simp [elems]
def elemsO (o : Option Ob) (sz off len : Nat) : Option (List V) := match o with
 | some (.row sz'' xs) => if sz'' = sz ∧ off + len ≤ xs.length then some ((xs.drop off).take len) else none
 | _ => none
theorem w_elems_ref (σ : Sto) (id off len sz : Nat) : elems σ sz (.ref id off len sz) = elemsO (σ id) sz off len := by
 simp only [elems, elemsO, true_and]
 rfl
theorem elemsO_row (sz off len : Nat) (xs : List V) : elemsO (some (.row sz xs)) sz off len = if off + len ≤ xs.length then some ((xs.drop off).take len) else none := by simp [elemsO]
theorem elemsO_all (sz : Nat) (xs : List V) : elemsO (some (.row sz xs)) sz 0 xs.length = some xs := by simp [elemsO]
section
variable (fs : Bool) (ρ : Opd → V) (σ : Sto) (n lk : Nat)
theorem evw_mov (x : Opd) : evT T fs ρ σ n lk (.mov x) = some (ρ x, σ, n) := rfl
theorem evw_pick (c a b : Opd) : evT T fs ρ σ n lk (.pick c a b) = pickE (ρ c) (ρ a) (ρ b) σ n := by
 simp only [evT, ev, pickE]
 cases ρ c <;> rfl
theorem evw_alloc (e : V) : evT T fs ρ σ n lk (.alloc e) = some (.ptr n e.cells.length 0 0, upd σ n (some (.row e.cells.length [e])), n + 1) := rfl
theorem evw_box (x : Opd) : evT T fs ρ σ n lk (.box x) = boxE (ρ x) σ n := rfl
theorem evw_build (z : List V) (ps : List (Nat × Nat × Opd)) : evT T fs ρ σ n lk (.build z ps) = r1 ((partsOf ρ z ps).map .agg) σ n := by
 simp only [evT, ev, r1]
 cases partsOf ρ z ps <;> rfl
theorem evw_lit (sz : Nat) (es : List Opd) : evT T fs ρ σ n lk (.lit sz es) = if es.all (fun x => decide ((ρ x).cells.length = sz) && (ρ x).cells.all V.one) = true then
 some (.ref n 0 es.length sz, upd σ n (some (.row sz (es.map ρ))), n + 1) else none := rfl
theorem evw_load (agg : Bool) (s : Nat) (x : Opd) : evT T fs ρ σ n lk (.load agg s x) = loadE agg s (ρ x) σ n := by
 simp only [evT, ev, loadE, r1]
 cases ρ x <;> try rfl
 simp only [Option.map_bind]
 rfl
theorem evw_store (s : Nat) (x v : Opd) : evT T fs ρ σ n lk (.store s x v) = putE s lk (ρ x) (ρ v) σ n := by
 simp only [evT, ev, putE]
 cases ρ x <;> rfl
theorem evw_nilck (x : Opd) : evT T fs ρ σ n lk (.nilck x) = nilckE (ρ x) σ n := by
 simp only [evT, ev, nilckE]
 cases ρ x <;> rfl
theorem evw_bin (op : BinOp) (x y : Opd) : evT T fs ρ σ n lk (.bin op x y) = r1 (binV op (ρ x) (ρ y)) σ n := rfl
theorem evw_eqB (neg : Bool) (x y : Opd) : evT T fs ρ σ n lk (.eqB neg x y) = r1 (eqBE neg (ρ x) (ρ y)) σ n := by
 simp only [evT, ev, eqBE]
 cases ρ x <;> cases ρ y <;> rfl
theorem evw_eqA (neg : Bool) (ks : List CK) (x y : Opd) : evT T fs ρ σ n lk (.eqA neg ks x y) = r1 (eqAE neg ks (ρ x) (ρ y)) σ n := by
 simp only [evT, ev, eqAE]
 cases ρ x <;> cases ρ y <;> try rfl
 simp only [r1, Option.map_map]
 rfl
theorem evw_eqN (neg : Bool) (x : Opd) : evT T fs ρ σ n lk (.eqN neg x) = r1 (eqNE neg (ρ x)) σ n := by
 simp only [evT, ev, eqNE]
 cases ρ x <;> rfl
theorem evw_eqF (neg : Bool) (x : Opd) : evT T fs ρ σ n lk (.eqF neg x) = r1 (eqFE neg (ρ x)) σ n := by
 simp only [evT, ev, eqFE]
 cases ρ x <;> rfl
theorem evw_un (op : UnOp) (x : Opd) : evT T fs ρ σ n lk (.un op x) = r1 (unV op (ρ x)) σ n := rfl
theorem evw_conv (k : IntKind) (x : Opd) : evT T fs ρ σ n lk (.conv k x) = r1 (convE k (ρ x)) σ n := by
 simp only [evT, ev, convE]
 cases ρ x <;> rfl
theorem evw_mkbnd (f : Nat) (bs : List Opd) : evT T fs ρ σ n lk (.mkbnd f bs) = some (.bnd f (bs.map ρ), σ, n) := rfl
theorem evw_mkfn (f : Nat) (caps : List Opd) : evT T fs ρ σ n lk (.mkfn f caps) = some (.fn f (caps.map ρ), σ, n) := rfl
theorem evw_mksl (sz bytes : Nat) (e : V) (len : Opd) : evT T fs ρ σ n lk (.mksl sz bytes e len) = mkslE sz bytes e (ρ len) σ n := by
 simp only [evT, ev, mkslE]
 cases ρ len <;> try rfl
theorem evw_slice (sz : Nat) (x : Opd) (lo hi : Option Opd) : evT T fs ρ σ n lk (.slice sz x lo hi) = r1 (sliceE ρ sz (ρ x) lo hi) σ n := by
 simp only [evT, ev, sliceE, r1]
 cases ρ x <;> simp only [Option.map_bind, Option.map_none] <;> congr <;> funext h <;> simp only [Function.comp, Option.map_bind] <;> congr <;> funext l <;> simp only [Function.comp] <;> split <;> rfl
theorem evw_sliceS (x : Opd) (lo hi : Option Opd) : evT T fs ρ σ n lk (.sliceS x lo hi) = r1 (sliceSE ρ (ρ x) lo hi) σ n := by
 simp only [evT, ev, sliceSE, r1]
 cases ρ x <;> simp only [Option.map_bind, Option.map_none] <;> congr <;> funext h <;> simp only [Function.comp, Option.map_bind] <;> congr
theorem evw_faddr (x : Opd) (off : Nat) : evT T fs ρ σ n lk (.faddr x off) = r1 (faddrE (ρ x) off) σ n := by
 simp only [evT, ev, faddrE]
 cases ρ x <;> rfl
theorem evw_fld (agg : Bool) (s off : Nat) (x : Opd) : evT T fs ρ σ n lk (.fld agg s off x) = r1 (fldE agg s off (ρ x)) σ n := by
 simp only [evT, ev, fldE]
 cases ρ x <;> rfl
theorem evw_iaddr (sz : Nat) (x i : Opd) : evT T fs ρ σ n lk (.iaddr sz x i) = r1 (iaddrE sz (ρ x) (ρ i)) σ n := by
 simp only [evT, ev, iaddrE]
 cases ρ x <;> cases ρ i <;> simp only [r1, Option.map_none]
 ·split
  ·simp only [Option.map_map]; rfl
  ·rfl
 ·split <;> rfl
theorem evw_iaddrA (m es : Nat) (x i : Opd) : evT T fs ρ σ n lk (.iaddrA m es x i) = r1 (iaddrAE m es (ρ x) (ρ i)) σ n := by
 simp only [evT, ev, iaddrAE]
 cases ρ x <;> cases ρ i <;> simp only [r1, Option.map_none] <;> split <;> rfl
theorem evw_idxA (agg : Bool) (m es : Nat) (x i : Opd) : evT T fs ρ σ n lk (.idxA agg m es x i) = r1 (idxAE agg m es (ρ x) (ρ i)) σ n := by
 simp only [evT, ev, idxAE]
 cases ρ x <;> cases ρ i <;> simp only [r1, Option.map_none]
 split <;> rfl
theorem evw_idxS (x i : Opd) : evT T fs ρ σ n lk (.idxS x i) = r1 (idxSE (ρ x) (ρ i)) σ n := by
 simp only [evT, ev, idxSE]
 cases ρ x <;> cases ρ i <;> simp only [r1, Option.map_none]
 split
 ·simp only [Option.map_map]; rfl
 ·rfl
theorem evw_ext (x : Opd) (i : Nat) : evT T fs ρ σ n lk (.ext x i) = r1 (extE (ρ x) i) σ n := by
 simp only [evT, ev, extE]
 cases ρ x <;> rfl
theorem evw_len (x : Opd) : evT T fs ρ σ n lk (.len x) = r1 (lenE (ρ x)) σ n := by
 simp only [evT, ev, lenE, r1]
 cases lenOf (ρ x) <;> rfl
theorem evw_lenS (x : Opd) : evT T fs ρ σ n lk (.lenS x) = r1 (lenSE (ρ x)) σ n := by
 simp only [evT, ev, lenSE]
 cases ρ x <;> rfl
theorem evw_min (xs : List Opd) : evT T fs ρ σ n lk (.min xs) = r1 (mmE minV (xs.map ρ)) σ n := by
 simp only [evT, ev, mmE]
 cases xs.map ρ <;> rfl
theorem evw_max (xs : List Opd) : evT T fs ρ σ n lk (.max xs) = r1 (mmE maxV (xs.map ρ)) σ n := by
 simp only [evT, ev, mmE]
 cases xs.map ρ <;> rfl
theorem evw_append (sz bytes : Nat) (x y : Opd) : evT T fs ρ σ n lk (.append sz bytes x y) = appendE sz bytes lk (ρ x) (elems σ sz (ρ y)) σ n := by
 simp only [evT, ev, appendE]
 cases elems σ sz (ρ y) <;> simp only []
 cases ρ x <;> simp only []
 rename_i id off len sz'
 simp only [appE]
 rcases hσ : σ id with _ | ob
 ·simp
 ·cases ob
  ·rename_i sz'' xs
   by_cases h1 : sz' = sz <;> by_cases h2 : off = 0 <;> simp [h1, h2]
  all_goals simp
theorem evw_tas (ok : Bool) (t : Nat) (z : V) (x : Opd) : evT T fs ρ σ n lk (.tas ok t z x) = r1 (tasE ok t z (ρ x)) σ n := by
 simp only [evT, ev, tasE]
 cases ρ x <;> try rfl
 ·simp only [r1]
  split
  ·rfl
  ·split <;> rfl
 ·simp only [r1]
  split <;> rfl
def mapOO : Option Ob → Option (List (V × V × Nat))
 | some (.map es _) => some es
 | _ => none
theorem mapOO_map (es : List (V × V × Nat)) (clk : Nat) : mapOO (some (.map es clk)) = some es := rfl
theorem mapOf_mp (σ : Sto) (id : Nat) : mapOf σ (.mp id) = mapOO (σ id) := by
 simp only [mapOf, mapOO]
 cases σ id with
 | none => rfl
 | some o => cases o <;> rfl
def mupdE (lk : Nat) (kk : KK) (m k v : V) (σ : Sto) (n : Nat) : R3 := match m with
 | .mp id => match σ id with
   | some (.map es clk) => if lk ≤ id ∧ eqKey kk k k = some true then
    (findE kk k es 0).map fun r => match r with
     | some i => (.undef, upd σ id (some (.map (es.modify i fun e => (k, v, e.2.2)) clk)), n)
     | none => (.undef, upd σ id (some (.map (es ++ [(k, v, clk)]) (clk + 1))), n)
    else none
   | _ => none
 | _ => none
def mgetE (ok : Bool) (kk : KK) (z : V) (eo : Option (List (V × V × Nat))) (k : V) : Option V := eo.bind fun es => if eqKey kk k k = some true then
 (findE kk k es 0).bind fun r => match r with
  | some i => (es[i]?).map fun e => if ok then .tup [e.2.1, .bool true] else e.2.1
  | none => some (if ok then .tup [z, .bool false] else z)
 else none
def mentE (lk : Nat) (kk : KK) (z : V) (m k : V) (σ : Sto) (n : Nat) : R3 := match m with
 | .mp id => match σ id with
   | some (.map es clk) => if lk ≤ id ∧ eqKey kk k k = some true then
    (findE kk k es 0).bind fun r => match r with
     | some i => (es[i]?).map fun e => (.tup [e.2.1, .int .i64 e.2.2], upd σ id (some (.map (es.modify i fun e => (k, e.2)) clk)), n)
     | none => some (.tup [z, .int .i64 clk], upd σ id (some (.map (es ++ [(k, z, clk)]) (clk + 1))), n)
    else none
   | _ => none
 | _ => none
def mestE (lk : Nat) (m s v : V) (σ : Sto) (n : Nat) : R3 := match m, s with
 | .mp id, .int _ b => match σ id with
   | some (.map es clk) => if lk ≤ id then
    (es.findIdx? fun e => (e.2.2 : Int) == b).map fun i => (.undef, upd σ id (some (.map (es.modify i fun e => (e.1, v, e.2.2)) clk)), n)
    else none
   | _ => none
 | _, _ => none
def mdelE (lk : Nat) (kk : KK) (m k : V) (σ : Sto) (n : Nat) : R3 := match m with
 | .mp id => match σ id with
   | some (.map es clk) => if lk ≤ id ∧ eqKey kk k k = some true then
    (findE kk k es 0).map fun r => match r with
     | some i => (.undef, upd σ id (some (.map (es.eraseIdx i) clk)), n)
     | none => (.undef, upd σ id (some (.map es clk)), n)
    else none
   | _ => none
 | _ => none
def rangeE (m : V) (σ : Sto) (n : Nat) : R3 := match m with
 | .mp id => match σ id with
   | some (.map _ clk) => some (.it n, upd σ n (some (.iter id clk [] clk)), n + 1)
   | _ => none
 | _ => none
def mlenE (eo : Option (List (V × V × Nat))) : Option V := eo.map fun es => .int .i64 es.length
theorem mlenE_some (es : List (V × V × Nat)) : mlenE (some es) = some (.int .i64 es.length) := rfl
theorem evw_mkmap : evT T fs ρ σ n lk .mkmap = some (.mp n, upd σ n (some (.map [] 0)), n + 1) := rfl
theorem evw_mupd (kk : KK) (m k v : Opd) : evT T fs ρ σ n lk (.mupd kk m k v) = mupdE lk kk (ρ m) (ρ k) (ρ v) σ n := rfl
theorem evw_mget (ok : Bool) (kk : KK) (z : V) (m k : Opd) : evT T fs ρ σ n lk (.mget ok kk z m k) = r1 (mgetE ok kk z (mapOf σ (ρ m)) (ρ k)) σ n := by
 simp only [evT, ev, mgetE, r1]
 cases mapOf σ (ρ m) with
 | none => rfl
 | some es =>
   simp only [Option.bind_some]
   split
   ·cases findE kk (ρ k) es 0 with
    | none => rfl
    | some r =>
      cases r with
      | none => rfl
      | some i => simp only [Option.bind_some, Option.map_map]; rfl
   ·rfl
theorem evw_ment (kk : KK) (z : V) (m k : Opd) : evT T fs ρ σ n lk (.ment kk z m k) = mentE lk kk z (ρ m) (ρ k) σ n := rfl
theorem evw_mest (m s v : Opd) : evT T fs ρ σ n lk (.mest m s v) = mestE lk (ρ m) (ρ s) (ρ v) σ n := rfl
theorem evw_mlen (m : Opd) : evT T fs ρ σ n lk (.mlen m) = r1 (mlenE (mapOf σ (ρ m))) σ n := by
 simp only [evT, ev, mlenE, r1, Option.map_map]; rfl
theorem evw_mdel (kk : KK) (m k : Opd) : evT T fs ρ σ n lk (.mdel kk m k) = mdelE lk kk (ρ m) (ρ k) σ n := rfl
theorem evw_range (m : Opd) : evT T fs ρ σ n lk (.range m) = rangeE (ρ m) σ n := rfl
def entryE (it : V) (σ : Sto) : Option V := match it with
 | .it id => match σ id with
   | some (.iter m _ seen last) => match σ m, seen.getLast? with
     | some (.map es clk), some s => if clk = last then (es.find? fun e => e.2.2 == s).map fun e => .tup [e.1, e.2.1] else none
     | _, _ => none
   | _ => none
 | _ => none
theorem evw_entry (it : Opd) : evT T fs ρ σ n lk (.entry it) = r1 (entryE (ρ it) σ) σ n := by
 simp only [evT, ev, entryE, r1]
 cases ρ it <;> try rfl
 rename_i id
 simp only []
 cases hσ : σ id with
 | none => rfl
 | some o =>
   cases o <;> try rfl
   rename_i m since seen last
   simp only []
   cases hm : σ m with
   | none => rfl
   | some o =>
     cases o <;> try rfl
     rename_i es clk
     cases hl : seen.getLast? with
     | none => rfl
     | some s =>
       simp only []
       split
       ·simp only [Option.map_map]; rfl
       ·rfl
theorem evw_prim (f : Nat) (args : List Opd) : evT T fs ρ σ n lk (.prim f args) = primE T f (args.map ρ) σ n lk := rfl
theorem evw_inv (x : Opd) (tbl : List (Nat × Nat × Option (Bool × Nat × Nat))) (args : List Opd) : evT T fs ρ σ n lk (.inv x tbl args) = invE T fs (invOf σ tbl (ρ x)) (args.map ρ) σ n lk := rfl
theorem evw_mkif (t : Nat) (x : Opd) : evT T fs ρ σ n lk (.mkif t x) = some (.iface t (ρ x), σ, n) := rfl
theorem evw_call (f : Nat) (args : List Opd) : evT T fs ρ σ n lk (.call f args) = callE T fs f (args.map ρ) σ n lk := rfl
theorem evw_callv (g : Opd) (args : List Opd) : evT T fs ρ σ n lk (.callv g args) = callvE T fs (ρ g) (args.map ρ) σ n lk := rfl
end
theorem invE_some (f : Nat) (r : V) (args : List V) (σ : Sto) (n lk : Nat) : invE T true (some (f, r)) args σ n lk = callE T true f (r :: args) σ n lk := rfl
theorem invOf_cons (σ : Sto) (t t' f : Nat) (rc : Option (Bool × Nat × Nat)) (tbl : List (Nat × Nat × Option (Bool × Nat × Nat))) (v : V) :
 invOf σ ((t', f, rc) :: tbl) (.iface t v) = if t' = t then (recvOf σ v rc).map fun u => (f, u) else invOf σ tbl (.iface t v) := by
 by_cases h : t' = t
 ·subst h; simp [invOf]
 ·simp [invOf, h]
theorem recvOf_self (σ : Sto) (v : V) : recvOf σ v none = some v := rfl
theorem recvOf_ptr (σ : Sto) (agg : Bool) (s off id sz i j : Nat) : recvOf σ (.ptr id sz i j) (some (agg, s, off)) = (rowO (σ id) sz i).bind fun e => loadC agg s (e.cells.drop (j + off)) := rfl
theorem callvE_bnd (fs : Bool) (f : Nat) (bs args : List V) (σ : Sto) (n lk : Nat) : callvE T fs (.bnd f bs) args σ n lk = callE T fs f (bs ++ args) σ n lk := rfl
theorem callvE_fn (fs : Bool) (f : Nat) (caps args : List V) (σ : Sto) (n lk : Nat) : callvE T fs (.fn f caps) args σ n lk = callE T fs f (args ++ caps) σ n lk := rfl
theorem callE_eq {f : Nat} (h : T.mode f ≠ .raw) (fs : Bool) (args : List V) (σ : Sto) (n lk : Nat) :
 callE T fs f args σ n lk = callR T fs f (args.mapM (frz σ 12)) (args.flatMap (rch σ 12)) σ n lk := by
 unfold callE; rw [if_neg h]; rfl
noncomputable def retE (fs : Bool) (r : Option V) (D : List Nat) (σ : Sto) (n lk : Nat) : R3 := match r with
 | none => none
 | some r => backE fs D r σ n lk
theorem callR_some (fs : Bool) (f : Nat) (ts : List V) (D : List Nat) (σ : Sto) (n lk : Nat) : callR T fs f (some ts) D σ n lk = retE fs (res T f ts) D σ n lk := by
 unfold callR retE
 rfl
theorem retE_some (fs : Bool) (r : V) (D : List Nat) (σ : Sto) (n lk : Nat) : retE fs (some r) D σ n lk = backE fs D r σ n lk := rfl
theorem w_dropL_nil (σ : Sto) : dropL σ [] = σ := by funext id; simp [dropL]
theorem backE_nil (fs : Bool) (r : V) (σ : Sto) (n lk : Nat) : backE fs [] r σ n lk = some (thaw σ n r) := by
 unfold backE
 split
 ·rfl
 ·simp [w_dropL_nil]
theorem backE_flat {r : V} (h : flat r = true) (fs : Bool) (D : List Nat) (σ : Sto) (n lk : Nat) : backE fs D r σ n lk = some (thaw σ n r) := by simp [backE, h]
def Tr : Nat → V → Bool
 | 0, _ => false
 | k + 1, .agg cs => cs.all (Tr k)
 | k + 1, .tup cs => cs.all (Tr k)
 | k + 1, .fn _ cs => cs.all (Tr k)
 | k + 1, .bnd _ cs => cs.all (Tr k)
 | k + 1, .iface _ v => Tr k v
 | _ + 1, .ref .. => false
 | _ + 1, .ptr .. => false
 | _ + 1, .own .. => false
 | _ + 1, .yld .. => false
 | _ + 1, .mp .. => false
 | _ + 1, .it .. => false
 | _ + 1, _ => true
theorem mapM_id {f : V → Option V} : ∀ {cs : List V}, (∀ c ∈ cs, f c = some c) → cs.mapM f = some cs
 | [], _ => rfl
 | c :: cs, h => by
   rw [List.mapM_cons, h c (by simp), mapM_id (fun d hd => h d (List.mem_cons_of_mem _ hd))]
   rfl
theorem frz_tr (σ : Sto) : ∀ (k : Nat) (v : V), Tr k v = true → frz σ k v = some v ∧ rch σ k v = []
 | 0, _, h => by simp [Tr] at h
 | k + 1, v, h => by
   cases v
   case agg cs =>
    simp only [Tr, List.all_eq_true] at h
    have h1 := fun c hc => frz_tr σ k c (h c hc)
    simp only [frz, rch]
    rw [mapM_id (fun c hc => (h1 c hc).1)]
    exact ⟨rfl, List.flatMap_eq_nil_iff.2 fun c hc => (h1 c hc).2⟩
   case tup cs =>
    simp only [Tr, List.all_eq_true] at h
    have h1 := fun c hc => frz_tr σ k c (h c hc)
    simp only [frz, rch]
    rw [mapM_id (fun c hc => (h1 c hc).1)]
    exact ⟨rfl, List.flatMap_eq_nil_iff.2 fun c hc => (h1 c hc).2⟩
   case fn f cs =>
    simp only [Tr, List.all_eq_true] at h
    have h1 := fun c hc => frz_tr σ k c (h c hc)
    simp only [frz, rch]
    rw [mapM_id (fun c hc => (h1 c hc).1)]
    exact ⟨rfl, List.flatMap_eq_nil_iff.2 fun c hc => (h1 c hc).2⟩
   case bnd f cs =>
    simp only [Tr, List.all_eq_true] at h
    have h1 := fun c hc => frz_tr σ k c (h c hc)
    simp only [frz, rch]
    rw [mapM_id (fun c hc => (h1 c hc).1)]
    exact ⟨rfl, List.flatMap_eq_nil_iff.2 fun c hc => (h1 c hc).2⟩
   case iface t v =>
    simp only [Tr] at h
    have h1 := frz_tr σ k v h
    simp only [frz, rch, h1.1, h1.2]
    exact ⟨rfl, trivial⟩
   all_goals first | (simp [Tr] at h; done) | exact ⟨rfl, rfl⟩
theorem elemM_tr {σ : Sto} {k : Nat} {v : V} (h : Tr k v = true) : elemM (frz σ k) v = some v := by
 cases k with
 | zero => simp [Tr] at h
 | succ k =>
   unfold elemM
   split
   ·rename_i cs
    simp only [Tr, List.all_eq_true] at h
    have h1 : ∀ c ∈ cs, frz σ (k + 1) c = some c := fun c hc => by
     have := h c hc
     have h2 : Tr (k + 1) c = true := by
      clear h hc
      revert c
      suffices ∀ (j : Nat) (c : V), Tr j c = true → Tr (j + 1) c = true from fun c h => this k c h
      intro j
      induction j with
      | zero => intro c h; simp [Tr] at h
      | succ j ih =>
        intro c h
        cases c <;> simp only [Tr, List.all_eq_true] at h ⊢ <;> first | exact h | exact fun c hc => ih c (h c hc) | exact ih _ h
     exact (frz_tr σ _ _ h2).1
    rw [mapM_id h1]; rfl
   ·exact (frz_tr σ _ _ h).1
def Gv : Nat → V → Bool
 | 0, _ => false
 | k + 1, .agg cs => cs.all (Gv k)
 | k + 1, .tup cs => cs.all (Gv k)
 | k + 1, .iface _ v => Gv k v
 | _ + 1, .int .. => true
 | _ + 1, .bool .. => true
 | _ + 1, .str .. => true
 | _ + 1, .nilS => true
 | _ + 1, .nilP => true
 | _ + 1, .nilF => true
 | _ + 1, .nilI => true
 | _ + 1, .undef => true
 | _ + 1, .sl .. => true
 | _ + 1, .box _ => true
 | _ + 1, _ => false
theorem giv_tr (σ : Sto) : ∀ (k : Nat) (v : V), Gv k v = true → giv σ k v = some v ∧ gids σ k v = []
 | 0, _, h => by simp [Gv] at h
 | k + 1, v, h => by
   cases v
   case agg cs =>
    simp only [Gv, List.all_eq_true] at h
    have h1 := fun c hc => giv_tr σ k c (h c hc)
    simp only [giv, gids]
    rw [mapM_id (fun c hc => (h1 c hc).1)]
    exact ⟨rfl, List.flatMap_eq_nil_iff.2 fun c hc => (h1 c hc).2⟩
   case tup cs =>
    simp only [Gv, List.all_eq_true] at h
    have h1 := fun c hc => giv_tr σ k c (h c hc)
    simp only [giv, gids]
    rw [mapM_id (fun c hc => (h1 c hc).1)]
    exact ⟨rfl, List.flatMap_eq_nil_iff.2 fun c hc => (h1 c hc).2⟩
   case iface t v =>
    simp only [Gv] at h
    have h1 := giv_tr σ k v h
    simp only [giv, gids, h1.1, h1.2]
    exact ⟨rfl, trivial⟩
   all_goals first | (simp [Gv] at h; done) | exact ⟨rfl, rfl⟩
theorem frz_int (σ : Sto) (k : Nat) (i : IntKind) (x : Int) : frz σ (k + 1) (.int i x) = some (.int i x) := rfl
theorem rch_int (σ : Sto) (k : Nat) (i : IntKind) (x : Int) : rch σ (k + 1) (.int i x) = [] := rfl
theorem frz_bool (σ : Sto) (k : Nat) (b : Bool) : frz σ (k + 1) (.bool b) = some (.bool b) := rfl
theorem rch_bool (σ : Sto) (k : Nat) (b : Bool) : rch σ (k + 1) (.bool b) = [] := rfl
theorem frz_str (σ : Sto) (k : Nat) (s : ByteArray) : frz σ (k + 1) (.str s) = some (.str s) := rfl
theorem rch_str (σ : Sto) (k : Nat) (s : ByteArray) : rch σ (k + 1) (.str s) = [] := rfl
theorem frz_nilS (σ : Sto) (k : Nat)  : frz σ (k + 1) .nilS = some .nilS := rfl
theorem rch_nilS (σ : Sto) (k : Nat)  : rch σ (k + 1) .nilS = [] := rfl
theorem frz_nilF (σ : Sto) (k : Nat)  : frz σ (k + 1) .nilF = some .nilF := rfl
theorem rch_nilF (σ : Sto) (k : Nat)  : rch σ (k + 1) .nilF = [] := rfl
theorem frz_nilP (σ : Sto) (k : Nat)  : frz σ (k + 1) .nilP = some .nilP := rfl
theorem rch_nilP (σ : Sto) (k : Nat)  : rch σ (k + 1) .nilP = [] := rfl
theorem frz_nilI (σ : Sto) (k : Nat)  : frz σ (k + 1) .nilI = some .nilI := rfl
theorem rch_nilI (σ : Sto) (k : Nat)  : rch σ (k + 1) .nilI = [] := rfl
theorem frz_undef (σ : Sto) (k : Nat)  : frz σ (k + 1) .undef = some .undef := rfl
theorem rch_undef (σ : Sto) (k : Nat)  : rch σ (k + 1) .undef = [] := rfl
theorem frz_sl (σ : Sto) (k : Nat) (sz : Nat) (xs : List V) : frz σ (k + 1) (.sl sz xs) = some (.sl sz xs) := rfl
theorem rch_sl (σ : Sto) (k : Nat) (sz : Nat) (xs : List V) : rch σ (k + 1) (.sl sz xs) = [] := rfl
theorem frz_box (σ : Sto) (k : Nat) (xs : List V) : frz σ (k + 1) (.box xs) = some (.box xs) := rfl
theorem rch_box (σ : Sto) (k : Nat) (xs : List V) : rch σ (k + 1) (.box xs) = [] := rfl
theorem frz_fn (σ : Sto) (k f : Nat) (cs : List V) : frz σ (k + 1) (.fn f cs) = (cs.mapM (frz σ k)).map (.fn f) := rfl
theorem rch_fn (σ : Sto) (k f : Nat) (cs : List V) : rch σ (k + 1) (.fn f cs) = cs.flatMap (rch σ k) := rfl
theorem frz_bnd (σ : Sto) (k f : Nat) (cs : List V) : frz σ (k + 1) (.bnd f cs) = (cs.mapM (frz σ k)).map (.bnd f) := rfl
theorem rch_bnd (σ : Sto) (k f : Nat) (cs : List V) : rch σ (k + 1) (.bnd f cs) = cs.flatMap (rch σ k) := rfl
theorem frz_agg (σ : Sto) (k : Nat) (cs : List V) : frz σ (k + 1) (.agg cs) = (cs.mapM (frz σ k)).map .agg := rfl
theorem rch_agg (σ : Sto) (k : Nat) (cs : List V) : rch σ (k + 1) (.agg cs) = cs.flatMap (rch σ k) := rfl
theorem frz_tup (σ : Sto) (k : Nat) (cs : List V) : frz σ (k + 1) (.tup cs) = (cs.mapM (frz σ k)).map .tup := rfl
theorem rch_tup (σ : Sto) (k : Nat) (cs : List V) : rch σ (k + 1) (.tup cs) = cs.flatMap (rch σ k) := rfl
theorem rowAt_O (σ : Sto) (id sz i : Nat) : rowAt σ id sz i = rowO (σ id) sz i := by
 simp only [rowAt, rowO]
 rfl
theorem frz_ptr (σ : Sto) (k id sz i j : Nat) : frz σ (k + 1) (.ptr id sz i j) = ((rowO (σ id) sz i).bind fun e => ((e.cells.drop j).mapM (frz σ k)).map .box) := by
 simp only [frz, rowAt_O]
theorem rch_ptr (σ : Sto) (k id sz i j : Nat) : rch σ (k + 1) (.ptr id sz i j) = id :: (((rowO (σ id) sz i).map fun e => (e.cells.drop j).flatMap (rch σ k)).getD []) := by
 simp only [rch, rowAt_O]
theorem frz_rf (σ : Sto) (k id off len sz : Nat) : frz σ (k + 1) (.ref id off len sz) = ((elemsO (σ id) sz off len).bind fun xs => (xs.mapM (elemM (frz σ k))).map (.sl sz)) := by
 simp only [frz, w_elems_ref]
theorem rch_rf (σ : Sto) (k id off len sz : Nat) : rch σ (k + 1) (.ref id off len sz) = id :: ((elemsO (σ id) sz off len).getD []).flatMap fun x => x.cells.flatMap (rch σ k) := by
 simp only [rch, w_elems_ref]
theorem bk_int (fs : Bool) (D : List Nat) (i : IntKind) (x : Int) (σ : Sto) (n lk : Nat) : backE fs D (.int i x) σ n lk = some (.int i x, σ, n) := rfl
theorem bk_bool (fs : Bool) (D : List Nat) (x : Bool) (σ : Sto) (n lk : Nat) : backE fs D (.bool x) σ n lk = some (.bool x, σ, n) := rfl
theorem bk_str (fs : Bool) (D : List Nat) (x : ByteArray) (σ : Sto) (n lk : Nat) : backE fs D (.str x) σ n lk = some (.str x, σ, n) := rfl
theorem thaw_int (σ : Sto) (n : Nat) (k : IntKind) (x : Int) : thaw σ n (.int k x) = (.int k x, σ, n) := rfl
theorem thaw_bool (σ : Sto) (n : Nat) (b : Bool) : thaw σ n (.bool b) = (.bool b, σ, n) := rfl
theorem thaw_str (σ : Sto) (n : Nat) (s : ByteArray) : thaw σ n (.str s) = (.str s, σ, n) := rfl
theorem thaw_nilS (σ : Sto) (n : Nat) : thaw σ n .nilS = (.nilS, σ, n) := rfl
theorem thaw_sl (σ : Sto) (n : Nat) (sz : Nat) (xs : List V) : thaw σ n (.sl sz xs) = (.sl sz xs, σ, n) := rfl
theorem thaw_own (σ : Sto) (n : Nat) (sz : Nat) (xs : List V) : thaw σ n (.own sz xs) =
 (.ref (thawL σ n xs).2.2 0 xs.length sz, upd (thawL σ n xs).2.1 (thawL σ n xs).2.2 (some (.row sz (thawL σ n xs).1)), (thawL σ n xs).2.2 + 1) := rfl
theorem thaw_agg (σ : Sto) (n : Nat) (xs : List V) : thaw σ n (.agg xs) = (.agg (thawL σ n xs).1, (thawL σ n xs).2) := rfl
theorem thaw_tup (σ : Sto) (n : Nat) (xs : List V) : thaw σ n (.tup xs) = (.tup (thawL σ n xs).1, (thawL σ n xs).2) := rfl
theorem thawL_nil (σ : Sto) (n : Nat) : thawL σ n [] = ([], σ, n) := rfl
theorem thawL_cons (σ : Sto) (n : Nat) (x : V) (xs : List V) : thawL σ n (x :: xs) =
 ((thaw σ n x).1 :: (thawL (thaw σ n x).2.1 (thaw σ n x).2.2 xs).1, (thawL (thaw σ n x).2.1 (thaw σ n x).2.2 xs).2) := rfl
def Nw : Nat → V → Bool
 | 0, _ => false
 | k + 1, .agg cs => cs.all (Nw k)
 | k + 1, .tup cs => cs.all (Nw k)
 | k + 1, .iface _ v => Nw k v
 | _ + 1, .own .. => false
 | _ + 1, _ => true
theorem thaw_nw (σ : Sto) (n : Nat) : ∀ (k : Nat) (v : V), Nw k v = true → thaw σ n v = (v, σ, n)
 | 0, _, h => by simp [Nw] at h
 | k + 1, v, h => by
   have hL : ∀ cs : List V, (∀ c ∈ cs, Nw k c = true) → thawL σ n cs = (cs, σ, n) := by
    intro cs
    induction cs with
    | nil => intro _; rfl
    | cons d ds ih =>
      intro h
      rw [thawL_cons, thaw_nw σ n k d (h d (by simp))]
      simp only
      rw [ih (fun c hc => h c (List.mem_cons_of_mem _ hc))]
   cases v
   case agg cs =>
    simp only [Nw, List.all_eq_true] at h
    rw [thaw_agg, hL cs h]
   case tup cs =>
    simp only [Nw, List.all_eq_true] at h
    rw [thaw_tup, hL cs h]
   case iface t v =>
    simp only [Nw] at h
    simp only [thaw, thaw_nw σ n k v h]
   all_goals first | (simp [Nw] at h; done) | rfl
theorem thawL_nw {σ : Sto} {n : Nat} (k : Nat) : ∀ {cs : List V}, (∀ c ∈ cs, Nw k c = true) → thawL σ n cs = (cs, σ, n)
 | [], _ => rfl
 | d :: ds, h => by
   rw [thawL_cons, thaw_nw σ n k d (h d (by simp))]
   simp only
   rw [thawL_nw k (fun c hc => h c (List.mem_cons_of_mem _ hc))]
section
variable (k : IntKind) (a b : Int)
theorem bin_add : binV .add (.int k a) (.int k b) = some (.int k (k.wrap (a + b))) := by simp [binV, pureV, Go.binOp, Op.intArith]; rfl
theorem bin_sub : binV .sub (.int k a) (.int k b) = some (.int k (k.wrap (a - b))) := by simp [binV, pureV, Go.binOp, Op.intArith]; rfl
theorem bin_mul : binV .mul (.int k a) (.int k b) = some (.int k (k.wrap (a * b))) := by simp [binV, pureV, Go.binOp, Op.intArith]; rfl
theorem bin_quo (h : b ≠ 0) : binV .quo (.int k a) (.int k b) = some (.int k (k.wrap (a.tdiv b))) := by simp [binV, pureV, Go.binOp, Op.intDiv, h]; rfl
theorem bin_rem (h : b ≠ 0) : binV .rem (.int k a) (.int k b) = some (.int k (a.tmod b)) := by simp [binV, pureV, Go.binOp, Op.intDiv, h]; rfl
theorem bin_eql : binV .eql (.int k a) (.int k b) = some (.bool (a == b)) := by simp [binV, pureV, Go.binOp, Op.intCmp]; rfl
theorem bin_neq : binV .neq (.int k a) (.int k b) = some (.bool (a != b)) := by simp [binV, pureV, Go.binOp, Op.intCmp]; rfl
theorem bin_lss : binV .lss (.int k a) (.int k b) = some (.bool (decide (a < b))) := by simp [binV, pureV, Go.binOp, Op.intCmp]; rfl
theorem bin_leq : binV .leq (.int k a) (.int k b) = some (.bool (decide (a ≤ b))) := by simp [binV, pureV, Go.binOp, Op.intCmp]; rfl
theorem bin_gtr : binV .gtr (.int k a) (.int k b) = some (.bool (decide (b < a))) := by simp [binV, pureV, Go.binOp, Op.intCmp]; rfl
theorem bin_geq : binV .geq (.int k a) (.int k b) = some (.bool (decide (b ≤ a))) := by simp [binV, pureV, Go.binOp, Op.intCmp]; rfl
theorem bin_and : binV .and (.int k a) (.int k b) = some (.int k (k.wrap (BitVec.ofInt k.bits a &&& BitVec.ofInt k.bits b).toNat)) := by simp [binV, pureV, Go.binOp, Op.intBits]; rfl
theorem bin_or : binV .or (.int k a) (.int k b) = some (.int k (k.wrap (BitVec.ofInt k.bits a ||| BitVec.ofInt k.bits b).toNat)) := by simp [binV, pureV, Go.binOp, Op.intBits]; rfl
theorem bin_xor : binV .xor (.int k a) (.int k b) = some (.int k (k.wrap (BitVec.ofInt k.bits a ^^^ BitVec.ofInt k.bits b).toNat)) := by simp [binV, pureV, Go.binOp, Op.intBits]; rfl
theorem un_not (x : Bool) : unV .not (.bool x) = some (.bool (!x)) := by simp [unV, pureV, Op.unary]; rfl
end
theorem wrap_i64 {x : Int} (h : -9223372036854775808 ≤ x) (h' : x < 9223372036854775808) : IntKind.i64.wrap x = x := by
 simp [IntKind.wrap, IntKind.bits, IntKind.signed]; omega
theorem wrap_u64 {x : Int} (h : 0 ≤ x) (h' : x < 18446744073709551616) : IntKind.u64.wrap x = x := by
 simp [IntKind.wrap, IntKind.bits, IntKind.signed]; omega
theorem upd_get (σ : Sto) (id : Nat) (o : Option Ob) (i : Nat) : upd σ id o i = if i = id then o else σ i := rfl
theorem empty_get (i : Nat) : Sto.empty i = none := rfl
theorem envOf_0 (a : V) (l : List V) : envOf (a :: l) 0 = a := rfl
theorem envOf_1 (a b : V) (l : List V) : envOf (a :: b :: l) 1 = b := rfl
theorem envOf_2 (a b c : V) (l : List V) : envOf (a :: b :: c :: l) 2 = c := rfl
theorem envOf_3 (a b c d : V) (l : List V) : envOf (a :: b :: c :: d :: l) 3 = d := rfl
theorem envOf_4 (a b c d e : V) (l : List V) : envOf (a :: b :: c :: d :: e :: l) 4 = e := rfl
theorem envOf_5 (a b c d e f : V) (l : List V) : envOf (a :: b :: c :: d :: e :: f :: l) 5 = f := rfl
theorem endQ_ret (rs : List Res) (P : Sto → V → Prop) (env : Nat → V) (σ : Sto) (n lk : Nat) : endQ rs P .ret ⟨env, σ, n, lk⟩ = ∃ v, outOf ⟨env, σ, n, lk⟩ rs = some v ∧ P σ v := by
 simp [endQ, isEnd]
theorem endQ_normal (rs : List Res) (P : Sto → V → Prop) (env : Nat → V) (σ : Sto) (n lk : Nat) : endQ rs P .normal ⟨env, σ, n, lk⟩ = ∃ v, outOf ⟨env, σ, n, lk⟩ rs = some v ∧ P σ v := by
 simp [endQ, isEnd]
def outQ (o : Option V) (P : V → Prop) : Prop := match o with
 | some v => P v
 | none => False
theorem outQ_some (v : V) (P : V → Prop) : outQ (some v) P = P v := rfl
theorem outQ_eq (o : Option V) (P : V → Prop) : (∃ v, o = some v ∧ P v) = outQ o P := by cases o <;> simp [outQ]
theorem endR_ret (rs : List Res) (P : V → Sto → Nat → Prop) (env : Nat → V) (σ : Sto) (n lk : Nat) : endR rs P .ret ⟨env, σ, n, lk⟩ = ∃ v, outOf ⟨env, σ, n, lk⟩ rs = some v ∧ P v σ n := by
 simp [endR, isEnd]
theorem endR_normal (rs : List Res) (P : V → Sto → Nat → Prop) (env : Nat → V) (σ : Sto) (n lk : Nat) : endR rs P .normal ⟨env, σ, n, lk⟩ = ∃ v, outOf ⟨env, σ, n, lk⟩ rs = some v ∧ P v σ n := by
 simp [endR, isEnd]
theorem out_nil (env : Nat → V) (σ : Sto) (n lk : Nat) : outOf ⟨env, σ, n, lk⟩ [] = some .undef := rfl
theorem deep_eq : DEEP = 12 := rfl
theorem out_tmp (env : Nat → V) (σ : Sto) (n lk t : Nat) : outOf ⟨env, σ, n, lk⟩ [.tmp t] = some (env t) := rfl
theorem out_two (env : Nat → V) (σ : Sto) (n lk t u : Nat) : outOf ⟨env, σ, n, lk⟩ [.tmp t, .tmp u] = some (.tup [env t, env u]) := rfl
theorem out_three (env : Nat → V) (σ : Sto) (n lk t u x : Nat) : outOf ⟨env, σ, n, lk⟩ [.tmp t, .tmp u, .tmp x] = some (.tup [env t, env u, env x]) := rfl
def cellR (x : V) (σ : Sto) (agg : Bool) (sz : Nat) : Option V := match x with
 | .ptr id sz' i j => (rowO (σ id) sz' i).bind fun e => loadC agg sz (e.cells.drop j)
 | _ => none
theorem resOf_cell (env : Nat → V) (σ : Sto) (n lk t : Nat) (a : Bool) (s : Nat) : resOf ⟨env, σ, n, lk⟩ (.cell t a s) = cellR (env t) σ a s := by
 simp only [resOf, cellR]
 cases env t <;> simp only [rowAt_O]
theorem cellR_ptr (id sz' i j : Nat) (σ : Sto) (agg : Bool) (sz : Nat) : cellR (.ptr id sz' i j) σ agg sz = (rowO (σ id) sz' i).bind fun e => loadC agg sz (e.cells.drop j) := rfl
theorem out_cell (env : Nat → V) (σ : Sto) (n lk t : Nat) (a : Bool) (s : Nat) : outOf ⟨env, σ, n, lk⟩ [.cell t a s] = cellR (env t) σ a s := resOf_cell env σ n lk t a s
theorem out_ct (env : Nat → V) (σ : Sto) (n lk t u : Nat) (a : Bool) (s : Nat) : outOf ⟨env, σ, n, lk⟩ [.cell t a s, .tmp u] = (cellR (env t) σ a s).map fun v => .tup [v, env u] := by
 rw [← resOf_cell env σ n lk]
 simp only [outOf, List.mapM_cons, List.mapM_nil]
 cases resOf ⟨env, σ, n, lk⟩ (.cell t a s) <;> rfl
theorem out_cc (env : Nat → V) (σ : Sto) (n lk t u : Nat) (a b : Bool) (s r : Nat) : outOf ⟨env, σ, n, lk⟩ [.cell t a s, .cell u b r] = (cellR (env t) σ a s).bind fun v => (cellR (env u) σ b r).map fun w => .tup [v, w] := by
 rw [← resOf_cell env σ n lk, ← resOf_cell env σ n lk]
 simp only [outOf, List.mapM_cons, List.mapM_nil]
 cases resOf ⟨env, σ, n, lk⟩ (.cell t a s) <;> cases resOf ⟨env, σ, n, lk⟩ (.cell u b r) <;> rfl
end Go.Q
end

section
/- What single operations come to at encoded slices; cells of values. -/
namespace Go.Q
variable {T : Tab}
theorem one_int (k : IntKind) (x : Int) : (V.int k x).one = true := rfl
theorem one_bool (x : Bool) : (V.bool x).one = true := rfl
theorem one_str (x : ByteArray) : (V.str x).one = true := rfl
theorem one_nilS : V.nilS.one = true := rfl
theorem one_nilF : V.nilF.one = true := rfl
theorem one_nilP : V.nilP.one = true := rfl
theorem one_nilI : V.nilI.one = true := rfl
theorem one_nilM : V.nilM.one = true := rfl
theorem one_mp (id : Nat) : (V.mp id).one = true := rfl
theorem one_it (id : Nat) : (V.it id).one = true := rfl
theorem one_sl (sz : Nat) (xs : List V) : (V.sl sz xs).one = true := rfl
theorem one_ref (id off len sz : Nat) : (V.ref id off len sz).one = true := rfl
theorem one_ptr (id sz i j : Nat) : (V.ptr id sz i j).one = true := rfl
theorem one_box (xs : List V) : (V.box xs).one = true := rfl
theorem one_bnd (f : Nat) (xs : List V) : (V.bnd f xs).one = true := rfl
theorem one_fn (f : Nat) (xs : List V) : (V.fn f xs).one = true := rfl
theorem one_iface (t : Nat) (x : V) : (V.iface t x).one = true := rfl
theorem cl_agg (xs : List V) : (V.agg xs).cells = xs := rfl
theorem cl_int (k : IntKind) (x : Int) : (V.int k x).cells = [.int k x] := rfl
theorem cl_bool (x : Bool) : (V.bool x).cells = [.bool x] := rfl
theorem cl_str (x : ByteArray) : (V.str x).cells = [.str x] := rfl
theorem cl_nilS : V.nilS.cells = [.nilS] := rfl
theorem cl_nilF : V.nilF.cells = [.nilF] := rfl
theorem cl_nilP : V.nilP.cells = [.nilP] := rfl
theorem cl_nilI : V.nilI.cells = [.nilI] := rfl
theorem cl_nilM : V.nilM.cells = [.nilM] := rfl
theorem cl_mp (id : Nat) : (V.mp id).cells = [.mp id] := rfl
theorem cl_it (id : Nat) : (V.it id).cells = [.it id] := rfl
theorem cl_sl (sz : Nat) (xs : List V) : (V.sl sz xs).cells = [.sl sz xs] := rfl
theorem cl_ref (id off len sz : Nat) : (V.ref id off len sz).cells = [.ref id off len sz] := rfl
theorem cl_ptr (id sz i j : Nat) : (V.ptr id sz i j).cells = [.ptr id sz i j] := rfl
theorem cl_box (xs : List V) : (V.box xs).cells = [.box xs] := rfl
theorem cl_bnd (f : Nat) (xs : List V) : (V.bnd f xs).cells = [.bnd f xs] := rfl
theorem cl_fn (f : Nat) (xs : List V) : (V.fn f xs).cells = [.fn f xs] := rfl
theorem cl_iface (t : Nat) (x : V) : (V.iface t x).cells = [.iface t x] := rfl
section
variable {β : Type} (sz : Nat) (f : β → V) (o : Option (List β))
def lst {β : Type} (o : Option (List β)) : List β := o.getD []
theorem lst_some (l : List β) : lst (some l) = l := rfl
theorem lst_none : lst (none : Option (List β)) = [] := rfl
theorem slV_some (l : List β) : slV sz f (some l) = .sl sz (l.map f) := rfl
theorem slV_none : slV sz f none = .nilS := rfl
theorem one_slV : (slV sz f o).one = true := by cases o <;> rfl
theorem cl_slV : (slV sz f o).cells = [slV sz f o] := by cases o <;> rfl
theorem frz_slV (σ : Sto) (k : Nat) : frz σ (k + 1) (slV sz f o) = some (slV sz f o) := by cases o <;> rfl
theorem rch_slV (σ : Sto) (k : Nat) : rch σ (k + 1) (slV sz f o) = [] := by cases o <;> rfl
theorem thaw_slV (σ : Sto) (n : Nat) : thaw σ n (slV sz f o) = (slV sz f o, σ, n) := by cases o <;> rfl
theorem lenE_slV : lenE (slV sz f o) = some (.int .i64 ((lst o).length : Int)) := by cases o <;> simp [slV, lst, lenE, lenOf]
theorem iaddrE_slV (k : IntKind) (i : Nat) : iaddrE sz (slV sz f o) (.int k (i : Int)) = ((lst o)[i]?).map fun e => .box (f e).cells := by
 cases o with
 | none => simp [slV, lst, iaddrE]
 | some l => rw [slV_some, iaddrE_sl, List.getElem?_map]; cases h : l[i]? <;> simp [lst, h]
theorem iaddrE_slV0 (k : IntKind) : iaddrE sz (slV sz f o) (.int k 0) = ((lst o)[0]?).map fun e => .box (f e).cells := iaddrE_slV sz f o k 0
theorem elems_slV (σ : Sto) : elems σ sz (slV sz f o) = some ((lst o).map f) := by cases o <;> simp [slV, lst, elems]
theorem eqNE_slV (neg : Bool) : eqNE neg (slV sz f o) = some (.bool (o.isNone != neg)) := by cases o <;> cases neg <;> rfl
theorem Tr_slV (k : Nat) : Tr (k + 1) (slV sz f o) = true := by cases o <;> rfl
theorem Nw_slV (k : Nat) : Nw (k + 1) (slV sz f o) = true := by cases o <;> rfl
def sub (o : Option (List β)) (l h : Nat) : Option (List β) := o.map fun xs => (xs.take h).drop l
theorem lst_sub (l h : Nat) : lst (sub o l h) = ((lst o).take h).drop l := by cases o <;> simp [sub, lst]
theorem sliceE_slV (ρ : Opd → V) (lo hi : Option Opd) : sliceE ρ sz (slV sz f o) lo hi =
 (boundOf ρ hi (lst o).length (lst o).length).bind fun h => (boundOf ρ lo 0 h).bind fun l => if h ≤ (lst o).length ∧ l ≤ h then some (slV sz f (sub o l h)) else none := by
 have hb : ∀ (ρ : Opd → V) (b : Option Opd) (d m h : Nat), d ≤ m → boundOf ρ b d m = some h → h ≤ m := by
  intro ρ b d m h hd hb
  unfold boundOf at hb
  split at hb
  ·cases hb; exact hd
  ·split at hb
   ·split at hb
    ·cases hb; omega
    ·cases hb
   ·cases hb
 cases o with
 | none =>
   simp only [slV, sliceE, lst, Option.getD_none, List.length_nil, sub, Option.map_none]
   cases h1 : boundOf ρ hi 0 0 with
   | none => rfl
   | some h =>
     simp only [Option.bind_some]
     cases h2 : boundOf ρ lo 0 h with
     | none => rfl
     | some l =>
       simp only [Option.bind_some]
       have := hb _ _ _ _ _ (Nat.le_refl _) h1
       have := hb _ _ _ _ _ (Nat.zero_le _) h2
       have a1 : l = 0 := by omega
       have a2 : h = 0 := by omega
       simp [a1, a2]
 | some xs =>
   simp only [slV, sliceE_sl, lst, Option.getD_some, List.length_map, sub, Option.map_some]
   cases h1 : boundOf ρ hi xs.length xs.length with
   | none => rfl
   | some h =>
     simp only [Option.bind_some]
     cases h2 : boundOf ρ lo 0 h with
     | none => rfl
     | some l =>
       simp only [Option.bind_some]
       have b1 := hb _ _ _ _ _ (Nat.le_refl _) h1
       have b2 := hb _ _ _ _ _ (Nat.zero_le _) h2
       simp [b1, b2]
end
theorem spl_agg (old : List V) (j : Nat) (cs : List V) : spliceC (.agg old) j cs = .agg (old.take j ++ cs ++ old.drop (j + cs.length)) := rfl
theorem spl_int (k : IntKind) (x : Int) (j : Nat) (c : V) : spliceC (.int k x) j [c] = c := rfl
theorem spl_bool (x : Bool) (j : Nat) (c : V) : spliceC (.bool x) j [c] = c := rfl
theorem spl_str (x : ByteArray) (j : Nat) (c : V) : spliceC (.str x) j [c] = c := rfl
theorem spl_nilS  (j : Nat) (c : V) : spliceC .nilS j [c] = c := rfl
theorem spl_nilF  (j : Nat) (c : V) : spliceC .nilF j [c] = c := rfl
theorem spl_nilP  (j : Nat) (c : V) : spliceC .nilP j [c] = c := rfl
theorem spl_nilI  (j : Nat) (c : V) : spliceC .nilI j [c] = c := rfl
theorem spl_nilM (j : Nat) (c : V) : spliceC .nilM j [c] = c := rfl
theorem spl_mp (id j : Nat) (c : V) : spliceC (.mp id) j [c] = c := rfl
theorem spl_it (id j : Nat) (c : V) : spliceC (.it id) j [c] = c := rfl
theorem spl_undef  (j : Nat) (c : V) : spliceC .undef j [c] = c := rfl
theorem spl_sl (sz : Nat) (xs : List V) (j : Nat) (c : V) : spliceC (.sl sz xs) j [c] = c := rfl
theorem spl_ref (id off len sz : Nat) (j : Nat) (c : V) : spliceC (.ref id off len sz) j [c] = c := rfl
theorem spl_ptr (id sz a b : Nat) (j : Nat) (c : V) : spliceC (.ptr id sz a b) j [c] = c := rfl
theorem spl_box (xs : List V) (j : Nat) (c : V) : spliceC (.box xs) j [c] = c := rfl
theorem spl_bnd (f : Nat) (xs : List V) (j : Nat) (c : V) : spliceC (.bnd f xs) j [c] = c := rfl
theorem spl_fn (f : Nat) (xs : List V) (j : Nat) (c : V) : spliceC (.fn f xs) j [c] = c := rfl
theorem spl_iface (t : Nat) (x : V) (j : Nat) (c : V) : spliceC (.iface t x) j [c] = c := rfl
theorem spl_slV {β : Type} (sz : Nat) (f : β → V) (o : Option (List β)) (j : Nat) (c : V) : spliceC (slV sz f o) j [c] = c := by cases o <;> rfl
theorem iaddrAE_p0 (m es id sz e j : Nat) (k : IntKind) : iaddrAE m es (.ptr id sz e j) (.int k 0) = if 0 < m then some (.ptr id sz e (j + 0 * es)) else none := by
 simp only [iaddrAE]; by_cases h : 0 < m
 ·rw [if_pos h, if_pos (by omega)]; rfl
 ·rw [if_neg h, if_neg (by omega)]
theorem idxAE_l0 (agg : Bool) (m es : Nat) (cs : List V) (k : IntKind) : idxAE agg m es (.agg cs) (.int k 0) = if 0 < m then loadC agg es (cs.drop (0 * es)) else none := by
 simp only [idxAE]; by_cases h : 0 < m
 ·rw [if_pos h, if_pos (by omega)]; rfl
 ·rw [if_neg h, if_neg (by omega)]
theorem iaddrAE_p1 (m es id sz e j : Nat) (k : IntKind) : iaddrAE m es (.ptr id sz e j) (.int k 1) = if 1 < m then some (.ptr id sz e (j + 1 * es)) else none := by
 simp only [iaddrAE]; by_cases h : 1 < m
 ·rw [if_pos h, if_pos (by omega)]; rfl
 ·rw [if_neg h, if_neg (by omega)]
theorem idxAE_l1 (agg : Bool) (m es : Nat) (cs : List V) (k : IntKind) : idxAE agg m es (.agg cs) (.int k 1) = if 1 < m then loadC agg es (cs.drop (1 * es)) else none := by
 simp only [idxAE]; by_cases h : 1 < m
 ·rw [if_pos h, if_pos (by omega)]; rfl
 ·rw [if_neg h, if_neg (by omega)]
theorem iaddrAE_p2 (m es id sz e j : Nat) (k : IntKind) : iaddrAE m es (.ptr id sz e j) (.int k 2) = if 2 < m then some (.ptr id sz e (j + 2 * es)) else none := by
 simp only [iaddrAE]; by_cases h : 2 < m
 ·rw [if_pos h, if_pos (by omega)]; rfl
 ·rw [if_neg h, if_neg (by omega)]
theorem idxAE_l2 (agg : Bool) (m es : Nat) (cs : List V) (k : IntKind) : idxAE agg m es (.agg cs) (.int k 2) = if 2 < m then loadC agg es (cs.drop (2 * es)) else none := by
 simp only [idxAE]; by_cases h : 2 < m
 ·rw [if_pos h, if_pos (by omega)]; rfl
 ·rw [if_neg h, if_neg (by omega)]
theorem iaddrAE_p3 (m es id sz e j : Nat) (k : IntKind) : iaddrAE m es (.ptr id sz e j) (.int k 3) = if 3 < m then some (.ptr id sz e (j + 3 * es)) else none := by
 simp only [iaddrAE]; by_cases h : 3 < m
 ·rw [if_pos h, if_pos (by omega)]; rfl
 ·rw [if_neg h, if_neg (by omega)]
theorem idxAE_l3 (agg : Bool) (m es : Nat) (cs : List V) (k : IntKind) : idxAE agg m es (.agg cs) (.int k 3) = if 3 < m then loadC agg es (cs.drop (3 * es)) else none := by
 simp only [idxAE]; by_cases h : 3 < m
 ·rw [if_pos h, if_pos (by omega)]; rfl
 ·rw [if_neg h, if_neg (by omega)]
theorem iaddrAE_p4 (m es id sz e j : Nat) (k : IntKind) : iaddrAE m es (.ptr id sz e j) (.int k 4) = if 4 < m then some (.ptr id sz e (j + 4 * es)) else none := by
 simp only [iaddrAE]; by_cases h : 4 < m
 ·rw [if_pos h, if_pos (by omega)]; rfl
 ·rw [if_neg h, if_neg (by omega)]
theorem idxAE_l4 (agg : Bool) (m es : Nat) (cs : List V) (k : IntKind) : idxAE agg m es (.agg cs) (.int k 4) = if 4 < m then loadC agg es (cs.drop (4 * es)) else none := by
 simp only [idxAE]; by_cases h : 4 < m
 ·rw [if_pos h, if_pos (by omega)]; rfl
 ·rw [if_neg h, if_neg (by omega)]
theorem iaddrAE_p5 (m es id sz e j : Nat) (k : IntKind) : iaddrAE m es (.ptr id sz e j) (.int k 5) = if 5 < m then some (.ptr id sz e (j + 5 * es)) else none := by
 simp only [iaddrAE]; by_cases h : 5 < m
 ·rw [if_pos h, if_pos (by omega)]; rfl
 ·rw [if_neg h, if_neg (by omega)]
theorem idxAE_l5 (agg : Bool) (m es : Nat) (cs : List V) (k : IntKind) : idxAE agg m es (.agg cs) (.int k 5) = if 5 < m then loadC agg es (cs.drop (5 * es)) else none := by
 simp only [idxAE]; by_cases h : 5 < m
 ·rw [if_pos h, if_pos (by omega)]; rfl
 ·rw [if_neg h, if_neg (by omega)]
theorem iaddrAE_p6 (m es id sz e j : Nat) (k : IntKind) : iaddrAE m es (.ptr id sz e j) (.int k 6) = if 6 < m then some (.ptr id sz e (j + 6 * es)) else none := by
 simp only [iaddrAE]; by_cases h : 6 < m
 ·rw [if_pos h, if_pos (by omega)]; rfl
 ·rw [if_neg h, if_neg (by omega)]
theorem idxAE_l6 (agg : Bool) (m es : Nat) (cs : List V) (k : IntKind) : idxAE agg m es (.agg cs) (.int k 6) = if 6 < m then loadC agg es (cs.drop (6 * es)) else none := by
 simp only [idxAE]; by_cases h : 6 < m
 ·rw [if_pos h, if_pos (by omega)]; rfl
 ·rw [if_neg h, if_neg (by omega)]
theorem iaddrAE_p7 (m es id sz e j : Nat) (k : IntKind) : iaddrAE m es (.ptr id sz e j) (.int k 7) = if 7 < m then some (.ptr id sz e (j + 7 * es)) else none := by
 simp only [iaddrAE]; by_cases h : 7 < m
 ·rw [if_pos h, if_pos (by omega)]; rfl
 ·rw [if_neg h, if_neg (by omega)]
theorem idxAE_l7 (agg : Bool) (m es : Nat) (cs : List V) (k : IntKind) : idxAE agg m es (.agg cs) (.int k 7) = if 7 < m then loadC agg es (cs.drop (7 * es)) else none := by
 simp only [idxAE]; by_cases h : 7 < m
 ·rw [if_pos h, if_pos (by omega)]; rfl
 ·rw [if_neg h, if_neg (by omega)]
theorem iaddrAE_nat (m es id sz e j : Nat) (k : IntKind) (i : Nat) : iaddrAE m es (.ptr id sz e j) (.int k (i : Int)) = if i < m then some (.ptr id sz e (j + i * es)) else none := by simp [iaddrAE]
theorem iaddrAE_bnat (m es : Nat) (cs : List V) (k : IntKind) (i : Nat) : iaddrAE m es (.box cs) (.int k (i : Int)) = if i < m then some (.box (cs.drop (i * es))) else none := by simp [iaddrAE]
theorem iaddrE_r0 (sz id off len : Nat) (k : IntKind) : iaddrE sz (.ref id off len sz) (.int k 0) = if 0 < len then some (.ptr id sz off 0) else none := by
 simp [iaddrE]
theorem iaddrE_s0 (sz : Nat) (xs : List V) (k : IntKind) : iaddrE sz (.sl sz xs) (.int k 0) = (xs[0]?).map fun e => .box e.cells := by simp [iaddrE]
theorem bndE_nat (k : IntKind) (m most : Nat) : bndE (.int k (m : Int)) most = if m ≤ most then some m else none := by
 simp [bndE]
theorem appE_row' (sz bytes id len lk : Nat) (xs ys : List V) (σ : Sto) (n : Nat) : appE (some (.row sz xs)) sz bytes id len lk ys σ n =
 if (len = xs.length ∨ len < xs.length) ∧ lk ≤ id ∧ (len + ys.length) * bytes ≤ LIM then some (.ref n 0 (len + ys.length) sz, upd (upd σ id none) n (some (.row sz ((if len = xs.length then xs else xs.take len) ++ ys))), n + 1) else none := by
 have e : (len ≤ xs.length) = (len = xs.length ∨ len < xs.length) := by simp only [eq_iff_iff]; omega
 simp only [appE, e, true_and]
 split
 ·split
  ·rename_i h; simp [h]
  ·rfl
 ·rfl
theorem elemM_int (f : V → Option V) (k : IntKind) (n : Int) : elemM f (.int k n) = f (.int k n) := rfl
theorem elemM_bool (f : V → Option V) (b : Bool) : elemM f (.bool b) = f (.bool b) := rfl
theorem elemM_nilS (f : V → Option V) : elemM f .nilS = f .nilS := rfl
theorem elemM_sl (f : V → Option V) (sz : Nat) (xs : List V) : elemM f (.sl sz xs) = f (.sl sz xs) := rfl
theorem elemM_ref (f : V → Option V) (i o l s : Nat) : elemM f (.ref i o l s) = f (.ref i o l s) := rfl
theorem elemM_agg (f : V → Option V) (cs : List V) : elemM f (.agg cs) = (cs.mapM f).map .agg := rfl
theorem callE_tr {f : Nat} {args : List V} {r : V} (hm : T.mode f ≠ .raw) (hr : res T f args = some r) (ht : args.all (Tr 12) = true) (hn : Nw 12 r = true)
 (fs : Bool) (σ : Sto) (n lk : Nat) : callE T fs f args σ n lk = some (r, σ, n) := by
 rw [callE_eq hm]
 rw [List.all_eq_true] at ht
 rw [mapM_id (fun c hc => (frz_tr σ 12 c (ht c hc)).1), callR_some, hr, retE_some]
 have : args.flatMap (rch σ 12) = [] := List.flatMap_eq_nil_iff.2 fun c hc => (frz_tr σ 12 c (ht c hc)).2
 rw [this, backE_nil, thaw_nw σ n 12 r hn]
end Go.Q
end

section
/- A statement's row, out of a call that returns true. -/
namespace Go.Q
def Enc.map {P : Program} {t : TypeId} {α β : Type} (E : Enc P t α) (g : α → β) (val : β → V) (ok : β → Prop) (hv : ∀ a, E.ok a → E.val a = val (g a)) (ho : ∀ a, E.ok a → ok (g a)) : Enc P t β where
 val := val
 ok := ok
 opens := fun h hw => by
  obtain ⟨a, h1, h2⟩ := E.opens h hw
  exact ⟨g a, ho a h1, by rw [← hv a h1]; exact h2⟩
theorem weights_at {H : Type} {P : Program} {ts : List TypeId} {ds : List (DataW H)} {j : Nat} {t : TypeId} {d : DataW H}
 (hsz : (DataW.weightsEach P ts ds).all (· ≤ reachBytes) = true) (ht : ts[j]? = some t) (hd : ds[j]? = some d) : ∀ n ∈ d.weights P t, n ≤ reachBytes := fun n hn => by
 have := List.all_eq_true.1 hsz n (DataW.weights_mem_each ht hd n hn)
 simpa using this
theorem reach_eq : reachBytes = 140737488351232 := rfl
theorem rep_agg {P : Program} {t : TypeId} {α : Type} (E : Enc P t α) {H : Type} {enc : TypeId × Value → H} {W : World} {held : Bool} {us : Array Value} {d : DataW H} {p : List MemPlace}
 (h : DataW.Trod enc P W 0 (fun _ => true) held t (.agg us) d p) (hwt : ∀ n ∈ d.weights P t, n ≤ reachBytes) (hv : ∀ a, ∃ cs, E.val a = .agg cs) :
 ∃ a, E.ok a ∧ Rep W (fun _ => False) (fun _ => 0) 0 (E.val a) (.agg us) := by
 letI : Link := ⟨fun _ _ _ => False⟩
 obtain ⟨fuel, hf⟩ := h
 obtain ⟨a, hok, h1, hc, -⟩ := E.opens hf hwt
 obtain ⟨cs, hcs⟩ := hv a
 refine ⟨a, hok, ?_⟩
 rw [hcs] at h1 hc ⊢
 have e : (Value.agg us).cells = us := rfl
 rw [e] at h1 hc
 refine .agg cs us (by simpa [V.cells] using h1) (fun i e u he hu => hc i e u he ?_)
 rw [Array.getElem?_toList]
 exact hu
end Go.Q
end

section
/- Loops that count. -/
namespace Go.Q
variable {T : Tab}
def forQ (i : Nat) (y : Opd) (u k j N lk : Nat) (I : (Nat → V) → Sto → Nat → Prop) (Q : Ex → St → Prop) : Ex → St → Prop
 | .normal, s => s.lk = lk ∧ s.env i = .int .i64 (j : Int) ∧ vl s.env y = .int .i64 (N : Int) ∧ I (pt (pt s.env u (.int .i64 ((j + 1 : Nat) : Int))) i (.int .i64 ((j + 1 : Nat) : Int))) s.σ s.n
 | .exit e, s => if e = k then s.lk = lk ∧ s.env i = .int .i64 (j : Int) ∧ vl s.env y = .int .i64 (N : Int) ∧ I (pt (pt s.env u (.int .i64 ((j + 1 : Nat) : Int))) i (.int .i64 ((j + 1 : Nat) : Int))) s.σ s.n
  else Q (.exit e) s
 | .ret, s => Q .ret s
theorem forQ_normal (i : Nat) (y : Opd) (u k j N lk lk' : Nat) (I : (Nat → V) → Sto → Nat → Prop) (Q : Ex → St → Prop) (env : Nat → V) (σ : Sto) (n : Nat) :
 forQ i y u k j N lk I Q .normal ⟨env, σ, n, lk'⟩ = (lk' = lk ∧ env i = .int .i64 (j : Int) ∧ vl env y = .int .i64 (N : Int) ∧ I (pt (pt env u (.int .i64 ((j + 1 : Nat) : Int))) i (.int .i64 ((j + 1 : Nat) : Int))) σ n) := rfl
theorem forQ_exit (i : Nat) (y : Opd) (u k j N lk lk' e : Nat) (I : (Nat → V) → Sto → Nat → Prop) (Q : Ex → St → Prop) (env : Nat → V) (σ : Sto) (n : Nat) :
 forQ i y u k j N lk I Q (.exit e) ⟨env, σ, n, lk'⟩ = if e = k then (lk' = lk ∧ env i = .int .i64 (j : Int) ∧ vl env y = .int .i64 (N : Int) ∧ I (pt (pt env u (.int .i64 ((j + 1 : Nat) : Int))) i (.int .i64 ((j + 1 : Nat) : Int))) σ n) else Q (.exit e) ⟨env, σ, n, lk'⟩ := rfl
theorem forQ_ret (i : Nat) (y : Opd) (u k j N lk : Nat) (I : (Nat → V) → Sto → Nat → Prop) (Q : Ex → St → Prop) (s : St) : forQ i y u k j N lk I Q .ret s = Q .ret s := rfl
abbrev forC (g i u k b : Nat) (y : Opd) (body : AC) : AC :=
 .loop (.seq (.reg [⟨some g, none, .bin .lss (.tmp i) y⟩]) (.seq (.cond (.tmp g) .skip (.exit b)) (.seq (.block k body)
  (.reg [⟨some u, none, .bin .add (.tmp i) (.con (.int .i64 1))⟩, ⟨some i, none, .mov (.tmp u)⟩]))))
theorem WC_monoQ {c : AC} {env : Nat → V} {σ : Sto} {n lk : Nat} {Q Q' : Ex → St → Prop} (h : WC T c env σ n lk Q) (hq : ∀ e s, Q e s → Q' e s) : wpC T (run T) c ⟨env, σ, n, lk⟩ Q' :=
 wpC_mono (fun _ _ x => x) run_mono c _ _ _ hq (WC_ok c _ _ _ _ _ h)
theorem WC_for {g i u k b : Nat} {y : Opd} {body : AC} {Q : Ex → St → Prop} (N : Nat) (lk : Nat) (I : Nat → (Nat → V) → Sto → Nat → Prop)
 (hN : N < 9223372036854775808) (hiu : i ≠ u) (hgi : i ≠ g) (hgy : ∀ (env : Nat → V) (v : V), vl (pt env g v) y = vl env y) (huy : ∀ (env : Nat → V) (v w : V), vl (pt (pt env u v) i w) y = vl env y)
 (hbody : ∀ j env σ n, j < N → env i = .int .i64 (j : Int) → vl env y = .int .i64 (N : Int) → I j env σ n → WC T body (pt env g (.bool true)) σ n lk (forQ i y u k j N lk (I (j + 1)) Q))
 (hend : ∀ env σ n, I N env σ n → env i = .int .i64 (N : Int) → vl env y = .int .i64 (N : Int) → Q (.exit b) ⟨pt env g (.bool false), σ, n, lk⟩)
 (env : Nat → V) (σ : Sto) (n : Nat) (h1 : env i = .int .i64 0) (h2 : vl env y = .int .i64 (N : Int)) (h0 : I 0 env σ n) : WC T (forC g i u k b y body) env σ n lk Q := by
 have key : ∀ (m j : Nat) (env : Nat → V) (σ : Sto) (n : Nat), N - j < m → j ≤ N → env i = .int .i64 (j : Int) → vl env y = .int .i64 (N : Int) → I j env σ n →
  wpC T (run T) (forC g i u k b y body) ⟨env, σ, n, lk⟩ Q := by
  intro m
  induction m with
  | zero => intro j _ _ _ h; omega
  | succ m ih =>
    intro j env σ n hm hj h1 h2 hI
    show loopW (wpC T (run T) _) _ _
    refine loopW_step (fun s Q Q' hq hh => wpC_mono (fun _ _ x => x) run_mono _ s Q Q' hq hh) ?_
    simp only [wpC]
    refine WR_ok _ _ _ _ _ _ ?_
    simp only [WR_cons, evw_bin, vl_tmp, h1, h2, bin_lss, r1_some, stepW_some, WR_nil, ptO_some, thenW]
    simp only [St.val, pt_get, if_true]
    have hnext : ∀ (env' : Nat → V) (σ' : Sto) (n' lk' : Nat), lk' = lk → env' i = .int .i64 (j : Int) → vl env' y = .int .i64 (N : Int) → j < N →
     I (j + 1) (pt (pt env' u (.int .i64 ((j + 1 : Nat) : Int))) i (.int .i64 ((j + 1 : Nat) : Int))) σ' n' →
     wpR T (run T) [⟨some u, none, .bin .add (.tmp i) (.con (.int .i64 1))⟩, ⟨some i, none, .mov (.tmp u)⟩] ⟨env', σ', n', lk'⟩ fun s' => loopW (wpC T (run T) (.seq (.reg [⟨some g, none, .bin .lss (.tmp i) y⟩]) (.seq (.cond (.tmp g) .skip (.exit b)) (.seq (.block k body) (.reg [⟨some u, none, .bin .add (.tmp i) (.con (.int .i64 1))⟩, ⟨some i, none, .mov (.tmp u)⟩]))))) s' Q := by
     intro env' σ' n' lk' hl e1 e2 hjN hI'
     subst hl
     refine WR_ok _ _ _ _ _ _ ?_
     have hw : IntKind.i64.wrap ((j : Int) + 1) = ((j + 1 : Nat) : Int) := by rw [wrap_i64] <;> omega
     simp only [WR_cons, evw_bin, vl_tmp, vl_con, e1, bin_add, r1_some, stepW_some, WR_nil, ptO_some, hw, evw_mov, pt_get, if_true]
     refine ih (j + 1) _ _ _ (by omega) (by omega) (by simp [pt_get]) ?_ hI'
     rw [huy]; exact e2
    by_cases hjN : j < N
    ·have hd : decide ((j : Int) < (N : Int)) = true := by simp [hjN]
     simp only [hd]
     have hb := hbody j env σ n hjN h1 h2 hI
     refine WC_monoQ hb fun e s hs => ?_
     obtain ⟨env', σ', n', lk'⟩ := s
     cases e with
     | normal =>
       simp only [forQ_normal] at hs
       simp only [blockW, thenW]
       exact hnext _ _ _ _ hs.1 hs.2.1 hs.2.2.1 hjN hs.2.2.2
     | exit e =>
       simp only [forQ_exit] at hs
       simp only [blockW]
       split at hs <;> rename_i hek
       ·rw [if_pos hek]
        exact hnext _ _ _ _ hs.1 hs.2.1 hs.2.2.1 hjN hs.2.2.2
       ·rw [if_neg hek]
        exact hs
     | ret => exact hs
    ·have hd : decide ((j : Int) < (N : Int)) = false := by simp; omega
     have hjN : j = N := by omega
     subst hjN
     simp only [hd]
     exact hend env σ n hI h1 h2
 exact key (N + 1) 0 env σ n (by omega) (by omega) h1 h2 h0
end Go.Q
end

section
/- The rules in two bundles. -/
namespace Go.Q
def wP := And.intro @WC_skip (And.intro @WC_ret (And.intro @WC_exit (And.intro @WC_block (And.intro @WC_seq (And.intro @WC_cond (And.intro @WC_reg (And.intro @WC_regd (And.intro @WR_nil (And.intro @WR_cons (And.intro @WR_consG (And.intro @WD_nil (And.intro @WD_cons (And.intro @WD_consG (And.intro @WS_nil (And.intro @WS_cons0 (And.intro @WS_cons (And.intro @seqQ_normal (And.intro @seqQ_exit (And.intro @seqQ_ret (And.intro @blockW_normal (And.intro @blockW_ret (And.intro @blockW_exit (And.intro @norQ_st (And.intro @segQ_st (And.intro @aftD_st (And.intro @forQ_normal (And.intro @forQ_exit (And.intro @forQ_ret (And.intro @lpQ_normal (And.intro @lpQ_exit (And.intro @lpQ_ret (And.intro @endR_ret (And.intro @endR_normal (And.intro @endQ_ret (@endQ_normal)))))))))))))))))))))))))))))))))))
def wQ := And.intro @condC_true (And.intro @condC_false (And.intro @stepW_some (And.intro @stepDW_some (And.intro @out_nil (And.intro @outQ_eq (And.intro @outQ_some (And.intro @out_tmp (And.intro @out_two (And.intro @out_three (And.intro @out_cell (And.intro @out_ct (And.intro @out_cc (And.intro @cellR_ptr (And.intro @ptO_some (And.intro @ptO_none (And.intro @pt_get (And.intro @vl_tmp (And.intro @vl_con (And.intro @cv_true (And.intro @cv_not (And.intro @gev_not (And.intro @gevn_true (And.intro @gevn_false (And.intro @gevn_some (And.intro @wantsV_cvn (And.intro @cv_false (And.intro @cv_bool_and (And.intro @cv_bool_or (And.intro @cv_bool_imp (And.intro @cv_bool_nand (And.intro @cv_int (And.intro @cv_same (And.intro @gev_true (And.intro @gev_false (And.intro @gev_some (And.intro @wantsV_bool (And.intro @wantsV_undef (And.intro @wantsV_cv (And.intro @dE_pure (And.intro @dE_read (And.intro @dE_lay (And.intro @layS_some (And.intro @lowS_some (And.intro @dE_wrl (And.intro @dE_wr0 (And.intro @dE_low0 (And.intro @dE_lowl (And.intro @wrS_some (And.intro @hide_nil (And.intro @keepS_some (And.intro @evw_mov (And.intro @evw_pick (And.intro @evw_alloc (And.intro @evw_box (And.intro @evw_build (And.intro @evw_lit (And.intro @evw_load (And.intro @evw_store (And.intro @evw_nilck (And.intro @evw_bin (And.intro @evw_eqB (And.intro @evw_eqA (And.intro @evw_eqN (And.intro @evw_eqF (And.intro @evw_un (And.intro @evw_conv (And.intro @evw_mkfn (And.intro @evw_mkbnd (And.intro @evw_mkmap (And.intro @evw_mupd (And.intro @evw_mget (And.intro @evw_ment (And.intro @evw_mest (And.intro @evw_mlen (And.intro @evw_mdel (And.intro @evw_range (And.intro @evw_entry (And.intro @mapOf_mp (@mapOO_map)))))))))))))))))))))))))))))))))))))))))))))))))))))))))))))))))))))))))))))))
def wQ1 := And.intro @mlenE_some (And.intro @evw_mksl (And.intro @evw_slice (And.intro @evw_sliceS (And.intro @evw_faddr (And.intro @evw_fld (And.intro @evw_iaddr (And.intro @evw_iaddrA (And.intro @evw_idxA (And.intro @evw_idxS (And.intro @evw_ext (And.intro @evw_len (And.intro @evw_lenS (And.intro @evw_min (And.intro @evw_max (And.intro @evw_append (And.intro @evw_mkif (And.intro @evw_tas (And.intro @tasE_iface (And.intro @evw_inv (And.intro @evw_prim (And.intro @invE_some (And.intro @invOf_cons (And.intro @recvOf_self (And.intro @recvOf_ptr (And.intro @evw_call (And.intro @evw_callv (And.intro @rowO_row (And.intro @r1_some (And.intro @pickE_bool (And.intro @loadE_ptr (And.intro @loadE_box (And.intro @loadC_one (And.intro @loadC_agg (And.intro @putE_ptr (And.intro @putR_row (And.intro @putX_some (And.intro @spl_agg (And.intro @spl_int (And.intro @spl_bool (And.intro @spl_str (And.intro @spl_nilS (And.intro @spl_nilF (And.intro @spl_nilP (And.intro @spl_nilI (And.intro @spl_undef (And.intro @spl_sl (And.intro @spl_ref (And.intro @spl_ptr (And.intro @spl_box (And.intro @spl_fn (And.intro @spl_bnd (And.intro @spl_nilM (And.intro @spl_mp (And.intro @spl_it (And.intro @spl_iface (And.intro @spl_slV (And.intro @nilckE_ptr (And.intro @nilckE_box (And.intro @nilckE_fn (And.intro @eqBE_bool (And.intro @eqAE_agg (And.intro @eqNE_nil (And.intro @eqNE_sl (And.intro @eqNE_ref (And.intro @eqFE_nil (And.intro @eqFE_fn (And.intro @convE_int (And.intro @mkslE_int (And.intro @boundOf_none (And.intro @boundOf_some (And.intro @sliceE_sl (And.intro @sliceE_ref (And.intro @sliceSE_str (And.intro @faddrE_ptr (And.intro @faddrE_box (And.intro @fldE_agg (And.intro @iaddrE_sl (And.intro @iaddrE_ref (@idxAE_nat)))))))))))))))))))))))))))))))))))))))))))))))))))))))))))))))))))))))))))))))
def wQ2 := And.intro @extE_tup (And.intro @lenE_nil (And.intro @lenE_sl (And.intro @lenE_ref (And.intro @lenSE_str (And.intro @minV_int (And.intro @maxV_int (And.intro @mmE_one (And.intro @mmE_two (And.intro @mmE_three (And.intro @appendE_ref (And.intro @appE_row' (And.intro @bndE_nat (And.intro @iaddrE_r0 (And.intro @iaddrE_s0 (And.intro @iaddrAE_nat (And.intro @iaddrAE_bnat (And.intro @iaddrAE_p0 (And.intro @idxAE_l0 (And.intro @iaddrAE_p1 (And.intro @idxAE_l1 (And.intro @iaddrAE_p2 (And.intro @idxAE_l2 (And.intro @iaddrAE_p3 (And.intro @idxAE_l3 (And.intro @iaddrAE_p4 (And.intro @idxAE_l4 (And.intro @iaddrAE_p5 (And.intro @idxAE_l5 (And.intro @iaddrAE_p6 (And.intro @idxAE_l6 (And.intro @iaddrAE_p7 (And.intro @idxAE_l7 (And.intro @elems_nil (And.intro @elems_sl (And.intro @w_elems_ref (And.intro @elemsO_row (And.intro @callvE_fn (And.intro @callvE_bnd (And.intro @callR_some (And.intro @retE_some (And.intro @backE_nil (And.intro @elemM_int (And.intro @elemM_bool (And.intro @elemM_nilS (And.intro @elemM_sl (And.intro @elemM_ref (And.intro @elemM_agg (And.intro @deep_eq (And.intro @frz_int (And.intro @frz_bool (And.intro @frz_str (And.intro @frz_nilS (And.intro @frz_nilF (And.intro @frz_nilP (And.intro @frz_nilI (And.intro @frz_undef (And.intro @frz_sl (And.intro @frz_box (And.intro @frz_fn (And.intro @frz_bnd (And.intro @frz_agg (And.intro @frz_tup (And.intro @frz_ptr (And.intro @rch_int (And.intro @rch_bool (And.intro @rch_str (And.intro @rch_nilS (And.intro @rch_nilF (And.intro @rch_nilP (And.intro @rch_nilI (And.intro @rch_undef (And.intro @rch_sl (And.intro @rch_box (And.intro @rch_fn (And.intro @rch_bnd (And.intro @rch_agg (And.intro @rch_tup (And.intro @rch_ptr (@bk_int)))))))))))))))))))))))))))))))))))))))))))))))))))))))))))))))))))))))))))))))
def wQ3 := And.intro @bk_bool (And.intro @bk_str (And.intro @thaw_int (And.intro @thaw_bool (And.intro @thaw_str (And.intro @thaw_nilS (And.intro @thaw_sl (And.intro @thaw_own (And.intro @thaw_agg (And.intro @thaw_tup (And.intro @thawL_nil (And.intro @thawL_cons (And.intro @bin_add (And.intro @bin_sub (And.intro @bin_mul (And.intro @bin_eql (And.intro @bin_neq (And.intro @bin_lss (And.intro @bin_leq (And.intro @bin_gtr (And.intro @bin_geq (And.intro @un_not (And.intro @upd_get (And.intro @empty_get (And.intro @envOf_0 (And.intro @envOf_1 (And.intro @envOf_2 (And.intro @envOf_3 (And.intro @envOf_4 (And.intro @envOf_5 (And.intro @one_int (And.intro @one_bool (And.intro @one_str (And.intro @one_nilS (And.intro @one_nilF (And.intro @one_nilP (And.intro @one_nilI (And.intro @one_sl (And.intro @one_ref (And.intro @one_ptr (And.intro @one_box (And.intro @one_fn (And.intro @one_bnd (And.intro @one_nilM (And.intro @one_mp (And.intro @one_it (And.intro @one_iface (And.intro @cl_agg (And.intro @cl_int (And.intro @cl_bool (And.intro @cl_str (And.intro @cl_nilS (And.intro @cl_nilF (And.intro @cl_nilP (And.intro @cl_nilI (And.intro @cl_sl (And.intro @cl_ref (And.intro @cl_ptr (And.intro @cl_box (And.intro @cl_fn (And.intro @cl_bnd (And.intro @cl_nilM (And.intro @cl_mp (And.intro @cl_it (And.intro @cl_iface (And.intro @one_slV (And.intro @cl_slV (And.intro @frz_slV (And.intro @rch_slV (And.intro @thaw_slV (And.intro @lenE_slV (And.intro @iaddrE_slV (And.intro @iaddrE_slV0 (And.intro @elems_slV (And.intro @eqNE_slV (@sliceE_slV)))))))))))))))))))))))))))))))))))))))))))))))))))))))))))))))))))))))))))
def wR := And.intro @List.take_length.{0} (And.intro @Nat.zero_add (And.intro @Nat.add_zero (And.intro @Nat.mul_zero (And.intro @Nat.le_refl (And.intro @Nat.zero_le (And.intro @Nat.one_ne_zero (And.intro @Nat.zero_ne_one (And.intro @List.map_cons.{0,0} (And.intro @List.map_nil.{0,0} (And.intro @List.mapM_cons.{0,0,0} (And.intro @List.mapM_nil.{0,0,0} (And.intro @List.flatMap_cons.{0,0} (And.intro @List.flatMap_nil.{0,0} (And.intro @List.append_nil.{0} (And.intro @List.nil_append.{0} (And.intro @List.cons_append.{0} (And.intro @List.drop_zero.{0} (And.intro @List.drop_succ_cons.{0} (And.intro @List.take_zero.{0} (And.intro @List.take_succ_cons.{0} (And.intro @List.take_nil.{0} (And.intro @List.drop_nil.{0} (And.intro @List.length_cons.{0} (And.intro @List.length_nil.{0} (And.intro @List.getElem?_cons_zero.{0} (And.intro @List.getElem?_cons_succ.{0} (And.intro @List.getElem?_nil.{0} (And.intro @List.set_cons_zero.{0} (And.intro @List.set_cons_succ.{0} (And.intro @List.all_cons.{0} (And.intro @List.all_nil.{0} (And.intro @Option.bind_some.{0,0} (And.intro @Option.bind_none.{0,0} (And.intro @Option.map_some.{0,0} (And.intro @Option.map_none.{0,0} (And.intro @Option.pure_def.{0} (And.intro @Option.bind_eq_bind.{0} (And.intro @Bool.and_true (And.intro @Bool.true_and (And.intro @Bool.and_self (And.intro @Bool.or_false (And.intro @Bool.false_or (And.intro @Bool.and_false (And.intro @Bool.false_and (And.intro @Bool.or_true (And.intro @Bool.true_or (And.intro @Bool.not_true (And.intro @Bool.not_false (And.intro @Bool.not_not (And.intro @decide_true (And.intro @decide_false (And.intro @and_self (And.intro @and_true (And.intro @true_and (And.intro @beq_self_eq_true.{0} (And.intro @beq_true (And.intro @beq_false (And.intro @bne_self_eq_false.{0} (And.intro @Bool.false_eq_true (And.intro @Nat.zero_lt_succ (And.intro @Nat.zero_lt_one (And.intro @Nat.add_assoc (And.intro @Nat.left_eq_add (@Nat.add_eq_left))))))))))))))))))))))))))))))))))))))))))))))))))))))))))))))))
end Go.Q
end

section
/- The rules in one bundle. -/
namespace Go.Q
def wS := And.intro wQ (And.intro wQ1 (And.intro wQ2 (And.intro wQ3 (And.intro wR (And.intro @boxE.eq_1 (And.intro @partsOf.eq_1 @partsOf.eq_2))))))
end Go.Q
end

section
/- Functions whose work is known without their code's rules. -/
namespace Go.Q
def tzP : Prim
 | [.int .u64 x], σ, n, _ => if 0 ≤ x ∧ x < 18446744073709551616 then some (.int .i64 (Lib.ctz 64 x.toNat : Int), σ, n) else none
 | _, _, _, _ => none
end Go.Q
end

section
/- What is frozen stays as it is where nothing that it reaches is touched. -/
namespace Go.Q
theorem mapM_congr {f g : V → Option V} : ∀ {cs : List V}, (∀ c ∈ cs, f c = g c) → cs.mapM f = cs.mapM g
 | [], _ => rfl
 | c :: cs, h => by
   rw [List.mapM_cons, List.mapM_cons, h c (by simp), mapM_congr (fun d hd => h d (List.mem_cons_of_mem _ hd))]
theorem flatMap_congr' {f g : V → List Nat} : ∀ {cs : List V}, (∀ c ∈ cs, f c = g c) → cs.flatMap f = cs.flatMap g
 | [], _ => rfl
 | c :: cs, h => by
   rw [List.flatMap_cons, List.flatMap_cons, h c (by simp), flatMap_congr' (fun d hd => h d (List.mem_cons_of_mem _ hd))]
theorem elemM_loc {f g : V → Option V} {x : V} (h : ∀ c ∈ x.cells, f c = g c) : elemM f x = elemM g x := by
 unfold elemM
 split
 ·rename_i cs
  rw [mapM_congr (f := f) (g := g) (cs := cs) (fun c hc => h c hc)]
 ·rename_i h'
  refine h x ?_
  cases x
  case agg cs => exact absurd rfl (h' cs)
  all_goals exact List.mem_singleton.2 rfl
theorem frz_loc {σ σ' : Sto} : ∀ (k : Nat) (v : V), (∀ id ∈ rch σ k v, σ' id = σ id) → frz σ' k v = frz σ k v ∧ rch σ' k v = rch σ k v
 | 0, _, _ => ⟨rfl, rfl⟩
 | k + 1, v, h => by
   cases v
   case agg cs =>
    simp only [rch, List.mem_flatMap] at h
    have h1 := fun c hc => frz_loc k c (fun id hid => h id ⟨c, hc, hid⟩)
    simp only [frz, rch]
    rw [mapM_congr (fun c hc => (h1 c hc).1), flatMap_congr' (fun c hc => (h1 c hc).2)]
    exact ⟨rfl, rfl⟩
   case tup cs =>
    simp only [rch, List.mem_flatMap] at h
    have h1 := fun c hc => frz_loc k c (fun id hid => h id ⟨c, hc, hid⟩)
    simp only [frz, rch]
    rw [mapM_congr (fun c hc => (h1 c hc).1), flatMap_congr' (fun c hc => (h1 c hc).2)]
    exact ⟨rfl, rfl⟩
   case fn f cs =>
    simp only [rch, List.mem_flatMap] at h
    have h1 := fun c hc => frz_loc k c (fun id hid => h id ⟨c, hc, hid⟩)
    simp only [frz, rch]
    rw [mapM_congr (fun c hc => (h1 c hc).1), flatMap_congr' (fun c hc => (h1 c hc).2)]
    exact ⟨rfl, rfl⟩
   case bnd f cs =>
    simp only [rch, List.mem_flatMap] at h
    have h1 := fun c hc => frz_loc k c (fun id hid => h id ⟨c, hc, hid⟩)
    simp only [frz, rch]
    rw [mapM_congr (fun c hc => (h1 c hc).1), flatMap_congr' (fun c hc => (h1 c hc).2)]
    exact ⟨rfl, rfl⟩
   case iface t v =>
    simp only [rch] at h
    have h1 := frz_loc k v h
    simp only [frz, rch, h1.1, h1.2]
    exact ⟨trivial, trivial⟩
   case ref id off len sz =>
    simp only [frz_rf, rch_rf] at h ⊢
    rw [h id (by simp)]
    cases he : elemsO (σ id) sz off len with
    | none => exact ⟨rfl, rfl⟩
    | some xs =>
      simp only [he, Option.getD_some, List.mem_cons, List.mem_flatMap] at h
      have h1 := fun x hx c hc => frz_loc k c (fun i hid => h i (.inr ⟨x, hx, c, hc, hid⟩))
      simp only [Option.bind_some, Option.getD_some]
      constructor
      ·rw [mapM_congr (fun x hx => elemM_loc (fun c hc => (h1 x hx c hc).1))]
      ·congr 1
       exact flatMap_congr' fun x hx => flatMap_congr' fun c hc => (h1 x hx c hc).2
   case ptr id sz i j =>
    simp only [frz_ptr, rch_ptr] at h ⊢
    rw [h id (by simp)]
    cases he : rowO (σ id) sz i with
    | none => exact ⟨rfl, rfl⟩
    | some e =>
      simp only [he, Option.map_some, Option.getD_some, List.mem_cons, List.mem_flatMap] at h
      have h1 := fun c hc => frz_loc k c (fun i hid => h i (.inr ⟨c, hc, hid⟩))
      simp only [Option.bind_some, Option.map_some, Option.getD_some]
      constructor
      ·rw [mapM_congr (fun c hc => (h1 c hc).1)]
      ·congr 1
       exact flatMap_congr' fun c hc => (h1 c hc).2
   all_goals exact ⟨rfl, rfl⟩
def Fz (σ : Sto) (k : Nat) (v t : V) (S : Nat → Prop) : Prop := frz σ k v = some t ∧ ∀ id ∈ rch σ k v, S id
def FzE (σ : Sto) (k : Nat) (v t : V) (S : Nat → Prop) : Prop := elemM (frz σ k) v = some t ∧ ∀ c ∈ v.cells, ∀ id ∈ rch σ k c, S id
def FzL (σ : Sto) (k : Nat) (xs ts : List V) (S : Nat → Prop) : Prop := xs.mapM (elemM (frz σ k)) = some ts ∧ ∀ x ∈ xs, ∀ c ∈ x.cells, ∀ id ∈ rch σ k c, S id
section
variable {σ σ' : Sto} {k : Nat} {v t : V} {S S' : Nat → Prop} {xs ts ys us : List V}
theorem Fz.loc (h : Fz σ k v t S) (hs : ∀ id, S id → σ' id = σ id) (hS : ∀ id, S id → S' id) : Fz σ' k v t S' := by
 have h1 := frz_loc (σ := σ) (σ' := σ') k v (fun id hid => hs id (h.2 id hid))
 exact ⟨h1.1.trans h.1, fun id hid => hS id (h.2 id (by rw [← h1.2]; exact hid))⟩
theorem FzE.loc (h : FzE σ k v t S) (hs : ∀ id, S id → σ' id = σ id) (hS : ∀ id, S id → S' id) : FzE σ' k v t S' := by
 have h1 := fun c hc => frz_loc (σ := σ) (σ' := σ') k c (fun id hid => hs id (h.2 c hc id hid))
 exact ⟨(elemM_loc (fun c hc => (h1 c hc).1)).trans h.1, fun c hc id hid => hS id (h.2 c hc id (by rw [← (h1 c hc).2]; exact hid))⟩
theorem FzL.loc (h : FzL σ k xs ts S) (hs : ∀ id, S id → σ' id = σ id) (hS : ∀ id, S id → S' id) : FzL σ' k xs ts S' := by
 have h1 := fun x hx c hc => frz_loc (σ := σ) (σ' := σ') k c (fun id hid => hs id (h.2 x hx c hc id hid))
 exact ⟨(mapM_congr (fun x hx => elemM_loc (fun c hc => (h1 x hx c hc).1))).trans h.1, fun x hx c hc id hid => hS id (h.2 x hx c hc id (by rw [← (h1 x hx c hc).2]; exact hid))⟩
theorem FzL.nil : FzL σ k [] [] S := ⟨rfl, fun x hx => by simp at hx⟩
theorem FzL.append (h : FzL σ k xs ts S) (h' : FzL σ k ys us S) : FzL σ k (xs ++ ys) (ts ++ us) S := by
 refine ⟨?_, fun x hx => ?_⟩
 ·rw [List.mapM_append, h.1, h'.1]; rfl
 ·rcases List.mem_append.1 hx with hx | hx
  ·exact h.2 x hx
  ·exact h'.2 x hx
theorem FzL.one (h : FzE σ k v t S) : FzL σ k [v] [t] S := by
 refine ⟨?_, fun x hx => ?_⟩
 ·rw [List.mapM_cons, h.1]; rfl
 ·rw [List.mem_singleton.1 hx]; exact h.2
theorem FzL.trees (h : ∀ x ∈ xs, Tr k x = true) (h' : ∀ x ∈ xs, ∀ c ∈ x.cells, Tr k c = true) : FzL σ k xs xs S :=
 ⟨mapM_id (fun x hx => elemM_tr (h x hx)), fun x hx c hc id hid => by rw [(frz_tr σ k c (h' x hx c hc)).2] at hid; simp at hid⟩
theorem Fz.tree (h : Tr k v = true) : Fz σ k v v S := ⟨(frz_tr σ k v h).1, fun id hid => by rw [(frz_tr σ k v h).2] at hid; simp at hid⟩
theorem Fz.ref {id sz : Nat} (h : σ id = some (.row sz xs)) (hS : S id) (h' : FzL σ k xs ts S) : Fz σ (k + 1) (.ref id 0 xs.length sz) (.sl sz ts) S := by
 refine ⟨?_, fun i hi => ?_⟩
 ·rw [frz_rf, h, elemsO_all, Option.bind_some, h'.1]; rfl
 ·rw [rch_rf, h, elemsO_all, Option.getD_some, List.mem_cons, List.mem_flatMap] at hi
  rcases hi with rfl | ⟨x, hx, hi⟩
  ·exact hS
  ·obtain ⟨c, hc, hi⟩ := List.mem_flatMap.1 hi
   exact h'.2 x hx c hc i hi
theorem FzE.agg {cs ds : List V} (h : cs.mapM (frz σ k) = some ds) (h' : ∀ c ∈ cs, ∀ id ∈ rch σ k c, S id) : FzE σ k (.agg cs) (.agg ds) S := ⟨by simp [elemM, h], h'⟩
end
def appO {α : Type} : Option (List α) → List α → Option (List α)
 | none, [] => none
 | none, us => some us
 | some ts, us => some (ts ++ us)
theorem slV_map {β : Type} (sz : Nat) (f : β → V) (o : Option (List β)) : slV sz id (o.map (List.map f)) = slV sz f o := by cases o <;> simp [slV]
def Bld (σ : Sto) (n sz : Nat) (v : V) (o : Option (List V)) : Prop := match o with
 | none => v = .nilS
 | some ts => ∃ i xs, v = .ref i 0 xs.length sz ∧ σ i = some (.row sz xs) ∧ i < n ∧ FzL σ 11 xs ts (fun j => j < n ∧ j ≠ i)
theorem FzL.length {σ : Sto} {k : Nat} {xs ts : List V} {S : Nat → Prop} (h : FzL σ k xs ts S) : ts.length = xs.length := by
 have h1 := h.1
 clear h
 induction xs generalizing ts with
 | nil => cases h1; rfl
 | cons x xs ih =>
   rw [List.mapM_cons] at h1
   cases hx : elemM (frz σ k) x with
   | none => rw [hx] at h1; simp at h1
   | some t =>
     cases hr : xs.mapM (elemM (frz σ k)) with
     | none => rw [hx, hr] at h1; simp at h1
     | some r =>
       rw [hx, hr] at h1
       simp only [Option.bind_eq_bind, Option.bind_some, Option.pure_def, Option.some.injEq] at h1
       subst h1
       simp [ih hr]
section
variable {σ σ' : Sto} {n n' n0 sz : Nat} {v : V} {o : Option (List V)}
theorem Bld.frz (h : Bld σ n sz v o) : frz σ 12 v = some (slV sz id o) := by
 cases o with
 | none => simp only [Bld] at h; subst h; rfl
 | some ts =>
   obtain ⟨i, xs, rfl, h1, h2, h3⟩ := h
   have := Fz.ref (S := fun _ => True) h1 trivial (h3.loc (fun _ _ => rfl) (fun _ _ => trivial))
   simpa [slV] using this.1
theorem Bld.rch (h : Bld σ n sz v o) : ∀ i ∈ rch σ 12 v, i < n := by
 cases o with
 | none => simp only [Bld] at h; subst h; intro i hi; simp [Go.Q.rch] at hi
 | some ts =>
   obtain ⟨i, xs, rfl, h1, h2, h3⟩ := h
   exact (Fz.ref (S := fun j => j < n) h1 h2 (h3.loc (fun _ _ => rfl) (fun _ h => h.1))).2
theorem Bld.loc (h : Bld σ n sz v o) (hs : ∀ i, i < n → σ' i = σ i) (hn : n ≤ n') : Bld σ' n' sz v o := by
 cases o with
 | none => exact h
 | some ts =>
   obtain ⟨i, xs, rfl, h1, h2, h3⟩ := h
   exact ⟨i, xs, rfl, by rw [hs i h2, h1], by omega, h3.loc (fun j hj => hs j hj.1) (fun j hj => ⟨by omega, hj.2⟩)⟩
theorem Bld.lenE (h : Bld σ n sz v o) : lenE v = some (.int .i64 ((lst o).length : Int)) := by
 cases o with
 | none => simp only [Bld] at h; subst h; rfl
 | some ts =>
   obtain ⟨i, xs, rfl, h1, h2, h3⟩ := h
   rw [lenE_ref, lst_some, h3.length]
theorem Bld.append (h : Bld σ n0 sz v o) (hn : n0 ≤ n) {bytes : Nat} {ys us : List V} (hy : FzL σ 11 ys us (fun j => n0 ≤ j ∧ j < n)) (hl : ((lst o).length + us.length) * bytes ≤ LIM) :
 ∃ v' σ' n', appendE sz bytes 0 v (some ys) σ n = some (v', σ', n') ∧ Bld σ' n' sz v' (appO o us) ∧ n ≤ n' ∧ (∀ i, i < n → (∀ off len s, v ≠ .ref i off len s) → σ' i = σ i) := by
 have hlen := hy.length
 cases o with
 | none =>
   simp only [Bld] at h
   subst h
   rw [appendE_nil]
   cases ys with
   | nil =>
     have : us = [] := by simpa using hlen
     subst this
     exact ⟨_, _, _, rfl, rfl, Nat.le_refl _, fun _ _ _ => rfl⟩
   | cons y ys =>
     simp only [lst_none, List.length_nil, Nat.zero_add] at hl
     rw [hlen] at hl
     simp only [List.isEmpty_cons, Bool.false_eq_true, if_false, hl, if_true]
     refine ⟨_, _, _, rfl, ?_, by omega, fun i hi _ => by simp [upd]; omega⟩
     have ho : appO none us = some us := by
      cases us with
      | nil => simp at hlen
      | cons u us => rfl
     rw [ho]
     exact ⟨n, y :: ys, rfl, by simp [upd], by omega, hy.loc (fun j hj => by simp [upd]; omega) (fun j hj => ⟨by omega, by omega⟩)⟩
 | some ts =>
   obtain ⟨i, xs, rfl, h1, h2, h3⟩ := h
   have hx := h3.length
   simp only [lst_some, hx, hlen] at hl
   rw [appendE_ref, h1, appE_row', if_pos ⟨.inl rfl, by omega, hl⟩, if_pos rfl]
   refine ⟨_, _, _, rfl, ?_, by omega, fun j hj hv => ?_⟩
   ·simp only [appO]
    have e1 : xs.length + ys.length = (xs ++ ys).length := by simp
    rw [e1]
    refine ⟨n, xs ++ ys, rfl, by simp [upd], by omega, ?_⟩
    refine FzL.append (h3.loc (fun j hj => ?_) (fun j hj => ⟨by omega, by omega⟩)) (hy.loc (fun j hj => ?_) (fun j hj => ⟨by omega, by omega⟩))
    ·have a1 : j ≠ n := by omega
     simp [upd, a1, hj.2]
    ·have a1 : j ≠ n := by omega
     have a2 : j ≠ i := by omega
     simp [upd, a1, a2]
   ·have a1 : j ≠ n := by omega
    have a2 : j ≠ i := fun h => hv 0 xs.length sz (by rw [h])
    simp [upd, a1, a2]
end
def Rw (σ : Sto) (n sz : Nat) (v : V) (xs : List V) : Prop := ∃ i, v = .ref i 0 xs.length sz ∧ σ i = some (.row sz xs) ∧ i < n
section
variable {σ σ' σ0 : Sto} {n n' n0 sz : Nat} {v : V} {xs ys : List V}
theorem Rw.loc (h : Rw σ n sz v xs) (hs : ∀ i, i < n → σ' i = σ i) (hn : n ≤ n') : Rw σ' n' sz v xs := by
 obtain ⟨i, rfl, h1, h2⟩ := h
 exact ⟨i, rfl, by rw [hs i h2, h1], by omega⟩
theorem Rw.append (h : Rw σ n0 sz v xs) (hn : n0 ≤ n) {bytes : Nat} (hl : (xs.length + ys.length) * bytes ≤ LIM) :
 ∃ v' σ' n', appendE sz bytes 0 v (some ys) σ n = some (v', σ', n') ∧ Rw σ' n' sz v' (xs ++ ys) ∧ n ≤ n' ∧ (∀ i, i < n → (∀ off len s, v ≠ .ref i off len s) → σ' i = σ i) := by
 obtain ⟨i, rfl, h1, h2⟩ := h
 rw [appendE_ref, h1, appE_row', if_pos ⟨.inl rfl, by omega, hl⟩, if_pos rfl]
 refine ⟨_, _, _, rfl, ⟨n, by rw [List.length_append], by simp [upd], by omega⟩, by omega, fun j hj hv => ?_⟩
 have a1 : j ≠ n := by omega
 have a2 : j ≠ i := fun h => hv 0 xs.length sz (by rw [h])
 simp [upd, a1, a2]
theorem Rw.giv (h : Rw σ n sz v xs) (hg : ∀ x ∈ xs, Gv 11 x = true) (hc : ∀ x ∈ xs, ∀ cs, x ≠ .agg cs) : giv σ 12 v = some (.own sz xs) ∧ (gids σ 12 v).Nodup := by
 obtain ⟨i, rfl, h1, h2⟩ := h
 constructor
 ·simp only [Go.Q.giv, h1, and_self, if_true]
  rw [mapM_id (fun x hx => ?_)]
  ·rfl
  ·unfold elemM
   split
   ·rename_i cs; exact absurd rfl (hc _ hx cs)
   ·exact (giv_tr σ 11 x (hg x hx)).1
 ·simp only [gids, h1]
  have : (xs.flatMap fun x => x.cells.flatMap (gids σ 11)) = [] := by
   refine List.flatMap_eq_nil_iff.2 fun x hx => List.flatMap_eq_nil_iff.2 fun c hcx => ?_
   have : c = x := by
    cases x
    case agg cs => exact absurd rfl (hc _ hx cs)
    all_goals exact List.mem_singleton.1 hcx
   subst this
   exact (giv_tr σ 11 c (hg c hx)).2
  rw [this]; simp
theorem Rw.frz (h : Rw σ n sz v xs) (ht : ∀ x ∈ xs, Tr 11 x = true) (ht' : ∀ x ∈ xs, ∀ c ∈ x.cells, Tr 11 c = true) : frz σ 12 v = some (.sl sz xs) := by
 obtain ⟨i, rfl, h1, h2⟩ := h
 exact (Fz.ref (S := fun _ => True) h1 trivial (FzL.trees ht ht')).1
end
def Pl (σ : Sto) (m n sz : Nat) (v : V) (o : Option (List V)) : Prop := match o with
 | none => v = .nilS
 | some xs => ∃ i, v = .ref i 0 xs.length sz ∧ σ i = some (.row sz xs) ∧ m ≤ i ∧ i < n
section
variable {σ σ' σ0 : Sto} {m n n' n0 sz : Nat} {v : V} {o : Option (List V)} {ys : List V}
theorem Pl.loc (h : Pl σ m n sz v o) (hs : ∀ i, m ≤ i → i < n → σ' i = σ i) (hn : n ≤ n') : Pl σ' m n' sz v o := by
 cases o with
 | none => exact h
 | some xs =>
   obtain ⟨i, rfl, h1, h2, h3⟩ := h
   exact ⟨i, rfl, by rw [hs i h2 h3, h1], h2, by omega⟩
theorem Pl.append (h : Pl σ m n0 sz v o) (hn : n0 ≤ n) (hm : m ≤ n) {bytes lk : Nat} (hlk : lk ≤ m) (hl : ((lst o).length + ys.length) * bytes ≤ LIM) :
 ∃ v' σ' n', appendE sz bytes lk v (some ys) σ n = some (v', σ', n') ∧ Pl σ' m n' sz v' (appO o ys) ∧ n ≤ n' ∧ (∀ i, i < m → σ' i = σ i) := by
 cases o with
 | none =>
   simp only [Pl] at h
   subst h
   rw [appendE_nil]
   cases ys with
   | nil => exact ⟨_, _, _, rfl, rfl, Nat.le_refl _, fun _ _ => rfl⟩
   | cons y ys =>
     simp only [lst_none, List.length_nil, Nat.zero_add] at hl
     simp only [List.isEmpty_cons, Bool.false_eq_true, if_false, hl, if_true]
     exact ⟨_, _, _, rfl, ⟨n, rfl, by simp [upd], hm, by omega⟩, by omega, fun i hi => by simp [upd]; omega⟩
 | some xs =>
   obtain ⟨i, rfl, h1, h2, h3⟩ := h
   simp only [lst_some] at hl
   rw [appendE_ref, h1, appE_row', if_pos ⟨.inl rfl, by omega, hl⟩, if_pos rfl]
   refine ⟨_, _, _, rfl, ⟨n, by rw [List.length_append], by simp [upd], hm, by omega⟩, by omega, fun j hj => ?_⟩
   have a1 : j ≠ n := by omega
   have a2 : j ≠ i := by omega
   simp [upd, a1, a2]
theorem Pl.frz (h : Pl σ m n sz v o) (ht : ∀ x ∈ lst o, Tr 11 x = true) (ht' : ∀ x ∈ lst o, ∀ c ∈ x.cells, Tr 11 c = true) : frz σ 12 v = some (slV sz id o) := by
 cases o with
 | none => simp only [Pl] at h; subst h; rfl
 | some xs =>
   obtain ⟨i, rfl, h1, h2, h3⟩ := h
   have := (Fz.ref (S := fun _ => True) h1 trivial (FzL.trees ht ht')).1
   simpa [slV] using this
end
theorem giv_row {σ : Sto} {id sz : Nat} {xs : List V} (h : σ id = some (.row sz xs)) (hg : ∀ x ∈ xs, elemM (giv σ 11) x = some x) (hg' : ∀ x ∈ xs, ∀ c ∈ x.cells, gids σ 11 c = []) :
 giv σ 12 (.ref id 0 xs.length sz) = some (.own sz xs) ∧ (gids σ 12 (.ref id 0 xs.length sz)).Nodup := by
 constructor
 ·simp only [giv, h, and_self, if_true]
  rw [mapM_id hg]; rfl
 ·simp only [gids, h]
  rw [List.flatMap_eq_nil_iff.2 fun x hx => List.flatMap_eq_nil_iff.2 fun c hc => hg' x hx c hc]
  simp
theorem WC_rangeF {T : Tab} {g : Opd} {ps : List Nat} {assign body : AC} {env : Nat → V} {σ : Sto} {n lk : Nat} {Q : Ex → St → Prop} {f : Nat} {caps : List V} (hg : vl env g = .fn f caps) (hn : lk ≤ n)
 (h : run T (.raw f (.yld n :: caps) (upd σ n (some (.loop env ps assign body .ready none))) (n + 1) lk) (memQ fun _ σ' n' => ∃ env' ps' a' b' st pend, σ' n = some (.loop env' ps' a' b' st pend) ∧ st ≠ .busy ∧
  Q (pend.getD .normal) ⟨env, upd σ' n none, n', lk⟩)) : WC T (.rangeF g ps assign body) env σ n lk Q := by
 show wpC T (run T) _ _ _
 simp only [wpC, rangeW, st_val, hg]
 refine ⟨hn, run_mono _ _ _ (fun o ho => ?_) h⟩
 cases o <;> try exact ho.elim
 obtain ⟨env', ps', a', b', st, pend, h1, h2, h3⟩ := ho
 simp only [h1]
 exact ⟨h2, h3⟩
theorem yieldW_go {T : Tab} {l : Nat} {args : List V} {σ : Sto} {n lk : Nat} {Q : V → Sto → Nat → Prop} {env : Nat → V} {ps : List Nat} {assign body : AC} {pend : Option Ex}
 (hl : σ l = some (.loop env ps assign body .ready pend)) (ha : args.length = ps.length) (hlk : lk ≤ l)
 (h : WC T assign (bindPs env ps args) σ n lk fun ex s => ex = .normal ∧ s.σ l = some (.loop env ps assign body .ready pend) ∧ s.lk = lk ∧
  WC T body s.env (upd s.σ l (some (.loop env ps assign body .busy pend))) s.n lk fun ex s' => ex = .normal ∧ s'.σ l = some (.loop env ps assign body .busy pend) ∧
   Q (.bool true) (upd s'.σ l (some (.loop env ps assign body .ready none))) s'.n) (hd : assign.det = true ∧ body.det = true := by exact ⟨rfl, rfl⟩) : yieldW (run T) l args σ n lk Q := by
 unfold yieldW
 simp only [hl]
 refine ⟨ha, hlk, run_step hd ?_⟩
 simp only [jobW]
 refine wpC_mono (fun _ _ x => x) run_mono _ _ _ _ (fun e s ⟨h1, h2, h3, h4⟩ => ?_) (WC_ok _ _ _ _ _ _ h)
 obtain ⟨env1, σ1, n1, lk1⟩ := s
 simp only at h2 h3 h4
 subst h3
 refine ⟨h1, env, ps, assign, body, pend, h2, wpC_mono (fun _ _ x => x) run_mono _ _ _ _ (fun e2 s2 ⟨k1, k2, k3⟩ => ?_) (WC_ok _ _ _ _ _ _ h4)⟩
 subst k1
 exact ⟨⟨env, ps, assign, body, pend, k2⟩, env, ps, assign, body, pend, k2, by simpa using k3⟩
theorem bind_cons (env : Nat → V) (p : Nat) (ps : List Nat) (x : V) (xs : List V) : bindPs env (p :: ps) (x :: xs) = bindPs (pt env p x) ps xs := rfl
theorem bind_nil (env : Nat → V) : bindPs env [] [] = env := rfl
section
variable {σ σ0 : Sto} {m n n0 sz : Nat} {v : V} {o : Option (List V)} {ys : List V}
theorem Pl.cells (h : Pl σ m n sz v o) : v.cells = [v] := by
 cases o with
 | none => simp only [Pl] at h; subst h; rfl
 | some xs => obtain ⟨i, rfl, -⟩ := h; rfl
theorem Pl.one (h : Pl σ m n sz v o) : v.one = true := by
 cases o with
 | none => simp only [Pl] at h; subst h; rfl
 | some xs => obtain ⟨i, rfl, -⟩ := h; rfl
end
theorem Pl.frzk {σ : Sto} {m n sz : Nat} {v : V} {o : Option (List V)} (h : Pl σ m n sz v o) (k : Nat) (ht : ∀ x ∈ lst o, Tr k x = true) (ht' : ∀ x ∈ lst o, ∀ c ∈ x.cells, Tr k c = true) : Go.Q.frz σ (k + 1) v = some (slV sz id o) := by
 cases o with
 | none => simp only [Pl] at h; subst h; rfl
 | some xs =>
   obtain ⟨i, rfl, h1, h2, h3⟩ := h
   have := (Fz.ref (S := fun _ => True) h1 trivial (FzL.trees ht ht')).1
   simpa [slV] using this
theorem callE_thaw {T : Tab} {f : Nat} {args : List V} {r : V} (hm : T.mode f ≠ .raw) (hr : res T f args = some r) (ht : args.all (Tr 12) = true) (fs : Bool) (σ : Sto) (n lk : Nat) :
 callE T fs f args σ n lk = some (thaw σ n r) := by
 rw [callE_eq hm]
 rw [List.all_eq_true] at ht
 rw [mapM_id (fun c hc => (frz_tr σ 12 c (ht c hc)).1), callR_some, hr, retE_some]
 have : args.flatMap (rch σ 12) = [] := List.flatMap_eq_nil_iff.2 fun c hc => (frz_tr σ 12 c (ht c hc)).2
 rw [this, backE_nil]
section
variable {σ σ0 : Sto} {m n n0 sz : Nat} {v : V} {o : Option (List V)} {y : V}
theorem stepW_app1 {T : Tab} (h : Pl σ0 m n0 sz v o) (hs : ∀ i, m ≤ i → i < n0 → σ i = σ0 i) (hn : n0 ≤ n) (hm : m ≤ n) {bytes lk' : Nat} (hlk : lk' ≤ m) (hl : ((lst o).length + 1) * bytes ≤ LIM)
 {d : Option Nat} {ops : List AOp} {env : Nat → V} {lk : Nat} {Q : St → Prop}
 (hnext : ∀ (i : Nat) (σ' : Sto), Pl σ' m (n + 1) sz (.ref n 0 ((lst o).length + 1) sz) (some (lst o ++ [y])) → (∀ i, i < n → (∀ off len s, v ≠ .ref i off len s) → σ' i = σ i) → WR T ops (ptO env d (.ref n 0 ((lst o).length + 1) sz)) σ' (n + 1) lk Q) :
 stepW T (appendE sz bytes lk' v (some [y]) σ n) d ops env lk Q := by
 have h := h.loc hs (Nat.le_refl _)
 cases o with
 | none =>
   simp only [Pl] at h
   subst h
   simp only [lst_none, List.length_nil, Nat.zero_add] at hl hnext
   rw [appendE_nil]
   simp only [List.isEmpty_cons, Bool.false_eq_true, if_false, List.length_cons, List.length_nil, Nat.zero_add, hl, if_true, stepW_some]
   exact hnext 0 _ ⟨n, rfl, by simp [upd], hm, by omega⟩ (fun i hi _ => by simp only [upd]; rw [if_neg (by omega)])
 | some xs =>
   obtain ⟨i, rfl, h1, h2, h3⟩ := h
   simp only [lst_some] at hl hnext
   rw [appendE_ref, h1, appE_row', if_pos ⟨.inl rfl, by omega, by simpa using hl⟩, if_pos rfl, stepW_some]
   refine hnext 0 _ ⟨n, by simp, by simp [upd], hm, by omega⟩ (fun j hj hv => ?_)
   have a1 : j ≠ n := by omega
   have a2 : j ≠ i := fun h => hv 0 xs.length sz (by rw [h])
   simp [upd, a1, a2]
end
section
variable {T : Tab}
theorem res_pure {f : Nat} {args : List V} {R : V → Prop} {fn : Fn} (hf : T.fn f = some fn) (hl : args.length = fn.np) (hm : T.mode f = .pure)
 (h : WC T fn.body (envOf args) Sto.empty 0 0 (endQ fn.res fun σ v => ∃ r, frz σ DEEP v = some r ∧ R r)) (hd : fn.body.det = true := by rfl) : ∃ r, res T f args = some r ∧ R r := by
 have hh : run T (.pure f args) (fun o => ∃ r, o = .val r ∧ R r) := by
  refine run_step (fun fn' e => by rw [hf] at e; cases e; exact hd) ?_
  simp only [jobW]
  refine ⟨fn, hf, hl, (by rw [hm]; decide), wpC_mono (fun _ _ x => x) run_mono _ _ _ _ (fun e s hh => ?_) (WC_ok _ _ _ _ _ _ h)⟩
  obtain ⟨h1, v, h2, r, h3, h4⟩ := hh
  exact ⟨h1, v, h2, r, by rw [hm]; exact h3, r, rfl, h4⟩
 obtain ⟨o, ⟨r, rfl, hr⟩, h4⟩ := run_def _ _ hh
 exact ⟨r, run_res h4, hr⟩
end
section
variable {T : Tab}
def exQ (b lk : Nat) (E : (Nat → V) → Sto → Nat → Prop) : Ex → St → Prop
 | .exit i, s => i = b ∧ s.lk = lk ∧ E s.env s.σ s.n
 | _, _ => False
theorem exQ_exit (b lk : Nat) (E : (Nat → V) → Sto → Nat → Prop) (i : Nat) (env : Nat → V) (σ : Sto) (n lk' : Nat) : exQ b lk E (.exit i) ⟨env, σ, n, lk'⟩ = (i = b ∧ lk' = lk ∧ E env σ n) := rfl
theorem WC_loopE {α : Type} {c : AC} {Q : Ex → St → Prop} (b lk : Nat) (I : α → (Nat → V) → Sto → Nat → Prop) (m : α → Nat) (E : (Nat → V) → Sto → Nat → Prop)
 (hI : ∀ a env σ n, I a env σ n → WC T c env σ n lk (lpQ (fun env' σ' n' lk' => lk' = lk ∧ ∃ a', m a' < m a ∧ I a' env' σ' n') (exQ b lk E)))
 (hE : ∀ env σ n, E env σ n → Q (.exit b) ⟨env, σ, n, lk⟩) (a : α) (env : Nat → V) (σ : Sto) (n : Nat) (h : I a env σ n) : WC T (.loop c) env σ n lk Q := by
 have h1 := WC_loopI (Q := exQ b lk E) lk I m hI a env σ n h
 refine wpC_mono (fun _ _ x => x) run_mono (.loop c) _ _ _ (fun e s hh => ?_) h1
 cases e with
 | exit i =>
   obtain ⟨env', σ', n', lk'⟩ := s
   obtain ⟨rfl, h2, h3⟩ := hh
   simp only at h2
   subst h2
   exact hE _ _ _ h3
 | _ => exact hh.elim
end
end Go.Q
end

section
/- The evaluator, run: for calls on closed values. -/
namespace Go.Q
section
variable (T : Tab) (rec : Job → Option Out)
def exCall (fs : Bool) (f : Nat) (args : List V) (σ : Sto) (n lk : Nat) : Option (V × Sto × Nat) :=
 match T.mode f with
 | .raw => if fs then match rec (.raw f args σ n lk) with
  | some (.mem v σ' n') => some (v, σ', n')
  | _ => none
  else none
 | _ => match args.mapM (frz σ DEEP) with
   | none => none
   | some ts => match rec (.pure f ts) with
     | some (.val r) =>
       if flat r then some (thaw (dropL σ []) n r)
       else if (fs || (args.flatMap (rch σ DEEP)).isEmpty) && (args.flatMap (rch σ DEEP)).all (fun id => decide (lk ≤ id)) then some (thaw (dropL σ (args.flatMap (rch σ DEEP))) n r) else none
     | _ => none
def exYield (l : Nat) (args : List V) (σ : Sto) (n lk : Nat) : Option (V × Sto × Nat) :=
 match σ l with
 | some (.loop env ps assign body .ready pend) =>
   if args.length = ps.length ∧ lk ≤ l then match rec (.round l (bindPs env ps args) assign body σ n lk) with
    | some (.fin ex σ' n') => match σ' l with
      | some (.loop env2 ps2 a2 b2 .busy _) =>
        some (.bool (ex = .normal), upd σ' l (some (.loop env2 ps2 a2 b2 (if ex = .normal then .ready else .done) (if ex = .normal then none else some ex))), n')
      | _ => none
    | _ => none
   else none
 | _ => none
def exNext (it : V) (σ : Sto) (n lk : Nat) : Option (V × Sto × Nat) :=
 match it with
 | .it id => match σ id with
   | some (.iter m since seen last) => match σ m with
     | some (.map es clk) => if lk ≤ id ∧ (seen.isEmpty || es.isEmpty || es.any fun e => decide (e.2.2 < last)) = true then
      match es.filter fun e => decide (e.2.2 ∉ seen) with
      | [] => some (.tup [.bool false], σ, n)
      | [e] => if e.2.2 < since then some (.tup [.bool true, e.1, e.2.1], upd σ id (some (.iter m since (seen ++ [e.2.2]) clk)), n) else none
      | _ => none
      else none
     | _ => none
   | _ => none
 | _ => none
def exOp (fs : Bool) (ρ : Opd → V) (σ : Sto) (n lk : Nat) (ai : AI) : Option (V × Sto × Nat) :=
 match ai with
 | .call f args => exCall T rec fs f (args.map ρ) σ n lk
 | .callv g args => match ρ g with
   | .fn f caps => exCall T rec fs f (args.map ρ ++ caps) σ n lk
   | .bnd f bs => exCall T rec fs f (bs ++ args.map ρ) σ n lk
   | .yld l => if fs then exYield rec l (args.map ρ) σ n lk else none
   | _ => none
 | .inv x tbl args => if fs then (match invOf σ tbl (ρ x) with
   | some (f, r) => exCall T rec fs f (r :: args.map ρ) σ n lk
   | none => none) else none
 | .next it => if fs then exNext (ρ it) σ n lk else none
 | .prim f args => primE T f (args.map ρ) σ n lk
 | ai => ev ρ σ n lk ai
def exR : List AOp → St → Option St
 | [], s => some s
 | o :: ops, s => if wants o.guard s.env then match exOp T rec true s.val s.σ s.n s.lk o.op with
  | some (v, σ', n') => exR ops ({ s with σ := σ', n := n' }.put o.dst v)
  | none => none
  else exR ops (s.put o.dst .undef)
def exD (n0 : Nat) : List DOp → St → Option St
 | [], s => some s
 | d :: ds, s => if wants d.o.guard s.env then
  match exOp T rec false s.val (if d.pure then Sto.empty else if d.wr then s.σ else hide s.σ n0 (n0 + BIG * d.rank) d.hid) (n0 + BIG * d.rank) (if d.wr && !d.pure then s.lk else n0 + BIG * d.low.getD d.rank) d.o.op with
  | some (v, σ', n') => if n' ≤ n0 + BIG * d.rank + (if d.lays then BIG else 0) then
   exD n0 ds ({ s with σ := (if d.pure then s.σ else if d.wr then σ' else match d.low with
    | some lo => mergeL s.σ σ' n0 lo (n0 + BIG * d.rank + (if d.lays then BIG else 0)) d.hid
    | none => if d.lays then merge s.σ σ' (n0 + BIG * d.rank) else s.σ) }.put d.o.dst v) else none
  | none => none
  else exD n0 ds (s.put d.o.dst .undef)
def exS : List Seg → St → Option St
 | [], s => some s
 | g :: gs, s => match exD T rec s.n g.ds s with
   | some s' => match exR T rec g.ops { s' with n := s.n + BIG * g.lays } with
     | some s2 => exS gs s2
     | none => none
   | none => none
def exLoop (B : St → Option (Ex × St)) : Nat → St → Option (Ex × St)
 | 0, _ => none
 | k + 1, s => match B s with
   | some (.normal, s') => exLoop B k s'
   | r => r
def exC (k : Nat) : AC → St → Option (Ex × St)
 | .skip, s => some (.normal, s)
 | .reg ops, s => (exR T rec ops s).map fun s' => (.normal, s')
 | .regd segs, s => (exS T rec segs s).map fun s' => (.normal, s')
 | .seq a b, s => match exC k a s with
   | some (.normal, s') => exC k b s'
   | r => r
 | .cond x a b, s => match s.val x with
   | .bool true => exC k a s
   | .bool false => exC k b s
   | _ => none
 | .block id c, s => match exC k c s with
   | some (.exit i, s') => if i = id then some (.normal, s') else some (.exit i, s')
   | r => r
 | .loop c, s => exLoop (exC k c) k s
 | .rangeF g ps assign body, s => match s.val g with
   | .fn f caps => if s.lk ≤ s.n then match rec (.raw f (.yld s.n :: caps) (upd s.σ s.n (some (.loop s.env ps assign body .ready none))) (s.n + 1) s.lk) with
    | some (.mem _ σ' n') => match σ' s.n with
      | some (.loop _ _ _ _ .ready pend) | some (.loop _ _ _ _ .done pend) => some (pend.getD .normal, { s with σ := upd σ' s.n none, n := n' })
      | _ => none
    | _ => none
    else none
   | _ => none
 | .exit id, s => some (.exit id, s)
 | .ret, s => some (.ret, s)
end
def exJob (T : Tab) : Nat → Job → Option Out
 | 0, _ => none
 | k + 1, .pure f args => match T.fn f with
   | some fn => if args.length = fn.np ∧ T.mode f ≠ .raw then match exC T (exJob T k) k fn.body ⟨envOf args, Sto.empty, 0, 0⟩ with
    | some (ex, s) => if isEnd ex then (outOf s fn.res).bind fun v =>
     if T.mode f = .own then (if (gids s.σ DEEP v).Nodup then (giv s.σ DEEP v).map .val else none) else (frz s.σ DEEP v).map .val
     else none
    | none => none
    else none
   | none => none
 | k + 1, .raw f args σ n lk => match T.fn f with
   | some fn => if args.length = fn.np then match exC T (exJob T k) k fn.body ⟨envOf args, σ, n, lk⟩ with
    | some (ex, s) => if isEnd ex then (outOf s fn.res).map fun v => .mem v s.σ s.n else none
    | none => none
    else none
   | none => none
 | k + 1, .round l env assign body σ n lk => match exC T (exJob T k) k assign ⟨env, σ, n, lk⟩ with
   | some (.normal, s) => match s.σ l with
     | some (.loop env' ps a b .ready pend) => match exC T (exJob T k) k body { s with σ := upd s.σ l (some (.loop env' ps a b .busy pend)) } with
       | some (ex, s') => match s'.σ l with
         | some (.loop _ _ _ _ .busy _) => some (.fin ex s'.σ s'.n)
         | _ => none
       | none => none
     | _ => none
   | _ => none
end Go.Q
end

section
/- What the evaluator comes to when it is run, its rules say. -/
namespace Go.Q
section
variable {T : Tab} {C : Calls'} {rec : Job → Option Out}
theorem exCall_sound (hm : MonoC C) (hr : ∀ j o, rec j = some o → C j (fun o' => o' = o)) {fs : Bool} {f : Nat} {args : List V} {σ σ' : Sto} {n n' lk : Nat} {v : V}
 (h : exCall T rec fs f args σ n lk = some (v, σ', n')) {Q : V → Sto → Nat → Prop} (hq : Q v σ' n') : callW T C fs f args σ n lk Q := by
 unfold exCall at h
 unfold callW
 have pure : (match args.mapM (frz σ DEEP) with
  | none => none
  | some ts => match rec (.pure f ts) with
    | some (.val r) =>
      if flat r then some (thaw (dropL σ []) n r)
      else if (fs || (args.flatMap (rch σ DEEP)).isEmpty) && (args.flatMap (rch σ DEEP)).all (fun id => decide (lk ≤ id)) then some (thaw (dropL σ (args.flatMap (rch σ DEEP))) n r) else none
    | _ => none) = some (v, σ', n') → ∃ ts, args.mapM (frz σ DEEP) = some ts ∧ ∃ r, C (.pure f ts) (fun o => o = .val r) ∧
    ∃ D : List Nat, D = (if flat r then [] else args.flatMap (rch σ DEEP)) ∧ (fs = false → D = []) ∧ (∀ id ∈ D, lk ≤ id) ∧
     Q (thaw (dropL σ D) n r).1 (thaw (dropL σ D) n r).2.1 (thaw (dropL σ D) n r).2.2 := by
  intro h
  split at h
  ·cases h
  ·rename_i ts hts
   split at h
   ·rename_i r hrec
    refine ⟨ts, hts, r, hr _ _ hrec, ?_⟩
    split at h
    ·rename_i hf
     simp only [Option.some.injEq] at h
     refine ⟨[], by simp [hf], fun _ => rfl, by simp, ?_⟩
     rw [h]; exact hq
    ·rename_i hf
     split at h
     ·rename_i hc
      simp only [Option.some.injEq] at h
      simp only [Bool.and_eq_true, Bool.or_eq_true, List.all_eq_true, decide_eq_true_eq] at hc
      refine ⟨args.flatMap (rch σ DEEP), by simp [hf], fun hfs => ?_, hc.2, ?_⟩
      ·rcases hc.1 with h1 | h1
       ·rw [hfs] at h1; cases h1
       ·simpa using h1
      ·rw [h]; exact hq
     ·cases h
   ·cases h
 cases hmode : T.mode f <;> simp only [hmode] at h ⊢
 case raw =>
  split at h
  ·rename_i hfs
   refine ⟨hfs, ?_⟩
   split at h
   ·rename_i v1 σ1 n1 hrec
    simp only [Option.some.injEq, Prod.mk.injEq] at h
    obtain ⟨rfl, rfl, rfl⟩ := h
    exact hm _ _ _ (fun o ho => by subst ho; exact hq) (hr _ _ hrec)
   ·cases h
  ·cases h
 all_goals exact pure h
theorem exYield_sound (hm : MonoC C) (hr : ∀ j o, rec j = some o → C j (fun o' => o' = o)) {l : Nat} {args : List V} {σ σ' : Sto} {n n' lk : Nat} {v : V}
 (h : exYield rec l args σ n lk = some (v, σ', n')) {Q : V → Sto → Nat → Prop} (hq : Q v σ' n') : yieldW C l args σ n lk Q := by
 unfold exYield at h
 unfold yieldW
 split at h
 ·rename_i env ps assign body pend hrow0
  simp only [hrow0]
  split at h
  ·rename_i hc
   refine ⟨hc.1, hc.2, ?_⟩
   split at h
   ·rename_i ex σ1 n1 hrec
    split at h
    ·rename_i env2 ps2 a2 b2 pend2 hrow
     simp only [Option.some.injEq, Prod.mk.injEq] at h
     obtain ⟨rfl, rfl, rfl⟩ := h
     exact hm _ _ _ (fun o ho => by subst ho; exact ⟨env2, ps2, a2, b2, pend2, hrow, hq⟩) (hr _ _ hrec)
    ·cases h
   ·cases h
  ·cases h
 ·cases h
theorem exNext_sound {it v : V} {σ σ' : Sto} {n n' lk : Nat} (h : exNext it σ n lk = some (v, σ', n')) {Q : V → Sto → Nat → Prop} (hq : Q v σ' n') : nextW it σ n lk Q := by
 unfold exNext at h
 split at h <;> try (simp at h; done)
 split at h <;> try (simp at h; done)
 rename_i m since seen last hs
 split at h <;> try (simp at h; done)
 rename_i es clk hm
 split at h <;> try (simp at h; done)
 rename_i hc
 unfold nextW
 simp only [hs, hm]
 refine ⟨hc.1, ?_, ?_, ?_⟩
 ·have := hc.2
  simp only [Bool.or_eq_true, List.isEmpty_iff, List.any_eq_true, decide_eq_true_eq] at this
  rcases this with (h1 | h1) | h1
  ·exact .inl h1
  ·exact .inr (.inl h1)
  ·exact .inr (.inr h1)
 ·intro e he hsn
  have hmem : e ∈ es.filter fun e => decide (e.2.2 ∉ seen) := List.mem_filter.2 ⟨he, by simpa using hsn⟩
  split at h
  ·rename_i hf; rw [hf] at hmem; simp at hmem
  ·rename_i e' hf
   rw [hf] at hmem
   simp only [List.mem_singleton] at hmem
   subst hmem
   split at h
   ·simp only [Option.some.injEq, Prod.mk.injEq] at h
    obtain ⟨rfl, rfl, rfl⟩ := h
    exact hq
   ·cases h
  ·cases h
 ·intro hh
  split at h
  ·simp only [Option.some.injEq, Prod.mk.injEq] at h
   obtain ⟨rfl, rfl, rfl⟩ := h
   exact hq
  ·rename_i e' hf
   have hmem : e' ∈ es.filter fun e => decide (e.2.2 ∉ seen) := by rw [hf]; simp
   obtain ⟨he, hsn⟩ := List.mem_filter.1 hmem
   have := hh e' he (by simpa using hsn)
   split at h
   ·omega
   ·cases h
  ·cases h
theorem exOp_sound (hm : MonoC C) (hr : ∀ j o, rec j = some o → C j (fun o' => o' = o)) {fs : Bool} {ρ : Opd → V} {σ σ' : Sto} {n n' lk : Nat} {ai : AI} {v : V}
 (h : exOp T rec fs ρ σ n lk ai = some (v, σ', n')) {Q : V → Sto → Nat → Prop} (hq : Q v σ' n') : opW T C fs ρ σ n lk ai Q := by
 unfold exOp at h
 split at h
 ·simp only [opW]; exact exCall_sound hm hr h hq
 ·simp only [opW]
  split at h
  ·rename_i hg; simp only [hg]; exact exCall_sound hm hr h hq
  ·rename_i hg; simp only [hg]; exact exCall_sound hm hr h hq
  ·rename_i hg
   simp only [hg]
   split at h
   ·rename_i hfs; exact ⟨hfs, exYield_sound hm hr h hq⟩
   ·cases h
  ·cases h
 ·simp only [opW]
  split at h
  ·rename_i hfs
   refine ⟨hfs, ?_⟩
   split at h
   ·rename_i hi; simp only [hi]; exact exCall_sound hm hr h hq
   ·cases h
  ·cases h
 ·simp only [opW]
  split at h
  ·rename_i hfs; exact ⟨hfs, exNext_sound h hq⟩
  ·cases h
 ·simp only [opW, h]
  exact hq
 ·rename_i h1 h2 h3 h4 h5
  unfold opW
  split
  ·exact absurd rfl (h1 _ _)
  ·exact absurd rfl (h2 _ _)
  ·exact absurd rfl (h3 _ _ _)
  ·exact absurd rfl (h4 _)
  ·exact absurd rfl (h5 _ _)
  ·rw [h]; exact hq
theorem exR_sound (hm : MonoC C) (hr : ∀ j o, rec j = some o → C j (fun o' => o' = o)) : ∀ (ops : List AOp) (s s' : St) (Q : St → Prop), exR T rec ops s = some s' → Q s' → wpR T C ops s Q
 | [], s, s', Q, h, hq => by simp only [exR, Option.some.injEq] at h; subst h; exact hq
 | o :: ops, s, s', Q, h, hq => by
   simp only [exR] at h
   simp only [wpR]
   split at h
   ·rename_i hw
    rw [if_pos hw]
    split at h
    ·rename_i v σ1 n1 he
     exact exOp_sound hm hr he (exR_sound hm hr ops _ s' Q h hq)
    ·cases h
   ·rename_i hw
    rw [if_neg hw]
    exact exR_sound hm hr ops _ s' Q h hq
theorem exD_sound (hm : MonoC C) (hr : ∀ j o, rec j = some o → C j (fun o' => o' = o)) (n0 : Nat) : ∀ (ops : List DOp) (s s' : St) (Q : St → Prop), exD T rec n0 ops s = some s' → Q s' → wpD T C n0 ops s Q
 | [], s, s', Q, h, hq => by simp only [exD, Option.some.injEq] at h; subst h; exact hq
 | d :: ds, s, s', Q, h, hq => by
   simp only [exD] at h
   simp only [wpD]
   split at h
   ·rename_i hw
    rw [if_pos hw]
    split at h
    ·rename_i v σ1 n1 he
     by_cases hle : n1 ≤ n0 + BIG * d.rank + (if d.lays then BIG else 0)
     ·rw [if_pos hle] at h
      exact exOp_sound hm hr he ⟨hle, exD_sound hm hr n0 ds _ s' Q h hq⟩
     ·rw [if_neg hle] at h; cases h
    ·cases h
   ·rename_i hw
    rw [if_neg hw]
    exact exD_sound hm hr n0 ds _ s' Q h hq
theorem exS_sound (hm : MonoC C) (hr : ∀ j o, rec j = some o → C j (fun o' => o' = o)) : ∀ (segs : List Seg) (s s' : St) (Q : St → Prop), exS T rec segs s = some s' → Q s' → wpS T C segs s Q
 | [], s, s', Q, h, hq => by simp only [exS, Option.some.injEq] at h; subst h; exact hq
 | g :: gs, s, s', Q, h, hq => by
   simp only [exS] at h
   simp only [wpS]
   split at h
   ·rename_i s1 h1
    split at h
    ·rename_i s2 h2
     exact exD_sound hm hr s.n g.ds s s1 _ h1 (exR_sound hm hr g.ops _ s2 _ h2 (exS_sound hm hr gs s2 s' Q h hq))
    ·cases h
   ·cases h
theorem exLoop_sound (hm : MonoC C) {c : AC} {B : St → Option (Ex × St)} (hB : ∀ s ex s' (Q : Ex → St → Prop), B s = some (ex, s') → Q ex s' → wpC T C c s Q) :
 ∀ (k : Nat) (s : St) (ex : Ex) (s' : St) (Q : Ex → St → Prop), exLoop B k s = some (ex, s') → Q ex s' → loopW (wpC T C c) s Q
 | 0, s, ex, s', Q, h, _ => by simp [exLoop] at h
 | k + 1, s, ex, s', Q, h, hq => by
   simp only [exLoop] at h
   refine loopW_step (fun s Q Q' hQ h => wpC_mono (fun _ _ h => h) hm c s Q Q' hQ h) ?_
   split at h
   ·rename_i s1 h1
    exact hB s .normal s1 _ h1 (exLoop_sound hm hB k s1 ex s' Q h hq)
   ·rename_i hne
    refine hB s ex s' _ h ?_
    cases ex with
    | normal => exact absurd h (hne s')
    | exit i => exact hq
    | ret => exact hq
theorem exC_sound (hm : MonoC C) (hr : ∀ j o, rec j = some o → C j (fun o' => o' = o)) (k : Nat) : ∀ (c : AC) (s : St) (ex : Ex) (s' : St) (Q : Ex → St → Prop), exC T rec k c s = some (ex, s') → Q ex s' → wpC T C c s Q
 | .skip, s, ex, s', Q, h, hq => by
   simp only [exC, Option.some.injEq, Prod.mk.injEq] at h; obtain ⟨rfl, rfl⟩ := h; exact hq
 | .reg ops, s, ex, s', Q, h, hq => by
   simp only [exC, Option.map_eq_some_iff, Prod.mk.injEq] at h
   obtain ⟨s1, h1, rfl, rfl⟩ := h
   exact exR_sound hm hr ops s s1 _ h1 hq
 | .regd segs, s, ex, s', Q, h, hq => by
   simp only [exC, Option.map_eq_some_iff, Prod.mk.injEq] at h
   obtain ⟨s1, h1, rfl, rfl⟩ := h
   exact exS_sound hm hr segs s s1 _ h1 hq
 | .seq a b, s, ex, s', Q, h, hq => by
   simp only [exC] at h
   simp only [wpC]
   split at h
   ·rename_i s1 h1
    exact exC_sound hm hr k a s _ s1 _ h1 (exC_sound hm hr k b s1 ex s' Q h hq)
   ·rename_i hne
    refine exC_sound hm hr k a s ex s' _ h ?_
    cases ex with
    | normal => exact absurd h (hne s')
    | exit i => exact hq
    | ret => exact hq
 | .cond x a b, s, ex, s', Q, h, hq => by
   simp only [exC] at h
   simp only [wpC]
   split at h
   ·rename_i hx; rw [hx]; exact exC_sound hm hr k a s ex s' Q h hq
   ·rename_i hx; rw [hx]; exact exC_sound hm hr k b s ex s' Q h hq
   ·cases h
 | .block id c, s, ex, s', Q, h, hq => by
   simp only [exC] at h
   simp only [wpC]
   split at h
   ·rename_i i s1 h1
    refine exC_sound hm hr k c s _ s1 _ h1 ?_
    simp only [blockW]
    split at h <;> rename_i hi <;> simp only [Option.some.injEq, Prod.mk.injEq] at h <;> obtain ⟨rfl, rfl⟩ := h
    ·rw [if_pos hi]; exact hq
    ·rw [if_neg hi]; exact hq
   ·rename_i hne
    refine exC_sound hm hr k c s ex s' _ h ?_
    cases ex with
    | normal => exact hq
    | exit i => exact absurd h (hne i s')
    | ret => exact hq
 | .loop c, s, ex, s', Q, h, hq => by
   simp only [exC] at h
   simp only [wpC]
   exact exLoop_sound hm (fun s ex s' Q h hq => exC_sound hm hr k c s ex s' Q h hq) k s ex s' Q h hq
 | .rangeF g ps assign body, s, ex, s', Q, h, hq => by
   simp only [exC] at h
   simp only [wpC, rangeW]
   split at h
   ·rename_i f caps hg
    rw [hg]
    split at h
    ·rename_i hlk
     refine ⟨hlk, ?_⟩
     split at h
     ·rename_i v σ1 n1 hrec
      split at h
      ·rename_i env a b c pend hrow
       simp only [Option.some.injEq, Prod.mk.injEq] at h
       obtain ⟨rfl, rfl⟩ := h
       exact hm _ _ _ (fun o ho => by subst ho; simp only [hrow]; exact ⟨by simp, hq⟩) (hr _ _ hrec)
      ·rename_i env a b c pend hrow
       simp only [Option.some.injEq, Prod.mk.injEq] at h
       obtain ⟨rfl, rfl⟩ := h
       exact hm _ _ _ (fun o ho => by subst ho; simp only [hrow]; exact ⟨by simp, hq⟩) (hr _ _ hrec)
      ·cases h
     ·cases h
    ·cases h
   ·cases h
 | .exit id, s, ex, s', Q, h, hq => by
   simp only [exC, Option.some.injEq, Prod.mk.injEq] at h; obtain ⟨rfl, rfl⟩ := h; exact hq
 | .ret, s, ex, s', Q, h, hq => by
   simp only [exC, Option.some.injEq, Prod.mk.injEq] at h; obtain ⟨rfl, rfl⟩ := h; exact hq
end
theorem exJob_sound {T : Tab} : ∀ (k : Nat) (j : Job) (o : Out), exJob T k j = some o → run T j (fun o' => o' = o)
 | 0, j, o, h => by simp [exJob] at h
 | k + 1, .pure f args, o, h => by
   have ih := exJob_sound (T := T) k
   simp only [exJob] at h
   refine run_stepD ⟨_, rfl, ?_⟩
   split at h
   ·rename_i fn hfn
    split at h
    ·rename_i hc
     refine ⟨fn, hfn, hc.1, hc.2, ?_⟩
     split at h
     ·rename_i ex s hex
      refine exC_sound run_mono ih k _ _ ex s _ hex ?_
      split at h
      ·rename_i hend
       simp only [Option.bind_eq_some_iff] at h
       obtain ⟨v, hv, h⟩ := h
       refine ⟨hend, v, hv, ?_⟩
       split at h
       ·rename_i hown
        split at h
        ·rename_i hnd
         simp only [Option.map_eq_some_iff] at h
         obtain ⟨r, hr, rfl⟩ := h
         exact ⟨r, by simp only [back, hown]; exact ⟨hr, hnd⟩, rfl⟩
        ·cases h
       ·rename_i hown
        simp only [Option.map_eq_some_iff] at h
        obtain ⟨r, hr, rfl⟩ := h
        refine ⟨r, ?_, rfl⟩
        unfold back
        split
        ·rename_i hm; exact absurd hm hown
        ·exact hr
      ·cases h
     ·cases h
    ·cases h
   ·cases h
 | k + 1, .raw f args σ n lk, o, h => by
   have ih := exJob_sound (T := T) k
   simp only [exJob] at h
   refine run_stepD ⟨_, rfl, ?_⟩
   split at h
   ·rename_i fn hfn
    split at h
    ·rename_i hc
     refine ⟨fn, hfn, hc, ?_⟩
     split at h
     ·rename_i ex s hex
      refine exC_sound run_mono ih k _ _ ex s _ hex ?_
      split at h
      ·rename_i hend
       simp only [Option.map_eq_some_iff] at h
       obtain ⟨v, hv, rfl⟩ := h
       exact ⟨hend, v, hv, rfl⟩
      ·cases h
     ·cases h
    ·cases h
   ·cases h
 | k + 1, .round l env a b σ n lk, o, h => by
   have ih := exJob_sound (T := T) k
   simp only [exJob] at h
   refine run_stepD ⟨_, rfl, ?_⟩
   split at h
   ·rename_i s hs
    refine exC_sound run_mono ih k _ _ _ s _ hs ?_
    refine ⟨rfl, ?_⟩
    split at h
    ·rename_i env' ps a' b' pend hrow
     refine ⟨env', ps, a', b', pend, hrow, ?_⟩
     split at h
     ·rename_i ex s' hs'
      refine exC_sound run_mono ih k _ _ ex s' _ hs' ?_
      split at h
      ·rename_i e2 p2 a2 b2 d2 hrow2
       simp only [Option.some.injEq] at h
       exact ⟨⟨_, _, _, _, _, hrow2⟩, h⟩
      ·cases h
     ·cases h
    ·cases h
   ·cases h
end Go.Q
end

section
/- Code is cut in parts: what holds between them. -/
namespace Go.Q
variable {T : Tab}
theorem WR_mono : ∀ (ops : List AOp) (env : Nat → V) (σ : Sto) (n lk : Nat) (Q Q' : St → Prop), (∀ s, Q s → Q' s) → WR T ops env σ n lk Q → WR T ops env σ n lk Q'
 | [], env, σ, n, lk, Q, Q', hq, h => hq _ h
 | o :: ops, env, σ, n, lk, Q, Q', hq, h => by
   obtain ⟨v, σ', n', he, hk⟩ := bindE_out h
   simp only [WR, he, bindE]
   exact WR_mono ops _ _ _ _ _ _ hq hk
theorem WD_mono (n0 : Nat) : ∀ (ds : List DOp) (env : Nat → V) (σ : Sto) (lk : Nat) (Q Q' : AfterD), (∀ env σ, Q env σ → Q' env σ) → WD T n0 ds env σ lk Q → WD T n0 ds env σ lk Q'
 | [], env, σ, lk, Q, Q', hq, h => hq _ _ h
 | d :: ds, env, σ, lk, Q, Q', hq, h => by
   obtain ⟨v, σ', n', he, hk⟩ := bindE_out h
   simp only [WD, he, bindE]
   exact WD_mono n0 ds _ _ _ _ _ hq hk
theorem WS_mono : ∀ (gs : List Seg) (env : Nat → V) (σ : Sto) (n lk : Nat) (Q Q' : St → Prop), (∀ s, Q s → Q' s) → WS T gs env σ n lk Q → WS T gs env σ n lk Q'
 | [], env, σ, n, lk, Q, Q', hq, h => hq _ h
 | g :: gs, env, σ, n, lk, Q, Q', hq, h =>
   WD_mono n g.ds env σ lk _ _ (fun env' σ' hh => WR_mono g.ops _ _ _ _ _ _ (fun s hs => WS_mono gs _ _ _ _ _ _ hq hs) hh) h
theorem WC_mono : ∀ (c : AC) (env : Nat → V) (σ : Sto) (n lk : Nat) (Q Q' : Ex → St → Prop), (∀ e s, Q e s → Q' e s) → WC T c env σ n lk Q → WC T c env σ n lk Q'
 | .skip, env, σ, n, lk, Q, Q', hq, h => hq _ _ h
 | .reg ops, env, σ, n, lk, Q, Q', hq, h => WR_mono ops env σ n lk _ _ (fun s hs => hq _ s hs) h
 | .regd gs, env, σ, n, lk, Q, Q', hq, h => WS_mono gs env σ n lk _ _ (fun s hs => hq _ s hs) h
 | .seq a b, env, σ, n, lk, Q, Q', hq, h => by
   simp only [WC] at h ⊢
   refine WC_mono a env σ n lk _ _ (fun e s hh => ?_) h
   cases e
   ·exact WC_mono b _ _ _ _ _ _ hq hh
   ·exact hq _ _ hh
   ·exact hq _ _ hh
 | .cond x a b, env, σ, n, lk, Q, Q', hq, h => by
   simp only [WC] at h ⊢
   unfold condW at h ⊢
   split at h
   ·exact WC_mono a _ _ _ _ _ _ hq h
   ·exact WC_mono b _ _ _ _ _ _ hq h
   ·exact h.elim
 | .block id c, env, σ, n, lk, Q, Q', hq, h => by
   refine WC_mono c env σ n lk _ _ (fun e s hh => ?_) h
   cases e <;> simp only [blockW] at hh ⊢
   ·exact hq _ _ hh
   ·split at hh <;> rename_i hi <;> simp only [hi, if_true, if_false]
    ·exact hq _ _ hh
    ·exact hq _ _ hh
   ·exact hq _ _ hh
 | .loop c, env, σ, n, lk, Q, Q', hq, h => wpC_mono (fun _ _ x => x) run_mono (.loop c) _ _ _ hq h
 | .rangeF g ps x y, env, σ, n, lk, Q, Q', hq, h => wpC_mono (fun _ _ x => x) run_mono (.rangeF g ps x y) _ _ _ hq h
 | .exit id, env, σ, n, lk, Q, Q', hq, h => hq _ _ h
 | .ret, env, σ, n, lk, Q, Q', hq, h => hq _ _ h
theorem upd_self (σ : Sto) (i : Nat) (o : Option Ob) : upd σ i o i = o := by simp [upd]
theorem upd_ne {σ : Sto} {i j : Nat} {o : Option Ob} (h : i ≠ j) : upd σ j o i = σ i := by simp [upd, h]
theorem WC_cut {c : AC} {env : Nat → V} {σ : Sto} {n lk : Nat} {Q : Ex → St → Prop} (M : (Nat → V) → Sto → Nat → Prop)
 (h : WC T c env σ n lk (lpQ (fun env' σ' n' lk' => lk' = lk ∧ M env' σ' n') Q)) (hM : ∀ env σ n, M env σ n → Q .normal ⟨env, σ, n, lk⟩) : WC T c env σ n lk Q := by
 refine WC_mono c env σ n lk _ _ (fun e s hh => ?_) h
 obtain ⟨env', σ', n', lk'⟩ := s
 cases e
 ·rw [lpQ_normal] at hh
  obtain ⟨rfl, hh⟩ := hh
  exact hM _ _ _ hh
 ·exact hh
 ·exact hh
theorem condC_cut {x : Bool} {a b : AC} {env : Nat → V} {σ : Sto} {n lk : Nat} {Q : Ex → St → Prop} (M : (Nat → V) → Sto → Nat → Prop)
 (h : x = true → WC T a env σ n lk (lpQ (fun env' σ' n' lk' => lk' = lk ∧ M env' σ' n') Q)) (h' : x = false → WC T b env σ n lk (lpQ (fun env' σ' n' lk' => lk' = lk ∧ M env' σ' n') Q))
 (hM : ∀ env σ n, M env σ n → Q .normal ⟨env, σ, n, lk⟩) : condC T (.bool x) a b env σ n lk Q :=
 condC_split (fun e => WC_cut M (h e) hM) (fun e => WC_cut M (h' e) hM)
def Bls (σ : Sto) (sz : Nat) (v : V) (o : Option (List V)) (S : Nat → Prop) : Prop := match o with
 | none => v = .nilS
 | some ts => ∃ i xs, v = .ref i 0 xs.length sz ∧ σ i = some (.row sz xs) ∧ S i ∧ FzL σ 11 xs ts (fun j => S j ∧ j ≠ i)
section
variable {σ σ' : Sto} {sz : Nat} {v : V} {o : Option (List V)} {S S' : Nat → Prop}
theorem Bls.loc (h : Bls σ sz v o S) (hs : ∀ i, S i → σ' i = σ i) (hS : ∀ i, S i → S' i) : Bls σ' sz v o S' := by
 cases o with
 | none => exact h
 | some ts =>
   obtain ⟨i, xs, rfl, h1, h2, h3⟩ := h
   exact ⟨i, xs, rfl, by rw [hs i h2, h1], hS i h2, h3.loc (fun j hj => hs j hj.1) (fun j hj => ⟨hS j hj.1, hj.2⟩)⟩
theorem Bls.frz (h : Bls σ sz v o S) : frz σ 12 v = some (slV sz id o) := by
 cases o with
 | none => simp only [Bls] at h; subst h; rfl
 | some ts =>
   obtain ⟨i, xs, rfl, h1, h2, h3⟩ := h
   have := Fz.ref (S := fun _ => True) h1 trivial (h3.loc (fun _ _ => rfl) (fun _ _ => trivial))
   simpa [slV] using this.1
theorem Bls.rch (h : Bls σ sz v o S) : ∀ i ∈ rch σ 12 v, S i := by
 cases o with
 | none => simp only [Bls] at h; subst h; intro i hi; simp [Go.Q.rch] at hi
 | some ts =>
   obtain ⟨i, xs, rfl, h1, h2, h3⟩ := h
   exact (Fz.ref (S := S) h1 h2 (h3.loc (fun _ _ => rfl) (fun _ h => h.1))).2
theorem Bls.lenE (h : Bls σ sz v o S) : lenE v = some (.int .i64 ((lst o).length : Int)) := by
 cases o with
 | none => simp only [Bls] at h; subst h; rfl
 | some ts =>
   obtain ⟨i, xs, rfl, h1, h2, h3⟩ := h
   rw [lenE_ref, lst_some, h3.length]
theorem Bls.cells (h : Bls σ sz v o S) : v.cells = [v] := by
 cases o with
 | none => simp only [Bls] at h; subst h; rfl
 | some ts => obtain ⟨i, xs, rfl, -⟩ := h; rfl
theorem Bls.one (h : Bls σ sz v o S) : v.one = true := by
 cases o with
 | none => simp only [Bls] at h; subst h; rfl
 | some ts => obtain ⟨i, xs, rfl, -⟩ := h; rfl
theorem Bls.append {n : Nat} (h : Bls σ sz v o S) (hS : ∀ j, S j → j < n) (hSS : ∀ j, S j → S' j) (hn : S' n) {bytes : Nat} {ys us : List V}
 (hy : FzL σ 11 ys us (fun j => S' j ∧ j < n ∧ ∀ off len s, v ≠ .ref j off len s)) (hl : ((lst o).length + us.length) * bytes ≤ LIM) :
 ∃ v' σ' n', appendE sz bytes 0 v (some ys) σ n = some (v', σ', n') ∧ Bls σ' sz v' (appO o us) (fun i => S' i ∧ i < n') ∧ n ≤ n' ∧ n' ≤ n + 1 ∧ (∀ i, i < n → (∀ off len s, v ≠ .ref i off len s) → σ' i = σ i) := by
 have hlen := hy.length
 cases o with
 | none =>
   simp only [Bls] at h
   subst h
   rw [appendE_nil]
   cases ys with
   | nil =>
     have : us = [] := by simpa using hlen
     subst this
     exact ⟨_, _, _, rfl, rfl, Nat.le_refl _, by omega, fun _ _ _ => rfl⟩
   | cons y ys =>
     simp only [lst_none, List.length_nil, Nat.zero_add] at hl
     rw [hlen] at hl
     simp only [List.isEmpty_cons, Bool.false_eq_true, if_false, hl, if_true]
     refine ⟨_, _, _, rfl, ?_, by omega, by omega, fun i hi _ => by simp [upd]; omega⟩
     have ho : appO none us = some us := by
      cases us with
      | nil => simp at hlen
      | cons u us => rfl
     rw [ho]
     exact ⟨n, y :: ys, rfl, by simp [upd], ⟨hn, by omega⟩, hy.loc (fun j hj => by simp [upd]; omega) (fun j hj => ⟨⟨hj.1, by omega⟩, by omega⟩)⟩
 | some ts =>
   obtain ⟨i, xs, rfl, h1, h2, h3⟩ := h
   have hx := h3.length
   simp only [lst_some, hx, hlen] at hl
   rw [appendE_ref, h1, appE_row', if_pos ⟨.inl rfl, by omega, hl⟩, if_pos rfl]
   refine ⟨_, _, _, rfl, ?_, by omega, by omega, fun j hj hv => ?_⟩
   ·simp only [appO]
    have e1 : xs.length + ys.length = (xs ++ ys).length := by simp
    rw [e1]
    refine ⟨n, xs ++ ys, rfl, by simp [upd], ⟨hn, by omega⟩, ?_⟩
    refine FzL.append (h3.loc (fun j hj => ?_) (fun j hj => ⟨⟨hSS j hj.1, by have := hS j hj.1; omega⟩, by have := hS j hj.1; omega⟩)) (hy.loc (fun j hj => ?_) (fun j hj => ⟨⟨hj.1, by omega⟩, by omega⟩))
    ·have a1 : j ≠ n := by have := hS j hj.1; omega
     simp [upd, a1, hj.2]
    ·have a1 : j ≠ n := by omega
     have a2 : j ≠ i := fun e => hj.2.2 0 xs.length sz (by rw [e])
     simp [upd, a1, a2]
   ·have a1 : j ≠ n := by omega
    have a2 : j ≠ i := fun h => hv 0 xs.length sz (by rw [h])
    simp [upd, a1, a2]
theorem stepW_appS {T : Tab} {n : Nat} (h : Bls σ sz v o S) (hS : ∀ j, S j → j < n) (hSS : ∀ j, S j → S' j) (hn : S' n) {bytes : Nat} {ys us : List V}
 (hy : FzL σ 11 ys us (fun j => S' j ∧ j < n ∧ ∀ off len s, v ≠ .ref j off len s)) (hl : ((lst o).length + us.length) * bytes ≤ LIM) {d : Option Nat} {ops : List AOp} {env : Nat → V} {lk : Nat} {Q : St → Prop}
 (hnext : ∀ v' σ' n', Bls σ' sz v' (appO o us) (fun i => S' i ∧ i < n') → n ≤ n' → n' ≤ n + 1 → (∀ i, i < n → (∀ off len s, v ≠ .ref i off len s) → σ' i = σ i) → WR T ops (ptO env d v') σ' n' lk Q) :
 stepW T (appendE sz bytes 0 v (some ys) σ n) d ops env lk Q := by
 obtain ⟨v', σ', n', h1, h2, h3, h4, h5⟩ := h.append hS hSS hn hy hl
 rw [h1, stepW_some]
 exact hnext v' σ' n' h2 h3 h4 h5
end
def Fl (σ : Sto) (sz : Nat) (v : V) (o : Option (List V)) (S : Nat → Prop) : Prop := match o with
 | none => v = .nilS
 | some xs => ∃ i, v = .ref i 0 xs.length sz ∧ σ i = some (.row sz xs) ∧ S i
section
variable {σ σ' : Sto} {sz : Nat} {v : V} {o : Option (List V)} {S S' : Nat → Prop}
theorem Fl.loc (h : Fl σ sz v o S) (hs : ∀ i, S i → σ' i = σ i) (hS : ∀ i, S i → S' i) : Fl σ' sz v o S' := by
 cases o with
 | none => exact h
 | some ts =>
   obtain ⟨i, rfl, h1, h2⟩ := h
   exact ⟨i, rfl, by rw [hs i h2, h1], hS i h2⟩
theorem Fl.lenE (h : Fl σ sz v o S) : lenE v = some (.int .i64 ((lst o).length : Int)) := by
 cases o with
 | none => simp only [Fl] at h; subst h; rfl
 | some ts =>
   obtain ⟨i, rfl, h1, h2⟩ := h
   rw [lenE_ref, lst_some]
theorem Fl.cells (h : Fl σ sz v o S) : v.cells = [v] := by
 cases o with
 | none => simp only [Fl] at h; subst h; rfl
 | some ts => obtain ⟨i, rfl, -⟩ := h; rfl
theorem Fl.one (h : Fl σ sz v o S) : v.one = true := by
 cases o with
 | none => simp only [Fl] at h; subst h; rfl
 | some ts => obtain ⟨i, rfl, -⟩ := h; rfl
end
def hasId (v : V) (i : Nat) : Prop := ∃ o l s, v = .ref i o l s
theorem Fl.ids {σ : Sto} {sz : Nat} {v : V} {o : Option (List V)} {S : Nat → Prop} (h : Fl σ sz v o S) {i : Nat} (hi : hasId v i) : S i := by
 obtain ⟨a, b, c, e⟩ := hi
 cases o with
 | none => simp only [Fl] at h; rw [h] at e; cases e
 | some ts => obtain ⟨j, rfl, -, h2⟩ := h; cases e; exact h2
theorem Bls.ids {σ : Sto} {sz : Nat} {v : V} {o : Option (List V)} {S : Nat → Prop} (h : Bls σ sz v o S) {i : Nat} (hi : hasId v i) : S i := by
 obtain ⟨a, b, c, e⟩ := hi
 cases o with
 | none => simp only [Bls] at h; rw [h] at e; cases e
 | some ts => obtain ⟨j, xs, rfl, -, h2, -⟩ := h; cases e; exact h2
def oL {α : Type} : List α → Option (List α)
 | [] => none
 | x :: l => some (x :: l)
theorem lst_oL {α : Type} (l : List α) : lst (oL l) = l := by cases l <;> rfl
theorem appO_oL {α : Type} (a b : List α) : appO (oL a) b = oL (a ++ b) := by
 cases a <;> cases b <;> simp [appO, oL]
theorem oL_map {α β : Type} (f : α → β) (l : List α) : (oL l).map (List.map f) = oL (l.map f) := by cases l <;> rfl
theorem slV_oL {β : Type} (sz : Nat) (f : β → V) (l : List β) : slV sz id (oL (l.map f)) = slV sz f (oL l) := by rw [← oL_map, slV_map]
end Go.Q
end

section
/- Maps of plain keys: what their operations come to. -/
namespace Go.Q
abbrev En (α β : Type) := α × β × Nat
section
variable {α β : Type} [DecidableEq α]
structure MOk (L : List (En α β)) (clk : Nat) : Prop where
 keys : (L.map (·.1)).Nodup
 born : (L.map (·.2.2)).Nodup
 lt : ∀ e ∈ L, e.2.2 < clk
def vw (L : List (En α β)) (a : α) : Option β := (L.find? fun e => decide (e.1 = a)).map (·.2.1)
def mput (L : List (En α β)) (clk : Nat) (a : α) (b : β) : List (En α β) × Nat :=
 if L.any (fun e => decide (e.1 = a)) then (L.map fun e => if e.1 = a then (a, b, e.2.2) else e, clk) else (L ++ [(a, b, clk)], clk + 1)
def mdel (L : List (En α β)) (a : α) : List (En α β) := L.filter fun e => decide (e.1 ≠ a)
theorem MOk.nil : MOk ([] : List (En α β)) 0 := ⟨by simp, by simp, by simp⟩
theorem mput_ok {L : List (En α β)} {clk : Nat} (h : MOk L clk) (a : α) (b : β) : MOk (mput L clk a b).1 (mput L clk a b).2 := by
 unfold mput
 split
 ·rename_i hx
  have e1 : ((L.map fun e => if e.1 = a then (a, b, e.2.2) else e).map (·.1)) = L.map (·.1) := by
   rw [List.map_map]
   apply List.map_congr_left
   intro e _
   simp only [Function.comp]
   split
   ·rename_i he; exact he.symm
   ·rfl
  have e2 : ((L.map fun e => if e.1 = a then (a, b, e.2.2) else e).map (·.2.2)) = L.map (·.2.2) := by
   rw [List.map_map]
   apply List.map_congr_left
   intro e _
   simp only [Function.comp]
   split <;> rfl
  refine ⟨by rw [e1]; exact h.keys, by rw [e2]; exact h.born, fun e he => ?_⟩
  obtain ⟨e0, he0, rfl⟩ := List.mem_map.1 he
  split <;> exact h.lt e0 he0
 ·rename_i hx
  simp only [List.any_eq_true, decide_eq_true_eq, not_exists, not_and] at hx
  refine ⟨?_, ?_, fun e he => ?_⟩
  ·simp only [List.map_append, List.map_cons, List.map_nil]
   rw [List.nodup_append]
   refine ⟨h.keys, by simp, fun x hx' y hy => ?_⟩
   simp only [List.mem_singleton] at hy
   subst hy
   obtain ⟨e, he, rfl⟩ := List.mem_map.1 hx'
   exact hx e he
  ·simp only [List.map_append, List.map_cons, List.map_nil]
   rw [List.nodup_append]
   refine ⟨h.born, by simp, fun x hx' y hy => ?_⟩
   simp only [List.mem_singleton] at hy
   subst hy
   obtain ⟨e, he, rfl⟩ := List.mem_map.1 hx'
   have := h.lt e he
   omega
  ·rcases List.mem_append.1 he with he | he
   ·have := h.lt e he; simp only; omega
   ·simp only [List.mem_singleton] at he; subst he; simp only; omega
theorem vw_mput {L : List (En α β)} {clk : Nat} (a : α) (b : β) (x : α) : vw (mput L clk a b).1 x = if x = a then some b else vw L x := by
 unfold mput
 split
 ·rename_i hx
  simp only
  induction L with
  | nil => simp at hx
  | cons e L ih =>
    simp only [vw, List.map_cons, List.find?_cons] at ih ⊢
    by_cases h1 : e.1 = a
    ·by_cases h2 : x = a
     ·subst h2; simp [h1]
     ·have h3 : ¬ a = x := fun e => h2 e.symm
      simp only [h1, if_true, h3, decide_false, h2, if_false]
      by_cases h4 : L.any fun e => decide (e.1 = a)
      ·have := ih h4; simp only [h2, if_false] at this; exact this
      ·have : (L.map fun e => if e.1 = a then (a, b, e.2.2) else e) = L := by
        conv => rhs; rw [← List.map_id L]
        apply List.map_congr_left
        intro e' he'
        simp only [List.any_eq_true, decide_eq_true_eq, not_exists, not_and] at h4
        rw [if_neg (h4 e' he')]; rfl
       rw [this]
    ·have h4 : L.any fun e => decide (e.1 = a) := by simpa [h1] using hx
     simp only [h1, if_false]
     by_cases h2 : e.1 = x
     ·have h3 : ¬ x = a := fun e' => h1 (h2.trans e')
      simp [h2, h3]
     ·simp only [h2, decide_false]
      exact ih h4
 ·rename_i hx
  simp only [List.any_eq_true, decide_eq_true_eq, not_exists, not_and] at hx
  simp only [vw, List.find?_append]
  by_cases h2 : x = a
  ·subst h2
   have : L.find? (fun e => decide (e.1 = x)) = none := by
    rw [List.find?_eq_none]; intro e he; simpa using hx e he
   simp [this]
  ·have h3 : ¬ a = x := fun e => h2 e.symm
   simp [h2, h3]
variable {kk : KK} {ke : α → V} {ve : β → V}
def KeyOk (kk : KK) (ke : α → V) : Prop := ∀ a b, eqKey kk (ke a) (ke b) = some (decide (a = b))
def enV (ke : α → V) (ve : β → V) (e : En α β) : V × V × Nat := (ke e.1, ve e.2.1, e.2.2)
def ens (ke : α → V) (ve : β → V) (L : List (En α β)) : List (V × V × Nat) := L.map (enV ke ve)
theorem findE_ens (hk : KeyOk kk ke) (a : α) : ∀ (L : List (En α β)) (i : Nat), findE kk (ke a) (ens ke ve L) i = some ((L.findIdx? fun e => decide (e.1 = a)).map (· + i))
 | [], i => rfl
 | e :: L, i => by
   have h0 := hk a e.1
   simp only [ens, List.map_cons, findE, enV, h0, Option.bind_some]
   by_cases h : a = e.1
   ·subst h; simp [List.findIdx?_cons]
   ·have h' : ¬ e.1 = a := fun x => h x.symm
    have ih := findE_ens hk a L (i + 1)
    simp only [ens] at ih
    simp only [h, decide_false, Bool.false_eq_true, if_false, ih, List.findIdx?_cons, h', Option.map_map]
    congr 1
    apply congrArg (fun f => Option.map f _)
    funext x; simp only [Function.comp]; omega
theorem find_idx {L : List (En α β)} {a : α} : L.find? (fun e => decide (e.1 = a)) = (L.findIdx? fun e => decide (e.1 = a)).bind fun i => L[i]? := by
 induction L with
 | nil => rfl
 | cons e L ih =>
   simp only [List.find?_cons, List.findIdx?_cons]
   by_cases h : e.1 = a
   ·simp [h]
   ·simp only [h, decide_false, ih, Bool.false_eq_true, if_false]
    cases L.findIdx? fun e => decide (e.1 = a) with
    | none => rfl
    | some i => simp
theorem mget_ens (hk : KeyOk kk ke) (ok : Bool) (z : V) (a : α) (L : List (En α β)) : mgetE ok kk z (some (ens ke ve L)) (ke a) =
 some (match vw L a with | some b => if ok then .tup [ve b, .bool true] else ve b | none => if ok then .tup [z, .bool false] else z) := by
 have h0 := hk a a
 simp only [decide_true] at h0
 simp only [mgetE, Option.bind_some, h0, if_true, findE_ens hk, vw, find_idx]
 cases hi : L.findIdx? fun e => decide (e.1 = a) with
 | none => simp
 | some i =>
   simp only [Option.map_some, Option.bind_some, Nat.add_zero, ens, List.getElem?_map]
   cases hL : L[i]? with
   | none =>
     have := List.findIdx?_eq_some_iff_findIdx_eq.1 hi
     rw [List.getElem?_eq_none_iff] at hL; omega
   | some e => simp [enV]
theorem modify_put {L : List (En α β)} (hk : (L.map (·.1)).Nodup) {a : α} {b : β} {i : Nat} (hi : L.findIdx? (fun e => decide (e.1 = a)) = some i) (f : V × V × Nat → V × V × Nat)
 (hf : ∀ e : En α β, e.1 = a → f (enV ke ve e) = enV ke ve (a, b, e.2.2)) :
 (ens ke ve L).modify i f = ens ke ve (L.map fun e => if e.1 = a then (a, b, e.2.2) else e) := by
 induction L generalizing i with
 | nil => simp at hi
 | cons e L ih =>
   simp only [List.map_cons, List.nodup_cons] at hk
   simp only [List.findIdx?_cons] at hi
   by_cases h : e.1 = a
   ·simp only [h, decide_true, if_true, Option.some.injEq] at hi
    subst hi
    simp only [ens, List.map_cons, List.modify_zero_cons, h, if_true, hf e h]
    congr 1
    simp only [List.map_map]
    apply List.map_congr_left
    intro e' he'
    have : ¬ e'.1 = a := fun h' => hk.1 (by rw [h, ← h']; exact List.mem_map.2 ⟨e', he', rfl⟩)
    simp [this]
   ·simp only [h, decide_false, Bool.false_eq_true, if_false, Option.map_eq_some_iff] at hi
    obtain ⟨j, hj, rfl⟩ := hi
    have := ih hk.2 hj
    simp only [ens] at this
    simp only [ens, List.map_cons, List.modify_succ_cons, h, if_false, this]
theorem any_idx {L : List (En α β)} {a : α} : L.any (fun e => decide (e.1 = a)) = (L.findIdx? fun e => decide (e.1 = a)).isSome := by
 induction L with
 | nil => rfl
 | cons e L ih =>
   by_cases h : e.1 = a
   ·simp [List.findIdx?_cons, h]
   ·simp only [List.any_cons, h, decide_false, Bool.false_or, ih, List.findIdx?_cons, Bool.false_eq_true, if_false, Option.isSome_map]
theorem mupd_ens (hk : KeyOk kk ke) {L : List (En α β)} {clk id lk : Nat} (hm : MOk L clk) {σ : Sto} (hs : σ id = some (.map (ens ke ve L) clk)) (hl : lk ≤ id) (a : α) (b : β) (n : Nat) :
 mupdE lk kk (.mp id) (ke a) (ve b) σ n = some (.undef, upd σ id (some (.map (ens ke ve (mput L clk a b).1) (mput L clk a b).2)), n) := by
 have h0 := hk a a
 simp only [decide_true] at h0
 simp only [mupdE, hs, hl, h0, and_self, if_true, findE_ens hk]
 cases hi : L.findIdx? fun e => decide (e.1 = a) with
 | none =>
   have hany : L.any (fun e => decide (e.1 = a)) = false := by rw [any_idx, hi]; rfl
   simp only [Option.map_none, Option.map_some, mput, hany, Bool.false_eq_true, if_false, ens, List.map_append, List.map_cons, List.map_nil, enV]
 | some i =>
   have hany : L.any (fun e => decide (e.1 = a)) = true := by rw [any_idx, hi]; rfl
   simp only [Option.map_some, Nat.add_zero, mput, hany, if_true]
   rw [modify_put hm.keys hi _ (b := b) (fun e he => by simp [enV])]
end
end Go.Q
end

section
/- copy and clear, run; what a row's cells are behind an insertion. -/
namespace Go.Q
variable [Link] {P : Program} {w : World}
def cut (cs : Array Value) (o k : Nat) : List Value := (cs.toList.drop o).take k
end Go.Q
end

section
/- An element is put into a row, or taken out: what is left. -/
namespace Go.Q
variable [Link] {w : World} {X : Nat → Prop} {ι : Nat → Nat} {σ : Sto} {n lk : Nat}
end Go.Q
end
