/- The evaluator of code: trees out of the store, calls, and what code comes to, with no program in sight. -/
import Derived.Test.YtaigdfomoplchaaQvVal
set_option linter.unusedSimpArgs false
set_option linter.unusedVariables false
set_option linter.unusedSectionVars false
namespace Go.Q

/-- How deep trees are read out of the store. -/
def DEEP : Nat := 12

/-- The elements of a row, cell by cell. -/
def elemM (f : V → Option V) : V → Option V
  | .agg cs => (cs.mapM f).map .agg
  | v => f v

/-- A value as a tree: what it reaches in the store is read out. -/
def frz (σ : Sto) : Nat → V → Option V
  | 0, _ => none
  | k + 1, .ref id off len sz => (elems σ sz (.ref id off len sz)).bind fun xs => (xs.mapM (elemM (frz σ k))).map (.sl sz)
  | k + 1, .ptr id sz i j => (rowAt σ id sz i).bind fun e => ((e.cells.drop j).mapM (frz σ k)).map .box
  | k + 1, .agg cs => (cs.mapM (frz σ k)).map .agg
  | k + 1, .tup cs => (cs.mapM (frz σ k)).map .tup
  | k + 1, .fn f cs => (cs.mapM (frz σ k)).map (.fn f)
  | k + 1, .iface t v => (frz σ k v).map (.iface t)
  | _ + 1, .yld _ => none
  | _ + 1, .own .. => none
  | _ + 1, v => some v

/-- The objects that a value reaches. -/
def rch (σ : Sto) : Nat → V → List Nat
  | 0, _ => []
  | k + 1, .ref id off len sz => id :: ((elems σ sz (.ref id off len sz)).getD []).flatMap fun x => x.cells.flatMap (rch σ k)
  | k + 1, .ptr id sz i j => id :: ((rowAt σ id sz i).map fun e => (e.cells.drop j).flatMap (rch σ k)).getD []
  | k + 1, .agg cs => cs.flatMap (rch σ k)
  | k + 1, .tup cs => cs.flatMap (rch σ k)
  | k + 1, .fn _ cs => cs.flatMap (rch σ k)
  | k + 1, .iface _ v => rch σ k v
  | _ + 1, _ => []

/-- A value handed over with the rows that it alone reaches: whole rows of the store become rows of its own. -/
def giv (σ : Sto) : Nat → V → Option V
  | 0, _ => none
  | k + 1, .ref id off len sz => match σ id with
    | some (.row sz' xs) => if sz' = sz ∧ off = 0 ∧ len = xs.length then (xs.mapM (elemM (giv σ k))).map (.own sz) else none
    | _ => none
  | k + 1, .agg cs => (cs.mapM (giv σ k)).map .agg
  | k + 1, .tup cs => (cs.mapM (giv σ k)).map .tup
  | k + 1, .iface t v => (giv σ k v).map (.iface t)
  | _ + 1, .ptr .. => none
  | _ + 1, .fn _ (_ :: _) => none
  | _ + 1, .yld _ => none
  | _ + 1, .own .. => none
  | _ + 1, v => some v

mutual
/-- Does a tree hold no row but such of its own? -/
def flat : V → Bool
  | .sl .. | .box _ | .yld _ | .ref .. | .ptr .. => false
  | .own _ xs => flatL xs
  | .agg xs => flatL xs
  | .tup xs => flatL xs
  | .fn _ xs => flatL xs
  | .iface _ v => flat v
  | _ => true
def flatL : List V → Bool
  | [] => true
  | x :: xs => flat x && flatL xs
end

mutual
/-- Rows of a tree's own become objects of the store. -/
def thaw (σ : Sto) (n : Nat) : V → V × Sto × Nat
  | .own sz xs => let r := thawL σ n xs; (.ref r.2.2 0 xs.length sz, upd r.2.1 r.2.2 (some (.row sz r.1)), r.2.2 + 1)
  | .agg xs => let r := thawL σ n xs; (.agg r.1, r.2)
  | .tup xs => let r := thawL σ n xs; (.tup r.1, r.2)
  | .iface t v => let r := thaw σ n v; (.iface t r.1, r.2)
  | v => (v, σ, n)
def thawL (σ : Sto) (n : Nat) : List V → List V × Sto × Nat
  | [] => ([], σ, n)
  | x :: xs => let r := thaw σ n x; let q := thawL r.2.1 r.2.2 xs; (r.1 :: q.1, q.2)
end

/-- How a function is called: on trees, in a store of its own; so that rows of its result are its caller's own; on the store as it is. -/
inductive Mode where
  | pure | own | raw
  deriving DecidableEq

inductive Res where
  | tmp (t : Nat)
  | cell (t : Nat) (agg : Bool) (sz : Nat)

structure Fn where
  np : Nat
  ntmps : Nat
  res : List Res
  body : AC

structure Tab where
  fn : Nat → Option Fn
  mode : Nat → Mode

inductive Job where
  | pure (f : Nat) (args : List V)
  | raw (f : Nat) (args : List V) (σ : Sto) (n lk : Nat)
  | round (l : Nat) (env : Nat → V) (assign body : AC) (σ : Sto) (n lk : Nat)

inductive Out where
  | val (v : V)
  | mem (v : V) (σ : Sto) (n : Nat)
  | fin (e : Ex) (σ : Sto) (n : Nat)

abbrev Calls' := Job → (Out → Prop) → Prop

def dropL (σ : Sto) (D : List Nat) : Sto := fun id => if id ∈ D then none else σ id

def bindPs (env : Nat → V) : List Nat → List V → Nat → V
  | p :: ps, x :: xs => bindPs (fun t => if t = p then x else env t) ps xs
  | _, _ => env

section
variable (T : Tab) (C : Calls')

/-- A function is called; `fs`: may objects fall out of the store, because what comes back may hold on to them? -/
def callW (fs : Bool) (f : Nat) (args : List V) (σ : Sto) (n lk : Nat) (Q : V → Sto → Nat → Prop) : Prop :=
  match T.mode f with
  | .raw => fs = true ∧ C (.raw f args σ n lk) fun o => match o with | .mem v σ' n' => Q v σ' n' | _ => False
  | m => ∃ ts, args.mapM (frz σ DEEP) = some ts ∧ ∃ r, C (.pure f ts) (fun o => o = .val r) ∧
      ∃ D : List Nat, D = (if flat r then [] else args.flatMap (rch σ DEEP)) ∧ (fs = false → D = []) ∧ (∀ id ∈ D, lk ≤ id) ∧
        Q (thaw (dropL σ D) n r).1 (thaw (dropL σ D) n r).2.1 (thaw (dropL σ D) n r).2.2

/-- A round of a loop over a function. -/
def yieldW (l : Nat) (args : List V) (σ : Sto) (n lk : Nat) (Q : V → Sto → Nat → Prop) : Prop :=
  match σ l with
  | some (.loop env ps assign body .ready pend) => args.length = ps.length ∧ lk ≤ l ∧
      C (.round l (bindPs env ps args) assign body σ n lk) fun o => match o with
        | .fin ex σ' n' => ∃ env2 ps2 a2 b2 pend2, σ' l = some (.loop env2 ps2 a2 b2 .busy pend2) ∧
            Q (.bool (ex = .normal)) (upd σ' l (some (.loop env2 ps2 a2 b2 (if ex = .normal then .ready else .done) (if ex = .normal then none else some ex)))) n'
        | _ => False
  | _ => False

/-- One operation, calls among them. -/
def opW (fs : Bool) (ρ : Opd → V) (σ : Sto) (n lk : Nat) (ai : AI) (Q : V → Sto → Nat → Prop) : Prop :=
  match ai with
  | .call f args => callW T C fs f (args.map ρ) σ n lk Q
  | .callv g args => match ρ g with
    | .fn f caps => callW T C fs f (args.map ρ ++ caps) σ n lk Q
    | .yld l => fs = true ∧ yieldW C l (args.map ρ) σ n lk Q
    | _ => False
  | ai => match ev ρ σ n lk ai with
    | some (v, σ', n') => Q v σ' n'
    | none => False

def wants (g : Option (Nat × Bool)) (env : Nat → V) : Bool :=
  match g with
  | none => true
  | some (t, want) => match env t with
    | .bool b => b == want
    | _ => false

def wpR : List AOp → St → (St → Prop) → Prop
  | [], s, Q => Q s
  | o :: ops, s, Q =>
    if wants o.guard s.env then opW T C true s.val s.σ s.n s.lk o.op fun v σ' n' => wpR ops ({ s with σ := σ', n := n' }.put o.dst v) Q
    else wpR ops (s.put o.dst .undef) Q

/-- Numbers between one operation's objects and the next one's, where the order is drawn. -/
@[irreducible] def BIG : Nat := 1000000000000
theorem big_le : 1000000000000 ≤ BIG := by unfold BIG; exact Nat.le_refl _

def hideR (σ : Sto) (n0 : Nat) : List Nat → Sto
  | [] => σ
  | r :: rs => fun id => if n0 + BIG * r ≤ id ∧ id < n0 + BIG * r + BIG then none else hideR σ n0 rs id

/-- The store without what is laid by operations that may come earlier or later. -/
def hide (σ : Sto) (n0 lab : Nat) : List Nat → Sto
  | [] => σ
  | r :: rs => fun id => if id < lab then hideR σ n0 (r :: rs) id else none

def merge (σ σ' : Sto) (lab : Nat) : Sto := fun id => if lab ≤ id ∧ id < lab + BIG then σ' id else σ id

/-- An operation where the order is drawn. -/
def opD (d : DOp) (ρ : Opd → V) (σ : Sto) (n0 lk : Nat) (Q : V → Sto → Prop) : Prop :=
  opW T C false ρ (if d.pure then Sto.empty else if d.wr then σ else hide σ n0 (n0 + BIG * d.rank) d.hid) (n0 + BIG * d.rank)
    (if d.wr && !d.pure then lk else n0 + BIG * d.rank) d.o.op fun v σ' n' =>
      n' ≤ n0 + BIG * d.rank + (if d.lays then BIG else 0) ∧
      Q v (if d.pure then σ else if d.wr then σ' else if d.lays then merge σ σ' (n0 + BIG * d.rank) else σ)

def wpD (n0 : Nat) : List DOp → St → (St → Prop) → Prop
  | [], s, Q => Q s
  | d :: ds, s, Q =>
    if wants d.o.guard s.env then opD T C d s.val s.σ n0 s.lk fun v σ' => wpD n0 ds ({ s with σ := σ' }.put d.o.dst v) Q
    else wpD n0 ds (s.put d.o.dst .undef) Q

/-- A region that draws its order, part by part. -/
def wpS : List Seg → St → (St → Prop) → Prop
  | [], s, Q => Q s
  | g :: gs, s, Q => wpD T C s.n g.ds s fun s' => wpR T C g.ops { s' with n := s.n + BIG * g.lays } fun s2 => wpS gs s2 Q

def thenW (K : St → Prop) (Q : Ex → St → Prop) : Ex → St → Prop
  | .normal, s => K s
  | ex, s => Q ex s

def blockW (id : Nat) (Q : Ex → St → Prop) : Ex → St → Prop
  | .exit i, s => if i = id then Q .normal s else Q (.exit i) s
  | ex, s => Q ex s

def loopW (B : St → (Ex → St → Prop) → Prop) (s : St) (Q : Ex → St → Prop) : Prop :=
  ∀ I : St → Prop, (∀ s, B s (thenW I Q) → I s) → I s

/-- A loop over a function. -/
def rangeW (g : Opd) (ps : List Nat) (assign body : AC) (s : St) (Q : Ex → St → Prop) : Prop :=
  match s.val g with
  | .fn f caps => s.lk ≤ s.n ∧ C (.raw f (.yld s.n :: caps) (upd s.σ s.n (some (.loop s.env ps assign body .ready none))) (s.n + 1) s.lk) fun o => match o with
    | .mem _ σ' n' => match σ' s.n with
      | some (.loop _ _ _ _ st pend) => st ≠ .busy ∧ Q (pend.getD .normal) { s with σ := upd σ' s.n none, n := n' }
      | _ => False
    | _ => False
  | _ => False

def wpC : AC → St → (Ex → St → Prop) → Prop
  | .skip, s, Q => Q .normal s
  | .reg ops, s, Q => wpR T C ops s (Q .normal)
  | .regd segs, s, Q => wpS T C segs s (Q .normal)
  | .seq a b, s, Q => wpC a s (thenW (fun s' => wpC b s' Q) Q)
  | .cond x a b, s, Q => match s.val x with
    | .bool true => wpC a s Q
    | .bool false => wpC b s Q
    | _ => False
  | .block id c, s, Q => wpC c s (blockW id Q)
  | .loop c, s, Q => loopW (wpC c) s Q
  | .rangeF g ps assign body, s, Q => rangeW C g ps assign body s Q
  | .exit id, s, Q => Q (.exit id) s
  | .ret, s, Q => Q .ret s

/-- What results hold. -/
def resOf (s : St) : Res → Option V
  | .tmp t => some (s.env t)
  | .cell t agg sz => match s.env t with
    | .ptr id sz' i j => (rowAt s.σ id sz' i).bind fun e => loadC agg sz (e.cells.drop j)
    | _ => none

def outOf (s : St) : List Res → Option V
  | [] => some .undef
  | [r] => resOf s r
  | rs => (rs.mapM (resOf s)).map .tup

def envOf (args : List V) : Nat → V := fun t => (args[t]?).getD .undef

def isEnd : Ex → Bool
  | .exit _ => false
  | _ => true

/-- The rows that a value hands over, one by one. -/
def gids (σ : Sto) : Nat → V → List Nat
  | 0, _ => []
  | k + 1, .ref id off len sz => match σ id with
    | some (.row _ xs) => id :: xs.flatMap fun x => x.cells.flatMap (gids σ k)
    | _ => [id]
  | k + 1, .agg cs => cs.flatMap (gids σ k)
  | k + 1, .tup cs => cs.flatMap (gids σ k)
  | k + 1, .iface _ v => gids σ k v
  | _ + 1, _ => []

/-- What a call hands back of its result. -/
def back (m : Mode) (σ : Sto) (v : V) (r : V) : Prop :=
  match m with
  | .own => giv σ DEEP v = some r ∧ (gids σ DEEP v).Nodup
  | _ => frz σ DEEP v = some r

def jobW : Job → (Out → Prop) → Prop
  | .pure f args, Q => ∃ fn, T.fn f = some fn ∧ args.length = fn.np ∧ T.mode f ≠ .raw ∧
      wpC T C fn.body ⟨envOf args, Sto.empty, 0, 0⟩ fun ex s => isEnd ex = true ∧ ∃ v, outOf s fn.res = some v ∧ ∃ r, back (T.mode f) s.σ v r ∧ Q (.val r)
  | .raw f args σ n lk, Q => ∃ fn, T.fn f = some fn ∧ args.length = fn.np ∧
      wpC T C fn.body ⟨envOf args, σ, n, lk⟩ fun ex s => isEnd ex = true ∧ ∃ v, outOf s fn.res = some v ∧ Q (.mem v s.σ s.n)
  | .round l env assign body σ n lk, Q => wpC T C assign ⟨env, σ, n, lk⟩ fun ex s => ex = .normal ∧ ∃ env' ps a b pend, s.σ l = some (.loop env' ps a b .ready pend) ∧
      wpC T C body { s with σ := upd s.σ l (some (.loop env' ps a b .busy pend)) } fun ex s' => (∃ env2 ps2 a2 b2 pend2, s'.σ l = some (.loop env2 ps2 a2 b2 .busy pend2)) ∧ Q (.fin ex s'.σ s'.n)

end

/-- Posts may be weakened. -/
def MonoC (C : Calls') : Prop := ∀ j Q Q', (∀ o, Q o → Q' o) → C j Q → C j Q'

/-- What calls come to: the least of all that the code's rules ask. -/
def run (T : Tab) : Calls' := fun j Q => ∀ C : Calls', MonoC C → (∀ j Q, jobW T C j Q → C j Q) → C j Q

section
variable {T : Tab} {C C' : Calls'}

theorem callW_mono (hC : ∀ j Q, C j Q → C' j Q) (hm : MonoC C') {fs : Bool} {f : Nat} {args : List V} {σ : Sto} {n lk : Nat} {Q Q' : V → Sto → Nat → Prop}
    (hQ : ∀ v σ n, Q v σ n → Q' v σ n) (h : callW T C fs f args σ n lk Q) : callW T C' fs f args σ n lk Q' := by
  unfold callW at *
  cases hmode : T.mode f <;> simp only [hmode] at h ⊢
  case raw => exact ⟨h.1, hm _ _ _ (fun o ho => by cases o <;> first | exact hQ _ _ _ ho | exact ho) (hC _ _ h.2)⟩
  all_goals
    obtain ⟨ts, h1, r, h2, D, h3, h4, h5, h6⟩ := h
    exact ⟨ts, h1, r, hC _ _ h2, D, h3, h4, h5, hQ _ _ _ h6⟩

theorem yieldW_mono (hC : ∀ j Q, C j Q → C' j Q) (hm : MonoC C') {l : Nat} {args : List V} {σ : Sto} {n lk : Nat} {Q Q' : V → Sto → Nat → Prop}
    (hQ : ∀ v σ n, Q v σ n → Q' v σ n) (h : yieldW C l args σ n lk Q) : yieldW C' l args σ n lk Q' := by
  unfold yieldW at *
  split at h
  · exact ⟨h.1, h.2.1, hm _ _ _ (fun o ho => by cases o <;> first | (obtain ⟨a1, a2, a3, a4, a5, h1, h2⟩ := ho; exact ⟨a1, a2, a3, a4, a5, h1, hQ _ _ _ h2⟩) | exact ho) (hC _ _ h.2.2)⟩
  · exact h

theorem opW_mono (hC : ∀ j Q, C j Q → C' j Q) (hm : MonoC C') {fs : Bool} {ρ : Opd → V} {σ : Sto} {n lk : Nat} {ai : AI} {Q Q' : V → Sto → Nat → Prop}
    (hQ : ∀ v σ n, Q v σ n → Q' v σ n) (h : opW T C fs ρ σ n lk ai Q) : opW T C' fs ρ σ n lk ai Q' := by
  unfold opW at *
  split at h
  · exact callW_mono hC hm hQ h
  · split at h
    · exact callW_mono hC hm hQ h
    · exact ⟨h.1, yieldW_mono hC hm hQ h.2⟩
    · exact h
  · split at h
    · rename_i h'; exact hQ _ _ _ h
    · exact h

theorem wpR_mono (hC : ∀ j Q, C j Q → C' j Q) (hm : MonoC C') : ∀ (ops : List AOp) (s : St) (Q Q' : St → Prop), (∀ s, Q s → Q' s) → wpR T C ops s Q → wpR T C' ops s Q'
  | [], s, Q, Q', hQ, h => hQ _ h
  | o :: ops, s, Q, Q', hQ, h => by
    simp only [wpR] at *
    split at h <;> rename_i hw <;> simp only [hw, if_true, if_false, Bool.false_eq_true]
    · exact opW_mono hC hm (fun v σ n hh => wpR_mono hC hm ops _ _ _ hQ hh) h
    · exact wpR_mono hC hm ops _ _ _ hQ h

theorem opD_mono (hC : ∀ j Q, C j Q → C' j Q) (hm : MonoC C') {d : DOp} {ρ : Opd → V} {σ : Sto} {n lk : Nat} {Q Q' : V → Sto → Prop}
    (hQ : ∀ v σ, Q v σ → Q' v σ) (h : opD T C d ρ σ n lk Q) : opD T C' d ρ σ n lk Q' :=
  opW_mono hC hm (fun v _ _ hh => ⟨hh.1, hQ _ _ hh.2⟩) h

theorem wpD_mono (hC : ∀ j Q, C j Q → C' j Q) (hm : MonoC C') (n0 : Nat) : ∀ (ops : List DOp) (s : St) (Q Q' : St → Prop), (∀ s, Q s → Q' s) → wpD T C n0 ops s Q → wpD T C' n0 ops s Q'
  | [], s, Q, Q', hQ, h => hQ _ h
  | o :: ops, s, Q, Q', hQ, h => by
    simp only [wpD] at *
    split at h <;> rename_i hw <;> simp only [hw, if_true, if_false, Bool.false_eq_true]
    · exact opD_mono hC hm (fun v σ hh => wpD_mono hC hm n0 ops _ _ _ hQ hh) h
    · exact wpD_mono hC hm n0 ops _ _ _ hQ h

theorem wpS_mono (hC : ∀ j Q, C j Q → C' j Q) (hm : MonoC C') : ∀ (segs : List Seg) (s : St) (Q Q' : St → Prop), (∀ s, Q s → Q' s) → wpS T C segs s Q → wpS T C' segs s Q'
  | [], s, Q, Q', hQ, h => hQ _ h
  | g :: gs, s, Q, Q', hQ, h => wpD_mono hC hm s.n g.ds s _ _ (fun s' hh => wpR_mono hC hm g.ops _ _ _ (fun s2 hk => wpS_mono hC hm gs s2 _ _ hQ hk) hh) h

theorem wpC_mono (hC : ∀ j Q, C j Q → C' j Q) (hm : MonoC C') : ∀ (c : AC) (s : St) (Q Q' : Ex → St → Prop), (∀ e s, Q e s → Q' e s) → wpC T C c s Q → wpC T C' c s Q'
  | .skip, s, Q, Q', hQ, h => hQ _ _ h
  | .reg ops, s, Q, Q', hQ, h => wpR_mono hC hm ops s _ _ (hQ .normal) h
  | .regd segs, s, Q, Q', hQ, h => wpS_mono hC hm segs s _ _ (hQ .normal) h
  | .seq a b, s, Q, Q', hQ, h => by
    simp only [wpC] at *
    refine wpC_mono hC hm a s _ _ (fun e s' hh => ?_) h
    cases e <;> simp only [thenW] at *
    · exact wpC_mono hC hm b s' _ _ hQ hh
    · exact hQ _ _ hh
    · exact hQ _ _ hh
  | .cond x a b, s, Q, Q', hQ, h => by
    simp only [wpC] at *
    split at h
    · rename_i hx; exact wpC_mono hC hm a s _ _ hQ h
    · rename_i hx; exact wpC_mono hC hm b s _ _ hQ h
    · exact h.elim
  | .block id c, s, Q, Q', hQ, h => by
    simp only [wpC] at *
    refine wpC_mono hC hm c s _ _ (fun e s' hh => ?_) h
    cases e <;> simp only [blockW] at *
    · exact hQ _ _ hh
    · split at hh <;> rename_i hi <;> simp only [hi, if_true, if_false]
      · exact hQ _ _ hh
      · exact hQ _ _ hh
    · exact hQ _ _ hh
  | .loop c, s, Q, Q', hQ, h => by
    simp only [wpC] at *
    intro I hI
    refine h I (fun s' hh => hI s' (wpC_mono hC hm c s' _ _ (fun e s'' hk => ?_) hh))
    cases e <;> simp only [thenW] at *
    · exact hk
    · exact hQ _ _ hk
    · exact hQ _ _ hk
  | .rangeF g ps assign body, s, Q, Q', hQ, h => by
    simp only [wpC, rangeW] at *
    split at h
    · refine ⟨h.1, hm _ _ _ (fun o ho => ?_) (hC _ _ h.2)⟩
      cases o <;> try exact ho
      rename_i v σ' n'
      simp only at ho ⊢
      split at ho
      · exact ⟨ho.1, hQ _ _ ho.2⟩
      · exact ho
    · exact h
  | .exit id, s, Q, Q', hQ, h => hQ _ _ h
  | .ret, s, Q, Q', hQ, h => hQ _ _ h

theorem jobW_mono (hC : ∀ j Q, C j Q → C' j Q) (hm : MonoC C') {j : Job} {Q Q' : Out → Prop} (hQ : ∀ o, Q o → Q' o) (h : jobW T C j Q) : jobW T C' j Q' := by
  cases j <;> simp only [jobW] at *
  · obtain ⟨fn, h1, h2, h3, h⟩ := h
    exact ⟨fn, h1, h2, h3, wpC_mono hC hm _ _ _ _ (fun e s ⟨a, v, b, r, c, d⟩ => ⟨a, v, b, r, c, hQ _ d⟩) h⟩
  · obtain ⟨fn, h1, h2, h⟩ := h
    exact ⟨fn, h1, h2, wpC_mono hC hm _ _ _ _ (fun e s ⟨a, v, b, d⟩ => ⟨a, v, b, hQ _ d⟩) h⟩
  · exact wpC_mono hC hm _ _ _ _ (fun e s ⟨a, env', ps, x, y, pend, b, d⟩ => ⟨a, env', ps, x, y, pend, b, wpC_mono hC hm _ _ _ _ (fun e s hh => ⟨hh.1, hQ _ hh.2⟩) d⟩) h

theorem run_mono : MonoC (run T) := fun j Q Q' hQ h C hm hC => hm j Q Q' hQ (h C hm hC)

/-- Calls are run by the code's rules. -/
theorem run_step {j : Job} {Q : Out → Prop} (h : jobW T (run T) j Q) : run T j Q := fun C hm hC =>
  hC j Q (jobW_mono (fun j Q hh => hh C hm hC) hm (fun _ ho => ho) h)

theorem loopW_step {B : St → (Ex → St → Prop) → Prop} (hB : ∀ s Q Q', (∀ e s, Q e s → Q' e s) → B s Q → B s Q') {s : St} {Q : Ex → St → Prop}
    (h : B s (thenW (fun s' => loopW B s' Q) Q)) : loopW B s Q := fun I hI =>
  hI s (hB s _ _ (fun e s' hh => by cases e <;> simp only [thenW] at *; exact hh I hI; exact hh; exact hh) h)

end
end Go.Q
