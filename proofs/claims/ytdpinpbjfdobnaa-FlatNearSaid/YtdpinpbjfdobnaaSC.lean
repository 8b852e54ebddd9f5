/- Distances, walked. -/
import Derived.Test.YtdpinpbjfdobnaaSB
import Derived.Test.YtdpinpbjfdobnaaProg
import Derived.KernelRfl
section
set_option linter.unusedSimpArgs false
set_option linter.unusedVariables false
namespace Go.Q.S11
open Go.Q

def sq (a b : List Int) (j : Nat) : Int := ((a.zip b).take j).foldl (fun n p => n + (p.1 - p.2) * (p.1 - p.2)) 0
theorem sq_zero (a b : List Int) : sq a b 0 = 0 := by simp [sq]
theorem sq_succ (a b : List Int) {j : Nat} (ha : j < a.length) (hb : j < b.length) : sq a b (j + 1) = sq a b j + (a[j] - b[j]) * (a[j] - b[j]) := by
  unfold sq
  have hz : j < (a.zip b).length := by rw [List.length_zip]; omega
  rw [← List.take_append_getElem hz, List.foldl_append]
  simp
theorem sq_le {a b : List Int} (ha : a.all okI = true) (hb : b.all okI = true) : ∀ j, j ≤ a.length → j ≤ b.length → 0 ≤ sq a b j ∧ sq a b j ≤ j * 4611686009837453316
  | 0, _, _ => by simp [sq_zero]
  | j + 1, h1, h2 => by
    obtain ⟨i1, i2⟩ := sq_le ha hb j (by omega) (by omega)
    have ha' := List.all_eq_true.1 ha a[j] (List.getElem_mem _)
    have hb' := List.all_eq_true.1 hb b[j] (List.getElem_mem _)
    rw [sq_succ a b (by omega) (by omega)]
    simp only [okI, Bool.and_eq_true, decide_eq_true_eq] at ha' hb'
    have k1 : 0 ≤ (a[j] - b[j]) * (a[j] - b[j]) := by
      rcases Int.le_total 0 (a[j] - b[j]) with h | h
      · exact Int.mul_nonneg h h
      · exact Int.mul_nonneg_of_nonpos_of_nonpos h h
    have k2 : (a[j] - b[j]) * (a[j] - b[j]) ≤ 2147483646 * 2147483646 := by
      rcases Int.le_total 0 (a[j] - b[j]) with h | h
      · exact Int.mul_le_mul (by omega) (by omega) h (by omega)
      · have : (a[j] - b[j]) * (a[j] - b[j]) = (b[j] - a[j]) * (b[j] - a[j]) := by
          rw [← Int.neg_mul_neg]; congr 1 <;> omega
        rw [this]
        exact Int.mul_le_mul (by omega) (by omega) (by omega) (by omega)
    push_cast
    omega

theorem raw89 (a b : Option (List Int)) (hl : (lst a).length = (lst b).length) (hlt : (lst a).length < 4611686018427387904) (ha : (lst a).all okI = true) (hb : (lst b).all okI = true) (l : Nat) (J : Nat → Sto → Nat → Prop)
    (hy : ∀ j (hj : j < (lst a).length) σ n, J j σ n → yieldW (run T) l [.int .i64 (lst a)[j], .int .i64 ((lst b)[j]'(by omega))] σ n 0 (fun y σ' n' => y = .bool true ∧ J (j + 1) σ' n'))
    (σ : Sto) (n : Nat) (h0 : J 0 σ n) : run T (.raw 89 [.yld l, .box [slV 1 i32V a], .box [slV 1 i32V b]] σ n 0) (memQ fun _ σ' n' => J (lst a).length σ' n') := by
  refine run_rawE (fn := g89) rfl rfl ?_
  simp only [g89, b89]
  simp +contextual -implicitDefEqProofs (maxSteps := 2000000) only [↓wP, wQ, wQ1, wQ2, wQ3, wR, boxE, partsOf, ↓reduceIte, Nat.reduceEqDiff, Nat.reduceAdd, Nat.reduceSub, Nat.reduceLeDiff, Nat.reduceLT, Nat.reduceMul, reduceCtorEq, Int.reduceBNe, Int.reduceBEq, Int.reduceLT, Int.reduceLE, Int.reduceGT]
  refine WC_for (lst a).length 0 (fun (j : Nat) env σ n => env 0 = .yld l ∧ env 2 = .box [slV 1 i32V b] ∧ env 6 = slV 1 i32V a ∧ J j σ n) (by omega) (by decide) (by decide) (fun _ _ => rfl) (fun _ _ _ => rfl) ?_ ?_ _ _ _ rfl rfl ?_
  · intro j env σ n hj h1 h2 ⟨h3, h4, h5, h6⟩
    simp only [vl_tmp] at h2
    have hx : (lst a)[j]? = some (lst a)[j] := List.getElem?_eq_getElem hj
    have hz : (lst b)[j]? = some ((lst b)[j]'(by omega)) := List.getElem?_eq_getElem (by omega)
    have hq := hy j hj σ n h6
    have ha' := List.all_eq_true.1 ha (lst a)[j] (List.getElem_mem _)
    have hb' := List.all_eq_true.1 hb ((lst b)[j]'(by omega)) (List.getElem_mem _)
    generalize (lst a)[j] = x at *
    generalize (lst b)[j]'(by omega) = y at *
    simp only [okI, Bool.and_eq_true, decide_eq_true_eq] at ha' hb'
    have w1 : IntKind.i64.wrap x = x := by rw [wrap_i64] <;> omega
    have w2 : IntKind.i64.wrap y = y := by rw [wrap_i64] <;> omega
    simp +contextual -implicitDefEqProofs (maxSteps := 2000000) only [↓wP, wQ, wQ1, wQ2, wQ3, wR, boxE, partsOf, ↓reduceIte, Nat.reduceEqDiff, Nat.reduceAdd, Nat.reduceSub, Nat.reduceLeDiff, Nat.reduceLT, Nat.reduceMul, reduceCtorEq, Int.reduceBNe, Int.reduceBEq, Int.reduceLT, Int.reduceLE, Int.reduceGT, h1, h2, h3, h4, h5, hx, hz, i32V, w1, w2]
    refine stepW_yld (yieldW_mono (fun _ _ x => x) run_mono (fun y σ' n' ⟨hy1, hy2⟩ => ?_) hq)
    subst hy1
    simp +contextual -implicitDefEqProofs (maxSteps := 2000000) only [↓wP, wQ, wQ1, wQ2, wQ3, wR, boxE, partsOf, ↓reduceIte, Nat.reduceEqDiff, Nat.reduceAdd, Nat.reduceSub, Nat.reduceLeDiff, Nat.reduceLT, Nat.reduceMul, reduceCtorEq, Int.reduceBNe, Int.reduceBEq, Int.reduceLT, Int.reduceLE, Int.reduceGT, h1, h2, h3, h4, h5]
    exact hy2
  · intro env σ n ⟨h3, h4, h5, h6⟩ h1 h2
    simp +contextual -implicitDefEqProofs (maxSteps := 2000000) only [↓wP, wQ, wQ1, wQ2, wQ3, wR, boxE, partsOf, ↓reduceIte, Nat.reduceEqDiff, Nat.reduceAdd, Nat.reduceSub, Nat.reduceLeDiff, Nat.reduceLT, Nat.reduceMul, reduceCtorEq, Int.reduceBNe, Int.reduceBEq, Int.reduceLT, Int.reduceLE, Int.reduceGT]
    exact h6
  · simp +contextual -implicitDefEqProofs (maxSteps := 2000000) only [↓wP, wQ, wQ1, wQ2, wQ3, wR, boxE, partsOf, ↓reduceIte, Nat.reduceEqDiff, Nat.reduceAdd, Nat.reduceSub, Nat.reduceLeDiff, Nat.reduceLT, Nat.reduceMul, reduceCtorEq, Int.reduceBNe, Int.reduceBEq, Int.reduceLT, Int.reduceLE, Int.reduceGT]
    exact h0

theorem r73 (a b : Option (List Int)) : res T 73 [slV 1 i32V a, slV 1 i32V b] = some (.fn 89 [.box [slV 1 i32V a], .box [slV 1 i32V b]]) := by
  refine run_res (run_pure (fn := g73) rfl rfl (by decide) ?_)
  simp only [g73, b73]
  simp +contextual -implicitDefEqProofs (maxSteps := 2000000) only [↓wP, wQ, wQ1, wQ2, wQ3, wR, boxE, partsOf, ↓reduceIte, Nat.reduceEqDiff, Nat.reduceAdd, Nat.reduceSub, Nat.reduceLeDiff, Nat.reduceLT, Nat.reduceMul, reduceCtorEq, Int.reduceBNe, Int.reduceBEq, Int.reduceLT, Int.reduceLE, Int.reduceGT]

theorem f73 (a b : Option (List Int)) (fs : Bool) (σ : Sto) (n lk : Nat) : callE T fs 73 [slV 1 i32V a, slV 1 i32V b] σ n lk = some (.fn 89 [.box [slV 1 i32V a], .box [slV 1 i32V b]], σ, n) :=
  callE_tr (by decide) (r73 a b) (by simp [Tr, Tr_slV]) rfl fs σ n lk

def asg46 : AC := (.seq (.reg [⟨(some 6), none, .mov (.tmp 12)⟩]) (.reg [⟨(some 7), none, .mov (.tmp 13)⟩]))
def bd46 : AC := (.block 1 (.seq (.reg [⟨(some 14), none, .mov (.tmp 6)⟩,
       ⟨(some 15), none, .mov (.tmp 7)⟩,
       ⟨(some 16), none, .bin .sub (.tmp 14) (.tmp 15)⟩,
       ⟨(some 17), none, .mov (.tmp 7)⟩,
       ⟨(some 18), none, .mov (.tmp 6)⟩,
       ⟨(some 19), none, .bin .sub (.tmp 17) (.tmp 18)⟩,
       ⟨(some 20), none, .max [(.tmp 16), (.tmp 19)]⟩,
       ⟨(some 21), none, .conv .u64 (.tmp 20)⟩,
       ⟨(some 8), none, .mov (.tmp 21)⟩])
     (.reg [⟨(some 22), none, .load false 1 (.tmp 5)⟩,
       ⟨(some 23), none, .mov (.tmp 8)⟩,
       ⟨(some 24), none, .mov (.tmp 8)⟩,
       ⟨(some 25), none, .bin .mul (.tmp 23) (.tmp 24)⟩,
       ⟨(some 26), none, .bin .add (.tmp 22) (.tmp 25)⟩,
       ⟨none, none, .store 1 (.tmp 5) (.tmp 26)⟩])))
theorem w_asg46 (env : Nat → V) (σ : Sto) (n lk : Nat) (Q : Ex → St → Prop) : WC T asg46 env σ n lk Q = WC T (.seq (.reg [⟨(some 6), none, .mov (.tmp 12)⟩]) (.reg [⟨(some 7), none, .mov (.tmp 13)⟩])) env σ n lk Q := rfl
theorem w_bd46 (env : Nat → V) (σ : Sto) (n lk : Nat) (Q : Ex → St → Prop) : WC T bd46 env σ n lk Q = WC T (.block 1 (.seq (.reg [⟨(some 14), none, .mov (.tmp 6)⟩,
       ⟨(some 15), none, .mov (.tmp 7)⟩,
       ⟨(some 16), none, .bin .sub (.tmp 14) (.tmp 15)⟩,
       ⟨(some 17), none, .mov (.tmp 7)⟩,
       ⟨(some 18), none, .mov (.tmp 6)⟩,
       ⟨(some 19), none, .bin .sub (.tmp 17) (.tmp 18)⟩,
       ⟨(some 20), none, .max [(.tmp 16), (.tmp 19)]⟩,
       ⟨(some 21), none, .conv .u64 (.tmp 20)⟩,
       ⟨(some 8), none, .mov (.tmp 21)⟩])
     (.reg [⟨(some 22), none, .load false 1 (.tmp 5)⟩,
       ⟨(some 23), none, .mov (.tmp 8)⟩,
       ⟨(some 24), none, .mov (.tmp 8)⟩,
       ⟨(some 25), none, .bin .mul (.tmp 23) (.tmp 24)⟩,
       ⟨(some 26), none, .bin .add (.tmp 22) (.tmp 25)⟩,
       ⟨none, none, .store 1 (.tmp 5) (.tmp 26)⟩]))) env σ n lk Q := rfl

def Jd (a b : List Int) (env : Nat → V) (j : Nat) (σ : Sto) (n : Nat) : Prop :=
  1 < n ∧ σ 0 = some (.row 1 [.int .u64 (sq a b j)]) ∧ σ 1 = some (.loop env [12, 13] asg46 bd46 .ready none)

theorem hy46 (a b : List Int) (hl : a.length = b.length) (h4 : a.length ≤ 4) (ha : a.all okI = true) (hb : b.all okI = true) (env : Nat → V) (he : env 5 = .ptr 0 1 0 0) (j : Nat) (hj : j < a.length) (σ : Sto) (n : Nat) (hJ : Jd a b env j σ n) :
    yieldW (run T) 1 [.int .i64 a[j], .int .i64 (b[j]'(by omega))] σ n 0 (fun y σ' n' => y = .bool true ∧ Jd a b env (j + 1) σ' n') := by
  obtain ⟨h1, h2, h3⟩ := hJ
  refine yieldW_go h3 rfl (Nat.zero_le _) ?_
  obtain ⟨q1, q2⟩ := sq_le ha hb j (by omega) (by omega)
  obtain ⟨p1, p2⟩ := sq_le ha hb (j + 1) (by omega) (by omega)
  have hs := sq_succ a b hj (by omega)
  have ha' := List.all_eq_true.1 ha a[j] (List.getElem_mem _)
  have hb' := List.all_eq_true.1 hb (b[j]'(by omega)) (List.getElem_mem _)
  have hJ' : ∀ (ob : Option Ob) (u : Option Ob), u = some (.row 1 [.int .u64 (sq a b (j + 1))]) → ob = some (.loop env [12, 13] asg46 bd46 .ready none) → ∀ σ' : Sto, σ' 0 = u → σ' 1 = ob → Jd a b env (j + 1) σ' n := by
    rintro _ _ rfl rfl σ' g1 g2
    exact ⟨h1, g1, g2⟩
  rw [hs] at p1 p2 hJ'
  generalize a[j] = x at *
  generalize b[j]'(by omega) = y at *
  generalize sq a b j = s at *
  simp only [okI, Bool.and_eq_true, decide_eq_true_eq] at ha' hb'
  have w1 : IntKind.i64.wrap (x - y) = x - y := by rw [wrap_i64] <;> omega
  have w2 : IntKind.i64.wrap (y - x) = y - x := by rw [wrap_i64] <;> omega
  push_cast at p2
  have hmx : ∃ d : Int, (if x - y < y - x then y - x else x - y) = d ∧ 0 ≤ d ∧ d ≤ 2147483646 ∧ d * d = (x - y) * (x - y) := by
    split
    · refine ⟨_, rfl, by omega, by omega, ?_⟩
      rw [← Int.neg_mul_neg]; congr 1 <;> omega
    · exact ⟨_, rfl, by omega, by omega, rfl⟩
  obtain ⟨d, hd, d1, d2, d3⟩ := hmx
  have w3 : IntKind.u64.wrap d = d := by rw [wrap_u64] <;> omega
  have k1 : 0 ≤ d * d := Int.mul_nonneg d1 d1
  have k2 : d * d ≤ 2147483646 * 2147483646 := Int.mul_le_mul d2 d2 d1 (by decide)
  have w4 : IntKind.u64.wrap (d * d) = (x - y) * (x - y) := by rw [d3, wrap_u64] <;> omega
  have w5 : IntKind.u64.wrap (s + (x - y) * (x - y)) = s + (x - y) * (x - y) := by rw [wrap_u64] <;> omega
  simp +contextual -implicitDefEqProofs (maxSteps := 2000000) only [↓wP, wQ, wQ1, wQ2, wQ3, wR, boxE, partsOf, ↓reduceIte, Nat.reduceEqDiff, Nat.reduceAdd, Nat.reduceSub, Nat.reduceLeDiff, Nat.reduceLT, Nat.reduceMul, reduceCtorEq, Int.reduceBNe, Int.reduceBEq, Int.reduceLT, Int.reduceLE, Int.reduceGT, bind_cons, bind_nil, w_asg46, w_bd46, he, h2, h3, w1, w2, hd, w3, w4, w5]
  exact hJ' _ _ rfl rfl _ (by simp [upd]) (by simp [upd])

/-- Vectors that may be, of one dimension. -/
structure Two (a b : Option (List Int)) : Prop where
  ha : okV a = true
  hb : okV b = true
  hl : (lst a).length = (lst b).length
theorem okV_len {a : Option (List Int)} (h : okV a = true) : (lst a).length ≤ 4 ∧ (lst a).all okI = true := by
  simp only [okV, Bool.and_eq_true, decide_eq_true_eq] at h
  exact ⟨h.1.2, h.2⟩
def distI (a b : Option (List Int)) : Int := sq (lst a) (lst b) (lst a).length

theorem r46 (a b : Option (List Int)) (h : Two a b) : res T 46 [slV 1 i32V a, slV 1 i32V b] = some (.int .u64 (distI a b)) := by
  refine run_res (run_pure (fn := g46) rfl rfl (by decide) ?_)
  simp only [g46, b46]
  obtain ⟨oa, ob, hl⟩ := h
  obtain ⟨a1, a2⟩ := okV_len oa
  obtain ⟨b1, b2⟩ := okV_len ob
  have f := f73 a b
  simp +contextual -implicitDefEqProofs (maxSteps := 2000000) only [↓wP, wQ, wQ1, wQ2, wQ3, wR, boxE, partsOf, ↓reduceIte, Nat.reduceEqDiff, Nat.reduceAdd, Nat.reduceSub, Nat.reduceLeDiff, Nat.reduceLT, Nat.reduceMul, reduceCtorEq, Int.reduceBNe, Int.reduceBEq, Int.reduceLT, Int.reduceLE, Int.reduceGT, f]
  generalize hE : pt (pt (pt (pt (pt (envOf [slV 1 i32V a, slV 1 i32V b]) 4 (V.int IntKind.u64 0)) 5 (V.ptr 0 1 0 0)) 9 (slV 1 i32V a)) 10 (slV 1 i32V b)) 11 (V.fn 89 [V.box [slV 1 i32V a], V.box [slV 1 i32V b]]) = env
  have e5 : env 5 = .ptr 0 1 0 0 := by rw [← hE]; rfl
  have e11 : env 11 = V.fn 89 [V.box [slV 1 i32V a], V.box [slV 1 i32V b]] := by rw [← hE]; rfl
  clear hE
  refine WC_rangeF (f := 89) (caps := [.box [slV 1 i32V a], .box [slV 1 i32V b]]) e11 (Nat.zero_le _) ?_
  refine run_mono _ _ _ (fun o ho => ?_) (raw89 a b hl (by omega) a2 b2 _ (Jd (lst a) (lst b) env) (fun j hj σ n hJ => hy46 (lst a) (lst b) hl a1 a2 b2 _ e5 j hj σ n hJ) _ _ ⟨by decide, by simp [upd, sq_zero], rfl⟩)
  cases o <;> try exact ho.elim
  obtain ⟨h1, h2, h3⟩ := ho
  refine ⟨_, _, _, _, _, _, h3, by decide, ?_⟩
  simp +contextual -implicitDefEqProofs (maxSteps := 2000000) only [↓wP, wQ, wQ1, wQ2, wQ3, wR, boxE, partsOf, ↓reduceIte, Nat.reduceEqDiff, Nat.reduceAdd, Nat.reduceSub, Nat.reduceLeDiff, Nat.reduceLT, Nat.reduceMul, reduceCtorEq, Int.reduceBNe, Int.reduceBEq, Int.reduceLT, Int.reduceLE, Int.reduceGT, Option.getD_none, h2, e5]
  rfl

theorem f46 (a b : Option (List Int)) (h : Two a b) (fs : Bool) (σ : Sto) (n lk : Nat) : callE T fs 46 [slV 1 i32V a, slV 1 i32V b] σ n lk = some (.int .u64 (distI a b), σ, n) :=
  callE_tr (by decide) (r46 a b h) (by simp [Tr, Tr_slV]) rfl fs σ n lk

def disE (a b : Option (List Int)) : Int := vAll a b
def disV (a b : Option (List Int)) : Int := if vAll a b = 0 then distI a b else 0
theorem vAll_two {a b : Option (List Int)} (h : vAll a b = 0) : Two a b := by
  unfold vAll at h
  split at h
  · rename_i h1
    simp only [Bool.and_eq_true] at h1
    split at h
    · rename_i h2; exact ⟨h1.1, h1.2, h2⟩
    · cases h
  · cases h

theorem r23 (a b : Option (List Int)) (ha : (lst a).length < 9223372036854775808) (hb : (lst b).length < 9223372036854775808) : res T 23 [slV 1 i32V a, slV 1 i32V b] = some (.tup [.int .u64 (disV a b), .int .i64 (disE a b)]) := by
  refine run_res (run_pure (fn := g23) rfl rfl (by decide) ?_)
  simp only [g23, b23]
  have e : [V.ref 0 0 2 1].mapM (frz (upd Sto.empty 0 (some (.row 1 [slV 1 i32V a, slV 1 i32V b]))) 12) = some [slV 1 vecV (some [a, b])] := by
    have hx : frz (upd Sto.empty 0 (some (.row 1 [slV 1 i32V a, slV 1 i32V b]))) 12 (.ref 0 0 2 1) = some (.sl 1 [slV 1 i32V a, slV 1 i32V b]) := by
      have ht : ∀ x ∈ [slV 1 i32V a, slV 1 i32V b], x = slV 1 i32V a ∨ x = slV 1 i32V b := fun x hx => by simpa using hx
      exact (Fz.ref (σ := upd Sto.empty 0 (some (.row 1 [slV 1 i32V a, slV 1 i32V b]))) (id := 0) (sz := 1) (xs := [slV 1 i32V a, slV 1 i32V b]) (ts := [slV 1 i32V a, slV 1 i32V b]) (k := 11) (S := fun _ => True) (by simp [upd]) trivial
        (FzL.trees (fun x hx => by rcases ht x hx with rfl | rfl <;> exact Tr_slV 1 _ _ _) (fun x hx c hc => by rcases ht x hx with rfl | rfl <;> (rw [cl_slV, List.mem_singleton] at hc; subst hc; exact Tr_slV 1 _ _ _)))).1
    simp only [List.mapM_cons, List.mapM_nil, hx]
    rfl
  have f45' := fun n lk => callE_flat (fs := true) (n := n) (lk := lk) (by decide) e (r45 a b ha hb) rfl
  simp only [thaw] at f45'
  by_cases hv : vAll a b = 0
  · have f := f46 a b (vAll_two hv)
    rw [hv] at f45'
    have e1 : disE a b = 0 := hv
    have e2 : disV a b = distI a b := by simp [disV, hv]
    simp +contextual -implicitDefEqProofs (maxSteps := 2000000) only [↓wP, wQ, wQ1, wQ2, wQ3, wR, boxE, partsOf, ↓reduceIte, Nat.reduceEqDiff, Nat.reduceAdd, Nat.reduceSub, Nat.reduceLeDiff, Nat.reduceLT, Nat.reduceMul, reduceCtorEq, Int.reduceBNe, Int.reduceBEq, Int.reduceLT, Int.reduceLE, Int.reduceGT, f45', f, e1, e2]
  · have hd : (vAll a b != 0) = true := by simpa using hv
    have e1 : disE a b = vAll a b := rfl
    have e2 : disV a b = 0 := by simp [disV, hv]
    simp +contextual -implicitDefEqProofs (maxSteps := 2000000) only [↓wP, wQ, wQ1, wQ2, wQ3, wR, boxE, partsOf, ↓reduceIte, Nat.reduceEqDiff, Nat.reduceAdd, Nat.reduceSub, Nat.reduceLeDiff, Nat.reduceLT, Nat.reduceMul, reduceCtorEq, Int.reduceBNe, Int.reduceBEq, Int.reduceLT, Int.reduceLE, Int.reduceGT, f45', e1, e2, hd]

theorem f23 (a b : Option (List Int)) (ha : (lst a).length < 9223372036854775808) (hb : (lst b).length < 9223372036854775808) (fs : Bool) (σ : Sto) (n lk : Nat) : callE T fs 23 [slV 1 i32V a, slV 1 i32V b] σ n lk = some (.tup [.int .u64 (disV a b), .int .i64 (disE a b)], σ, n) :=
  callE_tr (by decide) (r23 a b ha hb) (by simp [Tr, Tr_slV]) rfl fs σ n lk
end Go.Q.S11
end

section
/- Distances by definition; hits. -/
set_option linter.unusedSimpArgs false
set_option linter.unusedVariables false
namespace Go.Q.S11
open Go.Q

theorem sq_comm (a b : List Int) : ∀ j, j ≤ a.length → j ≤ b.length → sq a b j = sq b a j
  | 0, _, _ => by simp [sq_zero]
  | j + 1, h1, h2 => by
    rw [sq_succ a b (by omega) (by omega), sq_succ b a (by omega) (by omega), sq_comm a b j (by omega) (by omega)]
    have : (a[j] - b[j]) * (a[j] - b[j]) = (b[j] - a[j]) * (b[j] - a[j]) := by
      rw [← Int.neg_mul_neg]; congr 1 <;> omega
    rw [this]
theorem distI_comm {a b : Option (List Int)} (h : (lst a).length = (lst b).length) : distI a b = distI b a := by
  unfold distI
  rw [h]
  exact sq_comm _ _ _ (by omega) (by omega)

theorem un_neg (k : IntKind) (a : Int) : unV .neg (.int k a) = some (.int k (k.wrap (-a))) := by simp [unV, pureV, Op.unary, Op.intArith]; rfl

theorem r37 (q v : Option (List Int)) (k id : Int) (hq : (lst q).length < 9223372036854775808) (hv : (lst v).length < 9223372036854775808) : res T 37 [.agg [slV 1 i32V q, .int .i64 k], .int .u64 id, slV 1 i32V v] = some (.tup [.agg [.int .u64 id, .int .u64 (disV q v)], .int .i64 (disE q v)]) := by
  refine run_res (run_pure (fn := g37) rfl rfl (by decide) ?_)
  simp only [g37, b37]
  have f := f23 q v hq hv
  simp +contextual -implicitDefEqProofs (maxSteps := 2000000) only [↓wP, wQ, wQ1, wQ2, wQ3, wR, boxE, partsOf, ↓reduceIte, Nat.reduceEqDiff, Nat.reduceAdd, Nat.reduceSub, Nat.reduceLeDiff, Nat.reduceLT, Nat.reduceMul, reduceCtorEq, Int.reduceBNe, Int.reduceBEq, Int.reduceLT, Int.reduceLE, Int.reduceGT, f]

theorem f37 (q v : Option (List Int)) (k id : Int) (hq : (lst q).length < 9223372036854775808) (hv : (lst v).length < 9223372036854775808) (fs : Bool) (σ : Sto) (n lk : Nat) : callE T fs 37 [.agg [slV 1 i32V q, .int .i64 k], .int .u64 id, slV 1 i32V v] σ n lk = some (.tup [.agg [.int .u64 id, .int .u64 (disV q v)], .int .i64 (disE q v)], σ, n) :=
  callE_tr (by decide) (r37 q v k id hq hv) (by simp [Tr, Tr_slV]) rfl fs σ n lk
end Go.Q.S11
end

section
/- Queries; rows. -/
set_option linter.unusedSimpArgs false
set_option linter.unusedVariables false
namespace Go.Q.S11
open Go.Q

theorem mg1 (σ : Sto) (n : Nat) (o : Option Ob) : merge σ (upd σ n o) n = upd σ n o := by
  funext i
  have := big_le
  unfold merge upd
  by_cases h : i = n
  · subst h; rw [if_pos ⟨Nat.le_refl _, by omega⟩]
  · simp [h]
theorem lay1 (n : Nat) : (n + 1 ≤ n + BIG) = True := by have := big_le; simp; omega
theorem lim32 {n : Nat} (h : n ≤ 1000000) : n * 32 ≤ LIM := by unfold LIM; omega

def qE (v : Option (List Int)) (k : Int) : Int := if k < 1 then 2 else if 16 < k then 2 else if okV v then 0 else 150
theorem r13 (v : Option (List Int)) (k : Int) (hv : (lst v).length < 9223372036854775808) : res T 13 [.agg [slV 1 i32V v, .int .i64 k]] = some (.int .i64 (qE v k)) := by
  refine run_res (run_pure (fn := g13) rfl rfl (by decide) ?_)
  simp only [g13, b13]
  have f := f38 v hv
  by_cases h1 : k < 1
  · simp +contextual -implicitDefEqProofs (maxSteps := 2000000) only [↓wP, wQ, wQ1, wQ2, wQ3, wR, boxE, partsOf, ↓reduceIte, Nat.reduceEqDiff, Nat.reduceAdd, Nat.reduceSub, Nat.reduceLeDiff, Nat.reduceLT, Nat.reduceMul, reduceCtorEq, Int.reduceBNe, Int.reduceBEq, Int.reduceLT, Int.reduceLE, Int.reduceGT, h1, qE]
  · by_cases h2 : 16 < k
    · simp +contextual -implicitDefEqProofs (maxSteps := 2000000) only [↓wP, wQ, wQ1, wQ2, wQ3, wR, boxE, partsOf, ↓reduceIte, Nat.reduceEqDiff, Nat.reduceAdd, Nat.reduceSub, Nat.reduceLeDiff, Nat.reduceLT, Nat.reduceMul, reduceCtorEq, Int.reduceBNe, Int.reduceBEq, Int.reduceLT, Int.reduceLE, Int.reduceGT, h1, h2, qE]
    · cases ho : okV v
      · rw [ho] at f
        simp +contextual -implicitDefEqProofs (maxSteps := 2000000) only [↓wP, wQ, wQ1, wQ2, wQ3, wR, boxE, partsOf, ↓reduceIte, Nat.reduceEqDiff, Nat.reduceAdd, Nat.reduceSub, Nat.reduceLeDiff, Nat.reduceLT, Nat.reduceMul, reduceCtorEq, Int.reduceBNe, Int.reduceBEq, Int.reduceLT, Int.reduceLE, Int.reduceGT, h1, h2, qE, f, ho]
      · rw [ho] at f
        simp +contextual -implicitDefEqProofs (maxSteps := 2000000) only [↓wP, wQ, wQ1, wQ2, wQ3, wR, boxE, partsOf, ↓reduceIte, Nat.reduceEqDiff, Nat.reduceAdd, Nat.reduceSub, Nat.reduceLeDiff, Nat.reduceLT, Nat.reduceMul, reduceCtorEq, Int.reduceBNe, Int.reduceBEq, Int.reduceLT, Int.reduceLE, Int.reduceGT, h1, h2, qE, f, ho]

theorem f13 (v : Option (List Int)) (k : Int) (hv : (lst v).length < 9223372036854775808) (fs : Bool) (σ : Sto) (n lk : Nat) : callE T fs 13 [.agg [slV 1 i32V v, .int .i64 k]] σ n lk = some (.int .i64 (qE v k), σ, n) :=
  callE_tr (by decide) (r13 v k hv) (by simp [Tr, Tr_slV]) rfl fs σ n lk

structure Rw where
  id : Int
  v : Option (List Int)
def rwV (r : Rw) : V := .agg [.int .u64 r.id, slV 1 i32V r.v]
theorem rwV_eq (r : Rw) : rwV r = .agg [.int .u64 r.id, slV 1 i32V r.v] := rfl

/-- The rows of a mask's used cells. -/
def sel (m0 m1 : Nat) (l : List Cel) : List Rw := (l.zipIdx.filter fun p => p.1.u && tb m0 m1 p.2).map fun p => ⟨p.1.id, p.1.v⟩
theorem sel_snoc (m0 m1 : Nat) (l : List Cel) (c : Cel) : sel m0 m1 (l ++ [c]) = sel m0 m1 l ++ if (c.u && tb m0 m1 l.length) = true then [⟨c.id, c.v⟩] else [] := by
  unfold sel
  rw [List.zipIdx_append, List.filter_append, List.map_append]
  congr 1
  simp only [List.zipIdx_cons, List.zipIdx_nil, List.filter_cons, List.filter_nil, Nat.zero_add]
  split <;> rfl
theorem sel_len (m0 m1 : Nat) (l : List Cel) : (sel m0 m1 l).length ≤ l.length := by
  unfold sel
  rw [List.length_map]
  exact Nat.le_trans (List.length_filter_le _ _) (by simp)

def oR (l : List Rw) : Option (List V) := if l = [] then none else some (l.map rwV)
def optR (l : List Rw) : Option (List Rw) := if l = [] then none else some l
theorem lst_oR (l : List Rw) : lst (oR l) = l.map rwV := by
  unfold oR; split
  · rename_i h; subst h; rfl
  · rfl
theorem lst_optR (l : List Rw) : lst (optR l) = l := by
  unfold optR; split
  · rename_i h; subst h; rfl
  · rfl
theorem oR_slV (l : List Rw) : slV 2 _root_.id (oR l) = slV 2 rwV (optR l) := by
  unfold oR optR; split <;> simp [slV]
theorem oR_snoc (l : List Rw) (r : Rw) : appO (oR l) [rwV r] = oR (l ++ [r]) := by
  unfold oR
  by_cases h : l = []
  · subst h; simp [appO]
  · simp [h, appO]

end Go.Q.S11
end

section
/- Rows, as trees. -/
set_option linter.unusedSimpArgs false
set_option linter.unusedVariables false
set_option maxRecDepth 20000
namespace Go.Q.S11
open Go.Q Go.Proofs

def eRow : Enc Try.prog 52 Rw := Enc.map
  (Enc.struct (EncF.cons (off := 0) (sz := 1) eU64 rfl (by kernel_rfl) (EncF.cons (sz := 1) eVec rfl (by kernel_rfl) EncF.nil)) Try.underlying52 (by kernel_rfl))
  (fun x => ⟨x.1, x.2.1⟩) rwV (fun r => OkV r.v) (fun a _ => by obtain ⟨a, b, u⟩ := a; cases b <;> rfl) (fun a h => okVec h.2.1)
def eRows : Enc Try.prog 40 (Option (List Rw)) := Enc.slice eRow Try.underlying40 2 (by kernel_rfl) (by decide) 32 (by kernel_rfl)
theorem okRows {o : Option (List Rw)} (h : eRows.ok o) : (lst o).length < 9223372036854775808 ∧ ∀ r ∈ lst o, OkV r.v := by
  cases o with
  | none => exact ⟨by simp [lst], by simp [lst]⟩
  | some l =>
    obtain ⟨h1, h2, h3⟩ := h l rfl
    rw [reach_eq] at h2
    exact ⟨by rw [lst_some]; omega, fun r hr => h3 r hr⟩
end Go.Q.S11
end

section
/- The document's order. -/
set_option linter.unusedSimpArgs false
set_option linter.unusedVariables false
namespace Go.Q.S11
open Go.Q Go.Sort

def oH (l : List Hit) : Option (List V) := if l = [] then none else some (hs l)
def optH (l : List Hit) : Option (List Hit) := if l = [] then none else some l
theorem lst_optH (l : List Hit) : lst (optH l) = l := by
  unfold optH; split
  · rename_i h; rw [h]; rfl
  · rfl
theorem lst_oH (l : List Hit) : lst (oH l) = hs l := by
  unfold oH; split
  · rename_i h; rw [h]; rfl
  · rfl
theorem oH_slV (l : List Hit) : slV 2 _root_.id (oH l) = slV 2 hitV (optH l) := by
  unfold oH optH; split <;> simp [slV, hs]
theorem plLen {σ : Sto} {m n : Nat} {v : V} {l : List Hit} (h : Pl σ m n 2 v (oH l)) : lenE v = some (.int .i64 (l.length : Int)) := by
  unfold oH at h
  split at h
  · rename_i e; rw [e]; simp only [Pl] at h; rw [h, lenE_nil]; rfl
  · obtain ⟨i, rfl, -⟩ := h
    rw [lenE_ref, hs_len]
theorem plRefs {σ : Sto} {m n : Nat} {v : V} {l : List Hit} (h : Pl σ m n 2 v (oH l)) (hl : l ≠ []) : ∃ i, v = .ref i 0 l.length 2 ∧ σ i = some (.row 2 (hs l)) ∧ m ≤ i ∧ i < n := by
  unfold oH at h
  rw [if_neg hl] at h
  obtain ⟨i, rfl, h1⟩ := h
  exact ⟨i, by rw [hs_len], h1⟩
theorem plOf {σ : Sto} {m n i : Nat} {l : List Hit} (hl : l ≠ []) (h1 : σ i = some (.row 2 (hs l))) (h2 : m ≤ i) (h3 : i < n) : Pl σ m n 2 (.ref i 0 l.length 2) (oH l) := by
  unfold oH
  rw [if_neg hl]
  exact ⟨i, by rw [hs_len], h1, h2, h3⟩
theorem tr_hs (k : Nat) (l : List Hit) : (∀ x ∈ hs l, Tr (k + 2) x = true) ∧ ∀ x ∈ hs l, ∀ c ∈ x.cells, Tr (k + 1) c = true := by
  constructor
  · intro x hx
    obtain ⟨y, -, rfl⟩ := List.mem_map.1 hx
    rfl
  · intro x hx c hc
    obtain ⟨y, -, rfl⟩ := List.mem_map.1 hx
    simp only [hitV, V.cells, List.mem_cons, List.not_mem_nil, or_false] at hc
    rcases hc with rfl | rfl <;> rfl
theorem plHf {σ : Sto} {m n : Nat} {v : V} {l : List Hit} (h : Pl σ m n 2 v (oH l)) : frz σ 12 v = some (slV 2 hitV (optH l)) := by
  rw [Go.Q.Pl.frz h (by rw [lst_oH]; exact (tr_hs 9 l).1) (by rw [lst_oH]; exact (tr_hs 10 l).2), oH_slV]

theorem hs_set (l : List Hit) (i : Nat) (x : Hit) : (hs l).set i (.agg [.int .u64 x.id, .int .u64 x.d]) = hs (l.set i x) := by simp [hs, List.map_set, hitV]
theorem hs_set_at {l : List Hit} {i j : Nat} {x : Hit} (hj : j < l.length) : ∃ u w : Int, ((hs l).set i (.agg [.int .u64 x.id, .int .u64 x.d]))[j]? = some (.agg [.int .u64 u, .int .u64 w]) := by
  rw [hs_set, hs_get (by simpa using hj)]
  exact ⟨_, _, rfl⟩

theorem rch_row {σ : Sto} {id : Nat} {l : List Hit} (h : σ id = some (.row 2 (hs l))) (k : Nat) : rch σ (k + 2) (.ref id 0 l.length 2) = [id] := by
  have e : elems σ 2 (.ref id 0 l.length 2) = some (hs l) := by
    simp only [elems, h, List.drop_zero]
    rw [if_pos ⟨trivial, trivial, by rw [hs_len]; omega⟩, ← hs_len, List.take_length]
  simp only [rch, e, Option.getD_some]
  rw [List.flatMap_eq_nil_iff.2 fun x hx => ?_]
  obtain ⟨y, -, rfl⟩ := List.mem_map.1 hx
  rfl
def dr (σ : Sto) (id : Nat) (l : List Hit) : Sto := if l = [] then σ else dropL σ [id]
theorem dr_at (σ : Sto) (id : Nat) (l : List Hit) {i : Nat} (h : i ≠ id) : dr σ id l i = σ i := by
  unfold dr; split
  · rfl
  · simp [dropL, h]
def merE (k : Int) (l : List Hit) : Int := if k < 1 ∨ 16 < k then 2 else if 2000 < l.length then 3 else 0
def merV (k : Int) (l : List Hit) : List Hit := if merE k l = 0 then fst' k.toNat l else []

def hVal (n : Nat) (l : List Hit) : V := if l = [] then .nilS else .ref n 0 l.length 2
def hSto (σ : Sto) (n : Nat) (l : List Hit) : Sto := if l = [] then σ else upd σ n (some (.row 2 (hs l)))
def hN (n : Nat) (l : List Hit) : Nat := if l = [] then n else n + 1
theorem thaw_ownH (σ : Sto) (n : Nat) (l : List Hit) : thaw σ n (ownH l) = (hVal n l, hSto σ n l, hN n l) := by
  cases l with
  | nil => rfl
  | cons x l =>
    unfold hVal hSto hN
    rw [if_neg (by simp), if_neg (by simp), if_neg (by simp)]
    exact thaw_hs σ n (x :: l)
theorem flat_ownH (l : List Hit) : flat (ownH l) = true := by
  cases l with
  | nil => rfl
  | cons x l => exact hs_flat (x :: l)
theorem pl_h (σ : Sto) (n : Nat) (l : List Hit) : Pl (hSto σ n l) n (hN n l) 2 (hVal n l) (oH l) := by
  unfold hVal hSto hN
  by_cases h : l = []
  · rw [if_pos h, if_pos h, if_pos h]; simp [oH, h, Pl]
  · rw [if_neg h, if_neg h, if_neg h]; exact plOf h (by simp [upd]) (Nat.le_refl _) (by omega)
theorem hSto_at (σ : Sto) (n : Nat) (l : List Hit) {i : Nat} (h : i < n) : hSto σ n l i = σ i := by
  unfold hSto; split
  · rfl
  · have : i ≠ n := by omega
    simp [upd, this]
theorem hN_le (n : Nat) (l : List Hit) : n ≤ hN n l := by unfold hN; split <;> omega
theorem hVal_len (n : Nat) (l : List Hit) : lenE (hVal n l) = some (.int .i64 (l.length : Int)) := by
  unfold hVal
  split
  · rename_i h; rw [h, lenE_nil]; rfl
  · rw [lenE_ref]
theorem hVal_giv (σ : Sto) (n : Nat) (l : List Hit) : giv (hSto σ n l) 12 (hVal n l) = some (ownH l) ∧ (gids (hSto σ n l) 12 (hVal n l)).Nodup := by
  unfold hVal hSto
  by_cases h : l = []
  · rw [if_pos h, if_pos h, h]; exact ⟨rfl, by simp [gids]⟩
  · rw [if_neg h, if_neg h, ownH_eq h]
    have := giv_row (σ := upd σ n (some (.row 2 (hs l)))) (id := n) (sz := 2) (xs := hs l) (by simp [upd]) (hs_giv _ _) (hs_gids _ _)
    rw [hs_len] at this
    exact this
theorem giv_tup2 {σ : Sto} {v w r s : V} (h : giv σ 11 v = some r ∧ (gids σ 11 v).Nodup) (h' : giv σ 11 w = some s) (h'' : gids σ 11 w = []) :
    giv σ 12 (.tup [v, w]) = some (.tup [r, s]) ∧ (gids σ 12 (.tup [v, w])).Nodup := by
  constructor
  · simp only [giv, List.mapM_cons, List.mapM_nil, h.1, h']; rfl
  · simp only [gids, List.flatMap_cons, List.flatMap_nil, h'', List.append_nil]; exact h.2
theorem hVal_giv11 (σ : Sto) (n : Nat) (l : List Hit) : giv (hSto σ n l) 11 (hVal n l) = some (ownH l) ∧ (gids (hSto σ n l) 11 (hVal n l)).Nodup := by
  unfold hVal hSto
  by_cases h : l = []
  · rw [if_pos h, if_pos h, h]; exact ⟨rfl, by simp [gids]⟩
  · rw [if_neg h, if_neg h, ownH_eq h]
    have hg : ∀ x ∈ hs l, elemM (giv (upd σ n (some (.row 2 (hs l)))) 10) x = some x := by
      intro x hx
      obtain ⟨y, -, rfl⟩ := List.mem_map.1 hx
      rfl
    have hg' : ∀ x ∈ hs l, ∀ c ∈ x.cells, gids (upd σ n (some (.row 2 (hs l)))) 10 c = [] := by
      intro x hx c hc
      obtain ⟨y, -, rfl⟩ := List.mem_map.1 hx
      simp only [hitV, V.cells, List.mem_cons, List.not_mem_nil, or_false] at hc
      rcases hc with rfl | rfl <;> rfl
    have hat : upd σ n (some (.row 2 (hs l))) n = some (.row 2 (hs l)) := by simp [upd]
    constructor
    · simp only [giv, hat, hs_len, and_self, if_true]
      rw [mapM_id hg]; rfl
    · simp only [gids, hat]
      rw [List.flatMap_eq_nil_iff.2 fun x hx => List.flatMap_eq_nil_iff.2 fun c hc => hg' x hx c hc]
      simp

theorem sum_mono (l : List (Option (List Hit))) (j : Nat) : ((l.take j).flatMap lst).length ≤ (l.flatMap lst).length := by
  conv => rhs; rw [← List.take_append_drop j l]
  rw [List.flatMap_append, List.length_append]
  omega

theorem r18 (k : Int) (o : Option (List (Option (List Hit)))) (hlo : (lst o).length < 9223372036854775808) (hli : ∀ r ∈ lst o, (lst r).length < 4611686018427387904) :
    res T 18 [.int .i64 k, slV 1 (slV 2 hitV) o] = some (.tup [ownH (merV k ((lst o).flatMap lst)), .int .i64 (merE k ((lst o).flatMap lst))]) := by
  refine run_res (run_own (fn := g18) rfl rfl (by decide) ?_)
  simp only [g18, b18]
  by_cases hk1 : k < 1
  · have e1 : merE k ((lst o).flatMap lst) = 2 := if_pos (.inl hk1)
    have e2 : merV k ((lst o).flatMap lst) = [] := by unfold merV; rw [e1]; rfl
    rw [e1, e2]
    simp +contextual -implicitDefEqProofs (maxSteps := 2000000) only [↓wP, wQ, wQ1, wQ2, wQ3, wR, boxE, partsOf, ↓reduceIte, Nat.reduceEqDiff, Nat.reduceAdd, Nat.reduceSub, Nat.reduceLeDiff, Nat.reduceLT, Nat.reduceMul, reduceCtorEq, Int.reduceBNe, Int.reduceBEq, Int.reduceLT, Int.reduceLE, Int.reduceGT, hk1]
    exact ⟨rfl, by simp [gids]⟩
  · by_cases hk2 : 16 < k
    · have e1 : merE k ((lst o).flatMap lst) = 2 := if_pos (.inr hk2)
      have e2 : merV k ((lst o).flatMap lst) = [] := by unfold merV; rw [e1]; rfl
      rw [e1, e2]
      simp +contextual -implicitDefEqProofs (maxSteps := 2000000) only [↓wP, wQ, wQ1, wQ2, wQ3, wR, boxE, partsOf, ↓reduceIte, Nat.reduceEqDiff, Nat.reduceAdd, Nat.reduceSub, Nat.reduceLeDiff, Nat.reduceLT, Nat.reduceMul, reduceCtorEq, Int.reduceBNe, Int.reduceBEq, Int.reduceLT, Int.reduceLE, Int.reduceGT, hk1, hk2]
      exact ⟨rfl, by simp [gids]⟩
    · obtain ⟨kn, rfl⟩ : ∃ kn : Nat, k = (kn : Int) := ⟨k.toNat, by omega⟩
      simp +contextual -implicitDefEqProofs (maxSteps := 2000000) only [↓wP, wQ, wQ1, wQ2, wQ3, wR, boxE, partsOf, ↓reduceIte, Nat.reduceEqDiff, Nat.reduceAdd, Nat.reduceSub, Nat.reduceLeDiff, Nat.reduceLT, Nat.reduceMul, reduceCtorEq, Int.reduceBNe, Int.reduceBEq, Int.reduceLT, Int.reduceLE, Int.reduceGT, hk1, hk2]
      refine WC_for (lst o).length 0 (fun (j : Nat) env σ n => σ = Sto.empty ∧ n = 0 ∧ env 0 = .int .i64 (kn : Int) ∧ env 1 = slV 1 (slV 2 hitV) o ∧ env 15 = slV 1 (slV 2 hitV) o ∧ env 6 = .int .i64 ((((lst o).take j).flatMap lst).length : Int) ∧ (((lst o).take j).flatMap lst).length ≤ 2000) hlo (by decide) (by decide) (fun _ _ => rfl) (fun _ _ _ => rfl) ?_ ?_ _ _ _ rfl rfl ?_
      · intro j env σ n hj h1 h2 ⟨g1, g2, h3, h4, h5, h6, h7⟩
        subst g1 g2
        simp only [vl_tmp] at h2
        have hx : (lst o)[j]? = some (lst o)[j] := List.getElem?_eq_getElem hj
        have hr := hli _ (List.getElem_mem hj)
        have ht : ((lst o).take (j + 1)).flatMap lst = ((lst o).take j).flatMap lst ++ lst (lst o)[j] := by
          rw [← List.take_append_getElem hj, List.flatMap_append]
          simp
        have hmono := sum_mono (lst o) (j + 1)
        generalize (lst o)[j] = r at *
        rw [ht, List.length_append] at hmono
        have wa : IntKind.i64.wrap (((((lst o).take j).flatMap lst).length : Int) + ((lst r).length : Int)) = (((((lst o).take j).flatMap lst).length + (lst r).length : Nat) : Int) := by rw [wrap_i64] <;> omega
        by_cases hbig : 2000 < (((lst o).take j).flatMap lst).length + (lst r).length
        · have hbig' : (2000 : Int) < (((((lst o).take j).flatMap lst).length + (lst r).length : Nat) : Int) := by omega
          have e1 : merE (kn : Int) ((lst o).flatMap lst) = 3 := by
            unfold merE
            rw [if_neg (by omega), if_pos (by omega)]
          have e2 : merV (kn : Int) ((lst o).flatMap lst) = [] := by unfold merV; rw [e1]; rfl
          rw [e1, e2]
          simp +contextual -implicitDefEqProofs (maxSteps := 2000000) only [↓wP, wQ, wQ1, wQ2, wQ3, wR, boxE, partsOf, ↓reduceIte, Nat.reduceEqDiff, Nat.reduceAdd, Nat.reduceSub, Nat.reduceLeDiff, Nat.reduceLT, Nat.reduceMul, reduceCtorEq, Int.reduceBNe, Int.reduceBEq, Int.reduceLT, Int.reduceLE, Int.reduceGT, h1, h2, h3, h4, h5, h6, hx, wa, hbig']
          exact ⟨rfl, by simp [gids]⟩
        · have hbig' : ¬ (2000 : Int) < (((((lst o).take j).flatMap lst).length + (lst r).length : Nat) : Int) := by omega
          simp +contextual -implicitDefEqProofs (maxSteps := 2000000) only [↓wP, wQ, wQ1, wQ2, wQ3, wR, boxE, partsOf, ↓reduceIte, Nat.reduceEqDiff, Nat.reduceAdd, Nat.reduceSub, Nat.reduceLeDiff, Nat.reduceLT, Nat.reduceMul, reduceCtorEq, Int.reduceBNe, Int.reduceBEq, Int.reduceLT, Int.reduceLE, Int.reduceGT, h1, h2, h3, h4, h5, h6, hx, wa, hbig']
          rw [ht, List.length_append]
          exact ⟨rfl, by omega⟩
      · intro env σ n ⟨g1, g2, h3, h4, h5, h6, h7⟩ h1 h2
        subst g1 g2
        rw [List.take_length] at h7
        have e1 : merE (kn : Int) ((lst o).flatMap lst) = 0 := by
          unfold merE
          rw [if_neg (by omega), if_neg (by omega)]
        have e2 : merV (kn : Int) ((lst o).flatMap lst) = fst' kn ((lst o).flatMap lst) := by unfold merV; rw [if_pos e1]; rfl
        have h25 := r42 kn o (by omega) (by omega) hlo (fun r hr => by have := hli r hr; omega)
        rw [e1, e2]
        have e : [V.int .i64 (kn : Int), slV 1 (slV 2 hitV) o].mapM (frz Sto.empty 12) = some [V.int .i64 (kn : Int), slV 1 (slV 2 hitV) o] := by
          simp only [List.mapM_cons, List.mapM_nil, frz_slV, frz_int]; rfl
        generalize fst' kn ((lst o).flatMap lst) = l at *
        have f42 := fun n lk => callE_flat (fs := true) (n := n) (lk := lk) (by decide) e h25 (flat_ownH l)
        simp only [thaw_ownH] at f42
        have hg := hVal_giv11 Sto.empty 0 l
        simp +contextual -implicitDefEqProofs (maxSteps := 2000000) only [↓wP, wQ, wQ1, wQ2, wQ3, wR, boxE, partsOf, ↓reduceIte, Nat.reduceEqDiff, Nat.reduceAdd, Nat.reduceSub, Nat.reduceLeDiff, Nat.reduceLT, Nat.reduceMul, reduceCtorEq, Int.reduceBNe, Int.reduceBEq, Int.reduceLT, Int.reduceLE, Int.reduceGT, h3, h4, f42]
        exact giv_tup2 hg rfl rfl
      · simp +contextual -implicitDefEqProofs (maxSteps := 2000000) only [↓wP, wQ, wQ1, wQ2, wQ3, wR, boxE, partsOf, ↓reduceIte, Nat.reduceEqDiff, Nat.reduceAdd, Nat.reduceSub, Nat.reduceLeDiff, Nat.reduceLT, Nat.reduceMul, reduceCtorEq, Int.reduceBNe, Int.reduceBEq, Int.reduceLT, Int.reduceLE, Int.reduceGT]
        simp
end Go.Q.S11
end

section
/- First of a row; selections. -/
set_option linter.unusedSimpArgs false
set_option linter.unusedVariables false
namespace Go.Q.S11
open Go.Q Go.Sort

theorem flat_tup2 {a b : V} (h : flat a = true) (h' : flat b = true) : flat (.tup [a, b]) = true := by simp [flat, flatL, h, h']
theorem thaw_hTup (σ : Sto) (n : Nat) (l : List Hit) (e : Int) : thaw σ n (.tup [ownH l, .int .i64 e]) = (.tup [hVal n l, .int .i64 e], hSto σ n l, hN n l) := by
  rw [thaw_tup, thawL_cons, thaw_ownH]
  rfl

theorem merge_one (o : Option (List Hit)) : (lst (some [o])).flatMap lst = lst o := by simp [lst]
theorem r56 (k : Int) (o : Option (List Hit)) (hl : (lst o).length < 4611686018427387904) : res T 56 [slV 2 hitV o, .int .i64 k] = some (.tup [ownH (merV k (lst o)), .int .i64 (merE k (lst o))]) := by
  refine run_res (run_own (fn := g56) rfl rfl (by decide) ?_)
  simp only [g56, b56]
  have h16 := r18 k (some [o]) (by simp [lst]) (fun r hr => by simp [lst_some] at hr; subst hr; exact hl)
  rw [merge_one] at h16
  have e : [V.int .i64 k, .ref 0 0 1 1].mapM (frz (upd Sto.empty 0 (some (.row 1 [slV 2 hitV o]))) 12) = some [V.int .i64 k, slV 1 (slV 2 hitV) (some [o])] := by
    have hx : frz (upd Sto.empty 0 (some (.row 1 [slV 2 hitV o]))) 12 (.ref 0 0 1 1) = some (.sl 1 [slV 2 hitV o]) := by
      have := (Fz.ref (σ := upd Sto.empty 0 (some (.row 1 [slV 2 hitV o]))) (id := 0) (sz := 1) (xs := [slV 2 hitV o]) (ts := [slV 2 hitV o]) (k := 11) (S := fun _ => True) (by simp [upd]) trivial
        (FzL.trees (fun x hx => by rw [List.mem_singleton] at hx; subst hx; exact Tr_slV 2 _ o _) (fun x hx c hc => by rw [List.mem_singleton] at hx; subst hx; rw [cl_slV, List.mem_singleton] at hc; subst hc; exact Tr_slV 2 _ o _))).1
      exact this
    simp only [List.mapM_cons, List.mapM_nil, hx, frz_int]
    rfl
  have f18 := fun n lk => callE_flat (fs := true) (n := n) (lk := lk) (by decide) e h16 (flat_tup2 (flat_ownH _) rfl)
  simp only [thaw_hTup] at f18
  have hg := fun σ n => hVal_giv11 σ n (merV k (lst o))
  simp +contextual -implicitDefEqProofs (maxSteps := 2000000) only [↓wP, wQ, wQ1, wQ2, wQ3, wR, boxE, partsOf, ↓reduceIte, Nat.reduceEqDiff, Nat.reduceAdd, Nat.reduceSub, Nat.reduceLeDiff, Nat.reduceLT, Nat.reduceMul, reduceCtorEq, Int.reduceBNe, Int.reduceBEq, Int.reduceLT, Int.reduceLE, Int.reduceGT, f18]
  exact giv_tup2 (hg _ _) rfl rfl

theorem f56 {σ : Sto} {v : V} {l : List Hit} (k : Int) (ha : Hf σ v l) (hl : l.length < 4611686018427387904) (fs : Bool) (n lk : Nat) :
    callE T fs 56 [v, .int .i64 k] σ n lk = some (.tup [hVal n (merV k l), .int .i64 (merE k l)], hSto σ n (merV k l), hN n (merV k l)) := by
  obtain ⟨o, rfl, h1⟩ := ha
  have e : [v, V.int .i64 k].mapM (frz σ 12) = some [slV 2 hitV o, .int .i64 k] := by simp only [List.mapM_cons, List.mapM_nil, h1]; rfl
  rw [callE_flat (by decide) e (r56 k o hl) (flat_tup2 (flat_ownH _) rfl), thaw_hTup]

end Go.Q.S11
end

section
/- The first hits of rows, by definition. -/
set_option linter.unusedSimpArgs false
set_option linter.unusedVariables false
namespace Go.Q.S11
open Go.Q Go.Sort

theorem pos_up {h : Hit} {s : List Hit} (hs : Srt s) {i : Nat} (hi : i < s.length) (hp : pos h s ≤ i) : ahead h s[i] = true := by
  have hl : pos h s < s.length := by omega
  have h0 := pos_at hl
  rcases Nat.lt_or_eq_of_le hp with hlt | heq
  · have h1 : ahead s[i] s[pos h s] = false := List.pairwise_iff_getElem.1 hs (pos h s) i hl hi hlt
    cases hc : ahead h s[i]
    · have := swoA.ntrans _ _ _ hc h1
      rw [this] at h0; cases h0
    · rfl
  · have e : s[i] = s[pos h s] := by congr 1; exact heq.symm
    rw [e]; exact h0

/-- A row of hits under way: the first ones of an object's. -/
def Px (σ : Sto) (n : Nat) (v : V) (s : List Hit) : Prop := (s = [] ∧ v = .nilS) ∨ ∃ i L, v = .ref i 0 s.length 2 ∧ s ≠ [] ∧ σ i = some (.row 2 (hs L)) ∧ 1 ≤ i ∧ i < n ∧ L.take s.length = s

theorem Px.frz {σ : Sto} {n : Nat} {v : V} {s : List Hit} (h : Px σ n v s) (k : Nat) : Go.Q.frz σ (k + 3) v = some (slV 2 hitV (optH s)) := by
  rcases h with ⟨rfl, rfl⟩ | ⟨i, L, rfl, h2, h3, h4, h5, h6⟩
  · rfl
  · have hl : s.length ≤ L.length := by rw [← h6, List.length_take]; omega
    have e : (rw' L.toArray).take s.length = hs s := by rw [rw_hs, hs_take, h6]
    rw [frz_pre (d := L.toArray) (by simpa using hl) (by rw [rw_hs]; exact h3) k, e]
    simp [optH, h2, slV, hs]

def hitR (q : Option (List Int)) (r : Rw) : Hit := ⟨r.id, distI r.v q⟩
def fndB (q : Option (List Int)) (l : List Rw) : Bool := l.all fun r => decide ((lst r.v).length = (lst q).length)
def fndL (q : Option (List Int)) (k : Nat) (l : List Rw) : List Hit := if fndB q l then fst' k (l.map (hitR q)) else []

end Go.Q.S11
end

section
/- What is found among what is gone over. -/
set_option linter.unusedSimpArgs false
set_option linter.unusedVariables false
namespace Go.Q.S11
open Go.Q Go.Sort

/-- A round of a loop over a function that goes on, or is left for good. -/
theorem yieldW_gs {T : Tab} {l : Nat} {args : List V} {σ : Sto} {n lk : Nat} {Q : V → Sto → Nat → Prop} {env : Nat → V} {ps : List Nat} {assign body : AC} {pend : Option Ex}
    (hl : σ l = some (.loop env ps assign body .ready pend)) (ha : args.length = ps.length) (hlk : lk ≤ l)
    (h : WC T assign (bindPs env ps args) σ n lk fun ex s => ex = .normal ∧ s.σ l = some (.loop env ps assign body .ready pend) ∧ s.lk = lk ∧
      WC T body s.env (upd s.σ l (some (.loop env ps assign body .busy pend))) s.n lk fun ex s' => s'.σ l = some (.loop env ps assign body .busy pend) ∧
        ((ex = .normal ∧ Q (.bool true) (upd s'.σ l (some (.loop env ps assign body .ready none))) s'.n) ∨ (ex = .ret ∧ Q (.bool false) (upd s'.σ l (some (.loop env ps assign body .done (some .ret)))) s'.n))) (hd : assign.det = true ∧ body.det = true := by exact ⟨rfl, rfl⟩) : yieldW (run T) l args σ n lk Q := by
  unfold yieldW
  simp only [hl]
  refine ⟨ha, hlk, run_step hd ?_⟩
  simp only [jobW]
  refine wpC_mono (fun _ _ x => x) run_mono _ _ _ _ (fun e s ⟨h1, h2, h3, h4⟩ => ?_) (WC_ok _ _ _ _ _ _ h)
  obtain ⟨env1, σ1, n1, lk1⟩ := s
  simp only at h2 h3 h4
  subst h3
  refine ⟨h1, env, ps, assign, body, pend, h2, wpC_mono (fun _ _ x => x) run_mono _ _ _ _ (fun e2 s2 ⟨k2, k3⟩ => ?_) (WC_ok _ _ _ _ _ _ h4)⟩
  refine ⟨⟨env, ps, assign, body, pend, k2⟩, env, ps, assign, body, pend, k2, ?_⟩
  rcases k3 with ⟨rfl, k3⟩ | ⟨rfl, k3⟩
  · simpa using k3
  · simpa using k3

theorem hVal_frz {σ : Sto} {n : Nat} {l : List Hit} (h : l ≠ [] → σ n = some (.row 2 (hs l))) (k : Nat) : frz σ (k + 3) (hVal n l) = some (slV 2 hitV (optH l)) := by
  unfold hVal
  split
  · rename_i e; subst e; rfl
  · rename_i e
    have e1 : (rw' l.toArray).take l.length = hs l := by rw [rw_hs, hs_take, List.take_length]
    rw [frz_pre (d := l.toArray) (by simp) (by rw [rw_hs]; exact h e) k, e1]
    simp [optH, e, slV, hs]

/-- What goes over rows: each is yielded in turn; w numbers from 6 on are its own. -/
def Iter (F : Nat) (caps : List V) (items : List Rw) (w : Nat) : Prop :=
  ∀ (J : List Rw → Sto → Nat → Prop) (D : Sto → Nat → Prop) (ok : Rw → Bool) (σ : Sto),
    (∀ pre σ n σ' n', J pre σ n → n ≤ n' → (∀ i, i < n → (i < 6 ∨ 6 + w ≤ i) → σ' i = σ i) → J pre σ' n') →
    (∀ σ n σ' n', D σ n → (∀ i, i < 6 → σ' i = σ i) → D σ' n') →
    (∀ pre x σ n, J pre σ n → 6 + w ≤ n → x ∈ items → pre.length < items.length → yieldW (run T) 5 [.int .u64 x.id, slV 1 i32V x.v] σ n 0 (fun y σ' n' => (∀ i, 6 ≤ i → i < 6 + w → σ' i = σ i) ∧ n ≤ n' ∧
      ((ok x = true ∧ y = .bool true ∧ J (pre ++ [x]) σ' n') ∨ (ok x = false ∧ y = .bool false ∧ D σ' n')))) →
    (∀ σ' n', 6 + w ≤ n' → (∀ i, i < 6 → σ' i = σ i) → J [] σ' n') →
    run T (.raw F (.yld 5 :: caps) σ 6 0) (memQ fun _ σ' n' => (items.all ok = true ∧ J items σ' n') ∨ (items.all ok = false ∧ D σ' n'))

def asg32 : AC := (.seq (.reg [⟨(some 9), none, .mov (.tmp 14)⟩]) (.reg [⟨(some 10), none, .mov (.tmp 15)⟩]))
def bd32 : AC := (.block 1 (.seq (.reg [⟨(some 17), none, .load false 1 (.tmp 5)⟩,
       ⟨(some 18), none, .mov (.tmp 9)⟩,
       ⟨(some 19), none, .mov (.tmp 10)⟩,
       ⟨(some 20), none, .callv (.tmp 17) [(.tmp 18), (.tmp 19)]⟩,
       ⟨(some 16), none, .mov (.tmp 20)⟩,
       ⟨(some 21), none, .ext (.tmp 16) 0⟩,
       ⟨(some 22), none, .ext (.tmp 16) 1⟩,
       ⟨(some 11), none, .alloc (.agg [(.int .u64 0), (.int .u64 0)])⟩,
       ⟨none, none, .store 2 (.tmp 11) (.tmp 21)⟩,
       ⟨(some 12), none, .mov (.tmp 22)⟩])
     (.seq (.seq (.reg [⟨(some 23), none, .mov (.tmp 12)⟩,
       ⟨(some 24), none, .bin .neq (.tmp 23) (.con (.int .i64 0))⟩])
     (.cond (.tmp 24)
      (.seq (.reg [⟨(some 25), none, .mov (.tmp 12)⟩,
        ⟨none, none, .store 1 (.tmp 6) (.con .nilS)⟩,
        ⟨none, none, .store 1 (.tmp 7) (.tmp 25)⟩])
      .ret)
      .skip))
     (.reg [⟨(some 26), none, .load false 1 (.tmp 8)⟩,
       ⟨(some 27), none, .load true 2 (.tmp 11)⟩,
       ⟨(some 28), none, .lit 2 [(.tmp 27)]⟩,
       ⟨(some 29), none, .append 2 16 (.tmp 26) (.tmp 28)⟩,
       ⟨none, none, .store 1 (.tmp 8) (.tmp 29)⟩]))))
theorem w_asg32 (env : Nat → V) (σ : Sto) (n lk : Nat) (Q : Ex → St → Prop) : WC T asg32 env σ n lk Q = WC T (.seq (.reg [⟨(some 9), none, .mov (.tmp 14)⟩]) (.reg [⟨(some 10), none, .mov (.tmp 15)⟩])) env σ n lk Q := rfl
theorem w_bd32 (env : Nat → V) (σ : Sto) (n lk : Nat) (Q : Ex → St → Prop) : WC T bd32 env σ n lk Q = WC T (.block 1 (.seq (.reg [⟨(some 17), none, .load false 1 (.tmp 5)⟩,
       ⟨(some 18), none, .mov (.tmp 9)⟩,
       ⟨(some 19), none, .mov (.tmp 10)⟩,
       ⟨(some 20), none, .callv (.tmp 17) [(.tmp 18), (.tmp 19)]⟩,
       ⟨(some 16), none, .mov (.tmp 20)⟩,
       ⟨(some 21), none, .ext (.tmp 16) 0⟩,
       ⟨(some 22), none, .ext (.tmp 16) 1⟩,
       ⟨(some 11), none, .alloc (.agg [(.int .u64 0), (.int .u64 0)])⟩,
       ⟨none, none, .store 2 (.tmp 11) (.tmp 21)⟩,
       ⟨(some 12), none, .mov (.tmp 22)⟩])
     (.seq (.seq (.reg [⟨(some 23), none, .mov (.tmp 12)⟩,
       ⟨(some 24), none, .bin .neq (.tmp 23) (.con (.int .i64 0))⟩])
     (.cond (.tmp 24)
      (.seq (.reg [⟨(some 25), none, .mov (.tmp 12)⟩,
        ⟨none, none, .store 1 (.tmp 6) (.con .nilS)⟩,
        ⟨none, none, .store 1 (.tmp 7) (.tmp 25)⟩])
      .ret)
      .skip))
     (.reg [⟨(some 26), none, .load false 1 (.tmp 8)⟩,
       ⟨(some 27), none, .load true 2 (.tmp 11)⟩,
       ⟨(some 28), none, .lit 2 [(.tmp 27)]⟩,
       ⟨(some 29), none, .append 2 16 (.tmp 26) (.tmp 28)⟩,
       ⟨none, none, .store 1 (.tmp 8) (.tmp 29)⟩])))) env σ n lk Q := rfl

def hitQ (q : Option (List Int)) (r : Rw) : Hit := ⟨r.id, distI q r.v⟩
structure Jq (q : Option (List Int)) (k : Int) (env : Nat → V) (w : Nat) (pre : List Rw) (σ : Sto) (n : Nat) : Prop where
  hn : 6 + w ≤ n
  s0 : σ 0 = some (.row 2 [.agg [slV 1 i32V q, .int .i64 k]])
  s1 : σ 1 = some (.row 1 [.bnd 37 [.agg [slV 1 i32V q, .int .i64 k]]])
  s2 : σ 2 = some (.row 1 [.nilS])
  s3 : σ 3 = some (.row 1 [.int .i64 0])
  s5 : σ 5 = some (.loop env [14, 15] asg32 bd32 .ready none)
  s4 : ∃ v, σ 4 = some (.row 1 [v]) ∧ Pl σ (6 + w) n 2 v (oH (pre.map (hitQ q)))
structure Dq (env : Nat → V) (σ : Sto) (n : Nat) : Prop where
  s2 : σ 2 = some (.row 1 [.nilS])
  s3 : σ 3 = some (.row 1 [.int .i64 151])
  s5 : σ 5 = some (.loop env [14, 15] asg32 bd32 .done (some .ret))

theorem Jq.frame {q : Option (List Int)} {k : Int} {env : Nat → V} {w : Nat} {pre : List Rw} {σ σ' : Sto} {n n' : Nat} (h : Jq q k env w pre σ n) (hn : n ≤ n') (hs : ∀ i, i < n → (i < 6 ∨ 6 + w ≤ i) → σ' i = σ i) : Jq q k env w pre σ' n' := by
  obtain ⟨h1, h2, h3, h4, h5, h6, v, h7, h8⟩ := h
  exact ⟨by omega, by rw [hs 0 (by omega) (by omega), h2], by rw [hs 1 (by omega) (by omega), h3], by rw [hs 2 (by omega) (by omega), h4], by rw [hs 3 (by omega) (by omega), h5], by rw [hs 5 (by omega) (by omega), h6],
    v, by rw [hs 4 (by omega) (by omega), h7], h8.loc (fun i h1 h2 => hs i h2 (by omega)) hn⟩

theorem hy32 (q : Option (List Int)) (k : Int) (hq : okV q = true) (env : Nat → V) (w : Nat) (he5 : env 5 = .ptr 1 1 0 0) (he6 : env 6 = .ptr 2 1 0 0) (he7 : env 7 = .ptr 3 1 0 0) (he8 : env 8 = .ptr 4 1 0 0) (pre : List Rw) (x : Rw) (hx : okV x.v = true) (hpre : pre.length < 1000000)
    (σ : Sto) (n : Nat) (hJ : Jq q k env w pre σ n) (MP : V → Sto → Nat → Prop)
    (hT : decide ((lst q).length = (lst x.v).length) = true → ∀ σ' n', (∀ i, 6 ≤ i → i < 6 + w → σ' i = σ i) → n ≤ n' → Jq q k env w (pre ++ [x]) σ' n' → MP (.bool true) σ' n')
    (hF : decide ((lst q).length = (lst x.v).length) = false → ∀ σ' n', (∀ i, 6 ≤ i → i < 6 + w → σ' i = σ i) → n ≤ n' → Dq env σ' n' → MP (.bool false) σ' n') :
    yieldW (run T) 5 [.int .u64 x.id, slV 1 i32V x.v] σ n 0 MP := by
  obtain ⟨h1, h2, h3, h4, h5, h6, v, h7, h8⟩ := hJ
  refine yieldW_gs h6 rfl (Nat.zero_le _) ?_
  have f := f37 q x.v k x.id (by have := (okV_len hq).1; omega) (by have := (okV_len hx).1; omega)
  have q0 : (5 = n) = False := by simp; omega
  have q1 : (n = 5) = False := by simp; omega
  have p2 : (2 = n) = False := by simp; omega
  have p3 : (3 = n) = False := by simp; omega
  have p4 : (4 = n) = False := by simp; omega
  have p5 : (1 = n) = False := by simp; omega
  by_cases hl : (lst q).length = (lst x.v).length
  · have hd : decide ((lst q).length = (lst x.v).length) = true := by simp [hl]
    have e1 : disE q x.v = 0 := by simp [disE, vAll, hq, hx, hl]
    have e2 : disV q x.v = distI q x.v := by unfold disE at e1; simp [disV, e1]
    rw [e1, e2] at f
    have hT := hT hd
    obtain ⟨σ1, hσ1⟩ : ∃ σ1, σ1 = upd (upd (upd σ 5 (some (.loop env [14, 15] asg32 bd32 .busy none))) n (some (.row 2 [.agg [.int .u64 0, .int .u64 0]]))) n (some (.row 2 [.agg [.int .u64 x.id, .int .u64 (distI q x.v)]])) := ⟨_, rfl⟩
    have so : ∀ i, i ≠ 5 → i < n → σ1 i = σ i := fun i g1 g2 => by
      have : i ≠ n := by omega
      rw [hσ1]; simp [upd, this, g1]
    have sn : σ1 n = some (.row 2 [.agg [.int .u64 x.id, .int .u64 (distI q x.v)]]) := by rw [hσ1]; simp [upd]
    have s5 : σ1 5 = some (.loop env [14, 15] asg32 bd32 .busy none) := by rw [hσ1]; simp [upd, q0]
    have s4 : σ1 4 = some (.row 1 [v]) := by rw [so 4 (by decide) (by omega), h7]
    have hc := h8.cells
    have ho := h8.one
    simp +contextual -implicitDefEqProofs (maxSteps := 2000000) only [↓wP, wQ, wQ1, wQ2, wQ3, wR, boxE, partsOf, ↓reduceIte, Nat.reduceEqDiff, Nat.reduceAdd, Nat.reduceSub, Nat.reduceLeDiff, Nat.reduceLT, Nat.reduceMul, reduceCtorEq, Int.reduceBNe, Int.reduceBEq, Int.reduceLT, Int.reduceLE, Int.reduceGT, bind_cons, bind_nil, w_asg32, w_bd32, he5, he6, he7, he8, h3, h6, h7, f, q0, q1, p2, p3, p4, p5, ← hσ1, s4, sn, s5, hc]
    refine stepW_app1 (m := 6 + w) (n0 := n) (σ0 := σ) (o := oH (pre.map (hitQ q))) h8 (fun i g1 g2 => ?_) (by omega) (by omega) (Nat.zero_le _) ?_ (fun _ σ2 g1 g2 => ?_)
    · have : i ≠ n + 1 := by omega
      simp [upd, this, so i (by omega) g2]
    · rw [lst_oH, hs_len, List.length_map]; unfold LIM; omega
    · rw [lst_oH, hs_len, List.length_map] at g1 ⊢
      have hv : ∀ i, i < 6 + w → ∀ off len s, v ≠ .ref i off len s := by
        intro i hi off len s e
        subst e
        cases ho' : oH (pre.map (hitQ q)) with
        | none => rw [ho'] at h8; simp only [Pl] at h8; cases h8
        | some xs => rw [ho'] at h8; obtain ⟨j, e, -, e2, -⟩ := h8; simp only [V.ref.injEq] at e; omega
      have t : ∀ i, i < n → (∀ off len s, v ≠ .ref i off len s) → σ2 i = σ1 i := fun i hi hne => by
        rw [g2 i (by omega) hne]
        have : i ≠ n + 1 := by omega
        simp [upd, this]
      have t4 := (t 4 (by omega) (hv 4 (by omega))).trans s4
      have t5 := (t 5 (by omega) (hv 5 (by omega))).trans s5
      have z4 : (4 = 5) = False := by simp
      have hsp : ∀ c, spliceC v 0 [c] = c := fun c => by
        cases ho' : oH (pre.map (hitQ q)) with
        | none => rw [ho'] at h8; simp only [Pl] at h8; subst h8; rfl
        | some xs => rw [ho'] at h8; obtain ⟨j, rfl, -⟩ := h8; rfl
      simp +contextual -implicitDefEqProofs (maxSteps := 2000000) only [↓wP, wQ, wQ1, wQ2, wQ3, wR, boxE, partsOf, ↓reduceIte, Nat.reduceEqDiff, Nat.reduceAdd, Nat.reduceSub, Nat.reduceLeDiff, Nat.reduceLT, Nat.reduceMul, reduceCtorEq, Int.reduceBNe, Int.reduceBEq, Int.reduceLT, Int.reduceLE, Int.reduceGT, he8, t4, t5, hsp]
      have tt : ∀ i, i < 6 + w → i ≠ 5 → σ2 i = σ i := fun i hi h5 => (t i (by omega) (hv i hi)).trans (so i h5 (by omega))
      have eo : oH ((pre ++ [x]).map (hitQ q)) = some (hs (pre.map (hitQ q)) ++ [.agg [.int .u64 x.id, .int .u64 (distI q x.v)]]) := by
        simp [oH, hs, hitV, hitQ]
      refine .inl (hT _ _ (fun i a1 a2 => ?_) (by omega) ⟨by omega, ?_, ?_, ?_, ?_, ?_, .ref (n + 2) 0 (pre.length + 1) 2, ?_, ?_⟩)
      · have b1 : i ≠ 4 := by omega
        have b2 : i ≠ 5 := by omega
        simp [upd, b1, b2, tt i a2 b2]
      · simp [upd, tt 0 (by omega) (by decide), h2]
      · simp [upd, tt 1 (by omega) (by decide), h3]
      · simp [upd, tt 2 (by omega) (by decide), h4]
      · simp [upd, tt 3 (by omega) (by decide), h5]
      · simp [upd]
      · simp [upd]
      · rw [eo]
        exact g1.loc (fun i a1 a2 => by
          have b1 : i ≠ 4 := by omega
          have b2 : i ≠ 5 := by omega
          simp [upd, b1, b2]) (Nat.le_refl _)
  · have hd : decide ((lst q).length = (lst x.v).length) = false := by simp [hl]
    have e1 : disE q x.v = 151 := by simp [disE, vAll, hq, hx, hl]
    have e2 : disV q x.v = 0 := by unfold disE at e1; simp [disV, e1]
    rw [e1, e2] at f
    have hF := hF hd
    simp +contextual -implicitDefEqProofs (maxSteps := 2000000) only [↓wP, wQ, wQ1, wQ2, wQ3, wR, boxE, partsOf, ↓reduceIte, Nat.reduceEqDiff, Nat.reduceAdd, Nat.reduceSub, Nat.reduceLeDiff, Nat.reduceLT, Nat.reduceMul, reduceCtorEq, Int.reduceBNe, Int.reduceBEq, Int.reduceLT, Int.reduceLE, Int.reduceGT, bind_cons, bind_nil, w_asg32, w_bd32, he5, he6, he7, he8, h3, h4, h5, h6, h7, f, q0, q1, p2, p3, p4, p5]
    refine .inr (hF _ _ (fun i a1 a2 => ?_) (by omega) ⟨?_, ?_, ?_⟩)
    · have b1 : i ≠ 5 := by omega
      have b2 : i ≠ 3 := by omega
      have b3 : i ≠ 2 := by omega
      have b4 : i ≠ n := by omega
      simp [upd, b1, b2, b3, b4]
    · simp [upd]
    · simp [upd]
    · simp [upd]

def sameD (q : Option (List Int)) (x : Rw) : Bool := decide ((lst q).length = (lst x.v).length)
def itL (q : Option (List Int)) (k : Nat) (l : List Rw) : List Hit := if l.all (sameD q) then fst' k (l.map (hitQ q)) else []
def itE (q : Option (List Int)) (l : List Rw) : Int := if l.all (sameD q) then 0 else 151

theorem r32 (q : Option (List Int)) (k : Nat) (F : Nat) (caps : List V) (items : List Rw) (w : Nat) (hq : okV q = true) (hk1 : 1 ≤ k) (hk2 : k ≤ 16) (hit : ∀ x ∈ items, okV x.v = true) (hlen : items.length ≤ 2000) (hI : Iter F caps items w) :
    res T 32 [.agg [slV 1 i32V q, .int .i64 (k : Int)], .fn F caps, .bnd 37 [.agg [slV 1 i32V q, .int .i64 (k : Int)]]] = some (.tup [slV 2 hitV (optH (itL q k items)), .int .i64 (itE q items)]) := by
  refine run_res (run_pure (fn := g32) rfl rfl (by decide) ?_)
  simp only [g32, b32]
  simp +contextual -implicitDefEqProofs (maxSteps := 2000000) only [↓wP, wQ, wQ1, wQ2, wQ3, wR, boxE, partsOf, ↓reduceIte, Nat.reduceEqDiff, Nat.reduceAdd, Nat.reduceSub, Nat.reduceLeDiff, Nat.reduceLT, Nat.reduceMul, reduceCtorEq, Int.reduceBNe, Int.reduceBEq, Int.reduceLT, Int.reduceLE, Int.reduceGT]
  generalize hE : pt (pt (pt (pt (pt (pt (envOf [V.agg [slV 1 i32V q, V.int IntKind.i64 (k : Int)], V.fn F caps, V.bnd 37 [V.agg [slV 1 i32V q, V.int IntKind.i64 (k : Int)]]]) 3 (V.ptr 0 2 0 0)) 5 (V.ptr 1 1 0 0)) 6 (V.ptr 2 1 0 0)) 7 (V.ptr 3 1 0 0)) 8 (V.ptr 4 1 0 0)) 13 (V.fn F caps) = env
  have e3 : env 3 = .ptr 0 2 0 0 := by rw [← hE]; rfl
  have e5 : env 5 = .ptr 1 1 0 0 := by rw [← hE]; rfl
  have e6 : env 6 = .ptr 2 1 0 0 := by rw [← hE]; rfl
  have e7 : env 7 = .ptr 3 1 0 0 := by rw [← hE]; rfl
  have e8 : env 8 = .ptr 4 1 0 0 := by rw [← hE]; rfl
  have e13 : env 13 = V.fn F caps := by rw [← hE]; rfl
  clear hE
  refine WC_rangeF (f := F) (caps := caps) e13 (Nat.zero_le _) ?_
  refine run_mono _ _ _ (fun o ho => ?_) (hI (fun pre σ n => Jq q (k : Int) env w pre σ n) (Dq env) (sameD q) _ ?_ ?_ ?_ ?_)
  · cases o <;> try exact ho.elim
    rename_i v σ' n'
    rcases ho with ⟨hB, hJ⟩ | ⟨hB, hD⟩
    · obtain ⟨h1, h2, h3, h4, h5, h6, v, h7, h8⟩ := hJ
      refine ⟨_, _, _, _, _, _, h6, by decide, ?_⟩
      have hL : itL q k items = fst' k (items.map (hitQ q)) := by unfold itL; rw [hB]; rfl
      have hE : itE q items = 0 := by unfold itE; rw [hB]; rfl
      rw [hL, hE]
      have hf : Hf (upd σ' 5 none) v (items.map (hitQ q)) := ⟨_, lst_optH _, by
        refine plHf (m := 6 + w) (n := n') (h8.loc (fun i a1 a2 => ?_) (Nat.le_refl _))
        have : i ≠ 5 := by omega
        simp [upd, this]⟩
      have mE : merE (k : Int) (items.map (hitQ q)) = 0 := by
        unfold merE; rw [if_neg (by omega), if_neg (by rw [List.length_map]; omega)]
      have mV : merV (k : Int) (items.map (hitQ q)) = fst' k (items.map (hitQ q)) := by unfold merV; rw [if_pos mE]; rfl
      have f := fun fs => f56 (k : Int) hf (by rw [List.length_map]; omega) fs n' 0
      rw [mE, mV] at f
      generalize fst' k (items.map (hitQ q)) = l at *
      have hcl : (hVal n' l).cells = [hVal n' l] := by unfold hVal; split <;> rfl
      have hon : (hVal n' l).one = true := by unfold hVal; split <;> rfl
      have hat : ∀ i, i < n' → hSto (upd σ' 5 none) n' l i = upd σ' 5 none i := fun i hi => hSto_at _ n' l hi
      have t2 : hSto (upd σ' 5 none) n' l 2 = some (.row 1 [.nilS]) := by rw [hat 2 (by omega)]; simp [upd, h4]
      have t3 : hSto (upd σ' 5 none) n' l 3 = some (.row 1 [.int .i64 0]) := by rw [hat 3 (by omega)]; simp [upd, h5]
      have tn : l ≠ [] → hSto (upd σ' 5 none) n' l n' = some (.row 2 (hs l)) := fun hne => by unfold hSto; rw [if_neg hne]; simp [upd]
      have z2 : (2 = n') = False := by simp; omega
      have z3 : (3 = n') = False := by simp; omega
      have hfz : ∀ (σ3 : Sto), (∀ i, i ≠ 2 → i ≠ 3 → σ3 i = hSto (upd σ' 5 none) n' l i) → frz σ3 11 (hVal n' l) = some (slV 2 hitV (optH l)) := fun σ3 h9 => hVal_frz (fun hne => by rw [h9 n' (by omega) (by omega)]; exact tn hne) 8
      have c4 : upd σ' 5 none 4 = some (.row 1 [v]) := by simp [upd, h7]
      have hc := h8.cells
      generalize hSto (upd σ' 5 none) n' l = σ2 at *
      generalize hVal n' l = hv at *
      generalize hN n' l = nn at *
      simp +contextual -implicitDefEqProofs (maxSteps := 2000000) only [↓wP, wQ, wQ1, wQ2, wQ3, wR, boxE, partsOf, ↓reduceIte, Nat.reduceEqDiff, Nat.reduceAdd, Nat.reduceSub, Nat.reduceLeDiff, Nat.reduceLT, Nat.reduceMul, reduceCtorEq, Int.reduceBNe, Int.reduceBEq, Int.reduceLT, Int.reduceLE, Int.reduceGT, Option.getD_none, e3, e6, e7, e8, h2, h7, hc, f, hcl, hon, t2, t3, z2, z3]
      rw [hfz _ (fun i a b => by simp [upd, a, b])]
      rfl
    · obtain ⟨h2, h3, h5⟩ := hD
      refine ⟨_, _, _, _, _, _, h5, by decide, ?_⟩
      have hL : itL q k items = [] := by unfold itL; rw [hB]; rfl
      have hE : itE q items = 151 := by unfold itE; rw [hB]; rfl
      rw [hL, hE]
      simp +contextual -implicitDefEqProofs (maxSteps := 2000000) only [↓wP, wQ, wQ1, wQ2, wQ3, wR, boxE, partsOf, ↓reduceIte, Nat.reduceEqDiff, Nat.reduceAdd, Nat.reduceSub, Nat.reduceLeDiff, Nat.reduceLT, Nat.reduceMul, reduceCtorEq, Int.reduceBNe, Int.reduceBEq, Int.reduceLT, Int.reduceLE, Int.reduceGT, Option.getD_some, e6, e7, h2, h3]
      rfl
  · exact fun pre σ n σ' n' h h1 h2 => h.frame h1 h2
  · exact fun σ n σ' n' h h2 => ⟨by rw [h2 2 (by decide), h.s2], by rw [h2 3 (by decide), h.s3], by rw [h2 5 (by decide), h.s5]⟩
  · intro pre x σ n hJ hn hx hp
    exact hy32 q (k : Int) hq env w e5 e6 e7 e8 pre x (hit x hx) (by omega) σ n hJ _ (fun hd σ' n' a1 a2 a3 => ⟨a1, a2, .inl ⟨hd, rfl, a3⟩⟩) (fun hd σ' n' a1 a2 a3 => ⟨a1, a2, .inr ⟨hd, rfl, a3⟩⟩)
  · intro σ' n' hn hs
    exact ⟨hn, by rw [hs 0 (by decide)]; simp [upd], by rw [hs 1 (by decide)]; simp [upd], by rw [hs 2 (by decide)]; simp [upd], by rw [hs 3 (by decide)]; simp [upd], by rw [hs 5 (by decide)]; rfl, .nilS, by rw [hs 4 (by decide)]; simp [upd], rfl⟩
end Go.Q.S11
end

section
/- Rows, gone over. -/
set_option linter.unusedSimpArgs false
set_option linter.unusedVariables false
namespace Go.Q.S11
open Go.Q Go.Sort

theorem iter44 (o : Option (List Rw)) (hl : (lst o).length < 9223372036854775808) : Iter 44 [.box [slV 2 rwV o]] (lst o) 0 := by
  intro J D ok σ hfr hfD hy hJ0
  refine run_rawE (fn := g44) rfl rfl ?_
  simp only [g44, b44]
  obtain ⟨MP, hMP⟩ : ∃ MP : Sto → Nat → Prop, MP = fun σ' n' => ((lst o).all ok = true ∧ J (lst o) σ' n') ∨ ((lst o).all ok = false ∧ D σ' n') := ⟨_, rfl⟩
  simp only [← congrFun (congrFun hMP _) _]
  simp +contextual -implicitDefEqProofs (maxSteps := 2000000) only [↓wP, wQ, wQ1, wQ2, wQ3, wR, boxE, partsOf, ↓reduceIte, Nat.reduceEqDiff, Nat.reduceAdd, Nat.reduceSub, Nat.reduceLeDiff, Nat.reduceLT, Nat.reduceMul, reduceCtorEq, Int.reduceBNe, Int.reduceBEq, Int.reduceLT, Int.reduceLE, Int.reduceGT]
  refine WC_for (lst o).length 0 (fun (j : Nat) env σ n => env 0 = .yld 5 ∧ env 5 = slV 2 rwV o ∧ 6 ≤ n ∧ ((lst o).take j).all ok = true ∧ J ((lst o).take j) σ n) (by omega) (by decide) (by decide) (fun _ _ => rfl) (fun _ _ _ => rfl) ?_ ?_ _ _ _ rfl rfl ?_
  · intro j env σ n hj h1 h2 ⟨h3, h4, h5, h6, h7⟩
    simp only [vl_tmp] at h2
    have hx : (lst o)[j]? = some (lst o)[j] := List.getElem?_eq_getElem hj
    have hm : (lst o)[j] ∈ lst o := List.getElem_mem hj
    have ht : (lst o).take (j + 1) = (lst o).take j ++ [(lst o)[j]] := (List.take_append_getElem hj).symm
    generalize (lst o)[j] = x at *
    have hJ1 := hfr _ _ _ (upd (upd σ n (some (.row 2 [.agg [.int .u64 0, .nilS]]))) n (some (.row 2 [.agg [.int .u64 x.id, slV 1 i32V x.v]]))) (n + 1) h7 (by omega) (fun i hi _ => by
      have : i ≠ n := by omega
      simp [upd, this])
    simp +contextual -implicitDefEqProofs (maxSteps := 2000000) only [↓wP, wQ, wQ1, wQ2, wQ3, wR, boxE, partsOf, ↓reduceIte, Nat.reduceEqDiff, Nat.reduceAdd, Nat.reduceSub, Nat.reduceLeDiff, Nat.reduceLT, Nat.reduceMul, reduceCtorEq, Int.reduceBNe, Int.reduceBEq, Int.reduceLT, Int.reduceLE, Int.reduceGT, h1, h2, h3, h4, hx, rwV_eq]
    refine stepW_yld (yieldW_mono (fun _ _ x => x) run_mono (fun y σ' n' ⟨a1, a2, a3⟩ => ?_) (hy _ x _ _ hJ1 (by omega) hm (by rw [List.length_take]; omega)))
    rcases a3 with ⟨b1, rfl, b3⟩ | ⟨b1, rfl, b3⟩
    · have hall : ((lst o).take (j + 1)).all ok = true := by rw [ht, List.all_append, h6]; simp [b1]
      rw [← ht] at b3
      simp +contextual -implicitDefEqProofs (maxSteps := 2000000) only [↓wP, wQ, wQ1, wQ2, wQ3, wR, boxE, partsOf, ↓reduceIte, Nat.reduceEqDiff, Nat.reduceAdd, Nat.reduceSub, Nat.reduceLeDiff, Nat.reduceLT, Nat.reduceMul, reduceCtorEq, Int.reduceBNe, Int.reduceBEq, Int.reduceLT, Int.reduceLE, Int.reduceGT, h1, h2, h3, h4]
      exact ⟨by omega, hall, b3⟩
    · have hall : (lst o).all ok = false := by
        rw [List.all_eq_false]
        exact ⟨x, hm, by simp [b1]⟩
      have hmp : MP σ' n' := by rw [hMP]; exact .inr ⟨hall, b3⟩
      simp +contextual -implicitDefEqProofs (maxSteps := 2000000) only [↓wP, wQ, wQ1, wQ2, wQ3, wR, boxE, partsOf, ↓reduceIte, Nat.reduceEqDiff, Nat.reduceAdd, Nat.reduceSub, Nat.reduceLeDiff, Nat.reduceLT, Nat.reduceMul, reduceCtorEq, Int.reduceBNe, Int.reduceBEq, Int.reduceLT, Int.reduceLE, Int.reduceGT, h1, h2, h3, h4]
      exact hmp
  · intro env σ n ⟨h3, h4, h5, h6, h7⟩ h1 h2
    rw [List.take_length] at h6 h7
    have hmp : MP σ n := by rw [hMP]; exact .inl ⟨h6, h7⟩
    simp +contextual -implicitDefEqProofs (maxSteps := 2000000) only [↓wP, wQ, wQ1, wQ2, wQ3, wR, boxE, partsOf, ↓reduceIte, Nat.reduceEqDiff, Nat.reduceAdd, Nat.reduceSub, Nat.reduceLeDiff, Nat.reduceLT, Nat.reduceMul, reduceCtorEq, Int.reduceBNe, Int.reduceBEq, Int.reduceLT, Int.reduceLE, Int.reduceGT]
    exact hmp
  · simp +contextual -implicitDefEqProofs (maxSteps := 2000000) only [↓wP, wQ, wQ1, wQ2, wQ3, wR, boxE, partsOf, ↓reduceIte, Nat.reduceEqDiff, Nat.reduceAdd, Nat.reduceSub, Nat.reduceLeDiff, Nat.reduceLT, Nat.reduceMul, reduceCtorEq, Int.reduceBNe, Int.reduceBEq, Int.reduceLT, Int.reduceLE, Int.reduceGT]
    simpa using hJ0 σ 6 (by omega) (fun _ _ => rfl)

theorem callE_sh {f : Nat} {args ts : List V} {r : V} {σ : Sto} (hm : T.mode f ≠ .raw) (hts : args.mapM (frz σ 12) = some ts) (hr : res T f ts = some r) (ht : ∀ σ n, thaw σ n r = (r, σ, n)) (n : Nat) :
    ∃ σ', callE T true f args σ n 0 = some (r, σ', n) := by
  rw [callE_eq hm, hts, callR_some, hr, retE_some]
  unfold backE
  split
  · exact ⟨σ, by rw [ht]⟩
  · refine ⟨dropL σ (args.flatMap (rch σ 12)), ?_⟩
    rw [if_pos (by simp), ht]

theorem r43 (id : Int) (v : Option (List Int)) (hv : (lst v).length < 9223372036854775808) : res T 43 [.agg [.int .u64 id, slV 1 i32V v]] = some (.int .i64 (if okV v then 0 else 170)) := by
  refine run_res (run_pure (fn := g43) rfl rfl (by decide) ?_)
  simp only [g43, b43]
  have f := f38 v hv
  cases ho : okV v
  · rw [ho] at f
    simp +contextual -implicitDefEqProofs (maxSteps := 2000000) only [↓wP, wQ, wQ1, wQ2, wQ3, wR, boxE, partsOf, ↓reduceIte, Nat.reduceEqDiff, Nat.reduceAdd, Nat.reduceSub, Nat.reduceLeDiff, Nat.reduceLT, Nat.reduceMul, reduceCtorEq, Int.reduceBNe, Int.reduceBEq, Int.reduceLT, Int.reduceLE, Int.reduceGT, f, ho]
  · rw [ho] at f
    simp +contextual -implicitDefEqProofs (maxSteps := 2000000) only [↓wP, wQ, wQ1, wQ2, wQ3, wR, boxE, partsOf, ↓reduceIte, Nat.reduceEqDiff, Nat.reduceAdd, Nat.reduceSub, Nat.reduceLeDiff, Nat.reduceLT, Nat.reduceMul, reduceCtorEq, Int.reduceBNe, Int.reduceBEq, Int.reduceLT, Int.reduceLE, Int.reduceGT, f, ho]

theorem f43 (id : Int) (v : Option (List Int)) (hv : (lst v).length < 9223372036854775808) (fs : Bool) (σ : Sto) (n lk : Nat) : callE T fs 43 [.agg [.int .u64 id, slV 1 i32V v]] σ n lk = some (.int .i64 (if okV v then 0 else 170), σ, n) :=
  callE_tr (by decide) (r43 id v hv) (by simp [Tr, Tr_slV]) rfl fs σ n lk

def okR (r : Rw) : Bool := okV r.v
def rowsE (q : Option (List Int)) (k : Int) (l : List Rw) : Int := if qE q k ≠ 0 then qE q k else if l.all okR = false then 170 else itE q l
def rowsL (q : Option (List Int)) (k : Int) (l : List Rw) : List Hit := if qE q k ≠ 0 then [] else if l.all okR = false then [] else itL q k.toNat l

theorem qE_ok {q : Option (List Int)} {k : Int} (h : qE q k = 0) : okV q = true ∧ 1 ≤ k ∧ k ≤ 16 := by
  unfold qE at h
  split at h
  · cases h
  · split at h
    · cases h
    · split at h
      · rename_i h1 h2 h3; exact ⟨h3, by omega, by omega⟩
      · cases h

theorem r21 (o : Option (List Rw)) (q : Option (List Int)) (k : Int) (hl : (lst o).length ≤ 300) (hv : ∀ r ∈ lst o, (lst r.v).length < 9223372036854775808) (hq : (lst q).length < 9223372036854775808) : res T 21 [slV 2 rwV o, .agg [slV 1 i32V q, .int .i64 k]] = some (.tup [slV 2 hitV (optH (rowsL q k (lst o))), .int .i64 (rowsE q k (lst o))]) := by
  refine run_res (run_pure (fn := g21) rfl rfl (by decide) ?_)
  simp only [g21, b21]
  have f1 := f13 q k hq
  by_cases he : qE q k = 0
  · obtain ⟨oq, hk1, hk2⟩ := qE_ok he
    rw [he] at f1
    simp +contextual -implicitDefEqProofs (maxSteps := 2000000) only [↓wP, wQ, wQ1, wQ2, wQ3, wR, boxE, partsOf, ↓reduceIte, Nat.reduceEqDiff, Nat.reduceAdd, Nat.reduceSub, Nat.reduceLeDiff, Nat.reduceLT, Nat.reduceMul, reduceCtorEq, Int.reduceBNe, Int.reduceBEq, Int.reduceLT, Int.reduceLE, Int.reduceGT, f1]
    refine WC_for (lst o).length 0 (fun (j : Nat) env σ n => env 2 = .ptr 0 1 0 0 ∧ env 3 = .ptr 1 2 0 0 ∧ env 16 = slV 2 rwV o ∧ 2 ≤ n ∧ σ 0 = some (.row 1 [slV 2 rwV o]) ∧ σ 1 = some (.row 2 [.agg [slV 1 i32V q, .int .i64 k]]) ∧ ((lst o).take j).all okR = true) (by omega) (by decide) (by decide) (fun _ _ => rfl) (fun _ _ _ => rfl) ?_ ?_ _ _ _ rfl rfl ?_
    · intro j env σ n hj h1 h2 ⟨h3, h4, h5, h6, h7, h8, h9⟩
      simp only [vl_tmp] at h2
      have hx : (lst o)[j]? = some (lst o)[j] := List.getElem?_eq_getElem hj
      have hm : (lst o)[j] ∈ lst o := List.getElem_mem hj
      have ht : (lst o).take (j + 1) = (lst o).take j ++ [(lst o)[j]] := (List.take_append_getElem hj).symm
      generalize (lst o)[j] = x at *
      have f43' := f43 x.id x.v (hv x hm)
      have q0 : (0 = n) = False := by simp; omega
      have q1 : (1 = n) = False := by simp; omega
      cases hb : okV x.v
      · rw [hb] at f43'
        have hall : (lst o).all okR = false := by
          rw [List.all_eq_false]
          exact ⟨x, hm, by simp [okR, hb]⟩
        have e1 : rowsE q k (lst o) = 170 := by simp [rowsE, he, hall]
        have e2 : rowsL q k (lst o) = [] := by simp [rowsL, he, hall]
        rw [e1, e2]
        simp +contextual -implicitDefEqProofs (maxSteps := 2000000) only [↓wP, wQ, wQ1, wQ2, wQ3, wR, boxE, partsOf, ↓reduceIte, Nat.reduceEqDiff, Nat.reduceAdd, Nat.reduceSub, Nat.reduceLeDiff, Nat.reduceLT, Nat.reduceMul, reduceCtorEq, Int.reduceBNe, Int.reduceBEq, Int.reduceLT, Int.reduceLE, Int.reduceGT, h1, h2, h3, h4, h5, hx, rwV_eq, f43', q0, q1]
        rfl
      · rw [hb] at f43'
        have hall : ((lst o).take (j + 1)).all okR = true := by rw [ht, List.all_append, h9]; simp [okR, hb]
        simp +contextual -implicitDefEqProofs (maxSteps := 2000000) only [↓wP, wQ, wQ1, wQ2, wQ3, wR, boxE, partsOf, ↓reduceIte, Nat.reduceEqDiff, Nat.reduceAdd, Nat.reduceSub, Nat.reduceLeDiff, Nat.reduceLT, Nat.reduceMul, reduceCtorEq, Int.reduceBNe, Int.reduceBEq, Int.reduceLT, Int.reduceLE, Int.reduceGT, h1, h2, h3, h4, h5, h7, h8, hx, rwV_eq, f43', q0, q1]
        exact ⟨by omega, hall⟩
    · intro env σ n ⟨h3, h4, h5, h6, h7, h8, h9⟩ h1 h2
      rw [List.take_length] at h9
      obtain ⟨kn, rfl⟩ : ∃ kn : Nat, k = (kn : Int) := ⟨k.toNat, by omega⟩
      have e1 : rowsE q (kn : Int) (lst o) = itE q (lst o) := by simp [rowsE, he, h9]
      have e2 : rowsL q (kn : Int) (lst o) = itL q kn (lst o) := by simp [rowsL, he, h9]
      rw [e1, e2]
      have r := r32 q kn 44 [.box [slV 2 rwV o]] (lst o) 0 oq (by omega) (by omega) (fun x hx => List.all_eq_true.1 h9 x hx) (by omega) (iter44 o (by omega))
      have hlen : ¬ (2000 : Int) < ((lst o).length : Int) := by omega
      have q0 : (0 = n) = False := by simp; omega
      have q1 : (1 = n) = False := by simp; omega
      obtain ⟨σ1, hσ1⟩ : ∃ σ1, σ1 = upd (upd σ n (some (.row 2 [.agg [.nilS, .int .i64 0]]))) n (some (.row 2 [.agg [slV 1 i32V q, .int .i64 (kn : Int)]])) := ⟨_, rfl⟩
      have s0 : σ1 0 = some (.row 1 [slV 2 rwV o]) := by rw [hσ1]; simp [upd, q0, h7]
      have sn : σ1 n = some (.row 2 [.agg [slV 1 i32V q, .int .i64 (kn : Int)]]) := by rw [hσ1]; simp [upd]
      have e : [V.agg [slV 1 i32V q, .int .i64 (kn : Int)], V.fn 44 [.ptr 0 1 0 0], V.bnd 37 [.agg [slV 1 i32V q, .int .i64 (kn : Int)]]].mapM (frz σ1 12) =
          some [V.agg [slV 1 i32V q, .int .i64 (kn : Int)], V.fn 44 [.box [slV 2 rwV o]], V.bnd 37 [.agg [slV 1 i32V q, .int .i64 (kn : Int)]]] := by
        have x1 : frz σ1 12 (.agg [slV 1 i32V q, .int .i64 (kn : Int)]) = some (.agg [slV 1 i32V q, .int .i64 (kn : Int)]) := (frz_tr σ1 12 _ (by simp [Tr, Tr_slV])).1
        have x2 : frz σ1 12 (.bnd 37 [.agg [slV 1 i32V q, .int .i64 (kn : Int)]]) = some (.bnd 37 [.agg [slV 1 i32V q, .int .i64 (kn : Int)]]) := (frz_tr σ1 12 _ (by simp [Tr, Tr_slV])).1
        have x3 : frz σ1 12 (.fn 44 [.ptr 0 1 0 0]) = some (.fn 44 [.box [slV 2 rwV o]]) := by
          simp only [frz, rowAt, s0, List.mapM_cons, List.mapM_nil, if_true, List.getElem?_cons_zero, Option.bind_some, cl_slV, List.drop_zero, frz_slV]
          rfl
        simp only [List.mapM_cons, List.mapM_nil, x1, x2, x3]
        rfl
      obtain ⟨σ2, f32⟩ := callE_sh (by decide) e r (fun σ n => by simp [thaw, thawL, thaw_slV]) (n + 1)
      simp +contextual -implicitDefEqProofs (maxSteps := 2000000) only [↓wP, wQ, wQ1, wQ2, wQ3, wR, boxE, partsOf, ↓reduceIte, Nat.reduceEqDiff, Nat.reduceAdd, Nat.reduceSub, Nat.reduceLeDiff, Nat.reduceLT, Nat.reduceMul, reduceCtorEq, Int.reduceBNe, Int.reduceBEq, Int.reduceLT, Int.reduceLE, Int.reduceGT, h1, h2, h3, h4, h5, h7, h8, hlen, q0, q1, ← hσ1, sn, f32]
    · simp +contextual -implicitDefEqProofs (maxSteps := 2000000) only [↓wP, wQ, wQ1, wQ2, wQ3, wR, boxE, partsOf, ↓reduceIte, Nat.reduceEqDiff, Nat.reduceAdd, Nat.reduceSub, Nat.reduceLeDiff, Nat.reduceLT, Nat.reduceMul, reduceCtorEq, Int.reduceBNe, Int.reduceBEq, Int.reduceLT, Int.reduceLE, Int.reduceGT]
  · have hd : (qE q k != 0) = true := by simpa using he
    have e1 : rowsE q k (lst o) = qE q k := by simp [rowsE, he]
    have e2 : rowsL q k (lst o) = [] := by simp [rowsL, he]
    rw [e1, e2]
    simp +contextual -implicitDefEqProofs (maxSteps := 2000000) only [↓wP, wQ, wQ1, wQ2, wQ3, wR, boxE, partsOf, ↓reduceIte, Nat.reduceEqDiff, Nat.reduceAdd, Nat.reduceSub, Nat.reduceLeDiff, Nat.reduceLT, Nat.reduceMul, reduceCtorEq, Int.reduceBNe, Int.reduceBEq, Int.reduceLT, Int.reduceLE, Int.reduceGT, f1, hd]
    rfl
theorem Nw_tup2 {k : Nat} {a b : V} (h : Nw k a = true) (h' : Nw k b = true) : Nw (k + 1) (.tup [a, b]) = true := by simp [Nw, h, h']
theorem f21 (o : Option (List Rw)) (q : Option (List Int)) (k : Int) (hl : (lst o).length ≤ 300) (hv : ∀ r ∈ lst o, (lst r.v).length < 9223372036854775808) (hq : (lst q).length < 9223372036854775808) (fs : Bool) (σ : Sto) (n lk : Nat) :
    callE T fs 21 [slV 2 rwV o, .agg [slV 1 i32V q, .int .i64 k]] σ n lk = some (.tup [slV 2 hitV (optH (rowsL q k (lst o))), .int .i64 (rowsE q k (lst o))], σ, n) :=
  callE_tr (by decide) (r21 o q k hl hv hq) (by simp [Tr, Tr_slV]) (Nw_tup2 (Nw_slV 2 hitV _ 10) rfl) fs σ n lk
end Go.Q.S11
end

section
/- Found both ways. -/
set_option linter.unusedSimpArgs false
set_option linter.unusedVariables false
namespace Go.Q.S11
open Go.Q Go.Sort

theorem fnd_it {q : Option (List Int)} {k : Nat} {l : List Rw} : fndB q l = l.all (sameD q) ∧ fndL q k l = itL q k l := by
  have h1 : fndB q l = l.all (sameD q) := by
    unfold fndB sameD
    congr 1
    funext r
    exact decide_eq_decide.2 ⟨Eq.symm, Eq.symm⟩
  refine ⟨h1, ?_⟩
  unfold fndL itL
  rw [h1]
  split
  · rename_i h
    congr 1
    refine List.map_congr_left (fun r hr => ?_)
    have := List.all_eq_true.1 h r hr
    simp only [sameD, decide_eq_true_eq] at this
    simp [hitR, hitQ, distI_comm this]
  · rfl

theorem itL_len (q : Option (List Int)) (k : Nat) (l : List Rw) : (itL q k l).length ≤ k := by
  unfold itL
  split
  · rw [fst_len]; omega
  · simp

end Go.Q.S11
end

section
/- The layer does something. -/
set_option linter.unusedSimpArgs false
set_option linter.unusedVariables false
namespace Go.Q.S11
open Go.Q

def isTrue' : Option Out → Bool
  | some (.val (.bool true)) => true
  | _ => false
theorem isTrue_eq {o : Option Out} (h : isTrue' o = true) : o = some (.val (.bool true)) := by
  unfold isTrue' at h
  split at h
  · rfl
  · cases h

theorem r9 : res T 9 [] = some (.bool true) := by
  have h : isTrue' (exJob T 150 (.pure 9 [])) = true := by decide +kernel
  exact run_res (exJob_sound 150 _ _ (isTrue_eq h))
theorem f9 (fs : Bool) (σ : Sto) (n lk : Nat) : callE T fs 9 [] σ n lk = some (.bool true, σ, n) := callE_tr (by decide) r9 rfl rfl fs σ n lk
end Go.Q.S11
end

section
/- FlatRows. -/
set_option linter.unusedSimpArgs false
set_option linter.unusedVariables false
namespace Go.Q.S11
open Go.Q Go.Sort

def OkW (o : Option (List Int)) : Prop := (lst o).length < 4611686018427387904
def overR (l : List Rw) : Bool := decide (300 < l.length) || l.any fun r => decide (50 < (lst r.v).length)
theorem r20 (o : Option (List Rw)) (hl0 : (lst o).length < 9223372036854775808) (hv : ∀ r ∈ lst o, (lst r.v).length < 9223372036854775808) : res T 20 [slV 2 rwV o] = some (.bool (overR (lst o))) := by
  refine run_res (run_pure (fn := g20) rfl rfl (by decide) ?_)
  simp only [g20, b20]
  by_cases hl : 300 < (lst o).length
  · have hd : (300 : Int) < ((lst o).length : Int) := by omega
    have hk : overR (lst o) = true := by simp [overR, hl]
    simp +contextual -implicitDefEqProofs (maxSteps := 2000000) only [↓wP, wQ, wQ1, wQ2, wQ3, wR, boxE, partsOf, ↓reduceIte, Nat.reduceEqDiff, Nat.reduceAdd, Nat.reduceSub, Nat.reduceLeDiff, Nat.reduceLT, Nat.reduceMul, reduceCtorEq, Int.reduceBNe, Int.reduceBEq, Int.reduceLT, Int.reduceLE, Int.reduceGT, hd, hk]
  · have hd : ¬ (300 : Int) < ((lst o).length : Int) := by omega
    simp +contextual -implicitDefEqProofs (maxSteps := 2000000) only [↓wP, wQ, wQ1, wQ2, wQ3, wR, boxE, partsOf, ↓reduceIte, Nat.reduceEqDiff, Nat.reduceAdd, Nat.reduceSub, Nat.reduceLeDiff, Nat.reduceLT, Nat.reduceMul, reduceCtorEq, Int.reduceBNe, Int.reduceBEq, Int.reduceLT, Int.reduceLE, Int.reduceGT, hd]
    refine WC_for (lst o).length 0 (fun (j : Nat) env σ n => env 8 = slV 2 rwV o ∧ overR (lst o) = ((lst o).drop j).any fun r => decide (50 < (lst r.v).length)) (by omega) (by decide) (by decide) (fun _ _ => rfl) (fun _ _ _ => rfl) ?_ ?_ _ _ _ rfl rfl ?_
    · intro j env σ n hj h1 h2 ⟨h4, h5⟩
      simp only [vl_tmp] at h2
      have hx : (lst o)[j]? = some (lst o)[j] := List.getElem?_eq_getElem hj
      rw [List.drop_eq_getElem_cons hj, List.any_cons] at h5
      generalize (lst o)[j] = c at *
      by_cases hb : 50 < (lst c.v).length
      · have hb' : (50 : Int) < ((lst c.v).length : Int) := by omega
        have hk : overR (lst o) = true := by rw [h5]; simp [hb]
        simp +contextual -implicitDefEqProofs (maxSteps := 2000000) only [↓wP, wQ, wQ1, wQ2, wQ3, wR, boxE, partsOf, ↓reduceIte, Nat.reduceEqDiff, Nat.reduceAdd, Nat.reduceSub, Nat.reduceLeDiff, Nat.reduceLT, Nat.reduceMul, reduceCtorEq, Int.reduceBNe, Int.reduceBEq, Int.reduceLT, Int.reduceLE, Int.reduceGT, h1, h2, h4, hx, rwV_eq, hb', hk]
      · have hb' : ¬ (50 : Int) < ((lst c.v).length : Int) := by omega
        simp +contextual -implicitDefEqProofs (maxSteps := 2000000) only [↓wP, wQ, wQ1, wQ2, wQ3, wR, boxE, partsOf, ↓reduceIte, Nat.reduceEqDiff, Nat.reduceAdd, Nat.reduceSub, Nat.reduceLeDiff, Nat.reduceLT, Nat.reduceMul, reduceCtorEq, Int.reduceBNe, Int.reduceBEq, Int.reduceLT, Int.reduceLE, Int.reduceGT, h1, h2, h4, hx, rwV_eq, hb']
        rw [h5]; simp [hb]
    · intro env σ n ⟨h4, h5⟩ h1 h2
      have hk : overR (lst o) = false := by rw [h5]; simp
      simp +contextual -implicitDefEqProofs (maxSteps := 2000000) only [↓wP, wQ, wQ1, wQ2, wQ3, wR, boxE, partsOf, ↓reduceIte, Nat.reduceEqDiff, Nat.reduceAdd, Nat.reduceSub, Nat.reduceLeDiff, Nat.reduceLT, Nat.reduceMul, reduceCtorEq, Int.reduceBNe, Int.reduceBEq, Int.reduceLT, Int.reduceLE, Int.reduceGT, hk]
    · simp +contextual -implicitDefEqProofs (maxSteps := 2000000) only [↓wP, wQ, wQ1, wQ2, wQ3, wR, boxE, partsOf, ↓reduceIte, Nat.reduceEqDiff, Nat.reduceAdd, Nat.reduceSub, Nat.reduceLeDiff, Nat.reduceLT, Nat.reduceMul, reduceCtorEq, Int.reduceBNe, Int.reduceBEq, Int.reduceLT, Int.reduceLE, Int.reduceGT]
      simp [overR, hl]

theorem f20 (o : Option (List Rw)) (hl0 : (lst o).length < 9223372036854775808) (hv : ∀ r ∈ lst o, (lst r.v).length < 9223372036854775808) (fs : Bool) (σ : Sto) (n lk : Nat) : callE T fs 20 [slV 2 rwV o] σ n lk = some (.bool (overR (lst o)), σ, n) :=
  callE_tr (by decide) (r20 o hl0 hv) (by simp [Tr, Tr_slV]) rfl fs σ n lk

end Go.Q.S11
end

section
/- FlatNear: what is found stands in order, at its true distance, and nothing that is left out is nearer. -/
set_option linter.unusedSimpArgs false
set_option linter.unusedVariables false
namespace Go.Q.S11
open Go.Q Go.Sort

def i64' (x : Int) : V := .int .i64 x
theorem keyHit : KeyOk (.agg [.int, .int]) hitV := by
  intro a b
  simp only [eqKey, hitV, eqCells, eqCell, if_true, Option.bind_some, Option.map_some, Bool.and_true, Option.some.injEq]
  obtain ⟨a1, a2⟩ := a
  obtain ⟨b1, b2⟩ := b
  simp only [Hit.mk.injEq]
  by_cases h1 : a1 = b1 <;> by_cases h2 : a2 = b2 <;> simp [h1, h2]

def cnt (l : List Hit) (h : Hit) : Int := (l.count h : Nat)
theorem cnt_step (l : List Hit) (j : Nat) (hj : j < l.length) (h : Hit) : cnt (l.take (j + 1)) h = cnt (l.take j) h + if h = l[j] then 1 else 0 := by
  unfold cnt
  rw [← List.take_append_getElem hj, List.count_append, List.count_singleton]
  by_cases e : h = l[j]
  · subst e; simp
  · have : ¬ l[j] = h := fun x => e x.symm
    simp [e, this]
theorem cnt_le (k : Nat) (l : List Hit) (h : Hit) (j : Nat) : cnt ((fst' k l).take j) h ≤ cnt l h := by
  unfold cnt
  have h1 : ((fst' k l).take j).count h ≤ (srt l).count h := ((List.take_sublist _ _).trans (List.take_sublist _ _)).count_le h
  rw [(srt_perm l).count_eq h] at h1
  omega
theorem cnt_nn (l : List Hit) (h : Hit) : 0 ≤ cnt l h := by unfold cnt; omega
theorem cnt_len (l : List Hit) (h : Hit) : cnt l h ≤ l.length := by unfold cnt; have := List.count_le_length (a := h) (l := l); omega
theorem left_out {k : Nat} {l : List Hit} {h : Hit} (hh : cnt (fst' k l) h < cnt l h) {x : Hit} (hx : x ∈ fst' k l) : ahead h x = false := by
  unfold cnt at hh
  have h1 := (srt_perm l).count_eq h
  have h2 : srt l = (srt l).take k ++ (srt l).drop k := (List.take_append_drop k _).symm
  rw [h2, List.count_append] at h1
  have h3 : 0 < ((srt l).drop k).count h := by unfold fst' at hh; omega
  have h4 := List.count_pos_iff.1 h3
  have h5 := srt_srt l
  rw [h2] at h5
  exact (List.pairwise_append.1 h5).2.2 x hx h h4

theorem rows_ok {q : Option (List Int)} {k : Int} {l : List Rw} (h : rowsE q k l = 0) : qE q k = 0 ∧ l.all okR = true ∧ l.all (sameD q) = true ∧ rowsL q k l = fst' k.toNat (l.map (hitQ q)) := by
  unfold rowsE at h
  by_cases he : qE q k = 0
  · rw [if_neg (by simp [he])] at h
    split at h
    · cases h
    · rename_i ha
      simp only [Bool.not_eq_false] at ha
      unfold itE at h
      split at h
      · rename_i hs
        exact ⟨he, ha, hs, by simp [rowsL, he, ha, itL, hs]⟩
      · cases h
  · rw [if_pos he] at h; exact absurd h he
theorem rows_no {q : Option (List Int)} {k : Int} {l : List Rw} (h : rowsE q k l ≠ 0) : rowsL q k l = [] := by
  unfold rowsE at h
  unfold rowsL
  split
  · rfl
  · rename_i he
    split
    · rfl
    · rename_i ha
      rw [if_neg he, if_neg ha] at h
      unfold itE at h
      unfold itL
      split
      · rename_i hs; rw [if_pos hs] at h; exact absurd rfl h
      · rfl

theorem r6 (o : Option (List Rw)) (q : Option (List Int)) (k : Int) (hl0 : (lst o).length < 9223372036854775808) (hv : ∀ r ∈ lst o, OkW r.v) (hq : OkW q) : res T 6 [slV 2 rwV o, .agg [slV 1 i32V q, .int .i64 k]] = some (.bool true) := by
  refine run_res (run_pure (fn := g6) rfl rfl (by decide) ?_)
  simp only [g6, b6]
  have hv' : ∀ r ∈ lst o, (lst r.v).length < 9223372036854775808 := fun r hr => by have := hv r hr; unfold OkW at this; omega
  have hq' : (lst q).length < 9223372036854775808 := by unfold OkW at hq; omega
  have f1 := f20 o hl0 hv'
  have f9' := f9
  cases hov : overR (lst o)
  · rw [hov] at f1
    have hl : (lst o).length ≤ 300 := by
      unfold overR at hov
      simp only [Bool.or_eq_false_iff, decide_eq_false_iff_not] at hov
      omega
    by_cases hq50 : 50 < (lst q).length
    · have hd : (50 : Int) < ((lst q).length : Int) := by omega
      simp +contextual -implicitDefEqProofs (maxSteps := 2000000) only [↓wP, wQ, wQ1, wQ2, wQ3, wR, boxE, partsOf, ↓reduceIte, Nat.reduceEqDiff, Nat.reduceAdd, Nat.reduceSub, Nat.reduceLeDiff, Nat.reduceLT, Nat.reduceMul, reduceCtorEq, Int.reduceBNe, Int.reduceBEq, Int.reduceLT, Int.reduceLE, Int.reduceGT, f9', f1, hd]
    · have hd : ¬ (50 : Int) < ((lst q).length : Int) := by omega
      have f2 := f21 o q k hl hv' hq'
      by_cases hz : rowsE q k (lst o) = 0
      · obtain ⟨he, hall, hsm, hrl⟩ := rows_ok hz
        rw [hz, hrl] at f2
        obtain ⟨oq, hk1, hk2⟩ := qE_ok he
        obtain ⟨kn, rfl⟩ : ∃ kn : Nat, k = (kn : Int) := ⟨k.toNat, by omega⟩
        obtain ⟨L, hL⟩ : ∃ L, L = (lst o).map (hitQ q) := ⟨_, rfl⟩
        have hLl : L.length = (lst o).length := by rw [hL, List.length_map]
        obtain ⟨M, hM⟩ : ∃ M, M = fst' kn L := ⟨_, rfl⟩
        rw [← hL, show ((kn : Int)).toNat = kn from rfl, ← hM] at f2
        have hMl : M.length = min kn L.length := by rw [hM]; exact fst_len kn L
        have hmin : (if ((lst o).length : Int) < (kn : Int) then ((lst o).length : Int) else (kn : Int)) = (M.length : Int) := by split <;> omega
        have hMM : ((M.length : Int) != (M.length : Int)) = false := by simp
        have hl6 : lenE (slV 2 hitV (optH M)) = some (.int .i64 (M.length : Int)) := by rw [lenE_slV, lst_optH]
        have hMx : ∀ (j : Nat) (hj : j < M.length), (lst (optH M))[j]? = some M[j] := fun j hj => by rw [lst_optH]; exact List.getElem?_eq_getElem hj
        have hxV : ∀ x : Hit, hitV x = .agg [.int .u64 x.id, .int .u64 x.d] := fun _ => rfl
        have hMl16 : M.length ≤ 16 := by omega
        simp +contextual -implicitDefEqProofs (maxSteps := 2000000) only [↓wP, wQ, wQ1, wQ2, wQ3, wR, boxE, partsOf, ↓reduceIte, Nat.reduceEqDiff, Nat.reduceAdd, Nat.reduceSub, Nat.reduceLeDiff, Nat.reduceLT, Nat.reduceMul, reduceCtorEq, Int.reduceBNe, Int.reduceBEq, Int.reduceLT, Int.reduceLE, Int.reduceGT, f9', f1, hd, f2, hl6, hmin, hMM]
        refine WC_for (lst o).length 0 (fun (j : Nat) env σ' n' => env 46 = slV 2 rwV o ∧ env 3 = .ptr 0 2 0 0 ∧ env 5 = slV 2 hitV (optH M) ∧ env 7 = .mp 1 ∧ 1 < n' ∧ σ' 0 = some (.row 2 [.agg [slV 1 i32V q, .int .i64 (kn : Int)]]) ∧
          ∃ Lm clk, MOk Lm clk ∧ σ' 1 = some (.map (ens hitV i64' Lm) clk) ∧ ∀ h, (vw Lm h).getD 0 = cnt (L.take j) h) (by omega) (by decide) (by decide) (fun _ _ => rfl) (fun _ _ _ => rfl) ?_ ?_ _ _ _ rfl rfl ?_
        · intro j env σ' n' hj h1 h2 ⟨g1, g2, g3, g4, g5, g6, Lm, clk, m1, m2, m3⟩
          simp only [vl_tmp] at h2
          have hx : (lst o)[j]? = some (lst o)[j] := List.getElem?_eq_getElem hj
          have hm : (lst o)[j] ∈ lst o := List.getElem_mem hj
          have hLj : L[j]'(by omega) = hitQ q (lst o)[j] := by subst hL; simp
          have hst := cnt_step L j (by omega)
          have hok : okV (lst o)[j].v = true := List.all_eq_true.1 hall _ hm
          have hsd : (lst q).length = (lst (lst o)[j].v).length := by have := List.all_eq_true.1 hsm _ hm; simpa [sameD] using this
          generalize L[j]'(by omega) = h at *
          generalize (lst o)[j] = x at *
          have hva : vAll x.v q = 0 := by unfold vAll; rw [hok, oq]; simp [hsd]
          have f23' := f23 x.v q (hv' x hm) hq'
          have e1 : disE x.v q = 0 := hva
          have e2 : disV x.v q = h.d := by unfold disV; rw [if_pos hva, hLj]; exact distI_comm hsd.symm
          have e3 : x.id = h.id := by rw [hLj]; rfl
          rw [e1, e2] at f23'
          have hmg : mgetE false (.agg [.int, .int]) (.int .i64 0) (some (ens hitV i64' Lm)) (.agg [.int .u64 h.id, .int .u64 h.d]) = some (.int .i64 (cnt (L.take j) h)) := by
            have := mget_ens (ve := i64') keyHit false (.int .i64 0) h Lm
            rw [hxV] at this
            rw [this, ← m3 h]
            cases vw Lm h <;> rfl
          have c0 := cnt_nn (L.take j) h
          have c1 := cnt_len (L.take j) h
          rw [List.length_take] at c1
          have wc : IntKind.i64.wrap (cnt (L.take j) h + 1) = cnt (L.take j) h + 1 := by rw [wrap_i64] <;> omega
          obtain ⟨S, hS⟩ : ∃ S, S = upd (upd σ' n' (some (Ob.row 2 [V.agg [V.int IntKind.u64 0, V.nilS]]))) n' (some (Ob.row 2 [V.agg [V.int IntKind.u64 h.id, slV 1 i32V x.v]])) := ⟨_, rfl⟩
          have hSo : ∀ i, i < n' → S i = σ' i := fun i hi => by rw [hS, upd_ne (by omega), upd_ne (by omega)]
          have hSn : S n' = some (.row 2 [.agg [.int .u64 h.id, slV 1 i32V x.v]]) := by rw [hS, upd_self]
          have hS2 : S 1 = some (.map (ens hitV i64' Lm) clk) := by rw [hSo _ g5]; exact m2
          have hS0 : S 0 = some (.row 2 [.agg [slV 1 i32V q, .int .i64 (kn : Int)]]) := by rw [hSo _ (by omega)]; exact g6
          obtain ⟨L1, clk1, s1, p1, ok1, mem1, w1⟩ := ment_ens (ve := i64') (lk := 0) keyHit m1 (σ := S) (id := 1) hS2 (Nat.zero_le _) h (0 : Int) (n' + 1)
          rw [m3 h] at mem1 w1 p1
          obtain ⟨L2, p2, ok2, w2⟩ := mest_ens (ke := hitV) (ve := i64') (lk := 0) ok1 (σ := upd S 1 (some (.map (ens hitV i64' L1) clk1))) (id := 1) (by simp [upd]) (Nat.zero_le _) mem1 (cnt (L.take j) h + 1) (n' + 1)
          simp only [i64', hxV] at p1 p2
          have v1 : n' ≠ 1 := by omega
          simp +contextual -implicitDefEqProofs (maxSteps := 2000000) only [↓wP, wQ, wQ1, wQ2, wQ3, wR, boxE, partsOf, ↓reduceIte, Nat.reduceEqDiff, Nat.reduceAdd, Nat.reduceSub, Nat.reduceLeDiff, Nat.reduceLT, Nat.reduceMul, reduceCtorEq, Int.reduceBNe, Int.reduceBEq, Int.reduceLT, Int.reduceLE, Int.reduceGT, h1, h2, g1, g2, g3, g4, hx, rwV_eq, e3, f23', ← hS, hSn, hS2, hS0, hmg, wc, p1, p2, v1]
          refine ⟨by omega, L2, clk1, ok2, rfl, fun h' => ?_⟩
          rw [w2, hst h']
          by_cases e : h' = h
          · subst e; simp
          · rw [if_neg e, if_neg e, w1, if_neg e, m3 h']; simp
        · intro env σ' n' ⟨g1, g2, g3, g4, g5, g6, Lm, clk, m1, m2, m3⟩ h1 h2
          rw [← hLl, List.take_length] at m3
          simp +contextual -implicitDefEqProofs (maxSteps := 2000000) only [↓wP, wQ, wQ1, wQ2, wQ3, wR, boxE, partsOf, ↓reduceIte, Nat.reduceEqDiff, Nat.reduceAdd, Nat.reduceSub, Nat.reduceLeDiff, Nat.reduceLT, Nat.reduceMul, reduceCtorEq, Int.reduceBNe, Int.reduceBEq, Int.reduceLT, Int.reduceLE, Int.reduceGT, g3, g4, hl6]
          refine WC_for M.length 0 (fun (j : Nat) env σ' n' => env 72 = slV 2 hitV (optH M) ∧ env 5 = slV 2 hitV (optH M) ∧ env 7 = .mp 1 ∧ 1 < n' ∧
            ∃ Lm clk, MOk Lm clk ∧ σ' 1 = some (.map (ens hitV i64' Lm) clk) ∧ ∀ h, (vw Lm h).getD 0 = cnt L h - cnt (M.take j) h) (by omega) (by decide) (by decide) (fun _ _ => rfl) (fun _ _ _ => rfl) ?_ ?_ _ _ _ rfl rfl ?_
          · clear m1 m2 m3 Lm clk g1 g2 g3 g4 g5 g6
            intro j env σ' n' hj h1 h2 ⟨g1, g2, g3, g4, Lm, clk, m1, m2, m3⟩
            simp only [vl_tmp] at h2
            have hx := hMx j hj
            have c0 := cnt_nn (M.take j) M[j]
            have c1 := cnt_len L M[j]
            have c2 := cnt_le kn L M[j] (j + 1)
            rw [← hM, cnt_step M j hj] at c2
            rw [if_pos rfl] at c2
            have hst := cnt_step M j hj
            have hjp : 0 < j → ∃ y : Hit, (lst (optH M))[j - 1]? = some y ∧ decide (0 < cmpH y M[j]) = false := fun hp => by
              refine ⟨M[j - 1], hMx _ _, ?_⟩
              rw [cmp_gt]
              have := fst_srt kn L
              rw [← hM] at this
              exact List.pairwise_iff_getElem.1 this (j - 1) j (by omega) hj (by omega)
            generalize M[j] = h at *
            have hmg : mgetE false (.agg [.int, .int]) (.int .i64 0) (some (ens hitV i64' Lm)) (.agg [.int .u64 h.id, .int .u64 h.d]) = some (.int .i64 (cnt L h - cnt (M.take j) h)) := by
              have := mget_ens (ve := i64') keyHit false (.int .i64 0) h Lm
              rw [hxV] at this
              rw [this, ← m3 h]
              cases vw Lm h <;> rfl
            have wc : IntKind.i64.wrap (cnt L h - cnt (M.take j) h - 1) = cnt L h - cnt (M.take j) h - 1 := by rw [wrap_i64] <;> omega
            obtain ⟨S, hS⟩ : ∃ S, S = upd (upd σ' n' (some (Ob.row 2 [V.agg [V.int IntKind.u64 0, V.int IntKind.u64 0]]))) n' (some (Ob.row 2 [V.agg [V.int IntKind.u64 h.id, V.int IntKind.u64 h.d]])) := ⟨_, rfl⟩
            have hSo : ∀ i, i < n' → S i = σ' i := fun i hi => by rw [hS, upd_ne (by omega), upd_ne (by omega)]
            have hSn : S n' = some (.row 2 [.agg [.int .u64 h.id, .int .u64 h.d]]) := by rw [hS, upd_self]
            have hS2 : S 1 = some (.map (ens hitV i64' Lm) clk) := by rw [hSo _ g4]; exact m2
            obtain ⟨L1, clk1, s1, p1, ok1, mem1, w1⟩ := ment_ens (ve := i64') (lk := 0) keyHit m1 (σ := S) (id := 1) hS2 (Nat.zero_le _) h (0 : Int) (n' + 1)
            rw [m3 h] at mem1 w1 p1
            obtain ⟨L2, p2, ok2, w2⟩ := mest_ens (ke := hitV) (ve := i64') (lk := 0) ok1 (σ := upd S 1 (some (.map (ens hitV i64' L1) clk1))) (id := 1) (by simp [upd]) (Nat.zero_le _) mem1 (cnt L h - cnt (M.take j) h - 1) (n' + 1)
            have hmg2 : mgetE false (.agg [.int, .int]) (.int .i64 0) (some (ens hitV i64' L2)) (.agg [.int .u64 h.id, .int .u64 h.d]) = some (.int .i64 (cnt L h - cnt (M.take j) h - 1)) := by
              have := mget_ens (ve := i64') keyHit false (.int .i64 0) h L2
              rw [hxV] at this
              rw [this, w2, if_pos rfl]; rfl
            simp only [i64', hxV] at p1 p2
            have hnn : (cnt L h - cnt (M.take j) h - 1 < 0) = False := by simp; omega
            have v1 : n' ≠ 1 := by omega
            have wj : 0 < j → IntKind.i64.wrap ((j : Int) - 1) = ((j - 1 : Nat) : Int) := fun hp => by rw [wrap_i64] <;> omega
            by_cases hp : 0 < j
            · have hp' : (0 : Int) < (j : Int) := by omega
              obtain ⟨y, y1, y2⟩ := hjp hp
              have wj' := wj hp
              simp +contextual -implicitDefEqProofs (maxSteps := 2000000) only [↓wP, wQ, wQ1, wQ2, wQ3, wR, boxE, partsOf, ↓reduceIte, Nat.reduceEqDiff, Nat.reduceAdd, Nat.reduceSub, Nat.reduceLeDiff, Nat.reduceLT, Nat.reduceMul, reduceCtorEq, Int.reduceBNe, Int.reduceBEq, Int.reduceLT, Int.reduceLE, Int.reduceGT, h1, h2, g1, g2, g3, hx, hxV, hj, ← hS, hSn, hS2, hmg, wc, p1, p2, v1, hmg2, hnn, hp', y1, wj', f24, y2]
              refine ⟨by omega, L2, clk1, ok2, rfl, fun h' => ?_⟩
              rw [w2, hst h']
              by_cases e : h' = h
              · subst e; simp; omega
              · rw [if_neg e, if_neg e, w1, if_neg e, m3 h']; simp
            · have hp' : ¬ (0 : Int) < (j : Int) := by omega
              simp +contextual -implicitDefEqProofs (maxSteps := 2000000) only [↓wP, wQ, wQ1, wQ2, wQ3, wR, boxE, partsOf, ↓reduceIte, Nat.reduceEqDiff, Nat.reduceAdd, Nat.reduceSub, Nat.reduceLeDiff, Nat.reduceLT, Nat.reduceMul, reduceCtorEq, Int.reduceBNe, Int.reduceBEq, Int.reduceLT, Int.reduceLE, Int.reduceGT, h1, h2, g1, g2, g3, hx, hxV, hj, ← hS, hSn, hS2, hmg, wc, p1, p2, v1, hmg2, hnn, hp']
              refine ⟨by omega, L2, clk1, ok2, rfl, fun h' => ?_⟩
              rw [w2, hst h']
              by_cases e : h' = h
              · subst e; simp; omega
              · rw [if_neg e, if_neg e, w1, if_neg e, m3 h']; simp
          · clear m1 m2 m3 Lm clk g1 g2 g3 g4 g5 g6
            intro env σ' n' ⟨g1, g2, g3, g4, Lm, clk, m1, m2, m3⟩ h1 h2
            rw [List.take_length] at m3
            have hr : rangeE (.mp 1) σ' n' = some (.it n', upd σ' n' (some (.iter 1 clk [] clk)), n' + 1) := by simp [rangeE, m2]
            simp +contextual -implicitDefEqProofs (maxSteps := 2000000) only [↓wP, wQ, wQ1, wQ2, wQ3, wR, boxE, partsOf, ↓reduceIte, Nat.reduceEqDiff, Nat.reduceAdd, Nat.reduceSub, Nat.reduceLeDiff, Nat.reduceLT, Nat.reduceMul, reduceCtorEq, Int.reduceBNe, Int.reduceBEq, Int.reduceLT, Int.reduceLE, Int.reduceGT, g2, g3, hr]
            refine WC_loopM 0 (fun (seen : List Nat) env σ'' n'' => env 105 = .it n' ∧ env 5 = slV 2 hitV (optH M) ∧ n' < n'' ∧ σ'' 1 = some (.map (ens hitV i64' Lm) clk) ∧
              σ'' n' = some (.iter 1 clk seen clk)) (fun seen => (Lm.filter fun x => decide (x.2.2 ∉ seen)).length) ?_ [] _ _ _ ?_
            · intro seen env σ'' n'' ⟨k1, k2, k3, k5, k6⟩
              rw [vl_tmp, k1]
              refine nextW_ens m1 k6 k5 (Nat.zero_le _) (fun e he hn => ?_) (fun _ => ?_)
              · obtain ⟨S0, hS0⟩ : ∃ S, S = upd σ'' n' (some (.iter 1 clk (seen ++ [e.2.2]) clk)) := ⟨_, rfl⟩
                rw [← hS0]
                have b1 : S0 1 = some (.map (ens hitV i64' Lm) clk) := by rw [hS0, upd_ne (by omega)]; exact k5
                have b2 : S0 n' = some (.iter 1 clk (seen ++ [e.2.2]) clk) := by rw [hS0, upd_self]
                have hen := entry_ens m1 b2 b1 he
                have hlt := unseen_lt he hn
                obtain ⟨h, x, s⟩ := e
                have hv : vw Lm h = some x := (vw_some m1.keys).2 ⟨s, he⟩
                have hq := m3 h
                rw [hv] at hq
                simp only [Option.getD_some] at hq
                simp only [hxV, i64'] at hen
                by_cases hp : 0 < x
                · by_cases hM0 : 0 < M.length
                  · have hM0' : (0 < (M.length : Int)) := by omega
                    have x1 := hMx (M.length - 1) (by omega)
                    have wj : IntKind.i64.wrap ((M.length : Int) - 1) = ((M.length - 1 : Nat) : Int) := by rw [wrap_i64] <;> omega
                    have hah : (cmpH h M[M.length - 1] < 0) = False := by
                      have := left_out (k := kn) (l := L) (h := h) (by rw [← hM]; omega) (x := M[M.length - 1]) (by rw [← hM]; exact List.getElem_mem _)
                      rw [← cmp_lt] at this
                      simpa using this
                    simp +contextual -implicitDefEqProofs (maxSteps := 2000000) only [↓wP, wQ, wQ1, wQ2, wQ3, wR, boxE, partsOf, ↓reduceIte, Nat.reduceEqDiff, Nat.reduceAdd, Nat.reduceSub, Nat.reduceLeDiff, Nat.reduceLT, Nat.reduceMul, reduceCtorEq, Int.reduceBNe, Int.reduceBEq, Int.reduceLT, Int.reduceLE, Int.reduceGT, k1, k2, hen, hp, hl6, hM0', x1, hxV, wj, f24, hah]
                    exact ⟨seen ++ [s], hlt, by omega, by rw [if_neg (by omega)]; exact b1, by rw [if_neg (by omega)]; exact b2⟩
                  · have hM0' : ¬ (0 < (M.length : Int)) := by omega
                    simp +contextual -implicitDefEqProofs (maxSteps := 2000000) only [↓wP, wQ, wQ1, wQ2, wQ3, wR, boxE, partsOf, ↓reduceIte, Nat.reduceEqDiff, Nat.reduceAdd, Nat.reduceSub, Nat.reduceLeDiff, Nat.reduceLT, Nat.reduceMul, reduceCtorEq, Int.reduceBNe, Int.reduceBEq, Int.reduceLT, Int.reduceLE, Int.reduceGT, k1, k2, hen, hp, hl6, hM0']
                    exact ⟨seen ++ [s], hlt, by omega, by rw [if_neg (by omega)]; exact b1, by rw [if_neg (by omega)]; exact b2⟩
                · simp +contextual -implicitDefEqProofs (maxSteps := 2000000) only [↓wP, wQ, wQ1, wQ2, wQ3, wR, boxE, partsOf, ↓reduceIte, Nat.reduceEqDiff, Nat.reduceAdd, Nat.reduceSub, Nat.reduceLeDiff, Nat.reduceLT, Nat.reduceMul, reduceCtorEq, Int.reduceBNe, Int.reduceBEq, Int.reduceLT, Int.reduceLE, Int.reduceGT, k1, k2, hen, hp]
                  exact ⟨seen ++ [s], hlt, by omega, by rw [if_neg (by omega)]; exact b1, by rw [if_neg (by omega)]; exact b2⟩
              · simp +contextual -implicitDefEqProofs (maxSteps := 2000000) only [↓wP, wQ, wQ1, wQ2, wQ3, wR, boxE, partsOf, ↓reduceIte, Nat.reduceEqDiff, Nat.reduceAdd, Nat.reduceSub, Nat.reduceLeDiff, Nat.reduceLT, Nat.reduceMul, reduceCtorEq, Int.reduceBNe, Int.reduceBEq, Int.reduceLT, Int.reduceLE, Int.reduceGT]
            · simp +contextual -implicitDefEqProofs (maxSteps := 2000000) only [↓wP, wQ, wQ1, wQ2, wQ3, wR, boxE, partsOf, ↓reduceIte, Nat.reduceEqDiff, Nat.reduceAdd, Nat.reduceSub, Nat.reduceLeDiff, Nat.reduceLT, Nat.reduceMul, reduceCtorEq, Int.reduceBNe, Int.reduceBEq, Int.reduceLT, Int.reduceLE, Int.reduceGT, g2]
              exact ⟨by omega, by rw [if_neg (by omega)]; exact m2⟩
          · simp +contextual -implicitDefEqProofs (maxSteps := 2000000) only [↓wP, wQ, wQ1, wQ2, wQ3, wR, boxE, partsOf, ↓reduceIte, Nat.reduceEqDiff, Nat.reduceAdd, Nat.reduceSub, Nat.reduceLeDiff, Nat.reduceLT, Nat.reduceMul, reduceCtorEq, Int.reduceBNe, Int.reduceBEq, Int.reduceLT, Int.reduceLE, Int.reduceGT, g3, g4]
            exact ⟨g5, Lm, clk, m1, m2, fun h => by rw [m3 h]; simp [cnt]⟩
        · simp +contextual -implicitDefEqProofs (maxSteps := 2000000) only [↓wP, wQ, wQ1, wQ2, wQ3, wR, boxE, partsOf, ↓reduceIte, Nat.reduceEqDiff, Nat.reduceAdd, Nat.reduceSub, Nat.reduceLeDiff, Nat.reduceLT, Nat.reduceMul, reduceCtorEq, Int.reduceBNe, Int.reduceBEq, Int.reduceLT, Int.reduceLE, Int.reduceGT]
          exact ⟨[], 0, MOk.nil, rfl, fun h => by simp [vw, cnt]⟩
      · have hrl := rows_no hz
        rw [hrl] at f2
        generalize rowsE q k (lst o) = rE at *
        have hzz : (rE != 0) = true := by simpa using hz
        have hl6 : lenE (slV 2 hitV (optH [])) = some (.int .i64 ((0 : Nat) : Int)) := rfl
        simp +contextual -implicitDefEqProofs (maxSteps := 2000000) only [↓wP, wQ, wQ1, wQ2, wQ3, wR, boxE, partsOf, ↓reduceIte, Nat.reduceEqDiff, Nat.reduceAdd, Nat.reduceSub, Nat.reduceLeDiff, Nat.reduceLT, Nat.reduceMul, reduceCtorEq, Int.reduceBNe, Int.reduceBEq, Int.reduceLT, Int.reduceLE, Int.reduceGT, f9', f1, hd, f2, hzz, hl6]
        rfl
  · rw [hov] at f1
    simp +contextual -implicitDefEqProofs (maxSteps := 2000000) only [↓wP, wQ, wQ1, wQ2, wQ3, wR, boxE, partsOf, ↓reduceIte, Nat.reduceEqDiff, Nat.reduceAdd, Nat.reduceSub, Nat.reduceLeDiff, Nat.reduceLT, Nat.reduceMul, reduceCtorEq, Int.reduceBNe, Int.reduceBEq, Int.reduceLT, Int.reduceLE, Int.reduceGT, f9', f1]
end Go.Q.S11
end

section
/- The table is the program's. -/
namespace Go.Q.S11
open Go.Proofs
def Has (f : Nat) (fn : Fn) : Prop := ∃ F, Try.prog.funcs[f]? = some F ∧ cFunc Try.prog (ownB T) F = some fn ∧ (F.name == "runtime.NumGoroutine") = false
theorem h6 : Has 6 g6 := ⟨Try.f6, Try.func6, by kernel_rfl, by kernel_rfl⟩
theorem h9 : Has 9 g9 := ⟨Try.f9, Try.func9, by kernel_rfl, by kernel_rfl⟩
theorem h11 : Has 11 g11 := ⟨Try.f11, Try.func11, by kernel_rfl, by kernel_rfl⟩
theorem h13 : Has 13 g13 := ⟨Try.f13, Try.func13, by kernel_rfl, by kernel_rfl⟩
theorem h18 : Has 18 g18 := ⟨Try.f18, Try.func18, by kernel_rfl, by kernel_rfl⟩
theorem h20 : Has 20 g20 := ⟨Try.f20, Try.func20, by kernel_rfl, by kernel_rfl⟩
theorem h21 : Has 21 g21 := ⟨Try.f21, Try.func21, by kernel_rfl, by kernel_rfl⟩
theorem h23 : Has 23 g23 := ⟨Try.f23, Try.func23, by kernel_rfl, by kernel_rfl⟩
theorem h24 : Has 24 g24 := ⟨Try.f24, Try.func24, by kernel_rfl, by kernel_rfl⟩
theorem h30 : Has 30 g30 := ⟨Try.f30, Try.func30, by kernel_rfl, by kernel_rfl⟩
theorem h31 : Has 31 g31 := ⟨Try.f31, Try.func31, by kernel_rfl, by kernel_rfl⟩
theorem h32 : Has 32 g32 := ⟨Try.f32, Try.func32, by kernel_rfl, by kernel_rfl⟩
theorem h33 : Has 33 g33 := ⟨Try.f33, Try.func33, by kernel_rfl, by kernel_rfl⟩
theorem h34 : Has 34 g34 := ⟨Try.f34, Try.func34, by kernel_rfl, by kernel_rfl⟩
theorem h35 : Has 35 g35 := ⟨Try.f35, Try.func35, by kernel_rfl, by kernel_rfl⟩
theorem h36 : Has 36 g36 := ⟨Try.f36, Try.func36, by kernel_rfl, by kernel_rfl⟩
theorem h37 : Has 37 g37 := ⟨Try.f37, Try.func37, by kernel_rfl, by kernel_rfl⟩
theorem h38 : Has 38 g38 := ⟨Try.f38, Try.func38, by kernel_rfl, by kernel_rfl⟩
theorem h42 : Has 42 g42 := ⟨Try.f42, Try.func42, by kernel_rfl, by kernel_rfl⟩
theorem h43 : Has 43 g43 := ⟨Try.f43, Try.func43, by kernel_rfl, by kernel_rfl⟩
theorem h44 : Has 44 g44 := ⟨Try.f44, Try.func44, by kernel_rfl, by kernel_rfl⟩
theorem h45 : Has 45 g45 := ⟨Try.f45, Try.func45, by kernel_rfl, by kernel_rfl⟩
theorem h46 : Has 46 g46 := ⟨Try.f46, Try.func46, by kernel_rfl, by kernel_rfl⟩
theorem h47 : Has 47 g47 := ⟨Try.f47, Try.func47, by kernel_rfl, by kernel_rfl⟩
theorem h48 : Has 48 g48 := ⟨Try.f48, Try.func48, by kernel_rfl, by kernel_rfl⟩
theorem h51 : Has 51 g51 := ⟨Try.f51, Try.func51, by kernel_rfl, by kernel_rfl⟩
theorem h52 : Has 52 g52 := ⟨Try.f52, Try.func52, by kernel_rfl, by kernel_rfl⟩
theorem h53 : Has 53 g53 := ⟨Try.f53, Try.func53, by kernel_rfl, by kernel_rfl⟩
theorem h54 : Has 54 g54 := ⟨Try.f54, Try.func54, by kernel_rfl, by kernel_rfl⟩
theorem h55 : Has 55 g55 := ⟨Try.f55, Try.func55, by kernel_rfl, by kernel_rfl⟩
theorem h56 : Has 56 g56 := ⟨Try.f56, Try.func56, by kernel_rfl, by kernel_rfl⟩
theorem h57 : Has 57 g57 := ⟨Try.f57, Try.func57, by kernel_rfl, by kernel_rfl⟩
theorem h58 : Has 58 g58 := ⟨Try.f58, Try.func58, by kernel_rfl, by kernel_rfl⟩
theorem h59 : Has 59 g59 := ⟨Try.f59, Try.func59, by kernel_rfl, by kernel_rfl⟩
theorem h60 : Has 60 g60 := ⟨Try.f60, Try.func60, by kernel_rfl, by kernel_rfl⟩
theorem h61 : Has 61 g61 := ⟨Try.f61, Try.func61, by kernel_rfl, by kernel_rfl⟩
theorem h62 : Has 62 g62 := ⟨Try.f62, Try.func62, by kernel_rfl, by kernel_rfl⟩
theorem h64 : Has 64 g64 := ⟨Try.f64, Try.func64, by kernel_rfl, by kernel_rfl⟩
theorem h65 : Has 65 g65 := ⟨Try.f65, Try.func65, by kernel_rfl, by kernel_rfl⟩
theorem h66 : Has 66 g66 := ⟨Try.f66, Try.func66, by kernel_rfl, by kernel_rfl⟩
theorem h67 : Has 67 g67 := ⟨Try.f67, Try.func67, by kernel_rfl, by kernel_rfl⟩
theorem h68 : Has 68 g68 := ⟨Try.f68, Try.func68, by kernel_rfl, by kernel_rfl⟩
theorem h69 : Has 69 g69 := ⟨Try.f69, Try.func69, by kernel_rfl, by kernel_rfl⟩
theorem h70 : Has 70 g70 := ⟨Try.f70, Try.func70, by kernel_rfl, by kernel_rfl⟩
theorem h71 : Has 71 g71 := ⟨Try.f71, Try.func71, by kernel_rfl, by kernel_rfl⟩
theorem h72 : Has 72 g72 := ⟨Try.f72, Try.func72, by kernel_rfl, by kernel_rfl⟩
theorem h73 : Has 73 g73 := ⟨Try.f73, Try.func73, by kernel_rfl, by kernel_rfl⟩
theorem h74 : Has 74 g74 := ⟨Try.f74, Try.func74, by kernel_rfl, by kernel_rfl⟩
theorem h77 : Has 77 g77 := ⟨Try.f77, Try.func77, by kernel_rfl, by kernel_rfl⟩
theorem h78 : Has 78 g78 := ⟨Try.f78, Try.func78, by kernel_rfl, by kernel_rfl⟩
theorem h79 : Has 79 g79 := ⟨Try.f79, Try.func79, by kernel_rfl, by kernel_rfl⟩
theorem h80 : Has 80 g80 := ⟨Try.f80, Try.func80, by kernel_rfl, by kernel_rfl⟩
theorem h81 : Has 81 g81 := ⟨Try.f81, Try.func81, by kernel_rfl, by kernel_rfl⟩
theorem h82 : Has 82 g82 := ⟨Try.f82, Try.func82, by kernel_rfl, by kernel_rfl⟩
theorem h83 : Has 83 g83 := ⟨Try.f83, Try.func83, by kernel_rfl, by kernel_rfl⟩
theorem h84 : Has 84 g84 := ⟨Try.f84, Try.func84, by kernel_rfl, by kernel_rfl⟩
theorem h85 : Has 85 g85 := ⟨Try.f85, Try.func85, by kernel_rfl, by kernel_rfl⟩
theorem h86 : Has 86 g86 := ⟨Try.f86, Try.func86, by kernel_rfl, by kernel_rfl⟩
theorem h87 : Has 87 g87 := ⟨Try.f87, Try.func87, by kernel_rfl, by kernel_rfl⟩
theorem h88 : Has 88 g88 := ⟨Try.f88, Try.func88, by kernel_rfl, by kernel_rfl⟩
theorem h89 : Has 89 g89 := ⟨Try.f89, Try.func89, by kernel_rfl, by kernel_rfl⟩
theorem h92 : Has 92 g92 := ⟨Try.f92, Try.func92, by kernel_rfl, by kernel_rfl⟩
theorem h93 : Has 93 g93 := ⟨Try.f93, Try.func93, by kernel_rfl, by kernel_rfl⟩
theorem h94 : Has 94 g94 := ⟨Try.f94, Try.func94, by kernel_rfl, by kernel_rfl⟩
theorem h95 : Has 95 g95 := ⟨Try.f95, Try.func95, by kernel_rfl, by kernel_rfl⟩
theorem h96 : Has 96 g96 := ⟨Try.f96, Try.func96, by kernel_rfl, by kernel_rfl⟩
theorem h97 : Has 97 g97 := ⟨Try.f97, Try.func97, by kernel_rfl, by kernel_rfl⟩
theorem h98 : Has 98 g98 := ⟨Try.f98, Try.func98, by kernel_rfl, by kernel_rfl⟩
theorem h99 : Has 99 g99 := ⟨Try.f99, Try.func99, by kernel_rfl, by kernel_rfl⟩
theorem h100 : Has 100 g100 := ⟨Try.f100, Try.func100, by kernel_rfl, by kernel_rfl⟩
theorem h101 : Has 101 g101 := ⟨Try.f101, Try.func101, by kernel_rfl, by kernel_rfl⟩
theorem h102 : Has 102 g102 := ⟨Try.f102, Try.func102, by kernel_rfl, by kernel_rfl⟩
theorem h105 : Has 105 g105 := ⟨Try.f105, Try.func105, by kernel_rfl, by kernel_rfl⟩
theorem h106 : Has 106 g106 := ⟨Try.f106, Try.func106, by kernel_rfl, by kernel_rfl⟩
theorem h107 : Has 107 g107 := ⟨Try.f107, Try.func107, by kernel_rfl, by kernel_rfl⟩
theorem h108 : Has 108 g108 := ⟨Try.f108, Try.func108, by kernel_rfl, by kernel_rfl⟩
theorem h109 : Has 109 g109 := ⟨Try.f109, Try.func109, by kernel_rfl, by kernel_rfl⟩
theorem h110 : Has 110 g110 := ⟨Try.f110, Try.func110, by kernel_rfl, by kernel_rfl⟩
theorem h113 : Has 113 g113 := ⟨Try.f113, Try.func113, by kernel_rfl, by kernel_rfl⟩
theorem h130 : Has 130 g130 := ⟨Try.f130, Try.func130, by kernel_rfl, by kernel_rfl⟩
theorem h131 : Has 131 g131 := ⟨Try.f131, Try.func131, by kernel_rfl, by kernel_rfl⟩
theorem h132 : Has 132 g132 := ⟨Try.f132, Try.func132, by kernel_rfl, by kernel_rfl⟩
theorem h133 : Has 133 g133 := ⟨Try.f133, Try.func133, by kernel_rfl, by kernel_rfl⟩
theorem tabOf : TabOf Try.prog T := by
  intro f fn h
  simp only [T] at h
  unfold fnOf at h
  split at h
  all_goals first | (cases h; done) | skip
  all_goals (simp only [Option.some.injEq] at h; subst h)
  · exact h6
  · exact h9
  · exact h11
  · exact h13
  · exact h18
  · exact h20
  · exact h21
  · exact h23
  · exact h24
  · exact h30
  · exact h31
  · exact h32
  · exact h33
  · exact h34
  · exact h35
  · exact h36
  · exact h37
  · exact h38
  · exact h42
  · exact h43
  · exact h44
  · exact h45
  · exact h46
  · exact h47
  · exact h48
  · exact h51
  · exact h52
  · exact h53
  · exact h54
  · exact h55
  · exact h56
  · exact h57
  · exact h58
  · exact h59
  · exact h60
  · exact h61
  · exact h62
  · exact h64
  · exact h65
  · exact h66
  · exact h67
  · exact h68
  · exact h69
  · exact h70
  · exact h71
  · exact h72
  · exact h73
  · exact h74
  · exact h77
  · exact h78
  · exact h79
  · exact h80
  · exact h81
  · exact h82
  · exact h83
  · exact h84
  · exact h85
  · exact h86
  · exact h87
  · exact h88
  · exact h89
  · exact h92
  · exact h93
  · exact h94
  · exact h95
  · exact h96
  · exact h97
  · exact h98
  · exact h99
  · exact h100
  · exact h101
  · exact h102
  · exact h105
  · exact h106
  · exact h107
  · exact h108
  · exact h109
  · exact h110
  · exact h113
  · exact h130
  · exact h131
  · exact h132
  · exact h133
theorem mixed : Try.prog.follows .mixedOrders = true := by kernel_rfl
end Go.Q.S11
end
