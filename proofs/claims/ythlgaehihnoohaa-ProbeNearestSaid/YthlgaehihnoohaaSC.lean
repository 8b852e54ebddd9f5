/- Distances by definition; hits. -/
import Derived.Test.YthlgaehihnoohaaSB
import Derived.Test.YthlgaehihnoohaaProg
import Derived.KernelRfl
section
set_option linter.unusedSimpArgs false
set_option linter.unusedVariables false
namespace Go.Q.S14
open Go.Q

theorem sq_comm (a b : List Int) : ∀ j, j ≤ a.length → j ≤ b.length → sq a b j = sq b a j
  | 0, _, _ => by simp [sq_zero]
  | j + 1, h1, h2 => by
    rw [sq_succ a b (by omega) (by omega), sq_succ b a (by omega) (by omega), sq_comm a b j (by omega) (by omega)]
    have : (a[j] - b[j]) * (a[j] - b[j]) = (b[j] - a[j]) * (b[j] - a[j]) := by
      rw [← Int.neg_mul_neg]; congr 1 <;> omega
    rw [this]
theorem distI_comm {a b : Option (List Int)} (h : (lst a).length = (lst b).length) : distI a b = distI b a := by
  unfold distI
  rw [h]
  exact sq_comm _ _ _ (by omega) (by omega)

theorem un_neg (k : IntKind) (a : Int) : unV .neg (.int k a) = some (.int k (k.wrap (-a))) := by simp [unV, pureV, Op.unary, Op.intArith]; rfl

theorem r28 (a b : Option (List Int)) (h : Two a b) : res T 28 [slV 1 i32V a, slV 1 i32V b] = some (.int .u64 (distI a b)) := by
  refine run_res (run_pure (fn := g28) rfl rfl (by decide) ?_)
  simp only [g28, b28]
  obtain ⟨oa, ob, hl⟩ := h
  obtain ⟨a1, ha⟩ := okV_len oa
  obtain ⟨b1, hb⟩ := okV_len ob
  simp +contextual -implicitDefEqProofs (maxSteps := 2000000) only [↓wP, wQ, wQ1, wQ2, wQ3, wR, boxE, partsOf, ↓reduceIte, Nat.reduceEqDiff, Nat.reduceAdd, Nat.reduceSub, Nat.reduceLeDiff, Nat.reduceLT, Nat.reduceMul, reduceCtorEq, Int.reduceBNe, Int.reduceBEq, Int.reduceLT, Int.reduceLE, Int.reduceGT]
  refine WC_loopI 0 (fun (j : Nat) env σ n => j ≤ (lst a).length ∧ env 6 = .int .i64 (j : Int) ∧ env 0 = slV 1 i32V a ∧ env 1 = slV 1 i32V b ∧ env 5 = .int .u64 (sq (lst a) (lst b) j)) (fun j => (lst a).length - j) ?_ 0 _ _ _ ?_
  · intro j env σ n ⟨h0, h1, h2, h3, h4⟩
    by_cases hj : j < (lst a).length
    · have hd : decide ((j : Int) < ((lst a).length : Int)) = true := by simp [hj]
      have hw : IntKind.i64.wrap ((j : Int) + 1) = ((j + 1 : Nat) : Int) := by rw [wrap_i64] <;> omega
      have hx : (lst a)[j]? = some (lst a)[j] := List.getElem?_eq_getElem hj
      have hz : (lst b)[j]? = some ((lst b)[j]'(by omega)) := List.getElem?_eq_getElem (by omega)
      obtain ⟨q1, q2⟩ := sq_le ha hb j (by omega) (by omega)
      obtain ⟨p1, p2⟩ := sq_le ha hb (j + 1) (by omega) (by omega)
      have hs := sq_succ (lst a) (lst b) hj (by omega)
      have ha' := List.all_eq_true.1 ha (lst a)[j] (List.getElem_mem _)
      have hb' := List.all_eq_true.1 hb ((lst b)[j]'(by omega)) (List.getElem_mem _)
      rw [hs] at p1 p2
      generalize (lst a)[j] = x at *
      generalize (lst b)[j]'(by omega) = y at *
      generalize sq (lst a) (lst b) j = s at *
      simp only [okI, Bool.and_eq_true, decide_eq_true_eq] at ha' hb'
      have v1 : IntKind.i64.wrap x = x := by rw [wrap_i64] <;> omega
      have v2 : IntKind.i64.wrap y = y := by rw [wrap_i64] <;> omega
      have w1 : IntKind.i64.wrap (x - y) = x - y := by rw [wrap_i64] <;> omega
      have w2 : IntKind.i64.wrap (-(x - y)) = y - x := by rw [wrap_i64] <;> omega
      push_cast at p2
      have w5 : IntKind.u64.wrap (s + (x - y) * (x - y)) = s + (x - y) * (x - y) := by rw [wrap_u64] <;> omega
      have sqd : ∀ d : Int, 0 ≤ d → d ≤ 2147483646 → d * d = (x - y) * (x - y) → IntKind.u64.wrap d = d ∧ IntKind.u64.wrap (d * d) = (x - y) * (x - y) := by
        intro d d1 d2 d3
        have k1 : 0 ≤ d * d := Int.mul_nonneg d1 d1
        have k2 : d * d ≤ 2147483646 * 2147483646 := Int.mul_le_mul d2 d2 d1 (by decide)
        exact ⟨by rw [wrap_u64] <;> omega, by rw [d3, wrap_u64] <;> omega⟩
      by_cases hlt : x - y < 0
      · obtain ⟨w3, w4⟩ := sqd (y - x) (by omega) (by omega) (by rw [← Int.neg_mul_neg]; congr 1 <;> omega)
        simp +contextual -implicitDefEqProofs (maxSteps := 2000000) only [↓wP, wQ, wQ1, wQ2, wQ3, wR, boxE, partsOf, ↓reduceIte, Nat.reduceEqDiff, Nat.reduceAdd, Nat.reduceSub, Nat.reduceLeDiff, Nat.reduceLT, Nat.reduceMul, reduceCtorEq, Int.reduceBNe, Int.reduceBEq, Int.reduceLT, Int.reduceLE, Int.reduceGT, h1, h2, h3, h4, hd, hx, hz, i32V, v1, v2, w1, hlt, un_neg, w2, w3, w4, w5, hw]
        exact ⟨j + 1, by omega, by omega, rfl, by rw [hs]⟩
      · obtain ⟨w3, w4⟩ := sqd (x - y) (by omega) (by omega) rfl
        simp +contextual -implicitDefEqProofs (maxSteps := 2000000) only [↓wP, wQ, wQ1, wQ2, wQ3, wR, boxE, partsOf, ↓reduceIte, Nat.reduceEqDiff, Nat.reduceAdd, Nat.reduceSub, Nat.reduceLeDiff, Nat.reduceLT, Nat.reduceMul, reduceCtorEq, Int.reduceBNe, Int.reduceBEq, Int.reduceLT, Int.reduceLE, Int.reduceGT, h1, h2, h3, h4, hd, hx, hz, i32V, v1, v2, w1, hlt, w2, w3, w4, w5, hw]
        exact ⟨j + 1, by omega, by omega, rfl, by rw [hs]⟩
    · have hd : decide ((j : Int) < ((lst a).length : Int)) = false := by simp; omega
      have hj' : j = (lst a).length := by omega
      have hv : sq (lst a) (lst b) j = distI a b := by rw [hj']; rfl
      simp +contextual -implicitDefEqProofs (maxSteps := 2000000) only [↓wP, wQ, wQ1, wQ2, wQ3, wR, boxE, partsOf, ↓reduceIte, Nat.reduceEqDiff, Nat.reduceAdd, Nat.reduceSub, Nat.reduceLeDiff, Nat.reduceLT, Nat.reduceMul, reduceCtorEq, Int.reduceBNe, Int.reduceBEq, Int.reduceLT, Int.reduceLE, Int.reduceGT, h1, h2, h3, h4, hd, hv]
  · simp +contextual -implicitDefEqProofs (maxSteps := 2000000) only [↓wP, wQ, wQ1, wQ2, wQ3, wR, boxE, partsOf, ↓reduceIte, Nat.reduceEqDiff, Nat.reduceAdd, Nat.reduceSub, Nat.reduceLeDiff, Nat.reduceLT, Nat.reduceMul, reduceCtorEq, Int.reduceBNe, Int.reduceBEq, Int.reduceLT, Int.reduceLE, Int.reduceGT]
    simp [sq_zero]

theorem f28 (a b : Option (List Int)) (h : Two a b) (fs : Bool) (σ : Sto) (n lk : Nat) : callE T fs 28 [slV 1 i32V a, slV 1 i32V b] σ n lk = some (.int .u64 (distI a b), σ, n) :=
  callE_tr (by decide) (r28 a b h) (by simp [Tr, Tr_slV]) rfl fs σ n lk

theorem r41 (q v : Option (List Int)) (k id : Int) (hq : (lst q).length < 9223372036854775808) (hv : (lst v).length < 9223372036854775808) : res T 41 [.agg [slV 1 i32V q, .int .i64 k], .int .u64 id, slV 1 i32V v] = some (.tup [.agg [.int .u64 id, .int .u64 (disV q v)], .int .i64 (disE q v)]) := by
  refine run_res (run_pure (fn := g41) rfl rfl (by decide) ?_)
  simp only [g41, b41]
  have f := f17 q v hq hv
  simp +contextual -implicitDefEqProofs (maxSteps := 2000000) only [↓wP, wQ, wQ1, wQ2, wQ3, wR, boxE, partsOf, ↓reduceIte, Nat.reduceEqDiff, Nat.reduceAdd, Nat.reduceSub, Nat.reduceLeDiff, Nat.reduceLT, Nat.reduceMul, reduceCtorEq, Int.reduceBNe, Int.reduceBEq, Int.reduceLT, Int.reduceLE, Int.reduceGT, f]

theorem f41 (q v : Option (List Int)) (k id : Int) (hq : (lst q).length < 9223372036854775808) (hv : (lst v).length < 9223372036854775808) (fs : Bool) (σ : Sto) (n lk : Nat) : callE T fs 41 [.agg [slV 1 i32V q, .int .i64 k], .int .u64 id, slV 1 i32V v] σ n lk = some (.tup [.agg [.int .u64 id, .int .u64 (disV q v)], .int .i64 (disE q v)], σ, n) :=
  callE_tr (by decide) (r41 q v k id hq hv) (by simp [Tr, Tr_slV]) rfl fs σ n lk
end Go.Q.S14
end

section
/- The layer does something. -/
set_option linter.unusedSimpArgs false
set_option linter.unusedVariables false
namespace Go.Q.S14
open Go.Q

def isTrue' : Option Out → Bool
  | some (.val (.bool true)) => true
  | _ => false
theorem isTrue_eq {o : Option Out} (h : isTrue' o = true) : o = some (.val (.bool true)) := by
  unfold isTrue' at h
  split at h
  · rfl
  · cases h

theorem r7 : res T 7 [] = some (.bool true) := by
  have h : isTrue' (exJob T 150 (.pure 7 [])) = true := by decide +kernel
  exact run_res (exJob_sound 150 _ _ (isTrue_eq h))
theorem f7 (fs : Bool) (σ : Sto) (n lk : Nat) : callE T fs 7 [] σ n lk = some (.bool true, σ, n) := callE_tr (by decide) r7 rfl rfl fs σ n lk
end Go.Q.S14
end

section
/- Centroids: which may be. -/
set_option linter.unusedSimpArgs false
set_option linter.unusedVariables false
namespace Go.Q.S14
open Go.Q Go.Sort

abbrev Vc := Option (List Int)
def Sm (v : Vc) : Prop := (lst v).length < 9223372036854775808

def ofE (v : Vc) (n : Int) : Int := if okV v then (if ((lst v).length : Int) = n then 0 else 151) else 150
theorem r69 (v : Vc) (m : Int) (hv : Sm v) : res T 69 [slV 1 i32V v, .int .i64 m] = some (.int .i64 (ofE v m)) := by
  refine run_res (run_pure (fn := g69) rfl rfl (by decide) ?_)
  simp only [g69, b69]
  have h := f22 v hv
  unfold ofE
  cases hk : okV v
  · rw [hk] at h
    simp +contextual -implicitDefEqProofs (maxSteps := 2000000) only [↓wP, wQ, wQ1, wQ2, wQ3, wR, boxE, partsOf, ↓reduceIte, Nat.reduceEqDiff, Nat.reduceAdd, Nat.reduceSub, Nat.reduceLeDiff, Nat.reduceLT, Nat.reduceMul, reduceCtorEq, Int.reduceBNe, Int.reduceBEq, Int.reduceLT, Int.reduceLE, Int.reduceGT, h]
  · rw [hk] at h
    by_cases hn : ((lst v).length : Int) = m
    · subst hn
      simp +contextual -implicitDefEqProofs (maxSteps := 2000000) only [↓wP, wQ, wQ1, wQ2, wQ3, wR, boxE, partsOf, ↓reduceIte, Nat.reduceEqDiff, Nat.reduceAdd, Nat.reduceSub, Nat.reduceLeDiff, Nat.reduceLT, Nat.reduceMul, reduceCtorEq, Int.reduceBNe, Int.reduceBEq, Int.reduceLT, Int.reduceLE, Int.reduceGT, h]
    · have hn' : (((lst v).length : Int) != m) = true := by simpa using hn
      simp +contextual -implicitDefEqProofs (maxSteps := 2000000) only [↓wP, wQ, wQ1, wQ2, wQ3, wR, boxE, partsOf, ↓reduceIte, Nat.reduceEqDiff, Nat.reduceAdd, Nat.reduceSub, Nat.reduceLeDiff, Nat.reduceLT, Nat.reduceMul, reduceCtorEq, Int.reduceBNe, Int.reduceBEq, Int.reduceLT, Int.reduceLE, Int.reduceGT, h, hn, hn']

theorem f69 (v : Vc) (m : Int) (hv : Sm v) (fs : Bool) (σ : Sto) (n lk : Nat) : callE T fs 69 [slV 1 i32V v, .int .i64 m] σ n lk = some (.int .i64 (ofE v m), σ, n) :=
  callE_tr (by decide) (r69 v m hv) (by simp [Tr, Tr_slV]) rfl fs σ n lk

/-- The dimension of the first one. -/
def dm (c : Option (List Vc)) : Nat := match lst c with
  | [] => 0
  | v :: _ => (lst v).length
theorem dm_get {c : Option (List Vc)} (h : lst c ≠ []) : ∃ v, (lst c)[0]? = some v ∧ dm c = (lst v).length := by
  unfold dm
  cases hc : lst c with
  | nil => exact absurd hc h
  | cons v l => exact ⟨v, rfl, rfl⟩
def okC (c : Option (List Vc)) (v : Vc) : Bool := okV v && decide ((lst v).length = dm c)
theorem ofE_ok (c : Option (List Vc)) (v : Vc) : (ofE v ((dm c : Nat) : Int) != 0) = !okC c v := by
  unfold ofE okC
  by_cases h1 : okV v = true
  · by_cases h2 : (lst v).length = dm c
    · have : ((lst v).length : Int) = ((dm c : Nat) : Int) := by omega
      simp [h1, h2]
    · have : ¬ ((lst v).length : Int) = ((dm c : Nat) : Int) := by omega
      simp [h1, h2, this]
  · simp [h1]

theorem r68 (v : Vc) (c : Option (List Vc)) (hc : lst c ≠ []) (hv : Sm v) : res T 68 [slV 1 i32V v, .box [slV 1 vecV c]] = some (.bool (!okC c v)) := by
  refine run_res (run_pure (fn := g68) rfl rfl (by decide) ?_)
  simp only [g68, b68]
  obtain ⟨v0, h0, hd⟩ := dm_get hc
  have h := f69 v ((dm c : Nat) : Int) hv
  have h2 := ofE_ok c v
  rw [hd] at h h2
  simp +contextual -implicitDefEqProofs (maxSteps := 2000000) only [↓wP, wQ, wQ1, wQ2, wQ3, wR, boxE, partsOf, ↓reduceIte, Nat.reduceEqDiff, Nat.reduceAdd, Nat.reduceSub, Nat.reduceLeDiff, Nat.reduceLT, Nat.reduceMul, reduceCtorEq, Int.reduceBNe, Int.reduceBEq, Int.reduceLT, Int.reduceLE, Int.reduceGT, h0, vecV_eq, h, h2]

theorem f68 (v : Vc) (c : Option (List Vc)) (hc : lst c ≠ []) (hv : Sm v) (fs : Bool) (σ : Sto) (n lk : Nat) : callE T fs 68 [slV 1 i32V v, .box [slV 1 vecV c]] σ n lk = some (.bool (!okC c v), σ, n) :=
  callE_tr (by decide) (r68 v c hc hv) (by simp [Tr, Tr_slV]) rfl fs σ n lk

theorem r65g (o : Option (List Vc)) (F : Nat) (caps : List V) (p : Vc → Bool) (hl : (lst o).length < 9223372036854775808) (hp : ∀ x ∈ lst o, ∀ fs σ n lk, callE T fs F (slV 1 i32V x :: caps) σ n lk = some (.bool (p x), σ, n)) :
    res T 65 [slV 1 vecV o, .fn F caps] = some (.int .i64 (idxF p (lst o))) := by
  refine run_res (run_pure (fn := g65) rfl rfl (by decide) ?_)
  simp only [g65, b65]
  simp +contextual -implicitDefEqProofs (maxSteps := 2000000) only [↓wP, wQ, wQ1, wQ2, wQ3, wR, boxE, partsOf, ↓reduceIte, Nat.reduceEqDiff, Nat.reduceAdd, Nat.reduceSub, Nat.reduceLeDiff, Nat.reduceLT, Nat.reduceMul, reduceCtorEq, Int.reduceBNe, Int.reduceBEq, Int.reduceLT, Int.reduceLE, Int.reduceGT]
  refine WC_for (lst o).length 0 (fun (j : Nat) env _ _ => env 0 = slV 1 vecV o ∧ env 1 = .fn F caps ∧ (lst o).findIdx? p = (((lst o).drop j).findIdx? p).map (· + j)) (by omega) (by decide) (by decide) (fun _ _ => rfl) (fun _ _ _ => rfl) ?_ ?_ _ _ _ rfl rfl ?_
  · intro j env σ n hj h1 h2 ⟨h3, h4, h5⟩
    simp only [vl_tmp] at h2
    have hx : (lst o)[j]? = some (lst o)[j] := List.getElem?_eq_getElem hj
    have hp' := hp (lst o)[j] (List.getElem_mem hj)
    simp +contextual -implicitDefEqProofs (maxSteps := 2000000) only [↓wP, wQ, wQ1, wQ2, wQ3, wR, boxE, partsOf, ↓reduceIte, Nat.reduceEqDiff, Nat.reduceAdd, Nat.reduceSub, Nat.reduceLeDiff, Nat.reduceLT, Nat.reduceMul, reduceCtorEq, Int.reduceBNe, Int.reduceBEq, Int.reduceLT, Int.reduceLE, Int.reduceGT, h1, h2, h3, h4, hx, vecV_eq, hp']
    rw [List.drop_eq_getElem_cons hj, List.findIdx?_cons] at h5
    refine condC_split (fun hb => ?_) (fun hb => ?_)
    · simp +contextual -implicitDefEqProofs (maxSteps := 2000000) only [↓wP, wQ, wQ1, wQ2, wQ3, wR, boxE, partsOf, ↓reduceIte, Nat.reduceEqDiff, Nat.reduceAdd, Nat.reduceSub, Nat.reduceLeDiff, Nat.reduceLT, Nat.reduceMul, reduceCtorEq, Int.reduceBNe, Int.reduceBEq, Int.reduceLT, Int.reduceLE, Int.reduceGT]
      simp [idxF, h5, hb]
    · simp +contextual -implicitDefEqProofs (maxSteps := 2000000) only [↓wP, wQ, wQ1, wQ2, wQ3, wR, boxE, partsOf, ↓reduceIte, Nat.reduceEqDiff, Nat.reduceAdd, Nat.reduceSub, Nat.reduceLeDiff, Nat.reduceLT, Nat.reduceMul, reduceCtorEq, Int.reduceBNe, Int.reduceBEq, Int.reduceLT, Int.reduceLE, Int.reduceGT, h1, h2, h3, h4]
      rw [h5, hb]
      simp only [Bool.false_eq_true, if_false, Option.map_map, Function.comp_def]
      congr 1; funext i; omega
  · intro env σ n ⟨h3, h4, h5⟩ h1 h2
    simp +contextual -implicitDefEqProofs (maxSteps := 2000000) only [↓wP, wQ, wQ1, wQ2, wQ3, wR, boxE, partsOf, ↓reduceIte, Nat.reduceEqDiff, Nat.reduceAdd, Nat.reduceSub, Nat.reduceLeDiff, Nat.reduceLT, Nat.reduceMul, reduceCtorEq, Int.reduceBNe, Int.reduceBEq, Int.reduceLT, Int.reduceLE, Int.reduceGT]
    simp [idxF, h5]
  · exact ⟨rfl, rfl, by simp⟩

def cents (c : Option (List Vc)) : Bool := decide ((lst c).length ≤ 6) && (lst c).all (okC c)
theorem r53g (c : Option (List Vc)) (hl : (lst c).length < 9223372036854775808) (hv : ∀ v ∈ lst c, Sm v) : res T 53 [slV 1 vecV c, .fn 68 [.box [slV 1 vecV c]]] = some (.bool (!(lst c).all (okC c))) := by
  refine run_res (run_pure (fn := g53) rfl rfl (by decide) ?_)
  simp only [g53, b53]
  have h := r65g c 68 [.box [slV 1 vecV c]] (fun v => !okC c v) hl (fun x hx fs σ n lk => f68 x c (fun h => by rw [h] at hx; simp at hx) (hv x hx) fs σ n lk)
  have hm : T.mode 65 ≠ .raw := by decide
  have ha : ((lst c).any fun v => !okC c v) = !(lst c).all (okC c) := by rw [List.not_all_eq_any_not]
  simp +contextual -implicitDefEqProofs (maxSteps := 2000000) only [↓wP, wQ, wQ1, wQ2, wQ3, wR, boxE, partsOf, ↓reduceIte, Nat.reduceEqDiff, Nat.reduceAdd, Nat.reduceSub, Nat.reduceLeDiff, Nat.reduceLT, Nat.reduceMul, reduceCtorEq, Int.reduceBNe, Int.reduceBEq, Int.reduceLT, Int.reduceLE, Int.reduceGT, h, callE_eq hm, idxF_any, ha]
theorem r57 (c : Option (List Vc)) (hl : (lst c).length < 9223372036854775808) (hv : ∀ v ∈ lst c, Sm v) : res T 57 [slV 1 vecV c] = some (.bool (cents c)) := by
  refine run_res (run_pure (fn := g57) rfl rfl (by decide) ?_)
  simp only [g57, b57]
  unfold cents
  by_cases h6 : (6 : Int) < ((lst c).length : Int)
  · have : ¬ (lst c).length ≤ 6 := by omega
    simp +contextual -implicitDefEqProofs (maxSteps := 2000000) only [↓wP, wQ, wQ1, wQ2, wQ3, wR, boxE, partsOf, ↓reduceIte, Nat.reduceEqDiff, Nat.reduceAdd, Nat.reduceSub, Nat.reduceLeDiff, Nat.reduceLT, Nat.reduceMul, reduceCtorEq, Int.reduceBNe, Int.reduceBEq, Int.reduceLT, Int.reduceLE, Int.reduceGT, h6, this]
  · have : (lst c).length ≤ 6 := by omega
    have h := r53g c hl hv
    have hm : T.mode 53 ≠ .raw := by decide
    have ef : ∀ σ n, σ n = some (.row 1 [slV 1 vecV c]) → [slV 1 vecV c, V.fn 68 [.ptr n 1 0 0]].mapM (frz σ 12) = some [slV 1 vecV c, .fn 68 [.box [slV 1 vecV c]]] := by
      intro σ n hn
      have hx : frz σ 12 (.fn 68 [.ptr n 1 0 0]) = some (.fn 68 [.box [slV 1 vecV c]]) := by
        simp +contextual -implicitDefEqProofs (maxSteps := 2000000) only [↓wP, wQ, wQ1, wQ2, wQ3, wR, boxE, partsOf, ↓reduceIte, Nat.reduceEqDiff, Nat.reduceAdd, Nat.reduceSub, Nat.reduceLeDiff, Nat.reduceLT, Nat.reduceMul, reduceCtorEq, Int.reduceBNe, Int.reduceBEq, Int.reduceLT, Int.reduceLE, Int.reduceGT, hn, frz_fn, frz_ptr, frz_slV, cl_slV]
      simp only [List.mapM_cons, List.mapM_nil, frz_slV, hx]; rfl
    have f53 := fun n lk => callE_flat (fs := true) (n := n) (lk := lk) (by decide) (ef (upd Sto.empty 0 (some (.row 1 [slV 1 vecV c]))) 0 (by rw [upd_self])) h rfl
    simp +contextual -implicitDefEqProofs (maxSteps := 2000000) only [↓wP, wQ, wQ1, wQ2, wQ3, wR, boxE, partsOf, ↓reduceIte, Nat.reduceEqDiff, Nat.reduceAdd, Nat.reduceSub, Nat.reduceLeDiff, Nat.reduceLT, Nat.reduceMul, reduceCtorEq, Int.reduceBNe, Int.reduceBEq, Int.reduceLT, Int.reduceLE, Int.reduceGT, h6, this, f53]

theorem f57 (c : Option (List Vc)) (hl : (lst c).length < 9223372036854775808) (hv : ∀ v ∈ lst c, Sm v) (fs : Bool) (σ : Sto) (n lk : Nat) : callE T fs 57 [slV 1 vecV c] σ n lk = some (.bool (cents c), σ, n) :=
  callE_tr (by decide) (r57 c hl hv) (by simp [Tr, Tr_slV]) rfl fs σ n lk

/-! ### Lists without slots -/
def zm : V := .agg [.int .u64 0, .int .u64 0]
def isZm : Option Out → Bool
  | some (.val (.agg [.int .u64 0, .int .u64 0])) => true
  | _ => false
theorem isZm_eq {o : Option Out} (h : isZm o = true) : o = some (.val zm) := by
  unfold isZm at h
  split at h
  · rfl
  · cases h
def isI0 : Option Out → Bool
  | some (.val (.int .i64 0)) => true
  | _ => false
theorem isI0_eq {o : Option Out} (h : isI0 o = true) : o = some (.val (.int .i64 0)) := by
  unfold isI0 at h
  split at h
  · rfl
  · cases h
theorem r59z (i : Nat) (hi : i < 6) : res T 59 [.sl 2 (List.replicate i zm)] = some zm := by
  have h : ∀ i < 6, isZm (exJob T 60 (.pure 59 [.sl 2 (List.replicate i zm)])) = true := by decide +kernel
  exact run_res (exJob_sound 60 _ _ (isZm_eq (h i hi)))
theorem r58z : res T 58 [.sl 2 [zm, zm]] = some zm := run_res (exJob_sound 60 _ _ (isZm_eq (by decide +kernel)))
theorem r60z : res T 60 [zm] = some (.int .i64 0) := run_res (exJob_sound 60 _ _ (isI0_eq (by decide +kernel)))
theorem r61z : res T 61 [zm] = some (.int .i64 0) := run_res (exJob_sound 60 _ _ (isI0_eq (by decide +kernel)))
theorem f59z (i : Nat) (hi : i < 6) (fs : Bool) (σ : Sto) (n lk : Nat) : callE T fs 59 [.sl 2 (List.replicate i zm)] σ n lk = some (zm, σ, n) := callE_tr (by decide) (r59z i hi) (by simp [Tr]) rfl fs σ n lk
theorem f60z (fs : Bool) (σ : Sto) (n lk : Nat) : callE T fs 60 [zm] σ n lk = some (.int .i64 0, σ, n) := callE_tr (by decide) r60z rfl rfl fs σ n lk
theorem f61z (fs : Bool) (σ : Sto) (n lk : Nat) : callE T fs 61 [zm] σ n lk = some (.int .i64 0, σ, n) := callE_tr (by decide) r61z rfl rfl fs σ n lk

theorem f58z {σ : Sto} {id : Nat} (h : σ id = some (.row 2 [.agg [.int .u64 0, .int .u64 0], .agg [.int .u64 0, .int .u64 0]])) (fs : Bool) (n lk : Nat) :
    callE T fs 58 [.ref id 0 2 2] σ n lk = some (.agg [.int .u64 0, .int .u64 0], σ, n) := by
  have e : [V.ref id 0 2 2].mapM (frz σ 12) = some [.sl 2 [zm, zm]] := by
    simp [frz, elems, h, elemM, zm]
  rw [callE_flat (by decide) e r58z rfl]; rfl

theorem r45z (c : Option (List Vc)) (hl : (lst c).length < 9223372036854775808) (hv : ∀ v ∈ lst c, Sm v) :
    res T 45 [.agg [slV 1 vecV c, .sl 2 (List.replicate (lst c).length zm)]] = some (.int .i64 (if cents c then 0 else 230)) := by
  refine run_res (run_pure (fn := g45) rfl rfl (by decide) ?_)
  simp only [g45, b45]
  have f57' := f57 c hl hv
  have hMM : (((lst c).length : Int) != ((lst c).length : Int)) = false := by simp
  have hle : lenE (.sl 2 (List.replicate (lst c).length zm)) = some (.int .i64 ((lst c).length : Int)) := by simp [lenE, lenOf]
  cases hc : cents c
  · rw [hc] at f57'
    simp +contextual -implicitDefEqProofs (maxSteps := 2000000) only [↓wP, wQ, wQ1, wQ2, wQ3, wR, boxE, partsOf, ↓reduceIte, Nat.reduceEqDiff, Nat.reduceAdd, Nat.reduceSub, Nat.reduceLeDiff, Nat.reduceLT, Nat.reduceMul, reduceCtorEq, Int.reduceBNe, Int.reduceBEq, Int.reduceLT, Int.reduceLE, Int.reduceGT, f57', hle, hMM]
  · rw [hc] at f57'
    have h6 : (lst c).length ≤ 6 := by unfold cents at hc; simp only [Bool.and_eq_true, decide_eq_true_eq] at hc; exact hc.1
    simp +contextual -implicitDefEqProofs (maxSteps := 2000000) only [↓wP, wQ, wQ1, wQ2, wQ3, wR, boxE, partsOf, ↓reduceIte, Nat.reduceEqDiff, Nat.reduceAdd, Nat.reduceSub, Nat.reduceLeDiff, Nat.reduceLT, Nat.reduceMul, reduceCtorEq, Int.reduceBNe, Int.reduceBEq, Int.reduceLT, Int.reduceLE, Int.reduceGT, f57', hle, hMM]
    obtain ⟨Z, hZ⟩ : ∃ Z, Z = List.replicate (lst c).length zm := ⟨_, rfl⟩
    rw [← hZ] at hle ⊢
    have hB := big_le
    refine WC_for (lst c).length 0 (fun (j : Nat) env σ n => env 1 = .ptr 0 2 0 0 ∧ env 20 = .sl 2 Z ∧ 0 < n ∧ σ 0 = some (.row 2 [.agg [slV 1 vecV c, .sl 2 Z]])) hl (by decide) (by decide) (fun _ _ => rfl) (fun _ _ _ => rfl) ?_ ?_ _ _ _ rfl rfl ?_
    · intro j env σ n hj h1 h2 ⟨g1, g2, g3, g4⟩
      simp only [vl_tmp] at h2
      have z1 : Z[j]? = some (.agg [.int .u64 0, .int .u64 0]) := by rw [hZ, List.getElem?_replicate, if_pos hj]; rfl
      have z2 : Z.take j = List.replicate j zm := by rw [hZ, List.take_replicate, Nat.min_eq_left (by omega)]
      have z3 : (j ≤ Z.length) = True := by rw [hZ, List.length_replicate]; simp; omega
      have c59 := f59z j (by omega)
      simp only [zm] at c59 z2
      obtain ⟨S, hS⟩ : ∃ S, S = upd (upd σ n (some (Ob.row 2 [V.agg [V.int IntKind.u64 0, V.int IntKind.u64 0]]))) n (some (Ob.row 2 [V.agg [V.int IntKind.u64 0, V.int IntKind.u64 0]])) := ⟨_, rfl⟩
      have s0 : S 0 = some (.row 2 [.agg [slV 1 vecV c, .sl 2 Z]]) := by rw [hS, upd_ne (by omega), upd_ne (by omega)]; exact g4
      have s1 : S n = some (.row 2 [.agg [.int .u64 0, .int .u64 0]]) := by rw [hS, upd_self]
      have y0 : ∀ hid, hide S (n + 1) (n + 1) hid 0 = S 0 := fun hid => hide_low _ _ _ _ (by omega) (Nat.le_refl _)
      have y1 : ∀ hid, hide S (n + 1) (n + 1) hid n = S n := fun hid => hide_low _ _ _ _ (by omega) (Nat.le_refl _)
      obtain ⟨S1, hS1⟩ : ∃ S1, S1 = merge S (upd (hide S (n + 1) (n + 1) [1]) (n + 1) (some (Ob.row 2 [V.agg [V.int IntKind.u64 0, V.int IntKind.u64 0], V.agg [V.int IntKind.u64 0, V.int IntKind.u64 0]]))) (n + 1) := ⟨_, rfl⟩
      have t1 : S1 (n + 1) = some (.row 2 [.agg [.int .u64 0, .int .u64 0], .agg [.int .u64 0, .int .u64 0]]) := by rw [hS1, merge_in _ _ _ (Nat.le_refl _) (by omega)]; simp [upd]
      have u1 : (n + 2 ≤ n + (1 + BIG)) = True := by simp; omega
      obtain ⟨m, hm⟩ : ∃ m, m = n + (1 + BIG * 1) := ⟨_, rfl⟩
      have c58 := f58z (σ := hide S1 (n + 1) m [1]) (id := n + 1) (by
        have e1 : n + 1 < m := by omega
        have e2 : ¬ (n + 1 + BIG * 1 ≤ n + 1 ∧ n + 1 < n + 1 + BIG * 1 + BIG) := by omega
        simp only [hide, hideR, e1, e2, if_true, if_false]
        exact t1) false m m
      obtain ⟨S2, hS2⟩ : ∃ S2, S2 = merge S1 (upd (hide S1 (n + 1) m [0]) m (some (Ob.row 2 [V.agg [V.int IntKind.u64 0, V.int IntKind.u64 0]]))) m := ⟨_, rfl⟩
      have t2 : S2 m = some (.row 2 [.agg [.int .u64 0, .int .u64 0]]) := by rw [hS2, merge_in _ _ _ (Nat.le_refl _) (by omega)]; simp [upd]
      have t3 : S2 n = some (.row 2 [.agg [.int .u64 0, .int .u64 0]]) := by rw [hS2, merge_low _ _ _ (by omega), hS1, merge_low _ _ _ (by omega)]; exact s1
      have t4 : S2 0 = some (.row 2 [.agg [slV 1 vecV c, .sl 2 Z]]) := by rw [hS2, merge_low _ _ _ (by omega), hS1, merge_low _ _ _ (by omega)]; exact s0
      have c60 := f60z
      have c61 := f61z
      simp only [zm] at c60 c61
      have v1 : n ≠ m := by omega
      have u3 : (m + 1 ≤ m + BIG) = True := by simp; omega
      have v0 : 0 ≠ m := by omega
      simp +contextual -implicitDefEqProofs (maxSteps := 2000000) only [↓wP, wQ, wQ1, wQ2, wQ3, wR, boxE, partsOf, ↓reduceIte, Nat.reduceEqDiff, Nat.reduceAdd, Nat.reduceSub, Nat.reduceLeDiff, Nat.reduceLT, Nat.reduceMul, reduceCtorEq, Int.reduceBNe, Int.reduceBEq, Int.reduceLT, Int.reduceLE, Int.reduceGT, h1, h2, g1, g2, z1, z2, z3, ← hS, s0, s1, y0, y1, c59, u1, ← hS1, ← hm, c58, ← hS2, t2, t3, c60, c61, v1, u3]
      exact ⟨by omega, by rw [if_neg v0]; exact t4⟩
    · intro env σ n h h1 h2
      simp +contextual -implicitDefEqProofs (maxSteps := 2000000) only [↓wP, wQ, wQ1, wQ2, wQ3, wR, boxE, partsOf, ↓reduceIte, Nat.reduceEqDiff, Nat.reduceAdd, Nat.reduceSub, Nat.reduceLeDiff, Nat.reduceLT, Nat.reduceMul, reduceCtorEq, Int.reduceBNe, Int.reduceBEq, Int.reduceLT, Int.reduceLE, Int.reduceGT]
    · simp +contextual -implicitDefEqProofs (maxSteps := 2000000) only [↓wP, wQ, wQ1, wQ2, wQ3, wR, boxE, partsOf, ↓reduceIte, Nat.reduceEqDiff, Nat.reduceAdd, Nat.reduceSub, Nat.reduceLeDiff, Nat.reduceLT, Nat.reduceMul, reduceCtorEq, Int.reduceBNe, Int.reduceBEq, Int.reduceLT, Int.reduceLE, Int.reduceGT]

/-- Why there are no centroids that may be. -/
def trE (c : Option (List Vc)) : Int := if lst c = [] then 240 else if cents c then 0 else 230
theorem r23 (c : Option (List Vc)) (hl : (lst c).length ≤ 7) (hv : ∀ v ∈ lst c, Sm v) : res T 23 [slV 1 vecV c] = some (.int .i64 (trE c)) := by
  refine run_res (run_pure (fn := g23) rfl rfl (by decide) ?_)
  simp only [g23, b23]
  unfold trE
  by_cases h0 : lst c = []
  · have z0 : (((0 : Nat) : Int) == 0) = true := rfl
    simp +contextual -implicitDefEqProofs (maxSteps := 2000000) only [↓wP, wQ, wQ1, wQ2, wQ3, wR, boxE, partsOf, ↓reduceIte, Nat.reduceEqDiff, Nat.reduceAdd, Nat.reduceSub, Nat.reduceLeDiff, Nat.reduceLT, Nat.reduceMul, reduceCtorEq, Int.reduceBNe, Int.reduceBEq, Int.reduceLT, Int.reduceLE, Int.reduceGT, h0, List.length_nil, z0]
  · have hp : 0 < (lst c).length := List.length_pos_iff.2 h0
    have hne : (((lst c).length : Int) == 0) = false := by simp; exact h0
    have b1 : (0 : Int) ≤ ((lst c).length : Int) := by omega
    have b2 : ((16 : Nat) : Int) * ((lst c).length : Int) ≤ 140737488355328 := by omega
    have b3 : ((lst c).length : Int).toNat = (lst c).length := rfl
    have e : [V.agg [slV 1 vecV c, .ref 0 0 (lst c).length 2]].mapM (frz (upd Sto.empty 0 (some (.row 2 (List.replicate (lst c).length (.agg [.int .u64 0, .int .u64 0]))))) 12) = some [.agg [slV 1 vecV c, .sl 2 (List.replicate (lst c).length zm)]] := by
      have hx : frz (upd Sto.empty 0 (some (.row 2 (List.replicate (lst c).length (.agg [.int .u64 0, .int .u64 0]))))) 11 (.ref 0 0 (lst c).length 2) = some (.sl 2 (List.replicate (lst c).length zm)) := by
        have he : elems (upd Sto.empty 0 (some (.row 2 (List.replicate (lst c).length (.agg [.int .u64 0, .int .u64 0]))))) 2 (.ref 0 0 (lst c).length 2) = some (List.replicate (lst c).length zm) := by
          simp [elems, upd, zm]
        show (elems _ _ _).bind _ = _
        rw [he, Option.bind_some, mapM_id (fun x hx => by rw [List.eq_of_mem_replicate hx]; rfl)]
        rfl
      simp only [List.mapM_cons, List.mapM_nil, frz_agg, frz_slV, hx, Option.pure_def, Option.bind_eq_bind, Option.bind_some, Option.map_some]
    have f45 := fun n lk => callE_flat (fs := true) (n := n) (lk := lk) (by decide) e (r45z c (by omega) hv) rfl
    simp +contextual -implicitDefEqProofs (maxSteps := 2000000) only [↓wP, wQ, wQ1, wQ2, wQ3, wR, boxE, partsOf, ↓reduceIte, Nat.reduceEqDiff, Nat.reduceAdd, Nat.reduceSub, Nat.reduceLeDiff, Nat.reduceLT, Nat.reduceMul, reduceCtorEq, Int.reduceBNe, Int.reduceBEq, Int.reduceLT, Int.reduceLE, Int.reduceGT, hne, h0, b1, b2, b3, f45]

theorem f23 (c : Option (List Vc)) (hl : (lst c).length ≤ 7) (hv : ∀ v ∈ lst c, Sm v) (fs : Bool) (σ : Sto) (n lk : Nat) : callE T fs 23 [slV 1 vecV c] σ n lk = some (.int .i64 (trE c), σ, n) :=
  callE_tr (by decide) (r23 c hl hv) (by simp [Tr, Tr_slV]) rfl fs σ n lk

/-! ### The document's answer -/
theorem r64 (c : Option (List Vc)) (hl : (lst c).length < 4611686018427387904) (hv : ∀ v ∈ lst c, Sm v) : res T 64 [slV 1 vecV c] = some (.int .i64 (if (lst c).all okV then (if (lst c).all (fun v => decide ((lst v).length = dm c)) then 0 else 151) else 150)) := by
  refine run_res (run_pure (fn := g64) rfl rfl (by decide) ?_)
  simp only [g64, b64]
  simp +contextual -implicitDefEqProofs (maxSteps := 2000000) only [↓wP, wQ, wQ1, wQ2, wQ3, wR, boxE, partsOf, ↓reduceIte, Nat.reduceEqDiff, Nat.reduceAdd, Nat.reduceSub, Nat.reduceLeDiff, Nat.reduceLT, Nat.reduceMul, reduceCtorEq, Int.reduceBNe, Int.reduceBEq, Int.reduceLT, Int.reduceLE, Int.reduceGT]
  refine WC_loopI 0 (fun (j : Nat) env _ _ => j ≤ (lst c).length ∧ env 0 = slV 1 vecV c ∧ env 3 = .int .i64 (j : Int) ∧ (lst c).all okV = ((lst c).drop j).all okV) (fun j => (lst c).length - j) ?_ 0 _ _ _ ?_
  · intro j env σ n ⟨h1, h2, h3, h4⟩
    by_cases hj : j < (lst c).length
    · have hj' : (j : Int) < ((lst c).length : Int) := by omega
      have hx : (lst c)[j]? = some (lst c)[j] := List.getElem?_eq_getElem hj
      have f := f25 (lst c)[j] (hv _ (List.getElem_mem hj))
      rw [List.drop_eq_getElem_cons hj, List.all_cons] at h4
      have wj : IntKind.i64.wrap ((j : Int) + 1) = ((j + 1 : Nat) : Int) := by rw [wrap_i64] <;> omega
      generalize (lst c)[j] = x at *
      cases ho : okV x
      · rw [ho] at f h4
        simp only [Bool.false_and] at h4
        simp +contextual -implicitDefEqProofs (maxSteps := 2000000) only [↓wP, wQ, wQ1, wQ2, wQ3, wR, boxE, partsOf, ↓reduceIte, Nat.reduceEqDiff, Nat.reduceAdd, Nat.reduceSub, Nat.reduceLeDiff, Nat.reduceLT, Nat.reduceMul, reduceCtorEq, Int.reduceBNe, Int.reduceBEq, Int.reduceLT, Int.reduceLE, Int.reduceGT, h2, h3, hj', hx, vecV_eq, f]
        rw [h4]; rfl
      · rw [ho] at f h4
        simp only [Bool.true_and] at h4
        simp +contextual -implicitDefEqProofs (maxSteps := 2000000) only [↓wP, wQ, wQ1, wQ2, wQ3, wR, boxE, partsOf, ↓reduceIte, Nat.reduceEqDiff, Nat.reduceAdd, Nat.reduceSub, Nat.reduceLeDiff, Nat.reduceLT, Nat.reduceMul, reduceCtorEq, Int.reduceBNe, Int.reduceBEq, Int.reduceLT, Int.reduceLE, Int.reduceGT, h2, h3, hj', hx, vecV_eq, f, wj]
        exact ⟨j + 1, by omega, by omega, rfl, h4⟩
    · have hj' : ¬ (j : Int) < ((lst c).length : Int) := by omega
      have hall : (lst c).all okV = true := by rw [h4, List.drop_of_length_le (by omega)]; rfl
      rw [hall]
      simp +contextual -implicitDefEqProofs (maxSteps := 2000000) only [↓wP, wQ, wQ1, wQ2, wQ3, wR, boxE, partsOf, ↓reduceIte, Nat.reduceEqDiff, Nat.reduceAdd, Nat.reduceSub, Nat.reduceLeDiff, Nat.reduceLT, Nat.reduceMul, reduceCtorEq, Int.reduceBNe, Int.reduceBEq, Int.reduceLT, Int.reduceLE, Int.reduceGT, h2, h3, hj']
      refine WC_loopI 0 (fun (j : Nat) env _ _ => j ≤ (lst c).length ∧ env 0 = slV 1 vecV c ∧ env 4 = .int .i64 (j : Int) ∧ (lst c).all (fun v => decide ((lst v).length = dm c)) = ((lst c).drop j).all (fun v => decide ((lst v).length = dm c))) (fun j => (lst c).length - j) ?_ 0 _ _ _ ?_
      · clear h1 h2 h3 h4 hj hj'
        intro j env σ n ⟨h1, h2, h3, h4⟩
        by_cases hj : j < (lst c).length
        · have hj' : (j : Int) < ((lst c).length : Int) := by omega
          have hx : (lst c)[j]? = some (lst c)[j] := List.getElem?_eq_getElem hj
          obtain ⟨v0, hv0, hd⟩ := dm_get (c := c) (fun h => by rw [h] at hj; simp at hj)
          rw [List.drop_eq_getElem_cons hj, List.all_cons] at h4
          have wj : IntKind.i64.wrap ((j : Int) + 1) = ((j + 1 : Nat) : Int) := by rw [wrap_i64] <;> omega
          generalize (lst c)[j] = x at *
          by_cases ho : (lst x).length = dm c
          · have ho' : (((lst x).length : Int) != ((lst v0).length : Int)) = false := by simp; omega
            rw [decide_eq_true ho, Bool.true_and] at h4
            simp +contextual -implicitDefEqProofs (maxSteps := 2000000) only [↓wP, wQ, wQ1, wQ2, wQ3, wR, boxE, partsOf, ↓reduceIte, Nat.reduceEqDiff, Nat.reduceAdd, Nat.reduceSub, Nat.reduceLeDiff, Nat.reduceLT, Nat.reduceMul, reduceCtorEq, Int.reduceBNe, Int.reduceBEq, Int.reduceLT, Int.reduceLE, Int.reduceGT, h2, h3, hj', hx, hv0, vecV_eq, ho', wj]
            exact ⟨j + 1, by omega, by omega, rfl, h4⟩
          · have ho' : (((lst x).length : Int) != ((lst v0).length : Int)) = true := by simp; omega
            rw [decide_eq_false ho, Bool.false_and] at h4
            simp +contextual -implicitDefEqProofs (maxSteps := 2000000) only [↓wP, wQ, wQ1, wQ2, wQ3, wR, boxE, partsOf, ↓reduceIte, Nat.reduceEqDiff, Nat.reduceAdd, Nat.reduceSub, Nat.reduceLeDiff, Nat.reduceLT, Nat.reduceMul, reduceCtorEq, Int.reduceBNe, Int.reduceBEq, Int.reduceLT, Int.reduceLE, Int.reduceGT, h2, h3, hj', hx, hv0, vecV_eq, ho']
            rw [h4]; rfl
        · have hj' : ¬ (j : Int) < ((lst c).length : Int) := by omega
          have hall2 : (lst c).all (fun v => decide ((lst v).length = dm c)) = true := by rw [h4, List.drop_of_length_le (by omega)]; rfl
          simp +contextual -implicitDefEqProofs (maxSteps := 2000000) only [↓wP, wQ, wQ1, wQ2, wQ3, wR, boxE, partsOf, ↓reduceIte, Nat.reduceEqDiff, Nat.reduceAdd, Nat.reduceSub, Nat.reduceLeDiff, Nat.reduceLT, Nat.reduceMul, reduceCtorEq, Int.reduceBNe, Int.reduceBEq, Int.reduceLT, Int.reduceLE, Int.reduceGT, h2, h3, hj']
          rw [hall2]; rfl
      · simp +contextual -implicitDefEqProofs (maxSteps := 2000000) only [↓wP, wQ, wQ1, wQ2, wQ3, wR, boxE, partsOf, ↓reduceIte, Nat.reduceEqDiff, Nat.reduceAdd, Nat.reduceSub, Nat.reduceLeDiff, Nat.reduceLT, Nat.reduceMul, reduceCtorEq, Int.reduceBNe, Int.reduceBEq, Int.reduceLT, Int.reduceLE, Int.reduceGT, h2]
        simp
  · simp +contextual -implicitDefEqProofs (maxSteps := 2000000) only [↓wP, wQ, wQ1, wQ2, wQ3, wR, boxE, partsOf, ↓reduceIte, Nat.reduceEqDiff, Nat.reduceAdd, Nat.reduceSub, Nat.reduceLeDiff, Nat.reduceLT, Nat.reduceMul, reduceCtorEq, Int.reduceBNe, Int.reduceBEq, Int.reduceLT, Int.reduceLE, Int.reduceGT]
    simp

theorem f64 (c : Option (List Vc)) (hl : (lst c).length < 4611686018427387904) (hv : ∀ v ∈ lst c, Sm v) (fs : Bool) (σ : Sto) (n lk : Nat) : callE T fs 64 [slV 1 vecV c] σ n lk = some (.int .i64 (if (lst c).all okV then (if (lst c).all (fun v => decide ((lst v).length = dm c)) then 0 else 151) else 150), σ, n) :=
  callE_tr (by decide) (r64 c hl hv) (by simp [Tr, Tr_slV]) rfl fs σ n lk
theorem r49 (c : Option (List Vc)) (hl : (lst c).length < 4611686018427387904) (hv : ∀ v ∈ lst c, Sm v) : res T 49 [slV 1 vecV c] = some (.bool (cents c)) := by
  refine run_res (run_pure (fn := g49) rfl rfl (by decide) ?_)
  simp only [g49, b49]
  have h := f64 c hl hv
  have hall : (lst c).all (okC c) = ((lst c).all okV && (lst c).all (fun v => decide ((lst v).length = dm c))) := by
    unfold okC
    induction lst c with
    | nil => rfl
    | cons v l ih => simp only [List.all_cons, ih]; cases okV v <;> cases l.all okV <;> simp
  unfold cents
  rw [hall]
  by_cases h6 : ((lst c).length : Int) ≤ 6
  · have h6' : (lst c).length ≤ 6 := by omega
    cases ha : (lst c).all okV <;> cases hb : (lst c).all (fun v => decide ((lst v).length = dm c)) <;> rw [ha, hb] at h <;> simp only [if_true, if_false, Bool.false_eq_true] at h
    all_goals simp +contextual -implicitDefEqProofs (maxSteps := 2000000) only [↓wP, wQ, wQ1, wQ2, wQ3, wR, boxE, partsOf, ↓reduceIte, Nat.reduceEqDiff, Nat.reduceAdd, Nat.reduceSub, Nat.reduceLeDiff, Nat.reduceLT, Nat.reduceMul, reduceCtorEq, Int.reduceBNe, Int.reduceBEq, Int.reduceLT, Int.reduceLE, Int.reduceGT, h6, h6', h]
  · have h6' : ¬ (lst c).length ≤ 6 := by omega
    simp +contextual -implicitDefEqProofs (maxSteps := 2000000) only [↓wP, wQ, wQ1, wQ2, wQ3, wR, boxE, partsOf, ↓reduceIte, Nat.reduceEqDiff, Nat.reduceAdd, Nat.reduceSub, Nat.reduceLeDiff, Nat.reduceLT, Nat.reduceMul, reduceCtorEq, Int.reduceBNe, Int.reduceBEq, Int.reduceLT, Int.reduceLE, Int.reduceGT, h6, h6']

theorem f49 (c : Option (List Vc)) (hl : (lst c).length < 4611686018427387904) (hv : ∀ v ∈ lst c, Sm v) (fs : Bool) (σ : Sto) (n lk : Nat) : callE T fs 49 [slV 1 vecV c] σ n lk = some (.bool (cents c), σ, n) :=
  callE_tr (by decide) (r49 c hl hv) (by simp [Tr, Tr_slV]) rfl fs σ n lk
def cnE (c : Option (List Vc)) (v : Vc) : Int := if trE c ≠ 0 then trE c else if dm c = (lst v).length then 0 else 151
theorem r26 (c : Option (List Vc)) (v : Vc) (hl : (lst c).length < 4611686018427387904) (hv : ∀ v ∈ lst c, Sm v) : res T 26 [slV 1 vecV c, slV 1 i32V v] = some (.int .i64 (cnE c v)) := by
  refine run_res (run_pure (fn := g26) rfl rfl (by decide) ?_)
  simp only [g26, b26]
  have h := f49 c hl hv
  unfold cnE trE
  by_cases h0 : lst c = []
  · have z0 : (((0 : Nat) : Int) == 0) = true := rfl
    simp +contextual -implicitDefEqProofs (maxSteps := 2000000) only [↓wP, wQ, wQ1, wQ2, wQ3, wR, boxE, partsOf, ↓reduceIte, Nat.reduceEqDiff, Nat.reduceAdd, Nat.reduceSub, Nat.reduceLeDiff, Nat.reduceLT, Nat.reduceMul, reduceCtorEq, Int.reduceBNe, Int.reduceBEq, Int.reduceLT, Int.reduceLE, Int.reduceGT, h0, List.length_nil, z0]
    rfl
  · have hne : (((lst c).length : Int) == 0) = false := by simp; exact h0
    obtain ⟨v0, hv0, hd⟩ := dm_get h0
    cases hc : cents c
    · rw [hc] at h
      simp +contextual -implicitDefEqProofs (maxSteps := 2000000) only [↓wP, wQ, wQ1, wQ2, wQ3, wR, boxE, partsOf, ↓reduceIte, Nat.reduceEqDiff, Nat.reduceAdd, Nat.reduceSub, Nat.reduceLeDiff, Nat.reduceLT, Nat.reduceMul, reduceCtorEq, Int.reduceBNe, Int.reduceBEq, Int.reduceLT, Int.reduceLE, Int.reduceGT, hne, h0, h]
      rfl
    · rw [hc] at h
      by_cases hx : dm c = (lst v).length
      · have hx' : (((lst v0).length : Int) != ((lst v).length : Int)) = false := by rw [← hd, hx]; simp
        simp +contextual -implicitDefEqProofs (maxSteps := 2000000) only [↓wP, wQ, wQ1, wQ2, wQ3, wR, boxE, partsOf, ↓reduceIte, Nat.reduceEqDiff, Nat.reduceAdd, Nat.reduceSub, Nat.reduceLeDiff, Nat.reduceLT, Nat.reduceMul, reduceCtorEq, Int.reduceBNe, Int.reduceBEq, Int.reduceLT, Int.reduceLE, Int.reduceGT, hne, h0, h, hv0, vecV_eq, hx', hx]
        rfl
      · have hx' : (((lst v0).length : Int) != ((lst v).length : Int)) = true := by rw [← hd]; simp; omega
        simp +contextual -implicitDefEqProofs (maxSteps := 2000000) only [↓wP, wQ, wQ1, wQ2, wQ3, wR, boxE, partsOf, ↓reduceIte, Nat.reduceEqDiff, Nat.reduceAdd, Nat.reduceSub, Nat.reduceLeDiff, Nat.reduceLT, Nat.reduceMul, reduceCtorEq, Int.reduceBNe, Int.reduceBEq, Int.reduceLT, Int.reduceLE, Int.reduceGT, hne, h0, h, hv0, vecV_eq, hx', hx]
        rfl

theorem f26 (c : Option (List Vc)) (v : Vc) (hl : (lst c).length < 4611686018427387904) (hv : ∀ v ∈ lst c, Sm v) (fs : Bool) (σ : Sto) (n lk : Nat) : callE T fs 26 [slV 1 vecV c, slV 1 i32V v] σ n lk = some (.int .i64 (cnE c v), σ, n) :=
  callE_tr (by decide) (r26 c v hl hv) (by simp [Tr, Tr_slV]) rfl fs σ n lk
def askE (n : Int) : Int := if n < 1 then 2 else if 1048576 < n then 2 else 0
theorem r21 (m : Int) : res T 21 [.int .i64 m] = some (.int .i64 (askE m)) := by
  refine run_res (run_pure (fn := g21) rfl rfl (by decide) ?_)
  simp only [g21, b21]
  unfold askE
  by_cases h1 : m < 1
  · simp +contextual -implicitDefEqProofs (maxSteps := 2000000) only [↓wP, wQ, wQ1, wQ2, wQ3, wR, boxE, partsOf, ↓reduceIte, Nat.reduceEqDiff, Nat.reduceAdd, Nat.reduceSub, Nat.reduceLeDiff, Nat.reduceLT, Nat.reduceMul, reduceCtorEq, Int.reduceBNe, Int.reduceBEq, Int.reduceLT, Int.reduceLE, Int.reduceGT, h1]
  · by_cases h2 : 1048576 < m
    · simp +contextual -implicitDefEqProofs (maxSteps := 2000000) only [↓wP, wQ, wQ1, wQ2, wQ3, wR, boxE, partsOf, ↓reduceIte, Nat.reduceEqDiff, Nat.reduceAdd, Nat.reduceSub, Nat.reduceLeDiff, Nat.reduceLT, Nat.reduceMul, reduceCtorEq, Int.reduceBNe, Int.reduceBEq, Int.reduceLT, Int.reduceLE, Int.reduceGT, h1, h2]
    · simp +contextual -implicitDefEqProofs (maxSteps := 2000000) only [↓wP, wQ, wQ1, wQ2, wQ3, wR, boxE, partsOf, ↓reduceIte, Nat.reduceEqDiff, Nat.reduceAdd, Nat.reduceSub, Nat.reduceLeDiff, Nat.reduceLT, Nat.reduceMul, reduceCtorEq, Int.reduceBNe, Int.reduceBEq, Int.reduceLT, Int.reduceLE, Int.reduceGT, h1, h2]

theorem f21 (m : Int) (fs : Bool) (σ : Sto) (n lk : Nat) : callE T fs 21 [.int .i64 m] σ n lk = some (.int .i64 (askE m), σ, n) :=
  callE_tr (by decide) (r21 m) (by simp [Tr, Tr_slV]) rfl fs σ n lk
def nrE (c : Option (List Vc)) (v : Vc) (n : Int) : Int := if askE n ≠ 0 then askE n else if okV v then cnE c v else 150
theorem r11 (c : Option (List Vc)) (v : Vc) (m : Int) (hl : (lst c).length < 4611686018427387904) (hv : ∀ v ∈ lst c, Sm v) (hv' : Sm v) : res T 11 [slV 1 vecV c, slV 1 i32V v, .int .i64 m] = some (.int .i64 (nrE c v m)) := by
  refine run_res (run_pure (fn := g11) rfl rfl (by decide) ?_)
  simp only [g11, b11]
  have h := f26 c v hl hv
  have h25 := f25 v hv'
  unfold nrE askE
  by_cases h1 : m < 1
  · simp +contextual -implicitDefEqProofs (maxSteps := 2000000) only [↓wP, wQ, wQ1, wQ2, wQ3, wR, boxE, partsOf, ↓reduceIte, Nat.reduceEqDiff, Nat.reduceAdd, Nat.reduceSub, Nat.reduceLeDiff, Nat.reduceLT, Nat.reduceMul, reduceCtorEq, Int.reduceBNe, Int.reduceBEq, Int.reduceLT, Int.reduceLE, Int.reduceGT, h1]
    rfl
  · by_cases h2 : 1048576 < m
    · simp +contextual -implicitDefEqProofs (maxSteps := 2000000) only [↓wP, wQ, wQ1, wQ2, wQ3, wR, boxE, partsOf, ↓reduceIte, Nat.reduceEqDiff, Nat.reduceAdd, Nat.reduceSub, Nat.reduceLeDiff, Nat.reduceLT, Nat.reduceMul, reduceCtorEq, Int.reduceBNe, Int.reduceBEq, Int.reduceLT, Int.reduceLE, Int.reduceGT, h1, h2]
      rfl
    · cases ho : okV v
      · rw [ho] at h25
        simp +contextual -implicitDefEqProofs (maxSteps := 2000000) only [↓wP, wQ, wQ1, wQ2, wQ3, wR, boxE, partsOf, ↓reduceIte, Nat.reduceEqDiff, Nat.reduceAdd, Nat.reduceSub, Nat.reduceLeDiff, Nat.reduceLT, Nat.reduceMul, reduceCtorEq, Int.reduceBNe, Int.reduceBEq, Int.reduceLT, Int.reduceLE, Int.reduceGT, h1, h2, h25]
        rfl
      · rw [ho] at h25
        simp +contextual -implicitDefEqProofs (maxSteps := 2000000) only [↓wP, wQ, wQ1, wQ2, wQ3, wR, boxE, partsOf, ↓reduceIte, Nat.reduceEqDiff, Nat.reduceAdd, Nat.reduceSub, Nat.reduceLeDiff, Nat.reduceLT, Nat.reduceMul, reduceCtorEq, Int.reduceBNe, Int.reduceBEq, Int.reduceLT, Int.reduceLE, Int.reduceGT, h1, h2, h25, h]
        rfl

theorem f11 (c : Option (List Vc)) (v : Vc) (m : Int) (hl : (lst c).length < 4611686018427387904) (hv : ∀ v ∈ lst c, Sm v) (hv' : Sm v) (fs : Bool) (σ : Sto) (n lk : Nat) : callE T fs 11 [slV 1 vecV c, slV 1 i32V v, .int .i64 m] σ n lk = some (.int .i64 (nrE c v m), σ, n) :=
  callE_tr (by decide) (r11 c v m hl hv hv') (by simp [Tr, Tr_slV]) rfl fs σ n lk
end Go.Q.S14
end

section
/- The arguments of seat 14's statements, as trees. -/
set_option linter.unusedSimpArgs false
set_option linter.unusedVariables false
set_option maxRecDepth 20000
namespace Go.Q.S14
open Go.Q Go.Proofs

def eI32 : Enc Try.prog 21 Int := Enc.int .i32 Try.underlying21
def eInt : Enc Try.prog 3 Int := Enc.int .i64 Try.underlying3
def eU64 : Enc Try.prog 37 Int := Enc.int .u64 Try.underlying37
def eVec : Enc Try.prog 26 (Option (List Int)) := Enc.slice eI32 Try.underlying26 1 (by kernel_rfl) (by decide) 4 (by kernel_rfl)
theorem okVec {o : Option (List Int)} (h : eVec.ok o) : (lst o).length < 4611686018427387904 := by
  cases o with
  | none => simp [lst]
  | some l =>
    obtain ⟨h1, h2, h3⟩ := h l rfl
    rw [reach_eq] at h2
    rw [lst_some]
    omega
def eVecs : Enc Try.prog 22 (Option (List (Option (List Int)))) := Enc.slice eVec Try.underlying22 1 (by kernel_rfl) (by decide) 24 (by kernel_rfl)
theorem okVecs {o : Option (List (Option (List Int)))} (h : eVecs.ok o) : (lst o).length < 4611686018427387904 ∧ ∀ v ∈ lst o, Sm v := by
  cases o with
  | none => exact ⟨by simp [lst], by simp [lst]⟩
  | some l =>
    obtain ⟨h1, h2, h3⟩ := h l rfl
    rw [reach_eq] at h2
    refine ⟨by rw [lst_some]; omega, fun c hc => ?_⟩
    have := okVec (h3 c hc)
    unfold Sm
    omega
def eInts : Enc Try.prog 23 (Option (List Int)) := Enc.slice eInt Try.underlying23 1 (by kernel_rfl) (by decide) 8 (by kernel_rfl)
theorem okInts {o : Option (List Int)} (h : eInts.ok o) : (lst o).length < 4611686018427387904 := by
  cases o with
  | none => simp [lst]
  | some l =>
    obtain ⟨h1, h2, h3⟩ := h l rfl
    rw [reach_eq] at h2
    rw [lst_some]
    omega
end Go.Q.S14
end

section
/- Places of the nearest centroids. -/
set_option linter.unusedSimpArgs false
set_option linter.unusedVariables false
namespace Go.Q.S14
open Go.Q Go.Sort

theorem r47 (i d i' d' : Int) : res T 47 [.agg [.int .u64 i, .int .u64 d], .agg [.int .u64 i', .int .u64 d']] = some (.int .i64 (cmpH ⟨i, d⟩ ⟨i', d'⟩)) := by
  refine run_res (run_pure (fn := g47) rfl rfl (by decide) ?_)
  simp only [g47, b47]
  have h26 := r34 (cmpU d d') (cmpU i i')
  have hm26 : T.mode 34 ≠ .raw := by decide
  simp +contextual -implicitDefEqProofs (maxSteps := 2000000) only [↓wP, wQ, wQ1, wQ2, wQ3, wR, boxE, partsOf, ↓reduceIte, Nat.reduceEqDiff, Nat.reduceAdd, Nat.reduceSub, Nat.reduceLeDiff, Nat.reduceLT, Nat.reduceMul, reduceCtorEq, Int.reduceBNe, Int.reduceBEq, Int.reduceLT, Int.reduceLE, Int.reduceGT, f35, callE_eq hm26, frz_rf, h26]
  rfl

theorem f47 (i d i' d' : Int) (fs : Bool) (σ : Sto) (n lk : Nat) : callE T fs 47 [.agg [.int .u64 i, .int .u64 d], .agg [.int .u64 i', .int .u64 d']] σ n lk = some (.int .i64 (cmpH ⟨i, d⟩ ⟨i', d'⟩), σ, n) :=
  callE_tr (by decide) (r47 i d i' d') (by simp [Tr, Tr_slV]) rfl fs σ n lk

theorem raw75p (d : Array Hit) (a b id n : Nat) (σ : Sto) (hab : a ≤ b) (hb : b ≤ d.size) (hn : d.size < 1000000) (hσ : σ id = some (.row 2 (rw' d))) {Q : V → Sto → Nat → Prop}
    (hQ : ∀ σ', At σ' σ id (insertionSort ahead d a b) → Q .undef σ' n) :
    run T (.raw 75 [.ref id 0 d.size 2, .int .i64 (a : Int), .int .i64 (b : Int), .fn 47 []] σ n 0) (memQ Q) := by
  refine run_rawE (fn := g75) rfl rfl ?_
  simp only [g75, b75]
  have w1 : IntKind.i64.wrap ((a : Int) + 1) = ((a + 1 : Nat) : Int) := by rw [wrap_i64] <;> omega
  generalize hsz : d.size = N at *
  simp +contextual -implicitDefEqProofs (maxSteps := 2000000) only [↓wP, wQ, wQ1, wQ2, wQ3, wR, boxE, partsOf, ↓reduceIte, Nat.reduceEqDiff, Nat.reduceAdd, Nat.reduceSub, Nat.reduceLeDiff, Nat.reduceLT, Nat.reduceMul, reduceCtorEq, Int.reduceBNe, Int.reduceBEq, Int.reduceLT, Int.reduceLE, Int.reduceGT, w1]
  refine WC_loopI 0 (fun (s : Nat × Array Hit) env σ' n' => n' = n ∧ env 0 = .ref id 0 N 2 ∧ env 1 = .int .i64 (a : Int) ∧ env 2 = .int .i64 (b : Int) ∧ env 3 = .fn 47 [] ∧ env 8 = .int .i64 (s.1 : Int) ∧
      a < s.1 ∧ (s.1 ≤ b ∨ s.1 = a + 1) ∧ s.2.size = N ∧ At σ' σ id s.2 ∧ insOuter ahead a b s.1 s.2 = insertionSort ahead d a b) (fun s => b + 1 - s.1) ?_ (a + 1, d) _ _ _ ?_
  · intro ⟨i, e⟩ env σ1 n1 ⟨h1, h2, h3, h4, h5, h6, h7, h8, h9, h10, h11⟩
    subst h1
    simp only at h6 h7 h8 h9 h10 h11
    by_cases hlt : i < b
    · have w2 : IntKind.i64.wrap ((i : Int) + 1) = ((i + 1 : Nat) : Int) := by rw [wrap_i64] <;> omega
      have hlt' : (i : Int) < (b : Int) := by omega
      rw [insOuter, if_pos hlt] at h11
      simp +contextual -implicitDefEqProofs (maxSteps := 2000000) only [↓wP, wQ, wQ1, wQ2, wQ3, wR, boxE, partsOf, ↓reduceIte, Nat.reduceEqDiff, Nat.reduceAdd, Nat.reduceSub, Nat.reduceLeDiff, Nat.reduceLT, Nat.reduceMul, reduceCtorEq, Int.reduceBNe, Int.reduceBEq, Int.reduceLT, Int.reduceLE, Int.reduceGT, h2, h3, h4, h5, h6, hlt']
      refine WC_loopI 0 (fun (s : Nat × Array Hit) env σ' n' => n' = n1 ∧ env 0 = .ref id 0 N 2 ∧ env 1 = .int .i64 (a : Int) ∧ env 2 = .int .i64 (b : Int) ∧ env 3 = .fn 47 [] ∧ env 8 = .int .i64 (i : Int) ∧ env 9 = .int .i64 (s.1 : Int) ∧
          s.1 ≤ i ∧ s.2.size = N ∧ At σ' σ id s.2 ∧ insInner ahead a s.1 s.2 = insInner ahead a i e) (fun s => s.1) ?_ (i, e) _ _ _ ?_
      · clear h2 h3 h4 h5 h6 h10
        intro ⟨j, g⟩ env σ2 n2 ⟨k1, k2, k3, k4, k5, k6, k7, k8, k9, k10, k11⟩
        subst k1
        simp only at k7 k8 k9 k10 k11
        have hat := k10.1
        by_cases hja : a < j
        · obtain ⟨j, rfl⟩ : ∃ j', j = j' + 1 := ⟨j - 1, by omega⟩
          have hja' : (a : Int) < ((j + 1 : Nat) : Int) := by omega
          have w3 : IntKind.i64.wrap (((j + 1 : Nat) : Int) - 1) = (j : Int) := by rw [wrap_i64] <;> omega
          have x1 := rw_at (d := g) (i := j + 1) (by omega)
          have x2 := rw_at (d := g) (i := j) (by omega)
          have l1 : j + 1 < N := by omega
          have l2 : j < N := by omega
          by_cases hc : cmpH g[j + 1]! g[j]! < 0
          · have hah : ahead g[j + 1]! g[j]! = true := by rw [← cmp_lt]; simpa using hc
            obtain ⟨u, v, x3⟩ := rw_set_at (d := g) (i := j + 1) (j := j) (x := g[j]!) (by omega)
            simp +contextual -implicitDefEqProofs (maxSteps := 2000000) only [↓wP, wQ, wQ1, wQ2, wQ3, wR, boxE, partsOf, ↓reduceIte, Nat.reduceEqDiff, Nat.reduceAdd, Nat.reduceSub, Nat.reduceLeDiff, Nat.reduceLT, Nat.reduceMul, reduceCtorEq, Int.reduceBNe, Int.reduceBEq, Int.reduceLT, Int.reduceLE, Int.reduceGT, k2, k3, k4, k5, k6, k7, hja', w3, hat, l1, l2, x1, x2, x3, f47, hc]
            refine ⟨(j, swp g (j + 1) j), by dsimp only; omega, rfl, by dsimp only; omega, by rw [swp_size, k9], k10.swp _ _, ?_⟩
            dsimp only
            rw [← insIn_lt hja hah]
            exact k11
          · have hah : ahead g[j + 1]! g[j]! = false := by rw [← cmp_lt]; simpa using hc
            simp +contextual -implicitDefEqProofs (maxSteps := 2000000) only [↓wP, wQ, wQ1, wQ2, wQ3, wR, boxE, partsOf, ↓reduceIte, Nat.reduceEqDiff, Nat.reduceAdd, Nat.reduceSub, Nat.reduceLeDiff, Nat.reduceLT, Nat.reduceMul, reduceCtorEq, Int.reduceBNe, Int.reduceBEq, Int.reduceLT, Int.reduceLE, Int.reduceGT, k2, k3, k4, k5, k6, k7, hja', w3, hat, l1, l2, x1, x2, f47, hc, w2]
            refine ⟨(i + 1, g), by dsimp only; omega, rfl, by dsimp only; omega, by dsimp only; omega, k9, k10, ?_⟩
            dsimp only
            rw [insIn_stop (.inr ⟨by omega, hah⟩)] at k11
            rw [k11]
            exact h11
        · have hja' : ¬ (a : Int) < (j : Int) := by omega
          simp +contextual -implicitDefEqProofs (maxSteps := 2000000) only [↓wP, wQ, wQ1, wQ2, wQ3, wR, boxE, partsOf, ↓reduceIte, Nat.reduceEqDiff, Nat.reduceAdd, Nat.reduceSub, Nat.reduceLeDiff, Nat.reduceLT, Nat.reduceMul, reduceCtorEq, Int.reduceBNe, Int.reduceBEq, Int.reduceLT, Int.reduceLE, Int.reduceGT, k2, k3, k4, k5, k6, k7, hja', w2]
          refine ⟨(i + 1, g), by dsimp only; omega, rfl, by dsimp only; omega, by dsimp only; omega, k9, k10, ?_⟩
          dsimp only
          rw [insIn_stop (.inl (by omega))] at k11
          rw [k11]
          exact h11
      · simp +contextual -implicitDefEqProofs (maxSteps := 2000000) only [↓wP, wQ, wQ1, wQ2, wQ3, wR, boxE, partsOf, ↓reduceIte, Nat.reduceEqDiff, Nat.reduceAdd, Nat.reduceSub, Nat.reduceLeDiff, Nat.reduceLT, Nat.reduceMul, reduceCtorEq, Int.reduceBNe, Int.reduceBEq, Int.reduceLT, Int.reduceLE, Int.reduceGT, h2, h3, h4, h5, h6]
        exact ⟨h9, h10⟩
    · have hlt' : ¬ (i : Int) < (b : Int) := by omega
      rw [insOuter, if_neg hlt] at h11
      simp +contextual -implicitDefEqProofs (maxSteps := 2000000) only [↓wP, wQ, wQ1, wQ2, wQ3, wR, boxE, partsOf, ↓reduceIte, Nat.reduceEqDiff, Nat.reduceAdd, Nat.reduceSub, Nat.reduceLeDiff, Nat.reduceLT, Nat.reduceMul, reduceCtorEq, Int.reduceBNe, Int.reduceBEq, Int.reduceLT, Int.reduceLE, Int.reduceGT, h2, h3, h4, h5, h6, hlt']
      refine hQ _ ?_
      rw [← h11]
      exact h10
  · simp +contextual -implicitDefEqProofs (maxSteps := 2000000) only [↓wP, wQ, wQ1, wQ2, wQ3, wR, boxE, partsOf, ↓reduceIte, Nat.reduceEqDiff, Nat.reduceAdd, Nat.reduceSub, Nat.reduceLeDiff, Nat.reduceLT, Nat.reduceMul, reduceCtorEq, Int.reduceBNe, Int.reduceBEq, Int.reduceLT, Int.reduceLE, Int.reduceGT]
    exact ⟨by omega, .inr trivial, hsz, At.refl hσ, rfl⟩


theorem raw75pN {d : Array Hit} {N : Nat} (hN : d.size = N) (a b id n : Nat) (σ : Sto) (hab : a ≤ b) (hb : b ≤ N) (hn : N < 1000000) (hσ : σ id = some (.row 2 (rw' d))) {Q : V → Sto → Nat → Prop}
    (hQ : ∀ σ', At σ' σ id (insertionSort ahead d a b) → Q .undef σ' n) :
    run T (.raw 75 [.ref id 0 N 2, .int .i64 (a : Int), .int .i64 (b : Int), .fn 47 []] σ n 0) (memQ Q) := by subst hN; exact raw75p d a b id n σ hab hb hn hσ hQ
theorem raw62p {d : Array Hit} {N : Nat} (hN : d.size = N) (lim : Int) (id n : Nat) (σ : Sto) (h12 : N ≤ 12) (hσ : σ id = some (.row 2 (rw' d))) {Q : V → Sto → Nat → Prop}
    (hQ : ∀ σ', At σ' σ id (insertionSort ahead d 0 N) → Q .undef σ' n) :
    run T (.raw 62 [.ref id 0 N 2, .int .i64 0, .int .i64 (N : Int), .int .i64 lim, .fn 47 []] σ n 0) (memQ Q) := by
  refine run_rawE (fn := g62) rfl rfl ?_
  simp only [g62, b62]
  have w1 : IntKind.i64.wrap ((N : Int) - 0) = (N : Int) := by rw [wrap_i64] <;> omega
  have h12' : (N : Int) ≤ 12 := by omega
  simp +contextual -implicitDefEqProofs (maxSteps := 2000000) only [↓wP, wQ, wQ1, wQ2, wQ3, wR, boxE, partsOf, ↓reduceIte, Nat.reduceEqDiff, Nat.reduceAdd, Nat.reduceSub, Nat.reduceLeDiff, Nat.reduceLT, Nat.reduceMul, reduceCtorEq, Int.reduceBNe, Int.reduceBEq, Int.reduceLT, Int.reduceLE, Int.reduceGT, w1]
  refine WC_loopI 0 (fun (s : Nat) env σ' n' => n' = n ∧ σ' = σ ∧ env 0 = .ref id 0 N 2 ∧ env 1 = .int .i64 0 ∧ env 2 = .int .i64 (N : Int) ∧ env 4 = .fn 47 []) (fun s => s) ?_ 0 _ _ _ ?_
  · intro _ env σ' n' ⟨h1, h2, h3, h4, h5, h6⟩
    subst h1 h2
    simp +contextual -implicitDefEqProofs (maxSteps := 2000000) only [↓wP, wQ, wQ1, wQ2, wQ3, wR, boxE, partsOf, ↓reduceIte, Nat.reduceEqDiff, Nat.reduceAdd, Nat.reduceSub, Nat.reduceLeDiff, Nat.reduceLT, Nat.reduceMul, reduceCtorEq, Int.reduceBNe, Int.reduceBEq, Int.reduceLT, Int.reduceLE, Int.reduceGT, w1, h3, h4, h5, h6, h12']
    refine stepW_raw (by decide) (raw75pN hN 0 N id n' σ' (by omega) (by omega) (by omega) hσ fun σ2 hat => ?_)
    simp +contextual -implicitDefEqProofs (maxSteps := 2000000) only [↓wP, wQ, wQ1, wQ2, wQ3, wR, boxE, partsOf, ↓reduceIte, Nat.reduceEqDiff, Nat.reduceAdd, Nat.reduceSub, Nat.reduceLeDiff, Nat.reduceLT, Nat.reduceMul, reduceCtorEq, Int.reduceBNe, Int.reduceBEq, Int.reduceLT, Int.reduceLE, Int.reduceGT]
    exact hQ σ2 hat
  · simp +contextual -implicitDefEqProofs (maxSteps := 2000000) only [↓wP, wQ, wQ1, wQ2, wQ3, wR, boxE, partsOf, ↓reduceIte, Nat.reduceEqDiff, Nat.reduceAdd, Nat.reduceSub, Nat.reduceLeDiff, Nat.reduceLT, Nat.reduceMul, reduceCtorEq, Int.reduceBNe, Int.reduceBEq, Int.reduceLT, Int.reduceLE, Int.reduceGT]
theorem raw46p {d : Array Hit} {N : Nat} (hN : d.size = N) (id n : Nat) (σ : Sto) (h12 : N ≤ 12) (hσ : σ id = some (.row 2 (rw' d))) {Q : V → Sto → Nat → Prop}
    (hQ : ∀ σ', (∀ i, i ≠ id → σ' i = σ i) → σ' id = some (.row 2 (hs (srt d.toList))) → Q .undef σ' n) :
    run T (.raw 46 [.ref id 0 N 2, .fn 47 []] σ n 0) (memQ Q) := by
  refine run_rawE (fn := g46) rfl rfl ?_
  simp only [g46, b46]
  obtain ⟨M, h1, h2, h3⟩ := r63 N (by omega)
  have f63 := callE_tr (fs := true) (by decide) h3 (by simp [Tr]) rfl
  have wu : IntKind.u64.wrap ((N : Nat) : Int) = ((N : Nat) : Int) := by rw [wrap_u64] <;> omega
  simp +contextual -implicitDefEqProofs (maxSteps := 2000000) only [↓wP, wQ, wQ1, wQ2, wQ3, wR, boxE, partsOf, ↓reduceIte, Nat.reduceEqDiff, Nat.reduceAdd, Nat.reduceSub, Nat.reduceLeDiff, Nat.reduceLT, Nat.reduceMul, reduceCtorEq, Int.reduceBNe, Int.reduceBEq, Int.reduceLT, Int.reduceLE, Int.reduceGT, wu, f63]
  refine stepW_raw (by decide) (raw62p hN _ id n σ h12 hσ fun σ' hat => ?_)
  simp +contextual -implicitDefEqProofs (maxSteps := 2000000) only [↓wP, wQ, wQ1, wQ2, wQ3, wR, boxE, partsOf, ↓reduceIte, Nat.reduceEqDiff, Nat.reduceAdd, Nat.reduceSub, Nat.reduceLeDiff, Nat.reduceLT, Nat.reduceMul, reduceCtorEq, Int.reduceBNe, Int.reduceBEq, Int.reduceLT, Int.reduceLE, Int.reduceGT]
  refine hQ σ' hat.2 ?_
  have hs' := insertionSort_holds (lt := ahead) swoA d 0 N (by omega) (by omega)
  subst hN
  obtain ⟨e, he⟩ : ∃ e, e = insertionSort ahead d 0 d.size := ⟨_, rfl⟩
  have h1 := hat.1
  rw [← he] at hs' h1
  obtain ⟨⟨p1, -, p3⟩, p4⟩ := hs'
  have ee : e.toList = srt d.toList := by
    refine Srt.uniq (sorted_list (by rw [p1]; exact p4)) (srt_srt _) ?_
    have q1 : (e.extract 0 d.size).toList = e.toList := by rw [← p1]; simp
    have q2 : (d.extract 0 d.size).toList = d.toList := by simp
    rw [q1, q2] at p3
    exact p3.trans (srt_perm _).symm
  rw [h1, ← ee]; rfl

/-! ### The hits of centroids, in order -/
def ctH (q : Vc) (c : List Vc) (i : Nat) : List Hit := (c.zipIdx i).map fun p => ⟨p.2, distI p.1 q⟩
theorem ctH_len (q : Vc) (c : List Vc) (i : Nat) : (ctH q c i).length = c.length := by simp [ctH]
theorem ctH_get (q : Vc) (c : List Vc) (j : Nat) (h : j < c.length) : (ctH q c 0)[j]? = some ⟨j, distI c[j] q⟩ := by
  simp [ctH, List.getElem?_zipIdx, h]

def zh : V := .agg [.int .u64 0, .int .u64 0]
/-- All that was filled in, and the rest. -/
def fil (q : Vc) (c : List Vc) (j : Nat) : List V := hs ((ctH q c 0).take j) ++ List.replicate (c.length - j) zh
theorem fil_len (q : Vc) (c : List Vc) (j : Nat) (hj : j ≤ c.length) : (fil q c j).length = c.length := by simp [fil, hs_len, ctH_len]; omega
theorem fil_set (q : Vc) (c : List Vc) (j : Nat) (hj : j < c.length) : (fil q c j).set j (.agg [.int .u64 (j : Int), .int .u64 (distI c[j] q)]) = fil q c (j + 1) := by
  have h1 : (hs ((ctH q c 0).take j)).length = j := by rw [hs_len, List.length_take, ctH_len]; omega
  have h2 : (ctH q c 0)[j]'(by rw [ctH_len]; exact hj) = ⟨j, distI c[j] q⟩ := by
    have := ctH_get q c j hj
    rw [List.getElem?_eq_getElem (by rw [ctH_len]; exact hj)] at this
    exact Option.some.inj this
  have h3 : (ctH q c 0).take (j + 1) = (ctH q c 0).take j ++ [⟨j, distI c[j] q⟩] := by rw [← h2]; exact (List.take_append_getElem _).symm
  have h4 : c.length - j = (c.length - (j + 1)) + 1 := by omega
  unfold fil
  rw [h3, h4, List.replicate_succ, List.set_append_right _ _ (by omega), h1, Nat.sub_self, List.set_cons_zero, ← hs_app]
  simp [hs, hitV]

def srcV (q : Vc) (k ts n : Int) (c : Option (List Vc)) : List V := [slV 1 i32V q, .int .i64 k, .int .u64 ts, .int .i64 n, slV 1 vecV c]
theorem r24 (q : Vc) (k ts m : Int) (c : Option (List Vc)) (hc : cents c = true) (hv : ∀ v ∈ lst c, Sm v) (hq : Sm q) (hq2 : okV q = true) (hd : dm c = (lst q).length) (hne : lst c ≠ []) :
    res T 24 [.agg (srcV q k ts m c)] = some (.fn 48 [.box [.sl 2 (hs (srt (ctH q (lst c) 0)))], .box (srcV q k ts m c)]) := by
  refine run_res (run_pure (fn := g24) rfl rfl (by decide) ?_)
  simp only [g24, b24, srcV]
  have h6 : (lst c).length ≤ 6 := by unfold cents at hc; simp only [Bool.and_eq_true, decide_eq_true_eq] at hc; exact hc.1
  have hall : ∀ v ∈ lst c, okV v = true ∧ (lst v).length = dm c := by
    unfold cents at hc
    simp only [Bool.and_eq_true, decide_eq_true_eq] at hc
    intro v hv
    have := List.all_eq_true.1 hc.2 v hv
    simpa [okC] using this
  have b1 : (0 : Int) ≤ ((lst c).length : Int) := by omega
  have b2 : ((16 : Nat) : Int) * ((lst c).length : Int) ≤ 140737488355328 := by omega
  have b3 : ((lst c).length : Int).toNat = (lst c).length := rfl
  simp +contextual -implicitDefEqProofs (maxSteps := 2000000) only [↓wP, wQ, wQ1, wQ2, wQ3, wR, boxE, partsOf, ↓reduceIte, Nat.reduceEqDiff, Nat.reduceAdd, Nat.reduceSub, Nat.reduceLeDiff, Nat.reduceLT, Nat.reduceMul, reduceCtorEq, Int.reduceBNe, Int.reduceBEq, Int.reduceLT, Int.reduceLE, Int.reduceGT, b1, b2, b3]
  obtain ⟨N, hN⟩ : ∃ N, N = (lst c).length := ⟨_, rfl⟩
  refine WC_for (lst c).length 0 (fun (j : Nat) env σ n => env 1 = .ptr 0 5 0 0 ∧ env 3 = .ptr 2 1 0 0 ∧ env 13 = slV 1 vecV c ∧ n = 3 ∧ σ 0 = some (.row 5 [.agg [slV 1 i32V q, .int .i64 k, .int .u64 ts, .int .i64 m, slV 1 vecV c]]) ∧
    σ 2 = some (.row 1 [.ref 1 0 (lst c).length 2]) ∧ σ 1 = some (.row 2 (fil q (lst c) j))) (by omega) (by decide) (by decide) (fun _ _ => rfl) (fun _ _ _ => rfl) ?_ ?_ _ _ _ rfl rfl ?_
  · intro j env σ n hj h1 h2 ⟨g1, g2, g3, g4, g5, g6, g7⟩
    simp only [vl_tmp] at h2
    subst g4
    have hx : (lst c)[j]? = some (lst c)[j] := List.getElem?_eq_getElem hj
    have hm := List.getElem_mem hj
    have hst := fil_set q (lst c) j hj
    obtain ⟨o1, o2⟩ := hall _ hm
    have hxs := hv _ hm
    have hfl := fil_len q (lst c) j (by omega)
    have xg : (fil q (lst c) j)[j]? = some (.agg [.int .u64 0, .int .u64 0]) := by
      unfold fil
      rw [List.getElem?_append_right (by rw [hs_len, List.length_take, ctH_len]; omega), hs_len, List.length_take, ctH_len, Nat.min_eq_left (by omega), Nat.sub_self, List.getElem?_replicate, if_pos (by omega)]
      rfl
    generalize (lst c)[j] = x at *
    have hva : vAll x q = 0 := by unfold vAll; rw [o1, hq2]; simp [o2, hd]
    have f := f17 x q hxs hq
    have e1 : disE x q = 0 := hva
    have e2 : disV x q = distI x q := by unfold disV; rw [if_pos hva]
    rw [e1, e2] at f
    have wj : IntKind.u64.wrap ((j : Nat) : Int) = ((j : Nat) : Int) := by rw [wrap_u64] <;> omega
    simp +contextual -implicitDefEqProofs (maxSteps := 2000000) only [↓wP, wQ, wQ1, wQ2, wQ3, wR, boxE, partsOf, ↓reduceIte, Nat.reduceEqDiff, Nat.reduceAdd, Nat.reduceSub, Nat.reduceLeDiff, Nat.reduceLT, Nat.reduceMul, reduceCtorEq, Int.reduceBNe, Int.reduceBEq, Int.reduceLT, Int.reduceLE, Int.reduceGT, h1, h2, g1, g2, g3, g5, g6, g7, hx, vecV_eq, f, wj, hj, xg, hst]
  · intro env σ n ⟨g1, g2, g3, g4, g5, g6, g7⟩ h1 h2
    subst g4
    have hfu : fil q (lst c) (lst c).length = hs (ctH q (lst c) 0) := by
      unfold fil
      rw [Nat.sub_self, List.replicate_zero, List.append_nil, List.take_of_length_le (by rw [ctH_len]; omega)]
    rw [hfu] at g7
    simp +contextual -implicitDefEqProofs (maxSteps := 2000000) only [↓wP, wQ, wQ1, wQ2, wQ3, wR, boxE, partsOf, ↓reduceIte, Nat.reduceEqDiff, Nat.reduceAdd, Nat.reduceSub, Nat.reduceLeDiff, Nat.reduceLT, Nat.reduceMul, reduceCtorEq, Int.reduceBNe, Int.reduceBEq, Int.reduceLT, Int.reduceLE, Int.reduceGT, g2, g6]
    refine stepW_raw (by decide) (raw46p (d := (ctH q (lst c) 0).toArray) (N := (lst c).length) (by simp [ctH_len]) 1 3 σ (by omega) (by rw [rw_hs]; exact g7) fun σ2 p1 p2 => ?_)
    have p3 : σ2 0 = some (.row 5 [.agg [slV 1 i32V q, .int .i64 k, .int .u64 ts, .int .i64 m, slV 1 vecV c]]) := by rw [p1 0 (by decide)]; exact g5
    have p4 : σ2 2 = some (.row 1 [.ref 1 0 (lst c).length 2]) := by rw [p1 2 (by decide)]; exact g6
    simp only [List.toList_toArray] at p2
    have fr : frz σ2 10 (.ref 1 0 (lst c).length 2) = some (.sl 2 (hs (srt (ctH q (lst c) 0)))) := by
      have he : elems σ2 2 (.ref 1 0 (lst c).length 2) = some (hs (srt (ctH q (lst c) 0))) := by
        have hlen : (hs (srt (ctH q (lst c) 0))).length = (lst c).length := by rw [hs_len, srt_len, ctH_len]
        simp only [elems, p2]
        rw [if_pos ⟨trivial, trivial, by omega⟩, List.drop_zero, List.take_of_length_le (by omega)]
      show (elems _ _ _).bind _ = _
      rw [he, Option.bind_some, mapM_id (fun x hx => by obtain ⟨h, _, rfl⟩ := List.mem_map.1 hx; rfl)]
      rfl
    simp +contextual -implicitDefEqProofs (maxSteps := 2000000) only [↓wP, wQ, wQ1, wQ2, wQ3, wR, boxE, partsOf, ↓reduceIte, Nat.reduceEqDiff, Nat.reduceAdd, Nat.reduceSub, Nat.reduceLeDiff, Nat.reduceLT, Nat.reduceMul, reduceCtorEq, Int.reduceBNe, Int.reduceBEq, Int.reduceLT, Int.reduceLE, Int.reduceGT, g1, g2, p3, p4, fr]
  · simp +contextual -implicitDefEqProofs (maxSteps := 2000000) only [↓wP, wQ, wQ1, wQ2, wQ3, wR, boxE, partsOf, ↓reduceIte, Nat.reduceEqDiff, Nat.reduceAdd, Nat.reduceSub, Nat.reduceLeDiff, Nat.reduceLT, Nat.reduceMul, reduceCtorEq, Int.reduceBNe, Int.reduceBEq, Int.reduceLT, Int.reduceLE, Int.reduceGT]
    simp [fil, zh, hs]
end Go.Q.S14
end

section
/- The document's order. -/
set_option linter.unusedSimpArgs false
set_option linter.unusedVariables false
namespace Go.Q.S14
open Go.Q Go.Sort

def oH (l : List Hit) : Option (List V) := if l = [] then none else some (hs l)
def optH (l : List Hit) : Option (List Hit) := if l = [] then none else some l
theorem lst_optH (l : List Hit) : lst (optH l) = l := by
  unfold optH; split
  · rename_i h; rw [h]; rfl
  · rfl
theorem lst_oH (l : List Hit) : lst (oH l) = hs l := by
  unfold oH; split
  · rename_i h; rw [h]; rfl
  · rfl
theorem oH_slV (l : List Hit) : slV 2 _root_.id (oH l) = slV 2 hitV (optH l) := by
  unfold oH optH; split <;> simp [slV, hs]
theorem plLen {σ : Sto} {m n : Nat} {v : V} {l : List Hit} (h : Pl σ m n 2 v (oH l)) : lenE v = some (.int .i64 (l.length : Int)) := by
  unfold oH at h
  split at h
  · rename_i e; rw [e]; simp only [Pl] at h; rw [h, lenE_nil]; rfl
  · obtain ⟨i, rfl, -⟩ := h
    rw [lenE_ref, hs_len]
theorem plRefs {σ : Sto} {m n : Nat} {v : V} {l : List Hit} (h : Pl σ m n 2 v (oH l)) (hl : l ≠ []) : ∃ i, v = .ref i 0 l.length 2 ∧ σ i = some (.row 2 (hs l)) ∧ m ≤ i ∧ i < n := by
  unfold oH at h
  rw [if_neg hl] at h
  obtain ⟨i, rfl, h1⟩ := h
  exact ⟨i, by rw [hs_len], h1⟩
theorem plOf {σ : Sto} {m n i : Nat} {l : List Hit} (hl : l ≠ []) (h1 : σ i = some (.row 2 (hs l))) (h2 : m ≤ i) (h3 : i < n) : Pl σ m n 2 (.ref i 0 l.length 2) (oH l) := by
  unfold oH
  rw [if_neg hl]
  exact ⟨i, by rw [hs_len], h1, h2, h3⟩
theorem tr_hs (k : Nat) (l : List Hit) : (∀ x ∈ hs l, Tr (k + 2) x = true) ∧ ∀ x ∈ hs l, ∀ c ∈ x.cells, Tr (k + 1) c = true := by
  constructor
  · intro x hx
    obtain ⟨y, -, rfl⟩ := List.mem_map.1 hx
    rfl
  · intro x hx c hc
    obtain ⟨y, -, rfl⟩ := List.mem_map.1 hx
    simp only [hitV, V.cells, List.mem_cons, List.not_mem_nil, or_false] at hc
    rcases hc with rfl | rfl <;> rfl
theorem plHf {σ : Sto} {m n : Nat} {v : V} {l : List Hit} (h : Pl σ m n 2 v (oH l)) : frz σ 12 v = some (slV 2 hitV (optH l)) := by
  rw [Go.Q.Pl.frz h (by rw [lst_oH]; exact (tr_hs 9 l).1) (by rw [lst_oH]; exact (tr_hs 10 l).2), oH_slV]

theorem hs_set (l : List Hit) (i : Nat) (x : Hit) : (hs l).set i (.agg [.int .u64 x.id, .int .u64 x.d]) = hs (l.set i x) := by simp [hs, List.map_set, hitV]
theorem hs_set_at {l : List Hit} {i j : Nat} {x : Hit} (hj : j < l.length) : ∃ u w : Int, ((hs l).set i (.agg [.int .u64 x.id, .int .u64 x.d]))[j]? = some (.agg [.int .u64 u, .int .u64 w]) := by
  rw [hs_set, hs_get (by simpa using hj)]
  exact ⟨_, _, rfl⟩

theorem rch_row {σ : Sto} {id : Nat} {l : List Hit} (h : σ id = some (.row 2 (hs l))) (k : Nat) : rch σ (k + 2) (.ref id 0 l.length 2) = [id] := by
  have e : elems σ 2 (.ref id 0 l.length 2) = some (hs l) := by
    simp only [elems, h, List.drop_zero]
    rw [if_pos ⟨trivial, trivial, by rw [hs_len]; omega⟩, ← hs_len, List.take_length]
  simp only [rch, e, Option.getD_some]
  rw [List.flatMap_eq_nil_iff.2 fun x hx => ?_]
  obtain ⟨y, -, rfl⟩ := List.mem_map.1 hx
  rfl
def dr (σ : Sto) (id : Nat) (l : List Hit) : Sto := if l = [] then σ else dropL σ [id]
theorem dr_at (σ : Sto) (id : Nat) (l : List Hit) {i : Nat} (h : i ≠ id) : dr σ id l i = σ i := by
  unfold dr; split
  · rfl
  · simp [dropL, h]
def merE (k : Int) (l : List Hit) : Int := if k < 1 ∨ 16 < k then 2 else if 2000 < l.length then 3 else 0
def merV (k : Int) (l : List Hit) : List Hit := if merE k l = 0 then fst' k.toNat l else []

def hVal (n : Nat) (l : List Hit) : V := if l = [] then .nilS else .ref n 0 l.length 2
def hSto (σ : Sto) (n : Nat) (l : List Hit) : Sto := if l = [] then σ else upd σ n (some (.row 2 (hs l)))
def hN (n : Nat) (l : List Hit) : Nat := if l = [] then n else n + 1
theorem thaw_ownH (σ : Sto) (n : Nat) (l : List Hit) : thaw σ n (ownH l) = (hVal n l, hSto σ n l, hN n l) := by
  cases l with
  | nil => rfl
  | cons x l =>
    unfold hVal hSto hN
    rw [if_neg (by simp), if_neg (by simp), if_neg (by simp)]
    exact thaw_hs σ n (x :: l)
theorem flat_ownH (l : List Hit) : flat (ownH l) = true := by
  cases l with
  | nil => rfl
  | cons x l => exact hs_flat (x :: l)
theorem pl_h (σ : Sto) (n : Nat) (l : List Hit) : Pl (hSto σ n l) n (hN n l) 2 (hVal n l) (oH l) := by
  unfold hVal hSto hN
  by_cases h : l = []
  · rw [if_pos h, if_pos h, if_pos h]; simp [oH, h, Pl]
  · rw [if_neg h, if_neg h, if_neg h]; exact plOf h (by simp [upd]) (Nat.le_refl _) (by omega)
theorem hSto_at (σ : Sto) (n : Nat) (l : List Hit) {i : Nat} (h : i < n) : hSto σ n l i = σ i := by
  unfold hSto; split
  · rfl
  · have : i ≠ n := by omega
    simp [upd, this]
theorem hN_le (n : Nat) (l : List Hit) : n ≤ hN n l := by unfold hN; split <;> omega
theorem hVal_len (n : Nat) (l : List Hit) : lenE (hVal n l) = some (.int .i64 (l.length : Int)) := by
  unfold hVal
  split
  · rename_i h; rw [h, lenE_nil]; rfl
  · rw [lenE_ref]
theorem hVal_giv (σ : Sto) (n : Nat) (l : List Hit) : giv (hSto σ n l) 12 (hVal n l) = some (ownH l) ∧ (gids (hSto σ n l) 12 (hVal n l)).Nodup := by
  unfold hVal hSto
  by_cases h : l = []
  · rw [if_pos h, if_pos h, h]; exact ⟨rfl, by simp [gids]⟩
  · rw [if_neg h, if_neg h, ownH_eq h]
    have := giv_row (σ := upd σ n (some (.row 2 (hs l)))) (id := n) (sz := 2) (xs := hs l) (by simp [upd]) (hs_giv _ _) (hs_gids _ _)
    rw [hs_len] at this
    exact this
theorem giv_tup2 {σ : Sto} {v w r s : V} (h : giv σ 11 v = some r ∧ (gids σ 11 v).Nodup) (h' : giv σ 11 w = some s) (h'' : gids σ 11 w = []) :
    giv σ 12 (.tup [v, w]) = some (.tup [r, s]) ∧ (gids σ 12 (.tup [v, w])).Nodup := by
  constructor
  · simp only [giv, List.mapM_cons, List.mapM_nil, h.1, h']; rfl
  · simp only [gids, List.flatMap_cons, List.flatMap_nil, h'', List.append_nil]; exact h.2
theorem hVal_giv11 (σ : Sto) (n : Nat) (l : List Hit) : giv (hSto σ n l) 11 (hVal n l) = some (ownH l) ∧ (gids (hSto σ n l) 11 (hVal n l)).Nodup := by
  unfold hVal hSto
  by_cases h : l = []
  · rw [if_pos h, if_pos h, h]; exact ⟨rfl, by simp [gids]⟩
  · rw [if_neg h, if_neg h, ownH_eq h]
    have hg : ∀ x ∈ hs l, elemM (giv (upd σ n (some (.row 2 (hs l)))) 10) x = some x := by
      intro x hx
      obtain ⟨y, -, rfl⟩ := List.mem_map.1 hx
      rfl
    have hg' : ∀ x ∈ hs l, ∀ c ∈ x.cells, gids (upd σ n (some (.row 2 (hs l)))) 10 c = [] := by
      intro x hx c hc
      obtain ⟨y, -, rfl⟩ := List.mem_map.1 hx
      simp only [hitV, V.cells, List.mem_cons, List.not_mem_nil, or_false] at hc
      rcases hc with rfl | rfl <;> rfl
    have hat : upd σ n (some (.row 2 (hs l))) n = some (.row 2 (hs l)) := by simp [upd]
    constructor
    · simp only [giv, hat, hs_len, and_self, if_true]
      rw [mapM_id hg]; rfl
    · simp only [gids, hat]
      rw [List.flatMap_eq_nil_iff.2 fun x hx => List.flatMap_eq_nil_iff.2 fun c hc => hg' x hx c hc]
      simp

theorem sum_mono (l : List (Option (List Hit))) (j : Nat) : ((l.take j).flatMap lst).length ≤ (l.flatMap lst).length := by
  conv => rhs; rw [← List.take_append_drop j l]
  rw [List.flatMap_append, List.length_append]
  omega

theorem r67 (k : Int) (o : Option (List (Option (List Hit)))) (hlo : (lst o).length < 9223372036854775808) (hli : ∀ r ∈ lst o, (lst r).length < 4611686018427387904) :
    res T 67 [.int .i64 k, slV 1 (slV 2 hitV) o] = some (.tup [ownH (merV k ((lst o).flatMap lst)), .int .i64 (merE k ((lst o).flatMap lst))]) := by
  refine run_res (run_own (fn := g67) rfl rfl (by decide) ?_)
  simp only [g67, b67]
  by_cases hk1 : k < 1
  · have e1 : merE k ((lst o).flatMap lst) = 2 := if_pos (.inl hk1)
    have e2 : merV k ((lst o).flatMap lst) = [] := by unfold merV; rw [e1]; rfl
    rw [e1, e2]
    simp +contextual -implicitDefEqProofs (maxSteps := 2000000) only [↓wP, wQ, wQ1, wQ2, wQ3, wR, boxE, partsOf, ↓reduceIte, Nat.reduceEqDiff, Nat.reduceAdd, Nat.reduceSub, Nat.reduceLeDiff, Nat.reduceLT, Nat.reduceMul, reduceCtorEq, Int.reduceBNe, Int.reduceBEq, Int.reduceLT, Int.reduceLE, Int.reduceGT, hk1]
    exact ⟨rfl, by simp [gids]⟩
  · by_cases hk2 : 16 < k
    · have e1 : merE k ((lst o).flatMap lst) = 2 := if_pos (.inr hk2)
      have e2 : merV k ((lst o).flatMap lst) = [] := by unfold merV; rw [e1]; rfl
      rw [e1, e2]
      simp +contextual -implicitDefEqProofs (maxSteps := 2000000) only [↓wP, wQ, wQ1, wQ2, wQ3, wR, boxE, partsOf, ↓reduceIte, Nat.reduceEqDiff, Nat.reduceAdd, Nat.reduceSub, Nat.reduceLeDiff, Nat.reduceLT, Nat.reduceMul, reduceCtorEq, Int.reduceBNe, Int.reduceBEq, Int.reduceLT, Int.reduceLE, Int.reduceGT, hk1, hk2]
      exact ⟨rfl, by simp [gids]⟩
    · obtain ⟨kn, rfl⟩ : ∃ kn : Nat, k = (kn : Int) := ⟨k.toNat, by omega⟩
      simp +contextual -implicitDefEqProofs (maxSteps := 2000000) only [↓wP, wQ, wQ1, wQ2, wQ3, wR, boxE, partsOf, ↓reduceIte, Nat.reduceEqDiff, Nat.reduceAdd, Nat.reduceSub, Nat.reduceLeDiff, Nat.reduceLT, Nat.reduceMul, reduceCtorEq, Int.reduceBNe, Int.reduceBEq, Int.reduceLT, Int.reduceLE, Int.reduceGT, hk1, hk2]
      refine WC_for (lst o).length 0 (fun (j : Nat) env σ n => σ = Sto.empty ∧ n = 0 ∧ env 0 = .int .i64 (kn : Int) ∧ env 1 = slV 1 (slV 2 hitV) o ∧ env 15 = slV 1 (slV 2 hitV) o ∧ env 6 = .int .i64 ((((lst o).take j).flatMap lst).length : Int) ∧ (((lst o).take j).flatMap lst).length ≤ 2000) hlo (by decide) (by decide) (fun _ _ => rfl) (fun _ _ _ => rfl) ?_ ?_ _ _ _ rfl rfl ?_
      · intro j env σ n hj h1 h2 ⟨g1, g2, h3, h4, h5, h6, h7⟩
        subst g1 g2
        simp only [vl_tmp] at h2
        have hx : (lst o)[j]? = some (lst o)[j] := List.getElem?_eq_getElem hj
        have hr := hli _ (List.getElem_mem hj)
        have ht : ((lst o).take (j + 1)).flatMap lst = ((lst o).take j).flatMap lst ++ lst (lst o)[j] := by
          rw [← List.take_append_getElem hj, List.flatMap_append]
          simp
        have hmono := sum_mono (lst o) (j + 1)
        generalize (lst o)[j] = r at *
        rw [ht, List.length_append] at hmono
        have wa : IntKind.i64.wrap (((((lst o).take j).flatMap lst).length : Int) + ((lst r).length : Int)) = (((((lst o).take j).flatMap lst).length + (lst r).length : Nat) : Int) := by rw [wrap_i64] <;> omega
        by_cases hbig : 2000 < (((lst o).take j).flatMap lst).length + (lst r).length
        · have hbig' : (2000 : Int) < (((((lst o).take j).flatMap lst).length + (lst r).length : Nat) : Int) := by omega
          have e1 : merE (kn : Int) ((lst o).flatMap lst) = 3 := by
            unfold merE
            rw [if_neg (by omega), if_pos (by omega)]
          have e2 : merV (kn : Int) ((lst o).flatMap lst) = [] := by unfold merV; rw [e1]; rfl
          rw [e1, e2]
          simp +contextual -implicitDefEqProofs (maxSteps := 2000000) only [↓wP, wQ, wQ1, wQ2, wQ3, wR, boxE, partsOf, ↓reduceIte, Nat.reduceEqDiff, Nat.reduceAdd, Nat.reduceSub, Nat.reduceLeDiff, Nat.reduceLT, Nat.reduceMul, reduceCtorEq, Int.reduceBNe, Int.reduceBEq, Int.reduceLT, Int.reduceLE, Int.reduceGT, h1, h2, h3, h4, h5, h6, hx, wa, hbig']
          exact ⟨rfl, by simp [gids]⟩
        · have hbig' : ¬ (2000 : Int) < (((((lst o).take j).flatMap lst).length + (lst r).length : Nat) : Int) := by omega
          simp +contextual -implicitDefEqProofs (maxSteps := 2000000) only [↓wP, wQ, wQ1, wQ2, wQ3, wR, boxE, partsOf, ↓reduceIte, Nat.reduceEqDiff, Nat.reduceAdd, Nat.reduceSub, Nat.reduceLeDiff, Nat.reduceLT, Nat.reduceMul, reduceCtorEq, Int.reduceBNe, Int.reduceBEq, Int.reduceLT, Int.reduceLE, Int.reduceGT, h1, h2, h3, h4, h5, h6, hx, wa, hbig']
          rw [ht, List.length_append]
          exact ⟨rfl, by omega⟩
      · intro env σ n ⟨g1, g2, h3, h4, h5, h6, h7⟩ h1 h2
        subst g1 g2
        rw [List.take_length] at h7
        have e1 : merE (kn : Int) ((lst o).flatMap lst) = 0 := by
          unfold merE
          rw [if_neg (by omega), if_neg (by omega)]
        have e2 : merV (kn : Int) ((lst o).flatMap lst) = fst' kn ((lst o).flatMap lst) := by unfold merV; rw [if_pos e1]; rfl
        have h25 := r85 kn o (by omega) (by omega) hlo (fun r hr => by have := hli r hr; omega)
        rw [e1, e2]
        have e : [V.int .i64 (kn : Int), slV 1 (slV 2 hitV) o].mapM (frz Sto.empty 12) = some [V.int .i64 (kn : Int), slV 1 (slV 2 hitV) o] := by
          simp only [List.mapM_cons, List.mapM_nil, frz_slV, frz_int]; rfl
        generalize fst' kn ((lst o).flatMap lst) = l at *
        have f85 := fun n lk => callE_flat (fs := true) (n := n) (lk := lk) (by decide) e h25 (flat_ownH l)
        simp only [thaw_ownH] at f85
        have hg := hVal_giv11 Sto.empty 0 l
        simp +contextual -implicitDefEqProofs (maxSteps := 2000000) only [↓wP, wQ, wQ1, wQ2, wQ3, wR, boxE, partsOf, ↓reduceIte, Nat.reduceEqDiff, Nat.reduceAdd, Nat.reduceSub, Nat.reduceLeDiff, Nat.reduceLT, Nat.reduceMul, reduceCtorEq, Int.reduceBNe, Int.reduceBEq, Int.reduceLT, Int.reduceLE, Int.reduceGT, h3, h4, f85]
        exact giv_tup2 hg rfl rfl
      · simp +contextual -implicitDefEqProofs (maxSteps := 2000000) only [↓wP, wQ, wQ1, wQ2, wQ3, wR, boxE, partsOf, ↓reduceIte, Nat.reduceEqDiff, Nat.reduceAdd, Nat.reduceSub, Nat.reduceLeDiff, Nat.reduceLT, Nat.reduceMul, reduceCtorEq, Int.reduceBNe, Int.reduceBEq, Int.reduceLT, Int.reduceLE, Int.reduceGT]
        simp
end Go.Q.S14
end

section
/- First of a row; selections. -/
set_option linter.unusedSimpArgs false
set_option linter.unusedVariables false
namespace Go.Q.S14
open Go.Q Go.Sort

theorem flat_tup2 {a b : V} (h : flat a = true) (h' : flat b = true) : flat (.tup [a, b]) = true := by simp [flat, flatL, h, h']
theorem thaw_hTup (σ : Sto) (n : Nat) (l : List Hit) (e : Int) : thaw σ n (.tup [ownH l, .int .i64 e]) = (.tup [hVal n l, .int .i64 e], hSto σ n l, hN n l) := by
  rw [thaw_tup, thawL_cons, thaw_ownH]
  rfl

theorem merge_one (o : Option (List Hit)) : (lst (some [o])).flatMap lst = lst o := by simp [lst]
theorem r55 (k : Int) (o : Option (List Hit)) (hl : (lst o).length < 4611686018427387904) : res T 55 [slV 2 hitV o, .int .i64 k] = some (.tup [ownH (merV k (lst o)), .int .i64 (merE k (lst o))]) := by
  refine run_res (run_own (fn := g55) rfl rfl (by decide) ?_)
  simp only [g55, b55]
  have h16 := r67 k (some [o]) (by simp [lst]) (fun r hr => by simp [lst_some] at hr; subst hr; exact hl)
  rw [merge_one] at h16
  have e : [V.int .i64 k, .ref 0 0 1 1].mapM (frz (upd Sto.empty 0 (some (.row 1 [slV 2 hitV o]))) 12) = some [V.int .i64 k, slV 1 (slV 2 hitV) (some [o])] := by
    have hx : frz (upd Sto.empty 0 (some (.row 1 [slV 2 hitV o]))) 12 (.ref 0 0 1 1) = some (.sl 1 [slV 2 hitV o]) := by
      have := (Fz.ref (σ := upd Sto.empty 0 (some (.row 1 [slV 2 hitV o]))) (id := 0) (sz := 1) (xs := [slV 2 hitV o]) (ts := [slV 2 hitV o]) (k := 11) (S := fun _ => True) (by simp [upd]) trivial
        (FzL.trees (fun x hx => by rw [List.mem_singleton] at hx; subst hx; exact Tr_slV 2 _ o _) (fun x hx c hc => by rw [List.mem_singleton] at hx; subst hx; rw [cl_slV, List.mem_singleton] at hc; subst hc; exact Tr_slV 2 _ o _))).1
      exact this
    simp only [List.mapM_cons, List.mapM_nil, hx, frz_int]
    rfl
  have f67 := fun n lk => callE_flat (fs := true) (n := n) (lk := lk) (by decide) e h16 (flat_tup2 (flat_ownH _) rfl)
  simp only [thaw_hTup] at f67
  have hg := fun σ n => hVal_giv11 σ n (merV k (lst o))
  simp +contextual -implicitDefEqProofs (maxSteps := 2000000) only [↓wP, wQ, wQ1, wQ2, wQ3, wR, boxE, partsOf, ↓reduceIte, Nat.reduceEqDiff, Nat.reduceAdd, Nat.reduceSub, Nat.reduceLeDiff, Nat.reduceLT, Nat.reduceMul, reduceCtorEq, Int.reduceBNe, Int.reduceBEq, Int.reduceLT, Int.reduceLE, Int.reduceGT, f67]
  exact giv_tup2 (hg _ _) rfl rfl

theorem f55 {σ : Sto} {v : V} {l : List Hit} (k : Int) (ha : Hf σ v l) (hl : l.length < 4611686018427387904) (fs : Bool) (n lk : Nat) :
    callE T fs 55 [v, .int .i64 k] σ n lk = some (.tup [hVal n (merV k l), .int .i64 (merE k l)], hSto σ n (merV k l), hN n (merV k l)) := by
  obtain ⟨o, rfl, h1⟩ := ha
  have e : [v, V.int .i64 k].mapM (frz σ 12) = some [slV 2 hitV o, .int .i64 k] := by simp only [List.mapM_cons, List.mapM_nil, h1]; rfl
  rw [callE_flat (by decide) e (r55 k o hl) (flat_tup2 (flat_ownH _) rfl), thaw_hTup]

end Go.Q.S14
end

section
/- The nearest centroids: what the program says. -/
set_option linter.unusedSimpArgs false
set_option linter.unusedVariables false
namespace Go.Q.S14
open Go.Q Go.Sort

/-- A round of a loop over a function that goes on, or is left for good. -/
theorem yieldW_gs {T : Tab} {l : Nat} {args : List V} {σ : Sto} {n lk : Nat} {Q : V → Sto → Nat → Prop} {env : Nat → V} {ps : List Nat} {assign body : AC} {pend : Option Ex}
    (hl : σ l = some (.loop env ps assign body .ready pend)) (ha : args.length = ps.length) (hlk : lk ≤ l)
    (h : WC T assign (bindPs env ps args) σ n lk fun ex s => ex = .normal ∧ s.σ l = some (.loop env ps assign body .ready pend) ∧ s.lk = lk ∧
      WC T body s.env (upd s.σ l (some (.loop env ps assign body .busy pend))) s.n lk fun ex s' => s'.σ l = some (.loop env ps assign body .busy pend) ∧
        ((ex = .normal ∧ Q (.bool true) (upd s'.σ l (some (.loop env ps assign body .ready none))) s'.n) ∨ (ex = .ret ∧ Q (.bool false) (upd s'.σ l (some (.loop env ps assign body .done (some .ret)))) s'.n))) (hd : assign.det = true ∧ body.det = true := by exact ⟨rfl, rfl⟩) : yieldW (run T) l args σ n lk Q := by
  unfold yieldW
  simp only [hl]
  refine ⟨ha, hlk, run_step hd ?_⟩
  simp only [jobW]
  refine wpC_mono (fun _ _ x => x) run_mono _ _ _ _ (fun e s ⟨h1, h2, h3, h4⟩ => ?_) (WC_ok _ _ _ _ _ _ h)
  obtain ⟨env1, σ1, n1, lk1⟩ := s
  simp only at h2 h3 h4
  subst h3
  refine ⟨h1, env, ps, assign, body, pend, h2, wpC_mono (fun _ _ x => x) run_mono _ _ _ _ (fun e2 s2 ⟨k2, k3⟩ => ?_) (WC_ok _ _ _ _ _ _ h4)⟩
  refine ⟨⟨env, ps, assign, body, pend, k2⟩, env, ps, assign, body, pend, k2, ?_⟩
  rcases k3 with ⟨rfl, k3⟩ | ⟨rfl, k3⟩
  · simpa using k3
  · simpa using k3

def iV (i : Int) : V := .int .i64 i
theorem iV_eq (i : Int) : iV i = .int .i64 i := rfl
def ownI (l : List Int) : V := if l = [] then .nilS else .own 1 (l.map iV)
def iVal (n : Nat) (l : List Int) : V := if l = [] then .nilS else .ref n 0 l.length 1
def iSto (σ : Sto) (n : Nat) (l : List Int) : Sto := if l = [] then σ else upd σ n (some (.row 1 (l.map iV)))
def iN (n : Nat) (l : List Int) : Nat := if l = [] then n else n + 1

/-- What tells places: each is yielded in turn, till there were m. -/
theorem iter48 (q : Vc) (k ts m : Int) (c : Option (List Vc)) (Hs : List Hit) (l : Nat) (J : Nat → Sto → Nat → Prop) (σ : Sto) (n : Nat) (hln : l < n) (hH : Hs.length < 1000000) (hid : ∀ h ∈ Hs, 0 ≤ h.id ∧ h.id < 1000000) (hm : 0 ≤ m)
    (hfr : ∀ j σ n σ' n', J j σ n → n ≤ n' → (∀ i, i < n → σ' i = σ i) → J j σ' n')
    (hy : ∀ j (hj : j < Hs.length) σ n, (j : Int) < m → J j σ n → l < n → yieldW (run T) l [.int .i64 Hs[j].id] σ n 0 (fun y σ' n' => n ≤ n' ∧ y = .bool true ∧ J (j + 1) σ' n'))
    (h0 : J 0 σ n) : run T (.raw 48 (.yld l :: [.box [.sl 2 (hs Hs)], .box (srcV q k ts m c)]) σ n 0) (memQ fun _ σ' n' => J (min m.toNat Hs.length) σ' n') := by
  refine run_rawE (fn := g48) rfl rfl ?_
  simp only [g48, b48, srcV]
  obtain ⟨MP, hMP⟩ : ∃ MP : Sto → Nat → Prop, MP = fun σ' n' => J (min m.toNat Hs.length) σ' n' := ⟨_, rfl⟩
  simp only [← congrFun (congrFun hMP _) _]
  have hle : lenE (.sl 2 (hs Hs)) = some (.int .i64 (Hs.length : Int)) := by simp [lenE, lenOf, hs_len]
  simp +contextual -implicitDefEqProofs (maxSteps := 2000000) only [↓wP, wQ, wQ1, wQ2, wQ3, wR, boxE, partsOf, ↓reduceIte, Nat.reduceEqDiff, Nat.reduceAdd, Nat.reduceSub, Nat.reduceLeDiff, Nat.reduceLT, Nat.reduceMul, reduceCtorEq, Int.reduceBNe, Int.reduceBEq, Int.reduceLT, Int.reduceLE, Int.reduceGT, hle]
  refine WC_for Hs.length 0 (fun (j : Nat) env σ n => env 0 = .yld l ∧ env 2 = .box [slV 1 i32V q, .int .i64 k, .int .u64 ts, .int .i64 m, slV 1 vecV c] ∧ env 6 = .sl 2 (hs Hs) ∧ l < n ∧ (j : Int) ≤ m ∧ J j σ n) (by omega) (by decide) (by decide) (fun _ _ => rfl) (fun _ _ _ => rfl) ?_ ?_ _ _ _ rfl rfl ?_
  · intro j env σ n hj h1 h2 ⟨h3, h4, h5, h6, h7, h8⟩
    simp only [vl_tmp] at h2
    have hm' := List.getElem_mem hj
    obtain ⟨i1, i2⟩ := hid _ hm'
    have hx : (hs Hs)[j]? = some (.agg [.int .u64 Hs[j].id, .int .u64 Hs[j].d]) := by
      simp [hs, hitV, hj]
    have hJ1 := hfr _ _ _ (upd (upd σ n (some (.row 2 [.agg [.int .u64 0, .int .u64 0]]))) n (some (.row 2 [.agg [.int .u64 Hs[j].id, .int .u64 Hs[j].d]]))) (n + 1) h8 (by omega) (fun i hi => by
      have : i ≠ n := by omega
      simp [upd, this])
    have hY := hy j hj
    have wi : IntKind.i64.wrap Hs[j].id = Hs[j].id := by rw [wrap_i64] <;> omega
    generalize Hs[j] = x at *
    by_cases hjm : (j : Int) = m
    · have mp : MP (upd (upd σ n (some (.row 2 [.agg [.int .u64 0, .int .u64 0]]))) n (some (.row 2 [.agg [.int .u64 x.id, .int .u64 x.d]]))) (n + 1) := by
        rw [hMP]; dsimp only; rw [show min m.toNat Hs.length = j by omega]; exact hJ1
      have hjm' : ((j : Int) == m) = true := by simpa using hjm
      simp +contextual -implicitDefEqProofs (maxSteps := 2000000) only [↓wP, wQ, wQ1, wQ2, wQ3, wR, boxE, partsOf, ↓reduceIte, Nat.reduceEqDiff, Nat.reduceAdd, Nat.reduceSub, Nat.reduceLeDiff, Nat.reduceLT, Nat.reduceMul, reduceCtorEq, Int.reduceBNe, Int.reduceBEq, Int.reduceLT, Int.reduceLE, Int.reduceGT, h1, h2, h3, h4, h5, hx, hjm']
      exact mp
    · have hjm' : ((j : Int) == m) = false := by simpa using hjm
      simp +contextual -implicitDefEqProofs (maxSteps := 2000000) only [↓wP, wQ, wQ1, wQ2, wQ3, wR, boxE, partsOf, ↓reduceIte, Nat.reduceEqDiff, Nat.reduceAdd, Nat.reduceSub, Nat.reduceLeDiff, Nat.reduceLT, Nat.reduceMul, reduceCtorEq, Int.reduceBNe, Int.reduceBEq, Int.reduceLT, Int.reduceLE, Int.reduceGT, h1, h2, h3, h4, h5, hx, hjm', wi]
      refine stepW_yld (yieldW_mono (fun _ _ x => x) run_mono (fun y σ' n' ⟨a1, a2, a3⟩ => ?_) (hY _ _ (by omega) hJ1 (by omega)))
      subst a2
      simp +contextual -implicitDefEqProofs (maxSteps := 2000000) only [↓wP, wQ, wQ1, wQ2, wQ3, wR, boxE, partsOf, ↓reduceIte, Nat.reduceEqDiff, Nat.reduceAdd, Nat.reduceSub, Nat.reduceLeDiff, Nat.reduceLT, Nat.reduceMul, reduceCtorEq, Int.reduceBNe, Int.reduceBEq, Int.reduceLT, Int.reduceLE, Int.reduceGT, h1, h2, h3, h4, h5]
      exact ⟨by omega, by omega, a3⟩
  · intro env σ n ⟨h3, h4, h5, h6, h7, h8⟩ h1 h2
    have mp : MP σ n := by rw [hMP]; dsimp only; rw [show min m.toNat Hs.length = Hs.length by omega]; exact h8
    simp +contextual -implicitDefEqProofs (maxSteps := 2000000) only [↓wP, wQ, wQ1, wQ2, wQ3, wR, boxE, partsOf, ↓reduceIte, Nat.reduceEqDiff, Nat.reduceAdd, Nat.reduceSub, Nat.reduceLeDiff, Nat.reduceLT, Nat.reduceMul, reduceCtorEq, Int.reduceBNe, Int.reduceBEq, Int.reduceLT, Int.reduceLE, Int.reduceGT]
    exact mp
  · simp +contextual -implicitDefEqProofs (maxSteps := 2000000) only [↓wP, wQ, wQ1, wQ2, wQ3, wR, boxE, partsOf, ↓reduceIte, Nat.reduceEqDiff, Nat.reduceAdd, Nat.reduceSub, Nat.reduceLeDiff, Nat.reduceLT, Nat.reduceMul, reduceCtorEq, Int.reduceBNe, Int.reduceBEq, Int.reduceLT, Int.reduceLE, Int.reduceGT]
    exact ⟨hln, hm, h0⟩
theorem thaw_ownI (σ : Sto) (n : Nat) (l : List Int) : thaw σ n (ownI l) = (iVal n l, iSto σ n l, iN n l) := by
  cases l with
  | nil => rfl
  | cons x l =>
    unfold iVal iSto iN ownI
    rw [if_neg (by simp), if_neg (by simp), if_neg (by simp), if_neg (by simp), thaw_own, thawL_nw 12 (by
      intro y hy
      obtain ⟨z, -, rfl⟩ := List.mem_map.1 hy
      rfl), List.length_map]
theorem flat_iV (l : List Int) : flatL (l.map iV) = true := by
  induction l with
  | nil => rfl
  | cons x l ih => simp only [List.map_cons, flatL, iV, flat, Bool.true_and]; exact ih
theorem flat_ownI (l : List Int) : flat (ownI l) = true := by
  unfold ownI
  split
  · rfl
  · exact flat_iV l
theorem giv_none (σ : Sto) {e : Int} (h : e ≠ 0) (l : List Int) : giv σ 12 (.tup [.nilS, .int .i64 e]) = some (.tup [ownI (if e = 0 then l else []), .int .i64 e]) ∧ (gids σ 12 (.tup [.nilS, .int .i64 e])).Nodup := by
  rw [if_neg h]
  exact giv_tup2 ⟨rfl, by simp [gids]⟩ rfl rfl
theorem iV_giv {σ : Sto} {n : Nat} {l : List Int} {v : V} (h : Pl σ 3 n 1 v (oL (l.map iV))) : giv σ 11 v = some (ownI l) ∧ (gids σ 11 v).Nodup := by
  cases l with
  | nil => simp only [List.map_nil, oL, Pl] at h; subst h; exact ⟨rfl, by simp [gids]⟩
  | cons x l =>
    simp only [List.map_cons, oL, Pl] at h
    obtain ⟨i, rfl, h1, -, -⟩ := h
    have e : iV x :: l.map iV = (x :: l).map iV := rfl
    rw [e] at h1 ⊢
    unfold ownI
    rw [if_neg (by simp)]
    generalize x :: l = L at *
    have hg : ∀ x ∈ L.map iV, elemM (giv σ 10) x = some x := by
      intro x hx
      obtain ⟨y, -, rfl⟩ := List.mem_map.1 hx
      rfl
    have hg' : ∀ x ∈ L.map iV, ∀ c ∈ x.cells, gids σ 10 c = [] := by
      intro x hx c hc
      obtain ⟨y, -, rfl⟩ := List.mem_map.1 hx
      simp only [iV, V.cells, List.mem_cons, List.not_mem_nil, or_false] at hc
      subst hc; rfl
    constructor
    · simp only [giv, h1, and_self, if_true]
      rw [mapM_id hg]; rfl
    · simp only [gids, h1]
      rw [List.flatMap_eq_nil_iff.2 fun x hx => List.flatMap_eq_nil_iff.2 fun c hc => hg' x hx c hc]
      simp

def near (q : Vc) (c : List Vc) (m : Int) : List Int := ((srt (ctH q c 0)).take m.toNat).map (·.id)
def ask10 : AC := (.reg [⟨(some 13), none, .mov (.tmp 44)⟩])
def bd10 : AC := (.block 1 (.reg [⟨(some 45), none, .load false 1 (.tmp 12)⟩,
       ⟨(some 46), none, .mov (.tmp 13)⟩,
       ⟨(some 47), none, .lit 1 [(.tmp 46)]⟩,
       ⟨(some 48), none, .append 1 8 (.tmp 45) (.tmp 47)⟩,
       ⟨none, none, .store 1 (.tmp 12) (.tmp 48)⟩]))
theorem w_ask10 (env : Nat → V) (σ : Sto) (n lk : Nat) (Q : Ex → St → Prop) : WC T ask10 env σ n lk Q = WC T (.reg [⟨(some 13), none, .mov (.tmp 44)⟩]) env σ n lk Q := rfl
theorem w_bd10 (env : Nat → V) (σ : Sto) (n lk : Nat) (Q : Ex → St → Prop) : WC T bd10 env σ n lk Q = WC T (.block 1 (.reg [⟨(some 45), none, .load false 1 (.tmp 12)⟩,
       ⟨(some 46), none, .mov (.tmp 13)⟩,
       ⟨(some 47), none, .lit 1 [(.tmp 46)]⟩,
       ⟨(some 48), none, .append 1 8 (.tmp 45) (.tmp 47)⟩,
       ⟨none, none, .store 1 (.tmp 12) (.tmp 48)⟩])) env σ n lk Q := rfl
structure J10 (env : Nat → V) (ids : List Int) (j : Nat) (σ : Sto) (n : Nat) : Prop where
  hn : 3 ≤ n
  s2 : σ 2 = some (.loop env [44] ask10 bd10 .ready none)
  s1 : ∃ v, σ 1 = some (.row 1 [v]) ∧ Pl σ 3 n 1 v (oL ((ids.take j).map iV))
theorem J10.frame {env : Nat → V} {ids : List Int} {j : Nat} {σ σ' : Sto} {n n' : Nat} (h : J10 env ids j σ n) (hn : n ≤ n') (hs : ∀ i, i < n → σ' i = σ i) : J10 env ids j σ' n' := by
  obtain ⟨h1, h2, v, h3, h4⟩ := h
  exact ⟨by omega, by rw [hs 2 (by omega), h2], v, by rw [hs 1 (by omega), h3], h4.loc (fun i a b => hs i b) hn⟩
theorem hy10 (env : Nat → V) (ids : List Int) (he : env 12 = .ptr 1 1 0 0) (j : Nat) (hj : j < ids.length) (hI : ids.length < 1000000) (x : Int) (hx : ids[j] = x) (σ : Sto) (n : Nat) (hJ : J10 env ids j σ n) (hn : 2 < n) :
    yieldW (run T) 2 [.int .i64 x] σ n 0 (fun y σ' n' => n ≤ n' ∧ y = .bool true ∧ J10 env ids (j + 1) σ' n') := by
  obtain ⟨h1, h2, v, h3, h4⟩ := hJ
  refine yieldW_gs h2 rfl (Nat.zero_le _) ?_
  have q0 : (2 = n) = False := by simp; omega
  have q1 : (n = 2) = False := by simp; omega
  have p2 : (1 = n) = False := by simp; omega
  have hc := h4.cells
  have ho := h4.one
  simp +contextual -implicitDefEqProofs (maxSteps := 2000000) only [↓wP, wQ, wQ1, wQ2, wQ3, wR, boxE, partsOf, ↓reduceIte, Nat.reduceEqDiff, Nat.reduceAdd, Nat.reduceSub, Nat.reduceLeDiff, Nat.reduceLT, Nat.reduceMul, reduceCtorEq, Int.reduceBNe, Int.reduceBEq, Int.reduceLT, Int.reduceLE, Int.reduceGT, bind_cons, bind_nil, w_ask10, w_bd10, he, h2, h3, q0, q1, p2, hc]
  have hlen : ((ids.take j).map iV).length = j := by rw [List.length_map, List.length_take]; omega
  refine stepW_app1 (m := 3) (n0 := n) (σ0 := σ) (o := oL ((ids.take j).map iV)) h4 (fun i g1 g2 => ?_) (by omega) (by omega) (Nat.zero_le _) ?_ (fun _ σ2 g1 g2 => ?_)
  · have a1 : i ≠ n := by omega
    have a2 : i ≠ 2 := by omega
    simp [upd, a1, a2]
  · rw [lst_oL, hlen]; unfold LIM; omega
  · rw [lst_oL, hlen] at g1 ⊢
    have hv : ∀ i, i < 3 → ∀ off len s, v ≠ .ref i off len s := by
      intro i hi off len s e
      subst e
      cases ho' : oL ((ids.take j).map iV) with
      | none => rw [ho'] at h4; simp only [Pl] at h4; cases h4
      | some xs => rw [ho'] at h4; obtain ⟨j, e, -, e2, -⟩ := h4; simp only [V.ref.injEq] at e; omega
    have t1 : σ2 1 = some (.row 1 [v]) := by rw [g2 1 (by omega) (hv 1 (by omega))]; simp [upd, p2, h3]
    have t2 : σ2 2 = some (.loop env [44] ask10 bd10 .busy none) := by rw [g2 2 (by omega) (hv 2 (by omega))]; simp [upd, q0]
    have hsp : ∀ c, spliceC v 0 [c] = c := fun c => by
      cases ho' : oL ((ids.take j).map iV) with
      | none => rw [ho'] at h4; simp only [Pl] at h4; subst h4; rfl
      | some xs => rw [ho'] at h4; obtain ⟨j, rfl, -⟩ := h4; rfl
    simp +contextual -implicitDefEqProofs (maxSteps := 2000000) only [↓wP, wQ, wQ1, wQ2, wQ3, wR, boxE, partsOf, ↓reduceIte, Nat.reduceEqDiff, Nat.reduceAdd, Nat.reduceSub, Nat.reduceLeDiff, Nat.reduceLT, Nat.reduceMul, reduceCtorEq, Int.reduceBNe, Int.reduceBEq, Int.reduceLT, Int.reduceLE, Int.reduceGT, he, t1, t2, hsp]
    have eo : oL ((ids.take (j + 1)).map iV) = some ((ids.take j).map iV ++ [.int .i64 x]) := by
      rw [show ids.take (j + 1) = ids.take j ++ [ids[j]] from (List.take_append_getElem hj).symm, List.map_append, hx]
      cases ids.take j <;> rfl
    refine .inl ⟨by omega, by omega, ?_, .ref (n + 1) 0 (j + 1) 1, ?_, ?_⟩
    · simp [upd]
    · simp [upd]
    · rw [eo]
      exact g1.loc (fun i a1 a2 => by
        have b1 : i ≠ 1 := by omega
        have b2 : i ≠ 2 := by omega
        simp [upd, b1, b2]) (Nat.le_refl _)

theorem near_len (q : Vc) (c : List Vc) (m : Int) (hm : 0 ≤ m) : (near q c m).length = min m.toNat c.length := by
  unfold near; rw [List.length_map, List.length_take, srt_len, ctH_len]
theorem ct_id {q : Vc} {c : List Vc} {h : Hit} (hh : h ∈ srt (ctH q c 0)) : 0 ≤ h.id ∧ h.id < c.length := by
  have := (srt_perm _).mem_iff.1 hh
  obtain ⟨p, hp, rfl⟩ := List.mem_map.1 this
  have := List.mem_zipIdx hp
  simp only
  omega

theorem WC_env {T : Tab} {c : AC} {env : Nat → V} {σ : Sto} {n lk : Nat} {Q : Ex → St → Prop} (h : ∀ e, e = env → WC T c e σ n lk Q) : WC T c env σ n lk Q := h _ rfl
theorem r10 (c : Option (List Vc)) (v : Vc) (m : Int) (hl : (lst c).length ≤ 7) (hv : ∀ v ∈ lst c, Sm v) (hv' : Sm v) : res T 10 [slV 1 vecV c, slV 1 i32V v, .int .i64 m] = some (.tup [ownI (if nrE c v m = 0 then near v (lst c) m else []), .int .i64 (nrE c v m)]) := by
  refine run_res (run_own (fn := g10) rfl rfl (by decide) ?_)
  simp only [g10, b10]
  have f1 := f21 m
  have f2 := f22 v hv'
  have f3 := f23 c hl hv
  by_cases ha : askE m = 0
  · have hm : 1 ≤ m := by unfold askE at ha; split at ha; cases ha; omega
    cases ho : okV v
    · rw [ho] at f2
      rw [ha] at f1
      have e : nrE c v m = 150 := by unfold nrE; rw [if_neg (by omega), ho]; rfl
      rw [e]
      simp +contextual -implicitDefEqProofs (maxSteps := 2000000) only [↓wP, wQ, wQ1, wQ2, wQ3, wR, boxE, partsOf, ↓reduceIte, Nat.reduceEqDiff, Nat.reduceAdd, Nat.reduceSub, Nat.reduceLeDiff, Nat.reduceLT, Nat.reduceMul, reduceCtorEq, Int.reduceBNe, Int.reduceBEq, Int.reduceLT, Int.reduceLE, Int.reduceGT, f1, f2]
      exact giv_none _ (by decide) _
    · rw [ho] at f2
      have e : nrE c v m = cnE c v := by unfold nrE; rw [if_neg (by omega), ho]; rfl
      rw [e]
      rw [ha] at f1
      by_cases ht : trE c = 0
      · rw [ht] at f3
        have hne : lst c ≠ [] := by intro h; unfold trE at ht; rw [if_pos h] at ht; cases ht
        have hc : cents c = true := by
          unfold trE at ht; rw [if_neg hne] at ht
          cases h : cents c
          · rw [h] at ht; cases ht
          · rfl
        obtain ⟨v0, hv0, hd⟩ := dm_get hne
        by_cases hx : dm c = (lst v).length
        · have hx' : (((lst v0).length : Int) != ((lst v).length : Int)) = false := by rw [← hd, hx]; simp
          have r := r24 v 0 0 m c hc hv hv' ho hx hne
          have f24 := callE_tr (by decide) r (by simp [srcV, Tr, Tr_slV]) (by simp [srcV, Nw])
          have e1 : cnE c v = 0 := by unfold cnE; rw [if_neg (by omega), if_pos hx]
          rw [e1]
          simp only [srcV] at f24
          simp +contextual -implicitDefEqProofs (maxSteps := 2000000) only [↓wP, wQ, wQ1, wQ2, wQ3, wR, boxE, partsOf, ↓reduceIte, Nat.reduceEqDiff, Nat.reduceAdd, Nat.reduceSub, Nat.reduceLeDiff, Nat.reduceLT, Nat.reduceMul, reduceCtorEq, Int.reduceBNe, Int.reduceBEq, Int.reduceLT, Int.reduceLE, Int.reduceGT, f1, f2, f3, hv0, vecV_eq, hx', f24]
          refine WC_env fun env hE => ?_
          have e43 : env 43 = .fn 48 [.box [.sl 2 (hs (srt (ctH v (lst c) 0)))], .box (srcV v 0 0 m c)] := by rw [hE]; rfl
          have e12 : env 12 = .ptr 1 1 0 0 := by rw [hE]; rfl
          clear hE
          have hlen : (srt (ctH v (lst c) 0)).length = (lst c).length := by rw [srt_len, ctH_len]
          have hnl : (near v (lst c) m).length = min m.toNat (lst c).length := near_len _ _ _ (by omega)
          refine WC_rangeF (f := 48) (caps := _) e43 (Nat.zero_le _) ?_
          refine run_mono _ _ _ (fun o ho => ?_) (iter48 v 0 0 m c (srt (ctH v (lst c) 0)) 2 (fun j σ n => J10 env (near v (lst c) m) j σ n) _ 3 (by omega) (by omega) (fun h hh => by have := ct_id hh; omega) (by omega) ?_ ?_ ?_)
          · cases o <;> try exact ho.elim
            rename_i vv σ' n'
            obtain ⟨h1, h2, u, h3, h4⟩ := ho
            refine ⟨_, _, _, _, _, _, h2, by decide, ?_⟩
            rw [hlen, ← hnl, List.take_length] at h4
            have t1 : upd σ' 2 none 1 = some (.row 1 [u]) := by simp [upd, h3]
            have hc := h4.cells
            have hp := h4.loc (σ' := upd σ' 2 none) (fun i a b => by
              have : i ≠ 2 := by omega
              simp [upd, this]) (Nat.le_refl _)
            have ho := h4.one
            have hg := iV_giv hp
            simp +contextual -implicitDefEqProofs (maxSteps := 2000000) only [↓wP, wQ, wQ1, wQ2, wQ3, wR, boxE, partsOf, ↓reduceIte, Nat.reduceEqDiff, Nat.reduceAdd, Nat.reduceSub, Nat.reduceLeDiff, Nat.reduceLT, Nat.reduceMul, reduceCtorEq, Int.reduceBNe, Int.reduceBEq, Int.reduceLT, Int.reduceLE, Int.reduceGT, Option.getD_none, e12, h3, hc, ho]
            exact giv_tup2 hg rfl rfl
          · exact fun j σ n σ' n' h a b => h.frame a b
          · intro j hj σ n hjm hJ hn
            have hj2 : j < (near v (lst c) m).length := by omega
            exact hy10 env _ e12 j hj2 (by omega) _ (by simp [near]) σ n hJ hn
          · exact ⟨by omega, by rfl, .nilS, by simp [upd], by simp [oL, Pl]⟩
        · have hx' : (((lst v0).length : Int) != ((lst v).length : Int)) = true := by rw [← hd]; simp; omega
          have e1 : cnE c v = 151 := by unfold cnE; rw [if_neg (by omega), if_neg hx]
          rw [e1]
          simp +contextual -implicitDefEqProofs (maxSteps := 2000000) only [↓wP, wQ, wQ1, wQ2, wQ3, wR, boxE, partsOf, ↓reduceIte, Nat.reduceEqDiff, Nat.reduceAdd, Nat.reduceSub, Nat.reduceLeDiff, Nat.reduceLT, Nat.reduceMul, reduceCtorEq, Int.reduceBNe, Int.reduceBEq, Int.reduceLT, Int.reduceLE, Int.reduceGT, f1, f2, f3, hv0, vecV_eq, hx']
          exact giv_none _ (by decide) _
      · have ht' : (trE c != 0) = true := by simpa using ht
        have e1 : cnE c v = trE c := by unfold cnE; rw [if_pos ht]
        rw [e1]
        simp +contextual -implicitDefEqProofs (maxSteps := 2000000) only [↓wP, wQ, wQ1, wQ2, wQ3, wR, boxE, partsOf, ↓reduceIte, Nat.reduceEqDiff, Nat.reduceAdd, Nat.reduceSub, Nat.reduceLeDiff, Nat.reduceLT, Nat.reduceMul, reduceCtorEq, Int.reduceBNe, Int.reduceBEq, Int.reduceLT, Int.reduceLE, Int.reduceGT, f1, f2, f3, ht']
        exact giv_none _ ht _
  · have ha' : (askE m != 0) = true := by simpa using ha
    have e : nrE c v m = askE m := by unfold nrE; rw [if_pos ha]
    rw [e]
    simp +contextual -implicitDefEqProofs (maxSteps := 2000000) only [↓wP, wQ, wQ1, wQ2, wQ3, wR, boxE, partsOf, ↓reduceIte, Nat.reduceEqDiff, Nat.reduceAdd, Nat.reduceSub, Nat.reduceLeDiff, Nat.reduceLT, Nat.reduceMul, reduceCtorEq, Int.reduceBNe, Int.reduceBEq, Int.reduceLT, Int.reduceLE, Int.reduceGT, f1, ha']
    exact giv_none _ ha _
end Go.Q.S14
end

section
/- The nearest centroids: what the document says. -/
set_option linter.unusedSimpArgs false
set_option linter.unusedVariables false
namespace Go.Q.S14
open Go.Q Go.Sort

/-! ### The repeated least -/
def bst (out : List Int) (D : Nat → Int) : Nat → Int
  | 0 => -1
  | i + 1 => if (i : Int) ∈ out then bst out D i else if 0 ≤ bst out D i ∧ D (bst out D i).toNat ≤ D i then bst out D i else i

theorem bst_spec (out : List Int) (D : Nat → Int) : ∀ i, (bst out D i = -1 ∧ ∀ i' < i, (i' : Int) ∈ out) ∨ ∃ b : Nat, bst out D i = b ∧ b < i ∧ (b : Int) ∉ out ∧ ∀ i' < i, (i' : Int) ∉ out → D b < D i' ∨ (D b = D i' ∧ b ≤ i')
  | 0 => .inl ⟨rfl, fun i' h => by omega⟩
  | i + 1 => by
    unfold bst
    by_cases hm : (i : Int) ∈ out
    · rw [if_pos hm]
      rcases bst_spec out D i with ⟨h1, h2⟩ | ⟨b, h1, h2, h3, h4⟩
      · refine .inl ⟨h1, fun i' h => ?_⟩
        by_cases hi : i' = i
        · subst hi; exact hm
        · exact h2 i' (by omega)
      · refine .inr ⟨b, h1, by omega, h3, fun i' h hn => ?_⟩
        by_cases hi : i' = i
        · subst hi; exact absurd hm hn
        · exact h4 i' (by omega) hn
    · rw [if_neg hm]
      rcases bst_spec out D i with ⟨h1, h2⟩ | ⟨b, h1, h2, h3, h4⟩
      · rw [h1, if_neg (by omega)]
        refine .inr ⟨i, rfl, by omega, hm, fun i' h hn => ?_⟩
        by_cases hi : i' = i
        · subst hi; exact .inr ⟨rfl, Nat.le_refl _⟩
        · exact absurd (h2 i' (by omega)) hn
      · rw [h1]
        by_cases hd : D b ≤ D i
        · rw [if_pos ⟨by omega, by simpa using hd⟩]
          refine .inr ⟨b, rfl, by omega, h3, fun i' h hn => ?_⟩
          by_cases hi : i' = i
          · subst hi; omega
          · exact h4 i' (by omega) hn
        · rw [if_neg (by rintro ⟨-, h⟩; exact hd (by simpa using h))]
          refine .inr ⟨i, rfl, by omega, hm, fun i' h hn => ?_⟩
          by_cases hi : i' = i
          · subst hi; exact .inr ⟨rfl, Nat.le_refl _⟩
          · have := h4 i' (by omega) hn; omega

def dis (q : Vc) (c : List Vc) (i : Nat) : Int := distI ((c[i]?).getD none) q
theorem ct_get {q : Vc} {c : List Vc} {h : Hit} (hh : h ∈ ctH q c 0) : ∃ x : Nat, x < c.length ∧ h = ⟨x, dis q c x⟩ := by
  obtain ⟨i, hi, rfl⟩ := List.mem_iff_getElem.1 hh
  rw [ctH_len] at hi
  have := ctH_get q c i hi
  rw [List.getElem?_eq_getElem (by rw [ctH_len]; exact hi)] at this
  refine ⟨i, hi, ?_⟩
  rw [Option.some.inj this]
  simp [dis, hi]
theorem ct_mem (q : Vc) (c : List Vc) (x : Nat) (h : x < c.length) : (⟨x, dis q c x⟩ : Hit) ∈ ctH q c 0 := by
  have := ctH_get q c x h
  have := List.mem_of_getElem? this
  simpa [dis, h] using this
theorem ct_nodup (q : Vc) (c : List Vc) : ((srt (ctH q c 0)).map (·.id)).Nodup := by
  refine ((srt_perm _).map _).nodup_iff.2 ?_
  have : (ctH q c 0).map (·.id) = (List.range c.length).map (fun i : Nat => (i : Int)) := by
    refine List.ext_getElem? fun i => ?_
    simp only [List.getElem?_map, ctH, List.getElem?_zipIdx, List.map_map]
    by_cases h : i < c.length
    · simp [h]
    · simp [h]
  rw [this]
  unfold List.Nodup
  rw [List.pairwise_map]
  exact List.nodup_range.imp (fun h e => h (by omega))

theorem pick_bst (q : Vc) (c : List Vc) (P R : List Hit) (h : Hit) (hp : (P ++ h :: R).Perm (ctH q c 0)) (hs : Srt (P ++ h :: R)) (hnd : ((P ++ h :: R).map (·.id)).Nodup) : bst (P.map (·.id)) (dis q c) c.length = h.id := by
  have hm : h ∈ P ++ h :: R := by simp
  obtain ⟨x, hx, he⟩ := ct_get (hp.mem_iff.1 hm)
  simp only [List.map_append, List.map_cons, List.nodup_append, List.mem_cons, List.mem_map, List.mem_append] at hnd
  have hxo : (x : Int) ∉ P.map (·.id) := by
    intro hc
    obtain ⟨g, hg, e⟩ := List.mem_map.1 hc
    exact hnd.2.2 g.id ⟨g, hg, rfl⟩ h.id (.inl rfl) (by rw [he, e])
  rcases bst_spec (P.map (·.id)) (dis q c) c.length with ⟨h1, h2⟩ | ⟨b, h1, h2, h3, h4⟩
  · exact absurd (h2 x hx) hxo
  · rw [h1, he]
    have hb := hp.mem_iff.2 (ct_mem q c b h2)
    rcases List.mem_append.1 hb with hb | hb
    · exact absurd (List.mem_map.2 ⟨_, hb, rfl⟩) h3
    · rcases List.mem_cons.1 hb with hb | hb
      · rw [he] at hb
        exact congrArg Hit.id hb
      · have h5 := (List.pairwise_cons.1 (List.pairwise_append.1 hs).2.1).1 _ hb
        have h6 := h4 x hx hxo
        rw [he] at h5
        unfold ahead at h5
        simp only [Bool.or_eq_false_iff, Bool.and_eq_false_iff, decide_eq_false_iff_not, beq_eq_false_iff_ne] at h5
        show (b : Int) = x
        omega

theorem near_bst (q : Vc) (c : List Vc) (j : Nat) (hj : j < (srt (ctH q c 0)).length) : bst (((srt (ctH q c 0)).take j).map (·.id)) (dis q c) c.length = ((srt (ctH q c 0))[j]).id := by
  have hsp : (srt (ctH q c 0)).take j ++ (srt (ctH q c 0))[j] :: (srt (ctH q c 0)).drop (j + 1) = srt (ctH q c 0) := by rw [← List.drop_eq_getElem_cons (by omega), List.take_append_drop]
  exact pick_bst q c _ ((srt (ctH q c 0)).drop (j + 1)) _ (by rw [hsp]; exact srt_perm _) (by rw [hsp]; exact srt_srt _) (by rw [hsp]; exact ct_nodup q c)

theorem r27 (o : Option (List Int)) (x : Int) (hl : (lst o).length < 9223372036854775808) : res T 27 [slV 1 iV o, .int .i64 x] = some (.bool (decide (x ∈ lst o))) := by
  refine run_res (run_pure (fn := g27) rfl rfl (by decide) ?_)
  simp only [g27, b27]
  simp +contextual -implicitDefEqProofs (maxSteps := 2000000) only [↓wP, wQ, wQ1, wQ2, wQ3, wR, boxE, partsOf, ↓reduceIte, Nat.reduceEqDiff, Nat.reduceAdd, Nat.reduceSub, Nat.reduceLeDiff, Nat.reduceLT, Nat.reduceMul, reduceCtorEq, Int.reduceBNe, Int.reduceBEq, Int.reduceLT, Int.reduceLE, Int.reduceGT]
  refine WC_for (lst o).length 0 (fun (j : Nat) env _ _ => env 1 = .int .i64 x ∧ env 7 = slV 1 iV o ∧ decide (x ∈ lst o) = decide (x ∈ (lst o).drop j)) (by omega) (by decide) (by decide) (fun _ _ => rfl) (fun _ _ _ => rfl) ?_ ?_ _ _ _ rfl rfl ?_
  · intro j env σ n hj h1 h2 ⟨h3, h4, h5⟩
    simp only [vl_tmp] at h2
    have hx : (lst o)[j]? = some (lst o)[j] := List.getElem?_eq_getElem hj
    rw [List.drop_eq_getElem_cons hj] at h5
    generalize (lst o)[j] = y at *
    by_cases he : y = x
    · subst he
      simp +contextual -implicitDefEqProofs (maxSteps := 2000000) only [↓wP, wQ, wQ1, wQ2, wQ3, wR, boxE, partsOf, ↓reduceIte, Nat.reduceEqDiff, Nat.reduceAdd, Nat.reduceSub, Nat.reduceLeDiff, Nat.reduceLT, Nat.reduceMul, reduceCtorEq, Int.reduceBNe, Int.reduceBEq, Int.reduceLT, Int.reduceLE, Int.reduceGT, h1, h2, h3, h4, hx, iV_eq]
      rw [h5]; simp
    · have he' : (y == x) = false := by simpa using he
      simp +contextual -implicitDefEqProofs (maxSteps := 2000000) only [↓wP, wQ, wQ1, wQ2, wQ3, wR, boxE, partsOf, ↓reduceIte, Nat.reduceEqDiff, Nat.reduceAdd, Nat.reduceSub, Nat.reduceLeDiff, Nat.reduceLT, Nat.reduceMul, reduceCtorEq, Int.reduceBNe, Int.reduceBEq, Int.reduceLT, Int.reduceLE, Int.reduceGT, h1, h2, h3, h4, hx, iV_eq, he']
      rw [h5]; simp [Ne.symm he]
  · intro env σ n ⟨h3, h4, h5⟩ h1 h2
    rw [List.drop_length] at h5
    simp +contextual -implicitDefEqProofs (maxSteps := 2000000) only [↓wP, wQ, wQ1, wQ2, wQ3, wR, boxE, partsOf, ↓reduceIte, Nat.reduceEqDiff, Nat.reduceAdd, Nat.reduceSub, Nat.reduceLeDiff, Nat.reduceLT, Nat.reduceMul, reduceCtorEq, Int.reduceBNe, Int.reduceBEq, Int.reduceLT, Int.reduceLE, Int.reduceGT]
    rw [h5]; rfl
  · simp +contextual -implicitDefEqProofs (maxSteps := 2000000) only [↓wP, wQ, wQ1, wQ2, wQ3, wR, boxE, partsOf, ↓reduceIte, Nat.reduceEqDiff, Nat.reduceAdd, Nat.reduceSub, Nat.reduceLeDiff, Nat.reduceLT, Nat.reduceMul, reduceCtorEq, Int.reduceBNe, Int.reduceBEq, Int.reduceLT, Int.reduceLE, Int.reduceGT]

theorem f27 (o : Option (List Int)) (x : Int) (hl : (lst o).length < 9223372036854775808) (fs : Bool) (σ : Sto) (n lk : Nat) : callE T fs 27 [slV 1 iV o, .int .i64 x] σ n lk = some (.bool (decide (x ∈ lst o)), σ, n) :=
  callE_tr (by decide) (r27 o x hl) (by simp [Tr, Tr_slV]) rfl fs σ n lk
theorem f27p {σ : Sto} {m n : Nat} {v : V} {l : List Int} (h : Pl σ m n 1 v (oL (l.map iV))) (x : Int) (hl : l.length < 1000000) (fs : Bool) (n' lk : Nat) : callE T fs 27 [v, .int .i64 x] σ n' lk = some (.bool (decide (x ∈ l)), σ, n') := by
  have hf := h.frz (fun x hx => by rw [lst_oL] at hx; obtain ⟨y, -, rfl⟩ := List.mem_map.1 hx; rfl) (fun x hx c hc => by
    rw [lst_oL] at hx; obtain ⟨y, -, rfl⟩ := List.mem_map.1 hx
    simp only [iV, V.cells, List.mem_cons, List.not_mem_nil, or_false] at hc
    subst hc; rfl)
  have e : [v, V.int .i64 x].mapM (frz σ 12) = some [slV 1 iV (oL l), .int .i64 x] := by
    rw [slV_oL] at hf
    simp only [List.mapM_cons, List.mapM_nil, hf, frz_int]; rfl
  have r := r27 (oL l) x (by rw [lst_oL]; omega)
  rw [lst_oL] at r
  rw [callE_flat (by decide) e r rfl]; rfl
end Go.Q.S14
end

section
/- The nearest centroids: the document's walk. -/
set_option linter.unusedSimpArgs false
set_option linter.unusedVariables false
namespace Go.Q.S14
open Go.Q Go.Sort

theorem r12 (c : Option (List Vc)) (q : Vc) (m : Int) (hl : (lst c).length ≤ 7) (h2 : ∀ v ∈ lst c, Two v q) (hm : 1 ≤ m) : res T 12 [slV 1 vecV c, slV 1 i32V q, .int .i64 m] = some (slV 1 iV (oL (near q (lst c) m))) := by
  refine run_res (run_pure (fn := g12) rfl rfl (by decide) ?_)
  simp only [g12, b12]
  obtain ⟨S, hS⟩ : ∃ S, S = srt (ctH q (lst c) 0) := ⟨_, rfl⟩
  have hlen : S.length = (lst c).length := by rw [hS, srt_len, ctH_len]
  have hb := near_bst q (lst c)
  rw [← hS] at hb
  unfold near
  rw [← hS]
  clear hS
  obtain ⟨N, hN⟩ : ∃ N, N = min m.toNat (lst c).length := ⟨_, rfl⟩
  have hmin : (if ((lst c).length : Int) < m then ((lst c).length : Int) else m) = (N : Int) := by split <;> omega
  simp +contextual -implicitDefEqProofs (maxSteps := 2000000) only [↓wP, wQ, wQ1, wQ2, wQ3, wR, boxE, partsOf, ↓reduceIte, Nat.reduceEqDiff, Nat.reduceAdd, Nat.reduceSub, Nat.reduceLeDiff, Nat.reduceLT, Nat.reduceMul, reduceCtorEq, Int.reduceBNe, Int.reduceBEq, Int.reduceLT, Int.reduceLE, Int.reduceGT]
  refine WC_loopI 0 (fun (j : Nat) env σ n => j ≤ N ∧ env 0 = slV 1 vecV c ∧ env 1 = slV 1 i32V q ∧ env 2 = .int .i64 m ∧ ∃ v, env 7 = v ∧ Pl σ 0 n 1 v (oL (((S.take j).map (·.id)).map iV))) (fun j => N - j) ?_ 0 _ _ _ ?_
  · intro j env σ n ⟨g1, g2, g3, g4, v, g5, g6⟩
    have hc := g6.cells
    have ho := g6.one
    have hjl : ((S.take j).map (·.id)).length = j := by rw [List.length_map, List.length_take]; omega
    have hle : lenE v = some (.int .i64 (j : Int)) := by
      have : (((S.take j).map (·.id)).map iV).length = j := by rw [List.length_map, hjl]
      cases ho' : oL (((S.take j).map (·.id)).map iV) with
      | none => 
        rw [ho'] at g6; simp only [Pl] at g6; subst g6
        cases hx : ((S.take j).map (·.id)).map iV with
        | nil => rw [hx] at this; simp at this; subst this; rfl
        | cons a b => rw [hx] at ho'; cases ho'
      | some xs =>
        rw [ho'] at g6; obtain ⟨i, rfl, -⟩ := g6
        have e : xs = ((S.take j).map (·.id)).map iV := by have := congrArg lst ho'; rw [lst_oL] at this; exact this.symm
        rw [e, this]; rfl
    by_cases hj : j < N
    · have hj' : (j : Int) < (N : Int) := by omega
      simp +contextual -implicitDefEqProofs (maxSteps := 2000000) only [↓wP, wQ, wQ1, wQ2, wQ3, wR, boxE, partsOf, ↓reduceIte, Nat.reduceEqDiff, Nat.reduceAdd, Nat.reduceSub, Nat.reduceLeDiff, Nat.reduceLT, Nat.reduceMul, reduceCtorEq, Int.reduceBNe, Int.reduceBEq, Int.reduceLT, Int.reduceLE, Int.reduceGT, g2, g3, g4, g5, hle, hj', hmin]
      obtain ⟨out, hout⟩ : ∃ out, out = (S.take j).map (·.id) := ⟨_, rfl⟩
      rw [← hout] at g6 hjl
      refine WC_for (lst c).length 0 (fun (i : Nat) env σ' n' => σ' = σ ∧ n' = n ∧ env 0 = slV 1 vecV c ∧ env 1 = slV 1 i32V q ∧ env 2 = .int .i64 m ∧ env 7 = v ∧ env 8 = .int .i64 (bst out (dis q (lst c)) i)) (by omega) (by decide) (by decide) (fun _ _ => rfl) (fun _ _ _ => rfl) ?_ ?_ _ _ _ rfl rfl ?_
      · intro i env σ' n' hi e1 e2 ⟨k1, k2, k3, k4, k5, k6, k7⟩
        subst k1 k2
        simp only [vl_tmp] at e2
        have f27' := f27p g6 (i : Int) (by omega)
        have hx : (lst c)[i]? = some (lst c)[i] := List.getElem?_eq_getElem hi
        have hst : bst out (dis q (lst c)) (i + 1) = if (i : Int) ∈ out then bst out (dis q (lst c)) i else if 0 ≤ bst out (dis q (lst c)) i ∧ dis q (lst c) (bst out (dis q (lst c)) i).toNat ≤ dis q (lst c) i then bst out (dis q (lst c)) i else i := rfl
        rcases bst_spec out (dis q (lst c)) i with ⟨b1, -⟩ | ⟨b, b1, b2, -, -⟩
        · rw [b1] at k7 hst
          by_cases hm : (i : Int) ∈ out
          · rw [if_pos hm] at hst
            simp +contextual -implicitDefEqProofs (maxSteps := 2000000) only [↓wP, wQ, wQ1, wQ2, wQ3, wR, boxE, partsOf, ↓reduceIte, Nat.reduceEqDiff, Nat.reduceAdd, Nat.reduceSub, Nat.reduceLeDiff, Nat.reduceLT, Nat.reduceMul, reduceCtorEq, Int.reduceBNe, Int.reduceBEq, Int.reduceLT, Int.reduceLE, Int.reduceGT, e1, e2, k3, k4, k5, k6, k7, f27', hm]
            exact congrArg (V.int .i64) hst.symm
          · rw [if_neg hm, if_neg (by omega)] at hst
            have z : (0 : Int) ≤ -1 ↔ False := by decide
            simp +contextual -implicitDefEqProofs (maxSteps := 2000000) only [↓wP, wQ, wQ1, wQ2, wQ3, wR, boxE, partsOf, ↓reduceIte, Nat.reduceEqDiff, Nat.reduceAdd, Nat.reduceSub, Nat.reduceLeDiff, Nat.reduceLT, Nat.reduceMul, reduceCtorEq, Int.reduceBNe, Int.reduceBEq, Int.reduceLT, Int.reduceLE, Int.reduceGT, e1, e2, k3, k4, k5, k6, k7, f27', hm, z]
            exact congrArg (V.int .i64) hst.symm
        · rw [b1] at k7 hst
          by_cases hm : (i : Int) ∈ out
          · rw [if_pos hm] at hst
            simp +contextual -implicitDefEqProofs (maxSteps := 2000000) only [↓wP, wQ, wQ1, wQ2, wQ3, wR, boxE, partsOf, ↓reduceIte, Nat.reduceEqDiff, Nat.reduceAdd, Nat.reduceSub, Nat.reduceLeDiff, Nat.reduceLT, Nat.reduceMul, reduceCtorEq, Int.reduceBNe, Int.reduceBEq, Int.reduceLT, Int.reduceLE, Int.reduceGT, e1, e2, k3, k4, k5, k6, k7, f27', hm]
            exact congrArg (V.int .i64) hst.symm
          · rw [if_neg hm] at hst
            have hbl : b < (lst c).length := by omega
            have hxb : (lst c)[b]? = some (lst c)[b] := List.getElem?_eq_getElem hbl
            have d1 := f28 (lst c)[i] q (h2 _ (List.getElem_mem hi))
            have d2 := f28 (lst c)[b] q (h2 _ (List.getElem_mem hbl))
            have q1 : dis q (lst c) i = distI (lst c)[i] q := by simp [dis, hi]
            have q2 : dis q (lst c) b = distI (lst c)[b] q := by simp [dis, hbl]
            have z : (0 : Int) ≤ (b : Int) := by omega
            rw [Int.toNat_natCast, q1, q2] at hst
            generalize (lst c)[i] = x at *
            generalize (lst c)[b] = y at *
            by_cases hd : distI y q ≤ distI x q
            · rw [if_pos ⟨z, hd⟩] at hst
              simp +contextual -implicitDefEqProofs (maxSteps := 2000000) only [↓wP, wQ, wQ1, wQ2, wQ3, wR, boxE, partsOf, ↓reduceIte, Nat.reduceEqDiff, Nat.reduceAdd, Nat.reduceSub, Nat.reduceLeDiff, Nat.reduceLT, Nat.reduceMul, reduceCtorEq, Int.reduceBNe, Int.reduceBEq, Int.reduceLT, Int.reduceLE, Int.reduceGT, e1, e2, k3, k4, k5, k6, k7, f27', hm, z, hx, hxb, vecV_eq, d1, d2, hd]
              exact congrArg (V.int .i64) hst.symm
            · rw [if_neg (by rintro ⟨-, h⟩; exact hd h)] at hst
              simp +contextual -implicitDefEqProofs (maxSteps := 2000000) only [↓wP, wQ, wQ1, wQ2, wQ3, wR, boxE, partsOf, ↓reduceIte, Nat.reduceEqDiff, Nat.reduceAdd, Nat.reduceSub, Nat.reduceLeDiff, Nat.reduceLT, Nat.reduceMul, reduceCtorEq, Int.reduceBNe, Int.reduceBEq, Int.reduceLT, Int.reduceLE, Int.reduceGT, e1, e2, k3, k4, k5, k6, k7, f27', hm, z, hx, hxb, vecV_eq, d1, d2, hd]
              exact congrArg (V.int .i64) hst.symm
      · intro env σ' n' ⟨k1, k2, k3, k4, k5, k6, k7⟩ e1 e2
        subst k1 k2
        have hbj := hb j (by omega)
        rw [← hout] at hbj
        rw [hbj] at k7
        simp +contextual -implicitDefEqProofs (maxSteps := 2000000) only [↓wP, wQ, wQ1, wQ2, wQ3, wR, boxE, partsOf, ↓reduceIte, Nat.reduceEqDiff, Nat.reduceAdd, Nat.reduceSub, Nat.reduceLeDiff, Nat.reduceLT, Nat.reduceMul, reduceCtorEq, Int.reduceBNe, Int.reduceBEq, Int.reduceLT, Int.reduceLE, Int.reduceGT, k3, k4, k5, k6, k7]
        have hlen1 : (out.map iV).length = j := by rw [List.length_map, hjl]
        refine stepW_app1 (m := 0) (n0 := n') (σ0 := σ') (o := oL (out.map iV)) g6 (fun i a1 a2 => ?_) (by omega) (by omega) (Nat.zero_le _) ?_ (fun _ σ2 a1 a2 => ?_)
        · have a3 : i ≠ n' := by omega
          simp [upd, a3]
        · rw [lst_oL, hlen1]; unfold LIM; omega
        · rw [lst_oL, hlen1] at a1 ⊢
          simp +contextual -implicitDefEqProofs (maxSteps := 2000000) only [↓wP, wQ, wQ1, wQ2, wQ3, wR, boxE, partsOf, ↓reduceIte, Nat.reduceEqDiff, Nat.reduceAdd, Nat.reduceSub, Nat.reduceLeDiff, Nat.reduceLT, Nat.reduceMul, reduceCtorEq, Int.reduceBNe, Int.reduceBEq, Int.reduceLT, Int.reduceLE, Int.reduceGT, k3, k4, k5, k6]
          refine ⟨j + 1, by omega, by omega, _, rfl, ?_⟩
          have eo : oL (((S.take (j + 1)).map (·.id)).map iV) = some (out.map iV ++ [.int .i64 (S[j]'(by omega)).id]) := by
            rw [show S.take (j + 1) = S.take j ++ [S[j]'(by omega)] from (List.take_append_getElem (by omega)).symm, List.map_append, ← hout]
            rw [List.map_append]
            cases out <;> rfl
          rw [eo]
          exact a1
      · simp +contextual -implicitDefEqProofs (maxSteps := 2000000) only [↓wP, wQ, wQ1, wQ2, wQ3, wR, boxE, partsOf, ↓reduceIte, Nat.reduceEqDiff, Nat.reduceAdd, Nat.reduceSub, Nat.reduceLeDiff, Nat.reduceLT, Nat.reduceMul, reduceCtorEq, Int.reduceBNe, Int.reduceBEq, Int.reduceLT, Int.reduceLE, Int.reduceGT, g2, g3, g4, g5]
        rfl
    · have hj' : ¬ (j : Int) < (N : Int) := by omega
      simp +contextual -implicitDefEqProofs (maxSteps := 2000000) only [↓wP, wQ, wQ1, wQ2, wQ3, wR, boxE, partsOf, ↓reduceIte, Nat.reduceEqDiff, Nat.reduceAdd, Nat.reduceSub, Nat.reduceLeDiff, Nat.reduceLT, Nat.reduceMul, reduceCtorEq, Int.reduceBNe, Int.reduceBEq, Int.reduceLT, Int.reduceLE, Int.reduceGT, g2, g3, g4, g5, hle, hj', hmin]
      have e : S.take m.toNat = S.take j := by
        by_cases hmj : m.toNat ≤ (lst c).length
        · rw [show m.toNat = j by omega]
        · rw [List.take_of_length_le (by omega), List.take_of_length_le (by omega)]
      rw [e]
      have hf := g6.frz (fun x hx => by rw [lst_oL] at hx; obtain ⟨y, -, rfl⟩ := List.mem_map.1 hx; rfl) (fun x hx c hc => by
        rw [lst_oL] at hx; obtain ⟨y, -, rfl⟩ := List.mem_map.1 hx
        simp only [iV, V.cells, List.mem_cons, List.not_mem_nil, or_false] at hc
        subst hc; rfl)
      rw [hf, slV_oL]
  · simp +contextual -implicitDefEqProofs (maxSteps := 2000000) only [↓wP, wQ, wQ1, wQ2, wQ3, wR, boxE, partsOf, ↓reduceIte, Nat.reduceEqDiff, Nat.reduceAdd, Nat.reduceSub, Nat.reduceLeDiff, Nat.reduceLT, Nat.reduceMul, reduceCtorEq, Int.reduceBNe, Int.reduceBEq, Int.reduceLT, Int.reduceLE, Int.reduceGT]
    simp [oL, Pl]
theorem f12 (c : Option (List Vc)) (q : Vc) (m : Int) (hl : (lst c).length ≤ 7) (h2 : ∀ v ∈ lst c, Two v q) (hm : 1 ≤ m) (fs : Bool) (σ : Sto) (n lk : Nat) :
    callE T fs 12 [slV 1 vecV c, slV 1 i32V q, .int .i64 m] σ n lk = some (slV 1 iV (oL (near q (lst c) m)), σ, n) :=
  callE_tr (by decide) (r12 c q m hl h2 hm) (by simp [Tr, Tr_slV]) (Nw_slV _ _ _ _) fs σ n lk
end Go.Q.S14
end

section
/- Vectors that can be gone through. -/
set_option linter.unusedSimpArgs false
set_option linter.unusedVariables false
namespace Go.Q.S14
open Go.Q Go.Sort

theorem r9 (v : Vc) (hv : Sm v) : res T 9 [slV 1 i32V v] = some (slV 1 i32V (some ((lst v).take 5))) := by
  refine run_res (run_pure (fn := g9) rfl rfl (by decide) ?_)
  simp only [g9, b9]
  obtain ⟨N, hN⟩ : ∃ N, N = min (lst v).length 5 := ⟨_, rfl⟩
  have hmin : (if (5 : Int) < ((lst v).length : Int) then (5 : Int) else ((lst v).length : Int)) = (N : Int) := by split <;> omega
  unfold Sm at hv
  have hNl : N ≤ (lst v).length := by omega
  have hs : lst (sub v 0 N) = (lst v).take 5 := by
    rw [show (lst v).take 5 = (lst v).take N by rw [hN]; exact (List.take_eq_take_min).trans (by rw [Nat.min_comm])]
    cases v <;> simp [sub, lst]
  have hl5 : ((lst v).take 5).length ≤ 5 := by rw [List.length_take]; omega
  have hL : (((lst v).take 5).map i32V).length * 4 ≤ LIM := by rw [List.length_map]; unfold LIM; omega
  generalize (lst v).take 5 = L at *
  simp +contextual -implicitDefEqProofs (maxSteps := 2000000) only [↓wP, wQ, wQ1, wQ2, wQ3, wR, boxE, partsOf, ↓reduceIte, Nat.reduceEqDiff, Nat.reduceAdd, Nat.reduceSub, Nat.reduceLeDiff, Nat.reduceLT, Nat.reduceMul, reduceCtorEq, Int.reduceBNe, Int.reduceBEq, Int.reduceLT, Int.reduceLE, Int.reduceGT, hmin, hNl, hs, hL, true_or]
  have e1 : elems (upd (upd (upd Sto.empty 0 (some (Ob.row 1 []))) 0 none) 1 (some (Ob.row 1 (L.map i32V)))) 1 (.ref 1 0 (L.map i32V).length 1) = some (L.map i32V) := by simp [elems, upd]; exact List.take_of_length_le (by simp)
  show (elems _ _ _).bind _ = _
  rw [e1, Option.bind_some, mapM_id (fun x hx => by obtain ⟨y, -, rfl⟩ := List.mem_map.1 hx; rfl)]
  rfl
def cut (v : Vc) : Vc := some ((lst v).take 5)
theorem f9 (v : Vc) (hv : Sm v) (fs : Bool) (σ : Sto) (n lk : Nat) : callE T fs 9 [slV 1 i32V v] σ n lk = some (slV 1 i32V (cut v), σ, n) :=
  callE_tr (by decide) (r9 v hv) (by simp [Tr, Tr_slV]) (Nw_slV _ _ _ _) fs σ n lk

theorem spl {σ : Sto} {m n sz : Nat} {v : V} {o : Option (List V)} (h : Pl σ m n sz v o) (c : V) : spliceC v 0 [c] = c := by
  cases o with
  | none => simp only [Pl] at h; subst h; rfl
  | some xs => obtain ⟨j, rfl, -⟩ := h; rfl
def cutV (l : Option (List Vc)) : Option (List Vc) := oL (((lst l).take 7).map cut)
theorem r8 (l : Option (List Vc)) (hl : (lst l).length < 4611686018427387904) (hv : ∀ v ∈ lst l, Sm v) : res T 8 [slV 1 vecV l] = some (slV 1 vecV (cutV l)) := by
  refine run_res (run_pure (fn := g8) rfl rfl (by decide) ?_)
  simp only [g8, b8]
  simp +contextual -implicitDefEqProofs (maxSteps := 2000000) only [↓wP, wQ, wQ1, wQ2, wQ3, wR, boxE, partsOf, ↓reduceIte, Nat.reduceEqDiff, Nat.reduceAdd, Nat.reduceSub, Nat.reduceLeDiff, Nat.reduceLT, Nat.reduceMul, reduceCtorEq, Int.reduceBNe, Int.reduceBEq, Int.reduceLT, Int.reduceLE, Int.reduceGT]
  refine WC_for (lst l).length 0 (fun (j : Nat) env σ n => env 6 = slV 1 vecV l ∧ ∃ v, env 3 = v ∧ Pl σ 0 n 1 v (oL ((((lst l).take (min j 7)).map cut).map vecV))) (by omega) (by decide) (by decide) (fun _ _ => rfl) (fun _ _ _ => rfl) ?_ ?_ _ _ _ rfl rfl ?_
  · intro j env σ n hj h1 h2 ⟨h3, v, h4, h5⟩
    simp only [vl_tmp] at h2
    have hx : (lst l)[j]? = some (lst l)[j] := List.getElem?_eq_getElem hj
    have f := f9 _ (hv _ (List.getElem_mem hj))
    have ht : (lst l).take (j + 1) = (lst l).take j ++ [(lst l)[j]] := (List.take_append_getElem hj).symm
    generalize (lst l)[j] = x at *
    have hc := h5.cells
    have ho := h5.one
    have hsp := spl h5
    by_cases h6 : (j : Int) ≤ 6
    · rw [show min j 7 = j by omega] at h5
      have hlen : ((((lst l).take j).map cut).map vecV).length = j := by rw [List.length_map, List.length_map, List.length_take]; omega
      simp +contextual -implicitDefEqProofs (maxSteps := 2000000) only [↓wP, wQ, wQ1, wQ2, wQ3, wR, boxE, partsOf, ↓reduceIte, Nat.reduceEqDiff, Nat.reduceAdd, Nat.reduceSub, Nat.reduceLeDiff, Nat.reduceLT, Nat.reduceMul, reduceCtorEq, Int.reduceBNe, Int.reduceBEq, Int.reduceLT, Int.reduceLE, Int.reduceGT, h1, h2, h3, h4, hx, vecV_eq, h6, f]
      refine stepW_app1 (m := 0) (n0 := n) (σ0 := σ) h5 (fun i g1 g2 => ?_) (by omega) (by omega) (Nat.zero_le _) ?_ (fun _ σ2 g1 g2 => ?_)
      · have a1 : i ≠ n := by omega
        simp [upd, a1]
      · rw [lst_oL, hlen]; unfold LIM; omega
      · rw [lst_oL, hlen] at g1 ⊢
        simp +contextual -implicitDefEqProofs (maxSteps := 2000000) only [↓wP, wQ, wQ1, wQ2, wQ3, wR, boxE, partsOf, ↓reduceIte, Nat.reduceEqDiff, Nat.reduceAdd, Nat.reduceSub, Nat.reduceLeDiff, Nat.reduceLT, Nat.reduceMul, reduceCtorEq, Int.reduceBNe, Int.reduceBEq, Int.reduceLT, Int.reduceLE, Int.reduceGT, h1, h2, h3, hc, hsp]
        refine ⟨_, rfl, ?_⟩
        rw [show min (j + 1) 7 = j + 1 by omega, ht, List.map_append, List.map_append]
        have eo : oL (((lst l).take j).map cut |>.map vecV) = oL (((lst l).take j).map cut |>.map vecV) := rfl
        have e2 : oL ((((lst l).take j).map cut).map vecV ++ [vecV (cut x)]) = some ((((lst l).take j).map cut).map vecV ++ [vecV (cut x)]) := by
          cases ((lst l).take j) <;> rfl
        simp only [List.map_cons, List.map_nil]
        rw [e2]
        exact g1
    · simp +contextual -implicitDefEqProofs (maxSteps := 2000000) only [↓wP, wQ, wQ1, wQ2, wQ3, wR, boxE, partsOf, ↓reduceIte, Nat.reduceEqDiff, Nat.reduceAdd, Nat.reduceSub, Nat.reduceLeDiff, Nat.reduceLT, Nat.reduceMul, reduceCtorEq, Int.reduceBNe, Int.reduceBEq, Int.reduceLT, Int.reduceLE, Int.reduceGT, h1, h2, h3, h4, hx, vecV_eq, h6]
      rw [show min (j + 1) 7 = min j 7 by omega]
      exact ⟨_, rfl, h5⟩
  · intro env σ n ⟨h3, v, h4, h5⟩ h1 h2
    simp +contextual -implicitDefEqProofs (maxSteps := 2000000) only [↓wP, wQ, wQ1, wQ2, wQ3, wR, boxE, partsOf, ↓reduceIte, Nat.reduceEqDiff, Nat.reduceAdd, Nat.reduceSub, Nat.reduceLeDiff, Nat.reduceLT, Nat.reduceMul, reduceCtorEq, Int.reduceBNe, Int.reduceBEq, Int.reduceLT, Int.reduceLE, Int.reduceGT, h4]
    have hf := h5.frz (fun x hx => by rw [lst_oL] at hx; obtain ⟨y, -, rfl⟩ := List.mem_map.1 hx; exact Tr_slV _ _ _ _) (fun x hx c hc => by
        rw [lst_oL] at hx; obtain ⟨y, -, rfl⟩ := List.mem_map.1 hx
        rw [vecV_eq, cl_slV, List.mem_singleton] at hc
        subst hc; exact Tr_slV _ _ _ _)
    rw [hf, slV_oL]
    have : (lst l).take (min (lst l).length 7) = (lst l).take 7 := by rw [Nat.min_comm]; exact List.take_eq_take_min.symm
    rw [this]; rfl
  · simp +contextual -implicitDefEqProofs (maxSteps := 2000000) only [↓wP, wQ, wQ1, wQ2, wQ3, wR, boxE, partsOf, ↓reduceIte, Nat.reduceEqDiff, Nat.reduceAdd, Nat.reduceSub, Nat.reduceLeDiff, Nat.reduceLT, Nat.reduceMul, reduceCtorEq, Int.reduceBNe, Int.reduceBEq, Int.reduceLT, Int.reduceLE, Int.reduceGT]
    simp [oL, Pl]
theorem f8 (l : Option (List Vc)) (hl : (lst l).length < 4611686018427387904) (hv : ∀ v ∈ lst l, Sm v) (fs : Bool) (σ : Sto) (n lk : Nat) : callE T fs 8 [slV 1 vecV l] σ n lk = some (slV 1 vecV (cutV l), σ, n) :=
  callE_tr (by decide) (r8 l hl hv) (by simp [Tr, Tr_slV]) (Nw_slV _ _ _ _) fs σ n lk
theorem cut_sm (v : Vc) : Sm (cut v) := by unfold Sm cut; rw [lst_some, List.length_take]; omega
theorem cutV_len (l : Option (List Vc)) : (lst (cutV l)).length ≤ 7 := by unfold cutV; rw [lst_oL, List.length_map, List.length_take]; omega
theorem cutV_sm (l : Option (List Vc)) : ∀ v ∈ lst (cutV l), Sm v := by
  intro v hv
  unfold cutV at hv
  rw [lst_oL] at hv
  obtain ⟨x, -, rfl⟩ := List.mem_map.1 hv
  exact cut_sm x

/-- What a call hands back: the places. -/
theorem f10 (c : Option (List Vc)) (v : Vc) (m : Int) (hl : (lst c).length ≤ 7) (hv : ∀ v ∈ lst c, Sm v) (hv' : Sm v) (fs : Bool) (σ : Sto) (n lk : Nat) :
    ∃ L, L = (if nrE c v m = 0 then near v (lst c) m else []) ∧ callE T fs 10 [slV 1 vecV c, slV 1 i32V v, .int .i64 m] σ n lk = some (.tup [iVal n L, .int .i64 (nrE c v m)], iSto σ n L, iN n L) := by
  refine ⟨_, rfl, ?_⟩
  have r := r10 c v m hl hv hv'
  have e : [slV 1 vecV c, slV 1 i32V v, .int .i64 m].mapM (frz σ 12) = some [slV 1 vecV c, slV 1 i32V v, .int .i64 m] := by
    simp only [List.mapM_cons, List.mapM_nil, frz_slV, frz_int]; rfl
  rw [callE_flat (by decide) e r (flat_tup2 (flat_ownI _) rfl), thaw_tup, thawL_cons, thaw_ownI]
  rfl
end Go.Q.S14
end

section
/- The law of the nearest centroids. -/
set_option linter.unusedSimpArgs false
set_option linter.unusedVariables false
namespace Go.Q.S14
open Go.Q Go.Sort

theorem nr0 {c : Option (List Vc)} {v : Vc} {m : Int} (h : nrE c v m = 0) : 1 ≤ m ∧ okV v = true ∧ cents c = true ∧ dm c = (lst v).length ∧ lst c ≠ [] := by
  unfold nrE at h
  by_cases ha : askE m = 0
  · rw [if_neg (by omega)] at h
    have hm : 1 ≤ m := by unfold askE at ha; split at ha; cases ha; omega
    cases ho : okV v
    · rw [ho] at h; cases h
    · rw [ho, if_pos rfl] at h
      unfold cnE at h
      by_cases ht : trE c = 0
      · rw [if_neg (by omega)] at h
        have hne : lst c ≠ [] := by intro h; unfold trE at ht; rw [if_pos h] at ht; cases ht
        have hc : cents c = true := by
          unfold trE at ht; rw [if_neg hne] at ht
          cases h : cents c
          · rw [h] at ht; cases ht
          · rfl
        by_cases hd : dm c = (lst v).length
        · exact ⟨hm, rfl, hc, hd, hne⟩
        · rw [if_neg hd] at h; cases h
      · rw [if_pos ht] at h; exact absurd h ht
  · rw [if_pos ha] at h; exact absurd h ha
theorem cents_mem {c : Option (List Vc)} (hc : cents c = true) : ∀ x ∈ lst c, okV x = true ∧ (lst x).length = dm c := by
  unfold cents at hc
  simp only [Bool.and_eq_true, decide_eq_true_eq] at hc
  intro v hv
  have := List.all_eq_true.1 hc.2 v hv
  simpa [okC] using this
theorem cents_len {c : Option (List Vc)} (hc : cents c = true) : (lst c).length ≤ 6 := by
  unfold cents at hc; simp only [Bool.and_eq_true, decide_eq_true_eq] at hc; exact hc.1
theorem nr_two {c : Option (List Vc)} {v : Vc} (hc : cents c = true) (ho : okV v = true) (hd : dm c = (lst v).length) : ∀ x ∈ lst c, Two x v :=
  fun x hx => ⟨(cents_mem hc x hx).1, ho, by rw [(cents_mem hc x hx).2, hd]⟩

theorem r3 (x l : Option (List Vc)) (ns : Option (List Int)) (hx : (lst x).length < 4611686018427387904) (hl : (lst l).length < 4611686018427387904) (hns : (lst ns).length < 4611686018427387904) (hxv : ∀ v ∈ lst x, Sm v) (hlv : ∀ v ∈ lst l, Sm v) : res T 3 [slV 1 vecV x, slV 1 vecV l, slV 1 iV ns] = some (.bool true) := by
  refine run_res (run_pure (fn := g3) rfl rfl (by decide) ?_)
  simp only [g3, b3]
  have c8 := f8 x hx hxv
  obtain ⟨c, hc⟩ : ∃ c, c = cutV x := ⟨_, rfl⟩
  have hcl : (lst c).length ≤ 7 := by rw [hc]; exact cutV_len x
  have hcv : ∀ v ∈ lst c, Sm v := by rw [hc]; exact cutV_sm x
  rw [← hc] at c8
  simp +contextual -implicitDefEqProofs (maxSteps := 2000000) only [↓wP, wQ, wQ1, wQ2, wQ3, wR, boxE, partsOf, ↓reduceIte, Nat.reduceEqDiff, Nat.reduceAdd, Nat.reduceSub, Nat.reduceLeDiff, Nat.reduceLT, Nat.reduceMul, reduceCtorEq, Int.reduceBNe, Int.reduceBEq, Int.reduceLT, Int.reduceLE, Int.reduceGT, f7, c8]
  refine WC_for (lst l).length 0 (fun (j : Nat) env σ n => env 2 = slV 1 iV ns ∧ env 7 = slV 1 vecV c ∧ env 21 = slV 1 vecV l) (by omega) (by decide) (by decide) (fun _ _ => rfl) (fun _ _ _ => rfl) ?_ ?_ _ _ _ rfl rfl ?_
  · intro j env σ n hj h1 h2 ⟨h3, h4, h5⟩
    simp only [vl_tmp] at h2
    have hx : (lst l)[j]? = some (lst l)[j] := List.getElem?_eq_getElem hj
    have f := f9 _ (hlv _ (List.getElem_mem hj))
    generalize (lst l)[j] = y at *
    by_cases h10 : (j : Int) = 10
    · have h10' : ((j : Int) == 10) = true := by simpa using h10
      simp +contextual -implicitDefEqProofs (maxSteps := 2000000) only [↓wP, wQ, wQ1, wQ2, wQ3, wR, boxE, partsOf, ↓reduceIte, Nat.reduceEqDiff, Nat.reduceAdd, Nat.reduceSub, Nat.reduceLeDiff, Nat.reduceLT, Nat.reduceMul, reduceCtorEq, Int.reduceBNe, Int.reduceBEq, Int.reduceLT, Int.reduceLE, Int.reduceGT, h1, h2, h3, h4, h5, hx, vecV_eq, h10']
    · have h10' : ((j : Int) == 10) = false := by simpa using h10
      simp +contextual -implicitDefEqProofs (maxSteps := 2000000) only [↓wP, wQ, wQ1, wQ2, wQ3, wR, boxE, partsOf, ↓reduceIte, Nat.reduceEqDiff, Nat.reduceAdd, Nat.reduceSub, Nat.reduceLeDiff, Nat.reduceLT, Nat.reduceMul, reduceCtorEq, Int.reduceBNe, Int.reduceBEq, Int.reduceLT, Int.reduceLE, Int.reduceGT, h1, h2, h3, h4, h5, hx, vecV_eq, h10']
      refine condC_cut (fun env' σ' n' => n' = n ∧ env' 2 = slV 1 iV ns ∧ env' 7 = slV 1 vecV c ∧ env' 21 = slV 1 vecV l ∧ env' 22 = .int .i64 ((lst l).length : Int) ∧ env' 23 = .int .i64 (j : Int) ∧ env' 9 = slV 1 i32V y ∧ ∃ m, env' 10 = .int .i64 m) ?_ ?_ ?_
      · intro hx
        have hx' : 0 < (lst ns).length := by have := of_decide_eq_true hx; omega
        have hrc := bin_rem .i64 (j : Int) ((lst ns).length : Int) (by omega)
        have hrm : (j : Int).tmod ((lst ns).length : Int) = ((j % (lst ns).length : Nat) : Int) := rfl
        rw [hrm] at hrc
        have hlt : j % (lst ns).length < (lst ns).length := Nat.mod_lt _ hx'
        have xc : (lst ns)[j % (lst ns).length]? = some (lst ns)[j % (lst ns).length] := List.getElem?_eq_getElem hlt
        simp +contextual -implicitDefEqProofs (maxSteps := 2000000) only [↓wP, wQ, wQ1, wQ2, wQ3, wR, boxE, partsOf, ↓reduceIte, Nat.reduceEqDiff, Nat.reduceAdd, Nat.reduceSub, Nat.reduceLeDiff, Nat.reduceLT, Nat.reduceMul, reduceCtorEq, Int.reduceBNe, Int.reduceBEq, Int.reduceLT, Int.reduceLE, Int.reduceGT, h1, h2, h3, h4, h5, hrc, xc, iV_eq]
        exact ⟨_, rfl⟩
      · intro hx
        simp +contextual -implicitDefEqProofs (maxSteps := 2000000) only [↓wP, wQ, wQ1, wQ2, wQ3, wR, boxE, partsOf, ↓reduceIte, Nat.reduceEqDiff, Nat.reduceAdd, Nat.reduceSub, Nat.reduceLeDiff, Nat.reduceLT, Nat.reduceMul, reduceCtorEq, Int.reduceBNe, Int.reduceBEq, Int.reduceLT, Int.reduceLE, Int.reduceGT, h1, h2, h3, h4, h5]
        exact ⟨_, rfl⟩
      · clear h1 h2 h3 h4 h5 hx
        intro env σ' n' ⟨r1, h3, h4, h5, h1, h2, h6, m, h7⟩
        subst r1
        obtain ⟨L, hL, c10⟩ := f10 c (cut y) m hcl hcv (cut_sm y) true σ' n' 0
        have c11 := f11 c (cut y) m (by omega) hcv (cut_sm y)
        have hle : lenE (iVal n' L) = some (.int .i64 (L.length : Int)) := by
          unfold iVal
          split
          · rename_i h; rw [h, lenE_nil]; rfl
          · rw [lenE_ref]
        by_cases he : nrE c (cut y) m = 0
        · obtain ⟨hm1, ho, hce, hd, hne⟩ := nr0 he
          have c12 := f12 c (cut y) m hcl (nr_two hce ho hd) hm1
          rw [if_pos he] at hL
          rw [he] at c10 c11
          rw [← hL] at c12
          have hLl : L.length ≤ 7 := by rw [hL, near_len _ _ _ (by omega)]; omega
          simp +contextual -implicitDefEqProofs (maxSteps := 2000000) only [↓wP, wQ, wQ1, wQ2, wQ3, wR, boxE, partsOf, ↓reduceIte, Nat.reduceEqDiff, Nat.reduceAdd, Nat.reduceSub, Nat.reduceLeDiff, Nat.reduceLT, Nat.reduceMul, reduceCtorEq, Int.reduceBNe, Int.reduceBEq, Int.reduceLT, Int.reduceLE, Int.reduceGT, h1, h2, h3, h4, h5, h6, h7, f, c10, c11, c12, hle, lst_oL, lenE_slV, bne_self_eq_false]
          have s1 : L ≠ [] → iSto σ' n' L n' = some (.row 1 (L.map iV)) := fun h => by unfold iSto; rw [if_neg h]; simp [upd]
          have i1 : L ≠ [] → iVal n' L = .ref n' 0 L.length 1 := fun h => by unfold iVal; rw [if_neg h]
          have nn : n' ≤ iN n' L := by unfold iN; split <;> omega
          have nl : L ≠ [] → n' < iN n' L := fun h => by unfold iN; rw [if_neg h]; omega
          generalize iSto σ' n' L = σ2 at *
          generalize iVal n' L = gv at *
          generalize iN n' L = n2 at *
          refine WC_for L.length 0 (fun (i : Nat) env σ n => σ = σ2 ∧ n = n2 ∧ env 2 = slV 1 iV ns ∧ env 7 = slV 1 vecV c ∧ env 21 = slV 1 vecV l ∧ env 22 = .int .i64 ((lst l).length : Int) ∧ env 23 = .int .i64 (j : Int) ∧ env 12 = gv ∧ env 15 = slV 1 iV (oL L)) (by omega) (by decide) (by decide) (fun _ _ => rfl) (fun _ _ _ => rfl) ?_ ?_ _ _ _ rfl rfl ?_
          · clear h1 h2 h3 h4 h5 h6 h7
            intro i env σ n hi e1 e2 ⟨r1, r2, h3, h4, h5, h1, h2, h6, h7⟩
            subst r1 r2
            simp only [vl_tmp] at e2
            have hne' : L ≠ [] := by intro h; rw [h] at hi; simp at hi
            have s1' := s1 hne'
            have i1' := i1 hne'
            have hx1 : (L.map iV)[i]? = some (.int .i64 L[i]) := by simp [iV, hi]
            have hx2 : (lst (oL L))[i]? = some L[i] := by rw [lst_oL]; simp [hi]
            subst i1'
            have nl' := nl hne'
            have y0 : ∀ hid, hide σ n n hid n' = σ n' := fun hid => hide_low _ _ _ _ (by omega) (Nat.le_refl _)
            simp +contextual -implicitDefEqProofs (maxSteps := 2000000) only [↓wP, wQ, wQ1, wQ2, wQ3, wR, boxE, partsOf, ↓reduceIte, Nat.reduceEqDiff, Nat.reduceAdd, Nat.reduceSub, Nat.reduceLeDiff, Nat.reduceLT, Nat.reduceMul, reduceCtorEq, Int.reduceBNe, Int.reduceBEq, Int.reduceLT, Int.reduceLE, Int.reduceGT, e1, e2, h1, h2, h3, h4, h5, h6, h7, s1', hx1, hx2, iV_eq, bne_self_eq_false, hi, y0]
          · clear h1 h2 h3 h4 h5 h6 h7
            intro env σ n ⟨r1, r2, h3, h4, h5, h1, h2, h6, h7⟩ e1 e2
            simp +contextual -implicitDefEqProofs (maxSteps := 2000000) only [↓wP, wQ, wQ1, wQ2, wQ3, wR, boxE, partsOf, ↓reduceIte, Nat.reduceEqDiff, Nat.reduceAdd, Nat.reduceSub, Nat.reduceLeDiff, Nat.reduceLT, Nat.reduceMul, reduceCtorEq, Int.reduceBNe, Int.reduceBEq, Int.reduceLT, Int.reduceLE, Int.reduceGT, h1, h2, h3, h4, h5]
          · simp +contextual -implicitDefEqProofs (maxSteps := 2000000) only [↓wP, wQ, wQ1, wQ2, wQ3, wR, boxE, partsOf, ↓reduceIte, Nat.reduceEqDiff, Nat.reduceAdd, Nat.reduceSub, Nat.reduceLeDiff, Nat.reduceLT, Nat.reduceMul, reduceCtorEq, Int.reduceBNe, Int.reduceBEq, Int.reduceLT, Int.reduceLE, Int.reduceGT, h1, h2, h3, h4, h5]
        · have hd : (nrE c (cut y) m != 0) = true := by simpa using he
          rw [if_neg he] at hL
          subst hL
          have z0 : (((0 : Nat) : Int) != 0) = false := rfl
          simp only [List.length_nil] at hle
          simp +contextual -implicitDefEqProofs (maxSteps := 2000000) only [↓wP, wQ, wQ1, wQ2, wQ3, wR, boxE, partsOf, ↓reduceIte, Nat.reduceEqDiff, Nat.reduceAdd, Nat.reduceSub, Nat.reduceLeDiff, Nat.reduceLT, Nat.reduceMul, reduceCtorEq, Int.reduceBNe, Int.reduceBEq, Int.reduceLT, Int.reduceLE, Int.reduceGT, h1, h2, h3, h4, h5, h6, h7, f, c10, c11, hle, hd, bne_self_eq_false, z0]
  · intro env σ n ⟨h3, h4, h5⟩ h1 h2
    simp +contextual -implicitDefEqProofs (maxSteps := 2000000) only [↓wP, wQ, wQ1, wQ2, wQ3, wR, boxE, partsOf, ↓reduceIte, Nat.reduceEqDiff, Nat.reduceAdd, Nat.reduceSub, Nat.reduceLeDiff, Nat.reduceLT, Nat.reduceMul, reduceCtorEq, Int.reduceBNe, Int.reduceBEq, Int.reduceLT, Int.reduceLE, Int.reduceGT]
  · simp +contextual -implicitDefEqProofs (maxSteps := 2000000) only [↓wP, wQ, wQ1, wQ2, wQ3, wR, boxE, partsOf, ↓reduceIte, Nat.reduceEqDiff, Nat.reduceAdd, Nat.reduceSub, Nat.reduceLeDiff, Nat.reduceLT, Nat.reduceMul, reduceCtorEq, Int.reduceBNe, Int.reduceBEq, Int.reduceLT, Int.reduceLE, Int.reduceGT]
end Go.Q.S14
end

section
/- The table is the program's. -/
namespace Go.Q.S14
open Go.Proofs
def Has (f : Nat) (fn : Fn) : Prop := ∃ F, Try.prog.funcs[f]? = some F ∧ cFunc Try.prog (ownB T) F = some fn ∧ (F.name == "runtime.NumGoroutine") = false
theorem h3 : Has 3 g3 := ⟨Try.f3, Try.func3, by kernel_rfl, by kernel_rfl⟩
theorem h7 : Has 7 g7 := ⟨Try.f7, Try.func7, by kernel_rfl, by kernel_rfl⟩
theorem h8 : Has 8 g8 := ⟨Try.f8, Try.func8, by kernel_rfl, by kernel_rfl⟩
theorem h9 : Has 9 g9 := ⟨Try.f9, Try.func9, by kernel_rfl, by kernel_rfl⟩
theorem h10 : Has 10 g10 := ⟨Try.f10, Try.func10, by kernel_rfl, by kernel_rfl⟩
theorem h11 : Has 11 g11 := ⟨Try.f11, Try.func11, by kernel_rfl, by kernel_rfl⟩
theorem h12 : Has 12 g12 := ⟨Try.f12, Try.func12, by kernel_rfl, by kernel_rfl⟩
theorem h15 : Has 15 g15 := ⟨Try.f15, Try.func15, by kernel_rfl, by kernel_rfl⟩
theorem h16 : Has 16 g16 := ⟨Try.f16, Try.func16, by kernel_rfl, by kernel_rfl⟩
theorem h17 : Has 17 g17 := ⟨Try.f17, Try.func17, by kernel_rfl, by kernel_rfl⟩
theorem h18 : Has 18 g18 := ⟨Try.f18, Try.func18, by kernel_rfl, by kernel_rfl⟩
theorem h19 : Has 19 g19 := ⟨Try.f19, Try.func19, by kernel_rfl, by kernel_rfl⟩
theorem h21 : Has 21 g21 := ⟨Try.f21, Try.func21, by kernel_rfl, by kernel_rfl⟩
theorem h22 : Has 22 g22 := ⟨Try.f22, Try.func22, by kernel_rfl, by kernel_rfl⟩
theorem h23 : Has 23 g23 := ⟨Try.f23, Try.func23, by kernel_rfl, by kernel_rfl⟩
theorem h24 : Has 24 g24 := ⟨Try.f24, Try.func24, by kernel_rfl, by kernel_rfl⟩
theorem h25 : Has 25 g25 := ⟨Try.f25, Try.func25, by kernel_rfl, by kernel_rfl⟩
theorem h26 : Has 26 g26 := ⟨Try.f26, Try.func26, by kernel_rfl, by kernel_rfl⟩
theorem h27 : Has 27 g27 := ⟨Try.f27, Try.func27, by kernel_rfl, by kernel_rfl⟩
theorem h28 : Has 28 g28 := ⟨Try.f28, Try.func28, by kernel_rfl, by kernel_rfl⟩
theorem h29 : Has 29 g29 := ⟨Try.f29, Try.func29, by kernel_rfl, by kernel_rfl⟩
theorem h30 : Has 30 g30 := ⟨Try.f30, Try.func30, by kernel_rfl, by kernel_rfl⟩
theorem h31 : Has 31 g31 := ⟨Try.f31, Try.func31, by kernel_rfl, by kernel_rfl⟩
theorem h32 : Has 32 g32 := ⟨Try.f32, Try.func32, by kernel_rfl, by kernel_rfl⟩
theorem h33 : Has 33 g33 := ⟨Try.f33, Try.func33, by kernel_rfl, by kernel_rfl⟩
theorem h34 : Has 34 g34 := ⟨Try.f34, Try.func34, by kernel_rfl, by kernel_rfl⟩
theorem h35 : Has 35 g35 := ⟨Try.f35, Try.func35, by kernel_rfl, by kernel_rfl⟩
theorem h36 : Has 36 g36 := ⟨Try.f36, Try.func36, by kernel_rfl, by kernel_rfl⟩
theorem h37 : Has 37 g37 := ⟨Try.f37, Try.func37, by kernel_rfl, by kernel_rfl⟩
theorem h38 : Has 38 g38 := ⟨Try.f38, Try.func38, by kernel_rfl, by kernel_rfl⟩
theorem h39 : Has 39 g39 := ⟨Try.f39, Try.func39, by kernel_rfl, by kernel_rfl⟩
theorem h40 : Has 40 g40 := ⟨Try.f40, Try.func40, by kernel_rfl, by kernel_rfl⟩
theorem h41 : Has 41 g41 := ⟨Try.f41, Try.func41, by kernel_rfl, by kernel_rfl⟩
theorem h43 : Has 43 g43 := ⟨Try.f43, Try.func43, by kernel_rfl, by kernel_rfl⟩
theorem h44 : Has 44 g44 := ⟨Try.f44, Try.func44, by kernel_rfl, by kernel_rfl⟩
theorem h45 : Has 45 g45 := ⟨Try.f45, Try.func45, by kernel_rfl, by kernel_rfl⟩
theorem h46 : Has 46 g46 := ⟨Try.f46, Try.func46, by kernel_rfl, by kernel_rfl⟩
theorem h47 : Has 47 g47 := ⟨Try.f47, Try.func47, by kernel_rfl, by kernel_rfl⟩
theorem h48 : Has 48 g48 := ⟨Try.f48, Try.func48, by kernel_rfl, by kernel_rfl⟩
theorem h49 : Has 49 g49 := ⟨Try.f49, Try.func49, by kernel_rfl, by kernel_rfl⟩
theorem h50 : Has 50 g50 := ⟨Try.f50, Try.func50, by kernel_rfl, by kernel_rfl⟩
theorem h51 : Has 51 g51 := ⟨Try.f51, Try.func51, by kernel_rfl, by kernel_rfl⟩
theorem h52 : Has 52 g52 := ⟨Try.f52, Try.func52, by kernel_rfl, by kernel_rfl⟩
theorem h53 : Has 53 g53 := ⟨Try.f53, Try.func53, by kernel_rfl, by kernel_rfl⟩
theorem h54 : Has 54 g54 := ⟨Try.f54, Try.func54, by kernel_rfl, by kernel_rfl⟩
theorem h55 : Has 55 g55 := ⟨Try.f55, Try.func55, by kernel_rfl, by kernel_rfl⟩
theorem h56 : Has 56 g56 := ⟨Try.f56, Try.func56, by kernel_rfl, by kernel_rfl⟩
theorem h57 : Has 57 g57 := ⟨Try.f57, Try.func57, by kernel_rfl, by kernel_rfl⟩
theorem h58 : Has 58 g58 := ⟨Try.f58, Try.func58, by kernel_rfl, by kernel_rfl⟩
theorem h59 : Has 59 g59 := ⟨Try.f59, Try.func59, by kernel_rfl, by kernel_rfl⟩
theorem h60 : Has 60 g60 := ⟨Try.f60, Try.func60, by kernel_rfl, by kernel_rfl⟩
theorem h61 : Has 61 g61 := ⟨Try.f61, Try.func61, by kernel_rfl, by kernel_rfl⟩
theorem h62 : Has 62 g62 := ⟨Try.f62, Try.func62, by kernel_rfl, by kernel_rfl⟩
theorem h63 : Has 63 g63 := ⟨Try.f63, Try.func63, by kernel_rfl, by kernel_rfl⟩
theorem h64 : Has 64 g64 := ⟨Try.f64, Try.func64, by kernel_rfl, by kernel_rfl⟩
theorem h65 : Has 65 g65 := ⟨Try.f65, Try.func65, by kernel_rfl, by kernel_rfl⟩
theorem h66 : Has 66 g66 := ⟨Try.f66, Try.func66, by kernel_rfl, by kernel_rfl⟩
theorem h67 : Has 67 g67 := ⟨Try.f67, Try.func67, by kernel_rfl, by kernel_rfl⟩
theorem h68 : Has 68 g68 := ⟨Try.f68, Try.func68, by kernel_rfl, by kernel_rfl⟩
theorem h69 : Has 69 g69 := ⟨Try.f69, Try.func69, by kernel_rfl, by kernel_rfl⟩
theorem h70 : Has 70 g70 := ⟨Try.f70, Try.func70, by kernel_rfl, by kernel_rfl⟩
theorem h71 : Has 71 g71 := ⟨Try.f71, Try.func71, by kernel_rfl, by kernel_rfl⟩
theorem h72 : Has 72 g72 := ⟨Try.f72, Try.func72, by kernel_rfl, by kernel_rfl⟩
theorem h73 : Has 73 g73 := ⟨Try.f73, Try.func73, by kernel_rfl, by kernel_rfl⟩
theorem h74 : Has 74 g74 := ⟨Try.f74, Try.func74, by kernel_rfl, by kernel_rfl⟩
theorem h75 : Has 75 g75 := ⟨Try.f75, Try.func75, by kernel_rfl, by kernel_rfl⟩
theorem h76 : Has 76 g76 := ⟨Try.f76, Try.func76, by kernel_rfl, by kernel_rfl⟩
theorem h77 : Has 77 g77 := ⟨Try.f77, Try.func77, by kernel_rfl, by kernel_rfl⟩
theorem h78 : Has 78 g78 := ⟨Try.f78, Try.func78, by kernel_rfl, by kernel_rfl⟩
theorem h79 : Has 79 g79 := ⟨Try.f79, Try.func79, by kernel_rfl, by kernel_rfl⟩
theorem h80 : Has 80 g80 := ⟨Try.f80, Try.func80, by kernel_rfl, by kernel_rfl⟩
theorem h81 : Has 81 g81 := ⟨Try.f81, Try.func81, by kernel_rfl, by kernel_rfl⟩
theorem h82 : Has 82 g82 := ⟨Try.f82, Try.func82, by kernel_rfl, by kernel_rfl⟩
theorem h83 : Has 83 g83 := ⟨Try.f83, Try.func83, by kernel_rfl, by kernel_rfl⟩
theorem h84 : Has 84 g84 := ⟨Try.f84, Try.func84, by kernel_rfl, by kernel_rfl⟩
theorem h85 : Has 85 g85 := ⟨Try.f85, Try.func85, by kernel_rfl, by kernel_rfl⟩
theorem h86 : Has 86 g86 := ⟨Try.f86, Try.func86, by kernel_rfl, by kernel_rfl⟩
theorem h87 : Has 87 g87 := ⟨Try.f87, Try.func87, by kernel_rfl, by kernel_rfl⟩
theorem h88 : Has 88 g88 := ⟨Try.f88, Try.func88, by kernel_rfl, by kernel_rfl⟩
theorem h89 : Has 89 g89 := ⟨Try.f89, Try.func89, by kernel_rfl, by kernel_rfl⟩
theorem h90 : Has 90 g90 := ⟨Try.f90, Try.func90, by kernel_rfl, by kernel_rfl⟩
theorem h91 : Has 91 g91 := ⟨Try.f91, Try.func91, by kernel_rfl, by kernel_rfl⟩
theorem h92 : Has 92 g92 := ⟨Try.f92, Try.func92, by kernel_rfl, by kernel_rfl⟩
theorem h93 : Has 93 g93 := ⟨Try.f93, Try.func93, by kernel_rfl, by kernel_rfl⟩
theorem h94 : Has 94 g94 := ⟨Try.f94, Try.func94, by kernel_rfl, by kernel_rfl⟩
theorem h95 : Has 95 g95 := ⟨Try.f95, Try.func95, by kernel_rfl, by kernel_rfl⟩
theorem h96 : Has 96 g96 := ⟨Try.f96, Try.func96, by kernel_rfl, by kernel_rfl⟩
theorem h97 : Has 97 g97 := ⟨Try.f97, Try.func97, by kernel_rfl, by kernel_rfl⟩
theorem h98 : Has 98 g98 := ⟨Try.f98, Try.func98, by kernel_rfl, by kernel_rfl⟩
theorem h99 : Has 99 g99 := ⟨Try.f99, Try.func99, by kernel_rfl, by kernel_rfl⟩
theorem h100 : Has 100 g100 := ⟨Try.f100, Try.func100, by kernel_rfl, by kernel_rfl⟩
theorem h101 : Has 101 g101 := ⟨Try.f101, Try.func101, by kernel_rfl, by kernel_rfl⟩
theorem h102 : Has 102 g102 := ⟨Try.f102, Try.func102, by kernel_rfl, by kernel_rfl⟩
theorem h103 : Has 103 g103 := ⟨Try.f103, Try.func103, by kernel_rfl, by kernel_rfl⟩
theorem h104 : Has 104 g104 := ⟨Try.f104, Try.func104, by kernel_rfl, by kernel_rfl⟩
theorem h105 : Has 105 g105 := ⟨Try.f105, Try.func105, by kernel_rfl, by kernel_rfl⟩
theorem h122 : Has 122 g122 := ⟨Try.f122, Try.func122, by kernel_rfl, by kernel_rfl⟩
theorem h123 : Has 123 g123 := ⟨Try.f123, Try.func123, by kernel_rfl, by kernel_rfl⟩
theorem h124 : Has 124 g124 := ⟨Try.f124, Try.func124, by kernel_rfl, by kernel_rfl⟩
theorem h125 : Has 125 g125 := ⟨Try.f125, Try.func125, by kernel_rfl, by kernel_rfl⟩
theorem tabOf : TabOf Try.prog T := by
  intro f fn h
  simp only [T] at h
  unfold fnOf at h
  split at h
  all_goals first | (cases h; done) | skip
  all_goals (simp only [Option.some.injEq] at h; subst h)
  · exact h3
  · exact h7
  · exact h8
  · exact h9
  · exact h10
  · exact h11
  · exact h12
  · exact h15
  · exact h16
  · exact h17
  · exact h18
  · exact h19
  · exact h21
  · exact h22
  · exact h23
  · exact h24
  · exact h25
  · exact h26
  · exact h27
  · exact h28
  · exact h29
  · exact h30
  · exact h31
  · exact h32
  · exact h33
  · exact h34
  · exact h35
  · exact h36
  · exact h37
  · exact h38
  · exact h39
  · exact h40
  · exact h41
  · exact h43
  · exact h44
  · exact h45
  · exact h46
  · exact h47
  · exact h48
  · exact h49
  · exact h50
  · exact h51
  · exact h52
  · exact h53
  · exact h54
  · exact h55
  · exact h56
  · exact h57
  · exact h58
  · exact h59
  · exact h60
  · exact h61
  · exact h62
  · exact h63
  · exact h64
  · exact h65
  · exact h66
  · exact h67
  · exact h68
  · exact h69
  · exact h70
  · exact h71
  · exact h72
  · exact h73
  · exact h74
  · exact h75
  · exact h76
  · exact h77
  · exact h78
  · exact h79
  · exact h80
  · exact h81
  · exact h82
  · exact h83
  · exact h84
  · exact h85
  · exact h86
  · exact h87
  · exact h88
  · exact h89
  · exact h90
  · exact h91
  · exact h92
  · exact h93
  · exact h94
  · exact h95
  · exact h96
  · exact h97
  · exact h98
  · exact h99
  · exact h100
  · exact h101
  · exact h102
  · exact h103
  · exact h104
  · exact h105
  · exact h122
  · exact h123
  · exact h124
  · exact h125
theorem mixed : Try.prog.follows .mixedOrders = true := by kernel_rfl
end Go.Q.S14
end
