/- IdealApart. -/
import Derived.Test.YtfbkhkihiohfkaaSB
import Derived.Test.YtfbkhkihiohfkaaProg
import Derived.KernelRfl
section
set_option linter.unusedSimpArgs false
set_option linter.unusedVariables false
namespace Go.Q.SB
open Go.Q Go.Sort
def lastE (l : List Fa) : Int := if rightF l = true then lastT l else 0
theorem r20 (l : Option (List Fa)) (h : FitF (lst l)) : res T 20 [slV 5 faV l] = some (.int .u64 (lastE (lst l))) := by
  refine run_res (run_pure (fn := g20) rfl rfl (by decide) ?_)
  simp only [g20, b20, oO, oN, mV, lD, gO, pP, qQ, cI, aR]
  have f24' := f24 l h.sm
  have f46' := f46 l h.sm.1
  unfold lastE
  cases hr : rightF (lst l)
  · rw [hr] at f24'
    rw [if_neg (by decide)] at f24'
    have z0 : ((280 : Int) != 0) = true := rfl
    simp +contextual -implicitDefEqProofs (maxSteps := 2000000) only [↓wP, wQ, wQ1, wQ2, wQ3, wR, boxE, partsOf, ↓reduceIte, Nat.reduceEqDiff, Nat.reduceAdd, Nat.reduceSub, Nat.reduceLeDiff, Nat.reduceLT, Nat.reduceMul, reduceCtorEq, Int.reduceBNe, Int.reduceBEq, Int.reduceLT, Int.reduceLE, Int.reduceGT, f24', z0]
  · rw [hr] at f24'
    rw [if_pos rfl] at f24'
    have z0 : ((0 : Int) != 0) = false := rfl
    simp +contextual -implicitDefEqProofs (maxSteps := 2000000) only [↓wP, wQ, wQ1, wQ2, wQ3, wR, boxE, partsOf, ↓reduceIte, Nat.reduceEqDiff, Nat.reduceAdd, Nat.reduceSub, Nat.reduceLeDiff, Nat.reduceLT, Nat.reduceMul, reduceCtorEq, Int.reduceBNe, Int.reduceBEq, Int.reduceLT, Int.reduceLE, Int.reduceGT, f24', f46', z0]
theorem f20 (l : Option (List Fa)) (h : FitF (lst l)) (fs : Bool) (σ : Sto) (n lk : Nat) : callE T fs 20 [slV 5 faV l] σ n lk = some (.int .u64 (lastE (lst l)), σ, n) :=
  callE_tr (by decide) (r20 l h) (by simp [Tr, Tr_slV]) rfl fs σ n lk
theorem noneAt_app {l : List Fa} {ts : Int} {v w : List Wr} (hd : ∀ x ∈ v, ∀ y ∈ w, key x ≠ key y) : noneAt (l ++ v.map (mkF ts)) w = noneAt l w := by
  unfold noneAt
  rw [Bool.eq_iff_iff, List.any_eq_true, List.any_eq_true]
  constructor
  · rintro ⟨y, hy, h⟩
    rw [isB_app l ts v (key y) (fun x hx => hd x hx y hy)] at h
    exact ⟨y, hy, h⟩
  · rintro ⟨y, hy, h⟩
    refine ⟨y, hy, ?_⟩
    rw [isB_app l ts v (key y) (fun x hx => hd x hx y hy)]
    exact h
theorem cf_apart {l : List Fa} {v w : List Wr} {s : Int} (h1 : rightF (l ++ v.map (mkF (s + 1))) = true) (h2 : rightW w = true) (h : cfB (l ++ v.map (mkF (s + 1))) s w = false) : ∀ x ∈ v, ∀ y ∈ w, key x ≠ key y := by
  unfold cfB cfE at h
  rw [h1, h2] at h
  simp only [Bool.true_eq_false, if_false, if_true] at h
  intro x hx y hy hk
  have := List.any_eq_false.1 h (mkF (s + 1) x) (List.mem_append_right _ (List.mem_map.2 ⟨x, hx, rfl⟩))
  apply this
  unfold cfP
  rw [decide_eq_true (show s < (mkF (s + 1) x).ts by show s < s + 1; omega), Bool.true_and]
  unfold ownK
  exact List.any_eq_true.2 ⟨y, hy, decide_eq_true hk.symm⟩
theorem dimB_swap {l : List Fa} {v w : List Wr} {a b c d : Int} (h : dimB (l ++ v.map (mkF a) ++ w.map (mkF b)) = true) : dimB (l ++ w.map (mkF c) ++ v.map (mkF d)) = true := by
  rw [dimB_iff] at h ⊢
  have tr : ∀ f ∈ l ++ w.map (mkF c) ++ v.map (mkF d), ∃ g ∈ l ++ v.map (mkF a) ++ w.map (mkF b), g.w = f.w := by
    intro f hf
    simp only [List.mem_append, List.mem_map] at hf ⊢
    rcases hf with (hf | ⟨x, hx, rfl⟩) | ⟨x, hx, rfl⟩
    · exact ⟨f, .inl (.inl hf), rfl⟩
    · exact ⟨mkF b x, .inr ⟨x, hx, rfl⟩, rfl⟩
    · exact ⟨mkF a x, .inl (.inr ⟨x, hx, rfl⟩), rfl⟩
  intro f hf g hg a1 a2 a3
  obtain ⟨f', hf', e1⟩ := tr f hf
  obtain ⟨g', hg', e2⟩ := tr g hg
  have := h f' hf' g' hg' (by rw [e1]; exact a1) (by rw [e2]; exact a2) (by rw [e1, e2]; exact a3)
  rw [e1, e2] at this
  exact this
theorem apart_ok {l : List Fa} {v w : List Wr} {s : Int} (hs : s = lastE l) (h1 : addE l (s + 1) v = 0) (h2 : rightW w = true) (h3 : cfB (l ++ v.map (mkF (s + 1))) s w = false)
    (h4 : addE (l ++ v.map (mkF (s + 1))) (s + 2) w = 0) (h5 : addE l (s + 1) w = 0) :
    addE (l ++ w.map (mkF (s + 1))) (s + 2) v = 0 ∧ ∀ c, nowR (l ++ v.map (mkF (s + 1)) ++ w.map (mkF (s + 2))) c (s + 2) = nowR (l ++ w.map (mkF (s + 1)) ++ v.map (mkF (s + 2))) c (s + 2) := by
  obtain ⟨a1, a2, a3⟩ := addE_zero h1
  obtain ⟨b1, b2, b3⟩ := addE_zero h4
  obtain ⟨c1, c2, c3⟩ := addE_zero h5
  obtain ⟨r1, r2, r3, r4, r5⟩ := refE_zero a3
  obtain ⟨q1, q2, q3, q4, q5⟩ := refE_zero b3
  have hd := cf_apart b1 h2 h3
  have hd' : ∀ x ∈ w, ∀ y ∈ v, key x ≠ key y := fun x hx y hy e => hd y hy x hx e.symm
  have hro := right_add h5
  have hls : lastT l = s := by rw [hs]; unfold lastE; rw [if_pos a1]
  constructor
  · unfold addE
    rw [hro, a2]
    simp only [Bool.true_eq_false, if_false]
    rw [refE_eq]
    have hl2 := last_add l (s + 1) w
    have e1 : ¬ (s + 2 ≤ lastT (l ++ w.map (mkF (s + 1))) ∨ 1099511627776 < s + 2) := by
      rw [hl2]
      split <;> omega
    rw [if_neg e1, noneAt_app hd', if_neg (by rw [r3]; decide), dimB_swap q4, if_neg (by decide), if_neg]
    simp only [List.length_append, List.length_map] at q5 ⊢
    omega
  · intro c
    rw [now_add _ _ _ _ _ (Int.le_refl _), now_add _ _ _ _ _ (by omega), now_add _ _ _ _ _ (Int.le_refl _), now_add _ _ _ _ _ (by omega)]
    refine fold_comm (nowR_asc _ _ _) ((w_ids a2 c).imp fun h => by omega) ((w_ids h2 c).imp fun h => by omega) (fun x hx y hy e => ?_)
    obtain ⟨x1, x2⟩ := List.mem_filter.1 hx
    obtain ⟨y1, y2⟩ := List.mem_filter.1 hy
    simp only [beq_iff_eq] at x2 y2
    exact hd x x1 y y1 (by unfold key; rw [x2, y2, e])
theorem apart_no {l : List Fa} {v w : List Wr} {s : Int} (hs : s = lastE l) (h1 : addE l (s + 1) v = 0) (h2 : rightW w = true) (h3 : cfB (l ++ v.map (mkF (s + 1))) s w = false)
    (e f : Int) (he : e = addE (l ++ v.map (mkF (s + 1))) (s + 2) w) (hf : f = addE l (s + 1) w) (hn : e ≠ 0 ∨ f ≠ 0) : e = f ∨ e = 151 ∨ f = 151 ∨ e = 6 ∨ e = 181 := by
  obtain ⟨a1, a2, a3⟩ := addE_zero h1
  obtain ⟨r1, r2, r3, r4, r5⟩ := refE_zero a3
  have hrm := right_add h1
  have hd := cf_apart hrm h2 h3
  have e1 : e = refE (l ++ v.map (mkF (s + 1))) (s + 2) w := by rw [he]; unfold addE; rw [hrm, h2]; rfl
  have f1 : f = refE l (s + 1) w := by rw [hf]; unfold addE; rw [a1, h2]; rfl
  have hls : lastT l = s := by rw [hs]; unfold lastE; rw [if_pos a1]
  have hf181 : f ≠ 181 := by
    rw [f1, refE_eq, if_neg (by omega)]
    split
    · decide
    · split
      · decide
      · split <;> decide
  by_cases hE : e = 181
  · exact .inr (.inr (.inr (.inr hE)))
  have hts : ¬ (s + 2 ≤ lastT (l ++ v.map (mkF (s + 1))) ∨ 1099511627776 < s + 2) := by
    intro h
    apply hE
    rw [e1, refE_eq, if_pos h]
  rw [refE_eq, if_neg hts, noneAt_app hd] at e1
  rw [refE_eq, if_neg (by omega)] at f1
  by_cases hna : noneAt l w = true
  · rw [if_pos hna] at e1 f1
    exact .inl (by rw [e1, f1])
  rw [if_neg hna] at e1 f1
  split at e1
  · exact .inr (.inl e1)
  · split at f1
    · exact .inr (.inr (.inl f1))
    · split at e1
      · exact .inr (.inr (.inr (.inl e1)))
      · split at f1
        · rename_i x1 x2 x3 x4
          exfalso
          simp only [List.length_append, List.length_map] at x3 x4
          omega
        · exact .inl (by rw [e1, f1])
theorem lastE_le (l : List Fa) : 0 ≤ lastE l ∧ lastE l ≤ 1099511627776 := by
  unfold lastE
  split
  · rename_i h
    obtain ⟨h1, -, -⟩ := rightF_okU h
    refine ⟨lastT_nonneg h1, ?_⟩
    unfold lastT
    cases hl : l.getLast? with
    | none => decide
    | some f =>
      obtain ⟨n, hn⟩ : ∃ n, l.length = n + 1 := by
        cases l with
        | nil => simp at hl
        | cons a b => exact ⟨b.length, rfl⟩
      rw [List.getLast?_eq_getElem?, show l.length - 1 = n by omega, List.getElem?_eq_getElem (by omega), Option.some.injEq] at hl
      rw [hn] at h1
      obtain ⟨-, h2⟩ := okU_step (by omega : n < l.length) h1
      rw [hl] at h2
      unfold oneF one1 at h2
      simp only [Bool.and_eq_true, decide_eq_true_eq] at h2
      show f.ts ≤ _
      omega
  · exact ⟨Int.le_refl _, by decide⟩
theorem addO_lst {l : Option (List Fa)} {ts : Int} {w : List Wr} (h : addE (lst l) ts w = 0) : lst (addO l ts w) = lst l ++ w.map (mkF ts) := by unfold addO; rw [if_pos h, lst_appO]
theorem addO_fit {l : Option (List Fa)} {ts : Int} {w : Option (List Wr)} {N : Nat} (h1 : (lst l).length ≤ N) (h2 : ∀ f ∈ lst l, (lst f.w.v).length ≤ 5) (h3 : (lst w).length ≤ 13) (h4 : ∀ f ∈ lst w, (lst f.v).length ≤ 5) :
    (lst (addO l ts (lst w))).length ≤ N + 13 ∧ ∀ f ∈ lst (addO l ts (lst w)), (lst f.w.v).length ≤ 5 := by
  unfold addO
  split
  · rw [lst_appO]
    refine ⟨by rw [List.length_append, List.length_map]; omega, fun f hf => ?_⟩
    rcases List.mem_append.1 hf with hf | hf
    · exact h2 f hf
    · obtain ⟨x, hx, rfl⟩ := List.mem_map.1 hf
      exact h4 x hx
  · exact ⟨by simp [lst], fun f hf => by simp [lst] at hf⟩
theorem fit5 {L : List Fa} {N : Nat} (hN : N ≤ 1000) (h : L.length ≤ N ∧ ∀ f ∈ L, (lst f.w.v).length ≤ 5) : FitF L := ⟨by have := h.1; omega, fun f hf => by have := h.2 f hf; omega⟩
theorem few5 {L : List Fa} {N : Nat} (hN : N ≤ 128) (h : L.length ≤ N ∧ ∀ f ∈ L, (lst f.w.v).length ≤ 5) : Few L := ⟨by have := h.1; omega, fun f hf => by have := h.2 f hf; omega⟩
theorem f13 (l : Option (List Fa)) (ts : Int) (w : Option (List Wr)) (h : FitF (lst l)) (hw : FitW (lst w)) (fs : Bool) (σ : Sto) (n lk : Nat) :
    callE T fs 13 [slV 5 faV l, .int .u64 ts, slV 4 wrV w] σ n lk = some (.tup [slV 5 faV (addO l ts (lst w)), .int .i64 (addE (lst l) ts (lst w))], σ, n) :=
  callE_tr (by decide) (r13 l ts w h hw) (by simp [Tr, Tr_slV]) (by simp [Nw, Nw_slV]) fs σ n lk
theorem same_self (l : List Rw) : sameL sameR1 l l = true := same_r rfl
def SmC (c : Cm) : Prop := SmW c.ws
theorem r4 (x : Option (List Fa)) (a b : Cm) (hx : SmF x) (ha : SmC a) (hb : SmC b) : res T 4 [slV 5 faV x, cmV a, cmV b] = some (.bool true) := by
  refine run_res (run_pure (fn := g4) rfl rfl (by decide) ?_)
  simp only [g4, b4, oO, oN, mV, lD, gO, pP, qQ, cI, aR]
  have f10' := f10 x hx
  obtain ⟨l, hl⟩ : ∃ l, l = cutFs x := ⟨_, rfl⟩
  have L1 := few_len x
  rw [← hl] at f10' L1
  have fa := f12 a.ws ha
  have fb := f12 b.ws hb
  obtain ⟨v, hv⟩ : ∃ v, v = cutWs a.ws := ⟨_, rfl⟩
  obtain ⟨w, hw⟩ : ∃ w, w = cutWs b.ws := ⟨_, rfl⟩
  have V1 := wrs_len a.ws
  have W1 := wrs_len b.ws
  have V2 := wrs_fit a.ws
  have W2 := wrs_fit b.ws
  rw [← hv] at fa V1 V2
  rw [← hw] at fb W1 W2
  have hlf : FitF (lst l) := fit5 (by omega) L1
  have f20' := f20 l hlf
  obtain ⟨s, hs⟩ : ∃ s, s = lastE (lst l) := ⟨_, rfl⟩
  have hsb := lastE_le (lst l)
  rw [← hs] at f20' hsb
  have ws1 : IntKind.u64.wrap (s + 1) = s + 1 := by rw [wrap_u64] <;> omega
  have ws2 : IntKind.u64.wrap (s + 2) = s + 2 := by rw [wrap_u64] <;> omega
  have g1 := f13 l (s + 1) v hlf V2
  obtain ⟨m, hm⟩ : ∃ m, m = addO l (s + 1) (lst v) := ⟨_, rfl⟩
  have M1 := addO_fit (ts := s + 1) L1.1 L1.2 V1.1 V1.2
  rw [← hm] at g1 M1
  have hmf : FitF (lst m) := fit5 (by omega) M1
  have g2 := f21 m s w hmf W2
  have g3 := f13 m (s + 2) w hmf W2
  obtain ⟨n', hn⟩ : ∃ n', n' = addO m (s + 2) (lst w) := ⟨_, rfl⟩
  have N1 := addO_fit (ts := s + 2) M1.1 M1.2 W1.1 W1.2
  rw [← hn] at g3 N1
  have g4 := f13 l (s + 1) w hlf W2
  obtain ⟨o, ho⟩ : ∃ o, o = addO l (s + 1) (lst w) := ⟨_, rfl⟩
  have O1 := addO_fit (ts := s + 1) L1.1 L1.2 W1.1 W1.2
  rw [← ho] at g4 O1
  have hof : FitF (lst o) := fit5 (by omega) O1
  have g5 := f13 o (s + 2) v hof V2
  obtain ⟨p, hp⟩ : ∃ p, p = addO o (s + 2) (lst v) := ⟨_, rfl⟩
  have P1 := addO_fit (ts := s + 2) O1.1 O1.2 V1.1 V1.2
  rw [← hp] at g5 P1
  obtain ⟨E1, hE1⟩ : ∃ E, E = addE (lst l) (s + 1) (lst v) := ⟨_, rfl⟩
  obtain ⟨E2, hE2⟩ : ∃ E, E = cfE (lst m) (lst w) := ⟨_, rfl⟩
  obtain ⟨C, hC⟩ : ∃ C, C = cfB (lst m) s (lst w) := ⟨_, rfl⟩
  obtain ⟨E3, hE3⟩ : ∃ E, E = addE (lst m) (s + 2) (lst w) := ⟨_, rfl⟩
  obtain ⟨E4, hE4⟩ : ∃ E, E = addE (lst l) (s + 1) (lst w) := ⟨_, rfl⟩
  obtain ⟨E5, hE5⟩ : ∃ E, E = addE (lst o) (s + 2) (lst v) := ⟨_, rfl⟩
  rw [← hE1] at g1
  rw [← hE2, ← hC] at g2
  rw [← hE3] at g3
  rw [← hE4] at g4
  rw [← hE5] at g5
  by_cases z1 : E1 = 0
  rotate_left
  · have z1' : (E1 != 0) = true := by simp [z1]
    simp +contextual -implicitDefEqProofs (maxSteps := 2000000) only [↓wP, wQ, wQ1, wQ2, wQ3, wR, boxE, partsOf, ↓reduceIte, Nat.reduceEqDiff, Nat.reduceAdd, Nat.reduceSub, Nat.reduceLeDiff, Nat.reduceLT, Nat.reduceMul, reduceCtorEq, Int.reduceBNe, Int.reduceBEq, Int.reduceLT, Int.reduceLE, Int.reduceGT, cmV_eq, f9, f10', fa, fb, f20', ws1, ws2, Nat.mul_zero, Nat.le_refl, g1, z1']
  have z1' : (E1 != 0) = false := by simp [z1]
  rw [z1] at hE1
  have hml : lst m = lst l ++ (lst v).map (mkF (s + 1)) := by rw [hm]; exact addO_lst hE1.symm
  by_cases z2 : E2 = 0
  rotate_left
  · have z2' : (E2 != 0) = true := by simp [z2]
    simp +contextual -implicitDefEqProofs (maxSteps := 2000000) only [↓wP, wQ, wQ1, wQ2, wQ3, wR, boxE, partsOf, ↓reduceIte, Nat.reduceEqDiff, Nat.reduceAdd, Nat.reduceSub, Nat.reduceLeDiff, Nat.reduceLT, Nat.reduceMul, reduceCtorEq, Int.reduceBNe, Int.reduceBEq, Int.reduceLT, Int.reduceLE, Int.reduceGT, cmV_eq, f9, f10', fa, fb, f20', ws1, ws2, Nat.mul_zero, Nat.le_refl, g1, z1', g2, z2']
  have z2' : (E2 != 0) = false := by simp [z2]
  have hrw : rightW (lst w) = true := by
    rw [z2] at hE2
    unfold cfE at hE2
    split at hE2
    · cases hE2
    · split at hE2
      · cases hE2
      · rename_i h1 h2; simpa using h2
  cases hCc : C
  rotate_left
  · rw [hCc] at g2
    simp +contextual -implicitDefEqProofs (maxSteps := 2000000) only [↓wP, wQ, wQ1, wQ2, wQ3, wR, boxE, partsOf, ↓reduceIte, Nat.reduceEqDiff, Nat.reduceAdd, Nat.reduceSub, Nat.reduceLeDiff, Nat.reduceLT, Nat.reduceMul, reduceCtorEq, Int.reduceBNe, Int.reduceBEq, Int.reduceLT, Int.reduceLE, Int.reduceGT, cmV_eq, f9, f10', fa, fb, f20', ws1, ws2, Nat.mul_zero, Nat.le_refl, g1, z1', g2, z2', g3, g4]
  rw [hCc] at g2 hC
  rw [hml] at hC hE3
  by_cases z34 : E3 = 0 ∧ E4 = 0
  rotate_left
  · have hne : E3 ≠ 0 ∨ E4 ≠ 0 := by omega
    have hor := apart_no hs hE1.symm hrw hC.symm E3 E4 hE3 hE4 hne
    have q1 : ((E3 != 0) || (E4 != 0)) = true := by rcases hne with h | h <;> simp [h]
    have q2 : (((((E3 == E4) || (E3 == 151)) || (E4 == 151)) || (E3 == 6)) || (E3 == 181)) = true := by
      rcases hor with h | h | h | h | h <;> simp [h]
    simp +contextual -implicitDefEqProofs (maxSteps := 2000000) only [↓wP, wQ, wQ1, wQ2, wQ3, wR, boxE, partsOf, ↓reduceIte, Nat.reduceEqDiff, Nat.reduceAdd, Nat.reduceSub, Nat.reduceLeDiff, Nat.reduceLT, Nat.reduceMul, reduceCtorEq, Int.reduceBNe, Int.reduceBEq, Int.reduceLT, Int.reduceLE, Int.reduceGT, cmV_eq, f9, f10', fa, fb, f20', ws1, ws2, Nat.mul_zero, Nat.le_refl, g1, z1', g2, z2', g3, g4, q1, q2]
  obtain ⟨z3, z4⟩ := z34
  rw [z3] at hE3 g3
  rw [z4] at hE4 g4
  obtain ⟨k1, k2⟩ := apart_ok hs hE1.symm hrw hC.symm hE3.symm hE4.symm
  have hol : lst o = lst l ++ (lst w).map (mkF (s + 1)) := by rw [ho]; exact addO_lst hE4.symm
  rw [hol, k1] at hE5
  rw [hE5] at g5
  have hnl : lst n' = lst l ++ (lst v).map (mkF (s + 1)) ++ (lst w).map (mkF (s + 2)) := by rw [hn, addO_lst (by rw [hml]; exact hE3.symm), hml]
  have hpl : lst p = lst l ++ (lst w).map (mkF (s + 1)) ++ (lst v).map (mkF (s + 2)) := by rw [hp, addO_lst (by rw [hol]; exact k1), hol]
  have hrn : rightF (lst n') = true := by rw [hnl]; exact right_add hE3.symm
  have hrp : rightF (lst p) = true := by rw [hpl]; exact right_add k1
  have z0 : ((0 : Int) != 0) = false := rfl
  simp +contextual -implicitDefEqProofs (maxSteps := 2000000) only [↓wP, wQ, wQ1, wQ2, wQ3, wR, boxE, partsOf, ↓reduceIte, Nat.reduceEqDiff, Nat.reduceAdd, Nat.reduceSub, Nat.reduceLeDiff, Nat.reduceLT, Nat.reduceMul, reduceCtorEq, Int.reduceBNe, Int.reduceBEq, Int.reduceLT, Int.reduceLE, Int.reduceGT, cmV_eq, f9, f10', fa, fb, f20', ws1, ws2, Nat.mul_zero, Nat.le_refl, g1, z1', g2, z2', g3, g4, g5, z0]
  refine WC_for 3 0 (fun (j : Nat) env σ n => env 10 = .int .u64 s ∧ env 14 = slV 5 faV n' ∧ env 17 = slV 5 faV p) (by omega) (by decide) (by decide) (fun _ _ => rfl) (fun _ _ _ => rfl) ?_ ?_ _ _ _ rfl rfl ?_
  · intro j env σ n hj h1 h2 ⟨k3, k4, k5⟩
    have hc : collB (j : Int) = true := by unfold collB; rw [decide_eq_true (by omega), decide_eq_true (by omega)]; rfl
    have e1 := f22 n' (j : Int) (s + 2) (few5 (by omega) N1)
    have e2 := f22 p (j : Int) (s + 2) (few5 (by omega) P1)
    have s1 : stE (lst n') (j : Int) = 0 := by unfold stE; rw [hrn, hc]; rfl
    have s2 : stE (lst p) (j : Int) = 0 := by unfold stE; rw [hrp, hc]; rfl
    have s3 : stO (lst n') (j : Int) (s + 2) = stO (lst p) (j : Int) (s + 2) := by
      unfold stO
      rw [s1, s2, if_pos rfl, if_pos rfl, hnl, hpl]
      exact k2 (j : Int)
    rw [s1, s3] at e1
    rw [s2] at e2
    obtain ⟨R, hR⟩ : ∃ R, R = stO (lst p) (j : Int) (s + 2) := ⟨_, rfl⟩
    have hRl : R.length ≤ 200 ∧ ∀ r ∈ R, (lst r.v).length ≤ 5 := by
      rw [hR]
      unfold stO
      rw [s2, if_pos rfl]
      exact ⟨by have := nowR_len (lst p) (j : Int) (s + 2); have := P1.1; omega, nowR_all (P := fun v => (lst v).length ≤ 5) P1.2 _ _⟩
    rw [← hR] at e1 e2
    have e3 := f23 (oL R) (oL R) ⟨by rw [lst_oL]; omega, fun r hr => by rw [lst_oL] at hr; have := hRl.2 r hr; unfold Sm; omega⟩ ⟨by rw [lst_oL]; omega, fun r hr => by rw [lst_oL] at hr; have := hRl.2 r hr; unfold Sm; omega⟩
    rw [same_self] at e3
    simp +contextual -implicitDefEqProofs (maxSteps := 2000000) only [↓wP, wQ, wQ1, wQ2, wQ3, wR, boxE, partsOf, ↓reduceIte, Nat.reduceEqDiff, Nat.reduceAdd, Nat.reduceSub, Nat.reduceLeDiff, Nat.reduceLT, Nat.reduceMul, reduceCtorEq, Int.reduceBNe, Int.reduceBEq, Int.reduceLT, Int.reduceLE, Int.reduceGT, h1, k3, k4, k5, ws2, e1, e2, z0, e3]
    rfl
  · intro env σ n ⟨k3, k4, k5⟩ h1 h2
    simp +contextual -implicitDefEqProofs (maxSteps := 2000000) only [↓wP, wQ, wQ1, wQ2, wQ3, wR, boxE, partsOf, ↓reduceIte, Nat.reduceEqDiff, Nat.reduceAdd, Nat.reduceSub, Nat.reduceLeDiff, Nat.reduceLT, Nat.reduceMul, reduceCtorEq, Int.reduceBNe, Int.reduceBEq, Int.reduceLT, Int.reduceLE, Int.reduceGT]
  · exact ⟨rfl, rfl, rfl⟩
end Go.Q.SB
end

section
/- Commits, as trees. -/
set_option linter.unusedSimpArgs false
set_option linter.unusedVariables false
set_option maxRecDepth 20000
namespace Go.Q.SB
open Go.Q Go.Proofs
def eCm : Enc Try.prog 29 Cm := Enc.map
  (Enc.struct (EncF.cons (off := 0) (sz := 1) eU64 rfl (by kernel_rfl) (EncF.cons (sz := 1) eBool rfl (by kernel_rfl) (EncF.cons (sz := 1) eWrs rfl (by kernel_rfl) EncF.nil))) Try.underlying29 (by kernel_rfl))
  (fun x => ⟨x.1, x.2.1, x.2.2.1⟩) cmV (fun r => SmC r) (fun a _ => by obtain ⟨a, b, c, u⟩ := a; cases c <;> rfl) (fun a h => okWrs h.2.2.1)
end Go.Q.SB
end

section
/- The table is the program's. -/
namespace Go.Q.SB
open Go.Proofs
def Has (f : Nat) (fn : Fn) : Prop := ∃ F, Try.prog.funcs[f]? = some F ∧ cFunc Try.prog (ownB T) F = some fn ∧ (F.name == "runtime.NumGoroutine") = false
theorem h4 : Has 4 g4 := ⟨Try.f4, Try.func4, by kernel_rfl, by kernel_rfl⟩
theorem h9 : Has 9 g9 := ⟨Try.f9, Try.func9, by kernel_rfl, by kernel_rfl⟩
theorem h10 : Has 10 g10 := ⟨Try.f10, Try.func10, by kernel_rfl, by kernel_rfl⟩
theorem h12 : Has 12 g12 := ⟨Try.f12, Try.func12, by kernel_rfl, by kernel_rfl⟩
theorem h13 : Has 13 g13 := ⟨Try.f13, Try.func13, by kernel_rfl, by kernel_rfl⟩
theorem h20 : Has 20 g20 := ⟨Try.f20, Try.func20, by kernel_rfl, by kernel_rfl⟩
theorem h21 : Has 21 g21 := ⟨Try.f21, Try.func21, by kernel_rfl, by kernel_rfl⟩
theorem h22 : Has 22 g22 := ⟨Try.f22, Try.func22, by kernel_rfl, by kernel_rfl⟩
theorem h23 : Has 23 g23 := ⟨Try.f23, Try.func23, by kernel_rfl, by kernel_rfl⟩
theorem h24 : Has 24 g24 := ⟨Try.f24, Try.func24, by kernel_rfl, by kernel_rfl⟩
theorem h30 : Has 30 g30 := ⟨Try.f30, Try.func30, by kernel_rfl, by kernel_rfl⟩
theorem h42 : Has 42 g42 := ⟨Try.f42, Try.func42, by kernel_rfl, by kernel_rfl⟩
theorem h43 : Has 43 g43 := ⟨Try.f43, Try.func43, by kernel_rfl, by kernel_rfl⟩
theorem h44 : Has 44 g44 := ⟨Try.f44, Try.func44, by kernel_rfl, by kernel_rfl⟩
theorem h45 : Has 45 g45 := ⟨Try.f45, Try.func45, by kernel_rfl, by kernel_rfl⟩
theorem h46 : Has 46 g46 := ⟨Try.f46, Try.func46, by kernel_rfl, by kernel_rfl⟩
theorem h47 : Has 47 g47 := ⟨Try.f47, Try.func47, by kernel_rfl, by kernel_rfl⟩
theorem h48 : Has 48 g48 := ⟨Try.f48, Try.func48, by kernel_rfl, by kernel_rfl⟩
theorem h49 : Has 49 g49 := ⟨Try.f49, Try.func49, by kernel_rfl, by kernel_rfl⟩
theorem h50 : Has 50 g50 := ⟨Try.f50, Try.func50, by kernel_rfl, by kernel_rfl⟩
theorem h57 : Has 57 g57 := ⟨Try.f57, Try.func57, by kernel_rfl, by kernel_rfl⟩
theorem h58 : Has 58 g58 := ⟨Try.f58, Try.func58, by kernel_rfl, by kernel_rfl⟩
theorem h59 : Has 59 g59 := ⟨Try.f59, Try.func59, by kernel_rfl, by kernel_rfl⟩
theorem h60 : Has 60 g60 := ⟨Try.f60, Try.func60, by kernel_rfl, by kernel_rfl⟩
theorem h61 : Has 61 g61 := ⟨Try.f61, Try.func61, by kernel_rfl, by kernel_rfl⟩
theorem h62 : Has 62 g62 := ⟨Try.f62, Try.func62, by kernel_rfl, by kernel_rfl⟩
theorem h65 : Has 65 g65 := ⟨Try.f65, Try.func65, by kernel_rfl, by kernel_rfl⟩
theorem h67 : Has 67 g67 := ⟨Try.f67, Try.func67, by kernel_rfl, by kernel_rfl⟩
theorem h70 : Has 70 g70 := ⟨Try.f70, Try.func70, by kernel_rfl, by kernel_rfl⟩
theorem h71 : Has 71 g71 := ⟨Try.f71, Try.func71, by kernel_rfl, by kernel_rfl⟩
theorem h74 : Has 74 g74 := ⟨Try.f74, Try.func74, by kernel_rfl, by kernel_rfl⟩
theorem h75 : Has 75 g75 := ⟨Try.f75, Try.func75, by kernel_rfl, by kernel_rfl⟩
theorem h77 : Has 77 g77 := ⟨Try.f77, Try.func77, by kernel_rfl, by kernel_rfl⟩
theorem h91 : Has 91 g91 := ⟨Try.f91, Try.func91, by kernel_rfl, by kernel_rfl⟩
theorem h92 : Has 92 g92 := ⟨Try.f92, Try.func92, by kernel_rfl, by kernel_rfl⟩
theorem h93 : Has 93 g93 := ⟨Try.f93, Try.func93, by kernel_rfl, by kernel_rfl⟩
theorem h94 : Has 94 g94 := ⟨Try.f94, Try.func94, by kernel_rfl, by kernel_rfl⟩
theorem h95 : Has 95 g95 := ⟨Try.f95, Try.func95, by kernel_rfl, by kernel_rfl⟩
theorem h96 : Has 96 g96 := ⟨Try.f96, Try.func96, by kernel_rfl, by kernel_rfl⟩
theorem h97 : Has 97 g97 := ⟨Try.f97, Try.func97, by kernel_rfl, by kernel_rfl⟩
theorem h98 : Has 98 g98 := ⟨Try.f98, Try.func98, by kernel_rfl, by kernel_rfl⟩
theorem h100 : Has 100 g100 := ⟨Try.f100, Try.func100, by kernel_rfl, by kernel_rfl⟩
theorem h101 : Has 101 g101 := ⟨Try.f101, Try.func101, by kernel_rfl, by kernel_rfl⟩
theorem h103 : Has 103 g103 := ⟨Try.f103, Try.func103, by kernel_rfl, by kernel_rfl⟩
theorem h104 : Has 104 g104 := ⟨Try.f104, Try.func104, by kernel_rfl, by kernel_rfl⟩
theorem h105 : Has 105 g105 := ⟨Try.f105, Try.func105, by kernel_rfl, by kernel_rfl⟩
theorem h109 : Has 109 g109 := ⟨Try.f109, Try.func109, by kernel_rfl, by kernel_rfl⟩
theorem h110 : Has 110 g110 := ⟨Try.f110, Try.func110, by kernel_rfl, by kernel_rfl⟩
theorem h111 : Has 111 g111 := ⟨Try.f111, Try.func111, by kernel_rfl, by kernel_rfl⟩
theorem h112 : Has 112 g112 := ⟨Try.f112, Try.func112, by kernel_rfl, by kernel_rfl⟩
theorem h113 : Has 113 g113 := ⟨Try.f113, Try.func113, by kernel_rfl, by kernel_rfl⟩
theorem h114 : Has 114 g114 := ⟨Try.f114, Try.func114, by kernel_rfl, by kernel_rfl⟩
theorem h115 : Has 115 g115 := ⟨Try.f115, Try.func115, by kernel_rfl, by kernel_rfl⟩
theorem h116 : Has 116 g116 := ⟨Try.f116, Try.func116, by kernel_rfl, by kernel_rfl⟩
theorem h117 : Has 117 g117 := ⟨Try.f117, Try.func117, by kernel_rfl, by kernel_rfl⟩
theorem h118 : Has 118 g118 := ⟨Try.f118, Try.func118, by kernel_rfl, by kernel_rfl⟩
theorem h119 : Has 119 g119 := ⟨Try.f119, Try.func119, by kernel_rfl, by kernel_rfl⟩
theorem h120 : Has 120 g120 := ⟨Try.f120, Try.func120, by kernel_rfl, by kernel_rfl⟩
theorem h121 : Has 121 g121 := ⟨Try.f121, Try.func121, by kernel_rfl, by kernel_rfl⟩
theorem h122 : Has 122 g122 := ⟨Try.f122, Try.func122, by kernel_rfl, by kernel_rfl⟩
theorem h123 : Has 123 g123 := ⟨Try.f123, Try.func123, by kernel_rfl, by kernel_rfl⟩
theorem h124 : Has 124 g124 := ⟨Try.f124, Try.func124, by kernel_rfl, by kernel_rfl⟩
theorem h125 : Has 125 g125 := ⟨Try.f125, Try.func125, by kernel_rfl, by kernel_rfl⟩
theorem h126 : Has 126 g126 := ⟨Try.f126, Try.func126, by kernel_rfl, by kernel_rfl⟩
theorem h127 : Has 127 g127 := ⟨Try.f127, Try.func127, by kernel_rfl, by kernel_rfl⟩
theorem h128 : Has 128 g128 := ⟨Try.f128, Try.func128, by kernel_rfl, by kernel_rfl⟩
theorem tabOf : TabOf Try.prog T := by
  intro f fn h
  simp only [T] at h
  unfold fnOf at h
  split at h
  all_goals first | (cases h; done) | skip
  all_goals (simp only [Option.some.injEq] at h; subst h)
  · exact h4
  · exact h9
  · exact h10
  · exact h12
  · exact h13
  · exact h20
  · exact h21
  · exact h22
  · exact h23
  · exact h24
  · exact h30
  · exact h42
  · exact h43
  · exact h44
  · exact h45
  · exact h46
  · exact h47
  · exact h48
  · exact h49
  · exact h50
  · exact h57
  · exact h58
  · exact h59
  · exact h60
  · exact h61
  · exact h62
  · exact h65
  · exact h67
  · exact h70
  · exact h71
  · exact h74
  · exact h75
  · exact h77
  · exact h91
  · exact h92
  · exact h93
  · exact h94
  · exact h95
  · exact h96
  · exact h97
  · exact h98
  · exact h100
  · exact h101
  · exact h103
  · exact h104
  · exact h105
  · exact h109
  · exact h110
  · exact h111
  · exact h112
  · exact h113
  · exact h114
  · exact h115
  · exact h116
  · exact h117
  · exact h118
  · exact h119
  · exact h120
  · exact h121
  · exact h122
  · exact h123
  · exact h124
  · exact h125
  · exact h126
  · exact h127
  · exact h128
theorem mixed : Try.prog.follows .mixedOrders = true := by kernel_rfl
end Go.Q.SB
end
