/- Places of the nearest centroids. -/
import Derived.Test.YthlgaehihnoohaaGreatSB
import Derived.Test.YthlgaehihnoohaaGreatProg
import Derived.KernelRfl
section
set_option linter.unusedSimpArgs false
set_option linter.unusedVariables false
namespace Go.Q.SZ
open Go.Q Go.Sort
theorem r72 (i d i' d' : Int) : res T 72 [.agg [.int .u64 i, .int .u64 d], .agg [.int .u64 i', .int .u64 d']] = some (.int .i64 (cmpH ⟨i, d⟩ ⟨i', d'⟩)) := by
  refine run_res (run_pure (fn := g72) rfl rfl (by decide) ?_)
  simp only [g72, b72, oO, oN, mV, lD, gO, pP, qQ, cI, aR]
  have h26 := r73 (cmpU d d') (cmpU i i')
  have hm26 : T.mode 73 ≠ .raw := by decide
  simp +contextual -implicitDefEqProofs (maxSteps := 2000000) only [↓wP, wQ, wQ1, wQ2, wQ3, wR, boxE, partsOf, ↓reduceIte, Nat.reduceEqDiff, Nat.reduceAdd, Nat.reduceSub, Nat.reduceLeDiff, Nat.reduceLT, Nat.reduceMul, reduceCtorEq, Int.reduceBNe, Int.reduceBEq, Int.reduceLT, Int.reduceLE, Int.reduceGT, f74, callE_eq hm26, frz_rf, h26]
  rfl
theorem f72 (i d i' d' : Int) (fs : Bool) (σ : Sto) (n lk : Nat) : callE T fs 72 [.agg [.int .u64 i, .int .u64 d], .agg [.int .u64 i', .int .u64 d']] σ n lk = some (.int .i64 (cmpH ⟨i, d⟩ ⟨i', d'⟩), σ, n) :=
  callE_tr (by decide) (r72 i d i' d') (by simp [Tr, Tr_slV]) rfl fs σ n lk
theorem raw75p (d : Array Hit) (a b id n : Nat) (σ : Sto) (hab : a ≤ b) (hb : b ≤ d.size) (hn : d.size < 1000000) (hσ : σ id = some (.row 2 (rw' d))) {Q : V → Sto → Nat → Prop}
    (hQ : ∀ σ', At σ' σ id (insertionSort ahead d a b) → Q .undef σ' n) :
    run T (.raw 118 [.ref id 0 d.size 2, .int .i64 (a : Int), .int .i64 (b : Int), .fn 72 []] σ n 0) (memQ Q) := by
  refine run_rawE (fn := g118) rfl rfl ?_
  simp only [g118, b118, oO, oN, mV, lD, gO, pP, qQ, cI, aR]
  have w1 : IntKind.i64.wrap ((a : Int) + 1) = ((a + 1 : Nat) : Int) := by rw [wrap_i64] <;> omega
  generalize hsz : d.size = N at *
  simp +contextual -implicitDefEqProofs (maxSteps := 2000000) only [↓wP, wQ, wQ1, wQ2, wQ3, wR, boxE, partsOf, ↓reduceIte, Nat.reduceEqDiff, Nat.reduceAdd, Nat.reduceSub, Nat.reduceLeDiff, Nat.reduceLT, Nat.reduceMul, reduceCtorEq, Int.reduceBNe, Int.reduceBEq, Int.reduceLT, Int.reduceLE, Int.reduceGT, w1]
  refine WC_loopI 0 (fun (s : Nat × Array Hit) env σ' n' => n' = n ∧ env 0 = .ref id 0 N 2 ∧ env 1 = .int .i64 (a : Int) ∧ env 2 = .int .i64 (b : Int) ∧ env 3 = .fn 72 [] ∧ env 8 = .int .i64 (s.1 : Int) ∧
      a < s.1 ∧ (s.1 ≤ b ∨ s.1 = a + 1) ∧ s.2.size = N ∧ At σ' σ id s.2 ∧ insOuter ahead a b s.1 s.2 = insertionSort ahead d a b) (fun s => b + 1 - s.1) ?_ (a + 1, d) _ _ _ ?_
  · intro ⟨i, e⟩ env σ1 n1 ⟨h1, h2, h3, h4, h5, h6, h7, h8, h9, h10, h11⟩
    subst h1
    simp only at h6 h7 h8 h9 h10 h11
    by_cases hlt : i < b
    · have w2 : IntKind.i64.wrap ((i : Int) + 1) = ((i + 1 : Nat) : Int) := by rw [wrap_i64] <;> omega
      have hlt' : (i : Int) < (b : Int) := by omega
      rw [insOuter, if_pos hlt] at h11
      simp +contextual -implicitDefEqProofs (maxSteps := 2000000) only [↓wP, wQ, wQ1, wQ2, wQ3, wR, boxE, partsOf, ↓reduceIte, Nat.reduceEqDiff, Nat.reduceAdd, Nat.reduceSub, Nat.reduceLeDiff, Nat.reduceLT, Nat.reduceMul, reduceCtorEq, Int.reduceBNe, Int.reduceBEq, Int.reduceLT, Int.reduceLE, Int.reduceGT, h2, h3, h4, h5, h6, hlt']
      refine WC_loopI 0 (fun (s : Nat × Array Hit) env σ' n' => n' = n1 ∧ env 0 = .ref id 0 N 2 ∧ env 1 = .int .i64 (a : Int) ∧ env 2 = .int .i64 (b : Int) ∧ env 3 = .fn 72 [] ∧ env 8 = .int .i64 (i : Int) ∧ env 9 = .int .i64 (s.1 : Int) ∧
          s.1 ≤ i ∧ s.2.size = N ∧ At σ' σ id s.2 ∧ insInner ahead a s.1 s.2 = insInner ahead a i e) (fun s => s.1) ?_ (i, e) _ _ _ ?_
      · clear h2 h3 h4 h5 h6 h10
        intro ⟨j, g⟩ env σ2 n2 ⟨k1, k2, k3, k4, k5, k6, k7, k8, k9, k10, k11⟩
        subst k1
        simp only at k7 k8 k9 k10 k11
        have hat := k10.1
        by_cases hja : a < j
        · obtain ⟨j, rfl⟩ : ∃ j', j = j' + 1 := ⟨j - 1, by omega⟩
          have hja' : (a : Int) < ((j + 1 : Nat) : Int) := by omega
          have w3 : IntKind.i64.wrap (((j + 1 : Nat) : Int) - 1) = (j : Int) := by rw [wrap_i64] <;> omega
          have x1 := rw_at (d := g) (i := j + 1) (by omega)
          have x2 := rw_at (d := g) (i := j) (by omega)
          have l1 : j + 1 < N := by omega
          have l2 : j < N := by omega
          by_cases hc : cmpH g[j + 1]! g[j]! < 0
          · have hah : ahead g[j + 1]! g[j]! = true := by rw [← cmp_lt]; simpa using hc
            obtain ⟨u, v, x3⟩ := rw_set_at (d := g) (i := j + 1) (j := j) (x := g[j]!) (by omega)
            simp +contextual -implicitDefEqProofs (maxSteps := 2000000) only [↓wP, wQ, wQ1, wQ2, wQ3, wR, boxE, partsOf, ↓reduceIte, Nat.reduceEqDiff, Nat.reduceAdd, Nat.reduceSub, Nat.reduceLeDiff, Nat.reduceLT, Nat.reduceMul, reduceCtorEq, Int.reduceBNe, Int.reduceBEq, Int.reduceLT, Int.reduceLE, Int.reduceGT, k2, k3, k4, k5, k6, k7, hja', w3, hat, l1, l2, x1, x2, x3, f72, hc]
            refine ⟨(j, swp g (j + 1) j), by dsimp only; omega, rfl, by dsimp only; omega, by rw [swp_size, k9], k10.swp _ _, ?_⟩
            dsimp only
            rw [← insIn_lt hja hah]
            exact k11
          · have hah : ahead g[j + 1]! g[j]! = false := by rw [← cmp_lt]; simpa using hc
            simp +contextual -implicitDefEqProofs (maxSteps := 2000000) only [↓wP, wQ, wQ1, wQ2, wQ3, wR, boxE, partsOf, ↓reduceIte, Nat.reduceEqDiff, Nat.reduceAdd, Nat.reduceSub, Nat.reduceLeDiff, Nat.reduceLT, Nat.reduceMul, reduceCtorEq, Int.reduceBNe, Int.reduceBEq, Int.reduceLT, Int.reduceLE, Int.reduceGT, k2, k3, k4, k5, k6, k7, hja', w3, hat, l1, l2, x1, x2, f72, hc, w2]
            refine ⟨(i + 1, g), by dsimp only; omega, rfl, by dsimp only; omega, by dsimp only; omega, k9, k10, ?_⟩
            dsimp only
            rw [insIn_stop (.inr ⟨by omega, hah⟩)] at k11
            rw [k11]
            exact h11
        · have hja' : ¬ (a : Int) < (j : Int) := by omega
          simp +contextual -implicitDefEqProofs (maxSteps := 2000000) only [↓wP, wQ, wQ1, wQ2, wQ3, wR, boxE, partsOf, ↓reduceIte, Nat.reduceEqDiff, Nat.reduceAdd, Nat.reduceSub, Nat.reduceLeDiff, Nat.reduceLT, Nat.reduceMul, reduceCtorEq, Int.reduceBNe, Int.reduceBEq, Int.reduceLT, Int.reduceLE, Int.reduceGT, k2, k3, k4, k5, k6, k7, hja', w2]
          refine ⟨(i + 1, g), by dsimp only; omega, rfl, by dsimp only; omega, by dsimp only; omega, k9, k10, ?_⟩
          dsimp only
          rw [insIn_stop (.inl (by omega))] at k11
          rw [k11]
          exact h11
      · simp +contextual -implicitDefEqProofs (maxSteps := 2000000) only [↓wP, wQ, wQ1, wQ2, wQ3, wR, boxE, partsOf, ↓reduceIte, Nat.reduceEqDiff, Nat.reduceAdd, Nat.reduceSub, Nat.reduceLeDiff, Nat.reduceLT, Nat.reduceMul, reduceCtorEq, Int.reduceBNe, Int.reduceBEq, Int.reduceLT, Int.reduceLE, Int.reduceGT, h2, h3, h4, h5, h6]
        exact ⟨h9, h10⟩
    · have hlt' : ¬ (i : Int) < (b : Int) := by omega
      rw [insOuter, if_neg hlt] at h11
      simp +contextual -implicitDefEqProofs (maxSteps := 2000000) only [↓wP, wQ, wQ1, wQ2, wQ3, wR, boxE, partsOf, ↓reduceIte, Nat.reduceEqDiff, Nat.reduceAdd, Nat.reduceSub, Nat.reduceLeDiff, Nat.reduceLT, Nat.reduceMul, reduceCtorEq, Int.reduceBNe, Int.reduceBEq, Int.reduceLT, Int.reduceLE, Int.reduceGT, h2, h3, h4, h5, h6, hlt']
      refine hQ _ ?_
      rw [← h11]
      exact h10
  · simp +contextual -implicitDefEqProofs (maxSteps := 2000000) only [↓wP, wQ, wQ1, wQ2, wQ3, wR, boxE, partsOf, ↓reduceIte, Nat.reduceEqDiff, Nat.reduceAdd, Nat.reduceSub, Nat.reduceLeDiff, Nat.reduceLT, Nat.reduceMul, reduceCtorEq, Int.reduceBNe, Int.reduceBEq, Int.reduceLT, Int.reduceLE, Int.reduceGT]
    exact ⟨by omega, .inr trivial, hsz, At.refl hσ, rfl⟩
theorem raw75pN {d : Array Hit} {N : Nat} (hN : d.size = N) (a b id n : Nat) (σ : Sto) (hab : a ≤ b) (hb : b ≤ N) (hn : N < 1000000) (hσ : σ id = some (.row 2 (rw' d))) {Q : V → Sto → Nat → Prop}
    (hQ : ∀ σ', At σ' σ id (insertionSort ahead d a b) → Q .undef σ' n) :
    run T (.raw 118 [.ref id 0 N 2, .int .i64 (a : Int), .int .i64 (b : Int), .fn 72 []] σ n 0) (memQ Q) := by subst hN; exact raw75p d a b id n σ hab hb hn hσ hQ
theorem raw62p {d : Array Hit} {N : Nat} (hN : d.size = N) (lim : Int) (id n : Nat) (σ : Sto) (h12 : N ≤ 12) (hσ : σ id = some (.row 2 (rw' d))) {Q : V → Sto → Nat → Prop}
    (hQ : ∀ σ', At σ' σ id (insertionSort ahead d 0 N) → Q .undef σ' n) :
    run T (.raw 105 [.ref id 0 N 2, .int .i64 0, .int .i64 (N : Int), .int .i64 lim, .fn 72 []] σ n 0) (memQ Q) := by
  refine run_rawE (fn := g105) rfl rfl ?_
  simp only [g105, b105, oO, oN, mV, lD, gO, pP, qQ, cI, aR]
  have w1 : IntKind.i64.wrap ((N : Int) - 0) = (N : Int) := by rw [wrap_i64] <;> omega
  have h12' : (N : Int) ≤ 12 := by omega
  simp +contextual -implicitDefEqProofs (maxSteps := 2000000) only [↓wP, wQ, wQ1, wQ2, wQ3, wR, boxE, partsOf, ↓reduceIte, Nat.reduceEqDiff, Nat.reduceAdd, Nat.reduceSub, Nat.reduceLeDiff, Nat.reduceLT, Nat.reduceMul, reduceCtorEq, Int.reduceBNe, Int.reduceBEq, Int.reduceLT, Int.reduceLE, Int.reduceGT, w1]
  refine WC_loopI 0 (fun (s : Nat) env σ' n' => n' = n ∧ σ' = σ ∧ env 0 = .ref id 0 N 2 ∧ env 1 = .int .i64 0 ∧ env 2 = .int .i64 (N : Int) ∧ env 4 = .fn 72 []) (fun s => s) ?_ 0 _ _ _ ?_
  · intro _ env σ' n' ⟨h1, h2, h3, h4, h5, h6⟩
    subst h1 h2
    simp +contextual -implicitDefEqProofs (maxSteps := 2000000) only [↓wP, wQ, wQ1, wQ2, wQ3, wR, boxE, partsOf, ↓reduceIte, Nat.reduceEqDiff, Nat.reduceAdd, Nat.reduceSub, Nat.reduceLeDiff, Nat.reduceLT, Nat.reduceMul, reduceCtorEq, Int.reduceBNe, Int.reduceBEq, Int.reduceLT, Int.reduceLE, Int.reduceGT, w1, h3, h4, h5, h6, h12']
    refine stepW_raw (by decide) (raw75pN hN 0 N id n' σ' (by omega) (by omega) (by omega) hσ fun σ2 hat => ?_)
    simp +contextual -implicitDefEqProofs (maxSteps := 2000000) only [↓wP, wQ, wQ1, wQ2, wQ3, wR, boxE, partsOf, ↓reduceIte, Nat.reduceEqDiff, Nat.reduceAdd, Nat.reduceSub, Nat.reduceLeDiff, Nat.reduceLT, Nat.reduceMul, reduceCtorEq, Int.reduceBNe, Int.reduceBEq, Int.reduceLT, Int.reduceLE, Int.reduceGT]
    exact hQ σ2 hat
  · simp +contextual -implicitDefEqProofs (maxSteps := 2000000) only [↓wP, wQ, wQ1, wQ2, wQ3, wR, boxE, partsOf, ↓reduceIte, Nat.reduceEqDiff, Nat.reduceAdd, Nat.reduceSub, Nat.reduceLeDiff, Nat.reduceLT, Nat.reduceMul, reduceCtorEq, Int.reduceBNe, Int.reduceBEq, Int.reduceLT, Int.reduceLE, Int.reduceGT]
theorem raw46p {d : Array Hit} {N : Nat} (hN : d.size = N) (id n : Nat) (σ : Sto) (h12 : N ≤ 12) (hσ : σ id = some (.row 2 (rw' d))) {Q : V → Sto → Nat → Prop}
    (hQ : ∀ σ', (∀ i, i ≠ id → σ' i = σ i) → σ' id = some (.row 2 (hs (srt d.toList))) → Q .undef σ' n) :
    run T (.raw 71 [.ref id 0 N 2, .fn 72 []] σ n 0) (memQ Q) := by
  refine run_rawE (fn := g71) rfl rfl ?_
  simp only [g71, b71, oO, oN, mV, lD, gO, pP, qQ, cI, aR]
  obtain ⟨M, h1, h2, h3⟩ := r106 N (by omega)
  have f106 := callE_tr (fs := true) (by decide) h3 (by simp [Tr]) rfl
  have wu : IntKind.u64.wrap ((N : Nat) : Int) = ((N : Nat) : Int) := by rw [wrap_u64] <;> omega
  simp +contextual -implicitDefEqProofs (maxSteps := 2000000) only [↓wP, wQ, wQ1, wQ2, wQ3, wR, boxE, partsOf, ↓reduceIte, Nat.reduceEqDiff, Nat.reduceAdd, Nat.reduceSub, Nat.reduceLeDiff, Nat.reduceLT, Nat.reduceMul, reduceCtorEq, Int.reduceBNe, Int.reduceBEq, Int.reduceLT, Int.reduceLE, Int.reduceGT, wu, f106]
  refine stepW_raw (by decide) (raw62p hN _ id n σ h12 hσ fun σ' hat => ?_)
  simp +contextual -implicitDefEqProofs (maxSteps := 2000000) only [↓wP, wQ, wQ1, wQ2, wQ3, wR, boxE, partsOf, ↓reduceIte, Nat.reduceEqDiff, Nat.reduceAdd, Nat.reduceSub, Nat.reduceLeDiff, Nat.reduceLT, Nat.reduceMul, reduceCtorEq, Int.reduceBNe, Int.reduceBEq, Int.reduceLT, Int.reduceLE, Int.reduceGT]
  refine hQ σ' hat.2 ?_
  have hs' := insertionSort_holds (lt := ahead) swoA d 0 N (by omega) (by omega)
  subst hN
  obtain ⟨e, he⟩ : ∃ e, e = insertionSort ahead d 0 d.size := ⟨_, rfl⟩
  have h1 := hat.1
  rw [← he] at hs' h1
  obtain ⟨⟨p1, -, p3⟩, p4⟩ := hs'
  have ee : e.toList = srt d.toList := by
    refine Srt.uniq (sorted_list (by rw [p1]; exact p4)) (srt_srt _) ?_
    have q1 : (e.extract 0 d.size).toList = e.toList := by rw [← p1]; simp
    have q2 : (d.extract 0 d.size).toList = d.toList := by simp
    rw [q1, q2] at p3
    exact p3.trans (srt_perm _).symm
  rw [h1, ← ee]; rfl
def ctH (q : Vc) (c : List Vc) (i : Nat) : List Hit := (c.zipIdx i).map fun p => ⟨p.2, distI p.1 q⟩
theorem ctH_len (q : Vc) (c : List Vc) (i : Nat) : (ctH q c i).length = c.length := by simp [ctH]
theorem ctH_get (q : Vc) (c : List Vc) (j : Nat) (h : j < c.length) : (ctH q c 0)[j]? = some ⟨j, distI c[j] q⟩ := by
  simp [ctH, List.getElem?_zipIdx, h]
def zh : V := .agg [.int .u64 0, .int .u64 0]
def fil (q : Vc) (c : List Vc) (j : Nat) : List V := hs ((ctH q c 0).take j) ++ List.replicate (c.length - j) zh
theorem fil_len (q : Vc) (c : List Vc) (j : Nat) (hj : j ≤ c.length) : (fil q c j).length = c.length := by simp [fil, hs_len, ctH_len]; omega
theorem fil_set (q : Vc) (c : List Vc) (j : Nat) (hj : j < c.length) : (fil q c j).set j (.agg [.int .u64 (j : Int), .int .u64 (distI c[j] q)]) = fil q c (j + 1) := by
  have h1 : (hs ((ctH q c 0).take j)).length = j := by rw [hs_len, List.length_take, ctH_len]; omega
  have h2 : (ctH q c 0)[j]'(by rw [ctH_len]; exact hj) = ⟨j, distI c[j] q⟩ := by
    have := ctH_get q c j hj
    rw [List.getElem?_eq_getElem (by rw [ctH_len]; exact hj)] at this
    exact Option.some.inj this
  have h3 : (ctH q c 0).take (j + 1) = (ctH q c 0).take j ++ [⟨j, distI c[j] q⟩] := by rw [← h2]; exact (List.take_append_getElem _).symm
  have h4 : c.length - j = (c.length - (j + 1)) + 1 := by omega
  unfold fil
  rw [h3, h4, List.replicate_succ, List.set_append_right _ _ (by omega), h1, Nat.sub_self, List.set_cons_zero, ← hs_app]
  simp [hs, hitV]
def srcV (q : Vc) (k ts n : Int) (c : Option (List Vc)) : List V := [slV 1 i32V q, .int .i64 k, .int .u64 ts, .int .i64 n, slV 1 vecV c]
theorem r42 (q : Vc) (k ts m : Int) (c : Option (List Vc)) (hc : cents c = true) (hv : ∀ v ∈ lst c, Sm v) (hq : Sm q) (hq2 : okV q = true) (hd : dm c = (lst q).length) (hne : lst c ≠ []) :
    res T 42 [.agg (srcV q k ts m c)] = some (.fn 75 [.box [.sl 2 (hs (srt (ctH q (lst c) 0)))], .box (srcV q k ts m c)]) := by
  refine run_res (run_pure (fn := g42) rfl rfl (by decide) ?_)
  simp only [g42, b42, oO, oN, mV, lD, gO, pP, qQ, cI, aR, srcV]
  have h6 : (lst c).length ≤ 6 := by unfold cents at hc; simp only [Bool.and_eq_true, decide_eq_true_eq] at hc; exact hc.1
  have hall : ∀ v ∈ lst c, okV v = true ∧ (lst v).length = dm c := by
    unfold cents at hc
    simp only [Bool.and_eq_true, decide_eq_true_eq] at hc
    intro v hv
    have := List.all_eq_true.1 hc.2 v hv
    simpa [okC] using this
  have b1 : (0 : Int) ≤ ((lst c).length : Int) := by omega
  have b2 : ((16 : Nat) : Int) * ((lst c).length : Int) ≤ 140737488355328 := by omega
  have b3 : ((lst c).length : Int).toNat = (lst c).length := rfl
  simp +contextual -implicitDefEqProofs (maxSteps := 2000000) only [↓wP, wQ, wQ1, wQ2, wQ3, wR, boxE, partsOf, ↓reduceIte, Nat.reduceEqDiff, Nat.reduceAdd, Nat.reduceSub, Nat.reduceLeDiff, Nat.reduceLT, Nat.reduceMul, reduceCtorEq, Int.reduceBNe, Int.reduceBEq, Int.reduceLT, Int.reduceLE, Int.reduceGT, b1, b2, b3]
  obtain ⟨N, hN⟩ : ∃ N, N = (lst c).length := ⟨_, rfl⟩
  refine WC_for (lst c).length 0 (fun (j : Nat) env σ n => env 1 = .ptr 0 5 0 0 ∧ env 3 = .ptr 2 1 0 0 ∧ env 13 = slV 1 vecV c ∧ n = 3 ∧ σ 0 = some (.row 5 [.agg [slV 1 i32V q, .int .i64 k, .int .u64 ts, .int .i64 m, slV 1 vecV c]]) ∧
    σ 2 = some (.row 1 [.ref 1 0 (lst c).length 2]) ∧ σ 1 = some (.row 2 (fil q (lst c) j))) (by omega) (by decide) (by decide) (fun _ _ => rfl) (fun _ _ _ => rfl) ?_ ?_ _ _ _ rfl rfl ?_
  · intro j env σ n hj h1 h2 ⟨g1, g2, g3, g4, g5, g6, g7⟩
    simp only [vl_tmp] at h2
    subst g4
    have hx : (lst c)[j]? = some (lst c)[j] := List.getElem?_eq_getElem hj
    have hm := List.getElem_mem hj
    have hst := fil_set q (lst c) j hj
    obtain ⟨o1, o2⟩ := hall _ hm
    have hxs := hv _ hm
    have hfl := fil_len q (lst c) j (by omega)
    have xg : (fil q (lst c) j)[j]? = some (.agg [.int .u64 0, .int .u64 0]) := by
      unfold fil
      rw [List.getElem?_append_right (by rw [hs_len, List.length_take, ctH_len]; omega), hs_len, List.length_take, ctH_len, Nat.min_eq_left (by omega), Nat.sub_self, List.getElem?_replicate, if_pos (by omega)]
      rfl
    generalize (lst c)[j] = x at *
    have hva : vAll x q = 0 := by unfold vAll; rw [o1, hq2]; simp [o2, hd]
    have f := f70 x q hxs hq
    have e1 : disE x q = 0 := hva
    have e2 : disV x q = distI x q := by unfold disV; rw [if_pos hva]
    rw [e1, e2] at f
    have wj : IntKind.u64.wrap ((j : Nat) : Int) = ((j : Nat) : Int) := by rw [wrap_u64] <;> omega
    simp +contextual -implicitDefEqProofs (maxSteps := 2000000) only [↓wP, wQ, wQ1, wQ2, wQ3, wR, boxE, partsOf, ↓reduceIte, Nat.reduceEqDiff, Nat.reduceAdd, Nat.reduceSub, Nat.reduceLeDiff, Nat.reduceLT, Nat.reduceMul, reduceCtorEq, Int.reduceBNe, Int.reduceBEq, Int.reduceLT, Int.reduceLE, Int.reduceGT, h1, h2, g1, g2, g3, g5, g6, g7, hx, vecV_eq, f, wj, hj, xg, hst]
  · intro env σ n ⟨g1, g2, g3, g4, g5, g6, g7⟩ h1 h2
    subst g4
    have hfu : fil q (lst c) (lst c).length = hs (ctH q (lst c) 0) := by
      unfold fil
      rw [Nat.sub_self, List.replicate_zero, List.append_nil, List.take_of_length_le (by rw [ctH_len]; omega)]
    rw [hfu] at g7
    simp +contextual -implicitDefEqProofs (maxSteps := 2000000) only [↓wP, wQ, wQ1, wQ2, wQ3, wR, boxE, partsOf, ↓reduceIte, Nat.reduceEqDiff, Nat.reduceAdd, Nat.reduceSub, Nat.reduceLeDiff, Nat.reduceLT, Nat.reduceMul, reduceCtorEq, Int.reduceBNe, Int.reduceBEq, Int.reduceLT, Int.reduceLE, Int.reduceGT, g2, g6]
    refine stepW_raw (by decide) (raw46p (d := (ctH q (lst c) 0).toArray) (N := (lst c).length) (by simp [ctH_len]) 1 3 σ (by omega) (by rw [rw_hs]; exact g7) fun σ2 p1 p2 => ?_)
    have p3 : σ2 0 = some (.row 5 [.agg [slV 1 i32V q, .int .i64 k, .int .u64 ts, .int .i64 m, slV 1 vecV c]]) := by rw [p1 0 (by decide)]; exact g5
    have p4 : σ2 2 = some (.row 1 [.ref 1 0 (lst c).length 2]) := by rw [p1 2 (by decide)]; exact g6
    simp only [List.toList_toArray] at p2
    have fr : frz σ2 10 (.ref 1 0 (lst c).length 2) = some (.sl 2 (hs (srt (ctH q (lst c) 0)))) := by
      have he : elems σ2 2 (.ref 1 0 (lst c).length 2) = some (hs (srt (ctH q (lst c) 0))) := by
        have hlen : (hs (srt (ctH q (lst c) 0))).length = (lst c).length := by rw [hs_len, srt_len, ctH_len]
        simp only [elems, p2]
        rw [if_pos ⟨trivial, trivial, by omega⟩, List.drop_zero, List.take_of_length_le (by omega)]
      show (elems _ _ _).bind _ = _
      rw [he, Option.bind_some, mapM_id (fun x hx => by obtain ⟨h, _, rfl⟩ := List.mem_map.1 hx; rfl)]
      rfl
    simp +contextual -implicitDefEqProofs (maxSteps := 2000000) only [↓wP, wQ, wQ1, wQ2, wQ3, wR, boxE, partsOf, ↓reduceIte, Nat.reduceEqDiff, Nat.reduceAdd, Nat.reduceSub, Nat.reduceLeDiff, Nat.reduceLT, Nat.reduceMul, reduceCtorEq, Int.reduceBNe, Int.reduceBEq, Int.reduceLT, Int.reduceLE, Int.reduceGT, g1, g2, p3, p4, fr]
  · simp +contextual -implicitDefEqProofs (maxSteps := 2000000) only [↓wP, wQ, wQ1, wQ2, wQ3, wR, boxE, partsOf, ↓reduceIte, Nat.reduceEqDiff, Nat.reduceAdd, Nat.reduceSub, Nat.reduceLeDiff, Nat.reduceLT, Nat.reduceMul, reduceCtorEq, Int.reduceBNe, Int.reduceBEq, Int.reduceLT, Int.reduceLE, Int.reduceGT]
    simp [fil, zh, hs]
end Go.Q.SZ
end

section
/- The nearest centroids: what the program says. -/
set_option linter.unusedSimpArgs false
set_option linter.unusedVariables false
namespace Go.Q.SZ
open Go.Q Go.Sort
theorem yieldW_gs {T : Tab} {l : Nat} {args : List V} {σ : Sto} {n lk : Nat} {Q : V → Sto → Nat → Prop} {env : Nat → V} {ps : List Nat} {assign body : AC} {pend : Option Ex}
    (hl : σ l = some (.loop env ps assign body .ready pend)) (ha : args.length = ps.length) (hlk : lk ≤ l)
    (h : WC T assign (bindPs env ps args) σ n lk fun ex s => ex = .normal ∧ s.σ l = some (.loop env ps assign body .ready pend) ∧ s.lk = lk ∧
      WC T body s.env (upd s.σ l (some (.loop env ps assign body .busy pend))) s.n lk fun ex s' => s'.σ l = some (.loop env ps assign body .busy pend) ∧
        ((ex = .normal ∧ Q (.bool true) (upd s'.σ l (some (.loop env ps assign body .ready none))) s'.n) ∨ (ex = .ret ∧ Q (.bool false) (upd s'.σ l (some (.loop env ps assign body .done (some .ret)))) s'.n))) (hd : assign.det = true ∧ body.det = true := by exact ⟨rfl, rfl⟩) : yieldW (run T) l args σ n lk Q := by
  unfold yieldW
  simp only [hl]
  refine ⟨ha, hlk, run_step hd ?_⟩
  simp only [jobW]
  refine wpC_mono (fun _ _ x => x) run_mono _ _ _ _ (fun e s ⟨h1, h2, h3, h4⟩ => ?_) (WC_ok _ _ _ _ _ _ h)
  obtain ⟨env1, σ1, n1, lk1⟩ := s
  simp only at h2 h3 h4
  subst h3
  refine ⟨h1, env, ps, assign, body, pend, h2, wpC_mono (fun _ _ x => x) run_mono _ _ _ _ (fun e2 s2 ⟨k2, k3⟩ => ?_) (WC_ok _ _ _ _ _ _ h4)⟩
  refine ⟨⟨env, ps, assign, body, pend, k2⟩, env, ps, assign, body, pend, k2, ?_⟩
  rcases k3 with ⟨rfl, k3⟩ | ⟨rfl, k3⟩
  · simpa using k3
  · simpa using k3
def iV (i : Int) : V := .int .i64 i
theorem iV_eq (i : Int) : iV i = .int .i64 i := rfl
def ownI (l : List Int) : V := if l = [] then .nilS else .own 1 (l.map iV)
def iVal (n : Nat) (l : List Int) : V := if l = [] then .nilS else .ref n 0 l.length 1
def iSto (σ : Sto) (n : Nat) (l : List Int) : Sto := if l = [] then σ else upd σ n (some (.row 1 (l.map iV)))
def iN (n : Nat) (l : List Int) : Nat := if l = [] then n else n + 1
theorem iter48 (q : Vc) (k ts m : Int) (c : Option (List Vc)) (Hs : List Hit) (l : Nat) (J : Nat → Sto → Nat → Prop) (σ : Sto) (n : Nat) (hln : l < n) (hH : Hs.length < 1000000) (hid : ∀ h ∈ Hs, 0 ≤ h.id ∧ h.id < 1000000) (hm : 0 ≤ m)
    (hfr : ∀ j σ n σ' n', J j σ n → n ≤ n' → (∀ i, i < n → σ' i = σ i) → J j σ' n')
    (hy : ∀ j (hj : j < Hs.length) σ n, (j : Int) < m → J j σ n → l < n → yieldW (run T) l [.int .i64 Hs[j].id] σ n 0 (fun y σ' n' => n ≤ n' ∧ y = .bool true ∧ J (j + 1) σ' n'))
    (h0 : J 0 σ n) : run T (.raw 75 (.yld l :: [.box [.sl 2 (hs Hs)], .box (srcV q k ts m c)]) σ n 0) (memQ fun _ σ' n' => J (min m.toNat Hs.length) σ' n') := by
  refine run_rawE (fn := g75) rfl rfl ?_
  simp only [g75, b75, oO, oN, mV, lD, gO, pP, qQ, cI, aR, srcV]
  obtain ⟨MP, hMP⟩ : ∃ MP : Sto → Nat → Prop, MP = fun σ' n' => J (min m.toNat Hs.length) σ' n' := ⟨_, rfl⟩
  simp only [← congrFun (congrFun hMP _) _]
  have hle : lenE (.sl 2 (hs Hs)) = some (.int .i64 (Hs.length : Int)) := by simp [lenE, lenOf, hs_len]
  simp +contextual -implicitDefEqProofs (maxSteps := 2000000) only [↓wP, wQ, wQ1, wQ2, wQ3, wR, boxE, partsOf, ↓reduceIte, Nat.reduceEqDiff, Nat.reduceAdd, Nat.reduceSub, Nat.reduceLeDiff, Nat.reduceLT, Nat.reduceMul, reduceCtorEq, Int.reduceBNe, Int.reduceBEq, Int.reduceLT, Int.reduceLE, Int.reduceGT, hle]
  refine WC_for Hs.length 0 (fun (j : Nat) env σ n => env 0 = .yld l ∧ env 2 = .box [slV 1 i32V q, .int .i64 k, .int .u64 ts, .int .i64 m, slV 1 vecV c] ∧ env 6 = .sl 2 (hs Hs) ∧ l < n ∧ (j : Int) ≤ m ∧ J j σ n) (by omega) (by decide) (by decide) (fun _ _ => rfl) (fun _ _ _ => rfl) ?_ ?_ _ _ _ rfl rfl ?_
  · intro j env σ n hj h1 h2 ⟨h3, h4, h5, h6, h7, h8⟩
    simp only [vl_tmp] at h2
    have hm' := List.getElem_mem hj
    obtain ⟨i1, i2⟩ := hid _ hm'
    have hx : (hs Hs)[j]? = some (.agg [.int .u64 Hs[j].id, .int .u64 Hs[j].d]) := by
      simp [hs, hitV, hj]
    have hJ1 := hfr _ _ _ (upd (upd σ n (some (.row 2 [.agg [.int .u64 0, .int .u64 0]]))) n (some (.row 2 [.agg [.int .u64 Hs[j].id, .int .u64 Hs[j].d]]))) (n + 1) h8 (by omega) (fun i hi => by
      have : i ≠ n := by omega
      simp [upd, this])
    have hY := hy j hj
    have wi : IntKind.i64.wrap Hs[j].id = Hs[j].id := by rw [wrap_i64] <;> omega
    generalize Hs[j] = x at *
    by_cases hjm : (j : Int) = m
    · have mp : MP (upd (upd σ n (some (.row 2 [.agg [.int .u64 0, .int .u64 0]]))) n (some (.row 2 [.agg [.int .u64 x.id, .int .u64 x.d]]))) (n + 1) := by
        rw [hMP]; dsimp only; rw [show min m.toNat Hs.length = j by omega]; exact hJ1
      have hjm' : ((j : Int) == m) = true := by simpa using hjm
      simp +contextual -implicitDefEqProofs (maxSteps := 2000000) only [↓wP, wQ, wQ1, wQ2, wQ3, wR, boxE, partsOf, ↓reduceIte, Nat.reduceEqDiff, Nat.reduceAdd, Nat.reduceSub, Nat.reduceLeDiff, Nat.reduceLT, Nat.reduceMul, reduceCtorEq, Int.reduceBNe, Int.reduceBEq, Int.reduceLT, Int.reduceLE, Int.reduceGT, h1, h2, h3, h4, h5, hx, hjm']
      exact mp
    · have hjm' : ((j : Int) == m) = false := by simpa using hjm
      simp +contextual -implicitDefEqProofs (maxSteps := 2000000) only [↓wP, wQ, wQ1, wQ2, wQ3, wR, boxE, partsOf, ↓reduceIte, Nat.reduceEqDiff, Nat.reduceAdd, Nat.reduceSub, Nat.reduceLeDiff, Nat.reduceLT, Nat.reduceMul, reduceCtorEq, Int.reduceBNe, Int.reduceBEq, Int.reduceLT, Int.reduceLE, Int.reduceGT, h1, h2, h3, h4, h5, hx, hjm', wi]
      refine stepW_yld (yieldW_mono (fun _ _ x => x) run_mono (fun y σ' n' ⟨a1, a2, a3⟩ => ?_) (hY _ _ (by omega) hJ1 (by omega)))
      subst a2
      simp +contextual -implicitDefEqProofs (maxSteps := 2000000) only [↓wP, wQ, wQ1, wQ2, wQ3, wR, boxE, partsOf, ↓reduceIte, Nat.reduceEqDiff, Nat.reduceAdd, Nat.reduceSub, Nat.reduceLeDiff, Nat.reduceLT, Nat.reduceMul, reduceCtorEq, Int.reduceBNe, Int.reduceBEq, Int.reduceLT, Int.reduceLE, Int.reduceGT, h1, h2, h3, h4, h5]
      exact ⟨by omega, by omega, a3⟩
  · intro env σ n ⟨h3, h4, h5, h6, h7, h8⟩ h1 h2
    have mp : MP σ n := by rw [hMP]; dsimp only; rw [show min m.toNat Hs.length = Hs.length by omega]; exact h8
    simp +contextual -implicitDefEqProofs (maxSteps := 2000000) only [↓wP, wQ, wQ1, wQ2, wQ3, wR, boxE, partsOf, ↓reduceIte, Nat.reduceEqDiff, Nat.reduceAdd, Nat.reduceSub, Nat.reduceLeDiff, Nat.reduceLT, Nat.reduceMul, reduceCtorEq, Int.reduceBNe, Int.reduceBEq, Int.reduceLT, Int.reduceLE, Int.reduceGT]
    exact mp
  · simp +contextual -implicitDefEqProofs (maxSteps := 2000000) only [↓wP, wQ, wQ1, wQ2, wQ3, wR, boxE, partsOf, ↓reduceIte, Nat.reduceEqDiff, Nat.reduceAdd, Nat.reduceSub, Nat.reduceLeDiff, Nat.reduceLT, Nat.reduceMul, reduceCtorEq, Int.reduceBNe, Int.reduceBEq, Int.reduceLT, Int.reduceLE, Int.reduceGT]
    exact ⟨hln, hm, h0⟩
theorem thaw_ownI (σ : Sto) (n : Nat) (l : List Int) : thaw σ n (ownI l) = (iVal n l, iSto σ n l, iN n l) := by
  cases l with
  | nil => rfl
  | cons x l =>
    unfold iVal iSto iN ownI
    rw [if_neg (by simp), if_neg (by simp), if_neg (by simp), if_neg (by simp), thaw_own, thawL_nw 12 (by
      intro y hy
      obtain ⟨z, -, rfl⟩ := List.mem_map.1 hy
      rfl), List.length_map]
theorem flat_iV (l : List Int) : flatL (l.map iV) = true := by
  induction l with
  | nil => rfl
  | cons x l ih => simp only [List.map_cons, flatL, iV, flat, Bool.true_and]; exact ih
theorem flat_ownI (l : List Int) : flat (ownI l) = true := by
  unfold ownI
  split
  · rfl
  · exact flat_iV l
theorem giv_none (σ : Sto) {e : Int} (h : e ≠ 0) (l : List Int) : giv σ 12 (.tup [.nilS, .int .i64 e]) = some (.tup [ownI (if e = 0 then l else []), .int .i64 e]) ∧ (gids σ 12 (.tup [.nilS, .int .i64 e])).Nodup := by
  rw [if_neg h]
  exact giv_tup2 ⟨rfl, by simp [gids]⟩ rfl rfl
theorem iV_giv {σ : Sto} {n : Nat} {l : List Int} {v : V} (h : Pl σ 3 n 1 v (oL (l.map iV))) : giv σ 11 v = some (ownI l) ∧ (gids σ 11 v).Nodup := by
  cases l with
  | nil => simp only [List.map_nil, oL, Pl] at h; subst h; exact ⟨rfl, by simp [gids]⟩
  | cons x l =>
    simp only [List.map_cons, oL, Pl] at h
    obtain ⟨i, rfl, h1, -, -⟩ := h
    have e : iV x :: l.map iV = (x :: l).map iV := rfl
    rw [e] at h1 ⊢
    unfold ownI
    rw [if_neg (by simp)]
    generalize x :: l = L at *
    have hg : ∀ x ∈ L.map iV, elemM (giv σ 10) x = some x := by
      intro x hx
      obtain ⟨y, -, rfl⟩ := List.mem_map.1 hx
      rfl
    have hg' : ∀ x ∈ L.map iV, ∀ c ∈ x.cells, gids σ 10 c = [] := by
      intro x hx c hc
      obtain ⟨y, -, rfl⟩ := List.mem_map.1 hx
      simp only [iV, V.cells, List.mem_cons, List.not_mem_nil, or_false] at hc
      subst hc; rfl
    constructor
    · simp only [giv, h1, and_self, if_true]
      rw [mapM_id hg]; rfl
    · simp only [gids, h1]
      rw [List.flatMap_eq_nil_iff.2 fun x hx => List.flatMap_eq_nil_iff.2 fun c hc => hg' x hx c hc]
      simp
def near (q : Vc) (c : List Vc) (m : Int) : List Int := ((srt (ctH q c 0)).take m.toNat).map (·.id)
def ask10 : AC := (.reg [⟨(some 13), none, .mov (.tmp 44)⟩])
def bd18 : AC := (.block 1 (.reg [⟨(some 45), none, .load false 1 (.tmp 12)⟩,
       ⟨(some 46), none, .mov (.tmp 13)⟩,
       ⟨(some 47), none, .lit 1 [(.tmp 46)]⟩,
       ⟨(some 48), none, .append 1 8 (.tmp 45) (.tmp 47)⟩,
       ⟨none, none, .store 1 (.tmp 12) (.tmp 48)⟩]))
theorem w_ask10 (env : Nat → V) (σ : Sto) (n lk : Nat) (Q : Ex → St → Prop) : WC T ask10 env σ n lk Q = WC T (.reg [⟨(some 13), none, .mov (.tmp 44)⟩]) env σ n lk Q := rfl
theorem w_bd18 (env : Nat → V) (σ : Sto) (n lk : Nat) (Q : Ex → St → Prop) : WC T bd18 env σ n lk Q = WC T (.block 1 (.reg [⟨(some 45), none, .load false 1 (.tmp 12)⟩,
       ⟨(some 46), none, .mov (.tmp 13)⟩,
       ⟨(some 47), none, .lit 1 [(.tmp 46)]⟩,
       ⟨(some 48), none, .append 1 8 (.tmp 45) (.tmp 47)⟩,
       ⟨none, none, .store 1 (.tmp 12) (.tmp 48)⟩])) env σ n lk Q := rfl
structure J10 (env : Nat → V) (ids : List Int) (j : Nat) (σ : Sto) (n : Nat) : Prop where
  hn : 3 ≤ n
  s2 : σ 2 = some (.loop env [44] ask10 bd18 .ready none)
  s1 : ∃ v, σ 1 = some (.row 1 [v]) ∧ Pl σ 3 n 1 v (oL ((ids.take j).map iV))
theorem J10.frame {env : Nat → V} {ids : List Int} {j : Nat} {σ σ' : Sto} {n n' : Nat} (h : J10 env ids j σ n) (hn : n ≤ n') (hs : ∀ i, i < n → σ' i = σ i) : J10 env ids j σ' n' := by
  obtain ⟨h1, h2, v, h3, h4⟩ := h
  exact ⟨by omega, by rw [hs 2 (by omega), h2], v, by rw [hs 1 (by omega), h3], h4.loc (fun i a b => hs i b) hn⟩
theorem hy18 (env : Nat → V) (ids : List Int) (he : env 12 = .ptr 1 1 0 0) (j : Nat) (hj : j < ids.length) (hI : ids.length < 1000000) (x : Int) (hx : ids[j] = x) (σ : Sto) (n : Nat) (hJ : J10 env ids j σ n) (hn : 2 < n) :
    yieldW (run T) 2 [.int .i64 x] σ n 0 (fun y σ' n' => n ≤ n' ∧ y = .bool true ∧ J10 env ids (j + 1) σ' n') := by
  obtain ⟨h1, h2, v, h3, h4⟩ := hJ
  refine yieldW_gs h2 rfl (Nat.zero_le _) ?_
  have q0 : (2 = n) = False := by simp; omega
  have q1 : (n = 2) = False := by simp; omega
  have p2 : (1 = n) = False := by simp; omega
  have hc := h4.cells
  have ho := h4.one
  simp +contextual -implicitDefEqProofs (maxSteps := 2000000) only [↓wP, wQ, wQ1, wQ2, wQ3, wR, boxE, partsOf, ↓reduceIte, Nat.reduceEqDiff, Nat.reduceAdd, Nat.reduceSub, Nat.reduceLeDiff, Nat.reduceLT, Nat.reduceMul, reduceCtorEq, Int.reduceBNe, Int.reduceBEq, Int.reduceLT, Int.reduceLE, Int.reduceGT, bind_cons, bind_nil, w_ask10, w_bd18, he, h2, h3, q0, q1, p2, hc]
  have hlen : ((ids.take j).map iV).length = j := by rw [List.length_map, List.length_take]; omega
  refine stepW_app1 (m := 3) (n0 := n) (σ0 := σ) (o := oL ((ids.take j).map iV)) h4 (fun i g1 g2 => ?_) (by omega) (by omega) (Nat.zero_le _) ?_ (fun _ σ2 g1 g2 => ?_)
  · have a1 : i ≠ n := by omega
    have a2 : i ≠ 2 := by omega
    simp [upd, a1, a2]
  · rw [lst_oL, hlen]; unfold LIM; omega
  · rw [lst_oL, hlen] at g1 ⊢
    have hv : ∀ i, i < 3 → ∀ off len s, v ≠ .ref i off len s := by
      intro i hi off len s e
      subst e
      cases ho' : oL ((ids.take j).map iV) with
      | none => rw [ho'] at h4; simp only [Pl] at h4; cases h4
      | some xs => rw [ho'] at h4; obtain ⟨j, e, -, e2, -⟩ := h4; simp only [V.ref.injEq] at e; omega
    have t1 : σ2 1 = some (.row 1 [v]) := by rw [g2 1 (by omega) (hv 1 (by omega))]; simp [upd, p2, h3]
    have t2 : σ2 2 = some (.loop env [44] ask10 bd18 .busy none) := by rw [g2 2 (by omega) (hv 2 (by omega))]; simp [upd, q0]
    have hsp : ∀ c, spliceC v 0 [c] = c := fun c => by
      cases ho' : oL ((ids.take j).map iV) with
      | none => rw [ho'] at h4; simp only [Pl] at h4; subst h4; rfl
      | some xs => rw [ho'] at h4; obtain ⟨j, rfl, -⟩ := h4; rfl
    simp +contextual -implicitDefEqProofs (maxSteps := 2000000) only [↓wP, wQ, wQ1, wQ2, wQ3, wR, boxE, partsOf, ↓reduceIte, Nat.reduceEqDiff, Nat.reduceAdd, Nat.reduceSub, Nat.reduceLeDiff, Nat.reduceLT, Nat.reduceMul, reduceCtorEq, Int.reduceBNe, Int.reduceBEq, Int.reduceLT, Int.reduceLE, Int.reduceGT, he, t1, t2, hsp]
    have eo : oL ((ids.take (j + 1)).map iV) = some ((ids.take j).map iV ++ [.int .i64 x]) := by
      rw [show ids.take (j + 1) = ids.take j ++ [ids[j]] from (List.take_append_getElem hj).symm, List.map_append, hx]
      cases ids.take j <;> rfl
    refine .inl ⟨by omega, by omega, ?_, .ref (n + 1) 0 (j + 1) 1, ?_, ?_⟩
    · simp [upd]
    · simp [upd]
    · rw [eo]
      exact g1.loc (fun i a1 a2 => by
        have b1 : i ≠ 1 := by omega
        have b2 : i ≠ 2 := by omega
        simp [upd, b1, b2]) (Nat.le_refl _)
theorem near_len (q : Vc) (c : List Vc) (m : Int) (hm : 0 ≤ m) : (near q c m).length = min m.toNat c.length := by
  unfold near; rw [List.length_map, List.length_take, srt_len, ctH_len]
theorem ct_id {q : Vc} {c : List Vc} {h : Hit} (hh : h ∈ srt (ctH q c 0)) : 0 ≤ h.id ∧ h.id < c.length := by
  have := (srt_perm _).mem_iff.1 hh
  obtain ⟨p, hp, rfl⟩ := List.mem_map.1 this
  have := List.mem_zipIdx hp
  simp only
  omega
theorem WC_env {T : Tab} {c : AC} {env : Nat → V} {σ : Sto} {n lk : Nat} {Q : Ex → St → Prop} (h : ∀ e, e = env → WC T c e σ n lk Q) : WC T c env σ n lk Q := h _ rfl
theorem r18 (c : Option (List Vc)) (v : Vc) (m : Int) (hl : (lst c).length ≤ 7) (hv : ∀ v ∈ lst c, Sm v) (hv' : Sm v) : res T 18 [slV 1 vecV c, slV 1 i32V v, .int .i64 m] = some (.tup [ownI (if nrE c v m = 0 then near v (lst c) m else []), .int .i64 (nrE c v m)]) := by
  refine run_res (run_own (fn := g18) rfl rfl (by decide) ?_)
  simp only [g18, b18, oO, oN, mV, lD, gO, pP, qQ, cI, aR]
  have f1 := f34 m
  have f2 := f46 v hv'
  have f3 := f37 c hl hv
  by_cases ha : askE m = 0
  · have hm : 1 ≤ m := by unfold askE at ha; split at ha; cases ha; omega
    cases ho : okV v
    · rw [ho] at f2
      rw [ha] at f1
      have e : nrE c v m = 150 := by unfold nrE; rw [if_neg (by omega), ho]; rfl
      rw [e]
      simp +contextual -implicitDefEqProofs (maxSteps := 2000000) only [↓wP, wQ, wQ1, wQ2, wQ3, wR, boxE, partsOf, ↓reduceIte, Nat.reduceEqDiff, Nat.reduceAdd, Nat.reduceSub, Nat.reduceLeDiff, Nat.reduceLT, Nat.reduceMul, reduceCtorEq, Int.reduceBNe, Int.reduceBEq, Int.reduceLT, Int.reduceLE, Int.reduceGT, f1, f2]
      exact giv_none _ (by decide) _
    · rw [ho] at f2
      have e : nrE c v m = cnE c v := by unfold nrE; rw [if_neg (by omega), ho]; rfl
      rw [e]
      rw [ha] at f1
      by_cases ht : trE c = 0
      · rw [ht] at f3
        have hne : lst c ≠ [] := by intro h; unfold trE at ht; rw [if_pos h] at ht; cases ht
        have hc : cents c = true := by
          unfold trE at ht; rw [if_neg hne] at ht
          cases h : cents c
          · rw [h] at ht; cases ht
          · rfl
        obtain ⟨v0, hv0, hd⟩ := dm_get hne
        by_cases hx : dm c = (lst v).length
        · have hx' : (((lst v0).length : Int) != ((lst v).length : Int)) = false := by rw [← hd, hx]; simp
          have r := r42 v 0 0 m c hc hv hv' ho hx hne
          have f42 := callE_tr (by decide) r (by simp [srcV, Tr, Tr_slV]) (by simp [srcV, Nw])
          have e1 : cnE c v = 0 := by unfold cnE; rw [if_neg (by omega), if_pos hx]
          rw [e1]
          simp only [srcV] at f42
          simp +contextual -implicitDefEqProofs (maxSteps := 2000000) only [↓wP, wQ, wQ1, wQ2, wQ3, wR, boxE, partsOf, ↓reduceIte, Nat.reduceEqDiff, Nat.reduceAdd, Nat.reduceSub, Nat.reduceLeDiff, Nat.reduceLT, Nat.reduceMul, reduceCtorEq, Int.reduceBNe, Int.reduceBEq, Int.reduceLT, Int.reduceLE, Int.reduceGT, f1, f2, f3, hv0, vecV_eq, hx', f42]
          refine WC_env fun env hE => ?_
          have e43 : env 43 = .fn 75 [.box [.sl 2 (hs (srt (ctH v (lst c) 0)))], .box (srcV v 0 0 m c)] := by rw [hE]; rfl
          have e12 : env 12 = .ptr 1 1 0 0 := by rw [hE]; rfl
          clear hE
          have hlen : (srt (ctH v (lst c) 0)).length = (lst c).length := by rw [srt_len, ctH_len]
          have hnl : (near v (lst c) m).length = min m.toNat (lst c).length := near_len _ _ _ (by omega)
          refine WC_rangeF (f := 75) (caps := _) e43 (Nat.zero_le _) ?_
          refine run_mono _ _ _ (fun o ho => ?_) (iter48 v 0 0 m c (srt (ctH v (lst c) 0)) 2 (fun j σ n => J10 env (near v (lst c) m) j σ n) _ 3 (by omega) (by omega) (fun h hh => by have := ct_id hh; omega) (by omega) ?_ ?_ ?_)
          · cases o <;> try exact ho.elim
            rename_i vv σ' n'
            obtain ⟨h1, h2, u, h3, h4⟩ := ho
            refine ⟨_, _, _, _, _, _, h2, by decide, ?_⟩
            rw [hlen, ← hnl, List.take_length] at h4
            have t1 : upd σ' 2 none 1 = some (.row 1 [u]) := by simp [upd, h3]
            have hc := h4.cells
            have hp := h4.loc (σ' := upd σ' 2 none) (fun i a b => by
              have : i ≠ 2 := by omega
              simp [upd, this]) (Nat.le_refl _)
            have ho := h4.one
            have hg := iV_giv hp
            simp +contextual -implicitDefEqProofs (maxSteps := 2000000) only [↓wP, wQ, wQ1, wQ2, wQ3, wR, boxE, partsOf, ↓reduceIte, Nat.reduceEqDiff, Nat.reduceAdd, Nat.reduceSub, Nat.reduceLeDiff, Nat.reduceLT, Nat.reduceMul, reduceCtorEq, Int.reduceBNe, Int.reduceBEq, Int.reduceLT, Int.reduceLE, Int.reduceGT, Option.getD_none, e12, h3, hc, ho]
            exact giv_tup2 hg rfl rfl
          · exact fun j σ n σ' n' h a b => h.frame a b
          · intro j hj σ n hjm hJ hn
            have hj2 : j < (near v (lst c) m).length := by omega
            exact hy18 env _ e12 j hj2 (by omega) _ (by simp [near]) σ n hJ hn
          · exact ⟨by omega, by rfl, .nilS, by simp [upd], by simp [oL, Pl]⟩
        · have hx' : (((lst v0).length : Int) != ((lst v).length : Int)) = true := by rw [← hd]; simp; omega
          have e1 : cnE c v = 151 := by unfold cnE; rw [if_neg (by omega), if_neg hx]
          rw [e1]
          simp +contextual -implicitDefEqProofs (maxSteps := 2000000) only [↓wP, wQ, wQ1, wQ2, wQ3, wR, boxE, partsOf, ↓reduceIte, Nat.reduceEqDiff, Nat.reduceAdd, Nat.reduceSub, Nat.reduceLeDiff, Nat.reduceLT, Nat.reduceMul, reduceCtorEq, Int.reduceBNe, Int.reduceBEq, Int.reduceLT, Int.reduceLE, Int.reduceGT, f1, f2, f3, hv0, vecV_eq, hx']
          exact giv_none _ (by decide) _
      · have ht' : (trE c != 0) = true := by simpa using ht
        have e1 : cnE c v = trE c := by unfold cnE; rw [if_pos ht]
        rw [e1]
        simp +contextual -implicitDefEqProofs (maxSteps := 2000000) only [↓wP, wQ, wQ1, wQ2, wQ3, wR, boxE, partsOf, ↓reduceIte, Nat.reduceEqDiff, Nat.reduceAdd, Nat.reduceSub, Nat.reduceLeDiff, Nat.reduceLT, Nat.reduceMul, reduceCtorEq, Int.reduceBNe, Int.reduceBEq, Int.reduceLT, Int.reduceLE, Int.reduceGT, f1, f2, f3, ht']
        exact giv_none _ ht _
  · have ha' : (askE m != 0) = true := by simpa using ha
    have e : nrE c v m = askE m := by unfold nrE; rw [if_pos ha]
    rw [e]
    simp +contextual -implicitDefEqProofs (maxSteps := 2000000) only [↓wP, wQ, wQ1, wQ2, wQ3, wR, boxE, partsOf, ↓reduceIte, Nat.reduceEqDiff, Nat.reduceAdd, Nat.reduceSub, Nat.reduceLeDiff, Nat.reduceLT, Nat.reduceMul, reduceCtorEq, Int.reduceBNe, Int.reduceBEq, Int.reduceLT, Int.reduceLE, Int.reduceGT, f1, ha']
    exact giv_none _ ha _
end Go.Q.SZ
end

section
/- The nearest centroids: what the document says. -/
set_option linter.unusedSimpArgs false
set_option linter.unusedVariables false
namespace Go.Q.SZ
open Go.Q Go.Sort
def bst (out : List Int) (D : Nat → Int) : Nat → Int
  | 0 => -1
  | i + 1 => if (i : Int) ∈ out then bst out D i else if 0 ≤ bst out D i ∧ D (bst out D i).toNat ≤ D i then bst out D i else i
theorem bst_spec (out : List Int) (D : Nat → Int) : ∀ i, (bst out D i = -1 ∧ ∀ i' < i, (i' : Int) ∈ out) ∨ ∃ b : Nat, bst out D i = b ∧ b < i ∧ (b : Int) ∉ out ∧ ∀ i' < i, (i' : Int) ∉ out → D b < D i' ∨ (D b = D i' ∧ b ≤ i')
  | 0 => .inl ⟨rfl, fun i' h => by omega⟩
  | i + 1 => by
    unfold bst
    by_cases hm : (i : Int) ∈ out
    · rw [if_pos hm]
      rcases bst_spec out D i with ⟨h1, h2⟩ | ⟨b, h1, h2, h3, h4⟩
      · refine .inl ⟨h1, fun i' h => ?_⟩
        by_cases hi : i' = i
        · subst hi; exact hm
        · exact h2 i' (by omega)
      · refine .inr ⟨b, h1, by omega, h3, fun i' h hn => ?_⟩
        by_cases hi : i' = i
        · subst hi; exact absurd hm hn
        · exact h4 i' (by omega) hn
    · rw [if_neg hm]
      rcases bst_spec out D i with ⟨h1, h2⟩ | ⟨b, h1, h2, h3, h4⟩
      · rw [h1, if_neg (by omega)]
        refine .inr ⟨i, rfl, by omega, hm, fun i' h hn => ?_⟩
        by_cases hi : i' = i
        · subst hi; exact .inr ⟨rfl, Nat.le_refl _⟩
        · exact absurd (h2 i' (by omega)) hn
      · rw [h1]
        by_cases hd : D b ≤ D i
        · rw [if_pos ⟨by omega, by simpa using hd⟩]
          refine .inr ⟨b, rfl, by omega, h3, fun i' h hn => ?_⟩
          by_cases hi : i' = i
          · subst hi; omega
          · exact h4 i' (by omega) hn
        · rw [if_neg (by rintro ⟨-, h⟩; exact hd (by simpa using h))]
          refine .inr ⟨i, rfl, by omega, hm, fun i' h hn => ?_⟩
          by_cases hi : i' = i
          · subst hi; exact .inr ⟨rfl, Nat.le_refl _⟩
          · have := h4 i' (by omega) hn; omega
def dis (q : Vc) (c : List Vc) (i : Nat) : Int := distI ((c[i]?).getD none) q
theorem ct_get {q : Vc} {c : List Vc} {h : Hit} (hh : h ∈ ctH q c 0) : ∃ x : Nat, x < c.length ∧ h = ⟨x, dis q c x⟩ := by
  obtain ⟨i, hi, rfl⟩ := List.mem_iff_getElem.1 hh
  rw [ctH_len] at hi
  have := ctH_get q c i hi
  rw [List.getElem?_eq_getElem (by rw [ctH_len]; exact hi)] at this
  refine ⟨i, hi, ?_⟩
  rw [Option.some.inj this]
  simp [dis, hi]
theorem ct_mem (q : Vc) (c : List Vc) (x : Nat) (h : x < c.length) : (⟨x, dis q c x⟩ : Hit) ∈ ctH q c 0 := by
  have := ctH_get q c x h
  have := List.mem_of_getElem? this
  simpa [dis, h] using this
theorem ct_nodup (q : Vc) (c : List Vc) : ((srt (ctH q c 0)).map (·.id)).Nodup := by
  refine ((srt_perm _).map _).nodup_iff.2 ?_
  have : (ctH q c 0).map (·.id) = (List.range c.length).map (fun i : Nat => (i : Int)) := by
    refine List.ext_getElem? fun i => ?_
    simp only [List.getElem?_map, ctH, List.getElem?_zipIdx, List.map_map]
    by_cases h : i < c.length
    · simp [h]
    · simp [h]
  rw [this]
  unfold List.Nodup
  rw [List.pairwise_map]
  exact List.nodup_range.imp (fun h e => h (by omega))
theorem pick_bst (q : Vc) (c : List Vc) (P R : List Hit) (h : Hit) (hp : (P ++ h :: R).Perm (ctH q c 0)) (hs : Srt (P ++ h :: R)) (hnd : ((P ++ h :: R).map (·.id)).Nodup) : bst (P.map (·.id)) (dis q c) c.length = h.id := by
  have hm : h ∈ P ++ h :: R := by simp
  obtain ⟨x, hx, he⟩ := ct_get (hp.mem_iff.1 hm)
  simp only [List.map_append, List.map_cons, List.nodup_append, List.mem_cons, List.mem_map, List.mem_append] at hnd
  have hxo : (x : Int) ∉ P.map (·.id) := by
    intro hc
    obtain ⟨g, hg, e⟩ := List.mem_map.1 hc
    exact hnd.2.2 g.id ⟨g, hg, rfl⟩ h.id (.inl rfl) (by rw [he, e])
  rcases bst_spec (P.map (·.id)) (dis q c) c.length with ⟨h1, h2⟩ | ⟨b, h1, h2, h3, h4⟩
  · exact absurd (h2 x hx) hxo
  · rw [h1, he]
    have hb := hp.mem_iff.2 (ct_mem q c b h2)
    rcases List.mem_append.1 hb with hb | hb
    · exact absurd (List.mem_map.2 ⟨_, hb, rfl⟩) h3
    · rcases List.mem_cons.1 hb with hb | hb
      · rw [he] at hb
        exact congrArg Hit.id hb
      · have h5 := (List.pairwise_cons.1 (List.pairwise_append.1 hs).2.1).1 _ hb
        have h6 := h4 x hx hxo
        rw [he] at h5
        unfold ahead at h5
        simp only [Bool.or_eq_false_iff, Bool.and_eq_false_iff, decide_eq_false_iff_not, beq_eq_false_iff_ne] at h5
        show (b : Int) = x
        omega
theorem near_bst (q : Vc) (c : List Vc) (j : Nat) (hj : j < (srt (ctH q c 0)).length) : bst (((srt (ctH q c 0)).take j).map (·.id)) (dis q c) c.length = ((srt (ctH q c 0))[j]).id := by
  have hsp : (srt (ctH q c 0)).take j ++ (srt (ctH q c 0))[j] :: (srt (ctH q c 0)).drop (j + 1) = srt (ctH q c 0) := by rw [← List.drop_eq_getElem_cons (by omega), List.take_append_drop]
  exact pick_bst q c _ ((srt (ctH q c 0)).drop (j + 1)) _ (by rw [hsp]; exact srt_perm _) (by rw [hsp]; exact srt_srt _) (by rw [hsp]; exact ct_nodup q c)
theorem r31 (o : Option (List Int)) (x : Int) (hl : (lst o).length < 9223372036854775808) : res T 31 [slV 1 iV o, .int .i64 x] = some (.bool (decide (x ∈ lst o))) := by
  refine run_res (run_pure (fn := g31) rfl rfl (by decide) ?_)
  simp only [g31, b31, oO, oN, mV, lD, gO, pP, qQ, cI, aR]
  simp +contextual -implicitDefEqProofs (maxSteps := 2000000) only [↓wP, wQ, wQ1, wQ2, wQ3, wR, boxE, partsOf, ↓reduceIte, Nat.reduceEqDiff, Nat.reduceAdd, Nat.reduceSub, Nat.reduceLeDiff, Nat.reduceLT, Nat.reduceMul, reduceCtorEq, Int.reduceBNe, Int.reduceBEq, Int.reduceLT, Int.reduceLE, Int.reduceGT]
  refine WC_for (lst o).length 0 (fun (j : Nat) env _ _ => env 1 = .int .i64 x ∧ env 7 = slV 1 iV o ∧ decide (x ∈ lst o) = decide (x ∈ (lst o).drop j)) (by omega) (by decide) (by decide) (fun _ _ => rfl) (fun _ _ _ => rfl) ?_ ?_ _ _ _ rfl rfl ?_
  · intro j env σ n hj h1 h2 ⟨h3, h4, h5⟩
    simp only [vl_tmp] at h2
    have hx : (lst o)[j]? = some (lst o)[j] := List.getElem?_eq_getElem hj
    rw [List.drop_eq_getElem_cons hj] at h5
    generalize (lst o)[j] = y at *
    by_cases he : y = x
    · subst he
      simp +contextual -implicitDefEqProofs (maxSteps := 2000000) only [↓wP, wQ, wQ1, wQ2, wQ3, wR, boxE, partsOf, ↓reduceIte, Nat.reduceEqDiff, Nat.reduceAdd, Nat.reduceSub, Nat.reduceLeDiff, Nat.reduceLT, Nat.reduceMul, reduceCtorEq, Int.reduceBNe, Int.reduceBEq, Int.reduceLT, Int.reduceLE, Int.reduceGT, h1, h2, h3, h4, hx, iV_eq]
      rw [h5]; simp
    · have he' : (y == x) = false := by simpa using he
      simp +contextual -implicitDefEqProofs (maxSteps := 2000000) only [↓wP, wQ, wQ1, wQ2, wQ3, wR, boxE, partsOf, ↓reduceIte, Nat.reduceEqDiff, Nat.reduceAdd, Nat.reduceSub, Nat.reduceLeDiff, Nat.reduceLT, Nat.reduceMul, reduceCtorEq, Int.reduceBNe, Int.reduceBEq, Int.reduceLT, Int.reduceLE, Int.reduceGT, h1, h2, h3, h4, hx, iV_eq, he']
      rw [h5]; simp [Ne.symm he]
  · intro env σ n ⟨h3, h4, h5⟩ h1 h2
    rw [List.drop_length] at h5
    simp +contextual -implicitDefEqProofs (maxSteps := 2000000) only [↓wP, wQ, wQ1, wQ2, wQ3, wR, boxE, partsOf, ↓reduceIte, Nat.reduceEqDiff, Nat.reduceAdd, Nat.reduceSub, Nat.reduceLeDiff, Nat.reduceLT, Nat.reduceMul, reduceCtorEq, Int.reduceBNe, Int.reduceBEq, Int.reduceLT, Int.reduceLE, Int.reduceGT]
    rw [h5]; rfl
  · simp +contextual -implicitDefEqProofs (maxSteps := 2000000) only [↓wP, wQ, wQ1, wQ2, wQ3, wR, boxE, partsOf, ↓reduceIte, Nat.reduceEqDiff, Nat.reduceAdd, Nat.reduceSub, Nat.reduceLeDiff, Nat.reduceLT, Nat.reduceMul, reduceCtorEq, Int.reduceBNe, Int.reduceBEq, Int.reduceLT, Int.reduceLE, Int.reduceGT]
theorem f31 (o : Option (List Int)) (x : Int) (hl : (lst o).length < 9223372036854775808) (fs : Bool) (σ : Sto) (n lk : Nat) : callE T fs 31 [slV 1 iV o, .int .i64 x] σ n lk = some (.bool (decide (x ∈ lst o)), σ, n) :=
  callE_tr (by decide) (r31 o x hl) (by simp [Tr, Tr_slV]) rfl fs σ n lk
theorem f27p {σ : Sto} {m n : Nat} {v : V} {l : List Int} (h : Pl σ m n 1 v (oL (l.map iV))) (x : Int) (hl : l.length < 1000000) (fs : Bool) (n' lk : Nat) : callE T fs 31 [v, .int .i64 x] σ n' lk = some (.bool (decide (x ∈ l)), σ, n') := by
  have hf := h.frz (fun x hx => by rw [lst_oL] at hx; obtain ⟨y, -, rfl⟩ := List.mem_map.1 hx; rfl) (fun x hx c hc => by
    rw [lst_oL] at hx; obtain ⟨y, -, rfl⟩ := List.mem_map.1 hx
    simp only [iV, V.cells, List.mem_cons, List.not_mem_nil, or_false] at hc
    subst hc; rfl)
  have e : [v, V.int .i64 x].mapM (frz σ 12) = some [slV 1 iV (oL l), .int .i64 x] := by
    rw [slV_oL] at hf
    simp only [List.mapM_cons, List.mapM_nil, hf, frz_int]; rfl
  have r := r31 (oL l) x (by rw [lst_oL]; omega)
  rw [lst_oL] at r
  rw [callE_flat (by decide) e r rfl]; rfl
end Go.Q.SZ
end

section
/- The nearest centroids: the document's walk. -/
set_option linter.unusedSimpArgs false
set_option linter.unusedVariables false
namespace Go.Q.SZ
open Go.Q Go.Sort
theorem r29 (c : Option (List Vc)) (q : Vc) (m : Int) (hl : (lst c).length ≤ 7) (h2 : ∀ v ∈ lst c, Two v q) (hm : 1 ≤ m) : res T 29 [slV 1 vecV c, slV 1 i32V q, .int .i64 m] = some (slV 1 iV (oL (near q (lst c) m))) := by
  refine run_res (run_pure (fn := g29) rfl rfl (by decide) ?_)
  simp only [g29, b29, oO, oN, mV, lD, gO, pP, qQ, cI, aR]
  obtain ⟨S, hS⟩ : ∃ S, S = srt (ctH q (lst c) 0) := ⟨_, rfl⟩
  have hlen : S.length = (lst c).length := by rw [hS, srt_len, ctH_len]
  have hb := near_bst q (lst c)
  rw [← hS] at hb
  unfold near
  rw [← hS]
  clear hS
  obtain ⟨N, hN⟩ : ∃ N, N = min m.toNat (lst c).length := ⟨_, rfl⟩
  have hmin : (if ((lst c).length : Int) < m then ((lst c).length : Int) else m) = (N : Int) := by split <;> omega
  simp +contextual -implicitDefEqProofs (maxSteps := 2000000) only [↓wP, wQ, wQ1, wQ2, wQ3, wR, boxE, partsOf, ↓reduceIte, Nat.reduceEqDiff, Nat.reduceAdd, Nat.reduceSub, Nat.reduceLeDiff, Nat.reduceLT, Nat.reduceMul, reduceCtorEq, Int.reduceBNe, Int.reduceBEq, Int.reduceLT, Int.reduceLE, Int.reduceGT]
  refine WC_loopI 0 (fun (j : Nat) env σ n => j ≤ N ∧ env 0 = slV 1 vecV c ∧ env 1 = slV 1 i32V q ∧ env 2 = .int .i64 m ∧ ∃ v, env 7 = v ∧ Pl σ 0 n 1 v (oL (((S.take j).map (·.id)).map iV))) (fun j => N - j) ?_ 0 _ _ _ ?_
  · intro j env σ n ⟨g1, g2, g3, g4, v, g5, g6⟩
    have hc := g6.cells
    have ho := g6.one
    have hjl : ((S.take j).map (·.id)).length = j := by rw [List.length_map, List.length_take]; omega
    have hle : lenE v = some (.int .i64 (j : Int)) := by
      have : (((S.take j).map (·.id)).map iV).length = j := by rw [List.length_map, hjl]
      cases ho' : oL (((S.take j).map (·.id)).map iV) with
      | none => 
        rw [ho'] at g6; simp only [Pl] at g6; subst g6
        cases hx : ((S.take j).map (·.id)).map iV with
        | nil => rw [hx] at this; simp at this; subst this; rfl
        | cons a b => rw [hx] at ho'; cases ho'
      | some xs =>
        rw [ho'] at g6; obtain ⟨i, rfl, -⟩ := g6
        have e : xs = ((S.take j).map (·.id)).map iV := by have := congrArg lst ho'; rw [lst_oL] at this; exact this.symm
        rw [e, this]; rfl
    by_cases hj : j < N
    · have hj' : (j : Int) < (N : Int) := by omega
      simp +contextual -implicitDefEqProofs (maxSteps := 2000000) only [↓wP, wQ, wQ1, wQ2, wQ3, wR, boxE, partsOf, ↓reduceIte, Nat.reduceEqDiff, Nat.reduceAdd, Nat.reduceSub, Nat.reduceLeDiff, Nat.reduceLT, Nat.reduceMul, reduceCtorEq, Int.reduceBNe, Int.reduceBEq, Int.reduceLT, Int.reduceLE, Int.reduceGT, g2, g3, g4, g5, hle, hj', hmin]
      obtain ⟨out, hout⟩ : ∃ out, out = (S.take j).map (·.id) := ⟨_, rfl⟩
      rw [← hout] at g6 hjl
      refine WC_for (lst c).length 0 (fun (i : Nat) env σ' n' => σ' = σ ∧ n' = n ∧ env 0 = slV 1 vecV c ∧ env 1 = slV 1 i32V q ∧ env 2 = .int .i64 m ∧ env 7 = v ∧ env 8 = .int .i64 (bst out (dis q (lst c)) i)) (by omega) (by decide) (by decide) (fun _ _ => rfl) (fun _ _ _ => rfl) ?_ ?_ _ _ _ rfl rfl ?_
      · intro i env σ' n' hi e1 e2 ⟨k1, k2, k3, k4, k5, k6, k7⟩
        subst k1 k2
        simp only [vl_tmp] at e2
        have f31' := f27p g6 (i : Int) (by omega)
        have hx : (lst c)[i]? = some (lst c)[i] := List.getElem?_eq_getElem hi
        have hst : bst out (dis q (lst c)) (i + 1) = if (i : Int) ∈ out then bst out (dis q (lst c)) i else if 0 ≤ bst out (dis q (lst c)) i ∧ dis q (lst c) (bst out (dis q (lst c)) i).toNat ≤ dis q (lst c) i then bst out (dis q (lst c)) i else i := rfl
        rcases bst_spec out (dis q (lst c)) i with ⟨b1, -⟩ | ⟨b, b1, b2, -, -⟩
        · rw [b1] at k7 hst
          by_cases hm : (i : Int) ∈ out
          · rw [if_pos hm] at hst
            simp +contextual -implicitDefEqProofs (maxSteps := 2000000) only [↓wP, wQ, wQ1, wQ2, wQ3, wR, boxE, partsOf, ↓reduceIte, Nat.reduceEqDiff, Nat.reduceAdd, Nat.reduceSub, Nat.reduceLeDiff, Nat.reduceLT, Nat.reduceMul, reduceCtorEq, Int.reduceBNe, Int.reduceBEq, Int.reduceLT, Int.reduceLE, Int.reduceGT, e1, e2, k3, k4, k5, k6, k7, f31', hm]
            exact congrArg (V.int .i64) hst.symm
          · rw [if_neg hm, if_neg (by omega)] at hst
            have z : (0 : Int) ≤ -1 ↔ False := by decide
            simp +contextual -implicitDefEqProofs (maxSteps := 2000000) only [↓wP, wQ, wQ1, wQ2, wQ3, wR, boxE, partsOf, ↓reduceIte, Nat.reduceEqDiff, Nat.reduceAdd, Nat.reduceSub, Nat.reduceLeDiff, Nat.reduceLT, Nat.reduceMul, reduceCtorEq, Int.reduceBNe, Int.reduceBEq, Int.reduceLT, Int.reduceLE, Int.reduceGT, e1, e2, k3, k4, k5, k6, k7, f31', hm, z]
            exact congrArg (V.int .i64) hst.symm
        · rw [b1] at k7 hst
          by_cases hm : (i : Int) ∈ out
          · rw [if_pos hm] at hst
            simp +contextual -implicitDefEqProofs (maxSteps := 2000000) only [↓wP, wQ, wQ1, wQ2, wQ3, wR, boxE, partsOf, ↓reduceIte, Nat.reduceEqDiff, Nat.reduceAdd, Nat.reduceSub, Nat.reduceLeDiff, Nat.reduceLT, Nat.reduceMul, reduceCtorEq, Int.reduceBNe, Int.reduceBEq, Int.reduceLT, Int.reduceLE, Int.reduceGT, e1, e2, k3, k4, k5, k6, k7, f31', hm]
            exact congrArg (V.int .i64) hst.symm
          · rw [if_neg hm] at hst
            have hbl : b < (lst c).length := by omega
            have hxb : (lst c)[b]? = some (lst c)[b] := List.getElem?_eq_getElem hbl
            have d1 := f67 (lst c)[i] q (h2 _ (List.getElem_mem hi))
            have d2 := f67 (lst c)[b] q (h2 _ (List.getElem_mem hbl))
            have q1 : dis q (lst c) i = distI (lst c)[i] q := by simp [dis, hi]
            have q2 : dis q (lst c) b = distI (lst c)[b] q := by simp [dis, hbl]
            have z : (0 : Int) ≤ (b : Int) := by omega
            rw [Int.toNat_natCast, q1, q2] at hst
            generalize (lst c)[i] = x at *
            generalize (lst c)[b] = y at *
            by_cases hd : distI y q ≤ distI x q
            · rw [if_pos ⟨z, hd⟩] at hst
              simp +contextual -implicitDefEqProofs (maxSteps := 2000000) only [↓wP, wQ, wQ1, wQ2, wQ3, wR, boxE, partsOf, ↓reduceIte, Nat.reduceEqDiff, Nat.reduceAdd, Nat.reduceSub, Nat.reduceLeDiff, Nat.reduceLT, Nat.reduceMul, reduceCtorEq, Int.reduceBNe, Int.reduceBEq, Int.reduceLT, Int.reduceLE, Int.reduceGT, e1, e2, k3, k4, k5, k6, k7, f31', hm, z, hx, hxb, vecV_eq, d1, d2, hd]
              exact congrArg (V.int .i64) hst.symm
            · rw [if_neg (by rintro ⟨-, h⟩; exact hd h)] at hst
              simp +contextual -implicitDefEqProofs (maxSteps := 2000000) only [↓wP, wQ, wQ1, wQ2, wQ3, wR, boxE, partsOf, ↓reduceIte, Nat.reduceEqDiff, Nat.reduceAdd, Nat.reduceSub, Nat.reduceLeDiff, Nat.reduceLT, Nat.reduceMul, reduceCtorEq, Int.reduceBNe, Int.reduceBEq, Int.reduceLT, Int.reduceLE, Int.reduceGT, e1, e2, k3, k4, k5, k6, k7, f31', hm, z, hx, hxb, vecV_eq, d1, d2, hd]
              exact congrArg (V.int .i64) hst.symm
      · intro env σ' n' ⟨k1, k2, k3, k4, k5, k6, k7⟩ e1 e2
        subst k1 k2
        have hbj := hb j (by omega)
        rw [← hout] at hbj
        rw [hbj] at k7
        simp +contextual -implicitDefEqProofs (maxSteps := 2000000) only [↓wP, wQ, wQ1, wQ2, wQ3, wR, boxE, partsOf, ↓reduceIte, Nat.reduceEqDiff, Nat.reduceAdd, Nat.reduceSub, Nat.reduceLeDiff, Nat.reduceLT, Nat.reduceMul, reduceCtorEq, Int.reduceBNe, Int.reduceBEq, Int.reduceLT, Int.reduceLE, Int.reduceGT, k3, k4, k5, k6, k7]
        have hlen1 : (out.map iV).length = j := by rw [List.length_map, hjl]
        refine stepW_app1 (m := 0) (n0 := n') (σ0 := σ') (o := oL (out.map iV)) g6 (fun i a1 a2 => ?_) (by omega) (by omega) (Nat.zero_le _) ?_ (fun _ σ2 a1 a2 => ?_)
        · have a3 : i ≠ n' := by omega
          simp [upd, a3]
        · rw [lst_oL, hlen1]; unfold LIM; omega
        · rw [lst_oL, hlen1] at a1 ⊢
          simp +contextual -implicitDefEqProofs (maxSteps := 2000000) only [↓wP, wQ, wQ1, wQ2, wQ3, wR, boxE, partsOf, ↓reduceIte, Nat.reduceEqDiff, Nat.reduceAdd, Nat.reduceSub, Nat.reduceLeDiff, Nat.reduceLT, Nat.reduceMul, reduceCtorEq, Int.reduceBNe, Int.reduceBEq, Int.reduceLT, Int.reduceLE, Int.reduceGT, k3, k4, k5, k6]
          refine ⟨j + 1, by omega, by omega, _, rfl, ?_⟩
          have eo : oL (((S.take (j + 1)).map (·.id)).map iV) = some (out.map iV ++ [.int .i64 (S[j]'(by omega)).id]) := by
            rw [show S.take (j + 1) = S.take j ++ [S[j]'(by omega)] from (List.take_append_getElem (by omega)).symm, List.map_append, ← hout]
            rw [List.map_append]
            cases out <;> rfl
          rw [eo]
          exact a1
      · simp +contextual -implicitDefEqProofs (maxSteps := 2000000) only [↓wP, wQ, wQ1, wQ2, wQ3, wR, boxE, partsOf, ↓reduceIte, Nat.reduceEqDiff, Nat.reduceAdd, Nat.reduceSub, Nat.reduceLeDiff, Nat.reduceLT, Nat.reduceMul, reduceCtorEq, Int.reduceBNe, Int.reduceBEq, Int.reduceLT, Int.reduceLE, Int.reduceGT, g2, g3, g4, g5]
        rfl
    · have hj' : ¬ (j : Int) < (N : Int) := by omega
      simp +contextual -implicitDefEqProofs (maxSteps := 2000000) only [↓wP, wQ, wQ1, wQ2, wQ3, wR, boxE, partsOf, ↓reduceIte, Nat.reduceEqDiff, Nat.reduceAdd, Nat.reduceSub, Nat.reduceLeDiff, Nat.reduceLT, Nat.reduceMul, reduceCtorEq, Int.reduceBNe, Int.reduceBEq, Int.reduceLT, Int.reduceLE, Int.reduceGT, g2, g3, g4, g5, hle, hj', hmin]
      have e : S.take m.toNat = S.take j := by
        by_cases hmj : m.toNat ≤ (lst c).length
        · rw [show m.toNat = j by omega]
        · rw [List.take_of_length_le (by omega), List.take_of_length_le (by omega)]
      rw [e]
      have hf := g6.frz (fun x hx => by rw [lst_oL] at hx; obtain ⟨y, -, rfl⟩ := List.mem_map.1 hx; rfl) (fun x hx c hc => by
        rw [lst_oL] at hx; obtain ⟨y, -, rfl⟩ := List.mem_map.1 hx
        simp only [iV, V.cells, List.mem_cons, List.not_mem_nil, or_false] at hc
        subst hc; rfl)
      rw [hf, slV_oL]
  · simp +contextual -implicitDefEqProofs (maxSteps := 2000000) only [↓wP, wQ, wQ1, wQ2, wQ3, wR, boxE, partsOf, ↓reduceIte, Nat.reduceEqDiff, Nat.reduceAdd, Nat.reduceSub, Nat.reduceLeDiff, Nat.reduceLT, Nat.reduceMul, reduceCtorEq, Int.reduceBNe, Int.reduceBEq, Int.reduceLT, Int.reduceLE, Int.reduceGT]
    simp [oL, Pl]
theorem f29 (c : Option (List Vc)) (q : Vc) (m : Int) (hl : (lst c).length ≤ 7) (h2 : ∀ v ∈ lst c, Two v q) (hm : 1 ≤ m) (fs : Bool) (σ : Sto) (n lk : Nat) :
    callE T fs 29 [slV 1 vecV c, slV 1 i32V q, .int .i64 m] σ n lk = some (slV 1 iV (oL (near q (lst c) m)), σ, n) :=
  callE_tr (by decide) (r29 c q m hl h2 hm) (by simp [Tr, Tr_slV]) (Nw_slV _ _ _ _) fs σ n lk
end Go.Q.SZ
end

section
/- Vectors that can be gone through. -/
set_option linter.unusedSimpArgs false
set_option linter.unusedVariables false
namespace Go.Q.SZ
open Go.Q Go.Sort
theorem r19 (v : Vc) (hv : Sm v) : res T 19 [slV 1 i32V v] = some (slV 1 i32V (some ((lst v).take 5))) := by
  refine run_res (run_pure (fn := g19) rfl rfl (by decide) ?_)
  simp only [g19, b19, oO, oN, mV, lD, gO, pP, qQ, cI, aR]
  obtain ⟨N, hN⟩ : ∃ N, N = min (lst v).length 5 := ⟨_, rfl⟩
  have hmin : (if (5 : Int) < ((lst v).length : Int) then (5 : Int) else ((lst v).length : Int)) = (N : Int) := by split <;> omega
  unfold Sm at hv
  have hNl : N ≤ (lst v).length := by omega
  have hs : lst (sub v 0 N) = (lst v).take 5 := by
    rw [show (lst v).take 5 = (lst v).take N by rw [hN]; exact (List.take_eq_take_min).trans (by rw [Nat.min_comm])]
    cases v <;> simp [sub, lst]
  have hl5 : ((lst v).take 5).length ≤ 5 := by rw [List.length_take]; omega
  have hL : (((lst v).take 5).map i32V).length * 4 ≤ LIM := by rw [List.length_map]; unfold LIM; omega
  generalize (lst v).take 5 = L at *
  simp +contextual -implicitDefEqProofs (maxSteps := 2000000) only [↓wP, wQ, wQ1, wQ2, wQ3, wR, boxE, partsOf, ↓reduceIte, Nat.reduceEqDiff, Nat.reduceAdd, Nat.reduceSub, Nat.reduceLeDiff, Nat.reduceLT, Nat.reduceMul, reduceCtorEq, Int.reduceBNe, Int.reduceBEq, Int.reduceLT, Int.reduceLE, Int.reduceGT, hmin, hNl, hs, hL, true_or]
  have e1 : elems (upd (upd (upd Sto.empty 0 (some (Ob.row 1 []))) 0 none) 1 (some (Ob.row 1 (L.map i32V)))) 1 (.ref 1 0 (L.map i32V).length 1) = some (L.map i32V) := by simp [elems, upd]; exact List.take_of_length_le (by simp)
  show (elems _ _ _).bind _ = _
  rw [e1, Option.bind_some, mapM_id (fun x hx => by obtain ⟨y, -, rfl⟩ := List.mem_map.1 hx; rfl)]
  rfl
def cut (v : Vc) : Vc := some ((lst v).take 5)
theorem f19 (v : Vc) (hv : Sm v) (fs : Bool) (σ : Sto) (n lk : Nat) : callE T fs 19 [slV 1 i32V v] σ n lk = some (slV 1 i32V (cut v), σ, n) :=
  callE_tr (by decide) (r19 v hv) (by simp [Tr, Tr_slV]) (Nw_slV _ _ _ _) fs σ n lk
theorem spl {σ : Sto} {m n sz : Nat} {v : V} {o : Option (List V)} (h : Pl σ m n sz v o) (c : V) : spliceC v 0 [c] = c := by
  cases o with
  | none => simp only [Pl] at h; subst h; rfl
  | some xs => obtain ⟨j, rfl, -⟩ := h; rfl
def cutV (l : Option (List Vc)) : Option (List Vc) := oL (((lst l).take 7).map cut)
theorem r15 (l : Option (List Vc)) (hl : (lst l).length < 4611686018427387904) (hv : ∀ v ∈ lst l, Sm v) : res T 15 [slV 1 vecV l] = some (slV 1 vecV (cutV l)) := by
  refine run_res (run_pure (fn := g15) rfl rfl (by decide) ?_)
  simp only [g15, b15, oO, oN, mV, lD, gO, pP, qQ, cI, aR]
  simp +contextual -implicitDefEqProofs (maxSteps := 2000000) only [↓wP, wQ, wQ1, wQ2, wQ3, wR, boxE, partsOf, ↓reduceIte, Nat.reduceEqDiff, Nat.reduceAdd, Nat.reduceSub, Nat.reduceLeDiff, Nat.reduceLT, Nat.reduceMul, reduceCtorEq, Int.reduceBNe, Int.reduceBEq, Int.reduceLT, Int.reduceLE, Int.reduceGT]
  refine WC_for (lst l).length 0 (fun (j : Nat) env σ n => env 6 = slV 1 vecV l ∧ ∃ v, env 3 = v ∧ Pl σ 0 n 1 v (oL ((((lst l).take (min j 7)).map cut).map vecV))) (by omega) (by decide) (by decide) (fun _ _ => rfl) (fun _ _ _ => rfl) ?_ ?_ _ _ _ rfl rfl ?_
  · intro j env σ n hj h1 h2 ⟨h3, v, h4, h5⟩
    simp only [vl_tmp] at h2
    have hx : (lst l)[j]? = some (lst l)[j] := List.getElem?_eq_getElem hj
    have f := f19 _ (hv _ (List.getElem_mem hj))
    have ht : (lst l).take (j + 1) = (lst l).take j ++ [(lst l)[j]] := (List.take_append_getElem hj).symm
    generalize (lst l)[j] = x at *
    have hc := h5.cells
    have ho := h5.one
    have hsp := spl h5
    by_cases h6 : (j : Int) ≤ 6
    · rw [show min j 7 = j by omega] at h5
      have hlen : ((((lst l).take j).map cut).map vecV).length = j := by rw [List.length_map, List.length_map, List.length_take]; omega
      simp +contextual -implicitDefEqProofs (maxSteps := 2000000) only [↓wP, wQ, wQ1, wQ2, wQ3, wR, boxE, partsOf, ↓reduceIte, Nat.reduceEqDiff, Nat.reduceAdd, Nat.reduceSub, Nat.reduceLeDiff, Nat.reduceLT, Nat.reduceMul, reduceCtorEq, Int.reduceBNe, Int.reduceBEq, Int.reduceLT, Int.reduceLE, Int.reduceGT, h1, h2, h3, h4, hx, vecV_eq, h6, f]
      refine stepW_app1 (m := 0) (n0 := n) (σ0 := σ) h5 (fun i g1 g2 => ?_) (by omega) (by omega) (Nat.zero_le _) ?_ (fun _ σ2 g1 g2 => ?_)
      · have a1 : i ≠ n := by omega
        simp [upd, a1]
      · rw [lst_oL, hlen]; unfold LIM; omega
      · rw [lst_oL, hlen] at g1 ⊢
        simp +contextual -implicitDefEqProofs (maxSteps := 2000000) only [↓wP, wQ, wQ1, wQ2, wQ3, wR, boxE, partsOf, ↓reduceIte, Nat.reduceEqDiff, Nat.reduceAdd, Nat.reduceSub, Nat.reduceLeDiff, Nat.reduceLT, Nat.reduceMul, reduceCtorEq, Int.reduceBNe, Int.reduceBEq, Int.reduceLT, Int.reduceLE, Int.reduceGT, h1, h2, h3, hc, hsp]
        refine ⟨_, rfl, ?_⟩
        rw [show min (j + 1) 7 = j + 1 by omega, ht, List.map_append, List.map_append]
        have eo : oL (((lst l).take j).map cut |>.map vecV) = oL (((lst l).take j).map cut |>.map vecV) := rfl
        have e2 : oL ((((lst l).take j).map cut).map vecV ++ [vecV (cut x)]) = some ((((lst l).take j).map cut).map vecV ++ [vecV (cut x)]) := by
          cases ((lst l).take j) <;> rfl
        simp only [List.map_cons, List.map_nil]
        rw [e2]
        exact g1
    · simp +contextual -implicitDefEqProofs (maxSteps := 2000000) only [↓wP, wQ, wQ1, wQ2, wQ3, wR, boxE, partsOf, ↓reduceIte, Nat.reduceEqDiff, Nat.reduceAdd, Nat.reduceSub, Nat.reduceLeDiff, Nat.reduceLT, Nat.reduceMul, reduceCtorEq, Int.reduceBNe, Int.reduceBEq, Int.reduceLT, Int.reduceLE, Int.reduceGT, h1, h2, h3, h4, hx, vecV_eq, h6]
      rw [show min (j + 1) 7 = min j 7 by omega]
      exact ⟨_, rfl, h5⟩
  · intro env σ n ⟨h3, v, h4, h5⟩ h1 h2
    simp +contextual -implicitDefEqProofs (maxSteps := 2000000) only [↓wP, wQ, wQ1, wQ2, wQ3, wR, boxE, partsOf, ↓reduceIte, Nat.reduceEqDiff, Nat.reduceAdd, Nat.reduceSub, Nat.reduceLeDiff, Nat.reduceLT, Nat.reduceMul, reduceCtorEq, Int.reduceBNe, Int.reduceBEq, Int.reduceLT, Int.reduceLE, Int.reduceGT, h4]
    have hf := h5.frz (fun x hx => by rw [lst_oL] at hx; obtain ⟨y, -, rfl⟩ := List.mem_map.1 hx; exact Tr_slV _ _ _ _) (fun x hx c hc => by
        rw [lst_oL] at hx; obtain ⟨y, -, rfl⟩ := List.mem_map.1 hx
        rw [vecV_eq, cl_slV, List.mem_singleton] at hc
        subst hc; exact Tr_slV _ _ _ _)
    rw [hf, slV_oL]
    have : (lst l).take (min (lst l).length 7) = (lst l).take 7 := by rw [Nat.min_comm]; exact List.take_eq_take_min.symm
    rw [this]; rfl
  · simp +contextual -implicitDefEqProofs (maxSteps := 2000000) only [↓wP, wQ, wQ1, wQ2, wQ3, wR, boxE, partsOf, ↓reduceIte, Nat.reduceEqDiff, Nat.reduceAdd, Nat.reduceSub, Nat.reduceLeDiff, Nat.reduceLT, Nat.reduceMul, reduceCtorEq, Int.reduceBNe, Int.reduceBEq, Int.reduceLT, Int.reduceLE, Int.reduceGT]
    simp [oL, Pl]
theorem f15 (l : Option (List Vc)) (hl : (lst l).length < 4611686018427387904) (hv : ∀ v ∈ lst l, Sm v) (fs : Bool) (σ : Sto) (n lk : Nat) : callE T fs 15 [slV 1 vecV l] σ n lk = some (slV 1 vecV (cutV l), σ, n) :=
  callE_tr (by decide) (r15 l hl hv) (by simp [Tr, Tr_slV]) (Nw_slV _ _ _ _) fs σ n lk
theorem cut_sm (v : Vc) : Sm (cut v) := by unfold Sm cut; rw [lst_some, List.length_take]; omega
theorem cutV_len (l : Option (List Vc)) : (lst (cutV l)).length ≤ 7 := by unfold cutV; rw [lst_oL, List.length_map, List.length_take]; omega
theorem cutV_sm (l : Option (List Vc)) : ∀ v ∈ lst (cutV l), Sm v := by
  intro v hv
  unfold cutV at hv
  rw [lst_oL] at hv
  obtain ⟨x, -, rfl⟩ := List.mem_map.1 hv
  exact cut_sm x
theorem f18 (c : Option (List Vc)) (v : Vc) (m : Int) (hl : (lst c).length ≤ 7) (hv : ∀ v ∈ lst c, Sm v) (hv' : Sm v) (fs : Bool) (σ : Sto) (n lk : Nat) :
    ∃ L, L = (if nrE c v m = 0 then near v (lst c) m else []) ∧ callE T fs 18 [slV 1 vecV c, slV 1 i32V v, .int .i64 m] σ n lk = some (.tup [iVal n L, .int .i64 (nrE c v m)], iSto σ n L, iN n L) := by
  refine ⟨_, rfl, ?_⟩
  have r := r18 c v m hl hv hv'
  have e : [slV 1 vecV c, slV 1 i32V v, .int .i64 m].mapM (frz σ 12) = some [slV 1 vecV c, slV 1 i32V v, .int .i64 m] := by
    simp only [List.mapM_cons, List.mapM_nil, frz_slV, frz_int]; rfl
  rw [callE_flat (by decide) e r (flat_tup2 (flat_ownI _) rfl), thaw_tup, thawL_cons, thaw_ownI]
  rfl
end Go.Q.SZ
end

section
/- The law of the nearest centroids. -/
set_option linter.unusedSimpArgs false
set_option linter.unusedVariables false
namespace Go.Q.SZ
open Go.Q Go.Sort
theorem cents_mem {c : Option (List Vc)} (hc : cents c = true) : ∀ x ∈ lst c, okV x = true ∧ (lst x).length = dm c := by
  unfold cents at hc
  simp only [Bool.and_eq_true, decide_eq_true_eq] at hc
  intro v hv
  have := List.all_eq_true.1 hc.2 v hv
  simpa [okC] using this
theorem cents_len {c : Option (List Vc)} (hc : cents c = true) : (lst c).length ≤ 6 := by
  unfold cents at hc; simp only [Bool.and_eq_true, decide_eq_true_eq] at hc; exact hc.1
theorem nr_two {c : Option (List Vc)} {v : Vc} (hc : cents c = true) (ho : okV v = true) (hd : dm c = (lst v).length) : ∀ x ∈ lst c, Two x v :=
  fun x hx => ⟨(cents_mem hc x hx).1, ho, by rw [(cents_mem hc x hx).2, hd]⟩
end Go.Q.SZ
end

section
/- Rows; whether they may be; queries. -/
set_option linter.unusedSimpArgs false
set_option linter.unusedVariables false
namespace Go.Q.SZ
open Go.Q Go.Sort
def qE (v : Option (List Int)) (k : Int) : Int := if k < 1 then 2 else if 16 < k then 2 else if okV v then 0 else 150
theorem r35 (v : Option (List Int)) (k : Int) (hv : (lst v).length < 9223372036854775808) : res T 35 [.agg [slV 1 i32V v, .int .i64 k]] = some (.int .i64 (qE v k)) := by
  refine run_res (run_pure (fn := g35) rfl rfl (by decide) ?_)
  simp only [g35, b35, oO, oN, mV, lD, gO, pP, qQ, cI, aR]
  have f := f46 v hv
  by_cases h1 : k < 1
  · simp +contextual -implicitDefEqProofs (maxSteps := 2000000) only [↓wP, wQ, wQ1, wQ2, wQ3, wR, boxE, partsOf, ↓reduceIte, Nat.reduceEqDiff, Nat.reduceAdd, Nat.reduceSub, Nat.reduceLeDiff, Nat.reduceLT, Nat.reduceMul, reduceCtorEq, Int.reduceBNe, Int.reduceBEq, Int.reduceLT, Int.reduceLE, Int.reduceGT, h1, qE]
  · by_cases h2 : 16 < k
    · simp +contextual -implicitDefEqProofs (maxSteps := 2000000) only [↓wP, wQ, wQ1, wQ2, wQ3, wR, boxE, partsOf, ↓reduceIte, Nat.reduceEqDiff, Nat.reduceAdd, Nat.reduceSub, Nat.reduceLeDiff, Nat.reduceLT, Nat.reduceMul, reduceCtorEq, Int.reduceBNe, Int.reduceBEq, Int.reduceLT, Int.reduceLE, Int.reduceGT, h1, h2, qE]
    · cases ho : okV v
      · rw [ho] at f
        simp +contextual -implicitDefEqProofs (maxSteps := 2000000) only [↓wP, wQ, wQ1, wQ2, wQ3, wR, boxE, partsOf, ↓reduceIte, Nat.reduceEqDiff, Nat.reduceAdd, Nat.reduceSub, Nat.reduceLeDiff, Nat.reduceLT, Nat.reduceMul, reduceCtorEq, Int.reduceBNe, Int.reduceBEq, Int.reduceLT, Int.reduceLE, Int.reduceGT, h1, h2, qE, f, ho]
      · rw [ho] at f
        simp +contextual -implicitDefEqProofs (maxSteps := 2000000) only [↓wP, wQ, wQ1, wQ2, wQ3, wR, boxE, partsOf, ↓reduceIte, Nat.reduceEqDiff, Nat.reduceAdd, Nat.reduceSub, Nat.reduceLeDiff, Nat.reduceLT, Nat.reduceMul, reduceCtorEq, Int.reduceBNe, Int.reduceBEq, Int.reduceLT, Int.reduceLE, Int.reduceGT, h1, h2, qE, f, ho]
theorem f35 (v : Option (List Int)) (k : Int) (hv : (lst v).length < 9223372036854775808) (fs : Bool) (σ : Sto) (n lk : Nat) : callE T fs 35 [.agg [slV 1 i32V v, .int .i64 k]] σ n lk = some (.int .i64 (qE v k), σ, n) :=
  callE_tr (by decide) (r35 v k hv) (by simp [Tr, Tr_slV]) rfl fs σ n lk
structure Rw where
  id : Int
  v : Option (List Int)
def rwV (r : Rw) : V := .agg [.int .u64 r.id, slV 1 i32V r.v]
theorem rwV_eq (r : Rw) : rwV r = .agg [.int .u64 r.id, slV 1 i32V r.v] := rfl
theorem qE_ok {q : Option (List Int)} {k : Int} (h : qE q k = 0) : okV q = true ∧ 1 ≤ k ∧ k ≤ 16 := by
  unfold qE at h
  split at h
  · cases h
  · split at h
    · cases h
    · split at h
      · rename_i h1 h2 h3; exact ⟨h3, by omega, by omega⟩
      · cases h
theorem r40 (id : Int) (v : Option (List Int)) (hv : (lst v).length < 9223372036854775808) : res T 40 [.agg [.int .u64 id, slV 1 i32V v]] = some (.int .i64 (if okV v then 0 else 170)) := by
  refine run_res (run_pure (fn := g40) rfl rfl (by decide) ?_)
  simp only [g40, b40, oO, oN, mV, lD, gO, pP, qQ, cI, aR]
  have f := f46 v hv
  cases ho : okV v
  · rw [ho] at f
    simp +contextual -implicitDefEqProofs (maxSteps := 2000000) only [↓wP, wQ, wQ1, wQ2, wQ3, wR, boxE, partsOf, ↓reduceIte, Nat.reduceEqDiff, Nat.reduceAdd, Nat.reduceSub, Nat.reduceLeDiff, Nat.reduceLT, Nat.reduceMul, reduceCtorEq, Int.reduceBNe, Int.reduceBEq, Int.reduceLT, Int.reduceLE, Int.reduceGT, f, ho]
  · rw [ho] at f
    simp +contextual -implicitDefEqProofs (maxSteps := 2000000) only [↓wP, wQ, wQ1, wQ2, wQ3, wR, boxE, partsOf, ↓reduceIte, Nat.reduceEqDiff, Nat.reduceAdd, Nat.reduceSub, Nat.reduceLeDiff, Nat.reduceLT, Nat.reduceMul, reduceCtorEq, Int.reduceBNe, Int.reduceBEq, Int.reduceLT, Int.reduceLE, Int.reduceGT, f, ho]
theorem f40 (id : Int) (v : Option (List Int)) (hv : (lst v).length < 9223372036854775808) (fs : Bool) (σ : Sto) (n lk : Nat) : callE T fs 40 [.agg [.int .u64 id, slV 1 i32V v]] σ n lk = some (.int .i64 (if okV v then 0 else 170), σ, n) :=
  callE_tr (by decide) (r40 id v hv) (by simp [Tr, Tr_slV]) rfl fs σ n lk
def okR (r : Rw) : Bool := okV r.v
theorem r39 (id : Int) (v : Option (List Int)) (hv : (lst v).length < 9223372036854775808) : res T 39 [.agg [.int .u64 id, slV 1 i32V v]] = some (.bool (!okV v)) := by
  refine run_res (run_pure (fn := g39) rfl rfl (by decide) ?_)
  simp only [g39, b39, oO, oN, mV, lD, gO, pP, qQ, cI, aR]
  have f := f40 id v hv
  cases ho : okV v
  · rw [ho] at f
    simp +contextual -implicitDefEqProofs (maxSteps := 2000000) only [↓wP, wQ, wQ1, wQ2, wQ3, wR, boxE, partsOf, ↓reduceIte, Nat.reduceEqDiff, Nat.reduceAdd, Nat.reduceSub, Nat.reduceLeDiff, Nat.reduceLT, Nat.reduceMul, reduceCtorEq, Int.reduceBNe, Int.reduceBEq, Int.reduceLT, Int.reduceLE, Int.reduceGT, f, ho]
  · rw [ho] at f
    simp +contextual -implicitDefEqProofs (maxSteps := 2000000) only [↓wP, wQ, wQ1, wQ2, wQ3, wR, boxE, partsOf, ↓reduceIte, Nat.reduceEqDiff, Nat.reduceAdd, Nat.reduceSub, Nat.reduceLeDiff, Nat.reduceLT, Nat.reduceMul, reduceCtorEq, Int.reduceBNe, Int.reduceBEq, Int.reduceLT, Int.reduceLE, Int.reduceGT, f, ho]
theorem f39 (id : Int) (v : Option (List Int)) (hv : (lst v).length < 9223372036854775808) (fs : Bool) (σ : Sto) (n lk : Nat) : callE T fs 39 [.agg [.int .u64 id, slV 1 i32V v]] σ n lk = some (.bool (!okV v), σ, n) :=
  callE_tr (by decide) (r39 id v hv) (by simp [Tr, Tr_slV]) rfl fs σ n lk
theorem r41 (id : Int) (v : Option (List Int)) (d : Int) : res T 41 [.agg [.int .u64 id, slV 1 i32V v], .box [.int .i64 d]] = some (.bool (((lst v).length : Int) != d)) := by
  refine run_res (run_pure (fn := g41) rfl rfl (by decide) ?_)
  simp only [g41, b41, oO, oN, mV, lD, gO, pP, qQ, cI, aR]
  simp +contextual -implicitDefEqProofs (maxSteps := 2000000) only [↓wP, wQ, wQ1, wQ2, wQ3, wR, boxE, partsOf, ↓reduceIte, Nat.reduceEqDiff, Nat.reduceAdd, Nat.reduceSub, Nat.reduceLeDiff, Nat.reduceLT, Nat.reduceMul, reduceCtorEq, Int.reduceBNe, Int.reduceBEq, Int.reduceLT, Int.reduceLE, Int.reduceGT]
theorem f41 (id : Int) (v : Option (List Int)) (d : Int) (fs : Bool) (σ : Sto) (n lk : Nat) : callE T fs 41 [.agg [.int .u64 id, slV 1 i32V v], .box [.int .i64 d]] σ n lk = some (.bool (((lst v).length : Int) != d), σ, n) :=
  callE_tr (by decide) (r41 id v d) (by simp [Tr, Tr_slV]) rfl fs σ n lk
theorem r50g (o : Option (List Rw)) (F : Nat) (caps : List V) (p : Rw → Bool) (hl : (lst o).length < 9223372036854775808) (hp : ∀ x ∈ lst o, ∀ fs σ n lk, callE T fs F (.agg [.int .u64 x.id, slV 1 i32V x.v] :: caps) σ n lk = some (.bool (p x), σ, n)) :
    res T 69 [slV 2 rwV o, .fn F caps] = some (.int .i64 (idxF p (lst o))) := by
  refine run_res (run_pure (fn := g69) rfl rfl (by decide) ?_)
  simp only [g69, b69, oO, oN, mV, lD, gO, pP, qQ, cI, aR]
  simp +contextual -implicitDefEqProofs (maxSteps := 2000000) only [↓wP, wQ, wQ1, wQ2, wQ3, wR, boxE, partsOf, ↓reduceIte, Nat.reduceEqDiff, Nat.reduceAdd, Nat.reduceSub, Nat.reduceLeDiff, Nat.reduceLT, Nat.reduceMul, reduceCtorEq, Int.reduceBNe, Int.reduceBEq, Int.reduceLT, Int.reduceLE, Int.reduceGT]
  refine WC_for (lst o).length 0 (fun (j : Nat) env _ _ => env 0 = slV 2 rwV o ∧ env 1 = .fn F caps ∧ (lst o).findIdx? p = (((lst o).drop j).findIdx? p).map (· + j)) (by omega) (by decide) (by decide) (fun _ _ => rfl) (fun _ _ _ => rfl) ?_ ?_ _ _ _ rfl rfl ?_
  · intro j env σ n hj h1 h2 ⟨h3, h4, h5⟩
    simp only [vl_tmp] at h2
    have hx : (lst o)[j]? = some (lst o)[j] := List.getElem?_eq_getElem hj
    have hp' := hp (lst o)[j] (List.getElem_mem hj)
    simp +contextual -implicitDefEqProofs (maxSteps := 2000000) only [↓wP, wQ, wQ1, wQ2, wQ3, wR, boxE, partsOf, ↓reduceIte, Nat.reduceEqDiff, Nat.reduceAdd, Nat.reduceSub, Nat.reduceLeDiff, Nat.reduceLT, Nat.reduceMul, reduceCtorEq, Int.reduceBNe, Int.reduceBEq, Int.reduceLT, Int.reduceLE, Int.reduceGT, h1, h2, h3, h4, hx, rwV_eq, hp']
    rw [List.drop_eq_getElem_cons hj, List.findIdx?_cons] at h5
    refine condC_split (fun hb => ?_) (fun hb => ?_)
    · simp +contextual -implicitDefEqProofs (maxSteps := 2000000) only [↓wP, wQ, wQ1, wQ2, wQ3, wR, boxE, partsOf, ↓reduceIte, Nat.reduceEqDiff, Nat.reduceAdd, Nat.reduceSub, Nat.reduceLeDiff, Nat.reduceLT, Nat.reduceMul, reduceCtorEq, Int.reduceBNe, Int.reduceBEq, Int.reduceLT, Int.reduceLE, Int.reduceGT]
      simp [idxF, h5, hb]
    · simp +contextual -implicitDefEqProofs (maxSteps := 2000000) only [↓wP, wQ, wQ1, wQ2, wQ3, wR, boxE, partsOf, ↓reduceIte, Nat.reduceEqDiff, Nat.reduceAdd, Nat.reduceSub, Nat.reduceLeDiff, Nat.reduceLT, Nat.reduceMul, reduceCtorEq, Int.reduceBNe, Int.reduceBEq, Int.reduceLT, Int.reduceLE, Int.reduceGT, h1, h2, h3, h4]
      rw [h5, hb]
      simp only [Bool.false_eq_true, if_false, Option.map_map, Function.comp_def]
      congr 1; funext i; omega
  · intro env σ n ⟨h3, h4, h5⟩ h1 h2
    simp +contextual -implicitDefEqProofs (maxSteps := 2000000) only [↓wP, wQ, wQ1, wQ2, wQ3, wR, boxE, partsOf, ↓reduceIte, Nat.reduceEqDiff, Nat.reduceAdd, Nat.reduceSub, Nat.reduceLeDiff, Nat.reduceLT, Nat.reduceMul, reduceCtorEq, Int.reduceBNe, Int.reduceBEq, Int.reduceLT, Int.reduceLE, Int.reduceGT]
    simp [idxF, h5]
  · exact ⟨rfl, rfl, by simp⟩
theorem r30g (o : Option (List Rw)) (F : Nat) (caps : List V) (p : Rw → Bool) (hl : (lst o).length < 9223372036854775808) (hc : caps.all (Tr 11) = true) (hp : ∀ x ∈ lst o, ∀ fs σ n lk, callE T fs F (.agg [.int .u64 x.id, slV 1 i32V x.v] :: caps) σ n lk = some (.bool (p x), σ, n)) :
    res T 38 [slV 2 rwV o, .fn F caps] = some (.bool ((lst o).any p)) := by
  refine run_res (run_pure (fn := g38) rfl rfl (by decide) ?_)
  simp only [g38, b38, oO, oN, mV, lD, gO, pP, qQ, cI, aR]
  have h := callE_tr (by decide) (r50g o F caps p hl hp) (by simp [Tr, Tr_slV]; exact fun x hx => List.all_eq_true.1 hc x hx) rfl
  simp +contextual -implicitDefEqProofs (maxSteps := 2000000) only [↓wP, wQ, wQ1, wQ2, wQ3, wR, boxE, partsOf, ↓reduceIte, Nat.reduceEqDiff, Nat.reduceAdd, Nat.reduceSub, Nat.reduceLeDiff, Nat.reduceLT, Nat.reduceMul, reduceCtorEq, Int.reduceBNe, Int.reduceBEq, Int.reduceLT, Int.reduceLE, Int.reduceGT, h, idxF_any]
def chkE (q : Vc) (k n : Int) : Int := if k < 1 then 2 else if 16 < k then 2 else if askE n ≠ 0 then askE n else if okV q then 0 else 150
theorem r12 (q : Vc) (k t m : Int) (hq : Sm q) : res T 12 [.agg [slV 1 i32V q, .int .i64 k, .int .u64 t, .int .i64 m]] = some (.int .i64 (chkE q k m)) := by
  refine run_res (run_pure (fn := g12) rfl rfl (by decide) ?_)
  simp only [g12, b12, oO, oN, mV, lD, gO, pP, qQ, cI, aR]
  have h1 := f35 q k hq
  have h2 := f34 m
  unfold chkE
  by_cases k1 : k < 1
  · simp +contextual -implicitDefEqProofs (maxSteps := 2000000) only [↓wP, wQ, wQ1, wQ2, wQ3, wR, boxE, partsOf, ↓reduceIte, Nat.reduceEqDiff, Nat.reduceAdd, Nat.reduceSub, Nat.reduceLeDiff, Nat.reduceLT, Nat.reduceMul, reduceCtorEq, Int.reduceBNe, Int.reduceBEq, Int.reduceLT, Int.reduceLE, Int.reduceGT, k1]
  · by_cases k2 : 16 < k
    · simp +contextual -implicitDefEqProofs (maxSteps := 2000000) only [↓wP, wQ, wQ1, wQ2, wQ3, wR, boxE, partsOf, ↓reduceIte, Nat.reduceEqDiff, Nat.reduceAdd, Nat.reduceSub, Nat.reduceLeDiff, Nat.reduceLT, Nat.reduceMul, reduceCtorEq, Int.reduceBNe, Int.reduceBEq, Int.reduceLT, Int.reduceLE, Int.reduceGT, k1, k2]
    · by_cases ha : askE m = 0
      · have e : qE q k = if okV q then 0 else 150 := by unfold qE; rw [if_neg k1, if_neg k2]
        rw [e] at h1
        rw [ha] at h2
        rw [if_neg (show ¬ askE m ≠ 0 by omega)]
        simp +contextual -implicitDefEqProofs (maxSteps := 2000000) only [↓wP, wQ, wQ1, wQ2, wQ3, wR, boxE, partsOf, ↓reduceIte, Nat.reduceEqDiff, Nat.reduceAdd, Nat.reduceSub, Nat.reduceLeDiff, Nat.reduceLT, Nat.reduceMul, reduceCtorEq, Int.reduceBNe, Int.reduceBEq, Int.reduceLT, Int.reduceLE, Int.reduceGT, k1, k2, h1, h2, ha]
      · have hb : (askE m != 0) = true := by simpa using ha
        rw [if_pos ha]
        simp +contextual -implicitDefEqProofs (maxSteps := 2000000) only [↓wP, wQ, wQ1, wQ2, wQ3, wR, boxE, partsOf, ↓reduceIte, Nat.reduceEqDiff, Nat.reduceAdd, Nat.reduceSub, Nat.reduceLeDiff, Nat.reduceLT, Nat.reduceMul, reduceCtorEq, Int.reduceBNe, Int.reduceBEq, Int.reduceLT, Int.reduceLE, Int.reduceGT, k1, k2, h2, ha, hb]
theorem f12 (q : Vc) (k t m : Int) (hq : Sm q) (fs : Bool) (σ : Sto) (n lk : Nat) : callE T fs 12 [.agg [slV 1 i32V q, .int .i64 k, .int .u64 t, .int .i64 m]] σ n lk = some (.int .i64 (chkE q k m), σ, n) :=
  callE_tr (by decide) (r12 q k t m hq) (by simp [Tr, Tr_slV]) rfl fs σ n lk
end Go.Q.SZ
end

section
/- The nearest vector. -/
set_option linter.unusedSimpArgs false
set_option linter.unusedVariables false
namespace Go.Q.SZ
open Go.Q Go.Sort
theorem f52g (v : Vc) (o : Option (List Vc)) (hne : lst o ≠ []) (fs : Bool) (σ : Sto) (n lk : Nat) : callE T fs 108 [slV 1 i32V v, .box [slV 1 vecV o]] σ n lk = some (.bool (((lst v).length : Int) != ((dm o : Nat) : Int)), σ, n) := by
  refine callE_tr (by decide) ?_ (by simp [Tr, Tr_slV]) rfl fs σ n lk
  refine run_res (run_pure (fn := g108) rfl rfl (by decide) ?_)
  simp only [g108, b108, oO, oN, mV, lD, gO, pP, qQ, cI, aR]
  obtain ⟨v0, h0, hd⟩ := dm_get hne
  rw [hd]
  simp +contextual -implicitDefEqProofs (maxSteps := 2000000) only [↓wP, wQ, wQ1, wQ2, wQ3, wR, boxE, partsOf, ↓reduceIte, Nat.reduceEqDiff, Nat.reduceAdd, Nat.reduceSub, Nat.reduceLeDiff, Nat.reduceLT, Nat.reduceMul, reduceCtorEq, Int.reduceBNe, Int.reduceBEq, Int.reduceLT, Int.reduceLE, Int.reduceGT, h0, vecV_eq]
theorem r53h (c : Option (List Vc)) (hl : (lst c).length < 9223372036854775808) : res T 84 [slV 1 vecV c, .fn 108 [.box [slV 1 vecV c]]] = some (.bool ((lst c).any fun v => ((lst v).length : Int) != ((dm c : Nat) : Int))) := by
  refine run_res (run_pure (fn := g84) rfl rfl (by decide) ?_)
  simp only [g84, b84, oO, oN, mV, lD, gO, pP, qQ, cI, aR]
  have h := callE_tr (by decide) (r65g c 108 [.box [slV 1 vecV c]] (fun v => ((lst v).length : Int) != ((dm c : Nat) : Int)) hl (fun x hx fs σ n lk => f52g x c (fun h => by rw [h] at hx; simp at hx) fs σ n lk)) (by simp [Tr, Tr_slV]) rfl
  simp +contextual -implicitDefEqProofs (maxSteps := 2000000) only [↓wP, wQ, wQ1, wQ2, wQ3, wR, boxE, partsOf, ↓reduceIte, Nat.reduceEqDiff, Nat.reduceAdd, Nat.reduceSub, Nat.reduceLeDiff, Nat.reduceLT, Nat.reduceMul, reduceCtorEq, Int.reduceBNe, Int.reduceBEq, Int.reduceLT, Int.reduceLE, Int.reduceGT, h, idxF_any]
def allE (o : Option (List Vc)) : Int := if (lst o).all okV then (if (lst o).any (fun v => ((lst v).length : Int) != ((dm o : Nat) : Int)) then 151 else 0) else 150
theorem r36g (c : Option (List Vc)) (hl : (lst c).length < 9223372036854775808) (hv : ∀ v ∈ lst c, Sm v) : res T 76 [slV 1 vecV c] = some (.int .i64 (allE c)) := by
  refine run_res (run_pure (fn := g76) rfl rfl (by decide) ?_)
  simp only [g76, b76, oO, oN, mV, lD, gO, pP, qQ, cI, aR]
  simp +contextual -implicitDefEqProofs (maxSteps := 2000000) only [↓wP, wQ, wQ1, wQ2, wQ3, wR, boxE, partsOf, ↓reduceIte, Nat.reduceEqDiff, Nat.reduceAdd, Nat.reduceSub, Nat.reduceLeDiff, Nat.reduceLT, Nat.reduceMul, reduceCtorEq, Int.reduceBNe, Int.reduceBEq, Int.reduceLT, Int.reduceLE, Int.reduceGT]
  refine WC_for (lst c).length 0 (fun (j : Nat) env σ n => 1 ≤ n ∧ σ 0 = some (.row 1 [slV 1 vecV c]) ∧ env 1 = .ptr 0 1 0 0 ∧ env 7 = slV 1 vecV c ∧ (lst c).all okV = ((lst c).drop j).all okV) (by omega) (by decide) (by decide) (fun _ _ => rfl) (fun _ _ _ => rfl) ?_ ?_ _ _ _ rfl rfl ?_
  · intro j env σ n hj g1 g2 ⟨g3, g4, g5, g6, g7⟩
    simp only [vl_tmp] at g2
    have hx : (lst c)[j]? = some (lst c)[j] := List.getElem?_eq_getElem hj
    have f := f46 (lst c)[j] (hv _ (List.getElem_mem hj))
    rw [List.drop_eq_getElem_cons hj, List.all_cons] at g7
    generalize (lst c)[j] = x at *
    cases ho : okV x
    · rw [ho] at f
      rw [ho, Bool.false_and] at g7
      have e : allE c = 150 := by unfold allE; rw [g7]; rfl
      simp +contextual -implicitDefEqProofs (maxSteps := 2000000) only [↓wP, wQ, wQ1, wQ2, wQ3, wR, boxE, partsOf, ↓reduceIte, Nat.reduceEqDiff, Nat.reduceAdd, Nat.reduceSub, Nat.reduceLeDiff, Nat.reduceLT, Nat.reduceMul, reduceCtorEq, Int.reduceBNe, Int.reduceBEq, Int.reduceLT, Int.reduceLE, Int.reduceGT, g1, g2, g3, g4, g5, g6, hx, vecV_eq, f, e]
    · rw [ho] at f
      rw [ho, Bool.true_and] at g7
      simp +contextual -implicitDefEqProofs (maxSteps := 2000000) only [↓wP, wQ, wQ1, wQ2, wQ3, wR, boxE, partsOf, ↓reduceIte, Nat.reduceEqDiff, Nat.reduceAdd, Nat.reduceSub, Nat.reduceLeDiff, Nat.reduceLT, Nat.reduceMul, reduceCtorEq, Int.reduceBNe, Int.reduceBEq, Int.reduceLT, Int.reduceLE, Int.reduceGT, g1, g2, g3, g4, g5, g6, hx, vecV_eq, f]
      exact g7
  · intro env σ n ⟨g3, g4, g5, g6, g7⟩ g1 g2
    rw [List.drop_length, List.all_nil] at g7
    have hc : frz σ 12 (.fn 108 [.ptr 0 1 0 0]) = some (.fn 108 [.box [slV 1 vecV c]]) := by
      simp +contextual -implicitDefEqProofs (maxSteps := 2000000) only [↓wP, wQ, wQ1, wQ2, wQ3, wR, boxE, partsOf, ↓reduceIte, Nat.reduceEqDiff, Nat.reduceAdd, Nat.reduceSub, Nat.reduceLeDiff, Nat.reduceLT, Nat.reduceMul, reduceCtorEq, Int.reduceBNe, Int.reduceBEq, Int.reduceLT, Int.reduceLE, Int.reduceGT, g4, frz_fn, frz_ptr, frz_slV, cl_slV]
    have e : [slV 1 vecV c, V.fn 108 [.ptr 0 1 0 0]].mapM (frz σ 12) = some [slV 1 vecV c, .fn 108 [.box [slV 1 vecV c]]] := by
      simp only [List.mapM_cons, List.mapM_nil, frz_slV, hc]; rfl
    have f84' := fun n lk => callE_flat (fs := true) (n := n) (lk := lk) (by decide) e (r53h c hl) rfl
    simp only [thaw] at f84'
    unfold allE
    rw [g7]
    cases ha : (lst c).any fun v => ((lst v).length : Int) != ((dm c : Nat) : Int) <;> rw [ha] at f84'
    all_goals simp +contextual -implicitDefEqProofs (maxSteps := 2000000) only [↓wP, wQ, wQ1, wQ2, wQ3, wR, boxE, partsOf, ↓reduceIte, Nat.reduceEqDiff, Nat.reduceAdd, Nat.reduceSub, Nat.reduceLeDiff, Nat.reduceLT, Nat.reduceMul, reduceCtorEq, Int.reduceBNe, Int.reduceBEq, Int.reduceLT, Int.reduceLE, Int.reduceGT, g4, g5, f84']
  · simp +contextual -implicitDefEqProofs (maxSteps := 2000000) only [↓wP, wQ, wQ1, wQ2, wQ3, wR, boxE, partsOf, ↓reduceIte, Nat.reduceEqDiff, Nat.reduceAdd, Nat.reduceSub, Nat.reduceLeDiff, Nat.reduceLT, Nat.reduceMul, reduceCtorEq, Int.reduceBNe, Int.reduceBEq, Int.reduceLT, Int.reduceLE, Int.reduceGT]
def nb (v : Vc) (c : List Vc) (j : Nat) : Nat := (bst [] (dis v c) j).toNat
theorem nb_step (v : Vc) (c : List Vc) (j : Nat) : nb v c (j + 1) = if ahead ⟨j, dis v c j⟩ ⟨nb v c j, dis v c (nb v c j)⟩ then j else nb v c j := by
  unfold nb
  rw [show bst [] (dis v c) (j + 1) = if (j : Int) ∈ ([] : List Int) then bst [] (dis v c) j else if 0 ≤ bst [] (dis v c) j ∧ dis v c (bst [] (dis v c) j).toNat ≤ dis v c j then bst [] (dis v c) j else j from rfl, if_neg (by simp)]
  rcases bst_spec [] (dis v c) j with ⟨h1, h2⟩ | ⟨b, h1, h2, -, -⟩
  · have : j = 0 := by
      rcases Nat.eq_zero_or_pos j with h | h
      · exact h
      · have := h2 0 h; simp at this
    subst this
    rw [h1, if_neg (by omega)]
    show (0 : Int).toNat = _
    rw [show ((-1 : Int).toNat) = 0 by rfl]
    split <;> rfl
  · rw [h1]
    unfold ahead
    simp only [Int.toNat_natCast]
    by_cases hd : dis v c b ≤ dis v c j
    · rw [if_pos ⟨by omega, hd⟩, if_neg (by simp; omega)]; rfl
    · rw [if_neg (by rintro ⟨-, h⟩; exact hd h), if_pos (by simp; omega)]; rfl
theorem nb_lt (v : Vc) (c : List Vc) (j : Nat) : nb v c j ≤ j := by
  unfold nb
  rcases bst_spec [] (dis v c) j with ⟨h1, h2⟩ | ⟨b, h1, h2, -, -⟩ <;> rw [h1] <;> simp <;> omega
theorem r43 (c : Option (List Vc)) (v : Vc) (hl : (lst c).length ≤ 7) (hne : lst c ≠ []) (h2' : ∀ x ∈ lst c, Two x v) (hv : ∀ x ∈ lst c, Sm x) (hv' : Sm v) :
    res T 43 [slV 1 vecV c, slV 1 i32V v] = some (.tup [.int .i64 (nb v (lst c) (lst c).length), .int .i64 0]) := by
  refine run_res (run_pure (fn := g43) rfl rfl (by decide) ?_)
  simp only [g43, b43, oO, oN, mV, lD, gO, pP, qQ, cI, aR]
  have hp : 0 < (lst c).length := List.length_pos_iff.2 hne
  have z0 : (((lst c).length : Int) == 0) = false := by simp; exact hne
  obtain ⟨D, hD⟩ : ∃ D, D = dis v (lst c) := ⟨_, rfl⟩
  have hDx : ∀ i (h : i < (lst c).length), distI (lst c)[i] v = D i := fun i h => by rw [hD]; simp [dis, h]
  have x0 : (lst c)[0]? = some (lst c)[0] := List.getElem?_eq_getElem hp
  have d0 := f77 (lst c)[0] v (h2' _ (List.getElem_mem hp))
  rw [hDx 0 hp] at d0
  have ea : allE (some (v :: lst c)) = 0 := by
    have hok : okV v = true := (h2' _ (List.getElem_mem hp)).2
    have hd : dm (some (v :: lst c)) = (lst v).length := rfl
    unfold allE
    rw [if_pos, if_neg]
    · rw [Bool.not_eq_true, List.any_eq_false]
      intro x hx
      rw [hd]
      rcases List.mem_cons.1 hx with rfl | hx
      · simp
      · have := (h2' x hx).3; simp; omega
    · rw [List.all_eq_true]
      intro x hx
      rcases List.mem_cons.1 hx with rfl | hx
      · exact hok
      · exact (h2' x hx).1
  have r76 := r36g (some (v :: lst c)) (by rw [lst_some, List.length_cons]; omega) (fun x hx => by
    rcases List.mem_cons.1 hx with rfl | hx
    · exact hv'
    · exact hv x hx)
  rw [ea] at r76
  have hlm : ((lst c).map vecV).length = (lst c).length := List.length_map _
  have hL : (1 + (lst c).length) * 24 ≤ LIM := by unfold LIM; omega
  obtain ⟨σ1, hσ1⟩ : ∃ σ1, σ1 = upd (upd (upd Sto.empty 0 (some (Ob.row 1 [slV 1 i32V v]))) 0 none) 1 (some (Ob.row 1 (slV 1 i32V v :: (lst c).map vecV))) := ⟨_, rfl⟩
  have e : [V.ref 1 0 (1 + (lst c).length) 1].mapM (frz σ1 12) = some [slV 1 vecV (some (v :: lst c))] := by
    have hx : frz σ1 12 (.ref 1 0 (1 + (lst c).length) 1) = some (slV 1 vecV (some (v :: lst c))) := by
      have he : elems σ1 1 (.ref 1 0 (1 + (lst c).length) 1) = some ((v :: lst c).map vecV) := by
        rw [hσ1]
        simp [elems, upd]
        exact ⟨by omega, by rw [List.take_of_length_le (by rw [List.length_cons, List.length_map]; omega)]; rfl⟩
      show (elems _ _ _).bind _ = _
      rw [he, Option.bind_some, mapM_id (fun x hx => by
        obtain ⟨y, -, rfl⟩ := List.mem_map.1 hx
        exact elemM_tr (Tr_slV _ _ _ _))]
      rfl
    simp only [List.mapM_cons, List.mapM_nil, hx]; rfl
  have f76' := fun n lk => callE_flat (fs := true) (n := n) (lk := lk) (by decide) e r76 rfl
  simp only [thaw] at f76'
  simp +contextual -implicitDefEqProofs (maxSteps := 2000000) only [↓wP, wQ, wQ1, wQ2, wQ3, wR, boxE, partsOf, ↓reduceIte, Nat.reduceEqDiff, Nat.reduceAdd, Nat.reduceSub, Nat.reduceLeDiff, Nat.reduceLT, Nat.reduceMul, reduceCtorEq, Int.reduceBNe, Int.reduceBEq, Int.reduceLT, Int.reduceLE, Int.reduceGT, z0, x0, vecV_eq, d0, true_or, hlm, hL, ← hσ1, f76']
  refine WC_for (lst c).length 0 (fun (j : Nat) env σ n => env 1 = slV 1 i32V v ∧ env 7 = .ptr 2 2 0 0 ∧ env 28 = slV 1 vecV c ∧ 3 ≤ n ∧ σ 2 = some (.row 2 [.agg [.int .u64 (nb v (lst c) j : Int), .int .u64 (D (nb v (lst c) j))]])) (by omega) (by decide) (by decide) (fun _ _ => rfl) (fun _ _ _ => rfl) ?_ ?_ _ _ _ rfl rfl ?_
  · intro j env σ n hj h1 h2 ⟨g1, g2, g3, g4, g5⟩
    simp only [vl_tmp] at h2
    have hx : (lst c)[j]? = some (lst c)[j] := List.getElem?_eq_getElem hj
    have dj := f77 (lst c)[j] v (h2' _ (List.getElem_mem hj))
    rw [hDx j hj] at dj
    have hst := nb_step v (lst c) j
    rw [← hD] at hst
    generalize (lst c)[j] = x at *
    have wj : IntKind.u64.wrap ((j : Nat) : Int) = ((j : Nat) : Int) := by rw [wrap_u64] <;> omega
    have q2 : (2 = n) = False := by simp; omega
    have q3 : (n = 2) = False := by simp; omega
    obtain ⟨σ1, hσ1⟩ : ∃ σ1, σ1 = upd (upd σ n (some (.row 2 [.agg [.int .u64 0, .int .u64 0]]))) n (some (.row 2 [.agg [.int .u64 (j : Int), .int .u64 (D j)]])) := ⟨_, rfl⟩
    have s2 : σ1 2 = some (.row 2 [.agg [.int .u64 (nb v (lst c) j : Int), .int .u64 (D (nb v (lst c) j))]]) := by rw [hσ1]; simp [upd, q2, g5]
    have sn : σ1 n = some (.row 2 [.agg [.int .u64 (j : Int), .int .u64 (D j)]]) := by rw [hσ1]; simp [upd]
    by_cases ha : cmpH ⟨j, D j⟩ ⟨nb v (lst c) j, D (nb v (lst c) j)⟩ < 0
    · have hah : ahead ⟨j, D j⟩ ⟨nb v (lst c) j, D (nb v (lst c) j)⟩ = true := by rw [← cmp_lt]; simpa using ha
      rw [if_pos hah] at hst
      simp +contextual -implicitDefEqProofs (maxSteps := 2000000) only [↓wP, wQ, wQ1, wQ2, wQ3, wR, boxE, partsOf, ↓reduceIte, Nat.reduceEqDiff, Nat.reduceAdd, Nat.reduceSub, Nat.reduceLeDiff, Nat.reduceLT, Nat.reduceMul, reduceCtorEq, Int.reduceBNe, Int.reduceBEq, Int.reduceLT, Int.reduceLE, Int.reduceGT, h1, h2, g1, g2, g3, hx, vecV_eq, dj, wj, q2, q3, ← hσ1, s2, sn, f78, ha]
      exact ⟨by omega, by rw [hst]⟩
    · have hah : ahead ⟨j, D j⟩ ⟨nb v (lst c) j, D (nb v (lst c) j)⟩ = false := by rw [← cmp_lt]; simpa using ha
      rw [if_neg (by rw [hah]; simp)] at hst
      simp +contextual -implicitDefEqProofs (maxSteps := 2000000) only [↓wP, wQ, wQ1, wQ2, wQ3, wR, boxE, partsOf, ↓reduceIte, Nat.reduceEqDiff, Nat.reduceAdd, Nat.reduceSub, Nat.reduceLeDiff, Nat.reduceLT, Nat.reduceMul, reduceCtorEq, Int.reduceBNe, Int.reduceBEq, Int.reduceLT, Int.reduceLE, Int.reduceGT, h1, h2, g1, g2, g3, hx, vecV_eq, dj, wj, q2, q3, ← hσ1, s2, sn, f78, ha]
      exact ⟨by omega, by rw [hst]⟩
  · intro env σ n ⟨g1, g2, g3, g4, g5⟩ h1 h2
    have wb : IntKind.i64.wrap ((nb v (lst c) (lst c).length : Nat) : Int) = ((nb v (lst c) (lst c).length : Nat) : Int) := by have := nb_lt v (lst c) (lst c).length; rw [wrap_i64] <;> omega
    simp +contextual -implicitDefEqProofs (maxSteps := 2000000) only [↓wP, wQ, wQ1, wQ2, wQ3, wR, boxE, partsOf, ↓reduceIte, Nat.reduceEqDiff, Nat.reduceAdd, Nat.reduceSub, Nat.reduceLeDiff, Nat.reduceLT, Nat.reduceMul, reduceCtorEq, Int.reduceBNe, Int.reduceBEq, Int.reduceLT, Int.reduceLE, Int.reduceGT, g2, g5, wb]
  · simp +contextual -implicitDefEqProofs (maxSteps := 2000000) only [↓wP, wQ, wQ1, wQ2, wQ3, wR, boxE, partsOf, ↓reduceIte, Nat.reduceEqDiff, Nat.reduceAdd, Nat.reduceSub, Nat.reduceLeDiff, Nat.reduceLT, Nat.reduceMul, reduceCtorEq, Int.reduceBNe, Int.reduceBEq, Int.reduceLT, Int.reduceLE, Int.reduceGT]
    rfl
theorem f43 (c : Option (List Vc)) (v : Vc) (hl : (lst c).length ≤ 7) (hne : lst c ≠ []) (h2 : ∀ x ∈ lst c, Two x v) (hv : ∀ x ∈ lst c, Sm x) (hv' : Sm v) (fs : Bool) (σ : Sto) (n lk : Nat) :
    callE T fs 43 [slV 1 vecV c, slV 1 i32V v] σ n lk = some (.tup [.int .i64 (nb v (lst c) (lst c).length), .int .i64 0], σ, n) :=
  callE_tr (by decide) (r43 c v hl hne h2 hv hv') (by simp [Tr, Tr_slV]) rfl fs σ n lk
end Go.Q.SZ
end

section
/- What is found among what is gone over. -/
set_option linter.unusedSimpArgs false
set_option linter.unusedVariables false
namespace Go.Q.SZ
open Go.Q Go.Sort
theorem hVal_frz {σ : Sto} {n : Nat} {l : List Hit} (h : l ≠ [] → σ n = some (.row 2 (hs l))) (k : Nat) : frz σ (k + 3) (hVal n l) = some (slV 2 hitV (optH l)) := by
  unfold hVal
  split
  · rename_i e; subst e; rfl
  · rename_i e
    have e1 : (rw' l.toArray).take l.length = hs l := by rw [rw_hs, hs_take, List.take_length]
    rw [frz_pre (d := l.toArray) (by simp) (by rw [rw_hs]; exact h e) k, e1]
    simp [optH, e, slV, hs]
def Iter (F : Nat) (caps : List V) (items : List Rw) (w : Nat) : Prop :=
  ∀ (J : List Rw → Sto → Nat → Prop) (D : Sto → Nat → Prop) (ok : Rw → Bool) (σ : Sto),
    (∀ pre σ n σ' n', J pre σ n → n ≤ n' → (∀ i, i < n → (i < 6 ∨ 6 + w ≤ i) → σ' i = σ i) → J pre σ' n') →
    (∀ σ n σ' n', D σ n → (∀ i, i < 6 → σ' i = σ i) → D σ' n') →
    (∀ pre x σ n, J pre σ n → 6 + w ≤ n → x ∈ items → pre.length < items.length → yieldW (run T) 5 [.int .u64 x.id, slV 1 i32V x.v] σ n 0 (fun y σ' n' => (∀ i, 6 ≤ i → i < 6 + w → σ' i = σ i) ∧ n ≤ n' ∧
      ((ok x = true ∧ y = .bool true ∧ J (pre ++ [x]) σ' n') ∨ (ok x = false ∧ y = .bool false ∧ D σ' n')))) →
    (∀ σ' n', 6 + w ≤ n' → (∀ i, i < 6 → σ' i = σ i) → J [] σ' n') →
    run T (.raw F (.yld 5 :: caps) σ 6 0) (memQ fun _ σ' n' => (items.all ok = true ∧ J items σ' n') ∨ (items.all ok = false ∧ D σ' n'))
def asg55 : AC := (.seq (.reg [⟨(some 9), none, .mov (.tmp 14)⟩]) (.reg [⟨(some 10), none, .mov (.tmp 15)⟩]))
def bd55 : AC := (.block 1 (.seq (.reg [⟨(some 17), none, .load false 1 (.tmp 5)⟩,
       ⟨(some 18), none, .mov (.tmp 9)⟩,
       ⟨(some 19), none, .mov (.tmp 10)⟩,
       ⟨(some 20), none, .callv (.tmp 17) [(.tmp 18), (.tmp 19)]⟩,
       ⟨(some 16), none, .mov (.tmp 20)⟩,
       ⟨(some 21), none, .ext (.tmp 16) 0⟩,
       ⟨(some 22), none, .ext (.tmp 16) 1⟩,
       ⟨(some 11), none, .alloc (.agg [(.int .u64 0), (.int .u64 0)])⟩,
       ⟨none, none, .store 2 (.tmp 11) (.tmp 21)⟩,
       ⟨(some 12), none, .mov (.tmp 22)⟩])
     (.seq (.seq (.reg [⟨(some 23), none, .mov (.tmp 12)⟩,
       ⟨(some 24), none, .bin .neq (.tmp 23) (.con (.int .i64 0))⟩])
     (.cond (.tmp 24)
      (.seq (.reg [⟨(some 25), none, .mov (.tmp 12)⟩,
        ⟨none, none, .store 1 (.tmp 6) (.con .nilS)⟩,
        ⟨none, none, .store 1 (.tmp 7) (.tmp 25)⟩])
      .ret)
      .skip))
     (.reg [⟨(some 26), none, .load false 1 (.tmp 8)⟩,
       ⟨(some 27), none, .load true 2 (.tmp 11)⟩,
       ⟨(some 28), none, .lit 2 [(.tmp 27)]⟩,
       ⟨(some 29), none, .append 2 16 (.tmp 26) (.tmp 28)⟩,
       ⟨none, none, .store 1 (.tmp 8) (.tmp 29)⟩]))))
theorem w_asg55 (env : Nat → V) (σ : Sto) (n lk : Nat) (Q : Ex → St → Prop) : WC T asg55 env σ n lk Q = WC T (.seq (.reg [⟨(some 9), none, .mov (.tmp 14)⟩]) (.reg [⟨(some 10), none, .mov (.tmp 15)⟩])) env σ n lk Q := rfl
theorem w_bd55 (env : Nat → V) (σ : Sto) (n lk : Nat) (Q : Ex → St → Prop) : WC T bd55 env σ n lk Q = WC T (.block 1 (.seq (.reg [⟨(some 17), none, .load false 1 (.tmp 5)⟩,
       ⟨(some 18), none, .mov (.tmp 9)⟩,
       ⟨(some 19), none, .mov (.tmp 10)⟩,
       ⟨(some 20), none, .callv (.tmp 17) [(.tmp 18), (.tmp 19)]⟩,
       ⟨(some 16), none, .mov (.tmp 20)⟩,
       ⟨(some 21), none, .ext (.tmp 16) 0⟩,
       ⟨(some 22), none, .ext (.tmp 16) 1⟩,
       ⟨(some 11), none, .alloc (.agg [(.int .u64 0), (.int .u64 0)])⟩,
       ⟨none, none, .store 2 (.tmp 11) (.tmp 21)⟩,
       ⟨(some 12), none, .mov (.tmp 22)⟩])
     (.seq (.seq (.reg [⟨(some 23), none, .mov (.tmp 12)⟩,
       ⟨(some 24), none, .bin .neq (.tmp 23) (.con (.int .i64 0))⟩])
     (.cond (.tmp 24)
      (.seq (.reg [⟨(some 25), none, .mov (.tmp 12)⟩,
        ⟨none, none, .store 1 (.tmp 6) (.con .nilS)⟩,
        ⟨none, none, .store 1 (.tmp 7) (.tmp 25)⟩])
      .ret)
      .skip))
     (.reg [⟨(some 26), none, .load false 1 (.tmp 8)⟩,
       ⟨(some 27), none, .load true 2 (.tmp 11)⟩,
       ⟨(some 28), none, .lit 2 [(.tmp 27)]⟩,
       ⟨(some 29), none, .append 2 16 (.tmp 26) (.tmp 28)⟩,
       ⟨none, none, .store 1 (.tmp 8) (.tmp 29)⟩])))) env σ n lk Q := rfl
def hitQ (q : Option (List Int)) (r : Rw) : Hit := ⟨r.id, distI q r.v⟩
structure Jq (q : Option (List Int)) (k : Int) (env : Nat → V) (w : Nat) (pre : List Rw) (σ : Sto) (n : Nat) : Prop where
  hn : 6 + w ≤ n
  s0 : σ 0 = some (.row 2 [.agg [slV 1 i32V q, .int .i64 k]])
  s1 : σ 1 = some (.row 1 [.bnd 60 [.agg [slV 1 i32V q, .int .i64 k]]])
  s2 : σ 2 = some (.row 1 [.nilS])
  s3 : σ 3 = some (.row 1 [.int .i64 0])
  s5 : σ 5 = some (.loop env [14, 15] asg55 bd55 .ready none)
  s4 : ∃ v, σ 4 = some (.row 1 [v]) ∧ Pl σ (6 + w) n 2 v (oH (pre.map (hitQ q)))
structure Dq (env : Nat → V) (σ : Sto) (n : Nat) : Prop where
  s2 : σ 2 = some (.row 1 [.nilS])
  s3 : σ 3 = some (.row 1 [.int .i64 151])
  s5 : σ 5 = some (.loop env [14, 15] asg55 bd55 .done (some .ret))
theorem Jq.frame {q : Option (List Int)} {k : Int} {env : Nat → V} {w : Nat} {pre : List Rw} {σ σ' : Sto} {n n' : Nat} (h : Jq q k env w pre σ n) (hn : n ≤ n') (hs : ∀ i, i < n → (i < 6 ∨ 6 + w ≤ i) → σ' i = σ i) : Jq q k env w pre σ' n' := by
  obtain ⟨h1, h2, h3, h4, h5, h6, v, h7, h8⟩ := h
  exact ⟨by omega, by rw [hs 0 (by omega) (by omega), h2], by rw [hs 1 (by omega) (by omega), h3], by rw [hs 2 (by omega) (by omega), h4], by rw [hs 3 (by omega) (by omega), h5], by rw [hs 5 (by omega) (by omega), h6],
    v, by rw [hs 4 (by omega) (by omega), h7], h8.loc (fun i h1 h2 => hs i h2 (by omega)) hn⟩
theorem hy55 (q : Option (List Int)) (k : Int) (hq : okV q = true) (env : Nat → V) (w : Nat) (he5 : env 5 = .ptr 1 1 0 0) (he6 : env 6 = .ptr 2 1 0 0) (he7 : env 7 = .ptr 3 1 0 0) (he8 : env 8 = .ptr 4 1 0 0) (pre : List Rw) (x : Rw) (hx : okV x.v = true) (hpre : pre.length < 1000000)
    (σ : Sto) (n : Nat) (hJ : Jq q k env w pre σ n) (MP : V → Sto → Nat → Prop)
    (hT : decide ((lst q).length = (lst x.v).length) = true → ∀ σ' n', (∀ i, 6 ≤ i → i < 6 + w → σ' i = σ i) → n ≤ n' → Jq q k env w (pre ++ [x]) σ' n' → MP (.bool true) σ' n')
    (hF : decide ((lst q).length = (lst x.v).length) = false → ∀ σ' n', (∀ i, 6 ≤ i → i < 6 + w → σ' i = σ i) → n ≤ n' → Dq env σ' n' → MP (.bool false) σ' n') :
    yieldW (run T) 5 [.int .u64 x.id, slV 1 i32V x.v] σ n 0 MP := by
  obtain ⟨h1, h2, h3, h4, h5, h6, v, h7, h8⟩ := hJ
  refine yieldW_gs h6 rfl (Nat.zero_le _) ?_
  have f := f60 q x.v k x.id (by have := (okV_len hq).1; omega) (by have := (okV_len hx).1; omega)
  have q0 : (5 = n) = False := by simp; omega
  have q1 : (n = 5) = False := by simp; omega
  have p2 : (2 = n) = False := by simp; omega
  have p3 : (3 = n) = False := by simp; omega
  have p4 : (4 = n) = False := by simp; omega
  have p5 : (1 = n) = False := by simp; omega
  by_cases hl : (lst q).length = (lst x.v).length
  · have hd : decide ((lst q).length = (lst x.v).length) = true := by simp [hl]
    have e1 : disE q x.v = 0 := by simp [disE, vAll, hq, hx, hl]
    have e2 : disV q x.v = distI q x.v := by unfold disE at e1; simp [disV, e1]
    rw [e1, e2] at f
    have hT := hT hd
    obtain ⟨σ1, hσ1⟩ : ∃ σ1, σ1 = upd (upd (upd σ 5 (some (.loop env [14, 15] asg55 bd55 .busy none))) n (some (.row 2 [.agg [.int .u64 0, .int .u64 0]]))) n (some (.row 2 [.agg [.int .u64 x.id, .int .u64 (distI q x.v)]])) := ⟨_, rfl⟩
    have so : ∀ i, i ≠ 5 → i < n → σ1 i = σ i := fun i g1 g2 => by
      have : i ≠ n := by omega
      rw [hσ1]; simp [upd, this, g1]
    have sn : σ1 n = some (.row 2 [.agg [.int .u64 x.id, .int .u64 (distI q x.v)]]) := by rw [hσ1]; simp [upd]
    have s5 : σ1 5 = some (.loop env [14, 15] asg55 bd55 .busy none) := by rw [hσ1]; simp [upd, q0]
    have s4 : σ1 4 = some (.row 1 [v]) := by rw [so 4 (by decide) (by omega), h7]
    have hc := h8.cells
    have ho := h8.one
    simp +contextual -implicitDefEqProofs (maxSteps := 2000000) only [↓wP, wQ, wQ1, wQ2, wQ3, wR, boxE, partsOf, ↓reduceIte, Nat.reduceEqDiff, Nat.reduceAdd, Nat.reduceSub, Nat.reduceLeDiff, Nat.reduceLT, Nat.reduceMul, reduceCtorEq, Int.reduceBNe, Int.reduceBEq, Int.reduceLT, Int.reduceLE, Int.reduceGT, bind_cons, bind_nil, w_asg55, w_bd55, he5, he6, he7, he8, h3, h6, h7, f, q0, q1, p2, p3, p4, p5, ← hσ1, s4, sn, s5, hc]
    refine stepW_app1 (m := 6 + w) (n0 := n) (σ0 := σ) (o := oH (pre.map (hitQ q))) h8 (fun i g1 g2 => ?_) (by omega) (by omega) (Nat.zero_le _) ?_ (fun _ σ2 g1 g2 => ?_)
    · have : i ≠ n + 1 := by omega
      simp [upd, this, so i (by omega) g2]
    · rw [lst_oH, hs_len, List.length_map]; unfold LIM; omega
    · rw [lst_oH, hs_len, List.length_map] at g1 ⊢
      have hv : ∀ i, i < 6 + w → ∀ off len s, v ≠ .ref i off len s := by
        intro i hi off len s e
        subst e
        cases ho' : oH (pre.map (hitQ q)) with
        | none => rw [ho'] at h8; simp only [Pl] at h8; cases h8
        | some xs => rw [ho'] at h8; obtain ⟨j, e, -, e2, -⟩ := h8; simp only [V.ref.injEq] at e; omega
      have t : ∀ i, i < n → (∀ off len s, v ≠ .ref i off len s) → σ2 i = σ1 i := fun i hi hne => by
        rw [g2 i (by omega) hne]
        have : i ≠ n + 1 := by omega
        simp [upd, this]
      have t4 := (t 4 (by omega) (hv 4 (by omega))).trans s4
      have t5 := (t 5 (by omega) (hv 5 (by omega))).trans s5
      have z4 : (4 = 5) = False := by simp
      have hsp : ∀ c, spliceC v 0 [c] = c := fun c => by
        cases ho' : oH (pre.map (hitQ q)) with
        | none => rw [ho'] at h8; simp only [Pl] at h8; subst h8; rfl
        | some xs => rw [ho'] at h8; obtain ⟨j, rfl, -⟩ := h8; rfl
      simp +contextual -implicitDefEqProofs (maxSteps := 2000000) only [↓wP, wQ, wQ1, wQ2, wQ3, wR, boxE, partsOf, ↓reduceIte, Nat.reduceEqDiff, Nat.reduceAdd, Nat.reduceSub, Nat.reduceLeDiff, Nat.reduceLT, Nat.reduceMul, reduceCtorEq, Int.reduceBNe, Int.reduceBEq, Int.reduceLT, Int.reduceLE, Int.reduceGT, he8, t4, t5, hsp]
      have tt : ∀ i, i < 6 + w → i ≠ 5 → σ2 i = σ i := fun i hi h5 => (t i (by omega) (hv i hi)).trans (so i h5 (by omega))
      have eo : oH ((pre ++ [x]).map (hitQ q)) = some (hs (pre.map (hitQ q)) ++ [.agg [.int .u64 x.id, .int .u64 (distI q x.v)]]) := by
        simp [oH, hs, hitV, hitQ]
      refine .inl (hT _ _ (fun i a1 a2 => ?_) (by omega) ⟨by omega, ?_, ?_, ?_, ?_, ?_, .ref (n + 2) 0 (pre.length + 1) 2, ?_, ?_⟩)
      · have b1 : i ≠ 4 := by omega
        have b2 : i ≠ 5 := by omega
        simp [upd, b1, b2, tt i a2 b2]
      · simp [upd, tt 0 (by omega) (by decide), h2]
      · simp [upd, tt 1 (by omega) (by decide), h3]
      · simp [upd, tt 2 (by omega) (by decide), h4]
      · simp [upd, tt 3 (by omega) (by decide), h5]
      · simp [upd]
      · simp [upd]
      · rw [eo]
        exact g1.loc (fun i a1 a2 => by
          have b1 : i ≠ 4 := by omega
          have b2 : i ≠ 5 := by omega
          simp [upd, b1, b2]) (Nat.le_refl _)
  · have hd : decide ((lst q).length = (lst x.v).length) = false := by simp [hl]
    have e1 : disE q x.v = 151 := by simp [disE, vAll, hq, hx, hl]
    have e2 : disV q x.v = 0 := by unfold disE at e1; simp [disV, e1]
    rw [e1, e2] at f
    have hF := hF hd
    simp +contextual -implicitDefEqProofs (maxSteps := 2000000) only [↓wP, wQ, wQ1, wQ2, wQ3, wR, boxE, partsOf, ↓reduceIte, Nat.reduceEqDiff, Nat.reduceAdd, Nat.reduceSub, Nat.reduceLeDiff, Nat.reduceLT, Nat.reduceMul, reduceCtorEq, Int.reduceBNe, Int.reduceBEq, Int.reduceLT, Int.reduceLE, Int.reduceGT, bind_cons, bind_nil, w_asg55, w_bd55, he5, he6, he7, he8, h3, h4, h5, h6, h7, f, q0, q1, p2, p3, p4, p5]
    refine .inr (hF _ _ (fun i a1 a2 => ?_) (by omega) ⟨?_, ?_, ?_⟩)
    · have b1 : i ≠ 5 := by omega
      have b2 : i ≠ 3 := by omega
      have b3 : i ≠ 2 := by omega
      have b4 : i ≠ n := by omega
      simp [upd, b1, b2, b3, b4]
    · simp [upd]
    · simp [upd]
    · simp [upd]
def sameD (q : Option (List Int)) (x : Rw) : Bool := decide ((lst q).length = (lst x.v).length)
def itL (q : Option (List Int)) (k : Nat) (l : List Rw) : List Hit := if l.all (sameD q) then fst' k (l.map (hitQ q)) else []
def itE (q : Option (List Int)) (l : List Rw) : Int := if l.all (sameD q) then 0 else 151
theorem hVal_giv' {σ : Sto} {n : Nat} {l : List Hit} (h : l ≠ [] → σ n = some (.row 2 (hs l))) : giv σ 11 (hVal n l) = some (ownH l) ∧ (gids σ 11 (hVal n l)).Nodup := by
  unfold hVal
  by_cases h0 : l = []
  · rw [if_pos h0, h0]; exact ⟨rfl, by simp [gids]⟩
  · have hat := h h0
    rw [if_neg h0, ownH_eq h0]
    have hg : ∀ x ∈ hs l, elemM (giv σ 10) x = some x := by
      intro x hx
      obtain ⟨y, -, rfl⟩ := List.mem_map.1 hx
      rfl
    have hg' : ∀ x ∈ hs l, ∀ c ∈ x.cells, gids σ 10 c = [] := by
      intro x hx c hc
      obtain ⟨y, -, rfl⟩ := List.mem_map.1 hx
      simp only [hitV, V.cells, List.mem_cons, List.not_mem_nil, or_false] at hc
      rcases hc with rfl | rfl <;> rfl
    constructor
    · simp only [giv, hat, hs_len, and_self, if_true]
      rw [mapM_id hg]; rfl
    · simp only [gids, hat]
      rw [List.flatMap_eq_nil_iff.2 fun x hx => List.flatMap_eq_nil_iff.2 fun c hc => hg' x hx c hc]
      simp
theorem r55 (q : Option (List Int)) (k : Nat) (F : Nat) (caps : List V) (items : List Rw) (w : Nat) (hq : okV q = true) (hk1 : 1 ≤ k) (hk2 : k ≤ 16) (hit : ∀ x ∈ items, okV x.v = true) (hlen : items.length ≤ 2000) (hI : Iter F caps items w) :
    res T 55 [.agg [slV 1 i32V q, .int .i64 (k : Int)], .fn F caps, .bnd 60 [.agg [slV 1 i32V q, .int .i64 (k : Int)]]] = some (.tup [ownH (itL q k items), .int .i64 (itE q items)]) := by
  refine run_res (run_own (fn := g55) rfl rfl (by decide) ?_)
  simp only [g55, b55, oO, oN, mV, lD, gO, pP, qQ, cI, aR]
  simp +contextual -implicitDefEqProofs (maxSteps := 2000000) only [↓wP, wQ, wQ1, wQ2, wQ3, wR, boxE, partsOf, ↓reduceIte, Nat.reduceEqDiff, Nat.reduceAdd, Nat.reduceSub, Nat.reduceLeDiff, Nat.reduceLT, Nat.reduceMul, reduceCtorEq, Int.reduceBNe, Int.reduceBEq, Int.reduceLT, Int.reduceLE, Int.reduceGT]
  generalize hE : pt (pt (pt (pt (pt (pt (envOf [V.agg [slV 1 i32V q, V.int IntKind.i64 (k : Int)], V.fn F caps, V.bnd 60 [V.agg [slV 1 i32V q, V.int IntKind.i64 (k : Int)]]]) 3 (V.ptr 0 2 0 0)) 5 (V.ptr 1 1 0 0)) 6 (V.ptr 2 1 0 0)) 7 (V.ptr 3 1 0 0)) 8 (V.ptr 4 1 0 0)) 13 (V.fn F caps) = env
  have e3 : env 3 = .ptr 0 2 0 0 := by rw [← hE]; rfl
  have e5 : env 5 = .ptr 1 1 0 0 := by rw [← hE]; rfl
  have e6 : env 6 = .ptr 2 1 0 0 := by rw [← hE]; rfl
  have e7 : env 7 = .ptr 3 1 0 0 := by rw [← hE]; rfl
  have e8 : env 8 = .ptr 4 1 0 0 := by rw [← hE]; rfl
  have e13 : env 13 = V.fn F caps := by rw [← hE]; rfl
  clear hE
  refine WC_rangeF (f := F) (caps := caps) e13 (Nat.zero_le _) ?_
  refine run_mono _ _ _ (fun o ho => ?_) (hI (fun pre σ n => Jq q (k : Int) env w pre σ n) (Dq env) (sameD q) _ ?_ ?_ ?_ ?_)
  · cases o <;> try exact ho.elim
    rename_i v σ' n'
    rcases ho with ⟨hB, hJ⟩ | ⟨hB, hD⟩
    · obtain ⟨h1, h2, h3, h4, h5, h6, v, h7, h8⟩ := hJ
      refine ⟨_, _, _, _, _, _, h6, by decide, ?_⟩
      have hL : itL q k items = fst' k (items.map (hitQ q)) := by unfold itL; rw [hB]; rfl
      have hE : itE q items = 0 := by unfold itE; rw [hB]; rfl
      rw [hL, hE]
      have hf : Hf (upd σ' 5 none) v (items.map (hitQ q)) := ⟨_, lst_optH _, by
        refine plHf (m := 6 + w) (n := n') (h8.loc (fun i a1 a2 => ?_) (Nat.le_refl _))
        have : i ≠ 5 := by omega
        simp [upd, this]⟩
      have mE : merE (k : Int) (items.map (hitQ q)) = 0 := by
        unfold merE; rw [if_neg (by omega), if_neg (by rw [List.length_map]; omega)]
      have mV : merV (k : Int) (items.map (hitQ q)) = fst' k (items.map (hitQ q)) := by unfold merV; rw [if_pos mE]; rfl
      have f := fun fs => f92 (k : Int) hf (by rw [List.length_map]; omega) fs n' 0
      rw [mE, mV] at f
      generalize fst' k (items.map (hitQ q)) = l at *
      have hcl : (hVal n' l).cells = [hVal n' l] := by unfold hVal; split <;> rfl
      have hon : (hVal n' l).one = true := by unfold hVal; split <;> rfl
      have hat : ∀ i, i < n' → hSto (upd σ' 5 none) n' l i = upd σ' 5 none i := fun i hi => hSto_at _ n' l hi
      have t2 : hSto (upd σ' 5 none) n' l 2 = some (.row 1 [.nilS]) := by rw [hat 2 (by omega)]; simp [upd, h4]
      have t3 : hSto (upd σ' 5 none) n' l 3 = some (.row 1 [.int .i64 0]) := by rw [hat 3 (by omega)]; simp [upd, h5]
      have tn : l ≠ [] → hSto (upd σ' 5 none) n' l n' = some (.row 2 (hs l)) := fun hne => by unfold hSto; rw [if_neg hne]; simp [upd]
      have z2 : (2 = n') = False := by simp; omega
      have z3 : (3 = n') = False := by simp; omega
      have hfz : ∀ (σ3 : Sto), (∀ i, i ≠ 2 → i ≠ 3 → σ3 i = hSto (upd σ' 5 none) n' l i) → giv σ3 11 (hVal n' l) = some (ownH l) ∧ (gids σ3 11 (hVal n' l)).Nodup := fun σ3 h9 => hVal_giv' (fun hne => by rw [h9 n' (by omega) (by omega)]; exact tn hne)
      have c4 : upd σ' 5 none 4 = some (.row 1 [v]) := by simp [upd, h7]
      have hc := h8.cells
      generalize hSto (upd σ' 5 none) n' l = σ2 at *
      generalize hVal n' l = hv at *
      generalize hN n' l = nn at *
      simp +contextual -implicitDefEqProofs (maxSteps := 2000000) only [↓wP, wQ, wQ1, wQ2, wQ3, wR, boxE, partsOf, ↓reduceIte, Nat.reduceEqDiff, Nat.reduceAdd, Nat.reduceSub, Nat.reduceLeDiff, Nat.reduceLT, Nat.reduceMul, reduceCtorEq, Int.reduceBNe, Int.reduceBEq, Int.reduceLT, Int.reduceLE, Int.reduceGT, Option.getD_none, e3, e6, e7, e8, h2, h7, hc, f, hcl, hon, t2, t3, z2, z3]
      exact giv_tup2 (hfz _ (fun i a b => by simp [upd, a, b])) rfl rfl
    · obtain ⟨h2, h3, h5⟩ := hD
      refine ⟨_, _, _, _, _, _, h5, by decide, ?_⟩
      have hL : itL q k items = [] := by unfold itL; rw [hB]; rfl
      have hE : itE q items = 151 := by unfold itE; rw [hB]; rfl
      rw [hL, hE]
      simp +contextual -implicitDefEqProofs (maxSteps := 2000000) only [↓wP, wQ, wQ1, wQ2, wQ3, wR, boxE, partsOf, ↓reduceIte, Nat.reduceEqDiff, Nat.reduceAdd, Nat.reduceSub, Nat.reduceLeDiff, Nat.reduceLT, Nat.reduceMul, reduceCtorEq, Int.reduceBNe, Int.reduceBEq, Int.reduceLT, Int.reduceLE, Int.reduceGT, Option.getD_some, e6, e7, h2, h3]
      exact giv_tup2 (r := .nilS) ⟨rfl, by simp [gids]⟩ rfl rfl
  · exact fun pre σ n σ' n' h h1 h2 => h.frame h1 h2
  · exact fun σ n σ' n' h h2 => ⟨by rw [h2 2 (by decide), h.s2], by rw [h2 3 (by decide), h.s3], by rw [h2 5 (by decide), h.s5]⟩
  · intro pre x σ n hJ hn hx hp
    exact hy55 q (k : Int) hq env w e5 e6 e7 e8 pre x (hit x hx) (by omega) σ n hJ _ (fun hd σ' n' a1 a2 a3 => ⟨a1, a2, .inl ⟨hd, rfl, a3⟩⟩) (fun hd σ' n' a1 a2 a3 => ⟨a1, a2, .inr ⟨hd, rfl, a3⟩⟩)
  · intro σ' n' hn hs
    exact ⟨hn, by rw [hs 0 (by decide)]; simp [upd], by rw [hs 1 (by decide)]; simp [upd], by rw [hs 2 (by decide)]; simp [upd], by rw [hs 3 (by decide)]; simp [upd], by rw [hs 5 (by decide)]; rfl, .nilS, by rw [hs 4 (by decide)]; simp [upd], rfl⟩
end Go.Q.SZ
end

section
/- Rows, gone over: what flat finds. -/
set_option linter.unusedSimpArgs false
set_option linter.unusedVariables false
namespace Go.Q.SZ
open Go.Q Go.Sort
theorem iter40 (o : Option (List Rw)) (hl : (lst o).length < 9223372036854775808) : Iter 79 [.box [slV 2 rwV o]] (lst o) 0 := by
  intro J D ok σ hfr hfD hy hJ0
  refine run_rawE (fn := g79) rfl rfl ?_
  simp only [g79, b79, oO, oN, mV, lD, gO, pP, qQ, cI, aR]
  obtain ⟨MP, hMP⟩ : ∃ MP : Sto → Nat → Prop, MP = fun σ' n' => ((lst o).all ok = true ∧ J (lst o) σ' n') ∨ ((lst o).all ok = false ∧ D σ' n') := ⟨_, rfl⟩
  simp only [← congrFun (congrFun hMP _) _]
  simp +contextual -implicitDefEqProofs (maxSteps := 2000000) only [↓wP, wQ, wQ1, wQ2, wQ3, wR, boxE, partsOf, ↓reduceIte, Nat.reduceEqDiff, Nat.reduceAdd, Nat.reduceSub, Nat.reduceLeDiff, Nat.reduceLT, Nat.reduceMul, reduceCtorEq, Int.reduceBNe, Int.reduceBEq, Int.reduceLT, Int.reduceLE, Int.reduceGT]
  refine WC_for (lst o).length 0 (fun (j : Nat) env σ n => env 0 = .yld 5 ∧ env 5 = slV 2 rwV o ∧ 6 ≤ n ∧ ((lst o).take j).all ok = true ∧ J ((lst o).take j) σ n) (by omega) (by decide) (by decide) (fun _ _ => rfl) (fun _ _ _ => rfl) ?_ ?_ _ _ _ rfl rfl ?_
  · intro j env σ n hj h1 h2 ⟨h3, h4, h5, h6, h7⟩
    simp only [vl_tmp] at h2
    have hx : (lst o)[j]? = some (lst o)[j] := List.getElem?_eq_getElem hj
    have hm : (lst o)[j] ∈ lst o := List.getElem_mem hj
    have ht : (lst o).take (j + 1) = (lst o).take j ++ [(lst o)[j]] := (List.take_append_getElem hj).symm
    generalize (lst o)[j] = x at *
    have hJ1 := hfr _ _ _ (upd (upd σ n (some (.row 2 [.agg [.int .u64 0, .nilS]]))) n (some (.row 2 [.agg [.int .u64 x.id, slV 1 i32V x.v]]))) (n + 1) h7 (by omega) (fun i hi _ => by
      have : i ≠ n := by omega
      simp [upd, this])
    simp +contextual -implicitDefEqProofs (maxSteps := 2000000) only [↓wP, wQ, wQ1, wQ2, wQ3, wR, boxE, partsOf, ↓reduceIte, Nat.reduceEqDiff, Nat.reduceAdd, Nat.reduceSub, Nat.reduceLeDiff, Nat.reduceLT, Nat.reduceMul, reduceCtorEq, Int.reduceBNe, Int.reduceBEq, Int.reduceLT, Int.reduceLE, Int.reduceGT, h1, h2, h3, h4, hx, rwV_eq]
    refine stepW_yld (yieldW_mono (fun _ _ x => x) run_mono (fun y σ' n' ⟨a1, a2, a3⟩ => ?_) (hy _ x _ _ hJ1 (by omega) hm (by rw [List.length_take]; omega)))
    rcases a3 with ⟨b1, rfl, b3⟩ | ⟨b1, rfl, b3⟩
    · have hall : ((lst o).take (j + 1)).all ok = true := by rw [ht, List.all_append, h6]; simp [b1]
      rw [← ht] at b3
      simp +contextual -implicitDefEqProofs (maxSteps := 2000000) only [↓wP, wQ, wQ1, wQ2, wQ3, wR, boxE, partsOf, ↓reduceIte, Nat.reduceEqDiff, Nat.reduceAdd, Nat.reduceSub, Nat.reduceLeDiff, Nat.reduceLT, Nat.reduceMul, reduceCtorEq, Int.reduceBNe, Int.reduceBEq, Int.reduceLT, Int.reduceLE, Int.reduceGT, h1, h2, h3, h4]
      exact ⟨by omega, hall, b3⟩
    · have hall : (lst o).all ok = false := by
        rw [List.all_eq_false]
        exact ⟨x, hm, by simp [b1]⟩
      have hmp : MP σ' n' := by rw [hMP]; exact .inr ⟨hall, b3⟩
      simp +contextual -implicitDefEqProofs (maxSteps := 2000000) only [↓wP, wQ, wQ1, wQ2, wQ3, wR, boxE, partsOf, ↓reduceIte, Nat.reduceEqDiff, Nat.reduceAdd, Nat.reduceSub, Nat.reduceLeDiff, Nat.reduceLT, Nat.reduceMul, reduceCtorEq, Int.reduceBNe, Int.reduceBEq, Int.reduceLT, Int.reduceLE, Int.reduceGT, h1, h2, h3, h4]
      exact hmp
  · intro env σ n ⟨h3, h4, h5, h6, h7⟩ h1 h2
    rw [List.take_length] at h6 h7
    have hmp : MP σ n := by rw [hMP]; exact .inl ⟨h6, h7⟩
    simp +contextual -implicitDefEqProofs (maxSteps := 2000000) only [↓wP, wQ, wQ1, wQ2, wQ3, wR, boxE, partsOf, ↓reduceIte, Nat.reduceEqDiff, Nat.reduceAdd, Nat.reduceSub, Nat.reduceLeDiff, Nat.reduceLT, Nat.reduceMul, reduceCtorEq, Int.reduceBNe, Int.reduceBEq, Int.reduceLT, Int.reduceLE, Int.reduceGT]
    exact hmp
  · simp +contextual -implicitDefEqProofs (maxSteps := 2000000) only [↓wP, wQ, wQ1, wQ2, wQ3, wR, boxE, partsOf, ↓reduceIte, Nat.reduceEqDiff, Nat.reduceAdd, Nat.reduceSub, Nat.reduceLeDiff, Nat.reduceLT, Nat.reduceMul, reduceCtorEq, Int.reduceBNe, Int.reduceBEq, Int.reduceLT, Int.reduceLE, Int.reduceGT]
    simpa using hJ0 σ 6 (by omega) (fun _ _ => rfl)
theorem callE_sh {f : Nat} {args ts : List V} {r : V} {σ : Sto} (hm : T.mode f ≠ .raw) (hts : args.mapM (frz σ 12) = some ts) (hr : res T f ts = some r) (ht : ∀ σ n, thaw σ n r = (r, σ, n)) (n : Nat) :
    ∃ σ', callE T true f args σ n 0 = some (r, σ', n) := by
  rw [callE_eq hm, hts, callR_some, hr, retE_some]
  unfold backE
  split
  · exact ⟨σ, by rw [ht]⟩
  · refine ⟨dropL σ (args.flatMap (rch σ 12)), ?_⟩
    rw [if_pos (by simp), ht]
def rowsE (q : Option (List Int)) (k : Int) (l : List Rw) : Int := if qE q k ≠ 0 then qE q k else if l.all okR = false then 170 else itE q l
def rowsL (q : Option (List Int)) (k : Int) (l : List Rw) : List Hit := if qE q k ≠ 0 then [] else if l.all okR = false then [] else itL q k.toNat l
theorem r44 (o : Option (List Rw)) (q : Option (List Int)) (k : Int) (hl : (lst o).length ≤ 300) (hv : ∀ r ∈ lst o, (lst r.v).length < 9223372036854775808) (hq : (lst q).length < 9223372036854775808) : res T 44 [slV 2 rwV o, .agg [slV 1 i32V q, .int .i64 k]] = some (.tup [ownH (rowsL q k (lst o)), .int .i64 (rowsE q k (lst o))]) := by
  refine run_res (run_own (fn := g44) rfl rfl (by decide) ?_)
  simp only [g44, b44, oO, oN, mV, lD, gO, pP, qQ, cI, aR]
  have f1 := f35 q k hq
  by_cases he : qE q k = 0
  · obtain ⟨oq, hk1, hk2⟩ := qE_ok he
    rw [he] at f1
    simp +contextual -implicitDefEqProofs (maxSteps := 2000000) only [↓wP, wQ, wQ1, wQ2, wQ3, wR, boxE, partsOf, ↓reduceIte, Nat.reduceEqDiff, Nat.reduceAdd, Nat.reduceSub, Nat.reduceLeDiff, Nat.reduceLT, Nat.reduceMul, reduceCtorEq, Int.reduceBNe, Int.reduceBEq, Int.reduceLT, Int.reduceLE, Int.reduceGT, f1]
    refine WC_for (lst o).length 0 (fun (j : Nat) env σ n => env 2 = .ptr 0 1 0 0 ∧ env 3 = .ptr 1 2 0 0 ∧ env 16 = slV 2 rwV o ∧ 2 ≤ n ∧ σ 0 = some (.row 1 [slV 2 rwV o]) ∧ σ 1 = some (.row 2 [.agg [slV 1 i32V q, .int .i64 k]]) ∧ ((lst o).take j).all okR = true) (by omega) (by decide) (by decide) (fun _ _ => rfl) (fun _ _ _ => rfl) ?_ ?_ _ _ _ rfl rfl ?_
    · intro j env σ n hj h1 h2 ⟨h3, h4, h5, h6, h7, h8, h9⟩
      simp only [vl_tmp] at h2
      have hx : (lst o)[j]? = some (lst o)[j] := List.getElem?_eq_getElem hj
      have hm : (lst o)[j] ∈ lst o := List.getElem_mem hj
      have ht : (lst o).take (j + 1) = (lst o).take j ++ [(lst o)[j]] := (List.take_append_getElem hj).symm
      generalize (lst o)[j] = x at *
      have f40' := f40 x.id x.v (hv x hm)
      have q0 : (0 = n) = False := by simp; omega
      have q1 : (1 = n) = False := by simp; omega
      cases hb : okV x.v
      · rw [hb] at f40'
        have hall : (lst o).all okR = false := by
          rw [List.all_eq_false]
          exact ⟨x, hm, by simp [okR, hb]⟩
        have e1 : rowsE q k (lst o) = 170 := by simp [rowsE, he, hall]
        have e2 : rowsL q k (lst o) = [] := by simp [rowsL, he, hall]
        rw [e1, e2]
        simp +contextual -implicitDefEqProofs (maxSteps := 2000000) only [↓wP, wQ, wQ1, wQ2, wQ3, wR, boxE, partsOf, ↓reduceIte, Nat.reduceEqDiff, Nat.reduceAdd, Nat.reduceSub, Nat.reduceLeDiff, Nat.reduceLT, Nat.reduceMul, reduceCtorEq, Int.reduceBNe, Int.reduceBEq, Int.reduceLT, Int.reduceLE, Int.reduceGT, h1, h2, h3, h4, h5, hx, rwV_eq, f40', q0, q1]
        exact giv_tup2 (r := .nilS) ⟨rfl, by simp [gids]⟩ rfl rfl
      · rw [hb] at f40'
        have hall : ((lst o).take (j + 1)).all okR = true := by rw [ht, List.all_append, h9]; simp [okR, hb]
        simp +contextual -implicitDefEqProofs (maxSteps := 2000000) only [↓wP, wQ, wQ1, wQ2, wQ3, wR, boxE, partsOf, ↓reduceIte, Nat.reduceEqDiff, Nat.reduceAdd, Nat.reduceSub, Nat.reduceLeDiff, Nat.reduceLT, Nat.reduceMul, reduceCtorEq, Int.reduceBNe, Int.reduceBEq, Int.reduceLT, Int.reduceLE, Int.reduceGT, h1, h2, h3, h4, h5, h7, h8, hx, rwV_eq, f40', q0, q1]
        exact ⟨by omega, hall⟩
    · intro env σ n ⟨h3, h4, h5, h6, h7, h8, h9⟩ h1 h2
      rw [List.take_length] at h9
      obtain ⟨kn, rfl⟩ : ∃ kn : Nat, k = (kn : Int) := ⟨k.toNat, by omega⟩
      have e1 : rowsE q (kn : Int) (lst o) = itE q (lst o) := by simp [rowsE, he, h9]
      have e2 : rowsL q (kn : Int) (lst o) = itL q kn (lst o) := by simp [rowsL, he, h9]
      rw [e1, e2]
      have r := r55 q kn 79 [.box [slV 2 rwV o]] (lst o) 0 oq (by omega) (by omega) (fun x hx => List.all_eq_true.1 h9 x hx) (by omega) (iter40 o (by omega))
      have hlen : ¬ (2000 : Int) < ((lst o).length : Int) := by omega
      have q0 : (0 = n) = False := by simp; omega
      have q1 : (1 = n) = False := by simp; omega
      obtain ⟨σ1, hσ1⟩ : ∃ σ1, σ1 = upd (upd σ n (some (.row 2 [.agg [.nilS, .int .i64 0]]))) n (some (.row 2 [.agg [slV 1 i32V q, .int .i64 (kn : Int)]])) := ⟨_, rfl⟩
      have s0 : σ1 0 = some (.row 1 [slV 2 rwV o]) := by rw [hσ1]; simp [upd, q0, h7]
      have sn : σ1 n = some (.row 2 [.agg [slV 1 i32V q, .int .i64 (kn : Int)]]) := by rw [hσ1]; simp [upd]
      have e : [V.agg [slV 1 i32V q, .int .i64 (kn : Int)], V.fn 79 [.ptr 0 1 0 0], V.bnd 60 [.agg [slV 1 i32V q, .int .i64 (kn : Int)]]].mapM (frz σ1 12) =
          some [V.agg [slV 1 i32V q, .int .i64 (kn : Int)], V.fn 79 [.box [slV 2 rwV o]], V.bnd 60 [.agg [slV 1 i32V q, .int .i64 (kn : Int)]]] := by
        have x1 : frz σ1 12 (.agg [slV 1 i32V q, .int .i64 (kn : Int)]) = some (.agg [slV 1 i32V q, .int .i64 (kn : Int)]) := (frz_tr σ1 12 _ (by simp [Tr, Tr_slV])).1
        have x2 : frz σ1 12 (.bnd 60 [.agg [slV 1 i32V q, .int .i64 (kn : Int)]]) = some (.bnd 60 [.agg [slV 1 i32V q, .int .i64 (kn : Int)]]) := (frz_tr σ1 12 _ (by simp [Tr, Tr_slV])).1
        have x3 : frz σ1 12 (.fn 79 [.ptr 0 1 0 0]) = some (.fn 79 [.box [slV 2 rwV o]]) := by
          simp only [frz, rowAt, s0, List.mapM_cons, List.mapM_nil, if_true, List.getElem?_cons_zero, Option.bind_some, cl_slV, List.drop_zero, frz_slV]
          rfl
        simp only [List.mapM_cons, List.mapM_nil, x1, x2, x3]
        rfl
      have f55 := callE_flat (by decide) e r (flat_tup2 (flat_ownH _) rfl) true (n + 1) 0
      rw [thaw_hTup] at f55
      have hg := hVal_giv11 σ1 (n + 1) (itL q kn (lst o))
      simp +contextual -implicitDefEqProofs (maxSteps := 2000000) only [↓wP, wQ, wQ1, wQ2, wQ3, wR, boxE, partsOf, ↓reduceIte, Nat.reduceEqDiff, Nat.reduceAdd, Nat.reduceSub, Nat.reduceLeDiff, Nat.reduceLT, Nat.reduceMul, reduceCtorEq, Int.reduceBNe, Int.reduceBEq, Int.reduceLT, Int.reduceLE, Int.reduceGT, h1, h2, h3, h4, h5, h7, h8, hlen, q0, q1, ← hσ1, sn, f55]
      exact giv_tup2 hg rfl rfl
    · simp +contextual -implicitDefEqProofs (maxSteps := 2000000) only [↓wP, wQ, wQ1, wQ2, wQ3, wR, boxE, partsOf, ↓reduceIte, Nat.reduceEqDiff, Nat.reduceAdd, Nat.reduceSub, Nat.reduceLeDiff, Nat.reduceLT, Nat.reduceMul, reduceCtorEq, Int.reduceBNe, Int.reduceBEq, Int.reduceLT, Int.reduceLE, Int.reduceGT]
  · have hd : (qE q k != 0) = true := by simpa using he
    have e1 : rowsE q k (lst o) = qE q k := by simp [rowsE, he]
    have e2 : rowsL q k (lst o) = [] := by simp [rowsL, he]
    rw [e1, e2]
    simp +contextual -implicitDefEqProofs (maxSteps := 2000000) only [↓wP, wQ, wQ1, wQ2, wQ3, wR, boxE, partsOf, ↓reduceIte, Nat.reduceEqDiff, Nat.reduceAdd, Nat.reduceSub, Nat.reduceLeDiff, Nat.reduceLT, Nat.reduceMul, reduceCtorEq, Int.reduceBNe, Int.reduceBEq, Int.reduceLT, Int.reduceLE, Int.reduceGT, f1, hd]
    exact giv_tup2 (r := .nilS) ⟨rfl, by simp [gids]⟩ rfl rfl
end Go.Q.SZ
end

section
/- Rows and probes that can be gone through. -/
set_option linter.unusedSimpArgs false
set_option linter.unusedVariables false
namespace Go.Q.SZ
open Go.Q Go.Sort
theorem mg1 (σ : Sto) (n : Nat) (o : Option Ob) : merge σ (upd σ n o) n = upd σ n o := by
  funext i
  have := big_le
  unfold merge upd
  by_cases h : i = n
  · subst h; rw [if_pos ⟨Nat.le_refl _, by omega⟩]
  · simp [h]
def cutR (r : Rw) : Rw := ⟨r.id, cut r.v⟩
def cutL (l : Option (List Rw)) : Option (List Rw) := oL (((lst l).take 60).map cutR)
theorem r14 (l : Option (List Rw)) (hl : (lst l).length < 4611686018427387904) (hv : ∀ r ∈ lst l, Sm r.v) : res T 14 [slV 2 rwV l] = some (slV 2 rwV (cutL l)) := by
  refine run_res (run_pure (fn := g14) rfl rfl (by decide) ?_)
  simp only [g14, b14, oO, oN, mV, lD, gO, pP, qQ, cI, aR]
  simp +contextual -implicitDefEqProofs (maxSteps := 2000000) only [↓wP, wQ, wQ1, wQ2, wQ3, wR, boxE, partsOf, ↓reduceIte, Nat.reduceEqDiff, Nat.reduceAdd, Nat.reduceSub, Nat.reduceLeDiff, Nat.reduceLT, Nat.reduceMul, reduceCtorEq, Int.reduceBNe, Int.reduceBEq, Int.reduceLT, Int.reduceLE, Int.reduceGT]
  refine WC_for (lst l).length 0 (fun (j : Nat) env σ n => env 6 = slV 2 rwV l ∧ ∃ v, env 3 = v ∧ Pl σ 0 n 2 v (oL ((((lst l).take (min j 60)).map cutR).map rwV))) (by omega) (by decide) (by decide) (fun _ _ => rfl) (fun _ _ _ => rfl) ?_ ?_ _ _ _ rfl rfl ?_
  · intro j env σ n hj h1 h2 ⟨h3, v, h4, h5⟩
    simp only [vl_tmp] at h2
    have hx : (lst l)[j]? = some (lst l)[j] := List.getElem?_eq_getElem hj
    have f := f19 _ (hv _ (List.getElem_mem hj))
    have ht : (lst l).take (j + 1) = (lst l).take j ++ [(lst l)[j]] := (List.take_append_getElem hj).symm
    generalize (lst l)[j] = x at *
    have hc := h5.cells
    have ho := h5.one
    have hsp := spl h5
    obtain ⟨σ1, hσ1⟩ : ∃ σ1, σ1 = upd (upd σ n (some (.row 2 [.agg [.int .u64 0, .nilS]]))) n (some (.row 2 [.agg [.int .u64 x.id, slV 1 i32V x.v]])) := ⟨_, rfl⟩
    have so : ∀ i, i < n → σ1 i = σ i := fun i hi => by rw [hσ1, upd_ne (by omega), upd_ne (by omega)]
    have sn : σ1 n = some (.row 2 [.agg [.int .u64 x.id, slV 1 i32V x.v]]) := by rw [hσ1, upd_self]
    by_cases h6 : (j : Int) < 60
    · rw [show min j 60 = j by omega] at h5
      have hlen : ((((lst l).take j).map cutR).map rwV).length = j := by rw [List.length_map, List.length_map, List.length_take]; omega
      have y0 : ∀ hid, hide σ1 (n + 1) (n + 1) hid n = σ1 n := fun hid => hide_low _ _ _ _ (by omega) (Nat.le_refl _)
      have hB := big_le
      have u1 : (n + 2 ≤ n + (1 + BIG)) = True := by simp; omega
      have hB1 : ∃ m, m = n + (1 + BIG) ∧ n + 2 ≤ m := ⟨_, rfl, by omega⟩
      obtain ⟨m, hm, hmn⟩ := hB1
      have hmn2 : (n + 2 ≤ m) = True := by simp; exact hmn
      have ce : ∀ (x : V) (i : Nat), elemsO (upd σ1 i (some (Ob.row 2 [x])) i) 2 0 1 = some [x] := fun x i => by rw [upd_self]; rfl
      simp +contextual -implicitDefEqProofs (maxSteps := 2000000) only [↓wP, wQ, wQ1, wQ2, wQ3, wR, boxE, partsOf, ↓reduceIte, Nat.reduceEqDiff, Nat.reduceAdd, Nat.reduceSub, Nat.reduceLeDiff, Nat.reduceLT, Nat.reduceMul, reduceCtorEq, Int.reduceBNe, Int.reduceBEq, Int.reduceLT, Int.reduceLE, Int.reduceGT, h1, h2, h3, h4, hx, rwV_eq, h6, f, ← hσ1, sn, y0, u1, mg1, Nat.mul_one, ce, ← hm, hmn2]
      refine stepW_app1 (m := 0) (n0 := n) (σ0 := σ) h5 (fun i g1 g2 => ?_) (by omega) (by omega) (Nat.zero_le _) ?_ (fun _ σ2 g1 g2 => ?_)
      · rw [upd_ne (by omega), so i g2]
      · rw [lst_oL, hlen]; unfold LIM; omega
      · rw [lst_oL, hlen] at g1 ⊢
        simp +contextual -implicitDefEqProofs (maxSteps := 2000000) only [↓wP, wQ, wQ1, wQ2, wQ3, wR, boxE, partsOf, ↓reduceIte, Nat.reduceEqDiff, Nat.reduceAdd, Nat.reduceSub, Nat.reduceLeDiff, Nat.reduceLT, Nat.reduceMul, reduceCtorEq, Int.reduceBNe, Int.reduceBEq, Int.reduceLT, Int.reduceLE, Int.reduceGT, h1, h2, h3, hc, hsp]
        refine ⟨_, rfl, ?_⟩
        rw [show min (j + 1) 60 = j + 1 by omega, ht, List.map_append, List.map_append]
        have e2 : oL ((((lst l).take j).map cutR).map rwV ++ [rwV (cutR x)]) = some ((((lst l).take j).map cutR).map rwV ++ [rwV (cutR x)]) := by
          cases ((lst l).take j) <;> rfl
        simp only [List.map_cons, List.map_nil]
        rw [e2]
        exact g1
    · simp +contextual -implicitDefEqProofs (maxSteps := 2000000) only [↓wP, wQ, wQ1, wQ2, wQ3, wR, boxE, partsOf, ↓reduceIte, Nat.reduceEqDiff, Nat.reduceAdd, Nat.reduceSub, Nat.reduceLeDiff, Nat.reduceLT, Nat.reduceMul, reduceCtorEq, Int.reduceBNe, Int.reduceBEq, Int.reduceLT, Int.reduceLE, Int.reduceGT, h1, h2, h3, h4, hx, rwV_eq, h6, ← hσ1]
      rw [show min (j + 1) 60 = min j 60 by omega]
      exact ⟨_, rfl, h5.loc (fun i a b => so i b) (by omega)⟩
  · intro env σ n ⟨h3, v, h4, h5⟩ h1 h2
    simp +contextual -implicitDefEqProofs (maxSteps := 2000000) only [↓wP, wQ, wQ1, wQ2, wQ3, wR, boxE, partsOf, ↓reduceIte, Nat.reduceEqDiff, Nat.reduceAdd, Nat.reduceSub, Nat.reduceLeDiff, Nat.reduceLT, Nat.reduceMul, reduceCtorEq, Int.reduceBNe, Int.reduceBEq, Int.reduceLT, Int.reduceLE, Int.reduceGT, h4]
    have hf := h5.frz (fun x hx => by rw [lst_oL] at hx; obtain ⟨y, -, rfl⟩ := List.mem_map.1 hx; simp [rwV_eq, Tr, Tr_slV]) (fun x hx c hc => by
        rw [lst_oL] at hx; obtain ⟨y, -, rfl⟩ := List.mem_map.1 hx
        simp only [rwV_eq, V.cells, List.mem_cons, List.not_mem_nil, or_false] at hc
        rcases hc with rfl | rfl
        · rfl
        · exact Tr_slV _ _ _ _)
    rw [hf, slV_oL]
    have : (lst l).take (min (lst l).length 60) = (lst l).take 60 := by rw [Nat.min_comm]; exact List.take_eq_take_min.symm
    rw [this]; rfl
  · simp +contextual -implicitDefEqProofs (maxSteps := 2000000) only [↓wP, wQ, wQ1, wQ2, wQ3, wR, boxE, partsOf, ↓reduceIte, Nat.reduceEqDiff, Nat.reduceAdd, Nat.reduceSub, Nat.reduceLeDiff, Nat.reduceLT, Nat.reduceMul, reduceCtorEq, Int.reduceBNe, Int.reduceBEq, Int.reduceLT, Int.reduceLE, Int.reduceGT]
    simp [oL, Pl]
theorem r8 (q : Vc) (k ts m : Int) (hq : Sm q) : res T 8 [.agg [slV 1 i32V q, .int .i64 k, .int .u64 ts, .int .i64 m]] = some (.agg [slV 1 i32V (cut q), .int .i64 k, .int .u64 ts, .int .i64 m]) := by
  refine run_res (run_pure (fn := g8) rfl rfl (by decide) ?_)
  simp only [g8, b8, oO, oN, mV, lD, gO, pP, qQ, cI, aR]
  have f := f19 q hq
  simp +contextual -implicitDefEqProofs (maxSteps := 2000000) only [↓wP, wQ, wQ1, wQ2, wQ3, wR, boxE, partsOf, ↓reduceIte, Nat.reduceEqDiff, Nat.reduceAdd, Nat.reduceSub, Nat.reduceLeDiff, Nat.reduceLT, Nat.reduceMul, reduceCtorEq, Int.reduceBNe, Int.reduceBEq, Int.reduceLT, Int.reduceLE, Int.reduceGT, f]
theorem f8 (q : Vc) (k ts m : Int) (hq : Sm q) (fs : Bool) (σ : Sto) (n lk : Nat) : callE T fs 8 [.agg [slV 1 i32V q, .int .i64 k, .int .u64 ts, .int .i64 m]] σ n lk = some (.agg [slV 1 i32V (cut q), .int .i64 k, .int .u64 ts, .int .i64 m], σ, n) :=
  callE_tr (by decide) (r8 q k ts m hq) (by simp [Tr, Tr_slV]) (by simp [Nw, Nw_slV]) fs σ n lk
theorem f14 (l : Option (List Rw)) (hl : (lst l).length < 4611686018427387904) (hv : ∀ r ∈ lst l, Sm r.v) (fs : Bool) (σ : Sto) (n lk : Nat) : callE T fs 14 [slV 2 rwV l] σ n lk = some (slV 2 rwV (cutL l), σ, n) :=
  callE_tr (by decide) (r14 l hl hv) (by simp [Tr, Tr_slV]) (Nw_slV _ _ _ _) fs σ n lk
theorem cutL_len (l : Option (List Rw)) : (lst (cutL l)).length ≤ 60 := by unfold cutL; rw [lst_oL, List.length_map, List.length_take]; omega
theorem cutL_sm (l : Option (List Rw)) : ∀ r ∈ lst (cutL l), Sm r.v := by
  intro v hv
  unfold cutL at hv
  rw [lst_oL] at hv
  obtain ⟨x, -, rfl⟩ := List.mem_map.1 hv
  exact cut_sm x.v
end Go.Q.SZ
end

section
/- What is found among rows, of the nearest lists. -/
set_option linter.unusedSimpArgs false
set_option linter.unusedVariables false
namespace Go.Q.SZ
open Go.Q Go.Sort
def bV (b : Bool) : V := .bool b
theorem keyInt : KeyOk (.one .int) iV := by
  intro a b
  rfl
def selN (q : Vc) (c : List Vc) (m : Int) (l : List Rw) : List Rw := l.filter fun r => decide (((nb r.v c c.length : Nat) : Int) ∈ near q c m)
def pE (o : List Rw) (c : Option (List Vc)) (q : Vc) (k m : Int) : Int :=
  if chkE q k m ≠ 0 then chkE q k m else if trE c ≠ 0 then trE c else if o.any (fun r => !okV r.v) then 170 else if dm c ≠ (lst q).length ∨ o.any (fun r => ((lst r.v).length : Int) != ((lst q).length : Int)) = true then 151 else 0
def pL (o : List Rw) (c : Option (List Vc)) (q : Vc) (k m : Int) : List Hit := if pE o c q k m = 0 then fst' k.toNat ((selN q (lst c) m o).map (hitQ q)) else []
theorem selN_len (q : Vc) (c : List Vc) (m : Int) (l : List Rw) : (selN q c m l).length ≤ l.length := List.length_filter_le _ _
theorem selN_snoc (q : Vc) (c : List Vc) (m : Int) (l : List Rw) (r : Rw) : selN q c m (l ++ [r]) = selN q c m l ++ if ((nb r.v c c.length : Nat) : Int) ∈ near q c m then [r] else [] := by
  unfold selN
  rw [List.filter_append]
  congr 1
  simp only [List.filter_cons, List.filter_nil, decide_eq_true_eq]
theorem chk0 {q : Vc} {k m : Int} (h : chkE q k m = 0) : qE q k = 0 ∧ okV q = true ∧ 1 ≤ k ∧ k ≤ 16 ∧ 1 ≤ m := by
  unfold chkE at h
  by_cases h1 : k < 1
  · rw [if_pos h1] at h; cases h
  · by_cases h2 : 16 < k
    · rw [if_neg h1, if_pos h2] at h; cases h
    · rw [if_neg h1, if_neg h2] at h
      by_cases h3 : askE m = 0
      · rw [if_neg (by omega)] at h
        have hm : 1 ≤ m := by unfold askE at h3; split at h3; cases h3; omega
        cases ho : okV q
        · rw [ho] at h; cases h
        · refine ⟨?_, rfl, by omega, by omega, hm⟩
          unfold qE
          rw [if_neg h1, if_neg h2, ho]; rfl
      · rw [if_pos h3] at h; exact absurd h h3
def ask15 : AC := (.reg [⟨(some 12), none, .mov (.tmp 50)⟩])
def bd16 : AC := (.block 1 (.reg [⟨(some 51), none, .load false 1 (.tmp 11)⟩,
       ⟨(some 52), none, .mov (.tmp 12)⟩,
       ⟨none, none, .mupd (.one .int) (.tmp 51) (.tmp 52) (.con (.bool true))⟩]))
theorem w_ask15 (env : Nat → V) (σ : Sto) (n lk : Nat) (Q : Ex → St → Prop) : WC T ask15 env σ n lk Q = WC T (.reg [⟨(some 12), none, .mov (.tmp 50)⟩]) env σ n lk Q := rfl
theorem w_bd16 (env : Nat → V) (σ : Sto) (n lk : Nat) (Q : Ex → St → Prop) : WC T bd16 env σ n lk Q = WC T (.block 1 (.reg [⟨(some 51), none, .load false 1 (.tmp 11)⟩,
       ⟨(some 52), none, .mov (.tmp 12)⟩,
       ⟨none, none, .mupd (.one .int) (.tmp 51) (.tmp 52) (.con (.bool true))⟩])) env σ n lk Q := rfl
structure J15 (env : Nat → V) (X : Ob) (ids : List Int) (j : Nat) (σ : Sto) (n : Nat) : Prop where
  hn : 5 ≤ n
  s4 : σ 4 = some (.loop env [50] ask15 bd16 .ready none)
  s0 : σ 0 = some X
  s3 : σ 3 = some (.row 1 [.mp 2])
  s2 : ∃ Lm clk, MOk Lm clk ∧ σ 2 = some (.map (ens iV bV Lm) clk) ∧ ∀ x, (vw Lm x).getD false = decide (x ∈ ids.take j)
theorem J15.frame {env : Nat → V} {X : Ob} {ids : List Int} {j : Nat} {σ σ' : Sto} {n n' : Nat} (h : J15 env X ids j σ n) (hn : n ≤ n') (hs : ∀ i, i < n → σ' i = σ i) : J15 env X ids j σ' n' := by
  obtain ⟨h1, h2, h0, h3, Lm, clk, h4, h5, h6⟩ := h
  exact ⟨by omega, by rw [hs 4 (by omega), h2], by rw [hs 0 (by omega), h0], by rw [hs 3 (by omega), h3], Lm, clk, h4, by rw [hs 2 (by omega), h5], h6⟩
theorem hy16 (env : Nat → V) (X : Ob) (ids : List Int) (he : env 11 = .ptr 3 1 0 0) (j : Nat) (hj : j < ids.length) (x : Int) (hx : ids[j] = x) (σ : Sto) (n : Nat) (hJ : J15 env X ids j σ n) (hn : 4 < n) :
    yieldW (run T) 4 [.int .i64 x] σ n 0 (fun y σ' n' => n ≤ n' ∧ y = .bool true ∧ J15 env X ids (j + 1) σ' n') := by
  obtain ⟨h1, h2, h0, h3, Lm, clk, h4, h5, h6⟩ := hJ
  refine yieldW_gs h2 rfl (Nat.zero_le _) ?_
  have hS : upd σ 4 (some (.loop env [50] ask15 bd16 .busy none)) 2 = some (.map (ens iV bV Lm) clk) := by simp [upd, h5]
  have p := mupd_ens (ke := iV) (ve := bV) (lk := 0) keyInt h4 hS (Nat.zero_le _) x true n
  simp only [iV, bV] at p
  simp +contextual -implicitDefEqProofs (maxSteps := 2000000) only [↓wP, wQ, wQ1, wQ2, wQ3, wR, boxE, partsOf, ↓reduceIte, Nat.reduceEqDiff, Nat.reduceAdd, Nat.reduceSub, Nat.reduceLeDiff, Nat.reduceLT, Nat.reduceMul, reduceCtorEq, Int.reduceBNe, Int.reduceBEq, Int.reduceLT, Int.reduceLE, Int.reduceGT, bind_cons, bind_nil, w_ask15, w_bd16, he, h2, h3, p]
  refine .inl ⟨by omega, by simp [upd], by simp [upd, h0], by simp [upd, h3], (mput Lm clk x true).1, (mput Lm clk x true).2, mput_ok h4 _ _, by simp [upd], fun y => ?_⟩
  rw [vw_mput, show ids.take (j + 1) = ids.take j ++ [ids[j]] from (List.take_append_getElem hj).symm, hx]
  by_cases e : y = x
  · subst e; simp
  · rw [if_neg e, h6 y]; simp [e]
theorem r16 (o : Option (List Rw)) (c : Option (List Vc)) (q : Vc) (k ts m : Int) (hl : (lst o).length ≤ 300) (hv : ∀ r ∈ lst o, Sm r.v) (hcl : (lst c).length ≤ 7) (hcv : ∀ v ∈ lst c, Sm v) (hq : Sm q) : res T 16 [slV 2 rwV o, slV 1 vecV c, .agg [slV 1 i32V q, .int .i64 k, .int .u64 ts, .int .i64 m]] = some (.tup [ownH (pL (lst o) c q k m), .int .i64 (pE (lst o) c q k m)]) := by
  refine run_res (run_own (fn := g16) rfl rfl (by decide) ?_)
  simp only [g16, b16, oO, oN, mV, lD, gO, pP, qQ, cI, aR]
  have f1 := f12 q k ts m hq
  have f2 := f37 c hcl hcv
  have f3 := callE_tr (by decide) (r30g o 39 [] (fun r => !okV r.v) (by omega) rfl (fun x hx fs σ n lk => f39 x.id x.v (hv x hx) fs σ n lk)) (by simp [Tr, Tr_slV]) rfl
  by_cases hc : chkE q k m = 0
  · obtain ⟨hqe, oq, hk1, hk2, hm1⟩ := chk0 hc
    rw [hc] at f1
    by_cases ht : trE c = 0
    · rw [ht] at f2
      have hne : lst c ≠ [] := by intro h; unfold trE at ht; rw [if_pos h] at ht; cases ht
      have hce : cents c = true := by
        unfold trE at ht; rw [if_neg hne] at ht
        cases h : cents c
        · rw [h] at ht; cases ht
        · rfl
      cases hr : (lst o).any (fun r => !okV r.v)
      · rw [hr] at f3
        obtain ⟨v0, hv0, hd⟩ := dm_get hne
        have f4 := fun (σ : Sto) (h0 : σ 1 = some (.row 1 [.int .i64 ((lst q).length : Int)])) (n lk : Nat) => callE_flat (σ := σ) (fs := true) (n := n) (lk := lk) (by decide) (show [slV 2 rwV o, V.fn 41 [.ptr 1 1 0 0]].mapM (frz σ 12) = some [slV 2 rwV o, .fn 41 [.box [.int .i64 ((lst q).length : Int)]]] by
            have hx : frz σ 12 (.fn 41 [.ptr 1 1 0 0]) = some (.fn 41 [.box [.int .i64 ((lst q).length : Int)]]) := by
              simp only [frz, rowAt, h0, List.mapM_cons, List.mapM_nil, if_true, List.getElem?_cons_zero, Option.bind_some, V.cells, List.drop_zero]
              rfl
            simp only [List.mapM_cons, List.mapM_nil, frz_slV, hx]; rfl) (r30g o 41 [.box [.int .i64 ((lst q).length : Int)]] (fun r => ((lst r.v).length : Int) != ((lst q).length : Int)) (by omega) (by simp [Tr]) (fun x hx fs σ n lk => f41 x.id x.v _ fs σ n lk)) rfl
        by_cases hx : dm c = (lst q).length
        · have hx' : (((lst v0).length : Int) != ((lst q).length : Int)) = false := by rw [← hd, hx]; simp
          cases hsd : (lst o).any (fun r => ((lst r.v).length : Int) != ((lst q).length : Int))
          · rw [hsd] at f4
            have e1 : pE (lst o) c q k m = 0 := by unfold pE; simp [hc, ht, hr, hx, hsd]
            rw [e1]
            obtain ⟨S1, hS1⟩ : ∃ S1, S1 = upd (upd (upd Sto.empty 0 (some (Ob.row 4 [V.agg [slV 1 i32V q, V.int IntKind.i64 k, V.int IntKind.u64 ts, V.int IntKind.i64 m]]))) 1 (some (Ob.row 1 [V.int IntKind.i64 0]))) 1 (some (Ob.row 1 [V.int IntKind.i64 ↑(lst q).length])) := ⟨_, rfl⟩
            have t1 : S1 1 = some (.row 1 [.int .i64 ((lst q).length : Int)]) := by rw [hS1, upd_self]
            have t0 : S1 0 = some (Ob.row 4 [V.agg [slV 1 i32V q, V.int IntKind.i64 k, V.int IntKind.u64 ts, V.int IntKind.i64 m]]) := by rw [hS1]; simp [upd]
            have f4' := f4 S1 t1
            simp only [thaw] at f4'
            have r42' := r42 q k ts m c hce hcv hq oq hx hne
            have f42 := callE_tr (by decide) r42' (by simp [srcV, Tr, Tr_slV]) (by simp [srcV, Nw])
            simp only [srcV] at f42
            simp +contextual -implicitDefEqProofs (maxSteps := 2000000) only [↓wP, wQ, wQ1, wQ2, wQ3, wR, boxE, partsOf, ↓reduceIte, Nat.reduceEqDiff, Nat.reduceAdd, Nat.reduceSub, Nat.reduceLeDiff, Nat.reduceLT, Nat.reduceMul, reduceCtorEq, Int.reduceBNe, Int.reduceBEq, Int.reduceLT, Int.reduceLE, Int.reduceGT, f1, f2, f3, hv0, vecV_eq, hx', ← hS1, t0, t1, f4', f42]
            refine WC_env fun env hE => ?_
            have e49 : env 49 = .fn 75 [.box [.sl 2 (hs (srt (ctH q (lst c) 0)))], .box (srcV q k ts m c)] := by rw [hE]; rfl
            have e0 : env 0 = slV 2 rwV o := by rw [hE]; rfl
            have e1' : env 1 = slV 1 vecV c := by rw [hE]; rfl
            have e5 : env 5 = .ptr 0 4 0 0 := by rw [hE]; rfl
            have e11 : env 11 = .ptr 3 1 0 0 := by rw [hE]; rfl
            clear hE
            have h2 := nr_two hce oq hx
            obtain ⟨ids, hids⟩ : ∃ ids, ids = near q (lst c) m := ⟨_, rfl⟩
            have hnl : ids.length = min m.toNat (lst c).length := by rw [hids]; exact near_len _ _ _ (by omega)
            have hlen : (srt (ctH q (lst c) 0)).length = (lst c).length := by rw [srt_len, ctH_len]
            have hce6 := cents_len hce
            obtain ⟨X, hX⟩ : ∃ X, X = Ob.row 4 [V.agg [slV 1 i32V q, V.int IntKind.i64 k, V.int IntKind.u64 ts, V.int IntKind.i64 m]] := ⟨_, rfl⟩
            rw [← hX] at t0
            refine WC_rangeF (f := 75) (caps := _) e49 (Nat.zero_le _) ?_
            refine run_mono _ _ _ (fun o' ho => ?_) (iter48 q k ts m c (srt (ctH q (lst c) 0)) 4 (fun j σ n => J15 env X ids j σ n) _ 5 (by omega) (by omega) (fun h hh => by have := ct_id hh; omega) (by omega) ?_ ?_ ?_)
            · cases o' <;> try exact ho.elim
              rename_i vv σ' n'
              obtain ⟨h1, h4, h0, h3, Lm, clk, m1, m2, m3⟩ := ho
              refine ⟨_, _, _, _, _, _, h4, by decide, ?_⟩
              rw [hlen, ← hnl, List.take_length] at m3
              obtain ⟨S2, hS2⟩ : ∃ S2, S2 = upd σ' 4 none := ⟨_, rfl⟩
              have u0 : S2 0 = some X := by rw [hS2]; simp [upd, h0]
              have u2 : S2 2 = some (.map (ens iV bV Lm) clk) := by rw [hS2]; simp [upd, m2]
              have u3 : S2 3 = some (.row 1 [.mp 2]) := by rw [hS2]; simp [upd, h3]
              simp +contextual -implicitDefEqProofs (maxSteps := 2000000) only [↓wP, wQ, wQ1, wQ2, wQ3, wR, boxE, partsOf, ↓reduceIte, Nat.reduceEqDiff, Nat.reduceAdd, Nat.reduceSub, Nat.reduceLeDiff, Nat.reduceLT, Nat.reduceMul, reduceCtorEq, Int.reduceBNe, Int.reduceBEq, Int.reduceLT, Int.reduceLE, Int.reduceGT, Option.getD_none, ← hS2, e0]
              refine WC_for (lst o).length 0 (fun (j : Nat) env σ n => env 1 = slV 1 vecV c ∧ env 5 = .ptr 0 4 0 0 ∧ env 11 = .ptr 3 1 0 0 ∧ env 53 = slV 2 rwV o ∧ 5 ≤ n ∧ σ 0 = some X ∧ σ 2 = some (.map (ens iV bV Lm) clk) ∧ σ 3 = some (.row 1 [.mp 2]) ∧
                ∃ v, env 13 = v ∧ Pl σ 5 n 2 v (oL ((selN q (lst c) m ((lst o).take j)).map rwV))) (by omega) (by decide) (by decide) (fun _ _ => rfl) (fun _ _ _ => rfl) ?_ ?_ _ _ _ rfl rfl ?_
              · intro j env σ n hj g1 g2 ⟨k1, k2, k3, k4, k5, k6, k7, k8, v, k9, k10⟩
                simp only [vl_tmp] at g2
                have hxo : (lst o)[j]? = some (lst o)[j] := List.getElem?_eq_getElem hj
                have hmo := List.getElem_mem hj
                have htk : (lst o).take (j + 1) = (lst o).take j ++ [(lst o)[j]] := (List.take_append_getElem hj).symm
                have hsn := selN_snoc q (lst c) m ((lst o).take j) (lst o)[j]
                rw [← htk] at hsn
                have hvx := hv _ hmo
                have hok : okV (lst o)[j].v = true := by
                  have := List.any_eq_false.1 hr _ hmo
                  simpa using this
                have hdx : (lst (lst o)[j].v).length = (lst q).length := by
                  have := List.any_eq_false.1 hsd _ hmo
                  simp at this; omega
                generalize (lst o)[j] = x at *
                have f43' := f43 c x.v hcl hne (nr_two hce hok (by omega)) hcv hvx
                obtain ⟨p, hp⟩ : ∃ p, p = ((nb x.v (lst c) (lst c).length : Nat) : Int) := ⟨_, rfl⟩
                rw [← hp] at f43' hsn
                have hc' := k10.cells
                have ho' := k10.one
                have hsp := spl k10
                have hmg : mgetE false (.one .int) (.bool false) (some (ens iV bV Lm)) (.int .i64 p) = some (.bool (decide (p ∈ ids))) := by
                  have := mget_ens (ve := bV) keyInt false (.bool false) p Lm
                  simp only [iV] at this
                  rw [this, ← m3 p]
                  cases vw Lm p <;> rfl
                obtain ⟨σ1, hσ1⟩ : ∃ σ1, σ1 = upd (upd σ n (some (.row 2 [.agg [.int .u64 0, .nilS]]))) n (some (.row 2 [.agg [.int .u64 x.id, slV 1 i32V x.v]])) := ⟨_, rfl⟩
                have so : ∀ i, i < n → σ1 i = σ i := fun i hi => by rw [hσ1, upd_ne (by omega), upd_ne (by omega)]
                have sn : σ1 n = some (.row 2 [.agg [.int .u64 x.id, slV 1 i32V x.v]]) := by rw [hσ1, upd_self]
                have s2 := (so 2 (by omega)).trans k7
                have s3 := (so 3 (by omega)).trans k8
                rw [← hids] at hsn
                by_cases hmem : p ∈ ids
                · rw [if_pos hmem] at hsn
                  have hdm : decide (p ∈ ids) = true := decide_eq_true hmem
                  rw [hdm] at hmg
                  have hll : ((selN q (lst c) m ((lst o).take j)).map rwV).length ≤ j := by
                    have := selN_len q (lst c) m ((lst o).take j)
                    rw [List.length_take] at this
                    rw [List.length_map]; omega
                  simp +contextual -implicitDefEqProofs (maxSteps := 2000000) only [↓wP, wQ, wQ1, wQ2, wQ3, wR, boxE, partsOf, ↓reduceIte, Nat.reduceEqDiff, Nat.reduceAdd, Nat.reduceSub, Nat.reduceLeDiff, Nat.reduceLT, Nat.reduceMul, reduceCtorEq, Int.reduceBNe, Int.reduceBEq, Int.reduceLT, Int.reduceLE, Int.reduceGT, g1, g2, k1, k2, k3, k4, k9, hxo, rwV_eq, ← hσ1, sn, s2, s3, f43', hmg]
                  refine stepW_app1 (m := 5) (n0 := n) (σ0 := σ) k10 (fun i a1 a2 => ?_) (by omega) (by omega) (Nat.zero_le _) ?_ (fun _ σ2 a1 a2 => ?_)
                  · rw [upd_ne (by omega), so i a2]
                  · rw [lst_oL]; unfold LIM; omega
                  · rw [lst_oL] at a1 ⊢
                    have hv5 : ∀ i, i < 5 → ∀ off len s, v ≠ .ref i off len s := by
                      intro i hi off len s e
                      subst e
                      cases ho' : oL ((selN q (lst c) m ((lst o).take j)).map rwV) with
                      | none => rw [ho'] at k10; simp only [Pl] at k10; cases k10
                      | some xs => rw [ho'] at k10; obtain ⟨j, e, -, e2, -⟩ := k10; simp only [V.ref.injEq] at e; omega
                    have t : ∀ i, i < 5 → σ2 i = σ i := fun i hi => by
                      rw [a2 i (by omega) (hv5 i hi), upd_ne (by omega), so i (by omega)]
                    simp +contextual -implicitDefEqProofs (maxSteps := 2000000) only [↓wP, wQ, wQ1, wQ2, wQ3, wR, boxE, partsOf, ↓reduceIte, Nat.reduceEqDiff, Nat.reduceAdd, Nat.reduceSub, Nat.reduceLeDiff, Nat.reduceLT, Nat.reduceMul, reduceCtorEq, Int.reduceBNe, Int.reduceBEq, Int.reduceLT, Int.reduceLE, Int.reduceGT, g1, g2, k1, k2, k3, k4, hc', hsp]
                    refine ⟨by omega, by rw [t 0 (by omega)]; exact k6, by rw [t 2 (by omega)]; exact k7, by rw [t 3 (by omega)]; exact k8, _, rfl, ?_⟩
                    rw [hsn, List.map_append]
                    have e2 : oL ((selN q (lst c) m ((lst o).take j)).map rwV ++ [x].map rwV) = some ((selN q (lst c) m ((lst o).take j)).map rwV ++ [.agg [.int .u64 x.id, slV 1 i32V x.v]]) := by
                      cases selN q (lst c) m ((lst o).take j) <;> rfl
                    rw [e2]
                    exact a1
                · rw [if_neg hmem, List.append_nil] at hsn
                  have hdm : decide (p ∈ ids) = false := decide_eq_false hmem
                  rw [hdm] at hmg
                  simp +contextual -implicitDefEqProofs (maxSteps := 2000000) only [↓wP, wQ, wQ1, wQ2, wQ3, wR, boxE, partsOf, ↓reduceIte, Nat.reduceEqDiff, Nat.reduceAdd, Nat.reduceSub, Nat.reduceLeDiff, Nat.reduceLT, Nat.reduceMul, reduceCtorEq, Int.reduceBNe, Int.reduceBEq, Int.reduceLT, Int.reduceLE, Int.reduceGT, g1, g2, k1, k2, k3, k4, k9, hxo, rwV_eq, ← hσ1, sn, s2, s3, f43', hmg]
                  rw [hsn]
                  exact ⟨by omega, by rw [so 0 (by omega)]; exact k6, _, rfl, k10.loc (fun i a b => so i b) (by omega)⟩
              · intro env σ n ⟨k1, k2, k3, k4, k5, k6, k7, k8, v, k9, k10⟩ g1 g2
                rw [List.take_length] at k10
                obtain ⟨SL, hSL⟩ : ∃ SL, SL = selN q (lst c) m (lst o) := ⟨_, rfl⟩
                rw [← hSL] at k10
                have hSl : SL.length ≤ 300 := by rw [hSL]; have := selN_len q (lst c) m (lst o); omega
                have hSm : ∀ r ∈ SL, r ∈ lst o := fun r hr => by rw [hSL] at hr; exact (List.mem_filter.1 hr).1
                have r44' := r44 (oL SL) q k (by rw [lst_oL]; exact hSl) (fun r hr => by rw [lst_oL] at hr; exact hv r (hSm r hr)) hq
                have hall : SL.all okR = true := by
                  rw [List.all_eq_true]
                  intro r hr'
                  have := List.any_eq_false.1 hr _ (hSm r hr')
                  simpa [okR] using this
                have hsame : SL.all (sameD q) = true := by
                  rw [List.all_eq_true]
                  intro r hr'
                  have := List.any_eq_false.1 hsd _ (hSm r hr')
                  simp at this
                  simp [sameD]; omega
                have eE : rowsE q k SL = 0 := by unfold rowsE itE; simp [hqe, hall, hsame]
                have eL : rowsL q k SL = pL (lst o) c q k m := by
                  unfold rowsL itL pL
                  simp [hqe, hall, hsame, e1, ← hSL]
                rw [lst_oL, eE, eL] at r44'
                have hf := k10.frz (fun x hx => by rw [lst_oL] at hx; obtain ⟨y, -, rfl⟩ := List.mem_map.1 hx; simp [rwV_eq, Tr, Tr_slV]) (fun x hx c hc => by
                    rw [lst_oL] at hx; obtain ⟨y, -, rfl⟩ := List.mem_map.1 hx
                    simp only [rwV_eq, V.cells, List.mem_cons, List.not_mem_nil, or_false] at hc
                    rcases hc with rfl | rfl
                    · rfl
                    · exact Tr_slV _ _ _ _)
                rw [slV_oL] at hf
                have e : [v, V.agg [slV 1 i32V q, .int .i64 k]].mapM (frz σ 12) = some [slV 2 rwV (oL SL), .agg [slV 1 i32V q, .int .i64 k]] := by
                  have x1 : frz σ 12 (.agg [slV 1 i32V q, .int .i64 k]) = some (.agg [slV 1 i32V q, .int .i64 k]) := (frz_tr σ 12 _ (by simp [Tr, Tr_slV])).1
                  simp only [List.mapM_cons, List.mapM_nil, hf, x1]; rfl
                have f44 := callE_flat (by decide) e r44' (flat_tup2 (flat_ownH _) rfl) true n 0
                rw [thaw_hTup] at f44
                have hg := hVal_giv11 σ n (pL (lst o) c q k m)
                rw [hX] at k6
                simp +contextual -implicitDefEqProofs (maxSteps := 2000000) only [↓wP, wQ, wQ1, wQ2, wQ3, wR, boxE, partsOf, ↓reduceIte, Nat.reduceEqDiff, Nat.reduceAdd, Nat.reduceSub, Nat.reduceLeDiff, Nat.reduceLT, Nat.reduceMul, reduceCtorEq, Int.reduceBNe, Int.reduceBEq, Int.reduceLT, Int.reduceLE, Int.reduceGT, k2, k6, k9, f44]
                exact giv_tup2 hg rfl rfl
              · simp +contextual -implicitDefEqProofs (maxSteps := 2000000) only [↓wP, wQ, wQ1, wQ2, wQ3, wR, boxE, partsOf, ↓reduceIte, Nat.reduceEqDiff, Nat.reduceAdd, Nat.reduceSub, Nat.reduceLeDiff, Nat.reduceLT, Nat.reduceMul, reduceCtorEq, Int.reduceBNe, Int.reduceBEq, Int.reduceLT, Int.reduceLE, Int.reduceGT, e1', e5, e11]
                exact ⟨h1, u0, u2, u3, _, rfl, by simp [selN, oL, Pl]⟩
            · exact fun j σ n σ' n' h a b => h.frame a b
            · intro j hj σ n hjm hJ hn
              have hj2 : j < ids.length := by omega
              exact hy16 env X ids e11 j hj2 _ (by simp [hids, near]) σ n hJ hn
            · exact ⟨by omega, by rfl, by simp [upd, t0], by simp [upd], [], 0, MOk.nil, by simp [upd, ens], by simp [vw]⟩
          · rw [hsd] at f4
            have e1 : pE (lst o) c q k m = 151 := by unfold pE; simp [hc, ht, hr, hx, hsd]
            have e2 : pL (lst o) c q k m = [] := by unfold pL; rw [e1]; rfl
            rw [e1, e2]
            obtain ⟨S1, hS1⟩ : ∃ S1, S1 = upd (upd (upd Sto.empty 0 (some (Ob.row 4 [V.agg [slV 1 i32V q, V.int IntKind.i64 k, V.int IntKind.u64 ts, V.int IntKind.i64 m]]))) 1 (some (Ob.row 1 [V.int IntKind.i64 0]))) 1 (some (Ob.row 1 [V.int IntKind.i64 ↑(lst q).length])) := ⟨_, rfl⟩
            have t1 : S1 1 = some (.row 1 [.int .i64 ((lst q).length : Int)]) := by rw [hS1, upd_self]
            have t0 : S1 0 = some (Ob.row 4 [V.agg [slV 1 i32V q, V.int IntKind.i64 k, V.int IntKind.u64 ts, V.int IntKind.i64 m]]) := by rw [hS1]; simp [upd]
            have f4' := f4 S1 t1
            simp only [thaw] at f4'
            simp +contextual -implicitDefEqProofs (maxSteps := 2000000) only [↓wP, wQ, wQ1, wQ2, wQ3, wR, boxE, partsOf, ↓reduceIte, Nat.reduceEqDiff, Nat.reduceAdd, Nat.reduceSub, Nat.reduceLeDiff, Nat.reduceLT, Nat.reduceMul, reduceCtorEq, Int.reduceBNe, Int.reduceBEq, Int.reduceLT, Int.reduceLE, Int.reduceGT, f1, f2, f3, hv0, vecV_eq, hx', ← hS1, t0, t1, f4']
            exact giv_tup2 (r := .nilS) ⟨rfl, by simp [gids]⟩ rfl rfl
        · have hx' : (((lst v0).length : Int) != ((lst q).length : Int)) = true := by rw [← hd]; simp; omega
          have e1 : pE (lst o) c q k m = 151 := by unfold pE; simp [hc, ht, hr, hx]
          have e2 : pL (lst o) c q k m = [] := by unfold pL; rw [e1]; rfl
          rw [e1, e2]
          simp +contextual -implicitDefEqProofs (maxSteps := 2000000) only [↓wP, wQ, wQ1, wQ2, wQ3, wR, boxE, partsOf, ↓reduceIte, Nat.reduceEqDiff, Nat.reduceAdd, Nat.reduceSub, Nat.reduceLeDiff, Nat.reduceLT, Nat.reduceMul, reduceCtorEq, Int.reduceBNe, Int.reduceBEq, Int.reduceLT, Int.reduceLE, Int.reduceGT, f1, f2, f3, hv0, vecV_eq, hx']
          exact giv_tup2 (r := .nilS) ⟨rfl, by simp [gids]⟩ rfl rfl
      · rw [hr] at f3
        have e1 : pE (lst o) c q k m = 170 := by unfold pE; simp [hc, ht, hr]
        have e2 : pL (lst o) c q k m = [] := by unfold pL; rw [e1]; rfl
        rw [e1, e2]
        simp +contextual -implicitDefEqProofs (maxSteps := 2000000) only [↓wP, wQ, wQ1, wQ2, wQ3, wR, boxE, partsOf, ↓reduceIte, Nat.reduceEqDiff, Nat.reduceAdd, Nat.reduceSub, Nat.reduceLeDiff, Nat.reduceLT, Nat.reduceMul, reduceCtorEq, Int.reduceBNe, Int.reduceBEq, Int.reduceLT, Int.reduceLE, Int.reduceGT, f1, f2, f3]
        exact giv_tup2 (r := .nilS) ⟨rfl, by simp [gids]⟩ rfl rfl
    · have ht' : (trE c != 0) = true := by simpa using ht
      have e1 : pE (lst o) c q k m = trE c := by unfold pE; simp [hc, ht]
      have e2 : pL (lst o) c q k m = [] := by unfold pL; rw [e1, if_neg ht]
      rw [e1, e2]
      simp +contextual -implicitDefEqProofs (maxSteps := 2000000) only [↓wP, wQ, wQ1, wQ2, wQ3, wR, boxE, partsOf, ↓reduceIte, Nat.reduceEqDiff, Nat.reduceAdd, Nat.reduceSub, Nat.reduceLeDiff, Nat.reduceLT, Nat.reduceMul, reduceCtorEq, Int.reduceBNe, Int.reduceBEq, Int.reduceLT, Int.reduceLE, Int.reduceGT, f1, f2, ht']
      exact giv_tup2 (r := .nilS) ⟨rfl, by simp [gids]⟩ rfl rfl
  · have hc' : (chkE q k m != 0) = true := by simpa using hc
    have e1 : pE (lst o) c q k m = chkE q k m := by unfold pE; simp [hc]
    have e2 : pL (lst o) c q k m = [] := by unfold pL; rw [e1, if_neg hc]
    rw [e1, e2]
    simp +contextual -implicitDefEqProofs (maxSteps := 2000000) only [↓wP, wQ, wQ1, wQ2, wQ3, wR, boxE, partsOf, ↓reduceIte, Nat.reduceEqDiff, Nat.reduceAdd, Nat.reduceSub, Nat.reduceLeDiff, Nat.reduceLT, Nat.reduceMul, reduceCtorEq, Int.reduceBNe, Int.reduceBEq, Int.reduceLT, Int.reduceLE, Int.reduceGT, f1, hc']
    exact giv_tup2 (r := .nilS) ⟨rfl, by simp [gids]⟩ rfl rfl
end Go.Q.SZ
end

section
/- What the document finds among rows. -/
set_option linter.unusedSimpArgs false
set_option linter.unusedVariables false
namespace Go.Q.SZ
open Go.Q Go.Sort
theorem r13 (q : Vc) (k t m : Int) (hq : Sm q) : res T 13 [.agg [slV 1 i32V q, .int .i64 k, .int .u64 t, .int .i64 m]] = some (.int .i64 (chkE q k m)) := by
  refine run_res (run_pure (fn := g13) rfl rfl (by decide) ?_)
  simp only [g13, b13, oO, oN, mV, lD, gO, pP, qQ, cI, aR]
  have h1 := f36 q hq
  unfold chkE askE
  by_cases k1 : k < 1
  · simp +contextual -implicitDefEqProofs (maxSteps := 2000000) only [↓wP, wQ, wQ1, wQ2, wQ3, wR, boxE, partsOf, ↓reduceIte, Nat.reduceEqDiff, Nat.reduceAdd, Nat.reduceSub, Nat.reduceLeDiff, Nat.reduceLT, Nat.reduceMul, reduceCtorEq, Int.reduceBNe, Int.reduceBEq, Int.reduceLT, Int.reduceLE, Int.reduceGT, k1]
  · by_cases k2 : 16 < k
    · simp +contextual -implicitDefEqProofs (maxSteps := 2000000) only [↓wP, wQ, wQ1, wQ2, wQ3, wR, boxE, partsOf, ↓reduceIte, Nat.reduceEqDiff, Nat.reduceAdd, Nat.reduceSub, Nat.reduceLeDiff, Nat.reduceLT, Nat.reduceMul, reduceCtorEq, Int.reduceBNe, Int.reduceBEq, Int.reduceLT, Int.reduceLE, Int.reduceGT, k1, k2]
    · by_cases k3 : m < 1
      · simp +contextual -implicitDefEqProofs (maxSteps := 2000000) only [↓wP, wQ, wQ1, wQ2, wQ3, wR, boxE, partsOf, ↓reduceIte, Nat.reduceEqDiff, Nat.reduceAdd, Nat.reduceSub, Nat.reduceLeDiff, Nat.reduceLT, Nat.reduceMul, reduceCtorEq, Int.reduceBNe, Int.reduceBEq, Int.reduceLT, Int.reduceLE, Int.reduceGT, k1, k2, k3]
        rfl
      · by_cases k4 : 1048576 < m
        · simp +contextual -implicitDefEqProofs (maxSteps := 2000000) only [↓wP, wQ, wQ1, wQ2, wQ3, wR, boxE, partsOf, ↓reduceIte, Nat.reduceEqDiff, Nat.reduceAdd, Nat.reduceSub, Nat.reduceLeDiff, Nat.reduceLT, Nat.reduceMul, reduceCtorEq, Int.reduceBNe, Int.reduceBEq, Int.reduceLT, Int.reduceLE, Int.reduceGT, k1, k2, k3, k4]
          rfl
        · cases ho : okV q
          · rw [ho] at h1
            simp +contextual -implicitDefEqProofs (maxSteps := 2000000) only [↓wP, wQ, wQ1, wQ2, wQ3, wR, boxE, partsOf, ↓reduceIte, Nat.reduceEqDiff, Nat.reduceAdd, Nat.reduceSub, Nat.reduceLeDiff, Nat.reduceLT, Nat.reduceMul, reduceCtorEq, Int.reduceBNe, Int.reduceBEq, Int.reduceLT, Int.reduceLE, Int.reduceGT, k1, k2, k3, k4, h1]
            rfl
          · rw [ho] at h1
            simp +contextual -implicitDefEqProofs (maxSteps := 2000000) only [↓wP, wQ, wQ1, wQ2, wQ3, wR, boxE, partsOf, ↓reduceIte, Nat.reduceEqDiff, Nat.reduceAdd, Nat.reduceSub, Nat.reduceLeDiff, Nat.reduceLT, Nat.reduceMul, reduceCtorEq, Int.reduceBNe, Int.reduceBEq, Int.reduceLT, Int.reduceLE, Int.reduceGT, k1, k2, k3, k4, h1]
            rfl
theorem f13 (q : Vc) (k t m : Int) (hq : Sm q) (fs : Bool) (σ : Sto) (n lk : Nat) : callE T fs 13 [.agg [slV 1 i32V q, .int .i64 k, .int .u64 t, .int .i64 m]] σ n lk = some (.int .i64 (chkE q k m), σ, n) :=
  callE_tr (by decide) (r13 q k t m hq) (by simp [Tr, Tr_slV]) rfl fs σ n lk
theorem r45 (c : Option (List Vc)) (v : Vc) (hl : (lst c).length ≤ 7) (hne : lst c ≠ []) (h2' : ∀ x ∈ lst c, Two x v) :
    res T 45 [slV 1 vecV c, slV 1 i32V v] = some (.int .i64 (nb v (lst c) (lst c).length)) := by
  refine run_res (run_pure (fn := g45) rfl rfl (by decide) ?_)
  simp only [g45, b45, oO, oN, mV, lD, gO, pP, qQ, cI, aR]
  have hp : 0 < (lst c).length := List.length_pos_iff.2 hne
  obtain ⟨D, hD⟩ : ∃ D, D = dis v (lst c) := ⟨_, rfl⟩
  have hDx : ∀ i (h : i < (lst c).length), distI (lst c)[i] v = D i := fun i h => by rw [hD]; simp [dis, h]
  have h1 : nb v (lst c) 1 = 0 := by
    have h0 := nb_step v (lst c) 0
    rw [h0]
    have : nb v (lst c) 0 = 0 := rfl
    rw [this]
    split <;> rfl
  simp +contextual -implicitDefEqProofs (maxSteps := 2000000) only [↓wP, wQ, wQ1, wQ2, wQ3, wR, boxE, partsOf, ↓reduceIte, Nat.reduceEqDiff, Nat.reduceAdd, Nat.reduceSub, Nat.reduceLeDiff, Nat.reduceLT, Nat.reduceMul, reduceCtorEq, Int.reduceBNe, Int.reduceBEq, Int.reduceLT, Int.reduceLE, Int.reduceGT]
  refine WC_loopI 0 (fun (i : Nat) env σ n => i + 1 ≤ (lst c).length ∧ env 0 = slV 1 vecV c ∧ env 1 = slV 1 i32V v ∧ env 6 = .int .i64 ((i + 1 : Nat) : Int) ∧ env 5 = .int .i64 ((nb v (lst c) (i + 1) : Nat) : Int)) (fun i => (lst c).length - i) ?_ 0 _ _ _ ?_
  · intro i env σ n ⟨g1, g2, g3, g4, g5⟩
    by_cases hi : i + 1 < (lst c).length
    · have hi' : ((i + 1 : Nat) : Int) < ((lst c).length : Int) := by omega
      have hb := nb_lt v (lst c) (i + 1)
      have hst := nb_step v (lst c) (i + 1)
      rw [← hD] at hst
      obtain ⟨b, hbb⟩ : ∃ b, b = nb v (lst c) (i + 1) := ⟨_, rfl⟩
      rw [← hbb] at hst hb g5
      have hb1 : b < i + 1 := by
        have := nb_lt v (lst c) (i + 1)
        rcases bst_spec [] (dis v (lst c)) (i + 1) with ⟨e1, e2⟩ | ⟨b', e1, e2, -, -⟩
        · have := e2 0 (by omega); simp at this
        · have : b = b' := by rw [hbb]; unfold nb; rw [e1]; rfl
          omega
      have hbl : b < (lst c).length := by omega
      have xi : (lst c)[i + 1]? = some (lst c)[i + 1] := List.getElem?_eq_getElem hi
      have xb : (lst c)[b]? = some (lst c)[b] := List.getElem?_eq_getElem hbl
      have di := f67 (lst c)[i + 1] v (h2' _ (List.getElem_mem hi))
      have db := f67 (lst c)[b] v (h2' _ (List.getElem_mem hbl))
      rw [hDx _ hi] at di
      rw [hDx _ hbl] at db
      generalize (lst c)[i + 1] = x at *
      generalize (lst c)[b] = y at *
      have wi : IntKind.i64.wrap (((i + 1 : Nat) : Int) + 1) = ((i + 1 + 1 : Nat) : Int) := by rw [wrap_i64] <;> omega
      have hah : ahead ⟨((i + 1 : Nat) : Int), D (i + 1)⟩ ⟨b, D b⟩ = decide (D (i + 1) < D b) := by
        unfold ahead
        by_cases h : D (i + 1) < D b
        · simp [h]
        · simp [h]; omega
      rw [hah] at hst
      by_cases hlt : D (i + 1) < D b
      · rw [if_pos (by simpa using hlt)] at hst
        simp +contextual -implicitDefEqProofs (maxSteps := 2000000) only [↓wP, wQ, wQ1, wQ2, wQ3, wR, boxE, partsOf, ↓reduceIte, Nat.reduceEqDiff, Nat.reduceAdd, Nat.reduceSub, Nat.reduceLeDiff, Nat.reduceLT, Nat.reduceMul, reduceCtorEq, Int.reduceBNe, Int.reduceBEq, Int.reduceLT, Int.reduceLE, Int.reduceGT, g2, g3, g4, g5, hi', xi, xb, vecV_eq, di, db, hlt, wi]
        exact ⟨i + 1, by omega, by omega, rfl, by rw [hst]⟩
      · rw [if_neg (by simpa using hlt)] at hst
        simp +contextual -implicitDefEqProofs (maxSteps := 2000000) only [↓wP, wQ, wQ1, wQ2, wQ3, wR, boxE, partsOf, ↓reduceIte, Nat.reduceEqDiff, Nat.reduceAdd, Nat.reduceSub, Nat.reduceLeDiff, Nat.reduceLT, Nat.reduceMul, reduceCtorEq, Int.reduceBNe, Int.reduceBEq, Int.reduceLT, Int.reduceLE, Int.reduceGT, g2, g3, g4, g5, hi', xi, xb, vecV_eq, di, db, hlt, wi]
        exact ⟨i + 1, by omega, by omega, rfl, by rw [hst]⟩
    · have hi' : ¬ ((i + 1 : Nat) : Int) < ((lst c).length : Int) := by omega
      have e : i + 1 = (lst c).length := by omega
      rw [e] at g5
      simp +contextual -implicitDefEqProofs (maxSteps := 2000000) only [↓wP, wQ, wQ1, wQ2, wQ3, wR, boxE, partsOf, ↓reduceIte, Nat.reduceEqDiff, Nat.reduceAdd, Nat.reduceSub, Nat.reduceLeDiff, Nat.reduceLT, Nat.reduceMul, reduceCtorEq, Int.reduceBNe, Int.reduceBEq, Int.reduceLT, Int.reduceLE, Int.reduceGT, g2, g3, g4, g5, hi']
  · simp +contextual -implicitDefEqProofs (maxSteps := 2000000) only [↓wP, wQ, wQ1, wQ2, wQ3, wR, boxE, partsOf, ↓reduceIte, Nat.reduceEqDiff, Nat.reduceAdd, Nat.reduceSub, Nat.reduceLeDiff, Nat.reduceLT, Nat.reduceMul, reduceCtorEq, Int.reduceBNe, Int.reduceBEq, Int.reduceLT, Int.reduceLE, Int.reduceGT]
    exact ⟨by omega, rfl, by rw [h1]; rfl⟩
theorem f45 (c : Option (List Vc)) (v : Vc) (hl : (lst c).length ≤ 7) (hne : lst c ≠ []) (h2' : ∀ x ∈ lst c, Two x v) (fs : Bool) (σ : Sto) (n lk : Nat) :
    callE T fs 45 [slV 1 vecV c, slV 1 i32V v] σ n lk = some (.int .i64 (nb v (lst c) (lst c).length), σ, n) :=
  callE_tr (by decide) (r45 c v hl hne h2') (by simp [Tr, Tr_slV]) rfl fs σ n lk
theorem r33 (o : Option (List Rw)) (q : Vc) (k : Nat) (hl : (lst o).length ≤ 300) (hk : k < 1000) (hok : ∀ r ∈ lst o, Two r.v q) (hq : Sm q) : res T 33 [slV 2 rwV o, .agg [slV 1 i32V q, .int .i64 (k : Int)]] = some (.tup [slV 2 hitV (refF k ((lst o).map (hitQ q))), .int .i64 0]) := by
  refine run_res (run_pure (fn := g33) rfl rfl (by decide) ?_)
  simp only [g33, b33, oO, oN, mV, lD, gO, pP, qQ, cI, aR]
  simp +contextual -implicitDefEqProofs (maxSteps := 2000000) only [↓wP, wQ, wQ1, wQ2, wQ3, wR, boxE, partsOf, ↓reduceIte, Nat.reduceEqDiff, Nat.reduceAdd, Nat.reduceSub, Nat.reduceLeDiff, Nat.reduceLT, Nat.reduceMul, reduceCtorEq, Int.reduceBNe, Int.reduceBEq, Int.reduceLT, Int.reduceLE, Int.reduceGT]
  refine WC_for (lst o).length 0 (fun (j : Nat) env σ n => env 3 = .ptr 0 2 0 0 ∧ env 9 = slV 2 rwV o ∧ 1 ≤ n ∧ σ 0 = some (.row 2 [.agg [slV 1 i32V q, .int .i64 (k : Int)]]) ∧ ∃ v, env 6 = v ∧ Pl σ 1 n 2 v (oH (((lst o).take j).map (hitQ q)))) (by omega) (by decide) (by decide) (fun _ _ => rfl) (fun _ _ _ => rfl) ?_ ?_ _ _ _ rfl rfl ?_
  · intro j env σ n hj h1 h2 ⟨g1, g2, g3, g4, v, g5, g6⟩
    simp only [vl_tmp] at h2
    have hx : (lst o)[j]? = some (lst o)[j] := List.getElem?_eq_getElem hj
    have ht : (lst o).take (j + 1) = (lst o).take j ++ [(lst o)[j]] := (List.take_append_getElem hj).symm
    have h2w := hok _ (List.getElem_mem hj)
    generalize (lst o)[j] = x at *
    have hd : (((lst x.v).length : Int) != ((lst q).length : Int)) = false := by have := h2w.3; simp; omega
    have f := f67 x.v q h2w
    have hid : (⟨x.id, distI x.v q⟩ : Hit) = hitQ q x := by unfold hitQ; rw [distI_comm h2w.3]
    have hc := g6.cells
    have hsp := spl g6
    obtain ⟨σ1, hσ1⟩ : ∃ σ1, σ1 = upd (upd σ n (some (.row 2 [.agg [.int .u64 0, .nilS]]))) n (some (.row 2 [.agg [.int .u64 x.id, slV 1 i32V x.v]])) := ⟨_, rfl⟩
    have so : ∀ i, i < n → σ1 i = σ i := fun i hi => by rw [hσ1, upd_ne (by omega), upd_ne (by omega)]
    have sn : σ1 n = some (.row 2 [.agg [.int .u64 x.id, slV 1 i32V x.v]]) := by rw [hσ1, upd_self]
    have s0 : σ1 0 = some (.row 2 [.agg [slV 1 i32V q, .int .i64 (k : Int)]]) := by rw [so 0 (by omega)]; exact g4
    have hlen : (((lst o).take j).map (hitQ q)).length = j := by rw [List.length_map, List.length_take]; omega
    have y0 : ∀ hid, hide σ1 (n + 1) (n + 1) hid n = σ1 n := fun hid => hide_low _ _ _ _ (by omega) (Nat.le_refl _)
    have y1 : ∀ hid, hide σ1 (n + 1) (n + 1) hid 0 = σ1 0 := fun hid => hide_low _ _ _ _ (by omega) (Nat.le_refl _)
    have hB := big_le
    obtain ⟨m, hm, hmn⟩ : ∃ m, m = n + (1 + BIG) ∧ n + 2 ≤ m := ⟨_, rfl, by omega⟩
    have hmn2 : (n + 2 ≤ m) = True := by simp; exact hmn
    have ce : ∀ (x : V) (i : Nat), elemsO (upd σ1 i (some (Ob.row 2 [x])) i) 2 0 1 = some [x] := fun x i => by rw [upd_self]; rfl
    have q0 : (0 = n) = False := by simp; omega
    simp +contextual -implicitDefEqProofs (maxSteps := 2000000) only [↓wP, wQ, wQ1, wQ2, wQ3, wR, boxE, partsOf, ↓reduceIte, Nat.reduceEqDiff, Nat.reduceAdd, Nat.reduceSub, Nat.reduceLeDiff, Nat.reduceLT, Nat.reduceMul, reduceCtorEq, Int.reduceBNe, Int.reduceBEq, Int.reduceLT, Int.reduceLE, Int.reduceGT, h1, h2, g1, g2, g5, hx, rwV_eq, ← hσ1, sn, s0, hd, f, y0, y1, mg1, Nat.mul_one, ce, ← hm, hmn2, q0]
    refine stepW_app1 (m := 1) (n0 := n) (σ0 := σ) g6 (fun i a1 a2 => ?_) (by omega) (by omega) (Nat.zero_le _) ?_ (fun _ σ2 a1 a2 => ?_)
    · rw [upd_ne (by omega), so i a2]
    · rw [lst_oH, hs_len, hlen]; unfold LIM; omega
    · rw [lst_oH, hs_len, hlen] at a1 ⊢
      have hv0 : ∀ off len s, v ≠ .ref 0 off len s := by
        intro off len s e
        subst e
        cases ho' : oH (((lst o).take j).map (hitQ q)) with
        | none => rw [ho'] at g6; simp only [Pl] at g6; cases g6
        | some xs => rw [ho'] at g6; obtain ⟨i, e, -, e2, -⟩ := g6; simp only [V.ref.injEq] at e; omega
      have t0 : σ2 0 = some (.row 2 [.agg [slV 1 i32V q, .int .i64 (k : Int)]]) := by
        rw [a2 0 (by omega) hv0, upd_ne (by omega)]; exact s0
      simp +contextual -implicitDefEqProofs (maxSteps := 2000000) only [↓wP, wQ, wQ1, wQ2, wQ3, wR, boxE, partsOf, ↓reduceIte, Nat.reduceEqDiff, Nat.reduceAdd, Nat.reduceSub, Nat.reduceLeDiff, Nat.reduceLT, Nat.reduceMul, reduceCtorEq, Int.reduceBNe, Int.reduceBEq, Int.reduceLT, Int.reduceLE, Int.reduceGT, h1, h2, g1, g2, hc, hsp]
      refine ⟨t0, _, rfl, ?_⟩
      rw [ht, List.map_append, List.map_cons, List.map_nil, ← hid]
      have e2 : oH (((lst o).take j).map (hitQ q) ++ [⟨x.id, distI x.v q⟩]) = some (hs (((lst o).take j).map (hitQ q)) ++ [.agg [.int .u64 x.id, .int .u64 (distI x.v q)]]) := by
        simp [oH, hs, hitV]
      rw [e2]
      exact a1
  · intro env σ n ⟨g1, g2, g3, g4, v, g5, g6⟩ h1 h2
    rw [List.take_length] at g6
    have hf := plHf g6
    have hll : ((lst o).map (hitQ q)).length ≤ 300 := by rw [List.length_map]; exact hl
    have r := r68 (optH ((lst o).map (hitQ q))) k (by rw [lst_optH]; omega) (by omega)
    rw [lst_optH] at r
    have e : [v, V.int .i64 (k : Int)].mapM (frz σ 12) = some [slV 2 hitV (optH ((lst o).map (hitQ q))), .int .i64 (k : Int)] := by simp only [List.mapM_cons, List.mapM_nil, hf]; rfl
    obtain ⟨σ', f68⟩ := callE_sh (by decide) e r (fun σ n => by rw [thaw_slV]) n
    simp +contextual -implicitDefEqProofs (maxSteps := 2000000) only [↓wP, wQ, wQ1, wQ2, wQ3, wR, boxE, partsOf, ↓reduceIte, Nat.reduceEqDiff, Nat.reduceAdd, Nat.reduceSub, Nat.reduceLeDiff, Nat.reduceLT, Nat.reduceMul, reduceCtorEq, Int.reduceBNe, Int.reduceBEq, Int.reduceLT, Int.reduceLE, Int.reduceGT, g1, g4, g5, f68]
  · simp +contextual -implicitDefEqProofs (maxSteps := 2000000) only [↓wP, wQ, wQ1, wQ2, wQ3, wR, boxE, partsOf, ↓reduceIte, Nat.reduceEqDiff, Nat.reduceAdd, Nat.reduceSub, Nat.reduceLeDiff, Nat.reduceLT, Nat.reduceMul, reduceCtorEq, Int.reduceBNe, Int.reduceBEq, Int.reduceLT, Int.reduceLE, Int.reduceGT]
    simp [oH, Pl]
def exR (b lk : Nat) (M : (Nat → V) → Sto → Nat → Prop) (R : Ex → St → Prop) : Ex → St → Prop
  | .exit i, s => i = b ∧ s.lk = lk ∧ M s.env s.σ s.n
  | .ret, s => R .ret s
  | _, _ => False
theorem exR_ret (b lk : Nat) (M : (Nat → V) → Sto → Nat → Prop) (R : Ex → St → Prop) (s : St) : exR b lk M R .ret s = R .ret s := rfl
theorem WC_cutR {T : Tab} {c : AC} {env : Nat → V} {σ : Sto} {n lk b : Nat} {R : Ex → St → Prop} (M : (Nat → V) → Sto → Nat → Prop) (h : WC T c env σ n lk (exR b lk M R)) (hM : ∀ env σ n, M env σ n → R .normal ⟨env, σ, n, lk⟩) :
    WC T c env σ n lk (blockW b R) := by
  refine WC_mono c env σ n lk _ _ (fun e s hh => ?_) h
  cases e with
  | exit i =>
    obtain ⟨env', σ', n', lk'⟩ := s
    obtain ⟨rfl, h2, h3⟩ := hh
    simp only at h2
    subst h2
    simp only [blockW, if_true]
    exact hM _ _ _ h3
  | ret => exact hh
  | normal => exact hh.elim
def refR (o : List Rw) (c : Option (List Vc)) (q : Vc) (k m : Int) : Option (List Hit) := if pE o c q k m = 0 then refF k.toNat ((selN q (lst c) m o).map (hitQ q)) else none
theorem lst_refR (o : List Rw) (c : Option (List Vc)) (q : Vc) (k m : Int) : lst (refR o c q k m) = pL o c q k m := by
  unfold refR pL
  split
  · rw [lst_refF]
  · rfl
theorem r17 (o : Option (List Rw)) (c : Option (List Vc)) (q : Vc) (k ts m : Int) (hl : (lst o).length ≤ 300) (hv : ∀ r ∈ lst o, Sm r.v) (hcl : (lst c).length ≤ 7) (hcv : ∀ v ∈ lst c, Sm v) (hq : Sm q) : res T 17 [slV 2 rwV o, slV 1 vecV c, .agg [slV 1 i32V q, .int .i64 k, .int .u64 ts, .int .i64 m]] = some (.tup [slV 2 hitV (refR (lst o) c q k m), .int .i64 (pE (lst o) c q k m)]) := by
  refine run_res (run_pure (fn := g17) rfl rfl (by decide) ?_)
  simp only [g17, b17, oO, oN, mV, lD, gO, pP, qQ, cI, aR]
  have f1 := f13 q k ts m hq
  have f2 := f28 c q (by omega) hcv
  by_cases hc : chkE q k m = 0
  · obtain ⟨hqe, oq, hk1, hk2, hm1⟩ := chk0 hc
    rw [hc] at f1
    by_cases ht : trE c = 0
    · have hne : lst c ≠ [] := by intro h; unfold trE at ht; rw [if_pos h] at ht; cases ht
      have hce : cents c = true := by
        unfold trE at ht; rw [if_neg hne] at ht
        cases h : cents c
        · rw [h] at ht; cases ht
        · rfl
      obtain ⟨E, hE⟩ : ∃ E, E = cnE c q := ⟨_, rfl⟩
      have hE2 : E = if dm c = (lst q).length then 0 else 151 := by rw [hE]; unfold cnE; rw [if_neg (by omega)]
      have hE3 : (E == 240) = false := by rw [hE2]; split <;> rfl
      have hE4 : (E == 230) = false := by rw [hE2]; split <;> rfl
      rw [← hE] at f2
      obtain ⟨X, hX⟩ : ∃ X, X = Ob.row 4 [V.agg [slV 1 i32V q, V.int IntKind.i64 k, V.int IntKind.u64 ts, V.int IntKind.i64 m]] := ⟨_, rfl⟩
      have tX : upd Sto.empty 0 (some X) 0 = some X := upd_self _ _ _
      simp +contextual -implicitDefEqProofs (maxSteps := 2000000) only [↓wP, wQ, wQ1, wQ2, wQ3, wR, boxE, partsOf, ↓reduceIte, Nat.reduceEqDiff, Nat.reduceAdd, Nat.reduceSub, Nat.reduceLeDiff, Nat.reduceLT, Nat.reduceMul, reduceCtorEq, Int.reduceBNe, Int.reduceBEq, Int.reduceLT, Int.reduceLE, Int.reduceGT, f1, f2, hE3, hE4]
      rw [← hX]
      refine WC_cutR (fun env σ n => env 0 = slV 2 rwV o ∧ env 1 = slV 1 vecV c ∧ env 5 = .ptr 0 4 0 0 ∧ env 9 = .int .i64 E ∧ 1 ≤ n ∧ σ 0 = some X ∧ (lst o).any (fun r => !okV r.v) = false) ?_ ?_
      · refine WC_for (lst o).length 0 (fun (j : Nat) env σ n => env 0 = slV 2 rwV o ∧ env 1 = slV 1 vecV c ∧ env 5 = .ptr 0 4 0 0 ∧ env 9 = .int .i64 E ∧ env 35 = slV 2 rwV o ∧ 1 ≤ n ∧ σ 0 = some X ∧ ((lst o).take j).any (fun r => !okV r.v) = false) (by omega) (by decide) (by decide) (fun _ _ => rfl) (fun _ _ _ => rfl) ?_ ?_ _ _ _ rfl rfl ?_
        · intro j env σ n hj g1 g2 ⟨k1, k2, k3, k4, k5, k6, k7, k8⟩
          simp only [vl_tmp] at g2
          have hx : (lst o)[j]? = some (lst o)[j] := List.getElem?_eq_getElem hj
          have hm := List.getElem_mem hj
          have htk : (lst o).take (j + 1) = (lst o).take j ++ [(lst o)[j]] := (List.take_append_getElem hj).symm
          have f := f36 _ (hv _ hm)
          generalize (lst o)[j] = x at *
          have q0 : (0 = n) = False := by simp; omega
          cases ho : okV x.v
          · rw [ho] at f
            have hany : (lst o).any (fun r => !okV r.v) = true := List.any_eq_true.2 ⟨x, hm, by simp [ho]⟩
            have e1 : pE (lst o) c q k m = 170 := by unfold pE; simp [hc, ht, hany]
            have e2 : refR (lst o) c q k m = none := by unfold refR; rw [e1]; rfl
            rw [e1, e2]
            simp +contextual -implicitDefEqProofs (maxSteps := 2000000) only [↓wP, wQ, wQ1, wQ2, wQ3, wR, boxE, partsOf, ↓reduceIte, Nat.reduceEqDiff, Nat.reduceAdd, Nat.reduceSub, Nat.reduceLeDiff, Nat.reduceLT, Nat.reduceMul, reduceCtorEq, Int.reduceBNe, Int.reduceBEq, Int.reduceLT, Int.reduceLE, Int.reduceGT, g1, g2, k1, k2, k3, k4, k5, hx, rwV_eq, f, exR_ret]
            rfl
          · rw [ho] at f
            simp +contextual -implicitDefEqProofs (maxSteps := 2000000) only [↓wP, wQ, wQ1, wQ2, wQ3, wR, boxE, partsOf, ↓reduceIte, Nat.reduceEqDiff, Nat.reduceAdd, Nat.reduceSub, Nat.reduceLeDiff, Nat.reduceLT, Nat.reduceMul, reduceCtorEq, Int.reduceBNe, Int.reduceBEq, Int.reduceLT, Int.reduceLE, Int.reduceGT, g1, g2, k1, k2, k3, k4, k5, hx, rwV_eq, f, q0]
            refine ⟨k7, ?_⟩
            rw [htk, List.any_append, k8]
            simp [ho]
        · intro env σ n ⟨k1, k2, k3, k4, k5, k6, k7, k8⟩ g1 g2
          rw [List.take_length] at k8
          exact ⟨rfl, rfl, k1, k2, k3, k4, k6, k7, k8⟩
        · simp +contextual -implicitDefEqProofs (maxSteps := 2000000) only [↓wP, wQ, wQ1, wQ2, wQ3, wR, boxE, partsOf, ↓reduceIte, Nat.reduceEqDiff, Nat.reduceAdd, Nat.reduceSub, Nat.reduceLeDiff, Nat.reduceLT, Nat.reduceMul, reduceCtorEq, Int.reduceBNe, Int.reduceBEq, Int.reduceLT, Int.reduceLE, Int.reduceGT]
          exact rfl
      · intro env σ n ⟨k1, k2, k3, k4, k6, k7, hr⟩
        by_cases hx : dm c = (lst q).length
        · rw [if_pos hx] at hE2
          subst hE2
          have k7' := k7
          rw [hX] at k7'
          simp +contextual -implicitDefEqProofs (maxSteps := 2000000) only [↓wP, wQ, wQ1, wQ2, wQ3, wR, boxE, partsOf, ↓reduceIte, Nat.reduceEqDiff, Nat.reduceAdd, Nat.reduceSub, Nat.reduceLeDiff, Nat.reduceLT, Nat.reduceMul, reduceCtorEq, Int.reduceBNe, Int.reduceBEq, Int.reduceLT, Int.reduceLE, Int.reduceGT, k1, k4]
          refine WC_cutR (fun env σ n => env 0 = slV 2 rwV o ∧ env 1 = slV 1 vecV c ∧ env 5 = .ptr 0 4 0 0 ∧ 1 ≤ n ∧ σ 0 = some X ∧ (lst o).any (fun r => ((lst r.v).length : Int) != ((lst q).length : Int)) = false) ?_ ?_
          · refine WC_for (lst o).length 0 (fun (j : Nat) env σ n => env 0 = slV 2 rwV o ∧ env 1 = slV 1 vecV c ∧ env 5 = .ptr 0 4 0 0 ∧ env 49 = slV 2 rwV o ∧ 1 ≤ n ∧ σ 0 = some X ∧ ((lst o).take j).any (fun r => ((lst r.v).length : Int) != ((lst q).length : Int)) = false) (by omega) (by decide) (by decide) (fun _ _ => rfl) (fun _ _ _ => rfl) ?_ ?_ _ _ _ rfl rfl ?_
            · clear k1 k2 k3 k4 k6 k7 k7'
              intro j env σ n hj g1 g2 ⟨k1, k2, k3, k5, k6, k7, k8⟩
              simp only [vl_tmp] at g2
              have hxo : (lst o)[j]? = some (lst o)[j] := List.getElem?_eq_getElem hj
              have hm := List.getElem_mem hj
              have htk : (lst o).take (j + 1) = (lst o).take j ++ [(lst o)[j]] := (List.take_append_getElem hj).symm
              generalize (lst o)[j] = x at *
              have q0 : (0 = n) = False := by simp; omega
              have k7' := k7
              rw [hX] at k7'
              cases hd : (((lst x.v).length : Int) != ((lst q).length : Int))
              · simp +contextual -implicitDefEqProofs (maxSteps := 2000000) only [↓wP, wQ, wQ1, wQ2, wQ3, wR, boxE, partsOf, ↓reduceIte, Nat.reduceEqDiff, Nat.reduceAdd, Nat.reduceSub, Nat.reduceLeDiff, Nat.reduceLT, Nat.reduceMul, reduceCtorEq, Int.reduceBNe, Int.reduceBEq, Int.reduceLT, Int.reduceLE, Int.reduceGT, g1, g2, k1, k2, k3, k5, hxo, rwV_eq, q0, k7', hd, exR_ret]
                refine ⟨by rw [hX], ?_⟩
                rw [htk, List.any_append, k8]
                simp only [List.any_cons, List.any_nil, hd, Bool.or_false]
              · have hany : (lst o).any (fun r => ((lst r.v).length : Int) != ((lst q).length : Int)) = true := List.any_eq_true.2 ⟨x, hm, hd⟩
                have e1 : pE (lst o) c q k m = 151 := by unfold pE; simp [hc, ht, hr, hany]
                have e2 : refR (lst o) c q k m = none := by unfold refR; rw [e1]; rfl
                rw [e1, e2]
                simp +contextual -implicitDefEqProofs (maxSteps := 2000000) only [↓wP, wQ, wQ1, wQ2, wQ3, wR, boxE, partsOf, ↓reduceIte, Nat.reduceEqDiff, Nat.reduceAdd, Nat.reduceSub, Nat.reduceLeDiff, Nat.reduceLT, Nat.reduceMul, reduceCtorEq, Int.reduceBNe, Int.reduceBEq, Int.reduceLT, Int.reduceLE, Int.reduceGT, g1, g2, k1, k2, k3, k5, hxo, rwV_eq, q0, k7', hd, exR_ret]
                rfl
            · intro env σ n ⟨k1, k2, k3, k5, k6, k7, k8⟩ g1 g2
              rw [List.take_length] at k8
              exact ⟨rfl, rfl, k1, k2, k3, k6, k7, k8⟩
            · simp +contextual -implicitDefEqProofs (maxSteps := 2000000) only [↓wP, wQ, wQ1, wQ2, wQ3, wR, boxE, partsOf, ↓reduceIte, Nat.reduceEqDiff, Nat.reduceAdd, Nat.reduceSub, Nat.reduceLeDiff, Nat.reduceLT, Nat.reduceMul, reduceCtorEq, Int.reduceBNe, Int.reduceBEq, Int.reduceLT, Int.reduceLE, Int.reduceGT, k1, k2, k3]
              exact ⟨k6, k7, rfl⟩
          · clear k1 k2 k3 k4 k6 k7 k7'
            intro env σ n ⟨k1, k2, k3, k6, k7, hsd⟩
            have e1 : pE (lst o) c q k m = 0 := by unfold pE; simp [hc, ht, hr, hx, hsd]
            have k7' := k7
            rw [hX] at k7'
            have c29 := f29 c q m hcl (nr_two hce oq hx) hm1
            obtain ⟨kn, hkn⟩ : ∃ kn : Nat, k = (kn : Int) := ⟨k.toNat, by omega⟩
            obtain ⟨ids, hids⟩ : ∃ ids, ids = near q (lst c) m := ⟨_, rfl⟩
            have hnl : ids.length ≤ 7 := by rw [hids, near_len _ _ _ (by omega)]; omega
            rw [← hids] at c29
            have e2 : refR (lst o) c q k m = refF kn ((selN q (lst c) m (lst o)).map (hitQ q)) := by unfold refR; rw [if_pos e1, hkn]; rfl
            rw [e1, e2]
            simp +contextual -implicitDefEqProofs (maxSteps := 2000000) only [↓wP, wQ, wQ1, wQ2, wQ3, wR, boxE, partsOf, ↓reduceIte, Nat.reduceEqDiff, Nat.reduceAdd, Nat.reduceSub, Nat.reduceLeDiff, Nat.reduceLT, Nat.reduceMul, reduceCtorEq, Int.reduceBNe, Int.reduceBEq, Int.reduceLT, Int.reduceLE, Int.reduceGT, k1, k2, k3, k7', c29]
            refine WC_for (lst o).length 0 (fun (j : Nat) env σ n => env 1 = slV 1 vecV c ∧ env 5 = .ptr 0 4 0 0 ∧ env 14 = slV 1 iV (oL ids) ∧ env 71 = slV 2 rwV o ∧ 1 ≤ n ∧ σ 0 = some X ∧
              ∃ v, env 15 = v ∧ Pl σ 1 n 2 v (oL ((selN q (lst c) m ((lst o).take j)).map rwV))) (by omega) (by decide) (by decide) (fun _ _ => rfl) (fun _ _ _ => rfl) ?_ ?_ _ _ _ rfl rfl ?_
            · clear k1 k2 k3 k6 k7 k7'
              intro j env σ n hj g1 g2 ⟨k1, k2, k3, k4, k5, k6, v, k9, k10⟩
              simp only [vl_tmp] at g2
              have hxo : (lst o)[j]? = some (lst o)[j] := List.getElem?_eq_getElem hj
              have hmo := List.getElem_mem hj
              have htk : (lst o).take (j + 1) = (lst o).take j ++ [(lst o)[j]] := (List.take_append_getElem hj).symm
              have hsn := selN_snoc q (lst c) m ((lst o).take j) (lst o)[j]
              rw [← htk] at hsn
              have hvx := hv _ hmo
              have hok : okV (lst o)[j].v = true := by
                have := List.any_eq_false.1 hr _ hmo
                simpa using this
              have hdx : (lst (lst o)[j].v).length = (lst q).length := by
                have := List.any_eq_false.1 hsd _ hmo
                simp at this; omega
              generalize (lst o)[j] = x at *
              have f45' := f45 c x.v hcl hne (nr_two hce hok (by omega))
              obtain ⟨p, hp⟩ : ∃ p, p = ((nb x.v (lst c) (lst c).length : Nat) : Int) := ⟨_, rfl⟩
              rw [← hp] at f45' hsn
              have c31 := f31 (oL ids) p (by rw [lst_oL]; omega)
              rw [lst_oL] at c31
              have hc' := k10.cells
              have hsp := spl k10
              obtain ⟨σ1, hσ1⟩ : ∃ σ1, σ1 = upd (upd σ n (some (.row 2 [.agg [.int .u64 0, .nilS]]))) n (some (.row 2 [.agg [.int .u64 x.id, slV 1 i32V x.v]])) := ⟨_, rfl⟩
              have so : ∀ i, i < n → σ1 i = σ i := fun i hi => by rw [hσ1, upd_ne (by omega), upd_ne (by omega)]
              have sn : σ1 n = some (.row 2 [.agg [.int .u64 x.id, slV 1 i32V x.v]]) := by rw [hσ1, upd_self]
              rw [← hids] at hsn
              by_cases hmem : p ∈ ids
              · rw [if_pos hmem] at hsn
                rw [decide_eq_true hmem] at c31
                have hll : ((selN q (lst c) m ((lst o).take j)).map rwV).length ≤ j := by
                  have := selN_len q (lst c) m ((lst o).take j)
                  rw [List.length_take] at this
                  rw [List.length_map]; omega
                simp +contextual -implicitDefEqProofs (maxSteps := 2000000) only [↓wP, wQ, wQ1, wQ2, wQ3, wR, boxE, partsOf, ↓reduceIte, Nat.reduceEqDiff, Nat.reduceAdd, Nat.reduceSub, Nat.reduceLeDiff, Nat.reduceLT, Nat.reduceMul, reduceCtorEq, Int.reduceBNe, Int.reduceBEq, Int.reduceLT, Int.reduceLE, Int.reduceGT, g1, g2, k1, k2, k3, k4, k9, hxo, rwV_eq, ← hσ1, sn, f45', c31]
                refine stepW_app1 (m := 1) (n0 := n) (σ0 := σ) k10 (fun i a1 a2 => ?_) (by omega) (by omega) (Nat.zero_le _) ?_ (fun _ σ2 a1 a2 => ?_)
                · rw [upd_ne (by omega), so i a2]
                · rw [lst_oL]; unfold LIM; omega
                · rw [lst_oL] at a1 ⊢
                  have hv5 : ∀ off len s, v ≠ .ref 0 off len s := by
                    intro off len s e
                    subst e
                    cases ho' : oL ((selN q (lst c) m ((lst o).take j)).map rwV) with
                    | none => rw [ho'] at k10; simp only [Pl] at k10; cases k10
                    | some xs => rw [ho'] at k10; obtain ⟨j, e, -, e2, -⟩ := k10; simp only [V.ref.injEq] at e; omega
                  have t0 : σ2 0 = some X := by
                    rw [a2 0 (by omega) hv5, upd_ne (by omega), so 0 (by omega)]; exact k6
                  simp +contextual -implicitDefEqProofs (maxSteps := 2000000) only [↓wP, wQ, wQ1, wQ2, wQ3, wR, boxE, partsOf, ↓reduceIte, Nat.reduceEqDiff, Nat.reduceAdd, Nat.reduceSub, Nat.reduceLeDiff, Nat.reduceLT, Nat.reduceMul, reduceCtorEq, Int.reduceBNe, Int.reduceBEq, Int.reduceLT, Int.reduceLE, Int.reduceGT, g1, g2, k1, k2, k3, k4, hc', hsp]
                  refine ⟨t0, _, rfl, ?_⟩
                  rw [hsn, List.map_append]
                  have e2 : oL ((selN q (lst c) m ((lst o).take j)).map rwV ++ [x].map rwV) = some ((selN q (lst c) m ((lst o).take j)).map rwV ++ [.agg [.int .u64 x.id, slV 1 i32V x.v]]) := by
                    cases selN q (lst c) m ((lst o).take j) <;> rfl
                  rw [e2]
                  exact a1
              · rw [if_neg hmem, List.append_nil] at hsn
                rw [decide_eq_false hmem] at c31
                simp +contextual -implicitDefEqProofs (maxSteps := 2000000) only [↓wP, wQ, wQ1, wQ2, wQ3, wR, boxE, partsOf, ↓reduceIte, Nat.reduceEqDiff, Nat.reduceAdd, Nat.reduceSub, Nat.reduceLeDiff, Nat.reduceLT, Nat.reduceMul, reduceCtorEq, Int.reduceBNe, Int.reduceBEq, Int.reduceLT, Int.reduceLE, Int.reduceGT, g1, g2, k1, k2, k3, k4, k9, hxo, rwV_eq, ← hσ1, sn, f45', c31]
                rw [hsn]
                exact ⟨by rw [so 0 (by omega)]; exact k6, _, rfl, k10.loc (fun i a b => so i b) (by omega)⟩
            · clear k1 k2 k3 k6 k7 k7'
              intro env σ n ⟨k1, k2, k3, k4, k5, k6, v, k9, k10⟩ g1 g2
              rw [List.take_length] at k10
              obtain ⟨SL, hSL⟩ : ∃ SL, SL = selN q (lst c) m (lst o) := ⟨_, rfl⟩
              rw [← hSL] at k10 ⊢
              have hSl : SL.length ≤ 300 := by rw [hSL]; have := selN_len q (lst c) m (lst o); omega
              have hSm : ∀ r ∈ SL, r ∈ lst o := fun r hr => by rw [hSL] at hr; exact (List.mem_filter.1 hr).1
              have r33' := r33 (oL SL) q kn (by rw [lst_oL]; exact hSl) (by omega) (fun r hr' => by
                rw [lst_oL] at hr'
                have h1 := List.any_eq_false.1 hr _ (hSm r hr')
                have h2 := List.any_eq_false.1 hsd _ (hSm r hr')
                simp at h1 h2
                exact ⟨h1, oq, by omega⟩) hq
              rw [lst_oL] at r33'
              have hf := k10.frz (fun x hx => by rw [lst_oL] at hx; obtain ⟨y, -, rfl⟩ := List.mem_map.1 hx; simp [rwV_eq, Tr, Tr_slV]) (fun x hx c hc => by
                  rw [lst_oL] at hx; obtain ⟨y, -, rfl⟩ := List.mem_map.1 hx
                  simp only [rwV_eq, V.cells, List.mem_cons, List.not_mem_nil, or_false] at hc
                  rcases hc with rfl | rfl
                  · rfl
                  · exact Tr_slV _ _ _ _)
              rw [slV_oL] at hf
              have hlen : lenE v = some (.int .i64 (SL.length : Int)) := by
                cases hsl : SL with
                | nil => rw [hsl] at k10; simp only [List.map_nil, oL, Pl] at k10; subst k10; rfl
                | cons a b => 
                  rw [hsl] at k10; simp only [List.map_cons, oL, Pl] at k10; obtain ⟨i, rfl, -⟩ := k10
                  simp [lenE, lenOf]
              have hn2 : ¬ ((2000 : Int) < (SL.length : Int)) := by omega
              have e : [v, V.agg [slV 1 i32V q, .int .i64 (kn : Int)]].mapM (frz σ 12) = some [slV 2 rwV (oL SL), .agg [slV 1 i32V q, .int .i64 (kn : Int)]] := by
                have x1 : frz σ 12 (.agg [slV 1 i32V q, .int .i64 (kn : Int)]) = some (.agg [slV 1 i32V q, .int .i64 (kn : Int)]) := (frz_tr σ 12 _ (by simp [Tr, Tr_slV])).1
                simp only [List.mapM_cons, List.mapM_nil, hf, x1]; rfl
              obtain ⟨σ', f33⟩ := callE_sh (by decide) e r33' (fun σ n => by simp [thaw, thawL, thaw_slV]) n
              rw [hX, hkn] at k6
              simp +contextual -implicitDefEqProofs (maxSteps := 2000000) only [↓wP, wQ, wQ1, wQ2, wQ3, wR, boxE, partsOf, ↓reduceIte, Nat.reduceEqDiff, Nat.reduceAdd, Nat.reduceSub, Nat.reduceLeDiff, Nat.reduceLT, Nat.reduceMul, reduceCtorEq, Int.reduceBNe, Int.reduceBEq, Int.reduceLT, Int.reduceLE, Int.reduceGT, k2, k6, k9, hlen, hn2, f33]
            · simp +contextual -implicitDefEqProofs (maxSteps := 2000000) only [↓wP, wQ, wQ1, wQ2, wQ3, wR, boxE, partsOf, ↓reduceIte, Nat.reduceEqDiff, Nat.reduceAdd, Nat.reduceSub, Nat.reduceLeDiff, Nat.reduceLT, Nat.reduceMul, reduceCtorEq, Int.reduceBNe, Int.reduceBEq, Int.reduceLT, Int.reduceLE, Int.reduceGT, k2, k3]
              exact ⟨k6, k7, by simp [selN, oL, Pl]⟩
        · rw [if_neg hx] at hE2
          subst hE2
          have e1 : pE (lst o) c q k m = 151 := by unfold pE; simp [hc, ht, hr, hx]
          have e2 : refR (lst o) c q k m = none := by unfold refR; rw [e1]; rfl
          rw [e1, e2]
          simp +contextual -implicitDefEqProofs (maxSteps := 2000000) only [↓wP, wQ, wQ1, wQ2, wQ3, wR, boxE, partsOf, ↓reduceIte, Nat.reduceEqDiff, Nat.reduceAdd, Nat.reduceSub, Nat.reduceLeDiff, Nat.reduceLT, Nat.reduceMul, reduceCtorEq, Int.reduceBNe, Int.reduceBEq, Int.reduceLT, Int.reduceLE, Int.reduceGT, k1, k4]
          rfl
    · have hE : cnE c q = trE c := by unfold cnE; rw [if_pos ht]
      have e1 : pE (lst o) c q k m = trE c := by unfold pE; simp [hc, ht]
      have e2 : refR (lst o) c q k m = none := by unfold refR; rw [e1, if_neg ht]
      rw [e1, e2]
      rw [hE] at f2
      have h3 : trE c = 240 ∨ trE c = 230 := by
        unfold trE at ht ⊢
        split
        · exact .inl rfl
        · rename_i h0; rw [if_neg h0] at ht; split
          · rename_i h1; rw [if_pos h1] at ht; exact absurd rfl ht
          · exact .inr rfl
      rcases h3 with h3 | h3 <;> rw [h3] at f2 ⊢
      all_goals simp +contextual -implicitDefEqProofs (maxSteps := 2000000) only [↓wP, wQ, wQ1, wQ2, wQ3, wR, boxE, partsOf, ↓reduceIte, Nat.reduceEqDiff, Nat.reduceAdd, Nat.reduceSub, Nat.reduceLeDiff, Nat.reduceLT, Nat.reduceMul, reduceCtorEq, Int.reduceBNe, Int.reduceBEq, Int.reduceLT, Int.reduceLE, Int.reduceGT, f1, f2]
      all_goals rfl
  · have hc' : (chkE q k m != 0) = true := by simpa using hc
    have e1 : pE (lst o) c q k m = chkE q k m := by unfold pE; simp [hc]
    have e2 : refR (lst o) c q k m = none := by unfold refR; rw [e1, if_neg hc]
    rw [e1, e2]
    simp +contextual -implicitDefEqProofs (maxSteps := 2000000) only [↓wP, wQ, wQ1, wQ2, wQ3, wR, boxE, partsOf, ↓reduceIte, Nat.reduceEqDiff, Nat.reduceAdd, Nat.reduceSub, Nat.reduceLeDiff, Nat.reduceLT, Nat.reduceMul, reduceCtorEq, Int.reduceBNe, Int.reduceBEq, Int.reduceLT, Int.reduceLE, Int.reduceGT, f1, hc']
    rfl
end Go.Q.SZ
end

section
/- ProbeRows. -/
set_option linter.unusedSimpArgs false
set_option linter.unusedVariables false
namespace Go.Q.SZ
open Go.Q Go.Sort
theorem hVal_Hf {σ : Sto} {n : Nat} {l : List Hit} (h : l ≠ [] → σ n = some (.row 2 (hs l))) : Hf σ (hVal n l) l := ⟨optH l, lst_optH l, hVal_frz h 9⟩
theorem hSto_row {σ : Sto} {n : Nat} {l : List Hit} (h : l ≠ []) : hSto σ n l n = some (.row 2 (hs l)) := by unfold hSto; rw [if_neg h, upd_self]
theorem f16 (o : Option (List Rw)) (c : Option (List Vc)) (q : Vc) (k ts m : Int) (hl : (lst o).length ≤ 300) (hv : ∀ r ∈ lst o, Sm r.v) (hcl : (lst c).length ≤ 7) (hcv : ∀ v ∈ lst c, Sm v) (hq : Sm q) (fs : Bool) (σ : Sto) (n lk : Nat) :
    callE T fs 16 [slV 2 rwV o, slV 1 vecV c, .agg [slV 1 i32V q, .int .i64 k, .int .u64 ts, .int .i64 m]] σ n lk = some (.tup [hVal n (pL (lst o) c q k m), .int .i64 (pE (lst o) c q k m)], hSto σ n (pL (lst o) c q k m), hN n (pL (lst o) c q k m)) := by
  have e : [slV 2 rwV o, slV 1 vecV c, V.agg [slV 1 i32V q, .int .i64 k, .int .u64 ts, .int .i64 m]].mapM (frz σ 12) = some [slV 2 rwV o, slV 1 vecV c, .agg [slV 1 i32V q, .int .i64 k, .int .u64 ts, .int .i64 m]] := by
    have x1 : frz σ 12 (.agg [slV 1 i32V q, .int .i64 k, .int .u64 ts, .int .i64 m]) = some (.agg [slV 1 i32V q, .int .i64 k, .int .u64 ts, .int .i64 m]) := (frz_tr σ 12 _ (by simp [Tr, Tr_slV])).1
    simp only [List.mapM_cons, List.mapM_nil, frz_slV, x1]; rfl
  rw [callE_flat (by decide) e (r16 o c q k ts m hl hv hcl hcv hq) (flat_tup2 (flat_ownH _) rfl), thaw_hTup]
theorem Nw_tup2 {k : Nat} {a b : V} (h : Nw k a = true) (h' : Nw k b = true) : Nw (k + 1) (.tup [a, b]) = true := by simp [Nw, h, h']
theorem f17 (o : Option (List Rw)) (c : Option (List Vc)) (q : Vc) (k ts m : Int) (hl : (lst o).length ≤ 300) (hv : ∀ r ∈ lst o, Sm r.v) (hcl : (lst c).length ≤ 7) (hcv : ∀ v ∈ lst c, Sm v) (hq : Sm q) (fs : Bool) (σ : Sto) (n lk : Nat) :
    callE T fs 17 [slV 2 rwV o, slV 1 vecV c, .agg [slV 1 i32V q, .int .i64 k, .int .u64 ts, .int .i64 m]] σ n lk = some (.tup [slV 2 hitV (refR (lst o) c q k m), .int .i64 (pE (lst o) c q k m)], σ, n) :=
  callE_tr (by decide) (r17 o c q k ts m hl hv hcl hcv hq) (by simp [Tr, Tr_slV]) (Nw_tup2 (Nw_slV 2 hitV _ 10) rfl) fs σ n lk
structure Pb where
  q : Vc
  k : Int
  t : Int
  n : Int
def pbV (p : Pb) : V := .agg [slV 1 i32V p.q, .int .i64 p.k, .int .u64 p.t, .int .i64 p.n]
theorem pbV_eq (p : Pb) : pbV p = .agg [slV 1 i32V p.q, .int .i64 p.k, .int .u64 p.t, .int .i64 p.n] := rfl
theorem r4 (x : Option (List Rw)) (y : Option (List Vc)) (ps : Option (List Pb)) (hx : (lst x).length < 4611686018427387904) (hy : (lst y).length < 4611686018427387904) (hps : (lst ps).length < 4611686018427387904) (hxv : ∀ r ∈ lst x, Sm r.v) (hyv : ∀ v ∈ lst y, Sm v) (hpv : ∀ p ∈ lst ps, Sm p.q) :
    res T 4 [slV 2 rwV x, slV 1 vecV y, slV 4 pbV ps] = some (.bool true) := by
  refine run_res (run_pure (fn := g4) rfl rfl (by decide) ?_)
  simp only [g4, b4, oO, oN, mV, lD, gO, pP, qQ, cI, aR]
  have c14 := f14 x hx hxv
  have c15 := f15 y hy hyv
  obtain ⟨l, hl⟩ : ∃ l, l = cutL x := ⟨_, rfl⟩
  obtain ⟨c, hc⟩ : ∃ c, c = cutV y := ⟨_, rfl⟩
  have hll : (lst l).length ≤ 60 := by rw [hl]; exact cutL_len x
  have hlv : ∀ r ∈ lst l, Sm r.v := by rw [hl]; exact cutL_sm x
  have hcl : (lst c).length ≤ 7 := by rw [hc]; exact cutV_len y
  have hcv : ∀ v ∈ lst c, Sm v := by rw [hc]; exact cutV_sm y
  rw [← hl] at c14
  rw [← hc] at c15
  clear hl hc
  have hB := big_le
  simp +contextual -implicitDefEqProofs (maxSteps := 2000000) only [↓wP, wQ, wQ1, wQ2, wQ3, wR, boxE, partsOf, ↓reduceIte, Nat.reduceEqDiff, Nat.reduceAdd, Nat.reduceSub, Nat.reduceLeDiff, Nat.reduceLT, Nat.reduceMul, reduceCtorEq, Int.reduceBNe, Int.reduceBEq, Int.reduceLT, Int.reduceLE, Int.reduceGT, f5, c14, c15]
  refine WC_for (lst ps).length 0 (fun (j : Nat) env σ n => env 0 = slV 2 rwV x ∧ env 1 = slV 1 vecV y ∧ env 7 = slV 2 rwV l ∧ env 8 = slV 1 vecV c ∧ env 21 = slV 4 pbV ps) (by omega) (by decide) (by decide) (fun _ _ => rfl) (fun _ _ _ => rfl) ?_ ?_ _ _ _ rfl rfl ?_
  · intro j env σ n hj h1 h2 ⟨g1, g2, g3, g4, g5⟩
    simp only [vl_tmp] at h2
    have hxj : (lst ps)[j]? = some (lst ps)[j] := List.getElem?_eq_getElem hj
    have hm := hpv _ (List.getElem_mem hj)
    generalize (lst ps)[j] = p at *
    obtain ⟨σ1, hσ1⟩ : ∃ σ1, σ1 = upd (upd σ n (some (.row 4 [.agg [.nilS, .int .i64 0, .int .u64 0, .int .i64 0]]))) n (some (.row 4 [.agg [slV 1 i32V p.q, .int .i64 p.k, .int .u64 p.t, .int .i64 p.n]])) := ⟨_, rfl⟩
    have sn : σ1 n = some (.row 4 [.agg [slV 1 i32V p.q, .int .i64 p.k, .int .u64 p.t, .int .i64 p.n]]) := by rw [hσ1, upd_self]
    by_cases h8 : (j : Int) = 8
    · have h8' : ((j : Int) == 8) = true := by simpa using h8
      simp +contextual -implicitDefEqProofs (maxSteps := 2000000) only [↓wP, wQ, wQ1, wQ2, wQ3, wR, boxE, partsOf, ↓reduceIte, Nat.reduceEqDiff, Nat.reduceAdd, Nat.reduceSub, Nat.reduceLeDiff, Nat.reduceLT, Nat.reduceMul, reduceCtorEq, Int.reduceBNe, Int.reduceBEq, Int.reduceLT, Int.reduceLE, Int.reduceGT, h1, h2, g1, g2, g3, g4, g5, hxj, pbV_eq, h8']
    · have h8' : ((j : Int) == 8) = false := by simpa using h8
      have c8 := f8 p.q p.k p.t p.n hm
      obtain ⟨q, hq⟩ : ∃ q, q = cut p.q := ⟨_, rfl⟩
      have hqs : Sm q := by rw [hq]; exact cut_sm p.q
      rw [← hq] at c8
      have c16 := f16 l c q p.k p.t p.n (by omega) hlv hcl hcv hqs true σ1 (n + 1) 0
      have c17 := f17 l c q p.k p.t p.n (by omega) hlv hcl hcv hqs
      obtain ⟨E, hE⟩ : ∃ E, E = pE (lst l) c q p.k p.n := ⟨_, rfl⟩
      obtain ⟨L, hL⟩ : ∃ L, L = pL (lst l) c q p.k p.n := ⟨_, rfl⟩
      have hR : lst (refR (lst l) c q p.k p.n) = L := by rw [lst_refR, hL]
      rw [← hE] at c16 c17
      rw [← hL] at c16
      generalize refR (lst l) c q p.k p.n = R at *
      have hLl : L.length ≤ 60 := by
        rw [hL]; unfold pL
        split
        · rw [fst_len, List.length_map]
          have := selN_len q (lst c) p.n (lst l); omega
        · simp
      obtain ⟨S2, hS2⟩ : ∃ S2, S2 = hSto σ1 (n + 1) L := ⟨_, rfl⟩
      obtain ⟨n2, hn2⟩ : ∃ n2, n2 = hN (n + 1) L := ⟨_, rfl⟩
      have hn12 : n + 1 ≤ n2 := by rw [hn2]; exact hN_le _ _
      have t2 : S2 n = some (.row 4 [.agg [slV 1 i32V p.q, .int .i64 p.k, .int .u64 p.t, .int .i64 p.n]]) := by rw [hS2, hSto_at _ _ _ (by omega), sn]
      have t2r : L ≠ [] → S2 (n + 1) = some (.row 2 (hs L)) := fun h => by rw [hS2]; exact hSto_row h
      rw [← hS2, ← hn2] at c16
      have y0 : ∀ hid, hide S2 n2 n2 hid n = S2 n := fun hid => hide_low _ _ _ _ (by omega) (Nat.le_refl _)
      have hff := Hf.tree S2 R
      rw [hR] at hff
      have c11 := f11 (hVal_Hf t2r) hff (by omega) true n2 0
      have hd : decide (L = L) = true := by simp
      rw [hd] at c11
      simp +contextual -implicitDefEqProofs (maxSteps := 2000000) only [↓wP, wQ, wQ1, wQ2, wQ3, wR, boxE, partsOf, ↓reduceIte, Nat.reduceEqDiff, Nat.reduceAdd, Nat.reduceSub, Nat.reduceLeDiff, Nat.reduceLT, Nat.reduceMul, reduceCtorEq, Int.reduceBNe, Int.reduceBEq, Int.reduceLT, Int.reduceLE, Int.reduceGT, h1, h2, g1, g2, g3, g4, g5, hxj, pbV_eq, h8', ← hσ1, sn, c8, c16, t2, y0, c14, c15, c17, c11, bne_self_eq_false]
  · intro env σ n ⟨g1, g2, g3, g4, g5⟩ h1 h2
    simp +contextual -implicitDefEqProofs (maxSteps := 2000000) only [↓wP, wQ, wQ1, wQ2, wQ3, wR, boxE, partsOf, ↓reduceIte, Nat.reduceEqDiff, Nat.reduceAdd, Nat.reduceSub, Nat.reduceLeDiff, Nat.reduceLT, Nat.reduceMul, reduceCtorEq, Int.reduceBNe, Int.reduceBEq, Int.reduceLT, Int.reduceLE, Int.reduceGT]
  · simp +contextual -implicitDefEqProofs (maxSteps := 2000000) only [↓wP, wQ, wQ1, wQ2, wQ3, wR, boxE, partsOf, ↓reduceIte, Nat.reduceEqDiff, Nat.reduceAdd, Nat.reduceSub, Nat.reduceLeDiff, Nat.reduceLT, Nat.reduceMul, reduceCtorEq, Int.reduceBNe, Int.reduceBEq, Int.reduceLT, Int.reduceLE, Int.reduceGT]
end Go.Q.SZ
end

section
/- The arguments of seat 14's statements, as trees. -/
set_option linter.unusedSimpArgs false
set_option linter.unusedVariables false
set_option maxRecDepth 20000
namespace Go.Q.SZ
open Go.Q Go.Proofs
def eI32 : Enc Tryz.prog 21 Int := Enc.int .i32 Tryz.underlying21
def eInt : Enc Tryz.prog 3 Int := Enc.int .i64 Tryz.underlying3
def eU64 : Enc Tryz.prog 36 Int := Enc.int .u64 Tryz.underlying36
def eVec : Enc Tryz.prog 33 (Option (List Int)) := Enc.slice eI32 Tryz.underlying33 1 (by kernel_rfl) (by decide) 4 (by kernel_rfl)
theorem okVec {o : Option (List Int)} (h : eVec.ok o) : (lst o).length < 4611686018427387904 := by
  cases o with
  | none => simp [lst]
  | some l =>
    obtain ⟨h1, h2, h3⟩ := h l rfl
    rw [reach_eq] at h2
    rw [lst_some]
    omega
def eVecs : Enc Tryz.prog 25 (Option (List (Option (List Int)))) := Enc.slice eVec Tryz.underlying25 1 (by kernel_rfl) (by decide) 24 (by kernel_rfl)
theorem okVecs {o : Option (List (Option (List Int)))} (h : eVecs.ok o) : (lst o).length < 4611686018427387904 ∧ ∀ v ∈ lst o, Sm v := by
  cases o with
  | none => exact ⟨by simp [lst], by simp [lst]⟩
  | some l =>
    obtain ⟨h1, h2, h3⟩ := h l rfl
    rw [reach_eq] at h2
    refine ⟨by rw [lst_some]; omega, fun c hc => ?_⟩
    have := okVec (h3 c hc)
    unfold Sm
    omega
def eRow : Enc Tryz.prog 53 Rw := Enc.map
  (Enc.struct (EncF.cons (off := 0) (sz := 1) eU64 rfl (by kernel_rfl) (EncF.cons (sz := 1) eVec rfl (by kernel_rfl) EncF.nil)) Tryz.underlying53 (by kernel_rfl))
  (fun x => ⟨x.1, x.2.1⟩) rwV (fun r => Sm r.v) (fun a _ => by obtain ⟨a, b, u⟩ := a; cases b <;> rfl) (fun a h => by have := okVec h.2.1; unfold Sm; dsimp only at this ⊢; omega)
def eRows : Enc Tryz.prog 47 (Option (List Rw)) := Enc.slice eRow Tryz.underlying47 2 (by kernel_rfl) (by decide) 32 (by kernel_rfl)
theorem okRows {o : Option (List Rw)} (h : eRows.ok o) : (lst o).length < 4611686018427387904 ∧ ∀ r ∈ lst o, Sm r.v := by
  cases o with
  | none => exact ⟨by simp [lst], by simp [lst]⟩
  | some l =>
    obtain ⟨h1, h2, h3⟩ := h l rfl
    rw [reach_eq] at h2
    exact ⟨by rw [lst_some]; omega, fun r hr => h3 r hr⟩
def eQry : Enc Tryz.prog 35 (Option (List Int) × Int) := Enc.map
  (Enc.struct (EncF.cons (off := 0) (sz := 1) eVec rfl (by kernel_rfl) (EncF.cons (sz := 1) eInt rfl (by kernel_rfl) EncF.nil)) Tryz.underlying35 (by kernel_rfl))
  (fun x => (x.1, x.2.1)) (fun x => .agg [slV 1 i32V x.1, .int .i64 x.2]) (fun x => Sm x.1) (fun a _ => by obtain ⟨a, b, u⟩ := a; cases a <;> rfl) (fun a h => by have := okVec h.1; unfold Sm; dsimp only at this ⊢; omega)
def ePrb : Enc Tryz.prog 38 Pb := Enc.map
  (Enc.struct (EncF.cons (off := 0) (sz := 2) eQry rfl (by kernel_rfl) (EncF.cons (sz := 1) eU64 rfl (by kernel_rfl) (EncF.cons (sz := 1) eInt rfl (by kernel_rfl) EncF.nil))) Tryz.underlying38 (by kernel_rfl))
  (fun x => ⟨x.1.1, x.1.2, x.2.1, x.2.2.1⟩) pbV (fun x => Sm x.q) (fun a _ => by obtain ⟨⟨a, b⟩, t, n, u⟩ := a; cases a <;> rfl) (fun a h => h.1)
def ePrbs : Enc Tryz.prog 29 (Option (List Pb)) := Enc.slice ePrb Tryz.underlying29 4 (by kernel_rfl) (by decide) 48 (by kernel_rfl)
theorem okPrbs {o : Option (List Pb)} (h : ePrbs.ok o) : (lst o).length < 4611686018427387904 ∧ ∀ p ∈ lst o, Sm p.q := by
  cases o with
  | none => exact ⟨by simp [lst], by simp [lst]⟩
  | some l =>
    obtain ⟨h1, h2, h3⟩ := h l rfl
    rw [reach_eq] at h2
    exact ⟨by rw [lst_some]; omega, fun r hr => h3 r hr⟩
end Go.Q.SZ
end

section
/- The table is the program's. -/
namespace Go.Q.SZ
open Go.Proofs
def Has (f : Nat) (fn : Fn) : Prop := ∃ F, Tryz.prog.funcs[f]? = some F ∧ cFunc Tryz.prog (ownB T) F = some fn ∧ (F.name == "runtime.NumGoroutine") = false
theorem h4 : Has 4 g4 := ⟨Tryz.f4, Tryz.func4, by kernel_rfl, by kernel_rfl⟩
theorem h5 : Has 5 g5 := ⟨Tryz.f5, Tryz.func5, by kernel_rfl, by kernel_rfl⟩
theorem h8 : Has 8 g8 := ⟨Tryz.f8, Tryz.func8, by kernel_rfl, by kernel_rfl⟩
theorem h11 : Has 11 g11 := ⟨Tryz.f11, Tryz.func11, by kernel_rfl, by kernel_rfl⟩
theorem h12 : Has 12 g12 := ⟨Tryz.f12, Tryz.func12, by kernel_rfl, by kernel_rfl⟩
theorem h13 : Has 13 g13 := ⟨Tryz.f13, Tryz.func13, by kernel_rfl, by kernel_rfl⟩
theorem h14 : Has 14 g14 := ⟨Tryz.f14, Tryz.func14, by kernel_rfl, by kernel_rfl⟩
theorem h15 : Has 15 g15 := ⟨Tryz.f15, Tryz.func15, by kernel_rfl, by kernel_rfl⟩
theorem h16 : Has 16 g16 := ⟨Tryz.f16, Tryz.func16, by kernel_rfl, by kernel_rfl⟩
theorem h17 : Has 17 g17 := ⟨Tryz.f17, Tryz.func17, by kernel_rfl, by kernel_rfl⟩
theorem h18 : Has 18 g18 := ⟨Tryz.f18, Tryz.func18, by kernel_rfl, by kernel_rfl⟩
theorem h19 : Has 19 g19 := ⟨Tryz.f19, Tryz.func19, by kernel_rfl, by kernel_rfl⟩
theorem h20 : Has 20 g20 := ⟨Tryz.f20, Tryz.func20, by kernel_rfl, by kernel_rfl⟩
theorem h25 : Has 25 g25 := ⟨Tryz.f25, Tryz.func25, by kernel_rfl, by kernel_rfl⟩
theorem h28 : Has 28 g28 := ⟨Tryz.f28, Tryz.func28, by kernel_rfl, by kernel_rfl⟩
theorem h29 : Has 29 g29 := ⟨Tryz.f29, Tryz.func29, by kernel_rfl, by kernel_rfl⟩
theorem h31 : Has 31 g31 := ⟨Tryz.f31, Tryz.func31, by kernel_rfl, by kernel_rfl⟩
theorem h33 : Has 33 g33 := ⟨Tryz.f33, Tryz.func33, by kernel_rfl, by kernel_rfl⟩
theorem h34 : Has 34 g34 := ⟨Tryz.f34, Tryz.func34, by kernel_rfl, by kernel_rfl⟩
theorem h35 : Has 35 g35 := ⟨Tryz.f35, Tryz.func35, by kernel_rfl, by kernel_rfl⟩
theorem h36 : Has 36 g36 := ⟨Tryz.f36, Tryz.func36, by kernel_rfl, by kernel_rfl⟩
theorem h37 : Has 37 g37 := ⟨Tryz.f37, Tryz.func37, by kernel_rfl, by kernel_rfl⟩
theorem h38 : Has 38 g38 := ⟨Tryz.f38, Tryz.func38, by kernel_rfl, by kernel_rfl⟩
theorem h39 : Has 39 g39 := ⟨Tryz.f39, Tryz.func39, by kernel_rfl, by kernel_rfl⟩
theorem h40 : Has 40 g40 := ⟨Tryz.f40, Tryz.func40, by kernel_rfl, by kernel_rfl⟩
theorem h41 : Has 41 g41 := ⟨Tryz.f41, Tryz.func41, by kernel_rfl, by kernel_rfl⟩
theorem h42 : Has 42 g42 := ⟨Tryz.f42, Tryz.func42, by kernel_rfl, by kernel_rfl⟩
theorem h43 : Has 43 g43 := ⟨Tryz.f43, Tryz.func43, by kernel_rfl, by kernel_rfl⟩
theorem h44 : Has 44 g44 := ⟨Tryz.f44, Tryz.func44, by kernel_rfl, by kernel_rfl⟩
theorem h45 : Has 45 g45 := ⟨Tryz.f45, Tryz.func45, by kernel_rfl, by kernel_rfl⟩
theorem h46 : Has 46 g46 := ⟨Tryz.f46, Tryz.func46, by kernel_rfl, by kernel_rfl⟩
theorem h47 : Has 47 g47 := ⟨Tryz.f47, Tryz.func47, by kernel_rfl, by kernel_rfl⟩
theorem h48 : Has 48 g48 := ⟨Tryz.f48, Tryz.func48, by kernel_rfl, by kernel_rfl⟩
theorem h49 : Has 49 g49 := ⟨Tryz.f49, Tryz.func49, by kernel_rfl, by kernel_rfl⟩
theorem h50 : Has 50 g50 := ⟨Tryz.f50, Tryz.func50, by kernel_rfl, by kernel_rfl⟩
theorem h55 : Has 55 g55 := ⟨Tryz.f55, Tryz.func55, by kernel_rfl, by kernel_rfl⟩
theorem h60 : Has 60 g60 := ⟨Tryz.f60, Tryz.func60, by kernel_rfl, by kernel_rfl⟩
theorem h61 : Has 61 g61 := ⟨Tryz.f61, Tryz.func61, by kernel_rfl, by kernel_rfl⟩
theorem h62 : Has 62 g62 := ⟨Tryz.f62, Tryz.func62, by kernel_rfl, by kernel_rfl⟩
theorem h63 : Has 63 g63 := ⟨Tryz.f63, Tryz.func63, by kernel_rfl, by kernel_rfl⟩
theorem h67 : Has 67 g67 := ⟨Tryz.f67, Tryz.func67, by kernel_rfl, by kernel_rfl⟩
theorem h68 : Has 68 g68 := ⟨Tryz.f68, Tryz.func68, by kernel_rfl, by kernel_rfl⟩
theorem h69 : Has 69 g69 := ⟨Tryz.f69, Tryz.func69, by kernel_rfl, by kernel_rfl⟩
theorem h70 : Has 70 g70 := ⟨Tryz.f70, Tryz.func70, by kernel_rfl, by kernel_rfl⟩
theorem h71 : Has 71 g71 := ⟨Tryz.f71, Tryz.func71, by kernel_rfl, by kernel_rfl⟩
theorem h72 : Has 72 g72 := ⟨Tryz.f72, Tryz.func72, by kernel_rfl, by kernel_rfl⟩
theorem h73 : Has 73 g73 := ⟨Tryz.f73, Tryz.func73, by kernel_rfl, by kernel_rfl⟩
theorem h74 : Has 74 g74 := ⟨Tryz.f74, Tryz.func74, by kernel_rfl, by kernel_rfl⟩
theorem h75 : Has 75 g75 := ⟨Tryz.f75, Tryz.func75, by kernel_rfl, by kernel_rfl⟩
theorem h76 : Has 76 g76 := ⟨Tryz.f76, Tryz.func76, by kernel_rfl, by kernel_rfl⟩
theorem h77 : Has 77 g77 := ⟨Tryz.f77, Tryz.func77, by kernel_rfl, by kernel_rfl⟩
theorem h78 : Has 78 g78 := ⟨Tryz.f78, Tryz.func78, by kernel_rfl, by kernel_rfl⟩
theorem h79 : Has 79 g79 := ⟨Tryz.f79, Tryz.func79, by kernel_rfl, by kernel_rfl⟩
theorem h80 : Has 80 g80 := ⟨Tryz.f80, Tryz.func80, by kernel_rfl, by kernel_rfl⟩
theorem h81 : Has 81 g81 := ⟨Tryz.f81, Tryz.func81, by kernel_rfl, by kernel_rfl⟩
theorem h82 : Has 82 g82 := ⟨Tryz.f82, Tryz.func82, by kernel_rfl, by kernel_rfl⟩
theorem h83 : Has 83 g83 := ⟨Tryz.f83, Tryz.func83, by kernel_rfl, by kernel_rfl⟩
theorem h84 : Has 84 g84 := ⟨Tryz.f84, Tryz.func84, by kernel_rfl, by kernel_rfl⟩
theorem h85 : Has 85 g85 := ⟨Tryz.f85, Tryz.func85, by kernel_rfl, by kernel_rfl⟩
theorem h86 : Has 86 g86 := ⟨Tryz.f86, Tryz.func86, by kernel_rfl, by kernel_rfl⟩
theorem h87 : Has 87 g87 := ⟨Tryz.f87, Tryz.func87, by kernel_rfl, by kernel_rfl⟩
theorem h92 : Has 92 g92 := ⟨Tryz.f92, Tryz.func92, by kernel_rfl, by kernel_rfl⟩
theorem h96 : Has 96 g96 := ⟨Tryz.f96, Tryz.func96, by kernel_rfl, by kernel_rfl⟩
theorem h97 : Has 97 g97 := ⟨Tryz.f97, Tryz.func97, by kernel_rfl, by kernel_rfl⟩
theorem h98 : Has 98 g98 := ⟨Tryz.f98, Tryz.func98, by kernel_rfl, by kernel_rfl⟩
theorem h99 : Has 99 g99 := ⟨Tryz.f99, Tryz.func99, by kernel_rfl, by kernel_rfl⟩
theorem h104 : Has 104 g104 := ⟨Tryz.f104, Tryz.func104, by kernel_rfl, by kernel_rfl⟩
theorem h105 : Has 105 g105 := ⟨Tryz.f105, Tryz.func105, by kernel_rfl, by kernel_rfl⟩
theorem h106 : Has 106 g106 := ⟨Tryz.f106, Tryz.func106, by kernel_rfl, by kernel_rfl⟩
theorem h107 : Has 107 g107 := ⟨Tryz.f107, Tryz.func107, by kernel_rfl, by kernel_rfl⟩
theorem h108 : Has 108 g108 := ⟨Tryz.f108, Tryz.func108, by kernel_rfl, by kernel_rfl⟩
theorem h109 : Has 109 g109 := ⟨Tryz.f109, Tryz.func109, by kernel_rfl, by kernel_rfl⟩
theorem h110 : Has 110 g110 := ⟨Tryz.f110, Tryz.func110, by kernel_rfl, by kernel_rfl⟩
theorem h111 : Has 111 g111 := ⟨Tryz.f111, Tryz.func111, by kernel_rfl, by kernel_rfl⟩
theorem h112 : Has 112 g112 := ⟨Tryz.f112, Tryz.func112, by kernel_rfl, by kernel_rfl⟩
theorem h113 : Has 113 g113 := ⟨Tryz.f113, Tryz.func113, by kernel_rfl, by kernel_rfl⟩
theorem h115 : Has 115 g115 := ⟨Tryz.f115, Tryz.func115, by kernel_rfl, by kernel_rfl⟩
theorem h117 : Has 117 g117 := ⟨Tryz.f117, Tryz.func117, by kernel_rfl, by kernel_rfl⟩
theorem h118 : Has 118 g118 := ⟨Tryz.f118, Tryz.func118, by kernel_rfl, by kernel_rfl⟩
theorem h119 : Has 119 g119 := ⟨Tryz.f119, Tryz.func119, by kernel_rfl, by kernel_rfl⟩
theorem h120 : Has 120 g120 := ⟨Tryz.f120, Tryz.func120, by kernel_rfl, by kernel_rfl⟩
theorem h121 : Has 121 g121 := ⟨Tryz.f121, Tryz.func121, by kernel_rfl, by kernel_rfl⟩
theorem h122 : Has 122 g122 := ⟨Tryz.f122, Tryz.func122, by kernel_rfl, by kernel_rfl⟩
theorem h123 : Has 123 g123 := ⟨Tryz.f123, Tryz.func123, by kernel_rfl, by kernel_rfl⟩
theorem h124 : Has 124 g124 := ⟨Tryz.f124, Tryz.func124, by kernel_rfl, by kernel_rfl⟩
theorem h125 : Has 125 g125 := ⟨Tryz.f125, Tryz.func125, by kernel_rfl, by kernel_rfl⟩
theorem h126 : Has 126 g126 := ⟨Tryz.f126, Tryz.func126, by kernel_rfl, by kernel_rfl⟩
theorem h127 : Has 127 g127 := ⟨Tryz.f127, Tryz.func127, by kernel_rfl, by kernel_rfl⟩
theorem h128 : Has 128 g128 := ⟨Tryz.f128, Tryz.func128, by kernel_rfl, by kernel_rfl⟩
theorem h130 : Has 130 g130 := ⟨Tryz.f130, Tryz.func130, by kernel_rfl, by kernel_rfl⟩
theorem h131 : Has 131 g131 := ⟨Tryz.f131, Tryz.func131, by kernel_rfl, by kernel_rfl⟩
theorem h132 : Has 132 g132 := ⟨Tryz.f132, Tryz.func132, by kernel_rfl, by kernel_rfl⟩
theorem h133 : Has 133 g133 := ⟨Tryz.f133, Tryz.func133, by kernel_rfl, by kernel_rfl⟩
theorem h134 : Has 134 g134 := ⟨Tryz.f134, Tryz.func134, by kernel_rfl, by kernel_rfl⟩
theorem h135 : Has 135 g135 := ⟨Tryz.f135, Tryz.func135, by kernel_rfl, by kernel_rfl⟩
theorem h136 : Has 136 g136 := ⟨Tryz.f136, Tryz.func136, by kernel_rfl, by kernel_rfl⟩
theorem h137 : Has 137 g137 := ⟨Tryz.f137, Tryz.func137, by kernel_rfl, by kernel_rfl⟩
theorem h138 : Has 138 g138 := ⟨Tryz.f138, Tryz.func138, by kernel_rfl, by kernel_rfl⟩
theorem h139 : Has 139 g139 := ⟨Tryz.f139, Tryz.func139, by kernel_rfl, by kernel_rfl⟩
theorem h140 : Has 140 g140 := ⟨Tryz.f140, Tryz.func140, by kernel_rfl, by kernel_rfl⟩
theorem h141 : Has 141 g141 := ⟨Tryz.f141, Tryz.func141, by kernel_rfl, by kernel_rfl⟩
theorem h142 : Has 142 g142 := ⟨Tryz.f142, Tryz.func142, by kernel_rfl, by kernel_rfl⟩
theorem h143 : Has 143 g143 := ⟨Tryz.f143, Tryz.func143, by kernel_rfl, by kernel_rfl⟩
theorem h144 : Has 144 g144 := ⟨Tryz.f144, Tryz.func144, by kernel_rfl, by kernel_rfl⟩
theorem h145 : Has 145 g145 := ⟨Tryz.f145, Tryz.func145, by kernel_rfl, by kernel_rfl⟩
theorem h162 : Has 162 g162 := ⟨Tryz.f162, Tryz.func162, by kernel_rfl, by kernel_rfl⟩
theorem h163 : Has 163 g163 := ⟨Tryz.f163, Tryz.func163, by kernel_rfl, by kernel_rfl⟩
theorem h164 : Has 164 g164 := ⟨Tryz.f164, Tryz.func164, by kernel_rfl, by kernel_rfl⟩
theorem h165 : Has 165 g165 := ⟨Tryz.f165, Tryz.func165, by kernel_rfl, by kernel_rfl⟩
theorem tabOf : TabOf Tryz.prog T := by
  intro f fn h
  simp only [T] at h
  unfold fnOf at h
  split at h
  all_goals first | (cases h; done) | skip
  all_goals (simp only [Option.some.injEq] at h; subst h)
  · exact h4
  · exact h5
  · exact h8
  · exact h11
  · exact h12
  · exact h13
  · exact h14
  · exact h15
  · exact h16
  · exact h17
  · exact h18
  · exact h19
  · exact h20
  · exact h25
  · exact h28
  · exact h29
  · exact h31
  · exact h33
  · exact h34
  · exact h35
  · exact h36
  · exact h37
  · exact h38
  · exact h39
  · exact h40
  · exact h41
  · exact h42
  · exact h43
  · exact h44
  · exact h45
  · exact h46
  · exact h47
  · exact h48
  · exact h49
  · exact h50
  · exact h55
  · exact h60
  · exact h61
  · exact h62
  · exact h63
  · exact h67
  · exact h68
  · exact h69
  · exact h70
  · exact h71
  · exact h72
  · exact h73
  · exact h74
  · exact h75
  · exact h76
  · exact h77
  · exact h78
  · exact h79
  · exact h80
  · exact h81
  · exact h82
  · exact h83
  · exact h84
  · exact h85
  · exact h86
  · exact h87
  · exact h92
  · exact h96
  · exact h97
  · exact h98
  · exact h99
  · exact h104
  · exact h105
  · exact h106
  · exact h107
  · exact h108
  · exact h109
  · exact h110
  · exact h111
  · exact h112
  · exact h113
  · exact h115
  · exact h117
  · exact h118
  · exact h119
  · exact h120
  · exact h121
  · exact h122
  · exact h123
  · exact h124
  · exact h125
  · exact h126
  · exact h127
  · exact h128
  · exact h130
  · exact h131
  · exact h132
  · exact h133
  · exact h134
  · exact h135
  · exact h136
  · exact h137
  · exact h138
  · exact h139
  · exact h140
  · exact h141
  · exact h142
  · exact h143
  · exact h144
  · exact h145
  · exact h162
  · exact h163
  · exact h164
  · exact h165
theorem mixed : Tryz.prog.follows .mixedOrders = true := by kernel_rfl
end Go.Q.SZ
end
