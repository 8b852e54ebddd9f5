/- Writes: which may be. -/
import Derived.Test.YtfbkhkihiohfkaaSA
section
set_option linter.unusedSimpArgs false
set_option linter.unusedVariables false
namespace Go.Q.S18
open Go.Q
@[simp] theorem Tr_wrV (w : Wr) (k : Nat) : Tr (k + 2) (wrV w) = true := by simp [wrV, Tr, Tr_slV]
@[simp] theorem Tr_faV (f : Fa) (k : Nat) : Tr (k + 2) (faV f) = true := by simp [faV, Tr, Tr_slV]
def cmpU (x y : Int) : Int := if x < y then -1 else if y < x then 1 else 0
theorem r105 (x : Int) : res T 105 [.int .u64 x] = some (.bool false) := by
  refine run_res (run_pure (fn := g105) rfl rfl (by decide) ?_)
  simp only [g105, b105, oO, oN, mV, lD, gO, pP, qQ, cI, aR]
  simp +contextual -implicitDefEqProofs (maxSteps := 2000000) only [↓wP, wQ, wQ1, wQ2, wQ3, wR, boxE, partsOf, ↓reduceIte, Nat.reduceEqDiff, Nat.reduceAdd, Nat.reduceSub, Nat.reduceLeDiff, Nat.reduceLT, Nat.reduceMul, reduceCtorEq, Int.reduceBNe, Int.reduceBEq, Int.reduceLT, Int.reduceLE, Int.reduceGT]
theorem f105 (x : Int) (fs : Bool) (σ : Sto) (n lk : Nat) : callE T fs 105 [.int .u64 x] σ n lk = some (.bool false, σ, n) :=
  callE_tr (by decide) (r105 x) (by simp [Tr, Tr_slV]) rfl fs σ n lk
theorem r77 (x y : Int) : res T 77 [.int .u64 x, .int .u64 y] = some (.int .i64 (cmpU x y)) := by
  refine run_res (run_pure (fn := g77) rfl rfl (by decide) ?_)
  simp only [g77, b77, oO, oN, mV, lD, gO, pP, qQ, cI, aR]
  simp +contextual -implicitDefEqProofs (maxSteps := 2000000) only [↓wP, wQ, wQ1, wQ2, wQ3, wR, boxE, partsOf, ↓reduceIte, Nat.reduceEqDiff, Nat.reduceAdd, Nat.reduceSub, Nat.reduceLeDiff, Nat.reduceLT, Nat.reduceMul, reduceCtorEq, Int.reduceBNe, Int.reduceBEq, Int.reduceLT, Int.reduceLE, Int.reduceGT, f105]
  unfold cmpU
  by_cases h1 : x < y
  · simp +contextual -implicitDefEqProofs (maxSteps := 2000000) only [↓wP, wQ, wQ1, wQ2, wQ3, wR, boxE, partsOf, ↓reduceIte, Nat.reduceEqDiff, Nat.reduceAdd, Nat.reduceSub, Nat.reduceLeDiff, Nat.reduceLT, Nat.reduceMul, reduceCtorEq, Int.reduceBNe, Int.reduceBEq, Int.reduceLT, Int.reduceLE, Int.reduceGT, h1]
  · by_cases h2 : y < x
    · simp +contextual -implicitDefEqProofs (maxSteps := 2000000) only [↓wP, wQ, wQ1, wQ2, wQ3, wR, boxE, partsOf, ↓reduceIte, Nat.reduceEqDiff, Nat.reduceAdd, Nat.reduceSub, Nat.reduceLeDiff, Nat.reduceLT, Nat.reduceMul, reduceCtorEq, Int.reduceBNe, Int.reduceBEq, Int.reduceLT, Int.reduceLE, Int.reduceGT, h1, h2]
    · simp +contextual -implicitDefEqProofs (maxSteps := 2000000) only [↓wP, wQ, wQ1, wQ2, wQ3, wR, boxE, partsOf, ↓reduceIte, Nat.reduceEqDiff, Nat.reduceAdd, Nat.reduceSub, Nat.reduceLeDiff, Nat.reduceLT, Nat.reduceMul, reduceCtorEq, Int.reduceBNe, Int.reduceBEq, Int.reduceLT, Int.reduceLE, Int.reduceGT, h1, h2]
theorem f77 (x y : Int) (fs : Bool) (σ : Sto) (n lk : Nat) : callE T fs 77 [.int .u64 x, .int .u64 y] σ n lk = some (.int .i64 (cmpU x y), σ, n) :=
  callE_tr (by decide) (r77 x y) (by simp [Tr, Tr_slV]) rfl fs σ n lk
theorem r122 (x : Int) : res T 122 [.int .i64 x] = some (.bool false) := by
  refine run_res (run_pure (fn := g122) rfl rfl (by decide) ?_)
  simp only [g122, b122, oO, oN, mV, lD, gO, pP, qQ, cI, aR]
  simp +contextual -implicitDefEqProofs (maxSteps := 2000000) only [↓wP, wQ, wQ1, wQ2, wQ3, wR, boxE, partsOf, ↓reduceIte, Nat.reduceEqDiff, Nat.reduceAdd, Nat.reduceSub, Nat.reduceLeDiff, Nat.reduceLT, Nat.reduceMul, reduceCtorEq, Int.reduceBNe, Int.reduceBEq, Int.reduceLT, Int.reduceLE, Int.reduceGT]
theorem f122 (x : Int) (fs : Bool) (σ : Sto) (n lk : Nat) : callE T fs 122 [.int .i64 x] σ n lk = some (.bool false, σ, n) :=
  callE_tr (by decide) (r122 x) (by simp [Tr, Tr_slV]) rfl fs σ n lk
theorem r110 (x y : Int) : res T 110 [.int .i64 x, .int .i64 y] = some (.int .i64 (cmpU x y)) := by
  refine run_res (run_pure (fn := g110) rfl rfl (by decide) ?_)
  simp only [g110, b110, oO, oN, mV, lD, gO, pP, qQ, cI, aR]
  simp +contextual -implicitDefEqProofs (maxSteps := 2000000) only [↓wP, wQ, wQ1, wQ2, wQ3, wR, boxE, partsOf, ↓reduceIte, Nat.reduceEqDiff, Nat.reduceAdd, Nat.reduceSub, Nat.reduceLeDiff, Nat.reduceLT, Nat.reduceMul, reduceCtorEq, Int.reduceBNe, Int.reduceBEq, Int.reduceLT, Int.reduceLE, Int.reduceGT, f122]
  unfold cmpU
  by_cases h1 : x < y
  · simp +contextual -implicitDefEqProofs (maxSteps := 2000000) only [↓wP, wQ, wQ1, wQ2, wQ3, wR, boxE, partsOf, ↓reduceIte, Nat.reduceEqDiff, Nat.reduceAdd, Nat.reduceSub, Nat.reduceLeDiff, Nat.reduceLT, Nat.reduceMul, reduceCtorEq, Int.reduceBNe, Int.reduceBEq, Int.reduceLT, Int.reduceLE, Int.reduceGT, h1]
  · by_cases h2 : y < x
    · simp +contextual -implicitDefEqProofs (maxSteps := 2000000) only [↓wP, wQ, wQ1, wQ2, wQ3, wR, boxE, partsOf, ↓reduceIte, Nat.reduceEqDiff, Nat.reduceAdd, Nat.reduceSub, Nat.reduceLeDiff, Nat.reduceLT, Nat.reduceMul, reduceCtorEq, Int.reduceBNe, Int.reduceBEq, Int.reduceLT, Int.reduceLE, Int.reduceGT, h1, h2]
    · simp +contextual -implicitDefEqProofs (maxSteps := 2000000) only [↓wP, wQ, wQ1, wQ2, wQ3, wR, boxE, partsOf, ↓reduceIte, Nat.reduceEqDiff, Nat.reduceAdd, Nat.reduceSub, Nat.reduceLeDiff, Nat.reduceLT, Nat.reduceMul, reduceCtorEq, Int.reduceBNe, Int.reduceBEq, Int.reduceLT, Int.reduceLE, Int.reduceGT, h1, h2]
theorem f110 (x y : Int) (fs : Bool) (σ : Sto) (n lk : Nat) : callE T fs 110 [.int .i64 x, .int .i64 y] σ n lk = some (.int .i64 (cmpU x y), σ, n) :=
  callE_tr (by decide) (r110 x y) (by simp [Tr, Tr_slV]) rfl fs σ n lk
theorem r109 (a b : Int) : res T 109 [.sl 1 [.int .i64 a, .int .i64 b]] = some (.int .i64 (if a = 0 then b else a)) := by
  refine run_res (run_pure (fn := g109) rfl rfl (by decide) ?_)
  simp only [g109, b109, oO, oN, mV, lD, gO, pP, qQ, cI, aR]
  simp +contextual -implicitDefEqProofs (maxSteps := 2000000) only [↓wP, wQ, wQ1, wQ2, wQ3, wR, boxE, partsOf, ↓reduceIte, Nat.reduceEqDiff, Nat.reduceAdd, Nat.reduceSub, Nat.reduceLeDiff, Nat.reduceLT, Nat.reduceMul, reduceCtorEq, Int.reduceBNe, Int.reduceBEq, Int.reduceLT, Int.reduceLE, Int.reduceGT]
  refine WC_for 2 0 (fun (j : Nat) env σ n => env 3 = .int .i64 0 ∧ env 6 = .sl 1 [.int .i64 a, .int .i64 b] ∧ (0 < j → a = 0) ∧ (1 < j → b = 0)) (by omega) (by decide) (by decide) (fun _ _ => rfl) (fun _ _ _ => rfl) ?_ ?_ _ _ _ rfl rfl ?_
  · intro j env σ n hj h1 h2 ⟨h3, h4, h5, h6⟩
    simp only [vl_tmp] at h2
    match j, hj with
    | 0, _ =>
      by_cases ha : a = 0
      · have hd : (a != 0) = false := by simp [ha]
        simp +contextual -implicitDefEqProofs (maxSteps := 2000000) only [↓wP, wQ, wQ1, wQ2, wQ3, wR, boxE, partsOf, ↓reduceIte, Nat.reduceEqDiff, Nat.reduceAdd, Nat.reduceSub, Nat.reduceLeDiff, Nat.reduceLT, Nat.reduceMul, reduceCtorEq, Int.reduceBNe, Int.reduceBEq, Int.reduceLT, Int.reduceLE, Int.reduceGT, h1, h2, h3, h4, hd]
        exact ⟨fun _ => ha, fun h => h.elim⟩
      · have hd : (a != 0) = true := by simp [ha]
        simp +contextual -implicitDefEqProofs (maxSteps := 2000000) only [↓wP, wQ, wQ1, wQ2, wQ3, wR, boxE, partsOf, ↓reduceIte, Nat.reduceEqDiff, Nat.reduceAdd, Nat.reduceSub, Nat.reduceLeDiff, Nat.reduceLT, Nat.reduceMul, reduceCtorEq, Int.reduceBNe, Int.reduceBEq, Int.reduceLT, Int.reduceLE, Int.reduceGT, h1, h2, h3, h4, hd, ha]
    | 1, _ =>
      have ha := h5 (by omega)
      by_cases hb : b = 0
      · have hd : (b != 0) = false := by simp [hb]
        simp +contextual -implicitDefEqProofs (maxSteps := 2000000) only [↓wP, wQ, wQ1, wQ2, wQ3, wR, boxE, partsOf, ↓reduceIte, Nat.reduceEqDiff, Nat.reduceAdd, Nat.reduceSub, Nat.reduceLeDiff, Nat.reduceLT, Nat.reduceMul, reduceCtorEq, Int.reduceBNe, Int.reduceBEq, Int.reduceLT, Int.reduceLE, Int.reduceGT, h1, h2, h3, h4, hd]
        exact ⟨fun _ => ha, fun _ => hb⟩
      · have hd : (b != 0) = true := by simp [hb]
        simp +contextual -implicitDefEqProofs (maxSteps := 2000000) only [↓wP, wQ, wQ1, wQ2, wQ3, wR, boxE, partsOf, ↓reduceIte, Nat.reduceEqDiff, Nat.reduceAdd, Nat.reduceSub, Nat.reduceLeDiff, Nat.reduceLT, Nat.reduceMul, reduceCtorEq, Int.reduceBNe, Int.reduceBEq, Int.reduceLT, Int.reduceLE, Int.reduceGT, h1, h2, h3, h4, hd, ha]
  · intro env σ n ⟨h3, h4, h5, h6⟩ h1 h2
    have ha : a = 0 := h5 (by decide)
    have hb : b = 0 := h6 (by decide)
    simp +contextual -implicitDefEqProofs (maxSteps := 2000000) only [↓wP, wQ, wQ1, wQ2, wQ3, wR, boxE, partsOf, ↓reduceIte, Nat.reduceEqDiff, Nat.reduceAdd, Nat.reduceSub, Nat.reduceLeDiff, Nat.reduceLT, Nat.reduceMul, reduceCtorEq, Int.reduceBNe, Int.reduceBEq, Int.reduceLT, Int.reduceLE, Int.reduceGT, h3, ha, hb]
  · simp +contextual -implicitDefEqProofs (maxSteps := 2000000) only [↓wP, wQ, wQ1, wQ2, wQ3, wR, boxE, partsOf, ↓reduceIte, Nat.reduceEqDiff, Nat.reduceAdd, Nat.reduceSub, Nat.reduceLeDiff, Nat.reduceLT, Nat.reduceMul, reduceCtorEq, Int.reduceBNe, Int.reduceBEq, Int.reduceLT, Int.reduceLE, Int.reduceGT]
    exact ⟨fun h => absurd h (by decide), fun h => absurd h (by decide)⟩
theorem f109 (a b : Int) (fs : Bool) (σ : Sto) (n lk : Nat) : callE T fs 109 [.sl 1 [.int .i64 a, .int .i64 b]] σ n lk = some (.int .i64 (if a = 0 then b else a), σ, n) :=
  callE_tr (by decide) (r109 a b) (by simp [Tr, Tr_slV]) rfl fs σ n lk
theorem r44 (a b : Int) : res T 44 [.sl 1 [.int .i64 a, .int .i64 b]] = some (.int .i64 (if a = 0 then b else a)) := by
  refine run_res (run_pure (fn := g44) rfl rfl (by decide) ?_)
  simp only [g44, b44, oO, oN, mV, lD, gO, pP, qQ, cI, aR]
  simp +contextual -implicitDefEqProofs (maxSteps := 2000000) only [↓wP, wQ, wQ1, wQ2, wQ3, wR, boxE, partsOf, ↓reduceIte, Nat.reduceEqDiff, Nat.reduceAdd, Nat.reduceSub, Nat.reduceLeDiff, Nat.reduceLT, Nat.reduceMul, reduceCtorEq, Int.reduceBNe, Int.reduceBEq, Int.reduceLT, Int.reduceLE, Int.reduceGT]
  refine WC_for 2 0 (fun (j : Nat) env σ n => env 3 = .int .i64 0 ∧ env 6 = .sl 1 [.int .i64 a, .int .i64 b] ∧ (0 < j → a = 0) ∧ (1 < j → b = 0)) (by omega) (by decide) (by decide) (fun _ _ => rfl) (fun _ _ _ => rfl) ?_ ?_ _ _ _ rfl rfl ?_
  · intro j env σ n hj h1 h2 ⟨h3, h4, h5, h6⟩
    simp only [vl_tmp] at h2
    match j, hj with
    | 0, _ =>
      by_cases ha : a = 0
      · have hd : (a != 0) = false := by simp [ha]
        simp +contextual -implicitDefEqProofs (maxSteps := 2000000) only [↓wP, wQ, wQ1, wQ2, wQ3, wR, boxE, partsOf, ↓reduceIte, Nat.reduceEqDiff, Nat.reduceAdd, Nat.reduceSub, Nat.reduceLeDiff, Nat.reduceLT, Nat.reduceMul, reduceCtorEq, Int.reduceBNe, Int.reduceBEq, Int.reduceLT, Int.reduceLE, Int.reduceGT, h1, h2, h3, h4, hd]
        exact ⟨fun _ => ha, fun h => h.elim⟩
      · have hd : (a != 0) = true := by simp [ha]
        simp +contextual -implicitDefEqProofs (maxSteps := 2000000) only [↓wP, wQ, wQ1, wQ2, wQ3, wR, boxE, partsOf, ↓reduceIte, Nat.reduceEqDiff, Nat.reduceAdd, Nat.reduceSub, Nat.reduceLeDiff, Nat.reduceLT, Nat.reduceMul, reduceCtorEq, Int.reduceBNe, Int.reduceBEq, Int.reduceLT, Int.reduceLE, Int.reduceGT, h1, h2, h3, h4, hd, ha]
    | 1, _ =>
      have ha := h5 (by omega)
      by_cases hb : b = 0
      · have hd : (b != 0) = false := by simp [hb]
        simp +contextual -implicitDefEqProofs (maxSteps := 2000000) only [↓wP, wQ, wQ1, wQ2, wQ3, wR, boxE, partsOf, ↓reduceIte, Nat.reduceEqDiff, Nat.reduceAdd, Nat.reduceSub, Nat.reduceLeDiff, Nat.reduceLT, Nat.reduceMul, reduceCtorEq, Int.reduceBNe, Int.reduceBEq, Int.reduceLT, Int.reduceLE, Int.reduceGT, h1, h2, h3, h4, hd]
        exact ⟨fun _ => ha, fun _ => hb⟩
      · have hd : (b != 0) = true := by simp [hb]
        simp +contextual -implicitDefEqProofs (maxSteps := 2000000) only [↓wP, wQ, wQ1, wQ2, wQ3, wR, boxE, partsOf, ↓reduceIte, Nat.reduceEqDiff, Nat.reduceAdd, Nat.reduceSub, Nat.reduceLeDiff, Nat.reduceLT, Nat.reduceMul, reduceCtorEq, Int.reduceBNe, Int.reduceBEq, Int.reduceLT, Int.reduceLE, Int.reduceGT, h1, h2, h3, h4, hd, ha]
  · intro env σ n ⟨h3, h4, h5, h6⟩ h1 h2
    have ha : a = 0 := h5 (by decide)
    have hb : b = 0 := h6 (by decide)
    simp +contextual -implicitDefEqProofs (maxSteps := 2000000) only [↓wP, wQ, wQ1, wQ2, wQ3, wR, boxE, partsOf, ↓reduceIte, Nat.reduceEqDiff, Nat.reduceAdd, Nat.reduceSub, Nat.reduceLeDiff, Nat.reduceLT, Nat.reduceMul, reduceCtorEq, Int.reduceBNe, Int.reduceBEq, Int.reduceLT, Int.reduceLE, Int.reduceGT, h3, ha, hb]
  · simp +contextual -implicitDefEqProofs (maxSteps := 2000000) only [↓wP, wQ, wQ1, wQ2, wQ3, wR, boxE, partsOf, ↓reduceIte, Nat.reduceEqDiff, Nat.reduceAdd, Nat.reduceSub, Nat.reduceLeDiff, Nat.reduceLT, Nat.reduceMul, reduceCtorEq, Int.reduceBNe, Int.reduceBEq, Int.reduceLT, Int.reduceLE, Int.reduceGT]
    exact ⟨fun h => absurd h (by decide), fun h => absurd h (by decide)⟩
theorem f44 (a b : Int) (fs : Bool) (σ : Sto) (n lk : Nat) : callE T fs 44 [.sl 1 [.int .i64 a, .int .i64 b]] σ n lk = some (.int .i64 (if a = 0 then b else a), σ, n) :=
  callE_tr (by decide) (r44 a b) (by simp [Tr, Tr_slV]) rfl fs σ n lk
def collB (c : Int) : Bool := decide (0 ≤ c) && decide (c < 3)
theorem okW_eq (w : Wr) : okW w = (collB w.c && (if w.g then decide ((lst w.v).length = 0) else okV w.v)) := by
  unfold okW collB
  congr 1
  by_cases h1 : 0 ≤ w.c <;> by_cases h2 : w.c < 3 <;> simp [h1, h2]
theorem r70 (c : Int) : res T 70 [.int .i64 c] = some (.bool (collB c)) := by
  refine run_res (run_pure (fn := g70) rfl rfl (by decide) ?_)
  simp only [g70, b70, oO, oN, mV, lD, gO, pP, qQ, cI, aR]
  unfold collB
  by_cases h1 : 0 ≤ c
  · simp +contextual -implicitDefEqProofs (maxSteps := 2000000) only [↓wP, wQ, wQ1, wQ2, wQ3, wR, boxE, partsOf, ↓reduceIte, Nat.reduceEqDiff, Nat.reduceAdd, Nat.reduceSub, Nat.reduceLeDiff, Nat.reduceLT, Nat.reduceMul, reduceCtorEq, Int.reduceBNe, Int.reduceBEq, Int.reduceLT, Int.reduceLE, Int.reduceGT, h1]
  · simp +contextual -implicitDefEqProofs (maxSteps := 2000000) only [↓wP, wQ, wQ1, wQ2, wQ3, wR, boxE, partsOf, ↓reduceIte, Nat.reduceEqDiff, Nat.reduceAdd, Nat.reduceSub, Nat.reduceLeDiff, Nat.reduceLT, Nat.reduceMul, reduceCtorEq, Int.reduceBNe, Int.reduceBEq, Int.reduceLT, Int.reduceLE, Int.reduceGT, h1]
theorem f70 (c : Int) (fs : Bool) (σ : Sto) (n lk : Nat) : callE T fs 70 [.int .i64 c] σ n lk = some (.bool (collB c), σ, n) :=
  callE_tr (by decide) (r70 c) (by simp [Tr, Tr_slV]) rfl fs σ n lk
theorem r27 (c : Int) : res T 27 [.int .i64 c] = some (.bool (collB c)) := by
  refine run_res (run_pure (fn := g27) rfl rfl (by decide) ?_)
  simp only [g27, b27, oO, oN, mV, lD, gO, pP, qQ, cI, aR]
  unfold collB
  by_cases h1 : 0 ≤ c
  · simp +contextual -implicitDefEqProofs (maxSteps := 2000000) only [↓wP, wQ, wQ1, wQ2, wQ3, wR, boxE, partsOf, ↓reduceIte, Nat.reduceEqDiff, Nat.reduceAdd, Nat.reduceSub, Nat.reduceLeDiff, Nat.reduceLT, Nat.reduceMul, reduceCtorEq, Int.reduceBNe, Int.reduceBEq, Int.reduceLT, Int.reduceLE, Int.reduceGT, h1]
  · simp +contextual -implicitDefEqProofs (maxSteps := 2000000) only [↓wP, wQ, wQ1, wQ2, wQ3, wR, boxE, partsOf, ↓reduceIte, Nat.reduceEqDiff, Nat.reduceAdd, Nat.reduceSub, Nat.reduceLeDiff, Nat.reduceLT, Nat.reduceMul, reduceCtorEq, Int.reduceBNe, Int.reduceBEq, Int.reduceLT, Int.reduceLE, Int.reduceGT, h1]
theorem f27 (c : Int) (fs : Bool) (σ : Sto) (n lk : Nat) : callE T fs 27 [.int .i64 c] σ n lk = some (.bool (collB c), σ, n) :=
  callE_tr (by decide) (r27 c) (by simp [Tr, Tr_slV]) rfl fs σ n lk
theorem r92 (w : Wr) (hw : Sm w.v) : res T 92 [wrV w] = some (.bool (okW w)) := by
  refine run_res (run_pure (fn := g92) rfl rfl (by decide) ?_)
  simp only [g92, b92, oO, oN, mV, lD, gO, pP, qQ, cI, aR]
  have f1 := f70 w.c
  have f2 := f71 w.v (by unfold Sm at hw; omega)
  rw [okW_eq]
  obtain ⟨c, id, g, v⟩ := w
  simp only at *
  cases hc : collB c
  · rw [hc] at f1
    simp +contextual -implicitDefEqProofs (maxSteps := 2000000) only [↓wP, wQ, wQ1, wQ2, wQ3, wR, boxE, partsOf, ↓reduceIte, Nat.reduceEqDiff, Nat.reduceAdd, Nat.reduceSub, Nat.reduceLeDiff, Nat.reduceLT, Nat.reduceMul, reduceCtorEq, Int.reduceBNe, Int.reduceBEq, Int.reduceLT, Int.reduceLE, Int.reduceGT, wrV_eq, f1]
  · rw [hc] at f1
    cases g
    · cases ho : okV v
      · rw [ho] at f2
        simp +contextual -implicitDefEqProofs (maxSteps := 2000000) only [↓wP, wQ, wQ1, wQ2, wQ3, wR, boxE, partsOf, ↓reduceIte, Nat.reduceEqDiff, Nat.reduceAdd, Nat.reduceSub, Nat.reduceLeDiff, Nat.reduceLT, Nat.reduceMul, reduceCtorEq, Int.reduceBNe, Int.reduceBEq, Int.reduceLT, Int.reduceLE, Int.reduceGT, wrV_eq, f1, f2]
      · rw [ho] at f2
        simp +contextual -implicitDefEqProofs (maxSteps := 2000000) only [↓wP, wQ, wQ1, wQ2, wQ3, wR, boxE, partsOf, ↓reduceIte, Nat.reduceEqDiff, Nat.reduceAdd, Nat.reduceSub, Nat.reduceLeDiff, Nat.reduceLT, Nat.reduceMul, reduceCtorEq, Int.reduceBNe, Int.reduceBEq, Int.reduceLT, Int.reduceLE, Int.reduceGT, wrV_eq, f1, f2]
    · by_cases hl : (lst v).length = 0
      · have hl' : (((lst v).length : Int) == 0) = true := by simp [hl]
        simp +contextual -implicitDefEqProofs (maxSteps := 2000000) only [↓wP, wQ, wQ1, wQ2, wQ3, wR, boxE, partsOf, ↓reduceIte, Nat.reduceEqDiff, Nat.reduceAdd, Nat.reduceSub, Nat.reduceLeDiff, Nat.reduceLT, Nat.reduceMul, reduceCtorEq, Int.reduceBNe, Int.reduceBEq, Int.reduceLT, Int.reduceLE, Int.reduceGT, wrV_eq, f1, f2, hl']
        simp [hl]
      · have hl' : (((lst v).length : Int) == 0) = false := by simp; exact fun h => hl (by rw [h]; rfl)
        simp +contextual -implicitDefEqProofs (maxSteps := 2000000) only [↓wP, wQ, wQ1, wQ2, wQ3, wR, boxE, partsOf, ↓reduceIte, Nat.reduceEqDiff, Nat.reduceAdd, Nat.reduceSub, Nat.reduceLeDiff, Nat.reduceLT, Nat.reduceMul, reduceCtorEq, Int.reduceBNe, Int.reduceBEq, Int.reduceLT, Int.reduceLE, Int.reduceGT, wrV_eq, f1, f2, hl']
        simp [hl]
theorem f92 (w : Wr) (hw : Sm w.v) (fs : Bool) (σ : Sto) (n lk : Nat) : callE T fs 92 [wrV w] σ n lk = some (.bool (okW w), σ, n) :=
  callE_tr (by decide) (r92 w hw) (by simp [Tr, Tr_slV]) rfl fs σ n lk
theorem r54 (a b : Wr) : res T 54 [wrV a, wrV b] = some (.bool (bef a b)) := by
  refine run_res (run_pure (fn := g54) rfl rfl (by decide) ?_)
  simp only [g54, b54, oO, oN, mV, lD, gO, pP, qQ, cI, aR]
  unfold bef
  obtain ⟨c, id, g, v⟩ := a
  obtain ⟨c', id', g', v'⟩ := b
  simp only
  by_cases h1 : c < c'
  · simp +contextual -implicitDefEqProofs (maxSteps := 2000000) only [↓wP, wQ, wQ1, wQ2, wQ3, wR, boxE, partsOf, ↓reduceIte, Nat.reduceEqDiff, Nat.reduceAdd, Nat.reduceSub, Nat.reduceLeDiff, Nat.reduceLT, Nat.reduceMul, reduceCtorEq, Int.reduceBNe, Int.reduceBEq, Int.reduceLT, Int.reduceLE, Int.reduceGT, wrV_eq, h1]
  · by_cases h2 : c = c'
    · have h2' : (c == c') = true := by simpa using h2
      simp +contextual -implicitDefEqProofs (maxSteps := 2000000) only [↓wP, wQ, wQ1, wQ2, wQ3, wR, boxE, partsOf, ↓reduceIte, Nat.reduceEqDiff, Nat.reduceAdd, Nat.reduceSub, Nat.reduceLeDiff, Nat.reduceLT, Nat.reduceMul, reduceCtorEq, Int.reduceBNe, Int.reduceBEq, Int.reduceLT, Int.reduceLE, Int.reduceGT, wrV_eq, h1, h2']
    · have h2' : (c == c') = false := by simpa using h2
      simp +contextual -implicitDefEqProofs (maxSteps := 2000000) only [↓wP, wQ, wQ1, wQ2, wQ3, wR, boxE, partsOf, ↓reduceIte, Nat.reduceEqDiff, Nat.reduceAdd, Nat.reduceSub, Nat.reduceLeDiff, Nat.reduceLT, Nat.reduceMul, reduceCtorEq, Int.reduceBNe, Int.reduceBEq, Int.reduceLT, Int.reduceLE, Int.reduceGT, wrV_eq, h1, h2']
theorem f54 (a b : Wr) (fs : Bool) (σ : Sto) (n lk : Nat) : callE T fs 54 [wrV a, wrV b] σ n lk = some (.bool (bef a b), σ, n) :=
  callE_tr (by decide) (r54 a b) (by simp [Tr, Tr_slV]) rfl fs σ n lk
def cmpW (a b : Wr) : Int := if cmpU a.c b.c = 0 then cmpU a.id b.id else cmpU a.c b.c
theorem cmpW_lt (a b : Wr) : decide (cmpW a b < 0) = bef a b := by
  unfold cmpW cmpU bef
  by_cases h1 : a.c < b.c
  · simp [h1]
  · by_cases h2 : b.c < a.c
    · have : a.c ≠ b.c := by omega
      simp [h1, h2, this]
    · have e : a.c = b.c := by omega
      by_cases h3 : a.id < b.id
      · simp [e, h3]
      · by_cases h4 : b.id < a.id <;> simp [e, h3, h4]
theorem r93 (a b : Wr) : res T 93 [wrV a, wrV b] = some (.int .i64 (cmpW a b)) := by
  refine run_res (run_pure (fn := g93) rfl rfl (by decide) ?_)
  simp only [g93, b93, oO, oN, mV, lD, gO, pP, qQ, cI, aR]
  have h26 := r109 (cmpU a.c b.c) (cmpU a.id b.id)
  have hm26 : T.mode 109 ≠ .raw := by decide
  simp +contextual -implicitDefEqProofs (maxSteps := 2000000) only [↓wP, wQ, wQ1, wQ2, wQ3, wR, boxE, partsOf, ↓reduceIte, Nat.reduceEqDiff, Nat.reduceAdd, Nat.reduceSub, Nat.reduceLeDiff, Nat.reduceLT, Nat.reduceMul, reduceCtorEq, Int.reduceBNe, Int.reduceBEq, Int.reduceLT, Int.reduceLE, Int.reduceGT, wrV_eq, f77, f110, callE_eq hm26, frz_rf, h26]
  rfl
theorem f93 (a b : Wr) (fs : Bool) (σ : Sto) (n lk : Nat) : callE T fs 93 [wrV a, wrV b] σ n lk = some (.int .i64 (cmpW a b), σ, n) :=
  callE_tr (by decide) (r93 a b) (by simp [Tr, Tr_slV]) rfl fs σ n lk
def SmW (l : Option (List Wr)) : Prop := (lst l).length < 4611686018427387904 ∧ ∀ w ∈ lst l, Sm w.v
end Go.Q.S18
end

section
/- Writes: both checks; keys and times of facts. -/
set_option linter.unusedSimpArgs false
set_option linter.unusedVariables false
namespace Go.Q.S18
open Go.Q
theorem r45 (o : Option (List Wr)) (h : SmW o) : res T 45 [slV 4 wrV o] = some (.int .i64 (if rightW (lst o) then 0 else 260)) := by
  refine run_res (run_pure (fn := g45) rfl rfl (by decide) ?_)
  simp only [g45, b45, oO, oN, mV, lD, gO, pP, qQ, cI, aR]
  have hl := h.1
  obtain ⟨A, hA⟩ : ∃ A, A = decide ((lst o).length ≤ 12) := ⟨_, rfl⟩
  have hA' : decide (((lst o).length : Int) ≤ 12) = A := by rw [hA]; exact decide_eq_decide.2 (by omega)
  simp +contextual -implicitDefEqProofs (maxSteps := 2000000) only [↓wP, wQ, wQ1, wQ2, wQ3, wR, boxE, partsOf, ↓reduceIte, Nat.reduceEqDiff, Nat.reduceAdd, Nat.reduceSub, Nat.reduceLeDiff, Nat.reduceLT, Nat.reduceMul, reduceCtorEq, Int.reduceBNe, Int.reduceBEq, Int.reduceLT, Int.reduceLE, Int.reduceGT, hA']
  refine WC_for (lst o).length 0 (fun (j : Nat) env σ n => env 0 = slV 4 wrV o ∧ env 9 = slV 4 wrV o ∧ env 3 = .bool (A && wU (lst o) j)) (by omega) (by decide) (by decide) (fun _ _ => rfl) (fun _ _ _ => rfl) ?_ ?_ _ _ _ rfl rfl ?_
  · intro j env σ n hj h1 h2 ⟨g1, g2, g3⟩
    simp only [vl_tmp] at h2
    have hx : (lst o)[j]? = some (lst o)[j] := List.getElem?_eq_getElem hj
    have hw := h.2 _ (List.getElem_mem hj)
    have hst := wU_step hj
    obtain ⟨w, hwx⟩ : ∃ w, w = (lst o)[j] := ⟨_, rfl⟩
    rw [← hwx] at hx hw hst
    have f := f92 w hw
    rw [wrV_eq] at f
    have y0 : ∀ σ' : Sto, ∀ hid, hide σ' (n + 1) (n + 1) hid n = σ' n := fun σ' hid => hide_low _ _ _ _ (by omega) (Nat.le_refl _)
    cases hB : (A && wU (lst o) j)
    · rw [hB] at g3
      have e : (A && wU (lst o) (j + 1)) = false := by rw [hst, ← Bool.and_assoc, hB]; rfl
      simp +contextual -implicitDefEqProofs (maxSteps := 2000000) only [↓wP, wQ, wQ1, wQ2, wQ3, wR, boxE, partsOf, ↓reduceIte, Nat.reduceEqDiff, Nat.reduceAdd, Nat.reduceSub, Nat.reduceLeDiff, Nat.reduceLT, Nat.reduceMul, reduceCtorEq, Int.reduceBNe, Int.reduceBEq, Int.reduceLT, Int.reduceLE, Int.reduceGT, h1, h2, g1, g2, g3, hx, wrV_eq]
      rw [e]
    · rw [hB] at g3
      have e : (A && wU (lst o) (j + 1)) = okN (lst o) j w := by rw [hst, ← Bool.and_assoc, hB, Bool.true_and]
      rw [e]
      cases ho : okW w
      · rw [ho] at f
        have e2 : okN (lst o) j w = false := by unfold okN; rw [ho]; rfl
        simp +contextual -implicitDefEqProofs (maxSteps := 2000000) only [↓wP, wQ, wQ1, wQ2, wQ3, wR, boxE, partsOf, ↓reduceIte, Nat.reduceEqDiff, Nat.reduceAdd, Nat.reduceSub, Nat.reduceLeDiff, Nat.reduceLT, Nat.reduceMul, reduceCtorEq, Int.reduceBNe, Int.reduceBEq, Int.reduceLT, Int.reduceLE, Int.reduceGT, h1, h2, g1, g2, g3, hx, wrV_eq, f]
        rw [e2]
      · rw [ho] at f
        by_cases hj0 : j = 0
        · have hz : ((j : Int) == 0) = true := by simp [hj0]
          have e2 : okN (lst o) j w = true := by subst hj0; unfold okN; rw [ho]; rfl
          simp +contextual -implicitDefEqProofs (maxSteps := 2000000) only [↓wP, wQ, wQ1, wQ2, wQ3, wR, boxE, partsOf, ↓reduceIte, Nat.reduceEqDiff, Nat.reduceAdd, Nat.reduceSub, Nat.reduceLeDiff, Nat.reduceLT, Nat.reduceMul, reduceCtorEq, Int.reduceBNe, Int.reduceBEq, Int.reduceLT, Int.reduceLE, Int.reduceGT, h1, h2, g1, g2, g3, hx, wrV_eq, f, hz]
          rw [e2]
        · have hz : ((j : Int) == 0) = false := by simp [hj0]
          have wj : IntKind.i64.wrap ((j : Int) - 1) = ((j - 1 : Nat) : Int) := by rw [wrap_i64] <;> omega
          have hx2 : (lst o)[j - 1]? = some (lst o)[j - 1] := List.getElem?_eq_getElem (by omega)
          obtain ⟨p, hp⟩ : ∃ p, p = (lst o)[j - 1] := ⟨_, rfl⟩
          rw [← hp] at hx2
          have e2 : okN (lst o) j w = decide (cmpW p w < 0) := by
            rw [cmpW_lt]
            obtain ⟨i, rfl⟩ : ∃ i, j = i + 1 := ⟨j - 1, by omega⟩
            unfold okN
            rw [show i + 1 - 1 = i from rfl] at hx2
            simp [hx2, ho]
          have fc := f93 p w
          rw [wrV_eq, wrV_eq] at fc
          simp +contextual -implicitDefEqProofs (maxSteps := 2000000) only [↓wP, wQ, wQ1, wQ2, wQ3, wR, boxE, partsOf, ↓reduceIte, Nat.reduceEqDiff, Nat.reduceAdd, Nat.reduceSub, Nat.reduceLeDiff, Nat.reduceLT, Nat.reduceMul, reduceCtorEq, Int.reduceBNe, Int.reduceBEq, Int.reduceLT, Int.reduceLE, Int.reduceGT, h1, h2, g1, g2, g3, hx, hx2, wrV_eq, f, hz, wj, y0, upd_self, fc]
          rw [e2]
  · intro env σ n ⟨g1, g2, g3⟩ h1 h2
    have e : (A && wU (lst o) (lst o).length) = rightW (lst o) := by rw [hA]; rfl
    rw [e] at g3
    cases hr : rightW (lst o)
    · rw [hr] at g3
      simp +contextual -implicitDefEqProofs (maxSteps := 2000000) only [↓wP, wQ, wQ1, wQ2, wQ3, wR, boxE, partsOf, ↓reduceIte, Nat.reduceEqDiff, Nat.reduceAdd, Nat.reduceSub, Nat.reduceLeDiff, Nat.reduceLT, Nat.reduceMul, reduceCtorEq, Int.reduceBNe, Int.reduceBEq, Int.reduceLT, Int.reduceLE, Int.reduceGT, g3]
    · rw [hr] at g3
      simp +contextual -implicitDefEqProofs (maxSteps := 2000000) only [↓wP, wQ, wQ1, wQ2, wQ3, wR, boxE, partsOf, ↓reduceIte, Nat.reduceEqDiff, Nat.reduceAdd, Nat.reduceSub, Nat.reduceLeDiff, Nat.reduceLT, Nat.reduceMul, reduceCtorEq, Int.reduceBNe, Int.reduceBEq, Int.reduceLT, Int.reduceLE, Int.reduceGT, g3]
  · simp +contextual -implicitDefEqProofs (maxSteps := 2000000) only [↓wP, wQ, wQ1, wQ2, wQ3, wR, boxE, partsOf, ↓reduceIte, Nat.reduceEqDiff, Nat.reduceAdd, Nat.reduceSub, Nat.reduceLeDiff, Nat.reduceLT, Nat.reduceMul, reduceCtorEq, Int.reduceBNe, Int.reduceBEq, Int.reduceLT, Int.reduceLE, Int.reduceGT]
    rw [show wU (lst o) 0 = true from rfl, Bool.and_true]
theorem f45 (o : Option (List Wr)) (h : SmW o) (fs : Bool) (σ : Sto) (n lk : Nat) : callE T fs 45 [slV 4 wrV o] σ n lk = some (.int .i64 (if rightW (lst o) then 0 else 260), σ, n) :=
  callE_tr (by decide) (r45 o h) (by simp [Tr, Tr_slV]) rfl fs σ n lk
theorem r16 (o : Option (List Wr)) (h : SmW o) : res T 16 [slV 4 wrV o] = some (.bool (rightW (lst o))) := by
  refine run_res (run_pure (fn := g16) rfl rfl (by decide) ?_)
  simp only [g16, b16, oO, oN, mV, lD, gO, pP, qQ, cI, aR]
  have hl := h.1
  simp +contextual -implicitDefEqProofs (maxSteps := 2000000) only [↓wP, wQ, wQ1, wQ2, wQ3, wR, boxE, partsOf, ↓reduceIte, Nat.reduceEqDiff, Nat.reduceAdd, Nat.reduceSub, Nat.reduceLeDiff, Nat.reduceLT, Nat.reduceMul, reduceCtorEq, Int.reduceBNe, Int.reduceBEq, Int.reduceLT, Int.reduceLE, Int.reduceGT]
  refine WC_for (lst o).length 0 (fun (j : Nat) env σ n => env 0 = slV 4 wrV o ∧ env 5 = slV 4 wrV o ∧ wU (lst o) j = true) (by omega) (by decide) (by decide) (fun _ _ => rfl) (fun _ _ _ => rfl) ?_ ?_ _ _ _ rfl rfl ?_
  · intro j env σ n hj h1 h2 ⟨g1, g2, g3⟩
    simp only [vl_tmp] at h2
    have hx : (lst o)[j]? = some (lst o)[j] := List.getElem?_eq_getElem hj
    have hw := h.2 _ (List.getElem_mem hj)
    have hst := wU_step hj
    obtain ⟨w, hwx⟩ : ∃ w, w = (lst o)[j] := ⟨_, rfl⟩
    rw [← hwx] at hx hw hst
    rw [g3, Bool.true_and] at hst
    have hno : okN (lst o) j w = false → rightW (lst o) = false := by
      intro hk
      unfold rightW
      rw [wU_no (by rw [hst, hk]) _ (by omega : j + 1 ≤ (lst o).length)]
      simp
    have f1 := f27 w.c
    have f2 := f53 w.v (by unfold Sm at hw; omega)
    have y0 : ∀ σ' : Sto, ∀ hid, hide σ' (n + 1) (n + 1) hid n = σ' n := fun σ' hid => hide_low _ _ _ _ (by omega) (Nat.le_refl _)
    have hok := okW_eq w
    cases hc : collB w.c
    · rw [hc] at f1
      have hk : okN (lst o) j w = false := by unfold okN; rw [hok, hc]; rfl
      simp +contextual -implicitDefEqProofs (maxSteps := 2000000) only [↓wP, wQ, wQ1, wQ2, wQ3, wR, boxE, partsOf, ↓reduceIte, Nat.reduceEqDiff, Nat.reduceAdd, Nat.reduceSub, Nat.reduceLeDiff, Nat.reduceLT, Nat.reduceMul, reduceCtorEq, Int.reduceBNe, Int.reduceBEq, Int.reduceLT, Int.reduceLE, Int.reduceGT, h1, h2, g1, g2, hx, wrV_eq, upd_self, f1]
      rw [hno hk]
    · rw [hc] at f1
      rw [hc, Bool.true_and] at hok
      cases hg : w.g
      · rw [hg] at hok
        simp only [Bool.false_eq_true, if_false] at hok
        cases ho : okV w.v
        · rw [ho] at f2
          have hk : okN (lst o) j w = false := by unfold okN; rw [hok, ho]; rfl
          simp +contextual -implicitDefEqProofs (maxSteps := 2000000) only [↓wP, wQ, wQ1, wQ2, wQ3, wR, boxE, partsOf, ↓reduceIte, Nat.reduceEqDiff, Nat.reduceAdd, Nat.reduceSub, Nat.reduceLeDiff, Nat.reduceLT, Nat.reduceMul, reduceCtorEq, Int.reduceBNe, Int.reduceBEq, Int.reduceLT, Int.reduceLE, Int.reduceGT, h1, h2, g1, g2, hx, wrV_eq, upd_self, f1, hg, f2]
          rw [hno hk]
        · rw [ho] at f2 hok
          by_cases hj0 : j = 0
          · have hz : ¬ ((0 : Int) < (j : Int)) := by omega
            have hk : okN (lst o) j w = true := by subst hj0; unfold okN; rw [hok]; rfl
            simp +contextual -implicitDefEqProofs (maxSteps := 2000000) only [↓wP, wQ, wQ1, wQ2, wQ3, wR, boxE, partsOf, ↓reduceIte, Nat.reduceEqDiff, Nat.reduceAdd, Nat.reduceSub, Nat.reduceLeDiff, Nat.reduceLT, Nat.reduceMul, reduceCtorEq, Int.reduceBNe, Int.reduceBEq, Int.reduceLT, Int.reduceLE, Int.reduceGT, h1, h2, g1, g2, hx, wrV_eq, upd_self, f1, hg, f2, hz]
            rw [hst, hk]
          · have hz : (0 : Int) < (j : Int) := by omega
            have wj : IntKind.i64.wrap ((j : Int) - 1) = ((j - 1 : Nat) : Int) := by rw [wrap_i64] <;> omega
            have hx2 : (lst o)[j - 1]? = some (lst o)[j - 1] := List.getElem?_eq_getElem (by omega)
            obtain ⟨p, hp⟩ : ∃ p, p = (lst o)[j - 1] := ⟨_, rfl⟩
            rw [← hp] at hx2
            have hk : okN (lst o) j w = bef p w := by
              obtain ⟨i, rfl⟩ : ∃ i, j = i + 1 := ⟨j - 1, by omega⟩
              unfold okN
              rw [show i + 1 - 1 = i from rfl] at hx2
              simp [hx2, hok]
            have fb := f54 p w
            rw [wrV_eq, wrV_eq, hg] at fb
            cases hb : bef p w
            · rw [hb] at fb hk
              simp +contextual -implicitDefEqProofs (maxSteps := 2000000) only [↓wP, wQ, wQ1, wQ2, wQ3, wR, boxE, partsOf, ↓reduceIte, Nat.reduceEqDiff, Nat.reduceAdd, Nat.reduceSub, Nat.reduceLeDiff, Nat.reduceLT, Nat.reduceMul, reduceCtorEq, Int.reduceBNe, Int.reduceBEq, Int.reduceLT, Int.reduceLE, Int.reduceGT, h1, h2, g1, g2, hx, hx2, wrV_eq, upd_self, f1, hg, f2, hz, wj, y0, fb]
              rw [hno hk]
            · rw [hb] at fb hk
              simp +contextual -implicitDefEqProofs (maxSteps := 2000000) only [↓wP, wQ, wQ1, wQ2, wQ3, wR, boxE, partsOf, ↓reduceIte, Nat.reduceEqDiff, Nat.reduceAdd, Nat.reduceSub, Nat.reduceLeDiff, Nat.reduceLT, Nat.reduceMul, reduceCtorEq, Int.reduceBNe, Int.reduceBEq, Int.reduceLT, Int.reduceLE, Int.reduceGT, h1, h2, g1, g2, hx, hx2, wrV_eq, upd_self, f1, hg, f2, hz, wj, y0, fb]
              rw [hst, hk]
      · rw [hg] at hok
        simp only [if_true] at hok
        by_cases hl0 : (lst w.v).length = 0
        · have f2' : ¬ ((0 : Int) < ((lst w.v).length : Int)) := by omega
          rw [decide_eq_true hl0] at hok
          by_cases hj0 : j = 0
          · have hz : ¬ ((0 : Int) < (j : Int)) := by omega
            have hk : okN (lst o) j w = true := by subst hj0; unfold okN; rw [hok]; rfl
            simp +contextual -implicitDefEqProofs (maxSteps := 2000000) only [↓wP, wQ, wQ1, wQ2, wQ3, wR, boxE, partsOf, ↓reduceIte, Nat.reduceEqDiff, Nat.reduceAdd, Nat.reduceSub, Nat.reduceLeDiff, Nat.reduceLT, Nat.reduceMul, reduceCtorEq, Int.reduceBNe, Int.reduceBEq, Int.reduceLT, Int.reduceLE, Int.reduceGT, h1, h2, g1, g2, hx, wrV_eq, upd_self, f1, hg, f2', hz]
            rw [hst, hk]
          · have hz : (0 : Int) < (j : Int) := by omega
            have wj : IntKind.i64.wrap ((j : Int) - 1) = ((j - 1 : Nat) : Int) := by rw [wrap_i64] <;> omega
            have hx2 : (lst o)[j - 1]? = some (lst o)[j - 1] := List.getElem?_eq_getElem (by omega)
            obtain ⟨p, hp⟩ : ∃ p, p = (lst o)[j - 1] := ⟨_, rfl⟩
            rw [← hp] at hx2
            have hk : okN (lst o) j w = bef p w := by
              obtain ⟨i, rfl⟩ : ∃ i, j = i + 1 := ⟨j - 1, by omega⟩
              unfold okN
              rw [show i + 1 - 1 = i from rfl] at hx2
              simp [hx2, hok]
            have fb := f54 p w
            rw [wrV_eq, wrV_eq, hg] at fb
            cases hb : bef p w
            · rw [hb] at fb hk
              simp +contextual -implicitDefEqProofs (maxSteps := 2000000) only [↓wP, wQ, wQ1, wQ2, wQ3, wR, boxE, partsOf, ↓reduceIte, Nat.reduceEqDiff, Nat.reduceAdd, Nat.reduceSub, Nat.reduceLeDiff, Nat.reduceLT, Nat.reduceMul, reduceCtorEq, Int.reduceBNe, Int.reduceBEq, Int.reduceLT, Int.reduceLE, Int.reduceGT, h1, h2, g1, g2, hx, hx2, wrV_eq, upd_self, f1, hg, f2', hz, wj, y0, fb]
              rw [hno hk]
            · rw [hb] at fb hk
              simp +contextual -implicitDefEqProofs (maxSteps := 2000000) only [↓wP, wQ, wQ1, wQ2, wQ3, wR, boxE, partsOf, ↓reduceIte, Nat.reduceEqDiff, Nat.reduceAdd, Nat.reduceSub, Nat.reduceLeDiff, Nat.reduceLT, Nat.reduceMul, reduceCtorEq, Int.reduceBNe, Int.reduceBEq, Int.reduceLT, Int.reduceLE, Int.reduceGT, h1, h2, g1, g2, hx, hx2, wrV_eq, upd_self, f1, hg, f2', hz, wj, y0, fb]
              rw [hst, hk]
        · have f2' : (0 : Int) < ((lst w.v).length : Int) := by omega
          have hk : okN (lst o) j w = false := by unfold okN; rw [hok, decide_eq_false hl0]; rfl
          simp +contextual -implicitDefEqProofs (maxSteps := 2000000) only [↓wP, wQ, wQ1, wQ2, wQ3, wR, boxE, partsOf, ↓reduceIte, Nat.reduceEqDiff, Nat.reduceAdd, Nat.reduceSub, Nat.reduceLeDiff, Nat.reduceLT, Nat.reduceMul, reduceCtorEq, Int.reduceBNe, Int.reduceBEq, Int.reduceLT, Int.reduceLE, Int.reduceGT, h1, h2, g1, g2, hx, wrV_eq, upd_self, f1, hg, f2']
          rw [hno hk]
  · intro env σ n ⟨g1, g2, g3⟩ h1 h2
    unfold rightW
    rw [g3, Bool.and_true]
    by_cases h12 : (lst o).length ≤ 12
    · have h12' : ((lst o).length : Int) ≤ 12 := by omega
      simp +contextual -implicitDefEqProofs (maxSteps := 2000000) only [↓wP, wQ, wQ1, wQ2, wQ3, wR, boxE, partsOf, ↓reduceIte, Nat.reduceEqDiff, Nat.reduceAdd, Nat.reduceSub, Nat.reduceLeDiff, Nat.reduceLT, Nat.reduceMul, reduceCtorEq, Int.reduceBNe, Int.reduceBEq, Int.reduceLT, Int.reduceLE, Int.reduceGT, g1, h12', h12]
    · have h12' : ¬ ((lst o).length : Int) ≤ 12 := by omega
      simp +contextual -implicitDefEqProofs (maxSteps := 2000000) only [↓wP, wQ, wQ1, wQ2, wQ3, wR, boxE, partsOf, ↓reduceIte, Nat.reduceEqDiff, Nat.reduceAdd, Nat.reduceSub, Nat.reduceLeDiff, Nat.reduceLT, Nat.reduceMul, reduceCtorEq, Int.reduceBNe, Int.reduceBEq, Int.reduceLT, Int.reduceLE, Int.reduceGT, g1, h12', h12]
  · simp +contextual -implicitDefEqProofs (maxSteps := 2000000) only [↓wP, wQ, wQ1, wQ2, wQ3, wR, boxE, partsOf, ↓reduceIte, Nat.reduceEqDiff, Nat.reduceAdd, Nat.reduceSub, Nat.reduceLeDiff, Nat.reduceLT, Nat.reduceMul, reduceCtorEq, Int.reduceBNe, Int.reduceBEq, Int.reduceLT, Int.reduceLE, Int.reduceGT]
    rfl
theorem f16 (o : Option (List Wr)) (h : SmW o) (fs : Bool) (σ : Sto) (n lk : Nat) : callE T fs 16 [slV 4 wrV o] σ n lk = some (.bool (rightW (lst o)), σ, n) :=
  callE_tr (by decide) (r16 o h) (by simp [Tr, Tr_slV]) rfl fs σ n lk
theorem r62 (l : Option (List Wr)) (h : SmW l) : res T 62 [slV 4 wrV l] = some (.bool (rightW (lst l))) := by
  refine run_res (run_pure (fn := g62) rfl rfl (by decide) ?_)
  simp only [g62, b62, oO, oN, mV, lD, gO, pP, qQ, cI, aR]
  have f := f45 l h
  cases hr : rightW (lst l)
  · rw [hr] at f
    simp +contextual -implicitDefEqProofs (maxSteps := 2000000) only [↓wP, wQ, wQ1, wQ2, wQ3, wR, boxE, partsOf, ↓reduceIte, Nat.reduceEqDiff, Nat.reduceAdd, Nat.reduceSub, Nat.reduceLeDiff, Nat.reduceLT, Nat.reduceMul, reduceCtorEq, Int.reduceBNe, Int.reduceBEq, Int.reduceLT, Int.reduceLE, Int.reduceGT, f]
  · rw [hr] at f
    simp +contextual -implicitDefEqProofs (maxSteps := 2000000) only [↓wP, wQ, wQ1, wQ2, wQ3, wR, boxE, partsOf, ↓reduceIte, Nat.reduceEqDiff, Nat.reduceAdd, Nat.reduceSub, Nat.reduceLeDiff, Nat.reduceLT, Nat.reduceMul, reduceCtorEq, Int.reduceBNe, Int.reduceBEq, Int.reduceLT, Int.reduceLE, Int.reduceGT, f]
theorem f62 (l : Option (List Wr)) (h : SmW l) (fs : Bool) (σ : Sto) (n lk : Nat) : callE T fs 62 [slV 4 wrV l] σ n lk = some (.bool (rightW (lst l)), σ, n) :=
  callE_tr (by decide) (r62 l h) (by simp [Tr, Tr_slV]) rfl fs σ n lk
def kyV (k : Ky) : V := .agg [.int .i64 k.1, .int .u64 k.2]
theorem r47 (w : Wr) : res T 47 [wrV w] = some (kyV (key w)) := by
  refine run_res (run_pure (fn := g47) rfl rfl (by decide) ?_)
  simp only [g47, b47, oO, oN, mV, lD, gO, pP, qQ, cI, aR]
  simp +contextual -implicitDefEqProofs (maxSteps := 2000000) only [↓wP, wQ, wQ1, wQ2, wQ3, wR, boxE, partsOf, ↓reduceIte, Nat.reduceEqDiff, Nat.reduceAdd, Nat.reduceSub, Nat.reduceLeDiff, Nat.reduceLT, Nat.reduceMul, reduceCtorEq, Int.reduceBNe, Int.reduceBEq, Int.reduceLT, Int.reduceLE, Int.reduceGT, wrV_eq, kyV]
  rfl
theorem f47 (w : Wr) (fs : Bool) (σ : Sto) (n lk : Nat) : callE T fs 47 [wrV w] σ n lk = some (kyV (key w), σ, n) := callE_tr (by decide) (r47 w) (by simp) rfl fs σ n lk
def lastT (l : List Fa) : Int := match l.getLast? with | some f => f.ts | none => 0
theorem r46 (l : Option (List Fa)) (hl : (lst l).length < 4611686018427387904) : res T 46 [slV 5 faV l] = some (.int .u64 (lastT (lst l))) := by
  refine run_res (run_pure (fn := g46) rfl rfl (by decide) ?_)
  simp only [g46, b46, oO, oN, mV, lD, gO, pP, qQ, cI, aR]
  unfold lastT
  by_cases h0 : lst l = []
  · have z0 : (((0 : Nat) : Int) == 0) = true := rfl
    simp +contextual -implicitDefEqProofs (maxSteps := 2000000) only [↓wP, wQ, wQ1, wQ2, wQ3, wR, boxE, partsOf, ↓reduceIte, Nat.reduceEqDiff, Nat.reduceAdd, Nat.reduceSub, Nat.reduceLeDiff, Nat.reduceLT, Nat.reduceMul, reduceCtorEq, Int.reduceBNe, Int.reduceBEq, Int.reduceLT, Int.reduceLE, Int.reduceGT, h0, List.length_nil, z0]
    rfl
  · have hp : 0 < (lst l).length := List.length_pos_iff.2 h0
    have z0 : (((lst l).length : Int) == 0) = false := by simp; exact h0
    have wj : IntKind.i64.wrap (((lst l).length : Int) - 1) = (((lst l).length - 1 : Nat) : Int) := by rw [wrap_i64] <;> omega
    have hx : (lst l)[(lst l).length - 1]? = some (lst l)[(lst l).length - 1] := List.getElem?_eq_getElem (by omega)
    have hg : (lst l).getLast? = some (lst l)[(lst l).length - 1] := by rw [List.getLast?_eq_getElem?]; exact hx
    rw [hg]
    generalize (lst l)[(lst l).length - 1] = f at *
    simp +contextual -implicitDefEqProofs (maxSteps := 2000000) only [↓wP, wQ, wQ1, wQ2, wQ3, wR, boxE, partsOf, ↓reduceIte, Nat.reduceEqDiff, Nat.reduceAdd, Nat.reduceSub, Nat.reduceLeDiff, Nat.reduceLT, Nat.reduceMul, reduceCtorEq, Int.reduceBNe, Int.reduceBEq, Int.reduceLT, Int.reduceLE, Int.reduceGT, z0, wj, hx, faV_eq]
theorem f46 (l : Option (List Fa)) (hl : (lst l).length < 4611686018427387904) (fs : Bool) (σ : Sto) (n lk : Nat) : callE T fs 46 [slV 5 faV l] σ n lk = some (.int .u64 (lastT (lst l)), σ, n) :=
  callE_tr (by decide) (r46 l hl) (by simp [Tr, Tr_slV]) rfl fs σ n lk
theorem r26 (l : Option (List Fa)) (hl : (lst l).length < 4611686018427387904) : res T 26 [slV 5 faV l] = some (.int .u64 (lastT (lst l))) := by
  refine run_res (run_pure (fn := g26) rfl rfl (by decide) ?_)
  simp only [g26, b26, oO, oN, mV, lD, gO, pP, qQ, cI, aR]
  unfold lastT
  by_cases h0 : lst l = []
  · have z0 : (((0 : Nat) : Int) == 0) = true := rfl
    simp +contextual -implicitDefEqProofs (maxSteps := 2000000) only [↓wP, wQ, wQ1, wQ2, wQ3, wR, boxE, partsOf, ↓reduceIte, Nat.reduceEqDiff, Nat.reduceAdd, Nat.reduceSub, Nat.reduceLeDiff, Nat.reduceLT, Nat.reduceMul, reduceCtorEq, Int.reduceBNe, Int.reduceBEq, Int.reduceLT, Int.reduceLE, Int.reduceGT, h0, List.length_nil, z0]
    rfl
  · have hp : 0 < (lst l).length := List.length_pos_iff.2 h0
    have z0 : (((lst l).length : Int) == 0) = false := by simp; exact h0
    have wj : IntKind.i64.wrap (((lst l).length : Int) - 1) = (((lst l).length - 1 : Nat) : Int) := by rw [wrap_i64] <;> omega
    have hx : (lst l)[(lst l).length - 1]? = some (lst l)[(lst l).length - 1] := List.getElem?_eq_getElem (by omega)
    have hg : (lst l).getLast? = some (lst l)[(lst l).length - 1] := by rw [List.getLast?_eq_getElem?]; exact hx
    rw [hg]
    generalize (lst l)[(lst l).length - 1] = f at *
    simp +contextual -implicitDefEqProofs (maxSteps := 2000000) only [↓wP, wQ, wQ1, wQ2, wQ3, wR, boxE, partsOf, ↓reduceIte, Nat.reduceEqDiff, Nat.reduceAdd, Nat.reduceSub, Nat.reduceLeDiff, Nat.reduceLT, Nat.reduceMul, reduceCtorEq, Int.reduceBNe, Int.reduceBEq, Int.reduceLT, Int.reduceLE, Int.reduceGT, z0, wj, hx, faV_eq]
theorem f26 (l : Option (List Fa)) (hl : (lst l).length < 4611686018427387904) (fs : Bool) (σ : Sto) (n lk : Nat) : callE T fs 26 [slV 5 faV l] σ n lk = some (.int .u64 (lastT (lst l)), σ, n) :=
  callE_tr (by decide) (r26 l hl) (by simp [Tr, Tr_slV]) rfl fs σ n lk
end Go.Q.S18
end

section
/- Dimensions; the law's own facts and writes. -/
set_option linter.unusedSimpArgs false
set_option linter.unusedVariables false
namespace Go.Q.S18
open Go.Q
def iV (x : Int) : V := .int .i64 x
theorem keyInt : KeyOk (.one .int) iV := fun a b => rfl
def SmF (l : Option (List Fa)) : Prop := (lst l).length < 4611686018427387904 ∧ ∀ f ∈ lst l, Sm f.w.v
theorem dimU_step {l : List Fa} {n : Nat} (hn : n < l.length) : dimU l (n + 1) = (dimU l n && dim1 l n l[n]) := by
  show (dimU l n && _) = _
  rw [List.getElem?_eq_getElem hn]
theorem dimU_no {l : List Fa} {n : Nat} (h : dimU l n = false) : ∀ m, n ≤ m → dimU l m = false
  | 0, hm => by have : n = 0 := by omega
                subst this; cases h
  | m + 1, hm => by
    by_cases e : n = m + 1
    · subst e; exact h
    · show (dimU l m && _) = false
      rw [dimU_no h m (by omega)]; rfl
theorem r49 (l : Option (List Fa)) (h : SmF l) : res T 49 [slV 5 faV l] = some (.bool (dimB (lst l))) := by
  refine run_res (run_pure (fn := g49) rfl rfl (by decide) ?_)
  simp only [g49, b49, oO, oN, mV, lD, gO, pP, qQ, cI, aR]
  have hl := h.1
  simp +contextual -implicitDefEqProofs (maxSteps := 2000000) only [↓wP, wQ, wQ1, wQ2, wQ3, wR, boxE, partsOf, ↓reduceIte, Nat.reduceEqDiff, Nat.reduceAdd, Nat.reduceSub, Nat.reduceLeDiff, Nat.reduceLT, Nat.reduceMul, reduceCtorEq, Int.reduceBNe, Int.reduceBEq, Int.reduceLT, Int.reduceLE, Int.reduceGT]
  refine WC_for (lst l).length 0 (fun (j : Nat) env σ n => env 10 = slV 5 faV l ∧ env 3 = .mp 0 ∧ 1 ≤ n ∧ dimU (lst l) j = true ∧ ∃ Lm clk, MOk Lm clk ∧ σ 0 = some (.map (ens iV iV Lm) clk) ∧ ∀ c, vw Lm c = dmp ((lst l).take j) c) (by omega) (by decide) (by decide) (fun _ _ => rfl) (fun _ _ _ => rfl) ?_ ?_ _ _ _ rfl rfl ?_
  · intro j env σ n hj h1 h2 ⟨g1, g2, g3, g4, Lm, clk, m1, m2, m3⟩
    simp only [vl_tmp] at h2
    have hx : (lst l)[j]? = some (lst l)[j] := List.getElem?_eq_getElem hj
    have hst := dimU_step hj
    rw [g4, Bool.true_and] at hst
    have hds := dmp_snoc ((lst l).take j) (lst l)[j]
    rw [List.take_append_getElem hj] at hds
    have hno : dim1 (lst l) j (lst l)[j] = false → dimB (lst l) = false := fun hk => dimU_no (by rw [hst, hk]) _ (by omega)
    generalize (lst l)[j] = x at *
    obtain ⟨σ1, hσ1⟩ : ∃ σ1, σ1 = upd (upd (upd (upd σ n (some (.row 5 [.agg [.int .u64 0, .int .i64 0, .int .u64 0, .bool false, .nilS]]))) n (some (.row 5 [.agg [.int .u64 x.ts, .int .i64 x.w.c, .int .u64 x.w.id, .bool x.w.g, slV 1 i32V x.w.v]]))) (n + 1) (some (.row 4 [.agg [.int .i64 0, .int .u64 0, .bool false, .nilS]]))) (n + 1) (some (.row 4 [.agg [.int .i64 x.w.c, .int .u64 x.w.id, .bool x.w.g, slV 1 i32V x.w.v]])) := ⟨_, rfl⟩
    have so : ∀ i, i < n → σ1 i = σ i := fun i hi => by rw [hσ1, upd_ne (by omega), upd_ne (by omega), upd_ne (by omega), upd_ne (by omega)]
    have sn : σ1 (n + 1) = some (.row 4 [.agg [.int .i64 x.w.c, .int .u64 x.w.id, .bool x.w.g, slV 1 i32V x.w.v]]) := by rw [hσ1, upd_self]
    have s0 : σ1 0 = some (.map (ens iV iV Lm) clk) := by rw [so 0 (by omega)]; exact m2
    have q0 : (0 = n) = False := by simp; omega
    cases hg : x.w.g
    all_goals rw [hg] at hσ1 sn
    · have hmg : mgetE true (.one .int) (.int .i64 0) (some (ens iV iV Lm)) (.int .i64 x.w.c) = some (.tup [.int .i64 ((vw Lm x.w.c).getD 0), .bool (vw Lm x.w.c).isSome]) := by
        have := mget_ens (ve := iV) keyInt true (.int .i64 0) x.w.c Lm
        simp only [iV] at this
        rw [this]
        cases vw Lm x.w.c <;> rfl
      have pu := mupd_ens (ke := iV) (ve := iV) (lk := 0) keyInt m1 s0 (Nat.zero_le _) x.w.c ((lst x.w.v).length : Int) (n + 2)
      simp only [iV] at pu
      have hnew : ∀ c, vw (mput Lm clk x.w.c ((lst x.w.v).length : Int)).1 c = dmp ((lst l).take (j + 1)) c := by
        intro c
        rw [vw_mput, hds, hg]
        by_cases e : c = x.w.c
        · subst e; simp
        · rw [if_neg e, if_neg (by simp), if_neg (fun h => e h.symm), m3]
      have hd1 : dim1 (lst l) j x = (match vw Lm x.w.c with | some n => n == ((lst x.w.v).length : Int) | none => true) := by
        unfold dim1; rw [hg, m3]; rfl
      cases hv : vw Lm x.w.c
      · rw [hv] at hmg hd1
        simp only [Option.getD_none, Option.isSome_none] at hmg
        simp +contextual -implicitDefEqProofs (maxSteps := 2000000) only [↓wP, wQ, wQ1, wQ2, wQ3, wR, boxE, partsOf, ↓reduceIte, Nat.reduceEqDiff, Nat.reduceAdd, Nat.reduceSub, Nat.reduceLeDiff, Nat.reduceLT, Nat.reduceMul, reduceCtorEq, Int.reduceBNe, Int.reduceBEq, Int.reduceLT, Int.reduceLE, Int.reduceGT, h1, h2, g1, g2, hx, faV_eq, ← hσ1, sn, s0, hg, hmg, pu, q0]
        exact ⟨by rw [hst, hd1], _, _, mput_ok m1 _ _, rfl, hnew⟩
      · rename_i d
        rw [hv] at hmg hd1
        simp only [Option.getD_some, Option.isSome_some] at hmg
        cases hd : (d != ((lst x.w.v).length : Int))
        · have hde : (d == ((lst x.w.v).length : Int)) = true := by simpa [bne] using hd
          simp +contextual -implicitDefEqProofs (maxSteps := 2000000) only [↓wP, wQ, wQ1, wQ2, wQ3, wR, boxE, partsOf, ↓reduceIte, Nat.reduceEqDiff, Nat.reduceAdd, Nat.reduceSub, Nat.reduceLeDiff, Nat.reduceLT, Nat.reduceMul, reduceCtorEq, Int.reduceBNe, Int.reduceBEq, Int.reduceLT, Int.reduceLE, Int.reduceGT, h1, h2, g1, g2, hx, faV_eq, ← hσ1, sn, s0, hg, hmg, pu, hd, q0]
          exact ⟨by rw [hst, hd1]; exact hde, _, _, mput_ok m1 _ _, rfl, hnew⟩
        · have hde : (d == ((lst x.w.v).length : Int)) = false := by simpa [bne] using hd
          have hk := hno (by rw [hd1]; exact hde)
          simp +contextual -implicitDefEqProofs (maxSteps := 2000000) only [↓wP, wQ, wQ1, wQ2, wQ3, wR, boxE, partsOf, ↓reduceIte, Nat.reduceEqDiff, Nat.reduceAdd, Nat.reduceSub, Nat.reduceLeDiff, Nat.reduceLT, Nat.reduceMul, reduceCtorEq, Int.reduceBNe, Int.reduceBEq, Int.reduceLT, Int.reduceLE, Int.reduceGT, h1, h2, g1, g2, hx, faV_eq, ← hσ1, sn, s0, hg, hmg, hd, q0]
          rw [hk]
    · have e1 : dim1 (lst l) j x = true := by unfold dim1; rw [hg]; rfl
      simp +contextual -implicitDefEqProofs (maxSteps := 2000000) only [↓wP, wQ, wQ1, wQ2, wQ3, wR, boxE, partsOf, ↓reduceIte, Nat.reduceEqDiff, Nat.reduceAdd, Nat.reduceSub, Nat.reduceLeDiff, Nat.reduceLT, Nat.reduceMul, reduceCtorEq, Int.reduceBNe, Int.reduceBEq, Int.reduceLT, Int.reduceLE, Int.reduceGT, h1, h2, g1, g2, hx, faV_eq, ← hσ1, sn, hg]
      exact ⟨by rw [hst, e1], Lm, clk, m1, s0, fun c => by rw [hds, hg, m3]; rfl⟩
  · intro env σ n ⟨g1, g2, g3, g4, _⟩ h1 h2
    have hk : dimB (lst l) = true := g4
    simp +contextual -implicitDefEqProofs (maxSteps := 2000000) only [↓wP, wQ, wQ1, wQ2, wQ3, wR, boxE, partsOf, ↓reduceIte, Nat.reduceEqDiff, Nat.reduceAdd, Nat.reduceSub, Nat.reduceLeDiff, Nat.reduceLT, Nat.reduceMul, reduceCtorEq, Int.reduceBNe, Int.reduceBEq, Int.reduceLT, Int.reduceLE, Int.reduceGT]
    rw [hk]
  · exact ⟨rfl, rfl, Nat.le_refl _, rfl, [], 0, MOk.nil, rfl, fun c => rfl⟩
theorem f49 (l : Option (List Fa)) (h : SmF l) (fs : Bool) (σ : Sto) (n lk : Nat) : callE T fs 49 [slV 5 faV l] σ n lk = some (.bool (dimB (lst l)), σ, n) :=
  callE_tr (by decide) (r49 l h) (by simp [Tr, Tr_slV]) rfl fs σ n lk
theorem r52 (l : Option (List Fa)) (h : SmF l) : res T 52 [slV 5 faV l] = some (.bool (dimB (lst l))) := by
  refine run_res (run_pure (fn := g52) rfl rfl (by decide) ?_)
  simp only [g52, b52, oO, oN, mV, lD, gO, pP, qQ, cI, aR]
  have hl := h.1
  simp +contextual -implicitDefEqProofs (maxSteps := 2000000) only [↓wP, wQ, wQ1, wQ2, wQ3, wR, boxE, partsOf, ↓reduceIte, Nat.reduceEqDiff, Nat.reduceAdd, Nat.reduceSub, Nat.reduceLeDiff, Nat.reduceLT, Nat.reduceMul, reduceCtorEq, Int.reduceBNe, Int.reduceBEq, Int.reduceLT, Int.reduceLE, Int.reduceGT]
  refine WC_for (lst l).length 0 (fun (j : Nat) env σ n => env 10 = slV 5 faV l ∧ env 3 = .mp 0 ∧ 1 ≤ n ∧ dimU (lst l) j = true ∧ ∃ Lm clk, MOk Lm clk ∧ σ 0 = some (.map (ens iV iV Lm) clk) ∧ ∀ c, vw Lm c = dmp ((lst l).take j) c) (by omega) (by decide) (by decide) (fun _ _ => rfl) (fun _ _ _ => rfl) ?_ ?_ _ _ _ rfl rfl ?_
  · intro j env σ n hj h1 h2 ⟨g1, g2, g3, g4, Lm, clk, m1, m2, m3⟩
    simp only [vl_tmp] at h2
    have hx : (lst l)[j]? = some (lst l)[j] := List.getElem?_eq_getElem hj
    have hst := dimU_step hj
    rw [g4, Bool.true_and] at hst
    have hds := dmp_snoc ((lst l).take j) (lst l)[j]
    rw [List.take_append_getElem hj] at hds
    have hno : dim1 (lst l) j (lst l)[j] = false → dimB (lst l) = false := fun hk => dimU_no (by rw [hst, hk]) _ (by omega)
    generalize (lst l)[j] = x at *
    obtain ⟨σ1, hσ1⟩ : ∃ σ1, σ1 = upd (upd (upd (upd σ n (some (.row 5 [.agg [.int .u64 0, .int .i64 0, .int .u64 0, .bool false, .nilS]]))) n (some (.row 5 [.agg [.int .u64 x.ts, .int .i64 x.w.c, .int .u64 x.w.id, .bool x.w.g, slV 1 i32V x.w.v]]))) (n + 1) (some (.row 4 [.agg [.int .i64 0, .int .u64 0, .bool false, .nilS]]))) (n + 1) (some (.row 4 [.agg [.int .i64 x.w.c, .int .u64 x.w.id, .bool x.w.g, slV 1 i32V x.w.v]])) := ⟨_, rfl⟩
    have so : ∀ i, i < n → σ1 i = σ i := fun i hi => by rw [hσ1, upd_ne (by omega), upd_ne (by omega), upd_ne (by omega), upd_ne (by omega)]
    have sn : σ1 (n + 1) = some (.row 4 [.agg [.int .i64 x.w.c, .int .u64 x.w.id, .bool x.w.g, slV 1 i32V x.w.v]]) := by rw [hσ1, upd_self]
    have s0 : σ1 0 = some (.map (ens iV iV Lm) clk) := by rw [so 0 (by omega)]; exact m2
    have q0 : (0 = n) = False := by simp; omega
    cases hg : x.w.g
    all_goals rw [hg] at hσ1 sn
    · have hmg : mgetE true (.one .int) (.int .i64 0) (some (ens iV iV Lm)) (.int .i64 x.w.c) = some (.tup [.int .i64 ((vw Lm x.w.c).getD 0), .bool (vw Lm x.w.c).isSome]) := by
        have := mget_ens (ve := iV) keyInt true (.int .i64 0) x.w.c Lm
        simp only [iV] at this
        rw [this]
        cases vw Lm x.w.c <;> rfl
      have pu := mupd_ens (ke := iV) (ve := iV) (lk := 0) keyInt m1 s0 (Nat.zero_le _) x.w.c ((lst x.w.v).length : Int) (n + 2)
      simp only [iV] at pu
      have hnew : ∀ c, vw (mput Lm clk x.w.c ((lst x.w.v).length : Int)).1 c = dmp ((lst l).take (j + 1)) c := by
        intro c
        rw [vw_mput, hds, hg]
        by_cases e : c = x.w.c
        · subst e; simp
        · rw [if_neg e, if_neg (by simp), if_neg (fun h => e h.symm), m3]
      have hd1 : dim1 (lst l) j x = (match vw Lm x.w.c with | some n => n == ((lst x.w.v).length : Int) | none => true) := by
        unfold dim1; rw [hg, m3]; rfl
      cases hv : vw Lm x.w.c
      · rw [hv] at hmg hd1
        simp only [Option.getD_none, Option.isSome_none] at hmg
        simp +contextual -implicitDefEqProofs (maxSteps := 2000000) only [↓wP, wQ, wQ1, wQ2, wQ3, wR, boxE, partsOf, ↓reduceIte, Nat.reduceEqDiff, Nat.reduceAdd, Nat.reduceSub, Nat.reduceLeDiff, Nat.reduceLT, Nat.reduceMul, reduceCtorEq, Int.reduceBNe, Int.reduceBEq, Int.reduceLT, Int.reduceLE, Int.reduceGT, h1, h2, g1, g2, hx, faV_eq, ← hσ1, sn, s0, hg, hmg, pu, q0]
        exact ⟨by rw [hst, hd1], _, _, mput_ok m1 _ _, rfl, hnew⟩
      · rename_i d
        rw [hv] at hmg hd1
        simp only [Option.getD_some, Option.isSome_some] at hmg
        cases hd : (d != ((lst x.w.v).length : Int))
        · have hde : (d == ((lst x.w.v).length : Int)) = true := by simpa [bne] using hd
          simp +contextual -implicitDefEqProofs (maxSteps := 2000000) only [↓wP, wQ, wQ1, wQ2, wQ3, wR, boxE, partsOf, ↓reduceIte, Nat.reduceEqDiff, Nat.reduceAdd, Nat.reduceSub, Nat.reduceLeDiff, Nat.reduceLT, Nat.reduceMul, reduceCtorEq, Int.reduceBNe, Int.reduceBEq, Int.reduceLT, Int.reduceLE, Int.reduceGT, h1, h2, g1, g2, hx, faV_eq, ← hσ1, sn, s0, hg, hmg, pu, hd, q0]
          exact ⟨by rw [hst, hd1]; exact hde, _, _, mput_ok m1 _ _, rfl, hnew⟩
        · have hde : (d == ((lst x.w.v).length : Int)) = false := by simpa [bne] using hd
          have hk := hno (by rw [hd1]; exact hde)
          simp +contextual -implicitDefEqProofs (maxSteps := 2000000) only [↓wP, wQ, wQ1, wQ2, wQ3, wR, boxE, partsOf, ↓reduceIte, Nat.reduceEqDiff, Nat.reduceAdd, Nat.reduceSub, Nat.reduceLeDiff, Nat.reduceLT, Nat.reduceMul, reduceCtorEq, Int.reduceBNe, Int.reduceBEq, Int.reduceLT, Int.reduceLE, Int.reduceGT, h1, h2, g1, g2, hx, faV_eq, ← hσ1, sn, s0, hg, hmg, hd, q0]
          rw [hk]
    · have e1 : dim1 (lst l) j x = true := by unfold dim1; rw [hg]; rfl
      simp +contextual -implicitDefEqProofs (maxSteps := 2000000) only [↓wP, wQ, wQ1, wQ2, wQ3, wR, boxE, partsOf, ↓reduceIte, Nat.reduceEqDiff, Nat.reduceAdd, Nat.reduceSub, Nat.reduceLeDiff, Nat.reduceLT, Nat.reduceMul, reduceCtorEq, Int.reduceBNe, Int.reduceBEq, Int.reduceLT, Int.reduceLE, Int.reduceGT, h1, h2, g1, g2, hx, faV_eq, ← hσ1, sn, hg]
      exact ⟨by rw [hst, e1], Lm, clk, m1, s0, fun c => by rw [hds, hg, m3]; rfl⟩
  · intro env σ n ⟨g1, g2, g3, g4, _⟩ h1 h2
    have hk : dimB (lst l) = true := g4
    simp +contextual -implicitDefEqProofs (maxSteps := 2000000) only [↓wP, wQ, wQ1, wQ2, wQ3, wR, boxE, partsOf, ↓reduceIte, Nat.reduceEqDiff, Nat.reduceAdd, Nat.reduceSub, Nat.reduceLeDiff, Nat.reduceLT, Nat.reduceMul, reduceCtorEq, Int.reduceBNe, Int.reduceBEq, Int.reduceLT, Int.reduceLE, Int.reduceGT]
    rw [hk]
  · exact ⟨rfl, rfl, Nat.le_refl _, rfl, [], 0, MOk.nil, rfl, fun c => rfl⟩
theorem f52 (l : Option (List Fa)) (h : SmF l) (fs : Bool) (σ : Sto) (n lk : Nat) : callE T fs 52 [slV 5 faV l] σ n lk = some (.bool (dimB (lst l)), σ, n) :=
  callE_tr (by decide) (r52 l h) (by simp [Tr, Tr_slV]) rfl fs σ n lk
def cutF (f : Fa) : Fa := ⟨f.ts, ⟨f.w.c, f.w.id, f.w.g, cut f.w.v⟩⟩
def cutW (w : Wr) : Wr := ⟨w.c, w.id, w.g, cut w.v⟩
def cutFs (l : Option (List Fa)) : Option (List Fa) := oL (((lst l).take 60).map cutF)
def cutWs (l : Option (List Wr)) : Option (List Wr) := oL (((lst l).take 13).map cutW)
theorem fa_fz {R : List Fa} : (∀ x ∈ R.map faV, Tr 11 x = true) ∧ ∀ x ∈ R.map faV, ∀ c ∈ x.cells, Tr 11 c = true := by
  refine ⟨fun x hx => by obtain ⟨y, -, rfl⟩ := List.mem_map.1 hx; simp [faV_eq, Tr, Tr_slV], fun x hx c hc => ?_⟩
  obtain ⟨y, -, rfl⟩ := List.mem_map.1 hx
  simp only [faV_eq, V.cells, List.mem_cons, List.not_mem_nil, or_false] at hc
  rcases hc with rfl | rfl | rfl | rfl | rfl
  · rfl
  · rfl
  · rfl
  · rfl
  · exact Tr_slV _ _ _ _
theorem wr_fz {R : List Wr} : (∀ x ∈ R.map wrV, Tr 11 x = true) ∧ ∀ x ∈ R.map wrV, ∀ c ∈ x.cells, Tr 11 c = true := by
  refine ⟨fun x hx => by obtain ⟨y, -, rfl⟩ := List.mem_map.1 hx; simp [wrV_eq, Tr, Tr_slV], fun x hx c hc => ?_⟩
  obtain ⟨y, -, rfl⟩ := List.mem_map.1 hx
  simp only [wrV_eq, V.cells, List.mem_cons, List.not_mem_nil, or_false] at hc
  rcases hc with rfl | rfl | rfl | rfl
  · rfl
  · rfl
  · rfl
  · exact Tr_slV _ _ _ _
theorem r10 (l : Option (List Fa)) (h : SmF l) : res T 10 [slV 5 faV l] = some (slV 5 faV (cutFs l)) := by
  refine run_res (run_pure (fn := g10) rfl rfl (by decide) ?_)
  simp only [g10, b10, oO, oN, mV, lD, gO, pP, qQ, cI, aR]
  have hl := h.1
  simp +contextual -implicitDefEqProofs (maxSteps := 2000000) only [↓wP, wQ, wQ1, wQ2, wQ3, wR, boxE, partsOf, ↓reduceIte, Nat.reduceEqDiff, Nat.reduceAdd, Nat.reduceSub, Nat.reduceLeDiff, Nat.reduceLT, Nat.reduceMul, reduceCtorEq, Int.reduceBNe, Int.reduceBEq, Int.reduceLT, Int.reduceLE, Int.reduceGT]
  refine WC_for (lst l).length 0 (fun (j : Nat) env σ n => env 6 = slV 5 faV l ∧ ∃ v, env 3 = v ∧ Pl σ 0 n 5 v (oL ((((lst l).take (min j 60)).map cutF).map faV))) (by omega) (by decide) (by decide) (fun _ _ => rfl) (fun _ _ _ => rfl) ?_ ?_ _ _ _ rfl rfl ?_
  · intro j env σ n hj h1 h2 ⟨h3, v, h4, h5⟩
    simp only [vl_tmp] at h2
    have hx : (lst l)[j]? = some (lst l)[j] := List.getElem?_eq_getElem hj
    have f := f43 _ (h.2 _ (List.getElem_mem hj))
    have ht : (lst l).take (j + 1) = (lst l).take j ++ [(lst l)[j]] := (List.take_append_getElem hj).symm
    generalize (lst l)[j] = x at *
    have hc := h5.cells
    have hsp := spl h5
    obtain ⟨σ1, hσ1⟩ : ∃ σ1, σ1 = upd (upd σ n (some (.row 5 [.agg [.int .u64 0, .int .i64 0, .int .u64 0, .bool false, .nilS]]))) n (some (.row 5 [.agg [.int .u64 x.ts, .int .i64 x.w.c, .int .u64 x.w.id, .bool x.w.g, slV 1 i32V x.w.v]])) := ⟨_, rfl⟩
    have so : ∀ i, i < n → σ1 i = σ i := fun i hi => by rw [hσ1, upd_ne (by omega), upd_ne (by omega)]
    have sn : σ1 n = some (.row 5 [.agg [.int .u64 x.ts, .int .i64 x.w.c, .int .u64 x.w.id, .bool x.w.g, slV 1 i32V x.w.v]]) := by rw [hσ1, upd_self]
    by_cases h6 : (j : Int) < 60
    · rw [show min j 60 = j by omega] at h5
      have hlen : ((((lst l).take j).map cutF).map faV).length = j := by rw [List.length_map, List.length_map, List.length_take]; omega
      simp +contextual -implicitDefEqProofs (maxSteps := 2000000) only [↓wP, wQ, wQ1, wQ2, wQ3, wR, boxE, partsOf, ↓reduceIte, Nat.reduceEqDiff, Nat.reduceAdd, Nat.reduceSub, Nat.reduceLeDiff, Nat.reduceLT, Nat.reduceMul, reduceCtorEq, Int.reduceBNe, Int.reduceBEq, Int.reduceLT, Int.reduceLE, Int.reduceGT, h1, h2, h3, h4, hx, faV_eq, h6, f, ← hσ1, sn]
      refine stepW_app1 (m := 0) (n0 := n) (σ0 := σ) h5 (fun i g1 g2 => ?_) (by omega) (by omega) (Nat.zero_le _) ?_ (fun _ σ2 g1 g2 => ?_)
      · rw [upd_ne (by omega), upd_ne (by omega), so i g2]
      · rw [lst_oL, hlen]; unfold LIM; omega
      · rw [lst_oL, hlen] at g1 ⊢
        simp +contextual -implicitDefEqProofs (maxSteps := 2000000) only [↓wP, wQ, wQ1, wQ2, wQ3, wR, boxE, partsOf, ↓reduceIte, Nat.reduceEqDiff, Nat.reduceAdd, Nat.reduceSub, Nat.reduceLeDiff, Nat.reduceLT, Nat.reduceMul, reduceCtorEq, Int.reduceBNe, Int.reduceBEq, Int.reduceLT, Int.reduceLE, Int.reduceGT, h1, h2, h3, hc, hsp]
        refine ⟨_, rfl, ?_⟩
        rw [show min (j + 1) 60 = j + 1 by omega, ht, List.map_append, List.map_append]
        have e2 : oL ((((lst l).take j).map cutF).map faV ++ [faV (cutF x)]) = some ((((lst l).take j).map cutF).map faV ++ [faV (cutF x)]) := by
          cases ((lst l).take j) <;> rfl
        simp only [List.map_cons, List.map_nil]
        rw [e2]
        exact g1
    · simp +contextual -implicitDefEqProofs (maxSteps := 2000000) only [↓wP, wQ, wQ1, wQ2, wQ3, wR, boxE, partsOf, ↓reduceIte, Nat.reduceEqDiff, Nat.reduceAdd, Nat.reduceSub, Nat.reduceLeDiff, Nat.reduceLT, Nat.reduceMul, reduceCtorEq, Int.reduceBNe, Int.reduceBEq, Int.reduceLT, Int.reduceLE, Int.reduceGT, h1, h2, h3, h4, hx, faV_eq, h6, ← hσ1]
      rw [show min (j + 1) 60 = min j 60 by omega]
      exact ⟨_, rfl, h5.loc (fun i a b => so i b) (by omega)⟩
  · intro env σ n ⟨h3, v, h4, h5⟩ h1 h2
    simp +contextual -implicitDefEqProofs (maxSteps := 2000000) only [↓wP, wQ, wQ1, wQ2, wQ3, wR, boxE, partsOf, ↓reduceIte, Nat.reduceEqDiff, Nat.reduceAdd, Nat.reduceSub, Nat.reduceLeDiff, Nat.reduceLT, Nat.reduceMul, reduceCtorEq, Int.reduceBNe, Int.reduceBEq, Int.reduceLT, Int.reduceLE, Int.reduceGT, h4]
    have hf := h5.frz (by rw [lst_oL]; exact fa_fz.1) (by rw [lst_oL]; exact fa_fz.2)
    rw [hf, slV_oL]
    have : (lst l).take (min (lst l).length 60) = (lst l).take 60 := by rw [Nat.min_comm]; exact List.take_eq_take_min.symm
    rw [this]; rfl
  · simp +contextual -implicitDefEqProofs (maxSteps := 2000000) only [↓wP, wQ, wQ1, wQ2, wQ3, wR, boxE, partsOf, ↓reduceIte, Nat.reduceEqDiff, Nat.reduceAdd, Nat.reduceSub, Nat.reduceLeDiff, Nat.reduceLT, Nat.reduceMul, reduceCtorEq, Int.reduceBNe, Int.reduceBEq, Int.reduceLT, Int.reduceLE, Int.reduceGT]
    simp [oL, Pl]
theorem f10 (l : Option (List Fa)) (h : SmF l) (fs : Bool) (σ : Sto) (n lk : Nat) : callE T fs 10 [slV 5 faV l] σ n lk = some (slV 5 faV (cutFs l), σ, n) :=
  callE_tr (by decide) (r10 l h) (by simp [Tr, Tr_slV]) (Nw_slV _ _ _ _) fs σ n lk
theorem r12 (l : Option (List Wr)) (h : SmW l) : res T 12 [slV 4 wrV l] = some (slV 4 wrV (cutWs l)) := by
  refine run_res (run_pure (fn := g12) rfl rfl (by decide) ?_)
  simp only [g12, b12, oO, oN, mV, lD, gO, pP, qQ, cI, aR]
  have hl := h.1
  simp +contextual -implicitDefEqProofs (maxSteps := 2000000) only [↓wP, wQ, wQ1, wQ2, wQ3, wR, boxE, partsOf, ↓reduceIte, Nat.reduceEqDiff, Nat.reduceAdd, Nat.reduceSub, Nat.reduceLeDiff, Nat.reduceLT, Nat.reduceMul, reduceCtorEq, Int.reduceBNe, Int.reduceBEq, Int.reduceLT, Int.reduceLE, Int.reduceGT]
  refine WC_for (lst l).length 0 (fun (j : Nat) env σ n => env 6 = slV 4 wrV l ∧ ∃ v, env 3 = v ∧ Pl σ 0 n 4 v (oL ((((lst l).take (min j 13)).map cutW).map wrV))) (by omega) (by decide) (by decide) (fun _ _ => rfl) (fun _ _ _ => rfl) ?_ ?_ _ _ _ rfl rfl ?_
  · intro j env σ n hj h1 h2 ⟨h3, v, h4, h5⟩
    simp only [vl_tmp] at h2
    have hx : (lst l)[j]? = some (lst l)[j] := List.getElem?_eq_getElem hj
    have f := f43 _ (h.2 _ (List.getElem_mem hj))
    have ht : (lst l).take (j + 1) = (lst l).take j ++ [(lst l)[j]] := (List.take_append_getElem hj).symm
    generalize (lst l)[j] = x at *
    have hc := h5.cells
    have hsp := spl h5
    obtain ⟨σ1, hσ1⟩ : ∃ σ1, σ1 = upd (upd σ n (some (.row 4 [.agg [.int .i64 0, .int .u64 0, .bool false, .nilS]]))) n (some (.row 4 [.agg [.int .i64 x.c, .int .u64 x.id, .bool x.g, slV 1 i32V x.v]])) := ⟨_, rfl⟩
    have so : ∀ i, i < n → σ1 i = σ i := fun i hi => by rw [hσ1, upd_ne (by omega), upd_ne (by omega)]
    have sn : σ1 n = some (.row 4 [.agg [.int .i64 x.c, .int .u64 x.id, .bool x.g, slV 1 i32V x.v]]) := by rw [hσ1, upd_self]
    by_cases h6 : (j : Int) ≤ 12
    · rw [show min j 13 = j by omega] at h5
      have hlen : ((((lst l).take j).map cutW).map wrV).length = j := by rw [List.length_map, List.length_map, List.length_take]; omega
      simp +contextual -implicitDefEqProofs (maxSteps := 2000000) only [↓wP, wQ, wQ1, wQ2, wQ3, wR, boxE, partsOf, ↓reduceIte, Nat.reduceEqDiff, Nat.reduceAdd, Nat.reduceSub, Nat.reduceLeDiff, Nat.reduceLT, Nat.reduceMul, reduceCtorEq, Int.reduceBNe, Int.reduceBEq, Int.reduceLT, Int.reduceLE, Int.reduceGT, h1, h2, h3, h4, hx, wrV_eq, h6, f, ← hσ1, sn]
      refine stepW_app1 (m := 0) (n0 := n) (σ0 := σ) h5 (fun i g1 g2 => ?_) (by omega) (by omega) (Nat.zero_le _) ?_ (fun _ σ2 g1 g2 => ?_)
      · rw [upd_ne (by omega), upd_ne (by omega), so i g2]
      · rw [lst_oL, hlen]; unfold LIM; omega
      · rw [lst_oL, hlen] at g1 ⊢
        simp +contextual -implicitDefEqProofs (maxSteps := 2000000) only [↓wP, wQ, wQ1, wQ2, wQ3, wR, boxE, partsOf, ↓reduceIte, Nat.reduceEqDiff, Nat.reduceAdd, Nat.reduceSub, Nat.reduceLeDiff, Nat.reduceLT, Nat.reduceMul, reduceCtorEq, Int.reduceBNe, Int.reduceBEq, Int.reduceLT, Int.reduceLE, Int.reduceGT, h1, h2, h3, hc, hsp]
        refine ⟨_, rfl, ?_⟩
        rw [show min (j + 1) 13 = j + 1 by omega, ht, List.map_append, List.map_append]
        have e2 : oL ((((lst l).take j).map cutW).map wrV ++ [wrV (cutW x)]) = some ((((lst l).take j).map cutW).map wrV ++ [wrV (cutW x)]) := by
          cases ((lst l).take j) <;> rfl
        simp only [List.map_cons, List.map_nil]
        rw [e2]
        exact g1
    · simp +contextual -implicitDefEqProofs (maxSteps := 2000000) only [↓wP, wQ, wQ1, wQ2, wQ3, wR, boxE, partsOf, ↓reduceIte, Nat.reduceEqDiff, Nat.reduceAdd, Nat.reduceSub, Nat.reduceLeDiff, Nat.reduceLT, Nat.reduceMul, reduceCtorEq, Int.reduceBNe, Int.reduceBEq, Int.reduceLT, Int.reduceLE, Int.reduceGT, h1, h2, h3, h4, hx, wrV_eq, h6, ← hσ1]
      rw [show min (j + 1) 13 = min j 13 by omega]
      exact ⟨_, rfl, h5.loc (fun i a b => so i b) (by omega)⟩
  · intro env σ n ⟨h3, v, h4, h5⟩ h1 h2
    simp +contextual -implicitDefEqProofs (maxSteps := 2000000) only [↓wP, wQ, wQ1, wQ2, wQ3, wR, boxE, partsOf, ↓reduceIte, Nat.reduceEqDiff, Nat.reduceAdd, Nat.reduceSub, Nat.reduceLeDiff, Nat.reduceLT, Nat.reduceMul, reduceCtorEq, Int.reduceBNe, Int.reduceBEq, Int.reduceLT, Int.reduceLE, Int.reduceGT, h4]
    have hf := h5.frz (by rw [lst_oL]; exact wr_fz.1) (by rw [lst_oL]; exact wr_fz.2)
    rw [hf, slV_oL]
    have : (lst l).take (min (lst l).length 13) = (lst l).take 13 := by rw [Nat.min_comm]; exact List.take_eq_take_min.symm
    rw [this]; rfl
  · simp +contextual -implicitDefEqProofs (maxSteps := 2000000) only [↓wP, wQ, wQ1, wQ2, wQ3, wR, boxE, partsOf, ↓reduceIte, Nat.reduceEqDiff, Nat.reduceAdd, Nat.reduceSub, Nat.reduceLeDiff, Nat.reduceLT, Nat.reduceMul, reduceCtorEq, Int.reduceBNe, Int.reduceBEq, Int.reduceLT, Int.reduceLE, Int.reduceGT]
    simp [oL, Pl]
theorem f12 (l : Option (List Wr)) (h : SmW l) (fs : Bool) (σ : Sto) (n lk : Nat) : callE T fs 12 [slV 4 wrV l] σ n lk = some (slV 4 wrV (cutWs l), σ, n) :=
  callE_tr (by decide) (r12 l h) (by simp [Tr, Tr_slV]) (Nw_slV _ _ _ _) fs σ n lk
end Go.Q.S18
end

section
/- The document's copies; which facts and writes are the same. -/
set_option linter.unusedSimpArgs false
set_option linter.unusedVariables false
namespace Go.Q.S18
open Go.Q
def cp (v : Vc) : Vc := some (lst v)
def cpF (f : Fa) : Fa := ⟨f.ts, ⟨f.w.c, f.w.id, f.w.g, cp f.w.v⟩⟩
def cpW (w : Wr) : Wr := ⟨w.c, w.id, w.g, cp w.v⟩
def cpWs (l : Option (List Wr)) : Option (List Wr) := oL ((lst l).map cpW)
theorem fz_vec {σ : Sto} {i : Nat} {L : List Int} (h : σ i = some (.row 1 (L.map i32V))) {S : Nat → Prop} (hS : S i) : Fz σ 11 (.ref i 0 L.length 1) (slV 1 i32V (some L)) S := by
  have := Fz.ref (k := 10) (S := S) h hS (FzL.trees (fun y hy => by obtain ⟨t, -, rfl⟩ := List.mem_map.1 hy; rfl) (fun y hy c hc => by obtain ⟨t, -, rfl⟩ := List.mem_map.1 hy; simp [i32V, V.cells] at hc; subst hc; rfl))
  rw [List.length_map] at this
  exact this
theorem fz_write {σ : Sto} {i : Nat} {f : Wr} (h : σ i = some (.row 1 ((lst f.v).map i32V))) {S : Nat → Prop} (hS : S i) :
    FzL σ 11 [.agg [.int .i64 f.c, .int .u64 f.id, .bool f.g, .ref i 0 (lst f.v).length 1]] [wrV (cpW f)] S := by
  obtain ⟨h1, h2⟩ := fz_vec h hS
  refine ⟨?_, ?_⟩
  · simp only [List.mapM_cons, List.mapM_nil, elemM, h1]
    rfl
  · intro x hx c hc id hid
    rw [List.mem_singleton] at hx
    subst hx
    simp only [V.cells, List.mem_cons, List.not_mem_nil, or_false] at hc
    rcases hc with rfl | rfl | rfl | rfl
    · simp [rch] at hid
    · simp [rch] at hid
    · simp [rch] at hid
    · exact h2 id hid
def FitF (l : List Fa) : Prop := l.length ≤ 1000000 ∧ ∀ f ∈ l, (lst f.w.v).length ≤ 1000000
def FitW (l : List Wr) : Prop := l.length ≤ 1000000 ∧ ∀ f ∈ l, (lst f.v).length ≤ 1000000
theorem r55 (l : Option (List Wr)) (h : FitW (lst l)) : res T 55 [slV 4 wrV l] = some (slV 4 wrV (cpWs l)) := by
  refine run_res (run_pure (fn := g55) rfl rfl (by decide) ?_)
  simp only [g55, b55, oO, oN, mV, lD, gO, pP, qQ, cI, aR]
  have hl := h.1
  simp +contextual -implicitDefEqProofs (maxSteps := 2000000) only [↓wP, wQ, wQ1, wQ2, wQ3, wR, boxE, partsOf, ↓reduceIte, Nat.reduceEqDiff, Nat.reduceAdd, Nat.reduceSub, Nat.reduceLeDiff, Nat.reduceLT, Nat.reduceMul, reduceCtorEq, Int.reduceBNe, Int.reduceBEq, Int.reduceLT, Int.reduceLE, Int.reduceGT]
  refine WC_for (lst l).length 0 (fun (j : Nat) env σ n => env 6 = slV 4 wrV l ∧ ∃ v, env 3 = v ∧ Bls σ 4 v (oL ((((lst l).take j).map cpW).map wrV)) (fun i => i < n)) (by omega) (by decide) (by decide) (fun _ _ => rfl) (fun _ _ _ => rfl) ?_ ?_ _ _ _ rfl rfl ?_
  · intro j env σ n hj h1 h2 ⟨h3, v, h4, h5⟩
    simp only [vl_tmp] at h2
    have hx : (lst l)[j]? = some (lst l)[j] := List.getElem?_eq_getElem hj
    have ht : (lst l).take (j + 1) = (lst l).take j ++ [(lst l)[j]] := (List.take_append_getElem hj).symm
    have hL := h.2 _ (List.getElem_mem hj)
    generalize (lst l)[j] = x at *
    have hc := h5.cells
    have hLm : ((lst x.v).map i32V).length * 4 ≤ LIM := by rw [List.length_map]; unfold LIM; omega
    have hlm : ((lst x.v).map i32V).length = (lst x.v).length := List.length_map _
    have q0 : (n = n + 1) = False := by simp
    have q1 : (n = n + 2) = False := by simp
    have hLl : (lst x.v).length * 4 ≤ LIM := by rw [← hlm]; exact hLm
    simp +contextual -implicitDefEqProofs (maxSteps := 2000000) only [↓wP, wQ, wQ1, wQ2, wQ3, wR, boxE, partsOf, ↓reduceIte, Nat.reduceEqDiff, Nat.reduceAdd, Nat.reduceSub, Nat.reduceLeDiff, Nat.reduceLT, Nat.reduceMul, reduceCtorEq, Int.reduceBNe, Int.reduceBEq, Int.reduceLT, Int.reduceLE, Int.reduceGT, h1, h2, h3, h4, hx, wrV_eq, true_or, hlm, hLl, q0, q1]
    generalize hσ1 : upd _ (n + 3) _ = σ1
    have so : ∀ i, i < n → σ1 i = σ i := fun i hi => by
      rw [← hσ1, upd_ne (by omega), upd_ne (by omega), upd_ne (by omega), upd_ne (by omega), upd_ne (by omega), upd_ne (by omega), upd_ne (by omega)]
    have sv : σ1 (n + 2) = some (.row 1 ((lst x.v).map i32V)) := by
      rw [← hσ1, upd_ne (by omega), upd_ne (by omega), upd_self]
    have h5' := h5.loc (S' := fun i => i < n) so (fun i hi => hi)
    have hne : ∀ i, n ≤ i → ∀ off len s, v ≠ .ref i off len s := by
      intro i hi off len s e
      subst e
      have := Bls.ids h5 ⟨off, len, s, rfl⟩
      omega
    refine stepW_appS (us := [wrV (cpW x)]) (S' := fun _ => True) h5' (fun i hi => by omega) (fun _ _ => trivial) trivial (fz_write sv ⟨trivial, by omega, hne _ (by omega)⟩) ?_ (fun v' σ' n' g1 g2 g3 g4 => ?_)
    · rw [lst_oL, List.length_map, List.length_map, List.length_take]; unfold LIM; simp; omega
    · simp +contextual -implicitDefEqProofs (maxSteps := 2000000) only [↓wP, wQ, wQ1, wQ2, wQ3, wR, boxE, partsOf, ↓reduceIte, Nat.reduceEqDiff, Nat.reduceAdd, Nat.reduceSub, Nat.reduceLeDiff, Nat.reduceLT, Nat.reduceMul, reduceCtorEq, Int.reduceBNe, Int.reduceBEq, Int.reduceLT, Int.reduceLE, Int.reduceGT, h1, h2, h3, g1.cells]
      refine ⟨_, rfl, ?_⟩
      rw [ht, List.map_append, List.map_append, ← appO_oL]
      exact g1.loc (fun _ _ => rfl) (fun i hi => hi.2)
  · intro env σ n ⟨h3, v, h4, h5⟩ h1 h2
    rw [List.take_length] at h5
    have hf := h5.frz
    simp +contextual -implicitDefEqProofs (maxSteps := 2000000) only [↓wP, wQ, wQ1, wQ2, wQ3, wR, boxE, partsOf, ↓reduceIte, Nat.reduceEqDiff, Nat.reduceAdd, Nat.reduceSub, Nat.reduceLeDiff, Nat.reduceLT, Nat.reduceMul, reduceCtorEq, Int.reduceBNe, Int.reduceBEq, Int.reduceLT, Int.reduceLE, Int.reduceGT, h4]
    rw [hf, slV_oL]
    rfl
  · simp +contextual -implicitDefEqProofs (maxSteps := 2000000) only [↓wP, wQ, wQ1, wQ2, wQ3, wR, boxE, partsOf, ↓reduceIte, Nat.reduceEqDiff, Nat.reduceAdd, Nat.reduceSub, Nat.reduceLeDiff, Nat.reduceLT, Nat.reduceMul, reduceCtorEq, Int.reduceBNe, Int.reduceBEq, Int.reduceLT, Int.reduceLE, Int.reduceGT]
    simp [oL, Bls]
theorem f55 (l : Option (List Wr)) (h : FitW (lst l)) (fs : Bool) (σ : Sto) (n lk : Nat) : callE T fs 55 [slV 4 wrV l] σ n lk = some (slV 4 wrV (cpWs l), σ, n) :=
  callE_tr (by decide) (r55 l h) (by simp [Tr, Tr_slV]) (Nw_slV _ _ _ _) fs σ n lk
end Go.Q.S18
end

section
/- Which facts and writes are the same. -/
set_option linter.unusedSimpArgs false
set_option linter.unusedVariables false
namespace Go.Q.S18
open Go.Q
def sameW1 (a b : Wr) : Bool := a.c == b.c && (a.id == b.id && (a.g == b.g && lst a.v == lst b.v))
def sameF1 (f g : Fa) : Bool := f.ts == g.ts && sameW1 f.w g.w
def smU {α : Type} (p : α → α → Bool) (l m : List α) : Nat → Bool
  | 0 => true
  | n + 1 => smU p l m n && (match l[n]?, m[n]? with | some f, some g => p f g | _, _ => true)
def sameL {α : Type} (p : α → α → Bool) (l m : List α) : Bool := decide (l.length = m.length) && smU p l m l.length
theorem smU_step {α : Type} {p : α → α → Bool} {l m : List α} {n : Nat} (h : n < l.length) (h' : n < m.length) : smU p l m (n + 1) = (smU p l m n && p l[n] m[n]) := by
  show (smU p l m n && _) = _
  rw [List.getElem?_eq_getElem h, List.getElem?_eq_getElem h']
theorem smU_no {α : Type} {p : α → α → Bool} {l m : List α} {n : Nat} (h : smU p l m n = false) : ∀ k, n ≤ k → smU p l m k = false
  | 0, hm => by have : n = 0 := by omega
                subst this; cases h
  | k + 1, hm => by
    by_cases e : n = k + 1
    · subst e; exact h
    · show (smU p l m k && _) = false
      rw [smU_no h k (by omega)]; rfl
theorem sameL_of {α β : Type} {p : α → α → Bool} {q : α → β} (hp : ∀ a b, q a = q b → p a b = true) {l m : List α} (h : l.map q = m.map q) : sameL p l m = true := by
  have hlen : l.length = m.length := by have := congrArg List.length h; simpa using this
  unfold sameL
  rw [decide_eq_true hlen, Bool.true_and]
  have : ∀ n, n ≤ l.length → smU p l m n = true := by
    intro n
    induction n with
    | zero => intro _; rfl
    | succ n ih =>
      intro hn
      rw [smU_step (by omega) (by omega), ih (by omega), Bool.true_and]
      refine hp _ _ ?_
      have h1 := congrArg (fun z => z[n]?) h
      simp only [List.getElem?_map, List.getElem?_eq_getElem (show n < l.length by omega), List.getElem?_eq_getElem (show n < m.length by omega), Option.map_some, Option.some.injEq] at h1
      exact h1
  exact this _ (Nat.le_refl _)
theorem r18 (a b : Option (List Fa)) (ha : SmF a) (hb : SmF b) : res T 18 [slV 5 faV a, slV 5 faV b] = some (.bool (sameL sameF1 (lst a) (lst b))) := by
  refine run_res (run_pure (fn := g18) rfl rfl (by decide) ?_)
  simp only [g18, b18, oO, oN, mV, lD, gO, pP, qQ, cI, aR]
  have hla := ha.1
  have hlb := hb.1
  unfold sameL
  by_cases hlen : (lst a).length = (lst b).length
  · have hd : (((lst a).length : Int) != ((lst b).length : Int)) = false := by simp [hlen]
    rw [decide_eq_true hlen, Bool.true_and]
    simp +contextual -implicitDefEqProofs (maxSteps := 2000000) only [↓wP, wQ, wQ1, wQ2, wQ3, wR, boxE, partsOf, ↓reduceIte, Nat.reduceEqDiff, Nat.reduceAdd, Nat.reduceSub, Nat.reduceLeDiff, Nat.reduceLT, Nat.reduceMul, reduceCtorEq, Int.reduceBNe, Int.reduceBEq, Int.reduceLT, Int.reduceLE, Int.reduceGT, hd]
    refine WC_for (lst a).length 0 (fun (j : Nat) env σ n => env 0 = slV 5 faV a ∧ env 1 = slV 5 faV b ∧ smU sameF1 (lst a) (lst b) j = true) (by omega) (by decide) (by decide) (fun _ _ => rfl) (fun _ _ _ => rfl) ?_ ?_ _ _ _ rfl rfl ?_
    · intro j env σ n hj h1 h2 ⟨g1, g2, g3⟩
      simp only [vl_tmp] at h2
      have hx : (lst a)[j]? = some (lst a)[j] := List.getElem?_eq_getElem hj
      have hy : (lst b)[j]? = some (lst b)[j] := List.getElem?_eq_getElem (by omega)
      have hst := smU_step (p := sameF1) hj (by omega : j < (lst b).length)
      rw [g3, Bool.true_and] at hst
      have hvx := ha.2 _ (List.getElem_mem hj)
      have hno : sameF1 (lst a)[j] (lst b)[j] = false → smU sameF1 (lst a) (lst b) (lst a).length = false := fun hk => smU_no (by rw [hst, hk]) _ (by omega)
      generalize (lst a)[j] = x at *
      generalize (lst b)[j] = y at *
      have f := f56 x.w.v y.w.v (by unfold Sm at hvx; omega)
      have hs1 : sameF1 x y = (x.ts == y.ts && (x.w.c == y.w.c && (x.w.id == y.w.id && (x.w.g == y.w.g && lst x.w.v == lst y.w.v)))) := rfl
      have hB := big_le
      obtain ⟨m, hm⟩ : ∃ m, m = n + BIG * 2 := ⟨_, rfl⟩
      obtain ⟨zz, hzz⟩ : ∃ zz : List V, zz = [.agg [.int .i64 0, .int .u64 0, .bool false, .nilS]] := ⟨_, rfl⟩
      obtain ⟨σa, hσa⟩ : ∃ σa, σa = merge σ (upd (hide σ n n [1]) n (some (.row 4 [.agg [.int .i64 0, .int .u64 0, .bool false, .nilS]]))) n := ⟨_, rfl⟩
      obtain ⟨σb, hσb⟩ : ∃ σb, σb = merge σa (upd (hide σa n (n + BIG) [0]) (n + BIG) (some (.row 4 [.agg [.int .i64 0, .int .u64 0, .bool false, .nilS]]))) (n + BIG) := ⟨_, rfl⟩
      obtain ⟨σc, hσc⟩ : ∃ σc, σc = mergeL σb (upd σb n (some (.row 4 [.agg [.int .i64 x.w.c, .int .u64 x.w.id, .bool x.w.g, slV 1 i32V x.w.v]]))) n 0 m [] := ⟨_, rfl⟩
      have a3 : σa n = some (.row 4 [.agg [.int .i64 0, .int .u64 0, .bool false, .nilS]]) := by rw [hσa, merge_in _ _ _ (Nat.le_refl _) (by omega)]; simp [upd]
      have b3 : σb n = some (.row 4 [.agg [.int .i64 0, .int .u64 0, .bool false, .nilS]]) := by rw [hσb, merge_low _ _ _ (by omega)]; exact a3
      have bB : σb (n + BIG) = some (.row 4 [.agg [.int .i64 0, .int .u64 0, .bool false, .nilS]]) := by rw [hσb, merge_in _ _ _ (Nat.le_refl _) (by omega)]; simp [upd]
      have cne : ∀ i, i ≠ n → σc i = σb i := fun i hi => by rw [hσc]; unfold mergeL; split <;> simp [upd, hi]
      have c3 : σc n = some (.row 4 [.agg [.int .i64 x.w.c, .int .u64 x.w.id, .bool x.w.g, slV 1 i32V x.w.v]]) := by
        rw [hσc]; unfold mergeL
        rw [if_pos ⟨by omega, by omega, by rintro ⟨_, h, _⟩; cases h⟩]; simp [upd]
      have cB : σc (n + BIG) = some (.row 4 [.agg [.int .i64 0, .int .u64 0, .bool false, .nilS]]) := (cne _ (by omega)).trans bB
      obtain ⟨σd, hσd⟩ : ∃ σd, σd = upd σc (n + BIG) (some (.row 4 [.agg [.int .i64 y.w.c, .int .u64 y.w.id, .bool y.w.g, slV 1 i32V y.w.v]])) := ⟨_, rfl⟩
      have d1 : σd n = some (.row 4 [.agg [.int .i64 x.w.c, .int .u64 x.w.id, .bool x.w.g, slV 1 i32V x.w.v]]) := by rw [hσd, upd_ne (by omega)]; exact c3
      have d2 : σd (n + BIG) = some (.row 4 [.agg [.int .i64 y.w.c, .int .u64 y.w.id, .bool y.w.g, slV 1 i32V y.w.v]]) := by rw [hσd, upd_self]
      have l1 : (n + 1 ≤ n + BIG) = True := by simp; omega
      have l2 : (n + BIG + 1 ≤ n + BIG + BIG) = True := by simp; omega
      have l3 : (n + (BIG + 1) ≤ n + (BIG + BIG)) = True := by simp; omega
      have l4 : (n + BIG ≤ m) = True := by simp; omega
      have l5 : (n ≤ m) = True := by simp; omega
      have q3 : (n = n + BIG) = False := by simp; omega
      have e1 : ∀ hid, hide σd m m hid n = σd n := fun hid => hide_low _ _ _ _ (by omega) (Nat.le_refl _)
      have e2 : ∀ hid, hide σd m m hid (n + BIG) = σd (n + BIG) := fun hid => hide_low _ _ _ _ (by omega) (Nat.le_refl _)
      by_cases k1 : x.ts = y.ts
      · have k1' : (x.ts != y.ts) = false := by simp [k1]
        by_cases k2 : x.w.c = y.w.c
        · have k2' : (x.w.c != y.w.c) = false := by simp [k2]
          by_cases k3 : x.w.id = y.w.id
          · have k3' : (x.w.id != y.w.id) = false := by simp [k3]
            by_cases k4 : x.w.g = y.w.g
            · have k4' : ((x.w.g == y.w.g) != true) = false := by simp [k4]
              cases k5 : (lst x.w.v == lst y.w.v)
              · rw [k5] at f
                have hk := hno (by rw [hs1, k5]; simp)
                simp +contextual -implicitDefEqProofs (maxSteps := 2000000) only [↓wP, wQ, wQ1, wQ2, wQ3, wR, boxE, partsOf, ↓reduceIte, Nat.reduceEqDiff, Nat.reduceAdd, Nat.reduceSub, Nat.reduceLeDiff, Nat.reduceLT, Nat.reduceMul, reduceCtorEq, Int.reduceBNe, Int.reduceBEq, Int.reduceLT, Int.reduceLE, Int.reduceGT, h1, h2, g1, g2, hx, hy, faV_eq, ← hσa, ← hσb, ← hσc, ← hσd, ← hm, a3, b3, bB, c3, cB, d1, d2, l1, l2, l3, l4, l5, q3, e1, e2, Nat.mul_zero, Nat.mul_one, Nat.le_refl, k1', k2', k3', k4', f]
                rw [hk]
              · rw [k5] at f
                have hk : sameF1 x y = true := by rw [hs1, k1, k2, k3, k4, k5]; simp
                simp +contextual -implicitDefEqProofs (maxSteps := 2000000) only [↓wP, wQ, wQ1, wQ2, wQ3, wR, boxE, partsOf, ↓reduceIte, Nat.reduceEqDiff, Nat.reduceAdd, Nat.reduceSub, Nat.reduceLeDiff, Nat.reduceLT, Nat.reduceMul, reduceCtorEq, Int.reduceBNe, Int.reduceBEq, Int.reduceLT, Int.reduceLE, Int.reduceGT, h1, h2, g1, g2, hx, hy, faV_eq, ← hσa, ← hσb, ← hσc, ← hσd, ← hm, a3, b3, bB, c3, cB, d1, d2, l1, l2, l3, l4, l5, q3, e1, e2, Nat.mul_zero, Nat.mul_one, Nat.le_refl, k1', k2', k3', k4', f]
                rw [hst, hk]
            · have k4' : ((x.w.g == y.w.g) != true) = true := by simp [k4]
              have hk := hno (by rw [hs1]; simp [k4])
              simp +contextual -implicitDefEqProofs (maxSteps := 2000000) only [↓wP, wQ, wQ1, wQ2, wQ3, wR, boxE, partsOf, ↓reduceIte, Nat.reduceEqDiff, Nat.reduceAdd, Nat.reduceSub, Nat.reduceLeDiff, Nat.reduceLT, Nat.reduceMul, reduceCtorEq, Int.reduceBNe, Int.reduceBEq, Int.reduceLT, Int.reduceLE, Int.reduceGT, h1, h2, g1, g2, hx, hy, faV_eq, ← hσa, ← hσb, ← hσc, ← hσd, ← hm, a3, b3, bB, c3, cB, d1, d2, l1, l2, l3, l4, l5, q3, e1, e2, Nat.mul_zero, Nat.mul_one, Nat.le_refl, k1', k2', k3', k4']
              rw [hk]
          · have k3' : (x.w.id != y.w.id) = true := by simp [k3]
            have hk := hno (by rw [hs1]; simp [k3])
            simp +contextual -implicitDefEqProofs (maxSteps := 2000000) only [↓wP, wQ, wQ1, wQ2, wQ3, wR, boxE, partsOf, ↓reduceIte, Nat.reduceEqDiff, Nat.reduceAdd, Nat.reduceSub, Nat.reduceLeDiff, Nat.reduceLT, Nat.reduceMul, reduceCtorEq, Int.reduceBNe, Int.reduceBEq, Int.reduceLT, Int.reduceLE, Int.reduceGT, h1, h2, g1, g2, hx, hy, faV_eq, ← hσa, ← hσb, ← hσc, ← hσd, ← hm, a3, b3, bB, c3, cB, d1, d2, l1, l2, l3, l4, l5, q3, e1, e2, Nat.mul_zero, Nat.mul_one, Nat.le_refl, k1', k2', k3']
            rw [hk]
        · have k2' : (x.w.c != y.w.c) = true := by simp [k2]
          have hk := hno (by rw [hs1]; simp [k2])
          simp +contextual -implicitDefEqProofs (maxSteps := 2000000) only [↓wP, wQ, wQ1, wQ2, wQ3, wR, boxE, partsOf, ↓reduceIte, Nat.reduceEqDiff, Nat.reduceAdd, Nat.reduceSub, Nat.reduceLeDiff, Nat.reduceLT, Nat.reduceMul, reduceCtorEq, Int.reduceBNe, Int.reduceBEq, Int.reduceLT, Int.reduceLE, Int.reduceGT, h1, h2, g1, g2, hx, hy, faV_eq, ← hσa, ← hσb, ← hσc, ← hσd, ← hm, a3, b3, bB, c3, cB, d1, d2, l1, l2, l3, l4, l5, q3, e1, e2, Nat.mul_zero, Nat.mul_one, Nat.le_refl, k1', k2']
          rw [hk]
      · have k1' : (x.ts != y.ts) = true := by simp [k1]
        have hk := hno (by rw [hs1]; simp [k1])
        simp +contextual -implicitDefEqProofs (maxSteps := 2000000) only [↓wP, wQ, wQ1, wQ2, wQ3, wR, boxE, partsOf, ↓reduceIte, Nat.reduceEqDiff, Nat.reduceAdd, Nat.reduceSub, Nat.reduceLeDiff, Nat.reduceLT, Nat.reduceMul, reduceCtorEq, Int.reduceBNe, Int.reduceBEq, Int.reduceLT, Int.reduceLE, Int.reduceGT, h1, h2, g1, g2, hx, hy, faV_eq, ← hσa, ← hσb, ← hσc, ← hσd, ← hm, a3, b3, bB, c3, cB, d1, d2, l1, l2, l3, l4, l5, q3, e1, e2, Nat.mul_zero, Nat.mul_one, Nat.le_refl, k1']
        rw [hk]
    · intro env σ n ⟨g1, g2, g3⟩ h1 h2
      simp +contextual -implicitDefEqProofs (maxSteps := 2000000) only [↓wP, wQ, wQ1, wQ2, wQ3, wR, boxE, partsOf, ↓reduceIte, Nat.reduceEqDiff, Nat.reduceAdd, Nat.reduceSub, Nat.reduceLeDiff, Nat.reduceLT, Nat.reduceMul, reduceCtorEq, Int.reduceBNe, Int.reduceBEq, Int.reduceLT, Int.reduceLE, Int.reduceGT]
      rw [g3]
    · simp +contextual -implicitDefEqProofs (maxSteps := 2000000) only [↓wP, wQ, wQ1, wQ2, wQ3, wR, boxE, partsOf, ↓reduceIte, Nat.reduceEqDiff, Nat.reduceAdd, Nat.reduceSub, Nat.reduceLeDiff, Nat.reduceLT, Nat.reduceMul, reduceCtorEq, Int.reduceBNe, Int.reduceBEq, Int.reduceLT, Int.reduceLE, Int.reduceGT]
      rfl
  · have hd : (((lst a).length : Int) != ((lst b).length : Int)) = true := by simp; omega
    rw [decide_eq_false hlen]
    simp +contextual -implicitDefEqProofs (maxSteps := 2000000) only [↓wP, wQ, wQ1, wQ2, wQ3, wR, boxE, partsOf, ↓reduceIte, Nat.reduceEqDiff, Nat.reduceAdd, Nat.reduceSub, Nat.reduceLeDiff, Nat.reduceLT, Nat.reduceMul, reduceCtorEq, Int.reduceBNe, Int.reduceBEq, Int.reduceLT, Int.reduceLE, Int.reduceGT, hd]
theorem f18 (a b : Option (List Fa)) (ha : SmF a) (hb : SmF b) (fs : Bool) (σ : Sto) (n lk : Nat) : callE T fs 18 [slV 5 faV a, slV 5 faV b] σ n lk = some (.bool (sameL sameF1 (lst a) (lst b)), σ, n) :=
  callE_tr (by decide) (r18 a b ha hb) (by simp [Tr, Tr_slV]) rfl fs σ n lk
theorem r19 (a b : Option (List Wr)) (ha : SmW a) (hb : SmW b) : res T 19 [slV 4 wrV a, slV 4 wrV b] = some (.bool (sameL sameW1 (lst a) (lst b))) := by
  refine run_res (run_pure (fn := g19) rfl rfl (by decide) ?_)
  simp only [g19, b19, oO, oN, mV, lD, gO, pP, qQ, cI, aR]
  have hla := ha.1
  have hlb := hb.1
  unfold sameL
  by_cases hlen : (lst a).length = (lst b).length
  · have hd : (((lst a).length : Int) != ((lst b).length : Int)) = false := by simp [hlen]
    rw [decide_eq_true hlen, Bool.true_and]
    simp +contextual -implicitDefEqProofs (maxSteps := 2000000) only [↓wP, wQ, wQ1, wQ2, wQ3, wR, boxE, partsOf, ↓reduceIte, Nat.reduceEqDiff, Nat.reduceAdd, Nat.reduceSub, Nat.reduceLeDiff, Nat.reduceLT, Nat.reduceMul, reduceCtorEq, Int.reduceBNe, Int.reduceBEq, Int.reduceLT, Int.reduceLE, Int.reduceGT, hd]
    refine WC_for (lst a).length 0 (fun (j : Nat) env σ n => env 0 = slV 4 wrV a ∧ env 1 = slV 4 wrV b ∧ smU sameW1 (lst a) (lst b) j = true) (by omega) (by decide) (by decide) (fun _ _ => rfl) (fun _ _ _ => rfl) ?_ ?_ _ _ _ rfl rfl ?_
    · intro j env σ n hj h1 h2 ⟨g1, g2, g3⟩
      simp only [vl_tmp] at h2
      have hx : (lst a)[j]? = some (lst a)[j] := List.getElem?_eq_getElem hj
      have hy : (lst b)[j]? = some (lst b)[j] := List.getElem?_eq_getElem (by omega)
      have hst := smU_step (p := sameW1) hj (by omega : j < (lst b).length)
      rw [g3, Bool.true_and] at hst
      have hvx := ha.2 _ (List.getElem_mem hj)
      have hno : sameW1 (lst a)[j] (lst b)[j] = false → smU sameW1 (lst a) (lst b) (lst a).length = false := fun hk => smU_no (by rw [hst, hk]) _ (by omega)
      generalize (lst a)[j] = x at *
      generalize (lst b)[j] = y at *
      have f := f56 x.v y.v (by unfold Sm at hvx; omega)
      have hs1 : sameW1 x y = (x.c == y.c && (x.id == y.id && (x.g == y.g && lst x.v == lst y.v))) := rfl
      by_cases k2 : x.c = y.c
      · have k2' : (x.c != y.c) = false := by simp [k2]
        by_cases k3 : x.id = y.id
        · have k3' : (x.id != y.id) = false := by simp [k3]
          by_cases k4 : x.g = y.g
          · have k4' : ((x.g == y.g) != true) = false := by simp [k4]
            cases k5 : (lst x.v == lst y.v)
            · rw [k5] at f
              have hk := hno (by rw [hs1, k5]; simp)
              simp +contextual -implicitDefEqProofs (maxSteps := 2000000) only [↓wP, wQ, wQ1, wQ2, wQ3, wR, boxE, partsOf, ↓reduceIte, Nat.reduceEqDiff, Nat.reduceAdd, Nat.reduceSub, Nat.reduceLeDiff, Nat.reduceLT, Nat.reduceMul, reduceCtorEq, Int.reduceBNe, Int.reduceBEq, Int.reduceLT, Int.reduceLE, Int.reduceGT, h1, h2, g1, g2, hx, hy, wrV_eq, k2', k3', k4', f]
              rw [hk]
            · rw [k5] at f
              have hk : sameW1 x y = true := by rw [hs1, k2, k3, k4, k5]; simp
              simp +contextual -implicitDefEqProofs (maxSteps := 2000000) only [↓wP, wQ, wQ1, wQ2, wQ3, wR, boxE, partsOf, ↓reduceIte, Nat.reduceEqDiff, Nat.reduceAdd, Nat.reduceSub, Nat.reduceLeDiff, Nat.reduceLT, Nat.reduceMul, reduceCtorEq, Int.reduceBNe, Int.reduceBEq, Int.reduceLT, Int.reduceLE, Int.reduceGT, h1, h2, g1, g2, hx, hy, wrV_eq, k2', k3', k4', f]
              rw [hst, hk]
          · have k4' : ((x.g == y.g) != true) = true := by simp [k4]
            have hk := hno (by rw [hs1]; simp [k4])
            simp +contextual -implicitDefEqProofs (maxSteps := 2000000) only [↓wP, wQ, wQ1, wQ2, wQ3, wR, boxE, partsOf, ↓reduceIte, Nat.reduceEqDiff, Nat.reduceAdd, Nat.reduceSub, Nat.reduceLeDiff, Nat.reduceLT, Nat.reduceMul, reduceCtorEq, Int.reduceBNe, Int.reduceBEq, Int.reduceLT, Int.reduceLE, Int.reduceGT, h1, h2, g1, g2, hx, hy, wrV_eq, k2', k3', k4']
            rw [hk]
        · have k3' : (x.id != y.id) = true := by simp [k3]
          have hk := hno (by rw [hs1]; simp [k3])
          simp +contextual -implicitDefEqProofs (maxSteps := 2000000) only [↓wP, wQ, wQ1, wQ2, wQ3, wR, boxE, partsOf, ↓reduceIte, Nat.reduceEqDiff, Nat.reduceAdd, Nat.reduceSub, Nat.reduceLeDiff, Nat.reduceLT, Nat.reduceMul, reduceCtorEq, Int.reduceBNe, Int.reduceBEq, Int.reduceLT, Int.reduceLE, Int.reduceGT, h1, h2, g1, g2, hx, hy, wrV_eq, k2', k3']
          rw [hk]
      · have k2' : (x.c != y.c) = true := by simp [k2]
        have hk := hno (by rw [hs1]; simp [k2])
        simp +contextual -implicitDefEqProofs (maxSteps := 2000000) only [↓wP, wQ, wQ1, wQ2, wQ3, wR, boxE, partsOf, ↓reduceIte, Nat.reduceEqDiff, Nat.reduceAdd, Nat.reduceSub, Nat.reduceLeDiff, Nat.reduceLT, Nat.reduceMul, reduceCtorEq, Int.reduceBNe, Int.reduceBEq, Int.reduceLT, Int.reduceLE, Int.reduceGT, h1, h2, g1, g2, hx, hy, wrV_eq, k2']
        rw [hk]
    · intro env σ n ⟨g1, g2, g3⟩ h1 h2
      simp +contextual -implicitDefEqProofs (maxSteps := 2000000) only [↓wP, wQ, wQ1, wQ2, wQ3, wR, boxE, partsOf, ↓reduceIte, Nat.reduceEqDiff, Nat.reduceAdd, Nat.reduceSub, Nat.reduceLeDiff, Nat.reduceLT, Nat.reduceMul, reduceCtorEq, Int.reduceBNe, Int.reduceBEq, Int.reduceLT, Int.reduceLE, Int.reduceGT]
      rw [g3]
    · simp +contextual -implicitDefEqProofs (maxSteps := 2000000) only [↓wP, wQ, wQ1, wQ2, wQ3, wR, boxE, partsOf, ↓reduceIte, Nat.reduceEqDiff, Nat.reduceAdd, Nat.reduceSub, Nat.reduceLeDiff, Nat.reduceLT, Nat.reduceMul, reduceCtorEq, Int.reduceBNe, Int.reduceBEq, Int.reduceLT, Int.reduceLE, Int.reduceGT]
      rfl
  · have hd : (((lst a).length : Int) != ((lst b).length : Int)) = true := by simp; omega
    rw [decide_eq_false hlen]
    simp +contextual -implicitDefEqProofs (maxSteps := 2000000) only [↓wP, wQ, wQ1, wQ2, wQ3, wR, boxE, partsOf, ↓reduceIte, Nat.reduceEqDiff, Nat.reduceAdd, Nat.reduceSub, Nat.reduceLeDiff, Nat.reduceLT, Nat.reduceMul, reduceCtorEq, Int.reduceBNe, Int.reduceBEq, Int.reduceLT, Int.reduceLE, Int.reduceGT, hd]
theorem f19 (a b : Option (List Wr)) (ha : SmW a) (hb : SmW b) (fs : Bool) (σ : Sto) (n lk : Nat) : callE T fs 19 [slV 4 wrV a, slV 4 wrV b] σ n lk = some (.bool (sameL sameW1 (lst a) (lst b)), σ, n) :=
  callE_tr (by decide) (r19 a b ha hb) (by simp [Tr, Tr_slV]) rfl fs σ n lk
end Go.Q.S18
end

section
/- The document's rows: what comes of writes over rows. -/
set_option linter.unusedSimpArgs false
set_option linter.unusedVariables false
namespace Go.Q.S18
open Go.Q
theorem r99 (l : Option (List Wr)) (c : Int) (h : FitW (lst l)) : res T 99 [slV 4 wrV l, .int .i64 c] = some (slV 4 wrV (oL ((lst l).filter fun w => w.c == c))) := by
  refine run_res (run_pure (fn := g99) rfl rfl (by decide) ?_)
  simp only [g99, b99, oO, oN, mV, lD, gO, pP, qQ, cI, aR]
  have hl := h.1
  simp +contextual -implicitDefEqProofs (maxSteps := 2000000) only [↓wP, wQ, wQ1, wQ2, wQ3, wR, boxE, partsOf, ↓reduceIte, Nat.reduceEqDiff, Nat.reduceAdd, Nat.reduceSub, Nat.reduceLeDiff, Nat.reduceLT, Nat.reduceMul, reduceCtorEq, Int.reduceBNe, Int.reduceBEq, Int.reduceLT, Int.reduceLE, Int.reduceGT]
  refine WC_for (lst l).length 0 (fun (j : Nat) env σ n => env 1 = .int .i64 c ∧ env 8 = slV 4 wrV l ∧ ∃ v, env 5 = v ∧ Pl σ 0 n 4 v (oL ((((lst l).take j).filter fun w => w.c == c).map wrV))) (by omega) (by decide) (by decide) (fun _ _ => rfl) (fun _ _ _ => rfl) ?_ ?_ _ _ _ rfl rfl ?_
  · intro j env σ n hj h1 h2 ⟨h0, h3, v, h4, h5⟩
    simp only [vl_tmp] at h2
    have hx : (lst l)[j]? = some (lst l)[j] := List.getElem?_eq_getElem hj
    have ht : (lst l).take (j + 1) = (lst l).take j ++ [(lst l)[j]] := (List.take_append_getElem hj).symm
    generalize (lst l)[j] = x at *
    have hlen : ((((lst l).take j).filter fun w => w.c == c).map wrV).length ≤ j := by
      rw [List.length_map]
      have := List.length_filter_le (fun w : Wr => w.c == c) ((lst l).take j)
      rw [List.length_take] at this
      omega
    have hfs : ((lst l).take (j + 1)).filter (fun w => w.c == c) = ((lst l).take j).filter (fun w => w.c == c) ++ if (x.c == c) = true then [x] else [] := by
      rw [ht, List.filter_append]
      congr 1
      simp only [List.filter_cons, List.filter_nil]
    have hsp := spl h5
    have hc := h5.cells
    obtain ⟨σ1, hσ1⟩ : ∃ σ1, σ1 = upd (upd σ n (some (.row 4 [.agg [.int .i64 0, .int .u64 0, .bool false, .nilS]]))) n (some (.row 4 [.agg [.int .i64 x.c, .int .u64 x.id, .bool x.g, slV 1 i32V x.v]])) := ⟨_, rfl⟩
    have so : ∀ i, i < n → σ1 i = σ i := fun i hi => by rw [hσ1, upd_ne (by omega), upd_ne (by omega)]
    have sn : σ1 n = some (.row 4 [.agg [.int .i64 x.c, .int .u64 x.id, .bool x.g, slV 1 i32V x.v]]) := by rw [hσ1, upd_self]
    cases hk : (x.c == c)
    · rw [hk] at hfs
      simp only [Bool.false_eq_true, if_false, List.append_nil] at hfs
      simp +contextual -implicitDefEqProofs (maxSteps := 2000000) only [↓wP, wQ, wQ1, wQ2, wQ3, wR, boxE, partsOf, ↓reduceIte, Nat.reduceEqDiff, Nat.reduceAdd, Nat.reduceSub, Nat.reduceLeDiff, Nat.reduceLT, Nat.reduceMul, reduceCtorEq, Int.reduceBNe, Int.reduceBEq, Int.reduceLT, Int.reduceLE, Int.reduceGT, h1, h2, h0, h3, h4, hx, wrV_eq, ← hσ1, sn, hk]
      rw [hfs]
      exact ⟨_, rfl, h5.loc (fun i a b => so i b) (by omega)⟩
    · rw [hk] at hfs
      simp only [if_true] at hfs
      simp +contextual -implicitDefEqProofs (maxSteps := 2000000) only [↓wP, wQ, wQ1, wQ2, wQ3, wR, boxE, partsOf, ↓reduceIte, Nat.reduceEqDiff, Nat.reduceAdd, Nat.reduceSub, Nat.reduceLeDiff, Nat.reduceLT, Nat.reduceMul, reduceCtorEq, Int.reduceBNe, Int.reduceBEq, Int.reduceLT, Int.reduceLE, Int.reduceGT, h1, h2, h0, h3, h4, hx, wrV_eq, ← hσ1, sn, hk]
      refine stepW_app1 (m := 0) (n0 := n) (σ0 := σ) h5 (fun i g1 g2 => ?_) (by omega) (by omega) (Nat.zero_le _) ?_ (fun _ σ2 g1 g2 => ?_)
      · rw [upd_ne (by omega), so i g2]
      · rw [lst_oL]; unfold LIM; omega
      · rw [lst_oL] at g1 ⊢
        simp +contextual -implicitDefEqProofs (maxSteps := 2000000) only [↓wP, wQ, wQ1, wQ2, wQ3, wR, boxE, partsOf, ↓reduceIte, Nat.reduceEqDiff, Nat.reduceAdd, Nat.reduceSub, Nat.reduceLeDiff, Nat.reduceLT, Nat.reduceMul, reduceCtorEq, Int.reduceBNe, Int.reduceBEq, Int.reduceLT, Int.reduceLE, Int.reduceGT, h1, h2, h0, h3, hc, hsp]
        refine ⟨_, rfl, ?_⟩
        rw [hfs, List.map_append]
        have e2 : oL ((((lst l).take j).filter fun w => w.c == c).map wrV ++ [x].map wrV) = some ((((lst l).take j).filter fun w => w.c == c).map wrV ++ [wrV x]) := by
          cases ((lst l).take j).filter fun w => w.c == c <;> rfl
        rw [e2]
        exact g1
  · intro env σ n ⟨h0, h3, v, h4, h5⟩ h1 h2
    rw [List.take_length] at h5
    have hf := h5.frz (by rw [lst_oL]; exact wr_fz.1) (by rw [lst_oL]; exact wr_fz.2)
    simp +contextual -implicitDefEqProofs (maxSteps := 2000000) only [↓wP, wQ, wQ1, wQ2, wQ3, wR, boxE, partsOf, ↓reduceIte, Nat.reduceEqDiff, Nat.reduceAdd, Nat.reduceSub, Nat.reduceLeDiff, Nat.reduceLT, Nat.reduceMul, reduceCtorEq, Int.reduceBNe, Int.reduceBEq, Int.reduceLT, Int.reduceLE, Int.reduceGT, h4]
    rw [hf, slV_oL]
  · simp +contextual -implicitDefEqProofs (maxSteps := 2000000) only [↓wP, wQ, wQ1, wQ2, wQ3, wR, boxE, partsOf, ↓reduceIte, Nat.reduceEqDiff, Nat.reduceAdd, Nat.reduceSub, Nat.reduceLeDiff, Nat.reduceLT, Nat.reduceMul, reduceCtorEq, Int.reduceBNe, Int.reduceBEq, Int.reduceLT, Int.reduceLE, Int.reduceGT]
    simp [oL, Pl]
theorem f99 (l : Option (List Wr)) (c : Int) (h : FitW (lst l)) (fs : Bool) (σ : Sto) (n lk : Nat) : callE T fs 99 [slV 4 wrV l, .int .i64 c] σ n lk = some (slV 4 wrV (oL ((lst l).filter fun w => w.c == c)), σ, n) :=
  callE_tr (by decide) (r99 l c h) (by simp [Tr, Tr_slV]) (Nw_slV _ _ _ _) fs σ n lk
theorem RM.nil : RM [] [] := ⟨List.Pairwise.nil, fun id v => by simp [vw]⟩
theorem RM.put {R : List Rw} {L : List (En Int Vc)} {clk : Nat} (h : RM R L) (hm : MOk L clk) (r : Rw) : RM (putR R r) (mput L clk r.id r.v).1 := by
  refine ⟨asc_putR h.1 r, fun id v => ?_⟩
  rw [mem_putR, vw_mput]
  by_cases e : id = r.id
  · rw [if_pos e]
    subst e
    constructor
    · rintro (h' | ⟨-, h'⟩)
      · rw [← h']
      · exact absurd rfl h'
    · intro h'
      rw [Option.some.injEq] at h'
      subst h'
      exact .inl rfl
  · rw [if_neg e, ← h.2]
    constructor
    · rintro (h' | ⟨h', -⟩)
      · exact absurd (by rw [← h']) e
      · exact h'
    · intro h'; exact .inr ⟨h', e⟩
theorem RM.del {R : List Rw} {L : List (En Int Vc)} (h : RM R L) (a : Int) : RM (delR R a) (mdel L a) := by
  refine ⟨asc_delR h.1 a, fun id v => ?_⟩
  rw [mem_delR, vw_mdel]
  by_cases e : id = a
  · rw [if_pos e]; simp [e]
  · rw [if_neg e, ← h.2]; simp [e]
def ovStep (R : List Rw) (w : Wr) : List Rw := if w.g then delR R w.id else putR R ⟨w.id, w.v⟩
def ovR (rows : List Rw) (l : List Wr) : List Rw := l.foldl ovStep (rows.foldl putR [])
def cpR (r : Rw) : Rw := ⟨r.id, cp r.v⟩
def vV (v : Vc) : V := slV 1 i32V v
theorem fz_row {σ : Sto} {i : Nat} {r : Rw} (h : σ i = some (.row 1 ((lst r.v).map i32V))) {S : Nat → Prop} (hS : S i) :
    FzL σ 11 [.agg [.int .u64 r.id, .ref i 0 (lst r.v).length 1]] [rwV (cpR r)] S := by
  obtain ⟨h1, h2⟩ := fz_vec h hS
  refine ⟨?_, ?_⟩
  · simp only [List.mapM_cons, List.mapM_nil, elemM, h1]
    rfl
  · intro x hx c hc id hid
    rw [List.mem_singleton] at hx
    subst hx
    simp only [V.cells, List.mem_cons, List.not_mem_nil, or_false] at hc
    rcases hc with rfl | rfl
    · simp [rch] at hid
    · exact h2 id hid
theorem asc_head {r : Rw} {R : List Rw} (h : Asc (r :: R)) : delR (r :: R) r.id = R := by
  obtain ⟨h1, h2⟩ := List.pairwise_cons.1 h
  unfold delR
  rw [List.filter_cons, if_neg (by simp), List.filter_eq_self]
  intro x hx
  have := h1 x hx
  simp; omega
theorem RM.head {r : Rw} {R : List Rw} {L : List (En Int Vc)} {clk : Nat} (h : RM (r :: R) L) (hm : MOk L clk) {a : Int} (h1 : ∃ e ∈ L, e.1 = a) (h2 : ∀ e ∈ L, a ≤ e.1) : a = r.id := by
  obtain ⟨e, he, rfl⟩ := h1
  have hv : vw L r.id = some r.v := (h.2 r.id r.v).1 List.mem_cons_self
  obtain ⟨s, hs⟩ := (vw_some hm.keys).1 hv
  have h3 := h2 _ hs
  have hv2 : vw L e.1 = some e.2.1 := (vw_some hm.keys).2 ⟨e.2.2, he⟩
  have h4 := (h.2 e.1 e.2.1).2 hv2
  rcases List.mem_cons.1 h4 with h5 | h5
  · rw [← h5]
  · have := (List.pairwise_cons.1 h.1).1 _ h5
    simp only at this h3
    omega
theorem RM.some {r : Rw} {R : List Rw} {L : List (En Int Vc)} (h : RM (r :: R) L) : 0 < L.length := by
  have hv : vw L r.id = Option.some r.v := (h.2 r.id r.v).1 List.mem_cons_self
  cases L with
  | nil => simp [vw] at hv
  | cons e L => simp
theorem RM.none {L : List (En Int Vc)} {clk : Nat} (h : RM [] L) (hm : MOk L clk) : L = [] := by
  cases L with
  | nil => rfl
  | cons e L =>
    have hv : vw (e :: L) e.1 = Option.some e.2.1 := (vw_some hm.keys).2 ⟨e.2.2, List.mem_cons_self⟩
    have := (h.2 e.1 e.2.1).2 hv
    simp at this
end Go.Q.S18
end

section
/- The document's rows: Overlay. -/
set_option linter.unusedSimpArgs false
set_option linter.unusedVariables false
namespace Go.Q.S18
open Go.Q
def uV (x : Int) : V := .int .u64 x
theorem keyU : KeyOk (.one .int) uV := fun a b => rfl
theorem insR_len (r : Rw) : ∀ s, (insR r s).length = s.length + 1
  | [] => rfl
  | x :: s => by unfold insR; split <;> simp [insR_len r s]
theorem delR_len (R : List Rw) (a : Int) : (delR R a).length ≤ R.length := List.length_filter_le _ _
theorem putR_len (R : List Rw) (r : Rw) : (putR R r).length ≤ R.length + 1 := by
  unfold putR; rw [insR_len]; have := delR_len R r.id; omega
theorem fold_len (l : List Wr) : ∀ R, (l.foldl ovStep R).length ≤ R.length + l.length := by
  induction l with
  | nil => intro R; simp
  | cons w l ih =>
    intro R
    rw [List.foldl_cons]
    have h1 := ih (ovStep R w)
    have h2 : (ovStep R w).length ≤ R.length + 1 := by
      unfold ovStep; split
      · have := delR_len R w.id; omega
      · exact putR_len _ _
    simp only [List.length_cons]; omega
theorem foldp_len (l : List Rw) : ∀ R, (l.foldl putR R).length ≤ R.length + l.length := by
  induction l with
  | nil => intro R; simp
  | cons w l ih =>
    intro R
    rw [List.foldl_cons]
    have h1 := ih (putR R w)
    have h2 := putR_len R w
    simp only [List.length_cons]; omega
theorem ovR_len (rows : List Rw) (l : List Wr) : (ovR rows l).length ≤ rows.length + l.length := by
  unfold ovR
  have h1 := fold_len l (rows.foldl putR [])
  have h2 := foldp_len rows []
  simp only [List.length_nil] at h2; omega
theorem foldp_all {P : Vc → Prop} : ∀ (l R : List Rw), (∀ r ∈ l, P r.v) → (∀ r ∈ R, P r.v) → ∀ r ∈ l.foldl putR R, P r.v
  | [], R, _, h2 => h2
  | w :: l, R, h1, h2 => foldp_all l (putR R w) (fun r hr => h1 r (List.mem_cons_of_mem _ hr)) (fun r hr => by
      rcases mem_putR.1 hr with rfl | hr
      · exact h1 _ List.mem_cons_self
      · exact h2 r hr.1)
theorem fold_all {P : Vc → Prop} : ∀ (l : List Wr) (R : List Rw), (∀ w ∈ l, P w.v) → (∀ r ∈ R, P r.v) → ∀ r ∈ l.foldl ovStep R, P r.v
  | [], R, _, h2 => h2
  | w :: l, R, h1, h2 => fold_all l (ovStep R w) (fun r hr => h1 r (List.mem_cons_of_mem _ hr)) (fun r hr => by
      unfold ovStep at hr
      split at hr
      · exact h2 r (mem_delR.1 hr).1
      · rcases mem_putR.1 hr with rfl | hr
        · exact h1 w List.mem_cons_self
        · exact h2 r hr.1)
theorem ovR_all {P : Vc → Prop} {rows : List Rw} {l : List Wr} (h1 : ∀ r ∈ rows, P r.v) (h2 : ∀ w ∈ l, P w.v) : ∀ r ∈ ovR rows l, P r.v :=
  fold_all l _ h2 (foldp_all rows [] h1 (fun r hr => by simp at hr))
theorem born_inj : ∀ {L : List (En Int Vc)}, (L.map (·.2.2)).Nodup → ∀ {e e' : En Int Vc}, e ∈ L → e' ∈ L → e.2.2 = e'.2.2 → e = e'
  | [], _, e, e', he, _, _ => by simp at he
  | x :: L, h, e, e', he, he', hs => by
    rw [List.map_cons, List.nodup_cons] at h
    rcases List.mem_cons.1 he with e1 | he <;> rcases List.mem_cons.1 he' with e2 | he'
    · rw [e1, e2]
    · exact absurd (List.mem_map.2 ⟨e', he', by rw [← hs, e1]⟩) h.1
    · exact absurd (List.mem_map.2 ⟨e, he, by rw [hs, e2]⟩) h.1
    · exact born_inj h.2 he he' hs
def FitR (l : List Rw) : Prop := l.length ≤ 1000000 ∧ ∀ f ∈ l, (lst f.v).length ≤ 1000000
theorem r68 (l : Option (List Wr)) (c : Int) (o : Option (List Rw)) (h : FitW (lst l)) (ho : FitR (lst o)) : res T 68 [slV 4 wrV l, .int .i64 c, slV 2 rwV o] = some (slV 2 rwV (oL ((ovR (lst o) ((lst l).filter fun w => w.c == c)).map cpR))) := by
  refine run_res (run_pure (fn := g68) rfl rfl (by decide) ?_)
  simp only [g68, b68, oO, oN, mV, lD, gO, pP, qQ, cI, aR]
  have hl := h.1
  have hol := ho.1
  have f99' := f99 l c h
  obtain ⟨W, hW⟩ : ∃ W, W = (lst l).filter (fun w => w.c == c) := ⟨_, rfl⟩
  have hWl : W.length ≤ 1000000 := by rw [hW]; have := List.length_filter_le (fun w : Wr => w.c == c) (lst l); omega
  have hWv : ∀ w ∈ W, (lst w.v).length ≤ 1000000 := fun w hw => by rw [hW] at hw; exact h.2 w (List.mem_filter.1 hw).1
  rw [← hW] at f99' ⊢
  obtain ⟨R, hR⟩ : ∃ R, R = ovR (lst o) W := ⟨_, rfl⟩
  have hRl : R.length ≤ 2000000 := by rw [hR]; have := ovR_len (lst o) W; omega
  have hRv : ∀ r ∈ R, (lst r.v).length ≤ 1000000 := by rw [hR]; exact ovR_all (P := fun v => (lst v).length ≤ 1000000) ho.2 hWv
  rw [← hR]
  simp +contextual -implicitDefEqProofs (maxSteps := 2000000) only [↓wP, wQ, wQ1, wQ2, wQ3, wR, boxE, partsOf, ↓reduceIte, Nat.reduceEqDiff, Nat.reduceAdd, Nat.reduceSub, Nat.reduceLeDiff, Nat.reduceLT, Nat.reduceMul, reduceCtorEq, Int.reduceBNe, Int.reduceBEq, Int.reduceLT, Int.reduceLE, Int.reduceGT]
  refine WC_cutB (fun env σ n => env 0 = slV 4 wrV l ∧ env 1 = .int .i64 c ∧ env 7 = .mp 0 ∧ 1 ≤ n ∧ ∃ Lm clk, MOk Lm clk ∧ σ 0 = some (.map (ens uV vV Lm) clk) ∧ RM ((lst o).foldl putR []) Lm) ?_ ?_
  · refine WC_for (lst o).length 0 (fun (j : Nat) env σ n => env 0 = slV 4 wrV l ∧ env 1 = .int .i64 c ∧ env 7 = .mp 0 ∧ env 17 = slV 2 rwV o ∧ 1 ≤ n ∧ ∃ Lm clk, MOk Lm clk ∧ σ 0 = some (.map (ens uV vV Lm) clk) ∧ RM (((lst o).take j).foldl putR []) Lm) (by omega) (by decide) (by decide) (fun _ _ => rfl) (fun _ _ _ => rfl) ?_ ?_ _ _ _ rfl rfl ?_
    · intro j env σ n hj e1 e2 ⟨g1, g2, g3, g4, g5, Lm, clk, m1, m2, m3⟩
      simp only [vl_tmp] at e2
      have hx : (lst o)[j]? = some (lst o)[j] := List.getElem?_eq_getElem hj
      have ht : ((lst o).take (j + 1)).foldl putR [] = putR (((lst o).take j).foldl putR []) (lst o)[j] := by
        rw [← List.take_append_getElem hj, List.foldl_append]; rfl
      generalize (lst o)[j] = x at *
      obtain ⟨σ1, hσ1⟩ : ∃ σ1, σ1 = upd (upd σ n (some (.row 2 [.agg [.int .u64 0, .nilS]]))) n (some (.row 2 [.agg [.int .u64 x.id, slV 1 i32V x.v]])) := ⟨_, rfl⟩
      have s0 : σ1 0 = some (.map (ens uV vV Lm) clk) := by rw [hσ1, upd_ne (by omega), upd_ne (by omega)]; exact m2
      have sn : σ1 n = some (.row 2 [.agg [.int .u64 x.id, slV 1 i32V x.v]]) := by rw [hσ1, upd_self]
      have pu := mupd_ens (ke := uV) (ve := vV) (lk := 0) keyU m1 s0 (Nat.zero_le _) x.id x.v (n + 1)
      simp only [uV, vV] at pu
      simp +contextual -implicitDefEqProofs (maxSteps := 2000000) only [↓wP, wQ, wQ1, wQ2, wQ3, wR, boxE, partsOf, ↓reduceIte, Nat.reduceEqDiff, Nat.reduceAdd, Nat.reduceSub, Nat.reduceLeDiff, Nat.reduceLT, Nat.reduceMul, reduceCtorEq, Int.reduceBNe, Int.reduceBEq, Int.reduceLT, Int.reduceLE, Int.reduceGT, e1, e2, g1, g2, g3, g4, hx, rwV_eq, ← hσ1, sn, pu]
      exact ⟨_, _, mput_ok m1 _ _, rfl, by rw [ht]; exact m3.put m1 x⟩
    · intro env σ n ⟨g1, g2, g3, g4, g5, Lm, clk, m1, m2, m3⟩ e1 e2
      rw [List.take_length] at m3
      exact ⟨rfl, rfl, g1, g2, g3, g5, Lm, clk, m1, m2, m3⟩
    · exact ⟨rfl, rfl, rfl, rfl, Nat.le_refl _, [], 0, MOk.nil, rfl, RM.nil⟩
  · intro env σ n ⟨g1, g2, g3, g5, Lm, clk, m1, m2, m3⟩
    simp +contextual -implicitDefEqProofs (maxSteps := 2000000) only [↓wP, wQ, wQ1, wQ2, wQ3, wR, boxE, partsOf, ↓reduceIte, Nat.reduceEqDiff, Nat.reduceAdd, Nat.reduceSub, Nat.reduceLeDiff, Nat.reduceLT, Nat.reduceMul, reduceCtorEq, Int.reduceBNe, Int.reduceBEq, Int.reduceLT, Int.reduceLE, Int.reduceGT, g1, g2, f99']
    refine WC_cutB (fun env σ n => env 7 = .mp 0 ∧ 1 ≤ n ∧ ∃ Lm clk, MOk Lm clk ∧ σ 0 = some (.map (ens uV vV Lm) clk) ∧ RM R Lm) ?_ ?_
    · refine WC_for (lst (oL W)).length 0 (fun (j : Nat) env σ n => env 7 = .mp 0 ∧ env 31 = slV 4 wrV (oL W) ∧ 1 ≤ n ∧ ∃ Lm clk, MOk Lm clk ∧ σ 0 = some (.map (ens uV vV Lm) clk) ∧ RM ((W.take j).foldl ovStep ((lst o).foldl putR [])) Lm) (by rw [lst_oL]; omega) (by decide) (by decide) (fun _ _ => rfl) (fun _ _ _ => rfl) ?_ ?_ _ _ _ rfl rfl ?_
      · clear g1 g2 g3 g5 m1 m2 m3 Lm clk
        intro j env σ n hj e1 e2 ⟨g3, g4, g5, Lm, clk, m1, m2, m3⟩
        rw [lst_oL] at hj
        simp only [vl_tmp] at e2
        have hx : (lst (oL W))[j]? = some W[j] := by rw [lst_oL]; exact List.getElem?_eq_getElem hj
        have ht : (W.take (j + 1)).foldl ovStep ((lst o).foldl putR []) = ovStep ((W.take j).foldl ovStep ((lst o).foldl putR [])) W[j] := by
          rw [← List.take_append_getElem hj, List.foldl_append]; rfl
        generalize W[j] = x at *
        obtain ⟨σ1, hσ1⟩ : ∃ σ1, σ1 = upd (upd σ n (some (.row 4 [.agg [.int .i64 0, .int .u64 0, .bool false, .nilS]]))) n (some (.row 4 [.agg [.int .i64 x.c, .int .u64 x.id, .bool x.g, slV 1 i32V x.v]])) := ⟨_, rfl⟩
        have s0 : σ1 0 = some (.map (ens uV vV Lm) clk) := by rw [hσ1, upd_ne (by omega), upd_ne (by omega)]; exact m2
        have sn : σ1 n = some (.row 4 [.agg [.int .i64 x.c, .int .u64 x.id, .bool x.g, slV 1 i32V x.v]]) := by rw [hσ1, upd_self]
        have pu := mupd_ens (ke := uV) (ve := vV) (lk := 0) keyU m1 s0 (Nat.zero_le _) x.id x.v (n + 1)
        have pd := mdel_ens (ke := uV) (ve := vV) (lk := 0) keyU m1 s0 (Nat.zero_le _) x.id (n + 1)
        simp only [uV, vV] at pu pd
        cases hg : x.g
        all_goals rw [hg] at hσ1 sn
        · have e : ovStep ((W.take j).foldl ovStep ((lst o).foldl putR [])) x = putR ((W.take j).foldl ovStep ((lst o).foldl putR [])) ⟨x.id, x.v⟩ := by unfold ovStep; rw [hg]; rfl
          simp +contextual -implicitDefEqProofs (maxSteps := 2000000) only [↓wP, wQ, wQ1, wQ2, wQ3, wR, boxE, partsOf, ↓reduceIte, Nat.reduceEqDiff, Nat.reduceAdd, Nat.reduceSub, Nat.reduceLeDiff, Nat.reduceLT, Nat.reduceMul, reduceCtorEq, Int.reduceBNe, Int.reduceBEq, Int.reduceLT, Int.reduceLE, Int.reduceGT, e1, e2, g3, g4, hx, wrV_eq, hg, ← hσ1, sn, pu]
          exact ⟨_, _, mput_ok m1 _ _, rfl, by rw [ht, e]; exact m3.put m1 ⟨x.id, x.v⟩⟩
        · have e : ovStep ((W.take j).foldl ovStep ((lst o).foldl putR [])) x = delR ((W.take j).foldl ovStep ((lst o).foldl putR [])) x.id := by unfold ovStep; rw [hg]; rfl
          simp +contextual -implicitDefEqProofs (maxSteps := 2000000) only [↓wP, wQ, wQ1, wQ2, wQ3, wR, boxE, partsOf, ↓reduceIte, Nat.reduceEqDiff, Nat.reduceAdd, Nat.reduceSub, Nat.reduceLeDiff, Nat.reduceLT, Nat.reduceMul, reduceCtorEq, Int.reduceBNe, Int.reduceBEq, Int.reduceLT, Int.reduceLE, Int.reduceGT, e1, e2, g3, g4, hx, wrV_eq, hg, ← hσ1, sn, pd]
          exact ⟨_, _, mdel_ok m1 _, rfl, by rw [ht, e]; exact m3.del x.id⟩
      · clear g1 g2 g3 g5 m1 m2 m3 Lm clk
        intro env σ n ⟨g3, g4, g5, Lm, clk, m1, m2, m3⟩ e1 e2
        rw [lst_oL, List.take_length] at m3
        exact ⟨rfl, rfl, g3, g5, Lm, clk, m1, m2, by rw [hR]; exact m3⟩
      · simp +contextual -implicitDefEqProofs (maxSteps := 2000000) only [↓wP, wQ, wQ1, wQ2, wQ3, wR, boxE, partsOf, ↓reduceIte, Nat.reduceEqDiff, Nat.reduceAdd, Nat.reduceSub, Nat.reduceLeDiff, Nat.reduceLT, Nat.reduceMul, reduceCtorEq, Int.reduceBNe, Int.reduceBEq, Int.reduceLT, Int.reduceLE, Int.reduceGT, g3]
        exact ⟨g5, Lm, clk, m1, m2, m3⟩
    · clear g1 g2 g3 g5 m1 m2 m3 Lm clk f99'
      intro env σ n ⟨g3, g5, Lm, clk, m1, m2, m3⟩
      simp +contextual -implicitDefEqProofs (maxSteps := 2000000) only [↓wP, wQ, wQ1, wQ2, wQ3, wR, boxE, partsOf, ↓reduceIte, Nat.reduceEqDiff, Nat.reduceAdd, Nat.reduceSub, Nat.reduceLeDiff, Nat.reduceLT, Nat.reduceMul, reduceCtorEq, Int.reduceBNe, Int.reduceBEq, Int.reduceLT, Int.reduceLE, Int.reduceGT]
      refine WC_loopI 0 (fun (d : Nat) env σ n => d ≤ R.length ∧ env 7 = .mp 0 ∧ 1 ≤ n ∧ (∃ Lm clk, MOk Lm clk ∧ σ 0 = some (.map (ens uV vV Lm) clk) ∧ RM (R.drop d) Lm) ∧
        ∃ v, env 12 = v ∧ Bls σ 2 v (oL (((R.take d).map cpR).map rwV)) (fun i => 1 ≤ i ∧ i < n)) (fun d => R.length - d) ?_ 0 _ _ _ ?_
      · clear g3 g5 m1 m2 m3 Lm clk
        intro d env σ n ⟨hd, g3, g5, ⟨Lm, clk, m1, m2, m3⟩, v, g6, g7⟩
        have hml : (ens uV vV Lm).length = Lm.length := List.length_map _
        by_cases hdl : d < R.length
        · have hdr : R.drop d = R[d] :: R.drop (d + 1) := List.drop_eq_getElem_cons hdl
          have hrv := hRv _ (List.getElem_mem hdl)
          have htk : R.take (d + 1) = R.take d ++ [R[d]] := (List.take_append_getElem hdl).symm
          obtain ⟨r, hr⟩ : ∃ r, r = R[d] := ⟨_, rfl⟩
          rw [← hr] at hdr hrv htk
          rw [hdr] at m3
          have hpos := m3.some
          have hp : (0 : Int) < (Lm.length : Int) := by omega
          have hrg : rangeE (.mp 0) σ n = some (.it n, upd σ n (some (.iter 0 clk [] clk)), n + 1) := by simp [rangeE, m2]
          simp +contextual -implicitDefEqProofs (maxSteps := 2000000) only [↓wP, wQ, wQ1, wQ2, wQ3, wR, boxE, partsOf, ↓reduceIte, Nat.reduceEqDiff, Nat.reduceAdd, Nat.reduceSub, Nat.reduceLeDiff, Nat.reduceLT, Nat.reduceMul, reduceCtorEq, Int.reduceBNe, Int.reduceBEq, Int.reduceLT, Int.reduceLE, Int.reduceGT, g3, m2, hml, hp, hrg]
          refine WC_cutB (fun env σ' n' => env 7 = .mp 0 ∧ env 12 = v ∧ env 14 = .int .u64 r.id ∧ n' = n + 1 ∧ ∀ i, i < n → σ' i = σ i) ?_ ?_
          · refine WC_loopM 0 (fun (seen : List Nat) env σ'' n'' => env 52 = .it n ∧ env 7 = .mp 0 ∧ env 12 = v ∧ n'' = n + 1 ∧ (∀ i, i < n → σ'' i = σ i) ∧ σ'' n = some (.iter 0 clk seen clk) ∧
              ((env 13 = .bool true ∧ env 14 = .int .u64 0 ∧ ∀ e ∈ Lm, e.2.2 ∉ seen) ∨ (env 13 = .bool false ∧ ∃ a, env 14 = .int .u64 a ∧ (∃ e ∈ Lm, e.1 = a) ∧ ∀ e ∈ Lm, e.2.2 ∈ seen → a ≤ e.1))) (fun seen => (Lm.filter fun x => decide (x.2.2 ∉ seen)).length) ?_ [] _ _ _ ?_
            · intro seen env σ'' n'' ⟨k1, k2, k3, k4, k5, k6, k7⟩
              subst k4
              rw [vl_tmp, k1]
              have k5' : σ'' 0 = some (.map (ens uV vV Lm) clk) := by rw [k5 0 (by omega)]; exact m2
              refine nextW_ens m1 k6 k5' (Nat.zero_le _) (fun e he hn => ?_) (fun hall => ?_)
              · obtain ⟨S0, hS0⟩ : ∃ S, S = upd σ'' n (some (.iter 0 clk (seen ++ [e.2.2]) clk)) := ⟨_, rfl⟩
                rw [← hS0]
                have b1 : S0 0 = some (.map (ens uV vV Lm) clk) := by rw [hS0, upd_ne (by omega)]; exact k5'
                have b2 : S0 n = some (.iter 0 clk (seen ++ [e.2.2]) clk) := by rw [hS0, upd_self]
                have b3 : ∀ i, i < n → S0 i = σ i := fun i hi => by rw [hS0, upd_ne (by omega)]; exact k5 i hi
                have hen := entry_ens m1 b2 b1 he
                have hlt := unseen_lt he hn
                have hborn : ∀ e' ∈ Lm, e'.2.2 ∈ seen ++ [e.2.2] → e'.2.2 ∈ seen ∨ e' = e := by
                  intro e' he' hs'
                  rcases List.mem_append.1 hs' with h' | h'
                  · exact .inl h'
                  · refine .inr ?_
                    rw [List.mem_singleton] at h'
                    exact born_inj m1.born he' he h'
                obtain ⟨a, vv, s⟩ := e
                simp only [uV, vV] at hen
                rcases k7 with ⟨k7, k8, k9⟩ | ⟨k7, a0, k8, k9, k10⟩
                · simp +contextual -implicitDefEqProofs (maxSteps := 2000000) only [↓wP, wQ, wQ1, wQ2, wQ3, wR, boxE, partsOf, ↓reduceIte, Nat.reduceEqDiff, Nat.reduceAdd, Nat.reduceSub, Nat.reduceLeDiff, Nat.reduceLT, Nat.reduceMul, reduceCtorEq, Int.reduceBNe, Int.reduceBEq, Int.reduceLT, Int.reduceLE, Int.reduceGT, k1, k2, k3, k7, hen]
                  refine ⟨seen ++ [s], hlt, b3, b2, .inr ⟨_, rfl, ⟨_, he, rfl⟩, fun e' he' hs' => ?_⟩⟩
                  rcases hborn e' he' hs' with h' | h'
                  · exact absurd h' (k9 e' he')
                  · rw [h']; exact Int.le_refl _
                · by_cases hla : a < a0
                  · simp +contextual -implicitDefEqProofs (maxSteps := 2000000) only [↓wP, wQ, wQ1, wQ2, wQ3, wR, boxE, partsOf, ↓reduceIte, Nat.reduceEqDiff, Nat.reduceAdd, Nat.reduceSub, Nat.reduceLeDiff, Nat.reduceLT, Nat.reduceMul, reduceCtorEq, Int.reduceBNe, Int.reduceBEq, Int.reduceLT, Int.reduceLE, Int.reduceGT, k1, k2, k3, k7, k8, hen, hla]
                    refine ⟨seen ++ [s], hlt, b3, b2, .inr ⟨_, rfl, ⟨_, he, rfl⟩, fun e' he' hs' => ?_⟩⟩
                    rcases hborn e' he' hs' with h' | h'
                    · have := k10 e' he' h'; omega
                    · rw [h']; exact Int.le_refl _
                  · simp +contextual -implicitDefEqProofs (maxSteps := 2000000) only [↓wP, wQ, wQ1, wQ2, wQ3, wR, boxE, partsOf, ↓reduceIte, Nat.reduceEqDiff, Nat.reduceAdd, Nat.reduceSub, Nat.reduceLeDiff, Nat.reduceLT, Nat.reduceMul, reduceCtorEq, Int.reduceBNe, Int.reduceBEq, Int.reduceLT, Int.reduceLE, Int.reduceGT, k1, k2, k3, k7, k8, hen, hla]
                    refine ⟨seen ++ [s], hlt, b3, b2, .inr ⟨a0, rfl, k9, fun e' he' hs' => ?_⟩⟩
                    rcases hborn e' he' hs' with h' | h'
                    · exact k10 e' he' h'
                    · rw [h']; show a0 ≤ a; omega
              · rcases k7 with ⟨k7, k8, k9⟩ | ⟨k7, a0, k8, k9, k10⟩
                · cases Lm with
                  | nil => simp at hpos
                  | cons e L => exact absurd (hall e List.mem_cons_self) (k9 e List.mem_cons_self)
                · have ha := m3.head m1 k9 (fun e he => k10 e he (hall e he))
                  subst ha
                  simp +contextual -implicitDefEqProofs (maxSteps := 2000000) only [↓wP, wQ, wQ1, wQ2, wQ3, wR, boxE, partsOf, ↓reduceIte, Nat.reduceEqDiff, Nat.reduceAdd, Nat.reduceSub, Nat.reduceLeDiff, Nat.reduceLT, Nat.reduceMul, reduceCtorEq, Int.reduceBNe, Int.reduceBEq, Int.reduceLT, Int.reduceLE, Int.reduceGT, k2, k3, k8]
                  exact ⟨rfl, rfl, k2, k3, k8, rfl, k5⟩
            · simp +contextual -implicitDefEqProofs (maxSteps := 2000000) only [↓wP, wQ, wQ1, wQ2, wQ3, wR, boxE, partsOf, ↓reduceIte, Nat.reduceEqDiff, Nat.reduceAdd, Nat.reduceSub, Nat.reduceLeDiff, Nat.reduceLT, Nat.reduceMul, reduceCtorEq, Int.reduceBNe, Int.reduceBEq, Int.reduceLT, Int.reduceLE, Int.reduceGT, g3, g6]
              exact ⟨fun i hi => by rw [if_neg (by omega)], .inl (fun e _ h => by simp at h)⟩
          · intro env σ' n' ⟨k1, k2, k3, k4, k5⟩
            subst k4
            have b1 : σ' 0 = some (.map (ens uV vV Lm) clk) := by rw [k5 0 (by omega)]; exact m2
            have hmg : mgetE false (.one .int) .nilS (some (ens uV vV Lm)) (.int .u64 r.id) = some (slV 1 i32V r.v) := by
              have := mget_ens (ve := vV) keyU false .nilS r.id Lm
              simp only [uV] at this
              rw [this, (m3.2 r.id r.v).1 List.mem_cons_self]
              rfl
            have hlm : ((lst r.v).map i32V).length = (lst r.v).length := List.length_map _
            have hLl : (lst r.v).length * 4 ≤ LIM := by unfold LIM; omega
            have g7' := g7.loc (σ' := σ') (S' := fun i => 1 ≤ i ∧ i < n) (fun i hi => k5 i hi.2) (fun i hi => hi)
            simp +contextual -implicitDefEqProofs (maxSteps := 2000000) only [↓wP, wQ, wQ1, wQ2, wQ3, wR, boxE, partsOf, ↓reduceIte, Nat.reduceEqDiff, Nat.reduceAdd, Nat.reduceSub, Nat.reduceLeDiff, Nat.reduceLT, Nat.reduceMul, reduceCtorEq, Int.reduceBNe, Int.reduceBEq, Int.reduceLT, Int.reduceLE, Int.reduceGT, k1, k2, k3, b1, hmg, true_or, hlm, hLl]
            generalize hσ1 : upd _ (n + 3) _ = σ1
            have so : ∀ i, i < n + 1 → σ1 i = σ' i := fun i hi => by
              rw [← hσ1, upd_ne (by omega), upd_ne (by omega), upd_ne (by omega), upd_ne (by omega)]
            have sv : σ1 (n + 2) = some (.row 1 ((lst r.v).map i32V)) := by
              rw [← hσ1, upd_ne (by omega), upd_self]
            have h5' := g7'.loc (σ' := σ1) (S' := fun i => 1 ≤ i ∧ i < n) (fun i hi => so i (by omega)) (fun i hi => hi)
            have hne : ∀ i, (i = 0 ∨ n ≤ i) → ∀ off len s, v ≠ .ref i off len s := by
              intro i hi off len s e
              subst e
              have := Bls.ids g7 ⟨off, len, s, rfl⟩
              omega
            refine stepW_appS (us := [rwV (cpR r)]) (S' := fun i => 1 ≤ i) h5' (fun i hi => by omega) (fun i hi => hi.1) (by omega) (fz_row sv ⟨by omega, by omega, hne _ (by omega)⟩) ?_ (fun v' σ2 n' q1 q2 q3 q4 => ?_)
            · rw [lst_oL, List.length_map, List.length_map, List.length_take]; unfold LIM; simp; omega
            · have b2 : σ2 0 = some (.map (ens uV vV Lm) clk) := by rw [q4 0 (by omega) (hne 0 (.inl rfl)), so 0 (by omega)]; exact b1
              have pd := mdel_ens (ke := uV) (ve := vV) (lk := 0) keyU m1 b2 (Nat.zero_le _) r.id n'
              simp only [uV] at pd
              simp +contextual -implicitDefEqProofs (maxSteps := 2000000) only [↓wP, wQ, wQ1, wQ2, wQ3, wR, boxE, partsOf, ↓reduceIte, Nat.reduceEqDiff, Nat.reduceAdd, Nat.reduceSub, Nat.reduceLeDiff, Nat.reduceLT, Nat.reduceMul, reduceCtorEq, Int.reduceBNe, Int.reduceBEq, Int.reduceLT, Int.reduceLE, Int.reduceGT, k1, k2, k3, q1.cells, pd]
              refine ⟨d + 1, by omega, by omega, by omega, ⟨_, _, mdel_ok m1 _, rfl, ?_⟩, _, rfl, ?_⟩
              · have := m3.del r.id
                rw [asc_head m3.1] at this
                exact this
              · rw [htk, List.map_append, List.map_append, ← appO_oL]
                exact q1.loc (fun i hi => by rw [upd_ne (by omega)]) (fun i hi => hi)
        · have e0 : R.drop d = [] := List.drop_of_length_le (by omega)
          rw [e0] at m3
          have hnil := m3.none m1
          subst hnil
          have e1 : R.take d = R := List.take_of_length_le (by omega)
          rw [e1] at g7
          have hf := g7.frz
          have z0 : ¬ ((0 : Int) < ((0 : Nat) : Int)) := by decide
          simp only [List.length_nil] at hml
          simp +contextual -implicitDefEqProofs (maxSteps := 2000000) only [↓wP, wQ, wQ1, wQ2, wQ3, wR, boxE, partsOf, ↓reduceIte, Nat.reduceEqDiff, Nat.reduceAdd, Nat.reduceSub, Nat.reduceLeDiff, Nat.reduceLT, Nat.reduceMul, reduceCtorEq, Int.reduceBNe, Int.reduceBEq, Int.reduceLT, Int.reduceLE, Int.reduceGT, g3, g6, m2, hml, z0]
          rw [hf, slV_oL]
      · simp +contextual -implicitDefEqProofs (maxSteps := 2000000) only [↓wP, wQ, wQ1, wQ2, wQ3, wR, boxE, partsOf, ↓reduceIte, Nat.reduceEqDiff, Nat.reduceAdd, Nat.reduceSub, Nat.reduceLeDiff, Nat.reduceLT, Nat.reduceMul, reduceCtorEq, Int.reduceBNe, Int.reduceBEq, Int.reduceLT, Int.reduceLE, Int.reduceGT, g3]
        exact ⟨g5, ⟨Lm, clk, m1, m2, m3⟩, by simp [oL, Bls]⟩
end Go.Q.S18
end

section
/- The document's State: the rows at a time. -/
set_option linter.unusedSimpArgs false
set_option linter.unusedVariables false
namespace Go.Q.S18
open Go.Q
theorem callE_sh {f : Nat} {args ts : List V} {r : V} {σ : Sto} (hm : T.mode f ≠ .raw) (hts : args.mapM (frz σ 12) = some ts) (hr : res T f ts = some r) (ht : ∀ σ n, thaw σ n r = (r, σ, n)) (n : Nat) :
    ∃ σ', callE T true f args σ n 0 = some (r, σ', n) := by
  rw [callE_eq hm, hts, callR_some, hr, retE_some]
  unfold backE
  split
  · exact ⟨σ, by rw [ht]⟩
  · refine ⟨dropL σ (args.flatMap (rch σ 12)), ?_⟩
    rw [if_pos (by simp), ht]
theorem f68 (l : Option (List Wr)) (c : Int) (o : Option (List Rw)) (h : FitW (lst l)) (ho : FitR (lst o)) (fs : Bool) (σ : Sto) (n lk : Nat) :
    callE T fs 68 [slV 4 wrV l, .int .i64 c, slV 2 rwV o] σ n lk = some (slV 2 rwV (oL ((ovR (lst o) ((lst l).filter fun w => w.c == c)).map cpR)), σ, n) :=
  callE_tr (by decide) (r68 l c o h ho) (by simp [Tr, Tr_slV]) (Nw_slV _ _ _ _) fs σ n lk
def stStep (c t : Int) (w : List Wr) (f : Fa) : List Wr := if f.ts ≤ t ∧ f.w.c = c then w.filter (fun x => x.id != f.w.id) ++ [f.w] else w
def stW (l : List Fa) (c t : Int) : List Wr := l.foldl (stStep c t) []
theorem stW_snoc (l : List Fa) (f : Fa) (c t : Int) : stW (l ++ [f]) c t = stStep c t (stW l c t) f := by unfold stW; rw [List.foldl_append]; rfl
theorem stW_len (l : List Fa) (c t : Int) : ∀ j, (stW (l.take j) c t).length ≤ j := by
  intro j
  induction j with
  | zero => simp [stW]
  | succ j ih =>
    by_cases hj : j < l.length
    · rw [← List.take_append_getElem hj, stW_snoc]
      unfold stStep
      split
      · have := List.length_filter_le (fun x : Wr => x.id != (l[j]).w.id) (stW (l.take j) c t)
        simp only [List.length_append, List.length_singleton]; omega
      · omega
    · rw [List.take_of_length_le (by omega)]; rw [List.take_of_length_le (by omega)] at ih; omega
theorem stW_mem (l : List Fa) (c t : Int) : ∀ w ∈ stW l c t, w.c = c ∧ ∃ f ∈ l, f.w = w := by
  have key : ∀ (l : List Fa) (W : List Wr) (P : Wr → Prop), (∀ w ∈ W, P w) → (∀ f ∈ l, f.w.c = c → P f.w) → ∀ w ∈ l.foldl (stStep c t) W, P w := by
    intro l
    induction l with
    | nil => intro W P h1 _; exact h1
    | cons f l ih =>
      intro W P h1 h2
      refine ih _ P (fun w hw => ?_) (fun g hg => h2 g (List.mem_cons_of_mem _ hg))
      unfold stStep at hw
      split at hw
      · rename_i hc
        rcases List.mem_append.1 hw with hw | hw
        · exact h1 w (List.mem_filter.1 hw).1
        · rw [List.mem_singleton] at hw; subst hw; exact h2 f List.mem_cons_self hc.2
      · exact h1 w hw
  exact key l [] (fun w => w.c = c ∧ ∃ f ∈ l, f.w = w) (fun w hw => by simp at hw) (fun f hf hc => ⟨hc, f, hf, rfl⟩)
def stR (l : List Fa) (c t : Int) : List Rw := (ovR [] (stW l c t)).map cpR
def anyI (R : List Rw) (id : Int) : Bool := R.any fun r => r.id == id
def wB (W : List Wr) (id : Int) (b : Bool) : Bool := W.foldl (fun b w => if w.id = id then !w.g else b) b
theorem anyI_del (R : List Rw) (a id : Int) : anyI (delR R a) id = if id = a then false else anyI R id := by
  unfold anyI delR
  rw [Bool.eq_iff_iff]
  split
  · rename_i e
    simp only [List.any_eq_true, List.mem_filter, decide_eq_true_eq, beq_iff_eq, Bool.false_eq_true, iff_false, not_exists]
    rintro x ⟨⟨_, h1⟩, h2⟩
    exact h1 (by rw [h2, e])
  · rename_i e
    simp only [List.any_eq_true, List.mem_filter, decide_eq_true_eq, beq_iff_eq]
    constructor
    · rintro ⟨x, ⟨h1, -⟩, h2⟩; exact ⟨x, h1, h2⟩
    · rintro ⟨x, h1, h2⟩; exact ⟨x, ⟨h1, by rw [h2]; exact e⟩, h2⟩
theorem anyI_put (R : List Rw) (r : Rw) (id : Int) : anyI (putR R r) id = if id = r.id then true else anyI R id := by
  unfold anyI
  rw [Bool.eq_iff_iff]
  split
  · rename_i e
    simp only [List.any_eq_true, beq_iff_eq, iff_true]
    exact ⟨r, mem_putR.2 (.inl rfl), e.symm⟩
  · rename_i e
    simp only [List.any_eq_true, beq_iff_eq]
    constructor
    · rintro ⟨x, h1, h2⟩
      rcases mem_putR.1 h1 with rfl | ⟨h1, -⟩
      · exact absurd h2.symm e
      · exact ⟨x, h1, h2⟩
    · rintro ⟨x, h1, h2⟩; exact ⟨x, mem_putR.2 (.inr ⟨h1, by rw [h2]; exact e⟩), h2⟩
theorem anyI_fold : ∀ (W : List Wr) (R : List Rw) (id : Int), anyI (W.foldl ovStep R) id = wB W id (anyI R id)
  | [], R, id => rfl
  | w :: W, R, id => by
    rw [List.foldl_cons, anyI_fold W (ovStep R w) id]
    show _ = wB W id _
    congr 1
    unfold ovStep
    cases hg : w.g
    · simp only [Bool.false_eq_true, if_false]
      rw [anyI_put]
      by_cases e : id = w.id
      · rw [if_pos e, if_pos e.symm, hg]; rfl
      · rw [if_neg e, if_neg (fun h => e h.symm)]
    · simp only [if_true]
      rw [anyI_del]
      by_cases e : id = w.id
      · rw [if_pos e, if_pos e.symm, hg]; rfl
      · rw [if_neg e, if_neg (fun h => e h.symm)]
theorem wB_app (W : List Wr) (w : Wr) (id : Int) (b : Bool) : wB (W ++ [w]) id b = if w.id = id then !w.g else wB W id b := by
  unfold wB; rw [List.foldl_append]; rfl
theorem wB_filter (W : List Wr) (a id : Int) (b : Bool) (h : id ≠ a) : wB (W.filter fun x => x.id != a) id b = wB W id b := by
  induction W generalizing b with
  | nil => rfl
  | cons w W ih =>
    rw [List.filter_cons]
    by_cases e : w.id = a
    · have e1 : (w.id != a) = false := by simp [e]
      rw [e1]
      simp only [Bool.false_eq_true, if_false]
      rw [ih]
      show wB W id b = wB W id (if w.id = id then !w.g else b)
      rw [if_neg (fun h' => h (by rw [← h', e]))]
    · have e1 : (w.id != a) = true := by simp [e]
      rw [e1]
      simp only [if_true]
      show wB (W.filter _) id _ = wB W id _
      rw [ih]
theorem stW_there (l : List Fa) (c t id : Int) : wB (stW l c t) id false = isB (l.filter fun f => decide (f.ts ≤ t)) (c, id) := by
  have key : ∀ n, n ≤ l.length → wB (stW (l.take n) c t) id false = isB ((l.take n).filter fun f => decide (f.ts ≤ t)) (c, id) := by
    intro n
    induction n with
    | zero => intro _; rfl
    | succ n ih =>
      intro hn
      have hn' : n < l.length := by omega
      rw [← List.take_append_getElem hn', stW_snoc, List.filter_append]
      generalize l[n] = f
      have ih' := ih (by omega)
      unfold stStep
      by_cases h1 : f.ts ≤ t
      · have e1 : [f].filter (fun f => decide (f.ts ≤ t)) = [f] := by simp [h1]
        rw [e1, isB_snoc]
        by_cases h2 : f.w.c = c
        · rw [if_pos ⟨h1, h2⟩, wB_app]
          by_cases h3 : f.w.id = id
          · rw [if_pos h3, if_pos (by unfold key; rw [h2, h3])]
          · rw [if_neg h3, if_neg (by unfold key; simp [h3]), wB_filter _ _ _ _ (fun h => h3 h.symm), ih']
        · rw [if_neg (by rintro ⟨-, h⟩; exact h2 h), if_neg (by unfold key; simp [h2]), ih']
      · have e1 : [f].filter (fun f => decide (f.ts ≤ t)) = [] := by simp [h1]
        rw [e1, List.append_nil, if_neg (by rintro ⟨h, -⟩; exact h1 h), ih']
  have := key l.length (Nat.le_refl _)
  rw [List.take_length] at this
  exact this
theorem stR_any (l : List Fa) (c t id : Int) : anyI (stR l c t) id = isB (l.filter fun f => decide (f.ts ≤ t)) (c, id) := by
  have e : anyI (stR l c t) id = anyI (ovR [] (stW l c t)) id := by
    unfold anyI stR
    rw [List.any_map]
    rfl
  rw [e]
  unfold ovR
  rw [anyI_fold]
  exact stW_there l c t id
theorem pl_ref {σ : Sto} {m n : Nat} {v : V} {W : List Wr} (h : Pl σ m n 4 v (oL (W.map wrV))) (hW : W ≠ []) : ∃ i, v = .ref i 0 W.length 4 ∧ σ i = some (.row 4 (W.map wrV)) ∧ m ≤ i ∧ i < n := by
  cases W with
  | nil => exact absurd rfl hW
  | cons a b =>
    simp only [List.map_cons, oL, Pl] at h
    obtain ⟨i, rfl, h1, h2, h3⟩ := h
    exact ⟨i, by simp, h1, h2, h3⟩
theorem pl_len {σ : Sto} {m n : Nat} {v : V} {W : List Wr} (h : Pl σ m n 4 v (oL (W.map wrV))) : lenE v = some (.int .i64 (W.length : Int)) := by
  by_cases hW : W = []
  · subst hW; simp only [List.map_nil, oL, Pl] at h; subst h; rfl
  · obtain ⟨i, rfl, -⟩ := pl_ref h hW
    rw [lenE_ref]
theorem r32 (l : Option (List Fa)) (c t : Int) (h : FitF (lst l)) : res T 32 [slV 5 faV l, .int .i64 c, .int .u64 t] = some (slV 2 rwV (oL (stR (lst l) c t))) := by
  refine run_res (run_pure (fn := g32) rfl rfl (by decide) ?_)
  simp only [g32, b32, oO, oN, mV, lD, gO, pP, qQ, cI, aR]
  have hl := h.1
  simp +contextual -implicitDefEqProofs (maxSteps := 2000000) only [↓wP, wQ, wQ1, wQ2, wQ3, wR, boxE, partsOf, ↓reduceIte, Nat.reduceEqDiff, Nat.reduceAdd, Nat.reduceSub, Nat.reduceLeDiff, Nat.reduceLT, Nat.reduceMul, reduceCtorEq, Int.reduceBNe, Int.reduceBEq, Int.reduceLT, Int.reduceLE, Int.reduceGT]
  refine WC_for (lst l).length 0 (fun (j : Nat) env σ n => env 1 = .int .i64 c ∧ env 2 = .int .u64 t ∧ env 13 = slV 5 faV l ∧ ∃ v, env 7 = v ∧ Pl σ 0 n 4 v (oL ((stW ((lst l).take j) c t).map wrV))) (by omega) (by decide) (by decide) (fun _ _ => rfl) (fun _ _ _ => rfl) ?_ ?_ _ _ _ rfl rfl ?_
  · intro j env σ n hj e1 e2 ⟨g1, g2, g3, v, g4, g5⟩
    simp only [vl_tmp] at e2
    have hx : (lst l)[j]? = some (lst l)[j] := List.getElem?_eq_getElem hj
    have hst := stW_snoc ((lst l).take j) (lst l)[j] c t
    rw [List.take_append_getElem hj] at hst
    have hWl := stW_len (lst l) c t j
    generalize (lst l)[j] = f at *
    generalize stW ((lst l).take j) c t = W at *
    obtain ⟨σ1, hσ1⟩ : ∃ σ1, σ1 = upd (upd σ n (some (.row 5 [.agg [.int .u64 0, .int .i64 0, .int .u64 0, .bool false, .nilS]]))) n (some (.row 5 [.agg [.int .u64 f.ts, .int .i64 f.w.c, .int .u64 f.w.id, .bool f.w.g, slV 1 i32V f.w.v]])) := ⟨_, rfl⟩
    have so : ∀ i, i < n → σ1 i = σ i := fun i hi => by rw [hσ1, upd_ne (by omega), upd_ne (by omega)]
    have sn : σ1 n = some (.row 5 [.agg [.int .u64 f.ts, .int .i64 f.w.c, .int .u64 f.w.id, .bool f.w.g, slV 1 i32V f.w.v]]) := by rw [hσ1, upd_self]
    have g5' := g5.loc (σ' := σ1) (fun i a b => so i b) (Nat.le_refl _)
    by_cases h1 : t < f.ts
    · have e : stStep c t W f = W := by unfold stStep; rw [if_neg (by rintro ⟨h, -⟩; omega)]
      rw [e] at hst
      simp +contextual -implicitDefEqProofs (maxSteps := 2000000) only [↓wP, wQ, wQ1, wQ2, wQ3, wR, boxE, partsOf, ↓reduceIte, Nat.reduceEqDiff, Nat.reduceAdd, Nat.reduceSub, Nat.reduceLeDiff, Nat.reduceLT, Nat.reduceMul, reduceCtorEq, Int.reduceBNe, Int.reduceBEq, Int.reduceLT, Int.reduceLE, Int.reduceGT, e1, e2, g1, g2, g3, g4, hx, faV_eq, ← hσ1, sn, h1]
      rw [hst]
      exact ⟨_, rfl, g5'.loc (fun _ _ _ => rfl) (by omega)⟩
    · by_cases h2 : f.w.c = c
      · have h2' : (f.w.c != c) = false := by simp [h2]
        have e : stStep c t W f = W.filter (fun x => x.id != f.w.id) ++ [f.w] := by unfold stStep; rw [if_pos ⟨by omega, h2⟩]
        rw [e] at hst
        have hle := pl_len g5
        simp +contextual -implicitDefEqProofs (maxSteps := 2000000) only [↓wP, wQ, wQ1, wQ2, wQ3, wR, boxE, partsOf, ↓reduceIte, Nat.reduceEqDiff, Nat.reduceAdd, Nat.reduceSub, Nat.reduceLeDiff, Nat.reduceLT, Nat.reduceMul, reduceCtorEq, Int.reduceBNe, Int.reduceBEq, Int.reduceLT, Int.reduceLE, Int.reduceGT, e1, e2, g1, g2, g3, g4, hx, faV_eq, ← hσ1, sn, h1, h2', hle]
        refine WC_cutB (fun env σ' n' => env 1 = .int .i64 c ∧ env 2 = .int .u64 t ∧ env 13 = slV 5 faV l ∧ env 14 = .int .i64 ((lst l).length : Int) ∧ env 15 = .int .i64 (j : Int) ∧ env 9 = .ptr n 5 0 0 ∧ n + 1 ≤ n' ∧ σ' n = σ1 n ∧
          ∃ u, env 10 = u ∧ Pl σ' (n + 1) n' 4 u (oL ((W.filter fun x => x.id != f.w.id).map wrV))) ?_ ?_
        · refine WC_for W.length 0 (fun (k : Nat) env σ' n' => env 1 = .int .i64 c ∧ env 2 = .int .u64 t ∧ env 13 = slV 5 faV l ∧ env 14 = .int .i64 ((lst l).length : Int) ∧ env 15 = .int .i64 (j : Int) ∧ env 9 = .ptr n 5 0 0 ∧ env 30 = v ∧ n + 1 ≤ n' ∧ (∀ i, i < n + 1 → σ' i = σ1 i) ∧
            ∃ u, env 10 = u ∧ Pl σ' (n + 1) n' 4 u (oL (((W.take k).filter fun x => x.id != f.w.id).map wrV))) (by omega) (by decide) (by decide) (fun _ _ => rfl) (fun _ _ _ => rfl) ?_ ?_ _ _ _ rfl rfl ?_
          · clear e1 e2 g1 g2 g3 g4
            intro k env σ' n' hk e1 e2 ⟨g1, g2, g3, g4, g6, g7, g8, g9, g10, u, g11, g12⟩
            simp only [vl_tmp] at e2
            have hWne : W ≠ [] := by intro h'; rw [h'] at hk; simp at hk
            obtain ⟨i0, hv0, r1, -, r2⟩ := pl_ref g5 hWne
            have r1' : σ' i0 = some (.row 4 (W.map wrV)) := by rw [g10 i0 (by omega), so i0 r2]; exact r1
            have sn' : σ' n = some (.row 5 [.agg [.int .u64 f.ts, .int .i64 f.w.c, .int .u64 f.w.id, .bool f.w.g, slV 1 i32V f.w.v]]) := by rw [g10 n (by omega)]; exact sn
            subst hv0
            have htk : W.take (k + 1) = W.take k ++ [W[k]] := (List.take_append_getElem hk).symm
            obtain ⟨w, hw⟩ : ∃ w, w = W[k] := ⟨_, rfl⟩
            have hxk : (W.map wrV)[k]? = some (wrV w) := by rw [List.getElem?_map, List.getElem?_eq_getElem hk, hw]; rfl
            rw [← hw] at htk
            obtain ⟨σ2, hσ2⟩ : ∃ σ2, σ2 = upd (upd σ' n' (some (.row 4 [.agg [.int .i64 0, .int .u64 0, .bool false, .nilS]]))) n' (some (.row 4 [.agg [.int .i64 w.c, .int .u64 w.id, .bool w.g, slV 1 i32V w.v]])) := ⟨_, rfl⟩
            have so2 : ∀ i, i < n' → σ2 i = σ' i := fun i hi => by rw [hσ2, upd_ne (by omega), upd_ne (by omega)]
            have sn2 : σ2 n' = some (.row 4 [.agg [.int .i64 w.c, .int .u64 w.id, .bool w.g, slV 1 i32V w.v]]) := by rw [hσ2, upd_self]
            have sn3 : σ2 n = some (.row 5 [.agg [.int .u64 f.ts, .int .i64 f.w.c, .int .u64 f.w.id, .bool f.w.g, slV 1 i32V f.w.v]]) := by rw [so2 n (by omega)]; exact sn'
            have q0 : (n = n') = False := by simp; omega
            have hsp := spl g12
            have hc' := g12.cells
            by_cases hid : w.id = f.w.id
            · have hid' : (w.id != f.w.id) = false := by simp [hid]
              have hf : (W.take (k + 1)).filter (fun x => x.id != f.w.id) = (W.take k).filter (fun x => x.id != f.w.id) := by rw [htk, List.filter_append]; simp [hid]
              simp +contextual -implicitDefEqProofs (maxSteps := 2000000) only [↓wP, wQ, wQ1, wQ2, wQ3, wR, boxE, partsOf, ↓reduceIte, Nat.reduceEqDiff, Nat.reduceAdd, Nat.reduceSub, Nat.reduceLeDiff, Nat.reduceLT, Nat.reduceMul, reduceCtorEq, Int.reduceBNe, Int.reduceBEq, Int.reduceLT, Int.reduceLE, Int.reduceGT, e1, e2, g1, g2, g3, g4, g6, g7, g8, g11, r1', sn', hxk, hk, wrV_eq, ← hσ2, sn2, sn3, hid', q0]
              rw [hf]
              exact ⟨by omega, fun i hi => by rw [so2 i (by omega)]; exact g10 i hi, _, rfl, g12.loc (fun i a b => so2 i b) (by omega)⟩
            · have hid' : (w.id != f.w.id) = true := by simp [hid]
              have hf : (W.take (k + 1)).filter (fun x => x.id != f.w.id) = (W.take k).filter (fun x => x.id != f.w.id) ++ [w] := by rw [htk, List.filter_append]; simp [hid]
              have hlen : (((W.take k).filter fun x => x.id != f.w.id).map wrV).length ≤ k := by
                rw [List.length_map]
                have := List.length_filter_le (fun x : Wr => x.id != f.w.id) (W.take k)
                rw [List.length_take] at this; omega
              simp +contextual -implicitDefEqProofs (maxSteps := 2000000) only [↓wP, wQ, wQ1, wQ2, wQ3, wR, boxE, partsOf, ↓reduceIte, Nat.reduceEqDiff, Nat.reduceAdd, Nat.reduceSub, Nat.reduceLeDiff, Nat.reduceLT, Nat.reduceMul, reduceCtorEq, Int.reduceBNe, Int.reduceBEq, Int.reduceLT, Int.reduceLE, Int.reduceGT, e1, e2, g1, g2, g3, g4, g6, g7, g8, g11, r1', sn', hxk, hk, wrV_eq, ← hσ2, sn2, sn3, hid', q0]
              refine stepW_app1 (m := n + 1) (n0 := n') (σ0 := σ') g12 (fun i a1 a2 => ?_) (by omega) (by omega) (Nat.zero_le _) ?_ (fun _ σ3 a1 a2 => ?_)
              · rw [upd_ne (by omega), so2 i a2]
              · rw [lst_oL]; unfold LIM; omega
              · rw [lst_oL] at a1 ⊢
                have hv5 : ∀ i, i < n + 1 → ∀ off len s, u ≠ .ref i off len s := by
                  intro i hi off len s e
                  subst e
                  cases ho' : oL (((W.take k).filter fun x => x.id != f.w.id).map wrV) with
                  | none => rw [ho'] at g12; simp only [Pl] at g12; cases g12
                  | some xs => rw [ho'] at g12; obtain ⟨j, e, -, e2, -⟩ := g12; simp only [V.ref.injEq] at e; omega
                simp +contextual -implicitDefEqProofs (maxSteps := 2000000) only [↓wP, wQ, wQ1, wQ2, wQ3, wR, boxE, partsOf, ↓reduceIte, Nat.reduceEqDiff, Nat.reduceAdd, Nat.reduceSub, Nat.reduceLeDiff, Nat.reduceLT, Nat.reduceMul, reduceCtorEq, Int.reduceBNe, Int.reduceBEq, Int.reduceLT, Int.reduceLE, Int.reduceGT, e1, e2, g1, g2, g3, g4, g6, g7, g8, hc', hsp]
                refine ⟨by omega, fun i hi => by rw [a2 i (by omega) (hv5 i hi), upd_ne (by omega), so2 i (by omega)]; exact g10 i hi, _, rfl, ?_⟩
                rw [hf, List.map_append]
                have e3 : oL (((W.take k).filter fun x => x.id != f.w.id).map wrV ++ [w].map wrV) = some (((W.take k).filter fun x => x.id != f.w.id).map wrV ++ [.agg [.int .i64 w.c, .int .u64 w.id, .bool w.g, slV 1 i32V w.v]]) := by
                  cases (W.take k).filter fun x => x.id != f.w.id <;> rfl
                rw [e3]
                exact a1
          · clear e1 e2 g1 g2 g3 g4
            intro env σ' n' ⟨g1, g2, g3, g4, g6, g7, g8, g9, g10, u, g11, g12⟩ e1 e2
            rw [List.take_length] at g12
            exact ⟨rfl, rfl, g1, g2, g3, g4, g6, g7, g9, g10 n (by omega), u, g11, g12⟩
          · simp +contextual -implicitDefEqProofs (maxSteps := 2000000) only [↓wP, wQ, wQ1, wQ2, wQ3, wR, boxE, partsOf, ↓reduceIte, Nat.reduceEqDiff, Nat.reduceAdd, Nat.reduceSub, Nat.reduceLeDiff, Nat.reduceLT, Nat.reduceMul, reduceCtorEq, Int.reduceBNe, Int.reduceBEq, Int.reduceLT, Int.reduceLE, Int.reduceGT, e1, e2, g1, g2, g3]
            simp [oL, Pl]
        · clear e1 e2 g1 g2 g3 g4
          intro env σ' n' ⟨g1, g2, g3, g4, g6, g7, g8, g9, u, g11, g12⟩
          rw [sn] at g9
          have hsp := spl g12
          have hc' := g12.cells
          have hlen : ((W.filter fun x => x.id != f.w.id).map wrV).length ≤ W.length := by
            rw [List.length_map]; exact List.length_filter_le _ _
          simp +contextual -implicitDefEqProofs (maxSteps := 2000000) only [↓wP, wQ, wQ1, wQ2, wQ3, wR, boxE, partsOf, ↓reduceIte, Nat.reduceEqDiff, Nat.reduceAdd, Nat.reduceSub, Nat.reduceLeDiff, Nat.reduceLT, Nat.reduceMul, reduceCtorEq, Int.reduceBNe, Int.reduceBEq, Int.reduceLT, Int.reduceLE, Int.reduceGT, g1, g2, g3, g4, g6, g7, g9, g11]
          refine stepW_app1 (m := n + 1) (n0 := n') (σ0 := σ') g12 (fun i a1 a2 => ?_) (by omega) (by omega) (Nat.zero_le _) ?_ (fun _ σ3 a1 a2 => ?_)
          · rw [upd_ne (by omega)]
          · rw [lst_oL]; unfold LIM; omega
          · rw [lst_oL] at a1 ⊢
            simp +contextual -implicitDefEqProofs (maxSteps := 2000000) only [↓wP, wQ, wQ1, wQ2, wQ3, wR, boxE, partsOf, ↓reduceIte, Nat.reduceEqDiff, Nat.reduceAdd, Nat.reduceSub, Nat.reduceLeDiff, Nat.reduceLT, Nat.reduceMul, reduceCtorEq, Int.reduceBNe, Int.reduceBEq, Int.reduceLT, Int.reduceLE, Int.reduceGT, g1, g2, g3, g4, g6, hc', hsp]
            refine ⟨_, rfl, ?_⟩
            rw [hst, List.map_append]
            have e3 : oL ((W.filter fun x => x.id != f.w.id).map wrV ++ [f.w].map wrV) = some ((W.filter fun x => x.id != f.w.id).map wrV ++ [.agg [.int .i64 f.w.c, .int .u64 f.w.id, .bool f.w.g, slV 1 i32V f.w.v]]) := by
              cases W.filter fun x => x.id != f.w.id <;> rfl
            rw [e3]
            obtain ⟨i, b1, b2, -, b4⟩ := a1
            exact ⟨i, b1, b2, Nat.zero_le _, b4⟩
      · have h2' : (f.w.c != c) = true := by simp [h2]
        have e : stStep c t W f = W := by unfold stStep; rw [if_neg (by rintro ⟨-, h⟩; exact h2 h)]
        rw [e] at hst
        simp +contextual -implicitDefEqProofs (maxSteps := 2000000) only [↓wP, wQ, wQ1, wQ2, wQ3, wR, boxE, partsOf, ↓reduceIte, Nat.reduceEqDiff, Nat.reduceAdd, Nat.reduceSub, Nat.reduceLeDiff, Nat.reduceLT, Nat.reduceMul, reduceCtorEq, Int.reduceBNe, Int.reduceBEq, Int.reduceLT, Int.reduceLE, Int.reduceGT, e1, e2, g1, g2, g3, g4, hx, faV_eq, ← hσ1, sn, h1, h2']
        rw [hst]
        exact ⟨_, rfl, g5'.loc (fun _ _ _ => rfl) (by omega)⟩
  · intro env σ n ⟨g1, g2, g3, v, g4, g5⟩ e1 e2
    rw [List.take_length] at g5
    have hmem := stW_mem (lst l) c t
    have hWl := stW_len (lst l) c t (lst l).length
    rw [List.take_length] at hWl
    obtain ⟨W, hW⟩ : ∃ W, W = stW (lst l) c t := ⟨_, rfl⟩
    have hr : stR (lst l) c t = (ovR [] W).map cpR := by rw [hW]; rfl
    rw [← hW] at g5 hmem hWl
    have hf := g5.frz (by rw [lst_oL]; exact wr_fz.1) (by rw [lst_oL]; exact wr_fz.2)
    rw [slV_oL] at hf
    have r := r68 (oL W) c none (by rw [lst_oL]; exact ⟨by omega, fun w hw => by obtain ⟨-, f, hf, rfl⟩ := hmem w hw; exact h.2 f hf⟩) ⟨by simp [lst], fun r hr => by simp [lst] at hr⟩
    rw [lst_oL] at r
    have hfl : W.filter (fun w => w.c == c) = W := by
      rw [List.filter_eq_self]
      intro w hw
      simp [(hmem w hw).1]
    rw [hfl] at r
    have e : [v, V.int .i64 c, V.nilS].mapM (frz σ 12) = some [slV 4 wrV (oL W), .int .i64 c, slV 2 rwV none] := by simp only [List.mapM_cons, List.mapM_nil, hf]; rfl
    obtain ⟨σ', f68'⟩ := callE_sh (by decide) e r (fun σ n => by rw [thaw_slV]) n
    simp +contextual -implicitDefEqProofs (maxSteps := 2000000) only [↓wP, wQ, wQ1, wQ2, wQ3, wR, boxE, partsOf, ↓reduceIte, Nat.reduceEqDiff, Nat.reduceAdd, Nat.reduceSub, Nat.reduceLeDiff, Nat.reduceLT, Nat.reduceMul, reduceCtorEq, Int.reduceBNe, Int.reduceBEq, Int.reduceLT, Int.reduceLE, Int.reduceGT, g1, g4, f68']
    rw [hr]; rfl
  · simp +contextual -implicitDefEqProofs (maxSteps := 2000000) only [↓wP, wQ, wQ1, wQ2, wQ3, wR, boxE, partsOf, ↓reduceIte, Nat.reduceEqDiff, Nat.reduceAdd, Nat.reduceSub, Nat.reduceLeDiff, Nat.reduceLT, Nat.reduceMul, reduceCtorEq, Int.reduceBNe, Int.reduceBEq, Int.reduceLT, Int.reduceLE, Int.reduceGT]
    simp [stW, oL, Pl]
theorem f32 (l : Option (List Fa)) (c t : Int) (h : FitF (lst l)) (fs : Bool) (σ : Sto) (n lk : Nat) : callE T fs 32 [slV 5 faV l, .int .i64 c, .int .u64 t] σ n lk = some (slV 2 rwV (oL (stR (lst l) c t)), σ, n) :=
  callE_tr (by decide) (r32 l c t h) (by simp [Tr, Tr_slV]) (Nw_slV _ _ _ _) fs σ n lk
theorem stR_len (l : List Fa) (c t : Int) : (stR l c t).length ≤ l.length := by
  unfold stR
  rw [List.length_map]
  have h1 := ovR_len [] (stW l c t)
  have h2 := stW_len l c t l.length
  rw [List.take_length] at h2
  simp only [List.length_nil] at h1; omega
def thB (l : List Fa) (c id t : Int) : Bool := isB (l.filter fun f => decide (f.ts ≤ t)) (c, id)
theorem r51 (l : Option (List Fa)) (c id t : Int) (h : FitF (lst l)) : res T 51 [slV 5 faV l, .int .i64 c, .int .u64 id, .int .u64 t] = some (.bool (thB (lst l) c id t)) := by
  refine run_res (run_pure (fn := g51) rfl rfl (by decide) ?_)
  simp only [g51, b51, oO, oN, mV, lD, gO, pP, qQ, cI, aR]
  have f := f32 l c t h
  have hl := stR_len (lst l) c t
  have hl2 := h.1
  have ha := stR_any (lst l) c t id
  obtain ⟨R, hR⟩ : ∃ R, R = stR (lst l) c t := ⟨_, rfl⟩
  have hb : thB (lst l) c id t = anyI R id := by rw [hR, ha]; rfl
  rw [← hR] at f hl
  rw [hb]
  unfold anyI
  simp +contextual -implicitDefEqProofs (maxSteps := 2000000) only [↓wP, wQ, wQ1, wQ2, wQ3, wR, boxE, partsOf, ↓reduceIte, Nat.reduceEqDiff, Nat.reduceAdd, Nat.reduceSub, Nat.reduceLeDiff, Nat.reduceLT, Nat.reduceMul, reduceCtorEq, Int.reduceBNe, Int.reduceBEq, Int.reduceLT, Int.reduceLE, Int.reduceGT, f]
  refine WC_for (lst (oL R)).length 0 (fun (j : Nat) env σ n => env 2 = .int .u64 id ∧ env 14 = slV 2 rwV (oL R) ∧ (R.any fun r => r.id == id) = ((R.drop j).any fun r => r.id == id)) (by rw [lst_oL]; omega) (by decide) (by decide) (fun _ _ => rfl) (fun _ _ _ => rfl) ?_ ?_ _ _ _ rfl rfl ?_
  · intro j env σ n hj h1 h2 ⟨g1, g2, g3⟩
    rw [lst_oL] at hj
    simp only [vl_tmp] at h2
    have hx : (lst (oL R))[j]? = some R[j] := by rw [lst_oL]; exact List.getElem?_eq_getElem hj
    rw [List.drop_eq_getElem_cons hj, List.any_cons] at g3
    generalize R[j] = x at *
    cases hk : (x.id == id)
    · rw [hk, Bool.false_or] at g3
      simp +contextual -implicitDefEqProofs (maxSteps := 2000000) only [↓wP, wQ, wQ1, wQ2, wQ3, wR, boxE, partsOf, ↓reduceIte, Nat.reduceEqDiff, Nat.reduceAdd, Nat.reduceSub, Nat.reduceLeDiff, Nat.reduceLT, Nat.reduceMul, reduceCtorEq, Int.reduceBNe, Int.reduceBEq, Int.reduceLT, Int.reduceLE, Int.reduceGT, h1, h2, g1, g2, hx, rwV_eq, hk]
      exact g3
    · rw [hk, Bool.true_or] at g3
      simp +contextual -implicitDefEqProofs (maxSteps := 2000000) only [↓wP, wQ, wQ1, wQ2, wQ3, wR, boxE, partsOf, ↓reduceIte, Nat.reduceEqDiff, Nat.reduceAdd, Nat.reduceSub, Nat.reduceLeDiff, Nat.reduceLT, Nat.reduceMul, reduceCtorEq, Int.reduceBNe, Int.reduceBEq, Int.reduceLT, Int.reduceLE, Int.reduceGT, h1, h2, g1, g2, hx, rwV_eq, hk]
      rw [g3]
  · intro env σ n ⟨g1, g2, g3⟩ h1 h2
    rw [lst_oL, List.drop_length] at g3
    simp +contextual -implicitDefEqProofs (maxSteps := 2000000) only [↓wP, wQ, wQ1, wQ2, wQ3, wR, boxE, partsOf, ↓reduceIte, Nat.reduceEqDiff, Nat.reduceAdd, Nat.reduceSub, Nat.reduceLeDiff, Nat.reduceLT, Nat.reduceMul, reduceCtorEq, Int.reduceBNe, Int.reduceBEq, Int.reduceLT, Int.reduceLE, Int.reduceGT]
    rw [g3]; rfl
  · simp +contextual -implicitDefEqProofs (maxSteps := 2000000) only [↓wP, wQ, wQ1, wQ2, wQ3, wR, boxE, partsOf, ↓reduceIte, Nat.reduceEqDiff, Nat.reduceAdd, Nat.reduceSub, Nat.reduceLeDiff, Nat.reduceLT, Nat.reduceMul, reduceCtorEq, Int.reduceBNe, Int.reduceBEq, Int.reduceLT, Int.reduceLE, Int.reduceGT]
theorem f51 (l : Option (List Fa)) (c id t : Int) (h : FitF (lst l)) (fs : Bool) (σ : Sto) (n lk : Nat) : callE T fs 51 [slV 5 faV l, .int .i64 c, .int .u64 id, .int .u64 t] σ n lk = some (.bool (thB (lst l) c id t), σ, n) :=
  callE_tr (by decide) (r51 l c id t h) (by simp [Tr, Tr_slV]) rfl fs σ n lk
end Go.Q.S18
end

section
/- Which facts may be: the program's check. -/
set_option linter.unusedSimpArgs false
set_option linter.unusedVariables false
namespace Go.Q.S18
open Go.Q
def bV (b : Bool) : V := .bool b
theorem keyK : KeyOk (.agg [.int, .int]) kyV := by
  intro a b
  obtain ⟨a1, a2⟩ := a
  obtain ⟨b1, b2⟩ := b
  simp only [kyV, eqKey, eqCells, eqCell, Option.bind_some, Prod.mk.injEq]
  by_cases h1 : a1 = b1 <;> by_cases h2 : a2 = b2 <;> simp [h1, h2]
theorem okU_no {l : List Fa} {n : Nat} (h : okU l n = false) : ∀ m, n ≤ m → okU l m = false
  | 0, hm => by have : n = 0 := by omega
                subst this; cases h
  | m + 1, hm => by
    by_cases e : n = m + 1
    · subst e; exact h
    · show (okU l m && _) = false
      rw [okU_no h m (by omega)]; rfl
theorem okU_eq {l : List Fa} {n : Nat} (hn : n < l.length) : okU l (n + 1) = (okU l n && oneF l n l[n]) := by
  show (okU l n && _) = _
  rw [List.getElem?_eq_getElem hn]
theorem r24 (l : Option (List Fa)) (h : SmF l) : res T 24 [slV 5 faV l] = some (.int .i64 (if rightF (lst l) then 0 else 280)) := by
  refine run_res (run_pure (fn := g24) rfl rfl (by decide) ?_)
  simp only [g24, b24, oO, oN, mV, lD, gO, pP, qQ, cI, aR]
  have hl := h.1
  obtain ⟨A, hA⟩ : ∃ A, A = decide ((lst l).length ≤ 2000) := ⟨_, rfl⟩
  have hA' : decide (((lst l).length : Int) ≤ 2000) = A := by rw [hA]; exact decide_eq_decide.2 (by omega)
  have f49' := f49 l h
  simp +contextual -implicitDefEqProofs (maxSteps := 2000000) only [↓wP, wQ, wQ1, wQ2, wQ3, wR, boxE, partsOf, ↓reduceIte, Nat.reduceEqDiff, Nat.reduceAdd, Nat.reduceSub, Nat.reduceLeDiff, Nat.reduceLT, Nat.reduceMul, reduceCtorEq, Int.reduceBNe, Int.reduceBEq, Int.reduceLT, Int.reduceLE, Int.reduceGT, hA']
  refine WC_for (lst l).length 0 (fun (j : Nat) env σ n => env 0 = slV 5 faV l ∧ env 12 = slV 5 faV l ∧ env 3 = .bool A ∧ env 4 = .mp 0 ∧ 1 ≤ n ∧ okU (lst l) j = true ∧ ∃ Lm clk, MOk Lm clk ∧ σ 0 = some (.map (ens kyV bV Lm) clk) ∧ ∀ k, (vw Lm k).getD false = isB ((lst l).take j) k) (by omega) (by decide) (by decide) (fun _ _ => rfl) (fun _ _ _ => rfl) ?_ ?_ _ _ _ rfl rfl ?_
  · intro j env σ n hj h1 h2 ⟨g1, g2, g3, g4, g5, g6, Lm, clk, m1, m2, m3⟩
    simp only [vl_tmp] at h2
    have hx : (lst l)[j]? = some (lst l)[j] := List.getElem?_eq_getElem hj
    have hst := okU_eq hj
    rw [g6, Bool.true_and] at hst
    have hds := isB_snoc ((lst l).take j) (lst l)[j]
    rw [List.take_append_getElem hj] at hds
    have hno : oneF (lst l) j (lst l)[j] = false → rightF (lst l) = false := fun hk => by
      unfold rightF
      rw [okU_no (by rw [hst, hk]) _ (by omega : j + 1 ≤ (lst l).length)]
      simp
    have hsm := h.2 _ (List.getElem_mem hj)
    generalize (lst l)[j] = x at *
    cases hAb : A
    · have hr : rightF (lst l) = false := by unfold rightF; rw [← hA, hAb]; rfl
      rw [hAb] at g3
      simp +contextual -implicitDefEqProofs (maxSteps := 2000000) only [↓wP, wQ, wQ1, wQ2, wQ3, wR, boxE, partsOf, ↓reduceIte, Nat.reduceEqDiff, Nat.reduceAdd, Nat.reduceSub, Nat.reduceLeDiff, Nat.reduceLT, Nat.reduceMul, reduceCtorEq, Int.reduceBNe, Int.reduceBEq, Int.reduceLT, Int.reduceLE, Int.reduceGT, h1, h2, g1, g2, g3, g4, hx, faV_eq]
      rw [hr]; rfl
    rw [hAb] at g3
    by_cases b1 : (1 : Int) ≤ x.ts
    rotate_left
    · have hk := hno (by unfold oneF one1; simp [b1])
      simp +contextual -implicitDefEqProofs (maxSteps := 2000000) only [↓wP, wQ, wQ1, wQ2, wQ3, wR, boxE, partsOf, ↓reduceIte, Nat.reduceEqDiff, Nat.reduceAdd, Nat.reduceSub, Nat.reduceLeDiff, Nat.reduceLT, Nat.reduceMul, reduceCtorEq, Int.reduceBNe, Int.reduceBEq, Int.reduceLT, Int.reduceLE, Int.reduceGT, h1, h2, g1, g2, g3, g4, hx, faV_eq, b1]
      rw [hk]; rfl
    by_cases b2 : x.ts ≤ 1099511627776
    rotate_left
    · have hk := hno (by unfold oneF one1; simp [b2])
      simp +contextual -implicitDefEqProofs (maxSteps := 2000000) only [↓wP, wQ, wQ1, wQ2, wQ3, wR, boxE, partsOf, ↓reduceIte, Nat.reduceEqDiff, Nat.reduceAdd, Nat.reduceSub, Nat.reduceLeDiff, Nat.reduceLT, Nat.reduceMul, reduceCtorEq, Int.reduceBNe, Int.reduceBEq, Int.reduceLT, Int.reduceLE, Int.reduceGT, h1, h2, g1, g2, g3, g4, hx, faV_eq, b1, b2]
      rw [hk]; rfl
    have r1 := r62 (some [x.w]) ⟨by show 1 < _; decide, fun w hw => by rw [lst_some, List.mem_singleton] at hw; subst hw; exact hsm⟩
    rw [lst_some, right1] at r1
    rw [show slV 4 wrV (some [x.w]) = V.sl 4 [wrV x.w] from rfl, wrV_eq] at r1
    have hm62 : T.mode 62 ≠ .raw := by decide
    by_cases b3 : okW x.w = true
    rotate_left
    · have b3' : okW x.w = false := by simpa using b3
      have hk := hno (by unfold oneF one1; simp [b3'])
      rw [b3'] at r1
      simp +contextual -implicitDefEqProofs (maxSteps := 2000000) only [↓wP, wQ, wQ1, wQ2, wQ3, wR, boxE, partsOf, ↓reduceIte, Nat.reduceEqDiff, Nat.reduceAdd, Nat.reduceSub, Nat.reduceLeDiff, Nat.reduceLT, Nat.reduceMul, reduceCtorEq, Int.reduceBNe, Int.reduceBEq, Int.reduceLT, Int.reduceLE, Int.reduceGT, h1, h2, g1, g2, g3, g4, hx, faV_eq, b1, b2, callE_eq hm62, frz_rf, rch_rf, r1]
      rw [hk]; rfl
    rw [b3] at r1
    obtain ⟨P, hP⟩ : ∃ P, P = one1 (lst l) j x := ⟨_, rfl⟩
    have hone : oneF (lst l) j x = (P && (!x.w.g || isB ((lst l).take j) (key x.w))) := by rw [hP]; rfl
    obtain ⟨σ1, hσ1⟩ : ∃ σ1, σ1 = upd (upd (upd σ n (some (.row 5 [.agg [.int .u64 0, .int .i64 0, .int .u64 0, .bool false, .nilS]]))) n (some (.row 5 [.agg [.int .u64 x.ts, .int .i64 x.w.c, .int .u64 x.w.id, .bool x.w.g, slV 1 i32V x.w.v]]))) (n + 1) (some (.row 4 [.agg [.int .i64 x.w.c, .int .u64 x.w.id, .bool x.w.g, slV 1 i32V x.w.v]])) := ⟨_, rfl⟩
    have so : ∀ i, i < n → σ1 i = σ i := fun i hi => by rw [hσ1, upd_ne (by omega), upd_ne (by omega), upd_ne (by omega)]
    have sn : σ1 n = some (.row 5 [.agg [.int .u64 x.ts, .int .i64 x.w.c, .int .u64 x.w.id, .bool x.w.g, slV 1 i32V x.w.v]]) := by rw [hσ1, upd_ne (by omega), upd_self]
    have sn1 : σ1 (n + 1) = some (.row 4 [.agg [.int .i64 x.w.c, .int .u64 x.w.id, .bool x.w.g, slV 1 i32V x.w.v]]) := by rw [hσ1, upd_self]
    by_cases hj0 : j = 0
    · have hz : ¬ ((0 : Int) < (j : Int)) := by omega
      have hPt : P = true := by rw [hP]; unfold one1; subst hj0; simp [b1, b2, b3]
      have snx := sn
      have q0 : (0 = n) = False := by simp; omega
      have s0 : σ1 0 = some (.map (ens kyV bV Lm) clk) := by rw [so 0 (by omega)]; exact m2
      have pu := mupd_ens (ke := kyV) (ve := bV) (lk := 0) keyK m1 s0 (Nat.zero_le _) (key x.w) (!x.w.g) (n + 2)
      have hmg : mgetE false (.agg [.int, .int]) (.bool false) (some (ens kyV bV Lm)) (kyV (key x.w)) = some (.bool (isB ((lst l).take j) (key x.w))) := by
        rw [mget_ens (ve := bV) keyK false (.bool false) (key x.w) Lm, ← m3 (key x.w)]
        cases vw Lm (key x.w) <;> rfl
      have fk := f47 x.w
      rw [wrV_eq] at fk
      have hnew : ∀ k, (vw (mput Lm clk (key x.w) (!x.w.g)).1 k).getD false = isB ((lst l).take (j + 1)) k := by
        intro k
        rw [vw_mput, hds]
        by_cases e : k = key x.w
        · rw [if_pos e, if_pos e.symm]; rfl
        · rw [if_neg e, if_neg (fun h => e h.symm)]; exact m3 k
      simp only [bV] at pu
      cases hg : x.w.g
      all_goals rw [hg] at r1 hσ1 pu fk sn sn1 snx hnew hone
      all_goals simp only [Bool.not_false, Bool.not_true] at pu hnew
      · simp +contextual -implicitDefEqProofs (maxSteps := 2000000) only [↓wP, wQ, wQ1, wQ2, wQ3, wR, boxE, partsOf, ↓reduceIte, Nat.reduceEqDiff, Nat.reduceAdd, Nat.reduceSub, Nat.reduceLeDiff, Nat.reduceLT, Nat.reduceMul, reduceCtorEq, Int.reduceBNe, Int.reduceBEq, Int.reduceLT, Int.reduceLE, Int.reduceGT, h1, h2, g1, g2, g3, g4, hx, faV_eq, b1, b2, callE_eq hm62, frz_rf, rch_rf, r1, hz, ← hσ1, sn, sn1, q0, s0, hg, pu, fk, hmg]
        exact ⟨by rw [hst, hone, hPt]; rfl, _, _, mput_ok m1 _ _, rfl, hnew⟩
      · cases hb : isB ((lst l).take j) (key x.w)
        all_goals rw [hb] at hmg hone
        · have hk := hno (by rw [hone, hPt]; rfl)
          simp +contextual -implicitDefEqProofs (maxSteps := 2000000) only [↓wP, wQ, wQ1, wQ2, wQ3, wR, boxE, partsOf, ↓reduceIte, Nat.reduceEqDiff, Nat.reduceAdd, Nat.reduceSub, Nat.reduceLeDiff, Nat.reduceLT, Nat.reduceMul, reduceCtorEq, Int.reduceBNe, Int.reduceBEq, Int.reduceLT, Int.reduceLE, Int.reduceGT, h1, h2, g1, g2, g3, g4, hx, faV_eq, b1, b2, callE_eq hm62, frz_rf, rch_rf, r1, hz, ← hσ1, sn, sn1, q0, s0, hg, fk, hmg]
          rw [hk]; rfl
        · simp +contextual -implicitDefEqProofs (maxSteps := 2000000) only [↓wP, wQ, wQ1, wQ2, wQ3, wR, boxE, partsOf, ↓reduceIte, Nat.reduceEqDiff, Nat.reduceAdd, Nat.reduceSub, Nat.reduceLeDiff, Nat.reduceLT, Nat.reduceMul, reduceCtorEq, Int.reduceBNe, Int.reduceBEq, Int.reduceLT, Int.reduceLE, Int.reduceGT, h1, h2, g1, g2, g3, g4, hx, faV_eq, b1, b2, callE_eq hm62, frz_rf, rch_rf, r1, hz, ← hσ1, sn, sn1, q0, s0, hg, pu, fk, hmg]
          exact ⟨by rw [hst, hone, hPt]; rfl, _, _, mput_ok m1 _ _, rfl, hnew⟩
    · have hz : (0 : Int) < (j : Int) := by omega
      have wj : IntKind.i64.wrap ((j : Int) - 1) = ((j - 1 : Nat) : Int) := by rw [wrap_i64] <;> omega
      have hx2 : (lst l)[j - 1]? = some (lst l)[j - 1] := List.getElem?_eq_getElem (by omega)
      have hsp := h.2 _ (List.getElem_mem (show j - 1 < (lst l).length by omega))
      obtain ⟨p, hp⟩ : ∃ p, p = (lst l)[j - 1] := ⟨_, rfl⟩
      rw [← hp] at hx2 hsp
      have hPm : P = aft p x := by
        obtain ⟨i, rfl⟩ : ∃ i, j = i + 1 := ⟨j - 1, by omega⟩
        rw [hP]; unfold one1
        rw [show i + 1 - 1 = i from rfl] at hx2
        simp [hx2, b1, b2, b3]
      obtain ⟨σ2, hσ2⟩ : ∃ σ2, σ2 = upd (upd σ1 (n + 2) (some (.row 5 [.agg [.int .u64 0, .int .i64 0, .int .u64 0, .bool false, .nilS]]))) (n + 2) (some (.row 5 [.agg [.int .u64 p.ts, .int .i64 p.w.c, .int .u64 p.w.id, .bool p.w.g, slV 1 i32V p.w.v]])) := ⟨_, rfl⟩
      have so' : ∀ i, i < n → σ2 i = σ i := fun i hi => by rw [hσ2, upd_ne (by omega), upd_ne (by omega), so i hi]
      have snx : σ2 n = some (.row 5 [.agg [.int .u64 x.ts, .int .i64 x.w.c, .int .u64 x.w.id, .bool x.w.g, slV 1 i32V x.w.v]]) := by rw [hσ2, upd_ne (by omega), upd_ne (by omega)]; exact sn
      have snp : σ2 (n + 2) = some (.row 5 [.agg [.int .u64 p.ts, .int .i64 p.w.c, .int .u64 p.w.id, .bool p.w.g, slV 1 i32V p.w.v]]) := by rw [hσ2, upd_self]
      have q0 : (0 = n) = False := by simp; omega
      by_cases k1 : p.ts < x.ts
      · have hPt : P = true := by rw [hPm]; unfold aft; simp [k1]
        have so := so'
        have s0 : σ2 0 = some (.map (ens kyV bV Lm) clk) := by rw [so 0 (by omega)]; exact m2
        have pu := mupd_ens (ke := kyV) (ve := bV) (lk := 0) keyK m1 s0 (Nat.zero_le _) (key x.w) (!x.w.g) (n + 3)
        have hmg : mgetE false (.agg [.int, .int]) (.bool false) (some (ens kyV bV Lm)) (kyV (key x.w)) = some (.bool (isB ((lst l).take j) (key x.w))) := by
          rw [mget_ens (ve := bV) keyK false (.bool false) (key x.w) Lm, ← m3 (key x.w)]
          cases vw Lm (key x.w) <;> rfl
        have fk := f47 x.w
        rw [wrV_eq] at fk
        have hnew : ∀ k, (vw (mput Lm clk (key x.w) (!x.w.g)).1 k).getD false = isB ((lst l).take (j + 1)) k := by
          intro k
          rw [vw_mput, hds]
          by_cases e : k = key x.w
          · rw [if_pos e, if_pos e.symm]; rfl
          · rw [if_neg e, if_neg (fun h => e h.symm)]; exact m3 k
        simp only [bV] at pu
        cases hg : x.w.g
        all_goals rw [hg] at r1 hσ1 pu fk sn sn1 snx hnew hone
        all_goals simp only [Bool.not_false, Bool.not_true] at pu hnew
        · simp +contextual -implicitDefEqProofs (maxSteps := 2000000) only [↓wP, wQ, wQ1, wQ2, wQ3, wR, boxE, partsOf, ↓reduceIte, Nat.reduceEqDiff, Nat.reduceAdd, Nat.reduceSub, Nat.reduceLeDiff, Nat.reduceLT, Nat.reduceMul, reduceCtorEq, Int.reduceBNe, Int.reduceBEq, Int.reduceLT, Int.reduceLE, Int.reduceGT, h1, h2, g1, g2, g3, g4, hx, faV_eq, b1, b2, callE_eq hm62, frz_rf, rch_rf, r1, hz, wj, hx2, ← hσ1, sn, sn1, ← hσ2, snx, snp, q0, k1, s0, hg, pu, fk, hmg]
          exact ⟨by rw [hst, hone, hPt]; rfl, _, _, mput_ok m1 _ _, rfl, hnew⟩
        · cases hb : isB ((lst l).take j) (key x.w)
          all_goals rw [hb] at hmg hone
          · have hk := hno (by rw [hone, hPt]; rfl)
            simp +contextual -implicitDefEqProofs (maxSteps := 2000000) only [↓wP, wQ, wQ1, wQ2, wQ3, wR, boxE, partsOf, ↓reduceIte, Nat.reduceEqDiff, Nat.reduceAdd, Nat.reduceSub, Nat.reduceLeDiff, Nat.reduceLT, Nat.reduceMul, reduceCtorEq, Int.reduceBNe, Int.reduceBEq, Int.reduceLT, Int.reduceLE, Int.reduceGT, h1, h2, g1, g2, g3, g4, hx, faV_eq, b1, b2, callE_eq hm62, frz_rf, rch_rf, r1, hz, wj, hx2, ← hσ1, sn, sn1, ← hσ2, snx, snp, q0, k1, s0, hg, fk, hmg]
            rw [hk]; rfl
          · simp +contextual -implicitDefEqProofs (maxSteps := 2000000) only [↓wP, wQ, wQ1, wQ2, wQ3, wR, boxE, partsOf, ↓reduceIte, Nat.reduceEqDiff, Nat.reduceAdd, Nat.reduceSub, Nat.reduceLeDiff, Nat.reduceLT, Nat.reduceMul, reduceCtorEq, Int.reduceBNe, Int.reduceBEq, Int.reduceLT, Int.reduceLE, Int.reduceGT, h1, h2, g1, g2, g3, g4, hx, faV_eq, b1, b2, callE_eq hm62, frz_rf, rch_rf, r1, hz, wj, hx2, ← hσ1, sn, sn1, ← hσ2, snx, snp, q0, k1, s0, hg, pu, fk, hmg]
            exact ⟨by rw [hst, hone, hPt]; rfl, _, _, mput_ok m1 _ _, rfl, hnew⟩
      · by_cases k2 : p.ts = x.ts
        rotate_left
        · have k2' : (p.ts == x.ts) = false := by simp [k2]
          have hk := hno (by rw [hone, hPm]; unfold aft; simp [k1, k2])
          simp +contextual -implicitDefEqProofs (maxSteps := 2000000) only [↓wP, wQ, wQ1, wQ2, wQ3, wR, boxE, partsOf, ↓reduceIte, Nat.reduceEqDiff, Nat.reduceAdd, Nat.reduceSub, Nat.reduceLeDiff, Nat.reduceLT, Nat.reduceMul, reduceCtorEq, Int.reduceBNe, Int.reduceBEq, Int.reduceLT, Int.reduceLE, Int.reduceGT, h1, h2, g1, g2, g3, g4, hx, faV_eq, b1, b2, callE_eq hm62, frz_rf, rch_rf, r1, hz, wj, hx2, ← hσ1, sn, sn1, ← hσ2, snx, snp, q0, k1, k2']
          rw [hk]; rfl
        have k2' : (p.ts == x.ts) = true := by simp [k2]
        have r2 := r62 (some [p.w, x.w]) ⟨by show 2 < _; decide, fun w hw => by
          rw [lst_some] at hw
          rcases List.mem_cons.1 hw with rfl | hw
          · exact hsp
          · rw [List.mem_singleton] at hw; subst hw; exact hsm⟩
        rw [lst_some, right2, b3, Bool.true_and] at r2
        rw [show slV 4 wrV (some [p.w, x.w]) = V.sl 4 [wrV p.w, wrV x.w] from rfl, wrV_eq, wrV_eq] at r2
        have hPa : P = (okW p.w && bef p.w x.w) := by rw [hPm]; unfold aft; simp [k1, k2, b3]
        rw [← hPa] at r2
        obtain ⟨σ3, hσ3⟩ : ∃ σ3, σ3 = upd σ2 (n + 3) (some (.row 4 [.agg [.int .i64 p.w.c, .int .u64 p.w.id, .bool p.w.g, slV 1 i32V p.w.v], .agg [.int .i64 x.w.c, .int .u64 x.w.id, .bool x.w.g, slV 1 i32V x.w.v]])) := ⟨_, rfl⟩
        have so'' : ∀ i, i < n → σ3 i = σ i := fun i hi => by rw [hσ3, upd_ne (by omega), so' i hi]
        have snx' : σ3 n = some (.row 5 [.agg [.int .u64 x.ts, .int .i64 x.w.c, .int .u64 x.w.id, .bool x.w.g, slV 1 i32V x.w.v]]) := by rw [hσ3, upd_ne (by omega)]; exact snx
        have sn3 : σ3 (n + 3) = some (.row 4 [.agg [.int .i64 p.w.c, .int .u64 p.w.id, .bool p.w.g, slV 1 i32V p.w.v], .agg [.int .i64 x.w.c, .int .u64 x.w.id, .bool x.w.g, slV 1 i32V x.w.v]]) := by rw [hσ3, upd_self]
        cases hPt : P
        · have hk := hno (by rw [hone, hPt]; rfl)
          rw [hPt] at r2
          simp +contextual -implicitDefEqProofs (maxSteps := 2000000) only [↓wP, wQ, wQ1, wQ2, wQ3, wR, boxE, partsOf, ↓reduceIte, Nat.reduceEqDiff, Nat.reduceAdd, Nat.reduceSub, Nat.reduceLeDiff, Nat.reduceLT, Nat.reduceMul, reduceCtorEq, Int.reduceBNe, Int.reduceBEq, Int.reduceLT, Int.reduceLE, Int.reduceGT, h1, h2, g1, g2, g3, g4, hx, faV_eq, b1, b2, callE_eq hm62, frz_rf, rch_rf, r1, hz, wj, hx2, ← hσ1, sn, sn1, ← hσ2, snx, snp, q0, k1, k2', ← hσ3, snx', sn3, r2]
          rw [hk]; rfl
        rw [hPt] at r2
        have so := so''
        have s0 : σ3 0 = some (.map (ens kyV bV Lm) clk) := by rw [so 0 (by omega)]; exact m2
        have pu := mupd_ens (ke := kyV) (ve := bV) (lk := 0) keyK m1 s0 (Nat.zero_le _) (key x.w) (!x.w.g) (n + 4)
        have hmg : mgetE false (.agg [.int, .int]) (.bool false) (some (ens kyV bV Lm)) (kyV (key x.w)) = some (.bool (isB ((lst l).take j) (key x.w))) := by
          rw [mget_ens (ve := bV) keyK false (.bool false) (key x.w) Lm, ← m3 (key x.w)]
          cases vw Lm (key x.w) <;> rfl
        have fk := f47 x.w
        rw [wrV_eq] at fk
        have hnew : ∀ k, (vw (mput Lm clk (key x.w) (!x.w.g)).1 k).getD false = isB ((lst l).take (j + 1)) k := by
          intro k
          rw [vw_mput, hds]
          by_cases e : k = key x.w
          · rw [if_pos e, if_pos e.symm]; rfl
          · rw [if_neg e, if_neg (fun h => e h.symm)]; exact m3 k
        simp only [bV] at pu
        cases hg : x.w.g
        all_goals rw [hg] at r1 hσ1 r2 hσ3 sn sn1 snx snx' sn3 pu fk hnew hone
        all_goals simp only [Bool.not_false, Bool.not_true] at pu hnew
        · simp +contextual -implicitDefEqProofs (maxSteps := 2000000) only [↓wP, wQ, wQ1, wQ2, wQ3, wR, boxE, partsOf, ↓reduceIte, Nat.reduceEqDiff, Nat.reduceAdd, Nat.reduceSub, Nat.reduceLeDiff, Nat.reduceLT, Nat.reduceMul, reduceCtorEq, Int.reduceBNe, Int.reduceBEq, Int.reduceLT, Int.reduceLE, Int.reduceGT, h1, h2, g1, g2, g3, g4, hx, faV_eq, b1, b2, callE_eq hm62, frz_rf, rch_rf, r1, hz, wj, hx2, ← hσ1, sn, sn1, ← hσ2, snx, snp, q0, k1, k2', ← hσ3, snx', sn3, r2, s0, hg, pu, fk, hmg]
          exact ⟨by rw [hst, hone, hPt]; rfl, _, _, mput_ok m1 _ _, rfl, hnew⟩
        · cases hb : isB ((lst l).take j) (key x.w)
          all_goals rw [hb] at hmg hone
          · have hk := hno (by rw [hone, hPt]; rfl)
            simp +contextual -implicitDefEqProofs (maxSteps := 2000000) only [↓wP, wQ, wQ1, wQ2, wQ3, wR, boxE, partsOf, ↓reduceIte, Nat.reduceEqDiff, Nat.reduceAdd, Nat.reduceSub, Nat.reduceLeDiff, Nat.reduceLT, Nat.reduceMul, reduceCtorEq, Int.reduceBNe, Int.reduceBEq, Int.reduceLT, Int.reduceLE, Int.reduceGT, h1, h2, g1, g2, g3, g4, hx, faV_eq, b1, b2, callE_eq hm62, frz_rf, rch_rf, r1, hz, wj, hx2, ← hσ1, sn, sn1, ← hσ2, snx, snp, q0, k1, k2', ← hσ3, snx', sn3, r2, s0, hg, fk, hmg]
            rw [hk]; rfl
          · simp +contextual -implicitDefEqProofs (maxSteps := 2000000) only [↓wP, wQ, wQ1, wQ2, wQ3, wR, boxE, partsOf, ↓reduceIte, Nat.reduceEqDiff, Nat.reduceAdd, Nat.reduceSub, Nat.reduceLeDiff, Nat.reduceLT, Nat.reduceMul, reduceCtorEq, Int.reduceBNe, Int.reduceBEq, Int.reduceLT, Int.reduceLE, Int.reduceGT, h1, h2, g1, g2, g3, g4, hx, faV_eq, b1, b2, callE_eq hm62, frz_rf, rch_rf, r1, hz, wj, hx2, ← hσ1, sn, sn1, ← hσ2, snx, snp, q0, k1, k2', ← hσ3, snx', sn3, r2, s0, hg, pu, fk, hmg]
            exact ⟨by rw [hst, hone, hPt]; rfl, _, _, mput_ok m1 _ _, rfl, hnew⟩
  · intro env σ n ⟨g1, g2, g3, g4, g5, g6, _⟩ h1 h2
    have hr : rightF (lst l) = (A && dimB (lst l)) := by unfold rightF; rw [g6, ← hA]; simp
    rw [hr]
    cases hAb : A
    · rw [hAb] at g3
      simp +contextual -implicitDefEqProofs (maxSteps := 2000000) only [↓wP, wQ, wQ1, wQ2, wQ3, wR, boxE, partsOf, ↓reduceIte, Nat.reduceEqDiff, Nat.reduceAdd, Nat.reduceSub, Nat.reduceLeDiff, Nat.reduceLT, Nat.reduceMul, reduceCtorEq, Int.reduceBNe, Int.reduceBEq, Int.reduceLT, Int.reduceLE, Int.reduceGT, g1, g3]
    · rw [hAb] at g3
      cases hd : dimB (lst l)
      · rw [hd] at f49'
        simp +contextual -implicitDefEqProofs (maxSteps := 2000000) only [↓wP, wQ, wQ1, wQ2, wQ3, wR, boxE, partsOf, ↓reduceIte, Nat.reduceEqDiff, Nat.reduceAdd, Nat.reduceSub, Nat.reduceLeDiff, Nat.reduceLT, Nat.reduceMul, reduceCtorEq, Int.reduceBNe, Int.reduceBEq, Int.reduceLT, Int.reduceLE, Int.reduceGT, g1, g3, f49']
      · rw [hd] at f49'
        simp +contextual -implicitDefEqProofs (maxSteps := 2000000) only [↓wP, wQ, wQ1, wQ2, wQ3, wR, boxE, partsOf, ↓reduceIte, Nat.reduceEqDiff, Nat.reduceAdd, Nat.reduceSub, Nat.reduceLeDiff, Nat.reduceLT, Nat.reduceMul, reduceCtorEq, Int.reduceBNe, Int.reduceBEq, Int.reduceLT, Int.reduceLE, Int.reduceGT, g1, g3, f49']
  · exact ⟨rfl, rfl, rfl, rfl, Nat.le_refl _, rfl, [], 0, MOk.nil, rfl, fun k => rfl⟩
theorem f24 (l : Option (List Fa)) (h : SmF l) (fs : Bool) (σ : Sto) (n lk : Nat) : callE T fs 24 [slV 5 faV l] σ n lk = some (.int .i64 (if rightF (lst l) then 0 else 280), σ, n) :=
  callE_tr (by decide) (r24 l h) (by simp [Tr, Tr_slV]) rfl fs σ n lk
end Go.Q.S18
end

section
/- Which facts may be: the document's answer. -/
set_option linter.unusedSimpArgs false
set_option linter.unusedVariables false
namespace Go.Q.S18
open Go.Q
theorem FitF.sm {l : Option (List Fa)} (h : FitF (lst l)) : SmF l := ⟨by have := h.1; omega, fun f hf => by have := h.2 f hf; unfold Sm; omega⟩
theorem FitF.take {l : List Fa} (h : FitF l) (j : Nat) : FitF (l.take j) := ⟨by have := h.1; rw [List.length_take]; omega, fun f hf => h.2 f (List.mem_of_mem_take hf)⟩
theorem r15 (l : Option (List Fa)) (h : FitF (lst l)) : res T 15 [slV 5 faV l] = some (.bool (rightF (lst l))) := by
  refine run_res (run_pure (fn := g15) rfl rfl (by decide) ?_)
  simp only [g15, b15, oO, oN, mV, lD, gO, pP, qQ, cI, aR]
  have hl := h.1
  have f52' := f52 l h.sm
  by_cases hA : 2000 < (lst l).length
  · have hA' : (2000 : Int) < ((lst l).length : Int) := by omega
    have hr : rightF (lst l) = false := by unfold rightF; rw [decide_eq_false (by omega)]; rfl
    simp +contextual -implicitDefEqProofs (maxSteps := 2000000) only [↓wP, wQ, wQ1, wQ2, wQ3, wR, boxE, partsOf, ↓reduceIte, Nat.reduceEqDiff, Nat.reduceAdd, Nat.reduceSub, Nat.reduceLeDiff, Nat.reduceLT, Nat.reduceMul, reduceCtorEq, Int.reduceBNe, Int.reduceBEq, Int.reduceLT, Int.reduceLE, Int.reduceGT, hA', hr]
  have hA' : ¬ (2000 : Int) < ((lst l).length : Int) := by omega
  simp +contextual -implicitDefEqProofs (maxSteps := 2000000) only [↓wP, wQ, wQ1, wQ2, wQ3, wR, boxE, partsOf, ↓reduceIte, Nat.reduceEqDiff, Nat.reduceAdd, Nat.reduceSub, Nat.reduceLeDiff, Nat.reduceLT, Nat.reduceMul, reduceCtorEq, Int.reduceBNe, Int.reduceBEq, Int.reduceLT, Int.reduceLE, Int.reduceGT, hA']
  refine WC_for (lst l).length 0 (fun (j : Nat) env σ n => env 0 = slV 5 faV l ∧ env 8 = slV 5 faV l ∧ okU (lst l) j = true) (by omega) (by decide) (by decide) (fun _ _ => rfl) (fun _ _ _ => rfl) ?_ ?_ _ _ _ rfl rfl ?_
  · intro j env σ n hj h1 h2 ⟨g1, g2, g3⟩
    simp only [vl_tmp] at h2
    have hx : (lst l)[j]? = some (lst l)[j] := List.getElem?_eq_getElem hj
    have hst := okU_eq hj
    rw [g3, Bool.true_and] at hst
    have hno : oneF (lst l) j (lst l)[j] = false → rightF (lst l) = false := fun hk => by
      unfold rightF
      rw [okU_no (by rw [hst, hk]) _ (by omega : j + 1 ≤ (lst l).length)]
      simp
    have hsm := h.sm.2 _ (List.getElem_mem hj)
    have hbf := fun h1 => isB_before hj g3 h1 (fun f => decide (f.ts ≤ (lst l)[j].ts - 1)) (fun f => rfl)
    have hlk : lst (sub l 0 j) = (lst l).take j := by rw [lst_sub, List.drop_zero]
    have f51' := f51 (sub l 0 j) (lst l)[j].w.c (lst l)[j].w.id ((lst l)[j].ts - 1) (by rw [hlk]; exact h.take j)
    rw [hlk] at f51'
    have hth : thB ((lst l).take j) (lst l)[j].w.c (lst l)[j].w.id ((lst l)[j].ts - 1) = isB (((lst l).take j).filter fun f => decide (f.ts ≤ (lst l)[j].ts - 1)) (key (lst l)[j].w) := rfl
    rw [hth] at f51'
    have hjl : j ≤ (lst l).length := by omega
    generalize (lst l)[j] = x at *
    by_cases b1 : x.ts < 1
    · have hk := hno (by unfold oneF one1; rw [decide_eq_false (by omega)]; rfl)
      simp +contextual -implicitDefEqProofs (maxSteps := 2000000) only [↓wP, wQ, wQ1, wQ2, wQ3, wR, boxE, partsOf, ↓reduceIte, Nat.reduceEqDiff, Nat.reduceAdd, Nat.reduceSub, Nat.reduceLeDiff, Nat.reduceLT, Nat.reduceMul, reduceCtorEq, Int.reduceBNe, Int.reduceBEq, Int.reduceLT, Int.reduceLE, Int.reduceGT, h1, h2, g1, g2, hx, faV_eq, b1]
      rw [hk]
    by_cases b2 : 1099511627776 < x.ts
    · have hk := hno (by unfold oneF one1; rw [decide_eq_false (show ¬ x.ts ≤ 1099511627776 by omega)]; simp)
      simp +contextual -implicitDefEqProofs (maxSteps := 2000000) only [↓wP, wQ, wQ1, wQ2, wQ3, wR, boxE, partsOf, ↓reduceIte, Nat.reduceEqDiff, Nat.reduceAdd, Nat.reduceSub, Nat.reduceLeDiff, Nat.reduceLT, Nat.reduceMul, reduceCtorEq, Int.reduceBNe, Int.reduceBEq, Int.reduceLT, Int.reduceLE, Int.reduceGT, h1, h2, g1, g2, hx, faV_eq, b1, b2]
      rw [hk]
    have b1' : 1 ≤ x.ts := by omega
    have b2' : x.ts ≤ 1099511627776 := by omega
    have wts : IntKind.u64.wrap (x.ts - 1) = x.ts - 1 := by rw [wrap_u64] <;> omega
    have r1 := r16 (some [x.w]) ⟨by show 1 < _; decide, fun w hw => by rw [lst_some, List.mem_singleton] at hw; subst hw; exact hsm⟩
    rw [lst_some, right1] at r1
    rw [show slV 4 wrV (some [x.w]) = V.sl 4 [wrV x.w] from rfl, wrV_eq] at r1
    have hm16 : T.mode 16 ≠ .raw := by decide
    by_cases b3 : okW x.w = true
    rotate_left
    · have b3' : okW x.w = false := by simpa using b3
      have hk := hno (by unfold oneF one1; simp [b3'])
      rw [b3'] at r1
      simp +contextual -implicitDefEqProofs (maxSteps := 2000000) only [↓wP, wQ, wQ1, wQ2, wQ3, wR, boxE, partsOf, ↓reduceIte, Nat.reduceEqDiff, Nat.reduceAdd, Nat.reduceSub, Nat.reduceLeDiff, Nat.reduceLT, Nat.reduceMul, reduceCtorEq, Int.reduceBNe, Int.reduceBEq, Int.reduceLT, Int.reduceLE, Int.reduceGT, h1, h2, g1, g2, hx, faV_eq, b1, b2, callE_eq hm16, frz_rf, rch_rf, r1]
      rw [hk]
    rw [b3] at r1
    obtain ⟨P, hP⟩ : ∃ P, P = one1 (lst l) j x := ⟨_, rfl⟩
    have hone : oneF (lst l) j x = (P && (!x.w.g || isB ((lst l).take j) (key x.w))) := by rw [hP]; rfl
    rw [← hP] at hbf
    obtain ⟨σ1, hσ1⟩ : ∃ σ1, σ1 = upd (upd (upd σ n (some (.row 5 [.agg [.int .u64 0, .int .i64 0, .int .u64 0, .bool false, .nilS]]))) n (some (.row 5 [.agg [.int .u64 x.ts, .int .i64 x.w.c, .int .u64 x.w.id, .bool x.w.g, slV 1 i32V x.w.v]]))) (n + 1) (some (.row 4 [.agg [.int .i64 x.w.c, .int .u64 x.w.id, .bool x.w.g, slV 1 i32V x.w.v]])) := ⟨_, rfl⟩
    have sn : σ1 n = some (.row 5 [.agg [.int .u64 x.ts, .int .i64 x.w.c, .int .u64 x.w.id, .bool x.w.g, slV 1 i32V x.w.v]]) := by rw [hσ1, upd_ne (by omega), upd_self]
    have sn1 : σ1 (n + 1) = some (.row 4 [.agg [.int .i64 x.w.c, .int .u64 x.w.id, .bool x.w.g, slV 1 i32V x.w.v]]) := by rw [hσ1, upd_self]
    by_cases hj0 : j = 0
    · have hz : ¬ ((0 : Int) < (j : Int)) := by omega
      have hPt : P = true := by rw [hP]; unfold one1; subst hj0; simp [b1', b2', b3]
      have snx := sn
      have y0 : ∀ hid, hide σ1 (n + 2) (n + 2) hid n = σ1 n := fun hid => hide_low _ _ _ _ (by omega) (Nat.le_refl _)
      rw [hbf hPt] at f51'
      cases hg : x.w.g
      all_goals rw [hg] at r1 hσ1 sn sn1 snx hone
      · simp +contextual -implicitDefEqProofs (maxSteps := 2000000) only [↓wP, wQ, wQ1, wQ2, wQ3, wR, boxE, partsOf, ↓reduceIte, Nat.reduceEqDiff, Nat.reduceAdd, Nat.reduceSub, Nat.reduceLeDiff, Nat.reduceLT, Nat.reduceMul, reduceCtorEq, Int.reduceBNe, Int.reduceBEq, Int.reduceLT, Int.reduceLE, Int.reduceGT, h1, h2, g1, g2, hx, faV_eq, b1, b2, wts, hjl, callE_eq hm16, frz_rf, rch_rf, r1, hz, ← hσ1, sn, sn1, hg, y0]
        rw [hst, hone, hPt]; rfl
      · cases hb : isB ((lst l).take j) (key x.w)
        all_goals rw [hb] at f51' hone
        · have hk := hno (by rw [hone, hPt]; rfl)
          simp +contextual -implicitDefEqProofs (maxSteps := 2000000) only [↓wP, wQ, wQ1, wQ2, wQ3, wR, boxE, partsOf, ↓reduceIte, Nat.reduceEqDiff, Nat.reduceAdd, Nat.reduceSub, Nat.reduceLeDiff, Nat.reduceLT, Nat.reduceMul, reduceCtorEq, Int.reduceBNe, Int.reduceBEq, Int.reduceLT, Int.reduceLE, Int.reduceGT, h1, h2, g1, g2, hx, faV_eq, b1, b2, wts, hjl, callE_eq hm16, frz_rf, rch_rf, r1, hz, ← hσ1, sn, sn1, hg, y0, f51']
          rw [hk]
        · simp +contextual -implicitDefEqProofs (maxSteps := 2000000) only [↓wP, wQ, wQ1, wQ2, wQ3, wR, boxE, partsOf, ↓reduceIte, Nat.reduceEqDiff, Nat.reduceAdd, Nat.reduceSub, Nat.reduceLeDiff, Nat.reduceLT, Nat.reduceMul, reduceCtorEq, Int.reduceBNe, Int.reduceBEq, Int.reduceLT, Int.reduceLE, Int.reduceGT, h1, h2, g1, g2, hx, faV_eq, b1, b2, wts, hjl, callE_eq hm16, frz_rf, rch_rf, r1, hz, ← hσ1, sn, sn1, hg, y0, f51']
          rw [hst, hone, hPt]; rfl
    · have hz : (0 : Int) < (j : Int) := by omega
      have wj : IntKind.i64.wrap ((j : Int) - 1) = ((j - 1 : Nat) : Int) := by rw [wrap_i64] <;> omega
      have hx2 : (lst l)[j - 1]? = some (lst l)[j - 1] := List.getElem?_eq_getElem (by omega)
      have hsp := h.sm.2 _ (List.getElem_mem (show j - 1 < (lst l).length by omega))
      obtain ⟨p, hp⟩ : ∃ p, p = (lst l)[j - 1] := ⟨_, rfl⟩
      rw [← hp] at hx2 hsp
      have hPm : P = aft p x := by
        obtain ⟨i, rfl⟩ : ∃ i, j = i + 1 := ⟨j - 1, by omega⟩
        rw [hP]; unfold one1
        rw [show i + 1 - 1 = i from rfl] at hx2
        simp [hx2, b1', b2', b3]
      have yA : ∀ hid, hide σ1 (n + 2) (n + 2) hid n = σ1 n := fun hid => hide_low _ _ _ _ (by omega) (Nat.le_refl _)
      have snx := sn
      by_cases k0 : x.ts < p.ts
      · have hk := hno (by rw [hone, hPm]; unfold aft; rw [decide_eq_false (show ¬ p.ts < x.ts by omega), show (p.ts == x.ts) = false by simp; omega]; rfl)
        simp +contextual -implicitDefEqProofs (maxSteps := 2000000) only [↓wP, wQ, wQ1, wQ2, wQ3, wR, boxE, partsOf, ↓reduceIte, Nat.reduceEqDiff, Nat.reduceAdd, Nat.reduceSub, Nat.reduceLeDiff, Nat.reduceLT, Nat.reduceMul, reduceCtorEq, Int.reduceBNe, Int.reduceBEq, Int.reduceLT, Int.reduceLE, Int.reduceGT, h1, h2, g1, g2, hx, faV_eq, b1, b2, wts, hjl, callE_eq hm16, frz_rf, rch_rf, r1, hz, wj, hx2, ← hσ1, sn, sn1, yA, k0]
        rw [hk]
      by_cases k2 : p.ts = x.ts
      rotate_left
      · have k2' : (p.ts == x.ts) = false := by simp [k2]
        have hPt : P = true := by rw [hPm]; unfold aft; rw [decide_eq_true (show p.ts < x.ts by omega)]; rfl
        have y0 : ∀ hid, hide σ1 (n + 2) (n + 2) hid n = σ1 n := fun hid => hide_low _ _ _ _ (by omega) (Nat.le_refl _)
        rw [hbf hPt] at f51'
        cases hg : x.w.g
        all_goals rw [hg] at r1 hσ1 sn sn1 snx hone
        · simp +contextual -implicitDefEqProofs (maxSteps := 2000000) only [↓wP, wQ, wQ1, wQ2, wQ3, wR, boxE, partsOf, ↓reduceIte, Nat.reduceEqDiff, Nat.reduceAdd, Nat.reduceSub, Nat.reduceLeDiff, Nat.reduceLT, Nat.reduceMul, reduceCtorEq, Int.reduceBNe, Int.reduceBEq, Int.reduceLT, Int.reduceLE, Int.reduceGT, h1, h2, g1, g2, hx, faV_eq, b1, b2, wts, hjl, callE_eq hm16, frz_rf, rch_rf, r1, hz, wj, hx2, ← hσ1, sn, sn1, yA, k0, k2', hg, y0]
          rw [hst, hone, hPt]; rfl
        · cases hb : isB ((lst l).take j) (key x.w)
          all_goals rw [hb] at f51' hone
          · have hk := hno (by rw [hone, hPt]; rfl)
            simp +contextual -implicitDefEqProofs (maxSteps := 2000000) only [↓wP, wQ, wQ1, wQ2, wQ3, wR, boxE, partsOf, ↓reduceIte, Nat.reduceEqDiff, Nat.reduceAdd, Nat.reduceSub, Nat.reduceLeDiff, Nat.reduceLT, Nat.reduceMul, reduceCtorEq, Int.reduceBNe, Int.reduceBEq, Int.reduceLT, Int.reduceLE, Int.reduceGT, h1, h2, g1, g2, hx, faV_eq, b1, b2, wts, hjl, callE_eq hm16, frz_rf, rch_rf, r1, hz, wj, hx2, ← hσ1, sn, sn1, yA, k0, k2', hg, y0, f51']
            rw [hk]
          · simp +contextual -implicitDefEqProofs (maxSteps := 2000000) only [↓wP, wQ, wQ1, wQ2, wQ3, wR, boxE, partsOf, ↓reduceIte, Nat.reduceEqDiff, Nat.reduceAdd, Nat.reduceSub, Nat.reduceLeDiff, Nat.reduceLT, Nat.reduceMul, reduceCtorEq, Int.reduceBNe, Int.reduceBEq, Int.reduceLT, Int.reduceLE, Int.reduceGT, h1, h2, g1, g2, hx, faV_eq, b1, b2, wts, hjl, callE_eq hm16, frz_rf, rch_rf, r1, hz, wj, hx2, ← hσ1, sn, sn1, yA, k0, k2', hg, y0, f51']
            rw [hst, hone, hPt]; rfl
      have k2' : (p.ts == x.ts) = true := by simp [k2]
      have r2 := r16 (some [p.w, x.w]) ⟨by show 2 < _; decide, fun w hw => by
        rw [lst_some] at hw
        rcases List.mem_cons.1 hw with rfl | hw
        · exact hsp
        · rw [List.mem_singleton] at hw; subst hw; exact hsm⟩
      rw [lst_some, right2, b3, Bool.true_and] at r2
      rw [show slV 4 wrV (some [p.w, x.w]) = V.sl 4 [wrV p.w, wrV x.w] from rfl, wrV_eq, wrV_eq] at r2
      have hPa : P = (okW p.w && bef p.w x.w) := by rw [hPm]; unfold aft; rw [decide_eq_false (show ¬ p.ts < x.ts by omega), k2', b3]; simp
      rw [← hPa] at r2
      obtain ⟨σ3, hσ3⟩ : ∃ σ3, σ3 = upd σ1 (n + 2) (some (.row 4 [.agg [.int .i64 p.w.c, .int .u64 p.w.id, .bool p.w.g, slV 1 i32V p.w.v], .agg [.int .i64 x.w.c, .int .u64 x.w.id, .bool x.w.g, slV 1 i32V x.w.v]])) := ⟨_, rfl⟩
      have snx' : σ3 n = some (.row 5 [.agg [.int .u64 x.ts, .int .i64 x.w.c, .int .u64 x.w.id, .bool x.w.g, slV 1 i32V x.w.v]]) := by rw [hσ3, upd_ne (by omega)]; exact snx
      have sn3 : σ3 (n + 2) = some (.row 4 [.agg [.int .i64 p.w.c, .int .u64 p.w.id, .bool p.w.g, slV 1 i32V p.w.v], .agg [.int .i64 x.w.c, .int .u64 x.w.id, .bool x.w.g, slV 1 i32V x.w.v]]) := by rw [hσ3, upd_self]
      cases hPt : P
      · have hk := hno (by rw [hone, hPt]; rfl)
        rw [hPt] at r2
        simp +contextual -implicitDefEqProofs (maxSteps := 2000000) only [↓wP, wQ, wQ1, wQ2, wQ3, wR, boxE, partsOf, ↓reduceIte, Nat.reduceEqDiff, Nat.reduceAdd, Nat.reduceSub, Nat.reduceLeDiff, Nat.reduceLT, Nat.reduceMul, reduceCtorEq, Int.reduceBNe, Int.reduceBEq, Int.reduceLT, Int.reduceLE, Int.reduceGT, h1, h2, g1, g2, hx, faV_eq, b1, b2, wts, hjl, callE_eq hm16, frz_rf, rch_rf, r1, hz, wj, hx2, ← hσ1, sn, sn1, yA, k0, k2', ← hσ3, snx', sn3, r2]
        rw [hk]
      rw [hPt] at r2
      have y0 : ∀ hid, hide σ3 (n + 3) (n + 3) hid n = σ3 n := fun hid => hide_low _ _ _ _ (by omega) (Nat.le_refl _)
      rw [hbf hPt] at f51'
      cases hg : x.w.g
      all_goals rw [hg] at r1 hσ1 r2 hσ3 sn sn1 snx snx' sn3 hone
      · simp +contextual -implicitDefEqProofs (maxSteps := 2000000) only [↓wP, wQ, wQ1, wQ2, wQ3, wR, boxE, partsOf, ↓reduceIte, Nat.reduceEqDiff, Nat.reduceAdd, Nat.reduceSub, Nat.reduceLeDiff, Nat.reduceLT, Nat.reduceMul, reduceCtorEq, Int.reduceBNe, Int.reduceBEq, Int.reduceLT, Int.reduceLE, Int.reduceGT, h1, h2, g1, g2, hx, faV_eq, b1, b2, wts, hjl, callE_eq hm16, frz_rf, rch_rf, r1, hz, wj, hx2, ← hσ1, sn, sn1, yA, k0, k2', ← hσ3, snx', sn3, r2, hg, y0]
        rw [hst, hone, hPt]; rfl
      · cases hb : isB ((lst l).take j) (key x.w)
        all_goals rw [hb] at f51' hone
        · have hk := hno (by rw [hone, hPt]; rfl)
          simp +contextual -implicitDefEqProofs (maxSteps := 2000000) only [↓wP, wQ, wQ1, wQ2, wQ3, wR, boxE, partsOf, ↓reduceIte, Nat.reduceEqDiff, Nat.reduceAdd, Nat.reduceSub, Nat.reduceLeDiff, Nat.reduceLT, Nat.reduceMul, reduceCtorEq, Int.reduceBNe, Int.reduceBEq, Int.reduceLT, Int.reduceLE, Int.reduceGT, h1, h2, g1, g2, hx, faV_eq, b1, b2, wts, hjl, callE_eq hm16, frz_rf, rch_rf, r1, hz, wj, hx2, ← hσ1, sn, sn1, yA, k0, k2', ← hσ3, snx', sn3, r2, hg, y0, f51']
          rw [hk]
        · simp +contextual -implicitDefEqProofs (maxSteps := 2000000) only [↓wP, wQ, wQ1, wQ2, wQ3, wR, boxE, partsOf, ↓reduceIte, Nat.reduceEqDiff, Nat.reduceAdd, Nat.reduceSub, Nat.reduceLeDiff, Nat.reduceLT, Nat.reduceMul, reduceCtorEq, Int.reduceBNe, Int.reduceBEq, Int.reduceLT, Int.reduceLE, Int.reduceGT, h1, h2, g1, g2, hx, faV_eq, b1, b2, wts, hjl, callE_eq hm16, frz_rf, rch_rf, r1, hz, wj, hx2, ← hσ1, sn, sn1, yA, k0, k2', ← hσ3, snx', sn3, r2, hg, y0, f51']
          rw [hst, hone, hPt]; rfl
  · intro env σ n ⟨g1, g2, g3⟩ h1 h2
    have hr : rightF (lst l) = dimB (lst l) := by unfold rightF; rw [g3, decide_eq_true (by omega)]; simp
    rw [hr]
    simp +contextual -implicitDefEqProofs (maxSteps := 2000000) only [↓wP, wQ, wQ1, wQ2, wQ3, wR, boxE, partsOf, ↓reduceIte, Nat.reduceEqDiff, Nat.reduceAdd, Nat.reduceSub, Nat.reduceLeDiff, Nat.reduceLT, Nat.reduceMul, reduceCtorEq, Int.reduceBNe, Int.reduceBEq, Int.reduceLT, Int.reduceLE, Int.reduceGT, g1, f52']
  · simp +contextual -implicitDefEqProofs (maxSteps := 2000000) only [↓wP, wQ, wQ1, wQ2, wQ3, wR, boxE, partsOf, ↓reduceIte, Nat.reduceEqDiff, Nat.reduceAdd, Nat.reduceSub, Nat.reduceLeDiff, Nat.reduceLT, Nat.reduceMul, reduceCtorEq, Int.reduceBNe, Int.reduceBEq, Int.reduceLT, Int.reduceLE, Int.reduceGT]
    rfl
theorem f15 (l : Option (List Fa)) (h : FitF (lst l)) (fs : Bool) (σ : Sto) (n lk : Nat) : callE T fs 15 [slV 5 faV l] σ n lk = some (.bool (rightF (lst l)), σ, n) :=
  callE_tr (by decide) (r15 l h) (by simp [Tr, Tr_slV]) rfl fs σ n lk
end Go.Q.S18
end

section
/- Facts whose rows are a caller's own, vectors and all. -/
set_option linter.unusedSimpArgs false
set_option linter.unusedVariables false
namespace Go.Q.S18
open Go.Q
def vref (i : Nat) (x : Fa) : V := .ref i 0 (lst x.w.v).length 1
def erow (x : Fa) (i : Nat) : V := .agg [.int .u64 x.ts, .int .i64 x.w.c, .int .u64 x.w.id, .bool x.w.g, vref i x]
def vown (x : Fa) : V := .own 1 ((lst x.w.v).map i32V)
def ownFa (x : Fa) : V := .agg [.int .u64 x.ts, .int .i64 x.w.c, .int .u64 x.w.id, .bool x.w.g, vown x]
def AllS (l : List Fa) : Prop := ∀ x ∈ l, x.w.v = some (lst x.w.v)
def FVecs (σ : Sto) (L : List Fa) (ids : List Nat) : Prop := ids.length = L.length ∧ ∀ (j : Nat) (x : Fa) (i : Nat), L[j]? = some x → ids[j]? = some i → σ i = some (.row 1 ((lst x.w.v).map i32V))
theorem FVecs.cons {σ : Sto} {x : Fa} {L : List Fa} {i : Nat} {ids : List Nat} : FVecs σ (x :: L) (i :: ids) ↔ σ i = some (.row 1 ((lst x.w.v).map i32V)) ∧ FVecs σ L ids := by
  constructor
  · rintro ⟨h1, h2⟩
    exact ⟨h2 0 x i rfl rfl, by simpa using h1, fun j y k hy hk => h2 (j + 1) y k (by simpa using hy) (by simpa using hk)⟩
  · rintro ⟨h0, h1, h2⟩
    refine ⟨by simpa using h1, fun j y k hy hk => ?_⟩
    cases j with
    | zero => simp at hy hk; subst hy; subst hk; exact h0
    | succ j => exact h2 j y k (by simpa using hy) (by simpa using hk)
theorem FVecs.loc {σ σ' : Sto} {L : List Fa} {ids : List Nat} (h : FVecs σ L ids) (hs : ∀ i ∈ ids, σ' i = σ i) : FVecs σ' L ids :=
  ⟨h.1, fun j x i hx hi => (hs i (List.mem_of_getElem? hi)).trans (h.2 j x i hx hi)⟩
theorem FVecs.append {σ : Sto} {L M : List Fa} {ids jds : List Nat} (h : FVecs σ L ids) (h' : FVecs σ M jds) : FVecs σ (L ++ M) (ids ++ jds) := by
  refine ⟨by simp [h.1, h'.1], fun j x i hx hi => ?_⟩
  rw [List.getElem?_append] at hx hi
  rw [h.1] at hi
  split at hx <;> rename_i hj
  · rw [if_pos hj] at hi; exact h.2 j x i hx hi
  · rw [if_neg hj] at hi; exact h'.2 _ x i hx hi
def FChn (σ : Sto) (m n : Nat) (v : V) (o : Option (List Fa)) : Prop := match o with
  | none => v = .nilS
  | some L => ∃ id ids, v = .ref id 0 L.length 5 ∧ σ id = some (.row 5 (L.zipWith erow ids)) ∧ (id :: ids).Nodup ∧ (∀ i ∈ id :: ids, m ≤ i ∧ i < n) ∧ FVecs σ L ids
theorem FChn.loc {σ σ' : Sto} {m n m' n' : Nat} {v : V} {o : Option (List Fa)} (h : FChn σ m n v o) (hs : ∀ i, m ≤ i → i < n → σ' i = σ i) (hm : m' ≤ m) (hn : n ≤ n') : FChn σ' m' n' v o := by
  cases o with
  | none => exact h
  | some L =>
    obtain ⟨id, ids, rfl, h1, h2, h3, h4⟩ := h
    refine ⟨id, ids, rfl, ?_, h2, fun i hi => ⟨by have := (h3 i hi).1; omega, by have := (h3 i hi).2; omega⟩, h4.loc fun i hi => ?_⟩
    · have := h3 id (by simp)
      rw [hs id this.1 this.2, h1]
    · have := h3 i (List.mem_cons_of_mem _ hi)
      exact hs i this.1 this.2
theorem zip_len {σ : Sto} {L : List Fa} {ids : List Nat} (h : FVecs σ L ids) : (L.zipWith erow ids).length = L.length := by simp [h.1]
def ownF : Option (List Fa) → V
  | none => .nilS
  | some L => .own 5 (L.map ownFa)
theorem giv_vec {σ : Sto} {x : Fa} {i : Nat} (h : σ i = some (.row 1 ((lst x.w.v).map i32V))) (k : Nat) : giv σ (k + 2) (vref i x) = some (vown x) ∧ gids σ (k + 2) (vref i x) = [i] := by
  constructor
  · simp only [vref, vown, giv, h, List.length_map, and_self, if_true]
    rw [mapM_id (fun y hy => by obtain ⟨t, -, rfl⟩ := List.mem_map.1 hy; rfl)]
    rfl
  · simp only [vref, gids, h]
    rw [List.flatMap_eq_nil_iff.2 fun y hy => List.flatMap_eq_nil_iff.2 fun c hc => ?_]
    obtain ⟨t, -, rfl⟩ := List.mem_map.1 hy
    simp [i32V, V.cells] at hc
    subst hc
    rfl
theorem giv_rows {σ : Sto} (k : Nat) : ∀ {L : List Fa} {ids : List Nat}, FVecs σ L ids → (L.zipWith erow ids).mapM (elemM (giv σ (k + 2))) = some (L.map ownFa) ∧ ((L.zipWith erow ids).flatMap fun x => x.cells.flatMap (gids σ (k + 2))) = ids
  | [], [], _ => ⟨rfl, rfl⟩
  | [], _ :: _, h => by simp [FVecs] at h
  | _ :: _, [], h => by simp [FVecs] at h
  | x :: L, i :: ids, h => by
    obtain ⟨h0, h1⟩ := FVecs.cons.1 h
    obtain ⟨g1, g2⟩ := giv_vec h0 k
    obtain ⟨r1, r2⟩ := giv_rows k h1
    constructor
    · rw [List.zipWith_cons_cons, List.mapM_cons, r1]
      simp only [erow, elemM, List.mapM_cons, List.mapM_nil, g1]
      rfl
    · rw [List.zipWith_cons_cons, List.flatMap_cons, r2]
      simp only [erow, V.cells, List.flatMap_cons, List.flatMap_nil, g2]
      rfl
theorem FChn.giv {σ : Sto} {m n : Nat} {v : V} {o : Option (List Fa)} (h : FChn σ m n v o) (k : Nat) : Go.Q.giv σ (k + 3) v = some (ownF o) ∧ (gids σ (k + 3) v).Nodup ∧ ∀ i ∈ gids σ (k + 3) v, m ≤ i ∧ i < n := by
  cases o with
  | none => simp only [FChn] at h; subst h; exact ⟨rfl, by simp [gids], by simp [gids]⟩
  | some L =>
    obtain ⟨id, ids, rfl, h1, h2, h3, h4⟩ := h
    obtain ⟨r1, r2⟩ := giv_rows k h4
    have hl := zip_len h4
    have e : gids σ (k + 3) (.ref id 0 L.length 5) = id :: ids := by
      simp only [gids, h1]
      rw [r2]
    refine ⟨?_, by rw [e]; exact h2, by rw [e]; exact h3⟩
    simp only [Go.Q.giv, h1, hl, and_self, if_true, r1]
    rfl
theorem frz_vec {σ : Sto} {x : Fa} {i : Nat} (hx : x.w.v = some (lst x.w.v)) (h : σ i = some (.row 1 ((lst x.w.v).map i32V))) (k : Nat) : Go.Q.frz σ (k + 2) (vref i x) = some (slV 1 i32V x.w.v) := by
  have := (Fz.ref (k := k + 1) (S := fun _ => True) h trivial (FzL.trees (fun y hy => by obtain ⟨t, -, rfl⟩ := List.mem_map.1 hy; rfl) (fun y hy c hc => by obtain ⟨t, -, rfl⟩ := List.mem_map.1 hy; simp [i32V, V.cells] at hc; subst hc; rfl))).1
  rw [List.length_map] at this
  rw [hx]
  exact this
theorem frz_rows {σ : Sto} (k : Nat) : ∀ {L : List Fa} {ids : List Nat}, FVecs σ L ids → AllS L → (L.zipWith erow ids).mapM (elemM (Go.Q.frz σ (k + 2))) = some (L.map faV)
  | [], [], _, _ => rfl
  | [], _ :: _, h, _ => by simp [FVecs] at h
  | _ :: _, [], h, _ => by simp [FVecs] at h
  | x :: L, i :: ids, h, ha => by
    obtain ⟨h0, h1⟩ := FVecs.cons.1 h
    have g1 := frz_vec (ha x (by simp)) h0 k
    have r1 := frz_rows k h1 (fun y hy => ha y (List.mem_cons_of_mem _ hy))
    rw [List.zipWith_cons_cons, List.mapM_cons, r1]
    simp only [erow, elemM, List.mapM_cons, List.mapM_nil, g1]
    rfl
theorem FChn.frz {σ : Sto} {m n : Nat} {v : V} {o : Option (List Fa)} (h : FChn σ m n v o) (ha : AllS (lst o)) (k : Nat) : Go.Q.frz σ (k + 3) v = some (slV 5 faV o) := by
  cases o with
  | none => simp only [FChn] at h; subst h; rfl
  | some L =>
    obtain ⟨id, ids, rfl, h1, h2, h3, h4⟩ := h
    rw [frz_rf, h1, elemsO_row, if_pos (by rw [zip_len h4]; omega), List.drop_zero]
    rw [show L.length = (L.zipWith erow ids).length from (zip_len h4).symm, List.take_length, Option.bind_some, frz_rows k h4 ha]
    rfl
theorem thaw_rows (σ : Sto) (m : Nat) : ∀ (L : List Fa) (σ0 : Sto) (n : Nat), m ≤ n → ∃ ids σ' n', thawL σ0 n (L.map ownFa) = (L.zipWith erow ids, σ', n') ∧ FVecs σ' L ids ∧ ids.Nodup ∧ (∀ i ∈ ids, n ≤ i ∧ i < n') ∧ n' = n + L.length ∧ ∀ i, i < n → σ' i = σ0 i
  | [], σ0, n, hm => ⟨[], σ0, n, rfl, ⟨rfl, fun j x i hx => by simp at hx⟩, by simp, by simp, rfl, fun _ _ => rfl⟩
  | x :: L, σ0, n, hm => by
    obtain ⟨ids, σ', n', h1, h2, h3, h4, h5, h6⟩ := thaw_rows σ m L (upd σ0 n (some (.row 1 ((lst x.w.v).map i32V)))) (n + 1) (by omega)
    refine ⟨n :: ids, σ', n', ?_, FVecs.cons.2 ⟨?_, h2⟩, List.nodup_cons.2 ⟨fun hn => by have := (h4 n hn).1; omega, h3⟩, ?_, by rw [h5, List.length_cons]; omega, fun i hi => ?_⟩
    · rw [List.map_cons, thawL_cons]
      have e : thaw σ0 n (ownFa x) = (erow x n, upd σ0 n (some (.row 1 ((lst x.w.v).map i32V))), n + 1) := by
        have hn : thawL σ0 n ((lst x.w.v).map i32V) = ((lst x.w.v).map i32V, σ0, n) := thawL_nw 1 (fun c hc => by obtain ⟨t, -, rfl⟩ := List.mem_map.1 hc; rfl)
        simp only [ownFa, vown, thaw_agg, thawL_cons, thawL_nil, thaw_int, thaw_bool, thaw_own, hn, erow, vref, List.length_map]
      rw [e, h1]
      rfl
    · rw [h6 n (by omega)]; simp [upd]
    · intro i hi
      rcases List.mem_cons.1 hi with rfl | hi
      · exact ⟨Nat.le_refl _, by omega⟩
      · have := h4 i hi; omega
    · rw [h6 i (by omega)]
      have : i ≠ n := by omega
      simp [upd, this]
theorem thaw_ownF (σ : Sto) (n : Nat) (o : Option (List Fa)) : ∃ v' σ' n', thaw σ n (ownF o) = (v', σ', n') ∧ FChn σ' n n' v' o ∧ n ≤ n' ∧ ∀ i, i < n → σ' i = σ i := by
  cases o with
  | none => exact ⟨_, _, _, rfl, rfl, Nat.le_refl _, fun _ _ => rfl⟩
  | some L =>
    obtain ⟨ids, σ', n', h1, h2, h3, h4, h5, h6⟩ := thaw_rows σ n L σ n (Nat.le_refl _)
    refine ⟨.ref n' 0 L.length 5, upd σ' n' (some (.row 5 (L.zipWith erow ids))), n' + 1, ?_, ⟨n', ids, rfl, by simp [upd], List.nodup_cons.2 ⟨fun hn => by have := (h4 n' hn).2; omega, h3⟩, ?_, h2.loc fun i hi => ?_⟩, by omega, fun i hi => ?_⟩
    · simp only [ownF, thaw_own, h1, List.length_map]
    · intro i hi
      rcases List.mem_cons.1 hi with rfl | hi
      · exact ⟨by omega, by omega⟩
      · have := h4 i hi; omega
    · have := h4 i hi
      have : i ≠ n' := by omega
      simp [upd, this]
    · have : i ≠ n' := by omega
      simp [upd, this, h6 i hi]
theorem thaw_ownFn (σ : Sto) (n : Nat) (o : Option (List Fa)) : (thaw σ n (ownF o)).2.2 ≤ n + (lst o).length + 1 := by
  cases o with
  | none => simp only [ownF, thaw_nilS]; omega
  | some L =>
    obtain ⟨ids, σ', n', h1, h2, h3, h4, h5, h6⟩ := thaw_rows σ n L σ n (Nat.le_refl _)
    simp only [ownF, thaw_own, h1, lst_some]
    omega
def FitO (o : Option (List Fa)) : Prop := (lst o).length * 56 ≤ LIM ∧ ∀ x ∈ lst o, (lst x.w.v).length * 4 ≤ LIM
theorem callE_thaw {f : Nat} {args : List V} {r : V} (hm : T.mode f ≠ .raw) (hr : res T f args = some r) (ht : args.all (Tr 12) = true) (fs : Bool) (σ : Sto) (n lk : Nat) :
    callE T fs f args σ n lk = some (thaw σ n r) := by
  rw [callE_eq hm]
  rw [List.all_eq_true] at ht
  rw [mapM_id (fun c hc => (frz_tr σ 12 c (ht c hc)).1), callR_some, hr, retE_some]
  have : args.flatMap (rch σ 12) = [] := List.flatMap_eq_nil_iff.2 fun c hc => (frz_tr σ 12 c (ht c hc)).2
  rw [this, backE_nil]
theorem r74 (l : List Int) (h : l.length * 4 ≤ LIM) : res T 74 [slV 1 i32V (some l)] = some (.own 1 (l.map i32V)) := by
  refine run_res (run_own (fn := g74) rfl rfl (by decide) ?_)
  simp only [g74, b74, oO, oN, mV, lD, gO, pP, qQ, cI, aR]
  have hl : (l.map i32V).length * 4 ≤ LIM := by simpa using h
  simp +contextual -implicitDefEqProofs (maxSteps := 2000000) only [↓wP, wQ, wQ1, wQ2, wQ3, wR, boxE, partsOf, ↓reduceIte, Nat.reduceEqDiff, Nat.reduceAdd, Nat.reduceSub, Nat.reduceLeDiff, Nat.reduceLT, Nat.reduceMul, reduceCtorEq, Int.reduceBNe, Int.reduceBEq, Int.reduceLT, Int.reduceLE, Int.reduceGT, slV_some, hl, true_or]
  have := giv_row (σ := upd (upd (upd Sto.empty 0 (some (.row 1 []))) 0 none) 1 (some (.row 1 (l.map i32V)))) (id := 1) (sz := 1) (xs := l.map i32V) (by simp [upd])
    (fun x hx => by obtain ⟨t, -, rfl⟩ := List.mem_map.1 hx; rfl) (fun x hx c hc => by obtain ⟨t, -, rfl⟩ := List.mem_map.1 hx; simp [i32V, V.cells] at hc; subst hc; rfl)
  simpa using this
theorem f74 (l : List Int) (h : l.length * 4 ≤ LIM) (fs : Bool) (σ : Sto) (n lk : Nat) : callE T fs 74 [slV 1 i32V (some l)] σ n lk = some (.ref n 0 l.length 1, upd σ n (some (.row 1 (l.map i32V))), n + 1) := by
  have := callE_own (by decide) (r74 l h) (by simp [Tr, Tr_slV]) (fun x hx => by obtain ⟨t, -, rfl⟩ := List.mem_map.1 hx; rfl) fs σ n lk
  rw [List.length_map] at this
  exact this
theorem r48 (L : List Fa) (h : L.length * 56 ≤ LIM) : res T 48 [slV 5 faV (some L)] = some (.own 5 (L.map faV)) := by
  refine run_res (run_own (fn := g48) rfl rfl (by decide) ?_)
  simp only [g48, b48, oO, oN, mV, lD, gO, pP, qQ, cI, aR]
  have hl : (L.map faV).length * 56 ≤ LIM := by simpa [lst] using h
  simp +contextual -implicitDefEqProofs (maxSteps := 2000000) only [↓wP, wQ, wQ1, wQ2, wQ3, wR, boxE, partsOf, ↓reduceIte, Nat.reduceEqDiff, Nat.reduceAdd, Nat.reduceSub, Nat.reduceLeDiff, Nat.reduceLT, Nat.reduceMul, reduceCtorEq, Int.reduceBNe, Int.reduceBEq, Int.reduceLT, Int.reduceLE, Int.reduceGT, slV_some, hl, true_or]
  have := giv_row (σ := upd (upd (upd Sto.empty 0 (some (.row 5 []))) 0 none) 1 (some (.row 5 (L.map faV)))) (id := 1) (sz := 5) (xs := L.map faV) (by simp [upd])
    (fun x hx => by obtain ⟨t, -, rfl⟩ := List.mem_map.1 hx; cases ht : t.w.v <;> simp [faV, elemM, giv, slV, ht])
    (fun x hx c hc => by
      obtain ⟨t, -, rfl⟩ := List.mem_map.1 hx
      simp only [faV, V.cells, List.mem_cons, List.not_mem_nil, or_false] at hc
      rcases hc with rfl | rfl | rfl | rfl | rfl
      · rfl
      · rfl
      · rfl
      · rfl
      · cases t.w.v <;> rfl)
  simpa using this
theorem f48 (L : List Fa) (h : L.length * 56 ≤ LIM) (fs : Bool) (σ : Sto) (n lk : Nat) : callE T fs 48 [slV 5 faV (some L)] σ n lk = some (.ref n 0 (L.map faV).length 5, upd σ n (some (.row 5 (L.map faV))), n + 1) :=
  callE_own (by decide) (r48 L h) (by simp [Tr, Tr_slV]) (fun x hx => by obtain ⟨t, -, rfl⟩ := List.mem_map.1 hx; simp [faV, Nw, Nw_slV]) fs σ n lk
theorem set_mid {α : Type} (A B : List α) (x y : α) (j : Nat) (h : A.length = j) : (A ++ x :: B).set j y = A ++ y :: B := by
  subst h
  simp
theorem r50 (L : List Fa) (h : FitO (some L)) (ha : AllS L) : res T 50 [slV 5 faV (some L)] = some (ownF (some L)) := by
  refine run_res (run_own (fn := g50) rfl rfl (by decide) ?_)
  simp only [g50, b50, oO, oN, mV, lD, gO, pP, qQ, cI, aR]
  have hl : L.length * 56 ≤ LIM := by simpa [lst] using h.1
  have h48 := f48 L hl
  simp +contextual -implicitDefEqProofs (maxSteps := 2000000) only [↓wP, wQ, wQ1, wQ2, wQ3, wR, boxE, partsOf, ↓reduceIte, Nat.reduceEqDiff, Nat.reduceAdd, Nat.reduceSub, Nat.reduceLeDiff, Nat.reduceLT, Nat.reduceMul, reduceCtorEq, Int.reduceBNe, Int.reduceBEq, Int.reduceLT, Int.reduceLE, Int.reduceGT, h48]
  refine WC_for (L.map faV).length 0 (fun (j : Nat) env σ n => env 3 = .ref 0 0 (L.map faV).length 5 ∧ ∃ ids, σ 0 = some (.row 5 ((L.take j).zipWith erow ids ++ (L.drop j).map faV)) ∧ (0 :: ids).Nodup ∧ (∀ i ∈ ids, 1 ≤ i ∧ i < n) ∧ 1 ≤ n ∧ FVecs σ (L.take j) ids)
    (by unfold LIM at hl; simp; omega) (by decide) (by decide) (fun _ _ => rfl) (fun _ _ _ => rfl) ?_ ?_ _ _ _ rfl rfl ?_
  · intro j env σ n hj h1 h2 ⟨h3, ids, h4, h5, h6, h7, h8⟩
    simp only [vl_tmp] at h2
    have hj' : j < L.length := by simpa using hj
    have hz : ((L.take j).zipWith erow ids).length = j := by rw [zip_len h8, List.length_take]; omega
    have hvs := ha L[j] (List.getElem_mem hj')
    have hx : ((L.take j).zipWith erow ids ++ (L.drop j).map faV)[j]? = some (.agg [.int .u64 L[j].ts, .int .i64 L[j].w.c, .int .u64 L[j].w.id, .bool L[j].w.g, slV 1 i32V (some (lst L[j].w.v))]) := by
      rw [List.getElem?_append_right (by omega), hz, Nat.sub_self, List.getElem?_map, List.getElem?_drop, Nat.add_zero, List.getElem?_eq_getElem hj']
      simp only [Option.map_some, faV]
      rw [← hvs]
    have h74 := f74 (lst L[j].w.v) (h.2 _ (by rw [lst_some]; exact List.getElem_mem hj'))
    have hn0 : (0 = n) = False := by simp; omega
    have hset : ((L.take j).zipWith erow ids ++ (L.drop j).map faV).set j (.agg [.int .u64 L[j].ts, .int .i64 L[j].w.c, .int .u64 L[j].w.id, .bool L[j].w.g, .ref n 0 (lst L[j].w.v).length 1]) = (L.take (j + 1)).zipWith erow (ids ++ [n]) ++ (L.drop (j + 1)).map faV := by
      rw [List.drop_eq_getElem_cons hj', List.map_cons, set_mid _ _ _ _ j hz, ← List.take_append_getElem hj', List.zipWith_append (by rw [h8.1]), List.append_assoc]
      rfl
    simp +contextual -implicitDefEqProofs (maxSteps := 2000000) only [↓wP, wQ, wQ1, wQ2, wQ3, wR, boxE, partsOf, ↓reduceIte, Nat.reduceEqDiff, Nat.reduceAdd, Nat.reduceSub, Nat.reduceLeDiff, Nat.reduceLT, Nat.reduceMul, reduceCtorEq, Int.reduceBNe, Int.reduceBEq, Int.reduceLT, Int.reduceLE, Int.reduceGT, h1, h2, h3, h4, hj, hx, h74, hn0, hset]
    refine ⟨ids ++ [n], rfl, ?_, ?_, ?_⟩
    · rw [← List.cons_append]
      refine List.nodup_append.2 ⟨h5, by simp, fun a ha' b hb => ?_⟩
      rw [List.mem_singleton.1 hb]
      rcases List.mem_cons.1 ha' with rfl | ha'
      · omega
      · have := (h6 a ha').2; omega
    · intro i hi
      rcases List.mem_append.1 hi with hi | hi
      · have := h6 i hi; omega
      · rw [List.mem_singleton.1 hi]; omega
    · rw [← List.take_append_getElem hj']
      refine FVecs.append (h8.loc fun i hi => ?_) ⟨rfl, fun k x i hx' hi => ?_⟩
      · have := h6 i hi
        have a1 : i ≠ 0 := by omega
        have a2 : i ≠ n := by omega
        simp only [upd_get, a1, a2, if_false]
      · cases k with
        | succ k => simp at hx'
        | zero =>
          simp at hx' hi
          subst hx'; subst hi
          have a1 : n ≠ 0 := by omega
          simp only [upd_get, a1, if_false, if_true]
  · intro env σ n ⟨h3, ids, h4, h5, h6, h7, h8⟩ h1 h2
    rw [List.length_map, List.drop_length, List.take_length, List.map_nil, List.append_nil] at h4
    rw [List.length_map, List.take_length] at h8
    simp +contextual -implicitDefEqProofs (maxSteps := 2000000) only [↓wP, wQ, wQ1, wQ2, wQ3, wR, boxE, partsOf, ↓reduceIte, Nat.reduceEqDiff, Nat.reduceAdd, Nat.reduceSub, Nat.reduceLeDiff, Nat.reduceLT, Nat.reduceMul, reduceCtorEq, Int.reduceBNe, Int.reduceBEq, Int.reduceLT, Int.reduceLE, Int.reduceGT, h3]
    have hc : FChn σ 0 n (.ref 0 0 L.length 5) (some L) := ⟨0, ids, rfl, h4, h5, fun i hi => by
      rcases List.mem_cons.1 hi with rfl | hi
      · omega
      · have := h6 i hi; omega, h8⟩
    have := hc.giv 9
    rw [List.length_map]
    exact ⟨this.1, this.2.1⟩
  · exact ⟨rfl, [], by simp [upd], by simp, by simp, by omega, by simp, fun j x i hx => by simp at hx⟩
theorem r48n : res T 48 [slV 5 faV none] = some .nilS := by
  refine run_res (run_own (fn := g48) rfl rfl (by decide) ?_)
  simp only [g48, b48, oO, oN, mV, lD, gO, pP, qQ, cI, aR]
  simp +contextual -implicitDefEqProofs (maxSteps := 2000000) only [↓wP, wQ, wQ1, wQ2, wQ3, wR, boxE, partsOf, ↓reduceIte, Nat.reduceEqDiff, Nat.reduceAdd, Nat.reduceSub, Nat.reduceLeDiff, Nat.reduceLT, Nat.reduceMul, reduceCtorEq, Int.reduceBNe, Int.reduceBEq, Int.reduceLT, Int.reduceLE, Int.reduceGT, slV_none, Option.isNone_none]
  exact ⟨rfl, by simp [gids]⟩
theorem f48n (fs : Bool) (σ : Sto) (n lk : Nat) : callE T fs 48 [slV 5 faV none] σ n lk = some (.nilS, σ, n) := callE_tr (by decide) r48n (by simp [Tr, Tr_slV]) rfl fs σ n lk
theorem r50n : res T 50 [slV 5 faV none] = some .nilS := by
  refine run_res (run_own (fn := g50) rfl rfl (by decide) ?_)
  simp only [g50, b50, oO, oN, mV, lD, gO, pP, qQ, cI, aR]
  simp +contextual -implicitDefEqProofs (maxSteps := 2000000) only [↓wP, wQ, wQ1, wQ2, wQ3, wR, boxE, partsOf, ↓reduceIte, Nat.reduceEqDiff, Nat.reduceAdd, Nat.reduceSub, Nat.reduceLeDiff, Nat.reduceLT, Nat.reduceMul, reduceCtorEq, Int.reduceBNe, Int.reduceBEq, Int.reduceLT, Int.reduceLE, Int.reduceGT, f48n]
  refine WC_for 0 0 (fun _ env σ n => env 3 = .nilS) (by omega) (by decide) (by decide) (fun _ _ => rfl) (fun _ _ _ => rfl) (fun j _ _ _ hj => absurd hj (by omega)) ?_ _ _ _ rfl rfl rfl
  intro env σ n h3 h1 h2
  simp +contextual -implicitDefEqProofs (maxSteps := 2000000) only [↓wP, wQ, wQ1, wQ2, wQ3, wR, boxE, partsOf, ↓reduceIte, Nat.reduceEqDiff, Nat.reduceAdd, Nat.reduceSub, Nat.reduceLeDiff, Nat.reduceLT, Nat.reduceMul, reduceCtorEq, Int.reduceBNe, Int.reduceBEq, Int.reduceLT, Int.reduceLE, Int.reduceGT, h3]
  exact ⟨rfl, by simp [gids]⟩
theorem FChn.append {σ : Sto} {m n0 lab i : Nat} {v : V} {o : Option (List Fa)} {y : Fa} (h : FChn σ m n0 v o) (hn : n0 ≤ lab) (hi : n0 ≤ i) (hi' : i < lab) (hmi : m ≤ i)
    (hv : σ i = some (.row 1 ((lst y.w.v).map i32V))) (hl : ((lst o).length + 1) * 56 ≤ LIM) :
    ∃ v' σ', appendE 5 56 0 v (some [erow y i]) σ lab = some (v', σ', lab + 1) ∧ v'.cells = [v'] ∧ v'.one = true ∧ (∀ σ2 : Sto, (∀ k, (m ≤ k ∧ k < n0) ∨ k = i ∨ k = lab → σ2 k = σ' k) → FChn σ2 m (lab + 1) v' (some (lst o ++ [y]))) ∧ ∀ k, k < lab → ¬ (m ≤ k ∧ k < n0) → σ' k = σ k := by
  cases o with
  | none =>
    simp only [FChn] at h
    subst h
    have h1 : (1 : Nat) * 56 ≤ LIM := by unfold LIM; omega
    rw [appendE_nil]
    simp only [List.isEmpty_cons, Bool.false_eq_true, if_false, List.length_cons, List.length_nil, Nat.zero_add, h1, if_true]
    refine ⟨_, _, rfl, rfl, rfl, fun σ2 hσ2 => ⟨lab, [i], rfl, by rw [hσ2 lab (.inr (.inr rfl))]; simp [upd, lst, erow], by simp; omega, ?_, ?_⟩, fun k hk _ => ?_⟩
    · intro k hk
      simp at hk
      omega
    · refine ⟨rfl, fun j x k hx hk => ?_⟩
      cases j with
      | succ j => simp [lst] at hx
      | zero =>
        simp [lst] at hx hk
        subst hx; subst hk
        have a1 : i ≠ lab := by omega
        rw [hσ2 i (.inr (.inl rfl))]
        simp only [upd_get, a1, if_false]
        exact hv
    · have a1 : k ≠ lab := by omega
      simp only [upd_get, a1, if_false]
  | some L =>
    obtain ⟨id, ids, rfl, h1, h2, h3, h4⟩ := h
    have hz := zip_len h4
    rw [lst_some] at hl
    have hid := h3 id (by simp)
    rw [appendE_ref, h1, appE_row', if_pos ⟨.inl hz.symm, Nat.zero_le _, by simpa using hl⟩, if_pos hz.symm]
    refine ⟨_, _, rfl, rfl, rfl, fun σ2 hσ2 => ⟨lab, ids ++ [i], by simp [lst], ?_, ?_, ?_, ?_⟩, fun k hk hk' => ?_⟩
    · rw [hσ2 lab (.inr (.inr rfl))]
      simp only [upd_get, if_true, lst_some]
      rw [List.zipWith_append (by rw [h4.1])]
      rfl
    · refine List.nodup_cons.2 ⟨fun hk => ?_, List.nodup_append.2 ⟨(List.nodup_cons.1 h2).2, by simp, fun a ha b hb => ?_⟩⟩
      · rcases List.mem_append.1 hk with hk | hk
        · have := h3 lab (List.mem_cons_of_mem _ hk); omega
        · simp at hk; omega
      · have := h3 a (List.mem_cons_of_mem _ ha)
        simp at hb
        omega
    · intro k hk
      rcases List.mem_cons.1 hk with rfl | hk
      · omega
      · rcases List.mem_append.1 hk with hk | hk
        · have := h3 k (List.mem_cons_of_mem _ hk); omega
        · simp at hk; omega
    · refine FVecs.append (h4.loc fun k hk => ?_) ⟨rfl, fun j x k hx hk => ?_⟩
      · have h5 := h3 k (List.mem_cons_of_mem _ hk)
        have a1 : k ≠ lab := by omega
        have a2 : k ≠ id := fun e => by subst e; exact (List.nodup_cons.1 h2).1 hk
        rw [hσ2 k (.inl ⟨h5.1, h5.2⟩)]
        simp only [upd_get, a1, a2, if_false]
      · cases j with
        | succ j => simp at hx
        | zero =>
          simp at hx hk
          subst hx; subst hk
          have a1 : i ≠ lab := by omega
          have a2 : i ≠ id := by omega
          rw [hσ2 i (.inr (.inl rfl))]
          simp only [upd_get, a1, a2, if_false]
          exact hv
    · have a1 : k ≠ lab := by omega
      have a2 : k ≠ id := by omega
      simp only [upd_get, a1, a2, if_false]
theorem giv_pair {σ : Sto} {m n : Nat} {v : V} {o : Option (List Fa)} (h : FChn σ m n v o) (e : Int) : giv σ 12 (.tup [v, .int .i64 e]) = some (.tup [ownF o, .int .i64 e]) ∧ (gids σ 12 (.tup [v, .int .i64 e])).Nodup := by
  have h1 := h.giv 8
  constructor
  · simp only [giv, List.mapM_cons, List.mapM_nil, h1.1]
    rfl
  · simp only [gids, List.flatMap_cons, List.flatMap_nil, List.append_nil]
    exact h1.2.1
theorem oL_snoc {α : Type} (l : List α) (x : α) : oL (l ++ [x]) = some (l ++ [x]) := by cases l <;> rfl
theorem r11 (o : Option (List Fa)) (hf : FitF (lst o)) : res T 11 [slV 5 faV o] = some (ownF (oL ((lst o).map cpF))) := by
  refine run_res (run_own (fn := g11) rfl rfl (by decide) ?_)
  simp only [g11, b11, oO, oN, mV, lD, gO, pP, qQ, cI, aR]
  simp +contextual -implicitDefEqProofs (maxSteps := 2000000) only [↓wP, wQ, wQ1, wQ2, wQ3, wR, boxE, partsOf, ↓reduceIte, Nat.reduceEqDiff, Nat.reduceAdd, Nat.reduceSub, Nat.reduceLeDiff, Nat.reduceLT, Nat.reduceMul, reduceCtorEq, Int.reduceBNe, Int.reduceBEq, Int.reduceLT, Int.reduceLE, Int.reduceGT]
  refine WC_for (lst o).length 0 (fun (j : Nat) env σ n => env 6 = slV 5 faV o ∧ FChn σ 0 n (env 3) (oL (((lst o).take j).map cpF)))
    (by have := hf.1; omega) (by decide) (by decide) (fun _ _ => rfl) (fun _ _ _ => rfl) ?_ ?_ _ _ _ rfl rfl ?_
  · intro j env σ n hj h1 h2 ⟨h3, h4⟩
    simp only [vl_tmp] at h2
    have hx : (lst o)[j]? = some (lst o)[j] := List.getElem?_eq_getElem hj
    generalize hv3 : env 3 = v3 at h4
    have hfit := hf.2 _ (List.getElem_mem hj)
    have hlim : ((lst (lst o)[j].w.v).map i32V).length * 4 ≤ LIM := by rw [List.length_map]; unfold LIM; omega
    have k1 : FChn (upd (upd (upd (upd (upd (upd (upd σ n (some (.row 5 [.agg [.int .u64 0, .int .i64 0, .int .u64 0, .bool false, .nilS]]))) n (some (.row 5 [.agg [.int .u64 (lst o)[j].ts, .int .i64 (lst o)[j].w.c, .int .u64 (lst o)[j].w.id, .bool (lst o)[j].w.g, slV 1 i32V (lst o)[j].w.v]]))) (n + 1) (some (.row 1 []))) (n + 1) none) (n + 2) (some (.row 1 ((lst (lst o)[j].w.v).map i32V)))) n (some (.row 5 [.agg [.int .u64 (lst o)[j].ts, .int .i64 (lst o)[j].w.c, .int .u64 (lst o)[j].w.id, .bool (lst o)[j].w.g, .ref (n + 2) 0 ((lst (lst o)[j].w.v).map i32V).length 1]])))
        (n + 3) (some (.row 5 [.agg [.int .u64 (lst o)[j].ts, .int .i64 (lst o)[j].w.c, .int .u64 (lst o)[j].w.id, .bool (lst o)[j].w.g, .ref (n + 2) 0 ((lst (lst o)[j].w.v).map i32V).length 1]]))) 0 n v3 (oL (((lst o).take j).map cpF)) := by
      refine h4.loc (fun i _ hi => ?_) (Nat.le_refl _) (Nat.le_refl _)
      have a1 : i ≠ n := by omega
      have a2 : i ≠ n + 1 := by omega
      have a3 : i ≠ n + 2 := by omega
      have a4 : i ≠ n + 3 := by omega
      simp only [upd_get, a1, a2, a3, a4, if_false]
    obtain ⟨v2, σ2, e1, e2, e3, e4, e5⟩ := k1.append (y := cpF (lst o)[j]) (lab := n + 4) (i := n + 2) (by omega) (by omega) (by omega) (by omega) (by
      have a1 : n + 2 ≠ n + 3 := by omega
      have a2 : n + 2 ≠ n := by omega
      simp only [upd_get, a1, a2, if_false, if_true]
      rfl) (by
      rw [lst_oL, List.length_map, List.length_take]
      have := hf.1
      unfold LIM
      omega)
    rw [show erow (cpF (lst o)[j]) (n + 2) = .agg [.int .u64 (lst o)[j].ts, .int .i64 (lst o)[j].w.c, .int .u64 (lst o)[j].w.id, .bool (lst o)[j].w.g, .ref (n + 2) 0 ((lst (lst o)[j].w.v).map i32V).length 1] from by rw [List.length_map]; rfl] at e1
    simp +contextual -implicitDefEqProofs (maxSteps := 2000000) only [↓wP, wQ, wQ1, wQ2, wQ3, wR, boxE, partsOf, ↓reduceIte, Nat.reduceEqDiff, Nat.reduceAdd, Nat.reduceSub, Nat.reduceLeDiff, Nat.reduceLT, Nat.reduceMul, reduceCtorEq, Int.reduceBNe, Int.reduceBEq, Int.reduceLT, Int.reduceLE, Int.reduceGT, h1, h2, h3, hv3, hx, faV_eq, hlim, true_or, e1]
    rw [← List.take_append_getElem hj, List.map_append, List.map_cons, List.map_nil, oL_snoc]
    have e6 := e4 σ2 (fun _ _ => rfl)
    rw [lst_oL] at e6
    exact e6
  · intro env σ n ⟨h3, h4⟩ h1 h2
    rw [List.take_length] at h4
    simp +contextual -implicitDefEqProofs (maxSteps := 2000000) only [↓wP, wQ, wQ1, wQ2, wQ3, wR, boxE, partsOf, ↓reduceIte, Nat.reduceEqDiff, Nat.reduceAdd, Nat.reduceSub, Nat.reduceLeDiff, Nat.reduceLT, Nat.reduceMul, reduceCtorEq, Int.reduceBNe, Int.reduceBEq, Int.reduceLT, Int.reduceLE, Int.reduceGT]
    have := h4.giv 9
    exact ⟨this.1, this.2.1⟩
  · exact ⟨rfl, rfl⟩
theorem all_cp (L : List Fa) : AllS (L.map cpF) := fun x hx => by
  obtain ⟨y, -, rfl⟩ := List.mem_map.1 hx
  rfl
theorem t11 (o : Option (List Fa)) (hf : FitF (lst o)) (fs : Bool) (σ : Sto) (n lk : Nat) : callE T fs 11 [slV 5 faV o] σ n lk = some (thaw σ n (ownF (oL ((lst o).map cpF)))) :=
  callE_thaw (by decide) (r11 o hf) (by simp [Tr, Tr_slV]) fs σ n lk
end Go.Q.S18
end
