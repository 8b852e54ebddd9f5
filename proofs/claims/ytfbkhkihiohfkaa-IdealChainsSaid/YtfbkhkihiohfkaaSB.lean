/- The partitions of a sort. -/
import Derived.Test.YtfbkhkihiohfkaaSA
import Derived.Test.YtfbkhkihiohfkaaProg
import Derived.KernelRfl
section
set_option linter.unusedSimpArgs false
set_option linter.unusedVariables false
namespace Go.Q.SB
open Go.Q Go.Sort
open Nat renaming reduceEqDiff → n1w, reduceAdd → n2w, reduceSub → n3w, reduceLeDiff → n4w, reduceLT → n5w, reduceMul → n6w
open Int renaming reduceBNe → i1w, reduceBEq → i2w, reduceLT → i3w, reduceLE → i4w, reduceGT → i5w
theorem su_go {p : Rw → Bool} {d : Array Rw} {i j : Nat} (h : i ≤ j) (hp : p d[i]! = true) : scanUp p d j (i + 1) = scanUp p d j i := by
  conv => rhs; rw [scanUp]
  rw [if_pos (by simp [h, hp])]
theorem su_stop {p : Rw → Bool} {d : Array Rw} {i j : Nat} (h : ¬ i ≤ j ∨ p d[i]! = false) : scanUp p d j i = i := by
  rw [scanUp]
  rcases h with h | h <;> simp [h]
theorem sd_go {p : Rw → Bool} {d : Array Rw} {i j : Nat} (h : i ≤ j + 1) (hp : p d[j + 1]! = true) : scanDown p d i j = scanDown p d i (j + 1) := by
  conv => rhs; rw [scanDown]
  rw [if_pos (by simp [h, hp])]
theorem sd_stop {p : Rw → Bool} {d : Array Rw} {i j : Nat} (h : ¬ i ≤ j ∨ p d[j]! = false) : scanDown p d i j = j := by
  cases j with
  | zero => rfl
  | succ j =>
    rw [scanDown]
    rcases h with h | h
    · simp [h]
    · simp [h]
theorem raw118 (F : Nat) (hF : CmpF F) (d : Array Rw) (a b p id n : Nat) (σ : Sto) (hap : a ≤ p) (hpb : p < b) (hb : b ≤ d.size) (hn : d.size < 1000000) (hσ : σ id = some (.row 2 (rw' d))) {Q : V → Sto → Nat → Prop}
    (hQ : ∀ σ', At σ' σ id (partitionEqual ahR d a b p).2 → Q (.int .i64 ((partitionEqual ahR d a b p).1 : Int)) σ' n) :
    run T (.raw 118 [.ref id 0 d.size 2, .int .i64 (a : Int), .int .i64 (b : Int), .int .i64 (p : Int), .fn F []] σ n 0) (memQ Q) := by
  refine run_rawE (fn := g118) rfl rfl ?_
  simp only [g118, b118, oO, oN, mV, lD, gO, pP, qQ, cI, aR]
  have w1 : IntKind.i64.wrap ((a : Int) + 1) = ((a + 1 : Nat) : Int) := by rw [wrap_i64] <;> omega
  have w2 : IntKind.i64.wrap ((b : Int) - 1) = ((b - 1 : Nat) : Int) := by rw [wrap_i64] <;> omega
  have y1 := rw_at (d := d) (i := a) (by omega)
  have y2 := rw_at (d := d) (i := p) (by omega)
  obtain ⟨u, v, y3⟩ := rw_set_at (d := d) (i := a) (j := p) (x := d[p]!) (by omega)
  have hat0 := (At.refl hσ).swp a p
  have hs0 : (swp d a p).size = d.size := swp_size _ _ _
  unfold partitionEqual at hQ
  generalize hsz : d.size = N at *
  have m1 : a < N := by omega
  have m2 : p < N := by omega
  simp +contextual -implicitDefEqProofs (maxSteps := 2000000) only [↓wP, wQ, wQ1, wQ2, wQ3, wR, boxE, partsOf, ↓reduceIte, n1w, n2w, n3w, n4w, n5w, n6w, reduceCtorEq, i1w, i2w, i3w, i4w, i5w, w1, w2, y1, y2, y3, m1, m2, hσ]
  generalize (upd (upd σ id (some (.row 2 ((rw' d).set a (.agg [.int .u64 (d[p]!).id, slV 1 i32V (d[p]!).v]))))) id
      (some (.row 2 (((rw' d).set a (.agg [.int .u64 (d[p]!).id, slV 1 i32V (d[p]!).v])).set p (.agg [.int .u64 (d[a]!).id, slV 1 i32V (d[a]!).v]))))) = σ0 at hat0
  generalize swp d a p = d0 at *
  refine WC_loopI 0 (fun (s : (Nat × Nat) × Array Rw) env σ' n' => n' = n ∧ env 0 = .ref id 0 N 2 ∧ env 1 = .int .i64 (a : Int) ∧ env 4 = .fn F [] ∧ env 11 = .int .i64 (s.1.1 : Int) ∧ env 12 = .int .i64 (s.1.2 : Int) ∧
      a < s.1.1 ∧ s.1.1 ≤ s.1.2 + 2 ∧ s.1.2 < b ∧ s.2.size = N ∧ At σ' σ id s.2 ∧ partEqLoop ahR a s.1.1 s.1.2 s.2 = partEqLoop ahR a (a + 1) (b - 1) d0) (fun s => s.1.2 + 1 - s.1.1) ?_ ((a + 1, b - 1), d0) _ _ _ ?_
  · intro ⟨⟨i, j⟩, e⟩ env σ1 n1 ⟨h1, h2, h3, h4, h5, h6, h7, h8, h9, h10, h11, h12⟩
    subst h1
    simp only at h5 h6 h7 h8 h9 h10 h11 h12
    have hat := h11.1
    have xa := rw_at (d := e) (i := a) (by omega)
    rw [partEqLoop_eq] at h12
    simp +contextual -implicitDefEqProofs (maxSteps := 2000000) only [↓wP, wQ, wQ1, wQ2, wQ3, wR, boxE, partsOf, ↓reduceIte, n1w, n2w, n3w, n4w, n5w, n6w, reduceCtorEq, i1w, i2w, i3w, i4w, i5w]
    refine WC_loopE 2 0 (fun (i' : Nat) env σ' n' => σ' = σ1 ∧ n' = n1 ∧ env 0 = .ref id 0 N 2 ∧ env 1 = .int .i64 (a : Int) ∧ env 4 = .fn F [] ∧ env 11 = .int .i64 (i' : Int) ∧ env 12 = .int .i64 (j : Int) ∧
        i ≤ i' ∧ i' ≤ j + 2 ∧ scanUp (fun x => !ahR e[a]! x) e j i' = scanUp (fun x => !ahR e[a]! x) e j i) (fun i' => j + 1 - i')
      (fun env σ' n' => σ' = σ1 ∧ n' = n1 ∧ env 0 = .ref id 0 N 2 ∧ env 1 = .int .i64 (a : Int) ∧ env 4 = .fn F [] ∧ env 11 = .int .i64 ((scanUp (fun x => !ahR e[a]! x) e j i : Nat) : Int) ∧ env 12 = .int .i64 (j : Int) ∧ scanUp (fun x => !ahR e[a]! x) e j i ≤ j + 2) ?_ ?_ i _ _ _ ?_
    · clear h2 h3 h4 h5 h6
      intro i' env σ2 n2 ⟨k1, k2, k3, k4, k5, k6, k7, k8, k9, k10⟩
      subst k1 k2
      by_cases hle : i' ≤ j
      · have hle' : (i' : Int) ≤ (j : Int) := by omega
        have wi : IntKind.i64.wrap ((i' : Int) + 1) = ((i' + 1 : Nat) : Int) := by rw [wrap_i64] <;> omega
        have x1 := rw_at (d := e) (i := i') (by omega)
        have l1 : i' < N := by omega
        by_cases hc : cmpU (e[a]!).id (e[i']!).id < 0
        · have hah : ahR e[a]! e[i']! = true := by rw [← cmp_lt]; simpa using hc
          have hst := su_stop (p := fun x => !ahR e[a]! x) (d := e) (i := i') (j := j) (.inr (by simp [hah]))
          rw [hst] at k10
          rw [← k10]
          simp +contextual -implicitDefEqProofs (maxSteps := 2000000) only [↓wP, wQ, wQ1, wQ2, wQ3, wR, boxE, partsOf, ↓reduceIte, n1w, n2w, n3w, n4w, n5w, n6w, reduceCtorEq, i1w, i2w, i3w, i4w, i5w, exQ_exit, k3, k4, k5, k6, k7, hle', hat, m1, l1, xa, x1, hF, hc]
          omega
        · have hah : ahR e[a]! e[i']! = false := by rw [← cmp_lt]; simpa using hc
          simp +contextual -implicitDefEqProofs (maxSteps := 2000000) only [↓wP, wQ, wQ1, wQ2, wQ3, wR, boxE, partsOf, ↓reduceIte, n1w, n2w, n3w, n4w, n5w, n6w, reduceCtorEq, i1w, i2w, i3w, i4w, i5w, exQ_exit, k3, k4, k5, k6, k7, hle', hat, m1, l1, xa, x1, hF, hc, wi]
          exact ⟨i' + 1, by omega, rfl, by omega, by omega, by rw [su_go hle (by simp [hah])]; exact k10⟩
      · have hle' : ¬ (i' : Int) ≤ (j : Int) := by omega
        have hst := su_stop (p := fun x => !ahR e[a]! x) (d := e) (i := i') (j := j) (.inl hle)
        rw [hst] at k10
        rw [← k10]
        simp +contextual -implicitDefEqProofs (maxSteps := 2000000) only [↓wP, wQ, wQ1, wQ2, wQ3, wR, boxE, partsOf, ↓reduceIte, n1w, n2w, n3w, n4w, n5w, n6w, reduceCtorEq, i1w, i2w, i3w, i4w, i5w, exQ_exit, k3, k4, k5, k6, k7, hle']
        omega
    · clear h2 h3 h4 h5 h6
      intro env σ2 n2 ⟨k1, k2, h2, h3, h4, h5, h6, k8⟩
      subst k1 k2
      have hge := scanUp_ge (fun x => !ahR e[a]! x) e j i
      generalize scanUp (fun x => !ahR e[a]! x) e j i = i2 at *
      simp +contextual -implicitDefEqProofs (maxSteps := 2000000) only [↓wP, wQ, wQ1, wQ2, wQ3, wR, boxE, partsOf, ↓reduceIte, n1w, n2w, n3w, n4w, n5w, n6w, reduceCtorEq, i1w, i2w, i3w, i4w, i5w]
      refine WC_loopE 4 0 (fun (j' : Nat) env σ' n' => σ' = σ2 ∧ n' = n2 ∧ env 0 = .ref id 0 N 2 ∧ env 1 = .int .i64 (a : Int) ∧ env 4 = .fn F [] ∧ env 11 = .int .i64 (i2 : Int) ∧ env 12 = .int .i64 (j' : Int) ∧
          j' ≤ j ∧ i2 ≤ j' + 2 ∧ scanDown (fun x => ahR e[a]! x) e i2 j' = scanDown (fun x => ahR e[a]! x) e i2 j) (fun j' => j')
        (fun env σ' n' => σ' = σ2 ∧ n' = n2 ∧ env 0 = .ref id 0 N 2 ∧ env 1 = .int .i64 (a : Int) ∧ env 4 = .fn F [] ∧ env 11 = .int .i64 (i2 : Int) ∧ env 12 = .int .i64 ((scanDown (fun x => ahR e[a]! x) e i2 j : Nat) : Int) ∧ i2 ≤ scanDown (fun x => ahR e[a]! x) e i2 j + 2) ?_ ?_ j _ _ _ ?_
      · clear h2 h3 h4 h5 h6
        intro j' env σ3 n3 ⟨k1, k2, k3, k4, k5, k6, k7, k8, k9, k10⟩
        subst k1 k2
        by_cases hle : i2 ≤ j'
        · have hle' : (i2 : Int) ≤ (j' : Int) := by omega
          obtain ⟨j', rfl⟩ : ∃ q, j' = q + 1 := ⟨j' - 1, by omega⟩
          have wi : IntKind.i64.wrap (((j' + 1 : Nat) : Int) - 1) = (j' : Int) := by rw [wrap_i64] <;> omega
          have x1 := rw_at (d := e) (i := j' + 1) (by omega)
          have l1 : j' + 1 < N := by omega
          by_cases hc : cmpU (e[a]!).id (e[j' + 1]!).id < 0
          · have hah : ahR e[a]! e[j' + 1]! = true := by rw [← cmp_lt]; simpa using hc
            simp +contextual -implicitDefEqProofs (maxSteps := 2000000) only [↓wP, wQ, wQ1, wQ2, wQ3, wR, boxE, partsOf, ↓reduceIte, n1w, n2w, n3w, n4w, n5w, n6w, reduceCtorEq, i1w, i2w, i3w, i4w, i5w, exQ_exit, k3, k4, k5, k6, k7, hle', hat, m1, l1, xa, x1, hF, hc, wi]
            exact ⟨j', by omega, rfl, by omega, by omega, by rw [sd_go hle hah]; exact k10⟩
          · have hah : ahR e[a]! e[j' + 1]! = false := by rw [← cmp_lt]; simpa using hc
            have hst := sd_stop (p := fun x => ahR e[a]! x) (d := e) (i := i2) (j := j' + 1) (.inr hah)
            rw [hst] at k10
            rw [← k10]
            simp +contextual -implicitDefEqProofs (maxSteps := 2000000) only [↓wP, wQ, wQ1, wQ2, wQ3, wR, boxE, partsOf, ↓reduceIte, n1w, n2w, n3w, n4w, n5w, n6w, reduceCtorEq, i1w, i2w, i3w, i4w, i5w, exQ_exit, k3, k4, k5, k6, k7, hle', hat, m1, l1, xa, x1, hF, hc]
            omega
        · have hle' : ¬ (i2 : Int) ≤ (j' : Int) := by omega
          have hst := sd_stop (p := fun x => ahR e[a]! x) (d := e) (i := i2) (j := j') (.inl hle)
          rw [hst] at k10
          rw [← k10]
          simp +contextual -implicitDefEqProofs (maxSteps := 2000000) only [↓wP, wQ, wQ1, wQ2, wQ3, wR, boxE, partsOf, ↓reduceIte, n1w, n2w, n3w, n4w, n5w, n6w, reduceCtorEq, i1w, i2w, i3w, i4w, i5w, exQ_exit, k3, k4, k5, k6, k7, hle']
          omega
      · clear h2 h3 h4 h5 h6
        intro env σ3 n3 ⟨k1, k2, h2, h3, h4, h5, h6, k9⟩
        subst k1 k2
        have hle := scanDown_le (fun x => ahR e[a]! x) e i2 j
        generalize scanDown (fun x => ahR e[a]! x) e i2 j = j2 at *
        by_cases hgt : j2 < i2
        · have hgt' : (j2 : Int) < (i2 : Int) := by omega
          rw [if_pos hgt] at h12
          simp +contextual -implicitDefEqProofs (maxSteps := 2000000) only [↓wP, wQ, wQ1, wQ2, wQ3, wR, boxE, partsOf, ↓reduceIte, n1w, n2w, n3w, n4w, n5w, n6w, reduceCtorEq, i1w, i2w, i3w, i4w, i5w, h2, h3, h4, h5, h6, hgt']
          have := hQ σ3
          rw [← h12] at this
          exact this h11
        · have hgt' : ¬ (j2 : Int) < (i2 : Int) := by omega
          rw [if_neg hgt] at h12
          have wi : IntKind.i64.wrap ((i2 : Int) + 1) = ((i2 + 1 : Nat) : Int) := by rw [wrap_i64] <;> omega
          have wj : IntKind.i64.wrap ((j2 : Int) - 1) = ((j2 - 1 : Nat) : Int) := by rw [wrap_i64] <;> omega
          have x1 := rw_at (d := e) (i := i2) (by omega)
          have x2 := rw_at (d := e) (i := j2) (by omega)
          obtain ⟨u, v, x3⟩ := rw_set_at (d := e) (i := i2) (j := j2) (x := e[j2]!) (by omega)
          have l1 : i2 < N := by omega
          have l2 : j2 < N := by omega
          simp +contextual -implicitDefEqProofs (maxSteps := 2000000) only [↓wP, wQ, wQ1, wQ2, wQ3, wR, boxE, partsOf, ↓reduceIte, n1w, n2w, n3w, n4w, n5w, n6w, reduceCtorEq, i1w, i2w, i3w, i4w, i5w, h2, h3, h4, h5, h6, hgt', wi, wj, x1, x2, x3, l1, l2, hat]
          refine ⟨((i2 + 1, j2 - 1), swp e i2 j2), by dsimp only; omega, rfl, rfl, by dsimp only; omega, by dsimp only; omega, by dsimp only; omega, by rw [swp_size, h10], h11.swp _ _, h12⟩
      · simp +contextual -implicitDefEqProofs (maxSteps := 2000000) only [↓wP, wQ, wQ1, wQ2, wQ3, wR, boxE, partsOf, ↓reduceIte, n1w, n2w, n3w, n4w, n5w, n6w, reduceCtorEq, i1w, i2w, i3w, i4w, i5w, h2, h3, h4, h5, h6]
        exact k8
    · simp +contextual -implicitDefEqProofs (maxSteps := 2000000) only [↓wP, wQ, wQ1, wQ2, wQ3, wR, boxE, partsOf, ↓reduceIte, n1w, n2w, n3w, n4w, n5w, n6w, reduceCtorEq, i1w, i2w, i3w, i4w, i5w, h2, h3, h4, h5, h6]
      exact h8
  · simp +contextual -implicitDefEqProofs (maxSteps := 2000000) only [↓wP, wQ, wQ1, wQ2, wQ3, wR, boxE, partsOf, ↓reduceIte, n1w, n2w, n3w, n4w, n5w, n6w, reduceCtorEq, i1w, i2w, i3w, i4w, i5w]
    exact ⟨by omega, by omega, by omega, hs0, hat0⟩
theorem raw119 (F : Nat) (hF : CmpF F) (d : Array Rw) (a b p id n : Nat) (σ : Sto) (hap : a ≤ p) (hpb : p < b) (hb : b ≤ d.size) (hn : d.size < 1000000) (hσ : σ id = some (.row 2 (rw' d))) {Q : V → Sto → Nat → Prop}
    (hQ : ∀ σ', At σ' σ id (partition ahR d a b p).2.2 → Q (.tup [.int .i64 ((partition ahR d a b p).1 : Int), .bool (partition ahR d a b p).2.1]) σ' n) :
    run T (.raw 119 [.ref id 0 d.size 2, .int .i64 (a : Int), .int .i64 (b : Int), .int .i64 (p : Int), .fn F []] σ n 0) (memQ Q) := by
  refine run_rawE (fn := g119) rfl rfl ?_
  simp only [g119, b119, oO, oN, mV, lD, gO, pP, qQ, cI, aR]
  have w1 : IntKind.i64.wrap ((a : Int) + 1) = ((a + 1 : Nat) : Int) := by rw [wrap_i64] <;> omega
  have w2 : IntKind.i64.wrap ((b : Int) - 1) = ((b - 1 : Nat) : Int) := by rw [wrap_i64] <;> omega
  have y1 := rw_at (d := d) (i := a) (by omega)
  have y2 := rw_at (d := d) (i := p) (by omega)
  obtain ⟨u, v, y3⟩ := rw_set_at (d := d) (i := a) (j := p) (x := d[p]!) (by omega)
  have h11 := (At.refl hσ).swp a p
  have h10 : (swp d a p).size = d.size := swp_size _ _ _
  unfold partition at hQ
  generalize hsz : d.size = N at *
  have m1 : a < N := by omega
  have m2 : p < N := by omega
  simp +contextual -implicitDefEqProofs (maxSteps := 2000000) only [↓wP, wQ, wQ1, wQ2, wQ3, wR, boxE, partsOf, ↓reduceIte, n1w, n2w, n3w, n4w, n5w, n6w, reduceCtorEq, i1w, i2w, i3w, i4w, i5w, w1, w2, y1, y2, y3, m1, m2, hσ]
  generalize (upd (upd σ id (some (.row 2 ((rw' d).set a (.agg [.int .u64 (d[p]!).id, slV 1 i32V (d[p]!).v]))))) id
      (some (.row 2 (((rw' d).set a (.agg [.int .u64 (d[p]!).id, slV 1 i32V (d[p]!).v])).set p (.agg [.int .u64 (d[a]!).id, slV 1 i32V (d[a]!).v]))))) = σ1 at h11
  generalize swp d a p = e at *
  simp only [gt_iff_lt] at hQ
  have hat := h11.1
  have xa := rw_at (d := e) (i := a) (by omega)
  obtain ⟨n1, hn1⟩ : ∃ n1, n1 = n := ⟨_, rfl⟩
  rw [← hn1] at hQ ⊢
  have h8 : a + 1 ≤ b - 1 + 2 := by omega
  have h2 : True := trivial
  have h3 : True := trivial
  have h4 : True := trivial
  have h5 : True := trivial
  have h6 : True := trivial
  refine WC_loopE 0 0 (fun (i' : Nat) env σ' n' => σ' = σ1 ∧ n' = n1 ∧ env 0 = .ref id 0 N 2 ∧ env 1 = .int .i64 (a : Int) ∧ env 4 = .fn F [] ∧ env 12 = .int .i64 (i' : Int) ∧ env 13 = .int .i64 ((b - 1 : Nat) : Int) ∧
      a + 1 ≤ i' ∧ i' ≤ b - 1 + 2 ∧ scanUp (fun x => ahR x e[a]!) e (b - 1) i' = scanUp (fun x => ahR x e[a]!) e (b - 1) (a + 1)) (fun i' => b - 1 + 1 - i')
    (fun env σ' n' => σ' = σ1 ∧ n' = n1 ∧ env 0 = .ref id 0 N 2 ∧ env 1 = .int .i64 (a : Int) ∧ env 4 = .fn F [] ∧ env 12 = .int .i64 ((scanUp (fun x => ahR x e[a]!) e (b - 1) (a + 1) : Nat) : Int) ∧ env 13 = .int .i64 ((b - 1 : Nat) : Int) ∧ scanUp (fun x => ahR x e[a]!) e (b - 1) (a + 1) ≤ b - 1 + 2) ?_ ?_ (a + 1) _ _ _ ?_
  · clear h2 h3 h4 h5 h6
    intro i' env σ2 n2 ⟨k1, k2, k3, k4, k5, k6, k7, k8, k9, k10⟩
    subst k1 k2
    by_cases hle : i' ≤ b - 1
    · have hle' : (i' : Int) ≤ ((b - 1 : Nat) : Int) := by omega
      have wi : IntKind.i64.wrap ((i' : Int) + 1) = ((i' + 1 : Nat) : Int) := by rw [wrap_i64] <;> omega
      have x1 := rw_at (d := e) (i := i') (by omega)
      have l1 : i' < N := by omega
      by_cases hc : cmpU (e[i']!).id (e[a]!).id < 0
      · have hah : ahR e[i']! e[a]! = true := by rw [← cmp_lt]; simpa using hc
        simp +contextual -implicitDefEqProofs (maxSteps := 2000000) only [↓wP, wQ, wQ1, wQ2, wQ3, wR, boxE, partsOf, ↓reduceIte, n1w, n2w, n3w, n4w, n5w, n6w, reduceCtorEq, i1w, i2w, i3w, i4w, i5w, exQ_exit, k3, k4, k5, k6, k7, hle', hat, m1, l1, xa, x1, hF, hc, wi]
        exact ⟨i' + 1, by omega, rfl, by omega, by omega, by rw [su_go hle (by simp [hah])]; exact k10⟩
      · have hah : ahR e[i']! e[a]! = false := by rw [← cmp_lt]; simpa using hc
        have hst := su_stop (p := (fun x => ahR x e[a]!)) (d := e) (i := i') (j := b - 1) (.inr (by simp [hah]))
        rw [hst] at k10
        rw [← k10]
        simp +contextual -implicitDefEqProofs (maxSteps := 2000000) only [↓wP, wQ, wQ1, wQ2, wQ3, wR, boxE, partsOf, ↓reduceIte, n1w, n2w, n3w, n4w, n5w, n6w, reduceCtorEq, i1w, i2w, i3w, i4w, i5w, exQ_exit, k3, k4, k5, k6, k7, hle', hat, m1, l1, xa, x1, hF, hc]
        omega
    · have hle' : ¬ (i' : Int) ≤ ((b - 1 : Nat) : Int) := by omega
      have hst := su_stop (p := (fun x => ahR x e[a]!)) (d := e) (i := i') (j := b - 1) (.inl hle)
      rw [hst] at k10
      rw [← k10]
      simp +contextual -implicitDefEqProofs (maxSteps := 2000000) only [↓wP, wQ, wQ1, wQ2, wQ3, wR, boxE, partsOf, ↓reduceIte, n1w, n2w, n3w, n4w, n5w, n6w, reduceCtorEq, i1w, i2w, i3w, i4w, i5w, exQ_exit, k3, k4, k5, k6, k7, hle']
      omega
  · clear h2 h3 h4 h5 h6
    intro env σ2 n2 ⟨k1, k2, h2, h3, h4, h5, h6, k8⟩
    subst k1 k2
    have hge := scanUp_ge (fun x => ahR x e[a]!) e (b - 1) (a + 1)
    generalize scanUp (fun x => ahR x e[a]!) e (b - 1) (a + 1) = i2 at *
    simp +contextual -implicitDefEqProofs (maxSteps := 2000000) only [↓wP, wQ, wQ1, wQ2, wQ3, wR, boxE, partsOf, ↓reduceIte, n1w, n2w, n3w, n4w, n5w, n6w, reduceCtorEq, i1w, i2w, i3w, i4w, i5w]
    refine WC_loopE 2 0 (fun (j' : Nat) env σ' n' => σ' = σ2 ∧ n' = n2 ∧ env 0 = .ref id 0 N 2 ∧ env 1 = .int .i64 (a : Int) ∧ env 4 = .fn F [] ∧ env 12 = .int .i64 (i2 : Int) ∧ env 13 = .int .i64 (j' : Int) ∧
        j' ≤ b - 1 ∧ i2 ≤ j' + 2 ∧ scanDown (fun x => !ahR x e[a]!) e i2 j' = scanDown (fun x => !ahR x e[a]!) e i2 (b - 1)) (fun j' => j')
      (fun env σ' n' => σ' = σ2 ∧ n' = n2 ∧ env 0 = .ref id 0 N 2 ∧ env 1 = .int .i64 (a : Int) ∧ env 4 = .fn F [] ∧ env 12 = .int .i64 (i2 : Int) ∧ env 13 = .int .i64 ((scanDown (fun x => !ahR x e[a]!) e i2 (b - 1) : Nat) : Int) ∧ i2 ≤ scanDown (fun x => !ahR x e[a]!) e i2 (b - 1) + 2) ?_ ?_ (b - 1) _ _ _ ?_
    · clear h2 h3 h4 h5 h6
      intro j' env σ3 n3 ⟨k1, k2, k3, k4, k5, k6, k7, k8, k9, k10⟩
      subst k1 k2
      by_cases hle : i2 ≤ j'
      · have hle' : (i2 : Int) ≤ (j' : Int) := by omega
        obtain ⟨j', rfl⟩ : ∃ q, j' = q + 1 := ⟨j' - 1, by omega⟩
        have wi : IntKind.i64.wrap (((j' + 1 : Nat) : Int) - 1) = (j' : Int) := by rw [wrap_i64] <;> omega
        have x1 := rw_at (d := e) (i := j' + 1) (by omega)
        have l1 : j' + 1 < N := by omega
        by_cases hc : cmpU (e[j' + 1]!).id (e[a]!).id < 0
        · have hah : ahR e[j' + 1]! e[a]! = true := by rw [← cmp_lt]; simpa using hc
          have hst := sd_stop (p := (fun x => !ahR x e[a]!)) (d := e) (i := i2) (j := j' + 1) (.inr (by simp [hah]))
          rw [hst] at k10
          rw [← k10]
          simp +contextual -implicitDefEqProofs (maxSteps := 2000000) only [↓wP, wQ, wQ1, wQ2, wQ3, wR, boxE, partsOf, ↓reduceIte, n1w, n2w, n3w, n4w, n5w, n6w, reduceCtorEq, i1w, i2w, i3w, i4w, i5w, exQ_exit, k3, k4, k5, k6, k7, hle', hat, m1, l1, xa, x1, hF, hc]
          omega
        · have hah : ahR e[j' + 1]! e[a]! = false := by rw [← cmp_lt]; simpa using hc
          simp +contextual -implicitDefEqProofs (maxSteps := 2000000) only [↓wP, wQ, wQ1, wQ2, wQ3, wR, boxE, partsOf, ↓reduceIte, n1w, n2w, n3w, n4w, n5w, n6w, reduceCtorEq, i1w, i2w, i3w, i4w, i5w, exQ_exit, k3, k4, k5, k6, k7, hle', hat, m1, l1, xa, x1, hF, hc, wi]
          exact ⟨j', by omega, rfl, by omega, by omega, by rw [sd_go hle (by simp [hah])]; exact k10⟩
      · have hle' : ¬ (i2 : Int) ≤ (j' : Int) := by omega
        have hst := sd_stop (p := (fun x => !ahR x e[a]!)) (d := e) (i := i2) (j := j') (.inl hle)
        rw [hst] at k10
        rw [← k10]
        simp +contextual -implicitDefEqProofs (maxSteps := 2000000) only [↓wP, wQ, wQ1, wQ2, wQ3, wR, boxE, partsOf, ↓reduceIte, n1w, n2w, n3w, n4w, n5w, n6w, reduceCtorEq, i1w, i2w, i3w, i4w, i5w, exQ_exit, k3, k4, k5, k6, k7, hle']
        omega
    · clear h2 h3 h4 h5 h6
      intro env σ3 n3 ⟨k1, k2, h2, h3, h4, h5, h6, k9⟩
      subst k1 k2
      have hle := scanDown_le (fun x => !ahR x e[a]!) e i2 (b - 1)
      generalize scanDown (fun x => !ahR x e[a]!) e i2 (b - 1) = j2 at *
      by_cases hgt : j2 < i2
      · have hgt' : (j2 : Int) < (i2 : Int) := by omega
        have x1 := rw_at (d := e) (i := j2) (by omega)
        have x2 := rw_at (d := e) (i := a) (by omega)
        obtain ⟨u, v, x3⟩ := rw_set_at (d := e) (i := j2) (j := a) (x := e[a]!) (by omega)
        have l1 : j2 < N := by omega
        have l2 : a < N := by omega
        simp +contextual -implicitDefEqProofs (maxSteps := 2000000) only [↓wP, wQ, wQ1, wQ2, wQ3, wR, boxE, partsOf, ↓reduceIte, n1w, n2w, n3w, n4w, n5w, n6w, reduceCtorEq, i1w, i2w, i3w, i4w, i5w, h2, h3, h4, h5, h6, hgt', x1, x2, x3, l1, l2, hat]
        rw [if_pos hgt] at hQ
        exact hQ _ (h11.swp _ _)
      · have hgt' : ¬ (j2 : Int) < (i2 : Int) := by omega
        rw [if_neg hgt] at hQ
        have wi : IntKind.i64.wrap ((i2 : Int) + 1) = ((i2 + 1 : Nat) : Int) := by rw [wrap_i64] <;> omega
        have wj : IntKind.i64.wrap ((j2 : Int) - 1) = ((j2 - 1 : Nat) : Int) := by rw [wrap_i64] <;> omega
        have x1 := rw_at (d := e) (i := i2) (by omega)
        have x2 := rw_at (d := e) (i := j2) (by omega)
        obtain ⟨u, v, x3⟩ := rw_set_at (d := e) (i := i2) (j := j2) (x := e[j2]!) (by omega)
        have l1 : i2 < N := by omega
        have l2 : j2 < N := by omega
        have hat1 := h11.swp i2 j2
        have hs1 : (swp e i2 j2).size = N := by rw [swp_size, h10]
        simp +contextual -implicitDefEqProofs (maxSteps := 2000000) only [↓wP, wQ, wQ1, wQ2, wQ3, wR, boxE, partsOf, ↓reduceIte, n1w, n2w, n3w, n4w, n5w, n6w, reduceCtorEq, i1w, i2w, i3w, i4w, i5w, h2, h3, h4, h5, h6, hgt', wi, wj, x1, x2, x3, l1, l2, hat]
        generalize (upd (upd σ3 id (some (.row 2 ((rw' e).set i2 (.agg [.int .u64 (e[j2]!).id, slV 1 i32V (e[j2]!).v]))))) id
            (some (.row 2 (((rw' e).set i2 (.agg [.int .u64 (e[j2]!).id, slV 1 i32V (e[j2]!).v])).set j2 (.agg [.int .u64 (e[i2]!).id, slV 1 i32V (e[i2]!).v]))))) = σ5 at hat1
        generalize swp e i2 j2 = d1 at *
        have hR : ∀ (j3 : Nat) (e : Array Rw), (j3, e) = partLoop ahR a (i2 + 1) (j2 - 1) d1 → e.size = N → j3 < b → ∀ σ', At σ' σ id (swp e j3 a) → Q (.tup [.int .i64 (j3 : Int), .bool false]) σ' n3 := by
          intro j3 e h1 _ _ σ' h4
          rw [← h1] at hQ
          exact hQ _ h4
        generalize i2 = i0 at *
        generalize j2 = j0 at *
        clear x1 x2 x3 l1 l2 k8 k9 h10 h11 hgt' wi wj
        refine WC_loopI 0 (fun (s : (Nat × Nat) × Array Rw) env σ' n' => n' = n3 ∧ env 0 = .ref id 0 N 2 ∧ env 1 = .int .i64 (a : Int) ∧ env 4 = .fn F [] ∧ env 12 = .int .i64 (s.1.1 : Int) ∧ env 13 = .int .i64 (s.1.2 : Int) ∧
            a < s.1.1 ∧ s.1.1 ≤ s.1.2 + 2 ∧ s.1.2 < b ∧ s.2.size = N ∧ At σ' σ id s.2 ∧ partLoop ahR a s.1.1 s.1.2 s.2 = partLoop ahR a (i0 + 1) (j0 - 1) d1) (fun s => s.1.2 + 1 - s.1.1) ?_ ((i0 + 1, j0 - 1), d1) _ _ _ ?_
        · clear hat xa
          intro ⟨⟨i, j⟩, e⟩ env σ1 n1 ⟨h1, h2, h3, h4, h5, h6, h7, h8, h9, h10, h11, h12⟩
          subst h1
          simp only at h5 h6 h7 h8 h9 h10 h11 h12
          have hat := h11.1
          have xa := rw_at (d := e) (i := a) (by omega)
          rw [partLoop_eq] at h12
          simp +contextual -implicitDefEqProofs (maxSteps := 2000000) only [↓wP, wQ, wQ1, wQ2, wQ3, wR, boxE, partsOf, ↓reduceIte, n1w, n2w, n3w, n4w, n5w, n6w, reduceCtorEq, i1w, i2w, i3w, i4w, i5w]
          refine WC_loopE 6 0 (fun (i' : Nat) env σ' n' => σ' = σ1 ∧ n' = n1 ∧ env 0 = .ref id 0 N 2 ∧ env 1 = .int .i64 (a : Int) ∧ env 4 = .fn F [] ∧ env 12 = .int .i64 (i' : Int) ∧ env 13 = .int .i64 ((j : Nat) : Int) ∧
              i ≤ i' ∧ i' ≤ j + 2 ∧ scanUp (fun x => ahR x e[a]!) e (j) i' = scanUp (fun x => ahR x e[a]!) e (j) (i)) (fun i' => j + 1 - i')
            (fun env σ' n' => σ' = σ1 ∧ n' = n1 ∧ env 0 = .ref id 0 N 2 ∧ env 1 = .int .i64 (a : Int) ∧ env 4 = .fn F [] ∧ env 12 = .int .i64 ((scanUp (fun x => ahR x e[a]!) e (j) (i) : Nat) : Int) ∧ env 13 = .int .i64 ((j : Nat) : Int) ∧ scanUp (fun x => ahR x e[a]!) e (j) (i) ≤ j + 2) ?_ ?_ (i) _ _ _ ?_
          · clear h2 h3 h4 h5 h6
            intro i' env σ2 n2 ⟨k1, k2, k3, k4, k5, k6, k7, k8, k9, k10⟩
            subst k1 k2
            by_cases hle : i' ≤ j
            · have hle' : (i' : Int) ≤ ((j : Nat) : Int) := by omega
              have wi : IntKind.i64.wrap ((i' : Int) + 1) = ((i' + 1 : Nat) : Int) := by rw [wrap_i64] <;> omega
              have x1 := rw_at (d := e) (i := i') (by omega)
              have l1 : i' < N := by omega
              by_cases hc : cmpU (e[i']!).id (e[a]!).id < 0
              · have hah : ahR e[i']! e[a]! = true := by rw [← cmp_lt]; simpa using hc
                simp +contextual -implicitDefEqProofs (maxSteps := 2000000) only [↓wP, wQ, wQ1, wQ2, wQ3, wR, boxE, partsOf, ↓reduceIte, n1w, n2w, n3w, n4w, n5w, n6w, reduceCtorEq, i1w, i2w, i3w, i4w, i5w, exQ_exit, k3, k4, k5, k6, k7, hle', hat, m1, l1, xa, x1, hF, hc, wi]
                exact ⟨i' + 1, by omega, rfl, by omega, by omega, by rw [su_go hle (by simp [hah])]; exact k10⟩
              · have hah : ahR e[i']! e[a]! = false := by rw [← cmp_lt]; simpa using hc
                have hst := su_stop (p := (fun x => ahR x e[a]!)) (d := e) (i := i') (j := j) (.inr (by simp [hah]))
                rw [hst] at k10
                rw [← k10]
                simp +contextual -implicitDefEqProofs (maxSteps := 2000000) only [↓wP, wQ, wQ1, wQ2, wQ3, wR, boxE, partsOf, ↓reduceIte, n1w, n2w, n3w, n4w, n5w, n6w, reduceCtorEq, i1w, i2w, i3w, i4w, i5w, exQ_exit, k3, k4, k5, k6, k7, hle', hat, m1, l1, xa, x1, hF, hc]
                omega
            · have hle' : ¬ (i' : Int) ≤ ((j : Nat) : Int) := by omega
              have hst := su_stop (p := (fun x => ahR x e[a]!)) (d := e) (i := i') (j := j) (.inl hle)
              rw [hst] at k10
              rw [← k10]
              simp +contextual -implicitDefEqProofs (maxSteps := 2000000) only [↓wP, wQ, wQ1, wQ2, wQ3, wR, boxE, partsOf, ↓reduceIte, n1w, n2w, n3w, n4w, n5w, n6w, reduceCtorEq, i1w, i2w, i3w, i4w, i5w, exQ_exit, k3, k4, k5, k6, k7, hle']
              omega
          · clear h2 h3 h4 h5 h6
            intro env σ2 n2 ⟨k1, k2, h2, h3, h4, h5, h6, k8⟩
            subst k1 k2
            have hge := scanUp_ge (fun x => ahR x e[a]!) e (j) (i)
            generalize scanUp (fun x => ahR x e[a]!) e (j) (i) = i2 at *
            simp +contextual -implicitDefEqProofs (maxSteps := 2000000) only [↓wP, wQ, wQ1, wQ2, wQ3, wR, boxE, partsOf, ↓reduceIte, n1w, n2w, n3w, n4w, n5w, n6w, reduceCtorEq, i1w, i2w, i3w, i4w, i5w]
            refine WC_loopE 8 0 (fun (j' : Nat) env σ' n' => σ' = σ2 ∧ n' = n2 ∧ env 0 = .ref id 0 N 2 ∧ env 1 = .int .i64 (a : Int) ∧ env 4 = .fn F [] ∧ env 12 = .int .i64 (i2 : Int) ∧ env 13 = .int .i64 (j' : Int) ∧
                j' ≤ j ∧ i2 ≤ j' + 2 ∧ scanDown (fun x => !ahR x e[a]!) e i2 j' = scanDown (fun x => !ahR x e[a]!) e i2 (j)) (fun j' => j')
              (fun env σ' n' => σ' = σ2 ∧ n' = n2 ∧ env 0 = .ref id 0 N 2 ∧ env 1 = .int .i64 (a : Int) ∧ env 4 = .fn F [] ∧ env 12 = .int .i64 (i2 : Int) ∧ env 13 = .int .i64 ((scanDown (fun x => !ahR x e[a]!) e i2 (j) : Nat) : Int) ∧ i2 ≤ scanDown (fun x => !ahR x e[a]!) e i2 (j) + 2) ?_ ?_ (j) _ _ _ ?_
            · clear h2 h3 h4 h5 h6
              intro j' env σ3 n3 ⟨k1, k2, k3, k4, k5, k6, k7, k8, k9, k10⟩
              subst k1 k2
              by_cases hle : i2 ≤ j'
              · have hle' : (i2 : Int) ≤ (j' : Int) := by omega
                obtain ⟨j', rfl⟩ : ∃ q, j' = q + 1 := ⟨j' - 1, by omega⟩
                have wi : IntKind.i64.wrap (((j' + 1 : Nat) : Int) - 1) = (j' : Int) := by rw [wrap_i64] <;> omega
                have x1 := rw_at (d := e) (i := j' + 1) (by omega)
                have l1 : j' + 1 < N := by omega
                by_cases hc : cmpU (e[j' + 1]!).id (e[a]!).id < 0
                · have hah : ahR e[j' + 1]! e[a]! = true := by rw [← cmp_lt]; simpa using hc
                  have hst := sd_stop (p := (fun x => !ahR x e[a]!)) (d := e) (i := i2) (j := j' + 1) (.inr (by simp [hah]))
                  rw [hst] at k10
                  rw [← k10]
                  simp +contextual -implicitDefEqProofs (maxSteps := 2000000) only [↓wP, wQ, wQ1, wQ2, wQ3, wR, boxE, partsOf, ↓reduceIte, n1w, n2w, n3w, n4w, n5w, n6w, reduceCtorEq, i1w, i2w, i3w, i4w, i5w, exQ_exit, k3, k4, k5, k6, k7, hle', hat, m1, l1, xa, x1, hF, hc]
                  omega
                · have hah : ahR e[j' + 1]! e[a]! = false := by rw [← cmp_lt]; simpa using hc
                  simp +contextual -implicitDefEqProofs (maxSteps := 2000000) only [↓wP, wQ, wQ1, wQ2, wQ3, wR, boxE, partsOf, ↓reduceIte, n1w, n2w, n3w, n4w, n5w, n6w, reduceCtorEq, i1w, i2w, i3w, i4w, i5w, exQ_exit, k3, k4, k5, k6, k7, hle', hat, m1, l1, xa, x1, hF, hc, wi]
                  exact ⟨j', by omega, rfl, by omega, by omega, by rw [sd_go hle (by simp [hah])]; exact k10⟩
              · have hle' : ¬ (i2 : Int) ≤ (j' : Int) := by omega
                have hst := sd_stop (p := (fun x => !ahR x e[a]!)) (d := e) (i := i2) (j := j') (.inl hle)
                rw [hst] at k10
                rw [← k10]
                simp +contextual -implicitDefEqProofs (maxSteps := 2000000) only [↓wP, wQ, wQ1, wQ2, wQ3, wR, boxE, partsOf, ↓reduceIte, n1w, n2w, n3w, n4w, n5w, n6w, reduceCtorEq, i1w, i2w, i3w, i4w, i5w, exQ_exit, k3, k4, k5, k6, k7, hle']
                omega
            · clear h2 h3 h4 h5 h6
              intro env σ3 n3 ⟨k1, k2, h2, h3, h4, h5, h6, k9⟩
              subst k1 k2
              have hle := scanDown_le (fun x => !ahR x e[a]!) e i2 (j)
              generalize scanDown (fun x => !ahR x e[a]!) e i2 (j) = j2 at *
              by_cases hgt : j2 < i2
              · have hgt' : (j2 : Int) < (i2 : Int) := by omega
                rw [if_pos hgt] at h12
                have x1 := rw_at (d := e) (i := j2) (by omega)
                have x2 := rw_at (d := e) (i := a) (by omega)
                obtain ⟨u, v, x3⟩ := rw_set_at (d := e) (i := j2) (j := a) (x := e[a]!) (by omega)
                have l1 : j2 < N := by omega
                have l2 : a < N := by omega
                simp +contextual -implicitDefEqProofs (maxSteps := 2000000) only [↓wP, wQ, wQ1, wQ2, wQ3, wR, boxE, partsOf, ↓reduceIte, n1w, n2w, n3w, n4w, n5w, n6w, reduceCtorEq, i1w, i2w, i3w, i4w, i5w, h2, h3, h4, h5, h6, hgt', x1, x2, x3, l1, l2, hat]
                have := hR j2 e h12 h10 (by omega)
                exact this _ (h11.swp _ _)
              · have hgt' : ¬ (j2 : Int) < (i2 : Int) := by omega
                rw [if_neg hgt] at h12
                have wi : IntKind.i64.wrap ((i2 : Int) + 1) = ((i2 + 1 : Nat) : Int) := by rw [wrap_i64] <;> omega
                have wj : IntKind.i64.wrap ((j2 : Int) - 1) = ((j2 - 1 : Nat) : Int) := by rw [wrap_i64] <;> omega
                have x1 := rw_at (d := e) (i := i2) (by omega)
                have x2 := rw_at (d := e) (i := j2) (by omega)
                obtain ⟨u, v, x3⟩ := rw_set_at (d := e) (i := i2) (j := j2) (x := e[j2]!) (by omega)
                have l1 : i2 < N := by omega
                have l2 : j2 < N := by omega
                simp +contextual -implicitDefEqProofs (maxSteps := 2000000) only [↓wP, wQ, wQ1, wQ2, wQ3, wR, boxE, partsOf, ↓reduceIte, n1w, n2w, n3w, n4w, n5w, n6w, reduceCtorEq, i1w, i2w, i3w, i4w, i5w, h2, h3, h4, h5, h6, hgt', wi, wj, x1, x2, x3, l1, l2, hat]
                refine ⟨((i2 + 1, j2 - 1), swp e i2 j2), by dsimp only; omega, rfl, rfl, by dsimp only; omega, by dsimp only; omega, by dsimp only; omega, by rw [swp_size, h10], h11.swp _ _, h12⟩
            · simp +contextual -implicitDefEqProofs (maxSteps := 2000000) only [↓wP, wQ, wQ1, wQ2, wQ3, wR, boxE, partsOf, ↓reduceIte, n1w, n2w, n3w, n4w, n5w, n6w, reduceCtorEq, i1w, i2w, i3w, i4w, i5w, h2, h3, h4, h5, h6]
              exact k8
          · simp +contextual -implicitDefEqProofs (maxSteps := 2000000) only [↓wP, wQ, wQ1, wQ2, wQ3, wR, boxE, partsOf, ↓reduceIte, n1w, n2w, n3w, n4w, n5w, n6w, reduceCtorEq, i1w, i2w, i3w, i4w, i5w, h2, h3, h4, h5, h6]
            omega
        · simp +contextual -implicitDefEqProofs (maxSteps := 2000000) only [↓wP, wQ, wQ1, wQ2, wQ3, wR, boxE, partsOf, ↓reduceIte, n1w, n2w, n3w, n4w, n5w, n6w, reduceCtorEq, i1w, i2w, i3w, i4w, i5w, h2, h3, h4, h5, h6]
          exact ⟨by omega, by omega, by omega, hs1, hat1⟩
    · simp +contextual -implicitDefEqProofs (maxSteps := 2000000) only [↓wP, wQ, wQ1, wQ2, wQ3, wR, boxE, partsOf, ↓reduceIte, n1w, n2w, n3w, n4w, n5w, n6w, reduceCtorEq, i1w, i2w, i3w, i4w, i5w, h2, h3, h4, h5, h6]
      exact k8
  · simp +contextual -implicitDefEqProofs (maxSteps := 2000000) only [↓wP, wQ, wQ1, wQ2, wQ3, wR, boxE, partsOf, ↓reduceIte, n1w, n2w, n3w, n4w, n5w, n6w, reduceCtorEq, i1w, i2w, i3w, i4w, i5w, h2, h3, h4, h5, h6]
    omega
end Go.Q.SB
end

section
/- Heaps; parts that are nearly in order. -/
set_option linter.unusedSimpArgs false
set_option linter.unusedVariables false
namespace Go.Q.SB
open Go.Q Go.Sort
open Nat renaming reduceEqDiff → n1w, reduceAdd → n2w, reduceSub → n3w, reduceLeDiff → n4w, reduceLT → n5w, reduceMul → n6w
open Int renaming reduceBNe → i1w, reduceBEq → i2w, reduceLT → i3w, reduceLE → i4w, reduceGT → i5w
theorem bin_quo2 (m : Nat) (h : m < 9223372036854775808) : binV .quo (.int .i64 (m : Int)) (.int .i64 2) = some (.int .i64 ((m / 2 : Nat) : Int)) := by
  rw [bin_quo .i64 (m : Int) 2 (by decide)]
  have e : (m : Int).tdiv 2 = ((m / 2 : Nat) : Int) := rfl
  rw [e, wrap_nat (by omega)]
theorem raw123 (F : Nat) (hF : CmpF F) (d : Array Rw) (N lo hi first id n : Nat) (σ : Sto) (hN : d.size = N) (hb : first + hi ≤ N) (hlo : lo ≤ N) (hn : N < 1000000) (hσ : σ id = some (.row 2 (rw' d))) {Q : V → Sto → Nat → Prop}
    (hQ : ∀ σ', At σ' σ id (siftDown ahR hi first lo d) → Q .undef σ' n) :
    run T (.raw 123 [.ref id 0 N 2, .int .i64 (lo : Int), .int .i64 (hi : Int), .int .i64 (first : Int), .fn F []] σ n 0) (memQ Q) := by
  refine run_rawE (fn := g123) rfl rfl ?_
  simp only [g123, b123, oO, oN, mV, lD, gO, pP, qQ, cI, aR]
  simp +contextual -implicitDefEqProofs (maxSteps := 2000000) only [↓wP, wQ, wQ1, wQ2, wQ3, wR, boxE, partsOf, ↓reduceIte, n1w, n2w, n3w, n4w, n5w, n6w, reduceCtorEq, i1w, i2w, i3w, i4w, i5w]
  refine WC_loopI 0 (fun (s : Nat × Array Rw) env σ' n' => n' = n ∧ env 0 = .ref id 0 N 2 ∧ env 2 = .int .i64 (hi : Int) ∧ env 3 = .int .i64 (first : Int) ∧ env 4 = .fn F [] ∧ env 10 = .int .i64 (s.1 : Int) ∧
      s.1 ≤ N ∧ s.2.size = N ∧ At σ' σ id s.2 ∧ siftDown ahR hi first s.1 s.2 = siftDown ahR hi first lo d) (fun s => hi - s.1) ?_ (lo, d) _ _ _ ?_
  · intro ⟨r, e⟩ env σ1 n1 ⟨h1, h2, h3, h4, h5, h6, h7, h8, h9, h10⟩
    subst h1
    dsimp only at h6 h7 h8 h9 h10
    obtain ⟨t, ht⟩ : ∃ t, t = 2 * r := ⟨_, rfl⟩
    obtain ⟨c1, hc1⟩ : ∃ c1, c1 = 2 * r + 1 := ⟨_, rfl⟩
    obtain ⟨c2, hc2⟩ : ∃ c2, c2 = 2 * r + 2 := ⟨_, rfl⟩
    have w0 : IntKind.i64.wrap (2 * (r : Int)) = (t : Int) := by rw [wrap_i64] <;> omega
    have w1 : IntKind.i64.wrap ((t : Int) + 1) = (c1 : Int) := by rw [wrap_i64] <;> omega
    have w2 : IntKind.i64.wrap ((c1 : Int) + 1) = (c2 : Int) := by rw [wrap_i64] <;> omega
    rw [siftDown, show 2 * r + 1 + 1 = c2 by omega, show 2 * r + 1 = c1 by omega] at h10
    by_cases hc : hi ≤ c1
    · have hc' : (hi : Int) ≤ (c1 : Int) := by omega
      rw [dif_pos hc] at h10
      simp +contextual -implicitDefEqProofs (maxSteps := 2000000) only [↓wP, wQ, wQ1, wQ2, wQ3, wR, boxE, partsOf, ↓reduceIte, n1w, n2w, n3w, n4w, n5w, n6w, reduceCtorEq, i1w, i2w, i3w, i4w, i5w, h2, h3, h4, h5, h6, w0, w1, hc']
      refine hQ _ ?_
      rw [← h10]
      exact h9
    have hc' : ¬ (hi : Int) ≤ (c1 : Int) := by omega
    rw [dif_neg hc] at h10
    obtain ⟨p, hp⟩ : ∃ p, p = first + r := ⟨_, rfl⟩
    obtain ⟨p1, hp1⟩ : ∃ p1, p1 = first + c1 := ⟨_, rfl⟩
    obtain ⟨p2, hp2⟩ : ∃ p2, p2 = first + c2 := ⟨_, rfl⟩
    have w3 : IntKind.i64.wrap ((first : Int) + (r : Int)) = (p : Int) := by rw [wrap_i64] <;> omega
    have w4 : IntKind.i64.wrap ((first : Int) + (c1 : Int)) = (p1 : Int) := by rw [wrap_i64] <;> omega
    have w5 : IntKind.i64.wrap ((first : Int) + (c2 : Int)) = (p2 : Int) := by rw [wrap_i64] <;> omega
    have w6 : IntKind.i64.wrap ((p1 : Int) + 1) = (p2 : Int) := by rw [wrap_i64] <;> omega
    have l0 : p < N := by omega
    have l1 : p1 < N := by omega
    have x0 := rw_at (d := e) (i := p) (by omega)
    have x1 := rw_at (d := e) (i := p1) (by omega)
    have hat := h9.1
    rw [← hp, ← hp1, ← hp2, show p1 + 1 = p2 by omega] at h10
    obtain ⟨u1, v1, y1⟩ := rw_set_at (d := e) (i := p) (j := p1) (x := e[p1]!) (by omega)
    by_cases hs : c2 < hi
    · have hs' : (c2 : Int) < (hi : Int) := by omega
      have l2 : p2 < N := by omega
      have x2 := rw_at (d := e) (i := p2) (by omega)
      obtain ⟨u2, v2, y2⟩ := rw_set_at (d := e) (i := p) (j := p2) (x := e[p2]!) (by omega)
      by_cases k1 : cmpU (e[p1]!).id (e[p2]!).id < 0
      · have a1 : ahR e[p1]! e[p2]! = true := by rw [← cmp_lt]; simpa using k1
        rw [if_pos (by simp [hs, a1])] at h10
        by_cases k2 : cmpU (e[p]!).id (e[p2]!).id < 0
        · have a2 : ahR e[p]! e[p2]! = true := by rw [← cmp_lt]; simpa using k2
          rw [if_neg (by simp [a2]), dif_pos hs] at h10
          simp +contextual -implicitDefEqProofs (maxSteps := 2000000) only [↓wP, wQ, wQ1, wQ2, wQ3, wR, boxE, partsOf, ↓reduceIte, n1w, n2w, n3w, n4w, n5w, n6w, reduceCtorEq, i1w, i2w, i3w, i4w, i5w, h2, h3, h4, h5, h6, w0, w1, w2, w3, w4, w5, w6, hc', hs', hat, l0, l1, l2, x0, x1, x2, y2, hF, k1, k2]
          exact ⟨(c2, swp e p p2), by dsimp only; omega, rfl, by dsimp only; omega, by rw [swp_size, h8], h9.swp _ _, h10⟩
        · have a2 : ahR e[p]! e[p2]! = false := by rw [← cmp_lt]; simpa using k2
          rw [if_pos (by simp [a2])] at h10
          simp +contextual -implicitDefEqProofs (maxSteps := 2000000) only [↓wP, wQ, wQ1, wQ2, wQ3, wR, boxE, partsOf, ↓reduceIte, n1w, n2w, n3w, n4w, n5w, n6w, reduceCtorEq, i1w, i2w, i3w, i4w, i5w, h2, h3, h4, h5, h6, w0, w1, w2, w3, w4, w5, w6, hc', hs', hat, l0, l1, l2, x0, x1, x2, hF, k1, k2]
          refine hQ _ ?_
          rw [← h10]
          exact h9
      · have a1 : ahR e[p1]! e[p2]! = false := by rw [← cmp_lt]; simpa using k1
        rw [if_neg (by simp [a1])] at h10
        by_cases k2 : cmpU (e[p]!).id (e[p1]!).id < 0
        · have a2 : ahR e[p]! e[p1]! = true := by rw [← cmp_lt]; simpa using k2
          rw [if_neg (by simp [a2])] at h10
          simp +contextual -implicitDefEqProofs (maxSteps := 2000000) only [↓wP, wQ, wQ1, wQ2, wQ3, wR, boxE, partsOf, ↓reduceIte, n1w, n2w, n3w, n4w, n5w, n6w, reduceCtorEq, i1w, i2w, i3w, i4w, i5w, h2, h3, h4, h5, h6, w0, w1, w2, w3, w4, w5, w6, hc', hs', hat, l0, l1, l2, x0, x1, x2, y1, hF, k1, k2]
          exact ⟨(c1, swp e p p1), by dsimp only; omega, rfl, by dsimp only; omega, by rw [swp_size, h8], h9.swp _ _, h10⟩
        · have a2 : ahR e[p]! e[p1]! = false := by rw [← cmp_lt]; simpa using k2
          rw [if_pos (by simp [a2])] at h10
          simp +contextual -implicitDefEqProofs (maxSteps := 2000000) only [↓wP, wQ, wQ1, wQ2, wQ3, wR, boxE, partsOf, ↓reduceIte, n1w, n2w, n3w, n4w, n5w, n6w, reduceCtorEq, i1w, i2w, i3w, i4w, i5w, h2, h3, h4, h5, h6, w0, w1, w2, w3, w4, w5, w6, hc', hs', hat, l0, l1, l2, x0, x1, x2, hF, k1, k2]
          refine hQ _ ?_
          rw [← h10]
          exact h9
    · have hs' : ¬ (c2 : Int) < (hi : Int) := by omega
      rw [if_neg (by simp [hs])] at h10
      by_cases k2 : cmpU (e[p]!).id (e[p1]!).id < 0
      · have a2 : ahR e[p]! e[p1]! = true := by rw [← cmp_lt]; simpa using k2
        rw [if_neg (by simp [a2])] at h10
        simp +contextual -implicitDefEqProofs (maxSteps := 2000000) only [↓wP, wQ, wQ1, wQ2, wQ3, wR, boxE, partsOf, ↓reduceIte, n1w, n2w, n3w, n4w, n5w, n6w, reduceCtorEq, i1w, i2w, i3w, i4w, i5w, h2, h3, h4, h5, h6, w0, w1, w2, w3, w4, w5, w6, hc', hs', hat, l0, l1, x0, x1, y1, hF, k2]
        exact ⟨(c1, swp e p p1), by dsimp only; omega, rfl, by dsimp only; omega, by rw [swp_size, h8], h9.swp _ _, h10⟩
      · have a2 : ahR e[p]! e[p1]! = false := by rw [← cmp_lt]; simpa using k2
        rw [if_pos (by simp [a2])] at h10
        simp +contextual -implicitDefEqProofs (maxSteps := 2000000) only [↓wP, wQ, wQ1, wQ2, wQ3, wR, boxE, partsOf, ↓reduceIte, n1w, n2w, n3w, n4w, n5w, n6w, reduceCtorEq, i1w, i2w, i3w, i4w, i5w, h2, h3, h4, h5, h6, w0, w1, w2, w3, w4, w5, w6, hc', hs', hat, l0, l1, x0, x1, hF, k2]
        refine hQ _ ?_
        rw [← h10]
        exact h9
  · simp +contextual -implicitDefEqProofs (maxSteps := 2000000) only [↓wP, wQ, wQ1, wQ2, wQ3, wR, boxE, partsOf, ↓reduceIte, n1w, n2w, n3w, n4w, n5w, n6w, reduceCtorEq, i1w, i2w, i3w, i4w, i5w]
    exact ⟨hlo, hN, At.refl hσ⟩
theorem At.trans {σ σ1 σ2 : Sto} {id : Nat} {d e : Array Rw} (h : At σ2 σ1 id e) (h' : At σ1 σ id d) : At σ2 σ id e := ⟨h.1, fun i hi => (h.2 i hi).trans (h'.2 i hi)⟩
theorem sift_size (hi first root : Nat) (d : Array Rw) : (siftDown ahR hi first root d).size = d.size := by
  have key : ∀ (k root : Nat) (d : Array Rw), hi - root ≤ k → (siftDown ahR hi first root d).size = d.size := by
    intro k
    induction k with
    | zero =>
      intro root d hk
      rw [siftDown]
      rw [dif_pos (by omega)]
    | succ k ih =>
      intro root d hk
      rw [siftDown]
      split
      · rfl
      · split
        · split
          · rfl
          · split
            · rw [ih _ _ (by omega), swp_size]
            · rfl
        · split
          · rfl
          · rw [ih _ _ (by omega), swp_size]
  exact key _ root d (Nat.le_refl _)
theorem raw113 (F : Nat) (hF : CmpF F) (d : Array Rw) (N a b id n : Nat) (σ : Sto) (hN : d.size = N) (hab : a < b) (hb : b ≤ N) (hn : N < 1000000) (hσ : σ id = some (.row 2 (rw' d))) {Q : V → Sto → Nat → Prop}
    (hQ : ∀ σ', At σ' σ id (heapSort ahR d a b) → Q .undef σ' n) :
    run T (.raw 113 [.ref id 0 N 2, .int .i64 (a : Int), .int .i64 (b : Int), .fn F []] σ n 0) (memQ Q) := by
  refine run_rawE (fn := g113) rfl rfl ?_
  simp only [g113, b113, oO, oN, mV, lD, gO, pP, qQ, cI, aR]
  obtain ⟨hi, hhi⟩ : ∃ hi, hi = b - a := ⟨_, rfl⟩
  have w1 : IntKind.i64.wrap ((b : Int) - (a : Int)) = (hi : Int) := by rw [wrap_i64] <;> omega
  have w2 : IntKind.i64.wrap ((hi : Int) - 1) = ((hi - 1 : Nat) : Int) := by rw [wrap_i64] <;> omega
  have q2 := bin_quo2 (hi - 1) (by omega)
  unfold heapSort at hQ
  rw [← hhi] at hQ
  simp +contextual -implicitDefEqProofs (maxSteps := 2000000) only [↓wP, wQ, wQ1, wQ2, wQ3, wR, boxE, partsOf, ↓reduceIte, n1w, n2w, n3w, n4w, n5w, n6w, reduceCtorEq, i1w, i2w, i3w, i4w, i5w, w1, w2, q2]
  refine WC_cutB (fun env σ' n' => n' = n ∧ env 0 = .ref id 0 N 2 ∧ env 3 = .fn F [] ∧ env 8 = .int .i64 (a : Int) ∧ env 9 = .int .i64 0 ∧ env 10 = .int .i64 (hi : Int) ∧ At σ' σ id (heapBuild ahR hi a ((hi - 1) / 2 + 1) d) ∧ (heapBuild ahR hi a ((hi - 1) / 2 + 1) d).size = N) ?_ ?_
  · refine WC_loopI 0 (fun (s : Nat × Array Rw) env σ' n' => n' = n ∧ env 0 = .ref id 0 N 2 ∧ env 3 = .fn F [] ∧ env 8 = .int .i64 (a : Int) ∧ env 9 = .int .i64 0 ∧ env 10 = .int .i64 (hi : Int) ∧ env 11 = .int .i64 ((s.1 : Int) - 1) ∧
        s.1 ≤ N ∧ s.2.size = N ∧ At σ' σ id s.2 ∧ heapBuild ahR hi a s.1 s.2 = heapBuild ahR hi a ((hi - 1) / 2 + 1) d) (fun s => s.1) ?_ ((hi - 1) / 2 + 1, d) _ _ _ ?_
    · intro ⟨k, e⟩ env σ1 n1 ⟨h1, h2, h3, h4, h5, h6, h7, h8, h9, h10, h11⟩
      subst h1
      dsimp only at h7 h8 h9 h10 h11
      cases k with
      | zero =>
        have hk : ¬ ((0 : Int) ≤ ((0 : Nat) : Int) - 1) := by decide
        simp +contextual -implicitDefEqProofs (maxSteps := 2000000) only [↓wP, wQ, wQ1, wQ2, wQ3, wR, boxE, partsOf, ↓reduceIte, n1w, n2w, n3w, n4w, n5w, n6w, reduceCtorEq, i1w, i2w, i3w, i4w, i5w, h2, h3, h4, h5, h6, h7, hk]
        rw [← h11]
        exact ⟨rfl, rfl, rfl, h2, h3, h4, h5, h6, h10, h9⟩
      | succ k =>
        rw [show ((k + 1 : Nat) : Int) - 1 = (k : Int) by omega] at h7
        have hk : (0 : Int) ≤ (k : Int) := by omega
        have wk : IntKind.i64.wrap ((k : Int) - 1) = (k : Int) - 1 := by rw [wrap_i64] <;> omega
        simp +contextual -implicitDefEqProofs (maxSteps := 2000000) only [↓wP, wQ, wQ1, wQ2, wQ3, wR, boxE, partsOf, ↓reduceIte, n1w, n2w, n3w, n4w, n5w, n6w, reduceCtorEq, i1w, i2w, i3w, i4w, i5w, h2, h3, h4, h5, h6, h7, hk]
        refine stepW_raw (by decide) (raw123 F hF e N k hi a id n1 σ1 h9 (by omega) (by omega) hn h10.1 fun σ2 hat => ?_)
        simp +contextual -implicitDefEqProofs (maxSteps := 2000000) only [↓wP, wQ, wQ1, wQ2, wQ3, wR, boxE, partsOf, ↓reduceIte, n1w, n2w, n3w, n4w, n5w, n6w, reduceCtorEq, i1w, i2w, i3w, i4w, i5w, h2, h3, h4, h5, h6, h7, wk]
        exact ⟨(k, siftDown ahR hi a k e), by dsimp only; omega, rfl, by dsimp only; omega, by rw [sift_size, h9], hat.trans h10, h11⟩
    · simp +contextual -implicitDefEqProofs (maxSteps := 2000000) only [↓wP, wQ, wQ1, wQ2, wQ3, wR, boxE, partsOf, ↓reduceIte, n1w, n2w, n3w, n4w, n5w, n6w, reduceCtorEq, i1w, i2w, i3w, i4w, i5w]
      exact ⟨by congr 1; omega, by omega, hN, At.refl hσ⟩
  · intro env σ' n' ⟨h1, h2, h3, h4, h5, h6, h7, h8⟩
    subst h1
    generalize heapBuild ahR hi a ((hi - 1) / 2 + 1) d = d1 at *
    simp +contextual -implicitDefEqProofs (maxSteps := 2000000) only [↓wP, wQ, wQ1, wQ2, wQ3, wR, boxE, partsOf, ↓reduceIte, n1w, n2w, n3w, n4w, n5w, n6w, reduceCtorEq, i1w, i2w, i3w, i4w, i5w, h2, h3, h4, h5, h6, w2]
    refine WC_loopI 0 (fun (s : Nat × Array Rw) env σ'' n'' => n'' = n' ∧ env 0 = .ref id 0 N 2 ∧ env 3 = .fn F [] ∧ env 8 = .int .i64 (a : Int) ∧ env 9 = .int .i64 0 ∧ env 12 = .int .i64 ((s.1 : Int) - 1) ∧
        s.1 ≤ hi ∧ s.2.size = N ∧ At σ'' σ id s.2 ∧ heapPop ahR a s.1 s.2 = heapPop ahR a hi d1) (fun s => s.1) ?_ (hi, d1) _ _ _ ?_
    · clear h2 h3 h4 h5 h6
      intro ⟨k, e⟩ env σ1 n1 ⟨h1, h2, h3, h4, h5, h7', h8', h9, h10, h11⟩
      subst h1
      dsimp only at h7' h8' h9 h10 h11
      cases k with
      | zero =>
        have hk : ¬ ((0 : Int) ≤ ((0 : Nat) : Int) - 1) := by decide
        simp +contextual -implicitDefEqProofs (maxSteps := 2000000) only [↓wP, wQ, wQ1, wQ2, wQ3, wR, boxE, partsOf, ↓reduceIte, n1w, n2w, n3w, n4w, n5w, n6w, reduceCtorEq, i1w, i2w, i3w, i4w, i5w, h2, h3, h4, h5, h7', hk]
        refine hQ _ ?_
        rw [← h11]
        exact h10
      | succ k =>
        rw [show ((k + 1 : Nat) : Int) - 1 = (k : Int) by omega] at h7'
        have hk : (0 : Int) ≤ (k : Int) := by omega
        have wk : IntKind.i64.wrap ((k : Int) - 1) = (k : Int) - 1 := by rw [wrap_i64] <;> omega
        obtain ⟨p, hp⟩ : ∃ p, p = a + k := ⟨_, rfl⟩
        have wp : IntKind.i64.wrap ((a : Int) + (k : Int)) = (p : Int) := by rw [wrap_i64] <;> omega
        have l0 : a < N := by omega
        have l1 : p < N := by omega
        have x0 := rw_at (d := e) (i := a) (by omega)
        have x1 := rw_at (d := e) (i := p) (by omega)
        obtain ⟨u1, v1, y1⟩ := rw_set_at (d := e) (i := a) (j := p) (x := e[p]!) (by omega)
        have hat := h10.1
        have h12 : heapPop ahR a (k + 1) e = heapPop ahR a k (siftDown ahR k a 0 (swp e a p)) := by rw [hp]; rfl
        rw [h12] at h11
        simp +contextual -implicitDefEqProofs (maxSteps := 2000000) only [↓wP, wQ, wQ1, wQ2, wQ3, wR, boxE, partsOf, ↓reduceIte, n1w, n2w, n3w, n4w, n5w, n6w, reduceCtorEq, i1w, i2w, i3w, i4w, i5w, h2, h3, h4, h5, h7', hk, wp, hat, l0, l1, x0, x1, y1]
        have hsw := h10.swp a p
        refine stepW_raw (by decide) (raw123 F hF (swp e a p) N 0 k a id n1 _ (by rw [swp_size, h9]) (by omega) (by omega) hn hsw.1 fun σ2 hat2 => ?_)
        simp +contextual -implicitDefEqProofs (maxSteps := 2000000) only [↓wP, wQ, wQ1, wQ2, wQ3, wR, boxE, partsOf, ↓reduceIte, n1w, n2w, n3w, n4w, n5w, n6w, reduceCtorEq, i1w, i2w, i3w, i4w, i5w, h2, h3, h4, h5, h7', wk]
        exact ⟨(k, siftDown ahR k a 0 (swp e a p)), by dsimp only; omega, rfl, by dsimp only; omega, by rw [sift_size, swp_size, h9], hat2.trans hsw, h11⟩
    · simp +contextual -implicitDefEqProofs (maxSteps := 2000000) only [↓wP, wQ, wQ1, wQ2, wQ3, wR, boxE, partsOf, ↓reduceIte, n1w, n2w, n3w, n4w, n5w, n6w, reduceCtorEq, i1w, i2w, i3w, i4w, i5w, h2, h3, h4, h5]
      exact ⟨by congr 1; omega, h8, h7⟩
theorem ss_go {d : Array Rw} {b i : Nat} (h : i < b) (hl : ahR d[i]! d[i - 1]! = false) : scanSorted ahR d b (i + 1) = scanSorted ahR d b i := by
  conv => rhs; rw [scanSorted]
  rw [if_pos (by simp [h, hl])]
theorem ss_stop {d : Array Rw} {b i : Nat} (h : ¬ i < b ∨ ahR d[i]! d[i - 1]! = true) : scanSorted ahR d b i = i := by
  rw [scanSorted]
  rcases h with h | h <;> simp [h]
theorem shiftD_size : ∀ (j : Nat) (d : Array Rw), (shiftDown ahR j d).size = d.size
  | 0, _ => rfl
  | j + 1, d => by
    rw [shiftDown]
    split
    · rfl
    · rw [shiftD_size j, swp_size]
theorem raw117 (F : Nat) (hF : CmpF F) (d : Array Rw) (N a b id n : Nat) (σ : Sto) (hN : d.size = N) (hab : a < b) (hb : b ≤ N) (hn : N < 1000000) (hσ : σ id = some (.row 2 (rw' d))) {Q : V → Sto → Nat → Prop}
    (hQ : ∀ σ', At σ' σ id (partialInsertionSort ahR d a b).1 → Q (.bool (partialInsertionSort ahR d a b).2) σ' n) :
    run T (.raw 117 [.ref id 0 N 2, .int .i64 (a : Int), .int .i64 (b : Int), .fn F []] σ n 0) (memQ Q) := by
  refine run_rawE (fn := g117) rfl rfl ?_
  simp only [g117, b117, oO, oN, mV, lD, gO, pP, qQ, cI, aR]
  have w1 : IntKind.i64.wrap ((a : Int) + 1) = ((a + 1 : Nat) : Int) := by rw [wrap_i64] <;> omega
  have w2 : IntKind.i64.wrap ((b : Int) - (a : Int)) = ((b - a : Nat) : Int) := by rw [wrap_i64] <;> omega
  unfold partialInsertionSort at hQ
  simp +contextual -implicitDefEqProofs (maxSteps := 2000000) only [↓wP, wQ, wQ1, wQ2, wQ3, wR, boxE, partsOf, ↓reduceIte, n1w, n2w, n3w, n4w, n5w, n6w, reduceCtorEq, i1w, i2w, i3w, i4w, i5w, w1]
  refine WC_loopI 0 (fun (s : (Nat × Nat) × Array Rw) env σ' n' => n' = n ∧ env 0 = .ref id 0 N 2 ∧ env 1 = .int .i64 (a : Int) ∧ env 2 = .int .i64 (b : Int) ∧ env 3 = .fn F [] ∧ env 9 = .int .i64 (s.1.2 : Int) ∧ env 10 = .int .i64 ((5 - s.1.1 : Nat) : Int) ∧
      s.1.1 ≤ 5 ∧ a < s.1.2 ∧ s.1.2 ≤ b ∧ s.2.size = N ∧ At σ' σ id s.2 ∧ partialIns ahR a b s.1.1 s.1.2 s.2 = partialIns ahR a b 5 (a + 1) d) (fun s => s.1.1) ?_ ((5, a + 1), d) _ _ _ ?_
  · intro ⟨⟨k, i⟩, e⟩ env σ1 n1 ⟨h1, h2, h3, h4, h5, h6, h7, h8, h9, h10, h11, h12, h13⟩
    subst h1
    dsimp only at h6 h7 h8 h9 h10 h11 h12 h13
    cases k with
    | zero =>
      have hk : ¬ (((5 - 0 : Nat) : Int) < 5) := by decide
      simp +contextual -implicitDefEqProofs (maxSteps := 2000000) only [↓wP, wQ, wQ1, wQ2, wQ3, wR, boxE, partsOf, ↓reduceIte, n1w, n2w, n3w, n4w, n5w, n6w, reduceCtorEq, i1w, i2w, i3w, i4w, i5w, h2, h3, h4, h5, h6, h7, hk]
      have hR : partialIns ahR a b 5 (a + 1) d = (e, false) := h13.symm
      rw [hR] at hQ
      exact hQ _ h12
    | succ k =>
      have hk : ((5 - (k + 1) : Nat) : Int) < 5 := by omega
      have wk : IntKind.i64.wrap (((5 - (k + 1) : Nat) : Int) + 1) = ((5 - k : Nat) : Int) := by rw [wrap_i64] <;> omega
      rw [partialIns_succ] at h13
      generalize hjj : (5 - (k + 1) : Nat) = jj at *
      have hat := h12.1
      simp +contextual -implicitDefEqProofs (maxSteps := 2000000) only [↓wP, wQ, wQ1, wQ2, wQ3, wR, boxE, partsOf, ↓reduceIte, n1w, n2w, n3w, n4w, n5w, n6w, reduceCtorEq, i1w, i2w, i3w, i4w, i5w, h2, h3, h4, h5, h6, h7, hk]
      refine WC_cutB (fun env σ' n' => σ' = σ1 ∧ n' = n1 ∧ env 0 = .ref id 0 N 2 ∧ env 1 = .int .i64 (a : Int) ∧ env 2 = .int .i64 (b : Int) ∧ env 3 = .fn F [] ∧ env 9 = .int .i64 ((scanSorted ahR e b i : Nat) : Int) ∧ env 10 = .int .i64 (jj : Int) ∧ a < scanSorted ahR e b i ∧ scanSorted ahR e b i ≤ b) ?_ ?_
      · refine WC_loopI 0 (fun (i' : Nat) env σ' n' => σ' = σ1 ∧ n' = n1 ∧ env 0 = .ref id 0 N 2 ∧ env 1 = .int .i64 (a : Int) ∧ env 2 = .int .i64 (b : Int) ∧ env 3 = .fn F [] ∧ env 9 = .int .i64 (i' : Int) ∧ env 10 = .int .i64 (jj : Int) ∧
            a < i' ∧ i' ≤ b ∧ scanSorted ahR e b i' = scanSorted ahR e b i) (fun i' => b - i') ?_ i _ _ _ ?_
        · clear h2 h3 h4 h5 h6 h7
          intro i' env σ2 n2 ⟨k1, k2, k3, k4, k5, k6, k7, k8, k9, k10, k11⟩
          subst k1 k2
          by_cases hlt : i' < b
          · have hlt' : (i' : Int) < (b : Int) := by omega
            have w3 : IntKind.i64.wrap ((i' : Int) - 1) = ((i' - 1 : Nat) : Int) := by rw [wrap_i64] <;> omega
            have w4 : IntKind.i64.wrap ((i' : Int) + 1) = ((i' + 1 : Nat) : Int) := by rw [wrap_i64] <;> omega
            have x1 := rw_at (d := e) (i := i') (by omega)
            have x2 := rw_at (d := e) (i := i' - 1) (by omega)
            have l1 : i' < N := by omega
            have l2 : i' - 1 < N := by omega
            by_cases hc : cmpU (e[i']!).id (e[i' - 1]!).id < 0
            · have hah : ahR e[i']! e[i' - 1]! = true := by rw [← cmp_lt]; simpa using hc
              have hst := ss_stop (d := e) (b := b) (i := i') (.inr hah)
              rw [hst] at k11
              rw [← k11]
              simp +contextual -implicitDefEqProofs (maxSteps := 2000000) only [↓wP, wQ, wQ1, wQ2, wQ3, wR, boxE, partsOf, ↓reduceIte, n1w, n2w, n3w, n4w, n5w, n6w, reduceCtorEq, i1w, i2w, i3w, i4w, i5w, exQ_exit, k3, k4, k5, k6, k7, k8, hlt', w3, w4, x1, x2, l1, l2, hat, hF, hc]
              exact ⟨k9, k10⟩
            · have hah : ahR e[i']! e[i' - 1]! = false := by rw [← cmp_lt]; simpa using hc
              simp +contextual -implicitDefEqProofs (maxSteps := 2000000) only [↓wP, wQ, wQ1, wQ2, wQ3, wR, boxE, partsOf, ↓reduceIte, n1w, n2w, n3w, n4w, n5w, n6w, reduceCtorEq, i1w, i2w, i3w, i4w, i5w, exQ_exit, k3, k4, k5, k6, k7, k8, hlt', w3, w4, x1, x2, l1, l2, hat, hF, hc]
              exact ⟨i' + 1, by omega, rfl, by omega, by omega, by rw [ss_go hlt hah]; exact k11⟩
          · have hlt' : ¬ (i' : Int) < (b : Int) := by omega
            have hst := ss_stop (d := e) (b := b) (i := i') (.inl hlt)
            rw [hst] at k11
            rw [← k11]
            simp +contextual -implicitDefEqProofs (maxSteps := 2000000) only [↓wP, wQ, wQ1, wQ2, wQ3, wR, boxE, partsOf, ↓reduceIte, n1w, n2w, n3w, n4w, n5w, n6w, reduceCtorEq, i1w, i2w, i3w, i4w, i5w, exQ_exit, k3, k4, k5, k6, k7, k8, hlt']
            exact ⟨k9, k10⟩
        · exact ⟨rfl, rfl, h2, h3, h4, h5, h6, h7, h9, h10, rfl⟩
      · clear h2 h3 h4 h5 h6 h7
        intro env σ2 n2 ⟨k1, k2, h2, h3, h4, h5, h6, h7, g1, g2⟩
        subst k1 k2
        generalize scanSorted ahR e b i = i2 at *
        by_cases e1 : i2 = b
        · have e1' : ((i2 : Int) == (b : Int)) = true := by simp [e1]
          rw [if_pos e1] at h13
          simp +contextual -implicitDefEqProofs (maxSteps := 2000000) only [↓wP, wQ, wQ1, wQ2, wQ3, wR, boxE, partsOf, ↓reduceIte, n1w, n2w, n3w, n4w, n5w, n6w, reduceCtorEq, i1w, i2w, i3w, i4w, i5w, h2, h3, h4, h5, h6, h7, e1']
          have := hQ σ2
          rw [← h13] at this
          exact this h12
        have e1' : ((i2 : Int) == (b : Int)) = false := by simp; omega
        rw [if_neg e1] at h13
        by_cases e2 : b - a < 50
        · have e2' : ((b - a : Nat) : Int) < 50 := by omega
          rw [if_pos e2] at h13
          simp +contextual -implicitDefEqProofs (maxSteps := 2000000) only [↓wP, wQ, wQ1, wQ2, wQ3, wR, boxE, partsOf, ↓reduceIte, n1w, n2w, n3w, n4w, n5w, n6w, reduceCtorEq, i1w, i2w, i3w, i4w, i5w, h2, h3, h4, h5, h6, h7, e1', w2, e2']
          have := hQ σ2
          rw [← h13] at this
          exact this h12
        have e2' : ¬ ((b - a : Nat) : Int) < 50 := by omega
        rw [if_neg e2] at h13
        have w3 : IntKind.i64.wrap ((i2 : Int) - 1) = ((i2 - 1 : Nat) : Int) := by rw [wrap_i64] <;> omega
        have w4 : IntKind.i64.wrap ((i2 : Int) + 1) = ((i2 + 1 : Nat) : Int) := by rw [wrap_i64] <;> omega
        have w5 : IntKind.i64.wrap ((i2 : Int) - (a : Int)) = ((i2 - a : Nat) : Int) := by rw [wrap_i64] <;> omega
        have w6 : IntKind.i64.wrap ((b : Int) - (i2 : Int)) = ((b - i2 : Nat) : Int) := by rw [wrap_i64] <;> omega
        have x1 := rw_at (d := e) (i := i2) (by omega)
        have x2 := rw_at (d := e) (i := i2 - 1) (by omega)
        obtain ⟨u, v, x3⟩ := rw_set_at (d := e) (i := i2) (j := i2 - 1) (x := e[i2 - 1]!) (by omega)
        have l1 : i2 < N := by omega
        have l2 : i2 - 1 < N := by omega
        have hsw := h12.swp i2 (i2 - 1)
        simp +contextual -implicitDefEqProofs (maxSteps := 2000000) only [↓wP, wQ, wQ1, wQ2, wQ3, wR, boxE, partsOf, ↓reduceIte, n1w, n2w, n3w, n4w, n5w, n6w, reduceCtorEq, i1w, i2w, i3w, i4w, i5w, h2, h3, h4, h5, h6, h7, e1', w2, e2', w3, w5, x1, x2, x3, l1, l2, hat]
        generalize (upd (upd σ2 id (some (.row 2 ((rw' e).set i2 (.agg [.int .u64 (e[i2 - 1]!).id, slV 1 i32V (e[i2 - 1]!).v]))))) id
          (some (.row 2 (((rw' e).set i2 (.agg [.int .u64 (e[i2 - 1]!).id, slV 1 i32V (e[i2 - 1]!).v])).set (i2 - 1) (.agg [.int .u64 (e[i2]!).id, slV 1 i32V (e[i2]!).v]))))) = σ3 at hsw
        have hsz : (swp e i2 (i2 - 1)).size = N := by rw [swp_size, h11]
        generalize swp e i2 (i2 - 1) = g0 at *
        clear x1 x2 x3 hat h12
        refine condC_cut (fun env σ' n' => n' = n2 ∧ env 0 = .ref id 0 N 2 ∧ env 1 = .int .i64 (a : Int) ∧ env 2 = .int .i64 (b : Int) ∧ env 3 = .fn F [] ∧ env 9 = .int .i64 (i2 : Int) ∧ env 10 = .int .i64 (jj : Int) ∧ At σ' σ id (fixDown ahR a i2 g0)) ?_ ?_ ?_
        · intro hx
          have hx' : 2 ≤ i2 - a := by have := of_decide_eq_true hx; omega
          have hfd : fixDown ahR a i2 g0 = shiftDown ahR (i2 - 1) g0 := by unfold fixDown; rw [if_pos hx']
          rw [hfd]
          simp +contextual -implicitDefEqProofs (maxSteps := 2000000) only [↓wP, wQ, wQ1, wQ2, wQ3, wR, boxE, partsOf, ↓reduceIte, n1w, n2w, n3w, n4w, n5w, n6w, reduceCtorEq, i1w, i2w, i3w, i4w, i5w, h2, h3, h4, h5, h6, h7, w3]
          refine WC_cutB (fun env σ' n' => n' = n2 ∧ env 0 = .ref id 0 N 2 ∧ env 1 = .int .i64 (a : Int) ∧ env 2 = .int .i64 (b : Int) ∧ env 3 = .fn F [] ∧ env 9 = .int .i64 (i2 : Int) ∧ env 10 = .int .i64 (jj : Int) ∧ At σ' σ id (shiftDown ahR (i2 - 1) g0)) ?_ ?_
          · refine WC_loopI 0 (fun (s : Nat × Array Rw) env σ' n' => n' = n2 ∧ env 0 = .ref id 0 N 2 ∧ env 1 = .int .i64 (a : Int) ∧ env 2 = .int .i64 (b : Int) ∧ env 3 = .fn F [] ∧ env 9 = .int .i64 (i2 : Int) ∧ env 10 = .int .i64 (jj : Int) ∧ env 11 = .int .i64 (s.1 : Int) ∧
                s.1 < N ∧ s.2.size = N ∧ At σ' σ id s.2 ∧ shiftDown ahR s.1 s.2 = shiftDown ahR (i2 - 1) g0) (fun s => s.1) ?_ (i2 - 1, g0) _ _ _ ?_
            · clear h2 h3 h4 h5 h6 h7 hsw hx
              intro ⟨j, g⟩ env σ4 n4 ⟨k1, h2, h3, h4, h5, h6, h7, k2, k3, k4, k5, k6⟩
              subst k1
              dsimp only at k2 k3 k4 k5 k6
              have hat := k5.1
              cases j with
              | zero =>
                have hj : ¬ ((1 : Int) ≤ ((0 : Nat) : Int)) := by decide
                simp +contextual -implicitDefEqProofs (maxSteps := 2000000) only [↓wP, wQ, wQ1, wQ2, wQ3, wR, boxE, partsOf, ↓reduceIte, n1w, n2w, n3w, n4w, n5w, n6w, reduceCtorEq, i1w, i2w, i3w, i4w, i5w, h2, h3, h4, h5, h6, h7, k2, hj]
                rw [← k6]
                exact ⟨rfl, rfl, rfl, h2, h3, h4, h5, h6, h7, k5⟩
              | succ j =>
                have hj : (1 : Int) ≤ ((j + 1 : Nat) : Int) := by omega
                have wj : IntKind.i64.wrap (((j + 1 : Nat) : Int) - 1) = (j : Int) := by rw [wrap_i64] <;> omega
                have x1 := rw_at (d := g) (i := j + 1) (by omega)
                have x2 := rw_at (d := g) (i := j) (by omega)
                obtain ⟨u, v, x3⟩ := rw_set_at (d := g) (i := j + 1) (j := j) (x := g[j]!) (by omega)
                have m1 : j + 1 < N := by omega
                have m2 : j < N := by omega
                rw [shiftDown] at k6
                by_cases hc : cmpU (g[j + 1]!).id (g[j]!).id < 0
                · have hah : ahR g[j + 1]! g[j]! = true := by rw [← cmp_lt]; simpa using hc
                  rw [if_neg (by simp [hah])] at k6
                  simp +contextual -implicitDefEqProofs (maxSteps := 2000000) only [↓wP, wQ, wQ1, wQ2, wQ3, wR, boxE, partsOf, ↓reduceIte, n1w, n2w, n3w, n4w, n5w, n6w, reduceCtorEq, i1w, i2w, i3w, i4w, i5w, h2, h3, h4, h5, h6, h7, k2, hj, wj, x1, x2, x3, m1, m2, hat, hF, hc]
                  exact ⟨(j, swp g (j + 1) j), by dsimp only; omega, rfl, by dsimp only; omega, by rw [swp_size, k4], k5.swp _ _, k6⟩
                · have hah : ahR g[j + 1]! g[j]! = false := by rw [← cmp_lt]; simpa using hc
                  rw [if_pos (by simp [hah])] at k6
                  simp +contextual -implicitDefEqProofs (maxSteps := 2000000) only [↓wP, wQ, wQ1, wQ2, wQ3, wR, boxE, partsOf, ↓reduceIte, n1w, n2w, n3w, n4w, n5w, n6w, reduceCtorEq, i1w, i2w, i3w, i4w, i5w, h2, h3, h4, h5, h6, h7, k2, hj, wj, x1, x2, m1, m2, hat, hF, hc]
                  rw [← k6]
                  exact ⟨rfl, rfl, rfl, h2, h3, h4, h5, h6, h7, k5⟩
            · simp +contextual -implicitDefEqProofs (maxSteps := 2000000) only [↓wP, wQ, wQ1, wQ2, wQ3, wR, boxE, partsOf, ↓reduceIte, n1w, n2w, n3w, n4w, n5w, n6w, reduceCtorEq, i1w, i2w, i3w, i4w, i5w, h2, h3, h4, h5, h6, h7]
              exact ⟨l2, hsz, hsw⟩
          · intro env σ' n' hh
            exact ⟨rfl, hh⟩
        · intro hx
          have hx' : ¬ 2 ≤ i2 - a := by have := of_decide_eq_false hx; omega
          have hfd : fixDown ahR a i2 g0 = g0 := by unfold fixDown; rw [if_neg hx']
          rw [hfd]
          simp +contextual -implicitDefEqProofs (maxSteps := 2000000) only [↓wP, wQ, wQ1, wQ2, wQ3, wR, boxE, partsOf, ↓reduceIte, n1w, n2w, n3w, n4w, n5w, n6w, reduceCtorEq, i1w, i2w, i3w, i4w, i5w, h2, h3, h4, h5, h6, h7]
          exact hsw
        · clear h2 h3 h4 h5 h6 h7 hsw
          intro env σ4 n4 ⟨k1, h2, h3, h4, h5, h6, h7, hsw⟩
          subst k1
          have hsz2 : (fixDown ahR a i2 g0).size = N := by
            unfold fixDown
            split
            · rw [shiftD_size, hsz]
            · exact hsz
          generalize fixDown ahR a i2 g0 = g1 at *
          clear hsz
          simp +contextual -implicitDefEqProofs (maxSteps := 2000000) only [↓wP, wQ, wQ1, wQ2, wQ3, wR, boxE, partsOf, ↓reduceIte, n1w, n2w, n3w, n4w, n5w, n6w, reduceCtorEq, i1w, i2w, i3w, i4w, i5w, h2, h3, h4, h5, h6, h7, w6]
          refine condC_cut (fun env σ' n' => n' = n4 ∧ env 0 = .ref id 0 N 2 ∧ env 1 = .int .i64 (a : Int) ∧ env 2 = .int .i64 (b : Int) ∧ env 3 = .fn F [] ∧ env 9 = .int .i64 (i2 : Int) ∧ env 10 = .int .i64 (jj : Int) ∧ At σ' σ id (fixUp ahR b i2 g1) ∧ (fixUp ahR b i2 g1).size = N) ?_ ?_ ?_
          · intro hx
            have hx' : 2 ≤ b - i2 := by have := of_decide_eq_true hx; omega
            have hfd : fixUp ahR b i2 g1 = shiftUp ahR b (i2 + 1) g1 := by unfold fixUp; rw [if_pos hx']
            rw [hfd]
            simp +contextual -implicitDefEqProofs (maxSteps := 2000000) only [↓wP, wQ, wQ1, wQ2, wQ3, wR, boxE, partsOf, ↓reduceIte, n1w, n2w, n3w, n4w, n5w, n6w, reduceCtorEq, i1w, i2w, i3w, i4w, i5w, h2, h3, h4, h5, h6, h7, w4]
            refine WC_cutB (fun env σ' n' => n' = n4 ∧ env 0 = .ref id 0 N 2 ∧ env 1 = .int .i64 (a : Int) ∧ env 2 = .int .i64 (b : Int) ∧ env 3 = .fn F [] ∧ env 9 = .int .i64 (i2 : Int) ∧ env 10 = .int .i64 (jj : Int) ∧ At σ' σ id (shiftUp ahR b (i2 + 1) g1) ∧ (shiftUp ahR b (i2 + 1) g1).size = N) ?_ ?_
            · refine WC_loopI 0 (fun (s : Nat × Array Rw) env σ' n' => n' = n4 ∧ env 0 = .ref id 0 N 2 ∧ env 1 = .int .i64 (a : Int) ∧ env 2 = .int .i64 (b : Int) ∧ env 3 = .fn F [] ∧ env 9 = .int .i64 (i2 : Int) ∧ env 10 = .int .i64 (jj : Int) ∧ env 12 = .int .i64 (s.1 : Int) ∧
                  1 ≤ s.1 ∧ s.1 ≤ b ∧ s.2.size = N ∧ At σ' σ id s.2 ∧ shiftUp ahR b s.1 s.2 = shiftUp ahR b (i2 + 1) g1) (fun s => b - s.1) ?_ (i2 + 1, g1) _ _ _ ?_
              · clear h2 h3 h4 h5 h6 h7 hsw hx
                intro ⟨j, g⟩ env σ5 n5 ⟨k1, h2, h3, h4, h5, h6, h7, k2, k2', k3, k4, k5, k6⟩
                subst k1
                dsimp only at k2 k2' k3 k4 k5 k6
                have hat := k5.1
                rw [shiftUp] at k6
                by_cases hlt : j < b
                · rw [if_pos hlt] at k6
                  have hj : (j : Int) < (b : Int) := by omega
                  have wj : IntKind.i64.wrap ((j : Int) - 1) = ((j - 1 : Nat) : Int) := by rw [wrap_i64] <;> omega
                  have wj2 : IntKind.i64.wrap ((j : Int) + 1) = ((j + 1 : Nat) : Int) := by rw [wrap_i64] <;> omega
                  have x1 := rw_at (d := g) (i := j) (by omega)
                  have x2 := rw_at (d := g) (i := j - 1) (by omega)
                  obtain ⟨u, v, x3⟩ := rw_set_at (d := g) (i := j) (j := j - 1) (x := g[j - 1]!) (by omega)
                  have m1 : j < N := by omega
                  have m2 : j - 1 < N := by omega
                  by_cases hc : cmpU (g[j]!).id (g[j - 1]!).id < 0
                  · have hah : ahR g[j]! g[j - 1]! = true := by rw [← cmp_lt]; simpa using hc
                    rw [if_neg (by simp [hah])] at k6
                    simp +contextual -implicitDefEqProofs (maxSteps := 2000000) only [↓wP, wQ, wQ1, wQ2, wQ3, wR, boxE, partsOf, ↓reduceIte, n1w, n2w, n3w, n4w, n5w, n6w, reduceCtorEq, i1w, i2w, i3w, i4w, i5w, h2, h3, h4, h5, h6, h7, k2, hj, wj, wj2, x1, x2, x3, m1, m2, hat, hF, hc]
                    exact ⟨(j + 1, swp g j (j - 1)), by dsimp only; omega, rfl, by dsimp only; omega, by dsimp only; omega, by rw [swp_size, k4], k5.swp _ _, k6⟩
                  · have hah : ahR g[j]! g[j - 1]! = false := by rw [← cmp_lt]; simpa using hc
                    rw [if_pos (by simp [hah])] at k6
                    simp +contextual -implicitDefEqProofs (maxSteps := 2000000) only [↓wP, wQ, wQ1, wQ2, wQ3, wR, boxE, partsOf, ↓reduceIte, n1w, n2w, n3w, n4w, n5w, n6w, reduceCtorEq, i1w, i2w, i3w, i4w, i5w, h2, h3, h4, h5, h6, h7, k2, hj, wj, wj2, x1, x2, m1, m2, hat, hF, hc]
                    rw [← k6]
                    exact ⟨rfl, rfl, rfl, h2, h3, h4, h5, h6, h7, k5, k4⟩
                · rw [if_neg hlt] at k6
                  have hj : ¬ (j : Int) < (b : Int) := by omega
                  simp +contextual -implicitDefEqProofs (maxSteps := 2000000) only [↓wP, wQ, wQ1, wQ2, wQ3, wR, boxE, partsOf, ↓reduceIte, n1w, n2w, n3w, n4w, n5w, n6w, reduceCtorEq, i1w, i2w, i3w, i4w, i5w, h2, h3, h4, h5, h6, h7, k2, hj]
                  rw [← k6]
                  exact ⟨rfl, rfl, rfl, h2, h3, h4, h5, h6, h7, k5, k4⟩
              · simp +contextual -implicitDefEqProofs (maxSteps := 2000000) only [↓wP, wQ, wQ1, wQ2, wQ3, wR, boxE, partsOf, ↓reduceIte, n1w, n2w, n3w, n4w, n5w, n6w, reduceCtorEq, i1w, i2w, i3w, i4w, i5w, h2, h3, h4, h5, h6, h7]
                exact ⟨by omega, hsz2, hsw⟩
            · intro env σ' n' hh
              exact ⟨rfl, hh⟩
          · intro hx
            have hx' : ¬ 2 ≤ b - i2 := by have := of_decide_eq_false hx; omega
            have hfd : fixUp ahR b i2 g1 = g1 := by unfold fixUp; rw [if_neg hx']
            rw [hfd]
            simp +contextual -implicitDefEqProofs (maxSteps := 2000000) only [↓wP, wQ, wQ1, wQ2, wQ3, wR, boxE, partsOf, ↓reduceIte, n1w, n2w, n3w, n4w, n5w, n6w, reduceCtorEq, i1w, i2w, i3w, i4w, i5w, h2, h3, h4, h5, h6, h7]
            exact ⟨hsw, hsz2⟩
          · clear h2 h3 h4 h5 h6 h7 hsw
            intro env σ5 n5 ⟨k1, h2, h3, h4, h5, h6, h7, hsw, hsz3⟩
            subst k1
            simp +contextual -implicitDefEqProofs (maxSteps := 2000000) only [↓wP, wQ, wQ1, wQ2, wQ3, wR, boxE, partsOf, ↓reduceIte, n1w, n2w, n3w, n4w, n5w, n6w, reduceCtorEq, i1w, i2w, i3w, i4w, i5w, h2, h3, h4, h5, h6, h7, wk]
            exact ⟨((k, i2), fixUp ahR b i2 g1), by dsimp only; omega, rfl, rfl, by dsimp only; omega, by dsimp only; omega, by dsimp only; omega, hsz3, hsw, h13⟩
  · simp +contextual -implicitDefEqProofs (maxSteps := 2000000) only [↓wP, wQ, wQ1, wQ2, wQ3, wR, boxE, partsOf, ↓reduceIte, n1w, n2w, n3w, n4w, n5w, n6w, reduceCtorEq, i1w, i2w, i3w, i4w, i5w]
    exact ⟨rfl, by omega, by omega, hN, At.refl hσ⟩
end Go.Q.SB
end

section
/- A sort of few. -/
set_option linter.unusedSimpArgs false
set_option linter.unusedVariables false
namespace Go.Q.SB
open Go.Q Go.Sort
open Nat renaming reduceEqDiff → n1w, reduceAdd → n2w, reduceSub → n3w, reduceLeDiff → n4w, reduceLT → n5w, reduceMul → n6w
open Int renaming reduceBNe → i1w, reduceBEq → i2w, reduceLT → i3w, reduceLE → i4w, reduceGT → i5w
theorem raw112N (F : Nat) (hF : CmpF F) {d : Array Rw} {N : Nat} (hN : d.size = N) (a b id n : Nat) (σ : Sto) (hab : a ≤ b) (hb : b ≤ N) (hn : N < 1000000) (hσ : σ id = some (.row 2 (rw' d))) {Q : V → Sto → Nat → Prop}
    (hQ : ∀ σ', At σ' σ id (insertionSort ahR d a b) → Q .undef σ' n) :
    run T (.raw 112 [.ref id 0 N 2, .int .i64 (a : Int), .int .i64 (b : Int), .fn F []] σ n 0) (memQ Q) := by subst hN; exact raw112 F hF d a b id n σ hab hb hn hσ hQ
theorem raw114N (F : Nat) (hF : CmpF F) {d : Array Rw} {N : Nat} (hN : d.size = N) (a b id n : Nat) (σ : Sto) (h8 : 8 ≤ b - a) (h60 : b - a < 130) (hb : b ≤ N) (hn : N < 1000000) (hid : id < n) (hσ : σ id = some (.row 2 (rw' d))) {Q : V → Sto → Nat → Prop}
    (hQ : ∀ σ' d' n', n ≤ n' → σ' id = some (.row 2 (rw' d')) → (∀ i, i ≠ id → i < n → σ' i = σ i) → PermIn a b d d' → Q .undef σ' n') :
    run T (.raw 114 [.ref id 0 N 2, .int .i64 (a : Int), .int .i64 (b : Int), .fn F []] σ n 0) (memQ Q) := by subst hN; exact raw114 F hF d a b id n σ h8 h60 hb hn hid hσ hQ
theorem raw116N (F : Nat) (hF : CmpF F) {d : Array Rw} {N : Nat} (hN : d.size = N) (a b id n : Nat) (σ : Sto) (hab : a < b) (hb : b ≤ N) (hn : N < 1000000) (hσ : σ id = some (.row 2 (rw' d))) {Q : V → Sto → Nat → Prop}
    (hQ : ∀ σ' d', At σ' σ id d' → PermIn a b d d' → Q .undef σ' n) :
    run T (.raw 116 [.ref id 0 N 2, .int .i64 (a : Int), .int .i64 (b : Int), .fn F []] σ n 0) (memQ Q) := by subst hN; exact raw116 F hF d a b id n σ hab hb hn hσ hQ
theorem raw118N (F : Nat) (hF : CmpF F) {d : Array Rw} {N : Nat} (hN : d.size = N) (a b p id n : Nat) (σ : Sto) (hap : a ≤ p) (hpb : p < b) (hb : b ≤ N) (hn : N < 1000000) (hσ : σ id = some (.row 2 (rw' d))) {Q : V → Sto → Nat → Prop}
    (hQ : ∀ σ', At σ' σ id (partitionEqual ahR d a b p).2 → Q (.int .i64 ((partitionEqual ahR d a b p).1 : Int)) σ' n) :
    run T (.raw 118 [.ref id 0 N 2, .int .i64 (a : Int), .int .i64 (b : Int), .int .i64 (p : Int), .fn F []] σ n 0) (memQ Q) := by subst hN; exact raw118 F hF d a b p id n σ hap hpb hb hn hσ hQ
theorem raw119N (F : Nat) (hF : CmpF F) {d : Array Rw} {N : Nat} (hN : d.size = N) (a b p id n : Nat) (σ : Sto) (hap : a ≤ p) (hpb : p < b) (hb : b ≤ N) (hn : N < 1000000) (hσ : σ id = some (.row 2 (rw' d))) {Q : V → Sto → Nat → Prop}
    (hQ : ∀ σ', At σ' σ id (partition ahR d a b p).2.2 → Q (.tup [.int .i64 ((partition ahR d a b p).1 : Int), .bool (partition ahR d a b p).2.1]) σ' n) :
    run T (.raw 119 [.ref id 0 N 2, .int .i64 (a : Int), .int .i64 (b : Int), .int .i64 (p : Int), .fn F []] σ n 0) (memQ Q) := by subst hN; exact raw119 F hF d a b p id n σ hap hpb hb hn hσ hQ
theorem frz_row {d : Array Rw} {N id : Nat} {σ : Sto} (hN : d.size = N) (h : σ id = some (.row 2 (rw' d))) (k : Nat) : frz σ (k + 3) (.ref id 0 N 2) = some (.sl 2 (rw' d)) := by
  have hl : N = (rw' d).length := by rw [rw_len, hN]
  rw [hl]
  refine (Fz.ref (S := fun _ => True) h trivial (FzL.trees ?_ ?_)).1
  · intro x hx
    unfold rw' at hx
    obtain ⟨y, -, rfl⟩ := List.mem_map.1 hx
    simp [rwV, Tr, Tr_slV]
  · intro x hx c hc
    unfold rw' at hx
    obtain ⟨y, -, rfl⟩ := List.mem_map.1 hx
    simp only [rwV, V.cells, List.mem_cons, List.not_mem_nil, or_false] at hc
    rcases hc with rfl | rfl
    · rfl
    · exact Tr_slV _ _ _ _
theorem f115 (F : Nat) (hF : CmpF F) (d : Array Rw) (a b id N : Nat) (σ : Sto) (n lk : Nat) (hN : d.size = N) (hσ : σ id = some (.row 2 (rw' d))) (hab : a < b) (hb : b ≤ N) (hn : N < 1000000) :
    ∃ (p : Nat) (h : Int), a ≤ p ∧ p < b ∧ (h = 0 ∨ h = 1 ∨ h = 2) ∧ callE T true 115 [.ref id 0 N 2, .int .i64 (a : Int), .int .i64 (b : Int), .fn F []] σ n lk = some (.tup [.int .i64 (p : Int), .int .i64 h], σ, n) := by
  obtain ⟨p, h, h1, h2, h3, h4⟩ := r115 F hF d a b hab (by omega) (by omega)
  refine ⟨p, h, h1, h2, h3, ?_⟩
  rw [callE_eq (by decide)]
  have e : [V.ref id 0 N 2, .int .i64 (a : Int), .int .i64 (b : Int), .fn F []].mapM (frz σ 12) = some [.sl 2 (rw' d), .int .i64 (a : Int), .int .i64 (b : Int), .fn F []] := by
    simp only [List.mapM_cons, List.mapM_nil, frz_row hN hσ 9, frz_int, frz_fn]
    rfl
  rw [e, callR_some, h4, retE_some, backE_flat rfl]
  rfl
def Pdq (L N a0 b0 : Nat) (d : Array Rw) (a b lim : Nat) (e : Array Rw) : Prop :=
  a ≤ b ∧ b ≤ N ∧ b - a ≤ L ∧ b - a < 130 ∧ lim < 1000 ∧ e.size = N ∧ Below ahR a b e ∧
  ∀ R, PermIn a b e R → SortedIn ahR a b R → PermIn a0 b0 d R ∧ SortedIn ahR a0 b0 R
theorem Pdq.perm {L N a0 b0 a b lim : Nat} {d e e' : Array Rw} (h : Pdq L N a0 b0 d a b lim e) (hp : PermIn a b e e') : Pdq L N a0 b0 d a b lim e' := by
  obtain ⟨h1, h2, h3, h4, h6, h7, h8, h9⟩ := h
  exact ⟨h1, h2, h3, h4, h6, by rw [hp.1, h7], h8.perm (by omega) hp, fun R hR hs => h9 R (permIn_trans _ _ _ _ _ hp hR) hs⟩
theorem bin_quo8 (m : Nat) (h : m < 9223372036854775808) : binV .quo (.int .i64 (m : Int)) (.int .i64 8) = some (.int .i64 ((m / 8 : Nat) : Int)) := by
  rw [bin_quo .i64 (m : Int) 8 (by decide)]
  have e : (m : Int).tdiv 8 = ((m / 8 : Nat) : Int) := rfl
  rw [e, wrap_nat (by omega)]
def Sorts (F L : Nat) : Prop := ∀ (d : Array Rw) (a b lim id n N : Nat) (σ : Sto), b - a < L → a ≤ b → b - a < 130 → b ≤ N → N < 1000000 → lim < 1000 → id < n → d.size = N → σ id = some (.row 2 (rw' d)) →
    Below ahR a b d → ∀ {Q : V → Sto → Nat → Prop}, (∀ σ' d' n', n ≤ n' → σ' id = some (.row 2 (rw' d')) → (∀ i, i ≠ id → i < n → σ' i = σ i) → PermIn a b d d' → SortedIn ahR a b d' → Q .undef σ' n') →
    run T (.raw 103 [.ref id 0 N 2, .int .i64 (a : Int), .int .i64 (b : Int), .int .i64 (lim : Int), .fn F []] σ n 0) (memQ Q)
theorem raw103_step (F : Nat) (hF : CmpF F) (L : Nat) (ih : Sorts F L) : Sorts F (L + 1) := by
  intro d a b lim id n N σ hL hab h50 hb hn hlim hid hN hσ hB Q hQ
  refine run_rawE (fn := g103) rfl rfl ?_
  simp only [g103, b103, oO, oN, mV, lD, gO, pP, qQ, cI, aR]
  simp +contextual -implicitDefEqProofs (maxSteps := 2000000) only [↓wP, wQ, wQ1, wQ2, wQ3, wR, boxE, partsOf, ↓reduceIte, n1w, n2w, n3w, n4w, n5w, n6w, reduceCtorEq, i1w, i2w, i3w, i4w, i5w]
  refine WC_loopI 0 (fun (s : (Nat × Nat) × Nat) env σ' n' => n ≤ n' ∧ env 0 = .ref id 0 N 2 ∧ env 1 = .int .i64 (s.1.1 : Int) ∧ env 2 = .int .i64 (s.1.2 : Int) ∧ env 3 = .int .i64 (s.2 : Int) ∧ env 4 = .fn F [] ∧
      (∃ wb, env 10 = .bool wb) ∧ (∃ wp, env 11 = .bool wp) ∧ (∀ i, i ≠ id → i < n → σ' i = σ i) ∧ ∃ e, Pdq L N a b d s.1.1 s.1.2 s.2 e ∧ σ' id = some (.row 2 (rw' e))) (fun s => s.1.2 - s.1.1) ?_ ((a, b), lim) _ _ _ ?_
  · intro ⟨⟨a', b'⟩, lim'⟩ env σ1 n1 ⟨h1, h2, h3, h4, h5, h6, ⟨wb, h7⟩, ⟨wp, h8⟩, hf, e, hp, h9⟩
    dsimp only at h3 h4 h5 hp
    obtain ⟨p1, p2, p3, p4, p6, p7, p8, p9⟩ := hp
    have hp : Pdq L N a b d a' b' lim' e := ⟨p1, p2, p3, p4, p6, p7, p8, p9⟩
    have w1 : IntKind.i64.wrap ((b' : Int) - (a' : Int)) = ((b' - a' : Nat) : Int) := by rw [wrap_i64] <;> omega
    by_cases hle : b' - a' ≤ 12
    · have hle' : ((b' - a' : Nat) : Int) ≤ 12 := by omega
      simp +contextual -implicitDefEqProofs (maxSteps := 2000000) only [↓wP, wQ, wQ1, wQ2, wQ3, wR, boxE, partsOf, ↓reduceIte, n1w, n2w, n3w, n4w, n5w, n6w, reduceCtorEq, i1w, i2w, i3w, i4w, i5w, h2, h3, h4, h5, h6, w1, hle']
      refine stepW_raw (by decide) (raw112N F hF p7 a' b' id n1 σ1 p1 p2 hn h9 fun σ2 hat => ?_)
      simp +contextual -implicitDefEqProofs (maxSteps := 2000000) only [↓wP, wQ, wQ1, wQ2, wQ3, wR, boxE, partsOf, ↓reduceIte, n1w, n2w, n3w, n4w, n5w, n6w, reduceCtorEq, i1w, i2w, i3w, i4w, i5w]
      have hs := insertionSort_holds (lt := ahR) swoA e a' b' p1 (by omega)
      have hR := p9 _ hs.1 hs.2
      exact hQ _ _ _ h1 hat.1 (fun i hi hin => by rw [hat.2 i hi, hf i hi hin]) hR.1 hR.2
    · have hle' : ¬ ((b' - a' : Nat) : Int) ≤ 12 := by omega
      by_cases hl00 : lim' = 0
      · have hl0 : ((lim' : Int) == 0) = true := by simp [hl00]
        simp +contextual -implicitDefEqProofs (maxSteps := 2000000) only [↓wP, wQ, wQ1, wQ2, wQ3, wR, boxE, partsOf, ↓reduceIte, n1w, n2w, n3w, n4w, n5w, n6w, reduceCtorEq, i1w, i2w, i3w, i4w, i5w, h2, h3, h4, h5, h6, h7, h8, w1, hle', hl0]
        refine stepW_raw (by decide) (raw113 F hF e N a' b' id n1 σ1 p7 (by omega) p2 hn h9 fun σ2 hat => ?_)
        simp +contextual -implicitDefEqProofs (maxSteps := 2000000) only [↓wP, wQ, wQ1, wQ2, wQ3, wR, boxE, partsOf, ↓reduceIte, n1w, n2w, n3w, n4w, n5w, n6w, reduceCtorEq, i1w, i2w, i3w, i4w, i5w]
        have hs := heapSort_holds (lt := ahR) swoA e a' b' p1 (by omega)
        have hR := p9 _ hs.1 hs.2
        exact hQ _ _ _ h1 hat.1 (fun i hi hin => by rw [hat.2 i hi, hf i hi hin]) hR.1 hR.2
      have hl0 : ((lim' : Int) == 0) = false := by simp; omega
      simp +contextual -implicitDefEqProofs (maxSteps := 2000000) only [↓wP, wQ, wQ1, wQ2, wQ3, wR, boxE, partsOf, ↓reduceIte, n1w, n2w, n3w, n4w, n5w, n6w, reduceCtorEq, i1w, i2w, i3w, i4w, i5w, h2, h3, h4, h5, h6, h7, h8, w1, hle', hl0]
      refine condC_cut (fun env' σ' n' => ∃ lim1 e1, n1 ≤ n' ∧ env' 0 = .ref id 0 N 2 ∧ env' 1 = .int .i64 (a' : Int) ∧ env' 2 = .int .i64 (b' : Int) ∧ env' 3 = .int .i64 ((lim1 : Nat) : Int) ∧ env' 4 = .fn F [] ∧
          env' 10 = .bool wb ∧ env' 11 = .bool wp ∧ env' 12 = .int .i64 ((b' - a' : Nat) : Int) ∧ lim' ≤ lim1 + 1 ∧ lim1 ≤ lim' ∧ σ' id = some (.row 2 (rw' e1)) ∧ PermIn a' b' e e1 ∧ (∀ i, i ≠ id → i < n → σ' i = σ i)) ?_ ?_ ?_
      · intro hx
        have wl : IntKind.i64.wrap ((lim' : Int) - 1) = ((lim' - 1 : Nat) : Int) := by rw [wrap_i64] <;> omega
        simp +contextual -implicitDefEqProofs (maxSteps := 2000000) only [↓wP, wQ, wQ1, wQ2, wQ3, wR, boxE, partsOf, ↓reduceIte, n1w, n2w, n3w, n4w, n5w, n6w, reduceCtorEq, i1w, i2w, i3w, i4w, i5w, h2, h3, h4, h5, h6, h7, h8]
        refine stepW_raw (by decide) (raw114N F hF p7 a' b' id n1 σ1 (by omega) (by omega) p2 hn (by omega) h9 fun σ2 d2 n2 g1 g2 g3 g4 => ?_)
        simp +contextual -implicitDefEqProofs (maxSteps := 2000000) only [↓wP, wQ, wQ1, wQ2, wQ3, wR, boxE, partsOf, ↓reduceIte, n1w, n2w, n3w, n4w, n5w, n6w, reduceCtorEq, i1w, i2w, i3w, i4w, i5w, h2, h3, h4, h5, h6, h7, h8, wl]
        refine ⟨lim' - 1, d2, ?_⟩
        have : ∀ i, i ≠ id → i < n → σ2 i = σ i := fun i hi hin => by rw [g3 i hi (by omega), hf i hi hin]
        repeat' (first | assumption | rfl | omega | apply And.intro)
      · intro hx
        simp +contextual -implicitDefEqProofs (maxSteps := 2000000) only [↓wP, wQ, wQ1, wQ2, wQ3, wR, boxE, partsOf, ↓reduceIte, n1w, n2w, n3w, n4w, n5w, n6w, reduceCtorEq, i1w, i2w, i3w, i4w, i5w, h2, h3, h4, h5, h6, h7, h8]
        refine ⟨lim', e, ?_⟩
        have := permIn_refl e a' b'
        repeat' (first | assumption | rfl | omega | apply And.intro)
      · clear h2 h3 h4 h5 h6 h7 h8 hf h9
        intro env σ1 n2 ⟨lim1, e1, hn1, h2, h3, h4, h5, h6, h7, h8, hlen, hl1, hl2, h9, hpm, hf⟩
        have hp1 := hp.perm hpm
        obtain ⟨q1, q2, q3, q4, q6, q7, q8, q9⟩ := hp1
        obtain ⟨p, hh, hp1', hp2', hh3, h115⟩ := f115 F hF e1 a' b' id N σ1 n2 0 q7 h9 (by omega) q2 hn
        simp +contextual -implicitDefEqProofs (maxSteps := 2000000) only [↓wP, wQ, wQ1, wQ2, wQ3, wR, boxE, partsOf, ↓reduceIte, n1w, n2w, n3w, n4w, n5w, n6w, reduceCtorEq, i1w, i2w, i3w, i4w, i5w, h2, h3, h4, h5, h6, h7, h8, hlen, h115]
        refine condC_cut (fun env' σ' n' => ∃ (p' : Nat) (h' : Int) (e2 : Array Rw), n2 ≤ n' ∧ env' 0 = .ref id 0 N 2 ∧ env' 1 = .int .i64 (a' : Int) ∧ env' 2 = .int .i64 (b' : Int) ∧ env' 3 = .int .i64 ((lim1 : Nat) : Int) ∧ env' 4 = .fn F [] ∧
            env' 10 = .bool wb ∧ env' 11 = .bool wp ∧ env' 12 = .int .i64 ((b' - a' : Nat) : Int) ∧ env' 13 = .int .i64 (p' : Int) ∧ env' 14 = .int .i64 h' ∧ a' ≤ p' ∧ p' < b' ∧ σ' id = some (.row 2 (rw' e2)) ∧ PermIn a' b' e e2 ∧ (∀ i, i ≠ id → i < n → σ' i = σ i)) ?_ ?_ ?_
        · intro hx
          have wb1 : IntKind.i64.wrap ((b' : Int) - 1) = ((b' - 1 : Nat) : Int) := by rw [wrap_i64] <;> omega
          have wpa : IntKind.i64.wrap ((p : Int) - (a' : Int)) = ((p - a' : Nat) : Int) := by rw [wrap_i64] <;> omega
          have wpp : IntKind.i64.wrap (((b' - 1 : Nat) : Int) - ((p - a' : Nat) : Int)) = ((b' - 1 - (p - a') : Nat) : Int) := by rw [wrap_i64] <;> omega
          simp +contextual -implicitDefEqProofs (maxSteps := 2000000) only [↓wP, wQ, wQ1, wQ2, wQ3, wR, boxE, partsOf, ↓reduceIte, n1w, n2w, n3w, n4w, n5w, n6w, reduceCtorEq, i1w, i2w, i3w, i4w, i5w, h2, h3, h4, h5, h6, h7, h8, hlen]
          refine stepW_raw (by decide) (raw116N F hF q7 a' b' id n2 σ1 (by omega) q2 hn h9 fun σ2 d2 g1 g2 => ?_)
          simp +contextual -implicitDefEqProofs (maxSteps := 2000000) only [↓wP, wQ, wQ1, wQ2, wQ3, wR, boxE, partsOf, ↓reduceIte, n1w, n2w, n3w, n4w, n5w, n6w, reduceCtorEq, i1w, i2w, i3w, i4w, i5w, h2, h3, h4, h5, h6, h7, h8, hlen, wb1, wpa, wpp]
          refine ⟨b' - 1 - (p - a'), 1, d2, ?_⟩
          have : ∀ i, i ≠ id → i < n → σ2 i = σ i := fun i hi hin => by rw [g1.2 i hi, hf i hi hin]
          have := permIn_trans _ _ _ _ _ hpm g2
          have := g1.1
          repeat' (first | assumption | rfl | omega | apply And.intro)
        · intro hx
          simp +contextual -implicitDefEqProofs (maxSteps := 2000000) only [↓wP, wQ, wQ1, wQ2, wQ3, wR, boxE, partsOf, ↓reduceIte, n1w, n2w, n3w, n4w, n5w, n6w, reduceCtorEq, i1w, i2w, i3w, i4w, i5w, h2, h3, h4, h5, h6, h7, h8, hlen]
          refine ⟨p, hh, e1, ?_⟩
          repeat' (first | assumption | rfl | omega | apply And.intro)
        · clear h2 h3 h4 h5 h6 h7 h8 hlen hpm hf h9 q1 q2 q3 q4 q6 q7 q8 q9 h115
          intro env σ1 n3 ⟨p', h', e2, hn3, h2, h3, h4, h5, h6, h7, h8, hlen, h13, h14, hpa, hpb, h9, hpm, hf⟩
          obtain ⟨q1, q2, q3, q4, q6, q7, q8, q9⟩ := hp.perm hpm
          simp +contextual -implicitDefEqProofs (maxSteps := 2000000) only [↓wP, wQ, wQ1, wQ2, wQ3, wR, boxE, partsOf, ↓reduceIte, n1w, n2w, n3w, n4w, n5w, n6w, reduceCtorEq, i1w, i2w, i3w, i4w, i5w, h2, h3, h4, h5, h6, h7, h8, hlen, h13, h14]
          refine condC_cut (fun env' σ' n' => ∃ (e3 : Array Rw), n3 ≤ n' ∧ env' 0 = .ref id 0 N 2 ∧ env' 1 = .int .i64 (a' : Int) ∧ env' 2 = .int .i64 (b' : Int) ∧ env' 3 = .int .i64 ((lim1 : Nat) : Int) ∧ env' 4 = .fn F [] ∧
              env' 10 = .bool wb ∧ env' 11 = .bool wp ∧ env' 12 = .int .i64 ((b' - a' : Nat) : Int) ∧ env' 13 = .int .i64 (p' : Int) ∧ σ' id = some (.row 2 (rw' e3)) ∧ PermIn a' b' e e3 ∧ (∀ i, i ≠ id → i < n → σ' i = σ i)) ?_ ?_ ?_
          · intro hx
            simp +contextual -implicitDefEqProofs (maxSteps := 2000000) only [↓wP, wQ, wQ1, wQ2, wQ3, wR, boxE, partsOf, ↓reduceIte, n1w, n2w, n3w, n4w, n5w, n6w, reduceCtorEq, i1w, i2w, i3w, i4w, i5w, h2, h3, h4, h5, h6, h7, h8, hlen, h13, h14]
            refine stepW_raw (by decide) (raw117 F hF e2 N a' b' id n3 σ1 q7 (by omega) q2 hn h9 fun σ2 hat => ?_)
            obtain ⟨ps1, ps2⟩ := partialInsertionSort_holds (lt := ahR) swoA e2 a' b' (by omega) (by omega) q8
            generalize (partialInsertionSort ahR e2 a' b').1 = e3 at *
            generalize (partialInsertionSort ahR e2 a' b').2 = r at *
            have hfr : ∀ i, i ≠ id → i < n → σ2 i = σ i := fun i hi hin => by rw [hat.2 i hi, hf i hi hin]
            have hpm3 := permIn_trans _ _ _ _ _ hpm ps1
            cases r
            · simp +contextual -implicitDefEqProofs (maxSteps := 2000000) only [↓wP, wQ, wQ1, wQ2, wQ3, wR, boxE, partsOf, ↓reduceIte, n1w, n2w, n3w, n4w, n5w, n6w, reduceCtorEq, i1w, i2w, i3w, i4w, i5w, h2, h3, h4, h5, h6, h7, h8, hlen, h13, h14]
              exact ⟨e3, hat.1, hpm3, hfr⟩
            · simp +contextual -implicitDefEqProofs (maxSteps := 2000000) only [↓wP, wQ, wQ1, wQ2, wQ3, wR, boxE, partsOf, ↓reduceIte, n1w, n2w, n3w, n4w, n5w, n6w, reduceCtorEq, i1w, i2w, i3w, i4w, i5w, h2, h3, h4, h5, h6, h7, h8, hlen, h13, h14]
              have hR := q9 e3 ps1 (ps2 rfl)
              exact hQ _ _ _ (by omega) hat.1 hfr hR.1 hR.2
          · intro hx
            simp +contextual -implicitDefEqProofs (maxSteps := 2000000) only [↓wP, wQ, wQ1, wQ2, wQ3, wR, boxE, partsOf, ↓reduceIte, n1w, n2w, n3w, n4w, n5w, n6w, reduceCtorEq, i1w, i2w, i3w, i4w, i5w, h2, h3, h4, h5, h6, h7, h8, hlen, h13, h14]
            exact ⟨e2, h9, hpm, hf⟩
          · clear h2 h3 h4 h5 h6 h7 h8 hlen h13 h14 hpm hf h9 q1 q2 q3 q4 q6 q7 q8 q9
            intro env σ2 n4 ⟨e3, hn4, h2, h3, h4, h5, h6, h7, h8, hlen, h13, h9, hpm, hf⟩
            have hn3' : n1 ≤ n4 := by omega
            clear hn4
            rename_i e2old
            obtain ⟨q1, q2, q3, q4, q6, q7, q8, q9⟩ := hp.perm hpm
            generalize e3 = e2 at *
            rw [seqQ_normal, WC_seq]
            refine WC_cut (fun env' σ' n' => n' = n4 ∧ σ' = σ2 ∧ env' 0 = .ref id 0 N 2 ∧ env' 1 = .int .i64 (a' : Int) ∧ env' 2 = .int .i64 (b' : Int) ∧ env' 3 = .int .i64 ((lim1 : Nat) : Int) ∧ env' 4 = .fn F [] ∧
              env' 10 = .bool wb ∧ env' 11 = .bool wp ∧ env' 12 = .int .i64 ((b' - a' : Nat) : Int) ∧ env' 13 = .int .i64 (p' : Int)) ?_ ?_
            · by_cases ha0 : 0 < a'
              · have ha0' : (0 : Int) < (a' : Int) := by omega
                have wa1 : IntKind.i64.wrap ((a' : Int) - 1) = ((a' - 1 : Nat) : Int) := by rw [wrap_i64] <;> omega
                have x1 := rw_at (d := e2) (i := a' - 1) (by omega)
                have x2 := rw_at (d := e2) (i := p') (by omega)
                have l1 : a' - 1 < N := by omega
                have l2 : p' < N := by omega
                by_cases hc : cmpU (e2[a' - 1]!).id (e2[p']!).id < 0
                · simp +contextual -implicitDefEqProofs (maxSteps := 2000000) only [↓wP, wQ, wQ1, wQ2, wQ3, wR, boxE, partsOf, ↓reduceIte, n1w, n2w, n3w, n4w, n5w, n6w, reduceCtorEq, i1w, i2w, i3w, i4w, i5w, h2, h3, h4, h5, h6, h7, h8, hlen, h13, ha0', wa1, h9, x1, x2, l1, l2, hF, hc]
                · have hah : ahR e2[a' - 1]! e2[p']! = false := by rw [← cmp_lt]; simpa using hc
                  simp +contextual -implicitDefEqProofs (maxSteps := 2000000) only [↓wP, wQ, wQ1, wQ2, wQ3, wR, boxE, partsOf, ↓reduceIte, n1w, n2w, n3w, n4w, n5w, n6w, reduceCtorEq, i1w, i2w, i3w, i4w, i5w, h2, h3, h4, h5, h6, h7, h8, hlen, h13, ha0', wa1, h9, x1, x2, l1, l2, hF, hc]
                  refine stepW_raw (by decide) (raw118N F hF q7 a' b' p' id n4 σ2 hpa hpb q2 hn h9 fun σ5 hat => ?_)
                  obtain ⟨r1, r2, r3, r4, r5⟩ := round_eq (lt := ahR) swoA (partitionEqual_holds ahR) (d3 := e2) (d4 := (partitionEqual ahR e2 a' b' p').2) (mid := (partitionEqual ahR e2 a' b' p').1) (a := a') (b := b') (pivot := p') ha0 hpa hpb (by omega) q8 hah rfl
                  simp +contextual -implicitDefEqProofs (maxSteps := 2000000) only [↓wP, wQ, wQ1, wQ2, wQ3, wR, boxE, partsOf, ↓reduceIte, n1w, n2w, n3w, n4w, n5w, n6w, reduceCtorEq, i1w, i2w, i3w, i4w, i5w, h2, h3, h4, h5, h6, h7, h8, hlen, h13]
                  generalize (partitionEqual ahR e2 a' b' p').2 = e3 at *
                  generalize (partitionEqual ahR e2 a' b' p').1 = mid at *
                  have hfr : ∀ i, i ≠ id → i < n → σ5 i = σ i := fun i hi hin => by rw [hat.2 i hi, hf i hi hin]
                  refine ⟨((mid, b'), lim1), by dsimp only; omega, by omega, rfl, rfl, rfl, ⟨_, rfl⟩, ⟨_, rfl⟩, hfr, e3, ⟨r2, q2, by dsimp only; omega, by dsimp only; omega, by dsimp only; omega, by rw [r3, q7], r4, fun R hR hs => ?_⟩, hat.1⟩
                  obtain ⟨t1, t2⟩ := r5 R hR hs
                  exact q9 R t1 t2
              · have ha0' : ¬ (0 : Int) < (a' : Int) := by omega
                simp +contextual -implicitDefEqProofs (maxSteps := 2000000) only [↓wP, wQ, wQ1, wQ2, wQ3, wR, boxE, partsOf, ↓reduceIte, n1w, n2w, n3w, n4w, n5w, n6w, reduceCtorEq, i1w, i2w, i3w, i4w, i5w, h2, h3, h4, h5, h6, h7, h8, hlen, h13, ha0']
            · clear h2 h3 h4 h5 h6 h7 h8 hlen h13
              intro env σ3 n5 ⟨hn5, hs5, h2, h3, h4, h5, h6, h7, h8, hlen, h13⟩
              subst hn5 hs5
              simp +contextual -implicitDefEqProofs (maxSteps := 2000000) only [↓wP, wQ, wQ1, wQ2, wQ3, wR, boxE, partsOf, ↓reduceIte, n1w, n2w, n3w, n4w, n5w, n6w, reduceCtorEq, i1w, i2w, i3w, i4w, i5w, h2, h3, h4, h5, h6, h7, h8, hlen, h13]
              refine stepW_raw (by decide) (raw119N F hF q7 a' b' p' id n5 σ3 hpa hpb q2 hn h9 fun σ5 hat => ?_)
              obtain ⟨r1, r2, r3, r4, r5, r6, r7⟩ := round_part (lt := ahR) swoA (partition_holds ahR) (d3 := e2) (d4 := (partition ahR e2 a' b' p').2.2) (mid := (partition ahR e2 a' b' p').1) (ap := (partition ahR e2 a' b' p').2.1) (a := a') (b := b') (pivot := p') hpa hpb (by omega) q8 rfl
              generalize (partition ahR e2 a' b' p').2.2 = e3 at *
              generalize (partition ahR e2 a' b' p').1 = mid at *
              generalize (partition ahR e2 a' b' p').2.1 = ap at *
              have hfr : ∀ i, i ≠ id → i < n → σ5 i = σ i := fun i hi hin => by rw [hat.2 i hi, hf i hi hin]
              have wma : IntKind.i64.wrap ((mid : Int) - (a' : Int)) = ((mid - a' : Nat) : Int) := by rw [wrap_i64] <;> omega
              have wbm : IntKind.i64.wrap ((b' : Int) - (mid : Int)) = ((b' - mid : Nat) : Int) := by rw [wrap_i64] <;> omega
              have wm1 : IntKind.i64.wrap ((mid : Int) + 1) = ((mid + 1 : Nat) : Int) := by rw [wrap_i64] <;> omega
              have q8' := bin_quo8 (b' - a') (by omega)
              have hsz : e3.size = N := by rw [r3, q7]
              by_cases hlr : mid - a' < b' - mid
              · have hlr' : ((mid - a' : Nat) : Int) < ((b' - mid : Nat) : Int) := by omega
                simp +contextual -implicitDefEqProofs (maxSteps := 2000000) only [↓wP, wQ, wQ1, wQ2, wQ3, wR, boxE, partsOf, ↓reduceIte, n1w, n2w, n3w, n4w, n5w, n6w, reduceCtorEq, i1w, i2w, i3w, i4w, i5w, h2, h3, h4, h5, h6, h7, h8, hlen, h13, wma, wbm, wm1, q8', hlr']
                refine stepW_raw (by decide) (ih e3 a' mid lim1 id n5 N σ5 (by omega) r1 (by omega) (by omega) hn (by omega) (by omega) hsz hat.1 r4 fun σ6 d6 n6 k1 k2 k3 k4 k5 => ?_)
                obtain ⟨t1, t2⟩ := r6 d6 k4 k5
                simp +contextual -implicitDefEqProofs (maxSteps := 2000000) only [↓wP, wQ, wQ1, wQ2, wQ3, wR, boxE, partsOf, ↓reduceIte, n1w, n2w, n3w, n4w, n5w, n6w, reduceCtorEq, i1w, i2w, i3w, i4w, i5w, h2, h3, h4, h5, h6, h7, h8, hlen, h13, wm1]
                have hfr2 : ∀ i, i ≠ id → i < n → σ6 i = σ i := fun i hi hin => by rw [k3 i hi (by omega), hfr i hi hin]
                refine ⟨((mid + 1, b'), lim1), by dsimp only; omega, by omega, rfl, rfl, rfl, ⟨_, rfl⟩, ⟨_, rfl⟩, hfr2, d6, ⟨by dsimp only; omega, q2, by dsimp only; omega, by dsimp only; omega, by dsimp only; omega, by rw [k4.1, hsz], t1, fun R hR hs => ?_⟩, k2⟩
                obtain ⟨u1, u2⟩ := t2 R hR hs
                exact q9 R u1 u2
              · have hlr' : ¬ ((mid - a' : Nat) : Int) < ((b' - mid : Nat) : Int) := by omega
                simp +contextual -implicitDefEqProofs (maxSteps := 2000000) only [↓wP, wQ, wQ1, wQ2, wQ3, wR, boxE, partsOf, ↓reduceIte, n1w, n2w, n3w, n4w, n5w, n6w, reduceCtorEq, i1w, i2w, i3w, i4w, i5w, h2, h3, h4, h5, h6, h7, h8, hlen, h13, wma, wbm, wm1, q8', hlr']
                refine stepW_raw (by decide) (ih e3 (mid + 1) b' lim1 id n5 N σ5 (by omega) (by omega) (by omega) q2 hn (by omega) (by omega) hsz hat.1 r5 fun σ6 d6 n6 k1 k2 k3 k4 k5 => ?_)
                obtain ⟨t1, t2⟩ := r7 d6 k4 k5
                simp +contextual -implicitDefEqProofs (maxSteps := 2000000) only [↓wP, wQ, wQ1, wQ2, wQ3, wR, boxE, partsOf, ↓reduceIte, n1w, n2w, n3w, n4w, n5w, n6w, reduceCtorEq, i1w, i2w, i3w, i4w, i5w, h2, h3, h4, h5, h6, h7, h8, hlen, h13]
                have hfr2 : ∀ i, i ≠ id → i < n → σ6 i = σ i := fun i hi hin => by rw [k3 i hi (by omega), hfr i hi hin]
                refine ⟨((a', mid), lim1), by dsimp only; omega, by omega, rfl, rfl, rfl, ⟨_, rfl⟩, ⟨_, rfl⟩, hfr2, d6, ⟨by dsimp only; omega, by dsimp only; omega, by dsimp only; omega, by dsimp only; omega, by dsimp only; omega, by rw [k4.1, hsz], t1, fun R hR hs => ?_⟩, k2⟩
                obtain ⟨u1, u2⟩ := t2 R hR hs
                exact q9 R u1 u2
  · simp +contextual -implicitDefEqProofs (maxSteps := 2000000) only [↓wP, wQ, wQ1, wQ2, wQ3, wR, boxE, partsOf, ↓reduceIte, n1w, n2w, n3w, n4w, n5w, n6w, reduceCtorEq, i1w, i2w, i3w, i4w, i5w]
    exact ⟨⟨true, rfl⟩, ⟨true, rfl⟩, fun _ _ _ => trivial, d, ⟨hab, hb, by omega, h50, hlim, hN, hB, fun R hR hs => ⟨hR, hs⟩⟩, hσ⟩
theorem raw103 (F : Nat) (hF : CmpF F) : ∀ L : Nat, Sorts F L
  | 0 => fun _ _ _ _ _ _ _ _ h => absurd h (by omega)
  | L + 1 => raw103_step F hF L (raw103 F hF L)
def chk104 (m : Nat) : Bool := match exJob T 60 (.pure 104 [.int .u64 (m : Int)]) with
  | some (.val (.int .i64 M)) => decide (0 ≤ M ∧ M < 1000)
  | _ => false
theorem all104 : (List.range 129).all chk104 = true := by decide +kernel
theorem r104 (m : Nat) (h : m < 129) : ∃ M : Nat, M < 1000 ∧ res T 104 [.int .u64 (m : Int)] = some (.int .i64 (M : Int)) := by
  have h := List.all_eq_true.1 all104 m (List.mem_range.2 h)
  unfold chk104 at h
  split at h
  · rename_i M hM
    simp only [decide_eq_true_eq] at h
    refine ⟨M.toNat, by omega, ?_⟩
    rw [show ((M.toNat : Nat) : Int) = M by omega]
    exact run_res (exJob_sound 60 _ _ hM)
  · cases h
theorem raw75 (F : Nat) (hF : CmpF F) (d : Array Rw) (id n : Nat) (σ : Sto) (hd : d.size < 129) (hid : id < n) (hσ : σ id = some (.row 2 (rw' d))) {Q : V → Sto → Nat → Prop}
    (hQ : ∀ σ' d' n', n ≤ n' → σ' id = some (.row 2 (rw' d')) → (∀ i, i ≠ id → i < n → σ' i = σ i) → PermIn 0 d.size d d' → SortedIn ahR 0 d.size d' → Q .undef σ' n') :
    run T (.raw 75 [.ref id 0 d.size 2, .fn F []] σ n 0) (memQ Q) := by
  refine run_rawE (fn := g75) rfl rfl ?_
  simp only [g75, b75, oO, oN, mV, lD, gO, pP, qQ, cI, aR]
  obtain ⟨M, h2, h3⟩ := r104 d.size hd
  have f104 := callE_tr (fs := true) (by decide) h3 (by simp [Tr]) rfl
  have wu : IntKind.u64.wrap ((d.size : Nat) : Int) = ((d.size : Nat) : Int) := by rw [wrap_u64] <;> omega
  simp +contextual -implicitDefEqProofs (maxSteps := 2000000) only [↓wP, wQ, wQ1, wQ2, wQ3, wR, boxE, partsOf, ↓reduceIte, n1w, n2w, n3w, n4w, n5w, n6w, reduceCtorEq, i1w, i2w, i3w, i4w, i5w, wu, f104]
  refine stepW_raw (by decide) (raw103 F hF (d.size + 1) d 0 d.size M id n d.size σ (by omega) (by omega) (by omega) (by omega) (by omega) h2 hid rfl hσ (.inl rfl) fun σ' d' n' k1 k2 k3 k4 k5 => ?_)
  simp +contextual -implicitDefEqProofs (maxSteps := 2000000) only [↓wP, wQ, wQ1, wQ2, wQ3, wR, boxE, partsOf, ↓reduceIte, n1w, n2w, n3w, n4w, n5w, n6w, reduceCtorEq, i1w, i2w, i3w, i4w, i5w]
  exact hQ σ' d' n' k1 k2 k3 k4 k5
end Go.Q.SB
end

section
/- Rows at a time: facts gone over, a map's rows. -/
set_option linter.unusedSimpArgs false
set_option linter.unusedVariables false
namespace Go.Q.SB
open Go.Q Go.Sort
open Nat renaming reduceEqDiff → n1w, reduceAdd → n2w, reduceSub → n3w, reduceLeDiff → n4w, reduceLT → n5w, reduceMul → n6w
open Int renaming reduceBNe → i1w, reduceBEq → i2w, reduceLT → i3w, reduceLE → i4w, reduceGT → i5w
theorem r74 (v : Vc) (h : (lst v).length ≤ 1000000) : res T 74 [slV 1 i32V v] = some (slV 1 i32V v) := by
  refine run_res (run_pure (fn := g74) rfl rfl (by decide) ?_)
  simp only [g74, b74, oO, oN, mV, lD, gO, pP, qQ, cI, aR]
  cases v with
  | none => simp +contextual -implicitDefEqProofs (maxSteps := 2000000) only [↓wP, wQ, wQ1, wQ2, wQ3, wR, boxE, partsOf, ↓reduceIte, n1w, n2w, n3w, n4w, n5w, n6w, reduceCtorEq, i1w, i2w, i3w, i4w, i5w, slV_none, Option.isNone_none]
  | some l =>
    rw [lst_some] at h
    have hl : (l.map i32V).length * 4 ≤ LIM := by rw [List.length_map]; unfold LIM; omega
    simp +contextual -implicitDefEqProofs (maxSteps := 2000000) only [↓wP, wQ, wQ1, wQ2, wQ3, wR, boxE, partsOf, ↓reduceIte, n1w, n2w, n3w, n4w, n5w, n6w, reduceCtorEq, i1w, i2w, i3w, i4w, i5w, slV_some, hl, true_or]
    have := (fz_vec (σ := upd (upd (upd Sto.empty 0 (some (.row 1 []))) 0 none) 1 (some (.row 1 (l.map i32V)))) (i := 1) (L := l) (by simp [upd]) (S := fun _ => True) trivial)
    have h12 := (Fz.ref (k := 11) (S := fun _ => True) (σ := upd (upd (upd Sto.empty 0 (some (.row 1 []))) 0 none) 1 (some (.row 1 (l.map i32V)))) (id := 1) (sz := 1) (xs := l.map i32V) (by simp [upd]) trivial (FzL.trees (fun y hy => by obtain ⟨t, -, rfl⟩ := List.mem_map.1 hy; rfl) (fun y hy c hc => by obtain ⟨t, -, rfl⟩ := List.mem_map.1 hy; simp [i32V, V.cells] at hc; subst hc; rfl))).1
    simpa using h12
theorem f74 (v : Vc) (h : (lst v).length ≤ 1000000) (fs : Bool) (σ : Sto) (n lk : Nat) : callE T fs 74 [slV 1 i32V v] σ n lk = some (slV 1 i32V v, σ, n) :=
  callE_tr (by decide) (r74 v h) (by simp [Tr, Tr_slV]) (Nw_slV _ _ _ _) fs σ n lk
theorem r65 (l : Option (List Fa)) (G : V) (hG : frz (upd (upd Sto.empty 0 (some (.row 1 [slV 5 faV l]))) 1 (some (.row 1 [G]))) 10 G = some G) (hG1 : G.one = true) (hG2 : G.cells = [G]) : res T 65 [slV 5 faV l, G] = some (.fn 97 [.box [slV 5 faV l], .box [G]]) := by
  refine run_res (run_pure (fn := g65) rfl rfl (by decide) ?_)
  simp only [g65, b65, oO, oN, mV, lD, gO, pP, qQ, cI, aR]
  simp +contextual -implicitDefEqProofs (maxSteps := 2000000) only [↓wP, wQ, wQ1, wQ2, wQ3, wR, boxE, partsOf, ↓reduceIte, n1w, n2w, n3w, n4w, n5w, n6w, reduceCtorEq, i1w, i2w, i3w, i4w, i5w, hG1, hG2, hG]
  done
def cnt (c t : Int) (f : Fa) : Bool := f.w.c == c && decide (f.ts ≤ t)
theorem r95 (f : Fa) (c t : Int) : res T 95 [faV f, .box [.int .i64 c], .box [.int .u64 t]] = some (.bool (cnt c t f)) := by
  refine run_res (run_pure (fn := g95) rfl rfl (by decide) ?_)
  simp only [g95, b95, oO, oN, mV, lD, gO, pP, qQ, cI, aR]
  obtain ⟨ts, ⟨wc, id, g, v⟩⟩ := f
  unfold cnt
  simp only
  cases hc : (wc == c)
  · simp +contextual -implicitDefEqProofs (maxSteps := 2000000) only [↓wP, wQ, wQ1, wQ2, wQ3, wR, boxE, partsOf, ↓reduceIte, n1w, n2w, n3w, n4w, n5w, n6w, reduceCtorEq, i1w, i2w, i3w, i4w, i5w, faV_eq, hc]
  · simp +contextual -implicitDefEqProofs (maxSteps := 2000000) only [↓wP, wQ, wQ1, wQ2, wQ3, wR, boxE, partsOf, ↓reduceIte, n1w, n2w, n3w, n4w, n5w, n6w, reduceCtorEq, i1w, i2w, i3w, i4w, i5w, faV_eq, hc]
theorem f95 (f : Fa) (c t : Int) (fs : Bool) (σ : Sto) (n lk : Nat) : callE T fs 95 [faV f, .box [.int .i64 c], .box [.int .u64 t]] σ n lk = some (.bool (cnt c t f), σ, n) :=
  callE_tr (by decide) (r95 f c t) (by simp [Tr, Tr_slV, faV_eq]) rfl fs σ n lk
theorem r59 (c : Int) : res T 59 [.int .i64 c] = some (.int .i64 (if collB c = true then 0 else 2)) := by
  refine run_res (run_pure (fn := g59) rfl rfl (by decide) ?_)
  simp only [g59, b59, oO, oN, mV, lD, gO, pP, qQ, cI, aR]
  unfold collB
  by_cases h1 : c < 0
  · have e : decide (0 ≤ c) = false := decide_eq_false (by omega)
    rw [e]
    simp +contextual -implicitDefEqProofs (maxSteps := 2000000) only [↓wP, wQ, wQ1, wQ2, wQ3, wR, boxE, partsOf, ↓reduceIte, n1w, n2w, n3w, n4w, n5w, n6w, reduceCtorEq, i1w, i2w, i3w, i4w, i5w, h1]
  · have e : decide (0 ≤ c) = true := decide_eq_true (by omega)
    rw [e]
    by_cases h2 : 3 ≤ c
    · have e : decide (c < 3) = false := decide_eq_false (by omega)
      rw [e]
      simp +contextual -implicitDefEqProofs (maxSteps := 2000000) only [↓wP, wQ, wQ1, wQ2, wQ3, wR, boxE, partsOf, ↓reduceIte, n1w, n2w, n3w, n4w, n5w, n6w, reduceCtorEq, i1w, i2w, i3w, i4w, i5w, h1, h2]
    · have e : decide (c < 3) = true := decide_eq_true (by omega)
      rw [e]
      simp +contextual -implicitDefEqProofs (maxSteps := 2000000) only [↓wP, wQ, wQ1, wQ2, wQ3, wR, boxE, partsOf, ↓reduceIte, n1w, n2w, n3w, n4w, n5w, n6w, reduceCtorEq, i1w, i2w, i3w, i4w, i5w, h1, h2]
theorem f59 (c : Int) (fs : Bool) (σ : Sto) (n lk : Nat) : callE T fs 59 [.int .i64 c] σ n lk = some (.int .i64 (if collB c = true then 0 else 2), σ, n) :=
  callE_tr (by decide) (r59 c) (by simp [Tr, Tr_slV]) rfl fs σ n lk
theorem that97 (l : Option (List Fa)) (F : Nat) (caps : List V) (p : Fa → Bool) (J : Nat → Sto → Nat → Prop) (lid : Nat) (hl : (lst l).length ≤ 1000000)
    (hp : ∀ f fs σ n lk, callE T fs F (faV f :: caps) σ n lk = some (.bool (p f), σ, n))
    (hal : ∀ j σ n σ', J j σ n → (∀ i, i ≠ n → σ' i = σ i) → J j σ' (n + 1))
    (hs : ∀ j σ n (h : j < (lst l).length), J j σ n → p (lst l)[j] = false → J (j + 1) σ n)
    (hy : ∀ j σ n (h : j < (lst l).length), J j σ n → p (lst l)[j] = true → yieldW (run T) lid [faV (lst l)[j]] σ n 0 (fun y σ' n' => y = .bool true ∧ J (j + 1) σ' n'))
    (σ0 : Sto) (n0 : Nat) (h0 : J 0 σ0 n0) : run T (.raw 97 [.yld lid, .box [slV 5 faV l], .box [.fn F caps]] σ0 n0 0) (memQ fun _ σ' n' => J (lst l).length σ' n') := by
  refine run_rawE (fn := g97) rfl rfl ?_
  simp only [g97, b97, oO, oN, mV, lD, gO, pP, qQ, cI, aR]
  simp +contextual -implicitDefEqProofs (maxSteps := 2000000) only [↓wP, wQ, wQ1, wQ2, wQ3, wR, boxE, partsOf, ↓reduceIte, n1w, n2w, n3w, n4w, n5w, n6w, reduceCtorEq, i1w, i2w, i3w, i4w, i5w]
  refine WC_for (lst l).length 0 (fun (j : Nat) env σ n => env 0 = .yld lid ∧ env 2 = .box [.fn F caps] ∧ env 6 = slV 5 faV l ∧ J j σ n) (by omega) (by decide) (by decide) (fun _ _ => rfl) (fun _ _ _ => rfl) ?_ ?_ _ _ _ rfl rfl ?_
  · intro j env σ n hj h1 h2 ⟨g1, g2, g3, g4⟩
    simp only [vl_tmp] at h2
    have hx : (lst l)[j]? = some (lst l)[j] := List.getElem?_eq_getElem hj
    have hs' := hs j
    have hy' := hy j
    obtain ⟨x, hxx⟩ : ∃ x, x = (lst l)[j] := ⟨_, rfl⟩
    rw [← hxx] at hx
    have hp' := hp x
    rw [faV_eq] at hp'
    obtain ⟨σ1, hσ1⟩ : ∃ σ1, σ1 = upd (upd σ n (some (.row 5 [.agg [.int .u64 0, .int .i64 0, .int .u64 0, .bool false, .nilS]]))) n (some (.row 5 [.agg [.int .u64 x.ts, .int .i64 x.w.c, .int .u64 x.w.id, .bool x.w.g, slV 1 i32V x.w.v]])) := ⟨_, rfl⟩
    have sn : σ1 n = some (.row 5 [.agg [.int .u64 x.ts, .int .i64 x.w.c, .int .u64 x.w.id, .bool x.w.g, slV 1 i32V x.w.v]]) := by rw [hσ1, upd_self]
    have hJ1 := hal j σ n σ1 g4 (fun i hi => by rw [hσ1, upd_ne hi, upd_ne hi])
    cases hq : p x
    · rw [hq] at hp'
      have hn := hs' σ1 (n + 1) hj hJ1 (by rw [← hxx]; exact hq)
      simp +contextual -implicitDefEqProofs (maxSteps := 2000000) only [↓wP, wQ, wQ1, wQ2, wQ3, wR, boxE, partsOf, ↓reduceIte, n1w, n2w, n3w, n4w, n5w, n6w, reduceCtorEq, i1w, i2w, i3w, i4w, i5w, h1, h2, g1, g2, g3, hx, faV_eq, ← hσ1, sn, hp']
      exact hn
    · rw [hq] at hp'
      have hn := hy' σ1 (n + 1) hj hJ1 (by rw [← hxx]; exact hq)
      rw [← hxx, faV_eq] at hn
      simp +contextual -implicitDefEqProofs (maxSteps := 2000000) only [↓wP, wQ, wQ1, wQ2, wQ3, wR, boxE, partsOf, ↓reduceIte, n1w, n2w, n3w, n4w, n5w, n6w, reduceCtorEq, i1w, i2w, i3w, i4w, i5w, h1, h2, g1, g2, g3, hx, faV_eq, ← hσ1, sn, hp']
      refine stepW_yld (yieldW_mono (fun _ _ x => x) run_mono (fun y σ' n' ⟨hy1, hy2⟩ => ?_) hn)
      subst hy1
      simp +contextual -implicitDefEqProofs (maxSteps := 2000000) only [↓wP, wQ, wQ1, wQ2, wQ3, wR, boxE, partsOf, ↓reduceIte, n1w, n2w, n3w, n4w, n5w, n6w, reduceCtorEq, i1w, i2w, i3w, i4w, i5w, h1, h2, g1, g2, g3]
      exact hy2
  · intro env σ n ⟨g1, g2, g3, g4⟩ h1 h2
    simp +contextual -implicitDefEqProofs (maxSteps := 2000000) only [↓wP, wQ, wQ1, wQ2, wQ3, wR, boxE, partsOf, ↓reduceIte, n1w, n2w, n3w, n4w, n5w, n6w, reduceCtorEq, i1w, i2w, i3w, i4w, i5w]
    exact g4
  · exact ⟨rfl, rfl, rfl, h0⟩
end Go.Q.SB
end

section
/- The rows at a time: the loop over facts. -/
set_option linter.unusedSimpArgs false
set_option linter.unusedVariables false
namespace Go.Q.SB
open Go.Q Go.Sort
open Nat renaming reduceEqDiff → n1w, reduceAdd → n2w, reduceSub → n3w, reduceLeDiff → n4w, reduceLT → n5w, reduceMul → n6w
open Int renaming reduceBNe → i1w, reduceBEq → i2w, reduceLT → i3w, reduceLE → i4w, reduceGT → i5w
def nowStep (c t : Int) (R : List Rw) (f : Fa) : List Rw := if cnt c t f = true then ovStep R f.w else R
def nowR (l : List Fa) (c t : Int) : List Rw := l.foldl (nowStep c t) []
theorem nowR_snoc (l : List Fa) (f : Fa) (c t : Int) : nowR (l ++ [f]) c t = nowStep c t (nowR l c t) f := by unfold nowR; rw [List.foldl_append]; rfl
theorem nowR_take {l : List Fa} {j : Nat} (h : j < l.length) (c t : Int) : nowR (l.take (j + 1)) c t = nowStep c t (nowR (l.take j) c t) l[j] := by
  rw [← List.take_append_getElem h, nowR_snoc]
theorem nowLoop {env : Nat → V} {σ : Sto} {n : Nat} {Q : Ex → St → Prop} (l : Option (List Fa)) (c t : Int) (hl : (lst l).length ≤ 1000000)
    (hg : env 15 = .fn 97 [.box [slV 5 faV l], .box [.fn 95 [.box [.int .i64 c], .box [.int .u64 t]]]]) (hm : env 7 = .ptr 3 1 0 0) (h3 : σ 3 = some (.row 1 [.mp 2])) (h2 : σ 2 = some (.map (ens uV vV []) 0)) (hn : 4 ≤ n)
    (hQ : ∀ σ' n', (∀ i, i < n → i ≠ 2 → σ' i = σ i) → n ≤ n' → (∃ Lm clk, MOk Lm clk ∧ σ' 2 = some (.map (ens uV vV Lm) clk) ∧ RM (nowR (lst l) c t) Lm) → Q .normal ⟨env, σ', n', 0⟩) :
    WC T (.rangeF (.tmp 15) [16] (.reg [⟨some 8, none, .alloc (.agg [.int .u64 0, .int .i64 0, .int .u64 0, .bool false, .nilS])⟩, ⟨none, none, .store 5 (.tmp 8) (.tmp 16)⟩])
      (.block 1 (.seq (.reg [⟨some 17, none, .faddr (.tmp 8) 1⟩, ⟨some 18, none, .faddr (.tmp 17) 2⟩, ⟨some 19, none, .load false 1 (.tmp 18)⟩])
       (.cond (.tmp 19)
        (.reg [⟨some 20, none, .load false 1 (.tmp 7)⟩, ⟨some 21, none, .faddr (.tmp 8) 1⟩, ⟨some 22, none, .faddr (.tmp 21) 1⟩, ⟨some 23, none, .load false 1 (.tmp 22)⟩, ⟨none, none, .mdel (.one .int) (.tmp 20) (.tmp 23)⟩])
        (.reg [⟨some 24, none, .load false 1 (.tmp 7)⟩, ⟨some 25, none, .faddr (.tmp 8) 1⟩, ⟨some 26, none, .faddr (.tmp 25) 1⟩, ⟨some 27, none, .load false 1 (.tmp 26)⟩, ⟨some 28, none, .faddr (.tmp 8) 1⟩, ⟨some 29, none, .faddr (.tmp 28) 3⟩, ⟨some 30, none, .load false 1 (.tmp 29)⟩,
          ⟨none, none, .mupd (.one .int) (.tmp 24) (.tmp 27) (.tmp 30)⟩]))))) env σ n 0 Q := by
  refine WC_rangeF hg (Nat.zero_le _) ?_
  generalize hA : AC.reg [⟨some 8, none, .alloc (.agg [.int .u64 0, .int .i64 0, .int .u64 0, .bool false, .nilS])⟩, ⟨none, none, .store 5 (.tmp 8) (.tmp 16)⟩] = asg
  generalize hB : AC.block 1 _ = bd
  refine run_mono _ _ _ (fun o ho => ?_) (that97 l 95 [.box [.int .i64 c], .box [.int .u64 t]] (cnt c t) (fun j σ' n' => n < n' ∧ (∀ i, i < n → i ≠ 2 → σ' i = σ i) ∧ σ' n = some (.loop env [16] asg bd .ready none) ∧
    ∃ Lm clk, MOk Lm clk ∧ σ' 2 = some (.map (ens uV vV Lm) clk) ∧ RM (nowR ((lst l).take j) c t) Lm) n hl (fun f fs σ n lk => f95 f c t fs σ n lk) ?_ ?_ ?_ _ _ ?_)
  · cases o <;> try exact ho.elim
    obtain ⟨e1, e2, e3, Lm, clk, m1, m2, m3⟩ := ho
    rw [List.take_length] at m3
    refine ⟨_, _, _, _, _, _, e3, by decide, ?_⟩
    exact hQ _ _ (fun i hi h2 => by rw [upd_ne (by omega)]; exact e2 i hi h2) (by omega) ⟨Lm, clk, m1, by rw [upd_ne (by omega)]; exact m2, m3⟩
  · rintro j σ' n' σ2 ⟨e1, e2, e3, Lm, clk, m1, m2, m3⟩ hσ
    exact ⟨by omega, fun i hi h2 => by rw [hσ i (by omega)]; exact e2 i hi h2, by rw [hσ n (by omega)]; exact e3, Lm, clk, m1, by rw [hσ 2 (by omega)]; exact m2, m3⟩
  · rintro j σ' n' hj ⟨e1, e2, e3, Lm, clk, m1, m2, m3⟩ hp
    refine ⟨e1, e2, e3, Lm, clk, m1, m2, ?_⟩
    rw [nowR_take hj]
    unfold nowStep
    rw [hp]
    exact m3
  · rintro j σ' n' hj ⟨e1, e2, e3, Lm, clk, m1, m2, m3⟩ hp
    have hst : nowR ((lst l).take (j + 1)) c t = ovStep (nowR ((lst l).take j) c t) (lst l)[j].w := by rw [nowR_take hj]; unfold nowStep; rw [if_pos hp]
    generalize (lst l)[j] = x at *
    subst hA
    subst hB
    refine yieldW_go e3 rfl (Nat.zero_le _) ?_
    have a1 : (n = n') = False := by simp; omega
    have a2 : (n' = n) = False := by simp; omega
    have a3 : (3 = n') = False := by simp; omega
    have a4 : (3 = n) = False := by simp; omega
    have a5 : (2 = n') = False := by simp; omega
    have a6 : (2 = n) = False := by simp; omega
    have a7 : (n = 2) = False := by simp; omega
    have a8 : (n' = 2) = False := by simp; omega
    have a9 : ((3 : Nat) = 2) = False := by simp
    have s3 : σ' 3 = some (.row 1 [.mp 2]) := by rw [e2 3 (by omega) (by decide)]; exact h3
    rw [faV_eq]
    have pd := fun (σX : Sto) (h : σX 2 = some (.map (ens uV vV Lm) clk)) (nn : Nat) => mdel_ens (ke := uV) (ve := vV) (lk := 0) keyU m1 h (Nat.zero_le _) x.w.id nn
    have pu := fun (σX : Sto) (h : σX 2 = some (.map (ens uV vV Lm) clk)) (nn : Nat) => mupd_ens (ke := uV) (ve := vV) (lk := 0) keyU m1 h (Nat.zero_le _) x.w.id x.w.v nn
    simp only [uV, vV] at pd pu
    cases hg : x.w.g
    · have hov : ovStep (nowR ((lst l).take j) c t) x.w = putR (nowR ((lst l).take j) c t) ⟨x.w.id, x.w.v⟩ := by unfold ovStep; rw [hg]; rfl
      simp +contextual -implicitDefEqProofs (maxSteps := 2000000) only [↓wP, wQ, wQ1, wQ2, wQ3, wR, boxE, partsOf, ↓reduceIte, n1w, n2w, n3w, n4w, n5w, n6w, reduceCtorEq, i1w, i2w, i3w, i4w, i5w, bind_cons, bind_nil, hm, e3, s3, m2, a1, a2, a3, a4, a5, a6, a7, a8, a9, pu]
      refine ⟨by omega, fun i hi h2 => ?_, _, _, mput_ok m1 _ _, rfl, by rw [hst, hov]; exact m3.put m1 ⟨x.w.id, x.w.v⟩⟩
      have c1 : i ≠ n := by omega
      have c2 : i ≠ n' := by omega
      simp only [c1, c2, h2, if_false]
      exact e2 i hi h2
    · have hov : ovStep (nowR ((lst l).take j) c t) x.w = delR (nowR ((lst l).take j) c t) x.w.id := by unfold ovStep; rw [hg]; rfl
      simp +contextual -implicitDefEqProofs (maxSteps := 2000000) only [↓wP, wQ, wQ1, wQ2, wQ3, wR, boxE, partsOf, ↓reduceIte, n1w, n2w, n3w, n4w, n5w, n6w, reduceCtorEq, i1w, i2w, i3w, i4w, i5w, bind_cons, bind_nil, hm, e3, s3, m2, a1, a2, a3, a4, a5, a6, a7, a8, a9, pd]
      refine ⟨by omega, fun i hi h2 => ?_, _, _, mdel_ok m1 _, rfl, by rw [hst, hov]; exact m3.del x.w.id⟩
      have c1 : i ≠ n := by omega
      have c2 : i ≠ n' := by omega
      simp only [c1, c2, h2, if_false]
      exact e2 i hi h2
  · exact ⟨by omega, fun i hi _ => upd_ne (by omega), upd_self _ _ _, [], 0, MOk.nil, by rw [upd_ne (by omega)]; exact h2, RM.nil⟩
end Go.Q.SB
end

section
/- ideal.rows: the rows at a time, sorted. -/
set_option linter.unusedSimpArgs false
set_option linter.unusedVariables false
namespace Go.Q.SB
open Go.Q Go.Sort
open Nat renaming reduceEqDiff → n1w, reduceAdd → n2w, reduceSub → n3w, reduceLeDiff → n4w, reduceLT → n5w, reduceMul → n6w
open Int renaming reduceBNe → i1w, reduceBEq → i2w, reduceLT → i3w, reduceLE → i4w, reduceGT → i5w
theorem nowR_asc (l : List Fa) (c t : Int) : Asc (nowR l c t) := by
  have key : ∀ (l : List Fa) (R : List Rw), Asc R → Asc (l.foldl (nowStep c t) R) := by
    intro l
    induction l with
    | nil => intro R h; exact h
    | cons f l ih =>
      intro R h
      refine ih _ ?_
      unfold nowStep ovStep
      split
      · split
        · exact asc_delR h _
        · exact asc_putR h _
      · exact h
  exact key l [] List.Pairwise.nil
theorem nowR_len (l : List Fa) (c t : Int) : (nowR l c t).length ≤ l.length := by
  have key : ∀ (l : List Fa) (R : List Rw), (l.foldl (nowStep c t) R).length ≤ R.length + l.length := by
    intro l
    induction l with
    | nil => intro R; simp
    | cons f l ih =>
      intro R
      have h1 := ih (nowStep c t R f)
      have h2 : (nowStep c t R f).length ≤ R.length + 1 := by
        unfold nowStep ovStep
        split
        · split
          · have := delR_len R f.w.id; omega
          · exact putR_len _ _
        · omega
      simp only [List.foldl_cons, List.length_cons]; omega
  have := key l []
  unfold nowR
  simpa using this
theorem nowR_all {P : Vc → Prop} {l : List Fa} (h : ∀ f ∈ l, P f.w.v) (c t : Int) : ∀ r ∈ nowR l c t, P r.v := by
  have key : ∀ (l : List Fa) (R : List Rw), (∀ f ∈ l, P f.w.v) → (∀ r ∈ R, P r.v) → ∀ r ∈ l.foldl (nowStep c t) R, P r.v := by
    intro l
    induction l with
    | nil => intro R _ h; exact h
    | cons f l ih =>
      intro R h1 h2
      refine ih _ (fun g hg => h1 g (List.mem_cons_of_mem _ hg)) ?_
      unfold nowStep ovStep
      split
      · split
        · intro r hr; exact h2 r (mem_delR.1 hr).1
        · intro r hr
          rcases mem_putR.1 hr with rfl | hr
          · exact h1 f List.mem_cons_self
          · exact h2 r hr.1
      · exact h2
  exact key l [] h (fun r hr => by simp at hr)
def Seen (R D : List Rw) (L : List (En Int Vc)) (seen : List Nat) : Prop := (∀ r ∈ D, r ∈ R) ∧ (D.map (·.id)).Nodup ∧ ∀ e ∈ L, (e.2.2 ∈ seen ↔ (⟨e.1, e.2.1⟩ : Rw) ∈ D)
theorem nodup_len : ∀ {l m : List Int}, l.Nodup → (∀ x ∈ l, x ∈ m) → l.length ≤ m.length
  | [], _, _, _ => Nat.zero_le _
  | a :: l, m, h, hs => by
    rw [List.nodup_cons] at h
    have ha := hs a List.mem_cons_self
    have h1 := nodup_len (l := l) (m := m.erase a) h.2 (fun x hx => (List.mem_erase_of_ne (fun e => h.1 (by rw [← e]; exact hx))).2 (hs x (List.mem_cons_of_mem _ hx)))
    have h2 := List.length_erase_of_mem ha
    have h3 := List.length_pos_of_mem ha
    simp only [List.length_cons]; omega
theorem Seen.len {R D : List Rw} {L : List (En Int Vc)} {seen : List Nat} (h : Seen R D L seen) : D.length ≤ R.length := by
  have := nodup_len (l := D.map (·.id)) (m := R.map (·.id)) h.2.1 (fun x hx => by obtain ⟨r, hr, rfl⟩ := List.mem_map.1 hx; exact List.mem_map.2 ⟨r, h.1 r hr, rfl⟩)
  simpa using this
theorem key_inj : ∀ {L : List (En Int Vc)}, (L.map (·.1)).Nodup → ∀ {e e' : En Int Vc}, e ∈ L → e' ∈ L → e.1 = e'.1 → e = e'
  | [], _, e, e', he, _, _ => by simp at he
  | x :: L, h, e, e', he, he', hs => by
    rw [List.map_cons, List.nodup_cons] at h
    rcases List.mem_cons.1 he with e1 | he <;> rcases List.mem_cons.1 he' with e2 | he'
    · rw [e1, e2]
    · exact absurd (List.mem_map.2 ⟨e', he', by rw [← hs, e1]⟩) h.1
    · exact absurd (List.mem_map.2 ⟨e, he, by rw [hs, e2]⟩) h.1
    · exact key_inj h.2 he he' hs
theorem Seen.nil {R : List Rw} {L : List (En Int Vc)} : Seen R [] L [] := ⟨fun r hr => by simp at hr, List.nodup_nil, fun e he => by simp⟩
theorem Seen.step {R D : List Rw} {L : List (En Int Vc)} {seen : List Nat} {clk : Nat} (h : Seen R D L seen) (hm : MOk L clk) (hR : RM R L) {e : En Int Vc} (he : e ∈ L) (hn : e.2.2 ∉ seen) : Seen R (D ++ [⟨e.1, e.2.1⟩]) L (seen ++ [e.2.2]) := by
  obtain ⟨h1, h2, h3⟩ := h
  have hvw : vw L e.1 = some e.2.1 := (vw_some hm.keys).2 ⟨e.2.2, he⟩
  refine ⟨fun r hr => ?_, ?_, fun e' he' => ?_⟩
  · rcases List.mem_append.1 hr with hr | hr
    · exact h1 r hr
    · rw [List.mem_singleton] at hr
      subst hr
      exact (hR.2 e.1 e.2.1).2 hvw
  · rw [List.map_append]
    refine List.nodup_append.2 ⟨h2, by simp, fun a ha b hb => ?_⟩
    simp only [List.map_cons, List.map_nil, List.mem_singleton] at hb
    subst hb
    obtain ⟨r, hr, rfl⟩ := List.mem_map.1 ha
    intro hid
    have hv := (hR.2 r.id r.v).1 (h1 r hr)
    rw [hid, hvw, Option.some.injEq] at hv
    have : (⟨e.1, e.2.1⟩ : Rw) ∈ D := by
      have e1 : r = ⟨e.1, e.2.1⟩ := by cases r; simp only at hid hv; rw [hid, ← hv]
      rw [← e1]; exact hr
    exact hn ((h3 e he).2 this)
  · rw [List.mem_append, List.mem_append, List.mem_singleton, List.mem_singleton, h3 e' he']
    constructor
    · rintro (h | h)
      · exact .inl h
      · exact .inr (by rw [born_inj hm.born he' he h])
    · rintro (h | h)
      · exact .inl h
      · simp only [Rw.mk.injEq] at h
        exact .inr (by rw [key_inj hm.keys he' he h.1])
theorem Seen.all {R D : List Rw} {L : List (En Int Vc)} {seen : List Nat} {clk : Nat} (h : Seen R D L seen) (hm : MOk L clk) (hR : RM R L) (hall : ∀ e ∈ L, e.2.2 ∈ seen) : ∀ x, x ∈ D ↔ x ∈ R := by
  intro x
  refine ⟨h.1 x, fun hx => ?_⟩
  have hv := (hR.2 x.id x.v).1 hx
  obtain ⟨s, hs⟩ := (vw_some hm.keys).1 hv
  exact (h.2.2 _ hs).1 (hall _ hs)
theorem raw112n (F : Nat) (σ : Sto) (n : Nat) {Q : V → Sto → Nat → Prop} (hQ : Q .undef σ n) : run T (.raw 112 [.nilS, .int .i64 0, .int .i64 0, .fn F []] σ n 0) (memQ Q) := by
  refine run_rawE (fn := g112) rfl rfl ?_
  simp only [g112, b112, oO, oN, mV, lD, gO, pP, qQ, cI, aR]
  have w1 : IntKind.i64.wrap ((0 : Int) + 1) = 1 := by decide
  simp +contextual -implicitDefEqProofs (maxSteps := 2000000) only [↓wP, wQ, wQ1, wQ2, wQ3, wR, boxE, partsOf, ↓reduceIte, n1w, n2w, n3w, n4w, n5w, n6w, reduceCtorEq, i1w, i2w, i3w, i4w, i5w, w1]
  refine WC_loopI 0 (fun (_ : Nat) env σ' n' => σ' = σ ∧ n' = n ∧ env 2 = .int .i64 0 ∧ env 8 = .int .i64 1) (fun s => s) ?_ 0 _ _ _ ?_
  · intro _ env σ1 n1 ⟨h1, h2, h3, h4⟩
    subst h1 h2
    simp +contextual -implicitDefEqProofs (maxSteps := 2000000) only [↓wP, wQ, wQ1, wQ2, wQ3, wR, boxE, partsOf, ↓reduceIte, n1w, n2w, n3w, n4w, n5w, n6w, reduceCtorEq, i1w, i2w, i3w, i4w, i5w, h3, h4]
    exact hQ
  · simp +contextual -implicitDefEqProofs (maxSteps := 2000000) only [↓wP, wQ, wQ1, wQ2, wQ3, wR, boxE, partsOf, ↓reduceIte, n1w, n2w, n3w, n4w, n5w, n6w, reduceCtorEq, i1w, i2w, i3w, i4w, i5w]
theorem raw103n (F : Nat) (M : Nat) (σ : Sto) (n : Nat) {Q : V → Sto → Nat → Prop} (hQ : Q .undef σ n) : run T (.raw 103 [.nilS, .int .i64 0, .int .i64 0, .int .i64 (M : Int), .fn F []] σ n 0) (memQ Q) := by
  refine run_rawE (fn := g103) rfl rfl ?_
  simp only [g103, b103, oO, oN, mV, lD, gO, pP, qQ, cI, aR]
  have w1 : IntKind.i64.wrap ((0 : Int) - 0) = 0 := by decide
  simp +contextual -implicitDefEqProofs (maxSteps := 2000000) only [↓wP, wQ, wQ1, wQ2, wQ3, wR, boxE, partsOf, ↓reduceIte, n1w, n2w, n3w, n4w, n5w, n6w, reduceCtorEq, i1w, i2w, i3w, i4w, i5w]
  refine WC_loopI 0 (fun (_ : Nat) env σ' n' => σ' = σ ∧ n' = n ∧ env 0 = .nilS ∧ env 1 = .int .i64 0 ∧ env 2 = .int .i64 0 ∧ env 4 = .fn F []) (fun s => s) ?_ 0 _ _ _ ?_
  · intro _ env σ1 n1 ⟨h1, h2, h3, h4, h5, h6⟩
    subst h1 h2
    simp +contextual -implicitDefEqProofs (maxSteps := 2000000) only [↓wP, wQ, wQ1, wQ2, wQ3, wR, boxE, partsOf, ↓reduceIte, n1w, n2w, n3w, n4w, n5w, n6w, reduceCtorEq, i1w, i2w, i3w, i4w, i5w, h3, h4, h5, h6, w1]
    refine stepW_raw (by decide) (raw112n F σ1 n1 ?_)
    simp +contextual -implicitDefEqProofs (maxSteps := 2000000) only [↓wP, wQ, wQ1, wQ2, wQ3, wR, boxE, partsOf, ↓reduceIte, n1w, n2w, n3w, n4w, n5w, n6w, reduceCtorEq, i1w, i2w, i3w, i4w, i5w]
    exact hQ
  · simp +contextual -implicitDefEqProofs (maxSteps := 2000000) only [↓wP, wQ, wQ1, wQ2, wQ3, wR, boxE, partsOf, ↓reduceIte, n1w, n2w, n3w, n4w, n5w, n6w, reduceCtorEq, i1w, i2w, i3w, i4w, i5w]
theorem raw75n (F : Nat) (σ : Sto) (n : Nat) {Q : V → Sto → Nat → Prop} (hQ : Q .undef σ n) : run T (.raw 75 [.nilS, .fn F []] σ n 0) (memQ Q) := by
  refine run_rawE (fn := g75) rfl rfl ?_
  simp only [g75, b75, oO, oN, mV, lD, gO, pP, qQ, cI, aR]
  obtain ⟨M, h2, h3⟩ := r104 0 (by omega)
  have f104 := callE_tr (fs := true) (by decide) h3 (by simp [Tr]) rfl
  have wu : IntKind.u64.wrap ((0 : Nat) : Int) = ((0 : Nat) : Int) := by decide
  simp +contextual -implicitDefEqProofs (maxSteps := 2000000) only [↓wP, wQ, wQ1, wQ2, wQ3, wR, boxE, partsOf, ↓reduceIte, n1w, n2w, n3w, n4w, n5w, n6w, reduceCtorEq, i1w, i2w, i3w, i4w, i5w, wu, f104]
  refine stepW_raw (by decide) (raw103n F M σ n ?_)
  simp +contextual -implicitDefEqProofs (maxSteps := 2000000) only [↓wP, wQ, wQ1, wQ2, wQ3, wR, boxE, partsOf, ↓reduceIte, n1w, n2w, n3w, n4w, n5w, n6w, reduceCtorEq, i1w, i2w, i3w, i4w, i5w]
  exact hQ
theorem sorted_asc {d d' : Array Rw} (hp : PermIn 0 d.size d d') (hs : SortedIn ahR 0 d.size d') (hn : (d.toList.map (·.id)).Nodup) : Asc d'.toList ∧ ∀ x, x ∈ d'.toList ↔ x ∈ d.toList := by
  have hsz := hp.1
  have hperm : d'.toList.Perm d.toList := by
    have := hp.2.2
    rw [← hsz] at this
    have e1 : (d'.extract 0 d'.size) = d' := by simp
    have e2 : (d.extract 0 d'.size) = d := by rw [hsz]; simp
    rw [e1, e2] at this
    exact this
  refine ⟨?_, fun x => hperm.mem_iff⟩
  unfold Asc
  rw [List.pairwise_iff_getElem]
  intro i j hi hj hij
  have hi' : i < d'.size := by simpa using hi
  have hj' : j < d'.size := by simpa using hj
  have h1 := hs i j (Nat.zero_le _) hij (by omega)
  have e1 : d'[i]! = d'.toList[i] := by simp [hi']
  have e2 : d'[j]! = d'.toList[j] := by simp [hj']
  rw [e1, e2] at h1
  have h2 : ¬ (d'.toList[j]).id < (d'.toList[i]).id := by simpa [ahR] using h1
  have hn' : (d'.toList.map (·.id)).Nodup := (hperm.map _).nodup_iff.2 hn
  rw [List.nodup_iff_pairwise_ne, List.pairwise_map, List.pairwise_iff_getElem] at hn'
  have := hn' i j hi hj hij
  omega
theorem c65 {σ : Sto} {n : Nat} (l : Option (List Fa)) (c t : Int) (h0 : σ 0 = some (.row 1 [.int .i64 c])) (h1 : σ 1 = some (.row 1 [.int .u64 t])) :
    ∃ σ', callE T true 65 [slV 5 faV l, .fn 95 [.ptr 0 1 0 0, .ptr 1 1 0 0]] σ n 0 = some (.fn 97 [.box [slV 5 faV l], .box [.fn 95 [.box [.int .i64 c], .box [.int .u64 t]]]], σ', n) ∧ ∀ i, i ≠ 0 → i ≠ 1 → σ' i = σ i := by
  have m : [slV 5 faV l, V.fn 95 [.ptr 0 1 0 0, .ptr 1 1 0 0]].mapM (frz σ 12) = some [slV 5 faV l, .fn 95 [.box [.int .i64 c], .box [.int .u64 t]]] := by
    have x3 : frz σ 12 (.fn 95 [.ptr 0 1 0 0, .ptr 1 1 0 0]) = some (.fn 95 [.box [.int .i64 c], .box [.int .u64 t]]) := by
      simp only [frz, rowAt, h0, h1, List.mapM_cons, List.mapM_nil, if_true, List.getElem?_cons_zero, Option.bind_some, V.cells, List.drop_zero]
      rfl
    simp only [List.mapM_cons, List.mapM_nil, x3, frz_slV]; rfl
  obtain ⟨σ', e1, e2⟩ := callE_sh' (by decide) m (r65 l (.fn 95 [.box [.int .i64 c], .box [.int .u64 t]]) rfl rfl rfl) (fun σ n => rfl) n
  refine ⟨σ', e1, fun i hi hi' => e2 i (fun hd => ?_)⟩
  simp only [List.flatMap_cons, List.flatMap_nil, rch_slV, List.nil_append, List.append_nil] at hd
  have x4 : rch σ 12 (.fn 95 [.ptr 0 1 0 0, .ptr 1 1 0 0]) = [0, 1] := by
    simp only [rch, rowAt, h0, h1, List.flatMap_cons, List.flatMap_nil, if_true, List.getElem?_cons_zero, Option.map_some, Option.getD_some, V.cells, List.drop_zero, List.append_nil]
    rfl
  rw [x4] at hd
  simp at hd
  omega
end Go.Q.SB
end

section
/- ideal.rows and ideal.State. -/
set_option linter.unusedSimpArgs false
set_option linter.unusedVariables false
namespace Go.Q.SB
open Go.Q Go.Sort
open Nat renaming reduceEqDiff → n1w, reduceAdd → n2w, reduceSub → n3w, reduceLeDiff → n4w, reduceLT → n5w, reduceMul → n6w
open Int renaming reduceBNe → i1w, reduceBEq → i2w, reduceLT → i3w, reduceLE → i4w, reduceGT → i5w
def Few (l : List Fa) : Prop := l.length ≤ 128 ∧ ∀ f ∈ l, (lst f.w.v).length ≤ 1000000
theorem Few.fit {l : List Fa} (h : Few l) : FitF l := ⟨by have := h.1; omega, h.2⟩
theorem rw_toArray (D : List Rw) : rw' D.toArray = D.map rwV := by unfold rw'; rfl
theorem r60 (l : Option (List Fa)) (c t : Int) (h : Few (lst l)) : res T 60 [slV 5 faV l, .int .i64 c, .int .u64 t] = some (slV 2 rwV (oL (nowR (lst l) c t))) := by
  refine run_res (run_pure (fn := g60) rfl rfl (by decide) ?_)
  simp only [g60, b60, oO, oN, mV, lD, gO, pP, qQ, cI, aR]
  have hl := h.1
  obtain ⟨σ0, hσ0⟩ : ∃ σ0, σ0 = upd (upd (upd (upd (upd Sto.empty 0 (some (.row 1 [.int .i64 c]))) 1 (some (.row 1 [.int .u64 t]))) 2 (some (.map [] 0))) 3 (some (.row 1 [.nilM]))) 3 (some (.row 1 [.mp 2])) := ⟨_, rfl⟩
  have t0 : σ0 0 = some (.row 1 [.int .i64 c]) := by rw [hσ0]; simp [upd]
  have t1 : σ0 1 = some (.row 1 [.int .u64 t]) := by rw [hσ0]; simp [upd]
  have t2 : σ0 2 = some (.map (ens uV vV []) 0) := by rw [hσ0]; simp [upd, ens]
  have t3 : σ0 3 = some (.row 1 [.mp 2]) := by rw [hσ0]; simp [upd]
  obtain ⟨σa, a1, a2⟩ := c65 (n := 4) l c t t0 t1
  obtain ⟨R, hR⟩ : ∃ R, R = nowR (lst l) c t := ⟨_, rfl⟩
  have hRl : R.length ≤ 128 := by rw [hR]; have := nowR_len (lst l) c t; omega
  have hRv : ∀ r ∈ R, (lst r.v).length ≤ 1000000 := by rw [hR]; exact nowR_all (P := fun v => (lst v).length ≤ 1000000) h.2 c t
  have hRa : Asc R := by rw [hR]; exact nowR_asc _ _ _
  rw [← hR]
  simp +contextual -implicitDefEqProofs (maxSteps := 2000000) only [↓wP, wQ, wQ1, wQ2, wQ3, wR, boxE, partsOf, ↓reduceIte, n1w, n2w, n3w, n4w, n5w, n6w, reduceCtorEq, i1w, i2w, i3w, i4w, i5w, ← hσ0, a1]
  refine nowLoop l c t (by omega) rfl rfl (by rw [a2 3 (by decide) (by decide)]; exact t3) (by rw [a2 2 (by decide) (by decide)]; exact t2) (by omega) (fun σ1 n1 e1 e2 ⟨Lm, clk, m1, m2, m3⟩ => ?_)
  rw [← hR] at m3
  have t3' : σ1 3 = some (.row 1 [.mp 2]) := by rw [e1 3 (by omega) (by decide), a2 3 (by decide) (by decide)]; exact t3
  have hrg : rangeE (.mp 2) σ1 n1 = some (.it n1, upd σ1 n1 (some (.iter 2 clk [] clk)), n1 + 1) := by simp [rangeE, m2]
  simp +contextual -implicitDefEqProofs (maxSteps := 2000000) only [↓wP, wQ, wQ1, wQ2, wQ3, wR, boxE, partsOf, ↓reduceIte, n1w, n2w, n3w, n4w, n5w, n6w, reduceCtorEq, i1w, i2w, i3w, i4w, i5w, t3', hrg]
  refine WC_cutB (fun env σ n => ∃ (D : List Rw) (v : V), env 9 = v ∧ Pl σ (n1 + 1) n 2 v (oL (D.map rwV)) ∧ (D.map (·.id)).Nodup ∧ ∀ x, x ∈ D ↔ x ∈ R) ?_ ?_
  · refine WC_loopM 0 (fun (seen : List Nat) env σ n => env 32 = .it n1 ∧ n1 < n ∧ σ n1 = some (.iter 2 clk seen clk) ∧ σ 2 = some (.map (ens uV vV Lm) clk) ∧ ∃ (D : List Rw) (v : V), env 9 = v ∧ Pl σ (n1 + 1) n 2 v (oL (D.map rwV)) ∧ Seen R D Lm seen) (fun seen => (Lm.filter fun x => decide (x.2.2 ∉ seen)).length) ?_ [] _ _ _ ?_
    · intro seen env σ n ⟨k1, k2, k3, k4, D, v, k5, k6, k7⟩
      rw [vl_tmp, k1]
      refine nextW_ens m1 k3 k4 (Nat.zero_le _) (fun e he hn => ?_) (fun hall => ?_)
      · obtain ⟨S0, hS0⟩ : ∃ S, S = upd σ n1 (some (.iter 2 clk (seen ++ [e.2.2]) clk)) := ⟨_, rfl⟩
        rw [← hS0]
        have b1 : S0 2 = some (.map (ens uV vV Lm) clk) := by rw [hS0, upd_ne (by omega)]; exact k4
        have b2 : S0 n1 = some (.iter 2 clk (seen ++ [e.2.2]) clk) := by rw [hS0, upd_self]
        have b3 : ∀ i, i ≠ n1 → S0 i = σ i := fun i hi => by rw [hS0, upd_ne hi]
        have hen := entry_ens m1 b2 b1 he
        have hlt := unseen_lt he hn
        have hst := k7.step m1 m3 he hn
        have hDl := k7.len
        have hev : (lst e.2.1).length ≤ 1000000 := hRv ⟨e.1, e.2.1⟩ ((m3.2 e.1 e.2.1).2 ((vw_some m1.keys).2 ⟨e.2.2, he⟩))
        obtain ⟨a, vv, s⟩ := e
        simp only [uV, vV] at hen
        have f := f74 vv hev
        have hc := k6.cells
        have hsp := spl k6
        have k6' := k6.loc (σ' := S0) (fun i hi _ => b3 i (by omega)) (Nat.le_refl n)
        have hvn : ∀ i, i ≤ n1 → ∀ off len s, v ≠ .ref i off len s := by
          intro i hi off len s e
          subst e
          cases ho' : oL (D.map rwV) with
          | none => rw [ho'] at k6; cases k6
          | some xs => rw [ho'] at k6; obtain ⟨i, e, -, e2, -⟩ := k6; simp only [V.ref.injEq] at e; omega
        simp +contextual -implicitDefEqProofs (maxSteps := 2000000) only [↓wP, wQ, wQ1, wQ2, wQ3, wR, boxE, partsOf, ↓reduceIte, n1w, n2w, n3w, n4w, n5w, n6w, reduceCtorEq, i1w, i2w, i3w, i4w, i5w, k1, k5, hen, f]
        refine stepW_app1 (m := n1 + 1) (n0 := n) (σ0 := S0) k6' (fun i g1 g2 => ?_) (by omega) (by omega) (Nat.zero_le _) ?_ (fun _ σ2 g1 g2 => ?_)
        · rw [upd_ne (by omega)]
        · rw [lst_oL, List.length_map]; unfold LIM; omega
        · rw [lst_oL] at g1 ⊢
          have b2' : σ2 n1 = some (.iter 2 clk (seen ++ [s]) clk) := by rw [g2 n1 (by omega) (hvn n1 (Nat.le_refl _)), upd_ne (by omega)]; exact b2
          have b1' : σ2 2 = some (.map (ens uV vV Lm) clk) := by rw [g2 2 (by omega) (hvn 2 (by omega)), upd_ne (by omega)]; exact b1
          simp +contextual -implicitDefEqProofs (maxSteps := 2000000) only [↓wP, wQ, wQ1, wQ2, wQ3, wR, boxE, partsOf, ↓reduceIte, n1w, n2w, n3w, n4w, n5w, n6w, reduceCtorEq, i1w, i2w, i3w, i4w, i5w, k1, hc, hsp]
          refine ⟨seen ++ [s], hlt, by omega, b2', b1', D ++ [⟨a, vv⟩], _, rfl, ?_, hst⟩
          rw [List.map_append]
          have e3 : oL (D.map rwV ++ [(⟨a, vv⟩ : Rw)].map rwV) = some (D.map rwV ++ [.agg [.int .u64 a, slV 1 i32V vv]]) := by
            cases D <;> rfl
          rw [e3]
          exact g1
      · simp +contextual -implicitDefEqProofs (maxSteps := 2000000) only [↓wP, wQ, wQ1, wQ2, wQ3, wR, boxE, partsOf, ↓reduceIte, n1w, n2w, n3w, n4w, n5w, n6w, reduceCtorEq, i1w, i2w, i3w, i4w, i5w]
        exact ⟨rfl, rfl, D, v, k5, k6, k7.2.1, k7.all m1 m3 hall⟩
    · simp +contextual -implicitDefEqProofs (maxSteps := 2000000) only [↓wP, wQ, wQ1, wQ2, wQ3, wR, boxE, partsOf, ↓reduceIte, n1w, n2w, n3w, n4w, n5w, n6w, reduceCtorEq, i1w, i2w, i3w, i4w, i5w]
      have c2 : (2 : Nat) ≠ n1 := by omega
      exact ⟨by omega, by rw [if_neg c2]; exact m2, [], .nilS, rfl, by simp [oL, Pl], Seen.nil⟩
  · intro env σ n ⟨D, v, k1, k2, k3, k4⟩
    have hDl : D.length ≤ R.length := by
      have := nodup_len (l := D.map (·.id)) (m := R.map (·.id)) k3 (fun x hx => by obtain ⟨r, hr, rfl⟩ := List.mem_map.1 hx; exact List.mem_map.2 ⟨r, (k4 r).1 hr, rfl⟩)
      simpa using this
    cases D with
    | nil =>
      have hR0 : R = [] := by
        cases R with
        | nil => rfl
        | cons r R => have := (k4 r).2 List.mem_cons_self; simp at this
      simp only [List.map_nil, oL, Pl] at k2
      rw [k2] at k1
      simp +contextual -implicitDefEqProofs (maxSteps := 2000000) only [↓wP, wQ, wQ1, wQ2, wQ3, wR, boxE, partsOf, ↓reduceIte, n1w, n2w, n3w, n4w, n5w, n6w, reduceCtorEq, i1w, i2w, i3w, i4w, i5w, k1]
      refine stepW_raw (by decide) (raw75n 96 σ n ?_)
      simp +contextual -implicitDefEqProofs (maxSteps := 2000000) only [↓wP, wQ, wQ1, wQ2, wQ3, wR, boxE, partsOf, ↓reduceIte, n1w, n2w, n3w, n4w, n5w, n6w, reduceCtorEq, i1w, i2w, i3w, i4w, i5w, k1]
      rw [hR0]; rfl
    | cons r0 D0 =>
      obtain ⟨D, hD⟩ : ∃ D, D = r0 :: D0 := ⟨_, rfl⟩
      rw [← hD] at k2 k3 k4 hDl
      have ho : oL (D.map rwV) = some (D.map rwV) := by rw [hD]; rfl
      rw [ho] at k2
      obtain ⟨i, rfl, p1, p2, p3⟩ := k2
      rw [List.length_map] at k1
      have hsz : D.toArray.size = D.length := by simp
      simp +contextual -implicitDefEqProofs (maxSteps := 2000000) only [↓wP, wQ, wQ1, wQ2, wQ3, wR, boxE, partsOf, ↓reduceIte, n1w, n2w, n3w, n4w, n5w, n6w, reduceCtorEq, i1w, i2w, i3w, i4w, i5w, k1]
      refine stepW_raw (by decide) ?_
      have hr := raw75 96 cmp96 D.toArray i n σ (by omega) p3 (by rw [rw_toArray]; exact p1) (Q := fun v σ' n' => ∃ d', σ' i = some (.row 2 (rw' d')) ∧ d'.size = D.length ∧ d'.toList = R) (fun σ' d' n' q1 q2 q3 q4 q5 => by
        obtain ⟨s1, s2⟩ := sorted_asc q4 q5 (by simpa using k3)
        refine ⟨d', q2, by rw [q4.1, hsz], asc_uniq s1 hRa (fun x => ?_)⟩
        rw [s2, ← k4])
      rw [hsz] at hr
      refine run_mono _ _ _ (fun o ho => ?_) hr
      cases o <;> try exact ho.elim
      obtain ⟨d', q1, q2, q3⟩ := ho
      have hf := frz_row q2 q1 9
      have hrw : rw' d' = R.map rwV := by unfold rw'; rw [q3]
      rw [hrw] at hf
      have hRne : oL R = some R := by
        cases R with
        | nil => have := (k4 r0).1 (by rw [hD]; exact List.mem_cons_self); simp at this
        | cons r R => rfl
      show WR T _ _ _ _ _ _
      simp +contextual -implicitDefEqProofs (maxSteps := 2000000) only [↓wP, wQ, wQ1, wQ2, wQ3, wR, boxE, partsOf, ↓reduceIte, n1w, n2w, n3w, n4w, n5w, n6w, reduceCtorEq, i1w, i2w, i3w, i4w, i5w, k1, hf]
      rw [hRne]; rfl
end Go.Q.SB
end

section
/- ideal.State; which rows are the same. -/
set_option linter.unusedSimpArgs false
set_option linter.unusedVariables false
namespace Go.Q.SB
open Go.Q Go.Sort
open Nat renaming reduceEqDiff → n1w, reduceAdd → n2w, reduceSub → n3w, reduceLeDiff → n4w, reduceLT → n5w, reduceMul → n6w
open Int renaming reduceBNe → i1w, reduceBEq → i2w, reduceLT → i3w, reduceLE → i4w, reduceGT → i5w
def stE (l : List Fa) (c : Int) : Int := if rightF l = false then 280 else if collB c = false then 2 else 0
def stO (l : List Fa) (c t : Int) : List Rw := if stE l c = 0 then nowR l c t else []
theorem r22 (l : Option (List Fa)) (c t : Int) (h : Few (lst l)) : res T 22 [slV 5 faV l, .int .i64 c, .int .u64 t] = some (.tup [slV 2 rwV (oL (stO (lst l) c t)), .int .i64 (stE (lst l) c)]) := by
  refine run_res (run_pure (fn := g22) rfl rfl (by decide) ?_)
  simp only [g22, b22, oO, oN, mV, lD, gO, pP, qQ, cI, aR]
  have f24' := f24 l h.fit.sm
  have f59' := f59 c
  have f60' := callE_tr (fs := true) (by decide) (r60 l c t h) (by simp [Tr, Tr_slV]) (Nw_slV _ _ _ _)
  have hm44 : T.mode 44 ≠ .raw := by decide
  unfold stO stE
  cases hrf : rightF (lst l)
  · rw [hrf] at f24'
    rw [if_neg (by decide)] at f24'
    have r := r44 280 (if collB c = true then 0 else 2)
    rw [if_neg (show ¬ (280 : Int) = 0 by decide)] at r
    have z0 : ((280 : Int) != 0) = true := rfl
    simp +contextual -implicitDefEqProofs (maxSteps := 2000000) only [↓wP, wQ, wQ1, wQ2, wQ3, wR, boxE, partsOf, ↓reduceIte, n1w, n2w, n3w, n4w, n5w, n6w, reduceCtorEq, i1w, i2w, i3w, i4w, i5w, f24', f59', callE_eq hm44, frz_rf, rch_rf, r, z0]
    rfl
  rw [hrf] at f24'
  rw [if_pos rfl] at f24'
  cases hrw : collB c
  · rw [hrw] at f59'
    rw [if_neg (by decide)] at f59'
    have r := r44 0 2
    rw [if_pos rfl] at r
    have z0 : ((2 : Int) != 0) = true := rfl
    simp +contextual -implicitDefEqProofs (maxSteps := 2000000) only [↓wP, wQ, wQ1, wQ2, wQ3, wR, boxE, partsOf, ↓reduceIte, n1w, n2w, n3w, n4w, n5w, n6w, reduceCtorEq, i1w, i2w, i3w, i4w, i5w, f24', f59', callE_eq hm44, frz_rf, rch_rf, r, z0]
    rfl
  rw [hrw] at f59'
  rw [if_pos rfl] at f59'
  have r := r44 0 0
  rw [if_pos rfl] at r
  have z0 : ((0 : Int) != 0) = false := rfl
  simp +contextual -implicitDefEqProofs (maxSteps := 2000000) only [↓wP, wQ, wQ1, wQ2, wQ3, wR, boxE, partsOf, ↓reduceIte, n1w, n2w, n3w, n4w, n5w, n6w, reduceCtorEq, i1w, i2w, i3w, i4w, i5w, f24', f59', callE_eq hm44, frz_rf, rch_rf, r, z0, f60']
theorem f22 (l : Option (List Fa)) (c t : Int) (h : Few (lst l)) (fs : Bool) (σ : Sto) (n lk : Nat) : callE T fs 22 [slV 5 faV l, .int .i64 c, .int .u64 t] σ n lk = some (.tup [slV 2 rwV (oL (stO (lst l) c t)), .int .i64 (stE (lst l) c)], σ, n) :=
  callE_tr (by decide) (r22 l c t h) (by simp [Tr, Tr_slV]) (by simp [Nw, Nw_slV]) fs σ n lk
end Go.Q.SB
end

section
/- What a transaction sees: plain laws. -/
set_option linter.unusedSimpArgs false
set_option linter.unusedVariables false
namespace Go.Q.SB
open Go.Q Go.Sort
def ownI (W : List Wr) (id : Int) : Bool := W.any fun w => w.id == id
end Go.Q.SB
end

section
/- What a transaction sees: writes of a collection, rows told one by one. -/
set_option linter.unusedSimpArgs false
set_option linter.unusedVariables false
namespace Go.Q.SB
open Go.Q Go.Sort
open Nat renaming reduceEqDiff → n1w, reduceAdd → n2w, reduceSub → n3w, reduceLeDiff → n4w, reduceLT → n5w, reduceMul → n6w
open Int renaming reduceBNe → i1w, reduceBEq → i2w, reduceLT → i3w, reduceLE → i4w, reduceGT → i5w
def Own (σ : Sto) (pr pm pw mid : Nat) (o : Option (List Rw)) (w : Option (List Wr)) : Prop :=
  σ pr = some (.row 1 [slV 2 rwV o]) ∧ σ pm = some (.row 1 [.mp mid]) ∧ σ pw = some (.row 1 [slV 4 wrV w]) ∧ ∃ Lm clk, MOk Lm clk ∧ σ mid = some (.map (ens uV bV Lm) clk) ∧ ∀ id, (vw Lm id).getD false = ownI (lst w) id
end Go.Q.SB
end

section
/- writes.Overlay. -/
set_option linter.unusedSimpArgs false
set_option linter.unusedVariables false
namespace Go.Q.SB
open Go.Q Go.Sort
open Nat renaming reduceEqDiff → n1w, reduceAdd → n2w, reduceSub → n3w, reduceLeDiff → n4w, reduceLT → n5w, reduceMul → n6w
open Int renaming reduceBNe → i1w, reduceBEq → i2w, reduceLT → i3w, reduceLE → i4w, reduceGT → i5w
end Go.Q.SB
end

section
/- Conflicts. -/
set_option linter.unusedSimpArgs false
set_option linter.unusedVariables false
namespace Go.Q.SB
open Go.Q Go.Sort
open Nat renaming reduceEqDiff → n1w, reduceAdd → n2w, reduceSub → n3w, reduceLeDiff → n4w, reduceLT → n5w, reduceMul → n6w
open Int renaming reduceBNe → i1w, reduceBEq → i2w, reduceLT → i3w, reduceLE → i4w, reduceGT → i5w
def cfP (start : Int) (own : Ky → Bool) (f : Fa) : Bool := decide (start < f.ts) && own (key f.w)
theorem raw58 (f : Fa) (start : Int) (own : Ky → Bool) (a b mid n : Nat) (σ : Sto) (ha : σ a = some (.row 1 [.int .u64 start])) (hb : σ b = some (.row 1 [.mp mid])) {Lm : List (En Ky Bool)} {clk : Nat} (hm : σ mid = some (.map (ens kyV bV Lm) clk)) (ho : ∀ k, (vw Lm k).getD false = own k)
    (la : a < n) (lb : b < n) (lm : mid < n) {Q : V → Sto → Nat → Prop} (hQ : ∀ σ' n', (∀ i, i < n → σ' i = σ i) → n ≤ n' → Q (.bool (cfP start own f)) σ' n') :
    run T (.raw 58 [faV f, .ptr a 1 0 0, .ptr b 1 0 0] σ n 0) (memQ Q) := by
  refine run_rawE (fn := g58) rfl rfl ?_
  simp only [g58, b58, oO, oN, mV, lD, gO, pP, qQ, cI, aR]
  have fk := f47 f.w
  rw [wrV_eq] at fk
  have hmg : mgetE false (.agg [.int, .int]) (.bool false) (some (ens kyV bV Lm)) (kyV (key f.w)) = some (.bool (own (key f.w))) := by
    rw [mget_ens (ve := bV) keyK false (.bool false) (key f.w) Lm, ← ho (key f.w)]
    cases vw Lm (key f.w) <;> rfl
  have a1 : (a = n) = False := by simp; omega
  have a2 : (b = n) = False := by simp; omega
  have a3 : (mid = n) = False := by simp; omega
  unfold cfP at hQ
  by_cases h1 : start < f.ts
  · rw [decide_eq_true h1, Bool.true_and] at hQ
    simp +contextual -implicitDefEqProofs (maxSteps := 2000000) only [↓wP, wQ, wQ1, wQ2, wQ3, wR, boxE, partsOf, ↓reduceIte, n1w, n2w, n3w, n4w, n5w, n6w, reduceCtorEq, i1w, i2w, i3w, i4w, i5w, faV_eq, ha, hb, hm, a1, a2, a3, h1, fk, hmg]
    exact hQ _ _ (fun i hi => by rw [upd_ne (by omega)]) (by omega)
  · rw [decide_eq_false h1, Bool.false_and] at hQ
    simp +contextual -implicitDefEqProofs (maxSteps := 2000000) only [↓wP, wQ, wQ1, wQ2, wQ3, wR, boxE, partsOf, ↓reduceIte, n1w, n2w, n3w, n4w, n5w, n6w, reduceCtorEq, i1w, i2w, i3w, i4w, i5w, faV_eq, ha, hb, hm, a1, a2, a3, h1]
    exact hQ _ _ (fun i hi => by rw [upd_ne (by omega)]) (by omega)
theorem raw94 (l : Option (List Fa)) (start : Int) (own : Ky → Bool) (a b mid n : Nat) (σ : Sto) (hl : (lst l).length ≤ 1000000) (ha : σ a = some (.row 1 [.int .u64 start])) (hb : σ b = some (.row 1 [.mp mid])) {Lm : List (En Ky Bool)} {clk : Nat} (hm : σ mid = some (.map (ens kyV bV Lm) clk)) (ho : ∀ k, (vw Lm k).getD false = own k)
    (la : a < n) (lb : b < n) (lm : mid < n) {Q : V → Sto → Nat → Prop} (hQ : ∀ σ' n', (∀ i, i < n → σ' i = σ i) → n ≤ n' → Q (.int .i64 (idxF (cfP start own) (lst l))) σ' n') :
    run T (.raw 94 [slV 5 faV l, .fn 58 [.ptr a 1 0 0, .ptr b 1 0 0]] σ n 0) (memQ Q) := by
  refine run_rawE (fn := g94) rfl rfl ?_
  simp only [g94, b94, oO, oN, mV, lD, gO, pP, qQ, cI, aR]
  simp +contextual -implicitDefEqProofs (maxSteps := 2000000) only [↓wP, wQ, wQ1, wQ2, wQ3, wR, boxE, partsOf, ↓reduceIte, n1w, n2w, n3w, n4w, n5w, n6w, reduceCtorEq, i1w, i2w, i3w, i4w, i5w]
  refine WC_for (lst l).length 0 (fun (j : Nat) env σ' n' => env 0 = slV 5 faV l ∧ env 1 = .fn 58 [.ptr a 1 0 0, .ptr b 1 0 0] ∧ n ≤ n' ∧ (∀ i, i < n → σ' i = σ i) ∧ (lst l).findIdx? (cfP start own) = (((lst l).drop j).findIdx? (cfP start own)).map (· + j)) (by omega) (by decide) (by decide) (fun _ _ => rfl) (fun _ _ _ => rfl) ?_ ?_ _ _ _ rfl rfl ?_
  · intro j env σ' n' hj h1 h2 ⟨g1, g2, g3, g4, g5⟩
    simp only [vl_tmp] at h2
    have hx : (lst l)[j]? = some (lst l)[j] := List.getElem?_eq_getElem hj
    rw [List.drop_eq_getElem_cons hj, List.findIdx?_cons] at g5
    obtain ⟨x, hxx⟩ : ∃ x, x = (lst l)[j] := ⟨_, rfl⟩
    rw [← hxx] at hx g5
    have r := fun (Q : V → Sto → Nat → Prop) hQ => raw58 x start own a b mid n' σ' (by rw [g4 a la]; exact ha) (by rw [g4 b lb]; exact hb) (by rw [g4 mid lm]; exact hm) ho (by omega) (by omega) (by omega) (Q := Q) hQ
    rw [faV_eq] at r
    simp +contextual -implicitDefEqProofs (maxSteps := 2000000) only [↓wP, wQ, wQ1, wQ2, wQ3, wR, boxE, partsOf, ↓reduceIte, n1w, n2w, n3w, n4w, n5w, n6w, reduceCtorEq, i1w, i2w, i3w, i4w, i5w, h1, h2, g1, g2, hx, faV_eq]
    refine stepW_raw (by decide) (r _ (fun σ2 n2 k1 k2 => ?_))
    cases hq : cfP start own x
    · rw [hq] at g5
      simp only [Bool.false_eq_true, if_false, Option.map_map] at g5
      simp +contextual -implicitDefEqProofs (maxSteps := 2000000) only [↓wP, wQ, wQ1, wQ2, wQ3, wR, boxE, partsOf, ↓reduceIte, n1w, n2w, n3w, n4w, n5w, n6w, reduceCtorEq, i1w, i2w, i3w, i4w, i5w, h1, h2, g1, g2]
      refine ⟨by omega, fun i hi => by rw [k1 i (by omega)]; exact g4 i hi, ?_⟩
      rw [g5]
      congr 1
      funext i
      simp only [Function.comp]
      omega
    · rw [hq] at g5
      simp only [if_true, Option.map_some, Nat.zero_add] at g5
      have hi : idxF (cfP start own) (lst l) = (j : Int) := by unfold idxF; rw [g5]
      simp +contextual -implicitDefEqProofs (maxSteps := 2000000) only [↓wP, wQ, wQ1, wQ2, wQ3, wR, boxE, partsOf, ↓reduceIte, n1w, n2w, n3w, n4w, n5w, n6w, reduceCtorEq, i1w, i2w, i3w, i4w, i5w, h1, h2, g1, g2]
      rw [← hi]
      exact hQ _ _ (fun i hi => by rw [k1 i (by omega)]; exact g4 i hi) (by omega)
  · intro env σ' n' ⟨g1, g2, g3, g4, g5⟩ h1 h2
    rw [List.drop_length] at g5
    have hi : idxF (cfP start own) (lst l) = -1 := by unfold idxF; rw [g5]; rfl
    rw [hi] at hQ
    simp +contextual -implicitDefEqProofs (maxSteps := 2000000) only [↓wP, wQ, wQ1, wQ2, wQ3, wR, boxE, partsOf, ↓reduceIte, n1w, n2w, n3w, n4w, n5w, n6w, reduceCtorEq, i1w, i2w, i3w, i4w, i5w]
    exact hQ _ _ g4 g3
  · simp +contextual -implicitDefEqProofs (maxSteps := 2000000) only [↓wP, wQ, wQ1, wQ2, wQ3, wR, boxE, partsOf, ↓reduceIte, n1w, n2w, n3w, n4w, n5w, n6w, reduceCtorEq, i1w, i2w, i3w, i4w, i5w]
    simp
theorem raw57 (l : Option (List Fa)) (start : Int) (own : Ky → Bool) (a b mid n : Nat) (σ : Sto) (hl : (lst l).length ≤ 1000000) (ha : σ a = some (.row 1 [.int .u64 start])) (hb : σ b = some (.row 1 [.mp mid])) {Lm : List (En Ky Bool)} {clk : Nat} (hm : σ mid = some (.map (ens kyV bV Lm) clk)) (ho : ∀ k, (vw Lm k).getD false = own k)
    (la : a < n) (lb : b < n) (lm : mid < n) {Q : V → Sto → Nat → Prop} (hQ : ∀ σ' n', Q (.bool ((lst l).any (cfP start own))) σ' n') :
    run T (.raw 57 [slV 5 faV l, .fn 58 [.ptr a 1 0 0, .ptr b 1 0 0]] σ n 0) (memQ Q) := by
  refine run_rawE (fn := g57) rfl rfl ?_
  simp only [g57, b57, oO, oN, mV, lD, gO, pP, qQ, cI, aR]
  rw [← idxF_any] at hQ
  simp +contextual -implicitDefEqProofs (maxSteps := 2000000) only [↓wP, wQ, wQ1, wQ2, wQ3, wR, boxE, partsOf, ↓reduceIte, n1w, n2w, n3w, n4w, n5w, n6w, reduceCtorEq, i1w, i2w, i3w, i4w, i5w]
  refine stepW_raw (by decide) (raw94 l start own a b mid n σ hl ha hb hm ho la lb lm (fun σ2 n2 k1 k2 => ?_))
  simp +contextual -implicitDefEqProofs (maxSteps := 2000000) only [↓wP, wQ, wQ1, wQ2, wQ3, wR, boxE, partsOf, ↓reduceIte, n1w, n2w, n3w, n4w, n5w, n6w, reduceCtorEq, i1w, i2w, i3w, i4w, i5w]
  exact hQ _ _
def ownK (W : List Wr) (k : Ky) : Bool := W.any fun w => decide (key w = k)
theorem ownK_snoc (W : List Wr) (w : Wr) (k : Ky) : ownK (W ++ [w]) k = (ownK W k || decide (key w = k)) := by simp [ownK]
def cfE (l : List Fa) (w : List Wr) : Int := if rightF l = false then 280 else if rightW w = false then 260 else 0
def cfB (l : List Fa) (start : Int) (w : List Wr) : Bool := if cfE l w = 0 then l.any (cfP start (ownK w)) else false
theorem r21 (l : Option (List Fa)) (start : Int) (w : Option (List Wr)) (h : FitF (lst l)) (hw : FitW (lst w)) : res T 21 [slV 5 faV l, .int .u64 start, slV 4 wrV w] = some (.tup [.bool (cfB (lst l) start (lst w)), .int .i64 (cfE (lst l) (lst w))]) := by
  refine run_res (run_pure (fn := g21) rfl rfl (by decide) ?_)
  simp only [g21, b21, oO, oN, mV, lD, gO, pP, qQ, cI, aR]
  have f24' := f24 l h.sm
  have hl := h.1
  have hl2 := hw.1
  have f45' := f45 w ⟨by omega, fun x hx => by have := hw.2 x hx; unfold Sm; omega⟩
  have hm44 : T.mode 44 ≠ .raw := by decide
  unfold cfB cfE
  cases hrf : rightF (lst l)
  · rw [hrf] at f24'
    rw [if_neg (by decide)] at f24'
    have r := r44 280 (if rightW (lst w) = true then 0 else 260)
    rw [if_neg (show ¬ (280 : Int) = 0 by decide)] at r
    have z0 : ((280 : Int) != 0) = true := rfl
    simp +contextual -implicitDefEqProofs (maxSteps := 2000000) only [↓wP, wQ, wQ1, wQ2, wQ3, wR, boxE, partsOf, ↓reduceIte, n1w, n2w, n3w, n4w, n5w, n6w, reduceCtorEq, i1w, i2w, i3w, i4w, i5w, f24', f45', callE_eq hm44, frz_rf, rch_rf, r, z0]
    rfl
  rw [hrf] at f24'
  rw [if_pos rfl] at f24'
  cases hrw : rightW (lst w)
  · rw [hrw] at f45'
    rw [if_neg (by decide)] at f45'
    have r := r44 0 260
    rw [if_pos rfl] at r
    have z0 : ((260 : Int) != 0) = true := rfl
    simp +contextual -implicitDefEqProofs (maxSteps := 2000000) only [↓wP, wQ, wQ1, wQ2, wQ3, wR, boxE, partsOf, ↓reduceIte, n1w, n2w, n3w, n4w, n5w, n6w, reduceCtorEq, i1w, i2w, i3w, i4w, i5w, f24', f45', callE_eq hm44, frz_rf, rch_rf, r, z0]
    rfl
  rw [hrw] at f45'
  rw [if_pos rfl] at f45'
  have r := r44 0 0
  rw [if_pos rfl] at r
  have z0 : ((0 : Int) != 0) = false := rfl
  simp +contextual -implicitDefEqProofs (maxSteps := 2000000) only [↓wP, wQ, wQ1, wQ2, wQ3, wR, boxE, partsOf, ↓reduceIte, n1w, n2w, n3w, n4w, n5w, n6w, reduceCtorEq, i1w, i2w, i3w, i4w, i5w, f24', f45', callE_eq hm44, frz_rf, rch_rf, r, z0]
  refine WC_for (lst w).length 0 (fun (j : Nat) env σ n => env 0 = slV 5 faV l ∧ env 4 = .ptr 0 1 0 0 ∧ env 9 = .ptr 3 1 0 0 ∧ env 22 = slV 4 wrV w ∧ 4 ≤ n ∧ σ 0 = some (.row 1 [.int .u64 start]) ∧ σ 3 = some (.row 1 [.mp 2]) ∧ ∃ Lm clk, MOk Lm clk ∧ σ 2 = some (.map (ens kyV bV Lm) clk) ∧ ∀ k, (vw Lm k).getD false = ownK ((lst w).take j) k) (by omega) (by decide) (by decide) (fun _ _ => rfl) (fun _ _ _ => rfl) ?_ ?_ _ _ _ rfl rfl ?_
  · intro j env σ n hj h1 h2 ⟨g0, g1, g2, g3, g4, g5, g6, Lm, clk, m1, m2, m3⟩
    simp only [vl_tmp] at h2
    have hx : (lst w)[j]? = some (lst w)[j] := List.getElem?_eq_getElem hj
    have hos := ownK_snoc ((lst w).take j) (lst w)[j]
    rw [List.take_append_getElem hj] at hos
    generalize (lst w)[j] = x at *
    obtain ⟨σ1, hσ1⟩ : ∃ σ1, σ1 = upd (upd σ n (some (.row 4 [.agg [.int .i64 0, .int .u64 0, .bool false, .nilS]]))) n (some (.row 4 [.agg [.int .i64 x.c, .int .u64 x.id, .bool x.g, slV 1 i32V x.v]])) := ⟨_, rfl⟩
    have so : ∀ i, i < n → σ1 i = σ i := fun i hi => by rw [hσ1, upd_ne (by omega), upd_ne (by omega)]
    have sn : σ1 n = some (.row 4 [.agg [.int .i64 x.c, .int .u64 x.id, .bool x.g, slV 1 i32V x.v]]) := by rw [hσ1, upd_self]
    have s3 : σ1 3 = some (.row 1 [.mp 2]) := by rw [so _ (by omega)]; exact g6
    have s2 : σ1 2 = some (.map (ens kyV bV Lm) clk) := by rw [so _ (by omega)]; exact m2
    have s0 : σ1 0 = some (.row 1 [.int .u64 start]) := by rw [so _ (by omega)]; exact g5
    have pu := mupd_ens (ke := kyV) (ve := bV) (lk := 0) keyK m1 s2 (Nat.zero_le _) (key x) true (n + 1)
    have fk := f47 x
    rw [wrV_eq] at fk
    simp only [bV] at pu
    simp +contextual -implicitDefEqProofs (maxSteps := 2000000) only [↓wP, wQ, wQ1, wQ2, wQ3, wR, boxE, partsOf, ↓reduceIte, n1w, n2w, n3w, n4w, n5w, n6w, reduceCtorEq, i1w, i2w, i3w, i4w, i5w, h1, h2, g0, g1, g2, g3, hx, wrV_eq, ← hσ1, sn, s3, s0, fk, pu]
    refine ⟨by omega, _, _, mput_ok m1 _ _, rfl, fun k => ?_⟩
    rw [vw_mput, hos]
    by_cases e : k = key x
    · rw [if_pos e]; simp [e]
    · rw [if_neg e, m3]
      have : decide (key x = k) = false := by simp; exact fun h => e h.symm
      rw [this, Bool.or_false]
  · intro env σ n ⟨g0, g1, g2, g3, g4, g5, g6, Lm, clk, m1, m2, m3⟩ h1 h2
    rw [List.take_length] at m3
    simp +contextual -implicitDefEqProofs (maxSteps := 2000000) only [↓wP, wQ, wQ1, wQ2, wQ3, wR, boxE, partsOf, ↓reduceIte, n1w, n2w, n3w, n4w, n5w, n6w, reduceCtorEq, i1w, i2w, i3w, i4w, i5w, g0, g1, g2]
    refine stepW_raw (by decide) (raw57 l start (ownK (lst w)) 0 3 2 n σ (by omega) g5 g6 m2 m3 (by omega) (by omega) (by omega) (fun σ2 n2 => ?_))
    simp +contextual -implicitDefEqProofs (maxSteps := 2000000) only [↓wP, wQ, wQ1, wQ2, wQ3, wR, boxE, partsOf, ↓reduceIte, n1w, n2w, n3w, n4w, n5w, n6w, reduceCtorEq, i1w, i2w, i3w, i4w, i5w]
  · simp +contextual -implicitDefEqProofs (maxSteps := 2000000) only [↓wP, wQ, wQ1, wQ2, wQ3, wR, boxE, partsOf, ↓reduceIte, n1w, n2w, n3w, n4w, n5w, n6w, reduceCtorEq, i1w, i2w, i3w, i4w, i5w]
    exact ⟨[], 0, MOk.nil, rfl, fun k => rfl⟩
theorem f21 (l : Option (List Fa)) (start : Int) (w : Option (List Wr)) (h : FitF (lst l)) (hw : FitW (lst w)) (fs : Bool) (σ : Sto) (n lk : Nat) : callE T fs 21 [slV 5 faV l, .int .u64 start, slV 4 wrV w] σ n lk = some (.tup [.bool (cfB (lst l) start (lst w)), .int .i64 (cfE (lst l) (lst w))], σ, n) :=
  callE_tr (by decide) (r21 l start w h hw) (by simp [Tr, Tr_slV]) rfl fs σ n lk
end Go.Q.SB
end

section
/- What a transaction sees; the document's answers. -/
set_option linter.unusedSimpArgs false
set_option linter.unusedVariables false
namespace Go.Q.SB
open Go.Q Go.Sort
end Go.Q.SB
end

section
/- The layer does something. -/
set_option linter.unusedSimpArgs false
set_option linter.unusedVariables false
namespace Go.Q.SB
open Go.Q
def isTrue' : Option Out → Bool
  | some (.val (.bool true)) => true
  | _ => false
theorem isTrue_eq {o : Option Out} (h : isTrue' o = true) : o = some (.val (.bool true)) := by
  unfold isTrue' at h
  split at h
  · rfl
  · cases h
theorem r9 : res T 9 [] = some (.bool true) := by
  have h : isTrue' (exJob T 300 (.pure 9 [])) = true := by decide +kernel
  exact run_res (exJob_sound 300 _ _ (isTrue_eq h))
theorem f9 (fs : Bool) (σ : Sto) (n lk : Nat) : callE T fs 9 [] σ n lk = some (.bool true, σ, n) := callE_tr (by decide) r9 rfl rfl fs σ n lk
end Go.Q.SB
end

section
/- IdealSees. -/
set_option linter.unusedSimpArgs false
set_option linter.unusedVariables false
namespace Go.Q.SB
open Go.Q Go.Sort
open Nat renaming reduceEqDiff → n1w, reduceAdd → n2w, reduceSub → n3w, reduceLeDiff → n4w, reduceLT → n5w, reduceMul → n6w
open Int renaming reduceBNe → i1w, reduceBEq → i2w, reduceLT → i3w, reduceLE → i4w, reduceGT → i5w
theorem okU_all {l : List Fa} (h : okU l l.length = true) : ∀ f ∈ l, okW f.w = true := by
  intro f hf
  obtain ⟨j, hj, rfl⟩ := List.mem_iff_getElem.1 hf
  have := okU_le (show j + 1 ≤ l.length by omega) h
  obtain ⟨-, h2⟩ := okU_step hj this
  unfold oneF one1 at h2
  simp only [Bool.and_eq_true] at h2
  exact h2.1.1.2
end Go.Q.SB
end

section
/- IdealSees, the law. -/
set_option linter.unusedSimpArgs false
set_option linter.unusedVariables false
namespace Go.Q.SB
open Go.Q Go.Sort
theorem cut_len (v : Vc) : (lst (cut v)).length ≤ 5 := by unfold cut; rw [lst_some, List.length_take]; omega
theorem few_len (x : Option (List Fa)) : (lst (cutFs x)).length ≤ 60 ∧ ∀ f ∈ lst (cutFs x), (lst f.w.v).length ≤ 5 := by
  unfold cutFs
  rw [lst_oL]
  refine ⟨by rw [List.length_map, List.length_take]; omega, fun f hf => ?_⟩
  obtain ⟨g, hg, rfl⟩ := List.mem_map.1 hf
  exact cut_len _
end Go.Q.SB
end

section
/- The arguments of seat 18's statements, as trees. -/
set_option linter.unusedSimpArgs false
set_option linter.unusedVariables false
set_option maxRecDepth 20000
namespace Go.Q.SB
open Go.Q Go.Proofs
def eI32 : Enc Try.prog 21 Int := Enc.int .i32 Try.underlying21
def eInt : Enc Try.prog 3 Int := Enc.int .i64 Try.underlying3
def eU64 : Enc Try.prog 26 Int := Enc.int .u64 Try.underlying26
def eBool : Enc Try.prog 4 Bool := Enc.bool Try.underlying4
def eVec : Enc Try.prog 39 (Option (List Int)) := Enc.slice eI32 Try.underlying39 1 (by kernel_rfl) (by decide) 4 (by kernel_rfl)
theorem okVec {o : Option (List Int)} (h : eVec.ok o) : (lst o).length < 4611686018427387904 := by
  cases o with
  | none => simp [lst]
  | some l =>
    obtain ⟨h1, h2, h3⟩ := h l rfl
    rw [reach_eq] at h2
    rw [lst_some]
    omega
def eWr : Enc Try.prog 41 Wr := Enc.map
  (Enc.struct (EncF.cons (off := 0) (sz := 1) eInt rfl (by kernel_rfl) (EncF.cons (sz := 1) eU64 rfl (by kernel_rfl) (EncF.cons (sz := 1) eBool rfl (by kernel_rfl) (EncF.cons (sz := 1) eVec rfl (by kernel_rfl) EncF.nil)))) Try.underlying41 (by kernel_rfl))
  (fun x => ⟨x.1, x.2.1, x.2.2.1, x.2.2.2.1⟩) wrV (fun r => Sm r.v) (fun a _ => by obtain ⟨a, b, c, d, u⟩ := a; cases d <;> rfl) (fun a h => by have := okVec h.2.2.2.1; unfold Sm; dsimp only at this ⊢; omega)
def eFa : Enc Try.prog 43 Fa := Enc.map
  (Enc.struct (EncF.cons (off := 0) (sz := 1) eU64 rfl (by kernel_rfl) (EncF.cons (sz := 4) eWr rfl (by kernel_rfl) EncF.nil)) Try.underlying43 (by kernel_rfl))
  (fun x => ⟨x.1, x.2.1⟩) faV (fun r => Sm r.w.v) (fun a _ => by obtain ⟨a, b, u⟩ := a; cases b; rfl) (fun a h => h.2.1)
def eFas : Enc Try.prog 22 (Option (List Fa)) := Enc.slice eFa Try.underlying22 5 (by kernel_rfl) (by decide) 56 (by kernel_rfl)
theorem okFas {o : Option (List Fa)} (h : eFas.ok o) : SmF o := by
  cases o with
  | none => exact ⟨by simp [lst], by simp [lst]⟩
  | some l =>
    obtain ⟨h1, h2, h3⟩ := h l rfl
    rw [reach_eq] at h2
    exact ⟨by rw [lst_some]; omega, fun r hr => h3 r hr⟩
end Go.Q.SB
end

section
/- Small functions of seat 08. -/
set_option linter.unusedSimpArgs false
set_option linter.unusedVariables false
namespace Go.Q.SB.Ch
open Go.Q
open Nat renaming reduceEqDiff → n1w, reduceAdd → n2w, reduceSub → n3w, reduceLeDiff → n4w, reduceLT → n5w, reduceMul → n6w
open Int renaming reduceBNe → i1w, reduceBEq → i2w, reduceLT → i3w, reduceLE → i4w, reduceGT → i5w
structure Ver where
  b : Int
  e : Int
  v : Option (List Int)
def verV (x : Ver) : V := .agg [.int .u64 x.b, .int .u64 x.e, slV 1 i32V x.v]
def vis (x : Ver) (t : Int) : Bool := decide (x.b ≤ t) && (x.e == 0 || decide (t < x.e))
theorem r90 (b e : Int) (v : Option (List Int)) (t : Int) : res T 90 [.agg [.int .u64 b, .int .u64 e, slV 1 i32V v], .int .u64 t] = some (.bool (vis ⟨b, e, v⟩ t)) := by
  refine run_res (run_pure (fn := g90) rfl rfl (by decide) ?_)
  simp only [g90, b90, oO, oN, mV, lD, gO, pP, qQ, cI, aR]
  simp +contextual -implicitDefEqProofs (maxSteps := 2000000) only [↓wP, wQ, wQ1, wQ2, wQ3, wR, boxE, partsOf, ↓reduceIte, n1w, n2w, n3w, n4w, n5w, n6w, reduceCtorEq, i1w, i2w, i3w, i4w, i5w]
  rfl
theorem f90 (b e : Int) (v : Option (List Int)) (t : Int) (fs : Bool) (σ : Sto) (n lk : Nat) : callE T fs 90 [.agg [.int .u64 b, .int .u64 e, slV 1 i32V v], .int .u64 t] σ n lk = some (.bool (vis ⟨b, e, v⟩ t), σ, n) :=
  callE_tr (by decide) (r90 b e v t) (by simp [Tr, Tr_slV]) rfl fs σ n lk
theorem r89 (b e : Int) (v : Option (List Int)) (t : Int) : res T 89 [.agg [.int .u64 b, .int .u64 e, slV 1 i32V v], .box [.int .u64 t]] = some (.bool (vis ⟨b, e, v⟩ t)) := by
  refine run_res (run_pure (fn := g89) rfl rfl (by decide) ?_)
  simp only [g89, b89, oO, oN, mV, lD, gO, pP, qQ, cI, aR]
  simp +contextual -implicitDefEqProofs (maxSteps := 2000000) only [↓wP, wQ, wQ1, wQ2, wQ3, wR, boxE, partsOf, ↓reduceIte, n1w, n2w, n3w, n4w, n5w, n6w, reduceCtorEq, i1w, i2w, i3w, i4w, i5w, f90]
theorem f89 (b e : Int) (v : Option (List Int)) (t : Int) (fs : Bool) (σ : Sto) (n lk : Nat) : callE T fs 89 [.agg [.int .u64 b, .int .u64 e, slV 1 i32V v], .box [.int .u64 t]] σ n lk = some (.bool (vis ⟨b, e, v⟩ t), σ, n) :=
  callE_tr (by decide) (r89 b e v t) (by simp [Tr, Tr_slV]) rfl fs σ n lk
theorem r88 (o : Option (List Ver)) (F : Nat) (caps : List V) (p : Ver → Bool) (hl : (lst o).length < 9223372036854775808)     (hp : ∀ x fs σ n lk, callE T fs F (verV x :: caps) σ n lk = some (.bool (p x), σ, n)) : res T 88 [slV 3 verV o, .fn F caps] = some (.int .i64 (idxF p (lst o))) := by
  refine run_res (run_pure (fn := g88) rfl rfl (by decide) ?_)
  simp only [g88, b88, oO, oN, mV, lD, gO, pP, qQ, cI, aR]
  simp +contextual -implicitDefEqProofs (maxSteps := 2000000) only [↓wP, wQ, wQ1, wQ2, wQ3, wR, boxE, partsOf, ↓reduceIte, n1w, n2w, n3w, n4w, n5w, n6w, reduceCtorEq, i1w, i2w, i3w, i4w, i5w]
  refine WC_for (lst o).length 0 (fun (j : Nat) env _ _ => env 0 = slV 3 verV o ∧ env 1 = .fn F caps ∧ (lst o).findIdx? p = (((lst o).drop j).findIdx? p).map (· + j)) (by omega) (by decide) (by decide) (fun _ _ => rfl) (fun _ _ _ => rfl) ?_ ?_ _ _ _ rfl rfl ?_
  · intro j env σ n hj h1 h2 ⟨h3, h4, h5⟩
    simp only [vl_tmp] at h2
    have hx : (lst o)[j]? = some (lst o)[j] := List.getElem?_eq_getElem hj
    have hp' := hp (lst o)[j]
    simp only [verV] at hp'
    simp +contextual -implicitDefEqProofs (maxSteps := 2000000) only [↓wP, wQ, wQ1, wQ2, wQ3, wR, boxE, partsOf, ↓reduceIte, n1w, n2w, n3w, n4w, n5w, n6w, reduceCtorEq, i1w, i2w, i3w, i4w, i5w, h1, h2, h3, h4, hx, verV, hp']
    rw [List.drop_eq_getElem_cons hj, List.findIdx?_cons] at h5
    refine condC_split (fun hb => ?_) (fun hb => ?_)
    · simp +contextual -implicitDefEqProofs (maxSteps := 2000000) only [↓wP, wQ, wQ1, wQ2, wQ3, wR, boxE, partsOf, ↓reduceIte, n1w, n2w, n3w, n4w, n5w, n6w, reduceCtorEq, i1w, i2w, i3w, i4w, i5w]
      simp [idxF, h5, hb]
    · simp +contextual -implicitDefEqProofs (maxSteps := 2000000) only [↓wP, wQ, wQ1, wQ2, wQ3, wR, boxE, partsOf, ↓reduceIte, n1w, n2w, n3w, n4w, n5w, n6w, reduceCtorEq, i1w, i2w, i3w, i4w, i5w, h1, h2, h3, h4]
      rw [h5, hb]
      simp only [Bool.false_eq_true, if_false, Option.map_map, Function.comp_def]
      congr 1; funext i; omega
  · intro env σ n ⟨h3, h4, h5⟩ h1 h2
    simp +contextual -implicitDefEqProofs (maxSteps := 2000000) only [↓wP, wQ, wQ1, wQ2, wQ3, wR, boxE, partsOf, ↓reduceIte, n1w, n2w, n3w, n4w, n5w, n6w, reduceCtorEq, i1w, i2w, i3w, i4w, i5w]
    simp [idxF, h5]
  · exact ⟨rfl, rfl, by simp⟩
theorem r80 (o : Option (List Int)) (d : Int) (hl : (lst o).length < 9223372036854775808) : res T 80 [slV 1 i32V o, .int .i64 d] = some (.int .i64 (if okV o then (if ((lst o).length : Int) = d then 0 else 151) else 150)) := by
  refine run_res (run_pure (fn := g80) rfl rfl (by decide) ?_)
  simp only [g80, b80, oO, oN, mV, lD, gO, pP, qQ, cI, aR]
  have h := f71 o hl
  cases hb : okV o
  · simp +contextual -implicitDefEqProofs (maxSteps := 2000000) only [↓wP, wQ, wQ1, wQ2, wQ3, wR, boxE, partsOf, ↓reduceIte, n1w, n2w, n3w, n4w, n5w, n6w, reduceCtorEq, i1w, i2w, i3w, i4w, i5w, h, hb, Bool.false_eq_true, bne_self_eq_false, Int.reduceBNe]
  · simp +contextual -implicitDefEqProofs (maxSteps := 2000000) only [↓wP, wQ, wQ1, wQ2, wQ3, wR, boxE, partsOf, ↓reduceIte, n1w, n2w, n3w, n4w, n5w, n6w, reduceCtorEq, i1w, i2w, i3w, i4w, i5w, h, hb, Bool.false_eq_true, bne_self_eq_false, Int.reduceBNe]
    by_cases hd : ((lst o).length : Int) = d
    · simp +contextual -implicitDefEqProofs (maxSteps := 2000000) only [↓wP, wQ, wQ1, wQ2, wQ3, wR, boxE, partsOf, ↓reduceIte, n1w, n2w, n3w, n4w, n5w, n6w, reduceCtorEq, i1w, i2w, i3w, i4w, i5w, hd]
    · have : (((lst o).length : Int) != d) = true := by simp [hd]
      simp +contextual -implicitDefEqProofs (maxSteps := 2000000) only [↓wP, wQ, wQ1, wQ2, wQ3, wR, boxE, partsOf, ↓reduceIte, n1w, n2w, n3w, n4w, n5w, n6w, reduceCtorEq, i1w, i2w, i3w, i4w, i5w, this, hd]
theorem f80 (o : Option (List Int)) (d : Int) (hl : (lst o).length < 9223372036854775808) (fs : Bool) (σ : Sto) (n lk : Nat) : callE T fs 80 [slV 1 i32V o, .int .i64 d] σ n lk = some (.int .i64 (if okV o then (if ((lst o).length : Int) = d then 0 else 151) else 150), σ, n) :=
  callE_tr (by decide) (r80 o d hl) (by simp [Tr, Tr_slV]) rfl fs σ n lk
def okVer (d : Int) (last : Int) (fin : Bool) (x : Ver) : Bool :=
  decide (0 < x.b) && decide (last ≤ x.b) && decide (x.b ≤ 1099511627776) && decide (x.e ≤ 1099511627776) && (x.e == 0 || decide (x.b < x.e)) &&
    (okV x.v && ((lst x.v).length : Int) == d) && (!x.e == 0 || fin)
def chk (d : Int) : Int → List Ver → Bool
  | _, [] => true
  | last, x :: xs => okVer d last xs.isEmpty x && chk d x.e xs
def dimOf (l : List Ver) : Int := match l with
  | [] => 0
  | x :: _ => ((lst x.v).length : Int)
theorem dimOf_eq {l : List Ver} (h : 0 < l.length) : dimOf l = ((lst l[0].v).length : Int) := by
  cases l with
  | nil => simp at h
  | cons a l => rfl
def okC (o : Option (List Ver)) : Bool := decide ((lst o).length ≤ 96) && chk (dimOf (lst o)) 0 (lst o)
def Sm (o : Option (List Ver)) : Prop := (lst o).length < 9223372036854775808 ∧ ∀ x ∈ lst o, (lst x.v).length < 9223372036854775808
theorem r83 (o : Option (List Ver)) (hs : Sm o) : res T 83 [slV 3 verV o] = some (.int .i64 (if okC o then 0 else 180)) := by
  refine run_res (run_pure (fn := g83) rfl rfl (by decide) ?_)
  simp only [g83, b83, oO, oN, mV, lD, gO, pP, qQ, cI, aR]
  simp +contextual -implicitDefEqProofs (maxSteps := 2000000) only [↓wP, wQ, wQ1, wQ2, wQ3, wR, boxE, partsOf, ↓reduceIte, n1w, n2w, n3w, n4w, n5w, n6w, reduceCtorEq, i1w, i2w, i3w, i4w, i5w]
  refine WC_for (lst o).length 0 (fun (j : Nat) env _ _ => env 0 = slV 3 verV o ∧ env 11 = slV 3 verV o ∧ ∃ ok last, env 3 = .bool ok ∧ env 4 = .int .u64 last ∧ okC o = (ok && chk (dimOf (lst o)) last ((lst o).drop j)))
    (by have := hs.1; omega) (by decide) (by decide) (fun _ _ => rfl) (fun _ _ _ => rfl) ?_ ?_ _ _ _ rfl rfl ?_
  · intro j env σ n hj h1 h2 ⟨h3, h4, ok, last, h5, h6, h7⟩
    simp only [vl_tmp] at h2
    have hx : (lst o)[j]? = some (lst o)[j] := List.getElem?_eq_getElem hj
    have hx0 : (lst o)[0]? = some (lst o)[0] := List.getElem?_eq_getElem (by omega)
    have hv := f80 (lst o)[j].v (((lst (lst o)[0].v).length : Nat) : Int) (hs.2 _ (List.getElem_mem hj))
    have hw : IntKind.i64.wrap (((lst o).length : Int) - 1) = ((lst o).length : Int) - 1 := by have := hs.1; rw [wrap_i64] <;> omega
    rw [List.drop_eq_getElem_cons hj, chk] at h7
    have hdim : dimOf (lst o) = ((lst (lst o)[0].v).length : Int) := dimOf_eq (by omega)
    have hfin : ((j : Int) == ((lst o).length : Int) - 1) = ((lst o).drop (j + 1)).isEmpty := by
      rw [Bool.eq_iff_iff]; simp only [beq_iff_eq, List.isEmpty_iff, List.drop_eq_nil_iff]; omega
    have hval : ((if okV (lst o)[j].v = true then if ((lst (lst o)[j].v).length : Int) = ((lst (lst o)[0].v).length : Int) then 0 else 151 else 150 : Int) == 0) =
        (okV (lst o)[j].v && ((lst (lst o)[j].v).length : Int) == dimOf (lst o)) := by
      rw [hdim, Bool.eq_iff_iff]
      split
      · split <;> simp_all
      · simp_all
    simp +contextual -implicitDefEqProofs (maxSteps := 2000000) only [↓wP, wQ, wQ1, wQ2, wQ3, wR, boxE, partsOf, ↓reduceIte, n1w, n2w, n3w, n4w, n5w, n6w, reduceCtorEq, i1w, i2w, i3w, i4w, i5w, h1, h2, h3, h4, h5, h6, hx, hx0, verV, hv, hw, hfin, hval]
    refine condC_split (fun hb => ?_) (fun hb => ?_)
    · rw [Bool.not_eq_true'] at hb
      have hc : okC o = false := by
        rw [h7, ← Bool.and_assoc]
        have : (ok && okVer (dimOf (lst o)) last ((lst o).drop (j + 1)).isEmpty (lst o)[j]) = false := by rw [← hb]; simp only [okVer, Bool.and_assoc]
        rw [this]; rfl
      simp +contextual -implicitDefEqProofs (maxSteps := 2000000) only [↓wP, wQ, wQ1, wQ2, wQ3, wR, boxE, partsOf, ↓reduceIte, n1w, n2w, n3w, n4w, n5w, n6w, reduceCtorEq, i1w, i2w, i3w, i4w, i5w, hb, hc]
    · rw [Bool.not_eq_false'] at hb
      have hc : okC o = chk (dimOf (lst o)) (lst o)[j].e ((lst o).drop (j + 1)) := by
        rw [h7, ← Bool.and_assoc]
        have : (ok && okVer (dimOf (lst o)) last ((lst o).drop (j + 1)).isEmpty (lst o)[j]) = true := by rw [← hb]; simp only [okVer, Bool.and_assoc]
        rw [this]; rfl
      simp +contextual -implicitDefEqProofs (maxSteps := 2000000) only [↓wP, wQ, wQ1, wQ2, wQ3, wR, boxE, partsOf, ↓reduceIte, n1w, n2w, n3w, n4w, n5w, n6w, reduceCtorEq, i1w, i2w, i3w, i4w, i5w, hb, h1, h2, h3, h4]
      exact ⟨true, _, rfl, rfl, hc⟩
  · intro env σ n ⟨h3, h4, ok, last, h5, h6, h7⟩ h1 h2
    rw [List.drop_length, chk, Bool.and_true] at h7
    simp +contextual -implicitDefEqProofs (maxSteps := 2000000) only [↓wP, wQ, wQ1, wQ2, wQ3, wR, boxE, partsOf, ↓reduceIte, n1w, n2w, n3w, n4w, n5w, n6w, reduceCtorEq, i1w, i2w, i3w, i4w, i5w, h5, h7]
    cases ok <;> simp +contextual -implicitDefEqProofs (maxSteps := 2000000) only [↓wP, wQ, wQ1, wQ2, wQ3, wR, boxE, partsOf, ↓reduceIte, n1w, n2w, n3w, n4w, n5w, n6w, reduceCtorEq, i1w, i2w, i3w, i4w, i5w]
  · refine ⟨rfl, rfl, _, _, rfl, rfl, ?_⟩
    simp only [okC, ← Int.ofNat_le]; rfl
theorem f83 (o : Option (List Ver)) (hs : Sm o) (fs : Bool) (σ : Sto) (n lk : Nat) : callE T fs 83 [slV 3 verV o] σ n lk = some (.int .i64 (if okC o then 0 else 180), σ, n) :=
  callE_tr (by decide) (r83 o hs) (by simp [Tr, Tr_slV]) rfl fs σ n lk
end Go.Q.SB.Ch
end

section
/- The program's functions that ChainOne comes to. -/
set_option linter.unusedSimpArgs false
set_option linter.unusedVariables false
namespace Go.Q.SB.Ch
open Go.Q
open Nat renaming reduceEqDiff → n1w, reduceAdd → n2w, reduceSub → n3w, reduceLeDiff → n4w, reduceLT → n5w, reduceMul → n6w
open Int renaming reduceBNe → i1w, reduceBEq → i2w, reduceLT → i3w, reduceLE → i4w, reduceGT → i5w
def posV (o : Option (List Ver)) (t : Int) : Int := idxF (fun x => vis x t) (lst o)
def atB (o : Option (List Ver)) (t : Int) : Bool := decide (0 ≤ posV o t) && okC o
def atI (o : Option (List Ver)) (t : Int) : Int := if atB o t = true then posV o t else 0
theorem r41 (o : Option (List Ver)) (t : Int) (hs : Sm o) : res T 41 [slV 3 verV o, .int .u64 t] = some (.tup [.int .i64 (atI o t), .bool (atB o t)]) := by
  refine run_res (run_pure (fn := g41) rfl rfl (by decide) ?_)
  simp only [g41, b41, oO, oN, mV, lD, gO, pP, qQ, cI, aR]
  have h := r88 o 89 [.box [.int .u64 t]] (fun x => vis x t) hs.1 (fun x fs σ n lk => f89 x.b x.e x.v t fs σ n lk)
  have hm : T.mode 88 ≠ .raw := by decide
  have h11 := f83 o hs
  have hw : idxF (fun x => vis x t) (lst o) = posV o t := rfl
  simp +contextual -implicitDefEqProofs (maxSteps := 2000000) only [↓wP, wQ, wQ1, wQ2, wQ3, wR, boxE, partsOf, ↓reduceIte, n1w, n2w, n3w, n4w, n5w, n6w, reduceCtorEq, i1w, i2w, i3w, i4w, i5w, h, callE_eq hm, h11, hw]
  by_cases h0 : posV o t < 0
  · have hB : atB o t = false := by simp [atB]; intro h; omega
    simp +contextual -implicitDefEqProofs (maxSteps := 2000000) only [↓wP, wQ, wQ1, wQ2, wQ3, wR, boxE, partsOf, ↓reduceIte, n1w, n2w, n3w, n4w, n5w, n6w, reduceCtorEq, i1w, i2w, i3w, i4w, i5w, h0, atI, hB]
  · have h0' : 0 ≤ posV o t := by omega
    cases hc : okC o
    · have hB : atB o t = false := by simp [atB, hc]
      simp +contextual -implicitDefEqProofs (maxSteps := 2000000) only [↓wP, wQ, wQ1, wQ2, wQ3, wR, boxE, partsOf, ↓reduceIte, n1w, n2w, n3w, n4w, n5w, n6w, reduceCtorEq, i1w, i2w, i3w, i4w, i5w, h0, atI, hB]
    · have hB : atB o t = true := by simp [atB, hc, h0']
      simp +contextual -implicitDefEqProofs (maxSteps := 2000000) only [↓wP, wQ, wQ1, wQ2, wQ3, wR, boxE, partsOf, ↓reduceIte, n1w, n2w, n3w, n4w, n5w, n6w, reduceCtorEq, i1w, i2w, i3w, i4w, i5w, h0, atI, hB]
theorem f41 (o : Option (List Ver)) (t : Int) (hs : Sm o) (fs : Bool) (σ : Sto) (n lk : Nat) : callE T fs 41 [slV 3 verV o, .int .u64 t] σ n lk = some (.tup [.int .i64 (atI o t), .bool (atB o t)], σ, n) :=
  callE_tr (by decide) (r41 o t hs) (by simp [Tr, Tr_slV]) rfl fs σ n lk
def opt {α : Type} (l : List α) : Option (List α) := if l.isEmpty then none else some l
theorem lst_opt {α : Type} (l : List α) : lst (opt l) = l := by cases l <;> rfl
theorem lst_map {α β : Type} (f : α → β) (o : Option (List α)) : lst (o.map (List.map f)) = (lst o).map f := by cases o <;> rfl
theorem opt_snoc {α : Type} (l : List α) (x : α) : opt (l ++ [x]) = appO (opt l) [x] := by cases l <;> rfl
end Go.Q.SB.Ch
end

section
/- More functions of seat 08: equality, what may be, last traces. -/
set_option linter.unusedSimpArgs false
set_option linter.unusedVariables false
namespace Go.Q.SB.Ch
open Go.Q
open Nat renaming reduceEqDiff → n1w, reduceAdd → n2w, reduceSub → n3w, reduceLeDiff → n4w, reduceLT → n5w, reduceMul → n6w
open Int renaming reduceBNe → i1w, reduceBEq → i2w, reduceLT → i3w, reduceLE → i4w, reduceGT → i5w
def mx (x y : Int) : Int := if x < y then y else x
theorem mx_fold (x y : Int) : (if x < y then y else x) = mx x y := rfl
def lastC (l : List Ver) : Int := match l.getLast? with
  | some v => mx v.b v.e
  | none => 0
theorem r106 (o : Option (List Ver)) (hs : Sm o) : res T 106 [slV 3 verV o] = some (.int .u64 (lastC (lst o))) := by
  refine run_res (run_pure (fn := g106) rfl rfl (by decide) ?_)
  simp only [g106, b106, oO, oN, mV, lD, gO, pP, qQ, cI, aR]
  simp +contextual -implicitDefEqProofs (maxSteps := 2000000) only [↓wP, wQ, wQ1, wQ2, wQ3, wR, boxE, partsOf, ↓reduceIte, n1w, n2w, n3w, n4w, n5w, n6w, reduceCtorEq, i1w, i2w, i3w, i4w, i5w]
  by_cases h0 : (lst o).length = 0
  · have e : lst o = [] := List.length_eq_zero_iff.1 h0
    have hl : lastC (lst o) = 0 := by rw [e]; rfl
    have hd : (((lst o).length : Int) == 0) = true := by simpa using h0
    simp +contextual -implicitDefEqProofs (maxSteps := 2000000) only [↓wP, wQ, wQ1, wQ2, wQ3, wR, boxE, partsOf, ↓reduceIte, n1w, n2w, n3w, n4w, n5w, n6w, reduceCtorEq, i1w, i2w, i3w, i4w, i5w, hd, hl]
  · have hd : (((lst o).length : Int) == 0) = false := by simpa using h0
    have hw : IntKind.i64.wrap (((lst o).length : Int) - 1) = (((lst o).length - 1 : Nat) : Int) := by have := hs.1; rw [wrap_i64] <;> omega
    have hx : (lst o)[(lst o).length - 1]? = some (lst o)[(lst o).length - 1] := List.getElem?_eq_getElem (by omega)
    have hl : lastC (lst o) = mx (lst o)[(lst o).length - 1].b (lst o)[(lst o).length - 1].e := by
      unfold lastC
      rw [List.getLast?_eq_getElem?, hx]
    simp +contextual -implicitDefEqProofs (maxSteps := 2000000) only [↓wP, wQ, wQ1, wQ2, wQ3, wR, boxE, partsOf, ↓reduceIte, n1w, n2w, n3w, n4w, n5w, n6w, reduceCtorEq, i1w, i2w, i3w, i4w, i5w, hd, hw, hx, verV, mx_fold, hl]
theorem f106 (o : Option (List Ver)) (hs : Sm o) (fs : Bool) (σ : Sto) (n lk : Nat) : callE T fs 106 [slV 3 verV o] σ n lk = some (.int .u64 (lastC (lst o)), σ, n) :=
  callE_tr (by decide) (r106 o hs) (by simp [Tr, Tr_slV]) rfl fs σ n lk
end Go.Q.SB.Ch
end

section
/- Copies, and what pruning leaves. -/
set_option linter.unusedSimpArgs false
set_option linter.unusedVariables false
namespace Go.Q.SB.Ch
open Go.Q
open Nat renaming reduceEqDiff → n1w, reduceAdd → n2w, reduceSub → n3w, reduceLeDiff → n4w, reduceLT → n5w, reduceMul → n6w
open Int renaming reduceBNe → i1w, reduceBEq → i2w, reduceLT → i3w, reduceLE → i4w, reduceGT → i5w
theorem tr_ver (k : Nat) (x : Ver) : Tr (k + 2) (verV x) = true := by simp [verV, Tr, Tr_slV]
theorem trc_ver (k : Nat) (x : Ver) : ∀ c ∈ (verV x).cells, Tr (k + 1) c = true := by
  intro c hc
  simp only [verV, V.cells, List.mem_cons, List.not_mem_nil, or_false] at hc
  rcases hc with rfl | rfl | rfl
  · rfl
  · rfl
  · exact Tr_slV _ _ _ _
def ownV {β : Type} (sz : Nat) (f : β → V) : Option (List β) → V
  | none => .nilS
  | some l => .own sz (l.map f)
def ownR {β : Type} (σ : Sto) (n sz : Nat) (f : β → V) : Option (List β) → V × Sto × Nat
  | none => (.nilS, σ, n)
  | some l => (.ref n 0 (l.map f).length sz, upd σ n (some (.row sz (l.map f))), n + 1)
def Fit (o : Option (List Int)) : Prop := (lst o).length * 4 ≤ LIM
def FitC (o : Option (List Ver)) : Prop := (lst o).length * 40 ≤ LIM ∧ ∀ x ∈ lst o, Fit x.v
theorem r74 (o : Option (List Int)) (h : Fit o) : res T 74 [slV 1 i32V o] = some (slV 1 i32V o) := by
  refine run_res (run_pure (fn := g74) rfl rfl (by decide) ?_)
  simp only [g74, b74, oO, oN, mV, lD, gO, pP, qQ, cI, aR]
  unfold Fit at h
  cases o with
  | none => simp +contextual -implicitDefEqProofs (maxSteps := 2000000) only [↓wP, wQ, wQ1, wQ2, wQ3, wR, boxE, partsOf, ↓reduceIte, n1w, n2w, n3w, n4w, n5w, n6w, reduceCtorEq, i1w, i2w, i3w, i4w, i5w, slV_none, Option.isNone_none]
  | some l =>
    have hl : (l.map i32V).length * 4 ≤ LIM := by simpa [lst] using h
    simp +contextual -implicitDefEqProofs (maxSteps := 2000000) only [↓wP, wQ, wQ1, wQ2, wQ3, wR, boxE, partsOf, ↓reduceIte, n1w, n2w, n3w, n4w, n5w, n6w, reduceCtorEq, i1w, i2w, i3w, i4w, i5w, slV_some, hl, true_or]
    have := (Fz.ref (σ := upd (upd (upd Sto.empty 0 (some (.row 1 []))) 0 none) 1 (some (.row 1 (l.map i32V)))) (id := 1) (sz := 1) (xs := l.map i32V) (ts := l.map i32V) (k := 11) (S := fun _ => True) (by simp [upd]) trivial
      (FzL.trees (fun x hx => by obtain ⟨t, -, rfl⟩ := List.mem_map.1 hx; rfl) (fun x hx c hc => by obtain ⟨t, -, rfl⟩ := List.mem_map.1 hx; simp [i32V, V.cells] at hc; subst hc; rfl))).1
    simpa using this
theorem f74 (o : Option (List Int)) (h : Fit o) (fs : Bool) (σ : Sto) (n lk : Nat) : callE T fs 74 [slV 1 i32V o] σ n lk = some (slV 1 i32V o, σ, n) :=
  callE_tr (by decide) (r74 o h) (by simp [Tr, Tr_slV]) (Nw_slV 1 i32V _ 11) fs σ n lk
theorem r108 (o : Option (List Ver)) (h : (lst o).length * 40 ≤ LIM) : res T 108 [slV 3 verV o] = some (ownV 3 verV o) := by
  refine run_res (run_own (fn := g108) rfl rfl (by decide) ?_)
  simp only [g108, b108, oO, oN, mV, lD, gO, pP, qQ, cI, aR]
  cases o with
  | none =>
    simp +contextual -implicitDefEqProofs (maxSteps := 2000000) only [↓wP, wQ, wQ1, wQ2, wQ3, wR, boxE, partsOf, ↓reduceIte, n1w, n2w, n3w, n4w, n5w, n6w, reduceCtorEq, i1w, i2w, i3w, i4w, i5w, slV_none, Option.isNone_none]
    exact ⟨rfl, by simp [gids]⟩
  | some l =>
    have hl : (l.map verV).length * 40 ≤ LIM := by simpa [lst] using h
    simp +contextual -implicitDefEqProofs (maxSteps := 2000000) only [↓wP, wQ, wQ1, wQ2, wQ3, wR, boxE, partsOf, ↓reduceIte, n1w, n2w, n3w, n4w, n5w, n6w, reduceCtorEq, i1w, i2w, i3w, i4w, i5w, slV_some, hl, true_or]
    have := giv_row (σ := upd (upd (upd Sto.empty 0 (some (.row 3 []))) 0 none) 1 (some (.row 3 (l.map verV)))) (id := 1) (sz := 3) (xs := l.map verV) (by simp [upd])
      (fun x hx => by obtain ⟨t, -, rfl⟩ := List.mem_map.1 hx; cases ht : t.v <;> simp [verV, elemM, giv, slV, ht])
      (fun x hx c hc => by
        obtain ⟨t, -, rfl⟩ := List.mem_map.1 hx
        simp only [verV, V.cells, List.mem_cons, List.not_mem_nil, or_false] at hc
        rcases hc with rfl | rfl | rfl
        · rfl
        · rfl
        · cases t.v <;> rfl)
    simpa [ownV] using this
theorem f108 (o : Option (List Ver)) (h : (lst o).length * 40 ≤ LIM) (fs : Bool) (σ : Sto) (n lk : Nat) : callE T fs 108 [slV 3 verV o] σ n lk =
    some (ownR σ n 3 verV o) := by
  cases o with
  | none => exact callE_tr (by decide) (r108 none h) (by simp [Tr, Tr_slV]) rfl fs σ n lk
  | some l => exact callE_own (by decide) (r108 (some l) h) (by simp [Tr, Tr_slV]) (fun x hx => by obtain ⟨t, -, rfl⟩ := List.mem_map.1 hx; simp [verV, Nw, Nw_slV]) fs σ n lk
theorem r86 (o : Option (List Ver)) (h : FitC o) : res T 86 [slV 3 verV o] = some (ownV 3 verV o) := by
  refine run_res (run_own (fn := g86) rfl rfl (by decide) ?_)
  simp only [g86, b86, oO, oN, mV, lD, gO, pP, qQ, cI, aR]
  have h57 := f108 o h.1
  cases o with
  | none =>
    have e0 : slV 3 verV (none : Option (List Ver)) = .nilS := rfl
    rw [e0] at h57 ⊢
    simp +contextual -implicitDefEqProofs (maxSteps := 2000000) only [↓wP, wQ, wQ1, wQ2, wQ3, wR, boxE, partsOf, ↓reduceIte, n1w, n2w, n3w, n4w, n5w, n6w, reduceCtorEq, i1w, i2w, i3w, i4w, i5w, h57, ownR]
    refine WC_for 0 0 (fun _ env σ n => env 3 = .nilS) (by omega) (by decide) (by decide) (fun _ _ => rfl) (fun _ _ _ => rfl) (fun j _ _ _ hj => absurd hj (by omega)) ?_ _ _ _ rfl rfl rfl
    intro env σ n h3 h1 h2
    simp +contextual -implicitDefEqProofs (maxSteps := 2000000) only [↓wP, wQ, wQ1, wQ2, wQ3, wR, boxE, partsOf, ↓reduceIte, n1w, n2w, n3w, n4w, n5w, n6w, reduceCtorEq, i1w, i2w, i3w, i4w, i5w, h3]
    exact ⟨rfl, by simp [gids]⟩
  | some l =>
    have hl : l.length * 40 ≤ LIM := by simpa [lst] using h.1
    simp +contextual -implicitDefEqProofs (maxSteps := 2000000) only [↓wP, wQ, wQ1, wQ2, wQ3, wR, boxE, partsOf, ↓reduceIte, n1w, n2w, n3w, n4w, n5w, n6w, reduceCtorEq, i1w, i2w, i3w, i4w, i5w, h57, ownR]
    refine WC_for (l.map verV).length 0 (fun (j : Nat) env σ n => env 3 = .ref 0 0 (l.map verV).length 3 ∧ σ 0 = some (.row 3 (l.map verV)) ∧ 1 ≤ n)
      (by unfold LIM at hl; simp; omega) (by decide) (by decide) (fun _ _ => rfl) (fun _ _ _ => rfl) ?_ ?_ _ _ _ rfl rfl ?_
    · intro j env σ n hj h1 h2 ⟨h3, h4, h5⟩
      simp only [vl_tmp] at h2
      have hj' : j < l.length := by simpa using hj
      have hx : (l.map verV)[j]? = some (.agg [.int .u64 l[j].b, .int .u64 l[j].e, slV 1 i32V l[j].v]) := by
        rw [List.getElem?_map, List.getElem?_eq_getElem hj']; rfl
      have h51 := f74 l[j].v (h.2 _ (by rw [lst_some]; exact List.getElem_mem hj'))
      have hset : (l.map verV).set j (.agg [.int .u64 l[j].b, .int .u64 l[j].e, slV 1 i32V l[j].v]) = l.map verV := by
        apply List.ext_getElem?
        intro i
        rw [List.getElem?_set]
        split
        · rename_i e; subst e; exact hx.symm
        · rfl
      simp +contextual -implicitDefEqProofs (maxSteps := 2000000) only [↓wP, wQ, wQ1, wQ2, wQ3, wR, boxE, partsOf, ↓reduceIte, n1w, n2w, n3w, n4w, n5w, n6w, reduceCtorEq, i1w, i2w, i3w, i4w, i5w, h1, h2, h3, h4, hj, hx, h51, hset]
      exact h5
    · intro env σ n ⟨h3, h4, h5⟩ h1 h2
      simp +contextual -implicitDefEqProofs (maxSteps := 2000000) only [↓wP, wQ, wQ1, wQ2, wQ3, wR, boxE, partsOf, ↓reduceIte, n1w, n2w, n3w, n4w, n5w, n6w, reduceCtorEq, i1w, i2w, i3w, i4w, i5w, h3]
      have := giv_row (σ := σ) (id := 0) (sz := 3) (xs := l.map verV) h4
        (fun x hx => by obtain ⟨t, -, rfl⟩ := List.mem_map.1 hx; cases ht : t.v <;> simp [verV, elemM, giv, slV, ht])
        (fun x hx c hc => by
          obtain ⟨t, -, rfl⟩ := List.mem_map.1 hx
          simp only [verV, V.cells, List.mem_cons, List.not_mem_nil, or_false] at hc
          rcases hc with rfl | rfl | rfl
          · rfl
          · rfl
          · cases t.v <;> rfl)
      simpa [ownV] using this
    · exact ⟨rfl, by simp [upd], by omega⟩
theorem f86 (o : Option (List Ver)) (h : FitC o) (fs : Bool) (σ : Sto) (n lk : Nat) : callE T fs 86 [slV 3 verV o] σ n lk =
    some (ownR σ n 3 verV o) := by
  cases o with
  | none => exact callE_tr (by decide) (r86 none h) (by simp [Tr, Tr_slV]) rfl fs σ n lk
  | some l => exact callE_own (by decide) (r86 (some l) h) (by simp [Tr, Tr_slV]) (fun x hx => by obtain ⟨t, -, rfl⟩ := List.mem_map.1 hx; simp [verV, Nw, Nw_slV]) fs σ n lk
end Go.Q.SB.Ch
end

section
/- Pruning. -/
set_option linter.unusedSimpArgs false
set_option linter.unusedVariables false
namespace Go.Q.SB.Ch
open Go.Q
open Nat renaming reduceEqDiff → n1w, reduceAdd → n2w, reduceSub → n3w, reduceLeDiff → n4w, reduceLT → n5w, reduceMul → n6w
open Int renaming reduceBNe → i1w, reduceBEq → i2w, reduceLT → i3w, reduceLE → i4w, reduceGT → i5w
def goesP (fl : Int) (x : Ver) : Bool := x.e != 0 && decide (x.e ≤ fl)
theorem r84 (b e : Int) (v : Option (List Int)) (fl : Int) : res T 84 [.agg [.int .u64 b, .int .u64 e, slV 1 i32V v], .box [.int .u64 fl]] = some (.bool (goesP fl ⟨b, e, v⟩)) := by
  refine run_res (run_pure (fn := g84) rfl rfl (by decide) ?_)
  simp only [g84, b84, oO, oN, mV, lD, gO, pP, qQ, cI, aR]
  simp +contextual -implicitDefEqProofs (maxSteps := 2000000) only [↓wP, wQ, wQ1, wQ2, wQ3, wR, boxE, partsOf, ↓reduceIte, n1w, n2w, n3w, n4w, n5w, n6w, reduceCtorEq, i1w, i2w, i3w, i4w, i5w]
  rfl
theorem f84 (b e : Int) (v : Option (List Int)) (fl : Int) (fs : Bool) (σ : Sto) (n lk : Nat) : callE T fs 84 [.agg [.int .u64 b, .int .u64 e, slV 1 i32V v], .box [.int .u64 fl]] σ n lk = some (.bool (goesP fl ⟨b, e, v⟩), σ, n) :=
  callE_tr (by decide) (r84 b e v fl) (by simp [Tr, Tr_slV]) rfl fs σ n lk
theorem r87 (b e : Int) (v : Option (List Int)) (fl : Int) : res T 87 [.agg [.int .u64 b, .int .u64 e, slV 1 i32V v], .box [.fn 84 [.box [.int .u64 fl]]]] = some (.bool (!goesP fl ⟨b, e, v⟩)) := by
  refine run_res (run_pure (fn := g87) rfl rfl (by decide) ?_)
  simp only [g87, b87, oO, oN, mV, lD, gO, pP, qQ, cI, aR]
  have h := f84 b e v fl
  simp +contextual -implicitDefEqProofs (maxSteps := 2000000) only [↓wP, wQ, wQ1, wQ2, wQ3, wR, boxE, partsOf, ↓reduceIte, n1w, n2w, n3w, n4w, n5w, n6w, reduceCtorEq, i1w, i2w, i3w, i4w, i5w, h]
theorem f87 (b e : Int) (v : Option (List Int)) (fl : Int) (fs : Bool) (σ : Sto) (n lk : Nat) : callE T fs 87 [.agg [.int .u64 b, .int .u64 e, slV 1 i32V v], .box [.fn 84 [.box [.int .u64 fl]]]] σ n lk = some (.bool (!goesP fl ⟨b, e, v⟩), σ, n) :=
  callE_tr (by decide) (r87 b e v fl) (by simp [Tr, Tr_slV]) rfl fs σ n lk
def Row (σ : Sto) (cv : V) (L : List Ver) : Prop := (cv = .nilS ∧ L = []) ∨ ∃ id, cv = .ref id 0 (L.map verV).length 3 ∧ σ id = some (.row 3 (L.map verV))
theorem that56 (L : List Ver) (cv : V) (F : Nat) (fcaps : List V) (p : Ver → Bool) (J : List Ver → Sto → Nat → Prop) (l pc pi : Nat) (hlen : L.length < 9223372036854775808)
    (hc : ∀ pre σ n, J pre σ n → σ pc = some (.row 1 [cv]) ∧ σ pi = some (.row 1 [.fn F fcaps]) ∧ Row σ cv L)
    (hal : ∀ pre σ n σ', J pre σ n → (∀ i, i ≠ n → σ' i = σ i) → J pre σ' (n + 1))
    (hp : ∀ pre σ n b e v, J pre σ n → callE T true F (.agg [.int .u64 b, .int .u64 e, slV 1 i32V v] :: fcaps) σ n 0 = some (.bool (p ⟨b, e, v⟩), σ, n))
    (hy : ∀ pre σ n b e v, pre.length < L.length → J pre σ n → yieldW (run T) l [.agg [.int .u64 b, .int .u64 e, slV 1 i32V v]] σ n 0 (fun y σ' n' => y = .bool true ∧ J (pre ++ [⟨b, e, v⟩]) σ' n'))
    (σ0 : Sto) (n0 : Nat) (h0 : J [] σ0 n0) : run T (.raw 107 [.yld l, .ptr pc 1 0 0, .ptr pi 1 0 0] σ0 n0 0) (memQ fun _ σ' n' => J (L.filter p) σ' n') := by
  refine run_rawE (fn := g107) rfl rfl ?_
  obtain ⟨c1, c2, c3⟩ := hc _ _ _ h0
  have hle : lenE cv = some (.int .i64 (L.length : Int)) := by
    rcases c3 with ⟨rfl, rfl⟩ | ⟨id, rfl, -⟩
    · rfl
    · rw [lenE_ref, List.length_map]
  have hcl : cv.cells = [cv] := by rcases c3 with ⟨rfl, -⟩ | ⟨id, rfl, -⟩ <;> rfl
  simp only [g107, b107, oO, oN, mV, lD, gO, pP, qQ, cI, aR]
  simp +contextual -implicitDefEqProofs (maxSteps := 2000000) only [↓wP, wQ, wQ1, wQ2, wQ3, wR, boxE, partsOf, ↓reduceIte, n1w, n2w, n3w, n4w, n5w, n6w, reduceCtorEq, i1w, i2w, i3w, i4w, i5w, c1, hle, hcl]
  refine WC_for L.length 0 (fun (j : Nat) env σ n => env 0 = .yld l ∧ env 2 = .ptr pi 1 0 0 ∧ env 6 = cv ∧ J ((L.take j).filter p) σ n) hlen ?_ ?_ ?_ ?_ ?_ ?_ _ _ _ rfl rfl ?_
  · decide
  · decide
  · exact fun _ _ => rfl
  · exact fun _ _ _ => rfl
  · intro j env σ n hj h1 h2 ⟨h3, h4, h5, h6⟩
    simp only [vl_tmp] at h2
    obtain ⟨d1, d2, d3⟩ := hc _ _ _ h6
    rcases d3 with ⟨-, rfl⟩ | ⟨id, rfl, d4⟩
    · simp at hj
    have hx : (L.map verV)[j]? = some (.agg [.int .u64 L[j].b, .int .u64 L[j].e, slV 1 i32V L[j].v]) := by
      rw [List.getElem?_map, List.getElem?_eq_getElem hj]; rfl
    have hj2 : j < (L.map verV).length := by simpa using hj
    have hJ1 := hal _ σ n (upd (upd σ n (some (.row 3 [.agg [.int .u64 0, .int .u64 0, .nilS]]))) n (some (.row 3 [.agg [.int .u64 L[j].b, .int .u64 L[j].e, slV 1 i32V L[j].v]]))) h6 (fun i hi => by simp [upd, hi])
    obtain ⟨e1, e2, -⟩ := hc _ _ _ hJ1
    have hpx := hp _ _ _ L[j].b L[j].e L[j].v hJ1
    have hyx := hy _ _ _ L[j].b L[j].e L[j].v (by have := List.length_filter_le p (L.take j); rw [List.length_take] at this; omega) hJ1
    have hf : (L.take (j + 1)).filter p = (L.take j).filter p ++ if p L[j] = true then [L[j]] else [] := by
      rw [← List.take_append_getElem hj, List.filter_append]
      congr 1
      cases hh : p L[j] <;> simp [hh]
    have hpi : (pi = n) = False := by
      simp only [eq_iff_iff, iff_false]
      rintro rfl
      simp [upd] at e2
    cases hq : p L[j]
    · rw [show p ⟨L[j].b, L[j].e, L[j].v⟩ = false from hq] at hpx
      simp +contextual -implicitDefEqProofs (maxSteps := 2000000) only [↓wP, wQ, wQ1, wQ2, wQ3, wR, boxE, partsOf, ↓reduceIte, n1w, n2w, n3w, n4w, n5w, n6w, reduceCtorEq, i1w, i2w, i3w, i4w, i5w, h1, h2, h3, h4, h5, hj2, hx, d4, hpi, d2, hpx]
      rw [hf, hq]
      simpa using hJ1
    · rw [show p ⟨L[j].b, L[j].e, L[j].v⟩ = true from hq] at hpx
      simp +contextual -implicitDefEqProofs (maxSteps := 2000000) only [↓wP, wQ, wQ1, wQ2, wQ3, wR, boxE, partsOf, ↓reduceIte, n1w, n2w, n3w, n4w, n5w, n6w, reduceCtorEq, i1w, i2w, i3w, i4w, i5w, h1, h2, h3, h4, h5, hj2, hx, d4, hpi, d2, hpx]
      refine stepW_yld (yieldW_mono (fun _ _ x => x) run_mono (fun y σ' n' ⟨hy1, hy2⟩ => ?_) hyx)
      subst hy1
      simp +contextual -implicitDefEqProofs (maxSteps := 2000000) only [↓wP, wQ, wQ1, wQ2, wQ3, wR, boxE, partsOf, ↓reduceIte, n1w, n2w, n3w, n4w, n5w, n6w, reduceCtorEq, i1w, i2w, i3w, i4w, i5w, h1, h2, h3, h4, h5]
      rw [hf, hq]
      simpa using hy2
  · intro env σ n ⟨h3, h4, h5, h6⟩ h1 h2
    rw [List.take_length] at h6
    simp +contextual -implicitDefEqProofs (maxSteps := 2000000) only [↓wP, wQ, wQ1, wQ2, wQ3, wR, boxE, partsOf, ↓reduceIte, n1w, n2w, n3w, n4w, n5w, n6w, reduceCtorEq, i1w, i2w, i3w, i4w, i5w]
    exact h6
  · exact ⟨rfl, rfl, rfl, h0⟩
end Go.Q.SB.Ch
end

section
/- Pruning: what stays and what goes. -/
set_option linter.unusedSimpArgs false
set_option linter.unusedVariables false
namespace Go.Q.SB.Ch
open Go.Q
open Nat renaming reduceEqDiff → n1w, reduceAdd → n2w, reduceSub → n3w, reduceLeDiff → n4w, reduceLT → n5w, reduceMul → n6w
open Int renaming reduceBNe → i1w, reduceBEq → i2w, reduceLT → i3w, reduceLE → i4w, reduceGT → i5w
theorem collectA {env : Nat → V} {σ : Sto} {n : Nat} {Q : Ex → St → Prop} (L : List Ver) (cv : V) (F : Nat) (fcaps : List V) (p : Ver → Bool) (pc pi d : Nat)
    (hg : env 22 = .fn 107 [.ptr pc 1 0 0, .ptr pi 1 0 0]) (hd : env 10 = .ptr d 1 0 0) (h1 : σ pc = some (.row 1 [cv])) (h2 : σ pi = some (.row 1 [.fn F fcaps])) (h3 : Row σ cv L) (h4 : σ d = some (.row 1 [.nilS]))
    (l1 : pc < n) (l2 : pi < n) (l4 : d < n) (l3 : ∀ id off len sz, cv = .ref id off len sz → id < n ∧ id ≠ d) (n1 : pc ≠ d) (n2 : pi ≠ d)
    (hp : ∀ σ' n' b e v, (∀ i, i < n → i ≠ d → σ' i = σ i) → callE T true F (.agg [.int .u64 b, .int .u64 e, slV 1 i32V v] :: fcaps) σ' n' 0 = some (.bool (p ⟨b, e, v⟩), σ', n'))
    (hl : L.length * 40 ≤ LIM)
    (hQ : ∀ σ' n' gv, (∀ i, i < n → i ≠ d → σ' i = σ i) → n ≤ n' → σ' d = some (.row 1 [gv]) → Pl σ' n n' 3 gv ((opt (L.filter p)).map (List.map verV)) → Q .normal ⟨env, σ', n', 0⟩) :
    WC T (.rangeF (.tmp 22) [23] (.reg [⟨some 11, none, .alloc (.agg [.int .u64 0, .int .u64 0, .nilS])⟩, ⟨none, none, .store 3 (.tmp 11) (.tmp 23)⟩])
      (.block 1 (.reg [⟨some 24, none, .load false 1 (.tmp 10)⟩, ⟨some 25, none, .load true 3 (.tmp 11)⟩, ⟨some 26, none, .lit 3 [.tmp 25]⟩,
        ⟨some 27, none, .append 3 40 (.tmp 24) (.tmp 26)⟩, ⟨none, none, .store 1 (.tmp 10) (.tmp 27)⟩]))) env σ n 0 Q := by
  refine WC_rangeF hg (Nat.zero_le _) ?_
  generalize hA : AC.reg [⟨some 11, none, .alloc (.agg [.int .u64 0, .int .u64 0, .nilS])⟩, ⟨none, none, .store 3 (.tmp 11) (.tmp 23)⟩] = asg
  generalize hB : AC.block 1 (.reg [⟨some 24, none, .load false 1 (.tmp 10)⟩, ⟨some 25, none, .load true 3 (.tmp 11)⟩, ⟨some 26, none, .lit 3 [.tmp 25]⟩,
        ⟨some 27, none, .append 3 40 (.tmp 24) (.tmp 26)⟩, ⟨none, none, .store 1 (.tmp 10) (.tmp 27)⟩]) = bd
  refine run_mono _ _ _ (fun o ho => ?_) (that56 L cv F fcaps p (fun pre σ' n' => pre.length ≤ L.length ∧ n < n' ∧ (∀ i, i < n → i ≠ d → σ' i = σ i) ∧ σ' n = some (.loop env [23] asg bd .ready none) ∧
    ∃ gv, σ' d = some (.row 1 [gv]) ∧ Pl σ' (n + 1) n' 3 gv ((opt pre).map (List.map verV))) n pc pi (by unfold LIM at hl; omega) ?_ ?_ ?_ ?_ _ _ ?_)
  · cases o <;> try exact ho.elim
    obtain ⟨-, e1, e2, e3, gv, e4, e5⟩ := ho
    refine ⟨_, _, _, _, _, _, e3, by decide, ?_⟩
    refine hQ _ _ gv (fun i hi hd => ?_) (by omega) ?_ ?_
    · have a1 : i ≠ n := by omega
      simp only [upd_get, a1, if_false]
      exact e2 i hi hd
    · have a1 : d ≠ n := by omega
      simp only [upd_get, a1, if_false]
      exact e4
    · cases ho : (opt (L.filter p)).map (List.map verV) with
      | none => rw [ho] at e5; exact e5
      | some xs =>
        rw [ho] at e5
        obtain ⟨i, f1, f2, f3, f4⟩ := e5
        have a1 : i ≠ n := by omega
        exact ⟨i, f1, by simp only [upd_get, a1, if_false]; exact f2, by omega, f4⟩
  · rintro pre σ' n' ⟨-, e1, e2, e3, -⟩
    refine ⟨(e2 _ l1 n1).trans h1, (e2 _ l2 n2).trans h2, ?_⟩
    rcases h3 with h3 | ⟨id, f1, f2⟩
    · exact .inl h3
    · obtain ⟨g1, g2⟩ := l3 _ _ _ _ f1
      exact .inr ⟨id, f1, (e2 _ g1 g2).trans f2⟩
  · rintro pre σ' n' σ2 ⟨e0, e1, e2, e3, gv, e4, e5⟩ hσ
    refine ⟨e0, by omega, fun i hi hd => (hσ i (by omega)).trans (e2 i hi hd), (hσ n (by omega)).trans e3, gv, (hσ d (by omega)).trans e4, e5.loc (fun i _ hi => hσ i (by omega)) (by omega)⟩
  · rintro pre σ' n' b e v ⟨-, e1, e2, -⟩
    exact hp σ' n' b e v e2
  · rintro pre σ' n' b e v hlt ⟨e0, e1, e2, e3, gv, e4, e5⟩
    refine yieldW_go e3 rfl (Nat.zero_le _) ?_ (hd := ⟨by rw [← hA]; rfl, by rw [← hB]; rfl⟩)
    subst hA
    subst hB
    have a1 : (n = n') = False := by simp; omega
    have a2 : (d = n') = False := by simp; omega
    have a3 : (d = n) = False := by simp; omega
    have a4 : (n = d) = False := by simp; omega
    have a5 : (n' = n) = False := by simp; omega
    have a6 : (n' = d) = False := by simp; omega
    have b1 := e5.cells
    simp +contextual -implicitDefEqProofs (maxSteps := 2000000) only [↓wP, wQ, wQ1, wQ2, wQ3, wR, boxE, partsOf, ↓reduceIte, n1w, n2w, n3w, n4w, n5w, n6w, reduceCtorEq, i1w, i2w, i3w, i4w, i5w, bind_cons, bind_nil, hd, e3, e4, a1, a2, a3, a4, a5, a6, b1]
    refine stepW_appP e5 (fun i hi hi' => ?_) (by omega) (by omega) (Nat.zero_le _) ?_ (fun v' σ2 n2 q1 q2 q3 => ?_)
    · have c1 : i ≠ n' + 1 := by omega
      have c2 : i ≠ n' := by omega
      have c3 : i ≠ n := by omega
      simp only [upd_get, c1, c2, c3, if_false]
    · rw [lst_map, lst_opt]
      simp only [List.length_map, List.length_cons, List.length_nil]
      refine Nat.le_trans (Nat.mul_le_mul_right 40 ?_) hl
      omega
    · have d1 := q3 d (by omega)
      have d2 := q3 n (by omega)
      have c1 : (d = n' + 1) = False := by simp; omega
      have c2 : (n = n' + 1) = False := by simp; omega
      simp only [upd_get, a1, a2, a3, a4, a5, a6, c1, c2, if_false, if_true, e4] at d1 d2
      have b2 := q1.cells
      have b3 := q1.one
      have b4 := spl_one e5.one 0 v'
      simp +contextual -implicitDefEqProofs (maxSteps := 2000000) only [↓wP, wQ, wQ1, wQ2, wQ3, wR, boxE, partsOf, ↓reduceIte, n1w, n2w, n3w, n4w, n5w, n6w, reduceCtorEq, i1w, i2w, i3w, i4w, i5w, hd, d1, d2, b2, b3, b4, a3, a4]
      refine ⟨by simp; omega, by omega, fun i hi hid => ?_, v', rfl, ?_⟩
      · have f1 : i ≠ n' + 1 := by omega
        have f2 : i ≠ n' := by omega
        have f3 : i ≠ n := by omega
        rw [if_neg f3, q3 i (by omega)]
        simp only [upd_get, f1, f2, f3, if_false]
        exact e2 i hi hid
      · rw [opt_snoc, appO_map]
        refine q1.loc (fun i hi _ => ?_) (Nat.le_refl _)
        have f1 : i ≠ d := by omega
        have f3 : i ≠ n := by omega
        simp only [upd_get, f1, f3, if_false]
  · refine ⟨Nat.zero_le _, by omega, fun i hi _ => ?_, by simp [upd], .nilS, ?_, rfl⟩
    · have a1 : i ≠ n := by omega
      simp only [upd_get, a1, if_false]
    · have a1 : d ≠ n := by omega
      simp only [upd_get, a1, if_false]
      exact h4
theorem collectB {env : Nat → V} {σ : Sto} {n : Nat} {Q : Ex → St → Prop} (L : List Ver) (cv : V) (F : Nat) (fcaps : List V) (p : Ver → Bool) (pc pi d : Nat)
    (hg : env 31 = .fn 107 [.ptr pc 1 0 0, .ptr pi 1 0 0]) (hd : env 9 = .ptr d 1 0 0) (h1 : σ pc = some (.row 1 [cv])) (h2 : σ pi = some (.row 1 [.fn F fcaps])) (h3 : Row σ cv L) (h4 : σ d = some (.row 1 [.nilS]))
    (l1 : pc < n) (l2 : pi < n) (l4 : d < n) (l3 : ∀ id off len sz, cv = .ref id off len sz → id < n ∧ id ≠ d) (n1 : pc ≠ d) (n2 : pi ≠ d)
    (hp : ∀ σ' n' b e v, (∀ i, i < n → i ≠ d → σ' i = σ i) → callE T true F (.agg [.int .u64 b, .int .u64 e, slV 1 i32V v] :: fcaps) σ' n' 0 = some (.bool (p ⟨b, e, v⟩), σ', n'))
    (hl : L.length * 40 ≤ LIM)
    (hQ : ∀ σ' n' gv, (∀ i, i < n → i ≠ d → σ' i = σ i) → n ≤ n' → σ' d = some (.row 1 [gv]) → Pl σ' n n' 3 gv ((opt (L.filter p)).map (List.map verV)) → Q .normal ⟨env, σ', n', 0⟩) :
    WC T (.rangeF (.tmp 31) [32] (.reg [⟨some 12, none, .alloc (.agg [.int .u64 0, .int .u64 0, .nilS])⟩, ⟨none, none, .store 3 (.tmp 12) (.tmp 32)⟩])
      (.block 3 (.reg [⟨some 33, none, .load false 1 (.tmp 9)⟩, ⟨some 34, none, .load true 3 (.tmp 12)⟩, ⟨some 35, none, .lit 3 [.tmp 34]⟩,
        ⟨some 36, none, .append 3 40 (.tmp 33) (.tmp 35)⟩, ⟨none, none, .store 1 (.tmp 9) (.tmp 36)⟩]))) env σ n 0 Q := by
  refine WC_rangeF hg (Nat.zero_le _) ?_
  generalize hA : AC.reg [⟨some 12, none, .alloc (.agg [.int .u64 0, .int .u64 0, .nilS])⟩, ⟨none, none, .store 3 (.tmp 12) (.tmp 32)⟩] = asg
  generalize hB : AC.block 3 (.reg [⟨some 33, none, .load false 1 (.tmp 9)⟩, ⟨some 34, none, .load true 3 (.tmp 12)⟩, ⟨some 35, none, .lit 3 [.tmp 34]⟩,
        ⟨some 36, none, .append 3 40 (.tmp 33) (.tmp 35)⟩, ⟨none, none, .store 1 (.tmp 9) (.tmp 36)⟩]) = bd
  refine run_mono _ _ _ (fun o ho => ?_) (that56 L cv F fcaps p (fun pre σ' n' => pre.length ≤ L.length ∧ n < n' ∧ (∀ i, i < n → i ≠ d → σ' i = σ i) ∧ σ' n = some (.loop env [32] asg bd .ready none) ∧
    ∃ gv, σ' d = some (.row 1 [gv]) ∧ Pl σ' (n + 1) n' 3 gv ((opt pre).map (List.map verV))) n pc pi (by unfold LIM at hl; omega) ?_ ?_ ?_ ?_ _ _ ?_)
  · cases o <;> try exact ho.elim
    obtain ⟨-, e1, e2, e3, gv, e4, e5⟩ := ho
    refine ⟨_, _, _, _, _, _, e3, by decide, ?_⟩
    refine hQ _ _ gv (fun i hi hd => ?_) (by omega) ?_ ?_
    · have a1 : i ≠ n := by omega
      simp only [upd_get, a1, if_false]
      exact e2 i hi hd
    · have a1 : d ≠ n := by omega
      simp only [upd_get, a1, if_false]
      exact e4
    · cases ho : (opt (L.filter p)).map (List.map verV) with
      | none => rw [ho] at e5; exact e5
      | some xs =>
        rw [ho] at e5
        obtain ⟨i, f1, f2, f3, f4⟩ := e5
        have a1 : i ≠ n := by omega
        exact ⟨i, f1, by simp only [upd_get, a1, if_false]; exact f2, by omega, f4⟩
  · rintro pre σ' n' ⟨-, e1, e2, e3, -⟩
    refine ⟨(e2 _ l1 n1).trans h1, (e2 _ l2 n2).trans h2, ?_⟩
    rcases h3 with h3 | ⟨id, f1, f2⟩
    · exact .inl h3
    · obtain ⟨g1, g2⟩ := l3 _ _ _ _ f1
      exact .inr ⟨id, f1, (e2 _ g1 g2).trans f2⟩
  · rintro pre σ' n' σ2 ⟨e0, e1, e2, e3, gv, e4, e5⟩ hσ
    refine ⟨e0, by omega, fun i hi hd => (hσ i (by omega)).trans (e2 i hi hd), (hσ n (by omega)).trans e3, gv, (hσ d (by omega)).trans e4, e5.loc (fun i _ hi => hσ i (by omega)) (by omega)⟩
  · rintro pre σ' n' b e v ⟨-, e1, e2, -⟩
    exact hp σ' n' b e v e2
  · rintro pre σ' n' b e v hlt ⟨e0, e1, e2, e3, gv, e4, e5⟩
    refine yieldW_go e3 rfl (Nat.zero_le _) ?_ (hd := ⟨by rw [← hA]; rfl, by rw [← hB]; rfl⟩)
    subst hA
    subst hB
    have a1 : (n = n') = False := by simp; omega
    have a2 : (d = n') = False := by simp; omega
    have a3 : (d = n) = False := by simp; omega
    have a4 : (n = d) = False := by simp; omega
    have a5 : (n' = n) = False := by simp; omega
    have a6 : (n' = d) = False := by simp; omega
    have b1 := e5.cells
    simp +contextual -implicitDefEqProofs (maxSteps := 2000000) only [↓wP, wQ, wQ1, wQ2, wQ3, wR, boxE, partsOf, ↓reduceIte, n1w, n2w, n3w, n4w, n5w, n6w, reduceCtorEq, i1w, i2w, i3w, i4w, i5w, bind_cons, bind_nil, hd, e3, e4, a1, a2, a3, a4, a5, a6, b1]
    refine stepW_appP e5 (fun i hi hi' => ?_) (by omega) (by omega) (Nat.zero_le _) ?_ (fun v' σ2 n2 q1 q2 q3 => ?_)
    · have c1 : i ≠ n' + 1 := by omega
      have c2 : i ≠ n' := by omega
      have c3 : i ≠ n := by omega
      simp only [upd_get, c1, c2, c3, if_false]
    · rw [lst_map, lst_opt]
      simp only [List.length_map, List.length_cons, List.length_nil]
      refine Nat.le_trans (Nat.mul_le_mul_right 40 ?_) hl
      omega
    · have d1 := q3 d (by omega)
      have d2 := q3 n (by omega)
      have c1 : (d = n' + 1) = False := by simp; omega
      have c2 : (n = n' + 1) = False := by simp; omega
      simp only [upd_get, a1, a2, a3, a4, a5, a6, c1, c2, if_false, if_true, e4] at d1 d2
      have b2 := q1.cells
      have b3 := q1.one
      have b4 := spl_one e5.one 0 v'
      simp +contextual -implicitDefEqProofs (maxSteps := 2000000) only [↓wP, wQ, wQ1, wQ2, wQ3, wR, boxE, partsOf, ↓reduceIte, n1w, n2w, n3w, n4w, n5w, n6w, reduceCtorEq, i1w, i2w, i3w, i4w, i5w, hd, d1, d2, b2, b3, b4, a3, a4]
      refine ⟨by simp; omega, by omega, fun i hi hid => ?_, v', rfl, ?_⟩
      · have f1 : i ≠ n' + 1 := by omega
        have f2 : i ≠ n' := by omega
        have f3 : i ≠ n := by omega
        rw [if_neg f3, q3 i (by omega)]
        simp only [upd_get, f1, f2, f3, if_false]
        exact e2 i hi hid
      · rw [opt_snoc, appO_map]
        refine q1.loc (fun i hi _ => ?_) (Nat.le_refl _)
        have f1 : i ≠ d := by omega
        have f3 : i ≠ n := by omega
        simp only [upd_get, f1, f3, if_false]
  · refine ⟨Nat.zero_le _, by omega, fun i hi _ => ?_, by simp [upd], .nilS, ?_, rfl⟩
    · have a1 : i ≠ n := by omega
      simp only [upd_get, a1, if_false]
    · have a1 : d ≠ n := by omega
      simp only [upd_get, a1, if_false]
      exact h4
def goneL (fl : Int) (l : List Ver) : List Ver := l.filter (goesP fl)
def staysL (fl : Int) (l : List Ver) : List Ver := l.filter fun x => !goesP fl x
theorem r40 (o : Option (List Ver)) (fl : Int) (hs : Sm o) (hf : FitC o) : res T 40 [slV 3 verV o, .int .u64 fl] = some (.tup [slV 3 verV (if okC o = true then opt (staysL fl (lst o)) else none), slV 3 verV (if okC o = true then opt (goneL fl (lst o)) else none), .int .i64 (if okC o = true then 0 else 180)]) := by
  refine run_res (run_pure (fn := g40) rfl rfl (by decide) ?_)
  simp only [g40, b40, oO, oN, mV, lD, gO, pP, qQ, cI, aR]
  have h11 := f83 o hs
  have h46 := f86 o hf
  cases hc : okC o
  · simp +contextual -implicitDefEqProofs (maxSteps := 2000000) only [↓wP, wQ, wQ1, wQ2, wQ3, wR, boxE, partsOf, ↓reduceIte, n1w, n2w, n3w, n4w, n5w, n6w, reduceCtorEq, i1w, i2w, i3w, i4w, i5w, h11, hc, slV_none]
  · have hm45 : T.mode 85 = .raw := by decide
    cases o with
    | none =>
      have hl : ([] : List Ver).length * 40 ≤ LIM := by simp
      have hB := big_le
      have f1 : (5 ≤ 4 + BIG) = True := by simp <;> omega
      have f1' : (4 ≤ 4 + BIG) = True := by simp
      have f2 : ∀ σ : Sto, hide σ 4 (4 + BIG * 1) [0] 1 = σ 1 := fun σ => hide_low σ 4 _ _ (by decide) (by omega)
      have g0 : ∀ σ σ' : Sto, merge σ σ' 4 0 = σ 0 := fun σ σ' => merge_low σ σ' 4 (by decide)
      have g1 : ∀ σ σ' : Sto, merge σ σ' 4 1 = σ 1 := fun σ σ' => merge_low σ σ' 4 (by decide)
      have g2 : ∀ σ σ' : Sto, merge σ σ' 4 2 = σ 2 := fun σ σ' => merge_low σ σ' 4 (by decide)
      have g3 : ∀ σ σ' : Sto, merge σ σ' 4 3 = σ 3 := fun σ σ' => merge_low σ σ' 4 (by decide)
      have g4 : ∀ σ σ' : Sto, merge σ σ' 4 4 = σ' 4 := fun σ σ' => merge_in σ σ' 4 (by decide) (by omega)
      simp +contextual -implicitDefEqProofs (maxSteps := 2000000) only [↓wP, wQ, wQ1, wQ2, wQ3, wR, boxE, partsOf, ↓reduceIte, n1w, n2w, n3w, n4w, n5w, n6w, reduceCtorEq, i1w, i2w, i3w, i4w, i5w, h11, hc, h46, ownR, f1, f1', f2, g1]
      refine stepW_raw hm45 (run_rawE (fn := g85) rfl rfl ?_)
      simp only [g85, b85, oO, oN, mV, lD, gO, pP, qQ, cI, aR]
      simp +contextual -implicitDefEqProofs (maxSteps := 2000000) only [↓wP, wQ, wQ1, wQ2, wQ3, wR, boxE, partsOf, ↓reduceIte, n1w, n2w, n3w, n4w, n5w, n6w, reduceCtorEq, i1w, i2w, i3w, i4w, i5w]
      have hB1 : 1000000000000 ≤ BIG * 1 := by omega
      clear f1 f1' f2 hB
      generalize BIG * 1 = B at *
      have c0 : (4 + B = 4 + (B + 1)) = False := by simp
      refine collectA [] .nilS 84 [.ptr 0 1 0 0] (goesP fl) (4 + B) (4 + (B + 1)) 3 rfl rfl ?_ ?_ ?_ ?_ (by omega) (by omega) (by omega) (fun id off len sz h => by cases h) (by omega) (by omega) ?_ hl ?_
      · simp +contextual -implicitDefEqProofs (maxSteps := 2000000) only [↓wP, wQ, wQ1, wQ2, wQ3, wR, boxE, partsOf, ↓reduceIte, n1w, n2w, n3w, n4w, n5w, n6w, reduceCtorEq, i1w, i2w, i3w, i4w, i5w, c0]
      · simp +contextual -implicitDefEqProofs (maxSteps := 2000000) only [↓wP, wQ, wQ1, wQ2, wQ3, wR, boxE, partsOf, ↓reduceIte, n1w, n2w, n3w, n4w, n5w, n6w, reduceCtorEq, i1w, i2w, i3w, i4w, i5w]
      · exact .inl ⟨rfl, rfl⟩
      · have c1 : (3 = 4 + B) = False := by simp <;> omega
        have c2 : (3 = 4 + (B + 1)) = False := by simp <;> omega
        simp +contextual -implicitDefEqProofs (maxSteps := 2000000) only [↓wP, wQ, wQ1, wQ2, wQ3, wR, boxE, partsOf, ↓reduceIte, n1w, n2w, n3w, n4w, n5w, n6w, reduceCtorEq, i1w, i2w, i3w, i4w, i5w, c1, c2, g3]
      · intro σ' n' b e v hσ
        have c1 : (0 = 4 + B) = False := by simp <;> omega
        have c2 : (0 = 4 + (B + 1)) = False := by simp <;> omega
        have h0 := hσ 0 (by omega) (by decide)
        have h0 : σ' 0 = some (.row 1 [.int .u64 fl]) := by rw [h0]; simp +contextual -implicitDefEqProofs (maxSteps := 2000000) only [↓wP, wQ, wQ1, wQ2, wQ3, wR, boxE, partsOf, ↓reduceIte, n1w, n2w, n3w, n4w, n5w, n6w, reduceCtorEq, i1w, i2w, i3w, i4w, i5w, c1, c2, g0]
        have h44 := r84 b e v fl
        rw [callE_eq (by decide)]
        simp +contextual -implicitDefEqProofs (maxSteps := 2000000) only [↓wP, wQ, wQ1, wQ2, wQ3, wR, boxE, partsOf, ↓reduceIte, n1w, n2w, n3w, n4w, n5w, n6w, reduceCtorEq, i1w, i2w, i3w, i4w, i5w, h0, h44]
      · intro σ1 n1 gv e1 e2 e3 e4
        have c1 : (0 = 4 + B) = False := by simp <;> omega
        have c2 : (0 = 4 + (B + 1)) = False := by simp <;> omega
        have c3 : (1 = 4 + B) = False := by simp <;> omega
        have c4 : (1 = 4 + (B + 1)) = False := by simp <;> omega
        have c5 : (2 = 4 + B) = False := by simp <;> omega
        have c6 : (2 = 4 + (B + 1)) = False := by simp <;> omega
        have h0 : σ1 0 = some (.row 1 [.int .u64 fl]) := by rw [e1 0 (by omega) (by decide)]; simp +contextual -implicitDefEqProofs (maxSteps := 2000000) only [↓wP, wQ, wQ1, wQ2, wQ3, wR, boxE, partsOf, ↓reduceIte, n1w, n2w, n3w, n4w, n5w, n6w, reduceCtorEq, i1w, i2w, i3w, i4w, i5w, c1, c2, g0]
        have h1 : σ1 1 = some (.row 1 [.fn 84 [.ptr 0 1 0 0]]) := by rw [e1 1 (by omega) (by decide)]; simp +contextual -implicitDefEqProofs (maxSteps := 2000000) only [↓wP, wQ, wQ1, wQ2, wQ3, wR, boxE, partsOf, ↓reduceIte, n1w, n2w, n3w, n4w, n5w, n6w, reduceCtorEq, i1w, i2w, i3w, i4w, i5w, c3, c4, g1]
        have h2 : σ1 2 = some (.row 1 [.nilS]) := by rw [e1 2 (by omega) (by decide)]; simp +contextual -implicitDefEqProofs (maxSteps := 2000000) only [↓wP, wQ, wQ1, wQ2, wQ3, wR, boxE, partsOf, ↓reduceIte, n1w, n2w, n3w, n4w, n5w, n6w, reduceCtorEq, i1w, i2w, i3w, i4w, i5w, c5, c6, g2]
        clear e1
        simp +contextual -implicitDefEqProofs (maxSteps := 2000000) only [↓wP, wQ, wQ1, wQ2, wQ3, wR, boxE, partsOf, ↓reduceIte, n1w, n2w, n3w, n4w, n5w, n6w, reduceCtorEq, i1w, i2w, i3w, i4w, i5w, h46, ownR]
        refine stepW_raw hm45 (run_rawE (fn := g85) rfl rfl ?_)
        simp only [g85, b85, oO, oN, mV, lD, gO, pP, qQ, cI, aR]
        simp +contextual -implicitDefEqProofs (maxSteps := 2000000) only [↓wP, wQ, wQ1, wQ2, wQ3, wR, boxE, partsOf, ↓reduceIte, n1w, n2w, n3w, n4w, n5w, n6w, reduceCtorEq, i1w, i2w, i3w, i4w, i5w]
        refine collectB [] .nilS 87 [.ptr 1 1 0 0] (fun x => !goesP fl x) n1 (n1 + 1) 2 rfl rfl ?_ ?_ ?_ ?_ (by omega) (by omega) (by omega) (fun id off len sz h => by cases h) (by omega) (by omega) ?_ hl ?_
        · simp +contextual -implicitDefEqProofs (maxSteps := 2000000) only [↓wP, wQ, wQ1, wQ2, wQ3, wR, boxE, partsOf, ↓reduceIte, n1w, n2w, n3w, n4w, n5w, n6w, reduceCtorEq, i1w, i2w, i3w, i4w, i5w]
        · simp +contextual -implicitDefEqProofs (maxSteps := 2000000) only [↓wP, wQ, wQ1, wQ2, wQ3, wR, boxE, partsOf, ↓reduceIte, n1w, n2w, n3w, n4w, n5w, n6w, reduceCtorEq, i1w, i2w, i3w, i4w, i5w]
        · exact .inl ⟨rfl, rfl⟩
        · have d1 : (2 = n1) = False := by simp <;> omega
          have d2 : (2 = n1 + 1) = False := by simp <;> omega
          have d3 : (2 = n1 + 2) = False := by simp <;> omega
          simp +contextual -implicitDefEqProofs (maxSteps := 2000000) only [↓wP, wQ, wQ1, wQ2, wQ3, wR, boxE, partsOf, ↓reduceIte, n1w, n2w, n3w, n4w, n5w, n6w, reduceCtorEq, i1w, i2w, i3w, i4w, i5w, d1, d2, d3, h2]
        · intro σ' n' b e v hσ
          have d1 : (0 = n1) = False := by simp <;> omega
          have d2 : (0 = n1 + 1) = False := by simp <;> omega
          have d3 : (0 = n1 + 2) = False := by simp <;> omega
          have d4 : (1 = n1) = False := by simp <;> omega
          have d5 : (1 = n1 + 1) = False := by simp <;> omega
          have d6 : (1 = n1 + 2) = False := by simp <;> omega
          have k0 : σ' 0 = some (.row 1 [.int .u64 fl]) := by rw [hσ 0 (by omega) (by decide)]; simp +contextual -implicitDefEqProofs (maxSteps := 2000000) only [↓wP, wQ, wQ1, wQ2, wQ3, wR, boxE, partsOf, ↓reduceIte, n1w, n2w, n3w, n4w, n5w, n6w, reduceCtorEq, i1w, i2w, i3w, i4w, i5w, d1, d2, d3, h0]
          have k1 : σ' 1 = some (.row 1 [.fn 84 [.ptr 0 1 0 0]]) := by rw [hσ 1 (by omega) (by decide)]; simp +contextual -implicitDefEqProofs (maxSteps := 2000000) only [↓wP, wQ, wQ1, wQ2, wQ3, wR, boxE, partsOf, ↓reduceIte, n1w, n2w, n3w, n4w, n5w, n6w, reduceCtorEq, i1w, i2w, i3w, i4w, i5w, d4, d5, d6, h1]
          have h47 := r87 b e v fl
          rw [callE_eq (by decide)]
          simp +contextual -implicitDefEqProofs (maxSteps := 2000000) only [↓wP, wQ, wQ1, wQ2, wQ3, wR, boxE, partsOf, ↓reduceIte, n1w, n2w, n3w, n4w, n5w, n6w, reduceCtorEq, i1w, i2w, i3w, i4w, i5w, k0, k1, h47]
        · intro σ2 n2 gv2 k1 k2 k3 k4
          have d1 : (3 = n1) = False := by simp <;> omega
          have d2 : (3 = n1 + 1) = False := by simp <;> omega
          have d3 : (3 = n1 + 2) = False := by simp <;> omega
          have h3 : σ2 3 = some (.row 1 [gv]) := by rw [k1 3 (by omega) (by decide)]; simp +contextual -implicitDefEqProofs (maxSteps := 2000000) only [↓wP, wQ, wQ1, wQ2, wQ3, wR, boxE, partsOf, ↓reduceIte, n1w, n2w, n3w, n4w, n5w, n6w, reduceCtorEq, i1w, i2w, i3w, i4w, i5w, d1, d2, d3, e3]
          have e5 := e4.loc (σ' := σ2) (n' := n2) (fun i hi hi' => by
            rw [k1 i (by omega) (by omega)]
            have q1 : (i = n1) = False := by simp <;> omega
            have q2 : (i = n1 + 1) = False := by simp <;> omega
            have q3 : (i = n1 + 2) = False := by simp <;> omega
            simp only [upd_get, q1, q2, q3, if_false]) (by omega)
          have w1 := e5.frzk 10 (fun x hx => by rw [lst_map] at hx; obtain ⟨t, -, rfl⟩ := List.mem_map.1 hx; exact tr_ver 8 t)
            (fun x hx => by rw [lst_map] at hx; obtain ⟨t, -, rfl⟩ := List.mem_map.1 hx; exact trc_ver 9 t)
          have w2 := k4.frzk 10 (fun x hx => by rw [lst_map] at hx; obtain ⟨t, -, rfl⟩ := List.mem_map.1 hx; exact tr_ver 8 t)
            (fun x hx => by rw [lst_map] at hx; obtain ⟨t, -, rfl⟩ := List.mem_map.1 hx; exact trc_ver 9 t)
          rw [slV_map] at w1 w2
          have y1 := e5.cells
          have y2 := k4.cells
          have z1 : staysL fl (lst none) = [].filter (fun x => !goesP fl x) := rfl
          have z2 : goneL fl (lst none) = [].filter (goesP fl) := rfl
          simp +contextual -implicitDefEqProofs (maxSteps := 2000000) only [↓wP, wQ, wQ1, wQ2, wQ3, wR, boxE, partsOf, ↓reduceIte, n1w, n2w, n3w, n4w, n5w, n6w, reduceCtorEq, i1w, i2w, i3w, i4w, i5w, h3, k3, y1, y2, w1, w2, z1, z2]
    | some l =>
      have hl : l.length * 40 ≤ LIM := by simpa [lst] using hf.1
      have hB := big_le
      have f1 : (5 ≤ 4 + BIG) = True := by simp <;> omega
      have f1' : (4 ≤ 4 + BIG) = True := by simp
      have f2 : ∀ σ : Sto, hide σ 4 (4 + BIG * 1) [0] 1 = σ 1 := fun σ => hide_low σ 4 _ _ (by decide) (by omega)
      have g0 : ∀ σ σ' : Sto, merge σ σ' 4 0 = σ 0 := fun σ σ' => merge_low σ σ' 4 (by decide)
      have g1 : ∀ σ σ' : Sto, merge σ σ' 4 1 = σ 1 := fun σ σ' => merge_low σ σ' 4 (by decide)
      have g2 : ∀ σ σ' : Sto, merge σ σ' 4 2 = σ 2 := fun σ σ' => merge_low σ σ' 4 (by decide)
      have g3 : ∀ σ σ' : Sto, merge σ σ' 4 3 = σ 3 := fun σ σ' => merge_low σ σ' 4 (by decide)
      have g4 : ∀ σ σ' : Sto, merge σ σ' 4 4 = σ' 4 := fun σ σ' => merge_in σ σ' 4 (by decide) (by omega)
      simp +contextual -implicitDefEqProofs (maxSteps := 2000000) only [↓wP, wQ, wQ1, wQ2, wQ3, wR, boxE, partsOf, ↓reduceIte, n1w, n2w, n3w, n4w, n5w, n6w, reduceCtorEq, i1w, i2w, i3w, i4w, i5w, h11, hc, h46, ownR, f1, f1', f2, g1]
      refine stepW_raw hm45 (run_rawE (fn := g85) rfl rfl ?_)
      simp only [g85, b85, oO, oN, mV, lD, gO, pP, qQ, cI, aR]
      simp +contextual -implicitDefEqProofs (maxSteps := 2000000) only [↓wP, wQ, wQ1, wQ2, wQ3, wR, boxE, partsOf, ↓reduceIte, n1w, n2w, n3w, n4w, n5w, n6w, reduceCtorEq, i1w, i2w, i3w, i4w, i5w]
      have hB1 : 1000000000000 ≤ BIG * 1 := by omega
      clear f1 f1' f2 hB
      generalize BIG * 1 = B at *
      have c0 : (4 + B = 4 + (B + 1)) = False := by simp
      refine collectA l (.ref 4 0 (l.map verV).length 3) 84 [.ptr 0 1 0 0] (goesP fl) (4 + B) (4 + (B + 1)) 3 rfl rfl ?_ ?_ ?_ ?_ (by omega) (by omega) (by omega) (fun id off len sz h => by cases h; exact ⟨by omega, by decide⟩) (by omega) (by omega) ?_ hl ?_
      · simp +contextual -implicitDefEqProofs (maxSteps := 2000000) only [↓wP, wQ, wQ1, wQ2, wQ3, wR, boxE, partsOf, ↓reduceIte, n1w, n2w, n3w, n4w, n5w, n6w, reduceCtorEq, i1w, i2w, i3w, i4w, i5w, c0]
      · simp +contextual -implicitDefEqProofs (maxSteps := 2000000) only [↓wP, wQ, wQ1, wQ2, wQ3, wR, boxE, partsOf, ↓reduceIte, n1w, n2w, n3w, n4w, n5w, n6w, reduceCtorEq, i1w, i2w, i3w, i4w, i5w]
      · right
        refine ⟨4, rfl, ?_⟩
        have c1 : (4 = 4 + B) = False := by simp <;> omega
        have c2 : (4 = 4 + (B + 1)) = False := by simp <;> omega
        simp +contextual -implicitDefEqProofs (maxSteps := 2000000) only [↓wP, wQ, wQ1, wQ2, wQ3, wR, boxE, partsOf, ↓reduceIte, n1w, n2w, n3w, n4w, n5w, n6w, reduceCtorEq, i1w, i2w, i3w, i4w, i5w, c1, c2, g4]
      · have c1 : (3 = 4 + B) = False := by simp <;> omega
        have c2 : (3 = 4 + (B + 1)) = False := by simp <;> omega
        simp +contextual -implicitDefEqProofs (maxSteps := 2000000) only [↓wP, wQ, wQ1, wQ2, wQ3, wR, boxE, partsOf, ↓reduceIte, n1w, n2w, n3w, n4w, n5w, n6w, reduceCtorEq, i1w, i2w, i3w, i4w, i5w, c1, c2, g3]
      · intro σ' n' b e v hσ
        have c1 : (0 = 4 + B) = False := by simp <;> omega
        have c2 : (0 = 4 + (B + 1)) = False := by simp <;> omega
        have h0 := hσ 0 (by omega) (by decide)
        have h0 : σ' 0 = some (.row 1 [.int .u64 fl]) := by rw [h0]; simp +contextual -implicitDefEqProofs (maxSteps := 2000000) only [↓wP, wQ, wQ1, wQ2, wQ3, wR, boxE, partsOf, ↓reduceIte, n1w, n2w, n3w, n4w, n5w, n6w, reduceCtorEq, i1w, i2w, i3w, i4w, i5w, c1, c2, g0]
        have h44 := r84 b e v fl
        rw [callE_eq (by decide)]
        simp +contextual -implicitDefEqProofs (maxSteps := 2000000) only [↓wP, wQ, wQ1, wQ2, wQ3, wR, boxE, partsOf, ↓reduceIte, n1w, n2w, n3w, n4w, n5w, n6w, reduceCtorEq, i1w, i2w, i3w, i4w, i5w, h0, h44]
      · intro σ1 n1 gv e1 e2 e3 e4
        have c1 : (0 = 4 + B) = False := by simp <;> omega
        have c2 : (0 = 4 + (B + 1)) = False := by simp <;> omega
        have c3 : (1 = 4 + B) = False := by simp <;> omega
        have c4 : (1 = 4 + (B + 1)) = False := by simp <;> omega
        have c5 : (2 = 4 + B) = False := by simp <;> omega
        have c6 : (2 = 4 + (B + 1)) = False := by simp <;> omega
        have h0 : σ1 0 = some (.row 1 [.int .u64 fl]) := by rw [e1 0 (by omega) (by decide)]; simp +contextual -implicitDefEqProofs (maxSteps := 2000000) only [↓wP, wQ, wQ1, wQ2, wQ3, wR, boxE, partsOf, ↓reduceIte, n1w, n2w, n3w, n4w, n5w, n6w, reduceCtorEq, i1w, i2w, i3w, i4w, i5w, c1, c2, g0]
        have h1 : σ1 1 = some (.row 1 [.fn 84 [.ptr 0 1 0 0]]) := by rw [e1 1 (by omega) (by decide)]; simp +contextual -implicitDefEqProofs (maxSteps := 2000000) only [↓wP, wQ, wQ1, wQ2, wQ3, wR, boxE, partsOf, ↓reduceIte, n1w, n2w, n3w, n4w, n5w, n6w, reduceCtorEq, i1w, i2w, i3w, i4w, i5w, c3, c4, g1]
        have h2 : σ1 2 = some (.row 1 [.nilS]) := by rw [e1 2 (by omega) (by decide)]; simp +contextual -implicitDefEqProofs (maxSteps := 2000000) only [↓wP, wQ, wQ1, wQ2, wQ3, wR, boxE, partsOf, ↓reduceIte, n1w, n2w, n3w, n4w, n5w, n6w, reduceCtorEq, i1w, i2w, i3w, i4w, i5w, c5, c6, g2]
        clear e1
        simp +contextual -implicitDefEqProofs (maxSteps := 2000000) only [↓wP, wQ, wQ1, wQ2, wQ3, wR, boxE, partsOf, ↓reduceIte, n1w, n2w, n3w, n4w, n5w, n6w, reduceCtorEq, i1w, i2w, i3w, i4w, i5w, h46, ownR]
        refine stepW_raw hm45 (run_rawE (fn := g85) rfl rfl ?_)
        simp only [g85, b85, oO, oN, mV, lD, gO, pP, qQ, cI, aR]
        simp +contextual -implicitDefEqProofs (maxSteps := 2000000) only [↓wP, wQ, wQ1, wQ2, wQ3, wR, boxE, partsOf, ↓reduceIte, n1w, n2w, n3w, n4w, n5w, n6w, reduceCtorEq, i1w, i2w, i3w, i4w, i5w]
        refine collectB l (.ref n1 0 (l.map verV).length 3) 87 [.ptr 1 1 0 0] (fun x => !goesP fl x) (n1 + 1) (n1 + 2) 2 rfl rfl ?_ ?_ ?_ ?_ (by omega) (by omega) (by omega) (fun id off len sz h => by cases h; exact ⟨by omega, by omega⟩) (by omega) (by omega) ?_ hl ?_
        · simp +contextual -implicitDefEqProofs (maxSteps := 2000000) only [↓wP, wQ, wQ1, wQ2, wQ3, wR, boxE, partsOf, ↓reduceIte, n1w, n2w, n3w, n4w, n5w, n6w, reduceCtorEq, i1w, i2w, i3w, i4w, i5w]
        · simp +contextual -implicitDefEqProofs (maxSteps := 2000000) only [↓wP, wQ, wQ1, wQ2, wQ3, wR, boxE, partsOf, ↓reduceIte, n1w, n2w, n3w, n4w, n5w, n6w, reduceCtorEq, i1w, i2w, i3w, i4w, i5w]
        · right
          refine ⟨n1, rfl, ?_⟩
          simp +contextual -implicitDefEqProofs (maxSteps := 2000000) only [↓wP, wQ, wQ1, wQ2, wQ3, wR, boxE, partsOf, ↓reduceIte, n1w, n2w, n3w, n4w, n5w, n6w, reduceCtorEq, i1w, i2w, i3w, i4w, i5w]
        · have d1 : (2 = n1) = False := by simp <;> omega
          have d2 : (2 = n1 + 1) = False := by simp <;> omega
          have d3 : (2 = n1 + 2) = False := by simp <;> omega
          simp +contextual -implicitDefEqProofs (maxSteps := 2000000) only [↓wP, wQ, wQ1, wQ2, wQ3, wR, boxE, partsOf, ↓reduceIte, n1w, n2w, n3w, n4w, n5w, n6w, reduceCtorEq, i1w, i2w, i3w, i4w, i5w, d1, d2, d3, h2]
        · intro σ' n' b e v hσ
          have d1 : (0 = n1) = False := by simp <;> omega
          have d2 : (0 = n1 + 1) = False := by simp <;> omega
          have d3 : (0 = n1 + 2) = False := by simp <;> omega
          have d4 : (1 = n1) = False := by simp <;> omega
          have d5 : (1 = n1 + 1) = False := by simp <;> omega
          have d6 : (1 = n1 + 2) = False := by simp <;> omega
          have k0 : σ' 0 = some (.row 1 [.int .u64 fl]) := by rw [hσ 0 (by omega) (by decide)]; simp +contextual -implicitDefEqProofs (maxSteps := 2000000) only [↓wP, wQ, wQ1, wQ2, wQ3, wR, boxE, partsOf, ↓reduceIte, n1w, n2w, n3w, n4w, n5w, n6w, reduceCtorEq, i1w, i2w, i3w, i4w, i5w, d1, d2, d3, h0]
          have k1 : σ' 1 = some (.row 1 [.fn 84 [.ptr 0 1 0 0]]) := by rw [hσ 1 (by omega) (by decide)]; simp +contextual -implicitDefEqProofs (maxSteps := 2000000) only [↓wP, wQ, wQ1, wQ2, wQ3, wR, boxE, partsOf, ↓reduceIte, n1w, n2w, n3w, n4w, n5w, n6w, reduceCtorEq, i1w, i2w, i3w, i4w, i5w, d4, d5, d6, h1]
          have h47 := r87 b e v fl
          rw [callE_eq (by decide)]
          simp +contextual -implicitDefEqProofs (maxSteps := 2000000) only [↓wP, wQ, wQ1, wQ2, wQ3, wR, boxE, partsOf, ↓reduceIte, n1w, n2w, n3w, n4w, n5w, n6w, reduceCtorEq, i1w, i2w, i3w, i4w, i5w, k0, k1, h47]
        · intro σ2 n2 gv2 k1 k2 k3 k4
          have d1 : (3 = n1) = False := by simp <;> omega
          have d2 : (3 = n1 + 1) = False := by simp <;> omega
          have d3 : (3 = n1 + 2) = False := by simp <;> omega
          have h3 : σ2 3 = some (.row 1 [gv]) := by rw [k1 3 (by omega) (by decide)]; simp +contextual -implicitDefEqProofs (maxSteps := 2000000) only [↓wP, wQ, wQ1, wQ2, wQ3, wR, boxE, partsOf, ↓reduceIte, n1w, n2w, n3w, n4w, n5w, n6w, reduceCtorEq, i1w, i2w, i3w, i4w, i5w, d1, d2, d3, e3]
          have e5 := e4.loc (σ' := σ2) (n' := n2) (fun i hi hi' => by
            rw [k1 i (by omega) (by omega)]
            have q1 : (i = n1) = False := by simp <;> omega
            have q2 : (i = n1 + 1) = False := by simp <;> omega
            have q3 : (i = n1 + 2) = False := by simp <;> omega
            simp only [upd_get, q1, q2, q3, if_false]) (by omega)
          have w1 := e5.frzk 10 (fun x hx => by rw [lst_map] at hx; obtain ⟨t, -, rfl⟩ := List.mem_map.1 hx; exact tr_ver 8 t)
            (fun x hx => by rw [lst_map] at hx; obtain ⟨t, -, rfl⟩ := List.mem_map.1 hx; exact trc_ver 9 t)
          have w2 := k4.frzk 10 (fun x hx => by rw [lst_map] at hx; obtain ⟨t, -, rfl⟩ := List.mem_map.1 hx; exact tr_ver 8 t)
            (fun x hx => by rw [lst_map] at hx; obtain ⟨t, -, rfl⟩ := List.mem_map.1 hx; exact trc_ver 9 t)
          rw [slV_map] at w1 w2
          have y1 := e5.cells
          have y2 := k4.cells
          have z1 : staysL fl (lst (some l)) = l.filter (fun x => !goesP fl x) := rfl
          have z2 : goneL fl (lst (some l)) = l.filter (goesP fl) := rfl
          simp +contextual -implicitDefEqProofs (maxSteps := 2000000) only [↓wP, wQ, wQ1, wQ2, wQ3, wR, boxE, partsOf, ↓reduceIte, n1w, n2w, n3w, n4w, n5w, n6w, reduceCtorEq, i1w, i2w, i3w, i4w, i5w, h3, k3, y1, y2, w1, w2, z1, z2]
end Go.Q.SB.Ch
end

section
/- Pruned twice it is pruned at the greater floor. -/
set_option linter.unusedSimpArgs false
set_option linter.unusedVariables false
namespace Go.Q.SB.Ch
open Go.Q
theorem f40 (o : Option (List Ver)) (fl : Int) (hs : Sm o) (hf : FitC o) (hc : okC o = true) (fs : Bool) (σ : Sto) (n lk : Nat) :
    callE T fs 40 [slV 3 verV o, .int .u64 fl] σ n lk = some (.tup [slV 3 verV (opt ((lst o).filter fun x => !goesP fl x)), slV 3 verV (opt ((lst o).filter (goesP fl))), .int .i64 0], σ, n) := by
  have h := r40 o fl hs hf
  rw [hc] at h
  simp only [if_true] at h
  exact callE_tr (by decide) h (by simp [Tr, Tr_slV]) (by simp [Nw, Nw_slV]) fs σ n lk
theorem f40' (o : Option (List Ver)) (fl : Int) (hs : Sm o) (hf : FitC o) (hc : okC o = false) (fs : Bool) (σ : Sto) (n lk : Nat) :
    callE T fs 40 [slV 3 verV o, .int .u64 fl] σ n lk = some (.tup [.nilS, .nilS, .int .i64 180], σ, n) := by
  have h := r40 o fl hs hf
  rw [hc] at h
  exact callE_tr (by decide) h (by simp [Tr, Tr_slV]) rfl fs σ n lk
end Go.Q.SB.Ch
end
