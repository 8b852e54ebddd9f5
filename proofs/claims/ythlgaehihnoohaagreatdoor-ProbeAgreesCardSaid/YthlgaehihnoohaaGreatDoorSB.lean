/- The partitions of a sort. -/
import Derived.Test.YthlgaehihnoohaaGreatDoorSA
import Derived.Sort.AssemblyPlain
set_option linter.unusedVariables false
set_option linter.unusedSimpArgs false
set_option linter.unusedSectionVars false
set_option linter.defProp false
section
namespace Go.Q.SD
open Go.Q Go.Sort
theorem su_go {p : Hit → Bool} {d : Array Hit} {i j : Nat} (h : i ≤ j) (hp : p d[i]! = true) : scanUp p d j (i + 1) = scanUp p d j i := by
 conv => rhs; rw [scanUp]
 rw [if_pos (by simp [h, hp])]
theorem su_stop {p : Hit → Bool} {d : Array Hit} {i j : Nat} (h : ¬ i ≤ j ∨ p d[i]! = false) : scanUp p d j i = i := by
 rw [scanUp]
 rcases h with h | h <;> simp [h]
theorem sd_go {p : Hit → Bool} {d : Array Hit} {i j : Nat} (h : i ≤ j + 1) (hp : p d[j + 1]! = true) : scanDown p d i j = scanDown p d i (j + 1) := by
 conv => rhs; rw [scanDown]
 rw [if_pos (by simp [h, hp])]
theorem sd_stop {p : Hit → Bool} {d : Array Hit} {i j : Nat} (h : ¬ i ≤ j ∨ p d[j]! = false) : scanDown p d i j = j := by
 cases j with
 | zero => rfl
 | succ j =>
   rw [scanDown]
   rcases h with h | h
   ·simp [h]
   ·simp [h]
theorem raw106 (d : Array Hit) (a b p id n : Nat) (σ : Sto) (hap : a ≤ p) (hpb : p < b) (hb : b ≤ d.size) (hn : d.size < 1000000) (hσ : σ id = some (.row 2 (rw' d))) {Q : V → Sto → Nat → Prop}
 (hQ : ∀ σ', At σ' σ id (partitionEqual ahead d a b p).2 → Q (.int .i64 ((partitionEqual ahead d a b p).1 : Int)) σ' n) :
 run T (.raw 106 [.ref id 0 d.size 2, .int .i64 (a : Int), .int .i64 (b : Int), .int .i64 (p : Int), .fn 45 []] σ n 0) (memQ Q) := by
 refine run_rawE (fn := g106) rfl rfl ?_
 simp only [g106, b106, zO, zN, zM, zL, zG, zP, zQ, zI, zA, zT, zF, zB, zC, zD, zE, zH, zJ, zK]
 have w1 : IntKind.i64.wrap ((a : Int) + 1) = ((a + 1 : Nat) : Int) := by rw [wrap_i64] <;> omega
 have w2 : IntKind.i64.wrap ((b : Int) - 1) = ((b - 1 : Nat) : Int) := by rw [wrap_i64] <;> omega
 have y1 := rw_at (d := d) (i := a) (by omega)
 have y2 := rw_at (d := d) (i := p) (by omega)
 obtain ⟨u, v, y3⟩ := rw_set_at (d := d) (i := a) (j := p) (x := d[p]!) (by omega)
 have hat0 := (At.refl hσ).swp a p
 have hs0 : (swp d a p).size = d.size := swp_size _ _ _
 unfold partitionEqual at hQ
 generalize hsz : d.size = N at *
 have m1 : a < N := by omega
 have m2 : p < N := by omega
 simp +contextual -implicitDefEqProofs (maxSteps := 2000000) only [↓wP, wS, seval, w1, w2, y1, y2, y3, m1, m2, hσ]
 generalize (upd (upd σ id (some (.row 2 ((rw' d).set a (.agg [.int .u64 (d[p]!).id, .int .u64 (d[p]!).d]))))) id
  (some (.row 2 (((rw' d).set a (.agg [.int .u64 (d[p]!).id, .int .u64 (d[p]!).d])).set p (.agg [.int .u64 (d[a]!).id, .int .u64 (d[a]!).d]))))) = σ0 at hat0
 generalize swp d a p = d0 at *
 refine WC_loopI 0 (fun (s : (Nat × Nat) × Array Hit) env σ' n' => n' = n ∧ env 0 = .ref id 0 N 2 ∧ env 1 = .int .i64 (a : Int) ∧ env 4 = .fn 45 [] ∧ env 11 = .int .i64 (s.1.1 : Int) ∧ env 12 = .int .i64 (s.1.2 : Int) ∧
  a < s.1.1 ∧ s.1.1 ≤ s.1.2 + 2 ∧ s.1.2 < b ∧ s.2.size = N ∧ At σ' σ id s.2 ∧ partEqLoop ahead a s.1.1 s.1.2 s.2 = partEqLoop ahead a (a + 1) (b - 1) d0) (fun s => s.1.2 + 1 - s.1.1) ?_ ((a + 1, b - 1), d0) _ _ _ ?_
 ·intro ⟨⟨i, j⟩, e⟩ env σ1 n1 ⟨h1, h2, h3, h4, h5, h6, h7, h8, h9, h10, h11, h12⟩
  subst h1
  simp only at h5 h6 h7 h8 h9 h10 h11 h12
  have hat := h11.1
  have xa := rw_at (d := e) (i := a) (by omega)
  rw [partEqLoop_eq] at h12
  simp +contextual -implicitDefEqProofs (maxSteps := 2000000) only [↓wP, wS, seval]
  refine WC_loopE 2 0 (fun (i' : Nat) env σ' n' => σ' = σ1 ∧ n' = n1 ∧ env 0 = .ref id 0 N 2 ∧ env 1 = .int .i64 (a : Int) ∧ env 4 = .fn 45 [] ∧ env 11 = .int .i64 (i' : Int) ∧ env 12 = .int .i64 (j : Int) ∧
   i ≤ i' ∧ i' ≤ j + 2 ∧ scanUp (fun x => !ahead e[a]! x) e j i' = scanUp (fun x => !ahead e[a]! x) e j i) (fun i' => j + 1 - i')
   (fun env σ' n' => σ' = σ1 ∧ n' = n1 ∧ env 0 = .ref id 0 N 2 ∧ env 1 = .int .i64 (a : Int) ∧ env 4 = .fn 45 [] ∧ env 11 = .int .i64 ((scanUp (fun x => !ahead e[a]! x) e j i : Nat) : Int) ∧ env 12 = .int .i64 (j : Int) ∧ scanUp (fun x => !ahead e[a]! x) e j i ≤ j + 2) ?_ ?_ i _ _ _ ?_
  ·clear h2 h3 h4 h5 h6
   intro i' env σ2 n2 ⟨k1, k2, k3, k4, k5, k6, k7, k8, k9, k10⟩
   subst k1 k2
   by_cases hle : i' ≤ j
   ·have hle' : (i' : Int) ≤ (j : Int) := by omega
    have wi : IntKind.i64.wrap ((i' : Int) + 1) = ((i' + 1 : Nat) : Int) := by rw [wrap_i64] <;> omega
    have x1 := rw_at (d := e) (i := i') (by omega)
    have l1 : i' < N := by omega
    by_cases hc : cmpH e[a]! e[i']! < 0
    ·have hah : ahead e[a]! e[i']! = true := by rw [← cmp_lt]; simpa using hc
     have hst := su_stop (p := fun x => !ahead e[a]! x) (d := e) (i := i') (j := j) (.inr (by simp [hah]))
     rw [hst] at k10
     rw [← k10]
     simp +contextual -implicitDefEqProofs (maxSteps := 2000000) only [↓wP, wS, seval, exQ_exit, k3, k4, k5, k6, k7, hle', hat, m1, l1, xa, x1, f45, hc]
     omega
    ·have hah : ahead e[a]! e[i']! = false := by rw [← cmp_lt]; simpa using hc
     simp +contextual -implicitDefEqProofs (maxSteps := 2000000) only [↓wP, wS, seval, exQ_exit, k3, k4, k5, k6, k7, hle', hat, m1, l1, xa, x1, f45, hc, wi]
     exact ⟨i' + 1, by omega, rfl, by omega, by omega, by rw [su_go hle (by simp [hah])]; exact k10⟩
   ·have hle' : ¬ (i' : Int) ≤ (j : Int) := by omega
    have hst := su_stop (p := fun x => !ahead e[a]! x) (d := e) (i := i') (j := j) (.inl hle)
    rw [hst] at k10
    rw [← k10]
    simp +contextual -implicitDefEqProofs (maxSteps := 2000000) only [↓wP, wS, seval, exQ_exit, k3, k4, k5, k6, k7, hle']
    omega
  ·clear h2 h3 h4 h5 h6
   intro env σ2 n2 ⟨k1, k2, h2, h3, h4, h5, h6, k8⟩
   subst k1 k2
   have hge := scanUp_ge (fun x => !ahead e[a]! x) e j i
   generalize scanUp (fun x => !ahead e[a]! x) e j i = i2 at *
   simp +contextual -implicitDefEqProofs (maxSteps := 2000000) only [↓wP, wS, seval]
   refine WC_loopE 4 0 (fun (j' : Nat) env σ' n' => σ' = σ2 ∧ n' = n2 ∧ env 0 = .ref id 0 N 2 ∧ env 1 = .int .i64 (a : Int) ∧ env 4 = .fn 45 [] ∧ env 11 = .int .i64 (i2 : Int) ∧ env 12 = .int .i64 (j' : Int) ∧
    j' ≤ j ∧ i2 ≤ j' + 2 ∧ scanDown (fun x => ahead e[a]! x) e i2 j' = scanDown (fun x => ahead e[a]! x) e i2 j) (fun j' => j')
    (fun env σ' n' => σ' = σ2 ∧ n' = n2 ∧ env 0 = .ref id 0 N 2 ∧ env 1 = .int .i64 (a : Int) ∧ env 4 = .fn 45 [] ∧ env 11 = .int .i64 (i2 : Int) ∧ env 12 = .int .i64 ((scanDown (fun x => ahead e[a]! x) e i2 j : Nat) : Int) ∧ i2 ≤ scanDown (fun x => ahead e[a]! x) e i2 j + 2) ?_ ?_ j _ _ _ ?_
   ·clear h2 h3 h4 h5 h6
    intro j' env σ3 n3 ⟨k1, k2, k3, k4, k5, k6, k7, k8, k9, k10⟩
    subst k1 k2
    by_cases hle : i2 ≤ j'
    ·have hle' : (i2 : Int) ≤ (j' : Int) := by omega
     obtain ⟨j', rfl⟩ : ∃ q, j' = q + 1 := ⟨j' - 1, by omega⟩
     have wi : IntKind.i64.wrap (((j' + 1 : Nat) : Int) - 1) = (j' : Int) := by rw [wrap_i64] <;> omega
     have x1 := rw_at (d := e) (i := j' + 1) (by omega)
     have l1 : j' + 1 < N := by omega
     by_cases hc : cmpH e[a]! e[j' + 1]! < 0
     ·have hah : ahead e[a]! e[j' + 1]! = true := by rw [← cmp_lt]; simpa using hc
      simp +contextual -implicitDefEqProofs (maxSteps := 2000000) only [↓wP, wS, seval, exQ_exit, k3, k4, k5, k6, k7, hle', hat, m1, l1, xa, x1, f45, hc, wi]
      exact ⟨j', by omega, rfl, by omega, by omega, by rw [sd_go hle hah]; exact k10⟩
     ·have hah : ahead e[a]! e[j' + 1]! = false := by rw [← cmp_lt]; simpa using hc
      have hst := sd_stop (p := fun x => ahead e[a]! x) (d := e) (i := i2) (j := j' + 1) (.inr hah)
      rw [hst] at k10
      rw [← k10]
      simp +contextual -implicitDefEqProofs (maxSteps := 2000000) only [↓wP, wS, seval, exQ_exit, k3, k4, k5, k6, k7, hle', hat, m1, l1, xa, x1, f45, hc]
      omega
    ·have hle' : ¬ (i2 : Int) ≤ (j' : Int) := by omega
     have hst := sd_stop (p := fun x => ahead e[a]! x) (d := e) (i := i2) (j := j') (.inl hle)
     rw [hst] at k10
     rw [← k10]
     simp +contextual -implicitDefEqProofs (maxSteps := 2000000) only [↓wP, wS, seval, exQ_exit, k3, k4, k5, k6, k7, hle']
     omega
   ·clear h2 h3 h4 h5 h6
    intro env σ3 n3 ⟨k1, k2, h2, h3, h4, h5, h6, k9⟩
    subst k1 k2
    have hle := scanDown_le (fun x => ahead e[a]! x) e i2 j
    generalize scanDown (fun x => ahead e[a]! x) e i2 j = j2 at *
    by_cases hgt : j2 < i2
    ·have hgt' : (j2 : Int) < (i2 : Int) := by omega
     rw [if_pos hgt] at h12
     simp +contextual -implicitDefEqProofs (maxSteps := 2000000) only [↓wP, wS, seval, h2, h3, h4, h5, h6, hgt']
     have := hQ σ3
     rw [← h12] at this
     exact this h11
    ·have hgt' : ¬ (j2 : Int) < (i2 : Int) := by omega
     rw [if_neg hgt] at h12
     have wi : IntKind.i64.wrap ((i2 : Int) + 1) = ((i2 + 1 : Nat) : Int) := by rw [wrap_i64] <;> omega
     have wj : IntKind.i64.wrap ((j2 : Int) - 1) = ((j2 - 1 : Nat) : Int) := by rw [wrap_i64] <;> omega
     have x1 := rw_at (d := e) (i := i2) (by omega)
     have x2 := rw_at (d := e) (i := j2) (by omega)
     obtain ⟨u, v, x3⟩ := rw_set_at (d := e) (i := i2) (j := j2) (x := e[j2]!) (by omega)
     have l1 : i2 < N := by omega
     have l2 : j2 < N := by omega
     simp +contextual -implicitDefEqProofs (maxSteps := 2000000) only [↓wP, wS, seval, h2, h3, h4, h5, h6, hgt', wi, wj, x1, x2, x3, l1, l2, hat]
     refine ⟨((i2 + 1, j2 - 1), swp e i2 j2), by dsimp only; omega, rfl, rfl, by dsimp only; omega, by dsimp only; omega, by dsimp only; omega, by rw [swp_size, h10], h11.swp _ _, h12⟩
   ·simp +contextual -implicitDefEqProofs (maxSteps := 2000000) only [↓wP, wS, seval, h2, h3, h4, h5, h6]
    exact k8
  ·simp +contextual -implicitDefEqProofs (maxSteps := 2000000) only [↓wP, wS, seval, h2, h3, h4, h5, h6]
   exact h8
 ·simp +contextual -implicitDefEqProofs (maxSteps := 2000000) only [↓wP, wS, seval]
  exact ⟨by omega, by omega, by omega, hs0, hat0⟩
theorem raw107 (d : Array Hit) (a b p id n : Nat) (σ : Sto) (hap : a ≤ p) (hpb : p < b) (hb : b ≤ d.size) (hn : d.size < 1000000) (hσ : σ id = some (.row 2 (rw' d))) {Q : V → Sto → Nat → Prop}
 (hQ : ∀ σ', At σ' σ id (partition ahead d a b p).2.2 → Q (.tup [.int .i64 ((partition ahead d a b p).1 : Int), .bool (partition ahead d a b p).2.1]) σ' n) :
 run T (.raw 107 [.ref id 0 d.size 2, .int .i64 (a : Int), .int .i64 (b : Int), .int .i64 (p : Int), .fn 45 []] σ n 0) (memQ Q) := by
 refine run_rawE (fn := g107) rfl rfl ?_
 simp only [g107, b107, zO, zN, zM, zL, zG, zP, zQ, zI, zA, zT, zF, zB, zC, zD, zE, zH, zJ, zK]
 have w1 : IntKind.i64.wrap ((a : Int) + 1) = ((a + 1 : Nat) : Int) := by rw [wrap_i64] <;> omega
 have w2 : IntKind.i64.wrap ((b : Int) - 1) = ((b - 1 : Nat) : Int) := by rw [wrap_i64] <;> omega
 have y1 := rw_at (d := d) (i := a) (by omega)
 have y2 := rw_at (d := d) (i := p) (by omega)
 obtain ⟨u, v, y3⟩ := rw_set_at (d := d) (i := a) (j := p) (x := d[p]!) (by omega)
 have h11 := (At.refl hσ).swp a p
 have h10 : (swp d a p).size = d.size := swp_size _ _ _
 unfold partition at hQ
 generalize hsz : d.size = N at *
 have m1 : a < N := by omega
 have m2 : p < N := by omega
 simp +contextual -implicitDefEqProofs (maxSteps := 2000000) only [↓wP, wS, seval, w1, w2, y1, y2, y3, m1, m2, hσ]
 generalize (upd (upd σ id (some (.row 2 ((rw' d).set a (.agg [.int .u64 (d[p]!).id, .int .u64 (d[p]!).d]))))) id
  (some (.row 2 (((rw' d).set a (.agg [.int .u64 (d[p]!).id, .int .u64 (d[p]!).d])).set p (.agg [.int .u64 (d[a]!).id, .int .u64 (d[a]!).d]))))) = σ1 at h11
 generalize swp d a p = e at *
 simp only [gt_iff_lt] at hQ
 have hat := h11.1
 have xa := rw_at (d := e) (i := a) (by omega)
 obtain ⟨n1, hn1⟩ : ∃ n1, n1 = n := ⟨_, rfl⟩
 rw [← hn1] at hQ ⊢
 have h8 : a + 1 ≤ b - 1 + 2 := by omega
 have h2 : True := trivial
 have h3 : True := trivial
 have h4 : True := trivial
 have h5 : True := trivial
 have h6 : True := trivial
 refine WC_loopE 0 0 (fun (i' : Nat) env σ' n' => σ' = σ1 ∧ n' = n1 ∧ env 0 = .ref id 0 N 2 ∧ env 1 = .int .i64 (a : Int) ∧ env 4 = .fn 45 [] ∧ env 12 = .int .i64 (i' : Int) ∧ env 13 = .int .i64 ((b - 1 : Nat) : Int) ∧
  a + 1 ≤ i' ∧ i' ≤ b - 1 + 2 ∧ scanUp (fun x => ahead x e[a]!) e (b - 1) i' = scanUp (fun x => ahead x e[a]!) e (b - 1) (a + 1)) (fun i' => b - 1 + 1 - i')
  (fun env σ' n' => σ' = σ1 ∧ n' = n1 ∧ env 0 = .ref id 0 N 2 ∧ env 1 = .int .i64 (a : Int) ∧ env 4 = .fn 45 [] ∧ env 12 = .int .i64 ((scanUp (fun x => ahead x e[a]!) e (b - 1) (a + 1) : Nat) : Int) ∧ env 13 = .int .i64 ((b - 1 : Nat) : Int) ∧ scanUp (fun x => ahead x e[a]!) e (b - 1) (a + 1) ≤ b - 1 + 2) ?_ ?_ (a + 1) _ _ _ ?_
 ·clear h2 h3 h4 h5 h6
  intro i' env σ2 n2 ⟨k1, k2, k3, k4, k5, k6, k7, k8, k9, k10⟩
  subst k1 k2
  by_cases hle : i' ≤ b - 1
  ·have hle' : (i' : Int) ≤ ((b - 1 : Nat) : Int) := by omega
   have wi : IntKind.i64.wrap ((i' : Int) + 1) = ((i' + 1 : Nat) : Int) := by rw [wrap_i64] <;> omega
   have x1 := rw_at (d := e) (i := i') (by omega)
   have l1 : i' < N := by omega
   by_cases hc : cmpH e[i']! e[a]! < 0
   ·have hah : ahead e[i']! e[a]! = true := by rw [← cmp_lt]; simpa using hc
    simp +contextual -implicitDefEqProofs (maxSteps := 2000000) only [↓wP, wS, seval, exQ_exit, k3, k4, k5, k6, k7, hle', hat, m1, l1, xa, x1, f45, hc, wi]
    exact ⟨i' + 1, by omega, rfl, by omega, by omega, by rw [su_go hle (by simp [hah])]; exact k10⟩
   ·have hah : ahead e[i']! e[a]! = false := by rw [← cmp_lt]; simpa using hc
    have hst := su_stop (p := (fun x => ahead x e[a]!)) (d := e) (i := i') (j := b - 1) (.inr (by simp [hah]))
    rw [hst] at k10
    rw [← k10]
    simp +contextual -implicitDefEqProofs (maxSteps := 2000000) only [↓wP, wS, seval, exQ_exit, k3, k4, k5, k6, k7, hle', hat, m1, l1, xa, x1, f45, hc]
    omega
  ·have hle' : ¬ (i' : Int) ≤ ((b - 1 : Nat) : Int) := by omega
   have hst := su_stop (p := (fun x => ahead x e[a]!)) (d := e) (i := i') (j := b - 1) (.inl hle)
   rw [hst] at k10
   rw [← k10]
   simp +contextual -implicitDefEqProofs (maxSteps := 2000000) only [↓wP, wS, seval, exQ_exit, k3, k4, k5, k6, k7, hle']
   omega
 ·clear h2 h3 h4 h5 h6
  intro env σ2 n2 ⟨k1, k2, h2, h3, h4, h5, h6, k8⟩
  subst k1 k2
  have hge := scanUp_ge (fun x => ahead x e[a]!) e (b - 1) (a + 1)
  generalize scanUp (fun x => ahead x e[a]!) e (b - 1) (a + 1) = i2 at *
  simp +contextual -implicitDefEqProofs (maxSteps := 2000000) only [↓wP, wS, seval]
  refine WC_loopE 2 0 (fun (j' : Nat) env σ' n' => σ' = σ2 ∧ n' = n2 ∧ env 0 = .ref id 0 N 2 ∧ env 1 = .int .i64 (a : Int) ∧ env 4 = .fn 45 [] ∧ env 12 = .int .i64 (i2 : Int) ∧ env 13 = .int .i64 (j' : Int) ∧
   j' ≤ b - 1 ∧ i2 ≤ j' + 2 ∧ scanDown (fun x => !ahead x e[a]!) e i2 j' = scanDown (fun x => !ahead x e[a]!) e i2 (b - 1)) (fun j' => j')
   (fun env σ' n' => σ' = σ2 ∧ n' = n2 ∧ env 0 = .ref id 0 N 2 ∧ env 1 = .int .i64 (a : Int) ∧ env 4 = .fn 45 [] ∧ env 12 = .int .i64 (i2 : Int) ∧ env 13 = .int .i64 ((scanDown (fun x => !ahead x e[a]!) e i2 (b - 1) : Nat) : Int) ∧ i2 ≤ scanDown (fun x => !ahead x e[a]!) e i2 (b - 1) + 2) ?_ ?_ (b - 1) _ _ _ ?_
  ·clear h2 h3 h4 h5 h6
   intro j' env σ3 n3 ⟨k1, k2, k3, k4, k5, k6, k7, k8, k9, k10⟩
   subst k1 k2
   by_cases hle : i2 ≤ j'
   ·have hle' : (i2 : Int) ≤ (j' : Int) := by omega
    obtain ⟨j', rfl⟩ : ∃ q, j' = q + 1 := ⟨j' - 1, by omega⟩
    have wi : IntKind.i64.wrap (((j' + 1 : Nat) : Int) - 1) = (j' : Int) := by rw [wrap_i64] <;> omega
    have x1 := rw_at (d := e) (i := j' + 1) (by omega)
    have l1 : j' + 1 < N := by omega
    by_cases hc : cmpH e[j' + 1]! e[a]! < 0
    ·have hah : ahead e[j' + 1]! e[a]! = true := by rw [← cmp_lt]; simpa using hc
     have hst := sd_stop (p := (fun x => !ahead x e[a]!)) (d := e) (i := i2) (j := j' + 1) (.inr (by simp [hah]))
     rw [hst] at k10
     rw [← k10]
     simp +contextual -implicitDefEqProofs (maxSteps := 2000000) only [↓wP, wS, seval, exQ_exit, k3, k4, k5, k6, k7, hle', hat, m1, l1, xa, x1, f45, hc]
     omega
    ·have hah : ahead e[j' + 1]! e[a]! = false := by rw [← cmp_lt]; simpa using hc
     simp +contextual -implicitDefEqProofs (maxSteps := 2000000) only [↓wP, wS, seval, exQ_exit, k3, k4, k5, k6, k7, hle', hat, m1, l1, xa, x1, f45, hc, wi]
     exact ⟨j', by omega, rfl, by omega, by omega, by rw [sd_go hle (by simp [hah])]; exact k10⟩
   ·have hle' : ¬ (i2 : Int) ≤ (j' : Int) := by omega
    have hst := sd_stop (p := (fun x => !ahead x e[a]!)) (d := e) (i := i2) (j := j') (.inl hle)
    rw [hst] at k10
    rw [← k10]
    simp +contextual -implicitDefEqProofs (maxSteps := 2000000) only [↓wP, wS, seval, exQ_exit, k3, k4, k5, k6, k7, hle']
    omega
  ·clear h2 h3 h4 h5 h6
   intro env σ3 n3 ⟨k1, k2, h2, h3, h4, h5, h6, k9⟩
   subst k1 k2
   have hle := scanDown_le (fun x => !ahead x e[a]!) e i2 (b - 1)
   generalize scanDown (fun x => !ahead x e[a]!) e i2 (b - 1) = j2 at *
   by_cases hgt : j2 < i2
   ·have hgt' : (j2 : Int) < (i2 : Int) := by omega
    have x1 := rw_at (d := e) (i := j2) (by omega)
    have x2 := rw_at (d := e) (i := a) (by omega)
    obtain ⟨u, v, x3⟩ := rw_set_at (d := e) (i := j2) (j := a) (x := e[a]!) (by omega)
    have l1 : j2 < N := by omega
    have l2 : a < N := by omega
    simp +contextual -implicitDefEqProofs (maxSteps := 2000000) only [↓wP, wS, seval, h2, h3, h4, h5, h6, hgt', x1, x2, x3, l1, l2, hat]
    rw [if_pos hgt] at hQ
    exact hQ _ (h11.swp _ _)
   ·have hgt' : ¬ (j2 : Int) < (i2 : Int) := by omega
    rw [if_neg hgt] at hQ
    have wi : IntKind.i64.wrap ((i2 : Int) + 1) = ((i2 + 1 : Nat) : Int) := by rw [wrap_i64] <;> omega
    have wj : IntKind.i64.wrap ((j2 : Int) - 1) = ((j2 - 1 : Nat) : Int) := by rw [wrap_i64] <;> omega
    have x1 := rw_at (d := e) (i := i2) (by omega)
    have x2 := rw_at (d := e) (i := j2) (by omega)
    obtain ⟨u, v, x3⟩ := rw_set_at (d := e) (i := i2) (j := j2) (x := e[j2]!) (by omega)
    have l1 : i2 < N := by omega
    have l2 : j2 < N := by omega
    have hat1 := h11.swp i2 j2
    have hs1 : (swp e i2 j2).size = N := by rw [swp_size, h10]
    simp +contextual -implicitDefEqProofs (maxSteps := 2000000) only [↓wP, wS, seval, h2, h3, h4, h5, h6, hgt', wi, wj, x1, x2, x3, l1, l2, hat]
    generalize (upd (upd σ3 id (some (.row 2 ((rw' e).set i2 (.agg [.int .u64 (e[j2]!).id, .int .u64 (e[j2]!).d]))))) id
     (some (.row 2 (((rw' e).set i2 (.agg [.int .u64 (e[j2]!).id, .int .u64 (e[j2]!).d])).set j2 (.agg [.int .u64 (e[i2]!).id, .int .u64 (e[i2]!).d]))))) = σ5 at hat1
    generalize swp e i2 j2 = d1 at *
    have hR : ∀ (j3 : Nat) (e : Array Hit), (j3, e) = partLoop ahead a (i2 + 1) (j2 - 1) d1 → e.size = N → j3 < b → ∀ σ', At σ' σ id (swp e j3 a) → Q (.tup [.int .i64 (j3 : Int), .bool false]) σ' n3 := by
     intro j3 e h1 _ _ σ' h4
     rw [← h1] at hQ
     exact hQ _ h4
    generalize i2 = i0 at *
    generalize j2 = j0 at *
    clear x1 x2 x3 l1 l2 k8 k9 h10 h11 hgt' wi wj
    refine WC_loopI 0 (fun (s : (Nat × Nat) × Array Hit) env σ' n' => n' = n3 ∧ env 0 = .ref id 0 N 2 ∧ env 1 = .int .i64 (a : Int) ∧ env 4 = .fn 45 [] ∧ env 12 = .int .i64 (s.1.1 : Int) ∧ env 13 = .int .i64 (s.1.2 : Int) ∧
     a < s.1.1 ∧ s.1.1 ≤ s.1.2 + 2 ∧ s.1.2 < b ∧ s.2.size = N ∧ At σ' σ id s.2 ∧ partLoop ahead a s.1.1 s.1.2 s.2 = partLoop ahead a (i0 + 1) (j0 - 1) d1) (fun s => s.1.2 + 1 - s.1.1) ?_ ((i0 + 1, j0 - 1), d1) _ _ _ ?_
    ·clear hat xa
     intro ⟨⟨i, j⟩, e⟩ env σ1 n1 ⟨h1, h2, h3, h4, h5, h6, h7, h8, h9, h10, h11, h12⟩
     subst h1
     simp only at h5 h6 h7 h8 h9 h10 h11 h12
     have hat := h11.1
     have xa := rw_at (d := e) (i := a) (by omega)
     rw [partLoop_eq] at h12
     simp +contextual -implicitDefEqProofs (maxSteps := 2000000) only [↓wP, wS, seval]
     refine WC_loopE 6 0 (fun (i' : Nat) env σ' n' => σ' = σ1 ∧ n' = n1 ∧ env 0 = .ref id 0 N 2 ∧ env 1 = .int .i64 (a : Int) ∧ env 4 = .fn 45 [] ∧ env 12 = .int .i64 (i' : Int) ∧ env 13 = .int .i64 ((j : Nat) : Int) ∧
      i ≤ i' ∧ i' ≤ j + 2 ∧ scanUp (fun x => ahead x e[a]!) e (j) i' = scanUp (fun x => ahead x e[a]!) e (j) (i)) (fun i' => j + 1 - i')
      (fun env σ' n' => σ' = σ1 ∧ n' = n1 ∧ env 0 = .ref id 0 N 2 ∧ env 1 = .int .i64 (a : Int) ∧ env 4 = .fn 45 [] ∧ env 12 = .int .i64 ((scanUp (fun x => ahead x e[a]!) e (j) (i) : Nat) : Int) ∧ env 13 = .int .i64 ((j : Nat) : Int) ∧ scanUp (fun x => ahead x e[a]!) e (j) (i) ≤ j + 2) ?_ ?_ (i) _ _ _ ?_
     ·clear h2 h3 h4 h5 h6
      intro i' env σ2 n2 ⟨k1, k2, k3, k4, k5, k6, k7, k8, k9, k10⟩
      subst k1 k2
      by_cases hle : i' ≤ j
      ·have hle' : (i' : Int) ≤ ((j : Nat) : Int) := by omega
       have wi : IntKind.i64.wrap ((i' : Int) + 1) = ((i' + 1 : Nat) : Int) := by rw [wrap_i64] <;> omega
       have x1 := rw_at (d := e) (i := i') (by omega)
       have l1 : i' < N := by omega
       by_cases hc : cmpH e[i']! e[a]! < 0
       ·have hah : ahead e[i']! e[a]! = true := by rw [← cmp_lt]; simpa using hc
        simp +contextual -implicitDefEqProofs (maxSteps := 2000000) only [↓wP, wS, seval, exQ_exit, k3, k4, k5, k6, k7, hle', hat, m1, l1, xa, x1, f45, hc, wi]
        exact ⟨i' + 1, by omega, rfl, by omega, by omega, by rw [su_go hle (by simp [hah])]; exact k10⟩
       ·have hah : ahead e[i']! e[a]! = false := by rw [← cmp_lt]; simpa using hc
        have hst := su_stop (p := (fun x => ahead x e[a]!)) (d := e) (i := i') (j := j) (.inr (by simp [hah]))
        rw [hst] at k10
        rw [← k10]
        simp +contextual -implicitDefEqProofs (maxSteps := 2000000) only [↓wP, wS, seval, exQ_exit, k3, k4, k5, k6, k7, hle', hat, m1, l1, xa, x1, f45, hc]
        omega
      ·have hle' : ¬ (i' : Int) ≤ ((j : Nat) : Int) := by omega
       have hst := su_stop (p := (fun x => ahead x e[a]!)) (d := e) (i := i') (j := j) (.inl hle)
       rw [hst] at k10
       rw [← k10]
       simp +contextual -implicitDefEqProofs (maxSteps := 2000000) only [↓wP, wS, seval, exQ_exit, k3, k4, k5, k6, k7, hle']
       omega
     ·clear h2 h3 h4 h5 h6
      intro env σ2 n2 ⟨k1, k2, h2, h3, h4, h5, h6, k8⟩
      subst k1 k2
      have hge := scanUp_ge (fun x => ahead x e[a]!) e (j) (i)
      generalize scanUp (fun x => ahead x e[a]!) e (j) (i) = i2 at *
      simp +contextual -implicitDefEqProofs (maxSteps := 2000000) only [↓wP, wS, seval]
      refine WC_loopE 8 0 (fun (j' : Nat) env σ' n' => σ' = σ2 ∧ n' = n2 ∧ env 0 = .ref id 0 N 2 ∧ env 1 = .int .i64 (a : Int) ∧ env 4 = .fn 45 [] ∧ env 12 = .int .i64 (i2 : Int) ∧ env 13 = .int .i64 (j' : Int) ∧
       j' ≤ j ∧ i2 ≤ j' + 2 ∧ scanDown (fun x => !ahead x e[a]!) e i2 j' = scanDown (fun x => !ahead x e[a]!) e i2 (j)) (fun j' => j')
       (fun env σ' n' => σ' = σ2 ∧ n' = n2 ∧ env 0 = .ref id 0 N 2 ∧ env 1 = .int .i64 (a : Int) ∧ env 4 = .fn 45 [] ∧ env 12 = .int .i64 (i2 : Int) ∧ env 13 = .int .i64 ((scanDown (fun x => !ahead x e[a]!) e i2 (j) : Nat) : Int) ∧ i2 ≤ scanDown (fun x => !ahead x e[a]!) e i2 (j) + 2) ?_ ?_ (j) _ _ _ ?_
      ·clear h2 h3 h4 h5 h6
       intro j' env σ3 n3 ⟨k1, k2, k3, k4, k5, k6, k7, k8, k9, k10⟩
       subst k1 k2
       by_cases hle : i2 ≤ j'
       ·have hle' : (i2 : Int) ≤ (j' : Int) := by omega
        obtain ⟨j', rfl⟩ : ∃ q, j' = q + 1 := ⟨j' - 1, by omega⟩
        have wi : IntKind.i64.wrap (((j' + 1 : Nat) : Int) - 1) = (j' : Int) := by rw [wrap_i64] <;> omega
        have x1 := rw_at (d := e) (i := j' + 1) (by omega)
        have l1 : j' + 1 < N := by omega
        by_cases hc : cmpH e[j' + 1]! e[a]! < 0
        ·have hah : ahead e[j' + 1]! e[a]! = true := by rw [← cmp_lt]; simpa using hc
         have hst := sd_stop (p := (fun x => !ahead x e[a]!)) (d := e) (i := i2) (j := j' + 1) (.inr (by simp [hah]))
         rw [hst] at k10
         rw [← k10]
         simp +contextual -implicitDefEqProofs (maxSteps := 2000000) only [↓wP, wS, seval, exQ_exit, k3, k4, k5, k6, k7, hle', hat, m1, l1, xa, x1, f45, hc]
         omega
        ·have hah : ahead e[j' + 1]! e[a]! = false := by rw [← cmp_lt]; simpa using hc
         simp +contextual -implicitDefEqProofs (maxSteps := 2000000) only [↓wP, wS, seval, exQ_exit, k3, k4, k5, k6, k7, hle', hat, m1, l1, xa, x1, f45, hc, wi]
         exact ⟨j', by omega, rfl, by omega, by omega, by rw [sd_go hle (by simp [hah])]; exact k10⟩
       ·have hle' : ¬ (i2 : Int) ≤ (j' : Int) := by omega
        have hst := sd_stop (p := (fun x => !ahead x e[a]!)) (d := e) (i := i2) (j := j') (.inl hle)
        rw [hst] at k10
        rw [← k10]
        simp +contextual -implicitDefEqProofs (maxSteps := 2000000) only [↓wP, wS, seval, exQ_exit, k3, k4, k5, k6, k7, hle']
        omega
      ·clear h2 h3 h4 h5 h6
       intro env σ3 n3 ⟨k1, k2, h2, h3, h4, h5, h6, k9⟩
       subst k1 k2
       have hle := scanDown_le (fun x => !ahead x e[a]!) e i2 (j)
       generalize scanDown (fun x => !ahead x e[a]!) e i2 (j) = j2 at *
       by_cases hgt : j2 < i2
       ·have hgt' : (j2 : Int) < (i2 : Int) := by omega
        rw [if_pos hgt] at h12
        have x1 := rw_at (d := e) (i := j2) (by omega)
        have x2 := rw_at (d := e) (i := a) (by omega)
        obtain ⟨u, v, x3⟩ := rw_set_at (d := e) (i := j2) (j := a) (x := e[a]!) (by omega)
        have l1 : j2 < N := by omega
        have l2 : a < N := by omega
        simp +contextual -implicitDefEqProofs (maxSteps := 2000000) only [↓wP, wS, seval, h2, h3, h4, h5, h6, hgt', x1, x2, x3, l1, l2, hat]
        have := hR j2 e h12 h10 (by omega)
        exact this _ (h11.swp _ _)
       ·have hgt' : ¬ (j2 : Int) < (i2 : Int) := by omega
        rw [if_neg hgt] at h12
        have wi : IntKind.i64.wrap ((i2 : Int) + 1) = ((i2 + 1 : Nat) : Int) := by rw [wrap_i64] <;> omega
        have wj : IntKind.i64.wrap ((j2 : Int) - 1) = ((j2 - 1 : Nat) : Int) := by rw [wrap_i64] <;> omega
        have x1 := rw_at (d := e) (i := i2) (by omega)
        have x2 := rw_at (d := e) (i := j2) (by omega)
        obtain ⟨u, v, x3⟩ := rw_set_at (d := e) (i := i2) (j := j2) (x := e[j2]!) (by omega)
        have l1 : i2 < N := by omega
        have l2 : j2 < N := by omega
        simp +contextual -implicitDefEqProofs (maxSteps := 2000000) only [↓wP, wS, seval, h2, h3, h4, h5, h6, hgt', wi, wj, x1, x2, x3, l1, l2, hat]
        refine ⟨((i2 + 1, j2 - 1), swp e i2 j2), by dsimp only; omega, rfl, rfl, by dsimp only; omega, by dsimp only; omega, by dsimp only; omega, by rw [swp_size, h10], h11.swp _ _, h12⟩
      ·simp +contextual -implicitDefEqProofs (maxSteps := 2000000) only [↓wP, wS, seval, h2, h3, h4, h5, h6]
       exact k8
     ·simp +contextual -implicitDefEqProofs (maxSteps := 2000000) only [↓wP, wS, seval, h2, h3, h4, h5, h6]
      omega
    ·simp +contextual -implicitDefEqProofs (maxSteps := 2000000) only [↓wP, wS, seval, h2, h3, h4, h5, h6]
     exact ⟨by omega, by omega, by omega, hs1, hat1⟩
  ·simp +contextual -implicitDefEqProofs (maxSteps := 2000000) only [↓wP, wS, seval, h2, h3, h4, h5, h6]
   exact k8
 ·simp +contextual -implicitDefEqProofs (maxSteps := 2000000) only [↓wP, wS, seval, h2, h3, h4, h5, h6]
  omega
end Go.Q.SD
end

section
/- The first hits of a row: plain laws. -/
namespace Go.Q.SD
open Go.Q Go.Sort
theorem ah_iff (a b : Hit) : ahead a b = true ↔ (a.d < b.d ∨ (a.d = b.d ∧ a.id < b.id)) := by simp [ahead]
theorem ah_not (a b : Hit) : ahead a b = false ↔ ¬ (a.d < b.d ∨ (a.d = b.d ∧ a.id < b.id)) := by rw [← ah_iff, Bool.not_eq_true]
theorem swoA : SWO ahead where
 irrefl := fun x => by rw [ah_not]; omega
 trans := fun x y z h1 h2 => by rw [ah_iff] at *; omega
 ntrans := fun x y z h1 h2 => by rw [ah_not] at *; omega
theorem ah_anti {x y : Hit} (h1 : ahead x y = false) (h2 : ahead y x = false) : x = y := by
 rw [ah_not] at *
 obtain ⟨i, d⟩ := x
 obtain ⟨j, e⟩ := y
 simp only at *
 have : i = j := by omega
 have : d = e := by omega
 subst_vars
 rfl
def ins (h : Hit) : List Hit → List Hit
 | [] => [h]
 | x :: s => if ahead h x = true then h :: x :: s else x :: ins h s
def srt (l : List Hit) : List Hit := l.foldl (fun s h => ins h s) []
def fst' (k : Nat) (l : List Hit) : List Hit := (srt l).take k
def Srt (s : List Hit) : Prop := s.Pairwise fun a b => ahead b a = false
theorem ins_len (h : Hit) : ∀ s, (ins h s).length = s.length + 1
 | [] => rfl
 | x :: s => by
   unfold ins
   split
   ·rfl
   ·simp [ins_len h s]
theorem ins_perm (h : Hit) : ∀ s, (ins h s).Perm (h :: s)
 | [] => .refl _
 | x :: s => by
   unfold ins
   split
   ·exact .refl _
   ·exact ((ins_perm h s).cons x).trans (.swap h x s)
theorem ins_srt (h : Hit) : ∀ s, Srt s → Srt (ins h s)
 | [], _ => List.pairwise_singleton _ _
 | x :: s, hs => by
   unfold Srt at hs
   rw [List.pairwise_cons] at hs
   unfold ins
   split
   ·rename_i hx
    refine List.pairwise_cons.2 ⟨fun y hy => ?_, List.pairwise_cons.2 hs⟩
    rcases List.mem_cons.1 hy with rfl | hy
    ·exact swoA.asymm hx
    ·have h1 := hs.1 y hy
     have h2 := swoA.asymm hx
     exact swoA.ntrans _ _ _ h1 h2
   ·rename_i hx
    refine List.pairwise_cons.2 ⟨fun y hy => ?_, ins_srt h s hs.2⟩
    rcases List.mem_cons.1 ((ins_perm h s).mem_iff.1 hy) with rfl | hy
    ·simpa using hx
    ·exact hs.1 y hy
theorem fold_perm : ∀ (l s : List Hit), (l.foldl (fun s h => ins h s) s).Perm (s ++ l)
 | [], s => by simp
 | h :: l, s => by
   refine (fold_perm l (ins h s)).trans ?_
   refine ((ins_perm h s).append_right l).trans ?_
   simp only [List.cons_append]
   exact List.perm_middle.symm
theorem fold_srt : ∀ (l s : List Hit), Srt s → Srt (l.foldl (fun s h => ins h s) s)
 | [], s, h => h
 | x :: l, s, h => fold_srt l _ (ins_srt x s h)
theorem srt_perm (l : List Hit) : (srt l).Perm l := by simpa [srt] using fold_perm l []
theorem srt_srt (l : List Hit) : Srt (srt l) := fold_srt l [] List.Pairwise.nil
theorem srt_len (l : List Hit) : (srt l).length = l.length := (srt_perm l).length_eq
theorem srt_snoc (l : List Hit) (h : Hit) : srt (l ++ [h]) = ins h (srt l) := by simp [srt, List.foldl_append]
theorem fst_len (k : Nat) (l : List Hit) : (fst' k l).length = min k l.length := by simp [fst', srt_len]
theorem Srt.uniq : ∀ {s t : List Hit}, Srt s → Srt t → s.Perm t → s = t
 | [], t, _, _, h => (List.nil_perm.1 h).symm
 | x :: s, t, hs, ht, h => by
   cases t with
   | nil => exact absurd h.symm.nil_eq (by simp)
   | cons y t =>
     unfold Srt at hs ht
     rw [List.pairwise_cons] at hs ht
     have e : x = y := by
      rcases List.mem_cons.1 (h.mem_iff.1 (List.mem_cons_self (a := x) (l := s))) with e | e
      ·exact e
      ·rcases List.mem_cons.1 (h.mem_iff.2 (List.mem_cons_self (a := y) (l := t))) with e' | e'
       ·exact e'.symm
       ·exact ah_anti (ht.1 _ e) (hs.1 _ e')
     subst e
     rw [Srt.uniq hs.2 ht.2 (List.perm_cons x |>.1 h)]
theorem take_ins (h : Hit) : ∀ (k : Nat) (s : List Hit), (ins h s).take k = (ins h (s.take k)).take k
 | 0, s => by simp
 | k + 1, [] => by simp
 | k + 1, x :: s => by
   simp only [ins, List.take_succ_cons]
   split
   ·simp only [List.take_succ_cons]
    cases k with
    | zero => simp
    | succ k => simp [List.take_take]
   ·simp only [List.take_succ_cons]
    rw [take_ins h k s]
theorem fst_snoc (k : Nat) (l : List Hit) (h : Hit) : fst' k (l ++ [h]) = (ins h (fst' k l)).take k := by
 rw [fst', fst', srt_snoc, take_ins]
theorem Srt.take {s : List Hit} (h : Srt s) (k : Nat) : Srt (s.take k) := List.Pairwise.sublist (List.take_sublist k s) h
theorem fst_srt (k : Nat) (l : List Hit) : Srt (fst' k l) := (srt_srt l).take k
theorem ins_end (h : Hit) : ∀ s : List Hit, (∀ x ∈ s, ahead h x = false) → ins h s = s ++ [h]
 | [], _ => rfl
 | x :: s, hs => by
   unfold ins
   rw [if_neg (by simp [hs x (by simp)]), ins_end h s (fun y hy => hs y (by simp [hy]))]
   rfl
theorem fst_out {k : Nat} {l : List Hit} {h : Hit} (hk : (fst' k l).length = k) (hh : ∀ x ∈ fst' k l, ahead h x = false) : fst' k (l ++ [h]) = fst' k l := by
 rw [fst_snoc, ins_end h _ hh, List.take_left' hk]
def Hp (n : Nat) (e : Array Hit) : Prop := ∀ i, 0 < i → i < n → ahead e[(i - 1) / 2]! e[i]! = false
def HpUp (n j : Nat) (e : Array Hit) : Prop := (∀ i, 0 < i → i < n → i ≠ j → ahead e[(i - 1) / 2]! e[i]! = false) ∧
 ∀ i, 0 < i → i < n → (i - 1) / 2 = j → 0 < j → ahead e[(j - 1) / 2]! e[i]! = false
def HpDn (n i : Nat) (e : Array Hit) : Prop := (∀ c, 0 < c → c < n → (c - 1) / 2 ≠ i → ahead e[(c - 1) / 2]! e[c]! = false) ∧
 ∀ c, 0 < c → c < n → (c - 1) / 2 = i → 0 < i → ahead e[(i - 1) / 2]! e[c]! = false
theorem HpUp.stop {n j : Nat} {e : Array Hit} (h : HpUp n j e) (hs : j = 0 ∨ ahead e[(j - 1) / 2]! e[j]! = false) : Hp n e := by
 intro i h0 hn
 by_cases hi : i = j
 ·subst hi
  rcases hs with hs | hs
  ·omega
  ·exact hs
 ·exact h.1 i h0 hn hi
theorem HpUp.step {n j : Nat} {e : Array Hit} (h : HpUp n j e) (hj : 0 < j) (hn : j < n) (hz : n ≤ e.size) (hl : ahead e[(j - 1) / 2]! e[j]! = true) : HpUp n ((j - 1) / 2) (swp e ((j - 1) / 2) j) := by
 have hp : (j - 1) / 2 < j := by omega
 have g : ∀ k, (swp e ((j - 1) / 2) j)[k]! = if k = j then e[(j - 1) / 2]! else if k = (j - 1) / 2 then e[j]! else e[k]! := by
  intro k
  by_cases h1 : k = j
  ·subst h1; rw [if_pos rfl, swp_right _ _ _ (by omega)]
  ·by_cases h2 : k = (j - 1) / 2
   ·rw [if_neg h1, if_pos h2, h2, swp_left _ _ _ (by omega) (by omega)]
   ·rw [if_neg h1, if_neg h2, swp_other _ _ _ _ h2 h1]
 refine ⟨fun i h0 hi hne => ?_, fun i h0 hi hpi hp0 => ?_⟩
 ·rw [g, g]
  by_cases h1 : i = j
  ·subst h1
   rw [if_pos rfl, if_neg (by omega), if_pos rfl]
   exact swoA.asymm hl
  ·rw [if_neg h1, if_neg hne]
   by_cases h2 : (i - 1) / 2 = j
   ·rw [if_pos h2]; exact h.2 i h0 hi h2 hj
   ·rw [if_neg h2]
    by_cases h3 : (i - 1) / 2 = (j - 1) / 2
    ·rw [if_pos h3]
     have := h.1 i h0 hi h1
     rw [h3] at this
     exact swoA.ntrans _ _ _ (swoA.asymm hl) this
    ·rw [if_neg h3]; exact h.1 i h0 hi h1
 ·rw [g, g]
  have hpp := h.1 ((j - 1) / 2) hp0 (by omega) (by omega)
  rw [if_neg (show ¬ ((j - 1) / 2 - 1) / 2 = j by omega), if_neg (show ¬ ((j - 1) / 2 - 1) / 2 = (j - 1) / 2 by omega)]
  by_cases h1 : i = j
  ·rw [if_pos h1]; exact hpp
  ·rw [if_neg h1, if_neg (by omega)]
   have := h.1 i h0 hi h1
   rw [hpi] at this
   exact swoA.ntrans _ _ _ hpp this
theorem HpDn.step {n i j : Nat} {e : Array Hit} (h : HpDn n i e) (hji : (j - 1) / 2 = i) (hj : 0 < j) (hn : j < n) (hz : n ≤ e.size) (hl : ahead e[i]! e[j]! = true)
 (hb : ∀ c, 0 < c → c < n → (c - 1) / 2 = i → ahead e[j]! e[c]! = false) : HpDn n j (swp e i j) := by
 have hp : i < j := by omega
 have g : ∀ k, (swp e i j)[k]! = if k = j then e[i]! else if k = i then e[j]! else e[k]! := by
  intro k
  by_cases h1 : k = j
  ·subst h1; rw [if_pos rfl, swp_right _ _ _ (by omega)]
  ·by_cases h2 : k = i
   ·rw [if_neg h1, if_pos h2, h2, swp_left _ _ _ (by omega) (by omega)]
   ·rw [if_neg h1, if_neg h2, swp_other _ _ _ _ h2 h1]
 refine ⟨fun c h0 hc hne => ?_, fun c h0 hc hpc hp0 => ?_⟩
 ·rw [g, g, if_neg hne]
  by_cases h1 : (c - 1) / 2 = i
  ·rw [if_pos h1]
   by_cases h2 : c = j
   ·rw [if_pos h2]; exact swoA.asymm hl
   ·rw [if_neg h2, if_neg (by omega)]; exact hb c h0 hc h1
  ·rw [if_neg h1]
   by_cases h2 : c = j
   ·omega
   ·rw [if_neg h2]
    by_cases h3 : c = i
    ·rw [if_pos h3]
     subst h3
     exact h.2 j hj hn hji h0
    ·rw [if_neg h3]; exact h.1 c h0 hc h1
 ·rw [g, g, hji, if_neg (by omega), if_pos rfl, if_neg (by omega), if_neg (by omega)]
  have := h.1 c h0 hc (by omega)
  rw [hpc] at this
  exact this
theorem HpDn.stop {n i : Nat} {e : Array Hit} (h : HpDn n i e) (hs : ∀ c, 0 < c → c < n → (c - 1) / 2 = i → ahead e[i]! e[c]! = false) : Hp n e := by
 intro c h0 hc
 by_cases h1 : (c - 1) / 2 = i
 ·rw [h1]; exact hs c h0 hc h1
 ·exact h.1 c h0 hc h1
theorem Hp.max {n : Nat} {e : Array Hit} (h : Hp n e) : ∀ i, i < n → ahead e[0]! e[i]! = false := by
 intro i
 induction i using Nat.strongRecOn with
 | _ i ih =>
   intro hi
   by_cases h0 : i = 0
   ·subst h0; exact swoA.irrefl _
   ·exact swoA.ntrans _ _ _ (ih ((i - 1) / 2) (by omega) (by omega)) (h i (by omega) hi)
theorem Srt.last {s : List Hit} {m : Hit} (h : Srt (s ++ [m])) : ∀ x ∈ s, ahead m x = false := by
 intro x hx
 exact (List.pairwise_append.1 h).2.2 x hx m (by simp)
theorem drop_max {s t : List Hit} {m : Hit} (hs : Srt s) (hp : s.Perm (t ++ [m])) (hm : ∀ x ∈ t, ahead m x = false) : t.Perm (s.take t.length) := by
 have h1 : Srt (srt t ++ [m]) := by
  refine List.pairwise_append.2 ⟨srt_srt t, List.pairwise_singleton _ _, fun a ha b hb => ?_⟩
  rw [List.mem_singleton] at hb
  subst hb
  exact hm a ((srt_perm t).mem_iff.1 ha)
 have h2 : s = srt t ++ [m] := Srt.uniq hs h1 (hp.trans ((srt_perm t).symm.append_right [m]))
 rw [h2, List.take_left' (srt_len t)]
 exact (srt_perm t).symm
end Go.Q.SD
end

section
/- A sort of few. -/
namespace Go.Q.SD
open Go.Q Go.Sort
theorem raw44N {d : Array Hit} {N : Nat} (hN : d.size = N) (a b id n : Nat) (σ : Sto) (hab : a ≤ b) (hb : b ≤ N) (hn : N < 1000000) (hσ : σ id = some (.row 2 (rw' d))) {Q : V → Sto → Nat → Prop}
 (hQ : ∀ σ', At σ' σ id (insertionSort ahead d a b) → Q .undef σ' n) :
 run T (.raw 100 [.ref id 0 N 2, .int .i64 (a : Int), .int .i64 (b : Int), .fn 45 []] σ n 0) (memQ Q) := by subst hN; exact raw100 d a b id n σ hab hb hn hσ hQ
theorem raw46N {d : Array Hit} {N : Nat} (hN : d.size = N) (a b id n : Nat) (σ : Sto) (h8 : 8 ≤ b - a) (h60 : b - a < 60) (hb : b ≤ N) (hn : N < 1000000) (hid : id < n) (hσ : σ id = some (.row 2 (rw' d))) {Q : V → Sto → Nat → Prop}
 (hQ : ∀ σ' d' n', n ≤ n' → σ' id = some (.row 2 (rw' d')) → (∀ i, i ≠ id → i < n → σ' i = σ i) → PermIn a b d d' → Q .undef σ' n') :
 run T (.raw 102 [.ref id 0 N 2, .int .i64 (a : Int), .int .i64 (b : Int), .fn 45 []] σ n 0) (memQ Q) := by subst hN; exact raw102 d a b id n σ h8 h60 hb hn hid hσ hQ
theorem raw48N {d : Array Hit} {N : Nat} (hN : d.size = N) (a b id n : Nat) (σ : Sto) (hab : a < b) (hb : b ≤ N) (hn : N < 1000000) (hσ : σ id = some (.row 2 (rw' d))) {Q : V → Sto → Nat → Prop}
 (hQ : ∀ σ' d', At σ' σ id d' → PermIn a b d d' → Q .undef σ' n) :
 run T (.raw 104 [.ref id 0 N 2, .int .i64 (a : Int), .int .i64 (b : Int), .fn 45 []] σ n 0) (memQ Q) := by subst hN; exact raw104 d a b id n σ hab hb hn hσ hQ
theorem raw49N {d : Array Hit} {N : Nat} (hN : d.size = N) (a b id n : Nat) (σ : Sto) (hab : a < b) (h50 : b - a < 50) (hb : b ≤ N) (hn : N < 1000000) (hσ : σ id = some (.row 2 (rw' d))) {Q : V → Sto → Nat → Prop}
 (hQ : ∀ r : Bool, (r = true → SortedIn ahead a b d) → Q (.bool r) σ n) :
 run T (.raw 105 [.ref id 0 N 2, .int .i64 (a : Int), .int .i64 (b : Int), .fn 45 []] σ n 0) (memQ Q) := by subst hN; exact raw105 d a b id n σ swoA hab h50 hb hn hσ hQ
theorem raw50N {d : Array Hit} {N : Nat} (hN : d.size = N) (a b p id n : Nat) (σ : Sto) (hap : a ≤ p) (hpb : p < b) (hb : b ≤ N) (hn : N < 1000000) (hσ : σ id = some (.row 2 (rw' d))) {Q : V → Sto → Nat → Prop}
 (hQ : ∀ σ', At σ' σ id (partitionEqual ahead d a b p).2 → Q (.int .i64 ((partitionEqual ahead d a b p).1 : Int)) σ' n) :
 run T (.raw 106 [.ref id 0 N 2, .int .i64 (a : Int), .int .i64 (b : Int), .int .i64 (p : Int), .fn 45 []] σ n 0) (memQ Q) := by subst hN; exact raw106 d a b p id n σ hap hpb hb hn hσ hQ
theorem raw51N {d : Array Hit} {N : Nat} (hN : d.size = N) (a b p id n : Nat) (σ : Sto) (hap : a ≤ p) (hpb : p < b) (hb : b ≤ N) (hn : N < 1000000) (hσ : σ id = some (.row 2 (rw' d))) {Q : V → Sto → Nat → Prop}
 (hQ : ∀ σ', At σ' σ id (partition ahead d a b p).2.2 → Q (.tup [.int .i64 ((partition ahead d a b p).1 : Int), .bool (partition ahead d a b p).2.1]) σ' n) :
 run T (.raw 107 [.ref id 0 N 2, .int .i64 (a : Int), .int .i64 (b : Int), .int .i64 (p : Int), .fn 45 []] σ n 0) (memQ Q) := by subst hN; exact raw107 d a b p id n σ hap hpb hb hn hσ hQ
theorem frz_row {d : Array Hit} {N id : Nat} {σ : Sto} (hN : d.size = N) (h : σ id = some (.row 2 (rw' d))) (k : Nat) : frz σ (k + 3) (.ref id 0 N 2) = some (.sl 2 (rw' d)) := by
 have hl : N = (rw' d).length := by rw [rw_len, hN]
 rw [hl]
 refine (Fz.ref (S := fun _ => True) h trivial (FzL.trees ?_ ?_)).1
 ·intro x hx
  unfold rw' at hx
  obtain ⟨y, -, rfl⟩ := List.mem_map.1 hx
  rfl
 ·intro x hx c hc
  unfold rw' at hx
  obtain ⟨y, -, rfl⟩ := List.mem_map.1 hx
  simp only [hitV, V.cells, List.mem_cons, List.not_mem_nil, or_false] at hc
  rcases hc with rfl | rfl <;> rfl
theorem f103 (d : Array Hit) (a b id N : Nat) (σ : Sto) (n lk : Nat) (hN : d.size = N) (hσ : σ id = some (.row 2 (rw' d))) (hab : a < b) (hb : b ≤ N) (h50 : b - a < 50) (hn : N < 1000000) :
 ∃ (p : Nat) (h : Int), a ≤ p ∧ p < b ∧ (h = 0 ∨ h = 1 ∨ h = 2) ∧ callE T true 103 [.ref id 0 N 2, .int .i64 (a : Int), .int .i64 (b : Int), .fn 45 []] σ n lk = some (.tup [.int .i64 (p : Int), .int .i64 h], σ, n) := by
 obtain ⟨p, h, h1, h2, h3, h4⟩ := r103 d a b hab (by omega) h50 (by omega)
 refine ⟨p, h, h1, h2, h3, ?_⟩
 rw [callE_eq (by decide)]
 have e : [V.ref id 0 N 2, .int .i64 (a : Int), .int .i64 (b : Int), .fn 45 []].mapM (frz σ 12) = some [.sl 2 (rw' d), .int .i64 (a : Int), .int .i64 (b : Int), .fn 45 []] := by
  simp only [List.mapM_cons, List.mapM_nil, frz_row hN hσ 9, frz_int, frz_fn]
  rfl
 rw [e, callR_some, h4, retE_some, backE_flat rfl]
 rfl
def Pdq (c L N a0 b0 : Nat) (d : Array Hit) (a b lim : Nat) (e : Array Hit) : Prop :=
 a ≤ b ∧ b ≤ N ∧ b - a ≤ L ∧ b - a < 50 ∧ b - a ≤ c + lim ∧ lim < 1000 ∧ e.size = N ∧ Below ahead a b e ∧
 ∀ R, PermIn a b e R → SortedIn ahead a b R → PermIn a0 b0 d R ∧ SortedIn ahead a0 b0 R
theorem Pdq.perm {c L N a0 b0 a b lim : Nat} {d e e' : Array Hit} (h : Pdq c L N a0 b0 d a b lim e) (hp : PermIn a b e e') : Pdq c L N a0 b0 d a b lim e' := by
 obtain ⟨h1, h2, h3, h4, h5, h6, h7, h8, h9⟩ := h
 exact ⟨h1, h2, h3, h4, h5, h6, by rw [hp.1, h7], h8.perm (by omega) hp, fun R hR hs => h9 R (permIn_trans _ _ _ _ _ hp hR) hs⟩
theorem bin_quo8 (m : Nat) (h : m < 9223372036854775808) : binV .quo (.int .i64 (m : Int)) (.int .i64 8) = some (.int .i64 ((m / 8 : Nat) : Int)) := by
 rw [bin_quo .i64 (m : Int) 8 (by decide)]
 have e : (m : Int).tdiv 8 = ((m / 8 : Nat) : Int) := rfl
 rw [e, wrap_nat (by omega)]
def Sorts (L : Nat) : Prop := ∀ (d : Array Hit) (a b lim id n N : Nat) (σ : Sto), b - a < L → a ≤ b → b - a < 50 → b - a ≤ 12 + lim → b ≤ N → N < 1000000 → lim < 1000 → id < n → d.size = N → σ id = some (.row 2 (rw' d)) →
 Below ahead a b d → ∀ {Q : V → Sto → Nat → Prop}, (∀ σ' d' n', n ≤ n' → σ' id = some (.row 2 (rw' d')) → (∀ i, i ≠ id → i < n → σ' i = σ i) → PermIn a b d d' → SortedIn ahead a b d' → Q .undef σ' n') →
 run T (.raw 91 [.ref id 0 N 2, .int .i64 (a : Int), .int .i64 (b : Int), .int .i64 (lim : Int), .fn 45 []] σ n 0) (memQ Q)
theorem raw91_step (L : Nat) (ih : Sorts L) : Sorts (L + 1) := by
 intro d a b lim id n N σ hL hab h50 h12 hb hn hlim hid hN hσ hB Q hQ
 refine run_rawE (fn := g91) rfl rfl ?_
 simp only [g91, b91, zO, zN, zM, zL, zG, zP, zQ, zI, zA, zT, zF, zB, zC, zD, zE, zH, zJ, zK]
 simp +contextual -implicitDefEqProofs (maxSteps := 2000000) only [↓wP, wS, seval]
 refine WC_loopI 0 (fun (s : (Nat × Nat) × Nat) env σ' n' => n ≤ n' ∧ env 0 = .ref id 0 N 2 ∧ env 1 = .int .i64 (s.1.1 : Int) ∧ env 2 = .int .i64 (s.1.2 : Int) ∧ env 3 = .int .i64 (s.2 : Int) ∧ env 4 = .fn 45 [] ∧
  (∃ wb, env 10 = .bool wb) ∧ (∃ wp, env 11 = .bool wp) ∧ (∀ i, i ≠ id → i < n → σ' i = σ i) ∧ ∃ e, Pdq 12 L N a b d s.1.1 s.1.2 s.2 e ∧ σ' id = some (.row 2 (rw' e))) (fun s => s.1.2 - s.1.1) ?_ ((a, b), lim) _ _ _ ?_
 ·intro ⟨⟨a', b'⟩, lim'⟩ env σ1 n1 ⟨h1, h2, h3, h4, h5, h6, ⟨wb, h7⟩, ⟨wp, h8⟩, hf, e, hp, h9⟩
  dsimp only at h3 h4 h5 hp
  obtain ⟨p1, p2, p3, p4, p5, p6, p7, p8, p9⟩ := hp
  have hp : Pdq 12 L N a b d a' b' lim' e := ⟨p1, p2, p3, p4, p5, p6, p7, p8, p9⟩
  have w1 : IntKind.i64.wrap ((b' : Int) - (a' : Int)) = ((b' - a' : Nat) : Int) := by rw [wrap_i64] <;> omega
  by_cases hle : b' - a' ≤ 12
  ·have hle' : ((b' - a' : Nat) : Int) ≤ 12 := by omega
   simp +contextual -implicitDefEqProofs (maxSteps := 2000000) only [↓wP, wS, seval, h2, h3, h4, h5, h6, w1, hle']
   refine stepW_raw (by decide) (raw44N p7 a' b' id n1 σ1 p1 p2 hn h9 fun σ2 hat => ?_)
   simp +contextual -implicitDefEqProofs (maxSteps := 2000000) only [↓wP, wS, seval]
   have hs := insertionSort_holds (lt := ahead) swoA e a' b' p1 (by omega)
   have hR := p9 _ hs.1 hs.2
   exact hQ _ _ _ h1 hat.1 (fun i hi hin => by rw [hat.2 i hi, hf i hi hin]) hR.1 hR.2
  ·have hle' : ¬ ((b' - a' : Nat) : Int) ≤ 12 := by omega
   have hl0 : ((lim' : Int) == 0) = false := by simp; omega
   simp +contextual -implicitDefEqProofs (maxSteps := 2000000) only [↓wP, wS, seval, h2, h3, h4, h5, h6, h7, h8, w1, hle', hl0]
   refine condC_cut (fun env' σ' n' => ∃ lim1 e1, n1 ≤ n' ∧ env' 0 = .ref id 0 N 2 ∧ env' 1 = .int .i64 (a' : Int) ∧ env' 2 = .int .i64 (b' : Int) ∧ env' 3 = .int .i64 ((lim1 : Nat) : Int) ∧ env' 4 = .fn 45 [] ∧
    env' 10 = .bool wb ∧ env' 11 = .bool wp ∧ env' 12 = .int .i64 ((b' - a' : Nat) : Int) ∧ lim' ≤ lim1 + 1 ∧ lim1 ≤ lim' ∧ σ' id = some (.row 2 (rw' e1)) ∧ PermIn a' b' e e1 ∧ (∀ i, i ≠ id → i < n → σ' i = σ i)) ?_ ?_ ?_
   ·intro hx
    have wl : IntKind.i64.wrap ((lim' : Int) - 1) = ((lim' - 1 : Nat) : Int) := by rw [wrap_i64] <;> omega
    simp +contextual -implicitDefEqProofs (maxSteps := 2000000) only [↓wP, wS, seval, h2, h3, h4, h5, h6, h7, h8]
    refine stepW_raw (by decide) (raw46N p7 a' b' id n1 σ1 (by omega) (by omega) p2 hn (by omega) h9 fun σ2 d2 n2 g1 g2 g3 g4 => ?_)
    simp +contextual -implicitDefEqProofs (maxSteps := 2000000) only [↓wP, wS, seval, h2, h3, h4, h5, h6, h7, h8, wl]
    refine ⟨lim' - 1, d2, ?_⟩
    have : ∀ i, i ≠ id → i < n → σ2 i = σ i := fun i hi hin => by rw [g3 i hi (by omega), hf i hi hin]
    repeat' (first | assumption | rfl | omega | apply And.intro)
   ·intro hx
    simp +contextual -implicitDefEqProofs (maxSteps := 2000000) only [↓wP, wS, seval, h2, h3, h4, h5, h6, h7, h8]
    refine ⟨lim', e, ?_⟩
    have := permIn_refl e a' b'
    repeat' (first | assumption | rfl | omega | apply And.intro)
   ·clear h2 h3 h4 h5 h6 h7 h8 hf h9
    intro env σ1 n2 ⟨lim1, e1, hn1, h2, h3, h4, h5, h6, h7, h8, hlen, hl1, hl2, h9, hpm, hf⟩
    have hp1 := hp.perm hpm
    obtain ⟨q1, q2, q3, q4, q5, q6, q7, q8, q9⟩ := hp1
    obtain ⟨p, hh, hp1', hp2', hh3, h47⟩ := f103 e1 a' b' id N σ1 n2 0 q7 h9 (by omega) q2 q4 hn
    simp +contextual -implicitDefEqProofs (maxSteps := 2000000) only [↓wP, wS, seval, h2, h3, h4, h5, h6, h7, h8, hlen, h47]
    refine condC_cut (fun env' σ' n' => ∃ (p' : Nat) (h' : Int) (e2 : Array Hit), n2 ≤ n' ∧ env' 0 = .ref id 0 N 2 ∧ env' 1 = .int .i64 (a' : Int) ∧ env' 2 = .int .i64 (b' : Int) ∧ env' 3 = .int .i64 ((lim1 : Nat) : Int) ∧ env' 4 = .fn 45 [] ∧
     env' 10 = .bool wb ∧ env' 11 = .bool wp ∧ env' 12 = .int .i64 ((b' - a' : Nat) : Int) ∧ env' 13 = .int .i64 (p' : Int) ∧ env' 14 = .int .i64 h' ∧ a' ≤ p' ∧ p' < b' ∧ σ' id = some (.row 2 (rw' e2)) ∧ PermIn a' b' e e2 ∧ (∀ i, i ≠ id → i < n → σ' i = σ i)) ?_ ?_ ?_
    ·intro hx
     have wb1 : IntKind.i64.wrap ((b' : Int) - 1) = ((b' - 1 : Nat) : Int) := by rw [wrap_i64] <;> omega
     have wpa : IntKind.i64.wrap ((p : Int) - (a' : Int)) = ((p - a' : Nat) : Int) := by rw [wrap_i64] <;> omega
     have wpp : IntKind.i64.wrap (((b' - 1 : Nat) : Int) - ((p - a' : Nat) : Int)) = ((b' - 1 - (p - a') : Nat) : Int) := by rw [wrap_i64] <;> omega
     simp +contextual -implicitDefEqProofs (maxSteps := 2000000) only [↓wP, wS, seval, h2, h3, h4, h5, h6, h7, h8, hlen]
     refine stepW_raw (by decide) (raw48N q7 a' b' id n2 σ1 (by omega) q2 hn h9 fun σ2 d2 g1 g2 => ?_)
     simp +contextual -implicitDefEqProofs (maxSteps := 2000000) only [↓wP, wS, seval, h2, h3, h4, h5, h6, h7, h8, hlen, wb1, wpa, wpp]
     refine ⟨b' - 1 - (p - a'), 1, d2, ?_⟩
     have : ∀ i, i ≠ id → i < n → σ2 i = σ i := fun i hi hin => by rw [g1.2 i hi, hf i hi hin]
     have := permIn_trans _ _ _ _ _ hpm g2
     have := g1.1
     repeat' (first | assumption | rfl | omega | apply And.intro)
    ·intro hx
     simp +contextual -implicitDefEqProofs (maxSteps := 2000000) only [↓wP, wS, seval, h2, h3, h4, h5, h6, h7, h8, hlen]
     refine ⟨p, hh, e1, ?_⟩
     repeat' (first | assumption | rfl | omega | apply And.intro)
    ·clear h2 h3 h4 h5 h6 h7 h8 hlen hpm hf h9 q1 q2 q3 q4 q5 q6 q7 q8 q9 h47
     intro env σ1 n3 ⟨p', h', e2, hn3, h2, h3, h4, h5, h6, h7, h8, hlen, h13, h14, hpa, hpb, h9, hpm, hf⟩
     obtain ⟨q1, q2, q3, q4, q5, q6, q7, q8, q9⟩ := hp.perm hpm
     simp +contextual -implicitDefEqProofs (maxSteps := 2000000) only [↓wP, wS, seval, h2, h3, h4, h5, h6, h7, h8, hlen, h13, h14]
     refine condC_cut (fun env' σ' n' => n' = n3 ∧ σ' = σ1 ∧ env' 0 = .ref id 0 N 2 ∧ env' 1 = .int .i64 (a' : Int) ∧ env' 2 = .int .i64 (b' : Int) ∧ env' 3 = .int .i64 ((lim1 : Nat) : Int) ∧ env' 4 = .fn 45 [] ∧
      env' 10 = .bool wb ∧ env' 11 = .bool wp ∧ env' 12 = .int .i64 ((b' - a' : Nat) : Int) ∧ env' 13 = .int .i64 (p' : Int)) ?_ ?_ ?_
     ·intro hx
      simp +contextual -implicitDefEqProofs (maxSteps := 2000000) only [↓wP, wS, seval, h2, h3, h4, h5, h6, h7, h8, hlen, h13, h14]
      refine stepW_raw (by decide) (raw49N q7 a' b' id n3 σ1 (by omega) q4 q2 hn h9 fun r hr => ?_)
      cases r
      ·simp +contextual -implicitDefEqProofs (maxSteps := 2000000) only [↓wP, wS, seval, h2, h3, h4, h5, h6, h7, h8, hlen, h13, h14]
      ·simp +contextual -implicitDefEqProofs (maxSteps := 2000000) only [↓wP, wS, seval, h2, h3, h4, h5, h6, h7, h8, hlen, h13, h14]
       have hR := q9 e2 (permIn_refl _ _ _) (hr rfl)
       exact hQ _ _ _ (by omega) h9 hf hR.1 hR.2
     ·intro hx
      simp +contextual -implicitDefEqProofs (maxSteps := 2000000) only [↓wP, wS, seval, h2, h3, h4, h5, h6, h7, h8, hlen, h13, h14]
     ·clear h2 h3 h4 h5 h6 h7 h8 hlen h13 h14
      intro env σ2 n4 ⟨hn4, hs4, h2, h3, h4, h5, h6, h7, h8, hlen, h13⟩
      subst hn4 hs4
      rw [seqQ_normal, WC_seq]
      refine WC_cut (fun env' σ' n' => n' = n4 ∧ σ' = σ2 ∧ env' 0 = .ref id 0 N 2 ∧ env' 1 = .int .i64 (a' : Int) ∧ env' 2 = .int .i64 (b' : Int) ∧ env' 3 = .int .i64 ((lim1 : Nat) : Int) ∧ env' 4 = .fn 45 [] ∧
       env' 10 = .bool wb ∧ env' 11 = .bool wp ∧ env' 12 = .int .i64 ((b' - a' : Nat) : Int) ∧ env' 13 = .int .i64 (p' : Int)) ?_ ?_
      ·by_cases ha0 : 0 < a'
       ·have ha0' : (0 : Int) < (a' : Int) := by omega
        have wa1 : IntKind.i64.wrap ((a' : Int) - 1) = ((a' - 1 : Nat) : Int) := by rw [wrap_i64] <;> omega
        have x1 := rw_at (d := e2) (i := a' - 1) (by omega)
        have x2 := rw_at (d := e2) (i := p') (by omega)
        have l1 : a' - 1 < N := by omega
        have l2 : p' < N := by omega
        by_cases hc : cmpH e2[a' - 1]! e2[p']! < 0
        ·simp +contextual -implicitDefEqProofs (maxSteps := 2000000) only [↓wP, wS, seval, h2, h3, h4, h5, h6, h7, h8, hlen, h13, ha0', wa1, h9, x1, x2, l1, l2, f45, hc]
        ·have hah : ahead e2[a' - 1]! e2[p']! = false := by rw [← cmp_lt]; simpa using hc
         simp +contextual -implicitDefEqProofs (maxSteps := 2000000) only [↓wP, wS, seval, h2, h3, h4, h5, h6, h7, h8, hlen, h13, ha0', wa1, h9, x1, x2, l1, l2, f45, hc]
         refine stepW_raw (by decide) (raw50N q7 a' b' p' id n4 σ2 hpa hpb q2 hn h9 fun σ5 hat => ?_)
         obtain ⟨r1, r2, r3, r4, r5⟩ := round_eq (lt := ahead) swoA (partitionEqual_holds ahead) (d3 := e2) (d4 := (partitionEqual ahead e2 a' b' p').2) (mid := (partitionEqual ahead e2 a' b' p').1) (a := a') (b := b') (pivot := p') ha0 hpa hpb (by omega) q8 hah rfl
         simp +contextual -implicitDefEqProofs (maxSteps := 2000000) only [↓wP, wS, seval, h2, h3, h4, h5, h6, h7, h8, hlen, h13]
         generalize (partitionEqual ahead e2 a' b' p').2 = e3 at *
         generalize (partitionEqual ahead e2 a' b' p').1 = mid at *
         have hfr : ∀ i, i ≠ id → i < n → σ5 i = σ i := fun i hi hin => by rw [hat.2 i hi, hf i hi hin]
         refine ⟨((mid, b'), lim1), by dsimp only; omega, by omega, rfl, rfl, rfl, ⟨_, rfl⟩, ⟨_, rfl⟩, hfr, e3, ⟨r2, q2, by dsimp only; omega, by dsimp only; omega, by dsimp only; omega, by dsimp only; omega, by rw [r3, q7], r4, fun R hR hs => ?_⟩, hat.1⟩
         obtain ⟨t1, t2⟩ := r5 R hR hs
         exact q9 R t1 t2
       ·have ha0' : ¬ (0 : Int) < (a' : Int) := by omega
        simp +contextual -implicitDefEqProofs (maxSteps := 2000000) only [↓wP, wS, seval, h2, h3, h4, h5, h6, h7, h8, hlen, h13, ha0']
      ·clear h2 h3 h4 h5 h6 h7 h8 hlen h13
       intro env σ3 n5 ⟨hn5, hs5, h2, h3, h4, h5, h6, h7, h8, hlen, h13⟩
       subst hn5 hs5
       simp +contextual -implicitDefEqProofs (maxSteps := 2000000) only [↓wP, wS, seval, h2, h3, h4, h5, h6, h7, h8, hlen, h13]
       refine stepW_raw (by decide) (raw51N q7 a' b' p' id n5 σ3 hpa hpb q2 hn h9 fun σ5 hat => ?_)
       obtain ⟨r1, r2, r3, r4, r5, r6, r7⟩ := round_part (lt := ahead) swoA (partition_holds ahead) (d3 := e2) (d4 := (partition ahead e2 a' b' p').2.2) (mid := (partition ahead e2 a' b' p').1) (ap := (partition ahead e2 a' b' p').2.1) (a := a') (b := b') (pivot := p') hpa hpb (by omega) q8 rfl
       generalize (partition ahead e2 a' b' p').2.2 = e3 at *
       generalize (partition ahead e2 a' b' p').1 = mid at *
       generalize (partition ahead e2 a' b' p').2.1 = ap at *
       have hfr : ∀ i, i ≠ id → i < n → σ5 i = σ i := fun i hi hin => by rw [hat.2 i hi, hf i hi hin]
       have wma : IntKind.i64.wrap ((mid : Int) - (a' : Int)) = ((mid - a' : Nat) : Int) := by rw [wrap_i64] <;> omega
       have wbm : IntKind.i64.wrap ((b' : Int) - (mid : Int)) = ((b' - mid : Nat) : Int) := by rw [wrap_i64] <;> omega
       have wm1 : IntKind.i64.wrap ((mid : Int) + 1) = ((mid + 1 : Nat) : Int) := by rw [wrap_i64] <;> omega
       have q8' := bin_quo8 (b' - a') (by omega)
       have hsz : e3.size = N := by rw [r3, q7]
       by_cases hlr : mid - a' < b' - mid
       ·have hlr' : ((mid - a' : Nat) : Int) < ((b' - mid : Nat) : Int) := by omega
        simp +contextual -implicitDefEqProofs (maxSteps := 2000000) only [↓wP, wS, seval, h2, h3, h4, h5, h6, h7, h8, hlen, h13, wma, wbm, wm1, q8', hlr']
        refine stepW_raw (by decide) (ih e3 a' mid lim1 id n5 N σ5 (by omega) r1 (by omega) (by omega) (by omega) hn (by omega) (by omega) hsz hat.1 r4 fun σ6 d6 n6 k1 k2 k3 k4 k5 => ?_)
        obtain ⟨t1, t2⟩ := r6 d6 k4 k5
        simp +contextual -implicitDefEqProofs (maxSteps := 2000000) only [↓wP, wS, seval, h2, h3, h4, h5, h6, h7, h8, hlen, h13, wm1]
        have hfr2 : ∀ i, i ≠ id → i < n → σ6 i = σ i := fun i hi hin => by rw [k3 i hi (by omega), hfr i hi hin]
        refine ⟨((mid + 1, b'), lim1), by dsimp only; omega, by omega, rfl, rfl, rfl, ⟨_, rfl⟩, ⟨_, rfl⟩, hfr2, d6, ⟨by dsimp only; omega, q2, by dsimp only; omega, by dsimp only; omega, by dsimp only; omega, by dsimp only; omega, by rw [k4.1, hsz], t1, fun R hR hs => ?_⟩, k2⟩
        obtain ⟨u1, u2⟩ := t2 R hR hs
        exact q9 R u1 u2
       ·have hlr' : ¬ ((mid - a' : Nat) : Int) < ((b' - mid : Nat) : Int) := by omega
        simp +contextual -implicitDefEqProofs (maxSteps := 2000000) only [↓wP, wS, seval, h2, h3, h4, h5, h6, h7, h8, hlen, h13, wma, wbm, wm1, q8', hlr']
        refine stepW_raw (by decide) (ih e3 (mid + 1) b' lim1 id n5 N σ5 (by omega) (by omega) (by omega) (by omega) q2 hn (by omega) (by omega) hsz hat.1 r5 fun σ6 d6 n6 k1 k2 k3 k4 k5 => ?_)
        obtain ⟨t1, t2⟩ := r7 d6 k4 k5
        simp +contextual -implicitDefEqProofs (maxSteps := 2000000) only [↓wP, wS, seval, h2, h3, h4, h5, h6, h7, h8, hlen, h13]
        have hfr2 : ∀ i, i ≠ id → i < n → σ6 i = σ i := fun i hi hin => by rw [k3 i hi (by omega), hfr i hi hin]
        refine ⟨((a', mid), lim1), by dsimp only; omega, by omega, rfl, rfl, rfl, ⟨_, rfl⟩, ⟨_, rfl⟩, hfr2, d6, ⟨by dsimp only; omega, by dsimp only; omega, by dsimp only; omega, by dsimp only; omega, by dsimp only; omega, by dsimp only; omega, by rw [k4.1, hsz], t1, fun R hR hs => ?_⟩, k2⟩
        obtain ⟨u1, u2⟩ := t2 R hR hs
        exact q9 R u1 u2
 ·simp +contextual -implicitDefEqProofs (maxSteps := 2000000) only [↓wP, wS, seval]
  exact ⟨⟨true, rfl⟩, ⟨true, rfl⟩, fun _ _ _ => trivial, d, ⟨hab, hb, by omega, h50, h12, hlim, hN, hB, fun R hR hs => ⟨hR, hs⟩⟩, hσ⟩
theorem raw91 : ∀ L : Nat, Sorts L
 | 0 => fun _ _ _ _ _ _ _ _ h => absurd h (by omega)
 | L + 1 => raw91_step L (raw91 L)
def chk92 (m : Nat) : Bool := match exJob T 60 (.pure 92 [.int .u64 (m : Int)]) with
 | some (.val (.int .i64 M)) => decide (0 ≤ M ∧ (m : Int) ≤ 12 + M ∧ M < 1000)
 | _ => false
theorem all92 : (List.range 18).all chk92 = true := by decide +kernel
theorem r92 (m : Nat) (h : m < 18) : ∃ M : Nat, m ≤ 12 + M ∧ M < 1000 ∧ res T 92 [.int .u64 (m : Int)] = some (.int .i64 (M : Int)) := by
 have h := List.all_eq_true.1 all92 m (List.mem_range.2 h)
 unfold chk92 at h
 split at h
 ·rename_i M hM
  simp only [decide_eq_true_eq] at h
  refine ⟨M.toNat, by omega, by omega, ?_⟩
  rw [show ((M.toNat : Nat) : Int) = M by omega]
  exact run_res (exJob_sound 60 _ _ hM)
 ·cases h
theorem raw64 (d : Array Hit) (id n : Nat) (σ : Sto) (hd : d.size < 18) (hid : id < n) (hσ : σ id = some (.row 2 (rw' d))) {Q : V → Sto → Nat → Prop}
 (hQ : ∀ σ' d' n', n ≤ n' → σ' id = some (.row 2 (rw' d')) → (∀ i, i ≠ id → i < n → σ' i = σ i) → PermIn 0 d.size d d' → SortedIn ahead 0 d.size d' → Q .undef σ' n') :
 run T (.raw 64 [.ref id 0 d.size 2, .fn 45 []] σ n 0) (memQ Q) := by
 refine run_rawE (fn := g64) rfl rfl ?_
 simp only [g64, b64, zO, zN, zM, zL, zG, zP, zQ, zI, zA, zT, zF, zB, zC, zD, zE, zH, zJ, zK]
 obtain ⟨M, h1, h2, h3⟩ := r92 d.size hd
 have f92 := callE_tr (fs := true) (by decide) h3 (by simp [Tr]) rfl
 have wu : IntKind.u64.wrap ((d.size : Nat) : Int) = ((d.size : Nat) : Int) := by rw [wrap_u64] <;> omega
 simp +contextual -implicitDefEqProofs (maxSteps := 2000000) only [↓wP, wS, seval, wu, f92]
 refine stepW_raw (by decide) (raw91 (d.size + 1) d 0 d.size M id n d.size σ (by omega) (by omega) (by omega) (by omega) (by omega) (by omega) h2 hid rfl hσ (.inl rfl) fun σ' d' n' k1 k2 k3 k4 k5 => ?_)
 simp +contextual -implicitDefEqProofs (maxSteps := 2000000) only [↓wP, wS, seval]
 exact hQ σ' d' n' k1 k2 k3 k4 k5
end Go.Q.SD
end

section
/- A heap of hits. -/
namespace Go.Q.SD
open Go.Q Go.Sort
open Nat renaming reduceEqDiff → n1w, reduceAdd → n2w, reduceSub → n3w, reduceLeDiff → n4w, reduceLT → n5w, reduceMul → n6w
open Int renaming reduceBNe → i1w, reduceBEq → i2w, reduceLT → i3w, reduceLE → i4w, reduceGT → i5w
theorem At.trans {σ σ1 σ2 : Sto} {id : Nat} {d1 d2 : Array Hit} (h : At σ1 σ id d1) (h' : At σ2 σ1 id d2) : At σ2 σ id d2 := ⟨h'.1, fun i hi => (h'.2 i hi).trans (h.2 i hi)⟩
theorem raw146 (d : Array Hit) (i j id n len : Nat) (σ : Sto) (hi : i < len) (hj : j < len) (hl : len ≤ d.size) (hσ : σ id = some (.row 2 (rw' d))) {Q : V → Sto → Nat → Prop}
 (hQ : ∀ σ', At σ' σ id (swp d i j) → Q .undef σ' n) : run T (.raw 146 [.ref id 0 len 2, .int .i64 (i : Int), .int .i64 (j : Int)] σ n 0) (memQ Q) := by
 refine run_rawE (fn := g146) rfl rfl ?_
 simp only [g146, b146, zO, zN, zM, zL, zG, zP, zQ, zI, zA, zT, zF, zB, zC, zD, zE, zH, zJ, zK]
 have x1 := rw_at (d := d) (i := i) (by omega)
 have x2 := rw_at (d := d) (i := j) (by omega)
 obtain ⟨u, v, x3⟩ := rw_set_at (d := d) (i := i) (j := j) (x := d[j]!) (by omega)
 have hat := (At.refl hσ).swp i j
 simp +contextual -implicitDefEqProofs (maxSteps := 2000000) only [↓wP, wS, seval, x1, x2, x3, hi, hj, hσ]
 exact hQ _ hat
theorem frz_pre {d : Array Hit} {len id : Nat} {σ : Sto} (hl : len ≤ d.size) (h : σ id = some (.row 2 (rw' d))) (k : Nat) : frz σ (k + 3) (.ref id 0 len 2) = some (.sl 2 ((rw' d).take len)) := by
 have e : elems σ 2 (.ref id 0 len 2) = some ((rw' d).take len) := by
  simp only [elems, h, List.drop_zero]
  rw [if_pos ⟨trivial, trivial, by rw [rw_len]; omega⟩]
 have hm : ((rw' d).take len).mapM (elemM (frz σ (k + 2))) = some ((rw' d).take len) := by
  refine mapM_id fun c hc => ?_
  have := List.mem_of_mem_take hc
  unfold rw' at this
  obtain ⟨y, -, rfl⟩ := List.mem_map.1 this
  rfl
 show (elems σ 2 (.ref id 0 len 2)).bind _ = _
 rw [e, Option.bind_some, hm]
 rfl
theorem r143 (L : List V) (i j : Nat) (a b : Hit) (ha : L[i]? = some (.agg [.int .u64 a.id, .int .u64 a.d])) (hb : L[j]? = some (.agg [.int .u64 b.id, .int .u64 b.d])) :
 res T 143 [.box [.sl 2 L], .int .i64 (i : Int), .int .i64 (j : Int)] = some (.bool (ahead b a)) := by
 refine run_res (run_pure (fn := g143) rfl rfl (by decide) ?_)
 simp only [g143, b143, zO, zN, zM, zL, zG, zP, zQ, zI, zA, zT, zF, zB, zC, zD, zE, zH, zJ, zK]
 simp +contextual -implicitDefEqProofs (maxSteps := 2000000) only [↓wP, wS, seval, ha, hb, f45]
 rw [← cmp_gt]
theorem f143 {d : Array Hit} {len id wid : Nat} {σ : Sto} (i j : Nat) (hl : len ≤ d.size) (hi : i < len) (hj : j < len) (hw : σ wid = some (.row 1 [.agg [.ref id 0 len 2]])) (h : σ id = some (.row 2 (rw' d))) (fs : Bool) (n lk : Nat) :
 callE T fs 143 [.ptr wid 1 0 0, .int .i64 (i : Int), .int .i64 (j : Int)] σ n lk = some (.bool (ahead d[j]! d[i]!), σ, n) := by
 rw [callE_eq (by decide)]
 have hp : frz σ 12 (.ptr wid 1 0 0) = some (.box [.sl 2 ((rw' d).take len)]) := by
  show (rowAt σ wid 1 0).bind _ = _
  simp only [rowAt, hw, if_true, List.getElem?_cons_zero, Option.bind_some, V.cells, List.drop_zero, List.mapM_cons, List.mapM_nil, frz_pre hl h 8]
  rfl
 have e : [V.ptr wid 1 0 0, .int .i64 (i : Int), .int .i64 (j : Int)].mapM (frz σ 12) = some [.box [.sl 2 ((rw' d).take len)], .int .i64 (i : Int), .int .i64 (j : Int)] := by
  simp only [List.mapM_cons, List.mapM_nil, hp, frz_int]
  rfl
 have x1 : ((rw' d).take len)[i]? = some (.agg [.int .u64 (d[i]!).id, .int .u64 (d[i]!).d]) := by rw [List.getElem?_take_of_lt hi, rw_at (by omega)]
 have x2 : ((rw' d).take len)[j]? = some (.agg [.int .u64 (d[j]!).id, .int .u64 (d[j]!).d]) := by rw [List.getElem?_take_of_lt hj, rw_at (by omega)]
 rw [e, callR_some, r143 _ i j d[i]! d[j]! x1 x2, retE_some, backE_flat rfl]
 rfl
theorem r118 (o : Option (List V)) : res T 118 [slV 2 _root_.id o] = some (.int .i64 ((lst o).length : Int)) := by
 refine run_res (run_pure (fn := g118) rfl rfl (by decide) ?_)
 simp only [g118, b118, zO, zN, zM, zL, zG, zP, zQ, zI, zA, zT, zF, zB, zC, zD, zE, zH, zJ, zK]
 simp +contextual -implicitDefEqProofs (maxSteps := 2000000) only [↓wP, wS, seval]
theorem f32r {d : Array Hit} {len id : Nat} {σ : Sto} (hl : len ≤ d.size) (h : σ id = some (.row 2 (rw' d))) (fs : Bool) (n lk : Nat) :
 callE T fs 118 [.ref id 0 len 2] σ n lk = some (.int .i64 (len : Int), σ, n) := by
 rw [callE_eq (by decide)]
 have e : [V.ref id 0 len 2].mapM (frz σ 12) = some [slV 2 _root_.id (some ((rw' d).take len))] := by
  simp only [List.mapM_cons, List.mapM_nil, frz_pre hl h 9, slV, List.map_id]
  rfl
 rw [e, callR_some, r118, retE_some, backE_flat rfl]
 simp only [lst_some, List.length_take, rw_len]
 rw [Nat.min_eq_left hl]
 rfl
theorem f118n (σ : Sto) (fs : Bool) (n lk : Nat) : callE T fs 118 [.nilS] σ n lk = some (.int .i64 0, σ, n) := by
 have := callE_tr (T := T) (f := 118) (args := [.nilS]) (by decide) (r118 none) rfl rfl fs σ n lk
 exact this
theorem bin_quo2 (m : Nat) (h : m < 9223372036854775808) : binV .quo (.int .i64 (m : Int)) (.int .i64 2) = some (.int .i64 ((m / 2 : Nat) : Int)) := by
 rw [bin_quo .i64 (m : Int) 2 (by decide)]
 have e : (m : Int).tdiv 2 = ((m / 2 : Nat) : Int) := rfl
 rw [e, wrap_nat (by omega)]
theorem bin_quo2n : binV .quo (.int .i64 (-1)) (.int .i64 2) = some (.int .i64 0) := by
 rw [bin_quo .i64 (-1) 2 (by decide)]
 rfl
theorem raw125 (d : Array Hit) (j wid id len n : Nat) (σ : Sto) (hj : j < len) (hl : len ≤ d.size) (hd : d.size < 1000000) (hw : σ wid = some (.row 1 [.agg [.ref id 0 len 2]])) (hσ : σ id = some (.row 2 (rw' d))) (hne : wid ≠ id)
 (hup : HpUp len j d) {Q : V → Sto → Nat → Prop} (hQ : ∀ σ' d', At σ' σ id d' → PermIn 0 len d d' → Hp len d' → Q .undef σ' n) :
 run T (.raw 125 [.iface 169 (.ptr wid 1 0 0), .int .i64 (j : Int)] σ n 0) (memQ Q) := by
 refine run_rawE (fn := g125) rfl rfl ?_
 simp only [g125, b125, zO, zN, zM, zL, zG, zP, zQ, zI, zA, zT, zF, zB, zC, zD, zE, zH, zJ, zK]
 simp +contextual -implicitDefEqProofs (maxSteps := 2000000) only [↓wP, wQ, wQ1, wQ2, wQ3, wR, boxE, partsOf, ↓reduceIte, n1w, n2w, n3w, n4w, n5w, n6w, reduceCtorEq, i1w, i2w, i3w, i4w, i5w]
 refine WC_loopI 0 (fun (s : Nat × Array Hit) env σ' n' => n' = n ∧ env 0 = .iface 169 (.ptr wid 1 0 0) ∧ env 1 = .int .i64 (s.1 : Int) ∧ s.1 < len ∧ s.2.size = d.size ∧ At σ' σ id s.2 ∧ PermIn 0 len d s.2 ∧ HpUp len s.1 s.2) (fun s => s.1) ?_ (j, d) _ _ _ ?_
 ·intro ⟨j', e⟩ env σ1 n1 ⟨h1, h2, h3, h4, h5, h6, h7, h8⟩
  subst h1
  dsimp only at h3 h4 h5 h6 h7 h8
  have hw1 : σ1 wid = some (.row 1 [.agg [.ref id 0 len 2]]) := by rw [h6.2 wid hne, hw]
  by_cases h0 : j' = 0
  ·subst h0
   have w0 : IntKind.i64.wrap (((0 : Nat) : Int) - 1) = -1 := by decide
   have w0' : IntKind.i64.wrap ((0 : Int) - 1) = -1 := by decide
   simp only [Int.natCast_zero] at h3
   simp +contextual -implicitDefEqProofs (maxSteps := 2000000) only [↓wP, wQ, wQ1, wQ2, wQ3, wR, boxE, partsOf, ↓reduceIte, n1w, n2w, n3w, n4w, n5w, n6w, reduceCtorEq, i1w, i2w, i3w, i4w, i5w, h2, h3, w0, w0', bin_quo2n]
   exact hQ _ e h6 h7 (h8.stop (.inl rfl))
  ·have w1 : IntKind.i64.wrap ((j' : Int) - 1) = ((j' - 1 : Nat) : Int) := by rw [wrap_i64] <;> omega
   have q2 := bin_quo2 (j' - 1) (by omega)
   have hne' : ((((j' - 1) / 2 : Nat) : Int) == (j' : Int)) = false := by simp; omega
   have c76 := fun fs n lk => f143 (d := e) (len := len) (σ := σ1) j' ((j' - 1) / 2) (by omega) h4 (by omega) hw1 h6.1 fs n lk
   cases hc : ahead e[(j' - 1) / 2]! e[j']!
   ·rw [hc] at c76
    simp +contextual -implicitDefEqProofs (maxSteps := 2000000) only [↓wP, wQ, wQ1, wQ2, wQ3, wR, boxE, partsOf, ↓reduceIte, n1w, n2w, n3w, n4w, n5w, n6w, reduceCtorEq, i1w, i2w, i3w, i4w, i5w, h2, h3, w1, q2, hne', c76]
    exact hQ _ e h6 h7 (h8.stop (.inr hc))
   ·rw [hc] at c76
    simp +contextual -implicitDefEqProofs (maxSteps := 2000000) only [↓wP, wQ, wQ1, wQ2, wQ3, wR, boxE, partsOf, ↓reduceIte, n1w, n2w, n3w, n4w, n5w, n6w, reduceCtorEq, i1w, i2w, i3w, i4w, i5w, h2, h3, w1, q2, hne', c76, hw1]
    refine stepW_raw (by decide) (raw146 e _ _ id n1 len σ1 (by omega) h4 (by omega) h6.1 fun σ2 hat => ?_)
    simp +contextual -implicitDefEqProofs (maxSteps := 2000000) only [↓wP, wQ, wQ1, wQ2, wQ3, wR, boxE, partsOf, ↓reduceIte, n1w, n2w, n3w, n4w, n5w, n6w, reduceCtorEq, i1w, i2w, i3w, i4w, i5w, h2, h3]
    exact ⟨((j' - 1) / 2, swp e ((j' - 1) / 2) j'), by dsimp only; omega, rfl, by dsimp only; omega, by rw [swp_size, h5], h6.trans hat,
     permIn_trans _ _ _ _ _ h7 (swp_permIn e 0 len _ _ (by omega) (by omega) (by omega) h4 (by omega)), h8.step (by omega) h4 (by omega) hc⟩
 ·simp +contextual -implicitDefEqProofs (maxSteps := 2000000) only [↓wP, wQ, wQ1, wQ2, wQ3, wR, boxE, partsOf, ↓reduceIte, n1w, n2w, n3w, n4w, n5w, n6w, reduceCtorEq, i1w, i2w, i3w, i4w, i5w]
  exact ⟨hj, At.refl hσ, permIn_refl _ _ _, hup⟩
theorem raw126 (d : Array Hit) (m wid id len n : Nat) (σ : Sto) (hm : m ≤ len) (hl : len ≤ d.size) (hd : d.size < 1000000) (hw : σ wid = some (.row 1 [.agg [.ref id 0 len 2]])) (hσ : σ id = some (.row 2 (rw' d))) (hne : wid ≠ id)
 (hdn : HpDn m 0 d) {Q : V → Sto → Nat → Prop} (hQ : ∀ r σ' d', At σ' σ id d' → PermIn 0 m d d' → Hp m d' → Q (.bool r) σ' n) :
 run T (.raw 126 [.iface 169 (.ptr wid 1 0 0), .int .i64 0, .int .i64 (m : Int)] σ n 0) (memQ Q) := by
 refine run_rawE (fn := g126) rfl rfl ?_
 simp only [g126, b126, zO, zN, zM, zL, zG, zP, zQ, zI, zA, zT, zF, zB, zC, zD, zE, zH, zJ, zK]
 simp +contextual -implicitDefEqProofs (maxSteps := 2000000) only [↓wP, wQ, wQ1, wQ2, wQ3, wR, boxE, partsOf, ↓reduceIte, n1w, n2w, n3w, n4w, n5w, n6w, reduceCtorEq, i1w, i2w, i3w, i4w, i5w]
 refine WC_loopI 0 (fun (s : Nat × Array Hit) env σ' n' => n' = n ∧ env 0 = .iface 169 (.ptr wid 1 0 0) ∧ env 1 = .int .i64 0 ∧ env 2 = .int .i64 (m : Int) ∧ env 7 = .int .i64 (s.1 : Int) ∧ (s.1 < m ∨ s.1 = 0) ∧ s.2.size = d.size ∧ At σ' σ id s.2 ∧ PermIn 0 m d s.2 ∧ HpDn m s.1 s.2) (fun s => m - s.1) ?_ (0, d) _ _ _ ?_
 ·intro ⟨i, e⟩ env σ1 n1 ⟨h1, h2, h3, h4, h5, h6, h7, h8, h9, h10⟩
  subst h1
  dsimp only at h5 h6 h7 h8 h9 h10
  have hw1 : σ1 wid = some (.row 1 [.agg [.ref id 0 len 2]]) := by rw [h8.2 wid hne, hw]
  have w1 : IntKind.i64.wrap (2 * (i : Int)) = ((2 * i : Nat) : Int) := by rw [wrap_i64] <;> omega
  have w2 : IntKind.i64.wrap (((2 * i : Nat) : Int) + 1) = ((2 * i + 1 : Nat) : Int) := by rw [wrap_i64] <;> omega
  by_cases hge : m ≤ 2 * i + 1
  ·have hge' : (m : Int) ≤ ((2 * i + 1 : Nat) : Int) := by omega
   simp +contextual -implicitDefEqProofs (maxSteps := 2000000) only [↓wP, wQ, wQ1, wQ2, wQ3, wR, boxE, partsOf, ↓reduceIte, n1w, n2w, n3w, n4w, n5w, n6w, reduceCtorEq, i1w, i2w, i3w, i4w, i5w, h2, h3, h4, h5, w1, w2, hge']
   exact hQ _ _ e h8 h9 (h10.stop fun c h0 hc hp => by omega)
  ·have hge' : ¬ (m : Int) ≤ ((2 * i + 1 : Nat) : Int) := by omega
   have hn0 : ¬ ((2 * i + 1 : Nat) : Int) < 0 := by omega
   have w3 : IntKind.i64.wrap (((2 * i + 1 : Nat) : Int) + 1) = ((2 * i + 2 : Nat) : Int) := by rw [wrap_i64] <;> omega
   by_cases h2m : 2 * i + 2 < m
   ·have h2m' : ((2 * i + 2 : Nat) : Int) < (m : Int) := by omega
    have c76 := fun fs n lk => f143 (d := e) (len := len) (σ := σ1) (2 * i + 2) (2 * i + 1) (by omega) (by omega) (by omega) hw1 h8.1 fs n lk
    cases hc : ahead e[2 * i + 1]! e[2 * i + 2]!
    ·rw [hc] at c76
     have hbest : ∀ c, 0 < c → c < m → (c - 1) / 2 = i → ahead e[2 * i + 1]! e[c]! = false := by
      intro c h0 hcm hp
      have : c = 2 * i + 1 ∨ c = 2 * i + 2 := by omega
      rcases this with rfl | rfl
      ·exact swoA.irrefl _
      ·exact hc
     have c76b := fun fs n lk => f143 (d := e) (len := len) (σ := σ1) (2 * i + 1) i (by omega) (by omega) (by omega) hw1 h8.1 fs n lk
     cases hcb : ahead e[i]! e[2 * i + 1]!
     ·rw [hcb] at c76b
      simp +contextual -implicitDefEqProofs (maxSteps := 2000000) only [↓wP, wQ, wQ1, wQ2, wQ3, wR, boxE, partsOf, ↓reduceIte, n1w, n2w, n3w, n4w, n5w, n6w, reduceCtorEq, i1w, i2w, i3w, i4w, i5w, h2, h3, h4, h5, w1, w2, w3, hge', hn0, h2m', c76, c76b]
      refine hQ _ _ e h8 h9 (h10.stop fun c h0 hcm hp => ?_)
      exact swoA.ntrans _ _ _ hcb (hbest c h0 hcm hp)
     ·rw [hcb] at c76b
      simp +contextual -implicitDefEqProofs (maxSteps := 2000000) only [↓wP, wQ, wQ1, wQ2, wQ3, wR, boxE, partsOf, ↓reduceIte, n1w, n2w, n3w, n4w, n5w, n6w, reduceCtorEq, i1w, i2w, i3w, i4w, i5w, h2, h3, h4, h5, w1, w2, w3, hge', hn0, h2m', c76, c76b, hw1]
      refine stepW_raw (by decide) (raw146 e _ _ id n1 len σ1 (by omega) (by omega) (by omega) h8.1 fun σ3 hat => ?_)
      simp +contextual -implicitDefEqProofs (maxSteps := 2000000) only [↓wP, wQ, wQ1, wQ2, wQ3, wR, boxE, partsOf, ↓reduceIte, n1w, n2w, n3w, n4w, n5w, n6w, reduceCtorEq, i1w, i2w, i3w, i4w, i5w, h2, h3, h4, h5]
      exact ⟨(2 * i + 1, swp e i (2 * i + 1)), by dsimp only; omega, rfl, by dsimp only; omega, by rw [swp_size, h7], h8.trans hat,
       permIn_trans _ _ _ _ _ h9 (swp_permIn e 0 m _ _ (by omega) (by omega) (by omega) (by omega) (by omega)), h10.step (by omega) (by omega) (by omega) (by omega) hcb hbest⟩
    ·rw [hc] at c76
     have hbest : ∀ c, 0 < c → c < m → (c - 1) / 2 = i → ahead e[2 * i + 2]! e[c]! = false := by
      intro c h0 hcm hp
      have : c = 2 * i + 1 ∨ c = 2 * i + 2 := by omega
      rcases this with rfl | rfl
      ·exact swoA.asymm hc
      ·exact swoA.irrefl _
     have c76b := fun fs n lk => f143 (d := e) (len := len) (σ := σ1) (2 * i + 2) i (by omega) (by omega) (by omega) hw1 h8.1 fs n lk
     cases hcb : ahead e[i]! e[2 * i + 2]!
     ·rw [hcb] at c76b
      simp +contextual -implicitDefEqProofs (maxSteps := 2000000) only [↓wP, wQ, wQ1, wQ2, wQ3, wR, boxE, partsOf, ↓reduceIte, n1w, n2w, n3w, n4w, n5w, n6w, reduceCtorEq, i1w, i2w, i3w, i4w, i5w, h2, h3, h4, h5, w1, w2, w3, hge', hn0, h2m', c76, c76b]
      refine hQ _ _ e h8 h9 (h10.stop fun c h0 hcm hp => ?_)
      exact swoA.ntrans _ _ _ hcb (hbest c h0 hcm hp)
     ·rw [hcb] at c76b
      simp +contextual -implicitDefEqProofs (maxSteps := 2000000) only [↓wP, wQ, wQ1, wQ2, wQ3, wR, boxE, partsOf, ↓reduceIte, n1w, n2w, n3w, n4w, n5w, n6w, reduceCtorEq, i1w, i2w, i3w, i4w, i5w, h2, h3, h4, h5, w1, w2, w3, hge', hn0, h2m', c76, c76b, hw1]
      refine stepW_raw (by decide) (raw146 e _ _ id n1 len σ1 (by omega) (by omega) (by omega) h8.1 fun σ3 hat => ?_)
      simp +contextual -implicitDefEqProofs (maxSteps := 2000000) only [↓wP, wQ, wQ1, wQ2, wQ3, wR, boxE, partsOf, ↓reduceIte, n1w, n2w, n3w, n4w, n5w, n6w, reduceCtorEq, i1w, i2w, i3w, i4w, i5w, h2, h3, h4, h5]
      exact ⟨(2 * i + 2, swp e i (2 * i + 2)), by dsimp only; omega, rfl, by dsimp only; omega, by rw [swp_size, h7], h8.trans hat,
       permIn_trans _ _ _ _ _ h9 (swp_permIn e 0 m _ _ (by omega) (by omega) (by omega) (by omega) (by omega)), h10.step (by omega) (by omega) (by omega) (by omega) hcb hbest⟩
   ·have h2m' : ¬ ((2 * i + 2 : Nat) : Int) < (m : Int) := by omega
    have hbest : ∀ c, 0 < c → c < m → (c - 1) / 2 = i → ahead e[2 * i + 1]! e[c]! = false := by
     intro c h0 hcm hp
     have : c = 2 * i + 1 := by omega
     subst this
     exact swoA.irrefl _
    have c76b := fun fs n lk => f143 (d := e) (len := len) (σ := σ1) (2 * i + 1) i (by omega) (by omega) (by omega) hw1 h8.1 fs n lk
    cases hcb : ahead e[i]! e[2 * i + 1]!
    ·rw [hcb] at c76b
     simp +contextual -implicitDefEqProofs (maxSteps := 2000000) only [↓wP, wQ, wQ1, wQ2, wQ3, wR, boxE, partsOf, ↓reduceIte, n1w, n2w, n3w, n4w, n5w, n6w, reduceCtorEq, i1w, i2w, i3w, i4w, i5w, h2, h3, h4, h5, w1, w2, w3, hge', hn0, h2m', c76b]
     refine hQ _ _ e h8 h9 (h10.stop fun c h0 hcm hp => ?_)
     exact swoA.ntrans _ _ _ hcb (hbest c h0 hcm hp)
    ·rw [hcb] at c76b
     simp +contextual -implicitDefEqProofs (maxSteps := 2000000) only [↓wP, wQ, wQ1, wQ2, wQ3, wR, boxE, partsOf, ↓reduceIte, n1w, n2w, n3w, n4w, n5w, n6w, reduceCtorEq, i1w, i2w, i3w, i4w, i5w, h2, h3, h4, h5, w1, w2, w3, hge', hn0, h2m', c76b, hw1]
     refine stepW_raw (by decide) (raw146 e _ _ id n1 len σ1 (by omega) (by omega) (by omega) h8.1 fun σ3 hat => ?_)
     simp +contextual -implicitDefEqProofs (maxSteps := 2000000) only [↓wP, wQ, wQ1, wQ2, wQ3, wR, boxE, partsOf, ↓reduceIte, n1w, n2w, n3w, n4w, n5w, n6w, reduceCtorEq, i1w, i2w, i3w, i4w, i5w, h2, h3, h4, h5]
     exact ⟨(2 * i + 1, swp e i (2 * i + 1)), by dsimp only; omega, rfl, by dsimp only; omega, by rw [swp_size, h7], h8.trans hat,
      permIn_trans _ _ _ _ _ h9 (swp_permIn e 0 m _ _ (by omega) (by omega) (by omega) (by omega) (by omega)), h10.step (by omega) (by omega) (by omega) (by omega) hcb hbest⟩
 ·simp +contextual -implicitDefEqProofs (maxSteps := 2000000) only [↓wP, wQ, wQ1, wQ2, wQ3, wR, boxE, partsOf, ↓reduceIte, n1w, n2w, n3w, n4w, n5w, n6w, reduceCtorEq, i1w, i2w, i3w, i4w, i5w]
  exact ⟨rfl, .inr trivial, At.refl hσ, permIn_refl _ _ _, hdn⟩
end Go.Q.SD
end

section
/- Hits are pushed and popped. -/
namespace Go.Q.SD
open Go.Q Go.Sort
def pre (d : Array Hit) (len : Nat) (h : Hit) : Array Hit := (d.toList.take len ++ [h]).toArray
theorem rw_pre (d : Array Hit) (len : Nat) (h : Hit) : rw' (pre d len h) = (rw' d).take len ++ [.agg [.int .u64 h.id, .int .u64 h.d]] := by
 simp [rw', pre, List.map_append, List.map_take, hitV]
theorem raw145 (d : Array Hit) (a b : Int) (wid id len n : Nat) (σ : Sto) (hl : len ≤ d.size) (hd : d.size < 1000000) (hw : σ wid = some (.row 1 [.agg [.ref id 0 len 2]])) (hwn : wid < n) (hidn : id < n) (hne : wid ≠ id) (hσ : σ id = some (.row 2 (rw' d)))
 {Q : V → Sto → Nat → Prop} (hQ : ∀ σ' n' id', n < n' → n ≤ id' → id' < n' → σ' wid = some (.row 1 [.agg [.ref id' 0 (len + 1) 2]]) → σ' id' = some (.row 2 (rw' (pre d len ⟨a, b⟩))) → (∀ i, i ≠ wid → i ≠ id → i < n → σ' i = σ i) → Q .undef σ' n') :
 run T (.raw 145 [.ptr wid 1 0 0, .iface 57 (.agg [.int .u64 a, .int .u64 b])] σ n 0) (memQ Q) := by
 refine run_rawE (fn := g145) rfl rfl ?_
 simp only [g145, b145, zO, zN, zM, zL, zG, zP, zQ, zI, zA, zT, zF, zB, zC, zD, zE, zH, zJ, zK]
 have hB := big_le
 have e1 : (wid = n) = False := by simp; omega
 have e2 : (id = n) = False := by simp; omega
 have x1 : ∀ σ : Sto, hide σ (n + 1) (n + 1) [0] wid = σ wid := fun σ => hide_low σ (n + 1) (n + 1) _ (by omega) (Nat.le_refl _)
 have x2 : ∀ σ σ' : Sto, merge σ σ' (n + 1) wid = σ wid := fun σ σ' => merge_low σ σ' (n + 1) (by omega)
 have x3 : ∀ σ σ' : Sto, merge σ σ' (n + 1) id = σ id := fun σ σ' => merge_low σ σ' (n + 1) (by omega)
 have x4 : ∀ σ σ' : Sto, merge σ σ' (n + 1) (n + 1) = σ' (n + 1) := fun σ σ' => merge_in σ σ' (n + 1) (Nat.le_refl _) (by omega)
 have y1 : (n + 1 + 1 ≤ n + 1 + BIG) = True := by simp; omega
 have y2 : (n + (1 + (BIG + 1)) ≤ n + (1 + (BIG + BIG))) = True := by simp; omega
 have y3 : (n + (1 + 1) ≤ n + (1 + BIG)) = True := by simp; omega
 have z1 : (len = (rw' d).length ∨ len < (rw' d).length) = True := by rw [rw_len]; simp; omega
 have z2 : ((len + 1) * 16 ≤ LIM) = True := by unfold LIM; simp; omega
 have z3 : (if len = (rw' d).length then rw' d else (rw' d).take len) = (rw' d).take len := by
  split
  ·rename_i h; rw [h, List.take_length]
  ·rfl
 have v1 : (wid = n + (1 + BIG)) = False := by simp; omega
 simp +contextual -implicitDefEqProofs (maxSteps := 2000000) only [↓wP, wS, seval, hw, e1, e2, x1, x2, x3, x4, y1, y2, y3, z1, z2, z3, hσ, Nat.mul_one, v1, hne]
 refine hQ _ _ (n + (1 + BIG)) ?_ ?_ ?_ (by simp [upd]) ?_ ?_
 ·omega
 ·omega
 ·omega
 ·rw [rw_pre]
  have v2 : ¬ n + (1 + BIG) = wid := by omega
  simp [v2, upd]
 ·intro i h1 h2 h3
  have v2 : ¬ i = n + (1 + BIG) := by omega
  have v3 : ¬ i = n := by omega
  have v4 := merge_low (upd (upd σ n (some (Ob.row 2 [V.agg [V.int IntKind.u64 0, V.int IntKind.u64 0]]))) n (some (Ob.row 2 [V.agg [V.int IntKind.u64 a, V.int IntKind.u64 b]])))
   (upd (upd (upd σ n (some (Ob.row 2 [V.agg [V.int IntKind.u64 0, V.int IntKind.u64 0]]))) n (some (Ob.row 2 [V.agg [V.int IntKind.u64 a, V.int IntKind.u64 b]]))) (n + 1) (some (Ob.row 2 [V.agg [V.int IntKind.u64 a, V.int IntKind.u64 b]]))) (n + 1) (i := i) (by omega)
  simp only [upd, h1, h2, v2, v3, if_false] at v4 ⊢
  exact v4
theorem raw145n (a b : Int) (wid n : Nat) (σ : Sto) (hw : σ wid = some (.row 1 [.agg [.nilS]])) (hwn : wid < n)
 {Q : V → Sto → Nat → Prop} (hQ : ∀ σ' n' id', n < n' → n ≤ id' → id' < n' → σ' wid = some (.row 1 [.agg [.ref id' 0 (0 + 1) 2]]) → σ' id' = some (.row 2 (rw' (pre #[] 0 ⟨a, b⟩))) → (∀ i, i ≠ wid → i < n → σ' i = σ i) → Q .undef σ' n') :
 run T (.raw 145 [.ptr wid 1 0 0, .iface 57 (.agg [.int .u64 a, .int .u64 b])] σ n 0) (memQ Q) := by
 refine run_rawE (fn := g145) rfl rfl ?_
 simp only [g145, b145, zO, zN, zM, zL, zG, zP, zQ, zI, zA, zT, zF, zB, zC, zD, zE, zH, zJ, zK]
 have hB := big_le
 have e1 : (wid = n) = False := by simp; omega
 have x1 : ∀ σ : Sto, hide σ (n + 1) (n + 1) [0] wid = σ wid := fun σ => hide_low σ (n + 1) (n + 1) _ (by omega) (Nat.le_refl _)
 have x2 : ∀ σ σ' : Sto, merge σ σ' (n + 1) wid = σ wid := fun σ σ' => merge_low σ σ' (n + 1) (by omega)
 have x4 : ∀ σ σ' : Sto, merge σ σ' (n + 1) (n + 1) = σ' (n + 1) := fun σ σ' => merge_in σ σ' (n + 1) (Nat.le_refl _) (by omega)
 have y1 : (n + 1 + 1 ≤ n + 1 + BIG) = True := by simp; omega
 have y2 : (n + (1 + (BIG + 1)) ≤ n + (1 + (BIG + BIG))) = True := by simp; omega
 have y3 : (n + (1 + 1) ≤ n + (1 + BIG)) = True := by simp; omega
 have z2 : (1 * 16 ≤ LIM) = True := by unfold LIM; simp
 have z2' : (16 ≤ LIM) = True := by unfold LIM; simp
 have v1 : (wid = n + (1 + BIG)) = False := by simp; omega
 simp +contextual -implicitDefEqProofs (maxSteps := 2000000) only [↓wP, wS, seval, hw, e1, x1, x2, x4, y1, y2, y3, z2, z2', Nat.mul_one, v1, appendE_nil, List.isEmpty_cons]
 refine hQ _ _ (n + (1 + BIG)) ?_ ?_ ?_ (by simp [upd]) ?_ ?_
 ·omega
 ·omega
 ·omega
 ·rw [rw_pre]
  have v2 : ¬ n + (1 + BIG) = wid := by omega
  simp [v2, upd]
 ·intro i h1 h3
  have v2 : ¬ i = n + (1 + BIG) := by omega
  have v3 : ¬ i = n := by omega
  have v4 := merge_low (upd (upd σ n (some (Ob.row 2 [V.agg [V.int IntKind.u64 0, V.int IntKind.u64 0]]))) n (some (Ob.row 2 [V.agg [V.int IntKind.u64 a, V.int IntKind.u64 b]])))
   (upd (upd (upd σ n (some (Ob.row 2 [V.agg [V.int IntKind.u64 0, V.int IntKind.u64 0]]))) n (some (Ob.row 2 [V.agg [V.int IntKind.u64 a, V.int IntKind.u64 b]]))) (n + 1) (some (Ob.row 2 [V.agg [V.int IntKind.u64 a, V.int IntKind.u64 b]]))) (n + 1) (i := i) (by omega)
  simp only [upd, h1, v2, v3, if_false] at v4 ⊢
  exact v4
theorem pre_size {d : Array Hit} {len : Nat} (hl : len ≤ d.size) (h : Hit) : (pre d len h).size = len + 1 := by simp [pre]; omega
theorem pre_get {d : Array Hit} {len i : Nat} (hl : len ≤ d.size) (hi : i < len) (h : Hit) : (pre d len h)[i]! = d[i]! := by
 have h1 : i < (pre d len h).size := by rw [pre_size hl]; omega
 have h2 : i < d.size := by omega
 rw [getElem!_pos (pre d len h) i h1, getElem!_pos d i h2]
 simp only [pre, List.getElem_toArray]
 rw [List.getElem_append_left (by simp; omega), List.getElem_take]
 simp
theorem pre_up {d : Array Hit} {len : Nat} (hl : len ≤ d.size) (h : Hit) (hp : Hp len d) : HpUp (len + 1) len (pre d len h) := by
 refine ⟨fun i h0 hi hne => ?_, fun i h0 hi hp h0' => by omega⟩
 rw [pre_get hl (by omega), pre_get hl (by omega)]
 exact hp i h0 (by omega)
theorem ext0 (d : Array Hit) (len : Nat) : (d.extract 0 len).toList = d.toList.take len := by simp
theorem perm_all {d d' : Array Hit} {n : Nat} (hn : d.size = n) (h : PermIn 0 n d d') : d'.toList.Perm d.toList := by
 have := h.2.2
 rw [ext0, ext0, List.take_of_length_le (by rw [Array.length_toList, h.1]; omega), List.take_of_length_le (by rw [Array.length_toList]; omega)] at this
 exact this
theorem raw120 (d : Array Hit) (a b : Int) (wid id len n : Nat) (σ : Sto) (hl : len ≤ d.size) (hd : d.size < 900000) (hw : σ wid = some (.row 1 [.agg [.ref id 0 len 2]])) (hwn : wid < n) (hidn : id < n) (hne : wid ≠ id) (hσ : σ id = some (.row 2 (rw' d)))
 (hhp : Hp len d) {Q : V → Sto → Nat → Prop} (hQ : ∀ σ' n' id' d', n < n' → n ≤ id' → id' < n' → σ' wid = some (.row 1 [.agg [.ref id' 0 (len + 1) 2]]) → σ' id' = some (.row 2 (rw' d')) → d'.size = len + 1 → Hp (len + 1) d' →
  d'.toList.Perm (d.toList.take len ++ [⟨a, b⟩]) → (∀ i, i ≠ wid → i ≠ id → i < n → σ' i = σ i) → Q .undef σ' n') :
 run T (.raw 120 [.iface 169 (.ptr wid 1 0 0), .iface 57 (.agg [.int .u64 a, .int .u64 b])] σ n 0) (memQ Q) := by
 refine run_rawE (fn := g120) rfl rfl ?_
 simp only [g120, b120, zO, zN, zM, zL, zG, zP, zQ, zI, zA, zT, zF, zB, zC, zD, zE, zH, zJ, zK]
 simp +contextual -implicitDefEqProofs (maxSteps := 2000000) only [↓wP, wS, seval]
 refine stepW_raw (by decide) (raw145 d a b wid id len n σ hl (by omega) hw hwn hidn hne hσ fun σ1 n1 id1 h1 h2 h3 h4 h5 h6 => ?_)
 have hps := pre_size hl ⟨a, b⟩
 have f118 := fun fs n lk => f32r (d := pre d len ⟨a, b⟩) (len := len + 1) (id := id1) (σ := σ1) (by omega) h5 fs n lk
 have w1 : IntKind.i64.wrap (((len + 1 : Nat) : Int) - 1) = (len : Int) := by rw [wrap_i64] <;> omega
 simp +contextual -implicitDefEqProofs (maxSteps := 2000000) only [↓wP, wS, seval, h4, f118, w1]
 refine stepW_raw (by decide) (raw125 (pre d len ⟨a, b⟩) len wid id1 (len + 1) n1 σ1 (by omega) (by omega) (by omega) h4 h5 (by omega) (pre_up hl _ hhp) fun σ2 d2 hat hpm hp2 => ?_)
 simp +contextual -implicitDefEqProofs (maxSteps := 2000000) only [↓wP, wS, seval]
 refine hQ _ _ id1 d2 (by omega) h2 (by omega) (by rw [hat.2 wid (by omega), h4]) hat.1 (by rw [hpm.1, hps]) hp2 ?_ (fun i hi hi' hin => by rw [hat.2 i (by omega), h6 i hi hi' hin])
 have := perm_all hps hpm
 simpa [pre] using this
theorem raw120n (a b : Int) (wid n : Nat) (σ : Sto) (hw : σ wid = some (.row 1 [.agg [.nilS]])) (hwn : wid < n)
 {Q : V → Sto → Nat → Prop} (hQ : ∀ σ' n' id' d', n < n' → n ≤ id' → id' < n' → σ' wid = some (.row 1 [.agg [.ref id' 0 1 2]]) → σ' id' = some (.row 2 (rw' d')) → d'.size = 1 → Hp 1 d' →
  d'.toList.Perm [⟨a, b⟩] → (∀ i, i ≠ wid → i < n → σ' i = σ i) → Q .undef σ' n') :
 run T (.raw 120 [.iface 169 (.ptr wid 1 0 0), .iface 57 (.agg [.int .u64 a, .int .u64 b])] σ n 0) (memQ Q) := by
 refine run_rawE (fn := g120) rfl rfl ?_
 simp only [g120, b120, zO, zN, zM, zL, zG, zP, zQ, zI, zA, zT, zF, zB, zC, zD, zE, zH, zJ, zK]
 simp +contextual -implicitDefEqProofs (maxSteps := 2000000) only [↓wP, wS, seval]
 refine stepW_raw (by decide) (raw145n a b wid n σ hw hwn fun σ1 n1 id1 h1 h2 h3 h4 h5 h6 => ?_)
 simp only [Nat.zero_add] at h4
 have hps := pre_size (d := #[]) (len := 0) (by simp) ⟨a, b⟩
 have f118 := fun fs n lk => f32r (d := pre #[] 0 ⟨a, b⟩) (len := 1) (id := id1) (σ := σ1) (by omega) h5 fs n lk
 simp only [Int.natCast_one] at f118
 have w1 : IntKind.i64.wrap ((1 : Int) - 1) = ((0 : Nat) : Int) := by decide
 simp +contextual -implicitDefEqProofs (maxSteps := 2000000) only [↓wP, wS, seval, h4, f118, w1]
 refine stepW_raw (by decide) (raw125 (pre #[] 0 ⟨a, b⟩) 0 wid id1 1 n1 σ1 (by omega) (by omega) (by omega) h4 h5 (by omega) (pre_up (by simp) _ (fun i h0 hi => by omega)) fun σ2 d2 hat hpm hp2 => ?_)
 simp +contextual -implicitDefEqProofs (maxSteps := 2000000) only [↓wP, wS, seval]
 refine hQ _ _ id1 d2 (by omega) h2 (by omega) (by rw [hat.2 wid (by omega), h4]) hat.1 (by rw [hpm.1, hps]) hp2 ?_ (fun i hi hin => by rw [hat.2 i (by omega), h6 i hi hin])
 have := perm_all hps hpm
 simpa [pre] using this
theorem raw144 (d : Array Hit) (wid id len n : Nat) (σ : Sto) (h0 : 0 < len) (hl : len ≤ d.size) (hd : d.size < 1000000) (hw : σ wid = some (.row 1 [.agg [.ref id 0 len 2]])) (hwn : wid < n) (hidn : id < n) (hne : wid ≠ id) (hσ : σ id = some (.row 2 (rw' d)))
 {Q : V → Sto → Nat → Prop} (hQ : ∀ v σ' n', n ≤ n' → σ' wid = some (.row 1 [.agg [.ref id 0 (len - 1) 2]]) → (∀ i, i ≠ wid → i < n → σ' i = σ i) → Q v σ' n') :
 run T (.raw 144 [.ptr wid 1 0 0] σ n 0) (memQ Q) := by
 refine run_rawE (fn := g144) rfl rfl ?_
 simp only [g144, b144, zO, zN, zM, zL, zG, zP, zQ, zI, zA, zT, zF, zB, zC, zD, zE, zH, zJ, zK]
 have e1 : (wid = n) = False := by simp; omega
 have e2 : (id = n) = False := by simp; omega
 have e4 : (n = wid) = False := by simp; omega
 have w1 : IntKind.i64.wrap ((len : Int) - 1) = ((len - 1 : Nat) : Int) := by rw [wrap_i64] <;> omega
 have x1 := rw_at (d := d) (i := len - 1) (by omega)
 have l1 : len - 1 < len := by omega
 have l2 : len - 1 ≤ len := by omega
 simp +contextual -implicitDefEqProofs (maxSteps := 2000000) only [↓wP, wS, seval, hw, hσ, e1, e2, e4, Nat.sub_zero, w1, x1, l1, l2]
 refine hQ _ _ _ ?_ ?_ (fun i hi hin => ?_)
 ·omega
 ·simp [upd]
 have e3 : i ≠ n := by omega
 simp [upd, hi, e3]
theorem raw121 (d : Array Hit) (wid id len n : Nat) (σ : Sto) (h0 : 0 < len) (hl : len ≤ d.size) (hd : d.size < 900000) (hw : σ wid = some (.row 1 [.agg [.ref id 0 len 2]])) (hwn : wid < n) (hidn : id < n) (hne : wid ≠ id) (hσ : σ id = some (.row 2 (rw' d)))
 (hhp : Hp len d) {Q : V → Sto → Nat → Prop} (hQ : ∀ v σ' n' d', n ≤ n' → σ' wid = some (.row 1 [.agg [.ref id 0 (len - 1) 2]]) → σ' id = some (.row 2 (rw' d')) → d'.size = d.size → Hp (len - 1) d' →
  (d.toList.take len).Perm (d'.toList.take (len - 1) ++ [d[0]!]) → (∀ i, i ≠ wid → i ≠ id → i < n → σ' i = σ i) → Q v σ' n') :
 run T (.raw 121 [.iface 169 (.ptr wid 1 0 0)] σ n 0) (memQ Q) := by
 refine run_rawE (fn := g121) rfl rfl ?_
 simp only [g121, b121, zO, zN, zM, zL, zG, zP, zQ, zI, zA, zT, zF, zB, zC, zD, zE, zH, zJ, zK]
 have f118 := fun fs n lk => f32r (d := d) (len := len) (id := id) (σ := σ) hl hσ fs n lk
 have w1 : IntKind.i64.wrap ((len : Int) - 1) = ((len - 1 : Nat) : Int) := by rw [wrap_i64] <;> omega
 simp +contextual -implicitDefEqProofs (maxSteps := 2000000) only [↓wP, wS, seval, hw, f118, w1]
 refine stepW_raw (by decide) (raw146 d 0 (len - 1) id n len σ (by omega) (by omega) hl hσ fun σ1 hat => ?_)
 have hw1 : σ1 wid = some (.row 1 [.agg [.ref id 0 len 2]]) := by rw [hat.2 wid hne, hw]
 have hs1 : (swp d 0 (len - 1)).size = d.size := swp_size _ _ _
 have hdn : HpDn (len - 1) 0 (swp d 0 (len - 1)) := by
  refine ⟨fun c c0 hc hp => ?_, fun c _ _ _ h => by omega⟩
  rw [swp_other _ _ _ _ (by omega) (by omega), swp_other _ _ _ _ (by omega) (by omega)]
  exact hhp c c0 (by omega)
 simp +contextual -implicitDefEqProofs (maxSteps := 2000000) only [↓wP, wS, seval]
 refine stepW_raw (by decide) (raw126 (swp d 0 (len - 1)) (len - 1) wid id len n σ1 (by omega) (by omega) (by omega) hw1 hat.1 hne hdn fun r σ2 d2 hat2 hpm hp2 => ?_)
 have hw2 : σ2 wid = some (.row 1 [.agg [.ref id 0 len 2]]) := by rw [hat2.2 wid hne, hw1]
 simp +contextual -implicitDefEqProofs (maxSteps := 2000000) only [↓wP, wS, seval]
 refine stepW_raw (by decide) (raw144 d2 wid id len n σ2 h0 (by rw [hpm.1]; omega) (by rw [hpm.1]; omega) hw2 hwn hidn hne hat2.1 fun v σ3 n3 k1 k2 k3 => ?_)
 simp +contextual -implicitDefEqProofs (maxSteps := 2000000) only [↓wP, wS, seval]
 refine hQ _ _ _ d2 k1 k2 (by rw [k3 id (by omega) hidn]; exact hat2.1) (by rw [hpm.1, hs1]) hp2 ?_ (fun i hi hi' hin => by rw [k3 i hi hin, hat2.2 i hi', hat.2 i hi'])
 have p1 := (swp_permIn d 0 len 0 (len - 1) (by omega) (by omega) (by omega) (by omega) hl).2.2
 have p2 := hpm.2.2
 rw [ext0, ext0] at p1 p2
 refine p1.symm.trans ?_
 have e : (swp d 0 (len - 1)).toList.take len = (swp d 0 (len - 1)).toList.take (len - 1) ++ [d[0]!] := by
  have hx : (swp d 0 (len - 1))[len - 1]! = d[0]! := swp_right _ _ _ (by omega)
  have hlt : len - 1 < (swp d 0 (len - 1)).toList.length := by rw [Array.length_toList]; omega
  generalize hg : swp d 0 (len - 1) = g at *
  obtain ⟨m, rfl⟩ : ∃ m, len = m + 1 := ⟨len - 1, by omega⟩
  simp only [Nat.add_sub_cancel] at *
  rw [List.take_add_one, List.getElem?_eq_getElem hlt]
  simp only [Option.toList_some]
  rw [getElem!_pos g m (by rw [Array.length_toList] at hlt; exact hlt)] at hx
  rw [← hx]
  simp
 rw [e]
 exact p2.symm.append_right _
end Go.Q.SD
end

section
/- The first hits of rows. -/
namespace Go.Q.SD
open Go.Q Go.Sort
theorem f118s (L : List V) (fs : Bool) (σ : Sto) (n lk : Nat) : callE T fs 118 [.sl 2 L] σ n lk = some (.int .i64 (L.length : Int), σ, n) := by
 have h := r118 (some L)
 simp only [slV, List.map_id, lst_some] at h
 exact callE_tr (by decide) h rfl rfl fs σ n lk
theorem r117n (a b : Int) (k : Nat) (hk : 0 < k) : res T 117 [.agg [.int .u64 a, .int .u64 b], .box [.box [.nilS]], .box [.int .i64 (k : Int)]] = some (.bool true) := by
 refine run_res (run_pure (fn := g117) rfl rfl (by decide) ?_)
 simp only [g117, b117, zO, zN, zM, zL, zG, zP, zQ, zI, zA, zT, zF, zB, zC, zD, zE, zH, zJ, zK]
 have h : (0 : Int) < (k : Int) := by omega
 simp +contextual -implicitDefEqProofs (maxSteps := 2000000) only [↓wP, wS, seval, f118n, h]
theorem r117 (a b : Int) (L : List V) (k : Nat) (m : Hit) (hr : ¬ L.length < k → L[0]? = some (.agg [.int .u64 m.id, .int .u64 m.d])) :
 res T 117 [.agg [.int .u64 a, .int .u64 b], .box [.box [.sl 2 L]], .box [.int .i64 (k : Int)]] = some (.bool (decide (L.length < k) || ahead ⟨a, b⟩ m)) := by
 refine run_res (run_pure (fn := g117) rfl rfl (by decide) ?_)
 simp only [g117, b117, zO, zN, zM, zL, zG, zP, zQ, zI, zA, zT, zF, zB, zC, zD, zE, zH, zJ, zK]
 by_cases h : L.length < k
 ·have h' : (L.length : Int) < (k : Int) := by omega
  simp +contextual -implicitDefEqProofs (maxSteps := 2000000) only [↓wP, wS, seval, f118s, h, h']
 ·have h' : ¬ (L.length : Int) < (k : Int) := by omega
  have hr := hr h
  simp +contextual -implicitDefEqProofs (maxSteps := 2000000) only [↓wP, wS, seval, f118s, h, h', hr, f45]
  rw [← cmp_lt]
theorem f117n {wv kid wid : Nat} {σ : Sto} (a b : Int) (k : Nat) (hk : 0 < k) (h1 : σ wv = some (.row 1 [.ptr wid 1 0 0])) (h2 : σ kid = some (.row 1 [.int .i64 (k : Int)])) (h3 : σ wid = some (.row 1 [.agg [.nilS]])) (fs : Bool) (n lk : Nat) :
 callE T fs 117 [.agg [.int .u64 a, .int .u64 b], .ptr wv 1 0 0, .ptr kid 1 0 0] σ n lk = some (.bool true, σ, n) := by
 rw [callE_eq (by decide)]
 have hp : frz σ 12 (.ptr wv 1 0 0) = some (.box [.box [.nilS]]) := by
  simp [frz, rowAt, h1, h3, V.cells]
 have hq : frz σ 12 (.ptr kid 1 0 0) = some (.box [.int .i64 (k : Int)]) := by
  simp [frz, rowAt, h2, V.cells]
 have e : [V.agg [.int .u64 a, .int .u64 b], .ptr wv 1 0 0, .ptr kid 1 0 0].mapM (frz σ 12) = some [V.agg [.int .u64 a, .int .u64 b], .box [.box [.nilS]], .box [.int .i64 (k : Int)]] := by
  simp only [List.mapM_cons, List.mapM_nil, hp, hq]
  rfl
 rw [e, callR_some, r117n a b k hk, retE_some, backE_flat rfl]
 rfl
theorem f117 {wv kid wid id len : Nat} {d : Array Hit} {σ : Sto} (a b : Int) (k : Nat) (h1 : σ wv = some (.row 1 [.ptr wid 1 0 0])) (h2 : σ kid = some (.row 1 [.int .i64 (k : Int)])) (h3 : σ wid = some (.row 1 [.agg [.ref id 0 len 2]]))
 (h4 : σ id = some (.row 2 (rw' d))) (hl : len ≤ d.size) (h0 : 0 < len) (fs : Bool) (n lk : Nat) :
 callE T fs 117 [.agg [.int .u64 a, .int .u64 b], .ptr wv 1 0 0, .ptr kid 1 0 0] σ n lk = some (.bool (decide (len < k) || ahead ⟨a, b⟩ d[0]!), σ, n) := by
 rw [callE_eq (by decide)]
 have hp : frz σ 12 (.ptr wv 1 0 0) = some (.box [.box [.sl 2 ((rw' d).take len)]]) := by
  have := frz_pre hl h4 7
  simp [frz, rowAt, h1, h3, V.cells] at this ⊢
  rw [this]
  rfl
 have hq : frz σ 12 (.ptr kid 1 0 0) = some (.box [.int .i64 (k : Int)]) := by
  simp [frz, rowAt, h2, V.cells]
 have e : [V.agg [.int .u64 a, .int .u64 b], .ptr wv 1 0 0, .ptr kid 1 0 0].mapM (frz σ 12) = some [V.agg [.int .u64 a, .int .u64 b], .box [.box [.sl 2 ((rw' d).take len)]], .box [.int .i64 (k : Int)]] := by
  simp only [List.mapM_cons, List.mapM_nil, hp, hq]
  rfl
 have hlen : ((rw' d).take len).length = len := by rw [List.length_take, rw_len]; omega
 have hx := r117 a b ((rw' d).take len) k d[0]! (fun _ => by rw [List.getElem?_take_of_lt h0, rw_at (by omega)])
 rw [hlen] at hx
 rw [e, callR_some, hx, retE_some, backE_flat rfl]
 rfl
theorem all124 (o : Option (List (Option (List Hit)))) (l : Nat) (J : List Hit → Sto → Nat → Prop) (hlo : (lst o).length < 9223372036854775808) (hli : ∀ r ∈ lst o, (lst r).length < 9223372036854775808)
 (hal : ∀ pre σ n σ', J pre σ n → (∀ i, i < n → σ' i = σ i) → J pre σ' (n + 1))
 (hy : ∀ pre σ n a b, J pre σ n → yieldW (run T) l [.agg [.int .u64 a, .int .u64 b]] σ n 0 (fun y σ' n' => y = .bool true ∧ J (pre ++ [⟨a, b⟩]) σ' n'))
 (σ : Sto) (n : Nat) (h0 : J [] σ n) : run T (.raw 124 [.yld l, .box [slV 1 (slV 2 hitV) o]] σ n 0) (memQ fun _ σ' n' => J ((lst o).flatMap lst) σ' n') := by
 refine run_rawE (fn := g124) rfl rfl ?_
 simp only [g124, b124, zO, zN, zM, zL, zG, zP, zQ, zI, zA, zT, zF, zB, zC, zD, zE, zH, zJ, zK]
 simp +contextual -implicitDefEqProofs (maxSteps := 2000000) only [↓wP, wS, seval]
 refine WC_for (lst o).length 0 (fun (j : Nat) env σ n => env 0 = .yld l ∧ env 7 = slV 1 (slV 2 hitV) o ∧ J (((lst o).take j).flatMap lst) σ n) hlo (by decide) (by decide) (fun _ _ => rfl) (fun _ _ _ => rfl) ?_ ?_ _ _ _ rfl rfl ?_
 ·intro j env σ n hj h1 h2 ⟨h3, h4, h5⟩
  simp only [vl_tmp] at h2
  have hx : (lst o)[j]? = some (lst o)[j] := List.getElem?_eq_getElem hj
  have hr := hli _ (List.getElem_mem hj)
  have ht : ((lst o).take (j + 1)).flatMap lst = ((lst o).take j).flatMap lst ++ lst (lst o)[j] := by
   rw [← List.take_append_getElem hj, List.flatMap_append]
   simp
  generalize (lst o)[j] = r at *
  simp +contextual -implicitDefEqProofs (maxSteps := 2000000) only [↓wP, wS, seval, h1, h2, h3, h4, hx]
  refine WC_for (lst r).length 0 (fun (q : Nat) env σ n => env 0 = .yld l ∧ env 7 = slV 1 (slV 2 hitV) o ∧ env 9 = .int .i64 (j : Int) ∧ env 8 = .int .i64 ((lst o).length : Int) ∧ env 13 = slV 2 hitV r ∧
   J (((lst o).take j).flatMap lst ++ (lst r).take q) σ n) hr (by decide) (by decide) (fun _ _ => rfl) (fun _ _ _ => rfl) ?_ ?_ _ _ _ rfl rfl ?_
  ·clear h1 h2 h3 h4
   intro q env σ n hq h1 h2 ⟨h3, h4, h6, h7, h8, h9⟩
   simp only [vl_tmp] at h2
   have hxq : (lst r)[q]? = some (lst r)[q] := List.getElem?_eq_getElem hq
   have htq : (lst r).take (q + 1) = (lst r).take q ++ [(lst r)[q]] := (List.take_append_getElem hq).symm
   generalize (lst r)[q] = x at *
   have hv : hitV x = .agg [.int .u64 x.id, .int .u64 x.d] := rfl
   have hJ1 := hal _ σ n (upd (upd σ n (some (.row 2 [.agg [.int .u64 0, .int .u64 0]]))) n (some (.row 2 [.agg [.int .u64 x.id, .int .u64 x.d]]))) h9 (fun i hi => by
    have e : i ≠ n := by omega
    simp [upd, e])
   simp +contextual -implicitDefEqProofs (maxSteps := 2000000) only [↓wP, wS, seval, h1, h2, h3, h4, h6, h7, h8, hxq, hv]
   refine stepW_yld (yieldW_mono (fun _ _ x => x) run_mono (fun y σ' n' ⟨hy1, hy2⟩ => ?_) (hy _ _ _ _ _ hJ1))
   subst hy1
   simp +contextual -implicitDefEqProofs (maxSteps := 2000000) only [↓wP, wS, seval, h1, h2, h3, h4, h6, h7, h8]
   rw [htq, ← List.append_assoc]
   exact hy2
  ·clear h1 h2 h3 h4
   intro env σ n ⟨h3, h4, h6, h7, h8, h9⟩ h1 h2
   rw [List.take_length] at h9
   simp +contextual -implicitDefEqProofs (maxSteps := 2000000) only [↓wP, wS, seval, h3, h4, h6, h7]
   rw [ht]
   exact h9
  ·simp +contextual -implicitDefEqProofs (maxSteps := 2000000) only [↓wP, wS, seval, h1, h2, h3, h4]
   simpa using h5
 ·intro env σ n ⟨h3, h4, h5⟩ h1 h2
  rw [List.take_length] at h5
  simp +contextual -implicitDefEqProofs (maxSteps := 2000000) only [↓wP, wS, seval]
  exact h5
 ·simp +contextual -implicitDefEqProofs (maxSteps := 2000000) only [↓wP, wS, seval]
  simpa using h0
theorem r119 (v : V) (hv : Tr 10 v = true) (h1 : v.one = true) : res T 119 [v] = some (.fn 124 [.box [v]]) := by
 refine run_res (run_pure (fn := g119) rfl rfl (by decide) ?_)
 simp only [g119, b119, zO, zN, zM, zL, zG, zP, zQ, zI, zA, zT, zF, zB, zC, zD, zE, zH, zJ, zK]
 have hc : v.cells = [v] := by cases v <;> first | rfl | (simp [V.one] at h1)
 have hf := fun σ => (frz_tr σ 10 v hv).1
 simp +contextual -implicitDefEqProofs (maxSteps := 2000000) only [↓wP, wS, seval, hc, h1, hf]
def ownH : List Hit → V
 | [] => .nilS
 | x :: l => .own 2 ((x :: l).map hitV)
def asg111 : AC := (.reg [⟨(some 7), none, .alloc (.agg [(.int .u64 0), (.int .u64 0)])⟩,
 ⟨none, none, .store 2 (.tmp 7) (.tmp 14)⟩])
def bd111 : AC := (.block 1 (.seq (.seq (.reg [⟨(some 15), none, .load false 1 (.tmp 6)⟩,
 ⟨(some 16), none, .load true 2 (.tmp 7)⟩,
 ⟨(some 17), none, .callv (.tmp 15) [(.tmp 16)]⟩,
 ⟨(some 18), none, .un .not (.tmp 17)⟩])
 (.cond (.tmp 18)
  (.exit 1)
  .skip))
 (.seq (.reg [⟨(some 19), none, .load false 1 (.tmp 5)⟩,
  ⟨(some 20), none, .mkif 169 (.tmp 19)⟩,
  ⟨(some 21), none, .load true 2 (.tmp 7)⟩,
  ⟨(some 22), none, .mkif 57 (.tmp 21)⟩,
  ⟨(some 23), none, .call 120 [(.tmp 20), (.tmp 22)]⟩])
 (.seq (.regd [⟨[⟨⟨(some 24), none, .load false 1 (.tmp 5)⟩, false, false, false, 0, [], none⟩,
  ⟨⟨(some 25), none, .nilck (.tmp 24)⟩, true, false, false, 0, [], none⟩,
  ⟨⟨(some 26), none, .faddr (.tmp 25) 0⟩, true, false, false, 0, [], none⟩,
  ⟨⟨(some 27), none, .load false 1 (.tmp 26)⟩, false, false, false, 0, [], none⟩,
  ⟨⟨(some 28), none, .call 118 [(.tmp 27)]⟩, false, false, false, 0, [], none⟩,
  ⟨⟨(some 29), none, .load false 1 (.tmp 2)⟩, false, false, false, 0, [], none⟩], 0, [⟨(some 30), none, .bin .gtr (.tmp 28) (.tmp 29)⟩]⟩])
 (.cond (.tmp 30)
  (.reg [⟨(some 31), none, .load false 1 (.tmp 5)⟩,
   ⟨(some 32), none, .mkif 169 (.tmp 31)⟩,
   ⟨(some 33), none, .call 121 [(.tmp 32)]⟩])
  .skip)))))
theorem w_asg111 (env : Nat → V) (σ : Sto) (n lk : Nat) (Q : Ex → St → Prop) : WC T asg111 env σ n lk Q = WC T (.reg [⟨(some 7), none, .alloc (.agg [(.int .u64 0), (.int .u64 0)])⟩,
 ⟨none, none, .store 2 (.tmp 7) (.tmp 14)⟩]) env σ n lk Q := rfl
theorem w_bd111 (env : Nat → V) (σ : Sto) (n lk : Nat) (Q : Ex → St → Prop) : WC T bd111 env σ n lk Q = WC T (.block 1 (.seq (.seq (.reg [⟨(some 15), none, .load false 1 (.tmp 6)⟩,
 ⟨(some 16), none, .load true 2 (.tmp 7)⟩,
 ⟨(some 17), none, .callv (.tmp 15) [(.tmp 16)]⟩,
 ⟨(some 18), none, .un .not (.tmp 17)⟩])
 (.cond (.tmp 18)
  (.exit 1)
  .skip))
 (.seq (.reg [⟨(some 19), none, .load false 1 (.tmp 5)⟩,
  ⟨(some 20), none, .mkif 169 (.tmp 19)⟩,
  ⟨(some 21), none, .load true 2 (.tmp 7)⟩,
  ⟨(some 22), none, .mkif 57 (.tmp 21)⟩,
  ⟨(some 23), none, .call 120 [(.tmp 20), (.tmp 22)]⟩])
 (.seq (.regd [⟨[⟨⟨(some 24), none, .load false 1 (.tmp 5)⟩, false, false, false, 0, [], none⟩,
  ⟨⟨(some 25), none, .nilck (.tmp 24)⟩, true, false, false, 0, [], none⟩,
  ⟨⟨(some 26), none, .faddr (.tmp 25) 0⟩, true, false, false, 0, [], none⟩,
  ⟨⟨(some 27), none, .load false 1 (.tmp 26)⟩, false, false, false, 0, [], none⟩,
  ⟨⟨(some 28), none, .call 118 [(.tmp 27)]⟩, false, false, false, 0, [], none⟩,
  ⟨⟨(some 29), none, .load false 1 (.tmp 2)⟩, false, false, false, 0, [], none⟩], 0, [⟨(some 30), none, .bin .gtr (.tmp 28) (.tmp 29)⟩]⟩])
 (.cond (.tmp 30)
  (.reg [⟨(some 31), none, .load false 1 (.tmp 5)⟩,
   ⟨(some 32), none, .mkif 169 (.tmp 31)⟩,
   ⟨(some 33), none, .call 121 [(.tmp 32)]⟩])
  .skip))))) env σ n lk Q := rfl
def Jf (k : Nat) (env : Nat → V) (pre : List Hit) (σ : Sto) (n : Nat) : Prop :=
 4 < n ∧ σ 0 = some (.row 1 [.int .i64 (k : Int)]) ∧ σ 2 = some (.row 1 [.ptr 1 1 0 0]) ∧ σ 3 = some (.row 1 [.fn 117 [.ptr 2 1 0 0, .ptr 0 1 0 0]]) ∧ σ 4 = some (.loop env [14] asg111 bd111 .ready none) ∧
 ((pre = [] ∧ σ 1 = some (.row 1 [.agg [.nilS]])) ∨ ∃ id len d, σ 1 = some (.row 1 [.agg [.ref id 0 len 2]]) ∧ 4 < id ∧ id < n ∧ σ id = some (.row 2 (rw' d)) ∧ 0 < len ∧ len ≤ d.size ∧ d.size ≤ k + 1 ∧ Hp len d ∧ (d.toList.take len).Perm (fst' k pre))
theorem Jf.al {k : Nat} {env : Nat → V} {pre : List Hit} {σ σ' : Sto} {n : Nat} (h : Jf k env pre σ n) (hs : ∀ i, i < n → σ' i = σ i) : Jf k env pre σ' (n + 1) := by
 obtain ⟨h1, h2, h3, h4, h5, h6⟩ := h
 refine ⟨by omega, by rw [hs 0 (by omega), h2], by rw [hs 2 (by omega), h3], by rw [hs 3 (by omega), h4], by rw [hs 4 (by omega), h5], ?_⟩
 rcases h6 with ⟨g1, g2⟩ | ⟨id, len, d, g1, g2, g3, g4, g5⟩
 ·exact .inl ⟨g1, by rw [hs 1 (by omega), g2]⟩
 ·exact .inr ⟨id, len, d, by rw [hs 1 (by omega), g1], g2, by omega, by rw [hs id g3, g4], g5⟩
theorem mem_take {d : Array Hit} {len : Nat} (hl : len ≤ d.size) {x : Hit} (h : x ∈ d.toList.take len) : ∃ i, i < len ∧ d[i]! = x := by
 obtain ⟨i, hi, rfl⟩ := List.getElem_of_mem h
 rw [List.length_take, Array.length_toList] at hi
 refine ⟨i, by omega, ?_⟩
 rw [List.getElem_take, getElem!_pos d i (by omega)]
 simp
theorem Jf.mk {k : Nat} {env : Nat → V} {pre : List Hit} {σ : Sto} {n id len : Nat} {d : Array Hit} {ob : Option Ob} (hob : ob = some (.loop env [14] asg111 bd111 .ready none)) (h0 : 4 < n) (h1 : σ 0 = some (.row 1 [.int .i64 (k : Int)])) (h2 : σ 2 = some (.row 1 [.ptr 1 1 0 0]))
 (h3 : σ 3 = some (.row 1 [.fn 117 [.ptr 2 1 0 0, .ptr 0 1 0 0]])) (h4 : σ 1 = some (.row 1 [.agg [.ref id 0 len 2]])) (h5 : 4 < id) (h6 : id < n) (h7 : σ id = some (.row 2 (rw' d))) (h8 : 0 < len) (h9 : len ≤ d.size) (h10 : d.size ≤ k + 1) (h11 : Hp len d)
 (h12 : (d.toList.take len).Perm (fst' k pre)) : Jf k env pre (upd σ 4 ob) n := by
 have e : id ≠ 4 := by omega
 subst hob
 exact ⟨h0, by simp [upd, h1], by simp [upd, h2], by simp [upd, h3], by simp [upd], .inr ⟨id, len, d, by simp [upd, h4], h5, h6, by simp [upd, e, h7], h8, h9, h10, h11, h12⟩⟩
theorem hy111 (k : Nat) (hk : 0 < k) (hk' : k < 1000) (env : Nat → V) (he2 : env 2 = .ptr 0 1 0 0) (he5 : env 5 = .ptr 2 1 0 0) (he6 : env 6 = .ptr 3 1 0 0) (pre : List Hit) (σ : Sto) (n : Nat) (a b : Int) (hJ : Jf k env pre σ n) :
 yieldW (run T) 4 [.agg [.int .u64 a, .int .u64 b]] σ n 0 (fun y σ' n' => y = .bool true ∧ Jf k env (pre ++ [⟨a, b⟩]) σ' n') := by
 obtain ⟨h1, h2, h3, h4, h5, h6⟩ := hJ
 refine yieldW_go h5 rfl (Nat.zero_le _) ?_
 have q0 : (0 = n) = False := by simp; omega
 have q1 : (1 = n) = False := by simp; omega
 have q2 : (2 = n) = False := by simp; omega
 have q3 : (3 = n) = False := by simp; omega
 have q4 : (4 = n) = False := by simp; omega
 have q5 : (n = 4) = False := by simp; omega
 obtain ⟨σ1, hσ1⟩ : ∃ σ1, σ1 = upd (upd (upd σ n (some (.row 2 [.agg [.int .u64 0, .int .u64 0]]))) n (some (.row 2 [.agg [.int .u64 a, .int .u64 b]]))) 4 (some (.loop env [14] asg111 bd111 .busy none)) := ⟨_, rfl⟩
 have s0 : σ1 0 = some (.row 1 [.int .i64 (k : Int)]) := by rw [hσ1]; simp [upd, q0, h2]
 have s2 : σ1 2 = some (.row 1 [.ptr 1 1 0 0]) := by rw [hσ1]; simp [upd, q2, h3]
 have s3 : σ1 3 = some (.row 1 [.fn 117 [.ptr 2 1 0 0, .ptr 0 1 0 0]]) := by rw [hσ1]; simp [upd, q3, h4]
 have s4 : σ1 4 = some (.loop env [14] asg111 bd111 .busy none) := by rw [hσ1]; simp [upd]
 have sn : σ1 n = some (.row 2 [.agg [.int .u64 a, .int .u64 b]]) := by rw [hσ1]; simp [upd, q5]
 have s1 : σ1 1 = σ 1 := by rw [hσ1]; simp [upd, q1]
 have so : ∀ i, 4 < i → i < n → σ1 i = σ i := by
  intro i g1 g2
  have g3 : i ≠ n := by omega
  have g4 : i ≠ 4 := by omega
  rw [hσ1]; simp [upd, g3, g4]
 rcases h6 with ⟨rfl, h6⟩ | ⟨id, len, d, h6, h7, h8, h9, h10, h11, h12, h13, h14⟩
 ·rw [h6] at s1
  have c31 := f117n (wv := 2) (kid := 0) (wid := 1) (σ := σ1) a b k hk s2 s0 s1
  simp +contextual -implicitDefEqProofs (maxSteps := 2000000) only [↓wP, wS, seval, bind_cons, bind_nil, w_asg111, w_bd111, he2, he5, he6, h5, q0, q1, q2, q3, q4, q5, ← hσ1, s0, s2, s3, s4, sn, s1, c31]
  refine stepW_raw (by decide) (raw120n a b 1 (n + 1) σ1 s1 (by omega) fun σ2 n2 id2 d2 g1 g2 g3 g4 g5 g6 g7 g8 g9 => ?_)
  have t0 := (g9 0 (by decide) (by omega)).trans s0
  have t2 := (g9 2 (by decide) (by omega)).trans s2
  have t3 := (g9 3 (by decide) (by omega)).trans s3
  have t4 := (g9 4 (by decide) (by omega)).trans s4
  have f118 := fun fs n lk => f32r (d := d2) (len := 1) (id := id2) (σ := σ2) (by omega) g5 fs n lk
  simp only [Int.natCast_one] at f118
  have hgt : ¬ (k : Int) < 1 := by omega
  simp +contextual -implicitDefEqProofs (maxSteps := 2000000) only [↓wP, wS, seval, he2, he5, he6, t0, t2, g4, f118, hgt]
  refine ⟨t4, Jf.mk rfl (by omega) t0 t2 t3 g4 (by omega) g3 g5 (by decide) (by omega) (by omega) g7 ?_⟩
  have e1 : d2.toList.take 1 = d2.toList := List.take_of_length_le (by rw [Array.length_toList]; omega)
  have e2 : fst' k [⟨a, b⟩] = [⟨a, b⟩] := by
   show [_].take k = _
   exact List.take_of_length_le (by simp; omega)
  rw [e1, e2]
  exact g8
 ·rw [h6] at s1
  have sid := so id h7 h8
  rw [h9] at sid
  have hlen := h14.length_eq
  rw [List.length_take, Array.length_toList, fst_len, Nat.min_eq_left h11] at hlen
  have c31 := f117 (wv := 2) (kid := 0) (wid := 1) (σ := σ1) (d := d) (len := len) a b k s2 s0 s1 sid h11 h10
  have hmax := h13.max
  have hmem : ∀ x ∈ fst' k pre, ahead d[0]! x = false := by
   intro x hx
   obtain ⟨i, hi, rfl⟩ := mem_take h11 (h14.mem_iff.2 hx)
   exact hmax i hi
  by_cases hin : (decide (len < k) || ahead ⟨a, b⟩ d[0]!) = true
  ·rw [hin] at c31
   simp +contextual -implicitDefEqProofs (maxSteps := 2000000) only [↓wP, wS, seval, bind_cons, bind_nil, w_asg111, w_bd111, he2, he5, he6, h5, q0, q1, q2, q3, q4, q5, ← hσ1, s0, s2, s3, s4, sn, s1, c31]
   refine stepW_raw (by decide) (raw120 d a b 1 id len (n + 1) σ1 h11 (by omega) s1 (by omega) (by omega) (by omega) sid h13 fun σ2 n2 id2 d2 g1 g2 g3 g4 g5 g6 g7 g8 g9 => ?_)
   have t0 := (g9 0 (by decide) (by omega) (by omega)).trans s0
   have t2 := (g9 2 (by decide) (by omega) (by omega)).trans s2
   have t3 := (g9 3 (by decide) (by omega) (by omega)).trans s3
   have t4 := (g9 4 (by decide) (by omega) (by omega)).trans s4
   have f118 := fun fs n lk => f32r (d := d2) (len := len + 1) (id := id2) (σ := σ2) (by omega) g5 fs n lk
   have hp1 : d2.toList.Perm (ins ⟨a, b⟩ (fst' k pre)) := by
    refine g8.trans ((h14.append_right _).trans (List.perm_append_comm.trans ?_))
    exact (ins_perm _ _).symm
   by_cases hgt : k < len + 1
   ·have hgt' : (k : Int) < ((len + 1 : Nat) : Int) := by omega
    simp +contextual -implicitDefEqProofs (maxSteps := 2000000) only [↓wP, wS, seval, he2, he5, he6, t0, t2, g4, f118, hgt']
    refine stepW_raw (by decide) (raw121 d2 1 id2 (len + 1) n2 σ2 (by omega) (by omega) (by omega) g4 (by omega) g3 (by omega) g5 g7 fun v σ3 n3 d3 k1 k2 k3 k4 k5 k6 k7 => ?_)
    have u0 := (k7 0 (by decide) (by omega) (by omega)).trans t0
    have u2 := (k7 2 (by decide) (by omega) (by omega)).trans t2
    have u3 := (k7 3 (by decide) (by omega) (by omega)).trans t3
    have u4 := (k7 4 (by decide) (by omega) (by omega)).trans t4
    simp only [Nat.add_sub_cancel] at k2 k5 k6
    simp +contextual -implicitDefEqProofs (maxSteps := 2000000) only [↓wP, wS, seval, he2, he5, he6]
    refine ⟨u4, Jf.mk rfl (by omega) u0 u2 u3 k2 (by omega) (by omega) k3 h10 (by omega) (by omega) k5 ?_⟩
    have e1 : d2.toList.take (len + 1) = d2.toList := List.take_of_length_le (by rw [Array.length_toList]; omega)
    rw [e1] at k6
    have hmx : ∀ x ∈ d3.toList.take len, ahead d2[0]! x = false := by
     intro x hx
     have hx2 : x ∈ d2.toList.take (len + 1) := by rw [e1]; exact k6.mem_iff.2 (List.mem_append_left _ hx)
     obtain ⟨i, hi, rfl⟩ := mem_take (by omega) hx2
     exact g7.max i hi
    have hdm := drop_max (ins_srt ⟨a, b⟩ _ (fst_srt k pre)) (hp1.symm.trans k6) hmx
    have hl3 : (d3.toList.take len).length = len := by rw [List.length_take, Array.length_toList]; omega
    rw [hl3] at hdm
    rw [fst_snoc]
    have hk2 : len = k := by rw [hlen]; omega
    rw [hk2] at hdm ⊢
    exact hdm
   ·have hgt' : ¬ (k : Int) < ((len + 1 : Nat) : Int) := by omega
    simp +contextual -implicitDefEqProofs (maxSteps := 2000000) only [↓wP, wS, seval, he2, he5, he6, t0, t2, g4, f118, hgt']
    refine ⟨t4, Jf.mk rfl (by omega) t0 t2 t3 g4 (by omega) g3 g5 (by omega) (by omega) (by omega) g7 ?_⟩
    have e1 : d2.toList.take (len + 1) = d2.toList := List.take_of_length_le (by rw [Array.length_toList]; omega)
    rw [e1, fst_snoc, List.take_of_length_le (by rw [ins_len, fst_len]; omega)]
    exact hp1
  ·simp only [Bool.not_eq_true] at hin
   rw [hin] at c31
   simp only [Bool.or_eq_false_iff, decide_eq_false_iff_not] at hin
   simp +contextual -implicitDefEqProofs (maxSteps := 2000000) only [↓wP, wS, seval, bind_cons, bind_nil, w_asg111, w_bd111, he2, he5, he6, h5, q0, q1, q2, q3, q4, q5, ← hσ1, s0, s2, s3, s4, sn, s1, c31]
   refine Jf.mk rfl (by omega) s0 s2 s3 s1 h7 (by omega) sid h10 h11 h12 h13 ?_
   rw [fst_out (by rw [fst_len]; omega) (fun x hx => swoA.ntrans _ _ _ hin.2 (hmem x hx))]
   exact h14
end Go.Q.SD
end

section
/- First. -/
namespace Go.Q.SD
open Go.Q Go.Sort
open Nat renaming reduceEqDiff → n1w, reduceAdd → n2w, reduceSub → n3w, reduceLeDiff → n4w, reduceLT → n5w, reduceMul → n6w
open Int renaming reduceBNe → i1w, reduceBEq → i2w, reduceLT → i3w, reduceLE → i4w, reduceGT → i5w
def hs (l : List Hit) : List V := l.map hitV
theorem rw_hs (l : List Hit) : rw' l.toArray = hs l := by simp [rw', hs]
theorem hs_len (l : List Hit) : (hs l).length = l.length := by simp [hs]
theorem hs_giv (σ : Sto) (l : List Hit) : ∀ x ∈ hs l, elemM (giv σ 11) x = some x := by
 intro x hx
 obtain ⟨y, -, rfl⟩ := List.mem_map.1 hx
 rfl
theorem hs_gids (σ : Sto) (l : List Hit) : ∀ x ∈ hs l, ∀ c ∈ x.cells, gids σ 11 c = [] := by
 intro x hx c hc
 obtain ⟨y, -, rfl⟩ := List.mem_map.1 hx
 simp only [hitV, V.cells, List.mem_cons, List.not_mem_nil, or_false] at hc
 rcases hc with rfl | rfl <;> rfl
theorem hs_nw (l : List Hit) : ∀ x ∈ hs l, Nw 12 x = true := by
 intro x hx
 obtain ⟨y, -, rfl⟩ := List.mem_map.1 hx
 rfl
theorem hs_flat (l : List Hit) : flat (.own 2 (hs l)) = true := by
 show flatL _ = true
 induction l with
 | nil => rfl
 | cons x l ih => simp only [hs, List.map_cons, flatL, hitV, flat, Bool.and_true, Bool.true_and]; exact ih
theorem lim_hits {n : Nat} (h : n ≤ 8000000000000) : (n * 16 ≤ LIM) = True := by unfold LIM; simp; omega
theorem r122 (l : List Hit) (hl : l.length ≤ 8000000000000) : res T 122 [.sl 2 (hs l)] = some (.own 2 (hs l)) := by
 refine run_res (run_own (fn := g122) rfl rfl (by decide) ?_)
 simp only [g122, b122, zO, zN, zM, zL, zG, zP, zQ, zI, zA, zT, zF, zB, zC, zD, zE, zH, zJ, zK]
 have z := lim_hits hl
 rw [← hs_len] at z
 have hg := fun σ h => giv_row (σ := σ) (id := 1) (sz := 2) (xs := hs l) h (hs_giv σ l) (hs_gids σ l)
 simp +contextual -implicitDefEqProofs (maxSteps := 2000000) only [↓wP, wS, seval, z, true_or]
 refine hg _ ?_
 simp [upd]
theorem r122n : res T 122 [.nilS] = some .nilS := by
 refine run_res (run_own (fn := g122) rfl rfl (by decide) ?_)
 simp only [g122, b122, zO, zN, zM, zL, zG, zP, zQ, zI, zA, zT, zF, zB, zC, zD, zE, zH, zJ, zK]
 simp +contextual -implicitDefEqProofs (maxSteps := 2000000) only [↓wP, wS, seval]
 exact ⟨rfl, by simp [gids]⟩
theorem f122n (fs : Bool) (σ : Sto) (n lk : Nat) : callE T fs 122 [.nilS] σ n lk = some (.nilS, σ, n) := callE_tr (by decide) r122n rfl rfl fs σ n lk
theorem thaw_hs (σ : Sto) (n : Nat) (l : List Hit) : thaw σ n (.own 2 (hs l)) = (.ref n 0 l.length 2, upd σ n (some (.row 2 (hs l))), n + 1) := by
 rw [thaw_own, thawL_nw 12 (hs_nw l), hs_len]
theorem f122 {d : Array Hit} {len id : Nat} {σ : Sto} (hl : len ≤ d.size) (hd : d.size ≤ 8000000000000) (h : σ id = some (.row 2 (rw' d))) (fs : Bool) (n lk : Nat) :
 callE T fs 122 [.ref id 0 len 2] σ n lk = some (.ref n 0 len 2, upd σ n (some (.row 2 (hs (d.toList.take len)))), n + 1) := by
 rw [callE_eq (by decide)]
 have e : [V.ref id 0 len 2].mapM (frz σ 12) = some [.sl 2 (hs (d.toList.take len))] := by
  have e1 : (rw' d).take len = hs (d.toList.take len) := by simp [rw', hs, List.map_take]
  simp only [List.mapM_cons, List.mapM_nil, frz_pre hl h 9, e1]
  rfl
 have hlen : (d.toList.take len).length = len := by rw [List.length_take, Array.length_toList]; omega
 rw [e, callR_some, r122 _ (by omega), retE_some, backE_flat (hs_flat _), thaw_hs, hlen]
theorem raw100n (n : Nat) (σ : Sto) {Q : V → Sto → Nat → Prop} (hQ : Q .undef σ n) : run T (.raw 100 [.nilS, .int .i64 0, .int .i64 0, .fn 45 []] σ n 0) (memQ Q) := by
 refine run_rawE (fn := g100) rfl rfl ?_
 simp only [g100, b100, zO, zN, zM, zL, zG, zP, zQ, zI, zA, zT, zF, zB, zC, zD, zE, zH, zJ, zK]
 have w1 : IntKind.i64.wrap ((0 : Int) + 1) = 1 := by decide
 simp +contextual -implicitDefEqProofs (maxSteps := 2000000) only [↓wP, wQ, wQ1, wQ2, wQ3, wR, boxE, partsOf, ↓reduceIte, n1w, n2w, n3w, n4w, n5w, n6w, reduceCtorEq, i1w, i2w, i3w, i4w, i5w, w1]
 refine WC_loopI 0 (fun (s : Nat) env σ' n' => n' = n ∧ σ' = σ ∧ env 2 = .int .i64 0 ∧ env 8 = .int .i64 1) (fun s => s) ?_ 0 _ _ _ ?_
 ·intro _ env σ' n' ⟨h1, h2, h3, h4⟩
  subst h1 h2
  have h : ¬ (1 : Int) < 0 := by decide
  simp +contextual -implicitDefEqProofs (maxSteps := 2000000) only [↓wP, wQ, wQ1, wQ2, wQ3, wR, boxE, partsOf, ↓reduceIte, n1w, n2w, n3w, n4w, n5w, n6w, reduceCtorEq, i1w, i2w, i3w, i4w, i5w, h3, h4, h]
  exact hQ
 ·simp +contextual -implicitDefEqProofs (maxSteps := 2000000) only [↓wP, wQ, wQ1, wQ2, wQ3, wR, boxE, partsOf, ↓reduceIte, n1w, n2w, n3w, n4w, n5w, n6w, reduceCtorEq, i1w, i2w, i3w, i4w, i5w]
theorem raw91n (n : Nat) (σ : Sto) {Q : V → Sto → Nat → Prop} (lim : Int) (hQ : Q .undef σ n) : run T (.raw 91 [.nilS, .int .i64 0, .int .i64 0, .int .i64 lim, .fn 45 []] σ n 0) (memQ Q) := by
 refine run_rawE (fn := g91) rfl rfl ?_
 simp only [g91, b91, zO, zN, zM, zL, zG, zP, zQ, zI, zA, zT, zF, zB, zC, zD, zE, zH, zJ, zK]
 have w1 : IntKind.i64.wrap ((0 : Int) - 0) = 0 := by decide
 have h12 : (0 : Int) ≤ 12 := by decide
 simp +contextual -implicitDefEqProofs (maxSteps := 2000000) only [↓wP, wQ, wQ1, wQ2, wQ3, wR, boxE, partsOf, ↓reduceIte, n1w, n2w, n3w, n4w, n5w, n6w, reduceCtorEq, i1w, i2w, i3w, i4w, i5w, w1]
 refine WC_loopI 0 (fun (s : Nat) env σ' n' => n' = n ∧ σ' = σ ∧ env 0 = .nilS ∧ env 1 = .int .i64 0 ∧ env 2 = .int .i64 0 ∧ env 4 = .fn 45 []) (fun s => s) ?_ 0 _ _ _ ?_
 ·intro _ env σ' n' ⟨h1, h2, h3, h4, h5, h6⟩
  subst h1 h2
  simp +contextual -implicitDefEqProofs (maxSteps := 2000000) only [↓wP, wQ, wQ1, wQ2, wQ3, wR, boxE, partsOf, ↓reduceIte, n1w, n2w, n3w, n4w, n5w, n6w, reduceCtorEq, i1w, i2w, i3w, i4w, i5w, w1, h3, h4, h5, h6, h12]
  refine stepW_raw (by decide) (raw100n n' σ' ?_)
  simp +contextual -implicitDefEqProofs (maxSteps := 2000000) only [↓wP, wQ, wQ1, wQ2, wQ3, wR, boxE, partsOf, ↓reduceIte, n1w, n2w, n3w, n4w, n5w, n6w, reduceCtorEq, i1w, i2w, i3w, i4w, i5w]
  exact hQ
 ·simp +contextual -implicitDefEqProofs (maxSteps := 2000000) only [↓wP, wQ, wQ1, wQ2, wQ3, wR, boxE, partsOf, ↓reduceIte, n1w, n2w, n3w, n4w, n5w, n6w, reduceCtorEq, i1w, i2w, i3w, i4w, i5w]
theorem raw37N {d : Array Hit} {N : Nat} (hN : d.size = N) (id n : Nat) (σ : Sto) (hd : N < 18) (hid : id < n) (hσ : σ id = some (.row 2 (rw' d))) {Q : V → Sto → Nat → Prop}
 (hQ : ∀ σ' d' n', n ≤ n' → σ' id = some (.row 2 (rw' d')) → (∀ i, i ≠ id → i < n → σ' i = σ i) → PermIn 0 N d d' → SortedIn ahead 0 N d' → Q .undef σ' n') :
 run T (.raw 64 [.ref id 0 N 2, .fn 45 []] σ n 0) (memQ Q) := by subst hN; exact raw64 d id n σ hd hid hσ hQ
theorem raw64n (n : Nat) (σ : Sto) {Q : V → Sto → Nat → Prop} (hQ : Q .undef σ n) : run T (.raw 64 [.nilS, .fn 45 []] σ n 0) (memQ Q) := by
 refine run_rawE (fn := g64) rfl rfl ?_
 simp only [g64, b64, zO, zN, zM, zL, zG, zP, zQ, zI, zA, zT, zF, zB, zC, zD, zE, zH, zJ, zK]
 obtain ⟨M, h1, h2, h3⟩ := r92 0 (by decide)
 have f92 := callE_tr (fs := true) (by decide) h3 (by simp [Tr]) rfl
 simp only [Int.natCast_zero] at f92
 have wu : IntKind.u64.wrap (0 : Int) = 0 := by decide
 simp +contextual -implicitDefEqProofs (maxSteps := 2000000) only [↓wP, wS, seval, Int.natCast_zero, wu, f92]
 refine stepW_raw (by decide) (raw91n n σ _ ?_)
 simp +contextual -implicitDefEqProofs (maxSteps := 2000000) only [↓wP, wS, seval]
 exact hQ
theorem sorted_list {d : Array Hit} (h : SortedIn ahead 0 d.size d) : Srt d.toList := by
 unfold Srt
 rw [List.pairwise_iff_getElem]
 intro i j hi hj hij
 simp only [Array.length_toList] at hi hj
 have := h i j (Nat.zero_le _) hij hj
 rw [getElem!_pos d i hi, getElem!_pos d j hj] at this
 simpa using this
theorem ownH_eq {l : List Hit} (h : l ≠ []) : ownH l = .own 2 (hs l) := by
 cases l with
 | nil => exact absurd rfl h
 | cons x l => rfl
theorem range111 (k : Nat) (hk : 0 < k) (hk' : k < 1000) (o : Option (List (Option (List Hit)))) (hlo : (lst o).length < 9223372036854775808) (hli : ∀ r ∈ lst o, (lst r).length < 9223372036854775808) (env : Nat → V) (σ : Sto)
 (he2 : env 2 = .ptr 0 1 0 0) (he5 : env 5 = .ptr 2 1 0 0) (he6 : env 6 = .ptr 3 1 0 0) (he : env 13 = .fn 124 [.box [slV 1 (slV 2 hitV) o]]) (h0 : σ 0 = some (.row 1 [.int .i64 (k : Int)])) (h1 : σ 1 = some (.row 1 [.agg [.nilS]]))
 (h2 : σ 2 = some (.row 1 [.ptr 1 1 0 0])) (h3 : σ 3 = some (.row 1 [.fn 117 [.ptr 2 1 0 0, .ptr 0 1 0 0]])) {Q : Ex → St → Prop} (hQ : ∀ σ' n', Jf k env ((lst o).flatMap lst) σ' n' → Q .normal ⟨env, upd σ' 4 none, n', 0⟩) :
 WC T (.rangeF (.tmp 13) [14] asg111 bd111) env σ 4 0 Q := by
 refine WC_rangeF (f := 124) (caps := [.box [slV 1 (slV 2 hitV) o]]) he (Nat.zero_le _) ?_
 refine run_mono _ _ _ (fun x hx => ?_) (all124 o 4 (Jf k env) hlo hli (fun pre σ n σ' h hs => h.al hs) (hy111 k hk hk' env he2 he5 he6) _ 5 ?_)
 ·cases x <;> try exact hx.elim
  have hx' : Jf k env ((lst o).flatMap lst) _ _ := hx
  exact ⟨_, _, _, _, _, _, hx'.2.2.2.2.1, by decide, hQ _ _ hx'⟩
 ·exact ⟨by omega, by simp [upd, h0], by simp [upd, h2], by simp [upd, h3], by simp [upd], .inl ⟨rfl, by simp [upd, h1]⟩⟩
theorem r111 (k : Nat) (o : Option (List (Option (List Hit)))) (hk : 0 < k) (hk' : k < 18) (hlo : (lst o).length < 9223372036854775808) (hli : ∀ r ∈ lst o, (lst r).length < 9223372036854775808) :
 res T 111 [.int .i64 (k : Int), slV 1 (slV 2 hitV) o] = some (ownH (fst' k ((lst o).flatMap lst))) := by
 refine run_res (run_own (fn := g111) rfl rfl (by decide) ?_)
 simp only [g111, b111, zO, zN, zM, zL, zG, zP, zQ, zI, zA, zT, zF, zB, zC, zD, zE, zH, zJ, zK]
 have h33 := r119 (slV 1 (slV 2 hitV) o) (Tr_slV 1 _ o 9) (one_slV 1 _ o)
 have f119 := callE_tr (fs := true) (by decide) h33 (by simp [Tr_slV]) (by rfl)
 simp +contextual -implicitDefEqProofs (maxSteps := 2000000) only [↓wP, wS, seval, f119]
 refine range111 k hk (by omega) o hlo hli _ _ rfl rfl rfl rfl (by simp [upd]) (by simp [upd]) (by simp [upd]) (by simp [upd]) fun σ' n' hJ => ?_
 obtain ⟨h1, h2, h3, h4, h5, h6⟩ := hJ
 rcases h6 with ⟨g1, g2⟩ | ⟨id, len, d, g1, g2, g3, g4, g5, g6, g7, g8, g9⟩
 ·rw [g1]
  simp +contextual -implicitDefEqProofs (maxSteps := 2000000) only [↓wP, wS, seval, h3, g2, f122n]
  refine stepW_raw (by decide) (raw64n _ _ ?_)
  simp +contextual -implicitDefEqProofs (maxSteps := 2000000) only [↓wP, wS, seval]
  have e0 : fst' k [] = [] := by simp [fst', srt]
  rw [e0]
  exact ⟨rfl, by simp [gids, DEEP]⟩
 ·have e4 : id ≠ 4 := by omega
  have f122 := fun fs n lk => f122 (d := d) (len := len) (id := id) (σ := upd σ' 4 none) g6 (by omega) (by simp [upd, e4, g4]) fs n lk
  generalize hl : (lst o).flatMap lst = all at *
  have hlen := g9.length_eq
  rw [List.length_take, Array.length_toList, fst_len, Nat.min_eq_left g6] at hlen
  simp +contextual -implicitDefEqProofs (maxSteps := 2000000) only [↓wP, wS, seval, h3, g1, f122]
  have hc : (d.toList.take len).toArray.size = len := by simp; omega
  refine stepW_raw (by decide) (raw37N hc n' (n' + 1) (upd (upd σ' 4 none) n' (some (.row 2 (hs (d.toList.take len))))) (by omega) (by omega) (by simp [upd, rw_hs]) fun σ2 d2 n2 k1 k2 k3 k4 k5 => ?_)
  simp +contextual -implicitDefEqProofs (maxSteps := 2000000) only [↓wP, wS, seval]
  have hs2 : d2.size = len := by rw [k4.1, hc]
  have hsl : Srt d2.toList := sorted_list (by rw [hs2]; exact k5)
  have hp2 : d2.toList.Perm (fst' k all) := (perm_all hc k4).trans (by simpa using g9)
  have heq : d2.toList = fst' k all := Srt.uniq hsl (fst_srt k all) hp2
  have hne : fst' k all ≠ [] := by
   intro h
   have := fst_len k all
   rw [h] at this
   simp at this
   omega
  rw [ownH_eq hne, ← heq]
  have hrow : rw' d2 = hs d2.toList := rfl
  rw [hrow] at k2
  have := giv_row (σ := σ2) (id := n') (sz := 2) (xs := hs d2.toList) k2 (hs_giv _ _) (hs_gids _ _)
  rw [hs_len, Array.length_toList, hs2] at this
  exact this
end Go.Q.SD
end

section
/- Rows of their own, what is the same, the document's order. -/
namespace Go.Q.SD
open Go.Q Go.Sort
theorem callE_flat {f : Nat} {args ts : List V} {r : V} {σ : Sto} (hm : T.mode f ≠ .raw) (hts : args.mapM (frz σ 12) = some ts) (hr : res T f ts = some r) (hf : flat r = true) (fs : Bool) (n lk : Nat) :
 callE T fs f args σ n lk = some (thaw σ n r) := by
 rw [callE_eq hm, hts, callR_some, hr, retE_some, backE_flat hf]
theorem hitV_eq (x : Hit) : hitV x = .agg [.int .u64 x.id, .int .u64 x.d] := rfl
theorem hs_take (l : List Hit) (k : Nat) : (hs l).take k = hs (l.take k) := by simp [hs, List.map_take]
theorem hs_app (l m : List Hit) : hs l ++ hs m = hs (l ++ m) := by simp [hs]
theorem take_eq {a b : List Hit} (hl : a.length = b.length) (h : a.take a.length = b.take a.length) : a = b := by
 rw [List.take_length, hl, List.take_length] at h; exact h
theorem eqc_hit (a b c d : Int) : eqCells [.int, .int] [.int .u64 a, .int .u64 b] [.int .u64 c, .int .u64 d] = some (decide ((⟨a, b⟩ : Hit) = ⟨c, d⟩)) := by
 simp only [eqCells, eqCell, if_true, Option.bind_some, Option.map_some, Bool.and_true]
 congr 1
 rw [Bool.eq_iff_iff]
 simp
def Hf (σ : Sto) (v : V) (l : List Hit) : Prop := ∃ o, lst o = l ∧ frz σ 12 v = some (slV 2 hitV o)
theorem Hf.tree (σ : Sto) (o : Option (List Hit)) : Hf σ (slV 2 hitV o) (lst o) := ⟨o, rfl, frz_slV 2 _ o σ 11⟩
theorem Hf.row {σ : Sto} {id N : Nat} {l : List Hit} (h : σ id = some (.row 2 (hs l))) (hN : l.length = N) : Hf σ (.ref id 0 N 2) l := by
 refine ⟨some l, rfl, ?_⟩
 have h' : σ id = some (.row 2 (rw' l.toArray)) := by rw [rw_hs]; exact h
 have := frz_row (d := l.toArray) (N := N) (id := id) (σ := σ) (by simpa using hN) h' 9
 rw [rw_hs] at this
 exact this
def pos (h : Hit) (s : List Hit) : Nat := (s.takeWhile fun x => !ahead h x).length
end Go.Q.SD
end

section
/- Distances. -/
namespace Go.Q.SD
open Go.Q
def vecV (o : Option (List Int)) : V := slV 1 i32V o
theorem vecV_eq (o : Option (List Int)) : vecV o = slV 1 i32V o := rfl
theorem ia1 {β : Type} (sz : Nat) (f : β → V) (o : Option (List β)) (k : IntKind) : iaddrE sz (slV sz f o) (.int k 1) = ((lst o)[1]?).map fun e => .box (f e).cells := iaddrE_slV sz f o k 1
theorem r76 (v a b : Option (List Int)) : res T 76 [slV 1 i32V v, .box [slV 1 vecV (some [a, b])]] = some (.bool (((lst v).length : Int) != ((lst a).length : Int))) := by
 refine run_res (run_pure (fn := g76) rfl rfl (by decide) ?_)
 simp only [g76, b76, zO, zN, zM, zL, zG, zP, zQ, zI, zA, zT, zF, zB, zC, zD, zE, zH, zJ, zK]
 have h0 : (lst (some [a, b]))[0]? = some a := rfl
 simp +contextual -implicitDefEqProofs (maxSteps := 2000000) only [↓wP, wS, seval, h0, vecV_eq]
def f76 (v a b : Option (List Int)) := callE_tr (by decide) (r76 v a b) (by simp [Tr, Tr_slV]) rfl
def vAll (a b : Option (List Int)) : Int := if okV a && okV b then (if (lst a).length = (lst b).length then 0 else 151) else 150
theorem r75 (a b : Option (List Int)) : res T 75 [slV 1 vecV (some [a, b]), .fn 76 [.box [slV 1 vecV (some [a, b])]]] = some (.int .i64 (if (lst a).length = (lst b).length then -1 else 1)) := by
 refine run_res (run_pure (fn := g75) rfl rfl (by decide) ?_)
 simp only [g75, b75, zO, zN, zM, zL, zG, zP, zQ, zI, zA, zT, zF, zB, zC, zD, zE, zH, zJ, zK]
 have h0 : (lst (some [a, b]))[0]? = some a := rfl
 have h1 : (lst (some [a, b]))[1]? = some b := rfl
 have f0 := f76 a a b
 have f1 := f76 b a b
 have e0 : (((lst a).length : Int) != ((lst a).length : Int)) = false := by simp
 rw [e0] at f0
 simp +contextual -implicitDefEqProofs (maxSteps := 2000000) only [↓wP, wS, seval]
 refine WC_for 2 0 (fun (j : Nat) env _ _ => env 0 = slV 1 vecV (some [a, b]) ∧ env 1 = .fn 76 [.box [slV 1 vecV (some [a, b])]] ∧ (j = 2 → (lst a).length = (lst b).length)) (by decide) (by decide) (by decide) (fun _ _ => rfl) (fun _ _ _ => rfl) ?_ ?_ _ _ _ rfl rfl ?_
 ·intro j env σ n hj g1 g2 ⟨g3, g4, g5⟩
  simp only [vl_tmp] at g2
  obtain rfl | rfl : j = 0 ∨ j = 1 := by omega
  ·simp only [Int.natCast_zero] at g1
   simp +contextual -implicitDefEqProofs (maxSteps := 2000000) only [↓wP, wS, seval, g1, g2, g3, g4, h0, vecV_eq, f0]
   simp
  ·simp only [Int.natCast_one] at g1
   by_cases hl : (lst a).length = (lst b).length
   ·have e1 : (((lst b).length : Int) != ((lst a).length : Int)) = false := by simp [hl]
    rw [e1] at f1
    simp +contextual -implicitDefEqProofs (maxSteps := 2000000) only [↓wP, wS, seval, g1, g2, g3, g4, ia1, h1, vecV_eq, f1]
    simp [hl]
   ·have e1 : (((lst b).length : Int) != ((lst a).length : Int)) = true := by simp; omega
    rw [e1] at f1
    simp +contextual -implicitDefEqProofs (maxSteps := 2000000) only [↓wP, wS, seval, g1, g2, g3, g4, ia1, h1, vecV_eq, f1, hl]
 ·intro env σ n ⟨g3, g4, g5⟩ g1 g2
  have hl := g5 rfl
  simp +contextual -implicitDefEqProofs (maxSteps := 2000000) only [↓wP, wS, seval, hl]
 ·simp +contextual -implicitDefEqProofs (maxSteps := 2000000) only [↓wP, wS, seval]
  simp
def f75 (a b : Option (List Int)) := callE_tr (by decide) (r75 a b) (by simp [Tr, Tr_slV]) rfl
theorem r42 (a b : Option (List Int)) : res T 42 [slV 1 vecV (some [a, b]), .fn 76 [.box [slV 1 vecV (some [a, b])]]] = some (.bool (decide ((lst a).length ≠ (lst b).length))) := by
 refine run_res (run_pure (fn := g42) rfl rfl (by decide) ?_)
 simp only [g42, b42, zO, zN, zM, zL, zG, zP, zQ, zI, zA, zT, zF, zB, zC, zD, zE, zH, zJ, zK]
 have f := f75 a b
 by_cases hl : (lst a).length = (lst b).length
 ·have hd : decide ((lst a).length ≠ (lst b).length) = false := by simp [hl]
  rw [if_pos hl] at f
  simp +contextual -implicitDefEqProofs (maxSteps := 2000000) only [↓wP, wS, seval, f, hd]
 ·have hd : decide ((lst a).length ≠ (lst b).length) = true := by simp [hl]
  rw [if_neg hl] at f
  simp +contextual -implicitDefEqProofs (maxSteps := 2000000) only [↓wP, wS, seval, f, hd]
def f42 (a b : Option (List Int)) := callE_tr (by decide) (r42 a b) (by simp [Tr, Tr_slV]) rfl
theorem r43 (a b : Option (List Int)) (ha : (lst a).length < 9223372036854775808) (hb : (lst b).length < 9223372036854775808) : res T 43 [slV 1 vecV (some [a, b])] = some (.int .i64 (vAll a b)) := by
 refine run_res (run_pure (fn := g43) rfl rfl (by decide) ?_)
 simp only [g43, b43, zO, zN, zM, zL, zG, zP, zQ, zI, zA, zT, zF, zB, zC, zD, zE, zH, zJ, zK]
 have h0 : (lst (some [a, b]))[0]? = some a := rfl
 have h1 : (lst (some [a, b]))[1]? = some b := rfl
 have f0 := f36 a ha
 have f1 := f36 b hb
 have f2 := f42 a b
 simp +contextual -implicitDefEqProofs (maxSteps := 2000000) only [↓wP, wS, seval]
 refine WC_for 2 0 (fun (j : Nat) env σ n => 1 ≤ n ∧ σ 0 = some (.row 1 [slV 1 vecV (some [a, b])]) ∧ env 1 = .ptr 0 1 0 0 ∧ env 7 = slV 1 vecV (some [a, b]) ∧ (1 ≤ j → okV a = true) ∧ (2 ≤ j → okV b = true)) (by decide) (by decide) (by decide) (fun _ _ => rfl) (fun _ _ _ => rfl) ?_ ?_ _ _ _ rfl rfl ?_
 ·intro j env σ n hj g1 g2 ⟨g3, g4, g5, g6, g7, g8⟩
  simp only [vl_tmp] at g2
  obtain rfl | rfl : j = 0 ∨ j = 1 := by omega
  ·simp only [Int.natCast_zero] at g1
   cases ho : okV a
   ·rw [ho] at f0
    have hv : vAll a b = 150 := by simp [vAll, ho]
    simp +contextual -implicitDefEqProofs (maxSteps := 2000000) only [↓wP, wS, seval, g1, g2, g3, g4, g5, g6, h0, vecV_eq, f0, hv]
   ·rw [ho] at f0
    simp +contextual -implicitDefEqProofs (maxSteps := 2000000) only [↓wP, wS, seval, g1, g2, g3, g4, g5, g6, h0, vecV_eq, f0]
    simp
  ·simp only [Int.natCast_one] at g1
   cases ho : okV b
   ·rw [ho] at f1
    have hv : vAll a b = 150 := by simp [vAll, ho]
    simp +contextual -implicitDefEqProofs (maxSteps := 2000000) only [↓wP, wS, seval, g1, g2, g3, g4, g5, g6, ia1, h1, vecV_eq, f1, hv]
   ·rw [ho] at f1
    simp +contextual -implicitDefEqProofs (maxSteps := 2000000) only [↓wP, wS, seval, g1, g2, g3, g4, g5, g6, ia1, h1, vecV_eq, f1]
    simp [g7]
 ·intro env σ n ⟨g3, g4, g5, g6, g7, g8⟩ g1 g2
  have oa := g7 (by decide)
  have ob := g8 (by decide)
  have hc : frz σ 12 (.fn 76 [.ptr 0 1 0 0]) = some (.fn 76 [.box [slV 1 vecV (some [a, b])]]) := by
   simp [frz, rowAt, g4, slV_some, V.cells]
  have hs : frz σ 12 (slV 1 vecV (some [a, b])) = some (slV 1 vecV (some [a, b])) := frz_slV 1 vecV _ σ 11
  have e : [slV 1 vecV (some [a, b]), V.fn 76 [.ptr 0 1 0 0]].mapM (frz σ 12) = some [slV 1 vecV (some [a, b]), .fn 76 [.box [slV 1 vecV (some [a, b])]]] := by
   simp only [List.mapM_cons, List.mapM_nil, hs, hc]; rfl
  have f42' := fun n lk => callE_flat (fs := true) (n := n) (lk := lk) (by decide) e (r42 a b) rfl
  by_cases hl : (lst a).length = (lst b).length
  ·have hv : vAll a b = 0 := by simp [vAll, oa, ob, hl]
   have hd : decide ((lst a).length ≠ (lst b).length) = false := by simp [hl]
   rw [hd] at f42'
   simp only [thaw] at f42'
   simp +contextual -implicitDefEqProofs (maxSteps := 2000000) only [↓wP, wS, seval, g4, g5, hv, f42']
  ·have hv : vAll a b = 151 := by simp [vAll, oa, ob, hl]
   have hd : decide ((lst a).length ≠ (lst b).length) = true := by simp [hl]
   rw [hd] at f42'
   simp only [thaw] at f42'
   simp +contextual -implicitDefEqProofs (maxSteps := 2000000) only [↓wP, wS, seval, g4, g5, hv, f42']
 ·simp +contextual -implicitDefEqProofs (maxSteps := 2000000) only [↓wP, wS, seval]
  simp
def f43 (a b : Option (List Int)) (ha : (lst a).length < 9223372036854775808) (hb : (lst b).length < 9223372036854775808) := callE_tr (by decide) (r43 a b ha hb) (by simp [Tr, Tr_slV]) rfl
end Go.Q.SD
end

section
/- Distances, walked. -/
namespace Go.Q.SD
open Go.Q
def sq (a b : List Int) (j : Nat) : Int := ((a.zip b).take j).foldl (fun n p => n + (p.1 - p.2) * (p.1 - p.2)) 0
theorem sq_zero (a b : List Int) : sq a b 0 = 0 := by simp [sq]
theorem sq_succ (a b : List Int) {j : Nat} (ha : j < a.length) (hb : j < b.length) : sq a b (j + 1) = sq a b j + (a[j] - b[j]) * (a[j] - b[j]) := by
 unfold sq
 have hz : j < (a.zip b).length := by rw [List.length_zip]; omega
 rw [← List.take_append_getElem hz, List.foldl_append]
 simp
theorem sq_le {a b : List Int} (ha : a.all okI = true) (hb : b.all okI = true) : ∀ j, j ≤ a.length → j ≤ b.length → 0 ≤ sq a b j ∧ sq a b j ≤ j * 4611686009837453316
 | 0, _, _ => by simp [sq_zero]
 | j + 1, h1, h2 => by
   obtain ⟨i1, i2⟩ := sq_le ha hb j (by omega) (by omega)
   have ha' := List.all_eq_true.1 ha a[j] (List.getElem_mem _)
   have hb' := List.all_eq_true.1 hb b[j] (List.getElem_mem _)
   rw [sq_succ a b (by omega) (by omega)]
   simp only [okI, Bool.and_eq_true, decide_eq_true_eq] at ha' hb'
   have k1 : 0 ≤ (a[j] - b[j]) * (a[j] - b[j]) := by
    rcases Int.le_total 0 (a[j] - b[j]) with h | h
    ·exact Int.mul_nonneg h h
    ·exact Int.mul_nonneg_of_nonpos_of_nonpos h h
   have k2 : (a[j] - b[j]) * (a[j] - b[j]) ≤ 2147483646 * 2147483646 := by
    rcases Int.le_total 0 (a[j] - b[j]) with h | h
    ·exact Int.mul_le_mul (by omega) (by omega) h (by omega)
    ·have : (a[j] - b[j]) * (a[j] - b[j]) = (b[j] - a[j]) * (b[j] - a[j]) := by
      rw [← Int.neg_mul_neg]; congr 1 <;> omega
     rw [this]
     exact Int.mul_le_mul (by omega) (by omega) (by omega) (by omega)
   push_cast
   omega
theorem raw96 (a b : Option (List Int)) (hl : (lst a).length = (lst b).length) (hlt : (lst a).length < 4611686018427387904) (ha : (lst a).all okI = true) (hb : (lst b).all okI = true) (l : Nat) (J : Nat → Sto → Nat → Prop)
 (hy : ∀ j (hj : j < (lst a).length) σ n, J j σ n → yieldW (run T) l [.int .i64 (lst a)[j], .int .i64 ((lst b)[j]'(by omega))] σ n 0 (fun y σ' n' => y = .bool true ∧ J (j + 1) σ' n'))
 (σ : Sto) (n : Nat) (h0 : J 0 σ n) : run T (.raw 96 [.yld l, .box [slV 1 i32V a], .box [slV 1 i32V b]] σ n 0) (memQ fun _ σ' n' => J (lst a).length σ' n') := by
 refine run_rawE (fn := g96) rfl rfl ?_
 simp only [g96, b96, zO, zN, zM, zL, zG, zP, zQ, zI, zA, zT, zF, zB, zC, zD, zE, zH, zJ, zK]
 simp +contextual -implicitDefEqProofs (maxSteps := 2000000) only [↓wP, wS, seval]
 refine WC_for (lst a).length 0 (fun (j : Nat) env σ n => env 0 = .yld l ∧ env 2 = .box [slV 1 i32V b] ∧ env 6 = slV 1 i32V a ∧ J j σ n) (by omega) (by decide) (by decide) (fun _ _ => rfl) (fun _ _ _ => rfl) ?_ ?_ _ _ _ rfl rfl ?_
 ·intro j env σ n hj h1 h2 ⟨h3, h4, h5, h6⟩
  simp only [vl_tmp] at h2
  have hx : (lst a)[j]? = some (lst a)[j] := List.getElem?_eq_getElem hj
  have hz : (lst b)[j]? = some ((lst b)[j]'(by omega)) := List.getElem?_eq_getElem (by omega)
  have hq := hy j hj σ n h6
  have ha' := List.all_eq_true.1 ha (lst a)[j] (List.getElem_mem _)
  have hb' := List.all_eq_true.1 hb ((lst b)[j]'(by omega)) (List.getElem_mem _)
  generalize (lst a)[j] = x at *
  generalize (lst b)[j]'(by omega) = y at *
  simp only [okI, Bool.and_eq_true, decide_eq_true_eq] at ha' hb'
  have w1 : IntKind.i64.wrap x = x := by rw [wrap_i64] <;> omega
  have w2 : IntKind.i64.wrap y = y := by rw [wrap_i64] <;> omega
  simp +contextual -implicitDefEqProofs (maxSteps := 2000000) only [↓wP, wS, seval, h1, h2, h3, h4, h5, hx, hz, i32V, w1, w2]
  refine stepW_yld (yieldW_mono (fun _ _ x => x) run_mono (fun y σ' n' ⟨hy1, hy2⟩ => ?_) hq)
  subst hy1
  simp +contextual -implicitDefEqProofs (maxSteps := 2000000) only [↓wP, wS, seval, h1, h2, h3, h4, h5]
  exact hy2
 ·intro env σ n ⟨h3, h4, h5, h6⟩ h1 h2
  simp +contextual -implicitDefEqProofs (maxSteps := 2000000) only [↓wP, wS, seval]
  exact h6
 ·simp +contextual -implicitDefEqProofs (maxSteps := 2000000) only [↓wP, wS, seval]
  exact h0
theorem r77 (a b : Option (List Int)) : res T 77 [slV 1 i32V a, slV 1 i32V b] = some (.fn 96 [.box [slV 1 i32V a], .box [slV 1 i32V b]]) := by
 refine run_res (run_pure (fn := g77) rfl rfl (by decide) ?_)
 simp only [g77, b77, zO, zN, zM, zL, zG, zP, zQ, zI, zA, zT, zF, zB, zC, zD, zE, zH, zJ, zK]
 simp +contextual -implicitDefEqProofs (maxSteps := 2000000) only [↓wP, wS, seval]
def f77 (a b : Option (List Int)) := callE_tr (by decide) (r77 a b) (by simp [Tr, Tr_slV]) rfl
def asg44 : AC := (.seq (.reg [⟨(some 6), none, .mov (.tmp 12)⟩]) (.reg [⟨(some 7), none, .mov (.tmp 13)⟩]))
def bd44 : AC := (.block 1 (.seq (.reg [⟨(some 14), none, .mov (.tmp 6)⟩,
 ⟨(some 15), none, .mov (.tmp 7)⟩,
 ⟨(some 16), none, .bin .sub (.tmp 14) (.tmp 15)⟩,
 ⟨(some 17), none, .mov (.tmp 7)⟩,
 ⟨(some 18), none, .mov (.tmp 6)⟩,
 ⟨(some 19), none, .bin .sub (.tmp 17) (.tmp 18)⟩,
 ⟨(some 20), none, .max [(.tmp 16), (.tmp 19)]⟩,
 ⟨(some 21), none, .conv .u64 (.tmp 20)⟩,
 ⟨(some 8), none, .mov (.tmp 21)⟩])
 (.reg [⟨(some 22), none, .load false 1 (.tmp 5)⟩,
  ⟨(some 23), none, .mov (.tmp 8)⟩,
  ⟨(some 24), none, .mov (.tmp 8)⟩,
  ⟨(some 25), none, .bin .mul (.tmp 23) (.tmp 24)⟩,
  ⟨(some 26), none, .bin .add (.tmp 22) (.tmp 25)⟩,
  ⟨none, none, .store 1 (.tmp 5) (.tmp 26)⟩])))
theorem w_asg44 (env : Nat → V) (σ : Sto) (n lk : Nat) (Q : Ex → St → Prop) : WC T asg44 env σ n lk Q = WC T (.seq (.reg [⟨(some 6), none, .mov (.tmp 12)⟩]) (.reg [⟨(some 7), none, .mov (.tmp 13)⟩])) env σ n lk Q := rfl
theorem w_bd44 (env : Nat → V) (σ : Sto) (n lk : Nat) (Q : Ex → St → Prop) : WC T bd44 env σ n lk Q = WC T (.block 1 (.seq (.reg [⟨(some 14), none, .mov (.tmp 6)⟩,
 ⟨(some 15), none, .mov (.tmp 7)⟩,
 ⟨(some 16), none, .bin .sub (.tmp 14) (.tmp 15)⟩,
 ⟨(some 17), none, .mov (.tmp 7)⟩,
 ⟨(some 18), none, .mov (.tmp 6)⟩,
 ⟨(some 19), none, .bin .sub (.tmp 17) (.tmp 18)⟩,
 ⟨(some 20), none, .max [(.tmp 16), (.tmp 19)]⟩,
 ⟨(some 21), none, .conv .u64 (.tmp 20)⟩,
 ⟨(some 8), none, .mov (.tmp 21)⟩])
 (.reg [⟨(some 22), none, .load false 1 (.tmp 5)⟩,
  ⟨(some 23), none, .mov (.tmp 8)⟩,
  ⟨(some 24), none, .mov (.tmp 8)⟩,
  ⟨(some 25), none, .bin .mul (.tmp 23) (.tmp 24)⟩,
  ⟨(some 26), none, .bin .add (.tmp 22) (.tmp 25)⟩,
  ⟨none, none, .store 1 (.tmp 5) (.tmp 26)⟩]))) env σ n lk Q := rfl
def Jd (a b : List Int) (env : Nat → V) (j : Nat) (σ : Sto) (n : Nat) : Prop :=
 1 < n ∧ σ 0 = some (.row 1 [.int .u64 (sq a b j)]) ∧ σ 1 = some (.loop env [12, 13] asg44 bd44 .ready none)
theorem hy44 (a b : List Int) (hl : a.length = b.length) (h4 : a.length ≤ 4) (ha : a.all okI = true) (hb : b.all okI = true) (env : Nat → V) (he : env 5 = .ptr 0 1 0 0) (j : Nat) (hj : j < a.length) (σ : Sto) (n : Nat) (hJ : Jd a b env j σ n) :
 yieldW (run T) 1 [.int .i64 a[j], .int .i64 (b[j]'(by omega))] σ n 0 (fun y σ' n' => y = .bool true ∧ Jd a b env (j + 1) σ' n') := by
 obtain ⟨h1, h2, h3⟩ := hJ
 refine yieldW_go h3 rfl (Nat.zero_le _) ?_
 obtain ⟨q1, q2⟩ := sq_le ha hb j (by omega) (by omega)
 obtain ⟨p1, p2⟩ := sq_le ha hb (j + 1) (by omega) (by omega)
 have hs := sq_succ a b hj (by omega)
 have ha' := List.all_eq_true.1 ha a[j] (List.getElem_mem _)
 have hb' := List.all_eq_true.1 hb (b[j]'(by omega)) (List.getElem_mem _)
 have hJ' : ∀ (ob : Option Ob) (u : Option Ob), u = some (.row 1 [.int .u64 (sq a b (j + 1))]) → ob = some (.loop env [12, 13] asg44 bd44 .ready none) → ∀ σ' : Sto, σ' 0 = u → σ' 1 = ob → Jd a b env (j + 1) σ' n := by
  rintro _ _ rfl rfl σ' g1 g2
  exact ⟨h1, g1, g2⟩
 rw [hs] at p1 p2 hJ'
 generalize a[j] = x at *
 generalize b[j]'(by omega) = y at *
 generalize sq a b j = s at *
 simp only [okI, Bool.and_eq_true, decide_eq_true_eq] at ha' hb'
 have w1 : IntKind.i64.wrap (x - y) = x - y := by rw [wrap_i64] <;> omega
 have w2 : IntKind.i64.wrap (y - x) = y - x := by rw [wrap_i64] <;> omega
 push_cast at p2
 have hmx : ∃ d : Int, (if x - y < y - x then y - x else x - y) = d ∧ 0 ≤ d ∧ d ≤ 2147483646 ∧ d * d = (x - y) * (x - y) := by
  split
  ·refine ⟨_, rfl, by omega, by omega, ?_⟩
   rw [← Int.neg_mul_neg]; congr 1 <;> omega
  ·exact ⟨_, rfl, by omega, by omega, rfl⟩
 obtain ⟨d, hd, d1, d2, d3⟩ := hmx
 have w3 : IntKind.u64.wrap d = d := by rw [wrap_u64] <;> omega
 have k1 : 0 ≤ d * d := Int.mul_nonneg d1 d1
 have k2 : d * d ≤ 2147483646 * 2147483646 := Int.mul_le_mul d2 d2 d1 (by decide)
 have w4 : IntKind.u64.wrap (d * d) = (x - y) * (x - y) := by rw [d3, wrap_u64] <;> omega
 have w5 : IntKind.u64.wrap (s + (x - y) * (x - y)) = s + (x - y) * (x - y) := by rw [wrap_u64] <;> omega
 simp +contextual -implicitDefEqProofs (maxSteps := 2000000) only [↓wP, wS, seval, bind_cons, bind_nil, w_asg44, w_bd44, he, h2, h3, w1, w2, hd, w3, w4, w5]
 exact hJ' _ _ rfl rfl _ (by simp [upd]) (by simp [upd])
structure Two (a b : Option (List Int)) : Prop where
 ha : okV a = true
 hb : okV b = true
 hl : (lst a).length = (lst b).length
theorem okV_len {a : Option (List Int)} (h : okV a = true) : (lst a).length ≤ 4 ∧ (lst a).all okI = true := by
 simp only [okV, Bool.and_eq_true, decide_eq_true_eq] at h
 exact ⟨h.1.2, h.2⟩
def distI (a b : Option (List Int)) : Int := sq (lst a) (lst b) (lst a).length
theorem r44 (a b : Option (List Int)) (h : Two a b) : res T 44 [slV 1 i32V a, slV 1 i32V b] = some (.int .u64 (distI a b)) := by
 refine run_res (run_pure (fn := g44) rfl rfl (by decide) ?_)
 simp only [g44, b44, zO, zN, zM, zL, zG, zP, zQ, zI, zA, zT, zF, zB, zC, zD, zE, zH, zJ, zK]
 obtain ⟨oa, ob, hl⟩ := h
 obtain ⟨a1, a2⟩ := okV_len oa
 obtain ⟨b1, b2⟩ := okV_len ob
 have f := f77 a b
 simp +contextual -implicitDefEqProofs (maxSteps := 2000000) only [↓wP, wS, seval, f]
 generalize hE : pt (pt (pt (pt (pt (envOf [slV 1 i32V a, slV 1 i32V b]) 4 (V.int IntKind.u64 0)) 5 (V.ptr 0 1 0 0)) 9 (slV 1 i32V a)) 10 (slV 1 i32V b)) 11 (V.fn 96 [V.box [slV 1 i32V a], V.box [slV 1 i32V b]]) = env
 have e5 : env 5 = .ptr 0 1 0 0 := by rw [← hE]; rfl
 have e11 : env 11 = V.fn 96 [V.box [slV 1 i32V a], V.box [slV 1 i32V b]] := by rw [← hE]; rfl
 clear hE
 refine WC_rangeF (f := 96) (caps := [.box [slV 1 i32V a], .box [slV 1 i32V b]]) e11 (Nat.zero_le _) ?_
 refine run_mono _ _ _ (fun o ho => ?_) (raw96 a b hl (by omega) a2 b2 _ (Jd (lst a) (lst b) env) (fun j hj σ n hJ => hy44 (lst a) (lst b) hl a1 a2 b2 _ e5 j hj σ n hJ) _ _ ⟨by decide, by simp [upd, sq_zero], rfl⟩)
 cases o <;> try exact ho.elim
 obtain ⟨h1, h2, h3⟩ := ho
 refine ⟨_, _, _, _, _, _, h3, by decide, ?_⟩
 simp +contextual -implicitDefEqProofs (maxSteps := 2000000) only [↓wP, wS, seval, Option.getD_none, h2, e5]
 rfl
def f44 (a b : Option (List Int)) (h : Two a b) := callE_tr (by decide) (r44 a b h) (by simp [Tr, Tr_slV]) rfl
def disE (a b : Option (List Int)) : Int := vAll a b
def disV (a b : Option (List Int)) : Int := if vAll a b = 0 then distI a b else 0
theorem vAll_two {a b : Option (List Int)} (h : vAll a b = 0) : Two a b := by
 unfold vAll at h
 split at h
 ·rename_i h1
  simp only [Bool.and_eq_true] at h1
  split at h
  ·rename_i h2; exact ⟨h1.1, h1.2, h2⟩
  ·cases h
 ·cases h
theorem r63 (a b : Option (List Int)) (ha : (lst a).length < 9223372036854775808) (hb : (lst b).length < 9223372036854775808) : res T 63 [slV 1 i32V a, slV 1 i32V b] = some (.tup [.int .u64 (disV a b), .int .i64 (disE a b)]) := by
 refine run_res (run_pure (fn := g63) rfl rfl (by decide) ?_)
 simp only [g63, b63, zO, zN, zM, zL, zG, zP, zQ, zI, zA, zT, zF, zB, zC, zD, zE, zH, zJ, zK]
 have e : [V.ref 0 0 2 1].mapM (frz (upd Sto.empty 0 (some (.row 1 [slV 1 i32V a, slV 1 i32V b]))) 12) = some [slV 1 vecV (some [a, b])] := by
  have hx : frz (upd Sto.empty 0 (some (.row 1 [slV 1 i32V a, slV 1 i32V b]))) 12 (.ref 0 0 2 1) = some (.sl 1 [slV 1 i32V a, slV 1 i32V b]) := by
   have ht : ∀ x ∈ [slV 1 i32V a, slV 1 i32V b], x = slV 1 i32V a ∨ x = slV 1 i32V b := fun x hx => by simpa using hx
   exact (Fz.ref (σ := upd Sto.empty 0 (some (.row 1 [slV 1 i32V a, slV 1 i32V b]))) (id := 0) (sz := 1) (xs := [slV 1 i32V a, slV 1 i32V b]) (ts := [slV 1 i32V a, slV 1 i32V b]) (k := 11) (S := fun _ => True) (by simp [upd]) trivial
    (FzL.trees (fun x hx => by rcases ht x hx with rfl | rfl <;> exact Tr_slV 1 _ _ _) (fun x hx c hc => by rcases ht x hx with rfl | rfl <;> (rw [cl_slV, List.mem_singleton] at hc; subst hc; exact Tr_slV 1 _ _ _)))).1
  simp only [List.mapM_cons, List.mapM_nil, hx]
  rfl
 have f43' := fun n lk => callE_flat (fs := true) (n := n) (lk := lk) (by decide) e (r43 a b ha hb) rfl
 simp only [thaw] at f43'
 by_cases hv : vAll a b = 0
 ·have f := f44 a b (vAll_two hv)
  rw [hv] at f43'
  have e1 : disE a b = 0 := hv
  have e2 : disV a b = distI a b := by simp [disV, hv]
  simp +contextual -implicitDefEqProofs (maxSteps := 2000000) only [↓wP, wS, seval, f43', f, e1, e2]
 ·have hd : (vAll a b != 0) = true := by simpa using hv
  have e1 : disE a b = vAll a b := rfl
  have e2 : disV a b = 0 := by simp [disV, hv]
  simp +contextual -implicitDefEqProofs (maxSteps := 2000000) only [↓wP, wS, seval, f43', e1, e2, hd]
def f63 (a b : Option (List Int)) (ha : (lst a).length < 9223372036854775808) (hb : (lst b).length < 9223372036854775808) := callE_tr (by decide) (r63 a b ha hb) (by simp [Tr, Tr_slV]) rfl
end Go.Q.SD
end

section
/- Distances by definition; hits. -/
namespace Go.Q.SD
open Go.Q
theorem r58 (q v : Option (List Int)) (k id : Int) (hq : (lst q).length < 9223372036854775808) (hv : (lst v).length < 9223372036854775808) : res T 58 [.agg [slV 1 i32V q, .int .i64 k], .int .u64 id, slV 1 i32V v] = some (.tup [.agg [.int .u64 id, .int .u64 (disV q v)], .int .i64 (disE q v)]) := by
 refine run_res (run_pure (fn := g58) rfl rfl (by decide) ?_)
 simp only [g58, b58, zO, zN, zM, zL, zG, zP, zQ, zI, zA, zT, zF, zB, zC, zD, zE, zH, zJ, zK]
 have f := f63 q v hq hv
 simp +contextual -implicitDefEqProofs (maxSteps := 2000000) only [↓wP, wS, seval, f]
def f58 (q v : Option (List Int)) (k id : Int) (hq : (lst q).length < 9223372036854775808) (hv : (lst v).length < 9223372036854775808) := callE_tr (by decide) (r58 q v k id hq hv) (by simp [Tr, Tr_slV]) rfl
end Go.Q.SD
end

section
/- The layer does something. -/
namespace Go.Q.SD
open Go.Q
def isTrue' : Option Out → Bool
 | some (.val (.bool true)) => true
 | _ => false
theorem isTrue_eq {o : Option Out} (h : isTrue' o = true) : o = some (.val (.bool true)) := by
 unfold isTrue' at h
 split at h
 ·rfl
 ·cases h
theorem r4 : res T 4 [] = some (.bool true) := by
 have h : isTrue' (exJob T 150 (.pure 4 [])) = true := by decide +kernel
 exact run_res (exJob_sound 150 _ _ (isTrue_eq h))
theorem f4 (fs : Bool) (σ : Sto) (n lk : Nat) : callE T fs 4 [] σ n lk = some (.bool true, σ, n) := callE_tr (by decide) r4 rfl rfl fs σ n lk
end Go.Q.SD
end

section
/- Centroids: which may be. -/
namespace Go.Q.SD
open Go.Q Go.Sort
open Nat renaming reduceEqDiff → n1w, reduceAdd → n2w, reduceSub → n3w, reduceLeDiff → n4w, reduceLT → n5w, reduceMul → n6w
open Int renaming reduceBNe → i1w, reduceBEq → i2w, reduceLT → i3w, reduceLE → i4w, reduceGT → i5w
abbrev Vc := Option (List Int)
def Sm (v : Vc) : Prop := (lst v).length < 9223372036854775808
def ofE (v : Vc) (n : Int) : Int := if okV v then (if ((lst v).length : Int) = n then 0 else 151) else 150
theorem r41 (v : Vc) (m : Int) (hv : Sm v) : res T 41 [slV 1 i32V v, .int .i64 m] = some (.int .i64 (ofE v m)) := by
 refine run_res (run_pure (fn := g41) rfl rfl (by decide) ?_)
 simp only [g41, b41, zO, zN, zM, zL, zG, zP, zQ, zI, zA, zT, zF, zB, zC, zD, zE, zH, zJ, zK]
 have h := f36 v hv
 unfold ofE
 cases hk : okV v
 ·rw [hk] at h
  simp +contextual -implicitDefEqProofs (maxSteps := 2000000) only [↓wP, wS, seval, h]
 ·rw [hk] at h
  by_cases hn : ((lst v).length : Int) = m
  ·subst hn
   simp +contextual -implicitDefEqProofs (maxSteps := 2000000) only [↓wP, wS, seval, h]
  ·have hn' : (((lst v).length : Int) != m) = true := by simpa using hn
   simp +contextual -implicitDefEqProofs (maxSteps := 2000000) only [↓wP, wS, seval, h, hn, hn']
def f41 (v : Vc) (m : Int) (hv : Sm v) := callE_tr (by decide) (r41 v m hv) (by simp [Tr, Tr_slV]) rfl
def dm (c : Option (List Vc)) : Nat := match lst c with
 | [] => 0
 | v :: _ => (lst v).length
theorem dm_get {c : Option (List Vc)} (h : lst c ≠ []) : ∃ v, (lst c)[0]? = some v ∧ dm c = (lst v).length := by
 unfold dm
 cases hc : lst c with
 | nil => exact absurd hc h
 | cons v l => exact ⟨v, rfl, rfl⟩
def okC (c : Option (List Vc)) (v : Vc) : Bool := okV v && decide ((lst v).length = dm c)
theorem ofE_ok (c : Option (List Vc)) (v : Vc) : (ofE v ((dm c : Nat) : Int) != 0) = !okC c v := by
 unfold ofE okC
 by_cases h1 : okV v = true
 ·by_cases h2 : (lst v).length = dm c
  ·have : ((lst v).length : Int) = ((dm c : Nat) : Int) := by omega
   simp [h1, h2]
  ·have : ¬ ((lst v).length : Int) = ((dm c : Nat) : Int) := by omega
   simp [h1, h2, this]
 ·simp [h1]
theorem r40 (v : Vc) (c : Option (List Vc)) (hc : lst c ≠ []) (hv : Sm v) : res T 40 [slV 1 i32V v, .box [slV 1 vecV c]] = some (.bool (!okC c v)) := by
 refine run_res (run_pure (fn := g40) rfl rfl (by decide) ?_)
 simp only [g40, b40, zO, zN, zM, zL, zG, zP, zQ, zI, zA, zT, zF, zB, zC, zD, zE, zH, zJ, zK]
 obtain ⟨v0, h0, hd⟩ := dm_get hc
 have h := f41 v ((dm c : Nat) : Int) hv
 have h2 := ofE_ok c v
 rw [hd] at h h2
 simp +contextual -implicitDefEqProofs (maxSteps := 2000000) only [↓wP, wS, seval, h0, vecV_eq, h, h2]
def f40 (v : Vc) (c : Option (List Vc)) (hc : lst c ≠ []) (hv : Sm v) := callE_tr (by decide) (r40 v c hc hv) (by simp [Tr, Tr_slV]) rfl
theorem r65g (o : Option (List Vc)) (F : Nat) (caps : List V) (p : Vc → Bool) (hl : (lst o).length < 9223372036854775808) (hp : ∀ x ∈ lst o, ∀ fs σ n lk, callE T fs F (slV 1 i32V x :: caps) σ n lk = some (.bool (p x), σ, n)) :
 res T 75 [slV 1 vecV o, .fn F caps] = some (.int .i64 (idxF p (lst o))) := by
 refine run_res (run_pure (fn := g75) rfl rfl (by decide) ?_)
 simp only [g75, b75, zO, zN, zM, zL, zG, zP, zQ, zI, zA, zT, zF, zB, zC, zD, zE, zH, zJ, zK]
 simp +contextual -implicitDefEqProofs (maxSteps := 2000000) only [↓wP, wS, seval]
 refine WC_for (lst o).length 0 (fun (j : Nat) env _ _ => env 0 = slV 1 vecV o ∧ env 1 = .fn F caps ∧ (lst o).findIdx? p = (((lst o).drop j).findIdx? p).map (· + j)) (by omega) (by decide) (by decide) (fun _ _ => rfl) (fun _ _ _ => rfl) ?_ ?_ _ _ _ rfl rfl ?_
 ·intro j env σ n hj h1 h2 ⟨h3, h4, h5⟩
  simp only [vl_tmp] at h2
  have hx : (lst o)[j]? = some (lst o)[j] := List.getElem?_eq_getElem hj
  have hp' := hp (lst o)[j] (List.getElem_mem hj)
  simp +contextual -implicitDefEqProofs (maxSteps := 2000000) only [↓wP, wS, seval, h1, h2, h3, h4, hx, vecV_eq, hp']
  rw [List.drop_eq_getElem_cons hj, List.findIdx?_cons] at h5
  refine condC_split (fun hb => ?_) (fun hb => ?_)
  ·simp +contextual -implicitDefEqProofs (maxSteps := 2000000) only [↓wP, wS, seval]
   simp [idxF, h5, hb]
  ·simp +contextual -implicitDefEqProofs (maxSteps := 2000000) only [↓wP, wS, seval, h1, h2, h3, h4]
   rw [h5, hb]
   simp only [Bool.false_eq_true, if_false, Option.map_map, Function.comp_def]
   congr 1; funext i; omega
 ·intro env σ n ⟨h3, h4, h5⟩ h1 h2
  simp +contextual -implicitDefEqProofs (maxSteps := 2000000) only [↓wP, wS, seval]
  simp [idxF, h5]
 ·exact ⟨rfl, rfl, by simp⟩
def cents (c : Option (List Vc)) : Bool := decide ((lst c).length ≤ 6) && (lst c).all (okC c)
theorem r53g (c : Option (List Vc)) (hl : (lst c).length < 9223372036854775808) (hv : ∀ v ∈ lst c, Sm v) : res T 42 [slV 1 vecV c, .fn 40 [.box [slV 1 vecV c]]] = some (.bool (!(lst c).all (okC c))) := by
 refine run_res (run_pure (fn := g42) rfl rfl (by decide) ?_)
 simp only [g42, b42, zO, zN, zM, zL, zG, zP, zQ, zI, zA, zT, zF, zB, zC, zD, zE, zH, zJ, zK]
 have h := r65g c 40 [.box [slV 1 vecV c]] (fun v => !okC c v) hl (fun x hx fs σ n lk => f40 x c (fun h => by rw [h] at hx; simp at hx) (hv x hx) fs σ n lk)
 have hm : T.mode 75 ≠ .raw := by decide
 have ha : ((lst c).any fun v => !okC c v) = !(lst c).all (okC c) := by rw [List.not_all_eq_any_not]
 simp +contextual -implicitDefEqProofs (maxSteps := 2000000) only [↓wP, wS, seval, h, callE_eq hm, idxF_any, ha]
theorem r16 (c : Option (List Vc)) (hl : (lst c).length < 9223372036854775808) (hv : ∀ v ∈ lst c, Sm v) : res T 16 [slV 1 vecV c] = some (.bool (cents c)) := by
 refine run_res (run_pure (fn := g16) rfl rfl (by decide) ?_)
 simp only [g16, b16, zO, zN, zM, zL, zG, zP, zQ, zI, zA, zT, zF, zB, zC, zD, zE, zH, zJ, zK]
 unfold cents
 by_cases h6 : (6 : Int) < ((lst c).length : Int)
 ·have : ¬ (lst c).length ≤ 6 := by omega
  simp +contextual -implicitDefEqProofs (maxSteps := 2000000) only [↓wP, wS, seval, h6, this]
 ·have : (lst c).length ≤ 6 := by omega
  have h := r53g c hl hv
  have hm : T.mode 42 ≠ .raw := by decide
  have ef : ∀ σ n, σ n = some (.row 1 [slV 1 vecV c]) → [slV 1 vecV c, V.fn 40 [.ptr n 1 0 0]].mapM (frz σ 12) = some [slV 1 vecV c, .fn 40 [.box [slV 1 vecV c]]] := by
   intro σ n hn
   have hx : frz σ 12 (.fn 40 [.ptr n 1 0 0]) = some (.fn 40 [.box [slV 1 vecV c]]) := by
    simp +contextual -implicitDefEqProofs (maxSteps := 2000000) only [↓wP, wS, seval, hn, frz_fn, frz_ptr, frz_slV, cl_slV]
   simp only [List.mapM_cons, List.mapM_nil, frz_slV, hx]; rfl
  have f42 := fun n lk => callE_flat (fs := true) (n := n) (lk := lk) (by decide) (ef (upd Sto.empty 0 (some (.row 1 [slV 1 vecV c]))) 0 (by rw [upd_self])) h rfl
  simp +contextual -implicitDefEqProofs (maxSteps := 2000000) only [↓wP, wS, seval, h6, this, f42]
def f16 (c : Option (List Vc)) (hl : (lst c).length < 9223372036854775808) (hv : ∀ v ∈ lst c, Sm v) := callE_tr (by decide) (r16 c hl hv) (by simp [Tr, Tr_slV]) rfl
def zm : V := .agg [.int .u64 0, .int .u64 0]
def isZm : Option Out → Bool
 | some (.val (.agg [.int .u64 0, .int .u64 0])) => true
 | _ => false
theorem isZm_eq {o : Option Out} (h : isZm o = true) : o = some (.val zm) := by
 unfold isZm at h
 split at h
 ·rfl
 ·cases h
def isI0 : Option Out → Bool
 | some (.val (.int .i64 0)) => true
 | _ => false
theorem isI0_eq {o : Option Out} (h : isI0 o = true) : o = some (.val (.int .i64 0)) := by
 unfold isI0 at h
 split at h
 ·rfl
 ·cases h
theorem r59z (i : Nat) (hi : i < 6) : res T 50 [.sl 2 (List.replicate i zm)] = some zm := by
 have h : ∀ i < 6, isZm (exJob T 60 (.pure 50 [.sl 2 (List.replicate i zm)])) = true := by decide +kernel
 exact run_res (exJob_sound 60 _ _ (isZm_eq (h i hi)))
theorem r58z : res T 25 [.sl 2 [zm, zm]] = some zm := run_res (exJob_sound 60 _ _ (isZm_eq (by decide +kernel)))
theorem r60z : res T 51 [zm] = some (.int .i64 0) := run_res (exJob_sound 60 _ _ (isI0_eq (by decide +kernel)))
theorem r61z : res T 52 [zm] = some (.int .i64 0) := run_res (exJob_sound 60 _ _ (isI0_eq (by decide +kernel)))
theorem f59z (i : Nat) (hi : i < 6) (fs : Bool) (σ : Sto) (n lk : Nat) : callE T fs 50 [.sl 2 (List.replicate i zm)] σ n lk = some (zm, σ, n) := callE_tr (by decide) (r59z i hi) (by simp [Tr]) rfl fs σ n lk
theorem f60z (fs : Bool) (σ : Sto) (n lk : Nat) : callE T fs 51 [zm] σ n lk = some (.int .i64 0, σ, n) := callE_tr (by decide) r60z rfl rfl fs σ n lk
theorem f61z (fs : Bool) (σ : Sto) (n lk : Nat) : callE T fs 52 [zm] σ n lk = some (.int .i64 0, σ, n) := callE_tr (by decide) r61z rfl rfl fs σ n lk
theorem f58z {σ : Sto} {id : Nat} (h : σ id = some (.row 2 [.agg [.int .u64 0, .int .u64 0], .agg [.int .u64 0, .int .u64 0]])) (fs : Bool) (n lk : Nat) :
 callE T fs 25 [.ref id 0 2 2] σ n lk = some (.agg [.int .u64 0, .int .u64 0], σ, n) := by
 have e : [V.ref id 0 2 2].mapM (frz σ 12) = some [.sl 2 [zm, zm]] := by
  simp [frz, elems, h, elemM, zm]
 rw [callE_flat (by decide) e r58z rfl]; rfl
theorem r45z (c : Option (List Vc)) (hl : (lst c).length < 9223372036854775808) (hv : ∀ v ∈ lst c, Sm v) :
 res T 21 [.agg [slV 1 vecV c, .sl 2 (List.replicate (lst c).length zm)]] = some (.int .i64 (if cents c then 0 else 230)) := by
 refine run_res (run_pure (fn := g21) rfl rfl (by decide) ?_)
 simp only [g21, b21, zO, zN, zM, zL, zG, zP, zQ, zI, zA, zT, zF, zB, zC, zD, zE, zH, zJ, zK]
 have f16' := f16 c hl hv
 have hMM : (((lst c).length : Int) != ((lst c).length : Int)) = false := by simp
 have hle : lenE (.sl 2 (List.replicate (lst c).length zm)) = some (.int .i64 ((lst c).length : Int)) := by simp [lenE, lenOf]
 cases hc : cents c
 ·rw [hc] at f16'
  simp +contextual -implicitDefEqProofs (maxSteps := 2000000) only [↓wP, wS, seval, f16', hle, hMM]
 ·rw [hc] at f16'
  have h6 : (lst c).length ≤ 6 := by unfold cents at hc; simp only [Bool.and_eq_true, decide_eq_true_eq] at hc; exact hc.1
  simp +contextual -implicitDefEqProofs (maxSteps := 2000000) only [↓wP, wS, seval, f16', hle, hMM]
  obtain ⟨Z, hZ⟩ : ∃ Z, Z = List.replicate (lst c).length zm := ⟨_, rfl⟩
  rw [← hZ] at hle ⊢
  have hB := big_le
  refine WC_for (lst c).length 0 (fun (j : Nat) env σ n => env 1 = .ptr 0 2 0 0 ∧ env 20 = .sl 2 Z ∧ 0 < n ∧ σ 0 = some (.row 2 [.agg [slV 1 vecV c, .sl 2 Z]])) hl (by decide) (by decide) (fun _ _ => rfl) (fun _ _ _ => rfl) ?_ ?_ _ _ _ rfl rfl ?_
  ·intro j env σ n hj h1 h2 ⟨g1, g2, g3, g4⟩
   simp only [vl_tmp] at h2
   have z1 : Z[j]? = some (.agg [.int .u64 0, .int .u64 0]) := by rw [hZ, List.getElem?_replicate, if_pos hj]; rfl
   have z2 : Z.take j = List.replicate j zm := by rw [hZ, List.take_replicate, Nat.min_eq_left (by omega)]
   have z3 : (j ≤ Z.length) = True := by rw [hZ, List.length_replicate]; simp; omega
   have c59 := f59z j (by omega)
   simp only [zm] at c59 z2
   obtain ⟨S, hS⟩ : ∃ S, S = upd (upd σ n (some (Ob.row 2 [V.agg [V.int IntKind.u64 0, V.int IntKind.u64 0]]))) n (some (Ob.row 2 [V.agg [V.int IntKind.u64 0, V.int IntKind.u64 0]])) := ⟨_, rfl⟩
   have s0 : S 0 = some (.row 2 [.agg [slV 1 vecV c, .sl 2 Z]]) := by rw [hS, upd_ne (by omega), upd_ne (by omega)]; exact g4
   have s1 : S n = some (.row 2 [.agg [.int .u64 0, .int .u64 0]]) := by rw [hS, upd_self]
   have y0 : ∀ hid, hide S (n + 1) (n + 1) hid 0 = S 0 := fun hid => hide_low _ _ _ _ (by omega) (Nat.le_refl _)
   have y1 : ∀ hid, hide S (n + 1) (n + 1) hid n = S n := fun hid => hide_low _ _ _ _ (by omega) (Nat.le_refl _)
   obtain ⟨S1, hS1⟩ : ∃ S1, S1 = merge S (upd (hide S (n + 1) (n + 1) [1]) (n + 1) (some (Ob.row 2 [V.agg [V.int IntKind.u64 0, V.int IntKind.u64 0], V.agg [V.int IntKind.u64 0, V.int IntKind.u64 0]]))) (n + 1) := ⟨_, rfl⟩
   have t1 : S1 (n + 1) = some (.row 2 [.agg [.int .u64 0, .int .u64 0], .agg [.int .u64 0, .int .u64 0]]) := by rw [hS1, merge_in _ _ _ (Nat.le_refl _) (by omega)]; simp [upd]
   have u1 : (n + 2 ≤ n + (1 + BIG)) = True := by simp; omega
   obtain ⟨m, hm⟩ : ∃ m, m = n + (1 + BIG * 1) := ⟨_, rfl⟩
   have c58 := f58z (σ := hide S1 (n + 1) m [1]) (id := n + 1) (by
    have e1 : n + 1 < m := by omega
    have e2 : ¬ (n + 1 + BIG * 1 ≤ n + 1 ∧ n + 1 < n + 1 + BIG * 1 + BIG) := by omega
    simp only [hide, hideR, e1, e2, if_true, if_false]
    exact t1) false m m
   obtain ⟨S2, hS2⟩ : ∃ S2, S2 = merge S1 (upd (hide S1 (n + 1) m [0]) m (some (Ob.row 2 [V.agg [V.int IntKind.u64 0, V.int IntKind.u64 0]]))) m := ⟨_, rfl⟩
   have t2 : S2 m = some (.row 2 [.agg [.int .u64 0, .int .u64 0]]) := by rw [hS2, merge_in _ _ _ (Nat.le_refl _) (by omega)]; simp [upd]
   have t3 : S2 n = some (.row 2 [.agg [.int .u64 0, .int .u64 0]]) := by rw [hS2, merge_low _ _ _ (by omega), hS1, merge_low _ _ _ (by omega)]; exact s1
   have t4 : S2 0 = some (.row 2 [.agg [slV 1 vecV c, .sl 2 Z]]) := by rw [hS2, merge_low _ _ _ (by omega), hS1, merge_low _ _ _ (by omega)]; exact s0
   have c60 := f60z
   have c61 := f61z
   simp only [zm] at c60 c61
   have v1 : n ≠ m := by omega
   have u3 : (m + 1 ≤ m + BIG) = True := by simp; omega
   have v0 : 0 ≠ m := by omega
   simp +contextual -implicitDefEqProofs (maxSteps := 2000000) only [↓wP, wS, seval, h1, h2, g1, g2, z1, z2, z3, ← hS, s0, s1, y0, y1, c59, u1, ← hS1, ← hm, c58, ← hS2, t2, t3, c60, c61, v1, u3]
   exact ⟨by omega, by rw [if_neg v0]; exact t4⟩
  ·intro env σ n h h1 h2
   simp +contextual -implicitDefEqProofs (maxSteps := 2000000) only [↓wP, wS, seval]
  ·simp +contextual -implicitDefEqProofs (maxSteps := 2000000) only [↓wP, wS, seval]
def trE (c : Option (List Vc)) : Int := if lst c = [] then 240 else if cents c then 0 else 230
theorem r27 (c : Option (List Vc)) (hl : (lst c).length ≤ 7) (hv : ∀ v ∈ lst c, Sm v) : res T 27 [slV 1 vecV c] = some (.int .i64 (trE c)) := by
 refine run_res (run_pure (fn := g27) rfl rfl (by decide) ?_)
 simp only [g27, b27, zO, zN, zM, zL, zG, zP, zQ, zI, zA, zT, zF, zB, zC, zD, zE, zH, zJ, zK]
 unfold trE
 by_cases h0 : lst c = []
 ·have z0 : (((0 : Nat) : Int) == 0) = true := rfl
  simp +contextual -implicitDefEqProofs (maxSteps := 2000000) only [↓wP, wQ, wQ1, wQ2, wQ3, wR, boxE, partsOf, ↓reduceIte, n1w, n2w, n3w, n4w, n5w, n6w, reduceCtorEq, i1w, i2w, i3w, i4w, i5w, h0, List.length_nil, z0]
 ·have hp : 0 < (lst c).length := List.length_pos_iff.2 h0
  have hne : (((lst c).length : Int) == 0) = false := by simp; exact h0
  have b1 : (0 : Int) ≤ ((lst c).length : Int) := by omega
  have b2 : ((16 : Nat) : Int) * ((lst c).length : Int) ≤ 140737488355328 := by omega
  have b3 : ((lst c).length : Int).toNat = (lst c).length := rfl
  have e : [V.agg [slV 1 vecV c, .ref 0 0 (lst c).length 2]].mapM (frz (upd Sto.empty 0 (some (.row 2 (List.replicate (lst c).length (.agg [.int .u64 0, .int .u64 0]))))) 12) = some [.agg [slV 1 vecV c, .sl 2 (List.replicate (lst c).length zm)]] := by
   have hx : frz (upd Sto.empty 0 (some (.row 2 (List.replicate (lst c).length (.agg [.int .u64 0, .int .u64 0]))))) 11 (.ref 0 0 (lst c).length 2) = some (.sl 2 (List.replicate (lst c).length zm)) := by
    have he : elems (upd Sto.empty 0 (some (.row 2 (List.replicate (lst c).length (.agg [.int .u64 0, .int .u64 0]))))) 2 (.ref 0 0 (lst c).length 2) = some (List.replicate (lst c).length zm) := by
     simp [elems, upd, zm]
    show (elems _ _ _).bind _ = _
    rw [he, Option.bind_some, mapM_id (fun x hx => by rw [List.eq_of_mem_replicate hx]; rfl)]
    rfl
   simp only [List.mapM_cons, List.mapM_nil, frz_agg, frz_slV, hx, Option.pure_def, Option.bind_eq_bind, Option.bind_some, Option.map_some]
  have f21 := fun n lk => callE_flat (fs := true) (n := n) (lk := lk) (by decide) e (r45z c (by omega) hv) rfl
  simp +contextual -implicitDefEqProofs (maxSteps := 2000000) only [↓wP, wQ, wQ1, wQ2, wQ3, wR, boxE, partsOf, ↓reduceIte, n1w, n2w, n3w, n4w, n5w, n6w, reduceCtorEq, i1w, i2w, i3w, i4w, i5w, hne, h0, b1, b2, b3, f21]
def f27 (c : Option (List Vc)) (hl : (lst c).length ≤ 7) (hv : ∀ v ∈ lst c, Sm v) := callE_tr (by decide) (r27 c hl hv) (by simp [Tr, Tr_slV]) rfl
def cnE (c : Option (List Vc)) (v : Vc) : Int := if trE c ≠ 0 then trE c else if dm c = (lst v).length then 0 else 151
def askE (n : Int) : Int := if n < 1 then 2 else if 1048576 < n then 2 else 0
theorem r35 (m : Int) : res T 35 [.int .i64 m] = some (.int .i64 (askE m)) := by
 refine run_res (run_pure (fn := g35) rfl rfl (by decide) ?_)
 simp only [g35, b35, zO, zN, zM, zL, zG, zP, zQ, zI, zA, zT, zF, zB, zC, zD, zE, zH, zJ, zK]
 unfold askE
 by_cases h1 : m < 1
 ·simp +contextual -implicitDefEqProofs (maxSteps := 2000000) only [↓wP, wS, seval, h1]
 ·by_cases h2 : 1048576 < m
  ·simp +contextual -implicitDefEqProofs (maxSteps := 2000000) only [↓wP, wS, seval, h1, h2]
  ·simp +contextual -implicitDefEqProofs (maxSteps := 2000000) only [↓wP, wS, seval, h1, h2]
def f35 (m : Int) := callE_tr (by decide) (r35 m) (by simp [Tr, Tr_slV]) rfl
def nrE (c : Option (List Vc)) (v : Vc) (n : Int) : Int := if askE n ≠ 0 then askE n else if okV v then cnE c v else 150
end Go.Q.SD
end

section
/- Which lists may be. -/
namespace Go.Q.SD
open Go.Q
def metM (ms : List (Nat × Nat)) (m : Nat × Nat) : Nat × Nat := andM (andM allM m) (andM (ms.foldl orMM (0, 0)) allM)
def one1 (ms : List (Nat × Nat)) (i : Nat) (m : Nat × Nat) : Bool := decide (m.2 < 4294967296) && !decide (0 < cntM (metM (ms.take i) m))
def mskU (ms : List (Nat × Nat)) : Nat → Bool
 | 0 => true
 | n + 1 => mskU ms n && (match ms[n]? with | some m => one1 ms n m | none => true)
theorem mskU_step {ms : List (Nat × Nat)} {n : Nat} (h : n < ms.length) : mskU ms (n + 1) = (mskU ms n && one1 ms n ms[n]) := by
 show (mskU ms n && _) = _
 rw [List.getElem?_eq_getElem h]
theorem mskU_no {ms : List (Nat × Nat)} {n : Nat} (h : mskU ms n = false) : ∀ m, n ≤ m → mskU ms m = false
 | 0, hm => by have : n = 0 := by omega
               subst this; cases h
 | m + 1, hm => by
   by_cases e : n = m + 1
   ·subst e; exact h
   ·show (mskU ms m && _) = false
    rw [mskU_no h m (by omega)]; rfl
def okLs (c : Option (List Vc)) (ms : List (Nat × Nat)) : Bool := cents c && (decide (ms.length = (lst c).length) && mskU ms ms.length)
theorem r21 (c : Option (List Vc)) (ms : Option (List (Nat × Nat))) (hl : (lst c).length < 9223372036854775808) (hv : ∀ v ∈ lst c, Sm v) (hml : (lst ms).length < 4611686018427387904) (hm : ∀ m ∈ lst ms, WM m) : res T 21 [.agg [slV 1 vecV c, slV 2 mV ms]] = some (.int .i64 (if okLs c (lst ms) = true then 0 else 230)) := by
 refine run_res (run_pure (fn := g21) rfl rfl (by decide) ?_)
 simp only [g21, b21, zO, zN, zM, zL, zG, zP, zQ, zI, zA, zT, zF, zB, zC, zD, zE, zH, zJ, zK]
 have f16' := f16 c hl hv
 unfold okLs
 cases hc : cents c
 ·rw [hc] at f16'
  simp +contextual -implicitDefEqProofs (maxSteps := 2000000) only [↓wP, wS, seval, f16']
 rw [hc] at f16'
 rw [Bool.true_and]
 by_cases hln : (lst ms).length = (lst c).length
 rotate_left
 ·have hd : (((lst ms).length : Int) != ((lst c).length : Int)) = true := by simp; omega
  rw [decide_eq_false hln, Bool.false_and]
  simp +contextual -implicitDefEqProofs (maxSteps := 2000000) only [↓wP, wS, seval, f16', hd]
 have hd : (((lst ms).length : Int) != ((lst c).length : Int)) = false := by simp [hln]
 rw [decide_eq_true hln, Bool.true_and]
 simp +contextual -implicitDefEqProofs (maxSteps := 2000000) only [↓wP, wS, seval, f16', hd]
 refine WC_for (lst ms).length 0 (fun (j : Nat) env σ n => env 1 = .ptr 0 2 0 0 ∧ 1 ≤ n ∧ σ 0 = some (.row 2 [.agg [slV 1 vecV c, slV 2 mV ms]]) ∧ env 20 = slV 2 mV ms ∧ mskU (lst ms) j = true) (by omega) (by decide) (by decide) (fun _ _ => rfl) (fun _ _ _ => rfl) ?_ ?_ _ _ _ rfl rfl ?_
 ·intro j env σ n hj h1 h2 ⟨g1, g2, g3, g4, g5⟩
  simp only [vl_tmp] at h2
  have hx : (lst ms)[j]? = some (lst ms)[j] := List.getElem?_eq_getElem hj
  have hmj := hm _ (List.getElem_mem hj)
  have hst := mskU_step hj
  rw [g5, Bool.true_and] at hst
  have hno : one1 (lst ms) j (lst ms)[j] = false → mskU (lst ms) (lst ms).length = false := fun hk => mskU_no (by rw [hst, hk]) _ (by omega)
  obtain ⟨sD, hsD⟩ : ∃ sD, sD = sub ms 0 j := ⟨_, rfl⟩
  have hlD : lst sD = (lst ms).take j := by rw [hsD, lst_sub, List.drop_zero]
  have f50' := f50 sD (by rw [hlD, List.length_take]; omega) (fun m hm' => hm m (by rw [hlD] at hm'; exact List.mem_of_mem_take hm'))
  rw [hlD] at f50'
  have hle : j ≤ (lst ms).length := by omega
  have a1 : (0 = n) = False := by simp; omega
  generalize (lst ms)[j] = m at *
  have f51' := f49g m hmj
  rw [mV_eq] at f51'
  obtain ⟨O, hO⟩ : ∃ O, O = andM (((lst ms).take j).foldl orMM (0, 0)) allM := ⟨_, rfl⟩
  have hOw : WM O := by
   rw [hO]
   exact WM_and (WM_foldo _ _ ⟨by unfold W64; omega, by unfold W64; omega⟩ (fun m hm' => hm m (List.mem_of_mem_take hm')))
  rw [← hO, mV_eq] at f50'
  have hm25 : T.mode 25 ≠ .raw := by decide
  have r25' : res T 25 [.sl 2 [.agg [.int .u64 (m.1 : Int), .int .u64 (m.2 : Int)], .agg [.int .u64 (O.1 : Int), .int .u64 (O.2 : Int)]]] = some (.agg [.int .u64 ((andM (andM allM m) O).1 : Int), .int .u64 ((andM (andM allM m) O).2 : Int)]) :=
   r25 (some [m, O]) (by simp [lst]) (fun x hx => by
    simp only [lst_some, List.mem_cons, List.not_mem_nil, or_false] at hx
    rcases hx with rfl | rfl
    ·exact hmj
    ·exact hOw)
  have hMw : WM (andM (andM allM m) O) := WM_and (WM_and WM_all)
  have f52' := f52 _ hMw
  have hmet : andM (andM allM m) O = metM ((lst ms).take j) m := by unfold metM; rw [hO]
  rw [hmet] at r25' f52'
  generalize hMM : metM ((lst ms).take j) m = M at *
  rw [mV_eq] at f52'
  obtain ⟨σ1, hσ1⟩ : ∃ σ1, σ1 = upd (upd σ n (some (.row 2 [.agg [.int .u64 0, .int .u64 0]]))) n (some (.row 2 [.agg [.int .u64 (m.1 : Int), .int .u64 (m.2 : Int)]])) := ⟨_, rfl⟩
  have sn : σ1 n = some (.row 2 [.agg [.int .u64 (m.1 : Int), .int .u64 (m.2 : Int)]]) := by rw [hσ1]; simp [upd]
  have s0 : σ1 0 = some (.row 2 [.agg [slV 1 vecV c, slV 2 mV ms]]) := by
   have : 0 ≠ n := by omega
   rw [hσ1]; simp only [upd_get, this, if_false]; exact g3
  have x0 : hide σ1 (n + 1) (n + 1) [1] 0 = σ1 0 := hide_low σ1 (n + 1) (n + 1) _ (by omega) (Nat.le_refl _)
  have x1 : hide σ1 (n + 1) (n + 1) [1] n = σ1 n := hide_low σ1 (n + 1) (n + 1) _ (by omega) (Nat.le_refl _)
  have hB := big_le
  have x4 : ∀ s : Sto, hide s (n + 1) (n + (1 + BIG * 1)) [1] (n + 1) = s (n + 1) := by
   intro s
   have i1 : n + 1 < n + (1 + BIG * 1) := by omega
   have i2 : ¬ (n + 1 + BIG * 1 ≤ n + 1 ∧ n + 1 < n + 1 + BIG * 1 + BIG) := by omega
   simp only [hide, hideR, i1, if_true]
   rw [if_neg i2]
  have bf : ∀ (D : List Nat) (s : Sto) (k lk : Nat), backE false D (.agg [.int .u64 (M.1 : Int), .int .u64 (M.2 : Int)]) s k lk = some (.agg [.int .u64 (M.1 : Int), .int .u64 (M.2 : Int)], s, k) := fun D s k lk => by
   rw [backE_flat rfl]; rfl
  have y0 : ∀ s : Sto, s 0 = σ1 0 → hide s (n + 1) (n + (1 + BIG * 1)) [1] 0 = σ1 0 := fun s h => by rw [hide_low _ _ _ _ (by omega) (by omega), h]
  have y1 : ∀ a b : Sto, merge a b (n + 1) 0 = a 0 := fun a b => merge_low a b _ (by omega)
  have y2 : ∀ a b : Sto, merge a b (n + 1) n = a n := fun a b => merge_low a b _ (by omega)
  have x6 : (n + (1 + (BIG * 1 + 1)) ≤ n + (1 + (BIG * 1 + BIG))) = True := by simp; omega
  have x7 : ∀ a b : Sto, merge a b (n + (1 + BIG * 1)) (n + (1 + BIG * 1)) = b (n + (1 + BIG * 1)) := fun a b => merge_in a b _ (Nat.le_refl _) (by omega)
  have x8 : ∀ a b : Sto, merge a b (n + (1 + BIG * 1)) 0 = a 0 := fun a b => merge_low a b _ (by omega)
  have x9 : ∀ a b : Sto, merge a b (n + (1 + BIG * 1)) n = a n := fun a b => merge_low a b _ (by omega)
  have y3 : (n = n + (1 + BIG * 1)) = False := by simp
  have y4 : (0 = n + (1 + BIG * 1)) = False := by simp; omega
  have y5 : (n + (1 + BIG * 1) = n) = False := by simp
  have x5 : ∀ a b : Sto, merge a b (n + 1) (n + 1) = b (n + 1) := fun a b => merge_in a b _ (Nat.le_refl _) (by omega)
  have x2 : (n + 1 + 1 ≤ n + 1 + BIG) = True := by simp; omega
  have x3 : (n + 2 ≤ n + (1 + BIG)) = True := by simp; omega
  by_cases hb : m.2 < 4294967296
  rotate_left
  ·rw [if_neg hb] at f51'
   have hk : one1 (lst ms) j m = false := by unfold one1; rw [decide_eq_false hb]; rfl
   have z : ((200 : Int) != 0) = true := rfl
   rw [hno hk]
   simp +contextual -implicitDefEqProofs (maxSteps := 2000000) only [↓wP, wS, seval, h1, h2, g1, g3, g4, hx, mV_eq, a1, hle, Nat.zero_le, if_pos, ← hsD, f50', ← hσ1, x0, x1, sn, s0, x2, x3, x4, x5, x6, x7, x8, x9, y1, y2, y3, y4, y5, bf, callE_eq hm25, frz_rf, rch_rf, r25', f51', z]
  rw [if_pos hb] at f51'
  have z : ((0 : Int) != 0) = false := rfl
  have h1' : one1 (lst ms) j m = !decide (0 < cntM M) := by unfold one1; rw [decide_eq_true hb, hMM]; rfl
  by_cases hcm : 0 < cntM M
  ·have hk : one1 (lst ms) j m = false := by rw [h1', decide_eq_true hcm]; rfl
   have z1 : decide ((0 : Int) < (cntM M : Int)) = true := decide_eq_true (by omega)
   rw [hno hk]
   simp +contextual -implicitDefEqProofs (maxSteps := 2000000) only [↓wP, wS, seval, h1, h2, g1, g3, g4, hx, mV_eq, a1, hle, Nat.zero_le, if_pos, ← hsD, f50', ← hσ1, x0, x1, sn, s0, x2, x3, x4, x5, x6, x7, x8, x9, y1, y2, y3, y4, y5, bf, callE_eq hm25, frz_rf, rch_rf, r25', f51', f52', z, z1]
  ·have hk : one1 (lst ms) j m = true := by rw [h1', decide_eq_false hcm]; rfl
   have z1 : decide ((0 : Int) < (cntM M : Int)) = false := decide_eq_false (by omega)
   simp +contextual -implicitDefEqProofs (maxSteps := 2000000) only [↓wP, wS, seval, h1, h2, g1, g3, g4, hx, mV_eq, a1, hle, Nat.zero_le, if_pos, ← hsD, f50', ← hσ1, x0, x1, sn, s0, x2, x3, x4, x5, x6, x7, x8, x9, y1, y2, y3, y4, y5, bf, callE_eq hm25, frz_rf, rch_rf, r25', f51', f52', z, z1]
   rw [hst, hk]
   exact ⟨by omega, rfl⟩
 ·intro env σ n ⟨g1, g2, g3, g4, g5⟩ h1 h2
  simp +contextual -implicitDefEqProofs (maxSteps := 2000000) only [↓wP, wS, seval]
  rw [g5]
  rfl
 ·exact ⟨rfl, by omega, rfl, rfl, rfl⟩
end Go.Q.SD
end

section
/- Slots of a mask, by the document. -/
namespace Go.Q.SD
open Go.Q
def nV (x : Nat) : V := .int .i64 (x : Int)
end Go.Q.SD
end

section
/- Masks and lists that may be, by the document. -/
namespace Go.Q.SD
open Go.Q
end Go.Q.SD
end

section
/- Masks that meet; where a slot is, by the document. -/
namespace Go.Q.SD
open Go.Q
theorem tb_and (a b : Nat × Nat) (j : Nat) : tb (andM a b).1 (andM a b).2 j = (tb a.1 a.2 j && tb b.1 b.2 j) := by
 unfold tb andM
 split <;> simp
theorem tb_or (a b : Nat × Nat) (j : Nat) : tb (orMM a b).1 (orMM a b).2 j = (tb a.1 a.2 j || tb b.1 b.2 j) := by
 unfold tb orMM
 split <;> simp
theorem tb_ors (L : List (Nat × Nat)) (j : Nat) : ∀ a, tb (L.foldl orMM a).1 (L.foldl orMM a).2 j = (tb a.1 a.2 j || L.any fun x => tb x.1 x.2 j) := by
 induction L with
 | nil => intro a; simp
 | cons x L ih => intro a; rw [List.foldl_cons, ih, tb_or, List.any_cons, Bool.or_assoc]
theorem tb_all : ∀ j < 128, tb allM.1 allM.2 j = decide (j < 96) := by decide +kernel
theorem tb_ne {c : Nat × Nat} (h : WM c) : c ≠ (0, 0) ↔ ∃ j, j < 128 ∧ tb c.1 c.2 j = true := by
 constructor
 ·intro hne
  by_cases h1 : c.1 = 0
  ·have h2 : c.2 ≠ 0 := fun e => hne (Prod.ext h1 e)
   obtain ⟨i, hi⟩ := Nat.exists_testBit_of_ne_zero h2
   have hl : i < 64 := by
    rcases Nat.lt_or_ge i 64 with h | h'
    ·exact h
    ·rw [Nat.testBit_lt_two_pow (Nat.lt_of_lt_of_le (show c.2 < 2 ^ 64 from h.2) (Nat.pow_le_pow_right (by decide) h'))] at hi
     cases hi
   exact ⟨i + 64, by omega, by unfold tb; rw [if_neg (by omega), Nat.add_sub_cancel]; exact hi⟩
  ·obtain ⟨i, hi⟩ := Nat.exists_testBit_of_ne_zero h1
   have hl : i < 64 := by
    rcases Nat.lt_or_ge i 64 with h | h'
    ·exact h
    ·rw [Nat.testBit_lt_two_pow (Nat.lt_of_lt_of_le (show c.1 < 2 ^ 64 from h.1) (Nat.pow_le_pow_right (by decide) h'))] at hi
     cases hi
   exact ⟨i, by omega, by unfold tb; rw [if_pos hl]; exact hi⟩
 ·rintro ⟨j, hj, ht⟩ e
  rw [e] at ht
  unfold tb at ht
  split at ht <;> simp at ht
theorem met_pos {m : Nat × Nat} {L : List (Nat × Nat)} : 0 < cntM (metM L m) ↔ ∃ s, s < 96 ∧ tb m.1 m.2 s = true ∧ ∃ x ∈ L, tb x.1 x.2 s = true := by
 have hM : WM (metM L m) := WM_and (WM_and WM_all)
 rw [cntM_pos hM, tb_ne (WM_and hM)]
 have key : ∀ j, j < 128 → (tb (andM (metM L m) allM).1 (andM (metM L m) allM).2 j = true ↔ j < 96 ∧ tb m.1 m.2 j = true ∧ ∃ x ∈ L, tb x.1 x.2 j = true) := by
  intro j hj
  unfold metM
  rw [tb_and, tb_and, tb_and, tb_and, tb_ors, tb_all j hj]
  have h0 : tb (0, 0).1 (0, 0).2 j = false := by simp [tb]
  rw [h0, Bool.false_or]
  simp only [Bool.and_eq_true, decide_eq_true_eq, List.any_eq_true]
  constructor
  ·rintro ⟨⟨⟨h1, h2⟩, h3, -⟩, -⟩
   exact ⟨h1, h2, h3⟩
  ·rintro ⟨h1, h2, h3⟩
   exact ⟨⟨⟨h1, h2⟩, h3, h1⟩, h1⟩
 constructor
 ·rintro ⟨j, hj, h⟩
  obtain ⟨h1, h2⟩ := (key j hj).1 h
  exact ⟨j, h1, h2⟩
 ·rintro ⟨j, h1, h2⟩
  exact ⟨j, by omega, (key j (by omega)).2 ⟨h1, h2⟩⟩
def whr (ms : List (Nat × Nat)) (s : Nat) : Int := idxF (fun m => tb m.1 m.2 s) ms
end Go.Q.SD
end

section
/- Which lists may be, by the document. -/
namespace Go.Q.SD
open Go.Q
def bothB (a b : Nat × Nat) (s : Nat) : Bool := tb a.1 a.2 s && tb b.1 b.2 s
theorem one1_iff {ms : List (Nat × Nat)} {i : Nat} {m : Nat × Nat} : one1 ms i m = true ↔ m.2 < 4294967296 ∧ ∀ x ∈ ms.take i, ∀ s, s < 96 → bothB m x s = false := by
 unfold one1
 rw [Bool.and_eq_true, decide_eq_true_eq, Bool.not_eq_true', decide_eq_false_iff_not, met_pos]
 refine and_congr_right fun _ => ?_
 constructor
 ·intro h x hx s hs
  unfold bothB
  cases h1 : tb m.1 m.2 s
  ·rfl
  ·cases h2 : tb x.1 x.2 s
   ·rfl
   ·exact absurd ⟨s, hs, h1, x, hx, h2⟩ h
 ·rintro h ⟨s, hs, h1, x, hx, h2⟩
  have := h x hx s hs
  unfold bothB at this
  rw [h1, h2] at this
  cases this
end Go.Q.SD
end

section
/- The slots of some lists. -/
namespace Go.Q.SD
open Go.Q
def selM (ms : List (Nat × Nat)) (ix : List Nat) : List (Nat × Nat) := ix.map fun i => ms.getD i (0, 0)
theorem m_fz {l : List (Nat × Nat)} : (∀ x ∈ l.map mV, Tr 11 x = true) ∧ (∀ x ∈ l.map mV, ∀ c ∈ x.cells, Tr 11 c = true) :=
 ⟨fun x hx => by obtain ⟨y, -, rfl⟩ := List.mem_map.1 hx; rfl, fun x hx c hc => by
  obtain ⟨y, -, rfl⟩ := List.mem_map.1 hx
  simp only [mV, V.cells, List.mem_cons, List.not_mem_nil, or_false] at hc
  rcases hc with rfl | rfl <;> rfl⟩
theorem sel_wm {ms : List (Nat × Nat)} (hm : ∀ m ∈ ms, WM m) (ix : List Nat) : ∀ m ∈ selM ms ix, WM m := by
 intro m hmm
 obtain ⟨i, -, rfl⟩ := List.mem_map.1 hmm
 rw [List.getD_eq_getElem?_getD]
 cases h : ms[i]? with
 | none => exact ⟨by show W64 0; unfold W64; omega, by show W64 0; unfold W64; omega⟩
 | some x => exact hm x (List.mem_of_getElem? h)
theorem f21 (c : Option (List Vc)) (ms : Option (List (Nat × Nat))) (hl : (lst c).length < 9223372036854775808) (hv : ∀ v ∈ lst c, Sm v) (hml : (lst ms).length < 4611686018427387904) (hm : ∀ m ∈ lst ms, WM m) (fs : Bool) (σ : Sto) (n lk : Nat) :
 callE T fs 21 [.agg [slV 1 vecV c, slV 2 mV ms]] σ n lk = some (.int .i64 (if okLs c (lst ms) = true then 0 else 230), σ, n) := callE_tr (by decide) (r21 c ms hl hv hml hm) (by simp [Tr, Tr_slV]) rfl fs σ n lk
theorem r22 (c : Option (List Vc)) (ms : Option (List (Nat × Nat))) (ix : Option (List Nat)) (hl : (lst c).length < 9223372036854775808) (hv : ∀ v ∈ lst c, Sm v) (hml : (lst ms).length < 4611686018427387904) (hm : ∀ m ∈ lst ms, WM m) (hok : okLs c (lst ms) = true) (hix : (lst ix).length ≤ 100) (hi : ∀ i ∈ lst ix, i < (lst ms).length) : res T 22 [.agg [slV 1 vecV c, slV 2 mV ms], slV 1 nV ix] = some (.tup [mV (andM ((selM (lst ms) (lst ix)).foldl orMM (0, 0)) allM), .int .i64 0]) := by
 refine run_res (run_pure (fn := g22) rfl rfl (by decide) ?_)
 simp only [g22, b22, zO, zN, zM, zL, zG, zP, zQ, zI, zA, zT, zF, zB, zC, zD, zE, zH, zJ, zK]
 have f21' := f21 c ms hl hv hml hm
 rw [hok, if_pos rfl] at f21'
 have z : ((0 : Int) != 0) = false := rfl
 simp +contextual -implicitDefEqProofs (maxSteps := 2000000) only [↓wP, wS, seval, f21', z]
 refine WC_for (lst ix).length 0 (fun (j : Nat) env σ n => env 2 = .ptr 0 2 0 0 ∧ env 4 = .ptr 1 2 0 0 ∧ env 16 = slV 1 nV ix ∧ 2 ≤ n ∧ σ 0 = some (.row 2 [.agg [slV 1 vecV c, slV 2 mV ms]]) ∧ σ 1 = some (.row 2 [.agg [.int .u64 0, .int .u64 0]]) ∧ ∃ v, env 7 = v ∧ Pl σ 2 n 2 v (oL ((selM (lst ms) ((lst ix).take j)).map mV))) (by omega) (by decide) (by decide) (fun _ _ => rfl) (fun _ _ _ => rfl) ?_ ?_ _ _ _ rfl rfl ?_
 ·intro j env σ n hj h1 h2 ⟨g1, g2, g3, g4, g5, g6, v, g7, g8⟩
  simp only [vl_tmp] at h2
  have hx : (lst ix)[j]? = some (lst ix)[j] := List.getElem?_eq_getElem hj
  have hij := hi _ (List.getElem_mem hj)
  have hst : selM (lst ms) ((lst ix).take (j + 1)) = selM (lst ms) ((lst ix).take j) ++ [(lst ms)[(lst ix)[j]]] := by
   unfold selM
   rw [← List.take_append_getElem hj, List.map_append]
   simp [List.getD_eq_getElem?_getD, hij]
  have hlen : (selM (lst ms) ((lst ix).take j)).length ≤ 100 := by unfold selM; rw [List.length_map, List.length_take]; omega
  generalize (lst ix)[j] = i at *
  have hxm : (lst ms)[i]? = some (lst ms)[i] := List.getElem?_eq_getElem hij
  generalize (lst ms)[i] = m at *
  have hc := g8.cells
  have hd1 : decide ((i : Int) < 0) = false := decide_eq_false (by omega)
  have hd2 : decide (((lst ms).length : Int) ≤ (i : Int)) = false := decide_eq_false (by omega)
  simp +contextual -implicitDefEqProofs (maxSteps := 2000000) only [↓wP, wS, seval, h1, h2, g1, g2, g3, g5, g7, hx, nV, hd1, hd2, hxm, mV_eq]
  refine stepW_app1 (m := 2) (n0 := n) (σ0 := σ) g8 (fun i a1 a2 => ?_) (by omega) (by omega) (Nat.zero_le _) ?_ (fun _ σ2 a1 a2 => ?_)
  ·rw [upd_ne (by omega)]
  ·rw [lst_oL, List.length_map]; unfold LIM; omega
  ·rw [lst_oL] at a1 ⊢
   have hvn : ∀ i, i < 2 → ∀ off len s, v ≠ .ref i off len s := by
    intro i hi off len s e
    subst e
    cases ho' : oL ((selM (lst ms) ((lst ix).take j)).map mV) with
    | none => rw [ho'] at g8; cases g8
    | some xs => rw [ho'] at g8; obtain ⟨k, e, -, e2, -⟩ := g8; simp only [V.ref.injEq] at e; omega
   have t0 : σ2 0 = some (.row 2 [.agg [slV 1 vecV c, slV 2 mV ms]]) := by rw [a2 0 (by omega) (hvn 0 (by omega)), upd_ne (by omega)]; exact g5
   have t1 : σ2 1 = some (.row 2 [.agg [.int .u64 0, .int .u64 0]]) := by rw [a2 1 (by omega) (hvn 1 (by omega)), upd_ne (by omega)]; exact g6
   simp +contextual -implicitDefEqProofs (maxSteps := 2000000) only [↓wP, wS, seval, h1, g1, g2, g3]
   refine ⟨h2, t0, t1, _, rfl, ?_⟩
   rw [hst, List.map_append]
   have e2 : oL ((selM (lst ms) ((lst ix).take j)).map mV ++ [mV m]) = some ((selM (lst ms) ((lst ix).take j)).map mV ++ [mV m]) := by
    cases selM (lst ms) ((lst ix).take j) <;> rfl
   simp only [List.map_cons, List.map_nil]
   rw [e2]
   exact a1
 ·intro env σ n ⟨g1, g2, g3, g4, g5, g6, v, g7, g8⟩ h1 h2
  rw [List.take_length] at g8
  have hf := g8.frz (by rw [lst_oL]; exact m_fz.1) (by rw [lst_oL]; exact m_fz.2)
  rw [slV_oL] at hf
  have hm48 : T.mode 50 ≠ .raw := by decide
  have r := r50 (oL (selM (lst ms) (lst ix))) (by rw [lst_oL]; unfold selM; rw [List.length_map]; omega) (by rw [lst_oL]; exact sel_wm hm _)
  rw [lst_oL] at r
  have f50' : callE T true 50 [v] σ n 0 = some (mV (andM ((selM (lst ms) (lst ix)).foldl orMM (0, 0)) allM), σ, n) := by
   rw [callE_eq hm48]
   simp only [List.mapM_cons, List.mapM_nil, hf]
   show callR T true 50 (some [slV 2 mV (oL (selM (lst ms) (lst ix)))]) _ σ n 0 = _
   rw [callR_some, r, retE_some, backE_flat rfl]; rfl
  rw [mV_eq] at f50'
  simp +contextual -implicitDefEqProofs (maxSteps := 2000000) only [↓wP, wS, seval, g2, g6, g7, f50', mV_eq]
 ·exact ⟨rfl, rfl, rfl, by omega, rfl, rfl, _, rfl, by simp only [selM, List.take_zero, List.map_nil]; rfl⟩
end Go.Q.SD
end

section
/- Lists that may be are apart: the place of a slot is the only one. -/
namespace Go.Q.SD
open Go.Q
theorem mskU_all {ms : List (Nat × Nat)} (h : mskU ms ms.length = true) : ∀ i (hi : i < ms.length), one1 ms i ms[i] = true := by
 intro i hi
 cases hk : mskU ms (i + 1)
 ·have := mskU_no hk ms.length (by omega)
  rw [this] at h; cases h
 ·rw [mskU_step hi, Bool.and_eq_true] at hk
  exact hk.2
theorem apart {ms : List (Nat × Nat)} (h : mskU ms ms.length = true) {i k s : Nat} (hki : k < i) (hi : i < ms.length) (hs : s < 96) : bothB ms[i] (ms[k]'(by omega)) s = false :=
 (one1_iff.1 (mskU_all h i hi)).2 _ (List.mem_iff_getElem.2 ⟨k, by rw [List.length_take]; omega, by rw [List.getElem_take]⟩) s hs
theorem whr_eq {ms : List (Nat × Nat)} (h : mskU ms ms.length = true) {i s : Nat} (hi : i < ms.length) (hs : s < 96) (ht : tb ms[i].1 ms[i].2 s = true) : whr ms s = (i : Int) := by
 unfold whr idxF
 have : ms.findIdx? (fun m => tb m.1 m.2 s) = some i := List.findIdx?_eq_some_iff_getElem.2 ⟨hi, ht, fun k hk => by
  have := apart h hk hi hs
  unfold bothB at this
  rw [ht, Bool.true_and] at this
  rw [this]; decide⟩
 rw [this]
theorem whr_some {ms : List (Nat × Nat)} {i s : Nat} (h : whr ms s = (i : Int)) : ∃ hi : i < ms.length, tb ms[i].1 ms[i].2 s = true := by
 unfold whr idxF at h
 cases hf : ms.findIdx? (fun m => tb m.1 m.2 s) with
 | none => rw [hf] at h; simp only at h; omega
 | some k =>
   rw [hf] at h
   obtain ⟨g1, g2, -⟩ := List.findIdx?_eq_some_iff_getElem.1 hf
   have : k = i := by simp only at h; omega
   subst this
   exact ⟨g1, g2⟩
theorem near_iff {ms : List (Nat × Nat)} (h : mskU ms ms.length = true) {s : Nat} (hs : s < 96) {ix : List Nat} (hix : ∀ i ∈ ix, i < ms.length) :
 ((selM ms ix).any fun m => tb m.1 m.2 s) = decide (∃ i ∈ ix, whr ms s = (i : Int)) := by
 rw [Bool.eq_iff_iff, decide_eq_true_eq, List.any_eq_true]
 constructor
 ·rintro ⟨m, hm, ht⟩
  obtain ⟨i, hi, rfl⟩ := List.mem_map.1 hm
  have hl := hix i hi
  have e : ms.getD i (0, 0) = ms[i] := by simp [List.getD_eq_getElem?_getD, hl]
  rw [e] at ht
  exact ⟨i, hi, whr_eq h hl hs ht⟩
 ·rintro ⟨i, hi, hw⟩
  obtain ⟨hl, ht⟩ := whr_some hw
  refine ⟨ms[i], List.mem_map.2 ⟨i, hi, by simp [List.getD_eq_getElem?_getD, hl]⟩, ht⟩
def scnM (ms : List (Nat × Nat)) (ix : List Nat) (v : Nat × Nat) : Nat × Nat := andM (andM allM (andM ((selM ms ix).foldl orMM (0, 0)) allM)) v
theorem scn_tb {ms : List (Nat × Nat)} (h : mskU ms ms.length = true) {s : Nat} (hs : s < 96) {ix : List Nat} (hix : ∀ i ∈ ix, i < ms.length) (v : Nat × Nat) :
 tb (scnM ms ix v).1 (scnM ms ix v).2 s = (decide (∃ i ∈ ix, whr ms s = (i : Int)) && tb v.1 v.2 s) := by
 unfold scnM
 rw [tb_and, tb_and, tb_and, tb_ors, tb_all s (by omega), decide_eq_true hs, near_iff h hs hix]
 have h0 : tb (0, 0).1 (0, 0).2 s = false := by simp [tb]
 rw [h0]
 simp
end Go.Q.SD
end

section
/- The document's order. -/
namespace Go.Q.SD
open Go.Q Go.Sort
open Nat renaming reduceEqDiff → n1w, reduceAdd → n2w, reduceSub → n3w, reduceLeDiff → n4w, reduceLT → n5w, reduceMul → n6w
open Int renaming reduceBNe → i1w, reduceBEq → i2w, reduceLT → i3w, reduceLE → i4w, reduceGT → i5w
def oH (l : List Hit) : Option (List V) := if l = [] then none else some (hs l)
def optH (l : List Hit) : Option (List Hit) := if l = [] then none else some l
theorem lst_optH (l : List Hit) : lst (optH l) = l := by
 unfold optH; split
 ·rename_i h; rw [h]; rfl
 ·rfl
theorem lst_oH (l : List Hit) : lst (oH l) = hs l := by
 unfold oH; split
 ·rename_i h; rw [h]; rfl
 ·rfl
theorem oH_slV (l : List Hit) : slV 2 _root_.id (oH l) = slV 2 hitV (optH l) := by
 unfold oH optH; split <;> simp [slV, hs]
theorem tr_hs (k : Nat) (l : List Hit) : (∀ x ∈ hs l, Tr (k + 2) x = true) ∧ ∀ x ∈ hs l, ∀ c ∈ x.cells, Tr (k + 1) c = true := by
 constructor
 ·intro x hx
  obtain ⟨y, -, rfl⟩ := List.mem_map.1 hx
  rfl
 ·intro x hx c hc
  obtain ⟨y, -, rfl⟩ := List.mem_map.1 hx
  simp only [hitV, V.cells, List.mem_cons, List.not_mem_nil, or_false] at hc
  rcases hc with rfl | rfl <;> rfl
theorem plHf {σ : Sto} {m n : Nat} {v : V} {l : List Hit} (h : Pl σ m n 2 v (oH l)) : frz σ 12 v = some (slV 2 hitV (optH l)) := by
 rw [Go.Q.Pl.frz h (by rw [lst_oH]; exact (tr_hs 9 l).1) (by rw [lst_oH]; exact (tr_hs 10 l).2), oH_slV]
def merE (k : Int) (l : List Hit) : Int := if k < 1 ∨ 16 < k then 2 else if 2000 < l.length then 3 else 0
def merV (k : Int) (l : List Hit) : List Hit := if merE k l = 0 then fst' k.toNat l else []
def hVal (n : Nat) (l : List Hit) : V := if l = [] then .nilS else .ref n 0 l.length 2
def hSto (σ : Sto) (n : Nat) (l : List Hit) : Sto := if l = [] then σ else upd σ n (some (.row 2 (hs l)))
def hN (n : Nat) (l : List Hit) : Nat := if l = [] then n else n + 1
theorem thaw_ownH (σ : Sto) (n : Nat) (l : List Hit) : thaw σ n (ownH l) = (hVal n l, hSto σ n l, hN n l) := by
 cases l with
 | nil => rfl
 | cons x l =>
   unfold hVal hSto hN
   rw [if_neg (by simp), if_neg (by simp), if_neg (by simp)]
   exact thaw_hs σ n (x :: l)
theorem flat_ownH (l : List Hit) : flat (ownH l) = true := by
 cases l with
 | nil => rfl
 | cons x l => exact hs_flat (x :: l)
theorem hSto_at (σ : Sto) (n : Nat) (l : List Hit) {i : Nat} (h : i < n) : hSto σ n l i = σ i := by
 unfold hSto; split
 ·rfl
 ·have : i ≠ n := by omega
  simp [upd, this]
theorem giv_tup2 {σ : Sto} {v w r s : V} (h : giv σ 11 v = some r ∧ (gids σ 11 v).Nodup) (h' : giv σ 11 w = some s) (h'' : gids σ 11 w = []) :
 giv σ 12 (.tup [v, w]) = some (.tup [r, s]) ∧ (gids σ 12 (.tup [v, w])).Nodup := by
 constructor
 ·simp only [giv, List.mapM_cons, List.mapM_nil, h.1, h']; rfl
 ·simp only [gids, List.flatMap_cons, List.flatMap_nil, h'', List.append_nil]; exact h.2
theorem hVal_giv11 (σ : Sto) (n : Nat) (l : List Hit) : giv (hSto σ n l) 11 (hVal n l) = some (ownH l) ∧ (gids (hSto σ n l) 11 (hVal n l)).Nodup := by
 unfold hVal hSto
 by_cases h : l = []
 ·rw [if_pos h, if_pos h, h]; exact ⟨rfl, by simp [gids]⟩
 ·rw [if_neg h, if_neg h, ownH_eq h]
  have hg : ∀ x ∈ hs l, elemM (giv (upd σ n (some (.row 2 (hs l)))) 10) x = some x := by
   intro x hx
   obtain ⟨y, -, rfl⟩ := List.mem_map.1 hx
   rfl
  have hg' : ∀ x ∈ hs l, ∀ c ∈ x.cells, gids (upd σ n (some (.row 2 (hs l)))) 10 c = [] := by
   intro x hx c hc
   obtain ⟨y, -, rfl⟩ := List.mem_map.1 hx
   simp only [hitV, V.cells, List.mem_cons, List.not_mem_nil, or_false] at hc
   rcases hc with rfl | rfl <;> rfl
  have hat : upd σ n (some (.row 2 (hs l))) n = some (.row 2 (hs l)) := by simp [upd]
  constructor
  ·simp only [giv, hat, hs_len, and_self, if_true]
   rw [mapM_id hg]; rfl
  ·simp only [gids, hat]
   rw [List.flatMap_eq_nil_iff.2 fun x hx => List.flatMap_eq_nil_iff.2 fun c hc => hg' x hx c hc]
   simp
theorem sum_mono (l : List (Option (List Hit))) (j : Nat) : ((l.take j).flatMap lst).length ≤ (l.flatMap lst).length := by
 conv => rhs; rw [← List.take_append_drop j l]
 rw [List.flatMap_append, List.length_append]
 omega
theorem r99 (k : Int) (o : Option (List (Option (List Hit)))) (hlo : (lst o).length < 9223372036854775808) (hli : ∀ r ∈ lst o, (lst r).length < 4611686018427387904) :
 res T 99 [.int .i64 k, slV 1 (slV 2 hitV) o] = some (.tup [ownH (merV k ((lst o).flatMap lst)), .int .i64 (merE k ((lst o).flatMap lst))]) := by
 refine run_res (run_own (fn := g99) rfl rfl (by decide) ?_)
 simp only [g99, b99, zO, zN, zM, zL, zG, zP, zQ, zI, zA, zT, zF, zB, zC, zD, zE, zH, zJ, zK]
 by_cases hk1 : k < 1
 ·have e1 : merE k ((lst o).flatMap lst) = 2 := if_pos (.inl hk1)
  have e2 : merV k ((lst o).flatMap lst) = [] := by unfold merV; rw [e1]; rfl
  rw [e1, e2]
  simp +contextual -implicitDefEqProofs (maxSteps := 2000000) only [↓wP, wQ, wQ1, wQ2, wQ3, wR, boxE, partsOf, ↓reduceIte, n1w, n2w, n3w, n4w, n5w, n6w, reduceCtorEq, i1w, i2w, i3w, i4w, i5w, hk1]
  exact ⟨rfl, by simp [gids]⟩
 ·by_cases hk2 : 16 < k
  ·have e1 : merE k ((lst o).flatMap lst) = 2 := if_pos (.inr hk2)
   have e2 : merV k ((lst o).flatMap lst) = [] := by unfold merV; rw [e1]; rfl
   rw [e1, e2]
   simp +contextual -implicitDefEqProofs (maxSteps := 2000000) only [↓wP, wQ, wQ1, wQ2, wQ3, wR, boxE, partsOf, ↓reduceIte, n1w, n2w, n3w, n4w, n5w, n6w, reduceCtorEq, i1w, i2w, i3w, i4w, i5w, hk1, hk2]
   exact ⟨rfl, by simp [gids]⟩
  ·obtain ⟨kn, rfl⟩ : ∃ kn : Nat, k = (kn : Int) := ⟨k.toNat, by omega⟩
   simp +contextual -implicitDefEqProofs (maxSteps := 2000000) only [↓wP, wQ, wQ1, wQ2, wQ3, wR, boxE, partsOf, ↓reduceIte, n1w, n2w, n3w, n4w, n5w, n6w, reduceCtorEq, i1w, i2w, i3w, i4w, i5w, hk1, hk2]
   refine WC_for (lst o).length 0 (fun (j : Nat) env σ n => σ = Sto.empty ∧ n = 0 ∧ env 0 = .int .i64 (kn : Int) ∧ env 1 = slV 1 (slV 2 hitV) o ∧ env 15 = slV 1 (slV 2 hitV) o ∧ env 6 = .int .i64 ((((lst o).take j).flatMap lst).length : Int) ∧ (((lst o).take j).flatMap lst).length ≤ 2000) hlo (by decide) (by decide) (fun _ _ => rfl) (fun _ _ _ => rfl) ?_ ?_ _ _ _ rfl rfl ?_
   ·intro j env σ n hj h1 h2 ⟨g1, g2, h3, h4, h5, h6, h7⟩
    subst g1 g2
    simp only [vl_tmp] at h2
    have hx : (lst o)[j]? = some (lst o)[j] := List.getElem?_eq_getElem hj
    have hr := hli _ (List.getElem_mem hj)
    have ht : ((lst o).take (j + 1)).flatMap lst = ((lst o).take j).flatMap lst ++ lst (lst o)[j] := by
     rw [← List.take_append_getElem hj, List.flatMap_append]
     simp
    have hmono := sum_mono (lst o) (j + 1)
    generalize (lst o)[j] = r at *
    rw [ht, List.length_append] at hmono
    have wa : IntKind.i64.wrap (((((lst o).take j).flatMap lst).length : Int) + ((lst r).length : Int)) = (((((lst o).take j).flatMap lst).length + (lst r).length : Nat) : Int) := by rw [wrap_i64] <;> omega
    by_cases hbig : 2000 < (((lst o).take j).flatMap lst).length + (lst r).length
    ·have hbig' : (2000 : Int) < (((((lst o).take j).flatMap lst).length + (lst r).length : Nat) : Int) := by omega
     have e1 : merE (kn : Int) ((lst o).flatMap lst) = 3 := by
      unfold merE
      rw [if_neg (by omega), if_pos (by omega)]
     have e2 : merV (kn : Int) ((lst o).flatMap lst) = [] := by unfold merV; rw [e1]; rfl
     rw [e1, e2]
     simp +contextual -implicitDefEqProofs (maxSteps := 2000000) only [↓wP, wQ, wQ1, wQ2, wQ3, wR, boxE, partsOf, ↓reduceIte, n1w, n2w, n3w, n4w, n5w, n6w, reduceCtorEq, i1w, i2w, i3w, i4w, i5w, h1, h2, h3, h4, h5, h6, hx, wa, hbig']
     exact ⟨rfl, by simp [gids]⟩
    ·have hbig' : ¬ (2000 : Int) < (((((lst o).take j).flatMap lst).length + (lst r).length : Nat) : Int) := by omega
     simp +contextual -implicitDefEqProofs (maxSteps := 2000000) only [↓wP, wQ, wQ1, wQ2, wQ3, wR, boxE, partsOf, ↓reduceIte, n1w, n2w, n3w, n4w, n5w, n6w, reduceCtorEq, i1w, i2w, i3w, i4w, i5w, h1, h2, h3, h4, h5, h6, hx, wa, hbig']
     rw [ht, List.length_append]
     exact ⟨rfl, by omega⟩
   ·intro env σ n ⟨g1, g2, h3, h4, h5, h6, h7⟩ h1 h2
    subst g1 g2
    rw [List.take_length] at h7
    have e1 : merE (kn : Int) ((lst o).flatMap lst) = 0 := by
     unfold merE
     rw [if_neg (by omega), if_neg (by omega)]
    have e2 : merV (kn : Int) ((lst o).flatMap lst) = fst' kn ((lst o).flatMap lst) := by unfold merV; rw [if_pos e1]; rfl
    have h25 := r111 kn o (by omega) (by omega) hlo (fun r hr => by have := hli r hr; omega)
    rw [e1, e2]
    have e : [V.int .i64 (kn : Int), slV 1 (slV 2 hitV) o].mapM (frz Sto.empty 12) = some [V.int .i64 (kn : Int), slV 1 (slV 2 hitV) o] := by
     simp only [List.mapM_cons, List.mapM_nil, frz_slV, frz_int]; rfl
    generalize fst' kn ((lst o).flatMap lst) = l at *
    have f111 := fun n lk => callE_flat (fs := true) (n := n) (lk := lk) (by decide) e h25 (flat_ownH l)
    simp only [thaw_ownH] at f111
    have hg := hVal_giv11 Sto.empty 0 l
    simp +contextual -implicitDefEqProofs (maxSteps := 2000000) only [↓wP, wQ, wQ1, wQ2, wQ3, wR, boxE, partsOf, ↓reduceIte, n1w, n2w, n3w, n4w, n5w, n6w, reduceCtorEq, i1w, i2w, i3w, i4w, i5w, h3, h4, f111]
    exact giv_tup2 hg rfl rfl
   ·simp +contextual -implicitDefEqProofs (maxSteps := 2000000) only [↓wP, wQ, wQ1, wQ2, wQ3, wR, boxE, partsOf, ↓reduceIte, n1w, n2w, n3w, n4w, n5w, n6w, reduceCtorEq, i1w, i2w, i3w, i4w, i5w]
    simp
end Go.Q.SD
end

section
/- First of a row; selections. -/
namespace Go.Q.SD
open Go.Q Go.Sort
theorem flat_tup2 {a b : V} (h : flat a = true) (h' : flat b = true) : flat (.tup [a, b]) = true := by simp [flat, flatL, h, h']
theorem thaw_hTup (σ : Sto) (n : Nat) (l : List Hit) (e : Int) : thaw σ n (.tup [ownH l, .int .i64 e]) = (.tup [hVal n l, .int .i64 e], hSto σ n l, hN n l) := by
 rw [thaw_tup, thawL_cons, thaw_ownH]
 rfl
theorem merge_one (o : Option (List Hit)) : (lst (some [o])).flatMap lst = lst o := by simp [lst]
theorem r82 (k : Int) (o : Option (List Hit)) (hl : (lst o).length < 4611686018427387904) : res T 82 [slV 2 hitV o, .int .i64 k] = some (.tup [ownH (merV k (lst o)), .int .i64 (merE k (lst o))]) := by
 refine run_res (run_own (fn := g82) rfl rfl (by decide) ?_)
 simp only [g82, b82, zO, zN, zM, zL, zG, zP, zQ, zI, zA, zT, zF, zB, zC, zD, zE, zH, zJ, zK]
 have h16 := r99 k (some [o]) (by simp [lst]) (fun r hr => by simp [lst_some] at hr; subst hr; exact hl)
 rw [merge_one] at h16
 have e : [V.int .i64 k, .ref 0 0 1 1].mapM (frz (upd Sto.empty 0 (some (.row 1 [slV 2 hitV o]))) 12) = some [V.int .i64 k, slV 1 (slV 2 hitV) (some [o])] := by
  have hx : frz (upd Sto.empty 0 (some (.row 1 [slV 2 hitV o]))) 12 (.ref 0 0 1 1) = some (.sl 1 [slV 2 hitV o]) := by
   have := (Fz.ref (σ := upd Sto.empty 0 (some (.row 1 [slV 2 hitV o]))) (id := 0) (sz := 1) (xs := [slV 2 hitV o]) (ts := [slV 2 hitV o]) (k := 11) (S := fun _ => True) (by simp [upd]) trivial
    (FzL.trees (fun x hx => by rw [List.mem_singleton] at hx; subst hx; exact Tr_slV 2 _ o _) (fun x hx c hc => by rw [List.mem_singleton] at hx; subst hx; rw [cl_slV, List.mem_singleton] at hc; subst hc; exact Tr_slV 2 _ o _))).1
   exact this
  simp only [List.mapM_cons, List.mapM_nil, hx, frz_int]
  rfl
 have f99 := fun n lk => callE_flat (fs := true) (n := n) (lk := lk) (by decide) e h16 (flat_tup2 (flat_ownH _) rfl)
 simp only [thaw_hTup] at f99
 have hg := fun σ n => hVal_giv11 σ n (merV k (lst o))
 simp +contextual -implicitDefEqProofs (maxSteps := 2000000) only [↓wP, wS, seval, f99]
 exact giv_tup2 (hg _ _) rfl rfl
theorem f82 {σ : Sto} {v : V} {l : List Hit} (k : Int) (ha : Hf σ v l) (hl : l.length < 4611686018427387904) (fs : Bool) (n lk : Nat) :
 callE T fs 82 [v, .int .i64 k] σ n lk = some (.tup [hVal n (merV k l), .int .i64 (merE k l)], hSto σ n (merV k l), hN n (merV k l)) := by
 obtain ⟨o, rfl, h1⟩ := ha
 have e : [v, V.int .i64 k].mapM (frz σ 12) = some [slV 2 hitV o, .int .i64 k] := by simp only [List.mapM_cons, List.mapM_nil, h1]; rfl
 rw [callE_flat (by decide) e (r82 k o hl) (flat_tup2 (flat_ownH _) rfl), thaw_hTup]
end Go.Q.SD
end

section
/- The document's order, first ones, and which hits are the same. -/
namespace Go.Q.SD
open Go.Q Go.Sort
end Go.Q.SD
end

section
/- Places of the nearest centroids. -/
namespace Go.Q.SD
open Go.Q Go.Sort
open Nat renaming reduceEqDiff → n1w, reduceAdd → n2w, reduceSub → n3w, reduceLeDiff → n4w, reduceLT → n5w, reduceMul → n6w
open Int renaming reduceBNe → i1w, reduceBEq → i2w, reduceLT → i3w, reduceLE → i4w, reduceGT → i5w
theorem r65 (i d i' d' : Int) : res T 65 [.agg [.int .u64 i, .int .u64 d], .agg [.int .u64 i', .int .u64 d']] = some (.int .i64 (cmpH ⟨i, d⟩ ⟨i', d'⟩)) := by
 refine run_res (run_pure (fn := g65) rfl rfl (by decide) ?_)
 simp only [g65, b65, zO, zN, zM, zL, zG, zP, zQ, zI, zA, zT, zF, zB, zC, zD, zE, zH, zJ, zK]
 have h26 := r66 (cmpU d d') (cmpU i i')
 have hm26 : T.mode 66 ≠ .raw := by decide
 simp +contextual -implicitDefEqProofs (maxSteps := 2000000) only [↓wP, wS, seval, f67, callE_eq hm26, frz_rf, h26]
 rfl
def f65 (i d i' d' : Int) := callE_tr (by decide) (r65 i d i' d') (by simp [Tr, Tr_slV]) rfl
theorem raw75p (d : Array Hit) (a b id n : Nat) (σ : Sto) (hab : a ≤ b) (hb : b ≤ d.size) (hn : d.size < 1000000) (hσ : σ id = some (.row 2 (rw' d))) {Q : V → Sto → Nat → Prop}
 (hQ : ∀ σ', At σ' σ id (insertionSort ahead d a b) → Q .undef σ' n) :
 run T (.raw 100 [.ref id 0 d.size 2, .int .i64 (a : Int), .int .i64 (b : Int), .fn 65 []] σ n 0) (memQ Q) := by
 refine run_rawE (fn := g100) rfl rfl ?_
 simp only [g100, b100, zO, zN, zM, zL, zG, zP, zQ, zI, zA, zT, zF, zB, zC, zD, zE, zH, zJ, zK]
 have w1 : IntKind.i64.wrap ((a : Int) + 1) = ((a + 1 : Nat) : Int) := by rw [wrap_i64] <;> omega
 generalize hsz : d.size = N at *
 simp +contextual -implicitDefEqProofs (maxSteps := 2000000) only [↓wP, wS, seval, w1]
 refine WC_loopI 0 (fun (s : Nat × Array Hit) env σ' n' => n' = n ∧ env 0 = .ref id 0 N 2 ∧ env 1 = .int .i64 (a : Int) ∧ env 2 = .int .i64 (b : Int) ∧ env 3 = .fn 65 [] ∧ env 8 = .int .i64 (s.1 : Int) ∧
  a < s.1 ∧ (s.1 ≤ b ∨ s.1 = a + 1) ∧ s.2.size = N ∧ At σ' σ id s.2 ∧ insOuter ahead a b s.1 s.2 = insertionSort ahead d a b) (fun s => b + 1 - s.1) ?_ (a + 1, d) _ _ _ ?_
 ·intro ⟨i, e⟩ env σ1 n1 ⟨h1, h2, h3, h4, h5, h6, h7, h8, h9, h10, h11⟩
  subst h1
  simp only at h6 h7 h8 h9 h10 h11
  by_cases hlt : i < b
  ·have w2 : IntKind.i64.wrap ((i : Int) + 1) = ((i + 1 : Nat) : Int) := by rw [wrap_i64] <;> omega
   have hlt' : (i : Int) < (b : Int) := by omega
   rw [insOuter, if_pos hlt] at h11
   simp +contextual -implicitDefEqProofs (maxSteps := 2000000) only [↓wP, wS, seval, h2, h3, h4, h5, h6, hlt']
   refine WC_loopI 0 (fun (s : Nat × Array Hit) env σ' n' => n' = n1 ∧ env 0 = .ref id 0 N 2 ∧ env 1 = .int .i64 (a : Int) ∧ env 2 = .int .i64 (b : Int) ∧ env 3 = .fn 65 [] ∧ env 8 = .int .i64 (i : Int) ∧ env 9 = .int .i64 (s.1 : Int) ∧
    s.1 ≤ i ∧ s.2.size = N ∧ At σ' σ id s.2 ∧ insInner ahead a s.1 s.2 = insInner ahead a i e) (fun s => s.1) ?_ (i, e) _ _ _ ?_
   ·clear h2 h3 h4 h5 h6 h10
    intro ⟨j, g⟩ env σ2 n2 ⟨k1, k2, k3, k4, k5, k6, k7, k8, k9, k10, k11⟩
    subst k1
    simp only at k7 k8 k9 k10 k11
    have hat := k10.1
    by_cases hja : a < j
    ·obtain ⟨j, rfl⟩ : ∃ j', j = j' + 1 := ⟨j - 1, by omega⟩
     have hja' : (a : Int) < ((j + 1 : Nat) : Int) := by omega
     have w3 : IntKind.i64.wrap (((j + 1 : Nat) : Int) - 1) = (j : Int) := by rw [wrap_i64] <;> omega
     have x1 := rw_at (d := g) (i := j + 1) (by omega)
     have x2 := rw_at (d := g) (i := j) (by omega)
     have l1 : j + 1 < N := by omega
     have l2 : j < N := by omega
     by_cases hc : cmpH g[j + 1]! g[j]! < 0
     ·have hah : ahead g[j + 1]! g[j]! = true := by rw [← cmp_lt]; simpa using hc
      obtain ⟨u, v, x3⟩ := rw_set_at (d := g) (i := j + 1) (j := j) (x := g[j]!) (by omega)
      simp +contextual -implicitDefEqProofs (maxSteps := 2000000) only [↓wP, wS, seval, k2, k3, k4, k5, k6, k7, hja', w3, hat, l1, l2, x1, x2, x3, f65, hc]
      refine ⟨(j, swp g (j + 1) j), by dsimp only; omega, rfl, by dsimp only; omega, by rw [swp_size, k9], k10.swp _ _, ?_⟩
      dsimp only
      rw [← insIn_lt hja hah]
      exact k11
     ·have hah : ahead g[j + 1]! g[j]! = false := by rw [← cmp_lt]; simpa using hc
      simp +contextual -implicitDefEqProofs (maxSteps := 2000000) only [↓wP, wS, seval, k2, k3, k4, k5, k6, k7, hja', w3, hat, l1, l2, x1, x2, f65, hc, w2]
      refine ⟨(i + 1, g), by dsimp only; omega, rfl, by dsimp only; omega, by dsimp only; omega, k9, k10, ?_⟩
      dsimp only
      rw [insIn_stop (.inr ⟨by omega, hah⟩)] at k11
      rw [k11]
      exact h11
    ·have hja' : ¬ (a : Int) < (j : Int) := by omega
     simp +contextual -implicitDefEqProofs (maxSteps := 2000000) only [↓wP, wS, seval, k2, k3, k4, k5, k6, k7, hja', w2]
     refine ⟨(i + 1, g), by dsimp only; omega, rfl, by dsimp only; omega, by dsimp only; omega, k9, k10, ?_⟩
     dsimp only
     rw [insIn_stop (.inl (by omega))] at k11
     rw [k11]
     exact h11
   ·simp +contextual -implicitDefEqProofs (maxSteps := 2000000) only [↓wP, wS, seval, h2, h3, h4, h5, h6]
    exact ⟨h9, h10⟩
  ·have hlt' : ¬ (i : Int) < (b : Int) := by omega
   rw [insOuter, if_neg hlt] at h11
   simp +contextual -implicitDefEqProofs (maxSteps := 2000000) only [↓wP, wS, seval, h2, h3, h4, h5, h6, hlt']
   refine hQ _ ?_
   rw [← h11]
   exact h10
 ·simp +contextual -implicitDefEqProofs (maxSteps := 2000000) only [↓wP, wS, seval]
  exact ⟨by omega, .inr trivial, hsz, At.refl hσ, rfl⟩
theorem raw75pN {d : Array Hit} {N : Nat} (hN : d.size = N) (a b id n : Nat) (σ : Sto) (hab : a ≤ b) (hb : b ≤ N) (hn : N < 1000000) (hσ : σ id = some (.row 2 (rw' d))) {Q : V → Sto → Nat → Prop}
 (hQ : ∀ σ', At σ' σ id (insertionSort ahead d a b) → Q .undef σ' n) :
 run T (.raw 100 [.ref id 0 N 2, .int .i64 (a : Int), .int .i64 (b : Int), .fn 65 []] σ n 0) (memQ Q) := by subst hN; exact raw75p d a b id n σ hab hb hn hσ hQ
theorem raw62p {d : Array Hit} {N : Nat} (hN : d.size = N) (lim : Int) (id n : Nat) (σ : Sto) (h12 : N ≤ 12) (hσ : σ id = some (.row 2 (rw' d))) {Q : V → Sto → Nat → Prop}
 (hQ : ∀ σ', At σ' σ id (insertionSort ahead d 0 N) → Q .undef σ' n) :
 run T (.raw 91 [.ref id 0 N 2, .int .i64 0, .int .i64 (N : Int), .int .i64 lim, .fn 65 []] σ n 0) (memQ Q) := by
 refine run_rawE (fn := g91) rfl rfl ?_
 simp only [g91, b91, zO, zN, zM, zL, zG, zP, zQ, zI, zA, zT, zF, zB, zC, zD, zE, zH, zJ, zK]
 have w1 : IntKind.i64.wrap ((N : Int) - 0) = (N : Int) := by rw [wrap_i64] <;> omega
 have h12' : (N : Int) ≤ 12 := by omega
 simp +contextual -implicitDefEqProofs (maxSteps := 2000000) only [↓wP, wS, seval, w1]
 refine WC_loopI 0 (fun (s : Nat) env σ' n' => n' = n ∧ σ' = σ ∧ env 0 = .ref id 0 N 2 ∧ env 1 = .int .i64 0 ∧ env 2 = .int .i64 (N : Int) ∧ env 4 = .fn 65 []) (fun s => s) ?_ 0 _ _ _ ?_
 ·intro _ env σ' n' ⟨h1, h2, h3, h4, h5, h6⟩
  subst h1 h2
  simp +contextual -implicitDefEqProofs (maxSteps := 2000000) only [↓wP, wS, seval, w1, h3, h4, h5, h6, h12']
  refine stepW_raw (by decide) (raw75pN hN 0 N id n' σ' (by omega) (by omega) (by omega) hσ fun σ2 hat => ?_)
  simp +contextual -implicitDefEqProofs (maxSteps := 2000000) only [↓wP, wS, seval]
  exact hQ σ2 hat
 ·simp +contextual -implicitDefEqProofs (maxSteps := 2000000) only [↓wP, wS, seval]
theorem raw46p {d : Array Hit} {N : Nat} (hN : d.size = N) (id n : Nat) (σ : Sto) (h12 : N ≤ 12) (hσ : σ id = some (.row 2 (rw' d))) {Q : V → Sto → Nat → Prop}
 (hQ : ∀ σ', (∀ i, i ≠ id → σ' i = σ i) → σ' id = some (.row 2 (hs (srt d.toList))) → Q .undef σ' n) :
 run T (.raw 64 [.ref id 0 N 2, .fn 65 []] σ n 0) (memQ Q) := by
 refine run_rawE (fn := g64) rfl rfl ?_
 simp only [g64, b64, zO, zN, zM, zL, zG, zP, zQ, zI, zA, zT, zF, zB, zC, zD, zE, zH, zJ, zK]
 obtain ⟨M, h1, h2, h3⟩ := r92 N (by omega)
 have f92 := callE_tr (fs := true) (by decide) h3 (by simp [Tr]) rfl
 have wu : IntKind.u64.wrap ((N : Nat) : Int) = ((N : Nat) : Int) := by rw [wrap_u64] <;> omega
 simp +contextual -implicitDefEqProofs (maxSteps := 2000000) only [↓wP, wS, seval, wu, f92]
 refine stepW_raw (by decide) (raw62p hN _ id n σ h12 hσ fun σ' hat => ?_)
 simp +contextual -implicitDefEqProofs (maxSteps := 2000000) only [↓wP, wS, seval]
 refine hQ σ' hat.2 ?_
 have hs' := insertionSort_holds (lt := ahead) swoA d 0 N (by omega) (by omega)
 subst hN
 obtain ⟨e, he⟩ : ∃ e, e = insertionSort ahead d 0 d.size := ⟨_, rfl⟩
 have h1 := hat.1
 rw [← he] at hs' h1
 obtain ⟨⟨p1, -, p3⟩, p4⟩ := hs'
 have ee : e.toList = srt d.toList := by
  refine Srt.uniq (sorted_list (by rw [p1]; exact p4)) (srt_srt _) ?_
  have q1 : (e.extract 0 d.size).toList = e.toList := by rw [← p1]; simp
  have q2 : (d.extract 0 d.size).toList = d.toList := by simp
  rw [q1, q2] at p3
  exact p3.trans (srt_perm _).symm
 rw [h1, ← ee]; rfl
def ctH (q : Vc) (c : List Vc) (i : Nat) : List Hit := (c.zipIdx i).map fun p => ⟨p.2, distI p.1 q⟩
theorem ctH_len (q : Vc) (c : List Vc) (i : Nat) : (ctH q c i).length = c.length := by simp [ctH]
theorem ctH_get (q : Vc) (c : List Vc) (j : Nat) (h : j < c.length) : (ctH q c 0)[j]? = some ⟨j, distI c[j] q⟩ := by
 simp [ctH, List.getElem?_zipIdx, h]
def zh : V := .agg [.int .u64 0, .int .u64 0]
def fil (q : Vc) (c : List Vc) (j : Nat) : List V := hs ((ctH q c 0).take j) ++ List.replicate (c.length - j) zh
theorem fil_len (q : Vc) (c : List Vc) (j : Nat) (hj : j ≤ c.length) : (fil q c j).length = c.length := by simp [fil, hs_len, ctH_len]; omega
theorem fil_set (q : Vc) (c : List Vc) (j : Nat) (hj : j < c.length) : (fil q c j).set j (.agg [.int .u64 (j : Int), .int .u64 (distI c[j] q)]) = fil q c (j + 1) := by
 have h1 : (hs ((ctH q c 0).take j)).length = j := by rw [hs_len, List.length_take, ctH_len]; omega
 have h2 : (ctH q c 0)[j]'(by rw [ctH_len]; exact hj) = ⟨j, distI c[j] q⟩ := by
  have := ctH_get q c j hj
  rw [List.getElem?_eq_getElem (by rw [ctH_len]; exact hj)] at this
  exact Option.some.inj this
 have h3 : (ctH q c 0).take (j + 1) = (ctH q c 0).take j ++ [⟨j, distI c[j] q⟩] := by rw [← h2]; exact (List.take_append_getElem _).symm
 have h4 : c.length - j = (c.length - (j + 1)) + 1 := by omega
 unfold fil
 rw [h3, h4, List.replicate_succ, List.set_append_right _ _ (by omega), h1, Nat.sub_self, List.set_cons_zero, ← hs_app]
 simp [hs, hitV]
def srcV (q : Vc) (k ts n : Int) (c : Option (List Vc)) : List V := [slV 1 i32V q, .int .i64 k, .int .u64 ts, .int .i64 n, slV 1 vecV c]
theorem r32 (q : Vc) (k ts m : Int) (c : Option (List Vc)) (hc : cents c = true) (hv : ∀ v ∈ lst c, Sm v) (hq : Sm q) (hq2 : okV q = true) (hd : dm c = (lst q).length) (hne : lst c ≠ []) :
 res T 32 [.agg (srcV q k ts m c)] = some (.fn 68 [.box [.sl 2 (hs (srt (ctH q (lst c) 0)))], .box (srcV q k ts m c)]) := by
 refine run_res (run_pure (fn := g32) rfl rfl (by decide) ?_)
 simp only [g32, b32, zO, zN, zM, zL, zG, zP, zQ, zI, zA, zT, zF, zB, zC, zD, zE, zH, zJ, zK, srcV]
 have h6 : (lst c).length ≤ 6 := by unfold cents at hc; simp only [Bool.and_eq_true, decide_eq_true_eq] at hc; exact hc.1
 have hall : ∀ v ∈ lst c, okV v = true ∧ (lst v).length = dm c := by
  unfold cents at hc
  simp only [Bool.and_eq_true, decide_eq_true_eq] at hc
  intro v hv
  have := List.all_eq_true.1 hc.2 v hv
  simpa [okC] using this
 have b1 : (0 : Int) ≤ ((lst c).length : Int) := by omega
 have b2 : ((16 : Nat) : Int) * ((lst c).length : Int) ≤ 140737488355328 := by omega
 have b3 : ((lst c).length : Int).toNat = (lst c).length := rfl
 simp +contextual -implicitDefEqProofs (maxSteps := 2000000) only [↓wP, wQ, wQ1, wQ2, wQ3, wR, boxE, partsOf, ↓reduceIte, n1w, n2w, n3w, n4w, n5w, n6w, reduceCtorEq, i1w, i2w, i3w, i4w, i5w, b1, b2, b3]
 obtain ⟨N, hN⟩ : ∃ N, N = (lst c).length := ⟨_, rfl⟩
 refine WC_for (lst c).length 0 (fun (j : Nat) env σ n => env 1 = .ptr 0 5 0 0 ∧ env 3 = .ptr 2 1 0 0 ∧ env 13 = slV 1 vecV c ∧ n = 3 ∧ σ 0 = some (.row 5 [.agg [slV 1 i32V q, .int .i64 k, .int .u64 ts, .int .i64 m, slV 1 vecV c]]) ∧
  σ 2 = some (.row 1 [.ref 1 0 (lst c).length 2]) ∧ σ 1 = some (.row 2 (fil q (lst c) j))) (by omega) (by decide) (by decide) (fun _ _ => rfl) (fun _ _ _ => rfl) ?_ ?_ _ _ _ rfl rfl ?_
 ·intro j env σ n hj h1 h2 ⟨g1, g2, g3, g4, g5, g6, g7⟩
  simp only [vl_tmp] at h2
  subst g4
  have hx : (lst c)[j]? = some (lst c)[j] := List.getElem?_eq_getElem hj
  have hm := List.getElem_mem hj
  have hst := fil_set q (lst c) j hj
  obtain ⟨o1, o2⟩ := hall _ hm
  have hxs := hv _ hm
  have hfl := fil_len q (lst c) j (by omega)
  have xg : (fil q (lst c) j)[j]? = some (.agg [.int .u64 0, .int .u64 0]) := by
   unfold fil
   rw [List.getElem?_append_right (by rw [hs_len, List.length_take, ctH_len]; omega), hs_len, List.length_take, ctH_len, Nat.min_eq_left (by omega), Nat.sub_self, List.getElem?_replicate, if_pos (by omega)]
   rfl
  generalize (lst c)[j] = x at *
  have hva : vAll x q = 0 := by unfold vAll; rw [o1, hq2]; simp [o2, hd]
  have f := f63 x q hxs hq
  have e1 : disE x q = 0 := hva
  have e2 : disV x q = distI x q := by unfold disV; rw [if_pos hva]
  rw [e1, e2] at f
  have wj : IntKind.u64.wrap ((j : Nat) : Int) = ((j : Nat) : Int) := by rw [wrap_u64] <;> omega
  simp +contextual -implicitDefEqProofs (maxSteps := 2000000) only [↓wP, wQ, wQ1, wQ2, wQ3, wR, boxE, partsOf, ↓reduceIte, n1w, n2w, n3w, n4w, n5w, n6w, reduceCtorEq, i1w, i2w, i3w, i4w, i5w, h1, h2, g1, g2, g3, g5, g6, g7, hx, vecV_eq, f, wj, hj, xg, hst]
 ·intro env σ n ⟨g1, g2, g3, g4, g5, g6, g7⟩ h1 h2
  subst g4
  have hfu : fil q (lst c) (lst c).length = hs (ctH q (lst c) 0) := by
   unfold fil
   rw [Nat.sub_self, List.replicate_zero, List.append_nil, List.take_of_length_le (by rw [ctH_len]; omega)]
  rw [hfu] at g7
  simp +contextual -implicitDefEqProofs (maxSteps := 2000000) only [↓wP, wQ, wQ1, wQ2, wQ3, wR, boxE, partsOf, ↓reduceIte, n1w, n2w, n3w, n4w, n5w, n6w, reduceCtorEq, i1w, i2w, i3w, i4w, i5w, g2, g6]
  refine stepW_raw (by decide) (raw46p (d := (ctH q (lst c) 0).toArray) (N := (lst c).length) (by simp [ctH_len]) 1 3 σ (by omega) (by rw [rw_hs]; exact g7) fun σ2 p1 p2 => ?_)
  have p3 : σ2 0 = some (.row 5 [.agg [slV 1 i32V q, .int .i64 k, .int .u64 ts, .int .i64 m, slV 1 vecV c]]) := by rw [p1 0 (by decide)]; exact g5
  have p4 : σ2 2 = some (.row 1 [.ref 1 0 (lst c).length 2]) := by rw [p1 2 (by decide)]; exact g6
  simp only [List.toList_toArray] at p2
  have fr : frz σ2 10 (.ref 1 0 (lst c).length 2) = some (.sl 2 (hs (srt (ctH q (lst c) 0)))) := by
   have he : elems σ2 2 (.ref 1 0 (lst c).length 2) = some (hs (srt (ctH q (lst c) 0))) := by
    have hlen : (hs (srt (ctH q (lst c) 0))).length = (lst c).length := by rw [hs_len, srt_len, ctH_len]
    simp only [elems, p2]
    rw [if_pos ⟨trivial, trivial, by omega⟩, List.drop_zero, List.take_of_length_le (by omega)]
   show (elems _ _ _).bind _ = _
   rw [he, Option.bind_some, mapM_id (fun x hx => by obtain ⟨h, _, rfl⟩ := List.mem_map.1 hx; rfl)]
   rfl
  simp +contextual -implicitDefEqProofs (maxSteps := 2000000) only [↓wP, wQ, wQ1, wQ2, wQ3, wR, boxE, partsOf, ↓reduceIte, n1w, n2w, n3w, n4w, n5w, n6w, reduceCtorEq, i1w, i2w, i3w, i4w, i5w, g1, g2, p3, p4, fr]
 ·simp +contextual -implicitDefEqProofs (maxSteps := 2000000) only [↓wP, wQ, wQ1, wQ2, wQ3, wR, boxE, partsOf, ↓reduceIte, n1w, n2w, n3w, n4w, n5w, n6w, reduceCtorEq, i1w, i2w, i3w, i4w, i5w]
  simp [fil, zh, hs]
end Go.Q.SD
end
