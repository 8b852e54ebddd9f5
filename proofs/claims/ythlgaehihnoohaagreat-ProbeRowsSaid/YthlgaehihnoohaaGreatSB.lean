/- A sort of few. -/
import Derived.Test.YthlgaehihnoohaaGreatSA
section
set_option linter.unusedSimpArgs false
set_option linter.unusedVariables false
namespace Go.Q.SZ
open Go.Q Go.Sort
theorem raw44N {d : Array Hit} {N : Nat} (hN : d.size = N) (a b id n : Nat) (σ : Sto) (hab : a ≤ b) (hb : b ≤ N) (hn : N < 1000000) (hσ : σ id = some (.row 2 (rw' d))) {Q : V → Sto → Nat → Prop}
    (hQ : ∀ σ', At σ' σ id (insertionSort ahead d a b) → Q .undef σ' n) :
    run T (.raw 118 [.ref id 0 N 2, .int .i64 (a : Int), .int .i64 (b : Int), .fn 78 []] σ n 0) (memQ Q) := by subst hN; exact raw118 d a b id n σ hab hb hn hσ hQ
theorem raw46N {d : Array Hit} {N : Nat} (hN : d.size = N) (a b id n : Nat) (σ : Sto) (h8 : 8 ≤ b - a) (h60 : b - a < 60) (hb : b ≤ N) (hn : N < 1000000) (hid : id < n) (hσ : σ id = some (.row 2 (rw' d))) {Q : V → Sto → Nat → Prop}
    (hQ : ∀ σ' d' n', n ≤ n' → σ' id = some (.row 2 (rw' d')) → (∀ i, i ≠ id → i < n → σ' i = σ i) → PermIn a b d d' → Q .undef σ' n') :
    run T (.raw 120 [.ref id 0 N 2, .int .i64 (a : Int), .int .i64 (b : Int), .fn 78 []] σ n 0) (memQ Q) := by subst hN; exact raw120 d a b id n σ h8 h60 hb hn hid hσ hQ
theorem raw48N {d : Array Hit} {N : Nat} (hN : d.size = N) (a b id n : Nat) (σ : Sto) (hab : a < b) (hb : b ≤ N) (hn : N < 1000000) (hσ : σ id = some (.row 2 (rw' d))) {Q : V → Sto → Nat → Prop}
    (hQ : ∀ σ' d', At σ' σ id d' → PermIn a b d d' → Q .undef σ' n) :
    run T (.raw 122 [.ref id 0 N 2, .int .i64 (a : Int), .int .i64 (b : Int), .fn 78 []] σ n 0) (memQ Q) := by subst hN; exact raw122 d a b id n σ hab hb hn hσ hQ
theorem raw49N {d : Array Hit} {N : Nat} (hN : d.size = N) (a b id n : Nat) (σ : Sto) (hab : a < b) (h50 : b - a < 50) (hb : b ≤ N) (hn : N < 1000000) (hσ : σ id = some (.row 2 (rw' d))) {Q : V → Sto → Nat → Prop}
    (hQ : ∀ r : Bool, (r = true → SortedIn ahead a b d) → Q (.bool r) σ n) :
    run T (.raw 123 [.ref id 0 N 2, .int .i64 (a : Int), .int .i64 (b : Int), .fn 78 []] σ n 0) (memQ Q) := by subst hN; exact raw123 d a b id n σ swoA hab h50 hb hn hσ hQ
theorem raw50N {d : Array Hit} {N : Nat} (hN : d.size = N) (a b p id n : Nat) (σ : Sto) (hap : a ≤ p) (hpb : p < b) (hb : b ≤ N) (hn : N < 1000000) (hσ : σ id = some (.row 2 (rw' d))) {Q : V → Sto → Nat → Prop}
    (hQ : ∀ σ', At σ' σ id (partitionEqual ahead d a b p).2 → Q (.int .i64 ((partitionEqual ahead d a b p).1 : Int)) σ' n) :
    run T (.raw 124 [.ref id 0 N 2, .int .i64 (a : Int), .int .i64 (b : Int), .int .i64 (p : Int), .fn 78 []] σ n 0) (memQ Q) := by subst hN; exact raw124 d a b p id n σ hap hpb hb hn hσ hQ
theorem raw51N {d : Array Hit} {N : Nat} (hN : d.size = N) (a b p id n : Nat) (σ : Sto) (hap : a ≤ p) (hpb : p < b) (hb : b ≤ N) (hn : N < 1000000) (hσ : σ id = some (.row 2 (rw' d))) {Q : V → Sto → Nat → Prop}
    (hQ : ∀ σ', At σ' σ id (partition ahead d a b p).2.2 → Q (.tup [.int .i64 ((partition ahead d a b p).1 : Int), .bool (partition ahead d a b p).2.1]) σ' n) :
    run T (.raw 125 [.ref id 0 N 2, .int .i64 (a : Int), .int .i64 (b : Int), .int .i64 (p : Int), .fn 78 []] σ n 0) (memQ Q) := by subst hN; exact raw125 d a b p id n σ hap hpb hb hn hσ hQ
theorem frz_row {d : Array Hit} {N id : Nat} {σ : Sto} (hN : d.size = N) (h : σ id = some (.row 2 (rw' d))) (k : Nat) : frz σ (k + 3) (.ref id 0 N 2) = some (.sl 2 (rw' d)) := by
  have hl : N = (rw' d).length := by rw [rw_len, hN]
  rw [hl]
  refine (Fz.ref (S := fun _ => True) h trivial (FzL.trees ?_ ?_)).1
  · intro x hx
    unfold rw' at hx
    obtain ⟨y, -, rfl⟩ := List.mem_map.1 hx
    rfl
  · intro x hx c hc
    unfold rw' at hx
    obtain ⟨y, -, rfl⟩ := List.mem_map.1 hx
    simp only [hitV, V.cells, List.mem_cons, List.not_mem_nil, or_false] at hc
    rcases hc with rfl | rfl <;> rfl
theorem f121 (d : Array Hit) (a b id N : Nat) (σ : Sto) (n lk : Nat) (hN : d.size = N) (hσ : σ id = some (.row 2 (rw' d))) (hab : a < b) (hb : b ≤ N) (h50 : b - a < 50) (hn : N < 1000000) :
    ∃ (p : Nat) (h : Int), a ≤ p ∧ p < b ∧ (h = 0 ∨ h = 1 ∨ h = 2) ∧ callE T true 121 [.ref id 0 N 2, .int .i64 (a : Int), .int .i64 (b : Int), .fn 78 []] σ n lk = some (.tup [.int .i64 (p : Int), .int .i64 h], σ, n) := by
  obtain ⟨p, h, h1, h2, h3, h4⟩ := r121 d a b hab (by omega) h50 (by omega)
  refine ⟨p, h, h1, h2, h3, ?_⟩
  rw [callE_eq (by decide)]
  have e : [V.ref id 0 N 2, .int .i64 (a : Int), .int .i64 (b : Int), .fn 78 []].mapM (frz σ 12) = some [.sl 2 (rw' d), .int .i64 (a : Int), .int .i64 (b : Int), .fn 78 []] := by
    simp only [List.mapM_cons, List.mapM_nil, frz_row hN hσ 9, frz_int, frz_fn]
    rfl
  rw [e, callR_some, h4, retE_some, backE_flat rfl]
  rfl
def Pdq (c L N a0 b0 : Nat) (d : Array Hit) (a b lim : Nat) (e : Array Hit) : Prop :=
  a ≤ b ∧ b ≤ N ∧ b - a ≤ L ∧ b - a < 50 ∧ b - a ≤ c + lim ∧ lim < 1000 ∧ e.size = N ∧ Below ahead a b e ∧
  ∀ R, PermIn a b e R → SortedIn ahead a b R → PermIn a0 b0 d R ∧ SortedIn ahead a0 b0 R
theorem Pdq.perm {c L N a0 b0 a b lim : Nat} {d e e' : Array Hit} (h : Pdq c L N a0 b0 d a b lim e) (hp : PermIn a b e e') : Pdq c L N a0 b0 d a b lim e' := by
  obtain ⟨h1, h2, h3, h4, h5, h6, h7, h8, h9⟩ := h
  exact ⟨h1, h2, h3, h4, h5, h6, by rw [hp.1, h7], h8.perm (by omega) hp, fun R hR hs => h9 R (permIn_trans _ _ _ _ _ hp hR) hs⟩
theorem bin_quo8 (m : Nat) (h : m < 9223372036854775808) : binV .quo (.int .i64 (m : Int)) (.int .i64 8) = some (.int .i64 ((m / 8 : Nat) : Int)) := by
  rw [bin_quo .i64 (m : Int) 8 (by decide)]
  have e : (m : Int).tdiv 8 = ((m / 8 : Nat) : Int) := rfl
  rw [e, wrap_nat (by omega)]
def Sorts (L : Nat) : Prop := ∀ (d : Array Hit) (a b lim id n N : Nat) (σ : Sto), b - a < L → a ≤ b → b - a < 50 → b - a ≤ 12 + lim → b ≤ N → N < 1000000 → lim < 1000 → id < n → d.size = N → σ id = some (.row 2 (rw' d)) →
    Below ahead a b d → ∀ {Q : V → Sto → Nat → Prop}, (∀ σ' d' n', n ≤ n' → σ' id = some (.row 2 (rw' d')) → (∀ i, i ≠ id → i < n → σ' i = σ i) → PermIn a b d d' → SortedIn ahead a b d' → Q .undef σ' n') →
    run T (.raw 105 [.ref id 0 N 2, .int .i64 (a : Int), .int .i64 (b : Int), .int .i64 (lim : Int), .fn 78 []] σ n 0) (memQ Q)
theorem raw105_step (L : Nat) (ih : Sorts L) : Sorts (L + 1) := by
  intro d a b lim id n N σ hL hab h50 h12 hb hn hlim hid hN hσ hB Q hQ
  refine run_rawE (fn := g105) rfl rfl ?_
  simp only [g105, b105, oO, oN, mV, lD, gO, pP, qQ, cI, aR]
  simp +contextual -implicitDefEqProofs (maxSteps := 2000000) only [↓wP, wQ, wQ1, wQ2, wQ3, wR, boxE, partsOf, ↓reduceIte, Nat.reduceEqDiff, Nat.reduceAdd, Nat.reduceSub, Nat.reduceLeDiff, Nat.reduceLT, Nat.reduceMul, reduceCtorEq, Int.reduceBNe, Int.reduceBEq, Int.reduceLT, Int.reduceLE, Int.reduceGT]
  refine WC_loopI 0 (fun (s : (Nat × Nat) × Nat) env σ' n' => n ≤ n' ∧ env 0 = .ref id 0 N 2 ∧ env 1 = .int .i64 (s.1.1 : Int) ∧ env 2 = .int .i64 (s.1.2 : Int) ∧ env 3 = .int .i64 (s.2 : Int) ∧ env 4 = .fn 78 [] ∧
      (∃ wb, env 10 = .bool wb) ∧ (∃ wp, env 11 = .bool wp) ∧ (∀ i, i ≠ id → i < n → σ' i = σ i) ∧ ∃ e, Pdq 12 L N a b d s.1.1 s.1.2 s.2 e ∧ σ' id = some (.row 2 (rw' e))) (fun s => s.1.2 - s.1.1) ?_ ((a, b), lim) _ _ _ ?_
  · intro ⟨⟨a', b'⟩, lim'⟩ env σ1 n1 ⟨h1, h2, h3, h4, h5, h6, ⟨wb, h7⟩, ⟨wp, h8⟩, hf, e, hp, h9⟩
    dsimp only at h3 h4 h5 hp
    obtain ⟨p1, p2, p3, p4, p5, p6, p7, p8, p9⟩ := hp
    have hp : Pdq 12 L N a b d a' b' lim' e := ⟨p1, p2, p3, p4, p5, p6, p7, p8, p9⟩
    have w1 : IntKind.i64.wrap ((b' : Int) - (a' : Int)) = ((b' - a' : Nat) : Int) := by rw [wrap_i64] <;> omega
    by_cases hle : b' - a' ≤ 12
    · have hle' : ((b' - a' : Nat) : Int) ≤ 12 := by omega
      simp +contextual -implicitDefEqProofs (maxSteps := 2000000) only [↓wP, wQ, wQ1, wQ2, wQ3, wR, boxE, partsOf, ↓reduceIte, Nat.reduceEqDiff, Nat.reduceAdd, Nat.reduceSub, Nat.reduceLeDiff, Nat.reduceLT, Nat.reduceMul, reduceCtorEq, Int.reduceBNe, Int.reduceBEq, Int.reduceLT, Int.reduceLE, Int.reduceGT, h2, h3, h4, h5, h6, w1, hle']
      refine stepW_raw (by decide) (raw44N p7 a' b' id n1 σ1 p1 p2 hn h9 fun σ2 hat => ?_)
      simp +contextual -implicitDefEqProofs (maxSteps := 2000000) only [↓wP, wQ, wQ1, wQ2, wQ3, wR, boxE, partsOf, ↓reduceIte, Nat.reduceEqDiff, Nat.reduceAdd, Nat.reduceSub, Nat.reduceLeDiff, Nat.reduceLT, Nat.reduceMul, reduceCtorEq, Int.reduceBNe, Int.reduceBEq, Int.reduceLT, Int.reduceLE, Int.reduceGT]
      have hs := insertionSort_holds (lt := ahead) swoA e a' b' p1 (by omega)
      have hR := p9 _ hs.1 hs.2
      exact hQ _ _ _ h1 hat.1 (fun i hi hin => by rw [hat.2 i hi, hf i hi hin]) hR.1 hR.2
    · have hle' : ¬ ((b' - a' : Nat) : Int) ≤ 12 := by omega
      have hl0 : ((lim' : Int) == 0) = false := by simp; omega
      simp +contextual -implicitDefEqProofs (maxSteps := 2000000) only [↓wP, wQ, wQ1, wQ2, wQ3, wR, boxE, partsOf, ↓reduceIte, Nat.reduceEqDiff, Nat.reduceAdd, Nat.reduceSub, Nat.reduceLeDiff, Nat.reduceLT, Nat.reduceMul, reduceCtorEq, Int.reduceBNe, Int.reduceBEq, Int.reduceLT, Int.reduceLE, Int.reduceGT, h2, h3, h4, h5, h6, h7, h8, w1, hle', hl0]
      refine condC_cut (fun env' σ' n' => ∃ lim1 e1, n1 ≤ n' ∧ env' 0 = .ref id 0 N 2 ∧ env' 1 = .int .i64 (a' : Int) ∧ env' 2 = .int .i64 (b' : Int) ∧ env' 3 = .int .i64 ((lim1 : Nat) : Int) ∧ env' 4 = .fn 78 [] ∧
          env' 10 = .bool wb ∧ env' 11 = .bool wp ∧ env' 12 = .int .i64 ((b' - a' : Nat) : Int) ∧ lim' ≤ lim1 + 1 ∧ lim1 ≤ lim' ∧ σ' id = some (.row 2 (rw' e1)) ∧ PermIn a' b' e e1 ∧ (∀ i, i ≠ id → i < n → σ' i = σ i)) ?_ ?_ ?_
      · intro hx
        have wl : IntKind.i64.wrap ((lim' : Int) - 1) = ((lim' - 1 : Nat) : Int) := by rw [wrap_i64] <;> omega
        simp +contextual -implicitDefEqProofs (maxSteps := 2000000) only [↓wP, wQ, wQ1, wQ2, wQ3, wR, boxE, partsOf, ↓reduceIte, Nat.reduceEqDiff, Nat.reduceAdd, Nat.reduceSub, Nat.reduceLeDiff, Nat.reduceLT, Nat.reduceMul, reduceCtorEq, Int.reduceBNe, Int.reduceBEq, Int.reduceLT, Int.reduceLE, Int.reduceGT, h2, h3, h4, h5, h6, h7, h8]
        refine stepW_raw (by decide) (raw46N p7 a' b' id n1 σ1 (by omega) (by omega) p2 hn (by omega) h9 fun σ2 d2 n2 g1 g2 g3 g4 => ?_)
        simp +contextual -implicitDefEqProofs (maxSteps := 2000000) only [↓wP, wQ, wQ1, wQ2, wQ3, wR, boxE, partsOf, ↓reduceIte, Nat.reduceEqDiff, Nat.reduceAdd, Nat.reduceSub, Nat.reduceLeDiff, Nat.reduceLT, Nat.reduceMul, reduceCtorEq, Int.reduceBNe, Int.reduceBEq, Int.reduceLT, Int.reduceLE, Int.reduceGT, h2, h3, h4, h5, h6, h7, h8, wl]
        refine ⟨lim' - 1, d2, ?_⟩
        have : ∀ i, i ≠ id → i < n → σ2 i = σ i := fun i hi hin => by rw [g3 i hi (by omega), hf i hi hin]
        repeat' (first | assumption | rfl | omega | apply And.intro)
      · intro hx
        simp +contextual -implicitDefEqProofs (maxSteps := 2000000) only [↓wP, wQ, wQ1, wQ2, wQ3, wR, boxE, partsOf, ↓reduceIte, Nat.reduceEqDiff, Nat.reduceAdd, Nat.reduceSub, Nat.reduceLeDiff, Nat.reduceLT, Nat.reduceMul, reduceCtorEq, Int.reduceBNe, Int.reduceBEq, Int.reduceLT, Int.reduceLE, Int.reduceGT, h2, h3, h4, h5, h6, h7, h8]
        refine ⟨lim', e, ?_⟩
        have := permIn_refl e a' b'
        repeat' (first | assumption | rfl | omega | apply And.intro)
      · clear h2 h3 h4 h5 h6 h7 h8 hf h9
        intro env σ1 n2 ⟨lim1, e1, hn1, h2, h3, h4, h5, h6, h7, h8, hlen, hl1, hl2, h9, hpm, hf⟩
        have hp1 := hp.perm hpm
        obtain ⟨q1, q2, q3, q4, q5, q6, q7, q8, q9⟩ := hp1
        obtain ⟨p, hh, hp1', hp2', hh3, h47⟩ := f121 e1 a' b' id N σ1 n2 0 q7 h9 (by omega) q2 q4 hn
        simp +contextual -implicitDefEqProofs (maxSteps := 2000000) only [↓wP, wQ, wQ1, wQ2, wQ3, wR, boxE, partsOf, ↓reduceIte, Nat.reduceEqDiff, Nat.reduceAdd, Nat.reduceSub, Nat.reduceLeDiff, Nat.reduceLT, Nat.reduceMul, reduceCtorEq, Int.reduceBNe, Int.reduceBEq, Int.reduceLT, Int.reduceLE, Int.reduceGT, h2, h3, h4, h5, h6, h7, h8, hlen, h47]
        refine condC_cut (fun env' σ' n' => ∃ (p' : Nat) (h' : Int) (e2 : Array Hit), n2 ≤ n' ∧ env' 0 = .ref id 0 N 2 ∧ env' 1 = .int .i64 (a' : Int) ∧ env' 2 = .int .i64 (b' : Int) ∧ env' 3 = .int .i64 ((lim1 : Nat) : Int) ∧ env' 4 = .fn 78 [] ∧
            env' 10 = .bool wb ∧ env' 11 = .bool wp ∧ env' 12 = .int .i64 ((b' - a' : Nat) : Int) ∧ env' 13 = .int .i64 (p' : Int) ∧ env' 14 = .int .i64 h' ∧ a' ≤ p' ∧ p' < b' ∧ σ' id = some (.row 2 (rw' e2)) ∧ PermIn a' b' e e2 ∧ (∀ i, i ≠ id → i < n → σ' i = σ i)) ?_ ?_ ?_
        · intro hx
          have wb1 : IntKind.i64.wrap ((b' : Int) - 1) = ((b' - 1 : Nat) : Int) := by rw [wrap_i64] <;> omega
          have wpa : IntKind.i64.wrap ((p : Int) - (a' : Int)) = ((p - a' : Nat) : Int) := by rw [wrap_i64] <;> omega
          have wpp : IntKind.i64.wrap (((b' - 1 : Nat) : Int) - ((p - a' : Nat) : Int)) = ((b' - 1 - (p - a') : Nat) : Int) := by rw [wrap_i64] <;> omega
          simp +contextual -implicitDefEqProofs (maxSteps := 2000000) only [↓wP, wQ, wQ1, wQ2, wQ3, wR, boxE, partsOf, ↓reduceIte, Nat.reduceEqDiff, Nat.reduceAdd, Nat.reduceSub, Nat.reduceLeDiff, Nat.reduceLT, Nat.reduceMul, reduceCtorEq, Int.reduceBNe, Int.reduceBEq, Int.reduceLT, Int.reduceLE, Int.reduceGT, h2, h3, h4, h5, h6, h7, h8, hlen]
          refine stepW_raw (by decide) (raw48N q7 a' b' id n2 σ1 (by omega) q2 hn h9 fun σ2 d2 g1 g2 => ?_)
          simp +contextual -implicitDefEqProofs (maxSteps := 2000000) only [↓wP, wQ, wQ1, wQ2, wQ3, wR, boxE, partsOf, ↓reduceIte, Nat.reduceEqDiff, Nat.reduceAdd, Nat.reduceSub, Nat.reduceLeDiff, Nat.reduceLT, Nat.reduceMul, reduceCtorEq, Int.reduceBNe, Int.reduceBEq, Int.reduceLT, Int.reduceLE, Int.reduceGT, h2, h3, h4, h5, h6, h7, h8, hlen, wb1, wpa, wpp]
          refine ⟨b' - 1 - (p - a'), 1, d2, ?_⟩
          have : ∀ i, i ≠ id → i < n → σ2 i = σ i := fun i hi hin => by rw [g1.2 i hi, hf i hi hin]
          have := permIn_trans _ _ _ _ _ hpm g2
          have := g1.1
          repeat' (first | assumption | rfl | omega | apply And.intro)
        · intro hx
          simp +contextual -implicitDefEqProofs (maxSteps := 2000000) only [↓wP, wQ, wQ1, wQ2, wQ3, wR, boxE, partsOf, ↓reduceIte, Nat.reduceEqDiff, Nat.reduceAdd, Nat.reduceSub, Nat.reduceLeDiff, Nat.reduceLT, Nat.reduceMul, reduceCtorEq, Int.reduceBNe, Int.reduceBEq, Int.reduceLT, Int.reduceLE, Int.reduceGT, h2, h3, h4, h5, h6, h7, h8, hlen]
          refine ⟨p, hh, e1, ?_⟩
          repeat' (first | assumption | rfl | omega | apply And.intro)
        · clear h2 h3 h4 h5 h6 h7 h8 hlen hpm hf h9 q1 q2 q3 q4 q5 q6 q7 q8 q9 h47
          intro env σ1 n3 ⟨p', h', e2, hn3, h2, h3, h4, h5, h6, h7, h8, hlen, h13, h14, hpa, hpb, h9, hpm, hf⟩
          obtain ⟨q1, q2, q3, q4, q5, q6, q7, q8, q9⟩ := hp.perm hpm
          simp +contextual -implicitDefEqProofs (maxSteps := 2000000) only [↓wP, wQ, wQ1, wQ2, wQ3, wR, boxE, partsOf, ↓reduceIte, Nat.reduceEqDiff, Nat.reduceAdd, Nat.reduceSub, Nat.reduceLeDiff, Nat.reduceLT, Nat.reduceMul, reduceCtorEq, Int.reduceBNe, Int.reduceBEq, Int.reduceLT, Int.reduceLE, Int.reduceGT, h2, h3, h4, h5, h6, h7, h8, hlen, h13, h14]
          refine condC_cut (fun env' σ' n' => n' = n3 ∧ σ' = σ1 ∧ env' 0 = .ref id 0 N 2 ∧ env' 1 = .int .i64 (a' : Int) ∧ env' 2 = .int .i64 (b' : Int) ∧ env' 3 = .int .i64 ((lim1 : Nat) : Int) ∧ env' 4 = .fn 78 [] ∧
              env' 10 = .bool wb ∧ env' 11 = .bool wp ∧ env' 12 = .int .i64 ((b' - a' : Nat) : Int) ∧ env' 13 = .int .i64 (p' : Int)) ?_ ?_ ?_
          · intro hx
            simp +contextual -implicitDefEqProofs (maxSteps := 2000000) only [↓wP, wQ, wQ1, wQ2, wQ3, wR, boxE, partsOf, ↓reduceIte, Nat.reduceEqDiff, Nat.reduceAdd, Nat.reduceSub, Nat.reduceLeDiff, Nat.reduceLT, Nat.reduceMul, reduceCtorEq, Int.reduceBNe, Int.reduceBEq, Int.reduceLT, Int.reduceLE, Int.reduceGT, h2, h3, h4, h5, h6, h7, h8, hlen, h13, h14]
            refine stepW_raw (by decide) (raw49N q7 a' b' id n3 σ1 (by omega) q4 q2 hn h9 fun r hr => ?_)
            cases r
            · simp +contextual -implicitDefEqProofs (maxSteps := 2000000) only [↓wP, wQ, wQ1, wQ2, wQ3, wR, boxE, partsOf, ↓reduceIte, Nat.reduceEqDiff, Nat.reduceAdd, Nat.reduceSub, Nat.reduceLeDiff, Nat.reduceLT, Nat.reduceMul, reduceCtorEq, Int.reduceBNe, Int.reduceBEq, Int.reduceLT, Int.reduceLE, Int.reduceGT, h2, h3, h4, h5, h6, h7, h8, hlen, h13, h14]
            · simp +contextual -implicitDefEqProofs (maxSteps := 2000000) only [↓wP, wQ, wQ1, wQ2, wQ3, wR, boxE, partsOf, ↓reduceIte, Nat.reduceEqDiff, Nat.reduceAdd, Nat.reduceSub, Nat.reduceLeDiff, Nat.reduceLT, Nat.reduceMul, reduceCtorEq, Int.reduceBNe, Int.reduceBEq, Int.reduceLT, Int.reduceLE, Int.reduceGT, h2, h3, h4, h5, h6, h7, h8, hlen, h13, h14]
              have hR := q9 e2 (permIn_refl _ _ _) (hr rfl)
              exact hQ _ _ _ (by omega) h9 hf hR.1 hR.2
          · intro hx
            simp +contextual -implicitDefEqProofs (maxSteps := 2000000) only [↓wP, wQ, wQ1, wQ2, wQ3, wR, boxE, partsOf, ↓reduceIte, Nat.reduceEqDiff, Nat.reduceAdd, Nat.reduceSub, Nat.reduceLeDiff, Nat.reduceLT, Nat.reduceMul, reduceCtorEq, Int.reduceBNe, Int.reduceBEq, Int.reduceLT, Int.reduceLE, Int.reduceGT, h2, h3, h4, h5, h6, h7, h8, hlen, h13, h14]
          · clear h2 h3 h4 h5 h6 h7 h8 hlen h13 h14
            intro env σ2 n4 ⟨hn4, hs4, h2, h3, h4, h5, h6, h7, h8, hlen, h13⟩
            subst hn4 hs4
            rw [seqQ_normal, WC_seq]
            refine WC_cut (fun env' σ' n' => n' = n4 ∧ σ' = σ2 ∧ env' 0 = .ref id 0 N 2 ∧ env' 1 = .int .i64 (a' : Int) ∧ env' 2 = .int .i64 (b' : Int) ∧ env' 3 = .int .i64 ((lim1 : Nat) : Int) ∧ env' 4 = .fn 78 [] ∧
              env' 10 = .bool wb ∧ env' 11 = .bool wp ∧ env' 12 = .int .i64 ((b' - a' : Nat) : Int) ∧ env' 13 = .int .i64 (p' : Int)) ?_ ?_
            · by_cases ha0 : 0 < a'
              · have ha0' : (0 : Int) < (a' : Int) := by omega
                have wa1 : IntKind.i64.wrap ((a' : Int) - 1) = ((a' - 1 : Nat) : Int) := by rw [wrap_i64] <;> omega
                have x1 := rw_at (d := e2) (i := a' - 1) (by omega)
                have x2 := rw_at (d := e2) (i := p') (by omega)
                have l1 : a' - 1 < N := by omega
                have l2 : p' < N := by omega
                by_cases hc : cmpH e2[a' - 1]! e2[p']! < 0
                · simp +contextual -implicitDefEqProofs (maxSteps := 2000000) only [↓wP, wQ, wQ1, wQ2, wQ3, wR, boxE, partsOf, ↓reduceIte, Nat.reduceEqDiff, Nat.reduceAdd, Nat.reduceSub, Nat.reduceLeDiff, Nat.reduceLT, Nat.reduceMul, reduceCtorEq, Int.reduceBNe, Int.reduceBEq, Int.reduceLT, Int.reduceLE, Int.reduceGT, h2, h3, h4, h5, h6, h7, h8, hlen, h13, ha0', wa1, h9, x1, x2, l1, l2, f78, hc]
                · have hah : ahead e2[a' - 1]! e2[p']! = false := by rw [← cmp_lt]; simpa using hc
                  simp +contextual -implicitDefEqProofs (maxSteps := 2000000) only [↓wP, wQ, wQ1, wQ2, wQ3, wR, boxE, partsOf, ↓reduceIte, Nat.reduceEqDiff, Nat.reduceAdd, Nat.reduceSub, Nat.reduceLeDiff, Nat.reduceLT, Nat.reduceMul, reduceCtorEq, Int.reduceBNe, Int.reduceBEq, Int.reduceLT, Int.reduceLE, Int.reduceGT, h2, h3, h4, h5, h6, h7, h8, hlen, h13, ha0', wa1, h9, x1, x2, l1, l2, f78, hc]
                  refine stepW_raw (by decide) (raw50N q7 a' b' p' id n4 σ2 hpa hpb q2 hn h9 fun σ5 hat => ?_)
                  obtain ⟨r1, r2, r3, r4, r5⟩ := round_eq (lt := ahead) swoA (partitionEqual_holds ahead) (d3 := e2) (d4 := (partitionEqual ahead e2 a' b' p').2) (mid := (partitionEqual ahead e2 a' b' p').1) (a := a') (b := b') (pivot := p') ha0 hpa hpb (by omega) q8 hah rfl
                  simp +contextual -implicitDefEqProofs (maxSteps := 2000000) only [↓wP, wQ, wQ1, wQ2, wQ3, wR, boxE, partsOf, ↓reduceIte, Nat.reduceEqDiff, Nat.reduceAdd, Nat.reduceSub, Nat.reduceLeDiff, Nat.reduceLT, Nat.reduceMul, reduceCtorEq, Int.reduceBNe, Int.reduceBEq, Int.reduceLT, Int.reduceLE, Int.reduceGT, h2, h3, h4, h5, h6, h7, h8, hlen, h13]
                  generalize (partitionEqual ahead e2 a' b' p').2 = e3 at *
                  generalize (partitionEqual ahead e2 a' b' p').1 = mid at *
                  have hfr : ∀ i, i ≠ id → i < n → σ5 i = σ i := fun i hi hin => by rw [hat.2 i hi, hf i hi hin]
                  refine ⟨((mid, b'), lim1), by dsimp only; omega, by omega, rfl, rfl, rfl, ⟨_, rfl⟩, ⟨_, rfl⟩, hfr, e3, ⟨r2, q2, by dsimp only; omega, by dsimp only; omega, by dsimp only; omega, by dsimp only; omega, by rw [r3, q7], r4, fun R hR hs => ?_⟩, hat.1⟩
                  obtain ⟨t1, t2⟩ := r5 R hR hs
                  exact q9 R t1 t2
              · have ha0' : ¬ (0 : Int) < (a' : Int) := by omega
                simp +contextual -implicitDefEqProofs (maxSteps := 2000000) only [↓wP, wQ, wQ1, wQ2, wQ3, wR, boxE, partsOf, ↓reduceIte, Nat.reduceEqDiff, Nat.reduceAdd, Nat.reduceSub, Nat.reduceLeDiff, Nat.reduceLT, Nat.reduceMul, reduceCtorEq, Int.reduceBNe, Int.reduceBEq, Int.reduceLT, Int.reduceLE, Int.reduceGT, h2, h3, h4, h5, h6, h7, h8, hlen, h13, ha0']
            · clear h2 h3 h4 h5 h6 h7 h8 hlen h13
              intro env σ3 n5 ⟨hn5, hs5, h2, h3, h4, h5, h6, h7, h8, hlen, h13⟩
              subst hn5 hs5
              simp +contextual -implicitDefEqProofs (maxSteps := 2000000) only [↓wP, wQ, wQ1, wQ2, wQ3, wR, boxE, partsOf, ↓reduceIte, Nat.reduceEqDiff, Nat.reduceAdd, Nat.reduceSub, Nat.reduceLeDiff, Nat.reduceLT, Nat.reduceMul, reduceCtorEq, Int.reduceBNe, Int.reduceBEq, Int.reduceLT, Int.reduceLE, Int.reduceGT, h2, h3, h4, h5, h6, h7, h8, hlen, h13]
              refine stepW_raw (by decide) (raw51N q7 a' b' p' id n5 σ3 hpa hpb q2 hn h9 fun σ5 hat => ?_)
              obtain ⟨r1, r2, r3, r4, r5, r6, r7⟩ := round_part (lt := ahead) swoA (partition_holds ahead) (d3 := e2) (d4 := (partition ahead e2 a' b' p').2.2) (mid := (partition ahead e2 a' b' p').1) (ap := (partition ahead e2 a' b' p').2.1) (a := a') (b := b') (pivot := p') hpa hpb (by omega) q8 rfl
              generalize (partition ahead e2 a' b' p').2.2 = e3 at *
              generalize (partition ahead e2 a' b' p').1 = mid at *
              generalize (partition ahead e2 a' b' p').2.1 = ap at *
              have hfr : ∀ i, i ≠ id → i < n → σ5 i = σ i := fun i hi hin => by rw [hat.2 i hi, hf i hi hin]
              have wma : IntKind.i64.wrap ((mid : Int) - (a' : Int)) = ((mid - a' : Nat) : Int) := by rw [wrap_i64] <;> omega
              have wbm : IntKind.i64.wrap ((b' : Int) - (mid : Int)) = ((b' - mid : Nat) : Int) := by rw [wrap_i64] <;> omega
              have wm1 : IntKind.i64.wrap ((mid : Int) + 1) = ((mid + 1 : Nat) : Int) := by rw [wrap_i64] <;> omega
              have q8' := bin_quo8 (b' - a') (by omega)
              have hsz : e3.size = N := by rw [r3, q7]
              by_cases hlr : mid - a' < b' - mid
              · have hlr' : ((mid - a' : Nat) : Int) < ((b' - mid : Nat) : Int) := by omega
                simp +contextual -implicitDefEqProofs (maxSteps := 2000000) only [↓wP, wQ, wQ1, wQ2, wQ3, wR, boxE, partsOf, ↓reduceIte, Nat.reduceEqDiff, Nat.reduceAdd, Nat.reduceSub, Nat.reduceLeDiff, Nat.reduceLT, Nat.reduceMul, reduceCtorEq, Int.reduceBNe, Int.reduceBEq, Int.reduceLT, Int.reduceLE, Int.reduceGT, h2, h3, h4, h5, h6, h7, h8, hlen, h13, wma, wbm, wm1, q8', hlr']
                refine stepW_raw (by decide) (ih e3 a' mid lim1 id n5 N σ5 (by omega) r1 (by omega) (by omega) (by omega) hn (by omega) (by omega) hsz hat.1 r4 fun σ6 d6 n6 k1 k2 k3 k4 k5 => ?_)
                obtain ⟨t1, t2⟩ := r6 d6 k4 k5
                simp +contextual -implicitDefEqProofs (maxSteps := 2000000) only [↓wP, wQ, wQ1, wQ2, wQ3, wR, boxE, partsOf, ↓reduceIte, Nat.reduceEqDiff, Nat.reduceAdd, Nat.reduceSub, Nat.reduceLeDiff, Nat.reduceLT, Nat.reduceMul, reduceCtorEq, Int.reduceBNe, Int.reduceBEq, Int.reduceLT, Int.reduceLE, Int.reduceGT, h2, h3, h4, h5, h6, h7, h8, hlen, h13, wm1]
                have hfr2 : ∀ i, i ≠ id → i < n → σ6 i = σ i := fun i hi hin => by rw [k3 i hi (by omega), hfr i hi hin]
                refine ⟨((mid + 1, b'), lim1), by dsimp only; omega, by omega, rfl, rfl, rfl, ⟨_, rfl⟩, ⟨_, rfl⟩, hfr2, d6, ⟨by dsimp only; omega, q2, by dsimp only; omega, by dsimp only; omega, by dsimp only; omega, by dsimp only; omega, by rw [k4.1, hsz], t1, fun R hR hs => ?_⟩, k2⟩
                obtain ⟨u1, u2⟩ := t2 R hR hs
                exact q9 R u1 u2
              · have hlr' : ¬ ((mid - a' : Nat) : Int) < ((b' - mid : Nat) : Int) := by omega
                simp +contextual -implicitDefEqProofs (maxSteps := 2000000) only [↓wP, wQ, wQ1, wQ2, wQ3, wR, boxE, partsOf, ↓reduceIte, Nat.reduceEqDiff, Nat.reduceAdd, Nat.reduceSub, Nat.reduceLeDiff, Nat.reduceLT, Nat.reduceMul, reduceCtorEq, Int.reduceBNe, Int.reduceBEq, Int.reduceLT, Int.reduceLE, Int.reduceGT, h2, h3, h4, h5, h6, h7, h8, hlen, h13, wma, wbm, wm1, q8', hlr']
                refine stepW_raw (by decide) (ih e3 (mid + 1) b' lim1 id n5 N σ5 (by omega) (by omega) (by omega) (by omega) q2 hn (by omega) (by omega) hsz hat.1 r5 fun σ6 d6 n6 k1 k2 k3 k4 k5 => ?_)
                obtain ⟨t1, t2⟩ := r7 d6 k4 k5
                simp +contextual -implicitDefEqProofs (maxSteps := 2000000) only [↓wP, wQ, wQ1, wQ2, wQ3, wR, boxE, partsOf, ↓reduceIte, Nat.reduceEqDiff, Nat.reduceAdd, Nat.reduceSub, Nat.reduceLeDiff, Nat.reduceLT, Nat.reduceMul, reduceCtorEq, Int.reduceBNe, Int.reduceBEq, Int.reduceLT, Int.reduceLE, Int.reduceGT, h2, h3, h4, h5, h6, h7, h8, hlen, h13]
                have hfr2 : ∀ i, i ≠ id → i < n → σ6 i = σ i := fun i hi hin => by rw [k3 i hi (by omega), hfr i hi hin]
                refine ⟨((a', mid), lim1), by dsimp only; omega, by omega, rfl, rfl, rfl, ⟨_, rfl⟩, ⟨_, rfl⟩, hfr2, d6, ⟨by dsimp only; omega, by dsimp only; omega, by dsimp only; omega, by dsimp only; omega, by dsimp only; omega, by dsimp only; omega, by rw [k4.1, hsz], t1, fun R hR hs => ?_⟩, k2⟩
                obtain ⟨u1, u2⟩ := t2 R hR hs
                exact q9 R u1 u2
  · simp +contextual -implicitDefEqProofs (maxSteps := 2000000) only [↓wP, wQ, wQ1, wQ2, wQ3, wR, boxE, partsOf, ↓reduceIte, Nat.reduceEqDiff, Nat.reduceAdd, Nat.reduceSub, Nat.reduceLeDiff, Nat.reduceLT, Nat.reduceMul, reduceCtorEq, Int.reduceBNe, Int.reduceBEq, Int.reduceLT, Int.reduceLE, Int.reduceGT]
    exact ⟨⟨true, rfl⟩, ⟨true, rfl⟩, fun _ _ _ => trivial, d, ⟨hab, hb, by omega, h50, h12, hlim, hN, hB, fun R hR hs => ⟨hR, hs⟩⟩, hσ⟩
theorem raw105 : ∀ L : Nat, Sorts L
  | 0 => fun _ _ _ _ _ _ _ _ h => absurd h (by omega)
  | L + 1 => raw105_step L (raw105 L)
def chk106 (m : Nat) : Bool := match exJob T 60 (.pure 106 [.int .u64 (m : Int)]) with
  | some (.val (.int .i64 M)) => decide (0 ≤ M ∧ (m : Int) ≤ 12 + M ∧ M < 1000)
  | _ => false
theorem all106 : (List.range 18).all chk106 = true := by decide +kernel
theorem r106 (m : Nat) (h : m < 18) : ∃ M : Nat, m ≤ 12 + M ∧ M < 1000 ∧ res T 106 [.int .u64 (m : Int)] = some (.int .i64 (M : Int)) := by
  have h := List.all_eq_true.1 all106 m (List.mem_range.2 h)
  unfold chk106 at h
  split at h
  · rename_i M hM
    simp only [decide_eq_true_eq] at h
    refine ⟨M.toNat, by omega, by omega, ?_⟩
    rw [show ((M.toNat : Nat) : Int) = M by omega]
    exact run_res (exJob_sound 60 _ _ hM)
  · cases h
theorem raw71 (d : Array Hit) (id n : Nat) (σ : Sto) (hd : d.size < 18) (hid : id < n) (hσ : σ id = some (.row 2 (rw' d))) {Q : V → Sto → Nat → Prop}
    (hQ : ∀ σ' d' n', n ≤ n' → σ' id = some (.row 2 (rw' d')) → (∀ i, i ≠ id → i < n → σ' i = σ i) → PermIn 0 d.size d d' → SortedIn ahead 0 d.size d' → Q .undef σ' n') :
    run T (.raw 71 [.ref id 0 d.size 2, .fn 78 []] σ n 0) (memQ Q) := by
  refine run_rawE (fn := g71) rfl rfl ?_
  simp only [g71, b71, oO, oN, mV, lD, gO, pP, qQ, cI, aR]
  obtain ⟨M, h1, h2, h3⟩ := r106 d.size hd
  have f106 := callE_tr (fs := true) (by decide) h3 (by simp [Tr]) rfl
  have wu : IntKind.u64.wrap ((d.size : Nat) : Int) = ((d.size : Nat) : Int) := by rw [wrap_u64] <;> omega
  simp +contextual -implicitDefEqProofs (maxSteps := 2000000) only [↓wP, wQ, wQ1, wQ2, wQ3, wR, boxE, partsOf, ↓reduceIte, Nat.reduceEqDiff, Nat.reduceAdd, Nat.reduceSub, Nat.reduceLeDiff, Nat.reduceLT, Nat.reduceMul, reduceCtorEq, Int.reduceBNe, Int.reduceBEq, Int.reduceLT, Int.reduceLE, Int.reduceGT, wu, f106]
  refine stepW_raw (by decide) (raw105 (d.size + 1) d 0 d.size M id n d.size σ (by omega) (by omega) (by omega) (by omega) (by omega) (by omega) h2 hid rfl hσ (.inl rfl) fun σ' d' n' k1 k2 k3 k4 k5 => ?_)
  simp +contextual -implicitDefEqProofs (maxSteps := 2000000) only [↓wP, wQ, wQ1, wQ2, wQ3, wR, boxE, partsOf, ↓reduceIte, Nat.reduceEqDiff, Nat.reduceAdd, Nat.reduceSub, Nat.reduceLeDiff, Nat.reduceLT, Nat.reduceMul, reduceCtorEq, Int.reduceBNe, Int.reduceBEq, Int.reduceLT, Int.reduceLE, Int.reduceGT]
  exact hQ σ' d' n' k1 k2 k3 k4 k5
end Go.Q.SZ
end

section
/- A heap of hits. -/
set_option linter.unusedSimpArgs false
set_option linter.unusedVariables false
namespace Go.Q.SZ
open Go.Q Go.Sort
theorem At.trans {σ σ1 σ2 : Sto} {id : Nat} {d1 d2 : Array Hit} (h : At σ1 σ id d1) (h' : At σ2 σ1 id d2) : At σ2 σ id d2 := ⟨h'.1, fun i hi => (h'.2 i hi).trans (h.2 i hi)⟩
theorem raw165 (d : Array Hit) (i j id n len : Nat) (σ : Sto) (hi : i < len) (hj : j < len) (hl : len ≤ d.size) (hσ : σ id = some (.row 2 (rw' d))) {Q : V → Sto → Nat → Prop}
    (hQ : ∀ σ', At σ' σ id (swp d i j) → Q .undef σ' n) : run T (.raw 165 [.ref id 0 len 2, .int .i64 (i : Int), .int .i64 (j : Int)] σ n 0) (memQ Q) := by
  refine run_rawE (fn := g165) rfl rfl ?_
  simp only [g165, b165, oO, oN, mV, lD, gO, pP, qQ, cI, aR]
  have x1 := rw_at (d := d) (i := i) (by omega)
  have x2 := rw_at (d := d) (i := j) (by omega)
  obtain ⟨u, v, x3⟩ := rw_set_at (d := d) (i := i) (j := j) (x := d[j]!) (by omega)
  have hat := (At.refl hσ).swp i j
  simp +contextual -implicitDefEqProofs (maxSteps := 2000000) only [↓wP, wQ, wQ1, wQ2, wQ3, wR, boxE, partsOf, ↓reduceIte, Nat.reduceEqDiff, Nat.reduceAdd, Nat.reduceSub, Nat.reduceLeDiff, Nat.reduceLT, Nat.reduceMul, reduceCtorEq, Int.reduceBNe, Int.reduceBEq, Int.reduceLT, Int.reduceLE, Int.reduceGT, x1, x2, x3, hi, hj, hσ]
  exact hQ _ hat
theorem frz_pre {d : Array Hit} {len id : Nat} {σ : Sto} (hl : len ≤ d.size) (h : σ id = some (.row 2 (rw' d))) (k : Nat) : frz σ (k + 3) (.ref id 0 len 2) = some (.sl 2 ((rw' d).take len)) := by
  have e : elems σ 2 (.ref id 0 len 2) = some ((rw' d).take len) := by
    simp only [elems, h, List.drop_zero]
    rw [if_pos ⟨trivial, trivial, by rw [rw_len]; omega⟩]
  have hm : ((rw' d).take len).mapM (elemM (frz σ (k + 2))) = some ((rw' d).take len) := by
    refine mapM_id fun c hc => ?_
    have := List.mem_of_mem_take hc
    unfold rw' at this
    obtain ⟨y, -, rfl⟩ := List.mem_map.1 this
    rfl
  show (elems σ 2 (.ref id 0 len 2)).bind _ = _
  rw [e, Option.bind_some, hm]
  rfl
theorem r162 (L : List V) (i j : Nat) (a b : Hit) (ha : L[i]? = some (.agg [.int .u64 a.id, .int .u64 a.d])) (hb : L[j]? = some (.agg [.int .u64 b.id, .int .u64 b.d])) :
    res T 162 [.box [.sl 2 L], .int .i64 (i : Int), .int .i64 (j : Int)] = some (.bool (ahead b a)) := by
  refine run_res (run_pure (fn := g162) rfl rfl (by decide) ?_)
  simp only [g162, b162, oO, oN, mV, lD, gO, pP, qQ, cI, aR]
  simp +contextual -implicitDefEqProofs (maxSteps := 2000000) only [↓wP, wQ, wQ1, wQ2, wQ3, wR, boxE, partsOf, ↓reduceIte, Nat.reduceEqDiff, Nat.reduceAdd, Nat.reduceSub, Nat.reduceLeDiff, Nat.reduceLT, Nat.reduceMul, reduceCtorEq, Int.reduceBNe, Int.reduceBEq, Int.reduceLT, Int.reduceLE, Int.reduceGT, ha, hb, f78]
  rw [← cmp_gt]
theorem f162 {d : Array Hit} {len id wid : Nat} {σ : Sto} (i j : Nat) (hl : len ≤ d.size) (hi : i < len) (hj : j < len) (hw : σ wid = some (.row 1 [.agg [.ref id 0 len 2]])) (h : σ id = some (.row 2 (rw' d))) (fs : Bool) (n lk : Nat) :
    callE T fs 162 [.ptr wid 1 0 0, .int .i64 (i : Int), .int .i64 (j : Int)] σ n lk = some (.bool (ahead d[j]! d[i]!), σ, n) := by
  rw [callE_eq (by decide)]
  have hp : frz σ 12 (.ptr wid 1 0 0) = some (.box [.sl 2 ((rw' d).take len)]) := by
    show (rowAt σ wid 1 0).bind _ = _
    simp only [rowAt, hw, if_true, List.getElem?_cons_zero, Option.bind_some, V.cells, List.drop_zero, List.mapM_cons, List.mapM_nil, frz_pre hl h 8]
    rfl
  have e : [V.ptr wid 1 0 0, .int .i64 (i : Int), .int .i64 (j : Int)].mapM (frz σ 12) = some [.box [.sl 2 ((rw' d).take len)], .int .i64 (i : Int), .int .i64 (j : Int)] := by
    simp only [List.mapM_cons, List.mapM_nil, hp, frz_int]
    rfl
  have x1 : ((rw' d).take len)[i]? = some (.agg [.int .u64 (d[i]!).id, .int .u64 (d[i]!).d]) := by rw [List.getElem?_take_of_lt hi, rw_at (by omega)]
  have x2 : ((rw' d).take len)[j]? = some (.agg [.int .u64 (d[j]!).id, .int .u64 (d[j]!).d]) := by rw [List.getElem?_take_of_lt hj, rw_at (by omega)]
  rw [e, callR_some, r162 _ i j d[i]! d[j]! x1 x2, retE_some, backE_flat rfl]
  rfl
theorem r137 (o : Option (List V)) : res T 137 [slV 2 _root_.id o] = some (.int .i64 ((lst o).length : Int)) := by
  refine run_res (run_pure (fn := g137) rfl rfl (by decide) ?_)
  simp only [g137, b137, oO, oN, mV, lD, gO, pP, qQ, cI, aR]
  simp +contextual -implicitDefEqProofs (maxSteps := 2000000) only [↓wP, wQ, wQ1, wQ2, wQ3, wR, boxE, partsOf, ↓reduceIte, Nat.reduceEqDiff, Nat.reduceAdd, Nat.reduceSub, Nat.reduceLeDiff, Nat.reduceLT, Nat.reduceMul, reduceCtorEq, Int.reduceBNe, Int.reduceBEq, Int.reduceLT, Int.reduceLE, Int.reduceGT]
theorem f32r {d : Array Hit} {len id : Nat} {σ : Sto} (hl : len ≤ d.size) (h : σ id = some (.row 2 (rw' d))) (fs : Bool) (n lk : Nat) :
    callE T fs 137 [.ref id 0 len 2] σ n lk = some (.int .i64 (len : Int), σ, n) := by
  rw [callE_eq (by decide)]
  have e : [V.ref id 0 len 2].mapM (frz σ 12) = some [slV 2 _root_.id (some ((rw' d).take len))] := by
    simp only [List.mapM_cons, List.mapM_nil, frz_pre hl h 9, slV, List.map_id]
    rfl
  rw [e, callR_some, r137, retE_some, backE_flat rfl]
  simp only [lst_some, List.length_take, rw_len]
  rw [Nat.min_eq_left hl]
  rfl
theorem f137n (σ : Sto) (fs : Bool) (n lk : Nat) : callE T fs 137 [.nilS] σ n lk = some (.int .i64 0, σ, n) := by
  have := callE_tr (T := T) (f := 137) (args := [.nilS]) (by decide) (r137 none) rfl rfl fs σ n lk
  exact this
theorem bin_quo2 (m : Nat) (h : m < 9223372036854775808) : binV .quo (.int .i64 (m : Int)) (.int .i64 2) = some (.int .i64 ((m / 2 : Nat) : Int)) := by
  rw [bin_quo .i64 (m : Int) 2 (by decide)]
  have e : (m : Int).tdiv 2 = ((m / 2 : Nat) : Int) := rfl
  rw [e, wrap_nat (by omega)]
theorem bin_quo2n : binV .quo (.int .i64 (-1)) (.int .i64 2) = some (.int .i64 0) := by
  rw [bin_quo .i64 (-1) 2 (by decide)]
  rfl
theorem raw144 (d : Array Hit) (j wid id len n : Nat) (σ : Sto) (hj : j < len) (hl : len ≤ d.size) (hd : d.size < 1000000) (hw : σ wid = some (.row 1 [.agg [.ref id 0 len 2]])) (hσ : σ id = some (.row 2 (rw' d))) (hne : wid ≠ id)
    (hup : HpUp len j d) {Q : V → Sto → Nat → Prop} (hQ : ∀ σ' d', At σ' σ id d' → PermIn 0 len d d' → Hp len d' → Q .undef σ' n) :
    run T (.raw 144 [.iface 179 (.ptr wid 1 0 0), .int .i64 (j : Int)] σ n 0) (memQ Q) := by
  refine run_rawE (fn := g144) rfl rfl ?_
  simp only [g144, b144, oO, oN, mV, lD, gO, pP, qQ, cI, aR]
  simp +contextual -implicitDefEqProofs (maxSteps := 2000000) only [↓wP, wQ, wQ1, wQ2, wQ3, wR, boxE, partsOf, ↓reduceIte, Nat.reduceEqDiff, Nat.reduceAdd, Nat.reduceSub, Nat.reduceLeDiff, Nat.reduceLT, Nat.reduceMul, reduceCtorEq, Int.reduceBNe, Int.reduceBEq, Int.reduceLT, Int.reduceLE, Int.reduceGT]
  refine WC_loopI 0 (fun (s : Nat × Array Hit) env σ' n' => n' = n ∧ env 0 = .iface 179 (.ptr wid 1 0 0) ∧ env 1 = .int .i64 (s.1 : Int) ∧ s.1 < len ∧ s.2.size = d.size ∧ At σ' σ id s.2 ∧ PermIn 0 len d s.2 ∧ HpUp len s.1 s.2) (fun s => s.1) ?_ (j, d) _ _ _ ?_
  · intro ⟨j', e⟩ env σ1 n1 ⟨h1, h2, h3, h4, h5, h6, h7, h8⟩
    subst h1
    dsimp only at h3 h4 h5 h6 h7 h8
    have hw1 : σ1 wid = some (.row 1 [.agg [.ref id 0 len 2]]) := by rw [h6.2 wid hne, hw]
    by_cases h0 : j' = 0
    · subst h0
      have w0 : IntKind.i64.wrap (((0 : Nat) : Int) - 1) = -1 := by decide
      have w0' : IntKind.i64.wrap ((0 : Int) - 1) = -1 := by decide
      simp only [Int.natCast_zero] at h3
      simp +contextual -implicitDefEqProofs (maxSteps := 2000000) only [↓wP, wQ, wQ1, wQ2, wQ3, wR, boxE, partsOf, ↓reduceIte, Nat.reduceEqDiff, Nat.reduceAdd, Nat.reduceSub, Nat.reduceLeDiff, Nat.reduceLT, Nat.reduceMul, reduceCtorEq, Int.reduceBNe, Int.reduceBEq, Int.reduceLT, Int.reduceLE, Int.reduceGT, h2, h3, w0, w0', bin_quo2n]
      exact hQ _ e h6 h7 (h8.stop (.inl rfl))
    · have w1 : IntKind.i64.wrap ((j' : Int) - 1) = ((j' - 1 : Nat) : Int) := by rw [wrap_i64] <;> omega
      have q2 := bin_quo2 (j' - 1) (by omega)
      have hne' : ((((j' - 1) / 2 : Nat) : Int) == (j' : Int)) = false := by simp; omega
      have c76 := fun fs n lk => f162 (d := e) (len := len) (σ := σ1) j' ((j' - 1) / 2) (by omega) h4 (by omega) hw1 h6.1 fs n lk
      cases hc : ahead e[(j' - 1) / 2]! e[j']!
      · rw [hc] at c76
        simp +contextual -implicitDefEqProofs (maxSteps := 2000000) only [↓wP, wQ, wQ1, wQ2, wQ3, wR, boxE, partsOf, ↓reduceIte, Nat.reduceEqDiff, Nat.reduceAdd, Nat.reduceSub, Nat.reduceLeDiff, Nat.reduceLT, Nat.reduceMul, reduceCtorEq, Int.reduceBNe, Int.reduceBEq, Int.reduceLT, Int.reduceLE, Int.reduceGT, h2, h3, w1, q2, hne', c76]
        exact hQ _ e h6 h7 (h8.stop (.inr hc))
      · rw [hc] at c76
        simp +contextual -implicitDefEqProofs (maxSteps := 2000000) only [↓wP, wQ, wQ1, wQ2, wQ3, wR, boxE, partsOf, ↓reduceIte, Nat.reduceEqDiff, Nat.reduceAdd, Nat.reduceSub, Nat.reduceLeDiff, Nat.reduceLT, Nat.reduceMul, reduceCtorEq, Int.reduceBNe, Int.reduceBEq, Int.reduceLT, Int.reduceLE, Int.reduceGT, h2, h3, w1, q2, hne', c76, hw1]
        refine stepW_raw (by decide) (raw165 e _ _ id n1 len σ1 (by omega) h4 (by omega) h6.1 fun σ2 hat => ?_)
        simp +contextual -implicitDefEqProofs (maxSteps := 2000000) only [↓wP, wQ, wQ1, wQ2, wQ3, wR, boxE, partsOf, ↓reduceIte, Nat.reduceEqDiff, Nat.reduceAdd, Nat.reduceSub, Nat.reduceLeDiff, Nat.reduceLT, Nat.reduceMul, reduceCtorEq, Int.reduceBNe, Int.reduceBEq, Int.reduceLT, Int.reduceLE, Int.reduceGT, h2, h3]
        exact ⟨((j' - 1) / 2, swp e ((j' - 1) / 2) j'), by dsimp only; omega, rfl, by dsimp only; omega, by rw [swp_size, h5], h6.trans hat,
          permIn_trans _ _ _ _ _ h7 (swp_permIn e 0 len _ _ (by omega) (by omega) (by omega) h4 (by omega)), h8.step (by omega) h4 (by omega) hc⟩
  · simp +contextual -implicitDefEqProofs (maxSteps := 2000000) only [↓wP, wQ, wQ1, wQ2, wQ3, wR, boxE, partsOf, ↓reduceIte, Nat.reduceEqDiff, Nat.reduceAdd, Nat.reduceSub, Nat.reduceLeDiff, Nat.reduceLT, Nat.reduceMul, reduceCtorEq, Int.reduceBNe, Int.reduceBEq, Int.reduceLT, Int.reduceLE, Int.reduceGT]
    exact ⟨hj, At.refl hσ, permIn_refl _ _ _, hup⟩
theorem raw145 (d : Array Hit) (m wid id len n : Nat) (σ : Sto) (hm : m ≤ len) (hl : len ≤ d.size) (hd : d.size < 1000000) (hw : σ wid = some (.row 1 [.agg [.ref id 0 len 2]])) (hσ : σ id = some (.row 2 (rw' d))) (hne : wid ≠ id)
    (hdn : HpDn m 0 d) {Q : V → Sto → Nat → Prop} (hQ : ∀ r σ' d', At σ' σ id d' → PermIn 0 m d d' → Hp m d' → Q (.bool r) σ' n) :
    run T (.raw 145 [.iface 179 (.ptr wid 1 0 0), .int .i64 0, .int .i64 (m : Int)] σ n 0) (memQ Q) := by
  refine run_rawE (fn := g145) rfl rfl ?_
  simp only [g145, b145, oO, oN, mV, lD, gO, pP, qQ, cI, aR]
  simp +contextual -implicitDefEqProofs (maxSteps := 2000000) only [↓wP, wQ, wQ1, wQ2, wQ3, wR, boxE, partsOf, ↓reduceIte, Nat.reduceEqDiff, Nat.reduceAdd, Nat.reduceSub, Nat.reduceLeDiff, Nat.reduceLT, Nat.reduceMul, reduceCtorEq, Int.reduceBNe, Int.reduceBEq, Int.reduceLT, Int.reduceLE, Int.reduceGT]
  refine WC_loopI 0 (fun (s : Nat × Array Hit) env σ' n' => n' = n ∧ env 0 = .iface 179 (.ptr wid 1 0 0) ∧ env 1 = .int .i64 0 ∧ env 2 = .int .i64 (m : Int) ∧ env 7 = .int .i64 (s.1 : Int) ∧ (s.1 < m ∨ s.1 = 0) ∧ s.2.size = d.size ∧ At σ' σ id s.2 ∧ PermIn 0 m d s.2 ∧ HpDn m s.1 s.2) (fun s => m - s.1) ?_ (0, d) _ _ _ ?_
  · intro ⟨i, e⟩ env σ1 n1 ⟨h1, h2, h3, h4, h5, h6, h7, h8, h9, h10⟩
    subst h1
    dsimp only at h5 h6 h7 h8 h9 h10
    have hw1 : σ1 wid = some (.row 1 [.agg [.ref id 0 len 2]]) := by rw [h8.2 wid hne, hw]
    have w1 : IntKind.i64.wrap (2 * (i : Int)) = ((2 * i : Nat) : Int) := by rw [wrap_i64] <;> omega
    have w2 : IntKind.i64.wrap (((2 * i : Nat) : Int) + 1) = ((2 * i + 1 : Nat) : Int) := by rw [wrap_i64] <;> omega
    by_cases hge : m ≤ 2 * i + 1
    · have hge' : (m : Int) ≤ ((2 * i + 1 : Nat) : Int) := by omega
      simp +contextual -implicitDefEqProofs (maxSteps := 2000000) only [↓wP, wQ, wQ1, wQ2, wQ3, wR, boxE, partsOf, ↓reduceIte, Nat.reduceEqDiff, Nat.reduceAdd, Nat.reduceSub, Nat.reduceLeDiff, Nat.reduceLT, Nat.reduceMul, reduceCtorEq, Int.reduceBNe, Int.reduceBEq, Int.reduceLT, Int.reduceLE, Int.reduceGT, h2, h3, h4, h5, w1, w2, hge']
      exact hQ _ _ e h8 h9 (h10.stop fun c h0 hc hp => by omega)
    · have hge' : ¬ (m : Int) ≤ ((2 * i + 1 : Nat) : Int) := by omega
      have hn0 : ¬ ((2 * i + 1 : Nat) : Int) < 0 := by omega
      have w3 : IntKind.i64.wrap (((2 * i + 1 : Nat) : Int) + 1) = ((2 * i + 2 : Nat) : Int) := by rw [wrap_i64] <;> omega
      by_cases h2m : 2 * i + 2 < m
      · have h2m' : ((2 * i + 2 : Nat) : Int) < (m : Int) := by omega
        have c76 := fun fs n lk => f162 (d := e) (len := len) (σ := σ1) (2 * i + 2) (2 * i + 1) (by omega) (by omega) (by omega) hw1 h8.1 fs n lk
        cases hc : ahead e[2 * i + 1]! e[2 * i + 2]!
        · rw [hc] at c76
          have hbest : ∀ c, 0 < c → c < m → (c - 1) / 2 = i → ahead e[2 * i + 1]! e[c]! = false := by
            intro c h0 hcm hp
            have : c = 2 * i + 1 ∨ c = 2 * i + 2 := by omega
            rcases this with rfl | rfl
            · exact swoA.irrefl _
            · exact hc
          have c76b := fun fs n lk => f162 (d := e) (len := len) (σ := σ1) (2 * i + 1) i (by omega) (by omega) (by omega) hw1 h8.1 fs n lk
          cases hcb : ahead e[i]! e[2 * i + 1]!
          · rw [hcb] at c76b
            simp +contextual -implicitDefEqProofs (maxSteps := 2000000) only [↓wP, wQ, wQ1, wQ2, wQ3, wR, boxE, partsOf, ↓reduceIte, Nat.reduceEqDiff, Nat.reduceAdd, Nat.reduceSub, Nat.reduceLeDiff, Nat.reduceLT, Nat.reduceMul, reduceCtorEq, Int.reduceBNe, Int.reduceBEq, Int.reduceLT, Int.reduceLE, Int.reduceGT, h2, h3, h4, h5, w1, w2, w3, hge', hn0, h2m', c76, c76b]
            refine hQ _ _ e h8 h9 (h10.stop fun c h0 hcm hp => ?_)
            exact swoA.ntrans _ _ _ hcb (hbest c h0 hcm hp)
          · rw [hcb] at c76b
            simp +contextual -implicitDefEqProofs (maxSteps := 2000000) only [↓wP, wQ, wQ1, wQ2, wQ3, wR, boxE, partsOf, ↓reduceIte, Nat.reduceEqDiff, Nat.reduceAdd, Nat.reduceSub, Nat.reduceLeDiff, Nat.reduceLT, Nat.reduceMul, reduceCtorEq, Int.reduceBNe, Int.reduceBEq, Int.reduceLT, Int.reduceLE, Int.reduceGT, h2, h3, h4, h5, w1, w2, w3, hge', hn0, h2m', c76, c76b, hw1]
            refine stepW_raw (by decide) (raw165 e _ _ id n1 len σ1 (by omega) (by omega) (by omega) h8.1 fun σ3 hat => ?_)
            simp +contextual -implicitDefEqProofs (maxSteps := 2000000) only [↓wP, wQ, wQ1, wQ2, wQ3, wR, boxE, partsOf, ↓reduceIte, Nat.reduceEqDiff, Nat.reduceAdd, Nat.reduceSub, Nat.reduceLeDiff, Nat.reduceLT, Nat.reduceMul, reduceCtorEq, Int.reduceBNe, Int.reduceBEq, Int.reduceLT, Int.reduceLE, Int.reduceGT, h2, h3, h4, h5]
            exact ⟨(2 * i + 1, swp e i (2 * i + 1)), by dsimp only; omega, rfl, by dsimp only; omega, by rw [swp_size, h7], h8.trans hat,
              permIn_trans _ _ _ _ _ h9 (swp_permIn e 0 m _ _ (by omega) (by omega) (by omega) (by omega) (by omega)), h10.step (by omega) (by omega) (by omega) (by omega) hcb hbest⟩
        · rw [hc] at c76
          have hbest : ∀ c, 0 < c → c < m → (c - 1) / 2 = i → ahead e[2 * i + 2]! e[c]! = false := by
            intro c h0 hcm hp
            have : c = 2 * i + 1 ∨ c = 2 * i + 2 := by omega
            rcases this with rfl | rfl
            · exact swoA.asymm hc
            · exact swoA.irrefl _
          have c76b := fun fs n lk => f162 (d := e) (len := len) (σ := σ1) (2 * i + 2) i (by omega) (by omega) (by omega) hw1 h8.1 fs n lk
          cases hcb : ahead e[i]! e[2 * i + 2]!
          · rw [hcb] at c76b
            simp +contextual -implicitDefEqProofs (maxSteps := 2000000) only [↓wP, wQ, wQ1, wQ2, wQ3, wR, boxE, partsOf, ↓reduceIte, Nat.reduceEqDiff, Nat.reduceAdd, Nat.reduceSub, Nat.reduceLeDiff, Nat.reduceLT, Nat.reduceMul, reduceCtorEq, Int.reduceBNe, Int.reduceBEq, Int.reduceLT, Int.reduceLE, Int.reduceGT, h2, h3, h4, h5, w1, w2, w3, hge', hn0, h2m', c76, c76b]
            refine hQ _ _ e h8 h9 (h10.stop fun c h0 hcm hp => ?_)
            exact swoA.ntrans _ _ _ hcb (hbest c h0 hcm hp)
          · rw [hcb] at c76b
            simp +contextual -implicitDefEqProofs (maxSteps := 2000000) only [↓wP, wQ, wQ1, wQ2, wQ3, wR, boxE, partsOf, ↓reduceIte, Nat.reduceEqDiff, Nat.reduceAdd, Nat.reduceSub, Nat.reduceLeDiff, Nat.reduceLT, Nat.reduceMul, reduceCtorEq, Int.reduceBNe, Int.reduceBEq, Int.reduceLT, Int.reduceLE, Int.reduceGT, h2, h3, h4, h5, w1, w2, w3, hge', hn0, h2m', c76, c76b, hw1]
            refine stepW_raw (by decide) (raw165 e _ _ id n1 len σ1 (by omega) (by omega) (by omega) h8.1 fun σ3 hat => ?_)
            simp +contextual -implicitDefEqProofs (maxSteps := 2000000) only [↓wP, wQ, wQ1, wQ2, wQ3, wR, boxE, partsOf, ↓reduceIte, Nat.reduceEqDiff, Nat.reduceAdd, Nat.reduceSub, Nat.reduceLeDiff, Nat.reduceLT, Nat.reduceMul, reduceCtorEq, Int.reduceBNe, Int.reduceBEq, Int.reduceLT, Int.reduceLE, Int.reduceGT, h2, h3, h4, h5]
            exact ⟨(2 * i + 2, swp e i (2 * i + 2)), by dsimp only; omega, rfl, by dsimp only; omega, by rw [swp_size, h7], h8.trans hat,
              permIn_trans _ _ _ _ _ h9 (swp_permIn e 0 m _ _ (by omega) (by omega) (by omega) (by omega) (by omega)), h10.step (by omega) (by omega) (by omega) (by omega) hcb hbest⟩
      · have h2m' : ¬ ((2 * i + 2 : Nat) : Int) < (m : Int) := by omega
        have hbest : ∀ c, 0 < c → c < m → (c - 1) / 2 = i → ahead e[2 * i + 1]! e[c]! = false := by
          intro c h0 hcm hp
          have : c = 2 * i + 1 := by omega
          subst this
          exact swoA.irrefl _
        have c76b := fun fs n lk => f162 (d := e) (len := len) (σ := σ1) (2 * i + 1) i (by omega) (by omega) (by omega) hw1 h8.1 fs n lk
        cases hcb : ahead e[i]! e[2 * i + 1]!
        · rw [hcb] at c76b
          simp +contextual -implicitDefEqProofs (maxSteps := 2000000) only [↓wP, wQ, wQ1, wQ2, wQ3, wR, boxE, partsOf, ↓reduceIte, Nat.reduceEqDiff, Nat.reduceAdd, Nat.reduceSub, Nat.reduceLeDiff, Nat.reduceLT, Nat.reduceMul, reduceCtorEq, Int.reduceBNe, Int.reduceBEq, Int.reduceLT, Int.reduceLE, Int.reduceGT, h2, h3, h4, h5, w1, w2, w3, hge', hn0, h2m', c76b]
          refine hQ _ _ e h8 h9 (h10.stop fun c h0 hcm hp => ?_)
          exact swoA.ntrans _ _ _ hcb (hbest c h0 hcm hp)
        · rw [hcb] at c76b
          simp +contextual -implicitDefEqProofs (maxSteps := 2000000) only [↓wP, wQ, wQ1, wQ2, wQ3, wR, boxE, partsOf, ↓reduceIte, Nat.reduceEqDiff, Nat.reduceAdd, Nat.reduceSub, Nat.reduceLeDiff, Nat.reduceLT, Nat.reduceMul, reduceCtorEq, Int.reduceBNe, Int.reduceBEq, Int.reduceLT, Int.reduceLE, Int.reduceGT, h2, h3, h4, h5, w1, w2, w3, hge', hn0, h2m', c76b, hw1]
          refine stepW_raw (by decide) (raw165 e _ _ id n1 len σ1 (by omega) (by omega) (by omega) h8.1 fun σ3 hat => ?_)
          simp +contextual -implicitDefEqProofs (maxSteps := 2000000) only [↓wP, wQ, wQ1, wQ2, wQ3, wR, boxE, partsOf, ↓reduceIte, Nat.reduceEqDiff, Nat.reduceAdd, Nat.reduceSub, Nat.reduceLeDiff, Nat.reduceLT, Nat.reduceMul, reduceCtorEq, Int.reduceBNe, Int.reduceBEq, Int.reduceLT, Int.reduceLE, Int.reduceGT, h2, h3, h4, h5]
          exact ⟨(2 * i + 1, swp e i (2 * i + 1)), by dsimp only; omega, rfl, by dsimp only; omega, by rw [swp_size, h7], h8.trans hat,
            permIn_trans _ _ _ _ _ h9 (swp_permIn e 0 m _ _ (by omega) (by omega) (by omega) (by omega) (by omega)), h10.step (by omega) (by omega) (by omega) (by omega) hcb hbest⟩
  · simp +contextual -implicitDefEqProofs (maxSteps := 2000000) only [↓wP, wQ, wQ1, wQ2, wQ3, wR, boxE, partsOf, ↓reduceIte, Nat.reduceEqDiff, Nat.reduceAdd, Nat.reduceSub, Nat.reduceLeDiff, Nat.reduceLT, Nat.reduceMul, reduceCtorEq, Int.reduceBNe, Int.reduceBEq, Int.reduceLT, Int.reduceLE, Int.reduceGT]
    exact ⟨rfl, .inr trivial, At.refl hσ, permIn_refl _ _ _, hdn⟩
end Go.Q.SZ
end

section
/- Hits are pushed and popped. -/
set_option linter.unusedSimpArgs false
set_option linter.unusedVariables false
namespace Go.Q.SZ
open Go.Q Go.Sort
def pre (d : Array Hit) (len : Nat) (h : Hit) : Array Hit := (d.toList.take len ++ [h]).toArray
theorem rw_pre (d : Array Hit) (len : Nat) (h : Hit) : rw' (pre d len h) = (rw' d).take len ++ [.agg [.int .u64 h.id, .int .u64 h.d]] := by
  simp [rw', pre, List.map_append, List.map_take, hitV]
theorem raw164 (d : Array Hit) (a b : Int) (wid id len n : Nat) (σ : Sto) (hl : len ≤ d.size) (hd : d.size < 1000000) (hw : σ wid = some (.row 1 [.agg [.ref id 0 len 2]])) (hwn : wid < n) (hidn : id < n) (hne : wid ≠ id) (hσ : σ id = some (.row 2 (rw' d)))
    {Q : V → Sto → Nat → Prop} (hQ : ∀ σ' n' id', n < n' → n ≤ id' → id' < n' → σ' wid = some (.row 1 [.agg [.ref id' 0 (len + 1) 2]]) → σ' id' = some (.row 2 (rw' (pre d len ⟨a, b⟩))) → (∀ i, i ≠ wid → i ≠ id → i < n → σ' i = σ i) → Q .undef σ' n') :
    run T (.raw 164 [.ptr wid 1 0 0, .iface 58 (.agg [.int .u64 a, .int .u64 b])] σ n 0) (memQ Q) := by
  refine run_rawE (fn := g164) rfl rfl ?_
  simp only [g164, b164, oO, oN, mV, lD, gO, pP, qQ, cI, aR]
  have hB := big_le
  have e1 : (wid = n) = False := by simp; omega
  have e2 : (id = n) = False := by simp; omega
  have x1 : ∀ σ : Sto, hide σ (n + 1) (n + 1) [0] wid = σ wid := fun σ => hide_low σ (n + 1) (n + 1) _ (by omega) (Nat.le_refl _)
  have x2 : ∀ σ σ' : Sto, merge σ σ' (n + 1) wid = σ wid := fun σ σ' => merge_low σ σ' (n + 1) (by omega)
  have x3 : ∀ σ σ' : Sto, merge σ σ' (n + 1) id = σ id := fun σ σ' => merge_low σ σ' (n + 1) (by omega)
  have x4 : ∀ σ σ' : Sto, merge σ σ' (n + 1) (n + 1) = σ' (n + 1) := fun σ σ' => merge_in σ σ' (n + 1) (Nat.le_refl _) (by omega)
  have y1 : (n + 1 + 1 ≤ n + 1 + BIG) = True := by simp; omega
  have y2 : (n + (1 + (BIG + 1)) ≤ n + (1 + (BIG + BIG))) = True := by simp; omega
  have y3 : (n + (1 + 1) ≤ n + (1 + BIG)) = True := by simp; omega
  have z1 : (len = (rw' d).length ∨ len < (rw' d).length) = True := by rw [rw_len]; simp; omega
  have z2 : ((len + 1) * 16 ≤ LIM) = True := by unfold LIM; simp; omega
  have z3 : (if len = (rw' d).length then rw' d else (rw' d).take len) = (rw' d).take len := by
    split
    · rename_i h; rw [h, List.take_length]
    · rfl
  have v1 : (wid = n + (1 + BIG)) = False := by simp; omega
  simp +contextual -implicitDefEqProofs (maxSteps := 2000000) only [↓wP, wQ, wQ1, wQ2, wQ3, wR, boxE, partsOf, ↓reduceIte, Nat.reduceEqDiff, Nat.reduceAdd, Nat.reduceSub, Nat.reduceLeDiff, Nat.reduceLT, Nat.reduceMul, reduceCtorEq, Int.reduceBNe, Int.reduceBEq, Int.reduceLT, Int.reduceLE, Int.reduceGT, hw, e1, e2, x1, x2, x3, x4, y1, y2, y3, z1, z2, z3, hσ, Nat.mul_one, v1, hne]
  refine hQ _ _ (n + (1 + BIG)) ?_ ?_ ?_ (by simp [upd]) ?_ ?_
  · omega
  · omega
  · omega
  · rw [rw_pre]
    have v2 : ¬ n + (1 + BIG) = wid := by omega
    simp [v2, upd]
  · intro i h1 h2 h3
    have v2 : ¬ i = n + (1 + BIG) := by omega
    have v3 : ¬ i = n := by omega
    have v4 := merge_low (upd (upd σ n (some (Ob.row 2 [V.agg [V.int IntKind.u64 0, V.int IntKind.u64 0]]))) n (some (Ob.row 2 [V.agg [V.int IntKind.u64 a, V.int IntKind.u64 b]])))
      (upd (upd (upd σ n (some (Ob.row 2 [V.agg [V.int IntKind.u64 0, V.int IntKind.u64 0]]))) n (some (Ob.row 2 [V.agg [V.int IntKind.u64 a, V.int IntKind.u64 b]]))) (n + 1) (some (Ob.row 2 [V.agg [V.int IntKind.u64 a, V.int IntKind.u64 b]]))) (n + 1) (i := i) (by omega)
    simp only [upd, h1, h2, v2, v3, if_false] at v4 ⊢
    exact v4
theorem raw164n (a b : Int) (wid n : Nat) (σ : Sto) (hw : σ wid = some (.row 1 [.agg [.nilS]])) (hwn : wid < n)
    {Q : V → Sto → Nat → Prop} (hQ : ∀ σ' n' id', n < n' → n ≤ id' → id' < n' → σ' wid = some (.row 1 [.agg [.ref id' 0 (0 + 1) 2]]) → σ' id' = some (.row 2 (rw' (pre #[] 0 ⟨a, b⟩))) → (∀ i, i ≠ wid → i < n → σ' i = σ i) → Q .undef σ' n') :
    run T (.raw 164 [.ptr wid 1 0 0, .iface 58 (.agg [.int .u64 a, .int .u64 b])] σ n 0) (memQ Q) := by
  refine run_rawE (fn := g164) rfl rfl ?_
  simp only [g164, b164, oO, oN, mV, lD, gO, pP, qQ, cI, aR]
  have hB := big_le
  have e1 : (wid = n) = False := by simp; omega
  have x1 : ∀ σ : Sto, hide σ (n + 1) (n + 1) [0] wid = σ wid := fun σ => hide_low σ (n + 1) (n + 1) _ (by omega) (Nat.le_refl _)
  have x2 : ∀ σ σ' : Sto, merge σ σ' (n + 1) wid = σ wid := fun σ σ' => merge_low σ σ' (n + 1) (by omega)
  have x4 : ∀ σ σ' : Sto, merge σ σ' (n + 1) (n + 1) = σ' (n + 1) := fun σ σ' => merge_in σ σ' (n + 1) (Nat.le_refl _) (by omega)
  have y1 : (n + 1 + 1 ≤ n + 1 + BIG) = True := by simp; omega
  have y2 : (n + (1 + (BIG + 1)) ≤ n + (1 + (BIG + BIG))) = True := by simp; omega
  have y3 : (n + (1 + 1) ≤ n + (1 + BIG)) = True := by simp; omega
  have z2 : (1 * 16 ≤ LIM) = True := by unfold LIM; simp
  have z2' : (16 ≤ LIM) = True := by unfold LIM; simp
  have v1 : (wid = n + (1 + BIG)) = False := by simp; omega
  simp +contextual -implicitDefEqProofs (maxSteps := 2000000) only [↓wP, wQ, wQ1, wQ2, wQ3, wR, boxE, partsOf, ↓reduceIte, Nat.reduceEqDiff, Nat.reduceAdd, Nat.reduceSub, Nat.reduceLeDiff, Nat.reduceLT, Nat.reduceMul, reduceCtorEq, Int.reduceBNe, Int.reduceBEq, Int.reduceLT, Int.reduceLE, Int.reduceGT, hw, e1, x1, x2, x4, y1, y2, y3, z2, z2', Nat.mul_one, v1, appendE_nil, List.isEmpty_cons]
  refine hQ _ _ (n + (1 + BIG)) ?_ ?_ ?_ (by simp [upd]) ?_ ?_
  · omega
  · omega
  · omega
  · rw [rw_pre]
    have v2 : ¬ n + (1 + BIG) = wid := by omega
    simp [v2, upd]
  · intro i h1 h3
    have v2 : ¬ i = n + (1 + BIG) := by omega
    have v3 : ¬ i = n := by omega
    have v4 := merge_low (upd (upd σ n (some (Ob.row 2 [V.agg [V.int IntKind.u64 0, V.int IntKind.u64 0]]))) n (some (Ob.row 2 [V.agg [V.int IntKind.u64 a, V.int IntKind.u64 b]])))
      (upd (upd (upd σ n (some (Ob.row 2 [V.agg [V.int IntKind.u64 0, V.int IntKind.u64 0]]))) n (some (Ob.row 2 [V.agg [V.int IntKind.u64 a, V.int IntKind.u64 b]]))) (n + 1) (some (Ob.row 2 [V.agg [V.int IntKind.u64 a, V.int IntKind.u64 b]]))) (n + 1) (i := i) (by omega)
    simp only [upd, h1, v2, v3, if_false] at v4 ⊢
    exact v4
theorem pre_size {d : Array Hit} {len : Nat} (hl : len ≤ d.size) (h : Hit) : (pre d len h).size = len + 1 := by simp [pre]; omega
theorem pre_get {d : Array Hit} {len i : Nat} (hl : len ≤ d.size) (hi : i < len) (h : Hit) : (pre d len h)[i]! = d[i]! := by
  have h1 : i < (pre d len h).size := by rw [pre_size hl]; omega
  have h2 : i < d.size := by omega
  rw [getElem!_pos (pre d len h) i h1, getElem!_pos d i h2]
  simp only [pre, List.getElem_toArray]
  rw [List.getElem_append_left (by simp; omega), List.getElem_take]
  simp
theorem pre_up {d : Array Hit} {len : Nat} (hl : len ≤ d.size) (h : Hit) (hp : Hp len d) : HpUp (len + 1) len (pre d len h) := by
  refine ⟨fun i h0 hi hne => ?_, fun i h0 hi hp h0' => by omega⟩
  rw [pre_get hl (by omega), pre_get hl (by omega)]
  exact hp i h0 (by omega)
theorem ext0 (d : Array Hit) (len : Nat) : (d.extract 0 len).toList = d.toList.take len := by simp
theorem perm_all {d d' : Array Hit} {n : Nat} (hn : d.size = n) (h : PermIn 0 n d d') : d'.toList.Perm d.toList := by
  have := h.2.2
  rw [ext0, ext0, List.take_of_length_le (by rw [Array.length_toList, h.1]; omega), List.take_of_length_le (by rw [Array.length_toList]; omega)] at this
  exact this
theorem raw139 (d : Array Hit) (a b : Int) (wid id len n : Nat) (σ : Sto) (hl : len ≤ d.size) (hd : d.size < 900000) (hw : σ wid = some (.row 1 [.agg [.ref id 0 len 2]])) (hwn : wid < n) (hidn : id < n) (hne : wid ≠ id) (hσ : σ id = some (.row 2 (rw' d)))
    (hhp : Hp len d) {Q : V → Sto → Nat → Prop} (hQ : ∀ σ' n' id' d', n < n' → n ≤ id' → id' < n' → σ' wid = some (.row 1 [.agg [.ref id' 0 (len + 1) 2]]) → σ' id' = some (.row 2 (rw' d')) → d'.size = len + 1 → Hp (len + 1) d' →
      d'.toList.Perm (d.toList.take len ++ [⟨a, b⟩]) → (∀ i, i ≠ wid → i ≠ id → i < n → σ' i = σ i) → Q .undef σ' n') :
    run T (.raw 139 [.iface 179 (.ptr wid 1 0 0), .iface 58 (.agg [.int .u64 a, .int .u64 b])] σ n 0) (memQ Q) := by
  refine run_rawE (fn := g139) rfl rfl ?_
  simp only [g139, b139, oO, oN, mV, lD, gO, pP, qQ, cI, aR]
  simp +contextual -implicitDefEqProofs (maxSteps := 2000000) only [↓wP, wQ, wQ1, wQ2, wQ3, wR, boxE, partsOf, ↓reduceIte, Nat.reduceEqDiff, Nat.reduceAdd, Nat.reduceSub, Nat.reduceLeDiff, Nat.reduceLT, Nat.reduceMul, reduceCtorEq, Int.reduceBNe, Int.reduceBEq, Int.reduceLT, Int.reduceLE, Int.reduceGT]
  refine stepW_raw (by decide) (raw164 d a b wid id len n σ hl (by omega) hw hwn hidn hne hσ fun σ1 n1 id1 h1 h2 h3 h4 h5 h6 => ?_)
  have hps := pre_size hl ⟨a, b⟩
  have f137 := fun fs n lk => f32r (d := pre d len ⟨a, b⟩) (len := len + 1) (id := id1) (σ := σ1) (by omega) h5 fs n lk
  have w1 : IntKind.i64.wrap (((len + 1 : Nat) : Int) - 1) = (len : Int) := by rw [wrap_i64] <;> omega
  simp +contextual -implicitDefEqProofs (maxSteps := 2000000) only [↓wP, wQ, wQ1, wQ2, wQ3, wR, boxE, partsOf, ↓reduceIte, Nat.reduceEqDiff, Nat.reduceAdd, Nat.reduceSub, Nat.reduceLeDiff, Nat.reduceLT, Nat.reduceMul, reduceCtorEq, Int.reduceBNe, Int.reduceBEq, Int.reduceLT, Int.reduceLE, Int.reduceGT, h4, f137, w1]
  refine stepW_raw (by decide) (raw144 (pre d len ⟨a, b⟩) len wid id1 (len + 1) n1 σ1 (by omega) (by omega) (by omega) h4 h5 (by omega) (pre_up hl _ hhp) fun σ2 d2 hat hpm hp2 => ?_)
  simp +contextual -implicitDefEqProofs (maxSteps := 2000000) only [↓wP, wQ, wQ1, wQ2, wQ3, wR, boxE, partsOf, ↓reduceIte, Nat.reduceEqDiff, Nat.reduceAdd, Nat.reduceSub, Nat.reduceLeDiff, Nat.reduceLT, Nat.reduceMul, reduceCtorEq, Int.reduceBNe, Int.reduceBEq, Int.reduceLT, Int.reduceLE, Int.reduceGT]
  refine hQ _ _ id1 d2 (by omega) h2 (by omega) (by rw [hat.2 wid (by omega), h4]) hat.1 (by rw [hpm.1, hps]) hp2 ?_ (fun i hi hi' hin => by rw [hat.2 i (by omega), h6 i hi hi' hin])
  have := perm_all hps hpm
  simpa [pre] using this
theorem raw139n (a b : Int) (wid n : Nat) (σ : Sto) (hw : σ wid = some (.row 1 [.agg [.nilS]])) (hwn : wid < n)
    {Q : V → Sto → Nat → Prop} (hQ : ∀ σ' n' id' d', n < n' → n ≤ id' → id' < n' → σ' wid = some (.row 1 [.agg [.ref id' 0 1 2]]) → σ' id' = some (.row 2 (rw' d')) → d'.size = 1 → Hp 1 d' →
      d'.toList.Perm [⟨a, b⟩] → (∀ i, i ≠ wid → i < n → σ' i = σ i) → Q .undef σ' n') :
    run T (.raw 139 [.iface 179 (.ptr wid 1 0 0), .iface 58 (.agg [.int .u64 a, .int .u64 b])] σ n 0) (memQ Q) := by
  refine run_rawE (fn := g139) rfl rfl ?_
  simp only [g139, b139, oO, oN, mV, lD, gO, pP, qQ, cI, aR]
  simp +contextual -implicitDefEqProofs (maxSteps := 2000000) only [↓wP, wQ, wQ1, wQ2, wQ3, wR, boxE, partsOf, ↓reduceIte, Nat.reduceEqDiff, Nat.reduceAdd, Nat.reduceSub, Nat.reduceLeDiff, Nat.reduceLT, Nat.reduceMul, reduceCtorEq, Int.reduceBNe, Int.reduceBEq, Int.reduceLT, Int.reduceLE, Int.reduceGT]
  refine stepW_raw (by decide) (raw164n a b wid n σ hw hwn fun σ1 n1 id1 h1 h2 h3 h4 h5 h6 => ?_)
  simp only [Nat.zero_add] at h4
  have hps := pre_size (d := #[]) (len := 0) (by simp) ⟨a, b⟩
  have f137 := fun fs n lk => f32r (d := pre #[] 0 ⟨a, b⟩) (len := 1) (id := id1) (σ := σ1) (by omega) h5 fs n lk
  simp only [Int.natCast_one] at f137
  have w1 : IntKind.i64.wrap ((1 : Int) - 1) = ((0 : Nat) : Int) := by decide
  simp +contextual -implicitDefEqProofs (maxSteps := 2000000) only [↓wP, wQ, wQ1, wQ2, wQ3, wR, boxE, partsOf, ↓reduceIte, Nat.reduceEqDiff, Nat.reduceAdd, Nat.reduceSub, Nat.reduceLeDiff, Nat.reduceLT, Nat.reduceMul, reduceCtorEq, Int.reduceBNe, Int.reduceBEq, Int.reduceLT, Int.reduceLE, Int.reduceGT, h4, f137, w1]
  refine stepW_raw (by decide) (raw144 (pre #[] 0 ⟨a, b⟩) 0 wid id1 1 n1 σ1 (by omega) (by omega) (by omega) h4 h5 (by omega) (pre_up (by simp) _ (fun i h0 hi => by omega)) fun σ2 d2 hat hpm hp2 => ?_)
  simp +contextual -implicitDefEqProofs (maxSteps := 2000000) only [↓wP, wQ, wQ1, wQ2, wQ3, wR, boxE, partsOf, ↓reduceIte, Nat.reduceEqDiff, Nat.reduceAdd, Nat.reduceSub, Nat.reduceLeDiff, Nat.reduceLT, Nat.reduceMul, reduceCtorEq, Int.reduceBNe, Int.reduceBEq, Int.reduceLT, Int.reduceLE, Int.reduceGT]
  refine hQ _ _ id1 d2 (by omega) h2 (by omega) (by rw [hat.2 wid (by omega), h4]) hat.1 (by rw [hpm.1, hps]) hp2 ?_ (fun i hi hin => by rw [hat.2 i (by omega), h6 i hi hin])
  have := perm_all hps hpm
  simpa [pre] using this
theorem raw163 (d : Array Hit) (wid id len n : Nat) (σ : Sto) (h0 : 0 < len) (hl : len ≤ d.size) (hd : d.size < 1000000) (hw : σ wid = some (.row 1 [.agg [.ref id 0 len 2]])) (hwn : wid < n) (hidn : id < n) (hne : wid ≠ id) (hσ : σ id = some (.row 2 (rw' d)))
    {Q : V → Sto → Nat → Prop} (hQ : ∀ v σ' n', n ≤ n' → σ' wid = some (.row 1 [.agg [.ref id 0 (len - 1) 2]]) → (∀ i, i ≠ wid → i < n → σ' i = σ i) → Q v σ' n') :
    run T (.raw 163 [.ptr wid 1 0 0] σ n 0) (memQ Q) := by
  refine run_rawE (fn := g163) rfl rfl ?_
  simp only [g163, b163, oO, oN, mV, lD, gO, pP, qQ, cI, aR]
  have e1 : (wid = n) = False := by simp; omega
  have e2 : (id = n) = False := by simp; omega
  have e4 : (n = wid) = False := by simp; omega
  have w1 : IntKind.i64.wrap ((len : Int) - 1) = ((len - 1 : Nat) : Int) := by rw [wrap_i64] <;> omega
  have x1 := rw_at (d := d) (i := len - 1) (by omega)
  have l1 : len - 1 < len := by omega
  have l2 : len - 1 ≤ len := by omega
  simp +contextual -implicitDefEqProofs (maxSteps := 2000000) only [↓wP, wQ, wQ1, wQ2, wQ3, wR, boxE, partsOf, ↓reduceIte, Nat.reduceEqDiff, Nat.reduceAdd, Nat.reduceSub, Nat.reduceLeDiff, Nat.reduceLT, Nat.reduceMul, reduceCtorEq, Int.reduceBNe, Int.reduceBEq, Int.reduceLT, Int.reduceLE, Int.reduceGT, hw, hσ, e1, e2, e4, Nat.sub_zero, w1, x1, l1, l2]
  refine hQ _ _ _ ?_ ?_ (fun i hi hin => ?_)
  · omega
  · simp [upd]
  have e3 : i ≠ n := by omega
  simp [upd, hi, e3]
theorem raw140 (d : Array Hit) (wid id len n : Nat) (σ : Sto) (h0 : 0 < len) (hl : len ≤ d.size) (hd : d.size < 900000) (hw : σ wid = some (.row 1 [.agg [.ref id 0 len 2]])) (hwn : wid < n) (hidn : id < n) (hne : wid ≠ id) (hσ : σ id = some (.row 2 (rw' d)))
    (hhp : Hp len d) {Q : V → Sto → Nat → Prop} (hQ : ∀ v σ' n' d', n ≤ n' → σ' wid = some (.row 1 [.agg [.ref id 0 (len - 1) 2]]) → σ' id = some (.row 2 (rw' d')) → d'.size = d.size → Hp (len - 1) d' →
      (d.toList.take len).Perm (d'.toList.take (len - 1) ++ [d[0]!]) → (∀ i, i ≠ wid → i ≠ id → i < n → σ' i = σ i) → Q v σ' n') :
    run T (.raw 140 [.iface 179 (.ptr wid 1 0 0)] σ n 0) (memQ Q) := by
  refine run_rawE (fn := g140) rfl rfl ?_
  simp only [g140, b140, oO, oN, mV, lD, gO, pP, qQ, cI, aR]
  have f137 := fun fs n lk => f32r (d := d) (len := len) (id := id) (σ := σ) hl hσ fs n lk
  have w1 : IntKind.i64.wrap ((len : Int) - 1) = ((len - 1 : Nat) : Int) := by rw [wrap_i64] <;> omega
  simp +contextual -implicitDefEqProofs (maxSteps := 2000000) only [↓wP, wQ, wQ1, wQ2, wQ3, wR, boxE, partsOf, ↓reduceIte, Nat.reduceEqDiff, Nat.reduceAdd, Nat.reduceSub, Nat.reduceLeDiff, Nat.reduceLT, Nat.reduceMul, reduceCtorEq, Int.reduceBNe, Int.reduceBEq, Int.reduceLT, Int.reduceLE, Int.reduceGT, hw, f137, w1]
  refine stepW_raw (by decide) (raw165 d 0 (len - 1) id n len σ (by omega) (by omega) hl hσ fun σ1 hat => ?_)
  have hw1 : σ1 wid = some (.row 1 [.agg [.ref id 0 len 2]]) := by rw [hat.2 wid hne, hw]
  have hs1 : (swp d 0 (len - 1)).size = d.size := swp_size _ _ _
  have hdn : HpDn (len - 1) 0 (swp d 0 (len - 1)) := by
    refine ⟨fun c c0 hc hp => ?_, fun c _ _ _ h => by omega⟩
    rw [swp_other _ _ _ _ (by omega) (by omega), swp_other _ _ _ _ (by omega) (by omega)]
    exact hhp c c0 (by omega)
  simp +contextual -implicitDefEqProofs (maxSteps := 2000000) only [↓wP, wQ, wQ1, wQ2, wQ3, wR, boxE, partsOf, ↓reduceIte, Nat.reduceEqDiff, Nat.reduceAdd, Nat.reduceSub, Nat.reduceLeDiff, Nat.reduceLT, Nat.reduceMul, reduceCtorEq, Int.reduceBNe, Int.reduceBEq, Int.reduceLT, Int.reduceLE, Int.reduceGT]
  refine stepW_raw (by decide) (raw145 (swp d 0 (len - 1)) (len - 1) wid id len n σ1 (by omega) (by omega) (by omega) hw1 hat.1 hne hdn fun r σ2 d2 hat2 hpm hp2 => ?_)
  have hw2 : σ2 wid = some (.row 1 [.agg [.ref id 0 len 2]]) := by rw [hat2.2 wid hne, hw1]
  simp +contextual -implicitDefEqProofs (maxSteps := 2000000) only [↓wP, wQ, wQ1, wQ2, wQ3, wR, boxE, partsOf, ↓reduceIte, Nat.reduceEqDiff, Nat.reduceAdd, Nat.reduceSub, Nat.reduceLeDiff, Nat.reduceLT, Nat.reduceMul, reduceCtorEq, Int.reduceBNe, Int.reduceBEq, Int.reduceLT, Int.reduceLE, Int.reduceGT]
  refine stepW_raw (by decide) (raw163 d2 wid id len n σ2 h0 (by rw [hpm.1]; omega) (by rw [hpm.1]; omega) hw2 hwn hidn hne hat2.1 fun v σ3 n3 k1 k2 k3 => ?_)
  simp +contextual -implicitDefEqProofs (maxSteps := 2000000) only [↓wP, wQ, wQ1, wQ2, wQ3, wR, boxE, partsOf, ↓reduceIte, Nat.reduceEqDiff, Nat.reduceAdd, Nat.reduceSub, Nat.reduceLeDiff, Nat.reduceLT, Nat.reduceMul, reduceCtorEq, Int.reduceBNe, Int.reduceBEq, Int.reduceLT, Int.reduceLE, Int.reduceGT]
  refine hQ _ _ _ d2 k1 k2 (by rw [k3 id (by omega) hidn]; exact hat2.1) (by rw [hpm.1, hs1]) hp2 ?_ (fun i hi hi' hin => by rw [k3 i hi hin, hat2.2 i hi', hat.2 i hi'])
  have p1 := (swp_permIn d 0 len 0 (len - 1) (by omega) (by omega) (by omega) (by omega) hl).2.2
  have p2 := hpm.2.2
  rw [ext0, ext0] at p1 p2
  refine p1.symm.trans ?_
  have e : (swp d 0 (len - 1)).toList.take len = (swp d 0 (len - 1)).toList.take (len - 1) ++ [d[0]!] := by
    have hx : (swp d 0 (len - 1))[len - 1]! = d[0]! := swp_right _ _ _ (by omega)
    have hlt : len - 1 < (swp d 0 (len - 1)).toList.length := by rw [Array.length_toList]; omega
    generalize hg : swp d 0 (len - 1) = g at *
    obtain ⟨m, rfl⟩ : ∃ m, len = m + 1 := ⟨len - 1, by omega⟩
    simp only [Nat.add_sub_cancel] at *
    rw [List.take_add_one, List.getElem?_eq_getElem hlt]
    simp only [Option.toList_some]
    rw [getElem!_pos g m (by rw [Array.length_toList] at hlt; exact hlt)] at hx
    rw [← hx]
    simp
  rw [e]
  exact p2.symm.append_right _
end Go.Q.SZ
end

section
/- The first hits of rows. -/
set_option linter.unusedSimpArgs false
set_option linter.unusedVariables false
namespace Go.Q.SZ
open Go.Q Go.Sort
theorem f137s (L : List V) (fs : Bool) (σ : Sto) (n lk : Nat) : callE T fs 137 [.sl 2 L] σ n lk = some (.int .i64 (L.length : Int), σ, n) := by
  have h := r137 (some L)
  simp only [slV, List.map_id, lst_some] at h
  exact callE_tr (by decide) h rfl rfl fs σ n lk
theorem r136n (a b : Int) (k : Nat) (hk : 0 < k) : res T 136 [.agg [.int .u64 a, .int .u64 b], .box [.box [.nilS]], .box [.int .i64 (k : Int)]] = some (.bool true) := by
  refine run_res (run_pure (fn := g136) rfl rfl (by decide) ?_)
  simp only [g136, b136, oO, oN, mV, lD, gO, pP, qQ, cI, aR]
  have h : (0 : Int) < (k : Int) := by omega
  simp +contextual -implicitDefEqProofs (maxSteps := 2000000) only [↓wP, wQ, wQ1, wQ2, wQ3, wR, boxE, partsOf, ↓reduceIte, Nat.reduceEqDiff, Nat.reduceAdd, Nat.reduceSub, Nat.reduceLeDiff, Nat.reduceLT, Nat.reduceMul, reduceCtorEq, Int.reduceBNe, Int.reduceBEq, Int.reduceLT, Int.reduceLE, Int.reduceGT, f137n, h]
theorem r136 (a b : Int) (L : List V) (k : Nat) (m : Hit) (hr : ¬ L.length < k → L[0]? = some (.agg [.int .u64 m.id, .int .u64 m.d])) :
    res T 136 [.agg [.int .u64 a, .int .u64 b], .box [.box [.sl 2 L]], .box [.int .i64 (k : Int)]] = some (.bool (decide (L.length < k) || ahead ⟨a, b⟩ m)) := by
  refine run_res (run_pure (fn := g136) rfl rfl (by decide) ?_)
  simp only [g136, b136, oO, oN, mV, lD, gO, pP, qQ, cI, aR]
  by_cases h : L.length < k
  · have h' : (L.length : Int) < (k : Int) := by omega
    simp +contextual -implicitDefEqProofs (maxSteps := 2000000) only [↓wP, wQ, wQ1, wQ2, wQ3, wR, boxE, partsOf, ↓reduceIte, Nat.reduceEqDiff, Nat.reduceAdd, Nat.reduceSub, Nat.reduceLeDiff, Nat.reduceLT, Nat.reduceMul, reduceCtorEq, Int.reduceBNe, Int.reduceBEq, Int.reduceLT, Int.reduceLE, Int.reduceGT, f137s, h, h']
  · have h' : ¬ (L.length : Int) < (k : Int) := by omega
    have hr := hr h
    simp +contextual -implicitDefEqProofs (maxSteps := 2000000) only [↓wP, wQ, wQ1, wQ2, wQ3, wR, boxE, partsOf, ↓reduceIte, Nat.reduceEqDiff, Nat.reduceAdd, Nat.reduceSub, Nat.reduceLeDiff, Nat.reduceLT, Nat.reduceMul, reduceCtorEq, Int.reduceBNe, Int.reduceBEq, Int.reduceLT, Int.reduceLE, Int.reduceGT, f137s, h, h', hr, f78]
    rw [← cmp_lt]
theorem f136n {wv kid wid : Nat} {σ : Sto} (a b : Int) (k : Nat) (hk : 0 < k) (h1 : σ wv = some (.row 1 [.ptr wid 1 0 0])) (h2 : σ kid = some (.row 1 [.int .i64 (k : Int)])) (h3 : σ wid = some (.row 1 [.agg [.nilS]])) (fs : Bool) (n lk : Nat) :
    callE T fs 136 [.agg [.int .u64 a, .int .u64 b], .ptr wv 1 0 0, .ptr kid 1 0 0] σ n lk = some (.bool true, σ, n) := by
  rw [callE_eq (by decide)]
  have hp : frz σ 12 (.ptr wv 1 0 0) = some (.box [.box [.nilS]]) := by
    simp [frz, rowAt, h1, h3, V.cells]
  have hq : frz σ 12 (.ptr kid 1 0 0) = some (.box [.int .i64 (k : Int)]) := by
    simp [frz, rowAt, h2, V.cells]
  have e : [V.agg [.int .u64 a, .int .u64 b], .ptr wv 1 0 0, .ptr kid 1 0 0].mapM (frz σ 12) = some [V.agg [.int .u64 a, .int .u64 b], .box [.box [.nilS]], .box [.int .i64 (k : Int)]] := by
    simp only [List.mapM_cons, List.mapM_nil, hp, hq]
    rfl
  rw [e, callR_some, r136n a b k hk, retE_some, backE_flat rfl]
  rfl
theorem f136 {wv kid wid id len : Nat} {d : Array Hit} {σ : Sto} (a b : Int) (k : Nat) (h1 : σ wv = some (.row 1 [.ptr wid 1 0 0])) (h2 : σ kid = some (.row 1 [.int .i64 (k : Int)])) (h3 : σ wid = some (.row 1 [.agg [.ref id 0 len 2]]))
    (h4 : σ id = some (.row 2 (rw' d))) (hl : len ≤ d.size) (h0 : 0 < len) (fs : Bool) (n lk : Nat) :
    callE T fs 136 [.agg [.int .u64 a, .int .u64 b], .ptr wv 1 0 0, .ptr kid 1 0 0] σ n lk = some (.bool (decide (len < k) || ahead ⟨a, b⟩ d[0]!), σ, n) := by
  rw [callE_eq (by decide)]
  have hp : frz σ 12 (.ptr wv 1 0 0) = some (.box [.box [.sl 2 ((rw' d).take len)]]) := by
    have := frz_pre hl h4 7
    simp [frz, rowAt, h1, h3, V.cells] at this ⊢
    rw [this]
    rfl
  have hq : frz σ 12 (.ptr kid 1 0 0) = some (.box [.int .i64 (k : Int)]) := by
    simp [frz, rowAt, h2, V.cells]
  have e : [V.agg [.int .u64 a, .int .u64 b], .ptr wv 1 0 0, .ptr kid 1 0 0].mapM (frz σ 12) = some [V.agg [.int .u64 a, .int .u64 b], .box [.box [.sl 2 ((rw' d).take len)]], .box [.int .i64 (k : Int)]] := by
    simp only [List.mapM_cons, List.mapM_nil, hp, hq]
    rfl
  have hlen : ((rw' d).take len).length = len := by rw [List.length_take, rw_len]; omega
  have hx := r136 a b ((rw' d).take len) k d[0]! (fun _ => by rw [List.getElem?_take_of_lt h0, rw_at (by omega)])
  rw [hlen] at hx
  rw [e, callR_some, hx, retE_some, backE_flat rfl]
  rfl
theorem all143 (o : Option (List (Option (List Hit)))) (l : Nat) (J : List Hit → Sto → Nat → Prop) (hlo : (lst o).length < 9223372036854775808) (hli : ∀ r ∈ lst o, (lst r).length < 9223372036854775808)
    (hal : ∀ pre σ n σ', J pre σ n → (∀ i, i < n → σ' i = σ i) → J pre σ' (n + 1))
    (hy : ∀ pre σ n a b, J pre σ n → yieldW (run T) l [.agg [.int .u64 a, .int .u64 b]] σ n 0 (fun y σ' n' => y = .bool true ∧ J (pre ++ [⟨a, b⟩]) σ' n'))
    (σ : Sto) (n : Nat) (h0 : J [] σ n) : run T (.raw 143 [.yld l, .box [slV 1 (slV 2 hitV) o]] σ n 0) (memQ fun _ σ' n' => J ((lst o).flatMap lst) σ' n') := by
  refine run_rawE (fn := g143) rfl rfl ?_
  simp only [g143, b143, oO, oN, mV, lD, gO, pP, qQ, cI, aR]
  simp +contextual -implicitDefEqProofs (maxSteps := 2000000) only [↓wP, wQ, wQ1, wQ2, wQ3, wR, boxE, partsOf, ↓reduceIte, Nat.reduceEqDiff, Nat.reduceAdd, Nat.reduceSub, Nat.reduceLeDiff, Nat.reduceLT, Nat.reduceMul, reduceCtorEq, Int.reduceBNe, Int.reduceBEq, Int.reduceLT, Int.reduceLE, Int.reduceGT]
  refine WC_for (lst o).length 0 (fun (j : Nat) env σ n => env 0 = .yld l ∧ env 7 = slV 1 (slV 2 hitV) o ∧ J (((lst o).take j).flatMap lst) σ n) hlo (by decide) (by decide) (fun _ _ => rfl) (fun _ _ _ => rfl) ?_ ?_ _ _ _ rfl rfl ?_
  · intro j env σ n hj h1 h2 ⟨h3, h4, h5⟩
    simp only [vl_tmp] at h2
    have hx : (lst o)[j]? = some (lst o)[j] := List.getElem?_eq_getElem hj
    have hr := hli _ (List.getElem_mem hj)
    have ht : ((lst o).take (j + 1)).flatMap lst = ((lst o).take j).flatMap lst ++ lst (lst o)[j] := by
      rw [← List.take_append_getElem hj, List.flatMap_append]
      simp
    generalize (lst o)[j] = r at *
    simp +contextual -implicitDefEqProofs (maxSteps := 2000000) only [↓wP, wQ, wQ1, wQ2, wQ3, wR, boxE, partsOf, ↓reduceIte, Nat.reduceEqDiff, Nat.reduceAdd, Nat.reduceSub, Nat.reduceLeDiff, Nat.reduceLT, Nat.reduceMul, reduceCtorEq, Int.reduceBNe, Int.reduceBEq, Int.reduceLT, Int.reduceLE, Int.reduceGT, h1, h2, h3, h4, hx]
    refine WC_for (lst r).length 0 (fun (q : Nat) env σ n => env 0 = .yld l ∧ env 7 = slV 1 (slV 2 hitV) o ∧ env 9 = .int .i64 (j : Int) ∧ env 8 = .int .i64 ((lst o).length : Int) ∧ env 13 = slV 2 hitV r ∧
      J (((lst o).take j).flatMap lst ++ (lst r).take q) σ n) hr (by decide) (by decide) (fun _ _ => rfl) (fun _ _ _ => rfl) ?_ ?_ _ _ _ rfl rfl ?_
    · clear h1 h2 h3 h4
      intro q env σ n hq h1 h2 ⟨h3, h4, h6, h7, h8, h9⟩
      simp only [vl_tmp] at h2
      have hxq : (lst r)[q]? = some (lst r)[q] := List.getElem?_eq_getElem hq
      have htq : (lst r).take (q + 1) = (lst r).take q ++ [(lst r)[q]] := (List.take_append_getElem hq).symm
      generalize (lst r)[q] = x at *
      have hv : hitV x = .agg [.int .u64 x.id, .int .u64 x.d] := rfl
      have hJ1 := hal _ σ n (upd (upd σ n (some (.row 2 [.agg [.int .u64 0, .int .u64 0]]))) n (some (.row 2 [.agg [.int .u64 x.id, .int .u64 x.d]]))) h9 (fun i hi => by
        have e : i ≠ n := by omega
        simp [upd, e])
      simp +contextual -implicitDefEqProofs (maxSteps := 2000000) only [↓wP, wQ, wQ1, wQ2, wQ3, wR, boxE, partsOf, ↓reduceIte, Nat.reduceEqDiff, Nat.reduceAdd, Nat.reduceSub, Nat.reduceLeDiff, Nat.reduceLT, Nat.reduceMul, reduceCtorEq, Int.reduceBNe, Int.reduceBEq, Int.reduceLT, Int.reduceLE, Int.reduceGT, h1, h2, h3, h4, h6, h7, h8, hxq, hv]
      refine stepW_yld (yieldW_mono (fun _ _ x => x) run_mono (fun y σ' n' ⟨hy1, hy2⟩ => ?_) (hy _ _ _ _ _ hJ1))
      subst hy1
      simp +contextual -implicitDefEqProofs (maxSteps := 2000000) only [↓wP, wQ, wQ1, wQ2, wQ3, wR, boxE, partsOf, ↓reduceIte, Nat.reduceEqDiff, Nat.reduceAdd, Nat.reduceSub, Nat.reduceLeDiff, Nat.reduceLT, Nat.reduceMul, reduceCtorEq, Int.reduceBNe, Int.reduceBEq, Int.reduceLT, Int.reduceLE, Int.reduceGT, h1, h2, h3, h4, h6, h7, h8]
      rw [htq, ← List.append_assoc]
      exact hy2
    · clear h1 h2 h3 h4
      intro env σ n ⟨h3, h4, h6, h7, h8, h9⟩ h1 h2
      rw [List.take_length] at h9
      simp +contextual -implicitDefEqProofs (maxSteps := 2000000) only [↓wP, wQ, wQ1, wQ2, wQ3, wR, boxE, partsOf, ↓reduceIte, Nat.reduceEqDiff, Nat.reduceAdd, Nat.reduceSub, Nat.reduceLeDiff, Nat.reduceLT, Nat.reduceMul, reduceCtorEq, Int.reduceBNe, Int.reduceBEq, Int.reduceLT, Int.reduceLE, Int.reduceGT, h3, h4, h6, h7]
      rw [ht]
      exact h9
    · simp +contextual -implicitDefEqProofs (maxSteps := 2000000) only [↓wP, wQ, wQ1, wQ2, wQ3, wR, boxE, partsOf, ↓reduceIte, Nat.reduceEqDiff, Nat.reduceAdd, Nat.reduceSub, Nat.reduceLeDiff, Nat.reduceLT, Nat.reduceMul, reduceCtorEq, Int.reduceBNe, Int.reduceBEq, Int.reduceLT, Int.reduceLE, Int.reduceGT, h1, h2, h3, h4]
      simpa using h5
  · intro env σ n ⟨h3, h4, h5⟩ h1 h2
    rw [List.take_length] at h5
    simp +contextual -implicitDefEqProofs (maxSteps := 2000000) only [↓wP, wQ, wQ1, wQ2, wQ3, wR, boxE, partsOf, ↓reduceIte, Nat.reduceEqDiff, Nat.reduceAdd, Nat.reduceSub, Nat.reduceLeDiff, Nat.reduceLT, Nat.reduceMul, reduceCtorEq, Int.reduceBNe, Int.reduceBEq, Int.reduceLT, Int.reduceLE, Int.reduceGT]
    exact h5
  · simp +contextual -implicitDefEqProofs (maxSteps := 2000000) only [↓wP, wQ, wQ1, wQ2, wQ3, wR, boxE, partsOf, ↓reduceIte, Nat.reduceEqDiff, Nat.reduceAdd, Nat.reduceSub, Nat.reduceLeDiff, Nat.reduceLT, Nat.reduceMul, reduceCtorEq, Int.reduceBNe, Int.reduceBEq, Int.reduceLT, Int.reduceLE, Int.reduceGT]
    simpa using h0
theorem r138 (v : V) (hv : Tr 10 v = true) (h1 : v.one = true) : res T 138 [v] = some (.fn 143 [.box [v]]) := by
  refine run_res (run_pure (fn := g138) rfl rfl (by decide) ?_)
  simp only [g138, b138, oO, oN, mV, lD, gO, pP, qQ, cI, aR]
  have hc : v.cells = [v] := by cases v <;> first | rfl | (simp [V.one] at h1)
  have hf := fun σ => (frz_tr σ 10 v hv).1
  simp +contextual -implicitDefEqProofs (maxSteps := 2000000) only [↓wP, wQ, wQ1, wQ2, wQ3, wR, boxE, partsOf, ↓reduceIte, Nat.reduceEqDiff, Nat.reduceAdd, Nat.reduceSub, Nat.reduceLeDiff, Nat.reduceLT, Nat.reduceMul, reduceCtorEq, Int.reduceBNe, Int.reduceBEq, Int.reduceLT, Int.reduceLE, Int.reduceGT, hc, h1, hf]
def ownH : List Hit → V
  | [] => .nilS
  | x :: l => .own 2 ((x :: l).map hitV)
def asg130 : AC := (.reg [⟨(some 7), none, .alloc (.agg [(.int .u64 0), (.int .u64 0)])⟩,
      ⟨none, none, .store 2 (.tmp 7) (.tmp 14)⟩])
def bd130 : AC := (.block 1 (.seq (.seq (.reg [⟨(some 15), none, .load false 1 (.tmp 6)⟩,
       ⟨(some 16), none, .load true 2 (.tmp 7)⟩,
       ⟨(some 17), none, .callv (.tmp 15) [(.tmp 16)]⟩,
       ⟨(some 18), none, .un .not (.tmp 17)⟩])
     (.cond (.tmp 18)
      (.exit 1)
      .skip))
     (.seq (.reg [⟨(some 19), none, .load false 1 (.tmp 5)⟩,
       ⟨(some 20), none, .mkif 179 (.tmp 19)⟩,
       ⟨(some 21), none, .load true 2 (.tmp 7)⟩,
       ⟨(some 22), none, .mkif 58 (.tmp 21)⟩,
       ⟨(some 23), none, .call 139 [(.tmp 20), (.tmp 22)]⟩])
     (.seq (.regd [⟨[⟨⟨(some 24), none, .load false 1 (.tmp 5)⟩, false, false, false, 0, [], none⟩,
       ⟨⟨(some 25), none, .nilck (.tmp 24)⟩, true, false, false, 0, [], none⟩,
       ⟨⟨(some 26), none, .faddr (.tmp 25) 0⟩, true, false, false, 0, [], none⟩,
       ⟨⟨(some 27), none, .load false 1 (.tmp 26)⟩, false, false, false, 0, [], none⟩,
       ⟨⟨(some 28), none, .call 137 [(.tmp 27)]⟩, false, false, false, 0, [], none⟩,
       ⟨⟨(some 29), none, .load false 1 (.tmp 2)⟩, false, false, false, 0, [], none⟩], 0, [⟨(some 30), none, .bin .gtr (.tmp 28) (.tmp 29)⟩]⟩])
     (.cond (.tmp 30)
      (.reg [⟨(some 31), none, .load false 1 (.tmp 5)⟩,
        ⟨(some 32), none, .mkif 179 (.tmp 31)⟩,
        ⟨(some 33), none, .call 140 [(.tmp 32)]⟩])
      .skip)))))
theorem w_asg130 (env : Nat → V) (σ : Sto) (n lk : Nat) (Q : Ex → St → Prop) : WC T asg130 env σ n lk Q = WC T (.reg [⟨(some 7), none, .alloc (.agg [(.int .u64 0), (.int .u64 0)])⟩,
      ⟨none, none, .store 2 (.tmp 7) (.tmp 14)⟩]) env σ n lk Q := rfl
theorem w_bd130 (env : Nat → V) (σ : Sto) (n lk : Nat) (Q : Ex → St → Prop) : WC T bd130 env σ n lk Q = WC T (.block 1 (.seq (.seq (.reg [⟨(some 15), none, .load false 1 (.tmp 6)⟩,
       ⟨(some 16), none, .load true 2 (.tmp 7)⟩,
       ⟨(some 17), none, .callv (.tmp 15) [(.tmp 16)]⟩,
       ⟨(some 18), none, .un .not (.tmp 17)⟩])
     (.cond (.tmp 18)
      (.exit 1)
      .skip))
     (.seq (.reg [⟨(some 19), none, .load false 1 (.tmp 5)⟩,
       ⟨(some 20), none, .mkif 179 (.tmp 19)⟩,
       ⟨(some 21), none, .load true 2 (.tmp 7)⟩,
       ⟨(some 22), none, .mkif 58 (.tmp 21)⟩,
       ⟨(some 23), none, .call 139 [(.tmp 20), (.tmp 22)]⟩])
     (.seq (.regd [⟨[⟨⟨(some 24), none, .load false 1 (.tmp 5)⟩, false, false, false, 0, [], none⟩,
       ⟨⟨(some 25), none, .nilck (.tmp 24)⟩, true, false, false, 0, [], none⟩,
       ⟨⟨(some 26), none, .faddr (.tmp 25) 0⟩, true, false, false, 0, [], none⟩,
       ⟨⟨(some 27), none, .load false 1 (.tmp 26)⟩, false, false, false, 0, [], none⟩,
       ⟨⟨(some 28), none, .call 137 [(.tmp 27)]⟩, false, false, false, 0, [], none⟩,
       ⟨⟨(some 29), none, .load false 1 (.tmp 2)⟩, false, false, false, 0, [], none⟩], 0, [⟨(some 30), none, .bin .gtr (.tmp 28) (.tmp 29)⟩]⟩])
     (.cond (.tmp 30)
      (.reg [⟨(some 31), none, .load false 1 (.tmp 5)⟩,
        ⟨(some 32), none, .mkif 179 (.tmp 31)⟩,
        ⟨(some 33), none, .call 140 [(.tmp 32)]⟩])
      .skip))))) env σ n lk Q := rfl
def Jf (k : Nat) (env : Nat → V) (pre : List Hit) (σ : Sto) (n : Nat) : Prop :=
  4 < n ∧ σ 0 = some (.row 1 [.int .i64 (k : Int)]) ∧ σ 2 = some (.row 1 [.ptr 1 1 0 0]) ∧ σ 3 = some (.row 1 [.fn 136 [.ptr 2 1 0 0, .ptr 0 1 0 0]]) ∧ σ 4 = some (.loop env [14] asg130 bd130 .ready none) ∧
  ((pre = [] ∧ σ 1 = some (.row 1 [.agg [.nilS]])) ∨ ∃ id len d, σ 1 = some (.row 1 [.agg [.ref id 0 len 2]]) ∧ 4 < id ∧ id < n ∧ σ id = some (.row 2 (rw' d)) ∧ 0 < len ∧ len ≤ d.size ∧ d.size ≤ k + 1 ∧ Hp len d ∧ (d.toList.take len).Perm (fst' k pre))
theorem Jf.al {k : Nat} {env : Nat → V} {pre : List Hit} {σ σ' : Sto} {n : Nat} (h : Jf k env pre σ n) (hs : ∀ i, i < n → σ' i = σ i) : Jf k env pre σ' (n + 1) := by
  obtain ⟨h1, h2, h3, h4, h5, h6⟩ := h
  refine ⟨by omega, by rw [hs 0 (by omega), h2], by rw [hs 2 (by omega), h3], by rw [hs 3 (by omega), h4], by rw [hs 4 (by omega), h5], ?_⟩
  rcases h6 with ⟨g1, g2⟩ | ⟨id, len, d, g1, g2, g3, g4, g5⟩
  · exact .inl ⟨g1, by rw [hs 1 (by omega), g2]⟩
  · exact .inr ⟨id, len, d, by rw [hs 1 (by omega), g1], g2, by omega, by rw [hs id g3, g4], g5⟩
theorem mem_take {d : Array Hit} {len : Nat} (hl : len ≤ d.size) {x : Hit} (h : x ∈ d.toList.take len) : ∃ i, i < len ∧ d[i]! = x := by
  obtain ⟨i, hi, rfl⟩ := List.getElem_of_mem h
  rw [List.length_take, Array.length_toList] at hi
  refine ⟨i, by omega, ?_⟩
  rw [List.getElem_take, getElem!_pos d i (by omega)]
  simp
theorem Jf.mk {k : Nat} {env : Nat → V} {pre : List Hit} {σ : Sto} {n id len : Nat} {d : Array Hit} {ob : Option Ob} (hob : ob = some (.loop env [14] asg130 bd130 .ready none)) (h0 : 4 < n) (h1 : σ 0 = some (.row 1 [.int .i64 (k : Int)])) (h2 : σ 2 = some (.row 1 [.ptr 1 1 0 0]))
    (h3 : σ 3 = some (.row 1 [.fn 136 [.ptr 2 1 0 0, .ptr 0 1 0 0]])) (h4 : σ 1 = some (.row 1 [.agg [.ref id 0 len 2]])) (h5 : 4 < id) (h6 : id < n) (h7 : σ id = some (.row 2 (rw' d))) (h8 : 0 < len) (h9 : len ≤ d.size) (h10 : d.size ≤ k + 1) (h11 : Hp len d)
    (h12 : (d.toList.take len).Perm (fst' k pre)) : Jf k env pre (upd σ 4 ob) n := by
  have e : id ≠ 4 := by omega
  subst hob
  exact ⟨h0, by simp [upd, h1], by simp [upd, h2], by simp [upd, h3], by simp [upd], .inr ⟨id, len, d, by simp [upd, h4], h5, h6, by simp [upd, e, h7], h8, h9, h10, h11, h12⟩⟩
theorem hy130 (k : Nat) (hk : 0 < k) (hk' : k < 1000) (env : Nat → V) (he2 : env 2 = .ptr 0 1 0 0) (he5 : env 5 = .ptr 2 1 0 0) (he6 : env 6 = .ptr 3 1 0 0) (pre : List Hit) (σ : Sto) (n : Nat) (a b : Int) (hJ : Jf k env pre σ n) :
    yieldW (run T) 4 [.agg [.int .u64 a, .int .u64 b]] σ n 0 (fun y σ' n' => y = .bool true ∧ Jf k env (pre ++ [⟨a, b⟩]) σ' n') := by
  obtain ⟨h1, h2, h3, h4, h5, h6⟩ := hJ
  refine yieldW_go h5 rfl (Nat.zero_le _) ?_
  have q0 : (0 = n) = False := by simp; omega
  have q1 : (1 = n) = False := by simp; omega
  have q2 : (2 = n) = False := by simp; omega
  have q3 : (3 = n) = False := by simp; omega
  have q4 : (4 = n) = False := by simp; omega
  have q5 : (n = 4) = False := by simp; omega
  obtain ⟨σ1, hσ1⟩ : ∃ σ1, σ1 = upd (upd (upd σ n (some (.row 2 [.agg [.int .u64 0, .int .u64 0]]))) n (some (.row 2 [.agg [.int .u64 a, .int .u64 b]]))) 4 (some (.loop env [14] asg130 bd130 .busy none)) := ⟨_, rfl⟩
  have s0 : σ1 0 = some (.row 1 [.int .i64 (k : Int)]) := by rw [hσ1]; simp [upd, q0, h2]
  have s2 : σ1 2 = some (.row 1 [.ptr 1 1 0 0]) := by rw [hσ1]; simp [upd, q2, h3]
  have s3 : σ1 3 = some (.row 1 [.fn 136 [.ptr 2 1 0 0, .ptr 0 1 0 0]]) := by rw [hσ1]; simp [upd, q3, h4]
  have s4 : σ1 4 = some (.loop env [14] asg130 bd130 .busy none) := by rw [hσ1]; simp [upd]
  have sn : σ1 n = some (.row 2 [.agg [.int .u64 a, .int .u64 b]]) := by rw [hσ1]; simp [upd, q5]
  have s1 : σ1 1 = σ 1 := by rw [hσ1]; simp [upd, q1]
  have so : ∀ i, 4 < i → i < n → σ1 i = σ i := by
    intro i g1 g2
    have g3 : i ≠ n := by omega
    have g4 : i ≠ 4 := by omega
    rw [hσ1]; simp [upd, g3, g4]
  rcases h6 with ⟨rfl, h6⟩ | ⟨id, len, d, h6, h7, h8, h9, h10, h11, h12, h13, h14⟩
  · rw [h6] at s1
    have c31 := f136n (wv := 2) (kid := 0) (wid := 1) (σ := σ1) a b k hk s2 s0 s1
    simp +contextual -implicitDefEqProofs (maxSteps := 2000000) only [↓wP, wQ, wQ1, wQ2, wQ3, wR, boxE, partsOf, ↓reduceIte, Nat.reduceEqDiff, Nat.reduceAdd, Nat.reduceSub, Nat.reduceLeDiff, Nat.reduceLT, Nat.reduceMul, reduceCtorEq, Int.reduceBNe, Int.reduceBEq, Int.reduceLT, Int.reduceLE, Int.reduceGT, bind_cons, bind_nil, w_asg130, w_bd130, he2, he5, he6, h5, q0, q1, q2, q3, q4, q5, ← hσ1, s0, s2, s3, s4, sn, s1, c31]
    refine stepW_raw (by decide) (raw139n a b 1 (n + 1) σ1 s1 (by omega) fun σ2 n2 id2 d2 g1 g2 g3 g4 g5 g6 g7 g8 g9 => ?_)
    have t0 := (g9 0 (by decide) (by omega)).trans s0
    have t2 := (g9 2 (by decide) (by omega)).trans s2
    have t3 := (g9 3 (by decide) (by omega)).trans s3
    have t4 := (g9 4 (by decide) (by omega)).trans s4
    have f137 := fun fs n lk => f32r (d := d2) (len := 1) (id := id2) (σ := σ2) (by omega) g5 fs n lk
    simp only [Int.natCast_one] at f137
    have hgt : ¬ (k : Int) < 1 := by omega
    simp +contextual -implicitDefEqProofs (maxSteps := 2000000) only [↓wP, wQ, wQ1, wQ2, wQ3, wR, boxE, partsOf, ↓reduceIte, Nat.reduceEqDiff, Nat.reduceAdd, Nat.reduceSub, Nat.reduceLeDiff, Nat.reduceLT, Nat.reduceMul, reduceCtorEq, Int.reduceBNe, Int.reduceBEq, Int.reduceLT, Int.reduceLE, Int.reduceGT, he2, he5, he6, t0, t2, g4, f137, hgt]
    refine ⟨t4, Jf.mk rfl (by omega) t0 t2 t3 g4 (by omega) g3 g5 (by decide) (by omega) (by omega) g7 ?_⟩
    have e1 : d2.toList.take 1 = d2.toList := List.take_of_length_le (by rw [Array.length_toList]; omega)
    have e2 : fst' k [⟨a, b⟩] = [⟨a, b⟩] := by
      show [_].take k = _
      exact List.take_of_length_le (by simp; omega)
    rw [e1, e2]
    exact g8
  · rw [h6] at s1
    have sid := so id h7 h8
    rw [h9] at sid
    have hlen := h14.length_eq
    rw [List.length_take, Array.length_toList, fst_len, Nat.min_eq_left h11] at hlen
    have c31 := f136 (wv := 2) (kid := 0) (wid := 1) (σ := σ1) (d := d) (len := len) a b k s2 s0 s1 sid h11 h10
    have hmax := h13.max
    have hmem : ∀ x ∈ fst' k pre, ahead d[0]! x = false := by
      intro x hx
      obtain ⟨i, hi, rfl⟩ := mem_take h11 (h14.mem_iff.2 hx)
      exact hmax i hi
    by_cases hin : (decide (len < k) || ahead ⟨a, b⟩ d[0]!) = true
    · rw [hin] at c31
      simp +contextual -implicitDefEqProofs (maxSteps := 2000000) only [↓wP, wQ, wQ1, wQ2, wQ3, wR, boxE, partsOf, ↓reduceIte, Nat.reduceEqDiff, Nat.reduceAdd, Nat.reduceSub, Nat.reduceLeDiff, Nat.reduceLT, Nat.reduceMul, reduceCtorEq, Int.reduceBNe, Int.reduceBEq, Int.reduceLT, Int.reduceLE, Int.reduceGT, bind_cons, bind_nil, w_asg130, w_bd130, he2, he5, he6, h5, q0, q1, q2, q3, q4, q5, ← hσ1, s0, s2, s3, s4, sn, s1, c31]
      refine stepW_raw (by decide) (raw139 d a b 1 id len (n + 1) σ1 h11 (by omega) s1 (by omega) (by omega) (by omega) sid h13 fun σ2 n2 id2 d2 g1 g2 g3 g4 g5 g6 g7 g8 g9 => ?_)
      have t0 := (g9 0 (by decide) (by omega) (by omega)).trans s0
      have t2 := (g9 2 (by decide) (by omega) (by omega)).trans s2
      have t3 := (g9 3 (by decide) (by omega) (by omega)).trans s3
      have t4 := (g9 4 (by decide) (by omega) (by omega)).trans s4
      have f137 := fun fs n lk => f32r (d := d2) (len := len + 1) (id := id2) (σ := σ2) (by omega) g5 fs n lk
      have hp1 : d2.toList.Perm (ins ⟨a, b⟩ (fst' k pre)) := by
        refine g8.trans ((h14.append_right _).trans (List.perm_append_comm.trans ?_))
        exact (ins_perm _ _).symm
      by_cases hgt : k < len + 1
      · have hgt' : (k : Int) < ((len + 1 : Nat) : Int) := by omega
        simp +contextual -implicitDefEqProofs (maxSteps := 2000000) only [↓wP, wQ, wQ1, wQ2, wQ3, wR, boxE, partsOf, ↓reduceIte, Nat.reduceEqDiff, Nat.reduceAdd, Nat.reduceSub, Nat.reduceLeDiff, Nat.reduceLT, Nat.reduceMul, reduceCtorEq, Int.reduceBNe, Int.reduceBEq, Int.reduceLT, Int.reduceLE, Int.reduceGT, he2, he5, he6, t0, t2, g4, f137, hgt']
        refine stepW_raw (by decide) (raw140 d2 1 id2 (len + 1) n2 σ2 (by omega) (by omega) (by omega) g4 (by omega) g3 (by omega) g5 g7 fun v σ3 n3 d3 k1 k2 k3 k4 k5 k6 k7 => ?_)
        have u0 := (k7 0 (by decide) (by omega) (by omega)).trans t0
        have u2 := (k7 2 (by decide) (by omega) (by omega)).trans t2
        have u3 := (k7 3 (by decide) (by omega) (by omega)).trans t3
        have u4 := (k7 4 (by decide) (by omega) (by omega)).trans t4
        simp only [Nat.add_sub_cancel] at k2 k5 k6
        simp +contextual -implicitDefEqProofs (maxSteps := 2000000) only [↓wP, wQ, wQ1, wQ2, wQ3, wR, boxE, partsOf, ↓reduceIte, Nat.reduceEqDiff, Nat.reduceAdd, Nat.reduceSub, Nat.reduceLeDiff, Nat.reduceLT, Nat.reduceMul, reduceCtorEq, Int.reduceBNe, Int.reduceBEq, Int.reduceLT, Int.reduceLE, Int.reduceGT, he2, he5, he6]
        refine ⟨u4, Jf.mk rfl (by omega) u0 u2 u3 k2 (by omega) (by omega) k3 h10 (by omega) (by omega) k5 ?_⟩
        have e1 : d2.toList.take (len + 1) = d2.toList := List.take_of_length_le (by rw [Array.length_toList]; omega)
        rw [e1] at k6
        have hmx : ∀ x ∈ d3.toList.take len, ahead d2[0]! x = false := by
          intro x hx
          have hx2 : x ∈ d2.toList.take (len + 1) := by rw [e1]; exact k6.mem_iff.2 (List.mem_append_left _ hx)
          obtain ⟨i, hi, rfl⟩ := mem_take (by omega) hx2
          exact g7.max i hi
        have hdm := drop_max (ins_srt ⟨a, b⟩ _ (fst_srt k pre)) (hp1.symm.trans k6) hmx
        have hl3 : (d3.toList.take len).length = len := by rw [List.length_take, Array.length_toList]; omega
        rw [hl3] at hdm
        rw [fst_snoc]
        have hk2 : len = k := by rw [hlen]; omega
        rw [hk2] at hdm ⊢
        exact hdm
      · have hgt' : ¬ (k : Int) < ((len + 1 : Nat) : Int) := by omega
        simp +contextual -implicitDefEqProofs (maxSteps := 2000000) only [↓wP, wQ, wQ1, wQ2, wQ3, wR, boxE, partsOf, ↓reduceIte, Nat.reduceEqDiff, Nat.reduceAdd, Nat.reduceSub, Nat.reduceLeDiff, Nat.reduceLT, Nat.reduceMul, reduceCtorEq, Int.reduceBNe, Int.reduceBEq, Int.reduceLT, Int.reduceLE, Int.reduceGT, he2, he5, he6, t0, t2, g4, f137, hgt']
        refine ⟨t4, Jf.mk rfl (by omega) t0 t2 t3 g4 (by omega) g3 g5 (by omega) (by omega) (by omega) g7 ?_⟩
        have e1 : d2.toList.take (len + 1) = d2.toList := List.take_of_length_le (by rw [Array.length_toList]; omega)
        rw [e1, fst_snoc, List.take_of_length_le (by rw [ins_len, fst_len]; omega)]
        exact hp1
    · simp only [Bool.not_eq_true] at hin
      rw [hin] at c31
      simp only [Bool.or_eq_false_iff, decide_eq_false_iff_not] at hin
      simp +contextual -implicitDefEqProofs (maxSteps := 2000000) only [↓wP, wQ, wQ1, wQ2, wQ3, wR, boxE, partsOf, ↓reduceIte, Nat.reduceEqDiff, Nat.reduceAdd, Nat.reduceSub, Nat.reduceLeDiff, Nat.reduceLT, Nat.reduceMul, reduceCtorEq, Int.reduceBNe, Int.reduceBEq, Int.reduceLT, Int.reduceLE, Int.reduceGT, bind_cons, bind_nil, w_asg130, w_bd130, he2, he5, he6, h5, q0, q1, q2, q3, q4, q5, ← hσ1, s0, s2, s3, s4, sn, s1, c31]
      refine Jf.mk rfl (by omega) s0 s2 s3 s1 h7 (by omega) sid h10 h11 h12 h13 ?_
      rw [fst_out (by rw [fst_len]; omega) (fun x hx => swoA.ntrans _ _ _ hin.2 (hmem x hx))]
      exact h14
end Go.Q.SZ
end

section
/- First. -/
set_option linter.unusedSimpArgs false
set_option linter.unusedVariables false
namespace Go.Q.SZ
open Go.Q Go.Sort
def hs (l : List Hit) : List V := l.map hitV
theorem rw_hs (l : List Hit) : rw' l.toArray = hs l := by simp [rw', hs]
theorem hs_len (l : List Hit) : (hs l).length = l.length := by simp [hs]
theorem hs_giv (σ : Sto) (l : List Hit) : ∀ x ∈ hs l, elemM (giv σ 11) x = some x := by
  intro x hx
  obtain ⟨y, -, rfl⟩ := List.mem_map.1 hx
  rfl
theorem hs_gids (σ : Sto) (l : List Hit) : ∀ x ∈ hs l, ∀ c ∈ x.cells, gids σ 11 c = [] := by
  intro x hx c hc
  obtain ⟨y, -, rfl⟩ := List.mem_map.1 hx
  simp only [hitV, V.cells, List.mem_cons, List.not_mem_nil, or_false] at hc
  rcases hc with rfl | rfl <;> rfl
theorem hs_nw (l : List Hit) : ∀ x ∈ hs l, Nw 12 x = true := by
  intro x hx
  obtain ⟨y, -, rfl⟩ := List.mem_map.1 hx
  rfl
theorem hs_flat (l : List Hit) : flat (.own 2 (hs l)) = true := by
  show flatL _ = true
  induction l with
  | nil => rfl
  | cons x l ih => simp only [hs, List.map_cons, flatL, hitV, flat, Bool.and_true, Bool.true_and]; exact ih
theorem lim_hits {n : Nat} (h : n ≤ 8000000000000) : (n * 16 ≤ LIM) = True := by unfold LIM; simp; omega
theorem r141 (l : List Hit) (hl : l.length ≤ 8000000000000) : res T 141 [.sl 2 (hs l)] = some (.own 2 (hs l)) := by
  refine run_res (run_own (fn := g141) rfl rfl (by decide) ?_)
  simp only [g141, b141, oO, oN, mV, lD, gO, pP, qQ, cI, aR]
  have z := lim_hits hl
  rw [← hs_len] at z
  have hg := fun σ h => giv_row (σ := σ) (id := 1) (sz := 2) (xs := hs l) h (hs_giv σ l) (hs_gids σ l)
  simp +contextual -implicitDefEqProofs (maxSteps := 2000000) only [↓wP, wQ, wQ1, wQ2, wQ3, wR, boxE, partsOf, ↓reduceIte, Nat.reduceEqDiff, Nat.reduceAdd, Nat.reduceSub, Nat.reduceLeDiff, Nat.reduceLT, Nat.reduceMul, reduceCtorEq, Int.reduceBNe, Int.reduceBEq, Int.reduceLT, Int.reduceLE, Int.reduceGT, z, true_or]
  refine hg _ ?_
  simp [upd]
theorem r141n : res T 141 [.nilS] = some .nilS := by
  refine run_res (run_own (fn := g141) rfl rfl (by decide) ?_)
  simp only [g141, b141, oO, oN, mV, lD, gO, pP, qQ, cI, aR]
  simp +contextual -implicitDefEqProofs (maxSteps := 2000000) only [↓wP, wQ, wQ1, wQ2, wQ3, wR, boxE, partsOf, ↓reduceIte, Nat.reduceEqDiff, Nat.reduceAdd, Nat.reduceSub, Nat.reduceLeDiff, Nat.reduceLT, Nat.reduceMul, reduceCtorEq, Int.reduceBNe, Int.reduceBEq, Int.reduceLT, Int.reduceLE, Int.reduceGT]
  exact ⟨rfl, by simp [gids]⟩
theorem f141n (fs : Bool) (σ : Sto) (n lk : Nat) : callE T fs 141 [.nilS] σ n lk = some (.nilS, σ, n) := callE_tr (by decide) r141n rfl rfl fs σ n lk
theorem thaw_hs (σ : Sto) (n : Nat) (l : List Hit) : thaw σ n (.own 2 (hs l)) = (.ref n 0 l.length 2, upd σ n (some (.row 2 (hs l))), n + 1) := by
  rw [thaw_own, thawL_nw 12 (hs_nw l), hs_len]
theorem f141 {d : Array Hit} {len id : Nat} {σ : Sto} (hl : len ≤ d.size) (hd : d.size ≤ 8000000000000) (h : σ id = some (.row 2 (rw' d))) (fs : Bool) (n lk : Nat) :
    callE T fs 141 [.ref id 0 len 2] σ n lk = some (.ref n 0 len 2, upd σ n (some (.row 2 (hs (d.toList.take len)))), n + 1) := by
  rw [callE_eq (by decide)]
  have e : [V.ref id 0 len 2].mapM (frz σ 12) = some [.sl 2 (hs (d.toList.take len))] := by
    have e1 : (rw' d).take len = hs (d.toList.take len) := by simp [rw', hs, List.map_take]
    simp only [List.mapM_cons, List.mapM_nil, frz_pre hl h 9, e1]
    rfl
  have hlen : (d.toList.take len).length = len := by rw [List.length_take, Array.length_toList]; omega
  rw [e, callR_some, r141 _ (by omega), retE_some, backE_flat (hs_flat _), thaw_hs, hlen]
theorem raw118n (n : Nat) (σ : Sto) {Q : V → Sto → Nat → Prop} (hQ : Q .undef σ n) : run T (.raw 118 [.nilS, .int .i64 0, .int .i64 0, .fn 78 []] σ n 0) (memQ Q) := by
  refine run_rawE (fn := g118) rfl rfl ?_
  simp only [g118, b118, oO, oN, mV, lD, gO, pP, qQ, cI, aR]
  have w1 : IntKind.i64.wrap ((0 : Int) + 1) = 1 := by decide
  simp +contextual -implicitDefEqProofs (maxSteps := 2000000) only [↓wP, wQ, wQ1, wQ2, wQ3, wR, boxE, partsOf, ↓reduceIte, Nat.reduceEqDiff, Nat.reduceAdd, Nat.reduceSub, Nat.reduceLeDiff, Nat.reduceLT, Nat.reduceMul, reduceCtorEq, Int.reduceBNe, Int.reduceBEq, Int.reduceLT, Int.reduceLE, Int.reduceGT, w1]
  refine WC_loopI 0 (fun (s : Nat) env σ' n' => n' = n ∧ σ' = σ ∧ env 2 = .int .i64 0 ∧ env 8 = .int .i64 1) (fun s => s) ?_ 0 _ _ _ ?_
  · intro _ env σ' n' ⟨h1, h2, h3, h4⟩
    subst h1 h2
    have h : ¬ (1 : Int) < 0 := by decide
    simp +contextual -implicitDefEqProofs (maxSteps := 2000000) only [↓wP, wQ, wQ1, wQ2, wQ3, wR, boxE, partsOf, ↓reduceIte, Nat.reduceEqDiff, Nat.reduceAdd, Nat.reduceSub, Nat.reduceLeDiff, Nat.reduceLT, Nat.reduceMul, reduceCtorEq, Int.reduceBNe, Int.reduceBEq, Int.reduceLT, Int.reduceLE, Int.reduceGT, h3, h4, h]
    exact hQ
  · simp +contextual -implicitDefEqProofs (maxSteps := 2000000) only [↓wP, wQ, wQ1, wQ2, wQ3, wR, boxE, partsOf, ↓reduceIte, Nat.reduceEqDiff, Nat.reduceAdd, Nat.reduceSub, Nat.reduceLeDiff, Nat.reduceLT, Nat.reduceMul, reduceCtorEq, Int.reduceBNe, Int.reduceBEq, Int.reduceLT, Int.reduceLE, Int.reduceGT]
theorem raw105n (n : Nat) (σ : Sto) {Q : V → Sto → Nat → Prop} (lim : Int) (hQ : Q .undef σ n) : run T (.raw 105 [.nilS, .int .i64 0, .int .i64 0, .int .i64 lim, .fn 78 []] σ n 0) (memQ Q) := by
  refine run_rawE (fn := g105) rfl rfl ?_
  simp only [g105, b105, oO, oN, mV, lD, gO, pP, qQ, cI, aR]
  have w1 : IntKind.i64.wrap ((0 : Int) - 0) = 0 := by decide
  have h12 : (0 : Int) ≤ 12 := by decide
  simp +contextual -implicitDefEqProofs (maxSteps := 2000000) only [↓wP, wQ, wQ1, wQ2, wQ3, wR, boxE, partsOf, ↓reduceIte, Nat.reduceEqDiff, Nat.reduceAdd, Nat.reduceSub, Nat.reduceLeDiff, Nat.reduceLT, Nat.reduceMul, reduceCtorEq, Int.reduceBNe, Int.reduceBEq, Int.reduceLT, Int.reduceLE, Int.reduceGT, w1]
  refine WC_loopI 0 (fun (s : Nat) env σ' n' => n' = n ∧ σ' = σ ∧ env 0 = .nilS ∧ env 1 = .int .i64 0 ∧ env 2 = .int .i64 0 ∧ env 4 = .fn 78 []) (fun s => s) ?_ 0 _ _ _ ?_
  · intro _ env σ' n' ⟨h1, h2, h3, h4, h5, h6⟩
    subst h1 h2
    simp +contextual -implicitDefEqProofs (maxSteps := 2000000) only [↓wP, wQ, wQ1, wQ2, wQ3, wR, boxE, partsOf, ↓reduceIte, Nat.reduceEqDiff, Nat.reduceAdd, Nat.reduceSub, Nat.reduceLeDiff, Nat.reduceLT, Nat.reduceMul, reduceCtorEq, Int.reduceBNe, Int.reduceBEq, Int.reduceLT, Int.reduceLE, Int.reduceGT, w1, h3, h4, h5, h6, h12]
    refine stepW_raw (by decide) (raw118n n' σ' ?_)
    simp +contextual -implicitDefEqProofs (maxSteps := 2000000) only [↓wP, wQ, wQ1, wQ2, wQ3, wR, boxE, partsOf, ↓reduceIte, Nat.reduceEqDiff, Nat.reduceAdd, Nat.reduceSub, Nat.reduceLeDiff, Nat.reduceLT, Nat.reduceMul, reduceCtorEq, Int.reduceBNe, Int.reduceBEq, Int.reduceLT, Int.reduceLE, Int.reduceGT]
    exact hQ
  · simp +contextual -implicitDefEqProofs (maxSteps := 2000000) only [↓wP, wQ, wQ1, wQ2, wQ3, wR, boxE, partsOf, ↓reduceIte, Nat.reduceEqDiff, Nat.reduceAdd, Nat.reduceSub, Nat.reduceLeDiff, Nat.reduceLT, Nat.reduceMul, reduceCtorEq, Int.reduceBNe, Int.reduceBEq, Int.reduceLT, Int.reduceLE, Int.reduceGT]
theorem raw37N {d : Array Hit} {N : Nat} (hN : d.size = N) (id n : Nat) (σ : Sto) (hd : N < 18) (hid : id < n) (hσ : σ id = some (.row 2 (rw' d))) {Q : V → Sto → Nat → Prop}
    (hQ : ∀ σ' d' n', n ≤ n' → σ' id = some (.row 2 (rw' d')) → (∀ i, i ≠ id → i < n → σ' i = σ i) → PermIn 0 N d d' → SortedIn ahead 0 N d' → Q .undef σ' n') :
    run T (.raw 71 [.ref id 0 N 2, .fn 78 []] σ n 0) (memQ Q) := by subst hN; exact raw71 d id n σ hd hid hσ hQ
theorem raw71n (n : Nat) (σ : Sto) {Q : V → Sto → Nat → Prop} (hQ : Q .undef σ n) : run T (.raw 71 [.nilS, .fn 78 []] σ n 0) (memQ Q) := by
  refine run_rawE (fn := g71) rfl rfl ?_
  simp only [g71, b71, oO, oN, mV, lD, gO, pP, qQ, cI, aR]
  obtain ⟨M, h1, h2, h3⟩ := r106 0 (by decide)
  have f106 := callE_tr (fs := true) (by decide) h3 (by simp [Tr]) rfl
  simp only [Int.natCast_zero] at f106
  have wu : IntKind.u64.wrap (0 : Int) = 0 := by decide
  simp +contextual -implicitDefEqProofs (maxSteps := 2000000) only [↓wP, wQ, wQ1, wQ2, wQ3, wR, boxE, partsOf, ↓reduceIte, Nat.reduceEqDiff, Nat.reduceAdd, Nat.reduceSub, Nat.reduceLeDiff, Nat.reduceLT, Nat.reduceMul, reduceCtorEq, Int.reduceBNe, Int.reduceBEq, Int.reduceLT, Int.reduceLE, Int.reduceGT, Int.natCast_zero, wu, f106]
  refine stepW_raw (by decide) (raw105n n σ _ ?_)
  simp +contextual -implicitDefEqProofs (maxSteps := 2000000) only [↓wP, wQ, wQ1, wQ2, wQ3, wR, boxE, partsOf, ↓reduceIte, Nat.reduceEqDiff, Nat.reduceAdd, Nat.reduceSub, Nat.reduceLeDiff, Nat.reduceLT, Nat.reduceMul, reduceCtorEq, Int.reduceBNe, Int.reduceBEq, Int.reduceLT, Int.reduceLE, Int.reduceGT]
  exact hQ
theorem sorted_list {d : Array Hit} (h : SortedIn ahead 0 d.size d) : Srt d.toList := by
  unfold Srt
  rw [List.pairwise_iff_getElem]
  intro i j hi hj hij
  simp only [Array.length_toList] at hi hj
  have := h i j (Nat.zero_le _) hij hj
  rw [getElem!_pos d i hi, getElem!_pos d j hj] at this
  simpa using this
theorem ownH_eq {l : List Hit} (h : l ≠ []) : ownH l = .own 2 (hs l) := by
  cases l with
  | nil => exact absurd rfl h
  | cons x l => rfl
theorem range130 (k : Nat) (hk : 0 < k) (hk' : k < 1000) (o : Option (List (Option (List Hit)))) (hlo : (lst o).length < 9223372036854775808) (hli : ∀ r ∈ lst o, (lst r).length < 9223372036854775808) (env : Nat → V) (σ : Sto)
    (he2 : env 2 = .ptr 0 1 0 0) (he5 : env 5 = .ptr 2 1 0 0) (he6 : env 6 = .ptr 3 1 0 0) (he : env 13 = .fn 143 [.box [slV 1 (slV 2 hitV) o]]) (h0 : σ 0 = some (.row 1 [.int .i64 (k : Int)])) (h1 : σ 1 = some (.row 1 [.agg [.nilS]]))
    (h2 : σ 2 = some (.row 1 [.ptr 1 1 0 0])) (h3 : σ 3 = some (.row 1 [.fn 136 [.ptr 2 1 0 0, .ptr 0 1 0 0]])) {Q : Ex → St → Prop} (hQ : ∀ σ' n', Jf k env ((lst o).flatMap lst) σ' n' → Q .normal ⟨env, upd σ' 4 none, n', 0⟩) :
    WC T (.rangeF (.tmp 13) [14] asg130 bd130) env σ 4 0 Q := by
  refine WC_rangeF (f := 143) (caps := [.box [slV 1 (slV 2 hitV) o]]) he (Nat.zero_le _) ?_
  refine run_mono _ _ _ (fun x hx => ?_) (all143 o 4 (Jf k env) hlo hli (fun pre σ n σ' h hs => h.al hs) (hy130 k hk hk' env he2 he5 he6) _ 5 ?_)
  · cases x <;> try exact hx.elim
    have hx' : Jf k env ((lst o).flatMap lst) _ _ := hx
    exact ⟨_, _, _, _, _, _, hx'.2.2.2.2.1, by decide, hQ _ _ hx'⟩
  · exact ⟨by omega, by simp [upd, h0], by simp [upd, h2], by simp [upd, h3], by simp [upd], .inl ⟨rfl, by simp [upd, h1]⟩⟩
theorem r130 (k : Nat) (o : Option (List (Option (List Hit)))) (hk : 0 < k) (hk' : k < 18) (hlo : (lst o).length < 9223372036854775808) (hli : ∀ r ∈ lst o, (lst r).length < 9223372036854775808) :
    res T 130 [.int .i64 (k : Int), slV 1 (slV 2 hitV) o] = some (ownH (fst' k ((lst o).flatMap lst))) := by
  refine run_res (run_own (fn := g130) rfl rfl (by decide) ?_)
  simp only [g130, b130, oO, oN, mV, lD, gO, pP, qQ, cI, aR]
  have h33 := r138 (slV 1 (slV 2 hitV) o) (Tr_slV 1 _ o 9) (one_slV 1 _ o)
  have f138 := callE_tr (fs := true) (by decide) h33 (by simp [Tr_slV]) (by rfl)
  simp +contextual -implicitDefEqProofs (maxSteps := 2000000) only [↓wP, wQ, wQ1, wQ2, wQ3, wR, boxE, partsOf, ↓reduceIte, Nat.reduceEqDiff, Nat.reduceAdd, Nat.reduceSub, Nat.reduceLeDiff, Nat.reduceLT, Nat.reduceMul, reduceCtorEq, Int.reduceBNe, Int.reduceBEq, Int.reduceLT, Int.reduceLE, Int.reduceGT, f138]
  refine range130 k hk (by omega) o hlo hli _ _ rfl rfl rfl rfl (by simp [upd]) (by simp [upd]) (by simp [upd]) (by simp [upd]) fun σ' n' hJ => ?_
  obtain ⟨h1, h2, h3, h4, h5, h6⟩ := hJ
  rcases h6 with ⟨g1, g2⟩ | ⟨id, len, d, g1, g2, g3, g4, g5, g6, g7, g8, g9⟩
  · rw [g1]
    simp +contextual -implicitDefEqProofs (maxSteps := 2000000) only [↓wP, wQ, wQ1, wQ2, wQ3, wR, boxE, partsOf, ↓reduceIte, Nat.reduceEqDiff, Nat.reduceAdd, Nat.reduceSub, Nat.reduceLeDiff, Nat.reduceLT, Nat.reduceMul, reduceCtorEq, Int.reduceBNe, Int.reduceBEq, Int.reduceLT, Int.reduceLE, Int.reduceGT, h3, g2, f141n]
    refine stepW_raw (by decide) (raw71n _ _ ?_)
    simp +contextual -implicitDefEqProofs (maxSteps := 2000000) only [↓wP, wQ, wQ1, wQ2, wQ3, wR, boxE, partsOf, ↓reduceIte, Nat.reduceEqDiff, Nat.reduceAdd, Nat.reduceSub, Nat.reduceLeDiff, Nat.reduceLT, Nat.reduceMul, reduceCtorEq, Int.reduceBNe, Int.reduceBEq, Int.reduceLT, Int.reduceLE, Int.reduceGT]
    have e0 : fst' k [] = [] := by simp [fst', srt]
    rw [e0]
    exact ⟨rfl, by simp [gids, DEEP]⟩
  · have e4 : id ≠ 4 := by omega
    have f141 := fun fs n lk => f141 (d := d) (len := len) (id := id) (σ := upd σ' 4 none) g6 (by omega) (by simp [upd, e4, g4]) fs n lk
    generalize hl : (lst o).flatMap lst = all at *
    have hlen := g9.length_eq
    rw [List.length_take, Array.length_toList, fst_len, Nat.min_eq_left g6] at hlen
    simp +contextual -implicitDefEqProofs (maxSteps := 2000000) only [↓wP, wQ, wQ1, wQ2, wQ3, wR, boxE, partsOf, ↓reduceIte, Nat.reduceEqDiff, Nat.reduceAdd, Nat.reduceSub, Nat.reduceLeDiff, Nat.reduceLT, Nat.reduceMul, reduceCtorEq, Int.reduceBNe, Int.reduceBEq, Int.reduceLT, Int.reduceLE, Int.reduceGT, h3, g1, f141]
    have hc : (d.toList.take len).toArray.size = len := by simp; omega
    refine stepW_raw (by decide) (raw37N hc n' (n' + 1) (upd (upd σ' 4 none) n' (some (.row 2 (hs (d.toList.take len))))) (by omega) (by omega) (by simp [upd, rw_hs]) fun σ2 d2 n2 k1 k2 k3 k4 k5 => ?_)
    simp +contextual -implicitDefEqProofs (maxSteps := 2000000) only [↓wP, wQ, wQ1, wQ2, wQ3, wR, boxE, partsOf, ↓reduceIte, Nat.reduceEqDiff, Nat.reduceAdd, Nat.reduceSub, Nat.reduceLeDiff, Nat.reduceLT, Nat.reduceMul, reduceCtorEq, Int.reduceBNe, Int.reduceBEq, Int.reduceLT, Int.reduceLE, Int.reduceGT]
    have hs2 : d2.size = len := by rw [k4.1, hc]
    have hsl : Srt d2.toList := sorted_list (by rw [hs2]; exact k5)
    have hp2 : d2.toList.Perm (fst' k all) := (perm_all hc k4).trans (by simpa using g9)
    have heq : d2.toList = fst' k all := Srt.uniq hsl (fst_srt k all) hp2
    have hne : fst' k all ≠ [] := by
      intro h
      have := fst_len k all
      rw [h] at this
      simp at this
      omega
    rw [ownH_eq hne, ← heq]
    have hrow : rw' d2 = hs d2.toList := rfl
    rw [hrow] at k2
    have := giv_row (σ := σ2) (id := n') (sz := 2) (xs := hs d2.toList) k2 (hs_giv _ _) (hs_gids _ _)
    rw [hs_len, Array.length_toList, hs2] at this
    exact this
end Go.Q.SZ
end

section
/- Rows of their own, what is the same, the document's order. -/
set_option linter.unusedSimpArgs false
set_option linter.unusedVariables false
namespace Go.Q.SZ
open Go.Q Go.Sort
theorem callE_flat {f : Nat} {args ts : List V} {r : V} {σ : Sto} (hm : T.mode f ≠ .raw) (hts : args.mapM (frz σ 12) = some ts) (hr : res T f ts = some r) (hf : flat r = true) (fs : Bool) (n lk : Nat) :
    callE T fs f args σ n lk = some (thaw σ n r) := by
  rw [callE_eq hm, hts, callR_some, hr, retE_some, backE_flat hf]
theorem hitV_eq (x : Hit) : hitV x = .agg [.int .u64 x.id, .int .u64 x.d] := rfl
theorem hs_take (l : List Hit) (k : Nat) : (hs l).take k = hs (l.take k) := by simp [hs, List.map_take]
theorem hs_app (l m : List Hit) : hs l ++ hs m = hs (l ++ m) := by simp [hs]
theorem hs_get {l : List Hit} {i : Nat} (h : i < l.length) : (hs l)[i]? = some (.agg [.int .u64 l[i].id, .int .u64 l[i].d]) := by
  simp [hs, List.getElem?_eq_getElem h, hitV]
theorem take_eq {a b : List Hit} (hl : a.length = b.length) (h : a.take a.length = b.take a.length) : a = b := by
  rw [List.take_length, hl, List.take_length] at h; exact h
theorem eqc_hit (a b c d : Int) : eqCells [.int, .int] [.int .u64 a, .int .u64 b] [.int .u64 c, .int .u64 d] = some (decide ((⟨a, b⟩ : Hit) = ⟨c, d⟩)) := by
  simp only [eqCells, eqCell, if_true, Option.bind_some, Option.map_some, Bool.and_true]
  congr 1
  rw [Bool.eq_iff_iff]
  simp
def Hf (σ : Sto) (v : V) (l : List Hit) : Prop := ∃ o, lst o = l ∧ frz σ 12 v = some (slV 2 hitV o)
theorem Hf.tree (σ : Sto) (o : Option (List Hit)) : Hf σ (slV 2 hitV o) (lst o) := ⟨o, rfl, frz_slV 2 _ o σ 11⟩
theorem Hf.row {σ : Sto} {id N : Nat} {l : List Hit} (h : σ id = some (.row 2 (hs l))) (hN : l.length = N) : Hf σ (.ref id 0 N 2) l := by
  refine ⟨some l, rfl, ?_⟩
  have h' : σ id = some (.row 2 (rw' l.toArray)) := by rw [rw_hs]; exact h
  have := frz_row (d := l.toArray) (N := N) (id := id) (σ := σ) (by simpa using hN) h' 9
  rw [rw_hs] at this
  exact this
def pos (h : Hit) (s : List Hit) : Nat := (s.takeWhile fun x => !ahead h x).length
theorem pos_le (h : Hit) (s : List Hit) : pos h s ≤ s.length := by
  unfold pos; exact (List.takeWhile_sublist _).length_le
theorem pos_cons (h x : Hit) (s : List Hit) : pos h (x :: s) = if ahead h x = true then 0 else pos h s + 1 := by
  unfold pos
  simp only [List.takeWhile_cons]
  by_cases hx : ahead h x = true
  · simp [hx]
  · simp only [Bool.not_eq_true] at hx
    simp [hx]
theorem pos_lt {h : Hit} : ∀ {s : List Hit} {i : Nat} (hi : i < pos h s) (hl : i < s.length), ahead h s[i] = false
  | [], i, _, hl => absurd hl (by simp)
  | x :: s, i, hi, hl => by
    rw [pos_cons] at hi
    split at hi
    · omega
    · rename_i hx
      cases i with
      | zero => simpa using hx
      | succ i => exact pos_lt (s := s) (by omega) (by simpa using hl)
theorem pos_at {h : Hit} : ∀ {s : List Hit} (hl : pos h s < s.length), ahead h s[pos h s] = true
  | x :: s, hl => by
    by_cases hx : ahead h x = true
    · have e : pos h (x :: s) = 0 := by rw [pos_cons, if_pos hx]
      simp [e, hx]
    · have e : pos h (x :: s) = pos h s + 1 := by rw [pos_cons, if_neg hx]
      have hl' : pos h s < s.length := by rw [e, List.length_cons] at hl; omega
      simp only [e, List.getElem_cons_succ]
      exact pos_at hl'
theorem ins_eq (h : Hit) : ∀ s : List Hit, ins h s = s.take (pos h s) ++ h :: s.drop (pos h s)
  | [] => rfl
  | x :: s => by
    unfold ins pos
    simp only [List.takeWhile_cons]
    by_cases hx : ahead h x = true
    · simp [hx]
    · simp only [Bool.not_eq_true] at hx
      simp only [hx, Bool.false_eq_true, if_false, Bool.not_false, if_true, List.length_cons, List.take_succ_cons, List.drop_succ_cons, List.cons_append]
      rw [ins_eq h s]; rfl
end Go.Q.SZ
end

section
/- The document's order. -/
set_option linter.unusedSimpArgs false
set_option linter.unusedVariables false
namespace Go.Q.SZ
open Go.Q Go.Sort
def oH (l : List Hit) : Option (List V) := if l = [] then none else some (hs l)
def optH (l : List Hit) : Option (List Hit) := if l = [] then none else some l
theorem lst_optH (l : List Hit) : lst (optH l) = l := by
  unfold optH; split
  · rename_i h; rw [h]; rfl
  · rfl
theorem lst_oH (l : List Hit) : lst (oH l) = hs l := by
  unfold oH; split
  · rename_i h; rw [h]; rfl
  · rfl
theorem oH_slV (l : List Hit) : slV 2 _root_.id (oH l) = slV 2 hitV (optH l) := by
  unfold oH optH; split <;> simp [slV, hs]
theorem plLen {σ : Sto} {m n : Nat} {v : V} {l : List Hit} (h : Pl σ m n 2 v (oH l)) : lenE v = some (.int .i64 (l.length : Int)) := by
  unfold oH at h
  split at h
  · rename_i e; rw [e]; simp only [Pl] at h; rw [h, lenE_nil]; rfl
  · obtain ⟨i, rfl, -⟩ := h
    rw [lenE_ref, hs_len]
theorem plRefs {σ : Sto} {m n : Nat} {v : V} {l : List Hit} (h : Pl σ m n 2 v (oH l)) (hl : l ≠ []) : ∃ i, v = .ref i 0 l.length 2 ∧ σ i = some (.row 2 (hs l)) ∧ m ≤ i ∧ i < n := by
  unfold oH at h
  rw [if_neg hl] at h
  obtain ⟨i, rfl, h1⟩ := h
  exact ⟨i, by rw [hs_len], h1⟩
theorem plOf {σ : Sto} {m n i : Nat} {l : List Hit} (hl : l ≠ []) (h1 : σ i = some (.row 2 (hs l))) (h2 : m ≤ i) (h3 : i < n) : Pl σ m n 2 (.ref i 0 l.length 2) (oH l) := by
  unfold oH
  rw [if_neg hl]
  exact ⟨i, by rw [hs_len], h1, h2, h3⟩
theorem tr_hs (k : Nat) (l : List Hit) : (∀ x ∈ hs l, Tr (k + 2) x = true) ∧ ∀ x ∈ hs l, ∀ c ∈ x.cells, Tr (k + 1) c = true := by
  constructor
  · intro x hx
    obtain ⟨y, -, rfl⟩ := List.mem_map.1 hx
    rfl
  · intro x hx c hc
    obtain ⟨y, -, rfl⟩ := List.mem_map.1 hx
    simp only [hitV, V.cells, List.mem_cons, List.not_mem_nil, or_false] at hc
    rcases hc with rfl | rfl <;> rfl
theorem plHf {σ : Sto} {m n : Nat} {v : V} {l : List Hit} (h : Pl σ m n 2 v (oH l)) : frz σ 12 v = some (slV 2 hitV (optH l)) := by
  rw [Go.Q.Pl.frz h (by rw [lst_oH]; exact (tr_hs 9 l).1) (by rw [lst_oH]; exact (tr_hs 10 l).2), oH_slV]
theorem hs_set (l : List Hit) (i : Nat) (x : Hit) : (hs l).set i (.agg [.int .u64 x.id, .int .u64 x.d]) = hs (l.set i x) := by simp [hs, List.map_set, hitV]
theorem hs_set_at {l : List Hit} {i j : Nat} {x : Hit} (hj : j < l.length) : ∃ u w : Int, ((hs l).set i (.agg [.int .u64 x.id, .int .u64 x.d]))[j]? = some (.agg [.int .u64 u, .int .u64 w]) := by
  rw [hs_set, hs_get (by simpa using hj)]
  exact ⟨_, _, rfl⟩
def merE (k : Int) (l : List Hit) : Int := if k < 1 ∨ 16 < k then 2 else if 2000 < l.length then 3 else 0
def merV (k : Int) (l : List Hit) : List Hit := if merE k l = 0 then fst' k.toNat l else []
def hVal (n : Nat) (l : List Hit) : V := if l = [] then .nilS else .ref n 0 l.length 2
def hSto (σ : Sto) (n : Nat) (l : List Hit) : Sto := if l = [] then σ else upd σ n (some (.row 2 (hs l)))
def hN (n : Nat) (l : List Hit) : Nat := if l = [] then n else n + 1
theorem thaw_ownH (σ : Sto) (n : Nat) (l : List Hit) : thaw σ n (ownH l) = (hVal n l, hSto σ n l, hN n l) := by
  cases l with
  | nil => rfl
  | cons x l =>
    unfold hVal hSto hN
    rw [if_neg (by simp), if_neg (by simp), if_neg (by simp)]
    exact thaw_hs σ n (x :: l)
theorem flat_ownH (l : List Hit) : flat (ownH l) = true := by
  cases l with
  | nil => rfl
  | cons x l => exact hs_flat (x :: l)
theorem hSto_at (σ : Sto) (n : Nat) (l : List Hit) {i : Nat} (h : i < n) : hSto σ n l i = σ i := by
  unfold hSto; split
  · rfl
  · have : i ≠ n := by omega
    simp [upd, this]
theorem hN_le (n : Nat) (l : List Hit) : n ≤ hN n l := by unfold hN; split <;> omega
theorem giv_tup2 {σ : Sto} {v w r s : V} (h : giv σ 11 v = some r ∧ (gids σ 11 v).Nodup) (h' : giv σ 11 w = some s) (h'' : gids σ 11 w = []) :
    giv σ 12 (.tup [v, w]) = some (.tup [r, s]) ∧ (gids σ 12 (.tup [v, w])).Nodup := by
  constructor
  · simp only [giv, List.mapM_cons, List.mapM_nil, h.1, h']; rfl
  · simp only [gids, List.flatMap_cons, List.flatMap_nil, h'', List.append_nil]; exact h.2
theorem hVal_giv11 (σ : Sto) (n : Nat) (l : List Hit) : giv (hSto σ n l) 11 (hVal n l) = some (ownH l) ∧ (gids (hSto σ n l) 11 (hVal n l)).Nodup := by
  unfold hVal hSto
  by_cases h : l = []
  · rw [if_pos h, if_pos h, h]; exact ⟨rfl, by simp [gids]⟩
  · rw [if_neg h, if_neg h, ownH_eq h]
    have hg : ∀ x ∈ hs l, elemM (giv (upd σ n (some (.row 2 (hs l)))) 10) x = some x := by
      intro x hx
      obtain ⟨y, -, rfl⟩ := List.mem_map.1 hx
      rfl
    have hg' : ∀ x ∈ hs l, ∀ c ∈ x.cells, gids (upd σ n (some (.row 2 (hs l)))) 10 c = [] := by
      intro x hx c hc
      obtain ⟨y, -, rfl⟩ := List.mem_map.1 hx
      simp only [hitV, V.cells, List.mem_cons, List.not_mem_nil, or_false] at hc
      rcases hc with rfl | rfl <;> rfl
    have hat : upd σ n (some (.row 2 (hs l))) n = some (.row 2 (hs l)) := by simp [upd]
    constructor
    · simp only [giv, hat, hs_len, and_self, if_true]
      rw [mapM_id hg]; rfl
    · simp only [gids, hat]
      rw [List.flatMap_eq_nil_iff.2 fun x hx => List.flatMap_eq_nil_iff.2 fun c hc => hg' x hx c hc]
      simp
theorem sum_mono (l : List (Option (List Hit))) (j : Nat) : ((l.take j).flatMap lst).length ≤ (l.flatMap lst).length := by
  conv => rhs; rw [← List.take_append_drop j l]
  rw [List.flatMap_append, List.length_append]
  omega
theorem r115 (k : Int) (o : Option (List (Option (List Hit)))) (hlo : (lst o).length < 9223372036854775808) (hli : ∀ r ∈ lst o, (lst r).length < 4611686018427387904) :
    res T 115 [.int .i64 k, slV 1 (slV 2 hitV) o] = some (.tup [ownH (merV k ((lst o).flatMap lst)), .int .i64 (merE k ((lst o).flatMap lst))]) := by
  refine run_res (run_own (fn := g115) rfl rfl (by decide) ?_)
  simp only [g115, b115, oO, oN, mV, lD, gO, pP, qQ, cI, aR]
  by_cases hk1 : k < 1
  · have e1 : merE k ((lst o).flatMap lst) = 2 := if_pos (.inl hk1)
    have e2 : merV k ((lst o).flatMap lst) = [] := by unfold merV; rw [e1]; rfl
    rw [e1, e2]
    simp +contextual -implicitDefEqProofs (maxSteps := 2000000) only [↓wP, wQ, wQ1, wQ2, wQ3, wR, boxE, partsOf, ↓reduceIte, Nat.reduceEqDiff, Nat.reduceAdd, Nat.reduceSub, Nat.reduceLeDiff, Nat.reduceLT, Nat.reduceMul, reduceCtorEq, Int.reduceBNe, Int.reduceBEq, Int.reduceLT, Int.reduceLE, Int.reduceGT, hk1]
    exact ⟨rfl, by simp [gids]⟩
  · by_cases hk2 : 16 < k
    · have e1 : merE k ((lst o).flatMap lst) = 2 := if_pos (.inr hk2)
      have e2 : merV k ((lst o).flatMap lst) = [] := by unfold merV; rw [e1]; rfl
      rw [e1, e2]
      simp +contextual -implicitDefEqProofs (maxSteps := 2000000) only [↓wP, wQ, wQ1, wQ2, wQ3, wR, boxE, partsOf, ↓reduceIte, Nat.reduceEqDiff, Nat.reduceAdd, Nat.reduceSub, Nat.reduceLeDiff, Nat.reduceLT, Nat.reduceMul, reduceCtorEq, Int.reduceBNe, Int.reduceBEq, Int.reduceLT, Int.reduceLE, Int.reduceGT, hk1, hk2]
      exact ⟨rfl, by simp [gids]⟩
    · obtain ⟨kn, rfl⟩ : ∃ kn : Nat, k = (kn : Int) := ⟨k.toNat, by omega⟩
      simp +contextual -implicitDefEqProofs (maxSteps := 2000000) only [↓wP, wQ, wQ1, wQ2, wQ3, wR, boxE, partsOf, ↓reduceIte, Nat.reduceEqDiff, Nat.reduceAdd, Nat.reduceSub, Nat.reduceLeDiff, Nat.reduceLT, Nat.reduceMul, reduceCtorEq, Int.reduceBNe, Int.reduceBEq, Int.reduceLT, Int.reduceLE, Int.reduceGT, hk1, hk2]
      refine WC_for (lst o).length 0 (fun (j : Nat) env σ n => σ = Sto.empty ∧ n = 0 ∧ env 0 = .int .i64 (kn : Int) ∧ env 1 = slV 1 (slV 2 hitV) o ∧ env 15 = slV 1 (slV 2 hitV) o ∧ env 6 = .int .i64 ((((lst o).take j).flatMap lst).length : Int) ∧ (((lst o).take j).flatMap lst).length ≤ 2000) hlo (by decide) (by decide) (fun _ _ => rfl) (fun _ _ _ => rfl) ?_ ?_ _ _ _ rfl rfl ?_
      · intro j env σ n hj h1 h2 ⟨g1, g2, h3, h4, h5, h6, h7⟩
        subst g1 g2
        simp only [vl_tmp] at h2
        have hx : (lst o)[j]? = some (lst o)[j] := List.getElem?_eq_getElem hj
        have hr := hli _ (List.getElem_mem hj)
        have ht : ((lst o).take (j + 1)).flatMap lst = ((lst o).take j).flatMap lst ++ lst (lst o)[j] := by
          rw [← List.take_append_getElem hj, List.flatMap_append]
          simp
        have hmono := sum_mono (lst o) (j + 1)
        generalize (lst o)[j] = r at *
        rw [ht, List.length_append] at hmono
        have wa : IntKind.i64.wrap (((((lst o).take j).flatMap lst).length : Int) + ((lst r).length : Int)) = (((((lst o).take j).flatMap lst).length + (lst r).length : Nat) : Int) := by rw [wrap_i64] <;> omega
        by_cases hbig : 2000 < (((lst o).take j).flatMap lst).length + (lst r).length
        · have hbig' : (2000 : Int) < (((((lst o).take j).flatMap lst).length + (lst r).length : Nat) : Int) := by omega
          have e1 : merE (kn : Int) ((lst o).flatMap lst) = 3 := by
            unfold merE
            rw [if_neg (by omega), if_pos (by omega)]
          have e2 : merV (kn : Int) ((lst o).flatMap lst) = [] := by unfold merV; rw [e1]; rfl
          rw [e1, e2]
          simp +contextual -implicitDefEqProofs (maxSteps := 2000000) only [↓wP, wQ, wQ1, wQ2, wQ3, wR, boxE, partsOf, ↓reduceIte, Nat.reduceEqDiff, Nat.reduceAdd, Nat.reduceSub, Nat.reduceLeDiff, Nat.reduceLT, Nat.reduceMul, reduceCtorEq, Int.reduceBNe, Int.reduceBEq, Int.reduceLT, Int.reduceLE, Int.reduceGT, h1, h2, h3, h4, h5, h6, hx, wa, hbig']
          exact ⟨rfl, by simp [gids]⟩
        · have hbig' : ¬ (2000 : Int) < (((((lst o).take j).flatMap lst).length + (lst r).length : Nat) : Int) := by omega
          simp +contextual -implicitDefEqProofs (maxSteps := 2000000) only [↓wP, wQ, wQ1, wQ2, wQ3, wR, boxE, partsOf, ↓reduceIte, Nat.reduceEqDiff, Nat.reduceAdd, Nat.reduceSub, Nat.reduceLeDiff, Nat.reduceLT, Nat.reduceMul, reduceCtorEq, Int.reduceBNe, Int.reduceBEq, Int.reduceLT, Int.reduceLE, Int.reduceGT, h1, h2, h3, h4, h5, h6, hx, wa, hbig']
          rw [ht, List.length_append]
          exact ⟨rfl, by omega⟩
      · intro env σ n ⟨g1, g2, h3, h4, h5, h6, h7⟩ h1 h2
        subst g1 g2
        rw [List.take_length] at h7
        have e1 : merE (kn : Int) ((lst o).flatMap lst) = 0 := by
          unfold merE
          rw [if_neg (by omega), if_neg (by omega)]
        have e2 : merV (kn : Int) ((lst o).flatMap lst) = fst' kn ((lst o).flatMap lst) := by unfold merV; rw [if_pos e1]; rfl
        have h25 := r130 kn o (by omega) (by omega) hlo (fun r hr => by have := hli r hr; omega)
        rw [e1, e2]
        have e : [V.int .i64 (kn : Int), slV 1 (slV 2 hitV) o].mapM (frz Sto.empty 12) = some [V.int .i64 (kn : Int), slV 1 (slV 2 hitV) o] := by
          simp only [List.mapM_cons, List.mapM_nil, frz_slV, frz_int]; rfl
        generalize fst' kn ((lst o).flatMap lst) = l at *
        have f130 := fun n lk => callE_flat (fs := true) (n := n) (lk := lk) (by decide) e h25 (flat_ownH l)
        simp only [thaw_ownH] at f130
        have hg := hVal_giv11 Sto.empty 0 l
        simp +contextual -implicitDefEqProofs (maxSteps := 2000000) only [↓wP, wQ, wQ1, wQ2, wQ3, wR, boxE, partsOf, ↓reduceIte, Nat.reduceEqDiff, Nat.reduceAdd, Nat.reduceSub, Nat.reduceLeDiff, Nat.reduceLT, Nat.reduceMul, reduceCtorEq, Int.reduceBNe, Int.reduceBEq, Int.reduceLT, Int.reduceLE, Int.reduceGT, h3, h4, f130]
        exact giv_tup2 hg rfl rfl
      · simp +contextual -implicitDefEqProofs (maxSteps := 2000000) only [↓wP, wQ, wQ1, wQ2, wQ3, wR, boxE, partsOf, ↓reduceIte, Nat.reduceEqDiff, Nat.reduceAdd, Nat.reduceSub, Nat.reduceLeDiff, Nat.reduceLT, Nat.reduceMul, reduceCtorEq, Int.reduceBNe, Int.reduceBEq, Int.reduceLT, Int.reduceLE, Int.reduceGT]
        simp
end Go.Q.SZ
end

section
/- First of a row; selections. -/
set_option linter.unusedSimpArgs false
set_option linter.unusedVariables false
namespace Go.Q.SZ
open Go.Q Go.Sort
theorem flat_tup2 {a b : V} (h : flat a = true) (h' : flat b = true) : flat (.tup [a, b]) = true := by simp [flat, flatL, h, h']
theorem thaw_hTup (σ : Sto) (n : Nat) (l : List Hit) (e : Int) : thaw σ n (.tup [ownH l, .int .i64 e]) = (.tup [hVal n l, .int .i64 e], hSto σ n l, hN n l) := by
  rw [thaw_tup, thawL_cons, thaw_ownH]
  rfl
theorem merge_one (o : Option (List Hit)) : (lst (some [o])).flatMap lst = lst o := by simp [lst]
theorem r92 (k : Int) (o : Option (List Hit)) (hl : (lst o).length < 4611686018427387904) : res T 92 [slV 2 hitV o, .int .i64 k] = some (.tup [ownH (merV k (lst o)), .int .i64 (merE k (lst o))]) := by
  refine run_res (run_own (fn := g92) rfl rfl (by decide) ?_)
  simp only [g92, b92, oO, oN, mV, lD, gO, pP, qQ, cI, aR]
  have h16 := r115 k (some [o]) (by simp [lst]) (fun r hr => by simp [lst_some] at hr; subst hr; exact hl)
  rw [merge_one] at h16
  have e : [V.int .i64 k, .ref 0 0 1 1].mapM (frz (upd Sto.empty 0 (some (.row 1 [slV 2 hitV o]))) 12) = some [V.int .i64 k, slV 1 (slV 2 hitV) (some [o])] := by
    have hx : frz (upd Sto.empty 0 (some (.row 1 [slV 2 hitV o]))) 12 (.ref 0 0 1 1) = some (.sl 1 [slV 2 hitV o]) := by
      have := (Fz.ref (σ := upd Sto.empty 0 (some (.row 1 [slV 2 hitV o]))) (id := 0) (sz := 1) (xs := [slV 2 hitV o]) (ts := [slV 2 hitV o]) (k := 11) (S := fun _ => True) (by simp [upd]) trivial
        (FzL.trees (fun x hx => by rw [List.mem_singleton] at hx; subst hx; exact Tr_slV 2 _ o _) (fun x hx c hc => by rw [List.mem_singleton] at hx; subst hx; rw [cl_slV, List.mem_singleton] at hc; subst hc; exact Tr_slV 2 _ o _))).1
      exact this
    simp only [List.mapM_cons, List.mapM_nil, hx, frz_int]
    rfl
  have f115 := fun n lk => callE_flat (fs := true) (n := n) (lk := lk) (by decide) e h16 (flat_tup2 (flat_ownH _) rfl)
  simp only [thaw_hTup] at f115
  have hg := fun σ n => hVal_giv11 σ n (merV k (lst o))
  simp +contextual -implicitDefEqProofs (maxSteps := 2000000) only [↓wP, wQ, wQ1, wQ2, wQ3, wR, boxE, partsOf, ↓reduceIte, Nat.reduceEqDiff, Nat.reduceAdd, Nat.reduceSub, Nat.reduceLeDiff, Nat.reduceLT, Nat.reduceMul, reduceCtorEq, Int.reduceBNe, Int.reduceBEq, Int.reduceLT, Int.reduceLE, Int.reduceGT, f115]
  exact giv_tup2 (hg _ _) rfl rfl
theorem f92 {σ : Sto} {v : V} {l : List Hit} (k : Int) (ha : Hf σ v l) (hl : l.length < 4611686018427387904) (fs : Bool) (n lk : Nat) :
    callE T fs 92 [v, .int .i64 k] σ n lk = some (.tup [hVal n (merV k l), .int .i64 (merE k l)], hSto σ n (merV k l), hN n (merV k l)) := by
  obtain ⟨o, rfl, h1⟩ := ha
  have e : [v, V.int .i64 k].mapM (frz σ 12) = some [slV 2 hitV o, .int .i64 k] := by simp only [List.mapM_cons, List.mapM_nil, h1]; rfl
  rw [callE_flat (by decide) e (r92 k o hl) (flat_tup2 (flat_ownH _) rfl), thaw_hTup]
end Go.Q.SZ
end

section
/- The document's order, first ones, and which hits are the same. -/
set_option linter.unusedSimpArgs false
set_option linter.unusedVariables false
namespace Go.Q.SZ
open Go.Q Go.Sort
theorem r117 (a b c d : Int) : res T 117 [.agg [.int .u64 a, .int .u64 b], .agg [.int .u64 c, .int .u64 d]] = some (.bool (ahead ⟨a, b⟩ ⟨c, d⟩)) := by
  refine run_res (run_pure (fn := g117) rfl rfl (by decide) ?_)
  simp only [g117, b117, oO, oN, mV, lD, gO, pP, qQ, cI, aR]
  have h1 : ahead ⟨a, b⟩ ⟨c, d⟩ = (decide (b < d) || (b == d && decide (a < c))) := rfl
  rw [h1]
  by_cases e1 : b < d
  · simp +contextual -implicitDefEqProofs (maxSteps := 2000000) only [↓wP, wQ, wQ1, wQ2, wQ3, wR, boxE, partsOf, ↓reduceIte, Nat.reduceEqDiff, Nat.reduceAdd, Nat.reduceSub, Nat.reduceLeDiff, Nat.reduceLT, Nat.reduceMul, reduceCtorEq, Int.reduceBNe, Int.reduceBEq, Int.reduceLT, Int.reduceLE, Int.reduceGT, e1]
  · by_cases e2 : b = d
    · simp +contextual -implicitDefEqProofs (maxSteps := 2000000) only [↓wP, wQ, wQ1, wQ2, wQ3, wR, boxE, partsOf, ↓reduceIte, Nat.reduceEqDiff, Nat.reduceAdd, Nat.reduceSub, Nat.reduceLeDiff, Nat.reduceLT, Nat.reduceMul, reduceCtorEq, Int.reduceBNe, Int.reduceBEq, Int.reduceLT, Int.reduceLE, Int.reduceGT, e1, e2]
    · have e3 : (b == d) = false := by simp [e2]
      simp +contextual -implicitDefEqProofs (maxSteps := 2000000) only [↓wP, wQ, wQ1, wQ2, wQ3, wR, boxE, partsOf, ↓reduceIte, Nat.reduceEqDiff, Nat.reduceAdd, Nat.reduceSub, Nat.reduceLeDiff, Nat.reduceLT, Nat.reduceMul, reduceCtorEq, Int.reduceBNe, Int.reduceBEq, Int.reduceLT, Int.reduceLE, Int.reduceGT, e1, e3]
theorem f117 (a b c d : Int) (fs : Bool) (σ : Sto) (n lk : Nat) : callE T fs 117 [.agg [.int .u64 a, .int .u64 b], .agg [.int .u64 c, .int .u64 d]] σ n lk = some (.bool (ahead ⟨a, b⟩ ⟨c, d⟩), σ, n) :=
  callE_tr (by decide) (r117 a b c d) (by simp [Tr, Tr_slV]) rfl fs σ n lk
def mv (s : List Hit) (h : Hit) (k : Nat) : List Hit := s.take k ++ h :: s.drop k
theorem mv_len (s : List Hit) (h : Hit) (k : Nat) : (mv s h k).length = s.length + 1 := by simp [mv]; omega
theorem mv_end (s : List Hit) (h : Hit) : mv s h s.length = s ++ [h] := by simp [mv]
theorem mv_step (s : List Hit) (h : Hit) (m : Nat) (hm : m < s.length) : ((mv s h (m + 1)).set (m + 1) s[m]).set m h = mv s h m := by
  have e1 : s.take (m + 1) = s.take m ++ [s[m]] := (List.take_append_getElem hm).symm
  have e2 : s.drop m = s[m] :: s.drop (m + 1) := List.drop_eq_getElem_cons hm
  unfold mv
  rw [e1, e2]
  have hl : (s.take m).length = m := by rw [List.length_take]; omega
  generalize s[m] = x at *
  generalize s.drop (m + 1) = b at *
  generalize s.take m = a at *
  subst hl
  simp [List.set_append]
theorem mv_get0 (s : List Hit) (h : Hit) (k : Nat) (hk : k ≤ s.length) : (hs (mv s h k))[k]? = some (.agg [.int .u64 h.id, .int .u64 h.d]) := by
  have : (mv s h k)[k]? = some h := by
    unfold mv
    rw [List.getElem?_append_right (by rw [List.length_take]; omega), List.length_take, Nat.min_eq_left hk, Nat.sub_self]
    rfl
  simp [hs, this, hitV]
theorem mv_get1 (s : List Hit) (h : Hit) (m : Nat) (hm : m < s.length) : (hs (mv s h (m + 1)))[m]? = some (.agg [.int .u64 s[m].id, .int .u64 s[m].d]) := by
  have : (mv s h (m + 1))[m]? = some s[m] := by
    unfold mv
    rw [List.getElem?_append_left (by rw [List.length_take]; omega), List.getElem?_take_of_lt (by omega), List.getElem?_eq_getElem hm]
  simp [hs, this, hitV]
theorem r104 (o : Option (List Hit)) (hl : (lst o).length ≤ 4000000) : res T 104 [slV 2 hitV o] = some (slV 2 hitV (optH (srt (lst o)))) := by
  refine run_res (run_pure (fn := g104) rfl rfl (by decide) ?_)
  simp only [g104, b104, oO, oN, mV, lD, gO, pP, qQ, cI, aR]
  simp +contextual -implicitDefEqProofs (maxSteps := 2000000) only [↓wP, wQ, wQ1, wQ2, wQ3, wR, boxE, partsOf, ↓reduceIte, Nat.reduceEqDiff, Nat.reduceAdd, Nat.reduceSub, Nat.reduceLeDiff, Nat.reduceLT, Nat.reduceMul, reduceCtorEq, Int.reduceBNe, Int.reduceBEq, Int.reduceLT, Int.reduceLE, Int.reduceGT]
  refine WC_for (lst o).length 0 (fun (j : Nat) env σ n => env 8 = slV 2 hitV o ∧ Pl σ 0 n 2 (env 3) (oH (srt ((lst o).take j)))) (by omega) (by decide) (by decide) (fun _ _ => rfl) (fun _ _ _ => rfl) ?_ ?_ _ _ _ rfl rfl ?_
  · intro j env σ n hj h1 h2 ⟨h3, h4⟩
    simp only [vl_tmp] at h2
    have hx : (lst o)[j]? = some (lst o)[j] := List.getElem?_eq_getElem hj
    have ht : srt ((lst o).take (j + 1)) = ins (lst o)[j] (srt ((lst o).take j)) := by rw [← List.take_append_getElem hj, srt_snoc]
    have hsl : (srt ((lst o).take j)).length = j := by rw [srt_len, List.length_take]; omega
    generalize (lst o)[j] = h at *
    generalize srt ((lst o).take j) = s at *
    generalize hv3 : env 3 = v3 at h4
    obtain ⟨σ1, hσ1⟩ : ∃ σ1, σ1 = upd (upd σ n (some (.row 2 [.agg [.int .u64 0, .int .u64 0]]))) n (some (.row 2 [.agg [.int .u64 h.id, .int .u64 h.d]])) := ⟨_, rfl⟩
    have sn : σ1 n = some (.row 2 [.agg [.int .u64 h.id, .int .u64 h.d]]) := by rw [hσ1]; simp [upd]
    have so : ∀ i, 0 ≤ i → i < n → σ1 i = σ i := fun i _ hi => by
      have : i ≠ n := by omega
      rw [hσ1]; simp [upd, this]
    have hp1 : Pl σ1 0 n 2 v3 (oH s) := h4.loc so (Nat.le_refl _)
    have hlen := plLen hp1
    simp +contextual -implicitDefEqProofs (maxSteps := 2000000) only [↓wP, wQ, wQ1, wQ2, wQ3, wR, boxE, partsOf, ↓reduceIte, Nat.reduceEqDiff, Nat.reduceAdd, Nat.reduceSub, Nat.reduceLeDiff, Nat.reduceLT, Nat.reduceMul, reduceCtorEq, Int.reduceBNe, Int.reduceBEq, Int.reduceLT, Int.reduceLE, Int.reduceGT, h1, h2, h3, hv3, hx, hitV_eq, ← hσ1]
    refine WC_loopE 2 0 (fun (at' : Nat) env σ' n' => σ' = σ1 ∧ n' = n + 1 ∧ env 8 = slV 2 hitV o ∧ env 9 = .int .i64 ((lst o).length : Int) ∧ env 10 = .int .i64 (j : Int) ∧ env 3 = v3 ∧ env 5 = .ptr n 2 0 0 ∧ env 6 = .int .i64 (at' : Int) ∧ at' ≤ pos h s) (fun at' => s.length - at')
      (fun env σ' n' => σ' = σ1 ∧ n' = n + 1 ∧ env 8 = slV 2 hitV o ∧ env 9 = .int .i64 ((lst o).length : Int) ∧ env 10 = .int .i64 (j : Int) ∧ env 3 = v3 ∧ env 5 = .ptr n 2 0 0 ∧ env 6 = .int .i64 (pos h s : Int)) ?_ ?_ 0 _ _ _ ?_
    · clear h1 h2 h3 hv3
      intro at' env σ' n' ⟨k1, k2, k3, k4, k5, k6, k7, k8, k9⟩
      subst k1 k2
      have hple := pos_le h s
      by_cases hat : at' < s.length
      · have hat' : (at' : Int) < (s.length : Int) := by omega
        have hne : s ≠ [] := by intro e; rw [e] at hat; simp at hat
        obtain ⟨i, rfl, r1, r2, r3⟩ := plRefs hp1 hne
        have xg := hs_get hat
        by_cases hlt : at' < pos h s
        · have hah := pos_lt hlt hat
          have wi : IntKind.i64.wrap ((at' : Int) + 1) = ((at' + 1 : Nat) : Int) := by rw [wrap_i64] <;> omega
          have e29 : ahead ⟨h.id, h.d⟩ ⟨s[at'].id, s[at'].d⟩ = false := hah
          simp +contextual -implicitDefEqProofs (maxSteps := 2000000) only [↓wP, wQ, wQ1, wQ2, wQ3, wR, boxE, partsOf, ↓reduceIte, Nat.reduceEqDiff, Nat.reduceAdd, Nat.reduceSub, Nat.reduceLeDiff, Nat.reduceLT, Nat.reduceMul, reduceCtorEq, Int.reduceBNe, Int.reduceBEq, Int.reduceLT, Int.reduceLE, Int.reduceGT, exQ_exit, k3, k4, k5, k6, k7, k8, hat, hat', sn, r1, xg, f117, e29, wi]
          exact ⟨at' + 1, by omega, rfl, by omega⟩
        · have e : at' = pos h s := by omega
          subst e
          have e29 : ahead ⟨h.id, h.d⟩ ⟨s[pos h s].id, s[pos h s].d⟩ = true := pos_at hat
          simp +contextual -implicitDefEqProofs (maxSteps := 2000000) only [↓wP, wQ, wQ1, wQ2, wQ3, wR, boxE, partsOf, ↓reduceIte, Nat.reduceEqDiff, Nat.reduceAdd, Nat.reduceSub, Nat.reduceLeDiff, Nat.reduceLT, Nat.reduceMul, reduceCtorEq, Int.reduceBNe, Int.reduceBEq, Int.reduceLT, Int.reduceLE, Int.reduceGT, exQ_exit, k3, k4, k5, k6, k7, k8, hat, hat', sn, r1, xg, f117, e29]
      · have hat' : ¬ (at' : Int) < (s.length : Int) := by omega
        have e : at' = pos h s := by omega
        simp +contextual -implicitDefEqProofs (maxSteps := 2000000) only [↓wP, wQ, wQ1, wQ2, wQ3, wR, boxE, partsOf, ↓reduceIte, Nat.reduceEqDiff, Nat.reduceAdd, Nat.reduceSub, Nat.reduceLeDiff, Nat.reduceLT, Nat.reduceMul, reduceCtorEq, Int.reduceBNe, Int.reduceBEq, Int.reduceLT, Int.reduceLE, Int.reduceGT, exQ_exit, k3, k4, k5, k6, k7, k8, hlen, hat']
        rw [e]
    · clear h1 h2 h3 hv3
      intro env σ' n' ⟨k1, k2, h8, h9, h10, h3, h5, h6⟩
      subst k1 k2
      have hple := pos_le h s
      simp +contextual -implicitDefEqProofs (maxSteps := 2000000) only [↓wP, wQ, wQ1, wQ2, wQ3, wR, boxE, partsOf, ↓reduceIte, Nat.reduceEqDiff, Nat.reduceAdd, Nat.reduceSub, Nat.reduceLeDiff, Nat.reduceLT, Nat.reduceMul, reduceCtorEq, Int.reduceBNe, Int.reduceBEq, Int.reduceLT, Int.reduceLE, Int.reduceGT, h8, h9, h10, h3, h5, h6, sn]
      refine stepW_app1 (m := 0) (n0 := n) (σ0 := σ') (o := oH s) hp1 (fun i _ hi => ?_) (by omega) (by omega) (Nat.le_refl _) ?_ (fun _ σ2 q1 q2 => ?_)
      · have a1 : i ≠ n + 1 := by omega
        simp [upd, a1]
      · rw [lst_oH, hs_len]; unfold LIM; omega
      · rw [lst_oH, hs_len] at q1 ⊢
        have hrow : σ2 (n + 2) = some (.row 2 (hs (mv s h s.length))) := by
          obtain ⟨i, e1, e2, -⟩ := q1
          simp only [V.ref.injEq] at e1
          rw [e1.1, e2, mv_end]
          simp [hs, hitV]
        have w1 : IntKind.i64.wrap (((s.length + 1 : Nat) : Int) - 1) = (s.length : Int) := by rw [wrap_i64] <;> omega
        simp +contextual -implicitDefEqProofs (maxSteps := 2000000) only [↓wP, wQ, wQ1, wQ2, wQ3, wR, boxE, partsOf, ↓reduceIte, Nat.reduceEqDiff, Nat.reduceAdd, Nat.reduceSub, Nat.reduceLeDiff, Nat.reduceLT, Nat.reduceMul, reduceCtorEq, Int.reduceBNe, Int.reduceBEq, Int.reduceLT, Int.reduceLE, Int.reduceGT, h8, h9, h10, h3, h5, h6, w1]
        refine WC_loopE 4 0 (fun (k : Nat) env σ' n' => n' = n + 2 + 1 ∧ env 8 = slV 2 hitV o ∧ env 9 = .int .i64 ((lst o).length : Int) ∧ env 10 = .int .i64 (j : Int) ∧ env 3 = .ref (n + 2) 0 (s.length + 1) 2 ∧ env 6 = .int .i64 (pos h s : Int) ∧ env 7 = .int .i64 (k : Int) ∧
            pos h s ≤ k ∧ k ≤ s.length ∧ σ' (n + 2) = some (.row 2 (hs (mv s h k)))) (fun k => k)
          (fun env σ' n' => n' = n + 2 + 1 ∧ env 8 = slV 2 hitV o ∧ env 9 = .int .i64 ((lst o).length : Int) ∧ env 10 = .int .i64 (j : Int) ∧ env 3 = .ref (n + 2) 0 (s.length + 1) 2 ∧ σ' (n + 2) = some (.row 2 (hs (mv s h (pos h s))))) ?_ ?_ s.length _ _ _ ?_
        · clear h8 h9 h10 h3 h5 h6 hrow q1 q2
          intro k env σ3 n3 ⟨k1, k2, k3, k4, k5, k6, k7, k8, k9, k10⟩
          subst k1
          by_cases hlt : pos h s < k
          · have hlt' : (pos h s : Int) < (k : Int) := by omega
            obtain ⟨m, rfl⟩ : ∃ m, k = m + 1 := ⟨k - 1, by omega⟩
            have hm : m < s.length := by omega
            have wk : IntKind.i64.wrap (((m + 1 : Nat) : Int) - 1) = (m : Int) := by rw [wrap_i64] <;> omega
            have g0 := mv_get0 s h (m + 1) k9
            have g1 := mv_get1 s h m hm
            have l1 : m + 1 < s.length + 1 := by omega
            have l2 : m < s.length + 1 := by omega
            obtain ⟨u, v, g2⟩ := hs_set_at (l := mv s h (m + 1)) (i := m + 1) (j := m) (x := s[m]) (by rw [mv_len]; omega)
            have ms := mv_step s h m hm
            simp +contextual -implicitDefEqProofs (maxSteps := 2000000) only [↓wP, wQ, wQ1, wQ2, wQ3, wR, boxE, partsOf, ↓reduceIte, Nat.reduceEqDiff, Nat.reduceAdd, Nat.reduceSub, Nat.reduceLeDiff, Nat.reduceLT, Nat.reduceMul, reduceCtorEq, Int.reduceBNe, Int.reduceBEq, Int.reduceLT, Int.reduceLE, Int.reduceGT, exQ_exit, k2, k3, k4, k5, k6, k7, hlt', wk, g0, g1, g2, l1, l2, k10]
            exact ⟨m, by omega, rfl, by omega, by omega, by rw [hs_set, hs_set, ms]⟩
          · have hlt' : ¬ (pos h s : Int) < (k : Int) := by omega
            have e : k = pos h s := by omega
            subst e
            simp +contextual -implicitDefEqProofs (maxSteps := 2000000) only [↓wP, wQ, wQ1, wQ2, wQ3, wR, boxE, partsOf, ↓reduceIte, Nat.reduceEqDiff, Nat.reduceAdd, Nat.reduceSub, Nat.reduceLeDiff, Nat.reduceLT, Nat.reduceMul, reduceCtorEq, Int.reduceBNe, Int.reduceBEq, Int.reduceLT, Int.reduceLE, Int.reduceGT, exQ_exit, k2, k3, k4, k5, k6, k7, hlt']
            exact k10
        · clear h8 h9 h10 h3 h5 h6 hrow q1 q2
          intro env σ3 n3 ⟨k1, k2, k3, k4, k5, k6⟩
          subst k1
          simp +contextual -implicitDefEqProofs (maxSteps := 2000000) only [↓wP, wQ, wQ1, wQ2, wQ3, wR, boxE, partsOf, ↓reduceIte, Nat.reduceEqDiff, Nat.reduceAdd, Nat.reduceSub, Nat.reduceLeDiff, Nat.reduceLT, Nat.reduceMul, reduceCtorEq, Int.reduceBNe, Int.reduceBEq, Int.reduceLT, Int.reduceLE, Int.reduceGT, k2, k3, k4, k5]
          rw [ht, ins_eq]
          have e : s.length + 1 = (s.take (pos h s) ++ h :: s.drop (pos h s)).length := by rw [← mv_len s h (pos h s)]; rfl
          rw [e]
          exact plOf (by simp) k6 (by omega) (by omega)
        · simp +contextual -implicitDefEqProofs (maxSteps := 2000000) only [↓wP, wQ, wQ1, wQ2, wQ3, wR, boxE, partsOf, ↓reduceIte, Nat.reduceEqDiff, Nat.reduceAdd, Nat.reduceSub, Nat.reduceLeDiff, Nat.reduceLT, Nat.reduceMul, reduceCtorEq, Int.reduceBNe, Int.reduceBEq, Int.reduceLT, Int.reduceLE, Int.reduceGT, h8, h9, h10, h3, h6]
          exact ⟨hple, hrow⟩
    · simp +contextual -implicitDefEqProofs (maxSteps := 2000000) only [↓wP, wQ, wQ1, wQ2, wQ3, wR, boxE, partsOf, ↓reduceIte, Nat.reduceEqDiff, Nat.reduceAdd, Nat.reduceSub, Nat.reduceLeDiff, Nat.reduceLT, Nat.reduceMul, reduceCtorEq, Int.reduceBNe, Int.reduceBEq, Int.reduceLT, Int.reduceLE, Int.reduceGT, h1, h2, h3, hv3]
      rfl
  · intro env σ n ⟨h3, h4⟩ h1 h2
    rw [List.take_length] at h4
    have hf := plHf h4
    simp +contextual -implicitDefEqProofs (maxSteps := 2000000) only [↓wP, wQ, wQ1, wQ2, wQ3, wR, boxE, partsOf, ↓reduceIte, Nat.reduceEqDiff, Nat.reduceAdd, Nat.reduceSub, Nat.reduceLeDiff, Nat.reduceLT, Nat.reduceMul, reduceCtorEq, Int.reduceBNe, Int.reduceBEq, Int.reduceLT, Int.reduceLE, Int.reduceGT, hf]
  · simp +contextual -implicitDefEqProofs (maxSteps := 2000000) only [↓wP, wQ, wQ1, wQ2, wQ3, wR, boxE, partsOf, ↓reduceIte, Nat.reduceEqDiff, Nat.reduceAdd, Nat.reduceSub, Nat.reduceLeDiff, Nat.reduceLT, Nat.reduceMul, reduceCtorEq, Int.reduceBNe, Int.reduceBEq, Int.reduceLT, Int.reduceLE, Int.reduceGT]
    simp [oH, srt, Pl]
theorem f104 (o : Option (List Hit)) (hl : (lst o).length ≤ 4000000) (fs : Bool) (σ : Sto) (n lk : Nat) : callE T fs 104 [slV 2 hitV o] σ n lk = some (slV 2 hitV (optH (srt (lst o))), σ, n) :=
  callE_tr (by decide) (r104 o hl) (by simp [Tr, Tr_slV]) (Nw_slV 2 hitV _ 11) fs σ n lk
def refF (k : Nat) (l : List Hit) : Option (List Hit) := sub (optH (srt l)) 0 (min k l.length)
theorem lst_refF (k : Nat) (l : List Hit) : lst (refF k l) = fst' k l := by
  unfold refF
  rw [lst_sub, lst_optH, List.drop_zero, fst']
  rcases Nat.le_total k l.length with h | h
  · rw [Nat.min_eq_left h]
  · rw [Nat.min_eq_right h, List.take_of_length_le (by rw [srt_len]; exact Nat.le_refl _), List.take_of_length_le (by rw [srt_len]; exact h)]
theorem r68 (o : Option (List Hit)) (k : Nat) (hl : (lst o).length ≤ 4000000) (hk : k < 9223372036854775808) : res T 68 [slV 2 hitV o, .int .i64 (k : Int)] = some (slV 2 hitV (refF k (lst o))) := by
  refine run_res (run_pure (fn := g68) rfl rfl (by decide) ?_)
  simp only [g68, b68, oO, oN, mV, lD, gO, pP, qQ, cI, aR]
  have hmin : minV (.int .i64 (k : Int)) (.int .i64 ((lst o).length : Int)) = some (.int .i64 ((min k (lst o).length : Nat) : Int)) := by
    rw [minV_int]
    congr 2
    split <;> omega
  have h1 : min k (lst o).length ≤ (lst o).length := Nat.min_le_right _ _
  have h2 := f104 o hl
  have h3 : (lst (optH (srt (lst o)))).length = (lst o).length := by rw [lst_optH, srt_len]
  simp +contextual -implicitDefEqProofs (maxSteps := 2000000) only [↓wP, wQ, wQ1, wQ2, wQ3, wR, boxE, partsOf, ↓reduceIte, Nat.reduceEqDiff, Nat.reduceAdd, Nat.reduceSub, Nat.reduceLeDiff, Nat.reduceLT, Nat.reduceMul, reduceCtorEq, Int.reduceBNe, Int.reduceBEq, Int.reduceLT, Int.reduceLE, Int.reduceGT, h2, h3, hmin, h1]
  rfl
theorem r11 (a b : Option (List Hit)) (hl : (lst a).length < 9223372036854775808) : res T 11 [slV 2 hitV a, slV 2 hitV b] = some (.bool (decide (lst a = lst b))) := by
  refine run_res (run_pure (fn := g11) rfl rfl (by decide) ?_)
  simp only [g11, b11, oO, oN, mV, lD, gO, pP, qQ, cI, aR]
  by_cases hlen : (lst a).length = (lst b).length
  · have hd : (((lst a).length : Int) != ((lst b).length : Int)) = false := by simp [hlen]
    simp +contextual -implicitDefEqProofs (maxSteps := 2000000) only [↓wP, wQ, wQ1, wQ2, wQ3, wR, boxE, partsOf, ↓reduceIte, Nat.reduceEqDiff, Nat.reduceAdd, Nat.reduceSub, Nat.reduceLeDiff, Nat.reduceLT, Nat.reduceMul, reduceCtorEq, Int.reduceBNe, Int.reduceBEq, Int.reduceLT, Int.reduceLE, Int.reduceGT, hd]
    refine WC_for (lst a).length 0 (fun (j : Nat) env σ n => env 0 = slV 2 hitV a ∧ env 1 = slV 2 hitV b ∧ (lst a).take j = (lst b).take j) hl (by decide) (by decide) (fun _ _ => rfl) (fun _ _ _ => rfl) ?_ ?_ _ _ _ rfl rfl ?_
    · intro j env σ n hj h1 h2 ⟨h3, h4, h5⟩
      simp only [vl_tmp] at h2
      have hx : (lst a)[j]? = some (lst a)[j] := List.getElem?_eq_getElem hj
      have hy : (lst b)[j]? = some (lst b)[j] := List.getElem?_eq_getElem (by omega)
      have ta := (List.take_append_getElem hj).symm
      have tb := (List.take_append_getElem (l := lst b) (i := j) (by omega)).symm
      generalize (lst a)[j] = x at *
      generalize (lst b)[j] = y at *
      by_cases hxy : x = y
      · have hde : decide ((⟨x.id, x.d⟩ : Hit) = ⟨y.id, y.d⟩) = true := by simp [hxy]
        simp +contextual -implicitDefEqProofs (maxSteps := 2000000) only [↓wP, wQ, wQ1, wQ2, wQ3, wR, boxE, partsOf, ↓reduceIte, Nat.reduceEqDiff, Nat.reduceAdd, Nat.reduceSub, Nat.reduceLeDiff, Nat.reduceLT, Nat.reduceMul, reduceCtorEq, Int.reduceBNe, Int.reduceBEq, Int.reduceLT, Int.reduceLE, Int.reduceGT, h1, h2, h3, h4, hx, hy, hitV_eq, eqc_hit, hde, Bool.bne_true]
        rw [ta, tb, h5, hxy]
      · have hde : decide ((⟨x.id, x.d⟩ : Hit) = ⟨y.id, y.d⟩) = false := decide_eq_false hxy
        have hne : lst a ≠ lst b := by
          intro h
          rw [h] at hx
          exact hxy (Option.some.inj (hx.symm.trans hy))
        simp +contextual -implicitDefEqProofs (maxSteps := 2000000) only [↓wP, wQ, wQ1, wQ2, wQ3, wR, boxE, partsOf, ↓reduceIte, Nat.reduceEqDiff, Nat.reduceAdd, Nat.reduceSub, Nat.reduceLeDiff, Nat.reduceLT, Nat.reduceMul, reduceCtorEq, Int.reduceBNe, Int.reduceBEq, Int.reduceLT, Int.reduceLE, Int.reduceGT, h1, h2, h3, h4, hx, hy, hitV_eq, eqc_hit, hde, Bool.bne_true, hne]
    · intro env σ n ⟨h3, h4, h5⟩ h1 h2
      have heq := take_eq hlen h5
      simp +contextual -implicitDefEqProofs (maxSteps := 2000000) only [↓wP, wQ, wQ1, wQ2, wQ3, wR, boxE, partsOf, ↓reduceIte, Nat.reduceEqDiff, Nat.reduceAdd, Nat.reduceSub, Nat.reduceLeDiff, Nat.reduceLT, Nat.reduceMul, reduceCtorEq, Int.reduceBNe, Int.reduceBEq, Int.reduceLT, Int.reduceLE, Int.reduceGT, heq]
    · simp +contextual -implicitDefEqProofs (maxSteps := 2000000) only [↓wP, wQ, wQ1, wQ2, wQ3, wR, boxE, partsOf, ↓reduceIte, Nat.reduceEqDiff, Nat.reduceAdd, Nat.reduceSub, Nat.reduceLeDiff, Nat.reduceLT, Nat.reduceMul, reduceCtorEq, Int.reduceBNe, Int.reduceBEq, Int.reduceLT, Int.reduceLE, Int.reduceGT]
  · have hd : (((lst a).length : Int) != ((lst b).length : Int)) = true := by simp; omega
    have hne : lst a ≠ lst b := fun h => hlen (by rw [h])
    simp +contextual -implicitDefEqProofs (maxSteps := 2000000) only [↓wP, wQ, wQ1, wQ2, wQ3, wR, boxE, partsOf, ↓reduceIte, Nat.reduceEqDiff, Nat.reduceAdd, Nat.reduceSub, Nat.reduceLeDiff, Nat.reduceLT, Nat.reduceMul, reduceCtorEq, Int.reduceBNe, Int.reduceBEq, Int.reduceLT, Int.reduceLE, Int.reduceGT, hd, hne]
theorem f11 {σ : Sto} {v w : V} {a b : List Hit} (ha : Hf σ v a) (hb : Hf σ w b) (hl : a.length < 9223372036854775808) (fs : Bool) (n lk : Nat) : callE T fs 11 [v, w] σ n lk = some (.bool (decide (a = b)), σ, n) := by
  obtain ⟨o, rfl, h1⟩ := ha
  obtain ⟨q, rfl, h2⟩ := hb
  have e : [v, w].mapM (frz σ 12) = some [slV 2 hitV o, slV 2 hitV q] := by simp only [List.mapM_cons, List.mapM_nil, h1, h2]; rfl
  rw [callE_flat (by decide) e (r11 o q hl) rfl]; rfl
end Go.Q.SZ
end

section
/- Small functions of seat 08. -/
set_option linter.unusedSimpArgs false
set_option linter.unusedVariables false
namespace Go.Q.SZ
open Go.Q
def i32V (x : Int) : V := .int .i32 x
def okI (x : Int) : Bool := decide (-1073741823 ≤ x) && decide (x ≤ 1073741823)
theorem r80 (x : Int) : res T 80 [.int .i32 x] = some (.bool (!okI x)) := by
  refine run_res (run_pure (fn := g80) rfl rfl (by decide) ?_)
  simp only [g80, b80, oO, oN, mV, lD, gO, pP, qQ, cI, aR]
  simp +contextual -implicitDefEqProofs (maxSteps := 2000000) only [↓wP, wQ, wQ1, wQ2, wQ3, wR, boxE, partsOf, ↓reduceIte, Nat.reduceEqDiff, Nat.reduceAdd, Nat.reduceSub, Nat.reduceLeDiff, Nat.reduceLT, Nat.reduceMul, reduceCtorEq, Int.reduceBNe, Int.reduceBEq, Int.reduceLT, Int.reduceLE, Int.reduceGT]
  simp only [okI, Option.some.injEq, V.bool.injEq, Bool.not_and]
  congr 1 <;> simp only [← decide_not, Int.not_le]
theorem f80 (x : Int) (fs : Bool) (σ : Sto) (n lk : Nat) : callE T fs 80 [.int .i32 x] σ n lk = some (.bool (!okI x), σ, n) :=
  callE_tr (by decide) (r80 x) (by simp [Tr, Tr_slV]) rfl fs σ n lk
def idxF {α : Type} (p : α → Bool) (l : List α) : Int := match l.findIdx? p with
  | some i => i
  | none => -1
theorem r110 (o : Option (List Int)) (F : Nat) (caps : List V) (p : Int → Bool) (hl : (lst o).length < 9223372036854775808)     (hp : ∀ x fs σ n lk, callE T fs F (i32V x :: caps) σ n lk = some (.bool (p x), σ, n)) : res T 110 [slV 1 i32V o, .fn F caps] = some (.int .i64 (idxF p (lst o))) := by
  refine run_res (run_pure (fn := g110) rfl rfl (by decide) ?_)
  simp only [g110, b110, oO, oN, mV, lD, gO, pP, qQ, cI, aR]
  simp +contextual -implicitDefEqProofs (maxSteps := 2000000) only [↓wP, wQ, wQ1, wQ2, wQ3, wR, boxE, partsOf, ↓reduceIte, Nat.reduceEqDiff, Nat.reduceAdd, Nat.reduceSub, Nat.reduceLeDiff, Nat.reduceLT, Nat.reduceMul, reduceCtorEq, Int.reduceBNe, Int.reduceBEq, Int.reduceLT, Int.reduceLE, Int.reduceGT]
  refine WC_for (lst o).length 0 (fun (j : Nat) env _ _ => env 0 = slV 1 i32V o ∧ env 1 = .fn F caps ∧ (lst o).findIdx? p = (((lst o).drop j).findIdx? p).map (· + j)) (by omega) (by decide) (by decide) (fun _ _ => rfl) (fun _ _ _ => rfl) ?_ ?_ _ _ _ rfl rfl ?_
  · intro j env σ n hj h1 h2 ⟨h3, h4, h5⟩
    simp only [vl_tmp] at h2
    have hx : (lst o)[j]? = some (lst o)[j] := List.getElem?_eq_getElem hj
    have hp' := hp (lst o)[j]
    simp only [i32V] at hp'
    simp +contextual -implicitDefEqProofs (maxSteps := 2000000) only [↓wP, wQ, wQ1, wQ2, wQ3, wR, boxE, partsOf, ↓reduceIte, Nat.reduceEqDiff, Nat.reduceAdd, Nat.reduceSub, Nat.reduceLeDiff, Nat.reduceLT, Nat.reduceMul, reduceCtorEq, Int.reduceBNe, Int.reduceBEq, Int.reduceLT, Int.reduceLE, Int.reduceGT, h1, h2, h3, h4, hx, i32V, hp']
    rw [List.drop_eq_getElem_cons hj, List.findIdx?_cons] at h5
    refine condC_split (fun hb => ?_) (fun hb => ?_)
    · simp +contextual -implicitDefEqProofs (maxSteps := 2000000) only [↓wP, wQ, wQ1, wQ2, wQ3, wR, boxE, partsOf, ↓reduceIte, Nat.reduceEqDiff, Nat.reduceAdd, Nat.reduceSub, Nat.reduceLeDiff, Nat.reduceLT, Nat.reduceMul, reduceCtorEq, Int.reduceBNe, Int.reduceBEq, Int.reduceLT, Int.reduceLE, Int.reduceGT]
      simp [idxF, h5, hb]
    · simp +contextual -implicitDefEqProofs (maxSteps := 2000000) only [↓wP, wQ, wQ1, wQ2, wQ3, wR, boxE, partsOf, ↓reduceIte, Nat.reduceEqDiff, Nat.reduceAdd, Nat.reduceSub, Nat.reduceLeDiff, Nat.reduceLT, Nat.reduceMul, reduceCtorEq, Int.reduceBNe, Int.reduceBEq, Int.reduceLT, Int.reduceLE, Int.reduceGT, h1, h2, h3, h4]
      rw [h5, hb]
      simp only [Bool.false_eq_true, if_false, Option.map_map, Function.comp_def]
      congr 1; funext i; omega
  · intro env σ n ⟨h3, h4, h5⟩ h1 h2
    simp +contextual -implicitDefEqProofs (maxSteps := 2000000) only [↓wP, wQ, wQ1, wQ2, wQ3, wR, boxE, partsOf, ↓reduceIte, Nat.reduceEqDiff, Nat.reduceAdd, Nat.reduceSub, Nat.reduceLeDiff, Nat.reduceLT, Nat.reduceMul, reduceCtorEq, Int.reduceBNe, Int.reduceBEq, Int.reduceLT, Int.reduceLE, Int.reduceGT]
    simp [idxF, h5]
  · exact ⟨rfl, rfl, by simp⟩
theorem idxF_any {α : Type} (p : α → Bool) (l : List α) : decide (0 ≤ idxF p l) = l.any p := by
  unfold idxF
  cases h : l.findIdx? p with
  | none =>
    simp only [List.findIdx?_eq_none_iff] at h
    simp only [Int.reduceNeg, Int.reduceLE, decide_false]
    exact (List.any_eq_false.2 fun x hx => by simp [h x hx]).symm
  | some i =>
    simp only [List.findIdx?_eq_some_iff_getElem] at h
    obtain ⟨h, h1, -⟩ := h
    simp only [Int.natCast_nonneg, decide_true]
    exact (List.any_eq_true.2 ⟨_, List.getElem_mem h, h1⟩).symm
theorem r81 (o : Option (List Int)) (hl : (lst o).length < 9223372036854775808) : res T 81 [slV 1 i32V o, .fn 80 []] = some (.bool ((lst o).any fun x => !okI x)) := by
  refine run_res (run_pure (fn := g81) rfl rfl (by decide) ?_)
  simp only [g81, b81, oO, oN, mV, lD, gO, pP, qQ, cI, aR]
  have h := r110 o 80 [] (fun x => !okI x) hl (fun x fs σ n lk => f80 x fs σ n lk)
  have hm : T.mode 110 ≠ .raw := by decide
  simp +contextual -implicitDefEqProofs (maxSteps := 2000000) only [↓wP, wQ, wQ1, wQ2, wQ3, wR, boxE, partsOf, ↓reduceIte, Nat.reduceEqDiff, Nat.reduceAdd, Nat.reduceSub, Nat.reduceLeDiff, Nat.reduceLT, Nat.reduceMul, reduceCtorEq, Int.reduceBNe, Int.reduceBEq, Int.reduceLT, Int.reduceLE, Int.reduceGT, h, callE_eq hm, idxF_any]
theorem f81 (o : Option (List Int)) (hl : (lst o).length < 9223372036854775808) (fs : Bool) (σ : Sto) (n lk : Nat) : callE T fs 81 [slV 1 i32V o, .fn 80 []] σ n lk = some (.bool ((lst o).any fun x => !okI x), σ, n) :=
  callE_tr (by decide) (r81 o hl) (by simp [Tr, Tr_slV]) rfl fs σ n lk
def okV (o : Option (List Int)) : Bool := decide (0 < (lst o).length) && decide ((lst o).length ≤ 4) && (lst o).all okI
theorem r46 (o : Option (List Int)) (hl : (lst o).length < 9223372036854775808) : res T 46 [slV 1 i32V o] = some (.int .i64 (if okV o then 0 else 150)) := by
  refine run_res (run_pure (fn := g46) rfl rfl (by decide) ?_)
  simp only [g46, b46, oO, oN, mV, lD, gO, pP, qQ, cI, aR]
  have h := f81 o hl
  simp +contextual -implicitDefEqProofs (maxSteps := 2000000) only [↓wP, wQ, wQ1, wQ2, wQ3, wR, boxE, partsOf, ↓reduceIte, Nat.reduceEqDiff, Nat.reduceAdd, Nat.reduceSub, Nat.reduceLeDiff, Nat.reduceLT, Nat.reduceMul, reduceCtorEq, Int.reduceBNe, Int.reduceBEq, Int.reduceLT, Int.reduceLE, Int.reduceGT, h]
  have hk : (decide (((lst o).length : Int) < 1) || decide (4 < ((lst o).length : Int)) || (lst o).any fun x => !okI x) = !okV o := by
    unfold okV
    rw [Bool.not_and, Bool.not_and, List.not_all_eq_any_not, ← decide_not, ← decide_not]
    congr 2 <;> exact decide_eq_decide.2 (by omega)
  rw [hk]
  cases hb : okV o <;> simp +contextual -implicitDefEqProofs (maxSteps := 2000000) only [↓wP, wQ, wQ1, wQ2, wQ3, wR, boxE, partsOf, ↓reduceIte, Nat.reduceEqDiff, Nat.reduceAdd, Nat.reduceSub, Nat.reduceLeDiff, Nat.reduceLT, Nat.reduceMul, reduceCtorEq, Int.reduceBNe, Int.reduceBEq, Int.reduceLT, Int.reduceLE, Int.reduceGT]
theorem f46 (o : Option (List Int)) (hl : (lst o).length < 9223372036854775808) (fs : Bool) (σ : Sto) (n lk : Nat) : callE T fs 46 [slV 1 i32V o] σ n lk = some (.int .i64 (if okV o then 0 else 150), σ, n) :=
  callE_tr (by decide) (r46 o hl) (by simp [Tr, Tr_slV]) rfl fs σ n lk
end Go.Q.SZ
end

section
/- More functions of seat 08: equality, what may be, last traces. -/
set_option linter.unusedSimpArgs false
set_option linter.unusedVariables false
namespace Go.Q.SZ
open Go.Q
theorem r36 (a : Option (List Int)) (ha : (lst a).length < 9223372036854775808) : res T 36 [slV 1 i32V a] = some (.bool (okV a)) := by
  refine run_res (run_pure (fn := g36) rfl rfl (by decide) ?_)
  simp only [g36, b36, oO, oN, mV, lD, gO, pP, qQ, cI, aR]
  simp +contextual -implicitDefEqProofs (maxSteps := 2000000) only [↓wP, wQ, wQ1, wQ2, wQ3, wR, boxE, partsOf, ↓reduceIte, Nat.reduceEqDiff, Nat.reduceAdd, Nat.reduceSub, Nat.reduceLeDiff, Nat.reduceLT, Nat.reduceMul, reduceCtorEq, Int.reduceBNe, Int.reduceBEq, Int.reduceLT, Int.reduceLE, Int.reduceGT]
  refine WC_loopI 0 (fun (j : Nat) env _ _ => j ≤ (lst a).length ∧ env 3 = .int .i64 (j : Int) ∧ env 0 = slV 1 i32V a ∧ (lst a).all okI = ((lst a).drop j).all okI)
    (fun j => (lst a).length - j) ?_ 0 _ _ _ ⟨Nat.zero_le _, rfl, rfl, by simp⟩
  intro j env σ n ⟨h0, h1, h3, h5⟩
  by_cases hj : j < (lst a).length
  · have hd : decide ((j : Int) < ((lst a).length : Int)) = true := by simp [hj]
    have hw : IntKind.i64.wrap ((j : Int) + 1) = ((j + 1 : Nat) : Int) := by rw [wrap_i64] <;> omega
    have hx : (lst a)[j]? = some (lst a)[j] := List.getElem?_eq_getElem hj
    rw [List.drop_eq_getElem_cons hj, List.all_cons] at h5
    simp +contextual -implicitDefEqProofs (maxSteps := 2000000) only [↓wP, wQ, wQ1, wQ2, wQ3, wR, boxE, partsOf, ↓reduceIte, Nat.reduceEqDiff, Nat.reduceAdd, Nat.reduceSub, Nat.reduceLeDiff, Nat.reduceLT, Nat.reduceMul, reduceCtorEq, Int.reduceBNe, Int.reduceBEq, Int.reduceLT, Int.reduceLE, Int.reduceGT, h1, h3, hx, i32V, hd]
    refine condC_split (fun hb => ?_) (fun hb => ?_)
    · have e1 : okI (lst a)[j] = false := by simp [okI] at hb ⊢; omega
      rw [e1, Bool.false_and] at h5
      have h6 : okV a = false := by simp [okV, h5]
      simp +contextual -implicitDefEqProofs (maxSteps := 2000000) only [↓wP, wQ, wQ1, wQ2, wQ3, wR, boxE, partsOf, ↓reduceIte, Nat.reduceEqDiff, Nat.reduceAdd, Nat.reduceSub, Nat.reduceLeDiff, Nat.reduceLT, Nat.reduceMul, reduceCtorEq, Int.reduceBNe, Int.reduceBEq, Int.reduceLT, Int.reduceLE, Int.reduceGT, h6]
    · have e1 : okI (lst a)[j] = true := by simp [okI] at hb ⊢; omega
      rw [e1, Bool.true_and] at h5
      simp +contextual -implicitDefEqProofs (maxSteps := 2000000) only [↓wP, wQ, wQ1, wQ2, wQ3, wR, boxE, partsOf, ↓reduceIte, Nat.reduceEqDiff, Nat.reduceAdd, Nat.reduceSub, Nat.reduceLeDiff, Nat.reduceLT, Nat.reduceMul, reduceCtorEq, Int.reduceBNe, Int.reduceBEq, Int.reduceLT, Int.reduceLE, Int.reduceGT, h1, h3, hw]
      exact ⟨j + 1, by omega, by omega, rfl, h5⟩
  · have hd : decide ((j : Int) < ((lst a).length : Int)) = false := by simp; omega
    have e1 : (lst a).drop j = [] := by rw [List.drop_eq_nil_iff]; omega
    rw [e1, List.all_nil] at h5
    have h6 : okV a = (decide (1 ≤ ((lst a).length : Int)) && decide (((lst a).length : Int) ≤ 4)) := by
      unfold okV
      rw [h5, Bool.and_true]
      congr 1 <;> exact decide_eq_decide.2 (by omega)
    simp +contextual -implicitDefEqProofs (maxSteps := 2000000) only [↓wP, wQ, wQ1, wQ2, wQ3, wR, boxE, partsOf, ↓reduceIte, Nat.reduceEqDiff, Nat.reduceAdd, Nat.reduceSub, Nat.reduceLeDiff, Nat.reduceLT, Nat.reduceMul, reduceCtorEq, Int.reduceBNe, Int.reduceBEq, Int.reduceLT, Int.reduceLE, Int.reduceGT, h1, h3, hd, h6]
theorem f36 (a : Option (List Int)) (ha : (lst a).length < 9223372036854775808) (fs : Bool) (σ : Sto) (n lk : Nat) : callE T fs 36 [slV 1 i32V a] σ n lk = some (.bool (okV a), σ, n) :=
  callE_tr (by decide) (r36 a ha) (by simp [Tr, Tr_slV]) rfl fs σ n lk
end Go.Q.SZ
end

section
/- Distances. -/
set_option linter.unusedSimpArgs false
set_option linter.unusedVariables false
namespace Go.Q.SZ
open Go.Q
def vecV (o : Option (List Int)) : V := slV 1 i32V o
theorem vecV_eq (o : Option (List Int)) : vecV o = slV 1 i32V o := rfl
theorem ia1 {β : Type} (sz : Nat) (f : β → V) (o : Option (List β)) (k : IntKind) : iaddrE sz (slV sz f o) (.int k 1) = ((lst o)[1]?).map fun e => .box (f e).cells := iaddrE_slV sz f o k 1
theorem r108 (v a b : Option (List Int)) : res T 108 [slV 1 i32V v, .box [slV 1 vecV (some [a, b])]] = some (.bool (((lst v).length : Int) != ((lst a).length : Int))) := by
  refine run_res (run_pure (fn := g108) rfl rfl (by decide) ?_)
  simp only [g108, b108, oO, oN, mV, lD, gO, pP, qQ, cI, aR]
  have h0 : (lst (some [a, b]))[0]? = some a := rfl
  simp +contextual -implicitDefEqProofs (maxSteps := 2000000) only [↓wP, wQ, wQ1, wQ2, wQ3, wR, boxE, partsOf, ↓reduceIte, Nat.reduceEqDiff, Nat.reduceAdd, Nat.reduceSub, Nat.reduceLeDiff, Nat.reduceLT, Nat.reduceMul, reduceCtorEq, Int.reduceBNe, Int.reduceBEq, Int.reduceLT, Int.reduceLE, Int.reduceGT, h0, vecV_eq]
theorem f108 (v a b : Option (List Int)) (fs : Bool) (σ : Sto) (n lk : Nat) : callE T fs 108 [slV 1 i32V v, .box [slV 1 vecV (some [a, b])]] σ n lk = some (.bool (((lst v).length : Int) != ((lst a).length : Int)), σ, n) :=
  callE_tr (by decide) (r108 v a b) (by simp [Tr, Tr_slV]) rfl fs σ n lk
def vAll (a b : Option (List Int)) : Int := if okV a && okV b then (if (lst a).length = (lst b).length then 0 else 151) else 150
theorem r111 (a b : Option (List Int)) : res T 111 [slV 1 vecV (some [a, b]), .fn 108 [.box [slV 1 vecV (some [a, b])]]] = some (.int .i64 (if (lst a).length = (lst b).length then -1 else 1)) := by
  refine run_res (run_pure (fn := g111) rfl rfl (by decide) ?_)
  simp only [g111, b111, oO, oN, mV, lD, gO, pP, qQ, cI, aR]
  have h0 : (lst (some [a, b]))[0]? = some a := rfl
  have h1 : (lst (some [a, b]))[1]? = some b := rfl
  have f0 := f108 a a b
  have f1 := f108 b a b
  have e0 : (((lst a).length : Int) != ((lst a).length : Int)) = false := by simp
  rw [e0] at f0
  simp +contextual -implicitDefEqProofs (maxSteps := 2000000) only [↓wP, wQ, wQ1, wQ2, wQ3, wR, boxE, partsOf, ↓reduceIte, Nat.reduceEqDiff, Nat.reduceAdd, Nat.reduceSub, Nat.reduceLeDiff, Nat.reduceLT, Nat.reduceMul, reduceCtorEq, Int.reduceBNe, Int.reduceBEq, Int.reduceLT, Int.reduceLE, Int.reduceGT]
  refine WC_for 2 0 (fun (j : Nat) env _ _ => env 0 = slV 1 vecV (some [a, b]) ∧ env 1 = .fn 108 [.box [slV 1 vecV (some [a, b])]] ∧ (j = 2 → (lst a).length = (lst b).length)) (by decide) (by decide) (by decide) (fun _ _ => rfl) (fun _ _ _ => rfl) ?_ ?_ _ _ _ rfl rfl ?_
  · intro j env σ n hj g1 g2 ⟨g3, g4, g5⟩
    simp only [vl_tmp] at g2
    obtain rfl | rfl : j = 0 ∨ j = 1 := by omega
    · simp only [Int.natCast_zero] at g1
      simp +contextual -implicitDefEqProofs (maxSteps := 2000000) only [↓wP, wQ, wQ1, wQ2, wQ3, wR, boxE, partsOf, ↓reduceIte, Nat.reduceEqDiff, Nat.reduceAdd, Nat.reduceSub, Nat.reduceLeDiff, Nat.reduceLT, Nat.reduceMul, reduceCtorEq, Int.reduceBNe, Int.reduceBEq, Int.reduceLT, Int.reduceLE, Int.reduceGT, g1, g2, g3, g4, h0, vecV_eq, f0]
      simp
    · simp only [Int.natCast_one] at g1
      by_cases hl : (lst a).length = (lst b).length
      · have e1 : (((lst b).length : Int) != ((lst a).length : Int)) = false := by simp [hl]
        rw [e1] at f1
        simp +contextual -implicitDefEqProofs (maxSteps := 2000000) only [↓wP, wQ, wQ1, wQ2, wQ3, wR, boxE, partsOf, ↓reduceIte, Nat.reduceEqDiff, Nat.reduceAdd, Nat.reduceSub, Nat.reduceLeDiff, Nat.reduceLT, Nat.reduceMul, reduceCtorEq, Int.reduceBNe, Int.reduceBEq, Int.reduceLT, Int.reduceLE, Int.reduceGT, g1, g2, g3, g4, ia1, h1, vecV_eq, f1]
        simp [hl]
      · have e1 : (((lst b).length : Int) != ((lst a).length : Int)) = true := by simp; omega
        rw [e1] at f1
        simp +contextual -implicitDefEqProofs (maxSteps := 2000000) only [↓wP, wQ, wQ1, wQ2, wQ3, wR, boxE, partsOf, ↓reduceIte, Nat.reduceEqDiff, Nat.reduceAdd, Nat.reduceSub, Nat.reduceLeDiff, Nat.reduceLT, Nat.reduceMul, reduceCtorEq, Int.reduceBNe, Int.reduceBEq, Int.reduceLT, Int.reduceLE, Int.reduceGT, g1, g2, g3, g4, ia1, h1, vecV_eq, f1, hl]
  · intro env σ n ⟨g3, g4, g5⟩ g1 g2
    have hl := g5 rfl
    simp +contextual -implicitDefEqProofs (maxSteps := 2000000) only [↓wP, wQ, wQ1, wQ2, wQ3, wR, boxE, partsOf, ↓reduceIte, Nat.reduceEqDiff, Nat.reduceAdd, Nat.reduceSub, Nat.reduceLeDiff, Nat.reduceLT, Nat.reduceMul, reduceCtorEq, Int.reduceBNe, Int.reduceBEq, Int.reduceLT, Int.reduceLE, Int.reduceGT, hl]
  · simp +contextual -implicitDefEqProofs (maxSteps := 2000000) only [↓wP, wQ, wQ1, wQ2, wQ3, wR, boxE, partsOf, ↓reduceIte, Nat.reduceEqDiff, Nat.reduceAdd, Nat.reduceSub, Nat.reduceLeDiff, Nat.reduceLT, Nat.reduceMul, reduceCtorEq, Int.reduceBNe, Int.reduceBEq, Int.reduceLT, Int.reduceLE, Int.reduceGT]
    simp
theorem f111 (a b : Option (List Int)) (fs : Bool) (σ : Sto) (n lk : Nat) : callE T fs 111 [slV 1 vecV (some [a, b]), .fn 108 [.box [slV 1 vecV (some [a, b])]]] σ n lk = some (.int .i64 (if (lst a).length = (lst b).length then -1 else 1), σ, n) :=
  callE_tr (by decide) (r111 a b) (by simp [Tr, Tr_slV]) rfl fs σ n lk
theorem r84 (a b : Option (List Int)) : res T 84 [slV 1 vecV (some [a, b]), .fn 108 [.box [slV 1 vecV (some [a, b])]]] = some (.bool (decide ((lst a).length ≠ (lst b).length))) := by
  refine run_res (run_pure (fn := g84) rfl rfl (by decide) ?_)
  simp only [g84, b84, oO, oN, mV, lD, gO, pP, qQ, cI, aR]
  have f := f111 a b
  by_cases hl : (lst a).length = (lst b).length
  · have hd : decide ((lst a).length ≠ (lst b).length) = false := by simp [hl]
    rw [if_pos hl] at f
    simp +contextual -implicitDefEqProofs (maxSteps := 2000000) only [↓wP, wQ, wQ1, wQ2, wQ3, wR, boxE, partsOf, ↓reduceIte, Nat.reduceEqDiff, Nat.reduceAdd, Nat.reduceSub, Nat.reduceLeDiff, Nat.reduceLT, Nat.reduceMul, reduceCtorEq, Int.reduceBNe, Int.reduceBEq, Int.reduceLT, Int.reduceLE, Int.reduceGT, f, hd]
  · have hd : decide ((lst a).length ≠ (lst b).length) = true := by simp [hl]
    rw [if_neg hl] at f
    simp +contextual -implicitDefEqProofs (maxSteps := 2000000) only [↓wP, wQ, wQ1, wQ2, wQ3, wR, boxE, partsOf, ↓reduceIte, Nat.reduceEqDiff, Nat.reduceAdd, Nat.reduceSub, Nat.reduceLeDiff, Nat.reduceLT, Nat.reduceMul, reduceCtorEq, Int.reduceBNe, Int.reduceBEq, Int.reduceLT, Int.reduceLE, Int.reduceGT, f, hd]
theorem f84 (a b : Option (List Int)) (fs : Bool) (σ : Sto) (n lk : Nat) : callE T fs 84 [slV 1 vecV (some [a, b]), .fn 108 [.box [slV 1 vecV (some [a, b])]]] σ n lk = some (.bool (decide ((lst a).length ≠ (lst b).length)), σ, n) :=
  callE_tr (by decide) (r84 a b) (by simp [Tr, Tr_slV]) rfl fs σ n lk
theorem r76 (a b : Option (List Int)) (ha : (lst a).length < 9223372036854775808) (hb : (lst b).length < 9223372036854775808) : res T 76 [slV 1 vecV (some [a, b])] = some (.int .i64 (vAll a b)) := by
  refine run_res (run_pure (fn := g76) rfl rfl (by decide) ?_)
  simp only [g76, b76, oO, oN, mV, lD, gO, pP, qQ, cI, aR]
  have h0 : (lst (some [a, b]))[0]? = some a := rfl
  have h1 : (lst (some [a, b]))[1]? = some b := rfl
  have f0 := f46 a ha
  have f1 := f46 b hb
  have f2 := f84 a b
  simp +contextual -implicitDefEqProofs (maxSteps := 2000000) only [↓wP, wQ, wQ1, wQ2, wQ3, wR, boxE, partsOf, ↓reduceIte, Nat.reduceEqDiff, Nat.reduceAdd, Nat.reduceSub, Nat.reduceLeDiff, Nat.reduceLT, Nat.reduceMul, reduceCtorEq, Int.reduceBNe, Int.reduceBEq, Int.reduceLT, Int.reduceLE, Int.reduceGT]
  refine WC_for 2 0 (fun (j : Nat) env σ n => 1 ≤ n ∧ σ 0 = some (.row 1 [slV 1 vecV (some [a, b])]) ∧ env 1 = .ptr 0 1 0 0 ∧ env 7 = slV 1 vecV (some [a, b]) ∧ (1 ≤ j → okV a = true) ∧ (2 ≤ j → okV b = true)) (by decide) (by decide) (by decide) (fun _ _ => rfl) (fun _ _ _ => rfl) ?_ ?_ _ _ _ rfl rfl ?_
  · intro j env σ n hj g1 g2 ⟨g3, g4, g5, g6, g7, g8⟩
    simp only [vl_tmp] at g2
    obtain rfl | rfl : j = 0 ∨ j = 1 := by omega
    · simp only [Int.natCast_zero] at g1
      cases ho : okV a
      · rw [ho] at f0
        have hv : vAll a b = 150 := by simp [vAll, ho]
        simp +contextual -implicitDefEqProofs (maxSteps := 2000000) only [↓wP, wQ, wQ1, wQ2, wQ3, wR, boxE, partsOf, ↓reduceIte, Nat.reduceEqDiff, Nat.reduceAdd, Nat.reduceSub, Nat.reduceLeDiff, Nat.reduceLT, Nat.reduceMul, reduceCtorEq, Int.reduceBNe, Int.reduceBEq, Int.reduceLT, Int.reduceLE, Int.reduceGT, g1, g2, g3, g4, g5, g6, h0, vecV_eq, f0, hv]
      · rw [ho] at f0
        simp +contextual -implicitDefEqProofs (maxSteps := 2000000) only [↓wP, wQ, wQ1, wQ2, wQ3, wR, boxE, partsOf, ↓reduceIte, Nat.reduceEqDiff, Nat.reduceAdd, Nat.reduceSub, Nat.reduceLeDiff, Nat.reduceLT, Nat.reduceMul, reduceCtorEq, Int.reduceBNe, Int.reduceBEq, Int.reduceLT, Int.reduceLE, Int.reduceGT, g1, g2, g3, g4, g5, g6, h0, vecV_eq, f0]
        simp
    · simp only [Int.natCast_one] at g1
      cases ho : okV b
      · rw [ho] at f1
        have hv : vAll a b = 150 := by simp [vAll, ho]
        simp +contextual -implicitDefEqProofs (maxSteps := 2000000) only [↓wP, wQ, wQ1, wQ2, wQ3, wR, boxE, partsOf, ↓reduceIte, Nat.reduceEqDiff, Nat.reduceAdd, Nat.reduceSub, Nat.reduceLeDiff, Nat.reduceLT, Nat.reduceMul, reduceCtorEq, Int.reduceBNe, Int.reduceBEq, Int.reduceLT, Int.reduceLE, Int.reduceGT, g1, g2, g3, g4, g5, g6, ia1, h1, vecV_eq, f1, hv]
      · rw [ho] at f1
        simp +contextual -implicitDefEqProofs (maxSteps := 2000000) only [↓wP, wQ, wQ1, wQ2, wQ3, wR, boxE, partsOf, ↓reduceIte, Nat.reduceEqDiff, Nat.reduceAdd, Nat.reduceSub, Nat.reduceLeDiff, Nat.reduceLT, Nat.reduceMul, reduceCtorEq, Int.reduceBNe, Int.reduceBEq, Int.reduceLT, Int.reduceLE, Int.reduceGT, g1, g2, g3, g4, g5, g6, ia1, h1, vecV_eq, f1]
        simp [g7]
  · intro env σ n ⟨g3, g4, g5, g6, g7, g8⟩ g1 g2
    have oa := g7 (by decide)
    have ob := g8 (by decide)
    have hc : frz σ 12 (.fn 108 [.ptr 0 1 0 0]) = some (.fn 108 [.box [slV 1 vecV (some [a, b])]]) := by
      simp [frz, rowAt, g4, slV_some, V.cells]
    have hs : frz σ 12 (slV 1 vecV (some [a, b])) = some (slV 1 vecV (some [a, b])) := frz_slV 1 vecV _ σ 11
    have e : [slV 1 vecV (some [a, b]), V.fn 108 [.ptr 0 1 0 0]].mapM (frz σ 12) = some [slV 1 vecV (some [a, b]), .fn 108 [.box [slV 1 vecV (some [a, b])]]] := by
      simp only [List.mapM_cons, List.mapM_nil, hs, hc]; rfl
    have f84' := fun n lk => callE_flat (fs := true) (n := n) (lk := lk) (by decide) e (r84 a b) rfl
    by_cases hl : (lst a).length = (lst b).length
    · have hv : vAll a b = 0 := by simp [vAll, oa, ob, hl]
      have hd : decide ((lst a).length ≠ (lst b).length) = false := by simp [hl]
      rw [hd] at f84'
      simp only [thaw] at f84'
      simp +contextual -implicitDefEqProofs (maxSteps := 2000000) only [↓wP, wQ, wQ1, wQ2, wQ3, wR, boxE, partsOf, ↓reduceIte, Nat.reduceEqDiff, Nat.reduceAdd, Nat.reduceSub, Nat.reduceLeDiff, Nat.reduceLT, Nat.reduceMul, reduceCtorEq, Int.reduceBNe, Int.reduceBEq, Int.reduceLT, Int.reduceLE, Int.reduceGT, g4, g5, hv, f84']
    · have hv : vAll a b = 151 := by simp [vAll, oa, ob, hl]
      have hd : decide ((lst a).length ≠ (lst b).length) = true := by simp [hl]
      rw [hd] at f84'
      simp only [thaw] at f84'
      simp +contextual -implicitDefEqProofs (maxSteps := 2000000) only [↓wP, wQ, wQ1, wQ2, wQ3, wR, boxE, partsOf, ↓reduceIte, Nat.reduceEqDiff, Nat.reduceAdd, Nat.reduceSub, Nat.reduceLeDiff, Nat.reduceLT, Nat.reduceMul, reduceCtorEq, Int.reduceBNe, Int.reduceBEq, Int.reduceLT, Int.reduceLE, Int.reduceGT, g4, g5, hv, f84']
  · simp +contextual -implicitDefEqProofs (maxSteps := 2000000) only [↓wP, wQ, wQ1, wQ2, wQ3, wR, boxE, partsOf, ↓reduceIte, Nat.reduceEqDiff, Nat.reduceAdd, Nat.reduceSub, Nat.reduceLeDiff, Nat.reduceLT, Nat.reduceMul, reduceCtorEq, Int.reduceBNe, Int.reduceBEq, Int.reduceLT, Int.reduceLE, Int.reduceGT]
    simp
theorem f76 (a b : Option (List Int)) (ha : (lst a).length < 9223372036854775808) (hb : (lst b).length < 9223372036854775808) (fs : Bool) (σ : Sto) (n lk : Nat) : callE T fs 76 [slV 1 vecV (some [a, b])] σ n lk = some (.int .i64 (vAll a b), σ, n) :=
  callE_tr (by decide) (r76 a b ha hb) (by simp [Tr, Tr_slV]) rfl fs σ n lk
end Go.Q.SZ
end

section
/- Distances, walked. -/
set_option linter.unusedSimpArgs false
set_option linter.unusedVariables false
namespace Go.Q.SZ
open Go.Q
def sq (a b : List Int) (j : Nat) : Int := ((a.zip b).take j).foldl (fun n p => n + (p.1 - p.2) * (p.1 - p.2)) 0
theorem sq_zero (a b : List Int) : sq a b 0 = 0 := by simp [sq]
theorem sq_succ (a b : List Int) {j : Nat} (ha : j < a.length) (hb : j < b.length) : sq a b (j + 1) = sq a b j + (a[j] - b[j]) * (a[j] - b[j]) := by
  unfold sq
  have hz : j < (a.zip b).length := by rw [List.length_zip]; omega
  rw [← List.take_append_getElem hz, List.foldl_append]
  simp
theorem sq_le {a b : List Int} (ha : a.all okI = true) (hb : b.all okI = true) : ∀ j, j ≤ a.length → j ≤ b.length → 0 ≤ sq a b j ∧ sq a b j ≤ j * 4611686009837453316
  | 0, _, _ => by simp [sq_zero]
  | j + 1, h1, h2 => by
    obtain ⟨i1, i2⟩ := sq_le ha hb j (by omega) (by omega)
    have ha' := List.all_eq_true.1 ha a[j] (List.getElem_mem _)
    have hb' := List.all_eq_true.1 hb b[j] (List.getElem_mem _)
    rw [sq_succ a b (by omega) (by omega)]
    simp only [okI, Bool.and_eq_true, decide_eq_true_eq] at ha' hb'
    have k1 : 0 ≤ (a[j] - b[j]) * (a[j] - b[j]) := by
      rcases Int.le_total 0 (a[j] - b[j]) with h | h
      · exact Int.mul_nonneg h h
      · exact Int.mul_nonneg_of_nonpos_of_nonpos h h
    have k2 : (a[j] - b[j]) * (a[j] - b[j]) ≤ 2147483646 * 2147483646 := by
      rcases Int.le_total 0 (a[j] - b[j]) with h | h
      · exact Int.mul_le_mul (by omega) (by omega) h (by omega)
      · have : (a[j] - b[j]) * (a[j] - b[j]) = (b[j] - a[j]) * (b[j] - a[j]) := by
          rw [← Int.neg_mul_neg]; congr 1 <;> omega
        rw [this]
        exact Int.mul_le_mul (by omega) (by omega) (by omega) (by omega)
    push_cast
    omega
theorem raw128 (a b : Option (List Int)) (hl : (lst a).length = (lst b).length) (hlt : (lst a).length < 4611686018427387904) (ha : (lst a).all okI = true) (hb : (lst b).all okI = true) (l : Nat) (J : Nat → Sto → Nat → Prop)
    (hy : ∀ j (hj : j < (lst a).length) σ n, J j σ n → yieldW (run T) l [.int .i64 (lst a)[j], .int .i64 ((lst b)[j]'(by omega))] σ n 0 (fun y σ' n' => y = .bool true ∧ J (j + 1) σ' n'))
    (σ : Sto) (n : Nat) (h0 : J 0 σ n) : run T (.raw 128 [.yld l, .box [slV 1 i32V a], .box [slV 1 i32V b]] σ n 0) (memQ fun _ σ' n' => J (lst a).length σ' n') := by
  refine run_rawE (fn := g128) rfl rfl ?_
  simp only [g128, b128, oO, oN, mV, lD, gO, pP, qQ, cI, aR]
  simp +contextual -implicitDefEqProofs (maxSteps := 2000000) only [↓wP, wQ, wQ1, wQ2, wQ3, wR, boxE, partsOf, ↓reduceIte, Nat.reduceEqDiff, Nat.reduceAdd, Nat.reduceSub, Nat.reduceLeDiff, Nat.reduceLT, Nat.reduceMul, reduceCtorEq, Int.reduceBNe, Int.reduceBEq, Int.reduceLT, Int.reduceLE, Int.reduceGT]
  refine WC_for (lst a).length 0 (fun (j : Nat) env σ n => env 0 = .yld l ∧ env 2 = .box [slV 1 i32V b] ∧ env 6 = slV 1 i32V a ∧ J j σ n) (by omega) (by decide) (by decide) (fun _ _ => rfl) (fun _ _ _ => rfl) ?_ ?_ _ _ _ rfl rfl ?_
  · intro j env σ n hj h1 h2 ⟨h3, h4, h5, h6⟩
    simp only [vl_tmp] at h2
    have hx : (lst a)[j]? = some (lst a)[j] := List.getElem?_eq_getElem hj
    have hz : (lst b)[j]? = some ((lst b)[j]'(by omega)) := List.getElem?_eq_getElem (by omega)
    have hq := hy j hj σ n h6
    have ha' := List.all_eq_true.1 ha (lst a)[j] (List.getElem_mem _)
    have hb' := List.all_eq_true.1 hb ((lst b)[j]'(by omega)) (List.getElem_mem _)
    generalize (lst a)[j] = x at *
    generalize (lst b)[j]'(by omega) = y at *
    simp only [okI, Bool.and_eq_true, decide_eq_true_eq] at ha' hb'
    have w1 : IntKind.i64.wrap x = x := by rw [wrap_i64] <;> omega
    have w2 : IntKind.i64.wrap y = y := by rw [wrap_i64] <;> omega
    simp +contextual -implicitDefEqProofs (maxSteps := 2000000) only [↓wP, wQ, wQ1, wQ2, wQ3, wR, boxE, partsOf, ↓reduceIte, Nat.reduceEqDiff, Nat.reduceAdd, Nat.reduceSub, Nat.reduceLeDiff, Nat.reduceLT, Nat.reduceMul, reduceCtorEq, Int.reduceBNe, Int.reduceBEq, Int.reduceLT, Int.reduceLE, Int.reduceGT, h1, h2, h3, h4, h5, hx, hz, i32V, w1, w2]
    refine stepW_yld (yieldW_mono (fun _ _ x => x) run_mono (fun y σ' n' ⟨hy1, hy2⟩ => ?_) hq)
    subst hy1
    simp +contextual -implicitDefEqProofs (maxSteps := 2000000) only [↓wP, wQ, wQ1, wQ2, wQ3, wR, boxE, partsOf, ↓reduceIte, Nat.reduceEqDiff, Nat.reduceAdd, Nat.reduceSub, Nat.reduceLeDiff, Nat.reduceLT, Nat.reduceMul, reduceCtorEq, Int.reduceBNe, Int.reduceBEq, Int.reduceLT, Int.reduceLE, Int.reduceGT, h1, h2, h3, h4, h5]
    exact hy2
  · intro env σ n ⟨h3, h4, h5, h6⟩ h1 h2
    simp +contextual -implicitDefEqProofs (maxSteps := 2000000) only [↓wP, wQ, wQ1, wQ2, wQ3, wR, boxE, partsOf, ↓reduceIte, Nat.reduceEqDiff, Nat.reduceAdd, Nat.reduceSub, Nat.reduceLeDiff, Nat.reduceLT, Nat.reduceMul, reduceCtorEq, Int.reduceBNe, Int.reduceBEq, Int.reduceLT, Int.reduceLE, Int.reduceGT]
    exact h6
  · simp +contextual -implicitDefEqProofs (maxSteps := 2000000) only [↓wP, wQ, wQ1, wQ2, wQ3, wR, boxE, partsOf, ↓reduceIte, Nat.reduceEqDiff, Nat.reduceAdd, Nat.reduceSub, Nat.reduceLeDiff, Nat.reduceLT, Nat.reduceMul, reduceCtorEq, Int.reduceBNe, Int.reduceBEq, Int.reduceLT, Int.reduceLE, Int.reduceGT]
    exact h0
theorem r109 (a b : Option (List Int)) : res T 109 [slV 1 i32V a, slV 1 i32V b] = some (.fn 128 [.box [slV 1 i32V a], .box [slV 1 i32V b]]) := by
  refine run_res (run_pure (fn := g109) rfl rfl (by decide) ?_)
  simp only [g109, b109, oO, oN, mV, lD, gO, pP, qQ, cI, aR]
  simp +contextual -implicitDefEqProofs (maxSteps := 2000000) only [↓wP, wQ, wQ1, wQ2, wQ3, wR, boxE, partsOf, ↓reduceIte, Nat.reduceEqDiff, Nat.reduceAdd, Nat.reduceSub, Nat.reduceLeDiff, Nat.reduceLT, Nat.reduceMul, reduceCtorEq, Int.reduceBNe, Int.reduceBEq, Int.reduceLT, Int.reduceLE, Int.reduceGT]
theorem f109 (a b : Option (List Int)) (fs : Bool) (σ : Sto) (n lk : Nat) : callE T fs 109 [slV 1 i32V a, slV 1 i32V b] σ n lk = some (.fn 128 [.box [slV 1 i32V a], .box [slV 1 i32V b]], σ, n) :=
  callE_tr (by decide) (r109 a b) (by simp [Tr, Tr_slV]) rfl fs σ n lk
def asg77 : AC := (.seq (.reg [⟨(some 6), none, .mov (.tmp 12)⟩]) (.reg [⟨(some 7), none, .mov (.tmp 13)⟩]))
def bd77 : AC := (.block 1 (.seq (.reg [⟨(some 14), none, .mov (.tmp 6)⟩,
       ⟨(some 15), none, .mov (.tmp 7)⟩,
       ⟨(some 16), none, .bin .sub (.tmp 14) (.tmp 15)⟩,
       ⟨(some 17), none, .mov (.tmp 7)⟩,
       ⟨(some 18), none, .mov (.tmp 6)⟩,
       ⟨(some 19), none, .bin .sub (.tmp 17) (.tmp 18)⟩,
       ⟨(some 20), none, .max [(.tmp 16), (.tmp 19)]⟩,
       ⟨(some 21), none, .conv .u64 (.tmp 20)⟩,
       ⟨(some 8), none, .mov (.tmp 21)⟩])
     (.reg [⟨(some 22), none, .load false 1 (.tmp 5)⟩,
       ⟨(some 23), none, .mov (.tmp 8)⟩,
       ⟨(some 24), none, .mov (.tmp 8)⟩,
       ⟨(some 25), none, .bin .mul (.tmp 23) (.tmp 24)⟩,
       ⟨(some 26), none, .bin .add (.tmp 22) (.tmp 25)⟩,
       ⟨none, none, .store 1 (.tmp 5) (.tmp 26)⟩])))
theorem w_asg77 (env : Nat → V) (σ : Sto) (n lk : Nat) (Q : Ex → St → Prop) : WC T asg77 env σ n lk Q = WC T (.seq (.reg [⟨(some 6), none, .mov (.tmp 12)⟩]) (.reg [⟨(some 7), none, .mov (.tmp 13)⟩])) env σ n lk Q := rfl
theorem w_bd77 (env : Nat → V) (σ : Sto) (n lk : Nat) (Q : Ex → St → Prop) : WC T bd77 env σ n lk Q = WC T (.block 1 (.seq (.reg [⟨(some 14), none, .mov (.tmp 6)⟩,
       ⟨(some 15), none, .mov (.tmp 7)⟩,
       ⟨(some 16), none, .bin .sub (.tmp 14) (.tmp 15)⟩,
       ⟨(some 17), none, .mov (.tmp 7)⟩,
       ⟨(some 18), none, .mov (.tmp 6)⟩,
       ⟨(some 19), none, .bin .sub (.tmp 17) (.tmp 18)⟩,
       ⟨(some 20), none, .max [(.tmp 16), (.tmp 19)]⟩,
       ⟨(some 21), none, .conv .u64 (.tmp 20)⟩,
       ⟨(some 8), none, .mov (.tmp 21)⟩])
     (.reg [⟨(some 22), none, .load false 1 (.tmp 5)⟩,
       ⟨(some 23), none, .mov (.tmp 8)⟩,
       ⟨(some 24), none, .mov (.tmp 8)⟩,
       ⟨(some 25), none, .bin .mul (.tmp 23) (.tmp 24)⟩,
       ⟨(some 26), none, .bin .add (.tmp 22) (.tmp 25)⟩,
       ⟨none, none, .store 1 (.tmp 5) (.tmp 26)⟩]))) env σ n lk Q := rfl
def Jd (a b : List Int) (env : Nat → V) (j : Nat) (σ : Sto) (n : Nat) : Prop :=
  1 < n ∧ σ 0 = some (.row 1 [.int .u64 (sq a b j)]) ∧ σ 1 = some (.loop env [12, 13] asg77 bd77 .ready none)
theorem hy77 (a b : List Int) (hl : a.length = b.length) (h4 : a.length ≤ 4) (ha : a.all okI = true) (hb : b.all okI = true) (env : Nat → V) (he : env 5 = .ptr 0 1 0 0) (j : Nat) (hj : j < a.length) (σ : Sto) (n : Nat) (hJ : Jd a b env j σ n) :
    yieldW (run T) 1 [.int .i64 a[j], .int .i64 (b[j]'(by omega))] σ n 0 (fun y σ' n' => y = .bool true ∧ Jd a b env (j + 1) σ' n') := by
  obtain ⟨h1, h2, h3⟩ := hJ
  refine yieldW_go h3 rfl (Nat.zero_le _) ?_
  obtain ⟨q1, q2⟩ := sq_le ha hb j (by omega) (by omega)
  obtain ⟨p1, p2⟩ := sq_le ha hb (j + 1) (by omega) (by omega)
  have hs := sq_succ a b hj (by omega)
  have ha' := List.all_eq_true.1 ha a[j] (List.getElem_mem _)
  have hb' := List.all_eq_true.1 hb (b[j]'(by omega)) (List.getElem_mem _)
  have hJ' : ∀ (ob : Option Ob) (u : Option Ob), u = some (.row 1 [.int .u64 (sq a b (j + 1))]) → ob = some (.loop env [12, 13] asg77 bd77 .ready none) → ∀ σ' : Sto, σ' 0 = u → σ' 1 = ob → Jd a b env (j + 1) σ' n := by
    rintro _ _ rfl rfl σ' g1 g2
    exact ⟨h1, g1, g2⟩
  rw [hs] at p1 p2 hJ'
  generalize a[j] = x at *
  generalize b[j]'(by omega) = y at *
  generalize sq a b j = s at *
  simp only [okI, Bool.and_eq_true, decide_eq_true_eq] at ha' hb'
  have w1 : IntKind.i64.wrap (x - y) = x - y := by rw [wrap_i64] <;> omega
  have w2 : IntKind.i64.wrap (y - x) = y - x := by rw [wrap_i64] <;> omega
  push_cast at p2
  have hmx : ∃ d : Int, (if x - y < y - x then y - x else x - y) = d ∧ 0 ≤ d ∧ d ≤ 2147483646 ∧ d * d = (x - y) * (x - y) := by
    split
    · refine ⟨_, rfl, by omega, by omega, ?_⟩
      rw [← Int.neg_mul_neg]; congr 1 <;> omega
    · exact ⟨_, rfl, by omega, by omega, rfl⟩
  obtain ⟨d, hd, d1, d2, d3⟩ := hmx
  have w3 : IntKind.u64.wrap d = d := by rw [wrap_u64] <;> omega
  have k1 : 0 ≤ d * d := Int.mul_nonneg d1 d1
  have k2 : d * d ≤ 2147483646 * 2147483646 := Int.mul_le_mul d2 d2 d1 (by decide)
  have w4 : IntKind.u64.wrap (d * d) = (x - y) * (x - y) := by rw [d3, wrap_u64] <;> omega
  have w5 : IntKind.u64.wrap (s + (x - y) * (x - y)) = s + (x - y) * (x - y) := by rw [wrap_u64] <;> omega
  simp +contextual -implicitDefEqProofs (maxSteps := 2000000) only [↓wP, wQ, wQ1, wQ2, wQ3, wR, boxE, partsOf, ↓reduceIte, Nat.reduceEqDiff, Nat.reduceAdd, Nat.reduceSub, Nat.reduceLeDiff, Nat.reduceLT, Nat.reduceMul, reduceCtorEq, Int.reduceBNe, Int.reduceBEq, Int.reduceLT, Int.reduceLE, Int.reduceGT, bind_cons, bind_nil, w_asg77, w_bd77, he, h2, h3, w1, w2, hd, w3, w4, w5]
  exact hJ' _ _ rfl rfl _ (by simp [upd]) (by simp [upd])
structure Two (a b : Option (List Int)) : Prop where
  ha : okV a = true
  hb : okV b = true
  hl : (lst a).length = (lst b).length
theorem okV_len {a : Option (List Int)} (h : okV a = true) : (lst a).length ≤ 4 ∧ (lst a).all okI = true := by
  simp only [okV, Bool.and_eq_true, decide_eq_true_eq] at h
  exact ⟨h.1.2, h.2⟩
def distI (a b : Option (List Int)) : Int := sq (lst a) (lst b) (lst a).length
theorem r77 (a b : Option (List Int)) (h : Two a b) : res T 77 [slV 1 i32V a, slV 1 i32V b] = some (.int .u64 (distI a b)) := by
  refine run_res (run_pure (fn := g77) rfl rfl (by decide) ?_)
  simp only [g77, b77, oO, oN, mV, lD, gO, pP, qQ, cI, aR]
  obtain ⟨oa, ob, hl⟩ := h
  obtain ⟨a1, a2⟩ := okV_len oa
  obtain ⟨b1, b2⟩ := okV_len ob
  have f := f109 a b
  simp +contextual -implicitDefEqProofs (maxSteps := 2000000) only [↓wP, wQ, wQ1, wQ2, wQ3, wR, boxE, partsOf, ↓reduceIte, Nat.reduceEqDiff, Nat.reduceAdd, Nat.reduceSub, Nat.reduceLeDiff, Nat.reduceLT, Nat.reduceMul, reduceCtorEq, Int.reduceBNe, Int.reduceBEq, Int.reduceLT, Int.reduceLE, Int.reduceGT, f]
  generalize hE : pt (pt (pt (pt (pt (envOf [slV 1 i32V a, slV 1 i32V b]) 4 (V.int IntKind.u64 0)) 5 (V.ptr 0 1 0 0)) 9 (slV 1 i32V a)) 10 (slV 1 i32V b)) 11 (V.fn 128 [V.box [slV 1 i32V a], V.box [slV 1 i32V b]]) = env
  have e5 : env 5 = .ptr 0 1 0 0 := by rw [← hE]; rfl
  have e11 : env 11 = V.fn 128 [V.box [slV 1 i32V a], V.box [slV 1 i32V b]] := by rw [← hE]; rfl
  clear hE
  refine WC_rangeF (f := 128) (caps := [.box [slV 1 i32V a], .box [slV 1 i32V b]]) e11 (Nat.zero_le _) ?_
  refine run_mono _ _ _ (fun o ho => ?_) (raw128 a b hl (by omega) a2 b2 _ (Jd (lst a) (lst b) env) (fun j hj σ n hJ => hy77 (lst a) (lst b) hl a1 a2 b2 _ e5 j hj σ n hJ) _ _ ⟨by decide, by simp [upd, sq_zero], rfl⟩)
  cases o <;> try exact ho.elim
  obtain ⟨h1, h2, h3⟩ := ho
  refine ⟨_, _, _, _, _, _, h3, by decide, ?_⟩
  simp +contextual -implicitDefEqProofs (maxSteps := 2000000) only [↓wP, wQ, wQ1, wQ2, wQ3, wR, boxE, partsOf, ↓reduceIte, Nat.reduceEqDiff, Nat.reduceAdd, Nat.reduceSub, Nat.reduceLeDiff, Nat.reduceLT, Nat.reduceMul, reduceCtorEq, Int.reduceBNe, Int.reduceBEq, Int.reduceLT, Int.reduceLE, Int.reduceGT, Option.getD_none, h2, e5]
  rfl
theorem f77 (a b : Option (List Int)) (h : Two a b) (fs : Bool) (σ : Sto) (n lk : Nat) : callE T fs 77 [slV 1 i32V a, slV 1 i32V b] σ n lk = some (.int .u64 (distI a b), σ, n) :=
  callE_tr (by decide) (r77 a b h) (by simp [Tr, Tr_slV]) rfl fs σ n lk
def disE (a b : Option (List Int)) : Int := vAll a b
def disV (a b : Option (List Int)) : Int := if vAll a b = 0 then distI a b else 0
theorem vAll_two {a b : Option (List Int)} (h : vAll a b = 0) : Two a b := by
  unfold vAll at h
  split at h
  · rename_i h1
    simp only [Bool.and_eq_true] at h1
    split at h
    · rename_i h2; exact ⟨h1.1, h1.2, h2⟩
    · cases h
  · cases h
theorem r70 (a b : Option (List Int)) (ha : (lst a).length < 9223372036854775808) (hb : (lst b).length < 9223372036854775808) : res T 70 [slV 1 i32V a, slV 1 i32V b] = some (.tup [.int .u64 (disV a b), .int .i64 (disE a b)]) := by
  refine run_res (run_pure (fn := g70) rfl rfl (by decide) ?_)
  simp only [g70, b70, oO, oN, mV, lD, gO, pP, qQ, cI, aR]
  have e : [V.ref 0 0 2 1].mapM (frz (upd Sto.empty 0 (some (.row 1 [slV 1 i32V a, slV 1 i32V b]))) 12) = some [slV 1 vecV (some [a, b])] := by
    have hx : frz (upd Sto.empty 0 (some (.row 1 [slV 1 i32V a, slV 1 i32V b]))) 12 (.ref 0 0 2 1) = some (.sl 1 [slV 1 i32V a, slV 1 i32V b]) := by
      have ht : ∀ x ∈ [slV 1 i32V a, slV 1 i32V b], x = slV 1 i32V a ∨ x = slV 1 i32V b := fun x hx => by simpa using hx
      exact (Fz.ref (σ := upd Sto.empty 0 (some (.row 1 [slV 1 i32V a, slV 1 i32V b]))) (id := 0) (sz := 1) (xs := [slV 1 i32V a, slV 1 i32V b]) (ts := [slV 1 i32V a, slV 1 i32V b]) (k := 11) (S := fun _ => True) (by simp [upd]) trivial
        (FzL.trees (fun x hx => by rcases ht x hx with rfl | rfl <;> exact Tr_slV 1 _ _ _) (fun x hx c hc => by rcases ht x hx with rfl | rfl <;> (rw [cl_slV, List.mem_singleton] at hc; subst hc; exact Tr_slV 1 _ _ _)))).1
    simp only [List.mapM_cons, List.mapM_nil, hx]
    rfl
  have f76' := fun n lk => callE_flat (fs := true) (n := n) (lk := lk) (by decide) e (r76 a b ha hb) rfl
  simp only [thaw] at f76'
  by_cases hv : vAll a b = 0
  · have f := f77 a b (vAll_two hv)
    rw [hv] at f76'
    have e1 : disE a b = 0 := hv
    have e2 : disV a b = distI a b := by simp [disV, hv]
    simp +contextual -implicitDefEqProofs (maxSteps := 2000000) only [↓wP, wQ, wQ1, wQ2, wQ3, wR, boxE, partsOf, ↓reduceIte, Nat.reduceEqDiff, Nat.reduceAdd, Nat.reduceSub, Nat.reduceLeDiff, Nat.reduceLT, Nat.reduceMul, reduceCtorEq, Int.reduceBNe, Int.reduceBEq, Int.reduceLT, Int.reduceLE, Int.reduceGT, f76', f, e1, e2]
  · have hd : (vAll a b != 0) = true := by simpa using hv
    have e1 : disE a b = vAll a b := rfl
    have e2 : disV a b = 0 := by simp [disV, hv]
    simp +contextual -implicitDefEqProofs (maxSteps := 2000000) only [↓wP, wQ, wQ1, wQ2, wQ3, wR, boxE, partsOf, ↓reduceIte, Nat.reduceEqDiff, Nat.reduceAdd, Nat.reduceSub, Nat.reduceLeDiff, Nat.reduceLT, Nat.reduceMul, reduceCtorEq, Int.reduceBNe, Int.reduceBEq, Int.reduceLT, Int.reduceLE, Int.reduceGT, f76', e1, e2, hd]
theorem f70 (a b : Option (List Int)) (ha : (lst a).length < 9223372036854775808) (hb : (lst b).length < 9223372036854775808) (fs : Bool) (σ : Sto) (n lk : Nat) : callE T fs 70 [slV 1 i32V a, slV 1 i32V b] σ n lk = some (.tup [.int .u64 (disV a b), .int .i64 (disE a b)], σ, n) :=
  callE_tr (by decide) (r70 a b ha hb) (by simp [Tr, Tr_slV]) rfl fs σ n lk
end Go.Q.SZ
end

section
/- Distances by definition; hits. -/
set_option linter.unusedSimpArgs false
set_option linter.unusedVariables false
namespace Go.Q.SZ
open Go.Q
theorem sq_comm (a b : List Int) : ∀ j, j ≤ a.length → j ≤ b.length → sq a b j = sq b a j
  | 0, _, _ => by simp [sq_zero]
  | j + 1, h1, h2 => by
    rw [sq_succ a b (by omega) (by omega), sq_succ b a (by omega) (by omega), sq_comm a b j (by omega) (by omega)]
    have : (a[j] - b[j]) * (a[j] - b[j]) = (b[j] - a[j]) * (b[j] - a[j]) := by
      rw [← Int.neg_mul_neg]; congr 1 <;> omega
    rw [this]
theorem distI_comm {a b : Option (List Int)} (h : (lst a).length = (lst b).length) : distI a b = distI b a := by
  unfold distI
  rw [h]
  exact sq_comm _ _ _ (by omega) (by omega)
theorem un_neg (k : IntKind) (a : Int) : unV .neg (.int k a) = some (.int k (k.wrap (-a))) := by simp [unV, pureV, Op.unary, Op.intArith]; rfl
theorem r67 (a b : Option (List Int)) (h : Two a b) : res T 67 [slV 1 i32V a, slV 1 i32V b] = some (.int .u64 (distI a b)) := by
  refine run_res (run_pure (fn := g67) rfl rfl (by decide) ?_)
  simp only [g67, b67, oO, oN, mV, lD, gO, pP, qQ, cI, aR]
  obtain ⟨oa, ob, hl⟩ := h
  obtain ⟨a1, ha⟩ := okV_len oa
  obtain ⟨b1, hb⟩ := okV_len ob
  simp +contextual -implicitDefEqProofs (maxSteps := 2000000) only [↓wP, wQ, wQ1, wQ2, wQ3, wR, boxE, partsOf, ↓reduceIte, Nat.reduceEqDiff, Nat.reduceAdd, Nat.reduceSub, Nat.reduceLeDiff, Nat.reduceLT, Nat.reduceMul, reduceCtorEq, Int.reduceBNe, Int.reduceBEq, Int.reduceLT, Int.reduceLE, Int.reduceGT]
  refine WC_loopI 0 (fun (j : Nat) env σ n => j ≤ (lst a).length ∧ env 6 = .int .i64 (j : Int) ∧ env 0 = slV 1 i32V a ∧ env 1 = slV 1 i32V b ∧ env 5 = .int .u64 (sq (lst a) (lst b) j)) (fun j => (lst a).length - j) ?_ 0 _ _ _ ?_
  · intro j env σ n ⟨h0, h1, h2, h3, h4⟩
    by_cases hj : j < (lst a).length
    · have hd : decide ((j : Int) < ((lst a).length : Int)) = true := by simp [hj]
      have hw : IntKind.i64.wrap ((j : Int) + 1) = ((j + 1 : Nat) : Int) := by rw [wrap_i64] <;> omega
      have hx : (lst a)[j]? = some (lst a)[j] := List.getElem?_eq_getElem hj
      have hz : (lst b)[j]? = some ((lst b)[j]'(by omega)) := List.getElem?_eq_getElem (by omega)
      obtain ⟨q1, q2⟩ := sq_le ha hb j (by omega) (by omega)
      obtain ⟨p1, p2⟩ := sq_le ha hb (j + 1) (by omega) (by omega)
      have hs := sq_succ (lst a) (lst b) hj (by omega)
      have ha' := List.all_eq_true.1 ha (lst a)[j] (List.getElem_mem _)
      have hb' := List.all_eq_true.1 hb ((lst b)[j]'(by omega)) (List.getElem_mem _)
      rw [hs] at p1 p2
      generalize (lst a)[j] = x at *
      generalize (lst b)[j]'(by omega) = y at *
      generalize sq (lst a) (lst b) j = s at *
      simp only [okI, Bool.and_eq_true, decide_eq_true_eq] at ha' hb'
      have v1 : IntKind.i64.wrap x = x := by rw [wrap_i64] <;> omega
      have v2 : IntKind.i64.wrap y = y := by rw [wrap_i64] <;> omega
      have w1 : IntKind.i64.wrap (x - y) = x - y := by rw [wrap_i64] <;> omega
      have w2 : IntKind.i64.wrap (-(x - y)) = y - x := by rw [wrap_i64] <;> omega
      push_cast at p2
      have w5 : IntKind.u64.wrap (s + (x - y) * (x - y)) = s + (x - y) * (x - y) := by rw [wrap_u64] <;> omega
      have sqd : ∀ d : Int, 0 ≤ d → d ≤ 2147483646 → d * d = (x - y) * (x - y) → IntKind.u64.wrap d = d ∧ IntKind.u64.wrap (d * d) = (x - y) * (x - y) := by
        intro d d1 d2 d3
        have k1 : 0 ≤ d * d := Int.mul_nonneg d1 d1
        have k2 : d * d ≤ 2147483646 * 2147483646 := Int.mul_le_mul d2 d2 d1 (by decide)
        exact ⟨by rw [wrap_u64] <;> omega, by rw [d3, wrap_u64] <;> omega⟩
      by_cases hlt : x - y < 0
      · obtain ⟨w3, w4⟩ := sqd (y - x) (by omega) (by omega) (by rw [← Int.neg_mul_neg]; congr 1 <;> omega)
        simp +contextual -implicitDefEqProofs (maxSteps := 2000000) only [↓wP, wQ, wQ1, wQ2, wQ3, wR, boxE, partsOf, ↓reduceIte, Nat.reduceEqDiff, Nat.reduceAdd, Nat.reduceSub, Nat.reduceLeDiff, Nat.reduceLT, Nat.reduceMul, reduceCtorEq, Int.reduceBNe, Int.reduceBEq, Int.reduceLT, Int.reduceLE, Int.reduceGT, h1, h2, h3, h4, hd, hx, hz, i32V, v1, v2, w1, hlt, un_neg, w2, w3, w4, w5, hw]
        exact ⟨j + 1, by omega, by omega, rfl, by rw [hs]⟩
      · obtain ⟨w3, w4⟩ := sqd (x - y) (by omega) (by omega) rfl
        simp +contextual -implicitDefEqProofs (maxSteps := 2000000) only [↓wP, wQ, wQ1, wQ2, wQ3, wR, boxE, partsOf, ↓reduceIte, Nat.reduceEqDiff, Nat.reduceAdd, Nat.reduceSub, Nat.reduceLeDiff, Nat.reduceLT, Nat.reduceMul, reduceCtorEq, Int.reduceBNe, Int.reduceBEq, Int.reduceLT, Int.reduceLE, Int.reduceGT, h1, h2, h3, h4, hd, hx, hz, i32V, v1, v2, w1, hlt, w2, w3, w4, w5, hw]
        exact ⟨j + 1, by omega, by omega, rfl, by rw [hs]⟩
    · have hd : decide ((j : Int) < ((lst a).length : Int)) = false := by simp; omega
      have hj' : j = (lst a).length := by omega
      have hv : sq (lst a) (lst b) j = distI a b := by rw [hj']; rfl
      simp +contextual -implicitDefEqProofs (maxSteps := 2000000) only [↓wP, wQ, wQ1, wQ2, wQ3, wR, boxE, partsOf, ↓reduceIte, Nat.reduceEqDiff, Nat.reduceAdd, Nat.reduceSub, Nat.reduceLeDiff, Nat.reduceLT, Nat.reduceMul, reduceCtorEq, Int.reduceBNe, Int.reduceBEq, Int.reduceLT, Int.reduceLE, Int.reduceGT, h1, h2, h3, h4, hd, hv]
  · simp +contextual -implicitDefEqProofs (maxSteps := 2000000) only [↓wP, wQ, wQ1, wQ2, wQ3, wR, boxE, partsOf, ↓reduceIte, Nat.reduceEqDiff, Nat.reduceAdd, Nat.reduceSub, Nat.reduceLeDiff, Nat.reduceLT, Nat.reduceMul, reduceCtorEq, Int.reduceBNe, Int.reduceBEq, Int.reduceLT, Int.reduceLE, Int.reduceGT]
    simp [sq_zero]
theorem f67 (a b : Option (List Int)) (h : Two a b) (fs : Bool) (σ : Sto) (n lk : Nat) : callE T fs 67 [slV 1 i32V a, slV 1 i32V b] σ n lk = some (.int .u64 (distI a b), σ, n) :=
  callE_tr (by decide) (r67 a b h) (by simp [Tr, Tr_slV]) rfl fs σ n lk
theorem r60 (q v : Option (List Int)) (k id : Int) (hq : (lst q).length < 9223372036854775808) (hv : (lst v).length < 9223372036854775808) : res T 60 [.agg [slV 1 i32V q, .int .i64 k], .int .u64 id, slV 1 i32V v] = some (.tup [.agg [.int .u64 id, .int .u64 (disV q v)], .int .i64 (disE q v)]) := by
  refine run_res (run_pure (fn := g60) rfl rfl (by decide) ?_)
  simp only [g60, b60, oO, oN, mV, lD, gO, pP, qQ, cI, aR]
  have f := f70 q v hq hv
  simp +contextual -implicitDefEqProofs (maxSteps := 2000000) only [↓wP, wQ, wQ1, wQ2, wQ3, wR, boxE, partsOf, ↓reduceIte, Nat.reduceEqDiff, Nat.reduceAdd, Nat.reduceSub, Nat.reduceLeDiff, Nat.reduceLT, Nat.reduceMul, reduceCtorEq, Int.reduceBNe, Int.reduceBEq, Int.reduceLT, Int.reduceLE, Int.reduceGT, f]
theorem f60 (q v : Option (List Int)) (k id : Int) (hq : (lst q).length < 9223372036854775808) (hv : (lst v).length < 9223372036854775808) (fs : Bool) (σ : Sto) (n lk : Nat) : callE T fs 60 [.agg [slV 1 i32V q, .int .i64 k], .int .u64 id, slV 1 i32V v] σ n lk = some (.tup [.agg [.int .u64 id, .int .u64 (disV q v)], .int .i64 (disE q v)], σ, n) :=
  callE_tr (by decide) (r60 q v k id hq hv) (by simp [Tr, Tr_slV]) rfl fs σ n lk
end Go.Q.SZ
end

section
/- The layer does something. -/
set_option linter.unusedSimpArgs false
set_option linter.unusedVariables false
namespace Go.Q.SZ
open Go.Q
def isTrue' : Option Out → Bool
  | some (.val (.bool true)) => true
  | _ => false
theorem isTrue_eq {o : Option Out} (h : isTrue' o = true) : o = some (.val (.bool true)) := by
  unfold isTrue' at h
  split at h
  · rfl
  · cases h
theorem r5 : res T 5 [] = some (.bool true) := by
  have h : isTrue' (exJob T 150 (.pure 5 [])) = true := by decide +kernel
  exact run_res (exJob_sound 150 _ _ (isTrue_eq h))
theorem f5 (fs : Bool) (σ : Sto) (n lk : Nat) : callE T fs 5 [] σ n lk = some (.bool true, σ, n) := callE_tr (by decide) r5 rfl rfl fs σ n lk
end Go.Q.SZ
end

section
/- Centroids: which may be. -/
set_option linter.unusedSimpArgs false
set_option linter.unusedVariables false
namespace Go.Q.SZ
open Go.Q Go.Sort
abbrev Vc := Option (List Int)
def Sm (v : Vc) : Prop := (lst v).length < 9223372036854775808
def ofE (v : Vc) (n : Int) : Int := if okV v then (if ((lst v).length : Int) = n then 0 else 151) else 150
theorem r83 (v : Vc) (m : Int) (hv : Sm v) : res T 83 [slV 1 i32V v, .int .i64 m] = some (.int .i64 (ofE v m)) := by
  refine run_res (run_pure (fn := g83) rfl rfl (by decide) ?_)
  simp only [g83, b83, oO, oN, mV, lD, gO, pP, qQ, cI, aR]
  have h := f46 v hv
  unfold ofE
  cases hk : okV v
  · rw [hk] at h
    simp +contextual -implicitDefEqProofs (maxSteps := 2000000) only [↓wP, wQ, wQ1, wQ2, wQ3, wR, boxE, partsOf, ↓reduceIte, Nat.reduceEqDiff, Nat.reduceAdd, Nat.reduceSub, Nat.reduceLeDiff, Nat.reduceLT, Nat.reduceMul, reduceCtorEq, Int.reduceBNe, Int.reduceBEq, Int.reduceLT, Int.reduceLE, Int.reduceGT, h]
  · rw [hk] at h
    by_cases hn : ((lst v).length : Int) = m
    · subst hn
      simp +contextual -implicitDefEqProofs (maxSteps := 2000000) only [↓wP, wQ, wQ1, wQ2, wQ3, wR, boxE, partsOf, ↓reduceIte, Nat.reduceEqDiff, Nat.reduceAdd, Nat.reduceSub, Nat.reduceLeDiff, Nat.reduceLT, Nat.reduceMul, reduceCtorEq, Int.reduceBNe, Int.reduceBEq, Int.reduceLT, Int.reduceLE, Int.reduceGT, h]
    · have hn' : (((lst v).length : Int) != m) = true := by simpa using hn
      simp +contextual -implicitDefEqProofs (maxSteps := 2000000) only [↓wP, wQ, wQ1, wQ2, wQ3, wR, boxE, partsOf, ↓reduceIte, Nat.reduceEqDiff, Nat.reduceAdd, Nat.reduceSub, Nat.reduceLeDiff, Nat.reduceLT, Nat.reduceMul, reduceCtorEq, Int.reduceBNe, Int.reduceBEq, Int.reduceLT, Int.reduceLE, Int.reduceGT, h, hn, hn']
theorem f83 (v : Vc) (m : Int) (hv : Sm v) (fs : Bool) (σ : Sto) (n lk : Nat) : callE T fs 83 [slV 1 i32V v, .int .i64 m] σ n lk = some (.int .i64 (ofE v m), σ, n) :=
  callE_tr (by decide) (r83 v m hv) (by simp [Tr, Tr_slV]) rfl fs σ n lk
def dm (c : Option (List Vc)) : Nat := match lst c with
  | [] => 0
  | v :: _ => (lst v).length
theorem dm_get {c : Option (List Vc)} (h : lst c ≠ []) : ∃ v, (lst c)[0]? = some v ∧ dm c = (lst v).length := by
  unfold dm
  cases hc : lst c with
  | nil => exact absurd hc h
  | cons v l => exact ⟨v, rfl, rfl⟩
def okC (c : Option (List Vc)) (v : Vc) : Bool := okV v && decide ((lst v).length = dm c)
theorem ofE_ok (c : Option (List Vc)) (v : Vc) : (ofE v ((dm c : Nat) : Int) != 0) = !okC c v := by
  unfold ofE okC
  by_cases h1 : okV v = true
  · by_cases h2 : (lst v).length = dm c
    · have : ((lst v).length : Int) = ((dm c : Nat) : Int) := by omega
      simp [h1, h2]
    · have : ¬ ((lst v).length : Int) = ((dm c : Nat) : Int) := by omega
      simp [h1, h2, this]
  · simp [h1]
theorem r82 (v : Vc) (c : Option (List Vc)) (hc : lst c ≠ []) (hv : Sm v) : res T 82 [slV 1 i32V v, .box [slV 1 vecV c]] = some (.bool (!okC c v)) := by
  refine run_res (run_pure (fn := g82) rfl rfl (by decide) ?_)
  simp only [g82, b82, oO, oN, mV, lD, gO, pP, qQ, cI, aR]
  obtain ⟨v0, h0, hd⟩ := dm_get hc
  have h := f83 v ((dm c : Nat) : Int) hv
  have h2 := ofE_ok c v
  rw [hd] at h h2
  simp +contextual -implicitDefEqProofs (maxSteps := 2000000) only [↓wP, wQ, wQ1, wQ2, wQ3, wR, boxE, partsOf, ↓reduceIte, Nat.reduceEqDiff, Nat.reduceAdd, Nat.reduceSub, Nat.reduceLeDiff, Nat.reduceLT, Nat.reduceMul, reduceCtorEq, Int.reduceBNe, Int.reduceBEq, Int.reduceLT, Int.reduceLE, Int.reduceGT, h0, vecV_eq, h, h2]
theorem f82 (v : Vc) (c : Option (List Vc)) (hc : lst c ≠ []) (hv : Sm v) (fs : Bool) (σ : Sto) (n lk : Nat) : callE T fs 82 [slV 1 i32V v, .box [slV 1 vecV c]] σ n lk = some (.bool (!okC c v), σ, n) :=
  callE_tr (by decide) (r82 v c hc hv) (by simp [Tr, Tr_slV]) rfl fs σ n lk
theorem r65g (o : Option (List Vc)) (F : Nat) (caps : List V) (p : Vc → Bool) (hl : (lst o).length < 9223372036854775808) (hp : ∀ x ∈ lst o, ∀ fs σ n lk, callE T fs F (slV 1 i32V x :: caps) σ n lk = some (.bool (p x), σ, n)) :
    res T 111 [slV 1 vecV o, .fn F caps] = some (.int .i64 (idxF p (lst o))) := by
  refine run_res (run_pure (fn := g111) rfl rfl (by decide) ?_)
  simp only [g111, b111, oO, oN, mV, lD, gO, pP, qQ, cI, aR]
  simp +contextual -implicitDefEqProofs (maxSteps := 2000000) only [↓wP, wQ, wQ1, wQ2, wQ3, wR, boxE, partsOf, ↓reduceIte, Nat.reduceEqDiff, Nat.reduceAdd, Nat.reduceSub, Nat.reduceLeDiff, Nat.reduceLT, Nat.reduceMul, reduceCtorEq, Int.reduceBNe, Int.reduceBEq, Int.reduceLT, Int.reduceLE, Int.reduceGT]
  refine WC_for (lst o).length 0 (fun (j : Nat) env _ _ => env 0 = slV 1 vecV o ∧ env 1 = .fn F caps ∧ (lst o).findIdx? p = (((lst o).drop j).findIdx? p).map (· + j)) (by omega) (by decide) (by decide) (fun _ _ => rfl) (fun _ _ _ => rfl) ?_ ?_ _ _ _ rfl rfl ?_
  · intro j env σ n hj h1 h2 ⟨h3, h4, h5⟩
    simp only [vl_tmp] at h2
    have hx : (lst o)[j]? = some (lst o)[j] := List.getElem?_eq_getElem hj
    have hp' := hp (lst o)[j] (List.getElem_mem hj)
    simp +contextual -implicitDefEqProofs (maxSteps := 2000000) only [↓wP, wQ, wQ1, wQ2, wQ3, wR, boxE, partsOf, ↓reduceIte, Nat.reduceEqDiff, Nat.reduceAdd, Nat.reduceSub, Nat.reduceLeDiff, Nat.reduceLT, Nat.reduceMul, reduceCtorEq, Int.reduceBNe, Int.reduceBEq, Int.reduceLT, Int.reduceLE, Int.reduceGT, h1, h2, h3, h4, hx, vecV_eq, hp']
    rw [List.drop_eq_getElem_cons hj, List.findIdx?_cons] at h5
    refine condC_split (fun hb => ?_) (fun hb => ?_)
    · simp +contextual -implicitDefEqProofs (maxSteps := 2000000) only [↓wP, wQ, wQ1, wQ2, wQ3, wR, boxE, partsOf, ↓reduceIte, Nat.reduceEqDiff, Nat.reduceAdd, Nat.reduceSub, Nat.reduceLeDiff, Nat.reduceLT, Nat.reduceMul, reduceCtorEq, Int.reduceBNe, Int.reduceBEq, Int.reduceLT, Int.reduceLE, Int.reduceGT]
      simp [idxF, h5, hb]
    · simp +contextual -implicitDefEqProofs (maxSteps := 2000000) only [↓wP, wQ, wQ1, wQ2, wQ3, wR, boxE, partsOf, ↓reduceIte, Nat.reduceEqDiff, Nat.reduceAdd, Nat.reduceSub, Nat.reduceLeDiff, Nat.reduceLT, Nat.reduceMul, reduceCtorEq, Int.reduceBNe, Int.reduceBEq, Int.reduceLT, Int.reduceLE, Int.reduceGT, h1, h2, h3, h4]
      rw [h5, hb]
      simp only [Bool.false_eq_true, if_false, Option.map_map, Function.comp_def]
      congr 1; funext i; omega
  · intro env σ n ⟨h3, h4, h5⟩ h1 h2
    simp +contextual -implicitDefEqProofs (maxSteps := 2000000) only [↓wP, wQ, wQ1, wQ2, wQ3, wR, boxE, partsOf, ↓reduceIte, Nat.reduceEqDiff, Nat.reduceAdd, Nat.reduceSub, Nat.reduceLeDiff, Nat.reduceLT, Nat.reduceMul, reduceCtorEq, Int.reduceBNe, Int.reduceBEq, Int.reduceLT, Int.reduceLE, Int.reduceGT]
    simp [idxF, h5]
  · exact ⟨rfl, rfl, by simp⟩
def cents (c : Option (List Vc)) : Bool := decide ((lst c).length ≤ 6) && (lst c).all (okC c)
theorem r53g (c : Option (List Vc)) (hl : (lst c).length < 9223372036854775808) (hv : ∀ v ∈ lst c, Sm v) : res T 84 [slV 1 vecV c, .fn 82 [.box [slV 1 vecV c]]] = some (.bool (!(lst c).all (okC c))) := by
  refine run_res (run_pure (fn := g84) rfl rfl (by decide) ?_)
  simp only [g84, b84, oO, oN, mV, lD, gO, pP, qQ, cI, aR]
  have h := r65g c 82 [.box [slV 1 vecV c]] (fun v => !okC c v) hl (fun x hx fs σ n lk => f82 x c (fun h => by rw [h] at hx; simp at hx) (hv x hx) fs σ n lk)
  have hm : T.mode 111 ≠ .raw := by decide
  have ha : ((lst c).any fun v => !okC c v) = !(lst c).all (okC c) := by rw [List.not_all_eq_any_not]
  simp +contextual -implicitDefEqProofs (maxSteps := 2000000) only [↓wP, wQ, wQ1, wQ2, wQ3, wR, boxE, partsOf, ↓reduceIte, Nat.reduceEqDiff, Nat.reduceAdd, Nat.reduceSub, Nat.reduceLeDiff, Nat.reduceLT, Nat.reduceMul, reduceCtorEq, Int.reduceBNe, Int.reduceBEq, Int.reduceLT, Int.reduceLE, Int.reduceGT, h, callE_eq hm, idxF_any, ha]
theorem r47 (c : Option (List Vc)) (hl : (lst c).length < 9223372036854775808) (hv : ∀ v ∈ lst c, Sm v) : res T 47 [slV 1 vecV c] = some (.bool (cents c)) := by
  refine run_res (run_pure (fn := g47) rfl rfl (by decide) ?_)
  simp only [g47, b47, oO, oN, mV, lD, gO, pP, qQ, cI, aR]
  unfold cents
  by_cases h6 : (6 : Int) < ((lst c).length : Int)
  · have : ¬ (lst c).length ≤ 6 := by omega
    simp +contextual -implicitDefEqProofs (maxSteps := 2000000) only [↓wP, wQ, wQ1, wQ2, wQ3, wR, boxE, partsOf, ↓reduceIte, Nat.reduceEqDiff, Nat.reduceAdd, Nat.reduceSub, Nat.reduceLeDiff, Nat.reduceLT, Nat.reduceMul, reduceCtorEq, Int.reduceBNe, Int.reduceBEq, Int.reduceLT, Int.reduceLE, Int.reduceGT, h6, this]
  · have : (lst c).length ≤ 6 := by omega
    have h := r53g c hl hv
    have hm : T.mode 84 ≠ .raw := by decide
    have ef : ∀ σ n, σ n = some (.row 1 [slV 1 vecV c]) → [slV 1 vecV c, V.fn 82 [.ptr n 1 0 0]].mapM (frz σ 12) = some [slV 1 vecV c, .fn 82 [.box [slV 1 vecV c]]] := by
      intro σ n hn
      have hx : frz σ 12 (.fn 82 [.ptr n 1 0 0]) = some (.fn 82 [.box [slV 1 vecV c]]) := by
        simp +contextual -implicitDefEqProofs (maxSteps := 2000000) only [↓wP, wQ, wQ1, wQ2, wQ3, wR, boxE, partsOf, ↓reduceIte, Nat.reduceEqDiff, Nat.reduceAdd, Nat.reduceSub, Nat.reduceLeDiff, Nat.reduceLT, Nat.reduceMul, reduceCtorEq, Int.reduceBNe, Int.reduceBEq, Int.reduceLT, Int.reduceLE, Int.reduceGT, hn, frz_fn, frz_ptr, frz_slV, cl_slV]
      simp only [List.mapM_cons, List.mapM_nil, frz_slV, hx]; rfl
    have f84 := fun n lk => callE_flat (fs := true) (n := n) (lk := lk) (by decide) (ef (upd Sto.empty 0 (some (.row 1 [slV 1 vecV c]))) 0 (by rw [upd_self])) h rfl
    simp +contextual -implicitDefEqProofs (maxSteps := 2000000) only [↓wP, wQ, wQ1, wQ2, wQ3, wR, boxE, partsOf, ↓reduceIte, Nat.reduceEqDiff, Nat.reduceAdd, Nat.reduceSub, Nat.reduceLeDiff, Nat.reduceLT, Nat.reduceMul, reduceCtorEq, Int.reduceBNe, Int.reduceBEq, Int.reduceLT, Int.reduceLE, Int.reduceGT, h6, this, f84]
theorem f47 (c : Option (List Vc)) (hl : (lst c).length < 9223372036854775808) (hv : ∀ v ∈ lst c, Sm v) (fs : Bool) (σ : Sto) (n lk : Nat) : callE T fs 47 [slV 1 vecV c] σ n lk = some (.bool (cents c), σ, n) :=
  callE_tr (by decide) (r47 c hl hv) (by simp [Tr, Tr_slV]) rfl fs σ n lk
def zm : V := .agg [.int .u64 0, .int .u64 0]
def isZm : Option Out → Bool
  | some (.val (.agg [.int .u64 0, .int .u64 0])) => true
  | _ => false
theorem isZm_eq {o : Option Out} (h : isZm o = true) : o = some (.val zm) := by
  unfold isZm at h
  split at h
  · rfl
  · cases h
def isI0 : Option Out → Bool
  | some (.val (.int .i64 0)) => true
  | _ => false
theorem isI0_eq {o : Option Out} (h : isI0 o = true) : o = some (.val (.int .i64 0)) := by
  unfold isI0 at h
  split at h
  · rfl
  · cases h
theorem r59z (i : Nat) (hi : i < 6) : res T 48 [.sl 2 (List.replicate i zm)] = some zm := by
  have h : ∀ i < 6, isZm (exJob T 60 (.pure 48 [.sl 2 (List.replicate i zm)])) = true := by decide +kernel
  exact run_res (exJob_sound 60 _ _ (isZm_eq (h i hi)))
theorem r58z : res T 25 [.sl 2 [zm, zm]] = some zm := run_res (exJob_sound 60 _ _ (isZm_eq (by decide +kernel)))
theorem r60z : res T 49 [zm] = some (.int .i64 0) := run_res (exJob_sound 60 _ _ (isI0_eq (by decide +kernel)))
theorem r61z : res T 50 [zm] = some (.int .i64 0) := run_res (exJob_sound 60 _ _ (isI0_eq (by decide +kernel)))
theorem f59z (i : Nat) (hi : i < 6) (fs : Bool) (σ : Sto) (n lk : Nat) : callE T fs 48 [.sl 2 (List.replicate i zm)] σ n lk = some (zm, σ, n) := callE_tr (by decide) (r59z i hi) (by simp [Tr]) rfl fs σ n lk
theorem f60z (fs : Bool) (σ : Sto) (n lk : Nat) : callE T fs 49 [zm] σ n lk = some (.int .i64 0, σ, n) := callE_tr (by decide) r60z rfl rfl fs σ n lk
theorem f61z (fs : Bool) (σ : Sto) (n lk : Nat) : callE T fs 50 [zm] σ n lk = some (.int .i64 0, σ, n) := callE_tr (by decide) r61z rfl rfl fs σ n lk
theorem f58z {σ : Sto} {id : Nat} (h : σ id = some (.row 2 [.agg [.int .u64 0, .int .u64 0], .agg [.int .u64 0, .int .u64 0]])) (fs : Bool) (n lk : Nat) :
    callE T fs 25 [.ref id 0 2 2] σ n lk = some (.agg [.int .u64 0, .int .u64 0], σ, n) := by
  have e : [V.ref id 0 2 2].mapM (frz σ 12) = some [.sl 2 [zm, zm]] := by
    simp [frz, elems, h, elemM, zm]
  rw [callE_flat (by decide) e r58z rfl]; rfl
theorem r45z (c : Option (List Vc)) (hl : (lst c).length < 9223372036854775808) (hv : ∀ v ∈ lst c, Sm v) :
    res T 20 [.agg [slV 1 vecV c, .sl 2 (List.replicate (lst c).length zm)]] = some (.int .i64 (if cents c then 0 else 230)) := by
  refine run_res (run_pure (fn := g20) rfl rfl (by decide) ?_)
  simp only [g20, b20, oO, oN, mV, lD, gO, pP, qQ, cI, aR]
  have f47' := f47 c hl hv
  have hMM : (((lst c).length : Int) != ((lst c).length : Int)) = false := by simp
  have hle : lenE (.sl 2 (List.replicate (lst c).length zm)) = some (.int .i64 ((lst c).length : Int)) := by simp [lenE, lenOf]
  cases hc : cents c
  · rw [hc] at f47'
    simp +contextual -implicitDefEqProofs (maxSteps := 2000000) only [↓wP, wQ, wQ1, wQ2, wQ3, wR, boxE, partsOf, ↓reduceIte, Nat.reduceEqDiff, Nat.reduceAdd, Nat.reduceSub, Nat.reduceLeDiff, Nat.reduceLT, Nat.reduceMul, reduceCtorEq, Int.reduceBNe, Int.reduceBEq, Int.reduceLT, Int.reduceLE, Int.reduceGT, f47', hle, hMM]
  · rw [hc] at f47'
    have h6 : (lst c).length ≤ 6 := by unfold cents at hc; simp only [Bool.and_eq_true, decide_eq_true_eq] at hc; exact hc.1
    simp +contextual -implicitDefEqProofs (maxSteps := 2000000) only [↓wP, wQ, wQ1, wQ2, wQ3, wR, boxE, partsOf, ↓reduceIte, Nat.reduceEqDiff, Nat.reduceAdd, Nat.reduceSub, Nat.reduceLeDiff, Nat.reduceLT, Nat.reduceMul, reduceCtorEq, Int.reduceBNe, Int.reduceBEq, Int.reduceLT, Int.reduceLE, Int.reduceGT, f47', hle, hMM]
    obtain ⟨Z, hZ⟩ : ∃ Z, Z = List.replicate (lst c).length zm := ⟨_, rfl⟩
    rw [← hZ] at hle ⊢
    have hB := big_le
    refine WC_for (lst c).length 0 (fun (j : Nat) env σ n => env 1 = .ptr 0 2 0 0 ∧ env 20 = .sl 2 Z ∧ 0 < n ∧ σ 0 = some (.row 2 [.agg [slV 1 vecV c, .sl 2 Z]])) hl (by decide) (by decide) (fun _ _ => rfl) (fun _ _ _ => rfl) ?_ ?_ _ _ _ rfl rfl ?_
    · intro j env σ n hj h1 h2 ⟨g1, g2, g3, g4⟩
      simp only [vl_tmp] at h2
      have z1 : Z[j]? = some (.agg [.int .u64 0, .int .u64 0]) := by rw [hZ, List.getElem?_replicate, if_pos hj]; rfl
      have z2 : Z.take j = List.replicate j zm := by rw [hZ, List.take_replicate, Nat.min_eq_left (by omega)]
      have z3 : (j ≤ Z.length) = True := by rw [hZ, List.length_replicate]; simp; omega
      have c59 := f59z j (by omega)
      simp only [zm] at c59 z2
      obtain ⟨S, hS⟩ : ∃ S, S = upd (upd σ n (some (Ob.row 2 [V.agg [V.int IntKind.u64 0, V.int IntKind.u64 0]]))) n (some (Ob.row 2 [V.agg [V.int IntKind.u64 0, V.int IntKind.u64 0]])) := ⟨_, rfl⟩
      have s0 : S 0 = some (.row 2 [.agg [slV 1 vecV c, .sl 2 Z]]) := by rw [hS, upd_ne (by omega), upd_ne (by omega)]; exact g4
      have s1 : S n = some (.row 2 [.agg [.int .u64 0, .int .u64 0]]) := by rw [hS, upd_self]
      have y0 : ∀ hid, hide S (n + 1) (n + 1) hid 0 = S 0 := fun hid => hide_low _ _ _ _ (by omega) (Nat.le_refl _)
      have y1 : ∀ hid, hide S (n + 1) (n + 1) hid n = S n := fun hid => hide_low _ _ _ _ (by omega) (Nat.le_refl _)
      obtain ⟨S1, hS1⟩ : ∃ S1, S1 = merge S (upd (hide S (n + 1) (n + 1) [1]) (n + 1) (some (Ob.row 2 [V.agg [V.int IntKind.u64 0, V.int IntKind.u64 0], V.agg [V.int IntKind.u64 0, V.int IntKind.u64 0]]))) (n + 1) := ⟨_, rfl⟩
      have t1 : S1 (n + 1) = some (.row 2 [.agg [.int .u64 0, .int .u64 0], .agg [.int .u64 0, .int .u64 0]]) := by rw [hS1, merge_in _ _ _ (Nat.le_refl _) (by omega)]; simp [upd]
      have u1 : (n + 2 ≤ n + (1 + BIG)) = True := by simp; omega
      obtain ⟨m, hm⟩ : ∃ m, m = n + (1 + BIG * 1) := ⟨_, rfl⟩
      have c58 := f58z (σ := hide S1 (n + 1) m [1]) (id := n + 1) (by
        have e1 : n + 1 < m := by omega
        have e2 : ¬ (n + 1 + BIG * 1 ≤ n + 1 ∧ n + 1 < n + 1 + BIG * 1 + BIG) := by omega
        simp only [hide, hideR, e1, e2, if_true, if_false]
        exact t1) false m m
      obtain ⟨S2, hS2⟩ : ∃ S2, S2 = merge S1 (upd (hide S1 (n + 1) m [0]) m (some (Ob.row 2 [V.agg [V.int IntKind.u64 0, V.int IntKind.u64 0]]))) m := ⟨_, rfl⟩
      have t2 : S2 m = some (.row 2 [.agg [.int .u64 0, .int .u64 0]]) := by rw [hS2, merge_in _ _ _ (Nat.le_refl _) (by omega)]; simp [upd]
      have t3 : S2 n = some (.row 2 [.agg [.int .u64 0, .int .u64 0]]) := by rw [hS2, merge_low _ _ _ (by omega), hS1, merge_low _ _ _ (by omega)]; exact s1
      have t4 : S2 0 = some (.row 2 [.agg [slV 1 vecV c, .sl 2 Z]]) := by rw [hS2, merge_low _ _ _ (by omega), hS1, merge_low _ _ _ (by omega)]; exact s0
      have c60 := f60z
      have c61 := f61z
      simp only [zm] at c60 c61
      have v1 : n ≠ m := by omega
      have u3 : (m + 1 ≤ m + BIG) = True := by simp; omega
      have v0 : 0 ≠ m := by omega
      simp +contextual -implicitDefEqProofs (maxSteps := 2000000) only [↓wP, wQ, wQ1, wQ2, wQ3, wR, boxE, partsOf, ↓reduceIte, Nat.reduceEqDiff, Nat.reduceAdd, Nat.reduceSub, Nat.reduceLeDiff, Nat.reduceLT, Nat.reduceMul, reduceCtorEq, Int.reduceBNe, Int.reduceBEq, Int.reduceLT, Int.reduceLE, Int.reduceGT, h1, h2, g1, g2, z1, z2, z3, ← hS, s0, s1, y0, y1, c59, u1, ← hS1, ← hm, c58, ← hS2, t2, t3, c60, c61, v1, u3]
      exact ⟨by omega, by rw [if_neg v0]; exact t4⟩
    · intro env σ n h h1 h2
      simp +contextual -implicitDefEqProofs (maxSteps := 2000000) only [↓wP, wQ, wQ1, wQ2, wQ3, wR, boxE, partsOf, ↓reduceIte, Nat.reduceEqDiff, Nat.reduceAdd, Nat.reduceSub, Nat.reduceLeDiff, Nat.reduceLT, Nat.reduceMul, reduceCtorEq, Int.reduceBNe, Int.reduceBEq, Int.reduceLT, Int.reduceLE, Int.reduceGT]
    · simp +contextual -implicitDefEqProofs (maxSteps := 2000000) only [↓wP, wQ, wQ1, wQ2, wQ3, wR, boxE, partsOf, ↓reduceIte, Nat.reduceEqDiff, Nat.reduceAdd, Nat.reduceSub, Nat.reduceLeDiff, Nat.reduceLT, Nat.reduceMul, reduceCtorEq, Int.reduceBNe, Int.reduceBEq, Int.reduceLT, Int.reduceLE, Int.reduceGT]
def trE (c : Option (List Vc)) : Int := if lst c = [] then 240 else if cents c then 0 else 230
theorem r37 (c : Option (List Vc)) (hl : (lst c).length ≤ 7) (hv : ∀ v ∈ lst c, Sm v) : res T 37 [slV 1 vecV c] = some (.int .i64 (trE c)) := by
  refine run_res (run_pure (fn := g37) rfl rfl (by decide) ?_)
  simp only [g37, b37, oO, oN, mV, lD, gO, pP, qQ, cI, aR]
  unfold trE
  by_cases h0 : lst c = []
  · have z0 : (((0 : Nat) : Int) == 0) = true := rfl
    simp +contextual -implicitDefEqProofs (maxSteps := 2000000) only [↓wP, wQ, wQ1, wQ2, wQ3, wR, boxE, partsOf, ↓reduceIte, Nat.reduceEqDiff, Nat.reduceAdd, Nat.reduceSub, Nat.reduceLeDiff, Nat.reduceLT, Nat.reduceMul, reduceCtorEq, Int.reduceBNe, Int.reduceBEq, Int.reduceLT, Int.reduceLE, Int.reduceGT, h0, List.length_nil, z0]
  · have hp : 0 < (lst c).length := List.length_pos_iff.2 h0
    have hne : (((lst c).length : Int) == 0) = false := by simp; exact h0
    have b1 : (0 : Int) ≤ ((lst c).length : Int) := by omega
    have b2 : ((16 : Nat) : Int) * ((lst c).length : Int) ≤ 140737488355328 := by omega
    have b3 : ((lst c).length : Int).toNat = (lst c).length := rfl
    have e : [V.agg [slV 1 vecV c, .ref 0 0 (lst c).length 2]].mapM (frz (upd Sto.empty 0 (some (.row 2 (List.replicate (lst c).length (.agg [.int .u64 0, .int .u64 0]))))) 12) = some [.agg [slV 1 vecV c, .sl 2 (List.replicate (lst c).length zm)]] := by
      have hx : frz (upd Sto.empty 0 (some (.row 2 (List.replicate (lst c).length (.agg [.int .u64 0, .int .u64 0]))))) 11 (.ref 0 0 (lst c).length 2) = some (.sl 2 (List.replicate (lst c).length zm)) := by
        have he : elems (upd Sto.empty 0 (some (.row 2 (List.replicate (lst c).length (.agg [.int .u64 0, .int .u64 0]))))) 2 (.ref 0 0 (lst c).length 2) = some (List.replicate (lst c).length zm) := by
          simp [elems, upd, zm]
        show (elems _ _ _).bind _ = _
        rw [he, Option.bind_some, mapM_id (fun x hx => by rw [List.eq_of_mem_replicate hx]; rfl)]
        rfl
      simp only [List.mapM_cons, List.mapM_nil, frz_agg, frz_slV, hx, Option.pure_def, Option.bind_eq_bind, Option.bind_some, Option.map_some]
    have f20 := fun n lk => callE_flat (fs := true) (n := n) (lk := lk) (by decide) e (r45z c (by omega) hv) rfl
    simp +contextual -implicitDefEqProofs (maxSteps := 2000000) only [↓wP, wQ, wQ1, wQ2, wQ3, wR, boxE, partsOf, ↓reduceIte, Nat.reduceEqDiff, Nat.reduceAdd, Nat.reduceSub, Nat.reduceLeDiff, Nat.reduceLT, Nat.reduceMul, reduceCtorEq, Int.reduceBNe, Int.reduceBEq, Int.reduceLT, Int.reduceLE, Int.reduceGT, hne, h0, b1, b2, b3, f20]
theorem f37 (c : Option (List Vc)) (hl : (lst c).length ≤ 7) (hv : ∀ v ∈ lst c, Sm v) (fs : Bool) (σ : Sto) (n lk : Nat) : callE T fs 37 [slV 1 vecV c] σ n lk = some (.int .i64 (trE c), σ, n) :=
  callE_tr (by decide) (r37 c hl hv) (by simp [Tr, Tr_slV]) rfl fs σ n lk
theorem r99 (c : Option (List Vc)) (hl : (lst c).length < 4611686018427387904) (hv : ∀ v ∈ lst c, Sm v) : res T 99 [slV 1 vecV c] = some (.int .i64 (if (lst c).all okV then (if (lst c).all (fun v => decide ((lst v).length = dm c)) then 0 else 151) else 150)) := by
  refine run_res (run_pure (fn := g99) rfl rfl (by decide) ?_)
  simp only [g99, b99, oO, oN, mV, lD, gO, pP, qQ, cI, aR]
  simp +contextual -implicitDefEqProofs (maxSteps := 2000000) only [↓wP, wQ, wQ1, wQ2, wQ3, wR, boxE, partsOf, ↓reduceIte, Nat.reduceEqDiff, Nat.reduceAdd, Nat.reduceSub, Nat.reduceLeDiff, Nat.reduceLT, Nat.reduceMul, reduceCtorEq, Int.reduceBNe, Int.reduceBEq, Int.reduceLT, Int.reduceLE, Int.reduceGT]
  refine WC_loopI 0 (fun (j : Nat) env _ _ => j ≤ (lst c).length ∧ env 0 = slV 1 vecV c ∧ env 3 = .int .i64 (j : Int) ∧ (lst c).all okV = ((lst c).drop j).all okV) (fun j => (lst c).length - j) ?_ 0 _ _ _ ?_
  · intro j env σ n ⟨h1, h2, h3, h4⟩
    by_cases hj : j < (lst c).length
    · have hj' : (j : Int) < ((lst c).length : Int) := by omega
      have hx : (lst c)[j]? = some (lst c)[j] := List.getElem?_eq_getElem hj
      have f := f36 (lst c)[j] (hv _ (List.getElem_mem hj))
      rw [List.drop_eq_getElem_cons hj, List.all_cons] at h4
      have wj : IntKind.i64.wrap ((j : Int) + 1) = ((j + 1 : Nat) : Int) := by rw [wrap_i64] <;> omega
      generalize (lst c)[j] = x at *
      cases ho : okV x
      · rw [ho] at f h4
        simp only [Bool.false_and] at h4
        simp +contextual -implicitDefEqProofs (maxSteps := 2000000) only [↓wP, wQ, wQ1, wQ2, wQ3, wR, boxE, partsOf, ↓reduceIte, Nat.reduceEqDiff, Nat.reduceAdd, Nat.reduceSub, Nat.reduceLeDiff, Nat.reduceLT, Nat.reduceMul, reduceCtorEq, Int.reduceBNe, Int.reduceBEq, Int.reduceLT, Int.reduceLE, Int.reduceGT, h2, h3, hj', hx, vecV_eq, f]
        rw [h4]; rfl
      · rw [ho] at f h4
        simp only [Bool.true_and] at h4
        simp +contextual -implicitDefEqProofs (maxSteps := 2000000) only [↓wP, wQ, wQ1, wQ2, wQ3, wR, boxE, partsOf, ↓reduceIte, Nat.reduceEqDiff, Nat.reduceAdd, Nat.reduceSub, Nat.reduceLeDiff, Nat.reduceLT, Nat.reduceMul, reduceCtorEq, Int.reduceBNe, Int.reduceBEq, Int.reduceLT, Int.reduceLE, Int.reduceGT, h2, h3, hj', hx, vecV_eq, f, wj]
        exact ⟨j + 1, by omega, by omega, rfl, h4⟩
    · have hj' : ¬ (j : Int) < ((lst c).length : Int) := by omega
      have hall : (lst c).all okV = true := by rw [h4, List.drop_of_length_le (by omega)]; rfl
      rw [hall]
      simp +contextual -implicitDefEqProofs (maxSteps := 2000000) only [↓wP, wQ, wQ1, wQ2, wQ3, wR, boxE, partsOf, ↓reduceIte, Nat.reduceEqDiff, Nat.reduceAdd, Nat.reduceSub, Nat.reduceLeDiff, Nat.reduceLT, Nat.reduceMul, reduceCtorEq, Int.reduceBNe, Int.reduceBEq, Int.reduceLT, Int.reduceLE, Int.reduceGT, h2, h3, hj']
      refine WC_loopI 0 (fun (j : Nat) env _ _ => j ≤ (lst c).length ∧ env 0 = slV 1 vecV c ∧ env 4 = .int .i64 (j : Int) ∧ (lst c).all (fun v => decide ((lst v).length = dm c)) = ((lst c).drop j).all (fun v => decide ((lst v).length = dm c))) (fun j => (lst c).length - j) ?_ 0 _ _ _ ?_
      · clear h1 h2 h3 h4 hj hj'
        intro j env σ n ⟨h1, h2, h3, h4⟩
        by_cases hj : j < (lst c).length
        · have hj' : (j : Int) < ((lst c).length : Int) := by omega
          have hx : (lst c)[j]? = some (lst c)[j] := List.getElem?_eq_getElem hj
          obtain ⟨v0, hv0, hd⟩ := dm_get (c := c) (fun h => by rw [h] at hj; simp at hj)
          rw [List.drop_eq_getElem_cons hj, List.all_cons] at h4
          have wj : IntKind.i64.wrap ((j : Int) + 1) = ((j + 1 : Nat) : Int) := by rw [wrap_i64] <;> omega
          generalize (lst c)[j] = x at *
          by_cases ho : (lst x).length = dm c
          · have ho' : (((lst x).length : Int) != ((lst v0).length : Int)) = false := by simp; omega
            rw [decide_eq_true ho, Bool.true_and] at h4
            simp +contextual -implicitDefEqProofs (maxSteps := 2000000) only [↓wP, wQ, wQ1, wQ2, wQ3, wR, boxE, partsOf, ↓reduceIte, Nat.reduceEqDiff, Nat.reduceAdd, Nat.reduceSub, Nat.reduceLeDiff, Nat.reduceLT, Nat.reduceMul, reduceCtorEq, Int.reduceBNe, Int.reduceBEq, Int.reduceLT, Int.reduceLE, Int.reduceGT, h2, h3, hj', hx, hv0, vecV_eq, ho', wj]
            exact ⟨j + 1, by omega, by omega, rfl, h4⟩
          · have ho' : (((lst x).length : Int) != ((lst v0).length : Int)) = true := by simp; omega
            rw [decide_eq_false ho, Bool.false_and] at h4
            simp +contextual -implicitDefEqProofs (maxSteps := 2000000) only [↓wP, wQ, wQ1, wQ2, wQ3, wR, boxE, partsOf, ↓reduceIte, Nat.reduceEqDiff, Nat.reduceAdd, Nat.reduceSub, Nat.reduceLeDiff, Nat.reduceLT, Nat.reduceMul, reduceCtorEq, Int.reduceBNe, Int.reduceBEq, Int.reduceLT, Int.reduceLE, Int.reduceGT, h2, h3, hj', hx, hv0, vecV_eq, ho']
            rw [h4]; rfl
        · have hj' : ¬ (j : Int) < ((lst c).length : Int) := by omega
          have hall2 : (lst c).all (fun v => decide ((lst v).length = dm c)) = true := by rw [h4, List.drop_of_length_le (by omega)]; rfl
          simp +contextual -implicitDefEqProofs (maxSteps := 2000000) only [↓wP, wQ, wQ1, wQ2, wQ3, wR, boxE, partsOf, ↓reduceIte, Nat.reduceEqDiff, Nat.reduceAdd, Nat.reduceSub, Nat.reduceLeDiff, Nat.reduceLT, Nat.reduceMul, reduceCtorEq, Int.reduceBNe, Int.reduceBEq, Int.reduceLT, Int.reduceLE, Int.reduceGT, h2, h3, hj']
          rw [hall2]; rfl
      · simp +contextual -implicitDefEqProofs (maxSteps := 2000000) only [↓wP, wQ, wQ1, wQ2, wQ3, wR, boxE, partsOf, ↓reduceIte, Nat.reduceEqDiff, Nat.reduceAdd, Nat.reduceSub, Nat.reduceLeDiff, Nat.reduceLT, Nat.reduceMul, reduceCtorEq, Int.reduceBNe, Int.reduceBEq, Int.reduceLT, Int.reduceLE, Int.reduceGT, h2]
        simp
  · simp +contextual -implicitDefEqProofs (maxSteps := 2000000) only [↓wP, wQ, wQ1, wQ2, wQ3, wR, boxE, partsOf, ↓reduceIte, Nat.reduceEqDiff, Nat.reduceAdd, Nat.reduceSub, Nat.reduceLeDiff, Nat.reduceLT, Nat.reduceMul, reduceCtorEq, Int.reduceBNe, Int.reduceBEq, Int.reduceLT, Int.reduceLE, Int.reduceGT]
    simp
theorem f99 (c : Option (List Vc)) (hl : (lst c).length < 4611686018427387904) (hv : ∀ v ∈ lst c, Sm v) (fs : Bool) (σ : Sto) (n lk : Nat) : callE T fs 99 [slV 1 vecV c] σ n lk = some (.int .i64 (if (lst c).all okV then (if (lst c).all (fun v => decide ((lst v).length = dm c)) then 0 else 151) else 150), σ, n) :=
  callE_tr (by decide) (r99 c hl hv) (by simp [Tr, Tr_slV]) rfl fs σ n lk
theorem r63 (c : Option (List Vc)) (hl : (lst c).length < 4611686018427387904) (hv : ∀ v ∈ lst c, Sm v) : res T 63 [slV 1 vecV c] = some (.bool (cents c)) := by
  refine run_res (run_pure (fn := g63) rfl rfl (by decide) ?_)
  simp only [g63, b63, oO, oN, mV, lD, gO, pP, qQ, cI, aR]
  have h := f99 c hl hv
  have hall : (lst c).all (okC c) = ((lst c).all okV && (lst c).all (fun v => decide ((lst v).length = dm c))) := by
    unfold okC
    induction lst c with
    | nil => rfl
    | cons v l ih => simp only [List.all_cons, ih]; cases okV v <;> cases l.all okV <;> simp
  unfold cents
  rw [hall]
  by_cases h6 : ((lst c).length : Int) ≤ 6
  · have h6' : (lst c).length ≤ 6 := by omega
    cases ha : (lst c).all okV <;> cases hb : (lst c).all (fun v => decide ((lst v).length = dm c)) <;> rw [ha, hb] at h <;> simp only [if_true, if_false, Bool.false_eq_true] at h
    all_goals simp +contextual -implicitDefEqProofs (maxSteps := 2000000) only [↓wP, wQ, wQ1, wQ2, wQ3, wR, boxE, partsOf, ↓reduceIte, Nat.reduceEqDiff, Nat.reduceAdd, Nat.reduceSub, Nat.reduceLeDiff, Nat.reduceLT, Nat.reduceMul, reduceCtorEq, Int.reduceBNe, Int.reduceBEq, Int.reduceLT, Int.reduceLE, Int.reduceGT, h6, h6', h]
  · have h6' : ¬ (lst c).length ≤ 6 := by omega
    simp +contextual -implicitDefEqProofs (maxSteps := 2000000) only [↓wP, wQ, wQ1, wQ2, wQ3, wR, boxE, partsOf, ↓reduceIte, Nat.reduceEqDiff, Nat.reduceAdd, Nat.reduceSub, Nat.reduceLeDiff, Nat.reduceLT, Nat.reduceMul, reduceCtorEq, Int.reduceBNe, Int.reduceBEq, Int.reduceLT, Int.reduceLE, Int.reduceGT, h6, h6']
theorem f63 (c : Option (List Vc)) (hl : (lst c).length < 4611686018427387904) (hv : ∀ v ∈ lst c, Sm v) (fs : Bool) (σ : Sto) (n lk : Nat) : callE T fs 63 [slV 1 vecV c] σ n lk = some (.bool (cents c), σ, n) :=
  callE_tr (by decide) (r63 c hl hv) (by simp [Tr, Tr_slV]) rfl fs σ n lk
def cnE (c : Option (List Vc)) (v : Vc) : Int := if trE c ≠ 0 then trE c else if dm c = (lst v).length then 0 else 151
theorem r28 (c : Option (List Vc)) (v : Vc) (hl : (lst c).length < 4611686018427387904) (hv : ∀ v ∈ lst c, Sm v) : res T 28 [slV 1 vecV c, slV 1 i32V v] = some (.int .i64 (cnE c v)) := by
  refine run_res (run_pure (fn := g28) rfl rfl (by decide) ?_)
  simp only [g28, b28, oO, oN, mV, lD, gO, pP, qQ, cI, aR]
  have h := f63 c hl hv
  unfold cnE trE
  by_cases h0 : lst c = []
  · have z0 : (((0 : Nat) : Int) == 0) = true := rfl
    simp +contextual -implicitDefEqProofs (maxSteps := 2000000) only [↓wP, wQ, wQ1, wQ2, wQ3, wR, boxE, partsOf, ↓reduceIte, Nat.reduceEqDiff, Nat.reduceAdd, Nat.reduceSub, Nat.reduceLeDiff, Nat.reduceLT, Nat.reduceMul, reduceCtorEq, Int.reduceBNe, Int.reduceBEq, Int.reduceLT, Int.reduceLE, Int.reduceGT, h0, List.length_nil, z0]
    rfl
  · have hne : (((lst c).length : Int) == 0) = false := by simp; exact h0
    obtain ⟨v0, hv0, hd⟩ := dm_get h0
    cases hc : cents c
    · rw [hc] at h
      simp +contextual -implicitDefEqProofs (maxSteps := 2000000) only [↓wP, wQ, wQ1, wQ2, wQ3, wR, boxE, partsOf, ↓reduceIte, Nat.reduceEqDiff, Nat.reduceAdd, Nat.reduceSub, Nat.reduceLeDiff, Nat.reduceLT, Nat.reduceMul, reduceCtorEq, Int.reduceBNe, Int.reduceBEq, Int.reduceLT, Int.reduceLE, Int.reduceGT, hne, h0, h]
      rfl
    · rw [hc] at h
      by_cases hx : dm c = (lst v).length
      · have hx' : (((lst v0).length : Int) != ((lst v).length : Int)) = false := by rw [← hd, hx]; simp
        simp +contextual -implicitDefEqProofs (maxSteps := 2000000) only [↓wP, wQ, wQ1, wQ2, wQ3, wR, boxE, partsOf, ↓reduceIte, Nat.reduceEqDiff, Nat.reduceAdd, Nat.reduceSub, Nat.reduceLeDiff, Nat.reduceLT, Nat.reduceMul, reduceCtorEq, Int.reduceBNe, Int.reduceBEq, Int.reduceLT, Int.reduceLE, Int.reduceGT, hne, h0, h, hv0, vecV_eq, hx', hx]
        rfl
      · have hx' : (((lst v0).length : Int) != ((lst v).length : Int)) = true := by rw [← hd]; simp; omega
        simp +contextual -implicitDefEqProofs (maxSteps := 2000000) only [↓wP, wQ, wQ1, wQ2, wQ3, wR, boxE, partsOf, ↓reduceIte, Nat.reduceEqDiff, Nat.reduceAdd, Nat.reduceSub, Nat.reduceLeDiff, Nat.reduceLT, Nat.reduceMul, reduceCtorEq, Int.reduceBNe, Int.reduceBEq, Int.reduceLT, Int.reduceLE, Int.reduceGT, hne, h0, h, hv0, vecV_eq, hx', hx]
        rfl
theorem f28 (c : Option (List Vc)) (v : Vc) (hl : (lst c).length < 4611686018427387904) (hv : ∀ v ∈ lst c, Sm v) (fs : Bool) (σ : Sto) (n lk : Nat) : callE T fs 28 [slV 1 vecV c, slV 1 i32V v] σ n lk = some (.int .i64 (cnE c v), σ, n) :=
  callE_tr (by decide) (r28 c v hl hv) (by simp [Tr, Tr_slV]) rfl fs σ n lk
def askE (n : Int) : Int := if n < 1 then 2 else if 1048576 < n then 2 else 0
theorem r34 (m : Int) : res T 34 [.int .i64 m] = some (.int .i64 (askE m)) := by
  refine run_res (run_pure (fn := g34) rfl rfl (by decide) ?_)
  simp only [g34, b34, oO, oN, mV, lD, gO, pP, qQ, cI, aR]
  unfold askE
  by_cases h1 : m < 1
  · simp +contextual -implicitDefEqProofs (maxSteps := 2000000) only [↓wP, wQ, wQ1, wQ2, wQ3, wR, boxE, partsOf, ↓reduceIte, Nat.reduceEqDiff, Nat.reduceAdd, Nat.reduceSub, Nat.reduceLeDiff, Nat.reduceLT, Nat.reduceMul, reduceCtorEq, Int.reduceBNe, Int.reduceBEq, Int.reduceLT, Int.reduceLE, Int.reduceGT, h1]
  · by_cases h2 : 1048576 < m
    · simp +contextual -implicitDefEqProofs (maxSteps := 2000000) only [↓wP, wQ, wQ1, wQ2, wQ3, wR, boxE, partsOf, ↓reduceIte, Nat.reduceEqDiff, Nat.reduceAdd, Nat.reduceSub, Nat.reduceLeDiff, Nat.reduceLT, Nat.reduceMul, reduceCtorEq, Int.reduceBNe, Int.reduceBEq, Int.reduceLT, Int.reduceLE, Int.reduceGT, h1, h2]
    · simp +contextual -implicitDefEqProofs (maxSteps := 2000000) only [↓wP, wQ, wQ1, wQ2, wQ3, wR, boxE, partsOf, ↓reduceIte, Nat.reduceEqDiff, Nat.reduceAdd, Nat.reduceSub, Nat.reduceLeDiff, Nat.reduceLT, Nat.reduceMul, reduceCtorEq, Int.reduceBNe, Int.reduceBEq, Int.reduceLT, Int.reduceLE, Int.reduceGT, h1, h2]
theorem f34 (m : Int) (fs : Bool) (σ : Sto) (n lk : Nat) : callE T fs 34 [.int .i64 m] σ n lk = some (.int .i64 (askE m), σ, n) :=
  callE_tr (by decide) (r34 m) (by simp [Tr, Tr_slV]) rfl fs σ n lk
def nrE (c : Option (List Vc)) (v : Vc) (n : Int) : Int := if askE n ≠ 0 then askE n else if okV v then cnE c v else 150
end Go.Q.SZ
end
