/- A sort of few. -/
import Derived.Test.YtfbkhkihiohfkaaSB
import Derived.Test.YtfbkhkihiohfkaaProg
import Derived.KernelRfl
section
set_option linter.unusedSimpArgs false
set_option linter.unusedVariables false
namespace Go.Q.SB
open Go.Q Go.Sort
theorem raw112N (F : Nat) (hF : CmpF F) {d : Array Rw} {N : Nat} (hN : d.size = N) (a b id n : Nat) (σ : Sto) (hab : a ≤ b) (hb : b ≤ N) (hn : N < 1000000) (hσ : σ id = some (.row 2 (rw' d))) {Q : V → Sto → Nat → Prop}
    (hQ : ∀ σ', At σ' σ id (insertionSort ahR d a b) → Q .undef σ' n) :
    run T (.raw 112 [.ref id 0 N 2, .int .i64 (a : Int), .int .i64 (b : Int), .fn F []] σ n 0) (memQ Q) := by subst hN; exact raw112 F hF d a b id n σ hab hb hn hσ hQ
theorem raw114N (F : Nat) (hF : CmpF F) {d : Array Rw} {N : Nat} (hN : d.size = N) (a b id n : Nat) (σ : Sto) (h8 : 8 ≤ b - a) (h60 : b - a < 130) (hb : b ≤ N) (hn : N < 1000000) (hid : id < n) (hσ : σ id = some (.row 2 (rw' d))) {Q : V → Sto → Nat → Prop}
    (hQ : ∀ σ' d' n', n ≤ n' → σ' id = some (.row 2 (rw' d')) → (∀ i, i ≠ id → i < n → σ' i = σ i) → PermIn a b d d' → Q .undef σ' n') :
    run T (.raw 114 [.ref id 0 N 2, .int .i64 (a : Int), .int .i64 (b : Int), .fn F []] σ n 0) (memQ Q) := by subst hN; exact raw114 F hF d a b id n σ h8 h60 hb hn hid hσ hQ
theorem raw116N (F : Nat) (hF : CmpF F) {d : Array Rw} {N : Nat} (hN : d.size = N) (a b id n : Nat) (σ : Sto) (hab : a < b) (hb : b ≤ N) (hn : N < 1000000) (hσ : σ id = some (.row 2 (rw' d))) {Q : V → Sto → Nat → Prop}
    (hQ : ∀ σ' d', At σ' σ id d' → PermIn a b d d' → Q .undef σ' n) :
    run T (.raw 116 [.ref id 0 N 2, .int .i64 (a : Int), .int .i64 (b : Int), .fn F []] σ n 0) (memQ Q) := by subst hN; exact raw116 F hF d a b id n σ hab hb hn hσ hQ
theorem raw118N (F : Nat) (hF : CmpF F) {d : Array Rw} {N : Nat} (hN : d.size = N) (a b p id n : Nat) (σ : Sto) (hap : a ≤ p) (hpb : p < b) (hb : b ≤ N) (hn : N < 1000000) (hσ : σ id = some (.row 2 (rw' d))) {Q : V → Sto → Nat → Prop}
    (hQ : ∀ σ', At σ' σ id (partitionEqual ahR d a b p).2 → Q (.int .i64 ((partitionEqual ahR d a b p).1 : Int)) σ' n) :
    run T (.raw 118 [.ref id 0 N 2, .int .i64 (a : Int), .int .i64 (b : Int), .int .i64 (p : Int), .fn F []] σ n 0) (memQ Q) := by subst hN; exact raw118 F hF d a b p id n σ hap hpb hb hn hσ hQ
theorem raw119N (F : Nat) (hF : CmpF F) {d : Array Rw} {N : Nat} (hN : d.size = N) (a b p id n : Nat) (σ : Sto) (hap : a ≤ p) (hpb : p < b) (hb : b ≤ N) (hn : N < 1000000) (hσ : σ id = some (.row 2 (rw' d))) {Q : V → Sto → Nat → Prop}
    (hQ : ∀ σ', At σ' σ id (partition ahR d a b p).2.2 → Q (.tup [.int .i64 ((partition ahR d a b p).1 : Int), .bool (partition ahR d a b p).2.1]) σ' n) :
    run T (.raw 119 [.ref id 0 N 2, .int .i64 (a : Int), .int .i64 (b : Int), .int .i64 (p : Int), .fn F []] σ n 0) (memQ Q) := by subst hN; exact raw119 F hF d a b p id n σ hap hpb hb hn hσ hQ
theorem frz_row {d : Array Rw} {N id : Nat} {σ : Sto} (hN : d.size = N) (h : σ id = some (.row 2 (rw' d))) (k : Nat) : frz σ (k + 3) (.ref id 0 N 2) = some (.sl 2 (rw' d)) := by
  have hl : N = (rw' d).length := by rw [rw_len, hN]
  rw [hl]
  refine (Fz.ref (S := fun _ => True) h trivial (FzL.trees ?_ ?_)).1
  · intro x hx
    unfold rw' at hx
    obtain ⟨y, -, rfl⟩ := List.mem_map.1 hx
    simp [rwV, Tr, Tr_slV]
  · intro x hx c hc
    unfold rw' at hx
    obtain ⟨y, -, rfl⟩ := List.mem_map.1 hx
    simp only [rwV, V.cells, List.mem_cons, List.not_mem_nil, or_false] at hc
    rcases hc with rfl | rfl
    · rfl
    · exact Tr_slV _ _ _ _
theorem f115 (F : Nat) (hF : CmpF F) (d : Array Rw) (a b id N : Nat) (σ : Sto) (n lk : Nat) (hN : d.size = N) (hσ : σ id = some (.row 2 (rw' d))) (hab : a < b) (hb : b ≤ N) (hn : N < 1000000) :
    ∃ (p : Nat) (h : Int), a ≤ p ∧ p < b ∧ (h = 0 ∨ h = 1 ∨ h = 2) ∧ callE T true 115 [.ref id 0 N 2, .int .i64 (a : Int), .int .i64 (b : Int), .fn F []] σ n lk = some (.tup [.int .i64 (p : Int), .int .i64 h], σ, n) := by
  obtain ⟨p, h, h1, h2, h3, h4⟩ := r115 F hF d a b hab (by omega) (by omega)
  refine ⟨p, h, h1, h2, h3, ?_⟩
  rw [callE_eq (by decide)]
  have e : [V.ref id 0 N 2, .int .i64 (a : Int), .int .i64 (b : Int), .fn F []].mapM (frz σ 12) = some [.sl 2 (rw' d), .int .i64 (a : Int), .int .i64 (b : Int), .fn F []] := by
    simp only [List.mapM_cons, List.mapM_nil, frz_row hN hσ 9, frz_int, frz_fn]
    rfl
  rw [e, callR_some, h4, retE_some, backE_flat rfl]
  rfl
def Pdq (L N a0 b0 : Nat) (d : Array Rw) (a b lim : Nat) (e : Array Rw) : Prop :=
  a ≤ b ∧ b ≤ N ∧ b - a ≤ L ∧ b - a < 130 ∧ lim < 1000 ∧ e.size = N ∧ Below ahR a b e ∧
  ∀ R, PermIn a b e R → SortedIn ahR a b R → PermIn a0 b0 d R ∧ SortedIn ahR a0 b0 R
theorem Pdq.perm {L N a0 b0 a b lim : Nat} {d e e' : Array Rw} (h : Pdq L N a0 b0 d a b lim e) (hp : PermIn a b e e') : Pdq L N a0 b0 d a b lim e' := by
  obtain ⟨h1, h2, h3, h4, h6, h7, h8, h9⟩ := h
  exact ⟨h1, h2, h3, h4, h6, by rw [hp.1, h7], h8.perm (by omega) hp, fun R hR hs => h9 R (permIn_trans _ _ _ _ _ hp hR) hs⟩
theorem bin_quo8 (m : Nat) (h : m < 9223372036854775808) : binV .quo (.int .i64 (m : Int)) (.int .i64 8) = some (.int .i64 ((m / 8 : Nat) : Int)) := by
  rw [bin_quo .i64 (m : Int) 8 (by decide)]
  have e : (m : Int).tdiv 8 = ((m / 8 : Nat) : Int) := rfl
  rw [e, wrap_nat (by omega)]
def Sorts (F L : Nat) : Prop := ∀ (d : Array Rw) (a b lim id n N : Nat) (σ : Sto), b - a < L → a ≤ b → b - a < 130 → b ≤ N → N < 1000000 → lim < 1000 → id < n → d.size = N → σ id = some (.row 2 (rw' d)) →
    Below ahR a b d → ∀ {Q : V → Sto → Nat → Prop}, (∀ σ' d' n', n ≤ n' → σ' id = some (.row 2 (rw' d')) → (∀ i, i ≠ id → i < n → σ' i = σ i) → PermIn a b d d' → SortedIn ahR a b d' → Q .undef σ' n') →
    run T (.raw 103 [.ref id 0 N 2, .int .i64 (a : Int), .int .i64 (b : Int), .int .i64 (lim : Int), .fn F []] σ n 0) (memQ Q)
theorem raw103_step (F : Nat) (hF : CmpF F) (L : Nat) (ih : Sorts F L) : Sorts F (L + 1) := by
  intro d a b lim id n N σ hL hab h50 hb hn hlim hid hN hσ hB Q hQ
  refine run_rawE (fn := g103) rfl rfl ?_
  simp only [g103, b103, oO, oN, mV, lD, gO, pP, qQ, cI, aR]
  simp +contextual -implicitDefEqProofs (maxSteps := 2000000) only [↓wP, wQ, wQ1, wQ2, wQ3, wR, boxE, partsOf, ↓reduceIte, Nat.reduceEqDiff, Nat.reduceAdd, Nat.reduceSub, Nat.reduceLeDiff, Nat.reduceLT, Nat.reduceMul, reduceCtorEq, Int.reduceBNe, Int.reduceBEq, Int.reduceLT, Int.reduceLE, Int.reduceGT]
  refine WC_loopI 0 (fun (s : (Nat × Nat) × Nat) env σ' n' => n ≤ n' ∧ env 0 = .ref id 0 N 2 ∧ env 1 = .int .i64 (s.1.1 : Int) ∧ env 2 = .int .i64 (s.1.2 : Int) ∧ env 3 = .int .i64 (s.2 : Int) ∧ env 4 = .fn F [] ∧
      (∃ wb, env 10 = .bool wb) ∧ (∃ wp, env 11 = .bool wp) ∧ (∀ i, i ≠ id → i < n → σ' i = σ i) ∧ ∃ e, Pdq L N a b d s.1.1 s.1.2 s.2 e ∧ σ' id = some (.row 2 (rw' e))) (fun s => s.1.2 - s.1.1) ?_ ((a, b), lim) _ _ _ ?_
  · intro ⟨⟨a', b'⟩, lim'⟩ env σ1 n1 ⟨h1, h2, h3, h4, h5, h6, ⟨wb, h7⟩, ⟨wp, h8⟩, hf, e, hp, h9⟩
    dsimp only at h3 h4 h5 hp
    obtain ⟨p1, p2, p3, p4, p6, p7, p8, p9⟩ := hp
    have hp : Pdq L N a b d a' b' lim' e := ⟨p1, p2, p3, p4, p6, p7, p8, p9⟩
    have w1 : IntKind.i64.wrap ((b' : Int) - (a' : Int)) = ((b' - a' : Nat) : Int) := by rw [wrap_i64] <;> omega
    by_cases hle : b' - a' ≤ 12
    · have hle' : ((b' - a' : Nat) : Int) ≤ 12 := by omega
      simp +contextual -implicitDefEqProofs (maxSteps := 2000000) only [↓wP, wQ, wQ1, wQ2, wQ3, wR, boxE, partsOf, ↓reduceIte, Nat.reduceEqDiff, Nat.reduceAdd, Nat.reduceSub, Nat.reduceLeDiff, Nat.reduceLT, Nat.reduceMul, reduceCtorEq, Int.reduceBNe, Int.reduceBEq, Int.reduceLT, Int.reduceLE, Int.reduceGT, h2, h3, h4, h5, h6, w1, hle']
      refine stepW_raw (by decide) (raw112N F hF p7 a' b' id n1 σ1 p1 p2 hn h9 fun σ2 hat => ?_)
      simp +contextual -implicitDefEqProofs (maxSteps := 2000000) only [↓wP, wQ, wQ1, wQ2, wQ3, wR, boxE, partsOf, ↓reduceIte, Nat.reduceEqDiff, Nat.reduceAdd, Nat.reduceSub, Nat.reduceLeDiff, Nat.reduceLT, Nat.reduceMul, reduceCtorEq, Int.reduceBNe, Int.reduceBEq, Int.reduceLT, Int.reduceLE, Int.reduceGT]
      have hs := insertionSort_holds (lt := ahR) swoA e a' b' p1 (by omega)
      have hR := p9 _ hs.1 hs.2
      exact hQ _ _ _ h1 hat.1 (fun i hi hin => by rw [hat.2 i hi, hf i hi hin]) hR.1 hR.2
    · have hle' : ¬ ((b' - a' : Nat) : Int) ≤ 12 := by omega
      by_cases hl00 : lim' = 0
      · have hl0 : ((lim' : Int) == 0) = true := by simp [hl00]
        simp +contextual -implicitDefEqProofs (maxSteps := 2000000) only [↓wP, wQ, wQ1, wQ2, wQ3, wR, boxE, partsOf, ↓reduceIte, Nat.reduceEqDiff, Nat.reduceAdd, Nat.reduceSub, Nat.reduceLeDiff, Nat.reduceLT, Nat.reduceMul, reduceCtorEq, Int.reduceBNe, Int.reduceBEq, Int.reduceLT, Int.reduceLE, Int.reduceGT, h2, h3, h4, h5, h6, h7, h8, w1, hle', hl0]
        refine stepW_raw (by decide) (raw113 F hF e N a' b' id n1 σ1 p7 (by omega) p2 hn h9 fun σ2 hat => ?_)
        simp +contextual -implicitDefEqProofs (maxSteps := 2000000) only [↓wP, wQ, wQ1, wQ2, wQ3, wR, boxE, partsOf, ↓reduceIte, Nat.reduceEqDiff, Nat.reduceAdd, Nat.reduceSub, Nat.reduceLeDiff, Nat.reduceLT, Nat.reduceMul, reduceCtorEq, Int.reduceBNe, Int.reduceBEq, Int.reduceLT, Int.reduceLE, Int.reduceGT]
        have hs := heapSort_holds (lt := ahR) swoA e a' b' p1 (by omega)
        have hR := p9 _ hs.1 hs.2
        exact hQ _ _ _ h1 hat.1 (fun i hi hin => by rw [hat.2 i hi, hf i hi hin]) hR.1 hR.2
      have hl0 : ((lim' : Int) == 0) = false := by simp; omega
      simp +contextual -implicitDefEqProofs (maxSteps := 2000000) only [↓wP, wQ, wQ1, wQ2, wQ3, wR, boxE, partsOf, ↓reduceIte, Nat.reduceEqDiff, Nat.reduceAdd, Nat.reduceSub, Nat.reduceLeDiff, Nat.reduceLT, Nat.reduceMul, reduceCtorEq, Int.reduceBNe, Int.reduceBEq, Int.reduceLT, Int.reduceLE, Int.reduceGT, h2, h3, h4, h5, h6, h7, h8, w1, hle', hl0]
      refine condC_cut (fun env' σ' n' => ∃ lim1 e1, n1 ≤ n' ∧ env' 0 = .ref id 0 N 2 ∧ env' 1 = .int .i64 (a' : Int) ∧ env' 2 = .int .i64 (b' : Int) ∧ env' 3 = .int .i64 ((lim1 : Nat) : Int) ∧ env' 4 = .fn F [] ∧
          env' 10 = .bool wb ∧ env' 11 = .bool wp ∧ env' 12 = .int .i64 ((b' - a' : Nat) : Int) ∧ lim' ≤ lim1 + 1 ∧ lim1 ≤ lim' ∧ σ' id = some (.row 2 (rw' e1)) ∧ PermIn a' b' e e1 ∧ (∀ i, i ≠ id → i < n → σ' i = σ i)) ?_ ?_ ?_
      · intro hx
        have wl : IntKind.i64.wrap ((lim' : Int) - 1) = ((lim' - 1 : Nat) : Int) := by rw [wrap_i64] <;> omega
        simp +contextual -implicitDefEqProofs (maxSteps := 2000000) only [↓wP, wQ, wQ1, wQ2, wQ3, wR, boxE, partsOf, ↓reduceIte, Nat.reduceEqDiff, Nat.reduceAdd, Nat.reduceSub, Nat.reduceLeDiff, Nat.reduceLT, Nat.reduceMul, reduceCtorEq, Int.reduceBNe, Int.reduceBEq, Int.reduceLT, Int.reduceLE, Int.reduceGT, h2, h3, h4, h5, h6, h7, h8]
        refine stepW_raw (by decide) (raw114N F hF p7 a' b' id n1 σ1 (by omega) (by omega) p2 hn (by omega) h9 fun σ2 d2 n2 g1 g2 g3 g4 => ?_)
        simp +contextual -implicitDefEqProofs (maxSteps := 2000000) only [↓wP, wQ, wQ1, wQ2, wQ3, wR, boxE, partsOf, ↓reduceIte, Nat.reduceEqDiff, Nat.reduceAdd, Nat.reduceSub, Nat.reduceLeDiff, Nat.reduceLT, Nat.reduceMul, reduceCtorEq, Int.reduceBNe, Int.reduceBEq, Int.reduceLT, Int.reduceLE, Int.reduceGT, h2, h3, h4, h5, h6, h7, h8, wl]
        refine ⟨lim' - 1, d2, ?_⟩
        have : ∀ i, i ≠ id → i < n → σ2 i = σ i := fun i hi hin => by rw [g3 i hi (by omega), hf i hi hin]
        repeat' (first | assumption | rfl | omega | apply And.intro)
      · intro hx
        simp +contextual -implicitDefEqProofs (maxSteps := 2000000) only [↓wP, wQ, wQ1, wQ2, wQ3, wR, boxE, partsOf, ↓reduceIte, Nat.reduceEqDiff, Nat.reduceAdd, Nat.reduceSub, Nat.reduceLeDiff, Nat.reduceLT, Nat.reduceMul, reduceCtorEq, Int.reduceBNe, Int.reduceBEq, Int.reduceLT, Int.reduceLE, Int.reduceGT, h2, h3, h4, h5, h6, h7, h8]
        refine ⟨lim', e, ?_⟩
        have := permIn_refl e a' b'
        repeat' (first | assumption | rfl | omega | apply And.intro)
      · clear h2 h3 h4 h5 h6 h7 h8 hf h9
        intro env σ1 n2 ⟨lim1, e1, hn1, h2, h3, h4, h5, h6, h7, h8, hlen, hl1, hl2, h9, hpm, hf⟩
        have hp1 := hp.perm hpm
        obtain ⟨q1, q2, q3, q4, q6, q7, q8, q9⟩ := hp1
        obtain ⟨p, hh, hp1', hp2', hh3, h115⟩ := f115 F hF e1 a' b' id N σ1 n2 0 q7 h9 (by omega) q2 hn
        simp +contextual -implicitDefEqProofs (maxSteps := 2000000) only [↓wP, wQ, wQ1, wQ2, wQ3, wR, boxE, partsOf, ↓reduceIte, Nat.reduceEqDiff, Nat.reduceAdd, Nat.reduceSub, Nat.reduceLeDiff, Nat.reduceLT, Nat.reduceMul, reduceCtorEq, Int.reduceBNe, Int.reduceBEq, Int.reduceLT, Int.reduceLE, Int.reduceGT, h2, h3, h4, h5, h6, h7, h8, hlen, h115]
        refine condC_cut (fun env' σ' n' => ∃ (p' : Nat) (h' : Int) (e2 : Array Rw), n2 ≤ n' ∧ env' 0 = .ref id 0 N 2 ∧ env' 1 = .int .i64 (a' : Int) ∧ env' 2 = .int .i64 (b' : Int) ∧ env' 3 = .int .i64 ((lim1 : Nat) : Int) ∧ env' 4 = .fn F [] ∧
            env' 10 = .bool wb ∧ env' 11 = .bool wp ∧ env' 12 = .int .i64 ((b' - a' : Nat) : Int) ∧ env' 13 = .int .i64 (p' : Int) ∧ env' 14 = .int .i64 h' ∧ a' ≤ p' ∧ p' < b' ∧ σ' id = some (.row 2 (rw' e2)) ∧ PermIn a' b' e e2 ∧ (∀ i, i ≠ id → i < n → σ' i = σ i)) ?_ ?_ ?_
        · intro hx
          have wb1 : IntKind.i64.wrap ((b' : Int) - 1) = ((b' - 1 : Nat) : Int) := by rw [wrap_i64] <;> omega
          have wpa : IntKind.i64.wrap ((p : Int) - (a' : Int)) = ((p - a' : Nat) : Int) := by rw [wrap_i64] <;> omega
          have wpp : IntKind.i64.wrap (((b' - 1 : Nat) : Int) - ((p - a' : Nat) : Int)) = ((b' - 1 - (p - a') : Nat) : Int) := by rw [wrap_i64] <;> omega
          simp +contextual -implicitDefEqProofs (maxSteps := 2000000) only [↓wP, wQ, wQ1, wQ2, wQ3, wR, boxE, partsOf, ↓reduceIte, Nat.reduceEqDiff, Nat.reduceAdd, Nat.reduceSub, Nat.reduceLeDiff, Nat.reduceLT, Nat.reduceMul, reduceCtorEq, Int.reduceBNe, Int.reduceBEq, Int.reduceLT, Int.reduceLE, Int.reduceGT, h2, h3, h4, h5, h6, h7, h8, hlen]
          refine stepW_raw (by decide) (raw116N F hF q7 a' b' id n2 σ1 (by omega) q2 hn h9 fun σ2 d2 g1 g2 => ?_)
          simp +contextual -implicitDefEqProofs (maxSteps := 2000000) only [↓wP, wQ, wQ1, wQ2, wQ3, wR, boxE, partsOf, ↓reduceIte, Nat.reduceEqDiff, Nat.reduceAdd, Nat.reduceSub, Nat.reduceLeDiff, Nat.reduceLT, Nat.reduceMul, reduceCtorEq, Int.reduceBNe, Int.reduceBEq, Int.reduceLT, Int.reduceLE, Int.reduceGT, h2, h3, h4, h5, h6, h7, h8, hlen, wb1, wpa, wpp]
          refine ⟨b' - 1 - (p - a'), 1, d2, ?_⟩
          have : ∀ i, i ≠ id → i < n → σ2 i = σ i := fun i hi hin => by rw [g1.2 i hi, hf i hi hin]
          have := permIn_trans _ _ _ _ _ hpm g2
          have := g1.1
          repeat' (first | assumption | rfl | omega | apply And.intro)
        · intro hx
          simp +contextual -implicitDefEqProofs (maxSteps := 2000000) only [↓wP, wQ, wQ1, wQ2, wQ3, wR, boxE, partsOf, ↓reduceIte, Nat.reduceEqDiff, Nat.reduceAdd, Nat.reduceSub, Nat.reduceLeDiff, Nat.reduceLT, Nat.reduceMul, reduceCtorEq, Int.reduceBNe, Int.reduceBEq, Int.reduceLT, Int.reduceLE, Int.reduceGT, h2, h3, h4, h5, h6, h7, h8, hlen]
          refine ⟨p, hh, e1, ?_⟩
          repeat' (first | assumption | rfl | omega | apply And.intro)
        · clear h2 h3 h4 h5 h6 h7 h8 hlen hpm hf h9 q1 q2 q3 q4 q6 q7 q8 q9 h115
          intro env σ1 n3 ⟨p', h', e2, hn3, h2, h3, h4, h5, h6, h7, h8, hlen, h13, h14, hpa, hpb, h9, hpm, hf⟩
          obtain ⟨q1, q2, q3, q4, q6, q7, q8, q9⟩ := hp.perm hpm
          simp +contextual -implicitDefEqProofs (maxSteps := 2000000) only [↓wP, wQ, wQ1, wQ2, wQ3, wR, boxE, partsOf, ↓reduceIte, Nat.reduceEqDiff, Nat.reduceAdd, Nat.reduceSub, Nat.reduceLeDiff, Nat.reduceLT, Nat.reduceMul, reduceCtorEq, Int.reduceBNe, Int.reduceBEq, Int.reduceLT, Int.reduceLE, Int.reduceGT, h2, h3, h4, h5, h6, h7, h8, hlen, h13, h14]
          refine condC_cut (fun env' σ' n' => ∃ (e3 : Array Rw), n3 ≤ n' ∧ env' 0 = .ref id 0 N 2 ∧ env' 1 = .int .i64 (a' : Int) ∧ env' 2 = .int .i64 (b' : Int) ∧ env' 3 = .int .i64 ((lim1 : Nat) : Int) ∧ env' 4 = .fn F [] ∧
              env' 10 = .bool wb ∧ env' 11 = .bool wp ∧ env' 12 = .int .i64 ((b' - a' : Nat) : Int) ∧ env' 13 = .int .i64 (p' : Int) ∧ σ' id = some (.row 2 (rw' e3)) ∧ PermIn a' b' e e3 ∧ (∀ i, i ≠ id → i < n → σ' i = σ i)) ?_ ?_ ?_
          · intro hx
            simp +contextual -implicitDefEqProofs (maxSteps := 2000000) only [↓wP, wQ, wQ1, wQ2, wQ3, wR, boxE, partsOf, ↓reduceIte, Nat.reduceEqDiff, Nat.reduceAdd, Nat.reduceSub, Nat.reduceLeDiff, Nat.reduceLT, Nat.reduceMul, reduceCtorEq, Int.reduceBNe, Int.reduceBEq, Int.reduceLT, Int.reduceLE, Int.reduceGT, h2, h3, h4, h5, h6, h7, h8, hlen, h13, h14]
            refine stepW_raw (by decide) (raw117 F hF e2 N a' b' id n3 σ1 q7 (by omega) q2 hn h9 fun σ2 hat => ?_)
            obtain ⟨ps1, ps2⟩ := partialInsertionSort_holds (lt := ahR) swoA e2 a' b' (by omega) (by omega) q8
            generalize (partialInsertionSort ahR e2 a' b').1 = e3 at *
            generalize (partialInsertionSort ahR e2 a' b').2 = r at *
            have hfr : ∀ i, i ≠ id → i < n → σ2 i = σ i := fun i hi hin => by rw [hat.2 i hi, hf i hi hin]
            have hpm3 := permIn_trans _ _ _ _ _ hpm ps1
            cases r
            · simp +contextual -implicitDefEqProofs (maxSteps := 2000000) only [↓wP, wQ, wQ1, wQ2, wQ3, wR, boxE, partsOf, ↓reduceIte, Nat.reduceEqDiff, Nat.reduceAdd, Nat.reduceSub, Nat.reduceLeDiff, Nat.reduceLT, Nat.reduceMul, reduceCtorEq, Int.reduceBNe, Int.reduceBEq, Int.reduceLT, Int.reduceLE, Int.reduceGT, h2, h3, h4, h5, h6, h7, h8, hlen, h13, h14]
              exact ⟨e3, hat.1, hpm3, hfr⟩
            · simp +contextual -implicitDefEqProofs (maxSteps := 2000000) only [↓wP, wQ, wQ1, wQ2, wQ3, wR, boxE, partsOf, ↓reduceIte, Nat.reduceEqDiff, Nat.reduceAdd, Nat.reduceSub, Nat.reduceLeDiff, Nat.reduceLT, Nat.reduceMul, reduceCtorEq, Int.reduceBNe, Int.reduceBEq, Int.reduceLT, Int.reduceLE, Int.reduceGT, h2, h3, h4, h5, h6, h7, h8, hlen, h13, h14]
              have hR := q9 e3 ps1 (ps2 rfl)
              exact hQ _ _ _ (by omega) hat.1 hfr hR.1 hR.2
          · intro hx
            simp +contextual -implicitDefEqProofs (maxSteps := 2000000) only [↓wP, wQ, wQ1, wQ2, wQ3, wR, boxE, partsOf, ↓reduceIte, Nat.reduceEqDiff, Nat.reduceAdd, Nat.reduceSub, Nat.reduceLeDiff, Nat.reduceLT, Nat.reduceMul, reduceCtorEq, Int.reduceBNe, Int.reduceBEq, Int.reduceLT, Int.reduceLE, Int.reduceGT, h2, h3, h4, h5, h6, h7, h8, hlen, h13, h14]
            exact ⟨e2, h9, hpm, hf⟩
          · clear h2 h3 h4 h5 h6 h7 h8 hlen h13 h14 hpm hf h9 q1 q2 q3 q4 q6 q7 q8 q9
            intro env σ2 n4 ⟨e3, hn4, h2, h3, h4, h5, h6, h7, h8, hlen, h13, h9, hpm, hf⟩
            have hn3' : n1 ≤ n4 := by omega
            clear hn4
            rename_i e2old
            obtain ⟨q1, q2, q3, q4, q6, q7, q8, q9⟩ := hp.perm hpm
            generalize e3 = e2 at *
            rw [seqQ_normal, WC_seq]
            refine WC_cut (fun env' σ' n' => n' = n4 ∧ σ' = σ2 ∧ env' 0 = .ref id 0 N 2 ∧ env' 1 = .int .i64 (a' : Int) ∧ env' 2 = .int .i64 (b' : Int) ∧ env' 3 = .int .i64 ((lim1 : Nat) : Int) ∧ env' 4 = .fn F [] ∧
              env' 10 = .bool wb ∧ env' 11 = .bool wp ∧ env' 12 = .int .i64 ((b' - a' : Nat) : Int) ∧ env' 13 = .int .i64 (p' : Int)) ?_ ?_
            · by_cases ha0 : 0 < a'
              · have ha0' : (0 : Int) < (a' : Int) := by omega
                have wa1 : IntKind.i64.wrap ((a' : Int) - 1) = ((a' - 1 : Nat) : Int) := by rw [wrap_i64] <;> omega
                have x1 := rw_at (d := e2) (i := a' - 1) (by omega)
                have x2 := rw_at (d := e2) (i := p') (by omega)
                have l1 : a' - 1 < N := by omega
                have l2 : p' < N := by omega
                by_cases hc : cmpU (e2[a' - 1]!).id (e2[p']!).id < 0
                · simp +contextual -implicitDefEqProofs (maxSteps := 2000000) only [↓wP, wQ, wQ1, wQ2, wQ3, wR, boxE, partsOf, ↓reduceIte, Nat.reduceEqDiff, Nat.reduceAdd, Nat.reduceSub, Nat.reduceLeDiff, Nat.reduceLT, Nat.reduceMul, reduceCtorEq, Int.reduceBNe, Int.reduceBEq, Int.reduceLT, Int.reduceLE, Int.reduceGT, h2, h3, h4, h5, h6, h7, h8, hlen, h13, ha0', wa1, h9, x1, x2, l1, l2, hF, hc]
                · have hah : ahR e2[a' - 1]! e2[p']! = false := by rw [← cmp_lt]; simpa using hc
                  simp +contextual -implicitDefEqProofs (maxSteps := 2000000) only [↓wP, wQ, wQ1, wQ2, wQ3, wR, boxE, partsOf, ↓reduceIte, Nat.reduceEqDiff, Nat.reduceAdd, Nat.reduceSub, Nat.reduceLeDiff, Nat.reduceLT, Nat.reduceMul, reduceCtorEq, Int.reduceBNe, Int.reduceBEq, Int.reduceLT, Int.reduceLE, Int.reduceGT, h2, h3, h4, h5, h6, h7, h8, hlen, h13, ha0', wa1, h9, x1, x2, l1, l2, hF, hc]
                  refine stepW_raw (by decide) (raw118N F hF q7 a' b' p' id n4 σ2 hpa hpb q2 hn h9 fun σ5 hat => ?_)
                  obtain ⟨r1, r2, r3, r4, r5⟩ := round_eq (lt := ahR) swoA (partitionEqual_holds ahR) (d3 := e2) (d4 := (partitionEqual ahR e2 a' b' p').2) (mid := (partitionEqual ahR e2 a' b' p').1) (a := a') (b := b') (pivot := p') ha0 hpa hpb (by omega) q8 hah rfl
                  simp +contextual -implicitDefEqProofs (maxSteps := 2000000) only [↓wP, wQ, wQ1, wQ2, wQ3, wR, boxE, partsOf, ↓reduceIte, Nat.reduceEqDiff, Nat.reduceAdd, Nat.reduceSub, Nat.reduceLeDiff, Nat.reduceLT, Nat.reduceMul, reduceCtorEq, Int.reduceBNe, Int.reduceBEq, Int.reduceLT, Int.reduceLE, Int.reduceGT, h2, h3, h4, h5, h6, h7, h8, hlen, h13]
                  generalize (partitionEqual ahR e2 a' b' p').2 = e3 at *
                  generalize (partitionEqual ahR e2 a' b' p').1 = mid at *
                  have hfr : ∀ i, i ≠ id → i < n → σ5 i = σ i := fun i hi hin => by rw [hat.2 i hi, hf i hi hin]
                  refine ⟨((mid, b'), lim1), by dsimp only; omega, by omega, rfl, rfl, rfl, ⟨_, rfl⟩, ⟨_, rfl⟩, hfr, e3, ⟨r2, q2, by dsimp only; omega, by dsimp only; omega, by dsimp only; omega, by rw [r3, q7], r4, fun R hR hs => ?_⟩, hat.1⟩
                  obtain ⟨t1, t2⟩ := r5 R hR hs
                  exact q9 R t1 t2
              · have ha0' : ¬ (0 : Int) < (a' : Int) := by omega
                simp +contextual -implicitDefEqProofs (maxSteps := 2000000) only [↓wP, wQ, wQ1, wQ2, wQ3, wR, boxE, partsOf, ↓reduceIte, Nat.reduceEqDiff, Nat.reduceAdd, Nat.reduceSub, Nat.reduceLeDiff, Nat.reduceLT, Nat.reduceMul, reduceCtorEq, Int.reduceBNe, Int.reduceBEq, Int.reduceLT, Int.reduceLE, Int.reduceGT, h2, h3, h4, h5, h6, h7, h8, hlen, h13, ha0']
            · clear h2 h3 h4 h5 h6 h7 h8 hlen h13
              intro env σ3 n5 ⟨hn5, hs5, h2, h3, h4, h5, h6, h7, h8, hlen, h13⟩
              subst hn5 hs5
              simp +contextual -implicitDefEqProofs (maxSteps := 2000000) only [↓wP, wQ, wQ1, wQ2, wQ3, wR, boxE, partsOf, ↓reduceIte, Nat.reduceEqDiff, Nat.reduceAdd, Nat.reduceSub, Nat.reduceLeDiff, Nat.reduceLT, Nat.reduceMul, reduceCtorEq, Int.reduceBNe, Int.reduceBEq, Int.reduceLT, Int.reduceLE, Int.reduceGT, h2, h3, h4, h5, h6, h7, h8, hlen, h13]
              refine stepW_raw (by decide) (raw119N F hF q7 a' b' p' id n5 σ3 hpa hpb q2 hn h9 fun σ5 hat => ?_)
              obtain ⟨r1, r2, r3, r4, r5, r6, r7⟩ := round_part (lt := ahR) swoA (partition_holds ahR) (d3 := e2) (d4 := (partition ahR e2 a' b' p').2.2) (mid := (partition ahR e2 a' b' p').1) (ap := (partition ahR e2 a' b' p').2.1) (a := a') (b := b') (pivot := p') hpa hpb (by omega) q8 rfl
              generalize (partition ahR e2 a' b' p').2.2 = e3 at *
              generalize (partition ahR e2 a' b' p').1 = mid at *
              generalize (partition ahR e2 a' b' p').2.1 = ap at *
              have hfr : ∀ i, i ≠ id → i < n → σ5 i = σ i := fun i hi hin => by rw [hat.2 i hi, hf i hi hin]
              have wma : IntKind.i64.wrap ((mid : Int) - (a' : Int)) = ((mid - a' : Nat) : Int) := by rw [wrap_i64] <;> omega
              have wbm : IntKind.i64.wrap ((b' : Int) - (mid : Int)) = ((b' - mid : Nat) : Int) := by rw [wrap_i64] <;> omega
              have wm1 : IntKind.i64.wrap ((mid : Int) + 1) = ((mid + 1 : Nat) : Int) := by rw [wrap_i64] <;> omega
              have q8' := bin_quo8 (b' - a') (by omega)
              have hsz : e3.size = N := by rw [r3, q7]
              by_cases hlr : mid - a' < b' - mid
              · have hlr' : ((mid - a' : Nat) : Int) < ((b' - mid : Nat) : Int) := by omega
                simp +contextual -implicitDefEqProofs (maxSteps := 2000000) only [↓wP, wQ, wQ1, wQ2, wQ3, wR, boxE, partsOf, ↓reduceIte, Nat.reduceEqDiff, Nat.reduceAdd, Nat.reduceSub, Nat.reduceLeDiff, Nat.reduceLT, Nat.reduceMul, reduceCtorEq, Int.reduceBNe, Int.reduceBEq, Int.reduceLT, Int.reduceLE, Int.reduceGT, h2, h3, h4, h5, h6, h7, h8, hlen, h13, wma, wbm, wm1, q8', hlr']
                refine stepW_raw (by decide) (ih e3 a' mid lim1 id n5 N σ5 (by omega) r1 (by omega) (by omega) hn (by omega) (by omega) hsz hat.1 r4 fun σ6 d6 n6 k1 k2 k3 k4 k5 => ?_)
                obtain ⟨t1, t2⟩ := r6 d6 k4 k5
                simp +contextual -implicitDefEqProofs (maxSteps := 2000000) only [↓wP, wQ, wQ1, wQ2, wQ3, wR, boxE, partsOf, ↓reduceIte, Nat.reduceEqDiff, Nat.reduceAdd, Nat.reduceSub, Nat.reduceLeDiff, Nat.reduceLT, Nat.reduceMul, reduceCtorEq, Int.reduceBNe, Int.reduceBEq, Int.reduceLT, Int.reduceLE, Int.reduceGT, h2, h3, h4, h5, h6, h7, h8, hlen, h13, wm1]
                have hfr2 : ∀ i, i ≠ id → i < n → σ6 i = σ i := fun i hi hin => by rw [k3 i hi (by omega), hfr i hi hin]
                refine ⟨((mid + 1, b'), lim1), by dsimp only; omega, by omega, rfl, rfl, rfl, ⟨_, rfl⟩, ⟨_, rfl⟩, hfr2, d6, ⟨by dsimp only; omega, q2, by dsimp only; omega, by dsimp only; omega, by dsimp only; omega, by rw [k4.1, hsz], t1, fun R hR hs => ?_⟩, k2⟩
                obtain ⟨u1, u2⟩ := t2 R hR hs
                exact q9 R u1 u2
              · have hlr' : ¬ ((mid - a' : Nat) : Int) < ((b' - mid : Nat) : Int) := by omega
                simp +contextual -implicitDefEqProofs (maxSteps := 2000000) only [↓wP, wQ, wQ1, wQ2, wQ3, wR, boxE, partsOf, ↓reduceIte, Nat.reduceEqDiff, Nat.reduceAdd, Nat.reduceSub, Nat.reduceLeDiff, Nat.reduceLT, Nat.reduceMul, reduceCtorEq, Int.reduceBNe, Int.reduceBEq, Int.reduceLT, Int.reduceLE, Int.reduceGT, h2, h3, h4, h5, h6, h7, h8, hlen, h13, wma, wbm, wm1, q8', hlr']
                refine stepW_raw (by decide) (ih e3 (mid + 1) b' lim1 id n5 N σ5 (by omega) (by omega) (by omega) q2 hn (by omega) (by omega) hsz hat.1 r5 fun σ6 d6 n6 k1 k2 k3 k4 k5 => ?_)
                obtain ⟨t1, t2⟩ := r7 d6 k4 k5
                simp +contextual -implicitDefEqProofs (maxSteps := 2000000) only [↓wP, wQ, wQ1, wQ2, wQ3, wR, boxE, partsOf, ↓reduceIte, Nat.reduceEqDiff, Nat.reduceAdd, Nat.reduceSub, Nat.reduceLeDiff, Nat.reduceLT, Nat.reduceMul, reduceCtorEq, Int.reduceBNe, Int.reduceBEq, Int.reduceLT, Int.reduceLE, Int.reduceGT, h2, h3, h4, h5, h6, h7, h8, hlen, h13]
                have hfr2 : ∀ i, i ≠ id → i < n → σ6 i = σ i := fun i hi hin => by rw [k3 i hi (by omega), hfr i hi hin]
                refine ⟨((a', mid), lim1), by dsimp only; omega, by omega, rfl, rfl, rfl, ⟨_, rfl⟩, ⟨_, rfl⟩, hfr2, d6, ⟨by dsimp only; omega, by dsimp only; omega, by dsimp only; omega, by dsimp only; omega, by dsimp only; omega, by rw [k4.1, hsz], t1, fun R hR hs => ?_⟩, k2⟩
                obtain ⟨u1, u2⟩ := t2 R hR hs
                exact q9 R u1 u2
  · simp +contextual -implicitDefEqProofs (maxSteps := 2000000) only [↓wP, wQ, wQ1, wQ2, wQ3, wR, boxE, partsOf, ↓reduceIte, Nat.reduceEqDiff, Nat.reduceAdd, Nat.reduceSub, Nat.reduceLeDiff, Nat.reduceLT, Nat.reduceMul, reduceCtorEq, Int.reduceBNe, Int.reduceBEq, Int.reduceLT, Int.reduceLE, Int.reduceGT]
    exact ⟨⟨true, rfl⟩, ⟨true, rfl⟩, fun _ _ _ => trivial, d, ⟨hab, hb, by omega, h50, hlim, hN, hB, fun R hR hs => ⟨hR, hs⟩⟩, hσ⟩
theorem raw103 (F : Nat) (hF : CmpF F) : ∀ L : Nat, Sorts F L
  | 0 => fun _ _ _ _ _ _ _ _ h => absurd h (by omega)
  | L + 1 => raw103_step F hF L (raw103 F hF L)
def chk104 (m : Nat) : Bool := match exJob T 60 (.pure 104 [.int .u64 (m : Int)]) with
  | some (.val (.int .i64 M)) => decide (0 ≤ M ∧ M < 1000)
  | _ => false
theorem all104 : (List.range 129).all chk104 = true := by decide +kernel
theorem r104 (m : Nat) (h : m < 129) : ∃ M : Nat, M < 1000 ∧ res T 104 [.int .u64 (m : Int)] = some (.int .i64 (M : Int)) := by
  have h := List.all_eq_true.1 all104 m (List.mem_range.2 h)
  unfold chk104 at h
  split at h
  · rename_i M hM
    simp only [decide_eq_true_eq] at h
    refine ⟨M.toNat, by omega, ?_⟩
    rw [show ((M.toNat : Nat) : Int) = M by omega]
    exact run_res (exJob_sound 60 _ _ hM)
  · cases h
theorem raw75 (F : Nat) (hF : CmpF F) (d : Array Rw) (id n : Nat) (σ : Sto) (hd : d.size < 129) (hid : id < n) (hσ : σ id = some (.row 2 (rw' d))) {Q : V → Sto → Nat → Prop}
    (hQ : ∀ σ' d' n', n ≤ n' → σ' id = some (.row 2 (rw' d')) → (∀ i, i ≠ id → i < n → σ' i = σ i) → PermIn 0 d.size d d' → SortedIn ahR 0 d.size d' → Q .undef σ' n') :
    run T (.raw 75 [.ref id 0 d.size 2, .fn F []] σ n 0) (memQ Q) := by
  refine run_rawE (fn := g75) rfl rfl ?_
  simp only [g75, b75, oO, oN, mV, lD, gO, pP, qQ, cI, aR]
  obtain ⟨M, h2, h3⟩ := r104 d.size hd
  have f104 := callE_tr (fs := true) (by decide) h3 (by simp [Tr]) rfl
  have wu : IntKind.u64.wrap ((d.size : Nat) : Int) = ((d.size : Nat) : Int) := by rw [wrap_u64] <;> omega
  simp +contextual -implicitDefEqProofs (maxSteps := 2000000) only [↓wP, wQ, wQ1, wQ2, wQ3, wR, boxE, partsOf, ↓reduceIte, Nat.reduceEqDiff, Nat.reduceAdd, Nat.reduceSub, Nat.reduceLeDiff, Nat.reduceLT, Nat.reduceMul, reduceCtorEq, Int.reduceBNe, Int.reduceBEq, Int.reduceLT, Int.reduceLE, Int.reduceGT, wu, f104]
  refine stepW_raw (by decide) (raw103 F hF (d.size + 1) d 0 d.size M id n d.size σ (by omega) (by omega) (by omega) (by omega) (by omega) h2 hid rfl hσ (.inl rfl) fun σ' d' n' k1 k2 k3 k4 k5 => ?_)
  simp +contextual -implicitDefEqProofs (maxSteps := 2000000) only [↓wP, wQ, wQ1, wQ2, wQ3, wR, boxE, partsOf, ↓reduceIte, Nat.reduceEqDiff, Nat.reduceAdd, Nat.reduceSub, Nat.reduceLeDiff, Nat.reduceLT, Nat.reduceMul, reduceCtorEq, Int.reduceBNe, Int.reduceBEq, Int.reduceLT, Int.reduceLE, Int.reduceGT]
  exact hQ σ' d' n' k1 k2 k3 k4 k5
end Go.Q.SB
end

section
/- Rows at a time: facts gone over, a map's rows. -/
set_option linter.unusedSimpArgs false
set_option linter.unusedVariables false
namespace Go.Q.SB
open Go.Q Go.Sort
theorem r74 (v : Vc) (h : (lst v).length ≤ 1000000) : res T 74 [slV 1 i32V v] = some (slV 1 i32V v) := by
  refine run_res (run_pure (fn := g74) rfl rfl (by decide) ?_)
  simp only [g74, b74, oO, oN, mV, lD, gO, pP, qQ, cI, aR]
  cases v with
  | none => simp +contextual -implicitDefEqProofs (maxSteps := 2000000) only [↓wP, wQ, wQ1, wQ2, wQ3, wR, boxE, partsOf, ↓reduceIte, Nat.reduceEqDiff, Nat.reduceAdd, Nat.reduceSub, Nat.reduceLeDiff, Nat.reduceLT, Nat.reduceMul, reduceCtorEq, Int.reduceBNe, Int.reduceBEq, Int.reduceLT, Int.reduceLE, Int.reduceGT, slV_none, Option.isNone_none]
  | some l =>
    rw [lst_some] at h
    have hl : (l.map i32V).length * 4 ≤ LIM := by rw [List.length_map]; unfold LIM; omega
    simp +contextual -implicitDefEqProofs (maxSteps := 2000000) only [↓wP, wQ, wQ1, wQ2, wQ3, wR, boxE, partsOf, ↓reduceIte, Nat.reduceEqDiff, Nat.reduceAdd, Nat.reduceSub, Nat.reduceLeDiff, Nat.reduceLT, Nat.reduceMul, reduceCtorEq, Int.reduceBNe, Int.reduceBEq, Int.reduceLT, Int.reduceLE, Int.reduceGT, slV_some, hl, true_or]
    have := (fz_vec (σ := upd (upd (upd Sto.empty 0 (some (.row 1 []))) 0 none) 1 (some (.row 1 (l.map i32V)))) (i := 1) (L := l) (by simp [upd]) (S := fun _ => True) trivial)
    have h12 := (Fz.ref (k := 11) (S := fun _ => True) (σ := upd (upd (upd Sto.empty 0 (some (.row 1 []))) 0 none) 1 (some (.row 1 (l.map i32V)))) (id := 1) (sz := 1) (xs := l.map i32V) (by simp [upd]) trivial (FzL.trees (fun y hy => by obtain ⟨t, -, rfl⟩ := List.mem_map.1 hy; rfl) (fun y hy c hc => by obtain ⟨t, -, rfl⟩ := List.mem_map.1 hy; simp [i32V, V.cells] at hc; subst hc; rfl))).1
    simpa using h12
theorem f74 (v : Vc) (h : (lst v).length ≤ 1000000) (fs : Bool) (σ : Sto) (n lk : Nat) : callE T fs 74 [slV 1 i32V v] σ n lk = some (slV 1 i32V v, σ, n) :=
  callE_tr (by decide) (r74 v h) (by simp [Tr, Tr_slV]) (Nw_slV _ _ _ _) fs σ n lk
theorem r65 (l : Option (List Fa)) (G : V) (hG : frz (upd (upd Sto.empty 0 (some (.row 1 [slV 5 faV l]))) 1 (some (.row 1 [G]))) 10 G = some G) (hG1 : G.one = true) (hG2 : G.cells = [G]) : res T 65 [slV 5 faV l, G] = some (.fn 97 [.box [slV 5 faV l], .box [G]]) := by
  refine run_res (run_pure (fn := g65) rfl rfl (by decide) ?_)
  simp only [g65, b65, oO, oN, mV, lD, gO, pP, qQ, cI, aR]
  simp +contextual -implicitDefEqProofs (maxSteps := 2000000) only [↓wP, wQ, wQ1, wQ2, wQ3, wR, boxE, partsOf, ↓reduceIte, Nat.reduceEqDiff, Nat.reduceAdd, Nat.reduceSub, Nat.reduceLeDiff, Nat.reduceLT, Nat.reduceMul, reduceCtorEq, Int.reduceBNe, Int.reduceBEq, Int.reduceLT, Int.reduceLE, Int.reduceGT, hG1, hG2, hG]
  done
def cnt (c t : Int) (f : Fa) : Bool := f.w.c == c && decide (f.ts ≤ t)
theorem r95 (f : Fa) (c t : Int) : res T 95 [faV f, .box [.int .i64 c], .box [.int .u64 t]] = some (.bool (cnt c t f)) := by
  refine run_res (run_pure (fn := g95) rfl rfl (by decide) ?_)
  simp only [g95, b95, oO, oN, mV, lD, gO, pP, qQ, cI, aR]
  obtain ⟨ts, ⟨wc, id, g, v⟩⟩ := f
  unfold cnt
  simp only
  cases hc : (wc == c)
  · simp +contextual -implicitDefEqProofs (maxSteps := 2000000) only [↓wP, wQ, wQ1, wQ2, wQ3, wR, boxE, partsOf, ↓reduceIte, Nat.reduceEqDiff, Nat.reduceAdd, Nat.reduceSub, Nat.reduceLeDiff, Nat.reduceLT, Nat.reduceMul, reduceCtorEq, Int.reduceBNe, Int.reduceBEq, Int.reduceLT, Int.reduceLE, Int.reduceGT, faV_eq, hc]
  · simp +contextual -implicitDefEqProofs (maxSteps := 2000000) only [↓wP, wQ, wQ1, wQ2, wQ3, wR, boxE, partsOf, ↓reduceIte, Nat.reduceEqDiff, Nat.reduceAdd, Nat.reduceSub, Nat.reduceLeDiff, Nat.reduceLT, Nat.reduceMul, reduceCtorEq, Int.reduceBNe, Int.reduceBEq, Int.reduceLT, Int.reduceLE, Int.reduceGT, faV_eq, hc]
theorem f95 (f : Fa) (c t : Int) (fs : Bool) (σ : Sto) (n lk : Nat) : callE T fs 95 [faV f, .box [.int .i64 c], .box [.int .u64 t]] σ n lk = some (.bool (cnt c t f), σ, n) :=
  callE_tr (by decide) (r95 f c t) (by simp [Tr, Tr_slV, faV_eq]) rfl fs σ n lk
theorem r59 (c : Int) : res T 59 [.int .i64 c] = some (.int .i64 (if collB c = true then 0 else 2)) := by
  refine run_res (run_pure (fn := g59) rfl rfl (by decide) ?_)
  simp only [g59, b59, oO, oN, mV, lD, gO, pP, qQ, cI, aR]
  unfold collB
  by_cases h1 : c < 0
  · have e : decide (0 ≤ c) = false := decide_eq_false (by omega)
    rw [e]
    simp +contextual -implicitDefEqProofs (maxSteps := 2000000) only [↓wP, wQ, wQ1, wQ2, wQ3, wR, boxE, partsOf, ↓reduceIte, Nat.reduceEqDiff, Nat.reduceAdd, Nat.reduceSub, Nat.reduceLeDiff, Nat.reduceLT, Nat.reduceMul, reduceCtorEq, Int.reduceBNe, Int.reduceBEq, Int.reduceLT, Int.reduceLE, Int.reduceGT, h1]
  · have e : decide (0 ≤ c) = true := decide_eq_true (by omega)
    rw [e]
    by_cases h2 : 3 ≤ c
    · have e : decide (c < 3) = false := decide_eq_false (by omega)
      rw [e]
      simp +contextual -implicitDefEqProofs (maxSteps := 2000000) only [↓wP, wQ, wQ1, wQ2, wQ3, wR, boxE, partsOf, ↓reduceIte, Nat.reduceEqDiff, Nat.reduceAdd, Nat.reduceSub, Nat.reduceLeDiff, Nat.reduceLT, Nat.reduceMul, reduceCtorEq, Int.reduceBNe, Int.reduceBEq, Int.reduceLT, Int.reduceLE, Int.reduceGT, h1, h2]
    · have e : decide (c < 3) = true := decide_eq_true (by omega)
      rw [e]
      simp +contextual -implicitDefEqProofs (maxSteps := 2000000) only [↓wP, wQ, wQ1, wQ2, wQ3, wR, boxE, partsOf, ↓reduceIte, Nat.reduceEqDiff, Nat.reduceAdd, Nat.reduceSub, Nat.reduceLeDiff, Nat.reduceLT, Nat.reduceMul, reduceCtorEq, Int.reduceBNe, Int.reduceBEq, Int.reduceLT, Int.reduceLE, Int.reduceGT, h1, h2]
theorem f59 (c : Int) (fs : Bool) (σ : Sto) (n lk : Nat) : callE T fs 59 [.int .i64 c] σ n lk = some (.int .i64 (if collB c = true then 0 else 2), σ, n) :=
  callE_tr (by decide) (r59 c) (by simp [Tr, Tr_slV]) rfl fs σ n lk
theorem that97 (l : Option (List Fa)) (F : Nat) (caps : List V) (p : Fa → Bool) (J : Nat → Sto → Nat → Prop) (lid : Nat) (hl : (lst l).length ≤ 1000000)
    (hp : ∀ f fs σ n lk, callE T fs F (faV f :: caps) σ n lk = some (.bool (p f), σ, n))
    (hal : ∀ j σ n σ', J j σ n → (∀ i, i ≠ n → σ' i = σ i) → J j σ' (n + 1))
    (hs : ∀ j σ n (h : j < (lst l).length), J j σ n → p (lst l)[j] = false → J (j + 1) σ n)
    (hy : ∀ j σ n (h : j < (lst l).length), J j σ n → p (lst l)[j] = true → yieldW (run T) lid [faV (lst l)[j]] σ n 0 (fun y σ' n' => y = .bool true ∧ J (j + 1) σ' n'))
    (σ0 : Sto) (n0 : Nat) (h0 : J 0 σ0 n0) : run T (.raw 97 [.yld lid, .box [slV 5 faV l], .box [.fn F caps]] σ0 n0 0) (memQ fun _ σ' n' => J (lst l).length σ' n') := by
  refine run_rawE (fn := g97) rfl rfl ?_
  simp only [g97, b97, oO, oN, mV, lD, gO, pP, qQ, cI, aR]
  simp +contextual -implicitDefEqProofs (maxSteps := 2000000) only [↓wP, wQ, wQ1, wQ2, wQ3, wR, boxE, partsOf, ↓reduceIte, Nat.reduceEqDiff, Nat.reduceAdd, Nat.reduceSub, Nat.reduceLeDiff, Nat.reduceLT, Nat.reduceMul, reduceCtorEq, Int.reduceBNe, Int.reduceBEq, Int.reduceLT, Int.reduceLE, Int.reduceGT]
  refine WC_for (lst l).length 0 (fun (j : Nat) env σ n => env 0 = .yld lid ∧ env 2 = .box [.fn F caps] ∧ env 6 = slV 5 faV l ∧ J j σ n) (by omega) (by decide) (by decide) (fun _ _ => rfl) (fun _ _ _ => rfl) ?_ ?_ _ _ _ rfl rfl ?_
  · intro j env σ n hj h1 h2 ⟨g1, g2, g3, g4⟩
    simp only [vl_tmp] at h2
    have hx : (lst l)[j]? = some (lst l)[j] := List.getElem?_eq_getElem hj
    have hs' := hs j
    have hy' := hy j
    obtain ⟨x, hxx⟩ : ∃ x, x = (lst l)[j] := ⟨_, rfl⟩
    rw [← hxx] at hx
    have hp' := hp x
    rw [faV_eq] at hp'
    obtain ⟨σ1, hσ1⟩ : ∃ σ1, σ1 = upd (upd σ n (some (.row 5 [.agg [.int .u64 0, .int .i64 0, .int .u64 0, .bool false, .nilS]]))) n (some (.row 5 [.agg [.int .u64 x.ts, .int .i64 x.w.c, .int .u64 x.w.id, .bool x.w.g, slV 1 i32V x.w.v]])) := ⟨_, rfl⟩
    have sn : σ1 n = some (.row 5 [.agg [.int .u64 x.ts, .int .i64 x.w.c, .int .u64 x.w.id, .bool x.w.g, slV 1 i32V x.w.v]]) := by rw [hσ1, upd_self]
    have hJ1 := hal j σ n σ1 g4 (fun i hi => by rw [hσ1, upd_ne hi, upd_ne hi])
    cases hq : p x
    · rw [hq] at hp'
      have hn := hs' σ1 (n + 1) hj hJ1 (by rw [← hxx]; exact hq)
      simp +contextual -implicitDefEqProofs (maxSteps := 2000000) only [↓wP, wQ, wQ1, wQ2, wQ3, wR, boxE, partsOf, ↓reduceIte, Nat.reduceEqDiff, Nat.reduceAdd, Nat.reduceSub, Nat.reduceLeDiff, Nat.reduceLT, Nat.reduceMul, reduceCtorEq, Int.reduceBNe, Int.reduceBEq, Int.reduceLT, Int.reduceLE, Int.reduceGT, h1, h2, g1, g2, g3, hx, faV_eq, ← hσ1, sn, hp']
      exact hn
    · rw [hq] at hp'
      have hn := hy' σ1 (n + 1) hj hJ1 (by rw [← hxx]; exact hq)
      rw [← hxx, faV_eq] at hn
      simp +contextual -implicitDefEqProofs (maxSteps := 2000000) only [↓wP, wQ, wQ1, wQ2, wQ3, wR, boxE, partsOf, ↓reduceIte, Nat.reduceEqDiff, Nat.reduceAdd, Nat.reduceSub, Nat.reduceLeDiff, Nat.reduceLT, Nat.reduceMul, reduceCtorEq, Int.reduceBNe, Int.reduceBEq, Int.reduceLT, Int.reduceLE, Int.reduceGT, h1, h2, g1, g2, g3, hx, faV_eq, ← hσ1, sn, hp']
      refine stepW_yld (yieldW_mono (fun _ _ x => x) run_mono (fun y σ' n' ⟨hy1, hy2⟩ => ?_) hn)
      subst hy1
      simp +contextual -implicitDefEqProofs (maxSteps := 2000000) only [↓wP, wQ, wQ1, wQ2, wQ3, wR, boxE, partsOf, ↓reduceIte, Nat.reduceEqDiff, Nat.reduceAdd, Nat.reduceSub, Nat.reduceLeDiff, Nat.reduceLT, Nat.reduceMul, reduceCtorEq, Int.reduceBNe, Int.reduceBEq, Int.reduceLT, Int.reduceLE, Int.reduceGT, h1, h2, g1, g2, g3]
      exact hy2
  · intro env σ n ⟨g1, g2, g3, g4⟩ h1 h2
    simp +contextual -implicitDefEqProofs (maxSteps := 2000000) only [↓wP, wQ, wQ1, wQ2, wQ3, wR, boxE, partsOf, ↓reduceIte, Nat.reduceEqDiff, Nat.reduceAdd, Nat.reduceSub, Nat.reduceLeDiff, Nat.reduceLT, Nat.reduceMul, reduceCtorEq, Int.reduceBNe, Int.reduceBEq, Int.reduceLT, Int.reduceLE, Int.reduceGT]
    exact g4
  · exact ⟨rfl, rfl, rfl, h0⟩
end Go.Q.SB
end

section
/- The rows at a time: the loop over facts. -/
set_option linter.unusedSimpArgs false
set_option linter.unusedVariables false
namespace Go.Q.SB
open Go.Q Go.Sort
def nowStep (c t : Int) (R : List Rw) (f : Fa) : List Rw := if cnt c t f = true then ovStep R f.w else R
def nowR (l : List Fa) (c t : Int) : List Rw := l.foldl (nowStep c t) []
theorem nowR_snoc (l : List Fa) (f : Fa) (c t : Int) : nowR (l ++ [f]) c t = nowStep c t (nowR l c t) f := by unfold nowR; rw [List.foldl_append]; rfl
theorem nowR_take {l : List Fa} {j : Nat} (h : j < l.length) (c t : Int) : nowR (l.take (j + 1)) c t = nowStep c t (nowR (l.take j) c t) l[j] := by
  rw [← List.take_append_getElem h, nowR_snoc]
theorem nowLoop {env : Nat → V} {σ : Sto} {n : Nat} {Q : Ex → St → Prop} (l : Option (List Fa)) (c t : Int) (hl : (lst l).length ≤ 1000000)
    (hg : env 15 = .fn 97 [.box [slV 5 faV l], .box [.fn 95 [.box [.int .i64 c], .box [.int .u64 t]]]]) (hm : env 7 = .ptr 3 1 0 0) (h3 : σ 3 = some (.row 1 [.mp 2])) (h2 : σ 2 = some (.map (ens uV vV []) 0)) (hn : 4 ≤ n)
    (hQ : ∀ σ' n', (∀ i, i < n → i ≠ 2 → σ' i = σ i) → n ≤ n' → (∃ Lm clk, MOk Lm clk ∧ σ' 2 = some (.map (ens uV vV Lm) clk) ∧ RM (nowR (lst l) c t) Lm) → Q .normal ⟨env, σ', n', 0⟩) :
    WC T (.rangeF (.tmp 15) [16] (.reg [⟨some 8, none, .alloc (.agg [.int .u64 0, .int .i64 0, .int .u64 0, .bool false, .nilS])⟩, ⟨none, none, .store 5 (.tmp 8) (.tmp 16)⟩])
      (.block 1 (.seq (.reg [⟨some 17, none, .faddr (.tmp 8) 1⟩, ⟨some 18, none, .faddr (.tmp 17) 2⟩, ⟨some 19, none, .load false 1 (.tmp 18)⟩])
       (.cond (.tmp 19)
        (.reg [⟨some 20, none, .load false 1 (.tmp 7)⟩, ⟨some 21, none, .faddr (.tmp 8) 1⟩, ⟨some 22, none, .faddr (.tmp 21) 1⟩, ⟨some 23, none, .load false 1 (.tmp 22)⟩, ⟨none, none, .mdel (.one .int) (.tmp 20) (.tmp 23)⟩])
        (.reg [⟨some 24, none, .load false 1 (.tmp 7)⟩, ⟨some 25, none, .faddr (.tmp 8) 1⟩, ⟨some 26, none, .faddr (.tmp 25) 1⟩, ⟨some 27, none, .load false 1 (.tmp 26)⟩, ⟨some 28, none, .faddr (.tmp 8) 1⟩, ⟨some 29, none, .faddr (.tmp 28) 3⟩, ⟨some 30, none, .load false 1 (.tmp 29)⟩,
          ⟨none, none, .mupd (.one .int) (.tmp 24) (.tmp 27) (.tmp 30)⟩]))))) env σ n 0 Q := by
  refine WC_rangeF hg (Nat.zero_le _) ?_
  generalize hA : AC.reg [⟨some 8, none, .alloc (.agg [.int .u64 0, .int .i64 0, .int .u64 0, .bool false, .nilS])⟩, ⟨none, none, .store 5 (.tmp 8) (.tmp 16)⟩] = asg
  generalize hB : AC.block 1 _ = bd
  refine run_mono _ _ _ (fun o ho => ?_) (that97 l 95 [.box [.int .i64 c], .box [.int .u64 t]] (cnt c t) (fun j σ' n' => n < n' ∧ (∀ i, i < n → i ≠ 2 → σ' i = σ i) ∧ σ' n = some (.loop env [16] asg bd .ready none) ∧
    ∃ Lm clk, MOk Lm clk ∧ σ' 2 = some (.map (ens uV vV Lm) clk) ∧ RM (nowR ((lst l).take j) c t) Lm) n hl (fun f fs σ n lk => f95 f c t fs σ n lk) ?_ ?_ ?_ _ _ ?_)
  · cases o <;> try exact ho.elim
    obtain ⟨e1, e2, e3, Lm, clk, m1, m2, m3⟩ := ho
    rw [List.take_length] at m3
    refine ⟨_, _, _, _, _, _, e3, by decide, ?_⟩
    exact hQ _ _ (fun i hi h2 => by rw [upd_ne (by omega)]; exact e2 i hi h2) (by omega) ⟨Lm, clk, m1, by rw [upd_ne (by omega)]; exact m2, m3⟩
  · rintro j σ' n' σ2 ⟨e1, e2, e3, Lm, clk, m1, m2, m3⟩ hσ
    exact ⟨by omega, fun i hi h2 => by rw [hσ i (by omega)]; exact e2 i hi h2, by rw [hσ n (by omega)]; exact e3, Lm, clk, m1, by rw [hσ 2 (by omega)]; exact m2, m3⟩
  · rintro j σ' n' hj ⟨e1, e2, e3, Lm, clk, m1, m2, m3⟩ hp
    refine ⟨e1, e2, e3, Lm, clk, m1, m2, ?_⟩
    rw [nowR_take hj]
    unfold nowStep
    rw [hp]
    exact m3
  · rintro j σ' n' hj ⟨e1, e2, e3, Lm, clk, m1, m2, m3⟩ hp
    have hst : nowR ((lst l).take (j + 1)) c t = ovStep (nowR ((lst l).take j) c t) (lst l)[j].w := by rw [nowR_take hj]; unfold nowStep; rw [if_pos hp]
    generalize (lst l)[j] = x at *
    subst hA
    subst hB
    refine yieldW_go e3 rfl (Nat.zero_le _) ?_
    have a1 : (n = n') = False := by simp; omega
    have a2 : (n' = n) = False := by simp; omega
    have a3 : (3 = n') = False := by simp; omega
    have a4 : (3 = n) = False := by simp; omega
    have a5 : (2 = n') = False := by simp; omega
    have a6 : (2 = n) = False := by simp; omega
    have a7 : (n = 2) = False := by simp; omega
    have a8 : (n' = 2) = False := by simp; omega
    have a9 : ((3 : Nat) = 2) = False := by simp
    have s3 : σ' 3 = some (.row 1 [.mp 2]) := by rw [e2 3 (by omega) (by decide)]; exact h3
    rw [faV_eq]
    have pd := fun (σX : Sto) (h : σX 2 = some (.map (ens uV vV Lm) clk)) (nn : Nat) => mdel_ens (ke := uV) (ve := vV) (lk := 0) keyU m1 h (Nat.zero_le _) x.w.id nn
    have pu := fun (σX : Sto) (h : σX 2 = some (.map (ens uV vV Lm) clk)) (nn : Nat) => mupd_ens (ke := uV) (ve := vV) (lk := 0) keyU m1 h (Nat.zero_le _) x.w.id x.w.v nn
    simp only [uV, vV] at pd pu
    cases hg : x.w.g
    · have hov : ovStep (nowR ((lst l).take j) c t) x.w = putR (nowR ((lst l).take j) c t) ⟨x.w.id, x.w.v⟩ := by unfold ovStep; rw [hg]; rfl
      simp +contextual -implicitDefEqProofs (maxSteps := 2000000) only [↓wP, wQ, wQ1, wQ2, wQ3, wR, boxE, partsOf, ↓reduceIte, Nat.reduceEqDiff, Nat.reduceAdd, Nat.reduceSub, Nat.reduceLeDiff, Nat.reduceLT, Nat.reduceMul, reduceCtorEq, Int.reduceBNe, Int.reduceBEq, Int.reduceLT, Int.reduceLE, Int.reduceGT, bind_cons, bind_nil, hm, e3, s3, m2, a1, a2, a3, a4, a5, a6, a7, a8, a9, pu]
      refine ⟨by omega, fun i hi h2 => ?_, _, _, mput_ok m1 _ _, rfl, by rw [hst, hov]; exact m3.put m1 ⟨x.w.id, x.w.v⟩⟩
      have c1 : i ≠ n := by omega
      have c2 : i ≠ n' := by omega
      simp only [c1, c2, h2, if_false]
      exact e2 i hi h2
    · have hov : ovStep (nowR ((lst l).take j) c t) x.w = delR (nowR ((lst l).take j) c t) x.w.id := by unfold ovStep; rw [hg]; rfl
      simp +contextual -implicitDefEqProofs (maxSteps := 2000000) only [↓wP, wQ, wQ1, wQ2, wQ3, wR, boxE, partsOf, ↓reduceIte, Nat.reduceEqDiff, Nat.reduceAdd, Nat.reduceSub, Nat.reduceLeDiff, Nat.reduceLT, Nat.reduceMul, reduceCtorEq, Int.reduceBNe, Int.reduceBEq, Int.reduceLT, Int.reduceLE, Int.reduceGT, bind_cons, bind_nil, hm, e3, s3, m2, a1, a2, a3, a4, a5, a6, a7, a8, a9, pd]
      refine ⟨by omega, fun i hi h2 => ?_, _, _, mdel_ok m1 _, rfl, by rw [hst, hov]; exact m3.del x.w.id⟩
      have c1 : i ≠ n := by omega
      have c2 : i ≠ n' := by omega
      simp only [c1, c2, h2, if_false]
      exact e2 i hi h2
  · exact ⟨by omega, fun i hi _ => upd_ne (by omega), upd_self _ _ _, [], 0, MOk.nil, by rw [upd_ne (by omega)]; exact h2, RM.nil⟩
end Go.Q.SB
end

section
/- ideal.rows: the rows at a time, sorted. -/
set_option linter.unusedSimpArgs false
set_option linter.unusedVariables false
namespace Go.Q.SB
open Go.Q Go.Sort
theorem nowR_asc (l : List Fa) (c t : Int) : Asc (nowR l c t) := by
  have key : ∀ (l : List Fa) (R : List Rw), Asc R → Asc (l.foldl (nowStep c t) R) := by
    intro l
    induction l with
    | nil => intro R h; exact h
    | cons f l ih =>
      intro R h
      refine ih _ ?_
      unfold nowStep ovStep
      split
      · split
        · exact asc_delR h _
        · exact asc_putR h _
      · exact h
  exact key l [] List.Pairwise.nil
theorem nowR_len (l : List Fa) (c t : Int) : (nowR l c t).length ≤ l.length := by
  have key : ∀ (l : List Fa) (R : List Rw), (l.foldl (nowStep c t) R).length ≤ R.length + l.length := by
    intro l
    induction l with
    | nil => intro R; simp
    | cons f l ih =>
      intro R
      have h1 := ih (nowStep c t R f)
      have h2 : (nowStep c t R f).length ≤ R.length + 1 := by
        unfold nowStep ovStep
        split
        · split
          · have := delR_len R f.w.id; omega
          · exact putR_len _ _
        · omega
      simp only [List.foldl_cons, List.length_cons]; omega
  have := key l []
  unfold nowR
  simpa using this
theorem nowR_all {P : Vc → Prop} {l : List Fa} (h : ∀ f ∈ l, P f.w.v) (c t : Int) : ∀ r ∈ nowR l c t, P r.v := by
  have key : ∀ (l : List Fa) (R : List Rw), (∀ f ∈ l, P f.w.v) → (∀ r ∈ R, P r.v) → ∀ r ∈ l.foldl (nowStep c t) R, P r.v := by
    intro l
    induction l with
    | nil => intro R _ h; exact h
    | cons f l ih =>
      intro R h1 h2
      refine ih _ (fun g hg => h1 g (List.mem_cons_of_mem _ hg)) ?_
      unfold nowStep ovStep
      split
      · split
        · intro r hr; exact h2 r (mem_delR.1 hr).1
        · intro r hr
          rcases mem_putR.1 hr with rfl | hr
          · exact h1 f List.mem_cons_self
          · exact h2 r hr.1
      · exact h2
  exact key l [] h (fun r hr => by simp at hr)
def Seen (R D : List Rw) (L : List (En Int Vc)) (seen : List Nat) : Prop := (∀ r ∈ D, r ∈ R) ∧ (D.map (·.id)).Nodup ∧ ∀ e ∈ L, (e.2.2 ∈ seen ↔ (⟨e.1, e.2.1⟩ : Rw) ∈ D)
theorem nodup_len : ∀ {l m : List Int}, l.Nodup → (∀ x ∈ l, x ∈ m) → l.length ≤ m.length
  | [], _, _, _ => Nat.zero_le _
  | a :: l, m, h, hs => by
    rw [List.nodup_cons] at h
    have ha := hs a List.mem_cons_self
    have h1 := nodup_len (l := l) (m := m.erase a) h.2 (fun x hx => (List.mem_erase_of_ne (fun e => h.1 (by rw [← e]; exact hx))).2 (hs x (List.mem_cons_of_mem _ hx)))
    have h2 := List.length_erase_of_mem ha
    have h3 := List.length_pos_of_mem ha
    simp only [List.length_cons]; omega
theorem Seen.len {R D : List Rw} {L : List (En Int Vc)} {seen : List Nat} (h : Seen R D L seen) : D.length ≤ R.length := by
  have := nodup_len (l := D.map (·.id)) (m := R.map (·.id)) h.2.1 (fun x hx => by obtain ⟨r, hr, rfl⟩ := List.mem_map.1 hx; exact List.mem_map.2 ⟨r, h.1 r hr, rfl⟩)
  simpa using this
theorem key_inj : ∀ {L : List (En Int Vc)}, (L.map (·.1)).Nodup → ∀ {e e' : En Int Vc}, e ∈ L → e' ∈ L → e.1 = e'.1 → e = e'
  | [], _, e, e', he, _, _ => by simp at he
  | x :: L, h, e, e', he, he', hs => by
    rw [List.map_cons, List.nodup_cons] at h
    rcases List.mem_cons.1 he with e1 | he <;> rcases List.mem_cons.1 he' with e2 | he'
    · rw [e1, e2]
    · exact absurd (List.mem_map.2 ⟨e', he', by rw [← hs, e1]⟩) h.1
    · exact absurd (List.mem_map.2 ⟨e, he, by rw [hs, e2]⟩) h.1
    · exact key_inj h.2 he he' hs
theorem Seen.nil {R : List Rw} {L : List (En Int Vc)} : Seen R [] L [] := ⟨fun r hr => by simp at hr, List.nodup_nil, fun e he => by simp⟩
theorem Seen.step {R D : List Rw} {L : List (En Int Vc)} {seen : List Nat} {clk : Nat} (h : Seen R D L seen) (hm : MOk L clk) (hR : RM R L) {e : En Int Vc} (he : e ∈ L) (hn : e.2.2 ∉ seen) : Seen R (D ++ [⟨e.1, e.2.1⟩]) L (seen ++ [e.2.2]) := by
  obtain ⟨h1, h2, h3⟩ := h
  have hvw : vw L e.1 = some e.2.1 := (vw_some hm.keys).2 ⟨e.2.2, he⟩
  refine ⟨fun r hr => ?_, ?_, fun e' he' => ?_⟩
  · rcases List.mem_append.1 hr with hr | hr
    · exact h1 r hr
    · rw [List.mem_singleton] at hr
      subst hr
      exact (hR.2 e.1 e.2.1).2 hvw
  · rw [List.map_append]
    refine List.nodup_append.2 ⟨h2, by simp, fun a ha b hb => ?_⟩
    simp only [List.map_cons, List.map_nil, List.mem_singleton] at hb
    subst hb
    obtain ⟨r, hr, rfl⟩ := List.mem_map.1 ha
    intro hid
    have hv := (hR.2 r.id r.v).1 (h1 r hr)
    rw [hid, hvw, Option.some.injEq] at hv
    have : (⟨e.1, e.2.1⟩ : Rw) ∈ D := by
      have e1 : r = ⟨e.1, e.2.1⟩ := by cases r; simp only at hid hv; rw [hid, ← hv]
      rw [← e1]; exact hr
    exact hn ((h3 e he).2 this)
  · rw [List.mem_append, List.mem_append, List.mem_singleton, List.mem_singleton, h3 e' he']
    constructor
    · rintro (h | h)
      · exact .inl h
      · exact .inr (by rw [born_inj hm.born he' he h])
    · rintro (h | h)
      · exact .inl h
      · simp only [Rw.mk.injEq] at h
        exact .inr (by rw [key_inj hm.keys he' he h.1])
theorem Seen.all {R D : List Rw} {L : List (En Int Vc)} {seen : List Nat} {clk : Nat} (h : Seen R D L seen) (hm : MOk L clk) (hR : RM R L) (hall : ∀ e ∈ L, e.2.2 ∈ seen) : ∀ x, x ∈ D ↔ x ∈ R := by
  intro x
  refine ⟨h.1 x, fun hx => ?_⟩
  have hv := (hR.2 x.id x.v).1 hx
  obtain ⟨s, hs⟩ := (vw_some hm.keys).1 hv
  exact (h.2.2 _ hs).1 (hall _ hs)
theorem raw112n (F : Nat) (σ : Sto) (n : Nat) {Q : V → Sto → Nat → Prop} (hQ : Q .undef σ n) : run T (.raw 112 [.nilS, .int .i64 0, .int .i64 0, .fn F []] σ n 0) (memQ Q) := by
  refine run_rawE (fn := g112) rfl rfl ?_
  simp only [g112, b112, oO, oN, mV, lD, gO, pP, qQ, cI, aR]
  have w1 : IntKind.i64.wrap ((0 : Int) + 1) = 1 := by decide
  simp +contextual -implicitDefEqProofs (maxSteps := 2000000) only [↓wP, wQ, wQ1, wQ2, wQ3, wR, boxE, partsOf, ↓reduceIte, Nat.reduceEqDiff, Nat.reduceAdd, Nat.reduceSub, Nat.reduceLeDiff, Nat.reduceLT, Nat.reduceMul, reduceCtorEq, Int.reduceBNe, Int.reduceBEq, Int.reduceLT, Int.reduceLE, Int.reduceGT, w1]
  refine WC_loopI 0 (fun (_ : Nat) env σ' n' => σ' = σ ∧ n' = n ∧ env 2 = .int .i64 0 ∧ env 8 = .int .i64 1) (fun s => s) ?_ 0 _ _ _ ?_
  · intro _ env σ1 n1 ⟨h1, h2, h3, h4⟩
    subst h1 h2
    simp +contextual -implicitDefEqProofs (maxSteps := 2000000) only [↓wP, wQ, wQ1, wQ2, wQ3, wR, boxE, partsOf, ↓reduceIte, Nat.reduceEqDiff, Nat.reduceAdd, Nat.reduceSub, Nat.reduceLeDiff, Nat.reduceLT, Nat.reduceMul, reduceCtorEq, Int.reduceBNe, Int.reduceBEq, Int.reduceLT, Int.reduceLE, Int.reduceGT, h3, h4]
    exact hQ
  · simp +contextual -implicitDefEqProofs (maxSteps := 2000000) only [↓wP, wQ, wQ1, wQ2, wQ3, wR, boxE, partsOf, ↓reduceIte, Nat.reduceEqDiff, Nat.reduceAdd, Nat.reduceSub, Nat.reduceLeDiff, Nat.reduceLT, Nat.reduceMul, reduceCtorEq, Int.reduceBNe, Int.reduceBEq, Int.reduceLT, Int.reduceLE, Int.reduceGT]
theorem raw103n (F : Nat) (M : Nat) (σ : Sto) (n : Nat) {Q : V → Sto → Nat → Prop} (hQ : Q .undef σ n) : run T (.raw 103 [.nilS, .int .i64 0, .int .i64 0, .int .i64 (M : Int), .fn F []] σ n 0) (memQ Q) := by
  refine run_rawE (fn := g103) rfl rfl ?_
  simp only [g103, b103, oO, oN, mV, lD, gO, pP, qQ, cI, aR]
  have w1 : IntKind.i64.wrap ((0 : Int) - 0) = 0 := by decide
  simp +contextual -implicitDefEqProofs (maxSteps := 2000000) only [↓wP, wQ, wQ1, wQ2, wQ3, wR, boxE, partsOf, ↓reduceIte, Nat.reduceEqDiff, Nat.reduceAdd, Nat.reduceSub, Nat.reduceLeDiff, Nat.reduceLT, Nat.reduceMul, reduceCtorEq, Int.reduceBNe, Int.reduceBEq, Int.reduceLT, Int.reduceLE, Int.reduceGT]
  refine WC_loopI 0 (fun (_ : Nat) env σ' n' => σ' = σ ∧ n' = n ∧ env 0 = .nilS ∧ env 1 = .int .i64 0 ∧ env 2 = .int .i64 0 ∧ env 4 = .fn F []) (fun s => s) ?_ 0 _ _ _ ?_
  · intro _ env σ1 n1 ⟨h1, h2, h3, h4, h5, h6⟩
    subst h1 h2
    simp +contextual -implicitDefEqProofs (maxSteps := 2000000) only [↓wP, wQ, wQ1, wQ2, wQ3, wR, boxE, partsOf, ↓reduceIte, Nat.reduceEqDiff, Nat.reduceAdd, Nat.reduceSub, Nat.reduceLeDiff, Nat.reduceLT, Nat.reduceMul, reduceCtorEq, Int.reduceBNe, Int.reduceBEq, Int.reduceLT, Int.reduceLE, Int.reduceGT, h3, h4, h5, h6, w1]
    refine stepW_raw (by decide) (raw112n F σ1 n1 ?_)
    simp +contextual -implicitDefEqProofs (maxSteps := 2000000) only [↓wP, wQ, wQ1, wQ2, wQ3, wR, boxE, partsOf, ↓reduceIte, Nat.reduceEqDiff, Nat.reduceAdd, Nat.reduceSub, Nat.reduceLeDiff, Nat.reduceLT, Nat.reduceMul, reduceCtorEq, Int.reduceBNe, Int.reduceBEq, Int.reduceLT, Int.reduceLE, Int.reduceGT]
    exact hQ
  · simp +contextual -implicitDefEqProofs (maxSteps := 2000000) only [↓wP, wQ, wQ1, wQ2, wQ3, wR, boxE, partsOf, ↓reduceIte, Nat.reduceEqDiff, Nat.reduceAdd, Nat.reduceSub, Nat.reduceLeDiff, Nat.reduceLT, Nat.reduceMul, reduceCtorEq, Int.reduceBNe, Int.reduceBEq, Int.reduceLT, Int.reduceLE, Int.reduceGT]
theorem raw75n (F : Nat) (σ : Sto) (n : Nat) {Q : V → Sto → Nat → Prop} (hQ : Q .undef σ n) : run T (.raw 75 [.nilS, .fn F []] σ n 0) (memQ Q) := by
  refine run_rawE (fn := g75) rfl rfl ?_
  simp only [g75, b75, oO, oN, mV, lD, gO, pP, qQ, cI, aR]
  obtain ⟨M, h2, h3⟩ := r104 0 (by omega)
  have f104 := callE_tr (fs := true) (by decide) h3 (by simp [Tr]) rfl
  have wu : IntKind.u64.wrap ((0 : Nat) : Int) = ((0 : Nat) : Int) := by decide
  simp +contextual -implicitDefEqProofs (maxSteps := 2000000) only [↓wP, wQ, wQ1, wQ2, wQ3, wR, boxE, partsOf, ↓reduceIte, Nat.reduceEqDiff, Nat.reduceAdd, Nat.reduceSub, Nat.reduceLeDiff, Nat.reduceLT, Nat.reduceMul, reduceCtorEq, Int.reduceBNe, Int.reduceBEq, Int.reduceLT, Int.reduceLE, Int.reduceGT, wu, f104]
  refine stepW_raw (by decide) (raw103n F M σ n ?_)
  simp +contextual -implicitDefEqProofs (maxSteps := 2000000) only [↓wP, wQ, wQ1, wQ2, wQ3, wR, boxE, partsOf, ↓reduceIte, Nat.reduceEqDiff, Nat.reduceAdd, Nat.reduceSub, Nat.reduceLeDiff, Nat.reduceLT, Nat.reduceMul, reduceCtorEq, Int.reduceBNe, Int.reduceBEq, Int.reduceLT, Int.reduceLE, Int.reduceGT]
  exact hQ
theorem sorted_asc {d d' : Array Rw} (hp : PermIn 0 d.size d d') (hs : SortedIn ahR 0 d.size d') (hn : (d.toList.map (·.id)).Nodup) : Asc d'.toList ∧ ∀ x, x ∈ d'.toList ↔ x ∈ d.toList := by
  have hsz := hp.1
  have hperm : d'.toList.Perm d.toList := by
    have := hp.2.2
    rw [← hsz] at this
    have e1 : (d'.extract 0 d'.size) = d' := by simp
    have e2 : (d.extract 0 d'.size) = d := by rw [hsz]; simp
    rw [e1, e2] at this
    exact this
  refine ⟨?_, fun x => hperm.mem_iff⟩
  unfold Asc
  rw [List.pairwise_iff_getElem]
  intro i j hi hj hij
  have hi' : i < d'.size := by simpa using hi
  have hj' : j < d'.size := by simpa using hj
  have h1 := hs i j (Nat.zero_le _) hij (by omega)
  have e1 : d'[i]! = d'.toList[i] := by simp [hi']
  have e2 : d'[j]! = d'.toList[j] := by simp [hj']
  rw [e1, e2] at h1
  have h2 : ¬ (d'.toList[j]).id < (d'.toList[i]).id := by simpa [ahR] using h1
  have hn' : (d'.toList.map (·.id)).Nodup := (hperm.map _).nodup_iff.2 hn
  rw [List.nodup_iff_pairwise_ne, List.pairwise_map, List.pairwise_iff_getElem] at hn'
  have := hn' i j hi hj hij
  omega
theorem c65 {σ : Sto} {n : Nat} (l : Option (List Fa)) (c t : Int) (h0 : σ 0 = some (.row 1 [.int .i64 c])) (h1 : σ 1 = some (.row 1 [.int .u64 t])) :
    ∃ σ', callE T true 65 [slV 5 faV l, .fn 95 [.ptr 0 1 0 0, .ptr 1 1 0 0]] σ n 0 = some (.fn 97 [.box [slV 5 faV l], .box [.fn 95 [.box [.int .i64 c], .box [.int .u64 t]]]], σ', n) ∧ ∀ i, i ≠ 0 → i ≠ 1 → σ' i = σ i := by
  have m : [slV 5 faV l, V.fn 95 [.ptr 0 1 0 0, .ptr 1 1 0 0]].mapM (frz σ 12) = some [slV 5 faV l, .fn 95 [.box [.int .i64 c], .box [.int .u64 t]]] := by
    have x3 : frz σ 12 (.fn 95 [.ptr 0 1 0 0, .ptr 1 1 0 0]) = some (.fn 95 [.box [.int .i64 c], .box [.int .u64 t]]) := by
      simp only [frz, rowAt, h0, h1, List.mapM_cons, List.mapM_nil, if_true, List.getElem?_cons_zero, Option.bind_some, V.cells, List.drop_zero]
      rfl
    simp only [List.mapM_cons, List.mapM_nil, x3, frz_slV]; rfl
  obtain ⟨σ', e1, e2⟩ := callE_sh' (by decide) m (r65 l (.fn 95 [.box [.int .i64 c], .box [.int .u64 t]]) rfl rfl rfl) (fun σ n => rfl) n
  refine ⟨σ', e1, fun i hi hi' => e2 i (fun hd => ?_)⟩
  simp only [List.flatMap_cons, List.flatMap_nil, rch_slV, List.nil_append, List.append_nil] at hd
  have x4 : rch σ 12 (.fn 95 [.ptr 0 1 0 0, .ptr 1 1 0 0]) = [0, 1] := by
    simp only [rch, rowAt, h0, h1, List.flatMap_cons, List.flatMap_nil, if_true, List.getElem?_cons_zero, Option.map_some, Option.getD_some, V.cells, List.drop_zero, List.append_nil]
    rfl
  rw [x4] at hd
  simp at hd
  omega
end Go.Q.SB
end

section
/- ideal.rows and ideal.State. -/
set_option linter.unusedSimpArgs false
set_option linter.unusedVariables false
namespace Go.Q.SB
open Go.Q Go.Sort
def Few (l : List Fa) : Prop := l.length ≤ 128 ∧ ∀ f ∈ l, (lst f.w.v).length ≤ 1000000
theorem Few.fit {l : List Fa} (h : Few l) : FitF l := ⟨by have := h.1; omega, h.2⟩
theorem rw_toArray (D : List Rw) : rw' D.toArray = D.map rwV := by unfold rw'; rfl
theorem r60 (l : Option (List Fa)) (c t : Int) (h : Few (lst l)) : res T 60 [slV 5 faV l, .int .i64 c, .int .u64 t] = some (slV 2 rwV (oL (nowR (lst l) c t))) := by
  refine run_res (run_pure (fn := g60) rfl rfl (by decide) ?_)
  simp only [g60, b60, oO, oN, mV, lD, gO, pP, qQ, cI, aR]
  have hl := h.1
  obtain ⟨σ0, hσ0⟩ : ∃ σ0, σ0 = upd (upd (upd (upd (upd Sto.empty 0 (some (.row 1 [.int .i64 c]))) 1 (some (.row 1 [.int .u64 t]))) 2 (some (.map [] 0))) 3 (some (.row 1 [.nilM]))) 3 (some (.row 1 [.mp 2])) := ⟨_, rfl⟩
  have t0 : σ0 0 = some (.row 1 [.int .i64 c]) := by rw [hσ0]; simp [upd]
  have t1 : σ0 1 = some (.row 1 [.int .u64 t]) := by rw [hσ0]; simp [upd]
  have t2 : σ0 2 = some (.map (ens uV vV []) 0) := by rw [hσ0]; simp [upd, ens]
  have t3 : σ0 3 = some (.row 1 [.mp 2]) := by rw [hσ0]; simp [upd]
  obtain ⟨σa, a1, a2⟩ := c65 (n := 4) l c t t0 t1
  obtain ⟨R, hR⟩ : ∃ R, R = nowR (lst l) c t := ⟨_, rfl⟩
  have hRl : R.length ≤ 128 := by rw [hR]; have := nowR_len (lst l) c t; omega
  have hRv : ∀ r ∈ R, (lst r.v).length ≤ 1000000 := by rw [hR]; exact nowR_all (P := fun v => (lst v).length ≤ 1000000) h.2 c t
  have hRa : Asc R := by rw [hR]; exact nowR_asc _ _ _
  rw [← hR]
  simp +contextual -implicitDefEqProofs (maxSteps := 2000000) only [↓wP, wQ, wQ1, wQ2, wQ3, wR, boxE, partsOf, ↓reduceIte, Nat.reduceEqDiff, Nat.reduceAdd, Nat.reduceSub, Nat.reduceLeDiff, Nat.reduceLT, Nat.reduceMul, reduceCtorEq, Int.reduceBNe, Int.reduceBEq, Int.reduceLT, Int.reduceLE, Int.reduceGT, ← hσ0, a1]
  refine nowLoop l c t (by omega) rfl rfl (by rw [a2 3 (by decide) (by decide)]; exact t3) (by rw [a2 2 (by decide) (by decide)]; exact t2) (by omega) (fun σ1 n1 e1 e2 ⟨Lm, clk, m1, m2, m3⟩ => ?_)
  rw [← hR] at m3
  have t3' : σ1 3 = some (.row 1 [.mp 2]) := by rw [e1 3 (by omega) (by decide), a2 3 (by decide) (by decide)]; exact t3
  have hrg : rangeE (.mp 2) σ1 n1 = some (.it n1, upd σ1 n1 (some (.iter 2 clk [] clk)), n1 + 1) := by simp [rangeE, m2]
  simp +contextual -implicitDefEqProofs (maxSteps := 2000000) only [↓wP, wQ, wQ1, wQ2, wQ3, wR, boxE, partsOf, ↓reduceIte, Nat.reduceEqDiff, Nat.reduceAdd, Nat.reduceSub, Nat.reduceLeDiff, Nat.reduceLT, Nat.reduceMul, reduceCtorEq, Int.reduceBNe, Int.reduceBEq, Int.reduceLT, Int.reduceLE, Int.reduceGT, t3', hrg]
  refine WC_cutB (fun env σ n => ∃ (D : List Rw) (v : V), env 9 = v ∧ Pl σ (n1 + 1) n 2 v (oL (D.map rwV)) ∧ (D.map (·.id)).Nodup ∧ ∀ x, x ∈ D ↔ x ∈ R) ?_ ?_
  · refine WC_loopM 0 (fun (seen : List Nat) env σ n => env 32 = .it n1 ∧ n1 < n ∧ σ n1 = some (.iter 2 clk seen clk) ∧ σ 2 = some (.map (ens uV vV Lm) clk) ∧ ∃ (D : List Rw) (v : V), env 9 = v ∧ Pl σ (n1 + 1) n 2 v (oL (D.map rwV)) ∧ Seen R D Lm seen) (fun seen => (Lm.filter fun x => decide (x.2.2 ∉ seen)).length) ?_ [] _ _ _ ?_
    · intro seen env σ n ⟨k1, k2, k3, k4, D, v, k5, k6, k7⟩
      rw [vl_tmp, k1]
      refine nextW_ens m1 k3 k4 (Nat.zero_le _) (fun e he hn => ?_) (fun hall => ?_)
      · obtain ⟨S0, hS0⟩ : ∃ S, S = upd σ n1 (some (.iter 2 clk (seen ++ [e.2.2]) clk)) := ⟨_, rfl⟩
        rw [← hS0]
        have b1 : S0 2 = some (.map (ens uV vV Lm) clk) := by rw [hS0, upd_ne (by omega)]; exact k4
        have b2 : S0 n1 = some (.iter 2 clk (seen ++ [e.2.2]) clk) := by rw [hS0, upd_self]
        have b3 : ∀ i, i ≠ n1 → S0 i = σ i := fun i hi => by rw [hS0, upd_ne hi]
        have hen := entry_ens m1 b2 b1 he
        have hlt := unseen_lt he hn
        have hst := k7.step m1 m3 he hn
        have hDl := k7.len
        have hev : (lst e.2.1).length ≤ 1000000 := hRv ⟨e.1, e.2.1⟩ ((m3.2 e.1 e.2.1).2 ((vw_some m1.keys).2 ⟨e.2.2, he⟩))
        obtain ⟨a, vv, s⟩ := e
        simp only [uV, vV] at hen
        have f := f74 vv hev
        have hc := k6.cells
        have hsp := spl k6
        have k6' := k6.loc (σ' := S0) (fun i hi _ => b3 i (by omega)) (Nat.le_refl n)
        have hvn : ∀ i, i ≤ n1 → ∀ off len s, v ≠ .ref i off len s := by
          intro i hi off len s e
          subst e
          cases ho' : oL (D.map rwV) with
          | none => rw [ho'] at k6; cases k6
          | some xs => rw [ho'] at k6; obtain ⟨i, e, -, e2, -⟩ := k6; simp only [V.ref.injEq] at e; omega
        simp +contextual -implicitDefEqProofs (maxSteps := 2000000) only [↓wP, wQ, wQ1, wQ2, wQ3, wR, boxE, partsOf, ↓reduceIte, Nat.reduceEqDiff, Nat.reduceAdd, Nat.reduceSub, Nat.reduceLeDiff, Nat.reduceLT, Nat.reduceMul, reduceCtorEq, Int.reduceBNe, Int.reduceBEq, Int.reduceLT, Int.reduceLE, Int.reduceGT, k1, k5, hen, f]
        refine stepW_app1 (m := n1 + 1) (n0 := n) (σ0 := S0) k6' (fun i g1 g2 => ?_) (by omega) (by omega) (Nat.zero_le _) ?_ (fun _ σ2 g1 g2 => ?_)
        · rw [upd_ne (by omega)]
        · rw [lst_oL, List.length_map]; unfold LIM; omega
        · rw [lst_oL] at g1 ⊢
          have b2' : σ2 n1 = some (.iter 2 clk (seen ++ [s]) clk) := by rw [g2 n1 (by omega) (hvn n1 (Nat.le_refl _)), upd_ne (by omega)]; exact b2
          have b1' : σ2 2 = some (.map (ens uV vV Lm) clk) := by rw [g2 2 (by omega) (hvn 2 (by omega)), upd_ne (by omega)]; exact b1
          simp +contextual -implicitDefEqProofs (maxSteps := 2000000) only [↓wP, wQ, wQ1, wQ2, wQ3, wR, boxE, partsOf, ↓reduceIte, Nat.reduceEqDiff, Nat.reduceAdd, Nat.reduceSub, Nat.reduceLeDiff, Nat.reduceLT, Nat.reduceMul, reduceCtorEq, Int.reduceBNe, Int.reduceBEq, Int.reduceLT, Int.reduceLE, Int.reduceGT, k1, hc, hsp]
          refine ⟨seen ++ [s], hlt, by omega, b2', b1', D ++ [⟨a, vv⟩], _, rfl, ?_, hst⟩
          rw [List.map_append]
          have e3 : oL (D.map rwV ++ [(⟨a, vv⟩ : Rw)].map rwV) = some (D.map rwV ++ [.agg [.int .u64 a, slV 1 i32V vv]]) := by
            cases D <;> rfl
          rw [e3]
          exact g1
      · simp +contextual -implicitDefEqProofs (maxSteps := 2000000) only [↓wP, wQ, wQ1, wQ2, wQ3, wR, boxE, partsOf, ↓reduceIte, Nat.reduceEqDiff, Nat.reduceAdd, Nat.reduceSub, Nat.reduceLeDiff, Nat.reduceLT, Nat.reduceMul, reduceCtorEq, Int.reduceBNe, Int.reduceBEq, Int.reduceLT, Int.reduceLE, Int.reduceGT]
        exact ⟨rfl, rfl, D, v, k5, k6, k7.2.1, k7.all m1 m3 hall⟩
    · simp +contextual -implicitDefEqProofs (maxSteps := 2000000) only [↓wP, wQ, wQ1, wQ2, wQ3, wR, boxE, partsOf, ↓reduceIte, Nat.reduceEqDiff, Nat.reduceAdd, Nat.reduceSub, Nat.reduceLeDiff, Nat.reduceLT, Nat.reduceMul, reduceCtorEq, Int.reduceBNe, Int.reduceBEq, Int.reduceLT, Int.reduceLE, Int.reduceGT]
      have c2 : (2 : Nat) ≠ n1 := by omega
      exact ⟨by omega, by rw [if_neg c2]; exact m2, [], .nilS, rfl, by simp [oL, Pl], Seen.nil⟩
  · intro env σ n ⟨D, v, k1, k2, k3, k4⟩
    have hDl : D.length ≤ R.length := by
      have := nodup_len (l := D.map (·.id)) (m := R.map (·.id)) k3 (fun x hx => by obtain ⟨r, hr, rfl⟩ := List.mem_map.1 hx; exact List.mem_map.2 ⟨r, (k4 r).1 hr, rfl⟩)
      simpa using this
    cases D with
    | nil =>
      have hR0 : R = [] := by
        cases R with
        | nil => rfl
        | cons r R => have := (k4 r).2 List.mem_cons_self; simp at this
      simp only [List.map_nil, oL, Pl] at k2
      rw [k2] at k1
      simp +contextual -implicitDefEqProofs (maxSteps := 2000000) only [↓wP, wQ, wQ1, wQ2, wQ3, wR, boxE, partsOf, ↓reduceIte, Nat.reduceEqDiff, Nat.reduceAdd, Nat.reduceSub, Nat.reduceLeDiff, Nat.reduceLT, Nat.reduceMul, reduceCtorEq, Int.reduceBNe, Int.reduceBEq, Int.reduceLT, Int.reduceLE, Int.reduceGT, k1]
      refine stepW_raw (by decide) (raw75n 96 σ n ?_)
      simp +contextual -implicitDefEqProofs (maxSteps := 2000000) only [↓wP, wQ, wQ1, wQ2, wQ3, wR, boxE, partsOf, ↓reduceIte, Nat.reduceEqDiff, Nat.reduceAdd, Nat.reduceSub, Nat.reduceLeDiff, Nat.reduceLT, Nat.reduceMul, reduceCtorEq, Int.reduceBNe, Int.reduceBEq, Int.reduceLT, Int.reduceLE, Int.reduceGT, k1]
      rw [hR0]; rfl
    | cons r0 D0 =>
      obtain ⟨D, hD⟩ : ∃ D, D = r0 :: D0 := ⟨_, rfl⟩
      rw [← hD] at k2 k3 k4 hDl
      have ho : oL (D.map rwV) = some (D.map rwV) := by rw [hD]; rfl
      rw [ho] at k2
      obtain ⟨i, rfl, p1, p2, p3⟩ := k2
      rw [List.length_map] at k1
      have hsz : D.toArray.size = D.length := by simp
      simp +contextual -implicitDefEqProofs (maxSteps := 2000000) only [↓wP, wQ, wQ1, wQ2, wQ3, wR, boxE, partsOf, ↓reduceIte, Nat.reduceEqDiff, Nat.reduceAdd, Nat.reduceSub, Nat.reduceLeDiff, Nat.reduceLT, Nat.reduceMul, reduceCtorEq, Int.reduceBNe, Int.reduceBEq, Int.reduceLT, Int.reduceLE, Int.reduceGT, k1]
      refine stepW_raw (by decide) ?_
      have hr := raw75 96 cmp96 D.toArray i n σ (by omega) p3 (by rw [rw_toArray]; exact p1) (Q := fun v σ' n' => ∃ d', σ' i = some (.row 2 (rw' d')) ∧ d'.size = D.length ∧ d'.toList = R) (fun σ' d' n' q1 q2 q3 q4 q5 => by
        obtain ⟨s1, s2⟩ := sorted_asc q4 q5 (by simpa using k3)
        refine ⟨d', q2, by rw [q4.1, hsz], asc_uniq s1 hRa (fun x => ?_)⟩
        rw [s2, ← k4])
      rw [hsz] at hr
      refine run_mono _ _ _ (fun o ho => ?_) hr
      cases o <;> try exact ho.elim
      obtain ⟨d', q1, q2, q3⟩ := ho
      have hf := frz_row q2 q1 9
      have hrw : rw' d' = R.map rwV := by unfold rw'; rw [q3]
      rw [hrw] at hf
      have hRne : oL R = some R := by
        cases R with
        | nil => have := (k4 r0).1 (by rw [hD]; exact List.mem_cons_self); simp at this
        | cons r R => rfl
      show WR T _ _ _ _ _ _
      simp +contextual -implicitDefEqProofs (maxSteps := 2000000) only [↓wP, wQ, wQ1, wQ2, wQ3, wR, boxE, partsOf, ↓reduceIte, Nat.reduceEqDiff, Nat.reduceAdd, Nat.reduceSub, Nat.reduceLeDiff, Nat.reduceLT, Nat.reduceMul, reduceCtorEq, Int.reduceBNe, Int.reduceBEq, Int.reduceLT, Int.reduceLE, Int.reduceGT, k1, hf]
      rw [hRne]; rfl
end Go.Q.SB
end

section
/- ideal.State; which rows are the same. -/
set_option linter.unusedSimpArgs false
set_option linter.unusedVariables false
namespace Go.Q.SB
open Go.Q Go.Sort
theorem asc_step {R : List Rw} (h : Asc R) (w : Wr) : Asc (ovStep R w) := by
  unfold ovStep
  split
  · exact asc_delR h _
  · exact asc_putR h _
theorem asc_fold : ∀ (W : List Wr) {R : List Rw}, Asc R → Asc (W.foldl ovStep R)
  | [], _, h => h
  | w :: W, _, h => asc_fold W (asc_step h w)
theorem del_step_eq {R : List Rw} (h : Asc R) {w : Wr} {a : Int} (e : w.id = a) : delR (ovStep R w) a = delR R a := by
  refine asc_uniq (asc_delR (asc_step h w) a) (asc_delR h a) (fun x => ?_)
  rw [mem_delR, mem_delR]
  unfold ovStep
  split
  · rw [mem_delR, e]
    constructor
    · rintro ⟨⟨h1, h2⟩, h3⟩; exact ⟨h1, h3⟩
    · rintro ⟨h1, h3⟩; exact ⟨⟨h1, h3⟩, h3⟩
  · rw [mem_putR]
    constructor
    · rintro ⟨h1 | ⟨h1, h2⟩, h3⟩
      · rw [h1] at h3; exact absurd e h3
      · exact ⟨h1, h3⟩
    · rintro ⟨h1, h3⟩; exact ⟨.inr ⟨h1, by rw [e]; exact h3⟩, h3⟩
theorem del_step_ne {R : List Rw} (h : Asc R) {w : Wr} {a : Int} (e : w.id ≠ a) : ovStep (delR R a) w = delR (ovStep R w) a := by
  refine asc_uniq (asc_step (asc_delR h a) w) (asc_delR (asc_step h w) a) (fun x => ?_)
  rw [mem_delR]
  unfold ovStep
  split
  · rw [mem_delR, mem_delR, mem_delR]
    constructor
    · rintro ⟨⟨h1, h2⟩, h3⟩; exact ⟨⟨h1, h3⟩, h2⟩
    · rintro ⟨⟨h1, h3⟩, h2⟩; exact ⟨⟨h1, h2⟩, h3⟩
  · rw [mem_putR, mem_putR, mem_delR]
    constructor
    · rintro (h1 | ⟨⟨h1, h2⟩, h3⟩)
      · exact ⟨.inl h1, by rw [h1]; exact e⟩
      · exact ⟨.inr ⟨h1, h3⟩, h2⟩
    · rintro ⟨h1 | ⟨h1, h3⟩, h2⟩
      · exact .inl h1
      · exact .inr ⟨⟨h1, h2⟩, h3⟩
theorem fold_del : ∀ (W : List Wr) {R : List Rw} (a : Int), Asc R → (W.filter fun x => x.id != a).foldl ovStep (delR R a) = delR (W.foldl ovStep R) a
  | [], _, _, _ => rfl
  | w :: W, R, a, h => by
    rw [List.filter_cons, List.foldl_cons, ← fold_del W a (asc_step h w)]
    by_cases e : w.id = a
    · have e1 : (w.id != a) = false := by simp [e]
      rw [e1]
      simp only [Bool.false_eq_true, if_false]
      rw [del_step_eq h e]
    · have e1 : (w.id != a) = true := by simp [e]
      rw [e1]
      simp only [if_true, List.foldl_cons]
      rw [del_step_ne h e]
theorem delR_twice (R : List Rw) (a : Int) : delR (delR R a) a = delR R a := by unfold delR; rw [List.filter_filter]; simp
theorem step_del (R : List Rw) (w : Wr) : ovStep (delR R w.id) w = ovStep R w := by
  unfold ovStep
  split
  · exact delR_twice R _
  · unfold putR; rw [delR_twice]
theorem delR_nil (a : Int) : delR [] a = [] := rfl
theorem now_st (l : List Fa) (c t : Int) : (stW l c t).foldl ovStep [] = nowR l c t := by
  have key : ∀ n, n ≤ l.length → (stW (l.take n) c t).foldl ovStep [] = nowR (l.take n) c t := by
    intro n
    induction n with
    | zero => intro _; rfl
    | succ n ih =>
      intro hn
      have ih' := ih (by omega)
      rw [← List.take_append_getElem (by omega : n < l.length), stW_snoc, nowR_snoc]
      generalize l[n]'(by omega) = f
      unfold stStep nowStep cnt
      by_cases h1 : f.ts ≤ t
      · by_cases h2 : f.w.c = c
        · rw [if_pos ⟨h1, h2⟩, if_pos (by simp [h1, h2]), List.foldl_append]
          have := fold_del (stW (l.take n) c t) (R := []) f.w.id List.Pairwise.nil
          rw [delR_nil] at this
          rw [this, ih']
          show ovStep (delR _ f.w.id) f.w = _
          rw [step_del]
        · rw [if_neg (by rintro ⟨-, h⟩; exact h2 h), if_neg (by simp [h2]), ih']
      · rw [if_neg (by rintro ⟨h, -⟩; exact h1 h), if_neg (by simp [h1]), ih']
  have := key l.length (Nat.le_refl _)
  rw [List.take_length] at this
  exact this
theorem stR_now (l : List Fa) (c t : Int) : stR l c t = (nowR l c t).map cpR := by
  unfold stR ovR
  show ((stW l c t).foldl ovStep []).map cpR = _
  rw [now_st]
def stE (l : List Fa) (c : Int) : Int := if rightF l = false then 280 else if collB c = false then 2 else 0
def stO (l : List Fa) (c t : Int) : List Rw := if stE l c = 0 then nowR l c t else []
theorem r22 (l : Option (List Fa)) (c t : Int) (h : Few (lst l)) : res T 22 [slV 5 faV l, .int .i64 c, .int .u64 t] = some (.tup [slV 2 rwV (oL (stO (lst l) c t)), .int .i64 (stE (lst l) c)]) := by
  refine run_res (run_pure (fn := g22) rfl rfl (by decide) ?_)
  simp only [g22, b22, oO, oN, mV, lD, gO, pP, qQ, cI, aR]
  have f24' := f24 l h.fit.sm
  have f59' := f59 c
  have f60' := callE_tr (fs := true) (by decide) (r60 l c t h) (by simp [Tr, Tr_slV]) (Nw_slV _ _ _ _)
  have hm44 : T.mode 44 ≠ .raw := by decide
  unfold stO stE
  cases hrf : rightF (lst l)
  · rw [hrf] at f24'
    rw [if_neg (by decide)] at f24'
    have r := r44 280 (if collB c = true then 0 else 2)
    rw [if_neg (show ¬ (280 : Int) = 0 by decide)] at r
    have z0 : ((280 : Int) != 0) = true := rfl
    simp +contextual -implicitDefEqProofs (maxSteps := 2000000) only [↓wP, wQ, wQ1, wQ2, wQ3, wR, boxE, partsOf, ↓reduceIte, Nat.reduceEqDiff, Nat.reduceAdd, Nat.reduceSub, Nat.reduceLeDiff, Nat.reduceLT, Nat.reduceMul, reduceCtorEq, Int.reduceBNe, Int.reduceBEq, Int.reduceLT, Int.reduceLE, Int.reduceGT, f24', f59', callE_eq hm44, frz_rf, rch_rf, r, z0]
    rfl
  rw [hrf] at f24'
  rw [if_pos rfl] at f24'
  cases hrw : collB c
  · rw [hrw] at f59'
    rw [if_neg (by decide)] at f59'
    have r := r44 0 2
    rw [if_pos rfl] at r
    have z0 : ((2 : Int) != 0) = true := rfl
    simp +contextual -implicitDefEqProofs (maxSteps := 2000000) only [↓wP, wQ, wQ1, wQ2, wQ3, wR, boxE, partsOf, ↓reduceIte, Nat.reduceEqDiff, Nat.reduceAdd, Nat.reduceSub, Nat.reduceLeDiff, Nat.reduceLT, Nat.reduceMul, reduceCtorEq, Int.reduceBNe, Int.reduceBEq, Int.reduceLT, Int.reduceLE, Int.reduceGT, f24', f59', callE_eq hm44, frz_rf, rch_rf, r, z0]
    rfl
  rw [hrw] at f59'
  rw [if_pos rfl] at f59'
  have r := r44 0 0
  rw [if_pos rfl] at r
  have z0 : ((0 : Int) != 0) = false := rfl
  simp +contextual -implicitDefEqProofs (maxSteps := 2000000) only [↓wP, wQ, wQ1, wQ2, wQ3, wR, boxE, partsOf, ↓reduceIte, Nat.reduceEqDiff, Nat.reduceAdd, Nat.reduceSub, Nat.reduceLeDiff, Nat.reduceLT, Nat.reduceMul, reduceCtorEq, Int.reduceBNe, Int.reduceBEq, Int.reduceLT, Int.reduceLE, Int.reduceGT, f24', f59', callE_eq hm44, frz_rf, rch_rf, r, z0, f60']
theorem f22 (l : Option (List Fa)) (c t : Int) (h : Few (lst l)) (fs : Bool) (σ : Sto) (n lk : Nat) : callE T fs 22 [slV 5 faV l, .int .i64 c, .int .u64 t] σ n lk = some (.tup [slV 2 rwV (oL (stO (lst l) c t)), .int .i64 (stE (lst l) c)], σ, n) :=
  callE_tr (by decide) (r22 l c t h) (by simp [Tr, Tr_slV]) (by simp [Nw, Nw_slV]) fs σ n lk
def sameR1 (a b : Rw) : Bool := a.id == b.id && lst a.v == lst b.v
def SmR (l : Option (List Rw)) : Prop := (lst l).length < 4611686018427387904 ∧ ∀ r ∈ lst l, Sm r.v
theorem r31 (a b : Option (List Rw)) (ha : SmR a) (hb : SmR b) : res T 31 [slV 2 rwV a, slV 2 rwV b] = some (.bool (sameL sameR1 (lst a) (lst b))) := by
  refine run_res (run_pure (fn := g31) rfl rfl (by decide) ?_)
  simp only [g31, b31, oO, oN, mV, lD, gO, pP, qQ, cI, aR]
  have hla := ha.1
  have hlb := hb.1
  unfold sameL
  by_cases hlen : (lst a).length = (lst b).length
  · have hd : (((lst a).length : Int) != ((lst b).length : Int)) = false := by simp [hlen]
    rw [decide_eq_true hlen, Bool.true_and]
    simp +contextual -implicitDefEqProofs (maxSteps := 2000000) only [↓wP, wQ, wQ1, wQ2, wQ3, wR, boxE, partsOf, ↓reduceIte, Nat.reduceEqDiff, Nat.reduceAdd, Nat.reduceSub, Nat.reduceLeDiff, Nat.reduceLT, Nat.reduceMul, reduceCtorEq, Int.reduceBNe, Int.reduceBEq, Int.reduceLT, Int.reduceLE, Int.reduceGT, hd]
    refine WC_for (lst a).length 0 (fun (j : Nat) env σ n => env 0 = slV 2 rwV a ∧ env 1 = slV 2 rwV b ∧ smU sameR1 (lst a) (lst b) j = true) (by omega) (by decide) (by decide) (fun _ _ => rfl) (fun _ _ _ => rfl) ?_ ?_ _ _ _ rfl rfl ?_
    · intro j env σ n hj h1 h2 ⟨g1, g2, g3⟩
      simp only [vl_tmp] at h2
      have hx : (lst a)[j]? = some (lst a)[j] := List.getElem?_eq_getElem hj
      have hy : (lst b)[j]? = some (lst b)[j] := List.getElem?_eq_getElem (by omega)
      have hst := smU_step (p := sameR1) hj (by omega : j < (lst b).length)
      rw [g3, Bool.true_and] at hst
      have hvx := ha.2 _ (List.getElem_mem hj)
      have hno : sameR1 (lst a)[j] (lst b)[j] = false → smU sameR1 (lst a) (lst b) (lst a).length = false := fun hk => smU_no (by rw [hst, hk]) _ (by omega)
      generalize (lst a)[j] = x at *
      generalize (lst b)[j] = y at *
      have f := f56 x.v y.v (by unfold Sm at hvx; omega)
      have hs1 : sameR1 x y = (x.id == y.id && (lst x.v == lst y.v)) := rfl
      by_cases k1 : x.id = y.id
      · have k1' : (x.id != y.id) = false := by simp [k1]
        cases k5 : (lst x.v == lst y.v)
        · rw [k5] at f
          have hk := hno (by rw [hs1, k5]; simp)
          simp +contextual -implicitDefEqProofs (maxSteps := 2000000) only [↓wP, wQ, wQ1, wQ2, wQ3, wR, boxE, partsOf, ↓reduceIte, Nat.reduceEqDiff, Nat.reduceAdd, Nat.reduceSub, Nat.reduceLeDiff, Nat.reduceLT, Nat.reduceMul, reduceCtorEq, Int.reduceBNe, Int.reduceBEq, Int.reduceLT, Int.reduceLE, Int.reduceGT, h1, h2, g1, g2, hx, hy, rwV_eq, k1', f]
          rw [hk]
        · rw [k5] at f
          have hk : sameR1 x y = true := by rw [hs1, k1, k5]; simp
          simp +contextual -implicitDefEqProofs (maxSteps := 2000000) only [↓wP, wQ, wQ1, wQ2, wQ3, wR, boxE, partsOf, ↓reduceIte, Nat.reduceEqDiff, Nat.reduceAdd, Nat.reduceSub, Nat.reduceLeDiff, Nat.reduceLT, Nat.reduceMul, reduceCtorEq, Int.reduceBNe, Int.reduceBEq, Int.reduceLT, Int.reduceLE, Int.reduceGT, h1, h2, g1, g2, hx, hy, rwV_eq, k1', f]
          rw [hst, hk]
      · have k1' : (x.id != y.id) = true := by simp [k1]
        have hk := hno (by rw [hs1]; simp [k1])
        simp +contextual -implicitDefEqProofs (maxSteps := 2000000) only [↓wP, wQ, wQ1, wQ2, wQ3, wR, boxE, partsOf, ↓reduceIte, Nat.reduceEqDiff, Nat.reduceAdd, Nat.reduceSub, Nat.reduceLeDiff, Nat.reduceLT, Nat.reduceMul, reduceCtorEq, Int.reduceBNe, Int.reduceBEq, Int.reduceLT, Int.reduceLE, Int.reduceGT, h1, h2, g1, g2, hx, hy, rwV_eq, k1']
        rw [hk]
    · intro env σ n ⟨g1, g2, g3⟩ h1 h2
      simp +contextual -implicitDefEqProofs (maxSteps := 2000000) only [↓wP, wQ, wQ1, wQ2, wQ3, wR, boxE, partsOf, ↓reduceIte, Nat.reduceEqDiff, Nat.reduceAdd, Nat.reduceSub, Nat.reduceLeDiff, Nat.reduceLT, Nat.reduceMul, reduceCtorEq, Int.reduceBNe, Int.reduceBEq, Int.reduceLT, Int.reduceLE, Int.reduceGT]
      rw [g3]
    · simp +contextual -implicitDefEqProofs (maxSteps := 2000000) only [↓wP, wQ, wQ1, wQ2, wQ3, wR, boxE, partsOf, ↓reduceIte, Nat.reduceEqDiff, Nat.reduceAdd, Nat.reduceSub, Nat.reduceLeDiff, Nat.reduceLT, Nat.reduceMul, reduceCtorEq, Int.reduceBNe, Int.reduceBEq, Int.reduceLT, Int.reduceLE, Int.reduceGT]
      rfl
  · have hd : (((lst a).length : Int) != ((lst b).length : Int)) = true := by simp; omega
    rw [decide_eq_false hlen]
    simp +contextual -implicitDefEqProofs (maxSteps := 2000000) only [↓wP, wQ, wQ1, wQ2, wQ3, wR, boxE, partsOf, ↓reduceIte, Nat.reduceEqDiff, Nat.reduceAdd, Nat.reduceSub, Nat.reduceLeDiff, Nat.reduceLT, Nat.reduceMul, reduceCtorEq, Int.reduceBNe, Int.reduceBEq, Int.reduceLT, Int.reduceLE, Int.reduceGT, hd]
theorem f31 (a b : Option (List Rw)) (ha : SmR a) (hb : SmR b) (fs : Bool) (σ : Sto) (n lk : Nat) : callE T fs 31 [slV 2 rwV a, slV 2 rwV b] σ n lk = some (.bool (sameL sameR1 (lst a) (lst b)), σ, n) :=
  callE_tr (by decide) (r31 a b ha hb) (by simp [Tr, Tr_slV]) rfl fs σ n lk
theorem same_r {l m : List Rw} (h : l.map (fun r => (r.id, lst r.v)) = m.map (fun r => (r.id, lst r.v))) : sameL sameR1 l m = true := sameL_of (q := fun r : Rw => (r.id, lst r.v)) (fun a b h => by
  simp only [Prod.mk.injEq] at h
  unfold sameR1
  rw [h.1, h.2]; simp) h
end Go.Q.SB
end

section
/- What a transaction sees: plain laws. -/
set_option linter.unusedSimpArgs false
set_option linter.unusedVariables false
namespace Go.Q.SB
open Go.Q Go.Sort
def roN (l : List Rw) (n : Nat) (r : Rw) : Bool := okV r.v && (match n with | 0 => true | j + 1 => match l[j]? with | some p => decide (p.id < r.id) | none => true)
def roU (l : List Rw) : Nat → Bool
  | 0 => true
  | n + 1 => roU l n && (match l[n]? with | some r => roN l n r | none => true)
theorem roU_step {l : List Rw} {n : Nat} (hn : n < l.length) : roU l (n + 1) = (roU l n && roN l n l[n]) := by
  show (roU l n && _) = _
  rw [List.getElem?_eq_getElem hn]
theorem roU_no {l : List Rw} {n : Nat} (h : roU l n = false) : ∀ m, n ≤ m → roU l m = false
  | 0, hm => by have : n = 0 := by omega
                subst this; cases h
  | m + 1, hm => by
    by_cases e : n = m + 1
    · subst e; exact h
    · show (roU l m && _) = false
      rw [roU_no h m (by omega)]; rfl
theorem roU_pre {l : List Rw} : ∀ {n : Nat}, roU l n = true → ∀ j, j < n → (hj : j < l.length) → roN l j l[j] = true
  | 0, _, j, hj, _ => by omega
  | n + 1, h, j, hj, hl => by
    unfold roU at h
    rw [Bool.and_eq_true] at h
    by_cases e : j = n
    · subst e
      have := h.2
      rw [List.getElem?_eq_getElem hl] at this
      exact this
    · exact roU_pre h.1 j (by omega) hl
theorem ro_asc {l : List Rw} (h : roU l l.length = true) : Asc l := by
  unfold Asc
  rw [List.pairwise_iff_getElem]
  have step : ∀ j (hj : j + 1 < l.length), (l[j]).id < (l[j + 1]).id := by
    intro j hj
    have := roU_pre h (j + 1) hj hj
    unfold roN at this
    rw [Bool.and_eq_true] at this
    have h2 := this.2
    simp only [List.getElem?_eq_getElem (show j < l.length by omega), decide_eq_true_eq] at h2
    exact h2
  have key : ∀ k i (hi : i < l.length) (hk : i + k + 1 < l.length), (l[i]).id < (l[i + k + 1]).id := by
    intro k
    induction k with
    | zero => intro i hi hk; exact step i hk
    | succ k ih =>
      intro i hi hk
      have h1 := ih i hi (by omega)
      have h2 := step (i + k + 1) (by omega)
      have e : i + (k + 1) + 1 = i + k + 1 + 1 := by omega
      simp only [e]
      omega
  intro i j hi hj hij
  have h1 := key (j - i - 1) i hi (by omega)
  have e : i + (j - i - 1) + 1 = j := by omega
  simp only [e] at h1
  exact h1
theorem w_pair {l : List Wr} (h : rightW l = true) : l.Pairwise fun a b => bef a b = true := by
  unfold rightW at h
  rw [Bool.and_eq_true] at h
  have h2 := h.2
  rw [List.pairwise_iff_getElem]
  have pre : ∀ n, n ≤ l.length → wU l n = true → ∀ j, j < n → (hj : j < l.length) → okN l j l[j] = true := by
    intro n
    induction n with
    | zero => intro _ _ j hj; omega
    | succ n ih =>
      intro hn hw j hj hjl
      rw [wU_step (by omega : n < l.length), Bool.and_eq_true] at hw
      by_cases e : j = n
      · subst e; exact hw.2
      · exact ih (by omega) hw.1 j (by omega) hjl
  have step : ∀ j (hj : j + 1 < l.length), bef l[j] l[j + 1] = true := by
    intro j hj
    have := pre _ (Nat.le_refl _) h2 (j + 1) hj hj
    unfold okN at this
    rw [Bool.and_eq_true] at this
    have h2 := this.2
    simp only [List.getElem?_eq_getElem (show j < l.length by omega)] at h2
    exact h2
  have key : ∀ k i (hi : i < l.length) (hk : i + k + 1 < l.length), bef l[i] l[i + k + 1] = true := by
    intro k
    induction k with
    | zero => intro i hi hk; exact step i hk
    | succ k ih =>
      intro i hi hk
      have h1 := ih i hi (by omega)
      have h2 := step (i + k + 1) (by omega)
      have e : i + (k + 1) + 1 = i + k + 1 + 1 := by omega
      simp only [e]
      exact bef_trans h1 h2
  intro i j hi hj hij
  have h1 := key (j - i - 1) i hi (by omega)
  have e : i + (j - i - 1) + 1 = j := by omega
  simp only [e] at h1
  exact h1
theorem w_ids {l : List Wr} (h : rightW l = true) (c : Int) : (l.filter fun w => w.c == c).Pairwise fun a b => a.id < b.id := by
  have h1 := (w_pair h).filter (fun w => w.c == c)
  refine h1.imp_of_mem (fun {a b} ha hb hab => ?_)
  have e1 := (List.mem_filter.1 ha).2
  have e2 := (List.mem_filter.1 hb).2
  simp only [beq_iff_eq] at e1 e2
  unfold bef at hab
  simp only [Bool.or_eq_true, Bool.and_eq_true, decide_eq_true_eq, beq_iff_eq] at hab
  omega
theorem mem_ov : ∀ {W : List Wr} {R : List Rw}, (W.Pairwise fun a b => a.id ≠ b.id) → ∀ x, x ∈ W.foldl ovStep R ↔ (x ∈ R ∧ ∀ w ∈ W, w.id ≠ x.id) ∨ ∃ w ∈ W, w.g = false ∧ x = ⟨w.id, w.v⟩
  | [], R, _, x => by simp
  | w :: W, R, h, x => by
    obtain ⟨h1, h2⟩ := List.pairwise_cons.1 h
    rw [List.foldl_cons, mem_ov h2 x]
    have hs : x ∈ ovStep R w ↔ (x ∈ R ∧ x.id ≠ w.id) ∨ (w.g = false ∧ x = ⟨w.id, w.v⟩) := by
      unfold ovStep
      cases hg : w.g
      · simp only [Bool.false_eq_true, if_false, mem_putR, true_and]
        constructor
        · rintro (h | h)
          · exact .inr h
          · exact .inl h
        · rintro (h | h)
          · exact .inr h
          · exact .inl h
      · simp only [if_true, mem_delR, Bool.true_eq_false, false_and, or_false]
    rw [hs]
    constructor
    · rintro (⟨⟨h3, h4⟩ | ⟨h3, h4⟩, h5⟩ | ⟨w', h3, h4, h5⟩)
      · exact .inl ⟨h3, fun w' hw' => by
          rcases List.mem_cons.1 hw' with rfl | hw'
          · exact fun e => h4 e.symm
          · exact h5 w' hw'⟩
      · exact .inr ⟨w, List.mem_cons_self, h3, h4⟩
      · exact .inr ⟨w', List.mem_cons_of_mem _ h3, h4, h5⟩
    · rintro (⟨h3, h4⟩ | ⟨w', h3, h4, h5⟩)
      · exact .inl ⟨.inl ⟨h3, fun e => h4 w List.mem_cons_self e.symm⟩, fun w' hw' => h4 w' (List.mem_cons_of_mem _ hw')⟩
      · rcases List.mem_cons.1 h3 with rfl | h3
        · exact .inl ⟨.inr ⟨h4, h5⟩, fun w'' hw'' => by
            rw [h5]
            exact fun e => h1 w'' hw'' e.symm⟩
        · exact .inr ⟨w', h3, h4, h5⟩
theorem fold_put {rows : List Rw} (h : Asc rows) : rows.foldl putR [] = rows := by
  have key : ∀ (l R : List Rw), Asc (R ++ l) → l.foldl putR R = R ++ l := by
    intro l
    induction l with
    | nil => intro R _; simp
    | cons r l ih =>
      intro R hR
      have h1 : putR R r = R ++ [r] := by
        have hRa : Asc R := (List.pairwise_append.1 hR).1
        have hlt : ∀ x ∈ R, x.id < r.id := fun x hx => (List.pairwise_append.1 hR).2.2 x hx r List.mem_cons_self
        refine asc_uniq (asc_putR hRa r) ?_ (fun x => ?_)
        · unfold Asc
          rw [List.pairwise_append]
          exact ⟨hRa, List.pairwise_singleton _ _, fun a ha b hb => by rw [List.mem_singleton] at hb; subst hb; exact hlt a ha⟩
        · rw [mem_putR, List.mem_append, List.mem_singleton]
          constructor
          · rintro (h | ⟨h, -⟩)
            · exact .inr h
            · exact .inl h
          · rintro (h | h)
            · exact .inr ⟨h, by have := hlt x h; omega⟩
            · exact .inl h
      rw [List.foldl_cons, h1, ih (R ++ [r]) (by rw [List.append_assoc]; exact hR), List.append_assoc]
      rfl
  have := key rows [] (by simpa using h)
  simpa using this
def ownI (W : List Wr) (id : Int) : Bool := W.any fun w => w.id == id
def ovD (rows : List Rw) (W : List Wr) : List Rw := (rows.filter fun r => !ownI W r.id) ++ (W.filter fun w => !w.g).map fun w => ⟨w.id, w.v⟩
theorem mem_ovD {rows : List Rw} {W : List Wr} (hr : Asc rows) (hw : W.Pairwise fun a b => a.id < b.id) (x : Rw) : x ∈ ovD rows W ↔ x ∈ ovR rows W := by
  unfold ovR
  rw [fold_put hr, mem_ov (hw.imp fun h => by omega)]
  unfold ovD ownI
  rw [List.mem_append, List.mem_filter, List.mem_map]
  constructor
  · rintro (⟨h1, h2⟩ | ⟨w, h1, h2⟩)
    · refine .inl ⟨h1, fun w hw e => ?_⟩
      have : (W.any fun w => w.id == x.id) = true := List.any_eq_true.2 ⟨w, hw, by simp [e]⟩
      rw [this] at h2
      exact absurd h2 (by decide)
    · obtain ⟨h3, h4⟩ := List.mem_filter.1 h1
      exact .inr ⟨w, h3, by simpa using h4, h2.symm⟩
  · rintro (⟨h1, h2⟩ | ⟨w, h1, h2, h3⟩)
    · refine .inl ⟨h1, ?_⟩
      have : (W.any fun w => w.id == x.id) = false := List.any_eq_false.2 (fun w hw => by simp [h2 w hw])
      rw [this]; rfl
    · exact .inr ⟨w, List.mem_filter.2 ⟨h1, by simp [h2]⟩, h3.symm⟩
theorem nodup_ovD {rows : List Rw} {W : List Wr} (hr : Asc rows) (hw : W.Pairwise fun a b => a.id < b.id) : ((ovD rows W).map (·.id)).Nodup := by
  unfold ovD
  rw [List.map_append]
  refine List.nodup_append.2 ⟨?_, ?_, fun a ha b hb hab => ?_⟩
  · rw [List.nodup_iff_pairwise_ne, List.pairwise_map]
    exact (hr.filter _).imp fun h => by omega
  · rw [List.map_map, List.nodup_iff_pairwise_ne, List.pairwise_map]
    exact (hw.filter _).imp fun h => by simp only [Function.comp]; omega
  · obtain ⟨r, h1, rfl⟩ := List.mem_map.1 ha
    obtain ⟨x, h2, rfl⟩ := List.mem_map.1 hb
    obtain ⟨w, h3, rfl⟩ := List.mem_map.1 h2
    have h4 := (List.mem_filter.1 h1).2
    have : ownI W r.id = true := List.any_eq_true.2 ⟨w, (List.mem_filter.1 h3).1, by simpa using hab.symm⟩
    rw [this] at h4
    exact absurd h4 (by decide)
theorem ovR_asc (rows : List Rw) (W : List Wr) : Asc (ovR rows W) := by
  unfold ovR
  refine asc_fold W ?_
  have key : ∀ (l R : List Rw), Asc R → Asc (l.foldl putR R) := by
    intro l
    induction l with
    | nil => intro R h; exact h
    | cons r l ih => intro R h; exact ih _ (asc_putR h r)
  exact key rows [] List.Pairwise.nil
def ovE (l : List Wr) (c : Int) (rows : List Rw) : Int := if rightW l = false then 260 else if collB c = false then 2 else if roU rows rows.length = false then 170 else 0
def ovL (l : List Wr) (c : Int) (rows : List Rw) : List Rw := if ovE l c rows = 0 then ovR rows (l.filter fun w => w.c == c) else []
end Go.Q.SB
end

section
/- What a transaction sees: writes of a collection, rows told one by one. -/
set_option linter.unusedSimpArgs false
set_option linter.unusedVariables false
namespace Go.Q.SB
open Go.Q Go.Sort
def ofW (l : List Wr) (c : Int) : List Wr := if rightW l = true then l.filter fun w => w.c == c else []
theorem r73 (l : Option (List Wr)) (c : Int) (h : FitW (lst l)) : res T 73 [slV 4 wrV l, .int .i64 c] = some (slV 4 wrV (oL (ofW (lst l) c))) := by
  refine run_res (run_pure (fn := g73) rfl rfl (by decide) ?_)
  simp only [g73, b73, oO, oN, mV, lD, gO, pP, qQ, cI, aR]
  have hl := h.1
  have f45' := f45 l ⟨by omega, fun x hx => by have := h.2 x hx; unfold Sm; omega⟩
  unfold ofW
  cases hr : rightW (lst l)
  · rw [hr] at f45'
    simp +contextual -implicitDefEqProofs (maxSteps := 2000000) only [↓wP, wQ, wQ1, wQ2, wQ3, wR, boxE, partsOf, ↓reduceIte, Nat.reduceEqDiff, Nat.reduceAdd, Nat.reduceSub, Nat.reduceLeDiff, Nat.reduceLT, Nat.reduceMul, reduceCtorEq, Int.reduceBNe, Int.reduceBEq, Int.reduceLT, Int.reduceLE, Int.reduceGT, f45']
    rfl
  rw [hr] at f45'
  rw [if_pos rfl]
  simp +contextual -implicitDefEqProofs (maxSteps := 2000000) only [↓wP, wQ, wQ1, wQ2, wQ3, wR, boxE, partsOf, ↓reduceIte, Nat.reduceEqDiff, Nat.reduceAdd, Nat.reduceSub, Nat.reduceLeDiff, Nat.reduceLT, Nat.reduceMul, reduceCtorEq, Int.reduceBNe, Int.reduceBEq, Int.reduceLT, Int.reduceLE, Int.reduceGT, f45']
  refine WC_for (lst l).length 0 (fun (j : Nat) env σ n => env 1 = .int .i64 c ∧ env 11 = slV 4 wrV l ∧ ∃ v, env 5 = v ∧ Pl σ 0 n 4 v (oL ((((lst l).take j).filter fun w => w.c == c).map wrV))) (by omega) (by decide) (by decide) (fun _ _ => rfl) (fun _ _ _ => rfl) ?_ ?_ _ _ _ rfl rfl ?_
  · intro j env σ n hj h1 h2 ⟨h0, h3, v, h4, h5⟩
    simp only [vl_tmp] at h2
    have hx : (lst l)[j]? = some (lst l)[j] := List.getElem?_eq_getElem hj
    have ht : (lst l).take (j + 1) = (lst l).take j ++ [(lst l)[j]] := (List.take_append_getElem hj).symm
    generalize (lst l)[j] = x at *
    have hlen : ((((lst l).take j).filter fun w => w.c == c).map wrV).length ≤ j := by
      rw [List.length_map]
      have := List.length_filter_le (fun w : Wr => w.c == c) ((lst l).take j)
      rw [List.length_take] at this
      omega
    have hfs : ((lst l).take (j + 1)).filter (fun w => w.c == c) = ((lst l).take j).filter (fun w => w.c == c) ++ if (x.c == c) = true then [x] else [] := by
      rw [ht, List.filter_append]
      congr 1
      simp only [List.filter_cons, List.filter_nil]
    have hsp := spl h5
    have hc := h5.cells
    obtain ⟨σ1, hσ1⟩ : ∃ σ1, σ1 = upd (upd σ n (some (.row 4 [.agg [.int .i64 0, .int .u64 0, .bool false, .nilS]]))) n (some (.row 4 [.agg [.int .i64 x.c, .int .u64 x.id, .bool x.g, slV 1 i32V x.v]])) := ⟨_, rfl⟩
    have so : ∀ i, i < n → σ1 i = σ i := fun i hi => by rw [hσ1, upd_ne (by omega), upd_ne (by omega)]
    have sn : σ1 n = some (.row 4 [.agg [.int .i64 x.c, .int .u64 x.id, .bool x.g, slV 1 i32V x.v]]) := by rw [hσ1, upd_self]
    cases hk : (x.c == c)
    · rw [hk] at hfs
      simp only [Bool.false_eq_true, if_false, List.append_nil] at hfs
      simp +contextual -implicitDefEqProofs (maxSteps := 2000000) only [↓wP, wQ, wQ1, wQ2, wQ3, wR, boxE, partsOf, ↓reduceIte, Nat.reduceEqDiff, Nat.reduceAdd, Nat.reduceSub, Nat.reduceLeDiff, Nat.reduceLT, Nat.reduceMul, reduceCtorEq, Int.reduceBNe, Int.reduceBEq, Int.reduceLT, Int.reduceLE, Int.reduceGT, h1, h2, h0, h3, h4, hx, wrV_eq, ← hσ1, sn, hk]
      rw [hfs]
      exact ⟨_, rfl, h5.loc (fun i a b => so i b) (by omega)⟩
    · rw [hk] at hfs
      simp only [if_true] at hfs
      simp +contextual -implicitDefEqProofs (maxSteps := 2000000) only [↓wP, wQ, wQ1, wQ2, wQ3, wR, boxE, partsOf, ↓reduceIte, Nat.reduceEqDiff, Nat.reduceAdd, Nat.reduceSub, Nat.reduceLeDiff, Nat.reduceLT, Nat.reduceMul, reduceCtorEq, Int.reduceBNe, Int.reduceBEq, Int.reduceLT, Int.reduceLE, Int.reduceGT, h1, h2, h0, h3, h4, hx, wrV_eq, ← hσ1, sn, hk]
      refine stepW_app1 (m := 0) (n0 := n) (σ0 := σ) h5 (fun i g1 g2 => ?_) (by omega) (by omega) (Nat.zero_le _) ?_ (fun _ σ2 g1 g2 => ?_)
      · rw [upd_ne (by omega), so i g2]
      · rw [lst_oL]; unfold LIM; omega
      · rw [lst_oL] at g1 ⊢
        simp +contextual -implicitDefEqProofs (maxSteps := 2000000) only [↓wP, wQ, wQ1, wQ2, wQ3, wR, boxE, partsOf, ↓reduceIte, Nat.reduceEqDiff, Nat.reduceAdd, Nat.reduceSub, Nat.reduceLeDiff, Nat.reduceLT, Nat.reduceMul, reduceCtorEq, Int.reduceBNe, Int.reduceBEq, Int.reduceLT, Int.reduceLE, Int.reduceGT, h1, h2, h0, h3, hc, hsp]
        refine ⟨_, rfl, ?_⟩
        rw [hfs, List.map_append]
        have e2 : oL ((((lst l).take j).filter fun w => w.c == c).map wrV ++ [x].map wrV) = some ((((lst l).take j).filter fun w => w.c == c).map wrV ++ [wrV x]) := by
          cases ((lst l).take j).filter fun w => w.c == c <;> rfl
        rw [e2]
        exact g1
  · intro env σ n ⟨h0, h3, v, h4, h5⟩ h1 h2
    rw [List.take_length] at h5
    have hf := h5.frz (by rw [lst_oL]; exact wr_fz.1) (by rw [lst_oL]; exact wr_fz.2)
    simp +contextual -implicitDefEqProofs (maxSteps := 2000000) only [↓wP, wQ, wQ1, wQ2, wQ3, wR, boxE, partsOf, ↓reduceIte, Nat.reduceEqDiff, Nat.reduceAdd, Nat.reduceSub, Nat.reduceLeDiff, Nat.reduceLT, Nat.reduceMul, reduceCtorEq, Int.reduceBNe, Int.reduceBEq, Int.reduceLT, Int.reduceLE, Int.reduceGT, h4]
    rw [hf, slV_oL]
  · simp +contextual -implicitDefEqProofs (maxSteps := 2000000) only [↓wP, wQ, wQ1, wQ2, wQ3, wR, boxE, partsOf, ↓reduceIte, Nat.reduceEqDiff, Nat.reduceAdd, Nat.reduceSub, Nat.reduceLeDiff, Nat.reduceLT, Nat.reduceMul, reduceCtorEq, Int.reduceBNe, Int.reduceBEq, Int.reduceLT, Int.reduceLE, Int.reduceGT]
    simp [oL, Pl]
theorem f73 (l : Option (List Wr)) (c : Int) (h : FitW (lst l)) (fs : Bool) (σ : Sto) (n lk : Nat) : callE T fs 73 [slV 4 wrV l, .int .i64 c] σ n lk = some (slV 4 wrV (oL (ofW (lst l) c)), σ, n) :=
  callE_tr (by decide) (r73 l c h) (by simp [Tr, Tr_slV]) (Nw_slV _ _ _ _) fs σ n lk
def Own (σ : Sto) (pr pm pw mid : Nat) (o : Option (List Rw)) (w : Option (List Wr)) : Prop :=
  σ pr = some (.row 1 [slV 2 rwV o]) ∧ σ pm = some (.row 1 [.mp mid]) ∧ σ pw = some (.row 1 [slV 4 wrV w]) ∧ ∃ Lm clk, MOk Lm clk ∧ σ mid = some (.map (ens uV bV Lm) clk) ∧ ∀ id, (vw Lm id).getD false = ownI (lst w) id
theorem ownI_snoc (W : List Wr) (w : Wr) (id : Int) : ownI (W ++ [w]) id = (ownI W id || (w.id == id)) := by simp [ownI]
theorem raw72 (w : Option (List Wr)) (o : Option (List Rw)) (σ : Sto) (n : Nat) (hw : (lst w).length ≤ 1000000) {Q : V → Sto → Nat → Prop}
    (hQ : ∀ σ' n', n + 4 ≤ n' → (∀ i, i < n → σ' i = σ i) → Own σ' (n + 1) (n + 3) n (n + 2) o w → Q (.fn 102 [.ptr (n + 1) 1 0 0, .ptr (n + 3) 1 0 0, .ptr n 1 0 0]) σ' n') :
    run T (.raw 72 [slV 4 wrV w, slV 2 rwV o] σ n 0) (memQ Q) := by
  refine run_rawE (fn := g72) rfl rfl ?_
  simp only [g72, b72, oO, oN, mV, lD, gO, pP, qQ, cI, aR]
  have a1 : (n = n + 1) = False := by simp
  have a2 : (n = n + 2) = False := by simp
  have a3 : (n = n + 3) = False := by simp
  simp +contextual -implicitDefEqProofs (maxSteps := 2000000) only [↓wP, wQ, wQ1, wQ2, wQ3, wR, boxE, partsOf, ↓reduceIte, Nat.reduceEqDiff, Nat.reduceAdd, Nat.reduceSub, Nat.reduceLeDiff, Nat.reduceLT, Nat.reduceMul, reduceCtorEq, Int.reduceBNe, Int.reduceBEq, Int.reduceLT, Int.reduceLE, Int.reduceGT, a1, a2, a3]
  refine WC_for (lst w).length 0 (fun (j : Nat) env σ' n' => env 2 = .ptr n 1 0 0 ∧ env 3 = .ptr (n + 1) 1 0 0 ∧ env 5 = .ptr (n + 3) 1 0 0 ∧ env 9 = slV 4 wrV w ∧ n + 4 ≤ n' ∧ (∀ i, i < n → σ' i = σ i) ∧
      σ' (n + 1) = some (.row 1 [slV 2 rwV o]) ∧ σ' (n + 3) = some (.row 1 [.mp (n + 2)]) ∧ σ' n = some (.row 1 [slV 4 wrV w]) ∧ ∃ Lm clk, MOk Lm clk ∧ σ' (n + 2) = some (.map (ens uV bV Lm) clk) ∧ ∀ id, (vw Lm id).getD false = ownI ((lst w).take j) id) (by omega) (by decide) (by decide) (fun _ _ => rfl) (fun _ _ _ => rfl) ?_ ?_ _ _ _ rfl rfl ?_
  · intro j env σ' n' hj h1 h2 ⟨g1, g2, g3, g4, g5, g6, g7, g8, g9, Lm, clk, m1, m2, m3⟩
    simp only [vl_tmp] at h2
    have hx : (lst w)[j]? = some (lst w)[j] := List.getElem?_eq_getElem hj
    have hos := ownI_snoc ((lst w).take j) (lst w)[j]
    rw [List.take_append_getElem hj] at hos
    generalize (lst w)[j] = x at *
    obtain ⟨σ1, hσ1⟩ : ∃ σ1, σ1 = upd (upd σ' n' (some (.row 4 [.agg [.int .i64 0, .int .u64 0, .bool false, .nilS]]))) n' (some (.row 4 [.agg [.int .i64 x.c, .int .u64 x.id, .bool x.g, slV 1 i32V x.v]])) := ⟨_, rfl⟩
    have so : ∀ i, i < n' → σ1 i = σ' i := fun i hi => by rw [hσ1, upd_ne (by omega), upd_ne (by omega)]
    have sn : σ1 n' = some (.row 4 [.agg [.int .i64 x.c, .int .u64 x.id, .bool x.g, slV 1 i32V x.v]]) := by rw [hσ1, upd_self]
    have s3 : σ1 (n + 3) = some (.row 1 [.mp (n + 2)]) := by rw [so _ (by omega)]; exact g8
    have s2 : σ1 (n + 2) = some (.map (ens uV bV Lm) clk) := by rw [so _ (by omega)]; exact m2
    have pu := mupd_ens (ke := uV) (ve := bV) (lk := 0) keyU m1 s2 (Nat.zero_le _) x.id true (n' + 1)
    simp only [uV, bV] at pu
    simp +contextual -implicitDefEqProofs (maxSteps := 2000000) only [↓wP, wQ, wQ1, wQ2, wQ3, wR, boxE, partsOf, ↓reduceIte, Nat.reduceEqDiff, Nat.reduceAdd, Nat.reduceSub, Nat.reduceLeDiff, Nat.reduceLT, Nat.reduceMul, reduceCtorEq, Int.reduceBNe, Int.reduceBEq, Int.reduceLT, Int.reduceLE, Int.reduceGT, h1, h2, g1, g2, g3, g4, hx, wrV_eq, ← hσ1, sn, s3, pu]
    have hx1 : ∀ i, i < n → (if i = n + 2 then some (Ob.map (ens uV bV (mput Lm clk x.id true).1) (mput Lm clk x.id true).2) else σ1 i) = σ i := fun i hi => by
      have : i ≠ n + 2 := by omega
      rw [if_neg this, so i (by omega)]; exact g6 i hi
    have hx2 : σ1 (n + 1) = some (.row 1 [slV 2 rwV o]) := by rw [so _ (by omega)]; exact g7
    have hx3 : σ1 n = some (.row 1 [slV 4 wrV w]) := by rw [so _ (by omega)]; exact g9
    have hx4 : ∀ id, (vw (mput Lm clk x.id true).1 id).getD false = ownI ((lst w).take (j + 1)) id := fun id => by
      rw [vw_mput, hos]
      by_cases e : id = x.id
      · rw [if_pos e]; simp [e]
      · rw [if_neg e, m3]
        have : (x.id == id) = false := by simp; exact fun h => e h.symm
        rw [this, Bool.or_false]
    exact ⟨by omega, hx1, hx2, hx3, _, _, mput_ok m1 _ _, rfl, hx4⟩
  · intro env σ' n' ⟨g1, g2, g3, g4, g5, g6, g7, g8, g9, Lm, clk, m1, m2, m3⟩ h1 h2
    rw [List.take_length] at m3
    simp +contextual -implicitDefEqProofs (maxSteps := 2000000) only [↓wP, wQ, wQ1, wQ2, wQ3, wR, boxE, partsOf, ↓reduceIte, Nat.reduceEqDiff, Nat.reduceAdd, Nat.reduceSub, Nat.reduceLeDiff, Nat.reduceLT, Nat.reduceMul, reduceCtorEq, Int.reduceBNe, Int.reduceBEq, Int.reduceLT, Int.reduceLE, Int.reduceGT, g1, g2, g3]
    exact hQ σ' n' g5 g6 ⟨g7, g8, g9, Lm, clk, m1, m2, m3⟩
  · simp +contextual -implicitDefEqProofs (maxSteps := 2000000) only [↓wP, wQ, wQ1, wQ2, wQ3, wR, boxE, partsOf, ↓reduceIte, Nat.reduceEqDiff, Nat.reduceAdd, Nat.reduceSub, Nat.reduceLeDiff, Nat.reduceLT, Nat.reduceMul, reduceCtorEq, Int.reduceBNe, Int.reduceBEq, Int.reduceLT, Int.reduceLE, Int.reduceGT, a1, a2, a3]
    refine ⟨fun i hi => ?_, [], 0, MOk.nil, rfl, fun id => rfl⟩
    have c1 : i ≠ n + 3 := by omega
    have c2 : i ≠ n + 2 := by omega
    have c3 : i ≠ n + 1 := by omega
    have c4 : i ≠ n := by omega
    simp only [c1, c2, c3, c4, if_false]
theorem seen102 (o : Option (List Rw)) (w : Option (List Wr)) (J : List Rw → Sto → Nat → Prop) (lid pr pm pw mid : Nat) (hl : (lst o).length ≤ 1000000) (hlw : (lst w).length ≤ 1000000)
    (hc : ∀ pre σ n, J pre σ n → Own σ pr pm pw mid o w ∧ pr < n ∧ pm < n ∧ pw < n ∧ mid < n)
    (hal : ∀ pre σ n σ', J pre σ n → (∀ i, i ≠ n → σ' i = σ i) → J pre σ' (n + 1))
    (hy : ∀ pre σ n r, pre.length < (ovD (lst o) (lst w)).length → (r ∈ lst o ∨ ∃ x ∈ lst w, r = ⟨x.id, x.v⟩) → J pre σ n → yieldW (run T) lid [rwV r] σ n 0 (fun y σ' n' => y = .bool true ∧ J (pre ++ [r]) σ' n'))
    (σ0 : Sto) (n0 : Nat) (h0 : J [] σ0 n0) : run T (.raw 102 [.yld lid, .ptr pr 1 0 0, .ptr pm 1 0 0, .ptr pw 1 0 0] σ0 n0 0) (memQ fun _ σ' n' => J (ovD (lst o) (lst w)) σ' n') := by
  refine run_rawE (fn := g102) rfl rfl ?_
  obtain ⟨⟨c1, c2, c3, -⟩, -⟩ := hc _ _ _ h0
  simp only [g102, b102, oO, oN, mV, lD, gO, pP, qQ, cI, aR]
  obtain ⟨A, hA⟩ : ∃ A : Nat → List Rw, A = fun j => ((lst o).take j).filter fun r => !ownI (lst w) r.id := ⟨_, rfl⟩
  obtain ⟨B, hB⟩ : ∃ B : Nat → List Rw, B = fun j => (((lst w).take j).filter fun x => !x.g).map fun x => ⟨x.id, x.v⟩ := ⟨_, rfl⟩
  have hD : ovD (lst o) (lst w) = A (lst o).length ++ B (lst w).length := by rw [hA, hB]; simp only [List.take_length]; rfl
  have hA0 : A 0 = [] := by rw [hA]; rfl
  have hB0 : B 0 = [] := by rw [hB]; rfl
  have hAs : ∀ j (h : j < (lst o).length), A (j + 1) = A j ++ if ownI (lst w) (lst o)[j].id = true then [] else [(lst o)[j]] := fun j h => by
    rw [hA]; simp only []
    rw [← List.take_append_getElem h, List.filter_append]
    congr 1
    cases hq : ownI (lst w) (lst o)[j].id <;> simp [hq]
  have hBs : ∀ j (h : j < (lst w).length), B (j + 1) = B j ++ if (lst w)[j].g = true then [] else [⟨(lst w)[j].id, (lst w)[j].v⟩] := fun j h => by
    rw [hB]; simp only []
    rw [← List.take_append_getElem h, List.filter_append, List.map_append]
    congr 1
    cases hq : (lst w)[j].g <;> simp [hq]
  have hAl : ∀ j, (A j).length ≤ (A (lst o).length).length := fun j => by
    rw [hA]; simp only [List.take_length]
    exact (((List.take_sublist j (lst o)).filter _).length_le)
  have hBl : ∀ j, (B j).length ≤ (B (lst w).length).length := fun j => by
    rw [hB]; simp only [List.take_length, List.length_map]
    exact (((List.take_sublist j (lst w)).filter _).length_le)
  simp +contextual -implicitDefEqProofs (maxSteps := 2000000) only [↓wP, wQ, wQ1, wQ2, wQ3, wR, boxE, partsOf, ↓reduceIte, Nat.reduceEqDiff, Nat.reduceAdd, Nat.reduceSub, Nat.reduceLeDiff, Nat.reduceLT, Nat.reduceMul, reduceCtorEq, Int.reduceBNe, Int.reduceBEq, Int.reduceLT, Int.reduceLE, Int.reduceGT, c1]
  refine WC_for (lst o).length 0 (fun (j : Nat) env σ n => env 0 = .yld lid ∧ env 2 = .ptr pm 1 0 0 ∧ env 3 = .ptr pw 1 0 0 ∧ env 9 = slV 2 rwV o ∧ J (A j) σ n) (by omega) (by decide) (by decide) (fun _ _ => rfl) (fun _ _ _ => rfl) ?_ ?_ _ _ _ rfl rfl ?_
  · intro j env σ n hj h1 h2 ⟨g1, g2, g3, g4, g5⟩
    simp only [vl_tmp] at h2
    have hx : (lst o)[j]? = some (lst o)[j] := List.getElem?_eq_getElem hj
    have hst := hAs j hj
    have hlen := hAl (j + 1)
    have hmem := List.getElem_mem hj
    obtain ⟨x, hxx⟩ : ∃ x, x = (lst o)[j] := ⟨_, rfl⟩
    rw [← hxx] at hx hst hmem
    obtain ⟨σ1, hσ1⟩ : ∃ σ1, σ1 = upd (upd σ n (some (.row 2 [.agg [.int .u64 0, .nilS]]))) n (some (.row 2 [.agg [.int .u64 x.id, slV 1 i32V x.v]])) := ⟨_, rfl⟩
    have sn : σ1 n = some (.row 2 [.agg [.int .u64 x.id, slV 1 i32V x.v]]) := by rw [hσ1, upd_self]
    have hJ1 := hal _ σ n σ1 g5 (fun i hi => by rw [hσ1, upd_ne hi, upd_ne hi])
    obtain ⟨⟨d1, d2, d3, Lm, clk, m1, m2, m3⟩, e1, e2, e3, e4⟩ := hc _ _ _ hJ1
    have q0 : (pm = n) = False := by
      simp only [eq_iff_iff, iff_false]
      intro h; rw [h, sn] at d2; cases d2
    have q1 : (mid = n) = False := by
      simp only [eq_iff_iff, iff_false]
      intro h; rw [h, sn] at m2; cases m2
    have hmg : mgetE false (.one .int) (.bool false) (some (ens uV bV Lm)) (.int .u64 x.id) = some (.bool (ownI (lst w) x.id)) := by
      have := mget_ens (ve := bV) keyU false (.bool false) x.id Lm
      simp only [uV] at this
      rw [this, ← m3 x.id]
      cases vw Lm x.id <;> rfl
    cases hq : ownI (lst w) x.id
    · rw [hq] at hmg hst
      simp only [Bool.false_eq_true, if_false] at hst
      have hyx := hy (A j) σ1 (n + 1) x (by rw [hD, List.length_append]; rw [hst, List.length_append] at hlen; simp at hlen; omega) (.inl hmem) hJ1
      rw [rwV_eq] at hyx
      simp +contextual -implicitDefEqProofs (maxSteps := 2000000) only [↓wP, wQ, wQ1, wQ2, wQ3, wR, boxE, partsOf, ↓reduceIte, Nat.reduceEqDiff, Nat.reduceAdd, Nat.reduceSub, Nat.reduceLeDiff, Nat.reduceLT, Nat.reduceMul, reduceCtorEq, Int.reduceBNe, Int.reduceBEq, Int.reduceLT, Int.reduceLE, Int.reduceGT, h1, h2, g1, g2, g3, g4, hx, rwV_eq, ← hσ1, sn, d2, m2, hmg]
      refine stepW_yld (yieldW_mono (fun _ _ x => x) run_mono (fun y σ' n' ⟨hy1, hy2⟩ => ?_) hyx)
      subst hy1
      simp +contextual -implicitDefEqProofs (maxSteps := 2000000) only [↓wP, wQ, wQ1, wQ2, wQ3, wR, boxE, partsOf, ↓reduceIte, Nat.reduceEqDiff, Nat.reduceAdd, Nat.reduceSub, Nat.reduceLeDiff, Nat.reduceLT, Nat.reduceMul, reduceCtorEq, Int.reduceBNe, Int.reduceBEq, Int.reduceLT, Int.reduceLE, Int.reduceGT, h1, h2, g1, g2, g3, g4]
      rw [hst]
      exact hy2
    · rw [hq] at hmg hst
      simp only [if_true, List.append_nil] at hst
      simp +contextual -implicitDefEqProofs (maxSteps := 2000000) only [↓wP, wQ, wQ1, wQ2, wQ3, wR, boxE, partsOf, ↓reduceIte, Nat.reduceEqDiff, Nat.reduceAdd, Nat.reduceSub, Nat.reduceLeDiff, Nat.reduceLT, Nat.reduceMul, reduceCtorEq, Int.reduceBNe, Int.reduceBEq, Int.reduceLT, Int.reduceLE, Int.reduceGT, h1, h2, g1, g2, g3, g4, hx, rwV_eq, ← hσ1, sn, d2, m2, hmg]
      rw [hst]
      exact hJ1
  · intro env σ n ⟨g1, g2, g3, g4, g5⟩ h1 h2
    obtain ⟨⟨d1, d2, d3, -⟩, -⟩ := hc _ _ _ g5
    simp +contextual -implicitDefEqProofs (maxSteps := 2000000) only [↓wP, wQ, wQ1, wQ2, wQ3, wR, boxE, partsOf, ↓reduceIte, Nat.reduceEqDiff, Nat.reduceAdd, Nat.reduceSub, Nat.reduceLeDiff, Nat.reduceLT, Nat.reduceMul, reduceCtorEq, Int.reduceBNe, Int.reduceBEq, Int.reduceLT, Int.reduceLE, Int.reduceGT, g1, g3, d3]
    refine WC_for (lst w).length 0 (fun (j : Nat) env σ n => env 0 = .yld lid ∧ env 27 = slV 4 wrV w ∧ J (A (lst o).length ++ B j) σ n) (by omega) (by decide) (by decide) (fun _ _ => rfl) (fun _ _ _ => rfl) ?_ ?_ _ _ _ rfl rfl ?_
    · clear g1 g2 g3 g4 g5 h1 h2 d1 d2 d3
      intro j env σ n hj h1 h2 ⟨g1, g4, g5⟩
      simp only [vl_tmp] at h2
      have hx : (lst w)[j]? = some (lst w)[j] := List.getElem?_eq_getElem hj
      have hst := hBs j hj
      have hlen := hBl (j + 1)
      have hmem := List.getElem_mem hj
      obtain ⟨x, hxx⟩ : ∃ x, x = (lst w)[j] := ⟨_, rfl⟩
      rw [← hxx] at hx hst hmem
      obtain ⟨σ1, hσ1⟩ : ∃ σ1, σ1 = upd (upd σ n (some (.row 4 [.agg [.int .i64 0, .int .u64 0, .bool false, .nilS]]))) n (some (.row 4 [.agg [.int .i64 x.c, .int .u64 x.id, .bool x.g, slV 1 i32V x.v]])) := ⟨_, rfl⟩
      have sn : σ1 n = some (.row 4 [.agg [.int .i64 x.c, .int .u64 x.id, .bool x.g, slV 1 i32V x.v]]) := by rw [hσ1, upd_self]
      have hJ1 := hal _ σ n σ1 g5 (fun i hi => by rw [hσ1, upd_ne hi, upd_ne hi])
      cases hq : x.g
      all_goals rw [hq] at hσ1 sn hst
      · simp only [Bool.false_eq_true, if_false] at hst
        have hyx := hy (A (lst o).length ++ B j) σ1 (n + 1) ⟨x.id, x.v⟩ (by rw [hD, List.length_append, List.length_append]; rw [hst, List.length_append] at hlen; simp at hlen; omega) (.inr ⟨x, hmem, rfl⟩) hJ1
        rw [rwV_eq, List.append_assoc, ← hst] at hyx
        simp +contextual -implicitDefEqProofs (maxSteps := 2000000) only [↓wP, wQ, wQ1, wQ2, wQ3, wR, boxE, partsOf, ↓reduceIte, Nat.reduceEqDiff, Nat.reduceAdd, Nat.reduceSub, Nat.reduceLeDiff, Nat.reduceLT, Nat.reduceMul, reduceCtorEq, Int.reduceBNe, Int.reduceBEq, Int.reduceLT, Int.reduceLE, Int.reduceGT, h1, h2, g1, g4, hx, wrV_eq, hq, ← hσ1, sn]
        refine stepW_yld (yieldW_mono (fun _ _ x => x) run_mono (fun y σ' n' ⟨hy1, hy2⟩ => ?_) hyx)
        subst hy1
        simp +contextual -implicitDefEqProofs (maxSteps := 2000000) only [↓wP, wQ, wQ1, wQ2, wQ3, wR, boxE, partsOf, ↓reduceIte, Nat.reduceEqDiff, Nat.reduceAdd, Nat.reduceSub, Nat.reduceLeDiff, Nat.reduceLT, Nat.reduceMul, reduceCtorEq, Int.reduceBNe, Int.reduceBEq, Int.reduceLT, Int.reduceLE, Int.reduceGT, h1, h2, g1, g4]
        exact hy2
      · simp only [if_true, List.append_nil] at hst
        simp +contextual -implicitDefEqProofs (maxSteps := 2000000) only [↓wP, wQ, wQ1, wQ2, wQ3, wR, boxE, partsOf, ↓reduceIte, Nat.reduceEqDiff, Nat.reduceAdd, Nat.reduceSub, Nat.reduceLeDiff, Nat.reduceLT, Nat.reduceMul, reduceCtorEq, Int.reduceBNe, Int.reduceBEq, Int.reduceLT, Int.reduceLE, Int.reduceGT, h1, h2, g1, g4, hx, wrV_eq, hq, ← hσ1, sn]
        rw [hst]
        exact hJ1
    · intro env σ n ⟨g1, g4, g5⟩ h1 h2
      simp +contextual -implicitDefEqProofs (maxSteps := 2000000) only [↓wP, wQ, wQ1, wQ2, wQ3, wR, boxE, partsOf, ↓reduceIte, Nat.reduceEqDiff, Nat.reduceAdd, Nat.reduceSub, Nat.reduceLeDiff, Nat.reduceLT, Nat.reduceMul, reduceCtorEq, Int.reduceBNe, Int.reduceBEq, Int.reduceLT, Int.reduceLE, Int.reduceGT]
      rw [hD]
      exact g5
    · simp +contextual -implicitDefEqProofs (maxSteps := 2000000) only [↓wP, wQ, wQ1, wQ2, wQ3, wR, boxE, partsOf, ↓reduceIte, Nat.reduceEqDiff, Nat.reduceAdd, Nat.reduceSub, Nat.reduceLeDiff, Nat.reduceLT, Nat.reduceMul, reduceCtorEq, Int.reduceBNe, Int.reduceBEq, Int.reduceLT, Int.reduceLE, Int.reduceGT, g1]
      rw [hB0, List.append_nil]
      exact g5
  · rw [hA0]
    exact ⟨rfl, rfl, rfl, rfl, h0⟩
end Go.Q.SB
end

section
/- writes.Overlay. -/
set_option linter.unusedSimpArgs false
set_option linter.unusedVariables false
namespace Go.Q.SB
open Go.Q Go.Sort
theorem ovLoop {env : Nat → V} {σ : Sto} {n d pr pm pw mid : Nat} {Q : Ex → St → Prop} (o : Option (List Rw)) (w : Option (List Wr)) (hl : (lst o).length ≤ 1000) (hlw : (lst w).length ≤ 1000) (hv : ∀ r ∈ lst o, (lst r.v).length ≤ 1000000) (hvw : ∀ x ∈ lst w, (lst x.v).length ≤ 1000000)
    (hg : env 52 = .fn 102 [.ptr pr 1 0 0, .ptr pm 1 0 0, .ptr pw 1 0 0]) (hd : env 11 = .ptr d 1 0 0) (hσ : σ d = some (.row 1 [.nilS])) (hOwn : Own σ pr pm pw mid o w) (hdn : d < n) (l1 : pr < n) (l2 : pm < n) (l3 : pw < n) (l4 : mid < n)
    (n1 : pr ≠ d) (n2 : pm ≠ d) (n3 : pw ≠ d) (n4 : mid ≠ d)
    (hQ : ∀ σ' n' gv, (∀ i, i < n → i ≠ d → σ' i = σ i) → n ≤ n' → σ' d = some (.row 1 [gv]) → Pl σ' n n' 2 gv (oL ((ovD (lst o) (lst w)).map rwV)) → Q .normal ⟨env, σ', n', 0⟩) :
    WC T (.rangeF (.tmp 52) [53] (.reg [⟨some 12, none, .alloc (.agg [.int .u64 0, .nilS])⟩, ⟨none, none, .store 2 (.tmp 12) (.tmp 53)⟩])
      (.block 3 (.regd [⟨[⟨⟨some 54, none, .load false 1 (.tmp 11)⟩, false, false, false, 0, [0], none⟩,
        ⟨⟨some 55, none, .faddr (.tmp 12) 0⟩, true, false, false, 0, [], none⟩, ⟨⟨some 56, none, .load false 1 (.tmp 55)⟩, false, false, false, 0, [], none⟩,
        ⟨⟨some 57, none, .faddr (.tmp 12) 1⟩, true, false, false, 0, [], none⟩, ⟨⟨some 58, none, .load false 1 (.tmp 57)⟩, false, false, false, 0, [], none⟩,
        ⟨⟨some 59, none, .call 74 [.tmp 58]⟩, false, false, false, 0, [], none⟩,
        ⟨⟨some 60, none, .build [.int .u64 0, .nilS] [(0, 1, .tmp 56), (1, 1, .tmp 59)]⟩, true, false, false, 0, [], none⟩,
        ⟨⟨some 61, none, .lit 2 [.tmp 60]⟩, false, false, true, 0, [], none⟩], 1, [⟨some 62, none, .append 2 32 (.tmp 54) (.tmp 61)⟩, ⟨none, none, .store 1 (.tmp 11) (.tmp 62)⟩]⟩]))) env σ n 0 Q := by
  refine WC_rangeF hg (Nat.zero_le _) ?_
  generalize hA : AC.reg [⟨some 12, none, .alloc (.agg [.int .u64 0, .nilS])⟩, ⟨none, none, .store 2 (.tmp 12) (.tmp 53)⟩] = asg
  generalize hB : AC.block 3 _ = bd
  refine run_mono _ _ _ (fun r ho => ?_) (seen102 o w (fun pre σ' n' => n < n' ∧ (∀ i, i < n → i ≠ d → σ' i = σ i) ∧ σ' n = some (.loop env [53] asg bd .ready none) ∧
    ∃ gv, σ' d = some (.row 1 [gv]) ∧ Pl σ' (n + 1) n' 2 gv (oL (pre.map rwV))) n pr pm pw mid (by omega) (by omega) ?_ ?_ ?_ _ _ ?_)
  · cases r <;> try exact ho.elim
    obtain ⟨e1, e2, e3, gv, e4, e5⟩ := ho
    refine ⟨_, _, _, _, _, _, e3, by decide, ?_⟩
    refine hQ _ _ gv (fun i hi h2 => by rw [upd_ne (by omega)]; exact e2 i hi h2) (by omega) (by rw [upd_ne (by omega)]; exact e4) ?_
    have := e5.loc (σ' := upd _ n none) (fun i hi _ => upd_ne (by omega)) (Nat.le_refl _)
    cases ho' : oL ((ovD (lst o) (lst w)).map rwV) with
    | none => rw [ho'] at this; exact this
    | some xs => rw [ho'] at this; obtain ⟨i, f1, f2, f3, f4⟩ := this; exact ⟨i, f1, f2, by omega, f4⟩
  · rintro pre σ' n' ⟨e1, e2, -⟩
    obtain ⟨d1, d2, d3, Lm, clk, m1, m2, m3⟩ := hOwn
    exact ⟨⟨by rw [e2 pr l1 n1]; exact d1, by rw [e2 pm l2 n2]; exact d2, by rw [e2 pw l3 n3]; exact d3, Lm, clk, m1, by rw [e2 mid l4 n4]; exact m2, m3⟩, by omega, by omega, by omega, by omega⟩
  · rintro pre σ' n' σ2 ⟨e1, e2, e3, gv, e4, e5⟩ hσ2
    exact ⟨by omega, fun i hi h2 => by rw [hσ2 i (by omega)]; exact e2 i hi h2, by rw [hσ2 n (by omega)]; exact e3, gv, by rw [hσ2 d (by omega)]; exact e4, e5.loc (fun i _ hi => hσ2 i (by omega)) (by omega)⟩
  · rintro pre σ' n' r hpre hr ⟨e1, e2, e3, gv, e4, e5⟩
    have hrv : (lst r.v).length ≤ 1000000 := by
      rcases hr with hr | ⟨x, hx, rfl⟩
      · exact hv r hr
      · exact hvw x hx
    have hDl : (ovD (lst o) (lst w)).length ≤ 2000 := by
      unfold ovD
      rw [List.length_append, List.length_map]
      have h1 := List.length_filter_le (fun r : Rw => !ownI (lst w) r.id) (lst o)
      have h2 := List.length_filter_le (fun x : Wr => !x.g) (lst w)
      omega
    have f := f74 r.v hrv
    refine yieldW_go e3 rfl (Nat.zero_le _) ?_ (hd := ⟨by rw [← hA]; rfl, by rw [← hB]; rfl⟩)
    obtain ⟨LR, hLR⟩ : ∃ LR, LR = Ob.loop env [53] asg bd .ready none := ⟨_, rfl⟩
    obtain ⟨LB, hLB⟩ : ∃ LB, LB = Ob.loop env [53] asg bd .busy none := ⟨_, rfl⟩
    rw [← hLR] at e3 ⊢
    rw [← hLB]
    subst hA
    subst hB
    have hBp := big_le
    have a1 : (n = n') = False := by simp; omega
    have a2 : (d = n') = False := by simp; omega
    have a3 : (d = n) = False := by simp; omega
    have a4 : (n = d) = False := by simp; omega
    have a5 : (n' = n) = False := by simp; omega
    have a6 : (n' = d) = False := by simp; omega
    have b1 := e5.cells
    rw [rwV_eq]
    obtain ⟨nn, hnn⟩ : ∃ nn, nn = n' + 1 := ⟨_, rfl⟩
    obtain ⟨σ1, hσ1⟩ : ∃ σ1, σ1 = upd (upd (upd σ' n' (some (.row 2 [.agg [.int .u64 0, .nilS]]))) n' (some (.row 2 [.agg [.int .u64 r.id, slV 1 i32V r.v]]))) n (some LB) := ⟨_, rfl⟩
    have s1 : ∀ i, i < n' → i ≠ n → σ1 i = σ' i := fun i hi hi2 => by rw [hσ1, upd_ne hi2, upd_ne (by omega), upd_ne (by omega)]
    have s2 : σ1 n' = some (.row 2 [.agg [.int .u64 r.id, slV 1 i32V r.v]]) := by rw [hσ1, upd_ne (by omega), upd_self]
    have s3 : σ1 n = some LB := by rw [hσ1, upd_self]
    have s4 : σ1 d = some (.row 1 [gv]) := by rw [s1 d (by omega) (by omega)]; exact e4
    obtain ⟨σ2, hσ2⟩ : ∃ σ2, σ2 = merge σ1 (upd σ1 nn (some (.row 2 [.agg [.int .u64 r.id, slV 1 i32V r.v]]))) nn := ⟨_, rfl⟩
    have t1 : ∀ i, i < nn → σ2 i = σ1 i := fun i hi => by rw [hσ2, merge_low _ _ _ hi]
    have t2 : σ2 nn = some (.row 2 [.agg [.int .u64 r.id, slV 1 i32V r.v]]) := by rw [hσ2, merge_in _ _ _ (Nat.le_refl _) (by omega), upd_self]
    have yd : hide σ1 nn nn [0] d = some (.row 1 [gv]) := by rw [hide_low _ _ _ _ (by omega) (Nat.le_refl _)]; exact s4
    have l5 : (nn + 1 ≤ nn + BIG) = True := by simp; omega
    have e5' := e5.loc (σ' := σ2) (n' := n') (fun i hi hi2 => by rw [t1 i (by omega), s1 i hi2 (by omega)]) (Nat.le_refl _)
    have hvn : ∀ i, i ≤ n → ∀ off len s, gv ≠ .ref i off len s := by
      intro i hi off len s e
      subst e
      cases ho' : oL (pre.map rwV) with
      | none => rw [ho'] at e5; cases e5
      | some xs => rw [ho'] at e5; obtain ⟨i, e, -, e2, -⟩ := e5; simp only [V.ref.injEq] at e; omega
    have hsp := spl e5
    simp +contextual -implicitDefEqProofs (maxSteps := 2000000) only [↓wP, wQ, wQ1, wQ2, wQ3, wR, boxE, partsOf, ↓reduceIte, Nat.reduceEqDiff, Nat.reduceAdd, Nat.reduceSub, Nat.reduceLeDiff, Nat.reduceLT, Nat.reduceMul, reduceCtorEq, Int.reduceBNe, Int.reduceBEq, Int.reduceLT, Int.reduceLE, Int.reduceGT, bind_cons, bind_nil, hd, e3, e4, a1, a2, a3, a4, a5, a6, b1, f, ← hnn, Nat.mul_zero, Nat.mul_one, ← hσ1, s2, s4, yd, l5, Nat.le_refl, ← hσ2, t2]
    refine stepW_app1 (m := n + 1) (n0 := n') (σ0 := σ2) e5' (fun i _ _ => rfl) (by omega) (by omega) (Nat.zero_le _) ?_ (fun _ σ3 g1 g2 => ?_)
    · rw [lst_oL, List.length_map]; unfold LIM; omega
    · rw [lst_oL] at g1 ⊢
      have u1 : ∀ i, i ≤ n → σ3 i = σ1 i := fun i hi => by rw [g2 i (by omega) (hvn i hi), t1 i (by omega)]
      have u2 : σ3 d = some (.row 1 [gv]) := by rw [u1 d (by omega)]; exact s4
      have u3 : σ3 n = some LB := by rw [u1 n (Nat.le_refl _)]; exact s3
      simp +contextual -implicitDefEqProofs (maxSteps := 2000000) only [↓wP, wQ, wQ1, wQ2, wQ3, wR, boxE, partsOf, ↓reduceIte, Nat.reduceEqDiff, Nat.reduceAdd, Nat.reduceSub, Nat.reduceLeDiff, Nat.reduceLT, Nat.reduceMul, reduceCtorEq, Int.reduceBNe, Int.reduceBEq, Int.reduceLT, Int.reduceLE, Int.reduceGT, bind_cons, bind_nil, hd, u2, u3, a3, a4, hsp]
      refine ⟨by omega, fun i hi hid => ?_, _, rfl, ?_⟩
      · rw [if_neg (by omega), u1 i (by omega), s1 i (by omega) (by omega)]
        exact e2 i hi hid
      · rw [List.map_append]
        have e6 : oL (pre.map rwV ++ [r].map rwV) = some (pre.map rwV ++ [.agg [.int .u64 r.id, slV 1 i32V r.v]]) := by
          cases pre <;> rfl
        rw [e6]
        exact g1.loc (fun i hi _ => by rw [upd_ne (by omega), upd_ne (by omega)]) (by omega)
  · exact ⟨by omega, fun i hi _ => upd_ne (by omega), upd_self _ _ _, .nilS, by rw [upd_ne (by omega)]; exact hσ, by simp [oL, Pl]⟩
def SmRo (l : List Rw) : Prop := l.length ≤ 100 ∧ ∀ r ∈ l, (lst r.v).length ≤ 1000000
theorem r37 (l : Option (List Wr)) (c : Int) (o : Option (List Rw)) (h : FitW (lst l)) (ho : SmRo (lst o)) : res T 37 [slV 4 wrV l, .int .i64 c, slV 2 rwV o] = some (.tup [slV 2 rwV (oL (ovL (lst l) c (lst o))), .int .i64 (ovE (lst l) c (lst o))]) := by
  refine run_res (run_pure (fn := g37) rfl rfl (by decide) ?_)
  simp only [g37, b37, oO, oN, mV, lD, gO, pP, qQ, cI, aR]
  have hl := h.1
  have hol := ho.1
  have hsw : SmW l := ⟨by omega, fun x hx => by have := h.2 x hx; unfold Sm; omega⟩
  have f45' := f45 l hsw
  have f70' := f70 c
  have f73' := f73 l c h
  obtain ⟨E, hE⟩ : ∃ E, E = ovE (lst l) c (lst o) := ⟨_, rfl⟩
  obtain ⟨L, hL⟩ : ∃ L, L = ovL (lst l) c (lst o) := ⟨_, rfl⟩
  rw [← hE, ← hL]
  unfold ovL at hL
  rw [← hE] at hL
  unfold ovE at hE
  cases hr : rightW (lst l)
  · rw [hr] at f45' hE
    rw [if_pos rfl] at hE
    have hL0 : L = [] := by rw [hL, if_neg (by rw [hE]; decide)]
    rw [hE, hL0]
    simp +contextual -implicitDefEqProofs (maxSteps := 2000000) only [↓wP, wQ, wQ1, wQ2, wQ3, wR, boxE, partsOf, ↓reduceIte, Nat.reduceEqDiff, Nat.reduceAdd, Nat.reduceSub, Nat.reduceLeDiff, Nat.reduceLT, Nat.reduceMul, reduceCtorEq, Int.reduceBNe, Int.reduceBEq, Int.reduceLT, Int.reduceLE, Int.reduceGT, f45']
    rfl
  rw [hr] at f45' hE
  rw [if_neg (by decide)] at hE
  cases hc : collB c
  · rw [hc] at f70' hE
    rw [if_pos rfl] at hE
    have hL0 : L = [] := by rw [hL, if_neg (by rw [hE]; decide)]
    rw [hE, hL0]
    simp +contextual -implicitDefEqProofs (maxSteps := 2000000) only [↓wP, wQ, wQ1, wQ2, wQ3, wR, boxE, partsOf, ↓reduceIte, Nat.reduceEqDiff, Nat.reduceAdd, Nat.reduceSub, Nat.reduceLeDiff, Nat.reduceLT, Nat.reduceMul, reduceCtorEq, Int.reduceBNe, Int.reduceBEq, Int.reduceLT, Int.reduceLE, Int.reduceGT, f45', f70']
    rfl
  rw [hc] at f70' hE
  rw [if_neg (by decide)] at hE
  obtain ⟨W, hW⟩ : ∃ W, W = (lst l).filter (fun w => w.c == c) := ⟨_, rfl⟩
  have hof : ofW (lst l) c = W := by unfold ofW; rw [hr, if_pos rfl, hW]
  rw [hof] at f73'
  have hWl : W.length ≤ 12 := by
    have h1 := List.length_filter_le (fun w : Wr => w.c == c) (lst l)
    have h2 : (lst l).length ≤ 12 := by
      unfold rightW at hr
      rw [Bool.and_eq_true, decide_eq_true_eq] at hr
      exact hr.1
    rw [hW]; omega
  have hWv : ∀ x ∈ W, (lst x.v).length ≤ 1000000 := fun x hx => by rw [hW] at hx; exact h.2 x (List.mem_filter.1 hx).1
  rw [← hW] at hL
  simp +contextual -implicitDefEqProofs (maxSteps := 2000000) only [↓wP, wQ, wQ1, wQ2, wQ3, wR, boxE, partsOf, ↓reduceIte, Nat.reduceEqDiff, Nat.reduceAdd, Nat.reduceSub, Nat.reduceLeDiff, Nat.reduceLT, Nat.reduceMul, reduceCtorEq, Int.reduceBNe, Int.reduceBEq, Int.reduceLT, Int.reduceLE, Int.reduceGT, f45', f70']
  refine WC_for (lst o).length 0 (fun (j : Nat) env σ n => env 0 = slV 4 wrV l ∧ env 1 = .int .i64 c ∧ env 2 = slV 2 rwV o ∧ env 21 = slV 2 rwV o ∧ roU (lst o) j = true) (by omega) (by decide) (by decide) (fun _ _ => rfl) (fun _ _ _ => rfl) ?_ ?_ _ _ _ rfl rfl ?_
  · intro j env σ n hj h1 h2 ⟨g1, g2, g3, g4, g5⟩
    simp only [vl_tmp] at h2
    have hx : (lst o)[j]? = some (lst o)[j] := List.getElem?_eq_getElem hj
    have hst := roU_step hj
    rw [g5, Bool.true_and] at hst
    have hvx := ho.2 _ (List.getElem_mem hj)
    have hno : roN (lst o) j (lst o)[j] = false → E = 170 ∧ L = [] := fun hk => by
      have : roU (lst o) (lst o).length = false := roU_no (by rw [hst, hk]) _ (by omega : j + 1 ≤ (lst o).length)
      rw [this, if_pos rfl] at hE
      exact ⟨hE, by rw [hL, if_neg (by rw [hE]; decide)]⟩
    obtain ⟨x, hxx⟩ : ∃ x, x = (lst o)[j] := ⟨_, rfl⟩
    rw [← hxx] at hx hst hvx hno
    have f71' := f71 x.v (by omega)
    obtain ⟨σ1, hσ1⟩ : ∃ σ1, σ1 = upd (upd σ n (some (.row 2 [.agg [.int .u64 0, .nilS]]))) n (some (.row 2 [.agg [.int .u64 x.id, slV 1 i32V x.v]])) := ⟨_, rfl⟩
    have sn : σ1 n = some (.row 2 [.agg [.int .u64 x.id, slV 1 i32V x.v]]) := by rw [hσ1, upd_self]
    cases hv : okV x.v
    · rw [hv] at f71'
      rw [if_neg (by decide)] at f71'
      obtain ⟨e1, e2⟩ := hno (by unfold roN; rw [hv]; rfl)
      have z0 : ((150 : Int) != 0) = true := rfl
      simp +contextual -implicitDefEqProofs (maxSteps := 2000000) only [↓wP, wQ, wQ1, wQ2, wQ3, wR, boxE, partsOf, ↓reduceIte, Nat.reduceEqDiff, Nat.reduceAdd, Nat.reduceSub, Nat.reduceLeDiff, Nat.reduceLT, Nat.reduceMul, reduceCtorEq, Int.reduceBNe, Int.reduceBEq, Int.reduceLT, Int.reduceLE, Int.reduceGT, h1, h2, g1, g2, g3, g4, hx, rwV_eq, ← hσ1, sn, f71', z0]
      rw [e1, e2]; rfl
    rw [hv] at f71'
    rw [if_pos rfl] at f71'
    have z0 : ((0 : Int) != 0) = false := rfl
    by_cases hj0 : j = 0
    · have hz : ¬ ((0 : Int) < (j : Int)) := by omega
      have hk : roN (lst o) j x = true := by subst hj0; unfold roN; rw [hv]; rfl
      simp +contextual -implicitDefEqProofs (maxSteps := 2000000) only [↓wP, wQ, wQ1, wQ2, wQ3, wR, boxE, partsOf, ↓reduceIte, Nat.reduceEqDiff, Nat.reduceAdd, Nat.reduceSub, Nat.reduceLeDiff, Nat.reduceLT, Nat.reduceMul, reduceCtorEq, Int.reduceBNe, Int.reduceBEq, Int.reduceLT, Int.reduceLE, Int.reduceGT, h1, h2, g1, g2, g3, g4, hx, rwV_eq, ← hσ1, sn, f71', z0, hz]
      rw [hst, hk]
    · have hz : (0 : Int) < (j : Int) := by omega
      have wj : IntKind.i64.wrap ((j : Int) - 1) = ((j - 1 : Nat) : Int) := by rw [wrap_i64] <;> omega
      have hx2 : (lst o)[j - 1]? = some (lst o)[j - 1] := List.getElem?_eq_getElem (by omega)
      obtain ⟨p, hp⟩ : ∃ p, p = (lst o)[j - 1] := ⟨_, rfl⟩
      rw [← hp] at hx2
      have hk : roN (lst o) j x = decide (p.id < x.id) := by
        obtain ⟨i, rfl⟩ : ∃ i, j = i + 1 := ⟨j - 1, by omega⟩
        unfold roN
        rw [show i + 1 - 1 = i from rfl] at hx2
        simp [hx2, hv]
      by_cases hlt : p.id < x.id
      · have hlt' : ¬ (x.id ≤ p.id) := by omega
        rw [decide_eq_true hlt] at hk
        simp +contextual -implicitDefEqProofs (maxSteps := 2000000) only [↓wP, wQ, wQ1, wQ2, wQ3, wR, boxE, partsOf, ↓reduceIte, Nat.reduceEqDiff, Nat.reduceAdd, Nat.reduceSub, Nat.reduceLeDiff, Nat.reduceLT, Nat.reduceMul, reduceCtorEq, Int.reduceBNe, Int.reduceBEq, Int.reduceLT, Int.reduceLE, Int.reduceGT, h1, h2, g1, g2, g3, g4, hx, hx2, rwV_eq, ← hσ1, sn, f71', z0, hz, wj, hlt']
        rw [hst, hk]
      · have hlt' : x.id ≤ p.id := by omega
        rw [decide_eq_false hlt] at hk
        obtain ⟨e1, e2⟩ := hno hk
        simp +contextual -implicitDefEqProofs (maxSteps := 2000000) only [↓wP, wQ, wQ1, wQ2, wQ3, wR, boxE, partsOf, ↓reduceIte, Nat.reduceEqDiff, Nat.reduceAdd, Nat.reduceSub, Nat.reduceLeDiff, Nat.reduceLT, Nat.reduceMul, reduceCtorEq, Int.reduceBNe, Int.reduceBEq, Int.reduceLT, Int.reduceLE, Int.reduceGT, h1, h2, g1, g2, g3, g4, hx, hx2, rwV_eq, ← hσ1, sn, f71', z0, hz, wj, hlt']
        rw [e1, e2]; rfl
  · intro env σ n ⟨g1, g2, g3, g4, g5⟩ h1 h2
    rw [g5, if_neg (by decide)] at hE
    rw [hE, if_pos rfl] at hL
    have hra := ro_asc g5
    have hwi := w_ids hr c
    rw [← hW] at hwi
    obtain ⟨σ1, hσ1⟩ : ∃ σ1, σ1 = upd σ n (some (.row 1 [.nilS])) := ⟨_, rfl⟩
    have s1 : σ1 n = some (.row 1 [.nilS]) := by rw [hσ1, upd_self]
    simp +contextual -implicitDefEqProofs (maxSteps := 2000000) only [↓wP, wQ, wQ1, wQ2, wQ3, wR, boxE, partsOf, ↓reduceIte, Nat.reduceEqDiff, Nat.reduceAdd, Nat.reduceSub, Nat.reduceLeDiff, Nat.reduceLT, Nat.reduceMul, reduceCtorEq, Int.reduceBNe, Int.reduceBEq, Int.reduceLT, Int.reduceLE, Int.reduceGT, g1, g2, g3, f73', ← hσ1]
    refine stepW_raw (by decide) (raw72 (oL W) o σ1 (n + 1) (by rw [lst_oL]; omega) (fun σ2 n2 k1 k2 k3 => ?_))
    simp +contextual -implicitDefEqProofs (maxSteps := 2000000) only [↓wP, wQ, wQ1, wQ2, wQ3, wR, boxE, partsOf, ↓reduceIte, Nat.reduceEqDiff, Nat.reduceAdd, Nat.reduceSub, Nat.reduceLeDiff, Nat.reduceLT, Nat.reduceMul, reduceCtorEq, Int.reduceBNe, Int.reduceBEq, Int.reduceLT, Int.reduceLE, Int.reduceGT]
    refine ovLoop (d := n) (pr := n + 1 + 1) (pm := n + 1 + 3) (pw := n + 1) (mid := n + 1 + 2) o (oL W) (by omega) (by rw [lst_oL]; omega) ho.2 (by rw [lst_oL]; exact hWv) rfl rfl (by rw [k2 n (by omega)]; exact s1) k3 (by omega) (by omega) (by omega) (by omega) (by omega) (by omega) (by omega) (by omega) (by omega) (fun σ3 n3 gv p1 p2 p3 p4 => ?_)
    rw [lst_oL] at p4
    have hm := mem_ovD hra hwi
    have hnd := nodup_ovD hra hwi
    have hDl : (ovD (lst o) W).length ≤ 112 := by
      unfold ovD
      rw [List.length_append, List.length_map]
      have h1 := List.length_filter_le (fun r : Rw => !ownI W r.id) (lst o)
      have h2 := List.length_filter_le (fun x : Wr => !x.g) W
      omega
    have hLa : Asc L := by rw [hL]; exact ovR_asc _ _
    rw [← hL] at hm
    have hgc := p4.cells
    generalize hDD : ovD (lst o) W = D at *
    cases D with
    | nil =>
      have hR0 : L = [] := by
        cases L with
        | nil => rfl
        | cons r R => have := (hm r).2 List.mem_cons_self; simp at this
      simp only [List.map_nil, oL, Pl] at p4
      rw [p4] at p3
      simp +contextual -implicitDefEqProofs (maxSteps := 2000000) only [↓wP, wQ, wQ1, wQ2, wQ3, wR, boxE, partsOf, ↓reduceIte, Nat.reduceEqDiff, Nat.reduceAdd, Nat.reduceSub, Nat.reduceLeDiff, Nat.reduceLT, Nat.reduceMul, reduceCtorEq, Int.reduceBNe, Int.reduceBEq, Int.reduceLT, Int.reduceLE, Int.reduceGT, p3]
      refine stepW_raw (by decide) (raw75n 76 σ3 n3 ?_)
      simp +contextual -implicitDefEqProofs (maxSteps := 2000000) only [↓wP, wQ, wQ1, wQ2, wQ3, wR, boxE, partsOf, ↓reduceIte, Nat.reduceEqDiff, Nat.reduceAdd, Nat.reduceSub, Nat.reduceLeDiff, Nat.reduceLT, Nat.reduceMul, reduceCtorEq, Int.reduceBNe, Int.reduceBEq, Int.reduceLT, Int.reduceLE, Int.reduceGT, p3]
      rw [hR0, hE]; rfl
    | cons r0 D0 =>
      obtain ⟨D, hD⟩ : ∃ D, D = r0 :: D0 := ⟨_, rfl⟩
      rw [← hD] at p4 hm hnd hDl
      have hoD : oL (D.map rwV) = some (D.map rwV) := by rw [hD]; rfl
      rw [hoD] at p4
      obtain ⟨i, rfl, q1, q2, q3⟩ := p4
      rw [List.length_map] at p3
      have hsz : D.toArray.size = D.length := by simp
      simp +contextual -implicitDefEqProofs (maxSteps := 2000000) only [↓wP, wQ, wQ1, wQ2, wQ3, wR, boxE, partsOf, ↓reduceIte, Nat.reduceEqDiff, Nat.reduceAdd, Nat.reduceSub, Nat.reduceLeDiff, Nat.reduceLT, Nat.reduceMul, reduceCtorEq, Int.reduceBNe, Int.reduceBEq, Int.reduceLT, Int.reduceLE, Int.reduceGT, p3]
      refine stepW_raw (by decide) ?_
      have hr := raw75 76 cmp76 D.toArray i n3 σ3 (by omega) q3 (by rw [rw_toArray]; exact q1) (Q := fun v σ' n' => ∃ d', σ' i = some (.row 2 (rw' d')) ∧ d'.size = D.length ∧ d'.toList = L ∧ σ' n = σ3 n) (fun σ' d' n' r1 r2 r3 r4 r5 => by
        obtain ⟨s1, s2⟩ := sorted_asc r4 r5 (by simpa using hnd)
        refine ⟨d', r2, by rw [r4.1, hsz], asc_uniq s1 hLa (fun x => ?_), r3 n (by omega) (by omega)⟩
        rw [s2, ← hm])
      rw [hsz] at hr
      refine run_mono _ _ _ (fun o ho => ?_) hr
      cases o <;> try exact ho.elim
      obtain ⟨d', r1, r2, r3, r4⟩ := ho
      rw [p3] at r4
      have hf := frz_row r2 r1 8
      have hrw : rw' d' = L.map rwV := by unfold rw'; rw [r3]
      rw [hrw] at hf
      have hRne : oL L = some L := by
        cases L with
        | nil => have := (hm r0).1 (by rw [hD]; exact List.mem_cons_self); simp at this
        | cons r R => rfl
      show WR T _ _ _ _ _ _
      simp +contextual -implicitDefEqProofs (maxSteps := 2000000) only [↓wP, wQ, wQ1, wQ2, wQ3, wR, boxE, partsOf, ↓reduceIte, Nat.reduceEqDiff, Nat.reduceAdd, Nat.reduceSub, Nat.reduceLeDiff, Nat.reduceLT, Nat.reduceMul, reduceCtorEq, Int.reduceBNe, Int.reduceBEq, Int.reduceLT, Int.reduceLE, Int.reduceGT, r4, hf]
      rw [hRne, hE]; rfl
  · exact ⟨rfl, rfl, rfl, rfl, rfl⟩
theorem f37 (l : Option (List Wr)) (c : Int) (o : Option (List Rw)) (h : FitW (lst l)) (ho : SmRo (lst o)) (fs : Bool) (σ : Sto) (n lk : Nat) :
    callE T fs 37 [slV 4 wrV l, .int .i64 c, slV 2 rwV o] σ n lk = some (.tup [slV 2 rwV (oL (ovL (lst l) c (lst o))), .int .i64 (ovE (lst l) c (lst o))], σ, n) :=
  callE_tr (by decide) (r37 l c o h ho) (by simp [Tr, Tr_slV]) (by simp [Nw, Nw_slV]) fs σ n lk
end Go.Q.SB
end

section
/- Conflicts. -/
set_option linter.unusedSimpArgs false
set_option linter.unusedVariables false
namespace Go.Q.SB
open Go.Q Go.Sort
def cfP (start : Int) (own : Ky → Bool) (f : Fa) : Bool := decide (start < f.ts) && own (key f.w)
theorem raw58 (f : Fa) (start : Int) (own : Ky → Bool) (a b mid n : Nat) (σ : Sto) (ha : σ a = some (.row 1 [.int .u64 start])) (hb : σ b = some (.row 1 [.mp mid])) {Lm : List (En Ky Bool)} {clk : Nat} (hm : σ mid = some (.map (ens kyV bV Lm) clk)) (ho : ∀ k, (vw Lm k).getD false = own k)
    (la : a < n) (lb : b < n) (lm : mid < n) {Q : V → Sto → Nat → Prop} (hQ : ∀ σ' n', (∀ i, i < n → σ' i = σ i) → n ≤ n' → Q (.bool (cfP start own f)) σ' n') :
    run T (.raw 58 [faV f, .ptr a 1 0 0, .ptr b 1 0 0] σ n 0) (memQ Q) := by
  refine run_rawE (fn := g58) rfl rfl ?_
  simp only [g58, b58, oO, oN, mV, lD, gO, pP, qQ, cI, aR]
  have fk := f47 f.w
  rw [wrV_eq] at fk
  have hmg : mgetE false (.agg [.int, .int]) (.bool false) (some (ens kyV bV Lm)) (kyV (key f.w)) = some (.bool (own (key f.w))) := by
    rw [mget_ens (ve := bV) keyK false (.bool false) (key f.w) Lm, ← ho (key f.w)]
    cases vw Lm (key f.w) <;> rfl
  have a1 : (a = n) = False := by simp; omega
  have a2 : (b = n) = False := by simp; omega
  have a3 : (mid = n) = False := by simp; omega
  unfold cfP at hQ
  by_cases h1 : start < f.ts
  · rw [decide_eq_true h1, Bool.true_and] at hQ
    simp +contextual -implicitDefEqProofs (maxSteps := 2000000) only [↓wP, wQ, wQ1, wQ2, wQ3, wR, boxE, partsOf, ↓reduceIte, Nat.reduceEqDiff, Nat.reduceAdd, Nat.reduceSub, Nat.reduceLeDiff, Nat.reduceLT, Nat.reduceMul, reduceCtorEq, Int.reduceBNe, Int.reduceBEq, Int.reduceLT, Int.reduceLE, Int.reduceGT, faV_eq, ha, hb, hm, a1, a2, a3, h1, fk, hmg]
    exact hQ _ _ (fun i hi => by rw [upd_ne (by omega)]) (by omega)
  · rw [decide_eq_false h1, Bool.false_and] at hQ
    simp +contextual -implicitDefEqProofs (maxSteps := 2000000) only [↓wP, wQ, wQ1, wQ2, wQ3, wR, boxE, partsOf, ↓reduceIte, Nat.reduceEqDiff, Nat.reduceAdd, Nat.reduceSub, Nat.reduceLeDiff, Nat.reduceLT, Nat.reduceMul, reduceCtorEq, Int.reduceBNe, Int.reduceBEq, Int.reduceLT, Int.reduceLE, Int.reduceGT, faV_eq, ha, hb, hm, a1, a2, a3, h1]
    exact hQ _ _ (fun i hi => by rw [upd_ne (by omega)]) (by omega)
theorem raw94 (l : Option (List Fa)) (start : Int) (own : Ky → Bool) (a b mid n : Nat) (σ : Sto) (hl : (lst l).length ≤ 1000000) (ha : σ a = some (.row 1 [.int .u64 start])) (hb : σ b = some (.row 1 [.mp mid])) {Lm : List (En Ky Bool)} {clk : Nat} (hm : σ mid = some (.map (ens kyV bV Lm) clk)) (ho : ∀ k, (vw Lm k).getD false = own k)
    (la : a < n) (lb : b < n) (lm : mid < n) {Q : V → Sto → Nat → Prop} (hQ : ∀ σ' n', (∀ i, i < n → σ' i = σ i) → n ≤ n' → Q (.int .i64 (idxF (cfP start own) (lst l))) σ' n') :
    run T (.raw 94 [slV 5 faV l, .fn 58 [.ptr a 1 0 0, .ptr b 1 0 0]] σ n 0) (memQ Q) := by
  refine run_rawE (fn := g94) rfl rfl ?_
  simp only [g94, b94, oO, oN, mV, lD, gO, pP, qQ, cI, aR]
  simp +contextual -implicitDefEqProofs (maxSteps := 2000000) only [↓wP, wQ, wQ1, wQ2, wQ3, wR, boxE, partsOf, ↓reduceIte, Nat.reduceEqDiff, Nat.reduceAdd, Nat.reduceSub, Nat.reduceLeDiff, Nat.reduceLT, Nat.reduceMul, reduceCtorEq, Int.reduceBNe, Int.reduceBEq, Int.reduceLT, Int.reduceLE, Int.reduceGT]
  refine WC_for (lst l).length 0 (fun (j : Nat) env σ' n' => env 0 = slV 5 faV l ∧ env 1 = .fn 58 [.ptr a 1 0 0, .ptr b 1 0 0] ∧ n ≤ n' ∧ (∀ i, i < n → σ' i = σ i) ∧ (lst l).findIdx? (cfP start own) = (((lst l).drop j).findIdx? (cfP start own)).map (· + j)) (by omega) (by decide) (by decide) (fun _ _ => rfl) (fun _ _ _ => rfl) ?_ ?_ _ _ _ rfl rfl ?_
  · intro j env σ' n' hj h1 h2 ⟨g1, g2, g3, g4, g5⟩
    simp only [vl_tmp] at h2
    have hx : (lst l)[j]? = some (lst l)[j] := List.getElem?_eq_getElem hj
    rw [List.drop_eq_getElem_cons hj, List.findIdx?_cons] at g5
    obtain ⟨x, hxx⟩ : ∃ x, x = (lst l)[j] := ⟨_, rfl⟩
    rw [← hxx] at hx g5
    have r := fun (Q : V → Sto → Nat → Prop) hQ => raw58 x start own a b mid n' σ' (by rw [g4 a la]; exact ha) (by rw [g4 b lb]; exact hb) (by rw [g4 mid lm]; exact hm) ho (by omega) (by omega) (by omega) (Q := Q) hQ
    rw [faV_eq] at r
    simp +contextual -implicitDefEqProofs (maxSteps := 2000000) only [↓wP, wQ, wQ1, wQ2, wQ3, wR, boxE, partsOf, ↓reduceIte, Nat.reduceEqDiff, Nat.reduceAdd, Nat.reduceSub, Nat.reduceLeDiff, Nat.reduceLT, Nat.reduceMul, reduceCtorEq, Int.reduceBNe, Int.reduceBEq, Int.reduceLT, Int.reduceLE, Int.reduceGT, h1, h2, g1, g2, hx, faV_eq]
    refine stepW_raw (by decide) (r _ (fun σ2 n2 k1 k2 => ?_))
    cases hq : cfP start own x
    · rw [hq] at g5
      simp only [Bool.false_eq_true, if_false, Option.map_map] at g5
      simp +contextual -implicitDefEqProofs (maxSteps := 2000000) only [↓wP, wQ, wQ1, wQ2, wQ3, wR, boxE, partsOf, ↓reduceIte, Nat.reduceEqDiff, Nat.reduceAdd, Nat.reduceSub, Nat.reduceLeDiff, Nat.reduceLT, Nat.reduceMul, reduceCtorEq, Int.reduceBNe, Int.reduceBEq, Int.reduceLT, Int.reduceLE, Int.reduceGT, h1, h2, g1, g2]
      refine ⟨by omega, fun i hi => by rw [k1 i (by omega)]; exact g4 i hi, ?_⟩
      rw [g5]
      congr 1
      funext i
      simp only [Function.comp]
      omega
    · rw [hq] at g5
      simp only [if_true, Option.map_some, Nat.zero_add] at g5
      have hi : idxF (cfP start own) (lst l) = (j : Int) := by unfold idxF; rw [g5]
      simp +contextual -implicitDefEqProofs (maxSteps := 2000000) only [↓wP, wQ, wQ1, wQ2, wQ3, wR, boxE, partsOf, ↓reduceIte, Nat.reduceEqDiff, Nat.reduceAdd, Nat.reduceSub, Nat.reduceLeDiff, Nat.reduceLT, Nat.reduceMul, reduceCtorEq, Int.reduceBNe, Int.reduceBEq, Int.reduceLT, Int.reduceLE, Int.reduceGT, h1, h2, g1, g2]
      rw [← hi]
      exact hQ _ _ (fun i hi => by rw [k1 i (by omega)]; exact g4 i hi) (by omega)
  · intro env σ' n' ⟨g1, g2, g3, g4, g5⟩ h1 h2
    rw [List.drop_length] at g5
    have hi : idxF (cfP start own) (lst l) = -1 := by unfold idxF; rw [g5]; rfl
    rw [hi] at hQ
    simp +contextual -implicitDefEqProofs (maxSteps := 2000000) only [↓wP, wQ, wQ1, wQ2, wQ3, wR, boxE, partsOf, ↓reduceIte, Nat.reduceEqDiff, Nat.reduceAdd, Nat.reduceSub, Nat.reduceLeDiff, Nat.reduceLT, Nat.reduceMul, reduceCtorEq, Int.reduceBNe, Int.reduceBEq, Int.reduceLT, Int.reduceLE, Int.reduceGT]
    exact hQ _ _ g4 g3
  · simp +contextual -implicitDefEqProofs (maxSteps := 2000000) only [↓wP, wQ, wQ1, wQ2, wQ3, wR, boxE, partsOf, ↓reduceIte, Nat.reduceEqDiff, Nat.reduceAdd, Nat.reduceSub, Nat.reduceLeDiff, Nat.reduceLT, Nat.reduceMul, reduceCtorEq, Int.reduceBNe, Int.reduceBEq, Int.reduceLT, Int.reduceLE, Int.reduceGT]
    simp
theorem raw57 (l : Option (List Fa)) (start : Int) (own : Ky → Bool) (a b mid n : Nat) (σ : Sto) (hl : (lst l).length ≤ 1000000) (ha : σ a = some (.row 1 [.int .u64 start])) (hb : σ b = some (.row 1 [.mp mid])) {Lm : List (En Ky Bool)} {clk : Nat} (hm : σ mid = some (.map (ens kyV bV Lm) clk)) (ho : ∀ k, (vw Lm k).getD false = own k)
    (la : a < n) (lb : b < n) (lm : mid < n) {Q : V → Sto → Nat → Prop} (hQ : ∀ σ' n', Q (.bool ((lst l).any (cfP start own))) σ' n') :
    run T (.raw 57 [slV 5 faV l, .fn 58 [.ptr a 1 0 0, .ptr b 1 0 0]] σ n 0) (memQ Q) := by
  refine run_rawE (fn := g57) rfl rfl ?_
  simp only [g57, b57, oO, oN, mV, lD, gO, pP, qQ, cI, aR]
  rw [← idxF_any] at hQ
  simp +contextual -implicitDefEqProofs (maxSteps := 2000000) only [↓wP, wQ, wQ1, wQ2, wQ3, wR, boxE, partsOf, ↓reduceIte, Nat.reduceEqDiff, Nat.reduceAdd, Nat.reduceSub, Nat.reduceLeDiff, Nat.reduceLT, Nat.reduceMul, reduceCtorEq, Int.reduceBNe, Int.reduceBEq, Int.reduceLT, Int.reduceLE, Int.reduceGT]
  refine stepW_raw (by decide) (raw94 l start own a b mid n σ hl ha hb hm ho la lb lm (fun σ2 n2 k1 k2 => ?_))
  simp +contextual -implicitDefEqProofs (maxSteps := 2000000) only [↓wP, wQ, wQ1, wQ2, wQ3, wR, boxE, partsOf, ↓reduceIte, Nat.reduceEqDiff, Nat.reduceAdd, Nat.reduceSub, Nat.reduceLeDiff, Nat.reduceLT, Nat.reduceMul, reduceCtorEq, Int.reduceBNe, Int.reduceBEq, Int.reduceLT, Int.reduceLE, Int.reduceGT]
  exact hQ _ _
def ownK (W : List Wr) (k : Ky) : Bool := W.any fun w => decide (key w = k)
theorem ownK_snoc (W : List Wr) (w : Wr) (k : Ky) : ownK (W ++ [w]) k = (ownK W k || decide (key w = k)) := by simp [ownK]
def cfE (l : List Fa) (w : List Wr) : Int := if rightF l = false then 280 else if rightW w = false then 260 else 0
def cfB (l : List Fa) (start : Int) (w : List Wr) : Bool := if cfE l w = 0 then l.any (cfP start (ownK w)) else false
theorem r21 (l : Option (List Fa)) (start : Int) (w : Option (List Wr)) (h : FitF (lst l)) (hw : FitW (lst w)) : res T 21 [slV 5 faV l, .int .u64 start, slV 4 wrV w] = some (.tup [.bool (cfB (lst l) start (lst w)), .int .i64 (cfE (lst l) (lst w))]) := by
  refine run_res (run_pure (fn := g21) rfl rfl (by decide) ?_)
  simp only [g21, b21, oO, oN, mV, lD, gO, pP, qQ, cI, aR]
  have f24' := f24 l h.sm
  have hl := h.1
  have hl2 := hw.1
  have f45' := f45 w ⟨by omega, fun x hx => by have := hw.2 x hx; unfold Sm; omega⟩
  have hm44 : T.mode 44 ≠ .raw := by decide
  unfold cfB cfE
  cases hrf : rightF (lst l)
  · rw [hrf] at f24'
    rw [if_neg (by decide)] at f24'
    have r := r44 280 (if rightW (lst w) = true then 0 else 260)
    rw [if_neg (show ¬ (280 : Int) = 0 by decide)] at r
    have z0 : ((280 : Int) != 0) = true := rfl
    simp +contextual -implicitDefEqProofs (maxSteps := 2000000) only [↓wP, wQ, wQ1, wQ2, wQ3, wR, boxE, partsOf, ↓reduceIte, Nat.reduceEqDiff, Nat.reduceAdd, Nat.reduceSub, Nat.reduceLeDiff, Nat.reduceLT, Nat.reduceMul, reduceCtorEq, Int.reduceBNe, Int.reduceBEq, Int.reduceLT, Int.reduceLE, Int.reduceGT, f24', f45', callE_eq hm44, frz_rf, rch_rf, r, z0]
    rfl
  rw [hrf] at f24'
  rw [if_pos rfl] at f24'
  cases hrw : rightW (lst w)
  · rw [hrw] at f45'
    rw [if_neg (by decide)] at f45'
    have r := r44 0 260
    rw [if_pos rfl] at r
    have z0 : ((260 : Int) != 0) = true := rfl
    simp +contextual -implicitDefEqProofs (maxSteps := 2000000) only [↓wP, wQ, wQ1, wQ2, wQ3, wR, boxE, partsOf, ↓reduceIte, Nat.reduceEqDiff, Nat.reduceAdd, Nat.reduceSub, Nat.reduceLeDiff, Nat.reduceLT, Nat.reduceMul, reduceCtorEq, Int.reduceBNe, Int.reduceBEq, Int.reduceLT, Int.reduceLE, Int.reduceGT, f24', f45', callE_eq hm44, frz_rf, rch_rf, r, z0]
    rfl
  rw [hrw] at f45'
  rw [if_pos rfl] at f45'
  have r := r44 0 0
  rw [if_pos rfl] at r
  have z0 : ((0 : Int) != 0) = false := rfl
  simp +contextual -implicitDefEqProofs (maxSteps := 2000000) only [↓wP, wQ, wQ1, wQ2, wQ3, wR, boxE, partsOf, ↓reduceIte, Nat.reduceEqDiff, Nat.reduceAdd, Nat.reduceSub, Nat.reduceLeDiff, Nat.reduceLT, Nat.reduceMul, reduceCtorEq, Int.reduceBNe, Int.reduceBEq, Int.reduceLT, Int.reduceLE, Int.reduceGT, f24', f45', callE_eq hm44, frz_rf, rch_rf, r, z0]
  refine WC_for (lst w).length 0 (fun (j : Nat) env σ n => env 0 = slV 5 faV l ∧ env 4 = .ptr 0 1 0 0 ∧ env 9 = .ptr 3 1 0 0 ∧ env 22 = slV 4 wrV w ∧ 4 ≤ n ∧ σ 0 = some (.row 1 [.int .u64 start]) ∧ σ 3 = some (.row 1 [.mp 2]) ∧ ∃ Lm clk, MOk Lm clk ∧ σ 2 = some (.map (ens kyV bV Lm) clk) ∧ ∀ k, (vw Lm k).getD false = ownK ((lst w).take j) k) (by omega) (by decide) (by decide) (fun _ _ => rfl) (fun _ _ _ => rfl) ?_ ?_ _ _ _ rfl rfl ?_
  · intro j env σ n hj h1 h2 ⟨g0, g1, g2, g3, g4, g5, g6, Lm, clk, m1, m2, m3⟩
    simp only [vl_tmp] at h2
    have hx : (lst w)[j]? = some (lst w)[j] := List.getElem?_eq_getElem hj
    have hos := ownK_snoc ((lst w).take j) (lst w)[j]
    rw [List.take_append_getElem hj] at hos
    generalize (lst w)[j] = x at *
    obtain ⟨σ1, hσ1⟩ : ∃ σ1, σ1 = upd (upd σ n (some (.row 4 [.agg [.int .i64 0, .int .u64 0, .bool false, .nilS]]))) n (some (.row 4 [.agg [.int .i64 x.c, .int .u64 x.id, .bool x.g, slV 1 i32V x.v]])) := ⟨_, rfl⟩
    have so : ∀ i, i < n → σ1 i = σ i := fun i hi => by rw [hσ1, upd_ne (by omega), upd_ne (by omega)]
    have sn : σ1 n = some (.row 4 [.agg [.int .i64 x.c, .int .u64 x.id, .bool x.g, slV 1 i32V x.v]]) := by rw [hσ1, upd_self]
    have s3 : σ1 3 = some (.row 1 [.mp 2]) := by rw [so _ (by omega)]; exact g6
    have s2 : σ1 2 = some (.map (ens kyV bV Lm) clk) := by rw [so _ (by omega)]; exact m2
    have s0 : σ1 0 = some (.row 1 [.int .u64 start]) := by rw [so _ (by omega)]; exact g5
    have pu := mupd_ens (ke := kyV) (ve := bV) (lk := 0) keyK m1 s2 (Nat.zero_le _) (key x) true (n + 1)
    have fk := f47 x
    rw [wrV_eq] at fk
    simp only [bV] at pu
    simp +contextual -implicitDefEqProofs (maxSteps := 2000000) only [↓wP, wQ, wQ1, wQ2, wQ3, wR, boxE, partsOf, ↓reduceIte, Nat.reduceEqDiff, Nat.reduceAdd, Nat.reduceSub, Nat.reduceLeDiff, Nat.reduceLT, Nat.reduceMul, reduceCtorEq, Int.reduceBNe, Int.reduceBEq, Int.reduceLT, Int.reduceLE, Int.reduceGT, h1, h2, g0, g1, g2, g3, hx, wrV_eq, ← hσ1, sn, s3, s0, fk, pu]
    refine ⟨by omega, _, _, mput_ok m1 _ _, rfl, fun k => ?_⟩
    rw [vw_mput, hos]
    by_cases e : k = key x
    · rw [if_pos e]; simp [e]
    · rw [if_neg e, m3]
      have : decide (key x = k) = false := by simp; exact fun h => e h.symm
      rw [this, Bool.or_false]
  · intro env σ n ⟨g0, g1, g2, g3, g4, g5, g6, Lm, clk, m1, m2, m3⟩ h1 h2
    rw [List.take_length] at m3
    simp +contextual -implicitDefEqProofs (maxSteps := 2000000) only [↓wP, wQ, wQ1, wQ2, wQ3, wR, boxE, partsOf, ↓reduceIte, Nat.reduceEqDiff, Nat.reduceAdd, Nat.reduceSub, Nat.reduceLeDiff, Nat.reduceLT, Nat.reduceMul, reduceCtorEq, Int.reduceBNe, Int.reduceBEq, Int.reduceLT, Int.reduceLE, Int.reduceGT, g0, g1, g2]
    refine stepW_raw (by decide) (raw57 l start (ownK (lst w)) 0 3 2 n σ (by omega) g5 g6 m2 m3 (by omega) (by omega) (by omega) (fun σ2 n2 => ?_))
    simp +contextual -implicitDefEqProofs (maxSteps := 2000000) only [↓wP, wQ, wQ1, wQ2, wQ3, wR, boxE, partsOf, ↓reduceIte, Nat.reduceEqDiff, Nat.reduceAdd, Nat.reduceSub, Nat.reduceLeDiff, Nat.reduceLT, Nat.reduceMul, reduceCtorEq, Int.reduceBNe, Int.reduceBEq, Int.reduceLT, Int.reduceLE, Int.reduceGT]
  · simp +contextual -implicitDefEqProofs (maxSteps := 2000000) only [↓wP, wQ, wQ1, wQ2, wQ3, wR, boxE, partsOf, ↓reduceIte, Nat.reduceEqDiff, Nat.reduceAdd, Nat.reduceSub, Nat.reduceLeDiff, Nat.reduceLT, Nat.reduceMul, reduceCtorEq, Int.reduceBNe, Int.reduceBEq, Int.reduceLT, Int.reduceLE, Int.reduceGT]
    exact ⟨[], 0, MOk.nil, rfl, fun k => rfl⟩
theorem f21 (l : Option (List Fa)) (start : Int) (w : Option (List Wr)) (h : FitF (lst l)) (hw : FitW (lst w)) (fs : Bool) (σ : Sto) (n lk : Nat) : callE T fs 21 [slV 5 faV l, .int .u64 start, slV 4 wrV w] σ n lk = some (.tup [.bool (cfB (lst l) start (lst w)), .int .i64 (cfE (lst l) (lst w))], σ, n) :=
  callE_tr (by decide) (r21 l start w h hw) (by simp [Tr, Tr_slV]) rfl fs σ n lk
end Go.Q.SB
end

section
/- What a transaction sees; the document's answers. -/
set_option linter.unusedSimpArgs false
set_option linter.unusedVariables false
namespace Go.Q.SB
open Go.Q Go.Sort
theorem ownK_find (W : List Wr) (k : Ky) : (W.find? fun x => x.c == k.1 && x.id == k.2).isSome = ownK W k := by
  unfold ownK
  rw [Bool.eq_iff_iff]
  rw [List.find?_isSome]
  simp only [List.any_eq_true, decide_eq_true_eq, Bool.and_eq_true, beq_iff_eq]
  constructor
  · rintro ⟨x, h1, h2, h3⟩; exact ⟨x, h1, by unfold key; rw [h2, h3]⟩
  · rintro ⟨x, h1, h2⟩; subst h2; exact ⟨x, h1, rfl, rfl⟩
def fdV (o : Option Wr) : V := .tup [match o with | some x => wrV x | none => .agg [.int .i64 0, .int .u64 0, .bool false, .nilS], .bool o.isSome]
theorem r69 (w : Option (List Wr)) (c id : Int) (h : (lst w).length ≤ 1000000) : res T 69 [slV 4 wrV w, .int .i64 c, .int .u64 id] = some (fdV ((lst w).find? fun x => x.c == c && x.id == id)) := by
  refine run_res (run_pure (fn := g69) rfl rfl (by decide) ?_)
  simp only [g69, b69, oO, oN, mV, lD, gO, pP, qQ, cI, aR]
  simp +contextual -implicitDefEqProofs (maxSteps := 2000000) only [↓wP, wQ, wQ1, wQ2, wQ3, wR, boxE, partsOf, ↓reduceIte, Nat.reduceEqDiff, Nat.reduceAdd, Nat.reduceSub, Nat.reduceLeDiff, Nat.reduceLT, Nat.reduceMul, reduceCtorEq, Int.reduceBNe, Int.reduceBEq, Int.reduceLT, Int.reduceLE, Int.reduceGT]
  refine WC_for (lst w).length 0 (fun (j : Nat) env σ n => env 1 = .int .i64 c ∧ env 2 = .int .u64 id ∧ env 6 = .ptr 0 4 0 0 ∧ env 10 = slV 4 wrV w ∧ 1 ≤ n ∧ σ 0 = some (.row 4 [.agg [.int .i64 0, .int .u64 0, .bool false, .nilS]]) ∧ ((lst w).find? fun x => x.c == c && x.id == id) = (((lst w).drop j).find? fun x => x.c == c && x.id == id)) (by omega) (by decide) (by decide) (fun _ _ => rfl) (fun _ _ _ => rfl) ?_ ?_ _ _ _ rfl rfl ?_
  · intro j env σ n hj h1 h2 ⟨g1, g2, g3, g4, g5, g6, g7⟩
    simp only [vl_tmp] at h2
    have hx : (lst w)[j]? = some (lst w)[j] := List.getElem?_eq_getElem hj
    rw [List.drop_eq_getElem_cons hj, List.find?_cons] at g7
    generalize (lst w)[j] = x at *
    obtain ⟨σ1, hσ1⟩ : ∃ σ1, σ1 = upd (upd σ n (some (.row 4 [.agg [.int .i64 0, .int .u64 0, .bool false, .nilS]]))) n (some (.row 4 [.agg [.int .i64 x.c, .int .u64 x.id, .bool x.g, slV 1 i32V x.v]])) := ⟨_, rfl⟩
    have so : ∀ i, i < n → σ1 i = σ i := fun i hi => by rw [hσ1, upd_ne (by omega), upd_ne (by omega)]
    have sn : σ1 n = some (.row 4 [.agg [.int .i64 x.c, .int .u64 x.id, .bool x.g, slV 1 i32V x.v]]) := by rw [hσ1, upd_self]
    have s0 : σ1 0 = some (.row 4 [.agg [.int .i64 0, .int .u64 0, .bool false, .nilS]]) := by rw [so 0 (by omega)]; exact g6
    have q0 : (n = 0) = False := by simp; omega
    cases hk : (x.c == c)
    · rw [hk] at g7
      simp only [Bool.false_and] at g7
      simp +contextual -implicitDefEqProofs (maxSteps := 2000000) only [↓wP, wQ, wQ1, wQ2, wQ3, wR, boxE, partsOf, ↓reduceIte, Nat.reduceEqDiff, Nat.reduceAdd, Nat.reduceSub, Nat.reduceLeDiff, Nat.reduceLT, Nat.reduceMul, reduceCtorEq, Int.reduceBNe, Int.reduceBEq, Int.reduceLT, Int.reduceLE, Int.reduceGT, h1, h2, g1, g2, g3, g4, hx, wrV_eq, ← hσ1, sn, s0, hk]
      exact g7
    · rw [hk] at g7
      simp only [Bool.true_and] at g7
      cases hk2 : (x.id == id)
      · rw [hk2] at g7
        simp only [] at g7
        simp +contextual -implicitDefEqProofs (maxSteps := 2000000) only [↓wP, wQ, wQ1, wQ2, wQ3, wR, boxE, partsOf, ↓reduceIte, Nat.reduceEqDiff, Nat.reduceAdd, Nat.reduceSub, Nat.reduceLeDiff, Nat.reduceLT, Nat.reduceMul, reduceCtorEq, Int.reduceBNe, Int.reduceBEq, Int.reduceLT, Int.reduceLE, Int.reduceGT, h1, h2, g1, g2, g3, g4, hx, wrV_eq, ← hσ1, sn, s0, hk, hk2]
        exact g7
      · rw [hk2] at g7
        simp only [] at g7
        simp +contextual -implicitDefEqProofs (maxSteps := 2000000) only [↓wP, wQ, wQ1, wQ2, wQ3, wR, boxE, partsOf, ↓reduceIte, Nat.reduceEqDiff, Nat.reduceAdd, Nat.reduceSub, Nat.reduceLeDiff, Nat.reduceLT, Nat.reduceMul, reduceCtorEq, Int.reduceBNe, Int.reduceBEq, Int.reduceLT, Int.reduceLE, Int.reduceGT, h1, h2, g1, g2, g3, g4, hx, wrV_eq, ← hσ1, sn, s0, hk, hk2]
        rw [g7]; rfl
  · intro env σ n ⟨g1, g2, g3, g4, g5, g6, g7⟩ h1 h2
    rw [List.drop_length] at g7
    simp +contextual -implicitDefEqProofs (maxSteps := 2000000) only [↓wP, wQ, wQ1, wQ2, wQ3, wR, boxE, partsOf, ↓reduceIte, Nat.reduceEqDiff, Nat.reduceAdd, Nat.reduceSub, Nat.reduceLeDiff, Nat.reduceLT, Nat.reduceMul, reduceCtorEq, Int.reduceBNe, Int.reduceBEq, Int.reduceLT, Int.reduceLE, Int.reduceGT, g3, g6]
    rw [g7]; rfl
  · simp +contextual -implicitDefEqProofs (maxSteps := 2000000) only [↓wP, wQ, wQ1, wQ2, wQ3, wR, boxE, partsOf, ↓reduceIte, Nat.reduceEqDiff, Nat.reduceAdd, Nat.reduceSub, Nat.reduceLeDiff, Nat.reduceLT, Nat.reduceMul, reduceCtorEq, Int.reduceBNe, Int.reduceBEq, Int.reduceLT, Int.reduceLE, Int.reduceGT]
theorem f69 (w : Option (List Wr)) (c id : Int) (h : (lst w).length ≤ 1000000) (fs : Bool) (σ : Sto) (n lk : Nat) : callE T fs 69 [slV 4 wrV w, .int .i64 c, .int .u64 id] σ n lk = some (fdV ((lst w).find? fun x => x.c == c && x.id == id), σ, n) :=
  callE_tr (by decide) (r69 w c id h) (by simp [Tr, Tr_slV]) (by unfold fdV; cases (lst w).find? fun x => x.c == c && x.id == id <;> simp [Nw, wrV_eq, Nw_slV]) fs σ n lk
theorem r36 (l : Option (List Fa)) (start : Int) (w : Option (List Wr)) (h : (lst l).length ≤ 1000000) (hw : (lst w).length ≤ 1000000) : res T 36 [slV 5 faV l, .int .u64 start, slV 4 wrV w] = some (.bool ((lst l).any (cfP start (ownK (lst w))))) := by
  refine run_res (run_pure (fn := g36) rfl rfl (by decide) ?_)
  simp only [g36, b36, oO, oN, mV, lD, gO, pP, qQ, cI, aR]
  simp +contextual -implicitDefEqProofs (maxSteps := 2000000) only [↓wP, wQ, wQ1, wQ2, wQ3, wR, boxE, partsOf, ↓reduceIte, Nat.reduceEqDiff, Nat.reduceAdd, Nat.reduceSub, Nat.reduceLeDiff, Nat.reduceLT, Nat.reduceMul, reduceCtorEq, Int.reduceBNe, Int.reduceBEq, Int.reduceLT, Int.reduceLE, Int.reduceGT]
  refine WC_for (lst l).length 0 (fun (j : Nat) env σ n => env 1 = .int .u64 start ∧ env 2 = slV 4 wrV w ∧ env 11 = slV 5 faV l ∧ (lst l).any (cfP start (ownK (lst w))) = ((lst l).drop j).any (cfP start (ownK (lst w)))) (by omega) (by decide) (by decide) (fun _ _ => rfl) (fun _ _ _ => rfl) ?_ ?_ _ _ _ rfl rfl ?_
  · intro j env σ n hj h1 h2 ⟨g1, g2, g3, g4⟩
    simp only [vl_tmp] at h2
    have hx : (lst l)[j]? = some (lst l)[j] := List.getElem?_eq_getElem hj
    rw [List.drop_eq_getElem_cons hj, List.any_cons] at g4
    generalize (lst l)[j] = x at *
    have f := f69 w x.w.c x.w.id hw
    have hk := ownK_find (lst w) (key x.w)
    rw [show (key x.w).1 = x.w.c from rfl, show (key x.w).2 = x.w.id from rfl] at hk
    obtain ⟨σ1, hσ1⟩ : ∃ σ1, σ1 = upd (upd σ n (some (.row 5 [.agg [.int .u64 0, .int .i64 0, .int .u64 0, .bool false, .nilS]]))) n (some (.row 5 [.agg [.int .u64 x.ts, .int .i64 x.w.c, .int .u64 x.w.id, .bool x.w.g, slV 1 i32V x.w.v]])) := ⟨_, rfl⟩
    have sn : σ1 n = some (.row 5 [.agg [.int .u64 x.ts, .int .i64 x.w.c, .int .u64 x.w.id, .bool x.w.g, slV 1 i32V x.w.v]]) := by rw [hσ1, upd_self]
    have q0 : (n = n + 1) = False := by simp
    have hc : cfP start (ownK (lst w)) x = (decide (start < x.ts) && ownK (lst w) (key x.w)) := rfl
    cases hf : (lst w).find? fun y => y.c == x.w.c && y.id == x.w.id with
    | none =>
      rw [hf] at f hk
      have hk' : ownK (lst w) (key x.w) = false := hk.symm
      rw [hc, hk', Bool.and_false, Bool.false_or] at g4
      unfold fdV at f
      simp only [Option.isSome_none] at f
      simp +contextual -implicitDefEqProofs (maxSteps := 2000000) only [↓wP, wQ, wQ1, wQ2, wQ3, wR, boxE, partsOf, ↓reduceIte, Nat.reduceEqDiff, Nat.reduceAdd, Nat.reduceSub, Nat.reduceLeDiff, Nat.reduceLT, Nat.reduceMul, reduceCtorEq, Int.reduceBNe, Int.reduceBEq, Int.reduceLT, Int.reduceLE, Int.reduceGT, h1, h2, g1, g2, g3, hx, faV_eq, ← hσ1, sn, f, q0]
      exact g4
    | some y =>
      rw [hf] at f hk
      have hk' : ownK (lst w) (key x.w) = true := hk.symm
      rw [hc, hk', Bool.and_true] at g4
      unfold fdV at f
      simp only [Option.isSome_some, wrV_eq] at f
      by_cases hlt : start < x.ts
      · rw [decide_eq_true hlt, Bool.true_or] at g4
        simp +contextual -implicitDefEqProofs (maxSteps := 2000000) only [↓wP, wQ, wQ1, wQ2, wQ3, wR, boxE, partsOf, ↓reduceIte, Nat.reduceEqDiff, Nat.reduceAdd, Nat.reduceSub, Nat.reduceLeDiff, Nat.reduceLT, Nat.reduceMul, reduceCtorEq, Int.reduceBNe, Int.reduceBEq, Int.reduceLT, Int.reduceLE, Int.reduceGT, h1, h2, g1, g2, g3, hx, faV_eq, ← hσ1, sn, f, q0, hlt]
        rw [g4]
      · rw [decide_eq_false hlt, Bool.false_or] at g4
        simp +contextual -implicitDefEqProofs (maxSteps := 2000000) only [↓wP, wQ, wQ1, wQ2, wQ3, wR, boxE, partsOf, ↓reduceIte, Nat.reduceEqDiff, Nat.reduceAdd, Nat.reduceSub, Nat.reduceLeDiff, Nat.reduceLT, Nat.reduceMul, reduceCtorEq, Int.reduceBNe, Int.reduceBEq, Int.reduceLT, Int.reduceLE, Int.reduceGT, h1, h2, g1, g2, g3, hx, faV_eq, ← hσ1, sn, f, q0, hlt]
        exact g4
  · intro env σ n ⟨g1, g2, g3, g4⟩ h1 h2
    rw [List.drop_length] at g4
    simp +contextual -implicitDefEqProofs (maxSteps := 2000000) only [↓wP, wQ, wQ1, wQ2, wQ3, wR, boxE, partsOf, ↓reduceIte, Nat.reduceEqDiff, Nat.reduceAdd, Nat.reduceSub, Nat.reduceLeDiff, Nat.reduceLT, Nat.reduceMul, reduceCtorEq, Int.reduceBNe, Int.reduceBEq, Int.reduceLT, Int.reduceLE, Int.reduceGT]
    rw [g4]; rfl
  · simp +contextual -implicitDefEqProofs (maxSteps := 2000000) only [↓wP, wQ, wQ1, wQ2, wQ3, wR, boxE, partsOf, ↓reduceIte, Nat.reduceEqDiff, Nat.reduceAdd, Nat.reduceSub, Nat.reduceLeDiff, Nat.reduceLT, Nat.reduceMul, reduceCtorEq, Int.reduceBNe, Int.reduceBEq, Int.reduceLT, Int.reduceLE, Int.reduceGT]
theorem f36 (l : Option (List Fa)) (start : Int) (w : Option (List Wr)) (h : (lst l).length ≤ 1000000) (hw : (lst w).length ≤ 1000000) (fs : Bool) (σ : Sto) (n lk : Nat) : callE T fs 36 [slV 5 faV l, .int .u64 start, slV 4 wrV w] σ n lk = some (.bool ((lst l).any (cfP start (ownK (lst w)))), σ, n) :=
  callE_tr (by decide) (r36 l start w h hw) (by simp [Tr, Tr_slV]) rfl fs σ n lk
end Go.Q.SB
end

section
/- The layer does something. -/
set_option linter.unusedSimpArgs false
set_option linter.unusedVariables false
namespace Go.Q.SB
open Go.Q
def isTrue' : Option Out → Bool
  | some (.val (.bool true)) => true
  | _ => false
theorem isTrue_eq {o : Option Out} (h : isTrue' o = true) : o = some (.val (.bool true)) := by
  unfold isTrue' at h
  split at h
  · rfl
  · cases h
theorem r9 : res T 9 [] = some (.bool true) := by
  have h : isTrue' (exJob T 300 (.pure 9 [])) = true := by decide +kernel
  exact run_res (exJob_sound 300 _ _ (isTrue_eq h))
theorem f9 (fs : Bool) (σ : Sto) (n lk : Nat) : callE T fs 9 [] σ n lk = some (.bool true, σ, n) := callE_tr (by decide) r9 rfl rfl fs σ n lk
end Go.Q.SB
end

section
/- IdealSees. -/
set_option linter.unusedSimpArgs false
set_option linter.unusedVariables false
namespace Go.Q.SB
open Go.Q Go.Sort
structure Vi where
  c : Int
  start : Int
  ws : Option (List Wr)
def viV (v : Vi) : V := .agg [.int .i64 v.c, .int .u64 v.start, slV 4 wrV v.ws]
theorem viV_eq (v : Vi) : viV v = .agg [.int .i64 v.c, .int .u64 v.start, slV 4 wrV v.ws] := rfl
theorem r44c (a b c : Int) : res T 44 [.sl 1 [.int .i64 a, .int .i64 b, .int .i64 c]] = some (.int .i64 (if a = 0 then (if b = 0 then c else b) else a)) := by
  refine run_res (run_pure (fn := g44) rfl rfl (by decide) ?_)
  simp only [g44, b44, oO, oN, mV, lD, gO, pP, qQ, cI, aR]
  simp +contextual -implicitDefEqProofs (maxSteps := 2000000) only [↓wP, wQ, wQ1, wQ2, wQ3, wR, boxE, partsOf, ↓reduceIte, Nat.reduceEqDiff, Nat.reduceAdd, Nat.reduceSub, Nat.reduceLeDiff, Nat.reduceLT, Nat.reduceMul, reduceCtorEq, Int.reduceBNe, Int.reduceBEq, Int.reduceLT, Int.reduceLE, Int.reduceGT]
  refine WC_for 3 0 (fun (j : Nat) env σ n => env 3 = .int .i64 0 ∧ env 6 = .sl 1 [.int .i64 a, .int .i64 b, .int .i64 c] ∧ (0 < j → a = 0) ∧ (1 < j → b = 0) ∧ (2 < j → c = 0)) (by omega) (by decide) (by decide) (fun _ _ => rfl) (fun _ _ _ => rfl) ?_ ?_ _ _ _ rfl rfl ?_
  · intro j env σ n hj h1 h2 ⟨h3, h4, h5, h6, h7⟩
    simp only [vl_tmp] at h2
    match j, hj with
    | 0, _ =>
      by_cases ha : a = 0
      · have hd : (a != 0) = false := by simp [ha]
        simp +contextual -implicitDefEqProofs (maxSteps := 2000000) only [↓wP, wQ, wQ1, wQ2, wQ3, wR, boxE, partsOf, ↓reduceIte, Nat.reduceEqDiff, Nat.reduceAdd, Nat.reduceSub, Nat.reduceLeDiff, Nat.reduceLT, Nat.reduceMul, reduceCtorEq, Int.reduceBNe, Int.reduceBEq, Int.reduceLT, Int.reduceLE, Int.reduceGT, h1, h2, h3, h4, hd]
        exact ⟨fun _ => ha, fun h => absurd h (by decide), fun h => absurd h (by decide)⟩
      · have hd : (a != 0) = true := by simp [ha]
        simp +contextual -implicitDefEqProofs (maxSteps := 2000000) only [↓wP, wQ, wQ1, wQ2, wQ3, wR, boxE, partsOf, ↓reduceIte, Nat.reduceEqDiff, Nat.reduceAdd, Nat.reduceSub, Nat.reduceLeDiff, Nat.reduceLT, Nat.reduceMul, reduceCtorEq, Int.reduceBNe, Int.reduceBEq, Int.reduceLT, Int.reduceLE, Int.reduceGT, h1, h2, h3, h4, hd, ha]
    | 1, _ =>
      have ha := h5 (by omega)
      by_cases hb : b = 0
      · have hd : (b != 0) = false := by simp [hb]
        simp +contextual -implicitDefEqProofs (maxSteps := 2000000) only [↓wP, wQ, wQ1, wQ2, wQ3, wR, boxE, partsOf, ↓reduceIte, Nat.reduceEqDiff, Nat.reduceAdd, Nat.reduceSub, Nat.reduceLeDiff, Nat.reduceLT, Nat.reduceMul, reduceCtorEq, Int.reduceBNe, Int.reduceBEq, Int.reduceLT, Int.reduceLE, Int.reduceGT, h1, h2, h3, h4, hd]
        exact ⟨fun _ => ha, fun _ => hb, fun h => absurd h (by decide)⟩
      · have hd : (b != 0) = true := by simp [hb]
        simp +contextual -implicitDefEqProofs (maxSteps := 2000000) only [↓wP, wQ, wQ1, wQ2, wQ3, wR, boxE, partsOf, ↓reduceIte, Nat.reduceEqDiff, Nat.reduceAdd, Nat.reduceSub, Nat.reduceLeDiff, Nat.reduceLT, Nat.reduceMul, reduceCtorEq, Int.reduceBNe, Int.reduceBEq, Int.reduceLT, Int.reduceLE, Int.reduceGT, h1, h2, h3, h4, hd, ha, hb]
    | 2, _ =>
      have ha := h5 (by omega)
      have hb := h6 (by omega)
      by_cases hc : c = 0
      · have hd : (c != 0) = false := by simp [hc]
        simp +contextual -implicitDefEqProofs (maxSteps := 2000000) only [↓wP, wQ, wQ1, wQ2, wQ3, wR, boxE, partsOf, ↓reduceIte, Nat.reduceEqDiff, Nat.reduceAdd, Nat.reduceSub, Nat.reduceLeDiff, Nat.reduceLT, Nat.reduceMul, reduceCtorEq, Int.reduceBNe, Int.reduceBEq, Int.reduceLT, Int.reduceLE, Int.reduceGT, h1, h2, h3, h4, hd]
        exact ⟨fun _ => ha, fun _ => hb, fun _ => hc⟩
      · have hd : (c != 0) = true := by simp [hc]
        simp +contextual -implicitDefEqProofs (maxSteps := 2000000) only [↓wP, wQ, wQ1, wQ2, wQ3, wR, boxE, partsOf, ↓reduceIte, Nat.reduceEqDiff, Nat.reduceAdd, Nat.reduceSub, Nat.reduceLeDiff, Nat.reduceLT, Nat.reduceMul, reduceCtorEq, Int.reduceBNe, Int.reduceBEq, Int.reduceLT, Int.reduceLE, Int.reduceGT, h1, h2, h3, h4, hd, ha, hb]
  · intro env σ n ⟨h3, h4, h5, h6, h7⟩ h1 h2
    have ha : a = 0 := h5 (by decide)
    have hb : b = 0 := h6 (by decide)
    have hc : c = 0 := h7 (by decide)
    simp +contextual -implicitDefEqProofs (maxSteps := 2000000) only [↓wP, wQ, wQ1, wQ2, wQ3, wR, boxE, partsOf, ↓reduceIte, Nat.reduceEqDiff, Nat.reduceAdd, Nat.reduceSub, Nat.reduceLeDiff, Nat.reduceLT, Nat.reduceMul, reduceCtorEq, Int.reduceBNe, Int.reduceBEq, Int.reduceLT, Int.reduceLE, Int.reduceGT, h3, ha, hb, hc]
  · simp +contextual -implicitDefEqProofs (maxSteps := 2000000) only [↓wP, wQ, wQ1, wQ2, wQ3, wR, boxE, partsOf, ↓reduceIte, Nat.reduceEqDiff, Nat.reduceAdd, Nat.reduceSub, Nat.reduceLeDiff, Nat.reduceLT, Nat.reduceMul, reduceCtorEq, Int.reduceBNe, Int.reduceBEq, Int.reduceLT, Int.reduceLE, Int.reduceGT]
    exact ⟨fun h => absurd h (by decide), fun h => absurd h (by decide), fun h => absurd h (by decide)⟩
theorem okU_all {l : List Fa} (h : okU l l.length = true) : ∀ f ∈ l, okW f.w = true := by
  intro f hf
  obtain ⟨j, hj, rfl⟩ := List.mem_iff_getElem.1 hf
  have := okU_le (show j + 1 ≤ l.length by omega) h
  obtain ⟨-, h2⟩ := okU_step hj this
  unfold oneF one1 at h2
  simp only [Bool.and_eq_true] at h2
  exact h2.1.1.2
theorem now_all {P : Vc → Prop} {l : List Fa} (h : ∀ f ∈ l, f.w.g = false → P f.w.v) (c t : Int) : ∀ r ∈ nowR l c t, P r.v := by
  have key : ∀ (l : List Fa) (R : List Rw), (∀ f ∈ l, f.w.g = false → P f.w.v) → (∀ r ∈ R, P r.v) → ∀ r ∈ l.foldl (nowStep c t) R, P r.v := by
    intro l
    induction l with
    | nil => intro R _ h; exact h
    | cons f l ih =>
      intro R h1 h2
      refine ih _ (fun g hg => h1 g (List.mem_cons_of_mem _ hg)) ?_
      unfold nowStep ovStep
      split
      · split
        · intro r hr; exact h2 r (mem_delR.1 hr).1
        · rename_i hg
          intro r hr
          rcases mem_putR.1 hr with rfl | hr
          · exact h1 f List.mem_cons_self (by simpa using hg)
          · exact h2 r hr.1
      · exact h2
  exact key l [] h (fun r hr => by simp at hr)
theorem ro_of {R : List Rw} (ha : Asc R) (hv : ∀ r ∈ R, okV r.v = true) : ∀ n, n ≤ R.length → roU R n = true
  | 0, _ => rfl
  | n + 1, hn => by
    rw [roU_step (by omega), ro_of ha hv n (by omega), Bool.true_and]
    unfold roN
    rw [hv _ (List.getElem_mem _), Bool.true_and]
    cases n with
    | zero => rfl
    | succ j =>
      simp only [List.getElem?_eq_getElem (show j < R.length by omega), decide_eq_true_eq]
      unfold Asc at ha
      rw [List.pairwise_iff_getElem] at ha
      exact ha j (j + 1) (by omega) (by omega) (by omega)
theorem now_ro {l : List Fa} (h : rightF l = true) (c t : Int) : roU (nowR l c t) (nowR l c t).length = true := by
  unfold rightF at h
  rw [Bool.and_eq_true, Bool.and_eq_true] at h
  have h2 := okU_all h.1.2
  refine ro_of (nowR_asc _ _ _) (now_all (P := fun v => okV v = true) (fun f hf hg => ?_) c t) _ (Nat.le_refl _)
  have := h2 f hf
  unfold okW at this
  rw [hg] at this
  simp only [Bool.and_eq_true, Bool.false_eq_true, if_false] at this
  exact this.2
def seE (l : List Fa) (v : Vi) : Int := if rightF l = false then 280 else if rightW (lst v.ws) = false then 260 else if collB v.c = false then 2 else 0
def seL (l : List Fa) (v : Vi) : List Rw := if seE l v = 0 then ovR (nowR l v.c v.start) ((lst v.ws).filter fun w => w.c == v.c) else []
def Few60 (l : List Fa) : Prop := l.length ≤ 100 ∧ ∀ f ∈ l, (lst f.w.v).length ≤ 1000000
theorem Few60.few {l : List Fa} (h : Few60 l) : Few l := ⟨by have := h.1; omega, h.2⟩
theorem r34 (l : Option (List Fa)) (v : Vi) (h : Few60 (lst l)) (hw : FitW (lst v.ws)) : res T 34 [slV 5 faV l, viV v] = some (.tup [slV 2 rwV (oL (seL (lst l) v)), .int .i64 (seE (lst l) v)]) := by
  refine run_res (run_pure (fn := g34) rfl rfl (by decide) ?_)
  simp only [g34, b34, oO, oN, mV, lD, gO, pP, qQ, cI, aR]
  have f24' := f24 l h.few.fit.sm
  have hl2 := hw.1
  have f45' := f45 v.ws ⟨by omega, fun x hx => by have := hw.2 x hx; unfold Sm; omega⟩
  have f59' := f59 v.c
  have f60' := fun fs => callE_tr (fs := fs) (by decide) (r60 l v.c v.start h.few) (by simp [Tr, Tr_slV]) (Nw_slV _ _ _ _)
  have hsm : SmRo (lst (oL (nowR (lst l) v.c v.start))) := by
    rw [lst_oL]
    exact ⟨by have := nowR_len (lst l) v.c v.start; have := h.1; omega, nowR_all (P := fun v => (lst v).length ≤ 1000000) h.2 _ _⟩
  have f37' := f37 v.ws v.c (oL (nowR (lst l) v.c v.start)) hw hsm
  rw [lst_oL] at f37'
  have hm44 : T.mode 44 ≠ .raw := by decide
  obtain ⟨c, start, ws⟩ := v
  simp only at *
  unfold seL seE
  simp only
  cases hrf : rightF (lst l)
  · rw [hrf] at f24'
    rw [if_neg (by decide)] at f24'
    have r := r44c 280 (if rightW (lst ws) = true then 0 else 260) (if collB c = true then 0 else 2)
    rw [if_neg (show ¬ (280 : Int) = 0 by decide)] at r
    have z0 : ((280 : Int) != 0) = true := rfl
    simp +contextual -implicitDefEqProofs (maxSteps := 2000000) only [↓wP, wQ, wQ1, wQ2, wQ3, wR, boxE, partsOf, ↓reduceIte, Nat.reduceEqDiff, Nat.reduceAdd, Nat.reduceSub, Nat.reduceLeDiff, Nat.reduceLT, Nat.reduceMul, reduceCtorEq, Int.reduceBNe, Int.reduceBEq, Int.reduceLT, Int.reduceLE, Int.reduceGT, viV_eq, f24', f45', f59', callE_eq hm44, frz_rf, rch_rf, r, z0]
    rfl
  rw [hrf] at f24'
  rw [if_pos rfl] at f24'
  cases hrw : rightW (lst ws)
  · rw [hrw] at f45'
    rw [if_neg (by decide)] at f45'
    have r := r44c 0 260 (if collB c = true then 0 else 2)
    rw [if_pos rfl, if_neg (show ¬ (260 : Int) = 0 by decide)] at r
    have z0 : ((260 : Int) != 0) = true := rfl
    simp +contextual -implicitDefEqProofs (maxSteps := 2000000) only [↓wP, wQ, wQ1, wQ2, wQ3, wR, boxE, partsOf, ↓reduceIte, Nat.reduceEqDiff, Nat.reduceAdd, Nat.reduceSub, Nat.reduceLeDiff, Nat.reduceLT, Nat.reduceMul, reduceCtorEq, Int.reduceBNe, Int.reduceBEq, Int.reduceLT, Int.reduceLE, Int.reduceGT, viV_eq, f24', f45', f59', callE_eq hm44, frz_rf, rch_rf, r, z0]
    rfl
  rw [hrw] at f45'
  rw [if_pos rfl] at f45'
  cases hcc : collB c
  · rw [hcc] at f59'
    rw [if_neg (by decide)] at f59'
    have r := r44c 0 0 2
    rw [if_pos rfl, if_pos rfl] at r
    have z0 : ((2 : Int) != 0) = true := rfl
    simp +contextual -implicitDefEqProofs (maxSteps := 2000000) only [↓wP, wQ, wQ1, wQ2, wQ3, wR, boxE, partsOf, ↓reduceIte, Nat.reduceEqDiff, Nat.reduceAdd, Nat.reduceSub, Nat.reduceLeDiff, Nat.reduceLT, Nat.reduceMul, reduceCtorEq, Int.reduceBNe, Int.reduceBEq, Int.reduceLT, Int.reduceLE, Int.reduceGT, viV_eq, f24', f45', f59', callE_eq hm44, frz_rf, rch_rf, r, z0]
    rfl
  rw [hcc] at f59'
  rw [if_pos rfl] at f59'
  have r := r44c 0 0 0
  rw [if_pos rfl, if_pos rfl] at r
  have z0 : ((0 : Int) != 0) = false := rfl
  have hE : ovE (lst ws) c (nowR (lst l) c start) = 0 := by unfold ovE; rw [hrw, hcc, now_ro hrf]; rfl
  have hL : ovL (lst ws) c (nowR (lst l) c start) = ovR (nowR (lst l) c start) ((lst ws).filter fun w => w.c == c) := by unfold ovL; rw [if_pos hE]
  rw [hE, hL] at f37'
  simp +contextual -implicitDefEqProofs (maxSteps := 2000000) only [↓wP, wQ, wQ1, wQ2, wQ3, wR, boxE, partsOf, ↓reduceIte, Nat.reduceEqDiff, Nat.reduceAdd, Nat.reduceSub, Nat.reduceLeDiff, Nat.reduceLT, Nat.reduceMul, reduceCtorEq, Int.reduceBNe, Int.reduceBEq, Int.reduceLT, Int.reduceLE, Int.reduceGT, viV_eq, f24', f45', f59', callE_eq hm44, frz_rf, rch_rf, r, z0, f60', f37', Nat.mul_zero, Nat.le_refl]
theorem f34 (l : Option (List Fa)) (v : Vi) (h : Few60 (lst l)) (hw : FitW (lst v.ws)) (fs : Bool) (σ : Sto) (n lk : Nat) : callE T fs 34 [slV 5 faV l, viV v] σ n lk = some (.tup [slV 2 rwV (oL (seL (lst l) v)), .int .i64 (seE (lst l) v)], σ, n) :=
  callE_tr (by decide) (r34 l v h hw) (by simp [Tr, Tr_slV, viV_eq]) (by simp [Nw, Nw_slV]) fs σ n lk
def rseL (l : List Fa) (v : Vi) : List Rw := (ovR (stR l v.c v.start) ((lst v.ws).filter fun w => w.c == v.c)).map cpR
theorem r35 (l : Option (List Fa)) (v : Vi) (h : Few60 (lst l)) (hw : FitW (lst v.ws)) : res T 35 [slV 5 faV l, viV v] = some (slV 2 rwV (oL (rseL (lst l) v))) := by
  refine run_res (run_pure (fn := g35) rfl rfl (by decide) ?_)
  simp only [g35, b35, oO, oN, mV, lD, gO, pP, qQ, cI, aR]
  have f32' := f32 l v.c v.start h.few.fit
  have hsm : FitR (lst (oL (stR (lst l) v.c v.start))) := by
    rw [lst_oL]
    refine ⟨by have := stR_len (lst l) v.c v.start; have := h.1; omega, fun r hr => ?_⟩
    rw [stR_now] at hr
    obtain ⟨r', hr', rfl⟩ := List.mem_map.1 hr
    exact nowR_all (P := fun v => (lst v).length ≤ 1000000) h.2 _ _ r' hr'
  have f68' := f68 v.ws v.c (oL (stR (lst l) v.c v.start)) hw hsm
  rw [lst_oL] at f68'
  unfold rseL
  obtain ⟨c, start, ws⟩ := v
  simp only at *
  simp +contextual -implicitDefEqProofs (maxSteps := 2000000) only [↓wP, wQ, wQ1, wQ2, wQ3, wR, boxE, partsOf, ↓reduceIte, Nat.reduceEqDiff, Nat.reduceAdd, Nat.reduceSub, Nat.reduceLeDiff, Nat.reduceLT, Nat.reduceMul, reduceCtorEq, Int.reduceBNe, Int.reduceBEq, Int.reduceLT, Int.reduceLE, Int.reduceGT, viV_eq, f32', f68', Nat.mul_zero, Nat.le_refl]
theorem f35 (l : Option (List Fa)) (v : Vi) (h : Few60 (lst l)) (hw : FitW (lst v.ws)) (fs : Bool) (σ : Sto) (n lk : Nat) : callE T fs 35 [slV 5 faV l, viV v] σ n lk = some (slV 2 rwV (oL (rseL (lst l) v)), σ, n) :=
  callE_tr (by decide) (r35 l v h hw) (by simp [Tr, Tr_slV, viV_eq]) (Nw_slV _ _ _ _) fs σ n lk
def qR (r : Rw) : Int × List Int := (r.id, lst r.v)
theorem q_ins {r r' : Rw} (hr : qR r = qR r') : ∀ {R S : List Rw}, R.map qR = S.map qR → (insR r R).map qR = (insR r' S).map qR
  | [], [], _ => by simp [insR, hr]
  | [], _ :: _, h => by simp at h
  | _ :: _, [], h => by simp at h
  | x :: R, y :: S, h => by
    simp only [List.map_cons, List.cons.injEq] at h
    have e1 : x.id = y.id := by have := h.1; unfold qR at this; simp only [Prod.mk.injEq] at this; exact this.1
    have e2 : r.id = r'.id := by unfold qR at hr; simp only [Prod.mk.injEq] at hr; exact hr.1
    unfold insR
    rw [e1, e2]
    split
    · simp [hr, h.1, h.2]
    · simp only [List.map_cons, h.1, q_ins hr h.2]
theorem q_del (a : Int) : ∀ {R S : List Rw}, R.map qR = S.map qR → (delR R a).map qR = (delR S a).map qR
  | [], [], _ => rfl
  | [], _ :: _, h => by simp at h
  | _ :: _, [], h => by simp at h
  | x :: R, y :: S, h => by
    simp only [List.map_cons, List.cons.injEq] at h
    have e1 : x.id = y.id := by have := h.1; unfold qR at this; simp only [Prod.mk.injEq] at this; exact this.1
    have ih := q_del a h.2
    unfold delR at ih ⊢
    rw [List.filter_cons, List.filter_cons, e1]
    split
    · simp only [List.map_cons, h.1, ih]
    · exact ih
theorem q_put {r r' : Rw} (hr : qR r = qR r') {R S : List Rw} (h : R.map qR = S.map qR) : (putR R r).map qR = (putR S r').map qR := by
  have e2 : r.id = r'.id := by unfold qR at hr; simp only [Prod.mk.injEq] at hr; exact hr.1
  unfold putR
  rw [e2]
  exact q_ins hr (q_del r'.id h)
theorem q_step (w : Wr) {R S : List Rw} (h : R.map qR = S.map qR) : (ovStep R w).map qR = (ovStep S w).map qR := by
  unfold ovStep
  split
  · exact q_del w.id h
  · exact q_put rfl h
theorem q_fold : ∀ (W : List Wr) {R S : List Rw}, R.map qR = S.map qR → (W.foldl ovStep R).map qR = (W.foldl ovStep S).map qR
  | [], _, _, h => h
  | w :: W, _, _, h => q_fold W (q_step w h)
theorem q_rows : ∀ {l m R S : List Rw}, l.map qR = m.map qR → R.map qR = S.map qR → (l.foldl putR R).map qR = (m.foldl putR S).map qR
  | [], [], _, _, _, h => h
  | [], _ :: _, _, _, h, _ => by simp at h
  | _ :: _, [], _, _, h, _ => by simp at h
  | x :: l, y :: m, _, _, h, h' => by
    simp only [List.map_cons, List.cons.injEq] at h
    rw [List.foldl_cons, List.foldl_cons]
    exact q_rows h.2 (q_put h.1 h')
theorem q_ov {l m : List Rw} (h : l.map qR = m.map qR) (W : List Wr) : (ovR l W).map qR = (ovR m W).map qR := by
  unfold ovR
  exact q_fold W (q_rows h rfl)
theorem q_cp (l : List Rw) : (l.map cpR).map qR = l.map qR := by rw [List.map_map]; rfl
theorem same_q' {l m : List Rw} (h : l.map qR = m.map qR) : sameL sameR1 l m = true := same_r h
theorem same_see (l : List Fa) (v : Vi) : sameL sameR1 (ovR (nowR l v.c v.start) ((lst v.ws).filter fun w => w.c == v.c)) (rseL l v) = true := by
  refine same_q' ?_
  unfold rseL
  rw [q_cp]
  refine q_ov ?_ _
  rw [stR_now, q_cp]
end Go.Q.SB
end

section
/- IdealSees, the law. -/
set_option linter.unusedSimpArgs false
set_option linter.unusedVariables false
namespace Go.Q.SB
open Go.Q Go.Sort
theorem cut_len (v : Vc) : (lst (cut v)).length ≤ 5 := by unfold cut; rw [lst_some, List.length_take]; omega
theorem few_len (x : Option (List Fa)) : (lst (cutFs x)).length ≤ 60 ∧ ∀ f ∈ lst (cutFs x), (lst f.w.v).length ≤ 5 := by
  unfold cutFs
  rw [lst_oL]
  refine ⟨by rw [List.length_map, List.length_take]; omega, fun f hf => ?_⟩
  obtain ⟨g, hg, rfl⟩ := List.mem_map.1 hf
  exact cut_len _
theorem few60 (x : Option (List Fa)) : Few60 (lst (cutFs x)) := ⟨by have := (few_len x).1; omega, fun f hf => by have := (few_len x).2 f hf; omega⟩
theorem wrs_len (x : Option (List Wr)) : (lst (cutWs x)).length ≤ 13 ∧ ∀ f ∈ lst (cutWs x), (lst f.v).length ≤ 5 := by
  unfold cutWs
  rw [lst_oL]
  refine ⟨by rw [List.length_map, List.length_take]; omega, fun f hf => ?_⟩
  obtain ⟨g, hg, rfl⟩ := List.mem_map.1 hf
  exact cut_len _
theorem wrs_fit (x : Option (List Wr)) : FitW (lst (cutWs x)) := ⟨by have := (wrs_len x).1; omega, fun f hf => by have := (wrs_len x).2 f hf; omega⟩
def SmVi (v : Vi) : Prop := SmW v.ws
theorem r6 (x : Option (List Fa)) (vs : Option (List Vi)) (hx : SmF x) (hvl : (lst vs).length < 4611686018427387904) (hv : ∀ v ∈ lst vs, SmVi v) : res T 6 [slV 5 faV x, slV 3 viV vs] = some (.bool true) := by
  refine run_res (run_pure (fn := g6) rfl rfl (by decide) ?_)
  simp only [g6, b6, oO, oN, mV, lD, gO, pP, qQ, cI, aR]
  have f10' := f10 x hx
  obtain ⟨l, hl⟩ : ∃ l, l = cutFs x := ⟨_, rfl⟩
  have h60 : Few60 (lst l) := by rw [hl]; exact few60 x
  have hl60 : (lst l).length ≤ 60 := by rw [hl]; exact (few_len x).1
  have hlv : ∀ f ∈ lst l, (lst f.w.v).length ≤ 5 := by rw [hl]; exact (few_len x).2
  rw [← hl] at f10'
  have f15' := f15 l h60.few.fit
  simp +contextual -implicitDefEqProofs (maxSteps := 2000000) only [↓wP, wQ, wQ1, wQ2, wQ3, wR, boxE, partsOf, ↓reduceIte, Nat.reduceEqDiff, Nat.reduceAdd, Nat.reduceSub, Nat.reduceLeDiff, Nat.reduceLT, Nat.reduceMul, reduceCtorEq, Int.reduceBNe, Int.reduceBEq, Int.reduceLT, Int.reduceLE, Int.reduceGT, f9, f10', f15']
  refine WC_for (lst vs).length 0 (fun (j : Nat) env σ n => env 5 = slV 5 faV l ∧ env 6 = .bool (rightF (lst l)) ∧ env 21 = slV 3 viV vs) (by omega) (by decide) (by decide) (fun _ _ => rfl) (fun _ _ _ => rfl) ?_ ?_ _ _ _ rfl rfl ?_
  · intro j env σ n hj h1 h2 ⟨g1, g2, g3⟩
    simp only [vl_tmp] at h2
    have hxj : (lst vs)[j]? = some (lst vs)[j] := List.getElem?_eq_getElem hj
    have hvj := hv _ (List.getElem_mem hj)
    generalize (lst vs)[j] = v at *
    by_cases h8 : j = 8
    · have hd : ((j : Int) == 8) = true := by rw [h8]; rfl
      simp +contextual -implicitDefEqProofs (maxSteps := 2000000) only [↓wP, wQ, wQ1, wQ2, wQ3, wR, boxE, partsOf, ↓reduceIte, Nat.reduceEqDiff, Nat.reduceAdd, Nat.reduceSub, Nat.reduceLeDiff, Nat.reduceLT, Nat.reduceMul, reduceCtorEq, Int.reduceBNe, Int.reduceBEq, Int.reduceLT, Int.reduceLE, Int.reduceGT, h1, h2, g1, g2, g3, hxj, viV_eq, hd]
    have hd : ((j : Int) == 8) = false := by simp; omega
    obtain ⟨c, start, ws⟩ := v
    have f12' := f12 ws hvj
    obtain ⟨w, hw⟩ : ∃ w, w = cutWs ws := ⟨_, rfl⟩
    rw [← hw] at f12'
    have hwf : FitW (lst w) := by rw [hw]; exact wrs_fit ws
    have hsw : SmW w := ⟨by have := hwf.1; omega, fun x hx => by have := hwf.2 x hx; unfold Sm; omega⟩
    have f16' := f16 w hsw
    have f27' := f27 c
    have f34' := f34 l ⟨c, start, w⟩ h60 hwf
    have f35' := f35 l ⟨c, start, w⟩ h60 hwf
    have f21' := f21 l start w h60.few.fit hwf
    have f36' := f36 l start w (by omega) (by have := hwf.1; omega)
    rw [viV_eq] at f34' f35'
    simp only at f34' f35'
    obtain ⟨σ1, hσ1⟩ : ∃ σ1, σ1 = upd (upd (upd σ n (some (.row 3 [.agg [.int .i64 0, .int .u64 0, .nilS]]))) n (some (.row 3 [.agg [.int .i64 c, .int .u64 start, slV 4 wrV ws]]))) n (some (.row 3 [.agg [.int .i64 c, .int .u64 start, slV 4 wrV w]])) := ⟨_, rfl⟩
    have sn : σ1 n = some (.row 3 [.agg [.int .i64 c, .int .u64 start, slV 4 wrV w]]) := by rw [hσ1, upd_self]
    obtain ⟨E, hE⟩ : ∃ E, E = seE (lst l) ⟨c, start, w⟩ := ⟨_, rfl⟩
    obtain ⟨G, hG⟩ : ∃ G, G = cfE (lst l) (lst w) := ⟨_, rfl⟩
    obtain ⟨L, hL⟩ : ∃ L, L = seL (lst l) ⟨c, start, w⟩ := ⟨_, rfl⟩
    obtain ⟨B, hB⟩ : ∃ B, B = cfB (lst l) start (lst w) := ⟨_, rfl⟩
    rw [← hE, ← hL] at f34'
    rw [← hG, ← hB] at f21'
    unfold seL at hL
    rw [← hE] at hL
    unfold cfB at hB
    rw [← hG] at hB
    unfold seE at hE
    unfold cfE at hG
    simp only at hE hL
    have hz : (((lst (oL ([] : List Rw))).length : Int) != 0) = false := rfl
    cases hR : rightF (lst l)
    · rw [hR] at hE hG g2
      rw [if_pos rfl] at hE hG
      rw [hE, if_neg (by decide)] at hL
      rw [hG, if_neg (by decide)] at hB
      rw [hE, hL] at f34'
      rw [hG, hB] at f21'
      simp +contextual -implicitDefEqProofs (maxSteps := 2000000) only [↓wP, wQ, wQ1, wQ2, wQ3, wR, boxE, partsOf, ↓reduceIte, Nat.reduceEqDiff, Nat.reduceAdd, Nat.reduceSub, Nat.reduceLeDiff, Nat.reduceLT, Nat.reduceMul, reduceCtorEq, Int.reduceBNe, Int.reduceBEq, Int.reduceLT, Int.reduceLE, Int.reduceGT, h1, h2, g1, g2, g3, hxj, viV_eq, hd, f12', ← hσ1, sn, f34', f21', f16', f27', hz]
    rw [hR] at hE hG g2
    rw [if_neg (by decide)] at hE hG
    cases hRW : rightW (lst w)
    · rw [hRW] at hE hG f16'
      rw [if_pos rfl] at hE hG
      rw [hE, if_neg (by decide)] at hL
      rw [hG, if_neg (by decide)] at hB
      rw [hE, hL] at f34'
      rw [hG, hB] at f21'
      simp +contextual -implicitDefEqProofs (maxSteps := 2000000) only [↓wP, wQ, wQ1, wQ2, wQ3, wR, boxE, partsOf, ↓reduceIte, Nat.reduceEqDiff, Nat.reduceAdd, Nat.reduceSub, Nat.reduceLeDiff, Nat.reduceLT, Nat.reduceMul, reduceCtorEq, Int.reduceBNe, Int.reduceBEq, Int.reduceLT, Int.reduceLE, Int.reduceGT, h1, h2, g1, g2, g3, hxj, viV_eq, hd, f12', ← hσ1, sn, f34', f21', f16', f27', hz]
    rw [hRW] at hE hG f16'
    rw [if_neg (by decide)] at hE hG
    rw [hG, if_pos rfl] at hB
    have hbb : ((B == B) != true) = false := by simp
    rw [← hB] at f36'
    rw [hG] at f21'
    cases hcc : collB c
    · rw [hcc] at hE f27'
      rw [if_pos rfl] at hE
      rw [hE, if_neg (by decide)] at hL
      rw [hE, hL] at f34'
      simp +contextual -implicitDefEqProofs (maxSteps := 2000000) only [↓wP, wQ, wQ1, wQ2, wQ3, wR, boxE, partsOf, ↓reduceIte, Nat.reduceEqDiff, Nat.reduceAdd, Nat.reduceSub, Nat.reduceLeDiff, Nat.reduceLT, Nat.reduceMul, reduceCtorEq, Int.reduceBNe, Int.reduceBEq, Int.reduceLT, Int.reduceLE, Int.reduceGT, h1, h2, g1, g2, g3, hxj, viV_eq, hd, f12', ← hσ1, sn, f34', f21', f16', f27', hz, f36', hbb]
    rw [hcc] at hE f27'
    rw [if_neg (by decide)] at hE
    rw [hE, if_pos rfl] at hL
    rw [hE] at f34'
    have hLn : L.length ≤ 200 := by
      have h1 := ovR_len (nowR (lst l) c start) ((lst w).filter fun x => x.c == c)
      have h2 := List.length_filter_le (fun x : Wr => x.c == c) (lst w)
      have h3 := nowR_len (lst l) c start
      have h4 : (lst w).length ≤ 13 := by rw [hw]; exact (wrs_len ws).1
      rw [hL]; omega
    have hwv : ∀ x ∈ lst w, (lst x.v).length ≤ 5 := by rw [hw]; exact (wrs_len ws).2
    have hLv : ∀ r ∈ L, (lst r.v).length ≤ 5 := by
      rw [hL]
      exact ovR_all (P := fun v => (lst v).length ≤ 5) (nowR_all (P := fun v => (lst v).length ≤ 5) hlv c start) (fun x hx => hwv x (List.mem_filter.1 hx).1)
    have hsame := same_see (lst l) ⟨c, start, w⟩
    simp only at hsame
    rw [← hL] at hsame
    have hRl : (rseL (lst l) ⟨c, start, w⟩).length = L.length := by
      have : L.length = (rseL (lst l) ⟨c, start, w⟩).length := by
        unfold sameL at hsame
        simp only [Bool.and_eq_true, decide_eq_true_eq] at hsame
        exact hsame.1
      exact this.symm
    have hRv : ∀ r ∈ rseL (lst l) ⟨c, start, w⟩, (lst r.v).length ≤ 5 := by
      intro r hr
      unfold rseL at hr
      obtain ⟨r', hr', rfl⟩ := List.mem_map.1 hr
      refine ovR_all (P := fun v => (lst v).length ≤ 5) (fun r hr => ?_) (fun x hx => hwv x (List.mem_filter.1 hx).1) r' hr'
      rw [stR_now] at hr
      obtain ⟨r'', hr'', rfl⟩ := List.mem_map.1 hr
      exact nowR_all (P := fun v => (lst v).length ≤ 5) hlv _ _ r'' hr''
    have f31' := f31 (oL L) (oL (rseL (lst l) ⟨c, start, w⟩)) ⟨by rw [lst_oL]; omega, fun r hr => by rw [lst_oL] at hr; have := hLv r hr; unfold Sm; omega⟩ ⟨by rw [lst_oL]; omega, fun r hr => by rw [lst_oL] at hr; have := hRv r hr; unfold Sm; omega⟩
    rw [lst_oL, lst_oL, hsame] at f31'
    simp +contextual -implicitDefEqProofs (maxSteps := 2000000) only [↓wP, wQ, wQ1, wQ2, wQ3, wR, boxE, partsOf, ↓reduceIte, Nat.reduceEqDiff, Nat.reduceAdd, Nat.reduceSub, Nat.reduceLeDiff, Nat.reduceLT, Nat.reduceMul, reduceCtorEq, Int.reduceBNe, Int.reduceBEq, Int.reduceLT, Int.reduceLE, Int.reduceGT, h1, h2, g1, g2, g3, hxj, viV_eq, hd, f12', ← hσ1, sn, f34', f21', f16', f27', hz, f36', hbb, f35', f31']
  · intro env σ n ⟨g1, _⟩ h1 h2
    simp +contextual -implicitDefEqProofs (maxSteps := 2000000) only [↓wP, wQ, wQ1, wQ2, wQ3, wR, boxE, partsOf, ↓reduceIte, Nat.reduceEqDiff, Nat.reduceAdd, Nat.reduceSub, Nat.reduceLeDiff, Nat.reduceLT, Nat.reduceMul, reduceCtorEq, Int.reduceBNe, Int.reduceBEq, Int.reduceLT, Int.reduceLE, Int.reduceGT]
  · exact ⟨rfl, rfl, rfl⟩
end Go.Q.SB
end

section
/- The arguments of seat 18's statements, as trees. -/
set_option linter.unusedSimpArgs false
set_option linter.unusedVariables false
set_option maxRecDepth 20000
namespace Go.Q.SB
open Go.Q Go.Proofs
def eI32 : Enc Try.prog 21 Int := Enc.int .i32 Try.underlying21
def eInt : Enc Try.prog 3 Int := Enc.int .i64 Try.underlying3
def eU64 : Enc Try.prog 26 Int := Enc.int .u64 Try.underlying26
def eBool : Enc Try.prog 4 Bool := Enc.bool Try.underlying4
def eVec : Enc Try.prog 39 (Option (List Int)) := Enc.slice eI32 Try.underlying39 1 (by kernel_rfl) (by decide) 4 (by kernel_rfl)
theorem okVec {o : Option (List Int)} (h : eVec.ok o) : (lst o).length < 4611686018427387904 := by
  cases o with
  | none => simp [lst]
  | some l =>
    obtain ⟨h1, h2, h3⟩ := h l rfl
    rw [reach_eq] at h2
    rw [lst_some]
    omega
def eWr : Enc Try.prog 41 Wr := Enc.map
  (Enc.struct (EncF.cons (off := 0) (sz := 1) eInt rfl (by kernel_rfl) (EncF.cons (sz := 1) eU64 rfl (by kernel_rfl) (EncF.cons (sz := 1) eBool rfl (by kernel_rfl) (EncF.cons (sz := 1) eVec rfl (by kernel_rfl) EncF.nil)))) Try.underlying41 (by kernel_rfl))
  (fun x => ⟨x.1, x.2.1, x.2.2.1, x.2.2.2.1⟩) wrV (fun r => Sm r.v) (fun a _ => by obtain ⟨a, b, c, d, u⟩ := a; cases d <;> rfl) (fun a h => by have := okVec h.2.2.2.1; unfold Sm; dsimp only at this ⊢; omega)
def eWrs : Enc Try.prog 27 (Option (List Wr)) := Enc.slice eWr Try.underlying27 4 (by kernel_rfl) (by decide) 48 (by kernel_rfl)
theorem okWrs {o : Option (List Wr)} (h : eWrs.ok o) : SmW o := by
  cases o with
  | none => exact ⟨by simp [lst], by simp [lst]⟩
  | some l =>
    obtain ⟨h1, h2, h3⟩ := h l rfl
    rw [reach_eq] at h2
    exact ⟨by rw [lst_some]; omega, fun r hr => h3 r hr⟩
def eFa : Enc Try.prog 43 Fa := Enc.map
  (Enc.struct (EncF.cons (off := 0) (sz := 1) eU64 rfl (by kernel_rfl) (EncF.cons (sz := 4) eWr rfl (by kernel_rfl) EncF.nil)) Try.underlying43 (by kernel_rfl))
  (fun x => ⟨x.1, x.2.1⟩) faV (fun r => Sm r.w.v) (fun a _ => by obtain ⟨a, b, u⟩ := a; cases b; rfl) (fun a h => h.2.1)
def eFas : Enc Try.prog 22 (Option (List Fa)) := Enc.slice eFa Try.underlying22 5 (by kernel_rfl) (by decide) 56 (by kernel_rfl)
theorem okFas {o : Option (List Fa)} (h : eFas.ok o) : SmF o := by
  cases o with
  | none => exact ⟨by simp [lst], by simp [lst]⟩
  | some l =>
    obtain ⟨h1, h2, h3⟩ := h l rfl
    rw [reach_eq] at h2
    exact ⟨by rw [lst_some]; omega, fun r hr => h3 r hr⟩
def eVi : Enc Try.prog 66 Vi := Enc.map
  (Enc.struct (EncF.cons (off := 0) (sz := 1) eInt rfl (by kernel_rfl) (EncF.cons (sz := 1) eU64 rfl (by kernel_rfl) (EncF.cons (sz := 1) eWrs rfl (by kernel_rfl) EncF.nil))) Try.underlying66 (by kernel_rfl))
  (fun x => ⟨x.1, x.2.1, x.2.2.1⟩) viV (fun r => SmVi r) (fun a _ => by obtain ⟨a, b, c, u⟩ := a; cases c <;> rfl) (fun a h => okWrs h.2.2.1)
def eVis : Enc Try.prog 64 (Option (List Vi)) := Enc.slice eVi Try.underlying64 3 (by kernel_rfl) (by decide) 40 (by kernel_rfl)
theorem okVis {o : Option (List Vi)} (h : eVis.ok o) : (lst o).length < 4611686018427387904 ∧ ∀ c ∈ lst o, SmVi c := by
  cases o with
  | none => exact ⟨by simp [lst], by simp [lst]⟩
  | some l =>
    obtain ⟨h1, h2, h3⟩ := h l rfl
    rw [reach_eq] at h2
    exact ⟨by rw [lst_some]; omega, fun r hr => h3 r hr⟩
end Go.Q.SB
end

section
/- The table is the program's. -/
namespace Go.Q.SB
open Go.Proofs
def Has (f : Nat) (fn : Fn) : Prop := ∃ F, Try.prog.funcs[f]? = some F ∧ cFunc Try.prog (ownB T) F = some fn ∧ (F.name == "runtime.NumGoroutine") = false
theorem h6 : Has 6 g6 := ⟨Try.f6, Try.func6, by kernel_rfl, by kernel_rfl⟩
theorem h9 : Has 9 g9 := ⟨Try.f9, Try.func9, by kernel_rfl, by kernel_rfl⟩
theorem h10 : Has 10 g10 := ⟨Try.f10, Try.func10, by kernel_rfl, by kernel_rfl⟩
theorem h12 : Has 12 g12 := ⟨Try.f12, Try.func12, by kernel_rfl, by kernel_rfl⟩
theorem h13 : Has 13 g13 := ⟨Try.f13, Try.func13, by kernel_rfl, by kernel_rfl⟩
theorem h15 : Has 15 g15 := ⟨Try.f15, Try.func15, by kernel_rfl, by kernel_rfl⟩
theorem h16 : Has 16 g16 := ⟨Try.f16, Try.func16, by kernel_rfl, by kernel_rfl⟩
theorem h21 : Has 21 g21 := ⟨Try.f21, Try.func21, by kernel_rfl, by kernel_rfl⟩
theorem h22 : Has 22 g22 := ⟨Try.f22, Try.func22, by kernel_rfl, by kernel_rfl⟩
theorem h24 : Has 24 g24 := ⟨Try.f24, Try.func24, by kernel_rfl, by kernel_rfl⟩
theorem h27 : Has 27 g27 := ⟨Try.f27, Try.func27, by kernel_rfl, by kernel_rfl⟩
theorem h30 : Has 30 g30 := ⟨Try.f30, Try.func30, by kernel_rfl, by kernel_rfl⟩
theorem h31 : Has 31 g31 := ⟨Try.f31, Try.func31, by kernel_rfl, by kernel_rfl⟩
theorem h32 : Has 32 g32 := ⟨Try.f32, Try.func32, by kernel_rfl, by kernel_rfl⟩
theorem h34 : Has 34 g34 := ⟨Try.f34, Try.func34, by kernel_rfl, by kernel_rfl⟩
theorem h35 : Has 35 g35 := ⟨Try.f35, Try.func35, by kernel_rfl, by kernel_rfl⟩
theorem h36 : Has 36 g36 := ⟨Try.f36, Try.func36, by kernel_rfl, by kernel_rfl⟩
theorem h37 : Has 37 g37 := ⟨Try.f37, Try.func37, by kernel_rfl, by kernel_rfl⟩
theorem h43 : Has 43 g43 := ⟨Try.f43, Try.func43, by kernel_rfl, by kernel_rfl⟩
theorem h44 : Has 44 g44 := ⟨Try.f44, Try.func44, by kernel_rfl, by kernel_rfl⟩
theorem h45 : Has 45 g45 := ⟨Try.f45, Try.func45, by kernel_rfl, by kernel_rfl⟩
theorem h46 : Has 46 g46 := ⟨Try.f46, Try.func46, by kernel_rfl, by kernel_rfl⟩
theorem h47 : Has 47 g47 := ⟨Try.f47, Try.func47, by kernel_rfl, by kernel_rfl⟩
theorem h48 : Has 48 g48 := ⟨Try.f48, Try.func48, by kernel_rfl, by kernel_rfl⟩
theorem h49 : Has 49 g49 := ⟨Try.f49, Try.func49, by kernel_rfl, by kernel_rfl⟩
theorem h50 : Has 50 g50 := ⟨Try.f50, Try.func50, by kernel_rfl, by kernel_rfl⟩
theorem h51 : Has 51 g51 := ⟨Try.f51, Try.func51, by kernel_rfl, by kernel_rfl⟩
theorem h52 : Has 52 g52 := ⟨Try.f52, Try.func52, by kernel_rfl, by kernel_rfl⟩
theorem h53 : Has 53 g53 := ⟨Try.f53, Try.func53, by kernel_rfl, by kernel_rfl⟩
theorem h54 : Has 54 g54 := ⟨Try.f54, Try.func54, by kernel_rfl, by kernel_rfl⟩
theorem h56 : Has 56 g56 := ⟨Try.f56, Try.func56, by kernel_rfl, by kernel_rfl⟩
theorem h57 : Has 57 g57 := ⟨Try.f57, Try.func57, by kernel_rfl, by kernel_rfl⟩
theorem h58 : Has 58 g58 := ⟨Try.f58, Try.func58, by kernel_rfl, by kernel_rfl⟩
theorem h59 : Has 59 g59 := ⟨Try.f59, Try.func59, by kernel_rfl, by kernel_rfl⟩
theorem h60 : Has 60 g60 := ⟨Try.f60, Try.func60, by kernel_rfl, by kernel_rfl⟩
theorem h62 : Has 62 g62 := ⟨Try.f62, Try.func62, by kernel_rfl, by kernel_rfl⟩
theorem h65 : Has 65 g65 := ⟨Try.f65, Try.func65, by kernel_rfl, by kernel_rfl⟩
theorem h67 : Has 67 g67 := ⟨Try.f67, Try.func67, by kernel_rfl, by kernel_rfl⟩
theorem h68 : Has 68 g68 := ⟨Try.f68, Try.func68, by kernel_rfl, by kernel_rfl⟩
theorem h69 : Has 69 g69 := ⟨Try.f69, Try.func69, by kernel_rfl, by kernel_rfl⟩
theorem h70 : Has 70 g70 := ⟨Try.f70, Try.func70, by kernel_rfl, by kernel_rfl⟩
theorem h71 : Has 71 g71 := ⟨Try.f71, Try.func71, by kernel_rfl, by kernel_rfl⟩
theorem h72 : Has 72 g72 := ⟨Try.f72, Try.func72, by kernel_rfl, by kernel_rfl⟩
theorem h73 : Has 73 g73 := ⟨Try.f73, Try.func73, by kernel_rfl, by kernel_rfl⟩
theorem h74 : Has 74 g74 := ⟨Try.f74, Try.func74, by kernel_rfl, by kernel_rfl⟩
theorem h75 : Has 75 g75 := ⟨Try.f75, Try.func75, by kernel_rfl, by kernel_rfl⟩
theorem h76 : Has 76 g76 := ⟨Try.f76, Try.func76, by kernel_rfl, by kernel_rfl⟩
theorem h77 : Has 77 g77 := ⟨Try.f77, Try.func77, by kernel_rfl, by kernel_rfl⟩
theorem h92 : Has 92 g92 := ⟨Try.f92, Try.func92, by kernel_rfl, by kernel_rfl⟩
theorem h93 : Has 93 g93 := ⟨Try.f93, Try.func93, by kernel_rfl, by kernel_rfl⟩
theorem h94 : Has 94 g94 := ⟨Try.f94, Try.func94, by kernel_rfl, by kernel_rfl⟩
theorem h95 : Has 95 g95 := ⟨Try.f95, Try.func95, by kernel_rfl, by kernel_rfl⟩
theorem h96 : Has 96 g96 := ⟨Try.f96, Try.func96, by kernel_rfl, by kernel_rfl⟩
theorem h97 : Has 97 g97 := ⟨Try.f97, Try.func97, by kernel_rfl, by kernel_rfl⟩
theorem h98 : Has 98 g98 := ⟨Try.f98, Try.func98, by kernel_rfl, by kernel_rfl⟩
theorem h99 : Has 99 g99 := ⟨Try.f99, Try.func99, by kernel_rfl, by kernel_rfl⟩
theorem h100 : Has 100 g100 := ⟨Try.f100, Try.func100, by kernel_rfl, by kernel_rfl⟩
theorem h101 : Has 101 g101 := ⟨Try.f101, Try.func101, by kernel_rfl, by kernel_rfl⟩
theorem h102 : Has 102 g102 := ⟨Try.f102, Try.func102, by kernel_rfl, by kernel_rfl⟩
theorem h103 : Has 103 g103 := ⟨Try.f103, Try.func103, by kernel_rfl, by kernel_rfl⟩
theorem h104 : Has 104 g104 := ⟨Try.f104, Try.func104, by kernel_rfl, by kernel_rfl⟩
theorem h105 : Has 105 g105 := ⟨Try.f105, Try.func105, by kernel_rfl, by kernel_rfl⟩
theorem h109 : Has 109 g109 := ⟨Try.f109, Try.func109, by kernel_rfl, by kernel_rfl⟩
theorem h110 : Has 110 g110 := ⟨Try.f110, Try.func110, by kernel_rfl, by kernel_rfl⟩
theorem h111 : Has 111 g111 := ⟨Try.f111, Try.func111, by kernel_rfl, by kernel_rfl⟩
theorem h112 : Has 112 g112 := ⟨Try.f112, Try.func112, by kernel_rfl, by kernel_rfl⟩
theorem h113 : Has 113 g113 := ⟨Try.f113, Try.func113, by kernel_rfl, by kernel_rfl⟩
theorem h114 : Has 114 g114 := ⟨Try.f114, Try.func114, by kernel_rfl, by kernel_rfl⟩
theorem h115 : Has 115 g115 := ⟨Try.f115, Try.func115, by kernel_rfl, by kernel_rfl⟩
theorem h116 : Has 116 g116 := ⟨Try.f116, Try.func116, by kernel_rfl, by kernel_rfl⟩
theorem h117 : Has 117 g117 := ⟨Try.f117, Try.func117, by kernel_rfl, by kernel_rfl⟩
theorem h118 : Has 118 g118 := ⟨Try.f118, Try.func118, by kernel_rfl, by kernel_rfl⟩
theorem h119 : Has 119 g119 := ⟨Try.f119, Try.func119, by kernel_rfl, by kernel_rfl⟩
theorem h120 : Has 120 g120 := ⟨Try.f120, Try.func120, by kernel_rfl, by kernel_rfl⟩
theorem h121 : Has 121 g121 := ⟨Try.f121, Try.func121, by kernel_rfl, by kernel_rfl⟩
theorem h122 : Has 122 g122 := ⟨Try.f122, Try.func122, by kernel_rfl, by kernel_rfl⟩
theorem h123 : Has 123 g123 := ⟨Try.f123, Try.func123, by kernel_rfl, by kernel_rfl⟩
theorem h124 : Has 124 g124 := ⟨Try.f124, Try.func124, by kernel_rfl, by kernel_rfl⟩
theorem h125 : Has 125 g125 := ⟨Try.f125, Try.func125, by kernel_rfl, by kernel_rfl⟩
theorem h126 : Has 126 g126 := ⟨Try.f126, Try.func126, by kernel_rfl, by kernel_rfl⟩
theorem h127 : Has 127 g127 := ⟨Try.f127, Try.func127, by kernel_rfl, by kernel_rfl⟩
theorem h128 : Has 128 g128 := ⟨Try.f128, Try.func128, by kernel_rfl, by kernel_rfl⟩
theorem tabOf : TabOf Try.prog T := by
  intro f fn h
  simp only [T] at h
  unfold fnOf at h
  split at h
  all_goals first | (cases h; done) | skip
  all_goals (simp only [Option.some.injEq] at h; subst h)
  · exact h6
  · exact h9
  · exact h10
  · exact h12
  · exact h13
  · exact h15
  · exact h16
  · exact h21
  · exact h22
  · exact h24
  · exact h27
  · exact h30
  · exact h31
  · exact h32
  · exact h34
  · exact h35
  · exact h36
  · exact h37
  · exact h43
  · exact h44
  · exact h45
  · exact h46
  · exact h47
  · exact h48
  · exact h49
  · exact h50
  · exact h51
  · exact h52
  · exact h53
  · exact h54
  · exact h56
  · exact h57
  · exact h58
  · exact h59
  · exact h60
  · exact h62
  · exact h65
  · exact h67
  · exact h68
  · exact h69
  · exact h70
  · exact h71
  · exact h72
  · exact h73
  · exact h74
  · exact h75
  · exact h76
  · exact h77
  · exact h92
  · exact h93
  · exact h94
  · exact h95
  · exact h96
  · exact h97
  · exact h98
  · exact h99
  · exact h100
  · exact h101
  · exact h102
  · exact h103
  · exact h104
  · exact h105
  · exact h109
  · exact h110
  · exact h111
  · exact h112
  · exact h113
  · exact h114
  · exact h115
  · exact h116
  · exact h117
  · exact h118
  · exact h119
  · exact h120
  · exact h121
  · exact h122
  · exact h123
  · exact h124
  · exact h125
  · exact h126
  · exact h127
  · exact h128
theorem mixed : Try.prog.follows .mixedOrders = true := by kernel_rfl
end Go.Q.SB
end
