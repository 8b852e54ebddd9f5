/- Small sorts, a part turned round, patterns broken. -/
import Derived.Test.YtppdkahgmojipaaSA
import Derived.Test.YtppdkahgmojipaaProg
import Derived.KernelRfl
set_option linter.unusedVariables false
set_option linter.unusedSimpArgs false
set_option linter.unusedSectionVars false
set_option linter.defProp false
section
namespace Go.Q.SV
open Go.Q Go.Sort
variable {fr : Fr} [Inhabited (Rq fr)]
def At (σ σ0 : Sto) (id : Nat) (d : Array (Rq fr)) : Prop := Hs fr σ id d ∧ ∀ i, i ≠ id → σ i = σ0 i
theorem rw_set {d : Array (Rq fr)} {i : Nat} {x : Rq fr} : (rq' d).set i (.agg [.int .u64 x.id, .ref x.k 0 x.n 1]) = rq' (d.setIfInBounds i x) := by
 unfold rq'
 rw [Array.toList_setIfInBounds, List.map_set]
 rfl
theorem rw_set_at {d : Array (Rq fr)} {i j : Nat} {x : Rq fr} (hj : j < d.size) : ∃ (u : Int) (w m : Nat), ((rq' d).set i (.agg [.int .u64 x.id, .ref x.k 0 x.n 1]))[j]? = some (.agg [.int .u64 u, .ref w 0 m 1]) := by
 rw [rw_set, rq_at (by simpa using hj)]
 exact ⟨_, _, _, rfl⟩
theorem rw_swp (d : Array (Rq fr)) (i j : Nat) : ((rq' d).set i (.agg [.int .u64 (d[j]!).id, .ref (d[j]!).k 0 (d[j]!).n 1])).set j (.agg [.int .u64 (d[i]!).id, .ref (d[i]!).k 0 (d[i]!).n 1]) = rq' (swp d i j) := by
 rw [rw_set, rw_set]
 rfl
theorem At.swp {σ σ0 : Sto} {id : Nat} {d : Array (Rq fr)} (h : At σ σ0 id d) (i j : Nat) :
 At (upd (upd σ id (some (.row 2 ((rq' d).set i (.agg [.int .u64 (d[j]!).id, .ref (d[j]!).k 0 (d[j]!).n 1]))))) id
  (some (.row 2 (((rq' d).set i (.agg [.int .u64 (d[j]!).id, .ref (d[j]!).k 0 (d[j]!).n 1])).set j (.agg [.int .u64 (d[i]!).id, .ref (d[i]!).k 0 (d[i]!).n 1]))))) σ0 id (swp d i j) := by
 refine ⟨⟨?_, h.1.2.1, fun k hk => ?_⟩, fun k hk => ?_⟩
 ·simp only [upd, if_true, rw_swp]
 ·have hk' : k ≠ id := by omega
  simp only [upd, hk', if_false]; exact h.1.2.2 k hk
 ·simp only [upd, hk, if_false, h.2 k hk]
theorem At.refl {σ : Sto} {id : Nat} {d : Array (Rq fr)} (h : Hs fr σ id d) : At σ σ id d := ⟨h, fun _ _ => rfl⟩
theorem insIn_lt {lt : Rq fr → Rq fr → Bool} {a j : Nat} {d : Array (Rq fr)} (h : a < j + 1) (hl : lt d[j + 1]! d[j]! = true) : insInner lt a (j + 1) d = insInner lt a j (Go.Sort.swp d (j + 1) j) := by
 rw [insInner]; simp [h, hl]
theorem insIn_stop {lt : Rq fr → Rq fr → Bool} {a j : Nat} {d : Array (Rq fr)} (h : j ≤ a ∨ (0 < j ∧ lt d[j]! d[j - 1]! = false)) : insInner lt a j d = d := by
 cases j with
 | zero => rfl
 | succ j =>
   rw [insInner]
   rcases h with h | h
   ·have : ¬ a < j + 1 := by omega
    simp [this]
   ·simp only [Nat.add_sub_cancel] at h
    simp [h.2]
theorem raw71 (F : Nat) (hF : CmpQ fr F) (d : Array (Rq fr)) (a b id n : Nat) (σ : Sto) (hab : a ≤ b) (hb : b ≤ d.size) (hn : d.size < 1000000) (hσ : Hs fr σ id d) {Q : V → Sto → Nat → Prop}
 (hQ : ∀ σ', At σ' σ id (insertionSort ahQ d a b) → Q .undef σ' n) :
 run T (.raw 71 [.ref id 0 d.size 2, .int .i64 (a : Int), .int .i64 (b : Int), .fn F []] σ n 0) (memQ Q) := by
 refine run_rawE (fn := g71) rfl rfl ?_
 simp only [g71, b71, zO, zN, zM, zL, zG, zP, zQ, zI, zA, zT, zF, zB, zC, zD, zE, zH, zJ, zK]
 have w1 : IntKind.i64.wrap ((a : Int) + 1) = ((a + 1 : Nat) : Int) := by rw [wrap_i64] <;> omega
 generalize hsz : d.size = N at *
 simp +contextual -implicitDefEqProofs (maxSteps := 2000000) only [↓wP, wS, seval, w1]
 refine WC_loopI 0 (fun (s : Nat × Array (Rq fr)) env σ' n' => n' = n ∧ env 0 = .ref id 0 N 2 ∧ env 1 = .int .i64 (a : Int) ∧ env 2 = .int .i64 (b : Int) ∧ env 3 = .fn F [] ∧ env 8 = .int .i64 (s.1 : Int) ∧
  a < s.1 ∧ (s.1 ≤ b ∨ s.1 = a + 1) ∧ s.2.size = N ∧ At σ' σ id s.2 ∧ insOuter ahQ a b s.1 s.2 = insertionSort ahQ d a b) (fun s => b + 1 - s.1) ?_ (a + 1, d) _ _ _ ?_
 ·intro ⟨i, e⟩ env σ1 n1 ⟨h1, h2, h3, h4, h5, h6, h7, h8, h9, h10, h11⟩
  subst h1
  simp only at h6 h7 h8 h9 h10 h11
  by_cases hlt : i < b
  ·have w2 : IntKind.i64.wrap ((i : Int) + 1) = ((i + 1 : Nat) : Int) := by rw [wrap_i64] <;> omega
   have hlt' : (i : Int) < (b : Int) := by omega
   rw [insOuter, if_pos hlt] at h11
   simp +contextual -implicitDefEqProofs (maxSteps := 2000000) only [↓wP, wS, seval, h2, h3, h4, h5, h6, hlt']
   refine WC_loopI 0 (fun (s : Nat × Array (Rq fr)) env σ' n' => n' = n1 ∧ env 0 = .ref id 0 N 2 ∧ env 1 = .int .i64 (a : Int) ∧ env 2 = .int .i64 (b : Int) ∧ env 3 = .fn F [] ∧ env 8 = .int .i64 (i : Int) ∧ env 9 = .int .i64 (s.1 : Int) ∧
    s.1 ≤ i ∧ s.2.size = N ∧ At σ' σ id s.2 ∧ insInner ahQ a s.1 s.2 = insInner ahQ a i e) (fun s => s.1) ?_ (i, e) _ _ _ ?_
   ·clear h2 h3 h4 h5 h6 h10
    intro ⟨j, g⟩ env σ2 n2 ⟨k1, k2, k3, k4, k5, k6, k7, k8, k9, k10, k11⟩
    subst k1
    simp only at k7 k8 k9 k10 k11
    have hat := k10.1.1
    have hFq := hF.at k10.1
    by_cases hja : a < j
    ·obtain ⟨j, rfl⟩ : ∃ j', j = j' + 1 := ⟨j - 1, by omega⟩
     have hja' : (a : Int) < ((j + 1 : Nat) : Int) := by omega
     have w3 : IntKind.i64.wrap (((j + 1 : Nat) : Int) - 1) = (j : Int) := by rw [wrap_i64] <;> omega
     have x1 := rq_at (d := g) (i := j + 1) (by omega)
     have x2 := rq_at (d := g) (i := j) (by omega)
     have l1 : j + 1 < N := by omega
     have l2 : j < N := by omega
     by_cases hc : cmpU (g[j + 1]!).id (g[j]!).id < 0
     ·have hah : ahQ g[j + 1]! g[j]! = true := by rw [← cmpQ_lt]; simpa using hc
      obtain ⟨u, v, v', x3⟩ := rw_set_at (d := g) (i := j + 1) (j := j) (x := g[j]!) (by omega)
      simp +contextual -implicitDefEqProofs (maxSteps := 2000000) only [↓wP, wS, seval, k2, k3, k4, k5, k6, k7, hja', w3, hat, l1, l2, x1, x2, x3, hFq, hc]
      refine ⟨(j, swp g (j + 1) j), by dsimp only; omega, rfl, by dsimp only; omega, by rw [swp_size, k9], k10.swp _ _, ?_⟩
      dsimp only
      rw [← insIn_lt hja hah]
      exact k11
     ·have hah : ahQ g[j + 1]! g[j]! = false := by rw [← cmpQ_lt]; simpa using hc
      simp +contextual -implicitDefEqProofs (maxSteps := 2000000) only [↓wP, wS, seval, k2, k3, k4, k5, k6, k7, hja', w3, hat, l1, l2, x1, x2, hFq, hc, w2]
      refine ⟨(i + 1, g), by dsimp only; omega, rfl, by dsimp only; omega, by dsimp only; omega, k9, k10, ?_⟩
      dsimp only
      rw [insIn_stop (.inr ⟨by omega, hah⟩)] at k11
      rw [k11]
      exact h11
    ·have hja' : ¬ (a : Int) < (j : Int) := by omega
     simp +contextual -implicitDefEqProofs (maxSteps := 2000000) only [↓wP, wS, seval, k2, k3, k4, k5, k6, k7, hja', w2]
     refine ⟨(i + 1, g), by dsimp only; omega, rfl, by dsimp only; omega, by dsimp only; omega, k9, k10, ?_⟩
     dsimp only
     rw [insIn_stop (.inl (by omega))] at k11
     rw [k11]
     exact h11
   ·simp +contextual -implicitDefEqProofs (maxSteps := 2000000) only [↓wP, wS, seval, h2, h3, h4, h5, h6]
    exact ⟨h9, h10⟩
  ·have hlt' : ¬ (i : Int) < (b : Int) := by omega
   rw [insOuter, if_neg hlt] at h11
   simp +contextual -implicitDefEqProofs (maxSteps := 2000000) only [↓wP, wS, seval, h2, h3, h4, h5, h6, hlt']
   refine hQ _ ?_
   rw [← h11]
   exact h10
 ·simp +contextual -implicitDefEqProofs (maxSteps := 2000000) only [↓wP, wS, seval]
  exact ⟨by omega, .inr trivial, hsz, At.refl hσ, rfl⟩
theorem raw75 (F : Nat) (hF : CmpQ fr F) (d : Array (Rq fr)) (a b id n : Nat) (σ : Sto) (hab : a < b) (hb : b ≤ d.size) (hn : d.size < 1000000) (hσ : Hs fr σ id d) {Q : V → Sto → Nat → Prop}
 (hQ : ∀ σ' d', At σ' σ id d' → PermIn a b d d' → Q .undef σ' n) :
 run T (.raw 75 [.ref id 0 d.size 2, .int .i64 (a : Int), .int .i64 (b : Int), .fn F []] σ n 0) (memQ Q) := by
 refine run_rawE (fn := g75) rfl rfl ?_
 simp only [g75, b75, zO, zN, zM, zL, zG, zP, zQ, zI, zA, zT, zF, zB, zC, zD, zE, zH, zJ, zK]
 have w1 : IntKind.i64.wrap ((b : Int) - 1) = ((b - 1 : Nat) : Int) := by rw [wrap_i64] <;> omega
 have hp : ∀ d' : Array (Rq fr), PermIn a b d d' → d'.size = d.size := fun d' h => h.1
 generalize hsz : d.size = N at *
 simp +contextual -implicitDefEqProofs (maxSteps := 2000000) only [↓wP, wS, seval, w1]
 refine WC_loopI 0 (fun (s : (Nat × Nat) × Array (Rq fr)) env σ' n' => n' = n ∧ env 0 = .ref id 0 N 2 ∧ env 8 = .int .i64 (s.1.1 : Int) ∧ env 9 = .int .i64 (s.1.2 : Int) ∧
  a ≤ s.1.1 ∧ s.1.2 < b ∧ At σ' σ id s.2 ∧ PermIn a b d s.2) (fun s => s.1.2) ?_ ((a, b - 1), d) _ _ _ ?_
 ·intro ⟨⟨i, j⟩, e⟩ env σ1 n1 ⟨h1, h2, h3, h4, h5, h6, h7, h8⟩
  subst h1
  simp only at h3 h4 h5 h6 h7 h8
  by_cases hlt : i < j
  ·obtain ⟨j, rfl⟩ : ∃ j', j = j' + 1 := ⟨j - 1, by omega⟩
   have hlt' : (i : Int) < ((j + 1 : Nat) : Int) := by omega
   have w2 : IntKind.i64.wrap ((i : Int) + 1) = ((i + 1 : Nat) : Int) := by rw [wrap_i64] <;> omega
   have w3 : IntKind.i64.wrap (((j + 1 : Nat) : Int) - 1) = (j : Int) := by rw [wrap_i64] <;> omega
   have he := hp e h8
   have x1 := rq_at (d := e) (i := i) (by omega)
   have x2 := rq_at (d := e) (i := j + 1) (by omega)
   obtain ⟨u, v, v', x3⟩ := rw_set_at (d := e) (i := i) (j := j + 1) (x := e[j + 1]!) (by omega)
   have l1 : i < N := by omega
   have l2 : j + 1 < N := by omega
   have hat := h7.1.1
   have hFq := hF.at h7.1
   simp +contextual -implicitDefEqProofs (maxSteps := 2000000) only [↓wP, wS, seval, h2, h3, h4, hlt', w2, w3, x1, x2, x3, l1, l2, hat]
   refine ⟨((i + 1, j), swp e i (j + 1)), by dsimp only; omega, rfl, rfl, by dsimp only; omega, by dsimp only; omega, h7.swp _ _, ?_⟩
   exact permIn_trans _ _ _ _ _ h8 (swp_permIn e a b i (j + 1) h5 (by omega) (by omega) h6 (by omega))
  ·have hlt' : ¬ (i : Int) < (j : Int) := by omega
   simp +contextual -implicitDefEqProofs (maxSteps := 2000000) only [↓wP, wS, seval, h2, h3, h4, hlt']
   exact hQ _ _ h7 h8
 ·simp +contextual -implicitDefEqProofs (maxSteps := 2000000) only [↓wP, wS, seval]
  exact ⟨by omega, At.refl hσ, permIn_refl _ _ _⟩
theorem bin_shl (k : IntKind) (x : Int) (m : Nat) : ∃ y, binV .shl (.int k x) (.int .u64 (m : Int)) = some (.int k y) := by
 refine ⟨k.wrap (x * 2 ^ (min (m : Int).toNat k.bits)), ?_⟩
 have : ¬ ((m : Int) < 0) := by omega
 simp [binV, pureV, Go.binOp, Op.shift, this]
 rfl
theorem bin_shr (k : IntKind) (x : Int) (m : Nat) : ∃ y, binV .shr (.int k x) (.int .u64 (m : Int)) = some (.int k y) := by
 refine ⟨x.fdiv (2 ^ (min (m : Int).toNat k.bits)), ?_⟩
 have : ¬ ((m : Int) < 0) := by omega
 simp [binV, pureV, Go.binOp, Op.shift, this]
 rfl
theorem bin_and64 (x : Int) (m : Nat) (hm : m < 18446744073709551616) : ∃ y : Nat, y ≤ m ∧ binV .and (.int .u64 x) (.int .u64 (m : Int)) = some (.int .u64 (y : Int)) := by
 have hle : (BitVec.ofInt 64 x &&& BitVec.ofInt 64 (m : Int)).toNat ≤ m := by
  rw [BitVec.toNat_and]
  refine Nat.le_trans Nat.and_le_right ?_
  simp
  exact Nat.mod_le _ _
 refine ⟨(BitVec.ofInt 64 x &&& BitVec.ofInt 64 (m : Int)).toNat, hle, ?_⟩
 have hw : IntKind.u64.wrap ((BitVec.ofInt 64 x &&& BitVec.ofInt 64 (m : Int)).toNat : Int) = ((BitVec.ofInt 64 x &&& BitVec.ofInt 64 (m : Int)).toNat : Int) := by rw [wrap_u64] <;> omega
 have := bin_and .u64 x (m : Int)
 rw [this]
 congr 2
theorem raw86 (F : Nat) (hF : CmpQ fr F) (r : Int) (sid n : Nat) (σ : Sto) (hs : σ sid = some (.row 1 [.int .u64 r])) {Q : V → Sto → Nat → Prop}
 (hQ : ∀ (r' : Int) (σ' : Sto), σ' sid = some (.row 1 [.int .u64 r']) → (∀ i, i ≠ sid → σ' i = σ i) → Q (.int .u64 r') σ' n) :
 run T (.raw 86 [.ptr sid 1 0 0] σ n 0) (memQ Q) := by
 refine run_rawE (fn := g86) rfl rfl ?_
 simp only [g86, b86, zO, zN, zM, zL, zG, zP, zQ, zI, zA, zT, zF, zB, zC, zD, zE, zH, zJ, zK]
 obtain ⟨y1, e1⟩ := bin_shl .u64 r 13
 have x1 := bin_xor .u64 r y1
 generalize IntKind.u64.wrap ↑(BitVec.ofInt IntKind.u64.bits r ^^^ BitVec.ofInt IntKind.u64.bits y1).toNat = r1 at x1
 obtain ⟨y2, e2⟩ := bin_shr .u64 r1 7
 have x2 := bin_xor .u64 r1 y2
 generalize IntKind.u64.wrap ↑(BitVec.ofInt IntKind.u64.bits r1 ^^^ BitVec.ofInt IntKind.u64.bits y2).toNat = r2 at x2
 obtain ⟨y3, e3⟩ := bin_shl .u64 r2 17
 have x3 := bin_xor .u64 r2 y3
 generalize IntKind.u64.wrap ↑(BitVec.ofInt IntKind.u64.bits r2 ^^^ BitVec.ofInt IntKind.u64.bits y3).toNat = r3 at x3
 simp only [show ((13 : Nat) : Int) = 13 from rfl, show ((7 : Nat) : Int) = 7 from rfl, show ((17 : Nat) : Int) = 17 from rfl] at e1 e2 e3
 simp +contextual -implicitDefEqProofs (maxSteps := 2000000) only [↓wP, wS, seval, hs, e1, x1, e2, x2, e3, x3]
 exact hQ _ _ (by simp [upd]) (fun i hi => by simp [upd, hi])
def chk85 (m : Nat) : Bool := match exJob T 60 (.pure 85 [.int .i64 (m : Int)]) with
 | some (.val (.int .u64 M)) => decide (0 < M ∧ M ≤ 2 * (m : Int))
 | _ => false
theorem all85 : (List.range 130).all (fun m => decide (m < 8) || chk85 m) = true := by decide +kernel
theorem r85 (m : Nat) (h8 : 8 ≤ m) (h60 : m < 130) : ∃ M : Nat, 0 < M ∧ M ≤ 2 * m ∧ res T 85 [.int .i64 (m : Int)] = some (.int .u64 (M : Int)) := by
 have h := List.all_eq_true.1 all85 m (List.mem_range.2 h60)
 have h8' : ¬ m < 8 := by omega
 simp only [h8', decide_false, Bool.false_or] at h
 unfold chk85 at h
 split at h
 ·rename_i M hM
  simp only [decide_eq_true_eq] at h
  refine ⟨M.toNat, by omega, by omega, ?_⟩
  rw [show ((M.toNat : Nat) : Int) = M by omega]
  exact run_res (exJob_sound 60 _ _ hM)
 ·cases h
theorem raw73 (F : Nat) (hF : CmpQ fr F) (d : Array (Rq fr)) (a b id n : Nat) (σ : Sto) (h8 : 8 ≤ b - a) (h60 : b - a < 130) (hb : b ≤ d.size) (hn : d.size < 1000000) (hid : id < n) (hσ : Hs fr σ id d) {Q : V → Sto → Nat → Prop}
 (hQ : ∀ σ' d' n', n ≤ n' → Hs fr σ' id d' → (∀ i, i ≠ id → i < n → σ' i = σ i) → PermIn a b d d' → Q .undef σ' n') :
 run T (.raw 73 [.ref id 0 d.size 2, .int .i64 (a : Int), .int .i64 (b : Int), .fn F []] σ n 0) (memQ Q) := by
 refine run_rawE (fn := g73) rfl rfl ?_
 simp only [g73, b73, zO, zN, zM, zL, zG, zP, zQ, zI, zA, zT, zF, zB, zC, zD, zE, zH, zJ, zK]
 have hp : ∀ d' : Array (Rq fr), PermIn a b d d' → d'.size = d.size := fun d' h => h.1
 obtain ⟨L, hL⟩ : ∃ L, L = b - a := ⟨_, rfl⟩
 have w1 : IntKind.i64.wrap ((b : Int) - (a : Int)) = (L : Int) := by rw [wrap_i64] <;> omega
 have c8 : (8 : Int) ≤ (L : Int) := by omega
 obtain ⟨M, hM1, hM2, hM⟩ := r85 L (by omega) (by omega)
 have f85 := callE_tr (fs := true) (by decide) hM (by simp [Tr]) rfl
 have q4 := bin_quo4 L (by omega)
 have wu : IntKind.u64.wrap (L : Int) = (L : Int) := by rw [wrap_u64] <;> omega
 have w2 : IntKind.i64.wrap (((L / 4 : Nat) : Int) * 2) = ((L / 4 * 2 : Nat) : Int) := by rw [wrap_i64] <;> omega
 obtain ⟨t, ht⟩ : ∃ t, t = a + L / 4 * 2 := ⟨_, rfl⟩
 have w3 : IntKind.i64.wrap ((a : Int) + ((L / 4 * 2 : Nat) : Int)) = (t : Int) := by rw [wrap_i64] <;> omega
 have w4 : IntKind.i64.wrap ((t : Int) - 1) = ((t - 1 : Nat) : Int) := by rw [wrap_i64] <;> omega
 have w5 : IntKind.i64.wrap ((t : Int) + 1) = ((t + 1 : Nat) : Int) := by rw [wrap_i64] <;> omega
 have wm : IntKind.u64.wrap ((M : Int) - 1) = ((M - 1 : Nat) : Int) := by rw [wrap_u64] <;> omega
 have hidn : (id = n) = False := by simp; omega
 generalize hsz : d.size = N at *
 simp +contextual -implicitDefEqProofs (maxSteps := 2000000) only [↓wP, wS, seval, w1, c8, wu, f85, q4, w2, w3, w4, w5]
 refine WC_loopI 0 (fun (s : Nat × (Array (Rq fr) × Int)) env σ' n' => n' = n + 1 ∧ env 0 = .ref id 0 N 2 ∧ env 1 = .int .i64 (a : Int) ∧ env 8 = .int .i64 (L : Int) ∧ env 9 = .ptr n 1 0 0 ∧ env 10 = .int .u64 (M : Int) ∧ env 11 = .int .i64 (s.1 : Int) ∧
  a ≤ s.1 ∧ s.1 ≤ t + 2 ∧ σ' id = some (.row 2 (rq' s.2.1)) ∧ σ' n = some (.row 1 [.int .u64 s.2.2]) ∧ (∀ i, i ≠ id → i < n → σ' i = σ i) ∧ PermIn a b d s.2.1) (fun s => t + 3 - s.1) ?_ (t - 1, (d, (L : Int))) _ _ _ ?_
 ·intro ⟨i, e, r⟩ env σ1 n1 ⟨h1, h2, h3, h4, h5, h6, h7, h8', h9, h10, h11, h12, h13⟩
  subst h1
  simp only at h7 h8' h9 h10 h11 h13
  have he := hp e h13
  by_cases hlt : i ≤ t + 1
  ·have hlt' : (i : Int) ≤ ((t + 1 : Nat) : Int) := by omega
   have wi : IntKind.i64.wrap ((i : Int) + 1) = ((i + 1 : Nat) : Int) := by rw [wrap_i64] <;> omega
   simp +contextual -implicitDefEqProofs (maxSteps := 2000000) only [↓wP, wS, seval, h2, h3, h4, h5, h6, h7, q4, w2, w3, w5, hlt']
   refine stepW_raw (by decide) (raw86 F hF r n (n + 1) σ1 h11 fun r' σ2 g1 g2 => ?_)
   obtain ⟨y, hy, ey⟩ := bin_and64 r' (M - 1) (by omega)
   have hg : σ2 id = some (.row 2 (rq' e)) := by rw [g2 id (by omega), h10]
   have wy : IntKind.i64.wrap (y : Int) = (y : Int) := by rw [wrap_i64] <;> omega
   have x1 := rq_at (d := e) (i := i) (by omega)
   have l1 : i < N := by omega
   by_cases hge : L ≤ y
   ·have hge' : (L : Int) ≤ (y : Int) := by omega
    have wd : IntKind.i64.wrap ((y : Int) - (L : Int)) = ((y - L : Nat) : Int) := by rw [wrap_i64] <;> omega
    have wa : IntKind.i64.wrap ((a : Int) + ((y - L : Nat) : Int)) = ((a + (y - L) : Nat) : Int) := by rw [wrap_i64] <;> omega
    have x2 := rq_at (d := e) (i := a + (y - L)) (by omega)
    have l2 : a + (y - L) < N := by omega
    obtain ⟨u, v, v', x3⟩ := rw_set_at (d := e) (i := i) (j := a + (y - L)) (x := e[a + (y - L)]!) (by omega)
    simp +contextual -implicitDefEqProofs (maxSteps := 2000000) only [↓wP, wS, seval, h2, h3, h4, h5, h6, h7, wm, ey, wy, hge', wd, wa, hg, x1, x2, x3, l1, l2, wi, hidn]
    refine ⟨(i + 1, (swp e i (a + (y - L)), r')), by dsimp only; omega, rfl, by dsimp only; omega, by dsimp only; omega, ?_, ?_, ?_, ?_⟩
    ·dsimp only; rw [rw_swp]
    ·have a1 : n ≠ id := by omega
     simp only [a1, if_false]; exact g1
    ·intro k hk hkn
     rw [g2 k (by omega), h12 k hk hkn]
    ·exact permIn_trans _ _ _ _ _ h13 (swp_permIn e a b i (a + (y - L)) h8' (by omega) (by omega) (by omega) (by omega))
   ·have hge' : ¬ (L : Int) ≤ (y : Int) := by omega
    have wa : IntKind.i64.wrap ((a : Int) + (y : Int)) = ((a + y : Nat) : Int) := by rw [wrap_i64] <;> omega
    have x2 := rq_at (d := e) (i := a + y) (by omega)
    have l2 : a + y < N := by omega
    obtain ⟨u, v, v', x3⟩ := rw_set_at (d := e) (i := i) (j := a + y) (x := e[a + y]!) (by omega)
    simp +contextual -implicitDefEqProofs (maxSteps := 2000000) only [↓wP, wS, seval, h2, h3, h4, h5, h6, h7, wm, ey, wy, hge', wa, hg, x1, x2, x3, l1, l2, wi, hidn]
    refine ⟨(i + 1, (swp e i (a + y), r')), by dsimp only; omega, rfl, by dsimp only; omega, by dsimp only; omega, ?_, ?_, ?_, ?_⟩
    ·dsimp only; rw [rw_swp]
    ·have a1 : n ≠ id := by omega
     simp only [a1, if_false]; exact g1
    ·intro k hk hkn
     rw [g2 k (by omega), h12 k hk hkn]
    ·exact permIn_trans _ _ _ _ _ h13 (swp_permIn e a b i (a + y) h8' (by omega) (by omega) (by omega) (by omega))
  ·have hlt' : ¬ (i : Int) ≤ ((t + 1 : Nat) : Int) := by omega
   simp +contextual -implicitDefEqProofs (maxSteps := 2000000) only [↓wP, wS, seval, h2, h3, h4, h5, h6, h7, q4, w2, w3, w5, hlt']
   exact hQ _ e _ (by omega) ⟨h10, hσ.2.1, fun i hi => by rw [h12 i (by omega) (by omega)]; exact hσ.2.2 i hi⟩ h12 h13
 ·simp +contextual -implicitDefEqProofs (maxSteps := 2000000) only [↓wP, wS, seval, hidn]
  refine ⟨by omega, by omega, hσ.1, fun i h1 h2 => ?_, permIn_refl _ _ _⟩
  have a1 : i ≠ n := by omega
  simp only [a1, if_false]
end Go.Q.SV
end

section
/- The partitions of a sort. -/
namespace Go.Q.SV
open Go.Q Go.Sort
variable {fr : Fr} [Inhabited (Rq fr)]
theorem su_go {p : Rq fr → Bool} {d : Array (Rq fr)} {i j : Nat} (h : i ≤ j) (hp : p d[i]! = true) : scanUp p d j (i + 1) = scanUp p d j i := by
 conv => rhs; rw [scanUp]
 rw [if_pos (by simp [h, hp])]
theorem su_stop {p : Rq fr → Bool} {d : Array (Rq fr)} {i j : Nat} (h : ¬ i ≤ j ∨ p d[i]! = false) : scanUp p d j i = i := by
 rw [scanUp]
 rcases h with h | h <;> simp [h]
theorem sd_go {p : Rq fr → Bool} {d : Array (Rq fr)} {i j : Nat} (h : i ≤ j + 1) (hp : p d[j + 1]! = true) : scanDown p d i j = scanDown p d i (j + 1) := by
 conv => rhs; rw [scanDown]
 rw [if_pos (by simp [h, hp])]
theorem sd_stop {p : Rq fr → Bool} {d : Array (Rq fr)} {i j : Nat} (h : ¬ i ≤ j ∨ p d[j]! = false) : scanDown p d i j = j := by
 cases j with
 | zero => rfl
 | succ j =>
   rw [scanDown]
   rcases h with h | h
   ·simp [h]
   ·simp [h]
theorem raw77 (F : Nat) (hF : CmpQ fr F) (d : Array (Rq fr)) (a b p id n : Nat) (σ : Sto) (hap : a ≤ p) (hpb : p < b) (hb : b ≤ d.size) (hn : d.size < 1000000) (hσ : Hs fr σ id d) {Q : V → Sto → Nat → Prop}
 (hQ : ∀ σ', At σ' σ id (partitionEqual ahQ d a b p).2 → Q (.int .i64 ((partitionEqual ahQ d a b p).1 : Int)) σ' n) :
 run T (.raw 77 [.ref id 0 d.size 2, .int .i64 (a : Int), .int .i64 (b : Int), .int .i64 (p : Int), .fn F []] σ n 0) (memQ Q) := by
 refine run_rawE (fn := g77) rfl rfl ?_
 simp only [g77, b77, zO, zN, zM, zL, zG, zP, zQ, zI, zA, zT, zF, zB, zC, zD, zE, zH, zJ, zK]
 have w1 : IntKind.i64.wrap ((a : Int) + 1) = ((a + 1 : Nat) : Int) := by rw [wrap_i64] <;> omega
 have w2 : IntKind.i64.wrap ((b : Int) - 1) = ((b - 1 : Nat) : Int) := by rw [wrap_i64] <;> omega
 have y1 := rq_at (d := d) (i := a) (by omega)
 have y2 := rq_at (d := d) (i := p) (by omega)
 obtain ⟨u, v, v', y3⟩ := rw_set_at (d := d) (i := a) (j := p) (x := d[p]!) (by omega)
 have hat0 := (At.refl hσ).swp a p
 have hs0 : (swp d a p).size = d.size := swp_size _ _ _
 unfold partitionEqual at hQ
 generalize hsz : d.size = N at *
 have m1 : a < N := by omega
 have m2 : p < N := by omega
 simp +contextual -implicitDefEqProofs (maxSteps := 2000000) only [↓wP, wS, seval, w1, w2, y1, y2, y3, m1, m2, hσ.1]
 generalize (upd (upd σ id (some (.row 2 ((rq' d).set a (.agg [.int .u64 (d[p]!).id, .ref (d[p]!).k 0 (d[p]!).n 1]))))) id
  (some (.row 2 (((rq' d).set a (.agg [.int .u64 (d[p]!).id, .ref (d[p]!).k 0 (d[p]!).n 1])).set p (.agg [.int .u64 (d[a]!).id, .ref (d[a]!).k 0 (d[a]!).n 1]))))) = σ0 at hat0
 generalize swp d a p = d0 at *
 refine WC_loopI 0 (fun (s : (Nat × Nat) × Array (Rq fr)) env σ' n' => n' = n ∧ env 0 = .ref id 0 N 2 ∧ env 1 = .int .i64 (a : Int) ∧ env 4 = .fn F [] ∧ env 11 = .int .i64 (s.1.1 : Int) ∧ env 12 = .int .i64 (s.1.2 : Int) ∧
  a < s.1.1 ∧ s.1.1 ≤ s.1.2 + 2 ∧ s.1.2 < b ∧ s.2.size = N ∧ At σ' σ id s.2 ∧ partEqLoop ahQ a s.1.1 s.1.2 s.2 = partEqLoop ahQ a (a + 1) (b - 1) d0) (fun s => s.1.2 + 1 - s.1.1) ?_ ((a + 1, b - 1), d0) _ _ _ ?_
 ·intro ⟨⟨i, j⟩, e⟩ env σ1 n1 ⟨h1, h2, h3, h4, h5, h6, h7, h8, h9, h10, h11, h12⟩
  subst h1
  simp only at h5 h6 h7 h8 h9 h10 h11 h12
  have hat := h11.1.1
  have hFq := hF.at h11.1
  have xa := rq_at (d := e) (i := a) (by omega)
  rw [partEqLoop_eq] at h12
  simp +contextual -implicitDefEqProofs (maxSteps := 2000000) only [↓wP, wS, seval]
  refine WC_loopE 2 0 (fun (i' : Nat) env σ' n' => σ' = σ1 ∧ n' = n1 ∧ env 0 = .ref id 0 N 2 ∧ env 1 = .int .i64 (a : Int) ∧ env 4 = .fn F [] ∧ env 11 = .int .i64 (i' : Int) ∧ env 12 = .int .i64 (j : Int) ∧
   i ≤ i' ∧ i' ≤ j + 2 ∧ scanUp (fun x => !ahQ e[a]! x) e j i' = scanUp (fun x => !ahQ e[a]! x) e j i) (fun i' => j + 1 - i')
   (fun env σ' n' => σ' = σ1 ∧ n' = n1 ∧ env 0 = .ref id 0 N 2 ∧ env 1 = .int .i64 (a : Int) ∧ env 4 = .fn F [] ∧ env 11 = .int .i64 ((scanUp (fun x => !ahQ e[a]! x) e j i : Nat) : Int) ∧ env 12 = .int .i64 (j : Int) ∧ scanUp (fun x => !ahQ e[a]! x) e j i ≤ j + 2) ?_ ?_ i _ _ _ ?_
  ·clear h2 h3 h4 h5 h6
   intro i' env σ2 n2 ⟨k1, k2, k3, k4, k5, k6, k7, k8, k9, k10⟩
   subst k1 k2
   by_cases hle : i' ≤ j
   ·have hle' : (i' : Int) ≤ (j : Int) := by omega
    have wi : IntKind.i64.wrap ((i' : Int) + 1) = ((i' + 1 : Nat) : Int) := by rw [wrap_i64] <;> omega
    have x1 := rq_at (d := e) (i := i') (by omega)
    have l1 : i' < N := by omega
    by_cases hc : cmpU (e[a]!).id (e[i']!).id < 0
    ·have hah : ahQ e[a]! e[i']! = true := by rw [← cmpQ_lt]; simpa using hc
     have hst := su_stop (p := fun x => !ahQ e[a]! x) (d := e) (i := i') (j := j) (.inr (by simp [hah]))
     rw [hst] at k10
     rw [← k10]
     simp +contextual -implicitDefEqProofs (maxSteps := 2000000) only [↓wP, wS, seval, exQ_exit, k3, k4, k5, k6, k7, hle', hat, m1, l1, xa, x1, hFq, hc]
     omega
    ·have hah : ahQ e[a]! e[i']! = false := by rw [← cmpQ_lt]; simpa using hc
     simp +contextual -implicitDefEqProofs (maxSteps := 2000000) only [↓wP, wS, seval, exQ_exit, k3, k4, k5, k6, k7, hle', hat, m1, l1, xa, x1, hFq, hc, wi]
     exact ⟨i' + 1, by omega, rfl, by omega, by omega, by rw [su_go hle (by simp [hah])]; exact k10⟩
   ·have hle' : ¬ (i' : Int) ≤ (j : Int) := by omega
    have hst := su_stop (p := fun x => !ahQ e[a]! x) (d := e) (i := i') (j := j) (.inl hle)
    rw [hst] at k10
    rw [← k10]
    simp +contextual -implicitDefEqProofs (maxSteps := 2000000) only [↓wP, wS, seval, exQ_exit, k3, k4, k5, k6, k7, hle']
    omega
  ·clear h2 h3 h4 h5 h6
   intro env σ2 n2 ⟨k1, k2, h2, h3, h4, h5, h6, k8⟩
   subst k1 k2
   have hge := scanUp_ge (fun x => !ahQ e[a]! x) e j i
   generalize scanUp (fun x => !ahQ e[a]! x) e j i = i2 at *
   simp +contextual -implicitDefEqProofs (maxSteps := 2000000) only [↓wP, wS, seval]
   refine WC_loopE 4 0 (fun (j' : Nat) env σ' n' => σ' = σ2 ∧ n' = n2 ∧ env 0 = .ref id 0 N 2 ∧ env 1 = .int .i64 (a : Int) ∧ env 4 = .fn F [] ∧ env 11 = .int .i64 (i2 : Int) ∧ env 12 = .int .i64 (j' : Int) ∧
    j' ≤ j ∧ i2 ≤ j' + 2 ∧ scanDown (fun x => ahQ e[a]! x) e i2 j' = scanDown (fun x => ahQ e[a]! x) e i2 j) (fun j' => j')
    (fun env σ' n' => σ' = σ2 ∧ n' = n2 ∧ env 0 = .ref id 0 N 2 ∧ env 1 = .int .i64 (a : Int) ∧ env 4 = .fn F [] ∧ env 11 = .int .i64 (i2 : Int) ∧ env 12 = .int .i64 ((scanDown (fun x => ahQ e[a]! x) e i2 j : Nat) : Int) ∧ i2 ≤ scanDown (fun x => ahQ e[a]! x) e i2 j + 2) ?_ ?_ j _ _ _ ?_
   ·clear h2 h3 h4 h5 h6
    intro j' env σ3 n3 ⟨k1, k2, k3, k4, k5, k6, k7, k8, k9, k10⟩
    subst k1 k2
    by_cases hle : i2 ≤ j'
    ·have hle' : (i2 : Int) ≤ (j' : Int) := by omega
     obtain ⟨j', rfl⟩ : ∃ q, j' = q + 1 := ⟨j' - 1, by omega⟩
     have wi : IntKind.i64.wrap (((j' + 1 : Nat) : Int) - 1) = (j' : Int) := by rw [wrap_i64] <;> omega
     have x1 := rq_at (d := e) (i := j' + 1) (by omega)
     have l1 : j' + 1 < N := by omega
     by_cases hc : cmpU (e[a]!).id (e[j' + 1]!).id < 0
     ·have hah : ahQ e[a]! e[j' + 1]! = true := by rw [← cmpQ_lt]; simpa using hc
      simp +contextual -implicitDefEqProofs (maxSteps := 2000000) only [↓wP, wS, seval, exQ_exit, k3, k4, k5, k6, k7, hle', hat, m1, l1, xa, x1, hFq, hc, wi]
      exact ⟨j', by omega, rfl, by omega, by omega, by rw [sd_go hle hah]; exact k10⟩
     ·have hah : ahQ e[a]! e[j' + 1]! = false := by rw [← cmpQ_lt]; simpa using hc
      have hst := sd_stop (p := fun x => ahQ e[a]! x) (d := e) (i := i2) (j := j' + 1) (.inr hah)
      rw [hst] at k10
      rw [← k10]
      simp +contextual -implicitDefEqProofs (maxSteps := 2000000) only [↓wP, wS, seval, exQ_exit, k3, k4, k5, k6, k7, hle', hat, m1, l1, xa, x1, hFq, hc]
      omega
    ·have hle' : ¬ (i2 : Int) ≤ (j' : Int) := by omega
     have hst := sd_stop (p := fun x => ahQ e[a]! x) (d := e) (i := i2) (j := j') (.inl hle)
     rw [hst] at k10
     rw [← k10]
     simp +contextual -implicitDefEqProofs (maxSteps := 2000000) only [↓wP, wS, seval, exQ_exit, k3, k4, k5, k6, k7, hle']
     omega
   ·clear h2 h3 h4 h5 h6
    intro env σ3 n3 ⟨k1, k2, h2, h3, h4, h5, h6, k9⟩
    subst k1 k2
    have hle := scanDown_le (fun x => ahQ e[a]! x) e i2 j
    generalize scanDown (fun x => ahQ e[a]! x) e i2 j = j2 at *
    by_cases hgt : j2 < i2
    ·have hgt' : (j2 : Int) < (i2 : Int) := by omega
     rw [if_pos hgt] at h12
     simp +contextual -implicitDefEqProofs (maxSteps := 2000000) only [↓wP, wS, seval, h2, h3, h4, h5, h6, hgt']
     have := hQ σ3
     rw [← h12] at this
     exact this h11
    ·have hgt' : ¬ (j2 : Int) < (i2 : Int) := by omega
     rw [if_neg hgt] at h12
     have wi : IntKind.i64.wrap ((i2 : Int) + 1) = ((i2 + 1 : Nat) : Int) := by rw [wrap_i64] <;> omega
     have wj : IntKind.i64.wrap ((j2 : Int) - 1) = ((j2 - 1 : Nat) : Int) := by rw [wrap_i64] <;> omega
     have x1 := rq_at (d := e) (i := i2) (by omega)
     have x2 := rq_at (d := e) (i := j2) (by omega)
     obtain ⟨u, v, v', x3⟩ := rw_set_at (d := e) (i := i2) (j := j2) (x := e[j2]!) (by omega)
     have l1 : i2 < N := by omega
     have l2 : j2 < N := by omega
     simp +contextual -implicitDefEqProofs (maxSteps := 2000000) only [↓wP, wS, seval, h2, h3, h4, h5, h6, hgt', wi, wj, x1, x2, x3, l1, l2, hat]
     refine ⟨((i2 + 1, j2 - 1), swp e i2 j2), by dsimp only; omega, rfl, rfl, by dsimp only; omega, by dsimp only; omega, by dsimp only; omega, by rw [swp_size, h10], h11.swp _ _, h12⟩
   ·simp +contextual -implicitDefEqProofs (maxSteps := 2000000) only [↓wP, wS, seval, h2, h3, h4, h5, h6]
    exact k8
  ·simp +contextual -implicitDefEqProofs (maxSteps := 2000000) only [↓wP, wS, seval, h2, h3, h4, h5, h6]
   exact h8
 ·simp +contextual -implicitDefEqProofs (maxSteps := 2000000) only [↓wP, wS, seval]
  exact ⟨by omega, by omega, by omega, hs0, hat0⟩
theorem raw78 (F : Nat) (hF : CmpQ fr F) (d : Array (Rq fr)) (a b p id n : Nat) (σ : Sto) (hap : a ≤ p) (hpb : p < b) (hb : b ≤ d.size) (hn : d.size < 1000000) (hσ : Hs fr σ id d) {Q : V → Sto → Nat → Prop}
 (hQ : ∀ σ', At σ' σ id (partition ahQ d a b p).2.2 → Q (.tup [.int .i64 ((partition ahQ d a b p).1 : Int), .bool (partition ahQ d a b p).2.1]) σ' n) :
 run T (.raw 78 [.ref id 0 d.size 2, .int .i64 (a : Int), .int .i64 (b : Int), .int .i64 (p : Int), .fn F []] σ n 0) (memQ Q) := by
 refine run_rawE (fn := g78) rfl rfl ?_
 simp only [g78, b78, zO, zN, zM, zL, zG, zP, zQ, zI, zA, zT, zF, zB, zC, zD, zE, zH, zJ, zK]
 have w1 : IntKind.i64.wrap ((a : Int) + 1) = ((a + 1 : Nat) : Int) := by rw [wrap_i64] <;> omega
 have w2 : IntKind.i64.wrap ((b : Int) - 1) = ((b - 1 : Nat) : Int) := by rw [wrap_i64] <;> omega
 have y1 := rq_at (d := d) (i := a) (by omega)
 have y2 := rq_at (d := d) (i := p) (by omega)
 obtain ⟨u, v, v', y3⟩ := rw_set_at (d := d) (i := a) (j := p) (x := d[p]!) (by omega)
 have h11 := (At.refl hσ).swp a p
 have h10 : (swp d a p).size = d.size := swp_size _ _ _
 unfold partition at hQ
 generalize hsz : d.size = N at *
 have m1 : a < N := by omega
 have m2 : p < N := by omega
 simp +contextual -implicitDefEqProofs (maxSteps := 2000000) only [↓wP, wS, seval, w1, w2, y1, y2, y3, m1, m2, hσ.1]
 generalize (upd (upd σ id (some (.row 2 ((rq' d).set a (.agg [.int .u64 (d[p]!).id, .ref (d[p]!).k 0 (d[p]!).n 1]))))) id
  (some (.row 2 (((rq' d).set a (.agg [.int .u64 (d[p]!).id, .ref (d[p]!).k 0 (d[p]!).n 1])).set p (.agg [.int .u64 (d[a]!).id, .ref (d[a]!).k 0 (d[a]!).n 1]))))) = σ1 at h11
 generalize swp d a p = e at *
 simp only [gt_iff_lt] at hQ
 have hat := h11.1.1
 have hFq := hF.at h11.1
 have xa := rq_at (d := e) (i := a) (by omega)
 obtain ⟨n1, hn1⟩ : ∃ n1, n1 = n := ⟨_, rfl⟩
 rw [← hn1] at hQ ⊢
 have h8 : a + 1 ≤ b - 1 + 2 := by omega
 have h2 : True := trivial
 have h3 : True := trivial
 have h4 : True := trivial
 have h5 : True := trivial
 have h6 : True := trivial
 refine WC_loopE 0 0 (fun (i' : Nat) env σ' n' => σ' = σ1 ∧ n' = n1 ∧ env 0 = .ref id 0 N 2 ∧ env 1 = .int .i64 (a : Int) ∧ env 4 = .fn F [] ∧ env 12 = .int .i64 (i' : Int) ∧ env 13 = .int .i64 ((b - 1 : Nat) : Int) ∧
  a + 1 ≤ i' ∧ i' ≤ b - 1 + 2 ∧ scanUp (fun x => ahQ x e[a]!) e (b - 1) i' = scanUp (fun x => ahQ x e[a]!) e (b - 1) (a + 1)) (fun i' => b - 1 + 1 - i')
  (fun env σ' n' => σ' = σ1 ∧ n' = n1 ∧ env 0 = .ref id 0 N 2 ∧ env 1 = .int .i64 (a : Int) ∧ env 4 = .fn F [] ∧ env 12 = .int .i64 ((scanUp (fun x => ahQ x e[a]!) e (b - 1) (a + 1) : Nat) : Int) ∧ env 13 = .int .i64 ((b - 1 : Nat) : Int) ∧ scanUp (fun x => ahQ x e[a]!) e (b - 1) (a + 1) ≤ b - 1 + 2) ?_ ?_ (a + 1) _ _ _ ?_
 ·clear h2 h3 h4 h5 h6
  intro i' env σ2 n2 ⟨k1, k2, k3, k4, k5, k6, k7, k8, k9, k10⟩
  subst k1 k2
  by_cases hle : i' ≤ b - 1
  ·have hle' : (i' : Int) ≤ ((b - 1 : Nat) : Int) := by omega
   have wi : IntKind.i64.wrap ((i' : Int) + 1) = ((i' + 1 : Nat) : Int) := by rw [wrap_i64] <;> omega
   have x1 := rq_at (d := e) (i := i') (by omega)
   have l1 : i' < N := by omega
   by_cases hc : cmpU (e[i']!).id (e[a]!).id < 0
   ·have hah : ahQ e[i']! e[a]! = true := by rw [← cmpQ_lt]; simpa using hc
    simp +contextual -implicitDefEqProofs (maxSteps := 2000000) only [↓wP, wS, seval, exQ_exit, k3, k4, k5, k6, k7, hle', hat, m1, l1, xa, x1, hFq, hc, wi]
    exact ⟨i' + 1, by omega, rfl, by omega, by omega, by rw [su_go hle (by simp [hah])]; exact k10⟩
   ·have hah : ahQ e[i']! e[a]! = false := by rw [← cmpQ_lt]; simpa using hc
    have hst := su_stop (p := (fun x => ahQ x e[a]!)) (d := e) (i := i') (j := b - 1) (.inr (by simp [hah]))
    rw [hst] at k10
    rw [← k10]
    simp +contextual -implicitDefEqProofs (maxSteps := 2000000) only [↓wP, wS, seval, exQ_exit, k3, k4, k5, k6, k7, hle', hat, m1, l1, xa, x1, hFq, hc]
    omega
  ·have hle' : ¬ (i' : Int) ≤ ((b - 1 : Nat) : Int) := by omega
   have hst := su_stop (p := (fun x => ahQ x e[a]!)) (d := e) (i := i') (j := b - 1) (.inl hle)
   rw [hst] at k10
   rw [← k10]
   simp +contextual -implicitDefEqProofs (maxSteps := 2000000) only [↓wP, wS, seval, exQ_exit, k3, k4, k5, k6, k7, hle']
   omega
 ·clear h2 h3 h4 h5 h6
  intro env σ2 n2 ⟨k1, k2, h2, h3, h4, h5, h6, k8⟩
  subst k1 k2
  have hge := scanUp_ge (fun x => ahQ x e[a]!) e (b - 1) (a + 1)
  generalize scanUp (fun x => ahQ x e[a]!) e (b - 1) (a + 1) = i2 at *
  simp +contextual -implicitDefEqProofs (maxSteps := 2000000) only [↓wP, wS, seval]
  refine WC_loopE 2 0 (fun (j' : Nat) env σ' n' => σ' = σ2 ∧ n' = n2 ∧ env 0 = .ref id 0 N 2 ∧ env 1 = .int .i64 (a : Int) ∧ env 4 = .fn F [] ∧ env 12 = .int .i64 (i2 : Int) ∧ env 13 = .int .i64 (j' : Int) ∧
   j' ≤ b - 1 ∧ i2 ≤ j' + 2 ∧ scanDown (fun x => !ahQ x e[a]!) e i2 j' = scanDown (fun x => !ahQ x e[a]!) e i2 (b - 1)) (fun j' => j')
   (fun env σ' n' => σ' = σ2 ∧ n' = n2 ∧ env 0 = .ref id 0 N 2 ∧ env 1 = .int .i64 (a : Int) ∧ env 4 = .fn F [] ∧ env 12 = .int .i64 (i2 : Int) ∧ env 13 = .int .i64 ((scanDown (fun x => !ahQ x e[a]!) e i2 (b - 1) : Nat) : Int) ∧ i2 ≤ scanDown (fun x => !ahQ x e[a]!) e i2 (b - 1) + 2) ?_ ?_ (b - 1) _ _ _ ?_
  ·clear h2 h3 h4 h5 h6
   intro j' env σ3 n3 ⟨k1, k2, k3, k4, k5, k6, k7, k8, k9, k10⟩
   subst k1 k2
   by_cases hle : i2 ≤ j'
   ·have hle' : (i2 : Int) ≤ (j' : Int) := by omega
    obtain ⟨j', rfl⟩ : ∃ q, j' = q + 1 := ⟨j' - 1, by omega⟩
    have wi : IntKind.i64.wrap (((j' + 1 : Nat) : Int) - 1) = (j' : Int) := by rw [wrap_i64] <;> omega
    have x1 := rq_at (d := e) (i := j' + 1) (by omega)
    have l1 : j' + 1 < N := by omega
    by_cases hc : cmpU (e[j' + 1]!).id (e[a]!).id < 0
    ·have hah : ahQ e[j' + 1]! e[a]! = true := by rw [← cmpQ_lt]; simpa using hc
     have hst := sd_stop (p := (fun x => !ahQ x e[a]!)) (d := e) (i := i2) (j := j' + 1) (.inr (by simp [hah]))
     rw [hst] at k10
     rw [← k10]
     simp +contextual -implicitDefEqProofs (maxSteps := 2000000) only [↓wP, wS, seval, exQ_exit, k3, k4, k5, k6, k7, hle', hat, m1, l1, xa, x1, hFq, hc]
     omega
    ·have hah : ahQ e[j' + 1]! e[a]! = false := by rw [← cmpQ_lt]; simpa using hc
     simp +contextual -implicitDefEqProofs (maxSteps := 2000000) only [↓wP, wS, seval, exQ_exit, k3, k4, k5, k6, k7, hle', hat, m1, l1, xa, x1, hFq, hc, wi]
     exact ⟨j', by omega, rfl, by omega, by omega, by rw [sd_go hle (by simp [hah])]; exact k10⟩
   ·have hle' : ¬ (i2 : Int) ≤ (j' : Int) := by omega
    have hst := sd_stop (p := (fun x => !ahQ x e[a]!)) (d := e) (i := i2) (j := j') (.inl hle)
    rw [hst] at k10
    rw [← k10]
    simp +contextual -implicitDefEqProofs (maxSteps := 2000000) only [↓wP, wS, seval, exQ_exit, k3, k4, k5, k6, k7, hle']
    omega
  ·clear h2 h3 h4 h5 h6
   intro env σ3 n3 ⟨k1, k2, h2, h3, h4, h5, h6, k9⟩
   subst k1 k2
   have hle := scanDown_le (fun x => !ahQ x e[a]!) e i2 (b - 1)
   generalize scanDown (fun x => !ahQ x e[a]!) e i2 (b - 1) = j2 at *
   by_cases hgt : j2 < i2
   ·have hgt' : (j2 : Int) < (i2 : Int) := by omega
    have x1 := rq_at (d := e) (i := j2) (by omega)
    have x2 := rq_at (d := e) (i := a) (by omega)
    obtain ⟨u, v, v', x3⟩ := rw_set_at (d := e) (i := j2) (j := a) (x := e[a]!) (by omega)
    have l1 : j2 < N := by omega
    have l2 : a < N := by omega
    simp +contextual -implicitDefEqProofs (maxSteps := 2000000) only [↓wP, wS, seval, h2, h3, h4, h5, h6, hgt', x1, x2, x3, l1, l2, hat]
    rw [if_pos hgt] at hQ
    exact hQ _ (h11.swp _ _)
   ·have hgt' : ¬ (j2 : Int) < (i2 : Int) := by omega
    rw [if_neg hgt] at hQ
    have wi : IntKind.i64.wrap ((i2 : Int) + 1) = ((i2 + 1 : Nat) : Int) := by rw [wrap_i64] <;> omega
    have wj : IntKind.i64.wrap ((j2 : Int) - 1) = ((j2 - 1 : Nat) : Int) := by rw [wrap_i64] <;> omega
    have x1 := rq_at (d := e) (i := i2) (by omega)
    have x2 := rq_at (d := e) (i := j2) (by omega)
    obtain ⟨u, v, v', x3⟩ := rw_set_at (d := e) (i := i2) (j := j2) (x := e[j2]!) (by omega)
    have l1 : i2 < N := by omega
    have l2 : j2 < N := by omega
    have hat1 := h11.swp i2 j2
    have hs1 : (swp e i2 j2).size = N := by rw [swp_size, h10]
    simp +contextual -implicitDefEqProofs (maxSteps := 2000000) only [↓wP, wS, seval, h2, h3, h4, h5, h6, hgt', wi, wj, x1, x2, x3, l1, l2, hat]
    generalize (upd (upd σ3 id (some (.row 2 ((rq' e).set i2 (.agg [.int .u64 (e[j2]!).id, .ref (e[j2]!).k 0 (e[j2]!).n 1]))))) id
     (some (.row 2 (((rq' e).set i2 (.agg [.int .u64 (e[j2]!).id, .ref (e[j2]!).k 0 (e[j2]!).n 1])).set j2 (.agg [.int .u64 (e[i2]!).id, .ref (e[i2]!).k 0 (e[i2]!).n 1]))))) = σ5 at hat1
    generalize swp e i2 j2 = d1 at *
    have hR : ∀ (j3 : Nat) (e : Array (Rq fr)), (j3, e) = partLoop ahQ a (i2 + 1) (j2 - 1) d1 → e.size = N → j3 < b → ∀ σ', At σ' σ id (swp e j3 a) → Q (.tup [.int .i64 (j3 : Int), .bool false]) σ' n3 := by
     intro j3 e h1 _ _ σ' h4
     rw [← h1] at hQ
     exact hQ _ h4
    generalize i2 = i0 at *
    generalize j2 = j0 at *
    clear x1 x2 x3 l1 l2 k8 k9 h10 h11 hgt' wi wj
    refine WC_loopI 0 (fun (s : (Nat × Nat) × Array (Rq fr)) env σ' n' => n' = n3 ∧ env 0 = .ref id 0 N 2 ∧ env 1 = .int .i64 (a : Int) ∧ env 4 = .fn F [] ∧ env 12 = .int .i64 (s.1.1 : Int) ∧ env 13 = .int .i64 (s.1.2 : Int) ∧
     a < s.1.1 ∧ s.1.1 ≤ s.1.2 + 2 ∧ s.1.2 < b ∧ s.2.size = N ∧ At σ' σ id s.2 ∧ partLoop ahQ a s.1.1 s.1.2 s.2 = partLoop ahQ a (i0 + 1) (j0 - 1) d1) (fun s => s.1.2 + 1 - s.1.1) ?_ ((i0 + 1, j0 - 1), d1) _ _ _ ?_
    ·clear hat xa
     intro ⟨⟨i, j⟩, e⟩ env σ1 n1 ⟨h1, h2, h3, h4, h5, h6, h7, h8, h9, h10, h11, h12⟩
     subst h1
     simp only at h5 h6 h7 h8 h9 h10 h11 h12
     have hat := h11.1.1
     have hFq := hF.at h11.1
     have xa := rq_at (d := e) (i := a) (by omega)
     rw [partLoop_eq] at h12
     simp +contextual -implicitDefEqProofs (maxSteps := 2000000) only [↓wP, wS, seval]
     refine WC_loopE 6 0 (fun (i' : Nat) env σ' n' => σ' = σ1 ∧ n' = n1 ∧ env 0 = .ref id 0 N 2 ∧ env 1 = .int .i64 (a : Int) ∧ env 4 = .fn F [] ∧ env 12 = .int .i64 (i' : Int) ∧ env 13 = .int .i64 ((j : Nat) : Int) ∧
      i ≤ i' ∧ i' ≤ j + 2 ∧ scanUp (fun x => ahQ x e[a]!) e (j) i' = scanUp (fun x => ahQ x e[a]!) e (j) (i)) (fun i' => j + 1 - i')
      (fun env σ' n' => σ' = σ1 ∧ n' = n1 ∧ env 0 = .ref id 0 N 2 ∧ env 1 = .int .i64 (a : Int) ∧ env 4 = .fn F [] ∧ env 12 = .int .i64 ((scanUp (fun x => ahQ x e[a]!) e (j) (i) : Nat) : Int) ∧ env 13 = .int .i64 ((j : Nat) : Int) ∧ scanUp (fun x => ahQ x e[a]!) e (j) (i) ≤ j + 2) ?_ ?_ (i) _ _ _ ?_
     ·clear h2 h3 h4 h5 h6
      intro i' env σ2 n2 ⟨k1, k2, k3, k4, k5, k6, k7, k8, k9, k10⟩
      subst k1 k2
      by_cases hle : i' ≤ j
      ·have hle' : (i' : Int) ≤ ((j : Nat) : Int) := by omega
       have wi : IntKind.i64.wrap ((i' : Int) + 1) = ((i' + 1 : Nat) : Int) := by rw [wrap_i64] <;> omega
       have x1 := rq_at (d := e) (i := i') (by omega)
       have l1 : i' < N := by omega
       by_cases hc : cmpU (e[i']!).id (e[a]!).id < 0
       ·have hah : ahQ e[i']! e[a]! = true := by rw [← cmpQ_lt]; simpa using hc
        simp +contextual -implicitDefEqProofs (maxSteps := 2000000) only [↓wP, wS, seval, exQ_exit, k3, k4, k5, k6, k7, hle', hat, m1, l1, xa, x1, hFq, hc, wi]
        exact ⟨i' + 1, by omega, rfl, by omega, by omega, by rw [su_go hle (by simp [hah])]; exact k10⟩
       ·have hah : ahQ e[i']! e[a]! = false := by rw [← cmpQ_lt]; simpa using hc
        have hst := su_stop (p := (fun x => ahQ x e[a]!)) (d := e) (i := i') (j := j) (.inr (by simp [hah]))
        rw [hst] at k10
        rw [← k10]
        simp +contextual -implicitDefEqProofs (maxSteps := 2000000) only [↓wP, wS, seval, exQ_exit, k3, k4, k5, k6, k7, hle', hat, m1, l1, xa, x1, hFq, hc]
        omega
      ·have hle' : ¬ (i' : Int) ≤ ((j : Nat) : Int) := by omega
       have hst := su_stop (p := (fun x => ahQ x e[a]!)) (d := e) (i := i') (j := j) (.inl hle)
       rw [hst] at k10
       rw [← k10]
       simp +contextual -implicitDefEqProofs (maxSteps := 2000000) only [↓wP, wS, seval, exQ_exit, k3, k4, k5, k6, k7, hle']
       omega
     ·clear h2 h3 h4 h5 h6
      intro env σ2 n2 ⟨k1, k2, h2, h3, h4, h5, h6, k8⟩
      subst k1 k2
      have hge := scanUp_ge (fun x => ahQ x e[a]!) e (j) (i)
      generalize scanUp (fun x => ahQ x e[a]!) e (j) (i) = i2 at *
      simp +contextual -implicitDefEqProofs (maxSteps := 2000000) only [↓wP, wS, seval]
      refine WC_loopE 8 0 (fun (j' : Nat) env σ' n' => σ' = σ2 ∧ n' = n2 ∧ env 0 = .ref id 0 N 2 ∧ env 1 = .int .i64 (a : Int) ∧ env 4 = .fn F [] ∧ env 12 = .int .i64 (i2 : Int) ∧ env 13 = .int .i64 (j' : Int) ∧
       j' ≤ j ∧ i2 ≤ j' + 2 ∧ scanDown (fun x => !ahQ x e[a]!) e i2 j' = scanDown (fun x => !ahQ x e[a]!) e i2 (j)) (fun j' => j')
       (fun env σ' n' => σ' = σ2 ∧ n' = n2 ∧ env 0 = .ref id 0 N 2 ∧ env 1 = .int .i64 (a : Int) ∧ env 4 = .fn F [] ∧ env 12 = .int .i64 (i2 : Int) ∧ env 13 = .int .i64 ((scanDown (fun x => !ahQ x e[a]!) e i2 (j) : Nat) : Int) ∧ i2 ≤ scanDown (fun x => !ahQ x e[a]!) e i2 (j) + 2) ?_ ?_ (j) _ _ _ ?_
      ·clear h2 h3 h4 h5 h6
       intro j' env σ3 n3 ⟨k1, k2, k3, k4, k5, k6, k7, k8, k9, k10⟩
       subst k1 k2
       by_cases hle : i2 ≤ j'
       ·have hle' : (i2 : Int) ≤ (j' : Int) := by omega
        obtain ⟨j', rfl⟩ : ∃ q, j' = q + 1 := ⟨j' - 1, by omega⟩
        have wi : IntKind.i64.wrap (((j' + 1 : Nat) : Int) - 1) = (j' : Int) := by rw [wrap_i64] <;> omega
        have x1 := rq_at (d := e) (i := j' + 1) (by omega)
        have l1 : j' + 1 < N := by omega
        by_cases hc : cmpU (e[j' + 1]!).id (e[a]!).id < 0
        ·have hah : ahQ e[j' + 1]! e[a]! = true := by rw [← cmpQ_lt]; simpa using hc
         have hst := sd_stop (p := (fun x => !ahQ x e[a]!)) (d := e) (i := i2) (j := j' + 1) (.inr (by simp [hah]))
         rw [hst] at k10
         rw [← k10]
         simp +contextual -implicitDefEqProofs (maxSteps := 2000000) only [↓wP, wS, seval, exQ_exit, k3, k4, k5, k6, k7, hle', hat, m1, l1, xa, x1, hFq, hc]
         omega
        ·have hah : ahQ e[j' + 1]! e[a]! = false := by rw [← cmpQ_lt]; simpa using hc
         simp +contextual -implicitDefEqProofs (maxSteps := 2000000) only [↓wP, wS, seval, exQ_exit, k3, k4, k5, k6, k7, hle', hat, m1, l1, xa, x1, hFq, hc, wi]
         exact ⟨j', by omega, rfl, by omega, by omega, by rw [sd_go hle (by simp [hah])]; exact k10⟩
       ·have hle' : ¬ (i2 : Int) ≤ (j' : Int) := by omega
        have hst := sd_stop (p := (fun x => !ahQ x e[a]!)) (d := e) (i := i2) (j := j') (.inl hle)
        rw [hst] at k10
        rw [← k10]
        simp +contextual -implicitDefEqProofs (maxSteps := 2000000) only [↓wP, wS, seval, exQ_exit, k3, k4, k5, k6, k7, hle']
        omega
      ·clear h2 h3 h4 h5 h6
       intro env σ3 n3 ⟨k1, k2, h2, h3, h4, h5, h6, k9⟩
       subst k1 k2
       have hle := scanDown_le (fun x => !ahQ x e[a]!) e i2 (j)
       generalize scanDown (fun x => !ahQ x e[a]!) e i2 (j) = j2 at *
       by_cases hgt : j2 < i2
       ·have hgt' : (j2 : Int) < (i2 : Int) := by omega
        rw [if_pos hgt] at h12
        have x1 := rq_at (d := e) (i := j2) (by omega)
        have x2 := rq_at (d := e) (i := a) (by omega)
        obtain ⟨u, v, v', x3⟩ := rw_set_at (d := e) (i := j2) (j := a) (x := e[a]!) (by omega)
        have l1 : j2 < N := by omega
        have l2 : a < N := by omega
        simp +contextual -implicitDefEqProofs (maxSteps := 2000000) only [↓wP, wS, seval, h2, h3, h4, h5, h6, hgt', x1, x2, x3, l1, l2, hat]
        have := hR j2 e h12 h10 (by omega)
        exact this _ (h11.swp _ _)
       ·have hgt' : ¬ (j2 : Int) < (i2 : Int) := by omega
        rw [if_neg hgt] at h12
        have wi : IntKind.i64.wrap ((i2 : Int) + 1) = ((i2 + 1 : Nat) : Int) := by rw [wrap_i64] <;> omega
        have wj : IntKind.i64.wrap ((j2 : Int) - 1) = ((j2 - 1 : Nat) : Int) := by rw [wrap_i64] <;> omega
        have x1 := rq_at (d := e) (i := i2) (by omega)
        have x2 := rq_at (d := e) (i := j2) (by omega)
        obtain ⟨u, v, v', x3⟩ := rw_set_at (d := e) (i := i2) (j := j2) (x := e[j2]!) (by omega)
        have l1 : i2 < N := by omega
        have l2 : j2 < N := by omega
        simp +contextual -implicitDefEqProofs (maxSteps := 2000000) only [↓wP, wS, seval, h2, h3, h4, h5, h6, hgt', wi, wj, x1, x2, x3, l1, l2, hat]
        refine ⟨((i2 + 1, j2 - 1), swp e i2 j2), by dsimp only; omega, rfl, rfl, by dsimp only; omega, by dsimp only; omega, by dsimp only; omega, by rw [swp_size, h10], h11.swp _ _, h12⟩
      ·simp +contextual -implicitDefEqProofs (maxSteps := 2000000) only [↓wP, wS, seval, h2, h3, h4, h5, h6]
       exact k8
     ·simp +contextual -implicitDefEqProofs (maxSteps := 2000000) only [↓wP, wS, seval, h2, h3, h4, h5, h6]
      omega
    ·simp +contextual -implicitDefEqProofs (maxSteps := 2000000) only [↓wP, wS, seval, h2, h3, h4, h5, h6]
     exact ⟨by omega, by omega, by omega, hs1, hat1⟩
  ·simp +contextual -implicitDefEqProofs (maxSteps := 2000000) only [↓wP, wS, seval, h2, h3, h4, h5, h6]
   exact k8
 ·simp +contextual -implicitDefEqProofs (maxSteps := 2000000) only [↓wP, wS, seval, h2, h3, h4, h5, h6]
  omega
end Go.Q.SV
end

section
/- Heaps; parts that are nearly in order. -/
namespace Go.Q.SV
open Go.Q Go.Sort
open Nat renaming reduceEqDiff → n1w, reduceAdd → n2w, reduceSub → n3w, reduceLeDiff → n4w, reduceLT → n5w, reduceMul → n6w
open Int renaming reduceBNe → i1w, reduceBEq → i2w, reduceLT → i3w, reduceLE → i4w, reduceGT → i5w
variable {fr : Fr} [Inhabited (Rq fr)]
theorem bin_quo2 (m : Nat) (h : m < 9223372036854775808) : binV .quo (.int .i64 (m : Int)) (.int .i64 2) = some (.int .i64 ((m / 2 : Nat) : Int)) := by
 rw [bin_quo .i64 (m : Int) 2 (by decide)]
 have e : (m : Int).tdiv 2 = ((m / 2 : Nat) : Int) := rfl
 rw [e, wrap_nat (by omega)]
theorem raw84 (F : Nat) (hF : CmpQ fr F) (d : Array (Rq fr)) (N lo hi first id n : Nat) (σ : Sto) (hN : d.size = N) (hb : first + hi ≤ N) (hlo : lo ≤ N) (hn : N < 1000000) (hσ : Hs fr σ id d) {Q : V → Sto → Nat → Prop}
 (hQ : ∀ σ', At σ' σ id (siftDown ahQ hi first lo d) → Q .undef σ' n) :
 run T (.raw 84 [.ref id 0 N 2, .int .i64 (lo : Int), .int .i64 (hi : Int), .int .i64 (first : Int), .fn F []] σ n 0) (memQ Q) := by
 refine run_rawE (fn := g84) rfl rfl ?_
 simp only [g84, b84, zO, zN, zM, zL, zG, zP, zQ, zI, zA, zT, zF, zB, zC, zD, zE, zH, zJ, zK]
 simp +contextual -implicitDefEqProofs (maxSteps := 2000000) only [↓wP, wS, seval]
 refine WC_loopI 0 (fun (s : Nat × Array (Rq fr)) env σ' n' => n' = n ∧ env 0 = .ref id 0 N 2 ∧ env 2 = .int .i64 (hi : Int) ∧ env 3 = .int .i64 (first : Int) ∧ env 4 = .fn F [] ∧ env 10 = .int .i64 (s.1 : Int) ∧
  s.1 ≤ N ∧ s.2.size = N ∧ At σ' σ id s.2 ∧ siftDown ahQ hi first s.1 s.2 = siftDown ahQ hi first lo d) (fun s => hi - s.1) ?_ (lo, d) _ _ _ ?_
 ·intro ⟨r, e⟩ env σ1 n1 ⟨h1, h2, h3, h4, h5, h6, h7, h8, h9, h10⟩
  subst h1
  dsimp only at h6 h7 h8 h9 h10
  obtain ⟨t, ht⟩ : ∃ t, t = 2 * r := ⟨_, rfl⟩
  obtain ⟨c1, hc1⟩ : ∃ c1, c1 = 2 * r + 1 := ⟨_, rfl⟩
  obtain ⟨c2, hc2⟩ : ∃ c2, c2 = 2 * r + 2 := ⟨_, rfl⟩
  have w0 : IntKind.i64.wrap (2 * (r : Int)) = (t : Int) := by rw [wrap_i64] <;> omega
  have w1 : IntKind.i64.wrap ((t : Int) + 1) = (c1 : Int) := by rw [wrap_i64] <;> omega
  have w2 : IntKind.i64.wrap ((c1 : Int) + 1) = (c2 : Int) := by rw [wrap_i64] <;> omega
  rw [siftDown, show 2 * r + 1 + 1 = c2 by omega, show 2 * r + 1 = c1 by omega] at h10
  by_cases hc : hi ≤ c1
  ·have hc' : (hi : Int) ≤ (c1 : Int) := by omega
   rw [dif_pos hc] at h10
   simp +contextual -implicitDefEqProofs (maxSteps := 2000000) only [↓wP, wS, seval, h2, h3, h4, h5, h6, w0, w1, hc']
   refine hQ _ ?_
   rw [← h10]
   exact h9
  have hc' : ¬ (hi : Int) ≤ (c1 : Int) := by omega
  rw [dif_neg hc] at h10
  obtain ⟨p, hp⟩ : ∃ p, p = first + r := ⟨_, rfl⟩
  obtain ⟨p1, hp1⟩ : ∃ p1, p1 = first + c1 := ⟨_, rfl⟩
  obtain ⟨p2, hp2⟩ : ∃ p2, p2 = first + c2 := ⟨_, rfl⟩
  have w3 : IntKind.i64.wrap ((first : Int) + (r : Int)) = (p : Int) := by rw [wrap_i64] <;> omega
  have w4 : IntKind.i64.wrap ((first : Int) + (c1 : Int)) = (p1 : Int) := by rw [wrap_i64] <;> omega
  have w5 : IntKind.i64.wrap ((first : Int) + (c2 : Int)) = (p2 : Int) := by rw [wrap_i64] <;> omega
  have w6 : IntKind.i64.wrap ((p1 : Int) + 1) = (p2 : Int) := by rw [wrap_i64] <;> omega
  have l0 : p < N := by omega
  have l1 : p1 < N := by omega
  have x0 := rq_at (d := e) (i := p) (by omega)
  have x1 := rq_at (d := e) (i := p1) (by omega)
  have hat := h9.1.1
  have hFq := hF.at h9.1
  rw [← hp, ← hp1, ← hp2, show p1 + 1 = p2 by omega] at h10
  obtain ⟨u1, v1, v1', y1⟩ := rw_set_at (d := e) (i := p) (j := p1) (x := e[p1]!) (by omega)
  by_cases hs : c2 < hi
  ·have hs' : (c2 : Int) < (hi : Int) := by omega
   have l2 : p2 < N := by omega
   have x2 := rq_at (d := e) (i := p2) (by omega)
   obtain ⟨u2, v2, v2', y2⟩ := rw_set_at (d := e) (i := p) (j := p2) (x := e[p2]!) (by omega)
   by_cases k1 : cmpU (e[p1]!).id (e[p2]!).id < 0
   ·have a1 : ahQ e[p1]! e[p2]! = true := by rw [← cmpQ_lt]; simpa using k1
    rw [if_pos (by simp [hs, a1])] at h10
    by_cases k2 : cmpU (e[p]!).id (e[p2]!).id < 0
    ·have a2 : ahQ e[p]! e[p2]! = true := by rw [← cmpQ_lt]; simpa using k2
     rw [if_neg (by simp [a2]), dif_pos hs] at h10
     simp +contextual -implicitDefEqProofs (maxSteps := 2000000) only [↓wP, wS, seval, h2, h3, h4, h5, h6, w0, w1, w2, w3, w4, w5, w6, hc', hs', hat, l0, l1, l2, x0, x1, x2, y2, hFq, k1, k2]
     exact ⟨(c2, swp e p p2), by dsimp only; omega, rfl, by dsimp only; omega, by rw [swp_size, h8], h9.swp _ _, h10⟩
    ·have a2 : ahQ e[p]! e[p2]! = false := by rw [← cmpQ_lt]; simpa using k2
     rw [if_pos (by simp [a2])] at h10
     simp +contextual -implicitDefEqProofs (maxSteps := 2000000) only [↓wP, wS, seval, h2, h3, h4, h5, h6, w0, w1, w2, w3, w4, w5, w6, hc', hs', hat, l0, l1, l2, x0, x1, x2, hFq, k1, k2]
     refine hQ _ ?_
     rw [← h10]
     exact h9
   ·have a1 : ahQ e[p1]! e[p2]! = false := by rw [← cmpQ_lt]; simpa using k1
    rw [if_neg (by simp [a1])] at h10
    by_cases k2 : cmpU (e[p]!).id (e[p1]!).id < 0
    ·have a2 : ahQ e[p]! e[p1]! = true := by rw [← cmpQ_lt]; simpa using k2
     rw [if_neg (by simp [a2])] at h10
     simp +contextual -implicitDefEqProofs (maxSteps := 2000000) only [↓wP, wS, seval, h2, h3, h4, h5, h6, w0, w1, w2, w3, w4, w5, w6, hc', hs', hat, l0, l1, l2, x0, x1, x2, y1, hFq, k1, k2]
     exact ⟨(c1, swp e p p1), by dsimp only; omega, rfl, by dsimp only; omega, by rw [swp_size, h8], h9.swp _ _, h10⟩
    ·have a2 : ahQ e[p]! e[p1]! = false := by rw [← cmpQ_lt]; simpa using k2
     rw [if_pos (by simp [a2])] at h10
     simp +contextual -implicitDefEqProofs (maxSteps := 2000000) only [↓wP, wS, seval, h2, h3, h4, h5, h6, w0, w1, w2, w3, w4, w5, w6, hc', hs', hat, l0, l1, l2, x0, x1, x2, hFq, k1, k2]
     refine hQ _ ?_
     rw [← h10]
     exact h9
  ·have hs' : ¬ (c2 : Int) < (hi : Int) := by omega
   rw [if_neg (by simp [hs])] at h10
   by_cases k2 : cmpU (e[p]!).id (e[p1]!).id < 0
   ·have a2 : ahQ e[p]! e[p1]! = true := by rw [← cmpQ_lt]; simpa using k2
    rw [if_neg (by simp [a2])] at h10
    simp +contextual -implicitDefEqProofs (maxSteps := 2000000) only [↓wP, wS, seval, h2, h3, h4, h5, h6, w0, w1, w2, w3, w4, w5, w6, hc', hs', hat, l0, l1, x0, x1, y1, hFq, k2]
    exact ⟨(c1, swp e p p1), by dsimp only; omega, rfl, by dsimp only; omega, by rw [swp_size, h8], h9.swp _ _, h10⟩
   ·have a2 : ahQ e[p]! e[p1]! = false := by rw [← cmpQ_lt]; simpa using k2
    rw [if_pos (by simp [a2])] at h10
    simp +contextual -implicitDefEqProofs (maxSteps := 2000000) only [↓wP, wS, seval, h2, h3, h4, h5, h6, w0, w1, w2, w3, w4, w5, w6, hc', hs', hat, l0, l1, x0, x1, hFq, k2]
    refine hQ _ ?_
    rw [← h10]
    exact h9
 ·simp +contextual -implicitDefEqProofs (maxSteps := 2000000) only [↓wP, wS, seval]
  exact ⟨hlo, hN, At.refl hσ⟩
theorem At.trans {σ σ1 σ2 : Sto} {id : Nat} {d e : Array (Rq fr)} (h : At σ2 σ1 id e) (h' : At σ1 σ id d) : At σ2 σ id e := ⟨h.1, fun i hi => (h.2 i hi).trans (h'.2 i hi)⟩
theorem sift_size (hi first root : Nat) (d : Array (Rq fr)) : (siftDown ahQ hi first root d).size = d.size := by
 have key : ∀ (k root : Nat) (d : Array (Rq fr)), hi - root ≤ k → (siftDown ahQ hi first root d).size = d.size := by
  intro k
  induction k with
  | zero =>
    intro root d hk
    rw [siftDown]
    rw [dif_pos (by omega)]
  | succ k ih =>
    intro root d hk
    rw [siftDown]
    split
    ·rfl
    ·split
     ·split
      ·rfl
      ·split
       ·rw [ih _ _ (by omega), swp_size]
       ·rfl
     ·split
      ·rfl
      ·rw [ih _ _ (by omega), swp_size]
 exact key _ root d (Nat.le_refl _)
theorem raw72 (F : Nat) (hF : CmpQ fr F) (d : Array (Rq fr)) (N a b id n : Nat) (σ : Sto) (hN : d.size = N) (hab : a < b) (hb : b ≤ N) (hn : N < 1000000) (hσ : Hs fr σ id d) {Q : V → Sto → Nat → Prop}
 (hQ : ∀ σ', At σ' σ id (heapSort ahQ d a b) → Q .undef σ' n) :
 run T (.raw 72 [.ref id 0 N 2, .int .i64 (a : Int), .int .i64 (b : Int), .fn F []] σ n 0) (memQ Q) := by
 refine run_rawE (fn := g72) rfl rfl ?_
 simp only [g72, b72, zO, zN, zM, zL, zG, zP, zQ, zI, zA, zT, zF, zB, zC, zD, zE, zH, zJ, zK]
 obtain ⟨hi, hhi⟩ : ∃ hi, hi = b - a := ⟨_, rfl⟩
 have w1 : IntKind.i64.wrap ((b : Int) - (a : Int)) = (hi : Int) := by rw [wrap_i64] <;> omega
 have w2 : IntKind.i64.wrap ((hi : Int) - 1) = ((hi - 1 : Nat) : Int) := by rw [wrap_i64] <;> omega
 have q2 := bin_quo2 (hi - 1) (by omega)
 unfold heapSort at hQ
 rw [← hhi] at hQ
 simp +contextual -implicitDefEqProofs (maxSteps := 2000000) only [↓wP, wS, seval, w1, w2, q2]
 refine WC_cutB (fun env σ' n' => n' = n ∧ env 0 = .ref id 0 N 2 ∧ env 3 = .fn F [] ∧ env 8 = .int .i64 (a : Int) ∧ env 9 = .int .i64 0 ∧ env 10 = .int .i64 (hi : Int) ∧ At σ' σ id (heapBuild ahQ hi a ((hi - 1) / 2 + 1) d) ∧ (heapBuild ahQ hi a ((hi - 1) / 2 + 1) d).size = N) ?_ ?_
 ·refine WC_loopI 0 (fun (s : Nat × Array (Rq fr)) env σ' n' => n' = n ∧ env 0 = .ref id 0 N 2 ∧ env 3 = .fn F [] ∧ env 8 = .int .i64 (a : Int) ∧ env 9 = .int .i64 0 ∧ env 10 = .int .i64 (hi : Int) ∧ env 11 = .int .i64 ((s.1 : Int) - 1) ∧
   s.1 ≤ N ∧ s.2.size = N ∧ At σ' σ id s.2 ∧ heapBuild ahQ hi a s.1 s.2 = heapBuild ahQ hi a ((hi - 1) / 2 + 1) d) (fun s => s.1) ?_ ((hi - 1) / 2 + 1, d) _ _ _ ?_
  ·intro ⟨k, e⟩ env σ1 n1 ⟨h1, h2, h3, h4, h5, h6, h7, h8, h9, h10, h11⟩
   subst h1
   dsimp only at h7 h8 h9 h10 h11
   cases k with
   | zero =>
     have hk : ¬ ((0 : Int) ≤ ((0 : Nat) : Int) - 1) := by decide
     simp +contextual -implicitDefEqProofs (maxSteps := 2000000) only [↓wP, wS, seval, h2, h3, h4, h5, h6, h7, hk]
     rw [← h11]
     exact ⟨rfl, rfl, rfl, h2, h3, h4, h5, h6, h10, h9⟩
   | succ k =>
     rw [show ((k + 1 : Nat) : Int) - 1 = (k : Int) by omega] at h7
     have hk : (0 : Int) ≤ (k : Int) := by omega
     have wk : IntKind.i64.wrap ((k : Int) - 1) = (k : Int) - 1 := by rw [wrap_i64] <;> omega
     simp +contextual -implicitDefEqProofs (maxSteps := 2000000) only [↓wP, wS, seval, h2, h3, h4, h5, h6, h7, hk]
     refine stepW_raw (by decide) (raw84 F hF e N k hi a id n1 σ1 h9 (by omega) (by omega) hn h10.1 fun σ2 hat => ?_)
     simp +contextual -implicitDefEqProofs (maxSteps := 2000000) only [↓wP, wS, seval, h2, h3, h4, h5, h6, h7, wk]
     exact ⟨(k, siftDown ahQ hi a k e), by dsimp only; omega, rfl, by dsimp only; omega, by rw [sift_size, h9], hat.trans h10, h11⟩
  ·simp +contextual -implicitDefEqProofs (maxSteps := 2000000) only [↓wP, wS, seval]
   exact ⟨by congr 1; omega, by omega, hN, At.refl hσ⟩
 ·intro env σ' n' ⟨h1, h2, h3, h4, h5, h6, h7, h8⟩
  subst h1
  generalize heapBuild ahQ hi a ((hi - 1) / 2 + 1) d = d1 at *
  simp +contextual -implicitDefEqProofs (maxSteps := 2000000) only [↓wP, wS, seval, h2, h3, h4, h5, h6, w2]
  refine WC_loopI 0 (fun (s : Nat × Array (Rq fr)) env σ'' n'' => n'' = n' ∧ env 0 = .ref id 0 N 2 ∧ env 3 = .fn F [] ∧ env 8 = .int .i64 (a : Int) ∧ env 9 = .int .i64 0 ∧ env 12 = .int .i64 ((s.1 : Int) - 1) ∧
   s.1 ≤ hi ∧ s.2.size = N ∧ At σ'' σ id s.2 ∧ heapPop ahQ a s.1 s.2 = heapPop ahQ a hi d1) (fun s => s.1) ?_ (hi, d1) _ _ _ ?_
  ·clear h2 h3 h4 h5 h6
   intro ⟨k, e⟩ env σ1 n1 ⟨h1, h2, h3, h4, h5, h7', h8', h9, h10, h11⟩
   subst h1
   dsimp only at h7' h8' h9 h10 h11
   cases k with
   | zero =>
     have hk : ¬ ((0 : Int) ≤ ((0 : Nat) : Int) - 1) := by decide
     simp +contextual -implicitDefEqProofs (maxSteps := 2000000) only [↓wP, wS, seval, h2, h3, h4, h5, h7', hk]
     refine hQ _ ?_
     rw [← h11]
     exact h10
   | succ k =>
     rw [show ((k + 1 : Nat) : Int) - 1 = (k : Int) by omega] at h7'
     have hk : (0 : Int) ≤ (k : Int) := by omega
     have wk : IntKind.i64.wrap ((k : Int) - 1) = (k : Int) - 1 := by rw [wrap_i64] <;> omega
     obtain ⟨p, hp⟩ : ∃ p, p = a + k := ⟨_, rfl⟩
     have wp : IntKind.i64.wrap ((a : Int) + (k : Int)) = (p : Int) := by rw [wrap_i64] <;> omega
     have l0 : a < N := by omega
     have l1 : p < N := by omega
     have x0 := rq_at (d := e) (i := a) (by omega)
     have x1 := rq_at (d := e) (i := p) (by omega)
     obtain ⟨u1, v1, v1', y1⟩ := rw_set_at (d := e) (i := a) (j := p) (x := e[p]!) (by omega)
     have hat := h10.1.1
     have hFq := hF.at h10.1
     have h12 : heapPop ahQ a (k + 1) e = heapPop ahQ a k (siftDown ahQ k a 0 (swp e a p)) := by rw [hp]; rfl
     rw [h12] at h11
     simp +contextual -implicitDefEqProofs (maxSteps := 2000000) only [↓wP, wS, seval, h2, h3, h4, h5, h7', hk, wp, hat, l0, l1, x0, x1, y1]
     have hsw := h10.swp a p
     refine stepW_raw (by decide) (raw84 F hF (swp e a p) N 0 k a id n1 _ (by rw [swp_size, h9]) (by omega) (by omega) hn hsw.1 fun σ2 hat2 => ?_)
     simp +contextual -implicitDefEqProofs (maxSteps := 2000000) only [↓wP, wS, seval, h2, h3, h4, h5, h7', wk]
     exact ⟨(k, siftDown ahQ k a 0 (swp e a p)), by dsimp only; omega, rfl, by dsimp only; omega, by rw [sift_size, swp_size, h9], hat2.trans hsw, h11⟩
  ·simp +contextual -implicitDefEqProofs (maxSteps := 2000000) only [↓wP, wS, seval, h2, h3, h4, h5]
   exact ⟨by congr 1; omega, h8, h7⟩
theorem ss_go {d : Array (Rq fr)} {b i : Nat} (h : i < b) (hl : ahQ d[i]! d[i - 1]! = false) : scanSorted ahQ d b (i + 1) = scanSorted ahQ d b i := by
 conv => rhs; rw [scanSorted]
 rw [if_pos (by simp [h, hl])]
theorem ss_stop {d : Array (Rq fr)} {b i : Nat} (h : ¬ i < b ∨ ahQ d[i]! d[i - 1]! = true) : scanSorted ahQ d b i = i := by
 rw [scanSorted]
 rcases h with h | h <;> simp [h]
theorem shiftD_size : ∀ (j : Nat) (d : Array (Rq fr)), (shiftDown ahQ j d).size = d.size
 | 0, _ => rfl
 | j + 1, d => by
   rw [shiftDown]
   split
   ·rfl
   ·rw [shiftD_size j, swp_size]
theorem raw76 (F : Nat) (hF : CmpQ fr F) (d : Array (Rq fr)) (N a b id n : Nat) (σ : Sto) (hN : d.size = N) (hab : a < b) (hb : b ≤ N) (hn : N < 1000000) (hσ : Hs fr σ id d) {Q : V → Sto → Nat → Prop}
 (hQ : ∀ σ', At σ' σ id (partialInsertionSort ahQ d a b).1 → Q (.bool (partialInsertionSort ahQ d a b).2) σ' n) :
 run T (.raw 76 [.ref id 0 N 2, .int .i64 (a : Int), .int .i64 (b : Int), .fn F []] σ n 0) (memQ Q) := by
 refine run_rawE (fn := g76) rfl rfl ?_
 simp only [g76, b76, zO, zN, zM, zL, zG, zP, zQ, zI, zA, zT, zF, zB, zC, zD, zE, zH, zJ, zK]
 have w1 : IntKind.i64.wrap ((a : Int) + 1) = ((a + 1 : Nat) : Int) := by rw [wrap_i64] <;> omega
 have w2 : IntKind.i64.wrap ((b : Int) - (a : Int)) = ((b - a : Nat) : Int) := by rw [wrap_i64] <;> omega
 unfold partialInsertionSort at hQ
 simp +contextual -implicitDefEqProofs (maxSteps := 2000000) only [↓wP, wQ, wQ1, wQ2, wQ3, wR, boxE, partsOf, ↓reduceIte, n1w, n2w, n3w, n4w, n5w, n6w, reduceCtorEq, i1w, i2w, i3w, i4w, i5w, w1]
 refine WC_loopI 0 (fun (s : (Nat × Nat) × Array (Rq fr)) env σ' n' => n' = n ∧ env 0 = .ref id 0 N 2 ∧ env 1 = .int .i64 (a : Int) ∧ env 2 = .int .i64 (b : Int) ∧ env 3 = .fn F [] ∧ env 9 = .int .i64 (s.1.2 : Int) ∧ env 10 = .int .i64 ((5 - s.1.1 : Nat) : Int) ∧
  s.1.1 ≤ 5 ∧ a < s.1.2 ∧ s.1.2 ≤ b ∧ s.2.size = N ∧ At σ' σ id s.2 ∧ partialIns ahQ a b s.1.1 s.1.2 s.2 = partialIns ahQ a b 5 (a + 1) d) (fun s => s.1.1) ?_ ((5, a + 1), d) _ _ _ ?_
 ·intro ⟨⟨k, i⟩, e⟩ env σ1 n1 ⟨h1, h2, h3, h4, h5, h6, h7, h8, h9, h10, h11, h12, h13⟩
  subst h1
  dsimp only at h6 h7 h8 h9 h10 h11 h12 h13
  cases k with
  | zero =>
    have hk : ¬ (((5 - 0 : Nat) : Int) < 5) := by decide
    simp +contextual -implicitDefEqProofs (maxSteps := 2000000) only [↓wP, wQ, wQ1, wQ2, wQ3, wR, boxE, partsOf, ↓reduceIte, n1w, n2w, n3w, n4w, n5w, n6w, reduceCtorEq, i1w, i2w, i3w, i4w, i5w, h2, h3, h4, h5, h6, h7, hk]
    have hR : partialIns ahQ a b 5 (a + 1) d = (e, false) := h13.symm
    rw [hR] at hQ
    exact hQ _ h12
  | succ k =>
    have hk : ((5 - (k + 1) : Nat) : Int) < 5 := by omega
    have wk : IntKind.i64.wrap (((5 - (k + 1) : Nat) : Int) + 1) = ((5 - k : Nat) : Int) := by rw [wrap_i64] <;> omega
    rw [partialIns_succ] at h13
    generalize hjj : (5 - (k + 1) : Nat) = jj at *
    have hat := h12.1.1
    have hFq := hF.at h12.1
    simp +contextual -implicitDefEqProofs (maxSteps := 2000000) only [↓wP, wQ, wQ1, wQ2, wQ3, wR, boxE, partsOf, ↓reduceIte, n1w, n2w, n3w, n4w, n5w, n6w, reduceCtorEq, i1w, i2w, i3w, i4w, i5w, h2, h3, h4, h5, h6, h7, hk]
    refine WC_cutB (fun env σ' n' => σ' = σ1 ∧ n' = n1 ∧ env 0 = .ref id 0 N 2 ∧ env 1 = .int .i64 (a : Int) ∧ env 2 = .int .i64 (b : Int) ∧ env 3 = .fn F [] ∧ env 9 = .int .i64 ((scanSorted ahQ e b i : Nat) : Int) ∧ env 10 = .int .i64 (jj : Int) ∧ a < scanSorted ahQ e b i ∧ scanSorted ahQ e b i ≤ b) ?_ ?_
    ·refine WC_loopI 0 (fun (i' : Nat) env σ' n' => σ' = σ1 ∧ n' = n1 ∧ env 0 = .ref id 0 N 2 ∧ env 1 = .int .i64 (a : Int) ∧ env 2 = .int .i64 (b : Int) ∧ env 3 = .fn F [] ∧ env 9 = .int .i64 (i' : Int) ∧ env 10 = .int .i64 (jj : Int) ∧
      a < i' ∧ i' ≤ b ∧ scanSorted ahQ e b i' = scanSorted ahQ e b i) (fun i' => b - i') ?_ i _ _ _ ?_
     ·clear h2 h3 h4 h5 h6 h7
      intro i' env σ2 n2 ⟨k1, k2, k3, k4, k5, k6, k7, k8, k9, k10, k11⟩
      subst k1 k2
      by_cases hlt : i' < b
      ·have hlt' : (i' : Int) < (b : Int) := by omega
       have w3 : IntKind.i64.wrap ((i' : Int) - 1) = ((i' - 1 : Nat) : Int) := by rw [wrap_i64] <;> omega
       have w4 : IntKind.i64.wrap ((i' : Int) + 1) = ((i' + 1 : Nat) : Int) := by rw [wrap_i64] <;> omega
       have x1 := rq_at (d := e) (i := i') (by omega)
       have x2 := rq_at (d := e) (i := i' - 1) (by omega)
       have l1 : i' < N := by omega
       have l2 : i' - 1 < N := by omega
       by_cases hc : cmpU (e[i']!).id (e[i' - 1]!).id < 0
       ·have hah : ahQ e[i']! e[i' - 1]! = true := by rw [← cmpQ_lt]; simpa using hc
        have hst := ss_stop (d := e) (b := b) (i := i') (.inr hah)
        rw [hst] at k11
        rw [← k11]
        simp +contextual -implicitDefEqProofs (maxSteps := 2000000) only [↓wP, wQ, wQ1, wQ2, wQ3, wR, boxE, partsOf, ↓reduceIte, n1w, n2w, n3w, n4w, n5w, n6w, reduceCtorEq, i1w, i2w, i3w, i4w, i5w, exQ_exit, k3, k4, k5, k6, k7, k8, hlt', w3, w4, x1, x2, l1, l2, hat, hFq, hc]
        exact ⟨k9, k10⟩
       ·have hah : ahQ e[i']! e[i' - 1]! = false := by rw [← cmpQ_lt]; simpa using hc
        simp +contextual -implicitDefEqProofs (maxSteps := 2000000) only [↓wP, wQ, wQ1, wQ2, wQ3, wR, boxE, partsOf, ↓reduceIte, n1w, n2w, n3w, n4w, n5w, n6w, reduceCtorEq, i1w, i2w, i3w, i4w, i5w, exQ_exit, k3, k4, k5, k6, k7, k8, hlt', w3, w4, x1, x2, l1, l2, hat, hFq, hc]
        exact ⟨i' + 1, by omega, rfl, by omega, by omega, by rw [ss_go hlt hah]; exact k11⟩
      ·have hlt' : ¬ (i' : Int) < (b : Int) := by omega
       have hst := ss_stop (d := e) (b := b) (i := i') (.inl hlt)
       rw [hst] at k11
       rw [← k11]
       simp +contextual -implicitDefEqProofs (maxSteps := 2000000) only [↓wP, wQ, wQ1, wQ2, wQ3, wR, boxE, partsOf, ↓reduceIte, n1w, n2w, n3w, n4w, n5w, n6w, reduceCtorEq, i1w, i2w, i3w, i4w, i5w, exQ_exit, k3, k4, k5, k6, k7, k8, hlt']
       exact ⟨k9, k10⟩
     ·exact ⟨rfl, rfl, h2, h3, h4, h5, h6, h7, h9, h10, rfl⟩
    ·clear h2 h3 h4 h5 h6 h7
     intro env σ2 n2 ⟨k1, k2, h2, h3, h4, h5, h6, h7, g1, g2⟩
     subst k1 k2
     generalize scanSorted ahQ e b i = i2 at *
     by_cases e1 : i2 = b
     ·have e1' : ((i2 : Int) == (b : Int)) = true := by simp [e1]
      rw [if_pos e1] at h13
      simp +contextual -implicitDefEqProofs (maxSteps := 2000000) only [↓wP, wQ, wQ1, wQ2, wQ3, wR, boxE, partsOf, ↓reduceIte, n1w, n2w, n3w, n4w, n5w, n6w, reduceCtorEq, i1w, i2w, i3w, i4w, i5w, h2, h3, h4, h5, h6, h7, e1']
      have := hQ σ2
      rw [← h13] at this
      exact this h12
     have e1' : ((i2 : Int) == (b : Int)) = false := by simp; omega
     rw [if_neg e1] at h13
     by_cases e2 : b - a < 50
     ·have e2' : ((b - a : Nat) : Int) < 50 := by omega
      rw [if_pos e2] at h13
      simp +contextual -implicitDefEqProofs (maxSteps := 2000000) only [↓wP, wQ, wQ1, wQ2, wQ3, wR, boxE, partsOf, ↓reduceIte, n1w, n2w, n3w, n4w, n5w, n6w, reduceCtorEq, i1w, i2w, i3w, i4w, i5w, h2, h3, h4, h5, h6, h7, e1', w2, e2']
      have := hQ σ2
      rw [← h13] at this
      exact this h12
     have e2' : ¬ ((b - a : Nat) : Int) < 50 := by omega
     rw [if_neg e2] at h13
     have w3 : IntKind.i64.wrap ((i2 : Int) - 1) = ((i2 - 1 : Nat) : Int) := by rw [wrap_i64] <;> omega
     have w4 : IntKind.i64.wrap ((i2 : Int) + 1) = ((i2 + 1 : Nat) : Int) := by rw [wrap_i64] <;> omega
     have w5 : IntKind.i64.wrap ((i2 : Int) - (a : Int)) = ((i2 - a : Nat) : Int) := by rw [wrap_i64] <;> omega
     have w6 : IntKind.i64.wrap ((b : Int) - (i2 : Int)) = ((b - i2 : Nat) : Int) := by rw [wrap_i64] <;> omega
     have x1 := rq_at (d := e) (i := i2) (by omega)
     have x2 := rq_at (d := e) (i := i2 - 1) (by omega)
     obtain ⟨u, v, v', x3⟩ := rw_set_at (d := e) (i := i2) (j := i2 - 1) (x := e[i2 - 1]!) (by omega)
     have l1 : i2 < N := by omega
     have l2 : i2 - 1 < N := by omega
     have hsw := h12.swp i2 (i2 - 1)
     simp +contextual -implicitDefEqProofs (maxSteps := 2000000) only [↓wP, wQ, wQ1, wQ2, wQ3, wR, boxE, partsOf, ↓reduceIte, n1w, n2w, n3w, n4w, n5w, n6w, reduceCtorEq, i1w, i2w, i3w, i4w, i5w, h2, h3, h4, h5, h6, h7, e1', w2, e2', w3, w5, x1, x2, x3, l1, l2, hat]
     generalize (upd (upd σ2 id (some (.row 2 ((rq' e).set i2 (.agg [.int .u64 (e[i2 - 1]!).id, .ref (e[i2 - 1]!).k 0 (e[i2 - 1]!).n 1]))))) id
      (some (.row 2 (((rq' e).set i2 (.agg [.int .u64 (e[i2 - 1]!).id, .ref (e[i2 - 1]!).k 0 (e[i2 - 1]!).n 1])).set (i2 - 1) (.agg [.int .u64 (e[i2]!).id, .ref (e[i2]!).k 0 (e[i2]!).n 1]))))) = σ3 at hsw
     have hsz : (swp e i2 (i2 - 1)).size = N := by rw [swp_size, h11]
     generalize swp e i2 (i2 - 1) = g0 at *
     clear x1 x2 x3 hat h12
     refine condC_cut (fun env σ' n' => n' = n2 ∧ env 0 = .ref id 0 N 2 ∧ env 1 = .int .i64 (a : Int) ∧ env 2 = .int .i64 (b : Int) ∧ env 3 = .fn F [] ∧ env 9 = .int .i64 (i2 : Int) ∧ env 10 = .int .i64 (jj : Int) ∧ At σ' σ id (fixDown ahQ a i2 g0)) ?_ ?_ ?_
     ·intro hx
      have hx' : 2 ≤ i2 - a := by have := of_decide_eq_true hx; omega
      have hfd : fixDown ahQ a i2 g0 = shiftDown ahQ (i2 - 1) g0 := by unfold fixDown; rw [if_pos hx']
      rw [hfd]
      simp +contextual -implicitDefEqProofs (maxSteps := 2000000) only [↓wP, wQ, wQ1, wQ2, wQ3, wR, boxE, partsOf, ↓reduceIte, n1w, n2w, n3w, n4w, n5w, n6w, reduceCtorEq, i1w, i2w, i3w, i4w, i5w, h2, h3, h4, h5, h6, h7, w3]
      refine WC_cutB (fun env σ' n' => n' = n2 ∧ env 0 = .ref id 0 N 2 ∧ env 1 = .int .i64 (a : Int) ∧ env 2 = .int .i64 (b : Int) ∧ env 3 = .fn F [] ∧ env 9 = .int .i64 (i2 : Int) ∧ env 10 = .int .i64 (jj : Int) ∧ At σ' σ id (shiftDown ahQ (i2 - 1) g0)) ?_ ?_
      ·refine WC_loopI 0 (fun (s : Nat × Array (Rq fr)) env σ' n' => n' = n2 ∧ env 0 = .ref id 0 N 2 ∧ env 1 = .int .i64 (a : Int) ∧ env 2 = .int .i64 (b : Int) ∧ env 3 = .fn F [] ∧ env 9 = .int .i64 (i2 : Int) ∧ env 10 = .int .i64 (jj : Int) ∧ env 11 = .int .i64 (s.1 : Int) ∧
        s.1 < N ∧ s.2.size = N ∧ At σ' σ id s.2 ∧ shiftDown ahQ s.1 s.2 = shiftDown ahQ (i2 - 1) g0) (fun s => s.1) ?_ (i2 - 1, g0) _ _ _ ?_
       ·clear h2 h3 h4 h5 h6 h7 hsw hx
        intro ⟨j, g⟩ env σ4 n4 ⟨k1, h2, h3, h4, h5, h6, h7, k2, k3, k4, k5, k6⟩
        subst k1
        dsimp only at k2 k3 k4 k5 k6
        have hat := k5.1.1
        have hFq := hF.at k5.1
        cases j with
        | zero =>
          have hj : ¬ ((1 : Int) ≤ ((0 : Nat) : Int)) := by decide
          simp +contextual -implicitDefEqProofs (maxSteps := 2000000) only [↓wP, wQ, wQ1, wQ2, wQ3, wR, boxE, partsOf, ↓reduceIte, n1w, n2w, n3w, n4w, n5w, n6w, reduceCtorEq, i1w, i2w, i3w, i4w, i5w, h2, h3, h4, h5, h6, h7, k2, hj]
          rw [← k6]
          exact ⟨rfl, rfl, rfl, h2, h3, h4, h5, h6, h7, k5⟩
        | succ j =>
          have hj : (1 : Int) ≤ ((j + 1 : Nat) : Int) := by omega
          have wj : IntKind.i64.wrap (((j + 1 : Nat) : Int) - 1) = (j : Int) := by rw [wrap_i64] <;> omega
          have x1 := rq_at (d := g) (i := j + 1) (by omega)
          have x2 := rq_at (d := g) (i := j) (by omega)
          obtain ⟨u, v, v', x3⟩ := rw_set_at (d := g) (i := j + 1) (j := j) (x := g[j]!) (by omega)
          have m1 : j + 1 < N := by omega
          have m2 : j < N := by omega
          rw [shiftDown] at k6
          by_cases hc : cmpU (g[j + 1]!).id (g[j]!).id < 0
          ·have hah : ahQ g[j + 1]! g[j]! = true := by rw [← cmpQ_lt]; simpa using hc
           rw [if_neg (by simp [hah])] at k6
           simp +contextual -implicitDefEqProofs (maxSteps := 2000000) only [↓wP, wQ, wQ1, wQ2, wQ3, wR, boxE, partsOf, ↓reduceIte, n1w, n2w, n3w, n4w, n5w, n6w, reduceCtorEq, i1w, i2w, i3w, i4w, i5w, h2, h3, h4, h5, h6, h7, k2, hj, wj, x1, x2, x3, m1, m2, hat, hFq, hc]
           exact ⟨(j, swp g (j + 1) j), by dsimp only; omega, rfl, by dsimp only; omega, by rw [swp_size, k4], k5.swp _ _, k6⟩
          ·have hah : ahQ g[j + 1]! g[j]! = false := by rw [← cmpQ_lt]; simpa using hc
           rw [if_pos (by simp [hah])] at k6
           simp +contextual -implicitDefEqProofs (maxSteps := 2000000) only [↓wP, wQ, wQ1, wQ2, wQ3, wR, boxE, partsOf, ↓reduceIte, n1w, n2w, n3w, n4w, n5w, n6w, reduceCtorEq, i1w, i2w, i3w, i4w, i5w, h2, h3, h4, h5, h6, h7, k2, hj, wj, x1, x2, m1, m2, hat, hFq, hc]
           rw [← k6]
           exact ⟨rfl, rfl, rfl, h2, h3, h4, h5, h6, h7, k5⟩
       ·simp +contextual -implicitDefEqProofs (maxSteps := 2000000) only [↓wP, wQ, wQ1, wQ2, wQ3, wR, boxE, partsOf, ↓reduceIte, n1w, n2w, n3w, n4w, n5w, n6w, reduceCtorEq, i1w, i2w, i3w, i4w, i5w, h2, h3, h4, h5, h6, h7]
        exact ⟨l2, hsz, hsw⟩
      ·intro env σ' n' hh
       exact ⟨rfl, hh⟩
     ·intro hx
      have hx' : ¬ 2 ≤ i2 - a := by have := of_decide_eq_false hx; omega
      have hfd : fixDown ahQ a i2 g0 = g0 := by unfold fixDown; rw [if_neg hx']
      rw [hfd]
      simp +contextual -implicitDefEqProofs (maxSteps := 2000000) only [↓wP, wQ, wQ1, wQ2, wQ3, wR, boxE, partsOf, ↓reduceIte, n1w, n2w, n3w, n4w, n5w, n6w, reduceCtorEq, i1w, i2w, i3w, i4w, i5w, h2, h3, h4, h5, h6, h7]
      exact hsw
     ·clear h2 h3 h4 h5 h6 h7 hsw
      intro env σ4 n4 ⟨k1, h2, h3, h4, h5, h6, h7, hsw⟩
      subst k1
      have hsz2 : (fixDown ahQ a i2 g0).size = N := by
       unfold fixDown
       split
       ·rw [shiftD_size, hsz]
       ·exact hsz
      generalize fixDown ahQ a i2 g0 = g1 at *
      clear hsz
      simp +contextual -implicitDefEqProofs (maxSteps := 2000000) only [↓wP, wQ, wQ1, wQ2, wQ3, wR, boxE, partsOf, ↓reduceIte, n1w, n2w, n3w, n4w, n5w, n6w, reduceCtorEq, i1w, i2w, i3w, i4w, i5w, h2, h3, h4, h5, h6, h7, w6]
      refine condC_cut (fun env σ' n' => n' = n4 ∧ env 0 = .ref id 0 N 2 ∧ env 1 = .int .i64 (a : Int) ∧ env 2 = .int .i64 (b : Int) ∧ env 3 = .fn F [] ∧ env 9 = .int .i64 (i2 : Int) ∧ env 10 = .int .i64 (jj : Int) ∧ At σ' σ id (fixUp ahQ b i2 g1) ∧ (fixUp ahQ b i2 g1).size = N) ?_ ?_ ?_
      ·intro hx
       have hx' : 2 ≤ b - i2 := by have := of_decide_eq_true hx; omega
       have hfd : fixUp ahQ b i2 g1 = shiftUp ahQ b (i2 + 1) g1 := by unfold fixUp; rw [if_pos hx']
       rw [hfd]
       simp +contextual -implicitDefEqProofs (maxSteps := 2000000) only [↓wP, wQ, wQ1, wQ2, wQ3, wR, boxE, partsOf, ↓reduceIte, n1w, n2w, n3w, n4w, n5w, n6w, reduceCtorEq, i1w, i2w, i3w, i4w, i5w, h2, h3, h4, h5, h6, h7, w4]
       refine WC_cutB (fun env σ' n' => n' = n4 ∧ env 0 = .ref id 0 N 2 ∧ env 1 = .int .i64 (a : Int) ∧ env 2 = .int .i64 (b : Int) ∧ env 3 = .fn F [] ∧ env 9 = .int .i64 (i2 : Int) ∧ env 10 = .int .i64 (jj : Int) ∧ At σ' σ id (shiftUp ahQ b (i2 + 1) g1) ∧ (shiftUp ahQ b (i2 + 1) g1).size = N) ?_ ?_
       ·refine WC_loopI 0 (fun (s : Nat × Array (Rq fr)) env σ' n' => n' = n4 ∧ env 0 = .ref id 0 N 2 ∧ env 1 = .int .i64 (a : Int) ∧ env 2 = .int .i64 (b : Int) ∧ env 3 = .fn F [] ∧ env 9 = .int .i64 (i2 : Int) ∧ env 10 = .int .i64 (jj : Int) ∧ env 12 = .int .i64 (s.1 : Int) ∧
         1 ≤ s.1 ∧ s.1 ≤ b ∧ s.2.size = N ∧ At σ' σ id s.2 ∧ shiftUp ahQ b s.1 s.2 = shiftUp ahQ b (i2 + 1) g1) (fun s => b - s.1) ?_ (i2 + 1, g1) _ _ _ ?_
        ·clear h2 h3 h4 h5 h6 h7 hsw hx
         intro ⟨j, g⟩ env σ5 n5 ⟨k1, h2, h3, h4, h5, h6, h7, k2, k2', k3, k4, k5, k6⟩
         subst k1
         dsimp only at k2 k2' k3 k4 k5 k6
         have hat := k5.1.1
         have hFq := hF.at k5.1
         rw [shiftUp] at k6
         by_cases hlt : j < b
         ·rw [if_pos hlt] at k6
          have hj : (j : Int) < (b : Int) := by omega
          have wj : IntKind.i64.wrap ((j : Int) - 1) = ((j - 1 : Nat) : Int) := by rw [wrap_i64] <;> omega
          have wj2 : IntKind.i64.wrap ((j : Int) + 1) = ((j + 1 : Nat) : Int) := by rw [wrap_i64] <;> omega
          have x1 := rq_at (d := g) (i := j) (by omega)
          have x2 := rq_at (d := g) (i := j - 1) (by omega)
          obtain ⟨u, v, v', x3⟩ := rw_set_at (d := g) (i := j) (j := j - 1) (x := g[j - 1]!) (by omega)
          have m1 : j < N := by omega
          have m2 : j - 1 < N := by omega
          by_cases hc : cmpU (g[j]!).id (g[j - 1]!).id < 0
          ·have hah : ahQ g[j]! g[j - 1]! = true := by rw [← cmpQ_lt]; simpa using hc
           rw [if_neg (by simp [hah])] at k6
           simp +contextual -implicitDefEqProofs (maxSteps := 2000000) only [↓wP, wQ, wQ1, wQ2, wQ3, wR, boxE, partsOf, ↓reduceIte, n1w, n2w, n3w, n4w, n5w, n6w, reduceCtorEq, i1w, i2w, i3w, i4w, i5w, h2, h3, h4, h5, h6, h7, k2, hj, wj, wj2, x1, x2, x3, m1, m2, hat, hFq, hc]
           exact ⟨(j + 1, swp g j (j - 1)), by dsimp only; omega, rfl, by dsimp only; omega, by dsimp only; omega, by rw [swp_size, k4], k5.swp _ _, k6⟩
          ·have hah : ahQ g[j]! g[j - 1]! = false := by rw [← cmpQ_lt]; simpa using hc
           rw [if_pos (by simp [hah])] at k6
           simp +contextual -implicitDefEqProofs (maxSteps := 2000000) only [↓wP, wQ, wQ1, wQ2, wQ3, wR, boxE, partsOf, ↓reduceIte, n1w, n2w, n3w, n4w, n5w, n6w, reduceCtorEq, i1w, i2w, i3w, i4w, i5w, h2, h3, h4, h5, h6, h7, k2, hj, wj, wj2, x1, x2, m1, m2, hat, hFq, hc]
           rw [← k6]
           exact ⟨rfl, rfl, rfl, h2, h3, h4, h5, h6, h7, k5, k4⟩
         ·rw [if_neg hlt] at k6
          have hj : ¬ (j : Int) < (b : Int) := by omega
          simp +contextual -implicitDefEqProofs (maxSteps := 2000000) only [↓wP, wQ, wQ1, wQ2, wQ3, wR, boxE, partsOf, ↓reduceIte, n1w, n2w, n3w, n4w, n5w, n6w, reduceCtorEq, i1w, i2w, i3w, i4w, i5w, h2, h3, h4, h5, h6, h7, k2, hj]
          rw [← k6]
          exact ⟨rfl, rfl, rfl, h2, h3, h4, h5, h6, h7, k5, k4⟩
        ·simp +contextual -implicitDefEqProofs (maxSteps := 2000000) only [↓wP, wQ, wQ1, wQ2, wQ3, wR, boxE, partsOf, ↓reduceIte, n1w, n2w, n3w, n4w, n5w, n6w, reduceCtorEq, i1w, i2w, i3w, i4w, i5w, h2, h3, h4, h5, h6, h7]
         exact ⟨by omega, hsz2, hsw⟩
       ·intro env σ' n' hh
        exact ⟨rfl, hh⟩
      ·intro hx
       have hx' : ¬ 2 ≤ b - i2 := by have := of_decide_eq_false hx; omega
       have hfd : fixUp ahQ b i2 g1 = g1 := by unfold fixUp; rw [if_neg hx']
       rw [hfd]
       simp +contextual -implicitDefEqProofs (maxSteps := 2000000) only [↓wP, wQ, wQ1, wQ2, wQ3, wR, boxE, partsOf, ↓reduceIte, n1w, n2w, n3w, n4w, n5w, n6w, reduceCtorEq, i1w, i2w, i3w, i4w, i5w, h2, h3, h4, h5, h6, h7]
       exact ⟨hsw, hsz2⟩
      ·clear h2 h3 h4 h5 h6 h7 hsw
       intro env σ5 n5 ⟨k1, h2, h3, h4, h5, h6, h7, hsw, hsz3⟩
       subst k1
       simp +contextual -implicitDefEqProofs (maxSteps := 2000000) only [↓wP, wQ, wQ1, wQ2, wQ3, wR, boxE, partsOf, ↓reduceIte, n1w, n2w, n3w, n4w, n5w, n6w, reduceCtorEq, i1w, i2w, i3w, i4w, i5w, h2, h3, h4, h5, h6, h7, wk]
       exact ⟨((k, i2), fixUp ahQ b i2 g1), by dsimp only; omega, rfl, rfl, by dsimp only; omega, by dsimp only; omega, by dsimp only; omega, hsz3, hsw, h13⟩
 ·simp +contextual -implicitDefEqProofs (maxSteps := 2000000) only [↓wP, wQ, wQ1, wQ2, wQ3, wR, boxE, partsOf, ↓reduceIte, n1w, n2w, n3w, n4w, n5w, n6w, reduceCtorEq, i1w, i2w, i3w, i4w, i5w]
  exact ⟨rfl, by omega, by omega, hN, At.refl hσ⟩
end Go.Q.SV
end

section
/- A sort of few. -/
namespace Go.Q.SV
open Go.Q Go.Sort
variable {fr : Fr} [Inhabited (Rq fr)]
theorem raw112N (F : Nat) (hF : CmpQ fr F) {d : Array (Rq fr)} {N : Nat} (hN : d.size = N) (a b id n : Nat) (σ : Sto) (hab : a ≤ b) (hb : b ≤ N) (hn : N < 1000000) (hσ : Hs fr σ id d) {Q : V → Sto → Nat → Prop}
 (hQ : ∀ σ', At σ' σ id (insertionSort ahQ d a b) → Q .undef σ' n) :
 run T (.raw 71 [.ref id 0 N 2, .int .i64 (a : Int), .int .i64 (b : Int), .fn F []] σ n 0) (memQ Q) := by subst hN; exact raw71 F hF d a b id n σ hab hb hn hσ hQ
theorem raw114N (F : Nat) (hF : CmpQ fr F) {d : Array (Rq fr)} {N : Nat} (hN : d.size = N) (a b id n : Nat) (σ : Sto) (h8 : 8 ≤ b - a) (h60 : b - a < 130) (hb : b ≤ N) (hn : N < 1000000) (hid : id < n) (hσ : Hs fr σ id d) {Q : V → Sto → Nat → Prop}
 (hQ : ∀ σ' d' n', n ≤ n' → Hs fr σ' id d' → (∀ i, i ≠ id → i < n → σ' i = σ i) → PermIn a b d d' → Q .undef σ' n') :
 run T (.raw 73 [.ref id 0 N 2, .int .i64 (a : Int), .int .i64 (b : Int), .fn F []] σ n 0) (memQ Q) := by subst hN; exact raw73 F hF d a b id n σ h8 h60 hb hn hid hσ hQ
theorem raw116N (F : Nat) (hF : CmpQ fr F) {d : Array (Rq fr)} {N : Nat} (hN : d.size = N) (a b id n : Nat) (σ : Sto) (hab : a < b) (hb : b ≤ N) (hn : N < 1000000) (hσ : Hs fr σ id d) {Q : V → Sto → Nat → Prop}
 (hQ : ∀ σ' d', At σ' σ id d' → PermIn a b d d' → Q .undef σ' n) :
 run T (.raw 75 [.ref id 0 N 2, .int .i64 (a : Int), .int .i64 (b : Int), .fn F []] σ n 0) (memQ Q) := by subst hN; exact raw75 F hF d a b id n σ hab hb hn hσ hQ
theorem raw118N (F : Nat) (hF : CmpQ fr F) {d : Array (Rq fr)} {N : Nat} (hN : d.size = N) (a b p id n : Nat) (σ : Sto) (hap : a ≤ p) (hpb : p < b) (hb : b ≤ N) (hn : N < 1000000) (hσ : Hs fr σ id d) {Q : V → Sto → Nat → Prop}
 (hQ : ∀ σ', At σ' σ id (partitionEqual ahQ d a b p).2 → Q (.int .i64 ((partitionEqual ahQ d a b p).1 : Int)) σ' n) :
 run T (.raw 77 [.ref id 0 N 2, .int .i64 (a : Int), .int .i64 (b : Int), .int .i64 (p : Int), .fn F []] σ n 0) (memQ Q) := by subst hN; exact raw77 F hF d a b p id n σ hap hpb hb hn hσ hQ
theorem raw119N (F : Nat) (hF : CmpQ fr F) {d : Array (Rq fr)} {N : Nat} (hN : d.size = N) (a b p id n : Nat) (σ : Sto) (hap : a ≤ p) (hpb : p < b) (hb : b ≤ N) (hn : N < 1000000) (hσ : Hs fr σ id d) {Q : V → Sto → Nat → Prop}
 (hQ : ∀ σ', At σ' σ id (partition ahQ d a b p).2.2 → Q (.tup [.int .i64 ((partition ahQ d a b p).1 : Int), .bool (partition ahQ d a b p).2.1]) σ' n) :
 run T (.raw 78 [.ref id 0 N 2, .int .i64 (a : Int), .int .i64 (b : Int), .int .i64 (p : Int), .fn F []] σ n 0) (memQ Q) := by subst hN; exact raw78 F hF d a b p id n σ hap hpb hb hn hσ hQ
theorem frz_row {d : Array (Rq fr)} {N id : Nat} {σ : Sto} (hN : d.size = N) (h : Hs fr σ id d) (k : Nat) : frz σ (k + 4) (.ref id 0 N 2) = some (.sl 2 (rw' (d.map toR))) := by
 have hag : ∀ i, i < fr.i → σ i = fr.σ i := by rw [← h.2.1]; exact h.2.2
 have hl : N = (rq' d).length := by rw [rq_len, hN]
 have e1 : (rq' d).mapM (elemM (frz σ (k + 3))) = some (rw' (d.map toR)) := by
  unfold rq' rw'
  rw [Array.toList_map]
  induction d.toList with
  | nil => rfl
  | cons x l ih =>
    rw [List.map_cons, List.map_cons, List.map_cons, List.mapM_cons, ih]
    simp only [rqV, elemM_agg, List.mapM_cons, List.mapM_nil, frz_int, x.frz hag (k + 1)]
    rfl
 rw [frz_rf, h.1, elemsO_row, if_pos (by omega), List.drop_zero, hl, List.take_length, Option.bind_some, e1]
 rfl
theorem f74 (F : Nat) (hF : CmpQ fr F) (d : Array (Rq fr)) (a b id N : Nat) (σ : Sto) (n lk : Nat) (hN : d.size = N) (hσ : Hs fr σ id d) (hab : a < b) (hb : b ≤ N) (hn : N < 1000000) :
 ∃ (p : Nat) (h : Int), a ≤ p ∧ p < b ∧ (h = 0 ∨ h = 1 ∨ h = 2) ∧ callE T true 74 [.ref id 0 N 2, .int .i64 (a : Int), .int .i64 (b : Int), .fn F []] σ n lk = some (.tup [.int .i64 (p : Int), .int .i64 h], σ, n) := by
 obtain ⟨p, h, h1, h2, h3, h4⟩ := r74 F hF.1 (d.map toR) a b hab (by simp; omega) (by simp; omega)
 refine ⟨p, h, h1, h2, h3, ?_⟩
 rw [callE_eq (by decide)]
 have e : [V.ref id 0 N 2, .int .i64 (a : Int), .int .i64 (b : Int), .fn F []].mapM (frz σ 12) = some [.sl 2 (rw' (d.map toR)), .int .i64 (a : Int), .int .i64 (b : Int), .fn F []] := by
  simp only [List.mapM_cons, List.mapM_nil, frz_row hN hσ 8, frz_int, frz_fn]
  rfl
 rw [e, callR_some, h4, retE_some, backE_flat rfl]
 rfl
def Pdq (L N a0 b0 : Nat) (d : Array (Rq fr)) (a b lim : Nat) (e : Array (Rq fr)) : Prop :=
 a ≤ b ∧ b ≤ N ∧ b - a ≤ L ∧ b - a < 130 ∧ lim < 1000 ∧ e.size = N ∧ Below ahQ a b e ∧
 ∀ R, PermIn a b e R → SortedIn ahQ a b R → PermIn a0 b0 d R ∧ SortedIn ahQ a0 b0 R
theorem Pdq.perm {L N a0 b0 a b lim : Nat} {d e e' : Array (Rq fr)} (h : Pdq L N a0 b0 d a b lim e) (hp : PermIn a b e e') : Pdq L N a0 b0 d a b lim e' := by
 obtain ⟨h1, h2, h3, h4, h6, h7, h8, h9⟩ := h
 exact ⟨h1, h2, h3, h4, h6, by rw [hp.1, h7], h8.perm (by omega) hp, fun R hR hs => h9 R (permIn_trans _ _ _ _ _ hp hR) hs⟩
theorem bin_quo8 (m : Nat) (h : m < 9223372036854775808) : binV .quo (.int .i64 (m : Int)) (.int .i64 8) = some (.int .i64 ((m / 8 : Nat) : Int)) := by
 rw [bin_quo .i64 (m : Int) 8 (by decide)]
 have e : (m : Int).tdiv 8 = ((m / 8 : Nat) : Int) := rfl
 rw [e, wrap_nat (by omega)]
def Sorts (F L : Nat) : Prop := ∀ (d : Array (Rq fr)) (a b lim id n N : Nat) (σ : Sto), b - a < L → a ≤ b → b - a < 130 → b ≤ N → N < 1000000 → lim < 1000 → id < n → d.size = N → Hs fr σ id d →
 Below ahQ a b d → ∀ {Q : V → Sto → Nat → Prop}, (∀ σ' d' n', n ≤ n' → Hs fr σ' id d' → (∀ i, i ≠ id → i < n → σ' i = σ i) → PermIn a b d d' → SortedIn ahQ a b d' → Q .undef σ' n') →
 run T (.raw 62 [.ref id 0 N 2, .int .i64 (a : Int), .int .i64 (b : Int), .int .i64 (lim : Int), .fn F []] σ n 0) (memQ Q)
theorem raw62_step (F : Nat) (hF : CmpQ fr F) (L : Nat) (ih : Sorts (fr := fr) F L) : Sorts (fr := fr) F (L + 1) := by
 intro d a b lim id n N σ hL hab h50 hb hn hlim hid hN hσ hB Q hQ
 refine run_rawE (fn := g62) rfl rfl ?_
 simp only [g62, b62, zO, zN, zM, zL, zG, zP, zQ, zI, zA, zT, zF, zB, zC, zD, zE, zH, zJ, zK]
 simp +contextual -implicitDefEqProofs (maxSteps := 2000000) only [↓wP, wS, seval]
 refine WC_loopI 0 (fun (s : (Nat × Nat) × Nat) env σ' n' => n ≤ n' ∧ env 0 = .ref id 0 N 2 ∧ env 1 = .int .i64 (s.1.1 : Int) ∧ env 2 = .int .i64 (s.1.2 : Int) ∧ env 3 = .int .i64 (s.2 : Int) ∧ env 4 = .fn F [] ∧
  (∃ wb, env 10 = .bool wb) ∧ (∃ wp, env 11 = .bool wp) ∧ (∀ i, i ≠ id → i < n → σ' i = σ i) ∧ ∃ e, Pdq L N a b d s.1.1 s.1.2 s.2 e ∧ Hs fr σ' id e) (fun s => s.1.2 - s.1.1) ?_ ((a, b), lim) _ _ _ ?_
 ·intro ⟨⟨a', b'⟩, lim'⟩ env σ1 n1 ⟨h1, h2, h3, h4, h5, h6, ⟨wb, h7⟩, ⟨wp, h8⟩, hf, e, hp, h9⟩
  dsimp only at h3 h4 h5 hp
  obtain ⟨p1, p2, p3, p4, p6, p7, p8, p9⟩ := hp
  have hp : Pdq L N a b d a' b' lim' e := ⟨p1, p2, p3, p4, p6, p7, p8, p9⟩
  have w1 : IntKind.i64.wrap ((b' : Int) - (a' : Int)) = ((b' - a' : Nat) : Int) := by rw [wrap_i64] <;> omega
  by_cases hle : b' - a' ≤ 12
  ·have hle' : ((b' - a' : Nat) : Int) ≤ 12 := by omega
   simp +contextual -implicitDefEqProofs (maxSteps := 2000000) only [↓wP, wS, seval, h2, h3, h4, h5, h6, w1, hle']
   refine stepW_raw (by decide) (raw112N F hF p7 a' b' id n1 σ1 p1 p2 hn h9 fun σ2 hat => ?_)
   simp +contextual -implicitDefEqProofs (maxSteps := 2000000) only [↓wP, wS, seval]
   have hs := insertionSort_holds (lt := ahQ) swoQ e a' b' p1 (by omega)
   have hR := p9 _ hs.1 hs.2
   exact hQ _ _ _ h1 hat.1 (fun i hi hin => by rw [hat.2 i hi, hf i hi hin]) hR.1 hR.2
  ·have hle' : ¬ ((b' - a' : Nat) : Int) ≤ 12 := by omega
   by_cases hl00 : lim' = 0
   ·have hl0 : ((lim' : Int) == 0) = true := by simp [hl00]
    simp +contextual -implicitDefEqProofs (maxSteps := 2000000) only [↓wP, wS, seval, h2, h3, h4, h5, h6, h7, h8, w1, hle', hl0]
    refine stepW_raw (by decide) (raw72 F hF e N a' b' id n1 σ1 p7 (by omega) p2 hn h9 fun σ2 hat => ?_)
    simp +contextual -implicitDefEqProofs (maxSteps := 2000000) only [↓wP, wS, seval]
    have hs := heapSort_holds (lt := ahQ) swoQ e a' b' p1 (by omega)
    have hR := p9 _ hs.1 hs.2
    exact hQ _ _ _ h1 hat.1 (fun i hi hin => by rw [hat.2 i hi, hf i hi hin]) hR.1 hR.2
   have hl0 : ((lim' : Int) == 0) = false := by simp; omega
   simp +contextual -implicitDefEqProofs (maxSteps := 2000000) only [↓wP, wS, seval, h2, h3, h4, h5, h6, h7, h8, w1, hle', hl0]
   refine condC_cut (fun env' σ' n' => ∃ lim1 e1, n1 ≤ n' ∧ env' 0 = .ref id 0 N 2 ∧ env' 1 = .int .i64 (a' : Int) ∧ env' 2 = .int .i64 (b' : Int) ∧ env' 3 = .int .i64 ((lim1 : Nat) : Int) ∧ env' 4 = .fn F [] ∧
    env' 10 = .bool wb ∧ env' 11 = .bool wp ∧ env' 12 = .int .i64 ((b' - a' : Nat) : Int) ∧ lim' ≤ lim1 + 1 ∧ lim1 ≤ lim' ∧ Hs fr σ' id e1 ∧ PermIn a' b' e e1 ∧ (∀ i, i ≠ id → i < n → σ' i = σ i)) ?_ ?_ ?_
   ·intro hx
    have wl : IntKind.i64.wrap ((lim' : Int) - 1) = ((lim' - 1 : Nat) : Int) := by rw [wrap_i64] <;> omega
    simp +contextual -implicitDefEqProofs (maxSteps := 2000000) only [↓wP, wS, seval, h2, h3, h4, h5, h6, h7, h8]
    refine stepW_raw (by decide) (raw114N F hF p7 a' b' id n1 σ1 (by omega) (by omega) p2 hn (by omega) h9 fun σ2 d2 n2 g1 g2 g3 g4 => ?_)
    simp +contextual -implicitDefEqProofs (maxSteps := 2000000) only [↓wP, wS, seval, h2, h3, h4, h5, h6, h7, h8, wl]
    refine ⟨lim' - 1, d2, ?_⟩
    have : ∀ i, i ≠ id → i < n → σ2 i = σ i := fun i hi hin => by rw [g3 i hi (by omega), hf i hi hin]
    repeat' (first | assumption | rfl | omega | apply And.intro)
   ·intro hx
    simp +contextual -implicitDefEqProofs (maxSteps := 2000000) only [↓wP, wS, seval, h2, h3, h4, h5, h6, h7, h8]
    refine ⟨lim', e, ?_⟩
    have := permIn_refl e a' b'
    repeat' (first | assumption | rfl | omega | apply And.intro)
   ·clear h2 h3 h4 h5 h6 h7 h8 hf h9
    intro env σ1 n2 ⟨lim1, e1, hn1, h2, h3, h4, h5, h6, h7, h8, hlen, hl1, hl2, h9, hpm, hf⟩
    have hp1 := hp.perm hpm
    obtain ⟨q1, q2, q3, q4, q6, q7, q8, q9⟩ := hp1
    obtain ⟨p, hh, hp1', hp2', hh3, h115⟩ := f74 F hF e1 a' b' id N σ1 n2 0 q7 h9 (by omega) q2 hn
    simp +contextual -implicitDefEqProofs (maxSteps := 2000000) only [↓wP, wS, seval, h2, h3, h4, h5, h6, h7, h8, hlen, h115]
    refine condC_cut (fun env' σ' n' => ∃ (p' : Nat) (h' : Int) (e2 : Array (Rq fr)), n2 ≤ n' ∧ env' 0 = .ref id 0 N 2 ∧ env' 1 = .int .i64 (a' : Int) ∧ env' 2 = .int .i64 (b' : Int) ∧ env' 3 = .int .i64 ((lim1 : Nat) : Int) ∧ env' 4 = .fn F [] ∧
     env' 10 = .bool wb ∧ env' 11 = .bool wp ∧ env' 12 = .int .i64 ((b' - a' : Nat) : Int) ∧ env' 13 = .int .i64 (p' : Int) ∧ env' 14 = .int .i64 h' ∧ a' ≤ p' ∧ p' < b' ∧ Hs fr σ' id e2 ∧ PermIn a' b' e e2 ∧ (∀ i, i ≠ id → i < n → σ' i = σ i)) ?_ ?_ ?_
    ·intro hx
     have wb1 : IntKind.i64.wrap ((b' : Int) - 1) = ((b' - 1 : Nat) : Int) := by rw [wrap_i64] <;> omega
     have wpa : IntKind.i64.wrap ((p : Int) - (a' : Int)) = ((p - a' : Nat) : Int) := by rw [wrap_i64] <;> omega
     have wpp : IntKind.i64.wrap (((b' - 1 : Nat) : Int) - ((p - a' : Nat) : Int)) = ((b' - 1 - (p - a') : Nat) : Int) := by rw [wrap_i64] <;> omega
     simp +contextual -implicitDefEqProofs (maxSteps := 2000000) only [↓wP, wS, seval, h2, h3, h4, h5, h6, h7, h8, hlen]
     refine stepW_raw (by decide) (raw116N F hF q7 a' b' id n2 σ1 (by omega) q2 hn h9 fun σ2 d2 g1 g2 => ?_)
     simp +contextual -implicitDefEqProofs (maxSteps := 2000000) only [↓wP, wS, seval, h2, h3, h4, h5, h6, h7, h8, hlen, wb1, wpa, wpp]
     refine ⟨b' - 1 - (p - a'), 1, d2, ?_⟩
     have : ∀ i, i ≠ id → i < n → σ2 i = σ i := fun i hi hin => by rw [g1.2 i hi, hf i hi hin]
     have := permIn_trans _ _ _ _ _ hpm g2
     have := g1.1
     repeat' (first | assumption | rfl | omega | apply And.intro)
    ·intro hx
     simp +contextual -implicitDefEqProofs (maxSteps := 2000000) only [↓wP, wS, seval, h2, h3, h4, h5, h6, h7, h8, hlen]
     refine ⟨p, hh, e1, ?_⟩
     repeat' (first | assumption | rfl | omega | apply And.intro)
    ·clear h2 h3 h4 h5 h6 h7 h8 hlen hpm hf h9 q1 q2 q3 q4 q6 q7 q8 q9 h115
     intro env σ1 n3 ⟨p', h', e2, hn3, h2, h3, h4, h5, h6, h7, h8, hlen, h13, h14, hpa, hpb, h9, hpm, hf⟩
     obtain ⟨q1, q2, q3, q4, q6, q7, q8, q9⟩ := hp.perm hpm
     simp +contextual -implicitDefEqProofs (maxSteps := 2000000) only [↓wP, wS, seval, h2, h3, h4, h5, h6, h7, h8, hlen, h13, h14]
     refine condC_cut (fun env' σ' n' => ∃ (e3 : Array (Rq fr)), n3 ≤ n' ∧ env' 0 = .ref id 0 N 2 ∧ env' 1 = .int .i64 (a' : Int) ∧ env' 2 = .int .i64 (b' : Int) ∧ env' 3 = .int .i64 ((lim1 : Nat) : Int) ∧ env' 4 = .fn F [] ∧
      env' 10 = .bool wb ∧ env' 11 = .bool wp ∧ env' 12 = .int .i64 ((b' - a' : Nat) : Int) ∧ env' 13 = .int .i64 (p' : Int) ∧ Hs fr σ' id e3 ∧ PermIn a' b' e e3 ∧ (∀ i, i ≠ id → i < n → σ' i = σ i)) ?_ ?_ ?_
     ·intro hx
      simp +contextual -implicitDefEqProofs (maxSteps := 2000000) only [↓wP, wS, seval, h2, h3, h4, h5, h6, h7, h8, hlen, h13, h14]
      refine stepW_raw (by decide) (raw76 F hF e2 N a' b' id n3 σ1 q7 (by omega) q2 hn h9 fun σ2 hat => ?_)
      obtain ⟨ps1, ps2⟩ := partialInsertionSort_holds (lt := ahQ) swoQ e2 a' b' (by omega) (by omega) q8
      generalize (partialInsertionSort ahQ e2 a' b').1 = e3 at *
      generalize (partialInsertionSort ahQ e2 a' b').2 = r at *
      have hfr : ∀ i, i ≠ id → i < n → σ2 i = σ i := fun i hi hin => by rw [hat.2 i hi, hf i hi hin]
      have hpm3 := permIn_trans _ _ _ _ _ hpm ps1
      cases r
      ·simp +contextual -implicitDefEqProofs (maxSteps := 2000000) only [↓wP, wS, seval, h2, h3, h4, h5, h6, h7, h8, hlen, h13, h14]
       exact ⟨e3, hat.1, hpm3, hfr⟩
      ·simp +contextual -implicitDefEqProofs (maxSteps := 2000000) only [↓wP, wS, seval, h2, h3, h4, h5, h6, h7, h8, hlen, h13, h14]
       have hR := q9 e3 ps1 (ps2 rfl)
       exact hQ _ _ _ (by omega) hat.1 hfr hR.1 hR.2
     ·intro hx
      simp +contextual -implicitDefEqProofs (maxSteps := 2000000) only [↓wP, wS, seval, h2, h3, h4, h5, h6, h7, h8, hlen, h13, h14]
      exact ⟨e2, h9, hpm, hf⟩
     ·clear h2 h3 h4 h5 h6 h7 h8 hlen h13 h14 hpm hf h9 q1 q2 q3 q4 q6 q7 q8 q9
      intro env σ2 n4 ⟨e3, hn4, h2, h3, h4, h5, h6, h7, h8, hlen, h13, h9, hpm, hf⟩
      have hn3' : n1 ≤ n4 := by omega
      clear hn4
      rename_i e2old
      obtain ⟨q1, q2, q3, q4, q6, q7, q8, q9⟩ := hp.perm hpm
      generalize e3 = e2 at *
      rw [seqQ_normal, WC_seq]
      refine WC_cut (fun env' σ' n' => n' = n4 ∧ σ' = σ2 ∧ env' 0 = .ref id 0 N 2 ∧ env' 1 = .int .i64 (a' : Int) ∧ env' 2 = .int .i64 (b' : Int) ∧ env' 3 = .int .i64 ((lim1 : Nat) : Int) ∧ env' 4 = .fn F [] ∧
       env' 10 = .bool wb ∧ env' 11 = .bool wp ∧ env' 12 = .int .i64 ((b' - a' : Nat) : Int) ∧ env' 13 = .int .i64 (p' : Int)) ?_ ?_
      ·by_cases ha0 : 0 < a'
       ·have ha0' : (0 : Int) < (a' : Int) := by omega
        have wa1 : IntKind.i64.wrap ((a' : Int) - 1) = ((a' - 1 : Nat) : Int) := by rw [wrap_i64] <;> omega
        have x1 := rq_at (d := e2) (i := a' - 1) (by omega)
        have x2 := rq_at (d := e2) (i := p') (by omega)
        have l1 : a' - 1 < N := by omega
        have l2 : p' < N := by omega
        have hFq := hF.at h9
        by_cases hc : cmpU (e2[a' - 1]!).id (e2[p']!).id < 0
        ·simp +contextual -implicitDefEqProofs (maxSteps := 2000000) only [↓wP, wS, seval, h2, h3, h4, h5, h6, h7, h8, hlen, h13, ha0', wa1, h9.1, x1, x2, l1, l2, hFq, hc]
        ·have hah : ahQ e2[a' - 1]! e2[p']! = false := by rw [← cmpQ_lt]; simpa using hc
         simp +contextual -implicitDefEqProofs (maxSteps := 2000000) only [↓wP, wS, seval, h2, h3, h4, h5, h6, h7, h8, hlen, h13, ha0', wa1, h9.1, x1, x2, l1, l2, hFq, hc]
         refine stepW_raw (by decide) (raw118N F hF q7 a' b' p' id n4 σ2 hpa hpb q2 hn h9 fun σ5 hat => ?_)
         obtain ⟨r1, r2, r3, r4, r5⟩ := round_eq (lt := ahQ) swoQ (partitionEqual_holds ahQ) (d3 := e2) (d4 := (partitionEqual ahQ e2 a' b' p').2) (mid := (partitionEqual ahQ e2 a' b' p').1) (a := a') (b := b') (pivot := p') ha0 hpa hpb (by omega) q8 hah rfl
         simp +contextual -implicitDefEqProofs (maxSteps := 2000000) only [↓wP, wS, seval, h2, h3, h4, h5, h6, h7, h8, hlen, h13]
         generalize (partitionEqual ahQ e2 a' b' p').2 = e3 at *
         generalize (partitionEqual ahQ e2 a' b' p').1 = mid at *
         have hfr : ∀ i, i ≠ id → i < n → σ5 i = σ i := fun i hi hin => by rw [hat.2 i hi, hf i hi hin]
         refine ⟨((mid, b'), lim1), by dsimp only; omega, by omega, rfl, rfl, rfl, ⟨_, rfl⟩, ⟨_, rfl⟩, hfr, e3, ⟨r2, q2, by dsimp only; omega, by dsimp only; omega, by dsimp only; omega, by rw [r3, q7], r4, fun R hR hs => ?_⟩, hat.1⟩
         obtain ⟨t1, t2⟩ := r5 R hR hs
         exact q9 R t1 t2
       ·have ha0' : ¬ (0 : Int) < (a' : Int) := by omega
        simp +contextual -implicitDefEqProofs (maxSteps := 2000000) only [↓wP, wS, seval, h2, h3, h4, h5, h6, h7, h8, hlen, h13, ha0']
      ·clear h2 h3 h4 h5 h6 h7 h8 hlen h13
       intro env σ3 n5 ⟨hn5, hs5, h2, h3, h4, h5, h6, h7, h8, hlen, h13⟩
       subst hn5 hs5
       simp +contextual -implicitDefEqProofs (maxSteps := 2000000) only [↓wP, wS, seval, h2, h3, h4, h5, h6, h7, h8, hlen, h13]
       refine stepW_raw (by decide) (raw119N F hF q7 a' b' p' id n5 σ3 hpa hpb q2 hn h9 fun σ5 hat => ?_)
       obtain ⟨r1, r2, r3, r4, r5, r6, r7⟩ := round_part (lt := ahQ) swoQ (partition_holds ahQ) (d3 := e2) (d4 := (partition ahQ e2 a' b' p').2.2) (mid := (partition ahQ e2 a' b' p').1) (ap := (partition ahQ e2 a' b' p').2.1) (a := a') (b := b') (pivot := p') hpa hpb (by omega) q8 rfl
       generalize (partition ahQ e2 a' b' p').2.2 = e3 at *
       generalize (partition ahQ e2 a' b' p').1 = mid at *
       generalize (partition ahQ e2 a' b' p').2.1 = ap at *
       have hfr : ∀ i, i ≠ id → i < n → σ5 i = σ i := fun i hi hin => by rw [hat.2 i hi, hf i hi hin]
       have wma : IntKind.i64.wrap ((mid : Int) - (a' : Int)) = ((mid - a' : Nat) : Int) := by rw [wrap_i64] <;> omega
       have wbm : IntKind.i64.wrap ((b' : Int) - (mid : Int)) = ((b' - mid : Nat) : Int) := by rw [wrap_i64] <;> omega
       have wm1 : IntKind.i64.wrap ((mid : Int) + 1) = ((mid + 1 : Nat) : Int) := by rw [wrap_i64] <;> omega
       have q8' := bin_quo8 (b' - a') (by omega)
       have hsz : e3.size = N := by rw [r3, q7]
       by_cases hlr : mid - a' < b' - mid
       ·have hlr' : ((mid - a' : Nat) : Int) < ((b' - mid : Nat) : Int) := by omega
        simp +contextual -implicitDefEqProofs (maxSteps := 2000000) only [↓wP, wS, seval, h2, h3, h4, h5, h6, h7, h8, hlen, h13, wma, wbm, wm1, q8', hlr']
        refine stepW_raw (by decide) (ih e3 a' mid lim1 id n5 N σ5 (by omega) r1 (by omega) (by omega) hn (by omega) (by omega) hsz hat.1 r4 fun σ6 d6 n6 k1 k2 k3 k4 k5 => ?_)
        obtain ⟨t1, t2⟩ := r6 d6 k4 k5
        simp +contextual -implicitDefEqProofs (maxSteps := 2000000) only [↓wP, wS, seval, h2, h3, h4, h5, h6, h7, h8, hlen, h13, wm1]
        have hfr2 : ∀ i, i ≠ id → i < n → σ6 i = σ i := fun i hi hin => by rw [k3 i hi (by omega), hfr i hi hin]
        refine ⟨((mid + 1, b'), lim1), by dsimp only; omega, by omega, rfl, rfl, rfl, ⟨_, rfl⟩, ⟨_, rfl⟩, hfr2, d6, ⟨by dsimp only; omega, q2, by dsimp only; omega, by dsimp only; omega, by dsimp only; omega, by rw [k4.1, hsz], t1, fun R hR hs => ?_⟩, k2⟩
        obtain ⟨u1, u2⟩ := t2 R hR hs
        exact q9 R u1 u2
       ·have hlr' : ¬ ((mid - a' : Nat) : Int) < ((b' - mid : Nat) : Int) := by omega
        simp +contextual -implicitDefEqProofs (maxSteps := 2000000) only [↓wP, wS, seval, h2, h3, h4, h5, h6, h7, h8, hlen, h13, wma, wbm, wm1, q8', hlr']
        refine stepW_raw (by decide) (ih e3 (mid + 1) b' lim1 id n5 N σ5 (by omega) (by omega) (by omega) q2 hn (by omega) (by omega) hsz hat.1 r5 fun σ6 d6 n6 k1 k2 k3 k4 k5 => ?_)
        obtain ⟨t1, t2⟩ := r7 d6 k4 k5
        simp +contextual -implicitDefEqProofs (maxSteps := 2000000) only [↓wP, wS, seval, h2, h3, h4, h5, h6, h7, h8, hlen, h13]
        have hfr2 : ∀ i, i ≠ id → i < n → σ6 i = σ i := fun i hi hin => by rw [k3 i hi (by omega), hfr i hi hin]
        refine ⟨((a', mid), lim1), by dsimp only; omega, by omega, rfl, rfl, rfl, ⟨_, rfl⟩, ⟨_, rfl⟩, hfr2, d6, ⟨by dsimp only; omega, by dsimp only; omega, by dsimp only; omega, by dsimp only; omega, by dsimp only; omega, by rw [k4.1, hsz], t1, fun R hR hs => ?_⟩, k2⟩
        obtain ⟨u1, u2⟩ := t2 R hR hs
        exact q9 R u1 u2
 ·simp +contextual -implicitDefEqProofs (maxSteps := 2000000) only [↓wP, wS, seval]
  exact ⟨⟨true, rfl⟩, ⟨true, rfl⟩, fun _ _ _ => trivial, d, ⟨hab, hb, by omega, h50, hlim, hN, hB, fun R hR hs => ⟨hR, hs⟩⟩, hσ⟩
theorem raw62 (F : Nat) (hF : CmpQ fr F) : ∀ L : Nat, Sorts (fr := fr) F L
 | 0 => fun _ _ _ _ _ _ _ _ h => absurd h (by omega)
 | L + 1 => raw62_step F hF L (raw62 F hF L)
def chk63 (m : Nat) : Bool := match exJob T 60 (.pure 63 [.int .u64 (m : Int)]) with
 | some (.val (.int .i64 M)) => decide (0 ≤ M ∧ M < 1000)
 | _ => false
theorem all63 : (List.range 129).all chk63 = true := by decide +kernel
theorem r63 (m : Nat) (h : m < 129) : ∃ M : Nat, M < 1000 ∧ res T 63 [.int .u64 (m : Int)] = some (.int .i64 (M : Int)) := by
 have h := List.all_eq_true.1 all63 m (List.mem_range.2 h)
 unfold chk63 at h
 split at h
 ·rename_i M hM
  simp only [decide_eq_true_eq] at h
  refine ⟨M.toNat, by omega, ?_⟩
  rw [show ((M.toNat : Nat) : Int) = M by omega]
  exact run_res (exJob_sound 60 _ _ hM)
 ·cases h
theorem raw41 (F : Nat) (hF : CmpQ fr F) (d : Array (Rq fr)) (id n : Nat) (σ : Sto) (hd : d.size < 129) (hid : id < n) (hσ : Hs fr σ id d) {Q : V → Sto → Nat → Prop}
 (hQ : ∀ σ' d' n', n ≤ n' → Hs fr σ' id d' → (∀ i, i ≠ id → i < n → σ' i = σ i) → PermIn 0 d.size d d' → SortedIn ahQ 0 d.size d' → Q .undef σ' n') :
 run T (.raw 41 [.ref id 0 d.size 2, .fn F []] σ n 0) (memQ Q) := by
 refine run_rawE (fn := g41) rfl rfl ?_
 simp only [g41, b41, zO, zN, zM, zL, zG, zP, zQ, zI, zA, zT, zF, zB, zC, zD, zE, zH, zJ, zK]
 obtain ⟨M, h2, h3⟩ := r63 d.size hd
 have f63 := callE_tr (fs := true) (by decide) h3 (by simp [Tr]) rfl
 have wu : IntKind.u64.wrap ((d.size : Nat) : Int) = ((d.size : Nat) : Int) := by rw [wrap_u64] <;> omega
 simp +contextual -implicitDefEqProofs (maxSteps := 2000000) only [↓wP, wS, seval, wu, f63]
 refine stepW_raw (by decide) (raw62 F hF (d.size + 1) d 0 d.size M id n d.size σ (by omega) (by omega) (by omega) (by omega) (by omega) h2 hid rfl hσ (.inl rfl) fun σ' d' n' k1 k2 k3 k4 k5 => ?_)
 simp +contextual -implicitDefEqProofs (maxSteps := 2000000) only [↓wP, wS, seval]
 exact hQ σ' d' n' k1 k2 k3 k4 k5
end Go.Q.SV
end

section
/- A sort of no rows; what a sort comes to. -/
namespace Go.Q.SV
open Go.Q Go.Sort
open Nat renaming reduceEqDiff → n1w, reduceAdd → n2w, reduceSub → n3w, reduceLeDiff → n4w, reduceLT → n5w, reduceMul → n6w
open Int renaming reduceBNe → i1w, reduceBEq → i2w, reduceLT → i3w, reduceLE → i4w, reduceGT → i5w
theorem raw71n (F : Nat) (σ : Sto) (n : Nat) {Q : V → Sto → Nat → Prop} (hQ : Q .undef σ n) : run T (.raw 71 [.nilS, .int .i64 0, .int .i64 0, .fn F []] σ n 0) (memQ Q) := by
 refine run_rawE (fn := g71) rfl rfl ?_
 simp only [g71, b71, zO, zN, zM, zL, zG, zP, zQ, zI, zA, zT, zF, zB, zC, zD, zE, zH, zJ, zK]
 have w1 : IntKind.i64.wrap ((0 : Int) + 1) = 1 := by decide
 simp +contextual -implicitDefEqProofs (maxSteps := 2000000) only [↓wP, wQ, wQ1, wQ2, wQ3, wR, boxE, partsOf, ↓reduceIte, n1w, n2w, n3w, n4w, n5w, n6w, reduceCtorEq, i1w, i2w, i3w, i4w, i5w, w1]
 refine WC_loopI 0 (fun (_ : Nat) env σ' n' => σ' = σ ∧ n' = n ∧ env 2 = .int .i64 0 ∧ env 8 = .int .i64 1) (fun s => s) ?_ 0 _ _ _ ?_
 ·intro _ env σ1 n1 ⟨h1, h2, h3, h4⟩
  subst h1 h2
  simp +contextual -implicitDefEqProofs (maxSteps := 2000000) only [↓wP, wQ, wQ1, wQ2, wQ3, wR, boxE, partsOf, ↓reduceIte, n1w, n2w, n3w, n4w, n5w, n6w, reduceCtorEq, i1w, i2w, i3w, i4w, i5w, h3, h4]
  exact hQ
 ·simp +contextual -implicitDefEqProofs (maxSteps := 2000000) only [↓wP, wQ, wQ1, wQ2, wQ3, wR, boxE, partsOf, ↓reduceIte, n1w, n2w, n3w, n4w, n5w, n6w, reduceCtorEq, i1w, i2w, i3w, i4w, i5w]
theorem raw62n (F : Nat) (M : Nat) (σ : Sto) (n : Nat) {Q : V → Sto → Nat → Prop} (hQ : Q .undef σ n) : run T (.raw 62 [.nilS, .int .i64 0, .int .i64 0, .int .i64 (M : Int), .fn F []] σ n 0) (memQ Q) := by
 refine run_rawE (fn := g62) rfl rfl ?_
 simp only [g62, b62, zO, zN, zM, zL, zG, zP, zQ, zI, zA, zT, zF, zB, zC, zD, zE, zH, zJ, zK]
 have w1 : IntKind.i64.wrap ((0 : Int) - 0) = 0 := by decide
 simp +contextual -implicitDefEqProofs (maxSteps := 2000000) only [↓wP, wQ, wQ1, wQ2, wQ3, wR, boxE, partsOf, ↓reduceIte, n1w, n2w, n3w, n4w, n5w, n6w, reduceCtorEq, i1w, i2w, i3w, i4w, i5w]
 refine WC_loopI 0 (fun (_ : Nat) env σ' n' => σ' = σ ∧ n' = n ∧ env 0 = .nilS ∧ env 1 = .int .i64 0 ∧ env 2 = .int .i64 0 ∧ env 4 = .fn F []) (fun s => s) ?_ 0 _ _ _ ?_
 ·intro _ env σ1 n1 ⟨h1, h2, h3, h4, h5, h6⟩
  subst h1 h2
  simp +contextual -implicitDefEqProofs (maxSteps := 2000000) only [↓wP, wQ, wQ1, wQ2, wQ3, wR, boxE, partsOf, ↓reduceIte, n1w, n2w, n3w, n4w, n5w, n6w, reduceCtorEq, i1w, i2w, i3w, i4w, i5w, h3, h4, h5, h6, w1]
  refine stepW_raw (by decide) (raw71n F σ1 n1 ?_)
  simp +contextual -implicitDefEqProofs (maxSteps := 2000000) only [↓wP, wQ, wQ1, wQ2, wQ3, wR, boxE, partsOf, ↓reduceIte, n1w, n2w, n3w, n4w, n5w, n6w, reduceCtorEq, i1w, i2w, i3w, i4w, i5w]
  exact hQ
 ·simp +contextual -implicitDefEqProofs (maxSteps := 2000000) only [↓wP, wQ, wQ1, wQ2, wQ3, wR, boxE, partsOf, ↓reduceIte, n1w, n2w, n3w, n4w, n5w, n6w, reduceCtorEq, i1w, i2w, i3w, i4w, i5w]
theorem raw41n (F : Nat) (σ : Sto) (n : Nat) {Q : V → Sto → Nat → Prop} (hQ : Q .undef σ n) : run T (.raw 41 [.nilS, .fn F []] σ n 0) (memQ Q) := by
 refine run_rawE (fn := g41) rfl rfl ?_
 simp only [g41, b41, zO, zN, zM, zL, zG, zP, zQ, zI, zA, zT, zF, zB, zC, zD, zE, zH, zJ, zK]
 obtain ⟨M, h2, h3⟩ := r63 0 (by omega)
 have f63 := callE_tr (fs := true) (by decide) h3 (by simp [Tr]) rfl
 have wu : IntKind.u64.wrap ((0 : Nat) : Int) = ((0 : Nat) : Int) := by decide
 simp +contextual -implicitDefEqProofs (maxSteps := 2000000) only [↓wP, wQ, wQ1, wQ2, wQ3, wR, boxE, partsOf, ↓reduceIte, n1w, n2w, n3w, n4w, n5w, n6w, reduceCtorEq, i1w, i2w, i3w, i4w, i5w, wu, f63]
 refine stepW_raw (by decide) (raw62n F M σ n ?_)
 simp +contextual -implicitDefEqProofs (maxSteps := 2000000) only [↓wP, wQ, wQ1, wQ2, wQ3, wR, boxE, partsOf, ↓reduceIte, n1w, n2w, n3w, n4w, n5w, n6w, reduceCtorEq, i1w, i2w, i3w, i4w, i5w]
 exact hQ
theorem sortedQ_asc {fr : Fr} [Inhabited (Rq fr)] {d d' : Array (Rq fr)} (hp : PermIn 0 d.size d d') (hs : SortedIn ahQ 0 d.size d') (hn : (d.toList.map (·.id)).Nodup) : Asc (d'.toList.map toR) ∧ d'.toList.Perm d.toList := by
 have hsz := hp.1
 have hperm : d'.toList.Perm d.toList := by
  have := hp.2.2
  rw [← hsz] at this
  have e1 : (d'.extract 0 d'.size) = d' := by simp
  have e2 : (d.extract 0 d'.size) = d := by rw [hsz]; simp
  rw [e1, e2] at this
  exact this
 refine ⟨?_, hperm⟩
 unfold Asc
 rw [List.pairwise_map, List.pairwise_iff_getElem]
 intro i j hi hj hij
 have hi' : i < d'.size := by simpa using hi
 have hj' : j < d'.size := by simpa using hj
 have h1 := hs i j (Nat.zero_le _) hij (by omega)
 have e1 : d'[i]! = d'.toList[i] := by simp [hi']
 have e2 : d'[j]! = d'.toList[j] := by simp [hj']
 rw [e1, e2] at h1
 have h2 : ¬ (d'.toList[j]).id < (d'.toList[i]).id := by simpa [ahQ] using h1
 have hn' : (d'.toList.map (·.id)).Nodup := (hperm.map _).nodup_iff.2 hn
 rw [List.nodup_iff_pairwise_ne, List.pairwise_map, List.pairwise_iff_getElem] at hn'
 have := hn' i j hi hj hij
 show (d'.toList[i]).id < (d'.toList[j]).id
 omega
end Go.Q.SV
end

section
/- writes.Overlay: rows told are laid down, vectors and all. -/
namespace Go.Q.SV
open Go.Q Go.Sort
abbrev Tq := (Int × List Int) × Nat
def tqV (x : Tq) : V := .agg [.int .u64 x.1.1, .ref x.2 0 x.1.2.length 1]
def tqR (x : Tq) : Rw := ⟨x.1.1, some x.1.2⟩
def Vks (σ : Sto) (a b : Nat) (P : List Tq) : Prop := (P.map (·.2)).Nodup ∧ ∀ x ∈ P, a ≤ x.2 ∧ x.2 < b ∧ σ x.2 = some (.row 1 (x.1.2.map i32V))
theorem Vks.loc {σ σ' : Sto} {a b a' b' : Nat} {P : List Tq} (h : Vks σ a b P) (hs : ∀ x ∈ P, σ' x.2 = σ x.2) (ha : a' ≤ a) (hb : b ≤ b') : Vks σ' a' b' P :=
 ⟨h.1, fun x hx => by obtain ⟨h1, h2, h3⟩ := h.2 x hx; exact ⟨by omega, by omega, by rw [hs x hx]; exact h3⟩⟩
theorem Vks.snoc {σ : Sto} {a b b' k : Nat} {P : List Tq} {y : Int × List Int} (h : Vks σ a b P) (hk : b ≤ k) (hk2 : k < b') (ha : a ≤ b) (hy : σ k = some (.row 1 (y.2.map i32V))) : Vks σ a b' (P ++ [(y, k)]) := by
 refine ⟨?_, fun x hx => ?_⟩
 ·rw [List.map_append]
  refine List.nodup_append.2 ⟨h.1, by simp, fun x hx z hz => ?_⟩
  simp only [List.map_cons, List.map_nil, List.mem_singleton] at hz
  obtain ⟨q, hq, rfl⟩ := List.mem_map.1 hx
  have := (h.2 q hq).2.1
  omega
 ·rcases List.mem_append.1 hx with hx | hx
  ·obtain ⟨h1, h2, h3⟩ := h.2 x hx; exact ⟨h1, by omega, h3⟩
  ·rw [List.mem_singleton] at hx
   subst hx
   exact ⟨by show a ≤ k; omega, hk2, hy⟩
def Gq (σ : Sto) (m n : Nat) (gv : V) (P : List Tq) : Prop := Pl σ m n 2 gv (oL (P.map tqV)) ∧ Vks σ m n P ∧ ∀ i off len s, gv = .ref i off len s → ∀ x ∈ P, x.2 < i
theorem Gq.loc {σ σ' : Sto} {m n n' : Nat} {gv : V} {P : List Tq} (h : Gq σ m n gv P) (hs : ∀ i, m ≤ i → i < n → σ' i = σ i) (hn : n ≤ n') : Gq σ' m n' gv P :=
 ⟨h.1.loc hs hn, h.2.1.loc (fun x hx => by obtain ⟨h1, h2, -⟩ := h.2.1.2 x hx; exact hs _ h1 h2) (Nat.le_refl _) hn, h.2.2⟩
theorem Gq.low {σ : Sto} {m m' n : Nat} {gv : V} {P : List Tq} (h : Gq σ m n gv P) (hm : m' ≤ m) : Gq σ m' n gv P := by
 refine ⟨?_, h.2.1.loc (fun _ _ => rfl) hm (Nat.le_refl _), h.2.2⟩
 have h1 := h.1
 cases ho' : oL (P.map tqV) with
 | none => rw [ho'] at h1; exact h1
 | some xs => rw [ho'] at h1; obtain ⟨i, f1, f2, f3, f4⟩ := h1; exact ⟨i, f1, f2, by omega, f4⟩
theorem okV_some {v : Vc} (h : okV v = true) : v = some (lst v) ∧ (lst v).length ≤ 4 := by
 unfold okV at h
 simp only [Bool.and_eq_true, decide_eq_true_eq] at h
 obtain ⟨⟨h1, h2⟩, -⟩ := h
 refine ⟨?_, h2⟩
 cases v with
 | none => simp [lst] at h1
 | some l => rfl
theorem ovLoop {env : Nat → V} {σ : Sto} {n d pr pm pw mid : Nat} {Q : Ex → St → Prop} (o : Option (List Rw)) (w : Option (List Wr)) (hl : (lst o).length ≤ 1000) (hlw : (lst w).length ≤ 1000) (hv : ∀ r ∈ lst o, okV r.v = true) (hvw : ∀ x ∈ lst w, x.g = false → okV x.v = true)
 (hg : env 52 = .fn 61 [.ptr pr 1 0 0, .ptr pm 1 0 0, .ptr pw 1 0 0]) (hd : env 11 = .ptr d 1 0 0) (hσ : σ d = some (.row 1 [.nilS])) (hOwn : Own σ pr pm pw mid o w) (hdn : d < n) (l1 : pr < n) (l2 : pm < n) (l3 : pw < n) (l4 : mid < n)
 (n1 : pr ≠ d) (n2 : pm ≠ d) (n3 : pw ≠ d) (n4 : mid ≠ d)
 (hQ : ∀ σ' n' gv P, (∀ i, i < n → i ≠ d → σ' i = σ i) → n ≤ n' → σ' d = some (.row 1 [gv]) → Gq σ' n n' gv P → P.map tqR = ovD (lst o) (lst w) → Q .normal ⟨env, σ', n', 0⟩) :
 WC T (.rangeF (.tmp 52) [53] (.reg [⟨some 12, none, .alloc (.agg [.int .u64 0, .nilS])⟩, ⟨none, none, .store 2 (.tmp 12) (.tmp 53)⟩])
  (.block 3 (.regd [⟨[⟨⟨some 54, none, .load false 1 (.tmp 11)⟩, false, false, false, 0, [0, 1], none⟩,
   ⟨⟨some 55, none, .faddr (.tmp 12) 0⟩, true, false, false, 0, [], none⟩, ⟨⟨some 56, none, .load false 1 (.tmp 55)⟩, false, false, false, 0, [0], none⟩,
   ⟨⟨some 57, none, .faddr (.tmp 12) 1⟩, true, false, false, 0, [], none⟩, ⟨⟨some 58, none, .load false 1 (.tmp 57)⟩, false, false, false, 0, [], none⟩,
   ⟨⟨some 59, none, .call 40 [.tmp 58]⟩, false, false, true, 0, [], none⟩,
   ⟨⟨some 60, none, .build [.int .u64 0, .nilS] [(0, 1, .tmp 56), (1, 1, .tmp 59)]⟩, true, false, false, 1, [], none⟩,
   ⟨⟨some 61, none, .lit 2 [.tmp 60]⟩, false, false, true, 1, [], none⟩], 2, [⟨some 62, none, .append 2 32 (.tmp 54) (.tmp 61)⟩, ⟨none, none, .store 1 (.tmp 11) (.tmp 62)⟩]⟩]))) env σ n 0 Q := by
 refine WC_rangeF hg (Nat.zero_le _) ?_
 generalize hA : AC.reg [⟨some 12, none, .alloc (.agg [.int .u64 0, .nilS])⟩, ⟨none, none, .store 2 (.tmp 12) (.tmp 53)⟩] = asg
 generalize hB : AC.block 3 _ = bd
 refine run_mono _ _ _ (fun r ho => ?_) (seen102 o w (fun pre σ' n' => n < n' ∧ (∀ i, i < n → i ≠ d → σ' i = σ i) ∧ σ' n = some (.loop env [53] asg bd .ready none) ∧
  ∃ gv P, σ' d = some (.row 1 [gv]) ∧ Gq σ' (n + 1) n' gv P ∧ P.map tqR = pre) n pr pm pw mid (by omega) (by omega) ?_ ?_ ?_ _ _ ?_)
 ·cases r <;> try exact ho.elim
  obtain ⟨e1, e2, e3, gv, P, e4, e5, e6⟩ := ho
  refine ⟨_, _, _, _, _, _, e3, by decide, ?_⟩
  refine hQ _ _ gv P (fun i hi h2 => by rw [upd_ne (by omega)]; exact e2 i hi h2) (by omega) (by rw [upd_ne (by omega)]; exact e4) ?_ e6
  exact (e5.loc (σ' := upd _ n none) (fun i hi _ => upd_ne (by omega)) (Nat.le_refl _)).low (by omega)
 ·rintro pre σ' n' ⟨e1, e2, -⟩
  obtain ⟨d1, d2, d3, Lm, clk, m1, m2, m3⟩ := hOwn
  exact ⟨⟨by rw [e2 pr l1 n1]; exact d1, by rw [e2 pm l2 n2]; exact d2, by rw [e2 pw l3 n3]; exact d3, Lm, clk, m1, by rw [e2 mid l4 n4]; exact m2, m3⟩, by omega, by omega, by omega, by omega⟩
 ·rintro pre σ' n' σ2 ⟨e1, e2, e3, gv, P, e4, e5, e6⟩ hσ2
  exact ⟨by omega, fun i hi h2 => by rw [hσ2 i (by omega)]; exact e2 i hi h2, by rw [hσ2 n (by omega)]; exact e3, gv, P, by rw [hσ2 d (by omega)]; exact e4, e5.loc (fun i _ hi => hσ2 i (by omega)) (by omega), e6⟩
 ·rintro pre σ' n' r hpre hr ⟨e1, e2, e3, gv, P, e4, e5, e6⟩
  have hrv : okV r.v = true := by
   rcases hr with hr | ⟨x, hx, hxg, rfl⟩
   ·exact hv r hr
   ·exact hvw x hx hxg
  obtain ⟨hrs, hrl⟩ := okV_some hrv
  have hDl : (ovD (lst o) (lst w)).length ≤ 2000 := by
   unfold ovD
   rw [List.length_append, List.length_map]
   have h1 := List.length_filter_le (fun r : Rw => !ownB (lst w) r.id) (lst o)
   have h2 := List.length_filter_le (fun x : Wr => !x.g) (lst w)
   omega
  have hPl : P.length = pre.length := by rw [← e6, List.length_map]
  obtain ⟨xs, hxs⟩ : ∃ xs, xs = lst r.v := ⟨_, rfl⟩
  rw [← hxs] at hrs hrl
  have f := f40s xs (by omega)
  rw [slV_some] at f
  refine yieldW_go e3 rfl (Nat.zero_le _) ?_ (hd := ⟨by rw [← hA]; rfl, by rw [← hB]; rfl⟩)
  obtain ⟨LR, hLR⟩ : ∃ LR, LR = Ob.loop env [53] asg bd .ready none := ⟨_, rfl⟩
  obtain ⟨LB, hLB⟩ : ∃ LB, LB = Ob.loop env [53] asg bd .busy none := ⟨_, rfl⟩
  rw [← hLR] at e3 ⊢
  rw [← hLB]
  subst hA
  subst hB
  have hBp := big_le
  have a1 : (n = n') = False := by simp; omega
  have a2 : (d = n') = False := by simp; omega
  have a3 : (d = n) = False := by simp; omega
  have a4 : (n = d) = False := by simp; omega
  have a5 : (n' = n) = False := by simp; omega
  have a6 : (n' = d) = False := by simp; omega
  have b1 := e5.1.cells
  rw [rwV_eq, hrs, slV_some]
  obtain ⟨nn, hnn⟩ : ∃ nn, nn = n' + 1 := ⟨_, rfl⟩
  obtain ⟨σ1, hσ1⟩ : ∃ σ1, σ1 = upd (upd (upd σ' n' (some (.row 2 [.agg [.int .u64 0, .nilS]]))) n' (some (.row 2 [.agg [.int .u64 r.id, .sl 1 (xs.map i32V)]]))) n (some LB) := ⟨_, rfl⟩
  have s1 : ∀ i, i < n' → i ≠ n → σ1 i = σ' i := fun i hi hi2 => by rw [hσ1, upd_ne hi2, upd_ne (by omega), upd_ne (by omega)]
  have s2 : σ1 n' = some (.row 2 [.agg [.int .u64 r.id, .sl 1 (xs.map i32V)]]) := by rw [hσ1, upd_ne (by omega), upd_self]
  have s3 : σ1 n = some LB := by rw [hσ1, upd_self]
  have s4 : σ1 d = some (.row 1 [gv]) := by rw [s1 d (by omega) (by omega)]; exact e4
  obtain ⟨σ2, hσ2⟩ : ∃ σ2, σ2 = merge σ1 (upd σ1 nn (some (.row 1 (xs.map i32V)))) nn := ⟨_, rfl⟩
  have t1 : ∀ i, i < nn → σ2 i = σ1 i := fun i hi => by rw [hσ2, merge_low _ _ _ hi]
  have t2 : σ2 nn = some (.row 1 (xs.map i32V)) := by rw [hσ2, merge_in _ _ _ (Nat.le_refl _) (by omega), upd_self]
  have yd : ∀ hid, hide σ1 nn nn hid d = some (.row 1 [gv]) := fun hid => by rw [hide_low _ _ _ _ (by omega) (Nat.le_refl _)]; exact s4
  have yn : ∀ hid, hide σ1 nn nn hid n' = some (.row 2 [.agg [.int .u64 r.id, .sl 1 (xs.map i32V)]]) := fun hid => by rw [hide_low _ _ _ _ (by omega) (Nat.le_refl _)]; exact s2
  have l5 : (nn + 1 ≤ nn + BIG) = True := by simp; omega
  simp +contextual -implicitDefEqProofs (maxSteps := 2000000) only [↓wP, wS, seval, bind_cons, bind_nil, hd, e3, e4, a1, a2, a3, a4, a5, a6, b1, f, ← hnn, Nat.mul_zero, Nat.mul_one, ← hσ1, s2, s4, yd, yn, l5, Nat.le_refl, ← hσ2]
  obtain ⟨σ3, hσ3⟩ : ∃ σ3, σ3 = merge σ2 (upd σ2 (nn + BIG) (some (Ob.row 2 [V.agg [V.int IntKind.u64 r.id, V.ref nn 0 xs.length 1]]))) (nn + BIG) := ⟨_, rfl⟩
  have t3 : ∀ i, i < nn + BIG → σ3 i = σ2 i := fun i hi => by rw [hσ3, merge_low _ _ _ hi]
  have t4 : σ3 (nn + BIG) = some (Ob.row 2 [V.agg [V.int IntKind.u64 r.id, V.ref nn 0 xs.length 1]]) := by rw [hσ3, merge_in _ _ _ (Nat.le_refl _) (by omega), upd_self]
  have l6 : (nn + (BIG + 1) ≤ nn + (BIG + BIG)) = True := by simp; omega
  have hlow : ∀ i, i < nn → σ3 i = σ1 i := fun i hi => by rw [t3 i (by omega), t1 i hi]
  have e5' := e5.loc (σ' := σ3) (n' := n') (fun i hi hi2 => by rw [hlow i (by omega), s1 i hi2 (by omega)]) (Nat.le_refl _)
  have hvn : ∀ i, i ≤ n → ∀ off len s, gv ≠ .ref i off len s := by
   intro i hi off len s e
   subst e
   have e5 := e5.1
   cases ho' : oL (P.map tqV) with
   | none => rw [ho'] at e5; cases e5
   | some xs => rw [ho'] at e5; obtain ⟨i, e, -, e2, -⟩ := e5; simp only [V.ref.injEq] at e; omega
  have hvk : ∀ off len s, gv ≠ .ref nn off len s := by
   intro off len s e
   subst e
   have e5 := e5.1
   cases ho' : oL (P.map tqV) with
   | none => rw [ho'] at e5; cases e5
   | some xs => rw [ho'] at e5; obtain ⟨i, e, -, -, e2⟩ := e5; simp only [V.ref.injEq] at e; omega
  have hvP : ∀ x ∈ P, ∀ off len s, gv ≠ .ref x.2 off len s := fun x hx off len s e => by
   have := e5.2.2 _ _ _ _ e x hx; omega
  simp +contextual -implicitDefEqProofs (maxSteps := 2000000) only [↓wP, wS, seval, bind_cons, bind_nil, hd, l6, ← hσ3, t4]
  refine stepW_app1 (m := n + 1) (n0 := n') (σ0 := σ3) e5'.1 (fun i _ _ => rfl) (by omega) (by omega) (Nat.zero_le _) ?_ (fun _ σ4 g1 g2 => ?_)
  ·rw [lst_oL, List.length_map]; unfold LIM; omega
  ·rw [lst_oL] at g1 ⊢
   have u1 : ∀ i, i ≤ n → σ4 i = σ1 i := fun i hi => by rw [g2 i (by omega) (hvn i hi), hlow i (by omega)]
   have u2 : σ4 d = some (.row 1 [gv]) := by rw [u1 d (by omega)]; exact s4
   have u3 : σ4 n = some LB := by rw [u1 n (Nat.le_refl _)]; exact s3
   have u4 : σ4 nn = some (.row 1 (xs.map i32V)) := by rw [g2 nn (by omega) hvk, t3 nn (by omega)]; exact t2
   have hsp := spl e5'.1
   simp +contextual -implicitDefEqProofs (maxSteps := 2000000) only [↓wP, wS, seval, bind_cons, bind_nil, hd, u2, u3, a3, a4, hsp]
   refine ⟨by omega, fun i hi hid => ?_, _, P ++ [((r.id, xs), nn)], rfl, ⟨?_, ?_, ?_⟩, ?_⟩
   ·rw [if_neg (by omega), u1 i (by omega), s1 i (by omega) (by omega)]
    exact e2 i hi hid
   ·rw [List.map_append]
    have e7 : oL (P.map tqV ++ [((r.id, xs), nn)].map tqV) = some (P.map tqV ++ [.agg [.int .u64 r.id, .ref nn 0 xs.length 1]]) := by
     cases P <;> rfl
    rw [e7]
    exact g1.loc (fun i hi _ => by rw [upd_ne (by omega), upd_ne (by omega)]) (by omega)
   ·refine Vks.snoc (b := n') (Vks.loc e5'.2.1 (fun x hx => ?_) (Nat.le_refl _) (Nat.le_refl _)) (by omega) (by omega) (by omega) ?_
    ·obtain ⟨v1, v2, -⟩ := e5'.2.1.2 x hx
     rw [upd_ne (by omega), upd_ne (by omega), g2 _ (by omega) (hvP x hx)]
    ·rw [upd_ne (by omega), upd_ne (by omega)]; exact u4
   ·intro i off len sz e x hx
    simp only [V.ref.injEq] at e
    rcases List.mem_append.1 hx with hx | hx
    ·have := (e5'.2.1.2 x hx).2.1; omega
    ·rw [List.mem_singleton] at hx
     subst hx
     show nn < i
     omega
   ·rw [List.map_append, e6]
    congr 1
    obtain ⟨ri, rv⟩ := r
    simp only at hrs
    rw [hrs]; rfl
 ·exact ⟨by omega, fun i hi _ => upd_ne (by omega), upd_self _ _ _, .nilS, [], by rw [upd_ne (by omega)]; exact hσ, ⟨by simp [oL, Pl], ⟨by simp, fun x hx => by simp at hx⟩, fun _ _ _ _ e => by cases e⟩, rfl⟩
end Go.Q.SV
end

section
/- writes.Overlay, handing over rows of a caller's own. -/
namespace Go.Q.SV
open Go.Q Go.Sort
def ownRw (r : Rw) : V := .agg [.int .u64 r.id, .own 1 ((lst r.v).map i32V)]
def ownR : List Rw → V
 | [] => .nilS
 | r :: L => .own 2 ((r :: L).map ownRw)
theorem giv_tq {σ : Sto} {x : Tq} (h : σ x.2 = some (.row 1 (x.1.2.map i32V))) (k : Nat) : elemM (giv σ (k + 2)) (tqV x) = some (ownRw (tqR x)) ∧ ((tqV x).cells.flatMap (gids σ (k + 2))) = [x.2] := by
 have hg := giv_vx (σ := σ) (x := (⟨0, 0, false, some x.1.2⟩, some x.2)) ⟨rfl, h⟩ k
 simp only [vx, lst_some] at hg
 constructor
 ·simp only [tqV, elemM, List.mapM_cons, List.mapM_nil, hg.1]; rfl
 ·simp only [tqV, V.cells, List.flatMap_cons, List.flatMap_nil, hg.2]; rfl
theorem giv_tqs {σ : Sto} (k : Nat) : ∀ {P : List Tq}, (∀ x ∈ P, σ x.2 = some (.row 1 (x.1.2.map i32V))) → (P.map tqV).mapM (elemM (giv σ (k + 2))) = some (P.map fun x => ownRw (tqR x)) ∧ ((P.map tqV).flatMap fun x => x.cells.flatMap (gids σ (k + 2))) = P.map (·.2)
 | [], _ => ⟨rfl, rfl⟩
 | x :: P, h => by
   obtain ⟨g1, g2⟩ := giv_tq (h x List.mem_cons_self) k
   obtain ⟨r1, r2⟩ := giv_tqs k (P := P) (fun y hy => h y (List.mem_cons_of_mem _ hy))
   constructor
   ·rw [List.map_cons, List.mapM_cons, r1, g1]; rfl
   ·rw [List.map_cons, List.flatMap_cons, r2, g2]; rfl
theorem giv_rowsQ {σ : Sto} {i : Nat} {P : List Tq} (h : σ i = some (.row 2 (P.map tqV))) (hv : ∀ x ∈ P, σ x.2 = some (.row 1 (x.1.2.map i32V))) (hnd : (i :: P.map (·.2)).Nodup) (hP : P ≠ []) (e : Int) :
 giv σ 12 (.tup [.ref i 0 P.length 2, .int .i64 e]) = some (.tup [ownR (P.map tqR), .int .i64 e]) ∧ (gids σ 12 (.tup [.ref i 0 P.length 2, .int .i64 e])).Nodup := by
 obtain ⟨r1, r2⟩ := giv_tqs (σ := σ) 8 hv
 have hl : P.length = (P.map tqV).length := by rw [List.length_map]
 have e1 : giv σ 11 (.ref i 0 P.length 2) = some (ownR (P.map tqR)) := by
  simp only [giv, h, hl, and_self, if_true, r1]
  cases P with
  | nil => exact absurd rfl hP
  | cons x P => simp [ownR]
 have e2 : gids σ 11 (.ref i 0 P.length 2) = i :: P.map (·.2) := by
  simp only [gids, h]
  rw [r2]
 constructor
 ·show (List.mapM (giv σ 11) [.ref i 0 P.length 2, .int .i64 e]).map V.tup = _
  simp only [List.mapM_cons, List.mapM_nil, e1]
  rfl
 ·show ([V.ref i 0 P.length 2, .int .i64 e].flatMap (gids σ 11)).Nodup
  simp only [List.flatMap_cons, List.flatMap_nil, e2]
  have : gids σ 11 (.int .i64 e) = [] := rfl
  rw [this]
  simpa using hnd
theorem giv_nilE (σ : Sto) (e : Int) : giv σ 12 (.tup [.nilS, .int .i64 e]) = some (.tup [ownR [], .int .i64 e]) ∧ (gids σ 12 (.tup [.nilS, .int .i64 e])).Nodup := ⟨rfl, List.nodup_nil⟩
def mkQ (fr : Fr) (P : List Tq) (h : ∀ x ∈ P, x.2 < fr.i ∧ fr.σ x.2 = some (.row 1 (x.1.2.map i32V))) : List (Rq fr) := P.pmap (fun x h => ⟨x.1.1, x.1.2, x.2, x.1.2.length, rfl, h.1, h.2⟩) h
def ofQ {fr : Fr} (x : Rq fr) : Tq := ((x.id, x.xs), x.k)
theorem mkQ_of (fr : Fr) (P : List Tq) (h) : (mkQ fr P h).map ofQ = P := by
 unfold mkQ
 rw [List.map_pmap]
 exact (List.pmap_eq_map _).trans (List.map_id _)
theorem ofQ_V {fr : Fr} (l : List (Rq fr)) : (l.map ofQ).map tqV = l.map rqV := by
 rw [List.map_map]
 refine List.map_congr_left (fun x _ => ?_)
 obtain ⟨a, b, c, d, e, f, g⟩ := x
 subst e
 rfl
theorem ofQ_R {fr : Fr} (l : List (Rq fr)) : (l.map ofQ).map tqR = l.map toR := by
 rw [List.map_map]; rfl
theorem roU_ok {l : List Rw} (h : roU l l.length = true) : ∀ r ∈ l, okV r.v = true := by
 intro r hr
 obtain ⟨j, hj, rfl⟩ := List.getElem_of_mem hr
 have := roU_pre h j hj hj
 unfold roN at this
 rw [Bool.and_eq_true] at this
 exact this.1
theorem rightW_ok {l : List Wr} (h : rightW l = true) : ∀ w ∈ l, okW w = true := by
 unfold rightW at h
 rw [Bool.and_eq_true] at h
 have pre : ∀ n, n ≤ l.length → wU l n = true → ∀ j, j < n → (hj : j < l.length) → okN l j l[j] = true := by
  intro n
  induction n with
  | zero => intro _ _ j hj; omega
  | succ n ih =>
    intro hn hw j hj hjl
    rw [wU_step (by omega : n < l.length), Bool.and_eq_true] at hw
    by_cases e : j = n
    ·subst e; exact hw.2
    ·exact ih (by omega) hw.1 j (by omega) hjl
 intro r hr
 obtain ⟨j, hj, rfl⟩ := List.getElem_of_mem hr
 have := pre _ (Nat.le_refl _) h.2 j hj hj
 unfold okN at this
 rw [Bool.and_eq_true] at this
 exact this.1
theorem okW_v {w : Wr} (h : okW w = true) (hg : w.g = false) : okV w.v = true := by
 unfold okW at h
 rw [hg] at h
 simp only [Bool.false_eq_true, if_false, Bool.and_eq_true] at h
 exact h.2
def SmRo (l : List Rw) : Prop := l.length ≤ 100 ∧ ∀ r ∈ l, (lst r.v).length ≤ 1000000
theorem r15 (l : Option (List Wr)) (c : Int) (o : Option (List Rw)) (h : FitW (lst l)) (ho : SmRo (lst o)) : res T 15 [slV 4 wrV l, .int .i64 c, slV 2 rwV o] = some (.tup [ownR (ovL (lst l) c (lst o)), .int .i64 (ovE (lst l) c (lst o))]) := by
 refine run_res (run_own (fn := g15) rfl rfl (by decide) ?_)
 simp only [g15, b15, zO, zN, zM, zL, zG, zP, zQ, zI, zA, zT, zF, zB, zC, zD, zE, zH, zJ, zK]
 have hl := h.1
 have hol := ho.1
 have hsw : SmW l := ⟨by omega, fun x hx => by have := h.2 x hx; unfold Sm; omega⟩
 have f25' := f25 l hsw
 have f37' := f37 c
 have f21' := f21 l c h
 obtain ⟨E, hE⟩ : ∃ E, E = ovE (lst l) c (lst o) := ⟨_, rfl⟩
 obtain ⟨L, hL⟩ : ∃ L, L = ovL (lst l) c (lst o) := ⟨_, rfl⟩
 rw [← hE, ← hL]
 unfold ovL at hL
 rw [← hE] at hL
 unfold ovE at hE
 cases hr : rightW (lst l)
 ·rw [hr] at f25' hE
  rw [if_pos rfl] at hE
  have hL0 : L = [] := by rw [hL, if_neg (by rw [hE]; decide)]
  rw [hE, hL0]
  simp +contextual -implicitDefEqProofs (maxSteps := 2000000) only [↓wP, wS, seval, f25']
  exact giv_nilE _ _
 rw [hr] at f25' hE
 rw [if_neg (by decide)] at hE
 cases hc : collB c
 ·rw [hc] at f37' hE
  rw [if_pos rfl] at hE
  have hL0 : L = [] := by rw [hL, if_neg (by rw [hE]; decide)]
  rw [hE, hL0]
  simp +contextual -implicitDefEqProofs (maxSteps := 2000000) only [↓wP, wS, seval, f25', f37']
  exact giv_nilE _ _
 rw [hc] at f37' hE
 rw [if_neg (by decide)] at hE
 obtain ⟨W, hW⟩ : ∃ W, W = (lst l).filter (fun w => w.c == c) := ⟨_, rfl⟩
 have hof : ofW (lst l) c = W := by unfold ofW; rw [hr, if_pos rfl, hW]
 rw [hof] at f21'
 have hWl : W.length ≤ 12 := by
  have h1 := List.length_filter_le (fun w : Wr => w.c == c) (lst l)
  have h2 : (lst l).length ≤ 12 := by
   unfold rightW at hr
   rw [Bool.and_eq_true, decide_eq_true_eq] at hr
   exact hr.1
  rw [hW]; omega
 have hWv : ∀ x ∈ W, (lst x.v).length ≤ 1000000 := fun x hx => by rw [hW] at hx; exact h.2 x (List.mem_filter.1 hx).1
 rw [← hW] at hL
 simp +contextual -implicitDefEqProofs (maxSteps := 2000000) only [↓wP, wS, seval, f25', f37']
 refine WC_for (lst o).length 0 (fun (j : Nat) env σ n => env 0 = slV 4 wrV l ∧ env 1 = .int .i64 c ∧ env 2 = slV 2 rwV o ∧ env 21 = slV 2 rwV o ∧ roU (lst o) j = true) (by omega) (by decide) (by decide) (fun _ _ => rfl) (fun _ _ _ => rfl) ?_ ?_ _ _ _ rfl rfl ?_
 ·intro j env σ n hj h1 h2 ⟨g1, g2, g3, g4, g5⟩
  simp only [vl_tmp] at h2
  have hx : (lst o)[j]? = some (lst o)[j] := List.getElem?_eq_getElem hj
  have hst := roU_step hj
  rw [g5, Bool.true_and] at hst
  have hvx := ho.2 _ (List.getElem_mem hj)
  have hno : roN (lst o) j (lst o)[j] = false → E = 170 ∧ L = [] := fun hk => by
   have : roU (lst o) (lst o).length = false := roU_no (by rw [hst, hk]) _ (by omega : j + 1 ≤ (lst o).length)
   rw [this, if_pos rfl] at hE
   exact ⟨hE, by rw [hL, if_neg (by rw [hE]; decide)]⟩
  obtain ⟨x, hxx⟩ : ∃ x, x = (lst o)[j] := ⟨_, rfl⟩
  rw [← hxx] at hx hst hvx hno
  have f38' := f38 x.v (by omega)
  obtain ⟨σ1, hσ1⟩ : ∃ σ1, σ1 = upd (upd σ n (some (.row 2 [.agg [.int .u64 0, .nilS]]))) n (some (.row 2 [.agg [.int .u64 x.id, slV 1 i32V x.v]])) := ⟨_, rfl⟩
  have sn : σ1 n = some (.row 2 [.agg [.int .u64 x.id, slV 1 i32V x.v]]) := by rw [hσ1, upd_self]
  cases hv : okV x.v
  ·rw [hv] at f38'
   rw [if_neg (by decide)] at f38'
   obtain ⟨e1, e2⟩ := hno (by unfold roN; rw [hv]; rfl)
   have z0 : ((150 : Int) != 0) = true := rfl
   simp +contextual -implicitDefEqProofs (maxSteps := 2000000) only [↓wP, wS, seval, h1, h2, g1, g2, g3, g4, hx, rwV_eq, ← hσ1, sn, f38', z0]
   rw [e1, e2]; exact giv_nilE _ _
  rw [hv] at f38'
  rw [if_pos rfl] at f38'
  have z0 : ((0 : Int) != 0) = false := rfl
  by_cases hj0 : j = 0
  ·have hz : ¬ ((0 : Int) < (j : Int)) := by omega
   have hk : roN (lst o) j x = true := by subst hj0; unfold roN; rw [hv]; rfl
   simp +contextual -implicitDefEqProofs (maxSteps := 2000000) only [↓wP, wS, seval, h1, h2, g1, g2, g3, g4, hx, rwV_eq, ← hσ1, sn, f38', z0, hz]
   rw [hst, hk]
  ·have hz : (0 : Int) < (j : Int) := by omega
   have wj : IntKind.i64.wrap ((j : Int) - 1) = ((j - 1 : Nat) : Int) := by rw [wrap_i64] <;> omega
   have hx2 : (lst o)[j - 1]? = some (lst o)[j - 1] := List.getElem?_eq_getElem (by omega)
   obtain ⟨p, hp⟩ : ∃ p, p = (lst o)[j - 1] := ⟨_, rfl⟩
   rw [← hp] at hx2
   have hk : roN (lst o) j x = decide (p.id < x.id) := by
    obtain ⟨i, rfl⟩ : ∃ i, j = i + 1 := ⟨j - 1, by omega⟩
    unfold roN
    rw [show i + 1 - 1 = i from rfl] at hx2
    simp [hx2, hv]
   by_cases hlt : p.id < x.id
   ·have hlt' : ¬ (x.id ≤ p.id) := by omega
    rw [decide_eq_true hlt] at hk
    simp +contextual -implicitDefEqProofs (maxSteps := 2000000) only [↓wP, wS, seval, h1, h2, g1, g2, g3, g4, hx, hx2, rwV_eq, ← hσ1, sn, f38', z0, hz, wj, hlt']
    rw [hst, hk]
   ·have hlt' : x.id ≤ p.id := by omega
    rw [decide_eq_false hlt] at hk
    obtain ⟨e1, e2⟩ := hno hk
    simp +contextual -implicitDefEqProofs (maxSteps := 2000000) only [↓wP, wS, seval, h1, h2, g1, g2, g3, g4, hx, hx2, rwV_eq, ← hσ1, sn, f38', z0, hz, wj, hlt']
    rw [e1, e2]; exact giv_nilE _ _
 ·intro env σ n ⟨g1, g2, g3, g4, g5⟩ h1 h2
  rw [g5, if_neg (by decide)] at hE
  rw [hE, if_pos rfl] at hL
  have hra := ro_asc g5
  have hwi := w_ids hr c
  rw [← hW] at hwi
  obtain ⟨σ1, hσ1⟩ : ∃ σ1, σ1 = upd σ n (some (.row 1 [.nilS])) := ⟨_, rfl⟩
  have s1 : σ1 n = some (.row 1 [.nilS]) := by rw [hσ1, upd_self]
  simp +contextual -implicitDefEqProofs (maxSteps := 2000000) only [↓wP, wS, seval, g1, g2, g3, f21', ← hσ1]
  refine stepW_raw (by decide) (raw39 (oL W) o σ1 (n + 1) (by rw [lst_oL]; omega) (fun σ2 n2 k1 k2 k3 => ?_))
  simp +contextual -implicitDefEqProofs (maxSteps := 2000000) only [↓wP, wS, seval]
  refine ovLoop (d := n) (pr := n + 1 + 1) (pm := n + 1 + 3) (pw := n + 1) (mid := n + 1 + 2) o (oL W) (by omega) (by rw [lst_oL]; omega) (roU_ok g5) (by rw [lst_oL]; exact fun x hx hg => okW_v (rightW_ok hr x (by rw [hW] at hx; exact (List.mem_filter.1 hx).1)) hg) rfl rfl (by rw [k2 n (by omega)]; exact s1) k3 (by omega) (by omega) (by omega) (by omega) (by omega) (by omega) (by omega) (by omega) (by omega) (fun σ3 n3 gv P p1 p2 p3 p4 p5 => ?_)
  rw [lst_oL] at p5
  have hm := mem_ovD hra hwi
  have hnd := nodup_ovD hra hwi
  have hDl : (ovD (lst o) W).length ≤ 112 := by
   unfold ovD
   rw [List.length_append, List.length_map]
   have h1 := List.length_filter_le (fun r : Rw => !ownB W r.id) (lst o)
   have h2 := List.length_filter_le (fun x : Wr => !x.g) W
   omega
  have hLa : Asc L := by rw [hL]; exact ovR_asc _ _
  rw [← hL] at hm
  have hgc := p4.1.cells
  rw [← p5] at hm hnd hDl
  by_cases hP0 : P = []
  ·subst hP0
   have hR0 : L = [] := by
    cases L with
    | nil => rfl
    | cons r R => have := (hm r).2 List.mem_cons_self; simp at this
   have p6 := p4.1
   simp only [List.map_nil, oL, Pl] at p6
   rw [p6] at p3
   simp +contextual -implicitDefEqProofs (maxSteps := 2000000) only [↓wP, wS, seval, p3]
   refine stepW_raw (by decide) (raw41n 42 σ3 n3 ?_)
   simp +contextual -implicitDefEqProofs (maxSteps := 2000000) only [↓wP, wS, seval, p3]
   rw [hR0, hE]; exact giv_nilE _ _
  ·have hoD : oL (P.map tqV) = some (P.map tqV) := by
    cases P with
    | nil => exact absurd rfl hP0
    | cons x P => rfl
   obtain ⟨p6, p7, p8⟩ := p4
   rw [hoD] at p6
   obtain ⟨i, rfl, q1, q2, q3⟩ := p6
   rw [List.length_map] at p3 hDl
   have hPk : ∀ x ∈ P, x.2 < (⟨σ3, i⟩ : Fr).i ∧ (⟨σ3, i⟩ : Fr).σ x.2 = some (.row 1 (x.1.2.map i32V)) := fun x hx => ⟨p8 i _ _ _ rfl x hx, (p7.2 x hx).2.2⟩
   obtain ⟨fr, hfr⟩ : ∃ fr : Fr, fr = ⟨σ3, i⟩ := ⟨_, rfl⟩
   rw [← hfr] at hPk
   have hfi : fr.i = i := by rw [hfr]
   have hfs : fr.σ = σ3 := by rw [hfr]
   obtain ⟨D, hD⟩ : ∃ D, D = mkQ fr P hPk := ⟨_, rfl⟩
   have hDo : D.map ofQ = P := by rw [hD]; exact mkQ_of _ _ _
   have hDl2 : D.length = P.length := by rw [← hDo, List.length_map]
   have hDne : D ≠ [] := fun e => hP0 (by rw [← hDo, e]; rfl)
   haveI : Inhabited (Rq fr) := ⟨D.head hDne⟩
   have hsz : D.toArray.size = P.length := by simp [hDl2]
   have hrq : rq' D.toArray = P.map tqV := by unfold rq'; rw [← hDo, ofQ_V]
   have hst : Hs fr σ3 i D.toArray := ⟨by rw [hrq]; exact q1, hfi.symm, fun _ _ => by rw [hfs]⟩
   have hDr : D.map toR = P.map tqR := by rw [← hDo, ofQ_R]
   simp +contextual -implicitDefEqProofs (maxSteps := 2000000) only [↓wP, wS, seval, p3]
   refine stepW_raw (by decide) ?_
   have hr := raw41 42 (cmpQ42 fr) D.toArray i n3 σ3 (by omega) q3 hst (Q := fun v σ' n' => ∃ d' : Array (Rq fr), Hs fr σ' i d' ∧ d'.size = P.length ∧ d'.toList.map toR = L ∧ d'.toList.Perm D ∧ σ' n = σ3 n) (fun σ' d' n' r1 r2 r3 r4 r5 => by
    have hnd' : (D.toArray.toList.map (·.id)).Nodup := by
     have e : D.map (·.id) = (P.map tqR).map (·.id) := by rw [← hDr, List.map_map]; rfl
     show (D.map (·.id)).Nodup
     rw [e]; exact hnd
    obtain ⟨s1, s2⟩ := sortedQ_asc r4 r5 hnd'
    refine ⟨d', r2, by rw [r4.1, hsz], asc_uniq s1 hLa (fun x => ?_), s2, r3 n (by omega) (by omega)⟩
    rw [(s2.map toR).mem_iff, ← hm, ← hDr])
   rw [hsz] at hr
   refine run_mono _ _ _ (fun o ho => ?_) hr
   cases o <;> try exact ho.elim
   rename_i vv σ4 n4
   obtain ⟨d', r1, r2, r3, r4, r5⟩ := ho
   rw [p3] at r5
   have hlen : (d'.toList.map ofQ).length = P.length := by rw [List.length_map, ← r2, Array.length_toList]
   have g1 := giv_rowsQ (σ := σ4) (P := d'.toList.map ofQ) (i := i) (by rw [ofQ_V]; exact r1.1) (fun x hx => by
    obtain ⟨y, -, rfl⟩ := List.mem_map.1 hx
    have hk := y.hk
    show _ = some (Ob.row 1 (y.xs.map i32V))
    rw [← y.hs, ← r1.2.2 y.k (by omega)]; rfl) (by
    have hpm : ((d'.toList.map ofQ).map (·.2)).Perm (P.map (·.2)) := by rw [← hDo]; exact (r4.map ofQ).map _
    refine List.nodup_cons.2 ⟨fun hmem => ?_, hpm.nodup_iff.2 p7.1⟩
    obtain ⟨x, hx, e⟩ := List.mem_map.1 hmem
    obtain ⟨y, -, rfl⟩ := List.mem_map.1 hx
    have hk := y.hk
    have e : y.k = i := e
    omega) (fun e => by
    rw [e] at hlen
    exact hP0 (List.length_eq_zero_iff.1 hlen.symm)) 0
   rw [hlen, ofQ_R, r3] at g1
   show WR T _ _ _ _ _ _
   simp +contextual -implicitDefEqProofs (maxSteps := 2000000) only [↓wP, wS, seval, r5]
   rw [hE]
   exact g1
 ·exact ⟨rfl, rfl, rfl, rfl, rfl⟩
end Go.Q.SV
end

section
/- Some rows; which rows may be (the document's); rows handed over. -/
namespace Go.Q.SV
open Go.Q Go.Sort
def cutR (r : Rw) : Rw := ⟨r.id, cut r.v⟩
def cutRs (l : Option (List Rw)) : Option (List Rw) := oL (((lst l).take 40).map cutR)
theorem cutRs_len (l : Option (List Rw)) : (lst (cutRs l)).length ≤ 40 := by unfold cutRs; rw [lst_oL, List.length_map, List.length_take]; omega
theorem cutRs_v (l : Option (List Rw)) : ∀ w ∈ lst (cutRs l), (lst w.v).length ≤ 5 := by
 intro w hw
 unfold cutRs at hw
 rw [lst_oL] at hw
 obtain ⟨x, -, rfl⟩ := List.mem_map.1 hw
 show ((lst x.v).take 5).length ≤ 5
 rw [List.length_take]; omega
theorem r14 (l : Option (List Rw)) (h : SmR l) : res T 14 [slV 2 rwV l] = some (slV 2 rwV (cutRs l)) := by
 refine run_res (run_pure (fn := g14) rfl rfl (by decide) ?_)
 simp only [g14, b14, zO, zN, zM, zL, zG, zP, zQ, zI, zA, zT, zF, zB, zC, zD, zE, zH, zJ, zK]
 have hl := h.1
 simp +contextual -implicitDefEqProofs (maxSteps := 2000000) only [↓wP, wS, seval]
 refine WC_for (lst l).length 0 (fun (j : Nat) env σ n => env 6 = slV 2 rwV l ∧ ∃ v, env 3 = v ∧ Bls σ 2 v (oL ((((lst l).take (min j 40)).map cutR).map rwV)) (fun i => i < n)) (by omega) (by decide) (by decide) (fun _ _ => rfl) (fun _ _ _ => rfl) ?_ ?_ _ _ _ rfl rfl ?_
 ·intro j env σ n hj h1 h2 ⟨h3, v, h4, h5⟩
  simp only [vl_tmp] at h2
  have hx : (lst l)[j]? = some (lst l)[j] := List.getElem?_eq_getElem hj
  have f := f27 _ (h.2 _ (List.getElem_mem hj))
  have ht : (lst l).take (j + 1) = (lst l).take j ++ [(lst l)[j]] := (List.take_append_getElem hj).symm
  generalize (lst l)[j] = x at *
  obtain ⟨σ1, hσ1⟩ : ∃ σ1, σ1 = upd (upd σ n (some (.row 2 [.agg [.int .u64 0, .nilS]]))) n (some (.row 2 [.agg [.int .u64 x.id, slV 1 i32V x.v]])) := ⟨_, rfl⟩
  have so : ∀ i, i < n → σ1 i = σ i := fun i hi => by rw [hσ1, upd_ne (by omega), upd_ne (by omega)]
  have sn : σ1 n = some (.row 2 [.agg [.int .u64 x.id, slV 1 i32V x.v]]) := by rw [hσ1, upd_self]
  by_cases h6 : (j : Int) < 40
  ·rw [show min j 40 = j by omega] at h5
   have hlen : ((((lst l).take j).map cutR).map rwV).length = j := by rw [List.length_map, List.length_map, List.length_take]; omega
   have hB := big_le
   have x3 : (n + 2 ≤ n + (1 + BIG)) = True := by simp; omega
   have x6 : (n + (1 + (BIG * 1 + 1)) ≤ n + (1 + (BIG * 1 + BIG))) = True := by simp; omega
   have x7 : ∀ a b : Sto, merge a b (n + (1 + BIG * 1)) (n + (1 + BIG * 1)) = b (n + (1 + BIG * 1)) := fun a b => merge_in a b _ (Nat.le_refl _) (by omega)
   have x5 : ∀ a b : Sto, merge a b (n + 1) (n + 1) = b (n + 1) := fun a b => merge_in a b _ (Nat.le_refl _) (by omega)
   have x0 : ∀ hid, hide σ1 (n + 1) (n + 1) hid n = σ1 n := fun hid => hide_low σ1 (n + 1) (n + 1) _ (by omega) (Nat.le_refl _)
   simp +contextual -implicitDefEqProofs (maxSteps := 2000000) only [↓wP, wS, seval, h1, h2, h3, h4, hx, rwV_eq, h6, f, ← hσ1, sn, x0, x3, x5, x6, x7]
   generalize hσ2 : merge (merge σ1 _ (n + 1)) _ (n + (1 + BIG * 1)) = σ2
   have s2 : ∀ i, i < n → σ2 i = σ i := fun i hi => by rw [← hσ2, merge_low _ _ _ (by omega), merge_low _ _ _ (by omega), so i hi]
   have sv : σ2 (n + 1) = some (.row 1 ((lst (cut x.v)).map i32V)) := by rw [← hσ2, merge_low _ _ _ (by omega), merge_in _ _ _ (Nat.le_refl _) (by omega), upd_self]
   have h5' := h5.loc (σ' := σ2) (S' := fun i => i < n) s2 (fun i hi => hi)
   refine stepW_appS (us := [rwV (cutR x)]) (S' := fun _ => True) h5' (fun i hi => by omega) (fun _ _ => trivial) trivial (fz_row (r := ⟨x.id, cut x.v⟩) sv ⟨trivial, by omega, fun off len s e => ?_⟩) ?_ (fun v' σ' n' q1 q2 q3 q4 => ?_)
   ·subst e
    have := Bls.ids h5' ⟨off, len, s, rfl⟩
    omega
   ·rw [lst_oL, hlen]; unfold LIM; simp only [List.length_cons, List.length_nil]; omega
   ·simp +contextual -implicitDefEqProofs (maxSteps := 2000000) only [↓wP, wS, seval, h1, h2, h3, q1.cells]
    refine ⟨_, rfl, ?_⟩
    rw [show min (j + 1) 40 = j + 1 by omega, ht, List.map_append, List.map_append, List.map_cons, List.map_nil, List.map_cons, List.map_nil, ← appO_oL]
    exact q1.loc (fun _ _ => rfl) (fun i hi => hi.2)
  ·simp +contextual -implicitDefEqProofs (maxSteps := 2000000) only [↓wP, wS, seval, h1, h2, h3, h4, hx, rwV_eq, h6, ← hσ1]
   rw [show min (j + 1) 40 = min j 40 by omega]
   exact ⟨_, rfl, h5.loc (fun i hi => so i hi) (fun i hi => by omega)⟩
 ·intro env σ n ⟨h3, v, h4, h5⟩ h1 h2
  have hf := h5.frz
  simp +contextual -implicitDefEqProofs (maxSteps := 2000000) only [↓wP, wS, seval, h4]
  rw [hf, slV_oL]
  have : (lst l).take (min (lst l).length 40) = (lst l).take 40 := by rw [Nat.min_comm]; exact List.take_eq_take_min.symm
  rw [this]; rfl
 ·simp +contextual -implicitDefEqProofs (maxSteps := 2000000) only [↓wP, wS, seval]
  simp [oL, Bls]
def f14 (l : Option (List Rw)) (h : SmR l) := callE_tr (by decide) (r14 l h) (by simp [Tr, Tr_slV]) (Nw_slV _ _ _ _)
theorem r18 (o : Option (List Rw)) (h : SmR o) : res T 18 [slV 2 rwV o] = some (.bool (roU (lst o) (lst o).length)) := by
 refine run_res (run_pure (fn := g18) rfl rfl (by decide) ?_)
 simp only [g18, b18, zO, zN, zM, zL, zG, zP, zQ, zI, zA, zT, zF, zB, zC, zD, zE, zH, zJ, zK]
 have hl := h.1
 simp +contextual -implicitDefEqProofs (maxSteps := 2000000) only [↓wP, wS, seval]
 refine WC_for (lst o).length 0 (fun (j : Nat) env σ n => env 0 = slV 2 rwV o ∧ env 5 = slV 2 rwV o ∧ roU (lst o) j = true) (by omega) (by decide) (by decide) (fun _ _ => rfl) (fun _ _ _ => rfl) ?_ ?_ _ _ _ rfl rfl ?_
 ·intro j env σ n hj h1 h2 ⟨g1, g2, g3⟩
  simp only [vl_tmp] at h2
  have hx : (lst o)[j]? = some (lst o)[j] := List.getElem?_eq_getElem hj
  have hw := h.2 _ (List.getElem_mem hj)
  have hst := roU_step hj
  obtain ⟨x, hwx⟩ : ∃ w, w = (lst o)[j] := ⟨_, rfl⟩
  rw [← hwx] at hx hw hst
  rw [g3, Bool.true_and] at hst
  have hno : roN (lst o) j x = false → roU (lst o) (lst o).length = false := fun hk => roU_no (by rw [hst, hk]) _ (by omega : j + 1 ≤ (lst o).length)
  have f2 := f44 x.v (by unfold Sm at hw; omega)
  have y0 : ∀ σ' : Sto, ∀ hid, hide σ' (n + 1) (n + 1) hid n = σ' n := fun σ' hid => hide_low _ _ _ _ (by omega) (Nat.le_refl _)
  cases hv : okV x.v
  ·rw [hv] at f2
   have hk : roN (lst o) j x = false := by unfold roN; rw [hv]; rfl
   simp +contextual -implicitDefEqProofs (maxSteps := 2000000) only [↓wP, wS, seval, h1, h2, g1, g2, hx, rwV_eq, upd_self, f2]
   rw [hno hk]
  ·rw [hv] at f2
   by_cases hj0 : j = 0
   ·have hz : ¬ ((0 : Int) < (j : Int)) := by omega
    have hk : roN (lst o) j x = true := by subst hj0; unfold roN; rw [hv]; rfl
    simp +contextual -implicitDefEqProofs (maxSteps := 2000000) only [↓wP, wS, seval, h1, h2, g1, g2, hx, rwV_eq, upd_self, f2, hz]
    rw [hst, hk]
   ·have hz : (0 : Int) < (j : Int) := by omega
    have wj : IntKind.i64.wrap ((j : Int) - 1) = ((j - 1 : Nat) : Int) := by rw [wrap_i64] <;> omega
    have hx2 : (lst o)[j - 1]? = some (lst o)[j - 1] := List.getElem?_eq_getElem (by omega)
    obtain ⟨p, hp⟩ : ∃ p, p = (lst o)[j - 1] := ⟨_, rfl⟩
    rw [← hp] at hx2
    have hk : roN (lst o) j x = decide (p.id < x.id) := by
     obtain ⟨i, rfl⟩ : ∃ i, j = i + 1 := ⟨j - 1, by omega⟩
     unfold roN
     rw [show i + 1 - 1 = i from rfl] at hx2
     simp [hx2, hv]
    by_cases hlt : p.id < x.id
    ·have hlt' : ¬ (x.id ≤ p.id) := by omega
     rw [decide_eq_true hlt] at hk
     simp +contextual -implicitDefEqProofs (maxSteps := 2000000) only [↓wP, wS, seval, h1, h2, g1, g2, hx, hx2, rwV_eq, upd_self, f2, hz, wj, y0, hlt']
     rw [hst, hk]
    ·have hlt' : x.id ≤ p.id := by omega
     rw [decide_eq_false hlt] at hk
     simp +contextual -implicitDefEqProofs (maxSteps := 2000000) only [↓wP, wS, seval, h1, h2, g1, g2, hx, hx2, rwV_eq, upd_self, f2, hz, wj, y0, hlt']
     rw [hno hk]
 ·intro env σ n ⟨g1, g2, g3⟩ h1 h2
  simp +contextual -implicitDefEqProofs (maxSteps := 2000000) only [↓wP, wS, seval]
  rw [g3]
 ·simp +contextual -implicitDefEqProofs (maxSteps := 2000000) only [↓wP, wS, seval]
  rfl
def f18 (o : Option (List Rw)) (h : SmR o) := callE_tr (by decide) (r18 o h) (by simp [Tr, Tr_slV]) rfl
def Got (σ : Sto) (m n : Nat) (v : V) (L : List Rw) : Prop := (v = .nilS ∧ L = []) ∨ ∃ i P, v = .ref i 0 P.length 2 ∧ P.map (·.1) = L.map (fun r => (r.id, lst r.v)) ∧ σ i = some (.row 2 (P.map tqV)) ∧ (i :: P.map (·.2)).Nodup ∧ m ≤ i ∧ i < n ∧ Vks σ m n P
theorem thaw_ownRw (σ0 : Sto) (n : Nat) (r : Rw) : thaw σ0 n (ownRw r) = (tqV ((r.id, lst r.v), n), upd σ0 n (some (.row 1 ((lst r.v).map i32V))), n + 1) := by
 have hn : thawL σ0 n ((lst r.v).map i32V) = ((lst r.v).map i32V, σ0, n) := thawL_nw 1 (fun c hc => by obtain ⟨t, -, rfl⟩ := List.mem_map.1 hc; rfl)
 simp only [ownRw, thaw_agg, thawL_cons, thawL_nil, thaw_int, thaw_own, hn, tqV, List.length_map]
theorem thaw_ownRs : ∀ (L : List Rw) (σ0 : Sto) (n : Nat), ∃ P σ', thawL σ0 n (L.map ownRw) = (P.map tqV, σ', n + L.length) ∧ P.map (·.1) = L.map (fun r => (r.id, lst r.v)) ∧ Vks σ' n (n + L.length) P ∧ ∀ i, i < n → σ' i = σ0 i
 | [], σ0, n => ⟨[], σ0, rfl, rfl, ⟨by simp, fun x hx => by simp at hx⟩, fun _ _ => rfl⟩
 | r :: L, σ0, n => by
   obtain ⟨P, σ', h1, h2, h3, h4⟩ := thaw_ownRs L (upd σ0 n (some (.row 1 ((lst r.v).map i32V)))) (n + 1)
   refine ⟨((r.id, lst r.v), n) :: P, σ', ?_, by rw [List.map_cons, List.map_cons, h2], ⟨?_, fun x hx => ?_⟩, fun i hi => ?_⟩
   ·rw [List.map_cons, thawL_cons, thaw_ownRw, h1, List.length_cons]
    simp only [List.map_cons]
    congr 2
    omega
   ·rw [List.map_cons]
    refine List.nodup_cons.2 ⟨fun hm => ?_, h3.1⟩
    obtain ⟨x, hx, e⟩ := List.mem_map.1 hm
    have := (h3.2 x hx).1
    have e : x.2 = n := e
    omega
   ·rcases List.mem_cons.1 hx with rfl | hx
    ·refine ⟨Nat.le_refl _, by show n < _; rw [List.length_cons]; omega, ?_⟩
     show σ' n = _
     rw [h4 n (by omega), upd_self]
    ·obtain ⟨v1, v2, v3⟩ := h3.2 x hx
     exact ⟨by omega, by rw [List.length_cons]; omega, v3⟩
   ·rw [h4 i (by omega), upd_ne (by omega)]
theorem thaw_ownR (σ0 : Sto) (n : Nat) (L : List Rw) : ∃ v σ' n', thaw σ0 n (ownR L) = (v, σ', n') ∧ Got σ' n n' v L ∧ n ≤ n' ∧ n' ≤ n + L.length + 1 ∧ ∀ i, i < n → σ' i = σ0 i := by
 cases L with
 | nil => exact ⟨_, _, _, rfl, .inl ⟨rfl, rfl⟩, Nat.le_refl _, by omega, fun _ _ => rfl⟩
 | cons r L0 =>
   obtain ⟨L, hL⟩ : ∃ L, L = r :: L0 := ⟨_, rfl⟩
   have ho : ownR (r :: L0) = .own 2 (L.map ownRw) := by rw [hL]; rfl
   rw [ho, ← hL]
   obtain ⟨P, σ', h1, h2, h3, h4⟩ := thaw_ownRs L σ0 n
   have hl : P.length = L.length := by have := congrArg List.length h2; simpa using this
   refine ⟨.ref (n + L.length) 0 P.length 2, upd σ' (n + L.length) (some (.row 2 (P.map tqV))), n + L.length + 1, ?_, .inr ⟨n + L.length, P, rfl, h2, upd_self _ _ _, List.nodup_cons.2 ⟨fun hm => ?_, h3.1⟩, by omega, by omega, h3.loc (fun x hx => ?_) (Nat.le_refl _) (by omega)⟩, by omega, Nat.le_refl _, fun i hi => ?_⟩
   ·simp only [thaw_own, h1, List.length_map, hl]
   ·obtain ⟨x, hx, e⟩ := List.mem_map.1 hm
    have := (h3.2 x hx).2.1
    have e : x.2 = n + L.length := e
    omega
   ·have := (h3.2 x hx).2.1
    rw [upd_ne (by omega)]
   ·rw [upd_ne (by omega), h4 i hi]
theorem flat_ownR (L : List Rw) : flat (ownR L) = true := by
 cases L with
 | nil => rfl
 | cons r L =>
   show flatL _ = true
   refine flatL_all (fun x hx => ?_)
   obtain ⟨w, -, rfl⟩ := List.mem_map.1 hx
   show (true && (flatL _ && true)) = true
   rw [flatL_all (fun y hy => by obtain ⟨t, -, rfl⟩ := List.mem_map.1 hy; rfl)]
   rfl
theorem frz_tqs {σ : Sto} (k : Nat) : ∀ {P : List Tq}, (∀ x ∈ P, σ x.2 = some (.row 1 (x.1.2.map i32V))) → (P.map tqV).mapM (elemM (Go.Q.frz σ (k + 2))) = some (P.map fun x => rwV (tqR x))
 | [], _ => rfl
 | x :: P, h => by
   have r1 := frz_tqs k (P := P) (fun y hy => h y (List.mem_cons_of_mem _ hy))
   have hg := frz_vx (σ := σ) (x := (⟨0, 0, false, some x.1.2⟩, some x.2)) ⟨rfl, h x List.mem_cons_self⟩ k
   simp only [vx, lst_some] at hg
   rw [List.map_cons, List.mapM_cons, r1]
   simp only [tqV, elemM, List.mapM_cons, List.mapM_nil, frz_int, hg]
   rfl
theorem Got.frz {σ : Sto} {m n : Nat} {v : V} {L : List Rw} (h : Got σ m n v L) (k : Nat) : ∃ o, Go.Q.frz σ (k + 3) v = some (slV 2 rwV o) ∧ lst o = L.map cpR := by
 rcases h with ⟨rfl, rfl⟩ | ⟨i, P, rfl, h0, h1, h2, h3, h4, h5⟩
 ·exact ⟨none, rfl, rfl⟩
 ·refine ⟨some (P.map tqR), ?_, ?_⟩
  ·have hl : P.length = (P.map tqV).length := by rw [List.length_map]
   rw [frz_rf, h1, elemsO_row, if_pos (by omega), List.drop_zero, hl, List.take_length, Option.bind_some, frz_tqs k (fun x hx => (h5.2 x hx).2.2)]
   simp [slV]
  ·rw [lst_some]
   have e : P.map tqR = (P.map (·.1)).map (fun y => (⟨y.1, some y.2⟩ : Rw)) := by rw [List.map_map]; rfl
   rw [e, h0, List.map_map]; rfl
theorem Got.cells {σ : Sto} {m n : Nat} {v : V} {L : List Rw} (h : Got σ m n v L) : v.cells = [v] ∧ v.one = true ∧ lenE v = some (.int .i64 (L.length : Int)) := by
 rcases h with ⟨rfl, rfl⟩ | ⟨i, P, rfl, h0, -⟩
 ·exact ⟨rfl, rfl, rfl⟩
 ·have := congrArg List.length h0
  rw [List.length_map, List.length_map] at this
  exact ⟨rfl, rfl, by rw [lenE_ref, this]⟩
theorem t15 {σ : Sto} {n : Nat} (l : Option (List Wr)) (c : Int) (o : Option (List Rw)) (h : FitW (lst l)) (ho : SmRo (lst o)) :
 ∃ nv σ' n', callE T true 15 [slV 4 wrV l, .int .i64 c, slV 2 rwV o] σ n 0 = some (.tup [nv, .int .i64 (ovE (lst l) c (lst o))], σ', n') ∧ Got σ' n n' nv (ovL (lst l) c (lst o)) ∧ n ≤ n' ∧ n' ≤ n + (ovL (lst l) c (lst o)).length + 1 ∧ ∀ j, j < n → σ' j = σ j := by
 obtain ⟨lv, σ', n', g1, g2, g3, g4, g5⟩ := thaw_ownR σ n (ovL (lst l) c (lst o))
 have m1 : [slV 4 wrV l, .int .i64 c, slV 2 rwV o].mapM (Go.Q.frz σ 12) = some [slV 4 wrV l, .int .i64 c, slV 2 rwV o] := by
  simp only [List.mapM_cons, List.mapM_nil, frz_slV, frz_int]; rfl
 have hf : flat (.tup [ownR (ovL (lst l) c (lst o)), .int .i64 (ovE (lst l) c (lst o))]) = true := by show (flat (ownR _) && _) = true; rw [flat_ownR]; rfl
 have := callE_flat (f := 15) (by decide) m1 (r15 l c o h ho) hf true n 0
 refine ⟨lv, σ', n', ?_, g2, g3, g4, g5⟩
 rw [this, thaw_tup, thawL_cons, g1]
 rfl
end Go.Q.SV
end

section
/- WritesOver, the law. -/
namespace Go.Q.SV
open Go.Q Go.Sort
theorem cutWs_lim (l : Option (List Wr)) : Lim (lst (cutWs l)) := by
 unfold cutWs
 rw [lst_oL]
 have h := Okw.few (lst l)
 exact ⟨h.1, fun w hw => (h.2 w hw).1⟩
theorem f20 (l : Option (List Wr)) (c : Int) (o : Option (List Rw)) (h : FitW (lst l)) (ho : FitR (lst o)) (fs : Bool) (σ : Sto) (n lk : Nat) : callE T fs 20 [slV 4 wrV l, .int .i64 c, slV 2 rwV o] σ n lk = some (slV 2 rwV (oL ((ovR (lst o) ((lst l).filter fun w => w.c == c)).map cpR)), σ, n) :=
 callE_tr (by decide) (r20 l c o h ho) (by simp [Tr, Tr_slV]) (Nw_slV _ _ _ _) fs σ n lk
def Shq (σ : Sto) (i : Nat) (P : List Tq) : Prop := σ i = some (.row 2 (P.map tqV)) ∧ ∀ x ∈ P, x.2 ≠ i ∧ ∃ ys : List Int, ys.length = x.1.2.length ∧ σ x.2 = some (.row 1 (ys.map i32V))
theorem Shq.set {σ : Sto} {i k : Nat} {P : List Tq} {ys zs : List Int} (h : Shq σ i P) (hk : σ k = some (.row 1 (ys.map i32V))) (hl : zs.length = ys.length) (hki : k ≠ i) : Shq (upd σ k (some (.row 1 (zs.map i32V)))) i P := by
 refine ⟨by rw [upd_ne (fun e => hki e.symm)]; exact h.1, fun x hx => ?_⟩
 obtain ⟨h1, ws, h2, h3⟩ := h.2 x hx
 refine ⟨h1, ?_⟩
 by_cases e : x.2 = k
 ·rw [e] at h3 ⊢
  rw [hk] at h3
  have : ws.length = ys.length := by
   have := congrArg (fun o => match o with | some (Ob.row _ r) => List.length r | _ => 0) h3
   simpa using this.symm
  exact ⟨zs, by omega, upd_self _ _ _⟩
 ·exact ⟨ws, h2, by rw [upd_ne e]; exact h3⟩
theorem r4 (x : Option (List Wr)) (y : Option (List Rw)) (cs : Option (List Int)) (hx : SmW x) (hy : SmR y) (hcl : (lst cs).length < 4611686018427387904) : res T 4 [slV 4 wrV x, slV 2 rwV y, slV 1 iV cs] = some (.bool true) := by
 refine run_res (run_pure (fn := g4) rfl rfl (by decide) ?_)
 simp only [g4, b4, zO, zN, zM, zL, zG, zP, zQ, zI, zA, zT, zF, zB, zC, zD, zE, zH, zJ, zK]
 have f9' := f9 x hx
 have f14' := f14 y hy
 have hm19 : T.mode 19 ≠ .raw := by decide
 have hwl := cutWs_lim x
 have hr1 := cutRs_len y
 have hr2 := cutRs_v y
 obtain ⟨w, hw⟩ : ∃ w, w = cutWs x := ⟨_, rfl⟩
 obtain ⟨o, ho⟩ : ∃ o, o = cutRs y := ⟨_, rfl⟩
 rw [← hw] at f9' hwl
 rw [← ho] at f14' hr1 hr2
 have hsR : SmR o := ⟨by omega, fun r hr => by have := hr2 r hr; unfold Sm; omega⟩
 have hoR : SmRo (lst o) := ⟨by omega, fun r hr => by have := hr2 r hr; omega⟩
 have hfR : FitR (lst o) := ⟨by omega, fun r hr => by have := hr2 r hr; omega⟩
 have f16' := f16 w hwl.sm
 have f18' := f18 o hsR
 have f13' := f13 w w hwl.sm hwl.sm
 rw [same_qw rfl] at f13'
 have f19' := f19 o o hsR hsR
 rw [same_r rfl] at f19'
 simp +contextual -implicitDefEqProofs (maxSteps := 2000000) only [↓wP, wS, seval, f8, f9', f14']
 refine WC_for (lst cs).length 0 (fun (j : Nat) env σ n => env 0 = slV 4 wrV x ∧ env 1 = slV 2 rwV y ∧ env 7 = slV 4 wrV w ∧ env 8 = slV 2 rwV o ∧ env 22 = slV 1 iV cs) (by omega) (by decide) (by decide) (fun _ _ => rfl) (fun _ _ _ => rfl) ?_ ?_ _ _ _ rfl rfl ?_
 ·intro j env σ n hj h1 h2 ⟨g1, g2, g3, g4, g5⟩
  simp only [vl_tmp] at h2
  have hxj : (lst cs)[j]? = some (lst cs)[j] := List.getElem?_eq_getElem hj
  generalize (lst cs)[j] = c at *
  have hiV : iV c = .int .i64 c := rfl
  by_cases h12 : j = 6
  ·have hd : ((j : Int) == 6) = true := by rw [h12]; rfl
   simp +contextual -implicitDefEqProofs (maxSteps := 2000000) only [↓wP, wS, seval, h1, h2, g1, g2, g3, g4, g5, hxj, hiV, hd]
  have hd : ((j : Int) == 6) = false := by simp; omega
  have f17' := f17 c
  obtain ⟨nv, σ2, n2, c15, q2, q3, q4, q5⟩ := t15 (σ := σ) (n := n) w c o hwl.fit hoR
  obtain ⟨nc, no, nl⟩ := q2.cells
  obtain ⟨E, hE⟩ : ∃ E, E = ovE (lst w) c (lst o) := ⟨_, rfl⟩
  obtain ⟨L, hL⟩ : ∃ L, L = ovL (lst w) c (lst o) := ⟨_, rfl⟩
  rw [← hE] at c15
  rw [← hL] at q2 nl
  unfold ovL at hL
  rw [← hE] at hL
  unfold ovE at hE
  have z1 : ((260 : Int) != 0) = true := rfl
  have z2 : ((2 : Int) != 0) = true := rfl
  have z3 : ((170 : Int) != 0) = true := rfl
  have z0 : ((0 : Int) != 0) = false := rfl
  have hbad : E ≠ 0 → L.length = 0 := fun h => by rw [hL, if_neg h]; rfl
  cases hr : rightW (lst w)
  ·rw [hr] at f16' hE
   rw [if_pos rfl] at hE
   rw [hbad (by rw [hE]; decide), Int.natCast_zero] at nl
   rw [hE] at c15
   simp +contextual -implicitDefEqProofs (maxSteps := 2000000) only [↓wP, wS, seval, h1, h2, g1, g2, g3, g4, g5, hxj, hiV, hd, c15, nc, no, f16', z1, nl]
  rw [hr] at f16' hE
  rw [if_neg (by decide)] at hE
  cases hc : collB c
  ·rw [hc] at f17' hE
   rw [if_pos rfl] at hE
   rw [hbad (by rw [hE]; decide), Int.natCast_zero] at nl
   rw [hE] at c15
   simp +contextual -implicitDefEqProofs (maxSteps := 2000000) only [↓wP, wS, seval, h1, h2, g1, g2, g3, g4, g5, hxj, hiV, hd, c15, nc, no, f16', f17', z2, nl]
  rw [hc] at f17' hE
  rw [if_neg (by decide)] at hE
  cases hro : roU (lst o) (lst o).length
  ·rw [hro] at f18' hE
   rw [if_pos rfl] at hE
   rw [hbad (by rw [hE]; decide), Int.natCast_zero] at nl
   rw [hE] at c15
   simp +contextual -implicitDefEqProofs (maxSteps := 2000000) only [↓wP, wS, seval, h1, h2, g1, g2, g3, g4, g5, hxj, hiV, hd, c15, nc, no, f16', f17', f18', z3, nl]
  rw [hro] at f18' hE
  rw [if_neg (by decide)] at hE
  rw [hE, if_pos rfl] at hL
  rw [hE] at c15
  have f20' := f20 w c o hwl.fit hfR
  obtain ⟨go, k1, k2⟩ := q2.frz 9
  obtain ⟨M, hM⟩ : ∃ M, M = oL ((ovR (lst o) ((lst w).filter fun z => z.c == c)).map cpR) := ⟨_, rfl⟩
  rw [← hM] at f20'
  have hgM : lst go = lst M := by rw [k2, hL, hM, lst_oL]
  have hLs : ∀ r ∈ L, (lst r.v).length ≤ 5 := by
   rw [hL]
   exact ovR_all (P := fun v => (lst v).length ≤ 5) hr2 (fun z hz => hwl.2 z (List.mem_filter.1 hz).1)
  have hLl : L.length ≤ 60 := by
   rw [hL]
   have h1 := ovR_len (lst o) ((lst w).filter fun z => z.c == c)
   have h2 := List.length_filter_le (fun z : Wr => z.c == c) (lst w)
   have := hwl.1
   omega
  have hgS : SmR go := ⟨by rw [k2, List.length_map]; omega, fun r hr => by
   rw [k2] at hr
   obtain ⟨y, hy, rfl⟩ := List.mem_map.1 hr
   have := hLs y hy
   show (lst y.v).length < _; omega⟩
  have hMS : SmR M := ⟨by rw [← hgM]; exact hgS.1, by rw [← hgM]; exact hgS.2⟩
  have m19 : [nv, slV 2 rwV M].mapM (Go.Q.frz σ2 12) = some [slV 2 rwV go, slV 2 rwV M] := by
   simp only [List.mapM_cons, List.mapM_nil, k1, frz_slV]; rfl
  have w19 := callE_flat hm19 m19 (r19 go M hgS hMS) rfl true n2 0
  rw [thaw_bool, same_r (by rw [hgM])] at w19
  simp +contextual -implicitDefEqProofs (maxSteps := 2000000) only [↓wP, wS, seval, h1, h2, g1, g2, g3, g4, g5, hxj, hiV, hd, c15, nc, no, f16', f17', f18', z0, f20', w19, nl]
  refine WC_cutB (fun env σ n0 => env 0 = slV 4 wrV x ∧ env 1 = slV 2 rwV y ∧ env 7 = slV 4 wrV w ∧ env 8 = slV 2 rwV o ∧ env 22 = slV 1 iV cs ∧ env 23 = .int .i64 ((lst cs).length : Int) ∧ env 24 = .int .i64 (j : Int)) ?_ ?_
  ·rcases q2 with ⟨rfl, rfl⟩ | ⟨id, P, rfl, e0, e3, e4, e5, e6, e7⟩
   ·refine WC_for 0 0 (fun (j' : Nat) env σ n0 => env 0 = slV 4 wrV x ∧ env 1 = slV 2 rwV y ∧ env 7 = slV 4 wrV w ∧ env 8 = slV 2 rwV o ∧ env 22 = slV 1 iV cs ∧ env 23 = .int .i64 ((lst cs).length : Int) ∧ env 24 = .int .i64 (j : Int)) (by omega) (by decide) (by decide) (fun _ _ => rfl) (fun _ _ _ => rfl) ?_ ?_ _ _ _ rfl rfl ?_
    ·intro j' env σ n0 hj'; omega
    ·intro env σ n0 ⟨c1, c2, c3, c4, c5, c6, c7⟩ e1 e2
     exact ⟨rfl, rfl, c1, c2, c3, c4, c5, c6, c7⟩
    ·simp +contextual -implicitDefEqProofs (maxSteps := 2000000) only [↓wP, wS, seval, h1, h2, g1, g2, g3, g4, g5]
   have hPL : P.length = L.length := by have := congrArg List.length e0; simpa using this
   rw [← hPL]
   have hP5 : ∀ z ∈ P, z.1.2.length ≤ 5 := fun z hz => by
    have : z.1 ∈ L.map (fun r => (r.id, lst r.v)) := by rw [← e0]; exact List.mem_map.2 ⟨z, hz, rfl⟩
    obtain ⟨r, hr, e⟩ := List.mem_map.1 this
    have := hLs r hr
    rw [← e]; exact this
   have hsh : Shq σ2 id P := ⟨e3, fun z hz => ⟨fun e => (List.nodup_cons.1 e4).1 (by rw [← e]; exact List.mem_map.2 ⟨z, hz, rfl⟩), z.1.2, rfl, (e7.2 z hz).2.2⟩⟩
   refine WC_for P.length 0 (fun (j' : Nat) env σ n0 => env 0 = slV 4 wrV x ∧ env 1 = slV 2 rwV y ∧ env 7 = slV 4 wrV w ∧ env 8 = slV 2 rwV o ∧ env 11 = .ref id 0 P.length 2 ∧ env 22 = slV 1 iV cs ∧ env 23 = .int .i64 ((lst cs).length : Int) ∧ env 24 = .int .i64 (j : Int) ∧ Shq σ id P) (by omega) (by decide) (by decide) (fun _ _ => rfl) (fun _ _ _ => rfl) ?_ ?_ _ _ _ rfl rfl ?_
   ·clear h1 h2 g1 g2 g3 g4 g5
    intro j' env σ n0 hj' e1 e2 ⟨c1, c2, c3, c4, c5, c6, c7, c8, d3⟩
    simp only [vl_tmp] at e2
    have hxr : (P.map tqV)[j']? = some (tqV P[j']) := by rw [List.getElem?_map, List.getElem?_eq_getElem hj']; rfl
    have hmem := List.getElem_mem hj'
    generalize P[j'] = z at *
    have hz5 := hP5 z hmem
    have htq : tqV z = .agg [.int .u64 z.1.1, .ref z.2 0 z.1.2.length 1] := rfl
    rw [htq] at hxr
    have hd1 := d3.1
    simp +contextual -implicitDefEqProofs (maxSteps := 2000000) only [↓wP, wS, seval, e1, e2, c1, c2, c3, c4, c5, c6, c7, c8, hj', hd1, hxr]
    refine WC_cutB (fun env σ n0 => env 0 = slV 4 wrV x ∧ env 1 = slV 2 rwV y ∧ env 7 = slV 4 wrV w ∧ env 8 = slV 2 rwV o ∧ env 11 = .ref id 0 P.length 2 ∧ env 22 = slV 1 iV cs ∧ env 23 = .int .i64 ((lst cs).length : Int) ∧ env 24 = .int .i64 (j : Int) ∧
     env 72 = .int .i64 (P.length : Int) ∧ env 73 = .int .i64 (j' : Int) ∧ Shq σ id P) ?_ ?_
    ·refine WC_for z.1.2.length 0 (fun (q : Nat) env σ n0 => env 0 = slV 4 wrV x ∧ env 1 = slV 2 rwV y ∧ env 7 = slV 4 wrV w ∧ env 8 = slV 2 rwV o ∧ env 11 = .ref id 0 P.length 2 ∧ env 14 = .int .i64 (j' : Int) ∧ env 22 = slV 1 iV cs ∧ env 23 = .int .i64 ((lst cs).length : Int) ∧ env 24 = .int .i64 (j : Int) ∧
      env 72 = .int .i64 (P.length : Int) ∧ env 73 = .int .i64 (j' : Int) ∧ Shq σ id P) (by omega) (by decide) (by decide) (fun _ _ => rfl) (fun _ _ _ => rfl) ?_ ?_ _ _ _ rfl rfl ?_
     ·clear c1 c2 c3 c4 c5 c6 c7 c8 e1 e2 d3 hd1
      intro q env σ n0 hq e1 e2 ⟨c1, c2, c3, c4, c5, c11, c6, c7, c8, c9, c10, d1⟩
      simp only [vl_tmp] at e2
      obtain ⟨f3, ys, f1, f4⟩ := d1.2 z hmem
      have u1 := d1.1
      have hy' : (ys.map i32V)[q]? = some (.int .i32 (ys[q]'(by omega))) := by rw [List.getElem?_map, List.getElem?_eq_getElem (by omega)]; rfl
      have hq2 : q < (ys.map i32V).length := by rw [List.length_map]; omega
      have hset : ∀ v, (ys.map i32V).set q (.int .i32 v) = (ys.set q v).map i32V := fun v => by rw [List.map_set]; rfl
      obtain ⟨t, ht⟩ : ∃ t, t = IntKind.i32.wrap ((BitVec.ofInt IntKind.i32.bits (ys[q]'(by omega)) ^^^ BitVec.ofInt IntKind.i32.bits 85).toNat : Int) := ⟨_, rfl⟩
      obtain ⟨σb, hσb⟩ : ∃ σb, σb = upd σ z.2 (some (.row 1 ((ys.set q t).map i32V))) := ⟨_, rfl⟩
      simp +contextual -implicitDefEqProofs (maxSteps := 2000000) only [↓wP, wS, seval, e1, e2, c1, c2, c3, c4, c5, c6, c7, c11, c8, c9, c10, hj', hq, u1, f4, hxr, hy', hq2, bin_xor, hset, ← ht, ← hσb]
      have hl2 : (ys.set q t).length = ys.length := List.length_set
      rw [hσb]
      exact d1.set f4 hl2 f3
     ·intro env σ n0 ⟨c1, c2, c3, c4, c5, c11, c6, c7, c8, c9, c10, d1⟩ e1 e2
      exact ⟨rfl, rfl, c1, c2, c3, c4, c5, c6, c7, c8, c9, c10, d1⟩
     ·refine ⟨?_, ?_, ?_, ?_, ?_, ?_, ?_, ?_, ?_, ?_, ?_, d3⟩
      all_goals simp +contextual -implicitDefEqProofs (maxSteps := 2000000) only [↓wP, wS, seval, e1, e2, c1, c2, c3, c4, c5, c6, c7, c8]
    ·clear c1 c2 c3 c4 c5 c6 c7 c8 e1 e2 d3 hd1
     intro env σ n0 ⟨c1, c2, c3, c4, c5, c6, c7, c8, e2, e1, d3⟩
     simp +contextual -implicitDefEqProofs (maxSteps := 2000000) only [↓wP, wS, seval, e1, e2, c1, c2, c3, c4, c5, c6, c7, c8]
     exact d3
   ·intro env σ n0 ⟨c1, c2, c3, c4, c5, c6, c7, c8, d3⟩ e1 e2
    exact ⟨rfl, rfl, c1, c2, c3, c4, c6, c7, c8⟩
   ·simp +contextual -implicitDefEqProofs (maxSteps := 2000000) only [↓wP, wS, seval, h1, h2, g1, g2, g3, g4, g5]
    exact hsh
  ·intro env σ n0 ⟨c1, c2, c3, c4, c5, c6, c7⟩
   simp +contextual -implicitDefEqProofs (maxSteps := 2000000) only [↓wP, wS, seval, c1, c2, c3, c4, c5, c6, c7, f9', f13', f14', f19']
 ·intro env σ n ⟨g1, _⟩ h1 h2
  simp +contextual -implicitDefEqProofs (maxSteps := 2000000) only [↓wP, wS, seval]
 ·simp +contextual -implicitDefEqProofs (maxSteps := 2000000) only [↓wP, wS, seval]
end Go.Q.SV
end

section
/- slices.Insert and slices.Delete of rows of writes, walked. -/
namespace Go.Q.S16
open Go.Proofs Go.Shelf Go.RowKit Go.Lib
set_option maxHeartbeats 4000000 in
set_option maxRecDepth 100000 in
theorem ins_end (base : Option Addr) (n c vb vc : Nat) (w w1 : World) (u : Value) (hr : ∀ ty, (Builtin.append_ #[22, 22] ty #[.slice base n c, .slice (some ⟨vb, 0, none⟩) 1 vc]).run Try.prog w = .ok u w1) :
 Calls Try.prog 69 #[.slice base n c, .int .i64 n, .slice (some ⟨vb, 0, none⟩) 1 vc] w fun e w' => e = .returned u ∧ w' = w1 := by
 have hnn : n ≤ n := Nat.le_refl _
 cases base with
 | none =>
   go_enter Try.func69, Try.ntmps69
   go_wp2_with (at_builtin; refine Lib.wpList_append_run _ rfl _ _ _ _ rfl _ _ rfl rfl _ _ (hr _) ?_)
   all_goals (go_ret; exact ⟨rfl, rfl⟩)
 | some a =>
   obtain ⟨ab, ao, asp⟩ := a
   go_enter Try.func69, Try.ntmps69
   go_wp2_with (at_builtin; refine Lib.wpList_append_run _ rfl _ _ _ _ rfl _ _ rfl rfl _ _ (hr _) ?_)
   all_goals (go_ret; exact ⟨rfl, rfl⟩)
variable [Link]
theorem sz35 : ∀ w, (Go.sizeOf 35).run Try.prog w = .ok 4 w := fun w => by
 have h : (Try.prog.info? 35).map (·.size) = some 4 := by kernel_rfl
 cases hi : Try.prog.info? 35 with
 | none => rw [hi] at h; cases h
 | some i => rw [hi] at h; simp only [Option.map_some, Option.some.injEq] at h; simp [sizeOf, typeInfo, hi, h]
theorem info35 : ∃ i z, Try.prog.info? 35 = some i ∧ i.size = 4 ∧ i.bytes = 48 ∧ i.zero = some z ∧ z.cells.size = 4 := by
 have h : (Try.prog.info? 35).map (fun i => (i.size, i.bytes, i.zero.map (fun z => z.cells.size))) = some (4, 48, some 4) := by kernel_rfl
 cases hi : Try.prog.info? 35 with
 | none => rw [hi] at h; cases h
 | some i =>
   rw [hi] at h
   simp only [Option.map_some, Option.some.injEq, Prod.mk.injEq, Option.map_eq_some_iff] at h
   obtain ⟨h1, h2, z, h3, h4⟩ := h
   exact ⟨i, z, rfl, h1, h2, h3, h4⟩
set_option maxHeartbeats 4000000 in
set_option maxRecDepth 100000 in
theorem ins_grow (b n c i vb vc : Nat) (cs vs : Array Value) (ty tv : TypeId) (w : World) (hi : i < n) (hnc : n ≤ c) (hroom : c < n + 1) (hbig : (n + 1) * 48 ≤ 140737488355328) (hvb : vb ≠ b)
 (hb : w.heap[b]? = some (.cells cs ty (0, 0))) (hcz : c * 4 ≤ cs.size) (hv : w.heap[vb]? = some (.cells vs tv (0, 0))) (hvz : 4 ≤ vs.size)
 (h1 : (cut cs (i * 4) ((n - i) * 4)).all Value.oneCell' = true) (h2 : (cut vs 0 4).all Value.oneCell' = true) :
 Calls Try.prog 69 #[.slice (some ⟨b, 0, none⟩) n c, .int .i64 i, .slice (some ⟨vb, 0, none⟩) 1 vc] w fun e w' =>
  ∃ G ROW d, n + 1 ≤ G ∧ ROW.size = G * 4 ∧ (∀ k, k < i * 4 → ROW[k]? = cs[k]?) ∧ e = .returned (.slice (some ⟨w.heap.size, 0, none⟩) (n + 1) G) ∧
   w' = { putRow (w.alloc (.cells ROW 35)) w.heap.size (writeAt (writeAt ROW (i * 4) (cut vs 0 4)) ((i + 1) * 4) (cut cs (i * 4) ((n - i) * 4))) 35 with drawn := d } := by
 obtain ⟨i0, z0, hi0, hi1, hi2, hi3, hi4⟩ := info35
 have hz2 : ¬ ((i : Int) = (n : Int)) := by omega
 have hz3 : (c : Int) < (n : Int) + 1 := by omega
 have hlt := (Array.getElem?_eq_some_iff.1 hb).1
 have hltv := (Array.getElem?_eq_some_iff.1 hv).1
 have hkk : (n : Int) + 1 - (i : Int) = ((n + 1 - i : Nat) : Int) := by omega
 have hik : i + (n + 1 - i) = n + 1 := by omega
 have hold : (Builtin.firstCells i0.size i (.slice (some ⟨b, 0, none⟩) i c)).run Try.prog w.drew = .ok (cut cs 0 (i * 4)).toArray w.drew := by
  rw [hi1]
  exact cut_load (w := w.drew) hb (by omega)
 have hrz : ∀ ty, (Builtin.append_ #[22, 3] ty #[.slice (some ⟨b, 0, none⟩) i c, .int .i64 ((n : Int) + 1 - (i : Int))]).run Try.prog w =
  .ok (.slice (some ⟨w.heap.size, 0, none⟩) (n + 1) (grownCap w (n + 1) c 35)) (w.drew.alloc (.cells ((cut cs 0 (i * 4)).toArray ++ Builtin.zeroCells z0.cells (n + 1 - i) ++ Builtin.zeroCells z0.cells (grownCap w (n + 1) c 35 - (n + 1))) 35)) := fun ty => by
  have h := Lib.run_append_grow_zeros w 22 3 ty 35 i0 z0 .i64 .i64 Try.underlying22 Try.underlying3 hi0 hi3 (some ⟨b, 0, none⟩) i c _ hold (n + 1 - i) (by omega) (by omega) (by omega) (by omega) (by rw [hi2]; omega) (by rw [hi2, hik]; exact growslice_fits hroom hbig)
  rw [hik] at h
  rw [hkk]
  exact h
 obtain ⟨G, hG⟩ : ∃ G, G = grownCap w (n + 1) c 35 := ⟨_, rfl⟩
 obtain ⟨ROW, hROW⟩ : ∃ ROW : Array Value, ROW = (cut cs 0 (i * 4)).toArray ++ Builtin.zeroCells z0.cells (n + 1 - i) ++ Builtin.zeroCells z0.cells (G - (n + 1)) := ⟨_, rfl⟩
 rw [← hG] at hrz
 rw [← hROW] at hrz
 have hGn : n + 1 ≤ G := by rw [hG]; exact grownCap_ge w _ _ _
 have hG63 : G ≤ 9223372036854775807 := by
  have := grownCap_le_maxLen w (n + 1) c 35 (by unfold maxLen; omega)
  rw [← hG] at this
  unfold maxLen at this
  omega
 have hc0 : (cut cs 0 (i * 4)).length = i * 4 := cut_len (by omega)
 have hRl : ROW.size = G * 4 := by
  rw [hROW]
  simp only [Array.size_append, List.size_toArray, hc0, Builtin.zeroCells, Array.size_map, Array.size_range, hi4]
  omega
 have hR0 : ∀ k, k < i * 4 → ROW[k]? = cs[k]? := fun k hk => by
  rw [hROW, Array.append_assoc, Array.getElem?_append_left (by simp [hc0]; omega), List.getElem?_toArray, cut_get hk, Nat.zero_add]
 have hbB : b ≠ w.heap.size := by omega
 have hvB : vb ≠ w.heap.size := by omega
 have hW1B : (w.alloc (.cells ROW 35)).heap[w.heap.size]? = some (.cells ROW 35 (0, 0)) := by show (w.heap.push _)[w.heap.size]? = _; simp
 have hW1b : (w.alloc (.cells ROW 35)).heap[b]? = some (.cells cs ty (0, 0)) := by rw [Go.RowKit.Below.heap_alloc _ _ _ hlt]; exact hb
 have hW1v : (w.alloc (.cells ROW 35)).heap[vb]? = some (.cells vs tv (0, 0)) := by rw [Go.RowKit.Below.heap_alloc _ _ _ hltv]; exact hv
 have hWs : w.heap.size < (w.alloc (.cells ROW 35)).heap.size := by simp
 have hcpA : ∀ W : World, W.heap = (w.alloc (.cells ROW 35)).heap → ∀ ty' dc, (Builtin.copy_ #[22, 22] ty' #[.slice (some ⟨w.heap.size, i * 4, none⟩) (n + 1 - i) dc, .slice (some ⟨vb, 0, none⟩) 1 vc]).run Try.prog W = .ok (goInt 1) (putRow W w.heap.size (writeAt ROW (i * 4) (cut vs 0 4)) 35) := fun W hW ty' dc =>
  run_copyB (w := W) (sz := 4) (o := i * 4) (o' := 0) (l := 1) (dl := n + 1 - i) (k := 1) Try.underlying22 sz35 (by rw [hW]; exact hW1B) (by rw [hW]; exact hW1v) (by simp only [Nat.min_def]; split <;> omega) (by omega) (by omega) h2
 have hcpB : ∀ W : World, W.heap = (putRow (w.alloc (.cells ROW 35)) w.heap.size (writeAt ROW (i * 4) (cut vs 0 4)) 35).heap → ∀ ty' dc sc, (Builtin.copy_ #[22, 22] ty' #[.slice (some ⟨w.heap.size, (i + 1) * 4, none⟩) (n + 1 - (i + 1)) dc, .slice (some ⟨b, i * 4, none⟩) (n - i) sc]).run Try.prog W =
  .ok (goInt ((n - i : Nat) : Int)) (putRow W w.heap.size (writeAt (writeAt ROW (i * 4) (cut vs 0 4)) ((i + 1) * 4) (cut cs (i * 4) ((n - i) * 4))) 35) := fun W hW ty' dc sc =>
  run_copyB (w := W) (sz := 4) (o := (i + 1) * 4) (o' := i * 4) (l := n - i) (dl := n + 1 - (i + 1)) (k := n - i) Try.underlying22 sz35 (by rw [hW]; exact putRow_heap_same hWs) (by rw [hW, putRow_heap_other hbB]; exact hW1b) (by simp only [Nat.min_def]; split <;> omega) (by simp; omega) (by omega) h1
 have core : Calls Try.prog 69 #[.slice (some ⟨b, 0, none⟩) n c, .int .i64 i, .slice (some ⟨vb, 0, none⟩) 1 vc] w fun e w' =>
  e = .returned (.slice (some ⟨w.heap.size, 0, none⟩) (n + 1) G) ∧ ∃ d, w' = { putRow (w.alloc (.cells ROW 35)) w.heap.size (writeAt (writeAt ROW (i * 4) (cut vs 0 4)) ((i + 1) * 4) (cut cs (i * 4) ((n - i) * 4))) 35 with drawn := d } := by
  clear hROW hG hold hkk hik hR0 hRl
  have hGi : ¬ (G = i) := by omega
  have hGim : ¬ (G = i + 1) := by omega
  have hci : ¬ (c = i) := by omega
  have hw1 : IntKind.i64.wrap ((i : Int) + 1) = (i : Int) + 1 := by rw [IntKind.wrap_i64]; omega
  have hw2 : IntKind.i64.wrap ((n : Int) + 1) = (n : Int) + 1 := by rw [IntKind.wrap_i64]; omega
  have hw3 : IntKind.i64.wrap ((n : Int) + 1 - (i : Int)) = (n : Int) + 1 - (i : Int) := by rw [IntKind.wrap_i64]; omega
  have hb1 : (0 : Int) ≤ (i : Int) + 1 := by omega
  have hin : i ≤ n := by omega
  have htn : ((i : Int) + 1).toNat = i + 1 := by omega
  have hb3 : (i : Int) ≤ (n : Int) := by omega
  have hE1 : ((w.alloc (.cells ROW 35)).drew).heap = (w.alloc (.cells ROW 35)).heap := rfl
  have hF1 : ((putRow ((w.alloc (.cells ROW 35)).drew) w.heap.size (writeAt ROW (i * 4) (cut vs 0 4)) 35).drew).heap = (putRow (w.alloc (.cells ROW 35)) w.heap.size (writeAt ROW (i * 4) (cut vs 0 4)) 35).heap := rfl
  have mixed : Try.prog.follows .mixedOrders = true := by kernel_rfl
  go_enter Try.func69, Try.ntmps69
  go_wp2_with (first
   | (at_builtin; refine Lib.wpList_append_run _ rfl _ _ _ _ rfl _ _ rfl rfl _ _ (hrz _) ?_)
   | (at_builtin; refine wpList_copy_runI _ rfl _ _ 22 22 rfl _ _ rfl rfl (hcpA _ hE1 _ _) ?_))
  go_region_law_o (refine step_copy_runI rfl _ _ 22 22 rfl (.slice (some ⟨w.heap.size, (i + 1) * 4, none⟩) (n + 1 - (i + 1)) (G - (i + 1))) (.slice (some ⟨b, i * 4, none⟩) (n - i) (c - i)) (by simp [Act.eval, Act.put]) (by simp [Act.eval, Act.put]) (hcpB _ hF1 _ (G - (i + 1)) (c - i)) ?_)
  go_wp2
  go_ret
  refine ⟨rfl, (w.alloc (.cells ROW 35)).drew.drew.drawn, ?_⟩
  rw [show ∀ W : World, ∀ x y, putRow (putRow W w.heap.size x 35).drew w.heap.size y 35 = putRow W.drew w.heap.size y 35 from fun W x y => putRow_twice (w := W.drew)]
  rfl
 exact core.mono fun e w' ⟨h1, d, h2⟩ => ⟨G, ROW, d, hGn, hRl, hR0, h1, h2⟩
set_option maxHeartbeats 4000000 in
set_option maxRecDepth 100000 in
theorem ins_shift (b n c i vb vc : Nat) (cs vs : Array Value) (ty tv : TypeId) (w : World) (hi : i < n) (hroom : n + 1 ≤ c) (hbig : (n + 1) * 48 ≤ 140737488355328) (hvb : vb ≠ b)
 (hb : w.heap[b]? = some (.cells cs ty (0, 0))) (hcz : c * 4 ≤ cs.size) (hv : w.heap[vb]? = some (.cells vs tv (0, 0))) (hvz : 4 ≤ vs.size)
 (h1 : (cut cs (i * 4) ((n - i) * 4)).all Value.oneCell' = true) (h2 : (cut vs 0 4).all Value.oneCell' = true) :
 Calls Try.prog 69 #[.slice (some ⟨b, 0, none⟩) n c, .int .i64 i, .slice (some ⟨vb, 0, none⟩) 1 vc] w fun e w' =>
  e = .returned (.slice (some ⟨b, 0, none⟩) (n + 1) c) ∧ w' = putRow w.drew b (writeAt (writeAt cs ((i + 1) * 4) (cut cs (i * 4) ((n - i) * 4))) (i * 4) (cut vs 0 4)) ty := by
 have hz2 : ¬ ((i : Int) = (n : Int)) := by omega
 have hov : ∀ lb cb, (callFunc 82 #[.slice (some ⟨vb, 0, none⟩) 1 vc, .slice (some ⟨b, (i + 1) * 4, none⟩) lb cb]).run Try.prog w = .ok (.value (.bool false)) w := fun lb cb => by
  rw [run_callFunc_extern Try.func82 (by kernel_rfl) (by kernel_rfl) (by kernel_rfl) (e := Extern.SlicesOverlaps.overlaps #[22, 22] #[4]) (by kernel_rfl),
   Lib.run_overlaps_apart w 22 4 35 Try.underlying22 4 sz35 ⟨vb, 0, none⟩ ⟨b, (i + 1) * 4, none⟩ 1 vc lb cb hvb tv ty vs.size cs.size (by simp [World.shape?, hv]) (by simp [World.shape?, hb]) (by omega) (by simp [World.frozen?, hv]) (by simp [World.frozen?, hv])]
  rfl
 have hbd : w.drew.heap[b]? = some (.cells cs ty (0, 0)) := hb
 have hcp1 : ∀ ty' dc sc, (Builtin.copy_ #[22, 22] ty' #[.slice (some ⟨b, (i + 1) * 4, none⟩) (n + 1 - (i + 1)) dc, .slice (some ⟨b, i * 4, none⟩) (n + 1 - i) sc]).run Try.prog w.drew = .ok (goInt ((n - i : Nat) : Int)) (putRow w.drew b (writeAt cs ((i + 1) * 4) (cut cs (i * 4) ((n - i) * 4))) ty) := fun ty' dc sc =>
  run_copyB (w := w.drew) (sz := 4) (o := (i + 1) * 4) (o' := i * 4) (l := n + 1 - i) (dl := n + 1 - (i + 1)) (k := n - i) Try.underlying22 sz35 hbd hbd (by simp only [Nat.min_def]; split <;> omega) (by omega) (by omega) h1
 have hlt := (Array.getElem?_eq_some_iff.1 hb).1
 have hW1b : (putRow w.drew b (writeAt cs ((i + 1) * 4) (cut cs (i * 4) ((n - i) * 4))) ty).heap[b]? = some (.cells (writeAt cs ((i + 1) * 4) (cut cs (i * 4) ((n - i) * 4))) ty (0, 0)) := putRow_heap_same hlt
 have hW1v : (putRow w.drew b (writeAt cs ((i + 1) * 4) (cut cs (i * 4) ((n - i) * 4))) ty).heap[vb]? = some (.cells vs tv (0, 0)) := by rw [putRow_heap_other hvb]; exact hv
 have hcp2 : ∀ ty' dc, (Builtin.copy_ #[22, 22] ty' #[.slice (some ⟨b, i * 4, none⟩) (n + 1 - i) dc, .slice (some ⟨vb, 0, none⟩) 1 vc]).run Try.prog (putRow w.drew b (writeAt cs ((i + 1) * 4) (cut cs (i * 4) ((n - i) * 4))) ty) = .ok (goInt 1) (putRow w.drew b (writeAt (writeAt cs ((i + 1) * 4) (cut cs (i * 4) ((n - i) * 4))) (i * 4) (cut vs 0 4)) ty) := fun ty' dc => by
  rw [run_copyB (w := (putRow w.drew b (writeAt cs ((i + 1) * 4) (cut cs (i * 4) ((n - i) * 4))) ty)) (sz := 4) (o := i * 4) (o' := 0) (l := 1) (dl := n + 1 - i) (k := 1) Try.underlying22 sz35 hW1b hW1v (by simp only [Nat.min_def]; split <;> omega) (by simp; omega) (by omega) h2, putRow_twice]
  rfl
 have hw1 : IntKind.i64.wrap ((i : Int) + 1) = (i : Int) + 1 := by rw [IntKind.wrap_i64]; omega
 have hw2 : IntKind.i64.wrap ((n : Int) + 1) = (n : Int) + 1 := by rw [IntKind.wrap_i64]; omega
 have hb1 : (0 : Int) ≤ (i : Int) + 1 := by omega
 have hb1' : (0 : Int) ≤ (n : Int) + 1 := by omega
 have hin : i ≤ n := by omega
 have htn : ((i : Int) + 1).toNat = i + 1 := by omega
 have htn' : ((n : Int) + 1).toNat = n + 1 := by omega
 have hb2 : ¬ (c = i + 1) := by omega
 have hb3 : (i : Int) ≤ (n : Int) + 1 := by omega
 have hb4 : ¬ (c = i) := by omega
 have hb5 : ¬ ((c : Int) < (n : Int) + 1) := by omega
 have mixed : Try.prog.follows .mixedOrders = true := by kernel_rfl
 go_enter Try.func69, Try.ntmps69
 go_wp2_with (simp only [hov])
 go_region_law_o (refine step_copy_runI rfl _ _ 22 22 rfl (.slice (some ⟨b, (i + 1) * 4, none⟩) (n + 1 - (i + 1)) (c - (i + 1))) (.slice (some ⟨b, i * 4, none⟩) (n + 1 - i) (c - i)) (by simp [Act.eval, Act.put]) (by simp [Act.eval, Act.put]) (hcp1 _ (c - (i + 1)) (c - i)) ?_)
 go_wp2_with (at_builtin; refine wpList_copy_runI _ rfl _ _ 22 22 rfl _ _ rfl rfl (hcp2 _ _) ?_)
 go_ret
 exact ⟨rfl, rfl⟩
theorem ti35 : ∃ j, ti Try.prog 35 = some j ∧ j.flat = true ∧ j.size = 4 ∧ j.bytes = 48 := by
 have h : (ti Try.prog 35).map (fun i => (i.flat, i.size, i.bytes)) = some (true, 4, 48) := by kernel_rfl
 cases hi : ti Try.prog 35 with
 | none => rw [hi] at h; cases h
 | some i =>
   rw [hi] at h
   simp only [Option.map_some, Option.some.injEq, Prod.mk.injEq] at h
   exact ⟨i, rfl, h.1, h.2.1, h.2.2⟩
set_option maxHeartbeats 4000000 in
set_option maxRecDepth 100000 in
theorem del_one (b n c i : Nat) (cs : Array Value) (ty : TypeId) (w : World) (hi : i < n) (hnc : n ≤ c) (hbig : n * 48 ≤ 140737488355328)
 (hb : w.heap[b]? = some (.cells cs ty (0, 0))) (hcz : c * 4 ≤ cs.size)
 (h1 : (cut cs ((i + 1) * 4) ((n - (i + 1)) * 4)).all Value.oneCell' = true) :
 Calls Try.prog 56 #[.slice (some ⟨b, 0, none⟩) n c, .int .i64 i, .int .i64 ((i : Int) + 1)] w fun e w' =>
  ∃ (zs : List Value) (d : Nat), zs.length = 4 ∧ e = .returned (.slice (some ⟨b, 0, none⟩) (n - 1) c) ∧ w' = { putRow w b (writeAt (writeAt cs (i * 4) (cut cs ((i + 1) * 4) ((n - (i + 1)) * 4))) ((n - 1) * 4) zs) ty with drawn := d } := by
 obtain ⟨j, hj, hjf, hjs, hjb⟩ := ti35
 have hlt := (Array.getElem?_eq_some_iff.1 hb).1
 have hap : ∀ (A : Addr) (sc : Nat), (n - (i + 1) = 0 ∨ A = ⟨b, (i + 1) * 4, none⟩) → ∀ ty', (Builtin.append_ #[22, 22] ty' #[.slice (some ⟨b, 0, none⟩) i c, .slice (some A) (n - (i + 1)) sc]).run Try.prog w.drew =
  .ok (.slice (some ⟨b, 0, none⟩) (n - 1) c) (putRow w.drew b (writeAt cs (i * 4) (cut cs ((i + 1) * 4) ((n - (i + 1)) * 4))) ty) := fun A sc hA ty' => by
  have h := run_appB (w := w.drew) (t := 22) (ty := ty') (o := (i + 1) * 4) (n := i) (dc := c) (l := n - (i + 1)) (c := sc) (A := A) Try.underlying22 hj hb hA (by omega) (by rw [hjs]; omega) (by rw [hjs]; omega) (by rw [hjs]; exact h1)
  rw [hjs, show i + (n - (i + 1)) = n - 1 by omega] at h
  exact h
 obtain ⟨zs, hzl, hcl⟩ := run_clearB (P := Try.prog) (w := putRow w.drew b (writeAt cs (i * 4) (cut cs ((i + 1) * 4) ((n - (i + 1)) * 4))) ty) (t := 22) (ty := 0) (b := b) (o := (n - 1) * 4) (k := 1) (c := c - (n - 1)) Try.underlying22 hj hjf (by omega) (putRow_heap_same hlt) (by simp [hjs]; omega)
 rw [hjs] at hzl
 rw [putRow_twice] at hcl
 have core : Calls Try.prog 56 #[.slice (some ⟨b, 0, none⟩) n c, .int .i64 i, .int .i64 ((i : Int) + 1)] w fun e w' =>
  e = .returned (.slice (some ⟨b, 0, none⟩) (n - 1) c) ∧ w' = { putRow w b (writeAt (writeAt cs (i * 4) (cut cs ((i + 1) * 4) ((n - (i + 1)) * 4))) ((n - 1) * 4) zs) ty with drawn := w.drawn + 1 } := by
  have mixed : Try.prog.follows .mixedOrders = true := by kernel_rfl
  have hin : i ≤ n := by omega
  have hin1 : (i : Int) + 1 ≤ (n : Int) := by omega
  have hne : ¬ ((i : Int) = (i : Int) + 1) := by omega
  have hb1 : (0 : Int) ≤ (i : Int) + 1 := by omega
  have htn : ((i : Int) + 1).toNat = i + 1 := by omega
  have hic : i ≤ c := by omega
  have hjc : i + 1 ≤ c := by omega
  have hcn : ¬ (c = n - 1) := by omega
  have hn1 : n - (n - 1) = 1 := by omega
  have hnm : n - 1 ≤ n := by omega
  have hci : ¬ (c = i) := by omega
  obtain ⟨A, hA, hA'⟩ : ∃ A : Addr, (if c = i + 1 then some (⟨b, 0, none⟩ : Addr) else some ⟨b, (i + 1) * 4, none⟩) = some A ∧ (n - (i + 1) = 0 ∨ A = ⟨b, (i + 1) * 4, none⟩) := by
   by_cases h : c = i + 1
   ·exact ⟨⟨b, 0, none⟩, by simp [h], .inl (by omega)⟩
   ·exact ⟨⟨b, (i + 1) * 4, none⟩, by simp [h], .inr rfl⟩
  have hapA := hap A (c - (i + 1)) hA'
  clear hap hA' hj hjf hjs hjb
  go_enter Try.func56, Try.ntmps56
  go_wp2_with fail
  go_region_law_o (refine step_append_runI rfl _ _ 22 22 rfl (.slice (some ⟨b, 0, none⟩) i c) (.slice (some A) (n - (i + 1)) (c - (i + 1))) (by simp [Act.eval, Act.put]) (by simp [Act.eval, Act.put, hA]) (hapA 22) ?_)
  go_wp2_with (at_builtin; refine wpList_clear_runI _ rfl _ 22 rfl _ rfl hcl ?_)
  go_ret
  exact ⟨rfl, rfl⟩
 exact core.mono fun e w' ⟨h1, h2⟩ => ⟨zs, _, by omega, h1, h2⟩
end Go.Q.S16
end

section
/- slices.Insert and slices.Delete of rows of writes: what the evaluator takes them for, they do. -/
namespace Go.Q.S16
open Go.Proofs Go.RowKit
theorem del_ok : PrimOk Try.prog 56 (delP 4 48) := by
 intro L w X ι σ n lk args us r hp hw hln hrep
 letI := L
 unfold delP at hp
 split at hp
 ·rename_i id len sz' i j
  split at hp
  ·rename_i sz'' xs hrow
   split at hp
   ·rename_i hc
    obtain ⟨rfl, rfl, hlen, hi0, hil, rfl, hlk, hbig⟩ := hc
    simp only [Option.some.injEq] at hp
    subst hp
    obtain ⟨i, rfl⟩ : ∃ k : Nat, i = (k : Int) := ⟨i.toNat, by omega⟩
    simp only [Int.toNat_natCast] at *
    have hlt : i < len := by omega
    obtain ⟨hus, hr⟩ := hrep
    obtain ⟨s, v1, v2, rfl⟩ : ∃ s v1 v2, us = #[s, v1, v2] := by
     have : us.size = 3 := hus
     exact ⟨us[0], us[1], us[2], by apply Array.ext; · simp [this]
                                    ·intro k h1 h2
                                     match k with
                                     | 0 => rfl
                                     | 1 => rfl
                                     | 2 => rfl
                                     | k + 3 => omega⟩
    have r0 := hr 0 _ _ rfl rfl
    have r1 := hr 1 _ _ rfl rfl
    have r2 := hr 2 _ _ rfl rfl
    obtain ⟨cs, ty, u, g1, g2, g3, g4, g5, g6⟩ := row_cells hw hrow (by omega)
    cases r1
    cases r2
    cases r0 with
    | ref _ _ _ _ c o cells ty' fz hid hcl ho hm hz =>
      have hc0 : c ≠ 0 := by omega
      have ho0 : o = 0 := by rcases ho with h | h; exact absurd h hc0; omega
      subst ho0
      rw [g1] at hm
      cases hm
      have hz' : c * 4 ≤ cs.size := by rcases hz with h | h; exact absurd h hc0; simpa using h
      have hk := del_one (ι id) len c i cs ty w hlt hcl (by omega) g1 hz' (cut_all fun k h1 h2 => g6 k (by omega))
      refine hk.mono fun e w' hh => ?_
      obtain ⟨zs, d, hzl, rfl, rfl⟩ := hh
      have hcutl : (cut cs ((i + 1) * 4) ((len - (i + 1)) * 4)).length = (len - (i + 1)) * 4 := cut_len (by omega)
      have hsz1 : (writeAt cs (i * 4) (cut cs ((i + 1) * 4) ((len - (i + 1)) * 4))).size = cs.size := by simp
      have hxl : (xs.take i ++ xs.drop (i + 1)).length = len - 1 := by simp; omega
      have hget : ∀ q, (xs.take i ++ xs.drop (i + 1))[q]? = if q < i then xs[q]? else xs[q + 1]? := fun q => by
       rw [List.getElem?_append]
       have : (xs.take i).length = i := by simp; omega
       rw [this]
       split
       ·rename_i h; rw [List.getElem?_take, if_pos h]
       ·rw [List.getElem?_drop]; congr 1; omega
      obtain ⟨a1, a2⟩ := set_move (lk := lk) (xs' := xs.take i ++ xs.drop (i + 1)) (cs' := writeAt (writeAt cs (i * 4) (cut cs ((i + 1) * 4) ((len - (i + 1)) * 4))) ((len - 1) * 4) zs) hw hrow hlk g1 (by simp)
       (fun q r => if q < i then u q r else u (q + 1) r) (by rw [hxl]; omega)
       (fun x hx => g3 x (by
        rcases List.mem_append.1 hx with h | h
        ·exact List.mem_of_mem_take h
        ·exact List.mem_of_mem_drop h))
       (fun q r hq hr => by
        rw [hxl] at hq
        rw [writeAt_get _ _ _ _ (by rw [hsz1, hzl]; omega), if_neg (by omega), writeAt_get _ _ _ _ (by rw [hcutl]; omega), hcutl]
        by_cases h : q < i
        ·rw [if_neg (by omega), if_pos h]
         exact g4 q r (by omega) hr
        ·rw [if_pos (by omega), if_neg h, cut_get (by omega)]
         have := g4 (q + 1) r (by omega) hr
         rw [← this]
         congr 1
         omega)
       (fun q x r e hx he => by
        rw [hget] at hx
        by_cases h : q < i
        ·rw [if_pos h] at hx; rw [if_pos h]; exact g5 _ _ _ _ hx he
        ·rw [if_neg h] at hx; rw [if_neg h]; exact g5 _ _ _ _ hx he) d
      refine ⟨_, X, setι ι n (ι id), rfl, a1, ?_, a2⟩
      have hb := putRow_heap_same (w := w) (cs := writeAt (writeAt cs (i * 4) (cut cs ((i + 1) * 4) ((len - (i + 1)) * 4))) ((len - 1) * 4) zs) (ty := ty) (Array.getElem?_eq_some_iff.1 g1).1
      have hιn : setι ι n (ι id) n = ι id := by simp [setι]
      have := Rep.ref (w := { putRow w (ι id) (writeAt (writeAt cs (i * 4) (cut cs ((i + 1) * 4) ((len - (i + 1)) * 4))) ((len - 1) * 4) zs) ty with drawn := d }) (X := X) (ι := setι ι n (ι id)) (n := n + 1) n 0 (len - 1) 4 c 0 _ ty (0, 0) (by omega) (by omega) (.inr (by omega)) (by rw [hιn]; exact hb) (.inr (by simp; omega))
      rw [hιn] at this
      exact this
   ·cases hp
  ·cases hp
 ·cases hp
end Go.Q.S16
end

section
/- slices.Insert: what the evaluator takes it for, it does. -/
namespace Go.Q.S16
open Go.Proofs Go.RowKit
theorem app_run [Link] {w : World} {X : Nat → Prop} {ι : Nat → Nat} {σ σ' : Sto} {n n' lk : Nat} {s y v : V} {us uy : Value} (hw : WF w X ι σ n) (hln : lk ≤ n) (hs : Rep w X ι n s us) (hy : Rep w X ι n y uy)
 (h : ev (fun o => match o with | .tmp 0 => s | _ => y) σ n lk (.append 4 48 (.tmp 0) (.tmp 1)) = some (v, σ', n')) :
 ∃ u w', (∀ ty, (Builtin.append_ #[22, 22] ty #[us, uy]).run Try.prog w = .ok u w') ∧ ∃ X' ι', WF w' X' ι' σ' n' ∧ Rep w' X' ι' n' v u ∧ Ext w w' X X' ι ι' σ σ' n n' lk := by
 obtain ⟨j, hj, hjf, hjs, hjb⟩ := ti35
 have g := ev_append (P := Try.prog) (ρ := fun o => match o with | .tmp 0 => us | _ => uy) (ρ' := fun o => match o with | .tmp 0 => s | _ => y) (ty := 0) (t := 22) (t' := 22) (e := 35) (e' := 35) (x := .tmp 0) (y := .tmp 1) (x' := .tmp 0) (y' := .tmp 1)
  hw hln hs hy Try.underlying22 Try.underlying22 hj hjf (by rw [hjs, hjb]; exact h)
 obtain ⟨w', X', ι', u, hr, hrep, hw', he⟩ := g
 refine ⟨u, w', fun ty => ?_, X', ι', hw', hrep, he⟩
 change (Builtin.append_ #[22, 22] 0 #[us, uy]).run Try.prog w = .ok u w'
 simp only [Sem.run_bind] at hr
 cases hq : (Builtin.append_ #[22, 22] 0 #[us, uy]).run Try.prog w with
 | ok a w1 =>
   rw [hq] at hr
   simp at hr
   obtain ⟨rfl, rfl⟩ := hr
   rfl
 | halt h1 h2 => rw [hq] at hr; simp at hr
theorem ins_ok : PrimOk Try.prog 69 (insP 4 48) := by
 intro L w X ι σ n lk args us r hp hw hln hrep
 letI := L
 unfold insP at hp
 split at hp
 ·rename_i s i id2 sz2
  split at hp
  ·rename_i sz3 y hrow2
   split at hp
   ·rename_i hc
    obtain ⟨rfl, rfl, -⟩ := hc
    obtain ⟨hus, hr⟩ := hrep
    obtain ⟨u0, u1, u2, rfl⟩ : ∃ s v1 v2, us = #[s, v1, v2] := by
     have : us.size = 3 := hus
     exact ⟨us[0], us[1], us[2], by apply Array.ext; · simp [this]
                                    ·intro k h1 h2
                                     match k with
                                     | 0 => rfl
                                     | 1 => rfl
                                     | 2 => rfl
                                     | k + 3 => omega⟩
    have r0 := hr 0 _ _ rfl rfl
    have r1 := hr 1 _ _ rfl rfl
    have r2 := hr 2 _ _ rfl rfl
    obtain ⟨vs, tv, uv, k1, k2, k3, k4, k5, k6⟩ := row_cells hw hrow2 (by omega)
    cases r1
    have r2' := r2
    cases r2 with
    | ref _ _ _ _ c2 o2 cells2 ty2' fz2 hid2 hcl2 ho2 hm2 hz2 =>
    have ho20 : o2 = 0 := by rcases ho2 with h | h; omega; omega
    subst ho20
    have hvz : 4 ≤ vs.size := by simpa using k2
    have hel : elems σ 4 (.ref id2 0 1 4) = some [y] := by simp [elems, hrow2]
    split at hp
    ·-- nothing there
     split at hp
     ·rename_i hi
      subst hi
      simp only [Option.some.injEq] at hp
      subst hp
      cases r0
      obtain ⟨u, w', g1, X', ι', g2, g3, g4⟩ := app_run (lk := lk) (s := .nilS) (y := .ref id2 0 1 4) (v := .ref n 0 1 4) (σ' := upd σ n (some (.row 4 [y]))) (n' := n + 1) hw hln .nilS r2' (by
       simp only [ev, hel]
       simp [LIM])
      have hk := ins_end none 0 0 (ι id2) c2 w w' u g1
      refine hk.mono fun e w1 hh => ?_
      obtain ⟨rfl, rfl⟩ := hh
      exact ⟨u, X', ι', rfl, g2, g3, g4⟩
     ·cases hp
    ·rename_i id len sz'
     split at hp
     ·rename_i sz'' xs hrow
      split at hp
      ·rename_i hc
       obtain ⟨rfl, rfl, hlen, hi0, hil, hlk, hne, hbig⟩ := hc
       simp only [Option.some.injEq] at hp
       subst hp
       obtain ⟨i, rfl⟩ : ∃ k : Nat, i = (k : Int) := ⟨i.toNat, by omega⟩
       simp only [Int.toNat_natCast] at *
       by_cases hie : i = len
       ·-- at the end
        subst hie
        have r0' := r0
        cases r0 with
        | ref _ _ _ _ c o cells ty' fz hid hcl ho hm hz =>
        have htk : xs.take i ++ y :: xs.drop i = xs.take i ++ [y] := by rw [hlen, List.drop_length]
        obtain ⟨u, w', g1, X', ι', g2, g3, g4⟩ := app_run (lk := lk) (s := .ref id 0 i 4) (y := .ref id2 0 1 4) (v := .ref n 0 (i + 1) 4) (σ' := upd (upd σ id none) n (some (.row 4 (xs.take i ++ y :: xs.drop i)))) (n' := n + 1) hw hln r0' r2' (by
         simp only [ev, hel, hrow, htk]
         rw [if_pos ⟨trivial, trivial, trivial, by omega, hlk, by simp only [List.length_singleton]; unfold LIM; omega⟩]
         rfl)
        have hk := ins_end (some ⟨ι id, o, none⟩) i c (ι id2) c2 w w' u g1
        refine hk.mono fun e w1 hh => ?_
        obtain ⟨rfl, rfl⟩ := hh
        exact ⟨u, X', ι', rfl, g2, g3, g4⟩
       ·obtain ⟨cs, ty, u, g1, g2, g3, g4, g5, g6⟩ := row_cells hw hrow (by omega)
        cases r0 with
        | ref _ _ _ _ c o cells ty' fz hid hcl ho hm hz =>
        have hc0 : c ≠ 0 := by omega
        have ho0 : o = 0 := by rcases ho with h | h; exact absurd h hc0; omega
        subst ho0
        rw [g1] at hm
        cases hm
        have hz' : c * 4 ≤ cs.size := by rcases hz with h | h; exact absurd h hc0; simpa using h
        have hlt : i < len := by omega
        have hbb : ι id2 ≠ ι id := fun e => hne (hw.inj id2 id (by rw [hrow2]; simp) (by rw [hrow]; simp) e).symm
        have hc1 : (cut cs (i * 4) ((len - i) * 4)).all Value.oneCell' = true := cut_all fun k h1 h2 => g6 k (by omega)
        have hc2 : (cut vs 0 4).all Value.oneCell' = true := cut_all fun k h1 h2 => k6 k (by simp; omega)
        have hcutl : (cut cs (i * 4) ((len - i) * 4)).length = (len - i) * 4 := cut_len (by omega)
        have hcutv : (cut vs 0 4).length = 4 := cut_len (by omega)
        have hxl : (xs.take i ++ y :: xs.drop i).length = len + 1 := by simp; omega
        have hget : ∀ q, (xs.take i ++ y :: xs.drop i)[q]? = if q < i then xs[q]? else if q = i then some y else xs[q - 1]? := fun q => by
         rw [List.getElem?_append]
         have : (xs.take i).length = i := by simp; omega
         rw [this]
         split
         ·rename_i h; rw [List.getElem?_take, if_pos h]
         ·by_cases h : q = i
          ·subst h; simp
          ·rw [if_neg h]
           obtain ⟨p, hp⟩ : ∃ p, q - i = p + 1 := ⟨q - i - 1, by omega⟩
           rw [hp, List.getElem?_cons_succ, List.getElem?_drop]
           congr 1; omega
        have hsz : ∀ x ∈ xs.take i ++ y :: xs.drop i, x.cells.length = 4 ∧ x.cells.all V.one = true := fun x hx => by
         rcases List.mem_append.1 hx with h | h
         ·exact g3 x (List.mem_of_mem_take h)
         ·rcases List.mem_cons.1 h with rfl | h
          ·exact k3 _ (by simp)
          ·exact g3 x (List.mem_of_mem_drop h)
        have hrp : ∀ (q : Nat) (x : V) (r : Nat) (e : V), (xs.take i ++ y :: xs.drop i)[q]? = some x → x.cells[r]? = some e → Rep w X ι n e ((fun q r => if q < i then u q r else if q = i then uv 0 r else u (q - 1) r) q r) := fun q x r e hx he => by
         rw [hget] at hx
         by_cases h : q < i
         ·rw [if_pos h] at hx; simp only [if_pos h]; exact g5 _ _ _ _ hx he
         ·rw [if_neg h] at hx; simp only [if_neg h]
          by_cases h' : q = i
          ·rw [if_pos h'] at hx; simp only [if_pos h']
           cases hx
           exact k5 0 _ _ _ rfl he
          ·rw [if_neg h'] at hx; simp only [if_neg h']; exact g5 _ _ _ _ hx he
        by_cases hroom : len + 1 ≤ c
        ·have hk := ins_shift (ι id) len c i (ι id2) c2 cs vs ty tv w hlt hroom (by omega) hbb g1 hz' k1 hvz hc1 hc2
         refine hk.mono fun e w' hh => ?_
         obtain ⟨rfl, rfl⟩ := hh
         have hsz1 : (writeAt cs ((i + 1) * 4) (cut cs (i * 4) ((len - i) * 4))).size = cs.size := by simp
         obtain ⟨a1, a2⟩ := set_move (lk := lk) (xs' := xs.take i ++ y :: xs.drop i) (cs' := writeAt (writeAt cs ((i + 1) * 4) (cut cs (i * 4) ((len - i) * 4))) (i * 4) (cut vs 0 4)) hw hrow hlk g1 (by simp)
          (fun q r => if q < i then u q r else if q = i then uv 0 r else u (q - 1) r) (by rw [hxl]; omega) hsz
          (fun q r hq hr4 => by
           rw [hxl] at hq
           rw [writeAt_get _ _ _ _ (by rw [hsz1, hcutv]; omega), hcutv]
           by_cases h : q < i
           ·rw [if_neg (by omega), writeAt_get _ _ _ _ (by rw [hcutl]; omega), hcutl, if_neg (by omega)]
            simp only [if_pos h]
            exact g4 q r (by omega) hr4
           ·by_cases h' : q = i
            ·subst h'
             rw [if_pos (by omega), cut_get (by omega)]
             simp only [h, if_false, if_true]
             have := k4 0 r (by simp) hr4
             rw [← this]
             congr 1
             omega
            ·rw [if_neg (by omega), writeAt_get _ _ _ _ (by rw [hcutl]; omega), hcutl, if_pos (by omega), cut_get (by omega)]
             simp only [if_neg h, if_neg h']
             have := g4 (q - 1) r (by omega) hr4
             rw [← this]
             congr 1
             omega)
          hrp w.drew.drawn
         refine ⟨_, X, setι ι n (ι id), rfl, a1, ?_, a2⟩
         have hb := putRow_heap_same (w := w) (cs := writeAt (writeAt cs ((i + 1) * 4) (cut cs (i * 4) ((len - i) * 4))) (i * 4) (cut vs 0 4)) (ty := ty) (Array.getElem?_eq_some_iff.1 g1).1
         have hιn : setι ι n (ι id) n = ι id := by simp [setι]
         have := Rep.ref (w := putRow w.drew (ι id) (writeAt (writeAt cs ((i + 1) * 4) (cut cs (i * 4) ((len - i) * 4))) (i * 4) (cut vs 0 4)) ty) (X := X) (ι := setι ι n (ι id)) (n := n + 1) n 0 (len + 1) 4 c 0 _ ty (0, 0) (by omega) (by omega) (.inr (by omega)) (by rw [hιn]; exact hb) (.inr (by simp; omega))
         rw [hιn] at this
         exact this
        ·have hk := ins_grow (ι id) len c i (ι id2) c2 cs vs ty tv w hlt hcl (by omega) (by omega) hbb g1 hz' k1 hvz hc1 hc2
         refine hk.mono fun e w' hh => ?_
         obtain ⟨G, ROW, d, hG, hRs, hR, rfl, rfl⟩ := hh
         rw [putRow_alloc]
         have hsz1 : (writeAt ROW (i * 4) (cut vs 0 4)).size = ROW.size := by simp
         obtain ⟨a1, a2⟩ := new_drop (lk := lk) (id := id) (xs' := xs.take i ++ y :: xs.drop i) (cs' := writeAt (writeAt ROW (i * 4) (cut vs 0 4)) ((i + 1) * 4) (cut cs (i * 4) ((len - i) * 4))) (ty := 35) hw hln hlk
          (fun q r => if q < i then u q r else if q = i then uv 0 r else u (q - 1) r) (by rw [hxl]; simp; omega) hsz
          (fun q r hq hr4 => by
           rw [hxl] at hq
           rw [writeAt_get _ _ _ _ (by rw [hsz1, hcutl]; omega), hcutl]
           by_cases h : q < i
           ·rw [if_neg (by omega), writeAt_get _ _ _ _ (by rw [hcutv]; omega), hcutv, if_neg (by omega), hR _ (by omega)]
            simp only [if_pos h]
            exact g4 q r (by omega) hr4
           ·by_cases h' : q = i
            ·subst h'
             rw [if_neg (by omega), writeAt_get _ _ _ _ (by rw [hcutv]; omega), hcutv, if_pos (by omega), cut_get (by omega)]
             simp only [h, if_false, if_true]
             have := k4 0 r (by simp) hr4
             rw [← this]
             congr 1
             omega
            ·rw [if_pos (by omega), cut_get (by omega)]
             simp only [if_neg h, if_neg h']
             have := g4 (q - 1) r (by omega) hr4
             rw [← this]
             congr 1
             omega)
          hrp d
         refine ⟨_, _, setι ι n w.heap.size, rfl, a1, ?_, a2⟩
         have hιn : setι ι n w.heap.size n = w.heap.size := by simp [setι]
         have := Rep.ref (w := { w.alloc (.cells (writeAt (writeAt ROW (i * 4) (cut vs 0 4)) ((i + 1) * 4) (cut cs (i * 4) ((len - i) * 4))) 35) with drawn := d }) (X := addX X w.heap.size) (ι := setι ι n w.heap.size) (n := n + 1) n 0 (len + 1) 4 G 0
          (writeAt (writeAt ROW (i * 4) (cut vs 0 4)) ((i + 1) * 4) (cut cs (i * 4) ((len - i) * 4))) 35 (0, 0) (by omega) (by omega) (.inr (by omega)) (by rw [hιn]; show (w.heap.push _)[w.heap.size]? = _; simp) (.inr (by simp; omega))
         rw [hιn] at this
         exact this
      ·cases hp
     ·cases hp
    ·cases hp
   ·cases hp
  ·cases hp
 ·cases hp
end Go.Q.S16
end

section
/- The table is the program's. -/
namespace Go.Q.SV
open Go.Proofs
def Has (f : Nat) (fn : Fn) : Prop := ∃ F, Try.prog.funcs[f]? = some F ∧ cFunc Try.prog (Go.Q.ownB T) F = some fn ∧ (F.name == "runtime.NumGoroutine") = false
theorem h4 : Has 4 g4 := ⟨Try.f4, Try.func4, by kernel_rfl, by kernel_rfl⟩
theorem h8 : Has 8 g8 := ⟨Try.f8, Try.func8, by kernel_rfl, by kernel_rfl⟩
theorem h9 : Has 9 g9 := ⟨Try.f9, Try.func9, by kernel_rfl, by kernel_rfl⟩
theorem h13 : Has 13 g13 := ⟨Try.f13, Try.func13, by kernel_rfl, by kernel_rfl⟩
theorem h14 : Has 14 g14 := ⟨Try.f14, Try.func14, by kernel_rfl, by kernel_rfl⟩
theorem h15 : Has 15 g15 := ⟨Try.f15, Try.func15, by kernel_rfl, by kernel_rfl⟩
theorem h16 : Has 16 g16 := ⟨Try.f16, Try.func16, by kernel_rfl, by kernel_rfl⟩
theorem h17 : Has 17 g17 := ⟨Try.f17, Try.func17, by kernel_rfl, by kernel_rfl⟩
theorem h18 : Has 18 g18 := ⟨Try.f18, Try.func18, by kernel_rfl, by kernel_rfl⟩
theorem h19 : Has 19 g19 := ⟨Try.f19, Try.func19, by kernel_rfl, by kernel_rfl⟩
theorem h20 : Has 20 g20 := ⟨Try.f20, Try.func20, by kernel_rfl, by kernel_rfl⟩
theorem h21 : Has 21 g21 := ⟨Try.f21, Try.func21, by kernel_rfl, by kernel_rfl⟩
theorem h25 : Has 25 g25 := ⟨Try.f25, Try.func25, by kernel_rfl, by kernel_rfl⟩
theorem h27 : Has 27 g27 := ⟨Try.f27, Try.func27, by kernel_rfl, by kernel_rfl⟩
theorem h31 : Has 31 g31 := ⟨Try.f31, Try.func31, by kernel_rfl, by kernel_rfl⟩
theorem h32 : Has 32 g32 := ⟨Try.f32, Try.func32, by kernel_rfl, by kernel_rfl⟩
theorem h33 : Has 33 g33 := ⟨Try.f33, Try.func33, by kernel_rfl, by kernel_rfl⟩
theorem h36 : Has 36 g36 := ⟨Try.f36, Try.func36, by kernel_rfl, by kernel_rfl⟩
theorem h37 : Has 37 g37 := ⟨Try.f37, Try.func37, by kernel_rfl, by kernel_rfl⟩
theorem h38 : Has 38 g38 := ⟨Try.f38, Try.func38, by kernel_rfl, by kernel_rfl⟩
theorem h39 : Has 39 g39 := ⟨Try.f39, Try.func39, by kernel_rfl, by kernel_rfl⟩
theorem h40 : Has 40 g40 := ⟨Try.f40, Try.func40, by kernel_rfl, by kernel_rfl⟩
theorem h41 : Has 41 g41 := ⟨Try.f41, Try.func41, by kernel_rfl, by kernel_rfl⟩
theorem h42 : Has 42 g42 := ⟨Try.f42, Try.func42, by kernel_rfl, by kernel_rfl⟩
theorem h43 : Has 43 g43 := ⟨Try.f43, Try.func43, by kernel_rfl, by kernel_rfl⟩
theorem h44 : Has 44 g44 := ⟨Try.f44, Try.func44, by kernel_rfl, by kernel_rfl⟩
theorem h45 : Has 45 g45 := ⟨Try.f45, Try.func45, by kernel_rfl, by kernel_rfl⟩
theorem h46 : Has 46 g46 := ⟨Try.f46, Try.func46, by kernel_rfl, by kernel_rfl⟩
theorem h47 : Has 47 g47 := ⟨Try.f47, Try.func47, by kernel_rfl, by kernel_rfl⟩
theorem h49 : Has 49 g49 := ⟨Try.f49, Try.func49, by kernel_rfl, by kernel_rfl⟩
theorem h52 : Has 52 g52 := ⟨Try.f52, Try.func52, by kernel_rfl, by kernel_rfl⟩
theorem h53 : Has 53 g53 := ⟨Try.f53, Try.func53, by kernel_rfl, by kernel_rfl⟩
theorem h54 : Has 54 g54 := ⟨Try.f54, Try.func54, by kernel_rfl, by kernel_rfl⟩
theorem h55 : Has 55 g55 := ⟨Try.f55, Try.func55, by kernel_rfl, by kernel_rfl⟩
theorem h59 : Has 59 g59 := ⟨Try.f59, Try.func59, by kernel_rfl, by kernel_rfl⟩
theorem h60 : Has 60 g60 := ⟨Try.f60, Try.func60, by kernel_rfl, by kernel_rfl⟩
theorem h61 : Has 61 g61 := ⟨Try.f61, Try.func61, by kernel_rfl, by kernel_rfl⟩
theorem h62 : Has 62 g62 := ⟨Try.f62, Try.func62, by kernel_rfl, by kernel_rfl⟩
theorem h63 : Has 63 g63 := ⟨Try.f63, Try.func63, by kernel_rfl, by kernel_rfl⟩
theorem h64 : Has 64 g64 := ⟨Try.f64, Try.func64, by kernel_rfl, by kernel_rfl⟩
theorem h65 : Has 65 g65 := ⟨Try.f65, Try.func65, by kernel_rfl, by kernel_rfl⟩
theorem h66 : Has 66 g66 := ⟨Try.f66, Try.func66, by kernel_rfl, by kernel_rfl⟩
theorem h68 : Has 68 g68 := ⟨Try.f68, Try.func68, by kernel_rfl, by kernel_rfl⟩
theorem h70 : Has 70 g70 := ⟨Try.f70, Try.func70, by kernel_rfl, by kernel_rfl⟩
theorem h71 : Has 71 g71 := ⟨Try.f71, Try.func71, by kernel_rfl, by kernel_rfl⟩
theorem h72 : Has 72 g72 := ⟨Try.f72, Try.func72, by kernel_rfl, by kernel_rfl⟩
theorem h73 : Has 73 g73 := ⟨Try.f73, Try.func73, by kernel_rfl, by kernel_rfl⟩
theorem h74 : Has 74 g74 := ⟨Try.f74, Try.func74, by kernel_rfl, by kernel_rfl⟩
theorem h75 : Has 75 g75 := ⟨Try.f75, Try.func75, by kernel_rfl, by kernel_rfl⟩
theorem h76 : Has 76 g76 := ⟨Try.f76, Try.func76, by kernel_rfl, by kernel_rfl⟩
theorem h77 : Has 77 g77 := ⟨Try.f77, Try.func77, by kernel_rfl, by kernel_rfl⟩
theorem h78 : Has 78 g78 := ⟨Try.f78, Try.func78, by kernel_rfl, by kernel_rfl⟩
theorem h79 : Has 79 g79 := ⟨Try.f79, Try.func79, by kernel_rfl, by kernel_rfl⟩
theorem h80 : Has 80 g80 := ⟨Try.f80, Try.func80, by kernel_rfl, by kernel_rfl⟩
theorem h81 : Has 81 g81 := ⟨Try.f81, Try.func81, by kernel_rfl, by kernel_rfl⟩
theorem h84 : Has 84 g84 := ⟨Try.f84, Try.func84, by kernel_rfl, by kernel_rfl⟩
theorem h85 : Has 85 g85 := ⟨Try.f85, Try.func85, by kernel_rfl, by kernel_rfl⟩
theorem h86 : Has 86 g86 := ⟨Try.f86, Try.func86, by kernel_rfl, by kernel_rfl⟩
theorem h87 : Has 87 g87 := ⟨Try.f87, Try.func87, by kernel_rfl, by kernel_rfl⟩
theorem h88 : Has 88 g88 := ⟨Try.f88, Try.func88, by kernel_rfl, by kernel_rfl⟩
theorem h90 : Has 90 g90 := ⟨Try.f90, Try.func90, by kernel_rfl, by kernel_rfl⟩
theorem tabOf1 : ∀ f fn, T.fn f = some fn → ∃ F, Try.prog.funcs[f]? = some F ∧ cFunc Try.prog (Go.Q.ownB T) F = some fn ∧ (F.name == "runtime.NumGoroutine") = false := by
 intro f fn h
 simp only [T] at h
 unfold fnOf at h
 split at h
 all_goals first | (cases h; done) | skip
 all_goals (simp only [Option.some.injEq] at h; subst h)
 ·exact h4
 ·exact h8
 ·exact h9
 ·exact h13
 ·exact h14
 ·exact h15
 ·exact h16
 ·exact h17
 ·exact h18
 ·exact h19
 ·exact h20
 ·exact h21
 ·exact h25
 ·exact h27
 ·exact h31
 ·exact h32
 ·exact h33
 ·exact h36
 ·exact h37
 ·exact h38
 ·exact h39
 ·exact h40
 ·exact h41
 ·exact h42
 ·exact h43
 ·exact h44
 ·exact h45
 ·exact h46
 ·exact h47
 ·exact h49
 ·exact h52
 ·exact h53
 ·exact h54
 ·exact h55
 ·exact h59
 ·exact h60
 ·exact h61
 ·exact h62
 ·exact h63
 ·exact h64
 ·exact h65
 ·exact h66
 ·exact h68
 ·exact h70
 ·exact h71
 ·exact h72
 ·exact h73
 ·exact h74
 ·exact h75
 ·exact h76
 ·exact h77
 ·exact h78
 ·exact h79
 ·exact h80
 ·exact h81
 ·exact h84
 ·exact h85
 ·exact h86
 ·exact h87
 ·exact h88
 ·exact h90
theorem tabOf2 : ∀ f p, T.prim f = some p → Ent Try.prog f ∧ PrimOk Try.prog f p ∧ PrimSays p := by
 intro f p h
 simp only [T] at h
 unfold primOf at h
 split at h
 all_goals first | (cases h; done) | skip
 all_goals (simp only [Option.some.injEq] at h; subst h)
 ·exact ⟨⟨Try.f69, Try.func69, by kernel_rfl, by kernel_rfl⟩, S16.ins_ok, ins_says _ _⟩
 ·exact ⟨⟨Try.f56, Try.func56, by kernel_rfl, by kernel_rfl⟩, S16.del_ok, del_says _ _⟩
theorem tabOf : TabOf Try.prog T := ⟨tabOf1, tabOf2⟩
theorem mixed : Try.prog.follows .mixedOrders = true := by kernel_rfl
end Go.Q.SV
end
