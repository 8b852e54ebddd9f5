/- Hits are pushed and popped. -/
import Derived.Test.YtdpinpbjfdobnaaSB
section
set_option linter.unusedSimpArgs false
set_option linter.unusedVariables false
namespace Go.Q.S11
open Go.Q Go.Sort

def pre (d : Array Hit) (len : Nat) (h : Hit) : Array Hit := (d.toList.take len ++ [h]).toArray
theorem rw_pre (d : Array Hit) (len : Nat) (h : Hit) : rw' (pre d len h) = (rw' d).take len ++ [.agg [.int .u64 h.id, .int .u64 h.d]] := by
  simp [rw', pre, List.map_append, List.map_take, hitV]

theorem raw132 (d : Array Hit) (a b : Int) (wid id len n : Nat) (σ : Sto) (hl : len ≤ d.size) (hd : d.size < 1000000) (hw : σ wid = some (.row 1 [.agg [.ref id 0 len 2]])) (hwn : wid < n) (hidn : id < n) (hne : wid ≠ id) (hσ : σ id = some (.row 2 (rw' d)))
    {Q : V → Sto → Nat → Prop} (hQ : ∀ σ' n' id', n < n' → n ≤ id' → id' < n' → σ' wid = some (.row 1 [.agg [.ref id' 0 (len + 1) 2]]) → σ' id' = some (.row 2 (rw' (pre d len ⟨a, b⟩))) → (∀ i, i ≠ wid → i ≠ id → i < n → σ' i = σ i) → Q .undef σ' n') :
    run T (.raw 132 [.ptr wid 1 0 0, .iface 47 (.agg [.int .u64 a, .int .u64 b])] σ n 0) (memQ Q) := by
  refine run_rawE (fn := g132) rfl rfl ?_
  simp only [g132, b132]
  have hB := big_le
  have e1 : (wid = n) = False := by simp; omega
  have e2 : (id = n) = False := by simp; omega
  have x1 : ∀ σ : Sto, hide σ (n + 1) (n + 1) [0] wid = σ wid := fun σ => hide_low σ (n + 1) (n + 1) _ (by omega) (Nat.le_refl _)
  have x2 : ∀ σ σ' : Sto, merge σ σ' (n + 1) wid = σ wid := fun σ σ' => merge_low σ σ' (n + 1) (by omega)
  have x3 : ∀ σ σ' : Sto, merge σ σ' (n + 1) id = σ id := fun σ σ' => merge_low σ σ' (n + 1) (by omega)
  have x4 : ∀ σ σ' : Sto, merge σ σ' (n + 1) (n + 1) = σ' (n + 1) := fun σ σ' => merge_in σ σ' (n + 1) (Nat.le_refl _) (by omega)
  have y1 : (n + 1 + 1 ≤ n + 1 + BIG) = True := by simp; omega
  have y2 : (n + (1 + (BIG + 1)) ≤ n + (1 + (BIG + BIG))) = True := by simp; omega
  have y3 : (n + (1 + 1) ≤ n + (1 + BIG)) = True := by simp; omega
  have z1 : (len = (rw' d).length ∨ len < (rw' d).length) = True := by rw [rw_len]; simp; omega
  have z2 : ((len + 1) * 16 ≤ LIM) = True := by unfold LIM; simp; omega
  have z3 : (if len = (rw' d).length then rw' d else (rw' d).take len) = (rw' d).take len := by
    split
    · rename_i h; rw [h, List.take_length]
    · rfl
  have v1 : (wid = n + (1 + BIG)) = False := by simp; omega
  simp +contextual -implicitDefEqProofs (maxSteps := 2000000) only [↓wP, wQ, wQ1, wQ2, wQ3, wR, boxE, partsOf, ↓reduceIte, Nat.reduceEqDiff, Nat.reduceAdd, Nat.reduceSub, Nat.reduceLeDiff, Nat.reduceLT, Nat.reduceMul, reduceCtorEq, Int.reduceBNe, Int.reduceBEq, Int.reduceLT, Int.reduceLE, Int.reduceGT, hw, e1, e2, x1, x2, x3, x4, y1, y2, y3, z1, z2, z3, hσ, Nat.mul_one, v1, hne]
  refine hQ _ _ (n + (1 + BIG)) ?_ ?_ ?_ (by simp [upd]) ?_ ?_
  · omega
  · omega
  · omega
  · rw [rw_pre]
    have v2 : ¬ n + (1 + BIG) = wid := by omega
    simp [v2, upd]
  · intro i h1 h2 h3
    have v2 : ¬ i = n + (1 + BIG) := by omega
    have v3 : ¬ i = n := by omega
    have v4 := merge_low (upd (upd σ n (some (Ob.row 2 [V.agg [V.int IntKind.u64 0, V.int IntKind.u64 0]]))) n (some (Ob.row 2 [V.agg [V.int IntKind.u64 a, V.int IntKind.u64 b]])))
      (upd (upd (upd σ n (some (Ob.row 2 [V.agg [V.int IntKind.u64 0, V.int IntKind.u64 0]]))) n (some (Ob.row 2 [V.agg [V.int IntKind.u64 a, V.int IntKind.u64 b]]))) (n + 1) (some (Ob.row 2 [V.agg [V.int IntKind.u64 a, V.int IntKind.u64 b]]))) (n + 1) (i := i) (by omega)
    simp only [upd, h1, h2, v2, v3, if_false] at v4 ⊢
    exact v4


theorem raw132n (a b : Int) (wid n : Nat) (σ : Sto) (hw : σ wid = some (.row 1 [.agg [.nilS]])) (hwn : wid < n)
    {Q : V → Sto → Nat → Prop} (hQ : ∀ σ' n' id', n < n' → n ≤ id' → id' < n' → σ' wid = some (.row 1 [.agg [.ref id' 0 (0 + 1) 2]]) → σ' id' = some (.row 2 (rw' (pre #[] 0 ⟨a, b⟩))) → (∀ i, i ≠ wid → i < n → σ' i = σ i) → Q .undef σ' n') :
    run T (.raw 132 [.ptr wid 1 0 0, .iface 47 (.agg [.int .u64 a, .int .u64 b])] σ n 0) (memQ Q) := by
  refine run_rawE (fn := g132) rfl rfl ?_
  simp only [g132, b132]
  have hB := big_le
  have e1 : (wid = n) = False := by simp; omega
  have x1 : ∀ σ : Sto, hide σ (n + 1) (n + 1) [0] wid = σ wid := fun σ => hide_low σ (n + 1) (n + 1) _ (by omega) (Nat.le_refl _)
  have x2 : ∀ σ σ' : Sto, merge σ σ' (n + 1) wid = σ wid := fun σ σ' => merge_low σ σ' (n + 1) (by omega)
  have x4 : ∀ σ σ' : Sto, merge σ σ' (n + 1) (n + 1) = σ' (n + 1) := fun σ σ' => merge_in σ σ' (n + 1) (Nat.le_refl _) (by omega)
  have y1 : (n + 1 + 1 ≤ n + 1 + BIG) = True := by simp; omega
  have y2 : (n + (1 + (BIG + 1)) ≤ n + (1 + (BIG + BIG))) = True := by simp; omega
  have y3 : (n + (1 + 1) ≤ n + (1 + BIG)) = True := by simp; omega
  have z2 : (1 * 16 ≤ LIM) = True := by unfold LIM; simp
  have z2' : (16 ≤ LIM) = True := by unfold LIM; simp
  have v1 : (wid = n + (1 + BIG)) = False := by simp; omega
  simp +contextual -implicitDefEqProofs (maxSteps := 2000000) only [↓wP, wQ, wQ1, wQ2, wQ3, wR, boxE, partsOf, ↓reduceIte, Nat.reduceEqDiff, Nat.reduceAdd, Nat.reduceSub, Nat.reduceLeDiff, Nat.reduceLT, Nat.reduceMul, reduceCtorEq, Int.reduceBNe, Int.reduceBEq, Int.reduceLT, Int.reduceLE, Int.reduceGT, hw, e1, x1, x2, x4, y1, y2, y3, z2, z2', Nat.mul_one, v1, appendE_nil, List.isEmpty_cons]
  refine hQ _ _ (n + (1 + BIG)) ?_ ?_ ?_ (by simp [upd]) ?_ ?_
  · omega
  · omega
  · omega
  · rw [rw_pre]
    have v2 : ¬ n + (1 + BIG) = wid := by omega
    simp [v2, upd]
  · intro i h1 h3
    have v2 : ¬ i = n + (1 + BIG) := by omega
    have v3 : ¬ i = n := by omega
    have v4 := merge_low (upd (upd σ n (some (Ob.row 2 [V.agg [V.int IntKind.u64 0, V.int IntKind.u64 0]]))) n (some (Ob.row 2 [V.agg [V.int IntKind.u64 a, V.int IntKind.u64 b]])))
      (upd (upd (upd σ n (some (Ob.row 2 [V.agg [V.int IntKind.u64 0, V.int IntKind.u64 0]]))) n (some (Ob.row 2 [V.agg [V.int IntKind.u64 a, V.int IntKind.u64 b]]))) (n + 1) (some (Ob.row 2 [V.agg [V.int IntKind.u64 a, V.int IntKind.u64 b]]))) (n + 1) (i := i) (by omega)
    simp only [upd, h1, v2, v3, if_false] at v4 ⊢
    exact v4

theorem pre_size {d : Array Hit} {len : Nat} (hl : len ≤ d.size) (h : Hit) : (pre d len h).size = len + 1 := by simp [pre]; omega
theorem pre_get {d : Array Hit} {len i : Nat} (hl : len ≤ d.size) (hi : i < len) (h : Hit) : (pre d len h)[i]! = d[i]! := by
  have h1 : i < (pre d len h).size := by rw [pre_size hl]; omega
  have h2 : i < d.size := by omega
  rw [getElem!_pos (pre d len h) i h1, getElem!_pos d i h2]
  simp only [pre, List.getElem_toArray]
  rw [List.getElem_append_left (by simp; omega), List.getElem_take]
  simp
theorem pre_up {d : Array Hit} {len : Nat} (hl : len ≤ d.size) (h : Hit) (hp : Hp len d) : HpUp (len + 1) len (pre d len h) := by
  refine ⟨fun i h0 hi hne => ?_, fun i h0 hi hp h0' => by omega⟩
  rw [pre_get hl (by omega), pre_get hl (by omega)]
  exact hp i h0 (by omega)
theorem ext0 (d : Array Hit) (len : Nat) : (d.extract 0 len).toList = d.toList.take len := by simp
theorem perm_all {d d' : Array Hit} {n : Nat} (hn : d.size = n) (h : PermIn 0 n d d') : d'.toList.Perm d.toList := by
  have := h.2.2
  rw [ext0, ext0, List.take_of_length_le (by rw [Array.length_toList, h.1]; omega), List.take_of_length_le (by rw [Array.length_toList]; omega)] at this
  exact this

/-- A hit more. -/
theorem raw67 (d : Array Hit) (a b : Int) (wid id len n : Nat) (σ : Sto) (hl : len ≤ d.size) (hd : d.size < 900000) (hw : σ wid = some (.row 1 [.agg [.ref id 0 len 2]])) (hwn : wid < n) (hidn : id < n) (hne : wid ≠ id) (hσ : σ id = some (.row 2 (rw' d)))
    (hhp : Hp len d) {Q : V → Sto → Nat → Prop} (hQ : ∀ σ' n' id' d', n < n' → n ≤ id' → id' < n' → σ' wid = some (.row 1 [.agg [.ref id' 0 (len + 1) 2]]) → σ' id' = some (.row 2 (rw' d')) → d'.size = len + 1 → Hp (len + 1) d' →
      d'.toList.Perm (d.toList.take len ++ [⟨a, b⟩]) → (∀ i, i ≠ wid → i ≠ id → i < n → σ' i = σ i) → Q .undef σ' n') :
    run T (.raw 67 [.iface 104 (.ptr wid 1 0 0), .iface 47 (.agg [.int .u64 a, .int .u64 b])] σ n 0) (memQ Q) := by
  refine run_rawE (fn := g67) rfl rfl ?_
  simp only [g67, b67]
  simp +contextual -implicitDefEqProofs (maxSteps := 2000000) only [↓wP, wQ, wQ1, wQ2, wQ3, wR, boxE, partsOf, ↓reduceIte, Nat.reduceEqDiff, Nat.reduceAdd, Nat.reduceSub, Nat.reduceLeDiff, Nat.reduceLT, Nat.reduceMul, reduceCtorEq, Int.reduceBNe, Int.reduceBEq, Int.reduceLT, Int.reduceLE, Int.reduceGT]
  refine stepW_raw (by decide) (raw132 d a b wid id len n σ hl (by omega) hw hwn hidn hne hσ fun σ1 n1 id1 h1 h2 h3 h4 h5 h6 => ?_)
  have hps := pre_size hl ⟨a, b⟩
  have f65 := fun fs n lk => f32r (d := pre d len ⟨a, b⟩) (len := len + 1) (id := id1) (σ := σ1) (by omega) h5 fs n lk
  have w1 : IntKind.i64.wrap (((len + 1 : Nat) : Int) - 1) = (len : Int) := by rw [wrap_i64] <;> omega
  simp +contextual -implicitDefEqProofs (maxSteps := 2000000) only [↓wP, wQ, wQ1, wQ2, wQ3, wR, boxE, partsOf, ↓reduceIte, Nat.reduceEqDiff, Nat.reduceAdd, Nat.reduceSub, Nat.reduceLeDiff, Nat.reduceLT, Nat.reduceMul, reduceCtorEq, Int.reduceBNe, Int.reduceBEq, Int.reduceLT, Int.reduceLE, Int.reduceGT, h4, f65, w1]
  refine stepW_raw (by decide) (raw84 (pre d len ⟨a, b⟩) len wid id1 (len + 1) n1 σ1 (by omega) (by omega) (by omega) h4 h5 (by omega) (pre_up hl _ hhp) fun σ2 d2 hat hpm hp2 => ?_)
  simp +contextual -implicitDefEqProofs (maxSteps := 2000000) only [↓wP, wQ, wQ1, wQ2, wQ3, wR, boxE, partsOf, ↓reduceIte, Nat.reduceEqDiff, Nat.reduceAdd, Nat.reduceSub, Nat.reduceLeDiff, Nat.reduceLT, Nat.reduceMul, reduceCtorEq, Int.reduceBNe, Int.reduceBEq, Int.reduceLT, Int.reduceLE, Int.reduceGT]
  refine hQ _ _ id1 d2 (by omega) h2 (by omega) (by rw [hat.2 wid (by omega), h4]) hat.1 (by rw [hpm.1, hps]) hp2 ?_ (fun i hi hi' hin => by rw [hat.2 i (by omega), h6 i hi hi' hin])
  have := perm_all hps hpm
  simpa [pre] using this
theorem raw67n (a b : Int) (wid n : Nat) (σ : Sto) (hw : σ wid = some (.row 1 [.agg [.nilS]])) (hwn : wid < n)
    {Q : V → Sto → Nat → Prop} (hQ : ∀ σ' n' id' d', n < n' → n ≤ id' → id' < n' → σ' wid = some (.row 1 [.agg [.ref id' 0 1 2]]) → σ' id' = some (.row 2 (rw' d')) → d'.size = 1 → Hp 1 d' →
      d'.toList.Perm [⟨a, b⟩] → (∀ i, i ≠ wid → i < n → σ' i = σ i) → Q .undef σ' n') :
    run T (.raw 67 [.iface 104 (.ptr wid 1 0 0), .iface 47 (.agg [.int .u64 a, .int .u64 b])] σ n 0) (memQ Q) := by
  refine run_rawE (fn := g67) rfl rfl ?_
  simp only [g67, b67]
  simp +contextual -implicitDefEqProofs (maxSteps := 2000000) only [↓wP, wQ, wQ1, wQ2, wQ3, wR, boxE, partsOf, ↓reduceIte, Nat.reduceEqDiff, Nat.reduceAdd, Nat.reduceSub, Nat.reduceLeDiff, Nat.reduceLT, Nat.reduceMul, reduceCtorEq, Int.reduceBNe, Int.reduceBEq, Int.reduceLT, Int.reduceLE, Int.reduceGT]
  refine stepW_raw (by decide) (raw132n a b wid n σ hw hwn fun σ1 n1 id1 h1 h2 h3 h4 h5 h6 => ?_)
  simp only [Nat.zero_add] at h4
  have hps := pre_size (d := #[]) (len := 0) (by simp) ⟨a, b⟩
  have f65 := fun fs n lk => f32r (d := pre #[] 0 ⟨a, b⟩) (len := 1) (id := id1) (σ := σ1) (by omega) h5 fs n lk
  simp only [Int.natCast_one] at f65
  have w1 : IntKind.i64.wrap ((1 : Int) - 1) = ((0 : Nat) : Int) := by decide
  simp +contextual -implicitDefEqProofs (maxSteps := 2000000) only [↓wP, wQ, wQ1, wQ2, wQ3, wR, boxE, partsOf, ↓reduceIte, Nat.reduceEqDiff, Nat.reduceAdd, Nat.reduceSub, Nat.reduceLeDiff, Nat.reduceLT, Nat.reduceMul, reduceCtorEq, Int.reduceBNe, Int.reduceBEq, Int.reduceLT, Int.reduceLE, Int.reduceGT, h4, f65, w1]
  refine stepW_raw (by decide) (raw84 (pre #[] 0 ⟨a, b⟩) 0 wid id1 1 n1 σ1 (by omega) (by omega) (by omega) h4 h5 (by omega) (pre_up (by simp) _ (fun i h0 hi => by omega)) fun σ2 d2 hat hpm hp2 => ?_)
  simp +contextual -implicitDefEqProofs (maxSteps := 2000000) only [↓wP, wQ, wQ1, wQ2, wQ3, wR, boxE, partsOf, ↓reduceIte, Nat.reduceEqDiff, Nat.reduceAdd, Nat.reduceSub, Nat.reduceLeDiff, Nat.reduceLT, Nat.reduceMul, reduceCtorEq, Int.reduceBNe, Int.reduceBEq, Int.reduceLT, Int.reduceLE, Int.reduceGT]
  refine hQ _ _ id1 d2 (by omega) h2 (by omega) (by rw [hat.2 wid (by omega), h4]) hat.1 (by rw [hpm.1, hps]) hp2 ?_ (fun i hi hin => by rw [hat.2 i (by omega), h6 i hi hin])
  have := perm_all hps hpm
  simpa [pre] using this

theorem raw131 (d : Array Hit) (wid id len n : Nat) (σ : Sto) (h0 : 0 < len) (hl : len ≤ d.size) (hd : d.size < 1000000) (hw : σ wid = some (.row 1 [.agg [.ref id 0 len 2]])) (hwn : wid < n) (hidn : id < n) (hne : wid ≠ id) (hσ : σ id = some (.row 2 (rw' d)))
    {Q : V → Sto → Nat → Prop} (hQ : ∀ v σ' n', n ≤ n' → σ' wid = some (.row 1 [.agg [.ref id 0 (len - 1) 2]]) → (∀ i, i ≠ wid → i < n → σ' i = σ i) → Q v σ' n') :
    run T (.raw 131 [.ptr wid 1 0 0] σ n 0) (memQ Q) := by
  refine run_rawE (fn := g131) rfl rfl ?_
  simp only [g131, b131]
  have e1 : (wid = n) = False := by simp; omega
  have e2 : (id = n) = False := by simp; omega
  have e4 : (n = wid) = False := by simp; omega
  have w1 : IntKind.i64.wrap ((len : Int) - 1) = ((len - 1 : Nat) : Int) := by rw [wrap_i64] <;> omega
  have x1 := rw_at (d := d) (i := len - 1) (by omega)
  have l1 : len - 1 < len := by omega
  have l2 : len - 1 ≤ len := by omega
  simp +contextual -implicitDefEqProofs (maxSteps := 2000000) only [↓wP, wQ, wQ1, wQ2, wQ3, wR, boxE, partsOf, ↓reduceIte, Nat.reduceEqDiff, Nat.reduceAdd, Nat.reduceSub, Nat.reduceLeDiff, Nat.reduceLT, Nat.reduceMul, reduceCtorEq, Int.reduceBNe, Int.reduceBEq, Int.reduceLT, Int.reduceLE, Int.reduceGT, hw, hσ, e1, e2, e4, Nat.sub_zero, w1, x1, l1, l2]
  refine hQ _ _ _ ?_ ?_ (fun i hi hin => ?_)
  · omega
  · simp [upd]
  have e3 : i ≠ n := by omega
  simp [upd, hi, e3]

/-- The greatest one goes. -/
theorem raw68 (d : Array Hit) (wid id len n : Nat) (σ : Sto) (h0 : 0 < len) (hl : len ≤ d.size) (hd : d.size < 900000) (hw : σ wid = some (.row 1 [.agg [.ref id 0 len 2]])) (hwn : wid < n) (hidn : id < n) (hne : wid ≠ id) (hσ : σ id = some (.row 2 (rw' d)))
    (hhp : Hp len d) {Q : V → Sto → Nat → Prop} (hQ : ∀ v σ' n' d', n ≤ n' → σ' wid = some (.row 1 [.agg [.ref id 0 (len - 1) 2]]) → σ' id = some (.row 2 (rw' d')) → d'.size = d.size → Hp (len - 1) d' →
      (d.toList.take len).Perm (d'.toList.take (len - 1) ++ [d[0]!]) → (∀ i, i ≠ wid → i ≠ id → i < n → σ' i = σ i) → Q v σ' n') :
    run T (.raw 68 [.iface 104 (.ptr wid 1 0 0)] σ n 0) (memQ Q) := by
  refine run_rawE (fn := g68) rfl rfl ?_
  simp only [g68, b68]
  have f65 := fun fs n lk => f32r (d := d) (len := len) (id := id) (σ := σ) hl hσ fs n lk
  have w1 : IntKind.i64.wrap ((len : Int) - 1) = ((len - 1 : Nat) : Int) := by rw [wrap_i64] <;> omega
  simp +contextual -implicitDefEqProofs (maxSteps := 2000000) only [↓wP, wQ, wQ1, wQ2, wQ3, wR, boxE, partsOf, ↓reduceIte, Nat.reduceEqDiff, Nat.reduceAdd, Nat.reduceSub, Nat.reduceLeDiff, Nat.reduceLT, Nat.reduceMul, reduceCtorEq, Int.reduceBNe, Int.reduceBEq, Int.reduceLT, Int.reduceLE, Int.reduceGT, hw, f65, w1]
  refine stepW_raw (by decide) (raw133 d 0 (len - 1) id n len σ (by omega) (by omega) hl hσ fun σ1 hat => ?_)
  have hw1 : σ1 wid = some (.row 1 [.agg [.ref id 0 len 2]]) := by rw [hat.2 wid hne, hw]
  have hs1 : (swp d 0 (len - 1)).size = d.size := swp_size _ _ _
  have hdn : HpDn (len - 1) 0 (swp d 0 (len - 1)) := by
    refine ⟨fun c c0 hc hp => ?_, fun c _ _ _ h => by omega⟩
    rw [swp_other _ _ _ _ (by omega) (by omega), swp_other _ _ _ _ (by omega) (by omega)]
    exact hhp c c0 (by omega)
  simp +contextual -implicitDefEqProofs (maxSteps := 2000000) only [↓wP, wQ, wQ1, wQ2, wQ3, wR, boxE, partsOf, ↓reduceIte, Nat.reduceEqDiff, Nat.reduceAdd, Nat.reduceSub, Nat.reduceLeDiff, Nat.reduceLT, Nat.reduceMul, reduceCtorEq, Int.reduceBNe, Int.reduceBEq, Int.reduceLT, Int.reduceLE, Int.reduceGT]
  refine stepW_raw (by decide) (raw85 (swp d 0 (len - 1)) (len - 1) wid id len n σ1 (by omega) (by omega) (by omega) hw1 hat.1 hne hdn fun r σ2 d2 hat2 hpm hp2 => ?_)
  have hw2 : σ2 wid = some (.row 1 [.agg [.ref id 0 len 2]]) := by rw [hat2.2 wid hne, hw1]
  simp +contextual -implicitDefEqProofs (maxSteps := 2000000) only [↓wP, wQ, wQ1, wQ2, wQ3, wR, boxE, partsOf, ↓reduceIte, Nat.reduceEqDiff, Nat.reduceAdd, Nat.reduceSub, Nat.reduceLeDiff, Nat.reduceLT, Nat.reduceMul, reduceCtorEq, Int.reduceBNe, Int.reduceBEq, Int.reduceLT, Int.reduceLE, Int.reduceGT]
  refine stepW_raw (by decide) (raw131 d2 wid id len n σ2 h0 (by rw [hpm.1]; omega) (by rw [hpm.1]; omega) hw2 hwn hidn hne hat2.1 fun v σ3 n3 k1 k2 k3 => ?_)
  simp +contextual -implicitDefEqProofs (maxSteps := 2000000) only [↓wP, wQ, wQ1, wQ2, wQ3, wR, boxE, partsOf, ↓reduceIte, Nat.reduceEqDiff, Nat.reduceAdd, Nat.reduceSub, Nat.reduceLeDiff, Nat.reduceLT, Nat.reduceMul, reduceCtorEq, Int.reduceBNe, Int.reduceBEq, Int.reduceLT, Int.reduceLE, Int.reduceGT]
  refine hQ _ _ _ d2 k1 k2 (by rw [k3 id (by omega) hidn]; exact hat2.1) (by rw [hpm.1, hs1]) hp2 ?_ (fun i hi hi' hin => by rw [k3 i hi hin, hat2.2 i hi', hat.2 i hi'])
  have p1 := (swp_permIn d 0 len 0 (len - 1) (by omega) (by omega) (by omega) (by omega) hl).2.2
  have p2 := hpm.2.2
  rw [ext0, ext0] at p1 p2
  refine p1.symm.trans ?_
  have e : (swp d 0 (len - 1)).toList.take len = (swp d 0 (len - 1)).toList.take (len - 1) ++ [d[0]!] := by
    have hx : (swp d 0 (len - 1))[len - 1]! = d[0]! := swp_right _ _ _ (by omega)
    have hlt : len - 1 < (swp d 0 (len - 1)).toList.length := by rw [Array.length_toList]; omega
    generalize hg : swp d 0 (len - 1) = g at *
    obtain ⟨m, rfl⟩ : ∃ m, len = m + 1 := ⟨len - 1, by omega⟩
    simp only [Nat.add_sub_cancel] at *
    rw [List.take_add_one, List.getElem?_eq_getElem hlt]
    simp only [Option.toList_some]
    rw [getElem!_pos g m (by rw [Array.length_toList] at hlt; exact hlt)] at hx
    rw [← hx]
    simp
  rw [e]
  exact p2.symm.append_right _

end Go.Q.S11
end

section
/- The first hits of rows. -/
set_option linter.unusedSimpArgs false
set_option linter.unusedVariables false
namespace Go.Q.S11
open Go.Q Go.Sort

theorem f65s (L : List V) (fs : Bool) (σ : Sto) (n lk : Nat) : callE T fs 65 [.sl 2 L] σ n lk = some (.int .i64 (L.length : Int), σ, n) := by
  have h := r65 (some L)
  simp only [slV, List.map_id, lst_some] at h
  exact callE_tr (by decide) h rfl rfl fs σ n lk

theorem r64n (a b : Int) (k : Nat) (hk : 0 < k) : res T 64 [.agg [.int .u64 a, .int .u64 b], .box [.box [.nilS]], .box [.int .i64 (k : Int)]] = some (.bool true) := by
  refine run_res (run_pure (fn := g64) rfl rfl (by decide) ?_)
  simp only [g64, b64]
  have h : (0 : Int) < (k : Int) := by omega
  simp +contextual -implicitDefEqProofs (maxSteps := 2000000) only [↓wP, wQ, wQ1, wQ2, wQ3, wR, boxE, partsOf, ↓reduceIte, Nat.reduceEqDiff, Nat.reduceAdd, Nat.reduceSub, Nat.reduceLeDiff, Nat.reduceLT, Nat.reduceMul, reduceCtorEq, Int.reduceBNe, Int.reduceBEq, Int.reduceLT, Int.reduceLE, Int.reduceGT, f65n, h]
theorem r64 (a b : Int) (L : List V) (k : Nat) (m : Hit) (hr : ¬ L.length < k → L[0]? = some (.agg [.int .u64 m.id, .int .u64 m.d])) :
    res T 64 [.agg [.int .u64 a, .int .u64 b], .box [.box [.sl 2 L]], .box [.int .i64 (k : Int)]] = some (.bool (decide (L.length < k) || ahead ⟨a, b⟩ m)) := by
  refine run_res (run_pure (fn := g64) rfl rfl (by decide) ?_)
  simp only [g64, b64]
  by_cases h : L.length < k
  · have h' : (L.length : Int) < (k : Int) := by omega
    simp +contextual -implicitDefEqProofs (maxSteps := 2000000) only [↓wP, wQ, wQ1, wQ2, wQ3, wR, boxE, partsOf, ↓reduceIte, Nat.reduceEqDiff, Nat.reduceAdd, Nat.reduceSub, Nat.reduceLeDiff, Nat.reduceLT, Nat.reduceMul, reduceCtorEq, Int.reduceBNe, Int.reduceBEq, Int.reduceLT, Int.reduceLE, Int.reduceGT, f65s, h, h']
  · have h' : ¬ (L.length : Int) < (k : Int) := by omega
    have hr := hr h
    simp +contextual -implicitDefEqProofs (maxSteps := 2000000) only [↓wP, wQ, wQ1, wQ2, wQ3, wR, boxE, partsOf, ↓reduceIte, Nat.reduceEqDiff, Nat.reduceAdd, Nat.reduceSub, Nat.reduceLeDiff, Nat.reduceLT, Nat.reduceMul, reduceCtorEq, Int.reduceBNe, Int.reduceBEq, Int.reduceLT, Int.reduceLE, Int.reduceGT, f65s, h, h', hr, f24]
    rw [← cmp_lt]

theorem f64n {wv kid wid : Nat} {σ : Sto} (a b : Int) (k : Nat) (hk : 0 < k) (h1 : σ wv = some (.row 1 [.ptr wid 1 0 0])) (h2 : σ kid = some (.row 1 [.int .i64 (k : Int)])) (h3 : σ wid = some (.row 1 [.agg [.nilS]])) (fs : Bool) (n lk : Nat) :
    callE T fs 64 [.agg [.int .u64 a, .int .u64 b], .ptr wv 1 0 0, .ptr kid 1 0 0] σ n lk = some (.bool true, σ, n) := by
  rw [callE_eq (by decide)]
  have hp : frz σ 12 (.ptr wv 1 0 0) = some (.box [.box [.nilS]]) := by
    simp [frz, rowAt, h1, h3, V.cells]
  have hq : frz σ 12 (.ptr kid 1 0 0) = some (.box [.int .i64 (k : Int)]) := by
    simp [frz, rowAt, h2, V.cells]
  have e : [V.agg [.int .u64 a, .int .u64 b], .ptr wv 1 0 0, .ptr kid 1 0 0].mapM (frz σ 12) = some [V.agg [.int .u64 a, .int .u64 b], .box [.box [.nilS]], .box [.int .i64 (k : Int)]] := by
    simp only [List.mapM_cons, List.mapM_nil, hp, hq]
    rfl
  rw [e, callR_some, r64n a b k hk, retE_some, backE_flat rfl]
  rfl
theorem f64 {wv kid wid id len : Nat} {d : Array Hit} {σ : Sto} (a b : Int) (k : Nat) (h1 : σ wv = some (.row 1 [.ptr wid 1 0 0])) (h2 : σ kid = some (.row 1 [.int .i64 (k : Int)])) (h3 : σ wid = some (.row 1 [.agg [.ref id 0 len 2]]))
    (h4 : σ id = some (.row 2 (rw' d))) (hl : len ≤ d.size) (h0 : 0 < len) (fs : Bool) (n lk : Nat) :
    callE T fs 64 [.agg [.int .u64 a, .int .u64 b], .ptr wv 1 0 0, .ptr kid 1 0 0] σ n lk = some (.bool (decide (len < k) || ahead ⟨a, b⟩ d[0]!), σ, n) := by
  rw [callE_eq (by decide)]
  have hp : frz σ 12 (.ptr wv 1 0 0) = some (.box [.box [.sl 2 ((rw' d).take len)]]) := by
    have := frz_pre hl h4 7
    simp [frz, rowAt, h1, h3, V.cells] at this ⊢
    rw [this]
    rfl
  have hq : frz σ 12 (.ptr kid 1 0 0) = some (.box [.int .i64 (k : Int)]) := by
    simp [frz, rowAt, h2, V.cells]
  have e : [V.agg [.int .u64 a, .int .u64 b], .ptr wv 1 0 0, .ptr kid 1 0 0].mapM (frz σ 12) = some [V.agg [.int .u64 a, .int .u64 b], .box [.box [.sl 2 ((rw' d).take len)]], .box [.int .i64 (k : Int)]] := by
    simp only [List.mapM_cons, List.mapM_nil, hp, hq]
    rfl
  have hlen : ((rw' d).take len).length = len := by rw [List.length_take, rw_len]; omega
  have hx := r64 a b ((rw' d).take len) k d[0]! (fun _ => by rw [List.getElem?_take_of_lt h0, rw_at (by omega)])
  rw [hlen] at hx
  rw [e, callR_some, hx, retE_some, backE_flat rfl]
  rfl

/-- All that stands in rows is gone through. -/
theorem all83 (o : Option (List (Option (List Hit)))) (l : Nat) (J : List Hit → Sto → Nat → Prop) (hlo : (lst o).length < 9223372036854775808) (hli : ∀ r ∈ lst o, (lst r).length < 9223372036854775808)
    (hal : ∀ pre σ n σ', J pre σ n → (∀ i, i < n → σ' i = σ i) → J pre σ' (n + 1))
    (hy : ∀ pre σ n a b, J pre σ n → yieldW (run T) l [.agg [.int .u64 a, .int .u64 b]] σ n 0 (fun y σ' n' => y = .bool true ∧ J (pre ++ [⟨a, b⟩]) σ' n'))
    (σ : Sto) (n : Nat) (h0 : J [] σ n) : run T (.raw 83 [.yld l, .box [slV 1 (slV 2 hitV) o]] σ n 0) (memQ fun _ σ' n' => J ((lst o).flatMap lst) σ' n') := by
  refine run_rawE (fn := g83) rfl rfl ?_
  simp only [g83, b83]
  simp +contextual -implicitDefEqProofs (maxSteps := 2000000) only [↓wP, wQ, wQ1, wQ2, wQ3, wR, boxE, partsOf, ↓reduceIte, Nat.reduceEqDiff, Nat.reduceAdd, Nat.reduceSub, Nat.reduceLeDiff, Nat.reduceLT, Nat.reduceMul, reduceCtorEq, Int.reduceBNe, Int.reduceBEq, Int.reduceLT, Int.reduceLE, Int.reduceGT]
  refine WC_for (lst o).length 0 (fun (j : Nat) env σ n => env 0 = .yld l ∧ env 7 = slV 1 (slV 2 hitV) o ∧ J (((lst o).take j).flatMap lst) σ n) hlo (by decide) (by decide) (fun _ _ => rfl) (fun _ _ _ => rfl) ?_ ?_ _ _ _ rfl rfl ?_
  · intro j env σ n hj h1 h2 ⟨h3, h4, h5⟩
    simp only [vl_tmp] at h2
    have hx : (lst o)[j]? = some (lst o)[j] := List.getElem?_eq_getElem hj
    have hr := hli _ (List.getElem_mem hj)
    have ht : ((lst o).take (j + 1)).flatMap lst = ((lst o).take j).flatMap lst ++ lst (lst o)[j] := by
      rw [← List.take_append_getElem hj, List.flatMap_append]
      simp
    generalize (lst o)[j] = r at *
    simp +contextual -implicitDefEqProofs (maxSteps := 2000000) only [↓wP, wQ, wQ1, wQ2, wQ3, wR, boxE, partsOf, ↓reduceIte, Nat.reduceEqDiff, Nat.reduceAdd, Nat.reduceSub, Nat.reduceLeDiff, Nat.reduceLT, Nat.reduceMul, reduceCtorEq, Int.reduceBNe, Int.reduceBEq, Int.reduceLT, Int.reduceLE, Int.reduceGT, h1, h2, h3, h4, hx]
    refine WC_for (lst r).length 0 (fun (q : Nat) env σ n => env 0 = .yld l ∧ env 7 = slV 1 (slV 2 hitV) o ∧ env 9 = .int .i64 (j : Int) ∧ env 8 = .int .i64 ((lst o).length : Int) ∧ env 13 = slV 2 hitV r ∧
      J (((lst o).take j).flatMap lst ++ (lst r).take q) σ n) hr (by decide) (by decide) (fun _ _ => rfl) (fun _ _ _ => rfl) ?_ ?_ _ _ _ rfl rfl ?_
    · clear h1 h2 h3 h4
      intro q env σ n hq h1 h2 ⟨h3, h4, h6, h7, h8, h9⟩
      simp only [vl_tmp] at h2
      have hxq : (lst r)[q]? = some (lst r)[q] := List.getElem?_eq_getElem hq
      have htq : (lst r).take (q + 1) = (lst r).take q ++ [(lst r)[q]] := (List.take_append_getElem hq).symm
      generalize (lst r)[q] = x at *
      have hv : hitV x = .agg [.int .u64 x.id, .int .u64 x.d] := rfl
      have hJ1 := hal _ σ n (upd (upd σ n (some (.row 2 [.agg [.int .u64 0, .int .u64 0]]))) n (some (.row 2 [.agg [.int .u64 x.id, .int .u64 x.d]]))) h9 (fun i hi => by
        have e : i ≠ n := by omega
        simp [upd, e])
      simp +contextual -implicitDefEqProofs (maxSteps := 2000000) only [↓wP, wQ, wQ1, wQ2, wQ3, wR, boxE, partsOf, ↓reduceIte, Nat.reduceEqDiff, Nat.reduceAdd, Nat.reduceSub, Nat.reduceLeDiff, Nat.reduceLT, Nat.reduceMul, reduceCtorEq, Int.reduceBNe, Int.reduceBEq, Int.reduceLT, Int.reduceLE, Int.reduceGT, h1, h2, h3, h4, h6, h7, h8, hxq, hv]
      refine stepW_yld (yieldW_mono (fun _ _ x => x) run_mono (fun y σ' n' ⟨hy1, hy2⟩ => ?_) (hy _ _ _ _ _ hJ1))
      subst hy1
      simp +contextual -implicitDefEqProofs (maxSteps := 2000000) only [↓wP, wQ, wQ1, wQ2, wQ3, wR, boxE, partsOf, ↓reduceIte, Nat.reduceEqDiff, Nat.reduceAdd, Nat.reduceSub, Nat.reduceLeDiff, Nat.reduceLT, Nat.reduceMul, reduceCtorEq, Int.reduceBNe, Int.reduceBEq, Int.reduceLT, Int.reduceLE, Int.reduceGT, h1, h2, h3, h4, h6, h7, h8]
      rw [htq, ← List.append_assoc]
      exact hy2
    · clear h1 h2 h3 h4
      intro env σ n ⟨h3, h4, h6, h7, h8, h9⟩ h1 h2
      rw [List.take_length] at h9
      simp +contextual -implicitDefEqProofs (maxSteps := 2000000) only [↓wP, wQ, wQ1, wQ2, wQ3, wR, boxE, partsOf, ↓reduceIte, Nat.reduceEqDiff, Nat.reduceAdd, Nat.reduceSub, Nat.reduceLeDiff, Nat.reduceLT, Nat.reduceMul, reduceCtorEq, Int.reduceBNe, Int.reduceBEq, Int.reduceLT, Int.reduceLE, Int.reduceGT, h3, h4, h6, h7]
      rw [ht]
      exact h9
    · simp +contextual -implicitDefEqProofs (maxSteps := 2000000) only [↓wP, wQ, wQ1, wQ2, wQ3, wR, boxE, partsOf, ↓reduceIte, Nat.reduceEqDiff, Nat.reduceAdd, Nat.reduceSub, Nat.reduceLeDiff, Nat.reduceLT, Nat.reduceMul, reduceCtorEq, Int.reduceBNe, Int.reduceBEq, Int.reduceLT, Int.reduceLE, Int.reduceGT, h1, h2, h3, h4]
      simpa using h5
  · intro env σ n ⟨h3, h4, h5⟩ h1 h2
    rw [List.take_length] at h5
    simp +contextual -implicitDefEqProofs (maxSteps := 2000000) only [↓wP, wQ, wQ1, wQ2, wQ3, wR, boxE, partsOf, ↓reduceIte, Nat.reduceEqDiff, Nat.reduceAdd, Nat.reduceSub, Nat.reduceLeDiff, Nat.reduceLT, Nat.reduceMul, reduceCtorEq, Int.reduceBNe, Int.reduceBEq, Int.reduceLT, Int.reduceLE, Int.reduceGT]
    exact h5
  · simp +contextual -implicitDefEqProofs (maxSteps := 2000000) only [↓wP, wQ, wQ1, wQ2, wQ3, wR, boxE, partsOf, ↓reduceIte, Nat.reduceEqDiff, Nat.reduceAdd, Nat.reduceSub, Nat.reduceLeDiff, Nat.reduceLT, Nat.reduceMul, reduceCtorEq, Int.reduceBNe, Int.reduceBEq, Int.reduceLT, Int.reduceLE, Int.reduceGT]
    simpa using h0

theorem r66 (v : V) (hv : Tr 10 v = true) (h1 : v.one = true) : res T 66 [v] = some (.fn 83 [.box [v]]) := by
  refine run_res (run_pure (fn := g66) rfl rfl (by decide) ?_)
  simp only [g66, b66]
  have hc : v.cells = [v] := by cases v <;> first | rfl | (simp [V.one] at h1)
  have hf := fun σ => (frz_tr σ 10 v hv).1
  simp +contextual -implicitDefEqProofs (maxSteps := 2000000) only [↓wP, wQ, wQ1, wQ2, wQ3, wR, boxE, partsOf, ↓reduceIte, Nat.reduceEqDiff, Nat.reduceAdd, Nat.reduceSub, Nat.reduceLeDiff, Nat.reduceLT, Nat.reduceMul, reduceCtorEq, Int.reduceBNe, Int.reduceBEq, Int.reduceLT, Int.reduceLE, Int.reduceGT, hc, h1, hf]

def ownH : List Hit → V
  | [] => .nilS
  | x :: l => .own 2 ((x :: l).map hitV)

def asg42 : AC := (.reg [⟨(some 7), none, .alloc (.agg [(.int .u64 0), (.int .u64 0)])⟩,
      ⟨none, none, .store 2 (.tmp 7) (.tmp 14)⟩])
def bd42 : AC := (.block 1 (.seq (.seq (.reg [⟨(some 15), none, .load false 1 (.tmp 6)⟩,
       ⟨(some 16), none, .load true 2 (.tmp 7)⟩,
       ⟨(some 17), none, .callv (.tmp 15) [(.tmp 16)]⟩,
       ⟨(some 18), none, .un .not (.tmp 17)⟩])
     (.cond (.tmp 18)
      (.exit 1)
      .skip))
     (.seq (.reg [⟨(some 19), none, .load false 1 (.tmp 5)⟩,
       ⟨(some 20), none, .mkif 104 (.tmp 19)⟩,
       ⟨(some 21), none, .load true 2 (.tmp 7)⟩,
       ⟨(some 22), none, .mkif 47 (.tmp 21)⟩,
       ⟨(some 23), none, .call 67 [(.tmp 20), (.tmp 22)]⟩])
     (.seq (.regd [⟨[⟨⟨(some 24), none, .load false 1 (.tmp 5)⟩, false, false, false, 0, [], none⟩,
       ⟨⟨(some 25), none, .nilck (.tmp 24)⟩, true, false, false, 0, [], none⟩,
       ⟨⟨(some 26), none, .faddr (.tmp 25) 0⟩, true, false, false, 0, [], none⟩,
       ⟨⟨(some 27), none, .load false 1 (.tmp 26)⟩, false, false, false, 0, [], none⟩,
       ⟨⟨(some 28), none, .call 65 [(.tmp 27)]⟩, false, false, false, 0, [], none⟩,
       ⟨⟨(some 29), none, .load false 1 (.tmp 2)⟩, false, false, false, 0, [], none⟩], 0, [⟨(some 30), none, .bin .gtr (.tmp 28) (.tmp 29)⟩]⟩])
     (.cond (.tmp 30)
      (.reg [⟨(some 31), none, .load false 1 (.tmp 5)⟩,
        ⟨(some 32), none, .mkif 104 (.tmp 31)⟩,
        ⟨(some 33), none, .call 68 [(.tmp 32)]⟩])
      .skip)))))

theorem w_asg42 (env : Nat → V) (σ : Sto) (n lk : Nat) (Q : Ex → St → Prop) : WC T asg42 env σ n lk Q = WC T (.reg [⟨(some 7), none, .alloc (.agg [(.int .u64 0), (.int .u64 0)])⟩,
      ⟨none, none, .store 2 (.tmp 7) (.tmp 14)⟩]) env σ n lk Q := rfl
theorem w_bd42 (env : Nat → V) (σ : Sto) (n lk : Nat) (Q : Ex → St → Prop) : WC T bd42 env σ n lk Q = WC T (.block 1 (.seq (.seq (.reg [⟨(some 15), none, .load false 1 (.tmp 6)⟩,
       ⟨(some 16), none, .load true 2 (.tmp 7)⟩,
       ⟨(some 17), none, .callv (.tmp 15) [(.tmp 16)]⟩,
       ⟨(some 18), none, .un .not (.tmp 17)⟩])
     (.cond (.tmp 18)
      (.exit 1)
      .skip))
     (.seq (.reg [⟨(some 19), none, .load false 1 (.tmp 5)⟩,
       ⟨(some 20), none, .mkif 104 (.tmp 19)⟩,
       ⟨(some 21), none, .load true 2 (.tmp 7)⟩,
       ⟨(some 22), none, .mkif 47 (.tmp 21)⟩,
       ⟨(some 23), none, .call 67 [(.tmp 20), (.tmp 22)]⟩])
     (.seq (.regd [⟨[⟨⟨(some 24), none, .load false 1 (.tmp 5)⟩, false, false, false, 0, [], none⟩,
       ⟨⟨(some 25), none, .nilck (.tmp 24)⟩, true, false, false, 0, [], none⟩,
       ⟨⟨(some 26), none, .faddr (.tmp 25) 0⟩, true, false, false, 0, [], none⟩,
       ⟨⟨(some 27), none, .load false 1 (.tmp 26)⟩, false, false, false, 0, [], none⟩,
       ⟨⟨(some 28), none, .call 65 [(.tmp 27)]⟩, false, false, false, 0, [], none⟩,
       ⟨⟨(some 29), none, .load false 1 (.tmp 2)⟩, false, false, false, 0, [], none⟩], 0, [⟨(some 30), none, .bin .gtr (.tmp 28) (.tmp 29)⟩]⟩])
     (.cond (.tmp 30)
      (.reg [⟨(some 31), none, .load false 1 (.tmp 5)⟩,
        ⟨(some 32), none, .mkif 104 (.tmp 31)⟩,
        ⟨(some 33), none, .call 68 [(.tmp 32)]⟩])
      .skip))))) env σ n lk Q := rfl

def Jf (k : Nat) (env : Nat → V) (pre : List Hit) (σ : Sto) (n : Nat) : Prop :=
  4 < n ∧ σ 0 = some (.row 1 [.int .i64 (k : Int)]) ∧ σ 2 = some (.row 1 [.ptr 1 1 0 0]) ∧ σ 3 = some (.row 1 [.fn 64 [.ptr 2 1 0 0, .ptr 0 1 0 0]]) ∧ σ 4 = some (.loop env [14] asg42 bd42 .ready none) ∧
  ((pre = [] ∧ σ 1 = some (.row 1 [.agg [.nilS]])) ∨ ∃ id len d, σ 1 = some (.row 1 [.agg [.ref id 0 len 2]]) ∧ 4 < id ∧ id < n ∧ σ id = some (.row 2 (rw' d)) ∧ 0 < len ∧ len ≤ d.size ∧ d.size ≤ k + 1 ∧ Hp len d ∧ (d.toList.take len).Perm (fst' k pre))

theorem Jf.al {k : Nat} {env : Nat → V} {pre : List Hit} {σ σ' : Sto} {n : Nat} (h : Jf k env pre σ n) (hs : ∀ i, i < n → σ' i = σ i) : Jf k env pre σ' (n + 1) := by
  obtain ⟨h1, h2, h3, h4, h5, h6⟩ := h
  refine ⟨by omega, by rw [hs 0 (by omega), h2], by rw [hs 2 (by omega), h3], by rw [hs 3 (by omega), h4], by rw [hs 4 (by omega), h5], ?_⟩
  rcases h6 with ⟨g1, g2⟩ | ⟨id, len, d, g1, g2, g3, g4, g5⟩
  · exact .inl ⟨g1, by rw [hs 1 (by omega), g2]⟩
  · exact .inr ⟨id, len, d, by rw [hs 1 (by omega), g1], g2, by omega, by rw [hs id g3, g4], g5⟩

theorem mem_take {d : Array Hit} {len : Nat} (hl : len ≤ d.size) {x : Hit} (h : x ∈ d.toList.take len) : ∃ i, i < len ∧ d[i]! = x := by
  obtain ⟨i, hi, rfl⟩ := List.getElem_of_mem h
  rw [List.length_take, Array.length_toList] at hi
  refine ⟨i, by omega, ?_⟩
  rw [List.getElem_take, getElem!_pos d i (by omega)]
  simp

theorem Jf.mk {k : Nat} {env : Nat → V} {pre : List Hit} {σ : Sto} {n id len : Nat} {d : Array Hit} {ob : Option Ob} (hob : ob = some (.loop env [14] asg42 bd42 .ready none)) (h0 : 4 < n) (h1 : σ 0 = some (.row 1 [.int .i64 (k : Int)])) (h2 : σ 2 = some (.row 1 [.ptr 1 1 0 0]))
    (h3 : σ 3 = some (.row 1 [.fn 64 [.ptr 2 1 0 0, .ptr 0 1 0 0]])) (h4 : σ 1 = some (.row 1 [.agg [.ref id 0 len 2]])) (h5 : 4 < id) (h6 : id < n) (h7 : σ id = some (.row 2 (rw' d))) (h8 : 0 < len) (h9 : len ≤ d.size) (h10 : d.size ≤ k + 1) (h11 : Hp len d)
    (h12 : (d.toList.take len).Perm (fst' k pre)) : Jf k env pre (upd σ 4 ob) n := by
  have e : id ≠ 4 := by omega
  subst hob
  exact ⟨h0, by simp [upd, h1], by simp [upd, h2], by simp [upd, h3], by simp [upd], .inr ⟨id, len, d, by simp [upd, h4], h5, h6, by simp [upd, e, h7], h8, h9, h10, h11, h12⟩⟩

theorem hy42 (k : Nat) (hk : 0 < k) (hk' : k < 1000) (env : Nat → V) (he2 : env 2 = .ptr 0 1 0 0) (he5 : env 5 = .ptr 2 1 0 0) (he6 : env 6 = .ptr 3 1 0 0) (pre : List Hit) (σ : Sto) (n : Nat) (a b : Int) (hJ : Jf k env pre σ n) :
    yieldW (run T) 4 [.agg [.int .u64 a, .int .u64 b]] σ n 0 (fun y σ' n' => y = .bool true ∧ Jf k env (pre ++ [⟨a, b⟩]) σ' n') := by
  obtain ⟨h1, h2, h3, h4, h5, h6⟩ := hJ
  refine yieldW_go h5 rfl (Nat.zero_le _) ?_
  have q0 : (0 = n) = False := by simp; omega
  have q1 : (1 = n) = False := by simp; omega
  have q2 : (2 = n) = False := by simp; omega
  have q3 : (3 = n) = False := by simp; omega
  have q4 : (4 = n) = False := by simp; omega
  have q5 : (n = 4) = False := by simp; omega
  obtain ⟨σ1, hσ1⟩ : ∃ σ1, σ1 = upd (upd (upd σ n (some (.row 2 [.agg [.int .u64 0, .int .u64 0]]))) n (some (.row 2 [.agg [.int .u64 a, .int .u64 b]]))) 4 (some (.loop env [14] asg42 bd42 .busy none)) := ⟨_, rfl⟩
  have s0 : σ1 0 = some (.row 1 [.int .i64 (k : Int)]) := by rw [hσ1]; simp [upd, q0, h2]
  have s2 : σ1 2 = some (.row 1 [.ptr 1 1 0 0]) := by rw [hσ1]; simp [upd, q2, h3]
  have s3 : σ1 3 = some (.row 1 [.fn 64 [.ptr 2 1 0 0, .ptr 0 1 0 0]]) := by rw [hσ1]; simp [upd, q3, h4]
  have s4 : σ1 4 = some (.loop env [14] asg42 bd42 .busy none) := by rw [hσ1]; simp [upd]
  have sn : σ1 n = some (.row 2 [.agg [.int .u64 a, .int .u64 b]]) := by rw [hσ1]; simp [upd, q5]
  have s1 : σ1 1 = σ 1 := by rw [hσ1]; simp [upd, q1]
  have so : ∀ i, 4 < i → i < n → σ1 i = σ i := by
    intro i g1 g2
    have g3 : i ≠ n := by omega
    have g4 : i ≠ 4 := by omega
    rw [hσ1]; simp [upd, g3, g4]
  rcases h6 with ⟨rfl, h6⟩ | ⟨id, len, d, h6, h7, h8, h9, h10, h11, h12, h13, h14⟩
  · rw [h6] at s1
    have c31 := f64n (wv := 2) (kid := 0) (wid := 1) (σ := σ1) a b k hk s2 s0 s1
    simp +contextual -implicitDefEqProofs (maxSteps := 2000000) only [↓wP, wQ, wQ1, wQ2, wQ3, wR, boxE, partsOf, ↓reduceIte, Nat.reduceEqDiff, Nat.reduceAdd, Nat.reduceSub, Nat.reduceLeDiff, Nat.reduceLT, Nat.reduceMul, reduceCtorEq, Int.reduceBNe, Int.reduceBEq, Int.reduceLT, Int.reduceLE, Int.reduceGT, bind_cons, bind_nil, w_asg42, w_bd42, he2, he5, he6, h5, q0, q1, q2, q3, q4, q5, ← hσ1, s0, s2, s3, s4, sn, s1, c31]
    refine stepW_raw (by decide) (raw67n a b 1 (n + 1) σ1 s1 (by omega) fun σ2 n2 id2 d2 g1 g2 g3 g4 g5 g6 g7 g8 g9 => ?_)
    have t0 := (g9 0 (by decide) (by omega)).trans s0
    have t2 := (g9 2 (by decide) (by omega)).trans s2
    have t3 := (g9 3 (by decide) (by omega)).trans s3
    have t4 := (g9 4 (by decide) (by omega)).trans s4
    have f65 := fun fs n lk => f32r (d := d2) (len := 1) (id := id2) (σ := σ2) (by omega) g5 fs n lk
    simp only [Int.natCast_one] at f65
    have hgt : ¬ (k : Int) < 1 := by omega
    simp +contextual -implicitDefEqProofs (maxSteps := 2000000) only [↓wP, wQ, wQ1, wQ2, wQ3, wR, boxE, partsOf, ↓reduceIte, Nat.reduceEqDiff, Nat.reduceAdd, Nat.reduceSub, Nat.reduceLeDiff, Nat.reduceLT, Nat.reduceMul, reduceCtorEq, Int.reduceBNe, Int.reduceBEq, Int.reduceLT, Int.reduceLE, Int.reduceGT, he2, he5, he6, t0, t2, g4, f65, hgt]
    refine ⟨t4, Jf.mk rfl (by omega) t0 t2 t3 g4 (by omega) g3 g5 (by decide) (by omega) (by omega) g7 ?_⟩
    have e1 : d2.toList.take 1 = d2.toList := List.take_of_length_le (by rw [Array.length_toList]; omega)
    have e2 : fst' k [⟨a, b⟩] = [⟨a, b⟩] := by
      show [_].take k = _
      exact List.take_of_length_le (by simp; omega)
    rw [e1, e2]
    exact g8
  · rw [h6] at s1
    have sid := so id h7 h8
    rw [h9] at sid
    have hlen := h14.length_eq
    rw [List.length_take, Array.length_toList, fst_len, Nat.min_eq_left h11] at hlen
    have c31 := f64 (wv := 2) (kid := 0) (wid := 1) (σ := σ1) (d := d) (len := len) a b k s2 s0 s1 sid h11 h10
    have hmax := h13.max
    have hmem : ∀ x ∈ fst' k pre, ahead d[0]! x = false := by
      intro x hx
      obtain ⟨i, hi, rfl⟩ := mem_take h11 (h14.mem_iff.2 hx)
      exact hmax i hi
    by_cases hin : (decide (len < k) || ahead ⟨a, b⟩ d[0]!) = true
    · rw [hin] at c31
      simp +contextual -implicitDefEqProofs (maxSteps := 2000000) only [↓wP, wQ, wQ1, wQ2, wQ3, wR, boxE, partsOf, ↓reduceIte, Nat.reduceEqDiff, Nat.reduceAdd, Nat.reduceSub, Nat.reduceLeDiff, Nat.reduceLT, Nat.reduceMul, reduceCtorEq, Int.reduceBNe, Int.reduceBEq, Int.reduceLT, Int.reduceLE, Int.reduceGT, bind_cons, bind_nil, w_asg42, w_bd42, he2, he5, he6, h5, q0, q1, q2, q3, q4, q5, ← hσ1, s0, s2, s3, s4, sn, s1, c31]
      refine stepW_raw (by decide) (raw67 d a b 1 id len (n + 1) σ1 h11 (by omega) s1 (by omega) (by omega) (by omega) sid h13 fun σ2 n2 id2 d2 g1 g2 g3 g4 g5 g6 g7 g8 g9 => ?_)
      have t0 := (g9 0 (by decide) (by omega) (by omega)).trans s0
      have t2 := (g9 2 (by decide) (by omega) (by omega)).trans s2
      have t3 := (g9 3 (by decide) (by omega) (by omega)).trans s3
      have t4 := (g9 4 (by decide) (by omega) (by omega)).trans s4
      have f65 := fun fs n lk => f32r (d := d2) (len := len + 1) (id := id2) (σ := σ2) (by omega) g5 fs n lk
      have hp1 : d2.toList.Perm (ins ⟨a, b⟩ (fst' k pre)) := by
        refine g8.trans ((h14.append_right _).trans (List.perm_append_comm.trans ?_))
        exact (ins_perm _ _).symm
      by_cases hgt : k < len + 1
      · have hgt' : (k : Int) < ((len + 1 : Nat) : Int) := by omega
        simp +contextual -implicitDefEqProofs (maxSteps := 2000000) only [↓wP, wQ, wQ1, wQ2, wQ3, wR, boxE, partsOf, ↓reduceIte, Nat.reduceEqDiff, Nat.reduceAdd, Nat.reduceSub, Nat.reduceLeDiff, Nat.reduceLT, Nat.reduceMul, reduceCtorEq, Int.reduceBNe, Int.reduceBEq, Int.reduceLT, Int.reduceLE, Int.reduceGT, he2, he5, he6, t0, t2, g4, f65, hgt']
        refine stepW_raw (by decide) (raw68 d2 1 id2 (len + 1) n2 σ2 (by omega) (by omega) (by omega) g4 (by omega) g3 (by omega) g5 g7 fun v σ3 n3 d3 k1 k2 k3 k4 k5 k6 k7 => ?_)
        have u0 := (k7 0 (by decide) (by omega) (by omega)).trans t0
        have u2 := (k7 2 (by decide) (by omega) (by omega)).trans t2
        have u3 := (k7 3 (by decide) (by omega) (by omega)).trans t3
        have u4 := (k7 4 (by decide) (by omega) (by omega)).trans t4
        simp only [Nat.add_sub_cancel] at k2 k5 k6
        simp +contextual -implicitDefEqProofs (maxSteps := 2000000) only [↓wP, wQ, wQ1, wQ2, wQ3, wR, boxE, partsOf, ↓reduceIte, Nat.reduceEqDiff, Nat.reduceAdd, Nat.reduceSub, Nat.reduceLeDiff, Nat.reduceLT, Nat.reduceMul, reduceCtorEq, Int.reduceBNe, Int.reduceBEq, Int.reduceLT, Int.reduceLE, Int.reduceGT, he2, he5, he6]
        refine ⟨u4, Jf.mk rfl (by omega) u0 u2 u3 k2 (by omega) (by omega) k3 h10 (by omega) (by omega) k5 ?_⟩
        have e1 : d2.toList.take (len + 1) = d2.toList := List.take_of_length_le (by rw [Array.length_toList]; omega)
        rw [e1] at k6
        have hmx : ∀ x ∈ d3.toList.take len, ahead d2[0]! x = false := by
          intro x hx
          have hx2 : x ∈ d2.toList.take (len + 1) := by rw [e1]; exact k6.mem_iff.2 (List.mem_append_left _ hx)
          obtain ⟨i, hi, rfl⟩ := mem_take (by omega) hx2
          exact g7.max i hi
        have hdm := drop_max (ins_srt ⟨a, b⟩ _ (fst_srt k pre)) (hp1.symm.trans k6) hmx
        have hl3 : (d3.toList.take len).length = len := by rw [List.length_take, Array.length_toList]; omega
        rw [hl3] at hdm
        rw [fst_snoc]
        have hk2 : len = k := by rw [hlen]; omega
        rw [hk2] at hdm ⊢
        exact hdm
      · have hgt' : ¬ (k : Int) < ((len + 1 : Nat) : Int) := by omega
        simp +contextual -implicitDefEqProofs (maxSteps := 2000000) only [↓wP, wQ, wQ1, wQ2, wQ3, wR, boxE, partsOf, ↓reduceIte, Nat.reduceEqDiff, Nat.reduceAdd, Nat.reduceSub, Nat.reduceLeDiff, Nat.reduceLT, Nat.reduceMul, reduceCtorEq, Int.reduceBNe, Int.reduceBEq, Int.reduceLT, Int.reduceLE, Int.reduceGT, he2, he5, he6, t0, t2, g4, f65, hgt']
        refine ⟨t4, Jf.mk rfl (by omega) t0 t2 t3 g4 (by omega) g3 g5 (by omega) (by omega) (by omega) g7 ?_⟩
        have e1 : d2.toList.take (len + 1) = d2.toList := List.take_of_length_le (by rw [Array.length_toList]; omega)
        rw [e1, fst_snoc, List.take_of_length_le (by rw [ins_len, fst_len]; omega)]
        exact hp1
    · simp only [Bool.not_eq_true] at hin
      rw [hin] at c31
      simp only [Bool.or_eq_false_iff, decide_eq_false_iff_not] at hin
      simp +contextual -implicitDefEqProofs (maxSteps := 2000000) only [↓wP, wQ, wQ1, wQ2, wQ3, wR, boxE, partsOf, ↓reduceIte, Nat.reduceEqDiff, Nat.reduceAdd, Nat.reduceSub, Nat.reduceLeDiff, Nat.reduceLT, Nat.reduceMul, reduceCtorEq, Int.reduceBNe, Int.reduceBEq, Int.reduceLT, Int.reduceLE, Int.reduceGT, bind_cons, bind_nil, w_asg42, w_bd42, he2, he5, he6, h5, q0, q1, q2, q3, q4, q5, ← hσ1, s0, s2, s3, s4, sn, s1, c31]
      refine Jf.mk rfl (by omega) s0 s2 s3 s1 h7 (by omega) sid h10 h11 h12 h13 ?_
      rw [fst_out (by rw [fst_len]; omega) (fun x hx => swoA.ntrans _ _ _ hin.2 (hmem x hx))]
      exact h14

end Go.Q.S11
end

section
/- First. -/
set_option linter.unusedSimpArgs false
set_option linter.unusedVariables false
namespace Go.Q.S11
open Go.Q Go.Sort

def hs (l : List Hit) : List V := l.map hitV
theorem rw_hs (l : List Hit) : rw' l.toArray = hs l := by simp [rw', hs]
theorem hs_len (l : List Hit) : (hs l).length = l.length := by simp [hs]
theorem hs_giv (σ : Sto) (l : List Hit) : ∀ x ∈ hs l, elemM (giv σ 11) x = some x := by
  intro x hx
  obtain ⟨y, -, rfl⟩ := List.mem_map.1 hx
  rfl
theorem hs_gids (σ : Sto) (l : List Hit) : ∀ x ∈ hs l, ∀ c ∈ x.cells, gids σ 11 c = [] := by
  intro x hx c hc
  obtain ⟨y, -, rfl⟩ := List.mem_map.1 hx
  simp only [hitV, V.cells, List.mem_cons, List.not_mem_nil, or_false] at hc
  rcases hc with rfl | rfl <;> rfl
theorem hs_frz (σ : Sto) (l : List Hit) : ∀ x ∈ hs l, elemM (frz σ 11) x = some x := by
  intro x hx
  obtain ⟨y, -, rfl⟩ := List.mem_map.1 hx
  rfl
theorem hs_nw (l : List Hit) : ∀ x ∈ hs l, Nw 12 x = true := by
  intro x hx
  obtain ⟨y, -, rfl⟩ := List.mem_map.1 hx
  rfl
theorem hs_flat (l : List Hit) : flat (.own 2 (hs l)) = true := by
  show flatL _ = true
  induction l with
  | nil => rfl
  | cons x l ih => simp only [hs, List.map_cons, flatL, hitV, flat, Bool.and_true, Bool.true_and]; exact ih

theorem lim_hits {n : Nat} (h : n ≤ 8000000000000) : (n * 16 ≤ LIM) = True := by unfold LIM; simp; omega

/-- A row of its own. -/
theorem r69 (l : List Hit) (hl : l.length ≤ 8000000000000) : res T 69 [.sl 2 (hs l)] = some (.own 2 (hs l)) := by
  refine run_res (run_own (fn := g69) rfl rfl (by decide) ?_)
  simp only [g69, b69]
  have z := lim_hits hl
  rw [← hs_len] at z
  have hg := fun σ h => giv_row (σ := σ) (id := 1) (sz := 2) (xs := hs l) h (hs_giv σ l) (hs_gids σ l)
  simp +contextual -implicitDefEqProofs (maxSteps := 2000000) only [↓wP, wQ, wQ1, wQ2, wQ3, wR, boxE, partsOf, ↓reduceIte, Nat.reduceEqDiff, Nat.reduceAdd, Nat.reduceSub, Nat.reduceLeDiff, Nat.reduceLT, Nat.reduceMul, reduceCtorEq, Int.reduceBNe, Int.reduceBEq, Int.reduceLT, Int.reduceLE, Int.reduceGT, z, true_or]
  refine hg _ ?_
  simp [upd]

theorem r69n : res T 69 [.nilS] = some .nilS := by
  refine run_res (run_own (fn := g69) rfl rfl (by decide) ?_)
  simp only [g69, b69]
  simp +contextual -implicitDefEqProofs (maxSteps := 2000000) only [↓wP, wQ, wQ1, wQ2, wQ3, wR, boxE, partsOf, ↓reduceIte, Nat.reduceEqDiff, Nat.reduceAdd, Nat.reduceSub, Nat.reduceLeDiff, Nat.reduceLT, Nat.reduceMul, reduceCtorEq, Int.reduceBNe, Int.reduceBEq, Int.reduceLT, Int.reduceLE, Int.reduceGT]
  exact ⟨rfl, by simp [gids]⟩

theorem f69n (fs : Bool) (σ : Sto) (n lk : Nat) : callE T fs 69 [.nilS] σ n lk = some (.nilS, σ, n) := callE_tr (by decide) r69n rfl rfl fs σ n lk
theorem thaw_hs (σ : Sto) (n : Nat) (l : List Hit) : thaw σ n (.own 2 (hs l)) = (.ref n 0 l.length 2, upd σ n (some (.row 2 (hs l))), n + 1) := by
  rw [thaw_own, thawL_nw 12 (hs_nw l), hs_len]

theorem f69 {d : Array Hit} {len id : Nat} {σ : Sto} (hl : len ≤ d.size) (hd : d.size ≤ 8000000000000) (h : σ id = some (.row 2 (rw' d))) (fs : Bool) (n lk : Nat) :
    callE T fs 69 [.ref id 0 len 2] σ n lk = some (.ref n 0 len 2, upd σ n (some (.row 2 (hs (d.toList.take len)))), n + 1) := by
  rw [callE_eq (by decide)]
  have e : [V.ref id 0 len 2].mapM (frz σ 12) = some [.sl 2 (hs (d.toList.take len))] := by
    have e1 : (rw' d).take len = hs (d.toList.take len) := by simp [rw', hs, List.map_take]
    simp only [List.mapM_cons, List.mapM_nil, frz_pre hl h 9, e1]
    rfl
  have hlen : (d.toList.take len).length = len := by rw [List.length_take, Array.length_toList]; omega
  rw [e, callR_some, r69 _ (by omega), retE_some, backE_flat (hs_flat _), thaw_hs, hlen]

theorem raw93n (n : Nat) (σ : Sto) {Q : V → Sto → Nat → Prop} (hQ : Q .undef σ n) : run T (.raw 93 [.nilS, .int .i64 0, .int .i64 0, .fn 24 []] σ n 0) (memQ Q) := by
  refine run_rawE (fn := g93) rfl rfl ?_
  simp only [g93, b93]
  have w1 : IntKind.i64.wrap ((0 : Int) + 1) = 1 := by decide
  simp +contextual -implicitDefEqProofs (maxSteps := 2000000) only [↓wP, wQ, wQ1, wQ2, wQ3, wR, boxE, partsOf, ↓reduceIte, Nat.reduceEqDiff, Nat.reduceAdd, Nat.reduceSub, Nat.reduceLeDiff, Nat.reduceLT, Nat.reduceMul, reduceCtorEq, Int.reduceBNe, Int.reduceBEq, Int.reduceLT, Int.reduceLE, Int.reduceGT, w1]
  refine WC_loopI 0 (fun (s : Nat) env σ' n' => n' = n ∧ σ' = σ ∧ env 2 = .int .i64 0 ∧ env 8 = .int .i64 1) (fun s => s) ?_ 0 _ _ _ ?_
  · intro _ env σ' n' ⟨h1, h2, h3, h4⟩
    subst h1 h2
    have h : ¬ (1 : Int) < 0 := by decide
    simp +contextual -implicitDefEqProofs (maxSteps := 2000000) only [↓wP, wQ, wQ1, wQ2, wQ3, wR, boxE, partsOf, ↓reduceIte, Nat.reduceEqDiff, Nat.reduceAdd, Nat.reduceSub, Nat.reduceLeDiff, Nat.reduceLT, Nat.reduceMul, reduceCtorEq, Int.reduceBNe, Int.reduceBEq, Int.reduceLT, Int.reduceLE, Int.reduceGT, h3, h4, h]
    exact hQ
  · simp +contextual -implicitDefEqProofs (maxSteps := 2000000) only [↓wP, wQ, wQ1, wQ2, wQ3, wR, boxE, partsOf, ↓reduceIte, Nat.reduceEqDiff, Nat.reduceAdd, Nat.reduceSub, Nat.reduceLeDiff, Nat.reduceLT, Nat.reduceMul, reduceCtorEq, Int.reduceBNe, Int.reduceBEq, Int.reduceLT, Int.reduceLE, Int.reduceGT]
theorem raw86n (n : Nat) (σ : Sto) {Q : V → Sto → Nat → Prop} (lim : Int) (hQ : Q .undef σ n) : run T (.raw 86 [.nilS, .int .i64 0, .int .i64 0, .int .i64 lim, .fn 24 []] σ n 0) (memQ Q) := by
  refine run_rawE (fn := g86) rfl rfl ?_
  simp only [g86, b86]
  have w1 : IntKind.i64.wrap ((0 : Int) - 0) = 0 := by decide
  have h12 : (0 : Int) ≤ 12 := by decide
  simp +contextual -implicitDefEqProofs (maxSteps := 2000000) only [↓wP, wQ, wQ1, wQ2, wQ3, wR, boxE, partsOf, ↓reduceIte, Nat.reduceEqDiff, Nat.reduceAdd, Nat.reduceSub, Nat.reduceLeDiff, Nat.reduceLT, Nat.reduceMul, reduceCtorEq, Int.reduceBNe, Int.reduceBEq, Int.reduceLT, Int.reduceLE, Int.reduceGT, w1]
  refine WC_loopI 0 (fun (s : Nat) env σ' n' => n' = n ∧ σ' = σ ∧ env 0 = .nilS ∧ env 1 = .int .i64 0 ∧ env 2 = .int .i64 0 ∧ env 4 = .fn 24 []) (fun s => s) ?_ 0 _ _ _ ?_
  · intro _ env σ' n' ⟨h1, h2, h3, h4, h5, h6⟩
    subst h1 h2
    simp +contextual -implicitDefEqProofs (maxSteps := 2000000) only [↓wP, wQ, wQ1, wQ2, wQ3, wR, boxE, partsOf, ↓reduceIte, Nat.reduceEqDiff, Nat.reduceAdd, Nat.reduceSub, Nat.reduceLeDiff, Nat.reduceLT, Nat.reduceMul, reduceCtorEq, Int.reduceBNe, Int.reduceBEq, Int.reduceLT, Int.reduceLE, Int.reduceGT, w1, h3, h4, h5, h6, h12]
    refine stepW_raw (by decide) (raw93n n' σ' ?_)
    simp +contextual -implicitDefEqProofs (maxSteps := 2000000) only [↓wP, wQ, wQ1, wQ2, wQ3, wR, boxE, partsOf, ↓reduceIte, Nat.reduceEqDiff, Nat.reduceAdd, Nat.reduceSub, Nat.reduceLeDiff, Nat.reduceLT, Nat.reduceMul, reduceCtorEq, Int.reduceBNe, Int.reduceBEq, Int.reduceLT, Int.reduceLE, Int.reduceGT]
    exact hQ
  · simp +contextual -implicitDefEqProofs (maxSteps := 2000000) only [↓wP, wQ, wQ1, wQ2, wQ3, wR, boxE, partsOf, ↓reduceIte, Nat.reduceEqDiff, Nat.reduceAdd, Nat.reduceSub, Nat.reduceLeDiff, Nat.reduceLT, Nat.reduceMul, reduceCtorEq, Int.reduceBNe, Int.reduceBEq, Int.reduceLT, Int.reduceLE, Int.reduceGT]
theorem raw37N {d : Array Hit} {N : Nat} (hN : d.size = N) (id n : Nat) (σ : Sto) (hd : N < 18) (hid : id < n) (hσ : σ id = some (.row 2 (rw' d))) {Q : V → Sto → Nat → Prop}
    (hQ : ∀ σ' d' n', n ≤ n' → σ' id = some (.row 2 (rw' d')) → (∀ i, i ≠ id → i < n → σ' i = σ i) → PermIn 0 N d d' → SortedIn ahead 0 N d' → Q .undef σ' n') :
    run T (.raw 70 [.ref id 0 N 2, .fn 24 []] σ n 0) (memQ Q) := by subst hN; exact raw70 d id n σ hd hid hσ hQ
theorem raw70n (n : Nat) (σ : Sto) {Q : V → Sto → Nat → Prop} (hQ : Q .undef σ n) : run T (.raw 70 [.nilS, .fn 24 []] σ n 0) (memQ Q) := by
  refine run_rawE (fn := g70) rfl rfl ?_
  simp only [g70, b70]
  obtain ⟨M, h1, h2, h3⟩ := r87 0 (by decide)
  have f87 := callE_tr (fs := true) (by decide) h3 (by simp [Tr]) rfl
  simp only [Int.natCast_zero] at f87
  have wu : IntKind.u64.wrap (0 : Int) = 0 := by decide
  simp +contextual -implicitDefEqProofs (maxSteps := 2000000) only [↓wP, wQ, wQ1, wQ2, wQ3, wR, boxE, partsOf, ↓reduceIte, Nat.reduceEqDiff, Nat.reduceAdd, Nat.reduceSub, Nat.reduceLeDiff, Nat.reduceLT, Nat.reduceMul, reduceCtorEq, Int.reduceBNe, Int.reduceBEq, Int.reduceLT, Int.reduceLE, Int.reduceGT, Int.natCast_zero, wu, f87]
  refine stepW_raw (by decide) (raw86n n σ _ ?_)
  simp +contextual -implicitDefEqProofs (maxSteps := 2000000) only [↓wP, wQ, wQ1, wQ2, wQ3, wR, boxE, partsOf, ↓reduceIte, Nat.reduceEqDiff, Nat.reduceAdd, Nat.reduceSub, Nat.reduceLeDiff, Nat.reduceLT, Nat.reduceMul, reduceCtorEq, Int.reduceBNe, Int.reduceBEq, Int.reduceLT, Int.reduceLE, Int.reduceGT]
  exact hQ

theorem sorted_list {d : Array Hit} (h : SortedIn ahead 0 d.size d) : Srt d.toList := by
  unfold Srt
  rw [List.pairwise_iff_getElem]
  intro i j hi hj hij
  simp only [Array.length_toList] at hi hj
  have := h i j (Nat.zero_le _) hij hj
  rw [getElem!_pos d i hi, getElem!_pos d j hj] at this
  simpa using this

theorem ownH_eq {l : List Hit} (h : l ≠ []) : ownH l = .own 2 (hs l) := by
  cases l with
  | nil => exact absurd rfl h
  | cons x l => rfl

theorem range42 (k : Nat) (hk : 0 < k) (hk' : k < 1000) (o : Option (List (Option (List Hit)))) (hlo : (lst o).length < 9223372036854775808) (hli : ∀ r ∈ lst o, (lst r).length < 9223372036854775808) (env : Nat → V) (σ : Sto)
    (he2 : env 2 = .ptr 0 1 0 0) (he5 : env 5 = .ptr 2 1 0 0) (he6 : env 6 = .ptr 3 1 0 0) (he : env 13 = .fn 83 [.box [slV 1 (slV 2 hitV) o]]) (h0 : σ 0 = some (.row 1 [.int .i64 (k : Int)])) (h1 : σ 1 = some (.row 1 [.agg [.nilS]]))
    (h2 : σ 2 = some (.row 1 [.ptr 1 1 0 0])) (h3 : σ 3 = some (.row 1 [.fn 64 [.ptr 2 1 0 0, .ptr 0 1 0 0]])) {Q : Ex → St → Prop} (hQ : ∀ σ' n', Jf k env ((lst o).flatMap lst) σ' n' → Q .normal ⟨env, upd σ' 4 none, n', 0⟩) :
    WC T (.rangeF (.tmp 13) [14] asg42 bd42) env σ 4 0 Q := by
  refine WC_rangeF (f := 83) (caps := [.box [slV 1 (slV 2 hitV) o]]) he (Nat.zero_le _) ?_
  refine run_mono _ _ _ (fun x hx => ?_) (all83 o 4 (Jf k env) hlo hli (fun pre σ n σ' h hs => h.al hs) (hy42 k hk hk' env he2 he5 he6) _ 5 ?_)
  · cases x <;> try exact hx.elim
    have hx' : Jf k env ((lst o).flatMap lst) _ _ := hx
    exact ⟨_, _, _, _, _, _, hx'.2.2.2.2.1, by decide, hQ _ _ hx'⟩
  · exact ⟨by omega, by simp [upd, h0], by simp [upd, h2], by simp [upd, h3], by simp [upd], .inl ⟨rfl, by simp [upd, h1]⟩⟩

/-- The first ones of all that stands in rows. -/
theorem r42 (k : Nat) (o : Option (List (Option (List Hit)))) (hk : 0 < k) (hk' : k < 18) (hlo : (lst o).length < 9223372036854775808) (hli : ∀ r ∈ lst o, (lst r).length < 9223372036854775808) :
    res T 42 [.int .i64 (k : Int), slV 1 (slV 2 hitV) o] = some (ownH (fst' k ((lst o).flatMap lst))) := by
  refine run_res (run_own (fn := g42) rfl rfl (by decide) ?_)
  simp only [g42, b42]
  have h33 := r66 (slV 1 (slV 2 hitV) o) (Tr_slV 1 _ o 9) (one_slV 1 _ o)
  have f66 := callE_tr (fs := true) (by decide) h33 (by simp [Tr_slV]) (by rfl)
  simp +contextual -implicitDefEqProofs (maxSteps := 2000000) only [↓wP, wQ, wQ1, wQ2, wQ3, wR, boxE, partsOf, ↓reduceIte, Nat.reduceEqDiff, Nat.reduceAdd, Nat.reduceSub, Nat.reduceLeDiff, Nat.reduceLT, Nat.reduceMul, reduceCtorEq, Int.reduceBNe, Int.reduceBEq, Int.reduceLT, Int.reduceLE, Int.reduceGT, f66]
  refine range42 k hk (by omega) o hlo hli _ _ rfl rfl rfl rfl (by simp [upd]) (by simp [upd]) (by simp [upd]) (by simp [upd]) fun σ' n' hJ => ?_
  obtain ⟨h1, h2, h3, h4, h5, h6⟩ := hJ
  rcases h6 with ⟨g1, g2⟩ | ⟨id, len, d, g1, g2, g3, g4, g5, g6, g7, g8, g9⟩
  · rw [g1]
    simp +contextual -implicitDefEqProofs (maxSteps := 2000000) only [↓wP, wQ, wQ1, wQ2, wQ3, wR, boxE, partsOf, ↓reduceIte, Nat.reduceEqDiff, Nat.reduceAdd, Nat.reduceSub, Nat.reduceLeDiff, Nat.reduceLT, Nat.reduceMul, reduceCtorEq, Int.reduceBNe, Int.reduceBEq, Int.reduceLT, Int.reduceLE, Int.reduceGT, h3, g2, f69n]
    refine stepW_raw (by decide) (raw70n _ _ ?_)
    simp +contextual -implicitDefEqProofs (maxSteps := 2000000) only [↓wP, wQ, wQ1, wQ2, wQ3, wR, boxE, partsOf, ↓reduceIte, Nat.reduceEqDiff, Nat.reduceAdd, Nat.reduceSub, Nat.reduceLeDiff, Nat.reduceLT, Nat.reduceMul, reduceCtorEq, Int.reduceBNe, Int.reduceBEq, Int.reduceLT, Int.reduceLE, Int.reduceGT]
    have e0 : fst' k [] = [] := by simp [fst', srt]
    rw [e0]
    exact ⟨rfl, by simp [gids, DEEP]⟩
  · have e4 : id ≠ 4 := by omega
    have f69 := fun fs n lk => f69 (d := d) (len := len) (id := id) (σ := upd σ' 4 none) g6 (by omega) (by simp [upd, e4, g4]) fs n lk
    generalize hl : (lst o).flatMap lst = all at *
    have hlen := g9.length_eq
    rw [List.length_take, Array.length_toList, fst_len, Nat.min_eq_left g6] at hlen
    simp +contextual -implicitDefEqProofs (maxSteps := 2000000) only [↓wP, wQ, wQ1, wQ2, wQ3, wR, boxE, partsOf, ↓reduceIte, Nat.reduceEqDiff, Nat.reduceAdd, Nat.reduceSub, Nat.reduceLeDiff, Nat.reduceLT, Nat.reduceMul, reduceCtorEq, Int.reduceBNe, Int.reduceBEq, Int.reduceLT, Int.reduceLE, Int.reduceGT, h3, g1, f69]
    have hc : (d.toList.take len).toArray.size = len := by simp; omega
    refine stepW_raw (by decide) (raw37N hc n' (n' + 1) (upd (upd σ' 4 none) n' (some (.row 2 (hs (d.toList.take len))))) (by omega) (by omega) (by simp [upd, rw_hs]) fun σ2 d2 n2 k1 k2 k3 k4 k5 => ?_)
    simp +contextual -implicitDefEqProofs (maxSteps := 2000000) only [↓wP, wQ, wQ1, wQ2, wQ3, wR, boxE, partsOf, ↓reduceIte, Nat.reduceEqDiff, Nat.reduceAdd, Nat.reduceSub, Nat.reduceLeDiff, Nat.reduceLT, Nat.reduceMul, reduceCtorEq, Int.reduceBNe, Int.reduceBEq, Int.reduceLT, Int.reduceLE, Int.reduceGT]
    have hs2 : d2.size = len := by rw [k4.1, hc]
    have hsl : Srt d2.toList := sorted_list (by rw [hs2]; exact k5)
    have hp2 : d2.toList.Perm (fst' k all) := (perm_all hc k4).trans (by simpa using g9)
    have heq : d2.toList = fst' k all := Srt.uniq hsl (fst_srt k all) hp2
    have hne : fst' k all ≠ [] := by
      intro h
      have := fst_len k all
      rw [h] at this
      simp at this
      omega
    rw [ownH_eq hne, ← heq]
    have hrow : rw' d2 = hs d2.toList := rfl
    rw [hrow] at k2
    have := giv_row (σ := σ2) (id := n') (sz := 2) (xs := hs d2.toList) k2 (hs_giv _ _) (hs_gids _ _)
    rw [hs_len, Array.length_toList, hs2] at this
    exact this
end Go.Q.S11
end

section
/- Rows of their own, what is the same, the document's order. -/
set_option linter.unusedSimpArgs false
set_option linter.unusedVariables false
namespace Go.Q.S11
open Go.Q Go.Sort

theorem callE_flat {f : Nat} {args ts : List V} {r : V} {σ : Sto} (hm : T.mode f ≠ .raw) (hts : args.mapM (frz σ 12) = some ts) (hr : res T f ts = some r) (hf : flat r = true) (fs : Bool) (n lk : Nat) :
    callE T fs f args σ n lk = some (thaw σ n r) := by
  rw [callE_eq hm, hts, callR_some, hr, retE_some, backE_flat hf]

theorem hitV_eq (x : Hit) : hitV x = .agg [.int .u64 x.id, .int .u64 x.d] := rfl
theorem hs_map (l : List Hit) : l.map hitV = hs l := rfl
theorem hs_take (l : List Hit) (k : Nat) : (hs l).take k = hs (l.take k) := by simp [hs, List.map_take]
theorem hs_app (l m : List Hit) : hs l ++ hs m = hs (l ++ m) := by simp [hs]
theorem hs_get {l : List Hit} {i : Nat} (h : i < l.length) : (hs l)[i]? = some (.agg [.int .u64 l[i].id, .int .u64 l[i].d]) := by
  simp [hs, List.getElem?_eq_getElem h, hitV]

theorem take_eq {a b : List Hit} (hl : a.length = b.length) (h : a.take a.length = b.take a.length) : a = b := by
  rw [List.take_length, hl, List.take_length] at h; exact h
theorem eqc_hit (a b c d : Int) : eqCells [.int, .int] [.int .u64 a, .int .u64 b] [.int .u64 c, .int .u64 d] = some (decide ((⟨a, b⟩ : Hit) = ⟨c, d⟩)) := by
  simp only [eqCells, eqCell, if_true, Option.bind_some, Option.map_some, Bool.and_true]
  congr 1
  rw [Bool.eq_iff_iff]
  simp
theorem r17 (a b : Option (List Hit)) (ha : (lst a).length < 9223372036854775808) : res T 17 [slV 2 hitV a, slV 2 hitV b] = some (.bool (decide (lst a = lst b))) := by
  refine run_res (run_pure (fn := g17) rfl rfl (by decide) ?_)
  simp only [g17, b17]
  by_cases hlen : (lst a).length = (lst b).length
  · have hd : (((lst a).length : Int) != ((lst b).length : Int)) = false := by simp [hlen]
    simp +contextual -implicitDefEqProofs (maxSteps := 2000000) only [↓wP, wQ, wQ1, wQ2, wQ3, wR, boxE, partsOf, ↓reduceIte, Nat.reduceEqDiff, Nat.reduceAdd, Nat.reduceSub, Nat.reduceLeDiff, Nat.reduceLT, Nat.reduceMul, reduceCtorEq, Int.reduceBNe, Int.reduceBEq, Int.reduceLT, Int.reduceLE, Int.reduceGT, hd]
    refine WC_loopI 0 (fun (j : Nat) env _ _ => j ≤ (lst a).length ∧ env 5 = .int .i64 (j : Int) ∧ env 0 = slV 2 hitV a ∧ env 1 = slV 2 hitV b ∧ (lst a).take j = (lst b).take j)
      (fun j => (lst a).length - j) ?_ 0 _ _ _ ?_
    · intro j env σ n ⟨h1, h2, h3, h4, h5⟩
      by_cases hj : j < (lst a).length
      · have hj' : (j : Int) < ((lst a).length : Int) := by omega
        have hx : (lst a)[j]? = some (lst a)[j] := List.getElem?_eq_getElem hj
        have hy : (lst b)[j]? = some (lst b)[j] := List.getElem?_eq_getElem (by omega)
        have hw : IntKind.i64.wrap ((j : Int) + 1) = ((j + 1 : Nat) : Int) := by rw [wrap_i64] <;> omega
        have ta := (List.take_append_getElem hj).symm
        have tb := (List.take_append_getElem (l := lst b) (i := j) (by omega)).symm
        generalize (lst a)[j] = x at *
        generalize (lst b)[j] = y at *
        by_cases hxy : x = y
        · have hde : decide ((⟨x.id, x.d⟩ : Hit) = ⟨y.id, y.d⟩) = true := by simp [hxy]
          simp +contextual -implicitDefEqProofs (maxSteps := 2000000) only [↓wP, wQ, wQ1, wQ2, wQ3, wR, boxE, partsOf, ↓reduceIte, Nat.reduceEqDiff, Nat.reduceAdd, Nat.reduceSub, Nat.reduceLeDiff, Nat.reduceLT, Nat.reduceMul, reduceCtorEq, Int.reduceBNe, Int.reduceBEq, Int.reduceLT, Int.reduceLE, Int.reduceGT, h2, h3, h4, hj', hx, hy, hw, hitV_eq, eqc_hit, hde, Bool.bne_true]
          exact ⟨j + 1, by omega, by omega, rfl, by rw [ta, tb, h5, hxy]⟩
        · have hde : decide ((⟨x.id, x.d⟩ : Hit) = ⟨y.id, y.d⟩) = false := decide_eq_false hxy
          have hne : lst a ≠ lst b := by
            intro h
            rw [h] at hx
            exact hxy (Option.some.inj (hx.symm.trans hy))
          simp +contextual -implicitDefEqProofs (maxSteps := 2000000) only [↓wP, wQ, wQ1, wQ2, wQ3, wR, boxE, partsOf, ↓reduceIte, Nat.reduceEqDiff, Nat.reduceAdd, Nat.reduceSub, Nat.reduceLeDiff, Nat.reduceLT, Nat.reduceMul, reduceCtorEq, Int.reduceBNe, Int.reduceBEq, Int.reduceLT, Int.reduceLE, Int.reduceGT, h2, h3, h4, hj', hx, hy, hw, hitV_eq, eqc_hit, hde, Bool.bne_true, hne]
      · have hj' : decide ((j : Int) < ((lst a).length : Int)) = false := by simp; omega
        have hjl : j = (lst a).length := by omega
        rw [hjl] at h5
        have heq : decide (lst a = lst b) = true := by simpa using take_eq hlen h5
        simp +contextual -implicitDefEqProofs (maxSteps := 2000000) only [↓wP, wQ, wQ1, wQ2, wQ3, wR, boxE, partsOf, ↓reduceIte, Nat.reduceEqDiff, Nat.reduceAdd, Nat.reduceSub, Nat.reduceLeDiff, Nat.reduceLT, Nat.reduceMul, reduceCtorEq, Int.reduceBNe, Int.reduceBEq, Int.reduceLT, Int.reduceLE, Int.reduceGT, h2, h3, hj', heq]
    · simp +contextual -implicitDefEqProofs (maxSteps := 2000000) only [↓wP, wQ, wQ1, wQ2, wQ3, wR, boxE, partsOf, ↓reduceIte, Nat.reduceEqDiff, Nat.reduceAdd, Nat.reduceSub, Nat.reduceLeDiff, Nat.reduceLT, Nat.reduceMul, reduceCtorEq, Int.reduceBNe, Int.reduceBEq, Int.reduceLT, Int.reduceLE, Int.reduceGT]
      simp
  · have hd : (((lst a).length : Int) != ((lst b).length : Int)) = true := by simp; omega
    have hne : lst a ≠ lst b := fun h => hlen (by rw [h])
    simp +contextual -implicitDefEqProofs (maxSteps := 2000000) only [↓wP, wQ, wQ1, wQ2, wQ3, wR, boxE, partsOf, ↓reduceIte, Nat.reduceEqDiff, Nat.reduceAdd, Nat.reduceSub, Nat.reduceLeDiff, Nat.reduceLT, Nat.reduceMul, reduceCtorEq, Int.reduceBNe, Int.reduceBEq, Int.reduceLT, Int.reduceLE, Int.reduceGT, hd, hne]
theorem r19 (a b : Option (List Hit)) (hl : (lst a).length < 9223372036854775808) : res T 19 [slV 2 hitV a, slV 2 hitV b] = some (.bool (decide (lst a = lst b))) := by
  refine run_res (run_pure (fn := g19) rfl rfl (by decide) ?_)
  simp only [g19, b19]
  by_cases hlen : (lst a).length = (lst b).length
  · have hd : (((lst a).length : Int) != ((lst b).length : Int)) = false := by simp [hlen]
    simp +contextual -implicitDefEqProofs (maxSteps := 2000000) only [↓wP, wQ, wQ1, wQ2, wQ3, wR, boxE, partsOf, ↓reduceIte, Nat.reduceEqDiff, Nat.reduceAdd, Nat.reduceSub, Nat.reduceLeDiff, Nat.reduceLT, Nat.reduceMul, reduceCtorEq, Int.reduceBNe, Int.reduceBEq, Int.reduceLT, Int.reduceLE, Int.reduceGT, hd]
    refine WC_for (lst a).length 0 (fun (j : Nat) env σ n => env 0 = slV 2 hitV a ∧ env 1 = slV 2 hitV b ∧ (lst a).take j = (lst b).take j) hl (by decide) (by decide) (fun _ _ => rfl) (fun _ _ _ => rfl) ?_ ?_ _ _ _ rfl rfl ?_
    · intro j env σ n hj h1 h2 ⟨h3, h4, h5⟩
      simp only [vl_tmp] at h2
      have hx : (lst a)[j]? = some (lst a)[j] := List.getElem?_eq_getElem hj
      have hy : (lst b)[j]? = some (lst b)[j] := List.getElem?_eq_getElem (by omega)
      have ta := (List.take_append_getElem hj).symm
      have tb := (List.take_append_getElem (l := lst b) (i := j) (by omega)).symm
      generalize (lst a)[j] = x at *
      generalize (lst b)[j] = y at *
      by_cases hxy : x = y
      · have hde : decide ((⟨x.id, x.d⟩ : Hit) = ⟨y.id, y.d⟩) = true := by simp [hxy]
        simp +contextual -implicitDefEqProofs (maxSteps := 2000000) only [↓wP, wQ, wQ1, wQ2, wQ3, wR, boxE, partsOf, ↓reduceIte, Nat.reduceEqDiff, Nat.reduceAdd, Nat.reduceSub, Nat.reduceLeDiff, Nat.reduceLT, Nat.reduceMul, reduceCtorEq, Int.reduceBNe, Int.reduceBEq, Int.reduceLT, Int.reduceLE, Int.reduceGT, h1, h2, h3, h4, hx, hy, hitV_eq, eqc_hit, hde, Bool.bne_true]
        rw [ta, tb, h5, hxy]
      · have hde : decide ((⟨x.id, x.d⟩ : Hit) = ⟨y.id, y.d⟩) = false := decide_eq_false hxy
        have hne : lst a ≠ lst b := by
          intro h
          rw [h] at hx
          exact hxy (Option.some.inj (hx.symm.trans hy))
        simp +contextual -implicitDefEqProofs (maxSteps := 2000000) only [↓wP, wQ, wQ1, wQ2, wQ3, wR, boxE, partsOf, ↓reduceIte, Nat.reduceEqDiff, Nat.reduceAdd, Nat.reduceSub, Nat.reduceLeDiff, Nat.reduceLT, Nat.reduceMul, reduceCtorEq, Int.reduceBNe, Int.reduceBEq, Int.reduceLT, Int.reduceLE, Int.reduceGT, h1, h2, h3, h4, hx, hy, hitV_eq, eqc_hit, hde, Bool.bne_true, hne]
    · intro env σ n ⟨h3, h4, h5⟩ h1 h2
      have heq := take_eq hlen h5
      simp +contextual -implicitDefEqProofs (maxSteps := 2000000) only [↓wP, wQ, wQ1, wQ2, wQ3, wR, boxE, partsOf, ↓reduceIte, Nat.reduceEqDiff, Nat.reduceAdd, Nat.reduceSub, Nat.reduceLeDiff, Nat.reduceLT, Nat.reduceMul, reduceCtorEq, Int.reduceBNe, Int.reduceBEq, Int.reduceLT, Int.reduceLE, Int.reduceGT, heq]
    · simp +contextual -implicitDefEqProofs (maxSteps := 2000000) only [↓wP, wQ, wQ1, wQ2, wQ3, wR, boxE, partsOf, ↓reduceIte, Nat.reduceEqDiff, Nat.reduceAdd, Nat.reduceSub, Nat.reduceLeDiff, Nat.reduceLT, Nat.reduceMul, reduceCtorEq, Int.reduceBNe, Int.reduceBEq, Int.reduceLT, Int.reduceLE, Int.reduceGT]
  · have hd : (((lst a).length : Int) != ((lst b).length : Int)) = true := by simp; omega
    have hne : lst a ≠ lst b := fun h => hlen (by rw [h])
    simp +contextual -implicitDefEqProofs (maxSteps := 2000000) only [↓wP, wQ, wQ1, wQ2, wQ3, wR, boxE, partsOf, ↓reduceIte, Nat.reduceEqDiff, Nat.reduceAdd, Nat.reduceSub, Nat.reduceLeDiff, Nat.reduceLT, Nat.reduceMul, reduceCtorEq, Int.reduceBNe, Int.reduceBEq, Int.reduceLT, Int.reduceLE, Int.reduceGT, hd, hne]

theorem hs_slV (o : Option (List Hit)) : slV 2 hitV o = slV 2 _root_.id (o.map hs) := by cases o <;> simp [slV, hs]
def Hf (σ : Sto) (v : V) (l : List Hit) : Prop := ∃ o, lst o = l ∧ frz σ 12 v = some (slV 2 hitV o)
theorem Hf.tree (σ : Sto) (o : Option (List Hit)) : Hf σ (slV 2 hitV o) (lst o) := ⟨o, rfl, frz_slV 2 _ o σ 11⟩
theorem Hf.row {σ : Sto} {id N : Nat} {l : List Hit} (h : σ id = some (.row 2 (hs l))) (hN : l.length = N) : Hf σ (.ref id 0 N 2) l := by
  refine ⟨some l, rfl, ?_⟩
  have h' : σ id = some (.row 2 (rw' l.toArray)) := by rw [rw_hs]; exact h
  have := frz_row (d := l.toArray) (N := N) (id := id) (σ := σ) (by simpa using hN) h' 9
  rw [rw_hs] at this
  exact this

theorem f17 {σ : Sto} {v w : V} {a b : List Hit} (ha : Hf σ v a) (hb : Hf σ w b) (hl : a.length < 9223372036854775808) (fs : Bool) (n lk : Nat) : callE T fs 17 [v, w] σ n lk = some (.bool (decide (a = b)), σ, n) := by
  obtain ⟨o, rfl, h1⟩ := ha
  obtain ⟨q, rfl, h2⟩ := hb
  have e : [v, w].mapM (frz σ 12) = some [slV 2 hitV o, slV 2 hitV q] := by simp only [List.mapM_cons, List.mapM_nil, h1, h2]; rfl
  rw [callE_flat (by decide) e (r17 o q hl) rfl]; rfl

theorem r41 (a b c d : Int) : res T 41 [.agg [.int .u64 a, .int .u64 b], .agg [.int .u64 c, .int .u64 d]] = some (.bool (ahead ⟨a, b⟩ ⟨c, d⟩)) := by
  refine run_res (run_pure (fn := g41) rfl rfl (by decide) ?_)
  simp only [g41, b41]
  have h1 : ahead ⟨a, b⟩ ⟨c, d⟩ = (decide (b < d) || (b == d && decide (a < c))) := rfl
  rw [h1]
  by_cases e1 : b < d
  · simp +contextual -implicitDefEqProofs (maxSteps := 2000000) only [↓wP, wQ, wQ1, wQ2, wQ3, wR, boxE, partsOf, ↓reduceIte, Nat.reduceEqDiff, Nat.reduceAdd, Nat.reduceSub, Nat.reduceLeDiff, Nat.reduceLT, Nat.reduceMul, reduceCtorEq, Int.reduceBNe, Int.reduceBEq, Int.reduceLT, Int.reduceLE, Int.reduceGT, e1]
  · by_cases e2 : b = d
    · simp +contextual -implicitDefEqProofs (maxSteps := 2000000) only [↓wP, wQ, wQ1, wQ2, wQ3, wR, boxE, partsOf, ↓reduceIte, Nat.reduceEqDiff, Nat.reduceAdd, Nat.reduceSub, Nat.reduceLeDiff, Nat.reduceLT, Nat.reduceMul, reduceCtorEq, Int.reduceBNe, Int.reduceBEq, Int.reduceLT, Int.reduceLE, Int.reduceGT, e1, e2]
    · have e3 : (b == d) = false := by simp [e2]
      simp +contextual -implicitDefEqProofs (maxSteps := 2000000) only [↓wP, wQ, wQ1, wQ2, wQ3, wR, boxE, partsOf, ↓reduceIte, Nat.reduceEqDiff, Nat.reduceAdd, Nat.reduceSub, Nat.reduceLeDiff, Nat.reduceLT, Nat.reduceMul, reduceCtorEq, Int.reduceBNe, Int.reduceBEq, Int.reduceLT, Int.reduceLE, Int.reduceGT, e1, e3]

theorem f41 (a b c d : Int) (fs : Bool) (σ : Sto) (n lk : Nat) : callE T fs 41 [.agg [.int .u64 a, .int .u64 b], .agg [.int .u64 c, .int .u64 d]] σ n lk = some (.bool (ahead ⟨a, b⟩ ⟨c, d⟩), σ, n) :=
  callE_tr (by decide) (r41 a b c d) (by simp [Tr, Tr_slV]) rfl fs σ n lk

def pos (h : Hit) (s : List Hit) : Nat := (s.takeWhile fun x => !ahead h x).length
theorem pos_le (h : Hit) (s : List Hit) : pos h s ≤ s.length := by
  unfold pos; exact (List.takeWhile_sublist _).length_le
theorem pos_cons (h x : Hit) (s : List Hit) : pos h (x :: s) = if ahead h x = true then 0 else pos h s + 1 := by
  unfold pos
  simp only [List.takeWhile_cons]
  by_cases hx : ahead h x = true
  · simp [hx]
  · simp only [Bool.not_eq_true] at hx
    simp [hx]
theorem pos_lt {h : Hit} : ∀ {s : List Hit} {i : Nat} (hi : i < pos h s) (hl : i < s.length), ahead h s[i] = false
  | [], i, _, hl => absurd hl (by simp)
  | x :: s, i, hi, hl => by
    rw [pos_cons] at hi
    split at hi
    · omega
    · rename_i hx
      cases i with
      | zero => simpa using hx
      | succ i => exact pos_lt (s := s) (by omega) (by simpa using hl)
theorem pos_at {h : Hit} : ∀ {s : List Hit} (hl : pos h s < s.length), ahead h s[pos h s] = true
  | x :: s, hl => by
    by_cases hx : ahead h x = true
    · have e : pos h (x :: s) = 0 := by rw [pos_cons, if_pos hx]
      simp [e, hx]
    · have e : pos h (x :: s) = pos h s + 1 := by rw [pos_cons, if_neg hx]
      have hl' : pos h s < s.length := by rw [e, List.length_cons] at hl; omega
      simp only [e, List.getElem_cons_succ]
      exact pos_at hl'
theorem ins_eq (h : Hit) : ∀ s : List Hit, ins h s = s.take (pos h s) ++ h :: s.drop (pos h s)
  | [] => rfl
  | x :: s => by
    unfold ins pos
    simp only [List.takeWhile_cons]
    by_cases hx : ahead h x = true
    · simp [hx]
    · simp only [Bool.not_eq_true] at hx
      simp only [hx, Bool.false_eq_true, if_false, Bool.not_false, if_true, List.length_cons, List.take_succ_cons, List.drop_succ_cons, List.cons_append]
      rw [ins_eq h s]; rfl

end Go.Q.S11
end

section
/- Distances. -/
set_option linter.unusedSimpArgs false
set_option linter.unusedVariables false
namespace Go.Q.S11
open Go.Q

def vecV (o : Option (List Int)) : V := slV 1 i32V o
theorem vecV_eq (o : Option (List Int)) : vecV o = slV 1 i32V o := rfl

theorem ia1 {β : Type} (sz : Nat) (f : β → V) (o : Option (List β)) (k : IntKind) : iaddrE sz (slV sz f o) (.int k 1) = ((lst o)[1]?).map fun e => .box (f e).cells := iaddrE_slV sz f o k 1

theorem r71 (v a b : Option (List Int)) : res T 71 [slV 1 i32V v, .box [slV 1 vecV (some [a, b])]] = some (.bool (((lst v).length : Int) != ((lst a).length : Int))) := by
  refine run_res (run_pure (fn := g71) rfl rfl (by decide) ?_)
  simp only [g71, b71]
  have h0 : (lst (some [a, b]))[0]? = some a := rfl
  simp +contextual -implicitDefEqProofs (maxSteps := 2000000) only [↓wP, wQ, wQ1, wQ2, wQ3, wR, boxE, partsOf, ↓reduceIte, Nat.reduceEqDiff, Nat.reduceAdd, Nat.reduceSub, Nat.reduceLeDiff, Nat.reduceLT, Nat.reduceMul, reduceCtorEq, Int.reduceBNe, Int.reduceBEq, Int.reduceLT, Int.reduceLE, Int.reduceGT, h0, vecV_eq]

theorem f71 (v a b : Option (List Int)) (fs : Bool) (σ : Sto) (n lk : Nat) : callE T fs 71 [slV 1 i32V v, .box [slV 1 vecV (some [a, b])]] σ n lk = some (.bool (((lst v).length : Int) != ((lst a).length : Int)), σ, n) :=
  callE_tr (by decide) (r71 v a b) (by simp [Tr, Tr_slV]) rfl fs σ n lk

def vAll (a b : Option (List Int)) : Int := if okV a && okV b then (if (lst a).length = (lst b).length then 0 else 151) else 150

theorem r88 (a b : Option (List Int)) : res T 88 [slV 1 vecV (some [a, b]), .fn 71 [.box [slV 1 vecV (some [a, b])]]] = some (.int .i64 (if (lst a).length = (lst b).length then -1 else 1)) := by
  refine run_res (run_pure (fn := g88) rfl rfl (by decide) ?_)
  simp only [g88, b88]
  have h0 : (lst (some [a, b]))[0]? = some a := rfl
  have h1 : (lst (some [a, b]))[1]? = some b := rfl
  have f0 := f71 a a b
  have f1 := f71 b a b
  have e0 : (((lst a).length : Int) != ((lst a).length : Int)) = false := by simp
  rw [e0] at f0
  simp +contextual -implicitDefEqProofs (maxSteps := 2000000) only [↓wP, wQ, wQ1, wQ2, wQ3, wR, boxE, partsOf, ↓reduceIte, Nat.reduceEqDiff, Nat.reduceAdd, Nat.reduceSub, Nat.reduceLeDiff, Nat.reduceLT, Nat.reduceMul, reduceCtorEq, Int.reduceBNe, Int.reduceBEq, Int.reduceLT, Int.reduceLE, Int.reduceGT]
  refine WC_for 2 0 (fun (j : Nat) env _ _ => env 0 = slV 1 vecV (some [a, b]) ∧ env 1 = .fn 71 [.box [slV 1 vecV (some [a, b])]] ∧ (j = 2 → (lst a).length = (lst b).length)) (by decide) (by decide) (by decide) (fun _ _ => rfl) (fun _ _ _ => rfl) ?_ ?_ _ _ _ rfl rfl ?_
  · intro j env σ n hj g1 g2 ⟨g3, g4, g5⟩
    simp only [vl_tmp] at g2
    obtain rfl | rfl : j = 0 ∨ j = 1 := by omega
    · simp only [Int.natCast_zero] at g1
      simp +contextual -implicitDefEqProofs (maxSteps := 2000000) only [↓wP, wQ, wQ1, wQ2, wQ3, wR, boxE, partsOf, ↓reduceIte, Nat.reduceEqDiff, Nat.reduceAdd, Nat.reduceSub, Nat.reduceLeDiff, Nat.reduceLT, Nat.reduceMul, reduceCtorEq, Int.reduceBNe, Int.reduceBEq, Int.reduceLT, Int.reduceLE, Int.reduceGT, g1, g2, g3, g4, h0, vecV_eq, f0]
      simp
    · simp only [Int.natCast_one] at g1
      by_cases hl : (lst a).length = (lst b).length
      · have e1 : (((lst b).length : Int) != ((lst a).length : Int)) = false := by simp [hl]
        rw [e1] at f1
        simp +contextual -implicitDefEqProofs (maxSteps := 2000000) only [↓wP, wQ, wQ1, wQ2, wQ3, wR, boxE, partsOf, ↓reduceIte, Nat.reduceEqDiff, Nat.reduceAdd, Nat.reduceSub, Nat.reduceLeDiff, Nat.reduceLT, Nat.reduceMul, reduceCtorEq, Int.reduceBNe, Int.reduceBEq, Int.reduceLT, Int.reduceLE, Int.reduceGT, g1, g2, g3, g4, ia1, h1, vecV_eq, f1]
        simp [hl]
      · have e1 : (((lst b).length : Int) != ((lst a).length : Int)) = true := by simp; omega
        rw [e1] at f1
        simp +contextual -implicitDefEqProofs (maxSteps := 2000000) only [↓wP, wQ, wQ1, wQ2, wQ3, wR, boxE, partsOf, ↓reduceIte, Nat.reduceEqDiff, Nat.reduceAdd, Nat.reduceSub, Nat.reduceLeDiff, Nat.reduceLT, Nat.reduceMul, reduceCtorEq, Int.reduceBNe, Int.reduceBEq, Int.reduceLT, Int.reduceLE, Int.reduceGT, g1, g2, g3, g4, ia1, h1, vecV_eq, f1, hl]
  · intro env σ n ⟨g3, g4, g5⟩ g1 g2
    have hl := g5 rfl
    simp +contextual -implicitDefEqProofs (maxSteps := 2000000) only [↓wP, wQ, wQ1, wQ2, wQ3, wR, boxE, partsOf, ↓reduceIte, Nat.reduceEqDiff, Nat.reduceAdd, Nat.reduceSub, Nat.reduceLeDiff, Nat.reduceLT, Nat.reduceMul, reduceCtorEq, Int.reduceBNe, Int.reduceBEq, Int.reduceLT, Int.reduceLE, Int.reduceGT, hl]
  · simp +contextual -implicitDefEqProofs (maxSteps := 2000000) only [↓wP, wQ, wQ1, wQ2, wQ3, wR, boxE, partsOf, ↓reduceIte, Nat.reduceEqDiff, Nat.reduceAdd, Nat.reduceSub, Nat.reduceLeDiff, Nat.reduceLT, Nat.reduceMul, reduceCtorEq, Int.reduceBNe, Int.reduceBEq, Int.reduceLT, Int.reduceLE, Int.reduceGT]
    simp

theorem f88 (a b : Option (List Int)) (fs : Bool) (σ : Sto) (n lk : Nat) : callE T fs 88 [slV 1 vecV (some [a, b]), .fn 71 [.box [slV 1 vecV (some [a, b])]]] σ n lk = some (.int .i64 (if (lst a).length = (lst b).length then -1 else 1), σ, n) :=
  callE_tr (by decide) (r88 a b) (by simp [Tr, Tr_slV]) rfl fs σ n lk

theorem r72 (a b : Option (List Int)) : res T 72 [slV 1 vecV (some [a, b]), .fn 71 [.box [slV 1 vecV (some [a, b])]]] = some (.bool (decide ((lst a).length ≠ (lst b).length))) := by
  refine run_res (run_pure (fn := g72) rfl rfl (by decide) ?_)
  simp only [g72, b72]
  have f := f88 a b
  by_cases hl : (lst a).length = (lst b).length
  · have hd : decide ((lst a).length ≠ (lst b).length) = false := by simp [hl]
    rw [if_pos hl] at f
    simp +contextual -implicitDefEqProofs (maxSteps := 2000000) only [↓wP, wQ, wQ1, wQ2, wQ3, wR, boxE, partsOf, ↓reduceIte, Nat.reduceEqDiff, Nat.reduceAdd, Nat.reduceSub, Nat.reduceLeDiff, Nat.reduceLT, Nat.reduceMul, reduceCtorEq, Int.reduceBNe, Int.reduceBEq, Int.reduceLT, Int.reduceLE, Int.reduceGT, f, hd]
  · have hd : decide ((lst a).length ≠ (lst b).length) = true := by simp [hl]
    rw [if_neg hl] at f
    simp +contextual -implicitDefEqProofs (maxSteps := 2000000) only [↓wP, wQ, wQ1, wQ2, wQ3, wR, boxE, partsOf, ↓reduceIte, Nat.reduceEqDiff, Nat.reduceAdd, Nat.reduceSub, Nat.reduceLeDiff, Nat.reduceLT, Nat.reduceMul, reduceCtorEq, Int.reduceBNe, Int.reduceBEq, Int.reduceLT, Int.reduceLE, Int.reduceGT, f, hd]

theorem f72 (a b : Option (List Int)) (fs : Bool) (σ : Sto) (n lk : Nat) : callE T fs 72 [slV 1 vecV (some [a, b]), .fn 71 [.box [slV 1 vecV (some [a, b])]]] σ n lk = some (.bool (decide ((lst a).length ≠ (lst b).length)), σ, n) :=
  callE_tr (by decide) (r72 a b) (by simp [Tr, Tr_slV]) rfl fs σ n lk

theorem r45 (a b : Option (List Int)) (ha : (lst a).length < 9223372036854775808) (hb : (lst b).length < 9223372036854775808) : res T 45 [slV 1 vecV (some [a, b])] = some (.int .i64 (vAll a b)) := by
  refine run_res (run_pure (fn := g45) rfl rfl (by decide) ?_)
  simp only [g45, b45]
  have h0 : (lst (some [a, b]))[0]? = some a := rfl
  have h1 : (lst (some [a, b]))[1]? = some b := rfl
  have f0 := f38 a ha
  have f1 := f38 b hb
  have f2 := f72 a b
  simp +contextual -implicitDefEqProofs (maxSteps := 2000000) only [↓wP, wQ, wQ1, wQ2, wQ3, wR, boxE, partsOf, ↓reduceIte, Nat.reduceEqDiff, Nat.reduceAdd, Nat.reduceSub, Nat.reduceLeDiff, Nat.reduceLT, Nat.reduceMul, reduceCtorEq, Int.reduceBNe, Int.reduceBEq, Int.reduceLT, Int.reduceLE, Int.reduceGT]
  refine WC_for 2 0 (fun (j : Nat) env σ n => 1 ≤ n ∧ σ 0 = some (.row 1 [slV 1 vecV (some [a, b])]) ∧ env 1 = .ptr 0 1 0 0 ∧ env 7 = slV 1 vecV (some [a, b]) ∧ (1 ≤ j → okV a = true) ∧ (2 ≤ j → okV b = true)) (by decide) (by decide) (by decide) (fun _ _ => rfl) (fun _ _ _ => rfl) ?_ ?_ _ _ _ rfl rfl ?_
  · intro j env σ n hj g1 g2 ⟨g3, g4, g5, g6, g7, g8⟩
    simp only [vl_tmp] at g2
    obtain rfl | rfl : j = 0 ∨ j = 1 := by omega
    · simp only [Int.natCast_zero] at g1
      cases ho : okV a
      · rw [ho] at f0
        have hv : vAll a b = 150 := by simp [vAll, ho]
        simp +contextual -implicitDefEqProofs (maxSteps := 2000000) only [↓wP, wQ, wQ1, wQ2, wQ3, wR, boxE, partsOf, ↓reduceIte, Nat.reduceEqDiff, Nat.reduceAdd, Nat.reduceSub, Nat.reduceLeDiff, Nat.reduceLT, Nat.reduceMul, reduceCtorEq, Int.reduceBNe, Int.reduceBEq, Int.reduceLT, Int.reduceLE, Int.reduceGT, g1, g2, g3, g4, g5, g6, h0, vecV_eq, f0, hv]
      · rw [ho] at f0
        simp +contextual -implicitDefEqProofs (maxSteps := 2000000) only [↓wP, wQ, wQ1, wQ2, wQ3, wR, boxE, partsOf, ↓reduceIte, Nat.reduceEqDiff, Nat.reduceAdd, Nat.reduceSub, Nat.reduceLeDiff, Nat.reduceLT, Nat.reduceMul, reduceCtorEq, Int.reduceBNe, Int.reduceBEq, Int.reduceLT, Int.reduceLE, Int.reduceGT, g1, g2, g3, g4, g5, g6, h0, vecV_eq, f0]
        simp
    · simp only [Int.natCast_one] at g1
      cases ho : okV b
      · rw [ho] at f1
        have hv : vAll a b = 150 := by simp [vAll, ho]
        simp +contextual -implicitDefEqProofs (maxSteps := 2000000) only [↓wP, wQ, wQ1, wQ2, wQ3, wR, boxE, partsOf, ↓reduceIte, Nat.reduceEqDiff, Nat.reduceAdd, Nat.reduceSub, Nat.reduceLeDiff, Nat.reduceLT, Nat.reduceMul, reduceCtorEq, Int.reduceBNe, Int.reduceBEq, Int.reduceLT, Int.reduceLE, Int.reduceGT, g1, g2, g3, g4, g5, g6, ia1, h1, vecV_eq, f1, hv]
      · rw [ho] at f1
        simp +contextual -implicitDefEqProofs (maxSteps := 2000000) only [↓wP, wQ, wQ1, wQ2, wQ3, wR, boxE, partsOf, ↓reduceIte, Nat.reduceEqDiff, Nat.reduceAdd, Nat.reduceSub, Nat.reduceLeDiff, Nat.reduceLT, Nat.reduceMul, reduceCtorEq, Int.reduceBNe, Int.reduceBEq, Int.reduceLT, Int.reduceLE, Int.reduceGT, g1, g2, g3, g4, g5, g6, ia1, h1, vecV_eq, f1]
        simp [g7]
  · intro env σ n ⟨g3, g4, g5, g6, g7, g8⟩ g1 g2
    have oa := g7 (by decide)
    have ob := g8 (by decide)
    have hc : frz σ 12 (.fn 71 [.ptr 0 1 0 0]) = some (.fn 71 [.box [slV 1 vecV (some [a, b])]]) := by
      simp [frz, rowAt, g4, slV_some, V.cells]
    have hs : frz σ 12 (slV 1 vecV (some [a, b])) = some (slV 1 vecV (some [a, b])) := frz_slV 1 vecV _ σ 11
    have e : [slV 1 vecV (some [a, b]), V.fn 71 [.ptr 0 1 0 0]].mapM (frz σ 12) = some [slV 1 vecV (some [a, b]), .fn 71 [.box [slV 1 vecV (some [a, b])]]] := by
      simp only [List.mapM_cons, List.mapM_nil, hs, hc]; rfl
    have f72' := fun n lk => callE_flat (fs := true) (n := n) (lk := lk) (by decide) e (r72 a b) rfl
    by_cases hl : (lst a).length = (lst b).length
    · have hv : vAll a b = 0 := by simp [vAll, oa, ob, hl]
      have hd : decide ((lst a).length ≠ (lst b).length) = false := by simp [hl]
      rw [hd] at f72'
      simp only [thaw] at f72'
      simp +contextual -implicitDefEqProofs (maxSteps := 2000000) only [↓wP, wQ, wQ1, wQ2, wQ3, wR, boxE, partsOf, ↓reduceIte, Nat.reduceEqDiff, Nat.reduceAdd, Nat.reduceSub, Nat.reduceLeDiff, Nat.reduceLT, Nat.reduceMul, reduceCtorEq, Int.reduceBNe, Int.reduceBEq, Int.reduceLT, Int.reduceLE, Int.reduceGT, g4, g5, hv, f72']
    · have hv : vAll a b = 151 := by simp [vAll, oa, ob, hl]
      have hd : decide ((lst a).length ≠ (lst b).length) = true := by simp [hl]
      rw [hd] at f72'
      simp only [thaw] at f72'
      simp +contextual -implicitDefEqProofs (maxSteps := 2000000) only [↓wP, wQ, wQ1, wQ2, wQ3, wR, boxE, partsOf, ↓reduceIte, Nat.reduceEqDiff, Nat.reduceAdd, Nat.reduceSub, Nat.reduceLeDiff, Nat.reduceLT, Nat.reduceMul, reduceCtorEq, Int.reduceBNe, Int.reduceBEq, Int.reduceLT, Int.reduceLE, Int.reduceGT, g4, g5, hv, f72']
  · simp +contextual -implicitDefEqProofs (maxSteps := 2000000) only [↓wP, wQ, wQ1, wQ2, wQ3, wR, boxE, partsOf, ↓reduceIte, Nat.reduceEqDiff, Nat.reduceAdd, Nat.reduceSub, Nat.reduceLeDiff, Nat.reduceLT, Nat.reduceMul, reduceCtorEq, Int.reduceBNe, Int.reduceBEq, Int.reduceLT, Int.reduceLE, Int.reduceGT]
    simp

theorem f45 (a b : Option (List Int)) (ha : (lst a).length < 9223372036854775808) (hb : (lst b).length < 9223372036854775808) (fs : Bool) (σ : Sto) (n lk : Nat) : callE T fs 45 [slV 1 vecV (some [a, b])] σ n lk = some (.int .i64 (vAll a b), σ, n) :=
  callE_tr (by decide) (r45 a b ha hb) (by simp [Tr, Tr_slV]) rfl fs σ n lk
end Go.Q.S11
end

section
/- Distances, walked. -/
set_option linter.unusedSimpArgs false
set_option linter.unusedVariables false
namespace Go.Q.S11
open Go.Q

def sq (a b : List Int) (j : Nat) : Int := ((a.zip b).take j).foldl (fun n p => n + (p.1 - p.2) * (p.1 - p.2)) 0
theorem sq_zero (a b : List Int) : sq a b 0 = 0 := by simp [sq]
theorem sq_succ (a b : List Int) {j : Nat} (ha : j < a.length) (hb : j < b.length) : sq a b (j + 1) = sq a b j + (a[j] - b[j]) * (a[j] - b[j]) := by
  unfold sq
  have hz : j < (a.zip b).length := by rw [List.length_zip]; omega
  rw [← List.take_append_getElem hz, List.foldl_append]
  simp
theorem sq_le {a b : List Int} (ha : a.all okI = true) (hb : b.all okI = true) : ∀ j, j ≤ a.length → j ≤ b.length → 0 ≤ sq a b j ∧ sq a b j ≤ j * 4611686009837453316
  | 0, _, _ => by simp [sq_zero]
  | j + 1, h1, h2 => by
    obtain ⟨i1, i2⟩ := sq_le ha hb j (by omega) (by omega)
    have ha' := List.all_eq_true.1 ha a[j] (List.getElem_mem _)
    have hb' := List.all_eq_true.1 hb b[j] (List.getElem_mem _)
    rw [sq_succ a b (by omega) (by omega)]
    simp only [okI, Bool.and_eq_true, decide_eq_true_eq] at ha' hb'
    have k1 : 0 ≤ (a[j] - b[j]) * (a[j] - b[j]) := by
      rcases Int.le_total 0 (a[j] - b[j]) with h | h
      · exact Int.mul_nonneg h h
      · exact Int.mul_nonneg_of_nonpos_of_nonpos h h
    have k2 : (a[j] - b[j]) * (a[j] - b[j]) ≤ 2147483646 * 2147483646 := by
      rcases Int.le_total 0 (a[j] - b[j]) with h | h
      · exact Int.mul_le_mul (by omega) (by omega) h (by omega)
      · have : (a[j] - b[j]) * (a[j] - b[j]) = (b[j] - a[j]) * (b[j] - a[j]) := by
          rw [← Int.neg_mul_neg]; congr 1 <;> omega
        rw [this]
        exact Int.mul_le_mul (by omega) (by omega) (by omega) (by omega)
    push_cast
    omega

theorem raw89 (a b : Option (List Int)) (hl : (lst a).length = (lst b).length) (hlt : (lst a).length < 4611686018427387904) (ha : (lst a).all okI = true) (hb : (lst b).all okI = true) (l : Nat) (J : Nat → Sto → Nat → Prop)
    (hy : ∀ j (hj : j < (lst a).length) σ n, J j σ n → yieldW (run T) l [.int .i64 (lst a)[j], .int .i64 ((lst b)[j]'(by omega))] σ n 0 (fun y σ' n' => y = .bool true ∧ J (j + 1) σ' n'))
    (σ : Sto) (n : Nat) (h0 : J 0 σ n) : run T (.raw 89 [.yld l, .box [slV 1 i32V a], .box [slV 1 i32V b]] σ n 0) (memQ fun _ σ' n' => J (lst a).length σ' n') := by
  refine run_rawE (fn := g89) rfl rfl ?_
  simp only [g89, b89]
  simp +contextual -implicitDefEqProofs (maxSteps := 2000000) only [↓wP, wQ, wQ1, wQ2, wQ3, wR, boxE, partsOf, ↓reduceIte, Nat.reduceEqDiff, Nat.reduceAdd, Nat.reduceSub, Nat.reduceLeDiff, Nat.reduceLT, Nat.reduceMul, reduceCtorEq, Int.reduceBNe, Int.reduceBEq, Int.reduceLT, Int.reduceLE, Int.reduceGT]
  refine WC_for (lst a).length 0 (fun (j : Nat) env σ n => env 0 = .yld l ∧ env 2 = .box [slV 1 i32V b] ∧ env 6 = slV 1 i32V a ∧ J j σ n) (by omega) (by decide) (by decide) (fun _ _ => rfl) (fun _ _ _ => rfl) ?_ ?_ _ _ _ rfl rfl ?_
  · intro j env σ n hj h1 h2 ⟨h3, h4, h5, h6⟩
    simp only [vl_tmp] at h2
    have hx : (lst a)[j]? = some (lst a)[j] := List.getElem?_eq_getElem hj
    have hz : (lst b)[j]? = some ((lst b)[j]'(by omega)) := List.getElem?_eq_getElem (by omega)
    have hq := hy j hj σ n h6
    have ha' := List.all_eq_true.1 ha (lst a)[j] (List.getElem_mem _)
    have hb' := List.all_eq_true.1 hb ((lst b)[j]'(by omega)) (List.getElem_mem _)
    generalize (lst a)[j] = x at *
    generalize (lst b)[j]'(by omega) = y at *
    simp only [okI, Bool.and_eq_true, decide_eq_true_eq] at ha' hb'
    have w1 : IntKind.i64.wrap x = x := by rw [wrap_i64] <;> omega
    have w2 : IntKind.i64.wrap y = y := by rw [wrap_i64] <;> omega
    simp +contextual -implicitDefEqProofs (maxSteps := 2000000) only [↓wP, wQ, wQ1, wQ2, wQ3, wR, boxE, partsOf, ↓reduceIte, Nat.reduceEqDiff, Nat.reduceAdd, Nat.reduceSub, Nat.reduceLeDiff, Nat.reduceLT, Nat.reduceMul, reduceCtorEq, Int.reduceBNe, Int.reduceBEq, Int.reduceLT, Int.reduceLE, Int.reduceGT, h1, h2, h3, h4, h5, hx, hz, i32V, w1, w2]
    refine stepW_yld (yieldW_mono (fun _ _ x => x) run_mono (fun y σ' n' ⟨hy1, hy2⟩ => ?_) hq)
    subst hy1
    simp +contextual -implicitDefEqProofs (maxSteps := 2000000) only [↓wP, wQ, wQ1, wQ2, wQ3, wR, boxE, partsOf, ↓reduceIte, Nat.reduceEqDiff, Nat.reduceAdd, Nat.reduceSub, Nat.reduceLeDiff, Nat.reduceLT, Nat.reduceMul, reduceCtorEq, Int.reduceBNe, Int.reduceBEq, Int.reduceLT, Int.reduceLE, Int.reduceGT, h1, h2, h3, h4, h5]
    exact hy2
  · intro env σ n ⟨h3, h4, h5, h6⟩ h1 h2
    simp +contextual -implicitDefEqProofs (maxSteps := 2000000) only [↓wP, wQ, wQ1, wQ2, wQ3, wR, boxE, partsOf, ↓reduceIte, Nat.reduceEqDiff, Nat.reduceAdd, Nat.reduceSub, Nat.reduceLeDiff, Nat.reduceLT, Nat.reduceMul, reduceCtorEq, Int.reduceBNe, Int.reduceBEq, Int.reduceLT, Int.reduceLE, Int.reduceGT]
    exact h6
  · simp +contextual -implicitDefEqProofs (maxSteps := 2000000) only [↓wP, wQ, wQ1, wQ2, wQ3, wR, boxE, partsOf, ↓reduceIte, Nat.reduceEqDiff, Nat.reduceAdd, Nat.reduceSub, Nat.reduceLeDiff, Nat.reduceLT, Nat.reduceMul, reduceCtorEq, Int.reduceBNe, Int.reduceBEq, Int.reduceLT, Int.reduceLE, Int.reduceGT]
    exact h0

theorem r73 (a b : Option (List Int)) : res T 73 [slV 1 i32V a, slV 1 i32V b] = some (.fn 89 [.box [slV 1 i32V a], .box [slV 1 i32V b]]) := by
  refine run_res (run_pure (fn := g73) rfl rfl (by decide) ?_)
  simp only [g73, b73]
  simp +contextual -implicitDefEqProofs (maxSteps := 2000000) only [↓wP, wQ, wQ1, wQ2, wQ3, wR, boxE, partsOf, ↓reduceIte, Nat.reduceEqDiff, Nat.reduceAdd, Nat.reduceSub, Nat.reduceLeDiff, Nat.reduceLT, Nat.reduceMul, reduceCtorEq, Int.reduceBNe, Int.reduceBEq, Int.reduceLT, Int.reduceLE, Int.reduceGT]

theorem f73 (a b : Option (List Int)) (fs : Bool) (σ : Sto) (n lk : Nat) : callE T fs 73 [slV 1 i32V a, slV 1 i32V b] σ n lk = some (.fn 89 [.box [slV 1 i32V a], .box [slV 1 i32V b]], σ, n) :=
  callE_tr (by decide) (r73 a b) (by simp [Tr, Tr_slV]) rfl fs σ n lk

def asg46 : AC := (.seq (.reg [⟨(some 6), none, .mov (.tmp 12)⟩]) (.reg [⟨(some 7), none, .mov (.tmp 13)⟩]))
def bd46 : AC := (.block 1 (.seq (.reg [⟨(some 14), none, .mov (.tmp 6)⟩,
       ⟨(some 15), none, .mov (.tmp 7)⟩,
       ⟨(some 16), none, .bin .sub (.tmp 14) (.tmp 15)⟩,
       ⟨(some 17), none, .mov (.tmp 7)⟩,
       ⟨(some 18), none, .mov (.tmp 6)⟩,
       ⟨(some 19), none, .bin .sub (.tmp 17) (.tmp 18)⟩,
       ⟨(some 20), none, .max [(.tmp 16), (.tmp 19)]⟩,
       ⟨(some 21), none, .conv .u64 (.tmp 20)⟩,
       ⟨(some 8), none, .mov (.tmp 21)⟩])
     (.reg [⟨(some 22), none, .load false 1 (.tmp 5)⟩,
       ⟨(some 23), none, .mov (.tmp 8)⟩,
       ⟨(some 24), none, .mov (.tmp 8)⟩,
       ⟨(some 25), none, .bin .mul (.tmp 23) (.tmp 24)⟩,
       ⟨(some 26), none, .bin .add (.tmp 22) (.tmp 25)⟩,
       ⟨none, none, .store 1 (.tmp 5) (.tmp 26)⟩])))
theorem w_asg46 (env : Nat → V) (σ : Sto) (n lk : Nat) (Q : Ex → St → Prop) : WC T asg46 env σ n lk Q = WC T (.seq (.reg [⟨(some 6), none, .mov (.tmp 12)⟩]) (.reg [⟨(some 7), none, .mov (.tmp 13)⟩])) env σ n lk Q := rfl
theorem w_bd46 (env : Nat → V) (σ : Sto) (n lk : Nat) (Q : Ex → St → Prop) : WC T bd46 env σ n lk Q = WC T (.block 1 (.seq (.reg [⟨(some 14), none, .mov (.tmp 6)⟩,
       ⟨(some 15), none, .mov (.tmp 7)⟩,
       ⟨(some 16), none, .bin .sub (.tmp 14) (.tmp 15)⟩,
       ⟨(some 17), none, .mov (.tmp 7)⟩,
       ⟨(some 18), none, .mov (.tmp 6)⟩,
       ⟨(some 19), none, .bin .sub (.tmp 17) (.tmp 18)⟩,
       ⟨(some 20), none, .max [(.tmp 16), (.tmp 19)]⟩,
       ⟨(some 21), none, .conv .u64 (.tmp 20)⟩,
       ⟨(some 8), none, .mov (.tmp 21)⟩])
     (.reg [⟨(some 22), none, .load false 1 (.tmp 5)⟩,
       ⟨(some 23), none, .mov (.tmp 8)⟩,
       ⟨(some 24), none, .mov (.tmp 8)⟩,
       ⟨(some 25), none, .bin .mul (.tmp 23) (.tmp 24)⟩,
       ⟨(some 26), none, .bin .add (.tmp 22) (.tmp 25)⟩,
       ⟨none, none, .store 1 (.tmp 5) (.tmp 26)⟩]))) env σ n lk Q := rfl

def Jd (a b : List Int) (env : Nat → V) (j : Nat) (σ : Sto) (n : Nat) : Prop :=
  1 < n ∧ σ 0 = some (.row 1 [.int .u64 (sq a b j)]) ∧ σ 1 = some (.loop env [12, 13] asg46 bd46 .ready none)

theorem hy46 (a b : List Int) (hl : a.length = b.length) (h4 : a.length ≤ 4) (ha : a.all okI = true) (hb : b.all okI = true) (env : Nat → V) (he : env 5 = .ptr 0 1 0 0) (j : Nat) (hj : j < a.length) (σ : Sto) (n : Nat) (hJ : Jd a b env j σ n) :
    yieldW (run T) 1 [.int .i64 a[j], .int .i64 (b[j]'(by omega))] σ n 0 (fun y σ' n' => y = .bool true ∧ Jd a b env (j + 1) σ' n') := by
  obtain ⟨h1, h2, h3⟩ := hJ
  refine yieldW_go h3 rfl (Nat.zero_le _) ?_
  obtain ⟨q1, q2⟩ := sq_le ha hb j (by omega) (by omega)
  obtain ⟨p1, p2⟩ := sq_le ha hb (j + 1) (by omega) (by omega)
  have hs := sq_succ a b hj (by omega)
  have ha' := List.all_eq_true.1 ha a[j] (List.getElem_mem _)
  have hb' := List.all_eq_true.1 hb (b[j]'(by omega)) (List.getElem_mem _)
  have hJ' : ∀ (ob : Option Ob) (u : Option Ob), u = some (.row 1 [.int .u64 (sq a b (j + 1))]) → ob = some (.loop env [12, 13] asg46 bd46 .ready none) → ∀ σ' : Sto, σ' 0 = u → σ' 1 = ob → Jd a b env (j + 1) σ' n := by
    rintro _ _ rfl rfl σ' g1 g2
    exact ⟨h1, g1, g2⟩
  rw [hs] at p1 p2 hJ'
  generalize a[j] = x at *
  generalize b[j]'(by omega) = y at *
  generalize sq a b j = s at *
  simp only [okI, Bool.and_eq_true, decide_eq_true_eq] at ha' hb'
  have w1 : IntKind.i64.wrap (x - y) = x - y := by rw [wrap_i64] <;> omega
  have w2 : IntKind.i64.wrap (y - x) = y - x := by rw [wrap_i64] <;> omega
  push_cast at p2
  have hmx : ∃ d : Int, (if x - y < y - x then y - x else x - y) = d ∧ 0 ≤ d ∧ d ≤ 2147483646 ∧ d * d = (x - y) * (x - y) := by
    split
    · refine ⟨_, rfl, by omega, by omega, ?_⟩
      rw [← Int.neg_mul_neg]; congr 1 <;> omega
    · exact ⟨_, rfl, by omega, by omega, rfl⟩
  obtain ⟨d, hd, d1, d2, d3⟩ := hmx
  have w3 : IntKind.u64.wrap d = d := by rw [wrap_u64] <;> omega
  have k1 : 0 ≤ d * d := Int.mul_nonneg d1 d1
  have k2 : d * d ≤ 2147483646 * 2147483646 := Int.mul_le_mul d2 d2 d1 (by decide)
  have w4 : IntKind.u64.wrap (d * d) = (x - y) * (x - y) := by rw [d3, wrap_u64] <;> omega
  have w5 : IntKind.u64.wrap (s + (x - y) * (x - y)) = s + (x - y) * (x - y) := by rw [wrap_u64] <;> omega
  simp +contextual -implicitDefEqProofs (maxSteps := 2000000) only [↓wP, wQ, wQ1, wQ2, wQ3, wR, boxE, partsOf, ↓reduceIte, Nat.reduceEqDiff, Nat.reduceAdd, Nat.reduceSub, Nat.reduceLeDiff, Nat.reduceLT, Nat.reduceMul, reduceCtorEq, Int.reduceBNe, Int.reduceBEq, Int.reduceLT, Int.reduceLE, Int.reduceGT, bind_cons, bind_nil, w_asg46, w_bd46, he, h2, h3, w1, w2, hd, w3, w4, w5]
  exact hJ' _ _ rfl rfl _ (by simp [upd]) (by simp [upd])

/-- Vectors that may be, of one dimension. -/
structure Two (a b : Option (List Int)) : Prop where
  ha : okV a = true
  hb : okV b = true
  hl : (lst a).length = (lst b).length
theorem okV_len {a : Option (List Int)} (h : okV a = true) : (lst a).length ≤ 4 ∧ (lst a).all okI = true := by
  simp only [okV, Bool.and_eq_true, decide_eq_true_eq] at h
  exact ⟨h.1.2, h.2⟩
def distI (a b : Option (List Int)) : Int := sq (lst a) (lst b) (lst a).length

theorem r46 (a b : Option (List Int)) (h : Two a b) : res T 46 [slV 1 i32V a, slV 1 i32V b] = some (.int .u64 (distI a b)) := by
  refine run_res (run_pure (fn := g46) rfl rfl (by decide) ?_)
  simp only [g46, b46]
  obtain ⟨oa, ob, hl⟩ := h
  obtain ⟨a1, a2⟩ := okV_len oa
  obtain ⟨b1, b2⟩ := okV_len ob
  have f := f73 a b
  simp +contextual -implicitDefEqProofs (maxSteps := 2000000) only [↓wP, wQ, wQ1, wQ2, wQ3, wR, boxE, partsOf, ↓reduceIte, Nat.reduceEqDiff, Nat.reduceAdd, Nat.reduceSub, Nat.reduceLeDiff, Nat.reduceLT, Nat.reduceMul, reduceCtorEq, Int.reduceBNe, Int.reduceBEq, Int.reduceLT, Int.reduceLE, Int.reduceGT, f]
  generalize hE : pt (pt (pt (pt (pt (envOf [slV 1 i32V a, slV 1 i32V b]) 4 (V.int IntKind.u64 0)) 5 (V.ptr 0 1 0 0)) 9 (slV 1 i32V a)) 10 (slV 1 i32V b)) 11 (V.fn 89 [V.box [slV 1 i32V a], V.box [slV 1 i32V b]]) = env
  have e5 : env 5 = .ptr 0 1 0 0 := by rw [← hE]; rfl
  have e11 : env 11 = V.fn 89 [V.box [slV 1 i32V a], V.box [slV 1 i32V b]] := by rw [← hE]; rfl
  clear hE
  refine WC_rangeF (f := 89) (caps := [.box [slV 1 i32V a], .box [slV 1 i32V b]]) e11 (Nat.zero_le _) ?_
  refine run_mono _ _ _ (fun o ho => ?_) (raw89 a b hl (by omega) a2 b2 _ (Jd (lst a) (lst b) env) (fun j hj σ n hJ => hy46 (lst a) (lst b) hl a1 a2 b2 _ e5 j hj σ n hJ) _ _ ⟨by decide, by simp [upd, sq_zero], rfl⟩)
  cases o <;> try exact ho.elim
  obtain ⟨h1, h2, h3⟩ := ho
  refine ⟨_, _, _, _, _, _, h3, by decide, ?_⟩
  simp +contextual -implicitDefEqProofs (maxSteps := 2000000) only [↓wP, wQ, wQ1, wQ2, wQ3, wR, boxE, partsOf, ↓reduceIte, Nat.reduceEqDiff, Nat.reduceAdd, Nat.reduceSub, Nat.reduceLeDiff, Nat.reduceLT, Nat.reduceMul, reduceCtorEq, Int.reduceBNe, Int.reduceBEq, Int.reduceLT, Int.reduceLE, Int.reduceGT, Option.getD_none, h2, e5]
  rfl

theorem f46 (a b : Option (List Int)) (h : Two a b) (fs : Bool) (σ : Sto) (n lk : Nat) : callE T fs 46 [slV 1 i32V a, slV 1 i32V b] σ n lk = some (.int .u64 (distI a b), σ, n) :=
  callE_tr (by decide) (r46 a b h) (by simp [Tr, Tr_slV]) rfl fs σ n lk

def disE (a b : Option (List Int)) : Int := vAll a b
def disV (a b : Option (List Int)) : Int := if vAll a b = 0 then distI a b else 0
theorem vAll_two {a b : Option (List Int)} (h : vAll a b = 0) : Two a b := by
  unfold vAll at h
  split at h
  · rename_i h1
    simp only [Bool.and_eq_true] at h1
    split at h
    · rename_i h2; exact ⟨h1.1, h1.2, h2⟩
    · cases h
  · cases h

theorem r23 (a b : Option (List Int)) (ha : (lst a).length < 9223372036854775808) (hb : (lst b).length < 9223372036854775808) : res T 23 [slV 1 i32V a, slV 1 i32V b] = some (.tup [.int .u64 (disV a b), .int .i64 (disE a b)]) := by
  refine run_res (run_pure (fn := g23) rfl rfl (by decide) ?_)
  simp only [g23, b23]
  have e : [V.ref 0 0 2 1].mapM (frz (upd Sto.empty 0 (some (.row 1 [slV 1 i32V a, slV 1 i32V b]))) 12) = some [slV 1 vecV (some [a, b])] := by
    have hx : frz (upd Sto.empty 0 (some (.row 1 [slV 1 i32V a, slV 1 i32V b]))) 12 (.ref 0 0 2 1) = some (.sl 1 [slV 1 i32V a, slV 1 i32V b]) := by
      have ht : ∀ x ∈ [slV 1 i32V a, slV 1 i32V b], x = slV 1 i32V a ∨ x = slV 1 i32V b := fun x hx => by simpa using hx
      exact (Fz.ref (σ := upd Sto.empty 0 (some (.row 1 [slV 1 i32V a, slV 1 i32V b]))) (id := 0) (sz := 1) (xs := [slV 1 i32V a, slV 1 i32V b]) (ts := [slV 1 i32V a, slV 1 i32V b]) (k := 11) (S := fun _ => True) (by simp [upd]) trivial
        (FzL.trees (fun x hx => by rcases ht x hx with rfl | rfl <;> exact Tr_slV 1 _ _ _) (fun x hx c hc => by rcases ht x hx with rfl | rfl <;> (rw [cl_slV, List.mem_singleton] at hc; subst hc; exact Tr_slV 1 _ _ _)))).1
    simp only [List.mapM_cons, List.mapM_nil, hx]
    rfl
  have f45' := fun n lk => callE_flat (fs := true) (n := n) (lk := lk) (by decide) e (r45 a b ha hb) rfl
  simp only [thaw] at f45'
  by_cases hv : vAll a b = 0
  · have f := f46 a b (vAll_two hv)
    rw [hv] at f45'
    have e1 : disE a b = 0 := hv
    have e2 : disV a b = distI a b := by simp [disV, hv]
    simp +contextual -implicitDefEqProofs (maxSteps := 2000000) only [↓wP, wQ, wQ1, wQ2, wQ3, wR, boxE, partsOf, ↓reduceIte, Nat.reduceEqDiff, Nat.reduceAdd, Nat.reduceSub, Nat.reduceLeDiff, Nat.reduceLT, Nat.reduceMul, reduceCtorEq, Int.reduceBNe, Int.reduceBEq, Int.reduceLT, Int.reduceLE, Int.reduceGT, f45', f, e1, e2]
  · have hd : (vAll a b != 0) = true := by simpa using hv
    have e1 : disE a b = vAll a b := rfl
    have e2 : disV a b = 0 := by simp [disV, hv]
    simp +contextual -implicitDefEqProofs (maxSteps := 2000000) only [↓wP, wQ, wQ1, wQ2, wQ3, wR, boxE, partsOf, ↓reduceIte, Nat.reduceEqDiff, Nat.reduceAdd, Nat.reduceSub, Nat.reduceLeDiff, Nat.reduceLT, Nat.reduceMul, reduceCtorEq, Int.reduceBNe, Int.reduceBEq, Int.reduceLT, Int.reduceLE, Int.reduceGT, f45', e1, e2, hd]

theorem f23 (a b : Option (List Int)) (ha : (lst a).length < 9223372036854775808) (hb : (lst b).length < 9223372036854775808) (fs : Bool) (σ : Sto) (n lk : Nat) : callE T fs 23 [slV 1 i32V a, slV 1 i32V b] σ n lk = some (.tup [.int .u64 (disV a b), .int .i64 (disE a b)], σ, n) :=
  callE_tr (by decide) (r23 a b ha hb) (by simp [Tr, Tr_slV]) rfl fs σ n lk
end Go.Q.S11
end

section
/- Distances by definition; hits. -/
set_option linter.unusedSimpArgs false
set_option linter.unusedVariables false
namespace Go.Q.S11
open Go.Q

theorem sq_comm (a b : List Int) : ∀ j, j ≤ a.length → j ≤ b.length → sq a b j = sq b a j
  | 0, _, _ => by simp [sq_zero]
  | j + 1, h1, h2 => by
    rw [sq_succ a b (by omega) (by omega), sq_succ b a (by omega) (by omega), sq_comm a b j (by omega) (by omega)]
    have : (a[j] - b[j]) * (a[j] - b[j]) = (b[j] - a[j]) * (b[j] - a[j]) := by
      rw [← Int.neg_mul_neg]; congr 1 <;> omega
    rw [this]
theorem distI_comm {a b : Option (List Int)} (h : (lst a).length = (lst b).length) : distI a b = distI b a := by
  unfold distI
  rw [h]
  exact sq_comm _ _ _ (by omega) (by omega)

theorem un_neg (k : IntKind) (a : Int) : unV .neg (.int k a) = some (.int k (k.wrap (-a))) := by simp [unV, pureV, Op.unary, Op.intArith]; rfl

theorem r40 (a b : Option (List Int)) (h : Two a b) : res T 40 [slV 1 i32V a, slV 1 i32V b] = some (.int .u64 (distI a b)) := by
  refine run_res (run_pure (fn := g40) rfl rfl (by decide) ?_)
  simp only [g40, b40]
  obtain ⟨oa, ob, hl⟩ := h
  obtain ⟨a1, ha⟩ := okV_len oa
  obtain ⟨b1, hb⟩ := okV_len ob
  simp +contextual -implicitDefEqProofs (maxSteps := 2000000) only [↓wP, wQ, wQ1, wQ2, wQ3, wR, boxE, partsOf, ↓reduceIte, Nat.reduceEqDiff, Nat.reduceAdd, Nat.reduceSub, Nat.reduceLeDiff, Nat.reduceLT, Nat.reduceMul, reduceCtorEq, Int.reduceBNe, Int.reduceBEq, Int.reduceLT, Int.reduceLE, Int.reduceGT]
  refine WC_loopI 0 (fun (j : Nat) env σ n => j ≤ (lst a).length ∧ env 6 = .int .i64 (j : Int) ∧ env 0 = slV 1 i32V a ∧ env 1 = slV 1 i32V b ∧ env 5 = .int .u64 (sq (lst a) (lst b) j)) (fun j => (lst a).length - j) ?_ 0 _ _ _ ?_
  · intro j env σ n ⟨h0, h1, h2, h3, h4⟩
    by_cases hj : j < (lst a).length
    · have hd : decide ((j : Int) < ((lst a).length : Int)) = true := by simp [hj]
      have hw : IntKind.i64.wrap ((j : Int) + 1) = ((j + 1 : Nat) : Int) := by rw [wrap_i64] <;> omega
      have hx : (lst a)[j]? = some (lst a)[j] := List.getElem?_eq_getElem hj
      have hz : (lst b)[j]? = some ((lst b)[j]'(by omega)) := List.getElem?_eq_getElem (by omega)
      obtain ⟨q1, q2⟩ := sq_le ha hb j (by omega) (by omega)
      obtain ⟨p1, p2⟩ := sq_le ha hb (j + 1) (by omega) (by omega)
      have hs := sq_succ (lst a) (lst b) hj (by omega)
      have ha' := List.all_eq_true.1 ha (lst a)[j] (List.getElem_mem _)
      have hb' := List.all_eq_true.1 hb ((lst b)[j]'(by omega)) (List.getElem_mem _)
      rw [hs] at p1 p2
      generalize (lst a)[j] = x at *
      generalize (lst b)[j]'(by omega) = y at *
      generalize sq (lst a) (lst b) j = s at *
      simp only [okI, Bool.and_eq_true, decide_eq_true_eq] at ha' hb'
      have v1 : IntKind.i64.wrap x = x := by rw [wrap_i64] <;> omega
      have v2 : IntKind.i64.wrap y = y := by rw [wrap_i64] <;> omega
      have w1 : IntKind.i64.wrap (x - y) = x - y := by rw [wrap_i64] <;> omega
      have w2 : IntKind.i64.wrap (-(x - y)) = y - x := by rw [wrap_i64] <;> omega
      push_cast at p2
      have w5 : IntKind.u64.wrap (s + (x - y) * (x - y)) = s + (x - y) * (x - y) := by rw [wrap_u64] <;> omega
      have sqd : ∀ d : Int, 0 ≤ d → d ≤ 2147483646 → d * d = (x - y) * (x - y) → IntKind.u64.wrap d = d ∧ IntKind.u64.wrap (d * d) = (x - y) * (x - y) := by
        intro d d1 d2 d3
        have k1 : 0 ≤ d * d := Int.mul_nonneg d1 d1
        have k2 : d * d ≤ 2147483646 * 2147483646 := Int.mul_le_mul d2 d2 d1 (by decide)
        exact ⟨by rw [wrap_u64] <;> omega, by rw [d3, wrap_u64] <;> omega⟩
      by_cases hlt : x - y < 0
      · obtain ⟨w3, w4⟩ := sqd (y - x) (by omega) (by omega) (by rw [← Int.neg_mul_neg]; congr 1 <;> omega)
        simp +contextual -implicitDefEqProofs (maxSteps := 2000000) only [↓wP, wQ, wQ1, wQ2, wQ3, wR, boxE, partsOf, ↓reduceIte, Nat.reduceEqDiff, Nat.reduceAdd, Nat.reduceSub, Nat.reduceLeDiff, Nat.reduceLT, Nat.reduceMul, reduceCtorEq, Int.reduceBNe, Int.reduceBEq, Int.reduceLT, Int.reduceLE, Int.reduceGT, h1, h2, h3, h4, hd, hx, hz, i32V, v1, v2, w1, hlt, un_neg, w2, w3, w4, w5, hw]
        exact ⟨j + 1, by omega, by omega, rfl, by rw [hs]⟩
      · obtain ⟨w3, w4⟩ := sqd (x - y) (by omega) (by omega) rfl
        simp +contextual -implicitDefEqProofs (maxSteps := 2000000) only [↓wP, wQ, wQ1, wQ2, wQ3, wR, boxE, partsOf, ↓reduceIte, Nat.reduceEqDiff, Nat.reduceAdd, Nat.reduceSub, Nat.reduceLeDiff, Nat.reduceLT, Nat.reduceMul, reduceCtorEq, Int.reduceBNe, Int.reduceBEq, Int.reduceLT, Int.reduceLE, Int.reduceGT, h1, h2, h3, h4, hd, hx, hz, i32V, v1, v2, w1, hlt, w2, w3, w4, w5, hw]
        exact ⟨j + 1, by omega, by omega, rfl, by rw [hs]⟩
    · have hd : decide ((j : Int) < ((lst a).length : Int)) = false := by simp; omega
      have hj' : j = (lst a).length := by omega
      have hv : sq (lst a) (lst b) j = distI a b := by rw [hj']; rfl
      simp +contextual -implicitDefEqProofs (maxSteps := 2000000) only [↓wP, wQ, wQ1, wQ2, wQ3, wR, boxE, partsOf, ↓reduceIte, Nat.reduceEqDiff, Nat.reduceAdd, Nat.reduceSub, Nat.reduceLeDiff, Nat.reduceLT, Nat.reduceMul, reduceCtorEq, Int.reduceBNe, Int.reduceBEq, Int.reduceLT, Int.reduceLE, Int.reduceGT, h1, h2, h3, h4, hd, hv]
  · simp +contextual -implicitDefEqProofs (maxSteps := 2000000) only [↓wP, wQ, wQ1, wQ2, wQ3, wR, boxE, partsOf, ↓reduceIte, Nat.reduceEqDiff, Nat.reduceAdd, Nat.reduceSub, Nat.reduceLeDiff, Nat.reduceLT, Nat.reduceMul, reduceCtorEq, Int.reduceBNe, Int.reduceBEq, Int.reduceLT, Int.reduceLE, Int.reduceGT]
    simp [sq_zero]

theorem f40 (a b : Option (List Int)) (h : Two a b) (fs : Bool) (σ : Sto) (n lk : Nat) : callE T fs 40 [slV 1 i32V a, slV 1 i32V b] σ n lk = some (.int .u64 (distI a b), σ, n) :=
  callE_tr (by decide) (r40 a b h) (by simp [Tr, Tr_slV]) rfl fs σ n lk

theorem r37 (q v : Option (List Int)) (k id : Int) (hq : (lst q).length < 9223372036854775808) (hv : (lst v).length < 9223372036854775808) : res T 37 [.agg [slV 1 i32V q, .int .i64 k], .int .u64 id, slV 1 i32V v] = some (.tup [.agg [.int .u64 id, .int .u64 (disV q v)], .int .i64 (disE q v)]) := by
  refine run_res (run_pure (fn := g37) rfl rfl (by decide) ?_)
  simp only [g37, b37]
  have f := f23 q v hq hv
  simp +contextual -implicitDefEqProofs (maxSteps := 2000000) only [↓wP, wQ, wQ1, wQ2, wQ3, wR, boxE, partsOf, ↓reduceIte, Nat.reduceEqDiff, Nat.reduceAdd, Nat.reduceSub, Nat.reduceLeDiff, Nat.reduceLT, Nat.reduceMul, reduceCtorEq, Int.reduceBNe, Int.reduceBEq, Int.reduceLT, Int.reduceLE, Int.reduceGT, f]

theorem f37 (q v : Option (List Int)) (k id : Int) (hq : (lst q).length < 9223372036854775808) (hv : (lst v).length < 9223372036854775808) (fs : Bool) (σ : Sto) (n lk : Nat) : callE T fs 37 [.agg [slV 1 i32V q, .int .i64 k], .int .u64 id, slV 1 i32V v] σ n lk = some (.tup [.agg [.int .u64 id, .int .u64 (disV q v)], .int .i64 (disE q v)], σ, n) :=
  callE_tr (by decide) (r37 q v k id hq hv) (by simp [Tr, Tr_slV]) rfl fs σ n lk
end Go.Q.S11
end

section
/- Queries; rows. -/
set_option linter.unusedSimpArgs false
set_option linter.unusedVariables false
namespace Go.Q.S11
open Go.Q

theorem mg1 (σ : Sto) (n : Nat) (o : Option Ob) : merge σ (upd σ n o) n = upd σ n o := by
  funext i
  have := big_le
  unfold merge upd
  by_cases h : i = n
  · subst h; rw [if_pos ⟨Nat.le_refl _, by omega⟩]
  · simp [h]
theorem lay1 (n : Nat) : (n + 1 ≤ n + BIG) = True := by have := big_le; simp; omega
theorem lim32 {n : Nat} (h : n ≤ 1000000) : n * 32 ≤ LIM := by unfold LIM; omega

def qE (v : Option (List Int)) (k : Int) : Int := if k < 1 then 2 else if 16 < k then 2 else if okV v then 0 else 150
theorem r12 (v : Option (List Int)) (k : Int) (hv : (lst v).length < 9223372036854775808) : res T 12 [.agg [slV 1 i32V v, .int .i64 k]] = some (.int .i64 (qE v k)) := by
  refine run_res (run_pure (fn := g12) rfl rfl (by decide) ?_)
  simp only [g12, b12]
  have f := f22 v hv
  by_cases h1 : k < 1
  · simp +contextual -implicitDefEqProofs (maxSteps := 2000000) only [↓wP, wQ, wQ1, wQ2, wQ3, wR, boxE, partsOf, ↓reduceIte, Nat.reduceEqDiff, Nat.reduceAdd, Nat.reduceSub, Nat.reduceLeDiff, Nat.reduceLT, Nat.reduceMul, reduceCtorEq, Int.reduceBNe, Int.reduceBEq, Int.reduceLT, Int.reduceLE, Int.reduceGT, h1, qE]
  · by_cases h2 : 16 < k
    · simp +contextual -implicitDefEqProofs (maxSteps := 2000000) only [↓wP, wQ, wQ1, wQ2, wQ3, wR, boxE, partsOf, ↓reduceIte, Nat.reduceEqDiff, Nat.reduceAdd, Nat.reduceSub, Nat.reduceLeDiff, Nat.reduceLT, Nat.reduceMul, reduceCtorEq, Int.reduceBNe, Int.reduceBEq, Int.reduceLT, Int.reduceLE, Int.reduceGT, h1, h2, qE]
    · cases ho : okV v
      · rw [ho] at f
        simp +contextual -implicitDefEqProofs (maxSteps := 2000000) only [↓wP, wQ, wQ1, wQ2, wQ3, wR, boxE, partsOf, ↓reduceIte, Nat.reduceEqDiff, Nat.reduceAdd, Nat.reduceSub, Nat.reduceLeDiff, Nat.reduceLT, Nat.reduceMul, reduceCtorEq, Int.reduceBNe, Int.reduceBEq, Int.reduceLT, Int.reduceLE, Int.reduceGT, h1, h2, qE, f, ho]
      · rw [ho] at f
        simp +contextual -implicitDefEqProofs (maxSteps := 2000000) only [↓wP, wQ, wQ1, wQ2, wQ3, wR, boxE, partsOf, ↓reduceIte, Nat.reduceEqDiff, Nat.reduceAdd, Nat.reduceSub, Nat.reduceLeDiff, Nat.reduceLT, Nat.reduceMul, reduceCtorEq, Int.reduceBNe, Int.reduceBEq, Int.reduceLT, Int.reduceLE, Int.reduceGT, h1, h2, qE, f, ho]

theorem f12 (v : Option (List Int)) (k : Int) (hv : (lst v).length < 9223372036854775808) (fs : Bool) (σ : Sto) (n lk : Nat) : callE T fs 12 [.agg [slV 1 i32V v, .int .i64 k]] σ n lk = some (.int .i64 (qE v k), σ, n) :=
  callE_tr (by decide) (r12 v k hv) (by simp [Tr, Tr_slV]) rfl fs σ n lk
theorem r13 (v : Option (List Int)) (k : Int) (hv : (lst v).length < 9223372036854775808) : res T 13 [.agg [slV 1 i32V v, .int .i64 k]] = some (.int .i64 (qE v k)) := by
  refine run_res (run_pure (fn := g13) rfl rfl (by decide) ?_)
  simp only [g13, b13]
  have f := f38 v hv
  by_cases h1 : k < 1
  · simp +contextual -implicitDefEqProofs (maxSteps := 2000000) only [↓wP, wQ, wQ1, wQ2, wQ3, wR, boxE, partsOf, ↓reduceIte, Nat.reduceEqDiff, Nat.reduceAdd, Nat.reduceSub, Nat.reduceLeDiff, Nat.reduceLT, Nat.reduceMul, reduceCtorEq, Int.reduceBNe, Int.reduceBEq, Int.reduceLT, Int.reduceLE, Int.reduceGT, h1, qE]
  · by_cases h2 : 16 < k
    · simp +contextual -implicitDefEqProofs (maxSteps := 2000000) only [↓wP, wQ, wQ1, wQ2, wQ3, wR, boxE, partsOf, ↓reduceIte, Nat.reduceEqDiff, Nat.reduceAdd, Nat.reduceSub, Nat.reduceLeDiff, Nat.reduceLT, Nat.reduceMul, reduceCtorEq, Int.reduceBNe, Int.reduceBEq, Int.reduceLT, Int.reduceLE, Int.reduceGT, h1, h2, qE]
    · cases ho : okV v
      · rw [ho] at f
        simp +contextual -implicitDefEqProofs (maxSteps := 2000000) only [↓wP, wQ, wQ1, wQ2, wQ3, wR, boxE, partsOf, ↓reduceIte, Nat.reduceEqDiff, Nat.reduceAdd, Nat.reduceSub, Nat.reduceLeDiff, Nat.reduceLT, Nat.reduceMul, reduceCtorEq, Int.reduceBNe, Int.reduceBEq, Int.reduceLT, Int.reduceLE, Int.reduceGT, h1, h2, qE, f, ho]
      · rw [ho] at f
        simp +contextual -implicitDefEqProofs (maxSteps := 2000000) only [↓wP, wQ, wQ1, wQ2, wQ3, wR, boxE, partsOf, ↓reduceIte, Nat.reduceEqDiff, Nat.reduceAdd, Nat.reduceSub, Nat.reduceLeDiff, Nat.reduceLT, Nat.reduceMul, reduceCtorEq, Int.reduceBNe, Int.reduceBEq, Int.reduceLT, Int.reduceLE, Int.reduceGT, h1, h2, qE, f, ho]

theorem f13 (v : Option (List Int)) (k : Int) (hv : (lst v).length < 9223372036854775808) (fs : Bool) (σ : Sto) (n lk : Nat) : callE T fs 13 [.agg [slV 1 i32V v, .int .i64 k]] σ n lk = some (.int .i64 (qE v k), σ, n) :=
  callE_tr (by decide) (r13 v k hv) (by simp [Tr, Tr_slV]) rfl fs σ n lk

structure Rw where
  id : Int
  v : Option (List Int)
def rwV (r : Rw) : V := .agg [.int .u64 r.id, slV 1 i32V r.v]
theorem rwV_eq (r : Rw) : rwV r = .agg [.int .u64 r.id, slV 1 i32V r.v] := rfl

/-- The rows of a mask's used cells. -/
def sel (m0 m1 : Nat) (l : List Cel) : List Rw := (l.zipIdx.filter fun p => p.1.u && tb m0 m1 p.2).map fun p => ⟨p.1.id, p.1.v⟩
theorem sel_snoc (m0 m1 : Nat) (l : List Cel) (c : Cel) : sel m0 m1 (l ++ [c]) = sel m0 m1 l ++ if (c.u && tb m0 m1 l.length) = true then [⟨c.id, c.v⟩] else [] := by
  unfold sel
  rw [List.zipIdx_append, List.filter_append, List.map_append]
  congr 1
  simp only [List.zipIdx_cons, List.zipIdx_nil, List.filter_cons, List.filter_nil, Nat.zero_add]
  split <;> rfl
theorem sel_len (m0 m1 : Nat) (l : List Cel) : (sel m0 m1 l).length ≤ l.length := by
  unfold sel
  rw [List.length_map]
  exact Nat.le_trans (List.length_filter_le _ _) (by simp)

def oR (l : List Rw) : Option (List V) := if l = [] then none else some (l.map rwV)
def optR (l : List Rw) : Option (List Rw) := if l = [] then none else some l
theorem lst_oR (l : List Rw) : lst (oR l) = l.map rwV := by
  unfold oR; split
  · rename_i h; subst h; rfl
  · rfl
theorem lst_optR (l : List Rw) : lst (optR l) = l := by
  unfold optR; split
  · rename_i h; subst h; rfl
  · rfl
theorem oR_slV (l : List Rw) : slV 2 _root_.id (oR l) = slV 2 rwV (optR l) := by
  unfold oR optR; split <;> simp [slV]
theorem oR_snoc (l : List Rw) (r : Rw) : appO (oR l) [rwV r] = oR (l ++ [r]) := by
  unfold oR
  by_cases h : l = []
  · subst h; simp [appO]
  · simp [h, appO]

theorem r16 (a : Option (List Cel)) (m0 m1 : Nat) (h0 : W64 m0) (h1 : W64 m1) (hl : (lst a).length ≤ 120) : res T 16 [.agg [slV 5 celV a], .agg [.int .u64 (m0 : Int), .int .u64 (m1 : Int)]] = some (slV 2 rwV (optR (sel m0 m1 (lst a)))) := by
  refine run_res (run_pure (fn := g16) rfl rfl (by decide) ?_)
  simp only [g16, b16]
  simp +contextual -implicitDefEqProofs (maxSteps := 2000000) only [↓wP, wQ, wQ1, wQ2, wQ3, wR, boxE, partsOf, ↓reduceIte, Nat.reduceEqDiff, Nat.reduceAdd, Nat.reduceSub, Nat.reduceLeDiff, Nat.reduceLT, Nat.reduceMul, reduceCtorEq, Int.reduceBNe, Int.reduceBEq, Int.reduceLT, Int.reduceLE, Int.reduceGT]
  refine WC_loopI 0 (fun (j : Nat) env σ n => j ≤ (lst a).length ∧ env 6 = .int .i64 (j : Int) ∧ env 2 = .ptr 0 1 0 0 ∧ env 3 = .ptr 1 2 0 0 ∧ σ 0 = some (.row 1 [.agg [slV 5 celV a]]) ∧ σ 1 = some (.row 2 [.agg [.int .u64 (m0 : Int), .int .u64 (m1 : Int)]]) ∧ 2 ≤ n ∧
    Pl σ 2 n 2 (env 5) (oR (sel m0 m1 ((lst a).take j)))) (fun j => (lst a).length - j) ?_ 0 _ _ _ ?_
  · intro j env σ n ⟨g0, g1, g2, g3, g4, g5, g6, g7⟩
    generalize hv5 : env 5 = v5 at g7
    by_cases hj : j < (lst a).length
    · have hd : decide ((j : Int) < ((lst a).length : Int)) = true := by simp [hj]
      have hw : IntKind.i64.wrap ((j : Int) + 1) = ((j + 1 : Nat) : Int) := by rw [wrap_i64] <;> omega
      have hx : (lst a)[j]? = some (lst a)[j] := List.getElem?_eq_getElem hj
      have ht : sel m0 m1 ((lst a).take (j + 1)) = sel m0 m1 ((lst a).take j) ++ if ((lst a)[j].u && tb m0 m1 j) = true then [⟨(lst a)[j].id, (lst a)[j].v⟩] else [] := by
        rw [← List.take_append_getElem hj, sel_snoc, List.length_take, Nat.min_eq_left (by omega)]
      have hsl := sel_len m0 m1 ((lst a).take j)
      rw [List.length_take] at hsl
      generalize (lst a)[j] = c at *
      generalize sel m0 m1 ((lst a).take j) = s at *
      have f := f27 m0 m1 j h0 h1 (by omega)
      cases hu : c.u
      · rw [hu] at ht
        simp only [Bool.false_and, Bool.false_eq_true, if_false, List.append_nil] at ht
        simp +contextual -implicitDefEqProofs (maxSteps := 2000000) only [↓wP, wQ, wQ1, wQ2, wQ3, wR, boxE, partsOf, ↓reduceIte, Nat.reduceEqDiff, Nat.reduceAdd, Nat.reduceSub, Nat.reduceLeDiff, Nat.reduceLT, Nat.reduceMul, reduceCtorEq, Int.reduceBNe, Int.reduceBEq, Int.reduceLT, Int.reduceLE, Int.reduceGT, g1, g2, g3, g4, g5, hd, hx, celV_eq, hu, hw]
        exact ⟨j + 1, by omega, by omega, rfl, by rw [ht, hv5]; exact ⟨g6, g7⟩⟩
      · cases hb : tb m0 m1 j
        · rw [hb] at f
          rw [hu, hb] at ht
          simp only [Bool.and_false, Bool.false_eq_true, if_false, List.append_nil] at ht
          simp +contextual -implicitDefEqProofs (maxSteps := 2000000) only [↓wP, wQ, wQ1, wQ2, wQ3, wR, boxE, partsOf, ↓reduceIte, Nat.reduceEqDiff, Nat.reduceAdd, Nat.reduceSub, Nat.reduceLeDiff, Nat.reduceLT, Nat.reduceMul, reduceCtorEq, Int.reduceBNe, Int.reduceBEq, Int.reduceLT, Int.reduceLE, Int.reduceGT, g1, g2, g3, g4, g5, hd, hx, celV_eq, hu, f, hw]
          exact ⟨j + 1, by omega, by omega, rfl, by rw [ht, hv5]; exact ⟨g6, g7⟩⟩
        · rw [hb] at f
          rw [hu, hb] at ht
          simp only [Bool.and_self, if_true] at ht
          simp +contextual -implicitDefEqProofs (maxSteps := 2000000) only [↓wP, wQ, wQ1, wQ2, wQ3, wR, boxE, partsOf, ↓reduceIte, Nat.reduceEqDiff, Nat.reduceAdd, Nat.reduceSub, Nat.reduceLeDiff, Nat.reduceLT, Nat.reduceMul, reduceCtorEq, Int.reduceBNe, Int.reduceBEq, Int.reduceLT, Int.reduceLE, Int.reduceGT, g1, g2, g3, g4, g5, hd, hx, celV_eq, hu, f, hw, hv5, mg1, lay1, Nat.mul_one]
          have hbig := big_le
          refine stepW_appP (m := 2) (n0 := n) (σ0 := σ) (o := oR s) (ys := [rwV ⟨c.id, c.v⟩]) g7 (fun i _ hi => by have : i ≠ n := by omega
                                                                                                                    simp [upd, this]) (by omega) (by omega) (by omega) ?_ (fun v' σ' n' q1 q2 q3 => ?_)
          · rw [lst_oR, List.length_map]; exact lim32 (by simp; omega)
          · rw [oR_snoc] at q1
            have e0 : (0 : Nat) ≠ n := by omega
            have e1 : (1 : Nat) ≠ n := by omega
            have k4 : σ' 0 = some (.row 1 [.agg [slV 5 celV a]]) := by rw [q3 0 (by decide)]; simp [upd, e0, g4]
            have k5 : σ' 1 = some (.row 2 [.agg [.int .u64 (m0 : Int), .int .u64 (m1 : Int)]]) := by rw [q3 1 (by decide)]; simp [upd, e1, g5]
            simp +contextual -implicitDefEqProofs (maxSteps := 2000000) only [↓wP, wQ, wQ1, wQ2, wQ3, wR, boxE, partsOf, ↓reduceIte, Nat.reduceEqDiff, Nat.reduceAdd, Nat.reduceSub, Nat.reduceLeDiff, Nat.reduceLT, Nat.reduceMul, reduceCtorEq, Int.reduceBNe, Int.reduceBEq, Int.reduceLT, Int.reduceLE, Int.reduceGT, g1, g2, g3, k4, k5, hw]
            exact ⟨j + 1, by omega, by omega, rfl, by omega, by rw [ht]; exact q1⟩
    · have hd : decide ((j : Int) < ((lst a).length : Int)) = false := by simp; omega
      have hjl : j = (lst a).length := by omega
      rw [hjl, List.take_length] at g7
      have hf := g7.frz (fun x hx => by rw [lst_oR] at hx; obtain ⟨r, -, rfl⟩ := List.mem_map.1 hx; simp [rwV, Tr, Tr_slV]) (fun x hx c hc => by
        rw [lst_oR] at hx; obtain ⟨r, -, rfl⟩ := List.mem_map.1 hx
        simp only [rwV, V.cells, List.mem_cons, List.not_mem_nil, or_false] at hc
        rcases hc with rfl | rfl
        · rfl
        · exact Tr_slV 1 _ _ _)
      rw [oR_slV] at hf
      simp +contextual -implicitDefEqProofs (maxSteps := 2000000) only [↓wP, wQ, wQ1, wQ2, wQ3, wR, boxE, partsOf, ↓reduceIte, Nat.reduceEqDiff, Nat.reduceAdd, Nat.reduceSub, Nat.reduceLeDiff, Nat.reduceLT, Nat.reduceMul, reduceCtorEq, Int.reduceBNe, Int.reduceBEq, Int.reduceLT, Int.reduceLE, Int.reduceGT, g1, g2, g3, g4, g5, hd, hv5, hf]
  · simp +contextual -implicitDefEqProofs (maxSteps := 2000000) only [↓wP, wQ, wQ1, wQ2, wQ3, wR, boxE, partsOf, ↓reduceIte, Nat.reduceEqDiff, Nat.reduceAdd, Nat.reduceSub, Nat.reduceLeDiff, Nat.reduceLT, Nat.reduceMul, reduceCtorEq, Int.reduceBNe, Int.reduceBEq, Int.reduceLT, Int.reduceLE, Int.reduceGT]
    simp [sel, oR, Pl]

theorem f16 (a : Option (List Cel)) (m0 m1 : Nat) (h0 : W64 m0) (h1 : W64 m1) (hl : (lst a).length ≤ 120) (fs : Bool) (σ : Sto) (n lk : Nat) : callE T fs 16 [.agg [slV 5 celV a], .agg [.int .u64 (m0 : Int), .int .u64 (m1 : Int)]] σ n lk = some (slV 2 rwV (optR (sel m0 m1 (lst a))), σ, n) :=
  callE_tr (by decide) (r16 a m0 m1 h0 h1 hl) (by simp [Tr, Tr_slV]) (Nw_slV 2 rwV _ 11) fs σ n lk
end Go.Q.S11
end

section
/- The document's order. -/
set_option linter.unusedSimpArgs false
set_option linter.unusedVariables false
namespace Go.Q.S11
open Go.Q Go.Sort

def oH (l : List Hit) : Option (List V) := if l = [] then none else some (hs l)
def optH (l : List Hit) : Option (List Hit) := if l = [] then none else some l
theorem lst_optH (l : List Hit) : lst (optH l) = l := by
  unfold optH; split
  · rename_i h; rw [h]; rfl
  · rfl
theorem lst_oH (l : List Hit) : lst (oH l) = hs l := by
  unfold oH; split
  · rename_i h; rw [h]; rfl
  · rfl
theorem oH_slV (l : List Hit) : slV 2 _root_.id (oH l) = slV 2 hitV (optH l) := by
  unfold oH optH; split <;> simp [slV, hs]
theorem plLen {σ : Sto} {m n : Nat} {v : V} {l : List Hit} (h : Pl σ m n 2 v (oH l)) : lenE v = some (.int .i64 (l.length : Int)) := by
  unfold oH at h
  split at h
  · rename_i e; rw [e]; simp only [Pl] at h; rw [h, lenE_nil]; rfl
  · obtain ⟨i, rfl, -⟩ := h
    rw [lenE_ref, hs_len]
theorem plRefs {σ : Sto} {m n : Nat} {v : V} {l : List Hit} (h : Pl σ m n 2 v (oH l)) (hl : l ≠ []) : ∃ i, v = .ref i 0 l.length 2 ∧ σ i = some (.row 2 (hs l)) ∧ m ≤ i ∧ i < n := by
  unfold oH at h
  rw [if_neg hl] at h
  obtain ⟨i, rfl, h1⟩ := h
  exact ⟨i, by rw [hs_len], h1⟩
theorem plOf {σ : Sto} {m n i : Nat} {l : List Hit} (hl : l ≠ []) (h1 : σ i = some (.row 2 (hs l))) (h2 : m ≤ i) (h3 : i < n) : Pl σ m n 2 (.ref i 0 l.length 2) (oH l) := by
  unfold oH
  rw [if_neg hl]
  exact ⟨i, by rw [hs_len], h1, h2, h3⟩
theorem tr_hs (k : Nat) (l : List Hit) : (∀ x ∈ hs l, Tr (k + 2) x = true) ∧ ∀ x ∈ hs l, ∀ c ∈ x.cells, Tr (k + 1) c = true := by
  constructor
  · intro x hx
    obtain ⟨y, -, rfl⟩ := List.mem_map.1 hx
    rfl
  · intro x hx c hc
    obtain ⟨y, -, rfl⟩ := List.mem_map.1 hx
    simp only [hitV, V.cells, List.mem_cons, List.not_mem_nil, or_false] at hc
    rcases hc with rfl | rfl <;> rfl
theorem plHf {σ : Sto} {m n : Nat} {v : V} {l : List Hit} (h : Pl σ m n 2 v (oH l)) : frz σ 12 v = some (slV 2 hitV (optH l)) := by
  rw [Go.Q.Pl.frz h (by rw [lst_oH]; exact (tr_hs 9 l).1) (by rw [lst_oH]; exact (tr_hs 10 l).2), oH_slV]

theorem hs_set (l : List Hit) (i : Nat) (x : Hit) : (hs l).set i (.agg [.int .u64 x.id, .int .u64 x.d]) = hs (l.set i x) := by simp [hs, List.map_set, hitV]
theorem hs_set_at {l : List Hit} {i j : Nat} {x : Hit} (hj : j < l.length) : ∃ u w : Int, ((hs l).set i (.agg [.int .u64 x.id, .int .u64 x.d]))[j]? = some (.agg [.int .u64 u, .int .u64 w]) := by
  rw [hs_set, hs_get (by simpa using hj)]
  exact ⟨_, _, rfl⟩

theorem rch_row {σ : Sto} {id : Nat} {l : List Hit} (h : σ id = some (.row 2 (hs l))) (k : Nat) : rch σ (k + 2) (.ref id 0 l.length 2) = [id] := by
  have e : elems σ 2 (.ref id 0 l.length 2) = some (hs l) := by
    simp only [elems, h, List.drop_zero]
    rw [if_pos ⟨trivial, trivial, by rw [hs_len]; omega⟩, ← hs_len, List.take_length]
  simp only [rch, e, Option.getD_some]
  rw [List.flatMap_eq_nil_iff.2 fun x hx => ?_]
  obtain ⟨y, -, rfl⟩ := List.mem_map.1 hx
  rfl
def dr (σ : Sto) (id : Nat) (l : List Hit) : Sto := if l = [] then σ else dropL σ [id]
theorem dr_at (σ : Sto) (id : Nat) (l : List Hit) {i : Nat} (h : i ≠ id) : dr σ id l i = σ i := by
  unfold dr; split
  · rfl
  · simp [dropL, h]
def merE (k : Int) (l : List Hit) : Int := if k < 1 ∨ 16 < k then 2 else if 2000 < l.length then 3 else 0
def merV (k : Int) (l : List Hit) : List Hit := if merE k l = 0 then fst' k.toNat l else []

def hVal (n : Nat) (l : List Hit) : V := if l = [] then .nilS else .ref n 0 l.length 2
def hSto (σ : Sto) (n : Nat) (l : List Hit) : Sto := if l = [] then σ else upd σ n (some (.row 2 (hs l)))
def hN (n : Nat) (l : List Hit) : Nat := if l = [] then n else n + 1
theorem thaw_ownH (σ : Sto) (n : Nat) (l : List Hit) : thaw σ n (ownH l) = (hVal n l, hSto σ n l, hN n l) := by
  cases l with
  | nil => rfl
  | cons x l =>
    unfold hVal hSto hN
    rw [if_neg (by simp), if_neg (by simp), if_neg (by simp)]
    exact thaw_hs σ n (x :: l)
theorem flat_ownH (l : List Hit) : flat (ownH l) = true := by
  cases l with
  | nil => rfl
  | cons x l => exact hs_flat (x :: l)
theorem pl_h (σ : Sto) (n : Nat) (l : List Hit) : Pl (hSto σ n l) n (hN n l) 2 (hVal n l) (oH l) := by
  unfold hVal hSto hN
  by_cases h : l = []
  · rw [if_pos h, if_pos h, if_pos h]; simp [oH, h, Pl]
  · rw [if_neg h, if_neg h, if_neg h]; exact plOf h (by simp [upd]) (Nat.le_refl _) (by omega)
theorem hSto_at (σ : Sto) (n : Nat) (l : List Hit) {i : Nat} (h : i < n) : hSto σ n l i = σ i := by
  unfold hSto; split
  · rfl
  · have : i ≠ n := by omega
    simp [upd, this]
theorem hN_le (n : Nat) (l : List Hit) : n ≤ hN n l := by unfold hN; split <;> omega
theorem hVal_len (n : Nat) (l : List Hit) : lenE (hVal n l) = some (.int .i64 (l.length : Int)) := by
  unfold hVal
  split
  · rename_i h; rw [h, lenE_nil]; rfl
  · rw [lenE_ref]
theorem hVal_giv (σ : Sto) (n : Nat) (l : List Hit) : giv (hSto σ n l) 12 (hVal n l) = some (ownH l) ∧ (gids (hSto σ n l) 12 (hVal n l)).Nodup := by
  unfold hVal hSto
  by_cases h : l = []
  · rw [if_pos h, if_pos h, h]; exact ⟨rfl, by simp [gids]⟩
  · rw [if_neg h, if_neg h, ownH_eq h]
    have := giv_row (σ := upd σ n (some (.row 2 (hs l)))) (id := n) (sz := 2) (xs := hs l) (by simp [upd]) (hs_giv _ _) (hs_gids _ _)
    rw [hs_len] at this
    exact this
theorem giv_tup2 {σ : Sto} {v w r s : V} (h : giv σ 11 v = some r ∧ (gids σ 11 v).Nodup) (h' : giv σ 11 w = some s) (h'' : gids σ 11 w = []) :
    giv σ 12 (.tup [v, w]) = some (.tup [r, s]) ∧ (gids σ 12 (.tup [v, w])).Nodup := by
  constructor
  · simp only [giv, List.mapM_cons, List.mapM_nil, h.1, h']; rfl
  · simp only [gids, List.flatMap_cons, List.flatMap_nil, h'', List.append_nil]; exact h.2
theorem hVal_giv11 (σ : Sto) (n : Nat) (l : List Hit) : giv (hSto σ n l) 11 (hVal n l) = some (ownH l) ∧ (gids (hSto σ n l) 11 (hVal n l)).Nodup := by
  unfold hVal hSto
  by_cases h : l = []
  · rw [if_pos h, if_pos h, h]; exact ⟨rfl, by simp [gids]⟩
  · rw [if_neg h, if_neg h, ownH_eq h]
    have hg : ∀ x ∈ hs l, elemM (giv (upd σ n (some (.row 2 (hs l)))) 10) x = some x := by
      intro x hx
      obtain ⟨y, -, rfl⟩ := List.mem_map.1 hx
      rfl
    have hg' : ∀ x ∈ hs l, ∀ c ∈ x.cells, gids (upd σ n (some (.row 2 (hs l)))) 10 c = [] := by
      intro x hx c hc
      obtain ⟨y, -, rfl⟩ := List.mem_map.1 hx
      simp only [hitV, V.cells, List.mem_cons, List.not_mem_nil, or_false] at hc
      rcases hc with rfl | rfl <;> rfl
    have hat : upd σ n (some (.row 2 (hs l))) n = some (.row 2 (hs l)) := by simp [upd]
    constructor
    · simp only [giv, hat, hs_len, and_self, if_true]
      rw [mapM_id hg]; rfl
    · simp only [gids, hat]
      rw [List.flatMap_eq_nil_iff.2 fun x hx => List.flatMap_eq_nil_iff.2 fun c hc => hg' x hx c hc]
      simp

theorem sum_mono (l : List (Option (List Hit))) (j : Nat) : ((l.take j).flatMap lst).length ≤ (l.flatMap lst).length := by
  conv => rhs; rw [← List.take_append_drop j l]
  rw [List.flatMap_append, List.length_append]
  omega

theorem r18 (k : Int) (o : Option (List (Option (List Hit)))) (hlo : (lst o).length < 9223372036854775808) (hli : ∀ r ∈ lst o, (lst r).length < 4611686018427387904) :
    res T 18 [.int .i64 k, slV 1 (slV 2 hitV) o] = some (.tup [ownH (merV k ((lst o).flatMap lst)), .int .i64 (merE k ((lst o).flatMap lst))]) := by
  refine run_res (run_own (fn := g18) rfl rfl (by decide) ?_)
  simp only [g18, b18]
  by_cases hk1 : k < 1
  · have e1 : merE k ((lst o).flatMap lst) = 2 := if_pos (.inl hk1)
    have e2 : merV k ((lst o).flatMap lst) = [] := by unfold merV; rw [e1]; rfl
    rw [e1, e2]
    simp +contextual -implicitDefEqProofs (maxSteps := 2000000) only [↓wP, wQ, wQ1, wQ2, wQ3, wR, boxE, partsOf, ↓reduceIte, Nat.reduceEqDiff, Nat.reduceAdd, Nat.reduceSub, Nat.reduceLeDiff, Nat.reduceLT, Nat.reduceMul, reduceCtorEq, Int.reduceBNe, Int.reduceBEq, Int.reduceLT, Int.reduceLE, Int.reduceGT, hk1]
    exact ⟨rfl, by simp [gids]⟩
  · by_cases hk2 : 16 < k
    · have e1 : merE k ((lst o).flatMap lst) = 2 := if_pos (.inr hk2)
      have e2 : merV k ((lst o).flatMap lst) = [] := by unfold merV; rw [e1]; rfl
      rw [e1, e2]
      simp +contextual -implicitDefEqProofs (maxSteps := 2000000) only [↓wP, wQ, wQ1, wQ2, wQ3, wR, boxE, partsOf, ↓reduceIte, Nat.reduceEqDiff, Nat.reduceAdd, Nat.reduceSub, Nat.reduceLeDiff, Nat.reduceLT, Nat.reduceMul, reduceCtorEq, Int.reduceBNe, Int.reduceBEq, Int.reduceLT, Int.reduceLE, Int.reduceGT, hk1, hk2]
      exact ⟨rfl, by simp [gids]⟩
    · obtain ⟨kn, rfl⟩ : ∃ kn : Nat, k = (kn : Int) := ⟨k.toNat, by omega⟩
      simp +contextual -implicitDefEqProofs (maxSteps := 2000000) only [↓wP, wQ, wQ1, wQ2, wQ3, wR, boxE, partsOf, ↓reduceIte, Nat.reduceEqDiff, Nat.reduceAdd, Nat.reduceSub, Nat.reduceLeDiff, Nat.reduceLT, Nat.reduceMul, reduceCtorEq, Int.reduceBNe, Int.reduceBEq, Int.reduceLT, Int.reduceLE, Int.reduceGT, hk1, hk2]
      refine WC_for (lst o).length 0 (fun (j : Nat) env σ n => σ = Sto.empty ∧ n = 0 ∧ env 0 = .int .i64 (kn : Int) ∧ env 1 = slV 1 (slV 2 hitV) o ∧ env 15 = slV 1 (slV 2 hitV) o ∧ env 6 = .int .i64 ((((lst o).take j).flatMap lst).length : Int) ∧ (((lst o).take j).flatMap lst).length ≤ 2000) hlo (by decide) (by decide) (fun _ _ => rfl) (fun _ _ _ => rfl) ?_ ?_ _ _ _ rfl rfl ?_
      · intro j env σ n hj h1 h2 ⟨g1, g2, h3, h4, h5, h6, h7⟩
        subst g1 g2
        simp only [vl_tmp] at h2
        have hx : (lst o)[j]? = some (lst o)[j] := List.getElem?_eq_getElem hj
        have hr := hli _ (List.getElem_mem hj)
        have ht : ((lst o).take (j + 1)).flatMap lst = ((lst o).take j).flatMap lst ++ lst (lst o)[j] := by
          rw [← List.take_append_getElem hj, List.flatMap_append]
          simp
        have hmono := sum_mono (lst o) (j + 1)
        generalize (lst o)[j] = r at *
        rw [ht, List.length_append] at hmono
        have wa : IntKind.i64.wrap (((((lst o).take j).flatMap lst).length : Int) + ((lst r).length : Int)) = (((((lst o).take j).flatMap lst).length + (lst r).length : Nat) : Int) := by rw [wrap_i64] <;> omega
        by_cases hbig : 2000 < (((lst o).take j).flatMap lst).length + (lst r).length
        · have hbig' : (2000 : Int) < (((((lst o).take j).flatMap lst).length + (lst r).length : Nat) : Int) := by omega
          have e1 : merE (kn : Int) ((lst o).flatMap lst) = 3 := by
            unfold merE
            rw [if_neg (by omega), if_pos (by omega)]
          have e2 : merV (kn : Int) ((lst o).flatMap lst) = [] := by unfold merV; rw [e1]; rfl
          rw [e1, e2]
          simp +contextual -implicitDefEqProofs (maxSteps := 2000000) only [↓wP, wQ, wQ1, wQ2, wQ3, wR, boxE, partsOf, ↓reduceIte, Nat.reduceEqDiff, Nat.reduceAdd, Nat.reduceSub, Nat.reduceLeDiff, Nat.reduceLT, Nat.reduceMul, reduceCtorEq, Int.reduceBNe, Int.reduceBEq, Int.reduceLT, Int.reduceLE, Int.reduceGT, h1, h2, h3, h4, h5, h6, hx, wa, hbig']
          exact ⟨rfl, by simp [gids]⟩
        · have hbig' : ¬ (2000 : Int) < (((((lst o).take j).flatMap lst).length + (lst r).length : Nat) : Int) := by omega
          simp +contextual -implicitDefEqProofs (maxSteps := 2000000) only [↓wP, wQ, wQ1, wQ2, wQ3, wR, boxE, partsOf, ↓reduceIte, Nat.reduceEqDiff, Nat.reduceAdd, Nat.reduceSub, Nat.reduceLeDiff, Nat.reduceLT, Nat.reduceMul, reduceCtorEq, Int.reduceBNe, Int.reduceBEq, Int.reduceLT, Int.reduceLE, Int.reduceGT, h1, h2, h3, h4, h5, h6, hx, wa, hbig']
          rw [ht, List.length_append]
          exact ⟨rfl, by omega⟩
      · intro env σ n ⟨g1, g2, h3, h4, h5, h6, h7⟩ h1 h2
        subst g1 g2
        rw [List.take_length] at h7
        have e1 : merE (kn : Int) ((lst o).flatMap lst) = 0 := by
          unfold merE
          rw [if_neg (by omega), if_neg (by omega)]
        have e2 : merV (kn : Int) ((lst o).flatMap lst) = fst' kn ((lst o).flatMap lst) := by unfold merV; rw [if_pos e1]; rfl
        have h25 := r42 kn o (by omega) (by omega) hlo (fun r hr => by have := hli r hr; omega)
        rw [e1, e2]
        have e : [V.int .i64 (kn : Int), slV 1 (slV 2 hitV) o].mapM (frz Sto.empty 12) = some [V.int .i64 (kn : Int), slV 1 (slV 2 hitV) o] := by
          simp only [List.mapM_cons, List.mapM_nil, frz_slV, frz_int]; rfl
        generalize fst' kn ((lst o).flatMap lst) = l at *
        have f42 := fun n lk => callE_flat (fs := true) (n := n) (lk := lk) (by decide) e h25 (flat_ownH l)
        simp only [thaw_ownH] at f42
        have hg := hVal_giv11 Sto.empty 0 l
        simp +contextual -implicitDefEqProofs (maxSteps := 2000000) only [↓wP, wQ, wQ1, wQ2, wQ3, wR, boxE, partsOf, ↓reduceIte, Nat.reduceEqDiff, Nat.reduceAdd, Nat.reduceSub, Nat.reduceLeDiff, Nat.reduceLT, Nat.reduceMul, reduceCtorEq, Int.reduceBNe, Int.reduceBEq, Int.reduceLT, Int.reduceLE, Int.reduceGT, h3, h4, f42]
        exact giv_tup2 hg rfl rfl
      · simp +contextual -implicitDefEqProofs (maxSteps := 2000000) only [↓wP, wQ, wQ1, wQ2, wQ3, wR, boxE, partsOf, ↓reduceIte, Nat.reduceEqDiff, Nat.reduceAdd, Nat.reduceSub, Nat.reduceLeDiff, Nat.reduceLT, Nat.reduceMul, reduceCtorEq, Int.reduceBNe, Int.reduceBEq, Int.reduceLT, Int.reduceLE, Int.reduceGT]
        simp
end Go.Q.S11
end

section
/- First of a row; selections. -/
set_option linter.unusedSimpArgs false
set_option linter.unusedVariables false
namespace Go.Q.S11
open Go.Q Go.Sort

theorem flat_tup2 {a b : V} (h : flat a = true) (h' : flat b = true) : flat (.tup [a, b]) = true := by simp [flat, flatL, h, h']
theorem thaw_hTup (σ : Sto) (n : Nat) (l : List Hit) (e : Int) : thaw σ n (.tup [ownH l, .int .i64 e]) = (.tup [hVal n l, .int .i64 e], hSto σ n l, hN n l) := by
  rw [thaw_tup, thawL_cons, thaw_ownH]
  rfl

theorem merge_one (o : Option (List Hit)) : (lst (some [o])).flatMap lst = lst o := by simp [lst]
theorem r56 (k : Int) (o : Option (List Hit)) (hl : (lst o).length < 4611686018427387904) : res T 56 [slV 2 hitV o, .int .i64 k] = some (.tup [ownH (merV k (lst o)), .int .i64 (merE k (lst o))]) := by
  refine run_res (run_own (fn := g56) rfl rfl (by decide) ?_)
  simp only [g56, b56]
  have h16 := r18 k (some [o]) (by simp [lst]) (fun r hr => by simp [lst_some] at hr; subst hr; exact hl)
  rw [merge_one] at h16
  have e : [V.int .i64 k, .ref 0 0 1 1].mapM (frz (upd Sto.empty 0 (some (.row 1 [slV 2 hitV o]))) 12) = some [V.int .i64 k, slV 1 (slV 2 hitV) (some [o])] := by
    have hx : frz (upd Sto.empty 0 (some (.row 1 [slV 2 hitV o]))) 12 (.ref 0 0 1 1) = some (.sl 1 [slV 2 hitV o]) := by
      have := (Fz.ref (σ := upd Sto.empty 0 (some (.row 1 [slV 2 hitV o]))) (id := 0) (sz := 1) (xs := [slV 2 hitV o]) (ts := [slV 2 hitV o]) (k := 11) (S := fun _ => True) (by simp [upd]) trivial
        (FzL.trees (fun x hx => by rw [List.mem_singleton] at hx; subst hx; exact Tr_slV 2 _ o _) (fun x hx c hc => by rw [List.mem_singleton] at hx; subst hx; rw [cl_slV, List.mem_singleton] at hc; subst hc; exact Tr_slV 2 _ o _))).1
      exact this
    simp only [List.mapM_cons, List.mapM_nil, hx, frz_int]
    rfl
  have f18 := fun n lk => callE_flat (fs := true) (n := n) (lk := lk) (by decide) e h16 (flat_tup2 (flat_ownH _) rfl)
  simp only [thaw_hTup] at f18
  have hg := fun σ n => hVal_giv11 σ n (merV k (lst o))
  simp +contextual -implicitDefEqProofs (maxSteps := 2000000) only [↓wP, wQ, wQ1, wQ2, wQ3, wR, boxE, partsOf, ↓reduceIte, Nat.reduceEqDiff, Nat.reduceAdd, Nat.reduceSub, Nat.reduceLeDiff, Nat.reduceLT, Nat.reduceMul, reduceCtorEq, Int.reduceBNe, Int.reduceBEq, Int.reduceLT, Int.reduceLE, Int.reduceGT, f18]
  exact giv_tup2 (hg _ _) rfl rfl

theorem f56 {σ : Sto} {v : V} {l : List Hit} (k : Int) (ha : Hf σ v l) (hl : l.length < 4611686018427387904) (fs : Bool) (n lk : Nat) :
    callE T fs 56 [v, .int .i64 k] σ n lk = some (.tup [hVal n (merV k l), .int .i64 (merE k l)], hSto σ n (merV k l), hN n (merV k l)) := by
  obtain ⟨o, rfl, h1⟩ := ha
  have e : [v, V.int .i64 k].mapM (frz σ 12) = some [slV 2 hitV o, .int .i64 k] := by simp only [List.mapM_cons, List.mapM_nil, h1]; rfl
  rw [callE_flat (by decide) e (r56 k o hl) (flat_tup2 (flat_ownH _) rfl), thaw_hTup]

end Go.Q.S11
end

section
/- The first hits of rows, by definition. -/
set_option linter.unusedSimpArgs false
set_option linter.unusedVariables false
namespace Go.Q.S11
open Go.Q Go.Sort

theorem pos_up {h : Hit} {s : List Hit} (hs : Srt s) {i : Nat} (hi : i < s.length) (hp : pos h s ≤ i) : ahead h s[i] = true := by
  have hl : pos h s < s.length := by omega
  have h0 := pos_at hl
  rcases Nat.lt_or_eq_of_le hp with hlt | heq
  · have h1 : ahead s[i] s[pos h s] = false := List.pairwise_iff_getElem.1 hs (pos h s) i hl hi hlt
    cases hc : ahead h s[i]
    · have := swoA.ntrans _ _ _ hc h1
      rw [this] at h0; cases h0
    · rfl
  · have e : s[i] = s[pos h s] := by congr 1; exact heq.symm
    rw [e]; exact h0

/-- A row of hits under way: the first ones of an object's. -/
def Px (σ : Sto) (n : Nat) (v : V) (s : List Hit) : Prop := (s = [] ∧ v = .nilS) ∨ ∃ i L, v = .ref i 0 s.length 2 ∧ s ≠ [] ∧ σ i = some (.row 2 (hs L)) ∧ 1 ≤ i ∧ i < n ∧ L.take s.length = s

theorem Px.frz {σ : Sto} {n : Nat} {v : V} {s : List Hit} (h : Px σ n v s) (k : Nat) : Go.Q.frz σ (k + 3) v = some (slV 2 hitV (optH s)) := by
  rcases h with ⟨rfl, rfl⟩ | ⟨i, L, rfl, h2, h3, h4, h5, h6⟩
  · rfl
  · have hl : s.length ≤ L.length := by rw [← h6, List.length_take]; omega
    have e : (rw' L.toArray).take s.length = hs s := by rw [rw_hs, hs_take, h6]
    rw [frz_pre (d := L.toArray) (by simpa using hl) (by rw [rw_hs]; exact h3) k, e]
    simp [optH, h2, slV, hs]

def hitR (q : Option (List Int)) (r : Rw) : Hit := ⟨r.id, distI r.v q⟩
def fndB (q : Option (List Int)) (l : List Rw) : Bool := l.all fun r => decide ((lst r.v).length = (lst q).length)
def fndL (q : Option (List Int)) (k : Nat) (l : List Rw) : List Hit := if fndB q l then fst' k (l.map (hitR q)) else []

theorem r15 (o : Option (List Rw)) (q : Option (List Int)) (k : Nat) (hk : 1 ≤ k) (hk' : k ≤ 16) (hq : okV q = true) (ho : ∀ r ∈ lst o, okV r.v = true) (hl : (lst o).length < 1000000) : res T 15 [slV 2 rwV o, .agg [slV 1 i32V q, .int .i64 (k : Int)]] = some (.tup [slV 2 hitV (optH (fndL q k (lst o))), .bool (fndB q (lst o))]) := by
  refine run_res (run_pure (fn := g15) rfl rfl (by decide) ?_)
  simp only [g15, b15]
  simp +contextual -implicitDefEqProofs (maxSteps := 2000000) only [↓wP, wQ, wQ1, wQ2, wQ3, wR, boxE, partsOf, ↓reduceIte, Nat.reduceEqDiff, Nat.reduceAdd, Nat.reduceSub, Nat.reduceLeDiff, Nat.reduceLT, Nat.reduceMul, reduceCtorEq, Int.reduceBNe, Int.reduceBEq, Int.reduceLT, Int.reduceLE, Int.reduceGT]
  refine WC_loopI 0 (fun (j : Nat) env σ n => j ≤ (lst o).length ∧ env 7 = .int .i64 (j : Int) ∧ env 0 = slV 2 rwV o ∧ env 3 = .ptr 0 2 0 0 ∧ σ 0 = some (.row 2 [.agg [slV 1 i32V q, .int .i64 (k : Int)]]) ∧ 1 ≤ n ∧ fndB q ((lst o).take j) = true ∧
    Px σ n (env 6) (fst' k (((lst o).take j).map (hitR q)))) (fun j => (lst o).length - j) ?_ 0 _ _ _ ?_
  · intro j env σ n ⟨g0, g1, g2, g3, g4, g5, g6, g7⟩
    generalize hv6 : env 6 = v6 at g7
    by_cases hj : j < (lst o).length
    · have hd : decide ((j : Int) < ((lst o).length : Int)) = true := by simp [hj]
      have hw : IntKind.i64.wrap ((j : Int) + 1) = ((j + 1 : Nat) : Int) := by rw [wrap_i64] <;> omega
      have hx : (lst o)[j]? = some (lst o)[j] := List.getElem?_eq_getElem hj
      have hr := ho _ (List.getElem_mem hj)
      have ht := (List.take_append_getElem hj).symm
      generalize (lst o)[j] = r at *
      by_cases hlen : (lst r.v).length = (lst q).length
      · have hne : (((lst r.v).length : Int) != ((lst q).length : Int)) = false := by simp [hlen]
        have hB : fndB q ((lst o).take (j + 1)) = true := by rw [ht]; unfold fndB at *; rw [List.all_append, g6]; simp [hlen]
        have hF : fst' k (((lst o).take (j + 1)).map (hitR q)) = (ins (hitR q r) (fst' k (((lst o).take j).map (hitR q)))).take k := by rw [ht, List.map_append, List.map_cons, List.map_nil, fst_snoc]
        have hsrt := fst_srt k (((lst o).take j).map (hitR q))
        have hsl : (fst' k (((lst o).take j).map (hitR q))).length ≤ k := by rw [fst_len]; omega
        have f40' := f40 r.v q ⟨hr, hq, hlen⟩
        generalize fst' k (((lst o).take j).map (hitR q)) = s at *
        have hid : hide σ n n [0] 0 = some (.row 2 [.agg [slV 1 i32V q, .int .i64 (k : Int)]]) := by rw [hide_low _ _ _ _ (by omega) (Nat.le_refl _)]; exact g4
        have e0 : (0 = n) = False := by simp; omega
        obtain ⟨h, hh⟩ : ∃ h, h = hitR q r := ⟨_, rfl⟩
        obtain ⟨σ1, hσ1⟩ : ∃ σ1, σ1 = upd (upd σ n (some (.row 2 [.agg [.int .u64 0, .int .u64 0]]))) n (some (.row 2 [.agg [.int .u64 r.id, .int .u64 (distI r.v q)]])) := ⟨_, rfl⟩
        have sn : σ1 n = some (.row 2 [.agg [.int .u64 h.id, .int .u64 h.d]]) := by rw [hσ1, hh]; simp [upd, hitR]
        have so : ∀ i, i < n → σ1 i = σ i := fun i hi => by
          have : i ≠ n := by omega
          rw [hσ1]; simp [upd, this]
        have g4' : σ1 0 = some (.row 2 [.agg [slV 1 i32V q, .int .i64 (k : Int)]]) := by rw [so 0 (by omega)]; exact g4
        have hbig := big_le
        have hlen6 : lenE v6 = some (.int .i64 (s.length : Int)) := by
          rcases g7 with ⟨e1, e2⟩ | ⟨i, L, e1, -⟩
          · rw [e1, e2]; rfl
          · rw [e1]; rfl
        rw [← hh] at hF
        simp +contextual -implicitDefEqProofs (maxSteps := 2000000) only [↓wP, wQ, wQ1, wQ2, wQ3, wR, boxE, partsOf, ↓reduceIte, Nat.reduceEqDiff, Nat.reduceAdd, Nat.reduceSub, Nat.reduceLeDiff, Nat.reduceLT, Nat.reduceMul, reduceCtorEq, Int.reduceBNe, Int.reduceBEq, Int.reduceLT, Int.reduceLE, Int.reduceGT, g1, g2, g3, g4, hd, hx, rwV_eq, hne, hv6, hid, f40', mg1, lay1, Nat.mul_one, Nat.mul_zero, ← hσ1, hlen6]
        refine WC_loopE 2 0 (fun (at' : Nat) env σ' n' => σ' = σ1 ∧ n' = n + BIG ∧ env 7 = .int .i64 (j : Int) ∧ env 0 = slV 2 rwV o ∧ env 3 = .ptr 0 2 0 0 ∧ env 6 = v6 ∧ env 8 = .ptr n 2 0 0 ∧ env 9 = .int .i64 (at' : Int) ∧ pos h s ≤ at' ∧ at' ≤ s.length) (fun at' => at')
          (fun env σ' n' => σ' = σ1 ∧ n' = n + BIG ∧ env 7 = .int .i64 (j : Int) ∧ env 0 = slV 2 rwV o ∧ env 3 = .ptr 0 2 0 0 ∧ env 6 = v6 ∧ env 8 = .ptr n 2 0 0 ∧ env 9 = .int .i64 (pos h s : Int)) ?_ ?_ s.length _ _ _ ?_
        · clear g1 g2 g3 hv6
          intro at' env σ' n' ⟨k1, k2, k3, k4, k5, k6, k7, k8, k9, k10⟩
          subst k1 k2
          by_cases hat : at' = 0
          · subst hat
            have hp0 : pos h s = 0 := by omega
            simp only [Int.natCast_zero] at k8
            rw [hp0]
            simp +contextual -implicitDefEqProofs (maxSteps := 2000000) only [↓wP, wQ, wQ1, wQ2, wQ3, wR, boxE, partsOf, ↓reduceIte, Nat.reduceEqDiff, Nat.reduceAdd, Nat.reduceSub, Nat.reduceLeDiff, Nat.reduceLT, Nat.reduceMul, reduceCtorEq, Int.reduceBNe, Int.reduceBEq, Int.reduceLT, Int.reduceLE, Int.reduceGT, exQ_exit, k3, k4, k5, k6, k7, k8, Int.natCast_zero]
          · obtain ⟨m, rfl⟩ : ∃ m, at' = m + 1 := ⟨at' - 1, by omega⟩
            have hgt : (0 : Int) < ((m + 1 : Nat) : Int) := by omega
            have wk : IntKind.i64.wrap (((m + 1 : Nat) : Int) - 1) = (m : Int) := by rw [wrap_i64] <;> omega
            rcases g7 with ⟨e1, e2⟩ | ⟨i, L, e1, e2, e3, e4, e5, e6⟩
            · rw [e1] at k10; simp at k10
            · have r1 : σ' i = some (.row 2 (hs L)) := by rw [so i e5]; exact e3
              have hm : m < s.length := by omega
              have hLl : s.length ≤ L.length := by rw [← e6, List.length_take]; omega
              have hgL : (hs L)[m]? = some (.agg [.int .u64 s[m].id, .int .u64 s[m].d]) := by
                rw [hs_get (show m < L.length by omega)]
                have : L[m] = s[m] := by
                  have := List.getElem_take (xs := L) (j := s.length) (i := m) (h := by rw [List.length_take]; omega)
                  rw [← this]; congr 1
                rw [this]
              subst e1
              by_cases hlt : pos h s ≤ m
              · have hah := pos_up hsrt hm hlt
                have e41 : ahead ⟨h.id, h.d⟩ ⟨s[m].id, s[m].d⟩ = true := hah
                simp +contextual -implicitDefEqProofs (maxSteps := 2000000) only [↓wP, wQ, wQ1, wQ2, wQ3, wR, boxE, partsOf, ↓reduceIte, Nat.reduceEqDiff, Nat.reduceAdd, Nat.reduceSub, Nat.reduceLeDiff, Nat.reduceLT, Nat.reduceMul, reduceCtorEq, Int.reduceBNe, Int.reduceBEq, Int.reduceLT, Int.reduceLE, Int.reduceGT, exQ_exit, k3, k4, k5, k6, k7, k8, hgt, wk, hm, sn, r1, hgL, f41, e41]
                exact ⟨m, by omega, rfl, hlt, by omega⟩
              · have e : m + 1 = pos h s := by omega
                have hah := pos_lt (h := h) (s := s) (i := m) (by omega) hm
                have e41 : ahead ⟨h.id, h.d⟩ ⟨s[m].id, s[m].d⟩ = false := hah
                rw [← e]
                simp +contextual -implicitDefEqProofs (maxSteps := 2000000) only [↓wP, wQ, wQ1, wQ2, wQ3, wR, boxE, partsOf, ↓reduceIte, Nat.reduceEqDiff, Nat.reduceAdd, Nat.reduceSub, Nat.reduceLeDiff, Nat.reduceLT, Nat.reduceMul, reduceCtorEq, Int.reduceBNe, Int.reduceBEq, Int.reduceLT, Int.reduceLE, Int.reduceGT, exQ_exit, k3, k4, k5, k6, k7, k8, hgt, wk, hm, sn, r1, hgL, f41, e41]
        · clear g1 g2 g3 hv6
          intro env σ' n' ⟨k1, k2, k3, k4, k5, k6, k7, k8⟩
          subst k1 k2
          have hnm : n < n + BIG := by omega
          generalize n + BIG = m at *
          have lay2 : (m + BIG + 1 ≤ m + BIG + BIG) = True := by simp; omega
          have q1 : (m = m + BIG) = False := by simp; omega
          have q0 : (0 = m) = False := by simp; omega
          have q2 : (0 = m + BIG) = False := by simp; omega
          have q3 : (0 = m + BIG * 2) = False := by simp; omega
          have lay3 : (m + (BIG + 1) ≤ m + (BIG + BIG)) = True := by simp; omega
          have l16 : (16 ≤ LIM) = True := by unfold LIM; simp
          rcases g7 with ⟨e1, e2⟩ | ⟨i, L, e1, e2, e3, e4, e5, e6⟩
          · have hp0 : pos h s = 0 := by have := pos_le h s; rw [e1] at this ⊢; simpa using this
            rw [hp0] at k8
            simp only [Int.natCast_zero] at k8
            subst e1 e2
            have hk1 : ¬ (k : Int) < 1 := by omega
            simp +contextual -implicitDefEqProofs (maxSteps := 2000000) only [↓wP, wQ, wQ1, wQ2, wQ3, wR, boxE, partsOf, ↓reduceIte, Nat.reduceEqDiff, Nat.reduceAdd, Nat.reduceSub, Nat.reduceLeDiff, Nat.reduceLT, Nat.reduceMul, reduceCtorEq, Int.reduceBNe, Int.reduceBEq, Int.reduceLT, Int.reduceLE, Int.reduceGT, k3, k4, k5, k6, k7, k8, evw_slice3, slice3E, sliceE_nil, intOf, boundOf, BEq.rfl, Option.isSome_some, Int.natCast_zero, true_or, true_and, lay3, l16, sn, lay2, appendE_nil, List.isEmpty_cons, q0, q2, q3, g4', hw, mg1, lay1, lay2, q1, Nat.mul_one, Nat.mul_zero, Int.natCast_one, hk1, Int.toNat_zero]
            have hfin : fst' k (((lst o).take (j + 1)).map (hitR q)) = [h] := by
              rw [hF]; exact List.take_of_length_le (by simp [ins]; omega)
            refine ⟨j + 1, by omega, by omega, rfl, by omega, hB, ?_⟩
            rw [hfin]
            exact .inr ⟨m + BIG * 2, [h], rfl, by simp, by simp [upd, hs, hitV], by omega, by omega, rfl⟩
          · have r1 : σ' i = some (.row 2 (hs L)) := by rw [so i e5]; exact e3
            have hple := pos_le h s
            have hLl : s.length ≤ L.length := by rw [← e6, List.length_take]; omega
            have hel : elemsO (some (.row 2 (hs L))) 2 (pos h s) (s.length - pos h s) = some (hs (s.drop (pos h s))) := by
              simp only [elemsO, true_and]
              rw [if_pos (by rw [hs_len]; omega)]
              congr 1
              have : ((hs L).take s.length).drop (pos h s) = hs (s.drop (pos h s)) := by rw [hs_take, e6]; simp [hs, List.map_drop]
              rw [← this, List.drop_take]
            have htk : (hs L).take (pos h s) = hs (s.take (pos h s)) := by
              rw [hs_take]
              have : s.take (pos h s) = L.take (pos h s) := by
                have h7 := congrArg (List.take (pos h s)) e6
                rw [List.take_take, Nat.min_eq_left hple] at h7
                exact h7.symm
              rw [this]
            have i0 : (i = m) = False := by simp; omega
            have q4 : (0 = i) = False := by simp; omega
            have hil : (ins h s).length = s.length + 1 := ins_len h s
            have i1 : (i = m + BIG) = False := by simp; omega
            have c1 : ((pos h s : Int) ≤ (s.length : Int)) = True := by simp; omega
            have c2 : (pos h s ≤ s.length) = True := by simp; omega
            have c3 : (pos h s ≤ (hs L).length) = True := by rw [hs_len]; simp; omega
            have c4 : ((1 + (s.length - pos h s)) * 16 ≤ LIM) = True := by unfold LIM; simp; omega
            have c5 : ((pos h s + (1 + (s.length - pos h s))) * 16 ≤ LIM) = True := by unfold LIM; simp; omega
            have hdl : (hs (s.drop (pos h s))).length = s.length - pos h s := by rw [hs_len, List.length_drop]
            have hdd : (1 + (s.length - pos h s) ≤ s.length - pos h s + 1) = True := by simp; omega
            have htt : ∀ x : V, (x :: hs (s.drop (pos h s))).take (1 + (s.length - pos h s)) = x :: hs (s.drop (pos h s)) := fun x => List.take_of_length_le (by rw [List.length_cons, hdl]; omega)
            have hln : pos h s + (s.length - pos h s + 1) = s.length + 1 := by omega
            have cor : (pos h s = (hs L).length ∨ pos h s < (hs L).length) = True := by rw [hs_len]; simp; omega
            have hif : (if pos h s = (hs L).length then hs L else hs (s.take (pos h s))) = hs (s.take (pos h s)) := by
              split
              · rename_i hc
                rw [← htk, hc, List.take_length]
              · rfl
            have hrow : hs (s.take (pos h s)) ++ V.agg [.int .u64 h.id, .int .u64 h.d] :: hs (s.drop (pos h s)) = hs (ins h s) := by
              rw [ins_eq]; simp [hs, hitV]
            have c6 : ((s.length + 1) * 16 ≤ LIM) = True := by unfold LIM; simp; omega
            generalize hp : pos h s = p at *
            subst e1
            by_cases hkk' : k < s.length + 1
            · have hkk : decide ((k : Int) < ((s.length + 1 : Nat) : Int)) = true := by simp; omega
              have hkk2 : decide ((k : Int) < (s.length : Int) + 1) = true := by simp; omega
              have ck : ((k : Int) ≤ (s.length : Int) + 1) = True := by simp; omega
              simp +contextual -implicitDefEqProofs (maxSteps := 2000000) only [↓wP, wQ, wQ1, wQ2, wQ3, wR, boxE, partsOf, ↓reduceIte, Nat.reduceEqDiff, Nat.reduceAdd, Nat.reduceSub, Nat.reduceLeDiff, Nat.reduceLT, Nat.reduceMul, reduceCtorEq, Int.reduceBNe, Int.reduceBEq, Int.reduceLT, Int.reduceLE, Int.reduceGT, k3, k4, k5, k6, k7, k8, evw_slice3, slice3E, intOf, boundOf, BEq.rfl, Option.isSome_some, Int.natCast_nonneg, Int.toNat_natCast, true_or, true_and, lay3, sn, lay2, q0, q2, q3, g4', hw, mg1, lay1, q1, Nat.mul_one, Nat.mul_zero, r1, hel, htk, i0, i1, c1, c2, c3, hdl, hdd, htt, Nat.sub_zero, List.length_cons, hln, c4, c5, c6, cor, hif, hrow, q4, hkk, hkk2, Int.natCast_add, Int.natCast_one, ck]
              refine ⟨j + 1, by omega, by omega, rfl, by omega, hB, ?_⟩
              rw [hF]
              have hkl : ((ins h s).take k).length = k := by rw [List.length_take]; omega
              exact .inr ⟨m + BIG * 2, ins h s, by rw [hkl], by intro e; rw [e] at hkl; simp at hkl; omega, by simp [upd], by omega, by omega, by rw [hkl]⟩
            · have hkk : decide ((k : Int) < ((s.length + 1 : Nat) : Int)) = false := by simp; omega
              have hkk2 : decide ((k : Int) < (s.length : Int) + 1) = false := by simp; omega
              have ck : True := trivial
              simp +contextual -implicitDefEqProofs (maxSteps := 2000000) only [↓wP, wQ, wQ1, wQ2, wQ3, wR, boxE, partsOf, ↓reduceIte, Nat.reduceEqDiff, Nat.reduceAdd, Nat.reduceSub, Nat.reduceLeDiff, Nat.reduceLT, Nat.reduceMul, reduceCtorEq, Int.reduceBNe, Int.reduceBEq, Int.reduceLT, Int.reduceLE, Int.reduceGT, k3, k4, k5, k6, k7, k8, evw_slice3, slice3E, intOf, boundOf, BEq.rfl, Option.isSome_some, Int.natCast_nonneg, Int.toNat_natCast, true_or, true_and, lay3, sn, lay2, q0, q2, q3, g4', hw, mg1, lay1, q1, Nat.mul_one, Nat.mul_zero, r1, hel, htk, i0, i1, c1, c2, c3, hdl, hdd, htt, Nat.sub_zero, List.length_cons, hln, c4, c5, c6, cor, hif, hrow, q4, hkk, hkk2, Int.natCast_add, Int.natCast_one, ck]
              refine ⟨j + 1, by omega, by omega, rfl, by omega, hB, ?_⟩
              rw [hF, List.take_of_length_le (by omega)]
              exact .inr ⟨m + BIG * 2, ins h s, by rw [hil], by intro e; rw [e] at hil; simp at hil, by simp [upd], by omega, by omega, List.take_length⟩
        · simp +contextual -implicitDefEqProofs (maxSteps := 2000000) only [↓wP, wQ, wQ1, wQ2, wQ3, wR, boxE, partsOf, ↓reduceIte, Nat.reduceEqDiff, Nat.reduceAdd, Nat.reduceSub, Nat.reduceLeDiff, Nat.reduceLT, Nat.reduceMul, reduceCtorEq, Int.reduceBNe, Int.reduceBEq, Int.reduceLT, Int.reduceLE, Int.reduceGT, g1, g2, g3, hv6]
          exact pos_le h s
      · have hne : (((lst r.v).length : Int) != ((lst q).length : Int)) = true := by simp; omega
        have hB : fndB q (lst o) = false := by
          unfold fndB
          rw [List.all_eq_false]
          exact ⟨r, List.mem_of_getElem? hx, by simp [hlen]⟩
        have hL : fndL q k (lst o) = [] := by unfold fndL; rw [hB]; rfl
        rw [hB, hL]
        simp +contextual -implicitDefEqProofs (maxSteps := 2000000) only [↓wP, wQ, wQ1, wQ2, wQ3, wR, boxE, partsOf, ↓reduceIte, Nat.reduceEqDiff, Nat.reduceAdd, Nat.reduceSub, Nat.reduceLeDiff, Nat.reduceLT, Nat.reduceMul, reduceCtorEq, Int.reduceBNe, Int.reduceBEq, Int.reduceLT, Int.reduceLE, Int.reduceGT, g1, g2, g3, g4, hd, hx, rwV_eq, hne]
        rfl
    · have hd : decide ((j : Int) < ((lst o).length : Int)) = false := by simp; omega
      have hjl : j = (lst o).length := by omega
      rw [hjl, List.take_length] at g6 g7
      have hL : fndL q k (lst o) = fst' k ((lst o).map (hitR q)) := by unfold fndL; rw [g6]; rfl
      rw [g6, hL]
      have hf := g7.frz 8
      simp +contextual -implicitDefEqProofs (maxSteps := 2000000) only [↓wP, wQ, wQ1, wQ2, wQ3, wR, boxE, partsOf, ↓reduceIte, Nat.reduceEqDiff, Nat.reduceAdd, Nat.reduceSub, Nat.reduceLeDiff, Nat.reduceLT, Nat.reduceMul, reduceCtorEq, Int.reduceBNe, Int.reduceBEq, Int.reduceLT, Int.reduceLE, Int.reduceGT, g1, g2, g3, g4, hd, hv6, hf]
  · simp +contextual -implicitDefEqProofs (maxSteps := 2000000) only [↓wP, wQ, wQ1, wQ2, wQ3, wR, boxE, partsOf, ↓reduceIte, Nat.reduceEqDiff, Nat.reduceAdd, Nat.reduceSub, Nat.reduceLeDiff, Nat.reduceLT, Nat.reduceMul, reduceCtorEq, Int.reduceBNe, Int.reduceBEq, Int.reduceLT, Int.reduceLE, Int.reduceGT]
    exact ⟨rfl, rfl, Or.inl ⟨by simp [fst', srt], rfl⟩⟩
end Go.Q.S11
end

section
/- What is found among what is gone over. -/
set_option linter.unusedSimpArgs false
set_option linter.unusedVariables false
namespace Go.Q.S11
open Go.Q Go.Sort

/-- A round of a loop over a function that goes on, or is left for good. -/
theorem yieldW_gs {T : Tab} {l : Nat} {args : List V} {σ : Sto} {n lk : Nat} {Q : V → Sto → Nat → Prop} {env : Nat → V} {ps : List Nat} {assign body : AC} {pend : Option Ex}
    (hl : σ l = some (.loop env ps assign body .ready pend)) (ha : args.length = ps.length) (hlk : lk ≤ l)
    (h : WC T assign (bindPs env ps args) σ n lk fun ex s => ex = .normal ∧ s.σ l = some (.loop env ps assign body .ready pend) ∧ s.lk = lk ∧
      WC T body s.env (upd s.σ l (some (.loop env ps assign body .busy pend))) s.n lk fun ex s' => s'.σ l = some (.loop env ps assign body .busy pend) ∧
        ((ex = .normal ∧ Q (.bool true) (upd s'.σ l (some (.loop env ps assign body .ready none))) s'.n) ∨ (ex = .ret ∧ Q (.bool false) (upd s'.σ l (some (.loop env ps assign body .done (some .ret)))) s'.n))) : yieldW (run T) l args σ n lk Q := by
  unfold yieldW
  simp only [hl]
  refine ⟨ha, hlk, run_step ?_⟩
  simp only [jobW]
  refine wpC_mono (fun _ _ x => x) run_mono _ _ _ _ (fun e s ⟨h1, h2, h3, h4⟩ => ?_) (WC_ok _ _ _ _ _ _ h)
  obtain ⟨env1, σ1, n1, lk1⟩ := s
  simp only at h2 h3 h4
  subst h3
  refine ⟨h1, env, ps, assign, body, pend, h2, wpC_mono (fun _ _ x => x) run_mono _ _ _ _ (fun e2 s2 ⟨k2, k3⟩ => ?_) (WC_ok _ _ _ _ _ _ h4)⟩
  refine ⟨⟨env, ps, assign, body, pend, k2⟩, env, ps, assign, body, pend, k2, ?_⟩
  rcases k3 with ⟨rfl, k3⟩ | ⟨rfl, k3⟩
  · simpa using k3
  · simpa using k3

theorem hVal_frz {σ : Sto} {n : Nat} {l : List Hit} (h : l ≠ [] → σ n = some (.row 2 (hs l))) (k : Nat) : frz σ (k + 3) (hVal n l) = some (slV 2 hitV (optH l)) := by
  unfold hVal
  split
  · rename_i e; subst e; rfl
  · rename_i e
    have e1 : (rw' l.toArray).take l.length = hs l := by rw [rw_hs, hs_take, List.take_length]
    rw [frz_pre (d := l.toArray) (by simp) (by rw [rw_hs]; exact h e) k, e1]
    simp [optH, e, slV, hs]

/-- What goes over rows: each is yielded in turn; w numbers from 6 on are its own. -/
def Iter (F : Nat) (caps : List V) (items : List Rw) (w : Nat) : Prop :=
  ∀ (J : List Rw → Sto → Nat → Prop) (D : Sto → Nat → Prop) (ok : Rw → Bool) (σ : Sto),
    (∀ pre σ n σ' n', J pre σ n → n ≤ n' → (∀ i, i < n → (i < 6 ∨ 6 + w ≤ i) → σ' i = σ i) → J pre σ' n') →
    (∀ σ n σ' n', D σ n → (∀ i, i < 6 → σ' i = σ i) → D σ' n') →
    (∀ pre x σ n, J pre σ n → 6 + w ≤ n → x ∈ items → pre.length < items.length → yieldW (run T) 5 [.int .u64 x.id, slV 1 i32V x.v] σ n 0 (fun y σ' n' => (∀ i, 6 ≤ i → i < 6 + w → σ' i = σ i) ∧ n ≤ n' ∧
      ((ok x = true ∧ y = .bool true ∧ J (pre ++ [x]) σ' n') ∨ (ok x = false ∧ y = .bool false ∧ D σ' n')))) →
    (∀ σ' n', 6 + w ≤ n' → (∀ i, i < 6 → σ' i = σ i) → J [] σ' n') →
    run T (.raw F (.yld 5 :: caps) σ 6 0) (memQ fun _ σ' n' => (items.all ok = true ∧ J items σ' n') ∨ (items.all ok = false ∧ D σ' n'))

def asg32 : AC := (.seq (.reg [⟨(some 9), none, .mov (.tmp 14)⟩]) (.reg [⟨(some 10), none, .mov (.tmp 15)⟩]))
def bd32 : AC := (.block 1 (.seq (.reg [⟨(some 17), none, .load false 1 (.tmp 5)⟩,
       ⟨(some 18), none, .mov (.tmp 9)⟩,
       ⟨(some 19), none, .mov (.tmp 10)⟩,
       ⟨(some 20), none, .callv (.tmp 17) [(.tmp 18), (.tmp 19)]⟩,
       ⟨(some 16), none, .mov (.tmp 20)⟩,
       ⟨(some 21), none, .ext (.tmp 16) 0⟩,
       ⟨(some 22), none, .ext (.tmp 16) 1⟩,
       ⟨(some 11), none, .alloc (.agg [(.int .u64 0), (.int .u64 0)])⟩,
       ⟨none, none, .store 2 (.tmp 11) (.tmp 21)⟩,
       ⟨(some 12), none, .mov (.tmp 22)⟩])
     (.seq (.seq (.reg [⟨(some 23), none, .mov (.tmp 12)⟩,
       ⟨(some 24), none, .bin .neq (.tmp 23) (.con (.int .i64 0))⟩])
     (.cond (.tmp 24)
      (.seq (.reg [⟨(some 25), none, .mov (.tmp 12)⟩,
        ⟨none, none, .store 1 (.tmp 6) (.con .nilS)⟩,
        ⟨none, none, .store 1 (.tmp 7) (.tmp 25)⟩])
      .ret)
      .skip))
     (.reg [⟨(some 26), none, .load false 1 (.tmp 8)⟩,
       ⟨(some 27), none, .load true 2 (.tmp 11)⟩,
       ⟨(some 28), none, .lit 2 [(.tmp 27)]⟩,
       ⟨(some 29), none, .append 2 16 (.tmp 26) (.tmp 28)⟩,
       ⟨none, none, .store 1 (.tmp 8) (.tmp 29)⟩]))))
theorem w_asg32 (env : Nat → V) (σ : Sto) (n lk : Nat) (Q : Ex → St → Prop) : WC T asg32 env σ n lk Q = WC T (.seq (.reg [⟨(some 9), none, .mov (.tmp 14)⟩]) (.reg [⟨(some 10), none, .mov (.tmp 15)⟩])) env σ n lk Q := rfl
theorem w_bd32 (env : Nat → V) (σ : Sto) (n lk : Nat) (Q : Ex → St → Prop) : WC T bd32 env σ n lk Q = WC T (.block 1 (.seq (.reg [⟨(some 17), none, .load false 1 (.tmp 5)⟩,
       ⟨(some 18), none, .mov (.tmp 9)⟩,
       ⟨(some 19), none, .mov (.tmp 10)⟩,
       ⟨(some 20), none, .callv (.tmp 17) [(.tmp 18), (.tmp 19)]⟩,
       ⟨(some 16), none, .mov (.tmp 20)⟩,
       ⟨(some 21), none, .ext (.tmp 16) 0⟩,
       ⟨(some 22), none, .ext (.tmp 16) 1⟩,
       ⟨(some 11), none, .alloc (.agg [(.int .u64 0), (.int .u64 0)])⟩,
       ⟨none, none, .store 2 (.tmp 11) (.tmp 21)⟩,
       ⟨(some 12), none, .mov (.tmp 22)⟩])
     (.seq (.seq (.reg [⟨(some 23), none, .mov (.tmp 12)⟩,
       ⟨(some 24), none, .bin .neq (.tmp 23) (.con (.int .i64 0))⟩])
     (.cond (.tmp 24)
      (.seq (.reg [⟨(some 25), none, .mov (.tmp 12)⟩,
        ⟨none, none, .store 1 (.tmp 6) (.con .nilS)⟩,
        ⟨none, none, .store 1 (.tmp 7) (.tmp 25)⟩])
      .ret)
      .skip))
     (.reg [⟨(some 26), none, .load false 1 (.tmp 8)⟩,
       ⟨(some 27), none, .load true 2 (.tmp 11)⟩,
       ⟨(some 28), none, .lit 2 [(.tmp 27)]⟩,
       ⟨(some 29), none, .append 2 16 (.tmp 26) (.tmp 28)⟩,
       ⟨none, none, .store 1 (.tmp 8) (.tmp 29)⟩])))) env σ n lk Q := rfl

def hitQ (q : Option (List Int)) (r : Rw) : Hit := ⟨r.id, distI q r.v⟩
structure Jq (q : Option (List Int)) (k : Int) (env : Nat → V) (w : Nat) (pre : List Rw) (σ : Sto) (n : Nat) : Prop where
  hn : 6 + w ≤ n
  s0 : σ 0 = some (.row 2 [.agg [slV 1 i32V q, .int .i64 k]])
  s1 : σ 1 = some (.row 1 [.bnd 37 [.agg [slV 1 i32V q, .int .i64 k]]])
  s2 : σ 2 = some (.row 1 [.nilS])
  s3 : σ 3 = some (.row 1 [.int .i64 0])
  s5 : σ 5 = some (.loop env [14, 15] asg32 bd32 .ready none)
  s4 : ∃ v, σ 4 = some (.row 1 [v]) ∧ Pl σ (6 + w) n 2 v (oH (pre.map (hitQ q)))
structure Dq (env : Nat → V) (σ : Sto) (n : Nat) : Prop where
  s2 : σ 2 = some (.row 1 [.nilS])
  s3 : σ 3 = some (.row 1 [.int .i64 151])
  s5 : σ 5 = some (.loop env [14, 15] asg32 bd32 .done (some .ret))

theorem Jq.frame {q : Option (List Int)} {k : Int} {env : Nat → V} {w : Nat} {pre : List Rw} {σ σ' : Sto} {n n' : Nat} (h : Jq q k env w pre σ n) (hn : n ≤ n') (hs : ∀ i, i < n → (i < 6 ∨ 6 + w ≤ i) → σ' i = σ i) : Jq q k env w pre σ' n' := by
  obtain ⟨h1, h2, h3, h4, h5, h6, v, h7, h8⟩ := h
  exact ⟨by omega, by rw [hs 0 (by omega) (by omega), h2], by rw [hs 1 (by omega) (by omega), h3], by rw [hs 2 (by omega) (by omega), h4], by rw [hs 3 (by omega) (by omega), h5], by rw [hs 5 (by omega) (by omega), h6],
    v, by rw [hs 4 (by omega) (by omega), h7], h8.loc (fun i h1 h2 => hs i h2 (by omega)) hn⟩

theorem hy32 (q : Option (List Int)) (k : Int) (hq : okV q = true) (env : Nat → V) (w : Nat) (he5 : env 5 = .ptr 1 1 0 0) (he6 : env 6 = .ptr 2 1 0 0) (he7 : env 7 = .ptr 3 1 0 0) (he8 : env 8 = .ptr 4 1 0 0) (pre : List Rw) (x : Rw) (hx : okV x.v = true) (hpre : pre.length < 1000000)
    (σ : Sto) (n : Nat) (hJ : Jq q k env w pre σ n) (MP : V → Sto → Nat → Prop)
    (hT : decide ((lst q).length = (lst x.v).length) = true → ∀ σ' n', (∀ i, 6 ≤ i → i < 6 + w → σ' i = σ i) → n ≤ n' → Jq q k env w (pre ++ [x]) σ' n' → MP (.bool true) σ' n')
    (hF : decide ((lst q).length = (lst x.v).length) = false → ∀ σ' n', (∀ i, 6 ≤ i → i < 6 + w → σ' i = σ i) → n ≤ n' → Dq env σ' n' → MP (.bool false) σ' n') :
    yieldW (run T) 5 [.int .u64 x.id, slV 1 i32V x.v] σ n 0 MP := by
  obtain ⟨h1, h2, h3, h4, h5, h6, v, h7, h8⟩ := hJ
  refine yieldW_gs h6 rfl (Nat.zero_le _) ?_
  have f := f37 q x.v k x.id (by have := (okV_len hq).1; omega) (by have := (okV_len hx).1; omega)
  have q0 : (5 = n) = False := by simp; omega
  have q1 : (n = 5) = False := by simp; omega
  have p2 : (2 = n) = False := by simp; omega
  have p3 : (3 = n) = False := by simp; omega
  have p4 : (4 = n) = False := by simp; omega
  have p5 : (1 = n) = False := by simp; omega
  by_cases hl : (lst q).length = (lst x.v).length
  · have hd : decide ((lst q).length = (lst x.v).length) = true := by simp [hl]
    have e1 : disE q x.v = 0 := by simp [disE, vAll, hq, hx, hl]
    have e2 : disV q x.v = distI q x.v := by unfold disE at e1; simp [disV, e1]
    rw [e1, e2] at f
    have hT := hT hd
    obtain ⟨σ1, hσ1⟩ : ∃ σ1, σ1 = upd (upd (upd σ 5 (some (.loop env [14, 15] asg32 bd32 .busy none))) n (some (.row 2 [.agg [.int .u64 0, .int .u64 0]]))) n (some (.row 2 [.agg [.int .u64 x.id, .int .u64 (distI q x.v)]])) := ⟨_, rfl⟩
    have so : ∀ i, i ≠ 5 → i < n → σ1 i = σ i := fun i g1 g2 => by
      have : i ≠ n := by omega
      rw [hσ1]; simp [upd, this, g1]
    have sn : σ1 n = some (.row 2 [.agg [.int .u64 x.id, .int .u64 (distI q x.v)]]) := by rw [hσ1]; simp [upd]
    have s5 : σ1 5 = some (.loop env [14, 15] asg32 bd32 .busy none) := by rw [hσ1]; simp [upd, q0]
    have s4 : σ1 4 = some (.row 1 [v]) := by rw [so 4 (by decide) (by omega), h7]
    have hc := h8.cells
    have ho := h8.one
    simp +contextual -implicitDefEqProofs (maxSteps := 2000000) only [↓wP, wQ, wQ1, wQ2, wQ3, wR, boxE, partsOf, ↓reduceIte, Nat.reduceEqDiff, Nat.reduceAdd, Nat.reduceSub, Nat.reduceLeDiff, Nat.reduceLT, Nat.reduceMul, reduceCtorEq, Int.reduceBNe, Int.reduceBEq, Int.reduceLT, Int.reduceLE, Int.reduceGT, bind_cons, bind_nil, w_asg32, w_bd32, he5, he6, he7, he8, h3, h6, h7, f, q0, q1, p2, p3, p4, p5, ← hσ1, s4, sn, s5, hc]
    refine stepW_app1 (m := 6 + w) (n0 := n) (σ0 := σ) (o := oH (pre.map (hitQ q))) h8 (fun i g1 g2 => ?_) (by omega) (by omega) (Nat.zero_le _) ?_ (fun _ σ2 g1 g2 => ?_)
    · have : i ≠ n + 1 := by omega
      simp [upd, this, so i (by omega) g2]
    · rw [lst_oH, hs_len, List.length_map]; unfold LIM; omega
    · rw [lst_oH, hs_len, List.length_map] at g1 ⊢
      have hv : ∀ i, i < 6 + w → ∀ off len s, v ≠ .ref i off len s := by
        intro i hi off len s e
        subst e
        cases ho' : oH (pre.map (hitQ q)) with
        | none => rw [ho'] at h8; simp only [Pl] at h8; cases h8
        | some xs => rw [ho'] at h8; obtain ⟨j, e, -, e2, -⟩ := h8; simp only [V.ref.injEq] at e; omega
      have t : ∀ i, i < n → (∀ off len s, v ≠ .ref i off len s) → σ2 i = σ1 i := fun i hi hne => by
        rw [g2 i (by omega) hne]
        have : i ≠ n + 1 := by omega
        simp [upd, this]
      have t4 := (t 4 (by omega) (hv 4 (by omega))).trans s4
      have t5 := (t 5 (by omega) (hv 5 (by omega))).trans s5
      have z4 : (4 = 5) = False := by simp
      have hsp : ∀ c, spliceC v 0 [c] = c := fun c => by
        cases ho' : oH (pre.map (hitQ q)) with
        | none => rw [ho'] at h8; simp only [Pl] at h8; subst h8; rfl
        | some xs => rw [ho'] at h8; obtain ⟨j, rfl, -⟩ := h8; rfl
      simp +contextual -implicitDefEqProofs (maxSteps := 2000000) only [↓wP, wQ, wQ1, wQ2, wQ3, wR, boxE, partsOf, ↓reduceIte, Nat.reduceEqDiff, Nat.reduceAdd, Nat.reduceSub, Nat.reduceLeDiff, Nat.reduceLT, Nat.reduceMul, reduceCtorEq, Int.reduceBNe, Int.reduceBEq, Int.reduceLT, Int.reduceLE, Int.reduceGT, he8, t4, t5, hsp]
      have tt : ∀ i, i < 6 + w → i ≠ 5 → σ2 i = σ i := fun i hi h5 => (t i (by omega) (hv i hi)).trans (so i h5 (by omega))
      have eo : oH ((pre ++ [x]).map (hitQ q)) = some (hs (pre.map (hitQ q)) ++ [.agg [.int .u64 x.id, .int .u64 (distI q x.v)]]) := by
        simp [oH, hs, hitV, hitQ]
      refine .inl (hT _ _ (fun i a1 a2 => ?_) (by omega) ⟨by omega, ?_, ?_, ?_, ?_, ?_, .ref (n + 2) 0 (pre.length + 1) 2, ?_, ?_⟩)
      · have b1 : i ≠ 4 := by omega
        have b2 : i ≠ 5 := by omega
        simp [upd, b1, b2, tt i a2 b2]
      · simp [upd, tt 0 (by omega) (by decide), h2]
      · simp [upd, tt 1 (by omega) (by decide), h3]
      · simp [upd, tt 2 (by omega) (by decide), h4]
      · simp [upd, tt 3 (by omega) (by decide), h5]
      · simp [upd]
      · simp [upd]
      · rw [eo]
        exact g1.loc (fun i a1 a2 => by
          have b1 : i ≠ 4 := by omega
          have b2 : i ≠ 5 := by omega
          simp [upd, b1, b2]) (Nat.le_refl _)
  · have hd : decide ((lst q).length = (lst x.v).length) = false := by simp [hl]
    have e1 : disE q x.v = 151 := by simp [disE, vAll, hq, hx, hl]
    have e2 : disV q x.v = 0 := by unfold disE at e1; simp [disV, e1]
    rw [e1, e2] at f
    have hF := hF hd
    simp +contextual -implicitDefEqProofs (maxSteps := 2000000) only [↓wP, wQ, wQ1, wQ2, wQ3, wR, boxE, partsOf, ↓reduceIte, Nat.reduceEqDiff, Nat.reduceAdd, Nat.reduceSub, Nat.reduceLeDiff, Nat.reduceLT, Nat.reduceMul, reduceCtorEq, Int.reduceBNe, Int.reduceBEq, Int.reduceLT, Int.reduceLE, Int.reduceGT, bind_cons, bind_nil, w_asg32, w_bd32, he5, he6, he7, he8, h3, h4, h5, h6, h7, f, q0, q1, p2, p3, p4, p5]
    refine .inr (hF _ _ (fun i a1 a2 => ?_) (by omega) ⟨?_, ?_, ?_⟩)
    · have b1 : i ≠ 5 := by omega
      have b2 : i ≠ 3 := by omega
      have b3 : i ≠ 2 := by omega
      have b4 : i ≠ n := by omega
      simp [upd, b1, b2, b3, b4]
    · simp [upd]
    · simp [upd]
    · simp [upd]

def sameD (q : Option (List Int)) (x : Rw) : Bool := decide ((lst q).length = (lst x.v).length)
def itL (q : Option (List Int)) (k : Nat) (l : List Rw) : List Hit := if l.all (sameD q) then fst' k (l.map (hitQ q)) else []
def itE (q : Option (List Int)) (l : List Rw) : Int := if l.all (sameD q) then 0 else 151

theorem r32 (q : Option (List Int)) (k : Nat) (F : Nat) (caps : List V) (items : List Rw) (w : Nat) (hq : okV q = true) (hk1 : 1 ≤ k) (hk2 : k ≤ 16) (hit : ∀ x ∈ items, okV x.v = true) (hlen : items.length ≤ 2000) (hI : Iter F caps items w) :
    res T 32 [.agg [slV 1 i32V q, .int .i64 (k : Int)], .fn F caps, .bnd 37 [.agg [slV 1 i32V q, .int .i64 (k : Int)]]] = some (.tup [slV 2 hitV (optH (itL q k items)), .int .i64 (itE q items)]) := by
  refine run_res (run_pure (fn := g32) rfl rfl (by decide) ?_)
  simp only [g32, b32]
  simp +contextual -implicitDefEqProofs (maxSteps := 2000000) only [↓wP, wQ, wQ1, wQ2, wQ3, wR, boxE, partsOf, ↓reduceIte, Nat.reduceEqDiff, Nat.reduceAdd, Nat.reduceSub, Nat.reduceLeDiff, Nat.reduceLT, Nat.reduceMul, reduceCtorEq, Int.reduceBNe, Int.reduceBEq, Int.reduceLT, Int.reduceLE, Int.reduceGT]
  generalize hE : pt (pt (pt (pt (pt (pt (envOf [V.agg [slV 1 i32V q, V.int IntKind.i64 (k : Int)], V.fn F caps, V.bnd 37 [V.agg [slV 1 i32V q, V.int IntKind.i64 (k : Int)]]]) 3 (V.ptr 0 2 0 0)) 5 (V.ptr 1 1 0 0)) 6 (V.ptr 2 1 0 0)) 7 (V.ptr 3 1 0 0)) 8 (V.ptr 4 1 0 0)) 13 (V.fn F caps) = env
  have e3 : env 3 = .ptr 0 2 0 0 := by rw [← hE]; rfl
  have e5 : env 5 = .ptr 1 1 0 0 := by rw [← hE]; rfl
  have e6 : env 6 = .ptr 2 1 0 0 := by rw [← hE]; rfl
  have e7 : env 7 = .ptr 3 1 0 0 := by rw [← hE]; rfl
  have e8 : env 8 = .ptr 4 1 0 0 := by rw [← hE]; rfl
  have e13 : env 13 = V.fn F caps := by rw [← hE]; rfl
  clear hE
  refine WC_rangeF (f := F) (caps := caps) e13 (Nat.zero_le _) ?_
  refine run_mono _ _ _ (fun o ho => ?_) (hI (fun pre σ n => Jq q (k : Int) env w pre σ n) (Dq env) (sameD q) _ ?_ ?_ ?_ ?_)
  · cases o <;> try exact ho.elim
    rename_i v σ' n'
    rcases ho with ⟨hB, hJ⟩ | ⟨hB, hD⟩
    · obtain ⟨h1, h2, h3, h4, h5, h6, v, h7, h8⟩ := hJ
      refine ⟨_, _, _, _, _, _, h6, by decide, ?_⟩
      have hL : itL q k items = fst' k (items.map (hitQ q)) := by unfold itL; rw [hB]; rfl
      have hE : itE q items = 0 := by unfold itE; rw [hB]; rfl
      rw [hL, hE]
      have hf : Hf (upd σ' 5 none) v (items.map (hitQ q)) := ⟨_, lst_optH _, by
        refine plHf (m := 6 + w) (n := n') (h8.loc (fun i a1 a2 => ?_) (Nat.le_refl _))
        have : i ≠ 5 := by omega
        simp [upd, this]⟩
      have mE : merE (k : Int) (items.map (hitQ q)) = 0 := by
        unfold merE; rw [if_neg (by omega), if_neg (by rw [List.length_map]; omega)]
      have mV : merV (k : Int) (items.map (hitQ q)) = fst' k (items.map (hitQ q)) := by unfold merV; rw [if_pos mE]; rfl
      have f := fun fs => f56 (k : Int) hf (by rw [List.length_map]; omega) fs n' 0
      rw [mE, mV] at f
      generalize fst' k (items.map (hitQ q)) = l at *
      have hcl : (hVal n' l).cells = [hVal n' l] := by unfold hVal; split <;> rfl
      have hon : (hVal n' l).one = true := by unfold hVal; split <;> rfl
      have hat : ∀ i, i < n' → hSto (upd σ' 5 none) n' l i = upd σ' 5 none i := fun i hi => hSto_at _ n' l hi
      have t2 : hSto (upd σ' 5 none) n' l 2 = some (.row 1 [.nilS]) := by rw [hat 2 (by omega)]; simp [upd, h4]
      have t3 : hSto (upd σ' 5 none) n' l 3 = some (.row 1 [.int .i64 0]) := by rw [hat 3 (by omega)]; simp [upd, h5]
      have tn : l ≠ [] → hSto (upd σ' 5 none) n' l n' = some (.row 2 (hs l)) := fun hne => by unfold hSto; rw [if_neg hne]; simp [upd]
      have z2 : (2 = n') = False := by simp; omega
      have z3 : (3 = n') = False := by simp; omega
      have hfz : ∀ (σ3 : Sto), (∀ i, i ≠ 2 → i ≠ 3 → σ3 i = hSto (upd σ' 5 none) n' l i) → frz σ3 11 (hVal n' l) = some (slV 2 hitV (optH l)) := fun σ3 h9 => hVal_frz (fun hne => by rw [h9 n' (by omega) (by omega)]; exact tn hne) 8
      have c4 : upd σ' 5 none 4 = some (.row 1 [v]) := by simp [upd, h7]
      have hc := h8.cells
      generalize hSto (upd σ' 5 none) n' l = σ2 at *
      generalize hVal n' l = hv at *
      generalize hN n' l = nn at *
      simp +contextual -implicitDefEqProofs (maxSteps := 2000000) only [↓wP, wQ, wQ1, wQ2, wQ3, wR, boxE, partsOf, ↓reduceIte, Nat.reduceEqDiff, Nat.reduceAdd, Nat.reduceSub, Nat.reduceLeDiff, Nat.reduceLT, Nat.reduceMul, reduceCtorEq, Int.reduceBNe, Int.reduceBEq, Int.reduceLT, Int.reduceLE, Int.reduceGT, Option.getD_none, e3, e6, e7, e8, h2, h7, hc, f, hcl, hon, t2, t3, z2, z3]
      rw [hfz _ (fun i a b => by simp [upd, a, b])]
      rfl
    · obtain ⟨h2, h3, h5⟩ := hD
      refine ⟨_, _, _, _, _, _, h5, by decide, ?_⟩
      have hL : itL q k items = [] := by unfold itL; rw [hB]; rfl
      have hE : itE q items = 151 := by unfold itE; rw [hB]; rfl
      rw [hL, hE]
      simp +contextual -implicitDefEqProofs (maxSteps := 2000000) only [↓wP, wQ, wQ1, wQ2, wQ3, wR, boxE, partsOf, ↓reduceIte, Nat.reduceEqDiff, Nat.reduceAdd, Nat.reduceSub, Nat.reduceLeDiff, Nat.reduceLT, Nat.reduceMul, reduceCtorEq, Int.reduceBNe, Int.reduceBEq, Int.reduceLT, Int.reduceLE, Int.reduceGT, Option.getD_some, e6, e7, h2, h3]
      rfl
  · exact fun pre σ n σ' n' h h1 h2 => h.frame h1 h2
  · exact fun σ n σ' n' h h2 => ⟨by rw [h2 2 (by decide), h.s2], by rw [h2 3 (by decide), h.s3], by rw [h2 5 (by decide), h.s5]⟩
  · intro pre x σ n hJ hn hx hp
    exact hy32 q (k : Int) hq env w e5 e6 e7 e8 pre x (hit x hx) (by omega) σ n hJ _ (fun hd σ' n' a1 a2 a3 => ⟨a1, a2, .inl ⟨hd, rfl, a3⟩⟩) (fun hd σ' n' a1 a2 a3 => ⟨a1, a2, .inr ⟨hd, rfl, a3⟩⟩)
  · intro σ' n' hn hs
    exact ⟨hn, by rw [hs 0 (by decide)]; simp [upd], by rw [hs 1 (by decide)]; simp [upd], by rw [hs 2 (by decide)]; simp [upd], by rw [hs 3 (by decide)]; simp [upd], by rw [hs 5 (by decide)]; rfl, .nilS, by rw [hs 4 (by decide)]; simp [upd], rfl⟩
end Go.Q.S11
end

section
/- Rows, gone over. -/
set_option linter.unusedSimpArgs false
set_option linter.unusedVariables false
namespace Go.Q.S11
open Go.Q Go.Sort

theorem iter44 (o : Option (List Rw)) (hl : (lst o).length < 9223372036854775808) : Iter 44 [.box [slV 2 rwV o]] (lst o) 0 := by
  intro J D ok σ hfr hfD hy hJ0
  refine run_rawE (fn := g44) rfl rfl ?_
  simp only [g44, b44]
  obtain ⟨MP, hMP⟩ : ∃ MP : Sto → Nat → Prop, MP = fun σ' n' => ((lst o).all ok = true ∧ J (lst o) σ' n') ∨ ((lst o).all ok = false ∧ D σ' n') := ⟨_, rfl⟩
  simp only [← congrFun (congrFun hMP _) _]
  simp +contextual -implicitDefEqProofs (maxSteps := 2000000) only [↓wP, wQ, wQ1, wQ2, wQ3, wR, boxE, partsOf, ↓reduceIte, Nat.reduceEqDiff, Nat.reduceAdd, Nat.reduceSub, Nat.reduceLeDiff, Nat.reduceLT, Nat.reduceMul, reduceCtorEq, Int.reduceBNe, Int.reduceBEq, Int.reduceLT, Int.reduceLE, Int.reduceGT]
  refine WC_for (lst o).length 0 (fun (j : Nat) env σ n => env 0 = .yld 5 ∧ env 5 = slV 2 rwV o ∧ 6 ≤ n ∧ ((lst o).take j).all ok = true ∧ J ((lst o).take j) σ n) (by omega) (by decide) (by decide) (fun _ _ => rfl) (fun _ _ _ => rfl) ?_ ?_ _ _ _ rfl rfl ?_
  · intro j env σ n hj h1 h2 ⟨h3, h4, h5, h6, h7⟩
    simp only [vl_tmp] at h2
    have hx : (lst o)[j]? = some (lst o)[j] := List.getElem?_eq_getElem hj
    have hm : (lst o)[j] ∈ lst o := List.getElem_mem hj
    have ht : (lst o).take (j + 1) = (lst o).take j ++ [(lst o)[j]] := (List.take_append_getElem hj).symm
    generalize (lst o)[j] = x at *
    have hJ1 := hfr _ _ _ (upd (upd σ n (some (.row 2 [.agg [.int .u64 0, .nilS]]))) n (some (.row 2 [.agg [.int .u64 x.id, slV 1 i32V x.v]]))) (n + 1) h7 (by omega) (fun i hi _ => by
      have : i ≠ n := by omega
      simp [upd, this])
    simp +contextual -implicitDefEqProofs (maxSteps := 2000000) only [↓wP, wQ, wQ1, wQ2, wQ3, wR, boxE, partsOf, ↓reduceIte, Nat.reduceEqDiff, Nat.reduceAdd, Nat.reduceSub, Nat.reduceLeDiff, Nat.reduceLT, Nat.reduceMul, reduceCtorEq, Int.reduceBNe, Int.reduceBEq, Int.reduceLT, Int.reduceLE, Int.reduceGT, h1, h2, h3, h4, hx, rwV_eq]
    refine stepW_yld (yieldW_mono (fun _ _ x => x) run_mono (fun y σ' n' ⟨a1, a2, a3⟩ => ?_) (hy _ x _ _ hJ1 (by omega) hm (by rw [List.length_take]; omega)))
    rcases a3 with ⟨b1, rfl, b3⟩ | ⟨b1, rfl, b3⟩
    · have hall : ((lst o).take (j + 1)).all ok = true := by rw [ht, List.all_append, h6]; simp [b1]
      rw [← ht] at b3
      simp +contextual -implicitDefEqProofs (maxSteps := 2000000) only [↓wP, wQ, wQ1, wQ2, wQ3, wR, boxE, partsOf, ↓reduceIte, Nat.reduceEqDiff, Nat.reduceAdd, Nat.reduceSub, Nat.reduceLeDiff, Nat.reduceLT, Nat.reduceMul, reduceCtorEq, Int.reduceBNe, Int.reduceBEq, Int.reduceLT, Int.reduceLE, Int.reduceGT, h1, h2, h3, h4]
      exact ⟨by omega, hall, b3⟩
    · have hall : (lst o).all ok = false := by
        rw [List.all_eq_false]
        exact ⟨x, hm, by simp [b1]⟩
      have hmp : MP σ' n' := by rw [hMP]; exact .inr ⟨hall, b3⟩
      simp +contextual -implicitDefEqProofs (maxSteps := 2000000) only [↓wP, wQ, wQ1, wQ2, wQ3, wR, boxE, partsOf, ↓reduceIte, Nat.reduceEqDiff, Nat.reduceAdd, Nat.reduceSub, Nat.reduceLeDiff, Nat.reduceLT, Nat.reduceMul, reduceCtorEq, Int.reduceBNe, Int.reduceBEq, Int.reduceLT, Int.reduceLE, Int.reduceGT, h1, h2, h3, h4]
      exact hmp
  · intro env σ n ⟨h3, h4, h5, h6, h7⟩ h1 h2
    rw [List.take_length] at h6 h7
    have hmp : MP σ n := by rw [hMP]; exact .inl ⟨h6, h7⟩
    simp +contextual -implicitDefEqProofs (maxSteps := 2000000) only [↓wP, wQ, wQ1, wQ2, wQ3, wR, boxE, partsOf, ↓reduceIte, Nat.reduceEqDiff, Nat.reduceAdd, Nat.reduceSub, Nat.reduceLeDiff, Nat.reduceLT, Nat.reduceMul, reduceCtorEq, Int.reduceBNe, Int.reduceBEq, Int.reduceLT, Int.reduceLE, Int.reduceGT]
    exact hmp
  · simp +contextual -implicitDefEqProofs (maxSteps := 2000000) only [↓wP, wQ, wQ1, wQ2, wQ3, wR, boxE, partsOf, ↓reduceIte, Nat.reduceEqDiff, Nat.reduceAdd, Nat.reduceSub, Nat.reduceLeDiff, Nat.reduceLT, Nat.reduceMul, reduceCtorEq, Int.reduceBNe, Int.reduceBEq, Int.reduceLT, Int.reduceLE, Int.reduceGT]
    simpa using hJ0 σ 6 (by omega) (fun _ _ => rfl)

theorem callE_sh {f : Nat} {args ts : List V} {r : V} {σ : Sto} (hm : T.mode f ≠ .raw) (hts : args.mapM (frz σ 12) = some ts) (hr : res T f ts = some r) (ht : ∀ σ n, thaw σ n r = (r, σ, n)) (n : Nat) :
    ∃ σ', callE T true f args σ n 0 = some (r, σ', n) := by
  rw [callE_eq hm, hts, callR_some, hr, retE_some]
  unfold backE
  split
  · exact ⟨σ, by rw [ht]⟩
  · refine ⟨dropL σ (args.flatMap (rch σ 12)), ?_⟩
    rw [if_pos (by simp), ht]

theorem r43 (id : Int) (v : Option (List Int)) (hv : (lst v).length < 9223372036854775808) : res T 43 [.agg [.int .u64 id, slV 1 i32V v]] = some (.int .i64 (if okV v then 0 else 170)) := by
  refine run_res (run_pure (fn := g43) rfl rfl (by decide) ?_)
  simp only [g43, b43]
  have f := f38 v hv
  cases ho : okV v
  · rw [ho] at f
    simp +contextual -implicitDefEqProofs (maxSteps := 2000000) only [↓wP, wQ, wQ1, wQ2, wQ3, wR, boxE, partsOf, ↓reduceIte, Nat.reduceEqDiff, Nat.reduceAdd, Nat.reduceSub, Nat.reduceLeDiff, Nat.reduceLT, Nat.reduceMul, reduceCtorEq, Int.reduceBNe, Int.reduceBEq, Int.reduceLT, Int.reduceLE, Int.reduceGT, f, ho]
  · rw [ho] at f
    simp +contextual -implicitDefEqProofs (maxSteps := 2000000) only [↓wP, wQ, wQ1, wQ2, wQ3, wR, boxE, partsOf, ↓reduceIte, Nat.reduceEqDiff, Nat.reduceAdd, Nat.reduceSub, Nat.reduceLeDiff, Nat.reduceLT, Nat.reduceMul, reduceCtorEq, Int.reduceBNe, Int.reduceBEq, Int.reduceLT, Int.reduceLE, Int.reduceGT, f, ho]

theorem f43 (id : Int) (v : Option (List Int)) (hv : (lst v).length < 9223372036854775808) (fs : Bool) (σ : Sto) (n lk : Nat) : callE T fs 43 [.agg [.int .u64 id, slV 1 i32V v]] σ n lk = some (.int .i64 (if okV v then 0 else 170), σ, n) :=
  callE_tr (by decide) (r43 id v hv) (by simp [Tr, Tr_slV]) rfl fs σ n lk

def okR (r : Rw) : Bool := okV r.v
def rowsE (q : Option (List Int)) (k : Int) (l : List Rw) : Int := if qE q k ≠ 0 then qE q k else if l.all okR = false then 170 else itE q l
def rowsL (q : Option (List Int)) (k : Int) (l : List Rw) : List Hit := if qE q k ≠ 0 then [] else if l.all okR = false then [] else itL q k.toNat l

theorem qE_ok {q : Option (List Int)} {k : Int} (h : qE q k = 0) : okV q = true ∧ 1 ≤ k ∧ k ≤ 16 := by
  unfold qE at h
  split at h
  · cases h
  · split at h
    · cases h
    · split at h
      · rename_i h1 h2 h3; exact ⟨h3, by omega, by omega⟩
      · cases h

theorem r21 (o : Option (List Rw)) (q : Option (List Int)) (k : Int) (hl : (lst o).length ≤ 300) (hv : ∀ r ∈ lst o, (lst r.v).length < 9223372036854775808) (hq : (lst q).length < 9223372036854775808) : res T 21 [slV 2 rwV o, .agg [slV 1 i32V q, .int .i64 k]] = some (.tup [slV 2 hitV (optH (rowsL q k (lst o))), .int .i64 (rowsE q k (lst o))]) := by
  refine run_res (run_pure (fn := g21) rfl rfl (by decide) ?_)
  simp only [g21, b21]
  have f1 := f13 q k hq
  by_cases he : qE q k = 0
  · obtain ⟨oq, hk1, hk2⟩ := qE_ok he
    rw [he] at f1
    simp +contextual -implicitDefEqProofs (maxSteps := 2000000) only [↓wP, wQ, wQ1, wQ2, wQ3, wR, boxE, partsOf, ↓reduceIte, Nat.reduceEqDiff, Nat.reduceAdd, Nat.reduceSub, Nat.reduceLeDiff, Nat.reduceLT, Nat.reduceMul, reduceCtorEq, Int.reduceBNe, Int.reduceBEq, Int.reduceLT, Int.reduceLE, Int.reduceGT, f1]
    refine WC_for (lst o).length 0 (fun (j : Nat) env σ n => env 2 = .ptr 0 1 0 0 ∧ env 3 = .ptr 1 2 0 0 ∧ env 16 = slV 2 rwV o ∧ 2 ≤ n ∧ σ 0 = some (.row 1 [slV 2 rwV o]) ∧ σ 1 = some (.row 2 [.agg [slV 1 i32V q, .int .i64 k]]) ∧ ((lst o).take j).all okR = true) (by omega) (by decide) (by decide) (fun _ _ => rfl) (fun _ _ _ => rfl) ?_ ?_ _ _ _ rfl rfl ?_
    · intro j env σ n hj h1 h2 ⟨h3, h4, h5, h6, h7, h8, h9⟩
      simp only [vl_tmp] at h2
      have hx : (lst o)[j]? = some (lst o)[j] := List.getElem?_eq_getElem hj
      have hm : (lst o)[j] ∈ lst o := List.getElem_mem hj
      have ht : (lst o).take (j + 1) = (lst o).take j ++ [(lst o)[j]] := (List.take_append_getElem hj).symm
      generalize (lst o)[j] = x at *
      have f43' := f43 x.id x.v (hv x hm)
      have q0 : (0 = n) = False := by simp; omega
      have q1 : (1 = n) = False := by simp; omega
      cases hb : okV x.v
      · rw [hb] at f43'
        have hall : (lst o).all okR = false := by
          rw [List.all_eq_false]
          exact ⟨x, hm, by simp [okR, hb]⟩
        have e1 : rowsE q k (lst o) = 170 := by simp [rowsE, he, hall]
        have e2 : rowsL q k (lst o) = [] := by simp [rowsL, he, hall]
        rw [e1, e2]
        simp +contextual -implicitDefEqProofs (maxSteps := 2000000) only [↓wP, wQ, wQ1, wQ2, wQ3, wR, boxE, partsOf, ↓reduceIte, Nat.reduceEqDiff, Nat.reduceAdd, Nat.reduceSub, Nat.reduceLeDiff, Nat.reduceLT, Nat.reduceMul, reduceCtorEq, Int.reduceBNe, Int.reduceBEq, Int.reduceLT, Int.reduceLE, Int.reduceGT, h1, h2, h3, h4, h5, hx, rwV_eq, f43', q0, q1]
        rfl
      · rw [hb] at f43'
        have hall : ((lst o).take (j + 1)).all okR = true := by rw [ht, List.all_append, h9]; simp [okR, hb]
        simp +contextual -implicitDefEqProofs (maxSteps := 2000000) only [↓wP, wQ, wQ1, wQ2, wQ3, wR, boxE, partsOf, ↓reduceIte, Nat.reduceEqDiff, Nat.reduceAdd, Nat.reduceSub, Nat.reduceLeDiff, Nat.reduceLT, Nat.reduceMul, reduceCtorEq, Int.reduceBNe, Int.reduceBEq, Int.reduceLT, Int.reduceLE, Int.reduceGT, h1, h2, h3, h4, h5, h7, h8, hx, rwV_eq, f43', q0, q1]
        exact ⟨by omega, hall⟩
    · intro env σ n ⟨h3, h4, h5, h6, h7, h8, h9⟩ h1 h2
      rw [List.take_length] at h9
      obtain ⟨kn, rfl⟩ : ∃ kn : Nat, k = (kn : Int) := ⟨k.toNat, by omega⟩
      have e1 : rowsE q (kn : Int) (lst o) = itE q (lst o) := by simp [rowsE, he, h9]
      have e2 : rowsL q (kn : Int) (lst o) = itL q kn (lst o) := by simp [rowsL, he, h9]
      rw [e1, e2]
      have r := r32 q kn 44 [.box [slV 2 rwV o]] (lst o) 0 oq (by omega) (by omega) (fun x hx => List.all_eq_true.1 h9 x hx) (by omega) (iter44 o (by omega))
      have hlen : ¬ (2000 : Int) < ((lst o).length : Int) := by omega
      have q0 : (0 = n) = False := by simp; omega
      have q1 : (1 = n) = False := by simp; omega
      obtain ⟨σ1, hσ1⟩ : ∃ σ1, σ1 = upd (upd σ n (some (.row 2 [.agg [.nilS, .int .i64 0]]))) n (some (.row 2 [.agg [slV 1 i32V q, .int .i64 (kn : Int)]])) := ⟨_, rfl⟩
      have s0 : σ1 0 = some (.row 1 [slV 2 rwV o]) := by rw [hσ1]; simp [upd, q0, h7]
      have sn : σ1 n = some (.row 2 [.agg [slV 1 i32V q, .int .i64 (kn : Int)]]) := by rw [hσ1]; simp [upd]
      have e : [V.agg [slV 1 i32V q, .int .i64 (kn : Int)], V.fn 44 [.ptr 0 1 0 0], V.bnd 37 [.agg [slV 1 i32V q, .int .i64 (kn : Int)]]].mapM (frz σ1 12) =
          some [V.agg [slV 1 i32V q, .int .i64 (kn : Int)], V.fn 44 [.box [slV 2 rwV o]], V.bnd 37 [.agg [slV 1 i32V q, .int .i64 (kn : Int)]]] := by
        have x1 : frz σ1 12 (.agg [slV 1 i32V q, .int .i64 (kn : Int)]) = some (.agg [slV 1 i32V q, .int .i64 (kn : Int)]) := (frz_tr σ1 12 _ (by simp [Tr, Tr_slV])).1
        have x2 : frz σ1 12 (.bnd 37 [.agg [slV 1 i32V q, .int .i64 (kn : Int)]]) = some (.bnd 37 [.agg [slV 1 i32V q, .int .i64 (kn : Int)]]) := (frz_tr σ1 12 _ (by simp [Tr, Tr_slV])).1
        have x3 : frz σ1 12 (.fn 44 [.ptr 0 1 0 0]) = some (.fn 44 [.box [slV 2 rwV o]]) := by
          simp only [frz, rowAt, s0, List.mapM_cons, List.mapM_nil, if_true, List.getElem?_cons_zero, Option.bind_some, cl_slV, List.drop_zero, frz_slV]
          rfl
        simp only [List.mapM_cons, List.mapM_nil, x1, x2, x3]
        rfl
      obtain ⟨σ2, f32⟩ := callE_sh (by decide) e r (fun σ n => by simp [thaw, thawL, thaw_slV]) (n + 1)
      simp +contextual -implicitDefEqProofs (maxSteps := 2000000) only [↓wP, wQ, wQ1, wQ2, wQ3, wR, boxE, partsOf, ↓reduceIte, Nat.reduceEqDiff, Nat.reduceAdd, Nat.reduceSub, Nat.reduceLeDiff, Nat.reduceLT, Nat.reduceMul, reduceCtorEq, Int.reduceBNe, Int.reduceBEq, Int.reduceLT, Int.reduceLE, Int.reduceGT, h1, h2, h3, h4, h5, h7, h8, hlen, q0, q1, ← hσ1, sn, f32]
    · simp +contextual -implicitDefEqProofs (maxSteps := 2000000) only [↓wP, wQ, wQ1, wQ2, wQ3, wR, boxE, partsOf, ↓reduceIte, Nat.reduceEqDiff, Nat.reduceAdd, Nat.reduceSub, Nat.reduceLeDiff, Nat.reduceLT, Nat.reduceMul, reduceCtorEq, Int.reduceBNe, Int.reduceBEq, Int.reduceLT, Int.reduceLE, Int.reduceGT]
  · have hd : (qE q k != 0) = true := by simpa using he
    have e1 : rowsE q k (lst o) = qE q k := by simp [rowsE, he]
    have e2 : rowsL q k (lst o) = [] := by simp [rowsL, he]
    rw [e1, e2]
    simp +contextual -implicitDefEqProofs (maxSteps := 2000000) only [↓wP, wQ, wQ1, wQ2, wQ3, wR, boxE, partsOf, ↓reduceIte, Nat.reduceEqDiff, Nat.reduceAdd, Nat.reduceSub, Nat.reduceLeDiff, Nat.reduceLT, Nat.reduceMul, reduceCtorEq, Int.reduceBNe, Int.reduceBEq, Int.reduceLT, Int.reduceLE, Int.reduceGT, f1, hd]
    rfl
theorem Nw_tup2 {k : Nat} {a b : V} (h : Nw k a = true) (h' : Nw k b = true) : Nw (k + 1) (.tup [a, b]) = true := by simp [Nw, h, h']
theorem f21 (o : Option (List Rw)) (q : Option (List Int)) (k : Int) (hl : (lst o).length ≤ 300) (hv : ∀ r ∈ lst o, (lst r.v).length < 9223372036854775808) (hq : (lst q).length < 9223372036854775808) (fs : Bool) (σ : Sto) (n lk : Nat) :
    callE T fs 21 [slV 2 rwV o, .agg [slV 1 i32V q, .int .i64 k]] σ n lk = some (.tup [slV 2 hitV (optH (rowsL q k (lst o))), .int .i64 (rowsE q k (lst o))], σ, n) :=
  callE_tr (by decide) (r21 o q k hl hv hq) (by simp [Tr, Tr_slV]) (Nw_tup2 (Nw_slV 2 hitV _ 10) rfl) fs σ n lk
end Go.Q.S11
end

section
/- Cells, gone over. -/
set_option linter.unusedSimpArgs false
set_option linter.unusedVariables false
namespace Go.Q.S11
open Go.Q Go.Sort

def selC (m0 m1 : Nat) (l : List Cel) : List Cel := (l.zipIdx.filter fun p => p.1.u && tb m0 m1 p.2).map (·.1)
def rowC (c : Cel) : Rw := ⟨c.id, c.v⟩
theorem sel_selC (m0 m1 : Nat) (l : List Cel) : sel m0 m1 l = (selC m0 m1 l).map rowC := by
  unfold sel selC rowC
  rw [List.map_map]; rfl
theorem selC_snoc (m0 m1 : Nat) (l : List Cel) (c : Cel) : selC m0 m1 (l ++ [c]) = selC m0 m1 l ++ if (c.u && tb m0 m1 l.length) = true then [c] else [] := by
  unfold selC
  rw [List.zipIdx_append, List.filter_append, List.map_append]
  congr 1
  simp only [List.zipIdx_cons, List.zipIdx_nil, List.filter_cons, List.filter_nil, Nat.zero_add]
  split <;> rfl
theorem selC_pre (m0 m1 : Nat) (l : List Cel) (k : Nat) : ∃ r, selC m0 m1 l = selC m0 m1 (l.take k) ++ r := by
  refine ⟨(((l.drop k).zipIdx (l.take k).length).filter fun p => p.1.u && tb m0 m1 p.2).map (·.1), ?_⟩
  unfold selC
  conv => lhs; rw [← List.take_append_drop k l]
  rw [List.zipIdx_append, List.filter_append, List.map_append]
  simp

theorem raw57 (a : Option (List Cel)) (m0 m1 : Nat) (h0 : W64 m0) (h1 : W64 m1) (hl : (lst a).length ≤ 96) (l : Nat) (J' : List Cel → Sto → Nat → Prop) (D' : Sto → Nat → Prop) (ok : Cel → Bool)
    (hfr : ∀ pre σ n σ' n', J' pre σ n → n ≤ n' → (∀ i, i < n → σ' i = σ i) → J' pre σ' n')
    (hy : ∀ pre c σ n, J' pre σ n → c ∈ selC m0 m1 (lst a) → pre.length < (selC m0 m1 (lst a)).length → yieldW (run T) l [celV c] σ n 0 (fun y σ' n' => (ok c = true ∧ y = .bool true ∧ J' (pre ++ [c]) σ' n') ∨ (ok c = false ∧ y = .bool false ∧ D' σ' n')))
    (σ : Sto) (n : Nat) (hJ : J' [] σ n) :
    run T (.raw 57 [.yld l, .box [slV 5 celV a], .box [.fn 35 [.box [.int .u64 (m0 : Int), .int .u64 (m1 : Int)]]]] σ n 0) (memQ fun _ σ' n' => ((selC m0 m1 (lst a)).all ok = true ∧ J' (selC m0 m1 (lst a)) σ' n') ∨ ((selC m0 m1 (lst a)).all ok = false ∧ D' σ' n')) := by
  refine run_rawE (fn := g57) rfl rfl ?_
  simp only [g57, b57]
  obtain ⟨MP, hMP⟩ : ∃ MP : Sto → Nat → Prop, MP = fun σ' n' => ((selC m0 m1 (lst a)).all ok = true ∧ J' (selC m0 m1 (lst a)) σ' n') ∨ ((selC m0 m1 (lst a)).all ok = false ∧ D' σ' n') := ⟨_, rfl⟩
  simp only [← congrFun (congrFun hMP _) _]
  simp +contextual -implicitDefEqProofs (maxSteps := 2000000) only [↓wP, wQ, wQ1, wQ2, wQ3, wR, boxE, partsOf, ↓reduceIte, Nat.reduceEqDiff, Nat.reduceAdd, Nat.reduceSub, Nat.reduceLeDiff, Nat.reduceLT, Nat.reduceMul, reduceCtorEq, Int.reduceBNe, Int.reduceBEq, Int.reduceLT, Int.reduceLE, Int.reduceGT]
  refine WC_for (lst a).length 0 (fun (j : Nat) env σ n => env 0 = .yld l ∧ env 2 = .box [.fn 35 [.box [.int .u64 (m0 : Int), .int .u64 (m1 : Int)]]] ∧ env 7 = slV 5 celV a ∧ (selC m0 m1 ((lst a).take j)).all ok = true ∧ J' (selC m0 m1 ((lst a).take j)) σ n) (by omega) (by decide) (by decide) (fun _ _ => rfl) (fun _ _ _ => rfl) ?_ ?_ _ _ _ rfl rfl ?_
  · intro j env σ n hj g1 g2 ⟨g3, g4, g5, g6, g7⟩
    simp only [vl_tmp] at g2
    have hx : (lst a)[j]? = some (lst a)[j] := List.getElem?_eq_getElem hj
    have ht : selC m0 m1 ((lst a).take (j + 1)) = selC m0 m1 ((lst a).take j) ++ if ((lst a)[j].u && tb m0 m1 j) = true then [(lst a)[j]] else [] := by
      rw [← List.take_append_getElem hj, selC_snoc, List.length_take, Nat.min_eq_left (by omega)]
    obtain ⟨r, hr⟩ := selC_pre m0 m1 (lst a) (j + 1)
    generalize (lst a)[j] = c at *
    have f := f35 m0 m1 j h0 h1 (by omega)
    have hd : decide (j < 96) = true := by simp; omega
    rw [hd, Bool.true_and] at f
    have hJ1 := hfr _ _ _ (upd (upd σ n (some (.row 5 [.agg [.bool false, .int .u64 0, .int .u64 0, .int .u64 0, .nilS]]))) n (some (.row 5 [celV c]))) (n + 1) g7 (by omega) (fun i hi => by
      have : i ≠ n := by omega
      simp [upd, this])
    rw [celV_eq] at hJ1
    cases hu : c.u
    · rw [hu] at hJ1
      simp only [hu, Bool.false_and, Bool.false_eq_true, if_false, List.append_nil] at ht
      rw [ht]
      simp +contextual -implicitDefEqProofs (maxSteps := 2000000) only [↓wP, wQ, wQ1, wQ2, wQ3, wR, boxE, partsOf, ↓reduceIte, Nat.reduceEqDiff, Nat.reduceAdd, Nat.reduceSub, Nat.reduceLeDiff, Nat.reduceLT, Nat.reduceMul, reduceCtorEq, Int.reduceBNe, Int.reduceBEq, Int.reduceLT, Int.reduceLE, Int.reduceGT, g1, g2, g3, g4, g5, hx, celV_eq, hu]
      exact ⟨g6, hJ1⟩
    · cases hb : tb m0 m1 j
      · rw [hu] at hJ1
        simp only [hb, Bool.and_false, Bool.false_eq_true, if_false, List.append_nil] at ht
        rw [hb] at f
        rw [ht]
        simp +contextual -implicitDefEqProofs (maxSteps := 2000000) only [↓wP, wQ, wQ1, wQ2, wQ3, wR, boxE, partsOf, ↓reduceIte, Nat.reduceEqDiff, Nat.reduceAdd, Nat.reduceSub, Nat.reduceLeDiff, Nat.reduceLT, Nat.reduceMul, reduceCtorEq, Int.reduceBNe, Int.reduceBEq, Int.reduceLT, Int.reduceLE, Int.reduceGT, g1, g2, g3, g4, g5, hx, celV_eq, hu, f]
        exact ⟨g6, hJ1⟩
      · rw [hb] at f
        simp only [hu, hb, Bool.and_self, if_true] at ht
        have hm : c ∈ selC m0 m1 (lst a) := by rw [hr, ht]; simp
        have hln : (selC m0 m1 ((lst a).take j)).length < (selC m0 m1 (lst a)).length := by rw [hr, ht]; simp
        have hy1 := hy _ c _ _ hJ1 hm hln
        rw [celV_eq, hu] at hy1
        simp +contextual -implicitDefEqProofs (maxSteps := 2000000) only [↓wP, wQ, wQ1, wQ2, wQ3, wR, boxE, partsOf, ↓reduceIte, Nat.reduceEqDiff, Nat.reduceAdd, Nat.reduceSub, Nat.reduceLeDiff, Nat.reduceLT, Nat.reduceMul, reduceCtorEq, Int.reduceBNe, Int.reduceBEq, Int.reduceLT, Int.reduceLE, Int.reduceGT, g1, g2, g3, g4, g5, hx, celV_eq, hu, f]
        refine stepW_yld (yieldW_mono (fun _ _ x => x) run_mono (fun y σ' n' a3 => ?_) hy1)
        rcases a3 with ⟨b1, rfl, b3⟩ | ⟨b1, rfl, b3⟩
        · have hall : (selC m0 m1 ((lst a).take (j + 1))).all ok = true := by rw [ht, List.all_append, g6]; simp [b1]
          rw [← ht] at b3
          simp +contextual -implicitDefEqProofs (maxSteps := 2000000) only [↓wP, wQ, wQ1, wQ2, wQ3, wR, boxE, partsOf, ↓reduceIte, Nat.reduceEqDiff, Nat.reduceAdd, Nat.reduceSub, Nat.reduceLeDiff, Nat.reduceLT, Nat.reduceMul, reduceCtorEq, Int.reduceBNe, Int.reduceBEq, Int.reduceLT, Int.reduceLE, Int.reduceGT, g1, g2, g3, g4, g5]
          exact ⟨hall, b3⟩
        · have hall : (selC m0 m1 (lst a)).all ok = false := by
            rw [List.all_eq_false]
            exact ⟨c, hm, by simp [b1]⟩
          have hmp : MP σ' n' := by rw [hMP]; exact .inr ⟨hall, b3⟩
          simp +contextual -implicitDefEqProofs (maxSteps := 2000000) only [↓wP, wQ, wQ1, wQ2, wQ3, wR, boxE, partsOf, ↓reduceIte, Nat.reduceEqDiff, Nat.reduceAdd, Nat.reduceSub, Nat.reduceLeDiff, Nat.reduceLT, Nat.reduceMul, reduceCtorEq, Int.reduceBNe, Int.reduceBEq, Int.reduceLT, Int.reduceLE, Int.reduceGT, g1, g2, g3, g4, g5]
          exact hmp
  · intro env σ n ⟨g3, g4, g5, g6, g7⟩ g1 g2
    rw [List.take_length] at g6 g7
    have hmp : MP σ n := by rw [hMP]; exact .inl ⟨g6, g7⟩
    simp +contextual -implicitDefEqProofs (maxSteps := 2000000) only [↓wP, wQ, wQ1, wQ2, wQ3, wR, boxE, partsOf, ↓reduceIte, Nat.reduceEqDiff, Nat.reduceAdd, Nat.reduceSub, Nat.reduceLeDiff, Nat.reduceLT, Nat.reduceMul, reduceCtorEq, Int.reduceBNe, Int.reduceBEq, Int.reduceLT, Int.reduceLE, Int.reduceGT]
    exact hmp
  · simp +contextual -implicitDefEqProofs (maxSteps := 2000000) only [↓wP, wQ, wQ1, wQ2, wQ3, wR, boxE, partsOf, ↓reduceIte, Nat.reduceEqDiff, Nat.reduceAdd, Nat.reduceSub, Nat.reduceLeDiff, Nat.reduceLT, Nat.reduceMul, reduceCtorEq, Int.reduceBNe, Int.reduceBEq, Int.reduceLT, Int.reduceLE, Int.reduceGT]
    exact ⟨by simp [selC], by simpa [selC] using hJ⟩

def asg33 : AC := (.reg [⟨(some 4), none, .alloc (.agg [(.bool false), (.int .u64 0), (.int .u64 0), (.int .u64 0), .nilS])⟩,
      ⟨none, none, .store 5 (.tmp 4) (.tmp 8)⟩])
def bd33 : AC := (.block 1 (.seq (.reg [⟨(some 9), none, .load false 1 (.tmp 3)⟩,
       ⟨(some 10), none, .faddr (.tmp 4) 1⟩,
       ⟨(some 11), none, .load false 1 (.tmp 10)⟩,
       ⟨(some 12), none, .faddr (.tmp 4) 2⟩,
       ⟨(some 13), none, .faddr (.tmp 12) 2⟩,
       ⟨(some 14), none, .load false 1 (.tmp 13)⟩,
       ⟨(some 15), none, .callv (.tmp 9) [(.tmp 11), (.tmp 14)]⟩,
       ⟨(some 16), none, .un .not (.tmp 15)⟩])
     (.cond (.tmp 16)
      .ret
      .skip)))
theorem w_asg33 (env : Nat → V) (σ : Sto) (n lk : Nat) (Q : Ex → St → Prop) : WC T asg33 env σ n lk Q = WC T (.reg [⟨(some 4), none, .alloc (.agg [(.bool false), (.int .u64 0), (.int .u64 0), (.int .u64 0), .nilS])⟩,
      ⟨none, none, .store 5 (.tmp 4) (.tmp 8)⟩]) env σ n lk Q := rfl
theorem w_bd33 (env : Nat → V) (σ : Sto) (n lk : Nat) (Q : Ex → St → Prop) : WC T bd33 env σ n lk Q = WC T (.block 1 (.seq (.reg [⟨(some 9), none, .load false 1 (.tmp 3)⟩,
       ⟨(some 10), none, .faddr (.tmp 4) 1⟩,
       ⟨(some 11), none, .load false 1 (.tmp 10)⟩,
       ⟨(some 12), none, .faddr (.tmp 4) 2⟩,
       ⟨(some 13), none, .faddr (.tmp 12) 2⟩,
       ⟨(some 14), none, .load false 1 (.tmp 13)⟩,
       ⟨(some 15), none, .callv (.tmp 9) [(.tmp 11), (.tmp 14)]⟩,
       ⟨(some 16), none, .un .not (.tmp 15)⟩])
     (.cond (.tmp 16)
      .ret
      .skip))) env σ n lk Q := rfl

theorem r34 (a : Option (List Cel)) (m0 m1 : Nat) : res T 34 [.agg [slV 5 celV a], .fn 35 [.box [.int .u64 (m0 : Int), .int .u64 (m1 : Int)]]] = some (.fn 57 [.box [slV 5 celV a], .box [.fn 35 [.box [.int .u64 (m0 : Int), .int .u64 (m1 : Int)]]]]) := by
  refine run_res (run_pure (fn := g34) rfl rfl (by decide) ?_)
  simp only [g34, b34]
  simp +contextual -implicitDefEqProofs (maxSteps := 2000000) only [↓wP, wQ, wQ1, wQ2, wQ3, wR, boxE, partsOf, ↓reduceIte, Nat.reduceEqDiff, Nat.reduceAdd, Nat.reduceSub, Nat.reduceLeDiff, Nat.reduceLT, Nat.reduceMul, reduceCtorEq, Int.reduceBNe, Int.reduceBEq, Int.reduceLT, Int.reduceLE, Int.reduceGT]

theorem f34 (a : Option (List Cel)) (m0 m1 : Nat) (fs : Bool) (σ : Sto) (n lk : Nat) : callE T fs 34 [.agg [slV 5 celV a], .fn 35 [.box [.int .u64 (m0 : Int), .int .u64 (m1 : Int)]]] σ n lk = some (.fn 57 [.box [slV 5 celV a], .box [.fn 35 [.box [.int .u64 (m0 : Int), .int .u64 (m1 : Int)]]]], σ, n) :=
  callE_tr (by decide) (r34 a m0 m1) (by simp [Tr, Tr_slV]) rfl fs σ n lk

theorem cl_yld (l : Nat) : (V.yld l).cells = [.yld l] := rfl
theorem one_yld (l : Nat) : (V.yld l).one = true := rfl

theorem iter33 (a : Option (List Cel)) (m0 m1 : Nat) (h0 : W64 m0) (h1 : W64 m1) (hl : (lst a).length ≤ 96) : Iter 33 [.box [slV 5 celV a], .box [.int .u64 (m0 : Int), .int .u64 (m1 : Int)]] (sel m0 m1 (lst a)) 2 := by
  intro J D ok σ hfr hfD hy hJ0
  rw [sel_selC] at *
  refine run_rawE (fn := g33) rfl rfl ?_
  simp only [g33, b33]
  obtain ⟨MP, hMP⟩ : ∃ MP : Sto → Nat → Prop, MP = fun σ' n' => (((selC m0 m1 (lst a)).map rowC).all ok = true ∧ J ((selC m0 m1 (lst a)).map rowC) σ' n') ∨ (((selC m0 m1 (lst a)).map rowC).all ok = false ∧ D σ' n') := ⟨_, rfl⟩
  simp only [← congrFun (congrFun hMP _) _]
  have f := f34 a m0 m1
  simp +contextual -implicitDefEqProofs (maxSteps := 2000000) only [↓wP, wQ, wQ1, wQ2, wQ3, wR, boxE, partsOf, ↓reduceIte, Nat.reduceEqDiff, Nat.reduceAdd, Nat.reduceSub, Nat.reduceLeDiff, Nat.reduceLT, Nat.reduceMul, reduceCtorEq, Int.reduceBNe, Int.reduceBEq, Int.reduceLT, Int.reduceLE, Int.reduceGT, cl_yld, one_yld, f]
  generalize hE : pt (pt (pt (pt (envOf [V.yld 5, V.box [slV 5 celV a], V.box [V.int IntKind.u64 (m0 : Int), V.int IntKind.u64 (m1 : Int)]]) 3 (V.ptr 6 1 0 0)) 5 (V.agg [slV 5 celV a])) 6 (V.fn 35 [V.box [V.int IntKind.u64 (m0 : Int), V.int IntKind.u64 (m1 : Int)]])) 7 (V.fn 57 [V.box [slV 5 celV a], V.box [V.fn 35 [V.box [V.int IntKind.u64 (m0 : Int), V.int IntKind.u64 (m1 : Int)]]]]) = env
  have e3 : env 3 = .ptr 6 1 0 0 := by rw [← hE]; rfl
  have e7 : env 7 = V.fn 57 [V.box [slV 5 celV a], V.box [V.fn 35 [V.box [V.int IntKind.u64 (m0 : Int), V.int IntKind.u64 (m1 : Int)]]]] := by rw [← hE]; rfl
  clear hE
  refine WC_rangeF (f := 57) (caps := [V.box [slV 5 celV a], V.box [V.fn 35 [V.box [V.int IntKind.u64 (m0 : Int), V.int IntKind.u64 (m1 : Int)]]]]) e7 (Nat.zero_le _) ?_
  refine run_mono _ _ _ (fun o ho => ?_) (raw57 a m0 m1 h0 h1 hl 7 (fun pre σ n => J (pre.map rowC) σ n ∧ 8 ≤ n ∧ σ 6 = some (.row 1 [.yld 5]) ∧ σ 7 = some (.loop env [8] asg33 bd33 .ready none))
    (fun σ n => D σ n ∧ σ 7 = some (.loop env [8] asg33 bd33 .done (some .ret))) (fun c => ok (rowC c)) ?_ ?_ _ _ ?_)
  · cases o <;> try exact ho.elim
    rename_i v σ' n'
    rcases ho with ⟨hB, hJ, hn, h6, h7⟩ | ⟨hB, hD, h7⟩
    · refine ⟨_, _, _, _, _, _, h7, by decide, ?_⟩
      have hmp : MP (upd σ' 7 none) n' := by
        rw [hMP]
        refine .inl ⟨by rw [List.all_map]; exact hB, hfr _ _ _ _ _ hJ (Nat.le_refl _) (fun i _ hi => ?_)⟩
        have : i ≠ 7 := by omega
        simp [upd, this]
      simp +contextual -implicitDefEqProofs (maxSteps := 2000000) only [↓wP, wQ, wQ1, wQ2, wQ3, wR, boxE, partsOf, ↓reduceIte, Nat.reduceEqDiff, Nat.reduceAdd, Nat.reduceSub, Nat.reduceLeDiff, Nat.reduceLT, Nat.reduceMul, reduceCtorEq, Int.reduceBNe, Int.reduceBEq, Int.reduceLT, Int.reduceLE, Int.reduceGT, Option.getD_none]
      exact hmp
    · refine ⟨_, _, _, _, _, _, h7, by decide, ?_⟩
      have hmp : MP (upd σ' 7 none) n' := by
        rw [hMP]
        refine .inr ⟨by rw [List.all_map]; exact hB, hfD _ _ _ _ hD (fun i hi => ?_)⟩
        have : i ≠ 7 := by omega
        simp [upd, this]
      simp +contextual -implicitDefEqProofs (maxSteps := 2000000) only [↓wP, wQ, wQ1, wQ2, wQ3, wR, boxE, partsOf, ↓reduceIte, Nat.reduceEqDiff, Nat.reduceAdd, Nat.reduceSub, Nat.reduceLeDiff, Nat.reduceLT, Nat.reduceMul, reduceCtorEq, Int.reduceBNe, Int.reduceBEq, Int.reduceLT, Int.reduceLE, Int.reduceGT, Option.getD_some]
      exact hmp
  · intro pre σ n σ' n' ⟨g1, g2, g3, g4⟩ hn hs
    exact ⟨hfr _ _ _ _ _ g1 hn (fun i hi _ => hs i hi), by omega, by rw [hs 6 (by omega), g3], by rw [hs 7 (by omega), g4]⟩
  · intro pre c σ n ⟨g1, g2, g3, g4⟩ hc hp
    obtain ⟨YP, hYP⟩ : ∃ YP : V → Sto → Nat → Prop, YP = fun y σ' n' => (ok (rowC c) = true ∧ y = .bool true ∧ J ((pre ++ [c]).map rowC) σ' n' ∧ 8 ≤ n' ∧ σ' 6 = some (.row 1 [.yld 5]) ∧ σ' 7 = some (.loop env [8] asg33 bd33 .ready none)) ∨ (ok (rowC c) = false ∧ y = .bool false ∧ D σ' n' ∧ σ' 7 = some (.loop env [8] asg33 bd33 .done (some .ret))) := ⟨_, rfl⟩
    refine yieldW_mono (fun _ _ x => x) run_mono (fun y σ' n' (hh : YP y σ' n') => by rw [hYP] at hh; exact hh) ?_
    refine yieldW_gs g4 rfl (Nat.zero_le _) ?_
    have q7 : (7 = n) = False := by simp; omega
    have q6 : (6 = n) = False := by simp; omega
    have q8 : (n = 7) = False := by simp; omega
    obtain ⟨σ1, hσ1⟩ : ∃ σ1, σ1 = upd (upd (upd σ n (some (.row 5 [.agg [.bool false, .int .u64 0, .int .u64 0, .int .u64 0, .nilS]]))) n (some (.row 5 [celV c]))) 7 (some (.loop env [8] asg33 bd33 .busy none)) := ⟨_, rfl⟩
    have so : ∀ i, i ≠ 7 → i < n → σ1 i = σ i := fun i a1 a2 => by
      have : i ≠ n := by omega
      rw [hσ1]; simp [upd, this, a1]
    have sn : σ1 n = some (.row 5 [celV c]) := by rw [hσ1]; simp [upd, q8]
    have s6 : σ1 6 = some (.row 1 [.yld 5]) := by rw [so 6 (by decide) (by omega), g3]
    have s7 : σ1 7 = some (.loop env [8] asg33 bd33 .busy none) := by rw [hσ1]; simp [upd]
    have hJ1 := hfr _ _ _ σ1 (n + 1) g1 (by omega) (fun i hi h6 => so i (by omega) hi)
    have hy1 := hy _ (rowC c) σ1 (n + 1) hJ1 (by omega) (List.mem_map.2 ⟨c, hc, rfl⟩) (by rw [List.length_map, List.length_map]; exact hp)
    have hr1 : (rowC c).id = c.id := rfl
    have hr2 : (rowC c).v = c.v := rfl
    rw [hr1, hr2] at hy1
    rw [celV_eq] at sn hσ1
    simp +contextual -implicitDefEqProofs (maxSteps := 2000000) only [↓wP, wQ, wQ1, wQ2, wQ3, wR, boxE, partsOf, ↓reduceIte, Nat.reduceEqDiff, Nat.reduceAdd, Nat.reduceSub, Nat.reduceLeDiff, Nat.reduceLT, Nat.reduceMul, reduceCtorEq, Int.reduceBNe, Int.reduceBEq, Int.reduceLT, Int.reduceLE, Int.reduceGT, cl_yld, bind_cons, bind_nil, w_asg33, w_bd33, e3, celV_eq, g4, q7, q6, q8, ← hσ1, s6, sn, s7]
    refine stepW_yld (yieldW_mono (fun _ _ x => x) run_mono (fun y σ' n' ⟨a1, a2, a3⟩ => ?_) hy1)
    have t6 := (a1 6 (by decide) (by decide)).trans s6
    have t7 := (a1 7 (by decide) (by decide)).trans s7
    rcases a3 with ⟨b1, rfl, b3⟩ | ⟨b1, rfl, b3⟩
    · have hyp : YP (.bool true) (upd σ' 7 (some (.loop env [8] asg33 bd33 .ready none))) n' := by
        rw [hYP]
        refine .inl ⟨b1, rfl, ?_, by omega, by simp [upd, t6], by simp [upd]⟩
        rw [List.map_append]
        refine hfr _ _ _ _ _ b3 (Nat.le_refl _) (fun i _ hi => ?_)
        have : i ≠ 7 := by omega
        simp [upd, this]
      simp +contextual -implicitDefEqProofs (maxSteps := 2000000) only [↓wP, wQ, wQ1, wQ2, wQ3, wR, boxE, partsOf, ↓reduceIte, Nat.reduceEqDiff, Nat.reduceAdd, Nat.reduceSub, Nat.reduceLeDiff, Nat.reduceLT, Nat.reduceMul, reduceCtorEq, Int.reduceBNe, Int.reduceBEq, Int.reduceLT, Int.reduceLE, Int.reduceGT, t7]
      exact .inl hyp
    · have hyp : YP (.bool false) (upd σ' 7 (some (.loop env [8] asg33 bd33 .done (some .ret)))) n' := by
        rw [hYP]
        refine .inr ⟨b1, rfl, hfD _ _ _ _ b3 (fun i hi => ?_), by simp [upd]⟩
        have : i ≠ 7 := by omega
        simp [upd, this]
      simp +contextual -implicitDefEqProofs (maxSteps := 2000000) only [↓wP, wQ, wQ1, wQ2, wQ3, wR, boxE, partsOf, ↓reduceIte, Nat.reduceEqDiff, Nat.reduceAdd, Nat.reduceSub, Nat.reduceLeDiff, Nat.reduceLT, Nat.reduceMul, reduceCtorEq, Int.reduceBNe, Int.reduceBEq, Int.reduceLT, Int.reduceLE, Int.reduceGT, t7]
      exact .inr hyp
  · exact ⟨hJ0 _ 8 (by omega) (fun i hi => by
      have e1 : i ≠ 6 := by omega
      have e2 : i ≠ 7 := by omega
      simp [upd, e1, e2]), by omega, by simp [upd], by rfl⟩
end Go.Q.S11
end

section
/- The layer does something. -/
set_option linter.unusedSimpArgs false
set_option linter.unusedVariables false
namespace Go.Q.S11
open Go.Q

def isTrue' : Option Out → Bool
  | some (.val (.bool true)) => true
  | _ => false
theorem isTrue_eq {o : Option Out} (h : isTrue' o = true) : o = some (.val (.bool true)) := by
  unfold isTrue' at h
  split at h
  · rfl
  · cases h

theorem r9 : res T 9 [] = some (.bool true) := by
  have h : isTrue' (exJob T 150 (.pure 9 [])) = true := by decide +kernel
  exact run_res (exJob_sound 150 _ _ (isTrue_eq h))
theorem f9 (fs : Bool) (σ : Sto) (n lk : Nat) : callE T fs 9 [] σ n lk = some (.bool true, σ, n) := callE_tr (by decide) r9 rfl rfl fs σ n lk
end Go.Q.S11
end

section
/- FlatScans. -/
set_option linter.unusedSimpArgs false
set_option linter.unusedVariables false
namespace Go.Q.S11
open Go.Q Go.Sort

def scanE (a : Option (List Cel)) (m0 m1 : Nat) (q : Option (List Int)) (k : Int) : Int := if qE q k ≠ 0 then qE q k else if okA a = false then 190 else itE q (sel m0 m1 (lst a))
def scanL (a : Option (List Cel)) (m0 m1 : Nat) (q : Option (List Int)) (k : Int) : List Hit := if qE q k ≠ 0 then [] else if okA a = false then [] else itL q k.toNat (sel m0 m1 (lst a))

theorem sel_ok {a : Option (List Cel)} (m0 m1 : Nat) (h : okA a = true) : ∀ x ∈ sel m0 m1 (lst a), okV x.v = true := by
  intro x hx
  simp only [okA, Bool.and_eq_true] at h
  rw [sel_selC] at hx
  obtain ⟨c, hc, rfl⟩ := List.mem_map.1 hx
  unfold selC at hc
  obtain ⟨p, hp, rfl⟩ := List.mem_map.1 hc
  obtain ⟨hp1, hp2⟩ := List.mem_filter.1 hp
  have hm : p.1 ∈ lst a := by
    have := List.mem_zipIdx_iff_getElem?.1 hp1
    exact List.mem_of_getElem? this
  have hk := List.all_eq_true.1 h.2 _ hm
  simp only [Bool.and_eq_true] at hp2
  simp only [okCel, hp2.1, if_true, okVer, Bool.and_eq_true] at hk
  exact hk.2

theorem r11 (a : Option (List Cel)) (m0 m1 : Nat) (q : Option (List Int)) (k : Int) (ha : SmA a) (h0 : W64 m0) (h1 : W64 m1) (hq : (lst q).length < 9223372036854775808) : res T 11 [.agg [slV 5 celV a], .agg [.int .u64 (m0 : Int), .int .u64 (m1 : Int)], .agg [slV 1 i32V q, .int .i64 k]] = some (.tup [slV 2 hitV (optH (scanL a m0 m1 q k)), .int .i64 (scanE a m0 m1 q k)]) := by
  refine run_res (run_pure (fn := g11) rfl rfl (by decide) ?_)
  simp only [g11, b11]
  have f1 := f13 q k hq
  have f2 := f31 a ha
  by_cases he : qE q k = 0
  · obtain ⟨oq, hk1, hk2⟩ := qE_ok he
    rw [he] at f1
    cases hA : okA a
    · have e0 : arE a = 190 := by simp [arE, hA]
      have e1 : scanE a m0 m1 q k = 190 := by simp [scanE, he, hA]
      have e2 : scanL a m0 m1 q k = [] := by simp [scanL, he, hA]
      rw [e0] at f2
      rw [e1, e2]
      simp +contextual -implicitDefEqProofs (maxSteps := 2000000) only [↓wP, wQ, wQ1, wQ2, wQ3, wR, boxE, partsOf, ↓reduceIte, Nat.reduceEqDiff, Nat.reduceAdd, Nat.reduceSub, Nat.reduceLeDiff, Nat.reduceLT, Nat.reduceMul, reduceCtorEq, Int.reduceBNe, Int.reduceBEq, Int.reduceLT, Int.reduceLE, Int.reduceGT, f1, f2]
      rfl
    · have e0 : arE a = 0 := by simp [arE, hA]
      have hl : (lst a).length = 96 := by simp only [okA, Bool.and_eq_true, decide_eq_true_eq] at hA; exact hA.1
      obtain ⟨kn, rfl⟩ : ∃ kn : Nat, k = (kn : Int) := ⟨k.toNat, by omega⟩
      have e1 : scanE a m0 m1 q (kn : Int) = itE q (sel m0 m1 (lst a)) := by simp [scanE, he, hA]
      have e2 : scanL a m0 m1 q (kn : Int) = itL q kn (sel m0 m1 (lst a)) := by simp [scanL, he, hA]
      rw [e0] at f2
      rw [e1, e2]
      have r := r32 q kn 33 _ (sel m0 m1 (lst a)) 2 oq (by omega) (by omega) (sel_ok m0 m1 hA) (by have := sel_len m0 m1 (lst a); omega) (iter33 a m0 m1 h0 h1 (by omega))
      obtain ⟨σ1, hσ1⟩ : ∃ σ1, σ1 = upd (upd (upd (upd (upd Sto.empty 0 (some (.row 1 [.agg [slV 5 celV a]]))) 1 (some (.row 2 [.agg [.int .u64 (m0 : Int), .int .u64 (m1 : Int)]]))) 2 (some (.row 2 [.agg [slV 1 i32V q, .int .i64 (kn : Int)]]))) 3 (some (.row 2 [.agg [.nilS, .int .i64 0]]))) 3 (some (.row 2 [.agg [slV 1 i32V q, .int .i64 (kn : Int)]])) := ⟨_, rfl⟩
      have s0 : σ1 0 = some (.row 1 [.agg [slV 5 celV a]]) := by rw [hσ1]; simp [upd]
      have s1 : σ1 1 = some (.row 2 [.agg [.int .u64 (m0 : Int), .int .u64 (m1 : Int)]]) := by rw [hσ1]; simp [upd]
      have s3 : σ1 3 = some (.row 2 [.agg [slV 1 i32V q, .int .i64 (kn : Int)]]) := by rw [hσ1]; simp [upd]
      have e : [V.agg [slV 1 i32V q, .int .i64 (kn : Int)], V.fn 33 [.ptr 0 1 0 0, .ptr 1 2 0 0], V.bnd 37 [.agg [slV 1 i32V q, .int .i64 (kn : Int)]]].mapM (frz σ1 12) =
          some [V.agg [slV 1 i32V q, .int .i64 (kn : Int)], V.fn 33 [.box [slV 5 celV a], .box [.int .u64 (m0 : Int), .int .u64 (m1 : Int)]], V.bnd 37 [.agg [slV 1 i32V q, .int .i64 (kn : Int)]]] := by
        have x1 : frz σ1 12 (.agg [slV 1 i32V q, .int .i64 (kn : Int)]) = some (.agg [slV 1 i32V q, .int .i64 (kn : Int)]) := (frz_tr σ1 12 _ (by simp [Tr, Tr_slV])).1
        have x2 : frz σ1 12 (.bnd 37 [.agg [slV 1 i32V q, .int .i64 (kn : Int)]]) = some (.bnd 37 [.agg [slV 1 i32V q, .int .i64 (kn : Int)]]) := (frz_tr σ1 12 _ (by simp [Tr, Tr_slV])).1
        have x3 : frz σ1 12 (.fn 33 [.ptr 0 1 0 0, .ptr 1 2 0 0]) = some (.fn 33 [.box [slV 5 celV a], .box [.int .u64 (m0 : Int), .int .u64 (m1 : Int)]]) := by
          simp only [frz, rowAt, s0, s1, List.mapM_cons, List.mapM_nil, if_true, List.getElem?_cons_zero, Option.bind_some, V.cells, List.drop_zero, frz_slV]
          rfl
        simp only [List.mapM_cons, List.mapM_nil, x1, x2, x3]
        rfl
      obtain ⟨σ2, f32⟩ := callE_sh (by decide) e r (fun σ n => by simp [thaw, thawL, thaw_slV]) 4
      simp +contextual -implicitDefEqProofs (maxSteps := 2000000) only [↓wP, wQ, wQ1, wQ2, wQ3, wR, boxE, partsOf, ↓reduceIte, Nat.reduceEqDiff, Nat.reduceAdd, Nat.reduceSub, Nat.reduceLeDiff, Nat.reduceLT, Nat.reduceMul, reduceCtorEq, Int.reduceBNe, Int.reduceBEq, Int.reduceLT, Int.reduceLE, Int.reduceGT, f1, f2, ← hσ1, s3, f32]
  · have hd : (qE q k != 0) = true := by simpa using he
    have e1 : scanE a m0 m1 q k = qE q k := by simp [scanE, he]
    have e2 : scanL a m0 m1 q k = [] := by simp [scanL, he]
    rw [e1, e2]
    simp +contextual -implicitDefEqProofs (maxSteps := 2000000) only [↓wP, wQ, wQ1, wQ2, wQ3, wR, boxE, partsOf, ↓reduceIte, Nat.reduceEqDiff, Nat.reduceAdd, Nat.reduceSub, Nat.reduceLeDiff, Nat.reduceLT, Nat.reduceMul, reduceCtorEq, Int.reduceBNe, Int.reduceBEq, Int.reduceLT, Int.reduceLE, Int.reduceGT, f1, hd]
    rfl
theorem f11 (a : Option (List Cel)) (m0 m1 : Nat) (q : Option (List Int)) (k : Int) (ha : SmA a) (h0 : W64 m0) (h1 : W64 m1) (hq : (lst q).length < 9223372036854775808) (fs : Bool) (σ : Sto) (n lk : Nat) :
    callE T fs 11 [.agg [slV 5 celV a], .agg [.int .u64 (m0 : Int), .int .u64 (m1 : Int)], .agg [slV 1 i32V q, .int .i64 k]] σ n lk = some (.tup [slV 2 hitV (optH (scanL a m0 m1 q k)), .int .i64 (scanE a m0 m1 q k)], σ, n) :=
  callE_tr (by decide) (r11 a m0 m1 q k ha h0 h1 hq) (by simp [Tr, Tr_slV]) (Nw_tup2 (Nw_slV 2 hitV _ 10) rfl) fs σ n lk
end Go.Q.S11
end

section
/- A packed arena; a row turned round. -/
set_option linter.unusedSimpArgs false
set_option linter.unusedVariables false
namespace Go.Q.S11
open Go.Q Go.Sort

def zeroC : Cel := ⟨false, 0, 0, 0, none⟩
theorem zeroC_eq : celV zeroC = .agg [.bool false, .int .u64 0, .int .u64 0, .int .u64 0, .nilS] := rfl
instance : Inhabited Cel := ⟨zeroC⟩

theorem cs_givk (σ : Sto) (k : Nat) (l : List Cel) : ∀ x ∈ l.map celV, elemM (giv σ (k + 1)) x = some x := by
  intro x hx
  obtain ⟨c, -, rfl⟩ := List.mem_map.1 hx
  obtain ⟨u, id, b, e, v⟩ := c
  cases v <;> rfl
theorem cs_gidk (σ : Sto) (k : Nat) (l : List Cel) : ∀ x ∈ l.map celV, ∀ c ∈ x.cells, gids σ (k + 1) c = [] := by
  intro x hx c hc
  obtain ⟨d, -, rfl⟩ := List.mem_map.1 hx
  simp only [celV, V.cells, List.mem_cons, List.not_mem_nil, or_false] at hc
  rcases hc with rfl | rfl | rfl | rfl | rfl <;> first | rfl | (cases d.v <;> rfl)

theorem r50 : res T 50 [] = some (.agg [.own 5 ((List.replicate 96 zeroC).map celV)]) := by
  refine run_res (run_own (fn := g50) rfl rfl (by decide) ?_)
  simp only [g50, b50]
  have c56 : (((56 : Nat) : Int) * 96 ≤ 140737488355328) = True := by simp
  have t96 : Int.toNat 96 = 96 := rfl
  have hz : List.replicate 96 (V.agg [.bool false, .int .u64 0, .int .u64 0, .int .u64 0, .nilS]) = (List.replicate 96 zeroC).map celV := by rw [List.map_replicate]; rfl
  generalize hZ : (List.replicate 96 zeroC).map celV = Z at hz
  have hzl : Z.length = 96 := by rw [← hZ]; simp
  simp +contextual -implicitDefEqProofs (maxSteps := 2000000) only [↓wP, wQ, wQ1, wQ2, wQ3, wR, boxE, partsOf, ↓reduceIte, Nat.reduceEqDiff, Nat.reduceAdd, Nat.reduceSub, Nat.reduceLeDiff, Nat.reduceLT, Nat.reduceMul, reduceCtorEq, Int.reduceBNe, Int.reduceBEq, Int.reduceLT, Int.reduceLE, Int.reduceGT, c56, t96, hz]
  have hat : (upd (upd (upd Sto.empty 0 (some (.row 1 [.agg [.nilS]]))) 1 (some (.row 5 Z))) 0 (some (.row 1 [.agg [.ref 1 0 96 5]]))) 1 = some (.row 5 Z) := by simp [upd]
  generalize (upd (upd (upd Sto.empty 0 (some (.row 1 [.agg [.nilS]]))) 1 (some (.row 5 Z))) 0 (some (.row 1 [.agg [.ref 1 0 96 5]]))) = σ at hat ⊢
  constructor
  · simp only [giv, List.mapM_cons, List.mapM_nil, hat, hzl, and_self, if_true]
    rw [mapM_id (by rw [← hZ]; exact cs_givk σ 9 _)]
    rfl
  · simp only [gids, List.flatMap_cons, List.flatMap_nil, hat, List.append_nil]
    rw [List.flatMap_eq_nil_iff.2 fun x hx => List.flatMap_eq_nil_iff.2 fun c hc => (by rw [← hZ] at hx; exact cs_gidk σ 9 _ x hx c hc)]
    simp

/-- One loop's state: what lies outside the part under way is turned. -/
theorem raw28 (L : List Cel) (id n : Nat) (σ : Sto) (hl : L.length ≤ 1000000) (h : σ id = some (.row 5 (L.map celV))) {Q : V → Sto → Nat → Prop}
    (hQ : ∀ σ', σ' id = some (.row 5 (L.reverse.map celV)) → (∀ i, i ≠ id → σ' i = σ i) → Q .undef σ' n) : run T (.raw 28 [.ref id 0 L.length 5] σ n 0) (memQ Q) := by
  refine run_rawE (fn := g28) rfl rfl ?_
  simp only [g28, b28]
  simp +contextual -implicitDefEqProofs (maxSteps := 2000000) only [↓wP, wQ, wQ1, wQ2, wQ3, wR, boxE, partsOf, ↓reduceIte, Nat.reduceEqDiff, Nat.reduceAdd, Nat.reduceSub, Nat.reduceLeDiff, Nat.reduceLT, Nat.reduceMul, reduceCtorEq, Int.reduceBNe, Int.reduceBEq, Int.reduceLT, Int.reduceLE, Int.reduceGT]
  refine WC_loopI 0 (fun (s : (Nat × Nat) × List Cel) env σ' n' => n' = n ∧ env 0 = .ref id 0 L.length 5 ∧ env 2 = .int .i64 (s.1.1 : Int) ∧ env 3 = .int .i64 ((s.1.2 : Int) - 1) ∧ s.1.1 + s.1.2 = L.length ∧ s.1.1 ≤ s.1.2 + 1 ∧ s.2.length = L.length ∧
    (∀ i, i ≠ id → σ' i = σ i) ∧ σ' id = some (.row 5 (s.2.map celV)) ∧ (∀ k, k < L.length → s.2[k]? = if k < s.1.1 ∨ s.1.2 ≤ k then L[L.length - 1 - k]? else L[k]?)) (fun s => s.1.2) ?_ ((0, L.length), L) _ _ _ ?_
  · intro ⟨⟨i, j⟩, M⟩ env σ1 n1 ⟨k1, k2, k3, k4, k5, k6, k7, k8, k9, k10⟩
    dsimp only at *
    subst k1
    by_cases hlt : i + 1 < j
    · have hlt' : (i : Int) < (j : Int) - 1 := by omega
      obtain ⟨j, rfl⟩ : ∃ j', j = j' + 1 := ⟨j - 1, by omega⟩
      have e4 : (((j + 1 : Nat) : Int) - 1) = (j : Int) := by omega
      rw [e4] at k4 hlt'
      have hi : i < M.length := by omega
      have hj : j < M.length := by omega
      have xi : M[i]? = some M[i] := List.getElem?_eq_getElem hi
      have xj : M[j]? = some M[j] := List.getElem?_eq_getElem hj
      have w1 : IntKind.i64.wrap ((i : Int) + 1) = ((i + 1 : Nat) : Int) := by rw [wrap_i64] <;> omega
      have w2 : IntKind.i64.wrap ((j : Int) - 1) = (j : Int) - 1 := by rw [wrap_i64] <;> omega
      have l1 : i < L.length := by omega
      have l2 : j < L.length := by omega
      have hii : ((M.map celV)[i]?) = some (celV M[i]) := by rw [List.getElem?_map, xi]; rfl
      have hjj : ((M.map celV)[j]?) = some (celV M[j]) := by rw [List.getElem?_map, xj]; rfl
      have ci := celV_eq M[i]
      have cj := celV_eq M[j]
      have hset : ((M.map celV).set i (.agg [.bool M[j].u, .int .u64 M[j].id, .int .u64 M[j].b, .int .u64 M[j].e, slV 1 i32V M[j].v]))[j]? = some (.agg [.bool M[j].u, .int .u64 M[j].id, .int .u64 M[j].b, .int .u64 M[j].e, slV 1 i32V M[j].v]) := by
        rw [List.getElem?_set_ne (by omega), hjj, cj]
      simp +contextual -implicitDefEqProofs (maxSteps := 2000000) only [↓wP, wQ, wQ1, wQ2, wQ3, wR, boxE, partsOf, ↓reduceIte, Nat.reduceEqDiff, Nat.reduceAdd, Nat.reduceSub, Nat.reduceLeDiff, Nat.reduceLT, Nat.reduceMul, reduceCtorEq, Int.reduceBNe, Int.reduceBEq, Int.reduceLT, Int.reduceLE, Int.reduceGT, k2, k3, k4, k9, hlt', hii, hjj, hset, ci, cj, w1, w2, l1, l2]
      refine ⟨((i + 1, j), (M.set i M[j]).set j M[i]), by dsimp only; omega, rfl, rfl, by dsimp only; omega, by dsimp only; omega, by simp [k7], k8, ?_, fun k hk => ?_⟩
      · dsimp only
        rw [← cj, ← ci, List.map_set, List.map_set]
      · dsimp only
        have x1 := k10 i (by omega)
        have x2 := k10 j (by omega)
        rw [if_neg (by omega)] at x1 x2
        rw [xi] at x1
        rw [xj] at x2
        by_cases e1 : j = k
        · subst e1
          rw [List.getElem?_set_self (by simp; omega), if_pos (by omega), x1]
          congr 1; omega
        · rw [List.getElem?_set_ne e1]
          by_cases e2 : i = k
          · subst e2
            rw [List.getElem?_set_self (by omega), if_pos (by omega), x2]
            congr 1; omega
          · rw [List.getElem?_set_ne e2, k10 k hk]
            by_cases hc : k < i ∨ j + 1 ≤ k
            · rw [if_pos hc, if_pos (by omega)]
            · rw [if_neg hc, if_neg (by omega)]
    · have hlt' : ¬ (i : Int) < (j : Int) - 1 := by omega
      have hM : M = L.reverse := by
        apply List.ext_getElem?
        intro k
        by_cases hk : k < L.length
        · rw [k10 k hk, List.getElem?_reverse hk]
          by_cases hc : k < i ∨ j ≤ k
          · rw [if_pos hc]
          · rw [if_neg hc]
            congr 1
            omega
        · rw [List.getElem?_eq_none (by omega), List.getElem?_eq_none (by simp; omega)]
      rw [hM] at k9
      simp +contextual -implicitDefEqProofs (maxSteps := 2000000) only [↓wP, wQ, wQ1, wQ2, wQ3, wR, boxE, partsOf, ↓reduceIte, Nat.reduceEqDiff, Nat.reduceAdd, Nat.reduceSub, Nat.reduceLeDiff, Nat.reduceLT, Nat.reduceMul, reduceCtorEq, Int.reduceBNe, Int.reduceBEq, Int.reduceLT, Int.reduceLE, Int.reduceGT, k2, k3, k4, hlt']
      exact hQ _ k9 k8
  · simp +contextual -implicitDefEqProofs (maxSteps := 2000000) only [↓wP, wQ, wQ1, wQ2, wQ3, wR, boxE, partsOf, ↓reduceIte, Nat.reduceEqDiff, Nat.reduceAdd, Nat.reduceSub, Nat.reduceLeDiff, Nat.reduceLT, Nat.reduceMul, reduceCtorEq, Int.reduceBNe, Int.reduceBEq, Int.reduceLT, Int.reduceLE, Int.reduceGT]
    refine ⟨rfl, by rw [wrap_i64] <;> omega, fun _ _ => trivial, h, fun k hk => ?_⟩
    rw [if_neg (by omega)]
end Go.Q.S11
end

section
/- Packed. -/
set_option linter.unusedSimpArgs false
set_option linter.unusedVariables false
namespace Go.Q.S11
open Go.Q Go.Sort

theorem cs_nw (l : List Cel) : ∀ x ∈ l.map celV, Nw 11 x = true := by
  intro x hx
  obtain ⟨c, -, rfl⟩ := List.mem_map.1 hx
  obtain ⟨u, id, b, e, v⟩ := c
  cases v <;> rfl
theorem f50 (fs : Bool) (σ : Sto) (n lk : Nat) : callE T fs 50 [] σ n lk = some (.agg [.ref n 0 96 5], upd σ n (some (.row 5 ((List.replicate 96 zeroC).map celV))), n + 1) := by
  rw [callE_thaw (by decide) r50 rfl]
  have hnw := cs_nw (List.replicate 96 zeroC)
  have hzl : ((List.replicate 96 zeroC).map celV).length = 96 := by rw [List.length_map, List.length_replicate]
  generalize (List.replicate 96 zeroC).map celV = Z at *
  simp only [thaw, thawL, thawL_nw 11 hnw, hzl]

def pk (l : List Cel) (j : Nat) : List Cel := l.take j ++ List.replicate (96 - j) zeroC
theorem pk_len {l : List Cel} {j : Nat} (hj : j ≤ l.length) (hl : l.length ≤ 96) : (pk l j).length = 96 := by
  unfold pk; rw [List.length_append, List.length_take, List.length_replicate]; omega
theorem pk_set {l : List Cel} {j : Nat} (hj : j < l.length) (hl : l.length ≤ 96) : (pk l j).set j l[j] = pk l (j + 1) := by
  unfold pk
  have e : 96 - j = (96 - (j + 1)) + 1 := by omega
  rw [e, List.replicate_succ, List.set_append_right _ _ (by rw [List.length_take]; omega)]
  have : j - (l.take j).length = 0 := by rw [List.length_take]; omega
  rw [this, List.set_cons_zero, show l.take (j + 1) = l.take j ++ [l[j]] from (List.take_append_getElem hj).symm, List.append_assoc]
  rfl

theorem cs_row {σ : Sto} {id : Nat} {l : List Cel} (h : σ id = some (.row 5 (l.map celV))) (k : Nat) : frz σ (k + 3) (.ref id 0 l.length 5) = some (slV 5 celV (some l)) := by
  have := (Fz.ref (σ := σ) (id := id) (sz := 5) (xs := l.map celV) (ts := l.map celV) (k := k + 2) (S := fun _ => True) h trivial
    (FzL.trees (fun x hx => by obtain ⟨c, -, rfl⟩ := List.mem_map.1 hx; simp [celV, Tr, Tr_slV]) (fun x hx c hc => by
      obtain ⟨d, -, rfl⟩ := List.mem_map.1 hx
      simp only [celV, V.cells, List.mem_cons, List.not_mem_nil, or_false] at hc
      rcases hc with rfl | rfl | rfl | rfl | rfl <;> first | rfl | exact Tr_slV _ _ _ _))).1
  rw [List.length_map] at this
  exact this

theorem r29 (o : Option (List Cel)) (hl : (lst o).length ≤ 96) (hc : ∀ c ∈ lst o, c.u = true ∧ okCel c = true) (hv : ∀ c ∈ lst o, (lst c.v).length < 9223372036854775808) : res T 29 [slV 5 celV o] = some (.tup [.agg [slV 5 celV (some (pk (lst o) (lst o).length))], .int .i64 0]) := by
  refine run_res (run_pure (fn := g29) rfl rfl (by decide) ?_)
  simp only [g29, b29]
  have hd : ¬ (96 : Int) < ((lst o).length : Int) := by omega
  simp +contextual -implicitDefEqProofs (maxSteps := 2000000) only [↓wP, wQ, wQ1, wQ2, wQ3, wR, boxE, partsOf, ↓reduceIte, Nat.reduceEqDiff, Nat.reduceAdd, Nat.reduceSub, Nat.reduceLeDiff, Nat.reduceLT, Nat.reduceMul, reduceCtorEq, Int.reduceBNe, Int.reduceBEq, Int.reduceLT, Int.reduceLE, Int.reduceGT, hd, f50]
  have hpl := pk_len (l := lst o) (j := (lst o).length) (Nat.le_refl _) hl
  refine WC_for (lst o).length 0 (fun (j : Nat) env σ n => 3 ≤ n ∧ env 2 = .ptr 0 1 0 0 ∧ env 4 = .ptr 2 1 0 0 ∧ env 12 = slV 5 celV o ∧ σ 0 = some (.row 1 [.agg [.nilS]]) ∧ σ 2 = some (.row 1 [.agg [.ref 1 0 96 5]]) ∧ σ 1 = some (.row 5 ((pk (lst o) j).map celV))) (by omega) (by decide) (by decide) (fun _ _ => rfl) (fun _ _ _ => rfl) ?_ ?_ _ _ _ rfl rfl ?_
  · intro j env σ n hj h1 h2 ⟨h3, h4, h5, h6, h7, h8, h9⟩
    simp only [vl_tmp] at h2
    have hx : (lst o)[j]? = some (lst o)[j] := List.getElem?_eq_getElem hj
    have hcj := hc _ (List.getElem_mem hj)
    have hs := pk_set hj hl
    have hv' := hv _ (List.getElem_mem hj)
    have hpj := pk_len (l := lst o) (j := j) (by omega) hl
    generalize (lst o)[j] = c at *
    have f := f51 c.u c.id c.b c.e c.v hv'
    have hok : okCel ⟨c.u, c.id, c.b, c.e, c.v⟩ = true := hcj.2
    rw [hok, hcj.1] at f
    have q0 : (0 = n) = False := by simp; omega
    have q1 : (1 = n) = False := by simp; omega
    have q2 : (2 = n) = False := by simp; omega
    have l1 : j < 96 := by omega
    have hg : ((pk (lst o) j).map celV)[j]? = some (celV ((pk (lst o) j)[j]'(by omega))) := by rw [List.getElem?_map, List.getElem?_eq_getElem (by omega)]; rfl
    have hg2 := celV_eq ((pk (lst o) j)[j]'(by omega))
    have ce := celV_eq c
    rw [hcj.1] at ce
    simp +contextual -implicitDefEqProofs (maxSteps := 2000000) only [↓wP, wQ, wQ1, wQ2, wQ3, wR, boxE, partsOf, ↓reduceIte, Nat.reduceEqDiff, Nat.reduceAdd, Nat.reduceSub, Nat.reduceLeDiff, Nat.reduceLT, Nat.reduceMul, reduceCtorEq, Int.reduceBNe, Int.reduceBEq, Int.reduceLT, Int.reduceLE, Int.reduceGT, h1, h2, h4, h5, h6, h7, h8, h9, hx, ce, f, q0, q1, q2, l1, hg, hg2]
    exact ⟨by omega, by rw [← hs, List.map_set, ce]⟩
  · intro env σ n ⟨h3, h4, h5, h6, h7, h8, h9⟩ h1 h2
    simp +contextual -implicitDefEqProofs (maxSteps := 2000000) only [↓wP, wQ, wQ1, wQ2, wQ3, wR, boxE, partsOf, ↓reduceIte, Nat.reduceEqDiff, Nat.reduceAdd, Nat.reduceSub, Nat.reduceLeDiff, Nat.reduceLT, Nat.reduceMul, reduceCtorEq, Int.reduceBNe, Int.reduceBEq, Int.reduceLT, Int.reduceLE, Int.reduceGT, h4, h5, h7, h8]
    have hr := cs_row (σ := upd σ 0 (some (.row 1 [.agg [.ref 1 0 96 5]]))) (id := 1) (l := pk (lst o) (lst o).length) (by simp [upd, h9]) 7
    rw [hpl] at hr
    rw [hr]
    rfl
  · simp +contextual -implicitDefEqProofs (maxSteps := 2000000) only [↓wP, wQ, wQ1, wQ2, wQ3, wR, boxE, partsOf, ↓reduceIte, Nat.reduceEqDiff, Nat.reduceAdd, Nat.reduceSub, Nat.reduceLeDiff, Nat.reduceLT, Nat.reduceMul, reduceCtorEq, Int.reduceBNe, Int.reduceBEq, Int.reduceLT, Int.reduceLE, Int.reduceGT]
    simp [pk]
end Go.Q.S11
end
