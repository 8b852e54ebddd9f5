/- The document's order. -/
import Derived.Test.YtadnjdjahalpbaaSB
import Derived.Test.YtadnjdjahalpbaaProg
import Derived.KernelRfl
section
set_option linter.unusedSimpArgs false
set_option linter.unusedVariables false
namespace Go.Q.S6
open Go.Q Go.Sort

def oH (l : List Hit) : Option (List V) := if l = [] then none else some (hs l)
def optH (l : List Hit) : Option (List Hit) := if l = [] then none else some l
theorem lst_optH (l : List Hit) : lst (optH l) = l := by
  unfold optH; split
  · rename_i h; rw [h]; rfl
  · rfl
theorem lst_oH (l : List Hit) : lst (oH l) = hs l := by
  unfold oH; split
  · rename_i h; rw [h]; rfl
  · rfl
theorem oH_slV (l : List Hit) : slV 2 _root_.id (oH l) = slV 2 hitV (optH l) := by
  unfold oH optH; split <;> simp [slV, hs]
theorem plLen {σ : Sto} {m n : Nat} {v : V} {l : List Hit} (h : Pl σ m n 2 v (oH l)) : lenE v = some (.int .i64 (l.length : Int)) := by
  unfold oH at h
  split at h
  · rename_i e; rw [e]; simp only [Pl] at h; rw [h, lenE_nil]; rfl
  · obtain ⟨i, rfl, -⟩ := h
    rw [lenE_ref, hs_len]
theorem plRefs {σ : Sto} {m n : Nat} {v : V} {l : List Hit} (h : Pl σ m n 2 v (oH l)) (hl : l ≠ []) : ∃ i, v = .ref i 0 l.length 2 ∧ σ i = some (.row 2 (hs l)) ∧ m ≤ i ∧ i < n := by
  unfold oH at h
  rw [if_neg hl] at h
  obtain ⟨i, rfl, h1⟩ := h
  exact ⟨i, by rw [hs_len], h1⟩
theorem plOf {σ : Sto} {m n i : Nat} {l : List Hit} (hl : l ≠ []) (h1 : σ i = some (.row 2 (hs l))) (h2 : m ≤ i) (h3 : i < n) : Pl σ m n 2 (.ref i 0 l.length 2) (oH l) := by
  unfold oH
  rw [if_neg hl]
  exact ⟨i, by rw [hs_len], h1, h2, h3⟩
theorem tr_hs (k : Nat) (l : List Hit) : (∀ x ∈ hs l, Tr (k + 2) x = true) ∧ ∀ x ∈ hs l, ∀ c ∈ x.cells, Tr (k + 1) c = true := by
  constructor
  · intro x hx
    obtain ⟨y, -, rfl⟩ := List.mem_map.1 hx
    rfl
  · intro x hx c hc
    obtain ⟨y, -, rfl⟩ := List.mem_map.1 hx
    simp only [hitV, V.cells, List.mem_cons, List.not_mem_nil, or_false] at hc
    rcases hc with rfl | rfl <;> rfl
theorem plHf {σ : Sto} {m n : Nat} {v : V} {l : List Hit} (h : Pl σ m n 2 v (oH l)) : frz σ 12 v = some (slV 2 hitV (optH l)) := by
  rw [Go.Q.Pl.frz h (by rw [lst_oH]; exact (tr_hs 9 l).1) (by rw [lst_oH]; exact (tr_hs 10 l).2), oH_slV]

def mv (s : List Hit) (h : Hit) (k : Nat) : List Hit := s.take k ++ h :: s.drop k
theorem mv_len (s : List Hit) (h : Hit) (k : Nat) : (mv s h k).length = s.length + 1 := by simp [mv]; omega
theorem mv_end (s : List Hit) (h : Hit) : mv s h s.length = s ++ [h] := by simp [mv]
theorem mv_step (s : List Hit) (h : Hit) (m : Nat) (hm : m < s.length) : ((mv s h (m + 1)).set (m + 1) s[m]).set m h = mv s h m := by
  have e1 : s.take (m + 1) = s.take m ++ [s[m]] := (List.take_append_getElem hm).symm
  have e2 : s.drop m = s[m] :: s.drop (m + 1) := List.drop_eq_getElem_cons hm
  unfold mv
  rw [e1, e2]
  have hl : (s.take m).length = m := by rw [List.length_take]; omega
  generalize s[m] = x at *
  generalize s.drop (m + 1) = b at *
  generalize s.take m = a at *
  subst hl
  simp [List.set_append]
theorem mv_get0 (s : List Hit) (h : Hit) (k : Nat) (hk : k ≤ s.length) : (hs (mv s h k))[k]? = some (.agg [.int .u64 h.id, .int .u64 h.d]) := by
  have : (mv s h k)[k]? = some h := by
    unfold mv
    rw [List.getElem?_append_right (by rw [List.length_take]; omega), List.length_take, Nat.min_eq_left hk, Nat.sub_self]
    rfl
  simp [hs, this, hitV]
theorem mv_get1 (s : List Hit) (h : Hit) (m : Nat) (hm : m < s.length) : (hs (mv s h (m + 1)))[m]? = some (.agg [.int .u64 s[m].id, .int .u64 s[m].d]) := by
  have : (mv s h (m + 1))[m]? = some s[m] := by
    unfold mv
    rw [List.getElem?_append_left (by rw [List.length_take]; omega), List.getElem?_take_of_lt (by omega), List.getElem?_eq_getElem hm]
  simp [hs, this, hitV]
theorem hs_set (l : List Hit) (i : Nat) (x : Hit) : (hs l).set i (.agg [.int .u64 x.id, .int .u64 x.d]) = hs (l.set i x) := by simp [hs, List.map_set, hitV]
theorem hs_set_at {l : List Hit} {i j : Nat} {x : Hit} (hj : j < l.length) : ∃ u w : Int, ((hs l).set i (.agg [.int .u64 x.id, .int .u64 x.d]))[j]? = some (.agg [.int .u64 u, .int .u64 w]) := by
  rw [hs_set, hs_get (by simpa using hj)]
  exact ⟨_, _, rfl⟩

theorem r24 (o : Option (List Hit)) (hl : (lst o).length ≤ 4000000) : res T 24 [slV 2 hitV o] = some (slV 2 hitV (optH (srt (lst o)))) := by
  refine run_res (run_pure (fn := g24) rfl rfl (by decide) ?_)
  simp only [g24, b24]
  simp +contextual -implicitDefEqProofs (maxSteps := 2000000) only [↓wP, wQ, wQ1, wQ2, wQ3, wR, boxE, partsOf, ↓reduceIte, Nat.reduceEqDiff, Nat.reduceAdd, Nat.reduceSub, Nat.reduceLeDiff, Nat.reduceLT, Nat.reduceMul, reduceCtorEq, Int.reduceBNe, Int.reduceBEq, Int.reduceLT, Int.reduceLE, Int.reduceGT]
  refine WC_for (lst o).length 0 (fun (j : Nat) env σ n => env 8 = slV 2 hitV o ∧ Pl σ 0 n 2 (env 3) (oH (srt ((lst o).take j)))) (by omega) (by decide) (by decide) (fun _ _ => rfl) (fun _ _ _ => rfl) ?_ ?_ _ _ _ rfl rfl ?_
  · intro j env σ n hj h1 h2 ⟨h3, h4⟩
    simp only [vl_tmp] at h2
    have hx : (lst o)[j]? = some (lst o)[j] := List.getElem?_eq_getElem hj
    have ht : srt ((lst o).take (j + 1)) = ins (lst o)[j] (srt ((lst o).take j)) := by rw [← List.take_append_getElem hj, srt_snoc]
    have hsl : (srt ((lst o).take j)).length = j := by rw [srt_len, List.length_take]; omega
    generalize (lst o)[j] = h at *
    generalize srt ((lst o).take j) = s at *
    generalize hv3 : env 3 = v3 at h4
    obtain ⟨σ1, hσ1⟩ : ∃ σ1, σ1 = upd (upd σ n (some (.row 2 [.agg [.int .u64 0, .int .u64 0]]))) n (some (.row 2 [.agg [.int .u64 h.id, .int .u64 h.d]])) := ⟨_, rfl⟩
    have sn : σ1 n = some (.row 2 [.agg [.int .u64 h.id, .int .u64 h.d]]) := by rw [hσ1]; simp [upd]
    have so : ∀ i, 0 ≤ i → i < n → σ1 i = σ i := fun i _ hi => by
      have : i ≠ n := by omega
      rw [hσ1]; simp [upd, this]
    have hp1 : Pl σ1 0 n 2 v3 (oH s) := h4.loc so (Nat.le_refl _)
    have hlen := plLen hp1
    simp +contextual -implicitDefEqProofs (maxSteps := 2000000) only [↓wP, wQ, wQ1, wQ2, wQ3, wR, boxE, partsOf, ↓reduceIte, Nat.reduceEqDiff, Nat.reduceAdd, Nat.reduceSub, Nat.reduceLeDiff, Nat.reduceLT, Nat.reduceMul, reduceCtorEq, Int.reduceBNe, Int.reduceBEq, Int.reduceLT, Int.reduceLE, Int.reduceGT, h1, h2, h3, hv3, hx, hitV_eq, ← hσ1]
    refine WC_loopE 2 0 (fun (at' : Nat) env σ' n' => σ' = σ1 ∧ n' = n + 1 ∧ env 8 = slV 2 hitV o ∧ env 9 = .int .i64 ((lst o).length : Int) ∧ env 10 = .int .i64 (j : Int) ∧ env 3 = v3 ∧ env 5 = .ptr n 2 0 0 ∧ env 6 = .int .i64 (at' : Int) ∧ at' ≤ pos h s) (fun at' => s.length - at')
      (fun env σ' n' => σ' = σ1 ∧ n' = n + 1 ∧ env 8 = slV 2 hitV o ∧ env 9 = .int .i64 ((lst o).length : Int) ∧ env 10 = .int .i64 (j : Int) ∧ env 3 = v3 ∧ env 5 = .ptr n 2 0 0 ∧ env 6 = .int .i64 (pos h s : Int)) ?_ ?_ 0 _ _ _ ?_
    · clear h1 h2 h3 hv3
      intro at' env σ' n' ⟨k1, k2, k3, k4, k5, k6, k7, k8, k9⟩
      subst k1 k2
      have hple := pos_le h s
      by_cases hat : at' < s.length
      · have hat' : (at' : Int) < (s.length : Int) := by omega
        have hne : s ≠ [] := by intro e; rw [e] at hat; simp at hat
        obtain ⟨i, rfl, r1, r2, r3⟩ := plRefs hp1 hne
        have xg := hs_get hat
        by_cases hlt : at' < pos h s
        · have hah := pos_lt hlt hat
          have wi : IntKind.i64.wrap ((at' : Int) + 1) = ((at' + 1 : Nat) : Int) := by rw [wrap_i64] <;> omega
          have e29 : ahead ⟨h.id, h.d⟩ ⟨s[at'].id, s[at'].d⟩ = false := hah
          simp +contextual -implicitDefEqProofs (maxSteps := 2000000) only [↓wP, wQ, wQ1, wQ2, wQ3, wR, boxE, partsOf, ↓reduceIte, Nat.reduceEqDiff, Nat.reduceAdd, Nat.reduceSub, Nat.reduceLeDiff, Nat.reduceLT, Nat.reduceMul, reduceCtorEq, Int.reduceBNe, Int.reduceBEq, Int.reduceLT, Int.reduceLE, Int.reduceGT, exQ_exit, k3, k4, k5, k6, k7, k8, hat, hat', sn, r1, xg, f29, e29, wi]
          exact ⟨at' + 1, by omega, rfl, by omega⟩
        · have e : at' = pos h s := by omega
          subst e
          have e29 : ahead ⟨h.id, h.d⟩ ⟨s[pos h s].id, s[pos h s].d⟩ = true := pos_at hat
          simp +contextual -implicitDefEqProofs (maxSteps := 2000000) only [↓wP, wQ, wQ1, wQ2, wQ3, wR, boxE, partsOf, ↓reduceIte, Nat.reduceEqDiff, Nat.reduceAdd, Nat.reduceSub, Nat.reduceLeDiff, Nat.reduceLT, Nat.reduceMul, reduceCtorEq, Int.reduceBNe, Int.reduceBEq, Int.reduceLT, Int.reduceLE, Int.reduceGT, exQ_exit, k3, k4, k5, k6, k7, k8, hat, hat', sn, r1, xg, f29, e29]
      · have hat' : ¬ (at' : Int) < (s.length : Int) := by omega
        have e : at' = pos h s := by omega
        simp +contextual -implicitDefEqProofs (maxSteps := 2000000) only [↓wP, wQ, wQ1, wQ2, wQ3, wR, boxE, partsOf, ↓reduceIte, Nat.reduceEqDiff, Nat.reduceAdd, Nat.reduceSub, Nat.reduceLeDiff, Nat.reduceLT, Nat.reduceMul, reduceCtorEq, Int.reduceBNe, Int.reduceBEq, Int.reduceLT, Int.reduceLE, Int.reduceGT, exQ_exit, k3, k4, k5, k6, k7, k8, hlen, hat']
        rw [e]
    · clear h1 h2 h3 hv3
      intro env σ' n' ⟨k1, k2, h8, h9, h10, h3, h5, h6⟩
      subst k1 k2
      have hple := pos_le h s
      simp +contextual -implicitDefEqProofs (maxSteps := 2000000) only [↓wP, wQ, wQ1, wQ2, wQ3, wR, boxE, partsOf, ↓reduceIte, Nat.reduceEqDiff, Nat.reduceAdd, Nat.reduceSub, Nat.reduceLeDiff, Nat.reduceLT, Nat.reduceMul, reduceCtorEq, Int.reduceBNe, Int.reduceBEq, Int.reduceLT, Int.reduceLE, Int.reduceGT, h8, h9, h10, h3, h5, h6, sn]
      refine stepW_app1 (m := 0) (n0 := n) (σ0 := σ') (o := oH s) hp1 (fun i _ hi => ?_) (by omega) (by omega) (Nat.le_refl _) ?_ (fun _ σ2 q1 q2 => ?_)
      · have a1 : i ≠ n + 1 := by omega
        simp [upd, a1]
      · rw [lst_oH, hs_len]; unfold LIM; omega
      · rw [lst_oH, hs_len] at q1 ⊢
        have hrow : σ2 (n + 2) = some (.row 2 (hs (mv s h s.length))) := by
          obtain ⟨i, e1, e2, -⟩ := q1
          simp only [V.ref.injEq] at e1
          rw [e1.1, e2, mv_end]
          simp [hs, hitV]
        have w1 : IntKind.i64.wrap (((s.length + 1 : Nat) : Int) - 1) = (s.length : Int) := by rw [wrap_i64] <;> omega
        simp +contextual -implicitDefEqProofs (maxSteps := 2000000) only [↓wP, wQ, wQ1, wQ2, wQ3, wR, boxE, partsOf, ↓reduceIte, Nat.reduceEqDiff, Nat.reduceAdd, Nat.reduceSub, Nat.reduceLeDiff, Nat.reduceLT, Nat.reduceMul, reduceCtorEq, Int.reduceBNe, Int.reduceBEq, Int.reduceLT, Int.reduceLE, Int.reduceGT, h8, h9, h10, h3, h5, h6, w1]
        refine WC_loopE 4 0 (fun (k : Nat) env σ' n' => n' = n + 2 + 1 ∧ env 8 = slV 2 hitV o ∧ env 9 = .int .i64 ((lst o).length : Int) ∧ env 10 = .int .i64 (j : Int) ∧ env 3 = .ref (n + 2) 0 (s.length + 1) 2 ∧ env 6 = .int .i64 (pos h s : Int) ∧ env 7 = .int .i64 (k : Int) ∧
            pos h s ≤ k ∧ k ≤ s.length ∧ σ' (n + 2) = some (.row 2 (hs (mv s h k)))) (fun k => k)
          (fun env σ' n' => n' = n + 2 + 1 ∧ env 8 = slV 2 hitV o ∧ env 9 = .int .i64 ((lst o).length : Int) ∧ env 10 = .int .i64 (j : Int) ∧ env 3 = .ref (n + 2) 0 (s.length + 1) 2 ∧ σ' (n + 2) = some (.row 2 (hs (mv s h (pos h s))))) ?_ ?_ s.length _ _ _ ?_
        · clear h8 h9 h10 h3 h5 h6 hrow q1 q2
          intro k env σ3 n3 ⟨k1, k2, k3, k4, k5, k6, k7, k8, k9, k10⟩
          subst k1
          by_cases hlt : pos h s < k
          · have hlt' : (pos h s : Int) < (k : Int) := by omega
            obtain ⟨m, rfl⟩ : ∃ m, k = m + 1 := ⟨k - 1, by omega⟩
            have hm : m < s.length := by omega
            have wk : IntKind.i64.wrap (((m + 1 : Nat) : Int) - 1) = (m : Int) := by rw [wrap_i64] <;> omega
            have g0 := mv_get0 s h (m + 1) k9
            have g1 := mv_get1 s h m hm
            have l1 : m + 1 < s.length + 1 := by omega
            have l2 : m < s.length + 1 := by omega
            obtain ⟨u, v, g2⟩ := hs_set_at (l := mv s h (m + 1)) (i := m + 1) (j := m) (x := s[m]) (by rw [mv_len]; omega)
            have ms := mv_step s h m hm
            simp +contextual -implicitDefEqProofs (maxSteps := 2000000) only [↓wP, wQ, wQ1, wQ2, wQ3, wR, boxE, partsOf, ↓reduceIte, Nat.reduceEqDiff, Nat.reduceAdd, Nat.reduceSub, Nat.reduceLeDiff, Nat.reduceLT, Nat.reduceMul, reduceCtorEq, Int.reduceBNe, Int.reduceBEq, Int.reduceLT, Int.reduceLE, Int.reduceGT, exQ_exit, k2, k3, k4, k5, k6, k7, hlt', wk, g0, g1, g2, l1, l2, k10]
            exact ⟨m, by omega, rfl, by omega, by omega, by rw [hs_set, hs_set, ms]⟩
          · have hlt' : ¬ (pos h s : Int) < (k : Int) := by omega
            have e : k = pos h s := by omega
            subst e
            simp +contextual -implicitDefEqProofs (maxSteps := 2000000) only [↓wP, wQ, wQ1, wQ2, wQ3, wR, boxE, partsOf, ↓reduceIte, Nat.reduceEqDiff, Nat.reduceAdd, Nat.reduceSub, Nat.reduceLeDiff, Nat.reduceLT, Nat.reduceMul, reduceCtorEq, Int.reduceBNe, Int.reduceBEq, Int.reduceLT, Int.reduceLE, Int.reduceGT, exQ_exit, k2, k3, k4, k5, k6, k7, hlt']
            exact k10
        · clear h8 h9 h10 h3 h5 h6 hrow q1 q2
          intro env σ3 n3 ⟨k1, k2, k3, k4, k5, k6⟩
          subst k1
          simp +contextual -implicitDefEqProofs (maxSteps := 2000000) only [↓wP, wQ, wQ1, wQ2, wQ3, wR, boxE, partsOf, ↓reduceIte, Nat.reduceEqDiff, Nat.reduceAdd, Nat.reduceSub, Nat.reduceLeDiff, Nat.reduceLT, Nat.reduceMul, reduceCtorEq, Int.reduceBNe, Int.reduceBEq, Int.reduceLT, Int.reduceLE, Int.reduceGT, k2, k3, k4, k5]
          rw [ht, ins_eq]
          have e : s.length + 1 = (s.take (pos h s) ++ h :: s.drop (pos h s)).length := by rw [← mv_len s h (pos h s)]; rfl
          rw [e]
          exact plOf (by simp) k6 (by omega) (by omega)
        · simp +contextual -implicitDefEqProofs (maxSteps := 2000000) only [↓wP, wQ, wQ1, wQ2, wQ3, wR, boxE, partsOf, ↓reduceIte, Nat.reduceEqDiff, Nat.reduceAdd, Nat.reduceSub, Nat.reduceLeDiff, Nat.reduceLT, Nat.reduceMul, reduceCtorEq, Int.reduceBNe, Int.reduceBEq, Int.reduceLT, Int.reduceLE, Int.reduceGT, h8, h9, h10, h3, h6]
          exact ⟨hple, hrow⟩
    · simp +contextual -implicitDefEqProofs (maxSteps := 2000000) only [↓wP, wQ, wQ1, wQ2, wQ3, wR, boxE, partsOf, ↓reduceIte, Nat.reduceEqDiff, Nat.reduceAdd, Nat.reduceSub, Nat.reduceLeDiff, Nat.reduceLT, Nat.reduceMul, reduceCtorEq, Int.reduceBNe, Int.reduceBEq, Int.reduceLT, Int.reduceLE, Int.reduceGT, h1, h2, h3, hv3]
      rfl
  · intro env σ n ⟨h3, h4⟩ h1 h2
    rw [List.take_length] at h4
    have hf := plHf h4
    simp +contextual -implicitDefEqProofs (maxSteps := 2000000) only [↓wP, wQ, wQ1, wQ2, wQ3, wR, boxE, partsOf, ↓reduceIte, Nat.reduceEqDiff, Nat.reduceAdd, Nat.reduceSub, Nat.reduceLeDiff, Nat.reduceLT, Nat.reduceMul, reduceCtorEq, Int.reduceBNe, Int.reduceBEq, Int.reduceLT, Int.reduceLE, Int.reduceGT, hf]
  · simp +contextual -implicitDefEqProofs (maxSteps := 2000000) only [↓wP, wQ, wQ1, wQ2, wQ3, wR, boxE, partsOf, ↓reduceIte, Nat.reduceEqDiff, Nat.reduceAdd, Nat.reduceSub, Nat.reduceLeDiff, Nat.reduceLT, Nat.reduceMul, reduceCtorEq, Int.reduceBNe, Int.reduceBEq, Int.reduceLT, Int.reduceLE, Int.reduceGT]
    simp [oH, srt, Pl]

theorem f24 (o : Option (List Hit)) (hl : (lst o).length ≤ 4000000) (fs : Bool) (σ : Sto) (n lk : Nat) : callE T fs 24 [slV 2 hitV o] σ n lk = some (slV 2 hitV (optH (srt (lst o))), σ, n) :=
  callE_tr (by decide) (r24 o hl) (by simp [Tr, Tr_slV]) (Nw_slV 2 hitV _ 11) fs σ n lk

/-- The document's first ones. -/
def refF (k : Nat) (l : List Hit) : Option (List Hit) := sub (optH (srt l)) 0 (min k l.length)
theorem lst_refF (k : Nat) (l : List Hit) : lst (refF k l) = fst' k l := by
  unfold refF
  rw [lst_sub, lst_optH, List.drop_zero, fst']
  rcases Nat.le_total k l.length with h | h
  · rw [Nat.min_eq_left h]
  · rw [Nat.min_eq_right h, List.take_of_length_le (by rw [srt_len]; exact Nat.le_refl _), List.take_of_length_le (by rw [srt_len]; exact h)]
theorem r15 (o : Option (List Hit)) (k : Nat) (hl : (lst o).length ≤ 4000000) (hk : k < 9223372036854775808) : res T 15 [slV 2 hitV o, .int .i64 (k : Int)] = some (slV 2 hitV (refF k (lst o))) := by
  refine run_res (run_pure (fn := g15) rfl rfl (by decide) ?_)
  simp only [g15, b15]
  have hmin : minV (.int .i64 (k : Int)) (.int .i64 ((lst o).length : Int)) = some (.int .i64 ((min k (lst o).length : Nat) : Int)) := by
    rw [minV_int]
    congr 2
    split <;> omega
  have h1 : min k (lst o).length ≤ (lst o).length := Nat.min_le_right _ _
  have h2 := f24 o hl
  have h3 : (lst (optH (srt (lst o)))).length = (lst o).length := by rw [lst_optH, srt_len]
  simp +contextual -implicitDefEqProofs (maxSteps := 2000000) only [↓wP, wQ, wQ1, wQ2, wQ3, wR, boxE, partsOf, ↓reduceIte, Nat.reduceEqDiff, Nat.reduceAdd, Nat.reduceSub, Nat.reduceLeDiff, Nat.reduceLT, Nat.reduceMul, reduceCtorEq, Int.reduceBNe, Int.reduceBEq, Int.reduceLT, Int.reduceLE, Int.reduceGT, h2, h3, hmin, h1]
  rfl
theorem rch_row {σ : Sto} {id : Nat} {l : List Hit} (h : σ id = some (.row 2 (hs l))) (k : Nat) : rch σ (k + 2) (.ref id 0 l.length 2) = [id] := by
  have e : elems σ 2 (.ref id 0 l.length 2) = some (hs l) := by
    simp only [elems, h, List.drop_zero]
    rw [if_pos ⟨trivial, trivial, by rw [hs_len]; omega⟩, ← hs_len, List.take_length]
  simp only [rch, e, Option.getD_some]
  rw [List.flatMap_eq_nil_iff.2 fun x hx => ?_]
  obtain ⟨y, -, rfl⟩ := List.mem_map.1 hx
  rfl
def dr (σ : Sto) (id : Nat) (l : List Hit) : Sto := if l = [] then σ else dropL σ [id]
theorem dr_at (σ : Sto) (id : Nat) (l : List Hit) {i : Nat} (h : i ≠ id) : dr σ id l i = σ i := by
  unfold dr; split
  · rfl
  · simp [dropL, h]
theorem refF_none {k : Nat} {l : List Hit} : refF k l = none ↔ l = [] := by
  unfold refF sub optH
  rw [Option.map_eq_none_iff]
  constructor
  · intro h
    split at h
    · rename_i e
      have := srt_len l
      rw [e] at this
      exact List.length_eq_zero_iff.1 this.symm
    · cases h
  · rintro rfl; rfl
theorem f15 {σ : Sto} {id : Nat} {l : List Hit} (k N : Nat) (h : σ id = some (.row 2 (hs l))) (hN : l.length = N) (hl : N ≤ 4000000) (hk : k < 9223372036854775808) (n : Nat) :
    callE T true 15 [.ref id 0 N 2, .int .i64 (k : Int)] σ n 0 = some (slV 2 hitV (refF k l), dr σ id l, n) := by
  subst hN
  obtain ⟨o, rfl, h1⟩ := Hf.row h rfl
  rw [callE_eq (by decide)]
  have e : [V.ref id 0 (lst o).length 2, .int .i64 (k : Int)].mapM (frz σ 12) = some [slV 2 hitV o, .int .i64 (k : Int)] := by simp only [List.mapM_cons, List.mapM_nil, h1]; rfl
  have e2 : [V.ref id 0 (lst o).length 2, .int .i64 (k : Int)].flatMap (rch σ 12) = [id] := by
    simp only [List.flatMap_cons, List.flatMap_nil, rch_row h 10]; rfl
  rw [e, e2, callR_some, r15 o k hl hk, retE_some]
  unfold backE dr
  by_cases hl : lst o = []
  · have hr : refF k (lst o) = none := refF_none.2 hl
    rw [hr, if_pos (show flat (slV 2 hitV none) = true from rfl), if_pos hl]
    rfl
  · have hr : refF k (lst o) ≠ none := fun h => hl (refF_none.1 h)
    obtain ⟨x, hx⟩ := Option.ne_none_iff_exists'.1 hr
    rw [hx, if_neg (by simp [slV, flat]), if_neg hl]
    simp [slV, thaw]
theorem f15n (k : Nat) (hk : k < 9223372036854775808) (fs : Bool) (σ : Sto) (n lk : Nat) : callE T fs 15 [.nilS, .int .i64 (k : Int)] σ n lk = some (.nilS, σ, n) := by
  have h := r15 none k (by simp [lst]) hk
  have e : refF k (lst (none : Option (List Hit))) = none := by simp [refF, lst, srt, optH, sub]
  rw [e] at h
  exact callE_tr (T := T) (args := [.nilS, .int .i64 (k : Int)]) (by decide) h rfl rfl fs σ n lk

/-- The program's first ones: which error, and which. -/
def merE (k : Int) (l : List Hit) : Int := if k < 1 ∨ 16 < k then 2 else if 2000 < l.length then 3 else 0
def merV (k : Int) (l : List Hit) : List Hit := if merE k l = 0 then fst' k.toNat l else []

def hVal (n : Nat) (l : List Hit) : V := if l = [] then .nilS else .ref n 0 l.length 2
def hSto (σ : Sto) (n : Nat) (l : List Hit) : Sto := if l = [] then σ else upd σ n (some (.row 2 (hs l)))
def hN (n : Nat) (l : List Hit) : Nat := if l = [] then n else n + 1
theorem thaw_ownH (σ : Sto) (n : Nat) (l : List Hit) : thaw σ n (ownH l) = (hVal n l, hSto σ n l, hN n l) := by
  cases l with
  | nil => rfl
  | cons x l =>
    unfold hVal hSto hN
    rw [if_neg (by simp), if_neg (by simp), if_neg (by simp)]
    exact thaw_hs σ n (x :: l)
theorem flat_ownH (l : List Hit) : flat (ownH l) = true := by
  cases l with
  | nil => rfl
  | cons x l => exact hs_flat (x :: l)
theorem pl_h (σ : Sto) (n : Nat) (l : List Hit) : Pl (hSto σ n l) n (hN n l) 2 (hVal n l) (oH l) := by
  unfold hVal hSto hN
  by_cases h : l = []
  · rw [if_pos h, if_pos h, if_pos h]; simp [oH, h, Pl]
  · rw [if_neg h, if_neg h, if_neg h]; exact plOf h (by simp [upd]) (Nat.le_refl _) (by omega)
theorem hSto_at (σ : Sto) (n : Nat) (l : List Hit) {i : Nat} (h : i < n) : hSto σ n l i = σ i := by
  unfold hSto; split
  · rfl
  · have : i ≠ n := by omega
    simp [upd, this]
theorem hN_le (n : Nat) (l : List Hit) : n ≤ hN n l := by unfold hN; split <;> omega
theorem hVal_len (n : Nat) (l : List Hit) : lenE (hVal n l) = some (.int .i64 (l.length : Int)) := by
  unfold hVal
  split
  · rename_i h; rw [h, lenE_nil]; rfl
  · rw [lenE_ref]
theorem hVal_giv (σ : Sto) (n : Nat) (l : List Hit) : giv (hSto σ n l) 12 (hVal n l) = some (ownH l) ∧ (gids (hSto σ n l) 12 (hVal n l)).Nodup := by
  unfold hVal hSto
  by_cases h : l = []
  · rw [if_pos h, if_pos h, h]; exact ⟨rfl, by simp [gids]⟩
  · rw [if_neg h, if_neg h, ownH_eq h]
    have := giv_row (σ := upd σ n (some (.row 2 (hs l)))) (id := n) (sz := 2) (xs := hs l) (by simp [upd]) (hs_giv _ _) (hs_gids _ _)
    rw [hs_len] at this
    exact this
theorem giv_tup2 {σ : Sto} {v w r s : V} (h : giv σ 11 v = some r ∧ (gids σ 11 v).Nodup) (h' : giv σ 11 w = some s) (h'' : gids σ 11 w = []) :
    giv σ 12 (.tup [v, w]) = some (.tup [r, s]) ∧ (gids σ 12 (.tup [v, w])).Nodup := by
  constructor
  · simp only [giv, List.mapM_cons, List.mapM_nil, h.1, h']; rfl
  · simp only [gids, List.flatMap_cons, List.flatMap_nil, h'', List.append_nil]; exact h.2
theorem hVal_giv11 (σ : Sto) (n : Nat) (l : List Hit) : giv (hSto σ n l) 11 (hVal n l) = some (ownH l) ∧ (gids (hSto σ n l) 11 (hVal n l)).Nodup := by
  unfold hVal hSto
  by_cases h : l = []
  · rw [if_pos h, if_pos h, h]; exact ⟨rfl, by simp [gids]⟩
  · rw [if_neg h, if_neg h, ownH_eq h]
    have hg : ∀ x ∈ hs l, elemM (giv (upd σ n (some (.row 2 (hs l)))) 10) x = some x := by
      intro x hx
      obtain ⟨y, -, rfl⟩ := List.mem_map.1 hx
      rfl
    have hg' : ∀ x ∈ hs l, ∀ c ∈ x.cells, gids (upd σ n (some (.row 2 (hs l)))) 10 c = [] := by
      intro x hx c hc
      obtain ⟨y, -, rfl⟩ := List.mem_map.1 hx
      simp only [hitV, V.cells, List.mem_cons, List.not_mem_nil, or_false] at hc
      rcases hc with rfl | rfl <;> rfl
    have hat : upd σ n (some (.row 2 (hs l))) n = some (.row 2 (hs l)) := by simp [upd]
    constructor
    · simp only [giv, hat, hs_len, and_self, if_true]
      rw [mapM_id hg]; rfl
    · simp only [gids, hat]
      rw [List.flatMap_eq_nil_iff.2 fun x hx => List.flatMap_eq_nil_iff.2 fun c hc => hg' x hx c hc]
      simp

theorem sum_mono (l : List (Option (List Hit))) (j : Nat) : ((l.take j).flatMap lst).length ≤ (l.flatMap lst).length := by
  conv => rhs; rw [← List.take_append_drop j l]
  rw [List.flatMap_append, List.length_append]
  omega

theorem r16 (k : Int) (o : Option (List (Option (List Hit)))) (hlo : (lst o).length < 9223372036854775808) (hli : ∀ r ∈ lst o, (lst r).length < 4611686018427387904) :
    res T 16 [.int .i64 k, slV 1 (slV 2 hitV) o] = some (.tup [ownH (merV k ((lst o).flatMap lst)), .int .i64 (merE k ((lst o).flatMap lst))]) := by
  refine run_res (run_own (fn := g16) rfl rfl (by decide) ?_)
  simp only [g16, b16]
  by_cases hk1 : k < 1
  · have e1 : merE k ((lst o).flatMap lst) = 2 := if_pos (.inl hk1)
    have e2 : merV k ((lst o).flatMap lst) = [] := by unfold merV; rw [e1]; rfl
    rw [e1, e2]
    simp +contextual -implicitDefEqProofs (maxSteps := 2000000) only [↓wP, wQ, wQ1, wQ2, wQ3, wR, boxE, partsOf, ↓reduceIte, Nat.reduceEqDiff, Nat.reduceAdd, Nat.reduceSub, Nat.reduceLeDiff, Nat.reduceLT, Nat.reduceMul, reduceCtorEq, Int.reduceBNe, Int.reduceBEq, Int.reduceLT, Int.reduceLE, Int.reduceGT, hk1]
    exact ⟨rfl, by simp [gids]⟩
  · by_cases hk2 : 16 < k
    · have e1 : merE k ((lst o).flatMap lst) = 2 := if_pos (.inr hk2)
      have e2 : merV k ((lst o).flatMap lst) = [] := by unfold merV; rw [e1]; rfl
      rw [e1, e2]
      simp +contextual -implicitDefEqProofs (maxSteps := 2000000) only [↓wP, wQ, wQ1, wQ2, wQ3, wR, boxE, partsOf, ↓reduceIte, Nat.reduceEqDiff, Nat.reduceAdd, Nat.reduceSub, Nat.reduceLeDiff, Nat.reduceLT, Nat.reduceMul, reduceCtorEq, Int.reduceBNe, Int.reduceBEq, Int.reduceLT, Int.reduceLE, Int.reduceGT, hk1, hk2]
      exact ⟨rfl, by simp [gids]⟩
    · obtain ⟨kn, rfl⟩ : ∃ kn : Nat, k = (kn : Int) := ⟨k.toNat, by omega⟩
      simp +contextual -implicitDefEqProofs (maxSteps := 2000000) only [↓wP, wQ, wQ1, wQ2, wQ3, wR, boxE, partsOf, ↓reduceIte, Nat.reduceEqDiff, Nat.reduceAdd, Nat.reduceSub, Nat.reduceLeDiff, Nat.reduceLT, Nat.reduceMul, reduceCtorEq, Int.reduceBNe, Int.reduceBEq, Int.reduceLT, Int.reduceLE, Int.reduceGT, hk1, hk2]
      refine WC_for (lst o).length 0 (fun (j : Nat) env σ n => σ = Sto.empty ∧ n = 0 ∧ env 0 = .int .i64 (kn : Int) ∧ env 1 = slV 1 (slV 2 hitV) o ∧ env 15 = slV 1 (slV 2 hitV) o ∧ env 6 = .int .i64 ((((lst o).take j).flatMap lst).length : Int) ∧ (((lst o).take j).flatMap lst).length ≤ 2000) hlo (by decide) (by decide) (fun _ _ => rfl) (fun _ _ _ => rfl) ?_ ?_ _ _ _ rfl rfl ?_
      · intro j env σ n hj h1 h2 ⟨g1, g2, h3, h4, h5, h6, h7⟩
        subst g1 g2
        simp only [vl_tmp] at h2
        have hx : (lst o)[j]? = some (lst o)[j] := List.getElem?_eq_getElem hj
        have hr := hli _ (List.getElem_mem hj)
        have ht : ((lst o).take (j + 1)).flatMap lst = ((lst o).take j).flatMap lst ++ lst (lst o)[j] := by
          rw [← List.take_append_getElem hj, List.flatMap_append]
          simp
        have hmono := sum_mono (lst o) (j + 1)
        generalize (lst o)[j] = r at *
        rw [ht, List.length_append] at hmono
        have wa : IntKind.i64.wrap (((((lst o).take j).flatMap lst).length : Int) + ((lst r).length : Int)) = (((((lst o).take j).flatMap lst).length + (lst r).length : Nat) : Int) := by rw [wrap_i64] <;> omega
        by_cases hbig : 2000 < (((lst o).take j).flatMap lst).length + (lst r).length
        · have hbig' : (2000 : Int) < (((((lst o).take j).flatMap lst).length + (lst r).length : Nat) : Int) := by omega
          have e1 : merE (kn : Int) ((lst o).flatMap lst) = 3 := by
            unfold merE
            rw [if_neg (by omega), if_pos (by omega)]
          have e2 : merV (kn : Int) ((lst o).flatMap lst) = [] := by unfold merV; rw [e1]; rfl
          rw [e1, e2]
          simp +contextual -implicitDefEqProofs (maxSteps := 2000000) only [↓wP, wQ, wQ1, wQ2, wQ3, wR, boxE, partsOf, ↓reduceIte, Nat.reduceEqDiff, Nat.reduceAdd, Nat.reduceSub, Nat.reduceLeDiff, Nat.reduceLT, Nat.reduceMul, reduceCtorEq, Int.reduceBNe, Int.reduceBEq, Int.reduceLT, Int.reduceLE, Int.reduceGT, h1, h2, h3, h4, h5, h6, hx, wa, hbig']
          exact ⟨rfl, by simp [gids]⟩
        · have hbig' : ¬ (2000 : Int) < (((((lst o).take j).flatMap lst).length + (lst r).length : Nat) : Int) := by omega
          simp +contextual -implicitDefEqProofs (maxSteps := 2000000) only [↓wP, wQ, wQ1, wQ2, wQ3, wR, boxE, partsOf, ↓reduceIte, Nat.reduceEqDiff, Nat.reduceAdd, Nat.reduceSub, Nat.reduceLeDiff, Nat.reduceLT, Nat.reduceMul, reduceCtorEq, Int.reduceBNe, Int.reduceBEq, Int.reduceLT, Int.reduceLE, Int.reduceGT, h1, h2, h3, h4, h5, h6, hx, wa, hbig']
          rw [ht, List.length_append]
          exact ⟨rfl, by omega⟩
      · intro env σ n ⟨g1, g2, h3, h4, h5, h6, h7⟩ h1 h2
        subst g1 g2
        rw [List.take_length] at h7
        have e1 : merE (kn : Int) ((lst o).flatMap lst) = 0 := by
          unfold merE
          rw [if_neg (by omega), if_neg (by omega)]
        have e2 : merV (kn : Int) ((lst o).flatMap lst) = fst' kn ((lst o).flatMap lst) := by unfold merV; rw [if_pos e1]; rfl
        have h25 := r25 kn o (by omega) (by omega) hlo (fun r hr => by have := hli r hr; omega)
        rw [e1, e2]
        have e : [V.int .i64 (kn : Int), slV 1 (slV 2 hitV) o].mapM (frz Sto.empty 12) = some [V.int .i64 (kn : Int), slV 1 (slV 2 hitV) o] := by
          simp only [List.mapM_cons, List.mapM_nil, frz_slV, frz_int]; rfl
        generalize fst' kn ((lst o).flatMap lst) = l at *
        have f25 := fun n lk => callE_flat (fs := true) (n := n) (lk := lk) (by decide) e h25 (flat_ownH l)
        simp only [thaw_ownH] at f25
        have hg := hVal_giv11 Sto.empty 0 l
        simp +contextual -implicitDefEqProofs (maxSteps := 2000000) only [↓wP, wQ, wQ1, wQ2, wQ3, wR, boxE, partsOf, ↓reduceIte, Nat.reduceEqDiff, Nat.reduceAdd, Nat.reduceSub, Nat.reduceLeDiff, Nat.reduceLT, Nat.reduceMul, reduceCtorEq, Int.reduceBNe, Int.reduceBEq, Int.reduceLT, Int.reduceLE, Int.reduceGT, h3, h4, f25]
        exact giv_tup2 hg rfl rfl
      · simp +contextual -implicitDefEqProofs (maxSteps := 2000000) only [↓wP, wQ, wQ1, wQ2, wQ3, wR, boxE, partsOf, ↓reduceIte, Nat.reduceEqDiff, Nat.reduceAdd, Nat.reduceSub, Nat.reduceLeDiff, Nat.reduceLT, Nat.reduceMul, reduceCtorEq, Int.reduceBNe, Int.reduceBEq, Int.reduceLT, Int.reduceLE, Int.reduceGT]
        simp
end Go.Q.S6
end

section
/- First of a row; selections. -/
set_option linter.unusedSimpArgs false
set_option linter.unusedVariables false
namespace Go.Q.S6
open Go.Q Go.Sort

theorem flat_tup2 {a b : V} (h : flat a = true) (h' : flat b = true) : flat (.tup [a, b]) = true := by simp [flat, flatL, h, h']
theorem thaw_hTup (σ : Sto) (n : Nat) (l : List Hit) (e : Int) : thaw σ n (.tup [ownH l, .int .i64 e]) = (.tup [hVal n l, .int .i64 e], hSto σ n l, hN n l) := by
  rw [thaw_tup, thawL_cons, thaw_ownH]
  rfl

theorem merge_one (o : Option (List Hit)) : (lst (some [o])).flatMap lst = lst o := by simp [lst]
theorem r13 (k : Int) (o : Option (List Hit)) (hl : (lst o).length < 4611686018427387904) : res T 13 [slV 2 hitV o, .int .i64 k] = some (.tup [ownH (merV k (lst o)), .int .i64 (merE k (lst o))]) := by
  refine run_res (run_own (fn := g13) rfl rfl (by decide) ?_)
  simp only [g13, b13]
  have h16 := r16 k (some [o]) (by simp [lst]) (fun r hr => by simp [lst_some] at hr; subst hr; exact hl)
  rw [merge_one] at h16
  have e : [V.int .i64 k, .ref 0 0 1 1].mapM (frz (upd Sto.empty 0 (some (.row 1 [slV 2 hitV o]))) 12) = some [V.int .i64 k, slV 1 (slV 2 hitV) (some [o])] := by
    have hx : frz (upd Sto.empty 0 (some (.row 1 [slV 2 hitV o]))) 12 (.ref 0 0 1 1) = some (.sl 1 [slV 2 hitV o]) := by
      have := (Fz.ref (σ := upd Sto.empty 0 (some (.row 1 [slV 2 hitV o]))) (id := 0) (sz := 1) (xs := [slV 2 hitV o]) (ts := [slV 2 hitV o]) (k := 11) (S := fun _ => True) (by simp [upd]) trivial
        (FzL.trees (fun x hx => by rw [List.mem_singleton] at hx; subst hx; exact Tr_slV 2 _ o _) (fun x hx c hc => by rw [List.mem_singleton] at hx; subst hx; rw [cl_slV, List.mem_singleton] at hc; subst hc; exact Tr_slV 2 _ o _))).1
      exact this
    simp only [List.mapM_cons, List.mapM_nil, hx, frz_int]
    rfl
  have f16 := fun n lk => callE_flat (fs := true) (n := n) (lk := lk) (by decide) e h16 (flat_tup2 (flat_ownH _) rfl)
  simp only [thaw_hTup] at f16
  have hg := fun σ n => hVal_giv11 σ n (merV k (lst o))
  simp +contextual -implicitDefEqProofs (maxSteps := 2000000) only [↓wP, wQ, wQ1, wQ2, wQ3, wR, boxE, partsOf, ↓reduceIte, Nat.reduceEqDiff, Nat.reduceAdd, Nat.reduceSub, Nat.reduceLeDiff, Nat.reduceLT, Nat.reduceMul, reduceCtorEq, Int.reduceBNe, Int.reduceBEq, Int.reduceLT, Int.reduceLE, Int.reduceGT, f16]
  exact giv_tup2 (hg _ _) rfl rfl

theorem f13 {σ : Sto} {v : V} {l : List Hit} (k : Int) (ha : Hf σ v l) (hl : l.length < 4611686018427387904) (fs : Bool) (n lk : Nat) :
    callE T fs 13 [v, .int .i64 k] σ n lk = some (.tup [hVal n (merV k l), .int .i64 (merE k l)], hSto σ n (merV k l), hN n (merV k l)) := by
  obtain ⟨o, rfl, h1⟩ := ha
  have e : [v, V.int .i64 k].mapM (frz σ 12) = some [slV 2 hitV o, .int .i64 k] := by simp only [List.mapM_cons, List.mapM_nil, h1]; rfl
  rw [callE_flat (by decide) e (r13 k o hl) (flat_tup2 (flat_ownH _) rfl), thaw_hTup]

def newE (k : Int) : Int := if k < 1 ∨ 16 < k then 2 else 0
theorem r19 (k : Int) : res T 19 [.int .i64 k] = some (.tup [.agg [.int .i64 (if newE k = 0 then k else 0), .nilS], .int .i64 (newE k)]) := by
  refine run_res (run_pure (fn := g19) rfl rfl (by decide) ?_)
  simp only [g19, b19]
  by_cases h1 : k < 1
  · have e : newE k = 2 := if_pos (.inl h1)
    simp +contextual -implicitDefEqProofs (maxSteps := 2000000) only [↓wP, wQ, wQ1, wQ2, wQ3, wR, boxE, partsOf, ↓reduceIte, Nat.reduceEqDiff, Nat.reduceAdd, Nat.reduceSub, Nat.reduceLeDiff, Nat.reduceLT, Nat.reduceMul, reduceCtorEq, Int.reduceBNe, Int.reduceBEq, Int.reduceLT, Int.reduceLE, Int.reduceGT, h1, e]
    all_goals rfl
  · by_cases h2 : 16 < k
    · have e : newE k = 2 := if_pos (.inr h2)
      simp +contextual -implicitDefEqProofs (maxSteps := 2000000) only [↓wP, wQ, wQ1, wQ2, wQ3, wR, boxE, partsOf, ↓reduceIte, Nat.reduceEqDiff, Nat.reduceAdd, Nat.reduceSub, Nat.reduceLeDiff, Nat.reduceLT, Nat.reduceMul, reduceCtorEq, Int.reduceBNe, Int.reduceBEq, Int.reduceLT, Int.reduceLE, Int.reduceGT, h1, h2, e]
      all_goals rfl
    · have e : newE k = 0 := if_neg (by omega)
      simp +contextual -implicitDefEqProofs (maxSteps := 2000000) only [↓wP, wQ, wQ1, wQ2, wQ3, wR, boxE, partsOf, ↓reduceIte, Nat.reduceEqDiff, Nat.reduceAdd, Nat.reduceSub, Nat.reduceLeDiff, Nat.reduceLT, Nat.reduceMul, reduceCtorEq, Int.reduceBNe, Int.reduceBEq, Int.reduceLT, Int.reduceLE, Int.reduceGT, h1, h2, e]
      all_goals rfl

theorem f19 (k : Int) (fs : Bool) (σ : Sto) (n lk : Nat) : callE T fs 19 [.int .i64 k] σ n lk = some (.tup [.agg [.int .i64 (if newE k = 0 then k else 0), .nilS], .int .i64 (newE k)], σ, n) :=
  callE_tr (by decide) (r19 k) (by simp [Tr, Tr_slV]) rfl fs σ n lk

/-- In order, looked at from the end. -/
theorem srt_pair {l : List Hit} : Srt l ↔ ∀ i, (h : i + 1 < l.length) → ahead l[i + 1] l[i] = false := by
  constructor
  · intro h i hi
    exact List.pairwise_iff_getElem.1 h i (i + 1) (by omega) hi (by omega)
  · intro h
    refine List.pairwise_iff_getElem.2 fun i j hi hj hij => ?_
    induction j with
    | zero => omega
    | succ j ih =>
      by_cases e : i = j
      · subst e; exact h i hj
      · exact swoA.ntrans _ _ _ (h j hj) (ih (by omega) (by omega))
instance (l : List Hit) : Decidable (Srt l) := inferInstanceAs (Decidable (List.Pairwise _ _))

theorem r30 (o : Option (List Hit)) (hl : (lst o).length < 9223372036854775808) : res T 30 [slV 2 hitV o, .fn 17 []] = some (.bool (decide (Srt (lst o)))) := by
  refine run_res (run_pure (fn := g30) rfl rfl (by decide) ?_)
  simp only [g30, b30]
  have w0 : IntKind.i64.wrap (((lst o).length : Int) - 1) = ((lst o).length : Int) - 1 := by rw [wrap_i64] <;> omega
  simp +contextual -implicitDefEqProofs (maxSteps := 2000000) only [↓wP, wQ, wQ1, wQ2, wQ3, wR, boxE, partsOf, ↓reduceIte, Nat.reduceEqDiff, Nat.reduceAdd, Nat.reduceSub, Nat.reduceLeDiff, Nat.reduceLT, Nat.reduceMul, reduceCtorEq, Int.reduceBNe, Int.reduceBEq, Int.reduceLT, Int.reduceLE, Int.reduceGT, w0]
  refine WC_loopI 0 (fun (i : Nat) env σ' n' => σ' = Sto.empty ∧ n' = 0 ∧ env 0 = slV 2 hitV o ∧ env 1 = .fn 17 [] ∧ env 5 = .int .i64 ((i : Int) - 1) ∧ i ≤ (lst o).length ∧ ∀ q, (h : q + 1 < (lst o).length) → i ≤ q + 1 → ahead (lst o)[q + 1] (lst o)[q] = false) (fun i => i) ?_ (lst o).length _ _ _ ?_
  · intro i env σ' n' ⟨h1, h2, h3, h4, h5, h6, h7⟩
    subst h1 h2
    by_cases hi : 2 ≤ i
    · obtain ⟨m, rfl⟩ : ∃ m, i = m + 2 := ⟨i - 2, by omega⟩
      have e0 : (((m + 2 : Nat) : Int) - 1) = ((m + 1 : Nat) : Int) := by omega
      rw [e0] at h5
      have hpos : (0 : Int) < ((m + 1 : Nat) : Int) := by omega
      have w1 : IntKind.i64.wrap (((m + 1 : Nat) : Int) - 1) = (m : Int) := by rw [wrap_i64] <;> omega
      have x1 : (lst o)[m + 1]? = some (lst o)[m + 1] := List.getElem?_eq_getElem (by omega)
      have x2 : (lst o)[m]? = some (lst o)[m] := List.getElem?_eq_getElem (by omega)
      by_cases hc : cmpH (lst o)[m + 1] (lst o)[m] < 0
      · have hah : ahead (lst o)[m + 1] (lst o)[m] = true := by rw [← cmp_lt]; simpa using hc
        have hn : ¬ Srt (lst o) := fun hs => by
          have := srt_pair.1 hs m (by omega)
          rw [hah] at this; cases this
        simp +contextual -implicitDefEqProofs (maxSteps := 2000000) only [↓wP, wQ, wQ1, wQ2, wQ3, wR, boxE, partsOf, ↓reduceIte, Nat.reduceEqDiff, Nat.reduceAdd, Nat.reduceSub, Nat.reduceLeDiff, Nat.reduceLT, Nat.reduceMul, reduceCtorEq, Int.reduceBNe, Int.reduceBEq, Int.reduceLT, Int.reduceLE, Int.reduceGT, h3, h4, h5, hpos, w1, x1, x2, hitV_eq, f17, hc, hn]
      · have hah : ahead (lst o)[m + 1] (lst o)[m] = false := by rw [← cmp_lt]; simpa using hc
        simp +contextual -implicitDefEqProofs (maxSteps := 2000000) only [↓wP, wQ, wQ1, wQ2, wQ3, wR, boxE, partsOf, ↓reduceIte, Nat.reduceEqDiff, Nat.reduceAdd, Nat.reduceSub, Nat.reduceLeDiff, Nat.reduceLT, Nat.reduceMul, reduceCtorEq, Int.reduceBNe, Int.reduceBEq, Int.reduceLT, Int.reduceLE, Int.reduceGT, h3, h4, h5, hpos, w1, x1, x2, hitV_eq, f17, hc]
        refine ⟨m + 1, by omega, by rw [show (((m + 1 : Nat) : Int) - 1) = (m : Int) by omega], by omega, fun q hq hle => ?_⟩
        by_cases e : q = m
        · subst e; exact hah
        · exact h7 q hq (by omega)
    · have hpos : ¬ (0 : Int) < (i : Int) - 1 := by omega
      have hs : Srt (lst o) := srt_pair.2 fun q hq => h7 q hq (by omega)
      simp +contextual -implicitDefEqProofs (maxSteps := 2000000) only [↓wP, wQ, wQ1, wQ2, wQ3, wR, boxE, partsOf, ↓reduceIte, Nat.reduceEqDiff, Nat.reduceAdd, Nat.reduceSub, Nat.reduceLeDiff, Nat.reduceLT, Nat.reduceMul, reduceCtorEq, Int.reduceBNe, Int.reduceBEq, Int.reduceLT, Int.reduceLE, Int.reduceGT, h3, h4, h5, hpos, hs]
  · simp +contextual -implicitDefEqProofs (maxSteps := 2000000) only [↓wP, wQ, wQ1, wQ2, wQ3, wR, boxE, partsOf, ↓reduceIte, Nat.reduceEqDiff, Nat.reduceAdd, Nat.reduceSub, Nat.reduceLeDiff, Nat.reduceLT, Nat.reduceMul, reduceCtorEq, Int.reduceBNe, Int.reduceBEq, Int.reduceLT, Int.reduceLE, Int.reduceGT]
    exact fun q hq hle => by omega

theorem f30 (o : Option (List Hit)) (hl : (lst o).length < 9223372036854775808) (fs : Bool) (σ : Sto) (n lk : Nat) : callE T fs 30 [slV 2 hitV o, .fn 17 []] σ n lk = some (.bool (decide (Srt (lst o))), σ, n) :=
  callE_tr (by decide) (r30 o hl) (by simp [Tr, Tr_slV]) rfl fs σ n lk

/-- May a selection be? -/
def TopOk (k : Int) (l : List Hit) : Prop := 1 ≤ k ∧ k ≤ 16 ∧ (l.length : Int) ≤ k ∧ Srt l
instance (k : Int) (l : List Hit) : Decidable (TopOk k l) := inferInstanceAs (Decidable (_ ∧ _ ∧ _ ∧ _))
def topE (k : Int) (l : List Hit) : Int := if TopOk k l then 0 else 160

theorem r22 (k : Int) (o : Option (List Hit)) (hl : (lst o).length < 9223372036854775808) : res T 22 [.agg [.int .i64 k, slV 2 hitV o]] = some (.int .i64 (topE k (lst o))) := by
  refine run_res (run_pure (fn := g22) rfl rfl (by decide) ?_)
  simp only [g22, b22]
  by_cases h1 : k < 1
  · have e : topE k (lst o) = 160 := if_neg (fun h => by have := h.1; omega)
    simp +contextual -implicitDefEqProofs (maxSteps := 2000000) only [↓wP, wQ, wQ1, wQ2, wQ3, wR, boxE, partsOf, ↓reduceIte, Nat.reduceEqDiff, Nat.reduceAdd, Nat.reduceSub, Nat.reduceLeDiff, Nat.reduceLT, Nat.reduceMul, reduceCtorEq, Int.reduceBNe, Int.reduceBEq, Int.reduceLT, Int.reduceLE, Int.reduceGT, h1, e]
  · by_cases h2 : 16 < k
    · have e : topE k (lst o) = 160 := if_neg (fun h => by have := h.2.1; omega)
      simp +contextual -implicitDefEqProofs (maxSteps := 2000000) only [↓wP, wQ, wQ1, wQ2, wQ3, wR, boxE, partsOf, ↓reduceIte, Nat.reduceEqDiff, Nat.reduceAdd, Nat.reduceSub, Nat.reduceLeDiff, Nat.reduceLT, Nat.reduceMul, reduceCtorEq, Int.reduceBNe, Int.reduceBEq, Int.reduceLT, Int.reduceLE, Int.reduceGT, h1, h2, e]
    · by_cases h3 : k < ((lst o).length : Int)
      · have e : topE k (lst o) = 160 := if_neg (fun h => by have := h.2.2.1; omega)
        simp +contextual -implicitDefEqProofs (maxSteps := 2000000) only [↓wP, wQ, wQ1, wQ2, wQ3, wR, boxE, partsOf, ↓reduceIte, Nat.reduceEqDiff, Nat.reduceAdd, Nat.reduceSub, Nat.reduceLeDiff, Nat.reduceLT, Nat.reduceMul, reduceCtorEq, Int.reduceBNe, Int.reduceBEq, Int.reduceLT, Int.reduceLE, Int.reduceGT, h1, h2, h3, e]
      · have h30 := f30 o hl
        by_cases h4 : Srt (lst o)
        · have e : topE k (lst o) = 0 := if_pos ⟨by omega, by omega, by omega, h4⟩
          simp +contextual -implicitDefEqProofs (maxSteps := 2000000) only [↓wP, wQ, wQ1, wQ2, wQ3, wR, boxE, partsOf, ↓reduceIte, Nat.reduceEqDiff, Nat.reduceAdd, Nat.reduceSub, Nat.reduceLeDiff, Nat.reduceLT, Nat.reduceMul, reduceCtorEq, Int.reduceBNe, Int.reduceBEq, Int.reduceLT, Int.reduceLE, Int.reduceGT, h1, h2, h3, h4, e, h30]
        · have e : topE k (lst o) = 160 := if_neg (fun h => h4 h.2.2.2)
          simp +contextual -implicitDefEqProofs (maxSteps := 2000000) only [↓wP, wQ, wQ1, wQ2, wQ3, wR, boxE, partsOf, ↓reduceIte, Nat.reduceEqDiff, Nat.reduceAdd, Nat.reduceSub, Nat.reduceLeDiff, Nat.reduceLT, Nat.reduceMul, reduceCtorEq, Int.reduceBNe, Int.reduceBEq, Int.reduceLT, Int.reduceLE, Int.reduceGT, h1, h2, h3, h4, e, h30]

theorem f22 (k : Int) (o : Option (List Hit)) (hl : (lst o).length < 9223372036854775808) (fs : Bool) (σ : Sto) (n lk : Nat) : callE T fs 22 [.agg [.int .i64 k, slV 2 hitV o]] σ n lk = some (.int .i64 (topE k (lst o)), σ, n) :=
  callE_tr (by decide) (r22 k o hl) (by simp [Tr, Tr_slV]) rfl fs σ n lk

theorem r21 (k : Int) (o : Option (List Hit)) (hl : (lst o).length < 9223372036854775808) : res T 21 [.agg [.int .i64 k, slV 2 hitV o]] = some (.bool (decide (TopOk k (lst o)))) := by
  refine run_res (run_pure (fn := g21) rfl rfl (by decide) ?_)
  simp only [g21, b21]
  by_cases h1 : k < 1
  · have e : ¬ TopOk k (lst o) := fun h => by have := h.1; omega
    simp +contextual -implicitDefEqProofs (maxSteps := 2000000) only [↓wP, wQ, wQ1, wQ2, wQ3, wR, boxE, partsOf, ↓reduceIte, Nat.reduceEqDiff, Nat.reduceAdd, Nat.reduceSub, Nat.reduceLeDiff, Nat.reduceLT, Nat.reduceMul, reduceCtorEq, Int.reduceBNe, Int.reduceBEq, Int.reduceLT, Int.reduceLE, Int.reduceGT, h1, e]
  · by_cases h2 : 16 < k
    · have e : ¬ TopOk k (lst o) := fun h => by have := h.2.1; omega
      simp +contextual -implicitDefEqProofs (maxSteps := 2000000) only [↓wP, wQ, wQ1, wQ2, wQ3, wR, boxE, partsOf, ↓reduceIte, Nat.reduceEqDiff, Nat.reduceAdd, Nat.reduceSub, Nat.reduceLeDiff, Nat.reduceLT, Nat.reduceMul, reduceCtorEq, Int.reduceBNe, Int.reduceBEq, Int.reduceLT, Int.reduceLE, Int.reduceGT, h1, h2, e]
    · by_cases h3 : k < ((lst o).length : Int)
      · have e : ¬ TopOk k (lst o) := fun h => by have := h.2.2.1; omega
        simp +contextual -implicitDefEqProofs (maxSteps := 2000000) only [↓wP, wQ, wQ1, wQ2, wQ3, wR, boxE, partsOf, ↓reduceIte, Nat.reduceEqDiff, Nat.reduceAdd, Nat.reduceSub, Nat.reduceLeDiff, Nat.reduceLT, Nat.reduceMul, reduceCtorEq, Int.reduceBNe, Int.reduceBEq, Int.reduceLT, Int.reduceLE, Int.reduceGT, h1, h2, h3, e]
      · simp +contextual -implicitDefEqProofs (maxSteps := 2000000) only [↓wP, wQ, wQ1, wQ2, wQ3, wR, boxE, partsOf, ↓reduceIte, Nat.reduceEqDiff, Nat.reduceAdd, Nat.reduceSub, Nat.reduceLeDiff, Nat.reduceLT, Nat.reduceMul, reduceCtorEq, Int.reduceBNe, Int.reduceBEq, Int.reduceLT, Int.reduceLE, Int.reduceGT, h1, h2, h3]
        refine WC_loopI 0 (fun (i : Nat) env σ' n' => n' = 1 ∧ σ' 0 = some (.row 2 [.agg [.int .i64 k, slV 2 hitV o]]) ∧ env 1 = .ptr 0 2 0 0 ∧ env 3 = .int .i64 ((i + 1 : Nat) : Int) ∧ i ≤ 20 ∧ ∀ q, (h : q + 1 < (lst o).length) → q < i → ahead (lst o)[q + 1] (lst o)[q] = false) (fun i => 21 - i) ?_ 0 _ _ _ ?_
        · intro i env σ' n' ⟨g1, g2, g3, g4, g5, g6⟩
          subst g1
          by_cases hi : i + 1 < (lst o).length
          · have hi' : ((i + 1 : Nat) : Int) < ((lst o).length : Int) := by omega
            have w1 : IntKind.i64.wrap (((i + 1 : Nat) : Int) - 1) = (i : Int) := by rw [wrap_i64] <;> omega
            have w2 : IntKind.i64.wrap (((i + 1 : Nat) : Int) + 1) = ((i + 1 + 1 : Nat) : Int) := by rw [wrap_i64] <;> omega
            have x1 : (lst o)[i + 1]? = some (lst o)[i + 1] := List.getElem?_eq_getElem hi
            have x2 : (lst o)[i]? = some (lst o)[i] := List.getElem?_eq_getElem (by omega)
            cases hah : ahead (lst o)[i + 1] (lst o)[i]
            · have e29 : ahead ⟨(lst o)[i + 1].id, (lst o)[i + 1].d⟩ ⟨(lst o)[i].id, (lst o)[i].d⟩ = false := hah
              simp +contextual -implicitDefEqProofs (maxSteps := 2000000) only [↓wP, wQ, wQ1, wQ2, wQ3, wR, boxE, partsOf, ↓reduceIte, Nat.reduceEqDiff, Nat.reduceAdd, Nat.reduceSub, Nat.reduceLeDiff, Nat.reduceLT, Nat.reduceMul, reduceCtorEq, Int.reduceBNe, Int.reduceBEq, Int.reduceLT, Int.reduceLE, Int.reduceGT, g2, g3, g4, hi', w1, w2, x1, x2, hitV_eq, f29, e29]
              refine ⟨i + 1, by omega, rfl, by omega, fun q hq hlt => ?_⟩
              by_cases e : q = i
              · subst e; exact hah
              · exact g6 q hq (by omega)
            · have e29 : ahead ⟨(lst o)[i + 1].id, (lst o)[i + 1].d⟩ ⟨(lst o)[i].id, (lst o)[i].d⟩ = true := hah
              have e : ¬ TopOk k (lst o) := fun h => by
                have := srt_pair.1 h.2.2.2 i hi
                rw [hah] at this; cases this
              simp +contextual -implicitDefEqProofs (maxSteps := 2000000) only [↓wP, wQ, wQ1, wQ2, wQ3, wR, boxE, partsOf, ↓reduceIte, Nat.reduceEqDiff, Nat.reduceAdd, Nat.reduceSub, Nat.reduceLeDiff, Nat.reduceLT, Nat.reduceMul, reduceCtorEq, Int.reduceBNe, Int.reduceBEq, Int.reduceLT, Int.reduceLE, Int.reduceGT, g2, g3, g4, hi', w1, x1, x2, hitV_eq, f29, e29, e]
          · have hi' : ¬ ((i + 1 : Nat) : Int) < ((lst o).length : Int) := by omega
            have e : TopOk k (lst o) := ⟨by omega, by omega, by omega, srt_pair.2 fun q hq => g6 q hq (by omega)⟩
            simp +contextual -implicitDefEqProofs (maxSteps := 2000000) only [↓wP, wQ, wQ1, wQ2, wQ3, wR, boxE, partsOf, ↓reduceIte, Nat.reduceEqDiff, Nat.reduceAdd, Nat.reduceSub, Nat.reduceLeDiff, Nat.reduceLT, Nat.reduceMul, reduceCtorEq, Int.reduceBNe, Int.reduceBEq, Int.reduceLT, Int.reduceLE, Int.reduceGT, g2, g3, g4, hi', e]
        · simp +contextual -implicitDefEqProofs (maxSteps := 2000000) only [↓wP, wQ, wQ1, wQ2, wQ3, wR, boxE, partsOf, ↓reduceIte, Nat.reduceEqDiff, Nat.reduceAdd, Nat.reduceSub, Nat.reduceLeDiff, Nat.reduceLT, Nat.reduceMul, reduceCtorEq, Int.reduceBNe, Int.reduceBEq, Int.reduceLT, Int.reduceLE, Int.reduceGT]
          exact ⟨rfl, fun q hq h => absurd h (by omega)⟩

theorem f21 (k : Int) (o : Option (List Hit)) (hl : (lst o).length < 9223372036854775808) (fs : Bool) (σ : Sto) (n lk : Nat) : callE T fs 21 [.agg [.int .i64 k, slV 2 hitV o]] σ n lk = some (.bool (decide (TopOk k (lst o))), σ, n) :=
  callE_tr (by decide) (r21 k o hl) (by simp [Tr, Tr_slV]) rfl fs σ n lk

def lastV (k : Int) (l : List Hit) : V := if TopOk k l ∧ (l.length : Int) = k then (match l.getLast? with | some h => hitV h | none => hitV ⟨0, 0⟩) else hitV ⟨0, 0⟩
theorem r23 (k : Int) (o : Option (List Hit)) (hl : (lst o).length < 9223372036854775808) : res T 23 [.agg [.int .i64 k, slV 2 hitV o]] = some (.tup [lastV k (lst o), .bool (decide (TopOk k (lst o) ∧ ((lst o).length : Int) = k))]) := by
  refine run_res (run_pure (fn := g23) rfl rfl (by decide) ?_)
  simp only [g23, b23]
  have h22 := f22 k o hl
  by_cases h1 : TopOk k (lst o)
  · have e : topE k (lst o) = 0 := if_pos h1
    obtain ⟨a1, a2, a3, a4⟩ := h1
    by_cases h2 : ((lst o).length : Int) = k
    · have h3 : ¬ ((lst o).length : Int) < k := by omega
      have hx : (lst o)[(lst o).length - 1]? = some (lst o)[(lst o).length - 1] := List.getElem?_eq_getElem (by omega)
      have hy : lastV k (lst o) = .agg [.int .u64 (lst o)[(lst o).length - 1].id, .int .u64 (lst o)[(lst o).length - 1].d] := by
        unfold lastV
        rw [if_pos ⟨⟨a1, a2, a3, a4⟩, h2⟩, List.getLast?_eq_getElem?, hx]
        rfl
      have w1 : IntKind.i64.wrap (((lst o).length : Int) - 1) = (((lst o).length - 1 : Nat) : Int) := by rw [wrap_i64] <;> omega
      subst h2
      have hd : TopOk ((lst o).length : Int) (lst o) := ⟨a1, a2, a3, a4⟩
      simp +contextual -implicitDefEqProofs (maxSteps := 2000000) only [↓wP, wQ, wQ1, wQ2, wQ3, wR, boxE, partsOf, ↓reduceIte, Nat.reduceEqDiff, Nat.reduceAdd, Nat.reduceSub, Nat.reduceLeDiff, Nat.reduceLT, Nat.reduceMul, reduceCtorEq, Int.reduceBNe, Int.reduceBEq, Int.reduceLT, Int.reduceLE, Int.reduceGT, h22, e, h3, hx, hy, w1, hitV_eq, hd]
      all_goals rfl
    · have h3 : ((lst o).length : Int) < k := by omega
      have hy : lastV k (lst o) = .agg [.int .u64 0, .int .u64 0] := if_neg fun h => h2 h.2
      simp +contextual -implicitDefEqProofs (maxSteps := 2000000) only [↓wP, wQ, wQ1, wQ2, wQ3, wR, boxE, partsOf, ↓reduceIte, Nat.reduceEqDiff, Nat.reduceAdd, Nat.reduceSub, Nat.reduceLeDiff, Nat.reduceLT, Nat.reduceMul, reduceCtorEq, Int.reduceBNe, Int.reduceBEq, Int.reduceLT, Int.reduceLE, Int.reduceGT, h22, e, h3, hy, h2, and_false, false_and]
      all_goals rfl
  · have e : topE k (lst o) = 160 := if_neg h1
    have hy : lastV k (lst o) = .agg [.int .u64 0, .int .u64 0] := if_neg fun h => h1 h.1
    simp +contextual -implicitDefEqProofs (maxSteps := 2000000) only [↓wP, wQ, wQ1, wQ2, wQ3, wR, boxE, partsOf, ↓reduceIte, Nat.reduceEqDiff, Nat.reduceAdd, Nat.reduceSub, Nat.reduceLeDiff, Nat.reduceLT, Nat.reduceMul, reduceCtorEq, Int.reduceBNe, Int.reduceBEq, Int.reduceLT, Int.reduceLE, Int.reduceGT, h22, e, hy, h1, and_false, false_and]
    all_goals rfl

end Go.Q.S6
end

section
/- What is offered. -/
set_option linter.unusedSimpArgs false
set_option linter.unusedVariables false
namespace Go.Q.S6
open Go.Q Go.Sort

def offE (k : Int) (t l : List Hit) : Int := if TopOk k t then (if 2000 < l.length then 3 else 0) else 160
def offV (k : Int) (t l : List Hit) : List Hit := if offE k t l = 0 then fst' k.toNat (t ++ l) else []
def offK (k : Int) (t l : List Hit) : Int := if offE k t l = 0 then k else 0

theorem hVal_givG {σ : Sto} {n : Nat} {l : List Hit} (k : Nat) (h : l ≠ [] → σ n = some (.row 2 (hs l))) : giv σ (k + 3) (hVal n l) = some (ownH l) ∧ (gids σ (k + 3) (hVal n l)).Nodup := by
  unfold hVal
  by_cases hl : l = []
  · rw [if_pos hl, hl]; exact ⟨rfl, by simp [gids]⟩
  · rw [if_neg hl, ownH_eq hl]
    have hat := h hl
    have hg : ∀ x ∈ hs l, elemM (giv σ (k + 2)) x = some x := by
      intro x hx
      obtain ⟨y, -, rfl⟩ := List.mem_map.1 hx
      rfl
    have hg' : ∀ x ∈ hs l, ∀ c ∈ x.cells, gids σ (k + 2) c = [] := by
      intro x hx c hc
      obtain ⟨y, -, rfl⟩ := List.mem_map.1 hx
      simp only [hitV, V.cells, List.mem_cons, List.not_mem_nil, or_false] at hc
      rcases hc with rfl | rfl <;> rfl
    constructor
    · simp only [giv, hat, hs_len, and_self, if_true]
      rw [mapM_id hg]; rfl
    · simp only [gids, hat]
      rw [List.flatMap_eq_nil_iff.2 fun x hx => List.flatMap_eq_nil_iff.2 fun c hc => hg' x hx c hc]
      simp
theorem one_hVal (n : Nat) (l : List Hit) : (hVal n l).one = true := by unfold hVal; split <;> rfl
theorem cl_hVal (n : Nat) (l : List Hit) : (hVal n l).cells = [hVal n l] := by unfold hVal; split <;> rfl
theorem giv_top {σ : Sto} {n : Nat} {l : List Hit} {k e : Int} (h : l ≠ [] → σ n = some (.row 2 (hs l))) :
    giv σ 12 (.tup [.agg [.int .i64 k, hVal n l], .int .i64 e]) = some (.tup [.agg [.int .i64 k, ownH l], .int .i64 e]) ∧ (gids σ 12 (.tup [.agg [.int .i64 k, hVal n l], .int .i64 e])).Nodup := by
  obtain ⟨h1, h2⟩ := hVal_givG 7 h
  constructor
  · simp only [giv, List.mapM_cons, List.mapM_nil, h1]; rfl
  · simp only [gids, List.flatMap_cons, List.flatMap_nil, List.append_nil, List.nil_append]; exact h2

theorem f25 {σ : Sto} {id : Nat} (kn : Nat) (o q : Option (List Hit)) (h1 : 0 < kn) (h2 : kn ≤ 16) (hl : (lst o).length < 4611686018427387904) (hq : (lst q).length < 4611686018427387904)
    (h : σ id = some (.row 1 [slV 2 hitV o, slV 2 hitV q])) (fs : Bool) (n lk : Nat) :
    callE T fs 25 [.int .i64 (kn : Int), .ref id 0 2 1] σ n lk = some (hVal n (fst' kn (lst o ++ lst q)), hSto σ n (fst' kn (lst o ++ lst q)), hN n (fst' kn (lst o ++ lst q))) := by
  have h25 := r25 kn (some [o, q]) h1 (by omega) (by simp [lst]) (fun r hr => by simp [lst_some] at hr; rcases hr with rfl | rfl <;> omega)
  have e0 : (lst (some [o, q])).flatMap lst = lst o ++ lst q := by simp [lst]
  rw [e0] at h25
  have e : [V.int .i64 (kn : Int), .ref id 0 2 1].mapM (frz σ 12) = some [V.int .i64 (kn : Int), slV 1 (slV 2 hitV) (some [o, q])] := by
    have hx : frz σ 12 (.ref id 0 2 1) = some (.sl 1 [slV 2 hitV o, slV 2 hitV q]) := by
      have ht : ∀ x ∈ [slV 2 hitV o, slV 2 hitV q], Tr 11 x = true ∧ x.cells = [x] := by
        intro x hx
        simp only [List.mem_cons, List.not_mem_nil, or_false] at hx
        rcases hx with rfl | rfl <;> exact ⟨Tr_slV 2 _ _ _, cl_slV 2 _ _⟩
      have := (Fz.ref (σ := σ) (id := id) (sz := 1) (xs := [slV 2 hitV o, slV 2 hitV q]) (ts := [slV 2 hitV o, slV 2 hitV q]) (k := 11) (S := fun _ => True) h trivial
        (FzL.trees (fun x hx => (ht x hx).1) (fun x hx c hc => by rw [(ht x hx).2, List.mem_singleton] at hc; subst hc; exact (ht _ hx).1))).1
      exact this
    simp only [List.mapM_cons, List.mapM_nil, hx, frz_int]
    rfl
  rw [callE_flat (by decide) e h25 (flat_ownH _), thaw_ownH]

theorem r20 (k : Int) (o q : Option (List Hit)) (hl : (lst o).length < 4611686018427387904) (hq : (lst q).length < 4611686018427387904) :
    res T 20 [.agg [.int .i64 k, slV 2 hitV o], slV 2 hitV q] = some (.tup [.agg [.int .i64 (offK k (lst o) (lst q)), ownH (offV k (lst o) (lst q))], .int .i64 (offE k (lst o) (lst q))]) := by
  refine run_res (run_own (fn := g20) rfl rfl (by decide) ?_)
  simp only [g20, b20]
  have h22 := f22 k o (by omega)
  by_cases h1 : TopOk k (lst o)
  · have e : topE k (lst o) = 0 := if_pos h1
    by_cases h2 : 2000 < (lst q).length
    · have h2' : (2000 : Int) < ((lst q).length : Int) := by omega
      have e1 : offE k (lst o) (lst q) = 3 := by unfold offE; rw [if_pos h1, if_pos h2]
      have e2 : offV k (lst o) (lst q) = [] := by unfold offV; rw [e1]; rfl
      have e3 : offK k (lst o) (lst q) = 0 := by unfold offK; rw [e1]; rfl
      rw [e1, e2, e3]
      simp +contextual -implicitDefEqProofs (maxSteps := 2000000) only [↓wP, wQ, wQ1, wQ2, wQ3, wR, boxE, partsOf, ↓reduceIte, Nat.reduceEqDiff, Nat.reduceAdd, Nat.reduceSub, Nat.reduceLeDiff, Nat.reduceLT, Nat.reduceMul, reduceCtorEq, Int.reduceBNe, Int.reduceBEq, Int.reduceLT, Int.reduceLE, Int.reduceGT, h22, e, h2']
      exact giv_top (n := 0) (l := []) (fun h => absurd rfl h)
    · have h2' : ¬ (2000 : Int) < ((lst q).length : Int) := by omega
      have e1 : offE k (lst o) (lst q) = 0 := by unfold offE; rw [if_pos h1, if_neg h2]
      obtain ⟨kn, rfl⟩ : ∃ kn : Nat, k = (kn : Int) := ⟨k.toNat, by have := h1.1; omega⟩
      have e2 : offV (kn : Int) (lst o) (lst q) = fst' kn (lst o ++ lst q) := by unfold offV; rw [if_pos e1]; rfl
      have e3 : offK (kn : Int) (lst o) (lst q) = kn := by unfold offK; rw [if_pos e1]
      rw [e1, e2, e3]
      have hB := big_le
      have f0 : ∀ (σ : Sto) (hid : List Nat), hide σ 2 2 hid 0 = σ 0 := fun σ hid => hide_low σ 2 2 hid (by decide) (Nat.le_refl _)
      have g0 : ∀ σ σ' : Sto, merge σ σ' 2 0 = σ 0 := fun σ σ' => merge_low σ σ' 2 (by decide)
      have g1 : ∀ σ σ' : Sto, merge σ σ' 2 1 = σ 1 := fun σ σ' => merge_low σ σ' 2 (by decide)
      have g2 : ∀ σ σ' : Sto, merge σ σ' 2 2 = σ' 2 := fun σ σ' => merge_in σ σ' 2 (by decide) (by omega)
      have y1 : (2 + 1 ≤ 2 + BIG) = True := by simp; omega
      have y2 : (3 ≤ 2 + BIG) = True := by simp; omega
      have c25 := fun (σ : Sto) n lk h => f25 (σ := σ) (id := 2) kn o q (by have := h1.1; omega) (by have := h1.2.1; omega) hl hq h false n lk
      have y3 : ∀ l, (hN (2 + BIG * 1) l ≤ 2 + BIG * 1 + BIG) = True := fun l => by have : hN (2 + BIG * 1) l ≤ 2 + BIG * 1 + 1 := by (unfold hN; split <;> omega)
                                                                                    simp only [eq_iff_iff, iff_true]; omega
      have y4 : ∀ l, (hN (2 + BIG * 1) l ≤ 2 + (BIG * 1 + BIG)) = True := fun l => by rw [← Nat.add_assoc]; exact y3 l
      have g3 : ∀ σ σ' : Sto, merge σ σ' (2 + BIG * 1) 1 = σ 1 := fun σ σ' => merge_low σ σ' _ (by omega)
      simp +contextual -implicitDefEqProofs (maxSteps := 2000000) only [↓wP, wQ, wQ1, wQ2, wQ3, wR, boxE, partsOf, ↓reduceIte, Nat.reduceEqDiff, Nat.reduceAdd, Nat.reduceSub, Nat.reduceLeDiff, Nat.reduceLT, Nat.reduceMul, reduceCtorEq, Int.reduceBNe, Int.reduceBEq, Int.reduceLT, Int.reduceLE, Int.reduceGT, h22, e, h2', f0, g0, g1, g2, y1, y2, c25, y3, y4, g3, one_hVal, cl_hVal]
      refine giv_top (n := 2 + BIG * 1) (l := fst' kn (lst o ++ lst q)) (fun hne => ?_)
      have v1 : ¬ 2 + BIG * 1 = 1 := by omega
      simp only [upd, v1, if_false]
      rw [merge_in _ _ _ (Nat.le_refl _) (by omega)]
      unfold hSto
      rw [if_neg hne]
      simp [upd]
  · have e : topE k (lst o) = 160 := if_neg h1
    have e1 : offE k (lst o) (lst q) = 160 := if_neg h1
    have e2 : offV k (lst o) (lst q) = [] := by unfold offV; rw [e1]; rfl
    have e3 : offK k (lst o) (lst q) = 0 := by unfold offK; rw [e1]; rfl
    rw [e1, e2, e3]
    simp +contextual -implicitDefEqProofs (maxSteps := 2000000) only [↓wP, wQ, wQ1, wQ2, wQ3, wR, boxE, partsOf, ↓reduceIte, Nat.reduceEqDiff, Nat.reduceAdd, Nat.reduceSub, Nat.reduceLeDiff, Nat.reduceLT, Nat.reduceMul, reduceCtorEq, Int.reduceBNe, Int.reduceBEq, Int.reduceLT, Int.reduceLE, Int.reduceGT, h22, e]
    exact giv_top (n := 0) (l := []) (fun h => absurd rfl h)


theorem f20 {σ : Sto} {v w : V} {t l : List Hit} (k : Int) (ha : ∃ o, lst o = t ∧ frz σ 11 v = some (slV 2 hitV o)) (hb : Hf σ w l) (hl : t.length < 4611686018427387904) (hq : l.length < 4611686018427387904) (fs : Bool) (n lk : Nat) :
    callE T fs 20 [.agg [.int .i64 k, v], w] σ n lk =
      some (.tup [.agg [.int .i64 (offK k t l), hVal n (offV k t l)], .int .i64 (offE k t l)], hSto σ n (offV k t l), hN n (offV k t l)) := by
  obtain ⟨o, rfl, h1⟩ := ha
  obtain ⟨q, rfl, h2⟩ := hb
  have e : [V.agg [.int .i64 k, v], w].mapM (frz σ 12) = some [V.agg [.int .i64 k, slV 2 hitV o], slV 2 hitV q] := by
    simp only [List.mapM_cons, List.mapM_nil, h2, frz, h1]; rfl
  rw [callE_flat (by decide) e (r20 k o q hl hq) (by simp [flat, flatL, flat_ownH])]
  rw [thaw_tup, thawL_cons]
  simp only [thaw_agg, thawL_cons, thawL_nil, thaw_int, thaw_ownH]

end Go.Q.S6
end

section
/- The layer does something. -/
set_option linter.unusedSimpArgs false
set_option linter.unusedVariables false
namespace Go.Q.S6
open Go.Q

def isTrue' : Option Out → Bool
  | some (.val (.bool true)) => true
  | _ => false
theorem isTrue_eq {o : Option Out} (h : isTrue' o = true) : o = some (.val (.bool true)) := by
  unfold isTrue' at h
  split at h
  · rfl
  · cases h

theorem r11 : res T 11 [] = some (.bool true) := by
  have h : isTrue' (exJob T 60 (.pure 11 [])) = true := by decide +kernel
  exact run_res (exJob_sound 60 _ _ (isTrue_eq h))
theorem f11 (fs : Bool) (σ : Sto) (n lk : Nat) : callE T fs 11 [] σ n lk = some (.bool true, σ, n) := callE_tr (by decide) r11 rfl rfl fs σ n lk
end Go.Q.S6
end

section
/- The first ones of a row are the document's. -/
set_option linter.unusedSimpArgs false
set_option linter.unusedVariables false
namespace Go.Q.S6
open Go.Q Go.Sort

def i64V (x : Int) : V := .int .i64 x
theorem i64V_eq (x : Int) : i64V x = .int .i64 x := rfl

/-- What stands for a row of hits, in the store. -/
theorem Hf.hVal {σ : Sto} {n : Nat} {l : List Hit} (h : l ≠ [] → σ n = some (.row 2 (hs l))) : Hf σ (hVal n l) l := by
  unfold Go.Q.S6.hVal
  by_cases hl : l = []
  · rw [if_pos hl, hl]
    exact Hf.tree σ none
  · rw [if_neg hl]; exact Hf.row (h hl) rfl
theorem hSto_self {σ : Sto} {n : Nat} {l : List Hit} (h : l ≠ []) : hSto σ n l n = some (.row 2 (hs l)) := by unfold hSto; rw [if_neg h]; simp [upd]
theorem hSto_ne {σ : Sto} {n i : Nat} {l : List Hit} (h : i ≠ n) : hSto σ n l i = σ i := by
  unfold hSto; split
  · rfl
  · simp [upd, h]

/-- Rows of hits of whatever content. -/
def Rh (m : Nat) (xs : List V) : Prop := xs.length = m ∧ ∀ i, i < m → ∃ a b : Int, xs[i]? = some (.agg [.int .u64 a, .int .u64 b])
theorem Rh.hs (l : List Hit) : Rh l.length (hs l) := ⟨hs_len l, fun i hi => ⟨_, _, hs_get hi⟩⟩
theorem Rh.set {m : Nat} {xs : List V} (h : Rh m xs) (i : Nat) (a b : Int) : Rh m (xs.set i (.agg [.int .u64 a, .int .u64 b])) := by
  refine ⟨by rw [List.length_set]; exact h.1, fun j hj => ?_⟩
  by_cases e : i = j
  · subst e
    rw [List.getElem?_set_self (by rw [h.1]; exact hj)]
    exact ⟨_, _, rfl⟩
  · rw [List.getElem?_set_ne e]; exact h.2 j hj

theorem r3 (o : Option (List Hit)) (q : Option (List Int)) (hl : (lst o).length < 9223372036854775808) (hq : (lst q).length < 9223372036854775808) : res T 3 [slV 2 hitV o, slV 1 i64V q] = some (.bool true) := by
  refine run_res (run_pure (fn := g3) rfl rfl (by decide) ?_)
  simp only [g3, b3]
  simp +contextual -implicitDefEqProofs (maxSteps := 2000000) only [↓wP, wQ, wQ1, wQ2, wQ3, wR, boxE, partsOf, ↓reduceIte, Nat.reduceEqDiff, Nat.reduceAdd, Nat.reduceSub, Nat.reduceLeDiff, Nat.reduceLT, Nat.reduceMul, reduceCtorEq, Int.reduceBNe, Int.reduceBEq, Int.reduceLT, Int.reduceLE, Int.reduceGT, f11]
  refine WC_for (lst q).length 0 (fun (j : Nat) env σ n => env 0 = slV 2 hitV o ∧ env 13 = slV 1 i64V q) hq (by decide) (by decide) (fun _ _ => rfl) (fun _ _ _ => rfl) ?_ ?_ _ _ _ rfl rfl ?_
  · intro j env σ n hj h1 h2 ⟨h3, h4⟩
    simp only [vl_tmp] at h2
    have hx : (lst q)[j]? = some (lst q)[j] := List.getElem?_eq_getElem hj
    generalize (lst q)[j] = k at *
    by_cases h8 : (j : Int) = 8
    · have h8' : ((j : Int) == 8) = true := by simpa using h8
      simp +contextual -implicitDefEqProofs (maxSteps := 2000000) only [↓wP, wQ, wQ1, wQ2, wQ3, wR, boxE, partsOf, ↓reduceIte, Nat.reduceEqDiff, Nat.reduceAdd, Nat.reduceSub, Nat.reduceLeDiff, Nat.reduceLT, Nat.reduceMul, reduceCtorEq, Int.reduceBNe, Int.reduceBEq, Int.reduceLT, Int.reduceLE, Int.reduceGT, h1, h2, h3, h4, hx, i64V_eq, h8']
    · have h8' : ((j : Int) == 8) = false := by simpa using h8
      obtain ⟨L, hL⟩ : ∃ L, L = (lst o).take 300 := ⟨_, rfl⟩
      have hLl : L.length ≤ 300 := by rw [hL, List.length_take]; omega
      have h12 := fun σ n lk => f12 o 300 (by decide) hl true σ n lk
      rw [← hL] at h12
      simp only [show ((300 : Nat) : Int) = 300 from rfl] at h12
      obtain ⟨σ1, hσ1⟩ : ∃ σ1, σ1 = upd σ n (some (.row 2 (hs L))) := ⟨_, rfl⟩
      have s1 : σ1 n = some (.row 2 (hs L)) := by rw [hσ1]; simp [upd]
      have c12 := h12 σ n 0
      rw [← hσ1] at c12
      have c13 := f13 (σ := σ1) (v := .ref n 0 L.length 2) (l := L) k (Hf.row s1 rfl) (by omega) true (n + 1) 0
      by_cases hk : k < 1 ∨ 16 < k
      · have e1 : merE k L = 2 := if_pos hk
        have e2 : merV k L = [] := by unfold merV; rw [e1]; rfl
        rw [e1, e2] at c13
        have e3 : hVal (n + 1) [] = .nilS := rfl
        have e4 : hSto σ1 (n + 1) [] = σ1 := rfl
        have e5 : hN (n + 1) [] = n + 1 := rfl
        rw [e3, e4, e5] at c13
        by_cases hk1 : k < 1
        · simp +contextual -implicitDefEqProofs (maxSteps := 2000000) only [↓wP, wQ, wQ1, wQ2, wQ3, wR, boxE, partsOf, ↓reduceIte, Nat.reduceEqDiff, Nat.reduceAdd, Nat.reduceSub, Nat.reduceLeDiff, Nat.reduceLT, Nat.reduceMul, reduceCtorEq, Int.reduceBNe, Int.reduceBEq, Int.reduceLT, Int.reduceLE, Int.reduceGT, h1, h2, h3, h4, hx, i64V_eq, h8', c12, c13, hk1, Int.natCast_zero]
        · have hk2 : 16 < k := by omega
          simp +contextual -implicitDefEqProofs (maxSteps := 2000000) only [↓wP, wQ, wQ1, wQ2, wQ3, wR, boxE, partsOf, ↓reduceIte, Nat.reduceEqDiff, Nat.reduceAdd, Nat.reduceSub, Nat.reduceLeDiff, Nat.reduceLT, Nat.reduceMul, reduceCtorEq, Int.reduceBNe, Int.reduceBEq, Int.reduceLT, Int.reduceLE, Int.reduceGT, h1, h2, h3, h4, hx, i64V_eq, h8', c12, c13, hk1, hk2, Int.natCast_zero]
      · have e1 : merE k L = 0 := by unfold merE; rw [if_neg hk, if_neg (by omega)]
        obtain ⟨kn, rfl⟩ : ∃ kn : Nat, k = (kn : Int) := ⟨k.toNat, by omega⟩
        have e2 : merV (kn : Int) L = fst' kn L := by unfold merV; rw [if_pos e1]; rfl
        rw [e1, e2] at c13
        have hfl := fst_len kn L
        obtain ⟨M, hM⟩ : ∃ M, M = fst' kn L := ⟨_, rfl⟩
        rw [← hM] at c13 hfl
        have hk1 : ¬ (kn : Int) < 1 := by omega
        have hk2 : ¬ 16 < (kn : Int) := by omega
        obtain ⟨σ2, hσ2⟩ : ∃ σ2, σ2 = hSto σ1 (n + 1) M := ⟨_, rfl⟩
        obtain ⟨n2, hn2⟩ : ∃ n2, n2 = hN (n + 1) M := ⟨_, rfl⟩
        rw [← hσ2, ← hn2] at c13
        have hnn : n + 1 ≤ n2 := by rw [hn2]; exact hN_le _ _
        have hn1 : M ≠ [] → n + 1 < n2 := by intro h; rw [hn2]; unfold hN; rw [if_neg h]; omega
        have t2 : σ2 n = some (.row 2 (hs L)) := by rw [hσ2, hSto_ne (by omega), s1]
        have t2' : M ≠ [] → σ2 (n + 1) = some (.row 2 (hs M)) := fun h => by rw [hσ2]; exact hSto_self h
        obtain ⟨σ3, hσ3⟩ : ∃ σ3, σ3 = upd σ2 n2 (some (.row 2 (hs L))) := ⟨_, rfl⟩
        have c12b := h12 σ2 n2 0
        rw [← hσ3] at c12b
        have c15 := f15 (σ := σ3) (id := n2) (l := L) kn L.length (by rw [hσ3]; simp [upd]) rfl (by omega) (by omega) (n2 + 1)
        obtain ⟨σ4, hσ4⟩ : ∃ σ4, σ4 = dr σ3 n2 L := ⟨_, rfl⟩
        rw [← hσ4] at c15
        have t4 : σ4 n = some (.row 2 (hs L)) := by
          rw [hσ4, dr_at _ _ _ (by omega), hσ3]
          have : n ≠ n2 := by omega
          simp [upd, this, t2]
        have t4' : M ≠ [] → σ4 (n + 1) = some (.row 2 (hs M)) := fun h => by
          have h5 := hn1 h
          have : n + 1 ≠ n2 := by omega
          rw [hσ4, dr_at _ _ _ this, hσ3]
          simp [upd, this, t2' h]
        have c14 := f14 (σ := σ4) (v := hVal (n + 1) M) (w := slV 2 hitV (refF kn L)) (a := M) (b := lst (refF kn L)) (Hf.hVal t4') (Hf.tree _ _) (by omega) true (n2 + 1) 0
        have hd : decide (M = lst (refF kn L)) = true := by rw [lst_refF, hM]; simp
        rw [hd] at c14
        obtain ⟨σ5, hσ5⟩ : ∃ σ5, σ5 = upd σ4 (n2 + 1) (some (.row 2 (hs L))) := ⟨_, rfl⟩
        have c12c := h12 σ4 (n2 + 1) 0
        rw [← hσ5] at c12c
        have u5 : σ5 (n2 + 1) = some (.row 2 (hs L)) := by rw [hσ5]; simp [upd]
        have t5 : σ5 n = some (.row 2 (hs L)) := by
          have : n ≠ n2 + 1 := by omega
          rw [hσ5]; simp [upd, this, t4]
        have t5' : M ≠ [] → σ5 (n + 1) = some (.row 2 (hs M)) := fun h => by
          have h5 := hn1 h
          have : n + 1 ≠ n2 + 1 := by omega
          rw [hσ5]; simp only [upd, this, if_false]; exact t4' h
        have c14b := f14 (σ := σ5) (v := .ref n 0 L.length 2) (w := .ref (n2 + 1) 0 L.length 2) (a := L) (b := L) (Hf.row t5 rfl) (Hf.row u5 rfl) (by omega) true (n2 + 1 + 1) 0
        simp only [decide_true] at c14b
        have hlen := hVal_len (n + 1) M
        simp +contextual -implicitDefEqProofs (maxSteps := 2000000) only [↓wP, wQ, wQ1, wQ2, wQ3, wR, boxE, partsOf, ↓reduceIte, Nat.reduceEqDiff, Nat.reduceAdd, Nat.reduceSub, Nat.reduceLeDiff, Nat.reduceLT, Nat.reduceMul, reduceCtorEq, Int.reduceBNe, Int.reduceBEq, Int.reduceLT, Int.reduceLE, Int.reduceGT, h1, h2, h3, h4, hx, i64V_eq, h8', c12, c13, hk1, hk2, c12b, c15, c14, c12c, c14b, hlen]
        refine WC_for M.length 0 (fun (p : Nat) env σ' n' => n' = n2 + 2 ∧ env 0 = slV 2 hitV o ∧ env 13 = slV 1 i64V q ∧ env 15 = .int .i64 (j : Int) ∧ env 14 = .int .i64 ((lst q).length : Int) ∧ env 7 = .ref n 0 L.length 2 ∧ env 8 = hVal (n + 1) M ∧
            (∀ i, i ≠ n + 1 → σ' i = σ5 i) ∧ (M ≠ [] → ∃ xs, σ' (n + 1) = some (.row 2 xs) ∧ Rh M.length xs)) (by omega) (by decide) (by decide) (fun _ _ => rfl) (fun _ _ _ => rfl) ?_ ?_ _ _ _ rfl rfl ?_
        · clear h1 h2 h3 h4
          intro p env σ' n' hp h1 h2 ⟨g1, g2, g3, g4, g5, g6, g7, g8, g9⟩
          subst g1
          simp only [vl_tmp] at h2
          have hne : M ≠ [] := by intro h; rw [h] at hp; simp at hp
          obtain ⟨xs, r1, r2⟩ := g9 hne
          obtain ⟨a, b, r3⟩ := r2.2 p hp
          have hv : hVal (n + 1) M = .ref (n + 1) 0 M.length 2 := if_neg hne
          rw [hv] at g7 ⊢
          simp +contextual -implicitDefEqProofs (maxSteps := 2000000) only [↓wP, wQ, wQ1, wQ2, wQ3, wR, boxE, partsOf, ↓reduceIte, Nat.reduceEqDiff, Nat.reduceAdd, Nat.reduceSub, Nat.reduceLeDiff, Nat.reduceLT, Nat.reduceMul, reduceCtorEq, Int.reduceBNe, Int.reduceBEq, Int.reduceLT, Int.reduceLE, Int.reduceGT, h1, h2, g2, g3, g4, g5, g6, g7, hp, r1, r3]
          exact ⟨g8, fun _ => ⟨_, rfl, r2.set p 77 b⟩⟩
        · clear h1 h2 h3 h4
          intro env σ' n' ⟨g1, g2, g3, g4, g5, g6, g7, g8, g9⟩ h1 h2
          subst g1
          have e5 : n ≠ n + 1 := by omega
          have v5 : σ' n = some (.row 2 (hs L)) := by rw [g8 n e5, t5]
          have c12d := h12 σ' (n2 + 2) 0
          have e6 : n ≠ n2 + 2 := by omega
          have c14c := f14 (σ := upd σ' (n2 + 2) (some (.row 2 (hs L)))) (v := .ref n 0 L.length 2) (w := .ref (n2 + 2) 0 L.length 2) (a := L) (b := L) (Hf.row (by simp [upd, e6, v5]) rfl) (Hf.row (by simp [upd]) rfl) (by omega) true (n2 + 2 + 1) 0
          simp only [decide_true] at c14c
          simp +contextual -implicitDefEqProofs (maxSteps := 2000000) only [↓wP, wQ, wQ1, wQ2, wQ3, wR, boxE, partsOf, ↓reduceIte, Nat.reduceEqDiff, Nat.reduceAdd, Nat.reduceSub, Nat.reduceLeDiff, Nat.reduceLT, Nat.reduceMul, reduceCtorEq, Int.reduceBNe, Int.reduceBEq, Int.reduceLT, Int.reduceLE, Int.reduceGT, g2, g3, g4, g5, g6, g7, c12d, c14c]
        · simp +contextual -implicitDefEqProofs (maxSteps := 2000000) only [↓wP, wQ, wQ1, wQ2, wQ3, wR, boxE, partsOf, ↓reduceIte, Nat.reduceEqDiff, Nat.reduceAdd, Nat.reduceSub, Nat.reduceLeDiff, Nat.reduceLT, Nat.reduceMul, reduceCtorEq, Int.reduceBNe, Int.reduceBEq, Int.reduceLT, Int.reduceLE, Int.reduceGT, h1, h2, h3, h4]
          exact ⟨fun _ _ => trivial, fun hne => ⟨_, t5' hne, Rh.hs M⟩⟩
  · intro env σ n ⟨h3, h4⟩ h1 h2
    simp +contextual -implicitDefEqProofs (maxSteps := 2000000) only [↓wP, wQ, wQ1, wQ2, wQ3, wR, boxE, partsOf, ↓reduceIte, Nat.reduceEqDiff, Nat.reduceAdd, Nat.reduceSub, Nat.reduceLeDiff, Nat.reduceLT, Nat.reduceMul, reduceCtorEq, Int.reduceBNe, Int.reduceBEq, Int.reduceLT, Int.reduceLE, Int.reduceGT]
  · simp +contextual -implicitDefEqProofs (maxSteps := 2000000) only [↓wP, wQ, wQ1, wQ2, wQ3, wR, boxE, partsOf, ↓reduceIte, Nat.reduceEqDiff, Nat.reduceAdd, Nat.reduceSub, Nat.reduceLeDiff, Nat.reduceLT, Nat.reduceMul, reduceCtorEq, Int.reduceBNe, Int.reduceBEq, Int.reduceLT, Int.reduceLE, Int.reduceGT]
end Go.Q.S6
end

section
/- The arguments of seat 06's statements, as trees. -/
set_option linter.unusedSimpArgs false
set_option linter.unusedVariables false
namespace Go.Q.S6
open Go.Q Go.Proofs

theorem wf_i64 {x : Int} (h : (Lit.int .i64 x).wf = true) : -9223372036854775808 ≤ x ∧ x < 9223372036854775808 := by
  simp [Lit.wf, IntKind.min, IntKind.max, IntKind.signed, IntKind.bits] at h
  omega
def eU64 : Enc Try.prog 30 Int := Enc.int .u64 Try.underlying30
def eInt : Enc Try.prog 3 Int := Enc.int .i64 Try.underlying3
def eHit : Enc Try.prog 32 Hit := Enc.map
  (Enc.struct (EncF.cons (off := 0) (sz := 1) eU64 rfl (by kernel_rfl) (EncF.cons (sz := 1) eU64 rfl (by kernel_rfl) EncF.nil)) Try.underlying32 (by kernel_rfl))
  (fun x => ⟨x.1, x.2.1⟩) hitV (fun _ => True) (fun a _ => by obtain ⟨a, b, u⟩ := a; rfl) (fun _ _ => trivial)
def eHits : Enc Try.prog 22 (Option (List Hit)) := Enc.slice eHit Try.underlying22 2 (by kernel_rfl) (by decide) 16 (by kernel_rfl)
def eInts : Enc Try.prog 23 (Option (List Int)) := Enc.slice eInt Try.underlying23 1 (by kernel_rfl) (by decide) 8 (by kernel_rfl)
def eRows : Enc Try.prog 34 (Option (List (Option (List Hit)))) := Enc.slice eHits Try.underlying34 1 (by kernel_rfl) (by decide) 24 (by kernel_rfl)

theorem okHits {o : Option (List Hit)} (h : eHits.ok o) : (lst o).length < 4611686018427387904 := by
  cases o with
  | none => simp [lst]
  | some l =>
    obtain ⟨h1, h2, h3⟩ := h l rfl
    rw [reach_eq] at h2
    rw [lst_some]
    omega
theorem okInts {o : Option (List Int)} (h : eInts.ok o) : (lst o).length < 9223372036854775808 := by
  cases o with
  | none => simp [lst]
  | some l =>
    obtain ⟨h1, h2, h3⟩ := h l rfl
    rw [reach_eq] at h2
    rw [lst_some]
    omega
theorem okRows {o : Option (List (Option (List Hit)))} (h : eRows.ok o) : (lst o).length < 9223372036854775808 ∧ ∀ r ∈ lst o, (lst r).length < 4611686018427387904 := by
  cases o with
  | none => simp [lst]
  | some l =>
    obtain ⟨h1, h2, h3⟩ := h l rfl
    rw [reach_eq] at h2
    rw [lst_some]
    exact ⟨by omega, fun r hr => okHits (h3 r hr)⟩
end Go.Q.S6
end

section
/- A selection, as a tree. -/
set_option linter.unusedSimpArgs false
set_option linter.unusedVariables false
namespace Go.Q.S6
open Go.Q Go.Proofs

def eTop : Enc Try.prog 41 (Int × Option (List Hit)) := Enc.map
  (Enc.struct (EncF.cons (off := 0) (sz := 1) eInt rfl (by kernel_rfl) (EncF.cons (sz := 1) eHits rfl (by kernel_rfl) EncF.nil)) Try.underlying41 (by kernel_rfl))
  (fun x => (x.1, x.2.1)) (fun p => .agg [.int .i64 p.1, slV 2 hitV p.2]) (fun p => (lst p.2).length < 4611686018427387904) (fun a _ => by obtain ⟨a, b, u⟩ := a; cases b <;> rfl) (fun a h => okHits h.2.1)
theorem okTop {x : Int × Option (List Hit)} (h : eTop.ok x) : (lst x.2).length < 4611686018427387904 := h
end Go.Q.S6
end

section
/- Which hits are the same; new selections. -/
set_option linter.unusedSimpArgs false
set_option linter.unusedVariables false
namespace Go.Q.S6
open Go.Q Go.Sort

theorem f12r {σ : Sto} {v : V} {l : List Hit} (m : Nat) (ha : Hf σ v l) (hm : m ≤ 4000000) (hl : l.length < 9223372036854775808) (fs : Bool) (n lk : Nat) :
    callE T fs 12 [v, .int .i64 (m : Int)] σ n lk = some (.ref n 0 (l.take m).length 2, upd σ n (some (.row 2 (hs (l.take m)))), n + 1) := by
  obtain ⟨o, rfl, h1⟩ := ha
  have e : [v, .int .i64 (m : Int)].mapM (frz σ 12) = some [slV 2 hitV o, .int .i64 (m : Int)] := by
    simp only [List.mapM_cons, List.mapM_nil, h1, frz_int]; rfl
  rw [callE_flat (by decide) e (r12 o m hm hl) (hs_flat _), thaw_hs]

theorem r6 (o : Option (List (Option (List Hit)))) (q : Option (List Int)) (hlo : (lst o).length < 9223372036854775808) (hli : ∀ r ∈ lst o, (lst r).length < 4611686018427387904) (hq : (lst q).length < 9223372036854775808) :
    res T 6 [slV 1 (slV 2 hitV) o, slV 1 i64V q] = some (.bool true) := by
  refine run_res (run_pure (fn := g6) rfl rfl (by decide) ?_)
  simp only [g6, b6]
  simp +contextual -implicitDefEqProofs (maxSteps := 2000000) only [↓wP, wQ, wQ1, wQ2, wQ3, wR, boxE, partsOf, ↓reduceIte, Nat.reduceEqDiff, Nat.reduceAdd, Nat.reduceSub, Nat.reduceLeDiff, Nat.reduceLT, Nat.reduceMul, reduceCtorEq, Int.reduceBNe, Int.reduceBEq, Int.reduceLT, Int.reduceLE, Int.reduceGT, f11]
  refine WC_cutB (fun env σ n => env 1 = slV 1 i64V q) ?_ ?_
  · refine WC_for (lst o).length 0 (fun (j : Nat) env σ n => env 0 = slV 1 (slV 2 hitV) o ∧ env 1 = slV 1 i64V q ∧ env 16 = slV 1 (slV 2 hitV) o) hlo (by decide) (by decide) (fun _ _ => rfl) (fun _ _ _ => rfl) ?_ ?_ _ _ _ rfl rfl ?_
    · intro j env σ n hj h1 h2 ⟨h3, h4, h5⟩
      simp only [vl_tmp] at h2
      have hx : (lst o)[j]? = some (lst o)[j] := List.getElem?_eq_getElem hj
      have hr := hli _ (List.getElem_mem hj)
      have hx0 : (lst o)[0]? = some ((lst o)[0]'(by omega)) := List.getElem?_eq_getElem (by omega)
      have hr0 := hli _ (List.getElem_mem (l := lst o) (n := 0) (by omega))
      generalize (lst o)[j] = r at *
      generalize (lst o)[0]'(by omega) = r0 at *
      by_cases h8 : (j : Int) = 8
      · have h8' : ((j : Int) == 8) = true := by simpa using h8
        simp +contextual -implicitDefEqProofs (maxSteps := 2000000) only [↓wP, wQ, wQ1, wQ2, wQ3, wR, boxE, partsOf, ↓reduceIte, Nat.reduceEqDiff, Nat.reduceAdd, Nat.reduceSub, Nat.reduceLeDiff, Nat.reduceLT, Nat.reduceMul, reduceCtorEq, Int.reduceBNe, Int.reduceBEq, Int.reduceLT, Int.reduceLE, Int.reduceGT, exQ_exit, h1, h2, h3, h4, h5, hx, h8']
      · have h8' : ((j : Int) == 8) = false := by simpa using h8
        have h12 := fun fs σ n lk => f12 r 50 (by decide) (by omega) fs σ n lk
        have h12' := fun fs σ n lk => f12 r0 50 (by decide) (by omega) fs σ n lk
        simp only [show ((50 : Nat) : Int) = 50 from rfl] at h12 h12'
        have hB := big_le
        have y1 : (n + 1 ≤ n + BIG) = True := by simp; omega
        obtain ⟨a, ha⟩ : ∃ a, a = (lst r).take 50 := ⟨_, rfl⟩
        obtain ⟨b, hb⟩ : ∃ b, b = (lst r0).take 50 := ⟨_, rfl⟩
        rw [← ha] at h12
        rw [← hb] at h12'
        have hal : a.length ≤ 50 := by rw [ha, List.length_take]; omega
        obtain ⟨σ1, hσ1⟩ : ∃ σ1, σ1 = merge σ (upd σ n (some (.row 2 (hs a)))) n := ⟨_, rfl⟩
        have s1 : σ1 n = some (.row 2 (hs a)) := by rw [hσ1, merge_in _ _ _ (Nat.le_refl _) (by omega)]; simp [upd]
        obtain ⟨σ2, hσ2⟩ : ∃ σ2, σ2 = upd σ1 (n + BIG * 1) (some (.row 2 (hs b))) := ⟨_, rfl⟩
        have v1 : n ≠ n + BIG * 1 := by omega
        have s2 : σ2 n = some (.row 2 (hs a)) := by rw [hσ2]; simp only [upd]; rw [if_neg v1]; exact s1
        have s2' : σ2 (n + BIG * 1) = some (.row 2 (hs b)) := by rw [hσ2]; simp [upd]
        have c18 := f18 (σ := σ2) (v := .ref n 0 a.length 2) (w := .ref (n + BIG * 1) 0 b.length 2) (Hf.row s2 rfl) (Hf.row s2' rfl) (by omega) true (n + (BIG * 1 + 1)) 0
        have c14 := f14 (σ := σ2) (v := .ref n 0 a.length 2) (w := .ref (n + BIG * 1) 0 b.length 2) (Hf.row s2 rfl) (Hf.row s2' rfl) (by omega) true (n + (BIG * 1 + 1)) 0
        have v2 : n ≠ n + (BIG * 1 + 1) := by omega
        have c18' := f18 (σ := upd σ2 (n + (BIG * 1 + 1)) (some (.row 2 (hs a)))) (v := .ref n 0 a.length 2) (w := .ref (n + (BIG * 1 + 1)) 0 a.length 2) (a := a) (b := a) (Hf.row (by simp only [upd]; rw [if_neg v2]; exact s2) rfl) (Hf.row (by simp [upd]) rfl) (by omega) true (n + (BIG * 1 + 2)) 0
        simp only [decide_true] at c18'
        simp +contextual -implicitDefEqProofs (maxSteps := 2000000) only [↓wP, wQ, wQ1, wQ2, wQ3, wR, boxE, partsOf, ↓reduceIte, Nat.reduceEqDiff, Nat.reduceAdd, Nat.reduceSub, Nat.reduceLeDiff, Nat.reduceLT, Nat.reduceMul, reduceCtorEq, Int.reduceBNe, Int.reduceBEq, Int.reduceLT, Int.reduceLE, Int.reduceGT, exQ_exit, h1, h2, h3, h4, h5, hx, hx0, h8', h12, h12', hide_nil, y1, ← hσ1, ← hσ2, c18, c14, c18']
    · intro env σ n ⟨h3, h4, h5⟩ h1 h2
      simp +contextual -implicitDefEqProofs (maxSteps := 2000000) only [↓wP, wQ, wQ1, wQ2, wQ3, wR, boxE, partsOf, ↓reduceIte, Nat.reduceEqDiff, Nat.reduceAdd, Nat.reduceSub, Nat.reduceLeDiff, Nat.reduceLT, Nat.reduceMul, reduceCtorEq, Int.reduceBNe, Int.reduceBEq, Int.reduceLT, Int.reduceLE, Int.reduceGT, exQ_exit, h4]
    · simp +contextual -implicitDefEqProofs (maxSteps := 2000000) only [↓wP, wQ, wQ1, wQ2, wQ3, wR, boxE, partsOf, ↓reduceIte, Nat.reduceEqDiff, Nat.reduceAdd, Nat.reduceSub, Nat.reduceLeDiff, Nat.reduceLT, Nat.reduceMul, reduceCtorEq, Int.reduceBNe, Int.reduceBEq, Int.reduceLT, Int.reduceLE, Int.reduceGT]
  · intro env σ n h1
    simp +contextual -implicitDefEqProofs (maxSteps := 2000000) only [↓wP, wQ, wQ1, wQ2, wQ3, wR, boxE, partsOf, ↓reduceIte, Nat.reduceEqDiff, Nat.reduceAdd, Nat.reduceSub, Nat.reduceLeDiff, Nat.reduceLT, Nat.reduceMul, reduceCtorEq, Int.reduceBNe, Int.reduceBEq, Int.reduceLT, Int.reduceLE, Int.reduceGT, h1]
    refine WC_for (lst q).length 0 (fun (j : Nat) env σ n => env 46 = slV 1 i64V q) hq (by decide) (by decide) (fun _ _ => rfl) (fun _ _ _ => rfl) ?_ ?_ _ _ _ rfl rfl ?_
    · intro j env σ n hj h1 h2 h3
      simp only [vl_tmp] at h2
      have hx : (lst q)[j]? = some (lst q)[j] := List.getElem?_eq_getElem hj
      generalize (lst q)[j] = k at *
      by_cases h8 : (j : Int) = 8
      · have h8' : ((j : Int) == 8) = true := by simpa using h8
        simp +contextual -implicitDefEqProofs (maxSteps := 2000000) only [↓wP, wQ, wQ1, wQ2, wQ3, wR, boxE, partsOf, ↓reduceIte, Nat.reduceEqDiff, Nat.reduceAdd, Nat.reduceSub, Nat.reduceLeDiff, Nat.reduceLT, Nat.reduceMul, reduceCtorEq, Int.reduceBNe, Int.reduceBEq, Int.reduceLT, Int.reduceLE, Int.reduceGT, h1, h2, h3, hx, i64V_eq, h8']
      · have h8' : ((j : Int) == 8) = false := by simpa using h8
        have c19 := f19 k
        by_cases hk1 : k < 1
        · have e : newE k = 2 := if_pos (.inl hk1)
          have hk1' : ¬ 1 ≤ k := by omega
          simp only [e, show ((2 : Int) = 0) = False by simp, if_false] at c19
          simp +contextual -implicitDefEqProofs (maxSteps := 2000000) only [↓wP, wQ, wQ1, wQ2, wQ3, wR, boxE, partsOf, ↓reduceIte, Nat.reduceEqDiff, Nat.reduceAdd, Nat.reduceSub, Nat.reduceLeDiff, Nat.reduceLT, Nat.reduceMul, reduceCtorEq, Int.reduceBNe, Int.reduceBEq, Int.reduceLT, Int.reduceLE, Int.reduceGT, h1, h2, h3, hx, i64V_eq, h8', c19, hk1', Int.natCast_zero]
        · have hk1' : 1 ≤ k := by omega
          by_cases hk2 : 16 < k
          · have e : newE k = 2 := if_pos (.inr hk2)
            have hk2' : ¬ k ≤ 16 := by omega
            simp only [e, show ((2 : Int) = 0) = False by simp, if_false] at c19
            simp +contextual -implicitDefEqProofs (maxSteps := 2000000) only [↓wP, wQ, wQ1, wQ2, wQ3, wR, boxE, partsOf, ↓reduceIte, Nat.reduceEqDiff, Nat.reduceAdd, Nat.reduceSub, Nat.reduceLeDiff, Nat.reduceLT, Nat.reduceMul, reduceCtorEq, Int.reduceBNe, Int.reduceBEq, Int.reduceLT, Int.reduceLE, Int.reduceGT, h1, h2, h3, hx, i64V_eq, h8', c19, hk1', hk2', Int.natCast_zero]
          · have e : newE k = 0 := if_neg (by omega)
            have hk2' : k ≤ 16 := by omega
            simp only [e, if_true] at c19
            simp +contextual -implicitDefEqProofs (maxSteps := 2000000) only [↓wP, wQ, wQ1, wQ2, wQ3, wR, boxE, partsOf, ↓reduceIte, Nat.reduceEqDiff, Nat.reduceAdd, Nat.reduceSub, Nat.reduceLeDiff, Nat.reduceLT, Nat.reduceMul, reduceCtorEq, Int.reduceBNe, Int.reduceBEq, Int.reduceLT, Int.reduceLE, Int.reduceGT, h1, h2, h3, hx, i64V_eq, h8', c19, hk1', hk2', Int.natCast_zero]
    · intro env σ n h3 h1 h2
      simp +contextual -implicitDefEqProofs (maxSteps := 2000000) only [↓wP, wQ, wQ1, wQ2, wQ3, wR, boxE, partsOf, ↓reduceIte, Nat.reduceEqDiff, Nat.reduceAdd, Nat.reduceSub, Nat.reduceLeDiff, Nat.reduceLT, Nat.reduceMul, reduceCtorEq, Int.reduceBNe, Int.reduceBEq, Int.reduceLT, Int.reduceLE, Int.reduceGT]
    · simp +contextual -implicitDefEqProofs (maxSteps := 2000000) only [↓wP, wQ, wQ1, wQ2, wQ3, wR, boxE, partsOf, ↓reduceIte, Nat.reduceEqDiff, Nat.reduceAdd, Nat.reduceSub, Nat.reduceLeDiff, Nat.reduceLT, Nat.reduceMul, reduceCtorEq, Int.reduceBNe, Int.reduceBEq, Int.reduceLT, Int.reduceLE, Int.reduceGT]
end Go.Q.S6
end

section
/- In whatever order hits stand, the first ones are the same. -/
set_option linter.unusedSimpArgs false
set_option linter.unusedVariables false
namespace Go.Q.S6
open Go.Q Go.Sort

theorem Hf.part {σ : Sto} {id off N : Nat} {l : List Hit} (h : σ id = some (.row 2 (hs l))) (hN : off + N ≤ l.length) : Hf σ (.ref id off N 2) ((l.drop off).take N) := by
  refine ⟨some ((l.drop off).take N), rfl, ?_⟩
  have e : elems σ 2 (.ref id off N 2) = some (hs ((l.drop off).take N)) := by
    simp only [elems, h]
    rw [if_pos ⟨trivial, trivial, by rw [hs_len]; exact hN⟩]
    simp [hs, List.map_take, List.map_drop]
  show (elems σ 2 (.ref id off N 2)).bind _ = _
  rw [e, Option.bind_some, mapM_id (hs_frz σ _)]
  rfl

/-- A number of the right size, made of whatever number. -/
theorem kmod (k : Int) : ∃ kn : Nat, 1 ≤ kn ∧ kn ≤ 16 ∧ IntKind.i64.wrap ((IntKind.i64.wrap (k.tmod 16 + 16)).tmod 16 + 1) = (kn : Int) := by
  have h1 : -16 < k.tmod 16 := by
    have := Int.lt_tmod_of_pos k (show (0 : Int) < 16 by decide); omega
  have h2 : k.tmod 16 < 16 := Int.tmod_lt_of_pos k (by decide)
  rw [wrap_i64 (x := k.tmod 16 + 16) (by omega) (by omega)]
  have h3 : 0 ≤ (k.tmod 16 + 16).tmod 16 := Int.tmod_nonneg 16 (by omega)
  have h4 : (k.tmod 16 + 16).tmod 16 < 16 := Int.tmod_lt_of_pos _ (by decide)
  rw [wrap_i64 (by omega) (by omega)]
  exact ⟨((k.tmod 16 + 16).tmod 16 + 1).toNat, by omega, by omega, by omega⟩

theorem umod (by' : Int) (N : Nat) (hN : 0 < N) (hN2 : N < 1000000) : ∃ m : Nat, m < N ∧ IntKind.i64.wrap ((IntKind.u64.wrap by').tmod (IntKind.u64.wrap (N : Int))) = (m : Int) := by
  have h0 : 0 ≤ IntKind.u64.wrap by' := by
    unfold IntKind.wrap
    simp only [IntKind.signed, IntKind.bits]
    first | omega | (simp; omega) | skip
  rw [wrap_u64 (x := (N : Int)) (by omega) (by omega)]
  have h1 : 0 ≤ (IntKind.u64.wrap by').tmod (N : Int) := Int.tmod_nonneg _ h0
  have h2 : (IntKind.u64.wrap by').tmod (N : Int) < N := Int.tmod_lt_of_pos _ (by omega)
  rw [wrap_i64 (by omega) (by omega)]
  exact ⟨((IntKind.u64.wrap by').tmod (N : Int)).toNat, by omega, by omega⟩

def turn (m : Nat) (L : List Hit) : List Hit := L.drop m ++ L.take m
theorem turn_perm (m : Nat) (L : List Hit) : (turn m L).Perm L := by
  unfold turn
  exact List.perm_append_comm.trans (by rw [List.take_append_drop])

def rvs (L : List Hit) (j : Nat) : List Hit := L.reverse.take j ++ L.drop j
theorem rvs_len (L : List Hit) (j : Nat) (h : j ≤ L.length) : (rvs L j).length = L.length := by simp [rvs]; omega
theorem rvs_step (L : List Hit) (j : Nat) (h : j < L.length) : (rvs L j).set j (L[L.length - 1 - j]'(by omega)) = rvs L (j + 1) := by
  have e1 : L.reverse.take (j + 1) = L.reverse.take j ++ [L[L.length - 1 - j]'(by omega)] := by
    rw [← List.take_append_getElem (l := L.reverse) (i := j) (by simpa using h)]
    simp [List.getElem_reverse]
  have e2 : L.drop j = L[j] :: L.drop (j + 1) := List.drop_eq_getElem_cons h
  unfold rvs
  rw [e1, e2]
  have hl : (L.reverse.take j).length = j := by rw [List.length_take, List.length_reverse]; omega
  generalize L[L.length - 1 - j]'(by omega) = x at *
  generalize L.drop (j + 1) = b at *
  generalize L.reverse.take j = a at *
  subst hl
  simp [List.set_append]

theorem r7 (k : Int) (o : Option (List Hit)) (by' : Int) (hl : (lst o).length < 4611686018427387904) : res T 7 [.int .i64 k, slV 2 hitV o, .int .i64 by'] = some (.bool true) := by
  refine run_res (run_pure (fn := g7) rfl rfl (by decide) ?_)
  simp only [g7, b7]
  obtain ⟨kn, hk1, hk2, hkw⟩ := kmod k
  have hrem := fun a => bin_rem .i64 a 16 (by decide)
  obtain ⟨L, hL⟩ : ∃ L, L = (lst o).take 200 := ⟨_, rfl⟩
  have hLl : L.length ≤ 200 := by rw [hL, List.length_take]; omega
  have h12 := fun σ n lk => f12 o 200 (by decide) (by omega) true σ n lk
  simp only [show ((200 : Nat) : Int) = 200 from rfl] at h12
  rw [← hL] at h12
  by_cases hne : L = []
  · subst hne
    simp +contextual -implicitDefEqProofs (maxSteps := 2000000) only [↓wP, wQ, wQ1, wQ2, wQ3, wR, boxE, partsOf, ↓reduceIte, Nat.reduceEqDiff, Nat.reduceAdd, Nat.reduceSub, Nat.reduceLeDiff, Nat.reduceLT, Nat.reduceMul, reduceCtorEq, Int.reduceBNe, Int.reduceBEq, Int.reduceLT, Int.reduceLE, Int.reduceGT, f11, hrem, hkw, h12, List.length_nil, Int.natCast_zero]
  · have hpos : 0 < L.length := List.length_pos_iff.2 hne
    have he : ((L.length : Int) == 0) = false := by simp; exact hne
    obtain ⟨m, hm, hmw⟩ := umod by' L.length hpos (by omega)
    have hremu := fun a => bin_rem .u64 a (IntKind.u64.wrap (L.length : Int)) (by rw [wrap_u64] <;> omega)
    have hm1 : m ≤ L.length := by omega
    have c12 := fun fs n lk => f12r (σ := upd Sto.empty 0 (some (.row 2 (hs L)))) (v := .ref 0 m (L.length - m) 2) (l := (L.drop m).take (L.length - m)) L.length (Hf.part (by simp [upd]) (by omega)) (by omega) (by rw [List.length_take, List.length_drop]; omega) fs n lk
    have hd : ((L.drop m).take (L.length - m)).take L.length = L.drop m := by
      rw [List.take_take, List.take_of_length_le]
      rw [List.length_drop]; omega
    simp only [hd, List.length_drop] at c12
    have hB := big_le
    have y1 : (2 ≤ 1 + BIG) = True := by simp; omega
    obtain ⟨σ1, hσ1⟩ : ∃ σ1, σ1 = merge (upd Sto.empty 0 (some (.row 2 (hs L)))) (upd (upd Sto.empty 0 (some (.row 2 (hs L)))) 1 (some (.row 2 (hs (L.drop m))))) 1 := ⟨_, rfl⟩
    have s0 : σ1 0 = some (.row 2 (hs L)) := by rw [hσ1, merge_low _ _ _ (by decide)]; simp [upd]
    have s1 : σ1 1 = some (.row 2 (hs (L.drop m))) := by rw [hσ1, merge_in _ _ _ (by decide) (by omega)]; simp [upd]
    have hx1 : (hs (L.drop m)).length = L.length - m := by rw [hs_len, List.length_drop]
    have hx2 : ((hs L).take m).length = m := by rw [List.length_take, hs_len]; omega
    have hx3 : L.length - m + m = L.length := by omega
    have hx4 : (L.length * 16 ≤ LIM) = True := lim_hits (by omega)
    have hx5 : (m ≤ (hs L).length) = True := by rw [hs_len]; simp; omega
    have hx6 : hs (L.drop m) ++ (hs L).take m = hs (turn m L) := by rw [hs_take, hs_app]; rfl
    obtain ⟨σ2, hσ2⟩ : ∃ σ2, σ2 = upd (upd σ1 1 none) (1 + BIG * 1) (some (.row 2 (hs (turn m L)))) := ⟨_, rfl⟩
    have v1 : (0 : Nat) ≠ 1 + BIG * 1 := by omega
    have s20 : σ2 0 = some (.row 2 (hs L)) := by rw [hσ2]; simp only [upd]; rw [if_neg v1, if_neg (by decide)]; exact s0
    have s21 : σ2 (1 + BIG * 1) = some (.row 2 (hs (turn m L))) := by rw [hσ2]; simp [upd]
    have c12b := f12r (σ := σ2) (v := .ref 0 0 L.length 2) (l := L) L.length (Hf.row s20 rfl) (by omega) (by omega) true (1 + (BIG * 1 + 1)) 0
    rw [List.take_length] at c12b
    obtain ⟨σ3, hσ3⟩ : ∃ σ3, σ3 = upd σ2 (1 + (BIG * 1 + 1)) (some (.row 2 (hs L))) := ⟨_, rfl⟩
    rw [← hσ3] at c12b
    simp +contextual -implicitDefEqProofs (maxSteps := 2000000) only [↓wP, wQ, wQ1, wQ2, wQ3, wR, boxE, partsOf, ↓reduceIte, Nat.reduceEqDiff, Nat.reduceAdd, Nat.reduceSub, Nat.reduceLeDiff, Nat.reduceLT, Nat.reduceMul, reduceCtorEq, Int.reduceBNe, Int.reduceBEq, Int.reduceLT, Int.reduceLE, Int.reduceGT, f11, hrem, hkw, h12, he, hremu, hmw, hm1, Nat.zero_add, Nat.sub_zero, c12, y1, ← hσ1, s0, s1, hx1, hx2, hx3, hx4, hx5, hx6, ← hσ2, true_or, c12b]
    have v2 : (0 : Nat) ≠ 1 + (BIG * 1 + 1) := by omega
    have v3 : 1 + BIG * 1 ≠ 1 + (BIG * 1 + 1) := by omega
    have s30 : σ3 0 = some (.row 2 (hs L)) := by rw [hσ3]; simp only [upd]; rw [if_neg v2]; exact s20
    have s31 : σ3 (1 + BIG * 1) = some (.row 2 (hs (turn m L))) := by rw [hσ3]; simp only [upd]; rw [if_neg v3]; exact s21
    have s32 : σ3 (1 + (BIG * 1 + 1)) = some (.row 2 (hs L)) := by rw [hσ3]; simp [upd]
    generalize hA : 1 + BIG * 1 = A at *
    generalize hB' : 1 + (BIG * 1 + 1) = B at *
    generalize hC : 1 + (BIG * 1 + 2) = n0 at *
    refine WC_for L.length 0 (fun (j : Nat) env σ' n' => env 0 = .int .i64 (kn : Int) ∧ env 1 = .ref 0 0 L.length 2 ∧ env 8 = .ref A 0 L.length 2 ∧ env 9 = .ref B 0 L.length 2 ∧ B < n' ∧ σ' 0 = some (.row 2 (hs L)) ∧ σ' A = some (.row 2 (hs (turn m L))) ∧ σ' B = some (.row 2 (hs (rvs L j)))) (by omega) (by decide) (by decide) (fun _ _ => rfl) (fun _ _ _ => rfl) ?_ ?_ _ _ _ rfl rfl ?_
    · intro j env σ' n' hj h1 h2 ⟨g1, g2, g3, g4, g5, g6, g7, g8⟩
      simp only [vl_tmp] at h2
      have wa : IntKind.i64.wrap ((L.length : Int) - 1) = ((L.length - 1 : Nat) : Int) := by rw [wrap_i64] <;> omega
      have wb : IntKind.i64.wrap (((L.length - 1 : Nat) : Int) - (j : Int)) = ((L.length - 1 - j : Nat) : Int) := by rw [wrap_i64] <;> omega
      have x1 := hs_get (l := L) (i := L.length - 1 - j) (by omega)
      have l1 : L.length - 1 - j < L.length := by omega
      have x2 := hs_get (l := rvs L j) (i := j) (by rw [rvs_len _ _ (by omega)]; omega)
      have st := rvs_step L j hj
      have u1 : (0 : Nat) ≠ B := by omega
      have u2 : A ≠ B := by omega
      simp +contextual -implicitDefEqProofs (maxSteps := 2000000) only [↓wP, wQ, wQ1, wQ2, wQ3, wR, boxE, partsOf, ↓reduceIte, Nat.reduceEqDiff, Nat.reduceAdd, Nat.reduceSub, Nat.reduceLeDiff, Nat.reduceLT, Nat.reduceMul, reduceCtorEq, Int.reduceBNe, Int.reduceBEq, Int.reduceLT, Int.reduceLE, Int.reduceGT, h1, h2, g1, g2, g3, g4, g6, g8, wa, wb, x1, x2, l1, hj]
      rw [if_neg u1, if_neg u2, hs_set, st]
      exact ⟨g5, rfl, g7, rfl⟩
    · intro env σ' n' ⟨g1, g2, g3, g4, g5, g6, g7, g8⟩ h1 h2
      have hrev : rvs L L.length = L.reverse := by unfold rvs; rw [List.drop_length, List.append_nil, List.take_of_length_le (by simp)]
      rw [hrev] at g8
      have p1 : fst' kn (turn m L) = fst' kn L := fst_of_perm kn (turn_perm m L)
      have p2 : fst' kn L.reverse = fst' kn L := fst_of_perm kn (List.reverse_perm L)
      have fin : ∀ K : List Hit, K.length = L.length → fst' kn K = fst' kn L → merE (kn : Int) K = 0 ∧ merV (kn : Int) K = fst' kn L := by
        intro K hK hf
        have e1 : merE (kn : Int) K = 0 := by unfold merE; rw [if_neg (by omega), if_neg (by omega)]
        refine ⟨e1, ?_⟩
        unfold merV
        rw [if_pos e1]
        exact hf
      have hfl := fst_len kn L
      obtain ⟨M, hM⟩ : ∃ M, M = fst' kn L := ⟨_, rfl⟩
      rw [← hM] at hfl
      have call : ∀ (K : List Hit) (id : Nat) (σ : Sto) (n : Nat), K.length = L.length → fst' kn K = fst' kn L → σ id = some (.row 2 (hs K)) →
          callE T true 13 [.ref id 0 L.length 2, .int .i64 (kn : Int)] σ n 0 = some (.tup [hVal n M, .int .i64 0], hSto σ n M, hN n M) := by
        intro K id σ n hK hf hσ
        obtain ⟨e1, e2⟩ := fin K hK hf
        have := f13 (σ := σ) (v := .ref id 0 L.length 2) (l := K) (kn : Int) (Hf.row hσ hK) (by omega) true n 0
        rw [e1, e2, ← hM] at this
        exact this
      have hMne : M ≠ [] := by
        intro h
        rw [h] at hfl
        simp at hfl
        omega
      have hv : ∀ n, hVal n M = .ref n 0 M.length 2 := fun n => if_neg hMne
      have hn : ∀ n, hN n M = n + 1 := fun n => if_neg hMne
      have hst : ∀ σ n, hSto σ n M = upd σ n (some (.row 2 (hs M))) := fun σ n => if_neg hMne
      simp only [hv, hn, hst] at call
      have c1 := call L 0 σ' n' rfl rfl g6
      have a1 : A ≠ n' := by omega
      have c2 := call (turn m L) A (upd σ' n' (some (.row 2 (hs M)))) (n' + 1) (turn_perm m L).length_eq p1 (by simp only [upd]; rw [if_neg a1]; exact g7)
      have b1 : B ≠ n' := by omega
      have b2 : B ≠ n' + 1 := by omega
      have c3 := call L.reverse B (upd (upd σ' n' (some (.row 2 (hs M)))) (n' + 1) (some (.row 2 (hs M)))) (n' + 2) (by simp) p2 (by simp only [upd]; rw [if_neg b2, if_neg b1]; exact g8)
      have d1 : n' ≠ n' + 1 := by omega
      have d2 : n' ≠ n' + 2 := by omega
      have d3 : n' + 1 ≠ n' + 2 := by omega
      have f1 := f18 (σ := upd (upd (upd σ' n' (some (.row 2 (hs M)))) (n' + 1) (some (.row 2 (hs M)))) (n' + 2) (some (.row 2 (hs M)))) (v := .ref n' 0 M.length 2) (w := .ref (n' + 1) 0 M.length 2) (a := M) (b := M)
        (Hf.row (by rw [upd_ne d2, upd_ne d1, upd_self]) rfl) (Hf.row (by rw [upd_ne d3, upd_self]) rfl) (by omega) true (n' + 3) 0
      have f2 := f18 (σ := upd (upd (upd σ' n' (some (.row 2 (hs M)))) (n' + 1) (some (.row 2 (hs M)))) (n' + 2) (some (.row 2 (hs M)))) (v := .ref n' 0 M.length 2) (w := .ref (n' + 2) 0 M.length 2) (a := M) (b := M)
        (Hf.row (by rw [upd_ne d2, upd_ne d1, upd_self]) rfl) (Hf.row (by rw [upd_self]) rfl) (by omega) true (n' + 3) 0
      simp only [decide_true] at f1 f2
      simp +contextual -implicitDefEqProofs (maxSteps := 2000000) only [↓wP, wQ, wQ1, wQ2, wQ3, wR, boxE, partsOf, ↓reduceIte, Nat.reduceEqDiff, Nat.reduceAdd, Nat.reduceSub, Nat.reduceLeDiff, Nat.reduceLT, Nat.reduceMul, reduceCtorEq, Int.reduceBNe, Int.reduceBEq, Int.reduceLT, Int.reduceLE, Int.reduceGT, g1, g2, g3, g4, c1, c2, c3, f1, f2]
    · simp +contextual -implicitDefEqProofs (maxSteps := 2000000) only [↓wP, wQ, wQ1, wQ2, wQ3, wR, boxE, partsOf, ↓reduceIte, Nat.reduceEqDiff, Nat.reduceAdd, Nat.reduceSub, Nat.reduceLeDiff, Nat.reduceLT, Nat.reduceMul, reduceCtorEq, Int.reduceBNe, Int.reduceBEq, Int.reduceLT, Int.reduceLE, Int.reduceGT]
      exact ⟨by omega, s30, s31, by rw [s32]; simp [rvs]⟩
end Go.Q.S6
end

section
/- As many hits as there may be, and one more. -/
set_option linter.unusedSimpArgs false
set_option linter.unusedVariables false
namespace Go.Q.S6
open Go.Q Go.Sort

def fH (N i : Nat) : Hit := ⟨(i : Int), ((N - i : Nat) : Int)⟩
def mkL (N j : Nat) : List Hit := (List.range N).map fun i => if i < j then fH N i else ⟨0, 0⟩
theorem mkL_len (N j : Nat) : (mkL N j).length = N := by simp [mkL]
theorem mkL_step (N j : Nat) (h : j < N) : (mkL N j).set j (fH N j) = mkL N (j + 1) := by
  refine List.ext_getElem (by simp [mkL_len]) fun i h1 h2 => ?_
  rw [List.getElem_set]
  simp only [mkL, List.getElem_map, List.getElem_range]
  split
  · rename_i e; subst e; rw [if_pos (by omega)]
  · split
    · rw [if_pos (by omega)]
    · rw [if_neg (by omega)]
theorem mkL_zero (N : Nat) : hs (mkL N 0) = List.replicate N (.agg [.int .u64 0, .int .u64 0]) := by
  refine List.ext_getElem (by simp [hs_len, mkL_len]) fun i h1 h2 => ?_
  simp [hs, mkL, hitV]
theorem mkL_mem {N : Nat} {x : Hit} (h : x ∈ mkL N N) : ∃ i, i < N ∧ x = fH N i := by
  unfold mkL at h
  obtain ⟨i, hi, rfl⟩ := List.mem_map.1 h
  rw [List.mem_range] at hi
  exact ⟨i, hi, if_pos hi⟩
theorem mkL_head {N k : Nat} (hN : 0 < N) (hk : 0 < k) : (fst' k (mkL N N))[0]? = some (fH N (N - 1)) := by
  have hm : fH N (N - 1) ∈ mkL N N := by
    unfold mkL
    exact List.mem_map.2 ⟨N - 1, List.mem_range.2 (by omega), if_pos (by omega)⟩
  have hs := srt_srt (mkL N N)
  have hp := srt_perm (mkL N N)
  unfold fst'
  rw [List.getElem?_take_of_lt hk]
  generalize srt (mkL N N) = s at *
  have hms : fH N (N - 1) ∈ s := hp.mem_iff.2 hm
  cases s with
  | nil => simp at hms
  | cons x s =>
    obtain ⟨i, hi, rfl⟩ := mkL_mem (hp.mem_iff.1 (List.mem_cons_self (a := x) (l := s)))
    rcases List.mem_cons.1 hms with e | e
    · rw [e]; rfl
    · have := (List.pairwise_cons.1 hs).1 _ e
      rw [ah_not] at this
      simp only [fH] at this
      have : i = N - 1 := by omega
      subst this
      rfl

theorem nmod (x : Int) : ∃ N : Nat, (N = 2000 ∨ N = 2001) ∧ IntKind.i64.wrap (2000 + (IntKind.i64.wrap (x.tmod 2 + 2)).tmod 2) = (N : Int) := by
  have h1 : -2 < x.tmod 2 := by
    have := Int.lt_tmod_of_pos x (show (0 : Int) < 2 by decide); omega
  have h2 : x.tmod 2 < 2 := Int.tmod_lt_of_pos x (by decide)
  rw [wrap_i64 (x := x.tmod 2 + 2) (by omega) (by omega)]
  have h3 : 0 ≤ (x.tmod 2 + 2).tmod 2 := Int.tmod_nonneg 2 (by omega)
  have h4 : (x.tmod 2 + 2).tmod 2 < 2 := Int.tmod_lt_of_pos _ (by decide)
  rw [wrap_i64 (by omega) (by omega)]
  exact ⟨(2000 + (x.tmod 2 + 2).tmod 2).toNat, by omega, by omega⟩

theorem frz_part {σ : Sto} {id off N : Nat} {l : List Hit} (h : σ id = some (.row 2 (hs l))) (hN : off + N ≤ l.length) (k : Nat) : frz σ (k + 3) (.ref id off N 2) = some (slV 2 hitV (some ((l.drop off).take N))) := by
  have e : elems σ 2 (.ref id off N 2) = some (hs ((l.drop off).take N)) := by
    simp only [elems, h]
    rw [if_pos ⟨trivial, trivial, by rw [hs_len]; exact hN⟩]
    simp [hs, List.map_take, List.map_drop]
  show (elems σ 2 (.ref id off N 2)).bind _ = _
  have hm : (hs ((l.drop off).take N)).mapM (elemM (frz σ (k + 2))) = some (hs ((l.drop off).take N)) := by
    refine mapM_id fun x hx => ?_
    obtain ⟨y, -, rfl⟩ := List.mem_map.1 hx
    rfl
  rw [e, Option.bind_some, hm]
  rfl
theorem f16two {σ : Sto} {id : Nat} {v w : V} {a b : Option (List Hit)} (k : Int) (h : σ id = some (.row 1 [v, w])) (hv : v.cells = [v]) (hw : w.cells = [w]) (h1 : frz σ 11 v = some (slV 2 hitV a)) (h2 : frz σ 11 w = some (slV 2 hitV b))
    (ha : ∀ cs, v ≠ .agg cs) (hb : ∀ cs, w ≠ .agg cs) (la : (lst a).length < 4611686018427387904) (lb : (lst b).length < 4611686018427387904) (n : Nat) :
    callE T true 16 [.int .i64 k, .ref id 0 2 1] σ n 0 =
      some (.tup [hVal n (merV k (lst a ++ lst b)), .int .i64 (merE k (lst a ++ lst b))], hSto σ n (merV k (lst a ++ lst b)), hN n (merV k (lst a ++ lst b))) := by
  have h16 := r16 k (some [a, b]) (by simp [lst]) (fun r hr => by simp [lst_some] at hr; rcases hr with rfl | rfl <;> omega)
  have e0 : (lst (some [a, b])).flatMap lst = lst a ++ lst b := by simp [lst]
  rw [e0] at h16
  have hz : frz σ 12 (.ref id 0 2 1) = some (slV 1 (slV 2 hitV) (some [a, b])) := by
    have e : elems σ 1 (.ref id 0 2 1) = some [v, w] := by simp [elems, h]
    have e1 : elemM (frz σ 11) v = some (slV 2 hitV a) := by cases v <;> first | exact h1 | exact absurd rfl (ha _)
    have e2 : elemM (frz σ 11) w = some (slV 2 hitV b) := by cases w <;> first | exact h2 | exact absurd rfl (hb _)
    show (elems σ 1 (.ref id 0 2 1)).bind _ = _
    rw [e, Option.bind_some, List.mapM_cons, List.mapM_cons, List.mapM_nil, e1, e2]
    rfl
  have e : [V.int .i64 k, .ref id 0 2 1].mapM (frz σ 12) = some [V.int .i64 k, slV 1 (slV 2 hitV) (some [a, b])] := by
    simp only [List.mapM_cons, List.mapM_nil, hz, frz_int]; rfl
  rw [callE_flat (by decide) e h16 (flat_tup2 (flat_ownH _) rfl), thaw_hTup]

theorem r8 (more k : Int) : res T 8 [.int .i64 more, .int .i64 k] = some (.bool true) := by
  refine run_res (run_pure (fn := g8) rfl rfl (by decide) ?_)
  simp only [g8, b8]
  obtain ⟨kn, hk1, hk2, hkw⟩ := kmod k
  obtain ⟨N, hN, hNw⟩ := nmod more
  have hrem := fun a => bin_rem .i64 a 16 (by decide)
  have hrem2 := fun a => bin_rem .i64 a 2 (by decide)
  have hc1 : (0 : Int) ≤ (N : Int) := by omega
  have hc2 : ((16 : Nat) : Int) * (N : Int) ≤ 140737488355328 := by omega
  have hNn : (N : Int).toNat = N := by omega
  simp +contextual -implicitDefEqProofs (maxSteps := 2000000) only [↓wP, wQ, wQ1, wQ2, wQ3, wR, boxE, partsOf, ↓reduceIte, Nat.reduceEqDiff, Nat.reduceAdd, Nat.reduceSub, Nat.reduceLeDiff, Nat.reduceLT, Nat.reduceMul, reduceCtorEq, Int.reduceBNe, Int.reduceBEq, Int.reduceLT, Int.reduceLE, Int.reduceGT, f11, hrem2, hNw, hc1, hc2, hNn]
  refine WC_for N 0 (fun (j : Nat) env σ n => n = 1 ∧ env 1 = .int .i64 k ∧ env 5 = .ref 0 0 N 2 ∧ σ 0 = some (.row 2 (hs (mkL N j)))) (by omega) (by decide) (by decide) (fun _ _ => rfl) (fun _ _ _ => rfl) ?_ ?_ _ _ _ rfl rfl ?_
  · intro j env σ n hj h1 h2 ⟨g1, g2, g3, g4⟩
    subst g1
    simp only [vl_tmp] at h2
    have w1 : IntKind.u64.wrap (j : Int) = (j : Int) := by rw [wrap_u64] <;> omega
    have w2 : IntKind.i64.wrap ((N : Int) - (j : Int)) = ((N - j : Nat) : Int) := by rw [wrap_i64] <;> omega
    have w3 : IntKind.u64.wrap ((N - j : Nat) : Int) = ((N - j : Nat) : Int) := by rw [wrap_u64] <;> omega
    have x1 := hs_get (l := mkL N j) (i := j) (by rw [mkL_len]; exact hj)
    have st := mkL_step N j hj
    have e : (V.agg [.int .u64 (j : Int), .int .u64 ((N - j : Nat) : Int)]) = .agg [.int .u64 (fH N j).id, .int .u64 (fH N j).d] := rfl
    simp +contextual -implicitDefEqProofs (maxSteps := 2000000) only [↓wP, wQ, wQ1, wQ2, wQ3, wR, boxE, partsOf, ↓reduceIte, Nat.reduceEqDiff, Nat.reduceAdd, Nat.reduceSub, Nat.reduceLeDiff, Nat.reduceLT, Nat.reduceMul, reduceCtorEq, Int.reduceBNe, Int.reduceBEq, Int.reduceLT, Int.reduceLE, Int.reduceGT, h1, h2, g2, g3, g4, w1, w2, w3, x1, hj, e]
    rw [hs_set, st]
  · intro env σ n ⟨g1, g2, g3, g4⟩ h1 h2
    subst g1
    have hNl : (hs (mkL N N)).length = N := by rw [hs_len, mkL_len]
    have hb1 : (5 ≤ N) = True := by simp; omega
    obtain ⟨σ1, hσ1⟩ : ∃ σ1, σ1 = σ := ⟨_, rfl⟩
    have hB := big_le
    have hsp : (mkL N N).take 5 ++ ((mkL N N).drop 5).take (N - 5) = mkL N N := by
      have e : ((mkL N N).drop 5).take (N - 5) = (mkL N N).drop 5 := List.take_of_length_le (by rw [List.length_drop, mkL_len]; exact Nat.le_refl _)
      rw [e, List.take_append_drop]
    obtain ⟨L, hL⟩ : ∃ L, L = mkL N N := ⟨_, rfl⟩
    have hLl : L.length = N := by rw [hL, mkL_len]
    rw [← hL] at g4 hNl hsp
    have c13 := f13 (σ := σ) (v := .ref 0 0 N 2) (l := L) (kn : Int) (Hf.row g4 hLl) (by omega) true 1 0
    obtain ⟨M, hM⟩ : ∃ M, M = merV (kn : Int) L := ⟨_, rfl⟩
    obtain ⟨e, he⟩ : ∃ e, e = merE (kn : Int) L := ⟨_, rfl⟩
    rw [← hM, ← he] at c13
    obtain ⟨σ2, hσ2⟩ : ∃ σ2, σ2 = hSto σ 1 M := ⟨_, rfl⟩
    obtain ⟨n2, hn2⟩ : ∃ n2, n2 = Go.Q.S6.hN 1 M := ⟨_, rfl⟩
    rw [← hσ2, ← hn2] at c13
    have hn2' : 1 ≤ n2 := by rw [hn2]; exact hN_le _ _
    have s20 : σ2 0 = some (.row 2 (hs L)) := by rw [hσ2, hSto_ne (by decide), g4]
    obtain ⟨σ3, hσ3⟩ : ∃ σ3, σ3 = merge σ2 (upd σ2 n2 (some (.row 1 [.ref 0 0 5 2, .ref 0 5 (N - 5) 2]))) n2 := ⟨_, rfl⟩
    have s30 : σ3 0 = some (.row 2 (hs L)) := by rw [hσ3, merge_low _ _ _ (by omega), s20]
    have s31 : σ3 n2 = some (.row 1 [.ref 0 0 5 2, .ref 0 5 (N - 5) 2]) := by rw [hσ3, merge_in _ _ _ (Nat.le_refl _) (by omega), upd_self]
    have c16 := f16two (σ := σ3) (id := n2) (v := .ref 0 0 5 2) (w := .ref 0 5 (N - 5) 2) (kn : Int) s31 rfl rfl (frz_part s30 (by omega) 8) (frz_part s30 (by omega) 8) (fun _ h => by cases h) (fun _ h => by cases h)
      (by rw [lst_some, List.length_take]; omega) (by rw [lst_some, List.length_take, List.length_drop]; omega) (n2 + BIG * 1)
    simp only [lst_some, List.drop_zero, hsp] at c16
    rw [← hM, ← he] at c16
    have y1 : (n2 + 1 ≤ n2 + BIG) = True := by simp; omega
    have hbd : bndE (V.int .i64 5) N = some 5 := by simp [bndE]; omega
    obtain ⟨σ4, hσ4⟩ : ∃ σ4, σ4 = hSto σ3 (n2 + BIG * 1) M := ⟨_, rfl⟩
    obtain ⟨n4, hn4⟩ : ∃ n4, n4 = Go.Q.S6.hN (n2 + BIG * 1) M := ⟨_, rfl⟩
    rw [← hσ4, ← hn4] at c16
    have s40 : σ4 0 = some (.row 2 (hs L)) := by rw [hσ4, hSto_ne (by omega), s30]
    have c20 := f20 (σ := σ4) (v := .nilS) (w := .ref 0 0 N 2) (t := []) (l := L) (kn : Int) ⟨none, rfl, rfl⟩ (Hf.row s40 hLl) (by simp) (by omega) true n4 0
    have htop : TopOk (kn : Int) [] := ⟨by omega, by omega, by simp, List.Pairwise.nil⟩
    have n4' : n2 + BIG ≤ n4 := by rw [hn4]; have := hN_le (n2 + BIG * 1) M; omega
    rcases hN with hN | hN
    · -- as many as there may be
      have e1 : merE (kn : Int) L = 0 := by unfold merE; rw [if_neg (by omega), if_neg (by omega)]
      have e2 : merV (kn : Int) L = fst' kn L := by unfold merV; rw [if_pos e1]; rfl
      have e3 : offE (kn : Int) [] L = 0 := by unfold offE; rw [if_pos htop, if_neg (by omega)]
      have e4 : offV (kn : Int) [] L = M := by unfold offV; rw [if_pos e3, hM, e2]; rfl
      have e5 : offK (kn : Int) [] L = kn := by unfold offK; rw [if_pos e3]
      rw [e3, e4, e5] at c20
      rw [e1] at he
      subst he
      have hfl : M.length = kn := by rw [hM, e2, fst_len]; omega
      have hMne : M ≠ [] := by intro h; rw [h] at hfl; simp at hfl; omega
      obtain ⟨σ5, hσ5⟩ : ∃ σ5, σ5 = hSto σ4 n4 M := ⟨_, rfl⟩
      obtain ⟨n5, hn5⟩ : ∃ n5, n5 = Go.Q.S6.hN n4 M := ⟨_, rfl⟩
      rw [← hσ5, ← hn5] at c20
      have t1 : n2 = 2 := by rw [hn2]; exact if_neg hMne
      have t5 : n5 = n4 + 1 := by rw [hn5]; exact if_neg hMne
      have a2 : σ2 1 = some (.row 2 (hs M)) := by rw [hσ2]; exact hSto_self hMne
      have a3 : σ3 1 = some (.row 2 (hs M)) := by rw [hσ3, merge_low _ _ _ (by omega), a2]
      have a4 : σ4 1 = some (.row 2 (hs M)) := by rw [hσ4, hSto_ne (by omega), a3]
      have b4 : σ4 (n2 + BIG * 1) = some (.row 2 (hs M)) := by rw [hσ4]; exact hSto_self hMne
      have n4e : n4 = n2 + BIG * 1 + 1 := by rw [hn4]; exact if_neg hMne
      have a5 : σ5 1 = some (.row 2 (hs M)) := by rw [hσ5, hSto_ne (by omega), a4]
      have b5 : σ5 (n2 + BIG * 1) = some (.row 2 (hs M)) := by rw [hσ5, hSto_ne (by omega), b4]
      have d5 : σ5 n4 = some (.row 2 (hs M)) := by rw [hσ5]; exact hSto_self hMne
      obtain ⟨σ6, hσ6⟩ : ∃ σ6, σ6 = upd (upd σ5 n5 (some (.row 2 [.agg [.int .i64 0, .nilS]]))) n5 (some (.row 2 [.agg [.int .i64 (kn : Int), hVal n4 M]])) := ⟨_, rfl⟩
      have a6 : σ6 1 = some (.row 2 (hs M)) := by rw [hσ6, upd_ne (by omega), upd_ne (by omega), a5]
      have b6 : σ6 (n2 + BIG * 1) = some (.row 2 (hs M)) := by rw [hσ6, upd_ne (by omega), upd_ne (by omega), b5]
      have d6 : σ6 n4 = some (.row 2 (hs M)) := by rw [hσ6, upd_ne (by omega), upd_ne (by omega), d5]
      have h6 : σ6 n5 = some (.row 2 [.agg [.int .i64 (kn : Int), hVal n4 M]]) := by rw [hσ6, upd_self]
      have f1 := f14 (σ := σ6) (v := hVal 1 M) (w := hVal (n2 + BIG * 1) M) (a := M) (b := M) (Hf.hVal fun _ => a6) (Hf.hVal fun _ => b6) (by omega) true (n5 + 1) 0
      have f2 := f14 (σ := σ6) (v := hVal 1 M) (w := hVal n4 M) (a := M) (b := M) (Hf.hVal fun _ => a6) (Hf.hVal fun _ => d6) (by omega) true (n5 + 1) 0
      simp only [decide_true] at f1 f2
      have hv1 : hVal 1 M = .ref 1 0 M.length 2 := if_neg hMne
      have hhd : (hs M)[0]? = some (.agg [.int .u64 ((N - 1 : Nat) : Int), .int .u64 ((N - (N - 1) : Nat) : Int)]) := by
        have := mkL_head (N := N) (k := kn) (by omega) (by omega)
        rw [← hL, ← e2, ← hM] at this
        unfold hs
        rw [List.getElem?_map, this]
        rfl
      have hsm : ¬ (2000 : Int) < (N : Int) := by omega
      have wN : IntKind.u64.wrap (N : Int) = (N : Int) := by rw [wrap_u64] <;> omega
      have wN1 : IntKind.u64.wrap ((N : Int) - 1) = ((N - 1 : Nat) : Int) := by rw [wrap_u64] <;> omega
      have hlen1 := hVal_len 1 M
      have hk0 : 0 < M.length := by omega
      have hfl' : (M.length : Int) = (kn : Int) := by omega
      rw [hv1, hfl] at c13 f1 f2 hlen1
      have hk00 : 0 < kn := by omega
      simp +contextual -implicitDefEqProofs (maxSteps := 2000000) only [↓wP, wQ, wQ1, wQ2, wQ3, wR, boxE, partsOf, ↓reduceIte, Nat.reduceEqDiff, Nat.reduceAdd, Nat.reduceSub, Nat.reduceLeDiff, Nat.reduceLT, Nat.reduceMul, reduceCtorEq, Int.reduceBNe, Int.reduceBEq, Int.reduceLT, Int.reduceLE, Int.reduceGT, hrem, hkw, g2, g3, c13, hb1, hbd, Nat.sub_zero, y1, ← hσ3, c16, c20, hsm, cl_hVal, one_hVal, ← hσ6, hlen1, hfl, a6, b6, d6, h6, hhd, wN, wN1, f1, f2, hk00]
    · have e1 : merE (kn : Int) L = 3 := by unfold merE; rw [if_neg (by omega), if_pos (by omega)]
      have e2 : merV (kn : Int) L = [] := by unfold merV; rw [e1]; rfl
      have e3 : offE (kn : Int) [] L = 3 := by unfold offE; rw [if_pos htop, if_pos (by omega)]
      have e4 : offV (kn : Int) [] L = [] := by unfold offV; rw [e3]; rfl
      have e5 : offK (kn : Int) [] L = 0 := by unfold offK; rw [e3]; rfl
      rw [e3, e4, e5] at c20
      rw [e1] at he
      rw [e2] at hM
      subst he hM
      have hbig : (2000 : Int) < (N : Int) := by omega
      have q1 : ∀ n, hVal n [] = .nilS := fun _ => rfl
      have q2 : ∀ σ n, hSto σ n [] = σ := fun _ _ => rfl
      have q3 : ∀ n, Go.Q.S6.hN n [] = n := fun _ => rfl
      rw [q1] at c13 c16
      rw [q1, q2, q3] at c20
      simp +contextual -implicitDefEqProofs (maxSteps := 2000000) only [↓wP, wQ, wQ1, wQ2, wQ3, wR, boxE, partsOf, ↓reduceIte, Nat.reduceEqDiff, Nat.reduceAdd, Nat.reduceSub, Nat.reduceLeDiff, Nat.reduceLT, Nat.reduceMul, reduceCtorEq, Int.reduceBNe, Int.reduceBEq, Int.reduceLT, Int.reduceLE, Int.reduceGT, hrem, hkw, g2, g3, c13, hb1, hbd, Nat.sub_zero, y1, ← hσ3, c16, c20, hbig, Int.natCast_zero]
      rfl
  · simp +contextual -implicitDefEqProofs (maxSteps := 2000000) only [↓wP, wQ, wQ1, wQ2, wQ3, wR, boxE, partsOf, ↓reduceIte, Nat.reduceEqDiff, Nat.reduceAdd, Nat.reduceSub, Nat.reduceLeDiff, Nat.reduceLT, Nat.reduceMul, reduceCtorEq, Int.reduceBNe, Int.reduceBEq, Int.reduceLT, Int.reduceLE, Int.reduceGT]
    rw [mkL_zero]
end Go.Q.S6
end

section
/- The first ones of rows are the document's. -/
set_option linter.unusedSimpArgs false
set_option linter.unusedVariables false
namespace Go.Q.S6
open Go.Q Go.Sort

theorem oH_oL (l : List Hit) : oH l = oL (hs l) := by
  unfold oH
  cases l with
  | nil => rfl
  | cons x l => rw [if_neg (by simp)]; rfl
theorem optH_oL (l : List Hit) : optH l = oL l := by
  unfold optH
  cases l with
  | nil => rfl
  | cons x l => rw [if_neg (by simp)]; rfl
theorem fzl_hs (σ : Sto) (l : List Hit) (S : Nat → Prop) : FzL σ 11 (hs l) (hs l) S := FzL.trees (tr_hs 9 l).1 (tr_hs 10 l).2
theorem fz_row {σ : Sto} {id : Nat} {l : List Hit} {S : Nat → Prop} (h : σ id = some (.row 2 (hs l))) (hS : S id) : Fz σ 11 (.ref id 0 l.length 2) (.sl 2 (hs l)) S := by
  rw [← hs_len]
  exact Fz.ref h hS (FzL.trees (tr_hs 8 l).1 (tr_hs 9 l).2)
theorem fze_row {σ : Sto} {id : Nat} {l : List Hit} {S : Nat → Prop} (h : σ id = some (.row 2 (hs l))) (hS : S id) : FzE σ 11 (.ref id 0 l.length 2) (.sl 2 (hs l)) S :=
  FzE.ofFz (fz_row h hS) (fun cs h => by cases h)

theorem fl_hf {σ : Sto} {v : V} {l : List Hit} {S : Nat → Prop} (h : Fl σ 2 v (oL (hs l)) S) : Hf σ v l := by
  cases l with
  | nil => simp only [Fl, hs, oL, List.map_nil] at h; subst h; exact Hf.tree σ none
  | cons x l =>
    obtain ⟨i, rfl, h1, h2⟩ := h
    have h1' : σ i = some (.row 2 (hs (x :: l))) := h1
    have : (V.ref i 0 (hitV x :: List.map hitV l).length 2) = .ref i 0 (x :: l).length 2 := by simp
    rw [this]
    exact Hf.row h1' rfl
def cut (m : Nat) (r : Option (List Hit)) : List Hit := (lst r).take m

theorem r4 (k : Int) (o : Option (List (Option (List Hit)))) (hlo : (lst o).length < 9223372036854775808) (hli : ∀ r ∈ lst o, (lst r).length < 4611686018427387904) : res T 4 [.int .i64 k, slV 1 (slV 2 hitV) o] = some (.bool true) := by
  refine run_res (run_pure (fn := g4) rfl rfl (by decide) ?_)
  simp only [g4, b4]
  simp +contextual -implicitDefEqProofs (maxSteps := 2000000) only [↓wP, wQ, wQ1, wQ2, wQ3, wR, boxE, partsOf, ↓reduceIte, Nat.reduceEqDiff, Nat.reduceAdd, Nat.reduceSub, Nat.reduceLeDiff, Nat.reduceLT, Nat.reduceMul, reduceCtorEq, Int.reduceBNe, Int.reduceBEq, Int.reduceLT, Int.reduceLE, Int.reduceGT, f11]
  refine WC_cutB (fun env σ n => env 0 = .int .i64 k ∧ ∃ j, j ≤ 6 ∧ j ≤ (lst o).length ∧ Bls σ 1 (env 5) (oL (((lst o).take j).map fun r => .sl 2 (hs (cut 60 r)))) (fun i => i < n ∧ ¬ hasId (env 6) i) ∧ Fl σ 2 (env 6) (oL (hs (((lst o).take j).flatMap (cut 60)))) (fun i => i < n ∧ hasId (env 6) i)) ?_ ?_
  · refine WC_for (lst o).length 0 (fun (j : Nat) env σ n => env 0 = .int .i64 k ∧ env 13 = slV 1 (slV 2 hitV) o ∧ j ≤ 6 ∧ Bls σ 1 (env 5) (oL (((lst o).take j).map fun r => .sl 2 (hs (cut 60 r)))) (fun i => i < n ∧ ¬ hasId (env 6) i) ∧ Fl σ 2 (env 6) (oL (hs (((lst o).take j).flatMap (cut 60)))) (fun i => i < n ∧ hasId (env 6) i))
      hlo (by decide) (by decide) (fun _ _ => rfl) (fun _ _ _ => rfl) ?_ ?_ _ _ _ rfl rfl ?_
    · intro j env σ n hj h1 h2 ⟨h3, h4, h5, h6, h7⟩
      simp only [vl_tmp] at h2
      have hx : (lst o)[j]? = some (lst o)[j] := List.getElem?_eq_getElem hj
      have hr := hli _ (List.getElem_mem hj)
      have ht : (lst o).take (j + 1) = (lst o).take j ++ [(lst o)[j]] := (List.take_append_getElem hj).symm
      generalize (lst o)[j] = r at *
      generalize hv5 : env 5 = v5 at *
      generalize hv6 : env 6 = v6 at *
      by_cases h8 : (j : Int) = 6
      · have h8' : ((j : Int) == 6) = true := by simpa using h8
        simp +contextual -implicitDefEqProofs (maxSteps := 2000000) only [↓wP, wQ, wQ1, wQ2, wQ3, wR, boxE, partsOf, ↓reduceIte, Nat.reduceEqDiff, Nat.reduceAdd, Nat.reduceSub, Nat.reduceLeDiff, Nat.reduceLT, Nat.reduceMul, reduceCtorEq, Int.reduceBNe, Int.reduceBEq, Int.reduceLT, Int.reduceLE, Int.reduceGT, exQ_exit, h1, h2, h3, h4, hx, hv5, hv6, h8']
        exact ⟨j, by omega, by omega, h6, h7⟩
      · have h8' : ((j : Int) == 6) = false := by simpa using h8
        have h12 := fun σ n lk => f12 r 60 (by decide) (by omega) true σ n lk
        simp only [show ((60 : Nat) : Int) = 60 from rfl] at h12
        have hc : (lst r).take 60 = cut 60 r := rfl
        rw [hc] at h12
        have hcl : (cut 60 r).length ≤ 60 := by unfold cut; rw [List.length_take]; omega
        have hrl : (((lst o).take j).map fun r => V.sl 2 (hs (cut 60 r))).length = j := by rw [List.length_map, List.length_take]; omega
        have hal : (((lst o).take j).flatMap (cut 60)).length ≤ 360 := by
          have : ∀ q, q ≤ j → (((lst o).take q).flatMap (cut 60)).length ≤ 60 * q := by
            intro q
            induction q with
            | zero => intro _; simp
            | succ q ih =>
              intro hq
              rw [← List.take_append_getElem (l := lst o) (i := q) (by omega), List.flatMap_append, List.length_append]
              have := ih (by omega)
              have h9 : (([(lst o)[q]'(by omega)].flatMap (cut 60))).length ≤ 60 := by simp only [List.flatMap_cons, List.flatMap_nil, List.append_nil, cut, List.length_take]; omega
              omega
          have := this j (Nat.le_refl _)
          omega
        simp +contextual -implicitDefEqProofs (maxSteps := 2000000) only [↓wP, wQ, wQ1, wQ2, wQ3, wR, boxE, partsOf, ↓reduceIte, Nat.reduceEqDiff, Nat.reduceAdd, Nat.reduceSub, Nat.reduceLeDiff, Nat.reduceLT, Nat.reduceMul, reduceCtorEq, Int.reduceBNe, Int.reduceBEq, Int.reduceLT, Int.reduceLE, Int.reduceGT, h1, h2, h3, h4, hx, hv5, hv6, h8', h12]
        have b1 : Bls (upd (upd σ n (some (.row 2 (hs (cut 60 r))))) (n + 1) (some (.row 1 [.ref n 0 (cut 60 r).length 2]))) 1 v5 (oL (((lst o).take j).map fun r => .sl 2 (hs (cut 60 r)))) (fun i => i < n ∧ ¬ hasId v6 i) := by
          refine h6.loc (fun i hi => ?_) (fun _ h => h)
          have a1 : i ≠ n := by omega
          have a2 : i ≠ n + 1 := by omega
          simp [upd, a1, a2]
        have hv5id : ∀ i, hasId v5 i → i < n ∧ ¬ hasId v6 i := fun i hi => h6.ids hi
        have hv6id : ∀ i, hasId v6 i → i < n := fun i hi => (h7.ids hi).1
        have hel : (if (cut 60 r).length ≤ (hs (cut 60 r)).length then some ((hs (cut 60 r)).take (cut 60 r).length) else none) = some (hs (cut 60 r)) := by
          rw [hs_len, if_pos (Nat.le_refl _), ← hs_len, List.take_length]
        refine stepW_appS (us := [.sl 2 (hs (cut 60 r))]) (S' := fun i => i < n + 3 ∧ ¬ hasId v6 i) b1 (fun i hi => by omega) (fun i hi => ⟨by omega, hi.2⟩) ⟨by omega, fun h => by have := hv6id _ h; omega⟩
          (FzL.one (fze_row (by simp [upd]) ⟨⟨by omega, fun h => by have := hv6id _ h; omega⟩, by omega, fun o1 l1 s1 e => by have := hv5id n ⟨o1, l1, s1, e⟩; omega⟩)) ?_ (fun v' σ' n' q1 q2 q3 q4 => ?_)
        · rw [lst_oL, hrl]; unfold LIM; simp; omega
        · have f1 : Fl σ' 2 v6 (oL (hs (((lst o).take j).flatMap (cut 60)))) (fun i => i < n ∧ hasId v6 i) := by
            refine h7.loc (fun i hi => ?_) (fun _ h => h)
            have a1 : i ≠ n := by omega
            have a2 : i ≠ n + 1 := by omega
            rw [q4 i (by omega) (fun o1 l1 s1 e => (hv5id i ⟨o1, l1, s1, e⟩).2 hi.2)]
            simp [upd, a1, a2]
          rw [appO_oL] at q1
          simp +contextual -implicitDefEqProofs (maxSteps := 2000000) only [↓wP, wQ, wQ1, wQ2, wQ3, wR, boxE, partsOf, ↓reduceIte, Nat.reduceEqDiff, Nat.reduceAdd, Nat.reduceSub, Nat.reduceLeDiff, Nat.reduceLT, Nat.reduceMul, reduceCtorEq, Int.reduceBNe, Int.reduceBEq, Int.reduceLT, Int.reduceLE, Int.reduceGT, h1, h2, h3, h4, hv5, hv6, h12, hel]
          have f2 : Fl (upd σ' n' (some (.row 2 (hs (cut 60 r))))) 2 v6 (oL (hs (((lst o).take j).flatMap (cut 60)))) (fun i => i < n ∧ hasId v6 i) := by
            refine f1.loc (fun i hi => ?_) (fun _ h => h)
            have a1 : i ≠ n' := by omega
            simp [upd, a1]
          refine stepW_appF (n := n' + 1) (S' := fun i => True) f2 (fun i hi => by omega) trivial ?_ (fun v2 σ2 n2 g1 g2 g3 g4 g5 => ?_)
          · rw [lst_oL, hs_len, hs_len]; unfold LIM; omega
          · rw [appO_oL, hs_app] at g1
            simp +contextual -implicitDefEqProofs (maxSteps := 2000000) only [↓wP, wQ, wQ1, wQ2, wQ3, wR, boxE, partsOf, ↓reduceIte, Nat.reduceEqDiff, Nat.reduceAdd, Nat.reduceSub, Nat.reduceLeDiff, Nat.reduceLT, Nat.reduceMul, reduceCtorEq, Int.reduceBNe, Int.reduceBEq, Int.reduceLT, Int.reduceLE, Int.reduceGT, h1, h2, h3, h4]
            have hh : ∀ i, hasId v2 i → n' + 1 ≤ i := by rintro i ⟨o1, l1, s1, e⟩; exact g5 i o1 l1 s1 e
            refine ⟨by omega, ?_, ?_⟩
            · rw [ht, List.map_append]
              refine q1.loc (fun i hi => ?_) (fun i hi => ⟨by omega, fun h => ?_⟩)
              · have a1 : i ≠ n' := by omega
                rw [g4 i (by omega) (fun o1 l1 s1 e => hi.1.2 ⟨o1, l1, s1, e⟩)]
                simp [upd, a1]
              · have := hh i h
                omega
            · rw [ht, List.flatMap_append]
              simp only [List.flatMap_cons, List.flatMap_nil, List.append_nil]
              exact g1.self.loc (fun i _ => rfl) (fun i hi => ⟨hi.1.2.2, hi.2⟩)
    · intro env σ n ⟨h3, h4, h5, h6, h7⟩ h1 h2
      simp +contextual -implicitDefEqProofs (maxSteps := 2000000) only [↓wP, wQ, wQ1, wQ2, wQ3, wR, boxE, partsOf, ↓reduceIte, Nat.reduceEqDiff, Nat.reduceAdd, Nat.reduceSub, Nat.reduceLeDiff, Nat.reduceLT, Nat.reduceMul, reduceCtorEq, Int.reduceBNe, Int.reduceBEq, Int.reduceLT, Int.reduceLE, Int.reduceGT, exQ_exit, h3]
      exact ⟨(lst o).length, h5, Nat.le_refl _, h6, h7⟩
    · simp +contextual -implicitDefEqProofs (maxSteps := 2000000) only [↓wP, wQ, wQ1, wQ2, wQ3, wR, boxE, partsOf, ↓reduceIte, Nat.reduceEqDiff, Nat.reduceAdd, Nat.reduceSub, Nat.reduceLeDiff, Nat.reduceLT, Nat.reduceMul, reduceCtorEq, Int.reduceBNe, Int.reduceBEq, Int.reduceLT, Int.reduceLE, Int.reduceGT]
      simp [oL, Bls, Fl, hs]
  · intro env σ n ⟨h3, j, hj6, hjl, h6, h7⟩
    generalize hv5 : env 5 = v5 at *
    generalize hv6 : env 6 = v6 at *
    have hfm : (lst (oL (((lst o).take j).map fun r => some (cut 60 r)))).flatMap lst = ((lst o).take j).flatMap (cut 60) := by
      rw [lst_oL, List.flatMap_map]; rfl
    have hal : (((lst o).take j).flatMap (cut 60)).length ≤ 360 := by
      have : ∀ q, q ≤ j → (((lst o).take q).flatMap (cut 60)).length ≤ 60 * q := by
        intro q
        induction q with
        | zero => intro _; simp
        | succ q ih =>
          intro hq
          rw [← List.take_append_getElem (l := lst o) (i := q) (by omega), List.flatMap_append, List.length_append]
          have := ih (by omega)
          have h9 : (([(lst o)[q]'(by omega)].flatMap (cut 60))).length ≤ 60 := by simp only [List.flatMap_cons, List.flatMap_nil, List.append_nil, cut, List.length_take]; omega
          omega
      have := this j (Nat.le_refl _)
      omega
    have h16 := r16 k (oL (((lst o).take j).map fun r => some (cut 60 r))) (by rw [lst_oL, List.length_map, List.length_take]; omega) (fun r hr => by
      rw [lst_oL] at hr
      obtain ⟨x, -, rfl⟩ := List.mem_map.1 hr
      simp only [lst_some, cut, List.length_take]; omega)
    rw [hfm] at h16
    have hz : frz σ 12 v5 = some (slV 1 (slV 2 hitV) (oL (((lst o).take j).map fun r => some (cut 60 r)))) := by
      have hm : ((lst o).take j).map (fun r => V.sl 2 (hs (cut 60 r))) = (((lst o).take j).map fun r => some (cut 60 r)).map (slV 2 hitV) := by rw [List.map_map]; rfl
      rw [h6.frz, hm, slV_oL]
    have e : [V.int .i64 k, v5].mapM (frz σ 12) = some [V.int .i64 k, slV 1 (slV 2 hitV) (oL (((lst o).take j).map fun r => some (cut 60 r)))] := by
      simp only [List.mapM_cons, List.mapM_nil, hz, frz_int]; rfl
    have c16 := callE_flat (fs := true) (n := n) (lk := 0) (by decide) e h16 (flat_tup2 (flat_ownH _) rfl)
    rw [thaw_hTup] at c16
    generalize ((lst o).take j).flatMap (cut 60) = L at *
    by_cases hk : k < 1 ∨ 16 < k
    · have e1 : merE k L = 2 := if_pos hk
      have e2 : merV k L = [] := by unfold merV; rw [e1]; rfl
      rw [e1, e2] at c16
      have e3 : hVal n [] = .nilS := rfl
      have e4 : hSto σ n [] = σ := rfl
      have e5 : hN n [] = n := rfl
      rw [e3, e4, e5] at c16
      by_cases hk1 : k < 1
      · simp +contextual -implicitDefEqProofs (maxSteps := 2000000) only [↓wP, wQ, wQ1, wQ2, wQ3, wR, boxE, partsOf, ↓reduceIte, Nat.reduceEqDiff, Nat.reduceAdd, Nat.reduceSub, Nat.reduceLeDiff, Nat.reduceLT, Nat.reduceMul, reduceCtorEq, Int.reduceBNe, Int.reduceBEq, Int.reduceLT, Int.reduceLE, Int.reduceGT, h3, hv5, hv6, c16, hk1, Int.natCast_zero]
      · have hk2 : 16 < k := by omega
        simp +contextual -implicitDefEqProofs (maxSteps := 2000000) only [↓wP, wQ, wQ1, wQ2, wQ3, wR, boxE, partsOf, ↓reduceIte, Nat.reduceEqDiff, Nat.reduceAdd, Nat.reduceSub, Nat.reduceLeDiff, Nat.reduceLT, Nat.reduceMul, reduceCtorEq, Int.reduceBNe, Int.reduceBEq, Int.reduceLT, Int.reduceLE, Int.reduceGT, h3, hv5, hv6, c16, hk1, hk2, Int.natCast_zero]
    · have e1 : merE k L = 0 := by unfold merE; rw [if_neg hk, if_neg (by omega)]
      obtain ⟨kn, rfl⟩ : ∃ kn : Nat, k = (kn : Int) := ⟨k.toNat, by omega⟩
      have e2 : merV (kn : Int) L = fst' kn L := by unfold merV; rw [if_pos e1]; rfl
      rw [e1, e2] at c16
      have hk1 : ¬ (kn : Int) < 1 := by omega
      have hk2 : ¬ 16 < (kn : Int) := by omega
      have hfl := fst_len kn L
      by_cases hL : L = []
      · subst hL
        have hv : v6 = .nilS := h7
        have e3 : fst' kn [] = [] := by simp [fst', srt]
        rw [e3] at c16
        have e4 : hVal n [] = .nilS := rfl
        have e5 : hSto σ n [] = σ := rfl
        have e6 : hN n [] = n := rfl
        rw [e4, e5, e6] at c16
        have c15 := f15n kn (by omega) true σ n 0
        have c14 := f14 (σ := σ) (v := .nilS) (w := .nilS) (Hf.tree σ none) (Hf.tree σ none) (by simp [lst]) true n 0
        simp only [decide_true] at c14
        simp +contextual -implicitDefEqProofs (maxSteps := 2000000) only [↓wP, wQ, wQ1, wQ2, wQ3, wR, boxE, partsOf, ↓reduceIte, Nat.reduceEqDiff, Nat.reduceAdd, Nat.reduceSub, Nat.reduceLeDiff, Nat.reduceLT, Nat.reduceMul, reduceCtorEq, Int.reduceBNe, Int.reduceBEq, Int.reduceLT, Int.reduceLE, Int.reduceGT, h3, hv5, hv6, hv, c16, hk1, hk2, c15, c14]
      · obtain ⟨x, l, rfl⟩ : ∃ x l, L = x :: l := by cases L with | nil => exact absurd rfl hL | cons x l => exact ⟨x, l, rfl⟩
        obtain ⟨id, e3, e4, e5⟩ := h7
        have e3' : v6 = .ref id 0 (x :: l).length 2 := by rw [e3]; simp
        have e4' : σ id = some (.row 2 (hs (x :: l))) := e4
        generalize hLL : x :: l = L at *
        obtain ⟨σ1, hσ1⟩ : ∃ σ1, σ1 = hSto σ n (fst' kn L) := ⟨_, rfl⟩
        obtain ⟨n1, hn1⟩ : ∃ n1, n1 = hN n (fst' kn L) := ⟨_, rfl⟩
        rw [← hσ1, ← hn1] at c16
        have t1 : σ1 id = some (.row 2 (hs L)) := by rw [hσ1, hSto_ne (by omega), e4']
        have c15 := f15 (σ := σ1) (id := id) (l := L) kn L.length t1 rfl (by omega) (by omega) n1
        have c14 := f14 (σ := dr σ1 id L) (v := hVal n (fst' kn L)) (w := slV 2 hitV (refF kn L)) (a := fst' kn L) (b := lst (refF kn L))
          (Hf.hVal fun h => by rw [dr_at _ _ _ (by omega), hσ1]; exact hSto_self h) (Hf.tree _ _) (by omega) true n1 0
        rw [lst_refF] at c14
        simp only [decide_true] at c14
        simp +contextual -implicitDefEqProofs (maxSteps := 2000000) only [↓wP, wQ, wQ1, wQ2, wQ3, wR, boxE, partsOf, ↓reduceIte, Nat.reduceEqDiff, Nat.reduceAdd, Nat.reduceSub, Nat.reduceLeDiff, Nat.reduceLT, Nat.reduceMul, reduceCtorEq, Int.reduceBNe, Int.reduceBEq, Int.reduceLT, Int.reduceLE, Int.reduceGT, h3, hv5, hv6, e3', c16, hk1, hk2, c15, c14]

end Go.Q.S6
end

section
/- What comes of a selection by what is offered. -/
set_option linter.unusedSimpArgs false
set_option linter.unusedVariables false
namespace Go.Q.S6
open Go.Q Go.Sort

/-- What stands for a row of hits, at whatever depth. -/
def Ht (σ : Sto) (v : V) (l : List Hit) : Prop := ∃ o, lst o = l ∧ ∀ k, frz σ (k + 3) v = some (slV 2 hitV o)
theorem Ht.hf {σ : Sto} {v : V} {l : List Hit} (h : Ht σ v l) : Hf σ v l := by obtain ⟨o, h1, h2⟩ := h; exact ⟨o, h1, h2 9⟩
theorem Ht.tree (σ : Sto) (o : Option (List Hit)) : Ht σ (slV 2 hitV o) (lst o) := ⟨o, rfl, fun k => frz_slV 2 _ o σ (k + 2)⟩
theorem Ht.row {σ : Sto} {id N : Nat} {l : List Hit} (h : σ id = some (.row 2 (hs l))) (hN : l.length = N) : Ht σ (.ref id 0 N 2) l := by
  refine ⟨some l, rfl, fun k => ?_⟩
  have := frz_part (off := 0) (N := N) h (by omega) k
  rw [List.drop_zero, List.take_of_length_le (by omega)] at this
  exact this
theorem frz_topA {σ : Sto} {v : V} {l : List Hit} (k : Int) (h : Ht σ v l) : ∃ o, lst o = l ∧ [V.agg [.int .i64 k, v]].mapM (frz σ 12) = some [V.agg [.int .i64 k, slV 2 hitV o]] := by
  obtain ⟨o, h1, h2⟩ := h
  exact ⟨o, h1, by simp only [List.mapM_cons, List.mapM_nil, frz, h2 8]; rfl⟩
theorem f22r {σ : Sto} {v : V} {l : List Hit} (k : Int) (h : Ht σ v l) (hl : l.length < 9223372036854775808) (fs : Bool) (n lk : Nat) : callE T fs 22 [.agg [.int .i64 k, v]] σ n lk = some (.int .i64 (topE k l), σ, n) := by
  obtain ⟨o, rfl, e⟩ := frz_topA k h
  rw [callE_flat (by decide) e (r22 k o hl) rfl]; rfl
theorem f21r {σ : Sto} {v : V} {l : List Hit} (k : Int) (h : Ht σ v l) (hl : l.length < 9223372036854775808) (fs : Bool) (n lk : Nat) : callE T fs 21 [.agg [.int .i64 k, v]] σ n lk = some (.bool (decide (TopOk k l)), σ, n) := by
  obtain ⟨o, rfl, e⟩ := frz_topA k h
  rw [callE_flat (by decide) e (r21 k o hl) rfl]; rfl
theorem lastV_hit (k : Int) (l : List Hit) : ∃ h : Hit, lastV k l = .agg [.int .u64 h.id, .int .u64 h.d] := by
  unfold lastV
  split
  · split
    · rename_i h _; exact ⟨h, rfl⟩
    · exact ⟨⟨0, 0⟩, rfl⟩
  · exact ⟨⟨0, 0⟩, rfl⟩
theorem f23r {σ : Sto} {v : V} {l : List Hit} (k : Int) (h : Ht σ v l) (hl : l.length < 9223372036854775808) (fs : Bool) (n lk : Nat) : callE T fs 23 [.agg [.int .i64 k, v]] σ n lk = some (.tup [lastV k l, .bool (decide (TopOk k l ∧ (l.length : Int) = k))], σ, n) := by
  obtain ⟨o, rfl, e⟩ := frz_topA k h
  obtain ⟨x, hx⟩ := lastV_hit k (lst o)
  have hr := r23 k o hl
  rw [hx] at hr ⊢
  rw [callE_flat (by decide) e hr rfl]; rfl

/-- A row of hits: in the store, or a tree. -/
def Vw (σ : Sto) (v : V) (l : List Hit) (S : Nat → Prop) : Prop := (∃ o, lst o = l ∧ v = slV 2 hitV o) ∨ ∃ i, v = .ref i 0 l.length 2 ∧ σ i = some (.row 2 (hs l)) ∧ S i
theorem Vw.loc {σ σ' : Sto} {v : V} {l : List Hit} {S S' : Nat → Prop} (h : Vw σ v l S) (hs : ∀ i, S i → σ' i = σ i) (hS : ∀ i, S i → S' i) : Vw σ' v l S' := by
  rcases h with h | ⟨i, h1, h2, h3⟩
  · exact .inl h
  · exact .inr ⟨i, h1, by rw [hs i h3, h2], hS i h3⟩
theorem Vw.ht {σ : Sto} {v : V} {l : List Hit} {S : Nat → Prop} (h : Vw σ v l S) : Ht σ v l := by
  rcases h with ⟨o, rfl, rfl⟩ | ⟨i, rfl, h2, -⟩
  · exact Ht.tree σ o
  · exact Ht.row h2 rfl
theorem Vw.len {σ : Sto} {v : V} {l : List Hit} {S : Nat → Prop} (h : Vw σ v l S) : lenE v = some (.int .i64 (l.length : Int)) := by
  rcases h with ⟨o, rfl, rfl⟩ | ⟨i, rfl, -, -⟩
  · cases o with
    | none => rfl
    | some l => simp [slV, lst_some, lenE, lenOf]
  · rfl

theorem r9 (K : Int) (o : Option (List Hit)) (q : Option (List (Option (List Hit)))) (hl : (lst o).length < 4611686018427387904) (hlo : (lst q).length < 9223372036854775808) (hli : ∀ r ∈ lst q, (lst r).length < 4611686018427387904) :
    res T 9 [.agg [.int .i64 K, slV 2 hitV o], slV 1 (slV 2 hitV) q] = some (.bool true) := by
  refine run_res (run_pure (fn := g9) rfl rfl (by decide) ?_)
  simp only [g9, b9]
  obtain ⟨L0, hL0⟩ : ∃ L, L = (lst o).take 17 := ⟨_, rfl⟩
  have hL0l : L0.length ≤ 17 := by rw [hL0, List.length_take]; omega
  have h12 := fun fs σ n lk => f12 o 17 (by decide) (by omega) fs σ n lk
  simp only [show ((17 : Nat) : Int) = 17 from rfl] at h12
  rw [← hL0] at h12
  have hB := big_le
  have y0 : ∀ (σ : Sto) (hid : List Nat), hide σ 1 1 hid 0 = σ 0 := fun σ hid => hide_low σ 1 1 hid (by decide) (Nat.le_refl _)
  have y1 : (2 ≤ 1 + BIG) = True := by simp; omega
  have y2 : (1 + (BIG + 1) ≤ 1 + (BIG + BIG)) = True := by simp; omega
  obtain ⟨σa, hσa⟩ : ∃ σa, σa = merge (upd Sto.empty 0 (some (Ob.row 2 [V.agg [V.int IntKind.i64 K, slV 2 hitV o]])))
          (upd (hide (upd Sto.empty 0 (some (Ob.row 2 [V.agg [V.int IntKind.i64 K, slV 2 hitV o]]))) 1 1 [1]) 1 (some (Ob.row 2 (hs L0)))) 1 := ⟨_, rfl⟩
  obtain ⟨σb, hσb⟩ : ∃ σb, σb = merge σa (upd (hide σa 1 (1 + BIG) [0]) (1 + BIG) (some (Ob.row 2 [V.agg [V.int IntKind.i64 0, V.nilS]]))) (1 + BIG) := ⟨_, rfl⟩
  have a1 : σa 1 = some (.row 2 (hs L0)) := by rw [hσa, merge_in _ _ _ (by decide) (by omega)]; simp [upd]
  have b1 : σb 1 = some (.row 2 (hs L0)) := by rw [hσb, merge_low _ _ _ (by omega)]; exact a1
  have b2 : σb (1 + BIG) = some (.row 2 [.agg [.int .i64 0, .nilS]]) := by rw [hσb, merge_in _ _ _ (by omega) (by omega)]; simp [upd]
  simp +contextual -implicitDefEqProofs (maxSteps := 2000000) only [↓wP, wQ, wQ1, wQ2, wQ3, wR, boxE, partsOf, ↓reduceIte, Nat.reduceEqDiff, Nat.reduceAdd, Nat.reduceSub, Nat.reduceLeDiff, Nat.reduceLT, Nat.reduceMul, reduceCtorEq, Int.reduceBNe, Int.reduceBEq, Int.reduceLT, Int.reduceLE, Int.reduceGT, f11, y0, y1, y2, h12, Nat.mul_one, ← hσa, ← hσb, b2]
  obtain ⟨tid, htid⟩ : ∃ t, t = 1 + BIG := ⟨_, rfl⟩
  rw [← htid] at b2 ⊢
  refine WC_for (lst q).length 0 (fun (j : Nat) env σ n => env 5 = .ptr tid 2 0 0 ∧ env 25 = slV 1 (slV 2 hitV) q ∧ tid < n ∧ ∃ v H, σ tid = some (.row 2 [.agg [.int .i64 K, v]]) ∧ Vw σ v H (fun i => i < n ∧ i ≠ tid) ∧ H.length ≤ 17)
    hlo (by decide) (by decide) (fun _ _ => rfl) (fun _ _ _ => rfl) ?_ ?_ _ _ _ rfl rfl ?_
  · intro j env σ n hj h1 h2 ⟨g1, g2, g3, v, H, c1, c2, c3⟩
    simp only [vl_tmp] at h2
    have hx : (lst q)[j]? = some (lst q)[j] := List.getElem?_eq_getElem hj
    have hr := hli _ (List.getElem_mem hj)
    generalize (lst q)[j] = r at *
    by_cases h8 : (j : Int) = 10
    · have h8' : ((j : Int) == 10) = true := by simpa using h8
      simp +contextual -implicitDefEqProofs (maxSteps := 2000000) only [↓wP, wQ, wQ1, wQ2, wQ3, wR, boxE, partsOf, ↓reduceIte, Nat.reduceEqDiff, Nat.reduceAdd, Nat.reduceSub, Nat.reduceLeDiff, Nat.reduceLT, Nat.reduceMul, reduceCtorEq, Int.reduceBNe, Int.reduceBEq, Int.reduceLT, Int.reduceLE, Int.reduceGT, h1, h2, g1, g2, hx, h8']
    · have h8' : ((j : Int) == 10) = false := by simpa using h8
      have h12r := fun σ n lk => f12 r 40 (by decide) (by omega) true σ n lk
      simp only [show ((40 : Nat) : Int) = 40 from rfl] at h12r
      obtain ⟨R, hR⟩ : ∃ R, R = (lst r).take 40 := ⟨_, rfl⟩
      have hRl : R.length ≤ 40 := by rw [hR, List.length_take]; omega
      rw [← hR] at h12r
      have hlen := c2.len
      -- the row, and what was
      obtain ⟨σ1, hσ1⟩ : ∃ s, s = upd σ n (some (.row 2 (hs R))) := ⟨_, rfl⟩
      have o1 : ∀ i, i < n → σ1 i = σ i := fun i hi => by rw [hσ1, upd_ne (by omega)]
      have d2 : Vw σ1 v H (fun i => i < n ∧ i ≠ tid) := c2.loc (fun i hi => o1 i hi.1) (fun _ h => h)
      have h12v := f12r (σ := σ1) (v := v) (l := H) H.length d2.ht.hf (by omega) (by omega) true (n + 1) 0
      rw [List.take_length] at h12v
      obtain ⟨σ2, hσ2⟩ : ∃ s, s = upd σ1 (n + 1) (some (.row 2 (hs H))) := ⟨_, rfl⟩
      rw [← hσ2] at h12v
      have o2 : ∀ i, i < n → σ2 i = σ i := fun i hi => by rw [hσ2, upd_ne (by omega)]; exact o1 i hi
      have d3 : Vw σ2 v H (fun i => i < n ∧ i ≠ tid) := c2.loc (fun i hi => o2 i hi.1) (fun _ h => h)
      have k1 : σ1 tid = some (.row 2 [.agg [.int .i64 K, v]]) := by rw [o1 _ g3]; exact c1
      have k2 : σ2 tid = some (.row 2 [.agg [.int .i64 K, v]]) := by rw [o2 _ g3]; exact c1
      have f21 := f21r K d3.ht (by omega) true (n + 2) 0
      have f22 := f22r K d3.ht (by omega) true (n + 2) 0
      have f23 := f23r K d3.ht (by omega) true (n + 2) 0
      -- the last one
      obtain ⟨σ3, hσ3⟩ : ∃ s, s = upd (upd σ2 (n + 2) (some (.row 2 [.agg [.int .u64 0, .int .u64 0]]))) (n + 2) (some (.row 2 [lastV K H])) := ⟨_, rfl⟩
      have o3 : ∀ i, i < n + 2 → σ3 i = σ2 i := fun i hi => by rw [hσ3, upd_ne (by omega), upd_ne (by omega)]
      have e3 : σ3 (n + 2) = some (.row 2 [lastV K H]) := by rw [hσ3, upd_self]
      have k3 : σ3 tid = some (.row 2 [.agg [.int .i64 K, v]]) := by rw [o3 _ (by omega)]; exact k2
      have d4 : Vw σ3 v H (fun i => i < n ∧ i ≠ tid) := d3.loc (fun i hi => o3 i (by omega)) (fun _ h => h)
      have r3 : σ3 n = some (.row 2 (hs R)) := by rw [o3 _ (by omega), hσ2, upd_ne (by omega), hσ1, upd_self]
      have w3 : σ3 (n + 1) = some (.row 2 (hs H)) := by rw [o3 _ (by omega), hσ2, upd_self]
      have f20 := f20 (σ := σ3) (v := v) (w := .ref n 0 R.length 2) (t := H) (l := R) K (by obtain ⟨o1, a1, a2⟩ := d4.ht; exact ⟨o1, a1, a2 8⟩) (Hf.row r3 rfl) (by omega) (by omega) true (n + 3) 0
      by_cases hT : TopOk K H
      · obtain ⟨T1, T2, T3, T4⟩ := id hT
        obtain ⟨kn, rfl⟩ : ∃ kn : Nat, K = (kn : Int) := ⟨K.toNat, by omega⟩
        have q1 : topE (kn : Int) H = 0 := if_pos hT
        have q3 : decide (TopOk (kn : Int) H) = true := decide_eq_true hT
        have q5 : offE (kn : Int) H R = 0 := by unfold offE; rw [if_pos hT, if_neg (by omega)]
        have q6 : offV (kn : Int) H R = fst' kn (H ++ R) := by unfold offV; rw [q5, if_pos rfl]; rfl
        have q7 : offK (kn : Int) H R = kn := by unfold offK; rw [q5, if_pos rfl]
        obtain ⟨F, hF⟩ : ∃ F, F = fst' kn (H ++ R) := ⟨_, rfl⟩
        rw [q5, q6, q7, ← hF] at f20
        rw [q1] at f22
        rw [q3] at f21
        obtain ⟨w, hw⟩ : ∃ w, w = hVal (n + 3) F := ⟨_, rfl⟩
        obtain ⟨σ4, hσ4⟩ : ∃ s, s = hSto σ3 (n + 3) F := ⟨_, rfl⟩
        obtain ⟨n4, hn4⟩ : ∃ m, m = hN (n + 3) F := ⟨_, rfl⟩
        rw [← hw, ← hσ4, ← hn4] at f20
        have n4a : n + 3 ≤ n4 := by rw [hn4]; exact hN_le _ _
        have o4 : ∀ i, i < n + 3 → σ4 i = σ3 i := fun i hi => by rw [hσ4, hSto_ne (by omega)]
        obtain ⟨σ5, hσ5⟩ : ∃ s, s = upd (upd σ4 n4 (some (.row 2 [.agg [.int .i64 0, .nilS]]))) n4 (some (.row 2 [.agg [.int .i64 (kn : Int), w]])) := ⟨_, rfl⟩
        have o5 : ∀ i, i < n4 → σ5 i = σ4 i := fun i hi => by rw [hσ5, upd_ne (by omega), upd_ne (by omega)]
        have e5 : σ5 n4 = some (.row 2 [.agg [.int .i64 (kn : Int), w]]) := by rw [hσ5, upd_self]
        obtain ⟨x0, hx0⟩ := lastV_hit (kn : Int) H
        rw [hx0] at hσ3 e3 f23
        have k5 : σ5 tid = some (.row 2 [.agg [.int .i64 (kn : Int), v]]) := by rw [o5 _ (by omega), o4 _ (by omega)]; exact k3
        have e53 : σ5 (n + 2) = some (.row 2 [.agg [.int .u64 x0.id, .int .u64 x0.d]]) := by rw [o5 _ (by omega), o4 _ (by omega)]; exact e3
        have hK0 : (((H.length : Nat) : Int) == (kn : Int)) = decide ((H.length : Int) = (kn : Int)) := by
          by_cases h : (H.length : Int) = (kn : Int) <;> simp [h]
        have hw1 : w.one = true := by rw [hw]; unfold hVal; split <;> rfl
        simp +contextual -implicitDefEqProofs (maxSteps := 2000000) only [↓wP, wQ, wQ1, wQ2, wQ3, wR, boxE, partsOf, ↓reduceIte, Nat.reduceEqDiff, Nat.reduceAdd, Nat.reduceSub, Nat.reduceLeDiff, Nat.reduceLT, Nat.reduceMul, reduceCtorEq, Int.reduceBNe, Int.reduceBEq, Int.reduceLT, Int.reduceLE, Int.reduceGT, h1, h2, g1, g2, hx, h8', h12r, ← hσ1, k1, hlen, h12v, ← hσ2, k2, f21, f22, f23, ← hσ3, k3, e3, f20, ← hσ5, k5, e53, hT, true_and, hw1, hK0]
        have wk : IntKind.i64.wrap ((kn : Int) - 1) = ((kn - 1 : Nat) : Int) := by rw [wrap_i64] <;> omega
        have d5 : Vw σ5 v H (fun i => i < n ∧ i ≠ tid) := d4.loc (fun i hi => by rw [o5 _ (by omega), o4 _ (by omega)]) (fun _ h => h)
        have hP : (H.length : Int) = (kn : Int) → ∃ P, iaddrE 2 v (.int .i64 ((kn - 1 : Nat) : Int)) = some P ∧ ∀ m, loadE true 2 P σ5 m = some (.agg [.int .u64 x0.id, .int .u64 x0.d], σ5, m) := by
          intro hf
          have hlt : kn - 1 < H.length := by omega
          have hxx : (hs H)[kn - 1]? = some (.agg [.int .u64 x0.id, .int .u64 x0.d]) := by
            rw [← hx0]
            unfold lastV
            rw [if_pos ⟨hT, hf⟩, List.getLast?_eq_getElem?]
            have e1 : H.length - 1 = kn - 1 := by omega
            rw [e1, List.getElem?_eq_getElem hlt, hs_get hlt]; rfl
          rcases d5 with ⟨oH, hoH, rfl⟩ | ⟨i, rfl, hi, -⟩
          · cases oH with
            | none => simp [lst] at hoH; subst hoH; simp at hlt
            | some H' =>
              simp only [lst_some] at hoH; subst hoH
              have hn0 : (0 : Int) ≤ ((kn - 1 : Nat) : Int) := by omega
              refine ⟨.box [.int .u64 x0.id, .int .u64 x0.d], ?_, fun m => rfl⟩
              have hxx' : (H'.map hitV)[kn - 1]? = some (.agg [.int .u64 x0.id, .int .u64 x0.d]) := hxx
              simp [slV, iaddrE, hxx', V.cells]
          · refine ⟨.ptr i 2 (kn - 1) 0, ?_, ?_⟩
            · simp [iaddrE, hlt]
            · intro m; simp [loadE, rowO, hi, hxx, loadC, V.cells, r1]
        have hxe : eqCells [.int, .int] [.int .u64 x0.id, .int .u64 x0.d] [.int .u64 x0.id, .int .u64 x0.d] = some true := by simp [eqCells, eqCell]
        have hz0 : (H.length : Int) ≠ (kn : Int) → x0 = ⟨0, 0⟩ := by
          intro hf
          have : lastV (kn : Int) H = hitV ⟨0, 0⟩ := if_neg fun h => hf h.2
          rw [this] at hx0
          simp only [hitV, V.agg.injEq, List.cons.injEq, V.int.injEq, true_and, and_true] at hx0
          cases x0; simp only at hx0; rw [← hx0.1, ← hx0.2]
        by_cases hf : (H.length : Int) = (kn : Int)
        obtain ⟨P, p1, p2⟩ := hP hf
        simp +contextual -implicitDefEqProofs (maxSteps := 2000000) only [↓wP, wQ, wQ1, wQ2, wQ3, wR, boxE, partsOf, ↓reduceIte, Nat.reduceEqDiff, Nat.reduceAdd, Nat.reduceSub, Nat.reduceLeDiff, Nat.reduceLT, Nat.reduceMul, reduceCtorEq, Int.reduceBNe, Int.reduceBEq, Int.reduceLT, Int.reduceLE, Int.reduceGT, hf, wk, p1, p2, hxe, e53]
        rotate_left
        have hx00 := hz0 hf
        subst hx00
        simp +contextual -implicitDefEqProofs (maxSteps := 2000000) only [↓wP, wQ, wQ1, wQ2, wQ3, wR, boxE, partsOf, ↓reduceIte, Nat.reduceEqDiff, Nat.reduceAdd, Nat.reduceSub, Nat.reduceLeDiff, Nat.reduceLT, Nat.reduceMul, reduceCtorEq, Int.reduceBNe, Int.reduceBEq, Int.reduceLT, Int.reduceLE, Int.reduceGT, hf, wk, hxe, e53]
        all_goals
          obtain ⟨n5, hn5⟩ : ∃ m, m = n4 + 1 := ⟨_, rfl⟩
          have c12 := fun fs n lk => f12r (σ := σ5) (v := v) (l := H) H.length d5.ht.hf (by omega) (by omega) fs n lk
          simp only [List.take_length] at c12
          have u1 : (n5 + 1 ≤ n5 + BIG) = True := by simp; omega
          obtain ⟨σ6, hσ6⟩ : ∃ s, s = merge σ5 (upd σ5 n5 (some (Ob.row 2 (hs H)))) n5 := ⟨_, rfl⟩
          have o6 : ∀ i, i < n5 → σ6 i = σ5 i := fun i hi => by rw [hσ6, merge_low _ _ _ hi]
          have r6 : σ6 n = some (.row 2 (hs R)) := by rw [o6 _ (by omega), o5 _ (by omega), o4 _ (by omega)]; exact r3
          have h6 : σ6 n5 = some (.row 2 (hs H)) := by rw [hσ6, merge_in _ _ _ (Nat.le_refl _) (by omega)]; simp [upd]
          have m1 : (R.length ≤ (hs R).length) = True := by simp [hs_len]
          have m2 : (hs R).take R.length = hs R := List.take_of_length_le (by rw [hs_len]; omega)
          have m3 : (H.length ≤ (hs H).length) = True := by simp [hs_len]
          have m4 : (hs H).take H.length = hs H := List.take_of_length_le (by rw [hs_len]; omega)
          have m5 : ((H.length + R.length) * 16 ≤ LIM) = True := lim_hits (by omega)
          have m6 : hs H ++ hs R = hs (H ++ R) := hs_app _ _
          have m7 : (hs R).length = R.length := hs_len _
          have m8 : (hs H).length = H.length := hs_len _
          have u2 : (n5 + (BIG * 1 + 1) ≤ n5 + (BIG * 1 + BIG)) = True := by simp; omega
          obtain ⟨σ7, hσ7⟩ : ∃ s, s = mergeL σ6 (upd (upd σ6 n5 none) (n5 + BIG * 1) (some (Ob.row 2 (hs (H ++ R))))) n5 0 (n5 + (BIG * 1 + BIG)) [] := ⟨_, rfl⟩
          have o7 : ∀ i, i < n5 → σ7 i = σ5 i := fun i hi => by
            rw [hσ7]
            unfold mergeL
            rw [if_neg (by omega)]
            exact o6 i hi
          have h7 : σ7 (n5 + BIG * 1) = some (.row 2 (hs (H ++ R))) := by
            rw [hσ7]
            unfold mergeL
            rw [if_pos ⟨by omega, by omega, by rintro ⟨q, hq, -⟩; simp at hq⟩]
            simp [upd]
          have y7 : hide σ7 n5 (n5 + BIG * 2) [0, 1] tid = σ7 tid := hide_low _ _ _ _ (by omega) (by omega)
          have k7 : σ7 tid = some (.row 2 [.agg [.int .i64 (kn : Int), v]]) := by rw [o7 _ (by omega)]; exact k5
          have e7 : σ7 n4 = some (.row 2 [.agg [.int .i64 (kn : Int), w]]) := by rw [o7 _ (by omega)]; exact e5
          have c15 := f15 (σ := σ7) (id := n5 + BIG * 1) (l := H ++ R) kn (H.length + R.length) h7 (by simp) (by omega) (by omega) (n5 + BIG * 2)
          obtain ⟨σ8, hσ8⟩ : ∃ s, s = dr σ7 (n5 + BIG * 1) (H ++ R) := ⟨_, rfl⟩
          rw [← hσ8] at c15
          have o8 : ∀ i, i < n5 → σ8 i = σ5 i := fun i hi => by rw [hσ8, dr_at _ _ _ (by omega)]; exact o7 i hi
          have k8 : σ8 tid = some (.row 2 [.agg [.int .i64 (kn : Int), v]]) := by rw [o8 _ (by omega)]; exact k5
          have e8 : σ8 n4 = some (.row 2 [.agg [.int .i64 (kn : Int), w]]) := by rw [o8 _ (by omega)]; exact e5
          obtain ⟨oW, hoW⟩ : ∃ o, o = refF kn (H ++ R) := ⟨_, rfl⟩
          have lW : lst oW = F := by rw [hoW, lst_refF, hF]
          rw [← hoW] at c15
          obtain ⟨n8, hn8⟩ : ∃ m, m = n5 + BIG * 2 := ⟨_, rfl⟩
          rw [← hn8] at c15 y7
          have hn8b : n4 + (1 + BIG * 2) = n8 := by omega
          have hFl : F.length ≤ 16 := by rw [hF, fst_len]; omega
          have wF : Hf σ8 w F := by
            by_cases hF0 : F = []
            · rw [hw, hF0]
              exact Hf.tree σ8 none
            · rw [hw]
              unfold hVal
              rw [if_neg hF0]
              refine Hf.row ?_ rfl
              rw [o8 _ (by rw [hn5, hn4]; unfold hN; rw [if_neg hF0]; omega), o5 _ (by rw [hn4]; unfold hN; rw [if_neg hF0]; omega), hσ4, hSto_self hF0]
          have d8 : Vw σ8 v H (fun i => i < n ∧ i ≠ tid) := d5.loc (fun i hi => o8 i (by omega)) (fun _ h => h)
          have w8 : σ8 (n + 1) = some (.row 2 (hs H)) := by rw [o8 _ (by omega), o5 _ (by omega), o4 _ (by omega)]; exact w3
          have ca := f14 (σ := σ8) wF (Hf.tree σ8 oW) (by omega) true n8 0
          have cb := f14 (σ := σ8) d8.ht.hf (Hf.row w8 rfl) (by omega) true n8 0
          rw [lW] at ca
          simp only [decide_true] at ca cb
          have kk0 : ((kn : Int) != (kn : Int)) = false := by simp
          simp +contextual -implicitDefEqProofs (maxSteps := 2000000) only [↓wP, wQ, wQ1, wQ2, wQ3, wR, boxE, partsOf, ↓reduceIte, Nat.reduceEqDiff, Nat.reduceAdd, Nat.reduceSub, Nat.reduceLeDiff, Nat.reduceLT, Nat.reduceMul, reduceCtorEq, Int.reduceBNe, Int.reduceBEq, Int.reduceLT, Int.reduceLE, Int.reduceGT, g1, ← hn5, k5, hlen, c12, u1, ← hσ6, r6, h6, m1, m2, m5, m6, m7, m8, true_or, u2, ← hσ7, y7, k7, e7, ← hn8, hn8b, c15, k8, e8, kk0, ca, cb]
          have lw : lenE w = some (.int .i64 (F.length : Int)) := by
            rw [hw]; unfold hVal; split
            · rename_i h; rw [h]; rfl
            · rfl
          simp +contextual -implicitDefEqProofs (maxSteps := 2000000) only [↓wP, wQ, wQ1, wQ2, wQ3, wR, boxE, partsOf, ↓reduceIte, Nat.reduceEqDiff, Nat.reduceAdd, Nat.reduceSub, Nat.reduceLeDiff, Nat.reduceLT, Nat.reduceMul, reduceCtorEq, Int.reduceBNe, Int.reduceBEq, Int.reduceLT, Int.reduceLE, Int.reduceGT, lw]
          refine WC_for F.length 0 (fun (i : Nat) env σ' n' => env 5 = .ptr tid 2 0 0 ∧ env 25 = slV 1 (slV 2 hitV) q ∧ env 26 = .int .i64 ((lst q).length : Int) ∧ env 27 = .int .i64 (j : Int) ∧ env 13 = .ptr n4 2 0 0 ∧ env 8 = .ref (n + 1) 0 H.length 2 ∧
            env 15 = slV 2 hitV oW ∧ n' = n8 ∧ (∀ i, i ≠ n + 3 → σ' i = σ8 i) ∧ (F ≠ [] → ∃ G : List Hit, G.length = F.length ∧ σ' (n + 3) = some (.row 2 (hs G)))) (by omega) (by decide) (by decide) (fun _ _ => rfl) (fun _ _ _ => rfl) ?_ ?_ _ _ _ rfl rfl ?_
          · intro i env' σ' n' hi h1' h2' ⟨i1, i2, i3, i4, i5, i6, i7, i8, i9, i10⟩
            simp only [vl_tmp] at h2'
            have hF0 : F ≠ [] := fun e => by rw [e] at hi; simp at hi
            obtain ⟨G, G1, G2⟩ := i10 hF0
            have n4b : n4 = n + 4 := by rw [hn4]; unfold hN; rw [if_neg hF0]
            have ww : w = .ref (n + 3) 0 F.length 2 := by rw [hw]; unfold hVal; rw [if_neg hF0]
            have e9 : σ' n4 = some (.row 2 [.agg [.int .i64 (kn : Int), .ref (n + 3) 0 F.length 2]]) := by rw [i9 _ (by omega), e8, ww]
            have xg := hs_get (l := G) (i := i) (by omega)
            simp +contextual -implicitDefEqProofs (maxSteps := 2000000) only [↓wP, wQ, wQ1, wQ2, wQ3, wR, boxE, partsOf, ↓reduceIte, Nat.reduceEqDiff, Nat.reduceAdd, Nat.reduceSub, Nat.reduceLeDiff, Nat.reduceLT, Nat.reduceMul, reduceCtorEq, Int.reduceBNe, Int.reduceBEq, Int.reduceLT, Int.reduceLE, Int.reduceGT, h1', h2', i1, i2, i3, i4, i5, i6, i7, e9, hi, G2, xg]
            exact ⟨i8, i9, fun _ => ⟨G.set i ⟨77, G[i].d⟩, by simpa using G1, by simp [hs, hitV, List.map_set]⟩⟩
          · intro env' σ' n' ⟨i1, i2, i3, i4, i5, i6, i7, i8, i9, i10⟩ h1' h2'
            have d9 : Vw σ' v H (fun i => i < n ∧ i ≠ tid) := d8.loc (fun i hi => i9 i (by omega)) (fun _ h => h)
            have w9 : σ' (n + 1) = some (.row 2 (hs H)) := by rw [i9 _ (by omega)]; exact w8
            have k9 : σ' tid = some (.row 2 [.agg [.int .i64 (kn : Int), v]]) := by rw [i9 _ (by omega)]; exact k8
            have cc := f14 (σ := σ') d9.ht.hf (Hf.row w9 rfl) (by omega) true n' 0
            simp only [decide_true] at cc
            have oneW : (slV 2 hitV oW).one = true := by cases oW <;> rfl
            simp +contextual -implicitDefEqProofs (maxSteps := 2000000) only [↓wP, wQ, wQ1, wQ2, wQ3, wR, boxE, partsOf, ↓reduceIte, Nat.reduceEqDiff, Nat.reduceAdd, Nat.reduceSub, Nat.reduceLeDiff, Nat.reduceLT, Nat.reduceMul, reduceCtorEq, Int.reduceBNe, Int.reduceBEq, Int.reduceLT, Int.reduceLE, Int.reduceGT, i1, i2, i3, i4, i6, i7, k9, cc, oneW]
            exact ⟨by omega, _, F, rfl, .inl ⟨oW, lW, rfl⟩, by omega⟩
          · simp +contextual -implicitDefEqProofs (maxSteps := 2000000) only [↓wP, wQ, wQ1, wQ2, wQ3, wR, boxE, partsOf, ↓reduceIte, Nat.reduceEqDiff, Nat.reduceAdd, Nat.reduceSub, Nat.reduceLeDiff, Nat.reduceLT, Nat.reduceMul, reduceCtorEq, Int.reduceBNe, Int.reduceBEq, Int.reduceLT, Int.reduceLE, Int.reduceGT, g1, g2, h1, h2]
            refine ⟨fun _ _ => trivial, fun hF0 => ⟨F, rfl, ?_⟩⟩
            rw [o8 _ (by rw [hn5, hn4]; unfold hN; rw [if_neg hF0]; omega), o5 _ (by rw [hn4]; unfold hN; rw [if_neg hF0]; omega), hσ4, hSto_self hF0]
      · have q1 : topE K H = 160 := if_neg hT
        have q2 : lastV K H = .agg [.int .u64 0, .int .u64 0] := if_neg fun h => hT h.1
        have q3 : decide (TopOk K H) = false := decide_eq_false hT
        have q4 : decide (TopOk K H ∧ (H.length : Int) = K) = false := decide_eq_false fun h => hT h.1
        have q5 : offE K H R = 160 := if_neg hT
        have q6 : offV K H R = [] := by unfold offV; rw [q5]; rfl
        have q7 : offK K H R = 0 := by unfold offK; rw [q5]; rfl
        have q8 : ∀ m, hVal m [] = .nilS := fun m => if_pos rfl
        have q9 : ∀ s m, hSto s m [] = s := fun s m => if_pos rfl
        have qa : ∀ m, hN m [] = m := fun m => if_pos rfl
        rw [q5, q6, q7, q8, q9, qa] at f20
        rw [q1] at f22
        rw [q2, q4] at f23
        rw [q3] at f21
        rw [q2] at hσ3 e3
        have z0 : (((0 : Nat) : Int) == 0) = true := rfl
        have hz0 : eqCells [.int, .int] [.int .u64 0, .int .u64 0] [.int .u64 0, .int .u64 0] = some true := rfl
        simp +contextual -implicitDefEqProofs (maxSteps := 2000000) only [↓wP, wQ, wQ1, wQ2, wQ3, wR, boxE, partsOf, ↓reduceIte, Nat.reduceEqDiff, Nat.reduceAdd, Nat.reduceSub, Nat.reduceLeDiff, Nat.reduceLT, Nat.reduceMul, reduceCtorEq, Int.reduceBNe, Int.reduceBEq, Int.reduceLT, Int.reduceLE, Int.reduceGT, h1, h2, g1, g2, hx, h8', h12r, ← hσ1, k1, hlen, h12v, ← hσ2, k2, f21, f22, f23, ← hσ3, k3, e3, f20, z0, hz0]
        rfl
  · intro env σ n h h1 h2
    simp +contextual -implicitDefEqProofs (maxSteps := 2000000) only [↓wP, wQ, wQ1, wQ2, wQ3, wR, boxE, partsOf, ↓reduceIte, Nat.reduceEqDiff, Nat.reduceAdd, Nat.reduceSub, Nat.reduceLeDiff, Nat.reduceLT, Nat.reduceMul, reduceCtorEq, Int.reduceBNe, Int.reduceBEq, Int.reduceLT, Int.reduceLE, Int.reduceGT]
  · simp +contextual -implicitDefEqProofs (maxSteps := 2000000) only [↓wP, wQ, wQ1, wQ2, wQ3, wR, boxE, partsOf, ↓reduceIte, Nat.reduceEqDiff, Nat.reduceAdd, Nat.reduceSub, Nat.reduceLeDiff, Nat.reduceLT, Nat.reduceMul, reduceCtorEq, Int.reduceBNe, Int.reduceBEq, Int.reduceLT, Int.reduceLE, Int.reduceGT]
    exact ⟨by omega, _, L0, rfl, .inr ⟨1, rfl, by rw [upd_ne (by omega)]; exact b1, by omega, by omega⟩, hL0l⟩
end Go.Q.S6
end

section
/- The table is the program's. -/
namespace Go.Q.S6
open Go.Proofs
def Has (f : Nat) (fn : Fn) : Prop := ∃ F, Try.prog.funcs[f]? = some F ∧ cFunc Try.prog (ownB T) F = some fn ∧ (F.name == "runtime.NumGoroutine") = false
theorem h3 : Has 3 g3 := ⟨Try.f3, Try.func3, by kernel_rfl, by kernel_rfl⟩
theorem h4 : Has 4 g4 := ⟨Try.f4, Try.func4, by kernel_rfl, by kernel_rfl⟩
theorem h5 : Has 5 g5 := ⟨Try.f5, Try.func5, by kernel_rfl, by kernel_rfl⟩
theorem h6 : Has 6 g6 := ⟨Try.f6, Try.func6, by kernel_rfl, by kernel_rfl⟩
theorem h7 : Has 7 g7 := ⟨Try.f7, Try.func7, by kernel_rfl, by kernel_rfl⟩
theorem h8 : Has 8 g8 := ⟨Try.f8, Try.func8, by kernel_rfl, by kernel_rfl⟩
theorem h9 : Has 9 g9 := ⟨Try.f9, Try.func9, by kernel_rfl, by kernel_rfl⟩
theorem h10 : Has 10 g10 := ⟨Try.f10, Try.func10, by kernel_rfl, by kernel_rfl⟩
theorem h11 : Has 11 g11 := ⟨Try.f11, Try.func11, by kernel_rfl, by kernel_rfl⟩
theorem h12 : Has 12 g12 := ⟨Try.f12, Try.func12, by kernel_rfl, by kernel_rfl⟩
theorem h13 : Has 13 g13 := ⟨Try.f13, Try.func13, by kernel_rfl, by kernel_rfl⟩
theorem h14 : Has 14 g14 := ⟨Try.f14, Try.func14, by kernel_rfl, by kernel_rfl⟩
theorem h15 : Has 15 g15 := ⟨Try.f15, Try.func15, by kernel_rfl, by kernel_rfl⟩
theorem h16 : Has 16 g16 := ⟨Try.f16, Try.func16, by kernel_rfl, by kernel_rfl⟩
theorem h17 : Has 17 g17 := ⟨Try.f17, Try.func17, by kernel_rfl, by kernel_rfl⟩
theorem h18 : Has 18 g18 := ⟨Try.f18, Try.func18, by kernel_rfl, by kernel_rfl⟩
theorem h19 : Has 19 g19 := ⟨Try.f19, Try.func19, by kernel_rfl, by kernel_rfl⟩
theorem h20 : Has 20 g20 := ⟨Try.f20, Try.func20, by kernel_rfl, by kernel_rfl⟩
theorem h21 : Has 21 g21 := ⟨Try.f21, Try.func21, by kernel_rfl, by kernel_rfl⟩
theorem h22 : Has 22 g22 := ⟨Try.f22, Try.func22, by kernel_rfl, by kernel_rfl⟩
theorem h23 : Has 23 g23 := ⟨Try.f23, Try.func23, by kernel_rfl, by kernel_rfl⟩
theorem h24 : Has 24 g24 := ⟨Try.f24, Try.func24, by kernel_rfl, by kernel_rfl⟩
theorem h25 : Has 25 g25 := ⟨Try.f25, Try.func25, by kernel_rfl, by kernel_rfl⟩
theorem h26 : Has 26 g26 := ⟨Try.f26, Try.func26, by kernel_rfl, by kernel_rfl⟩
theorem h27 : Has 27 g27 := ⟨Try.f27, Try.func27, by kernel_rfl, by kernel_rfl⟩
theorem h28 : Has 28 g28 := ⟨Try.f28, Try.func28, by kernel_rfl, by kernel_rfl⟩
theorem h29 : Has 29 g29 := ⟨Try.f29, Try.func29, by kernel_rfl, by kernel_rfl⟩
theorem h30 : Has 30 g30 := ⟨Try.f30, Try.func30, by kernel_rfl, by kernel_rfl⟩
theorem h31 : Has 31 g31 := ⟨Try.f31, Try.func31, by kernel_rfl, by kernel_rfl⟩
theorem h32 : Has 32 g32 := ⟨Try.f32, Try.func32, by kernel_rfl, by kernel_rfl⟩
theorem h33 : Has 33 g33 := ⟨Try.f33, Try.func33, by kernel_rfl, by kernel_rfl⟩
theorem h34 : Has 34 g34 := ⟨Try.f34, Try.func34, by kernel_rfl, by kernel_rfl⟩
theorem h35 : Has 35 g35 := ⟨Try.f35, Try.func35, by kernel_rfl, by kernel_rfl⟩
theorem h36 : Has 36 g36 := ⟨Try.f36, Try.func36, by kernel_rfl, by kernel_rfl⟩
theorem h37 : Has 37 g37 := ⟨Try.f37, Try.func37, by kernel_rfl, by kernel_rfl⟩
theorem h38 : Has 38 g38 := ⟨Try.f38, Try.func38, by kernel_rfl, by kernel_rfl⟩
theorem h39 : Has 39 g39 := ⟨Try.f39, Try.func39, by kernel_rfl, by kernel_rfl⟩
theorem h40 : Has 40 g40 := ⟨Try.f40, Try.func40, by kernel_rfl, by kernel_rfl⟩
theorem h41 : Has 41 g41 := ⟨Try.f41, Try.func41, by kernel_rfl, by kernel_rfl⟩
theorem h42 : Has 42 g42 := ⟨Try.f42, Try.func42, by kernel_rfl, by kernel_rfl⟩
theorem h43 : Has 43 g43 := ⟨Try.f43, Try.func43, by kernel_rfl, by kernel_rfl⟩
theorem h44 : Has 44 g44 := ⟨Try.f44, Try.func44, by kernel_rfl, by kernel_rfl⟩
theorem h45 : Has 45 g45 := ⟨Try.f45, Try.func45, by kernel_rfl, by kernel_rfl⟩
theorem h46 : Has 46 g46 := ⟨Try.f46, Try.func46, by kernel_rfl, by kernel_rfl⟩
theorem h47 : Has 47 g47 := ⟨Try.f47, Try.func47, by kernel_rfl, by kernel_rfl⟩
theorem h48 : Has 48 g48 := ⟨Try.f48, Try.func48, by kernel_rfl, by kernel_rfl⟩
theorem h49 : Has 49 g49 := ⟨Try.f49, Try.func49, by kernel_rfl, by kernel_rfl⟩
theorem h50 : Has 50 g50 := ⟨Try.f50, Try.func50, by kernel_rfl, by kernel_rfl⟩
theorem h51 : Has 51 g51 := ⟨Try.f51, Try.func51, by kernel_rfl, by kernel_rfl⟩
theorem h52 : Has 52 g52 := ⟨Try.f52, Try.func52, by kernel_rfl, by kernel_rfl⟩
theorem h53 : Has 53 g53 := ⟨Try.f53, Try.func53, by kernel_rfl, by kernel_rfl⟩
theorem h54 : Has 54 g54 := ⟨Try.f54, Try.func54, by kernel_rfl, by kernel_rfl⟩
theorem h55 : Has 55 g55 := ⟨Try.f55, Try.func55, by kernel_rfl, by kernel_rfl⟩
theorem h56 : Has 56 g56 := ⟨Try.f56, Try.func56, by kernel_rfl, by kernel_rfl⟩
theorem h57 : Has 57 g57 := ⟨Try.f57, Try.func57, by kernel_rfl, by kernel_rfl⟩
theorem h58 : Has 58 g58 := ⟨Try.f58, Try.func58, by kernel_rfl, by kernel_rfl⟩
theorem h59 : Has 59 g59 := ⟨Try.f59, Try.func59, by kernel_rfl, by kernel_rfl⟩
theorem h76 : Has 76 g76 := ⟨Try.f76, Try.func76, by kernel_rfl, by kernel_rfl⟩
theorem h77 : Has 77 g77 := ⟨Try.f77, Try.func77, by kernel_rfl, by kernel_rfl⟩
theorem h78 : Has 78 g78 := ⟨Try.f78, Try.func78, by kernel_rfl, by kernel_rfl⟩
theorem h79 : Has 79 g79 := ⟨Try.f79, Try.func79, by kernel_rfl, by kernel_rfl⟩
theorem tabOf : TabOf Try.prog T := by
  intro f fn h
  simp only [T] at h
  unfold fnOf at h
  split at h
  all_goals first | (cases h; done) | skip
  all_goals (simp only [Option.some.injEq] at h; subst h)
  · exact h3
  · exact h4
  · exact h5
  · exact h6
  · exact h7
  · exact h8
  · exact h9
  · exact h10
  · exact h11
  · exact h12
  · exact h13
  · exact h14
  · exact h15
  · exact h16
  · exact h17
  · exact h18
  · exact h19
  · exact h20
  · exact h21
  · exact h22
  · exact h23
  · exact h24
  · exact h25
  · exact h26
  · exact h27
  · exact h28
  · exact h29
  · exact h30
  · exact h31
  · exact h32
  · exact h33
  · exact h34
  · exact h35
  · exact h36
  · exact h37
  · exact h38
  · exact h39
  · exact h40
  · exact h41
  · exact h42
  · exact h43
  · exact h44
  · exact h45
  · exact h46
  · exact h47
  · exact h48
  · exact h49
  · exact h50
  · exact h51
  · exact h52
  · exact h53
  · exact h54
  · exact h55
  · exact h56
  · exact h57
  · exact h58
  · exact h59
  · exact h76
  · exact h77
  · exact h78
  · exact h79
theorem mixed : Try.prog.follows .mixedOrders = true := by kernel_rfl
end Go.Q.S6
end
