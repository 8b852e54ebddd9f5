/- The document's order. -/
import Derived.Test.YtadnjdjahalpbaaSB
import Derived.Test.YtadnjdjahalpbaaProg
import Derived.KernelRfl
section
set_option linter.unusedSimpArgs false
set_option linter.unusedVariables false
namespace Go.Q.S6
open Go.Q Go.Sort

def oH (l : List Hit) : Option (List V) := if l = [] then none else some (hs l)
def optH (l : List Hit) : Option (List Hit) := if l = [] then none else some l
theorem lst_optH (l : List Hit) : lst (optH l) = l := by
  unfold optH; split
  · rename_i h; rw [h]; rfl
  · rfl
theorem lst_oH (l : List Hit) : lst (oH l) = hs l := by
  unfold oH; split
  · rename_i h; rw [h]; rfl
  · rfl
theorem oH_slV (l : List Hit) : slV 2 _root_.id (oH l) = slV 2 hitV (optH l) := by
  unfold oH optH; split <;> simp [slV, hs]
theorem plLen {σ : Sto} {m n : Nat} {v : V} {l : List Hit} (h : Pl σ m n 2 v (oH l)) : lenE v = some (.int .i64 (l.length : Int)) := by
  unfold oH at h
  split at h
  · rename_i e; rw [e]; simp only [Pl] at h; rw [h, lenE_nil]; rfl
  · obtain ⟨i, rfl, -⟩ := h
    rw [lenE_ref, hs_len]
theorem plRefs {σ : Sto} {m n : Nat} {v : V} {l : List Hit} (h : Pl σ m n 2 v (oH l)) (hl : l ≠ []) : ∃ i, v = .ref i 0 l.length 2 ∧ σ i = some (.row 2 (hs l)) ∧ m ≤ i ∧ i < n := by
  unfold oH at h
  rw [if_neg hl] at h
  obtain ⟨i, rfl, h1⟩ := h
  exact ⟨i, by rw [hs_len], h1⟩
theorem plOf {σ : Sto} {m n i : Nat} {l : List Hit} (hl : l ≠ []) (h1 : σ i = some (.row 2 (hs l))) (h2 : m ≤ i) (h3 : i < n) : Pl σ m n 2 (.ref i 0 l.length 2) (oH l) := by
  unfold oH
  rw [if_neg hl]
  exact ⟨i, by rw [hs_len], h1, h2, h3⟩
theorem tr_hs (k : Nat) (l : List Hit) : (∀ x ∈ hs l, Tr (k + 2) x = true) ∧ ∀ x ∈ hs l, ∀ c ∈ x.cells, Tr (k + 1) c = true := by
  constructor
  · intro x hx
    obtain ⟨y, -, rfl⟩ := List.mem_map.1 hx
    rfl
  · intro x hx c hc
    obtain ⟨y, -, rfl⟩ := List.mem_map.1 hx
    simp only [hitV, V.cells, List.mem_cons, List.not_mem_nil, or_false] at hc
    rcases hc with rfl | rfl <;> rfl
theorem plHf {σ : Sto} {m n : Nat} {v : V} {l : List Hit} (h : Pl σ m n 2 v (oH l)) : frz σ 12 v = some (slV 2 hitV (optH l)) := by
  rw [Go.Q.Pl.frz h (by rw [lst_oH]; exact (tr_hs 9 l).1) (by rw [lst_oH]; exact (tr_hs 10 l).2), oH_slV]

def mv (s : List Hit) (h : Hit) (k : Nat) : List Hit := s.take k ++ h :: s.drop k
theorem mv_len (s : List Hit) (h : Hit) (k : Nat) : (mv s h k).length = s.length + 1 := by simp [mv]; omega
theorem mv_end (s : List Hit) (h : Hit) : mv s h s.length = s ++ [h] := by simp [mv]
theorem mv_step (s : List Hit) (h : Hit) (m : Nat) (hm : m < s.length) : ((mv s h (m + 1)).set (m + 1) s[m]).set m h = mv s h m := by
  have e1 : s.take (m + 1) = s.take m ++ [s[m]] := (List.take_append_getElem hm).symm
  have e2 : s.drop m = s[m] :: s.drop (m + 1) := List.drop_eq_getElem_cons hm
  unfold mv
  rw [e1, e2]
  have hl : (s.take m).length = m := by rw [List.length_take]; omega
  generalize s[m] = x at *
  generalize s.drop (m + 1) = b at *
  generalize s.take m = a at *
  subst hl
  simp [List.set_append]
theorem mv_get0 (s : List Hit) (h : Hit) (k : Nat) (hk : k ≤ s.length) : (hs (mv s h k))[k]? = some (.agg [.int .u64 h.id, .int .u64 h.d]) := by
  have : (mv s h k)[k]? = some h := by
    unfold mv
    rw [List.getElem?_append_right (by rw [List.length_take]; omega), List.length_take, Nat.min_eq_left hk, Nat.sub_self]
    rfl
  simp [hs, this, hitV]
theorem mv_get1 (s : List Hit) (h : Hit) (m : Nat) (hm : m < s.length) : (hs (mv s h (m + 1)))[m]? = some (.agg [.int .u64 s[m].id, .int .u64 s[m].d]) := by
  have : (mv s h (m + 1))[m]? = some s[m] := by
    unfold mv
    rw [List.getElem?_append_left (by rw [List.length_take]; omega), List.getElem?_take_of_lt (by omega), List.getElem?_eq_getElem hm]
  simp [hs, this, hitV]
theorem hs_set (l : List Hit) (i : Nat) (x : Hit) : (hs l).set i (.agg [.int .u64 x.id, .int .u64 x.d]) = hs (l.set i x) := by simp [hs, List.map_set, hitV]
theorem hs_set_at {l : List Hit} {i j : Nat} {x : Hit} (hj : j < l.length) : ∃ u w : Int, ((hs l).set i (.agg [.int .u64 x.id, .int .u64 x.d]))[j]? = some (.agg [.int .u64 u, .int .u64 w]) := by
  rw [hs_set, hs_get (by simpa using hj)]
  exact ⟨_, _, rfl⟩

theorem r24 (o : Option (List Hit)) (hl : (lst o).length ≤ 4000000) : res T 24 [slV 2 hitV o] = some (slV 2 hitV (optH (srt (lst o)))) := by
  refine run_res (run_pure (fn := g24) rfl rfl (by decide) ?_)
  simp only [g24, b24]
  simp +contextual -implicitDefEqProofs (maxSteps := 2000000) only [↓wP, wQ, wQ1, wQ2, wQ3, wR, boxE, partsOf, ↓reduceIte, Nat.reduceEqDiff, Nat.reduceAdd, Nat.reduceSub, Nat.reduceLeDiff, Nat.reduceLT, Nat.reduceMul, reduceCtorEq, Int.reduceBNe, Int.reduceBEq, Int.reduceLT, Int.reduceLE, Int.reduceGT]
  refine WC_for (lst o).length 0 (fun (j : Nat) env σ n => env 8 = slV 2 hitV o ∧ Pl σ 0 n 2 (env 3) (oH (srt ((lst o).take j)))) (by omega) (by decide) (by decide) (fun _ _ => rfl) (fun _ _ _ => rfl) ?_ ?_ _ _ _ rfl rfl ?_
  · intro j env σ n hj h1 h2 ⟨h3, h4⟩
    simp only [vl_tmp] at h2
    have hx : (lst o)[j]? = some (lst o)[j] := List.getElem?_eq_getElem hj
    have ht : srt ((lst o).take (j + 1)) = ins (lst o)[j] (srt ((lst o).take j)) := by rw [← List.take_append_getElem hj, srt_snoc]
    have hsl : (srt ((lst o).take j)).length = j := by rw [srt_len, List.length_take]; omega
    generalize (lst o)[j] = h at *
    generalize srt ((lst o).take j) = s at *
    generalize hv3 : env 3 = v3 at h4
    obtain ⟨σ1, hσ1⟩ : ∃ σ1, σ1 = upd (upd σ n (some (.row 2 [.agg [.int .u64 0, .int .u64 0]]))) n (some (.row 2 [.agg [.int .u64 h.id, .int .u64 h.d]])) := ⟨_, rfl⟩
    have sn : σ1 n = some (.row 2 [.agg [.int .u64 h.id, .int .u64 h.d]]) := by rw [hσ1]; simp [upd]
    have so : ∀ i, 0 ≤ i → i < n → σ1 i = σ i := fun i _ hi => by
      have : i ≠ n := by omega
      rw [hσ1]; simp [upd, this]
    have hp1 : Pl σ1 0 n 2 v3 (oH s) := h4.loc so (Nat.le_refl _)
    have hlen := plLen hp1
    simp +contextual -implicitDefEqProofs (maxSteps := 2000000) only [↓wP, wQ, wQ1, wQ2, wQ3, wR, boxE, partsOf, ↓reduceIte, Nat.reduceEqDiff, Nat.reduceAdd, Nat.reduceSub, Nat.reduceLeDiff, Nat.reduceLT, Nat.reduceMul, reduceCtorEq, Int.reduceBNe, Int.reduceBEq, Int.reduceLT, Int.reduceLE, Int.reduceGT, h1, h2, h3, hv3, hx, hitV_eq, ← hσ1]
    refine WC_loopE 2 0 (fun (at' : Nat) env σ' n' => σ' = σ1 ∧ n' = n + 1 ∧ env 8 = slV 2 hitV o ∧ env 9 = .int .i64 ((lst o).length : Int) ∧ env 10 = .int .i64 (j : Int) ∧ env 3 = v3 ∧ env 5 = .ptr n 2 0 0 ∧ env 6 = .int .i64 (at' : Int) ∧ at' ≤ pos h s) (fun at' => s.length - at')
      (fun env σ' n' => σ' = σ1 ∧ n' = n + 1 ∧ env 8 = slV 2 hitV o ∧ env 9 = .int .i64 ((lst o).length : Int) ∧ env 10 = .int .i64 (j : Int) ∧ env 3 = v3 ∧ env 5 = .ptr n 2 0 0 ∧ env 6 = .int .i64 (pos h s : Int)) ?_ ?_ 0 _ _ _ ?_
    · clear h1 h2 h3 hv3
      intro at' env σ' n' ⟨k1, k2, k3, k4, k5, k6, k7, k8, k9⟩
      subst k1 k2
      have hple := pos_le h s
      by_cases hat : at' < s.length
      · have hat' : (at' : Int) < (s.length : Int) := by omega
        have hne : s ≠ [] := by intro e; rw [e] at hat; simp at hat
        obtain ⟨i, rfl, r1, r2, r3⟩ := plRefs hp1 hne
        have xg := hs_get hat
        by_cases hlt : at' < pos h s
        · have hah := pos_lt hlt hat
          have wi : IntKind.i64.wrap ((at' : Int) + 1) = ((at' + 1 : Nat) : Int) := by rw [wrap_i64] <;> omega
          have e29 : ahead ⟨h.id, h.d⟩ ⟨s[at'].id, s[at'].d⟩ = false := hah
          simp +contextual -implicitDefEqProofs (maxSteps := 2000000) only [↓wP, wQ, wQ1, wQ2, wQ3, wR, boxE, partsOf, ↓reduceIte, Nat.reduceEqDiff, Nat.reduceAdd, Nat.reduceSub, Nat.reduceLeDiff, Nat.reduceLT, Nat.reduceMul, reduceCtorEq, Int.reduceBNe, Int.reduceBEq, Int.reduceLT, Int.reduceLE, Int.reduceGT, exQ_exit, k3, k4, k5, k6, k7, k8, hat, hat', sn, r1, xg, f29, e29, wi]
          exact ⟨at' + 1, by omega, rfl, by omega⟩
        · have e : at' = pos h s := by omega
          subst e
          have e29 : ahead ⟨h.id, h.d⟩ ⟨s[pos h s].id, s[pos h s].d⟩ = true := pos_at hat
          simp +contextual -implicitDefEqProofs (maxSteps := 2000000) only [↓wP, wQ, wQ1, wQ2, wQ3, wR, boxE, partsOf, ↓reduceIte, Nat.reduceEqDiff, Nat.reduceAdd, Nat.reduceSub, Nat.reduceLeDiff, Nat.reduceLT, Nat.reduceMul, reduceCtorEq, Int.reduceBNe, Int.reduceBEq, Int.reduceLT, Int.reduceLE, Int.reduceGT, exQ_exit, k3, k4, k5, k6, k7, k8, hat, hat', sn, r1, xg, f29, e29]
      · have hat' : ¬ (at' : Int) < (s.length : Int) := by omega
        have e : at' = pos h s := by omega
        simp +contextual -implicitDefEqProofs (maxSteps := 2000000) only [↓wP, wQ, wQ1, wQ2, wQ3, wR, boxE, partsOf, ↓reduceIte, Nat.reduceEqDiff, Nat.reduceAdd, Nat.reduceSub, Nat.reduceLeDiff, Nat.reduceLT, Nat.reduceMul, reduceCtorEq, Int.reduceBNe, Int.reduceBEq, Int.reduceLT, Int.reduceLE, Int.reduceGT, exQ_exit, k3, k4, k5, k6, k7, k8, hlen, hat']
        rw [e]
    · clear h1 h2 h3 hv3
      intro env σ' n' ⟨k1, k2, h8, h9, h10, h3, h5, h6⟩
      subst k1 k2
      have hple := pos_le h s
      simp +contextual -implicitDefEqProofs (maxSteps := 2000000) only [↓wP, wQ, wQ1, wQ2, wQ3, wR, boxE, partsOf, ↓reduceIte, Nat.reduceEqDiff, Nat.reduceAdd, Nat.reduceSub, Nat.reduceLeDiff, Nat.reduceLT, Nat.reduceMul, reduceCtorEq, Int.reduceBNe, Int.reduceBEq, Int.reduceLT, Int.reduceLE, Int.reduceGT, h8, h9, h10, h3, h5, h6, sn]
      refine stepW_app1 (m := 0) (n0 := n) (σ0 := σ') (o := oH s) hp1 (fun i _ hi => ?_) (by omega) (by omega) (Nat.le_refl _) ?_ (fun _ σ2 q1 q2 => ?_)
      · have a1 : i ≠ n + 1 := by omega
        simp [upd, a1]
      · rw [lst_oH, hs_len]; unfold LIM; omega
      · rw [lst_oH, hs_len] at q1 ⊢
        have hrow : σ2 (n + 2) = some (.row 2 (hs (mv s h s.length))) := by
          obtain ⟨i, e1, e2, -⟩ := q1
          simp only [V.ref.injEq] at e1
          rw [e1.1, e2, mv_end]
          simp [hs, hitV]
        have w1 : IntKind.i64.wrap (((s.length + 1 : Nat) : Int) - 1) = (s.length : Int) := by rw [wrap_i64] <;> omega
        simp +contextual -implicitDefEqProofs (maxSteps := 2000000) only [↓wP, wQ, wQ1, wQ2, wQ3, wR, boxE, partsOf, ↓reduceIte, Nat.reduceEqDiff, Nat.reduceAdd, Nat.reduceSub, Nat.reduceLeDiff, Nat.reduceLT, Nat.reduceMul, reduceCtorEq, Int.reduceBNe, Int.reduceBEq, Int.reduceLT, Int.reduceLE, Int.reduceGT, h8, h9, h10, h3, h5, h6, w1]
        refine WC_loopE 4 0 (fun (k : Nat) env σ' n' => n' = n + 2 + 1 ∧ env 8 = slV 2 hitV o ∧ env 9 = .int .i64 ((lst o).length : Int) ∧ env 10 = .int .i64 (j : Int) ∧ env 3 = .ref (n + 2) 0 (s.length + 1) 2 ∧ env 6 = .int .i64 (pos h s : Int) ∧ env 7 = .int .i64 (k : Int) ∧
            pos h s ≤ k ∧ k ≤ s.length ∧ σ' (n + 2) = some (.row 2 (hs (mv s h k)))) (fun k => k)
          (fun env σ' n' => n' = n + 2 + 1 ∧ env 8 = slV 2 hitV o ∧ env 9 = .int .i64 ((lst o).length : Int) ∧ env 10 = .int .i64 (j : Int) ∧ env 3 = .ref (n + 2) 0 (s.length + 1) 2 ∧ σ' (n + 2) = some (.row 2 (hs (mv s h (pos h s))))) ?_ ?_ s.length _ _ _ ?_
        · clear h8 h9 h10 h3 h5 h6 hrow q1 q2
          intro k env σ3 n3 ⟨k1, k2, k3, k4, k5, k6, k7, k8, k9, k10⟩
          subst k1
          by_cases hlt : pos h s < k
          · have hlt' : (pos h s : Int) < (k : Int) := by omega
            obtain ⟨m, rfl⟩ : ∃ m, k = m + 1 := ⟨k - 1, by omega⟩
            have hm : m < s.length := by omega
            have wk : IntKind.i64.wrap (((m + 1 : Nat) : Int) - 1) = (m : Int) := by rw [wrap_i64] <;> omega
            have g0 := mv_get0 s h (m + 1) k9
            have g1 := mv_get1 s h m hm
            have l1 : m + 1 < s.length + 1 := by omega
            have l2 : m < s.length + 1 := by omega
            obtain ⟨u, v, g2⟩ := hs_set_at (l := mv s h (m + 1)) (i := m + 1) (j := m) (x := s[m]) (by rw [mv_len]; omega)
            have ms := mv_step s h m hm
            simp +contextual -implicitDefEqProofs (maxSteps := 2000000) only [↓wP, wQ, wQ1, wQ2, wQ3, wR, boxE, partsOf, ↓reduceIte, Nat.reduceEqDiff, Nat.reduceAdd, Nat.reduceSub, Nat.reduceLeDiff, Nat.reduceLT, Nat.reduceMul, reduceCtorEq, Int.reduceBNe, Int.reduceBEq, Int.reduceLT, Int.reduceLE, Int.reduceGT, exQ_exit, k2, k3, k4, k5, k6, k7, hlt', wk, g0, g1, g2, l1, l2, k10]
            exact ⟨m, by omega, rfl, by omega, by omega, by rw [hs_set, hs_set, ms]⟩
          · have hlt' : ¬ (pos h s : Int) < (k : Int) := by omega
            have e : k = pos h s := by omega
            subst e
            simp +contextual -implicitDefEqProofs (maxSteps := 2000000) only [↓wP, wQ, wQ1, wQ2, wQ3, wR, boxE, partsOf, ↓reduceIte, Nat.reduceEqDiff, Nat.reduceAdd, Nat.reduceSub, Nat.reduceLeDiff, Nat.reduceLT, Nat.reduceMul, reduceCtorEq, Int.reduceBNe, Int.reduceBEq, Int.reduceLT, Int.reduceLE, Int.reduceGT, exQ_exit, k2, k3, k4, k5, k6, k7, hlt']
            exact k10
        · clear h8 h9 h10 h3 h5 h6 hrow q1 q2
          intro env σ3 n3 ⟨k1, k2, k3, k4, k5, k6⟩
          subst k1
          simp +contextual -implicitDefEqProofs (maxSteps := 2000000) only [↓wP, wQ, wQ1, wQ2, wQ3, wR, boxE, partsOf, ↓reduceIte, Nat.reduceEqDiff, Nat.reduceAdd, Nat.reduceSub, Nat.reduceLeDiff, Nat.reduceLT, Nat.reduceMul, reduceCtorEq, Int.reduceBNe, Int.reduceBEq, Int.reduceLT, Int.reduceLE, Int.reduceGT, k2, k3, k4, k5]
          rw [ht, ins_eq]
          have e : s.length + 1 = (s.take (pos h s) ++ h :: s.drop (pos h s)).length := by rw [← mv_len s h (pos h s)]; rfl
          rw [e]
          exact plOf (by simp) k6 (by omega) (by omega)
        · simp +contextual -implicitDefEqProofs (maxSteps := 2000000) only [↓wP, wQ, wQ1, wQ2, wQ3, wR, boxE, partsOf, ↓reduceIte, Nat.reduceEqDiff, Nat.reduceAdd, Nat.reduceSub, Nat.reduceLeDiff, Nat.reduceLT, Nat.reduceMul, reduceCtorEq, Int.reduceBNe, Int.reduceBEq, Int.reduceLT, Int.reduceLE, Int.reduceGT, h8, h9, h10, h3, h6]
          exact ⟨hple, hrow⟩
    · simp +contextual -implicitDefEqProofs (maxSteps := 2000000) only [↓wP, wQ, wQ1, wQ2, wQ3, wR, boxE, partsOf, ↓reduceIte, Nat.reduceEqDiff, Nat.reduceAdd, Nat.reduceSub, Nat.reduceLeDiff, Nat.reduceLT, Nat.reduceMul, reduceCtorEq, Int.reduceBNe, Int.reduceBEq, Int.reduceLT, Int.reduceLE, Int.reduceGT, h1, h2, h3, hv3]
      rfl
  · intro env σ n ⟨h3, h4⟩ h1 h2
    rw [List.take_length] at h4
    have hf := plHf h4
    simp +contextual -implicitDefEqProofs (maxSteps := 2000000) only [↓wP, wQ, wQ1, wQ2, wQ3, wR, boxE, partsOf, ↓reduceIte, Nat.reduceEqDiff, Nat.reduceAdd, Nat.reduceSub, Nat.reduceLeDiff, Nat.reduceLT, Nat.reduceMul, reduceCtorEq, Int.reduceBNe, Int.reduceBEq, Int.reduceLT, Int.reduceLE, Int.reduceGT, hf]
  · simp +contextual -implicitDefEqProofs (maxSteps := 2000000) only [↓wP, wQ, wQ1, wQ2, wQ3, wR, boxE, partsOf, ↓reduceIte, Nat.reduceEqDiff, Nat.reduceAdd, Nat.reduceSub, Nat.reduceLeDiff, Nat.reduceLT, Nat.reduceMul, reduceCtorEq, Int.reduceBNe, Int.reduceBEq, Int.reduceLT, Int.reduceLE, Int.reduceGT]
    simp [oH, srt, Pl]

theorem f24 (o : Option (List Hit)) (hl : (lst o).length ≤ 4000000) (fs : Bool) (σ : Sto) (n lk : Nat) : callE T fs 24 [slV 2 hitV o] σ n lk = some (slV 2 hitV (optH (srt (lst o))), σ, n) :=
  callE_tr (by decide) (r24 o hl) (by simp [Tr, Tr_slV]) (Nw_slV 2 hitV _ 11) fs σ n lk

/-- The document's first ones. -/
def refF (k : Nat) (l : List Hit) : Option (List Hit) := sub (optH (srt l)) 0 (min k l.length)
theorem lst_refF (k : Nat) (l : List Hit) : lst (refF k l) = fst' k l := by
  unfold refF
  rw [lst_sub, lst_optH, List.drop_zero, fst']
  rcases Nat.le_total k l.length with h | h
  · rw [Nat.min_eq_left h]
  · rw [Nat.min_eq_right h, List.take_of_length_le (by rw [srt_len]; exact Nat.le_refl _), List.take_of_length_le (by rw [srt_len]; exact h)]
theorem r15 (o : Option (List Hit)) (k : Nat) (hl : (lst o).length ≤ 4000000) (hk : k < 9223372036854775808) : res T 15 [slV 2 hitV o, .int .i64 (k : Int)] = some (slV 2 hitV (refF k (lst o))) := by
  refine run_res (run_pure (fn := g15) rfl rfl (by decide) ?_)
  simp only [g15, b15]
  have hmin : minV (.int .i64 (k : Int)) (.int .i64 ((lst o).length : Int)) = some (.int .i64 ((min k (lst o).length : Nat) : Int)) := by
    rw [minV_int]
    congr 2
    split <;> omega
  have h1 : min k (lst o).length ≤ (lst o).length := Nat.min_le_right _ _
  have h2 := f24 o hl
  have h3 : (lst (optH (srt (lst o)))).length = (lst o).length := by rw [lst_optH, srt_len]
  simp +contextual -implicitDefEqProofs (maxSteps := 2000000) only [↓wP, wQ, wQ1, wQ2, wQ3, wR, boxE, partsOf, ↓reduceIte, Nat.reduceEqDiff, Nat.reduceAdd, Nat.reduceSub, Nat.reduceLeDiff, Nat.reduceLT, Nat.reduceMul, reduceCtorEq, Int.reduceBNe, Int.reduceBEq, Int.reduceLT, Int.reduceLE, Int.reduceGT, h2, h3, hmin, h1]
  rfl
theorem rch_row {σ : Sto} {id : Nat} {l : List Hit} (h : σ id = some (.row 2 (hs l))) (k : Nat) : rch σ (k + 2) (.ref id 0 l.length 2) = [id] := by
  have e : elems σ 2 (.ref id 0 l.length 2) = some (hs l) := by
    simp only [elems, h, List.drop_zero]
    rw [if_pos ⟨trivial, trivial, by rw [hs_len]; omega⟩, ← hs_len, List.take_length]
  simp only [rch, e, Option.getD_some]
  rw [List.flatMap_eq_nil_iff.2 fun x hx => ?_]
  obtain ⟨y, -, rfl⟩ := List.mem_map.1 hx
  rfl
def dr (σ : Sto) (id : Nat) (l : List Hit) : Sto := if l = [] then σ else dropL σ [id]
theorem dr_at (σ : Sto) (id : Nat) (l : List Hit) {i : Nat} (h : i ≠ id) : dr σ id l i = σ i := by
  unfold dr; split
  · rfl
  · simp [dropL, h]
theorem refF_none {k : Nat} {l : List Hit} : refF k l = none ↔ l = [] := by
  unfold refF sub optH
  rw [Option.map_eq_none_iff]
  constructor
  · intro h
    split at h
    · rename_i e
      have := srt_len l
      rw [e] at this
      exact List.length_eq_zero_iff.1 this.symm
    · cases h
  · rintro rfl; rfl
theorem f15 {σ : Sto} {id : Nat} {l : List Hit} (k N : Nat) (h : σ id = some (.row 2 (hs l))) (hN : l.length = N) (hl : N ≤ 4000000) (hk : k < 9223372036854775808) (n : Nat) :
    callE T true 15 [.ref id 0 N 2, .int .i64 (k : Int)] σ n 0 = some (slV 2 hitV (refF k l), dr σ id l, n) := by
  subst hN
  obtain ⟨o, rfl, h1⟩ := Hf.row h rfl
  rw [callE_eq (by decide)]
  have e : [V.ref id 0 (lst o).length 2, .int .i64 (k : Int)].mapM (frz σ 12) = some [slV 2 hitV o, .int .i64 (k : Int)] := by simp only [List.mapM_cons, List.mapM_nil, h1]; rfl
  have e2 : [V.ref id 0 (lst o).length 2, .int .i64 (k : Int)].flatMap (rch σ 12) = [id] := by
    simp only [List.flatMap_cons, List.flatMap_nil, rch_row h 10]; rfl
  rw [e, e2, callR_some, r15 o k hl hk, retE_some]
  unfold backE dr
  by_cases hl : lst o = []
  · have hr : refF k (lst o) = none := refF_none.2 hl
    rw [hr, if_pos (show flat (slV 2 hitV none) = true from rfl), if_pos hl]
    rfl
  · have hr : refF k (lst o) ≠ none := fun h => hl (refF_none.1 h)
    obtain ⟨x, hx⟩ := Option.ne_none_iff_exists'.1 hr
    rw [hx, if_neg (by simp [slV, flat]), if_neg hl]
    simp [slV, thaw]
theorem f15n (k : Nat) (hk : k < 9223372036854775808) (fs : Bool) (σ : Sto) (n lk : Nat) : callE T fs 15 [.nilS, .int .i64 (k : Int)] σ n lk = some (.nilS, σ, n) := by
  have h := r15 none k (by simp [lst]) hk
  have e : refF k (lst (none : Option (List Hit))) = none := by simp [refF, lst, srt, optH, sub]
  rw [e] at h
  exact callE_tr (T := T) (args := [.nilS, .int .i64 (k : Int)]) (by decide) h rfl rfl fs σ n lk

/-- The program's first ones: which error, and which. -/
def merE (k : Int) (l : List Hit) : Int := if k < 1 ∨ 16 < k then 2 else if 2000 < l.length then 3 else 0
def merV (k : Int) (l : List Hit) : List Hit := if merE k l = 0 then fst' k.toNat l else []

def hVal (n : Nat) (l : List Hit) : V := if l = [] then .nilS else .ref n 0 l.length 2
def hSto (σ : Sto) (n : Nat) (l : List Hit) : Sto := if l = [] then σ else upd σ n (some (.row 2 (hs l)))
def hN (n : Nat) (l : List Hit) : Nat := if l = [] then n else n + 1
theorem thaw_ownH (σ : Sto) (n : Nat) (l : List Hit) : thaw σ n (ownH l) = (hVal n l, hSto σ n l, hN n l) := by
  cases l with
  | nil => rfl
  | cons x l =>
    unfold hVal hSto hN
    rw [if_neg (by simp), if_neg (by simp), if_neg (by simp)]
    exact thaw_hs σ n (x :: l)
theorem flat_ownH (l : List Hit) : flat (ownH l) = true := by
  cases l with
  | nil => rfl
  | cons x l => exact hs_flat (x :: l)
theorem pl_h (σ : Sto) (n : Nat) (l : List Hit) : Pl (hSto σ n l) n (hN n l) 2 (hVal n l) (oH l) := by
  unfold hVal hSto hN
  by_cases h : l = []
  · rw [if_pos h, if_pos h, if_pos h]; simp [oH, h, Pl]
  · rw [if_neg h, if_neg h, if_neg h]; exact plOf h (by simp [upd]) (Nat.le_refl _) (by omega)
theorem hSto_at (σ : Sto) (n : Nat) (l : List Hit) {i : Nat} (h : i < n) : hSto σ n l i = σ i := by
  unfold hSto; split
  · rfl
  · have : i ≠ n := by omega
    simp [upd, this]
theorem hN_le (n : Nat) (l : List Hit) : n ≤ hN n l := by unfold hN; split <;> omega
theorem hVal_len (n : Nat) (l : List Hit) : lenE (hVal n l) = some (.int .i64 (l.length : Int)) := by
  unfold hVal
  split
  · rename_i h; rw [h, lenE_nil]; rfl
  · rw [lenE_ref]
theorem hVal_giv (σ : Sto) (n : Nat) (l : List Hit) : giv (hSto σ n l) 12 (hVal n l) = some (ownH l) ∧ (gids (hSto σ n l) 12 (hVal n l)).Nodup := by
  unfold hVal hSto
  by_cases h : l = []
  · rw [if_pos h, if_pos h, h]; exact ⟨rfl, by simp [gids]⟩
  · rw [if_neg h, if_neg h, ownH_eq h]
    have := giv_row (σ := upd σ n (some (.row 2 (hs l)))) (id := n) (sz := 2) (xs := hs l) (by simp [upd]) (hs_giv _ _) (hs_gids _ _)
    rw [hs_len] at this
    exact this
theorem giv_tup2 {σ : Sto} {v w r s : V} (h : giv σ 11 v = some r ∧ (gids σ 11 v).Nodup) (h' : giv σ 11 w = some s) (h'' : gids σ 11 w = []) :
    giv σ 12 (.tup [v, w]) = some (.tup [r, s]) ∧ (gids σ 12 (.tup [v, w])).Nodup := by
  constructor
  · simp only [giv, List.mapM_cons, List.mapM_nil, h.1, h']; rfl
  · simp only [gids, List.flatMap_cons, List.flatMap_nil, h'', List.append_nil]; exact h.2
theorem hVal_giv11 (σ : Sto) (n : Nat) (l : List Hit) : giv (hSto σ n l) 11 (hVal n l) = some (ownH l) ∧ (gids (hSto σ n l) 11 (hVal n l)).Nodup := by
  unfold hVal hSto
  by_cases h : l = []
  · rw [if_pos h, if_pos h, h]; exact ⟨rfl, by simp [gids]⟩
  · rw [if_neg h, if_neg h, ownH_eq h]
    have hg : ∀ x ∈ hs l, elemM (giv (upd σ n (some (.row 2 (hs l)))) 10) x = some x := by
      intro x hx
      obtain ⟨y, -, rfl⟩ := List.mem_map.1 hx
      rfl
    have hg' : ∀ x ∈ hs l, ∀ c ∈ x.cells, gids (upd σ n (some (.row 2 (hs l)))) 10 c = [] := by
      intro x hx c hc
      obtain ⟨y, -, rfl⟩ := List.mem_map.1 hx
      simp only [hitV, V.cells, List.mem_cons, List.not_mem_nil, or_false] at hc
      rcases hc with rfl | rfl <;> rfl
    have hat : upd σ n (some (.row 2 (hs l))) n = some (.row 2 (hs l)) := by simp [upd]
    constructor
    · simp only [giv, hat, hs_len, and_self, if_true]
      rw [mapM_id hg]; rfl
    · simp only [gids, hat]
      rw [List.flatMap_eq_nil_iff.2 fun x hx => List.flatMap_eq_nil_iff.2 fun c hc => hg' x hx c hc]
      simp

theorem sum_mono (l : List (Option (List Hit))) (j : Nat) : ((l.take j).flatMap lst).length ≤ (l.flatMap lst).length := by
  conv => rhs; rw [← List.take_append_drop j l]
  rw [List.flatMap_append, List.length_append]
  omega

theorem r16 (k : Int) (o : Option (List (Option (List Hit)))) (hlo : (lst o).length < 9223372036854775808) (hli : ∀ r ∈ lst o, (lst r).length < 4611686018427387904) :
    res T 16 [.int .i64 k, slV 1 (slV 2 hitV) o] = some (.tup [ownH (merV k ((lst o).flatMap lst)), .int .i64 (merE k ((lst o).flatMap lst))]) := by
  refine run_res (run_own (fn := g16) rfl rfl (by decide) ?_)
  simp only [g16, b16]
  by_cases hk1 : k < 1
  · have e1 : merE k ((lst o).flatMap lst) = 2 := if_pos (.inl hk1)
    have e2 : merV k ((lst o).flatMap lst) = [] := by unfold merV; rw [e1]; rfl
    rw [e1, e2]
    simp +contextual -implicitDefEqProofs (maxSteps := 2000000) only [↓wP, wQ, wQ1, wQ2, wQ3, wR, boxE, partsOf, ↓reduceIte, Nat.reduceEqDiff, Nat.reduceAdd, Nat.reduceSub, Nat.reduceLeDiff, Nat.reduceLT, Nat.reduceMul, reduceCtorEq, Int.reduceBNe, Int.reduceBEq, Int.reduceLT, Int.reduceLE, Int.reduceGT, hk1]
    exact ⟨rfl, by simp [gids]⟩
  · by_cases hk2 : 16 < k
    · have e1 : merE k ((lst o).flatMap lst) = 2 := if_pos (.inr hk2)
      have e2 : merV k ((lst o).flatMap lst) = [] := by unfold merV; rw [e1]; rfl
      rw [e1, e2]
      simp +contextual -implicitDefEqProofs (maxSteps := 2000000) only [↓wP, wQ, wQ1, wQ2, wQ3, wR, boxE, partsOf, ↓reduceIte, Nat.reduceEqDiff, Nat.reduceAdd, Nat.reduceSub, Nat.reduceLeDiff, Nat.reduceLT, Nat.reduceMul, reduceCtorEq, Int.reduceBNe, Int.reduceBEq, Int.reduceLT, Int.reduceLE, Int.reduceGT, hk1, hk2]
      exact ⟨rfl, by simp [gids]⟩
    · obtain ⟨kn, rfl⟩ : ∃ kn : Nat, k = (kn : Int) := ⟨k.toNat, by omega⟩
      simp +contextual -implicitDefEqProofs (maxSteps := 2000000) only [↓wP, wQ, wQ1, wQ2, wQ3, wR, boxE, partsOf, ↓reduceIte, Nat.reduceEqDiff, Nat.reduceAdd, Nat.reduceSub, Nat.reduceLeDiff, Nat.reduceLT, Nat.reduceMul, reduceCtorEq, Int.reduceBNe, Int.reduceBEq, Int.reduceLT, Int.reduceLE, Int.reduceGT, hk1, hk2]
      refine WC_for (lst o).length 0 (fun (j : Nat) env σ n => σ = Sto.empty ∧ n = 0 ∧ env 0 = .int .i64 (kn : Int) ∧ env 1 = slV 1 (slV 2 hitV) o ∧ env 15 = slV 1 (slV 2 hitV) o ∧ env 6 = .int .i64 ((((lst o).take j).flatMap lst).length : Int) ∧ (((lst o).take j).flatMap lst).length ≤ 2000) hlo (by decide) (by decide) (fun _ _ => rfl) (fun _ _ _ => rfl) ?_ ?_ _ _ _ rfl rfl ?_
      · intro j env σ n hj h1 h2 ⟨g1, g2, h3, h4, h5, h6, h7⟩
        subst g1 g2
        simp only [vl_tmp] at h2
        have hx : (lst o)[j]? = some (lst o)[j] := List.getElem?_eq_getElem hj
        have hr := hli _ (List.getElem_mem hj)
        have ht : ((lst o).take (j + 1)).flatMap lst = ((lst o).take j).flatMap lst ++ lst (lst o)[j] := by
          rw [← List.take_append_getElem hj, List.flatMap_append]
          simp
        have hmono := sum_mono (lst o) (j + 1)
        generalize (lst o)[j] = r at *
        rw [ht, List.length_append] at hmono
        have wa : IntKind.i64.wrap (((((lst o).take j).flatMap lst).length : Int) + ((lst r).length : Int)) = (((((lst o).take j).flatMap lst).length + (lst r).length : Nat) : Int) := by rw [wrap_i64] <;> omega
        by_cases hbig : 2000 < (((lst o).take j).flatMap lst).length + (lst r).length
        · have hbig' : (2000 : Int) < (((((lst o).take j).flatMap lst).length + (lst r).length : Nat) : Int) := by omega
          have e1 : merE (kn : Int) ((lst o).flatMap lst) = 3 := by
            unfold merE
            rw [if_neg (by omega), if_pos (by omega)]
          have e2 : merV (kn : Int) ((lst o).flatMap lst) = [] := by unfold merV; rw [e1]; rfl
          rw [e1, e2]
          simp +contextual -implicitDefEqProofs (maxSteps := 2000000) only [↓wP, wQ, wQ1, wQ2, wQ3, wR, boxE, partsOf, ↓reduceIte, Nat.reduceEqDiff, Nat.reduceAdd, Nat.reduceSub, Nat.reduceLeDiff, Nat.reduceLT, Nat.reduceMul, reduceCtorEq, Int.reduceBNe, Int.reduceBEq, Int.reduceLT, Int.reduceLE, Int.reduceGT, h1, h2, h3, h4, h5, h6, hx, wa, hbig']
          exact ⟨rfl, by simp [gids]⟩
        · have hbig' : ¬ (2000 : Int) < (((((lst o).take j).flatMap lst).length + (lst r).length : Nat) : Int) := by omega
          simp +contextual -implicitDefEqProofs (maxSteps := 2000000) only [↓wP, wQ, wQ1, wQ2, wQ3, wR, boxE, partsOf, ↓reduceIte, Nat.reduceEqDiff, Nat.reduceAdd, Nat.reduceSub, Nat.reduceLeDiff, Nat.reduceLT, Nat.reduceMul, reduceCtorEq, Int.reduceBNe, Int.reduceBEq, Int.reduceLT, Int.reduceLE, Int.reduceGT, h1, h2, h3, h4, h5, h6, hx, wa, hbig']
          rw [ht, List.length_append]
          exact ⟨rfl, by omega⟩
      · intro env σ n ⟨g1, g2, h3, h4, h5, h6, h7⟩ h1 h2
        subst g1 g2
        rw [List.take_length] at h7
        have e1 : merE (kn : Int) ((lst o).flatMap lst) = 0 := by
          unfold merE
          rw [if_neg (by omega), if_neg (by omega)]
        have e2 : merV (kn : Int) ((lst o).flatMap lst) = fst' kn ((lst o).flatMap lst) := by unfold merV; rw [if_pos e1]; rfl
        have h25 := r25 kn o (by omega) (by omega) hlo (fun r hr => by have := hli r hr; omega)
        rw [e1, e2]
        have e : [V.int .i64 (kn : Int), slV 1 (slV 2 hitV) o].mapM (frz Sto.empty 12) = some [V.int .i64 (kn : Int), slV 1 (slV 2 hitV) o] := by
          simp only [List.mapM_cons, List.mapM_nil, frz_slV, frz_int]; rfl
        generalize fst' kn ((lst o).flatMap lst) = l at *
        have f25 := fun n lk => callE_flat (fs := true) (n := n) (lk := lk) (by decide) e h25 (flat_ownH l)
        simp only [thaw_ownH] at f25
        have hg := hVal_giv11 Sto.empty 0 l
        simp +contextual -implicitDefEqProofs (maxSteps := 2000000) only [↓wP, wQ, wQ1, wQ2, wQ3, wR, boxE, partsOf, ↓reduceIte, Nat.reduceEqDiff, Nat.reduceAdd, Nat.reduceSub, Nat.reduceLeDiff, Nat.reduceLT, Nat.reduceMul, reduceCtorEq, Int.reduceBNe, Int.reduceBEq, Int.reduceLT, Int.reduceLE, Int.reduceGT, h3, h4, f25]
        exact giv_tup2 hg rfl rfl
      · simp +contextual -implicitDefEqProofs (maxSteps := 2000000) only [↓wP, wQ, wQ1, wQ2, wQ3, wR, boxE, partsOf, ↓reduceIte, Nat.reduceEqDiff, Nat.reduceAdd, Nat.reduceSub, Nat.reduceLeDiff, Nat.reduceLT, Nat.reduceMul, reduceCtorEq, Int.reduceBNe, Int.reduceBEq, Int.reduceLT, Int.reduceLE, Int.reduceGT]
        simp
end Go.Q.S6
end

section
/- First of a row; selections. -/
set_option linter.unusedSimpArgs false
set_option linter.unusedVariables false
namespace Go.Q.S6
open Go.Q Go.Sort

theorem flat_tup2 {a b : V} (h : flat a = true) (h' : flat b = true) : flat (.tup [a, b]) = true := by simp [flat, flatL, h, h']
theorem thaw_hTup (σ : Sto) (n : Nat) (l : List Hit) (e : Int) : thaw σ n (.tup [ownH l, .int .i64 e]) = (.tup [hVal n l, .int .i64 e], hSto σ n l, hN n l) := by
  rw [thaw_tup, thawL_cons, thaw_ownH]
  rfl

theorem merge_one (o : Option (List Hit)) : (lst (some [o])).flatMap lst = lst o := by simp [lst]
theorem r13 (k : Int) (o : Option (List Hit)) (hl : (lst o).length < 4611686018427387904) : res T 13 [slV 2 hitV o, .int .i64 k] = some (.tup [ownH (merV k (lst o)), .int .i64 (merE k (lst o))]) := by
  refine run_res (run_own (fn := g13) rfl rfl (by decide) ?_)
  simp only [g13, b13]
  have h16 := r16 k (some [o]) (by simp [lst]) (fun r hr => by simp [lst_some] at hr; subst hr; exact hl)
  rw [merge_one] at h16
  have e : [V.int .i64 k, .ref 0 0 1 1].mapM (frz (upd Sto.empty 0 (some (.row 1 [slV 2 hitV o]))) 12) = some [V.int .i64 k, slV 1 (slV 2 hitV) (some [o])] := by
    have hx : frz (upd Sto.empty 0 (some (.row 1 [slV 2 hitV o]))) 12 (.ref 0 0 1 1) = some (.sl 1 [slV 2 hitV o]) := by
      have := (Fz.ref (σ := upd Sto.empty 0 (some (.row 1 [slV 2 hitV o]))) (id := 0) (sz := 1) (xs := [slV 2 hitV o]) (ts := [slV 2 hitV o]) (k := 11) (S := fun _ => True) (by simp [upd]) trivial
        (FzL.trees (fun x hx => by rw [List.mem_singleton] at hx; subst hx; exact Tr_slV 2 _ o _) (fun x hx c hc => by rw [List.mem_singleton] at hx; subst hx; rw [cl_slV, List.mem_singleton] at hc; subst hc; exact Tr_slV 2 _ o _))).1
      exact this
    simp only [List.mapM_cons, List.mapM_nil, hx, frz_int]
    rfl
  have f16 := fun n lk => callE_flat (fs := true) (n := n) (lk := lk) (by decide) e h16 (flat_tup2 (flat_ownH _) rfl)
  simp only [thaw_hTup] at f16
  have hg := fun σ n => hVal_giv11 σ n (merV k (lst o))
  simp +contextual -implicitDefEqProofs (maxSteps := 2000000) only [↓wP, wQ, wQ1, wQ2, wQ3, wR, boxE, partsOf, ↓reduceIte, Nat.reduceEqDiff, Nat.reduceAdd, Nat.reduceSub, Nat.reduceLeDiff, Nat.reduceLT, Nat.reduceMul, reduceCtorEq, Int.reduceBNe, Int.reduceBEq, Int.reduceLT, Int.reduceLE, Int.reduceGT, f16]
  exact giv_tup2 (hg _ _) rfl rfl

theorem f13 {σ : Sto} {v : V} {l : List Hit} (k : Int) (ha : Hf σ v l) (hl : l.length < 4611686018427387904) (fs : Bool) (n lk : Nat) :
    callE T fs 13 [v, .int .i64 k] σ n lk = some (.tup [hVal n (merV k l), .int .i64 (merE k l)], hSto σ n (merV k l), hN n (merV k l)) := by
  obtain ⟨o, rfl, h1⟩ := ha
  have e : [v, V.int .i64 k].mapM (frz σ 12) = some [slV 2 hitV o, .int .i64 k] := by simp only [List.mapM_cons, List.mapM_nil, h1]; rfl
  rw [callE_flat (by decide) e (r13 k o hl) (flat_tup2 (flat_ownH _) rfl), thaw_hTup]

def newE (k : Int) : Int := if k < 1 ∨ 16 < k then 2 else 0
theorem r19 (k : Int) : res T 19 [.int .i64 k] = some (.tup [.agg [.int .i64 (if newE k = 0 then k else 0), .nilS], .int .i64 (newE k)]) := by
  refine run_res (run_pure (fn := g19) rfl rfl (by decide) ?_)
  simp only [g19, b19]
  by_cases h1 : k < 1
  · have e : newE k = 2 := if_pos (.inl h1)
    simp +contextual -implicitDefEqProofs (maxSteps := 2000000) only [↓wP, wQ, wQ1, wQ2, wQ3, wR, boxE, partsOf, ↓reduceIte, Nat.reduceEqDiff, Nat.reduceAdd, Nat.reduceSub, Nat.reduceLeDiff, Nat.reduceLT, Nat.reduceMul, reduceCtorEq, Int.reduceBNe, Int.reduceBEq, Int.reduceLT, Int.reduceLE, Int.reduceGT, h1, e]
    rfl
  · by_cases h2 : 16 < k
    · have e : newE k = 2 := if_pos (.inr h2)
      simp +contextual -implicitDefEqProofs (maxSteps := 2000000) only [↓wP, wQ, wQ1, wQ2, wQ3, wR, boxE, partsOf, ↓reduceIte, Nat.reduceEqDiff, Nat.reduceAdd, Nat.reduceSub, Nat.reduceLeDiff, Nat.reduceLT, Nat.reduceMul, reduceCtorEq, Int.reduceBNe, Int.reduceBEq, Int.reduceLT, Int.reduceLE, Int.reduceGT, h1, h2, e]
      rfl
    · have e : newE k = 0 := if_neg (by omega)
      simp +contextual -implicitDefEqProofs (maxSteps := 2000000) only [↓wP, wQ, wQ1, wQ2, wQ3, wR, boxE, partsOf, ↓reduceIte, Nat.reduceEqDiff, Nat.reduceAdd, Nat.reduceSub, Nat.reduceLeDiff, Nat.reduceLT, Nat.reduceMul, reduceCtorEq, Int.reduceBNe, Int.reduceBEq, Int.reduceLT, Int.reduceLE, Int.reduceGT, h1, h2, e]
      rfl

theorem f19 (k : Int) (fs : Bool) (σ : Sto) (n lk : Nat) : callE T fs 19 [.int .i64 k] σ n lk = some (.tup [.agg [.int .i64 (if newE k = 0 then k else 0), .nilS], .int .i64 (newE k)], σ, n) :=
  callE_tr (by decide) (r19 k) (by simp [Tr, Tr_slV]) rfl fs σ n lk

/-- In order, looked at from the end. -/
theorem srt_pair {l : List Hit} : Srt l ↔ ∀ i, (h : i + 1 < l.length) → ahead l[i + 1] l[i] = false := by
  constructor
  · intro h i hi
    exact List.pairwise_iff_getElem.1 h i (i + 1) (by omega) hi (by omega)
  · intro h
    refine List.pairwise_iff_getElem.2 fun i j hi hj hij => ?_
    induction j with
    | zero => omega
    | succ j ih =>
      by_cases e : i = j
      · subst e; exact h i hj
      · exact swoA.ntrans _ _ _ (h j hj) (ih (by omega) (by omega))
instance (l : List Hit) : Decidable (Srt l) := inferInstanceAs (Decidable (List.Pairwise _ _))

theorem r30 (o : Option (List Hit)) (hl : (lst o).length < 9223372036854775808) : res T 30 [slV 2 hitV o, .fn 17 []] = some (.bool (decide (Srt (lst o)))) := by
  refine run_res (run_pure (fn := g30) rfl rfl (by decide) ?_)
  simp only [g30, b30]
  have w0 : IntKind.i64.wrap (((lst o).length : Int) - 1) = ((lst o).length : Int) - 1 := by rw [wrap_i64] <;> omega
  simp +contextual -implicitDefEqProofs (maxSteps := 2000000) only [↓wP, wQ, wQ1, wQ2, wQ3, wR, boxE, partsOf, ↓reduceIte, Nat.reduceEqDiff, Nat.reduceAdd, Nat.reduceSub, Nat.reduceLeDiff, Nat.reduceLT, Nat.reduceMul, reduceCtorEq, Int.reduceBNe, Int.reduceBEq, Int.reduceLT, Int.reduceLE, Int.reduceGT, w0]
  refine WC_loopI 0 (fun (i : Nat) env σ' n' => σ' = Sto.empty ∧ n' = 0 ∧ env 0 = slV 2 hitV o ∧ env 1 = .fn 17 [] ∧ env 5 = .int .i64 ((i : Int) - 1) ∧ i ≤ (lst o).length ∧ ∀ q, (h : q + 1 < (lst o).length) → i ≤ q + 1 → ahead (lst o)[q + 1] (lst o)[q] = false) (fun i => i) ?_ (lst o).length _ _ _ ?_
  · intro i env σ' n' ⟨h1, h2, h3, h4, h5, h6, h7⟩
    subst h1 h2
    by_cases hi : 2 ≤ i
    · obtain ⟨m, rfl⟩ : ∃ m, i = m + 2 := ⟨i - 2, by omega⟩
      have e0 : (((m + 2 : Nat) : Int) - 1) = ((m + 1 : Nat) : Int) := by omega
      rw [e0] at h5
      have hpos : (0 : Int) < ((m + 1 : Nat) : Int) := by omega
      have w1 : IntKind.i64.wrap (((m + 1 : Nat) : Int) - 1) = (m : Int) := by rw [wrap_i64] <;> omega
      have x1 : (lst o)[m + 1]? = some (lst o)[m + 1] := List.getElem?_eq_getElem (by omega)
      have x2 : (lst o)[m]? = some (lst o)[m] := List.getElem?_eq_getElem (by omega)
      by_cases hc : cmpH (lst o)[m + 1] (lst o)[m] < 0
      · have hah : ahead (lst o)[m + 1] (lst o)[m] = true := by rw [← cmp_lt]; simpa using hc
        have hn : ¬ Srt (lst o) := fun hs => by
          have := srt_pair.1 hs m (by omega)
          rw [hah] at this; cases this
        simp +contextual -implicitDefEqProofs (maxSteps := 2000000) only [↓wP, wQ, wQ1, wQ2, wQ3, wR, boxE, partsOf, ↓reduceIte, Nat.reduceEqDiff, Nat.reduceAdd, Nat.reduceSub, Nat.reduceLeDiff, Nat.reduceLT, Nat.reduceMul, reduceCtorEq, Int.reduceBNe, Int.reduceBEq, Int.reduceLT, Int.reduceLE, Int.reduceGT, h3, h4, h5, hpos, w1, x1, x2, hitV_eq, f17, hc, hn]
      · have hah : ahead (lst o)[m + 1] (lst o)[m] = false := by rw [← cmp_lt]; simpa using hc
        simp +contextual -implicitDefEqProofs (maxSteps := 2000000) only [↓wP, wQ, wQ1, wQ2, wQ3, wR, boxE, partsOf, ↓reduceIte, Nat.reduceEqDiff, Nat.reduceAdd, Nat.reduceSub, Nat.reduceLeDiff, Nat.reduceLT, Nat.reduceMul, reduceCtorEq, Int.reduceBNe, Int.reduceBEq, Int.reduceLT, Int.reduceLE, Int.reduceGT, h3, h4, h5, hpos, w1, x1, x2, hitV_eq, f17, hc]
        refine ⟨m + 1, by omega, by rw [show (((m + 1 : Nat) : Int) - 1) = (m : Int) by omega], by omega, fun q hq hle => ?_⟩
        by_cases e : q = m
        · subst e; exact hah
        · exact h7 q hq (by omega)
    · have hpos : ¬ (0 : Int) < (i : Int) - 1 := by omega
      have hs : Srt (lst o) := srt_pair.2 fun q hq => h7 q hq (by omega)
      simp +contextual -implicitDefEqProofs (maxSteps := 2000000) only [↓wP, wQ, wQ1, wQ2, wQ3, wR, boxE, partsOf, ↓reduceIte, Nat.reduceEqDiff, Nat.reduceAdd, Nat.reduceSub, Nat.reduceLeDiff, Nat.reduceLT, Nat.reduceMul, reduceCtorEq, Int.reduceBNe, Int.reduceBEq, Int.reduceLT, Int.reduceLE, Int.reduceGT, h3, h4, h5, hpos, hs]
  · simp +contextual -implicitDefEqProofs (maxSteps := 2000000) only [↓wP, wQ, wQ1, wQ2, wQ3, wR, boxE, partsOf, ↓reduceIte, Nat.reduceEqDiff, Nat.reduceAdd, Nat.reduceSub, Nat.reduceLeDiff, Nat.reduceLT, Nat.reduceMul, reduceCtorEq, Int.reduceBNe, Int.reduceBEq, Int.reduceLT, Int.reduceLE, Int.reduceGT]
    exact fun q hq hle => by omega

theorem f30 (o : Option (List Hit)) (hl : (lst o).length < 9223372036854775808) (fs : Bool) (σ : Sto) (n lk : Nat) : callE T fs 30 [slV 2 hitV o, .fn 17 []] σ n lk = some (.bool (decide (Srt (lst o))), σ, n) :=
  callE_tr (by decide) (r30 o hl) (by simp [Tr, Tr_slV]) rfl fs σ n lk

/-- May a selection be? -/
def TopOk (k : Int) (l : List Hit) : Prop := 1 ≤ k ∧ k ≤ 16 ∧ (l.length : Int) ≤ k ∧ Srt l
instance (k : Int) (l : List Hit) : Decidable (TopOk k l) := inferInstanceAs (Decidable (_ ∧ _ ∧ _ ∧ _))
def topE (k : Int) (l : List Hit) : Int := if TopOk k l then 0 else 160

theorem r22 (k : Int) (o : Option (List Hit)) (hl : (lst o).length < 9223372036854775808) : res T 22 [.agg [.int .i64 k, slV 2 hitV o]] = some (.int .i64 (topE k (lst o))) := by
  refine run_res (run_pure (fn := g22) rfl rfl (by decide) ?_)
  simp only [g22, b22]
  by_cases h1 : k < 1
  · have e : topE k (lst o) = 160 := if_neg (fun h => by have := h.1; omega)
    simp +contextual -implicitDefEqProofs (maxSteps := 2000000) only [↓wP, wQ, wQ1, wQ2, wQ3, wR, boxE, partsOf, ↓reduceIte, Nat.reduceEqDiff, Nat.reduceAdd, Nat.reduceSub, Nat.reduceLeDiff, Nat.reduceLT, Nat.reduceMul, reduceCtorEq, Int.reduceBNe, Int.reduceBEq, Int.reduceLT, Int.reduceLE, Int.reduceGT, h1, e]
  · by_cases h2 : 16 < k
    · have e : topE k (lst o) = 160 := if_neg (fun h => by have := h.2.1; omega)
      simp +contextual -implicitDefEqProofs (maxSteps := 2000000) only [↓wP, wQ, wQ1, wQ2, wQ3, wR, boxE, partsOf, ↓reduceIte, Nat.reduceEqDiff, Nat.reduceAdd, Nat.reduceSub, Nat.reduceLeDiff, Nat.reduceLT, Nat.reduceMul, reduceCtorEq, Int.reduceBNe, Int.reduceBEq, Int.reduceLT, Int.reduceLE, Int.reduceGT, h1, h2, e]
    · by_cases h3 : k < ((lst o).length : Int)
      · have e : topE k (lst o) = 160 := if_neg (fun h => by have := h.2.2.1; omega)
        simp +contextual -implicitDefEqProofs (maxSteps := 2000000) only [↓wP, wQ, wQ1, wQ2, wQ3, wR, boxE, partsOf, ↓reduceIte, Nat.reduceEqDiff, Nat.reduceAdd, Nat.reduceSub, Nat.reduceLeDiff, Nat.reduceLT, Nat.reduceMul, reduceCtorEq, Int.reduceBNe, Int.reduceBEq, Int.reduceLT, Int.reduceLE, Int.reduceGT, h1, h2, h3, e]
      · have h30 := f30 o hl
        by_cases h4 : Srt (lst o)
        · have e : topE k (lst o) = 0 := if_pos ⟨by omega, by omega, by omega, h4⟩
          simp +contextual -implicitDefEqProofs (maxSteps := 2000000) only [↓wP, wQ, wQ1, wQ2, wQ3, wR, boxE, partsOf, ↓reduceIte, Nat.reduceEqDiff, Nat.reduceAdd, Nat.reduceSub, Nat.reduceLeDiff, Nat.reduceLT, Nat.reduceMul, reduceCtorEq, Int.reduceBNe, Int.reduceBEq, Int.reduceLT, Int.reduceLE, Int.reduceGT, h1, h2, h3, h4, e, h30]
        · have e : topE k (lst o) = 160 := if_neg (fun h => h4 h.2.2.2)
          simp +contextual -implicitDefEqProofs (maxSteps := 2000000) only [↓wP, wQ, wQ1, wQ2, wQ3, wR, boxE, partsOf, ↓reduceIte, Nat.reduceEqDiff, Nat.reduceAdd, Nat.reduceSub, Nat.reduceLeDiff, Nat.reduceLT, Nat.reduceMul, reduceCtorEq, Int.reduceBNe, Int.reduceBEq, Int.reduceLT, Int.reduceLE, Int.reduceGT, h1, h2, h3, h4, e, h30]

theorem f22 (k : Int) (o : Option (List Hit)) (hl : (lst o).length < 9223372036854775808) (fs : Bool) (σ : Sto) (n lk : Nat) : callE T fs 22 [.agg [.int .i64 k, slV 2 hitV o]] σ n lk = some (.int .i64 (topE k (lst o)), σ, n) :=
  callE_tr (by decide) (r22 k o hl) (by simp [Tr, Tr_slV]) rfl fs σ n lk

theorem r21 (k : Int) (o : Option (List Hit)) (hl : (lst o).length < 9223372036854775808) : res T 21 [.agg [.int .i64 k, slV 2 hitV o]] = some (.bool (decide (TopOk k (lst o)))) := by
  refine run_res (run_pure (fn := g21) rfl rfl (by decide) ?_)
  simp only [g21, b21]
  by_cases h1 : k < 1
  · have e : ¬ TopOk k (lst o) := fun h => by have := h.1; omega
    simp +contextual -implicitDefEqProofs (maxSteps := 2000000) only [↓wP, wQ, wQ1, wQ2, wQ3, wR, boxE, partsOf, ↓reduceIte, Nat.reduceEqDiff, Nat.reduceAdd, Nat.reduceSub, Nat.reduceLeDiff, Nat.reduceLT, Nat.reduceMul, reduceCtorEq, Int.reduceBNe, Int.reduceBEq, Int.reduceLT, Int.reduceLE, Int.reduceGT, h1, e]
  · by_cases h2 : 16 < k
    · have e : ¬ TopOk k (lst o) := fun h => by have := h.2.1; omega
      simp +contextual -implicitDefEqProofs (maxSteps := 2000000) only [↓wP, wQ, wQ1, wQ2, wQ3, wR, boxE, partsOf, ↓reduceIte, Nat.reduceEqDiff, Nat.reduceAdd, Nat.reduceSub, Nat.reduceLeDiff, Nat.reduceLT, Nat.reduceMul, reduceCtorEq, Int.reduceBNe, Int.reduceBEq, Int.reduceLT, Int.reduceLE, Int.reduceGT, h1, h2, e]
    · by_cases h3 : k < ((lst o).length : Int)
      · have e : ¬ TopOk k (lst o) := fun h => by have := h.2.2.1; omega
        simp +contextual -implicitDefEqProofs (maxSteps := 2000000) only [↓wP, wQ, wQ1, wQ2, wQ3, wR, boxE, partsOf, ↓reduceIte, Nat.reduceEqDiff, Nat.reduceAdd, Nat.reduceSub, Nat.reduceLeDiff, Nat.reduceLT, Nat.reduceMul, reduceCtorEq, Int.reduceBNe, Int.reduceBEq, Int.reduceLT, Int.reduceLE, Int.reduceGT, h1, h2, h3, e]
      · simp +contextual -implicitDefEqProofs (maxSteps := 2000000) only [↓wP, wQ, wQ1, wQ2, wQ3, wR, boxE, partsOf, ↓reduceIte, Nat.reduceEqDiff, Nat.reduceAdd, Nat.reduceSub, Nat.reduceLeDiff, Nat.reduceLT, Nat.reduceMul, reduceCtorEq, Int.reduceBNe, Int.reduceBEq, Int.reduceLT, Int.reduceLE, Int.reduceGT, h1, h2, h3]
        refine WC_loopI 0 (fun (i : Nat) env σ' n' => n' = 1 ∧ σ' 0 = some (.row 2 [.agg [.int .i64 k, slV 2 hitV o]]) ∧ env 1 = .ptr 0 2 0 0 ∧ env 3 = .int .i64 ((i + 1 : Nat) : Int) ∧ i ≤ 20 ∧ ∀ q, (h : q + 1 < (lst o).length) → q < i → ahead (lst o)[q + 1] (lst o)[q] = false) (fun i => 21 - i) ?_ 0 _ _ _ ?_
        · intro i env σ' n' ⟨g1, g2, g3, g4, g5, g6⟩
          subst g1
          by_cases hi : i + 1 < (lst o).length
          · have hi' : ((i + 1 : Nat) : Int) < ((lst o).length : Int) := by omega
            have w1 : IntKind.i64.wrap (((i + 1 : Nat) : Int) - 1) = (i : Int) := by rw [wrap_i64] <;> omega
            have w2 : IntKind.i64.wrap (((i + 1 : Nat) : Int) + 1) = ((i + 1 + 1 : Nat) : Int) := by rw [wrap_i64] <;> omega
            have x1 : (lst o)[i + 1]? = some (lst o)[i + 1] := List.getElem?_eq_getElem hi
            have x2 : (lst o)[i]? = some (lst o)[i] := List.getElem?_eq_getElem (by omega)
            cases hah : ahead (lst o)[i + 1] (lst o)[i]
            · have e29 : ahead ⟨(lst o)[i + 1].id, (lst o)[i + 1].d⟩ ⟨(lst o)[i].id, (lst o)[i].d⟩ = false := hah
              simp +contextual -implicitDefEqProofs (maxSteps := 2000000) only [↓wP, wQ, wQ1, wQ2, wQ3, wR, boxE, partsOf, ↓reduceIte, Nat.reduceEqDiff, Nat.reduceAdd, Nat.reduceSub, Nat.reduceLeDiff, Nat.reduceLT, Nat.reduceMul, reduceCtorEq, Int.reduceBNe, Int.reduceBEq, Int.reduceLT, Int.reduceLE, Int.reduceGT, g2, g3, g4, hi', w1, w2, x1, x2, hitV_eq, f29, e29]
              refine ⟨i + 1, by omega, rfl, by omega, fun q hq hlt => ?_⟩
              by_cases e : q = i
              · subst e; exact hah
              · exact g6 q hq (by omega)
            · have e29 : ahead ⟨(lst o)[i + 1].id, (lst o)[i + 1].d⟩ ⟨(lst o)[i].id, (lst o)[i].d⟩ = true := hah
              have e : ¬ TopOk k (lst o) := fun h => by
                have := srt_pair.1 h.2.2.2 i hi
                rw [hah] at this; cases this
              simp +contextual -implicitDefEqProofs (maxSteps := 2000000) only [↓wP, wQ, wQ1, wQ2, wQ3, wR, boxE, partsOf, ↓reduceIte, Nat.reduceEqDiff, Nat.reduceAdd, Nat.reduceSub, Nat.reduceLeDiff, Nat.reduceLT, Nat.reduceMul, reduceCtorEq, Int.reduceBNe, Int.reduceBEq, Int.reduceLT, Int.reduceLE, Int.reduceGT, g2, g3, g4, hi', w1, x1, x2, hitV_eq, f29, e29, e]
          · have hi' : ¬ ((i + 1 : Nat) : Int) < ((lst o).length : Int) := by omega
            have e : TopOk k (lst o) := ⟨by omega, by omega, by omega, srt_pair.2 fun q hq => g6 q hq (by omega)⟩
            simp +contextual -implicitDefEqProofs (maxSteps := 2000000) only [↓wP, wQ, wQ1, wQ2, wQ3, wR, boxE, partsOf, ↓reduceIte, Nat.reduceEqDiff, Nat.reduceAdd, Nat.reduceSub, Nat.reduceLeDiff, Nat.reduceLT, Nat.reduceMul, reduceCtorEq, Int.reduceBNe, Int.reduceBEq, Int.reduceLT, Int.reduceLE, Int.reduceGT, g2, g3, g4, hi', e]
        · simp +contextual -implicitDefEqProofs (maxSteps := 2000000) only [↓wP, wQ, wQ1, wQ2, wQ3, wR, boxE, partsOf, ↓reduceIte, Nat.reduceEqDiff, Nat.reduceAdd, Nat.reduceSub, Nat.reduceLeDiff, Nat.reduceLT, Nat.reduceMul, reduceCtorEq, Int.reduceBNe, Int.reduceBEq, Int.reduceLT, Int.reduceLE, Int.reduceGT]
          exact ⟨rfl, fun q hq h => absurd h (by omega)⟩

theorem f21 (k : Int) (o : Option (List Hit)) (hl : (lst o).length < 9223372036854775808) (fs : Bool) (σ : Sto) (n lk : Nat) : callE T fs 21 [.agg [.int .i64 k, slV 2 hitV o]] σ n lk = some (.bool (decide (TopOk k (lst o))), σ, n) :=
  callE_tr (by decide) (r21 k o hl) (by simp [Tr, Tr_slV]) rfl fs σ n lk

def lastV (k : Int) (l : List Hit) : V := if TopOk k l ∧ (l.length : Int) = k then (match l.getLast? with | some h => hitV h | none => hitV ⟨0, 0⟩) else hitV ⟨0, 0⟩
theorem r23 (k : Int) (o : Option (List Hit)) (hl : (lst o).length < 9223372036854775808) : res T 23 [.agg [.int .i64 k, slV 2 hitV o]] = some (.tup [lastV k (lst o), .bool (decide (TopOk k (lst o) ∧ ((lst o).length : Int) = k))]) := by
  refine run_res (run_pure (fn := g23) rfl rfl (by decide) ?_)
  simp only [g23, b23]
  have h22 := f22 k o hl
  by_cases h1 : TopOk k (lst o)
  · have e : topE k (lst o) = 0 := if_pos h1
    obtain ⟨a1, a2, a3, a4⟩ := h1
    by_cases h2 : ((lst o).length : Int) = k
    · have h3 : ¬ ((lst o).length : Int) < k := by omega
      have hx : (lst o)[(lst o).length - 1]? = some (lst o)[(lst o).length - 1] := List.getElem?_eq_getElem (by omega)
      have hy : lastV k (lst o) = .agg [.int .u64 (lst o)[(lst o).length - 1].id, .int .u64 (lst o)[(lst o).length - 1].d] := by
        unfold lastV
        rw [if_pos ⟨⟨a1, a2, a3, a4⟩, h2⟩, List.getLast?_eq_getElem?, hx]
        rfl
      have w1 : IntKind.i64.wrap (((lst o).length : Int) - 1) = (((lst o).length - 1 : Nat) : Int) := by rw [wrap_i64] <;> omega
      subst h2
      have hd : TopOk ((lst o).length : Int) (lst o) := ⟨a1, a2, a3, a4⟩
      simp +contextual -implicitDefEqProofs (maxSteps := 2000000) only [↓wP, wQ, wQ1, wQ2, wQ3, wR, boxE, partsOf, ↓reduceIte, Nat.reduceEqDiff, Nat.reduceAdd, Nat.reduceSub, Nat.reduceLeDiff, Nat.reduceLT, Nat.reduceMul, reduceCtorEq, Int.reduceBNe, Int.reduceBEq, Int.reduceLT, Int.reduceLE, Int.reduceGT, h22, e, h3, hx, hy, w1, hitV_eq, hd]
      rfl
    · have h3 : ((lst o).length : Int) < k := by omega
      have hy : lastV k (lst o) = .agg [.int .u64 0, .int .u64 0] := if_neg fun h => h2 h.2
      simp +contextual -implicitDefEqProofs (maxSteps := 2000000) only [↓wP, wQ, wQ1, wQ2, wQ3, wR, boxE, partsOf, ↓reduceIte, Nat.reduceEqDiff, Nat.reduceAdd, Nat.reduceSub, Nat.reduceLeDiff, Nat.reduceLT, Nat.reduceMul, reduceCtorEq, Int.reduceBNe, Int.reduceBEq, Int.reduceLT, Int.reduceLE, Int.reduceGT, h22, e, h3, hy, h2, and_false, false_and]
      rfl
  · have e : topE k (lst o) = 160 := if_neg h1
    have hy : lastV k (lst o) = .agg [.int .u64 0, .int .u64 0] := if_neg fun h => h1 h.1
    simp +contextual -implicitDefEqProofs (maxSteps := 2000000) only [↓wP, wQ, wQ1, wQ2, wQ3, wR, boxE, partsOf, ↓reduceIte, Nat.reduceEqDiff, Nat.reduceAdd, Nat.reduceSub, Nat.reduceLeDiff, Nat.reduceLT, Nat.reduceMul, reduceCtorEq, Int.reduceBNe, Int.reduceBEq, Int.reduceLT, Int.reduceLE, Int.reduceGT, h22, e, hy, h1, and_false, false_and]
    rfl

end Go.Q.S6
end

section
/- What is offered. -/
set_option linter.unusedSimpArgs false
set_option linter.unusedVariables false
namespace Go.Q.S6
open Go.Q Go.Sort

def offE (k : Int) (t l : List Hit) : Int := if TopOk k t then (if 2000 < l.length then 3 else 0) else 160
def offV (k : Int) (t l : List Hit) : List Hit := if offE k t l = 0 then fst' k.toNat (t ++ l) else []
def offK (k : Int) (t l : List Hit) : Int := if offE k t l = 0 then k else 0

theorem hVal_givG {σ : Sto} {n : Nat} {l : List Hit} (k : Nat) (h : l ≠ [] → σ n = some (.row 2 (hs l))) : giv σ (k + 3) (hVal n l) = some (ownH l) ∧ (gids σ (k + 3) (hVal n l)).Nodup := by
  unfold hVal
  by_cases hl : l = []
  · rw [if_pos hl, hl]; exact ⟨rfl, by simp [gids]⟩
  · rw [if_neg hl, ownH_eq hl]
    have hat := h hl
    have hg : ∀ x ∈ hs l, elemM (giv σ (k + 2)) x = some x := by
      intro x hx
      obtain ⟨y, -, rfl⟩ := List.mem_map.1 hx
      rfl
    have hg' : ∀ x ∈ hs l, ∀ c ∈ x.cells, gids σ (k + 2) c = [] := by
      intro x hx c hc
      obtain ⟨y, -, rfl⟩ := List.mem_map.1 hx
      simp only [hitV, V.cells, List.mem_cons, List.not_mem_nil, or_false] at hc
      rcases hc with rfl | rfl <;> rfl
    constructor
    · simp only [giv, hat, hs_len, and_self, if_true]
      rw [mapM_id hg]; rfl
    · simp only [gids, hat]
      rw [List.flatMap_eq_nil_iff.2 fun x hx => List.flatMap_eq_nil_iff.2 fun c hc => hg' x hx c hc]
      simp
theorem one_hVal (n : Nat) (l : List Hit) : (hVal n l).one = true := by unfold hVal; split <;> rfl
theorem cl_hVal (n : Nat) (l : List Hit) : (hVal n l).cells = [hVal n l] := by unfold hVal; split <;> rfl
theorem giv_top {σ : Sto} {n : Nat} {l : List Hit} {k e : Int} (h : l ≠ [] → σ n = some (.row 2 (hs l))) :
    giv σ 12 (.tup [.agg [.int .i64 k, hVal n l], .int .i64 e]) = some (.tup [.agg [.int .i64 k, ownH l], .int .i64 e]) ∧ (gids σ 12 (.tup [.agg [.int .i64 k, hVal n l], .int .i64 e])).Nodup := by
  obtain ⟨h1, h2⟩ := hVal_givG 7 h
  constructor
  · simp only [giv, List.mapM_cons, List.mapM_nil, h1]; rfl
  · simp only [gids, List.flatMap_cons, List.flatMap_nil, List.append_nil, List.nil_append]; exact h2

theorem f25 {σ : Sto} {id : Nat} (kn : Nat) (o q : Option (List Hit)) (h1 : 0 < kn) (h2 : kn ≤ 16) (hl : (lst o).length < 4611686018427387904) (hq : (lst q).length < 4611686018427387904)
    (h : σ id = some (.row 1 [slV 2 hitV o, slV 2 hitV q])) (fs : Bool) (n lk : Nat) :
    callE T fs 25 [.int .i64 (kn : Int), .ref id 0 2 1] σ n lk = some (hVal n (fst' kn (lst o ++ lst q)), hSto σ n (fst' kn (lst o ++ lst q)), hN n (fst' kn (lst o ++ lst q))) := by
  have h25 := r25 kn (some [o, q]) h1 (by omega) (by simp [lst]) (fun r hr => by simp [lst_some] at hr; rcases hr with rfl | rfl <;> omega)
  have e0 : (lst (some [o, q])).flatMap lst = lst o ++ lst q := by simp [lst]
  rw [e0] at h25
  have e : [V.int .i64 (kn : Int), .ref id 0 2 1].mapM (frz σ 12) = some [V.int .i64 (kn : Int), slV 1 (slV 2 hitV) (some [o, q])] := by
    have hx : frz σ 12 (.ref id 0 2 1) = some (.sl 1 [slV 2 hitV o, slV 2 hitV q]) := by
      have ht : ∀ x ∈ [slV 2 hitV o, slV 2 hitV q], Tr 11 x = true ∧ x.cells = [x] := by
        intro x hx
        simp only [List.mem_cons, List.not_mem_nil, or_false] at hx
        rcases hx with rfl | rfl <;> exact ⟨Tr_slV 2 _ _ _, cl_slV 2 _ _⟩
      have := (Fz.ref (σ := σ) (id := id) (sz := 1) (xs := [slV 2 hitV o, slV 2 hitV q]) (ts := [slV 2 hitV o, slV 2 hitV q]) (k := 11) (S := fun _ => True) h trivial
        (FzL.trees (fun x hx => (ht x hx).1) (fun x hx c hc => by rw [(ht x hx).2, List.mem_singleton] at hc; subst hc; exact (ht _ hx).1))).1
      exact this
    simp only [List.mapM_cons, List.mapM_nil, hx, frz_int]
    rfl
  rw [callE_flat (by decide) e h25 (flat_ownH _), thaw_ownH]

theorem r20 (k : Int) (o q : Option (List Hit)) (hl : (lst o).length < 4611686018427387904) (hq : (lst q).length < 4611686018427387904) :
    res T 20 [.agg [.int .i64 k, slV 2 hitV o], slV 2 hitV q] = some (.tup [.agg [.int .i64 (offK k (lst o) (lst q)), ownH (offV k (lst o) (lst q))], .int .i64 (offE k (lst o) (lst q))]) := by
  refine run_res (run_own (fn := g20) rfl rfl (by decide) ?_)
  simp only [g20, b20]
  have h22 := f22 k o (by omega)
  by_cases h1 : TopOk k (lst o)
  · have e : topE k (lst o) = 0 := if_pos h1
    by_cases h2 : 2000 < (lst q).length
    · have h2' : (2000 : Int) < ((lst q).length : Int) := by omega
      have e1 : offE k (lst o) (lst q) = 3 := by unfold offE; rw [if_pos h1, if_pos h2]
      have e2 : offV k (lst o) (lst q) = [] := by unfold offV; rw [e1]; rfl
      have e3 : offK k (lst o) (lst q) = 0 := by unfold offK; rw [e1]; rfl
      rw [e1, e2, e3]
      simp +contextual -implicitDefEqProofs (maxSteps := 2000000) only [↓wP, wQ, wQ1, wQ2, wQ3, wR, boxE, partsOf, ↓reduceIte, Nat.reduceEqDiff, Nat.reduceAdd, Nat.reduceSub, Nat.reduceLeDiff, Nat.reduceLT, Nat.reduceMul, reduceCtorEq, Int.reduceBNe, Int.reduceBEq, Int.reduceLT, Int.reduceLE, Int.reduceGT, h22, e, h2']
      exact giv_top (n := 0) (l := []) (fun h => absurd rfl h)
    · have h2' : ¬ (2000 : Int) < ((lst q).length : Int) := by omega
      have e1 : offE k (lst o) (lst q) = 0 := by unfold offE; rw [if_pos h1, if_neg h2]
      obtain ⟨kn, rfl⟩ : ∃ kn : Nat, k = (kn : Int) := ⟨k.toNat, by have := h1.1; omega⟩
      have e2 : offV (kn : Int) (lst o) (lst q) = fst' kn (lst o ++ lst q) := by unfold offV; rw [if_pos e1]; rfl
      have e3 : offK (kn : Int) (lst o) (lst q) = kn := by unfold offK; rw [if_pos e1]
      rw [e1, e2, e3]
      have hB := big_le
      have f0 : ∀ (σ : Sto) (hid : List Nat), hide σ 2 2 hid 0 = σ 0 := fun σ hid => hide_low σ 2 2 hid (by decide) (Nat.le_refl _)
      have g0 : ∀ σ σ' : Sto, merge σ σ' 2 0 = σ 0 := fun σ σ' => merge_low σ σ' 2 (by decide)
      have g1 : ∀ σ σ' : Sto, merge σ σ' 2 1 = σ 1 := fun σ σ' => merge_low σ σ' 2 (by decide)
      have g2 : ∀ σ σ' : Sto, merge σ σ' 2 2 = σ' 2 := fun σ σ' => merge_in σ σ' 2 (by decide) (by omega)
      have y1 : (2 + 1 ≤ 2 + BIG) = True := by simp; omega
      have y2 : (3 ≤ 2 + BIG) = True := by simp; omega
      have c25 := fun (σ : Sto) n lk h => f25 (σ := σ) (id := 2) kn o q (by have := h1.1; omega) (by have := h1.2.1; omega) hl hq h false n lk
      have y3 : ∀ l, (hN (2 + BIG * 1) l ≤ 2 + BIG * 1 + BIG) = True := fun l => by have : hN (2 + BIG * 1) l ≤ 2 + BIG * 1 + 1 := by (unfold hN; split <;> omega)
                                                                                    simp only [eq_iff_iff, iff_true]; omega
      have y4 : ∀ l, (hN (2 + BIG * 1) l ≤ 2 + (BIG * 1 + BIG)) = True := fun l => by rw [← Nat.add_assoc]; exact y3 l
      have g3 : ∀ σ σ' : Sto, merge σ σ' (2 + BIG * 1) 1 = σ 1 := fun σ σ' => merge_low σ σ' _ (by omega)
      simp +contextual -implicitDefEqProofs (maxSteps := 2000000) only [↓wP, wQ, wQ1, wQ2, wQ3, wR, boxE, partsOf, ↓reduceIte, Nat.reduceEqDiff, Nat.reduceAdd, Nat.reduceSub, Nat.reduceLeDiff, Nat.reduceLT, Nat.reduceMul, reduceCtorEq, Int.reduceBNe, Int.reduceBEq, Int.reduceLT, Int.reduceLE, Int.reduceGT, h22, e, h2', f0, g0, g1, g2, y1, y2, c25, y3, y4, g3, one_hVal, cl_hVal]
      refine giv_top (n := 2 + BIG * 1) (l := fst' kn (lst o ++ lst q)) (fun hne => ?_)
      have v1 : ¬ 2 + BIG * 1 = 1 := by omega
      simp only [upd, v1, if_false]
      rw [merge_in _ _ _ (Nat.le_refl _) (by omega)]
      unfold hSto
      rw [if_neg hne]
      simp [upd]
  · have e : topE k (lst o) = 160 := if_neg h1
    have e1 : offE k (lst o) (lst q) = 160 := if_neg h1
    have e2 : offV k (lst o) (lst q) = [] := by unfold offV; rw [e1]; rfl
    have e3 : offK k (lst o) (lst q) = 0 := by unfold offK; rw [e1]; rfl
    rw [e1, e2, e3]
    simp +contextual -implicitDefEqProofs (maxSteps := 2000000) only [↓wP, wQ, wQ1, wQ2, wQ3, wR, boxE, partsOf, ↓reduceIte, Nat.reduceEqDiff, Nat.reduceAdd, Nat.reduceSub, Nat.reduceLeDiff, Nat.reduceLT, Nat.reduceMul, reduceCtorEq, Int.reduceBNe, Int.reduceBEq, Int.reduceLT, Int.reduceLE, Int.reduceGT, h22, e]
    exact giv_top (n := 0) (l := []) (fun h => absurd rfl h)


theorem f20 {σ : Sto} {v w : V} {t l : List Hit} (k : Int) (ha : ∃ o, lst o = t ∧ frz σ 11 v = some (slV 2 hitV o)) (hb : Hf σ w l) (hl : t.length < 4611686018427387904) (hq : l.length < 4611686018427387904) (fs : Bool) (n lk : Nat) :
    callE T fs 20 [.agg [.int .i64 k, v], w] σ n lk =
      some (.tup [.agg [.int .i64 (offK k t l), hVal n (offV k t l)], .int .i64 (offE k t l)], hSto σ n (offV k t l), hN n (offV k t l)) := by
  obtain ⟨o, rfl, h1⟩ := ha
  obtain ⟨q, rfl, h2⟩ := hb
  have e : [V.agg [.int .i64 k, v], w].mapM (frz σ 12) = some [V.agg [.int .i64 k, slV 2 hitV o], slV 2 hitV q] := by
    simp only [List.mapM_cons, List.mapM_nil, h2, frz, h1]; rfl
  rw [callE_flat (by decide) e (r20 k o q hl hq) (by simp [flat, flatL, flat_ownH])]
  rw [thaw_tup, thawL_cons]
  simp only [thaw_agg, thawL_cons, thawL_nil, thaw_int, thaw_ownH]

end Go.Q.S6
end

section
/- The layer does something. -/
set_option linter.unusedSimpArgs false
set_option linter.unusedVariables false
namespace Go.Q.S6
open Go.Q

def isTrue' : Option Out → Bool
  | some (.val (.bool true)) => true
  | _ => false
theorem isTrue_eq {o : Option Out} (h : isTrue' o = true) : o = some (.val (.bool true)) := by
  unfold isTrue' at h
  split at h
  · rfl
  · cases h

theorem r11 : res T 11 [] = some (.bool true) := by
  have h : isTrue' (exJob T 60 (.pure 11 [])) = true := by decide +kernel
  exact run_res (exJob_sound 60 _ _ (isTrue_eq h))
theorem f11 (fs : Bool) (σ : Sto) (n lk : Nat) : callE T fs 11 [] σ n lk = some (.bool true, σ, n) := callE_tr (by decide) r11 rfl rfl fs σ n lk
end Go.Q.S6
end

section
/- The first ones of a row are the document's. -/
set_option linter.unusedSimpArgs false
set_option linter.unusedVariables false
namespace Go.Q.S6
open Go.Q Go.Sort

def i64V (x : Int) : V := .int .i64 x
theorem i64V_eq (x : Int) : i64V x = .int .i64 x := rfl

/-- What stands for a row of hits, in the store. -/
theorem Hf.hVal {σ : Sto} {n : Nat} {l : List Hit} (h : l ≠ [] → σ n = some (.row 2 (hs l))) : Hf σ (hVal n l) l := by
  unfold Go.Q.S6.hVal
  by_cases hl : l = []
  · rw [if_pos hl, hl]
    exact Hf.tree σ none
  · rw [if_neg hl]; exact Hf.row (h hl) rfl
theorem hSto_self {σ : Sto} {n : Nat} {l : List Hit} (h : l ≠ []) : hSto σ n l n = some (.row 2 (hs l)) := by unfold hSto; rw [if_neg h]; simp [upd]
theorem hSto_ne {σ : Sto} {n i : Nat} {l : List Hit} (h : i ≠ n) : hSto σ n l i = σ i := by
  unfold hSto; split
  · rfl
  · simp [upd, h]

/-- Rows of hits of whatever content. -/
def Rh (m : Nat) (xs : List V) : Prop := xs.length = m ∧ ∀ i, i < m → ∃ a b : Int, xs[i]? = some (.agg [.int .u64 a, .int .u64 b])
theorem Rh.hs (l : List Hit) : Rh l.length (hs l) := ⟨hs_len l, fun i hi => ⟨_, _, hs_get hi⟩⟩
theorem Rh.set {m : Nat} {xs : List V} (h : Rh m xs) (i : Nat) (a b : Int) : Rh m (xs.set i (.agg [.int .u64 a, .int .u64 b])) := by
  refine ⟨by rw [List.length_set]; exact h.1, fun j hj => ?_⟩
  by_cases e : i = j
  · subst e
    rw [List.getElem?_set_self (by rw [h.1]; exact hj)]
    exact ⟨_, _, rfl⟩
  · rw [List.getElem?_set_ne e]; exact h.2 j hj

theorem r3 (o : Option (List Hit)) (q : Option (List Int)) (hl : (lst o).length < 9223372036854775808) (hq : (lst q).length < 9223372036854775808) : res T 3 [slV 2 hitV o, slV 1 i64V q] = some (.bool true) := by
  refine run_res (run_pure (fn := g3) rfl rfl (by decide) ?_)
  simp only [g3, b3]
  simp +contextual -implicitDefEqProofs (maxSteps := 2000000) only [↓wP, wQ, wQ1, wQ2, wQ3, wR, boxE, partsOf, ↓reduceIte, Nat.reduceEqDiff, Nat.reduceAdd, Nat.reduceSub, Nat.reduceLeDiff, Nat.reduceLT, Nat.reduceMul, reduceCtorEq, Int.reduceBNe, Int.reduceBEq, Int.reduceLT, Int.reduceLE, Int.reduceGT, f11]
  refine WC_for (lst q).length 0 (fun (j : Nat) env σ n => env 0 = slV 2 hitV o ∧ env 13 = slV 1 i64V q) hq (by decide) (by decide) (fun _ _ => rfl) (fun _ _ _ => rfl) ?_ ?_ _ _ _ rfl rfl ?_
  · intro j env σ n hj h1 h2 ⟨h3, h4⟩
    simp only [vl_tmp] at h2
    have hx : (lst q)[j]? = some (lst q)[j] := List.getElem?_eq_getElem hj
    generalize (lst q)[j] = k at *
    by_cases h8 : (j : Int) = 8
    · have h8' : ((j : Int) == 8) = true := by simpa using h8
      simp +contextual -implicitDefEqProofs (maxSteps := 2000000) only [↓wP, wQ, wQ1, wQ2, wQ3, wR, boxE, partsOf, ↓reduceIte, Nat.reduceEqDiff, Nat.reduceAdd, Nat.reduceSub, Nat.reduceLeDiff, Nat.reduceLT, Nat.reduceMul, reduceCtorEq, Int.reduceBNe, Int.reduceBEq, Int.reduceLT, Int.reduceLE, Int.reduceGT, h1, h2, h3, h4, hx, i64V_eq, h8']
    · have h8' : ((j : Int) == 8) = false := by simpa using h8
      obtain ⟨L, hL⟩ : ∃ L, L = (lst o).take 300 := ⟨_, rfl⟩
      have hLl : L.length ≤ 300 := by rw [hL, List.length_take]; omega
      have h12 := fun σ n lk => f12 o 300 (by decide) hl true σ n lk
      rw [← hL] at h12
      simp only [show ((300 : Nat) : Int) = 300 from rfl] at h12
      obtain ⟨σ1, hσ1⟩ : ∃ σ1, σ1 = upd σ n (some (.row 2 (hs L))) := ⟨_, rfl⟩
      have s1 : σ1 n = some (.row 2 (hs L)) := by rw [hσ1]; simp [upd]
      have c12 := h12 σ n 0
      rw [← hσ1] at c12
      have c13 := f13 (σ := σ1) (v := .ref n 0 L.length 2) (l := L) k (Hf.row s1 rfl) (by omega) true (n + 1) 0
      by_cases hk : k < 1 ∨ 16 < k
      · have e1 : merE k L = 2 := if_pos hk
        have e2 : merV k L = [] := by unfold merV; rw [e1]; rfl
        rw [e1, e2] at c13
        have e3 : hVal (n + 1) [] = .nilS := rfl
        have e4 : hSto σ1 (n + 1) [] = σ1 := rfl
        have e5 : hN (n + 1) [] = n + 1 := rfl
        rw [e3, e4, e5] at c13
        by_cases hk1 : k < 1
        · simp +contextual -implicitDefEqProofs (maxSteps := 2000000) only [↓wP, wQ, wQ1, wQ2, wQ3, wR, boxE, partsOf, ↓reduceIte, Nat.reduceEqDiff, Nat.reduceAdd, Nat.reduceSub, Nat.reduceLeDiff, Nat.reduceLT, Nat.reduceMul, reduceCtorEq, Int.reduceBNe, Int.reduceBEq, Int.reduceLT, Int.reduceLE, Int.reduceGT, h1, h2, h3, h4, hx, i64V_eq, h8', c12, c13, hk1, Int.natCast_zero]
        · have hk2 : 16 < k := by omega
          simp +contextual -implicitDefEqProofs (maxSteps := 2000000) only [↓wP, wQ, wQ1, wQ2, wQ3, wR, boxE, partsOf, ↓reduceIte, Nat.reduceEqDiff, Nat.reduceAdd, Nat.reduceSub, Nat.reduceLeDiff, Nat.reduceLT, Nat.reduceMul, reduceCtorEq, Int.reduceBNe, Int.reduceBEq, Int.reduceLT, Int.reduceLE, Int.reduceGT, h1, h2, h3, h4, hx, i64V_eq, h8', c12, c13, hk1, hk2, Int.natCast_zero]
      · have e1 : merE k L = 0 := by unfold merE; rw [if_neg hk, if_neg (by omega)]
        obtain ⟨kn, rfl⟩ : ∃ kn : Nat, k = (kn : Int) := ⟨k.toNat, by omega⟩
        have e2 : merV (kn : Int) L = fst' kn L := by unfold merV; rw [if_pos e1]; rfl
        rw [e1, e2] at c13
        have hfl := fst_len kn L
        obtain ⟨M, hM⟩ : ∃ M, M = fst' kn L := ⟨_, rfl⟩
        rw [← hM] at c13 hfl
        have hk1 : ¬ (kn : Int) < 1 := by omega
        have hk2 : ¬ 16 < (kn : Int) := by omega
        obtain ⟨σ2, hσ2⟩ : ∃ σ2, σ2 = hSto σ1 (n + 1) M := ⟨_, rfl⟩
        obtain ⟨n2, hn2⟩ : ∃ n2, n2 = hN (n + 1) M := ⟨_, rfl⟩
        rw [← hσ2, ← hn2] at c13
        have hnn : n + 1 ≤ n2 := by rw [hn2]; exact hN_le _ _
        have hn1 : M ≠ [] → n + 1 < n2 := by intro h; rw [hn2]; unfold hN; rw [if_neg h]; omega
        have t2 : σ2 n = some (.row 2 (hs L)) := by rw [hσ2, hSto_ne (by omega), s1]
        have t2' : M ≠ [] → σ2 (n + 1) = some (.row 2 (hs M)) := fun h => by rw [hσ2]; exact hSto_self h
        obtain ⟨σ3, hσ3⟩ : ∃ σ3, σ3 = upd σ2 n2 (some (.row 2 (hs L))) := ⟨_, rfl⟩
        have c12b := h12 σ2 n2 0
        rw [← hσ3] at c12b
        have c15 := f15 (σ := σ3) (id := n2) (l := L) kn L.length (by rw [hσ3]; simp [upd]) rfl (by omega) (by omega) (n2 + 1)
        obtain ⟨σ4, hσ4⟩ : ∃ σ4, σ4 = dr σ3 n2 L := ⟨_, rfl⟩
        rw [← hσ4] at c15
        have t4 : σ4 n = some (.row 2 (hs L)) := by
          rw [hσ4, dr_at _ _ _ (by omega), hσ3]
          have : n ≠ n2 := by omega
          simp [upd, this, t2]
        have t4' : M ≠ [] → σ4 (n + 1) = some (.row 2 (hs M)) := fun h => by
          have h5 := hn1 h
          have : n + 1 ≠ n2 := by omega
          rw [hσ4, dr_at _ _ _ this, hσ3]
          simp [upd, this, t2' h]
        have c14 := f14 (σ := σ4) (v := hVal (n + 1) M) (w := slV 2 hitV (refF kn L)) (a := M) (b := lst (refF kn L)) (Hf.hVal t4') (Hf.tree _ _) (by omega) true (n2 + 1) 0
        have hd : decide (M = lst (refF kn L)) = true := by rw [lst_refF, hM]; simp
        rw [hd] at c14
        obtain ⟨σ5, hσ5⟩ : ∃ σ5, σ5 = upd σ4 (n2 + 1) (some (.row 2 (hs L))) := ⟨_, rfl⟩
        have c12c := h12 σ4 (n2 + 1) 0
        rw [← hσ5] at c12c
        have u5 : σ5 (n2 + 1) = some (.row 2 (hs L)) := by rw [hσ5]; simp [upd]
        have t5 : σ5 n = some (.row 2 (hs L)) := by
          have : n ≠ n2 + 1 := by omega
          rw [hσ5]; simp [upd, this, t4]
        have t5' : M ≠ [] → σ5 (n + 1) = some (.row 2 (hs M)) := fun h => by
          have h5 := hn1 h
          have : n + 1 ≠ n2 + 1 := by omega
          rw [hσ5]; simp only [upd, this, if_false]; exact t4' h
        have c14b := f14 (σ := σ5) (v := .ref n 0 L.length 2) (w := .ref (n2 + 1) 0 L.length 2) (a := L) (b := L) (Hf.row t5 rfl) (Hf.row u5 rfl) (by omega) true (n2 + 1 + 1) 0
        simp only [decide_true] at c14b
        have hlen := hVal_len (n + 1) M
        simp +contextual -implicitDefEqProofs (maxSteps := 2000000) only [↓wP, wQ, wQ1, wQ2, wQ3, wR, boxE, partsOf, ↓reduceIte, Nat.reduceEqDiff, Nat.reduceAdd, Nat.reduceSub, Nat.reduceLeDiff, Nat.reduceLT, Nat.reduceMul, reduceCtorEq, Int.reduceBNe, Int.reduceBEq, Int.reduceLT, Int.reduceLE, Int.reduceGT, h1, h2, h3, h4, hx, i64V_eq, h8', c12, c13, hk1, hk2, c12b, c15, c14, c12c, c14b, hlen]
        refine WC_for M.length 0 (fun (p : Nat) env σ' n' => n' = n2 + 2 ∧ env 0 = slV 2 hitV o ∧ env 13 = slV 1 i64V q ∧ env 15 = .int .i64 (j : Int) ∧ env 14 = .int .i64 ((lst q).length : Int) ∧ env 7 = .ref n 0 L.length 2 ∧ env 8 = hVal (n + 1) M ∧
            (∀ i, i ≠ n + 1 → σ' i = σ5 i) ∧ (M ≠ [] → ∃ xs, σ' (n + 1) = some (.row 2 xs) ∧ Rh M.length xs)) (by omega) (by decide) (by decide) (fun _ _ => rfl) (fun _ _ _ => rfl) ?_ ?_ _ _ _ rfl rfl ?_
        · clear h1 h2 h3 h4
          intro p env σ' n' hp h1 h2 ⟨g1, g2, g3, g4, g5, g6, g7, g8, g9⟩
          subst g1
          simp only [vl_tmp] at h2
          have hne : M ≠ [] := by intro h; rw [h] at hp; simp at hp
          obtain ⟨xs, r1, r2⟩ := g9 hne
          obtain ⟨a, b, r3⟩ := r2.2 p hp
          have hv : hVal (n + 1) M = .ref (n + 1) 0 M.length 2 := if_neg hne
          rw [hv] at g7 ⊢
          simp +contextual -implicitDefEqProofs (maxSteps := 2000000) only [↓wP, wQ, wQ1, wQ2, wQ3, wR, boxE, partsOf, ↓reduceIte, Nat.reduceEqDiff, Nat.reduceAdd, Nat.reduceSub, Nat.reduceLeDiff, Nat.reduceLT, Nat.reduceMul, reduceCtorEq, Int.reduceBNe, Int.reduceBEq, Int.reduceLT, Int.reduceLE, Int.reduceGT, h1, h2, g2, g3, g4, g5, g6, g7, hp, r1, r3]
          exact ⟨g8, fun _ => ⟨_, rfl, r2.set p 77 b⟩⟩
        · clear h1 h2 h3 h4
          intro env σ' n' ⟨g1, g2, g3, g4, g5, g6, g7, g8, g9⟩ h1 h2
          subst g1
          have e5 : n ≠ n + 1 := by omega
          have v5 : σ' n = some (.row 2 (hs L)) := by rw [g8 n e5, t5]
          have c12d := h12 σ' (n2 + 2) 0
          have e6 : n ≠ n2 + 2 := by omega
          have c14c := f14 (σ := upd σ' (n2 + 2) (some (.row 2 (hs L)))) (v := .ref n 0 L.length 2) (w := .ref (n2 + 2) 0 L.length 2) (a := L) (b := L) (Hf.row (by simp [upd, e6, v5]) rfl) (Hf.row (by simp [upd]) rfl) (by omega) true (n2 + 2 + 1) 0
          simp only [decide_true] at c14c
          simp +contextual -implicitDefEqProofs (maxSteps := 2000000) only [↓wP, wQ, wQ1, wQ2, wQ3, wR, boxE, partsOf, ↓reduceIte, Nat.reduceEqDiff, Nat.reduceAdd, Nat.reduceSub, Nat.reduceLeDiff, Nat.reduceLT, Nat.reduceMul, reduceCtorEq, Int.reduceBNe, Int.reduceBEq, Int.reduceLT, Int.reduceLE, Int.reduceGT, g2, g3, g4, g5, g6, g7, c12d, c14c]
        · simp +contextual -implicitDefEqProofs (maxSteps := 2000000) only [↓wP, wQ, wQ1, wQ2, wQ3, wR, boxE, partsOf, ↓reduceIte, Nat.reduceEqDiff, Nat.reduceAdd, Nat.reduceSub, Nat.reduceLeDiff, Nat.reduceLT, Nat.reduceMul, reduceCtorEq, Int.reduceBNe, Int.reduceBEq, Int.reduceLT, Int.reduceLE, Int.reduceGT, h1, h2, h3, h4]
          exact ⟨fun _ _ => trivial, fun hne => ⟨_, t5' hne, Rh.hs M⟩⟩
  · intro env σ n ⟨h3, h4⟩ h1 h2
    simp +contextual -implicitDefEqProofs (maxSteps := 2000000) only [↓wP, wQ, wQ1, wQ2, wQ3, wR, boxE, partsOf, ↓reduceIte, Nat.reduceEqDiff, Nat.reduceAdd, Nat.reduceSub, Nat.reduceLeDiff, Nat.reduceLT, Nat.reduceMul, reduceCtorEq, Int.reduceBNe, Int.reduceBEq, Int.reduceLT, Int.reduceLE, Int.reduceGT]
  · simp +contextual -implicitDefEqProofs (maxSteps := 2000000) only [↓wP, wQ, wQ1, wQ2, wQ3, wR, boxE, partsOf, ↓reduceIte, Nat.reduceEqDiff, Nat.reduceAdd, Nat.reduceSub, Nat.reduceLeDiff, Nat.reduceLT, Nat.reduceMul, reduceCtorEq, Int.reduceBNe, Int.reduceBEq, Int.reduceLT, Int.reduceLE, Int.reduceGT]
end Go.Q.S6
end

section
/- The arguments of seat 06's statements, as trees. -/
set_option linter.unusedSimpArgs false
set_option linter.unusedVariables false
namespace Go.Q.S6
open Go.Q Go.Proofs

theorem wf_i64 {x : Int} (h : (Lit.int .i64 x).wf = true) : -9223372036854775808 ≤ x ∧ x < 9223372036854775808 := by
  simp [Lit.wf, IntKind.min, IntKind.max, IntKind.signed, IntKind.bits] at h
  omega
def eU64 : Enc Try.prog 30 Int := Enc.int .u64 Try.underlying30
def eInt : Enc Try.prog 3 Int := Enc.int .i64 Try.underlying3
def eHit : Enc Try.prog 32 Hit := Enc.map
  (Enc.struct (EncF.cons (off := 0) (sz := 1) eU64 rfl (by kernel_rfl) (EncF.cons (sz := 1) eU64 rfl (by kernel_rfl) EncF.nil)) Try.underlying32 (by kernel_rfl))
  (fun x => ⟨x.1, x.2.1⟩) hitV (fun _ => True) (fun a _ => by obtain ⟨a, b, u⟩ := a; rfl) (fun _ _ => trivial)
def eHits : Enc Try.prog 22 (Option (List Hit)) := Enc.slice eHit Try.underlying22 2 (by kernel_rfl) (by decide) 16 (by kernel_rfl)
def eInts : Enc Try.prog 23 (Option (List Int)) := Enc.slice eInt Try.underlying23 1 (by kernel_rfl) (by decide) 8 (by kernel_rfl)
def eRows : Enc Try.prog 34 (Option (List (Option (List Hit)))) := Enc.slice eHits Try.underlying34 1 (by kernel_rfl) (by decide) 24 (by kernel_rfl)

theorem okHits {o : Option (List Hit)} (h : eHits.ok o) : (lst o).length < 4611686018427387904 := by
  cases o with
  | none => simp [lst]
  | some l =>
    obtain ⟨h1, h2, h3⟩ := h l rfl
    rw [reach_eq] at h2
    rw [lst_some]
    omega
theorem okInts {o : Option (List Int)} (h : eInts.ok o) : (lst o).length < 9223372036854775808 := by
  cases o with
  | none => simp [lst]
  | some l =>
    obtain ⟨h1, h2, h3⟩ := h l rfl
    rw [reach_eq] at h2
    rw [lst_some]
    omega
theorem okRows {o : Option (List (Option (List Hit)))} (h : eRows.ok o) : (lst o).length < 9223372036854775808 ∧ ∀ r ∈ lst o, (lst r).length < 4611686018427387904 := by
  cases o with
  | none => simp [lst]
  | some l =>
    obtain ⟨h1, h2, h3⟩ := h l rfl
    rw [reach_eq] at h2
    rw [lst_some]
    exact ⟨by omega, fun r hr => okHits (h3 r hr)⟩
end Go.Q.S6
end

section
/- Which hits are the same; new selections. -/
set_option linter.unusedSimpArgs false
set_option linter.unusedVariables false
namespace Go.Q.S6
open Go.Q Go.Sort

theorem f12r {σ : Sto} {v : V} {l : List Hit} (m : Nat) (ha : Hf σ v l) (hm : m ≤ 4000000) (hl : l.length < 9223372036854775808) (fs : Bool) (n lk : Nat) :
    callE T fs 12 [v, .int .i64 (m : Int)] σ n lk = some (.ref n 0 (l.take m).length 2, upd σ n (some (.row 2 (hs (l.take m)))), n + 1) := by
  obtain ⟨o, rfl, h1⟩ := ha
  have e : [v, .int .i64 (m : Int)].mapM (frz σ 12) = some [slV 2 hitV o, .int .i64 (m : Int)] := by
    simp only [List.mapM_cons, List.mapM_nil, h1, frz_int]; rfl
  rw [callE_flat (by decide) e (r12 o m hm hl) (hs_flat _), thaw_hs]

theorem r6 (o : Option (List (Option (List Hit)))) (q : Option (List Int)) (hlo : (lst o).length < 9223372036854775808) (hli : ∀ r ∈ lst o, (lst r).length < 4611686018427387904) (hq : (lst q).length < 9223372036854775808) :
    res T 6 [slV 1 (slV 2 hitV) o, slV 1 i64V q] = some (.bool true) := by
  refine run_res (run_pure (fn := g6) rfl rfl (by decide) ?_)
  simp only [g6, b6]
  simp +contextual -implicitDefEqProofs (maxSteps := 2000000) only [↓wP, wQ, wQ1, wQ2, wQ3, wR, boxE, partsOf, ↓reduceIte, Nat.reduceEqDiff, Nat.reduceAdd, Nat.reduceSub, Nat.reduceLeDiff, Nat.reduceLT, Nat.reduceMul, reduceCtorEq, Int.reduceBNe, Int.reduceBEq, Int.reduceLT, Int.reduceLE, Int.reduceGT, f11]
  refine WC_cutB (fun env σ n => env 1 = slV 1 i64V q) ?_ ?_
  · refine WC_for (lst o).length 0 (fun (j : Nat) env σ n => env 0 = slV 1 (slV 2 hitV) o ∧ env 1 = slV 1 i64V q ∧ env 16 = slV 1 (slV 2 hitV) o) hlo (by decide) (by decide) (fun _ _ => rfl) (fun _ _ _ => rfl) ?_ ?_ _ _ _ rfl rfl ?_
    · intro j env σ n hj h1 h2 ⟨h3, h4, h5⟩
      simp only [vl_tmp] at h2
      have hx : (lst o)[j]? = some (lst o)[j] := List.getElem?_eq_getElem hj
      have hr := hli _ (List.getElem_mem hj)
      have hx0 : (lst o)[0]? = some ((lst o)[0]'(by omega)) := List.getElem?_eq_getElem (by omega)
      have hr0 := hli _ (List.getElem_mem (l := lst o) (n := 0) (by omega))
      generalize (lst o)[j] = r at *
      generalize (lst o)[0]'(by omega) = r0 at *
      by_cases h8 : (j : Int) = 8
      · have h8' : ((j : Int) == 8) = true := by simpa using h8
        simp +contextual -implicitDefEqProofs (maxSteps := 2000000) only [↓wP, wQ, wQ1, wQ2, wQ3, wR, boxE, partsOf, ↓reduceIte, Nat.reduceEqDiff, Nat.reduceAdd, Nat.reduceSub, Nat.reduceLeDiff, Nat.reduceLT, Nat.reduceMul, reduceCtorEq, Int.reduceBNe, Int.reduceBEq, Int.reduceLT, Int.reduceLE, Int.reduceGT, exQ_exit, h1, h2, h3, h4, h5, hx, h8']
      · have h8' : ((j : Int) == 8) = false := by simpa using h8
        have h12 := fun fs σ n lk => f12 r 50 (by decide) (by omega) fs σ n lk
        have h12' := fun fs σ n lk => f12 r0 50 (by decide) (by omega) fs σ n lk
        simp only [show ((50 : Nat) : Int) = 50 from rfl] at h12 h12'
        have hB := big_le
        have y1 : (n + 1 ≤ n + BIG) = True := by simp; omega
        obtain ⟨a, ha⟩ : ∃ a, a = (lst r).take 50 := ⟨_, rfl⟩
        obtain ⟨b, hb⟩ : ∃ b, b = (lst r0).take 50 := ⟨_, rfl⟩
        rw [← ha] at h12
        rw [← hb] at h12'
        have hal : a.length ≤ 50 := by rw [ha, List.length_take]; omega
        obtain ⟨σ1, hσ1⟩ : ∃ σ1, σ1 = merge σ (upd σ n (some (.row 2 (hs a)))) n := ⟨_, rfl⟩
        have s1 : σ1 n = some (.row 2 (hs a)) := by rw [hσ1, merge_in _ _ _ (Nat.le_refl _) (by omega)]; simp [upd]
        obtain ⟨σ2, hσ2⟩ : ∃ σ2, σ2 = upd σ1 (n + BIG * 1) (some (.row 2 (hs b))) := ⟨_, rfl⟩
        have v1 : n ≠ n + BIG * 1 := by omega
        have s2 : σ2 n = some (.row 2 (hs a)) := by rw [hσ2]; simp only [upd]; rw [if_neg v1]; exact s1
        have s2' : σ2 (n + BIG * 1) = some (.row 2 (hs b)) := by rw [hσ2]; simp [upd]
        have c18 := f18 (σ := σ2) (v := .ref n 0 a.length 2) (w := .ref (n + BIG * 1) 0 b.length 2) (Hf.row s2 rfl) (Hf.row s2' rfl) (by omega) true (n + (BIG * 1 + 1)) 0
        have c14 := f14 (σ := σ2) (v := .ref n 0 a.length 2) (w := .ref (n + BIG * 1) 0 b.length 2) (Hf.row s2 rfl) (Hf.row s2' rfl) (by omega) true (n + (BIG * 1 + 1)) 0
        have v2 : n ≠ n + (BIG * 1 + 1) := by omega
        have c18' := f18 (σ := upd σ2 (n + (BIG * 1 + 1)) (some (.row 2 (hs a)))) (v := .ref n 0 a.length 2) (w := .ref (n + (BIG * 1 + 1)) 0 a.length 2) (a := a) (b := a) (Hf.row (by simp only [upd]; rw [if_neg v2]; exact s2) rfl) (Hf.row (by simp [upd]) rfl) (by omega) true (n + (BIG * 1 + 2)) 0
        simp only [decide_true] at c18'
        simp +contextual -implicitDefEqProofs (maxSteps := 2000000) only [↓wP, wQ, wQ1, wQ2, wQ3, wR, boxE, partsOf, ↓reduceIte, Nat.reduceEqDiff, Nat.reduceAdd, Nat.reduceSub, Nat.reduceLeDiff, Nat.reduceLT, Nat.reduceMul, reduceCtorEq, Int.reduceBNe, Int.reduceBEq, Int.reduceLT, Int.reduceLE, Int.reduceGT, exQ_exit, h1, h2, h3, h4, h5, hx, hx0, h8', h12, h12', hide_nil, y1, ← hσ1, ← hσ2, c18, c14, c18']
    · intro env σ n ⟨h3, h4, h5⟩ h1 h2
      simp +contextual -implicitDefEqProofs (maxSteps := 2000000) only [↓wP, wQ, wQ1, wQ2, wQ3, wR, boxE, partsOf, ↓reduceIte, Nat.reduceEqDiff, Nat.reduceAdd, Nat.reduceSub, Nat.reduceLeDiff, Nat.reduceLT, Nat.reduceMul, reduceCtorEq, Int.reduceBNe, Int.reduceBEq, Int.reduceLT, Int.reduceLE, Int.reduceGT, exQ_exit, h4]
    · simp +contextual -implicitDefEqProofs (maxSteps := 2000000) only [↓wP, wQ, wQ1, wQ2, wQ3, wR, boxE, partsOf, ↓reduceIte, Nat.reduceEqDiff, Nat.reduceAdd, Nat.reduceSub, Nat.reduceLeDiff, Nat.reduceLT, Nat.reduceMul, reduceCtorEq, Int.reduceBNe, Int.reduceBEq, Int.reduceLT, Int.reduceLE, Int.reduceGT]
  · intro env σ n h1
    simp +contextual -implicitDefEqProofs (maxSteps := 2000000) only [↓wP, wQ, wQ1, wQ2, wQ3, wR, boxE, partsOf, ↓reduceIte, Nat.reduceEqDiff, Nat.reduceAdd, Nat.reduceSub, Nat.reduceLeDiff, Nat.reduceLT, Nat.reduceMul, reduceCtorEq, Int.reduceBNe, Int.reduceBEq, Int.reduceLT, Int.reduceLE, Int.reduceGT, h1]
    refine WC_for (lst q).length 0 (fun (j : Nat) env σ n => env 46 = slV 1 i64V q) hq (by decide) (by decide) (fun _ _ => rfl) (fun _ _ _ => rfl) ?_ ?_ _ _ _ rfl rfl ?_
    · intro j env σ n hj h1 h2 h3
      simp only [vl_tmp] at h2
      have hx : (lst q)[j]? = some (lst q)[j] := List.getElem?_eq_getElem hj
      generalize (lst q)[j] = k at *
      by_cases h8 : (j : Int) = 8
      · have h8' : ((j : Int) == 8) = true := by simpa using h8
        simp +contextual -implicitDefEqProofs (maxSteps := 2000000) only [↓wP, wQ, wQ1, wQ2, wQ3, wR, boxE, partsOf, ↓reduceIte, Nat.reduceEqDiff, Nat.reduceAdd, Nat.reduceSub, Nat.reduceLeDiff, Nat.reduceLT, Nat.reduceMul, reduceCtorEq, Int.reduceBNe, Int.reduceBEq, Int.reduceLT, Int.reduceLE, Int.reduceGT, h1, h2, h3, hx, i64V_eq, h8']
      · have h8' : ((j : Int) == 8) = false := by simpa using h8
        have c19 := f19 k
        by_cases hk1 : k < 1
        · have e : newE k = 2 := if_pos (.inl hk1)
          have hk1' : ¬ 1 ≤ k := by omega
          simp only [e, show ((2 : Int) = 0) = False by simp, if_false] at c19
          simp +contextual -implicitDefEqProofs (maxSteps := 2000000) only [↓wP, wQ, wQ1, wQ2, wQ3, wR, boxE, partsOf, ↓reduceIte, Nat.reduceEqDiff, Nat.reduceAdd, Nat.reduceSub, Nat.reduceLeDiff, Nat.reduceLT, Nat.reduceMul, reduceCtorEq, Int.reduceBNe, Int.reduceBEq, Int.reduceLT, Int.reduceLE, Int.reduceGT, h1, h2, h3, hx, i64V_eq, h8', c19, hk1', Int.natCast_zero]
        · have hk1' : 1 ≤ k := by omega
          by_cases hk2 : 16 < k
          · have e : newE k = 2 := if_pos (.inr hk2)
            have hk2' : ¬ k ≤ 16 := by omega
            simp only [e, show ((2 : Int) = 0) = False by simp, if_false] at c19
            simp +contextual -implicitDefEqProofs (maxSteps := 2000000) only [↓wP, wQ, wQ1, wQ2, wQ3, wR, boxE, partsOf, ↓reduceIte, Nat.reduceEqDiff, Nat.reduceAdd, Nat.reduceSub, Nat.reduceLeDiff, Nat.reduceLT, Nat.reduceMul, reduceCtorEq, Int.reduceBNe, Int.reduceBEq, Int.reduceLT, Int.reduceLE, Int.reduceGT, h1, h2, h3, hx, i64V_eq, h8', c19, hk1', hk2', Int.natCast_zero]
          · have e : newE k = 0 := if_neg (by omega)
            have hk2' : k ≤ 16 := by omega
            simp only [e, if_true] at c19
            simp +contextual -implicitDefEqProofs (maxSteps := 2000000) only [↓wP, wQ, wQ1, wQ2, wQ3, wR, boxE, partsOf, ↓reduceIte, Nat.reduceEqDiff, Nat.reduceAdd, Nat.reduceSub, Nat.reduceLeDiff, Nat.reduceLT, Nat.reduceMul, reduceCtorEq, Int.reduceBNe, Int.reduceBEq, Int.reduceLT, Int.reduceLE, Int.reduceGT, h1, h2, h3, hx, i64V_eq, h8', c19, hk1', hk2', Int.natCast_zero]
    · intro env σ n h3 h1 h2
      simp +contextual -implicitDefEqProofs (maxSteps := 2000000) only [↓wP, wQ, wQ1, wQ2, wQ3, wR, boxE, partsOf, ↓reduceIte, Nat.reduceEqDiff, Nat.reduceAdd, Nat.reduceSub, Nat.reduceLeDiff, Nat.reduceLT, Nat.reduceMul, reduceCtorEq, Int.reduceBNe, Int.reduceBEq, Int.reduceLT, Int.reduceLE, Int.reduceGT]
    · simp +contextual -implicitDefEqProofs (maxSteps := 2000000) only [↓wP, wQ, wQ1, wQ2, wQ3, wR, boxE, partsOf, ↓reduceIte, Nat.reduceEqDiff, Nat.reduceAdd, Nat.reduceSub, Nat.reduceLeDiff, Nat.reduceLT, Nat.reduceMul, reduceCtorEq, Int.reduceBNe, Int.reduceBEq, Int.reduceLT, Int.reduceLE, Int.reduceGT]
end Go.Q.S6
end

section
/- In whatever order hits stand, the first ones are the same. -/
set_option linter.unusedSimpArgs false
set_option linter.unusedVariables false
namespace Go.Q.S6
open Go.Q Go.Sort

theorem Hf.part {σ : Sto} {id off N : Nat} {l : List Hit} (h : σ id = some (.row 2 (hs l))) (hN : off + N ≤ l.length) : Hf σ (.ref id off N 2) ((l.drop off).take N) := by
  refine ⟨some ((l.drop off).take N), rfl, ?_⟩
  have e : elems σ 2 (.ref id off N 2) = some (hs ((l.drop off).take N)) := by
    simp only [elems, h]
    rw [if_pos ⟨trivial, trivial, by rw [hs_len]; exact hN⟩]
    simp [hs, List.map_take, List.map_drop]
  show (elems σ 2 (.ref id off N 2)).bind _ = _
  rw [e, Option.bind_some, mapM_id (hs_frz σ _)]
  rfl

/-- A number of the right size, made of whatever number. -/
theorem kmod (k : Int) : ∃ kn : Nat, 1 ≤ kn ∧ kn ≤ 16 ∧ IntKind.i64.wrap ((IntKind.i64.wrap (k.tmod 16 + 16)).tmod 16 + 1) = (kn : Int) := by
  have h1 : -16 < k.tmod 16 := by
    have := Int.lt_tmod_of_pos k (show (0 : Int) < 16 by decide); omega
  have h2 : k.tmod 16 < 16 := Int.tmod_lt_of_pos k (by decide)
  rw [wrap_i64 (x := k.tmod 16 + 16) (by omega) (by omega)]
  have h3 : 0 ≤ (k.tmod 16 + 16).tmod 16 := Int.tmod_nonneg 16 (by omega)
  have h4 : (k.tmod 16 + 16).tmod 16 < 16 := Int.tmod_lt_of_pos _ (by decide)
  rw [wrap_i64 (by omega) (by omega)]
  exact ⟨((k.tmod 16 + 16).tmod 16 + 1).toNat, by omega, by omega, by omega⟩

theorem umod (by' : Int) (N : Nat) (hN : 0 < N) (hN2 : N < 1000000) : ∃ m : Nat, m < N ∧ IntKind.i64.wrap ((IntKind.u64.wrap by').tmod (IntKind.u64.wrap (N : Int))) = (m : Int) := by
  have h0 : 0 ≤ IntKind.u64.wrap by' := by
    unfold IntKind.wrap
    simp only [IntKind.signed, IntKind.bits]
    first | omega | (simp; omega) | skip
  rw [wrap_u64 (x := (N : Int)) (by omega) (by omega)]
  have h1 : 0 ≤ (IntKind.u64.wrap by').tmod (N : Int) := Int.tmod_nonneg _ h0
  have h2 : (IntKind.u64.wrap by').tmod (N : Int) < N := Int.tmod_lt_of_pos _ (by omega)
  rw [wrap_i64 (by omega) (by omega)]
  exact ⟨((IntKind.u64.wrap by').tmod (N : Int)).toNat, by omega, by omega⟩

def turn (m : Nat) (L : List Hit) : List Hit := L.drop m ++ L.take m
theorem turn_perm (m : Nat) (L : List Hit) : (turn m L).Perm L := by
  unfold turn
  exact List.perm_append_comm.trans (by rw [List.take_append_drop])

def rvs (L : List Hit) (j : Nat) : List Hit := L.reverse.take j ++ L.drop j
theorem rvs_len (L : List Hit) (j : Nat) (h : j ≤ L.length) : (rvs L j).length = L.length := by simp [rvs]; omega
theorem rvs_step (L : List Hit) (j : Nat) (h : j < L.length) : (rvs L j).set j (L[L.length - 1 - j]'(by omega)) = rvs L (j + 1) := by
  have e1 : L.reverse.take (j + 1) = L.reverse.take j ++ [L[L.length - 1 - j]'(by omega)] := by
    rw [← List.take_append_getElem (l := L.reverse) (i := j) (by simpa using h)]
    simp [List.getElem_reverse]
  have e2 : L.drop j = L[j] :: L.drop (j + 1) := List.drop_eq_getElem_cons h
  unfold rvs
  rw [e1, e2]
  have hl : (L.reverse.take j).length = j := by rw [List.length_take, List.length_reverse]; omega
  generalize L[L.length - 1 - j]'(by omega) = x at *
  generalize L.drop (j + 1) = b at *
  generalize L.reverse.take j = a at *
  subst hl
  simp [List.set_append]

theorem r7 (k : Int) (o : Option (List Hit)) (by' : Int) (hl : (lst o).length < 4611686018427387904) : res T 7 [.int .i64 k, slV 2 hitV o, .int .i64 by'] = some (.bool true) := by
  refine run_res (run_pure (fn := g7) rfl rfl (by decide) ?_)
  simp only [g7, b7]
  obtain ⟨kn, hk1, hk2, hkw⟩ := kmod k
  have hrem := fun a => bin_rem .i64 a 16 (by decide)
  obtain ⟨L, hL⟩ : ∃ L, L = (lst o).take 200 := ⟨_, rfl⟩
  have hLl : L.length ≤ 200 := by rw [hL, List.length_take]; omega
  have h12 := fun σ n lk => f12 o 200 (by decide) (by omega) true σ n lk
  simp only [show ((200 : Nat) : Int) = 200 from rfl] at h12
  rw [← hL] at h12
  by_cases hne : L = []
  · subst hne
    simp +contextual -implicitDefEqProofs (maxSteps := 2000000) only [↓wP, wQ, wQ1, wQ2, wQ3, wR, boxE, partsOf, ↓reduceIte, Nat.reduceEqDiff, Nat.reduceAdd, Nat.reduceSub, Nat.reduceLeDiff, Nat.reduceLT, Nat.reduceMul, reduceCtorEq, Int.reduceBNe, Int.reduceBEq, Int.reduceLT, Int.reduceLE, Int.reduceGT, f11, hrem, hkw, h12, List.length_nil, Int.natCast_zero]
  · have hpos : 0 < L.length := List.length_pos_iff.2 hne
    have he : ((L.length : Int) == 0) = false := by simp; exact hne
    obtain ⟨m, hm, hmw⟩ := umod by' L.length hpos (by omega)
    have hremu := fun a => bin_rem .u64 a (IntKind.u64.wrap (L.length : Int)) (by rw [wrap_u64] <;> omega)
    have hm1 : m ≤ L.length := by omega
    have c12 := fun fs n lk => f12r (σ := upd Sto.empty 0 (some (.row 2 (hs L)))) (v := .ref 0 m (L.length - m) 2) (l := (L.drop m).take (L.length - m)) L.length (Hf.part (by simp [upd]) (by omega)) (by omega) (by rw [List.length_take, List.length_drop]; omega) fs n lk
    have hd : ((L.drop m).take (L.length - m)).take L.length = L.drop m := by
      rw [List.take_take, List.take_of_length_le]
      rw [List.length_drop]; omega
    simp only [hd, List.length_drop] at c12
    have hB := big_le
    have y1 : (2 ≤ 1 + BIG) = True := by simp; omega
    obtain ⟨σ1, hσ1⟩ : ∃ σ1, σ1 = merge (upd Sto.empty 0 (some (.row 2 (hs L)))) (upd (upd Sto.empty 0 (some (.row 2 (hs L)))) 1 (some (.row 2 (hs (L.drop m))))) 1 := ⟨_, rfl⟩
    have s0 : σ1 0 = some (.row 2 (hs L)) := by rw [hσ1, merge_low _ _ _ (by decide)]; simp [upd]
    have s1 : σ1 1 = some (.row 2 (hs (L.drop m))) := by rw [hσ1, merge_in _ _ _ (by decide) (by omega)]; simp [upd]
    have hx1 : (hs (L.drop m)).length = L.length - m := by rw [hs_len, List.length_drop]
    have hx2 : ((hs L).take m).length = m := by rw [List.length_take, hs_len]; omega
    have hx3 : L.length - m + m = L.length := by omega
    have hx4 : (L.length * 16 ≤ LIM) = True := lim_hits (by omega)
    have hx5 : (m ≤ (hs L).length) = True := by rw [hs_len]; simp; omega
    have hx6 : hs (L.drop m) ++ (hs L).take m = hs (turn m L) := by rw [hs_take, hs_app]; rfl
    obtain ⟨σ2, hσ2⟩ : ∃ σ2, σ2 = upd (upd σ1 1 none) (1 + BIG * 1) (some (.row 2 (hs (turn m L)))) := ⟨_, rfl⟩
    have v1 : (0 : Nat) ≠ 1 + BIG * 1 := by omega
    have s20 : σ2 0 = some (.row 2 (hs L)) := by rw [hσ2]; simp only [upd]; rw [if_neg v1, if_neg (by decide)]; exact s0
    have s21 : σ2 (1 + BIG * 1) = some (.row 2 (hs (turn m L))) := by rw [hσ2]; simp [upd]
    have c12b := f12r (σ := σ2) (v := .ref 0 0 L.length 2) (l := L) L.length (Hf.row s20 rfl) (by omega) (by omega) true (1 + (BIG * 1 + 1)) 0
    rw [List.take_length] at c12b
    obtain ⟨σ3, hσ3⟩ : ∃ σ3, σ3 = upd σ2 (1 + (BIG * 1 + 1)) (some (.row 2 (hs L))) := ⟨_, rfl⟩
    rw [← hσ3] at c12b
    simp +contextual -implicitDefEqProofs (maxSteps := 2000000) only [↓wP, wQ, wQ1, wQ2, wQ3, wR, boxE, partsOf, ↓reduceIte, Nat.reduceEqDiff, Nat.reduceAdd, Nat.reduceSub, Nat.reduceLeDiff, Nat.reduceLT, Nat.reduceMul, reduceCtorEq, Int.reduceBNe, Int.reduceBEq, Int.reduceLT, Int.reduceLE, Int.reduceGT, f11, hrem, hkw, h12, he, hremu, hmw, hm1, Nat.zero_add, Nat.sub_zero, c12, y1, ← hσ1, s0, s1, hx1, hx2, hx3, hx4, hx5, hx6, ← hσ2, true_or, c12b]
    have v2 : (0 : Nat) ≠ 1 + (BIG * 1 + 1) := by omega
    have v3 : 1 + BIG * 1 ≠ 1 + (BIG * 1 + 1) := by omega
    have s30 : σ3 0 = some (.row 2 (hs L)) := by rw [hσ3]; simp only [upd]; rw [if_neg v2]; exact s20
    have s31 : σ3 (1 + BIG * 1) = some (.row 2 (hs (turn m L))) := by rw [hσ3]; simp only [upd]; rw [if_neg v3]; exact s21
    have s32 : σ3 (1 + (BIG * 1 + 1)) = some (.row 2 (hs L)) := by rw [hσ3]; simp [upd]
    generalize hA : 1 + BIG * 1 = A at *
    generalize hB' : 1 + (BIG * 1 + 1) = B at *
    generalize hC : 1 + (BIG * 1 + 2) = n0 at *
    refine WC_for L.length 0 (fun (j : Nat) env σ' n' => env 0 = .int .i64 (kn : Int) ∧ env 1 = .ref 0 0 L.length 2 ∧ env 8 = .ref A 0 L.length 2 ∧ env 9 = .ref B 0 L.length 2 ∧ B < n' ∧ σ' 0 = some (.row 2 (hs L)) ∧ σ' A = some (.row 2 (hs (turn m L))) ∧ σ' B = some (.row 2 (hs (rvs L j)))) (by omega) (by decide) (by decide) (fun _ _ => rfl) (fun _ _ _ => rfl) ?_ ?_ _ _ _ rfl rfl ?_
    · intro j env σ' n' hj h1 h2 ⟨g1, g2, g3, g4, g5, g6, g7, g8⟩
      simp only [vl_tmp] at h2
      have wa : IntKind.i64.wrap ((L.length : Int) - 1) = ((L.length - 1 : Nat) : Int) := by rw [wrap_i64] <;> omega
      have wb : IntKind.i64.wrap (((L.length - 1 : Nat) : Int) - (j : Int)) = ((L.length - 1 - j : Nat) : Int) := by rw [wrap_i64] <;> omega
      have x1 := hs_get (l := L) (i := L.length - 1 - j) (by omega)
      have l1 : L.length - 1 - j < L.length := by omega
      have x2 := hs_get (l := rvs L j) (i := j) (by rw [rvs_len _ _ (by omega)]; omega)
      have st := rvs_step L j hj
      have u1 : (0 : Nat) ≠ B := by omega
      have u2 : A ≠ B := by omega
      simp +contextual -implicitDefEqProofs (maxSteps := 2000000) only [↓wP, wQ, wQ1, wQ2, wQ3, wR, boxE, partsOf, ↓reduceIte, Nat.reduceEqDiff, Nat.reduceAdd, Nat.reduceSub, Nat.reduceLeDiff, Nat.reduceLT, Nat.reduceMul, reduceCtorEq, Int.reduceBNe, Int.reduceBEq, Int.reduceLT, Int.reduceLE, Int.reduceGT, h1, h2, g1, g2, g3, g4, g6, g8, wa, wb, x1, x2, l1, hj]
      rw [if_neg u1, if_neg u2, hs_set, st]
      exact ⟨g5, rfl, g7, rfl⟩
    · intro env σ' n' ⟨g1, g2, g3, g4, g5, g6, g7, g8⟩ h1 h2
      have hrev : rvs L L.length = L.reverse := by unfold rvs; rw [List.drop_length, List.append_nil, List.take_of_length_le (by simp)]
      rw [hrev] at g8
      have p1 : fst' kn (turn m L) = fst' kn L := fst_of_perm kn (turn_perm m L)
      have p2 : fst' kn L.reverse = fst' kn L := fst_of_perm kn (List.reverse_perm L)
      have fin : ∀ K : List Hit, K.length = L.length → fst' kn K = fst' kn L → merE (kn : Int) K = 0 ∧ merV (kn : Int) K = fst' kn L := by
        intro K hK hf
        have e1 : merE (kn : Int) K = 0 := by unfold merE; rw [if_neg (by omega), if_neg (by omega)]
        refine ⟨e1, ?_⟩
        unfold merV
        rw [if_pos e1]
        exact hf
      have hfl := fst_len kn L
      obtain ⟨M, hM⟩ : ∃ M, M = fst' kn L := ⟨_, rfl⟩
      rw [← hM] at hfl
      have call : ∀ (K : List Hit) (id : Nat) (σ : Sto) (n : Nat), K.length = L.length → fst' kn K = fst' kn L → σ id = some (.row 2 (hs K)) →
          callE T true 13 [.ref id 0 L.length 2, .int .i64 (kn : Int)] σ n 0 = some (.tup [hVal n M, .int .i64 0], hSto σ n M, hN n M) := by
        intro K id σ n hK hf hσ
        obtain ⟨e1, e2⟩ := fin K hK hf
        have := f13 (σ := σ) (v := .ref id 0 L.length 2) (l := K) (kn : Int) (Hf.row hσ hK) (by omega) true n 0
        rw [e1, e2, ← hM] at this
        exact this
      have hMne : M ≠ [] := by
        intro h
        rw [h] at hfl
        simp at hfl
        omega
      have hv : ∀ n, hVal n M = .ref n 0 M.length 2 := fun n => if_neg hMne
      have hn : ∀ n, hN n M = n + 1 := fun n => if_neg hMne
      have hst : ∀ σ n, hSto σ n M = upd σ n (some (.row 2 (hs M))) := fun σ n => if_neg hMne
      simp only [hv, hn, hst] at call
      have c1 := call L 0 σ' n' rfl rfl g6
      have a1 : A ≠ n' := by omega
      have c2 := call (turn m L) A (upd σ' n' (some (.row 2 (hs M)))) (n' + 1) (turn_perm m L).length_eq p1 (by simp only [upd]; rw [if_neg a1]; exact g7)
      have b1 : B ≠ n' := by omega
      have b2 : B ≠ n' + 1 := by omega
      have c3 := call L.reverse B (upd (upd σ' n' (some (.row 2 (hs M)))) (n' + 1) (some (.row 2 (hs M)))) (n' + 2) (by simp) p2 (by simp only [upd]; rw [if_neg b2, if_neg b1]; exact g8)
      have d1 : n' ≠ n' + 1 := by omega
      have d2 : n' ≠ n' + 2 := by omega
      have d3 : n' + 1 ≠ n' + 2 := by omega
      have f1 := f18 (σ := upd (upd (upd σ' n' (some (.row 2 (hs M)))) (n' + 1) (some (.row 2 (hs M)))) (n' + 2) (some (.row 2 (hs M)))) (v := .ref n' 0 M.length 2) (w := .ref (n' + 1) 0 M.length 2) (a := M) (b := M)
        (Hf.row (by rw [upd_ne d2, upd_ne d1, upd_self]) rfl) (Hf.row (by rw [upd_ne d3, upd_self]) rfl) (by omega) true (n' + 3) 0
      have f2 := f18 (σ := upd (upd (upd σ' n' (some (.row 2 (hs M)))) (n' + 1) (some (.row 2 (hs M)))) (n' + 2) (some (.row 2 (hs M)))) (v := .ref n' 0 M.length 2) (w := .ref (n' + 2) 0 M.length 2) (a := M) (b := M)
        (Hf.row (by rw [upd_ne d2, upd_ne d1, upd_self]) rfl) (Hf.row (by rw [upd_self]) rfl) (by omega) true (n' + 3) 0
      simp only [decide_true] at f1 f2
      simp +contextual -implicitDefEqProofs (maxSteps := 2000000) only [↓wP, wQ, wQ1, wQ2, wQ3, wR, boxE, partsOf, ↓reduceIte, Nat.reduceEqDiff, Nat.reduceAdd, Nat.reduceSub, Nat.reduceLeDiff, Nat.reduceLT, Nat.reduceMul, reduceCtorEq, Int.reduceBNe, Int.reduceBEq, Int.reduceLT, Int.reduceLE, Int.reduceGT, g1, g2, g3, g4, c1, c2, c3, f1, f2]
    · simp +contextual -implicitDefEqProofs (maxSteps := 2000000) only [↓wP, wQ, wQ1, wQ2, wQ3, wR, boxE, partsOf, ↓reduceIte, Nat.reduceEqDiff, Nat.reduceAdd, Nat.reduceSub, Nat.reduceLeDiff, Nat.reduceLT, Nat.reduceMul, reduceCtorEq, Int.reduceBNe, Int.reduceBEq, Int.reduceLT, Int.reduceLE, Int.reduceGT]
      exact ⟨by omega, s30, s31, by rw [s32]; simp [rvs]⟩
end Go.Q.S6
end

section
/- As many hits as there may be, and one more. -/
set_option linter.unusedSimpArgs false
set_option linter.unusedVariables false
namespace Go.Q.S6
open Go.Q Go.Sort

def fH (N i : Nat) : Hit := ⟨(i : Int), ((N - i : Nat) : Int)⟩
def mkL (N j : Nat) : List Hit := (List.range N).map fun i => if i < j then fH N i else ⟨0, 0⟩
theorem mkL_len (N j : Nat) : (mkL N j).length = N := by simp [mkL]
theorem mkL_step (N j : Nat) (h : j < N) : (mkL N j).set j (fH N j) = mkL N (j + 1) := by
  refine List.ext_getElem (by simp [mkL_len]) fun i h1 h2 => ?_
  rw [List.getElem_set]
  simp only [mkL, List.getElem_map, List.getElem_range]
  split
  · rename_i e; subst e; rw [if_pos (by omega)]
  · split
    · rw [if_pos (by omega)]
    · rw [if_neg (by omega)]
theorem mkL_zero (N : Nat) : hs (mkL N 0) = List.replicate N (.agg [.int .u64 0, .int .u64 0]) := by
  refine List.ext_getElem (by simp [hs_len, mkL_len]) fun i h1 h2 => ?_
  simp [hs, mkL, hitV]
theorem mkL_mem {N : Nat} {x : Hit} (h : x ∈ mkL N N) : ∃ i, i < N ∧ x = fH N i := by
  unfold mkL at h
  obtain ⟨i, hi, rfl⟩ := List.mem_map.1 h
  rw [List.mem_range] at hi
  exact ⟨i, hi, if_pos hi⟩
theorem mkL_head {N k : Nat} (hN : 0 < N) (hk : 0 < k) : (fst' k (mkL N N))[0]? = some (fH N (N - 1)) := by
  have hm : fH N (N - 1) ∈ mkL N N := by
    unfold mkL
    exact List.mem_map.2 ⟨N - 1, List.mem_range.2 (by omega), if_pos (by omega)⟩
  have hs := srt_srt (mkL N N)
  have hp := srt_perm (mkL N N)
  unfold fst'
  rw [List.getElem?_take_of_lt hk]
  generalize srt (mkL N N) = s at *
  have hms : fH N (N - 1) ∈ s := hp.mem_iff.2 hm
  cases s with
  | nil => simp at hms
  | cons x s =>
    obtain ⟨i, hi, rfl⟩ := mkL_mem (hp.mem_iff.1 (List.mem_cons_self (a := x) (l := s)))
    rcases List.mem_cons.1 hms with e | e
    · rw [e]; rfl
    · have := (List.pairwise_cons.1 hs).1 _ e
      rw [ah_not] at this
      simp only [fH] at this
      have : i = N - 1 := by omega
      subst this
      rfl

theorem nmod (x : Int) : ∃ N : Nat, (N = 2000 ∨ N = 2001) ∧ IntKind.i64.wrap (2000 + (IntKind.i64.wrap (x.tmod 2 + 2)).tmod 2) = (N : Int) := by
  have h1 : -2 < x.tmod 2 := by
    have := Int.lt_tmod_of_pos x (show (0 : Int) < 2 by decide); omega
  have h2 : x.tmod 2 < 2 := Int.tmod_lt_of_pos x (by decide)
  rw [wrap_i64 (x := x.tmod 2 + 2) (by omega) (by omega)]
  have h3 : 0 ≤ (x.tmod 2 + 2).tmod 2 := Int.tmod_nonneg 2 (by omega)
  have h4 : (x.tmod 2 + 2).tmod 2 < 2 := Int.tmod_lt_of_pos _ (by decide)
  rw [wrap_i64 (by omega) (by omega)]
  exact ⟨(2000 + (x.tmod 2 + 2).tmod 2).toNat, by omega, by omega⟩

theorem frz_part {σ : Sto} {id off N : Nat} {l : List Hit} (h : σ id = some (.row 2 (hs l))) (hN : off + N ≤ l.length) (k : Nat) : frz σ (k + 3) (.ref id off N 2) = some (slV 2 hitV (some ((l.drop off).take N))) := by
  have e : elems σ 2 (.ref id off N 2) = some (hs ((l.drop off).take N)) := by
    simp only [elems, h]
    rw [if_pos ⟨trivial, trivial, by rw [hs_len]; exact hN⟩]
    simp [hs, List.map_take, List.map_drop]
  show (elems σ 2 (.ref id off N 2)).bind _ = _
  have hm : (hs ((l.drop off).take N)).mapM (elemM (frz σ (k + 2))) = some (hs ((l.drop off).take N)) := by
    refine mapM_id fun x hx => ?_
    obtain ⟨y, -, rfl⟩ := List.mem_map.1 hx
    rfl
  rw [e, Option.bind_some, hm]
  rfl
theorem f16two {σ : Sto} {id : Nat} {v w : V} {a b : Option (List Hit)} (k : Int) (h : σ id = some (.row 1 [v, w])) (hv : v.cells = [v]) (hw : w.cells = [w]) (h1 : frz σ 11 v = some (slV 2 hitV a)) (h2 : frz σ 11 w = some (slV 2 hitV b))
    (ha : ∀ cs, v ≠ .agg cs) (hb : ∀ cs, w ≠ .agg cs) (la : (lst a).length < 4611686018427387904) (lb : (lst b).length < 4611686018427387904) (n : Nat) :
    callE T true 16 [.int .i64 k, .ref id 0 2 1] σ n 0 =
      some (.tup [hVal n (merV k (lst a ++ lst b)), .int .i64 (merE k (lst a ++ lst b))], hSto σ n (merV k (lst a ++ lst b)), hN n (merV k (lst a ++ lst b))) := by
  have h16 := r16 k (some [a, b]) (by simp [lst]) (fun r hr => by simp [lst_some] at hr; rcases hr with rfl | rfl <;> omega)
  have e0 : (lst (some [a, b])).flatMap lst = lst a ++ lst b := by simp [lst]
  rw [e0] at h16
  have hz : frz σ 12 (.ref id 0 2 1) = some (slV 1 (slV 2 hitV) (some [a, b])) := by
    have e : elems σ 1 (.ref id 0 2 1) = some [v, w] := by simp [elems, h]
    have e1 : elemM (frz σ 11) v = some (slV 2 hitV a) := by cases v <;> first | exact h1 | exact absurd rfl (ha _)
    have e2 : elemM (frz σ 11) w = some (slV 2 hitV b) := by cases w <;> first | exact h2 | exact absurd rfl (hb _)
    show (elems σ 1 (.ref id 0 2 1)).bind _ = _
    rw [e, Option.bind_some, List.mapM_cons, List.mapM_cons, List.mapM_nil, e1, e2]
    rfl
  have e : [V.int .i64 k, .ref id 0 2 1].mapM (frz σ 12) = some [V.int .i64 k, slV 1 (slV 2 hitV) (some [a, b])] := by
    simp only [List.mapM_cons, List.mapM_nil, hz, frz_int]; rfl
  rw [callE_flat (by decide) e h16 (flat_tup2 (flat_ownH _) rfl), thaw_hTup]

theorem r8 (more k : Int) : res T 8 [.int .i64 more, .int .i64 k] = some (.bool true) := by
  refine run_res (run_pure (fn := g8) rfl rfl (by decide) ?_)
  simp only [g8, b8]
  obtain ⟨kn, hk1, hk2, hkw⟩ := kmod k
  obtain ⟨N, hN, hNw⟩ := nmod more
  have hrem := fun a => bin_rem .i64 a 16 (by decide)
  have hrem2 := fun a => bin_rem .i64 a 2 (by decide)
  have hc1 : (0 : Int) ≤ (N : Int) := by omega
  have hc2 : ((16 : Nat) : Int) * (N : Int) ≤ 140737488355328 := by omega
  have hNn : (N : Int).toNat = N := by omega
  simp +contextual -implicitDefEqProofs (maxSteps := 2000000) only [↓wP, wQ, wQ1, wQ2, wQ3, wR, boxE, partsOf, ↓reduceIte, Nat.reduceEqDiff, Nat.reduceAdd, Nat.reduceSub, Nat.reduceLeDiff, Nat.reduceLT, Nat.reduceMul, reduceCtorEq, Int.reduceBNe, Int.reduceBEq, Int.reduceLT, Int.reduceLE, Int.reduceGT, f11, hrem2, hNw, hc1, hc2, hNn]
  refine WC_for N 0 (fun (j : Nat) env σ n => n = 1 ∧ env 1 = .int .i64 k ∧ env 5 = .ref 0 0 N 2 ∧ σ 0 = some (.row 2 (hs (mkL N j)))) (by omega) (by decide) (by decide) (fun _ _ => rfl) (fun _ _ _ => rfl) ?_ ?_ _ _ _ rfl rfl ?_
  · intro j env σ n hj h1 h2 ⟨g1, g2, g3, g4⟩
    subst g1
    simp only [vl_tmp] at h2
    have w1 : IntKind.u64.wrap (j : Int) = (j : Int) := by rw [wrap_u64] <;> omega
    have w2 : IntKind.i64.wrap ((N : Int) - (j : Int)) = ((N - j : Nat) : Int) := by rw [wrap_i64] <;> omega
    have w3 : IntKind.u64.wrap ((N - j : Nat) : Int) = ((N - j : Nat) : Int) := by rw [wrap_u64] <;> omega
    have x1 := hs_get (l := mkL N j) (i := j) (by rw [mkL_len]; exact hj)
    have st := mkL_step N j hj
    have e : (V.agg [.int .u64 (j : Int), .int .u64 ((N - j : Nat) : Int)]) = .agg [.int .u64 (fH N j).id, .int .u64 (fH N j).d] := rfl
    simp +contextual -implicitDefEqProofs (maxSteps := 2000000) only [↓wP, wQ, wQ1, wQ2, wQ3, wR, boxE, partsOf, ↓reduceIte, Nat.reduceEqDiff, Nat.reduceAdd, Nat.reduceSub, Nat.reduceLeDiff, Nat.reduceLT, Nat.reduceMul, reduceCtorEq, Int.reduceBNe, Int.reduceBEq, Int.reduceLT, Int.reduceLE, Int.reduceGT, h1, h2, g2, g3, g4, w1, w2, w3, x1, hj, e]
    rw [hs_set, st]
  · intro env σ n ⟨g1, g2, g3, g4⟩ h1 h2
    subst g1
    have hNl : (hs (mkL N N)).length = N := by rw [hs_len, mkL_len]
    have hb1 : (5 ≤ N) = True := by simp; omega
    obtain ⟨σ1, hσ1⟩ : ∃ σ1, σ1 = σ := ⟨_, rfl⟩
    have hB := big_le
    have hsp : (mkL N N).take 5 ++ ((mkL N N).drop 5).take (N - 5) = mkL N N := by
      have e : ((mkL N N).drop 5).take (N - 5) = (mkL N N).drop 5 := List.take_of_length_le (by rw [List.length_drop, mkL_len]; exact Nat.le_refl _)
      rw [e, List.take_append_drop]
    obtain ⟨L, hL⟩ : ∃ L, L = mkL N N := ⟨_, rfl⟩
    have hLl : L.length = N := by rw [hL, mkL_len]
    rw [← hL] at g4 hNl hsp
    have c13 := f13 (σ := σ) (v := .ref 0 0 N 2) (l := L) (kn : Int) (Hf.row g4 hLl) (by omega) true 1 0
    obtain ⟨M, hM⟩ : ∃ M, M = merV (kn : Int) L := ⟨_, rfl⟩
    obtain ⟨e, he⟩ : ∃ e, e = merE (kn : Int) L := ⟨_, rfl⟩
    rw [← hM, ← he] at c13
    obtain ⟨σ2, hσ2⟩ : ∃ σ2, σ2 = hSto σ 1 M := ⟨_, rfl⟩
    obtain ⟨n2, hn2⟩ : ∃ n2, n2 = Go.Q.S6.hN 1 M := ⟨_, rfl⟩
    rw [← hσ2, ← hn2] at c13
    have hn2' : 1 ≤ n2 := by rw [hn2]; exact hN_le _ _
    have s20 : σ2 0 = some (.row 2 (hs L)) := by rw [hσ2, hSto_ne (by decide), g4]
    obtain ⟨σ3, hσ3⟩ : ∃ σ3, σ3 = merge σ2 (upd σ2 n2 (some (.row 1 [.ref 0 0 5 2, .ref 0 5 (N - 5) 2]))) n2 := ⟨_, rfl⟩
    have s30 : σ3 0 = some (.row 2 (hs L)) := by rw [hσ3, merge_low _ _ _ (by omega), s20]
    have s31 : σ3 n2 = some (.row 1 [.ref 0 0 5 2, .ref 0 5 (N - 5) 2]) := by rw [hσ3, merge_in _ _ _ (Nat.le_refl _) (by omega), upd_self]
    have c16 := f16two (σ := σ3) (id := n2) (v := .ref 0 0 5 2) (w := .ref 0 5 (N - 5) 2) (kn : Int) s31 rfl rfl (frz_part s30 (by omega) 8) (frz_part s30 (by omega) 8) (fun _ h => by cases h) (fun _ h => by cases h)
      (by rw [lst_some, List.length_take]; omega) (by rw [lst_some, List.length_take, List.length_drop]; omega) (n2 + BIG * 1)
    simp only [lst_some, List.drop_zero, hsp] at c16
    rw [← hM, ← he] at c16
    have y1 : (n2 + 1 ≤ n2 + BIG) = True := by simp; omega
    have hbd : bndE (V.int .i64 5) N = some 5 := by simp [bndE]; omega
    obtain ⟨σ4, hσ4⟩ : ∃ σ4, σ4 = hSto σ3 (n2 + BIG * 1) M := ⟨_, rfl⟩
    obtain ⟨n4, hn4⟩ : ∃ n4, n4 = Go.Q.S6.hN (n2 + BIG * 1) M := ⟨_, rfl⟩
    rw [← hσ4, ← hn4] at c16
    have s40 : σ4 0 = some (.row 2 (hs L)) := by rw [hσ4, hSto_ne (by omega), s30]
    have c20 := f20 (σ := σ4) (v := .nilS) (w := .ref 0 0 N 2) (t := []) (l := L) (kn : Int) ⟨none, rfl, rfl⟩ (Hf.row s40 hLl) (by simp) (by omega) true n4 0
    have htop : TopOk (kn : Int) [] := ⟨by omega, by omega, by simp, List.Pairwise.nil⟩
    have n4' : n2 + BIG ≤ n4 := by rw [hn4]; have := hN_le (n2 + BIG * 1) M; omega
    rcases hN with hN | hN
    · -- as many as there may be
      have e1 : merE (kn : Int) L = 0 := by unfold merE; rw [if_neg (by omega), if_neg (by omega)]
      have e2 : merV (kn : Int) L = fst' kn L := by unfold merV; rw [if_pos e1]; rfl
      have e3 : offE (kn : Int) [] L = 0 := by unfold offE; rw [if_pos htop, if_neg (by omega)]
      have e4 : offV (kn : Int) [] L = M := by unfold offV; rw [if_pos e3, hM, e2]; rfl
      have e5 : offK (kn : Int) [] L = kn := by unfold offK; rw [if_pos e3]
      rw [e3, e4, e5] at c20
      rw [e1] at he
      subst he
      have hfl : M.length = kn := by rw [hM, e2, fst_len]; omega
      have hMne : M ≠ [] := by intro h; rw [h] at hfl; simp at hfl; omega
      obtain ⟨σ5, hσ5⟩ : ∃ σ5, σ5 = hSto σ4 n4 M := ⟨_, rfl⟩
      obtain ⟨n5, hn5⟩ : ∃ n5, n5 = Go.Q.S6.hN n4 M := ⟨_, rfl⟩
      rw [← hσ5, ← hn5] at c20
      have t1 : n2 = 2 := by rw [hn2]; exact if_neg hMne
      have t5 : n5 = n4 + 1 := by rw [hn5]; exact if_neg hMne
      have a2 : σ2 1 = some (.row 2 (hs M)) := by rw [hσ2]; exact hSto_self hMne
      have a3 : σ3 1 = some (.row 2 (hs M)) := by rw [hσ3, merge_low _ _ _ (by omega), a2]
      have a4 : σ4 1 = some (.row 2 (hs M)) := by rw [hσ4, hSto_ne (by omega), a3]
      have b4 : σ4 (n2 + BIG * 1) = some (.row 2 (hs M)) := by rw [hσ4]; exact hSto_self hMne
      have n4e : n4 = n2 + BIG * 1 + 1 := by rw [hn4]; exact if_neg hMne
      have a5 : σ5 1 = some (.row 2 (hs M)) := by rw [hσ5, hSto_ne (by omega), a4]
      have b5 : σ5 (n2 + BIG * 1) = some (.row 2 (hs M)) := by rw [hσ5, hSto_ne (by omega), b4]
      have d5 : σ5 n4 = some (.row 2 (hs M)) := by rw [hσ5]; exact hSto_self hMne
      obtain ⟨σ6, hσ6⟩ : ∃ σ6, σ6 = upd (upd σ5 n5 (some (.row 2 [.agg [.int .i64 0, .nilS]]))) n5 (some (.row 2 [.agg [.int .i64 (kn : Int), hVal n4 M]])) := ⟨_, rfl⟩
      have a6 : σ6 1 = some (.row 2 (hs M)) := by rw [hσ6, upd_ne (by omega), upd_ne (by omega), a5]
      have b6 : σ6 (n2 + BIG * 1) = some (.row 2 (hs M)) := by rw [hσ6, upd_ne (by omega), upd_ne (by omega), b5]
      have d6 : σ6 n4 = some (.row 2 (hs M)) := by rw [hσ6, upd_ne (by omega), upd_ne (by omega), d5]
      have h6 : σ6 n5 = some (.row 2 [.agg [.int .i64 (kn : Int), hVal n4 M]]) := by rw [hσ6, upd_self]
      have f1 := f14 (σ := σ6) (v := hVal 1 M) (w := hVal (n2 + BIG * 1) M) (a := M) (b := M) (Hf.hVal fun _ => a6) (Hf.hVal fun _ => b6) (by omega) true (n5 + 1) 0
      have f2 := f14 (σ := σ6) (v := hVal 1 M) (w := hVal n4 M) (a := M) (b := M) (Hf.hVal fun _ => a6) (Hf.hVal fun _ => d6) (by omega) true (n5 + 1) 0
      simp only [decide_true] at f1 f2
      have hv1 : hVal 1 M = .ref 1 0 M.length 2 := if_neg hMne
      have hhd : (hs M)[0]? = some (.agg [.int .u64 ((N - 1 : Nat) : Int), .int .u64 ((N - (N - 1) : Nat) : Int)]) := by
        have := mkL_head (N := N) (k := kn) (by omega) (by omega)
        rw [← hL, ← e2, ← hM] at this
        unfold hs
        rw [List.getElem?_map, this]
        rfl
      have hsm : ¬ (2000 : Int) < (N : Int) := by omega
      have wN : IntKind.u64.wrap (N : Int) = (N : Int) := by rw [wrap_u64] <;> omega
      have wN1 : IntKind.u64.wrap ((N : Int) - 1) = ((N - 1 : Nat) : Int) := by rw [wrap_u64] <;> omega
      have hlen1 := hVal_len 1 M
      have hk0 : 0 < M.length := by omega
      have hfl' : (M.length : Int) = (kn : Int) := by omega
      rw [hv1, hfl] at c13 f1 f2 hlen1
      have hk00 : 0 < kn := by omega
      simp +contextual -implicitDefEqProofs (maxSteps := 2000000) only [↓wP, wQ, wQ1, wQ2, wQ3, wR, boxE, partsOf, ↓reduceIte, Nat.reduceEqDiff, Nat.reduceAdd, Nat.reduceSub, Nat.reduceLeDiff, Nat.reduceLT, Nat.reduceMul, reduceCtorEq, Int.reduceBNe, Int.reduceBEq, Int.reduceLT, Int.reduceLE, Int.reduceGT, hrem, hkw, g2, g3, c13, hb1, hbd, Nat.sub_zero, y1, ← hσ3, c16, c20, hsm, cl_hVal, one_hVal, ← hσ6, hlen1, hfl, a6, b6, d6, h6, hhd, wN, wN1, f1, f2, hk00]
    · have e1 : merE (kn : Int) L = 3 := by unfold merE; rw [if_neg (by omega), if_pos (by omega)]
      have e2 : merV (kn : Int) L = [] := by unfold merV; rw [e1]; rfl
      have e3 : offE (kn : Int) [] L = 3 := by unfold offE; rw [if_pos htop, if_pos (by omega)]
      have e4 : offV (kn : Int) [] L = [] := by unfold offV; rw [e3]; rfl
      have e5 : offK (kn : Int) [] L = 0 := by unfold offK; rw [e3]; rfl
      rw [e3, e4, e5] at c20
      rw [e1] at he
      rw [e2] at hM
      subst he hM
      have hbig : (2000 : Int) < (N : Int) := by omega
      have q1 : ∀ n, hVal n [] = .nilS := fun _ => rfl
      have q2 : ∀ σ n, hSto σ n [] = σ := fun _ _ => rfl
      have q3 : ∀ n, Go.Q.S6.hN n [] = n := fun _ => rfl
      rw [q1] at c13 c16
      rw [q1, q2, q3] at c20
      simp +contextual -implicitDefEqProofs (maxSteps := 2000000) only [↓wP, wQ, wQ1, wQ2, wQ3, wR, boxE, partsOf, ↓reduceIte, Nat.reduceEqDiff, Nat.reduceAdd, Nat.reduceSub, Nat.reduceLeDiff, Nat.reduceLT, Nat.reduceMul, reduceCtorEq, Int.reduceBNe, Int.reduceBEq, Int.reduceLT, Int.reduceLE, Int.reduceGT, hrem, hkw, g2, g3, c13, hb1, hbd, Nat.sub_zero, y1, ← hσ3, c16, c20, hbig, Int.natCast_zero]
      rfl
  · simp +contextual -implicitDefEqProofs (maxSteps := 2000000) only [↓wP, wQ, wQ1, wQ2, wQ3, wR, boxE, partsOf, ↓reduceIte, Nat.reduceEqDiff, Nat.reduceAdd, Nat.reduceSub, Nat.reduceLeDiff, Nat.reduceLT, Nat.reduceMul, reduceCtorEq, Int.reduceBNe, Int.reduceBEq, Int.reduceLT, Int.reduceLE, Int.reduceGT]
    rw [mkL_zero]
end Go.Q.S6
end

section
/- The first ones of rows are the document's. -/
set_option linter.unusedSimpArgs false
set_option linter.unusedVariables false
namespace Go.Q.S6
open Go.Q Go.Sort

theorem oH_oL (l : List Hit) : oH l = oL (hs l) := by
  unfold oH
  cases l with
  | nil => rfl
  | cons x l => rw [if_neg (by simp)]; rfl
theorem optH_oL (l : List Hit) : optH l = oL l := by
  unfold optH
  cases l with
  | nil => rfl
  | cons x l => rw [if_neg (by simp)]; rfl
theorem fzl_hs (σ : Sto) (l : List Hit) (S : Nat → Prop) : FzL σ 11 (hs l) (hs l) S := FzL.trees (tr_hs 9 l).1 (tr_hs 10 l).2
theorem fz_row {σ : Sto} {id : Nat} {l : List Hit} {S : Nat → Prop} (h : σ id = some (.row 2 (hs l))) (hS : S id) : Fz σ 11 (.ref id 0 l.length 2) (.sl 2 (hs l)) S := by
  rw [← hs_len]
  exact Fz.ref h hS (FzL.trees (tr_hs 8 l).1 (tr_hs 9 l).2)
theorem fze_row {σ : Sto} {id : Nat} {l : List Hit} {S : Nat → Prop} (h : σ id = some (.row 2 (hs l))) (hS : S id) : FzE σ 11 (.ref id 0 l.length 2) (.sl 2 (hs l)) S :=
  FzE.ofFz (fz_row h hS) (fun cs h => by cases h)

theorem fl_hf {σ : Sto} {v : V} {l : List Hit} {S : Nat → Prop} (h : Fl σ 2 v (oL (hs l)) S) : Hf σ v l := by
  cases l with
  | nil => simp only [Fl, hs, oL, List.map_nil] at h; subst h; exact Hf.tree σ none
  | cons x l =>
    obtain ⟨i, rfl, h1, h2⟩ := h
    have h1' : σ i = some (.row 2 (hs (x :: l))) := h1
    have : (V.ref i 0 (hitV x :: List.map hitV l).length 2) = .ref i 0 (x :: l).length 2 := by simp
    rw [this]
    exact Hf.row h1' rfl
def cut (m : Nat) (r : Option (List Hit)) : List Hit := (lst r).take m

theorem r4 (k : Int) (o : Option (List (Option (List Hit)))) (hlo : (lst o).length < 9223372036854775808) (hli : ∀ r ∈ lst o, (lst r).length < 4611686018427387904) : res T 4 [.int .i64 k, slV 1 (slV 2 hitV) o] = some (.bool true) := by
  refine run_res (run_pure (fn := g4) rfl rfl (by decide) ?_)
  simp only [g4, b4]
  simp +contextual -implicitDefEqProofs (maxSteps := 2000000) only [↓wP, wQ, wQ1, wQ2, wQ3, wR, boxE, partsOf, ↓reduceIte, Nat.reduceEqDiff, Nat.reduceAdd, Nat.reduceSub, Nat.reduceLeDiff, Nat.reduceLT, Nat.reduceMul, reduceCtorEq, Int.reduceBNe, Int.reduceBEq, Int.reduceLT, Int.reduceLE, Int.reduceGT, f11]
  refine WC_cutB (fun env σ n => env 0 = .int .i64 k ∧ ∃ j, j ≤ 6 ∧ j ≤ (lst o).length ∧ Bls σ 1 (env 5) (oL (((lst o).take j).map fun r => .sl 2 (hs (cut 60 r)))) (fun i => i < n ∧ ¬ hasId (env 6) i) ∧ Fl σ 2 (env 6) (oL (hs (((lst o).take j).flatMap (cut 60)))) (fun i => i < n ∧ hasId (env 6) i)) ?_ ?_
  · refine WC_for (lst o).length 0 (fun (j : Nat) env σ n => env 0 = .int .i64 k ∧ env 13 = slV 1 (slV 2 hitV) o ∧ j ≤ 6 ∧ Bls σ 1 (env 5) (oL (((lst o).take j).map fun r => .sl 2 (hs (cut 60 r)))) (fun i => i < n ∧ ¬ hasId (env 6) i) ∧ Fl σ 2 (env 6) (oL (hs (((lst o).take j).flatMap (cut 60)))) (fun i => i < n ∧ hasId (env 6) i))
      hlo (by decide) (by decide) (fun _ _ => rfl) (fun _ _ _ => rfl) ?_ ?_ _ _ _ rfl rfl ?_
    · intro j env σ n hj h1 h2 ⟨h3, h4, h5, h6, h7⟩
      simp only [vl_tmp] at h2
      have hx : (lst o)[j]? = some (lst o)[j] := List.getElem?_eq_getElem hj
      have hr := hli _ (List.getElem_mem hj)
      have ht : (lst o).take (j + 1) = (lst o).take j ++ [(lst o)[j]] := (List.take_append_getElem hj).symm
      generalize (lst o)[j] = r at *
      generalize hv5 : env 5 = v5 at *
      generalize hv6 : env 6 = v6 at *
      by_cases h8 : (j : Int) = 6
      · have h8' : ((j : Int) == 6) = true := by simpa using h8
        simp +contextual -implicitDefEqProofs (maxSteps := 2000000) only [↓wP, wQ, wQ1, wQ2, wQ3, wR, boxE, partsOf, ↓reduceIte, Nat.reduceEqDiff, Nat.reduceAdd, Nat.reduceSub, Nat.reduceLeDiff, Nat.reduceLT, Nat.reduceMul, reduceCtorEq, Int.reduceBNe, Int.reduceBEq, Int.reduceLT, Int.reduceLE, Int.reduceGT, exQ_exit, h1, h2, h3, h4, hx, hv5, hv6, h8']
        exact ⟨j, by omega, by omega, h6, h7⟩
      · have h8' : ((j : Int) == 6) = false := by simpa using h8
        have h12 := fun σ n lk => f12 r 60 (by decide) (by omega) true σ n lk
        simp only [show ((60 : Nat) : Int) = 60 from rfl] at h12
        have hc : (lst r).take 60 = cut 60 r := rfl
        rw [hc] at h12
        have hcl : (cut 60 r).length ≤ 60 := by unfold cut; rw [List.length_take]; omega
        have hrl : (((lst o).take j).map fun r => V.sl 2 (hs (cut 60 r))).length = j := by rw [List.length_map, List.length_take]; omega
        have hal : (((lst o).take j).flatMap (cut 60)).length ≤ 360 := by
          have : ∀ q, q ≤ j → (((lst o).take q).flatMap (cut 60)).length ≤ 60 * q := by
            intro q
            induction q with
            | zero => intro _; simp
            | succ q ih =>
              intro hq
              rw [← List.take_append_getElem (l := lst o) (i := q) (by omega), List.flatMap_append, List.length_append]
              have := ih (by omega)
              have h9 : (([(lst o)[q]'(by omega)].flatMap (cut 60))).length ≤ 60 := by simp only [List.flatMap_cons, List.flatMap_nil, List.append_nil, cut, List.length_take]; omega
              omega
          have := this j (Nat.le_refl _)
          omega
        simp +contextual -implicitDefEqProofs (maxSteps := 2000000) only [↓wP, wQ, wQ1, wQ2, wQ3, wR, boxE, partsOf, ↓reduceIte, Nat.reduceEqDiff, Nat.reduceAdd, Nat.reduceSub, Nat.reduceLeDiff, Nat.reduceLT, Nat.reduceMul, reduceCtorEq, Int.reduceBNe, Int.reduceBEq, Int.reduceLT, Int.reduceLE, Int.reduceGT, h1, h2, h3, h4, hx, hv5, hv6, h8', h12]
        have b1 : Bls (upd (upd σ n (some (.row 2 (hs (cut 60 r))))) (n + 1) (some (.row 1 [.ref n 0 (cut 60 r).length 2]))) 1 v5 (oL (((lst o).take j).map fun r => .sl 2 (hs (cut 60 r)))) (fun i => i < n ∧ ¬ hasId v6 i) := by
          refine h6.loc (fun i hi => ?_) (fun _ h => h)
          have a1 : i ≠ n := by omega
          have a2 : i ≠ n + 1 := by omega
          simp [upd, a1, a2]
        have hv5id : ∀ i, hasId v5 i → i < n ∧ ¬ hasId v6 i := fun i hi => h6.ids hi
        have hv6id : ∀ i, hasId v6 i → i < n := fun i hi => (h7.ids hi).1
        have hel : (if (cut 60 r).length ≤ (hs (cut 60 r)).length then some ((hs (cut 60 r)).take (cut 60 r).length) else none) = some (hs (cut 60 r)) := by
          rw [hs_len, if_pos (Nat.le_refl _), ← hs_len, List.take_length]
        refine stepW_appS (us := [.sl 2 (hs (cut 60 r))]) (S' := fun i => i < n + 3 ∧ ¬ hasId v6 i) b1 (fun i hi => by omega) (fun i hi => ⟨by omega, hi.2⟩) ⟨by omega, fun h => by have := hv6id _ h; omega⟩
          (FzL.one (fze_row (by simp [upd]) ⟨⟨by omega, fun h => by have := hv6id _ h; omega⟩, by omega, fun o1 l1 s1 e => by have := hv5id n ⟨o1, l1, s1, e⟩; omega⟩)) ?_ (fun v' σ' n' q1 q2 q3 q4 => ?_)
        · rw [lst_oL, hrl]; unfold LIM; simp; omega
        · have f1 : Fl σ' 2 v6 (oL (hs (((lst o).take j).flatMap (cut 60)))) (fun i => i < n ∧ hasId v6 i) := by
            refine h7.loc (fun i hi => ?_) (fun _ h => h)
            have a1 : i ≠ n := by omega
            have a2 : i ≠ n + 1 := by omega
            rw [q4 i (by omega) (fun o1 l1 s1 e => (hv5id i ⟨o1, l1, s1, e⟩).2 hi.2)]
            simp [upd, a1, a2]
          rw [appO_oL] at q1
          simp +contextual -implicitDefEqProofs (maxSteps := 2000000) only [↓wP, wQ, wQ1, wQ2, wQ3, wR, boxE, partsOf, ↓reduceIte, Nat.reduceEqDiff, Nat.reduceAdd, Nat.reduceSub, Nat.reduceLeDiff, Nat.reduceLT, Nat.reduceMul, reduceCtorEq, Int.reduceBNe, Int.reduceBEq, Int.reduceLT, Int.reduceLE, Int.reduceGT, h1, h2, h3, h4, hv5, hv6, h12, hel]
          have f2 : Fl (upd σ' n' (some (.row 2 (hs (cut 60 r))))) 2 v6 (oL (hs (((lst o).take j).flatMap (cut 60)))) (fun i => i < n ∧ hasId v6 i) := by
            refine f1.loc (fun i hi => ?_) (fun _ h => h)
            have a1 : i ≠ n' := by omega
            simp [upd, a1]
          refine stepW_appF (n := n' + 1) (S' := fun i => True) f2 (fun i hi => by omega) trivial ?_ (fun v2 σ2 n2 g1 g2 g3 g4 g5 => ?_)
          · rw [lst_oL, hs_len, hs_len]; unfold LIM; omega
          · rw [appO_oL, hs_app] at g1
            simp +contextual -implicitDefEqProofs (maxSteps := 2000000) only [↓wP, wQ, wQ1, wQ2, wQ3, wR, boxE, partsOf, ↓reduceIte, Nat.reduceEqDiff, Nat.reduceAdd, Nat.reduceSub, Nat.reduceLeDiff, Nat.reduceLT, Nat.reduceMul, reduceCtorEq, Int.reduceBNe, Int.reduceBEq, Int.reduceLT, Int.reduceLE, Int.reduceGT, h1, h2, h3, h4]
            have hh : ∀ i, hasId v2 i → n' + 1 ≤ i := by rintro i ⟨o1, l1, s1, e⟩; exact g5 i o1 l1 s1 e
            refine ⟨by omega, ?_, ?_⟩
            · rw [ht, List.map_append]
              refine q1.loc (fun i hi => ?_) (fun i hi => ⟨by omega, fun h => ?_⟩)
              · have a1 : i ≠ n' := by omega
                rw [g4 i (by omega) (fun o1 l1 s1 e => hi.1.2 ⟨o1, l1, s1, e⟩)]
                simp [upd, a1]
              · have := hh i h
                omega
            · rw [ht, List.flatMap_append]
              simp only [List.flatMap_cons, List.flatMap_nil, List.append_nil]
              exact g1.self.loc (fun i _ => rfl) (fun i hi => ⟨hi.1.2.2, hi.2⟩)
    · intro env σ n ⟨h3, h4, h5, h6, h7⟩ h1 h2
      simp +contextual -implicitDefEqProofs (maxSteps := 2000000) only [↓wP, wQ, wQ1, wQ2, wQ3, wR, boxE, partsOf, ↓reduceIte, Nat.reduceEqDiff, Nat.reduceAdd, Nat.reduceSub, Nat.reduceLeDiff, Nat.reduceLT, Nat.reduceMul, reduceCtorEq, Int.reduceBNe, Int.reduceBEq, Int.reduceLT, Int.reduceLE, Int.reduceGT, exQ_exit, h3]
      exact ⟨(lst o).length, h5, Nat.le_refl _, h6, h7⟩
    · simp +contextual -implicitDefEqProofs (maxSteps := 2000000) only [↓wP, wQ, wQ1, wQ2, wQ3, wR, boxE, partsOf, ↓reduceIte, Nat.reduceEqDiff, Nat.reduceAdd, Nat.reduceSub, Nat.reduceLeDiff, Nat.reduceLT, Nat.reduceMul, reduceCtorEq, Int.reduceBNe, Int.reduceBEq, Int.reduceLT, Int.reduceLE, Int.reduceGT]
      simp [oL, Bls, Fl, hs]
  · intro env σ n ⟨h3, j, hj6, hjl, h6, h7⟩
    generalize hv5 : env 5 = v5 at *
    generalize hv6 : env 6 = v6 at *
    have hfm : (lst (oL (((lst o).take j).map fun r => some (cut 60 r)))).flatMap lst = ((lst o).take j).flatMap (cut 60) := by
      rw [lst_oL, List.flatMap_map]; rfl
    have hal : (((lst o).take j).flatMap (cut 60)).length ≤ 360 := by
      have : ∀ q, q ≤ j → (((lst o).take q).flatMap (cut 60)).length ≤ 60 * q := by
        intro q
        induction q with
        | zero => intro _; simp
        | succ q ih =>
          intro hq
          rw [← List.take_append_getElem (l := lst o) (i := q) (by omega), List.flatMap_append, List.length_append]
          have := ih (by omega)
          have h9 : (([(lst o)[q]'(by omega)].flatMap (cut 60))).length ≤ 60 := by simp only [List.flatMap_cons, List.flatMap_nil, List.append_nil, cut, List.length_take]; omega
          omega
      have := this j (Nat.le_refl _)
      omega
    have h16 := r16 k (oL (((lst o).take j).map fun r => some (cut 60 r))) (by rw [lst_oL, List.length_map, List.length_take]; omega) (fun r hr => by
      rw [lst_oL] at hr
      obtain ⟨x, -, rfl⟩ := List.mem_map.1 hr
      simp only [lst_some, cut, List.length_take]; omega)
    rw [hfm] at h16
    have hz : frz σ 12 v5 = some (slV 1 (slV 2 hitV) (oL (((lst o).take j).map fun r => some (cut 60 r)))) := by
      have hm : ((lst o).take j).map (fun r => V.sl 2 (hs (cut 60 r))) = (((lst o).take j).map fun r => some (cut 60 r)).map (slV 2 hitV) := by rw [List.map_map]; rfl
      rw [h6.frz, hm, slV_oL]
    have e : [V.int .i64 k, v5].mapM (frz σ 12) = some [V.int .i64 k, slV 1 (slV 2 hitV) (oL (((lst o).take j).map fun r => some (cut 60 r)))] := by
      simp only [List.mapM_cons, List.mapM_nil, hz, frz_int]; rfl
    have c16 := callE_flat (fs := true) (n := n) (lk := 0) (by decide) e h16 (flat_tup2 (flat_ownH _) rfl)
    rw [thaw_hTup] at c16
    generalize ((lst o).take j).flatMap (cut 60) = L at *
    by_cases hk : k < 1 ∨ 16 < k
    · have e1 : merE k L = 2 := if_pos hk
      have e2 : merV k L = [] := by unfold merV; rw [e1]; rfl
      rw [e1, e2] at c16
      have e3 : hVal n [] = .nilS := rfl
      have e4 : hSto σ n [] = σ := rfl
      have e5 : hN n [] = n := rfl
      rw [e3, e4, e5] at c16
      by_cases hk1 : k < 1
      · simp +contextual -implicitDefEqProofs (maxSteps := 2000000) only [↓wP, wQ, wQ1, wQ2, wQ3, wR, boxE, partsOf, ↓reduceIte, Nat.reduceEqDiff, Nat.reduceAdd, Nat.reduceSub, Nat.reduceLeDiff, Nat.reduceLT, Nat.reduceMul, reduceCtorEq, Int.reduceBNe, Int.reduceBEq, Int.reduceLT, Int.reduceLE, Int.reduceGT, h3, hv5, hv6, c16, hk1, Int.natCast_zero]
      · have hk2 : 16 < k := by omega
        simp +contextual -implicitDefEqProofs (maxSteps := 2000000) only [↓wP, wQ, wQ1, wQ2, wQ3, wR, boxE, partsOf, ↓reduceIte, Nat.reduceEqDiff, Nat.reduceAdd, Nat.reduceSub, Nat.reduceLeDiff, Nat.reduceLT, Nat.reduceMul, reduceCtorEq, Int.reduceBNe, Int.reduceBEq, Int.reduceLT, Int.reduceLE, Int.reduceGT, h3, hv5, hv6, c16, hk1, hk2, Int.natCast_zero]
    · have e1 : merE k L = 0 := by unfold merE; rw [if_neg hk, if_neg (by omega)]
      obtain ⟨kn, rfl⟩ : ∃ kn : Nat, k = (kn : Int) := ⟨k.toNat, by omega⟩
      have e2 : merV (kn : Int) L = fst' kn L := by unfold merV; rw [if_pos e1]; rfl
      rw [e1, e2] at c16
      have hk1 : ¬ (kn : Int) < 1 := by omega
      have hk2 : ¬ 16 < (kn : Int) := by omega
      have hfl := fst_len kn L
      by_cases hL : L = []
      · subst hL
        have hv : v6 = .nilS := h7
        have e3 : fst' kn [] = [] := by simp [fst', srt]
        rw [e3] at c16
        have e4 : hVal n [] = .nilS := rfl
        have e5 : hSto σ n [] = σ := rfl
        have e6 : hN n [] = n := rfl
        rw [e4, e5, e6] at c16
        have c15 := f15n kn (by omega) true σ n 0
        have c14 := f14 (σ := σ) (v := .nilS) (w := .nilS) (Hf.tree σ none) (Hf.tree σ none) (by simp [lst]) true n 0
        simp only [decide_true] at c14
        simp +contextual -implicitDefEqProofs (maxSteps := 2000000) only [↓wP, wQ, wQ1, wQ2, wQ3, wR, boxE, partsOf, ↓reduceIte, Nat.reduceEqDiff, Nat.reduceAdd, Nat.reduceSub, Nat.reduceLeDiff, Nat.reduceLT, Nat.reduceMul, reduceCtorEq, Int.reduceBNe, Int.reduceBEq, Int.reduceLT, Int.reduceLE, Int.reduceGT, h3, hv5, hv6, hv, c16, hk1, hk2, c15, c14]
      · obtain ⟨x, l, rfl⟩ : ∃ x l, L = x :: l := by cases L with | nil => exact absurd rfl hL | cons x l => exact ⟨x, l, rfl⟩
        obtain ⟨id, e3, e4, e5⟩ := h7
        have e3' : v6 = .ref id 0 (x :: l).length 2 := by rw [e3]; simp
        have e4' : σ id = some (.row 2 (hs (x :: l))) := e4
        generalize hLL : x :: l = L at *
        obtain ⟨σ1, hσ1⟩ : ∃ σ1, σ1 = hSto σ n (fst' kn L) := ⟨_, rfl⟩
        obtain ⟨n1, hn1⟩ : ∃ n1, n1 = hN n (fst' kn L) := ⟨_, rfl⟩
        rw [← hσ1, ← hn1] at c16
        have t1 : σ1 id = some (.row 2 (hs L)) := by rw [hσ1, hSto_ne (by omega), e4']
        have c15 := f15 (σ := σ1) (id := id) (l := L) kn L.length t1 rfl (by omega) (by omega) n1
        have c14 := f14 (σ := dr σ1 id L) (v := hVal n (fst' kn L)) (w := slV 2 hitV (refF kn L)) (a := fst' kn L) (b := lst (refF kn L))
          (Hf.hVal fun h => by rw [dr_at _ _ _ (by omega), hσ1]; exact hSto_self h) (Hf.tree _ _) (by omega) true n1 0
        rw [lst_refF] at c14
        simp only [decide_true] at c14
        simp +contextual -implicitDefEqProofs (maxSteps := 2000000) only [↓wP, wQ, wQ1, wQ2, wQ3, wR, boxE, partsOf, ↓reduceIte, Nat.reduceEqDiff, Nat.reduceAdd, Nat.reduceSub, Nat.reduceLeDiff, Nat.reduceLT, Nat.reduceMul, reduceCtorEq, Int.reduceBNe, Int.reduceBEq, Int.reduceLT, Int.reduceLE, Int.reduceGT, h3, hv5, hv6, e3', c16, hk1, hk2, c15, c14]

end Go.Q.S6
end

section
/- The first ones are the first ones of each part's first ones, and of what is offered one by one. -/
set_option linter.unusedSimpArgs false
set_option linter.unusedVariables false
namespace Go.Q.S6
open Go.Q Go.Sort

theorem fst_idem (k : Nat) (l : List Hit) : fst' k (fst' k l) = fst' k l := by
  have := fst_app k l []
  simp only [List.append_nil] at this
  exact this.symm
theorem fst_parts (k : Nat) : ∀ ws : List (List Hit), fst' k (ws.flatMap (fst' k)) = fst' k ws.flatten
  | [] => rfl
  | w :: ws => by
    rw [List.flatMap_cons, List.flatten_cons, fst_app2 k w, fst_app2 k (fst' k w), fst_idem, fst_parts k ws]

/-- Parts, and a selection, in the store. -/
structure PI (σ : Sto) (n pid P : Nat) (vs : List V) (ws : List (List Hit)) (kn : Nat) (tv : V) (Tl : List Hit) : Prop where
  hp : pid < P ∧ P < n
  len : vs.length = 4 ∧ ws.length = 4
  row : σ pid = some (.row 1 vs)
  cell : σ P = some (.row 2 [.agg [.int .i64 (kn : Int), tv]])
  each : ∀ (i : Nat) (v : V) (w : List Hit), vs[i]? = some v → ws[i]? = some w → Fl σ 2 v (oL (hs w)) (fun j => P < j ∧ j < n)
  inj : ∀ (i j : Nat) (v v' : V) (a : Nat), vs[i]? = some v → vs[j]? = some v' → hasId v a → hasId v' a → i = j
  tvF : Fl σ 2 tv (oL (hs Tl)) (fun j => P < j ∧ j < n ∧ ∀ (i : Nat) (v : V), vs[i]? = some v → ¬ hasId v j)

theorem PI.loc {σ σ' : Sto} {n n' pid P kn : Nat} {vs : List V} {ws : List (List Hit)} {tv : V} {Tl : List Hit} (h : PI σ n pid P vs ws kn tv Tl) (hs : ∀ i, i < n → σ' i = σ i) (hn : n ≤ n') : PI σ' n' pid P vs ws kn tv Tl where
  hp := ⟨h.hp.1, by have := h.hp.2; omega⟩
  len := h.len
  row := by rw [hs pid (by have := h.hp; omega), h.row]
  cell := by rw [hs P h.hp.2, h.cell]
  each := fun i v w h1 h2 => (h.each i v w h1 h2).loc (fun j hj => hs j hj.2) (fun j hj => ⟨hj.1, by omega⟩)
  inj := h.inj
  tvF := h.tvF.loc (fun j hj => hs j hj.2.1) (fun j hj => ⟨hj.1, by omega, hj.2.2⟩)

/-- One part gets a hit more. -/
theorem PI.part {σ σ' : Sto} {n n' pid P kn q id : Nat} {vs : List V} {ws : List (List Hit)} {tv v : V} {Tl w : List Hit} {x : Hit} (h : PI σ n pid P vs ws kn tv Tl) (hv : vs[q]? = some v) (hw : ws[q]? = some w)
    (h1 : n ≤ id) (h2 : id < n') (h3 : σ' id = some (.row 2 (hs (w ++ [x])))) (h4 : σ' pid = some (.row 1 (vs.set q (.ref id 0 (w ++ [x]).length 2)))) (h5 : ∀ i, i ≠ pid → i < n → ¬ hasId v i → σ' i = σ i) :
    PI σ' n' pid P (vs.set q (.ref id 0 (w ++ [x]).length 2)) (ws.set q (w ++ [x])) kn tv Tl := by
  have hq : q < vs.length := (List.getElem?_eq_some_iff.1 hv).1
  have hqw : q < ws.length := (List.getElem?_eq_some_iff.1 hw).1
  have hvid : ∀ a, hasId v a → P < a ∧ a < n := fun a ha => (h.each q v w hv hw).ids ha
  have hpp := h.hp
  have hset : ∀ (i : Nat) (u : V), (vs.set q (.ref id 0 (w ++ [x]).length 2))[i]? = some u → (i = q ∧ u = .ref id 0 (w ++ [x]).length 2) ∨ (i ≠ q ∧ vs[i]? = some u) := by
    intro i u hu
    by_cases e : q = i
    · subst e
      rw [List.getElem?_set_self hq] at hu
      exact .inl ⟨rfl, (Option.some.inj hu).symm⟩
    · rw [List.getElem?_set_ne e] at hu
      exact .inr ⟨fun h => e h.symm, hu⟩
  have hsetw : ∀ (i : Nat) (u : List Hit), (ws.set q (w ++ [x]))[i]? = some u → (i = q ∧ u = w ++ [x]) ∨ (i ≠ q ∧ ws[i]? = some u) := by
    intro i u hu
    by_cases e : q = i
    · subst e
      rw [List.getElem?_set_self hqw] at hu
      exact .inl ⟨rfl, (Option.some.inj hu).symm⟩
    · rw [List.getElem?_set_ne e] at hu
      exact .inr ⟨fun h => e h.symm, hu⟩
  refine ⟨⟨h.hp.1, by omega⟩, ⟨by rw [List.length_set]; exact h.len.1, by rw [List.length_set]; exact h.len.2⟩, h4, ?_, ?_, ?_, ?_⟩
  · rw [h5 P (by omega) h.hp.2 (fun hh => by have := hvid _ hh; omega), h.cell]
  · intro i u y hu hy
    rcases hset i u hu with ⟨rfl, rfl⟩ | ⟨hi, hu⟩
    · rcases hsetw i y hy with ⟨-, rfl⟩ | ⟨hi, -⟩
      · have hne : oL (hs (w ++ [x])) = some (hs (w ++ [x])) := by
          rw [← lst_oL (hs (w ++ [x]))]
          cases hh : hs (w ++ [x]) with
          | nil => simp [hs] at hh
          | cons a l => rfl
        rw [hne]
        exact ⟨id, by rw [hs_len], h3, by omega, h2⟩
      · exact absurd rfl hi
    · rcases hsetw i y hy with ⟨rfl, -⟩ | ⟨-, hy⟩
      · exact absurd rfl hi
      · have hF := h.each i u y hu hy
        refine hF.self.loc (fun j hj => h5 j (by omega) hj.1.2 fun hh => ?_) (fun j hj => ⟨hj.1.1, by omega⟩)
        exact hi (h.inj i q u v j hu hv hj.2 hh)
  · intro i j u u' a hu hu' ha ha'
    have s1 := hset i u hu
    have s2 := hset j u' hu'
    clear hu hu'
    rcases s1 with ⟨e1, e2⟩ | ⟨hi, hu⟩ <;> rcases s2 with ⟨e3, e4⟩ | ⟨hj, hu'⟩
    · rw [e1, e3]
    · obtain ⟨_, _, _, e⟩ := ha
      rw [e2] at e
      cases e
      have hlt : j < ws.length := by have := (List.getElem?_eq_some_iff.1 hu').1; have := h.len; omega
      have := (h.each j u' _ hu' (List.getElem?_eq_getElem hlt)).ids ha'
      omega
    · obtain ⟨_, _, _, e⟩ := ha'
      rw [e4] at e
      cases e
      have hlt : i < ws.length := by have := (List.getElem?_eq_some_iff.1 hu).1; have := h.len; omega
      have := (h.each i u _ hu (List.getElem?_eq_getElem hlt)).ids ha
      omega
    · exact h.inj i j u u' a hu hu' ha ha'
  · refine h.tvF.loc (fun j hj => h5 j (by omega) hj.2.1 (hj.2.2 q v hv)) (fun j hj => ⟨hj.1, by omega, fun i u hu hh => ?_⟩)
    rcases hset i u hu with ⟨rfl, rfl⟩ | ⟨-, hu⟩
    · obtain ⟨_, _, _, e⟩ := hh
      cases e
      omega
    · exact hj.2.2 i u hu hh

/-- The selection turns. -/
theorem PI.top {σ σ' : Sto} {n n' pid P kn : Nat} {vs : List V} {ws : List (List Hit)} {tv tv' : V} {Tl Tl' : List Hit} (h : PI σ n pid P vs ws kn tv Tl) (hn : n ≤ n')
    (h1 : Fl σ' 2 tv' (oL (hs Tl')) (fun j => n ≤ j ∧ j < n')) (h2 : σ' P = some (.row 2 [.agg [.int .i64 (kn : Int), tv']])) (h3 : ∀ i, i ≠ P → i < n → σ' i = σ i) : PI σ' n' pid P vs ws kn tv' Tl' where
  hp := ⟨h.hp.1, by have := h.hp.2; omega⟩
  len := h.len
  row := by rw [h3 pid (by have := h.hp; omega) (by have := h.hp; omega), h.row]
  cell := h2
  each := fun i v w e1 e2 => (h.each i v w e1 e2).loc (fun j hj => h3 j (by omega) hj.2) (fun j hj => ⟨hj.1, by omega⟩)
  inj := h.inj
  tvF := h1.loc (fun j hj => rfl) (fun j hj => ⟨by have := h.hp.2; omega, hj.2, fun i v hv hh => by
    have hlt : i < ws.length := by have := (List.getElem?_eq_some_iff.1 hv).1; have := h.len; omega
    have := (h.each i v _ hv (List.getElem?_eq_getElem hlt)).ids hh
    omega⟩)

theorem perm_set {ws : List (List Hit)} {q : Nat} {w : List Hit} {x : Hit} (h : ws[q]? = some w) : (ws.set q (w ++ [x])).flatten.Perm (ws.flatten ++ [x]) := by
  induction ws generalizing q with
  | nil => simp at h
  | cons a ws ih =>
    cases q with
    | zero =>
      simp only [List.getElem?_cons_zero, Option.some.injEq] at h
      subst h
      simp only [List.set_cons_zero, List.flatten_cons, List.append_assoc]
      exact (List.perm_append_comm (l₁ := [x]) (l₂ := ws.flatten)).append_left a
    | succ q =>
      simp only [List.set_cons_succ, List.flatten_cons, List.append_assoc]
      exact (ih (by simpa using h)).append_left a

theorem fl_ht {σ : Sto} {v : V} {l : List Hit} {S : Nat → Prop} (h : Fl σ 2 v (oL (hs l)) S) : ∃ o, lst o = l ∧ ∀ k, frz σ (k + 3) v = some (slV 2 hitV o) := by
  cases l with
  | nil => simp only [Fl, hs, oL, List.map_nil] at h; subst h; exact ⟨none, rfl, fun k => rfl⟩
  | cons x l =>
    obtain ⟨i, rfl, h1, h2⟩ := h
    have h1' : σ i = some (.row 2 (hs (x :: l))) := h1
    refine ⟨some (x :: l), rfl, fun k => ?_⟩
    have := frz_part (off := 0) (N := (x :: l).length) h1' (by simp) k
    rw [List.drop_zero, List.take_length] at this
    have e : (V.ref i 0 (hitV x :: List.map hitV l).length 2) = .ref i 0 (x :: l).length 2 := by simp
    rw [e]
    exact this
theorem f22h {σ : Sto} {v : V} {l : List Hit} (k : Int) (h : ∃ o, lst o = l ∧ ∀ k, frz σ (k + 3) v = some (slV 2 hitV o)) (hl : l.length < 9223372036854775808) (fs : Bool) (n lk : Nat) : callE T fs 22 [.agg [.int .i64 k, v]] σ n lk = some (.int .i64 (topE k l), σ, n) := by
  obtain ⟨o, rfl, e⟩ := h
  have e' : [V.agg [.int .i64 k, v]].mapM (frz σ 12) = some [V.agg [.int .i64 k, slV 2 hitV o]] := by simp only [List.mapM_cons, List.mapM_nil, frz, e 8]; rfl
  rw [callE_flat (by decide) e' (r22 k o hl) rfl]; rfl
theorem hVal_fl (σ : Sto) (n : Nat) (l : List Hit) : Fl (hSto σ n l) 2 (hVal n l) (oL (hs l)) (fun j => j = n ∧ l ≠ []) := by
  unfold hVal hSto
  cases l with
  | nil => rw [if_pos rfl]; rfl
  | cons x l =>
    rw [if_neg (by simp), if_neg (by simp)]
    exact ⟨n, by simp [hs], by rw [upd_self]; rfl, rfl, by simp⟩

theorem r10 (k : Int) (o : Option (List Hit)) (c : Option (List Int)) (hl : (lst o).length < 4611686018427387904) (hc : (lst c).length < 9223372036854775808) : res T 10 [.int .i64 k, slV 2 hitV o, slV 1 i64V c] = some (.bool true) := by
  refine run_res (run_pure (fn := g10) rfl rfl (by decide) ?_)
  simp only [g10, b10]
  obtain ⟨kn, hk1, hk2, hkw⟩ := kmod k
  have hrem := fun a => bin_rem .i64 a 16 (by decide)
  obtain ⟨L, hL⟩ : ∃ L, L = (lst o).take 200 := ⟨_, rfl⟩
  have hLl : L.length ≤ 200 := by rw [hL, List.length_take]; omega
  have h12 := fun σ n lk => f12 o 200 (by decide) (by omega) true σ n lk
  simp only [show ((200 : Nat) : Int) = 200 from rfl] at h12
  rw [← hL] at h12
  have e1 : merE (kn : Int) L = 0 := by unfold merE; rw [if_neg (by omega), if_neg (by omega)]
  have e2 : merV (kn : Int) L = fst' kn L := by unfold merV; rw [if_pos e1]; rfl
  have c13 := f13 (σ := upd Sto.empty 0 (some (.row 2 (hs L)))) (v := .ref 0 0 L.length 2) (l := L) (kn : Int) (Hf.row (by rw [upd_self]) rfl) (by omega) true 1 0
  obtain ⟨M, hM⟩ : ∃ M, M = fst' kn L := ⟨_, rfl⟩
  rw [e1, e2, ← hM] at c13
  obtain ⟨σ2, hσ2⟩ : ∃ σ2, σ2 = hSto (upd Sto.empty 0 (some (.row 2 (hs L)))) 1 M := ⟨_, rfl⟩
  obtain ⟨n2, hn2⟩ : ∃ n2, n2 = hN 1 M := ⟨_, rfl⟩
  rw [← hσ2, ← hn2] at c13
  have hn2' : 1 ≤ n2 := by rw [hn2]; exact hN_le _ _
  have hn2M : M ≠ [] → 1 < n2 := by intro h; rw [hn2]; unfold hN; rw [if_neg h]; omega
  have hMl : M.length ≤ 200 := by rw [hM, fst_len]; omega
  have s20 : σ2 0 = some (.row 2 (hs L)) := by rw [hσ2, hSto_ne (by decide), upd_self]
  have s21 : M ≠ [] → σ2 1 = some (.row 2 (hs M)) := fun h => by rw [hσ2]; exact hSto_self h
  have e3 : newE (kn : Int) = 0 := if_neg (by omega)
  have c19 := f19 (kn : Int)
  simp only [e3, if_true] at c19
  have hb1 : (0 : Int) ≤ 4 := by decide
  have hb2 : ((24 : Nat) : Int) * 4 ≤ 140737488355328 := by decide
  have hb3 : (4 : Int).toNat = 4 := rfl
  have v1 : (n2 = n2 + 1) = False := by simp
  simp +contextual -implicitDefEqProofs (maxSteps := 2000000) only [↓wP, wQ, wQ1, wQ2, wQ3, wR, boxE, partsOf, ↓reduceIte, Nat.reduceEqDiff, Nat.reduceAdd, Nat.reduceSub, Nat.reduceLeDiff, Nat.reduceLT, Nat.reduceMul, reduceCtorEq, Int.reduceBNe, Int.reduceBEq, Int.reduceLT, Int.reduceLE, Int.reduceGT, f11, hrem, hkw, h12, c13, hb1, hb2, hb3, c19]
  obtain ⟨A1, hA1⟩ : ∃ A1 : Sto → Prop, A1 = fun σ => (M ≠ [] → σ 1 = some (.row 2 (hs M))) := ⟨_, rfl⟩
  refine WC_cutB (fun env σ n => env 0 = .int .i64 (kn : Int) ∧ env 7 = hVal 1 M ∧ env 9 = .ref n2 0 4 1 ∧ env 10 = .ptr (n2 + 1) 2 0 0 ∧ A1 σ ∧
      ∃ vs ws tv, PI σ n n2 (n2 + 1) vs ws kn tv M ∧ ws.flatten.Perm L) ?_ ?_
  · refine WC_for L.length 0 (fun (j : Nat) env σ n => env 0 = .int .i64 (kn : Int) ∧ env 2 = slV 1 i64V c ∧ env 45 = .ref 0 0 L.length 2 ∧ env 7 = hVal 1 M ∧ env 9 = .ref n2 0 4 1 ∧ env 10 = .ptr (n2 + 1) 2 0 0 ∧ σ 0 = some (.row 2 (hs L)) ∧ A1 σ ∧
      ∃ vs ws tv, PI σ n n2 (n2 + 1) vs ws kn tv (fst' kn (L.take j)) ∧ ws.flatten.Perm (L.take j)) (by omega) (by decide) (by decide) (fun _ _ => rfl) (fun _ _ _ => rfl) ?_ ?_ _ _ _ rfl rfl ?_
    · intro j env σ n hj h1 h2 ⟨g1, g2, g3, g4, g5, g6, g7, g8, vs, ws, tv, hPI, hperm⟩
      simp only [vl_tmp] at h2
      rw [hA1] at g8
      have xj := hs_get hj
      have ht : L.take (j + 1) = L.take j ++ [L[j]] := (List.take_append_getElem hj).symm
      generalize L[j] = x at *
      have hpp := hPI.hp
      obtain ⟨σ1, hσ1⟩ : ∃ σ1, σ1 = upd (upd σ n (some (.row 2 [.agg [.int .u64 0, .int .u64 0]]))) n (some (.row 2 [.agg [.int .u64 x.id, .int .u64 x.d]])) := ⟨_, rfl⟩
      have q0 : ∀ i, i < n → σ1 i = σ i := fun i hi => by rw [hσ1, upd_ne (by omega), upd_ne (by omega)]
      have qn : σ1 n = some (.row 2 [.agg [.int .u64 x.id, .int .u64 x.d]]) := by rw [hσ1, upd_self]
      have hP1 : PI σ1 (n + 1) n2 (n2 + 1) vs ws kn tv (fst' kn (L.take j)) := hPI.loc q0 (by omega)
      simp +contextual -implicitDefEqProofs (maxSteps := 2000000) only [↓wP, wQ, wQ1, wQ2, wQ3, wR, boxE, partsOf, ↓reduceIte, Nat.reduceEqDiff, Nat.reduceAdd, Nat.reduceSub, Nat.reduceLeDiff, Nat.reduceLT, Nat.reduceMul, reduceCtorEq, Int.reduceBNe, Int.reduceBEq, Int.reduceLT, Int.reduceLE, Int.reduceGT, h1, h2, g1, g2, g3, g4, g5, g6, g7, xj, hj, ← hσ1]
      refine condC_cut (fun env' σ' n' => σ' = σ1 ∧ n' = n + 1 ∧ env' 0 = .int .i64 (kn : Int) ∧ env' 2 = slV 1 i64V c ∧ env' 45 = .ref 0 0 L.length 2 ∧ env' 46 = .int .i64 (L.length : Int) ∧ env' 47 = .int .i64 (j : Int) ∧ env' 7 = hVal 1 M ∧ env' 9 = .ref n2 0 4 1 ∧ env' 10 = .ptr (n2 + 1) 2 0 0 ∧ env' 12 = .ptr n 2 0 0 ∧ ∃ at', env' 13 = .int .i64 at') ?_ ?_ ?_
      · intro hx
        have hx' : 0 < (lst c).length := by have := of_decide_eq_true hx; omega
        have hrc := bin_rem .i64 (j : Int) ((lst c).length : Int) (by omega)
        have hrm : (j : Int).tmod ((lst c).length : Int) = ((j % (lst c).length : Nat) : Int) := rfl
        rw [hrm] at hrc
        have hlt : j % (lst c).length < (lst c).length := Nat.mod_lt _ hx'
        have xc : (lst c)[j % (lst c).length]? = some (lst c)[j % (lst c).length] := List.getElem?_eq_getElem hlt
        simp +contextual -implicitDefEqProofs (maxSteps := 2000000) only [↓wP, wQ, wQ1, wQ2, wQ3, wR, boxE, partsOf, ↓reduceIte, Nat.reduceEqDiff, Nat.reduceAdd, Nat.reduceSub, Nat.reduceLeDiff, Nat.reduceLT, Nat.reduceMul, reduceCtorEq, Int.reduceBNe, Int.reduceBEq, Int.reduceLT, Int.reduceLE, Int.reduceGT, h1, h2, g1, g2, g3, g4, g5, g6, hrc, xc, i64V_eq]
        exact ⟨_, rfl⟩
      · intro hx
        simp +contextual -implicitDefEqProofs (maxSteps := 2000000) only [↓wP, wQ, wQ1, wQ2, wQ3, wR, boxE, partsOf, ↓reduceIte, Nat.reduceEqDiff, Nat.reduceAdd, Nat.reduceSub, Nat.reduceLeDiff, Nat.reduceLT, Nat.reduceMul, reduceCtorEq, Int.reduceBNe, Int.reduceBEq, Int.reduceLT, Int.reduceLE, Int.reduceGT, h1, h2, g1, g2, g3, g4, g5, g6]
        exact ⟨_, rfl⟩
      · clear h1 h2 g1 g2 g3 g4 g5 g6
        intro env σ' n' ⟨r1, r2, g1, g2, g3, h2, h1, g4, g5, g6, g9, at', g10⟩
        subst r1 r2
        have hB := big_le
        obtain ⟨qq, hqq, hqw⟩ : ∃ q : Nat, q < 4 ∧ (IntKind.u64.wrap at').tmod 4 = (q : Int) := by
          have h0 : 0 ≤ IntKind.u64.wrap at' := by
            unfold IntKind.wrap
            simp only [IntKind.signed, IntKind.bits]
            first | omega | (simp; omega) | skip
          have h3 : 0 ≤ (IntKind.u64.wrap at').tmod 4 := Int.tmod_nonneg 4 h0
          have h4 : (IntKind.u64.wrap at').tmod 4 < 4 := Int.tmod_lt_of_pos _ (by decide)
          exact ⟨((IntKind.u64.wrap at').tmod 4).toNat, by omega, by omega⟩
        have hremu := bin_rem .u64 (IntKind.u64.wrap at') 4 (by decide)
        rw [hqw] at hremu
        have hrow := hP1.row
        have hv : vs[qq]? = some (vs[qq]'(by have := hP1.len.1; omega)) := List.getElem?_eq_getElem _
        have hw : ws[qq]? = some (ws[qq]'(by have := hP1.len.2; omega)) := List.getElem?_eq_getElem _
        generalize vs[qq]'(by have := hP1.len.1; omega) = v at hv
        generalize ws[qq]'(by have := hP1.len.2; omega) = w at hw
        have hF := hP1.each qq v w hv hw
        have hvl := hP1.len.1
        have hwl : w.length ≤ 200 := by
          have : w.length ≤ ws.flatten.length := by
            obtain ⟨hlt, rfl⟩ := List.getElem?_eq_some_iff.1 hw
            exact (List.sublist_flatten_of_mem (List.getElem_mem hlt)).length_le
          have := hperm.length_eq
          rw [List.length_take] at this
          omega
        have x1 : ∀ σ : Sto, hide σ (n + 1) (n + 1) [0] n2 = σ n2 := fun σ => hide_low σ (n + 1) (n + 1) _ (by omega) (Nat.le_refl _)
        have x2 : ∀ (σ σ' : Sto) (i : Nat), i < n + 1 → merge σ σ' (n + 1) i = σ i := fun σ σ' i hi => merge_low σ σ' (n + 1) (by omega)
        have x2' : ∀ (σ σ' : Sto), merge σ σ' (n + 1) n2 = σ n2 := fun σ σ' => x2 σ σ' n2 (by omega)
        have x4 : ∀ σ σ' : Sto, merge σ σ' (n + 1) (n + 1) = σ' (n + 1) := fun σ σ' => merge_in σ σ' (n + 1) (Nat.le_refl _) (by omega)
        have y1 : (n + 1 + 1 ≤ n + 1 + BIG) = True := by simp; omega
        have y3 : (n + (1 + 1) ≤ n + (1 + BIG)) = True := by simp; omega
        have y2 : (n + (1 + (BIG + 1)) ≤ n + (1 + (BIG + BIG))) = True := by simp; omega
        have one' : ∀ m, (V.ref m 0 (w ++ [x]).length 2).one = true := fun _ => rfl
        have hs0 : σ' 0 = some (.row 2 (hs L)) := by rw [q0 0 (by omega), g7]
        have hs1 : M ≠ [] → σ' 1 = some (.row 2 (hs M)) := fun h => by have := hn2M h; rw [q0 1 (by omega), g8 h]
        have hfin : ∀ (σ3 : Sto), σ3 (n + (1 + BIG)) = some (.row 2 (hs (w ++ [x]))) → σ3 n2 = some (.row 1 (vs.set qq (.ref (n + (1 + BIG)) 0 (w ++ [x]).length 2))) → (∀ i, i ≠ n2 → i < n + 1 → ¬ hasId v i → σ3 i = σ' i) →
            σ3 n = some (.row 2 [.agg [.int .u64 x.id, .int .u64 x.d]]) ∧ σ3 0 = some (.row 2 (hs L)) ∧ (M ≠ [] → σ3 1 = some (.row 2 (hs M))) ∧ ∃ vs' ws', PI σ3 (n + (1 + BIG * 2)) n2 (n2 + 1) vs' ws' kn tv (fst' kn (L.take j)) ∧ ws'.flatten.Perm (L.take j ++ [x]) := by
          intro σ3 k1 k2 k3
          have nid : ∀ i, hasId v i → n2 + 1 < i ∧ i < n := fun i hi => by
            have := (hPI.each qq v w hv hw).ids hi
            exact this
          refine ⟨by rw [k3 n (by omega) (by omega) (fun h => by have := nid n h; omega), qn], by rw [k3 0 (by omega) (by omega) (fun h => by have := nid 0 h; omega), hs0],
            fun h => by have := hn2M h; rw [k3 1 (by omega) (by omega) (fun h => by have := nid 1 h; omega), hs1 h], _, _, hP1.part (x := x) hv hw (id := n + (1 + BIG)) (by omega) (by omega) k1 k2 k3, (perm_set hw).trans (hperm.append_right [x])⟩
        obtain ⟨MP, hMP⟩ : ∃ MP : Sto → Prop, MP = fun σ3 => σ3 n = some (.row 2 [.agg [.int .u64 x.id, .int .u64 x.d]]) ∧ σ3 0 = some (.row 2 (hs L)) ∧ (M ≠ [] → σ3 1 = some (.row 2 (hs M))) ∧ ∃ vs' ws', PI σ3 (n + (1 + BIG * 2)) n2 (n2 + 1) vs' ws' kn tv (fst' kn (L.take j)) ∧ ws'.flatten.Perm (L.take j ++ [x]) := ⟨_, rfl⟩
        rw [seqQ_normal, WC_seq]
        refine WC_cut (fun env' σ3 n' => n' = n + (1 + BIG * 2) ∧ env' 0 = .int .i64 (kn : Int) ∧ env' 2 = slV 1 i64V c ∧ env' 45 = .ref 0 0 L.length 2 ∧ env' 46 = .int .i64 (L.length : Int) ∧ env' 47 = .int .i64 (j : Int) ∧ env' 7 = hVal 1 M ∧ env' 9 = .ref n2 0 4 1 ∧ env' 10 = .ptr (n2 + 1) 2 0 0 ∧ env' 12 = .ptr n 2 0 0 ∧ MP σ3) ?_ ?_
        · cases w with
          | nil =>
            have hvn : v = .nilS := hF
            subst hvn
            have z2 : (16 ≤ LIM) = True := by unfold LIM; simp
            have z3 : (1 * 16 ≤ LIM) = True := by unfold LIM; simp
            have v2 : (n2 = n + (1 + BIG)) = False := by simp; omega
            have v3 : qq < vs.length := by omega
            simp +contextual -implicitDefEqProofs (maxSteps := 2000000) only [↓wP, wQ, wQ1, wQ2, wQ3, wR, boxE, partsOf, ↓reduceIte, Nat.reduceEqDiff, Nat.reduceAdd, Nat.reduceSub, Nat.reduceLeDiff, Nat.reduceLT, Nat.reduceMul, reduceCtorEq, Int.reduceBNe, Int.reduceBEq, Int.reduceLT, Int.reduceLE, Int.reduceGT, h1, h2, g1, g2, g3, g4, g5, g6, g9, g10, hremu, hqw, hqq, hrow, hv, x1, x2', x4, y1, y2, y3, qn, Nat.mul_one, appendE_nil, List.isEmpty_cons, z2, z3, v2]
            rw [hMP]
            refine hfin _ ?_ ?_ ?_
            · rw [upd_ne (by omega), upd_self]; rfl
            · rw [upd_self]; rfl
            · intro i k1 k2 k3
              rw [upd_ne k1, upd_ne (by omega), x2 _ _ i k2]
          | cons w0 wl =>
            obtain ⟨id0, e1', e2', e3'⟩ := hF
            have e1 : v = .ref id0 0 (w0 :: wl).length 2 := by rw [e1']; simp
            have e2 : σ' id0 = some (.row 2 (hs (w0 :: wl))) := e2'
            clear e1' e2'
            generalize w0 :: wl = w at *
            subst e1
            have x3 : ∀ (σ σ' : Sto), merge σ σ' (n + 1) id0 = σ id0 := fun σ σ' => x2 σ σ' id0 (by omega)
            have z0 := hs_len w
            have z2 : ((w.length + 1) * 16 ≤ LIM) = True := by unfold LIM; simp; omega
            have v2 : (n2 = n + (1 + BIG)) = False := by simp; omega
            have v4 : (n2 = id0) = False := by simp; omega
            simp +contextual -implicitDefEqProofs (maxSteps := 2000000) only [↓wP, wQ, wQ1, wQ2, wQ3, wR, boxE, partsOf, ↓reduceIte, Nat.reduceEqDiff, Nat.reduceAdd, Nat.reduceSub, Nat.reduceLeDiff, Nat.reduceLT, Nat.reduceMul, reduceCtorEq, Int.reduceBNe, Int.reduceBEq, Int.reduceLT, Int.reduceLE, Int.reduceGT, h1, h2, g1, g2, g3, g4, g5, g6, g9, g10, hremu, hqw, hqq, hrow, hv, x1, x2', x3, x4, y1, y2, y3, qn, Nat.mul_one, z0, z2, v2, v4, e2, true_or]
            rw [hMP]
            refine hfin _ ?_ ?_ ?_
            · rw [upd_ne (by omega), upd_self, ← hs_app]; rfl
            · rw [upd_self, List.length_append]; rfl
            · intro i k1 k2 k3
              have k4 : i ≠ id0 := fun h => k3 ⟨_, _, _, by rw [h]⟩
              rw [upd_ne k1, upd_ne (by omega), upd_ne k4, x2 _ _ i k2]
        · clear h1 h2 g1 g2 g3 g4 g5 g6 g9 g10 hfin
          intro env σ3 n' ⟨r1, g1, g2, g3, h2, h1, g4, g5, g6, g9, hmp⟩
          rw [hMP] at hmp
          obtain ⟨qn3, s30, s31, vs', ws', hP3, hperm3⟩ := hmp
          subst r1
          generalize hm : n + (1 + BIG * 2) = m at *
          have hcell := hP3.cell
          have hpp3 := hP3.hp
          have hpm : (n2 + 1 = m) = False := by simp; omega
          obtain ⟨σ4, hσ4⟩ : ∃ σ4, σ4 = upd σ3 m (some (.row 2 [.agg [.int .u64 x.id, .int .u64 x.d]])) := ⟨_, rfl⟩
          have hP4 : PI σ4 (m + 1) n2 (n2 + 1) vs' ws' kn tv (fst' kn (L.take j)) := hP3.loc (fun i hi => by rw [hσ4, upd_ne (by omega)]) (by omega)
          have f4 := fl_ht hP4.tvF
          have hT : (fst' kn (L.take j)).length ≤ kn := by rw [fst_len]; omega
          have c20 := f20 (σ := σ4) (v := tv) (w := .ref m 0 1 2) (t := fst' kn (L.take j)) (l := [x]) (kn : Int) (by obtain ⟨o1, a1, a2⟩ := f4; exact ⟨o1, a1, a2 8⟩) (Hf.row (by rw [hσ4, upd_self]; rfl) rfl) (by omega) (by simp) true (m + 1) 0
          have htop : TopOk (kn : Int) (fst' kn (L.take j)) := ⟨by omega, by omega, by omega, fst_srt _ _⟩
          have e3 : offE (kn : Int) (fst' kn (L.take j)) [x] = 0 := by unfold offE; rw [if_pos htop, if_neg (by simp)]
          have e4 : offV (kn : Int) (fst' kn (L.take j)) [x] = fst' kn (L.take (j + 1)) := by unfold offV; rw [if_pos e3, ht, fst_app kn (L.take j) [x]]; rfl
          have e5 : offK (kn : Int) (fst' kn (L.take j)) [x] = kn := by unfold offK; rw [if_pos e3]
          rw [e3, e4, e5] at c20
          obtain ⟨T, hT'⟩ : ∃ T, T = fst' kn (L.take (j + 1)) := ⟨_, rfl⟩
          have hTl : T.length ≤ kn := by rw [hT', fst_len]; omega
          rw [← hT'] at c20
          obtain ⟨σ5, hσ5⟩ : ∃ σ5, σ5 = hSto σ4 (m + 1) T := ⟨_, rfl⟩
          obtain ⟨m5, hm5⟩ : ∃ m5, m5 = hN (m + 1) T := ⟨_, rfl⟩
          rw [← hσ5, ← hm5] at c20
          have hm5' : m + 1 ≤ m5 := by rw [hm5]; exact hN_le _ _
          have h5P : σ5 (n2 + 1) = some (.row 2 [.agg [.int .i64 (kn : Int), tv]]) := by rw [hσ5, hSto_ne (by omega), hP4.cell]
          obtain ⟨σ6, hσ6⟩ : ∃ σ6, σ6 = upd σ5 (n2 + 1) (some (.row 2 [.agg [.int .i64 (kn : Int), hVal (m + 1) T]])) := ⟨_, rfl⟩
          have hF6 : Fl σ6 2 (hVal (m + 1) T) (oL (hs T)) (fun j => m + 1 ≤ j ∧ j < m5) := by
            refine (hVal_fl σ4 (m + 1) T).loc (fun i hi => ?_) (fun i hi => ?_)
            · rw [hσ6, upd_ne (by omega), hσ5]
            · have : m5 = m + 1 + 1 := by rw [hm5]; exact if_neg hi.2
              omega
          have c22 := f22h (σ := σ6) (v := hVal (m + 1) T) (kn : Int) (fl_ht hF6) (by omega) true m5 0
          have e6 : topE (kn : Int) T = 0 := if_pos ⟨by omega, by omega, by omega, by rw [hT']; exact fst_srt _ _⟩
          rw [e6] at c22
          have h6P : σ6 (n2 + 1) = some (.row 2 [.agg [.int .i64 (kn : Int), hVal (m + 1) T]]) := by rw [hσ6, upd_self]
          have hfin2 : σ6 0 = some (.row 2 (hs L)) ∧ A1 σ6 ∧ ∃ vs ws tv, PI σ6 m5 n2 (n2 + 1) vs ws kn tv (fst' kn (L.take (j + 1))) ∧ ws.flatten.Perm (L.take (j + 1)) := by
            have h50 : ∀ i, i < m → σ5 i = σ3 i := fun i hi => by rw [hσ5, hSto_ne (by omega), hσ4, upd_ne (by omega)]
            rw [hA1]
            refine ⟨by rw [hσ6, upd_ne (by omega), h50 0 (by omega), s30], fun h => by have := hn2M h; rw [hσ6, upd_ne (by omega), h50 1 (by omega), s31 h], vs', ws', hVal (m + 1) T, ?_, by rw [ht]; exact hperm3⟩
            rw [← hT']
            exact hP4.top hm5' hF6 h6P (fun i k1 k2 => by rw [hσ6, upd_ne k1, hσ5, hSto_ne (by omega)])
          simp +contextual -implicitDefEqProofs (maxSteps := 2000000) only [↓wP, wQ, wQ1, wQ2, wQ3, wR, boxE, partsOf, ↓reduceIte, Nat.reduceEqDiff, Nat.reduceAdd, Nat.reduceSub, Nat.reduceLeDiff, Nat.reduceLT, Nat.reduceMul, reduceCtorEq, Int.reduceBNe, Int.reduceBEq, Int.reduceLT, Int.reduceLE, Int.reduceGT, g1, g2, g3, h2, h1, g4, g5, g6, g9, hcell, qn3, hpm, ← hσ4, c20, h5P, cl_hVal, one_hVal, ← hσ6, h6P, c22]
          exact hfin2
    · intro env σ n ⟨g1, g2, g3, g4, g5, g6, g7, g8, vs, ws, tv, hPI, hperm⟩ h1 h2
      rw [List.take_length] at hPI hperm
      simp +contextual -implicitDefEqProofs (maxSteps := 2000000) only [↓wP, wQ, wQ1, wQ2, wQ3, wR, boxE, partsOf, ↓reduceIte, Nat.reduceEqDiff, Nat.reduceAdd, Nat.reduceSub, Nat.reduceLeDiff, Nat.reduceLT, Nat.reduceMul, reduceCtorEq, Int.reduceBNe, Int.reduceBEq, Int.reduceLT, Int.reduceLE, Int.reduceGT, exQ_exit, g1, g4, g5, g6]
      exact ⟨g8, vs, ws, tv, by rw [hM]; exact hPI, hperm⟩
    · have a01 : (0 = n2) = False := by simp; omega
      have a02 : (n2 = 0) = False := by simp; omega
      simp +contextual -implicitDefEqProofs (maxSteps := 2000000) only [↓wP, wQ, wQ1, wQ2, wQ3, wR, boxE, partsOf, ↓reduceIte, Nat.reduceEqDiff, Nat.reduceAdd, Nat.reduceSub, Nat.reduceLeDiff, Nat.reduceLT, Nat.reduceMul, reduceCtorEq, Int.reduceBNe, Int.reduceBEq, Int.reduceLT, Int.reduceLE, Int.reduceGT, v1, a01, a02]
      have b1 : n2 ≠ n2 + 1 := by omega
      refine ⟨s20, ?_, List.replicate 4 .nilS, List.replicate 4 [], .nilS, ⟨⟨by omega, by omega⟩, by simp, ?_, by rw [upd_self], ?_, ?_, by simp [fst', srt, hs, oL, Fl]⟩, by simp⟩
      · rw [hA1]
        intro h
        have := hn2M h
        rw [upd_ne (by omega), upd_ne (by omega), upd_ne (by omega), s21 h]
      · rw [upd_ne b1, upd_ne b1, upd_self]
      · intro i v w hv hw
        have e1 : v = .nilS := by have := List.mem_of_getElem? hv; simpa using this
        have e2 : w = [] := by have := List.mem_of_getElem? hw; simpa using this
        subst e1 e2
        rfl
      · intro i j v v' a hv _ ha _
        have e1 : v = .nilS := by have := List.mem_of_getElem? hv; simpa using this
        subst e1
        obtain ⟨_, _, _, e⟩ := ha
        cases e
  · intro env σ n ⟨g1, g4, g5, g6, g8, vs, ws, tv, hPI, hperm⟩
    have hlenp := hperm.length_eq
    have hpp := hPI.hp
    simp +contextual -implicitDefEqProofs (maxSteps := 2000000) only [↓wP, wQ, wQ1, wQ2, wQ3, wR, boxE, partsOf, ↓reduceIte, Nat.reduceEqDiff, Nat.reduceAdd, Nat.reduceSub, Nat.reduceLeDiff, Nat.reduceLT, Nat.reduceMul, reduceCtorEq, Int.reduceBNe, Int.reduceBEq, Int.reduceLT, Int.reduceLE, Int.reduceGT, g1, g4, g5, g6]
    have hws : ∀ (q : Nat) (w : List Hit), ws[q]? = some w → w.length ≤ 200 := by
      intro q w hw
      have : w.length ≤ ws.flatten.length := by
        obtain ⟨hlt, rfl⟩ := List.getElem?_eq_some_iff.1 hw
        exact (List.sublist_flatten_of_mem (List.getElem_mem hlt)).length_le
      omega
    refine WC_cutB (fun env' σ' n' => env' 0 = .int .i64 (kn : Int) ∧ env' 7 = hVal 1 M ∧ env' 10 = .ptr (n2 + 1) 2 0 0 ∧ (∀ i, i < n → σ' i = σ i) ∧ n ≤ n' ∧ Bls σ' 1 (env' 14) (oL (ws.map fun w => slV 2 hitV (oL (fst' kn w)))) (fun i => n ≤ i ∧ i < n')) ?_ ?_
    · refine WC_for 4 0 (fun (j : Nat) env' σ' n' => env' 0 = .int .i64 (kn : Int) ∧ env' 92 = .ref n2 0 4 1 ∧ env' 7 = hVal 1 M ∧ env' 10 = .ptr (n2 + 1) 2 0 0 ∧ (∀ i, i < n → σ' i = σ i) ∧ n ≤ n' ∧ Bls σ' 1 (env' 14) (oL ((ws.take j).map fun w => slV 2 hitV (oL (fst' kn w)))) (fun i => n ≤ i ∧ i < n')) (by omega) (by decide) (by decide) (fun _ _ => rfl) (fun _ _ _ => rfl) ?_ ?_ _ _ _ rfl rfl ?_
      · clear g1 g4 g5 g6
        intro j env σ' n' hj h1 h2 ⟨g1, g4, g5, g6, g7, g9, hb⟩
        simp only [vl_tmp] at h2
        have hj1 : j < vs.length := by rw [hPI.len.1]; exact hj
        have hj2 : j < ws.length := by rw [hPI.len.2]; exact hj
        have hv : vs[j]? = some vs[j] := List.getElem?_eq_getElem hj1
        have hw : ws[j]? = some ws[j] := List.getElem?_eq_getElem hj2
        have ht : ws.take (j + 1) = ws.take j ++ [ws[j]] := (List.take_append_getElem hj2).symm
        generalize vs[j] = v at *
        generalize ws[j] = w at *
        generalize hf14 : env 14 = fv at *
        have hwl := hws j w hw
        have hrow : σ' n2 = some (.row 1 vs) := by rw [g7 n2 (by omega), hPI.row]
        have hF := (hPI.each j v w hv hw).loc (fun i hi => g7 i hi.2) (fun i hi => hi)
        have c13 := f13 (σ := σ') (v := v) (l := w) (kn : Int) (fl_hf hF) (by omega) true n' 0
        have e1 : merE (kn : Int) w = 0 := by unfold merE; rw [if_neg (by omega), if_neg (by omega)]
        have e2 : merV (kn : Int) w = fst' kn w := by unfold merV; rw [if_pos e1]; rfl
        rw [e1, e2] at c13
        have hFl : (fst' kn w).length ≤ 200 := by rw [fst_len]; omega
        generalize hFF : fst' kn w = F at *
        have hvc := hF.cells
        have m1 := hN_le n' F
        have hfz : ∀ σ'' : Sto, (F ≠ [] → σ'' n' = some (.row 2 (hs F))) → FzE σ'' 11 (hVal n' F) (slV 2 hitV (oL F)) (fun i => i = n' ∧ i < hN n' F) := by
          intro σ'' hσ
          unfold hVal
          by_cases hF0 : F = []
          · rw [if_pos hF0, hF0]
            exact FzE.ofFz (Fz.tree rfl) (fun _ h => by cases h)
          · rw [if_neg hF0]
            have : slV 2 hitV (oL F) = .sl 2 (hs F) := by
              cases F with
              | nil => exact absurd rfl hF0
              | cons a l => rfl
            rw [this]
            refine fze_row (hσ hF0) ⟨rfl, ?_⟩
            unfold hN
            rw [if_neg hF0]; omega
        obtain ⟨σ3, hσ3⟩ : ∃ σ3, σ3 = upd (hSto σ' n' F) (hN n' F) (some (.row 1 [hVal n' F])) := ⟨_, rfl⟩
        have hlt : ∀ i, i < n' → σ3 i = σ' i := fun i hi => by rw [hσ3, upd_ne (by omega), hSto_ne (by omega)]
        have b3 : Bls σ3 1 fv (oL ((ws.take j).map fun w => slV 2 hitV (oL (fst' kn w)))) (fun i => n ≤ i ∧ i < n') := hb.loc (fun i hi => hlt i hi.2) (fun i hi => hi)
        have hel : σ3 (hN n' F) = some (.row 1 [hVal n' F]) := by rw [hσ3, upd_self]
        simp +contextual -implicitDefEqProofs (maxSteps := 2000000) only [↓wP, wQ, wQ1, wQ2, wQ3, wR, boxE, partsOf, ↓reduceIte, Nat.reduceEqDiff, Nat.reduceAdd, Nat.reduceSub, Nat.reduceLeDiff, Nat.reduceLT, Nat.reduceMul, reduceCtorEq, Int.reduceBNe, Int.reduceBEq, Int.reduceLT, Int.reduceLE, Int.reduceGT, h1, h2, g1, g4, g5, g6, hf14, hrow, hv, hj, hvc, c13, cl_hVal, one_hVal, ← hσ3, hel]
        refine stepW_appS (n := hN n' F + 1) (us := [slV 2 hitV (oL F)]) (S' := fun i => n ≤ i) b3 (fun i hi => by omega) (fun i hi => hi.1) (by omega)
          (FzL.one ((hfz σ3 (fun h => by
            have e : n' ≠ hN n' F := by unfold hN; rw [if_neg h]; omega
            rw [hσ3, upd_ne e, hSto_self h])).loc (fun _ _ => rfl) (fun i hi => ⟨by omega, by omega, fun a b c e => ?_⟩))) ?_ (fun v' σ4 n4 q1 q2 q3 q4 => ?_)
        · have := (hb.ids ⟨_, _, _, e⟩).2
          omega
        · rw [lst_oL, List.length_map, List.length_take]
          unfold LIM; simp; omega
        · rw [appO_oL] at q1
          have hfr : ∀ i, i < n → σ4 i = σ i := fun i hi => by
            rw [q4 i (by omega) (fun a b c e => by have := (hb.ids ⟨_, _, _, e⟩).1; omega), hlt i (by omega), g7 i hi]
          simp +contextual -implicitDefEqProofs (maxSteps := 2000000) only [↓wP, wQ, wQ1, wQ2, wQ3, wR, boxE, partsOf, ↓reduceIte, Nat.reduceEqDiff, Nat.reduceAdd, Nat.reduceSub, Nat.reduceLeDiff, Nat.reduceLT, Nat.reduceMul, reduceCtorEq, Int.reduceBNe, Int.reduceBEq, Int.reduceLT, Int.reduceLE, Int.reduceGT, h1, h2, g1, g4, g5, g6]
          refine ⟨hfr, by omega, ?_⟩
          rw [ht, List.map_append]
          simp only [List.map_cons, List.map_nil, hFF]
          exact q1
      · clear g1 g4 g5 g6
        intro env σ' n' ⟨g1, g4, g5, g6, g7, g9, hb⟩ h1 h2
        have e4 : ws.take 4 = ws := List.take_of_length_le (by rw [hPI.len.2]; exact Nat.le_refl _)
        rw [e4] at hb
        simp +contextual -implicitDefEqProofs (maxSteps := 2000000) only [↓wP, wQ, wQ1, wQ2, wQ3, wR, boxE, partsOf, ↓reduceIte, Nat.reduceEqDiff, Nat.reduceAdd, Nat.reduceSub, Nat.reduceLeDiff, Nat.reduceLT, Nat.reduceMul, reduceCtorEq, Int.reduceBNe, Int.reduceBEq, Int.reduceLT, Int.reduceLE, Int.reduceGT, exQ_exit, g1, g5, g6]
        exact ⟨g7, g9, hb⟩
      · simp +contextual -implicitDefEqProofs (maxSteps := 2000000) only [↓wP, wQ, wQ1, wQ2, wQ3, wR, boxE, partsOf, ↓reduceIte, Nat.reduceEqDiff, Nat.reduceAdd, Nat.reduceSub, Nat.reduceLeDiff, Nat.reduceLT, Nat.reduceMul, reduceCtorEq, Int.reduceBNe, Int.reduceBEq, Int.reduceLT, Int.reduceLE, Int.reduceGT, g1, g4, g5, g6]
        simp [Bls, oL]
    · intro env σ' n' ⟨g1', g5', g6', g7, g9, hb⟩
      generalize hf14 : env 14 = fv at *
      have hfm : (lst (oL (ws.map fun w => oL (fst' kn w)))).flatMap lst = ws.flatMap (fst' kn) := by
        rw [lst_oL, List.flatMap_map]
        congr 1
        funext w
        exact lst_oL _
      have hsum : (ws.flatMap (fst' kn)).length ≤ 200 := by
        have : ∀ us : List (List Hit), (us.flatMap (fst' kn)).length ≤ us.flatten.length := by
          intro us
          induction us with
          | nil => simp
          | cons u us ih =>
            rw [List.flatMap_cons, List.flatten_cons, List.length_append, List.length_append, fst_len]
            have := Nat.min_le_right kn u.length
            omega
        have := this ws
        omega
      have h16 := r16 (kn : Int) (oL (ws.map fun w => oL (fst' kn w))) (by rw [lst_oL, List.length_map, hPI.len.2]; decide) (fun r hr => by
        rw [lst_oL] at hr
        obtain ⟨w, hw, rfl⟩ := List.mem_map.1 hr
        rw [lst_oL, fst_len]
        have := Nat.min_le_left kn w.length
        omega)
      rw [hfm] at h16
      have e1 : merE (kn : Int) (ws.flatMap (fst' kn)) = 0 := by unfold merE; rw [if_neg (by omega), if_neg (by omega)]
      have e2 : merV (kn : Int) (ws.flatMap (fst' kn)) = M := by
        unfold merV
        rw [if_pos e1]
        show fst' kn _ = M
        rw [fst_parts, hM]
        exact fst_of_perm kn hperm
      rw [e1, e2] at h16
      have hz : frz σ' 12 fv = some (slV 1 (slV 2 hitV) (oL (ws.map fun w => oL (fst' kn w)))) := by
        have hm : (ws.map fun w => slV 2 hitV (oL (fst' kn w))) = (ws.map fun w => oL (fst' kn w)).map (slV 2 hitV) := by rw [List.map_map]; rfl
        rw [hb.frz, hm, slV_oL]
      have e : [V.int .i64 (kn : Int), fv].mapM (frz σ' 12) = some [V.int .i64 (kn : Int), slV 1 (slV 2 hitV) (oL (ws.map fun w => oL (fst' kn w)))] := by
        simp only [List.mapM_cons, List.mapM_nil, hz, frz_int]; rfl
      have c16 := callE_flat (fs := true) (n := n') (lk := 0) (by decide) e h16 (flat_tup2 (flat_ownH _) rfl)
      rw [thaw_hTup] at c16
      have hcell : hSto σ' n' M (n2 + 1) = some (.row 2 [.agg [.int .i64 (kn : Int), tv]]) := by rw [hSto_ne (by omega), g7 (n2 + 1) (by omega), hPI.cell]
      have hA : Hf (hSto σ' n' M) (hVal 1 M) M := Hf.hVal fun h => by
        have := hn2M h
        rw [hA1] at g8
        rw [hSto_ne (by omega), g7 1 (by omega), g8 h]
      have hC : Hf (hSto σ' n' M) tv M := fl_hf (hPI.tvF.loc (fun i hi => by rw [hSto_ne (by omega), g7 i hi.2.1]) (fun i hi => hi))
      have c18 := f18 (σ := hSto σ' n' M) (v := hVal n' M) (w := hVal 1 M) (a := M) (b := M) (Hf.hVal fun h => hSto_self h) hA (by omega) true (hN n' M) 0
      have c18' := f18 (σ := hSto σ' n' M) (v := tv) (w := hVal 1 M) (a := M) (b := M) hC hA (by omega) true (hN n' M) 0
      simp only [decide_true] at c18 c18'
      have htc := hPI.tvF.cells
      simp +contextual -implicitDefEqProofs (maxSteps := 2000000) only [↓wP, wQ, wQ1, wQ2, wQ3, wR, boxE, partsOf, ↓reduceIte, Nat.reduceEqDiff, Nat.reduceAdd, Nat.reduceSub, Nat.reduceLeDiff, Nat.reduceLT, Nat.reduceMul, reduceCtorEq, Int.reduceBNe, Int.reduceBEq, Int.reduceLT, Int.reduceLE, Int.reduceGT, g1', g5', g6', hf14, c16, c18, hcell, c18', htc]
end Go.Q.S6
end

section
/- The table is the program's. -/
namespace Go.Q.S6
open Go.Proofs
def Has (f : Nat) (fn : Fn) : Prop := ∃ F, Try.prog.funcs[f]? = some F ∧ cFunc Try.prog (ownB T) F = some fn ∧ (F.name == "runtime.NumGoroutine") = false
theorem h3 : Has 3 g3 := ⟨Try.f3, Try.func3, by kernel_rfl, by kernel_rfl⟩
theorem h4 : Has 4 g4 := ⟨Try.f4, Try.func4, by kernel_rfl, by kernel_rfl⟩
theorem h6 : Has 6 g6 := ⟨Try.f6, Try.func6, by kernel_rfl, by kernel_rfl⟩
theorem h7 : Has 7 g7 := ⟨Try.f7, Try.func7, by kernel_rfl, by kernel_rfl⟩
theorem h8 : Has 8 g8 := ⟨Try.f8, Try.func8, by kernel_rfl, by kernel_rfl⟩
theorem h9 : Has 9 g9 := ⟨Try.f9, Try.func9, by kernel_rfl, by kernel_rfl⟩
theorem h10 : Has 10 g10 := ⟨Try.f10, Try.func10, by kernel_rfl, by kernel_rfl⟩
theorem h11 : Has 11 g11 := ⟨Try.f11, Try.func11, by kernel_rfl, by kernel_rfl⟩
theorem h12 : Has 12 g12 := ⟨Try.f12, Try.func12, by kernel_rfl, by kernel_rfl⟩
theorem h13 : Has 13 g13 := ⟨Try.f13, Try.func13, by kernel_rfl, by kernel_rfl⟩
theorem h14 : Has 14 g14 := ⟨Try.f14, Try.func14, by kernel_rfl, by kernel_rfl⟩
theorem h15 : Has 15 g15 := ⟨Try.f15, Try.func15, by kernel_rfl, by kernel_rfl⟩
theorem h16 : Has 16 g16 := ⟨Try.f16, Try.func16, by kernel_rfl, by kernel_rfl⟩
theorem h17 : Has 17 g17 := ⟨Try.f17, Try.func17, by kernel_rfl, by kernel_rfl⟩
theorem h18 : Has 18 g18 := ⟨Try.f18, Try.func18, by kernel_rfl, by kernel_rfl⟩
theorem h19 : Has 19 g19 := ⟨Try.f19, Try.func19, by kernel_rfl, by kernel_rfl⟩
theorem h20 : Has 20 g20 := ⟨Try.f20, Try.func20, by kernel_rfl, by kernel_rfl⟩
theorem h21 : Has 21 g21 := ⟨Try.f21, Try.func21, by kernel_rfl, by kernel_rfl⟩
theorem h22 : Has 22 g22 := ⟨Try.f22, Try.func22, by kernel_rfl, by kernel_rfl⟩
theorem h23 : Has 23 g23 := ⟨Try.f23, Try.func23, by kernel_rfl, by kernel_rfl⟩
theorem h24 : Has 24 g24 := ⟨Try.f24, Try.func24, by kernel_rfl, by kernel_rfl⟩
theorem h25 : Has 25 g25 := ⟨Try.f25, Try.func25, by kernel_rfl, by kernel_rfl⟩
theorem h26 : Has 26 g26 := ⟨Try.f26, Try.func26, by kernel_rfl, by kernel_rfl⟩
theorem h27 : Has 27 g27 := ⟨Try.f27, Try.func27, by kernel_rfl, by kernel_rfl⟩
theorem h28 : Has 28 g28 := ⟨Try.f28, Try.func28, by kernel_rfl, by kernel_rfl⟩
theorem h29 : Has 29 g29 := ⟨Try.f29, Try.func29, by kernel_rfl, by kernel_rfl⟩
theorem h30 : Has 30 g30 := ⟨Try.f30, Try.func30, by kernel_rfl, by kernel_rfl⟩
theorem h31 : Has 31 g31 := ⟨Try.f31, Try.func31, by kernel_rfl, by kernel_rfl⟩
theorem h32 : Has 32 g32 := ⟨Try.f32, Try.func32, by kernel_rfl, by kernel_rfl⟩
theorem h33 : Has 33 g33 := ⟨Try.f33, Try.func33, by kernel_rfl, by kernel_rfl⟩
theorem h34 : Has 34 g34 := ⟨Try.f34, Try.func34, by kernel_rfl, by kernel_rfl⟩
theorem h35 : Has 35 g35 := ⟨Try.f35, Try.func35, by kernel_rfl, by kernel_rfl⟩
theorem h36 : Has 36 g36 := ⟨Try.f36, Try.func36, by kernel_rfl, by kernel_rfl⟩
theorem h37 : Has 37 g37 := ⟨Try.f37, Try.func37, by kernel_rfl, by kernel_rfl⟩
theorem h38 : Has 38 g38 := ⟨Try.f38, Try.func38, by kernel_rfl, by kernel_rfl⟩
theorem h39 : Has 39 g39 := ⟨Try.f39, Try.func39, by kernel_rfl, by kernel_rfl⟩
theorem h40 : Has 40 g40 := ⟨Try.f40, Try.func40, by kernel_rfl, by kernel_rfl⟩
theorem h41 : Has 41 g41 := ⟨Try.f41, Try.func41, by kernel_rfl, by kernel_rfl⟩
theorem h42 : Has 42 g42 := ⟨Try.f42, Try.func42, by kernel_rfl, by kernel_rfl⟩
theorem h43 : Has 43 g43 := ⟨Try.f43, Try.func43, by kernel_rfl, by kernel_rfl⟩
theorem h44 : Has 44 g44 := ⟨Try.f44, Try.func44, by kernel_rfl, by kernel_rfl⟩
theorem h45 : Has 45 g45 := ⟨Try.f45, Try.func45, by kernel_rfl, by kernel_rfl⟩
theorem h46 : Has 46 g46 := ⟨Try.f46, Try.func46, by kernel_rfl, by kernel_rfl⟩
theorem h47 : Has 47 g47 := ⟨Try.f47, Try.func47, by kernel_rfl, by kernel_rfl⟩
theorem h48 : Has 48 g48 := ⟨Try.f48, Try.func48, by kernel_rfl, by kernel_rfl⟩
theorem h49 : Has 49 g49 := ⟨Try.f49, Try.func49, by kernel_rfl, by kernel_rfl⟩
theorem h50 : Has 50 g50 := ⟨Try.f50, Try.func50, by kernel_rfl, by kernel_rfl⟩
theorem h51 : Has 51 g51 := ⟨Try.f51, Try.func51, by kernel_rfl, by kernel_rfl⟩
theorem h52 : Has 52 g52 := ⟨Try.f52, Try.func52, by kernel_rfl, by kernel_rfl⟩
theorem h53 : Has 53 g53 := ⟨Try.f53, Try.func53, by kernel_rfl, by kernel_rfl⟩
theorem h54 : Has 54 g54 := ⟨Try.f54, Try.func54, by kernel_rfl, by kernel_rfl⟩
theorem h55 : Has 55 g55 := ⟨Try.f55, Try.func55, by kernel_rfl, by kernel_rfl⟩
theorem h56 : Has 56 g56 := ⟨Try.f56, Try.func56, by kernel_rfl, by kernel_rfl⟩
theorem h57 : Has 57 g57 := ⟨Try.f57, Try.func57, by kernel_rfl, by kernel_rfl⟩
theorem h58 : Has 58 g58 := ⟨Try.f58, Try.func58, by kernel_rfl, by kernel_rfl⟩
theorem h59 : Has 59 g59 := ⟨Try.f59, Try.func59, by kernel_rfl, by kernel_rfl⟩
theorem h76 : Has 76 g76 := ⟨Try.f76, Try.func76, by kernel_rfl, by kernel_rfl⟩
theorem h77 : Has 77 g77 := ⟨Try.f77, Try.func77, by kernel_rfl, by kernel_rfl⟩
theorem h78 : Has 78 g78 := ⟨Try.f78, Try.func78, by kernel_rfl, by kernel_rfl⟩
theorem h79 : Has 79 g79 := ⟨Try.f79, Try.func79, by kernel_rfl, by kernel_rfl⟩
theorem tabOf : TabOf Try.prog T := by
  intro f fn h
  simp only [T] at h
  unfold fnOf at h
  split at h
  all_goals first | (cases h; done) | skip
  all_goals (simp only [Option.some.injEq] at h; subst h)
  · exact h3
  · exact h4
  · exact h6
  · exact h7
  · exact h8
  · exact h9
  · exact h10
  · exact h11
  · exact h12
  · exact h13
  · exact h14
  · exact h15
  · exact h16
  · exact h17
  · exact h18
  · exact h19
  · exact h20
  · exact h21
  · exact h22
  · exact h23
  · exact h24
  · exact h25
  · exact h26
  · exact h27
  · exact h28
  · exact h29
  · exact h30
  · exact h31
  · exact h32
  · exact h33
  · exact h34
  · exact h35
  · exact h36
  · exact h37
  · exact h38
  · exact h39
  · exact h40
  · exact h41
  · exact h42
  · exact h43
  · exact h44
  · exact h45
  · exact h46
  · exact h47
  · exact h48
  · exact h49
  · exact h50
  · exact h51
  · exact h52
  · exact h53
  · exact h54
  · exact h55
  · exact h56
  · exact h57
  · exact h58
  · exact h59
  · exact h76
  · exact h77
  · exact h78
  · exact h79
theorem mixed : Try.prog.follows .mixedOrders = true := by kernel_rfl
end Go.Q.S6
end
