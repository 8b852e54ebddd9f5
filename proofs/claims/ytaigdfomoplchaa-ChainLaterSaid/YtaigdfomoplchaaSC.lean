/- At each time one version is visible at most. -/
import Derived.Test.YtaigdfomoplchaaSB
import Derived.Test.YtaigdfomoplchaaProg
import Derived.KernelRfl
section
set_option linter.unusedSimpArgs false
set_option linter.unusedVariables false
namespace Go.Q.S08
open Go.Q

theorem chk_le {d : Int} : ∀ {last : Int} {l : List Ver}, chk d last l = true → ∀ y ∈ l, last ≤ y.b
  | _, [], _, y, hy => by simp at hy
  | last, x :: xs, h, y, hy => by
    simp only [chk, okVer, Bool.and_eq_true, decide_eq_true_eq, Bool.or_eq_true, beq_iff_eq, Bool.not_eq_true', beq_eq_false_iff_ne] at h
    rcases List.mem_cons.1 hy with rfl | hy
    · exact h.1.1.1.1.1.1.2
    · have h1 := chk_le h.2 y hy
      have h2 := h.1.1.1.2
      have h3 := h.1.2
      have h4 := h.1.1.1.1.1.1.2
      cases xs with
      | nil => simp at hy
      | cons z zs =>
        simp only [List.isEmpty_cons, Bool.false_eq_true, or_false] at h3
        omega

theorem chk_uniq {d t : Int} : ∀ {last : Int} {l : List Ver}, chk d last l = true → ∀ (a b : Nat) (x y : Ver), a < b → l[a]? = some x → l[b]? = some y → vis x t = true → vis y t = true → False
  | _, [], _, a, b, x, y, _, ha, _, _, _ => by simp at ha
  | last, z :: zs, h, a, b, x, y, hab, ha, hb, hx, hy => by
    cases b with
    | zero => omega
    | succ b =>
      simp only [List.getElem?_cons_succ] at hb
      have hc : chk d z.e zs = true := by simp only [chk, Bool.and_eq_true] at h; exact h.2
      cases a with
      | succ a => exact chk_uniq hc a b x y (by omega) (by simpa using ha) hb hx hy
      | zero =>
        simp only [List.getElem?_cons_zero, Option.some.injEq] at ha
        subst ha
        have h1 := chk_le hc y (List.mem_of_getElem? hb)
        have hne : zs.isEmpty = false := by cases zs <;> simp at hb ⊢
        simp only [chk, okVer, hne, Bool.and_eq_true, decide_eq_true_eq, Bool.or_eq_true, beq_iff_eq, Bool.not_eq_true', beq_eq_false_iff_ne, Bool.false_eq_true, or_false] at h
        simp only [vis, Bool.and_eq_true, decide_eq_true_eq, Bool.or_eq_true, beq_iff_eq] at hx hy
        have h3 := h.1.2
        omega

/-- In a chain that may be: what is visible is where it is found. -/
theorem vis_pos {o : Option (List Ver)} {t : Int} (h : okC o = true) {k : Nat} {x : Ver} (hk : (lst o)[k]? = some x) (hv : vis x t = true) : posV o t = (k : Int) := by
  unfold okC at h
  rw [Bool.and_eq_true] at h
  unfold posV idxF
  cases hf : (lst o).findIdx? (fun x => vis x t) with
  | none =>
    rw [List.findIdx?_eq_none_iff] at hf
    have := hf x (List.mem_of_getElem? hk)
    rw [this] at hv; cases hv
  | some i =>
    rw [List.findIdx?_eq_some_iff_getElem] at hf
    obtain ⟨hi, hp, hmin⟩ := hf
    have e1 : (lst o)[i]? = some (lst o)[i] := List.getElem?_eq_getElem hi
    rcases Nat.lt_trichotomy i k with hik | hik | hik
    · exact (chk_uniq h.2 i k _ _ hik e1 hk hp hv).elim
    · simp [hik]
    · exact (chk_uniq h.2 k i _ _ hik hk e1 hv hp).elim

theorem pos_lt (o : Option (List Ver)) (t : Int) : posV o t < ((lst o).length : Int) := by
  unfold posV idxF
  cases hf : (lst o).findIdx? (fun x => vis x t) with
  | none => simp only; omega
  | some i =>
    rw [List.findIdx?_eq_some_iff_getElem] at hf
    obtain ⟨hi, -⟩ := hf
    simp only; omega

theorem pos_ge (o : Option (List Ver)) (t : Int) : -1 ≤ posV o t := by
  unfold posV idxF
  split <;> omega

theorem pos_vis {o : Option (List Ver)} {t : Int} {k : Nat} {x : Ver} (hk : (lst o)[k]? = some x) (hp : posV o t = (k : Int)) : vis x t = true := by
  unfold posV idxF at hp
  cases hf : (lst o).findIdx? (fun x => vis x t) with
  | none => rw [hf] at hp; simp only at hp; omega
  | some i =>
    rw [hf] at hp
    rw [List.findIdx?_eq_some_iff_getElem] at hf
    obtain ⟨hi, hv, -⟩ := hf
    simp only [Int.ofNat_inj] at hp
    subst hp
    rw [List.getElem?_eq_getElem hi] at hk
    cases hk
    exact hv

theorem few_len (o : Option (List Ver)) : (lst (fewO o)).length ≤ 97 := by rw [fewO, lst_opt]; simp; omega
theorem few_sm (o : Option (List Ver)) : Sm (fewO o) := by
  refine ⟨by have := few_len o; omega, fun x hx => ?_⟩
  rw [fewO, lst_opt] at hx
  obtain ⟨y, -, rfl⟩ := List.mem_map.1 hx
  simp only [fewV, lst_some, List.length_take]
  omega

/-- How many are visible among the first ones. -/
def cnt (o : Option (List Ver)) (t : Int) (k : Nat) : Int := if 0 ≤ posV o t ∧ posV o t < (k : Int) then 1 else 0

theorem cnt_end {o : Option (List Ver)} {t : Int} (h : okC o = true) : (decide (1 < cnt o t (lst o).length) || ((cnt o t (lst o).length == 1) == atB o t) != true) = false := by
  have := pos_lt o t
  unfold cnt atB
  by_cases h0 : 0 ≤ posV o t
  · rw [if_pos ⟨h0, this⟩]; simp [h0, h]
  · rw [if_neg (fun hh => h0 hh.1)]; simp [h0]

theorem r3 (o : Option (List Ver)) (l : Option (List Int)) (hs : Sm o) (hl : (lst l).length * 8 ≤ 140737488351232) : res T 3 [slV 3 verV o, slV 1 u64V l] = some (.bool true) := by
  refine run_res (run_pure (fn := g3) rfl rfl (by decide) ?_)
  simp only [g3, b3]
  have h10 := f10 o hs
  have h11 := f11 (fewO o) (few_sm o)
  have h12 := f12 (fewO o) (few_len o)
  simp +contextual -implicitDefEqProofs (maxSteps := 2000000) only [↓wP, wQ, wQ1, wQ2, wQ3, boxE, List.take_length, partsOf, ↓reduceIte, Nat.reduceEqDiff, Nat.reduceAdd, Nat.reduceSub, Nat.reduceLeDiff, Nat.reduceLT, Nat.reduceMul, Nat.zero_add, Nat.add_zero, Nat.mul_zero, Nat.le_refl, Nat.zero_le, Nat.one_ne_zero, Nat.zero_ne_one, reduceCtorEq, List.map_cons, List.map_nil, List.mapM_cons, List.mapM_nil, List.flatMap_cons, List.flatMap_nil, List.append_nil, List.nil_append, List.cons_append, List.drop_zero, List.drop_succ_cons, List.take_zero, List.take_succ_cons, List.take_nil, List.drop_nil, List.length_cons, List.length_nil, List.getElem?_cons_zero, List.getElem?_cons_succ, List.getElem?_nil, List.set_cons_zero, List.set_cons_succ, List.all_cons, List.all_nil, Option.bind_some, Option.bind_none, Option.map_some, Option.map_none, Option.pure_def, Option.bind_eq_bind, Bool.and_true, Bool.true_and, Bool.and_self, Bool.or_false, Bool.false_or, Bool.and_false, Bool.false_and, Bool.or_true, Bool.true_or, Bool.not_true, Bool.not_false, Bool.not_not, decide_true, decide_false, and_self, and_true, true_and, beq_self_eq_true, beq_true, beq_false, bne_self_eq_false, Int.reduceBNe, Int.reduceBEq, Int.reduceLT, Int.reduceLE, Int.reduceGT, Bool.false_eq_true, Nat.zero_lt_succ, Nat.zero_lt_one, Nat.add_assoc, Nat.left_eq_add, Nat.add_eq_left, f9, h10, h11]
  cases hc : okC (fewO o)
  · simp +contextual -implicitDefEqProofs (maxSteps := 2000000) only [↓wP, wQ, wQ1, wQ2, wQ3, boxE, List.take_length, partsOf, ↓reduceIte, Nat.reduceEqDiff, Nat.reduceAdd, Nat.reduceSub, Nat.reduceLeDiff, Nat.reduceLT, Nat.reduceMul, Nat.zero_add, Nat.add_zero, Nat.mul_zero, Nat.le_refl, Nat.zero_le, Nat.one_ne_zero, Nat.zero_ne_one, reduceCtorEq, List.map_cons, List.map_nil, List.mapM_cons, List.mapM_nil, List.flatMap_cons, List.flatMap_nil, List.append_nil, List.nil_append, List.cons_append, List.drop_zero, List.drop_succ_cons, List.take_zero, List.take_succ_cons, List.take_nil, List.drop_nil, List.length_cons, List.length_nil, List.getElem?_cons_zero, List.getElem?_cons_succ, List.getElem?_nil, List.set_cons_zero, List.set_cons_succ, List.all_cons, List.all_nil, Option.bind_some, Option.bind_none, Option.map_some, Option.map_none, Option.pure_def, Option.bind_eq_bind, Bool.and_true, Bool.true_and, Bool.and_self, Bool.or_false, Bool.false_or, Bool.and_false, Bool.false_and, Bool.or_true, Bool.true_or, Bool.not_true, Bool.not_false, Bool.not_not, decide_true, decide_false, and_self, and_true, true_and, beq_self_eq_true, beq_true, beq_false, bne_self_eq_false, Int.reduceBNe, Int.reduceBEq, Int.reduceLT, Int.reduceLE, Int.reduceGT, Bool.false_eq_true, Nat.zero_lt_succ, Nat.zero_lt_one, Nat.add_assoc, Nat.left_eq_add, Nat.add_eq_left]
  · have hlen := timL_len (lst (fewO o))
    have hfl := few_len o
    have hlim : (((timL (lst (fewO o))).map u64V).length + ((lst l).map u64V).length) * 8 ≤ LIM := by unfold LIM; simp; omega
    simp +contextual -implicitDefEqProofs (maxSteps := 2000000) only [↓wP, wQ, wQ1, wQ2, wQ3, boxE, List.take_length, partsOf, ↓reduceIte, Nat.reduceEqDiff, Nat.reduceAdd, Nat.reduceSub, Nat.reduceLeDiff, Nat.reduceLT, Nat.reduceMul, Nat.zero_add, Nat.add_zero, Nat.mul_zero, Nat.le_refl, Nat.zero_le, Nat.one_ne_zero, Nat.zero_ne_one, reduceCtorEq, List.map_cons, List.map_nil, List.mapM_cons, List.mapM_nil, List.flatMap_cons, List.flatMap_nil, List.append_nil, List.nil_append, List.cons_append, List.drop_zero, List.drop_succ_cons, List.take_zero, List.take_succ_cons, List.take_nil, List.drop_nil, List.length_cons, List.length_nil, List.getElem?_cons_zero, List.getElem?_cons_succ, List.getElem?_nil, List.set_cons_zero, List.set_cons_succ, List.all_cons, List.all_nil, Option.bind_some, Option.bind_none, Option.map_some, Option.map_none, Option.pure_def, Option.bind_eq_bind, Bool.and_true, Bool.true_and, Bool.and_self, Bool.or_false, Bool.false_or, Bool.and_false, Bool.false_and, Bool.or_true, Bool.true_or, Bool.not_true, Bool.not_false, Bool.not_not, decide_true, decide_false, and_self, and_true, true_and, beq_self_eq_true, beq_true, beq_false, bne_self_eq_false, Int.reduceBNe, Int.reduceBEq, Int.reduceLT, Int.reduceLE, Int.reduceGT, Bool.false_eq_true, Nat.zero_lt_succ, Nat.zero_lt_one, Nat.add_assoc, Nat.left_eq_add, Nat.add_eq_left, h12, hlim]
    generalize hA : (timL (lst (fewO o))).map u64V = A at hlim ⊢
    generalize hB : (lst l).map u64V = B at hlim ⊢
    have hR : ∀ j, j < A.length + B.length → ∃ t, (A ++ B)[j]? = some (V.int .u64 t) := by
      intro j hj
      have : A ++ B = (timL (lst (fewO o)) ++ lst l).map u64V := by rw [List.map_append, hA, hB]
      have hj' : j < ((timL (lst (fewO o)) ++ lst l).map u64V).length := by rw [← this, List.length_append]; exact hj
      exact ⟨_, by rw [this, List.getElem?_eq_getElem hj', List.getElem_map]; rfl⟩
    refine WC_for (A.length + B.length) 0 (fun (j : Nat) env σ n => env 5 = slV 3 verV (fewO o) ∧ ∃ i, env 23 = .ref i 0 (A.length + B.length) 1 ∧ σ i = some (.row 1 (A ++ B)) ∧ i < n)
      (by unfold LIM at hlim; omega) (by decide) (by decide) (fun _ _ => rfl) (fun _ _ _ => rfl) ?_ ?_ _ _ _ rfl rfl ?_
    · intro j env σ n hj h1 h2 ⟨h3, i, h4, h5, h6⟩
      simp only [vl_tmp] at h2
      obtain ⟨t, hx⟩ := hR j hj
      have h13 := f13 (fewO o) t (few_sm o)
      by_cases h400 : (j : Int) = 400
      · have hd : ((j : Int) == 400) = true := by simpa using h400
        simp +contextual -implicitDefEqProofs (maxSteps := 2000000) only [↓wP, wQ, wQ1, wQ2, wQ3, boxE, List.take_length, partsOf, ↓reduceIte, Nat.reduceEqDiff, Nat.reduceAdd, Nat.reduceSub, Nat.reduceLeDiff, Nat.reduceLT, Nat.reduceMul, Nat.zero_add, Nat.add_zero, Nat.mul_zero, Nat.le_refl, Nat.zero_le, Nat.one_ne_zero, Nat.zero_ne_one, reduceCtorEq, List.map_cons, List.map_nil, List.mapM_cons, List.mapM_nil, List.flatMap_cons, List.flatMap_nil, List.append_nil, List.nil_append, List.cons_append, List.drop_zero, List.drop_succ_cons, List.take_zero, List.take_succ_cons, List.take_nil, List.drop_nil, List.length_cons, List.length_nil, List.getElem?_cons_zero, List.getElem?_cons_succ, List.getElem?_nil, List.set_cons_zero, List.set_cons_succ, List.all_cons, List.all_nil, Option.bind_some, Option.bind_none, Option.map_some, Option.map_none, Option.pure_def, Option.bind_eq_bind, Bool.and_true, Bool.true_and, Bool.and_self, Bool.or_false, Bool.false_or, Bool.and_false, Bool.false_and, Bool.or_true, Bool.true_or, Bool.not_true, Bool.not_false, Bool.not_not, decide_true, decide_false, and_self, and_true, true_and, beq_self_eq_true, beq_true, beq_false, bne_self_eq_false, Int.reduceBNe, Int.reduceBEq, Int.reduceLT, Int.reduceLE, Int.reduceGT, Bool.false_eq_true, Nat.zero_lt_succ, Nat.zero_lt_one, Nat.add_assoc, Nat.left_eq_add, Nat.add_eq_left, h1, h2, h3, h4, h5, hx, hj, hd]
      · have hd : ((j : Int) == 400) = false := by simpa using h400
        simp +contextual -implicitDefEqProofs (maxSteps := 2000000) only [↓wP, wQ, wQ1, wQ2, wQ3, boxE, List.take_length, partsOf, ↓reduceIte, Nat.reduceEqDiff, Nat.reduceAdd, Nat.reduceSub, Nat.reduceLeDiff, Nat.reduceLT, Nat.reduceMul, Nat.zero_add, Nat.add_zero, Nat.mul_zero, Nat.le_refl, Nat.zero_le, Nat.one_ne_zero, Nat.zero_ne_one, reduceCtorEq, List.map_cons, List.map_nil, List.mapM_cons, List.mapM_nil, List.flatMap_cons, List.flatMap_nil, List.append_nil, List.nil_append, List.cons_append, List.drop_zero, List.drop_succ_cons, List.take_zero, List.take_succ_cons, List.take_nil, List.drop_nil, List.length_cons, List.length_nil, List.getElem?_cons_zero, List.getElem?_cons_succ, List.getElem?_nil, List.set_cons_zero, List.set_cons_succ, List.all_cons, List.all_nil, Option.bind_some, Option.bind_none, Option.map_some, Option.map_none, Option.pure_def, Option.bind_eq_bind, Bool.and_true, Bool.true_and, Bool.and_self, Bool.or_false, Bool.false_or, Bool.and_false, Bool.false_and, Bool.or_true, Bool.true_or, Bool.not_true, Bool.not_false, Bool.not_not, decide_true, decide_false, and_self, and_true, true_and, beq_self_eq_true, beq_true, beq_false, bne_self_eq_false, Int.reduceBNe, Int.reduceBEq, Int.reduceLT, Int.reduceLE, Int.reduceGT, Bool.false_eq_true, Nat.zero_lt_succ, Nat.zero_lt_one, Nat.add_assoc, Nat.left_eq_add, Nat.add_eq_left, h1, h2, h3, h4, h5, hx, hj, hd, h13]
        refine WC_for (lst (fewO o)).length 0 (fun (k : Nat) env σ n => env 5 = slV 3 verV (fewO o) ∧ env 23 = .ref i 0 (A.length + B.length) 1 ∧ env 24 = .int .i64 ((A.length + B.length : Nat) : Int) ∧
              env 25 = .int .i64 (j : Int) ∧ σ i = some (.row 1 (A ++ B)) ∧ i < n ∧ env 38 = slV 3 verV (fewO o) ∧ env 7 = .int .u64 t ∧
              env 9 = .int .i64 (atI (fewO o) t) ∧ env 10 = .bool (atB (fewO o) t) ∧ env 8 = .int .i64 (cnt (fewO o) t k))
            (by omega) (by decide) (by decide) (fun _ _ => rfl) (fun _ _ _ => rfl) ?_ ?_ _ _ _ rfl rfl ?_
        · clear h1 h2 h3 h4 h5 h6
          intro k env σ n hk k1 k2 ⟨k3, k4, k5, k6, k7, k8, k9, k10, k11, k12, k13⟩
          simp only [vl_tmp] at k2
          have hxk : (lst (fewO o))[k]? = some (lst (fewO o))[k] := List.getElem?_eq_getElem hk
          have hvis : (decide ((lst (fewO o))[k].b ≤ t) && ((lst (fewO o))[k].e == 0 || decide (t < (lst (fewO o))[k].e))) = vis (lst (fewO o))[k] t := rfl
          have hin : (i = n) = False := by simp; omega
          simp +contextual -implicitDefEqProofs (maxSteps := 2000000) only [↓wP, wQ, wQ1, wQ2, wQ3, boxE, List.take_length, partsOf, ↓reduceIte, Nat.reduceEqDiff, Nat.reduceAdd, Nat.reduceSub, Nat.reduceLeDiff, Nat.reduceLT, Nat.reduceMul, Nat.zero_add, Nat.add_zero, Nat.mul_zero, Nat.le_refl, Nat.zero_le, Nat.one_ne_zero, Nat.zero_ne_one, reduceCtorEq, List.map_cons, List.map_nil, List.mapM_cons, List.mapM_nil, List.flatMap_cons, List.flatMap_nil, List.append_nil, List.nil_append, List.cons_append, List.drop_zero, List.drop_succ_cons, List.take_zero, List.take_succ_cons, List.take_nil, List.drop_nil, List.length_cons, List.length_nil, List.getElem?_cons_zero, List.getElem?_cons_succ, List.getElem?_nil, List.set_cons_zero, List.set_cons_succ, List.all_cons, List.all_nil, Option.bind_some, Option.bind_none, Option.map_some, Option.map_none, Option.pure_def, Option.bind_eq_bind, Bool.and_true, Bool.true_and, Bool.and_self, Bool.or_false, Bool.false_or, Bool.and_false, Bool.false_and, Bool.or_true, Bool.true_or, Bool.not_true, Bool.not_false, Bool.not_not, decide_true, decide_false, and_self, and_true, true_and, beq_self_eq_true, beq_true, beq_false, bne_self_eq_false, Int.reduceBNe, Int.reduceBEq, Int.reduceLT, Int.reduceLE, Int.reduceGT, Bool.false_eq_true, Nat.zero_lt_succ, Nat.zero_lt_one, Nat.add_assoc, Nat.left_eq_add, Nat.add_eq_left, k1, k2, k3, k4, k5, k6, k7, k8, k9, k10, k11, k12, k13, hxk, verV, hvis]
          refine condC_split (fun hv => ?_) (fun hv => ?_)
          · have hp := vis_pos hc hxk hv
            have c0 : cnt (fewO o) t k = 0 := by unfold cnt; rw [hp]; simp
            have c1 : cnt (fewO o) t (k + 1) = 1 := by unfold cnt; rw [hp]; simp; omega
            have hB : atB (fewO o) t = true := by unfold atB; rw [hp, hc]; simp
            have hI : ((k : Int) != atI (fewO o) t) = false := by unfold atI; rw [hB, if_pos rfl, hp]; simp
            have hw : IntKind.i64.wrap (0 + 1) = 1 := by decide
            simp +contextual -implicitDefEqProofs (maxSteps := 2000000) only [↓wP, wQ, wQ1, wQ2, wQ3, boxE, List.take_length, partsOf, ↓reduceIte, Nat.reduceEqDiff, Nat.reduceAdd, Nat.reduceSub, Nat.reduceLeDiff, Nat.reduceLT, Nat.reduceMul, Nat.zero_add, Nat.add_zero, Nat.mul_zero, Nat.le_refl, Nat.zero_le, Nat.one_ne_zero, Nat.zero_ne_one, reduceCtorEq, List.map_cons, List.map_nil, List.mapM_cons, List.mapM_nil, List.flatMap_cons, List.flatMap_nil, List.append_nil, List.nil_append, List.cons_append, List.drop_zero, List.drop_succ_cons, List.take_zero, List.take_succ_cons, List.take_nil, List.drop_nil, List.length_cons, List.length_nil, List.getElem?_cons_zero, List.getElem?_cons_succ, List.getElem?_nil, List.set_cons_zero, List.set_cons_succ, List.all_cons, List.all_nil, Option.bind_some, Option.bind_none, Option.map_some, Option.map_none, Option.pure_def, Option.bind_eq_bind, Bool.and_true, Bool.true_and, Bool.and_self, Bool.or_false, Bool.false_or, Bool.and_false, Bool.false_and, Bool.or_true, Bool.true_or, Bool.not_true, Bool.not_false, Bool.not_not, decide_true, decide_false, and_self, and_true, true_and, beq_self_eq_true, beq_true, beq_false, bne_self_eq_false, Int.reduceBNe, Int.reduceBEq, Int.reduceLT, Int.reduceLE, Int.reduceGT, Bool.false_eq_true, Nat.zero_lt_succ, Nat.zero_lt_one, Nat.add_assoc, Nat.left_eq_add, Nat.add_eq_left, k1, k2, k3, k4, k5, k6, k7, k8, k9, k10, k11, k12, k13, c0, c1, hI, hw, hin]
            omega
          · have c1 : cnt (fewO o) t (k + 1) = cnt (fewO o) t k := by
              unfold cnt
              have : posV (fewO o) t ≠ (k : Int) := fun hp => by rw [pos_vis hxk hp] at hv; cases hv
              split <;> split <;> omega
            simp +contextual -implicitDefEqProofs (maxSteps := 2000000) only [↓wP, wQ, wQ1, wQ2, wQ3, boxE, List.take_length, partsOf, ↓reduceIte, Nat.reduceEqDiff, Nat.reduceAdd, Nat.reduceSub, Nat.reduceLeDiff, Nat.reduceLT, Nat.reduceMul, Nat.zero_add, Nat.add_zero, Nat.mul_zero, Nat.le_refl, Nat.zero_le, Nat.one_ne_zero, Nat.zero_ne_one, reduceCtorEq, List.map_cons, List.map_nil, List.mapM_cons, List.mapM_nil, List.flatMap_cons, List.flatMap_nil, List.append_nil, List.nil_append, List.cons_append, List.drop_zero, List.drop_succ_cons, List.take_zero, List.take_succ_cons, List.take_nil, List.drop_nil, List.length_cons, List.length_nil, List.getElem?_cons_zero, List.getElem?_cons_succ, List.getElem?_nil, List.set_cons_zero, List.set_cons_succ, List.all_cons, List.all_nil, Option.bind_some, Option.bind_none, Option.map_some, Option.map_none, Option.pure_def, Option.bind_eq_bind, Bool.and_true, Bool.true_and, Bool.and_self, Bool.or_false, Bool.false_or, Bool.and_false, Bool.false_and, Bool.or_true, Bool.true_or, Bool.not_true, Bool.not_false, Bool.not_not, decide_true, decide_false, and_self, and_true, true_and, beq_self_eq_true, beq_true, beq_false, bne_self_eq_false, Int.reduceBNe, Int.reduceBEq, Int.reduceLT, Int.reduceLE, Int.reduceGT, Bool.false_eq_true, Nat.zero_lt_succ, Nat.zero_lt_one, Nat.add_assoc, Nat.left_eq_add, Nat.add_eq_left, k1, k2, k3, k4, k5, k6, k7, k8, k9, k10, k11, k12, k13, c1, hin]
            omega
        · clear h1 h2 h3 h4 h5 h6
          intro env σ n ⟨k3, k4, k5, k6, k7, k8, k9, k10, k11, k12, k13⟩ k1 k2
          have hend := cnt_end (t := t) hc
          simp +contextual -implicitDefEqProofs (maxSteps := 2000000) only [↓wP, wQ, wQ1, wQ2, wQ3, boxE, List.take_length, partsOf, ↓reduceIte, Nat.reduceEqDiff, Nat.reduceAdd, Nat.reduceSub, Nat.reduceLeDiff, Nat.reduceLT, Nat.reduceMul, Nat.zero_add, Nat.add_zero, Nat.mul_zero, Nat.le_refl, Nat.zero_le, Nat.one_ne_zero, Nat.zero_ne_one, reduceCtorEq, List.map_cons, List.map_nil, List.mapM_cons, List.mapM_nil, List.flatMap_cons, List.flatMap_nil, List.append_nil, List.nil_append, List.cons_append, List.drop_zero, List.drop_succ_cons, List.take_zero, List.take_succ_cons, List.take_nil, List.drop_nil, List.length_cons, List.length_nil, List.getElem?_cons_zero, List.getElem?_cons_succ, List.getElem?_nil, List.set_cons_zero, List.set_cons_succ, List.all_cons, List.all_nil, Option.bind_some, Option.bind_none, Option.map_some, Option.map_none, Option.pure_def, Option.bind_eq_bind, Bool.and_true, Bool.true_and, Bool.and_self, Bool.or_false, Bool.false_or, Bool.and_false, Bool.false_and, Bool.or_true, Bool.true_or, Bool.not_true, Bool.not_false, Bool.not_not, decide_true, decide_false, and_self, and_true, true_and, beq_self_eq_true, beq_true, beq_false, bne_self_eq_false, Int.reduceBNe, Int.reduceBEq, Int.reduceLT, Int.reduceLE, Int.reduceGT, Bool.false_eq_true, Nat.zero_lt_succ, Nat.zero_lt_one, Nat.add_assoc, Nat.left_eq_add, Nat.add_eq_left, k1, k2, k3, k4, k5, k6, k7, k8, k9, k10, k11, k12, k13, hend]
          exact ⟨i, rfl, k7, k8⟩
        · have c0 : cnt (fewO o) t 0 = 0 := by unfold cnt; rw [if_neg]; omega
          simp +contextual -implicitDefEqProofs (maxSteps := 2000000) only [↓wP, wQ, wQ1, wQ2, wQ3, boxE, List.take_length, partsOf, ↓reduceIte, Nat.reduceEqDiff, Nat.reduceAdd, Nat.reduceSub, Nat.reduceLeDiff, Nat.reduceLT, Nat.reduceMul, Nat.zero_add, Nat.add_zero, Nat.mul_zero, Nat.le_refl, Nat.zero_le, Nat.one_ne_zero, Nat.zero_ne_one, reduceCtorEq, List.map_cons, List.map_nil, List.mapM_cons, List.mapM_nil, List.flatMap_cons, List.flatMap_nil, List.append_nil, List.nil_append, List.cons_append, List.drop_zero, List.drop_succ_cons, List.take_zero, List.take_succ_cons, List.take_nil, List.drop_nil, List.length_cons, List.length_nil, List.getElem?_cons_zero, List.getElem?_cons_succ, List.getElem?_nil, List.set_cons_zero, List.set_cons_succ, List.all_cons, List.all_nil, Option.bind_some, Option.bind_none, Option.map_some, Option.map_none, Option.pure_def, Option.bind_eq_bind, Bool.and_true, Bool.true_and, Bool.and_self, Bool.or_false, Bool.false_or, Bool.and_false, Bool.false_and, Bool.or_true, Bool.true_or, Bool.not_true, Bool.not_false, Bool.not_not, decide_true, decide_false, and_self, and_true, true_and, beq_self_eq_true, beq_true, beq_false, bne_self_eq_false, Int.reduceBNe, Int.reduceBEq, Int.reduceLT, Int.reduceLE, Int.reduceGT, Bool.false_eq_true, Nat.zero_lt_succ, Nat.zero_lt_one, Nat.add_assoc, Nat.left_eq_add, Nat.add_eq_left, h1, h2, h3, h4, h5, h6, c0]
    · intro env σ n ⟨h3, i, h4, h5, h6⟩ h1 h2
      simp +contextual -implicitDefEqProofs (maxSteps := 2000000) only [↓wP, wQ, wQ1, wQ2, wQ3, boxE, List.take_length, partsOf, ↓reduceIte, Nat.reduceEqDiff, Nat.reduceAdd, Nat.reduceSub, Nat.reduceLeDiff, Nat.reduceLT, Nat.reduceMul, Nat.zero_add, Nat.add_zero, Nat.mul_zero, Nat.le_refl, Nat.zero_le, Nat.one_ne_zero, Nat.zero_ne_one, reduceCtorEq, List.map_cons, List.map_nil, List.mapM_cons, List.mapM_nil, List.flatMap_cons, List.flatMap_nil, List.append_nil, List.nil_append, List.cons_append, List.drop_zero, List.drop_succ_cons, List.take_zero, List.take_succ_cons, List.take_nil, List.drop_nil, List.length_cons, List.length_nil, List.getElem?_cons_zero, List.getElem?_cons_succ, List.getElem?_nil, List.set_cons_zero, List.set_cons_succ, List.all_cons, List.all_nil, Option.bind_some, Option.bind_none, Option.map_some, Option.map_none, Option.pure_def, Option.bind_eq_bind, Bool.and_true, Bool.true_and, Bool.and_self, Bool.or_false, Bool.false_or, Bool.and_false, Bool.false_and, Bool.or_true, Bool.true_or, Bool.not_true, Bool.not_false, Bool.not_not, decide_true, decide_false, and_self, and_true, true_and, beq_self_eq_true, beq_true, beq_false, bne_self_eq_false, Int.reduceBNe, Int.reduceBEq, Int.reduceLT, Int.reduceLE, Int.reduceGT, Bool.false_eq_true, Nat.zero_lt_succ, Nat.zero_lt_one, Nat.add_assoc, Nat.left_eq_add, Nat.add_eq_left]
    · simp +contextual -implicitDefEqProofs (maxSteps := 2000000) only [↓wP, wQ, wQ1, wQ2, wQ3, boxE, List.take_length, partsOf, ↓reduceIte, Nat.reduceEqDiff, Nat.reduceAdd, Nat.reduceSub, Nat.reduceLeDiff, Nat.reduceLT, Nat.reduceMul, Nat.zero_add, Nat.add_zero, Nat.mul_zero, Nat.le_refl, Nat.zero_le, Nat.one_ne_zero, Nat.zero_ne_one, reduceCtorEq, List.map_cons, List.map_nil, List.mapM_cons, List.mapM_nil, List.flatMap_cons, List.flatMap_nil, List.append_nil, List.nil_append, List.cons_append, List.drop_zero, List.drop_succ_cons, List.take_zero, List.take_succ_cons, List.take_nil, List.drop_nil, List.length_cons, List.length_nil, List.getElem?_cons_zero, List.getElem?_cons_succ, List.getElem?_nil, List.set_cons_zero, List.set_cons_succ, List.all_cons, List.all_nil, Option.bind_some, Option.bind_none, Option.map_some, Option.map_none, Option.pure_def, Option.bind_eq_bind, Bool.and_true, Bool.true_and, Bool.and_self, Bool.or_false, Bool.false_or, Bool.and_false, Bool.false_and, Bool.or_true, Bool.true_or, Bool.not_true, Bool.not_false, Bool.not_not, decide_true, decide_false, and_self, and_true, true_and, beq_self_eq_true, beq_true, beq_false, bne_self_eq_false, Int.reduceBNe, Int.reduceBEq, Int.reduceLT, Int.reduceLE, Int.reduceGT, Bool.false_eq_true, Nat.zero_lt_succ, Nat.zero_lt_one, Nat.add_assoc, Nat.left_eq_add, Nat.add_eq_left]
      exact ⟨1, rfl, by simp [upd], by omega⟩

theorem f3 (o : Option (List Ver)) (l : Option (List Int)) (hs : Sm o) (hl : (lst l).length * 8 ≤ 140737488351232) (fs : Bool) (σ : Sto) (n lk : Nat) : callE T fs 3 [slV 3 verV o, slV 1 u64V l] σ n lk = some (.bool true, σ, n) :=
  callE_tr (by decide) (r3 o l hs hl) (by simp [Tr, Tr_slV]) rfl fs σ n lk

end Go.Q.S08
end

section
/- The document's word on which chains may be. -/
set_option linter.unusedSimpArgs false
set_option linter.unusedVariables false
namespace Go.Q.S08
open Go.Q

/-- One version by itself. -/
def okOne (d : Int) (x : Ver) : Bool := decide (0 < x.b) && decide (x.b ≤ 1099511627776) && decide (x.e ≤ 1099511627776) && (x.e == 0 || decide (x.b < x.e)) && (okV x.v && ((lst x.v).length : Int) == d)
theorem okVer_one (d L : Int) (fin : Bool) (x : Ver) : okVer d L fin x = (okOne d x && decide (L ≤ x.b) && (!x.e == 0 || fin)) := by
  simp only [okVer, okOne]
  generalize decide (0 < x.b) = p1
  generalize decide (L ≤ x.b) = p2
  cases p1 <;> cases p2 <;> simp

theorem r23 (o : Option (List Ver)) (hs : Sm o) : res T 23 [slV 3 verV o] = some (.bool (okC o)) := by
  refine run_res (run_pure (fn := g23) rfl rfl (by decide) ?_)
  simp only [g23, b23]
  simp +contextual -implicitDefEqProofs (maxSteps := 2000000) only [↓wP, wQ, wQ1, wQ2, wQ3, boxE, List.take_length, partsOf, ↓reduceIte, Nat.reduceEqDiff, Nat.reduceAdd, Nat.reduceSub, Nat.reduceLeDiff, Nat.reduceLT, Nat.reduceMul, Nat.zero_add, Nat.add_zero, Nat.mul_zero, Nat.le_refl, Nat.zero_le, Nat.one_ne_zero, Nat.zero_ne_one, reduceCtorEq, List.map_cons, List.map_nil, List.mapM_cons, List.mapM_nil, List.flatMap_cons, List.flatMap_nil, List.append_nil, List.nil_append, List.cons_append, List.drop_zero, List.drop_succ_cons, List.take_zero, List.take_succ_cons, List.take_nil, List.drop_nil, List.length_cons, List.length_nil, List.getElem?_cons_zero, List.getElem?_cons_succ, List.getElem?_nil, List.set_cons_zero, List.set_cons_succ, List.all_cons, List.all_nil, Option.bind_some, Option.bind_none, Option.map_some, Option.map_none, Option.pure_def, Option.bind_eq_bind, Bool.and_true, Bool.true_and, Bool.and_self, Bool.or_false, Bool.false_or, Bool.and_false, Bool.false_and, Bool.or_true, Bool.true_or, Bool.not_true, Bool.not_false, Bool.not_not, decide_true, decide_false, and_self, and_true, true_and, beq_self_eq_true, beq_true, beq_false, bne_self_eq_false, Int.reduceBNe, Int.reduceBEq, Int.reduceLT, Int.reduceLE, Int.reduceGT, Bool.false_eq_true, Nat.zero_lt_succ, Nat.zero_lt_one, Nat.add_assoc, Nat.left_eq_add, Nat.add_eq_left]
  by_cases h96 : (lst o).length ≤ 96
  · have hd : decide ((96 : Int) < ((lst o).length : Int)) = false := by simp; omega
    simp +contextual -implicitDefEqProofs (maxSteps := 2000000) only [↓wP, wQ, wQ1, wQ2, wQ3, boxE, List.take_length, partsOf, ↓reduceIte, Nat.reduceEqDiff, Nat.reduceAdd, Nat.reduceSub, Nat.reduceLeDiff, Nat.reduceLT, Nat.reduceMul, Nat.zero_add, Nat.add_zero, Nat.mul_zero, Nat.le_refl, Nat.zero_le, Nat.one_ne_zero, Nat.zero_ne_one, reduceCtorEq, List.map_cons, List.map_nil, List.mapM_cons, List.mapM_nil, List.flatMap_cons, List.flatMap_nil, List.append_nil, List.nil_append, List.cons_append, List.drop_zero, List.drop_succ_cons, List.take_zero, List.take_succ_cons, List.take_nil, List.drop_nil, List.length_cons, List.length_nil, List.getElem?_cons_zero, List.getElem?_cons_succ, List.getElem?_nil, List.set_cons_zero, List.set_cons_succ, List.all_cons, List.all_nil, Option.bind_some, Option.bind_none, Option.map_some, Option.map_none, Option.pure_def, Option.bind_eq_bind, Bool.and_true, Bool.true_and, Bool.and_self, Bool.or_false, Bool.false_or, Bool.and_false, Bool.false_and, Bool.or_true, Bool.true_or, Bool.not_true, Bool.not_false, Bool.not_not, decide_true, decide_false, and_self, and_true, true_and, beq_self_eq_true, beq_true, beq_false, bne_self_eq_false, Int.reduceBNe, Int.reduceBEq, Int.reduceLT, Int.reduceLE, Int.reduceGT, Bool.false_eq_true, Nat.zero_lt_succ, Nat.zero_lt_one, Nat.add_assoc, Nat.left_eq_add, Nat.add_eq_left, hd]
    refine WC_for (lst o).length 0 (fun (j : Nat) env _ _ => env 0 = slV 3 verV o ∧ env 8 = slV 3 verV o ∧ ∃ L, okC o = chk (dimOf (lst o)) L ((lst o).drop j) ∧ ∀ x, (lst o)[j]? = some x → 0 < x.b → L ≤ x.b)
      (by omega) (by decide) (by decide) (fun _ _ => rfl) (fun _ _ _ => rfl) ?_ ?_ _ _ _ rfl rfl ?_
    · intro j env σ n hj h1 h2 ⟨h3, h4, L, h5, h6⟩
      simp only [vl_tmp] at h2
      have hx : (lst o)[j]? = some (lst o)[j] := List.getElem?_eq_getElem hj
      have hx0 : (lst o)[0]? = some (lst o)[0] := List.getElem?_eq_getElem (by omega)
      have hdim : dimOf (lst o) = ((lst (lst o)[0].v).length : Int) := dimOf_eq (by omega)
      have h40 := f40 (lst o)[j].v (hs.2 _ (List.getElem_mem hj))
      have h7 := h6 _ hx
      rw [List.drop_eq_getElem_cons hj, chk, okVer_one] at h5
      simp +contextual -implicitDefEqProofs (maxSteps := 2000000) only [↓wP, wQ, wQ1, wQ2, wQ3, boxE, List.take_length, partsOf, ↓reduceIte, Nat.reduceEqDiff, Nat.reduceAdd, Nat.reduceSub, Nat.reduceLeDiff, Nat.reduceLT, Nat.reduceMul, Nat.zero_add, Nat.add_zero, Nat.mul_zero, Nat.le_refl, Nat.zero_le, Nat.one_ne_zero, Nat.zero_ne_one, reduceCtorEq, List.map_cons, List.map_nil, List.mapM_cons, List.mapM_nil, List.flatMap_cons, List.flatMap_nil, List.append_nil, List.nil_append, List.cons_append, List.drop_zero, List.drop_succ_cons, List.take_zero, List.take_succ_cons, List.take_nil, List.drop_nil, List.length_cons, List.length_nil, List.getElem?_cons_zero, List.getElem?_cons_succ, List.getElem?_nil, List.set_cons_zero, List.set_cons_succ, List.all_cons, List.all_nil, Option.bind_some, Option.bind_none, Option.map_some, Option.map_none, Option.pure_def, Option.bind_eq_bind, Bool.and_true, Bool.true_and, Bool.and_self, Bool.or_false, Bool.false_or, Bool.and_false, Bool.false_and, Bool.or_true, Bool.true_or, Bool.not_true, Bool.not_false, Bool.not_not, decide_true, decide_false, and_self, and_true, true_and, beq_self_eq_true, beq_true, beq_false, bne_self_eq_false, Int.reduceBNe, Int.reduceBEq, Int.reduceLT, Int.reduceLE, Int.reduceGT, Bool.false_eq_true, Nat.zero_lt_succ, Nat.zero_lt_one, Nat.add_assoc, Nat.left_eq_add, Nat.add_eq_left, h1, h2, h3, h4, hx, hx0, verV, h40]
      refine condC_split (fun hb => ?_) (fun hb => ?_)
      · have e1 : okOne (dimOf (lst o)) (lst o)[j] = false := by
          rw [hdim]
          simp only [Bool.or_eq_true, decide_eq_true_eq, Bool.and_eq_true, bne_iff_ne, Bool.not_eq_true', ne_eq] at hb
          simp only [okOne, Bool.and_eq_false_iff, decide_eq_false_iff_not, Bool.or_eq_false_iff, beq_eq_false_iff_ne, ne_eq]
          rcases hb with ((((hb | hb) | hb) | ⟨hb, hb'⟩) | hb) | hb
          · exact .inl (.inl (.inl (.inl (by omega))))
          · exact .inl (.inl (.inl (.inr (by omega))))
          · exact .inl (.inl (.inr (by omega)))
          · exact .inl (.inr ⟨hb, by omega⟩)
          · exact .inr (.inl hb)
          · exact .inr (.inr hb)
        rw [e1, Bool.false_and, Bool.false_and, Bool.false_and] at h5
        simp +contextual -implicitDefEqProofs (maxSteps := 2000000) only [↓wP, wQ, wQ1, wQ2, wQ3, boxE, List.take_length, partsOf, ↓reduceIte, Nat.reduceEqDiff, Nat.reduceAdd, Nat.reduceSub, Nat.reduceLeDiff, Nat.reduceLT, Nat.reduceMul, Nat.zero_add, Nat.add_zero, Nat.mul_zero, Nat.le_refl, Nat.zero_le, Nat.one_ne_zero, Nat.zero_ne_one, reduceCtorEq, List.map_cons, List.map_nil, List.mapM_cons, List.mapM_nil, List.flatMap_cons, List.flatMap_nil, List.append_nil, List.nil_append, List.cons_append, List.drop_zero, List.drop_succ_cons, List.take_zero, List.take_succ_cons, List.take_nil, List.drop_nil, List.length_cons, List.length_nil, List.getElem?_cons_zero, List.getElem?_cons_succ, List.getElem?_nil, List.set_cons_zero, List.set_cons_succ, List.all_cons, List.all_nil, Option.bind_some, Option.bind_none, Option.map_some, Option.map_none, Option.pure_def, Option.bind_eq_bind, Bool.and_true, Bool.true_and, Bool.and_self, Bool.or_false, Bool.false_or, Bool.and_false, Bool.false_and, Bool.or_true, Bool.true_or, Bool.not_true, Bool.not_false, Bool.not_not, decide_true, decide_false, and_self, and_true, true_and, beq_self_eq_true, beq_true, beq_false, bne_self_eq_false, Int.reduceBNe, Int.reduceBEq, Int.reduceLT, Int.reduceLE, Int.reduceGT, Bool.false_eq_true, Nat.zero_lt_succ, Nat.zero_lt_one, Nat.add_assoc, Nat.left_eq_add, Nat.add_eq_left, h5]
      · have e1 : okOne (dimOf (lst o)) (lst o)[j] = true ∧ 0 < (lst o)[j].b := by
          rw [hdim]
          simp only [Bool.or_eq_false_iff, decide_eq_false_iff_not, Bool.and_eq_false_iff, bne_eq_false_iff_eq, Bool.not_eq_false', Int.not_lt, Int.not_le] at hb
          simp only [okOne, Bool.and_eq_true, decide_eq_true_eq, Bool.or_eq_true, beq_iff_eq]
          obtain ⟨⟨⟨⟨⟨b1, b2⟩, b3⟩, b4⟩, b5⟩, b6⟩ := hb
          exact ⟨⟨⟨⟨⟨by omega, by omega⟩, by omega⟩, b4⟩, b5, b6⟩, by omega⟩
        have e2 : decide (L ≤ (lst o)[j].b) = true := decide_eq_true (h7 e1.2)
        rw [e1.1, e2, Bool.true_and, Bool.true_and] at h5
        have hw : IntKind.i64.wrap (((lst o).length : Int) - 1) = ((lst o).length : Int) - 1 := by rw [wrap_i64] <;> omega
        by_cases hj1 : j + 1 < (lst o).length
        · have hg : decide ((j : Int) < ((lst o).length : Int) - 1) = true := decide_eq_true (by omega)
          have hw1 : IntKind.i64.wrap ((j : Int) + 1) = ((j + 1 : Nat) : Int) := by rw [wrap_i64] <;> omega
          have hx1 : (lst o)[j + 1]? = some (lst o)[j + 1] := List.getElem?_eq_getElem hj1
          have hne : ((lst o).drop (j + 1)).isEmpty = false := by rw [List.drop_eq_getElem_cons hj1]; rfl
          rw [hne, Bool.or_false] at h5
          simp +contextual -implicitDefEqProofs (maxSteps := 2000000) only [↓wP, wQ, wQ1, wQ2, wQ3, boxE, List.take_length, partsOf, ↓reduceIte, Nat.reduceEqDiff, Nat.reduceAdd, Nat.reduceSub, Nat.reduceLeDiff, Nat.reduceLT, Nat.reduceMul, Nat.zero_add, Nat.add_zero, Nat.mul_zero, Nat.le_refl, Nat.zero_le, Nat.one_ne_zero, Nat.zero_ne_one, reduceCtorEq, List.map_cons, List.map_nil, List.mapM_cons, List.mapM_nil, List.flatMap_cons, List.flatMap_nil, List.append_nil, List.nil_append, List.cons_append, List.drop_zero, List.drop_succ_cons, List.take_zero, List.take_succ_cons, List.take_nil, List.drop_nil, List.length_cons, List.length_nil, List.getElem?_cons_zero, List.getElem?_cons_succ, List.getElem?_nil, List.set_cons_zero, List.set_cons_succ, List.all_cons, List.all_nil, Option.bind_some, Option.bind_none, Option.map_some, Option.map_none, Option.pure_def, Option.bind_eq_bind, Bool.and_true, Bool.true_and, Bool.and_self, Bool.or_false, Bool.false_or, Bool.and_false, Bool.false_and, Bool.or_true, Bool.true_or, Bool.not_true, Bool.not_false, Bool.not_not, decide_true, decide_false, and_self, and_true, true_and, beq_self_eq_true, beq_true, beq_false, bne_self_eq_false, Int.reduceBNe, Int.reduceBEq, Int.reduceLT, Int.reduceLE, Int.reduceGT, Bool.false_eq_true, Nat.zero_lt_succ, Nat.zero_lt_one, Nat.add_assoc, Nat.left_eq_add, Nat.add_eq_left, h1, h2, h3, h4, hx, verV, hw, hg, hw1, hx1]
          refine condC_split (fun hb => ?_) (fun hb => ?_)
          · have e3 : okC o = false := by
              rw [h5, List.drop_eq_getElem_cons hj1, chk, okVer_one]
              simp only [Bool.or_eq_true, beq_iff_eq, decide_eq_true_eq] at hb
              rcases hb with hb | hb
              · simp [hb]
              · have : decide ((lst o)[j].e ≤ (lst o)[j + 1].b) = false := decide_eq_false (by omega)
                simp [this]
            simp +contextual -implicitDefEqProofs (maxSteps := 2000000) only [↓wP, wQ, wQ1, wQ2, wQ3, boxE, List.take_length, partsOf, ↓reduceIte, Nat.reduceEqDiff, Nat.reduceAdd, Nat.reduceSub, Nat.reduceLeDiff, Nat.reduceLT, Nat.reduceMul, Nat.zero_add, Nat.add_zero, Nat.mul_zero, Nat.le_refl, Nat.zero_le, Nat.one_ne_zero, Nat.zero_ne_one, reduceCtorEq, List.map_cons, List.map_nil, List.mapM_cons, List.mapM_nil, List.flatMap_cons, List.flatMap_nil, List.append_nil, List.nil_append, List.cons_append, List.drop_zero, List.drop_succ_cons, List.take_zero, List.take_succ_cons, List.take_nil, List.drop_nil, List.length_cons, List.length_nil, List.getElem?_cons_zero, List.getElem?_cons_succ, List.getElem?_nil, List.set_cons_zero, List.set_cons_succ, List.all_cons, List.all_nil, Option.bind_some, Option.bind_none, Option.map_some, Option.map_none, Option.pure_def, Option.bind_eq_bind, Bool.and_true, Bool.true_and, Bool.and_self, Bool.or_false, Bool.false_or, Bool.and_false, Bool.false_and, Bool.or_true, Bool.true_or, Bool.not_true, Bool.not_false, Bool.not_not, decide_true, decide_false, and_self, and_true, true_and, beq_self_eq_true, beq_true, beq_false, bne_self_eq_false, Int.reduceBNe, Int.reduceBEq, Int.reduceLT, Int.reduceLE, Int.reduceGT, Bool.false_eq_true, Nat.zero_lt_succ, Nat.zero_lt_one, Nat.add_assoc, Nat.left_eq_add, Nat.add_eq_left, e3]
          · simp only [Bool.or_eq_false_iff, beq_eq_false_iff_ne, decide_eq_false_iff_not, Int.not_lt] at hb
            have e3 : okC o = chk (dimOf (lst o)) (lst o)[j].e ((lst o).drop (j + 1)) := by
              rw [h5]; simp [hb.1]
            simp +contextual -implicitDefEqProofs (maxSteps := 2000000) only [↓wP, wQ, wQ1, wQ2, wQ3, boxE, List.take_length, partsOf, ↓reduceIte, Nat.reduceEqDiff, Nat.reduceAdd, Nat.reduceSub, Nat.reduceLeDiff, Nat.reduceLT, Nat.reduceMul, Nat.zero_add, Nat.add_zero, Nat.mul_zero, Nat.le_refl, Nat.zero_le, Nat.one_ne_zero, Nat.zero_ne_one, reduceCtorEq, List.map_cons, List.map_nil, List.mapM_cons, List.mapM_nil, List.flatMap_cons, List.flatMap_nil, List.append_nil, List.nil_append, List.cons_append, List.drop_zero, List.drop_succ_cons, List.take_zero, List.take_succ_cons, List.take_nil, List.drop_nil, List.length_cons, List.length_nil, List.getElem?_cons_zero, List.getElem?_cons_succ, List.getElem?_nil, List.set_cons_zero, List.set_cons_succ, List.all_cons, List.all_nil, Option.bind_some, Option.bind_none, Option.map_some, Option.map_none, Option.pure_def, Option.bind_eq_bind, Bool.and_true, Bool.true_and, Bool.and_self, Bool.or_false, Bool.false_or, Bool.and_false, Bool.false_and, Bool.or_true, Bool.true_or, Bool.not_true, Bool.not_false, Bool.not_not, decide_true, decide_false, and_self, and_true, true_and, beq_self_eq_true, beq_true, beq_false, bne_self_eq_false, Int.reduceBNe, Int.reduceBEq, Int.reduceLT, Int.reduceLE, Int.reduceGT, Bool.false_eq_true, Nat.zero_lt_succ, Nat.zero_lt_one, Nat.add_assoc, Nat.left_eq_add, Nat.add_eq_left, h1, h2, h3, h4]
            refine ⟨_, e3, fun x hx' _ => ?_⟩
            cases hx'
            exact hb.2
        · have hg : decide ((j : Int) < ((lst o).length : Int) - 1) = false := decide_eq_false (by omega)
          have he : (lst o).drop (j + 1) = [] := by rw [List.drop_eq_nil_iff]; omega
          rw [he] at h5
          simp +contextual -implicitDefEqProofs (maxSteps := 2000000) only [↓wP, wQ, wQ1, wQ2, wQ3, boxE, List.take_length, partsOf, ↓reduceIte, Nat.reduceEqDiff, Nat.reduceAdd, Nat.reduceSub, Nat.reduceLeDiff, Nat.reduceLT, Nat.reduceMul, Nat.zero_add, Nat.add_zero, Nat.mul_zero, Nat.le_refl, Nat.zero_le, Nat.one_ne_zero, Nat.zero_ne_one, reduceCtorEq, List.map_cons, List.map_nil, List.mapM_cons, List.mapM_nil, List.flatMap_cons, List.flatMap_nil, List.append_nil, List.nil_append, List.cons_append, List.drop_zero, List.drop_succ_cons, List.take_zero, List.take_succ_cons, List.take_nil, List.drop_nil, List.length_cons, List.length_nil, List.getElem?_cons_zero, List.getElem?_cons_succ, List.getElem?_nil, List.set_cons_zero, List.set_cons_succ, List.all_cons, List.all_nil, Option.bind_some, Option.bind_none, Option.map_some, Option.map_none, Option.pure_def, Option.bind_eq_bind, Bool.and_true, Bool.true_and, Bool.and_self, Bool.or_false, Bool.false_or, Bool.and_false, Bool.false_and, Bool.or_true, Bool.true_or, Bool.not_true, Bool.not_false, Bool.not_not, decide_true, decide_false, and_self, and_true, true_and, beq_self_eq_true, beq_true, beq_false, bne_self_eq_false, Int.reduceBNe, Int.reduceBEq, Int.reduceLT, Int.reduceLE, Int.reduceGT, Bool.false_eq_true, Nat.zero_lt_succ, Nat.zero_lt_one, Nat.add_assoc, Nat.left_eq_add, Nat.add_eq_left, h1, h2, h3, h4, hx, verV, hw, hg]
          refine ⟨(lst o)[j].e, ?_, fun x hx' _ => ?_⟩
          · rw [h5, he]; simp
          · rw [List.getElem?_eq_none (by omega)] at hx'; cases hx'
    · intro env σ n ⟨h3, h4, L, h5, h6⟩ h1 h2
      rw [List.drop_length] at h5
      have : okC o = true := h5
      simp +contextual -implicitDefEqProofs (maxSteps := 2000000) only [↓wP, wQ, wQ1, wQ2, wQ3, boxE, List.take_length, partsOf, ↓reduceIte, Nat.reduceEqDiff, Nat.reduceAdd, Nat.reduceSub, Nat.reduceLeDiff, Nat.reduceLT, Nat.reduceMul, Nat.zero_add, Nat.add_zero, Nat.mul_zero, Nat.le_refl, Nat.zero_le, Nat.one_ne_zero, Nat.zero_ne_one, reduceCtorEq, List.map_cons, List.map_nil, List.mapM_cons, List.mapM_nil, List.flatMap_cons, List.flatMap_nil, List.append_nil, List.nil_append, List.cons_append, List.drop_zero, List.drop_succ_cons, List.take_zero, List.take_succ_cons, List.take_nil, List.drop_nil, List.length_cons, List.length_nil, List.getElem?_cons_zero, List.getElem?_cons_succ, List.getElem?_nil, List.set_cons_zero, List.set_cons_succ, List.all_cons, List.all_nil, Option.bind_some, Option.bind_none, Option.map_some, Option.map_none, Option.pure_def, Option.bind_eq_bind, Bool.and_true, Bool.true_and, Bool.and_self, Bool.or_false, Bool.false_or, Bool.and_false, Bool.false_and, Bool.or_true, Bool.true_or, Bool.not_true, Bool.not_false, Bool.not_not, decide_true, decide_false, and_self, and_true, true_and, beq_self_eq_true, beq_true, beq_false, bne_self_eq_false, Int.reduceBNe, Int.reduceBEq, Int.reduceLT, Int.reduceLE, Int.reduceGT, Bool.false_eq_true, Nat.zero_lt_succ, Nat.zero_lt_one, Nat.add_assoc, Nat.left_eq_add, Nat.add_eq_left, this]
    · refine ⟨rfl, rfl, 0, ?_, fun x _ h => by omega⟩
      simp [okC, h96]
  · have hd : decide ((96 : Int) < ((lst o).length : Int)) = true := by simp; omega
    have hc : okC o = false := by simp [okC, h96]
    simp +contextual -implicitDefEqProofs (maxSteps := 2000000) only [↓wP, wQ, wQ1, wQ2, wQ3, boxE, List.take_length, partsOf, ↓reduceIte, Nat.reduceEqDiff, Nat.reduceAdd, Nat.reduceSub, Nat.reduceLeDiff, Nat.reduceLT, Nat.reduceMul, Nat.zero_add, Nat.add_zero, Nat.mul_zero, Nat.le_refl, Nat.zero_le, Nat.one_ne_zero, Nat.zero_ne_one, reduceCtorEq, List.map_cons, List.map_nil, List.mapM_cons, List.mapM_nil, List.flatMap_cons, List.flatMap_nil, List.append_nil, List.nil_append, List.cons_append, List.drop_zero, List.drop_succ_cons, List.take_zero, List.take_succ_cons, List.take_nil, List.drop_nil, List.length_cons, List.length_nil, List.getElem?_cons_zero, List.getElem?_cons_succ, List.getElem?_nil, List.set_cons_zero, List.set_cons_succ, List.all_cons, List.all_nil, Option.bind_some, Option.bind_none, Option.map_some, Option.map_none, Option.pure_def, Option.bind_eq_bind, Bool.and_true, Bool.true_and, Bool.and_self, Bool.or_false, Bool.false_or, Bool.and_false, Bool.false_and, Bool.or_true, Bool.true_or, Bool.not_true, Bool.not_false, Bool.not_not, decide_true, decide_false, and_self, and_true, true_and, beq_self_eq_true, beq_true, beq_false, bne_self_eq_false, Int.reduceBNe, Int.reduceBEq, Int.reduceLT, Int.reduceLE, Int.reduceGT, Bool.false_eq_true, Nat.zero_lt_succ, Nat.zero_lt_one, Nat.add_assoc, Nat.left_eq_add, Nat.add_eq_left, hd, hc]

theorem f23 (o : Option (List Ver)) (hs : Sm o) (fs : Bool) (σ : Sto) (n lk : Nat) : callE T fs 23 [slV 3 verV o] σ n lk = some (.bool (okC o), σ, n) :=
  callE_tr (by decide) (r23 o hs) (by simp [Tr, Tr_slV]) rfl fs σ n lk

end Go.Q.S08
end

section
/- Which chains may be, are one, and what they tell. -/
set_option linter.unusedSimpArgs false
set_option linter.unusedVariables false
namespace Go.Q.S08
open Go.Q

theorem ver_refl (x : Ver) : (x == x) = true := by rw [ver_beq]; simp
theorem vers_refl : ∀ (l : List Ver), (l == l) = true
  | [] => rfl
  | x :: l => by
    show (x == x && l == l) = true
    rw [ver_refl, vers_refl l]; rfl

theorem last_fold {d : Int} : ∀ {L n : Int} {l : List Ver}, chk d L l = true → n ≤ L → l.foldl (fun n v => mx (mx n v.b) v.e) n = if l = [] then n else lastC l
  | _, _, [], _, _ => rfl
  | L, n, x :: xs, h, hn => by
    rw [chk, okVer_one] at h
    simp only [Bool.and_eq_true, decide_eq_true_eq, okOne, Bool.or_eq_true, beq_iff_eq, Bool.not_eq_true', beq_eq_false_iff_ne] at h
    obtain ⟨⟨⟨h1, h2⟩, h3⟩, h4⟩ := h
    have e1 : mx n x.b = x.b := by unfold mx; split <;> omega
    rw [List.foldl_cons, e1, if_neg (by simp)]
    cases xs with
    | nil => rfl
    | cons y ys =>
      simp only [List.isEmpty_cons, Bool.false_eq_true, or_false] at h3
      have e2 : mx x.b x.e = x.e := by unfold mx; split <;> omega
      rw [e2, last_fold h4 (Int.le_refl _), if_neg (by simp)]
      simp [lastC]

theorem last_eq {o : Option (List Ver)} (h : okC o = true) : lastR (lst o) = lastC (lst o) := by
  unfold okC at h
  rw [Bool.and_eq_true] at h
  unfold lastR
  rw [last_fold h.2 (Int.le_refl _)]
  split
  · rename_i h0; rw [h0]; rfl
  · rfl

theorem r7 (l : Option (List (Option (List Ver)))) (ts : Option (List Int)) (hl : (lst l).length < 9223372036854775808) (hs : ∀ x ∈ lst l, Sm x) (ht : (lst ts).length < 9223372036854775808) : res T 7 [slV 1 (slV 3 verV) l, slV 1 u64V ts] = some (.bool true) := by
  refine run_res (run_pure (fn := g7) rfl rfl (by decide) ?_)
  simp only [g7, b7]
  simp +contextual -implicitDefEqProofs (maxSteps := 2000000) only [↓wP, wQ, wQ1, wQ2, wQ3, boxE, List.take_length, partsOf, ↓reduceIte, Nat.reduceEqDiff, Nat.reduceAdd, Nat.reduceSub, Nat.reduceLeDiff, Nat.reduceLT, Nat.reduceMul, Nat.zero_add, Nat.add_zero, Nat.mul_zero, Nat.le_refl, Nat.zero_le, Nat.one_ne_zero, Nat.zero_ne_one, reduceCtorEq, List.map_cons, List.map_nil, List.mapM_cons, List.mapM_nil, List.flatMap_cons, List.flatMap_nil, List.append_nil, List.nil_append, List.cons_append, List.drop_zero, List.drop_succ_cons, List.take_zero, List.take_succ_cons, List.take_nil, List.drop_nil, List.length_cons, List.length_nil, List.getElem?_cons_zero, List.getElem?_cons_succ, List.getElem?_nil, List.set_cons_zero, List.set_cons_succ, List.all_cons, List.all_nil, Option.bind_some, Option.bind_none, Option.map_some, Option.map_none, Option.pure_def, Option.bind_eq_bind, Bool.and_true, Bool.true_and, Bool.and_self, Bool.or_false, Bool.false_or, Bool.and_false, Bool.false_and, Bool.or_true, Bool.true_or, Bool.not_true, Bool.not_false, Bool.not_not, decide_true, decide_false, and_self, and_true, true_and, beq_self_eq_true, beq_true, beq_false, bne_self_eq_false, Int.reduceBNe, Int.reduceBEq, Int.reduceLT, Int.reduceLE, Int.reduceGT, Bool.false_eq_true, Nat.zero_lt_succ, Nat.zero_lt_one, Nat.add_assoc, Nat.left_eq_add, Nat.add_eq_left, f9]
  refine WC_for (lst l).length 0 (fun (j : Nat) env _ _ => env 0 = slV 1 (slV 3 verV) l ∧ env 20 = slV 1 (slV 3 verV) l ∧ env 1 = slV 1 u64V ts) (by omega) (by decide) (by decide) (fun _ _ => rfl) (fun _ _ _ => rfl) ?_ ?_ _ _ _ rfl rfl ?_
  · intro j env σ n hj h1 h2 ⟨h3, h4, h5⟩
    simp only [vl_tmp] at h2
    have hx : (lst l)[j]? = some (lst l)[j] := List.getElem?_eq_getElem hj
    have hx0 : (lst l)[0]? = some (lst l)[0] := List.getElem?_eq_getElem (by omega)
    have h10 := f10 (lst l)[j] (hs _ (List.getElem_mem hj))
    have h10' := f10 (lst l)[0] (hs _ (List.getElem_mem _))
    generalize (lst l)[j] = x at hx h10
    generalize (lst l)[0] = y at hx0 h10'
    have h23 := f23 (fewO x) (few_sm x)
    have h11 := f11 (fewO x) (few_sm x)
    have h24 := f24 (fewO x) (fewO y) (few_sm x)
    have h24' := f24 (fewO x) (fewO x) (few_sm x)
    have h17 := f17 (fewO x) (fewO y) (few_sm x)
    have h25 := f25 (fewO x) (few_sm x)
    have h21 := f21 (fewO x) (few_sm x)
    rw [vers_refl] at h24'
    by_cases h6 : (j : Int) = 6
    · have hd : ((j : Int) == 6) = true := by simpa using h6
      simp +contextual -implicitDefEqProofs (maxSteps := 2000000) only [↓wP, wQ, wQ1, wQ2, wQ3, boxE, List.take_length, partsOf, ↓reduceIte, Nat.reduceEqDiff, Nat.reduceAdd, Nat.reduceSub, Nat.reduceLeDiff, Nat.reduceLT, Nat.reduceMul, Nat.zero_add, Nat.add_zero, Nat.mul_zero, Nat.le_refl, Nat.zero_le, Nat.one_ne_zero, Nat.zero_ne_one, reduceCtorEq, List.map_cons, List.map_nil, List.mapM_cons, List.mapM_nil, List.flatMap_cons, List.flatMap_nil, List.append_nil, List.nil_append, List.cons_append, List.drop_zero, List.drop_succ_cons, List.take_zero, List.take_succ_cons, List.take_nil, List.drop_nil, List.length_cons, List.length_nil, List.getElem?_cons_zero, List.getElem?_cons_succ, List.getElem?_nil, List.set_cons_zero, List.set_cons_succ, List.all_cons, List.all_nil, Option.bind_some, Option.bind_none, Option.map_some, Option.map_none, Option.pure_def, Option.bind_eq_bind, Bool.and_true, Bool.true_and, Bool.and_self, Bool.or_false, Bool.false_or, Bool.and_false, Bool.false_and, Bool.or_true, Bool.true_or, Bool.not_true, Bool.not_false, Bool.not_not, decide_true, decide_false, and_self, and_true, true_and, beq_self_eq_true, beq_true, beq_false, bne_self_eq_false, Int.reduceBNe, Int.reduceBEq, Int.reduceLT, Int.reduceLE, Int.reduceGT, Bool.false_eq_true, Nat.zero_lt_succ, Nat.zero_lt_one, Nat.add_assoc, Nat.left_eq_add, Nat.add_eq_left, h1, h2, h3, h4, h5, hx, hd]
    · have hd : ((j : Int) == 6) = false := by simpa using h6
      cases hc : okC (fewO x)
      · have hB : ∀ t, atB (fewO x) t = false := fun t => by simp [atB, hc]
        have hI : ∀ t, atI (fewO x) t = 0 := fun t => by simp [atI, hB]
        simp +contextual -implicitDefEqProofs (maxSteps := 2000000) only [↓wP, wQ, wQ1, wQ2, wQ3, boxE, List.take_length, partsOf, ↓reduceIte, Nat.reduceEqDiff, Nat.reduceAdd, Nat.reduceSub, Nat.reduceLeDiff, Nat.reduceLT, Nat.reduceMul, Nat.zero_add, Nat.add_zero, Nat.mul_zero, Nat.le_refl, Nat.zero_le, Nat.one_ne_zero, Nat.zero_ne_one, reduceCtorEq, List.map_cons, List.map_nil, List.mapM_cons, List.mapM_nil, List.flatMap_cons, List.flatMap_nil, List.append_nil, List.nil_append, List.cons_append, List.drop_zero, List.drop_succ_cons, List.take_zero, List.take_succ_cons, List.take_nil, List.drop_nil, List.length_cons, List.length_nil, List.getElem?_cons_zero, List.getElem?_cons_succ, List.getElem?_nil, List.set_cons_zero, List.set_cons_succ, List.all_cons, List.all_nil, Option.bind_some, Option.bind_none, Option.map_some, Option.map_none, Option.pure_def, Option.bind_eq_bind, Bool.and_true, Bool.true_and, Bool.and_self, Bool.or_false, Bool.false_or, Bool.and_false, Bool.false_and, Bool.or_true, Bool.true_or, Bool.not_true, Bool.not_false, Bool.not_not, decide_true, decide_false, and_self, and_true, true_and, beq_self_eq_true, beq_true, beq_false, bne_self_eq_false, Int.reduceBNe, Int.reduceBEq, Int.reduceLT, Int.reduceLE, Int.reduceGT, Bool.false_eq_true, Nat.zero_lt_succ, Nat.zero_lt_one, Nat.add_assoc, Nat.left_eq_add, Nat.add_eq_left, h1, h2, h3, h4, h5, hx, hx0, hd, h10, h10', h23, h11, h24, h24', h17, h25, h21, hc]
        refine WC_for (lst ts).length 0 (fun (k : Nat) env _ _ => env 0 = slV 1 (slV 3 verV) l ∧ env 20 = slV 1 (slV 3 verV) l ∧ env 1 = slV 1 u64V ts ∧ env 74 = slV 1 u64V ts ∧ env 7 = slV 3 verV (fewO x) ∧ env 9 = .bool false ∧
            env 22 = .int .i64 (j : Int) ∧ env 21 = .int .i64 ((lst l).length : Int)) (by omega) (by decide) (by decide) (fun _ _ => rfl) (fun _ _ _ => rfl) ?_ ?_ _ _ _ rfl rfl ?_
        · clear h1 h2 h3 h4 h5
          intro k env σ n hk k1 k2 ⟨k3, k4, k5, k6, k7, k8, k9, k10⟩
          simp only [vl_tmp] at k2
          have hxk : (lst ts)[k]? = some (lst ts)[k] := List.getElem?_eq_getElem hk
          have h13 := f13 (fewO x) (lst ts)[k] (few_sm x)
          by_cases h20 : (k : Int) = 20
          · have hd : ((k : Int) == 20) = true := by simpa using h20
            simp +contextual -implicitDefEqProofs (maxSteps := 2000000) only [↓wP, wQ, wQ1, wQ2, wQ3, boxE, List.take_length, partsOf, ↓reduceIte, Nat.reduceEqDiff, Nat.reduceAdd, Nat.reduceSub, Nat.reduceLeDiff, Nat.reduceLT, Nat.reduceMul, Nat.zero_add, Nat.add_zero, Nat.mul_zero, Nat.le_refl, Nat.zero_le, Nat.one_ne_zero, Nat.zero_ne_one, reduceCtorEq, List.map_cons, List.map_nil, List.mapM_cons, List.mapM_nil, List.flatMap_cons, List.flatMap_nil, List.append_nil, List.nil_append, List.cons_append, List.drop_zero, List.drop_succ_cons, List.take_zero, List.take_succ_cons, List.take_nil, List.drop_nil, List.length_cons, List.length_nil, List.getElem?_cons_zero, List.getElem?_cons_succ, List.getElem?_nil, List.set_cons_zero, List.set_cons_succ, List.all_cons, List.all_nil, Option.bind_some, Option.bind_none, Option.map_some, Option.map_none, Option.pure_def, Option.bind_eq_bind, Bool.and_true, Bool.true_and, Bool.and_self, Bool.or_false, Bool.false_or, Bool.and_false, Bool.false_and, Bool.or_true, Bool.true_or, Bool.not_true, Bool.not_false, Bool.not_not, decide_true, decide_false, and_self, and_true, true_and, beq_self_eq_true, beq_true, beq_false, bne_self_eq_false, Int.reduceBNe, Int.reduceBEq, Int.reduceLT, Int.reduceLE, Int.reduceGT, Bool.false_eq_true, Nat.zero_lt_succ, Nat.zero_lt_one, Nat.add_assoc, Nat.left_eq_add, Nat.add_eq_left, k1, k2, k3, k4, k5, k6, k7, k8, k9, k10, hxk, u64V, hd]
          · have hd : ((k : Int) == 20) = false := by simpa using h20
            simp +contextual -implicitDefEqProofs (maxSteps := 2000000) only [↓wP, wQ, wQ1, wQ2, wQ3, boxE, List.take_length, partsOf, ↓reduceIte, Nat.reduceEqDiff, Nat.reduceAdd, Nat.reduceSub, Nat.reduceLeDiff, Nat.reduceLT, Nat.reduceMul, Nat.zero_add, Nat.add_zero, Nat.mul_zero, Nat.le_refl, Nat.zero_le, Nat.one_ne_zero, Nat.zero_ne_one, reduceCtorEq, List.map_cons, List.map_nil, List.mapM_cons, List.mapM_nil, List.flatMap_cons, List.flatMap_nil, List.append_nil, List.nil_append, List.cons_append, List.drop_zero, List.drop_succ_cons, List.take_zero, List.take_succ_cons, List.take_nil, List.drop_nil, List.length_cons, List.length_nil, List.getElem?_cons_zero, List.getElem?_cons_succ, List.getElem?_nil, List.set_cons_zero, List.set_cons_succ, List.all_cons, List.all_nil, Option.bind_some, Option.bind_none, Option.map_some, Option.map_none, Option.pure_def, Option.bind_eq_bind, Bool.and_true, Bool.true_and, Bool.and_self, Bool.or_false, Bool.false_or, Bool.and_false, Bool.false_and, Bool.or_true, Bool.true_or, Bool.not_true, Bool.not_false, Bool.not_not, decide_true, decide_false, and_self, and_true, true_and, beq_self_eq_true, beq_true, beq_false, bne_self_eq_false, Int.reduceBNe, Int.reduceBEq, Int.reduceLT, Int.reduceLE, Int.reduceGT, Bool.false_eq_true, Nat.zero_lt_succ, Nat.zero_lt_one, Nat.add_assoc, Nat.left_eq_add, Nat.add_eq_left, k1, k2, k3, k4, k5, k6, k7, k8, k9, k10, hxk, u64V, hd, h13, hB, hI]
        · intro env σ n ⟨k3, k4, k5, k6, k7, k8, k9, k10⟩ k1 k2
          simp +contextual -implicitDefEqProofs (maxSteps := 2000000) only [↓wP, wQ, wQ1, wQ2, wQ3, boxE, List.take_length, partsOf, ↓reduceIte, Nat.reduceEqDiff, Nat.reduceAdd, Nat.reduceSub, Nat.reduceLeDiff, Nat.reduceLT, Nat.reduceMul, Nat.zero_add, Nat.add_zero, Nat.mul_zero, Nat.le_refl, Nat.zero_le, Nat.one_ne_zero, Nat.zero_ne_one, reduceCtorEq, List.map_cons, List.map_nil, List.mapM_cons, List.mapM_nil, List.flatMap_cons, List.flatMap_nil, List.append_nil, List.nil_append, List.cons_append, List.drop_zero, List.drop_succ_cons, List.take_zero, List.take_succ_cons, List.take_nil, List.drop_nil, List.length_cons, List.length_nil, List.getElem?_cons_zero, List.getElem?_cons_succ, List.getElem?_nil, List.set_cons_zero, List.set_cons_succ, List.all_cons, List.all_nil, Option.bind_some, Option.bind_none, Option.map_some, Option.map_none, Option.pure_def, Option.bind_eq_bind, Bool.and_true, Bool.true_and, Bool.and_self, Bool.or_false, Bool.false_or, Bool.and_false, Bool.false_and, Bool.or_true, Bool.true_or, Bool.not_true, Bool.not_false, Bool.not_not, decide_true, decide_false, and_self, and_true, true_and, beq_self_eq_true, beq_true, beq_false, bne_self_eq_false, Int.reduceBNe, Int.reduceBEq, Int.reduceLT, Int.reduceLE, Int.reduceGT, Bool.false_eq_true, Nat.zero_lt_succ, Nat.zero_lt_one, Nat.add_assoc, Nat.left_eq_add, Nat.add_eq_left, k3, k4, k5, k9, k10]
        · simp +contextual -implicitDefEqProofs (maxSteps := 2000000) only [↓wP, wQ, wQ1, wQ2, wQ3, boxE, List.take_length, partsOf, ↓reduceIte, Nat.reduceEqDiff, Nat.reduceAdd, Nat.reduceSub, Nat.reduceLeDiff, Nat.reduceLT, Nat.reduceMul, Nat.zero_add, Nat.add_zero, Nat.mul_zero, Nat.le_refl, Nat.zero_le, Nat.one_ne_zero, Nat.zero_ne_one, reduceCtorEq, List.map_cons, List.map_nil, List.mapM_cons, List.mapM_nil, List.flatMap_cons, List.flatMap_nil, List.append_nil, List.nil_append, List.cons_append, List.drop_zero, List.drop_succ_cons, List.take_zero, List.take_succ_cons, List.take_nil, List.drop_nil, List.length_cons, List.length_nil, List.getElem?_cons_zero, List.getElem?_cons_succ, List.getElem?_nil, List.set_cons_zero, List.set_cons_succ, List.all_cons, List.all_nil, Option.bind_some, Option.bind_none, Option.map_some, Option.map_none, Option.pure_def, Option.bind_eq_bind, Bool.and_true, Bool.true_and, Bool.and_self, Bool.or_false, Bool.false_or, Bool.and_false, Bool.false_and, Bool.or_true, Bool.true_or, Bool.not_true, Bool.not_false, Bool.not_not, decide_true, decide_false, and_self, and_true, true_and, beq_self_eq_true, beq_true, beq_false, bne_self_eq_false, Int.reduceBNe, Int.reduceBEq, Int.reduceLT, Int.reduceLE, Int.reduceGT, Bool.false_eq_true, Nat.zero_lt_succ, Nat.zero_lt_one, Nat.add_assoc, Nat.left_eq_add, Nat.add_eq_left, h1, h2, h3, h4, h5]
      · have hB : ∀ t, atB (fewO x) t = decide (0 ≤ posV (fewO x) t) := fun t => by simp [atB, hc]
        have hI : ∀ t, atI (fewO x) t = if 0 ≤ posV (fewO x) t then posV (fewO x) t else 0 := fun t => by simp [atI, hB]
        have hla := last_eq hc
        simp +contextual -implicitDefEqProofs (maxSteps := 2000000) only [↓wP, wQ, wQ1, wQ2, wQ3, boxE, List.take_length, partsOf, ↓reduceIte, Nat.reduceEqDiff, Nat.reduceAdd, Nat.reduceSub, Nat.reduceLeDiff, Nat.reduceLT, Nat.reduceMul, Nat.zero_add, Nat.add_zero, Nat.mul_zero, Nat.le_refl, Nat.zero_le, Nat.one_ne_zero, Nat.zero_ne_one, reduceCtorEq, List.map_cons, List.map_nil, List.mapM_cons, List.mapM_nil, List.flatMap_cons, List.flatMap_nil, List.append_nil, List.nil_append, List.cons_append, List.drop_zero, List.drop_succ_cons, List.take_zero, List.take_succ_cons, List.take_nil, List.drop_nil, List.length_cons, List.length_nil, List.getElem?_cons_zero, List.getElem?_cons_succ, List.getElem?_nil, List.set_cons_zero, List.set_cons_succ, List.all_cons, List.all_nil, Option.bind_some, Option.bind_none, Option.map_some, Option.map_none, Option.pure_def, Option.bind_eq_bind, Bool.and_true, Bool.true_and, Bool.and_self, Bool.or_false, Bool.false_or, Bool.and_false, Bool.false_and, Bool.or_true, Bool.true_or, Bool.not_true, Bool.not_false, Bool.not_not, decide_true, decide_false, and_self, and_true, true_and, beq_self_eq_true, beq_true, beq_false, bne_self_eq_false, Int.reduceBNe, Int.reduceBEq, Int.reduceLT, Int.reduceLE, Int.reduceGT, Bool.false_eq_true, Nat.zero_lt_succ, Nat.zero_lt_one, Nat.add_assoc, Nat.left_eq_add, Nat.add_eq_left, h1, h2, h3, h4, h5, hx, hx0, hd, h10, h10', h23, h11, h24, h24', h17, h25, h21, hc, hla]
        refine WC_for (lst ts).length 0 (fun (k : Nat) env _ _ => env 0 = slV 1 (slV 3 verV) l ∧ env 20 = slV 1 (slV 3 verV) l ∧ env 1 = slV 1 u64V ts ∧ env 74 = slV 1 u64V ts ∧ env 7 = slV 3 verV (fewO x) ∧ env 9 = .bool true ∧
            env 22 = .int .i64 (j : Int) ∧ env 21 = .int .i64 ((lst l).length : Int)) (by omega) (by decide) (by decide) (fun _ _ => rfl) (fun _ _ _ => rfl) ?_ ?_ _ _ _ rfl rfl ?_
        · clear h1 h2 h3 h4 h5
          intro k env σ n hk k1 k2 ⟨k3, k4, k5, k6, k7, k8, k9, k10⟩
          simp only [vl_tmp] at k2
          have hxk : (lst ts)[k]? = some (lst ts)[k] := List.getElem?_eq_getElem hk
          have h13 := f13 (fewO x) (lst ts)[k] (few_sm x)
          have h26 := f26 (fewO x) (lst ts)[k] (few_sm x)
          by_cases h20 : (k : Int) = 20
          · have hd : ((k : Int) == 20) = true := by simpa using h20
            simp +contextual -implicitDefEqProofs (maxSteps := 2000000) only [↓wP, wQ, wQ1, wQ2, wQ3, boxE, List.take_length, partsOf, ↓reduceIte, Nat.reduceEqDiff, Nat.reduceAdd, Nat.reduceSub, Nat.reduceLeDiff, Nat.reduceLT, Nat.reduceMul, Nat.zero_add, Nat.add_zero, Nat.mul_zero, Nat.le_refl, Nat.zero_le, Nat.one_ne_zero, Nat.zero_ne_one, reduceCtorEq, List.map_cons, List.map_nil, List.mapM_cons, List.mapM_nil, List.flatMap_cons, List.flatMap_nil, List.append_nil, List.nil_append, List.cons_append, List.drop_zero, List.drop_succ_cons, List.take_zero, List.take_succ_cons, List.take_nil, List.drop_nil, List.length_cons, List.length_nil, List.getElem?_cons_zero, List.getElem?_cons_succ, List.getElem?_nil, List.set_cons_zero, List.set_cons_succ, List.all_cons, List.all_nil, Option.bind_some, Option.bind_none, Option.map_some, Option.map_none, Option.pure_def, Option.bind_eq_bind, Bool.and_true, Bool.true_and, Bool.and_self, Bool.or_false, Bool.false_or, Bool.and_false, Bool.false_and, Bool.or_true, Bool.true_or, Bool.not_true, Bool.not_false, Bool.not_not, decide_true, decide_false, and_self, and_true, true_and, beq_self_eq_true, beq_true, beq_false, bne_self_eq_false, Int.reduceBNe, Int.reduceBEq, Int.reduceLT, Int.reduceLE, Int.reduceGT, Bool.false_eq_true, Nat.zero_lt_succ, Nat.zero_lt_one, Nat.add_assoc, Nat.left_eq_add, Nat.add_eq_left, k1, k2, k3, k4, k5, k6, k7, k8, k9, k10, hxk, u64V, hd]
          · have hd : ((k : Int) == 20) = false := by simpa using h20
            rw [hB, hI] at h13
            generalize (if 0 ≤ posV (fewO x) (lst ts)[k] then posV (fewO x) (lst ts)[k] else 0) = p at h13 h26
            generalize decide (0 ≤ posV (fewO x) (lst ts)[k]) = q at h13 h26
            simp +contextual -implicitDefEqProofs (maxSteps := 2000000) only [↓wP, wQ, wQ1, wQ2, wQ3, boxE, List.take_length, partsOf, ↓reduceIte, Nat.reduceEqDiff, Nat.reduceAdd, Nat.reduceSub, Nat.reduceLeDiff, Nat.reduceLT, Nat.reduceMul, Nat.zero_add, Nat.add_zero, Nat.mul_zero, Nat.le_refl, Nat.zero_le, Nat.one_ne_zero, Nat.zero_ne_one, reduceCtorEq, List.map_cons, List.map_nil, List.mapM_cons, List.mapM_nil, List.flatMap_cons, List.flatMap_nil, List.append_nil, List.nil_append, List.cons_append, List.drop_zero, List.drop_succ_cons, List.take_zero, List.take_succ_cons, List.take_nil, List.drop_nil, List.length_cons, List.length_nil, List.getElem?_cons_zero, List.getElem?_cons_succ, List.getElem?_nil, List.set_cons_zero, List.set_cons_succ, List.all_cons, List.all_nil, Option.bind_some, Option.bind_none, Option.map_some, Option.map_none, Option.pure_def, Option.bind_eq_bind, Bool.and_true, Bool.true_and, Bool.and_self, Bool.or_false, Bool.false_or, Bool.and_false, Bool.false_and, Bool.or_true, Bool.true_or, Bool.not_true, Bool.not_false, Bool.not_not, decide_true, decide_false, and_self, and_true, true_and, beq_self_eq_true, beq_true, beq_false, bne_self_eq_false, Int.reduceBNe, Int.reduceBEq, Int.reduceLT, Int.reduceLE, Int.reduceGT, Bool.false_eq_true, Nat.zero_lt_succ, Nat.zero_lt_one, Nat.add_assoc, Nat.left_eq_add, Nat.add_eq_left, k1, k2, k3, k4, k5, k6, k7, k8, k9, k10, hxk, u64V, hd, h13, h26]
        · intro env σ n ⟨k3, k4, k5, k6, k7, k8, k9, k10⟩ k1 k2
          simp +contextual -implicitDefEqProofs (maxSteps := 2000000) only [↓wP, wQ, wQ1, wQ2, wQ3, boxE, List.take_length, partsOf, ↓reduceIte, Nat.reduceEqDiff, Nat.reduceAdd, Nat.reduceSub, Nat.reduceLeDiff, Nat.reduceLT, Nat.reduceMul, Nat.zero_add, Nat.add_zero, Nat.mul_zero, Nat.le_refl, Nat.zero_le, Nat.one_ne_zero, Nat.zero_ne_one, reduceCtorEq, List.map_cons, List.map_nil, List.mapM_cons, List.mapM_nil, List.flatMap_cons, List.flatMap_nil, List.append_nil, List.nil_append, List.cons_append, List.drop_zero, List.drop_succ_cons, List.take_zero, List.take_succ_cons, List.take_nil, List.drop_nil, List.length_cons, List.length_nil, List.getElem?_cons_zero, List.getElem?_cons_succ, List.getElem?_nil, List.set_cons_zero, List.set_cons_succ, List.all_cons, List.all_nil, Option.bind_some, Option.bind_none, Option.map_some, Option.map_none, Option.pure_def, Option.bind_eq_bind, Bool.and_true, Bool.true_and, Bool.and_self, Bool.or_false, Bool.false_or, Bool.and_false, Bool.false_and, Bool.or_true, Bool.true_or, Bool.not_true, Bool.not_false, Bool.not_not, decide_true, decide_false, and_self, and_true, true_and, beq_self_eq_true, beq_true, beq_false, bne_self_eq_false, Int.reduceBNe, Int.reduceBEq, Int.reduceLT, Int.reduceLE, Int.reduceGT, Bool.false_eq_true, Nat.zero_lt_succ, Nat.zero_lt_one, Nat.add_assoc, Nat.left_eq_add, Nat.add_eq_left, k3, k4, k5, k9, k10]
        · simp +contextual -implicitDefEqProofs (maxSteps := 2000000) only [↓wP, wQ, wQ1, wQ2, wQ3, boxE, List.take_length, partsOf, ↓reduceIte, Nat.reduceEqDiff, Nat.reduceAdd, Nat.reduceSub, Nat.reduceLeDiff, Nat.reduceLT, Nat.reduceMul, Nat.zero_add, Nat.add_zero, Nat.mul_zero, Nat.le_refl, Nat.zero_le, Nat.one_ne_zero, Nat.zero_ne_one, reduceCtorEq, List.map_cons, List.map_nil, List.mapM_cons, List.mapM_nil, List.flatMap_cons, List.flatMap_nil, List.append_nil, List.nil_append, List.cons_append, List.drop_zero, List.drop_succ_cons, List.take_zero, List.take_succ_cons, List.take_nil, List.drop_nil, List.length_cons, List.length_nil, List.getElem?_cons_zero, List.getElem?_cons_succ, List.getElem?_nil, List.set_cons_zero, List.set_cons_succ, List.all_cons, List.all_nil, Option.bind_some, Option.bind_none, Option.map_some, Option.map_none, Option.pure_def, Option.bind_eq_bind, Bool.and_true, Bool.true_and, Bool.and_self, Bool.or_false, Bool.false_or, Bool.and_false, Bool.false_and, Bool.or_true, Bool.true_or, Bool.not_true, Bool.not_false, Bool.not_not, decide_true, decide_false, and_self, and_true, true_and, beq_self_eq_true, beq_true, beq_false, bne_self_eq_false, Int.reduceBNe, Int.reduceBEq, Int.reduceLT, Int.reduceLE, Int.reduceGT, Bool.false_eq_true, Nat.zero_lt_succ, Nat.zero_lt_one, Nat.add_assoc, Nat.left_eq_add, Nat.add_eq_left, h1, h2, h3, h4, h5]
  · intro env σ n ⟨h3, h4, h5⟩ h1 h2
    simp +contextual -implicitDefEqProofs (maxSteps := 2000000) only [↓wP, wQ, wQ1, wQ2, wQ3, boxE, List.take_length, partsOf, ↓reduceIte, Nat.reduceEqDiff, Nat.reduceAdd, Nat.reduceSub, Nat.reduceLeDiff, Nat.reduceLT, Nat.reduceMul, Nat.zero_add, Nat.add_zero, Nat.mul_zero, Nat.le_refl, Nat.zero_le, Nat.one_ne_zero, Nat.zero_ne_one, reduceCtorEq, List.map_cons, List.map_nil, List.mapM_cons, List.mapM_nil, List.flatMap_cons, List.flatMap_nil, List.append_nil, List.nil_append, List.cons_append, List.drop_zero, List.drop_succ_cons, List.take_zero, List.take_succ_cons, List.take_nil, List.drop_nil, List.length_cons, List.length_nil, List.getElem?_cons_zero, List.getElem?_cons_succ, List.getElem?_nil, List.set_cons_zero, List.set_cons_succ, List.all_cons, List.all_nil, Option.bind_some, Option.bind_none, Option.map_some, Option.map_none, Option.pure_def, Option.bind_eq_bind, Bool.and_true, Bool.true_and, Bool.and_self, Bool.or_false, Bool.false_or, Bool.and_false, Bool.false_and, Bool.or_true, Bool.true_or, Bool.not_true, Bool.not_false, Bool.not_not, decide_true, decide_false, and_self, and_true, true_and, beq_self_eq_true, beq_true, beq_false, bne_self_eq_false, Int.reduceBNe, Int.reduceBEq, Int.reduceLT, Int.reduceLE, Int.reduceGT, Bool.false_eq_true, Nat.zero_lt_succ, Nat.zero_lt_one, Nat.add_assoc, Nat.left_eq_add, Nat.add_eq_left]
  · exact ⟨rfl, rfl, rfl⟩

theorem f7 (l : Option (List (Option (List Ver)))) (ts : Option (List Int)) (hl : (lst l).length < 9223372036854775808) (hs : ∀ x ∈ lst l, Sm x) (ht : (lst ts).length < 9223372036854775808) (fs : Bool) (σ : Sto) (n lk : Nat) : callE T fs 7 [slV 1 (slV 3 verV) l, slV 1 u64V ts] σ n lk = some (.bool true, σ, n) :=
  callE_tr (by decide) (r7 l ts hl hs ht) (by simp [Tr, Tr_slV]) rfl fs σ n lk

end Go.Q.S08
end

section
/- Pruned twice it is pruned at the greater floor. -/
set_option linter.unusedSimpArgs false
set_option linter.unusedVariables false
namespace Go.Q.S08
open Go.Q

theorem chk_filter {d : Int} (p : Ver → Bool) : ∀ {L L' : Int} {l : List Ver}, chk d L l = true → L' ≤ L → chk d L' (l.filter p) = true
  | _, _, [], _, _ => rfl
  | L, L', x :: xs, h, hL => by
    rw [chk, okVer_one] at h
    simp only [Bool.and_eq_true, decide_eq_true_eq, Bool.or_eq_true, Bool.not_eq_true', beq_eq_false_iff_ne] at h
    obtain ⟨⟨⟨h1, h2⟩, h3⟩, h4⟩ := h
    rw [List.filter_cons]
    split
    · rw [chk, okVer_one, h1, chk_filter p h4 (Int.le_refl _)]
      have e1 : decide (L' ≤ x.b) = true := decide_eq_true (by omega)
      rw [e1]
      rcases h3 with h3 | h3
      · simp [h3]
      · rw [List.isEmpty_iff] at h3
        subst h3
        simp
    · have h5 := h1
      simp only [okOne, Bool.and_eq_true, decide_eq_true_eq, Bool.or_eq_true, beq_iff_eq] at h5
      rcases h3 with h3 | h3
      · refine chk_filter p h4 ?_
        have := h5.1.2
        omega
      · rw [List.isEmpty_iff] at h3
        subst h3
        rfl

theorem chk_dim {d : Int} : ∀ {L : Int} {l : List Ver}, chk d L l = true → ∀ x ∈ l, ((lst x.v).length : Int) = d
  | _, [], _, x, hx => by simp at hx
  | L, y :: ys, h, x, hx => by
    rw [chk, okVer_one] at h
    simp only [Bool.and_eq_true, okOne, beq_iff_eq] at h
    rcases List.mem_cons.1 hx with rfl | hx
    · exact h.1.1.1.2.2
    · exact chk_dim h.2 x hx

theorem okC_filter {o : Option (List Ver)} (p : Ver → Bool) (h : okC o = true) : okC (opt ((lst o).filter p)) = true := by
  unfold okC at h ⊢
  rw [Bool.and_eq_true, decide_eq_true_eq] at h
  rw [lst_opt, Bool.and_eq_true, decide_eq_true_eq]
  refine ⟨Nat.le_trans (List.length_filter_le _ _) h.1, ?_⟩
  have h2 := chk_filter p h.2 (Int.le_refl _)
  cases hf : (lst o).filter p with
  | nil => rfl
  | cons y ys =>
    have hy : y ∈ (lst o).filter p := by rw [hf]; simp
    have hd := chk_dim h.2 y (List.mem_filter.1 hy).1
    rw [hf] at h2
    have e : dimOf (y :: ys) = dimOf (lst o) := hd
    rw [e]
    exact h2

theorem sm_filter {o : Option (List Ver)} (p : Ver → Bool) (h : Sm o) : Sm (opt ((lst o).filter p)) := by
  refine ⟨?_, fun x hx => ?_⟩
  · rw [lst_opt]; exact Nat.lt_of_le_of_lt (List.length_filter_le _ _) h.1
  · rw [lst_opt] at hx; exact h.2 x (List.mem_filter.1 hx).1
theorem fit_filter {o : Option (List Ver)} (p : Ver → Bool) (h : FitC o) : FitC (opt ((lst o).filter p)) := by
  refine ⟨?_, fun x hx => ?_⟩
  · rw [lst_opt]; exact Nat.le_trans (Nat.mul_le_mul_right _ (List.length_filter_le _ _)) h.1
  · rw [lst_opt] at hx; exact h.2 x (List.mem_filter.1 hx).1
theorem few_fit (o : Option (List Ver)) : FitC (fewO o) := by
  refine ⟨by have := few_len o; unfold LIM; omega, fun x hx => ?_⟩
  rw [fewO, lst_opt] at hx
  obtain ⟨y, -, rfl⟩ := List.mem_map.1 hx
  simp only [Fit, fewV, lst_some, List.length_take]
  unfold LIM; omega

theorem f27 (o : Option (List Ver)) (fl : Int) (hs : Sm o) (hf : FitC o) (hc : okC o = true) (fs : Bool) (σ : Sto) (n lk : Nat) :
    callE T fs 27 [slV 3 verV o, .int .u64 fl] σ n lk = some (.tup [slV 3 verV (opt ((lst o).filter fun x => !goesP fl x)), slV 3 verV (opt ((lst o).filter (goesP fl))), .int .i64 0], σ, n) := by
  have h := r27 o fl hs hf
  rw [hc] at h
  simp only [if_true] at h
  exact callE_tr (by decide) h (by simp [Tr, Tr_slV]) (by simp [Nw, Nw_slV]) fs σ n lk
theorem f27' (o : Option (List Ver)) (fl : Int) (hs : Sm o) (hf : FitC o) (hc : okC o = false) (fs : Bool) (σ : Sto) (n lk : Nat) :
    callE T fs 27 [slV 3 verV o, .int .u64 fl] σ n lk = some (.tup [.nilS, .nilS, .int .i64 180], σ, n) := by
  have h := r27 o fl hs hf
  rw [hc] at h
  exact callE_tr (by decide) h (by simp [Tr, Tr_slV]) rfl fs σ n lk

theorem r8 (o : Option (List Ver)) (a b : Int) (hs : Sm o) : res T 8 [slV 3 verV o, .agg [.int .u64 a, .int .u64 b]] = some (.bool true) := by
  refine run_res (run_pure (fn := g8) rfl rfl (by decide) ?_)
  simp only [g8, b8]
  have h10 := f10 o hs
  cases hc : okC (fewO o)
  · have h27 := fun fl => f27' (fewO o) fl (few_sm o) (few_fit o) hc
    simp +contextual -implicitDefEqProofs (maxSteps := 2000000) only [↓wP, wQ, wQ1, wQ2, wQ3, boxE, List.take_length, partsOf, ↓reduceIte, Nat.reduceEqDiff, Nat.reduceAdd, Nat.reduceSub, Nat.reduceLeDiff, Nat.reduceLT, Nat.reduceMul, Nat.zero_add, Nat.add_zero, Nat.mul_zero, Nat.le_refl, Nat.zero_le, Nat.one_ne_zero, Nat.zero_ne_one, reduceCtorEq, List.map_cons, List.map_nil, List.mapM_cons, List.mapM_nil, List.flatMap_cons, List.flatMap_nil, List.append_nil, List.nil_append, List.cons_append, List.drop_zero, List.drop_succ_cons, List.take_zero, List.take_succ_cons, List.take_nil, List.drop_nil, List.length_cons, List.length_nil, List.getElem?_cons_zero, List.getElem?_cons_succ, List.getElem?_nil, List.set_cons_zero, List.set_cons_succ, List.all_cons, List.all_nil, Option.bind_some, Option.bind_none, Option.map_some, Option.map_none, Option.pure_def, Option.bind_eq_bind, Bool.and_true, Bool.true_and, Bool.and_self, Bool.or_false, Bool.false_or, Bool.and_false, Bool.false_and, Bool.or_true, Bool.true_or, Bool.not_true, Bool.not_false, Bool.not_not, decide_true, decide_false, and_self, and_true, true_and, beq_self_eq_true, beq_true, beq_false, bne_self_eq_false, Int.reduceBNe, Int.reduceBEq, Int.reduceLT, Int.reduceLE, Int.reduceGT, Bool.false_eq_true, Nat.zero_lt_succ, Nat.zero_lt_one, Nat.add_assoc, Nat.left_eq_add, Nat.add_eq_left, f9, h10, h27]
  · have h27 := fun fl => f27 (fewO o) fl (few_sm o) (few_fit o) hc
    simp +contextual -implicitDefEqProofs (maxSteps := 2000000) only [↓wP, wQ, wQ1, wQ2, wQ3, boxE, List.take_length, partsOf, ↓reduceIte, Nat.reduceEqDiff, Nat.reduceAdd, Nat.reduceSub, Nat.reduceLeDiff, Nat.reduceLT, Nat.reduceMul, Nat.zero_add, Nat.add_zero, Nat.mul_zero, Nat.le_refl, Nat.zero_le, Nat.one_ne_zero, Nat.zero_ne_one, reduceCtorEq, List.map_cons, List.map_nil, List.mapM_cons, List.mapM_nil, List.flatMap_cons, List.flatMap_nil, List.append_nil, List.nil_append, List.cons_append, List.drop_zero, List.drop_succ_cons, List.take_zero, List.take_succ_cons, List.take_nil, List.drop_nil, List.length_cons, List.length_nil, List.getElem?_cons_zero, List.getElem?_cons_succ, List.getElem?_nil, List.set_cons_zero, List.set_cons_succ, List.all_cons, List.all_nil, Option.bind_some, Option.bind_none, Option.map_some, Option.map_none, Option.pure_def, Option.bind_eq_bind, Bool.and_true, Bool.true_and, Bool.and_self, Bool.or_false, Bool.false_or, Bool.and_false, Bool.false_and, Bool.or_true, Bool.true_or, Bool.not_true, Bool.not_false, Bool.not_not, decide_true, decide_false, and_self, and_true, true_and, beq_self_eq_true, beq_true, beq_false, bne_self_eq_false, Int.reduceBNe, Int.reduceBEq, Int.reduceLT, Int.reduceLE, Int.reduceGT, Bool.false_eq_true, Nat.zero_lt_succ, Nat.zero_lt_one, Nat.add_assoc, Nat.left_eq_add, Nat.add_eq_left, f9, h10, h27]
    generalize hlo : (if b < a then b else a) = low
    generalize hhi : (if a < b then b else a) = high
    have hlh : low ≤ high := by subst hlo; subst hhi; split <;> split <;> omega
    have ha := f27 (opt ((lst (fewO o)).filter fun x => !goesP low x)) high (sm_filter _ (few_sm o)) (fit_filter _ (few_fit o)) (okC_filter _ hc)
    have hb := f27 (opt ((lst (fewO o)).filter fun x => !goesP high x)) low (sm_filter _ (few_sm o)) (fit_filter _ (few_fit o)) (okC_filter _ hc)
    have e1 : ((lst (fewO o)).filter fun x => !goesP low x).filter (fun x => !goesP high x) = (lst (fewO o)).filter fun x => !goesP high x := by
      rw [List.filter_filter]
      congr 1
      funext x
      simp only [goesP]
      generalize (x.e != 0) = p
      by_cases h1 : x.e ≤ low
      · have : x.e ≤ high := by omega
        simp [h1, this]
      · cases p <;> simp [h1]
    have e2 : ((lst (fewO o)).filter fun x => !goesP high x).filter (fun x => !goesP low x) = (lst (fewO o)).filter fun x => !goesP high x := by
      rw [List.filter_filter]
      congr 1
      funext x
      simp only [goesP]
      generalize (x.e != 0) = p
      by_cases h1 : x.e ≤ low
      · have : x.e ≤ high := by omega
        simp [h1, this]
      · cases p <;> simp [h1]
    have e3 : ((lst (fewO o)).filter fun x => !goesP high x).filter (goesP low) = [] := by
      rw [List.filter_eq_nil_iff]
      intro x hx
      rw [List.mem_filter] at hx
      simp only [goesP, Bool.not_eq_true', Bool.and_eq_false_iff, decide_eq_false_iff_not] at hx ⊢
      intro h
      simp only [Bool.and_eq_true, decide_eq_true_eq] at h
      rcases hx.2 with h1 | h1
      · rw [h1] at h; simp at h
      · omega
    rw [lst_opt] at ha hb
    rw [e1] at ha
    rw [e2, e3] at hb
    have h24 := f24 (opt ((lst (fewO o)).filter fun x => !goesP high x)) (opt ((lst (fewO o)).filter fun x => !goesP high x)) (sm_filter _ (few_sm o))
    rw [vers_refl] at h24
    have e4 : lenE (slV 3 verV (opt ([] : List Ver))) = some (.int .i64 0) := rfl
    simp +contextual -implicitDefEqProofs (maxSteps := 2000000) only [↓wP, wQ, wQ1, wQ2, wQ3, boxE, List.take_length, partsOf, ↓reduceIte, Nat.reduceEqDiff, Nat.reduceAdd, Nat.reduceSub, Nat.reduceLeDiff, Nat.reduceLT, Nat.reduceMul, Nat.zero_add, Nat.add_zero, Nat.mul_zero, Nat.le_refl, Nat.zero_le, Nat.one_ne_zero, Nat.zero_ne_one, reduceCtorEq, List.map_cons, List.map_nil, List.mapM_cons, List.mapM_nil, List.flatMap_cons, List.flatMap_nil, List.append_nil, List.nil_append, List.cons_append, List.drop_zero, List.drop_succ_cons, List.take_zero, List.take_succ_cons, List.take_nil, List.drop_nil, List.length_cons, List.length_nil, List.getElem?_cons_zero, List.getElem?_cons_succ, List.getElem?_nil, List.set_cons_zero, List.set_cons_succ, List.all_cons, List.all_nil, Option.bind_some, Option.bind_none, Option.map_some, Option.map_none, Option.pure_def, Option.bind_eq_bind, Bool.and_true, Bool.true_and, Bool.and_self, Bool.or_false, Bool.false_or, Bool.and_false, Bool.false_and, Bool.or_true, Bool.true_or, Bool.not_true, Bool.not_false, Bool.not_not, decide_true, decide_false, and_self, and_true, true_and, beq_self_eq_true, beq_true, beq_false, bne_self_eq_false, Int.reduceBNe, Int.reduceBEq, Int.reduceLT, Int.reduceLE, Int.reduceGT, Bool.false_eq_true, Nat.zero_lt_succ, Nat.zero_lt_one, Nat.add_assoc, Nat.left_eq_add, Nat.add_eq_left, ha, hb, h24, e4]

theorem f8 (o : Option (List Ver)) (a b : Int) (hs : Sm o) (fs : Bool) (σ : Sto) (n lk : Nat) : callE T fs 8 [slV 3 verV o, .agg [.int .u64 a, .int .u64 b]] σ n lk = some (.bool true, σ, n) :=
  callE_tr (by decide) (r8 o a b hs) (by simp [Tr, Tr_slV]) rfl fs σ n lk

end Go.Q.S08
end

section
/- The table is the program's. -/
namespace Go.Q.S08
open Go.Proofs
def Has (f : Nat) (fn : Fn) : Prop := ∃ F, Try.prog.funcs[f]? = some F ∧ cFunc Try.prog (ownB T) F = some fn ∧ (F.name == "runtime.NumGoroutine") = false
theorem h3 : Has 3 g3 := ⟨Try.f3, Try.func3, by kernel_rfl, by kernel_rfl⟩
theorem h4 : Has 4 g4 := ⟨Try.f4, Try.func4, by kernel_rfl, by kernel_rfl⟩
theorem h5 : Has 5 g5 := ⟨Try.f5, Try.func5, by kernel_rfl, by kernel_rfl⟩
theorem h6 : Has 6 g6 := ⟨Try.f6, Try.func6, by kernel_rfl, by kernel_rfl⟩
theorem h7 : Has 7 g7 := ⟨Try.f7, Try.func7, by kernel_rfl, by kernel_rfl⟩
theorem h8 : Has 8 g8 := ⟨Try.f8, Try.func8, by kernel_rfl, by kernel_rfl⟩
theorem h9 : Has 9 g9 := ⟨Try.f9, Try.func9, by kernel_rfl, by kernel_rfl⟩
theorem h10 : Has 10 g10 := ⟨Try.f10, Try.func10, by kernel_rfl, by kernel_rfl⟩
theorem h11 : Has 11 g11 := ⟨Try.f11, Try.func11, by kernel_rfl, by kernel_rfl⟩
theorem h12 : Has 12 g12 := ⟨Try.f12, Try.func12, by kernel_rfl, by kernel_rfl⟩
theorem h13 : Has 13 g13 := ⟨Try.f13, Try.func13, by kernel_rfl, by kernel_rfl⟩
theorem h14 : Has 14 g14 := ⟨Try.f14, Try.func14, by kernel_rfl, by kernel_rfl⟩
theorem h15 : Has 15 g15 := ⟨Try.f15, Try.func15, by kernel_rfl, by kernel_rfl⟩
theorem h16 : Has 16 g16 := ⟨Try.f16, Try.func16, by kernel_rfl, by kernel_rfl⟩
theorem h17 : Has 17 g17 := ⟨Try.f17, Try.func17, by kernel_rfl, by kernel_rfl⟩
theorem h18 : Has 18 g18 := ⟨Try.f18, Try.func18, by kernel_rfl, by kernel_rfl⟩
theorem h19 : Has 19 g19 := ⟨Try.f19, Try.func19, by kernel_rfl, by kernel_rfl⟩
theorem h20 : Has 20 g20 := ⟨Try.f20, Try.func20, by kernel_rfl, by kernel_rfl⟩
theorem h21 : Has 21 g21 := ⟨Try.f21, Try.func21, by kernel_rfl, by kernel_rfl⟩
theorem h22 : Has 22 g22 := ⟨Try.f22, Try.func22, by kernel_rfl, by kernel_rfl⟩
theorem h23 : Has 23 g23 := ⟨Try.f23, Try.func23, by kernel_rfl, by kernel_rfl⟩
theorem h24 : Has 24 g24 := ⟨Try.f24, Try.func24, by kernel_rfl, by kernel_rfl⟩
theorem h25 : Has 25 g25 := ⟨Try.f25, Try.func25, by kernel_rfl, by kernel_rfl⟩
theorem h26 : Has 26 g26 := ⟨Try.f26, Try.func26, by kernel_rfl, by kernel_rfl⟩
theorem h27 : Has 27 g27 := ⟨Try.f27, Try.func27, by kernel_rfl, by kernel_rfl⟩
theorem h28 : Has 28 g28 := ⟨Try.f28, Try.func28, by kernel_rfl, by kernel_rfl⟩
theorem h29 : Has 29 g29 := ⟨Try.f29, Try.func29, by kernel_rfl, by kernel_rfl⟩
theorem h30 : Has 30 g30 := ⟨Try.f30, Try.func30, by kernel_rfl, by kernel_rfl⟩
theorem h31 : Has 31 g31 := ⟨Try.f31, Try.func31, by kernel_rfl, by kernel_rfl⟩
theorem h32 : Has 32 g32 := ⟨Try.f32, Try.func32, by kernel_rfl, by kernel_rfl⟩
theorem h33 : Has 33 g33 := ⟨Try.f33, Try.func33, by kernel_rfl, by kernel_rfl⟩
theorem h34 : Has 34 g34 := ⟨Try.f34, Try.func34, by kernel_rfl, by kernel_rfl⟩
theorem h35 : Has 35 g35 := ⟨Try.f35, Try.func35, by kernel_rfl, by kernel_rfl⟩
theorem h36 : Has 36 g36 := ⟨Try.f36, Try.func36, by kernel_rfl, by kernel_rfl⟩
theorem h37 : Has 37 g37 := ⟨Try.f37, Try.func37, by kernel_rfl, by kernel_rfl⟩
theorem h38 : Has 38 g38 := ⟨Try.f38, Try.func38, by kernel_rfl, by kernel_rfl⟩
theorem h39 : Has 39 g39 := ⟨Try.f39, Try.func39, by kernel_rfl, by kernel_rfl⟩
theorem h40 : Has 40 g40 := ⟨Try.f40, Try.func40, by kernel_rfl, by kernel_rfl⟩
theorem h41 : Has 41 g41 := ⟨Try.f41, Try.func41, by kernel_rfl, by kernel_rfl⟩
theorem h42 : Has 42 g42 := ⟨Try.f42, Try.func42, by kernel_rfl, by kernel_rfl⟩
theorem h43 : Has 43 g43 := ⟨Try.f43, Try.func43, by kernel_rfl, by kernel_rfl⟩
theorem h44 : Has 44 g44 := ⟨Try.f44, Try.func44, by kernel_rfl, by kernel_rfl⟩
theorem h45 : Has 45 g45 := ⟨Try.f45, Try.func45, by kernel_rfl, by kernel_rfl⟩
theorem h46 : Has 46 g46 := ⟨Try.f46, Try.func46, by kernel_rfl, by kernel_rfl⟩
theorem h47 : Has 47 g47 := ⟨Try.f47, Try.func47, by kernel_rfl, by kernel_rfl⟩
theorem h48 : Has 48 g48 := ⟨Try.f48, Try.func48, by kernel_rfl, by kernel_rfl⟩
theorem h49 : Has 49 g49 := ⟨Try.f49, Try.func49, by kernel_rfl, by kernel_rfl⟩
theorem h50 : Has 50 g50 := ⟨Try.f50, Try.func50, by kernel_rfl, by kernel_rfl⟩
theorem h51 : Has 51 g51 := ⟨Try.f51, Try.func51, by kernel_rfl, by kernel_rfl⟩
theorem h52 : Has 52 g52 := ⟨Try.f52, Try.func52, by kernel_rfl, by kernel_rfl⟩
theorem h53 : Has 53 g53 := ⟨Try.f53, Try.func53, by kernel_rfl, by kernel_rfl⟩
theorem h54 : Has 54 g54 := ⟨Try.f54, Try.func54, by kernel_rfl, by kernel_rfl⟩
theorem h55 : Has 55 g55 := ⟨Try.f55, Try.func55, by kernel_rfl, by kernel_rfl⟩
theorem h56 : Has 56 g56 := ⟨Try.f56, Try.func56, by kernel_rfl, by kernel_rfl⟩
theorem h57 : Has 57 g57 := ⟨Try.f57, Try.func57, by kernel_rfl, by kernel_rfl⟩
theorem h58 : Has 58 g58 := ⟨Try.f58, Try.func58, by kernel_rfl, by kernel_rfl⟩
theorem h59 : Has 59 g59 := ⟨Try.f59, Try.func59, by kernel_rfl, by kernel_rfl⟩
theorem h60 : Has 60 g60 := ⟨Try.f60, Try.func60, by kernel_rfl, by kernel_rfl⟩
theorem tabOf : TabOf Try.prog T := by
  intro f fn h
  simp only [T] at h
  unfold fnOf at h
  split at h
  all_goals first | (cases h; done) | skip
  all_goals (simp only [Option.some.injEq] at h; subst h)
  · exact h3
  · exact h4
  · exact h5
  · exact h6
  · exact h7
  · exact h8
  · exact h9
  · exact h10
  · exact h11
  · exact h12
  · exact h13
  · exact h14
  · exact h15
  · exact h16
  · exact h17
  · exact h18
  · exact h19
  · exact h20
  · exact h21
  · exact h22
  · exact h23
  · exact h24
  · exact h25
  · exact h26
  · exact h27
  · exact h28
  · exact h29
  · exact h30
  · exact h31
  · exact h32
  · exact h33
  · exact h34
  · exact h35
  · exact h36
  · exact h37
  · exact h38
  · exact h39
  · exact h40
  · exact h41
  · exact h42
  · exact h43
  · exact h44
  · exact h45
  · exact h46
  · exact h47
  · exact h48
  · exact h49
  · exact h50
  · exact h51
  · exact h52
  · exact h53
  · exact h54
  · exact h55
  · exact h56
  · exact h57
  · exact h58
  · exact h59
  · exact h60
theorem mixed : Try.prog.follows .mixedOrders = true := by kernel_rfl
end Go.Q.S08
end
