/- At each time one version is visible at most. -/
import Derived.Test.YtaigdfomoplchaaS08B
import Derived.Test.YtaigdfomoplchaaS08Wakes
set_option linter.unusedSimpArgs false
set_option linter.unusedVariables false
namespace Go.Q.S08
open Go.Q

theorem chk_le {d : Int} : ∀ {last : Int} {l : List Ver}, chk d last l = true → ∀ y ∈ l, last ≤ y.b
  | _, [], _, y, hy => by simp at hy
  | last, x :: xs, h, y, hy => by
    simp only [chk, okVer, Bool.and_eq_true, decide_eq_true_eq, Bool.or_eq_true, beq_iff_eq, Bool.not_eq_true', beq_eq_false_iff_ne] at h
    rcases List.mem_cons.1 hy with rfl | hy
    · exact h.1.1.1.1.1.1.2
    · have h1 := chk_le h.2 y hy
      have h2 := h.1.1.1.2
      have h3 := h.1.2
      have h4 := h.1.1.1.1.1.1.2
      cases xs with
      | nil => simp at hy
      | cons z zs =>
        simp only [List.isEmpty_cons, Bool.false_eq_true, or_false] at h3
        omega

theorem chk_uniq {d t : Int} : ∀ {last : Int} {l : List Ver}, chk d last l = true → ∀ (a b : Nat) (x y : Ver), a < b → l[a]? = some x → l[b]? = some y → vis x t = true → vis y t = true → False
  | _, [], _, a, b, x, y, _, ha, _, _, _ => by simp at ha
  | last, z :: zs, h, a, b, x, y, hab, ha, hb, hx, hy => by
    cases b with
    | zero => omega
    | succ b =>
      simp only [List.getElem?_cons_succ] at hb
      have hc : chk d z.e zs = true := by simp only [chk, Bool.and_eq_true] at h; exact h.2
      cases a with
      | succ a => exact chk_uniq hc a b x y (by omega) (by simpa using ha) hb hx hy
      | zero =>
        simp only [List.getElem?_cons_zero, Option.some.injEq] at ha
        subst ha
        have h1 := chk_le hc y (List.mem_of_getElem? hb)
        have hne : zs.isEmpty = false := by cases zs <;> simp at hb ⊢
        simp only [chk, okVer, hne, Bool.and_eq_true, decide_eq_true_eq, Bool.or_eq_true, beq_iff_eq, Bool.not_eq_true', beq_eq_false_iff_ne, Bool.false_eq_true, or_false] at h
        simp only [vis, Bool.and_eq_true, decide_eq_true_eq, Bool.or_eq_true, beq_iff_eq] at hx hy
        have h3 := h.1.2
        omega

/-- In a chain that may be: what is visible is where it is found. -/
theorem vis_pos {o : Option (List Ver)} {t : Int} (h : okC o = true) {k : Nat} {x : Ver} (hk : (lst o)[k]? = some x) (hv : vis x t = true) : posV o t = (k : Int) := by
  unfold okC at h
  rw [Bool.and_eq_true] at h
  unfold posV idxF
  cases hf : (lst o).findIdx? (fun x => vis x t) with
  | none =>
    rw [List.findIdx?_eq_none_iff] at hf
    have := hf x (List.mem_of_getElem? hk)
    rw [this] at hv; cases hv
  | some i =>
    rw [List.findIdx?_eq_some_iff_getElem] at hf
    obtain ⟨hi, hp, hmin⟩ := hf
    have e1 : (lst o)[i]? = some (lst o)[i] := List.getElem?_eq_getElem hi
    rcases Nat.lt_trichotomy i k with hik | hik | hik
    · exact (chk_uniq h.2 i k _ _ hik e1 hk hp hv).elim
    · simp [hik]
    · exact (chk_uniq h.2 k i _ _ hik hk e1 hv hp).elim

theorem pos_lt (o : Option (List Ver)) (t : Int) : posV o t < ((lst o).length : Int) := by
  unfold posV idxF
  cases hf : (lst o).findIdx? (fun x => vis x t) with
  | none => simp only; omega
  | some i =>
    rw [List.findIdx?_eq_some_iff_getElem] at hf
    obtain ⟨hi, -⟩ := hf
    simp only; omega

theorem pos_ge (o : Option (List Ver)) (t : Int) : -1 ≤ posV o t := by
  unfold posV idxF
  split <;> omega

theorem pos_vis {o : Option (List Ver)} {t : Int} {k : Nat} {x : Ver} (hk : (lst o)[k]? = some x) (hp : posV o t = (k : Int)) : vis x t = true := by
  unfold posV idxF at hp
  cases hf : (lst o).findIdx? (fun x => vis x t) with
  | none => rw [hf] at hp; simp only at hp; omega
  | some i =>
    rw [hf] at hp
    rw [List.findIdx?_eq_some_iff_getElem] at hf
    obtain ⟨hi, hv, -⟩ := hf
    simp only [Int.ofNat_inj] at hp
    subst hp
    rw [List.getElem?_eq_getElem hi] at hk
    cases hk
    exact hv

theorem few_len (o : Option (List Ver)) : (lst (fewO o)).length ≤ 97 := by rw [fewO, lst_opt]; simp; omega
theorem few_sm (o : Option (List Ver)) : Sm (fewO o) := by
  refine ⟨by have := few_len o; omega, fun x hx => ?_⟩
  rw [fewO, lst_opt] at hx
  obtain ⟨y, -, rfl⟩ := List.mem_map.1 hx
  simp only [fewV, lst_some, List.length_take]
  omega

/-- How many are visible among the first ones. -/
def cnt (o : Option (List Ver)) (t : Int) (k : Nat) : Int := if 0 ≤ posV o t ∧ posV o t < (k : Int) then 1 else 0

theorem cnt_end {o : Option (List Ver)} {t : Int} (h : okC o = true) : (decide (1 < cnt o t (lst o).length) || ((cnt o t (lst o).length == 1) == atB o t) != true) = false := by
  have := pos_lt o t
  unfold cnt atB
  by_cases h0 : 0 ≤ posV o t
  · rw [if_pos ⟨h0, this⟩]; simp [h0, h]
  · rw [if_neg (fun hh => h0 hh.1)]; simp [h0]

theorem r3 (o : Option (List Ver)) (l : Option (List Int)) (hs : Sm o) (hl : (lst l).length * 8 ≤ 140737488351232) : res T 3 [slV 3 verV o, slV 1 u64V l] = some (.bool true) := by
  refine run_res (run_pure (fn := g3) rfl rfl (by decide) ?_)
  simp only [g3, b3]
  have h10 := f10 o hs
  have h11 := f11 (fewO o) (few_sm o)
  have h12 := f12 (fewO o) (few_len o)
  simp +contextual -implicitDefEqProofs (maxSteps := 2000000) only [↓wP, wQ, boxE, spliceC, List.take_length, partsOf, ↓reduceIte, Nat.reduceEqDiff, Nat.reduceAdd, Nat.reduceSub, Nat.reduceLeDiff, Nat.reduceMul, Nat.zero_add, Nat.add_zero, Nat.mul_zero, Nat.le_refl, Nat.zero_le, Nat.one_ne_zero, Nat.zero_ne_one, reduceCtorEq, List.map_cons, List.map_nil, List.mapM_cons, List.mapM_nil, List.flatMap_cons, List.flatMap_nil, List.append_nil, List.nil_append, List.cons_append, List.drop_zero, List.drop_succ_cons, List.take_zero, List.take_succ_cons, List.take_nil, List.drop_nil, List.length_cons, List.length_nil, List.getElem?_cons_zero, List.getElem?_cons_succ, List.getElem?_nil, List.set_cons_zero, List.set_cons_succ, List.all_cons, List.all_nil, Option.bind_some, Option.bind_none, Option.map_some, Option.map_none, Option.pure_def, Option.bind_eq_bind, Bool.and_true, Bool.true_and, Bool.and_self, Bool.or_false, Bool.false_or, Bool.and_false, Bool.false_and, Bool.or_true, Bool.true_or, Bool.not_true, Bool.not_false, Bool.not_not, decide_true, decide_false, and_self, and_true, true_and, beq_self_eq_true, beq_true, beq_false, bne_self_eq_false, Int.reduceBNe, Int.reduceBEq, Int.reduceLT, Int.reduceLE, Int.reduceGT, Bool.false_eq_true, Nat.zero_lt_succ, Nat.zero_lt_one, Nat.add_assoc, Nat.left_eq_add, Nat.add_eq_left, f9, h10, h11]
  cases hc : okC (fewO o)
  · simp +contextual -implicitDefEqProofs (maxSteps := 2000000) only [↓wP, wQ, boxE, spliceC, List.take_length, partsOf, ↓reduceIte, Nat.reduceEqDiff, Nat.reduceAdd, Nat.reduceSub, Nat.reduceLeDiff, Nat.reduceMul, Nat.zero_add, Nat.add_zero, Nat.mul_zero, Nat.le_refl, Nat.zero_le, Nat.one_ne_zero, Nat.zero_ne_one, reduceCtorEq, List.map_cons, List.map_nil, List.mapM_cons, List.mapM_nil, List.flatMap_cons, List.flatMap_nil, List.append_nil, List.nil_append, List.cons_append, List.drop_zero, List.drop_succ_cons, List.take_zero, List.take_succ_cons, List.take_nil, List.drop_nil, List.length_cons, List.length_nil, List.getElem?_cons_zero, List.getElem?_cons_succ, List.getElem?_nil, List.set_cons_zero, List.set_cons_succ, List.all_cons, List.all_nil, Option.bind_some, Option.bind_none, Option.map_some, Option.map_none, Option.pure_def, Option.bind_eq_bind, Bool.and_true, Bool.true_and, Bool.and_self, Bool.or_false, Bool.false_or, Bool.and_false, Bool.false_and, Bool.or_true, Bool.true_or, Bool.not_true, Bool.not_false, Bool.not_not, decide_true, decide_false, and_self, and_true, true_and, beq_self_eq_true, beq_true, beq_false, bne_self_eq_false, Int.reduceBNe, Int.reduceBEq, Int.reduceLT, Int.reduceLE, Int.reduceGT, Bool.false_eq_true, Nat.zero_lt_succ, Nat.zero_lt_one, Nat.add_assoc, Nat.left_eq_add, Nat.add_eq_left]
  · have hlen := timL_len (lst (fewO o))
    have hfl := few_len o
    have hlim : (((timL (lst (fewO o))).map u64V).length + ((lst l).map u64V).length) * 8 ≤ LIM := by unfold LIM; simp; omega
    simp +contextual -implicitDefEqProofs (maxSteps := 2000000) only [↓wP, wQ, boxE, spliceC, List.take_length, partsOf, ↓reduceIte, Nat.reduceEqDiff, Nat.reduceAdd, Nat.reduceSub, Nat.reduceLeDiff, Nat.reduceMul, Nat.zero_add, Nat.add_zero, Nat.mul_zero, Nat.le_refl, Nat.zero_le, Nat.one_ne_zero, Nat.zero_ne_one, reduceCtorEq, List.map_cons, List.map_nil, List.mapM_cons, List.mapM_nil, List.flatMap_cons, List.flatMap_nil, List.append_nil, List.nil_append, List.cons_append, List.drop_zero, List.drop_succ_cons, List.take_zero, List.take_succ_cons, List.take_nil, List.drop_nil, List.length_cons, List.length_nil, List.getElem?_cons_zero, List.getElem?_cons_succ, List.getElem?_nil, List.set_cons_zero, List.set_cons_succ, List.all_cons, List.all_nil, Option.bind_some, Option.bind_none, Option.map_some, Option.map_none, Option.pure_def, Option.bind_eq_bind, Bool.and_true, Bool.true_and, Bool.and_self, Bool.or_false, Bool.false_or, Bool.and_false, Bool.false_and, Bool.or_true, Bool.true_or, Bool.not_true, Bool.not_false, Bool.not_not, decide_true, decide_false, and_self, and_true, true_and, beq_self_eq_true, beq_true, beq_false, bne_self_eq_false, Int.reduceBNe, Int.reduceBEq, Int.reduceLT, Int.reduceLE, Int.reduceGT, Bool.false_eq_true, Nat.zero_lt_succ, Nat.zero_lt_one, Nat.add_assoc, Nat.left_eq_add, Nat.add_eq_left, h12, hlim]
    generalize hA : (timL (lst (fewO o))).map u64V = A at hlim ⊢
    generalize hB : (lst l).map u64V = B at hlim ⊢
    have hR : ∀ j, j < A.length + B.length → ∃ t, (A ++ B)[j]? = some (V.int .u64 t) := by
      intro j hj
      have : A ++ B = (timL (lst (fewO o)) ++ lst l).map u64V := by rw [List.map_append, hA, hB]
      have hj' : j < ((timL (lst (fewO o)) ++ lst l).map u64V).length := by rw [← this, List.length_append]; exact hj
      exact ⟨_, by rw [this, List.getElem?_eq_getElem hj', List.getElem_map]; rfl⟩
    refine WC_for (A.length + B.length) 0 (fun (j : Nat) env σ n => env 5 = slV 3 verV (fewO o) ∧ ∃ i, env 23 = .ref i 0 (A.length + B.length) 1 ∧ σ i = some (.row 1 (A ++ B)) ∧ i < n)
      (by unfold LIM at hlim; omega) (by decide) (by decide) (fun _ _ => rfl) (fun _ _ _ => rfl) ?_ ?_ _ _ _ rfl rfl ?_
    · intro j env σ n hj h1 h2 ⟨h3, i, h4, h5, h6⟩
      simp only [vl_tmp] at h2
      obtain ⟨t, hx⟩ := hR j hj
      have h13 := f13 (fewO o) t (few_sm o)
      by_cases h400 : (j : Int) = 400
      · have hd : ((j : Int) == 400) = true := by simpa using h400
        simp +contextual -implicitDefEqProofs (maxSteps := 2000000) only [↓wP, wQ, boxE, spliceC, List.take_length, partsOf, ↓reduceIte, Nat.reduceEqDiff, Nat.reduceAdd, Nat.reduceSub, Nat.reduceLeDiff, Nat.reduceMul, Nat.zero_add, Nat.add_zero, Nat.mul_zero, Nat.le_refl, Nat.zero_le, Nat.one_ne_zero, Nat.zero_ne_one, reduceCtorEq, List.map_cons, List.map_nil, List.mapM_cons, List.mapM_nil, List.flatMap_cons, List.flatMap_nil, List.append_nil, List.nil_append, List.cons_append, List.drop_zero, List.drop_succ_cons, List.take_zero, List.take_succ_cons, List.take_nil, List.drop_nil, List.length_cons, List.length_nil, List.getElem?_cons_zero, List.getElem?_cons_succ, List.getElem?_nil, List.set_cons_zero, List.set_cons_succ, List.all_cons, List.all_nil, Option.bind_some, Option.bind_none, Option.map_some, Option.map_none, Option.pure_def, Option.bind_eq_bind, Bool.and_true, Bool.true_and, Bool.and_self, Bool.or_false, Bool.false_or, Bool.and_false, Bool.false_and, Bool.or_true, Bool.true_or, Bool.not_true, Bool.not_false, Bool.not_not, decide_true, decide_false, and_self, and_true, true_and, beq_self_eq_true, beq_true, beq_false, bne_self_eq_false, Int.reduceBNe, Int.reduceBEq, Int.reduceLT, Int.reduceLE, Int.reduceGT, Bool.false_eq_true, Nat.zero_lt_succ, Nat.zero_lt_one, Nat.add_assoc, Nat.left_eq_add, Nat.add_eq_left, h1, h2, h3, h4, h5, hx, hj, hd]
      · have hd : ((j : Int) == 400) = false := by simpa using h400
        simp +contextual -implicitDefEqProofs (maxSteps := 2000000) only [↓wP, wQ, boxE, spliceC, List.take_length, partsOf, ↓reduceIte, Nat.reduceEqDiff, Nat.reduceAdd, Nat.reduceSub, Nat.reduceLeDiff, Nat.reduceMul, Nat.zero_add, Nat.add_zero, Nat.mul_zero, Nat.le_refl, Nat.zero_le, Nat.one_ne_zero, Nat.zero_ne_one, reduceCtorEq, List.map_cons, List.map_nil, List.mapM_cons, List.mapM_nil, List.flatMap_cons, List.flatMap_nil, List.append_nil, List.nil_append, List.cons_append, List.drop_zero, List.drop_succ_cons, List.take_zero, List.take_succ_cons, List.take_nil, List.drop_nil, List.length_cons, List.length_nil, List.getElem?_cons_zero, List.getElem?_cons_succ, List.getElem?_nil, List.set_cons_zero, List.set_cons_succ, List.all_cons, List.all_nil, Option.bind_some, Option.bind_none, Option.map_some, Option.map_none, Option.pure_def, Option.bind_eq_bind, Bool.and_true, Bool.true_and, Bool.and_self, Bool.or_false, Bool.false_or, Bool.and_false, Bool.false_and, Bool.or_true, Bool.true_or, Bool.not_true, Bool.not_false, Bool.not_not, decide_true, decide_false, and_self, and_true, true_and, beq_self_eq_true, beq_true, beq_false, bne_self_eq_false, Int.reduceBNe, Int.reduceBEq, Int.reduceLT, Int.reduceLE, Int.reduceGT, Bool.false_eq_true, Nat.zero_lt_succ, Nat.zero_lt_one, Nat.add_assoc, Nat.left_eq_add, Nat.add_eq_left, h1, h2, h3, h4, h5, hx, hj, hd, h13]
        refine WC_for (lst (fewO o)).length 0 (fun (k : Nat) env σ n => env 5 = slV 3 verV (fewO o) ∧ env 23 = .ref i 0 (A.length + B.length) 1 ∧ env 24 = .int .i64 ((A.length + B.length : Nat) : Int) ∧
              env 25 = .int .i64 (j : Int) ∧ σ i = some (.row 1 (A ++ B)) ∧ i < n ∧ env 38 = slV 3 verV (fewO o) ∧ env 7 = .int .u64 t ∧
              env 9 = .int .i64 (atI (fewO o) t) ∧ env 10 = .bool (atB (fewO o) t) ∧ env 8 = .int .i64 (cnt (fewO o) t k))
            (by omega) (by decide) (by decide) (fun _ _ => rfl) (fun _ _ _ => rfl) ?_ ?_ _ _ _ rfl rfl ?_
        · clear h1 h2 h3 h4 h5 h6
          intro k env σ n hk k1 k2 ⟨k3, k4, k5, k6, k7, k8, k9, k10, k11, k12, k13⟩
          simp only [vl_tmp] at k2
          have hxk : (lst (fewO o))[k]? = some (lst (fewO o))[k] := List.getElem?_eq_getElem hk
          have hvis : (decide ((lst (fewO o))[k].b ≤ t) && ((lst (fewO o))[k].e == 0 || decide (t < (lst (fewO o))[k].e))) = vis (lst (fewO o))[k] t := rfl
          have hin : (i = n) = False := by simp; omega
          simp +contextual -implicitDefEqProofs (maxSteps := 2000000) only [↓wP, wQ, boxE, spliceC, List.take_length, partsOf, ↓reduceIte, Nat.reduceEqDiff, Nat.reduceAdd, Nat.reduceSub, Nat.reduceLeDiff, Nat.reduceMul, Nat.zero_add, Nat.add_zero, Nat.mul_zero, Nat.le_refl, Nat.zero_le, Nat.one_ne_zero, Nat.zero_ne_one, reduceCtorEq, List.map_cons, List.map_nil, List.mapM_cons, List.mapM_nil, List.flatMap_cons, List.flatMap_nil, List.append_nil, List.nil_append, List.cons_append, List.drop_zero, List.drop_succ_cons, List.take_zero, List.take_succ_cons, List.take_nil, List.drop_nil, List.length_cons, List.length_nil, List.getElem?_cons_zero, List.getElem?_cons_succ, List.getElem?_nil, List.set_cons_zero, List.set_cons_succ, List.all_cons, List.all_nil, Option.bind_some, Option.bind_none, Option.map_some, Option.map_none, Option.pure_def, Option.bind_eq_bind, Bool.and_true, Bool.true_and, Bool.and_self, Bool.or_false, Bool.false_or, Bool.and_false, Bool.false_and, Bool.or_true, Bool.true_or, Bool.not_true, Bool.not_false, Bool.not_not, decide_true, decide_false, and_self, and_true, true_and, beq_self_eq_true, beq_true, beq_false, bne_self_eq_false, Int.reduceBNe, Int.reduceBEq, Int.reduceLT, Int.reduceLE, Int.reduceGT, Bool.false_eq_true, Nat.zero_lt_succ, Nat.zero_lt_one, Nat.add_assoc, Nat.left_eq_add, Nat.add_eq_left, k1, k2, k3, k4, k5, k6, k7, k8, k9, k10, k11, k12, k13, hxk, verV, hvis]
          refine condC_split (fun hv => ?_) (fun hv => ?_)
          · have hp := vis_pos hc hxk hv
            have c0 : cnt (fewO o) t k = 0 := by unfold cnt; rw [hp]; simp
            have c1 : cnt (fewO o) t (k + 1) = 1 := by unfold cnt; rw [hp]; simp; omega
            have hB : atB (fewO o) t = true := by unfold atB; rw [hp, hc]; simp
            have hI : ((k : Int) != atI (fewO o) t) = false := by unfold atI; rw [hB, if_pos rfl, hp]; simp
            have hw : IntKind.i64.wrap (0 + 1) = 1 := by decide
            simp +contextual -implicitDefEqProofs (maxSteps := 2000000) only [↓wP, wQ, boxE, spliceC, List.take_length, partsOf, ↓reduceIte, Nat.reduceEqDiff, Nat.reduceAdd, Nat.reduceSub, Nat.reduceLeDiff, Nat.reduceMul, Nat.zero_add, Nat.add_zero, Nat.mul_zero, Nat.le_refl, Nat.zero_le, Nat.one_ne_zero, Nat.zero_ne_one, reduceCtorEq, List.map_cons, List.map_nil, List.mapM_cons, List.mapM_nil, List.flatMap_cons, List.flatMap_nil, List.append_nil, List.nil_append, List.cons_append, List.drop_zero, List.drop_succ_cons, List.take_zero, List.take_succ_cons, List.take_nil, List.drop_nil, List.length_cons, List.length_nil, List.getElem?_cons_zero, List.getElem?_cons_succ, List.getElem?_nil, List.set_cons_zero, List.set_cons_succ, List.all_cons, List.all_nil, Option.bind_some, Option.bind_none, Option.map_some, Option.map_none, Option.pure_def, Option.bind_eq_bind, Bool.and_true, Bool.true_and, Bool.and_self, Bool.or_false, Bool.false_or, Bool.and_false, Bool.false_and, Bool.or_true, Bool.true_or, Bool.not_true, Bool.not_false, Bool.not_not, decide_true, decide_false, and_self, and_true, true_and, beq_self_eq_true, beq_true, beq_false, bne_self_eq_false, Int.reduceBNe, Int.reduceBEq, Int.reduceLT, Int.reduceLE, Int.reduceGT, Bool.false_eq_true, Nat.zero_lt_succ, Nat.zero_lt_one, Nat.add_assoc, Nat.left_eq_add, Nat.add_eq_left, k1, k2, k3, k4, k5, k6, k7, k8, k9, k10, k11, k12, k13, c0, c1, hI, hw, hin]
            omega
          · have c1 : cnt (fewO o) t (k + 1) = cnt (fewO o) t k := by
              unfold cnt
              have : posV (fewO o) t ≠ (k : Int) := fun hp => by rw [pos_vis hxk hp] at hv; cases hv
              split <;> split <;> omega
            simp +contextual -implicitDefEqProofs (maxSteps := 2000000) only [↓wP, wQ, boxE, spliceC, List.take_length, partsOf, ↓reduceIte, Nat.reduceEqDiff, Nat.reduceAdd, Nat.reduceSub, Nat.reduceLeDiff, Nat.reduceMul, Nat.zero_add, Nat.add_zero, Nat.mul_zero, Nat.le_refl, Nat.zero_le, Nat.one_ne_zero, Nat.zero_ne_one, reduceCtorEq, List.map_cons, List.map_nil, List.mapM_cons, List.mapM_nil, List.flatMap_cons, List.flatMap_nil, List.append_nil, List.nil_append, List.cons_append, List.drop_zero, List.drop_succ_cons, List.take_zero, List.take_succ_cons, List.take_nil, List.drop_nil, List.length_cons, List.length_nil, List.getElem?_cons_zero, List.getElem?_cons_succ, List.getElem?_nil, List.set_cons_zero, List.set_cons_succ, List.all_cons, List.all_nil, Option.bind_some, Option.bind_none, Option.map_some, Option.map_none, Option.pure_def, Option.bind_eq_bind, Bool.and_true, Bool.true_and, Bool.and_self, Bool.or_false, Bool.false_or, Bool.and_false, Bool.false_and, Bool.or_true, Bool.true_or, Bool.not_true, Bool.not_false, Bool.not_not, decide_true, decide_false, and_self, and_true, true_and, beq_self_eq_true, beq_true, beq_false, bne_self_eq_false, Int.reduceBNe, Int.reduceBEq, Int.reduceLT, Int.reduceLE, Int.reduceGT, Bool.false_eq_true, Nat.zero_lt_succ, Nat.zero_lt_one, Nat.add_assoc, Nat.left_eq_add, Nat.add_eq_left, k1, k2, k3, k4, k5, k6, k7, k8, k9, k10, k11, k12, k13, c1, hin]
            omega
        · clear h1 h2 h3 h4 h5 h6
          intro env σ n ⟨k3, k4, k5, k6, k7, k8, k9, k10, k11, k12, k13⟩ k1 k2
          have hend := cnt_end (t := t) hc
          simp +contextual -implicitDefEqProofs (maxSteps := 2000000) only [↓wP, wQ, boxE, spliceC, List.take_length, partsOf, ↓reduceIte, Nat.reduceEqDiff, Nat.reduceAdd, Nat.reduceSub, Nat.reduceLeDiff, Nat.reduceMul, Nat.zero_add, Nat.add_zero, Nat.mul_zero, Nat.le_refl, Nat.zero_le, Nat.one_ne_zero, Nat.zero_ne_one, reduceCtorEq, List.map_cons, List.map_nil, List.mapM_cons, List.mapM_nil, List.flatMap_cons, List.flatMap_nil, List.append_nil, List.nil_append, List.cons_append, List.drop_zero, List.drop_succ_cons, List.take_zero, List.take_succ_cons, List.take_nil, List.drop_nil, List.length_cons, List.length_nil, List.getElem?_cons_zero, List.getElem?_cons_succ, List.getElem?_nil, List.set_cons_zero, List.set_cons_succ, List.all_cons, List.all_nil, Option.bind_some, Option.bind_none, Option.map_some, Option.map_none, Option.pure_def, Option.bind_eq_bind, Bool.and_true, Bool.true_and, Bool.and_self, Bool.or_false, Bool.false_or, Bool.and_false, Bool.false_and, Bool.or_true, Bool.true_or, Bool.not_true, Bool.not_false, Bool.not_not, decide_true, decide_false, and_self, and_true, true_and, beq_self_eq_true, beq_true, beq_false, bne_self_eq_false, Int.reduceBNe, Int.reduceBEq, Int.reduceLT, Int.reduceLE, Int.reduceGT, Bool.false_eq_true, Nat.zero_lt_succ, Nat.zero_lt_one, Nat.add_assoc, Nat.left_eq_add, Nat.add_eq_left, k1, k2, k3, k4, k5, k6, k7, k8, k9, k10, k11, k12, k13, hend]
          exact ⟨i, rfl, k7, k8⟩
        · have c0 : cnt (fewO o) t 0 = 0 := by unfold cnt; rw [if_neg]; omega
          simp +contextual -implicitDefEqProofs (maxSteps := 2000000) only [↓wP, wQ, boxE, spliceC, List.take_length, partsOf, ↓reduceIte, Nat.reduceEqDiff, Nat.reduceAdd, Nat.reduceSub, Nat.reduceLeDiff, Nat.reduceMul, Nat.zero_add, Nat.add_zero, Nat.mul_zero, Nat.le_refl, Nat.zero_le, Nat.one_ne_zero, Nat.zero_ne_one, reduceCtorEq, List.map_cons, List.map_nil, List.mapM_cons, List.mapM_nil, List.flatMap_cons, List.flatMap_nil, List.append_nil, List.nil_append, List.cons_append, List.drop_zero, List.drop_succ_cons, List.take_zero, List.take_succ_cons, List.take_nil, List.drop_nil, List.length_cons, List.length_nil, List.getElem?_cons_zero, List.getElem?_cons_succ, List.getElem?_nil, List.set_cons_zero, List.set_cons_succ, List.all_cons, List.all_nil, Option.bind_some, Option.bind_none, Option.map_some, Option.map_none, Option.pure_def, Option.bind_eq_bind, Bool.and_true, Bool.true_and, Bool.and_self, Bool.or_false, Bool.false_or, Bool.and_false, Bool.false_and, Bool.or_true, Bool.true_or, Bool.not_true, Bool.not_false, Bool.not_not, decide_true, decide_false, and_self, and_true, true_and, beq_self_eq_true, beq_true, beq_false, bne_self_eq_false, Int.reduceBNe, Int.reduceBEq, Int.reduceLT, Int.reduceLE, Int.reduceGT, Bool.false_eq_true, Nat.zero_lt_succ, Nat.zero_lt_one, Nat.add_assoc, Nat.left_eq_add, Nat.add_eq_left, h1, h2, h3, h4, h5, h6, c0]
    · intro env σ n ⟨h3, i, h4, h5, h6⟩ h1 h2
      simp +contextual -implicitDefEqProofs (maxSteps := 2000000) only [↓wP, wQ, boxE, spliceC, List.take_length, partsOf, ↓reduceIte, Nat.reduceEqDiff, Nat.reduceAdd, Nat.reduceSub, Nat.reduceLeDiff, Nat.reduceMul, Nat.zero_add, Nat.add_zero, Nat.mul_zero, Nat.le_refl, Nat.zero_le, Nat.one_ne_zero, Nat.zero_ne_one, reduceCtorEq, List.map_cons, List.map_nil, List.mapM_cons, List.mapM_nil, List.flatMap_cons, List.flatMap_nil, List.append_nil, List.nil_append, List.cons_append, List.drop_zero, List.drop_succ_cons, List.take_zero, List.take_succ_cons, List.take_nil, List.drop_nil, List.length_cons, List.length_nil, List.getElem?_cons_zero, List.getElem?_cons_succ, List.getElem?_nil, List.set_cons_zero, List.set_cons_succ, List.all_cons, List.all_nil, Option.bind_some, Option.bind_none, Option.map_some, Option.map_none, Option.pure_def, Option.bind_eq_bind, Bool.and_true, Bool.true_and, Bool.and_self, Bool.or_false, Bool.false_or, Bool.and_false, Bool.false_and, Bool.or_true, Bool.true_or, Bool.not_true, Bool.not_false, Bool.not_not, decide_true, decide_false, and_self, and_true, true_and, beq_self_eq_true, beq_true, beq_false, bne_self_eq_false, Int.reduceBNe, Int.reduceBEq, Int.reduceLT, Int.reduceLE, Int.reduceGT, Bool.false_eq_true, Nat.zero_lt_succ, Nat.zero_lt_one, Nat.add_assoc, Nat.left_eq_add, Nat.add_eq_left]
    · simp +contextual -implicitDefEqProofs (maxSteps := 2000000) only [↓wP, wQ, boxE, spliceC, List.take_length, partsOf, ↓reduceIte, Nat.reduceEqDiff, Nat.reduceAdd, Nat.reduceSub, Nat.reduceLeDiff, Nat.reduceMul, Nat.zero_add, Nat.add_zero, Nat.mul_zero, Nat.le_refl, Nat.zero_le, Nat.one_ne_zero, Nat.zero_ne_one, reduceCtorEq, List.map_cons, List.map_nil, List.mapM_cons, List.mapM_nil, List.flatMap_cons, List.flatMap_nil, List.append_nil, List.nil_append, List.cons_append, List.drop_zero, List.drop_succ_cons, List.take_zero, List.take_succ_cons, List.take_nil, List.drop_nil, List.length_cons, List.length_nil, List.getElem?_cons_zero, List.getElem?_cons_succ, List.getElem?_nil, List.set_cons_zero, List.set_cons_succ, List.all_cons, List.all_nil, Option.bind_some, Option.bind_none, Option.map_some, Option.map_none, Option.pure_def, Option.bind_eq_bind, Bool.and_true, Bool.true_and, Bool.and_self, Bool.or_false, Bool.false_or, Bool.and_false, Bool.false_and, Bool.or_true, Bool.true_or, Bool.not_true, Bool.not_false, Bool.not_not, decide_true, decide_false, and_self, and_true, true_and, beq_self_eq_true, beq_true, beq_false, bne_self_eq_false, Int.reduceBNe, Int.reduceBEq, Int.reduceLT, Int.reduceLE, Int.reduceGT, Bool.false_eq_true, Nat.zero_lt_succ, Nat.zero_lt_one, Nat.add_assoc, Nat.left_eq_add, Nat.add_eq_left]
      exact ⟨1, rfl, by simp [upd], by omega⟩

theorem f3 (o : Option (List Ver)) (l : Option (List Int)) (hs : Sm o) (hl : (lst l).length * 8 ≤ 140737488351232) (fs : Bool) (σ : Sto) (n lk : Nat) : callE T fs 3 [slV 3 verV o, slV 1 u64V l] σ n lk = some (.bool true, σ, n) :=
  callE_tr (by decide) (r3 o l hs hl) (by simp [Tr, Tr_slV]) rfl fs σ n lk

end Go.Q.S08
