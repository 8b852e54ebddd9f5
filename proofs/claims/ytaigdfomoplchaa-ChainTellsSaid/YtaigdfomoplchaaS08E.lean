/- The document's word on which chains may be. -/
import Derived.Test.YtaigdfomoplchaaS08D
import Derived.Test.YtaigdfomoplchaaS08C
set_option linter.unusedSimpArgs false
set_option linter.unusedVariables false
namespace Go.Q.S08
open Go.Q

/-- One version by itself. -/
def okOne (d : Int) (x : Ver) : Bool := decide (0 < x.b) && decide (x.b ≤ 1099511627776) && decide (x.e ≤ 1099511627776) && (x.e == 0 || decide (x.b < x.e)) && (okV x.v && ((lst x.v).length : Int) == d)
theorem okVer_one (d L : Int) (fin : Bool) (x : Ver) : okVer d L fin x = (okOne d x && decide (L ≤ x.b) && (!x.e == 0 || fin)) := by
  simp only [okVer, okOne]
  generalize decide (0 < x.b) = p1
  generalize decide (L ≤ x.b) = p2
  cases p1 <;> cases p2 <;> simp

theorem r23 (o : Option (List Ver)) (hs : Sm o) : res T 23 [slV 3 verV o] = some (.bool (okC o)) := by
  refine run_res (run_pure (fn := g23) rfl rfl (by decide) ?_)
  simp only [g23, b23]
  simp +contextual -implicitDefEqProofs (maxSteps := 2000000) only [↓wP, wQ, boxE, spliceC, List.take_length, partsOf, ↓reduceIte, Nat.reduceEqDiff, Nat.reduceAdd, Nat.reduceSub, Nat.reduceLeDiff, Nat.reduceMul, Nat.zero_add, Nat.add_zero, Nat.mul_zero, Nat.le_refl, Nat.zero_le, Nat.one_ne_zero, Nat.zero_ne_one, reduceCtorEq, List.map_cons, List.map_nil, List.mapM_cons, List.mapM_nil, List.flatMap_cons, List.flatMap_nil, List.append_nil, List.nil_append, List.cons_append, List.drop_zero, List.drop_succ_cons, List.take_zero, List.take_succ_cons, List.take_nil, List.drop_nil, List.length_cons, List.length_nil, List.getElem?_cons_zero, List.getElem?_cons_succ, List.getElem?_nil, List.set_cons_zero, List.set_cons_succ, List.all_cons, List.all_nil, Option.bind_some, Option.bind_none, Option.map_some, Option.map_none, Option.pure_def, Option.bind_eq_bind, Bool.and_true, Bool.true_and, Bool.and_self, Bool.or_false, Bool.false_or, Bool.and_false, Bool.false_and, Bool.or_true, Bool.true_or, Bool.not_true, Bool.not_false, Bool.not_not, decide_true, decide_false, and_self, and_true, true_and, beq_self_eq_true, beq_true, beq_false, bne_self_eq_false, Int.reduceBNe, Int.reduceBEq, Int.reduceLT, Int.reduceLE, Int.reduceGT, Bool.false_eq_true, Nat.zero_lt_succ, Nat.zero_lt_one, Nat.add_assoc, Nat.left_eq_add, Nat.add_eq_left]
  by_cases h96 : (lst o).length ≤ 96
  · have hd : decide ((96 : Int) < ((lst o).length : Int)) = false := by simp; omega
    simp +contextual -implicitDefEqProofs (maxSteps := 2000000) only [↓wP, wQ, boxE, spliceC, List.take_length, partsOf, ↓reduceIte, Nat.reduceEqDiff, Nat.reduceAdd, Nat.reduceSub, Nat.reduceLeDiff, Nat.reduceMul, Nat.zero_add, Nat.add_zero, Nat.mul_zero, Nat.le_refl, Nat.zero_le, Nat.one_ne_zero, Nat.zero_ne_one, reduceCtorEq, List.map_cons, List.map_nil, List.mapM_cons, List.mapM_nil, List.flatMap_cons, List.flatMap_nil, List.append_nil, List.nil_append, List.cons_append, List.drop_zero, List.drop_succ_cons, List.take_zero, List.take_succ_cons, List.take_nil, List.drop_nil, List.length_cons, List.length_nil, List.getElem?_cons_zero, List.getElem?_cons_succ, List.getElem?_nil, List.set_cons_zero, List.set_cons_succ, List.all_cons, List.all_nil, Option.bind_some, Option.bind_none, Option.map_some, Option.map_none, Option.pure_def, Option.bind_eq_bind, Bool.and_true, Bool.true_and, Bool.and_self, Bool.or_false, Bool.false_or, Bool.and_false, Bool.false_and, Bool.or_true, Bool.true_or, Bool.not_true, Bool.not_false, Bool.not_not, decide_true, decide_false, and_self, and_true, true_and, beq_self_eq_true, beq_true, beq_false, bne_self_eq_false, Int.reduceBNe, Int.reduceBEq, Int.reduceLT, Int.reduceLE, Int.reduceGT, Bool.false_eq_true, Nat.zero_lt_succ, Nat.zero_lt_one, Nat.add_assoc, Nat.left_eq_add, Nat.add_eq_left, hd]
    refine WC_for (lst o).length 0 (fun (j : Nat) env _ _ => env 0 = slV 3 verV o ∧ env 8 = slV 3 verV o ∧ ∃ L, okC o = chk (dimOf (lst o)) L ((lst o).drop j) ∧ ∀ x, (lst o)[j]? = some x → 0 < x.b → L ≤ x.b)
      (by omega) (by decide) (by decide) (fun _ _ => rfl) (fun _ _ _ => rfl) ?_ ?_ _ _ _ rfl rfl ?_
    · intro j env σ n hj h1 h2 ⟨h3, h4, L, h5, h6⟩
      simp only [vl_tmp] at h2
      have hx : (lst o)[j]? = some (lst o)[j] := List.getElem?_eq_getElem hj
      have hx0 : (lst o)[0]? = some (lst o)[0] := List.getElem?_eq_getElem (by omega)
      have hdim : dimOf (lst o) = ((lst (lst o)[0].v).length : Int) := dimOf_eq (by omega)
      have h40 := f40 (lst o)[j].v (hs.2 _ (List.getElem_mem hj))
      have h7 := h6 _ hx
      rw [List.drop_eq_getElem_cons hj, chk, okVer_one] at h5
      simp +contextual -implicitDefEqProofs (maxSteps := 2000000) only [↓wP, wQ, boxE, spliceC, List.take_length, partsOf, ↓reduceIte, Nat.reduceEqDiff, Nat.reduceAdd, Nat.reduceSub, Nat.reduceLeDiff, Nat.reduceMul, Nat.zero_add, Nat.add_zero, Nat.mul_zero, Nat.le_refl, Nat.zero_le, Nat.one_ne_zero, Nat.zero_ne_one, reduceCtorEq, List.map_cons, List.map_nil, List.mapM_cons, List.mapM_nil, List.flatMap_cons, List.flatMap_nil, List.append_nil, List.nil_append, List.cons_append, List.drop_zero, List.drop_succ_cons, List.take_zero, List.take_succ_cons, List.take_nil, List.drop_nil, List.length_cons, List.length_nil, List.getElem?_cons_zero, List.getElem?_cons_succ, List.getElem?_nil, List.set_cons_zero, List.set_cons_succ, List.all_cons, List.all_nil, Option.bind_some, Option.bind_none, Option.map_some, Option.map_none, Option.pure_def, Option.bind_eq_bind, Bool.and_true, Bool.true_and, Bool.and_self, Bool.or_false, Bool.false_or, Bool.and_false, Bool.false_and, Bool.or_true, Bool.true_or, Bool.not_true, Bool.not_false, Bool.not_not, decide_true, decide_false, and_self, and_true, true_and, beq_self_eq_true, beq_true, beq_false, bne_self_eq_false, Int.reduceBNe, Int.reduceBEq, Int.reduceLT, Int.reduceLE, Int.reduceGT, Bool.false_eq_true, Nat.zero_lt_succ, Nat.zero_lt_one, Nat.add_assoc, Nat.left_eq_add, Nat.add_eq_left, h1, h2, h3, h4, hx, hx0, verV, h40]
      refine condC_split (fun hb => ?_) (fun hb => ?_)
      · have e1 : okOne (dimOf (lst o)) (lst o)[j] = false := by
          rw [hdim]
          simp only [Bool.or_eq_true, decide_eq_true_eq, Bool.and_eq_true, bne_iff_ne, Bool.not_eq_true', ne_eq] at hb
          simp only [okOne, Bool.and_eq_false_iff, decide_eq_false_iff_not, Bool.or_eq_false_iff, beq_eq_false_iff_ne, ne_eq]
          rcases hb with ((((hb | hb) | hb) | ⟨hb, hb'⟩) | hb) | hb
          · exact .inl (.inl (.inl (.inl (by omega))))
          · exact .inl (.inl (.inl (.inr (by omega))))
          · exact .inl (.inl (.inr (by omega)))
          · exact .inl (.inr ⟨hb, by omega⟩)
          · exact .inr (.inl hb)
          · exact .inr (.inr hb)
        rw [e1, Bool.false_and, Bool.false_and, Bool.false_and] at h5
        simp +contextual -implicitDefEqProofs (maxSteps := 2000000) only [↓wP, wQ, boxE, spliceC, List.take_length, partsOf, ↓reduceIte, Nat.reduceEqDiff, Nat.reduceAdd, Nat.reduceSub, Nat.reduceLeDiff, Nat.reduceMul, Nat.zero_add, Nat.add_zero, Nat.mul_zero, Nat.le_refl, Nat.zero_le, Nat.one_ne_zero, Nat.zero_ne_one, reduceCtorEq, List.map_cons, List.map_nil, List.mapM_cons, List.mapM_nil, List.flatMap_cons, List.flatMap_nil, List.append_nil, List.nil_append, List.cons_append, List.drop_zero, List.drop_succ_cons, List.take_zero, List.take_succ_cons, List.take_nil, List.drop_nil, List.length_cons, List.length_nil, List.getElem?_cons_zero, List.getElem?_cons_succ, List.getElem?_nil, List.set_cons_zero, List.set_cons_succ, List.all_cons, List.all_nil, Option.bind_some, Option.bind_none, Option.map_some, Option.map_none, Option.pure_def, Option.bind_eq_bind, Bool.and_true, Bool.true_and, Bool.and_self, Bool.or_false, Bool.false_or, Bool.and_false, Bool.false_and, Bool.or_true, Bool.true_or, Bool.not_true, Bool.not_false, Bool.not_not, decide_true, decide_false, and_self, and_true, true_and, beq_self_eq_true, beq_true, beq_false, bne_self_eq_false, Int.reduceBNe, Int.reduceBEq, Int.reduceLT, Int.reduceLE, Int.reduceGT, Bool.false_eq_true, Nat.zero_lt_succ, Nat.zero_lt_one, Nat.add_assoc, Nat.left_eq_add, Nat.add_eq_left, h5]
      · have e1 : okOne (dimOf (lst o)) (lst o)[j] = true ∧ 0 < (lst o)[j].b := by
          rw [hdim]
          simp only [Bool.or_eq_false_iff, decide_eq_false_iff_not, Bool.and_eq_false_iff, bne_eq_false_iff_eq, Bool.not_eq_false', Int.not_lt, Int.not_le] at hb
          simp only [okOne, Bool.and_eq_true, decide_eq_true_eq, Bool.or_eq_true, beq_iff_eq]
          obtain ⟨⟨⟨⟨⟨b1, b2⟩, b3⟩, b4⟩, b5⟩, b6⟩ := hb
          exact ⟨⟨⟨⟨⟨by omega, by omega⟩, by omega⟩, b4⟩, b5, b6⟩, by omega⟩
        have e2 : decide (L ≤ (lst o)[j].b) = true := decide_eq_true (h7 e1.2)
        rw [e1.1, e2, Bool.true_and, Bool.true_and] at h5
        have hw : IntKind.i64.wrap (((lst o).length : Int) - 1) = ((lst o).length : Int) - 1 := by rw [wrap_i64] <;> omega
        by_cases hj1 : j + 1 < (lst o).length
        · have hg : decide ((j : Int) < ((lst o).length : Int) - 1) = true := decide_eq_true (by omega)
          have hw1 : IntKind.i64.wrap ((j : Int) + 1) = ((j + 1 : Nat) : Int) := by rw [wrap_i64] <;> omega
          have hx1 : (lst o)[j + 1]? = some (lst o)[j + 1] := List.getElem?_eq_getElem hj1
          have hne : ((lst o).drop (j + 1)).isEmpty = false := by rw [List.drop_eq_getElem_cons hj1]; rfl
          rw [hne, Bool.or_false] at h5
          simp +contextual -implicitDefEqProofs (maxSteps := 2000000) only [↓wP, wQ, boxE, spliceC, List.take_length, partsOf, ↓reduceIte, Nat.reduceEqDiff, Nat.reduceAdd, Nat.reduceSub, Nat.reduceLeDiff, Nat.reduceMul, Nat.zero_add, Nat.add_zero, Nat.mul_zero, Nat.le_refl, Nat.zero_le, Nat.one_ne_zero, Nat.zero_ne_one, reduceCtorEq, List.map_cons, List.map_nil, List.mapM_cons, List.mapM_nil, List.flatMap_cons, List.flatMap_nil, List.append_nil, List.nil_append, List.cons_append, List.drop_zero, List.drop_succ_cons, List.take_zero, List.take_succ_cons, List.take_nil, List.drop_nil, List.length_cons, List.length_nil, List.getElem?_cons_zero, List.getElem?_cons_succ, List.getElem?_nil, List.set_cons_zero, List.set_cons_succ, List.all_cons, List.all_nil, Option.bind_some, Option.bind_none, Option.map_some, Option.map_none, Option.pure_def, Option.bind_eq_bind, Bool.and_true, Bool.true_and, Bool.and_self, Bool.or_false, Bool.false_or, Bool.and_false, Bool.false_and, Bool.or_true, Bool.true_or, Bool.not_true, Bool.not_false, Bool.not_not, decide_true, decide_false, and_self, and_true, true_and, beq_self_eq_true, beq_true, beq_false, bne_self_eq_false, Int.reduceBNe, Int.reduceBEq, Int.reduceLT, Int.reduceLE, Int.reduceGT, Bool.false_eq_true, Nat.zero_lt_succ, Nat.zero_lt_one, Nat.add_assoc, Nat.left_eq_add, Nat.add_eq_left, h1, h2, h3, h4, hx, verV, hw, hg, hw1, hx1]
          refine condC_split (fun hb => ?_) (fun hb => ?_)
          · have e3 : okC o = false := by
              rw [h5, List.drop_eq_getElem_cons hj1, chk, okVer_one]
              simp only [Bool.or_eq_true, beq_iff_eq, decide_eq_true_eq] at hb
              rcases hb with hb | hb
              · simp [hb]
              · have : decide ((lst o)[j].e ≤ (lst o)[j + 1].b) = false := decide_eq_false (by omega)
                simp [this]
            simp +contextual -implicitDefEqProofs (maxSteps := 2000000) only [↓wP, wQ, boxE, spliceC, List.take_length, partsOf, ↓reduceIte, Nat.reduceEqDiff, Nat.reduceAdd, Nat.reduceSub, Nat.reduceLeDiff, Nat.reduceMul, Nat.zero_add, Nat.add_zero, Nat.mul_zero, Nat.le_refl, Nat.zero_le, Nat.one_ne_zero, Nat.zero_ne_one, reduceCtorEq, List.map_cons, List.map_nil, List.mapM_cons, List.mapM_nil, List.flatMap_cons, List.flatMap_nil, List.append_nil, List.nil_append, List.cons_append, List.drop_zero, List.drop_succ_cons, List.take_zero, List.take_succ_cons, List.take_nil, List.drop_nil, List.length_cons, List.length_nil, List.getElem?_cons_zero, List.getElem?_cons_succ, List.getElem?_nil, List.set_cons_zero, List.set_cons_succ, List.all_cons, List.all_nil, Option.bind_some, Option.bind_none, Option.map_some, Option.map_none, Option.pure_def, Option.bind_eq_bind, Bool.and_true, Bool.true_and, Bool.and_self, Bool.or_false, Bool.false_or, Bool.and_false, Bool.false_and, Bool.or_true, Bool.true_or, Bool.not_true, Bool.not_false, Bool.not_not, decide_true, decide_false, and_self, and_true, true_and, beq_self_eq_true, beq_true, beq_false, bne_self_eq_false, Int.reduceBNe, Int.reduceBEq, Int.reduceLT, Int.reduceLE, Int.reduceGT, Bool.false_eq_true, Nat.zero_lt_succ, Nat.zero_lt_one, Nat.add_assoc, Nat.left_eq_add, Nat.add_eq_left, e3]
          · simp only [Bool.or_eq_false_iff, beq_eq_false_iff_ne, decide_eq_false_iff_not, Int.not_lt] at hb
            have e3 : okC o = chk (dimOf (lst o)) (lst o)[j].e ((lst o).drop (j + 1)) := by
              rw [h5]; simp [hb.1]
            simp +contextual -implicitDefEqProofs (maxSteps := 2000000) only [↓wP, wQ, boxE, spliceC, List.take_length, partsOf, ↓reduceIte, Nat.reduceEqDiff, Nat.reduceAdd, Nat.reduceSub, Nat.reduceLeDiff, Nat.reduceMul, Nat.zero_add, Nat.add_zero, Nat.mul_zero, Nat.le_refl, Nat.zero_le, Nat.one_ne_zero, Nat.zero_ne_one, reduceCtorEq, List.map_cons, List.map_nil, List.mapM_cons, List.mapM_nil, List.flatMap_cons, List.flatMap_nil, List.append_nil, List.nil_append, List.cons_append, List.drop_zero, List.drop_succ_cons, List.take_zero, List.take_succ_cons, List.take_nil, List.drop_nil, List.length_cons, List.length_nil, List.getElem?_cons_zero, List.getElem?_cons_succ, List.getElem?_nil, List.set_cons_zero, List.set_cons_succ, List.all_cons, List.all_nil, Option.bind_some, Option.bind_none, Option.map_some, Option.map_none, Option.pure_def, Option.bind_eq_bind, Bool.and_true, Bool.true_and, Bool.and_self, Bool.or_false, Bool.false_or, Bool.and_false, Bool.false_and, Bool.or_true, Bool.true_or, Bool.not_true, Bool.not_false, Bool.not_not, decide_true, decide_false, and_self, and_true, true_and, beq_self_eq_true, beq_true, beq_false, bne_self_eq_false, Int.reduceBNe, Int.reduceBEq, Int.reduceLT, Int.reduceLE, Int.reduceGT, Bool.false_eq_true, Nat.zero_lt_succ, Nat.zero_lt_one, Nat.add_assoc, Nat.left_eq_add, Nat.add_eq_left, h1, h2, h3, h4]
            refine ⟨_, e3, fun x hx' _ => ?_⟩
            cases hx'
            exact hb.2
        · have hg : decide ((j : Int) < ((lst o).length : Int) - 1) = false := decide_eq_false (by omega)
          have he : (lst o).drop (j + 1) = [] := by rw [List.drop_eq_nil_iff]; omega
          rw [he] at h5
          simp +contextual -implicitDefEqProofs (maxSteps := 2000000) only [↓wP, wQ, boxE, spliceC, List.take_length, partsOf, ↓reduceIte, Nat.reduceEqDiff, Nat.reduceAdd, Nat.reduceSub, Nat.reduceLeDiff, Nat.reduceMul, Nat.zero_add, Nat.add_zero, Nat.mul_zero, Nat.le_refl, Nat.zero_le, Nat.one_ne_zero, Nat.zero_ne_one, reduceCtorEq, List.map_cons, List.map_nil, List.mapM_cons, List.mapM_nil, List.flatMap_cons, List.flatMap_nil, List.append_nil, List.nil_append, List.cons_append, List.drop_zero, List.drop_succ_cons, List.take_zero, List.take_succ_cons, List.take_nil, List.drop_nil, List.length_cons, List.length_nil, List.getElem?_cons_zero, List.getElem?_cons_succ, List.getElem?_nil, List.set_cons_zero, List.set_cons_succ, List.all_cons, List.all_nil, Option.bind_some, Option.bind_none, Option.map_some, Option.map_none, Option.pure_def, Option.bind_eq_bind, Bool.and_true, Bool.true_and, Bool.and_self, Bool.or_false, Bool.false_or, Bool.and_false, Bool.false_and, Bool.or_true, Bool.true_or, Bool.not_true, Bool.not_false, Bool.not_not, decide_true, decide_false, and_self, and_true, true_and, beq_self_eq_true, beq_true, beq_false, bne_self_eq_false, Int.reduceBNe, Int.reduceBEq, Int.reduceLT, Int.reduceLE, Int.reduceGT, Bool.false_eq_true, Nat.zero_lt_succ, Nat.zero_lt_one, Nat.add_assoc, Nat.left_eq_add, Nat.add_eq_left, h1, h2, h3, h4, hx, verV, hw, hg]
          refine ⟨(lst o)[j].e, ?_, fun x hx' _ => ?_⟩
          · rw [h5, he]; simp
          · rw [List.getElem?_eq_none (by omega)] at hx'; cases hx'
    · intro env σ n ⟨h3, h4, L, h5, h6⟩ h1 h2
      rw [List.drop_length] at h5
      have : okC o = true := h5
      simp +contextual -implicitDefEqProofs (maxSteps := 2000000) only [↓wP, wQ, boxE, spliceC, List.take_length, partsOf, ↓reduceIte, Nat.reduceEqDiff, Nat.reduceAdd, Nat.reduceSub, Nat.reduceLeDiff, Nat.reduceMul, Nat.zero_add, Nat.add_zero, Nat.mul_zero, Nat.le_refl, Nat.zero_le, Nat.one_ne_zero, Nat.zero_ne_one, reduceCtorEq, List.map_cons, List.map_nil, List.mapM_cons, List.mapM_nil, List.flatMap_cons, List.flatMap_nil, List.append_nil, List.nil_append, List.cons_append, List.drop_zero, List.drop_succ_cons, List.take_zero, List.take_succ_cons, List.take_nil, List.drop_nil, List.length_cons, List.length_nil, List.getElem?_cons_zero, List.getElem?_cons_succ, List.getElem?_nil, List.set_cons_zero, List.set_cons_succ, List.all_cons, List.all_nil, Option.bind_some, Option.bind_none, Option.map_some, Option.map_none, Option.pure_def, Option.bind_eq_bind, Bool.and_true, Bool.true_and, Bool.and_self, Bool.or_false, Bool.false_or, Bool.and_false, Bool.false_and, Bool.or_true, Bool.true_or, Bool.not_true, Bool.not_false, Bool.not_not, decide_true, decide_false, and_self, and_true, true_and, beq_self_eq_true, beq_true, beq_false, bne_self_eq_false, Int.reduceBNe, Int.reduceBEq, Int.reduceLT, Int.reduceLE, Int.reduceGT, Bool.false_eq_true, Nat.zero_lt_succ, Nat.zero_lt_one, Nat.add_assoc, Nat.left_eq_add, Nat.add_eq_left, this]
    · refine ⟨rfl, rfl, 0, ?_, fun x _ h => by omega⟩
      simp [okC, h96]
  · have hd : decide ((96 : Int) < ((lst o).length : Int)) = true := by simp; omega
    have hc : okC o = false := by simp [okC, h96]
    simp +contextual -implicitDefEqProofs (maxSteps := 2000000) only [↓wP, wQ, boxE, spliceC, List.take_length, partsOf, ↓reduceIte, Nat.reduceEqDiff, Nat.reduceAdd, Nat.reduceSub, Nat.reduceLeDiff, Nat.reduceMul, Nat.zero_add, Nat.add_zero, Nat.mul_zero, Nat.le_refl, Nat.zero_le, Nat.one_ne_zero, Nat.zero_ne_one, reduceCtorEq, List.map_cons, List.map_nil, List.mapM_cons, List.mapM_nil, List.flatMap_cons, List.flatMap_nil, List.append_nil, List.nil_append, List.cons_append, List.drop_zero, List.drop_succ_cons, List.take_zero, List.take_succ_cons, List.take_nil, List.drop_nil, List.length_cons, List.length_nil, List.getElem?_cons_zero, List.getElem?_cons_succ, List.getElem?_nil, List.set_cons_zero, List.set_cons_succ, List.all_cons, List.all_nil, Option.bind_some, Option.bind_none, Option.map_some, Option.map_none, Option.pure_def, Option.bind_eq_bind, Bool.and_true, Bool.true_and, Bool.and_self, Bool.or_false, Bool.false_or, Bool.and_false, Bool.false_and, Bool.or_true, Bool.true_or, Bool.not_true, Bool.not_false, Bool.not_not, decide_true, decide_false, and_self, and_true, true_and, beq_self_eq_true, beq_true, beq_false, bne_self_eq_false, Int.reduceBNe, Int.reduceBEq, Int.reduceLT, Int.reduceLE, Int.reduceGT, Bool.false_eq_true, Nat.zero_lt_succ, Nat.zero_lt_one, Nat.add_assoc, Nat.left_eq_add, Nat.add_eq_left, hd, hc]

theorem f23 (o : Option (List Ver)) (hs : Sm o) (fs : Bool) (σ : Sto) (n lk : Nat) : callE T fs 23 [slV 3 verV o] σ n lk = some (.bool (okC o), σ, n) :=
  callE_tr (by decide) (r23 o hs) (by simp [Tr, Tr_slV]) rfl fs σ n lk

end Go.Q.S08
