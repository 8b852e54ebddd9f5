/- The document's word on which chains may be. -/
import Derived.Test.YtaigdfomoplchaaSB
section
set_option linter.unusedSimpArgs false
set_option linter.unusedVariables false
namespace Go.Q.S3
open Go.Q

/-- One version by itself. -/
def okOne (d : Int) (x : Ver) : Bool := decide (0 < x.b) && decide (x.b ≤ 1099511627776) && decide (x.e ≤ 1099511627776) && (x.e == 0 || decide (x.b < x.e)) && (okV x.v && ((lst x.v).length : Int) == d)
theorem okVer_one (d L : Int) (fin : Bool) (x : Ver) : okVer d L fin x = (okOne d x && decide (L ≤ x.b) && (!x.e == 0 || fin)) := by
  simp only [okVer, okOne]
  generalize decide (0 < x.b) = p1
  generalize decide (L ≤ x.b) = p2
  cases p1 <;> cases p2 <;> simp

theorem r23 (o : Option (List Ver)) (hs : Sm o) : res T 23 [slV 3 verV o] = some (.bool (okC o)) := by
  refine run_res (run_pure (fn := g23) rfl rfl (by decide) ?_)
  simp only [g23, b23]
  simp +contextual -implicitDefEqProofs (maxSteps := 2000000) only [↓wP, wQ, wQ1, wQ2, wQ3, boxE, List.take_length, partsOf, ↓reduceIte, Nat.reduceEqDiff, Nat.reduceAdd, Nat.reduceSub, Nat.reduceLeDiff, Nat.reduceLT, Nat.reduceMul, Nat.zero_add, Nat.add_zero, Nat.mul_zero, Nat.le_refl, Nat.zero_le, Nat.one_ne_zero, Nat.zero_ne_one, reduceCtorEq, List.map_cons, List.map_nil, List.mapM_cons, List.mapM_nil, List.flatMap_cons, List.flatMap_nil, List.append_nil, List.nil_append, List.cons_append, List.drop_zero, List.drop_succ_cons, List.take_zero, List.take_succ_cons, List.take_nil, List.drop_nil, List.length_cons, List.length_nil, List.getElem?_cons_zero, List.getElem?_cons_succ, List.getElem?_nil, List.set_cons_zero, List.set_cons_succ, List.all_cons, List.all_nil, Option.bind_some, Option.bind_none, Option.map_some, Option.map_none, Option.pure_def, Option.bind_eq_bind, Bool.and_true, Bool.true_and, Bool.and_self, Bool.or_false, Bool.false_or, Bool.and_false, Bool.false_and, Bool.or_true, Bool.true_or, Bool.not_true, Bool.not_false, Bool.not_not, decide_true, decide_false, and_self, and_true, true_and, beq_self_eq_true, beq_true, beq_false, bne_self_eq_false, Int.reduceBNe, Int.reduceBEq, Int.reduceLT, Int.reduceLE, Int.reduceGT, Bool.false_eq_true, Nat.zero_lt_succ, Nat.zero_lt_one, Nat.add_assoc, Nat.left_eq_add, Nat.add_eq_left]
  by_cases h96 : (lst o).length ≤ 96
  · have hd : decide ((96 : Int) < ((lst o).length : Int)) = false := by simp; omega
    simp +contextual -implicitDefEqProofs (maxSteps := 2000000) only [↓wP, wQ, wQ1, wQ2, wQ3, boxE, List.take_length, partsOf, ↓reduceIte, Nat.reduceEqDiff, Nat.reduceAdd, Nat.reduceSub, Nat.reduceLeDiff, Nat.reduceLT, Nat.reduceMul, Nat.zero_add, Nat.add_zero, Nat.mul_zero, Nat.le_refl, Nat.zero_le, Nat.one_ne_zero, Nat.zero_ne_one, reduceCtorEq, List.map_cons, List.map_nil, List.mapM_cons, List.mapM_nil, List.flatMap_cons, List.flatMap_nil, List.append_nil, List.nil_append, List.cons_append, List.drop_zero, List.drop_succ_cons, List.take_zero, List.take_succ_cons, List.take_nil, List.drop_nil, List.length_cons, List.length_nil, List.getElem?_cons_zero, List.getElem?_cons_succ, List.getElem?_nil, List.set_cons_zero, List.set_cons_succ, List.all_cons, List.all_nil, Option.bind_some, Option.bind_none, Option.map_some, Option.map_none, Option.pure_def, Option.bind_eq_bind, Bool.and_true, Bool.true_and, Bool.and_self, Bool.or_false, Bool.false_or, Bool.and_false, Bool.false_and, Bool.or_true, Bool.true_or, Bool.not_true, Bool.not_false, Bool.not_not, decide_true, decide_false, and_self, and_true, true_and, beq_self_eq_true, beq_true, beq_false, bne_self_eq_false, Int.reduceBNe, Int.reduceBEq, Int.reduceLT, Int.reduceLE, Int.reduceGT, Bool.false_eq_true, Nat.zero_lt_succ, Nat.zero_lt_one, Nat.add_assoc, Nat.left_eq_add, Nat.add_eq_left, hd]
    refine WC_for (lst o).length 0 (fun (j : Nat) env _ _ => env 0 = slV 3 verV o ∧ env 8 = slV 3 verV o ∧ ∃ L, okC o = chk (dimOf (lst o)) L ((lst o).drop j) ∧ ∀ x, (lst o)[j]? = some x → 0 < x.b → L ≤ x.b)
      (by omega) (by decide) (by decide) (fun _ _ => rfl) (fun _ _ _ => rfl) ?_ ?_ _ _ _ rfl rfl ?_
    · intro j env σ n hj h1 h2 ⟨h3, h4, L, h5, h6⟩
      simp only [vl_tmp] at h2
      have hx : (lst o)[j]? = some (lst o)[j] := List.getElem?_eq_getElem hj
      have hx0 : (lst o)[0]? = some (lst o)[0] := List.getElem?_eq_getElem (by omega)
      have hdim : dimOf (lst o) = ((lst (lst o)[0].v).length : Int) := dimOf_eq (by omega)
      have h40 := f40 (lst o)[j].v (hs.2 _ (List.getElem_mem hj))
      have h7 := h6 _ hx
      rw [List.drop_eq_getElem_cons hj, chk, okVer_one] at h5
      simp +contextual -implicitDefEqProofs (maxSteps := 2000000) only [↓wP, wQ, wQ1, wQ2, wQ3, boxE, List.take_length, partsOf, ↓reduceIte, Nat.reduceEqDiff, Nat.reduceAdd, Nat.reduceSub, Nat.reduceLeDiff, Nat.reduceLT, Nat.reduceMul, Nat.zero_add, Nat.add_zero, Nat.mul_zero, Nat.le_refl, Nat.zero_le, Nat.one_ne_zero, Nat.zero_ne_one, reduceCtorEq, List.map_cons, List.map_nil, List.mapM_cons, List.mapM_nil, List.flatMap_cons, List.flatMap_nil, List.append_nil, List.nil_append, List.cons_append, List.drop_zero, List.drop_succ_cons, List.take_zero, List.take_succ_cons, List.take_nil, List.drop_nil, List.length_cons, List.length_nil, List.getElem?_cons_zero, List.getElem?_cons_succ, List.getElem?_nil, List.set_cons_zero, List.set_cons_succ, List.all_cons, List.all_nil, Option.bind_some, Option.bind_none, Option.map_some, Option.map_none, Option.pure_def, Option.bind_eq_bind, Bool.and_true, Bool.true_and, Bool.and_self, Bool.or_false, Bool.false_or, Bool.and_false, Bool.false_and, Bool.or_true, Bool.true_or, Bool.not_true, Bool.not_false, Bool.not_not, decide_true, decide_false, and_self, and_true, true_and, beq_self_eq_true, beq_true, beq_false, bne_self_eq_false, Int.reduceBNe, Int.reduceBEq, Int.reduceLT, Int.reduceLE, Int.reduceGT, Bool.false_eq_true, Nat.zero_lt_succ, Nat.zero_lt_one, Nat.add_assoc, Nat.left_eq_add, Nat.add_eq_left, h1, h2, h3, h4, hx, hx0, verV, h40]
      refine condC_split (fun hb => ?_) (fun hb => ?_)
      · have e1 : okOne (dimOf (lst o)) (lst o)[j] = false := by
          rw [hdim]
          simp only [Bool.or_eq_true, decide_eq_true_eq, Bool.and_eq_true, bne_iff_ne, Bool.not_eq_true', ne_eq] at hb
          simp only [okOne, Bool.and_eq_false_iff, decide_eq_false_iff_not, Bool.or_eq_false_iff, beq_eq_false_iff_ne, ne_eq]
          rcases hb with ((((hb | hb) | hb) | ⟨hb, hb'⟩) | hb) | hb
          · exact .inl (.inl (.inl (.inl (by omega))))
          · exact .inl (.inl (.inl (.inr (by omega))))
          · exact .inl (.inl (.inr (by omega)))
          · exact .inl (.inr ⟨hb, by omega⟩)
          · exact .inr (.inl hb)
          · exact .inr (.inr hb)
        rw [e1, Bool.false_and, Bool.false_and, Bool.false_and] at h5
        simp +contextual -implicitDefEqProofs (maxSteps := 2000000) only [↓wP, wQ, wQ1, wQ2, wQ3, boxE, List.take_length, partsOf, ↓reduceIte, Nat.reduceEqDiff, Nat.reduceAdd, Nat.reduceSub, Nat.reduceLeDiff, Nat.reduceLT, Nat.reduceMul, Nat.zero_add, Nat.add_zero, Nat.mul_zero, Nat.le_refl, Nat.zero_le, Nat.one_ne_zero, Nat.zero_ne_one, reduceCtorEq, List.map_cons, List.map_nil, List.mapM_cons, List.mapM_nil, List.flatMap_cons, List.flatMap_nil, List.append_nil, List.nil_append, List.cons_append, List.drop_zero, List.drop_succ_cons, List.take_zero, List.take_succ_cons, List.take_nil, List.drop_nil, List.length_cons, List.length_nil, List.getElem?_cons_zero, List.getElem?_cons_succ, List.getElem?_nil, List.set_cons_zero, List.set_cons_succ, List.all_cons, List.all_nil, Option.bind_some, Option.bind_none, Option.map_some, Option.map_none, Option.pure_def, Option.bind_eq_bind, Bool.and_true, Bool.true_and, Bool.and_self, Bool.or_false, Bool.false_or, Bool.and_false, Bool.false_and, Bool.or_true, Bool.true_or, Bool.not_true, Bool.not_false, Bool.not_not, decide_true, decide_false, and_self, and_true, true_and, beq_self_eq_true, beq_true, beq_false, bne_self_eq_false, Int.reduceBNe, Int.reduceBEq, Int.reduceLT, Int.reduceLE, Int.reduceGT, Bool.false_eq_true, Nat.zero_lt_succ, Nat.zero_lt_one, Nat.add_assoc, Nat.left_eq_add, Nat.add_eq_left, h5]
      · have e1 : okOne (dimOf (lst o)) (lst o)[j] = true ∧ 0 < (lst o)[j].b := by
          rw [hdim]
          simp only [Bool.or_eq_false_iff, decide_eq_false_iff_not, Bool.and_eq_false_iff, bne_eq_false_iff_eq, Bool.not_eq_false', Int.not_lt, Int.not_le] at hb
          simp only [okOne, Bool.and_eq_true, decide_eq_true_eq, Bool.or_eq_true, beq_iff_eq]
          obtain ⟨⟨⟨⟨⟨b1, b2⟩, b3⟩, b4⟩, b5⟩, b6⟩ := hb
          exact ⟨⟨⟨⟨⟨by omega, by omega⟩, by omega⟩, b4⟩, b5, b6⟩, by omega⟩
        have e2 : decide (L ≤ (lst o)[j].b) = true := decide_eq_true (h7 e1.2)
        rw [e1.1, e2, Bool.true_and, Bool.true_and] at h5
        have hw : IntKind.i64.wrap (((lst o).length : Int) - 1) = ((lst o).length : Int) - 1 := by rw [wrap_i64] <;> omega
        by_cases hj1 : j + 1 < (lst o).length
        · have hg : decide ((j : Int) < ((lst o).length : Int) - 1) = true := decide_eq_true (by omega)
          have hw1 : IntKind.i64.wrap ((j : Int) + 1) = ((j + 1 : Nat) : Int) := by rw [wrap_i64] <;> omega
          have hx1 : (lst o)[j + 1]? = some (lst o)[j + 1] := List.getElem?_eq_getElem hj1
          have hne : ((lst o).drop (j + 1)).isEmpty = false := by rw [List.drop_eq_getElem_cons hj1]; rfl
          rw [hne, Bool.or_false] at h5
          simp +contextual -implicitDefEqProofs (maxSteps := 2000000) only [↓wP, wQ, wQ1, wQ2, wQ3, boxE, List.take_length, partsOf, ↓reduceIte, Nat.reduceEqDiff, Nat.reduceAdd, Nat.reduceSub, Nat.reduceLeDiff, Nat.reduceLT, Nat.reduceMul, Nat.zero_add, Nat.add_zero, Nat.mul_zero, Nat.le_refl, Nat.zero_le, Nat.one_ne_zero, Nat.zero_ne_one, reduceCtorEq, List.map_cons, List.map_nil, List.mapM_cons, List.mapM_nil, List.flatMap_cons, List.flatMap_nil, List.append_nil, List.nil_append, List.cons_append, List.drop_zero, List.drop_succ_cons, List.take_zero, List.take_succ_cons, List.take_nil, List.drop_nil, List.length_cons, List.length_nil, List.getElem?_cons_zero, List.getElem?_cons_succ, List.getElem?_nil, List.set_cons_zero, List.set_cons_succ, List.all_cons, List.all_nil, Option.bind_some, Option.bind_none, Option.map_some, Option.map_none, Option.pure_def, Option.bind_eq_bind, Bool.and_true, Bool.true_and, Bool.and_self, Bool.or_false, Bool.false_or, Bool.and_false, Bool.false_and, Bool.or_true, Bool.true_or, Bool.not_true, Bool.not_false, Bool.not_not, decide_true, decide_false, and_self, and_true, true_and, beq_self_eq_true, beq_true, beq_false, bne_self_eq_false, Int.reduceBNe, Int.reduceBEq, Int.reduceLT, Int.reduceLE, Int.reduceGT, Bool.false_eq_true, Nat.zero_lt_succ, Nat.zero_lt_one, Nat.add_assoc, Nat.left_eq_add, Nat.add_eq_left, h1, h2, h3, h4, hx, verV, hw, hg, hw1, hx1]
          refine condC_split (fun hb => ?_) (fun hb => ?_)
          · have e3 : okC o = false := by
              rw [h5, List.drop_eq_getElem_cons hj1, chk, okVer_one]
              simp only [Bool.or_eq_true, beq_iff_eq, decide_eq_true_eq] at hb
              rcases hb with hb | hb
              · simp [hb]
              · have : decide ((lst o)[j].e ≤ (lst o)[j + 1].b) = false := decide_eq_false (by omega)
                simp [this]
            simp +contextual -implicitDefEqProofs (maxSteps := 2000000) only [↓wP, wQ, wQ1, wQ2, wQ3, boxE, List.take_length, partsOf, ↓reduceIte, Nat.reduceEqDiff, Nat.reduceAdd, Nat.reduceSub, Nat.reduceLeDiff, Nat.reduceLT, Nat.reduceMul, Nat.zero_add, Nat.add_zero, Nat.mul_zero, Nat.le_refl, Nat.zero_le, Nat.one_ne_zero, Nat.zero_ne_one, reduceCtorEq, List.map_cons, List.map_nil, List.mapM_cons, List.mapM_nil, List.flatMap_cons, List.flatMap_nil, List.append_nil, List.nil_append, List.cons_append, List.drop_zero, List.drop_succ_cons, List.take_zero, List.take_succ_cons, List.take_nil, List.drop_nil, List.length_cons, List.length_nil, List.getElem?_cons_zero, List.getElem?_cons_succ, List.getElem?_nil, List.set_cons_zero, List.set_cons_succ, List.all_cons, List.all_nil, Option.bind_some, Option.bind_none, Option.map_some, Option.map_none, Option.pure_def, Option.bind_eq_bind, Bool.and_true, Bool.true_and, Bool.and_self, Bool.or_false, Bool.false_or, Bool.and_false, Bool.false_and, Bool.or_true, Bool.true_or, Bool.not_true, Bool.not_false, Bool.not_not, decide_true, decide_false, and_self, and_true, true_and, beq_self_eq_true, beq_true, beq_false, bne_self_eq_false, Int.reduceBNe, Int.reduceBEq, Int.reduceLT, Int.reduceLE, Int.reduceGT, Bool.false_eq_true, Nat.zero_lt_succ, Nat.zero_lt_one, Nat.add_assoc, Nat.left_eq_add, Nat.add_eq_left, e3]
          · simp only [Bool.or_eq_false_iff, beq_eq_false_iff_ne, decide_eq_false_iff_not, Int.not_lt] at hb
            have e3 : okC o = chk (dimOf (lst o)) (lst o)[j].e ((lst o).drop (j + 1)) := by
              rw [h5]; simp [hb.1]
            simp +contextual -implicitDefEqProofs (maxSteps := 2000000) only [↓wP, wQ, wQ1, wQ2, wQ3, boxE, List.take_length, partsOf, ↓reduceIte, Nat.reduceEqDiff, Nat.reduceAdd, Nat.reduceSub, Nat.reduceLeDiff, Nat.reduceLT, Nat.reduceMul, Nat.zero_add, Nat.add_zero, Nat.mul_zero, Nat.le_refl, Nat.zero_le, Nat.one_ne_zero, Nat.zero_ne_one, reduceCtorEq, List.map_cons, List.map_nil, List.mapM_cons, List.mapM_nil, List.flatMap_cons, List.flatMap_nil, List.append_nil, List.nil_append, List.cons_append, List.drop_zero, List.drop_succ_cons, List.take_zero, List.take_succ_cons, List.take_nil, List.drop_nil, List.length_cons, List.length_nil, List.getElem?_cons_zero, List.getElem?_cons_succ, List.getElem?_nil, List.set_cons_zero, List.set_cons_succ, List.all_cons, List.all_nil, Option.bind_some, Option.bind_none, Option.map_some, Option.map_none, Option.pure_def, Option.bind_eq_bind, Bool.and_true, Bool.true_and, Bool.and_self, Bool.or_false, Bool.false_or, Bool.and_false, Bool.false_and, Bool.or_true, Bool.true_or, Bool.not_true, Bool.not_false, Bool.not_not, decide_true, decide_false, and_self, and_true, true_and, beq_self_eq_true, beq_true, beq_false, bne_self_eq_false, Int.reduceBNe, Int.reduceBEq, Int.reduceLT, Int.reduceLE, Int.reduceGT, Bool.false_eq_true, Nat.zero_lt_succ, Nat.zero_lt_one, Nat.add_assoc, Nat.left_eq_add, Nat.add_eq_left, h1, h2, h3, h4]
            refine ⟨_, e3, fun x hx' _ => ?_⟩
            cases hx'
            exact hb.2
        · have hg : decide ((j : Int) < ((lst o).length : Int) - 1) = false := decide_eq_false (by omega)
          have he : (lst o).drop (j + 1) = [] := by rw [List.drop_eq_nil_iff]; omega
          rw [he] at h5
          simp +contextual -implicitDefEqProofs (maxSteps := 2000000) only [↓wP, wQ, wQ1, wQ2, wQ3, boxE, List.take_length, partsOf, ↓reduceIte, Nat.reduceEqDiff, Nat.reduceAdd, Nat.reduceSub, Nat.reduceLeDiff, Nat.reduceLT, Nat.reduceMul, Nat.zero_add, Nat.add_zero, Nat.mul_zero, Nat.le_refl, Nat.zero_le, Nat.one_ne_zero, Nat.zero_ne_one, reduceCtorEq, List.map_cons, List.map_nil, List.mapM_cons, List.mapM_nil, List.flatMap_cons, List.flatMap_nil, List.append_nil, List.nil_append, List.cons_append, List.drop_zero, List.drop_succ_cons, List.take_zero, List.take_succ_cons, List.take_nil, List.drop_nil, List.length_cons, List.length_nil, List.getElem?_cons_zero, List.getElem?_cons_succ, List.getElem?_nil, List.set_cons_zero, List.set_cons_succ, List.all_cons, List.all_nil, Option.bind_some, Option.bind_none, Option.map_some, Option.map_none, Option.pure_def, Option.bind_eq_bind, Bool.and_true, Bool.true_and, Bool.and_self, Bool.or_false, Bool.false_or, Bool.and_false, Bool.false_and, Bool.or_true, Bool.true_or, Bool.not_true, Bool.not_false, Bool.not_not, decide_true, decide_false, and_self, and_true, true_and, beq_self_eq_true, beq_true, beq_false, bne_self_eq_false, Int.reduceBNe, Int.reduceBEq, Int.reduceLT, Int.reduceLE, Int.reduceGT, Bool.false_eq_true, Nat.zero_lt_succ, Nat.zero_lt_one, Nat.add_assoc, Nat.left_eq_add, Nat.add_eq_left, h1, h2, h3, h4, hx, verV, hw, hg]
          refine ⟨(lst o)[j].e, ?_, fun x hx' _ => ?_⟩
          · rw [h5, he]; simp
          · rw [List.getElem?_eq_none (by omega)] at hx'; cases hx'
    · intro env σ n ⟨h3, h4, L, h5, h6⟩ h1 h2
      rw [List.drop_length] at h5
      have : okC o = true := h5
      simp +contextual -implicitDefEqProofs (maxSteps := 2000000) only [↓wP, wQ, wQ1, wQ2, wQ3, boxE, List.take_length, partsOf, ↓reduceIte, Nat.reduceEqDiff, Nat.reduceAdd, Nat.reduceSub, Nat.reduceLeDiff, Nat.reduceLT, Nat.reduceMul, Nat.zero_add, Nat.add_zero, Nat.mul_zero, Nat.le_refl, Nat.zero_le, Nat.one_ne_zero, Nat.zero_ne_one, reduceCtorEq, List.map_cons, List.map_nil, List.mapM_cons, List.mapM_nil, List.flatMap_cons, List.flatMap_nil, List.append_nil, List.nil_append, List.cons_append, List.drop_zero, List.drop_succ_cons, List.take_zero, List.take_succ_cons, List.take_nil, List.drop_nil, List.length_cons, List.length_nil, List.getElem?_cons_zero, List.getElem?_cons_succ, List.getElem?_nil, List.set_cons_zero, List.set_cons_succ, List.all_cons, List.all_nil, Option.bind_some, Option.bind_none, Option.map_some, Option.map_none, Option.pure_def, Option.bind_eq_bind, Bool.and_true, Bool.true_and, Bool.and_self, Bool.or_false, Bool.false_or, Bool.and_false, Bool.false_and, Bool.or_true, Bool.true_or, Bool.not_true, Bool.not_false, Bool.not_not, decide_true, decide_false, and_self, and_true, true_and, beq_self_eq_true, beq_true, beq_false, bne_self_eq_false, Int.reduceBNe, Int.reduceBEq, Int.reduceLT, Int.reduceLE, Int.reduceGT, Bool.false_eq_true, Nat.zero_lt_succ, Nat.zero_lt_one, Nat.add_assoc, Nat.left_eq_add, Nat.add_eq_left, this]
    · refine ⟨rfl, rfl, 0, ?_, fun x _ h => by omega⟩
      simp [okC, h96]
  · have hd : decide ((96 : Int) < ((lst o).length : Int)) = true := by simp; omega
    have hc : okC o = false := by simp [okC, h96]
    simp +contextual -implicitDefEqProofs (maxSteps := 2000000) only [↓wP, wQ, wQ1, wQ2, wQ3, boxE, List.take_length, partsOf, ↓reduceIte, Nat.reduceEqDiff, Nat.reduceAdd, Nat.reduceSub, Nat.reduceLeDiff, Nat.reduceLT, Nat.reduceMul, Nat.zero_add, Nat.add_zero, Nat.mul_zero, Nat.le_refl, Nat.zero_le, Nat.one_ne_zero, Nat.zero_ne_one, reduceCtorEq, List.map_cons, List.map_nil, List.mapM_cons, List.mapM_nil, List.flatMap_cons, List.flatMap_nil, List.append_nil, List.nil_append, List.cons_append, List.drop_zero, List.drop_succ_cons, List.take_zero, List.take_succ_cons, List.take_nil, List.drop_nil, List.length_cons, List.length_nil, List.getElem?_cons_zero, List.getElem?_cons_succ, List.getElem?_nil, List.set_cons_zero, List.set_cons_succ, List.all_cons, List.all_nil, Option.bind_some, Option.bind_none, Option.map_some, Option.map_none, Option.pure_def, Option.bind_eq_bind, Bool.and_true, Bool.true_and, Bool.and_self, Bool.or_false, Bool.false_or, Bool.and_false, Bool.false_and, Bool.or_true, Bool.true_or, Bool.not_true, Bool.not_false, Bool.not_not, decide_true, decide_false, and_self, and_true, true_and, beq_self_eq_true, beq_true, beq_false, bne_self_eq_false, Int.reduceBNe, Int.reduceBEq, Int.reduceLT, Int.reduceLE, Int.reduceGT, Bool.false_eq_true, Nat.zero_lt_succ, Nat.zero_lt_one, Nat.add_assoc, Nat.left_eq_add, Nat.add_eq_left, hd, hc]

theorem f23 (o : Option (List Ver)) (hs : Sm o) (fs : Bool) (σ : Sto) (n lk : Nat) : callE T fs 23 [slV 3 verV o] σ n lk = some (.bool (okC o), σ, n) :=
  callE_tr (by decide) (r23 o hs) (by simp [Tr, Tr_slV]) rfl fs σ n lk

end Go.Q.S3
end

section
/- The document's Put and Del. -/
set_option linter.unusedSimpArgs false
set_option linter.unusedVariables false
namespace Go.Q.S3
open Go.Q

theorem r54 (o : Option (List Ver)) (ts : Int) (hs : Sm o) : res T 54 [slV 3 verV o, .int .u64 ts] = some (.bool (decide (lastR (lst o) < ts) && decide (ts ≤ 1099511627776))) := by
  refine run_res (run_pure (fn := g54) rfl rfl (by decide) ?_)
  simp only [g54, b54]
  have h25 := f25 o hs
  simp +contextual -implicitDefEqProofs (maxSteps := 2000000) only [↓wP, wQ, wQ1, wQ2, wQ3, boxE, List.take_length, partsOf, ↓reduceIte, Nat.reduceEqDiff, Nat.reduceAdd, Nat.reduceSub, Nat.reduceLeDiff, Nat.reduceLT, Nat.reduceMul, Nat.zero_add, Nat.add_zero, Nat.mul_zero, Nat.le_refl, Nat.zero_le, Nat.one_ne_zero, Nat.zero_ne_one, reduceCtorEq, List.map_cons, List.map_nil, List.mapM_cons, List.mapM_nil, List.flatMap_cons, List.flatMap_nil, List.append_nil, List.nil_append, List.cons_append, List.drop_zero, List.drop_succ_cons, List.take_zero, List.take_succ_cons, List.take_nil, List.drop_nil, List.length_cons, List.length_nil, List.getElem?_cons_zero, List.getElem?_cons_succ, List.getElem?_nil, List.set_cons_zero, List.set_cons_succ, List.all_cons, List.all_nil, Option.bind_some, Option.bind_none, Option.map_some, Option.map_none, Option.pure_def, Option.bind_eq_bind, Bool.and_true, Bool.true_and, Bool.and_self, Bool.or_false, Bool.false_or, Bool.and_false, Bool.false_and, Bool.or_true, Bool.true_or, Bool.not_true, Bool.not_false, Bool.not_not, decide_true, decide_false, and_self, and_true, true_and, beq_self_eq_true, beq_true, beq_false, bne_self_eq_false, Int.reduceBNe, Int.reduceBEq, Int.reduceLT, Int.reduceLE, Int.reduceGT, Bool.false_eq_true, Nat.zero_lt_succ, Nat.zero_lt_one, Nat.add_assoc, Nat.left_eq_add, Nat.add_eq_left, h25]

theorem f54 (o : Option (List Ver)) (ts : Int) (hs : Sm o) (fs : Bool) (σ : Sto) (n lk : Nat) : callE T fs 54 [slV 3 verV o, .int .u64 ts] σ n lk = some (.bool (decide (lastR (lst o) < ts) && decide (ts ≤ 1099511627776)), σ, n) :=
  callE_tr (by decide) (r54 o ts hs) (by simp [Tr, Tr_slV]) rfl fs σ n lk

theorem r55 (o : Option (List Ver)) (hs : Sm o) : res T 55 [slV 3 verV o] = some (.int .i64 (idxF (fun x => x.e == 0) (lst o))) := by
  refine run_res (run_pure (fn := g55) rfl rfl (by decide) ?_)
  simp only [g55, b55]
  simp +contextual -implicitDefEqProofs (maxSteps := 2000000) only [↓wP, wQ, wQ1, wQ2, wQ3, boxE, List.take_length, partsOf, ↓reduceIte, Nat.reduceEqDiff, Nat.reduceAdd, Nat.reduceSub, Nat.reduceLeDiff, Nat.reduceLT, Nat.reduceMul, Nat.zero_add, Nat.add_zero, Nat.mul_zero, Nat.le_refl, Nat.zero_le, Nat.one_ne_zero, Nat.zero_ne_one, reduceCtorEq, List.map_cons, List.map_nil, List.mapM_cons, List.mapM_nil, List.flatMap_cons, List.flatMap_nil, List.append_nil, List.nil_append, List.cons_append, List.drop_zero, List.drop_succ_cons, List.take_zero, List.take_succ_cons, List.take_nil, List.drop_nil, List.length_cons, List.length_nil, List.getElem?_cons_zero, List.getElem?_cons_succ, List.getElem?_nil, List.set_cons_zero, List.set_cons_succ, List.all_cons, List.all_nil, Option.bind_some, Option.bind_none, Option.map_some, Option.map_none, Option.pure_def, Option.bind_eq_bind, Bool.and_true, Bool.true_and, Bool.and_self, Bool.or_false, Bool.false_or, Bool.and_false, Bool.false_and, Bool.or_true, Bool.true_or, Bool.not_true, Bool.not_false, Bool.not_not, decide_true, decide_false, and_self, and_true, true_and, beq_self_eq_true, beq_true, beq_false, bne_self_eq_false, Int.reduceBNe, Int.reduceBEq, Int.reduceLT, Int.reduceLE, Int.reduceGT, Bool.false_eq_true, Nat.zero_lt_succ, Nat.zero_lt_one, Nat.add_assoc, Nat.left_eq_add, Nat.add_eq_left]
  refine WC_for (lst o).length 0 (fun (j : Nat) env _ _ => env 5 = slV 3 verV o ∧ (lst o).findIdx? (fun x => x.e == 0) = (((lst o).drop j).findIdx? (fun x => x.e == 0)).map (· + j))
    (by have := hs.1; omega) (by decide) (by decide) (fun _ _ => rfl) (fun _ _ _ => rfl) ?_ ?_ _ _ _ rfl rfl ?_
  · intro j env σ n hj h1 h2 ⟨h3, h5⟩
    simp only [vl_tmp] at h2
    have hx : (lst o)[j]? = some (lst o)[j] := List.getElem?_eq_getElem hj
    rw [List.drop_eq_getElem_cons hj, List.findIdx?_cons] at h5
    simp +contextual -implicitDefEqProofs (maxSteps := 2000000) only [↓wP, wQ, wQ1, wQ2, wQ3, boxE, List.take_length, partsOf, ↓reduceIte, Nat.reduceEqDiff, Nat.reduceAdd, Nat.reduceSub, Nat.reduceLeDiff, Nat.reduceLT, Nat.reduceMul, Nat.zero_add, Nat.add_zero, Nat.mul_zero, Nat.le_refl, Nat.zero_le, Nat.one_ne_zero, Nat.zero_ne_one, reduceCtorEq, List.map_cons, List.map_nil, List.mapM_cons, List.mapM_nil, List.flatMap_cons, List.flatMap_nil, List.append_nil, List.nil_append, List.cons_append, List.drop_zero, List.drop_succ_cons, List.take_zero, List.take_succ_cons, List.take_nil, List.drop_nil, List.length_cons, List.length_nil, List.getElem?_cons_zero, List.getElem?_cons_succ, List.getElem?_nil, List.set_cons_zero, List.set_cons_succ, List.all_cons, List.all_nil, Option.bind_some, Option.bind_none, Option.map_some, Option.map_none, Option.pure_def, Option.bind_eq_bind, Bool.and_true, Bool.true_and, Bool.and_self, Bool.or_false, Bool.false_or, Bool.and_false, Bool.false_and, Bool.or_true, Bool.true_or, Bool.not_true, Bool.not_false, Bool.not_not, decide_true, decide_false, and_self, and_true, true_and, beq_self_eq_true, beq_true, beq_false, bne_self_eq_false, Int.reduceBNe, Int.reduceBEq, Int.reduceLT, Int.reduceLE, Int.reduceGT, Bool.false_eq_true, Nat.zero_lt_succ, Nat.zero_lt_one, Nat.add_assoc, Nat.left_eq_add, Nat.add_eq_left, h1, h2, h3, hx, verV]
    refine condC_split (fun hb => ?_) (fun hb => ?_)
    · simp +contextual -implicitDefEqProofs (maxSteps := 2000000) only [↓wP, wQ, wQ1, wQ2, wQ3, boxE, List.take_length, partsOf, ↓reduceIte, Nat.reduceEqDiff, Nat.reduceAdd, Nat.reduceSub, Nat.reduceLeDiff, Nat.reduceLT, Nat.reduceMul, Nat.zero_add, Nat.add_zero, Nat.mul_zero, Nat.le_refl, Nat.zero_le, Nat.one_ne_zero, Nat.zero_ne_one, reduceCtorEq, List.map_cons, List.map_nil, List.mapM_cons, List.mapM_nil, List.flatMap_cons, List.flatMap_nil, List.append_nil, List.nil_append, List.cons_append, List.drop_zero, List.drop_succ_cons, List.take_zero, List.take_succ_cons, List.take_nil, List.drop_nil, List.length_cons, List.length_nil, List.getElem?_cons_zero, List.getElem?_cons_succ, List.getElem?_nil, List.set_cons_zero, List.set_cons_succ, List.all_cons, List.all_nil, Option.bind_some, Option.bind_none, Option.map_some, Option.map_none, Option.pure_def, Option.bind_eq_bind, Bool.and_true, Bool.true_and, Bool.and_self, Bool.or_false, Bool.false_or, Bool.and_false, Bool.false_and, Bool.or_true, Bool.true_or, Bool.not_true, Bool.not_false, Bool.not_not, decide_true, decide_false, and_self, and_true, true_and, beq_self_eq_true, beq_true, beq_false, bne_self_eq_false, Int.reduceBNe, Int.reduceBEq, Int.reduceLT, Int.reduceLE, Int.reduceGT, Bool.false_eq_true, Nat.zero_lt_succ, Nat.zero_lt_one, Nat.add_assoc, Nat.left_eq_add, Nat.add_eq_left]
      simp [idxF, h5, hb]
    · simp +contextual -implicitDefEqProofs (maxSteps := 2000000) only [↓wP, wQ, wQ1, wQ2, wQ3, boxE, List.take_length, partsOf, ↓reduceIte, Nat.reduceEqDiff, Nat.reduceAdd, Nat.reduceSub, Nat.reduceLeDiff, Nat.reduceLT, Nat.reduceMul, Nat.zero_add, Nat.add_zero, Nat.mul_zero, Nat.le_refl, Nat.zero_le, Nat.one_ne_zero, Nat.zero_ne_one, reduceCtorEq, List.map_cons, List.map_nil, List.mapM_cons, List.mapM_nil, List.flatMap_cons, List.flatMap_nil, List.append_nil, List.nil_append, List.cons_append, List.drop_zero, List.drop_succ_cons, List.take_zero, List.take_succ_cons, List.take_nil, List.drop_nil, List.length_cons, List.length_nil, List.getElem?_cons_zero, List.getElem?_cons_succ, List.getElem?_nil, List.set_cons_zero, List.set_cons_succ, List.all_cons, List.all_nil, Option.bind_some, Option.bind_none, Option.map_some, Option.map_none, Option.pure_def, Option.bind_eq_bind, Bool.and_true, Bool.true_and, Bool.and_self, Bool.or_false, Bool.false_or, Bool.and_false, Bool.false_and, Bool.or_true, Bool.true_or, Bool.not_true, Bool.not_false, Bool.not_not, decide_true, decide_false, and_self, and_true, true_and, beq_self_eq_true, beq_true, beq_false, bne_self_eq_false, Int.reduceBNe, Int.reduceBEq, Int.reduceLT, Int.reduceLE, Int.reduceGT, Bool.false_eq_true, Nat.zero_lt_succ, Nat.zero_lt_one, Nat.add_assoc, Nat.left_eq_add, Nat.add_eq_left, h1, h2, h3]
      rw [h5, hb]
      simp only [Bool.false_eq_true, if_false, Option.map_map, Function.comp_def]
      congr 1; funext i; omega
  · intro env σ n ⟨h3, h5⟩ h1 h2
    simp +contextual -implicitDefEqProofs (maxSteps := 2000000) only [↓wP, wQ, wQ1, wQ2, wQ3, boxE, List.take_length, partsOf, ↓reduceIte, Nat.reduceEqDiff, Nat.reduceAdd, Nat.reduceSub, Nat.reduceLeDiff, Nat.reduceLT, Nat.reduceMul, Nat.zero_add, Nat.add_zero, Nat.mul_zero, Nat.le_refl, Nat.zero_le, Nat.one_ne_zero, Nat.zero_ne_one, reduceCtorEq, List.map_cons, List.map_nil, List.mapM_cons, List.mapM_nil, List.flatMap_cons, List.flatMap_nil, List.append_nil, List.nil_append, List.cons_append, List.drop_zero, List.drop_succ_cons, List.take_zero, List.take_succ_cons, List.take_nil, List.drop_nil, List.length_cons, List.length_nil, List.getElem?_cons_zero, List.getElem?_cons_succ, List.getElem?_nil, List.set_cons_zero, List.set_cons_succ, List.all_cons, List.all_nil, Option.bind_some, Option.bind_none, Option.map_some, Option.map_none, Option.pure_def, Option.bind_eq_bind, Bool.and_true, Bool.true_and, Bool.and_self, Bool.or_false, Bool.false_or, Bool.and_false, Bool.false_and, Bool.or_true, Bool.true_or, Bool.not_true, Bool.not_false, Bool.not_not, decide_true, decide_false, and_self, and_true, true_and, beq_self_eq_true, beq_true, beq_false, bne_self_eq_false, Int.reduceBNe, Int.reduceBEq, Int.reduceLT, Int.reduceLE, Int.reduceGT, Bool.false_eq_true, Nat.zero_lt_succ, Nat.zero_lt_one, Nat.add_assoc, Nat.left_eq_add, Nat.add_eq_left]
    simp [idxF, h5]
  · exact ⟨rfl, by simp⟩

theorem f55 (o : Option (List Ver)) (hs : Sm o) (fs : Bool) (σ : Sto) (n lk : Nat) : callE T fs 55 [slV 3 verV o] σ n lk = some (.int .i64 (idxF (fun x => x.e == 0) (lst o)), σ, n) :=
  callE_tr (by decide) (r55 o hs) (by simp [Tr, Tr_slV]) rfl fs σ n lk

def cpV (x : Ver) : Ver := ⟨x.b, x.e, some (lst x.v)⟩
theorem opt_snoc' {α : Type} (l : List α) (x : α) : opt (l ++ [x]) = some (l ++ [x]) := by cases l <;> rfl

theorem r14 (o : Option (List Ver)) (hf : FitC o) : res T 14 [slV 3 verV o] = some (ownC (opt ((lst o).map cpV))) := by
  refine run_res (run_own (fn := g14) rfl rfl (by decide) ?_)
  simp only [g14, b14]
  simp +contextual -implicitDefEqProofs (maxSteps := 2000000) only [↓wP, wQ, wQ1, wQ2, wQ3, boxE, List.take_length, partsOf, ↓reduceIte, Nat.reduceEqDiff, Nat.reduceAdd, Nat.reduceSub, Nat.reduceLeDiff, Nat.reduceLT, Nat.reduceMul, Nat.zero_add, Nat.add_zero, Nat.mul_zero, Nat.le_refl, Nat.zero_le, Nat.one_ne_zero, Nat.zero_ne_one, reduceCtorEq, List.map_cons, List.map_nil, List.mapM_cons, List.mapM_nil, List.flatMap_cons, List.flatMap_nil, List.append_nil, List.nil_append, List.cons_append, List.drop_zero, List.drop_succ_cons, List.take_zero, List.take_succ_cons, List.take_nil, List.drop_nil, List.length_cons, List.length_nil, List.getElem?_cons_zero, List.getElem?_cons_succ, List.getElem?_nil, List.set_cons_zero, List.set_cons_succ, List.all_cons, List.all_nil, Option.bind_some, Option.bind_none, Option.map_some, Option.map_none, Option.pure_def, Option.bind_eq_bind, Bool.and_true, Bool.true_and, Bool.and_self, Bool.or_false, Bool.false_or, Bool.and_false, Bool.false_and, Bool.or_true, Bool.true_or, Bool.not_true, Bool.not_false, Bool.not_not, decide_true, decide_false, and_self, and_true, true_and, beq_self_eq_true, beq_true, beq_false, bne_self_eq_false, Int.reduceBNe, Int.reduceBEq, Int.reduceLT, Int.reduceLE, Int.reduceGT, Bool.false_eq_true, Nat.zero_lt_succ, Nat.zero_lt_one, Nat.add_assoc, Nat.left_eq_add, Nat.add_eq_left]
  refine WC_for (lst o).length 0 (fun (j : Nat) env σ n => env 6 = slV 3 verV o ∧ Chn σ 0 n (env 3) (opt (((lst o).take j).map cpV)))
    (by have := hf.1; unfold LIM at this; omega) (by decide) (by decide) (fun _ _ => rfl) (fun _ _ _ => rfl) ?_ ?_ _ _ _ rfl rfl ?_
  · intro j env σ n hj h1 h2 ⟨h3, h4⟩
    simp only [vl_tmp] at h2
    have hx : (lst o)[j]? = some (lst o)[j] := List.getElem?_eq_getElem hj
    generalize hv3 : env 3 = v3 at h4
    have hfit := hf.2 _ (List.getElem_mem hj)
    have hlim : ((lst (lst o)[j].v).map i32V).length * 4 ≤ LIM := by simpa [Fit] using hfit
    have k1 : Chn (upd (upd (upd (upd (upd (upd (upd σ n (some (.row 3 [.agg [.int .u64 0, .int .u64 0, .nilS]]))) n (some (.row 3 [.agg [.int .u64 (lst o)[j].b, .int .u64 (lst o)[j].e, slV 1 i32V (lst o)[j].v]]))) (n + 1) (some (.row 1 []))) (n + 1) none) (n + 2) (some (.row 1 ((lst (lst o)[j].v).map i32V)))) n (some (.row 3 [.agg [.int .u64 (lst o)[j].b, .int .u64 (lst o)[j].e, .ref (n + 2) 0 ((lst (lst o)[j].v).map i32V).length 1]])))
        (n + 3) (some (.row 3 [.agg [.int .u64 (lst o)[j].b, .int .u64 (lst o)[j].e, .ref (n + 2) 0 ((lst (lst o)[j].v).map i32V).length 1]]))) 0 n v3 (opt (((lst o).take j).map cpV)) := by
      refine h4.loc (fun i _ hi => ?_) (Nat.le_refl _) (Nat.le_refl _)
      have a1 : i ≠ n := by omega
      have a2 : i ≠ n + 1 := by omega
      have a3 : i ≠ n + 2 := by omega
      have a4 : i ≠ n + 3 := by omega
      simp only [upd_get, a1, a2, a3, a4, if_false]
    obtain ⟨v2, σ2, e1, e2, e3, e4, e5⟩ := k1.append (y := cpV (lst o)[j]) (lab := n + 4) (i := n + 2) (by omega) (by omega) (by omega) (by omega) (by
      simp only [upd_get]
      simp [cpV, lst]) (by
      rw [lst_opt, List.length_map, List.length_take]
      have := hf.1
      refine Nat.le_trans (Nat.mul_le_mul_right 40 ?_) this
      omega)
    rw [show erow (cpV (lst o)[j]) (n + 2) = .agg [.int .u64 (lst o)[j].b, .int .u64 (lst o)[j].e, .ref (n + 2) 0 ((lst (lst o)[j].v).map i32V).length 1] from by rw [List.length_map]; rfl] at e1
    simp +contextual -implicitDefEqProofs (maxSteps := 2000000) only [↓wP, wQ, wQ1, wQ2, wQ3, boxE, List.take_length, partsOf, ↓reduceIte, Nat.reduceEqDiff, Nat.reduceAdd, Nat.reduceSub, Nat.reduceLeDiff, Nat.reduceLT, Nat.reduceMul, Nat.zero_add, Nat.add_zero, Nat.mul_zero, Nat.le_refl, Nat.zero_le, Nat.one_ne_zero, Nat.zero_ne_one, reduceCtorEq, List.map_cons, List.map_nil, List.mapM_cons, List.mapM_nil, List.flatMap_cons, List.flatMap_nil, List.append_nil, List.nil_append, List.cons_append, List.drop_zero, List.drop_succ_cons, List.take_zero, List.take_succ_cons, List.take_nil, List.drop_nil, List.length_cons, List.length_nil, List.getElem?_cons_zero, List.getElem?_cons_succ, List.getElem?_nil, List.set_cons_zero, List.set_cons_succ, List.all_cons, List.all_nil, Option.bind_some, Option.bind_none, Option.map_some, Option.map_none, Option.pure_def, Option.bind_eq_bind, Bool.and_true, Bool.true_and, Bool.and_self, Bool.or_false, Bool.false_or, Bool.and_false, Bool.false_and, Bool.or_true, Bool.true_or, Bool.not_true, Bool.not_false, Bool.not_not, decide_true, decide_false, and_self, and_true, true_and, beq_self_eq_true, beq_true, beq_false, bne_self_eq_false, Int.reduceBNe, Int.reduceBEq, Int.reduceLT, Int.reduceLE, Int.reduceGT, Bool.false_eq_true, Nat.zero_lt_succ, Nat.zero_lt_one, Nat.add_assoc, Nat.left_eq_add, Nat.add_eq_left, h1, h2, h3, hv3, hx, verV, hlim, e1]
    rw [← List.take_append_getElem hj, List.map_append, List.map_cons, List.map_nil, opt_snoc']
    have e6 := e4 σ2 (fun _ _ => rfl)
    rw [lst_opt] at e6
    exact e6
  · intro env σ n ⟨h3, h4⟩ h1 h2
    rw [List.take_length] at h4
    simp +contextual -implicitDefEqProofs (maxSteps := 2000000) only [↓wP, wQ, wQ1, wQ2, wQ3, boxE, List.take_length, partsOf, ↓reduceIte, Nat.reduceEqDiff, Nat.reduceAdd, Nat.reduceSub, Nat.reduceLeDiff, Nat.reduceLT, Nat.reduceMul, Nat.zero_add, Nat.add_zero, Nat.mul_zero, Nat.le_refl, Nat.zero_le, Nat.one_ne_zero, Nat.zero_ne_one, reduceCtorEq, List.map_cons, List.map_nil, List.mapM_cons, List.mapM_nil, List.flatMap_cons, List.flatMap_nil, List.append_nil, List.nil_append, List.cons_append, List.drop_zero, List.drop_succ_cons, List.take_zero, List.take_succ_cons, List.take_nil, List.drop_nil, List.length_cons, List.length_nil, List.getElem?_cons_zero, List.getElem?_cons_succ, List.getElem?_nil, List.set_cons_zero, List.set_cons_succ, List.all_cons, List.all_nil, Option.bind_some, Option.bind_none, Option.map_some, Option.map_none, Option.pure_def, Option.bind_eq_bind, Bool.and_true, Bool.true_and, Bool.and_self, Bool.or_false, Bool.false_or, Bool.and_false, Bool.false_and, Bool.or_true, Bool.true_or, Bool.not_true, Bool.not_false, Bool.not_not, decide_true, decide_false, and_self, and_true, true_and, beq_self_eq_true, beq_true, beq_false, bne_self_eq_false, Int.reduceBNe, Int.reduceBEq, Int.reduceLT, Int.reduceLE, Int.reduceGT, Bool.false_eq_true, Nat.zero_lt_succ, Nat.zero_lt_one, Nat.add_assoc, Nat.left_eq_add, Nat.add_eq_left]
    have := h4.giv 9
    exact ⟨this.1, this.2.1⟩
  · exact ⟨rfl, rfl⟩

theorem all_cp (L : List Ver) : AllS (L.map cpV) := fun x hx => by
  obtain ⟨y, -, rfl⟩ := List.mem_map.1 hx
  rfl

/-- The last one of a chain in the store. -/
theorem Chn.last {σ : Sto} {m n : Nat} {v : V} {A : List Ver} {x : Ver} (h : Chn σ m n v (some (A ++ [x]))) :
    ∃ (id : Nat) (rows : List V) (w : V), v = .ref id 0 (A.length + 1) 3 ∧ σ id = some (.row 3 rows) ∧ rows[A.length]? = some (.agg [.int .u64 x.b, .int .u64 x.e, w]) ∧ w.one = true ∧ m ≤ id ∧ id < n ∧
      ∀ (ts : Int) (σ2 : Sto), σ2 id = some (.row 3 (rows.set A.length (.agg [.int .u64 x.b, .int .u64 ts, w]))) → (∀ i, i ≠ id → i < n → σ2 i = σ i) → Chn σ2 m n v (some (A ++ [⟨x.b, ts, x.v⟩])) := by
  obtain ⟨id, ids, rfl, h1, h2, h3, h4⟩ := h
  have hidl : ids.length = A.length + 1 := by rw [h4.1]; simp
  obtain ⟨B, i, rfl⟩ : ∃ B i, ids = B ++ [i] := by
    rcases List.eq_nil_or_concat ids with rfl | ⟨B, i, rfl⟩
    · simp at hidl
    · exact ⟨B, i, by simp⟩
  have hB : B.length = A.length := by simpa using hidl
  have hz : (A.zipWith erow B).length = A.length := by simp [hB]
  have hrows : (A ++ [x]).zipWith erow (B ++ [i]) = A.zipWith erow B ++ [erow x i] := by rw [List.zipWith_append (by rw [hB])]; rfl
  rw [hrows] at h1
  refine ⟨id, _, vref i x, by simp, h1, ?_, rfl, (h3 id (by simp)).1, (h3 id (by simp)).2, fun ts σ2 k1 k2 => ?_⟩
  · rw [List.getElem?_append_right (by omega), hz, Nat.sub_self]; rfl
  · refine ⟨id, B ++ [i], by simp, ?_, h2, h3, ?_⟩
    · rw [k1, set_mid _ _ _ _ _ hz, List.zipWith_append (by rw [hB])]
      rfl
    · refine ⟨by simp [hB], fun j y k hy hk => ?_⟩
      have hkm := List.mem_of_getElem? hk
      have hkid : k ≠ id := fun e => by
        subst e
        exact (List.nodup_cons.1 h2).1 hkm
      rw [k2 k hkid (h3 k (List.mem_cons_of_mem _ hkm)).2]
      rw [List.getElem?_append] at hy
      split at hy <;> rename_i hj
      · exact h4.2 j y k (by rw [List.getElem?_append_left hj]; exact hy) hk
      · have hj0 : j - A.length = 0 := by
          rcases Nat.eq_zero_or_pos (j - A.length) with h | h
          · exact h
          · rw [List.getElem?_eq_none (by simp; omega)] at hy; cases hy
        rw [hj0] at hy
        simp only [List.getElem?_cons_zero, Option.some.injEq] at hy
        subst hy
        exact h4.2 j x k (by rw [List.getElem?_append_right (by omega), hj0]; rfl) hk

/-- Where the open one stands. -/
theorem open_idx {d : Int} : ∀ {L : Int} {l : List Ver}, chk d L l = true → idxF (fun x => x.e == 0) l = if openL l = true then ((l.length - 1 : Nat) : Int) else -1
  | _, [], _ => rfl
  | L, x :: xs, h => by
    rw [chk, okVer_one] at h
    simp only [Bool.and_eq_true, Bool.or_eq_true, Bool.not_eq_true', beq_eq_false_iff_ne] at h
    obtain ⟨⟨⟨h1, h2⟩, h3⟩, h4⟩ := h
    have ih := open_idx h4
    cases xs with
    | nil =>
      by_cases he : x.e = 0
      · simp [idxF, openL, he]
      · simp [idxF, openL, he, List.findIdx?_cons]
    | cons y ys =>
      simp only [List.isEmpty_cons, Bool.false_eq_true, or_false] at h3
      have ho : openL (x :: y :: ys) = openL (y :: ys) := by simp [openL]
      rw [ho]
      unfold idxF at ih ⊢
      rw [List.findIdx?_cons]
      have he : (x.e == 0) = false := by simpa using h3
      rw [he]
      simp only [Bool.false_eq_true, if_false]
      cases hf : (y :: ys).findIdx? (fun x => x.e == 0) with
      | none =>
        rw [hf] at ih
        simp only [Option.map_none] at ih ⊢
        cases hb : openL (y :: ys) <;> rw [hb] at ih <;> simp at ih ⊢
      | some i =>
        rw [hf] at ih
        simp only [Option.map_some] at ih ⊢
        cases hb : openL (y :: ys) <;> rw [hb] at ih <;> simp at ih ⊢ <;> omega

end Go.Q.S3
end

section
/- Pruning, with rows of its own. -/
set_option linter.unusedSimpArgs false
set_option linter.unusedVariables false
namespace Go.Q.S3
open Go.Q

def goesP (fl : Int) (x : Ver) : Bool := x.e != 0 && decide (x.e ≤ fl)

theorem r44 (b e : Int) (v : Option (List Int)) (fl : Int) : res T 44 [.agg [.int .u64 b, .int .u64 e, slV 1 i32V v], .box [.int .u64 fl]] = some (.bool (goesP fl ⟨b, e, v⟩)) := by
  refine run_res (run_pure (fn := g44) rfl rfl (by decide) ?_)
  simp only [g44, b44]
  simp +contextual -implicitDefEqProofs (maxSteps := 2000000) only [↓wP, wQ, wQ1, wQ2, wQ3, boxE, List.take_length, partsOf, ↓reduceIte, Nat.reduceEqDiff, Nat.reduceAdd, Nat.reduceSub, Nat.reduceLeDiff, Nat.reduceLT, Nat.reduceMul, Nat.zero_add, Nat.add_zero, Nat.mul_zero, Nat.le_refl, Nat.zero_le, Nat.one_ne_zero, Nat.zero_ne_one, reduceCtorEq, List.map_cons, List.map_nil, List.mapM_cons, List.mapM_nil, List.flatMap_cons, List.flatMap_nil, List.append_nil, List.nil_append, List.cons_append, List.drop_zero, List.drop_succ_cons, List.take_zero, List.take_succ_cons, List.take_nil, List.drop_nil, List.length_cons, List.length_nil, List.getElem?_cons_zero, List.getElem?_cons_succ, List.getElem?_nil, List.set_cons_zero, List.set_cons_succ, List.all_cons, List.all_nil, Option.bind_some, Option.bind_none, Option.map_some, Option.map_none, Option.pure_def, Option.bind_eq_bind, Bool.and_true, Bool.true_and, Bool.and_self, Bool.or_false, Bool.false_or, Bool.and_false, Bool.false_and, Bool.or_true, Bool.true_or, Bool.not_true, Bool.not_false, Bool.not_not, decide_true, decide_false, and_self, and_true, true_and, beq_self_eq_true, beq_true, beq_false, bne_self_eq_false, Int.reduceBNe, Int.reduceBEq, Int.reduceLT, Int.reduceLE, Int.reduceGT, Bool.false_eq_true, Nat.zero_lt_succ, Nat.zero_lt_one, Nat.add_assoc, Nat.left_eq_add, Nat.add_eq_left]
  rfl

theorem f44 (b e : Int) (v : Option (List Int)) (fl : Int) (fs : Bool) (σ : Sto) (n lk : Nat) : callE T fs 44 [.agg [.int .u64 b, .int .u64 e, slV 1 i32V v], .box [.int .u64 fl]] σ n lk = some (.bool (goesP fl ⟨b, e, v⟩), σ, n) :=
  callE_tr (by decide) (r44 b e v fl) (by simp [Tr, Tr_slV]) rfl fs σ n lk

theorem r47 (b e : Int) (v : Option (List Int)) (fl : Int) : res T 47 [.agg [.int .u64 b, .int .u64 e, slV 1 i32V v], .box [.fn 44 [.box [.int .u64 fl]]]] = some (.bool (!goesP fl ⟨b, e, v⟩)) := by
  refine run_res (run_pure (fn := g47) rfl rfl (by decide) ?_)
  simp only [g47, b47]
  have h := f44 b e v fl
  simp +contextual -implicitDefEqProofs (maxSteps := 2000000) only [↓wP, wQ, wQ1, wQ2, wQ3, boxE, List.take_length, partsOf, ↓reduceIte, Nat.reduceEqDiff, Nat.reduceAdd, Nat.reduceSub, Nat.reduceLeDiff, Nat.reduceLT, Nat.reduceMul, Nat.zero_add, Nat.add_zero, Nat.mul_zero, Nat.le_refl, Nat.zero_le, Nat.one_ne_zero, Nat.zero_ne_one, reduceCtorEq, List.map_cons, List.map_nil, List.mapM_cons, List.mapM_nil, List.flatMap_cons, List.flatMap_nil, List.append_nil, List.nil_append, List.cons_append, List.drop_zero, List.drop_succ_cons, List.take_zero, List.take_succ_cons, List.take_nil, List.drop_nil, List.length_cons, List.length_nil, List.getElem?_cons_zero, List.getElem?_cons_succ, List.getElem?_nil, List.set_cons_zero, List.set_cons_succ, List.all_cons, List.all_nil, Option.bind_some, Option.bind_none, Option.map_some, Option.map_none, Option.pure_def, Option.bind_eq_bind, Bool.and_true, Bool.true_and, Bool.and_self, Bool.or_false, Bool.false_or, Bool.and_false, Bool.false_and, Bool.or_true, Bool.true_or, Bool.not_true, Bool.not_false, Bool.not_not, decide_true, decide_false, and_self, and_true, true_and, beq_self_eq_true, beq_true, beq_false, bne_self_eq_false, Int.reduceBNe, Int.reduceBEq, Int.reduceLT, Int.reduceLE, Int.reduceGT, Bool.false_eq_true, Nat.zero_lt_succ, Nat.zero_lt_one, Nat.add_assoc, Nat.left_eq_add, Nat.add_eq_left, h]

theorem f47 (b e : Int) (v : Option (List Int)) (fl : Int) (fs : Bool) (σ : Sto) (n lk : Nat) : callE T fs 47 [.agg [.int .u64 b, .int .u64 e, slV 1 i32V v], .box [.fn 44 [.box [.int .u64 fl]]]] σ n lk = some (.bool (!goesP fl ⟨b, e, v⟩), σ, n) :=
  callE_tr (by decide) (r47 b e v fl) (by simp [Tr, Tr_slV]) rfl fs σ n lk

/-- Versions with their vectors' rows. -/
abbrev Z1 := Ver × Nat
def ev (z : Z1) : V := .agg [.int .u64 z.1.b, .int .u64 z.1.e, .ref z.2 0 (lst z.1.v).length 1]

theorem zip_ev : ∀ (L : List Ver) (ids : List Nat), L.zipWith erow ids = (L.zip ids).map ev
  | [], _ => by simp
  | _ :: _, [] => by simp
  | x :: L, i :: ids => by
    rw [List.zipWith_cons_cons, List.zip_cons_cons, List.map_cons, zip_ev L ids]
    rfl

def RowZ (σ : Sto) (cv : V) (Z : List Z1) : Prop := (cv = .nilS ∧ Z = []) ∨ ∃ id, cv = .ref id 0 Z.length 3 ∧ σ id = some (.row 3 (Z.map ev))

theorem Chn.rowZ {σ : Sto} {m n : Nat} {v : V} {o : Option (List Ver)} (h : Chn σ m n v o) : ∃ Z : List Z1, RowZ σ v Z ∧ Z.map Prod.fst = lst o ∧ (Z.map Prod.snd).Nodup ∧ (∀ z ∈ Z, m ≤ z.2 ∧ z.2 < n ∧ σ z.2 = some (.row 1 ((lst z.1.v).map i32V))) ∧
    (∀ id off len sz, v = .ref id off len sz → m ≤ id ∧ id < n ∧ id ∉ Z.map Prod.snd) := by
  cases o with
  | none =>
    simp only [Chn] at h
    subst h
    exact ⟨[], .inl ⟨rfl, rfl⟩, rfl, by simp, by simp, fun _ _ _ _ h => by cases h⟩
  | some L =>
    obtain ⟨id, ids, rfl, h1, h2, h3, h4⟩ := h
    have hl : ids.length = L.length := h4.1
    refine ⟨L.zip ids, .inr ⟨id, by simp [hl], by rw [← zip_ev]; exact h1⟩, List.map_fst_zip (by omega), ?_, fun z hz => ?_, fun i off len sz he => ?_⟩
    · rw [List.map_snd_zip (by omega)]; exact (List.nodup_cons.1 h2).2
    · obtain ⟨j, hj, rfl⟩ := List.getElem_of_mem hz
      have hj1 : j < L.length := by simp at hj; omega
      have hj2 : j < ids.length := by omega
      rw [List.getElem_zip]
      have hb := h3 ids[j] (List.mem_cons_of_mem _ (List.getElem_mem hj2))
      exact ⟨hb.1, hb.2, h4.2 j _ _ (List.getElem?_eq_getElem hj1) (List.getElem?_eq_getElem hj2)⟩
    · cases he
      rw [List.map_snd_zip (by omega)]
      have hb := h3 id (by simp)
      exact ⟨hb.1, hb.2, (List.nodup_cons.1 h2).1⟩

/-- Rows out of a chain are a chain. -/
theorem chn_of_pl {σ : Sto} {m m1 n : Nat} {v : V} {Z : List Z1} (hp : Pl σ m1 n 3 v ((opt Z).map (List.map ev))) (hn : (Z.map Prod.snd).Nodup) (hm : m ≤ m1) (hz : ∀ z ∈ Z, m ≤ z.2 ∧ z.2 < m1 ∧ σ z.2 = some (.row 1 ((lst z.1.v).map i32V))) (hmn : m1 ≤ n) :
    Chn σ m n v (opt (Z.map Prod.fst)) := by
  cases Z with
  | nil => exact hp
  | cons z Z =>
    obtain ⟨i, rfl, h1, h2, h3⟩ := hp
    have e : opt ((z :: Z).map Prod.fst) = some ((z :: Z).map Prod.fst) := rfl
    rw [e]
    refine ⟨i, (z :: Z).map Prod.snd, by simp, ?_, List.nodup_cons.2 ⟨fun hi => ?_, hn⟩, fun k hk => ?_, ?_⟩
    · have e2 : ((z :: Z).map Prod.fst).zipWith erow ((z :: Z).map Prod.snd) = (z :: Z).map ev := by
        rw [zip_ev]
        congr 1
        generalize z :: Z = Y
        induction Y with
        | nil => rfl
        | cons y Y ih => rw [List.map_cons, List.map_cons, List.zip_cons_cons, ih]
      rw [e2]; exact h1
    · obtain ⟨y, hy, rfl⟩ := List.mem_map.1 hi
      have := (hz y hy).2.1
      omega
    · rcases List.mem_cons.1 hk with rfl | hk
      · omega
      · obtain ⟨y, hy, rfl⟩ := List.mem_map.1 hk
        have := hz y hy
        omega
    · refine ⟨by simp, fun j x k hx hk => ?_⟩
      rw [List.getElem?_map, Option.map_eq_some_iff] at hx hk
      obtain ⟨y, hy, rfl⟩ := hx
      obtain ⟨y', hy', rfl⟩ := hk
      rw [hy] at hy'
      cases hy'
      exact (hz y (List.mem_of_getElem? hy)).2.2

theorem that56 (L : List Z1) (cv : V) (F : Nat) (fcaps : List V) (p : Z1 → Bool) (J : List Z1 → Sto → Nat → Prop) (l pc pi : Nat) (hlen : L.length < 9223372036854775808)
    (hc : ∀ pre σ n, J pre σ n → σ pc = some (.row 1 [cv]) ∧ σ pi = some (.row 1 [.fn F fcaps]) ∧ RowZ σ cv L)
    (hal : ∀ pre σ n σ', J pre σ n → (∀ i, i ≠ n → σ' i = σ i) → J pre σ' (n + 1))
    (hp : ∀ pre σ n z, z ∈ L → J pre σ n → callE T true F (ev z :: fcaps) σ n 0 = some (.bool (p z), σ, n))
    (hy : ∀ pre σ n z, z ∈ L → pre.length < L.length → J pre σ n → yieldW (run T) l [ev z] σ n 0 (fun y σ' n' => y = .bool true ∧ J (pre ++ [z]) σ' n'))
    (σ0 : Sto) (n0 : Nat) (h0 : J [] σ0 n0) : run T (.raw 56 [.yld l, .ptr pc 1 0 0, .ptr pi 1 0 0] σ0 n0 0) (memQ fun _ σ' n' => J (L.filter p) σ' n') := by
  refine run_rawE (fn := g56) rfl rfl ?_
  obtain ⟨c1, c2, c3⟩ := hc _ _ _ h0
  have hle : lenE cv = some (.int .i64 (L.length : Int)) := by
    rcases c3 with ⟨rfl, rfl⟩ | ⟨id, rfl, -⟩
    · rfl
    · rw [lenE_ref]
  have hcl : cv.cells = [cv] := by rcases c3 with ⟨rfl, -⟩ | ⟨id, rfl, -⟩ <;> rfl
  simp only [g56, b56]
  simp +contextual -implicitDefEqProofs (maxSteps := 2000000) only [↓wP, wQ, wQ1, wQ2, wQ3, boxE, List.take_length, partsOf, ↓reduceIte, Nat.reduceEqDiff, Nat.reduceAdd, Nat.reduceSub, Nat.reduceLeDiff, Nat.reduceLT, Nat.reduceMul, Nat.zero_add, Nat.add_zero, Nat.mul_zero, Nat.le_refl, Nat.zero_le, Nat.one_ne_zero, Nat.zero_ne_one, reduceCtorEq, List.map_cons, List.map_nil, List.mapM_cons, List.mapM_nil, List.flatMap_cons, List.flatMap_nil, List.append_nil, List.nil_append, List.cons_append, List.drop_zero, List.drop_succ_cons, List.take_zero, List.take_succ_cons, List.take_nil, List.drop_nil, List.length_cons, List.length_nil, List.getElem?_cons_zero, List.getElem?_cons_succ, List.getElem?_nil, List.set_cons_zero, List.set_cons_succ, List.all_cons, List.all_nil, Option.bind_some, Option.bind_none, Option.map_some, Option.map_none, Option.pure_def, Option.bind_eq_bind, Bool.and_true, Bool.true_and, Bool.and_self, Bool.or_false, Bool.false_or, Bool.and_false, Bool.false_and, Bool.or_true, Bool.true_or, Bool.not_true, Bool.not_false, Bool.not_not, decide_true, decide_false, and_self, and_true, true_and, beq_self_eq_true, beq_true, beq_false, bne_self_eq_false, Int.reduceBNe, Int.reduceBEq, Int.reduceLT, Int.reduceLE, Int.reduceGT, Bool.false_eq_true, Nat.zero_lt_succ, Nat.zero_lt_one, Nat.add_assoc, Nat.left_eq_add, Nat.add_eq_left, c1, hle, hcl]
  refine WC_for L.length 0 (fun (j : Nat) env σ n => env 0 = .yld l ∧ env 2 = .ptr pi 1 0 0 ∧ env 6 = cv ∧ J ((L.take j).filter p) σ n) hlen ?_ ?_ ?_ ?_ ?_ ?_ _ _ _ rfl rfl ?_
  · decide
  · decide
  · exact fun _ _ => rfl
  · exact fun _ _ _ => rfl
  · intro j env σ n hj h1 h2 ⟨h3, h4, h5, h6⟩
    simp only [vl_tmp] at h2
    obtain ⟨d1, d2, d3⟩ := hc _ _ _ h6
    rcases d3 with ⟨-, rfl⟩ | ⟨id, rfl, d4⟩
    · simp at hj
    have hz := List.getElem_mem hj
    have hx : (L.map ev)[j]? = some (.agg [.int .u64 L[j].1.b, .int .u64 L[j].1.e, .ref L[j].2 0 (lst L[j].1.v).length 1]) := by
      rw [List.getElem?_map, List.getElem?_eq_getElem hj]; rfl
    have hJ1 := hal _ σ n (upd (upd σ n (some (.row 3 [.agg [.int .u64 0, .int .u64 0, .nilS]]))) n (some (.row 3 [.agg [.int .u64 L[j].1.b, .int .u64 L[j].1.e, .ref L[j].2 0 (lst L[j].1.v).length 1]]))) h6 (fun i hi => by simp [upd, hi])
    obtain ⟨e1, e2, -⟩ := hc _ _ _ hJ1
    have hpx := hp _ _ _ L[j] hz hJ1
    have hyx := hy _ _ _ L[j] hz (by have := List.length_filter_le p (L.take j); rw [List.length_take] at this; omega) hJ1
    simp only [ev] at hpx hyx
    have hf : (L.take (j + 1)).filter p = (L.take j).filter p ++ if p L[j] = true then [L[j]] else [] := by
      rw [← List.take_append_getElem hj, List.filter_append]
      congr 1
      cases hh : p L[j] <;> simp [hh]
    have hpi : (pi = n) = False := by
      simp only [eq_iff_iff, iff_false]
      rintro rfl
      simp [upd] at e2
    cases hq : p L[j]
    · rw [hq] at hpx
      simp +contextual -implicitDefEqProofs (maxSteps := 2000000) only [↓wP, wQ, wQ1, wQ2, wQ3, boxE, List.take_length, partsOf, ↓reduceIte, Nat.reduceEqDiff, Nat.reduceAdd, Nat.reduceSub, Nat.reduceLeDiff, Nat.reduceLT, Nat.reduceMul, Nat.zero_add, Nat.add_zero, Nat.mul_zero, Nat.le_refl, Nat.zero_le, Nat.one_ne_zero, Nat.zero_ne_one, reduceCtorEq, List.map_cons, List.map_nil, List.mapM_cons, List.mapM_nil, List.flatMap_cons, List.flatMap_nil, List.append_nil, List.nil_append, List.cons_append, List.drop_zero, List.drop_succ_cons, List.take_zero, List.take_succ_cons, List.take_nil, List.drop_nil, List.length_cons, List.length_nil, List.getElem?_cons_zero, List.getElem?_cons_succ, List.getElem?_nil, List.set_cons_zero, List.set_cons_succ, List.all_cons, List.all_nil, Option.bind_some, Option.bind_none, Option.map_some, Option.map_none, Option.pure_def, Option.bind_eq_bind, Bool.and_true, Bool.true_and, Bool.and_self, Bool.or_false, Bool.false_or, Bool.and_false, Bool.false_and, Bool.or_true, Bool.true_or, Bool.not_true, Bool.not_false, Bool.not_not, decide_true, decide_false, and_self, and_true, true_and, beq_self_eq_true, beq_true, beq_false, bne_self_eq_false, Int.reduceBNe, Int.reduceBEq, Int.reduceLT, Int.reduceLE, Int.reduceGT, Bool.false_eq_true, Nat.zero_lt_succ, Nat.zero_lt_one, Nat.add_assoc, Nat.left_eq_add, Nat.add_eq_left, h1, h2, h3, h4, h5, hj, hx, d4, hpi, d2, hpx]
      rw [hf, hq]
      simpa using hJ1
    · rw [hq] at hpx
      simp +contextual -implicitDefEqProofs (maxSteps := 2000000) only [↓wP, wQ, wQ1, wQ2, wQ3, boxE, List.take_length, partsOf, ↓reduceIte, Nat.reduceEqDiff, Nat.reduceAdd, Nat.reduceSub, Nat.reduceLeDiff, Nat.reduceLT, Nat.reduceMul, Nat.zero_add, Nat.add_zero, Nat.mul_zero, Nat.le_refl, Nat.zero_le, Nat.one_ne_zero, Nat.zero_ne_one, reduceCtorEq, List.map_cons, List.map_nil, List.mapM_cons, List.mapM_nil, List.flatMap_cons, List.flatMap_nil, List.append_nil, List.nil_append, List.cons_append, List.drop_zero, List.drop_succ_cons, List.take_zero, List.take_succ_cons, List.take_nil, List.drop_nil, List.length_cons, List.length_nil, List.getElem?_cons_zero, List.getElem?_cons_succ, List.getElem?_nil, List.set_cons_zero, List.set_cons_succ, List.all_cons, List.all_nil, Option.bind_some, Option.bind_none, Option.map_some, Option.map_none, Option.pure_def, Option.bind_eq_bind, Bool.and_true, Bool.true_and, Bool.and_self, Bool.or_false, Bool.false_or, Bool.and_false, Bool.false_and, Bool.or_true, Bool.true_or, Bool.not_true, Bool.not_false, Bool.not_not, decide_true, decide_false, and_self, and_true, true_and, beq_self_eq_true, beq_true, beq_false, bne_self_eq_false, Int.reduceBNe, Int.reduceBEq, Int.reduceLT, Int.reduceLE, Int.reduceGT, Bool.false_eq_true, Nat.zero_lt_succ, Nat.zero_lt_one, Nat.add_assoc, Nat.left_eq_add, Nat.add_eq_left, h1, h2, h3, h4, h5, hj, hx, d4, hpi, d2, hpx]
      refine stepW_yld (yieldW_mono (fun _ _ x => x) run_mono (fun y σ' n' ⟨hy1, hy2⟩ => ?_) hyx)
      subst hy1
      simp +contextual -implicitDefEqProofs (maxSteps := 2000000) only [↓wP, wQ, wQ1, wQ2, wQ3, boxE, List.take_length, partsOf, ↓reduceIte, Nat.reduceEqDiff, Nat.reduceAdd, Nat.reduceSub, Nat.reduceLeDiff, Nat.reduceLT, Nat.reduceMul, Nat.zero_add, Nat.add_zero, Nat.mul_zero, Nat.le_refl, Nat.zero_le, Nat.one_ne_zero, Nat.zero_ne_one, reduceCtorEq, List.map_cons, List.map_nil, List.mapM_cons, List.mapM_nil, List.flatMap_cons, List.flatMap_nil, List.append_nil, List.nil_append, List.cons_append, List.drop_zero, List.drop_succ_cons, List.take_zero, List.take_succ_cons, List.take_nil, List.drop_nil, List.length_cons, List.length_nil, List.getElem?_cons_zero, List.getElem?_cons_succ, List.getElem?_nil, List.set_cons_zero, List.set_cons_succ, List.all_cons, List.all_nil, Option.bind_some, Option.bind_none, Option.map_some, Option.map_none, Option.pure_def, Option.bind_eq_bind, Bool.and_true, Bool.true_and, Bool.and_self, Bool.or_false, Bool.false_or, Bool.and_false, Bool.false_and, Bool.or_true, Bool.true_or, Bool.not_true, Bool.not_false, Bool.not_not, decide_true, decide_false, and_self, and_true, true_and, beq_self_eq_true, beq_true, beq_false, bne_self_eq_false, Int.reduceBNe, Int.reduceBEq, Int.reduceLT, Int.reduceLE, Int.reduceGT, Bool.false_eq_true, Nat.zero_lt_succ, Nat.zero_lt_one, Nat.add_assoc, Nat.left_eq_add, Nat.add_eq_left, h1, h2, h3, h4, h5]
      rw [hf, hq]
      simpa using hy2
  · intro env σ n ⟨h3, h4, h5, h6⟩ h1 h2
    rw [List.take_length] at h6
    simp +contextual -implicitDefEqProofs (maxSteps := 2000000) only [↓wP, wQ, wQ1, wQ2, wQ3, boxE, List.take_length, partsOf, ↓reduceIte, Nat.reduceEqDiff, Nat.reduceAdd, Nat.reduceSub, Nat.reduceLeDiff, Nat.reduceLT, Nat.reduceMul, Nat.zero_add, Nat.add_zero, Nat.mul_zero, Nat.le_refl, Nat.zero_le, Nat.one_ne_zero, Nat.zero_ne_one, reduceCtorEq, List.map_cons, List.map_nil, List.mapM_cons, List.mapM_nil, List.flatMap_cons, List.flatMap_nil, List.append_nil, List.nil_append, List.cons_append, List.drop_zero, List.drop_succ_cons, List.take_zero, List.take_succ_cons, List.take_nil, List.drop_nil, List.length_cons, List.length_nil, List.getElem?_cons_zero, List.getElem?_cons_succ, List.getElem?_nil, List.set_cons_zero, List.set_cons_succ, List.all_cons, List.all_nil, Option.bind_some, Option.bind_none, Option.map_some, Option.map_none, Option.pure_def, Option.bind_eq_bind, Bool.and_true, Bool.true_and, Bool.and_self, Bool.or_false, Bool.false_or, Bool.and_false, Bool.false_and, Bool.or_true, Bool.true_or, Bool.not_true, Bool.not_false, Bool.not_not, decide_true, decide_false, and_self, and_true, true_and, beq_self_eq_true, beq_true, beq_false, bne_self_eq_false, Int.reduceBNe, Int.reduceBEq, Int.reduceLT, Int.reduceLE, Int.reduceGT, Bool.false_eq_true, Nat.zero_lt_succ, Nat.zero_lt_one, Nat.add_assoc, Nat.left_eq_add, Nat.add_eq_left]
    exact h6
  · exact ⟨rfl, rfl, rfl, h0⟩

theorem collectA {env : Nat → V} {σ : Sto} {n : Nat} {Q : Ex → St → Prop} (L : List Z1) (cv : V) (F : Nat) (fcaps : List V) (p : Z1 → Bool) (pc pi d : Nat)
    (hg : env 22 = .fn 56 [.ptr pc 1 0 0, .ptr pi 1 0 0]) (hd : env 10 = .ptr d 1 0 0) (h1 : σ pc = some (.row 1 [cv])) (h2 : σ pi = some (.row 1 [.fn F fcaps])) (h3 : RowZ σ cv L) (h4 : σ d = some (.row 1 [.nilS]))
    (l1 : pc < n) (l2 : pi < n) (l4 : d < n) (l3 : ∀ id off len sz, cv = .ref id off len sz → id < n ∧ id ≠ d) (n1 : pc ≠ d) (n2 : pi ≠ d)
    (hp : ∀ σ' n' z, z ∈ L → (∀ i, i < n → i ≠ d → σ' i = σ i) → callE T true F (ev z :: fcaps) σ' n' 0 = some (.bool (p z), σ', n'))
    (hl : L.length * 40 ≤ LIM)
    (hQ : ∀ σ' n' gv, (∀ i, i < n → i ≠ d → σ' i = σ i) → n ≤ n' → σ' d = some (.row 1 [gv]) → Pl σ' n n' 3 gv ((opt (L.filter p)).map (List.map ev)) → Q .normal ⟨env, σ', n', 0⟩) :
    WC T (.rangeF (.tmp 22) [23] (.reg [⟨some 11, none, .alloc (.agg [.int .u64 0, .int .u64 0, .nilS])⟩, ⟨none, none, .store 3 (.tmp 11) (.tmp 23)⟩])
      (.block 1 (.reg [⟨some 24, none, .load false 1 (.tmp 10)⟩, ⟨some 25, none, .load true 3 (.tmp 11)⟩, ⟨some 26, none, .lit 3 [.tmp 25]⟩,
        ⟨some 27, none, .append 3 40 (.tmp 24) (.tmp 26)⟩, ⟨none, none, .store 1 (.tmp 10) (.tmp 27)⟩]))) env σ n 0 Q := by
  refine WC_rangeF hg (Nat.zero_le _) ?_
  generalize hA : AC.reg [⟨some 11, none, .alloc (.agg [.int .u64 0, .int .u64 0, .nilS])⟩, ⟨none, none, .store 3 (.tmp 11) (.tmp 23)⟩] = asg
  generalize hB : AC.block 1 (.reg [⟨some 24, none, .load false 1 (.tmp 10)⟩, ⟨some 25, none, .load true 3 (.tmp 11)⟩, ⟨some 26, none, .lit 3 [.tmp 25]⟩,
        ⟨some 27, none, .append 3 40 (.tmp 24) (.tmp 26)⟩, ⟨none, none, .store 1 (.tmp 10) (.tmp 27)⟩]) = bd
  refine run_mono _ _ _ (fun o ho => ?_) (that56 L cv F fcaps p (fun pre σ' n' => pre.length ≤ L.length ∧ n < n' ∧ (∀ i, i < n → i ≠ d → σ' i = σ i) ∧ σ' n = some (.loop env [23] asg bd .ready none) ∧
    ∃ gv, σ' d = some (.row 1 [gv]) ∧ Pl σ' (n + 1) n' 3 gv ((opt pre).map (List.map ev))) n pc pi (by unfold LIM at hl; omega) ?_ ?_ ?_ ?_ _ _ ?_)
  · cases o <;> try exact ho.elim
    obtain ⟨-, e1, e2, e3, gv, e4, e5⟩ := ho
    refine ⟨_, _, _, _, _, _, e3, by decide, ?_⟩
    refine hQ _ _ gv (fun i hi hd => ?_) (by omega) ?_ ?_
    · have a1 : i ≠ n := by omega
      simp only [upd_get, a1, if_false]
      exact e2 i hi hd
    · have a1 : d ≠ n := by omega
      simp only [upd_get, a1, if_false]
      exact e4
    · cases ho : (opt (L.filter p)).map (List.map ev) with
      | none => rw [ho] at e5; exact e5
      | some xs =>
        rw [ho] at e5
        obtain ⟨i, f1, f2, f3, f4⟩ := e5
        have a1 : i ≠ n := by omega
        exact ⟨i, f1, by simp only [upd_get, a1, if_false]; exact f2, by omega, f4⟩
  · rintro pre σ' n' ⟨-, e1, e2, e3, -⟩
    refine ⟨(e2 _ l1 n1).trans h1, (e2 _ l2 n2).trans h2, ?_⟩
    rcases h3 with h3 | ⟨id, f1, f2⟩
    · exact .inl h3
    · obtain ⟨g1, g2⟩ := l3 _ _ _ _ f1
      exact .inr ⟨id, f1, (e2 _ g1 g2).trans f2⟩
  · rintro pre σ' n' σ2 ⟨e0, e1, e2, e3, gv, e4, e5⟩ hσ
    refine ⟨e0, by omega, fun i hi hd => (hσ i (by omega)).trans (e2 i hi hd), (hσ n (by omega)).trans e3, gv, (hσ d (by omega)).trans e4, e5.loc (fun i _ hi => hσ i (by omega)) (by omega)⟩
  · rintro pre σ' n' z hz ⟨-, e1, e2, -⟩
    exact hp σ' n' z hz e2
  · rintro pre σ' n' z hz hlt ⟨e0, e1, e2, e3, gv, e4, e5⟩
    refine yieldW_go e3 rfl (Nat.zero_le _) ?_
    subst hA
    subst hB
    have a1 : (n = n') = False := by simp; omega
    have a2 : (d = n') = False := by simp; omega
    have a3 : (d = n) = False := by simp; omega
    have a4 : (n = d) = False := by simp; omega
    have a5 : (n' = n) = False := by simp; omega
    have a6 : (n' = d) = False := by simp; omega
    have b1 := e5.cells
    simp only [ev]
    simp +contextual -implicitDefEqProofs (maxSteps := 2000000) only [↓wP, wQ, wQ1, wQ2, wQ3, boxE, List.take_length, partsOf, ↓reduceIte, Nat.reduceEqDiff, Nat.reduceAdd, Nat.reduceSub, Nat.reduceLeDiff, Nat.reduceLT, Nat.reduceMul, Nat.zero_add, Nat.add_zero, Nat.mul_zero, Nat.le_refl, Nat.zero_le, Nat.one_ne_zero, Nat.zero_ne_one, reduceCtorEq, List.map_cons, List.map_nil, List.mapM_cons, List.mapM_nil, List.flatMap_cons, List.flatMap_nil, List.append_nil, List.nil_append, List.cons_append, List.drop_zero, List.drop_succ_cons, List.take_zero, List.take_succ_cons, List.take_nil, List.drop_nil, List.length_cons, List.length_nil, List.getElem?_cons_zero, List.getElem?_cons_succ, List.getElem?_nil, List.set_cons_zero, List.set_cons_succ, List.all_cons, List.all_nil, Option.bind_some, Option.bind_none, Option.map_some, Option.map_none, Option.pure_def, Option.bind_eq_bind, Bool.and_true, Bool.true_and, Bool.and_self, Bool.or_false, Bool.false_or, Bool.and_false, Bool.false_and, Bool.or_true, Bool.true_or, Bool.not_true, Bool.not_false, Bool.not_not, decide_true, decide_false, and_self, and_true, true_and, beq_self_eq_true, beq_true, beq_false, bne_self_eq_false, Int.reduceBNe, Int.reduceBEq, Int.reduceLT, Int.reduceLE, Int.reduceGT, Bool.false_eq_true, Nat.zero_lt_succ, Nat.zero_lt_one, Nat.add_assoc, Nat.left_eq_add, Nat.add_eq_left, bind_cons, bind_nil, hd, e3, e4, a1, a2, a3, a4, a5, a6, b1]
    refine stepW_appP e5 (fun i hi hi' => ?_) (by omega) (by omega) (Nat.zero_le _) ?_ (fun v' σ2 n2 q1 q2 q3 => ?_)
    · have c1 : i ≠ n' + 1 := by omega
      have c2 : i ≠ n' := by omega
      have c3 : i ≠ n := by omega
      simp only [upd_get, c1, c2, c3, if_false]
    · rw [lst_map, lst_opt]
      simp only [List.length_map, List.length_cons, List.length_nil]
      refine Nat.le_trans (Nat.mul_le_mul_right 40 ?_) hl
      omega
    · have d1 := q3 d (by omega)
      have d2 := q3 n (by omega)
      have c1 : (d = n' + 1) = False := by simp; omega
      have c2 : (n = n' + 1) = False := by simp; omega
      simp only [upd_get, a1, a2, a3, a4, a5, a6, c1, c2, if_false, if_true, e4] at d1 d2
      have b2 := q1.cells
      have b3 := q1.one
      have b4 := spl_one e5.one 0 v'
      simp +contextual -implicitDefEqProofs (maxSteps := 2000000) only [↓wP, wQ, wQ1, wQ2, wQ3, boxE, List.take_length, partsOf, ↓reduceIte, Nat.reduceEqDiff, Nat.reduceAdd, Nat.reduceSub, Nat.reduceLeDiff, Nat.reduceLT, Nat.reduceMul, Nat.zero_add, Nat.add_zero, Nat.mul_zero, Nat.le_refl, Nat.zero_le, Nat.one_ne_zero, Nat.zero_ne_one, reduceCtorEq, List.map_cons, List.map_nil, List.mapM_cons, List.mapM_nil, List.flatMap_cons, List.flatMap_nil, List.append_nil, List.nil_append, List.cons_append, List.drop_zero, List.drop_succ_cons, List.take_zero, List.take_succ_cons, List.take_nil, List.drop_nil, List.length_cons, List.length_nil, List.getElem?_cons_zero, List.getElem?_cons_succ, List.getElem?_nil, List.set_cons_zero, List.set_cons_succ, List.all_cons, List.all_nil, Option.bind_some, Option.bind_none, Option.map_some, Option.map_none, Option.pure_def, Option.bind_eq_bind, Bool.and_true, Bool.true_and, Bool.and_self, Bool.or_false, Bool.false_or, Bool.and_false, Bool.false_and, Bool.or_true, Bool.true_or, Bool.not_true, Bool.not_false, Bool.not_not, decide_true, decide_false, and_self, and_true, true_and, beq_self_eq_true, beq_true, beq_false, bne_self_eq_false, Int.reduceBNe, Int.reduceBEq, Int.reduceLT, Int.reduceLE, Int.reduceGT, Bool.false_eq_true, Nat.zero_lt_succ, Nat.zero_lt_one, Nat.add_assoc, Nat.left_eq_add, Nat.add_eq_left, hd, d1, d2, b2, b3, b4, a3, a4]
      refine ⟨by simp; omega, by omega, fun i hi hid => ?_, v', rfl, ?_⟩
      · have f1 : i ≠ n' + 1 := by omega
        have f2 : i ≠ n' := by omega
        have f3 : i ≠ n := by omega
        rw [if_neg f3, q3 i (by omega)]
        simp only [upd_get, f1, f2, f3, if_false]
        exact e2 i hi hid
      · rw [opt_snoc, appO_map]
        refine q1.loc (fun i hi _ => ?_) (Nat.le_refl _)
        have f1 : i ≠ d := by omega
        have f3 : i ≠ n := by omega
        simp only [upd_get, f1, f3, if_false]
  · refine ⟨Nat.zero_le _, by omega, fun i hi _ => ?_, by simp [upd], .nilS, ?_, rfl⟩
    · have a1 : i ≠ n := by omega
      simp only [upd_get, a1, if_false]
    · have a1 : d ≠ n := by omega
      simp only [upd_get, a1, if_false]
      exact h4

theorem collectB {env : Nat → V} {σ : Sto} {n : Nat} {Q : Ex → St → Prop} (L : List Z1) (cv : V) (F : Nat) (fcaps : List V) (p : Z1 → Bool) (pc pi d : Nat)
    (hg : env 31 = .fn 56 [.ptr pc 1 0 0, .ptr pi 1 0 0]) (hd : env 9 = .ptr d 1 0 0) (h1 : σ pc = some (.row 1 [cv])) (h2 : σ pi = some (.row 1 [.fn F fcaps])) (h3 : RowZ σ cv L) (h4 : σ d = some (.row 1 [.nilS]))
    (l1 : pc < n) (l2 : pi < n) (l4 : d < n) (l3 : ∀ id off len sz, cv = .ref id off len sz → id < n ∧ id ≠ d) (n1 : pc ≠ d) (n2 : pi ≠ d)
    (hp : ∀ σ' n' z, z ∈ L → (∀ i, i < n → i ≠ d → σ' i = σ i) → callE T true F (ev z :: fcaps) σ' n' 0 = some (.bool (p z), σ', n'))
    (hl : L.length * 40 ≤ LIM)
    (hQ : ∀ σ' n' gv, (∀ i, i < n → i ≠ d → σ' i = σ i) → n ≤ n' → σ' d = some (.row 1 [gv]) → Pl σ' n n' 3 gv ((opt (L.filter p)).map (List.map ev)) → Q .normal ⟨env, σ', n', 0⟩) :
    WC T (.rangeF (.tmp 31) [32] (.reg [⟨some 12, none, .alloc (.agg [.int .u64 0, .int .u64 0, .nilS])⟩, ⟨none, none, .store 3 (.tmp 12) (.tmp 32)⟩])
      (.block 3 (.reg [⟨some 33, none, .load false 1 (.tmp 9)⟩, ⟨some 34, none, .load true 3 (.tmp 12)⟩, ⟨some 35, none, .lit 3 [.tmp 34]⟩,
        ⟨some 36, none, .append 3 40 (.tmp 33) (.tmp 35)⟩, ⟨none, none, .store 1 (.tmp 9) (.tmp 36)⟩]))) env σ n 0 Q := by
  refine WC_rangeF hg (Nat.zero_le _) ?_
  generalize hA : AC.reg [⟨some 12, none, .alloc (.agg [.int .u64 0, .int .u64 0, .nilS])⟩, ⟨none, none, .store 3 (.tmp 12) (.tmp 32)⟩] = asg
  generalize hB : AC.block 3 (.reg [⟨some 33, none, .load false 1 (.tmp 9)⟩, ⟨some 34, none, .load true 3 (.tmp 12)⟩, ⟨some 35, none, .lit 3 [.tmp 34]⟩,
        ⟨some 36, none, .append 3 40 (.tmp 33) (.tmp 35)⟩, ⟨none, none, .store 1 (.tmp 9) (.tmp 36)⟩]) = bd
  refine run_mono _ _ _ (fun o ho => ?_) (that56 L cv F fcaps p (fun pre σ' n' => pre.length ≤ L.length ∧ n < n' ∧ (∀ i, i < n → i ≠ d → σ' i = σ i) ∧ σ' n = some (.loop env [32] asg bd .ready none) ∧
    ∃ gv, σ' d = some (.row 1 [gv]) ∧ Pl σ' (n + 1) n' 3 gv ((opt pre).map (List.map ev))) n pc pi (by unfold LIM at hl; omega) ?_ ?_ ?_ ?_ _ _ ?_)
  · cases o <;> try exact ho.elim
    obtain ⟨-, e1, e2, e3, gv, e4, e5⟩ := ho
    refine ⟨_, _, _, _, _, _, e3, by decide, ?_⟩
    refine hQ _ _ gv (fun i hi hd => ?_) (by omega) ?_ ?_
    · have a1 : i ≠ n := by omega
      simp only [upd_get, a1, if_false]
      exact e2 i hi hd
    · have a1 : d ≠ n := by omega
      simp only [upd_get, a1, if_false]
      exact e4
    · cases ho : (opt (L.filter p)).map (List.map ev) with
      | none => rw [ho] at e5; exact e5
      | some xs =>
        rw [ho] at e5
        obtain ⟨i, f1, f2, f3, f4⟩ := e5
        have a1 : i ≠ n := by omega
        exact ⟨i, f1, by simp only [upd_get, a1, if_false]; exact f2, by omega, f4⟩
  · rintro pre σ' n' ⟨-, e1, e2, e3, -⟩
    refine ⟨(e2 _ l1 n1).trans h1, (e2 _ l2 n2).trans h2, ?_⟩
    rcases h3 with h3 | ⟨id, f1, f2⟩
    · exact .inl h3
    · obtain ⟨g1, g2⟩ := l3 _ _ _ _ f1
      exact .inr ⟨id, f1, (e2 _ g1 g2).trans f2⟩
  · rintro pre σ' n' σ2 ⟨e0, e1, e2, e3, gv, e4, e5⟩ hσ
    refine ⟨e0, by omega, fun i hi hd => (hσ i (by omega)).trans (e2 i hi hd), (hσ n (by omega)).trans e3, gv, (hσ d (by omega)).trans e4, e5.loc (fun i _ hi => hσ i (by omega)) (by omega)⟩
  · rintro pre σ' n' z hz ⟨-, e1, e2, -⟩
    exact hp σ' n' z hz e2
  · rintro pre σ' n' z hz hlt ⟨e0, e1, e2, e3, gv, e4, e5⟩
    refine yieldW_go e3 rfl (Nat.zero_le _) ?_
    subst hA
    subst hB
    have a1 : (n = n') = False := by simp; omega
    have a2 : (d = n') = False := by simp; omega
    have a3 : (d = n) = False := by simp; omega
    have a4 : (n = d) = False := by simp; omega
    have a5 : (n' = n) = False := by simp; omega
    have a6 : (n' = d) = False := by simp; omega
    have b1 := e5.cells
    simp only [ev]
    simp +contextual -implicitDefEqProofs (maxSteps := 2000000) only [↓wP, wQ, wQ1, wQ2, wQ3, boxE, List.take_length, partsOf, ↓reduceIte, Nat.reduceEqDiff, Nat.reduceAdd, Nat.reduceSub, Nat.reduceLeDiff, Nat.reduceLT, Nat.reduceMul, Nat.zero_add, Nat.add_zero, Nat.mul_zero, Nat.le_refl, Nat.zero_le, Nat.one_ne_zero, Nat.zero_ne_one, reduceCtorEq, List.map_cons, List.map_nil, List.mapM_cons, List.mapM_nil, List.flatMap_cons, List.flatMap_nil, List.append_nil, List.nil_append, List.cons_append, List.drop_zero, List.drop_succ_cons, List.take_zero, List.take_succ_cons, List.take_nil, List.drop_nil, List.length_cons, List.length_nil, List.getElem?_cons_zero, List.getElem?_cons_succ, List.getElem?_nil, List.set_cons_zero, List.set_cons_succ, List.all_cons, List.all_nil, Option.bind_some, Option.bind_none, Option.map_some, Option.map_none, Option.pure_def, Option.bind_eq_bind, Bool.and_true, Bool.true_and, Bool.and_self, Bool.or_false, Bool.false_or, Bool.and_false, Bool.false_and, Bool.or_true, Bool.true_or, Bool.not_true, Bool.not_false, Bool.not_not, decide_true, decide_false, and_self, and_true, true_and, beq_self_eq_true, beq_true, beq_false, bne_self_eq_false, Int.reduceBNe, Int.reduceBEq, Int.reduceLT, Int.reduceLE, Int.reduceGT, Bool.false_eq_true, Nat.zero_lt_succ, Nat.zero_lt_one, Nat.add_assoc, Nat.left_eq_add, Nat.add_eq_left, bind_cons, bind_nil, hd, e3, e4, a1, a2, a3, a4, a5, a6, b1]
    refine stepW_appP e5 (fun i hi hi' => ?_) (by omega) (by omega) (Nat.zero_le _) ?_ (fun v' σ2 n2 q1 q2 q3 => ?_)
    · have c1 : i ≠ n' + 1 := by omega
      have c2 : i ≠ n' := by omega
      have c3 : i ≠ n := by omega
      simp only [upd_get, c1, c2, c3, if_false]
    · rw [lst_map, lst_opt]
      simp only [List.length_map, List.length_cons, List.length_nil]
      refine Nat.le_trans (Nat.mul_le_mul_right 40 ?_) hl
      omega
    · have d1 := q3 d (by omega)
      have d2 := q3 n (by omega)
      have c1 : (d = n' + 1) = False := by simp; omega
      have c2 : (n = n' + 1) = False := by simp; omega
      simp only [upd_get, a1, a2, a3, a4, a5, a6, c1, c2, if_false, if_true, e4] at d1 d2
      have b2 := q1.cells
      have b3 := q1.one
      have b4 := spl_one e5.one 0 v'
      simp +contextual -implicitDefEqProofs (maxSteps := 2000000) only [↓wP, wQ, wQ1, wQ2, wQ3, boxE, List.take_length, partsOf, ↓reduceIte, Nat.reduceEqDiff, Nat.reduceAdd, Nat.reduceSub, Nat.reduceLeDiff, Nat.reduceLT, Nat.reduceMul, Nat.zero_add, Nat.add_zero, Nat.mul_zero, Nat.le_refl, Nat.zero_le, Nat.one_ne_zero, Nat.zero_ne_one, reduceCtorEq, List.map_cons, List.map_nil, List.mapM_cons, List.mapM_nil, List.flatMap_cons, List.flatMap_nil, List.append_nil, List.nil_append, List.cons_append, List.drop_zero, List.drop_succ_cons, List.take_zero, List.take_succ_cons, List.take_nil, List.drop_nil, List.length_cons, List.length_nil, List.getElem?_cons_zero, List.getElem?_cons_succ, List.getElem?_nil, List.set_cons_zero, List.set_cons_succ, List.all_cons, List.all_nil, Option.bind_some, Option.bind_none, Option.map_some, Option.map_none, Option.pure_def, Option.bind_eq_bind, Bool.and_true, Bool.true_and, Bool.and_self, Bool.or_false, Bool.false_or, Bool.and_false, Bool.false_and, Bool.or_true, Bool.true_or, Bool.not_true, Bool.not_false, Bool.not_not, decide_true, decide_false, and_self, and_true, true_and, beq_self_eq_true, beq_true, beq_false, bne_self_eq_false, Int.reduceBNe, Int.reduceBEq, Int.reduceLT, Int.reduceLE, Int.reduceGT, Bool.false_eq_true, Nat.zero_lt_succ, Nat.zero_lt_one, Nat.add_assoc, Nat.left_eq_add, Nat.add_eq_left, hd, d1, d2, b2, b3, b4, a3, a4]
      refine ⟨by simp; omega, by omega, fun i hi hid => ?_, v', rfl, ?_⟩
      · have f1 : i ≠ n' + 1 := by omega
        have f2 : i ≠ n' := by omega
        have f3 : i ≠ n := by omega
        rw [if_neg f3, q3 i (by omega)]
        simp only [upd_get, f1, f2, f3, if_false]
        exact e2 i hi hid
      · rw [opt_snoc, appO_map]
        refine q1.loc (fun i hi _ => ?_) (Nat.le_refl _)
        have f1 : i ≠ d := by omega
        have f3 : i ≠ n := by omega
        simp only [upd_get, f1, f3, if_false]
  · refine ⟨Nat.zero_le _, by omega, fun i hi _ => ?_, by simp [upd], .nilS, ?_, rfl⟩
    · have a1 : i ≠ n := by omega
      simp only [upd_get, a1, if_false]
    · have a1 : d ≠ n := by omega
      simp only [upd_get, a1, if_false]
      exact h4

end Go.Q.S3
end

section
/- What pruning leaves, with rows of its own. -/
set_option linter.unusedSimpArgs false
set_option linter.unusedVariables false
namespace Go.Q.S3
open Go.Q

def goneL (fl : Int) (l : List Ver) : List Ver := l.filter (goesP fl)
def staysL (fl : Int) (l : List Ver) : List Ver := l.filter fun x => !goesP fl x

theorem filter_fst (p : Ver → Bool) : ∀ (Z : List Z1), (Z.filter fun z => p z.1).map Prod.fst = (Z.map Prod.fst).filter p
  | [] => rfl
  | z :: Z => by
    rw [List.map_cons, List.filter_cons, List.filter_cons]
    split <;> simp [filter_fst p Z]

theorem r27n (o : Option (List Ver)) (fl : Int) (hs : Sm o) (hc : okC o = false) : res T 27 [slV 3 verV o, .int .u64 fl] = some (.tup [.nilS, .nilS, .int .i64 180]) := by
  refine run_res (run_own (fn := g27) rfl rfl (by decide) ?_)
  simp only [g27, b27]
  have h11 := f11 o hs
  simp +contextual -implicitDefEqProofs (maxSteps := 2000000) only [↓wP, wQ, wQ1, wQ2, wQ3, boxE, List.take_length, partsOf, ↓reduceIte, Nat.reduceEqDiff, Nat.reduceAdd, Nat.reduceSub, Nat.reduceLeDiff, Nat.reduceLT, Nat.reduceMul, Nat.zero_add, Nat.add_zero, Nat.mul_zero, Nat.le_refl, Nat.zero_le, Nat.one_ne_zero, Nat.zero_ne_one, reduceCtorEq, List.map_cons, List.map_nil, List.mapM_cons, List.mapM_nil, List.flatMap_cons, List.flatMap_nil, List.append_nil, List.nil_append, List.cons_append, List.drop_zero, List.drop_succ_cons, List.take_zero, List.take_succ_cons, List.take_nil, List.drop_nil, List.length_cons, List.length_nil, List.getElem?_cons_zero, List.getElem?_cons_succ, List.getElem?_nil, List.set_cons_zero, List.set_cons_succ, List.all_cons, List.all_nil, Option.bind_some, Option.bind_none, Option.map_some, Option.map_none, Option.pure_def, Option.bind_eq_bind, Bool.and_true, Bool.true_and, Bool.and_self, Bool.or_false, Bool.false_or, Bool.and_false, Bool.false_and, Bool.or_true, Bool.true_or, Bool.not_true, Bool.not_false, Bool.not_not, decide_true, decide_false, and_self, and_true, true_and, beq_self_eq_true, beq_true, beq_false, bne_self_eq_false, Int.reduceBNe, Int.reduceBEq, Int.reduceLT, Int.reduceLE, Int.reduceGT, Bool.false_eq_true, Nat.zero_lt_succ, Nat.zero_lt_one, Nat.add_assoc, Nat.left_eq_add, Nat.add_eq_left, h11, hc]
  exact giv_trip (o := none) (o' := none) (m := 0) (n := 0) (m' := 0) (n' := 0) rfl rfl (.inl (Nat.le_refl _)) 180

theorem r27 (o : Option (List Ver)) (fl : Int) (hs : Sm o) (hf : FitC o) (ha : AllS (lst o)) (hc : okC o = true) :
    res T 27 [slV 3 verV o, .int .u64 fl] = some (.tup [ownC (opt (staysL fl (lst o))), ownC (opt (goneL fl (lst o))), .int .i64 0]) := by
  refine run_res (run_own (fn := g27) rfl rfl (by decide) ?_)
  simp only [g27, b27]
  have h11 := f11 o hs
  have hm45 : T.mode 45 = .raw := by decide
  have h96 : (lst o).length ≤ 96 := by
    unfold okC at hc
    rw [Bool.and_eq_true, decide_eq_true_eq] at hc
    exact hc.1
  have hB := big_le
  -- the first copy
  obtain ⟨cv, σc, nc, t1, t2, t3, t4⟩ := thaw_ownC (upd (upd (upd (upd (upd Sto.empty 0 (some (.row 1 [.int .u64 fl]))) 1 (some (.row 1 [.nilF]))) 1 (some (.row 1 [.fn 44 [.ptr 0 1 0 0]]))) 2 (some (.row 1 [.nilS]))) 3 (some (.row 1 [.nilS]))) 4 o
  have tn := thaw_ownCn (upd (upd (upd (upd (upd Sto.empty 0 (some (.row 1 [.int .u64 fl]))) 1 (some (.row 1 [.nilF]))) 1 (some (.row 1 [.fn 44 [.ptr 0 1 0 0]]))) 2 (some (.row 1 [.nilS]))) 3 (some (.row 1 [.nilS]))) 4 o
  rw [t1] at tn
  simp only at tn
  have h46 := t46 o hf ha
  have f1 : (nc ≤ 4 + BIG) = True := by simp; omega
  have f2 : ∀ σ : Sto, hide σ 4 (4 + BIG * 1) [0] 1 = σ 1 := fun σ => hide_low σ 4 _ _ (by decide) (by omega)
  have g0 : ∀ σ σ' : Sto, merge σ σ' 4 0 = σ 0 := fun σ σ' => merge_low σ σ' 4 (by decide)
  have g1 : ∀ σ σ' : Sto, merge σ σ' 4 1 = σ 1 := fun σ σ' => merge_low σ σ' 4 (by decide)
  have g2 : ∀ σ σ' : Sto, merge σ σ' 4 2 = σ 2 := fun σ σ' => merge_low σ σ' 4 (by decide)
  have g3 : ∀ σ σ' : Sto, merge σ σ' 4 3 = σ 3 := fun σ σ' => merge_low σ σ' 4 (by decide)
  have hcl := t2.cells
  have hon := t2.one
  simp +contextual -implicitDefEqProofs (maxSteps := 2000000) only [↓wP, wQ, wQ1, wQ2, wQ3, boxE, List.take_length, partsOf, ↓reduceIte, Nat.reduceEqDiff, Nat.reduceAdd, Nat.reduceSub, Nat.reduceLeDiff, Nat.reduceLT, Nat.reduceMul, Nat.zero_add, Nat.add_zero, Nat.mul_zero, Nat.le_refl, Nat.zero_le, Nat.one_ne_zero, Nat.zero_ne_one, reduceCtorEq, List.map_cons, List.map_nil, List.mapM_cons, List.mapM_nil, List.flatMap_cons, List.flatMap_nil, List.append_nil, List.nil_append, List.cons_append, List.drop_zero, List.drop_succ_cons, List.take_zero, List.take_succ_cons, List.take_nil, List.drop_nil, List.length_cons, List.length_nil, List.getElem?_cons_zero, List.getElem?_cons_succ, List.getElem?_nil, List.set_cons_zero, List.set_cons_succ, List.all_cons, List.all_nil, Option.bind_some, Option.bind_none, Option.map_some, Option.map_none, Option.pure_def, Option.bind_eq_bind, Bool.and_true, Bool.true_and, Bool.and_self, Bool.or_false, Bool.false_or, Bool.and_false, Bool.false_and, Bool.or_true, Bool.true_or, Bool.not_true, Bool.not_false, Bool.not_not, decide_true, decide_false, and_self, and_true, true_and, beq_self_eq_true, beq_true, beq_false, bne_self_eq_false, Int.reduceBNe, Int.reduceBEq, Int.reduceLT, Int.reduceLE, Int.reduceGT, Bool.false_eq_true, Nat.zero_lt_succ, Nat.zero_lt_one, Nat.add_assoc, Nat.left_eq_add, Nat.add_eq_left, h11, hc, h46, t1, f1, f2, g1]
  refine stepW_raw hm45 (run_rawE (fn := g45) rfl rfl ?_)
  simp only [g45, b45]
  simp +contextual -implicitDefEqProofs (maxSteps := 2000000) only [↓wP, wQ, wQ1, wQ2, wQ3, boxE, List.take_length, partsOf, ↓reduceIte, Nat.reduceEqDiff, Nat.reduceAdd, Nat.reduceSub, Nat.reduceLeDiff, Nat.reduceLT, Nat.reduceMul, Nat.zero_add, Nat.add_zero, Nat.mul_zero, Nat.le_refl, Nat.zero_le, Nat.one_ne_zero, Nat.zero_ne_one, reduceCtorEq, List.map_cons, List.map_nil, List.mapM_cons, List.mapM_nil, List.flatMap_cons, List.flatMap_nil, List.append_nil, List.nil_append, List.cons_append, List.drop_zero, List.drop_succ_cons, List.take_zero, List.take_succ_cons, List.take_nil, List.drop_nil, List.length_cons, List.length_nil, List.getElem?_cons_zero, List.getElem?_cons_succ, List.getElem?_nil, List.set_cons_zero, List.set_cons_succ, List.all_cons, List.all_nil, Option.bind_some, Option.bind_none, Option.map_some, Option.map_none, Option.pure_def, Option.bind_eq_bind, Bool.and_true, Bool.true_and, Bool.and_self, Bool.or_false, Bool.false_or, Bool.and_false, Bool.false_and, Bool.or_true, Bool.true_or, Bool.not_true, Bool.not_false, Bool.not_not, decide_true, decide_false, and_self, and_true, true_and, beq_self_eq_true, beq_true, beq_false, bne_self_eq_false, Int.reduceBNe, Int.reduceBEq, Int.reduceLT, Int.reduceLE, Int.reduceGT, Bool.false_eq_true, Nat.zero_lt_succ, Nat.zero_lt_one, Nat.add_assoc, Nat.left_eq_add, Nat.add_eq_left, hcl, hon]
  have hB1 : 1000000000000 ≤ BIG * 1 := by omega
  have hncB : nc ≤ 4 + BIG * 1 := by omega
  have kM : ∀ σ : Sto, Chn (merge σ σc 4) 4 nc cv o := fun σ => t2.loc (fun i hi hi' => merge_in σ σc 4 hi (by omega)) (Nat.le_refl _) (Nat.le_refl _)
  clear f1 f2 hB
  generalize BIG * 1 = B at *
  have c0 : (4 + B = 4 + (B + 1)) = False := by simp
  generalize hσ0 : merge (upd (upd (upd (upd (upd Sto.empty 0 (some (.row 1 [.int .u64 fl]))) 1 (some (.row 1 [.nilF]))) 1 (some (.row 1 [.fn 44 [.ptr 0 1 0 0]]))) 2 (some (.row 1 [.nilS]))) 3 (some (.row 1 [.nilS]))) σc 4 = σ0
  have q0 : σ0 0 = some (.row 1 [.int .u64 fl]) := by rw [← hσ0, g0]; simp [upd]
  have q1 : σ0 1 = some (.row 1 [.fn 44 [.ptr 0 1 0 0]]) := by rw [← hσ0, g1]; simp [upd]
  have q2 : σ0 2 = some (.row 1 [.nilS]) := by rw [← hσ0, g2]; simp [upd]
  have q3 : σ0 3 = some (.row 1 [.nilS]) := by rw [← hσ0, g3]; simp [upd]
  have kc : Chn σ0 4 nc cv o := by rw [← hσ0]; exact kM _
  obtain ⟨Z, z1, z2, z3, z4, z5⟩ := kc.rowZ
  have hZl : Z.length = (lst o).length := by rw [← z2, List.length_map]
  have hl : Z.length * 40 ≤ LIM := by rw [hZl]; exact hf.1
  have hup : ∀ i, i < 4 + B → upd (upd σ0 (4 + B) (some (.row 1 [cv]))) (4 + (B + 1)) (some (.row 1 [.fn 44 [.ptr 0 1 0 0]])) i = σ0 i := fun i hi => by
    have a1 : i ≠ 4 + B := by omega
    have a2 : i ≠ 4 + (B + 1) := by omega
    simp only [upd_get, a1, a2, if_false]
  have hmm := mapM_enc i32V (fun _ => rfl)
  have hz44 : ∀ z ∈ Z, res T 44 [.agg [.int .u64 z.1.b, .int .u64 z.1.e, .sl 1 ((lst z.1.v).map i32V)], .box [.int .u64 fl]] = some (.bool (goesP fl z.1)) := fun z hz => by
    have h := r44 z.1.b z.1.e z.1.v fl
    have hv := ha z.1 (by rw [← z2]; exact List.mem_map_of_mem hz)
    rw [hv, slV_some] at h
    rw [h]
    rfl
  have hz47 : ∀ z ∈ Z, res T 47 [.agg [.int .u64 z.1.b, .int .u64 z.1.e, .sl 1 ((lst z.1.v).map i32V)], .box [.fn 44 [.box [.int .u64 fl]]]] = some (.bool (!goesP fl z.1)) := fun z hz => by
    have h := r47 z.1.b z.1.e z.1.v fl
    have hv := ha z.1 (by rw [← z2]; exact List.mem_map_of_mem hz)
    rw [hv, slV_some] at h
    rw [h]
    rfl
  refine collectA Z cv 44 [.ptr 0 1 0 0] (fun z => goesP fl z.1) (4 + B) (4 + (B + 1)) 3 rfl rfl ?_ ?_ ?_ ?_ (by omega) (by omega) (by omega) (fun id off len sz he => by have := z5 _ _ _ _ he; omega) (by omega) (by omega) ?_ hl ?_
  · simp +contextual -implicitDefEqProofs (maxSteps := 2000000) only [↓wP, wQ, wQ1, wQ2, wQ3, boxE, List.take_length, partsOf, ↓reduceIte, Nat.reduceEqDiff, Nat.reduceAdd, Nat.reduceSub, Nat.reduceLeDiff, Nat.reduceLT, Nat.reduceMul, Nat.zero_add, Nat.add_zero, Nat.mul_zero, Nat.le_refl, Nat.zero_le, Nat.one_ne_zero, Nat.zero_ne_one, reduceCtorEq, List.map_cons, List.map_nil, List.mapM_cons, List.mapM_nil, List.flatMap_cons, List.flatMap_nil, List.append_nil, List.nil_append, List.cons_append, List.drop_zero, List.drop_succ_cons, List.take_zero, List.take_succ_cons, List.take_nil, List.drop_nil, List.length_cons, List.length_nil, List.getElem?_cons_zero, List.getElem?_cons_succ, List.getElem?_nil, List.set_cons_zero, List.set_cons_succ, List.all_cons, List.all_nil, Option.bind_some, Option.bind_none, Option.map_some, Option.map_none, Option.pure_def, Option.bind_eq_bind, Bool.and_true, Bool.true_and, Bool.and_self, Bool.or_false, Bool.false_or, Bool.and_false, Bool.false_and, Bool.or_true, Bool.true_or, Bool.not_true, Bool.not_false, Bool.not_not, decide_true, decide_false, and_self, and_true, true_and, beq_self_eq_true, beq_true, beq_false, bne_self_eq_false, Int.reduceBNe, Int.reduceBEq, Int.reduceLT, Int.reduceLE, Int.reduceGT, Bool.false_eq_true, Nat.zero_lt_succ, Nat.zero_lt_one, Nat.add_assoc, Nat.left_eq_add, Nat.add_eq_left, c0]
  · simp +contextual -implicitDefEqProofs (maxSteps := 2000000) only [↓wP, wQ, wQ1, wQ2, wQ3, boxE, List.take_length, partsOf, ↓reduceIte, Nat.reduceEqDiff, Nat.reduceAdd, Nat.reduceSub, Nat.reduceLeDiff, Nat.reduceLT, Nat.reduceMul, Nat.zero_add, Nat.add_zero, Nat.mul_zero, Nat.le_refl, Nat.zero_le, Nat.one_ne_zero, Nat.zero_ne_one, reduceCtorEq, List.map_cons, List.map_nil, List.mapM_cons, List.mapM_nil, List.flatMap_cons, List.flatMap_nil, List.append_nil, List.nil_append, List.cons_append, List.drop_zero, List.drop_succ_cons, List.take_zero, List.take_succ_cons, List.take_nil, List.drop_nil, List.length_cons, List.length_nil, List.getElem?_cons_zero, List.getElem?_cons_succ, List.getElem?_nil, List.set_cons_zero, List.set_cons_succ, List.all_cons, List.all_nil, Option.bind_some, Option.bind_none, Option.map_some, Option.map_none, Option.pure_def, Option.bind_eq_bind, Bool.and_true, Bool.true_and, Bool.and_self, Bool.or_false, Bool.false_or, Bool.and_false, Bool.false_and, Bool.or_true, Bool.true_or, Bool.not_true, Bool.not_false, Bool.not_not, decide_true, decide_false, and_self, and_true, true_and, beq_self_eq_true, beq_true, beq_false, bne_self_eq_false, Int.reduceBNe, Int.reduceBEq, Int.reduceLT, Int.reduceLE, Int.reduceGT, Bool.false_eq_true, Nat.zero_lt_succ, Nat.zero_lt_one, Nat.add_assoc, Nat.left_eq_add, Nat.add_eq_left]
  · rcases z1 with z1 | ⟨id, e1, e2⟩
    · exact .inl z1
    · exact .inr ⟨id, e1, by rw [hup id (by have := z5 _ _ _ _ e1; omega), e2]⟩
  · rw [hup 3 (by omega), q3]
  · intro σ' n' z hz hσ
    have h0 : σ' 0 = some (.row 1 [.int .u64 fl]) := by rw [hσ 0 (by omega) (by decide), hup 0 (by omega), q0]
    have hzb := z4 z hz
    have hv : σ' z.2 = some (.row 1 ((lst z.1.v).map i32V)) := by rw [hσ z.2 (by omega) (by omega), hup z.2 (by omega), hzb.2.2]
    have h44 := hz44 z hz
    have hle : ((lst z.1.v).length ≤ ((lst z.1.v).map i32V).length) = True := by simp
    have htk : ((lst z.1.v).map i32V).take (lst z.1.v).length = (lst z.1.v).map i32V := by rw [List.take_of_length_le]; simp
    rw [callE_eq (by decide)]
    simp only [ev]
    simp +contextual -implicitDefEqProofs (maxSteps := 2000000) only [↓wP, wQ, wQ1, wQ2, wQ3, boxE, List.take_length, partsOf, ↓reduceIte, Nat.reduceEqDiff, Nat.reduceAdd, Nat.reduceSub, Nat.reduceLeDiff, Nat.reduceLT, Nat.reduceMul, Nat.zero_add, Nat.add_zero, Nat.mul_zero, Nat.le_refl, Nat.zero_le, Nat.one_ne_zero, Nat.zero_ne_one, reduceCtorEq, List.map_cons, List.map_nil, List.mapM_cons, List.mapM_nil, List.flatMap_cons, List.flatMap_nil, List.append_nil, List.nil_append, List.cons_append, List.drop_zero, List.drop_succ_cons, List.take_zero, List.take_succ_cons, List.take_nil, List.drop_nil, List.length_cons, List.length_nil, List.getElem?_cons_zero, List.getElem?_cons_succ, List.getElem?_nil, List.set_cons_zero, List.set_cons_succ, List.all_cons, List.all_nil, Option.bind_some, Option.bind_none, Option.map_some, Option.map_none, Option.pure_def, Option.bind_eq_bind, Bool.and_true, Bool.true_and, Bool.and_self, Bool.or_false, Bool.false_or, Bool.and_false, Bool.false_and, Bool.or_true, Bool.true_or, Bool.not_true, Bool.not_false, Bool.not_not, decide_true, decide_false, and_self, and_true, true_and, beq_self_eq_true, beq_true, beq_false, bne_self_eq_false, Int.reduceBNe, Int.reduceBEq, Int.reduceLT, Int.reduceLE, Int.reduceGT, Bool.false_eq_true, Nat.zero_lt_succ, Nat.zero_lt_one, Nat.add_assoc, Nat.left_eq_add, Nat.add_eq_left, h0, hv, frz_rf, hle, htk, hmm, h44]
  · intro σ1 n1 gv e1 e2 e3 e4
    have h0 : σ1 0 = some (.row 1 [.int .u64 fl]) := by rw [e1 0 (by omega) (by decide), hup 0 (by omega), q0]
    have h1 : σ1 1 = some (.row 1 [.fn 44 [.ptr 0 1 0 0]]) := by rw [e1 1 (by omega) (by decide), hup 1 (by omega), q1]
    have h2 : σ1 2 = some (.row 1 [.nilS]) := by rw [e1 2 (by omega) (by decide), hup 2 (by omega), q2]
    have hzg : ∀ z ∈ Z, 4 ≤ z.2 ∧ z.2 < 4 + (B + 2) ∧ σ1 z.2 = some (.row 1 ((lst z.1.v).map i32V)) := fun z hz => by
      have hzb := z4 z hz
      exact ⟨hzb.1, by omega, by rw [e1 z.2 (by omega) (by omega), hup z.2 (by omega), hzb.2.2]⟩
    have kg := chn_of_pl (m := 4) (Z := Z.filter fun z => goesP fl z.1) e4 (List.Nodup.sublist ((List.filter_sublist).map _) z3) (by omega) (fun z hz => hzg z (List.mem_filter.1 hz).1) e2
    rw [filter_fst, z2] at kg
    clear e1
    -- the second copy
    obtain ⟨cv2, σd, nd, s1, s2, s3, s4⟩ := thaw_ownC σ1 n1 o
    have hcl2 := s2.cells
    have hon2 := s2.one
    simp +contextual -implicitDefEqProofs (maxSteps := 2000000) only [↓wP, wQ, wQ1, wQ2, wQ3, boxE, List.take_length, partsOf, ↓reduceIte, Nat.reduceEqDiff, Nat.reduceAdd, Nat.reduceSub, Nat.reduceLeDiff, Nat.reduceLT, Nat.reduceMul, Nat.zero_add, Nat.add_zero, Nat.mul_zero, Nat.le_refl, Nat.zero_le, Nat.one_ne_zero, Nat.zero_ne_one, reduceCtorEq, List.map_cons, List.map_nil, List.mapM_cons, List.mapM_nil, List.flatMap_cons, List.flatMap_nil, List.append_nil, List.nil_append, List.cons_append, List.drop_zero, List.drop_succ_cons, List.take_zero, List.take_succ_cons, List.take_nil, List.drop_nil, List.length_cons, List.length_nil, List.getElem?_cons_zero, List.getElem?_cons_succ, List.getElem?_nil, List.set_cons_zero, List.set_cons_succ, List.all_cons, List.all_nil, Option.bind_some, Option.bind_none, Option.map_some, Option.map_none, Option.pure_def, Option.bind_eq_bind, Bool.and_true, Bool.true_and, Bool.and_self, Bool.or_false, Bool.false_or, Bool.and_false, Bool.false_and, Bool.or_true, Bool.true_or, Bool.not_true, Bool.not_false, Bool.not_not, decide_true, decide_false, and_self, and_true, true_and, beq_self_eq_true, beq_true, beq_false, bne_self_eq_false, Int.reduceBNe, Int.reduceBEq, Int.reduceLT, Int.reduceLE, Int.reduceGT, Bool.false_eq_true, Nat.zero_lt_succ, Nat.zero_lt_one, Nat.add_assoc, Nat.left_eq_add, Nat.add_eq_left, h46, s1]
    refine stepW_raw hm45 (run_rawE (fn := g45) rfl rfl ?_)
    simp only [g45, b45]
    simp +contextual -implicitDefEqProofs (maxSteps := 2000000) only [↓wP, wQ, wQ1, wQ2, wQ3, boxE, List.take_length, partsOf, ↓reduceIte, Nat.reduceEqDiff, Nat.reduceAdd, Nat.reduceSub, Nat.reduceLeDiff, Nat.reduceLT, Nat.reduceMul, Nat.zero_add, Nat.add_zero, Nat.mul_zero, Nat.le_refl, Nat.zero_le, Nat.one_ne_zero, Nat.zero_ne_one, reduceCtorEq, List.map_cons, List.map_nil, List.mapM_cons, List.mapM_nil, List.flatMap_cons, List.flatMap_nil, List.append_nil, List.nil_append, List.cons_append, List.drop_zero, List.drop_succ_cons, List.take_zero, List.take_succ_cons, List.take_nil, List.drop_nil, List.length_cons, List.length_nil, List.getElem?_cons_zero, List.getElem?_cons_succ, List.getElem?_nil, List.set_cons_zero, List.set_cons_succ, List.all_cons, List.all_nil, Option.bind_some, Option.bind_none, Option.map_some, Option.map_none, Option.pure_def, Option.bind_eq_bind, Bool.and_true, Bool.true_and, Bool.and_self, Bool.or_false, Bool.false_or, Bool.and_false, Bool.false_and, Bool.or_true, Bool.true_or, Bool.not_true, Bool.not_false, Bool.not_not, decide_true, decide_false, and_self, and_true, true_and, beq_self_eq_true, beq_true, beq_false, bne_self_eq_false, Int.reduceBNe, Int.reduceBEq, Int.reduceLT, Int.reduceLE, Int.reduceGT, Bool.false_eq_true, Nat.zero_lt_succ, Nat.zero_lt_one, Nat.add_assoc, Nat.left_eq_add, Nat.add_eq_left, hcl2, hon2]
    obtain ⟨Y, y1, y2, y3, y4, y5⟩ := s2.rowZ
    have hYl : Y.length = (lst o).length := by rw [← y2, List.length_map]
    have hlY : Y.length * 40 ≤ LIM := by rw [hYl]; exact hf.1
    have hup2 : ∀ i, i < nd → upd (upd σd nd (some (.row 1 [cv2]))) (nd + 1) (some (.row 1 [.fn 47 [.ptr 1 1 0 0]])) i = σd i := fun i hi => by
      have a1 : i ≠ nd := by omega
      have a2 : i ≠ nd + 1 := by omega
      simp only [upd_get, a1, a2, if_false]
    have hzY : ∀ z ∈ Y, res T 47 [.agg [.int .u64 z.1.b, .int .u64 z.1.e, .sl 1 ((lst z.1.v).map i32V)], .box [.fn 44 [.box [.int .u64 fl]]]] = some (.bool (!goesP fl z.1)) := fun z hz => by
      have h := r47 z.1.b z.1.e z.1.v fl
      have hv := ha z.1 (by rw [← y2]; exact List.mem_map_of_mem hz)
      rw [hv, slV_some] at h
      rw [h]
      rfl
    refine collectB Y cv2 47 [.ptr 1 1 0 0] (fun z => !goesP fl z.1) nd (nd + 1) 2 rfl rfl ?_ ?_ ?_ ?_ (by omega) (by omega) (by omega) (fun id off len sz he => by have := y5 _ _ _ _ he; omega) (by omega) (by omega) ?_ hlY ?_
    · simp +contextual -implicitDefEqProofs (maxSteps := 2000000) only [↓wP, wQ, wQ1, wQ2, wQ3, boxE, List.take_length, partsOf, ↓reduceIte, Nat.reduceEqDiff, Nat.reduceAdd, Nat.reduceSub, Nat.reduceLeDiff, Nat.reduceLT, Nat.reduceMul, Nat.zero_add, Nat.add_zero, Nat.mul_zero, Nat.le_refl, Nat.zero_le, Nat.one_ne_zero, Nat.zero_ne_one, reduceCtorEq, List.map_cons, List.map_nil, List.mapM_cons, List.mapM_nil, List.flatMap_cons, List.flatMap_nil, List.append_nil, List.nil_append, List.cons_append, List.drop_zero, List.drop_succ_cons, List.take_zero, List.take_succ_cons, List.take_nil, List.drop_nil, List.length_cons, List.length_nil, List.getElem?_cons_zero, List.getElem?_cons_succ, List.getElem?_nil, List.set_cons_zero, List.set_cons_succ, List.all_cons, List.all_nil, Option.bind_some, Option.bind_none, Option.map_some, Option.map_none, Option.pure_def, Option.bind_eq_bind, Bool.and_true, Bool.true_and, Bool.and_self, Bool.or_false, Bool.false_or, Bool.and_false, Bool.false_and, Bool.or_true, Bool.true_or, Bool.not_true, Bool.not_false, Bool.not_not, decide_true, decide_false, and_self, and_true, true_and, beq_self_eq_true, beq_true, beq_false, bne_self_eq_false, Int.reduceBNe, Int.reduceBEq, Int.reduceLT, Int.reduceLE, Int.reduceGT, Bool.false_eq_true, Nat.zero_lt_succ, Nat.zero_lt_one, Nat.add_assoc, Nat.left_eq_add, Nat.add_eq_left]
    · simp +contextual -implicitDefEqProofs (maxSteps := 2000000) only [↓wP, wQ, wQ1, wQ2, wQ3, boxE, List.take_length, partsOf, ↓reduceIte, Nat.reduceEqDiff, Nat.reduceAdd, Nat.reduceSub, Nat.reduceLeDiff, Nat.reduceLT, Nat.reduceMul, Nat.zero_add, Nat.add_zero, Nat.mul_zero, Nat.le_refl, Nat.zero_le, Nat.one_ne_zero, Nat.zero_ne_one, reduceCtorEq, List.map_cons, List.map_nil, List.mapM_cons, List.mapM_nil, List.flatMap_cons, List.flatMap_nil, List.append_nil, List.nil_append, List.cons_append, List.drop_zero, List.drop_succ_cons, List.take_zero, List.take_succ_cons, List.take_nil, List.drop_nil, List.length_cons, List.length_nil, List.getElem?_cons_zero, List.getElem?_cons_succ, List.getElem?_nil, List.set_cons_zero, List.set_cons_succ, List.all_cons, List.all_nil, Option.bind_some, Option.bind_none, Option.map_some, Option.map_none, Option.pure_def, Option.bind_eq_bind, Bool.and_true, Bool.true_and, Bool.and_self, Bool.or_false, Bool.false_or, Bool.and_false, Bool.false_and, Bool.or_true, Bool.true_or, Bool.not_true, Bool.not_false, Bool.not_not, decide_true, decide_false, and_self, and_true, true_and, beq_self_eq_true, beq_true, beq_false, bne_self_eq_false, Int.reduceBNe, Int.reduceBEq, Int.reduceLT, Int.reduceLE, Int.reduceGT, Bool.false_eq_true, Nat.zero_lt_succ, Nat.zero_lt_one, Nat.add_assoc, Nat.left_eq_add, Nat.add_eq_left]
    · rcases y1 with y1 | ⟨id, e1, e2⟩
      · exact .inl y1
      · exact .inr ⟨id, e1, by rw [hup2 id (by have := y5 _ _ _ _ e1; omega), e2]⟩
    · rw [hup2 2 (by omega), s4 2 (by omega), h2]
    · intro σ' n' z hz hσ
      have k0 : σ' 0 = some (.row 1 [.int .u64 fl]) := by rw [hσ 0 (by omega) (by decide), hup2 0 (by omega), s4 0 (by omega), h0]
      have k1 : σ' 1 = some (.row 1 [.fn 44 [.ptr 0 1 0 0]]) := by rw [hσ 1 (by omega) (by decide), hup2 1 (by omega), s4 1 (by omega), h1]
      have hzb := y4 z hz
      have hv : σ' z.2 = some (.row 1 ((lst z.1.v).map i32V)) := by rw [hσ z.2 (by omega) (by omega), hup2 z.2 (by omega), hzb.2.2]
      have h47 := hzY z hz
      have hle : ((lst z.1.v).length ≤ ((lst z.1.v).map i32V).length) = True := by simp
      have htk : ((lst z.1.v).map i32V).take (lst z.1.v).length = (lst z.1.v).map i32V := by rw [List.take_of_length_le]; simp
      rw [callE_eq (by decide)]
      simp only [ev]
      simp +contextual -implicitDefEqProofs (maxSteps := 2000000) only [↓wP, wQ, wQ1, wQ2, wQ3, boxE, List.take_length, partsOf, ↓reduceIte, Nat.reduceEqDiff, Nat.reduceAdd, Nat.reduceSub, Nat.reduceLeDiff, Nat.reduceLT, Nat.reduceMul, Nat.zero_add, Nat.add_zero, Nat.mul_zero, Nat.le_refl, Nat.zero_le, Nat.one_ne_zero, Nat.zero_ne_one, reduceCtorEq, List.map_cons, List.map_nil, List.mapM_cons, List.mapM_nil, List.flatMap_cons, List.flatMap_nil, List.append_nil, List.nil_append, List.cons_append, List.drop_zero, List.drop_succ_cons, List.take_zero, List.take_succ_cons, List.take_nil, List.drop_nil, List.length_cons, List.length_nil, List.getElem?_cons_zero, List.getElem?_cons_succ, List.getElem?_nil, List.set_cons_zero, List.set_cons_succ, List.all_cons, List.all_nil, Option.bind_some, Option.bind_none, Option.map_some, Option.map_none, Option.pure_def, Option.bind_eq_bind, Bool.and_true, Bool.true_and, Bool.and_self, Bool.or_false, Bool.false_or, Bool.and_false, Bool.false_and, Bool.or_true, Bool.true_or, Bool.not_true, Bool.not_false, Bool.not_not, decide_true, decide_false, and_self, and_true, true_and, beq_self_eq_true, beq_true, beq_false, bne_self_eq_false, Int.reduceBNe, Int.reduceBEq, Int.reduceLT, Int.reduceLE, Int.reduceGT, Bool.false_eq_true, Nat.zero_lt_succ, Nat.zero_lt_one, Nat.add_assoc, Nat.left_eq_add, Nat.add_eq_left, k0, k1, hv, frz_rf, hle, htk, hmm, h47]
    · intro σ2 n2 gv2 k1 k2 k3 k4
      have h3 : σ2 3 = some (.row 1 [gv]) := by rw [k1 3 (by omega) (by decide), hup2 3 (by omega), s4 3 (by omega), e3]
      have kg2 : Chn σ2 4 n1 gv (opt (goneL fl (lst o))) := kg.loc (fun i hi hi' => by rw [k1 i (by omega) (by omega), hup2 i (by omega), s4 i (by omega)]) (Nat.le_refl _) (Nat.le_refl _)
      have ks := chn_of_pl (m := n1) (Z := Y.filter fun z => !goesP fl z.1) k4 (List.Nodup.sublist ((List.filter_sublist).map _) y3) (by omega) (fun z hz => by
        have hzb := y4 z (List.mem_filter.1 hz).1
        exact ⟨hzb.1, by omega, by rw [k1 z.2 (by omega) (by omega), hup2 z.2 (by omega), hzb.2.2]⟩) k2
      rw [filter_fst (fun x => !goesP fl x), y2] at ks
      have v1 := kg2.cells
      have v2 := ks.cells
      simp +contextual -implicitDefEqProofs (maxSteps := 2000000) only [↓wP, wQ, wQ1, wQ2, wQ3, boxE, List.take_length, partsOf, ↓reduceIte, Nat.reduceEqDiff, Nat.reduceAdd, Nat.reduceSub, Nat.reduceLeDiff, Nat.reduceLT, Nat.reduceMul, Nat.zero_add, Nat.add_zero, Nat.mul_zero, Nat.le_refl, Nat.zero_le, Nat.one_ne_zero, Nat.zero_ne_one, reduceCtorEq, List.map_cons, List.map_nil, List.mapM_cons, List.mapM_nil, List.flatMap_cons, List.flatMap_nil, List.append_nil, List.nil_append, List.cons_append, List.drop_zero, List.drop_succ_cons, List.take_zero, List.take_succ_cons, List.take_nil, List.drop_nil, List.length_cons, List.length_nil, List.getElem?_cons_zero, List.getElem?_cons_succ, List.getElem?_nil, List.set_cons_zero, List.set_cons_succ, List.all_cons, List.all_nil, Option.bind_some, Option.bind_none, Option.map_some, Option.map_none, Option.pure_def, Option.bind_eq_bind, Bool.and_true, Bool.true_and, Bool.and_self, Bool.or_false, Bool.false_or, Bool.and_false, Bool.false_and, Bool.or_true, Bool.true_or, Bool.not_true, Bool.not_false, Bool.not_not, decide_true, decide_false, and_self, and_true, true_and, beq_self_eq_true, beq_true, beq_false, bne_self_eq_false, Int.reduceBNe, Int.reduceBEq, Int.reduceLT, Int.reduceLE, Int.reduceGT, Bool.false_eq_true, Nat.zero_lt_succ, Nat.zero_lt_one, Nat.add_assoc, Nat.left_eq_add, Nat.add_eq_left, h3, k3, v1, v2]
      exact giv_trip ks kg2 (.inr (Nat.le_refl _)) 0

end Go.Q.S3
end

section
/- The document's Put. -/
set_option linter.unusedSimpArgs false
set_option linter.unusedVariables false
namespace Go.Q.S3
open Go.Q

/-- What the document's Put leaves of a chain that may be. -/
def refC (o : Option (List Ver)) (ts : Int) (l : List Int) : Option (List Ver) :=
  if lastR (lst o) < ts ∧ ts ≤ 1099511627776 ∧ putN o l = 0 then some (closeL ts ((lst o).map cpV) ++ [⟨ts, 0, some l⟩]) else none
def refE (o : Option (List Ver)) (ts : Int) (l : List Int) : Int := if lastR (lst o) < ts ∧ ts ≤ 1099511627776 then putN o l else 181

theorem close_len (ts : Int) (L : List Ver) : (closeL ts L).length = L.length := by
  unfold closeL
  rcases List.eq_nil_or_concat L with rfl | ⟨A, x, rfl⟩
  · rfl
  · rw [List.concat_eq_append]
    simp only [List.getLast?_append, List.getLast?_singleton, Option.some_or]
    split <;> simp
theorem close_all {ts : Int} {L : List Ver} (h : AllS L) : AllS (closeL ts L) := by
  unfold closeL
  split
  · rename_i x hx
    split
    · intro y hy
      rcases List.mem_append.1 hy with hy | hy
      · exact h y ((List.dropLast_sublist L).subset hy)
      · rw [List.mem_singleton.1 hy]
        exact h x (List.mem_of_getLast? hx)
    · exact h
  · exact h

theorem opt_some {α : Type} {A : List α} (h : A ≠ []) : opt A = some A := by cases A <;> simp_all [opt]

/-- The last step of the document's Put. -/
theorem app36 {σ : Sto} {n n0 : Nat} {v : V} {o : Option (List Ver)} {ts : Int} {l : List Int} (hf : ((lst o).length + 1) * 40 ≤ LIM) (hc : Chn σ 0 n0 v o) (hn : n0 ≤ n) :
    ∃ v2 σ2, appendE 3 40 0 v (some [.agg [.int .u64 ts, .int .u64 0, .ref (n + 1) 0 (l.map i32V).length 1]])
      (upd (upd (upd (upd σ n (some (.row 1 []))) n none) (n + 1) (some (.row 1 (l.map i32V)))) (n + 2) (some (.row 3 [.agg [.int .u64 ts, .int .u64 0, .ref (n + 1) 0 (l.map i32V).length 1]]))) (n + 3) = some (v2, σ2, n + 4) ∧
      Chn σ2 0 (n + 4) v2 (some (lst o ++ [⟨ts, 0, some l⟩])) := by
  have k1 : Chn (upd (upd (upd (upd σ n (some (.row 1 []))) n none) (n + 1) (some (.row 1 (l.map i32V)))) (n + 2) (some (.row 3 [.agg [.int .u64 ts, .int .u64 0, .ref (n + 1) 0 (l.map i32V).length 1]]))) 0 n0 v o := by
    refine hc.loc (fun i _ hi => ?_) (Nat.le_refl _) (Nat.le_refl _)
    have a1 : i ≠ n := by omega
    have a2 : i ≠ n + 1 := by omega
    have a3 : i ≠ n + 2 := by omega
    simp only [upd_get, a1, a2, a3, if_false]
  obtain ⟨v2, σ2, e1, e2, e3, e4, e5⟩ := k1.append (y := ⟨ts, 0, some l⟩) (lab := n + 3) (i := n + 1) (by omega) (by omega) (by omega) (by omega) (by
    simp only [upd_get]
    simp [lst]) hf
  rw [show erow ⟨ts, 0, some l⟩ (n + 1) = .agg [.int .u64 ts, .int .u64 0, .ref (n + 1) 0 (l.map i32V).length 1] from by rw [List.length_map]; rfl] at e1
  exact ⟨v2, σ2, e1, e4 σ2 (fun _ _ => rfl)⟩

theorem chk_cp {d : Int} : ∀ {L : Int} {l : List Ver}, chk d L l = true → chk d L (l.map cpV) = true
  | _, [], _ => rfl
  | L, x :: xs, h => by
    rw [chk, Bool.and_eq_true] at h
    rw [List.map_cons, chk, show (cpV x).e = x.e from rfl, chk_cp h.2, Bool.and_true, ← h.1]
    cases xs <;> rfl

theorem frz_pair {σ : Sto} {m n : Nat} {v : V} {o : Option (List Ver)} (h : Chn σ m n v o) (ha : AllS (lst o)) (e : Int) : Go.Q.frz σ 12 (.tup [v, .int .i64 e]) = some (.tup [slV 3 verV o, .int .i64 e]) := by
  simp only [Go.Q.frz, List.mapM_cons, List.mapM_nil, h.frz ha 8]
  rfl

theorem r36 (o : Option (List Ver)) (ts : Int) (l : List Int) (hs : Sm o) (hf : FitC o) (hf' : ((lst o).length + 1) * 40 ≤ LIM) (hl : l.length * 4 ≤ LIM) (hc : okC o = true) : res T 36 [slV 3 verV o, .int .u64 ts, slV 1 i32V (some l)] = some (.tup [slV 3 verV (refC o ts l), .int .i64 (refE o ts l)]) := by
  refine run_res (run_pure (fn := g36) rfl rfl (by decide) ?_)
  simp only [g36, b36]
  have h54 := f54 o ts hs
  have h40 := f40 (some l) (by rw [lst_some]; unfold LIM at hl; omega)
  have hlim : (l.map i32V).length * 4 ≤ LIM := by simpa using hl
  by_cases ht : lastR (lst o) < ts ∧ ts ≤ 1099511627776
  · have hT : (decide (lastR (lst o) < ts) && decide (ts ≤ 1099511627776)) = true := by simpa using ht
    have e0 : refE o ts l = putN o l := by unfold refE; rw [if_pos ht]
    rw [hT] at h54
    rw [e0]
    cases hok : okV (some l)
    · have e1 : putN o l = 150 := by simp [putN, hok]
      have e2 : refC o ts l = none := by unfold refC; rw [if_neg]; omega
      rw [hok] at h40
      rw [e1, e2]
      simp +contextual -implicitDefEqProofs (maxSteps := 2000000) only [↓wP, wQ, wQ1, wQ2, wQ3, boxE, List.take_length, partsOf, ↓reduceIte, Nat.reduceEqDiff, Nat.reduceAdd, Nat.reduceSub, Nat.reduceLeDiff, Nat.reduceLT, Nat.reduceMul, Nat.zero_add, Nat.add_zero, Nat.mul_zero, Nat.le_refl, Nat.zero_le, Nat.one_ne_zero, Nat.zero_ne_one, reduceCtorEq, List.map_cons, List.map_nil, List.mapM_cons, List.mapM_nil, List.flatMap_cons, List.flatMap_nil, List.append_nil, List.nil_append, List.cons_append, List.drop_zero, List.drop_succ_cons, List.take_zero, List.take_succ_cons, List.take_nil, List.drop_nil, List.length_cons, List.length_nil, List.getElem?_cons_zero, List.getElem?_cons_succ, List.getElem?_nil, List.set_cons_zero, List.set_cons_succ, List.all_cons, List.all_nil, Option.bind_some, Option.bind_none, Option.map_some, Option.map_none, Option.pure_def, Option.bind_eq_bind, Bool.and_true, Bool.true_and, Bool.and_self, Bool.or_false, Bool.false_or, Bool.and_false, Bool.false_and, Bool.or_true, Bool.true_or, Bool.not_true, Bool.not_false, Bool.not_not, decide_true, decide_false, and_self, and_true, true_and, beq_self_eq_true, beq_true, beq_false, bne_self_eq_false, Int.reduceBNe, Int.reduceBEq, Int.reduceLT, Int.reduceLE, Int.reduceGT, Bool.false_eq_true, Nat.zero_lt_succ, Nat.zero_lt_one, Nat.add_assoc, Nat.left_eq_add, Nat.add_eq_left, h54, h40, slV_none]
    · rw [hok] at h40
      have hdims : ((∃ x, (lst o)[0]? = some x ∧ dimP o l = ((lst x.v).length : Int)) ∧ 0 < (lst o).length) ∨ (¬ 0 < (lst o).length ∧ dimP o l = (l.length : Int)) := by
        cases hl0 : lst o with
        | nil => right; simp [dimP, hl0]
        | cons x xs => left; exact ⟨⟨x, rfl, by simp [dimP, hl0]⟩, by simp⟩
      by_cases hdm : (l.length : Int) = dimP o l
      · have hne : (decide ((0 : Int) < ((lst o).length : Int)) = true ∧ ∃ x, (lst o)[0]? = some x ∧ (((lst x.v).length : Int) != (l.length : Int)) = false) ∨ decide ((0 : Int) < ((lst o).length : Int)) = false := by
          rcases hdims with ⟨⟨x, h1, h2⟩, h3⟩ | ⟨h1, h2⟩
          · left; exact ⟨decide_eq_true (by omega), x, h1, by rw [← h2, ← hdm]; simp⟩
          · right; exact decide_eq_false (by omega)
        by_cases h96 : (lst o).length = 96
        · have e1 : putN o l = 6 := by simp [putN, hok, hdm, h96]
          have e2 : refC o ts l = none := by unfold refC; rw [if_neg]; omega
          have hd6 : (((lst o).length : Int) == 96) = true := by simp; omega
          rw [e1, e2]
          rcases hne with ⟨hd, x, hx, hx2⟩ | hd
          · simp +contextual -implicitDefEqProofs (maxSteps := 2000000) only [↓wP, wQ, wQ1, wQ2, wQ3, boxE, List.take_length, partsOf, ↓reduceIte, Nat.reduceEqDiff, Nat.reduceAdd, Nat.reduceSub, Nat.reduceLeDiff, Nat.reduceLT, Nat.reduceMul, Nat.zero_add, Nat.add_zero, Nat.mul_zero, Nat.le_refl, Nat.zero_le, Nat.one_ne_zero, Nat.zero_ne_one, reduceCtorEq, List.map_cons, List.map_nil, List.mapM_cons, List.mapM_nil, List.flatMap_cons, List.flatMap_nil, List.append_nil, List.nil_append, List.cons_append, List.drop_zero, List.drop_succ_cons, List.take_zero, List.take_succ_cons, List.take_nil, List.drop_nil, List.length_cons, List.length_nil, List.getElem?_cons_zero, List.getElem?_cons_succ, List.getElem?_nil, List.set_cons_zero, List.set_cons_succ, List.all_cons, List.all_nil, Option.bind_some, Option.bind_none, Option.map_some, Option.map_none, Option.pure_def, Option.bind_eq_bind, Bool.and_true, Bool.true_and, Bool.and_self, Bool.or_false, Bool.false_or, Bool.and_false, Bool.false_and, Bool.or_true, Bool.true_or, Bool.not_true, Bool.not_false, Bool.not_not, decide_true, decide_false, and_self, and_true, true_and, beq_self_eq_true, beq_true, beq_false, bne_self_eq_false, Int.reduceBNe, Int.reduceBEq, Int.reduceLT, Int.reduceLE, Int.reduceGT, Bool.false_eq_true, Nat.zero_lt_succ, Nat.zero_lt_one, Nat.add_assoc, Nat.left_eq_add, Nat.add_eq_left, h54, h40, hd, hx, verV, lst_some, hx2, hd6, slV_none]
          · simp +contextual -implicitDefEqProofs (maxSteps := 2000000) only [↓wP, wQ, wQ1, wQ2, wQ3, boxE, List.take_length, partsOf, ↓reduceIte, Nat.reduceEqDiff, Nat.reduceAdd, Nat.reduceSub, Nat.reduceLeDiff, Nat.reduceLT, Nat.reduceMul, Nat.zero_add, Nat.add_zero, Nat.mul_zero, Nat.le_refl, Nat.zero_le, Nat.one_ne_zero, Nat.zero_ne_one, reduceCtorEq, List.map_cons, List.map_nil, List.mapM_cons, List.mapM_nil, List.flatMap_cons, List.flatMap_nil, List.append_nil, List.nil_append, List.cons_append, List.drop_zero, List.drop_succ_cons, List.take_zero, List.take_succ_cons, List.take_nil, List.drop_nil, List.length_cons, List.length_nil, List.getElem?_cons_zero, List.getElem?_cons_succ, List.getElem?_nil, List.set_cons_zero, List.set_cons_succ, List.all_cons, List.all_nil, Option.bind_some, Option.bind_none, Option.map_some, Option.map_none, Option.pure_def, Option.bind_eq_bind, Bool.and_true, Bool.true_and, Bool.and_self, Bool.or_false, Bool.false_or, Bool.and_false, Bool.false_and, Bool.or_true, Bool.true_or, Bool.not_true, Bool.not_false, Bool.not_not, decide_true, decide_false, and_self, and_true, true_and, beq_self_eq_true, beq_true, beq_false, bne_self_eq_false, Int.reduceBNe, Int.reduceBEq, Int.reduceLT, Int.reduceLE, Int.reduceGT, Bool.false_eq_true, Nat.zero_lt_succ, Nat.zero_lt_one, Nat.add_assoc, Nat.left_eq_add, Nat.add_eq_left, h54, h40, hd, lst_some, hd6, slV_none]
        · have e1 : putN o l = 0 := by simp [putN, hok, hdm, h96]
          have e2 : refC o ts l = some (closeL ts ((lst o).map cpV) ++ [⟨ts, 0, some l⟩]) := by unfold refC; rw [if_pos ⟨ht.1, ht.2, e1⟩]
          have hd6 : (((lst o).length : Int) == 96) = false := by simp; omega
          rw [e1, e2]
          obtain ⟨v', σ', n', a1, a2, a3, a4⟩ := thaw_ownC Sto.empty 0 (opt ((lst o).map cpV))
          have h14 := callE_thaw (by decide) (r14 o hf) (by simp [Tr, Tr_slV]) true Sto.empty 0 0
          rw [a1] at h14
          have hcp : AllS (lst (opt ((lst o).map cpV))) := by rw [lst_opt]; exact all_cp _
          have hfr := a2.frz hcp 9
          have hm55 : T.mode 55 ≠ .raw := by decide
          have h55 := r55 (opt ((lst o).map cpV)) ⟨by rw [lst_opt, List.length_map]; exact hs.1, fun x hx => by
            rw [lst_opt] at hx; obtain ⟨y, hy, rfl⟩ := List.mem_map.1 hx; exact hs.2 y hy⟩
          unfold okC at hc
          rw [Bool.and_eq_true] at hc
          rw [lst_opt, open_idx (chk_cp hc.2)] at h55
          have hfa : ∀ L : List Ver, AllS L → AllS (L ++ [⟨ts, 0, some l⟩]) := fun L hL x hx => by
            rcases List.mem_append.1 hx with hx | hx
            · exact hL x hx
            · rw [List.mem_singleton.1 hx]; rfl
          cases ho : openL ((lst o).map cpV)
          · rw [ho] at h55
            have e3 : closeL ts ((lst o).map cpV) = (lst o).map cpV := by
              unfold closeL
              unfold openL at ho
              split
              · rename_i x hx
                rw [hx] at ho
                rw [if_neg (by simpa using ho)]
              · rfl
            rw [e3]
            obtain ⟨v2, σ2, b1, b2⟩ := app36 (ts := ts) (l := l) (n := n') (o := opt ((lst o).map cpV)) (by rw [lst_opt, List.length_map]; exact hf') a2 (Nat.le_refl _)
            rw [lst_opt] at b2
            have hend := b2.frz (hfa _ (all_cp _)) 8
            have hm1 : decide ((0 : Int) ≤ -1) = false := rfl
            rcases hne with ⟨hd, x, hx, hx2⟩ | hd
            · simp +contextual -implicitDefEqProofs (maxSteps := 2000000) only [↓wP, wQ, wQ1, wQ2, wQ3, boxE, List.take_length, partsOf, ↓reduceIte, Nat.reduceEqDiff, Nat.reduceAdd, Nat.reduceSub, Nat.reduceLeDiff, Nat.reduceLT, Nat.reduceMul, Nat.zero_add, Nat.add_zero, Nat.mul_zero, Nat.le_refl, Nat.zero_le, Nat.one_ne_zero, Nat.zero_ne_one, reduceCtorEq, List.map_cons, List.map_nil, List.mapM_cons, List.mapM_nil, List.flatMap_cons, List.flatMap_nil, List.append_nil, List.nil_append, List.cons_append, List.drop_zero, List.drop_succ_cons, List.take_zero, List.take_succ_cons, List.take_nil, List.drop_nil, List.length_cons, List.length_nil, List.getElem?_cons_zero, List.getElem?_cons_succ, List.getElem?_nil, List.set_cons_zero, List.set_cons_succ, List.all_cons, List.all_nil, Option.bind_some, Option.bind_none, Option.map_some, Option.map_none, Option.pure_def, Option.bind_eq_bind, Bool.and_true, Bool.true_and, Bool.and_self, Bool.or_false, Bool.false_or, Bool.and_false, Bool.false_and, Bool.or_true, Bool.true_or, Bool.not_true, Bool.not_false, Bool.not_not, decide_true, decide_false, and_self, and_true, true_and, beq_self_eq_true, beq_true, beq_false, bne_self_eq_false, Int.reduceBNe, Int.reduceBEq, Int.reduceLT, Int.reduceLE, Int.reduceGT, Bool.false_eq_true, Nat.zero_lt_succ, Nat.zero_lt_one, Nat.add_assoc, Nat.left_eq_add, Nat.add_eq_left, h54, h40, hd, hx, verV, lst_some, hx2, hd6, h14, callE_eq hm55, hfr, h55, hm1, hlim, b1, hend]
            · simp +contextual -implicitDefEqProofs (maxSteps := 2000000) only [↓wP, wQ, wQ1, wQ2, wQ3, boxE, List.take_length, partsOf, ↓reduceIte, Nat.reduceEqDiff, Nat.reduceAdd, Nat.reduceSub, Nat.reduceLeDiff, Nat.reduceLT, Nat.reduceMul, Nat.zero_add, Nat.add_zero, Nat.mul_zero, Nat.le_refl, Nat.zero_le, Nat.one_ne_zero, Nat.zero_ne_one, reduceCtorEq, List.map_cons, List.map_nil, List.mapM_cons, List.mapM_nil, List.flatMap_cons, List.flatMap_nil, List.append_nil, List.nil_append, List.cons_append, List.drop_zero, List.drop_succ_cons, List.take_zero, List.take_succ_cons, List.take_nil, List.drop_nil, List.length_cons, List.length_nil, List.getElem?_cons_zero, List.getElem?_cons_succ, List.getElem?_nil, List.set_cons_zero, List.set_cons_succ, List.all_cons, List.all_nil, Option.bind_some, Option.bind_none, Option.map_some, Option.map_none, Option.pure_def, Option.bind_eq_bind, Bool.and_true, Bool.true_and, Bool.and_self, Bool.or_false, Bool.false_or, Bool.and_false, Bool.false_and, Bool.or_true, Bool.true_or, Bool.not_true, Bool.not_false, Bool.not_not, decide_true, decide_false, and_self, and_true, true_and, beq_self_eq_true, beq_true, beq_false, bne_self_eq_false, Int.reduceBNe, Int.reduceBEq, Int.reduceLT, Int.reduceLE, Int.reduceGT, Bool.false_eq_true, Nat.zero_lt_succ, Nat.zero_lt_one, Nat.add_assoc, Nat.left_eq_add, Nat.add_eq_left, h54, h40, hd, lst_some, hd6, h14, callE_eq hm55, hfr, h55, hm1, hlim, b1, hend]
          · rw [ho] at h55
            obtain ⟨A, x, hA⟩ : ∃ A x, (lst o).map cpV = A ++ [x] := by
              rcases List.eq_nil_or_concat ((lst o).map cpV) with hnil | ⟨A, x, hA⟩
              · rw [hnil] at ho; simp [openL] at ho
              · exact ⟨A, x, by rw [hA, List.concat_eq_append]⟩
            have hlenA : A.length + 1 = (lst o).length := by
              have := congrArg List.length hA
              simpa using this.symm
            have hcpA := all_cp (lst o)
            rw [hA] at ho h55 hfr a2 hcpA ⊢
            have hxe : x.e = 0 := by simpa [openL] using ho
            have e3 : closeL ts (A ++ [x]) = A ++ [⟨x.b, ts, x.v⟩] := by simp [closeL, hxe]
            rw [e3]
            rw [opt_snoc'] at a2
            obtain ⟨id, rows, w, hv', hσ, hrow, hw, hm, hn, hset⟩ := a2.last
            have hidx : (A ++ [x]).length - 1 = A.length := by simp
            rw [hidx, if_pos rfl] at h55
            have hia : iaddrE 3 v' (.int .i64 (A.length : Int)) = some (.ptr id 3 A.length 0) := by rw [hv', iaddrE_ref, if_pos (by omega), Nat.zero_add]
            have hm1 : decide ((0 : Int) ≤ (A.length : Int)) = true := decide_eq_true (by omega)
            have kx := hset ts (upd σ' id (some (.row 3 (rows.set A.length (.agg [.int .u64 x.b, .int .u64 ts, w]))))) (by simp [upd]) (fun i hi _ => by simp [upd, hi])
            obtain ⟨v2, σ2, b1, b2⟩ := app36 (ts := ts) (l := l) (n := n') (by rw [lst_some, List.length_append, List.length_singleton, hlenA]; exact hf') kx (Nat.le_refl _)
            have hall : AllS (A ++ [⟨x.b, ts, x.v⟩]) := fun y hy => by
              rcases List.mem_append.1 hy with hy | hy
              · exact hcpA y (List.mem_append_left _ hy)
              · rw [List.mem_singleton.1 hy]
                exact hcpA x (by simp)
            have hend := b2.frz (hfa _ hall) 8
            rcases hne with ⟨hd, y, hx, hx2⟩ | hd
            · simp +contextual -implicitDefEqProofs (maxSteps := 2000000) only [↓wP, wQ, wQ1, wQ2, wQ3, boxE, List.take_length, partsOf, ↓reduceIte, Nat.reduceEqDiff, Nat.reduceAdd, Nat.reduceSub, Nat.reduceLeDiff, Nat.reduceLT, Nat.reduceMul, Nat.zero_add, Nat.add_zero, Nat.mul_zero, Nat.le_refl, Nat.zero_le, Nat.one_ne_zero, Nat.zero_ne_one, reduceCtorEq, List.map_cons, List.map_nil, List.mapM_cons, List.mapM_nil, List.flatMap_cons, List.flatMap_nil, List.append_nil, List.nil_append, List.cons_append, List.drop_zero, List.drop_succ_cons, List.take_zero, List.take_succ_cons, List.take_nil, List.drop_nil, List.length_cons, List.length_nil, List.getElem?_cons_zero, List.getElem?_cons_succ, List.getElem?_nil, List.set_cons_zero, List.set_cons_succ, List.all_cons, List.all_nil, Option.bind_some, Option.bind_none, Option.map_some, Option.map_none, Option.pure_def, Option.bind_eq_bind, Bool.and_true, Bool.true_and, Bool.and_self, Bool.or_false, Bool.false_or, Bool.and_false, Bool.false_and, Bool.or_true, Bool.true_or, Bool.not_true, Bool.not_false, Bool.not_not, decide_true, decide_false, and_self, and_true, true_and, beq_self_eq_true, beq_true, beq_false, bne_self_eq_false, Int.reduceBNe, Int.reduceBEq, Int.reduceLT, Int.reduceLE, Int.reduceGT, Bool.false_eq_true, Nat.zero_lt_succ, Nat.zero_lt_one, Nat.add_assoc, Nat.left_eq_add, Nat.add_eq_left, h54, h40, hd, hx, verV, lst_some, hx2, hd6, h14, callE_eq hm55, hfr, h55, hm1, hia, hσ, hrow, hw, hlim, b1, hend]
            · simp +contextual -implicitDefEqProofs (maxSteps := 2000000) only [↓wP, wQ, wQ1, wQ2, wQ3, boxE, List.take_length, partsOf, ↓reduceIte, Nat.reduceEqDiff, Nat.reduceAdd, Nat.reduceSub, Nat.reduceLeDiff, Nat.reduceLT, Nat.reduceMul, Nat.zero_add, Nat.add_zero, Nat.mul_zero, Nat.le_refl, Nat.zero_le, Nat.one_ne_zero, Nat.zero_ne_one, reduceCtorEq, List.map_cons, List.map_nil, List.mapM_cons, List.mapM_nil, List.flatMap_cons, List.flatMap_nil, List.append_nil, List.nil_append, List.cons_append, List.drop_zero, List.drop_succ_cons, List.take_zero, List.take_succ_cons, List.take_nil, List.drop_nil, List.length_cons, List.length_nil, List.getElem?_cons_zero, List.getElem?_cons_succ, List.getElem?_nil, List.set_cons_zero, List.set_cons_succ, List.all_cons, List.all_nil, Option.bind_some, Option.bind_none, Option.map_some, Option.map_none, Option.pure_def, Option.bind_eq_bind, Bool.and_true, Bool.true_and, Bool.and_self, Bool.or_false, Bool.false_or, Bool.and_false, Bool.false_and, Bool.or_true, Bool.true_or, Bool.not_true, Bool.not_false, Bool.not_not, decide_true, decide_false, and_self, and_true, true_and, beq_self_eq_true, beq_true, beq_false, bne_self_eq_false, Int.reduceBNe, Int.reduceBEq, Int.reduceLT, Int.reduceLE, Int.reduceGT, Bool.false_eq_true, Nat.zero_lt_succ, Nat.zero_lt_one, Nat.add_assoc, Nat.left_eq_add, Nat.add_eq_left, h54, h40, hd, lst_some, hd6, h14, callE_eq hm55, hfr, h55, hm1, hia, hσ, hrow, hw, hlim, b1, hend]
      · have e1 : putN o l = 151 := by simp [putN, hok, hdm]
        have e2 : refC o ts l = none := by unfold refC; rw [if_neg]; omega
        rw [e1, e2]
        rcases hdims with ⟨⟨x, h1, h2⟩, h3⟩ | ⟨h1, h2⟩
        · have hd : decide ((0 : Int) < ((lst o).length : Int)) = true := decide_eq_true (by omega)
          have hx2 : (((lst x.v).length : Int) != (l.length : Int)) = true := by rw [← h2]; simp; omega
          simp +contextual -implicitDefEqProofs (maxSteps := 2000000) only [↓wP, wQ, wQ1, wQ2, wQ3, boxE, List.take_length, partsOf, ↓reduceIte, Nat.reduceEqDiff, Nat.reduceAdd, Nat.reduceSub, Nat.reduceLeDiff, Nat.reduceLT, Nat.reduceMul, Nat.zero_add, Nat.add_zero, Nat.mul_zero, Nat.le_refl, Nat.zero_le, Nat.one_ne_zero, Nat.zero_ne_one, reduceCtorEq, List.map_cons, List.map_nil, List.mapM_cons, List.mapM_nil, List.flatMap_cons, List.flatMap_nil, List.append_nil, List.nil_append, List.cons_append, List.drop_zero, List.drop_succ_cons, List.take_zero, List.take_succ_cons, List.take_nil, List.drop_nil, List.length_cons, List.length_nil, List.getElem?_cons_zero, List.getElem?_cons_succ, List.getElem?_nil, List.set_cons_zero, List.set_cons_succ, List.all_cons, List.all_nil, Option.bind_some, Option.bind_none, Option.map_some, Option.map_none, Option.pure_def, Option.bind_eq_bind, Bool.and_true, Bool.true_and, Bool.and_self, Bool.or_false, Bool.false_or, Bool.and_false, Bool.false_and, Bool.or_true, Bool.true_or, Bool.not_true, Bool.not_false, Bool.not_not, decide_true, decide_false, and_self, and_true, true_and, beq_self_eq_true, beq_true, beq_false, bne_self_eq_false, Int.reduceBNe, Int.reduceBEq, Int.reduceLT, Int.reduceLE, Int.reduceGT, Bool.false_eq_true, Nat.zero_lt_succ, Nat.zero_lt_one, Nat.add_assoc, Nat.left_eq_add, Nat.add_eq_left, h54, h40, hd, h1, verV, lst_some, hx2, slV_none]
        · exact absurd h2.symm hdm
  · have hT : (decide (lastR (lst o) < ts) && decide (ts ≤ 1099511627776)) = false := by simp; omega
    have e0 : refE o ts l = 181 := by unfold refE; rw [if_neg ht]
    have e2 : refC o ts l = none := by unfold refC; rw [if_neg]; omega
    rw [hT] at h54
    rw [e0, e2]
    simp +contextual -implicitDefEqProofs (maxSteps := 2000000) only [↓wP, wQ, wQ1, wQ2, wQ3, boxE, List.take_length, partsOf, ↓reduceIte, Nat.reduceEqDiff, Nat.reduceAdd, Nat.reduceSub, Nat.reduceLeDiff, Nat.reduceLT, Nat.reduceMul, Nat.zero_add, Nat.add_zero, Nat.mul_zero, Nat.le_refl, Nat.zero_le, Nat.one_ne_zero, Nat.zero_ne_one, reduceCtorEq, List.map_cons, List.map_nil, List.mapM_cons, List.mapM_nil, List.flatMap_cons, List.flatMap_nil, List.append_nil, List.nil_append, List.cons_append, List.drop_zero, List.drop_succ_cons, List.take_zero, List.take_succ_cons, List.take_nil, List.drop_nil, List.length_cons, List.length_nil, List.getElem?_cons_zero, List.getElem?_cons_succ, List.getElem?_nil, List.set_cons_zero, List.set_cons_succ, List.all_cons, List.all_nil, Option.bind_some, Option.bind_none, Option.map_some, Option.map_none, Option.pure_def, Option.bind_eq_bind, Bool.and_true, Bool.true_and, Bool.and_self, Bool.or_false, Bool.false_or, Bool.and_false, Bool.false_and, Bool.or_true, Bool.true_or, Bool.not_true, Bool.not_false, Bool.not_not, decide_true, decide_false, and_self, and_true, true_and, beq_self_eq_true, beq_true, beq_false, bne_self_eq_false, Int.reduceBNe, Int.reduceBEq, Int.reduceLT, Int.reduceLE, Int.reduceGT, Bool.false_eq_true, Nat.zero_lt_succ, Nat.zero_lt_one, Nat.add_assoc, Nat.left_eq_add, Nat.add_eq_left, h54, slV_none]

end Go.Q.S3
end

section
/- The document's Del and Prune. -/
set_option linter.unusedSimpArgs false
set_option linter.unusedVariables false
namespace Go.Q.S3
open Go.Q

def rdelC (o : Option (List Ver)) (ts : Int) : Option (List Ver) := if lastR (lst o) < ts ∧ ts ≤ 1099511627776 ∧ openL (lst o) = true then some (closeL ts ((lst o).map cpV)) else none
def rdelE (o : Option (List Ver)) (ts : Int) : Int := if lastR (lst o) < ts ∧ ts ≤ 1099511627776 then (if openL (lst o) = true then 0 else 4) else 181

theorem open_cp (L : List Ver) : openL (L.map cpV) = openL L := by
  unfold openL
  rw [List.getLast?_map]
  cases L.getLast? <;> rfl

theorem r34 (o : Option (List Ver)) (ts : Int) (hs : Sm o) (hf : FitC o) (hc : okC o = true) : res T 34 [slV 3 verV o, .int .u64 ts] = some (.tup [slV 3 verV (rdelC o ts), .int .i64 (rdelE o ts)]) := by
  refine run_res (run_pure (fn := g34) rfl rfl (by decide) ?_)
  simp only [g34, b34]
  have h54 := f54 o ts hs
  by_cases ht : lastR (lst o) < ts ∧ ts ≤ 1099511627776
  · have hT : (decide (lastR (lst o) < ts) && decide (ts ≤ 1099511627776)) = true := by simpa using ht
    rw [hT] at h54
    obtain ⟨v', σ', n', a1, a2, a3, a4⟩ := thaw_ownC Sto.empty 0 (opt ((lst o).map cpV))
    have h14 := callE_thaw (by decide) (r14 o hf) (by simp [Tr, Tr_slV]) true Sto.empty 0 0
    rw [a1] at h14
    have hcp : AllS (lst (opt ((lst o).map cpV))) := by rw [lst_opt]; exact all_cp _
    have hfr := a2.frz hcp 9
    have hm55 : T.mode 55 ≠ .raw := by decide
    have h55 := r55 (opt ((lst o).map cpV)) ⟨by rw [lst_opt, List.length_map]; exact hs.1, fun x hx => by
      rw [lst_opt] at hx; obtain ⟨y, hy, rfl⟩ := List.mem_map.1 hx; exact hs.2 y hy⟩
    unfold okC at hc
    rw [Bool.and_eq_true] at hc
    rw [lst_opt, open_idx (chk_cp hc.2), open_cp] at h55
    cases ho : openL (lst o)
    · rw [ho] at h55
      have e1 : rdelE o ts = 4 := by simp [rdelE, ht, ho]
      have e2 : rdelC o ts = none := by simp [rdelC, ho]
      have hm1 : decide ((-1 : Int) < 0) = true := rfl
      rw [e1, e2]
      simp +contextual -implicitDefEqProofs (maxSteps := 2000000) only [↓wP, wQ, wQ1, wQ2, wQ3, boxE, List.take_length, partsOf, ↓reduceIte, Nat.reduceEqDiff, Nat.reduceAdd, Nat.reduceSub, Nat.reduceLeDiff, Nat.reduceLT, Nat.reduceMul, Nat.zero_add, Nat.add_zero, Nat.mul_zero, Nat.le_refl, Nat.zero_le, Nat.one_ne_zero, Nat.zero_ne_one, reduceCtorEq, List.map_cons, List.map_nil, List.mapM_cons, List.mapM_nil, List.flatMap_cons, List.flatMap_nil, List.append_nil, List.nil_append, List.cons_append, List.drop_zero, List.drop_succ_cons, List.take_zero, List.take_succ_cons, List.take_nil, List.drop_nil, List.length_cons, List.length_nil, List.getElem?_cons_zero, List.getElem?_cons_succ, List.getElem?_nil, List.set_cons_zero, List.set_cons_succ, List.all_cons, List.all_nil, Option.bind_some, Option.bind_none, Option.map_some, Option.map_none, Option.pure_def, Option.bind_eq_bind, Bool.and_true, Bool.true_and, Bool.and_self, Bool.or_false, Bool.false_or, Bool.and_false, Bool.false_and, Bool.or_true, Bool.true_or, Bool.not_true, Bool.not_false, Bool.not_not, decide_true, decide_false, and_self, and_true, true_and, beq_self_eq_true, beq_true, beq_false, bne_self_eq_false, Int.reduceBNe, Int.reduceBEq, Int.reduceLT, Int.reduceLE, Int.reduceGT, Bool.false_eq_true, Nat.zero_lt_succ, Nat.zero_lt_one, Nat.add_assoc, Nat.left_eq_add, Nat.add_eq_left, h54, h14, callE_eq hm55, hfr, h55, hm1, slV_none]
    · rw [ho] at h55
      have e1 : rdelE o ts = 0 := by simp [rdelE, ht, ho]
      have e2 : rdelC o ts = some (closeL ts ((lst o).map cpV)) := by simp [rdelC, ho, ht]
      rw [e1, e2]
      obtain ⟨A, x, hA⟩ : ∃ A x, (lst o).map cpV = A ++ [x] := by
        rcases List.eq_nil_or_concat ((lst o).map cpV) with hnil | ⟨A, x, hA⟩
        · rw [← open_cp, hnil] at ho; simp [openL] at ho
        · exact ⟨A, x, by rw [hA, List.concat_eq_append]⟩
      have hcpA := all_cp (lst o)
      rw [← open_cp] at ho
      rw [hA] at ho h55 hfr a2 hcpA ⊢
      have hxe : x.e = 0 := by simpa [openL] using ho
      have e3 : closeL ts (A ++ [x]) = A ++ [⟨x.b, ts, x.v⟩] := by simp [closeL, hxe]
      rw [e3]
      rw [opt_snoc'] at a2
      obtain ⟨id, rows, w, hv', hσ, hrow, hw, hm, hn, hset⟩ := a2.last
      have hidx : (A ++ [x]).length - 1 = A.length := by simp
      rw [hidx, if_pos rfl] at h55
      have hia : iaddrE 3 v' (.int .i64 (A.length : Int)) = some (.ptr id 3 A.length 0) := by rw [hv', iaddrE_ref, if_pos (by omega), Nat.zero_add]
      have hm1 : decide ((A.length : Int) < 0) = false := decide_eq_false (by omega)
      have kx := hset ts (upd σ' id (some (.row 3 (rows.set A.length (.agg [.int .u64 x.b, .int .u64 ts, w]))))) (by simp [upd]) (fun i hi _ => by simp [upd, hi])
      have hall : AllS (A ++ [⟨x.b, ts, x.v⟩]) := fun y hy => by
        rcases List.mem_append.1 hy with hy | hy
        · exact hcpA y (List.mem_append_left _ hy)
        · rw [List.mem_singleton.1 hy]
          exact hcpA x (by simp)
      have hend := kx.frz hall 8
      simp +contextual -implicitDefEqProofs (maxSteps := 2000000) only [↓wP, wQ, wQ1, wQ2, wQ3, boxE, List.take_length, partsOf, ↓reduceIte, Nat.reduceEqDiff, Nat.reduceAdd, Nat.reduceSub, Nat.reduceLeDiff, Nat.reduceLT, Nat.reduceMul, Nat.zero_add, Nat.add_zero, Nat.mul_zero, Nat.le_refl, Nat.zero_le, Nat.one_ne_zero, Nat.zero_ne_one, reduceCtorEq, List.map_cons, List.map_nil, List.mapM_cons, List.mapM_nil, List.flatMap_cons, List.flatMap_nil, List.append_nil, List.nil_append, List.cons_append, List.drop_zero, List.drop_succ_cons, List.take_zero, List.take_succ_cons, List.take_nil, List.drop_nil, List.length_cons, List.length_nil, List.getElem?_cons_zero, List.getElem?_cons_succ, List.getElem?_nil, List.set_cons_zero, List.set_cons_succ, List.all_cons, List.all_nil, Option.bind_some, Option.bind_none, Option.map_some, Option.map_none, Option.pure_def, Option.bind_eq_bind, Bool.and_true, Bool.true_and, Bool.and_self, Bool.or_false, Bool.false_or, Bool.and_false, Bool.false_and, Bool.or_true, Bool.true_or, Bool.not_true, Bool.not_false, Bool.not_not, decide_true, decide_false, and_self, and_true, true_and, beq_self_eq_true, beq_true, beq_false, bne_self_eq_false, Int.reduceBNe, Int.reduceBEq, Int.reduceLT, Int.reduceLE, Int.reduceGT, Bool.false_eq_true, Nat.zero_lt_succ, Nat.zero_lt_one, Nat.add_assoc, Nat.left_eq_add, Nat.add_eq_left, h54, h14, callE_eq hm55, hfr, h55, hm1, hia, hσ, hrow, hw, hend]
  · have hT : (decide (lastR (lst o) < ts) && decide (ts ≤ 1099511627776)) = false := by simp; omega
    have e1 : rdelE o ts = 181 := by unfold rdelE; rw [if_neg ht]
    have e2 : rdelC o ts = none := by unfold rdelC; rw [if_neg]; omega
    rw [hT] at h54
    rw [e1, e2]
    simp +contextual -implicitDefEqProofs (maxSteps := 2000000) only [↓wP, wQ, wQ1, wQ2, wQ3, boxE, List.take_length, partsOf, ↓reduceIte, Nat.reduceEqDiff, Nat.reduceAdd, Nat.reduceSub, Nat.reduceLeDiff, Nat.reduceLT, Nat.reduceMul, Nat.zero_add, Nat.add_zero, Nat.mul_zero, Nat.le_refl, Nat.zero_le, Nat.one_ne_zero, Nat.zero_ne_one, reduceCtorEq, List.map_cons, List.map_nil, List.mapM_cons, List.mapM_nil, List.flatMap_cons, List.flatMap_nil, List.append_nil, List.nil_append, List.cons_append, List.drop_zero, List.drop_succ_cons, List.take_zero, List.take_succ_cons, List.take_nil, List.drop_nil, List.length_cons, List.length_nil, List.getElem?_cons_zero, List.getElem?_cons_succ, List.getElem?_nil, List.set_cons_zero, List.set_cons_succ, List.all_cons, List.all_nil, Option.bind_some, Option.bind_none, Option.map_some, Option.map_none, Option.pure_def, Option.bind_eq_bind, Bool.and_true, Bool.true_and, Bool.and_self, Bool.or_false, Bool.false_or, Bool.and_false, Bool.false_and, Bool.or_true, Bool.true_or, Bool.not_true, Bool.not_false, Bool.not_not, decide_true, decide_false, and_self, and_true, true_and, beq_self_eq_true, beq_true, beq_false, bne_self_eq_false, Int.reduceBNe, Int.reduceBEq, Int.reduceLT, Int.reduceLE, Int.reduceGT, Bool.false_eq_true, Nat.zero_lt_succ, Nat.zero_lt_one, Nat.add_assoc, Nat.left_eq_add, Nat.add_eq_left, h54, slV_none]

/-- What the document's Prune keeps. -/
def keepP (fl : Int) (x : Ver) : Bool := x.e == 0 || decide (fl < x.e)
theorem keep_goes (fl : Int) (x : Ver) : keepP fl x = !goesP fl x := by
  unfold keepP goesP
  rw [Bool.not_and, ← decide_not, bne, Bool.not_not]
  congr 1
  exact decide_eq_decide.2 (by omega)

theorem frz_rowsZ {σ : Sto} {m n : Nat} {v : V} {Z : List Z1} (h : Pl σ m n 3 v ((opt Z).map (List.map ev))) (hz : ∀ z ∈ Z, σ z.2 = some (.row 1 ((lst z.1.v).map i32V))) (ha : ∀ z ∈ Z, z.1.v = some (lst z.1.v)) (k : Nat) :
    Go.Q.frz σ (k + 3) v = some (slV 3 verV (opt (Z.map Prod.fst))) := by
  have hL : ∀ Y : List Z1, (∀ z ∈ Y, z ∈ Z) → (Y.map ev).mapM (elemM (Go.Q.frz σ (k + 2))) = some ((Y.map Prod.fst).map verV) := by
    intro Y
    induction Y with
    | nil => intro _; rfl
    | cons y Y ih =>
      intro hY
      have g1 := frz_vec (ha y (hY y (by simp))) (hz y (hY y (by simp))) k
      rw [List.map_cons, List.mapM_cons, ih (fun z hz => hY z (List.mem_cons_of_mem _ hz))]
      rw [vref] at g1
      simp only [ev, elemM, List.mapM_cons, List.mapM_nil, g1]
      rfl
  cases Z with
  | nil => have h : v = .nilS := h; subst h; rfl
  | cons z Z =>
    obtain ⟨i, rfl, h1, h2, h3⟩ := h
    rw [frz_rf, h1, elemsO_row, if_pos (by omega), List.drop_zero, List.take_length, Option.bind_some, hL _ (fun z hz => hz)]
    rfl

theorem r35 (o : Option (List Ver)) (fl : Int) (hs : Sm o) (hf : FitC o) : res T 35 [slV 3 verV o, .int .u64 fl] = some (.tup [slV 3 verV (opt (((lst o).map cpV).filter (keepP fl))), slV 3 verV (opt (((lst o).map cpV).filter fun x => !keepP fl x))]) := by
  refine run_res (run_pure (fn := g35) rfl rfl (by decide) ?_)
  simp only [g35, b35]
  obtain ⟨v', σ', n', a1, a2, a3, a4⟩ := thaw_ownC Sto.empty 0 (opt ((lst o).map cpV))
  have h14 := callE_thaw (by decide) (r14 o hf) (by simp [Tr, Tr_slV]) true Sto.empty 0 0
  rw [a1] at h14
  have hle := a2.len
  rw [lst_opt] at hle
  obtain ⟨Z, z1, z2, z3, z4, z5⟩ := a2.rowZ
  rw [lst_opt] at z2
  have hZl : Z.length = (lst o).length := by have := congrArg List.length z2; simpa using this
  have hzl : (((lst o).map cpV).length : Int) = (Z.length : Int) := by rw [hZl, List.length_map]
  rw [hzl] at hle
  have hza : ∀ z ∈ Z, z.1.v = some (lst z.1.v) := fun z hz => all_cp (lst o) z.1 (by rw [← z2]; exact List.mem_map_of_mem hz)
  simp +contextual -implicitDefEqProofs (maxSteps := 2000000) only [↓wP, wQ, wQ1, wQ2, wQ3, boxE, List.take_length, partsOf, ↓reduceIte, Nat.reduceEqDiff, Nat.reduceAdd, Nat.reduceSub, Nat.reduceLeDiff, Nat.reduceLT, Nat.reduceMul, Nat.zero_add, Nat.add_zero, Nat.mul_zero, Nat.le_refl, Nat.zero_le, Nat.one_ne_zero, Nat.zero_ne_one, reduceCtorEq, List.map_cons, List.map_nil, List.mapM_cons, List.mapM_nil, List.flatMap_cons, List.flatMap_nil, List.append_nil, List.nil_append, List.cons_append, List.drop_zero, List.drop_succ_cons, List.take_zero, List.take_succ_cons, List.take_nil, List.drop_nil, List.length_cons, List.length_nil, List.getElem?_cons_zero, List.getElem?_cons_succ, List.getElem?_nil, List.set_cons_zero, List.set_cons_succ, List.all_cons, List.all_nil, Option.bind_some, Option.bind_none, Option.map_some, Option.map_none, Option.pure_def, Option.bind_eq_bind, Bool.and_true, Bool.true_and, Bool.and_self, Bool.or_false, Bool.false_or, Bool.and_false, Bool.false_and, Bool.or_true, Bool.true_or, Bool.not_true, Bool.not_false, Bool.not_not, decide_true, decide_false, and_self, and_true, true_and, beq_self_eq_true, beq_true, beq_false, bne_self_eq_false, Int.reduceBNe, Int.reduceBEq, Int.reduceLT, Int.reduceLE, Int.reduceGT, Bool.false_eq_true, Nat.zero_lt_succ, Nat.zero_lt_one, Nat.add_assoc, Nat.left_eq_add, Nat.add_eq_left, h14, hle]
  refine WC_for Z.length 0 (fun (j : Nat) env σ n => env 11 = v' ∧ env 1 = .int .u64 fl ∧ n' ≤ n ∧ (∀ i, i < n' → σ i = σ' i) ∧ Pl σ n' n 3 (env 6) ((opt ((Z.take j).filter fun z => keepP fl z.1)).map (List.map ev)) ∧
      Pl σ n' n 3 (env 7) ((opt ((Z.take j).filter fun z => !keepP fl z.1)).map (List.map ev)) ∧ (∀ i a b c a' b' c', env 6 = .ref i a b c → env 7 ≠ .ref i a' b' c'))
    (by have := hs.1; omega) (by decide) (by decide) (fun _ _ => rfl) (fun _ _ _ => rfl) ?_ ?_ _ _ _ rfl rfl ?_
  · intro j env σ n hj h1 h2 ⟨h3, h4, h5, h6, h7, h8, h9⟩
    simp only [vl_tmp] at h2
    rcases z1 with ⟨-, rfl⟩ | ⟨id, hid, hrow⟩
    · simp at hj
    have hb := z5 _ _ _ _ hid
    have hσ : σ id = some (.row 3 (Z.map ev)) := by rw [h6 id hb.2.1, hrow]
    have hx : (Z.map ev)[j]? = some (.agg [.int .u64 Z[j].1.b, .int .u64 Z[j].1.e, .ref Z[j].2 0 (lst Z[j].1.v).length 1]) := by
      rw [List.getElem?_map, List.getElem?_eq_getElem hj]; rfl
    have hia : iaddrE 3 v' (.int .i64 (j : Int)) = some (.ptr id 3 j 0) := by rw [hid, iaddrE_ref, if_pos hj, Nat.zero_add]
    have hin : (id = n) = False := by simp; omega
    generalize hv6 : env 6 = v6 at h7 h9
    generalize hv7 : env 7 = v7 at h8 h9
    have hk : keepP fl Z[j].1 = ((Z[j].1.e == 0) || decide (fl < Z[j].1.e)) := rfl
    have hf1 : ∀ q : Z1 → Bool, (Z.take (j + 1)).filter q = (Z.take j).filter q ++ if q Z[j] = true then [Z[j]] else [] := fun q => by
      rw [← List.take_append_getElem hj, List.filter_append]
      congr 1
      cases hh : q Z[j] <;> simp [hh]
    have hlim : ∀ q : Z1 → Bool, ((lst ((opt ((Z.take j).filter q)).map (List.map ev))).length + 1) * 40 ≤ LIM := fun q => by
      rw [lst_map, lst_opt, List.length_map]
      have q1 := List.length_filter_le q (Z.take j)
      rw [List.length_take] at q1
      refine Nat.le_trans (Nat.mul_le_mul_right 40 ?_) hf.1
      omega
    simp +contextual -implicitDefEqProofs (maxSteps := 2000000) only [↓wP, wQ, wQ1, wQ2, wQ3, boxE, List.take_length, partsOf, ↓reduceIte, Nat.reduceEqDiff, Nat.reduceAdd, Nat.reduceSub, Nat.reduceLeDiff, Nat.reduceLT, Nat.reduceMul, Nat.zero_add, Nat.add_zero, Nat.mul_zero, Nat.le_refl, Nat.zero_le, Nat.one_ne_zero, Nat.zero_ne_one, reduceCtorEq, List.map_cons, List.map_nil, List.mapM_cons, List.mapM_nil, List.flatMap_cons, List.flatMap_nil, List.append_nil, List.nil_append, List.cons_append, List.drop_zero, List.drop_succ_cons, List.take_zero, List.take_succ_cons, List.take_nil, List.drop_nil, List.length_cons, List.length_nil, List.getElem?_cons_zero, List.getElem?_cons_succ, List.getElem?_nil, List.set_cons_zero, List.set_cons_succ, List.all_cons, List.all_nil, Option.bind_some, Option.bind_none, Option.map_some, Option.map_none, Option.pure_def, Option.bind_eq_bind, Bool.and_true, Bool.true_and, Bool.and_self, Bool.or_false, Bool.false_or, Bool.and_false, Bool.false_and, Bool.or_true, Bool.true_or, Bool.not_true, Bool.not_false, Bool.not_not, decide_true, decide_false, and_self, and_true, true_and, beq_self_eq_true, beq_true, beq_false, bne_self_eq_false, Int.reduceBNe, Int.reduceBEq, Int.reduceLT, Int.reduceLE, Int.reduceGT, Bool.false_eq_true, Nat.zero_lt_succ, Nat.zero_lt_one, Nat.add_assoc, Nat.left_eq_add, Nat.add_eq_left, h1, h2, h3, h4, hv6, hv7, hia, hσ, hx, hin]
    refine condC_split (fun hb => ?_) (fun hb => ?_)
    · have hkk : keepP fl Z[j].1 = true := hb
      simp +contextual -implicitDefEqProofs (maxSteps := 2000000) only [↓wP, wQ, wQ1, wQ2, wQ3, boxE, List.take_length, partsOf, ↓reduceIte, Nat.reduceEqDiff, Nat.reduceAdd, Nat.reduceSub, Nat.reduceLeDiff, Nat.reduceLT, Nat.reduceMul, Nat.zero_add, Nat.add_zero, Nat.mul_zero, Nat.le_refl, Nat.zero_le, Nat.one_ne_zero, Nat.zero_ne_one, reduceCtorEq, List.map_cons, List.map_nil, List.mapM_cons, List.mapM_nil, List.flatMap_cons, List.flatMap_nil, List.append_nil, List.nil_append, List.cons_append, List.drop_zero, List.drop_succ_cons, List.take_zero, List.take_succ_cons, List.take_nil, List.drop_nil, List.length_cons, List.length_nil, List.getElem?_cons_zero, List.getElem?_cons_succ, List.getElem?_nil, List.set_cons_zero, List.set_cons_succ, List.all_cons, List.all_nil, Option.bind_some, Option.bind_none, Option.map_some, Option.map_none, Option.pure_def, Option.bind_eq_bind, Bool.and_true, Bool.true_and, Bool.and_self, Bool.or_false, Bool.false_or, Bool.and_false, Bool.false_and, Bool.or_true, Bool.true_or, Bool.not_true, Bool.not_false, Bool.not_not, decide_true, decide_false, and_self, and_true, true_and, beq_self_eq_true, beq_true, beq_false, bne_self_eq_false, Int.reduceBNe, Int.reduceBEq, Int.reduceLT, Int.reduceLE, Int.reduceGT, Bool.false_eq_true, Nat.zero_lt_succ, Nat.zero_lt_one, Nat.add_assoc, Nat.left_eq_add, Nat.add_eq_left, h1, h2, h3, h4, hv6, hv7]
      refine stepW_app1 h7 (fun i hi hi' => ?_) (by omega) (by omega) (Nat.zero_le _) (hlim _) (fun _ σ2 p1 p2 => ?_)
      · have b1 : i ≠ n := by omega
        have b2 : i ≠ n + 1 := by omega
        simp only [upd_get, b1, b2, if_false]
      · have e1 := hf1 fun z => keepP fl z.1
        have e2 := hf1 fun z => !keepP fl z.1
        rw [hkk] at e1 e2
        simp only [if_true, Bool.not_true, Bool.false_eq_true, if_false, List.append_nil] at e1 e2
        have p3 : some (lst ((opt ((Z.take j).filter fun z => keepP fl z.1)).map (List.map ev)) ++ [ev Z[j]]) = (opt ((Z.take (j + 1)).filter fun z => keepP fl z.1)).map (List.map ev) := by
          rw [e1, opt_snoc', lst_map, lst_opt, Option.map_some, List.map_append]; rfl
        simp +contextual -implicitDefEqProofs (maxSteps := 2000000) only [↓wP, wQ, wQ1, wQ2, wQ3, boxE, List.take_length, partsOf, ↓reduceIte, Nat.reduceEqDiff, Nat.reduceAdd, Nat.reduceSub, Nat.reduceLeDiff, Nat.reduceLT, Nat.reduceMul, Nat.zero_add, Nat.add_zero, Nat.mul_zero, Nat.le_refl, Nat.zero_le, Nat.one_ne_zero, Nat.zero_ne_one, reduceCtorEq, List.map_cons, List.map_nil, List.mapM_cons, List.mapM_nil, List.flatMap_cons, List.flatMap_nil, List.append_nil, List.nil_append, List.cons_append, List.drop_zero, List.drop_succ_cons, List.take_zero, List.take_succ_cons, List.take_nil, List.drop_nil, List.length_cons, List.length_nil, List.getElem?_cons_zero, List.getElem?_cons_succ, List.getElem?_nil, List.set_cons_zero, List.set_cons_succ, List.all_cons, List.all_nil, Option.bind_some, Option.bind_none, Option.map_some, Option.map_none, Option.pure_def, Option.bind_eq_bind, Bool.and_true, Bool.true_and, Bool.and_self, Bool.or_false, Bool.false_or, Bool.and_false, Bool.false_and, Bool.or_true, Bool.true_or, Bool.not_true, Bool.not_false, Bool.not_not, decide_true, decide_false, and_self, and_true, true_and, beq_self_eq_true, beq_true, beq_false, bne_self_eq_false, Int.reduceBNe, Int.reduceBEq, Int.reduceLT, Int.reduceLE, Int.reduceGT, Bool.false_eq_true, Nat.zero_lt_succ, Nat.zero_lt_one, Nat.add_assoc, Nat.left_eq_add, Nat.add_eq_left, h1, h2, h3, h4, hv7]
        rw [← p3, e2]
        refine ⟨by omega, fun i hi => ?_, p1, ?_, fun i a b c a' b' c' hr he => ?_⟩
        · rw [p2 i (by omega) (fun off len s he => by
            cases hq : (opt ((Z.take j).filter fun z => keepP fl z.1)).map (List.map ev) with
            | none => rw [hq] at h7; rw [h7] at he; cases he
            | some xs => rw [hq] at h7; obtain ⟨k, hk1, -, hk2, -⟩ := h7; rw [hk1] at he; cases he; omega)]
          have b1 : i ≠ n := by omega
          have b2 : i ≠ n + 1 := by omega
          simp only [upd_get, b1, b2, if_false]
          exact h6 i hi
        · cases hq : (opt ((Z.take j).filter fun z => !keepP fl z.1)).map (List.map ev) with
          | none => rw [hq] at h8; exact h8
          | some xs =>
            rw [hq] at h8
            obtain ⟨k, hk1, hk2, hk3, hk4⟩ := h8
            refine ⟨k, hk1, ?_, hk3, by omega⟩
            rw [p2 k (by omega) (fun off len s he => h9 k off len s 0 xs.length 3 he hk1)]
            have b1 : k ≠ n := by omega
            have b2 : k ≠ n + 1 := by omega
            simp only [upd_get, b1, b2, if_false]
            exact hk2
        · injection hr with hr1
          cases hq : (opt ((Z.take j).filter fun z => !keepP fl z.1)).map (List.map ev) with
          | none => rw [hq] at h8; rw [h8] at he; cases he
          | some xs => rw [hq] at h8; obtain ⟨k, hk1, -, -, hk2⟩ := h8; rw [hk1] at he; cases he; omega
    · have hkk : keepP fl Z[j].1 = false := hb
      simp +contextual -implicitDefEqProofs (maxSteps := 2000000) only [↓wP, wQ, wQ1, wQ2, wQ3, boxE, List.take_length, partsOf, ↓reduceIte, Nat.reduceEqDiff, Nat.reduceAdd, Nat.reduceSub, Nat.reduceLeDiff, Nat.reduceLT, Nat.reduceMul, Nat.zero_add, Nat.add_zero, Nat.mul_zero, Nat.le_refl, Nat.zero_le, Nat.one_ne_zero, Nat.zero_ne_one, reduceCtorEq, List.map_cons, List.map_nil, List.mapM_cons, List.mapM_nil, List.flatMap_cons, List.flatMap_nil, List.append_nil, List.nil_append, List.cons_append, List.drop_zero, List.drop_succ_cons, List.take_zero, List.take_succ_cons, List.take_nil, List.drop_nil, List.length_cons, List.length_nil, List.getElem?_cons_zero, List.getElem?_cons_succ, List.getElem?_nil, List.set_cons_zero, List.set_cons_succ, List.all_cons, List.all_nil, Option.bind_some, Option.bind_none, Option.map_some, Option.map_none, Option.pure_def, Option.bind_eq_bind, Bool.and_true, Bool.true_and, Bool.and_self, Bool.or_false, Bool.false_or, Bool.and_false, Bool.false_and, Bool.or_true, Bool.true_or, Bool.not_true, Bool.not_false, Bool.not_not, decide_true, decide_false, and_self, and_true, true_and, beq_self_eq_true, beq_true, beq_false, bne_self_eq_false, Int.reduceBNe, Int.reduceBEq, Int.reduceLT, Int.reduceLE, Int.reduceGT, Bool.false_eq_true, Nat.zero_lt_succ, Nat.zero_lt_one, Nat.add_assoc, Nat.left_eq_add, Nat.add_eq_left, h1, h2, h3, h4, hv6, hv7]
      refine stepW_app1 h8 (fun i hi hi' => ?_) (by omega) (by omega) (Nat.zero_le _) (hlim _) (fun _ σ2 p1 p2 => ?_)
      · have b1 : i ≠ n := by omega
        have b2 : i ≠ n + 1 := by omega
        simp only [upd_get, b1, b2, if_false]
      · have e1 := hf1 fun z => keepP fl z.1
        have e2 := hf1 fun z => !keepP fl z.1
        rw [hkk] at e1 e2
        simp only [if_true, Bool.not_false, Bool.false_eq_true, if_false, List.append_nil] at e1 e2
        have p3 : some (lst ((opt ((Z.take j).filter fun z => !keepP fl z.1)).map (List.map ev)) ++ [ev Z[j]]) = (opt ((Z.take (j + 1)).filter fun z => !keepP fl z.1)).map (List.map ev) := by
          rw [e2, opt_snoc', lst_map, lst_opt, Option.map_some, List.map_append]; rfl
        simp +contextual -implicitDefEqProofs (maxSteps := 2000000) only [↓wP, wQ, wQ1, wQ2, wQ3, boxE, List.take_length, partsOf, ↓reduceIte, Nat.reduceEqDiff, Nat.reduceAdd, Nat.reduceSub, Nat.reduceLeDiff, Nat.reduceLT, Nat.reduceMul, Nat.zero_add, Nat.add_zero, Nat.mul_zero, Nat.le_refl, Nat.zero_le, Nat.one_ne_zero, Nat.zero_ne_one, reduceCtorEq, List.map_cons, List.map_nil, List.mapM_cons, List.mapM_nil, List.flatMap_cons, List.flatMap_nil, List.append_nil, List.nil_append, List.cons_append, List.drop_zero, List.drop_succ_cons, List.take_zero, List.take_succ_cons, List.take_nil, List.drop_nil, List.length_cons, List.length_nil, List.getElem?_cons_zero, List.getElem?_cons_succ, List.getElem?_nil, List.set_cons_zero, List.set_cons_succ, List.all_cons, List.all_nil, Option.bind_some, Option.bind_none, Option.map_some, Option.map_none, Option.pure_def, Option.bind_eq_bind, Bool.and_true, Bool.true_and, Bool.and_self, Bool.or_false, Bool.false_or, Bool.and_false, Bool.false_and, Bool.or_true, Bool.true_or, Bool.not_true, Bool.not_false, Bool.not_not, decide_true, decide_false, and_self, and_true, true_and, beq_self_eq_true, beq_true, beq_false, bne_self_eq_false, Int.reduceBNe, Int.reduceBEq, Int.reduceLT, Int.reduceLE, Int.reduceGT, Bool.false_eq_true, Nat.zero_lt_succ, Nat.zero_lt_one, Nat.add_assoc, Nat.left_eq_add, Nat.add_eq_left, h1, h2, h3, h4, hv6]
        rw [← p3, e1]
        refine ⟨by omega, fun i hi => ?_, ?_, p1, fun i a b c a' b' c' he hr => ?_⟩
        · rw [p2 i (by omega) (fun off len s he => by
            cases hq : (opt ((Z.take j).filter fun z => !keepP fl z.1)).map (List.map ev) with
            | none => rw [hq] at h8; rw [h8] at he; cases he
            | some xs => rw [hq] at h8; obtain ⟨k, hk1, -, hk2, -⟩ := h8; rw [hk1] at he; cases he; omega)]
          have b1 : i ≠ n := by omega
          have b2 : i ≠ n + 1 := by omega
          simp only [upd_get, b1, b2, if_false]
          exact h6 i hi
        · cases hq : (opt ((Z.take j).filter fun z => keepP fl z.1)).map (List.map ev) with
          | none => rw [hq] at h7; exact h7
          | some xs =>
            rw [hq] at h7
            obtain ⟨k, hk1, hk2, hk3, hk4⟩ := h7
            refine ⟨k, hk1, ?_, hk3, by omega⟩
            rw [p2 k (by omega) (fun off len s he => h9 k 0 xs.length 3 off len s hk1 he)]
            have b1 : k ≠ n := by omega
            have b2 : k ≠ n + 1 := by omega
            simp only [upd_get, b1, b2, if_false]
            exact hk2
        · injection hr with hr1
          cases hq : (opt ((Z.take j).filter fun z => keepP fl z.1)).map (List.map ev) with
          | none => rw [hq] at h7; rw [h7] at he; cases he
          | some xs => rw [hq] at h7; obtain ⟨k, hk1, -, -, hk2⟩ := h7; rw [hk1] at he; cases he; omega
  · intro env σ n ⟨h3, h4, h5, h6, h7, h8, h9⟩ h1 h2
    rw [List.take_length] at h7 h8
    have hvr : ∀ q : Z1 → Bool, ∀ z ∈ Z.filter q, σ z.2 = some (.row 1 ((lst z.1.v).map i32V)) := fun q z hz => by
      have := z4 z (List.mem_filter.1 hz).1
      rw [h6 z.2 this.2.1, this.2.2]
    have w1 := frz_rowsZ h7 (hvr _) (fun z hz => hza z (List.mem_filter.1 hz).1) 8
    have w2 := frz_rowsZ h8 (hvr _) (fun z hz => hza z (List.mem_filter.1 hz).1) 8
    rw [filter_fst, z2] at w1
    rw [filter_fst (fun x => !keepP fl x), z2] at w2
    simp +contextual -implicitDefEqProofs (maxSteps := 2000000) only [↓wP, wQ, wQ1, wQ2, wQ3, boxE, List.take_length, partsOf, ↓reduceIte, Nat.reduceEqDiff, Nat.reduceAdd, Nat.reduceSub, Nat.reduceLeDiff, Nat.reduceLT, Nat.reduceMul, Nat.zero_add, Nat.add_zero, Nat.mul_zero, Nat.le_refl, Nat.zero_le, Nat.one_ne_zero, Nat.zero_ne_one, reduceCtorEq, List.map_cons, List.map_nil, List.mapM_cons, List.mapM_nil, List.flatMap_cons, List.flatMap_nil, List.append_nil, List.nil_append, List.cons_append, List.drop_zero, List.drop_succ_cons, List.take_zero, List.take_succ_cons, List.take_nil, List.drop_nil, List.length_cons, List.length_nil, List.getElem?_cons_zero, List.getElem?_cons_succ, List.getElem?_nil, List.set_cons_zero, List.set_cons_succ, List.all_cons, List.all_nil, Option.bind_some, Option.bind_none, Option.map_some, Option.map_none, Option.pure_def, Option.bind_eq_bind, Bool.and_true, Bool.true_and, Bool.and_self, Bool.or_false, Bool.false_or, Bool.and_false, Bool.false_and, Bool.or_true, Bool.true_or, Bool.not_true, Bool.not_false, Bool.not_not, decide_true, decide_false, and_self, and_true, true_and, beq_self_eq_true, beq_true, beq_false, bne_self_eq_false, Int.reduceBNe, Int.reduceBEq, Int.reduceLT, Int.reduceLE, Int.reduceGT, Bool.false_eq_true, Nat.zero_lt_succ, Nat.zero_lt_one, Nat.add_assoc, Nat.left_eq_add, Nat.add_eq_left, w1, w2]
  · exact ⟨rfl, rfl, Nat.le_refl _, fun _ _ => rfl, rfl, rfl, fun _ _ _ _ _ _ _ h => by cases h⟩

end Go.Q.S3
end

section
/- Which chains may be, are one, and what they tell. -/
set_option linter.unusedSimpArgs false
set_option linter.unusedVariables false
namespace Go.Q.S3
open Go.Q

theorem ver_refl (x : Ver) : (x == x) = true := by rw [ver_beq]; simp
theorem vers_refl : ∀ (l : List Ver), (l == l) = true
  | [] => rfl
  | x :: l => by
    show (x == x && l == l) = true
    rw [ver_refl, vers_refl l]; rfl

theorem last_fold {d : Int} : ∀ {L n : Int} {l : List Ver}, chk d L l = true → n ≤ L → l.foldl (fun n v => mx (mx n v.b) v.e) n = if l = [] then n else lastC l
  | _, _, [], _, _ => rfl
  | L, n, x :: xs, h, hn => by
    rw [chk, okVer_one] at h
    simp only [Bool.and_eq_true, decide_eq_true_eq, okOne, Bool.or_eq_true, beq_iff_eq, Bool.not_eq_true', beq_eq_false_iff_ne] at h
    obtain ⟨⟨⟨h1, h2⟩, h3⟩, h4⟩ := h
    have e1 : mx n x.b = x.b := by unfold mx; split <;> omega
    rw [List.foldl_cons, e1, if_neg (by simp)]
    cases xs with
    | nil => rfl
    | cons y ys =>
      simp only [List.isEmpty_cons, Bool.false_eq_true, or_false] at h3
      have e2 : mx x.b x.e = x.e := by unfold mx; split <;> omega
      rw [e2, last_fold h4 (Int.le_refl _), if_neg (by simp)]
      simp [lastC]

theorem last_eq {o : Option (List Ver)} (h : okC o = true) : lastR (lst o) = lastC (lst o) := by
  unfold okC at h
  rw [Bool.and_eq_true] at h
  unfold lastR
  rw [last_fold h.2 (Int.le_refl _)]
  split
  · rename_i h0; rw [h0]; rfl
  · rfl

theorem r7 (l : Option (List (Option (List Ver)))) (ts : Option (List Int)) (hl : (lst l).length < 9223372036854775808) (hs : ∀ x ∈ lst l, Sm x) (ht : (lst ts).length < 9223372036854775808) : res T 7 [slV 1 (slV 3 verV) l, slV 1 u64V ts] = some (.bool true) := by
  refine run_res (run_pure (fn := g7) rfl rfl (by decide) ?_)
  simp only [g7, b7]
  simp +contextual -implicitDefEqProofs (maxSteps := 2000000) only [↓wP, wQ, wQ1, wQ2, wQ3, boxE, List.take_length, partsOf, ↓reduceIte, Nat.reduceEqDiff, Nat.reduceAdd, Nat.reduceSub, Nat.reduceLeDiff, Nat.reduceLT, Nat.reduceMul, Nat.zero_add, Nat.add_zero, Nat.mul_zero, Nat.le_refl, Nat.zero_le, Nat.one_ne_zero, Nat.zero_ne_one, reduceCtorEq, List.map_cons, List.map_nil, List.mapM_cons, List.mapM_nil, List.flatMap_cons, List.flatMap_nil, List.append_nil, List.nil_append, List.cons_append, List.drop_zero, List.drop_succ_cons, List.take_zero, List.take_succ_cons, List.take_nil, List.drop_nil, List.length_cons, List.length_nil, List.getElem?_cons_zero, List.getElem?_cons_succ, List.getElem?_nil, List.set_cons_zero, List.set_cons_succ, List.all_cons, List.all_nil, Option.bind_some, Option.bind_none, Option.map_some, Option.map_none, Option.pure_def, Option.bind_eq_bind, Bool.and_true, Bool.true_and, Bool.and_self, Bool.or_false, Bool.false_or, Bool.and_false, Bool.false_and, Bool.or_true, Bool.true_or, Bool.not_true, Bool.not_false, Bool.not_not, decide_true, decide_false, and_self, and_true, true_and, beq_self_eq_true, beq_true, beq_false, bne_self_eq_false, Int.reduceBNe, Int.reduceBEq, Int.reduceLT, Int.reduceLE, Int.reduceGT, Bool.false_eq_true, Nat.zero_lt_succ, Nat.zero_lt_one, Nat.add_assoc, Nat.left_eq_add, Nat.add_eq_left, f9]
  refine WC_for (lst l).length 0 (fun (j : Nat) env _ _ => env 0 = slV 1 (slV 3 verV) l ∧ env 20 = slV 1 (slV 3 verV) l ∧ env 1 = slV 1 u64V ts) (by omega) (by decide) (by decide) (fun _ _ => rfl) (fun _ _ _ => rfl) ?_ ?_ _ _ _ rfl rfl ?_
  · intro j env σ n hj h1 h2 ⟨h3, h4, h5⟩
    simp only [vl_tmp] at h2
    have hx : (lst l)[j]? = some (lst l)[j] := List.getElem?_eq_getElem hj
    have hx0 : (lst l)[0]? = some (lst l)[0] := List.getElem?_eq_getElem (by omega)
    have h10 := f10 (lst l)[j] (hs _ (List.getElem_mem hj))
    have h10' := f10 (lst l)[0] (hs _ (List.getElem_mem _))
    generalize (lst l)[j] = x at hx h10
    generalize (lst l)[0] = y at hx0 h10'
    have h23 := f23 (fewO x) (few_sm x)
    have h11 := f11 (fewO x) (few_sm x)
    have h24 := f24 (fewO x) (fewO y) (few_sm x)
    have h24' := f24 (fewO x) (fewO x) (few_sm x)
    have h17 := f17 (fewO x) (fewO y) (few_sm x)
    have h25 := f25 (fewO x) (few_sm x)
    have h21 := f21 (fewO x) (few_sm x)
    rw [vers_refl] at h24'
    by_cases h6 : (j : Int) = 6
    · have hd : ((j : Int) == 6) = true := by simpa using h6
      simp +contextual -implicitDefEqProofs (maxSteps := 2000000) only [↓wP, wQ, wQ1, wQ2, wQ3, boxE, List.take_length, partsOf, ↓reduceIte, Nat.reduceEqDiff, Nat.reduceAdd, Nat.reduceSub, Nat.reduceLeDiff, Nat.reduceLT, Nat.reduceMul, Nat.zero_add, Nat.add_zero, Nat.mul_zero, Nat.le_refl, Nat.zero_le, Nat.one_ne_zero, Nat.zero_ne_one, reduceCtorEq, List.map_cons, List.map_nil, List.mapM_cons, List.mapM_nil, List.flatMap_cons, List.flatMap_nil, List.append_nil, List.nil_append, List.cons_append, List.drop_zero, List.drop_succ_cons, List.take_zero, List.take_succ_cons, List.take_nil, List.drop_nil, List.length_cons, List.length_nil, List.getElem?_cons_zero, List.getElem?_cons_succ, List.getElem?_nil, List.set_cons_zero, List.set_cons_succ, List.all_cons, List.all_nil, Option.bind_some, Option.bind_none, Option.map_some, Option.map_none, Option.pure_def, Option.bind_eq_bind, Bool.and_true, Bool.true_and, Bool.and_self, Bool.or_false, Bool.false_or, Bool.and_false, Bool.false_and, Bool.or_true, Bool.true_or, Bool.not_true, Bool.not_false, Bool.not_not, decide_true, decide_false, and_self, and_true, true_and, beq_self_eq_true, beq_true, beq_false, bne_self_eq_false, Int.reduceBNe, Int.reduceBEq, Int.reduceLT, Int.reduceLE, Int.reduceGT, Bool.false_eq_true, Nat.zero_lt_succ, Nat.zero_lt_one, Nat.add_assoc, Nat.left_eq_add, Nat.add_eq_left, h1, h2, h3, h4, h5, hx, hd]
    · have hd : ((j : Int) == 6) = false := by simpa using h6
      cases hc : okC (fewO x)
      · have hB : ∀ t, atB (fewO x) t = false := fun t => by simp [atB, hc]
        have hI : ∀ t, atI (fewO x) t = 0 := fun t => by simp [atI, hB]
        simp +contextual -implicitDefEqProofs (maxSteps := 2000000) only [↓wP, wQ, wQ1, wQ2, wQ3, boxE, List.take_length, partsOf, ↓reduceIte, Nat.reduceEqDiff, Nat.reduceAdd, Nat.reduceSub, Nat.reduceLeDiff, Nat.reduceLT, Nat.reduceMul, Nat.zero_add, Nat.add_zero, Nat.mul_zero, Nat.le_refl, Nat.zero_le, Nat.one_ne_zero, Nat.zero_ne_one, reduceCtorEq, List.map_cons, List.map_nil, List.mapM_cons, List.mapM_nil, List.flatMap_cons, List.flatMap_nil, List.append_nil, List.nil_append, List.cons_append, List.drop_zero, List.drop_succ_cons, List.take_zero, List.take_succ_cons, List.take_nil, List.drop_nil, List.length_cons, List.length_nil, List.getElem?_cons_zero, List.getElem?_cons_succ, List.getElem?_nil, List.set_cons_zero, List.set_cons_succ, List.all_cons, List.all_nil, Option.bind_some, Option.bind_none, Option.map_some, Option.map_none, Option.pure_def, Option.bind_eq_bind, Bool.and_true, Bool.true_and, Bool.and_self, Bool.or_false, Bool.false_or, Bool.and_false, Bool.false_and, Bool.or_true, Bool.true_or, Bool.not_true, Bool.not_false, Bool.not_not, decide_true, decide_false, and_self, and_true, true_and, beq_self_eq_true, beq_true, beq_false, bne_self_eq_false, Int.reduceBNe, Int.reduceBEq, Int.reduceLT, Int.reduceLE, Int.reduceGT, Bool.false_eq_true, Nat.zero_lt_succ, Nat.zero_lt_one, Nat.add_assoc, Nat.left_eq_add, Nat.add_eq_left, h1, h2, h3, h4, h5, hx, hx0, hd, h10, h10', h23, h11, h24, h24', h17, h25, h21, hc]
        refine WC_for (lst ts).length 0 (fun (k : Nat) env _ _ => env 0 = slV 1 (slV 3 verV) l ∧ env 20 = slV 1 (slV 3 verV) l ∧ env 1 = slV 1 u64V ts ∧ env 74 = slV 1 u64V ts ∧ env 7 = slV 3 verV (fewO x) ∧ env 9 = .bool false ∧
            env 22 = .int .i64 (j : Int) ∧ env 21 = .int .i64 ((lst l).length : Int)) (by omega) (by decide) (by decide) (fun _ _ => rfl) (fun _ _ _ => rfl) ?_ ?_ _ _ _ rfl rfl ?_
        · clear h1 h2 h3 h4 h5
          intro k env σ n hk k1 k2 ⟨k3, k4, k5, k6, k7, k8, k9, k10⟩
          simp only [vl_tmp] at k2
          have hxk : (lst ts)[k]? = some (lst ts)[k] := List.getElem?_eq_getElem hk
          have h13 := f13 (fewO x) (lst ts)[k] (few_sm x)
          by_cases h20 : (k : Int) = 20
          · have hd : ((k : Int) == 20) = true := by simpa using h20
            simp +contextual -implicitDefEqProofs (maxSteps := 2000000) only [↓wP, wQ, wQ1, wQ2, wQ3, boxE, List.take_length, partsOf, ↓reduceIte, Nat.reduceEqDiff, Nat.reduceAdd, Nat.reduceSub, Nat.reduceLeDiff, Nat.reduceLT, Nat.reduceMul, Nat.zero_add, Nat.add_zero, Nat.mul_zero, Nat.le_refl, Nat.zero_le, Nat.one_ne_zero, Nat.zero_ne_one, reduceCtorEq, List.map_cons, List.map_nil, List.mapM_cons, List.mapM_nil, List.flatMap_cons, List.flatMap_nil, List.append_nil, List.nil_append, List.cons_append, List.drop_zero, List.drop_succ_cons, List.take_zero, List.take_succ_cons, List.take_nil, List.drop_nil, List.length_cons, List.length_nil, List.getElem?_cons_zero, List.getElem?_cons_succ, List.getElem?_nil, List.set_cons_zero, List.set_cons_succ, List.all_cons, List.all_nil, Option.bind_some, Option.bind_none, Option.map_some, Option.map_none, Option.pure_def, Option.bind_eq_bind, Bool.and_true, Bool.true_and, Bool.and_self, Bool.or_false, Bool.false_or, Bool.and_false, Bool.false_and, Bool.or_true, Bool.true_or, Bool.not_true, Bool.not_false, Bool.not_not, decide_true, decide_false, and_self, and_true, true_and, beq_self_eq_true, beq_true, beq_false, bne_self_eq_false, Int.reduceBNe, Int.reduceBEq, Int.reduceLT, Int.reduceLE, Int.reduceGT, Bool.false_eq_true, Nat.zero_lt_succ, Nat.zero_lt_one, Nat.add_assoc, Nat.left_eq_add, Nat.add_eq_left, k1, k2, k3, k4, k5, k6, k7, k8, k9, k10, hxk, u64V, hd]
          · have hd : ((k : Int) == 20) = false := by simpa using h20
            simp +contextual -implicitDefEqProofs (maxSteps := 2000000) only [↓wP, wQ, wQ1, wQ2, wQ3, boxE, List.take_length, partsOf, ↓reduceIte, Nat.reduceEqDiff, Nat.reduceAdd, Nat.reduceSub, Nat.reduceLeDiff, Nat.reduceLT, Nat.reduceMul, Nat.zero_add, Nat.add_zero, Nat.mul_zero, Nat.le_refl, Nat.zero_le, Nat.one_ne_zero, Nat.zero_ne_one, reduceCtorEq, List.map_cons, List.map_nil, List.mapM_cons, List.mapM_nil, List.flatMap_cons, List.flatMap_nil, List.append_nil, List.nil_append, List.cons_append, List.drop_zero, List.drop_succ_cons, List.take_zero, List.take_succ_cons, List.take_nil, List.drop_nil, List.length_cons, List.length_nil, List.getElem?_cons_zero, List.getElem?_cons_succ, List.getElem?_nil, List.set_cons_zero, List.set_cons_succ, List.all_cons, List.all_nil, Option.bind_some, Option.bind_none, Option.map_some, Option.map_none, Option.pure_def, Option.bind_eq_bind, Bool.and_true, Bool.true_and, Bool.and_self, Bool.or_false, Bool.false_or, Bool.and_false, Bool.false_and, Bool.or_true, Bool.true_or, Bool.not_true, Bool.not_false, Bool.not_not, decide_true, decide_false, and_self, and_true, true_and, beq_self_eq_true, beq_true, beq_false, bne_self_eq_false, Int.reduceBNe, Int.reduceBEq, Int.reduceLT, Int.reduceLE, Int.reduceGT, Bool.false_eq_true, Nat.zero_lt_succ, Nat.zero_lt_one, Nat.add_assoc, Nat.left_eq_add, Nat.add_eq_left, k1, k2, k3, k4, k5, k6, k7, k8, k9, k10, hxk, u64V, hd, h13, hB, hI]
        · intro env σ n ⟨k3, k4, k5, k6, k7, k8, k9, k10⟩ k1 k2
          simp +contextual -implicitDefEqProofs (maxSteps := 2000000) only [↓wP, wQ, wQ1, wQ2, wQ3, boxE, List.take_length, partsOf, ↓reduceIte, Nat.reduceEqDiff, Nat.reduceAdd, Nat.reduceSub, Nat.reduceLeDiff, Nat.reduceLT, Nat.reduceMul, Nat.zero_add, Nat.add_zero, Nat.mul_zero, Nat.le_refl, Nat.zero_le, Nat.one_ne_zero, Nat.zero_ne_one, reduceCtorEq, List.map_cons, List.map_nil, List.mapM_cons, List.mapM_nil, List.flatMap_cons, List.flatMap_nil, List.append_nil, List.nil_append, List.cons_append, List.drop_zero, List.drop_succ_cons, List.take_zero, List.take_succ_cons, List.take_nil, List.drop_nil, List.length_cons, List.length_nil, List.getElem?_cons_zero, List.getElem?_cons_succ, List.getElem?_nil, List.set_cons_zero, List.set_cons_succ, List.all_cons, List.all_nil, Option.bind_some, Option.bind_none, Option.map_some, Option.map_none, Option.pure_def, Option.bind_eq_bind, Bool.and_true, Bool.true_and, Bool.and_self, Bool.or_false, Bool.false_or, Bool.and_false, Bool.false_and, Bool.or_true, Bool.true_or, Bool.not_true, Bool.not_false, Bool.not_not, decide_true, decide_false, and_self, and_true, true_and, beq_self_eq_true, beq_true, beq_false, bne_self_eq_false, Int.reduceBNe, Int.reduceBEq, Int.reduceLT, Int.reduceLE, Int.reduceGT, Bool.false_eq_true, Nat.zero_lt_succ, Nat.zero_lt_one, Nat.add_assoc, Nat.left_eq_add, Nat.add_eq_left, k3, k4, k5, k9, k10]
        · simp +contextual -implicitDefEqProofs (maxSteps := 2000000) only [↓wP, wQ, wQ1, wQ2, wQ3, boxE, List.take_length, partsOf, ↓reduceIte, Nat.reduceEqDiff, Nat.reduceAdd, Nat.reduceSub, Nat.reduceLeDiff, Nat.reduceLT, Nat.reduceMul, Nat.zero_add, Nat.add_zero, Nat.mul_zero, Nat.le_refl, Nat.zero_le, Nat.one_ne_zero, Nat.zero_ne_one, reduceCtorEq, List.map_cons, List.map_nil, List.mapM_cons, List.mapM_nil, List.flatMap_cons, List.flatMap_nil, List.append_nil, List.nil_append, List.cons_append, List.drop_zero, List.drop_succ_cons, List.take_zero, List.take_succ_cons, List.take_nil, List.drop_nil, List.length_cons, List.length_nil, List.getElem?_cons_zero, List.getElem?_cons_succ, List.getElem?_nil, List.set_cons_zero, List.set_cons_succ, List.all_cons, List.all_nil, Option.bind_some, Option.bind_none, Option.map_some, Option.map_none, Option.pure_def, Option.bind_eq_bind, Bool.and_true, Bool.true_and, Bool.and_self, Bool.or_false, Bool.false_or, Bool.and_false, Bool.false_and, Bool.or_true, Bool.true_or, Bool.not_true, Bool.not_false, Bool.not_not, decide_true, decide_false, and_self, and_true, true_and, beq_self_eq_true, beq_true, beq_false, bne_self_eq_false, Int.reduceBNe, Int.reduceBEq, Int.reduceLT, Int.reduceLE, Int.reduceGT, Bool.false_eq_true, Nat.zero_lt_succ, Nat.zero_lt_one, Nat.add_assoc, Nat.left_eq_add, Nat.add_eq_left, h1, h2, h3, h4, h5]
      · have hB : ∀ t, atB (fewO x) t = decide (0 ≤ posV (fewO x) t) := fun t => by simp [atB, hc]
        have hI : ∀ t, atI (fewO x) t = if 0 ≤ posV (fewO x) t then posV (fewO x) t else 0 := fun t => by simp [atI, hB]
        have hla := last_eq hc
        simp +contextual -implicitDefEqProofs (maxSteps := 2000000) only [↓wP, wQ, wQ1, wQ2, wQ3, boxE, List.take_length, partsOf, ↓reduceIte, Nat.reduceEqDiff, Nat.reduceAdd, Nat.reduceSub, Nat.reduceLeDiff, Nat.reduceLT, Nat.reduceMul, Nat.zero_add, Nat.add_zero, Nat.mul_zero, Nat.le_refl, Nat.zero_le, Nat.one_ne_zero, Nat.zero_ne_one, reduceCtorEq, List.map_cons, List.map_nil, List.mapM_cons, List.mapM_nil, List.flatMap_cons, List.flatMap_nil, List.append_nil, List.nil_append, List.cons_append, List.drop_zero, List.drop_succ_cons, List.take_zero, List.take_succ_cons, List.take_nil, List.drop_nil, List.length_cons, List.length_nil, List.getElem?_cons_zero, List.getElem?_cons_succ, List.getElem?_nil, List.set_cons_zero, List.set_cons_succ, List.all_cons, List.all_nil, Option.bind_some, Option.bind_none, Option.map_some, Option.map_none, Option.pure_def, Option.bind_eq_bind, Bool.and_true, Bool.true_and, Bool.and_self, Bool.or_false, Bool.false_or, Bool.and_false, Bool.false_and, Bool.or_true, Bool.true_or, Bool.not_true, Bool.not_false, Bool.not_not, decide_true, decide_false, and_self, and_true, true_and, beq_self_eq_true, beq_true, beq_false, bne_self_eq_false, Int.reduceBNe, Int.reduceBEq, Int.reduceLT, Int.reduceLE, Int.reduceGT, Bool.false_eq_true, Nat.zero_lt_succ, Nat.zero_lt_one, Nat.add_assoc, Nat.left_eq_add, Nat.add_eq_left, h1, h2, h3, h4, h5, hx, hx0, hd, h10, h10', h23, h11, h24, h24', h17, h25, h21, hc, hla]
        refine WC_for (lst ts).length 0 (fun (k : Nat) env _ _ => env 0 = slV 1 (slV 3 verV) l ∧ env 20 = slV 1 (slV 3 verV) l ∧ env 1 = slV 1 u64V ts ∧ env 74 = slV 1 u64V ts ∧ env 7 = slV 3 verV (fewO x) ∧ env 9 = .bool true ∧
            env 22 = .int .i64 (j : Int) ∧ env 21 = .int .i64 ((lst l).length : Int)) (by omega) (by decide) (by decide) (fun _ _ => rfl) (fun _ _ _ => rfl) ?_ ?_ _ _ _ rfl rfl ?_
        · clear h1 h2 h3 h4 h5
          intro k env σ n hk k1 k2 ⟨k3, k4, k5, k6, k7, k8, k9, k10⟩
          simp only [vl_tmp] at k2
          have hxk : (lst ts)[k]? = some (lst ts)[k] := List.getElem?_eq_getElem hk
          have h13 := f13 (fewO x) (lst ts)[k] (few_sm x)
          have h26 := f26 (fewO x) (lst ts)[k] (few_sm x)
          by_cases h20 : (k : Int) = 20
          · have hd : ((k : Int) == 20) = true := by simpa using h20
            simp +contextual -implicitDefEqProofs (maxSteps := 2000000) only [↓wP, wQ, wQ1, wQ2, wQ3, boxE, List.take_length, partsOf, ↓reduceIte, Nat.reduceEqDiff, Nat.reduceAdd, Nat.reduceSub, Nat.reduceLeDiff, Nat.reduceLT, Nat.reduceMul, Nat.zero_add, Nat.add_zero, Nat.mul_zero, Nat.le_refl, Nat.zero_le, Nat.one_ne_zero, Nat.zero_ne_one, reduceCtorEq, List.map_cons, List.map_nil, List.mapM_cons, List.mapM_nil, List.flatMap_cons, List.flatMap_nil, List.append_nil, List.nil_append, List.cons_append, List.drop_zero, List.drop_succ_cons, List.take_zero, List.take_succ_cons, List.take_nil, List.drop_nil, List.length_cons, List.length_nil, List.getElem?_cons_zero, List.getElem?_cons_succ, List.getElem?_nil, List.set_cons_zero, List.set_cons_succ, List.all_cons, List.all_nil, Option.bind_some, Option.bind_none, Option.map_some, Option.map_none, Option.pure_def, Option.bind_eq_bind, Bool.and_true, Bool.true_and, Bool.and_self, Bool.or_false, Bool.false_or, Bool.and_false, Bool.false_and, Bool.or_true, Bool.true_or, Bool.not_true, Bool.not_false, Bool.not_not, decide_true, decide_false, and_self, and_true, true_and, beq_self_eq_true, beq_true, beq_false, bne_self_eq_false, Int.reduceBNe, Int.reduceBEq, Int.reduceLT, Int.reduceLE, Int.reduceGT, Bool.false_eq_true, Nat.zero_lt_succ, Nat.zero_lt_one, Nat.add_assoc, Nat.left_eq_add, Nat.add_eq_left, k1, k2, k3, k4, k5, k6, k7, k8, k9, k10, hxk, u64V, hd]
          · have hd : ((k : Int) == 20) = false := by simpa using h20
            rw [hB, hI] at h13
            generalize (if 0 ≤ posV (fewO x) (lst ts)[k] then posV (fewO x) (lst ts)[k] else 0) = p at h13 h26
            generalize decide (0 ≤ posV (fewO x) (lst ts)[k]) = q at h13 h26
            simp +contextual -implicitDefEqProofs (maxSteps := 2000000) only [↓wP, wQ, wQ1, wQ2, wQ3, boxE, List.take_length, partsOf, ↓reduceIte, Nat.reduceEqDiff, Nat.reduceAdd, Nat.reduceSub, Nat.reduceLeDiff, Nat.reduceLT, Nat.reduceMul, Nat.zero_add, Nat.add_zero, Nat.mul_zero, Nat.le_refl, Nat.zero_le, Nat.one_ne_zero, Nat.zero_ne_one, reduceCtorEq, List.map_cons, List.map_nil, List.mapM_cons, List.mapM_nil, List.flatMap_cons, List.flatMap_nil, List.append_nil, List.nil_append, List.cons_append, List.drop_zero, List.drop_succ_cons, List.take_zero, List.take_succ_cons, List.take_nil, List.drop_nil, List.length_cons, List.length_nil, List.getElem?_cons_zero, List.getElem?_cons_succ, List.getElem?_nil, List.set_cons_zero, List.set_cons_succ, List.all_cons, List.all_nil, Option.bind_some, Option.bind_none, Option.map_some, Option.map_none, Option.pure_def, Option.bind_eq_bind, Bool.and_true, Bool.true_and, Bool.and_self, Bool.or_false, Bool.false_or, Bool.and_false, Bool.false_and, Bool.or_true, Bool.true_or, Bool.not_true, Bool.not_false, Bool.not_not, decide_true, decide_false, and_self, and_true, true_and, beq_self_eq_true, beq_true, beq_false, bne_self_eq_false, Int.reduceBNe, Int.reduceBEq, Int.reduceLT, Int.reduceLE, Int.reduceGT, Bool.false_eq_true, Nat.zero_lt_succ, Nat.zero_lt_one, Nat.add_assoc, Nat.left_eq_add, Nat.add_eq_left, k1, k2, k3, k4, k5, k6, k7, k8, k9, k10, hxk, u64V, hd, h13, h26]
        · intro env σ n ⟨k3, k4, k5, k6, k7, k8, k9, k10⟩ k1 k2
          simp +contextual -implicitDefEqProofs (maxSteps := 2000000) only [↓wP, wQ, wQ1, wQ2, wQ3, boxE, List.take_length, partsOf, ↓reduceIte, Nat.reduceEqDiff, Nat.reduceAdd, Nat.reduceSub, Nat.reduceLeDiff, Nat.reduceLT, Nat.reduceMul, Nat.zero_add, Nat.add_zero, Nat.mul_zero, Nat.le_refl, Nat.zero_le, Nat.one_ne_zero, Nat.zero_ne_one, reduceCtorEq, List.map_cons, List.map_nil, List.mapM_cons, List.mapM_nil, List.flatMap_cons, List.flatMap_nil, List.append_nil, List.nil_append, List.cons_append, List.drop_zero, List.drop_succ_cons, List.take_zero, List.take_succ_cons, List.take_nil, List.drop_nil, List.length_cons, List.length_nil, List.getElem?_cons_zero, List.getElem?_cons_succ, List.getElem?_nil, List.set_cons_zero, List.set_cons_succ, List.all_cons, List.all_nil, Option.bind_some, Option.bind_none, Option.map_some, Option.map_none, Option.pure_def, Option.bind_eq_bind, Bool.and_true, Bool.true_and, Bool.and_self, Bool.or_false, Bool.false_or, Bool.and_false, Bool.false_and, Bool.or_true, Bool.true_or, Bool.not_true, Bool.not_false, Bool.not_not, decide_true, decide_false, and_self, and_true, true_and, beq_self_eq_true, beq_true, beq_false, bne_self_eq_false, Int.reduceBNe, Int.reduceBEq, Int.reduceLT, Int.reduceLE, Int.reduceGT, Bool.false_eq_true, Nat.zero_lt_succ, Nat.zero_lt_one, Nat.add_assoc, Nat.left_eq_add, Nat.add_eq_left, k3, k4, k5, k9, k10]
        · simp +contextual -implicitDefEqProofs (maxSteps := 2000000) only [↓wP, wQ, wQ1, wQ2, wQ3, boxE, List.take_length, partsOf, ↓reduceIte, Nat.reduceEqDiff, Nat.reduceAdd, Nat.reduceSub, Nat.reduceLeDiff, Nat.reduceLT, Nat.reduceMul, Nat.zero_add, Nat.add_zero, Nat.mul_zero, Nat.le_refl, Nat.zero_le, Nat.one_ne_zero, Nat.zero_ne_one, reduceCtorEq, List.map_cons, List.map_nil, List.mapM_cons, List.mapM_nil, List.flatMap_cons, List.flatMap_nil, List.append_nil, List.nil_append, List.cons_append, List.drop_zero, List.drop_succ_cons, List.take_zero, List.take_succ_cons, List.take_nil, List.drop_nil, List.length_cons, List.length_nil, List.getElem?_cons_zero, List.getElem?_cons_succ, List.getElem?_nil, List.set_cons_zero, List.set_cons_succ, List.all_cons, List.all_nil, Option.bind_some, Option.bind_none, Option.map_some, Option.map_none, Option.pure_def, Option.bind_eq_bind, Bool.and_true, Bool.true_and, Bool.and_self, Bool.or_false, Bool.false_or, Bool.and_false, Bool.false_and, Bool.or_true, Bool.true_or, Bool.not_true, Bool.not_false, Bool.not_not, decide_true, decide_false, and_self, and_true, true_and, beq_self_eq_true, beq_true, beq_false, bne_self_eq_false, Int.reduceBNe, Int.reduceBEq, Int.reduceLT, Int.reduceLE, Int.reduceGT, Bool.false_eq_true, Nat.zero_lt_succ, Nat.zero_lt_one, Nat.add_assoc, Nat.left_eq_add, Nat.add_eq_left, h1, h2, h3, h4, h5]
  · intro env σ n ⟨h3, h4, h5⟩ h1 h2
    simp +contextual -implicitDefEqProofs (maxSteps := 2000000) only [↓wP, wQ, wQ1, wQ2, wQ3, boxE, List.take_length, partsOf, ↓reduceIte, Nat.reduceEqDiff, Nat.reduceAdd, Nat.reduceSub, Nat.reduceLeDiff, Nat.reduceLT, Nat.reduceMul, Nat.zero_add, Nat.add_zero, Nat.mul_zero, Nat.le_refl, Nat.zero_le, Nat.one_ne_zero, Nat.zero_ne_one, reduceCtorEq, List.map_cons, List.map_nil, List.mapM_cons, List.mapM_nil, List.flatMap_cons, List.flatMap_nil, List.append_nil, List.nil_append, List.cons_append, List.drop_zero, List.drop_succ_cons, List.take_zero, List.take_succ_cons, List.take_nil, List.drop_nil, List.length_cons, List.length_nil, List.getElem?_cons_zero, List.getElem?_cons_succ, List.getElem?_nil, List.set_cons_zero, List.set_cons_succ, List.all_cons, List.all_nil, Option.bind_some, Option.bind_none, Option.map_some, Option.map_none, Option.pure_def, Option.bind_eq_bind, Bool.and_true, Bool.true_and, Bool.and_self, Bool.or_false, Bool.false_or, Bool.and_false, Bool.false_and, Bool.or_true, Bool.true_or, Bool.not_true, Bool.not_false, Bool.not_not, decide_true, decide_false, and_self, and_true, true_and, beq_self_eq_true, beq_true, beq_false, bne_self_eq_false, Int.reduceBNe, Int.reduceBEq, Int.reduceLT, Int.reduceLE, Int.reduceGT, Bool.false_eq_true, Nat.zero_lt_succ, Nat.zero_lt_one, Nat.add_assoc, Nat.left_eq_add, Nat.add_eq_left]
  · exact ⟨rfl, rfl, rfl⟩

theorem f7 (l : Option (List (Option (List Ver)))) (ts : Option (List Int)) (hl : (lst l).length < 9223372036854775808) (hs : ∀ x ∈ lst l, Sm x) (ht : (lst ts).length < 9223372036854775808) (fs : Bool) (σ : Sto) (n lk : Nat) : callE T fs 7 [slV 1 (slV 3 verV) l, slV 1 u64V ts] σ n lk = some (.bool true, σ, n) :=
  callE_tr (by decide) (r7 l ts hl hs ht) (by simp [Tr, Tr_slV]) rfl fs σ n lk

end Go.Q.S3
end

section
/- As many versions as there may be, one less, one more. -/
set_option linter.unusedSimpArgs false
set_option linter.unusedVariables false
namespace Go.Q.S3
open Go.Q

theorem bk_any {r : V} (hr : Nw 12 r = true) (D : List Nat) (σ : Sto) (n : Nat) : ∃ σ2, backE true D r σ n 0 = some (r, σ2, n) ∧ (∀ i, i ∉ D → σ2 i = σ i) := by
  unfold backE
  split
  · exact ⟨σ, by rw [thaw_nw σ n 12 r hr], fun _ _ => rfl⟩
  · rw [if_pos (by simp)]
    exact ⟨dropL σ D, by rw [thaw_nw _ n 12 r hr], fun i hi => by simp [dropL, hi]⟩

/-- What the document says of a Put. -/
def wantC (o : Option (List Ver)) (ts : Int) (l : List Int) : Option (List Ver) := if okC o = true then refC o ts l else none
def wantE (o : Option (List Ver)) (ts : Int) (l : List Int) : Int := if okC o = true then refE o ts l else 180

theorem r16u (k ts : Int) (near : Bool) (v : Option (List Int)) (o : Option (List Ver)) (hv : (lst v).length < 9223372036854775808) (hs : Sm o) (hf : FitC o) (hf' : ((lst o).length + 1) * 40 ≤ LIM) (h3 : k5 k ≠ 3) (h4 : k5 k ≠ 4) :
    res T 16 [.agg [.int .i64 k, .int .u64 ts, .bool near, slV 1 i32V v], slV 3 verV o] =
      some (.tup [slV 3 verV (wantC o (opTs k ts near (lastR (lst o))) (vec5 v)), .nilS, .int .i64 (wantE o (opTs k ts near (lastR (lst o))) (vec5 v))]) := by
  refine run_res (run_pure (fn := g16) rfl rfl (by decide) ?_)
  simp only [g16, b16]
  have h18 := f18 k ts near v o hs
  have h22 := f22 k ts near v hv
  have h23 := f23 o hs
  generalize hL : vec5 v = l at h22
  have hl : l.length * 4 ≤ LIM := by rw [← hL]; exact vec5_len v
  generalize opTs k ts near (lastR (lst o)) = tt at h18
  have m5 := bin_rem .u64 (IntKind.u64.wrap k) 5 (by decide)
  have d3 : ((IntKind.u64.wrap k).tmod 5 == 3) = false := by simpa [k5] using h3
  have d4 : ((IntKind.u64.wrap k).tmod 5 == 4) = false := by simpa [k5] using h4
  cases hc : okC o
  · have e1 : wantC o tt l = none := by simp [wantC, hc]
    have e2 : wantE o tt l = 180 := by simp [wantE, hc]
    rw [hc] at h23
    rw [e1, e2]
    simp +contextual -implicitDefEqProofs (maxSteps := 2000000) only [↓wP, wQ, wQ1, wQ2, wQ3, boxE, List.take_length, partsOf, ↓reduceIte, Nat.reduceEqDiff, Nat.reduceAdd, Nat.reduceSub, Nat.reduceLeDiff, Nat.reduceLT, Nat.reduceMul, Nat.zero_add, Nat.add_zero, Nat.mul_zero, Nat.le_refl, Nat.zero_le, Nat.one_ne_zero, Nat.zero_ne_one, reduceCtorEq, List.map_cons, List.map_nil, List.mapM_cons, List.mapM_nil, List.flatMap_cons, List.flatMap_nil, List.append_nil, List.nil_append, List.cons_append, List.drop_zero, List.drop_succ_cons, List.take_zero, List.take_succ_cons, List.take_nil, List.drop_nil, List.length_cons, List.length_nil, List.getElem?_cons_zero, List.getElem?_cons_succ, List.getElem?_nil, List.set_cons_zero, List.set_cons_succ, List.all_cons, List.all_nil, Option.bind_some, Option.bind_none, Option.map_some, Option.map_none, Option.pure_def, Option.bind_eq_bind, Bool.and_true, Bool.true_and, Bool.and_self, Bool.or_false, Bool.false_or, Bool.and_false, Bool.false_and, Bool.or_true, Bool.true_or, Bool.not_true, Bool.not_false, Bool.not_not, decide_true, decide_false, and_self, and_true, true_and, beq_self_eq_true, beq_true, beq_false, bne_self_eq_false, Int.reduceBNe, Int.reduceBEq, Int.reduceLT, Int.reduceLE, Int.reduceGT, Bool.false_eq_true, Nat.zero_lt_succ, Nat.zero_lt_one, Nat.add_assoc, Nat.left_eq_add, Nat.add_eq_left, h23, slV_none]
  · have h36 := r36 o tt l hs hf hf' hl hc
    have e1 : wantC o tt l = refC o tt l := by simp [wantC, hc]
    have e2 : wantE o tt l = refE o tt l := by simp [wantE, hc]
    rw [hc] at h23
    rw [e1, e2]
    have hm36 : T.mode 36 ≠ .raw := by decide
    have hmm := mapM_enc i32V (fun _ => rfl)
    have hle : (l.length ≤ (l.map i32V).length) = True := by simp
    have htk : (l.map i32V).take l.length = l.map i32V := by rw [List.take_of_length_le]; simp
    rw [slV_some] at h36
    have hnw : Nw 12 (.tup [slV 3 verV (refC o tt l), .int .i64 (refE o tt l)]) = true := by simp [Nw, Nw_slV]
    simp +contextual -implicitDefEqProofs (maxSteps := 2000000) only [↓wP, wQ, wQ1, wQ2, wQ3, boxE, List.take_length, partsOf, ↓reduceIte, Nat.reduceEqDiff, Nat.reduceAdd, Nat.reduceSub, Nat.reduceLeDiff, Nat.reduceLT, Nat.reduceMul, Nat.zero_add, Nat.add_zero, Nat.mul_zero, Nat.le_refl, Nat.zero_le, Nat.one_ne_zero, Nat.zero_ne_one, reduceCtorEq, List.map_cons, List.map_nil, List.mapM_cons, List.mapM_nil, List.flatMap_cons, List.flatMap_nil, List.append_nil, List.nil_append, List.cons_append, List.drop_zero, List.drop_succ_cons, List.take_zero, List.take_succ_cons, List.take_nil, List.drop_nil, List.length_cons, List.length_nil, List.getElem?_cons_zero, List.getElem?_cons_succ, List.getElem?_nil, List.set_cons_zero, List.set_cons_succ, List.all_cons, List.all_nil, Option.bind_some, Option.bind_none, Option.map_some, Option.map_none, Option.pure_def, Option.bind_eq_bind, Bool.and_true, Bool.true_and, Bool.and_self, Bool.or_false, Bool.false_or, Bool.and_false, Bool.false_and, Bool.or_true, Bool.true_or, Bool.not_true, Bool.not_false, Bool.not_not, decide_true, decide_false, and_self, and_true, true_and, beq_self_eq_true, beq_true, beq_false, bne_self_eq_false, Int.reduceBNe, Int.reduceBEq, Int.reduceLT, Int.reduceLE, Int.reduceGT, Bool.false_eq_true, Nat.zero_lt_succ, Nat.zero_lt_one, Nat.add_assoc, Nat.left_eq_add, Nat.add_eq_left, h23, h18, h22, m5, d3, d4, callE_eq hm36, frz_rf, hmm, hle, htk, h36]
    obtain ⟨σ2, hb, -⟩ := bk_any hnw _ _ 2
    rw [hb]
    simp +contextual -implicitDefEqProofs (maxSteps := 2000000) only [↓wP, wQ, wQ1, wQ2, wQ3, boxE, List.take_length, partsOf, ↓reduceIte, Nat.reduceEqDiff, Nat.reduceAdd, Nat.reduceSub, Nat.reduceLeDiff, Nat.reduceLT, Nat.reduceMul, Nat.zero_add, Nat.add_zero, Nat.mul_zero, Nat.le_refl, Nat.zero_le, Nat.one_ne_zero, Nat.zero_ne_one, reduceCtorEq, List.map_cons, List.map_nil, List.mapM_cons, List.mapM_nil, List.flatMap_cons, List.flatMap_nil, List.append_nil, List.nil_append, List.cons_append, List.drop_zero, List.drop_succ_cons, List.take_zero, List.take_succ_cons, List.take_nil, List.drop_nil, List.length_cons, List.length_nil, List.getElem?_cons_zero, List.getElem?_cons_succ, List.getElem?_nil, List.set_cons_zero, List.set_cons_succ, List.all_cons, List.all_nil, Option.bind_some, Option.bind_none, Option.map_some, Option.map_none, Option.pure_def, Option.bind_eq_bind, Bool.and_true, Bool.true_and, Bool.and_self, Bool.or_false, Bool.false_or, Bool.and_false, Bool.false_and, Bool.or_true, Bool.true_or, Bool.not_true, Bool.not_false, Bool.not_not, decide_true, decide_false, and_self, and_true, true_and, beq_self_eq_true, beq_true, beq_false, bne_self_eq_false, Int.reduceBNe, Int.reduceBEq, Int.reduceLT, Int.reduceLE, Int.reduceGT, Bool.false_eq_true, Nat.zero_lt_succ, Nat.zero_lt_one, Nat.add_assoc, Nat.left_eq_add, Nat.add_eq_left]

theorem close_cp (ts : Int) (L : List Ver) : closeL ts (L.map cpV) = (closeL ts L).map cpV := by
  unfold closeL
  rcases List.eq_nil_or_concat L with rfl | ⟨A, x, rfl⟩
  · rfl
  · rw [List.concat_eq_append]
    simp only [List.map_append, List.map_cons, List.map_nil, List.getLast?_append, List.getLast?_singleton, Option.some_or]
    by_cases he : x.e = 0
    · rw [if_pos he, if_pos (by exact he)]
      simp [cpV, lst]
    · rw [if_neg he, if_neg (by exact he)]
      simp
theorem vers_cp : ∀ (L : List Ver), (L == L.map cpV) = true
  | [] => rfl
  | x :: L => by
    show (x == cpV x && L == L.map cpV) = true
    rw [vers_cp L, Bool.and_true, ver_beq]
    simp [cpV, lst]

theorem put_eq (o : Option (List Ver)) (ts : Int) (l : List Int) : putE o ts l = wantE o ts l ∧ (lst (putC o ts l) == lst (wantC o ts l)) = true := by
  unfold putE wantE putC wantC refE refC
  cases hc : okC o
  · simp only [if_true, Bool.false_eq_true, false_and, if_false]
    exact ⟨trivial, rfl⟩
  · have hl := last_eq hc
    simp only [Bool.true_eq_false, if_false, true_and, if_true]
    rw [hl]
    by_cases h1 : lastC (lst o) < ts ∧ ts ≤ 1099511627776
    · rw [if_neg (by omega), if_pos h1]
      refine ⟨rfl, ?_⟩
      by_cases h2 : putN o l = 0
      · rw [if_pos ⟨h1.1, h1.2, h2⟩, if_pos ⟨h1.1, h1.2, h2⟩, lst_some, lst_some]
        have e : (lst (o.map (closeL ts)) ++ [(⟨ts, 0, some l⟩ : Ver)]).map cpV = closeL ts ((lst o).map cpV) ++ [⟨ts, 0, some l⟩] := by
          rw [List.map_append, close_cp]
          congr 1
          cases o <;> rfl
        rw [← e]
        exact vers_cp _
      · rw [if_neg (fun h => h2 h.2.2), if_neg (fun h => h2 h.2.2)]
        rfl
    · rw [if_pos (by omega), if_neg h1, if_neg (fun h => h1 ⟨h.1, h.2.1⟩), if_neg (fun h => h1 ⟨h.1, h.2.1⟩)]
      exact ⟨rfl, rfl⟩

theorem put_all {o : Option (List Ver)} {ts : Int} {l : List Int} (ha : AllS (lst o)) : AllS (lst (putC o ts l)) := by
  unfold putC
  split
  · intro x hx
    rw [lst_some] at hx
    rcases List.mem_append.1 hx with hx | hx
    · cases o with
      | none => simp [lst] at hx
      | some L => exact close_all (L := L) ha x (by simpa [lst] using hx)
    · rw [List.mem_singleton.1 hx]; rfl
  · intro x hx; simp [lst] at hx
theorem put_sm {o : Option (List Ver)} {ts : Int} {l : List Int} (hs : Sm o) (hn : (lst o).length + 1 < 9223372036854775808) (hl : l.length < 9223372036854775808) : Sm (putC o ts l) := by
  unfold putC
  split
  · refine ⟨?_, fun x hx => ?_⟩
    · rw [lst_some, List.length_append, List.length_singleton]
      cases o with
      | none => simp [lst]
      | some L =>
        have := close_len ts L
        simp only [Option.map_some, lst_some] at hn ⊢
        omega
    · rw [lst_some] at hx
      rcases List.mem_append.1 hx with hx | hx
      · cases o with
        | none => simp [lst] at hx
        | some L =>
          simp only [Option.map_some, lst_some] at hx
          unfold closeL at hx
          split at hx
          · rename_i y hy
            split at hx
            · rcases List.mem_append.1 hx with hx | hx
              · exact hs.2 x ((List.dropLast_sublist L).subset hx)
              · rw [List.mem_singleton.1 hx]
                exact hs.2 y (List.mem_of_getLast? hy)
            · exact hs.2 x hx
          · exact hs.2 x hx
      · rw [List.mem_singleton.1 hx]; exact hl
  · exact ⟨by simp [lst], fun x hx => by simp [lst] at hx⟩

theorem bk_trip (o : Option (List Ver)) (e : Int) (fs : Bool) (D : List Nat) (σ : Sto) (n lk : Nat) : backE fs D (.tup [ownC o, .nilS, .int .i64 e]) σ n lk = some (thaw σ n (.tup [ownC o, .nilS, .int .i64 e])) :=
  backE_flat (by simp only [flat, flatL, flat_ownC, Bool.and_self]) fs D σ n lk

theorem rch_rows {σ : Sto} (k : Nat) : ∀ {L : List Ver} {ids : List Nat}, Vecs σ L ids → ∀ i ∈ ((L.zipWith erow ids).flatMap fun x => x.cells.flatMap (rch σ (k + 2))), i ∈ ids
  | [], [], _, i, hi => by simp at hi
  | [], _ :: _, h, _, _ => by simp [Vecs] at h
  | _ :: _, [], h, _, _ => by simp [Vecs] at h
  | x :: L, j :: ids, h, i, hi => by
    obtain ⟨h0, h1⟩ := Vecs.cons.1 h
    rw [List.zipWith_cons_cons, List.flatMap_cons, List.mem_append] at hi
    rcases hi with hi | hi
    · have hr : rch σ (k + 2) (vref j x) = [j] := by
        rw [vref, rch_rf, h0, elemsO_row]
        have he : ∀ xs : List Int, ((xs.map i32V).flatMap fun x => x.cells.flatMap (rch σ (k + 1))) = [] := fun xs => rch_enc i32V (fun x c hc => by simp [i32V, V.cells] at hc; subst hc; rfl) σ k xs
        rw [if_pos (by simp), Option.getD_some, List.drop_zero, List.take_of_length_le (by simp), he]
      simp only [erow, V.cells, List.flatMap_cons, List.flatMap_nil, hr, rch_int, List.nil_append, List.append_nil, List.mem_singleton] at hi
      rw [hi]; simp
    · exact List.mem_cons_of_mem _ (rch_rows k h1 i hi)

theorem Chn.rch {σ : Sto} {m n : Nat} {v : V} {o : Option (List Ver)} (h : Chn σ m n v o) (k : Nat) : ∀ i ∈ Go.Q.rch σ (k + 3) v, m ≤ i ∧ i < n := by
  cases o with
  | none => simp only [Chn] at h; subst h; intro i hi; simp [Go.Q.rch] at hi
  | some L =>
    obtain ⟨id, ids, rfl, h1, h2, h3, h4⟩ := h
    intro i hi
    rw [rch_rf, h1, elemsO_row, if_pos (by rw [zip_len h4]; omega), Option.getD_some, List.drop_zero, List.take_of_length_le (by rw [zip_len h4]; exact Nat.le_refl _), List.mem_cons] at hi
    rcases hi with rfl | hi
    · exact h3 _ (by simp)
    · exact h3 i (List.mem_cons_of_mem _ (rch_rows k h4 i hi))

def yM (i : Nat) : Ver := ⟨(i : Int) + 1, (i : Int) + 2, some [1]⟩
def cM (n : Nat) : Option (List Ver) := opt ((List.range n).map yM)

theorem most_n (more : Int) : ∃ N : Nat, IntKind.i64.wrap (95 + (IntKind.i64.wrap (more.tmod 3 + 3)).tmod 3) = (N : Int) ∧ N ≤ 97 := by
  have h1 : (more.tmod 3).natAbs < 3 := by rw [Int.natAbs_tmod]; exact Nat.mod_lt _ (by decide)
  have h2 : IntKind.i64.wrap (more.tmod 3 + 3) = more.tmod 3 + 3 := by rw [wrap_i64] <;> omega
  have h3 : (more.tmod 3 + 3).tmod 3 = (more.tmod 3 + 3) % 3 := Int.tmod_eq_emod_of_nonneg (by omega)
  rw [h2, h3, wrap_i64 (by omega) (by omega)]
  exact ⟨(95 + (more.tmod 3 + 3) % 3).toNat, by omega, by omega⟩

theorem r5 (more ts : Int) : res T 5 [.int .i64 more, .int .u64 ts] = some (.bool true) := by
  refine run_res (run_pure (fn := g5) rfl rfl (by decide) ?_)
  simp only [g5, b5]
  have m3 := fun a => bin_rem .i64 a 3 (by decide)
  obtain ⟨N, hN, hN2⟩ := most_n more
  simp +contextual -implicitDefEqProofs (maxSteps := 2000000) only [↓wP, wQ, wQ1, wQ2, wQ3, boxE, List.take_length, partsOf, ↓reduceIte, Nat.reduceEqDiff, Nat.reduceAdd, Nat.reduceSub, Nat.reduceLeDiff, Nat.reduceLT, Nat.reduceMul, Nat.zero_add, Nat.add_zero, Nat.mul_zero, Nat.le_refl, Nat.zero_le, Nat.one_ne_zero, Nat.zero_ne_one, reduceCtorEq, List.map_cons, List.map_nil, List.mapM_cons, List.mapM_nil, List.flatMap_cons, List.flatMap_nil, List.append_nil, List.nil_append, List.cons_append, List.drop_zero, List.drop_succ_cons, List.take_zero, List.take_succ_cons, List.take_nil, List.drop_nil, List.length_cons, List.length_nil, List.getElem?_cons_zero, List.getElem?_cons_succ, List.getElem?_nil, List.set_cons_zero, List.set_cons_succ, List.all_cons, List.all_nil, Option.bind_some, Option.bind_none, Option.map_some, Option.map_none, Option.pure_def, Option.bind_eq_bind, Bool.and_true, Bool.true_and, Bool.and_self, Bool.or_false, Bool.false_or, Bool.and_false, Bool.false_and, Bool.or_true, Bool.true_or, Bool.not_true, Bool.not_false, Bool.not_not, decide_true, decide_false, and_self, and_true, true_and, beq_self_eq_true, beq_true, beq_false, bne_self_eq_false, Int.reduceBNe, Int.reduceBEq, Int.reduceLT, Int.reduceLE, Int.reduceGT, Bool.false_eq_true, Nat.zero_lt_succ, Nat.zero_lt_one, Nat.add_assoc, Nat.left_eq_add, Nat.add_eq_left, f9, m3, hN]
  refine WC_for N 0 (fun (j : Nat) env σ n => env 1 = .int .u64 ts ∧ Chn σ 0 n (env 6) (cM j)) (by omega) (by decide) (by decide) (fun _ _ => rfl) (fun _ _ _ => rfl) ?_ ?_ _ _ _ rfl rfl ?_
  · intro j env σ n hj h1 h2 ⟨h3, h4⟩
    simp only [vl_tmp] at h2
    generalize hv6 : env 6 = v6 at h4
    have w1 : IntKind.u64.wrap (j : Int) = j := by rw [wrap_u64] <;> omega
    have w2 : IntKind.u64.wrap ((j : Int) + 1) = (j : Int) + 1 := by rw [wrap_u64] <;> omega
    have w3 : IntKind.u64.wrap ((j : Int) + 2) = (j : Int) + 2 := by rw [wrap_u64] <;> omega
    have k1 : Chn (upd (upd σ n (some (.row 1 [.int .i32 1]))) (n + 1) (some (.row 3 [.agg [.int .u64 ((j : Int) + 1), .int .u64 ((j : Int) + 2), .ref n 0 1 1]]))) 0 n v6 (cM j) := by
      refine h4.loc (fun i _ hi => ?_) (Nat.le_refl _) (Nat.le_refl _)
      have a1 : i ≠ n := by omega
      have a2 : i ≠ n + 1 := by omega
      simp only [upd_get, a1, a2, if_false]
    obtain ⟨v2, σ2, e1, e2, e3, e4, e5⟩ := k1.append (y := yM j) (lab := n + 2) (i := n) (by omega) (by omega) (by omega) (by omega) (by
      simp only [upd_get]
      simp [yM, lst, i32V]) (by rw [cM, lst_opt]; unfold LIM; simp; omega)
    rw [show erow (yM j) n = .agg [.int .u64 ((j : Int) + 1), .int .u64 ((j : Int) + 2), .ref n 0 1 1] from rfl] at e1
    simp +contextual -implicitDefEqProofs (maxSteps := 2000000) only [↓wP, wQ, wQ1, wQ2, wQ3, boxE, List.take_length, partsOf, ↓reduceIte, Nat.reduceEqDiff, Nat.reduceAdd, Nat.reduceSub, Nat.reduceLeDiff, Nat.reduceLT, Nat.reduceMul, Nat.zero_add, Nat.add_zero, Nat.mul_zero, Nat.le_refl, Nat.zero_le, Nat.one_ne_zero, Nat.zero_ne_one, reduceCtorEq, List.map_cons, List.map_nil, List.mapM_cons, List.mapM_nil, List.flatMap_cons, List.flatMap_nil, List.append_nil, List.nil_append, List.cons_append, List.drop_zero, List.drop_succ_cons, List.take_zero, List.take_succ_cons, List.take_nil, List.drop_nil, List.length_cons, List.length_nil, List.getElem?_cons_zero, List.getElem?_cons_succ, List.getElem?_nil, List.set_cons_zero, List.set_cons_succ, List.all_cons, List.all_nil, Option.bind_some, Option.bind_none, Option.map_some, Option.map_none, Option.pure_def, Option.bind_eq_bind, Bool.and_true, Bool.true_and, Bool.and_self, Bool.or_false, Bool.false_or, Bool.and_false, Bool.false_and, Bool.or_true, Bool.true_or, Bool.not_true, Bool.not_false, Bool.not_not, decide_true, decide_false, and_self, and_true, true_and, beq_self_eq_true, beq_true, beq_false, bne_self_eq_false, Int.reduceBNe, Int.reduceBEq, Int.reduceLT, Int.reduceLE, Int.reduceGT, Bool.false_eq_true, Nat.zero_lt_succ, Nat.zero_lt_one, Nat.add_assoc, Nat.left_eq_add, Nat.add_eq_left, h1, h2, h3, hv6, w1, w2, w3, e1]
    have e6 := e4 σ2 (fun _ _ => rfl)
    have e7 : some (lst (cM j) ++ [yM j]) = cM (j + 1) := by
      rw [cM, cM, lst_opt, List.range_succ, List.map_append, List.map_cons, List.map_nil, opt_snoc']
    rw [e7] at e6
    exact e6
  · intro env σ n ⟨h3, h4⟩ h1 h2
    generalize hv6 : env 6 = v6 at h4
    have hlen : (lst (cM N)).length = N := by rw [cM, lst_opt]; simp
    have hmem : ∀ x ∈ lst (cM N), x.v = some [1] := fun x hx => by
      rw [cM, lst_opt] at hx
      obtain ⟨i, -, rfl⟩ := List.mem_map.1 hx
      rfl
    have hs : Sm (cM N) := ⟨by omega, fun x hx => by rw [hmem x hx]; simp [lst]⟩
    have hf : FitC (cM N) := ⟨by rw [hlen]; unfold LIM; omega, fun x hx => by unfold Fit; rw [hmem x hx]; unfold LIM; simp [lst]⟩
    have hf' : ((lst (cM N)).length + 1) * 40 ≤ LIM := by rw [hlen]; unfold LIM; omega
    have ha : AllS (lst (cM N)) := fun x hx => by rw [hmem x hx]; rfl
    have h15 := r15u 0 ts true (some [2]) (cM N) (by simp [lst]) hs hf hf' ha (by decide) (by decide)
    have h16 := r16u 0 ts true (some [2]) (cM N) (by simp [lst]) hs hf hf' (by decide) (by decide)
    have hm15 : T.mode 15 ≠ .raw := by decide
    have hm16 : T.mode 16 ≠ .raw := by decide
    have hm17 : T.mode 17 ≠ .raw := by decide
    generalize opTs 0 ts true (lastR (lst (cM N))) = tt at h15 h16
    have hl5 : (vec5 (some [2])).length * 4 ≤ LIM := vec5_len _
    generalize vec5 (some [2]) = l5 at h15 h16 hl5
    have hsl : slV 1 i32V (some [2]) = .sl 1 [.int .i32 2] := rfl
    rw [hsl] at h15 h16
    have he2 : ∀ f : V → Option V, elemM f (.int .i32 2) = f (.int .i32 2) := fun _ => rfl
    have kA : Chn (upd (upd (upd σ n (some (.row 1 [.int .i32 2]))) (n + 1) (some (.row 4 [.agg [.int .i64 0, .int .u64 0, .bool false, .nilS]]))) (n + 1) (some (.row 4 [.agg [.int .i64 0, .int .u64 ts, .bool true, .ref n 0 1 1]]))) 0 n v6 (cM N) := by
      refine h4.loc (fun i _ hi => ?_) (Nat.le_refl _) (Nat.le_refl _)
      have a1 : i ≠ n := by omega
      have a2 : i ≠ n + 1 := by omega
      simp only [upd_get, a1, a2, if_false]
    have hfA := kA.frz ha 9
    obtain ⟨v', σ', n', t1, t2, t3, t4⟩ := thaw_ownC (upd (upd (upd σ n (some (.row 1 [.int .i32 2]))) (n + 1) (some (.row 4 [.agg [.int .i64 0, .int .u64 0, .bool false, .nilS]]))) (n + 1) (some (.row 4 [.agg [.int .i64 0, .int .u64 ts, .bool true, .ref n 0 1 1]]))) (n + 2) (putC (cM N) tt l5)
    have hB1 : σ' (n + 1) = some (.row 4 [.agg [.int .i64 0, .int .u64 ts, .bool true, .ref n 0 1 1]]) := by rw [t4 (n + 1) (by omega)]; simp [upd]
    have hB0 : σ' n = some (.row 1 [.int .i32 2]) := by rw [t4 n (by omega)]; simp [upd]
    have kB : Chn σ' 0 n v6 (cM N) := kA.loc (fun i _ hi => t4 i (by omega)) (Nat.le_refl _) (Nat.le_refl _)
    have hfB := kB.frz ha 9
    simp +contextual -implicitDefEqProofs (maxSteps := 2000000) only [↓wP, wQ, wQ1, wQ2, wQ3, boxE, List.take_length, partsOf, ↓reduceIte, Nat.reduceEqDiff, Nat.reduceAdd, Nat.reduceSub, Nat.reduceLeDiff, Nat.reduceLT, Nat.reduceMul, Nat.zero_add, Nat.add_zero, Nat.mul_zero, Nat.le_refl, Nat.zero_le, Nat.one_ne_zero, Nat.zero_ne_one, reduceCtorEq, List.map_cons, List.map_nil, List.mapM_cons, List.mapM_nil, List.flatMap_cons, List.flatMap_nil, List.append_nil, List.nil_append, List.cons_append, List.drop_zero, List.drop_succ_cons, List.take_zero, List.take_succ_cons, List.take_nil, List.drop_nil, List.length_cons, List.length_nil, List.getElem?_cons_zero, List.getElem?_cons_succ, List.getElem?_nil, List.set_cons_zero, List.set_cons_succ, List.all_cons, List.all_nil, Option.bind_some, Option.bind_none, Option.map_some, Option.map_none, Option.pure_def, Option.bind_eq_bind, Bool.and_true, Bool.true_and, Bool.and_self, Bool.or_false, Bool.false_or, Bool.and_false, Bool.false_and, Bool.or_true, Bool.true_or, Bool.not_true, Bool.not_false, Bool.not_not, decide_true, decide_false, and_self, and_true, true_and, beq_self_eq_true, beq_true, beq_false, bne_self_eq_false, Int.reduceBNe, Int.reduceBEq, Int.reduceLT, Int.reduceLE, Int.reduceGT, Bool.false_eq_true, Nat.zero_lt_succ, Nat.zero_lt_one, Nat.add_assoc, Nat.left_eq_add, Nat.add_eq_left, h3, hv6, callE_eq hm15, frz_rf, he2, hfA, h15, bk_trip, t1, callE_eq hm16, hB1, hB0, hfB, h16]
    have hnw : Nw 12 (.tup [slV 3 verV (wantC (cM N) tt l5), .nilS, .int .i64 (wantE (cM N) tt l5)]) = true := by simp [Nw, Nw_slV]
    obtain ⟨σ2, hb, hσ2⟩ := bk_any hnw (rch σ' 11 (.ref n 0 1 1) ++ rch σ' 12 v6) σ' n'
    have hD : ∀ i, n + 2 ≤ i → i ∉ rch σ' 11 (.ref n 0 1 1) ++ rch σ' 12 v6 := fun i hi hm => by
      rcases List.mem_append.1 hm with hm | hm
      · rw [rch_rf, hB0] at hm
        simp [elemsO_row, V.cells, rch_int] at hm
        omega
      · have := (kB.rch 9 i hm).2
        omega
    have kC : Chn σ2 (n + 2) n' v' (putC (cM N) tt l5) := t2.loc (fun i hi _ => hσ2 i (hD i hi)) (Nat.le_refl _) (Nat.le_refl _)
    have hfC := kC.frz (put_all ha) 9
    obtain ⟨q1, q2⟩ := put_eq (cM N) tt l5
    have h17 := r17 (putC (cM N) tt l5) (wantC (cM N) tt l5) (put_sm hs (by omega) (by unfold LIM at hl5; omega))
    rw [q2] at h17
    rw [hb, q1]
    simp +contextual -implicitDefEqProofs (maxSteps := 2000000) only [↓wP, wQ, wQ1, wQ2, wQ3, boxE, List.take_length, partsOf, ↓reduceIte, Nat.reduceEqDiff, Nat.reduceAdd, Nat.reduceSub, Nat.reduceLeDiff, Nat.reduceLT, Nat.reduceMul, Nat.zero_add, Nat.add_zero, Nat.mul_zero, Nat.le_refl, Nat.zero_le, Nat.one_ne_zero, Nat.zero_ne_one, reduceCtorEq, List.map_cons, List.map_nil, List.mapM_cons, List.mapM_nil, List.flatMap_cons, List.flatMap_nil, List.append_nil, List.nil_append, List.cons_append, List.drop_zero, List.drop_succ_cons, List.take_zero, List.take_succ_cons, List.take_nil, List.drop_nil, List.length_cons, List.length_nil, List.getElem?_cons_zero, List.getElem?_cons_succ, List.getElem?_nil, List.set_cons_zero, List.set_cons_succ, List.all_cons, List.all_nil, Option.bind_some, Option.bind_none, Option.map_some, Option.map_none, Option.pure_def, Option.bind_eq_bind, Bool.and_true, Bool.true_and, Bool.and_self, Bool.or_false, Bool.false_or, Bool.and_false, Bool.false_and, Bool.or_true, Bool.true_or, Bool.not_true, Bool.not_false, Bool.not_not, decide_true, decide_false, and_self, and_true, true_and, beq_self_eq_true, beq_true, beq_false, bne_self_eq_false, Int.reduceBNe, Int.reduceBEq, Int.reduceLT, Int.reduceLE, Int.reduceGT, Bool.false_eq_true, Nat.zero_lt_succ, Nat.zero_lt_one, Nat.add_assoc, Nat.left_eq_add, Nat.add_eq_left, callE_eq hm17, hfC, h17]
  · exact ⟨rfl, rfl⟩

theorem f5 (more ts : Int) (fs : Bool) (σ : Sto) (n lk : Nat) : callE T fs 5 [.int .i64 more, .int .u64 ts] σ n lk = some (.bool true, σ, n) :=
  callE_tr (by decide) (r5 more ts) (by simp [Tr, Tr_slV]) rfl fs σ n lk

end Go.Q.S3
end

section
/- What an op does, and what the document says of it. -/
set_option linter.unusedSimpArgs false
set_option linter.unusedVariables false
namespace Go.Q.S3
open Go.Q

theorem r15p (k ts : Int) (near : Bool) (v : Option (List Int)) (o : Option (List Ver)) (hv : (lst v).length < 9223372036854775808) (hs : Sm o) (hf : FitC o) (ha : AllS (lst o)) (h4 : k5 k = 4) :
    res T 15 [.agg [.int .i64 k, .int .u64 ts, .bool near, slV 1 i32V v], slV 3 verV o] =
      some (.tup [ownC (if okC o = true then opt (staysL (opTs k ts near (lastR (lst o))) (lst o)) else none), ownC (if okC o = true then opt (goneL (opTs k ts near (lastR (lst o))) (lst o)) else none), .int .i64 (if okC o = true then 0 else 180)]) := by
  refine run_res (run_own (fn := g15) rfl rfl (by decide) ?_)
  simp only [g15, b15]
  have h18 := f18 k ts near v o hs
  have h22 := f22 k ts near v hv
  generalize hL : vec5 v = l at h22
  generalize opTs k ts near (lastR (lst o)) = tt at h18
  have m5 := bin_rem .u64 (IntKind.u64.wrap k) 5 (by decide)
  have d4 : ((IntKind.u64.wrap k).tmod 5 == 4) = true := by simpa [k5] using h4
  have d3 : ((IntKind.u64.wrap k).tmod 5 == 3) = false := by
    have : (IntKind.u64.wrap k).tmod 5 = 4 := h4
    rw [this]; rfl
  cases hc : okC o
  · have h27 := callE_thaw (by decide) (r27n o tt hs hc) (by simp [Tr, Tr_slV]) true (upd (upd Sto.empty 0 (some (.row 4 [.agg [.int .i64 k, .int .u64 ts, .bool near, slV 1 i32V v]]))) 1 (some (.row 1 (l.map i32V)))) 2 0
    simp +contextual -implicitDefEqProofs (maxSteps := 2000000) only [↓wP, wQ, wQ1, wQ2, wQ3, boxE, List.take_length, partsOf, ↓reduceIte, Nat.reduceEqDiff, Nat.reduceAdd, Nat.reduceSub, Nat.reduceLeDiff, Nat.reduceLT, Nat.reduceMul, Nat.zero_add, Nat.add_zero, Nat.mul_zero, Nat.le_refl, Nat.zero_le, Nat.one_ne_zero, Nat.zero_ne_one, reduceCtorEq, List.map_cons, List.map_nil, List.mapM_cons, List.mapM_nil, List.flatMap_cons, List.flatMap_nil, List.append_nil, List.nil_append, List.cons_append, List.drop_zero, List.drop_succ_cons, List.take_zero, List.take_succ_cons, List.take_nil, List.drop_nil, List.length_cons, List.length_nil, List.getElem?_cons_zero, List.getElem?_cons_succ, List.getElem?_nil, List.set_cons_zero, List.set_cons_succ, List.all_cons, List.all_nil, Option.bind_some, Option.bind_none, Option.map_some, Option.map_none, Option.pure_def, Option.bind_eq_bind, Bool.and_true, Bool.true_and, Bool.and_self, Bool.or_false, Bool.false_or, Bool.and_false, Bool.false_and, Bool.or_true, Bool.true_or, Bool.not_true, Bool.not_false, Bool.not_not, decide_true, decide_false, and_self, and_true, true_and, beq_self_eq_true, beq_true, beq_false, bne_self_eq_false, Int.reduceBNe, Int.reduceBEq, Int.reduceLT, Int.reduceLE, Int.reduceGT, Bool.false_eq_true, Nat.zero_lt_succ, Nat.zero_lt_one, Nat.add_assoc, Nat.left_eq_add, Nat.add_eq_left, h18, h22, m5, d3, d4, h27]
    exact giv_trip (o := none) (o' := none) (m := 0) (n := 0) (m' := 0) (n' := 0) rfl rfl (.inl (Nat.le_refl _)) 180
  · have h27 := callE_thaw (by decide) (r27 o tt hs hf ha hc) (by simp [Tr, Tr_slV]) true (upd (upd Sto.empty 0 (some (.row 4 [.agg [.int .i64 k, .int .u64 ts, .bool near, slV 1 i32V v]]))) 1 (some (.row 1 (l.map i32V)))) 2 0
    obtain ⟨v', σ', n', h1, h2, h5, h6⟩ := thaw_ownC (upd (upd Sto.empty 0 (some (.row 4 [.agg [.int .i64 k, .int .u64 ts, .bool near, slV 1 i32V v]]))) 1 (some (.row 1 (l.map i32V)))) 2 (opt (staysL tt (lst o)))
    obtain ⟨w', σ2, n2, g1, g2, g5, g6⟩ := thaw_ownC σ' n' (opt (goneL tt (lst o)))
    simp +contextual -implicitDefEqProofs (maxSteps := 2000000) only [↓wP, wQ, wQ1, wQ2, wQ3, boxE, List.take_length, partsOf, ↓reduceIte, Nat.reduceEqDiff, Nat.reduceAdd, Nat.reduceSub, Nat.reduceLeDiff, Nat.reduceLT, Nat.reduceMul, Nat.zero_add, Nat.add_zero, Nat.mul_zero, Nat.le_refl, Nat.zero_le, Nat.one_ne_zero, Nat.zero_ne_one, reduceCtorEq, List.map_cons, List.map_nil, List.mapM_cons, List.mapM_nil, List.flatMap_cons, List.flatMap_nil, List.append_nil, List.nil_append, List.cons_append, List.drop_zero, List.drop_succ_cons, List.take_zero, List.take_succ_cons, List.take_nil, List.drop_nil, List.length_cons, List.length_nil, List.getElem?_cons_zero, List.getElem?_cons_succ, List.getElem?_nil, List.set_cons_zero, List.set_cons_succ, List.all_cons, List.all_nil, Option.bind_some, Option.bind_none, Option.map_some, Option.map_none, Option.pure_def, Option.bind_eq_bind, Bool.and_true, Bool.true_and, Bool.and_self, Bool.or_false, Bool.false_or, Bool.and_false, Bool.false_and, Bool.or_true, Bool.true_or, Bool.not_true, Bool.not_false, Bool.not_not, decide_true, decide_false, and_self, and_true, true_and, beq_self_eq_true, beq_true, beq_false, bne_self_eq_false, Int.reduceBNe, Int.reduceBEq, Int.reduceLT, Int.reduceLE, Int.reduceGT, Bool.false_eq_true, Nat.zero_lt_succ, Nat.zero_lt_one, Nat.add_assoc, Nat.left_eq_add, Nat.add_eq_left, h18, h22, m5, d3, d4, h27, h1, g1]
    exact giv_trip (h2.loc (fun i hi hi' => g6 i hi') (Nat.le_refl _) (Nat.le_refl _)) g2 (.inl (Nat.le_refl _)) 0

def tsOf (k ts : Int) (near : Bool) (o : Option (List Ver)) : Int := opTs k ts near (lastR (lst o))

def runC (k ts : Int) (near : Bool) (v : Option (List Int)) (o : Option (List Ver)) : Option (List Ver) :=
  if k5 k = 3 then delO o (tsOf k ts near o) else if k5 k = 4 then (if okC o = true then opt (staysL (tsOf k ts near o) (lst o)) else none) else putC o (tsOf k ts near o) (vec5 v)
def runG (k ts : Int) (near : Bool) (o : Option (List Ver)) : Option (List Ver) := if k5 k = 4 then (if okC o = true then opt (goneL (tsOf k ts near o) (lst o)) else none) else none
def runE (k ts : Int) (near : Bool) (v : Option (List Int)) (o : Option (List Ver)) : Int :=
  if k5 k = 3 then delE o (tsOf k ts near o) else if k5 k = 4 then (if okC o = true then 0 else 180) else putE o (tsOf k ts near o) (vec5 v)

theorem r15 (k ts : Int) (near : Bool) (v : Option (List Int)) (o : Option (List Ver)) (hv : (lst v).length < 9223372036854775808) (hs : Sm o) (hf : FitC o) (hf' : ((lst o).length + 1) * 40 ≤ LIM) (ha : AllS (lst o)) :
    res T 15 [.agg [.int .i64 k, .int .u64 ts, .bool near, slV 1 i32V v], slV 3 verV o] = some (.tup [ownC (runC k ts near v o), ownC (runG k ts near o), .int .i64 (runE k ts near v o)]) := by
  by_cases h3 : k5 k = 3
  · rw [r15d k ts near v o hv hs hf ha h3]
    simp only [runC, runG, runE, h3, if_true, tsOf]
    rfl
  · by_cases h4 : k5 k = 4
    · rw [r15p k ts near v o hv hs hf ha h4]
      simp only [runC, runG, runE, h4, if_true, tsOf]
      rfl
    · rw [r15u k ts near v o hv hs hf hf' ha h3 h4]
      simp only [runC, runG, runE, h3, h4, if_false, tsOf]
      rfl

theorem r16d (k ts : Int) (near : Bool) (v : Option (List Int)) (o : Option (List Ver)) (hs : Sm o) (hf : FitC o) (hc : okC o = true) (h3 : k5 k = 3) :
    res T 16 [.agg [.int .i64 k, .int .u64 ts, .bool near, slV 1 i32V v], slV 3 verV o] = some (.tup [slV 3 verV (rdelC o (tsOf k ts near o)), .nilS, .int .i64 (rdelE o (tsOf k ts near o))]) := by
  refine run_res (run_pure (fn := g16) rfl rfl (by decide) ?_)
  simp only [g16, b16]
  have h18 := f18 k ts near v o hs
  have h23 := f23 o hs
  unfold tsOf
  generalize opTs k ts near (lastR (lst o)) = tt at h18
  have m5 := bin_rem .u64 (IntKind.u64.wrap k) 5 (by decide)
  have d3 : ((IntKind.u64.wrap k).tmod 5 == 3) = true := by simpa [k5] using h3
  have h34 := callE_tr (by decide) (r34 o tt hs hf hc) (by simp [Tr, Tr_slV]) (by simp [Nw, Nw_slV])
  rw [hc] at h23
  simp +contextual -implicitDefEqProofs (maxSteps := 2000000) only [↓wP, wQ, wQ1, wQ2, wQ3, boxE, List.take_length, partsOf, ↓reduceIte, Nat.reduceEqDiff, Nat.reduceAdd, Nat.reduceSub, Nat.reduceLeDiff, Nat.reduceLT, Nat.reduceMul, Nat.zero_add, Nat.add_zero, Nat.mul_zero, Nat.le_refl, Nat.zero_le, Nat.one_ne_zero, Nat.zero_ne_one, reduceCtorEq, List.map_cons, List.map_nil, List.mapM_cons, List.mapM_nil, List.flatMap_cons, List.flatMap_nil, List.append_nil, List.nil_append, List.cons_append, List.drop_zero, List.drop_succ_cons, List.take_zero, List.take_succ_cons, List.take_nil, List.drop_nil, List.length_cons, List.length_nil, List.getElem?_cons_zero, List.getElem?_cons_succ, List.getElem?_nil, List.set_cons_zero, List.set_cons_succ, List.all_cons, List.all_nil, Option.bind_some, Option.bind_none, Option.map_some, Option.map_none, Option.pure_def, Option.bind_eq_bind, Bool.and_true, Bool.true_and, Bool.and_self, Bool.or_false, Bool.false_or, Bool.and_false, Bool.false_and, Bool.or_true, Bool.true_or, Bool.not_true, Bool.not_false, Bool.not_not, decide_true, decide_false, and_self, and_true, true_and, beq_self_eq_true, beq_true, beq_false, bne_self_eq_false, Int.reduceBNe, Int.reduceBEq, Int.reduceLT, Int.reduceLE, Int.reduceGT, Bool.false_eq_true, Nat.zero_lt_succ, Nat.zero_lt_one, Nat.add_assoc, Nat.left_eq_add, Nat.add_eq_left, h23, h18, m5, d3, h34]

theorem r16p (k ts : Int) (near : Bool) (v : Option (List Int)) (o : Option (List Ver)) (hs : Sm o) (hf : FitC o) (hc : okC o = true) (h4 : k5 k = 4) :
    res T 16 [.agg [.int .i64 k, .int .u64 ts, .bool near, slV 1 i32V v], slV 3 verV o] =
      some (.tup [slV 3 verV (opt (((lst o).map cpV).filter (keepP (tsOf k ts near o)))), slV 3 verV (opt (((lst o).map cpV).filter fun x => !keepP (tsOf k ts near o) x)), .int .i64 0]) := by
  refine run_res (run_pure (fn := g16) rfl rfl (by decide) ?_)
  simp only [g16, b16]
  have h18 := f18 k ts near v o hs
  have h23 := f23 o hs
  unfold tsOf
  generalize opTs k ts near (lastR (lst o)) = tt at h18
  have m5 := bin_rem .u64 (IntKind.u64.wrap k) 5 (by decide)
  have d4 : ((IntKind.u64.wrap k).tmod 5 == 4) = true := by simpa [k5] using h4
  have d3 : ((IntKind.u64.wrap k).tmod 5 == 3) = false := by
    have : (IntKind.u64.wrap k).tmod 5 = 4 := h4
    rw [this]; rfl
  have h35 := callE_tr (by decide) (r35 o tt hs hf) (by simp [Tr, Tr_slV]) (by simp [Nw, Nw_slV])
  rw [hc] at h23
  simp +contextual -implicitDefEqProofs (maxSteps := 2000000) only [↓wP, wQ, wQ1, wQ2, wQ3, boxE, List.take_length, partsOf, ↓reduceIte, Nat.reduceEqDiff, Nat.reduceAdd, Nat.reduceSub, Nat.reduceLeDiff, Nat.reduceLT, Nat.reduceMul, Nat.zero_add, Nat.add_zero, Nat.mul_zero, Nat.le_refl, Nat.zero_le, Nat.one_ne_zero, Nat.zero_ne_one, reduceCtorEq, List.map_cons, List.map_nil, List.mapM_cons, List.mapM_nil, List.flatMap_cons, List.flatMap_nil, List.append_nil, List.nil_append, List.cons_append, List.drop_zero, List.drop_succ_cons, List.take_zero, List.take_succ_cons, List.take_nil, List.drop_nil, List.length_cons, List.length_nil, List.getElem?_cons_zero, List.getElem?_cons_succ, List.getElem?_nil, List.set_cons_zero, List.set_cons_succ, List.all_cons, List.all_nil, Option.bind_some, Option.bind_none, Option.map_some, Option.map_none, Option.pure_def, Option.bind_eq_bind, Bool.and_true, Bool.true_and, Bool.and_self, Bool.or_false, Bool.false_or, Bool.and_false, Bool.false_and, Bool.or_true, Bool.true_or, Bool.not_true, Bool.not_false, Bool.not_not, decide_true, decide_false, and_self, and_true, true_and, beq_self_eq_true, beq_true, beq_false, bne_self_eq_false, Int.reduceBNe, Int.reduceBEq, Int.reduceLT, Int.reduceLE, Int.reduceGT, Bool.false_eq_true, Nat.zero_lt_succ, Nat.zero_lt_one, Nat.add_assoc, Nat.left_eq_add, Nat.add_eq_left, h23, h18, m5, d3, d4, h35]

def wC (k ts : Int) (near : Bool) (v : Option (List Int)) (o : Option (List Ver)) : Option (List Ver) :=
  if okC o = true then (if k5 k = 3 then rdelC o (tsOf k ts near o) else if k5 k = 4 then opt (((lst o).map cpV).filter (keepP (tsOf k ts near o))) else refC o (tsOf k ts near o) (vec5 v)) else none
def wG (k ts : Int) (near : Bool) (o : Option (List Ver)) : Option (List Ver) := if okC o = true ∧ k5 k = 4 then opt (((lst o).map cpV).filter fun x => !keepP (tsOf k ts near o) x) else none
def wE (k ts : Int) (near : Bool) (v : Option (List Int)) (o : Option (List Ver)) : Int :=
  if okC o = true then (if k5 k = 3 then rdelE o (tsOf k ts near o) else if k5 k = 4 then 0 else refE o (tsOf k ts near o) (vec5 v)) else 180

theorem r16n (k ts : Int) (near : Bool) (v : Option (List Int)) (o : Option (List Ver)) (hs : Sm o) (hc : okC o = false) :
    res T 16 [.agg [.int .i64 k, .int .u64 ts, .bool near, slV 1 i32V v], slV 3 verV o] = some (.tup [.nilS, .nilS, .int .i64 180]) := by
  refine run_res (run_pure (fn := g16) rfl rfl (by decide) ?_)
  simp only [g16, b16]
  have h23 := f23 o hs
  rw [hc] at h23
  simp +contextual -implicitDefEqProofs (maxSteps := 2000000) only [↓wP, wQ, wQ1, wQ2, wQ3, boxE, List.take_length, partsOf, ↓reduceIte, Nat.reduceEqDiff, Nat.reduceAdd, Nat.reduceSub, Nat.reduceLeDiff, Nat.reduceLT, Nat.reduceMul, Nat.zero_add, Nat.add_zero, Nat.mul_zero, Nat.le_refl, Nat.zero_le, Nat.one_ne_zero, Nat.zero_ne_one, reduceCtorEq, List.map_cons, List.map_nil, List.mapM_cons, List.mapM_nil, List.flatMap_cons, List.flatMap_nil, List.append_nil, List.nil_append, List.cons_append, List.drop_zero, List.drop_succ_cons, List.take_zero, List.take_succ_cons, List.take_nil, List.drop_nil, List.length_cons, List.length_nil, List.getElem?_cons_zero, List.getElem?_cons_succ, List.getElem?_nil, List.set_cons_zero, List.set_cons_succ, List.all_cons, List.all_nil, Option.bind_some, Option.bind_none, Option.map_some, Option.map_none, Option.pure_def, Option.bind_eq_bind, Bool.and_true, Bool.true_and, Bool.and_self, Bool.or_false, Bool.false_or, Bool.and_false, Bool.false_and, Bool.or_true, Bool.true_or, Bool.not_true, Bool.not_false, Bool.not_not, decide_true, decide_false, and_self, and_true, true_and, beq_self_eq_true, beq_true, beq_false, bne_self_eq_false, Int.reduceBNe, Int.reduceBEq, Int.reduceLT, Int.reduceLE, Int.reduceGT, Bool.false_eq_true, Nat.zero_lt_succ, Nat.zero_lt_one, Nat.add_assoc, Nat.left_eq_add, Nat.add_eq_left, h23]

theorem r16 (k ts : Int) (near : Bool) (v : Option (List Int)) (o : Option (List Ver)) (hv : (lst v).length < 9223372036854775808) (hs : Sm o) (hf : FitC o) (hf' : ((lst o).length + 1) * 40 ≤ LIM) :
    res T 16 [.agg [.int .i64 k, .int .u64 ts, .bool near, slV 1 i32V v], slV 3 verV o] = some (.tup [slV 3 verV (wC k ts near v o), slV 3 verV (wG k ts near o), .int .i64 (wE k ts near v o)]) := by
  cases hc : okC o
  · rw [r16n k ts near v o hs hc]
    simp [wC, wG, wE, hc, slV]
  · by_cases h3 : k5 k = 3
    · rw [r16d k ts near v o hs hf hc h3]
      simp [wC, wG, wE, hc, h3, slV]
    · by_cases h4 : k5 k = 4
      · rw [r16p k ts near v o hs hf hc h4]
        simp [wC, wG, wE, hc, h4]
      · rw [r16u k ts near v o hv hs hf hf' h3 h4]
        simp [wC, wG, wE, wantC, wantE, hc, h3, h4, slV, tsOf]

theorem cp_id {L : List Ver} (h : AllS L) : L.map cpV = L := by
  induction L with
  | nil => rfl
  | cons x L ih =>
    rw [List.map_cons, ih (fun y hy => h y (List.mem_cons_of_mem _ hy))]
    have := h x (by simp)
    congr 1
    cases x
    simp only [cpV] at *
    rw [← this]

/-- What is done is what the document says. -/
theorem does_eq (k ts : Int) (near : Bool) (v : Option (List Int)) {o : Option (List Ver)} (ha : AllS (lst o)) :
    runE k ts near v o = wE k ts near v o ∧ (lst (runC k ts near v o) == lst (wC k ts near v o)) = true ∧ (lst (runG k ts near o) == lst (wG k ts near o)) = true := by
  unfold runE wE runC wC runG wG
  generalize tsOf k ts near o = t
  have hkeep : ∀ L : List Ver, L.filter (keepP t) = staysL t L := fun L => by
    unfold staysL; congr 1; funext x; exact keep_goes t x
  have hgone : ∀ L : List Ver, (L.filter fun x => !keepP t x) = goneL t L := fun L => by
    unfold goneL; congr 1; funext x; rw [keep_goes, Bool.not_not]
  by_cases h3 : k5 k = 3
  · simp only [h3, if_true, show ((3 : Int) = 4) = False from by decide, and_false, if_false]
    unfold delE delO rdelE rdelC
    cases hc : okC o
    · simp only [if_true, Bool.false_eq_true, false_and, if_false]
      exact ⟨trivial, rfl, rfl⟩
    · have hl := last_eq hc
      simp only [Bool.true_eq_false, if_false, true_and, if_true]
      rw [hl, cp_id ha]
      by_cases h1 : lastC (lst o) < t ∧ t ≤ 1099511627776
      · rw [if_neg (by omega), if_pos h1]
        refine ⟨rfl, ?_, rfl⟩
        cases ho : openL (lst o)
        · simp only [Bool.false_eq_true, and_false, if_false]; rfl
        · simp only [and_true]
          rw [if_pos h1, if_pos h1, lst_some]
          cases o with
          | none => simp [lst, openL] at ho
          | some L => exact vers_refl _
      · rw [if_pos (by omega), if_neg h1, if_neg (fun h => h1 ⟨h.1, h.2.1⟩), if_neg (fun h => h1 ⟨h.1, h.2.1⟩)]
        exact ⟨rfl, rfl, rfl⟩
  · by_cases h4 : k5 k = 4
    · simp only [h4, if_true, show ((4 : Int) = 3) = False from by decide, and_true, if_false]
      cases hc : okC o
      · exact ⟨by first | rfl | trivial, rfl, rfl⟩
      · simp only [if_true]
        rw [hkeep, hgone, cp_id ha]
        exact ⟨trivial, vers_refl _, vers_refl _⟩
    · simp only [h3, h4, if_false, and_false]
      obtain ⟨q1, q2⟩ := put_eq o t (vec5 v)
      unfold wantE wantC at *
      exact ⟨q1, q2, rfl⟩

end Go.Q.S3
end

section
/- What comes of chains by what is done. -/
set_option linter.unusedSimpArgs false
set_option linter.unusedVariables false
namespace Go.Q.S3
open Go.Q

/-- Chains that can be gone on with. -/
def Small (o : Option (List Ver)) : Prop := (lst o).length ≤ 97 ∧ AllS (lst o) ∧ ∀ x ∈ lst o, (lst x.v).length ≤ 5

theorem Small.sm {o : Option (List Ver)} (h : Small o) : Sm o := ⟨by have := h.1; omega, fun x hx => by have := h.2.2 x hx; omega⟩
theorem Small.fit {o : Option (List Ver)} (h : Small o) : FitC o := ⟨by have := h.1; unfold LIM; omega, fun x hx => by have := h.2.2 x hx; unfold Fit LIM; omega⟩
theorem Small.fit' {o : Option (List Ver)} (h : Small o) : ((lst o).length + 1) * 40 ≤ LIM := by have := h.1; unfold LIM; omega
theorem small_few (o : Option (List Ver)) : Small (fewO o) := by
  refine ⟨few_len o, fun x hx => ?_, fun x hx => ?_⟩
  all_goals
    rw [fewO, lst_opt] at hx
    obtain ⟨y, -, rfl⟩ := List.mem_map.1 hx
  · rfl
  · simp only [fewV, lst_some, List.length_take]; omega
theorem small_congr {o o' : Option (List Ver)} (h : Small o) (e : lst o' = lst o) : Small o' := by unfold Small at *; rw [e]; exact h

theorem cpo (o : Option (List Ver)) (h : AllS (lst o)) : lst (opt ((lst o).map cpV)) = lst o := by rw [lst_opt, cp_id h]

theorem okC_congr {o o' : Option (List Ver)} (e : lst o' = lst o) : okC o' = okC o := by unfold okC; rw [e]
theorem w_congr (k ts : Int) (near : Bool) (v : Option (List Int)) {o o' : Option (List Ver)} (e : lst o' = lst o) : wC k ts near v o' = wC k ts near v o ∧ wG k ts near o' = wG k ts near o ∧ wE k ts near v o' = wE k ts near v o := by
  have h1 := okC_congr e
  have h2 : tsOf k ts near o' = tsOf k ts near o := by unfold tsOf; rw [e]
  have h3 : ∀ l, putN o' l = putN o l := fun l => by unfold putN dimP; rw [e]
  unfold wC wG wE rdelC rdelE refC refE
  rw [h1, h2, e, h3]
  exact ⟨rfl, rfl, rfl⟩

theorem close_mem {ts : Int} {L : List Ver} {x : Ver} (h : x ∈ closeL ts L) : ∃ y ∈ L, x.v = y.v := by
  unfold closeL at h
  split at h
  · rename_i y hy
    split at h
    · rcases List.mem_append.1 h with h | h
      · exact ⟨x, (List.dropLast_sublist L).subset h, rfl⟩
      · rw [List.mem_singleton.1 h]; exact ⟨y, List.mem_of_getLast? hy, rfl⟩
    · exact ⟨x, h, rfl⟩
  · exact ⟨x, h, rfl⟩

theorem vec5_le (v : Option (List Int)) : (vec5 v).length ≤ 5 := by unfold vec5; simp; omega

theorem small_close {ts : Int} {L : List Ver} (h : Small (some L)) : Small (some (closeL ts L)) := by
  refine ⟨by rw [lst_some, close_len]; exact h.1, close_all h.2.1, fun x hx => ?_⟩
  obtain ⟨y, hy, e⟩ := close_mem hx
  rw [e]; exact h.2.2 y hy
theorem small_filter {p : Ver → Bool} {L : List Ver} (h : Small (some L)) : Small (opt (L.filter p)) := by
  refine ⟨?_, fun x hx => ?_, fun x hx => ?_⟩
  · rw [lst_opt]; exact Nat.le_trans (List.length_filter_le _ _) h.1
  · rw [lst_opt] at hx; exact h.2.1 x (List.mem_filter.1 hx).1
  · rw [lst_opt] at hx; exact h.2.2 x (List.mem_filter.1 hx).1

/-- What the document leaves is small. -/
theorem small_w (k ts : Int) (near : Bool) (v : Option (List Int)) {o : Option (List Ver)} (h : Small o) : Small (wC k ts near v o) := by
  have h0 : Small (none : Option (List Ver)) := ⟨by simp [lst], fun x hx => by simp [lst] at hx, fun x hx => by simp [lst] at hx⟩
  have hs : Small (some (lst o)) := small_congr h rfl
  unfold wC
  rw [cp_id h.2.1]
  split
  · rename_i hc
    split
    · unfold rdelC
      rw [cp_id h.2.1]
      split
      · exact small_close hs
      · exact h0
    · split
      · exact small_filter hs
      · unfold refC
        rw [cp_id h.2.1]
        split
        · rename_i hp
          have h96 : (lst o).length ≤ 96 := by
            unfold okC at hc
            rw [Bool.and_eq_true, decide_eq_true_eq] at hc
            exact hc.1
          have hcl := small_close (ts := tsOf k ts near o) hs
          refine ⟨?_, fun x hx => ?_, fun x hx => ?_⟩
          · rw [lst_some, List.length_append, List.length_singleton, close_len]; omega
          · rcases List.mem_append.1 hx with hx | hx
            · exact hcl.2.1 x hx
            · rw [List.mem_singleton.1 hx]; rfl
          · rcases List.mem_append.1 hx with hx | hx
            · exact hcl.2.2 x hx
            · rw [List.mem_singleton.1 hx]; exact vec5_le v
        · exact h0
  · exact h0

theorem lst_beq_len {a b : List Ver} (h : (a == b) = true) : a.length = b.length := by
  refine Classical.byContradiction fun hn => ?_
  rw [eq_len hn] at h
  cases h
theorem beq_mem {a : List Ver} : ∀ {b : List Ver}, (a == b) = true → ∀ x ∈ a, ∃ y ∈ b, lst x.v = lst y.v := by
  induction a with
  | nil => intro b _ x hx; simp at hx
  | cons z a ih =>
    intro b h x hx
    cases b with
    | nil => cases h
    | cons y b =>
      have h : (z == y && a == b) = true := h
      rw [Bool.and_eq_true, ver_beq, Bool.and_eq_true] at h
      rcases List.mem_cons.1 hx with rfl | hx
      · exact ⟨y, by simp, by simpa using h.1.2⟩
      · obtain ⟨w, hw, e⟩ := ih h.2 x hx
        exact ⟨w, List.mem_cons_of_mem _ hw, e⟩

theorem Chn.fz {σ : Sto} {m n : Nat} {v : V} {o : Option (List Ver)} (h : Chn σ m n v o) (ha : AllS (lst o)) {n' : Nat} (hn : n ≤ n') : Fz σ 12 v (slV 3 verV o) (fun i => i < n') :=
  ⟨h.frz ha 9, fun i hi => by have := h.rch 9 i hi; omega⟩

theorem bk_own (o : Option (List Ver)) (fs : Bool) (D : List Nat) (σ : Sto) (n lk : Nat) : backE fs D (ownC o) σ n lk = some (thaw σ n (ownC o)) := backE_flat (flat_ownC o) fs D σ n lk
theorem bk_trip3 (o o' : Option (List Ver)) (e : Int) (fs : Bool) (D : List Nat) (σ : Sto) (n lk : Nat) : backE fs D (.tup [ownC o, ownC o', .int .i64 e]) σ n lk = some (thaw σ n (.tup [ownC o, ownC o', .int .i64 e])) :=
  backE_flat (by simp only [flat, flatL, flat_ownC, Bool.and_self]) fs D σ n lk

theorem run_all (k ts : Int) (near : Bool) (v : Option (List Int)) {o : Option (List Ver)} (h : AllS (lst o)) : AllS (lst (runC k ts near v o)) ∧ AllS (lst (runG k ts near o)) := by
  have h0 : AllS (lst (none : Option (List Ver))) := fun x hx => by simp [lst] at hx
  have hf : ∀ p : Ver → Bool, AllS (lst (opt ((lst o).filter p))) := fun p x hx => by
    rw [lst_opt] at hx; exact h x (List.mem_filter.1 hx).1
  constructor
  · unfold runC
    split
    · unfold delO
      split
      · cases o with
        | none => exact h0
        | some L => exact close_all (L := L) h
      · exact h0
    · split
      · split
        · exact hf _
        · exact h0
      · exact put_all h
  · unfold runG
    split
    · split
      · exact hf _
      · exact h0
    · exact h0

theorem run_sm (k ts : Int) (near : Bool) (v : Option (List Int)) {o : Option (List Ver)} (h : Small o) : Sm (runC k ts near v o) := by
  obtain ⟨-, h1, -⟩ := does_eq k ts near v h.2.1
  have hw := (small_w k ts near v h).sm
  refine ⟨by rw [lst_beq_len h1]; exact hw.1, fun x hx => ?_⟩
  obtain ⟨y, hy, e⟩ := beq_mem h1 x hx
  rw [e]; exact hw.2 y hy
theorem run_smG (k ts : Int) (near : Bool) {o : Option (List Ver)} (h : Small o) : Sm (runG k ts near o) := by
  have h0 : Sm (none : Option (List Ver)) := ⟨by simp [lst], fun x hx => by simp [lst] at hx⟩
  unfold runG
  split
  · split
    · refine ⟨?_, fun x hx => ?_⟩
      · unfold goneL; rw [lst_opt]; exact Nat.lt_of_le_of_lt (List.length_filter_le _ _) h.sm.1
      · unfold goneL at hx; rw [lst_opt] at hx; exact h.sm.2 x (List.mem_filter.1 hx).1
    · exact h0
  · exact h0

/-- The shape of a chain in the store, whatever its numbers. -/
structure Shp (σ : Sto) (id : Nat) (L : List Ver) (ids : List Nat) : Prop where
  nd : (id :: ids).Nodup
  len : ids.length = L.length
  row : ∃ rows : List V, σ id = some (.row 3 rows) ∧ rows.length = L.length ∧ ∀ (k : Nat) (x : Ver) (i : Nat), L[k]? = some x → ids[k]? = some i → ∃ b e : V, rows[k]? = some (.agg [b, e, .ref i 0 (lst x.v).length 1])
  vec : ∀ (k : Nat) (x : Ver) (i : Nat), L[k]? = some x → ids[k]? = some i → ∃ ys : List V, σ i = some (.row 1 ys) ∧ ys.length = (lst x.v).length ∧ ∀ y ∈ ys, ∃ t, y = .int .i32 t

theorem Chn.shp {σ : Sto} {m n : Nat} {v : V} {L : List Ver} (h : Chn σ m n v (some L)) : ∃ id ids, v = .ref id 0 L.length 3 ∧ (∀ i ∈ id :: ids, m ≤ i ∧ i < n) ∧ Shp σ id L ids := by
  obtain ⟨id, ids, rfl, h1, h2, h3, h4⟩ := h
  refine ⟨id, ids, rfl, h3, h2, h4.1, ⟨_, h1, zip_len h4, fun k x i hx hi => ⟨.int .u64 x.b, .int .u64 x.e, ?_⟩⟩, fun k x i hx hi => ⟨_, h4.2 k x i hx hi, by simp, fun y hy => ?_⟩⟩
  · rw [List.getElem?_zipWith, hx, hi]; rfl
  · obtain ⟨t, -, rfl⟩ := List.mem_map.1 hy
    exact ⟨t, rfl⟩

theorem Shp.loc {σ σ' : Sto} {id : Nat} {L : List Ver} {ids : List Nat} (h : Shp σ id L ids) (hs : ∀ i ∈ id :: ids, σ' i = σ i) : Shp σ' id L ids := by
  obtain ⟨h1, h2, ⟨rows, h3, h4, h5⟩, h6⟩ := h
  refine ⟨h1, h2, ⟨rows, by rw [hs id (by simp), h3], h4, h5⟩, fun k x i hx hi => ?_⟩
  obtain ⟨ys, a, b, c⟩ := h6 k x i hx hi
  exact ⟨ys, by rw [hs i (List.mem_cons_of_mem _ (List.mem_of_getElem? hi)), a], b, c⟩

theorem Shp.set1 {σ : Sto} {id : Nat} {L : List Ver} {ids : List Nat} (h : Shp σ id L ids) {rows : List V} (hr : σ id = some (.row 3 rows)) {k : Nat} {b e w c : V} (hk : rows[k]? = some (.agg [b, e, w])) :
    Shp (upd σ id (some (.row 3 (rows.set k (.agg [b, c, w]))))) id L ids := by
  obtain ⟨h1, h2, ⟨rows', h3, h4, h5⟩, h6⟩ := h
  rw [hr] at h3
  cases h3
  refine ⟨h1, h2, ⟨rows.set k (.agg [b, c, w]), by simp [upd], by simpa using h4, fun j x i hx hi => ?_⟩, fun j x i hx hi => ?_⟩
  · obtain ⟨b', e', hb⟩ := h5 j x i hx hi
    by_cases hjk : k = j
    · subst hjk
      rw [hk] at hb
      simp only [Option.some.injEq, V.agg.injEq, List.cons.injEq, and_true] at hb
      obtain ⟨rfl, rfl, rfl⟩ := hb
      have hlt : k < rows.length := (List.getElem?_eq_some_iff.1 hk).1
      exact ⟨b, c, by rw [List.getElem?_set_self hlt]⟩
    · exact ⟨b', e', by rw [List.getElem?_set_ne hjk, hb]⟩
  · obtain ⟨ys, a, b, c⟩ := h6 j x i hx hi
    have : i ≠ id := fun e => (List.nodup_cons.1 h1).1 (by rw [← e]; exact List.mem_of_getElem? hi)
    exact ⟨ys, by simp only [upd_get, this, if_false]; exact a, b, c⟩

theorem Shp.set2 {σ : Sto} {id : Nat} {L : List Ver} {ids : List Nat} (h : Shp σ id L ids) {k : Nat} {i : Nat} (hi : ids[k]? = some i) {ys : List V} (hy : σ i = some (.row 1 ys)) {j : Nat} {t : Int} :
    Shp (upd σ i (some (.row 1 (ys.set j (.int .i32 t))))) id L ids := by
  obtain ⟨h1, h2, ⟨rows, h3, h4, h5⟩, h6⟩ := h
  have hid : id ≠ i := fun e => (List.nodup_cons.1 h1).1 (by rw [e]; exact List.mem_of_getElem? hi)
  refine ⟨h1, h2, ⟨rows, by simp only [upd_get, hid, if_false]; exact h3, h4, h5⟩, fun q x p hx hp => ?_⟩
  obtain ⟨zs, a, b, c⟩ := h6 q x p hx hp
  by_cases hpi : p = i
  · subst hpi
    rw [hy] at a
    cases a
    refine ⟨ys.set j (.int .i32 t), by simp [upd], by simpa using b, fun z hz => ?_⟩
    rcases List.mem_or_eq_of_mem_set hz with hz | hz
    · exact c z hz
    · exact ⟨t, hz⟩
  · exact ⟨zs, by simp only [upd_get, hpi, if_false]; exact a, b, c⟩

end Go.Q.S3
end
