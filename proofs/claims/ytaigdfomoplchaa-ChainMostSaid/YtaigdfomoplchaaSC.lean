/- The document's word on which chains may be. -/
import Derived.Test.YtaigdfomoplchaaSB
import Derived.Test.YtaigdfomoplchaaProg
import Derived.KernelRfl
section
set_option linter.unusedSimpArgs false
set_option linter.unusedVariables false
namespace Go.Q.S3
open Go.Q

/-- One version by itself. -/
def okOne (d : Int) (x : Ver) : Bool := decide (0 < x.b) && decide (x.b ≤ 1099511627776) && decide (x.e ≤ 1099511627776) && (x.e == 0 || decide (x.b < x.e)) && (okV x.v && ((lst x.v).length : Int) == d)
theorem okVer_one (d L : Int) (fin : Bool) (x : Ver) : okVer d L fin x = (okOne d x && decide (L ≤ x.b) && (!x.e == 0 || fin)) := by
  simp only [okVer, okOne]
  generalize decide (0 < x.b) = p1
  generalize decide (L ≤ x.b) = p2
  cases p1 <;> cases p2 <;> simp

theorem r23 (o : Option (List Ver)) (hs : Sm o) : res T 23 [slV 3 verV o] = some (.bool (okC o)) := by
  refine run_res (run_pure (fn := g23) rfl rfl (by decide) ?_)
  simp only [g23, b23]
  simp +contextual -implicitDefEqProofs (maxSteps := 2000000) only [↓wP, wQ, wQ1, wQ2, wQ3, boxE, List.take_length, partsOf, ↓reduceIte, Nat.reduceEqDiff, Nat.reduceAdd, Nat.reduceSub, Nat.reduceLeDiff, Nat.reduceLT, Nat.reduceMul, Nat.zero_add, Nat.add_zero, Nat.mul_zero, Nat.le_refl, Nat.zero_le, Nat.one_ne_zero, Nat.zero_ne_one, reduceCtorEq, List.map_cons, List.map_nil, List.mapM_cons, List.mapM_nil, List.flatMap_cons, List.flatMap_nil, List.append_nil, List.nil_append, List.cons_append, List.drop_zero, List.drop_succ_cons, List.take_zero, List.take_succ_cons, List.take_nil, List.drop_nil, List.length_cons, List.length_nil, List.getElem?_cons_zero, List.getElem?_cons_succ, List.getElem?_nil, List.set_cons_zero, List.set_cons_succ, List.all_cons, List.all_nil, Option.bind_some, Option.bind_none, Option.map_some, Option.map_none, Option.pure_def, Option.bind_eq_bind, Bool.and_true, Bool.true_and, Bool.and_self, Bool.or_false, Bool.false_or, Bool.and_false, Bool.false_and, Bool.or_true, Bool.true_or, Bool.not_true, Bool.not_false, Bool.not_not, decide_true, decide_false, and_self, and_true, true_and, beq_self_eq_true, beq_true, beq_false, bne_self_eq_false, Int.reduceBNe, Int.reduceBEq, Int.reduceLT, Int.reduceLE, Int.reduceGT, Bool.false_eq_true, Nat.zero_lt_succ, Nat.zero_lt_one, Nat.add_assoc, Nat.left_eq_add, Nat.add_eq_left]
  by_cases h96 : (lst o).length ≤ 96
  · have hd : decide ((96 : Int) < ((lst o).length : Int)) = false := by simp; omega
    simp +contextual -implicitDefEqProofs (maxSteps := 2000000) only [↓wP, wQ, wQ1, wQ2, wQ3, boxE, List.take_length, partsOf, ↓reduceIte, Nat.reduceEqDiff, Nat.reduceAdd, Nat.reduceSub, Nat.reduceLeDiff, Nat.reduceLT, Nat.reduceMul, Nat.zero_add, Nat.add_zero, Nat.mul_zero, Nat.le_refl, Nat.zero_le, Nat.one_ne_zero, Nat.zero_ne_one, reduceCtorEq, List.map_cons, List.map_nil, List.mapM_cons, List.mapM_nil, List.flatMap_cons, List.flatMap_nil, List.append_nil, List.nil_append, List.cons_append, List.drop_zero, List.drop_succ_cons, List.take_zero, List.take_succ_cons, List.take_nil, List.drop_nil, List.length_cons, List.length_nil, List.getElem?_cons_zero, List.getElem?_cons_succ, List.getElem?_nil, List.set_cons_zero, List.set_cons_succ, List.all_cons, List.all_nil, Option.bind_some, Option.bind_none, Option.map_some, Option.map_none, Option.pure_def, Option.bind_eq_bind, Bool.and_true, Bool.true_and, Bool.and_self, Bool.or_false, Bool.false_or, Bool.and_false, Bool.false_and, Bool.or_true, Bool.true_or, Bool.not_true, Bool.not_false, Bool.not_not, decide_true, decide_false, and_self, and_true, true_and, beq_self_eq_true, beq_true, beq_false, bne_self_eq_false, Int.reduceBNe, Int.reduceBEq, Int.reduceLT, Int.reduceLE, Int.reduceGT, Bool.false_eq_true, Nat.zero_lt_succ, Nat.zero_lt_one, Nat.add_assoc, Nat.left_eq_add, Nat.add_eq_left, hd]
    refine WC_for (lst o).length 0 (fun (j : Nat) env _ _ => env 0 = slV 3 verV o ∧ env 8 = slV 3 verV o ∧ ∃ L, okC o = chk (dimOf (lst o)) L ((lst o).drop j) ∧ ∀ x, (lst o)[j]? = some x → 0 < x.b → L ≤ x.b)
      (by omega) (by decide) (by decide) (fun _ _ => rfl) (fun _ _ _ => rfl) ?_ ?_ _ _ _ rfl rfl ?_
    · intro j env σ n hj h1 h2 ⟨h3, h4, L, h5, h6⟩
      simp only [vl_tmp] at h2
      have hx : (lst o)[j]? = some (lst o)[j] := List.getElem?_eq_getElem hj
      have hx0 : (lst o)[0]? = some (lst o)[0] := List.getElem?_eq_getElem (by omega)
      have hdim : dimOf (lst o) = ((lst (lst o)[0].v).length : Int) := dimOf_eq (by omega)
      have h40 := f40 (lst o)[j].v (hs.2 _ (List.getElem_mem hj))
      have h7 := h6 _ hx
      rw [List.drop_eq_getElem_cons hj, chk, okVer_one] at h5
      simp +contextual -implicitDefEqProofs (maxSteps := 2000000) only [↓wP, wQ, wQ1, wQ2, wQ3, boxE, List.take_length, partsOf, ↓reduceIte, Nat.reduceEqDiff, Nat.reduceAdd, Nat.reduceSub, Nat.reduceLeDiff, Nat.reduceLT, Nat.reduceMul, Nat.zero_add, Nat.add_zero, Nat.mul_zero, Nat.le_refl, Nat.zero_le, Nat.one_ne_zero, Nat.zero_ne_one, reduceCtorEq, List.map_cons, List.map_nil, List.mapM_cons, List.mapM_nil, List.flatMap_cons, List.flatMap_nil, List.append_nil, List.nil_append, List.cons_append, List.drop_zero, List.drop_succ_cons, List.take_zero, List.take_succ_cons, List.take_nil, List.drop_nil, List.length_cons, List.length_nil, List.getElem?_cons_zero, List.getElem?_cons_succ, List.getElem?_nil, List.set_cons_zero, List.set_cons_succ, List.all_cons, List.all_nil, Option.bind_some, Option.bind_none, Option.map_some, Option.map_none, Option.pure_def, Option.bind_eq_bind, Bool.and_true, Bool.true_and, Bool.and_self, Bool.or_false, Bool.false_or, Bool.and_false, Bool.false_and, Bool.or_true, Bool.true_or, Bool.not_true, Bool.not_false, Bool.not_not, decide_true, decide_false, and_self, and_true, true_and, beq_self_eq_true, beq_true, beq_false, bne_self_eq_false, Int.reduceBNe, Int.reduceBEq, Int.reduceLT, Int.reduceLE, Int.reduceGT, Bool.false_eq_true, Nat.zero_lt_succ, Nat.zero_lt_one, Nat.add_assoc, Nat.left_eq_add, Nat.add_eq_left, h1, h2, h3, h4, hx, hx0, verV, h40]
      refine condC_split (fun hb => ?_) (fun hb => ?_)
      · have e1 : okOne (dimOf (lst o)) (lst o)[j] = false := by
          rw [hdim]
          simp only [Bool.or_eq_true, decide_eq_true_eq, Bool.and_eq_true, bne_iff_ne, Bool.not_eq_true', ne_eq] at hb
          simp only [okOne, Bool.and_eq_false_iff, decide_eq_false_iff_not, Bool.or_eq_false_iff, beq_eq_false_iff_ne, ne_eq]
          rcases hb with ((((hb | hb) | hb) | ⟨hb, hb'⟩) | hb) | hb
          · exact .inl (.inl (.inl (.inl (by omega))))
          · exact .inl (.inl (.inl (.inr (by omega))))
          · exact .inl (.inl (.inr (by omega)))
          · exact .inl (.inr ⟨hb, by omega⟩)
          · exact .inr (.inl hb)
          · exact .inr (.inr hb)
        rw [e1, Bool.false_and, Bool.false_and, Bool.false_and] at h5
        simp +contextual -implicitDefEqProofs (maxSteps := 2000000) only [↓wP, wQ, wQ1, wQ2, wQ3, boxE, List.take_length, partsOf, ↓reduceIte, Nat.reduceEqDiff, Nat.reduceAdd, Nat.reduceSub, Nat.reduceLeDiff, Nat.reduceLT, Nat.reduceMul, Nat.zero_add, Nat.add_zero, Nat.mul_zero, Nat.le_refl, Nat.zero_le, Nat.one_ne_zero, Nat.zero_ne_one, reduceCtorEq, List.map_cons, List.map_nil, List.mapM_cons, List.mapM_nil, List.flatMap_cons, List.flatMap_nil, List.append_nil, List.nil_append, List.cons_append, List.drop_zero, List.drop_succ_cons, List.take_zero, List.take_succ_cons, List.take_nil, List.drop_nil, List.length_cons, List.length_nil, List.getElem?_cons_zero, List.getElem?_cons_succ, List.getElem?_nil, List.set_cons_zero, List.set_cons_succ, List.all_cons, List.all_nil, Option.bind_some, Option.bind_none, Option.map_some, Option.map_none, Option.pure_def, Option.bind_eq_bind, Bool.and_true, Bool.true_and, Bool.and_self, Bool.or_false, Bool.false_or, Bool.and_false, Bool.false_and, Bool.or_true, Bool.true_or, Bool.not_true, Bool.not_false, Bool.not_not, decide_true, decide_false, and_self, and_true, true_and, beq_self_eq_true, beq_true, beq_false, bne_self_eq_false, Int.reduceBNe, Int.reduceBEq, Int.reduceLT, Int.reduceLE, Int.reduceGT, Bool.false_eq_true, Nat.zero_lt_succ, Nat.zero_lt_one, Nat.add_assoc, Nat.left_eq_add, Nat.add_eq_left, h5]
      · have e1 : okOne (dimOf (lst o)) (lst o)[j] = true ∧ 0 < (lst o)[j].b := by
          rw [hdim]
          simp only [Bool.or_eq_false_iff, decide_eq_false_iff_not, Bool.and_eq_false_iff, bne_eq_false_iff_eq, Bool.not_eq_false', Int.not_lt, Int.not_le] at hb
          simp only [okOne, Bool.and_eq_true, decide_eq_true_eq, Bool.or_eq_true, beq_iff_eq]
          obtain ⟨⟨⟨⟨⟨b1, b2⟩, b3⟩, b4⟩, b5⟩, b6⟩ := hb
          exact ⟨⟨⟨⟨⟨by omega, by omega⟩, by omega⟩, b4⟩, b5, b6⟩, by omega⟩
        have e2 : decide (L ≤ (lst o)[j].b) = true := decide_eq_true (h7 e1.2)
        rw [e1.1, e2, Bool.true_and, Bool.true_and] at h5
        have hw : IntKind.i64.wrap (((lst o).length : Int) - 1) = ((lst o).length : Int) - 1 := by rw [wrap_i64] <;> omega
        by_cases hj1 : j + 1 < (lst o).length
        · have hg : decide ((j : Int) < ((lst o).length : Int) - 1) = true := decide_eq_true (by omega)
          have hw1 : IntKind.i64.wrap ((j : Int) + 1) = ((j + 1 : Nat) : Int) := by rw [wrap_i64] <;> omega
          have hx1 : (lst o)[j + 1]? = some (lst o)[j + 1] := List.getElem?_eq_getElem hj1
          have hne : ((lst o).drop (j + 1)).isEmpty = false := by rw [List.drop_eq_getElem_cons hj1]; rfl
          rw [hne, Bool.or_false] at h5
          simp +contextual -implicitDefEqProofs (maxSteps := 2000000) only [↓wP, wQ, wQ1, wQ2, wQ3, boxE, List.take_length, partsOf, ↓reduceIte, Nat.reduceEqDiff, Nat.reduceAdd, Nat.reduceSub, Nat.reduceLeDiff, Nat.reduceLT, Nat.reduceMul, Nat.zero_add, Nat.add_zero, Nat.mul_zero, Nat.le_refl, Nat.zero_le, Nat.one_ne_zero, Nat.zero_ne_one, reduceCtorEq, List.map_cons, List.map_nil, List.mapM_cons, List.mapM_nil, List.flatMap_cons, List.flatMap_nil, List.append_nil, List.nil_append, List.cons_append, List.drop_zero, List.drop_succ_cons, List.take_zero, List.take_succ_cons, List.take_nil, List.drop_nil, List.length_cons, List.length_nil, List.getElem?_cons_zero, List.getElem?_cons_succ, List.getElem?_nil, List.set_cons_zero, List.set_cons_succ, List.all_cons, List.all_nil, Option.bind_some, Option.bind_none, Option.map_some, Option.map_none, Option.pure_def, Option.bind_eq_bind, Bool.and_true, Bool.true_and, Bool.and_self, Bool.or_false, Bool.false_or, Bool.and_false, Bool.false_and, Bool.or_true, Bool.true_or, Bool.not_true, Bool.not_false, Bool.not_not, decide_true, decide_false, and_self, and_true, true_and, beq_self_eq_true, beq_true, beq_false, bne_self_eq_false, Int.reduceBNe, Int.reduceBEq, Int.reduceLT, Int.reduceLE, Int.reduceGT, Bool.false_eq_true, Nat.zero_lt_succ, Nat.zero_lt_one, Nat.add_assoc, Nat.left_eq_add, Nat.add_eq_left, h1, h2, h3, h4, hx, verV, hw, hg, hw1, hx1]
          refine condC_split (fun hb => ?_) (fun hb => ?_)
          · have e3 : okC o = false := by
              rw [h5, List.drop_eq_getElem_cons hj1, chk, okVer_one]
              simp only [Bool.or_eq_true, beq_iff_eq, decide_eq_true_eq] at hb
              rcases hb with hb | hb
              · simp [hb]
              · have : decide ((lst o)[j].e ≤ (lst o)[j + 1].b) = false := decide_eq_false (by omega)
                simp [this]
            simp +contextual -implicitDefEqProofs (maxSteps := 2000000) only [↓wP, wQ, wQ1, wQ2, wQ3, boxE, List.take_length, partsOf, ↓reduceIte, Nat.reduceEqDiff, Nat.reduceAdd, Nat.reduceSub, Nat.reduceLeDiff, Nat.reduceLT, Nat.reduceMul, Nat.zero_add, Nat.add_zero, Nat.mul_zero, Nat.le_refl, Nat.zero_le, Nat.one_ne_zero, Nat.zero_ne_one, reduceCtorEq, List.map_cons, List.map_nil, List.mapM_cons, List.mapM_nil, List.flatMap_cons, List.flatMap_nil, List.append_nil, List.nil_append, List.cons_append, List.drop_zero, List.drop_succ_cons, List.take_zero, List.take_succ_cons, List.take_nil, List.drop_nil, List.length_cons, List.length_nil, List.getElem?_cons_zero, List.getElem?_cons_succ, List.getElem?_nil, List.set_cons_zero, List.set_cons_succ, List.all_cons, List.all_nil, Option.bind_some, Option.bind_none, Option.map_some, Option.map_none, Option.pure_def, Option.bind_eq_bind, Bool.and_true, Bool.true_and, Bool.and_self, Bool.or_false, Bool.false_or, Bool.and_false, Bool.false_and, Bool.or_true, Bool.true_or, Bool.not_true, Bool.not_false, Bool.not_not, decide_true, decide_false, and_self, and_true, true_and, beq_self_eq_true, beq_true, beq_false, bne_self_eq_false, Int.reduceBNe, Int.reduceBEq, Int.reduceLT, Int.reduceLE, Int.reduceGT, Bool.false_eq_true, Nat.zero_lt_succ, Nat.zero_lt_one, Nat.add_assoc, Nat.left_eq_add, Nat.add_eq_left, e3]
          · simp only [Bool.or_eq_false_iff, beq_eq_false_iff_ne, decide_eq_false_iff_not, Int.not_lt] at hb
            have e3 : okC o = chk (dimOf (lst o)) (lst o)[j].e ((lst o).drop (j + 1)) := by
              rw [h5]; simp [hb.1]
            simp +contextual -implicitDefEqProofs (maxSteps := 2000000) only [↓wP, wQ, wQ1, wQ2, wQ3, boxE, List.take_length, partsOf, ↓reduceIte, Nat.reduceEqDiff, Nat.reduceAdd, Nat.reduceSub, Nat.reduceLeDiff, Nat.reduceLT, Nat.reduceMul, Nat.zero_add, Nat.add_zero, Nat.mul_zero, Nat.le_refl, Nat.zero_le, Nat.one_ne_zero, Nat.zero_ne_one, reduceCtorEq, List.map_cons, List.map_nil, List.mapM_cons, List.mapM_nil, List.flatMap_cons, List.flatMap_nil, List.append_nil, List.nil_append, List.cons_append, List.drop_zero, List.drop_succ_cons, List.take_zero, List.take_succ_cons, List.take_nil, List.drop_nil, List.length_cons, List.length_nil, List.getElem?_cons_zero, List.getElem?_cons_succ, List.getElem?_nil, List.set_cons_zero, List.set_cons_succ, List.all_cons, List.all_nil, Option.bind_some, Option.bind_none, Option.map_some, Option.map_none, Option.pure_def, Option.bind_eq_bind, Bool.and_true, Bool.true_and, Bool.and_self, Bool.or_false, Bool.false_or, Bool.and_false, Bool.false_and, Bool.or_true, Bool.true_or, Bool.not_true, Bool.not_false, Bool.not_not, decide_true, decide_false, and_self, and_true, true_and, beq_self_eq_true, beq_true, beq_false, bne_self_eq_false, Int.reduceBNe, Int.reduceBEq, Int.reduceLT, Int.reduceLE, Int.reduceGT, Bool.false_eq_true, Nat.zero_lt_succ, Nat.zero_lt_one, Nat.add_assoc, Nat.left_eq_add, Nat.add_eq_left, h1, h2, h3, h4]
            refine ⟨_, e3, fun x hx' _ => ?_⟩
            cases hx'
            exact hb.2
        · have hg : decide ((j : Int) < ((lst o).length : Int) - 1) = false := decide_eq_false (by omega)
          have he : (lst o).drop (j + 1) = [] := by rw [List.drop_eq_nil_iff]; omega
          rw [he] at h5
          simp +contextual -implicitDefEqProofs (maxSteps := 2000000) only [↓wP, wQ, wQ1, wQ2, wQ3, boxE, List.take_length, partsOf, ↓reduceIte, Nat.reduceEqDiff, Nat.reduceAdd, Nat.reduceSub, Nat.reduceLeDiff, Nat.reduceLT, Nat.reduceMul, Nat.zero_add, Nat.add_zero, Nat.mul_zero, Nat.le_refl, Nat.zero_le, Nat.one_ne_zero, Nat.zero_ne_one, reduceCtorEq, List.map_cons, List.map_nil, List.mapM_cons, List.mapM_nil, List.flatMap_cons, List.flatMap_nil, List.append_nil, List.nil_append, List.cons_append, List.drop_zero, List.drop_succ_cons, List.take_zero, List.take_succ_cons, List.take_nil, List.drop_nil, List.length_cons, List.length_nil, List.getElem?_cons_zero, List.getElem?_cons_succ, List.getElem?_nil, List.set_cons_zero, List.set_cons_succ, List.all_cons, List.all_nil, Option.bind_some, Option.bind_none, Option.map_some, Option.map_none, Option.pure_def, Option.bind_eq_bind, Bool.and_true, Bool.true_and, Bool.and_self, Bool.or_false, Bool.false_or, Bool.and_false, Bool.false_and, Bool.or_true, Bool.true_or, Bool.not_true, Bool.not_false, Bool.not_not, decide_true, decide_false, and_self, and_true, true_and, beq_self_eq_true, beq_true, beq_false, bne_self_eq_false, Int.reduceBNe, Int.reduceBEq, Int.reduceLT, Int.reduceLE, Int.reduceGT, Bool.false_eq_true, Nat.zero_lt_succ, Nat.zero_lt_one, Nat.add_assoc, Nat.left_eq_add, Nat.add_eq_left, h1, h2, h3, h4, hx, verV, hw, hg]
          refine ⟨(lst o)[j].e, ?_, fun x hx' _ => ?_⟩
          · rw [h5, he]; simp
          · rw [List.getElem?_eq_none (by omega)] at hx'; cases hx'
    · intro env σ n ⟨h3, h4, L, h5, h6⟩ h1 h2
      rw [List.drop_length] at h5
      have : okC o = true := h5
      simp +contextual -implicitDefEqProofs (maxSteps := 2000000) only [↓wP, wQ, wQ1, wQ2, wQ3, boxE, List.take_length, partsOf, ↓reduceIte, Nat.reduceEqDiff, Nat.reduceAdd, Nat.reduceSub, Nat.reduceLeDiff, Nat.reduceLT, Nat.reduceMul, Nat.zero_add, Nat.add_zero, Nat.mul_zero, Nat.le_refl, Nat.zero_le, Nat.one_ne_zero, Nat.zero_ne_one, reduceCtorEq, List.map_cons, List.map_nil, List.mapM_cons, List.mapM_nil, List.flatMap_cons, List.flatMap_nil, List.append_nil, List.nil_append, List.cons_append, List.drop_zero, List.drop_succ_cons, List.take_zero, List.take_succ_cons, List.take_nil, List.drop_nil, List.length_cons, List.length_nil, List.getElem?_cons_zero, List.getElem?_cons_succ, List.getElem?_nil, List.set_cons_zero, List.set_cons_succ, List.all_cons, List.all_nil, Option.bind_some, Option.bind_none, Option.map_some, Option.map_none, Option.pure_def, Option.bind_eq_bind, Bool.and_true, Bool.true_and, Bool.and_self, Bool.or_false, Bool.false_or, Bool.and_false, Bool.false_and, Bool.or_true, Bool.true_or, Bool.not_true, Bool.not_false, Bool.not_not, decide_true, decide_false, and_self, and_true, true_and, beq_self_eq_true, beq_true, beq_false, bne_self_eq_false, Int.reduceBNe, Int.reduceBEq, Int.reduceLT, Int.reduceLE, Int.reduceGT, Bool.false_eq_true, Nat.zero_lt_succ, Nat.zero_lt_one, Nat.add_assoc, Nat.left_eq_add, Nat.add_eq_left, this]
    · refine ⟨rfl, rfl, 0, ?_, fun x _ h => by omega⟩
      simp [okC, h96]
  · have hd : decide ((96 : Int) < ((lst o).length : Int)) = true := by simp; omega
    have hc : okC o = false := by simp [okC, h96]
    simp +contextual -implicitDefEqProofs (maxSteps := 2000000) only [↓wP, wQ, wQ1, wQ2, wQ3, boxE, List.take_length, partsOf, ↓reduceIte, Nat.reduceEqDiff, Nat.reduceAdd, Nat.reduceSub, Nat.reduceLeDiff, Nat.reduceLT, Nat.reduceMul, Nat.zero_add, Nat.add_zero, Nat.mul_zero, Nat.le_refl, Nat.zero_le, Nat.one_ne_zero, Nat.zero_ne_one, reduceCtorEq, List.map_cons, List.map_nil, List.mapM_cons, List.mapM_nil, List.flatMap_cons, List.flatMap_nil, List.append_nil, List.nil_append, List.cons_append, List.drop_zero, List.drop_succ_cons, List.take_zero, List.take_succ_cons, List.take_nil, List.drop_nil, List.length_cons, List.length_nil, List.getElem?_cons_zero, List.getElem?_cons_succ, List.getElem?_nil, List.set_cons_zero, List.set_cons_succ, List.all_cons, List.all_nil, Option.bind_some, Option.bind_none, Option.map_some, Option.map_none, Option.pure_def, Option.bind_eq_bind, Bool.and_true, Bool.true_and, Bool.and_self, Bool.or_false, Bool.false_or, Bool.and_false, Bool.false_and, Bool.or_true, Bool.true_or, Bool.not_true, Bool.not_false, Bool.not_not, decide_true, decide_false, and_self, and_true, true_and, beq_self_eq_true, beq_true, beq_false, bne_self_eq_false, Int.reduceBNe, Int.reduceBEq, Int.reduceLT, Int.reduceLE, Int.reduceGT, Bool.false_eq_true, Nat.zero_lt_succ, Nat.zero_lt_one, Nat.add_assoc, Nat.left_eq_add, Nat.add_eq_left, hd, hc]

theorem f23 (o : Option (List Ver)) (hs : Sm o) (fs : Bool) (σ : Sto) (n lk : Nat) : callE T fs 23 [slV 3 verV o] σ n lk = some (.bool (okC o), σ, n) :=
  callE_tr (by decide) (r23 o hs) (by simp [Tr, Tr_slV]) rfl fs σ n lk

end Go.Q.S3
end

section
/- The document's Put and Del. -/
set_option linter.unusedSimpArgs false
set_option linter.unusedVariables false
namespace Go.Q.S3
open Go.Q

theorem r54 (o : Option (List Ver)) (ts : Int) (hs : Sm o) : res T 54 [slV 3 verV o, .int .u64 ts] = some (.bool (decide (lastR (lst o) < ts) && decide (ts ≤ 1099511627776))) := by
  refine run_res (run_pure (fn := g54) rfl rfl (by decide) ?_)
  simp only [g54, b54]
  have h25 := f25 o hs
  simp +contextual -implicitDefEqProofs (maxSteps := 2000000) only [↓wP, wQ, wQ1, wQ2, wQ3, boxE, List.take_length, partsOf, ↓reduceIte, Nat.reduceEqDiff, Nat.reduceAdd, Nat.reduceSub, Nat.reduceLeDiff, Nat.reduceLT, Nat.reduceMul, Nat.zero_add, Nat.add_zero, Nat.mul_zero, Nat.le_refl, Nat.zero_le, Nat.one_ne_zero, Nat.zero_ne_one, reduceCtorEq, List.map_cons, List.map_nil, List.mapM_cons, List.mapM_nil, List.flatMap_cons, List.flatMap_nil, List.append_nil, List.nil_append, List.cons_append, List.drop_zero, List.drop_succ_cons, List.take_zero, List.take_succ_cons, List.take_nil, List.drop_nil, List.length_cons, List.length_nil, List.getElem?_cons_zero, List.getElem?_cons_succ, List.getElem?_nil, List.set_cons_zero, List.set_cons_succ, List.all_cons, List.all_nil, Option.bind_some, Option.bind_none, Option.map_some, Option.map_none, Option.pure_def, Option.bind_eq_bind, Bool.and_true, Bool.true_and, Bool.and_self, Bool.or_false, Bool.false_or, Bool.and_false, Bool.false_and, Bool.or_true, Bool.true_or, Bool.not_true, Bool.not_false, Bool.not_not, decide_true, decide_false, and_self, and_true, true_and, beq_self_eq_true, beq_true, beq_false, bne_self_eq_false, Int.reduceBNe, Int.reduceBEq, Int.reduceLT, Int.reduceLE, Int.reduceGT, Bool.false_eq_true, Nat.zero_lt_succ, Nat.zero_lt_one, Nat.add_assoc, Nat.left_eq_add, Nat.add_eq_left, h25]

theorem f54 (o : Option (List Ver)) (ts : Int) (hs : Sm o) (fs : Bool) (σ : Sto) (n lk : Nat) : callE T fs 54 [slV 3 verV o, .int .u64 ts] σ n lk = some (.bool (decide (lastR (lst o) < ts) && decide (ts ≤ 1099511627776)), σ, n) :=
  callE_tr (by decide) (r54 o ts hs) (by simp [Tr, Tr_slV]) rfl fs σ n lk

theorem r55 (o : Option (List Ver)) (hs : Sm o) : res T 55 [slV 3 verV o] = some (.int .i64 (idxF (fun x => x.e == 0) (lst o))) := by
  refine run_res (run_pure (fn := g55) rfl rfl (by decide) ?_)
  simp only [g55, b55]
  simp +contextual -implicitDefEqProofs (maxSteps := 2000000) only [↓wP, wQ, wQ1, wQ2, wQ3, boxE, List.take_length, partsOf, ↓reduceIte, Nat.reduceEqDiff, Nat.reduceAdd, Nat.reduceSub, Nat.reduceLeDiff, Nat.reduceLT, Nat.reduceMul, Nat.zero_add, Nat.add_zero, Nat.mul_zero, Nat.le_refl, Nat.zero_le, Nat.one_ne_zero, Nat.zero_ne_one, reduceCtorEq, List.map_cons, List.map_nil, List.mapM_cons, List.mapM_nil, List.flatMap_cons, List.flatMap_nil, List.append_nil, List.nil_append, List.cons_append, List.drop_zero, List.drop_succ_cons, List.take_zero, List.take_succ_cons, List.take_nil, List.drop_nil, List.length_cons, List.length_nil, List.getElem?_cons_zero, List.getElem?_cons_succ, List.getElem?_nil, List.set_cons_zero, List.set_cons_succ, List.all_cons, List.all_nil, Option.bind_some, Option.bind_none, Option.map_some, Option.map_none, Option.pure_def, Option.bind_eq_bind, Bool.and_true, Bool.true_and, Bool.and_self, Bool.or_false, Bool.false_or, Bool.and_false, Bool.false_and, Bool.or_true, Bool.true_or, Bool.not_true, Bool.not_false, Bool.not_not, decide_true, decide_false, and_self, and_true, true_and, beq_self_eq_true, beq_true, beq_false, bne_self_eq_false, Int.reduceBNe, Int.reduceBEq, Int.reduceLT, Int.reduceLE, Int.reduceGT, Bool.false_eq_true, Nat.zero_lt_succ, Nat.zero_lt_one, Nat.add_assoc, Nat.left_eq_add, Nat.add_eq_left]
  refine WC_for (lst o).length 0 (fun (j : Nat) env _ _ => env 5 = slV 3 verV o ∧ (lst o).findIdx? (fun x => x.e == 0) = (((lst o).drop j).findIdx? (fun x => x.e == 0)).map (· + j))
    (by have := hs.1; omega) (by decide) (by decide) (fun _ _ => rfl) (fun _ _ _ => rfl) ?_ ?_ _ _ _ rfl rfl ?_
  · intro j env σ n hj h1 h2 ⟨h3, h5⟩
    simp only [vl_tmp] at h2
    have hx : (lst o)[j]? = some (lst o)[j] := List.getElem?_eq_getElem hj
    rw [List.drop_eq_getElem_cons hj, List.findIdx?_cons] at h5
    simp +contextual -implicitDefEqProofs (maxSteps := 2000000) only [↓wP, wQ, wQ1, wQ2, wQ3, boxE, List.take_length, partsOf, ↓reduceIte, Nat.reduceEqDiff, Nat.reduceAdd, Nat.reduceSub, Nat.reduceLeDiff, Nat.reduceLT, Nat.reduceMul, Nat.zero_add, Nat.add_zero, Nat.mul_zero, Nat.le_refl, Nat.zero_le, Nat.one_ne_zero, Nat.zero_ne_one, reduceCtorEq, List.map_cons, List.map_nil, List.mapM_cons, List.mapM_nil, List.flatMap_cons, List.flatMap_nil, List.append_nil, List.nil_append, List.cons_append, List.drop_zero, List.drop_succ_cons, List.take_zero, List.take_succ_cons, List.take_nil, List.drop_nil, List.length_cons, List.length_nil, List.getElem?_cons_zero, List.getElem?_cons_succ, List.getElem?_nil, List.set_cons_zero, List.set_cons_succ, List.all_cons, List.all_nil, Option.bind_some, Option.bind_none, Option.map_some, Option.map_none, Option.pure_def, Option.bind_eq_bind, Bool.and_true, Bool.true_and, Bool.and_self, Bool.or_false, Bool.false_or, Bool.and_false, Bool.false_and, Bool.or_true, Bool.true_or, Bool.not_true, Bool.not_false, Bool.not_not, decide_true, decide_false, and_self, and_true, true_and, beq_self_eq_true, beq_true, beq_false, bne_self_eq_false, Int.reduceBNe, Int.reduceBEq, Int.reduceLT, Int.reduceLE, Int.reduceGT, Bool.false_eq_true, Nat.zero_lt_succ, Nat.zero_lt_one, Nat.add_assoc, Nat.left_eq_add, Nat.add_eq_left, h1, h2, h3, hx, verV]
    refine condC_split (fun hb => ?_) (fun hb => ?_)
    · simp +contextual -implicitDefEqProofs (maxSteps := 2000000) only [↓wP, wQ, wQ1, wQ2, wQ3, boxE, List.take_length, partsOf, ↓reduceIte, Nat.reduceEqDiff, Nat.reduceAdd, Nat.reduceSub, Nat.reduceLeDiff, Nat.reduceLT, Nat.reduceMul, Nat.zero_add, Nat.add_zero, Nat.mul_zero, Nat.le_refl, Nat.zero_le, Nat.one_ne_zero, Nat.zero_ne_one, reduceCtorEq, List.map_cons, List.map_nil, List.mapM_cons, List.mapM_nil, List.flatMap_cons, List.flatMap_nil, List.append_nil, List.nil_append, List.cons_append, List.drop_zero, List.drop_succ_cons, List.take_zero, List.take_succ_cons, List.take_nil, List.drop_nil, List.length_cons, List.length_nil, List.getElem?_cons_zero, List.getElem?_cons_succ, List.getElem?_nil, List.set_cons_zero, List.set_cons_succ, List.all_cons, List.all_nil, Option.bind_some, Option.bind_none, Option.map_some, Option.map_none, Option.pure_def, Option.bind_eq_bind, Bool.and_true, Bool.true_and, Bool.and_self, Bool.or_false, Bool.false_or, Bool.and_false, Bool.false_and, Bool.or_true, Bool.true_or, Bool.not_true, Bool.not_false, Bool.not_not, decide_true, decide_false, and_self, and_true, true_and, beq_self_eq_true, beq_true, beq_false, bne_self_eq_false, Int.reduceBNe, Int.reduceBEq, Int.reduceLT, Int.reduceLE, Int.reduceGT, Bool.false_eq_true, Nat.zero_lt_succ, Nat.zero_lt_one, Nat.add_assoc, Nat.left_eq_add, Nat.add_eq_left]
      simp [idxF, h5, hb]
    · simp +contextual -implicitDefEqProofs (maxSteps := 2000000) only [↓wP, wQ, wQ1, wQ2, wQ3, boxE, List.take_length, partsOf, ↓reduceIte, Nat.reduceEqDiff, Nat.reduceAdd, Nat.reduceSub, Nat.reduceLeDiff, Nat.reduceLT, Nat.reduceMul, Nat.zero_add, Nat.add_zero, Nat.mul_zero, Nat.le_refl, Nat.zero_le, Nat.one_ne_zero, Nat.zero_ne_one, reduceCtorEq, List.map_cons, List.map_nil, List.mapM_cons, List.mapM_nil, List.flatMap_cons, List.flatMap_nil, List.append_nil, List.nil_append, List.cons_append, List.drop_zero, List.drop_succ_cons, List.take_zero, List.take_succ_cons, List.take_nil, List.drop_nil, List.length_cons, List.length_nil, List.getElem?_cons_zero, List.getElem?_cons_succ, List.getElem?_nil, List.set_cons_zero, List.set_cons_succ, List.all_cons, List.all_nil, Option.bind_some, Option.bind_none, Option.map_some, Option.map_none, Option.pure_def, Option.bind_eq_bind, Bool.and_true, Bool.true_and, Bool.and_self, Bool.or_false, Bool.false_or, Bool.and_false, Bool.false_and, Bool.or_true, Bool.true_or, Bool.not_true, Bool.not_false, Bool.not_not, decide_true, decide_false, and_self, and_true, true_and, beq_self_eq_true, beq_true, beq_false, bne_self_eq_false, Int.reduceBNe, Int.reduceBEq, Int.reduceLT, Int.reduceLE, Int.reduceGT, Bool.false_eq_true, Nat.zero_lt_succ, Nat.zero_lt_one, Nat.add_assoc, Nat.left_eq_add, Nat.add_eq_left, h1, h2, h3]
      rw [h5, hb]
      simp only [Bool.false_eq_true, if_false, Option.map_map, Function.comp_def]
      congr 1; funext i; omega
  · intro env σ n ⟨h3, h5⟩ h1 h2
    simp +contextual -implicitDefEqProofs (maxSteps := 2000000) only [↓wP, wQ, wQ1, wQ2, wQ3, boxE, List.take_length, partsOf, ↓reduceIte, Nat.reduceEqDiff, Nat.reduceAdd, Nat.reduceSub, Nat.reduceLeDiff, Nat.reduceLT, Nat.reduceMul, Nat.zero_add, Nat.add_zero, Nat.mul_zero, Nat.le_refl, Nat.zero_le, Nat.one_ne_zero, Nat.zero_ne_one, reduceCtorEq, List.map_cons, List.map_nil, List.mapM_cons, List.mapM_nil, List.flatMap_cons, List.flatMap_nil, List.append_nil, List.nil_append, List.cons_append, List.drop_zero, List.drop_succ_cons, List.take_zero, List.take_succ_cons, List.take_nil, List.drop_nil, List.length_cons, List.length_nil, List.getElem?_cons_zero, List.getElem?_cons_succ, List.getElem?_nil, List.set_cons_zero, List.set_cons_succ, List.all_cons, List.all_nil, Option.bind_some, Option.bind_none, Option.map_some, Option.map_none, Option.pure_def, Option.bind_eq_bind, Bool.and_true, Bool.true_and, Bool.and_self, Bool.or_false, Bool.false_or, Bool.and_false, Bool.false_and, Bool.or_true, Bool.true_or, Bool.not_true, Bool.not_false, Bool.not_not, decide_true, decide_false, and_self, and_true, true_and, beq_self_eq_true, beq_true, beq_false, bne_self_eq_false, Int.reduceBNe, Int.reduceBEq, Int.reduceLT, Int.reduceLE, Int.reduceGT, Bool.false_eq_true, Nat.zero_lt_succ, Nat.zero_lt_one, Nat.add_assoc, Nat.left_eq_add, Nat.add_eq_left]
    simp [idxF, h5]
  · exact ⟨rfl, by simp⟩

theorem f55 (o : Option (List Ver)) (hs : Sm o) (fs : Bool) (σ : Sto) (n lk : Nat) : callE T fs 55 [slV 3 verV o] σ n lk = some (.int .i64 (idxF (fun x => x.e == 0) (lst o)), σ, n) :=
  callE_tr (by decide) (r55 o hs) (by simp [Tr, Tr_slV]) rfl fs σ n lk

def cpV (x : Ver) : Ver := ⟨x.b, x.e, some (lst x.v)⟩
theorem opt_snoc' {α : Type} (l : List α) (x : α) : opt (l ++ [x]) = some (l ++ [x]) := by cases l <;> rfl

theorem r14 (o : Option (List Ver)) (hf : FitC o) : res T 14 [slV 3 verV o] = some (ownC (opt ((lst o).map cpV))) := by
  refine run_res (run_own (fn := g14) rfl rfl (by decide) ?_)
  simp only [g14, b14]
  simp +contextual -implicitDefEqProofs (maxSteps := 2000000) only [↓wP, wQ, wQ1, wQ2, wQ3, boxE, List.take_length, partsOf, ↓reduceIte, Nat.reduceEqDiff, Nat.reduceAdd, Nat.reduceSub, Nat.reduceLeDiff, Nat.reduceLT, Nat.reduceMul, Nat.zero_add, Nat.add_zero, Nat.mul_zero, Nat.le_refl, Nat.zero_le, Nat.one_ne_zero, Nat.zero_ne_one, reduceCtorEq, List.map_cons, List.map_nil, List.mapM_cons, List.mapM_nil, List.flatMap_cons, List.flatMap_nil, List.append_nil, List.nil_append, List.cons_append, List.drop_zero, List.drop_succ_cons, List.take_zero, List.take_succ_cons, List.take_nil, List.drop_nil, List.length_cons, List.length_nil, List.getElem?_cons_zero, List.getElem?_cons_succ, List.getElem?_nil, List.set_cons_zero, List.set_cons_succ, List.all_cons, List.all_nil, Option.bind_some, Option.bind_none, Option.map_some, Option.map_none, Option.pure_def, Option.bind_eq_bind, Bool.and_true, Bool.true_and, Bool.and_self, Bool.or_false, Bool.false_or, Bool.and_false, Bool.false_and, Bool.or_true, Bool.true_or, Bool.not_true, Bool.not_false, Bool.not_not, decide_true, decide_false, and_self, and_true, true_and, beq_self_eq_true, beq_true, beq_false, bne_self_eq_false, Int.reduceBNe, Int.reduceBEq, Int.reduceLT, Int.reduceLE, Int.reduceGT, Bool.false_eq_true, Nat.zero_lt_succ, Nat.zero_lt_one, Nat.add_assoc, Nat.left_eq_add, Nat.add_eq_left]
  refine WC_for (lst o).length 0 (fun (j : Nat) env σ n => env 6 = slV 3 verV o ∧ Chn σ 0 n (env 3) (opt (((lst o).take j).map cpV)))
    (by have := hf.1; unfold LIM at this; omega) (by decide) (by decide) (fun _ _ => rfl) (fun _ _ _ => rfl) ?_ ?_ _ _ _ rfl rfl ?_
  · intro j env σ n hj h1 h2 ⟨h3, h4⟩
    simp only [vl_tmp] at h2
    have hx : (lst o)[j]? = some (lst o)[j] := List.getElem?_eq_getElem hj
    generalize hv3 : env 3 = v3 at h4
    have hfit := hf.2 _ (List.getElem_mem hj)
    have hlim : ((lst (lst o)[j].v).map i32V).length * 4 ≤ LIM := by simpa [Fit] using hfit
    have k1 : Chn (upd (upd (upd (upd (upd (upd (upd σ n (some (.row 3 [.agg [.int .u64 0, .int .u64 0, .nilS]]))) n (some (.row 3 [.agg [.int .u64 (lst o)[j].b, .int .u64 (lst o)[j].e, slV 1 i32V (lst o)[j].v]]))) (n + 1) (some (.row 1 []))) (n + 1) none) (n + 2) (some (.row 1 ((lst (lst o)[j].v).map i32V)))) n (some (.row 3 [.agg [.int .u64 (lst o)[j].b, .int .u64 (lst o)[j].e, .ref (n + 2) 0 ((lst (lst o)[j].v).map i32V).length 1]])))
        (n + 3) (some (.row 3 [.agg [.int .u64 (lst o)[j].b, .int .u64 (lst o)[j].e, .ref (n + 2) 0 ((lst (lst o)[j].v).map i32V).length 1]]))) 0 n v3 (opt (((lst o).take j).map cpV)) := by
      refine h4.loc (fun i _ hi => ?_) (Nat.le_refl _) (Nat.le_refl _)
      have a1 : i ≠ n := by omega
      have a2 : i ≠ n + 1 := by omega
      have a3 : i ≠ n + 2 := by omega
      have a4 : i ≠ n + 3 := by omega
      simp only [upd_get, a1, a2, a3, a4, if_false]
    obtain ⟨v2, σ2, e1, e2, e3, e4, e5⟩ := k1.append (y := cpV (lst o)[j]) (lab := n + 4) (i := n + 2) (by omega) (by omega) (by omega) (by omega) (by
      simp only [upd_get]
      simp [cpV, lst]) (by
      rw [lst_opt, List.length_map, List.length_take]
      have := hf.1
      refine Nat.le_trans (Nat.mul_le_mul_right 40 ?_) this
      omega)
    rw [show erow (cpV (lst o)[j]) (n + 2) = .agg [.int .u64 (lst o)[j].b, .int .u64 (lst o)[j].e, .ref (n + 2) 0 ((lst (lst o)[j].v).map i32V).length 1] from by rw [List.length_map]; rfl] at e1
    simp +contextual -implicitDefEqProofs (maxSteps := 2000000) only [↓wP, wQ, wQ1, wQ2, wQ3, boxE, List.take_length, partsOf, ↓reduceIte, Nat.reduceEqDiff, Nat.reduceAdd, Nat.reduceSub, Nat.reduceLeDiff, Nat.reduceLT, Nat.reduceMul, Nat.zero_add, Nat.add_zero, Nat.mul_zero, Nat.le_refl, Nat.zero_le, Nat.one_ne_zero, Nat.zero_ne_one, reduceCtorEq, List.map_cons, List.map_nil, List.mapM_cons, List.mapM_nil, List.flatMap_cons, List.flatMap_nil, List.append_nil, List.nil_append, List.cons_append, List.drop_zero, List.drop_succ_cons, List.take_zero, List.take_succ_cons, List.take_nil, List.drop_nil, List.length_cons, List.length_nil, List.getElem?_cons_zero, List.getElem?_cons_succ, List.getElem?_nil, List.set_cons_zero, List.set_cons_succ, List.all_cons, List.all_nil, Option.bind_some, Option.bind_none, Option.map_some, Option.map_none, Option.pure_def, Option.bind_eq_bind, Bool.and_true, Bool.true_and, Bool.and_self, Bool.or_false, Bool.false_or, Bool.and_false, Bool.false_and, Bool.or_true, Bool.true_or, Bool.not_true, Bool.not_false, Bool.not_not, decide_true, decide_false, and_self, and_true, true_and, beq_self_eq_true, beq_true, beq_false, bne_self_eq_false, Int.reduceBNe, Int.reduceBEq, Int.reduceLT, Int.reduceLE, Int.reduceGT, Bool.false_eq_true, Nat.zero_lt_succ, Nat.zero_lt_one, Nat.add_assoc, Nat.left_eq_add, Nat.add_eq_left, h1, h2, h3, hv3, hx, verV, hlim, e1]
    rw [← List.take_append_getElem hj, List.map_append, List.map_cons, List.map_nil, opt_snoc']
    have e6 := e4 σ2 (fun _ _ => rfl)
    rw [lst_opt] at e6
    exact e6
  · intro env σ n ⟨h3, h4⟩ h1 h2
    rw [List.take_length] at h4
    simp +contextual -implicitDefEqProofs (maxSteps := 2000000) only [↓wP, wQ, wQ1, wQ2, wQ3, boxE, List.take_length, partsOf, ↓reduceIte, Nat.reduceEqDiff, Nat.reduceAdd, Nat.reduceSub, Nat.reduceLeDiff, Nat.reduceLT, Nat.reduceMul, Nat.zero_add, Nat.add_zero, Nat.mul_zero, Nat.le_refl, Nat.zero_le, Nat.one_ne_zero, Nat.zero_ne_one, reduceCtorEq, List.map_cons, List.map_nil, List.mapM_cons, List.mapM_nil, List.flatMap_cons, List.flatMap_nil, List.append_nil, List.nil_append, List.cons_append, List.drop_zero, List.drop_succ_cons, List.take_zero, List.take_succ_cons, List.take_nil, List.drop_nil, List.length_cons, List.length_nil, List.getElem?_cons_zero, List.getElem?_cons_succ, List.getElem?_nil, List.set_cons_zero, List.set_cons_succ, List.all_cons, List.all_nil, Option.bind_some, Option.bind_none, Option.map_some, Option.map_none, Option.pure_def, Option.bind_eq_bind, Bool.and_true, Bool.true_and, Bool.and_self, Bool.or_false, Bool.false_or, Bool.and_false, Bool.false_and, Bool.or_true, Bool.true_or, Bool.not_true, Bool.not_false, Bool.not_not, decide_true, decide_false, and_self, and_true, true_and, beq_self_eq_true, beq_true, beq_false, bne_self_eq_false, Int.reduceBNe, Int.reduceBEq, Int.reduceLT, Int.reduceLE, Int.reduceGT, Bool.false_eq_true, Nat.zero_lt_succ, Nat.zero_lt_one, Nat.add_assoc, Nat.left_eq_add, Nat.add_eq_left]
    have := h4.giv 9
    exact ⟨this.1, this.2.1⟩
  · exact ⟨rfl, rfl⟩

theorem all_cp (L : List Ver) : AllS (L.map cpV) := fun x hx => by
  obtain ⟨y, -, rfl⟩ := List.mem_map.1 hx
  rfl

/-- The last one of a chain in the store. -/
theorem Chn.last {σ : Sto} {m n : Nat} {v : V} {A : List Ver} {x : Ver} (h : Chn σ m n v (some (A ++ [x]))) :
    ∃ (id : Nat) (rows : List V) (w : V), v = .ref id 0 (A.length + 1) 3 ∧ σ id = some (.row 3 rows) ∧ rows[A.length]? = some (.agg [.int .u64 x.b, .int .u64 x.e, w]) ∧ w.one = true ∧ m ≤ id ∧ id < n ∧
      ∀ (ts : Int) (σ2 : Sto), σ2 id = some (.row 3 (rows.set A.length (.agg [.int .u64 x.b, .int .u64 ts, w]))) → (∀ i, i ≠ id → i < n → σ2 i = σ i) → Chn σ2 m n v (some (A ++ [⟨x.b, ts, x.v⟩])) := by
  obtain ⟨id, ids, rfl, h1, h2, h3, h4⟩ := h
  have hidl : ids.length = A.length + 1 := by rw [h4.1]; simp
  obtain ⟨B, i, rfl⟩ : ∃ B i, ids = B ++ [i] := by
    rcases List.eq_nil_or_concat ids with rfl | ⟨B, i, rfl⟩
    · simp at hidl
    · exact ⟨B, i, by simp⟩
  have hB : B.length = A.length := by simpa using hidl
  have hz : (A.zipWith erow B).length = A.length := by simp [hB]
  have hrows : (A ++ [x]).zipWith erow (B ++ [i]) = A.zipWith erow B ++ [erow x i] := by rw [List.zipWith_append (by rw [hB])]; rfl
  rw [hrows] at h1
  refine ⟨id, _, vref i x, by simp, h1, ?_, rfl, (h3 id (by simp)).1, (h3 id (by simp)).2, fun ts σ2 k1 k2 => ?_⟩
  · rw [List.getElem?_append_right (by omega), hz, Nat.sub_self]; rfl
  · refine ⟨id, B ++ [i], by simp, ?_, h2, h3, ?_⟩
    · rw [k1, set_mid _ _ _ _ _ hz, List.zipWith_append (by rw [hB])]
      rfl
    · refine ⟨by simp [hB], fun j y k hy hk => ?_⟩
      have hkm := List.mem_of_getElem? hk
      have hkid : k ≠ id := fun e => by
        subst e
        exact (List.nodup_cons.1 h2).1 hkm
      rw [k2 k hkid (h3 k (List.mem_cons_of_mem _ hkm)).2]
      rw [List.getElem?_append] at hy
      split at hy <;> rename_i hj
      · exact h4.2 j y k (by rw [List.getElem?_append_left hj]; exact hy) hk
      · have hj0 : j - A.length = 0 := by
          rcases Nat.eq_zero_or_pos (j - A.length) with h | h
          · exact h
          · rw [List.getElem?_eq_none (by simp; omega)] at hy; cases hy
        rw [hj0] at hy
        simp only [List.getElem?_cons_zero, Option.some.injEq] at hy
        subst hy
        exact h4.2 j x k (by rw [List.getElem?_append_right (by omega), hj0]; rfl) hk

/-- Where the open one stands. -/
theorem open_idx {d : Int} : ∀ {L : Int} {l : List Ver}, chk d L l = true → idxF (fun x => x.e == 0) l = if openL l = true then ((l.length - 1 : Nat) : Int) else -1
  | _, [], _ => rfl
  | L, x :: xs, h => by
    rw [chk, okVer_one] at h
    simp only [Bool.and_eq_true, Bool.or_eq_true, Bool.not_eq_true', beq_eq_false_iff_ne] at h
    obtain ⟨⟨⟨h1, h2⟩, h3⟩, h4⟩ := h
    have ih := open_idx h4
    cases xs with
    | nil =>
      by_cases he : x.e = 0
      · simp [idxF, openL, he]
      · simp [idxF, openL, he, List.findIdx?_cons]
    | cons y ys =>
      simp only [List.isEmpty_cons, Bool.false_eq_true, or_false] at h3
      have ho : openL (x :: y :: ys) = openL (y :: ys) := by simp [openL]
      rw [ho]
      unfold idxF at ih ⊢
      rw [List.findIdx?_cons]
      have he : (x.e == 0) = false := by simpa using h3
      rw [he]
      simp only [Bool.false_eq_true, if_false]
      cases hf : (y :: ys).findIdx? (fun x => x.e == 0) with
      | none =>
        rw [hf] at ih
        simp only [Option.map_none] at ih ⊢
        cases hb : openL (y :: ys) <;> rw [hb] at ih <;> simp at ih ⊢
      | some i =>
        rw [hf] at ih
        simp only [Option.map_some] at ih ⊢
        cases hb : openL (y :: ys) <;> rw [hb] at ih <;> simp at ih ⊢ <;> omega

end Go.Q.S3
end

section
/- The document's Put. -/
set_option linter.unusedSimpArgs false
set_option linter.unusedVariables false
namespace Go.Q.S3
open Go.Q

/-- What the document's Put leaves of a chain that may be. -/
def refC (o : Option (List Ver)) (ts : Int) (l : List Int) : Option (List Ver) :=
  if lastR (lst o) < ts ∧ ts ≤ 1099511627776 ∧ putN o l = 0 then some (closeL ts ((lst o).map cpV) ++ [⟨ts, 0, some l⟩]) else none
def refE (o : Option (List Ver)) (ts : Int) (l : List Int) : Int := if lastR (lst o) < ts ∧ ts ≤ 1099511627776 then putN o l else 181

theorem close_len (ts : Int) (L : List Ver) : (closeL ts L).length = L.length := by
  unfold closeL
  rcases List.eq_nil_or_concat L with rfl | ⟨A, x, rfl⟩
  · rfl
  · rw [List.concat_eq_append]
    simp only [List.getLast?_append, List.getLast?_singleton, Option.some_or]
    split <;> simp
theorem close_all {ts : Int} {L : List Ver} (h : AllS L) : AllS (closeL ts L) := by
  unfold closeL
  split
  · rename_i x hx
    split
    · intro y hy
      rcases List.mem_append.1 hy with hy | hy
      · exact h y ((List.dropLast_sublist L).subset hy)
      · rw [List.mem_singleton.1 hy]
        exact h x (List.mem_of_getLast? hx)
    · exact h
  · exact h

theorem opt_some {α : Type} {A : List α} (h : A ≠ []) : opt A = some A := by cases A <;> simp_all [opt]

/-- The last step of the document's Put. -/
theorem app36 {σ : Sto} {n n0 : Nat} {v : V} {o : Option (List Ver)} {ts : Int} {l : List Int} (hf : ((lst o).length + 1) * 40 ≤ LIM) (hc : Chn σ 0 n0 v o) (hn : n0 ≤ n) :
    ∃ v2 σ2, appendE 3 40 0 v (some [.agg [.int .u64 ts, .int .u64 0, .ref (n + 1) 0 (l.map i32V).length 1]])
      (upd (upd (upd (upd σ n (some (.row 1 []))) n none) (n + 1) (some (.row 1 (l.map i32V)))) (n + 2) (some (.row 3 [.agg [.int .u64 ts, .int .u64 0, .ref (n + 1) 0 (l.map i32V).length 1]]))) (n + 3) = some (v2, σ2, n + 4) ∧
      Chn σ2 0 (n + 4) v2 (some (lst o ++ [⟨ts, 0, some l⟩])) := by
  have k1 : Chn (upd (upd (upd (upd σ n (some (.row 1 []))) n none) (n + 1) (some (.row 1 (l.map i32V)))) (n + 2) (some (.row 3 [.agg [.int .u64 ts, .int .u64 0, .ref (n + 1) 0 (l.map i32V).length 1]]))) 0 n0 v o := by
    refine hc.loc (fun i _ hi => ?_) (Nat.le_refl _) (Nat.le_refl _)
    have a1 : i ≠ n := by omega
    have a2 : i ≠ n + 1 := by omega
    have a3 : i ≠ n + 2 := by omega
    simp only [upd_get, a1, a2, a3, if_false]
  obtain ⟨v2, σ2, e1, e2, e3, e4, e5⟩ := k1.append (y := ⟨ts, 0, some l⟩) (lab := n + 3) (i := n + 1) (by omega) (by omega) (by omega) (by omega) (by
    simp only [upd_get]
    simp [lst]) hf
  rw [show erow ⟨ts, 0, some l⟩ (n + 1) = .agg [.int .u64 ts, .int .u64 0, .ref (n + 1) 0 (l.map i32V).length 1] from by rw [List.length_map]; rfl] at e1
  exact ⟨v2, σ2, e1, e4 σ2 (fun _ _ => rfl)⟩

theorem chk_cp {d : Int} : ∀ {L : Int} {l : List Ver}, chk d L l = true → chk d L (l.map cpV) = true
  | _, [], _ => rfl
  | L, x :: xs, h => by
    rw [chk, Bool.and_eq_true] at h
    rw [List.map_cons, chk, show (cpV x).e = x.e from rfl, chk_cp h.2, Bool.and_true, ← h.1]
    cases xs <;> rfl

theorem frz_pair {σ : Sto} {m n : Nat} {v : V} {o : Option (List Ver)} (h : Chn σ m n v o) (ha : AllS (lst o)) (e : Int) : Go.Q.frz σ 12 (.tup [v, .int .i64 e]) = some (.tup [slV 3 verV o, .int .i64 e]) := by
  simp only [Go.Q.frz, List.mapM_cons, List.mapM_nil, h.frz ha 8]
  rfl

theorem r36 (o : Option (List Ver)) (ts : Int) (l : List Int) (hs : Sm o) (hf : FitC o) (hf' : ((lst o).length + 1) * 40 ≤ LIM) (hl : l.length * 4 ≤ LIM) (hc : okC o = true) : res T 36 [slV 3 verV o, .int .u64 ts, slV 1 i32V (some l)] = some (.tup [slV 3 verV (refC o ts l), .int .i64 (refE o ts l)]) := by
  refine run_res (run_pure (fn := g36) rfl rfl (by decide) ?_)
  simp only [g36, b36]
  have h54 := f54 o ts hs
  have h40 := f40 (some l) (by rw [lst_some]; unfold LIM at hl; omega)
  have hlim : (l.map i32V).length * 4 ≤ LIM := by simpa using hl
  by_cases ht : lastR (lst o) < ts ∧ ts ≤ 1099511627776
  · have hT : (decide (lastR (lst o) < ts) && decide (ts ≤ 1099511627776)) = true := by simpa using ht
    have e0 : refE o ts l = putN o l := by unfold refE; rw [if_pos ht]
    rw [hT] at h54
    rw [e0]
    cases hok : okV (some l)
    · have e1 : putN o l = 150 := by simp [putN, hok]
      have e2 : refC o ts l = none := by unfold refC; rw [if_neg]; omega
      rw [hok] at h40
      rw [e1, e2]
      simp +contextual -implicitDefEqProofs (maxSteps := 2000000) only [↓wP, wQ, wQ1, wQ2, wQ3, boxE, List.take_length, partsOf, ↓reduceIte, Nat.reduceEqDiff, Nat.reduceAdd, Nat.reduceSub, Nat.reduceLeDiff, Nat.reduceLT, Nat.reduceMul, Nat.zero_add, Nat.add_zero, Nat.mul_zero, Nat.le_refl, Nat.zero_le, Nat.one_ne_zero, Nat.zero_ne_one, reduceCtorEq, List.map_cons, List.map_nil, List.mapM_cons, List.mapM_nil, List.flatMap_cons, List.flatMap_nil, List.append_nil, List.nil_append, List.cons_append, List.drop_zero, List.drop_succ_cons, List.take_zero, List.take_succ_cons, List.take_nil, List.drop_nil, List.length_cons, List.length_nil, List.getElem?_cons_zero, List.getElem?_cons_succ, List.getElem?_nil, List.set_cons_zero, List.set_cons_succ, List.all_cons, List.all_nil, Option.bind_some, Option.bind_none, Option.map_some, Option.map_none, Option.pure_def, Option.bind_eq_bind, Bool.and_true, Bool.true_and, Bool.and_self, Bool.or_false, Bool.false_or, Bool.and_false, Bool.false_and, Bool.or_true, Bool.true_or, Bool.not_true, Bool.not_false, Bool.not_not, decide_true, decide_false, and_self, and_true, true_and, beq_self_eq_true, beq_true, beq_false, bne_self_eq_false, Int.reduceBNe, Int.reduceBEq, Int.reduceLT, Int.reduceLE, Int.reduceGT, Bool.false_eq_true, Nat.zero_lt_succ, Nat.zero_lt_one, Nat.add_assoc, Nat.left_eq_add, Nat.add_eq_left, h54, h40, slV_none]
    · rw [hok] at h40
      have hdims : ((∃ x, (lst o)[0]? = some x ∧ dimP o l = ((lst x.v).length : Int)) ∧ 0 < (lst o).length) ∨ (¬ 0 < (lst o).length ∧ dimP o l = (l.length : Int)) := by
        cases hl0 : lst o with
        | nil => right; simp [dimP, hl0]
        | cons x xs => left; exact ⟨⟨x, rfl, by simp [dimP, hl0]⟩, by simp⟩
      by_cases hdm : (l.length : Int) = dimP o l
      · have hne : (decide ((0 : Int) < ((lst o).length : Int)) = true ∧ ∃ x, (lst o)[0]? = some x ∧ (((lst x.v).length : Int) != (l.length : Int)) = false) ∨ decide ((0 : Int) < ((lst o).length : Int)) = false := by
          rcases hdims with ⟨⟨x, h1, h2⟩, h3⟩ | ⟨h1, h2⟩
          · left; exact ⟨decide_eq_true (by omega), x, h1, by rw [← h2, ← hdm]; simp⟩
          · right; exact decide_eq_false (by omega)
        by_cases h96 : (lst o).length = 96
        · have e1 : putN o l = 6 := by simp [putN, hok, hdm, h96]
          have e2 : refC o ts l = none := by unfold refC; rw [if_neg]; omega
          have hd6 : (((lst o).length : Int) == 96) = true := by simp; omega
          rw [e1, e2]
          rcases hne with ⟨hd, x, hx, hx2⟩ | hd
          · simp +contextual -implicitDefEqProofs (maxSteps := 2000000) only [↓wP, wQ, wQ1, wQ2, wQ3, boxE, List.take_length, partsOf, ↓reduceIte, Nat.reduceEqDiff, Nat.reduceAdd, Nat.reduceSub, Nat.reduceLeDiff, Nat.reduceLT, Nat.reduceMul, Nat.zero_add, Nat.add_zero, Nat.mul_zero, Nat.le_refl, Nat.zero_le, Nat.one_ne_zero, Nat.zero_ne_one, reduceCtorEq, List.map_cons, List.map_nil, List.mapM_cons, List.mapM_nil, List.flatMap_cons, List.flatMap_nil, List.append_nil, List.nil_append, List.cons_append, List.drop_zero, List.drop_succ_cons, List.take_zero, List.take_succ_cons, List.take_nil, List.drop_nil, List.length_cons, List.length_nil, List.getElem?_cons_zero, List.getElem?_cons_succ, List.getElem?_nil, List.set_cons_zero, List.set_cons_succ, List.all_cons, List.all_nil, Option.bind_some, Option.bind_none, Option.map_some, Option.map_none, Option.pure_def, Option.bind_eq_bind, Bool.and_true, Bool.true_and, Bool.and_self, Bool.or_false, Bool.false_or, Bool.and_false, Bool.false_and, Bool.or_true, Bool.true_or, Bool.not_true, Bool.not_false, Bool.not_not, decide_true, decide_false, and_self, and_true, true_and, beq_self_eq_true, beq_true, beq_false, bne_self_eq_false, Int.reduceBNe, Int.reduceBEq, Int.reduceLT, Int.reduceLE, Int.reduceGT, Bool.false_eq_true, Nat.zero_lt_succ, Nat.zero_lt_one, Nat.add_assoc, Nat.left_eq_add, Nat.add_eq_left, h54, h40, hd, hx, verV, lst_some, hx2, hd6, slV_none]
          · simp +contextual -implicitDefEqProofs (maxSteps := 2000000) only [↓wP, wQ, wQ1, wQ2, wQ3, boxE, List.take_length, partsOf, ↓reduceIte, Nat.reduceEqDiff, Nat.reduceAdd, Nat.reduceSub, Nat.reduceLeDiff, Nat.reduceLT, Nat.reduceMul, Nat.zero_add, Nat.add_zero, Nat.mul_zero, Nat.le_refl, Nat.zero_le, Nat.one_ne_zero, Nat.zero_ne_one, reduceCtorEq, List.map_cons, List.map_nil, List.mapM_cons, List.mapM_nil, List.flatMap_cons, List.flatMap_nil, List.append_nil, List.nil_append, List.cons_append, List.drop_zero, List.drop_succ_cons, List.take_zero, List.take_succ_cons, List.take_nil, List.drop_nil, List.length_cons, List.length_nil, List.getElem?_cons_zero, List.getElem?_cons_succ, List.getElem?_nil, List.set_cons_zero, List.set_cons_succ, List.all_cons, List.all_nil, Option.bind_some, Option.bind_none, Option.map_some, Option.map_none, Option.pure_def, Option.bind_eq_bind, Bool.and_true, Bool.true_and, Bool.and_self, Bool.or_false, Bool.false_or, Bool.and_false, Bool.false_and, Bool.or_true, Bool.true_or, Bool.not_true, Bool.not_false, Bool.not_not, decide_true, decide_false, and_self, and_true, true_and, beq_self_eq_true, beq_true, beq_false, bne_self_eq_false, Int.reduceBNe, Int.reduceBEq, Int.reduceLT, Int.reduceLE, Int.reduceGT, Bool.false_eq_true, Nat.zero_lt_succ, Nat.zero_lt_one, Nat.add_assoc, Nat.left_eq_add, Nat.add_eq_left, h54, h40, hd, lst_some, hd6, slV_none]
        · have e1 : putN o l = 0 := by simp [putN, hok, hdm, h96]
          have e2 : refC o ts l = some (closeL ts ((lst o).map cpV) ++ [⟨ts, 0, some l⟩]) := by unfold refC; rw [if_pos ⟨ht.1, ht.2, e1⟩]
          have hd6 : (((lst o).length : Int) == 96) = false := by simp; omega
          rw [e1, e2]
          obtain ⟨v', σ', n', a1, a2, a3, a4⟩ := thaw_ownC Sto.empty 0 (opt ((lst o).map cpV))
          have h14 := callE_thaw (by decide) (r14 o hf) (by simp [Tr, Tr_slV]) true Sto.empty 0 0
          rw [a1] at h14
          have hcp : AllS (lst (opt ((lst o).map cpV))) := by rw [lst_opt]; exact all_cp _
          have hfr := a2.frz hcp 9
          have hm55 : T.mode 55 ≠ .raw := by decide
          have h55 := r55 (opt ((lst o).map cpV)) ⟨by rw [lst_opt, List.length_map]; exact hs.1, fun x hx => by
            rw [lst_opt] at hx; obtain ⟨y, hy, rfl⟩ := List.mem_map.1 hx; exact hs.2 y hy⟩
          unfold okC at hc
          rw [Bool.and_eq_true] at hc
          rw [lst_opt, open_idx (chk_cp hc.2)] at h55
          have hfa : ∀ L : List Ver, AllS L → AllS (L ++ [⟨ts, 0, some l⟩]) := fun L hL x hx => by
            rcases List.mem_append.1 hx with hx | hx
            · exact hL x hx
            · rw [List.mem_singleton.1 hx]; rfl
          cases ho : openL ((lst o).map cpV)
          · rw [ho] at h55
            have e3 : closeL ts ((lst o).map cpV) = (lst o).map cpV := by
              unfold closeL
              unfold openL at ho
              split
              · rename_i x hx
                rw [hx] at ho
                rw [if_neg (by simpa using ho)]
              · rfl
            rw [e3]
            obtain ⟨v2, σ2, b1, b2⟩ := app36 (ts := ts) (l := l) (n := n') (o := opt ((lst o).map cpV)) (by rw [lst_opt, List.length_map]; exact hf') a2 (Nat.le_refl _)
            rw [lst_opt] at b2
            have hend := b2.frz (hfa _ (all_cp _)) 8
            have hm1 : decide ((0 : Int) ≤ -1) = false := rfl
            rcases hne with ⟨hd, x, hx, hx2⟩ | hd
            · simp +contextual -implicitDefEqProofs (maxSteps := 2000000) only [↓wP, wQ, wQ1, wQ2, wQ3, boxE, List.take_length, partsOf, ↓reduceIte, Nat.reduceEqDiff, Nat.reduceAdd, Nat.reduceSub, Nat.reduceLeDiff, Nat.reduceLT, Nat.reduceMul, Nat.zero_add, Nat.add_zero, Nat.mul_zero, Nat.le_refl, Nat.zero_le, Nat.one_ne_zero, Nat.zero_ne_one, reduceCtorEq, List.map_cons, List.map_nil, List.mapM_cons, List.mapM_nil, List.flatMap_cons, List.flatMap_nil, List.append_nil, List.nil_append, List.cons_append, List.drop_zero, List.drop_succ_cons, List.take_zero, List.take_succ_cons, List.take_nil, List.drop_nil, List.length_cons, List.length_nil, List.getElem?_cons_zero, List.getElem?_cons_succ, List.getElem?_nil, List.set_cons_zero, List.set_cons_succ, List.all_cons, List.all_nil, Option.bind_some, Option.bind_none, Option.map_some, Option.map_none, Option.pure_def, Option.bind_eq_bind, Bool.and_true, Bool.true_and, Bool.and_self, Bool.or_false, Bool.false_or, Bool.and_false, Bool.false_and, Bool.or_true, Bool.true_or, Bool.not_true, Bool.not_false, Bool.not_not, decide_true, decide_false, and_self, and_true, true_and, beq_self_eq_true, beq_true, beq_false, bne_self_eq_false, Int.reduceBNe, Int.reduceBEq, Int.reduceLT, Int.reduceLE, Int.reduceGT, Bool.false_eq_true, Nat.zero_lt_succ, Nat.zero_lt_one, Nat.add_assoc, Nat.left_eq_add, Nat.add_eq_left, h54, h40, hd, hx, verV, lst_some, hx2, hd6, h14, callE_eq hm55, hfr, h55, hm1, hlim, b1, hend]
            · simp +contextual -implicitDefEqProofs (maxSteps := 2000000) only [↓wP, wQ, wQ1, wQ2, wQ3, boxE, List.take_length, partsOf, ↓reduceIte, Nat.reduceEqDiff, Nat.reduceAdd, Nat.reduceSub, Nat.reduceLeDiff, Nat.reduceLT, Nat.reduceMul, Nat.zero_add, Nat.add_zero, Nat.mul_zero, Nat.le_refl, Nat.zero_le, Nat.one_ne_zero, Nat.zero_ne_one, reduceCtorEq, List.map_cons, List.map_nil, List.mapM_cons, List.mapM_nil, List.flatMap_cons, List.flatMap_nil, List.append_nil, List.nil_append, List.cons_append, List.drop_zero, List.drop_succ_cons, List.take_zero, List.take_succ_cons, List.take_nil, List.drop_nil, List.length_cons, List.length_nil, List.getElem?_cons_zero, List.getElem?_cons_succ, List.getElem?_nil, List.set_cons_zero, List.set_cons_succ, List.all_cons, List.all_nil, Option.bind_some, Option.bind_none, Option.map_some, Option.map_none, Option.pure_def, Option.bind_eq_bind, Bool.and_true, Bool.true_and, Bool.and_self, Bool.or_false, Bool.false_or, Bool.and_false, Bool.false_and, Bool.or_true, Bool.true_or, Bool.not_true, Bool.not_false, Bool.not_not, decide_true, decide_false, and_self, and_true, true_and, beq_self_eq_true, beq_true, beq_false, bne_self_eq_false, Int.reduceBNe, Int.reduceBEq, Int.reduceLT, Int.reduceLE, Int.reduceGT, Bool.false_eq_true, Nat.zero_lt_succ, Nat.zero_lt_one, Nat.add_assoc, Nat.left_eq_add, Nat.add_eq_left, h54, h40, hd, lst_some, hd6, h14, callE_eq hm55, hfr, h55, hm1, hlim, b1, hend]
          · rw [ho] at h55
            obtain ⟨A, x, hA⟩ : ∃ A x, (lst o).map cpV = A ++ [x] := by
              rcases List.eq_nil_or_concat ((lst o).map cpV) with hnil | ⟨A, x, hA⟩
              · rw [hnil] at ho; simp [openL] at ho
              · exact ⟨A, x, by rw [hA, List.concat_eq_append]⟩
            have hlenA : A.length + 1 = (lst o).length := by
              have := congrArg List.length hA
              simpa using this.symm
            have hcpA := all_cp (lst o)
            rw [hA] at ho h55 hfr a2 hcpA ⊢
            have hxe : x.e = 0 := by simpa [openL] using ho
            have e3 : closeL ts (A ++ [x]) = A ++ [⟨x.b, ts, x.v⟩] := by simp [closeL, hxe]
            rw [e3]
            rw [opt_snoc'] at a2
            obtain ⟨id, rows, w, hv', hσ, hrow, hw, hm, hn, hset⟩ := a2.last
            have hidx : (A ++ [x]).length - 1 = A.length := by simp
            rw [hidx, if_pos rfl] at h55
            have hia : iaddrE 3 v' (.int .i64 (A.length : Int)) = some (.ptr id 3 A.length 0) := by rw [hv', iaddrE_ref, if_pos (by omega), Nat.zero_add]
            have hm1 : decide ((0 : Int) ≤ (A.length : Int)) = true := decide_eq_true (by omega)
            have kx := hset ts (upd σ' id (some (.row 3 (rows.set A.length (.agg [.int .u64 x.b, .int .u64 ts, w]))))) (by simp [upd]) (fun i hi _ => by simp [upd, hi])
            obtain ⟨v2, σ2, b1, b2⟩ := app36 (ts := ts) (l := l) (n := n') (by rw [lst_some, List.length_append, List.length_singleton, hlenA]; exact hf') kx (Nat.le_refl _)
            have hall : AllS (A ++ [⟨x.b, ts, x.v⟩]) := fun y hy => by
              rcases List.mem_append.1 hy with hy | hy
              · exact hcpA y (List.mem_append_left _ hy)
              · rw [List.mem_singleton.1 hy]
                exact hcpA x (by simp)
            have hend := b2.frz (hfa _ hall) 8
            rcases hne with ⟨hd, y, hx, hx2⟩ | hd
            · simp +contextual -implicitDefEqProofs (maxSteps := 2000000) only [↓wP, wQ, wQ1, wQ2, wQ3, boxE, List.take_length, partsOf, ↓reduceIte, Nat.reduceEqDiff, Nat.reduceAdd, Nat.reduceSub, Nat.reduceLeDiff, Nat.reduceLT, Nat.reduceMul, Nat.zero_add, Nat.add_zero, Nat.mul_zero, Nat.le_refl, Nat.zero_le, Nat.one_ne_zero, Nat.zero_ne_one, reduceCtorEq, List.map_cons, List.map_nil, List.mapM_cons, List.mapM_nil, List.flatMap_cons, List.flatMap_nil, List.append_nil, List.nil_append, List.cons_append, List.drop_zero, List.drop_succ_cons, List.take_zero, List.take_succ_cons, List.take_nil, List.drop_nil, List.length_cons, List.length_nil, List.getElem?_cons_zero, List.getElem?_cons_succ, List.getElem?_nil, List.set_cons_zero, List.set_cons_succ, List.all_cons, List.all_nil, Option.bind_some, Option.bind_none, Option.map_some, Option.map_none, Option.pure_def, Option.bind_eq_bind, Bool.and_true, Bool.true_and, Bool.and_self, Bool.or_false, Bool.false_or, Bool.and_false, Bool.false_and, Bool.or_true, Bool.true_or, Bool.not_true, Bool.not_false, Bool.not_not, decide_true, decide_false, and_self, and_true, true_and, beq_self_eq_true, beq_true, beq_false, bne_self_eq_false, Int.reduceBNe, Int.reduceBEq, Int.reduceLT, Int.reduceLE, Int.reduceGT, Bool.false_eq_true, Nat.zero_lt_succ, Nat.zero_lt_one, Nat.add_assoc, Nat.left_eq_add, Nat.add_eq_left, h54, h40, hd, hx, verV, lst_some, hx2, hd6, h14, callE_eq hm55, hfr, h55, hm1, hia, hσ, hrow, hw, hlim, b1, hend]
            · simp +contextual -implicitDefEqProofs (maxSteps := 2000000) only [↓wP, wQ, wQ1, wQ2, wQ3, boxE, List.take_length, partsOf, ↓reduceIte, Nat.reduceEqDiff, Nat.reduceAdd, Nat.reduceSub, Nat.reduceLeDiff, Nat.reduceLT, Nat.reduceMul, Nat.zero_add, Nat.add_zero, Nat.mul_zero, Nat.le_refl, Nat.zero_le, Nat.one_ne_zero, Nat.zero_ne_one, reduceCtorEq, List.map_cons, List.map_nil, List.mapM_cons, List.mapM_nil, List.flatMap_cons, List.flatMap_nil, List.append_nil, List.nil_append, List.cons_append, List.drop_zero, List.drop_succ_cons, List.take_zero, List.take_succ_cons, List.take_nil, List.drop_nil, List.length_cons, List.length_nil, List.getElem?_cons_zero, List.getElem?_cons_succ, List.getElem?_nil, List.set_cons_zero, List.set_cons_succ, List.all_cons, List.all_nil, Option.bind_some, Option.bind_none, Option.map_some, Option.map_none, Option.pure_def, Option.bind_eq_bind, Bool.and_true, Bool.true_and, Bool.and_self, Bool.or_false, Bool.false_or, Bool.and_false, Bool.false_and, Bool.or_true, Bool.true_or, Bool.not_true, Bool.not_false, Bool.not_not, decide_true, decide_false, and_self, and_true, true_and, beq_self_eq_true, beq_true, beq_false, bne_self_eq_false, Int.reduceBNe, Int.reduceBEq, Int.reduceLT, Int.reduceLE, Int.reduceGT, Bool.false_eq_true, Nat.zero_lt_succ, Nat.zero_lt_one, Nat.add_assoc, Nat.left_eq_add, Nat.add_eq_left, h54, h40, hd, lst_some, hd6, h14, callE_eq hm55, hfr, h55, hm1, hia, hσ, hrow, hw, hlim, b1, hend]
      · have e1 : putN o l = 151 := by simp [putN, hok, hdm]
        have e2 : refC o ts l = none := by unfold refC; rw [if_neg]; omega
        rw [e1, e2]
        rcases hdims with ⟨⟨x, h1, h2⟩, h3⟩ | ⟨h1, h2⟩
        · have hd : decide ((0 : Int) < ((lst o).length : Int)) = true := decide_eq_true (by omega)
          have hx2 : (((lst x.v).length : Int) != (l.length : Int)) = true := by rw [← h2]; simp; omega
          simp +contextual -implicitDefEqProofs (maxSteps := 2000000) only [↓wP, wQ, wQ1, wQ2, wQ3, boxE, List.take_length, partsOf, ↓reduceIte, Nat.reduceEqDiff, Nat.reduceAdd, Nat.reduceSub, Nat.reduceLeDiff, Nat.reduceLT, Nat.reduceMul, Nat.zero_add, Nat.add_zero, Nat.mul_zero, Nat.le_refl, Nat.zero_le, Nat.one_ne_zero, Nat.zero_ne_one, reduceCtorEq, List.map_cons, List.map_nil, List.mapM_cons, List.mapM_nil, List.flatMap_cons, List.flatMap_nil, List.append_nil, List.nil_append, List.cons_append, List.drop_zero, List.drop_succ_cons, List.take_zero, List.take_succ_cons, List.take_nil, List.drop_nil, List.length_cons, List.length_nil, List.getElem?_cons_zero, List.getElem?_cons_succ, List.getElem?_nil, List.set_cons_zero, List.set_cons_succ, List.all_cons, List.all_nil, Option.bind_some, Option.bind_none, Option.map_some, Option.map_none, Option.pure_def, Option.bind_eq_bind, Bool.and_true, Bool.true_and, Bool.and_self, Bool.or_false, Bool.false_or, Bool.and_false, Bool.false_and, Bool.or_true, Bool.true_or, Bool.not_true, Bool.not_false, Bool.not_not, decide_true, decide_false, and_self, and_true, true_and, beq_self_eq_true, beq_true, beq_false, bne_self_eq_false, Int.reduceBNe, Int.reduceBEq, Int.reduceLT, Int.reduceLE, Int.reduceGT, Bool.false_eq_true, Nat.zero_lt_succ, Nat.zero_lt_one, Nat.add_assoc, Nat.left_eq_add, Nat.add_eq_left, h54, h40, hd, h1, verV, lst_some, hx2, slV_none]
        · exact absurd h2.symm hdm
  · have hT : (decide (lastR (lst o) < ts) && decide (ts ≤ 1099511627776)) = false := by simp; omega
    have e0 : refE o ts l = 181 := by unfold refE; rw [if_neg ht]
    have e2 : refC o ts l = none := by unfold refC; rw [if_neg]; omega
    rw [hT] at h54
    rw [e0, e2]
    simp +contextual -implicitDefEqProofs (maxSteps := 2000000) only [↓wP, wQ, wQ1, wQ2, wQ3, boxE, List.take_length, partsOf, ↓reduceIte, Nat.reduceEqDiff, Nat.reduceAdd, Nat.reduceSub, Nat.reduceLeDiff, Nat.reduceLT, Nat.reduceMul, Nat.zero_add, Nat.add_zero, Nat.mul_zero, Nat.le_refl, Nat.zero_le, Nat.one_ne_zero, Nat.zero_ne_one, reduceCtorEq, List.map_cons, List.map_nil, List.mapM_cons, List.mapM_nil, List.flatMap_cons, List.flatMap_nil, List.append_nil, List.nil_append, List.cons_append, List.drop_zero, List.drop_succ_cons, List.take_zero, List.take_succ_cons, List.take_nil, List.drop_nil, List.length_cons, List.length_nil, List.getElem?_cons_zero, List.getElem?_cons_succ, List.getElem?_nil, List.set_cons_zero, List.set_cons_succ, List.all_cons, List.all_nil, Option.bind_some, Option.bind_none, Option.map_some, Option.map_none, Option.pure_def, Option.bind_eq_bind, Bool.and_true, Bool.true_and, Bool.and_self, Bool.or_false, Bool.false_or, Bool.and_false, Bool.false_and, Bool.or_true, Bool.true_or, Bool.not_true, Bool.not_false, Bool.not_not, decide_true, decide_false, and_self, and_true, true_and, beq_self_eq_true, beq_true, beq_false, bne_self_eq_false, Int.reduceBNe, Int.reduceBEq, Int.reduceLT, Int.reduceLE, Int.reduceGT, Bool.false_eq_true, Nat.zero_lt_succ, Nat.zero_lt_one, Nat.add_assoc, Nat.left_eq_add, Nat.add_eq_left, h54, slV_none]

end Go.Q.S3
end

section
/- Which chains may be, are one, and what they tell. -/
set_option linter.unusedSimpArgs false
set_option linter.unusedVariables false
namespace Go.Q.S3
open Go.Q

theorem ver_refl (x : Ver) : (x == x) = true := by rw [ver_beq]; simp
theorem vers_refl : ∀ (l : List Ver), (l == l) = true
  | [] => rfl
  | x :: l => by
    show (x == x && l == l) = true
    rw [ver_refl, vers_refl l]; rfl

theorem last_fold {d : Int} : ∀ {L n : Int} {l : List Ver}, chk d L l = true → n ≤ L → l.foldl (fun n v => mx (mx n v.b) v.e) n = if l = [] then n else lastC l
  | _, _, [], _, _ => rfl
  | L, n, x :: xs, h, hn => by
    rw [chk, okVer_one] at h
    simp only [Bool.and_eq_true, decide_eq_true_eq, okOne, Bool.or_eq_true, beq_iff_eq, Bool.not_eq_true', beq_eq_false_iff_ne] at h
    obtain ⟨⟨⟨h1, h2⟩, h3⟩, h4⟩ := h
    have e1 : mx n x.b = x.b := by unfold mx; split <;> omega
    rw [List.foldl_cons, e1, if_neg (by simp)]
    cases xs with
    | nil => rfl
    | cons y ys =>
      simp only [List.isEmpty_cons, Bool.false_eq_true, or_false] at h3
      have e2 : mx x.b x.e = x.e := by unfold mx; split <;> omega
      rw [e2, last_fold h4 (Int.le_refl _), if_neg (by simp)]
      simp [lastC]

theorem last_eq {o : Option (List Ver)} (h : okC o = true) : lastR (lst o) = lastC (lst o) := by
  unfold okC at h
  rw [Bool.and_eq_true] at h
  unfold lastR
  rw [last_fold h.2 (Int.le_refl _)]
  split
  · rename_i h0; rw [h0]; rfl
  · rfl

theorem r7 (l : Option (List (Option (List Ver)))) (ts : Option (List Int)) (hl : (lst l).length < 9223372036854775808) (hs : ∀ x ∈ lst l, Sm x) (ht : (lst ts).length < 9223372036854775808) : res T 7 [slV 1 (slV 3 verV) l, slV 1 u64V ts] = some (.bool true) := by
  refine run_res (run_pure (fn := g7) rfl rfl (by decide) ?_)
  simp only [g7, b7]
  simp +contextual -implicitDefEqProofs (maxSteps := 2000000) only [↓wP, wQ, wQ1, wQ2, wQ3, boxE, List.take_length, partsOf, ↓reduceIte, Nat.reduceEqDiff, Nat.reduceAdd, Nat.reduceSub, Nat.reduceLeDiff, Nat.reduceLT, Nat.reduceMul, Nat.zero_add, Nat.add_zero, Nat.mul_zero, Nat.le_refl, Nat.zero_le, Nat.one_ne_zero, Nat.zero_ne_one, reduceCtorEq, List.map_cons, List.map_nil, List.mapM_cons, List.mapM_nil, List.flatMap_cons, List.flatMap_nil, List.append_nil, List.nil_append, List.cons_append, List.drop_zero, List.drop_succ_cons, List.take_zero, List.take_succ_cons, List.take_nil, List.drop_nil, List.length_cons, List.length_nil, List.getElem?_cons_zero, List.getElem?_cons_succ, List.getElem?_nil, List.set_cons_zero, List.set_cons_succ, List.all_cons, List.all_nil, Option.bind_some, Option.bind_none, Option.map_some, Option.map_none, Option.pure_def, Option.bind_eq_bind, Bool.and_true, Bool.true_and, Bool.and_self, Bool.or_false, Bool.false_or, Bool.and_false, Bool.false_and, Bool.or_true, Bool.true_or, Bool.not_true, Bool.not_false, Bool.not_not, decide_true, decide_false, and_self, and_true, true_and, beq_self_eq_true, beq_true, beq_false, bne_self_eq_false, Int.reduceBNe, Int.reduceBEq, Int.reduceLT, Int.reduceLE, Int.reduceGT, Bool.false_eq_true, Nat.zero_lt_succ, Nat.zero_lt_one, Nat.add_assoc, Nat.left_eq_add, Nat.add_eq_left, f9]
  refine WC_for (lst l).length 0 (fun (j : Nat) env _ _ => env 0 = slV 1 (slV 3 verV) l ∧ env 20 = slV 1 (slV 3 verV) l ∧ env 1 = slV 1 u64V ts) (by omega) (by decide) (by decide) (fun _ _ => rfl) (fun _ _ _ => rfl) ?_ ?_ _ _ _ rfl rfl ?_
  · intro j env σ n hj h1 h2 ⟨h3, h4, h5⟩
    simp only [vl_tmp] at h2
    have hx : (lst l)[j]? = some (lst l)[j] := List.getElem?_eq_getElem hj
    have hx0 : (lst l)[0]? = some (lst l)[0] := List.getElem?_eq_getElem (by omega)
    have h10 := f10 (lst l)[j] (hs _ (List.getElem_mem hj))
    have h10' := f10 (lst l)[0] (hs _ (List.getElem_mem _))
    generalize (lst l)[j] = x at hx h10
    generalize (lst l)[0] = y at hx0 h10'
    have h23 := f23 (fewO x) (few_sm x)
    have h11 := f11 (fewO x) (few_sm x)
    have h24 := f24 (fewO x) (fewO y) (few_sm x)
    have h24' := f24 (fewO x) (fewO x) (few_sm x)
    have h17 := f17 (fewO x) (fewO y) (few_sm x)
    have h25 := f25 (fewO x) (few_sm x)
    have h21 := f21 (fewO x) (few_sm x)
    rw [vers_refl] at h24'
    by_cases h6 : (j : Int) = 6
    · have hd : ((j : Int) == 6) = true := by simpa using h6
      simp +contextual -implicitDefEqProofs (maxSteps := 2000000) only [↓wP, wQ, wQ1, wQ2, wQ3, boxE, List.take_length, partsOf, ↓reduceIte, Nat.reduceEqDiff, Nat.reduceAdd, Nat.reduceSub, Nat.reduceLeDiff, Nat.reduceLT, Nat.reduceMul, Nat.zero_add, Nat.add_zero, Nat.mul_zero, Nat.le_refl, Nat.zero_le, Nat.one_ne_zero, Nat.zero_ne_one, reduceCtorEq, List.map_cons, List.map_nil, List.mapM_cons, List.mapM_nil, List.flatMap_cons, List.flatMap_nil, List.append_nil, List.nil_append, List.cons_append, List.drop_zero, List.drop_succ_cons, List.take_zero, List.take_succ_cons, List.take_nil, List.drop_nil, List.length_cons, List.length_nil, List.getElem?_cons_zero, List.getElem?_cons_succ, List.getElem?_nil, List.set_cons_zero, List.set_cons_succ, List.all_cons, List.all_nil, Option.bind_some, Option.bind_none, Option.map_some, Option.map_none, Option.pure_def, Option.bind_eq_bind, Bool.and_true, Bool.true_and, Bool.and_self, Bool.or_false, Bool.false_or, Bool.and_false, Bool.false_and, Bool.or_true, Bool.true_or, Bool.not_true, Bool.not_false, Bool.not_not, decide_true, decide_false, and_self, and_true, true_and, beq_self_eq_true, beq_true, beq_false, bne_self_eq_false, Int.reduceBNe, Int.reduceBEq, Int.reduceLT, Int.reduceLE, Int.reduceGT, Bool.false_eq_true, Nat.zero_lt_succ, Nat.zero_lt_one, Nat.add_assoc, Nat.left_eq_add, Nat.add_eq_left, h1, h2, h3, h4, h5, hx, hd]
    · have hd : ((j : Int) == 6) = false := by simpa using h6
      cases hc : okC (fewO x)
      · have hB : ∀ t, atB (fewO x) t = false := fun t => by simp [atB, hc]
        have hI : ∀ t, atI (fewO x) t = 0 := fun t => by simp [atI, hB]
        simp +contextual -implicitDefEqProofs (maxSteps := 2000000) only [↓wP, wQ, wQ1, wQ2, wQ3, boxE, List.take_length, partsOf, ↓reduceIte, Nat.reduceEqDiff, Nat.reduceAdd, Nat.reduceSub, Nat.reduceLeDiff, Nat.reduceLT, Nat.reduceMul, Nat.zero_add, Nat.add_zero, Nat.mul_zero, Nat.le_refl, Nat.zero_le, Nat.one_ne_zero, Nat.zero_ne_one, reduceCtorEq, List.map_cons, List.map_nil, List.mapM_cons, List.mapM_nil, List.flatMap_cons, List.flatMap_nil, List.append_nil, List.nil_append, List.cons_append, List.drop_zero, List.drop_succ_cons, List.take_zero, List.take_succ_cons, List.take_nil, List.drop_nil, List.length_cons, List.length_nil, List.getElem?_cons_zero, List.getElem?_cons_succ, List.getElem?_nil, List.set_cons_zero, List.set_cons_succ, List.all_cons, List.all_nil, Option.bind_some, Option.bind_none, Option.map_some, Option.map_none, Option.pure_def, Option.bind_eq_bind, Bool.and_true, Bool.true_and, Bool.and_self, Bool.or_false, Bool.false_or, Bool.and_false, Bool.false_and, Bool.or_true, Bool.true_or, Bool.not_true, Bool.not_false, Bool.not_not, decide_true, decide_false, and_self, and_true, true_and, beq_self_eq_true, beq_true, beq_false, bne_self_eq_false, Int.reduceBNe, Int.reduceBEq, Int.reduceLT, Int.reduceLE, Int.reduceGT, Bool.false_eq_true, Nat.zero_lt_succ, Nat.zero_lt_one, Nat.add_assoc, Nat.left_eq_add, Nat.add_eq_left, h1, h2, h3, h4, h5, hx, hx0, hd, h10, h10', h23, h11, h24, h24', h17, h25, h21, hc]
        refine WC_for (lst ts).length 0 (fun (k : Nat) env _ _ => env 0 = slV 1 (slV 3 verV) l ∧ env 20 = slV 1 (slV 3 verV) l ∧ env 1 = slV 1 u64V ts ∧ env 74 = slV 1 u64V ts ∧ env 7 = slV 3 verV (fewO x) ∧ env 9 = .bool false ∧
            env 22 = .int .i64 (j : Int) ∧ env 21 = .int .i64 ((lst l).length : Int)) (by omega) (by decide) (by decide) (fun _ _ => rfl) (fun _ _ _ => rfl) ?_ ?_ _ _ _ rfl rfl ?_
        · clear h1 h2 h3 h4 h5
          intro k env σ n hk k1 k2 ⟨k3, k4, k5, k6, k7, k8, k9, k10⟩
          simp only [vl_tmp] at k2
          have hxk : (lst ts)[k]? = some (lst ts)[k] := List.getElem?_eq_getElem hk
          have h13 := f13 (fewO x) (lst ts)[k] (few_sm x)
          by_cases h20 : (k : Int) = 20
          · have hd : ((k : Int) == 20) = true := by simpa using h20
            simp +contextual -implicitDefEqProofs (maxSteps := 2000000) only [↓wP, wQ, wQ1, wQ2, wQ3, boxE, List.take_length, partsOf, ↓reduceIte, Nat.reduceEqDiff, Nat.reduceAdd, Nat.reduceSub, Nat.reduceLeDiff, Nat.reduceLT, Nat.reduceMul, Nat.zero_add, Nat.add_zero, Nat.mul_zero, Nat.le_refl, Nat.zero_le, Nat.one_ne_zero, Nat.zero_ne_one, reduceCtorEq, List.map_cons, List.map_nil, List.mapM_cons, List.mapM_nil, List.flatMap_cons, List.flatMap_nil, List.append_nil, List.nil_append, List.cons_append, List.drop_zero, List.drop_succ_cons, List.take_zero, List.take_succ_cons, List.take_nil, List.drop_nil, List.length_cons, List.length_nil, List.getElem?_cons_zero, List.getElem?_cons_succ, List.getElem?_nil, List.set_cons_zero, List.set_cons_succ, List.all_cons, List.all_nil, Option.bind_some, Option.bind_none, Option.map_some, Option.map_none, Option.pure_def, Option.bind_eq_bind, Bool.and_true, Bool.true_and, Bool.and_self, Bool.or_false, Bool.false_or, Bool.and_false, Bool.false_and, Bool.or_true, Bool.true_or, Bool.not_true, Bool.not_false, Bool.not_not, decide_true, decide_false, and_self, and_true, true_and, beq_self_eq_true, beq_true, beq_false, bne_self_eq_false, Int.reduceBNe, Int.reduceBEq, Int.reduceLT, Int.reduceLE, Int.reduceGT, Bool.false_eq_true, Nat.zero_lt_succ, Nat.zero_lt_one, Nat.add_assoc, Nat.left_eq_add, Nat.add_eq_left, k1, k2, k3, k4, k5, k6, k7, k8, k9, k10, hxk, u64V, hd]
          · have hd : ((k : Int) == 20) = false := by simpa using h20
            simp +contextual -implicitDefEqProofs (maxSteps := 2000000) only [↓wP, wQ, wQ1, wQ2, wQ3, boxE, List.take_length, partsOf, ↓reduceIte, Nat.reduceEqDiff, Nat.reduceAdd, Nat.reduceSub, Nat.reduceLeDiff, Nat.reduceLT, Nat.reduceMul, Nat.zero_add, Nat.add_zero, Nat.mul_zero, Nat.le_refl, Nat.zero_le, Nat.one_ne_zero, Nat.zero_ne_one, reduceCtorEq, List.map_cons, List.map_nil, List.mapM_cons, List.mapM_nil, List.flatMap_cons, List.flatMap_nil, List.append_nil, List.nil_append, List.cons_append, List.drop_zero, List.drop_succ_cons, List.take_zero, List.take_succ_cons, List.take_nil, List.drop_nil, List.length_cons, List.length_nil, List.getElem?_cons_zero, List.getElem?_cons_succ, List.getElem?_nil, List.set_cons_zero, List.set_cons_succ, List.all_cons, List.all_nil, Option.bind_some, Option.bind_none, Option.map_some, Option.map_none, Option.pure_def, Option.bind_eq_bind, Bool.and_true, Bool.true_and, Bool.and_self, Bool.or_false, Bool.false_or, Bool.and_false, Bool.false_and, Bool.or_true, Bool.true_or, Bool.not_true, Bool.not_false, Bool.not_not, decide_true, decide_false, and_self, and_true, true_and, beq_self_eq_true, beq_true, beq_false, bne_self_eq_false, Int.reduceBNe, Int.reduceBEq, Int.reduceLT, Int.reduceLE, Int.reduceGT, Bool.false_eq_true, Nat.zero_lt_succ, Nat.zero_lt_one, Nat.add_assoc, Nat.left_eq_add, Nat.add_eq_left, k1, k2, k3, k4, k5, k6, k7, k8, k9, k10, hxk, u64V, hd, h13, hB, hI]
        · intro env σ n ⟨k3, k4, k5, k6, k7, k8, k9, k10⟩ k1 k2
          simp +contextual -implicitDefEqProofs (maxSteps := 2000000) only [↓wP, wQ, wQ1, wQ2, wQ3, boxE, List.take_length, partsOf, ↓reduceIte, Nat.reduceEqDiff, Nat.reduceAdd, Nat.reduceSub, Nat.reduceLeDiff, Nat.reduceLT, Nat.reduceMul, Nat.zero_add, Nat.add_zero, Nat.mul_zero, Nat.le_refl, Nat.zero_le, Nat.one_ne_zero, Nat.zero_ne_one, reduceCtorEq, List.map_cons, List.map_nil, List.mapM_cons, List.mapM_nil, List.flatMap_cons, List.flatMap_nil, List.append_nil, List.nil_append, List.cons_append, List.drop_zero, List.drop_succ_cons, List.take_zero, List.take_succ_cons, List.take_nil, List.drop_nil, List.length_cons, List.length_nil, List.getElem?_cons_zero, List.getElem?_cons_succ, List.getElem?_nil, List.set_cons_zero, List.set_cons_succ, List.all_cons, List.all_nil, Option.bind_some, Option.bind_none, Option.map_some, Option.map_none, Option.pure_def, Option.bind_eq_bind, Bool.and_true, Bool.true_and, Bool.and_self, Bool.or_false, Bool.false_or, Bool.and_false, Bool.false_and, Bool.or_true, Bool.true_or, Bool.not_true, Bool.not_false, Bool.not_not, decide_true, decide_false, and_self, and_true, true_and, beq_self_eq_true, beq_true, beq_false, bne_self_eq_false, Int.reduceBNe, Int.reduceBEq, Int.reduceLT, Int.reduceLE, Int.reduceGT, Bool.false_eq_true, Nat.zero_lt_succ, Nat.zero_lt_one, Nat.add_assoc, Nat.left_eq_add, Nat.add_eq_left, k3, k4, k5, k9, k10]
        · simp +contextual -implicitDefEqProofs (maxSteps := 2000000) only [↓wP, wQ, wQ1, wQ2, wQ3, boxE, List.take_length, partsOf, ↓reduceIte, Nat.reduceEqDiff, Nat.reduceAdd, Nat.reduceSub, Nat.reduceLeDiff, Nat.reduceLT, Nat.reduceMul, Nat.zero_add, Nat.add_zero, Nat.mul_zero, Nat.le_refl, Nat.zero_le, Nat.one_ne_zero, Nat.zero_ne_one, reduceCtorEq, List.map_cons, List.map_nil, List.mapM_cons, List.mapM_nil, List.flatMap_cons, List.flatMap_nil, List.append_nil, List.nil_append, List.cons_append, List.drop_zero, List.drop_succ_cons, List.take_zero, List.take_succ_cons, List.take_nil, List.drop_nil, List.length_cons, List.length_nil, List.getElem?_cons_zero, List.getElem?_cons_succ, List.getElem?_nil, List.set_cons_zero, List.set_cons_succ, List.all_cons, List.all_nil, Option.bind_some, Option.bind_none, Option.map_some, Option.map_none, Option.pure_def, Option.bind_eq_bind, Bool.and_true, Bool.true_and, Bool.and_self, Bool.or_false, Bool.false_or, Bool.and_false, Bool.false_and, Bool.or_true, Bool.true_or, Bool.not_true, Bool.not_false, Bool.not_not, decide_true, decide_false, and_self, and_true, true_and, beq_self_eq_true, beq_true, beq_false, bne_self_eq_false, Int.reduceBNe, Int.reduceBEq, Int.reduceLT, Int.reduceLE, Int.reduceGT, Bool.false_eq_true, Nat.zero_lt_succ, Nat.zero_lt_one, Nat.add_assoc, Nat.left_eq_add, Nat.add_eq_left, h1, h2, h3, h4, h5]
      · have hB : ∀ t, atB (fewO x) t = decide (0 ≤ posV (fewO x) t) := fun t => by simp [atB, hc]
        have hI : ∀ t, atI (fewO x) t = if 0 ≤ posV (fewO x) t then posV (fewO x) t else 0 := fun t => by simp [atI, hB]
        have hla := last_eq hc
        simp +contextual -implicitDefEqProofs (maxSteps := 2000000) only [↓wP, wQ, wQ1, wQ2, wQ3, boxE, List.take_length, partsOf, ↓reduceIte, Nat.reduceEqDiff, Nat.reduceAdd, Nat.reduceSub, Nat.reduceLeDiff, Nat.reduceLT, Nat.reduceMul, Nat.zero_add, Nat.add_zero, Nat.mul_zero, Nat.le_refl, Nat.zero_le, Nat.one_ne_zero, Nat.zero_ne_one, reduceCtorEq, List.map_cons, List.map_nil, List.mapM_cons, List.mapM_nil, List.flatMap_cons, List.flatMap_nil, List.append_nil, List.nil_append, List.cons_append, List.drop_zero, List.drop_succ_cons, List.take_zero, List.take_succ_cons, List.take_nil, List.drop_nil, List.length_cons, List.length_nil, List.getElem?_cons_zero, List.getElem?_cons_succ, List.getElem?_nil, List.set_cons_zero, List.set_cons_succ, List.all_cons, List.all_nil, Option.bind_some, Option.bind_none, Option.map_some, Option.map_none, Option.pure_def, Option.bind_eq_bind, Bool.and_true, Bool.true_and, Bool.and_self, Bool.or_false, Bool.false_or, Bool.and_false, Bool.false_and, Bool.or_true, Bool.true_or, Bool.not_true, Bool.not_false, Bool.not_not, decide_true, decide_false, and_self, and_true, true_and, beq_self_eq_true, beq_true, beq_false, bne_self_eq_false, Int.reduceBNe, Int.reduceBEq, Int.reduceLT, Int.reduceLE, Int.reduceGT, Bool.false_eq_true, Nat.zero_lt_succ, Nat.zero_lt_one, Nat.add_assoc, Nat.left_eq_add, Nat.add_eq_left, h1, h2, h3, h4, h5, hx, hx0, hd, h10, h10', h23, h11, h24, h24', h17, h25, h21, hc, hla]
        refine WC_for (lst ts).length 0 (fun (k : Nat) env _ _ => env 0 = slV 1 (slV 3 verV) l ∧ env 20 = slV 1 (slV 3 verV) l ∧ env 1 = slV 1 u64V ts ∧ env 74 = slV 1 u64V ts ∧ env 7 = slV 3 verV (fewO x) ∧ env 9 = .bool true ∧
            env 22 = .int .i64 (j : Int) ∧ env 21 = .int .i64 ((lst l).length : Int)) (by omega) (by decide) (by decide) (fun _ _ => rfl) (fun _ _ _ => rfl) ?_ ?_ _ _ _ rfl rfl ?_
        · clear h1 h2 h3 h4 h5
          intro k env σ n hk k1 k2 ⟨k3, k4, k5, k6, k7, k8, k9, k10⟩
          simp only [vl_tmp] at k2
          have hxk : (lst ts)[k]? = some (lst ts)[k] := List.getElem?_eq_getElem hk
          have h13 := f13 (fewO x) (lst ts)[k] (few_sm x)
          have h26 := f26 (fewO x) (lst ts)[k] (few_sm x)
          by_cases h20 : (k : Int) = 20
          · have hd : ((k : Int) == 20) = true := by simpa using h20
            simp +contextual -implicitDefEqProofs (maxSteps := 2000000) only [↓wP, wQ, wQ1, wQ2, wQ3, boxE, List.take_length, partsOf, ↓reduceIte, Nat.reduceEqDiff, Nat.reduceAdd, Nat.reduceSub, Nat.reduceLeDiff, Nat.reduceLT, Nat.reduceMul, Nat.zero_add, Nat.add_zero, Nat.mul_zero, Nat.le_refl, Nat.zero_le, Nat.one_ne_zero, Nat.zero_ne_one, reduceCtorEq, List.map_cons, List.map_nil, List.mapM_cons, List.mapM_nil, List.flatMap_cons, List.flatMap_nil, List.append_nil, List.nil_append, List.cons_append, List.drop_zero, List.drop_succ_cons, List.take_zero, List.take_succ_cons, List.take_nil, List.drop_nil, List.length_cons, List.length_nil, List.getElem?_cons_zero, List.getElem?_cons_succ, List.getElem?_nil, List.set_cons_zero, List.set_cons_succ, List.all_cons, List.all_nil, Option.bind_some, Option.bind_none, Option.map_some, Option.map_none, Option.pure_def, Option.bind_eq_bind, Bool.and_true, Bool.true_and, Bool.and_self, Bool.or_false, Bool.false_or, Bool.and_false, Bool.false_and, Bool.or_true, Bool.true_or, Bool.not_true, Bool.not_false, Bool.not_not, decide_true, decide_false, and_self, and_true, true_and, beq_self_eq_true, beq_true, beq_false, bne_self_eq_false, Int.reduceBNe, Int.reduceBEq, Int.reduceLT, Int.reduceLE, Int.reduceGT, Bool.false_eq_true, Nat.zero_lt_succ, Nat.zero_lt_one, Nat.add_assoc, Nat.left_eq_add, Nat.add_eq_left, k1, k2, k3, k4, k5, k6, k7, k8, k9, k10, hxk, u64V, hd]
          · have hd : ((k : Int) == 20) = false := by simpa using h20
            rw [hB, hI] at h13
            generalize (if 0 ≤ posV (fewO x) (lst ts)[k] then posV (fewO x) (lst ts)[k] else 0) = p at h13 h26
            generalize decide (0 ≤ posV (fewO x) (lst ts)[k]) = q at h13 h26
            simp +contextual -implicitDefEqProofs (maxSteps := 2000000) only [↓wP, wQ, wQ1, wQ2, wQ3, boxE, List.take_length, partsOf, ↓reduceIte, Nat.reduceEqDiff, Nat.reduceAdd, Nat.reduceSub, Nat.reduceLeDiff, Nat.reduceLT, Nat.reduceMul, Nat.zero_add, Nat.add_zero, Nat.mul_zero, Nat.le_refl, Nat.zero_le, Nat.one_ne_zero, Nat.zero_ne_one, reduceCtorEq, List.map_cons, List.map_nil, List.mapM_cons, List.mapM_nil, List.flatMap_cons, List.flatMap_nil, List.append_nil, List.nil_append, List.cons_append, List.drop_zero, List.drop_succ_cons, List.take_zero, List.take_succ_cons, List.take_nil, List.drop_nil, List.length_cons, List.length_nil, List.getElem?_cons_zero, List.getElem?_cons_succ, List.getElem?_nil, List.set_cons_zero, List.set_cons_succ, List.all_cons, List.all_nil, Option.bind_some, Option.bind_none, Option.map_some, Option.map_none, Option.pure_def, Option.bind_eq_bind, Bool.and_true, Bool.true_and, Bool.and_self, Bool.or_false, Bool.false_or, Bool.and_false, Bool.false_and, Bool.or_true, Bool.true_or, Bool.not_true, Bool.not_false, Bool.not_not, decide_true, decide_false, and_self, and_true, true_and, beq_self_eq_true, beq_true, beq_false, bne_self_eq_false, Int.reduceBNe, Int.reduceBEq, Int.reduceLT, Int.reduceLE, Int.reduceGT, Bool.false_eq_true, Nat.zero_lt_succ, Nat.zero_lt_one, Nat.add_assoc, Nat.left_eq_add, Nat.add_eq_left, k1, k2, k3, k4, k5, k6, k7, k8, k9, k10, hxk, u64V, hd, h13, h26]
        · intro env σ n ⟨k3, k4, k5, k6, k7, k8, k9, k10⟩ k1 k2
          simp +contextual -implicitDefEqProofs (maxSteps := 2000000) only [↓wP, wQ, wQ1, wQ2, wQ3, boxE, List.take_length, partsOf, ↓reduceIte, Nat.reduceEqDiff, Nat.reduceAdd, Nat.reduceSub, Nat.reduceLeDiff, Nat.reduceLT, Nat.reduceMul, Nat.zero_add, Nat.add_zero, Nat.mul_zero, Nat.le_refl, Nat.zero_le, Nat.one_ne_zero, Nat.zero_ne_one, reduceCtorEq, List.map_cons, List.map_nil, List.mapM_cons, List.mapM_nil, List.flatMap_cons, List.flatMap_nil, List.append_nil, List.nil_append, List.cons_append, List.drop_zero, List.drop_succ_cons, List.take_zero, List.take_succ_cons, List.take_nil, List.drop_nil, List.length_cons, List.length_nil, List.getElem?_cons_zero, List.getElem?_cons_succ, List.getElem?_nil, List.set_cons_zero, List.set_cons_succ, List.all_cons, List.all_nil, Option.bind_some, Option.bind_none, Option.map_some, Option.map_none, Option.pure_def, Option.bind_eq_bind, Bool.and_true, Bool.true_and, Bool.and_self, Bool.or_false, Bool.false_or, Bool.and_false, Bool.false_and, Bool.or_true, Bool.true_or, Bool.not_true, Bool.not_false, Bool.not_not, decide_true, decide_false, and_self, and_true, true_and, beq_self_eq_true, beq_true, beq_false, bne_self_eq_false, Int.reduceBNe, Int.reduceBEq, Int.reduceLT, Int.reduceLE, Int.reduceGT, Bool.false_eq_true, Nat.zero_lt_succ, Nat.zero_lt_one, Nat.add_assoc, Nat.left_eq_add, Nat.add_eq_left, k3, k4, k5, k9, k10]
        · simp +contextual -implicitDefEqProofs (maxSteps := 2000000) only [↓wP, wQ, wQ1, wQ2, wQ3, boxE, List.take_length, partsOf, ↓reduceIte, Nat.reduceEqDiff, Nat.reduceAdd, Nat.reduceSub, Nat.reduceLeDiff, Nat.reduceLT, Nat.reduceMul, Nat.zero_add, Nat.add_zero, Nat.mul_zero, Nat.le_refl, Nat.zero_le, Nat.one_ne_zero, Nat.zero_ne_one, reduceCtorEq, List.map_cons, List.map_nil, List.mapM_cons, List.mapM_nil, List.flatMap_cons, List.flatMap_nil, List.append_nil, List.nil_append, List.cons_append, List.drop_zero, List.drop_succ_cons, List.take_zero, List.take_succ_cons, List.take_nil, List.drop_nil, List.length_cons, List.length_nil, List.getElem?_cons_zero, List.getElem?_cons_succ, List.getElem?_nil, List.set_cons_zero, List.set_cons_succ, List.all_cons, List.all_nil, Option.bind_some, Option.bind_none, Option.map_some, Option.map_none, Option.pure_def, Option.bind_eq_bind, Bool.and_true, Bool.true_and, Bool.and_self, Bool.or_false, Bool.false_or, Bool.and_false, Bool.false_and, Bool.or_true, Bool.true_or, Bool.not_true, Bool.not_false, Bool.not_not, decide_true, decide_false, and_self, and_true, true_and, beq_self_eq_true, beq_true, beq_false, bne_self_eq_false, Int.reduceBNe, Int.reduceBEq, Int.reduceLT, Int.reduceLE, Int.reduceGT, Bool.false_eq_true, Nat.zero_lt_succ, Nat.zero_lt_one, Nat.add_assoc, Nat.left_eq_add, Nat.add_eq_left, h1, h2, h3, h4, h5]
  · intro env σ n ⟨h3, h4, h5⟩ h1 h2
    simp +contextual -implicitDefEqProofs (maxSteps := 2000000) only [↓wP, wQ, wQ1, wQ2, wQ3, boxE, List.take_length, partsOf, ↓reduceIte, Nat.reduceEqDiff, Nat.reduceAdd, Nat.reduceSub, Nat.reduceLeDiff, Nat.reduceLT, Nat.reduceMul, Nat.zero_add, Nat.add_zero, Nat.mul_zero, Nat.le_refl, Nat.zero_le, Nat.one_ne_zero, Nat.zero_ne_one, reduceCtorEq, List.map_cons, List.map_nil, List.mapM_cons, List.mapM_nil, List.flatMap_cons, List.flatMap_nil, List.append_nil, List.nil_append, List.cons_append, List.drop_zero, List.drop_succ_cons, List.take_zero, List.take_succ_cons, List.take_nil, List.drop_nil, List.length_cons, List.length_nil, List.getElem?_cons_zero, List.getElem?_cons_succ, List.getElem?_nil, List.set_cons_zero, List.set_cons_succ, List.all_cons, List.all_nil, Option.bind_some, Option.bind_none, Option.map_some, Option.map_none, Option.pure_def, Option.bind_eq_bind, Bool.and_true, Bool.true_and, Bool.and_self, Bool.or_false, Bool.false_or, Bool.and_false, Bool.false_and, Bool.or_true, Bool.true_or, Bool.not_true, Bool.not_false, Bool.not_not, decide_true, decide_false, and_self, and_true, true_and, beq_self_eq_true, beq_true, beq_false, bne_self_eq_false, Int.reduceBNe, Int.reduceBEq, Int.reduceLT, Int.reduceLE, Int.reduceGT, Bool.false_eq_true, Nat.zero_lt_succ, Nat.zero_lt_one, Nat.add_assoc, Nat.left_eq_add, Nat.add_eq_left]
  · exact ⟨rfl, rfl, rfl⟩

theorem f7 (l : Option (List (Option (List Ver)))) (ts : Option (List Int)) (hl : (lst l).length < 9223372036854775808) (hs : ∀ x ∈ lst l, Sm x) (ht : (lst ts).length < 9223372036854775808) (fs : Bool) (σ : Sto) (n lk : Nat) : callE T fs 7 [slV 1 (slV 3 verV) l, slV 1 u64V ts] σ n lk = some (.bool true, σ, n) :=
  callE_tr (by decide) (r7 l ts hl hs ht) (by simp [Tr, Tr_slV]) rfl fs σ n lk

end Go.Q.S3
end

section
/- As many versions as there may be, one less, one more. -/
set_option linter.unusedSimpArgs false
set_option linter.unusedVariables false
namespace Go.Q.S3
open Go.Q

theorem bk_any {r : V} (hr : Nw 12 r = true) (D : List Nat) (σ : Sto) (n : Nat) : ∃ σ2, backE true D r σ n 0 = some (r, σ2, n) ∧ (∀ i, i ∉ D → σ2 i = σ i) := by
  unfold backE
  split
  · exact ⟨σ, by rw [thaw_nw σ n 12 r hr], fun _ _ => rfl⟩
  · rw [if_pos (by simp)]
    exact ⟨dropL σ D, by rw [thaw_nw _ n 12 r hr], fun i hi => by simp [dropL, hi]⟩

/-- What the document says of a Put. -/
def wantC (o : Option (List Ver)) (ts : Int) (l : List Int) : Option (List Ver) := if okC o = true then refC o ts l else none
def wantE (o : Option (List Ver)) (ts : Int) (l : List Int) : Int := if okC o = true then refE o ts l else 180

theorem r16u (k ts : Int) (near : Bool) (v : Option (List Int)) (o : Option (List Ver)) (hv : (lst v).length < 9223372036854775808) (hs : Sm o) (hf : FitC o) (hf' : ((lst o).length + 1) * 40 ≤ LIM) (h3 : k5 k ≠ 3) (h4 : k5 k ≠ 4) :
    res T 16 [.agg [.int .i64 k, .int .u64 ts, .bool near, slV 1 i32V v], slV 3 verV o] =
      some (.tup [slV 3 verV (wantC o (opTs k ts near (lastR (lst o))) (vec5 v)), .nilS, .int .i64 (wantE o (opTs k ts near (lastR (lst o))) (vec5 v))]) := by
  refine run_res (run_pure (fn := g16) rfl rfl (by decide) ?_)
  simp only [g16, b16]
  have h18 := f18 k ts near v o hs
  have h22 := f22 k ts near v hv
  have h23 := f23 o hs
  generalize hL : vec5 v = l at h22
  have hl : l.length * 4 ≤ LIM := by rw [← hL]; exact vec5_len v
  generalize opTs k ts near (lastR (lst o)) = tt at h18
  have m5 := bin_rem .u64 (IntKind.u64.wrap k) 5 (by decide)
  have d3 : ((IntKind.u64.wrap k).tmod 5 == 3) = false := by simpa [k5] using h3
  have d4 : ((IntKind.u64.wrap k).tmod 5 == 4) = false := by simpa [k5] using h4
  cases hc : okC o
  · have e1 : wantC o tt l = none := by simp [wantC, hc]
    have e2 : wantE o tt l = 180 := by simp [wantE, hc]
    rw [hc] at h23
    rw [e1, e2]
    simp +contextual -implicitDefEqProofs (maxSteps := 2000000) only [↓wP, wQ, wQ1, wQ2, wQ3, boxE, List.take_length, partsOf, ↓reduceIte, Nat.reduceEqDiff, Nat.reduceAdd, Nat.reduceSub, Nat.reduceLeDiff, Nat.reduceLT, Nat.reduceMul, Nat.zero_add, Nat.add_zero, Nat.mul_zero, Nat.le_refl, Nat.zero_le, Nat.one_ne_zero, Nat.zero_ne_one, reduceCtorEq, List.map_cons, List.map_nil, List.mapM_cons, List.mapM_nil, List.flatMap_cons, List.flatMap_nil, List.append_nil, List.nil_append, List.cons_append, List.drop_zero, List.drop_succ_cons, List.take_zero, List.take_succ_cons, List.take_nil, List.drop_nil, List.length_cons, List.length_nil, List.getElem?_cons_zero, List.getElem?_cons_succ, List.getElem?_nil, List.set_cons_zero, List.set_cons_succ, List.all_cons, List.all_nil, Option.bind_some, Option.bind_none, Option.map_some, Option.map_none, Option.pure_def, Option.bind_eq_bind, Bool.and_true, Bool.true_and, Bool.and_self, Bool.or_false, Bool.false_or, Bool.and_false, Bool.false_and, Bool.or_true, Bool.true_or, Bool.not_true, Bool.not_false, Bool.not_not, decide_true, decide_false, and_self, and_true, true_and, beq_self_eq_true, beq_true, beq_false, bne_self_eq_false, Int.reduceBNe, Int.reduceBEq, Int.reduceLT, Int.reduceLE, Int.reduceGT, Bool.false_eq_true, Nat.zero_lt_succ, Nat.zero_lt_one, Nat.add_assoc, Nat.left_eq_add, Nat.add_eq_left, h23, slV_none]
  · have h36 := r36 o tt l hs hf hf' hl hc
    have e1 : wantC o tt l = refC o tt l := by simp [wantC, hc]
    have e2 : wantE o tt l = refE o tt l := by simp [wantE, hc]
    rw [hc] at h23
    rw [e1, e2]
    have hm36 : T.mode 36 ≠ .raw := by decide
    have hmm := mapM_enc i32V (fun _ => rfl)
    have hle : (l.length ≤ (l.map i32V).length) = True := by simp
    have htk : (l.map i32V).take l.length = l.map i32V := by rw [List.take_of_length_le]; simp
    rw [slV_some] at h36
    have hnw : Nw 12 (.tup [slV 3 verV (refC o tt l), .int .i64 (refE o tt l)]) = true := by simp [Nw, Nw_slV]
    simp +contextual -implicitDefEqProofs (maxSteps := 2000000) only [↓wP, wQ, wQ1, wQ2, wQ3, boxE, List.take_length, partsOf, ↓reduceIte, Nat.reduceEqDiff, Nat.reduceAdd, Nat.reduceSub, Nat.reduceLeDiff, Nat.reduceLT, Nat.reduceMul, Nat.zero_add, Nat.add_zero, Nat.mul_zero, Nat.le_refl, Nat.zero_le, Nat.one_ne_zero, Nat.zero_ne_one, reduceCtorEq, List.map_cons, List.map_nil, List.mapM_cons, List.mapM_nil, List.flatMap_cons, List.flatMap_nil, List.append_nil, List.nil_append, List.cons_append, List.drop_zero, List.drop_succ_cons, List.take_zero, List.take_succ_cons, List.take_nil, List.drop_nil, List.length_cons, List.length_nil, List.getElem?_cons_zero, List.getElem?_cons_succ, List.getElem?_nil, List.set_cons_zero, List.set_cons_succ, List.all_cons, List.all_nil, Option.bind_some, Option.bind_none, Option.map_some, Option.map_none, Option.pure_def, Option.bind_eq_bind, Bool.and_true, Bool.true_and, Bool.and_self, Bool.or_false, Bool.false_or, Bool.and_false, Bool.false_and, Bool.or_true, Bool.true_or, Bool.not_true, Bool.not_false, Bool.not_not, decide_true, decide_false, and_self, and_true, true_and, beq_self_eq_true, beq_true, beq_false, bne_self_eq_false, Int.reduceBNe, Int.reduceBEq, Int.reduceLT, Int.reduceLE, Int.reduceGT, Bool.false_eq_true, Nat.zero_lt_succ, Nat.zero_lt_one, Nat.add_assoc, Nat.left_eq_add, Nat.add_eq_left, h23, h18, h22, m5, d3, d4, callE_eq hm36, frz_rf, hmm, hle, htk, h36]
    obtain ⟨σ2, hb, -⟩ := bk_any hnw _ _ 2
    rw [hb]
    simp +contextual -implicitDefEqProofs (maxSteps := 2000000) only [↓wP, wQ, wQ1, wQ2, wQ3, boxE, List.take_length, partsOf, ↓reduceIte, Nat.reduceEqDiff, Nat.reduceAdd, Nat.reduceSub, Nat.reduceLeDiff, Nat.reduceLT, Nat.reduceMul, Nat.zero_add, Nat.add_zero, Nat.mul_zero, Nat.le_refl, Nat.zero_le, Nat.one_ne_zero, Nat.zero_ne_one, reduceCtorEq, List.map_cons, List.map_nil, List.mapM_cons, List.mapM_nil, List.flatMap_cons, List.flatMap_nil, List.append_nil, List.nil_append, List.cons_append, List.drop_zero, List.drop_succ_cons, List.take_zero, List.take_succ_cons, List.take_nil, List.drop_nil, List.length_cons, List.length_nil, List.getElem?_cons_zero, List.getElem?_cons_succ, List.getElem?_nil, List.set_cons_zero, List.set_cons_succ, List.all_cons, List.all_nil, Option.bind_some, Option.bind_none, Option.map_some, Option.map_none, Option.pure_def, Option.bind_eq_bind, Bool.and_true, Bool.true_and, Bool.and_self, Bool.or_false, Bool.false_or, Bool.and_false, Bool.false_and, Bool.or_true, Bool.true_or, Bool.not_true, Bool.not_false, Bool.not_not, decide_true, decide_false, and_self, and_true, true_and, beq_self_eq_true, beq_true, beq_false, bne_self_eq_false, Int.reduceBNe, Int.reduceBEq, Int.reduceLT, Int.reduceLE, Int.reduceGT, Bool.false_eq_true, Nat.zero_lt_succ, Nat.zero_lt_one, Nat.add_assoc, Nat.left_eq_add, Nat.add_eq_left]

theorem close_cp (ts : Int) (L : List Ver) : closeL ts (L.map cpV) = (closeL ts L).map cpV := by
  unfold closeL
  rcases List.eq_nil_or_concat L with rfl | ⟨A, x, rfl⟩
  · rfl
  · rw [List.concat_eq_append]
    simp only [List.map_append, List.map_cons, List.map_nil, List.getLast?_append, List.getLast?_singleton, Option.some_or]
    by_cases he : x.e = 0
    · rw [if_pos he, if_pos (by exact he)]
      simp [cpV, lst]
    · rw [if_neg he, if_neg (by exact he)]
      simp
theorem vers_cp : ∀ (L : List Ver), (L == L.map cpV) = true
  | [] => rfl
  | x :: L => by
    show (x == cpV x && L == L.map cpV) = true
    rw [vers_cp L, Bool.and_true, ver_beq]
    simp [cpV, lst]

theorem put_eq (o : Option (List Ver)) (ts : Int) (l : List Int) : putE o ts l = wantE o ts l ∧ (lst (putC o ts l) == lst (wantC o ts l)) = true := by
  unfold putE wantE putC wantC refE refC
  cases hc : okC o
  · simp only [if_true, Bool.false_eq_true, false_and, if_false]
    exact ⟨trivial, rfl⟩
  · have hl := last_eq hc
    simp only [Bool.true_eq_false, if_false, true_and, if_true]
    rw [hl]
    by_cases h1 : lastC (lst o) < ts ∧ ts ≤ 1099511627776
    · rw [if_neg (by omega), if_pos h1]
      refine ⟨rfl, ?_⟩
      by_cases h2 : putN o l = 0
      · rw [if_pos ⟨h1.1, h1.2, h2⟩, if_pos ⟨h1.1, h1.2, h2⟩, lst_some, lst_some]
        have e : (lst (o.map (closeL ts)) ++ [(⟨ts, 0, some l⟩ : Ver)]).map cpV = closeL ts ((lst o).map cpV) ++ [⟨ts, 0, some l⟩] := by
          rw [List.map_append, close_cp]
          congr 1
          cases o <;> rfl
        rw [← e]
        exact vers_cp _
      · rw [if_neg (fun h => h2 h.2.2), if_neg (fun h => h2 h.2.2)]
        rfl
    · rw [if_pos (by omega), if_neg h1, if_neg (fun h => h1 ⟨h.1, h.2.1⟩), if_neg (fun h => h1 ⟨h.1, h.2.1⟩)]
      exact ⟨rfl, rfl⟩

theorem put_all {o : Option (List Ver)} {ts : Int} {l : List Int} (ha : AllS (lst o)) : AllS (lst (putC o ts l)) := by
  unfold putC
  split
  · intro x hx
    rw [lst_some] at hx
    rcases List.mem_append.1 hx with hx | hx
    · cases o with
      | none => simp [lst] at hx
      | some L => exact close_all (L := L) ha x (by simpa [lst] using hx)
    · rw [List.mem_singleton.1 hx]; rfl
  · intro x hx; simp [lst] at hx
theorem put_sm {o : Option (List Ver)} {ts : Int} {l : List Int} (hs : Sm o) (hn : (lst o).length + 1 < 9223372036854775808) (hl : l.length < 9223372036854775808) : Sm (putC o ts l) := by
  unfold putC
  split
  · refine ⟨?_, fun x hx => ?_⟩
    · rw [lst_some, List.length_append, List.length_singleton]
      cases o with
      | none => simp [lst]
      | some L =>
        have := close_len ts L
        simp only [Option.map_some, lst_some] at hn ⊢
        omega
    · rw [lst_some] at hx
      rcases List.mem_append.1 hx with hx | hx
      · cases o with
        | none => simp [lst] at hx
        | some L =>
          simp only [Option.map_some, lst_some] at hx
          unfold closeL at hx
          split at hx
          · rename_i y hy
            split at hx
            · rcases List.mem_append.1 hx with hx | hx
              · exact hs.2 x ((List.dropLast_sublist L).subset hx)
              · rw [List.mem_singleton.1 hx]
                exact hs.2 y (List.mem_of_getLast? hy)
            · exact hs.2 x hx
          · exact hs.2 x hx
      · rw [List.mem_singleton.1 hx]; exact hl
  · exact ⟨by simp [lst], fun x hx => by simp [lst] at hx⟩

theorem bk_trip (o : Option (List Ver)) (e : Int) (fs : Bool) (D : List Nat) (σ : Sto) (n lk : Nat) : backE fs D (.tup [ownC o, .nilS, .int .i64 e]) σ n lk = some (thaw σ n (.tup [ownC o, .nilS, .int .i64 e])) :=
  backE_flat (by simp only [flat, flatL, flat_ownC, Bool.and_self]) fs D σ n lk

theorem rch_rows {σ : Sto} (k : Nat) : ∀ {L : List Ver} {ids : List Nat}, Vecs σ L ids → ∀ i ∈ ((L.zipWith erow ids).flatMap fun x => x.cells.flatMap (rch σ (k + 2))), i ∈ ids
  | [], [], _, i, hi => by simp at hi
  | [], _ :: _, h, _, _ => by simp [Vecs] at h
  | _ :: _, [], h, _, _ => by simp [Vecs] at h
  | x :: L, j :: ids, h, i, hi => by
    obtain ⟨h0, h1⟩ := Vecs.cons.1 h
    rw [List.zipWith_cons_cons, List.flatMap_cons, List.mem_append] at hi
    rcases hi with hi | hi
    · have hr : rch σ (k + 2) (vref j x) = [j] := by
        rw [vref, rch_rf, h0, elemsO_row]
        have he : ∀ xs : List Int, ((xs.map i32V).flatMap fun x => x.cells.flatMap (rch σ (k + 1))) = [] := fun xs => rch_enc i32V (fun x c hc => by simp [i32V, V.cells] at hc; subst hc; rfl) σ k xs
        rw [if_pos (by simp), Option.getD_some, List.drop_zero, List.take_of_length_le (by simp), he]
      simp only [erow, V.cells, List.flatMap_cons, List.flatMap_nil, hr, rch_int, List.nil_append, List.append_nil, List.mem_singleton] at hi
      rw [hi]; simp
    · exact List.mem_cons_of_mem _ (rch_rows k h1 i hi)

theorem Chn.rch {σ : Sto} {m n : Nat} {v : V} {o : Option (List Ver)} (h : Chn σ m n v o) (k : Nat) : ∀ i ∈ Go.Q.rch σ (k + 3) v, m ≤ i ∧ i < n := by
  cases o with
  | none => simp only [Chn] at h; subst h; intro i hi; simp [Go.Q.rch] at hi
  | some L =>
    obtain ⟨id, ids, rfl, h1, h2, h3, h4⟩ := h
    intro i hi
    rw [rch_rf, h1, elemsO_row, if_pos (by rw [zip_len h4]; omega), Option.getD_some, List.drop_zero, List.take_of_length_le (by rw [zip_len h4]; exact Nat.le_refl _), List.mem_cons] at hi
    rcases hi with rfl | hi
    · exact h3 _ (by simp)
    · exact h3 i (List.mem_cons_of_mem _ (rch_rows k h4 i hi))

def yM (i : Nat) : Ver := ⟨(i : Int) + 1, (i : Int) + 2, some [1]⟩
def cM (n : Nat) : Option (List Ver) := opt ((List.range n).map yM)

theorem most_n (more : Int) : ∃ N : Nat, IntKind.i64.wrap (95 + (IntKind.i64.wrap (more.tmod 3 + 3)).tmod 3) = (N : Int) ∧ N ≤ 97 := by
  have h1 : (more.tmod 3).natAbs < 3 := by rw [Int.natAbs_tmod]; exact Nat.mod_lt _ (by decide)
  have h2 : IntKind.i64.wrap (more.tmod 3 + 3) = more.tmod 3 + 3 := by rw [wrap_i64] <;> omega
  have h3 : (more.tmod 3 + 3).tmod 3 = (more.tmod 3 + 3) % 3 := Int.tmod_eq_emod_of_nonneg (by omega)
  rw [h2, h3, wrap_i64 (by omega) (by omega)]
  exact ⟨(95 + (more.tmod 3 + 3) % 3).toNat, by omega, by omega⟩

theorem r5 (more ts : Int) : res T 5 [.int .i64 more, .int .u64 ts] = some (.bool true) := by
  refine run_res (run_pure (fn := g5) rfl rfl (by decide) ?_)
  simp only [g5, b5]
  have m3 := fun a => bin_rem .i64 a 3 (by decide)
  obtain ⟨N, hN, hN2⟩ := most_n more
  simp +contextual -implicitDefEqProofs (maxSteps := 2000000) only [↓wP, wQ, wQ1, wQ2, wQ3, boxE, List.take_length, partsOf, ↓reduceIte, Nat.reduceEqDiff, Nat.reduceAdd, Nat.reduceSub, Nat.reduceLeDiff, Nat.reduceLT, Nat.reduceMul, Nat.zero_add, Nat.add_zero, Nat.mul_zero, Nat.le_refl, Nat.zero_le, Nat.one_ne_zero, Nat.zero_ne_one, reduceCtorEq, List.map_cons, List.map_nil, List.mapM_cons, List.mapM_nil, List.flatMap_cons, List.flatMap_nil, List.append_nil, List.nil_append, List.cons_append, List.drop_zero, List.drop_succ_cons, List.take_zero, List.take_succ_cons, List.take_nil, List.drop_nil, List.length_cons, List.length_nil, List.getElem?_cons_zero, List.getElem?_cons_succ, List.getElem?_nil, List.set_cons_zero, List.set_cons_succ, List.all_cons, List.all_nil, Option.bind_some, Option.bind_none, Option.map_some, Option.map_none, Option.pure_def, Option.bind_eq_bind, Bool.and_true, Bool.true_and, Bool.and_self, Bool.or_false, Bool.false_or, Bool.and_false, Bool.false_and, Bool.or_true, Bool.true_or, Bool.not_true, Bool.not_false, Bool.not_not, decide_true, decide_false, and_self, and_true, true_and, beq_self_eq_true, beq_true, beq_false, bne_self_eq_false, Int.reduceBNe, Int.reduceBEq, Int.reduceLT, Int.reduceLE, Int.reduceGT, Bool.false_eq_true, Nat.zero_lt_succ, Nat.zero_lt_one, Nat.add_assoc, Nat.left_eq_add, Nat.add_eq_left, f9, m3, hN]
  refine WC_for N 0 (fun (j : Nat) env σ n => env 1 = .int .u64 ts ∧ Chn σ 0 n (env 6) (cM j)) (by omega) (by decide) (by decide) (fun _ _ => rfl) (fun _ _ _ => rfl) ?_ ?_ _ _ _ rfl rfl ?_
  · intro j env σ n hj h1 h2 ⟨h3, h4⟩
    simp only [vl_tmp] at h2
    generalize hv6 : env 6 = v6 at h4
    have w1 : IntKind.u64.wrap (j : Int) = j := by rw [wrap_u64] <;> omega
    have w2 : IntKind.u64.wrap ((j : Int) + 1) = (j : Int) + 1 := by rw [wrap_u64] <;> omega
    have w3 : IntKind.u64.wrap ((j : Int) + 2) = (j : Int) + 2 := by rw [wrap_u64] <;> omega
    have k1 : Chn (upd (upd σ n (some (.row 1 [.int .i32 1]))) (n + 1) (some (.row 3 [.agg [.int .u64 ((j : Int) + 1), .int .u64 ((j : Int) + 2), .ref n 0 1 1]]))) 0 n v6 (cM j) := by
      refine h4.loc (fun i _ hi => ?_) (Nat.le_refl _) (Nat.le_refl _)
      have a1 : i ≠ n := by omega
      have a2 : i ≠ n + 1 := by omega
      simp only [upd_get, a1, a2, if_false]
    obtain ⟨v2, σ2, e1, e2, e3, e4, e5⟩ := k1.append (y := yM j) (lab := n + 2) (i := n) (by omega) (by omega) (by omega) (by omega) (by
      simp only [upd_get]
      simp [yM, lst, i32V]) (by rw [cM, lst_opt]; unfold LIM; simp; omega)
    rw [show erow (yM j) n = .agg [.int .u64 ((j : Int) + 1), .int .u64 ((j : Int) + 2), .ref n 0 1 1] from rfl] at e1
    simp +contextual -implicitDefEqProofs (maxSteps := 2000000) only [↓wP, wQ, wQ1, wQ2, wQ3, boxE, List.take_length, partsOf, ↓reduceIte, Nat.reduceEqDiff, Nat.reduceAdd, Nat.reduceSub, Nat.reduceLeDiff, Nat.reduceLT, Nat.reduceMul, Nat.zero_add, Nat.add_zero, Nat.mul_zero, Nat.le_refl, Nat.zero_le, Nat.one_ne_zero, Nat.zero_ne_one, reduceCtorEq, List.map_cons, List.map_nil, List.mapM_cons, List.mapM_nil, List.flatMap_cons, List.flatMap_nil, List.append_nil, List.nil_append, List.cons_append, List.drop_zero, List.drop_succ_cons, List.take_zero, List.take_succ_cons, List.take_nil, List.drop_nil, List.length_cons, List.length_nil, List.getElem?_cons_zero, List.getElem?_cons_succ, List.getElem?_nil, List.set_cons_zero, List.set_cons_succ, List.all_cons, List.all_nil, Option.bind_some, Option.bind_none, Option.map_some, Option.map_none, Option.pure_def, Option.bind_eq_bind, Bool.and_true, Bool.true_and, Bool.and_self, Bool.or_false, Bool.false_or, Bool.and_false, Bool.false_and, Bool.or_true, Bool.true_or, Bool.not_true, Bool.not_false, Bool.not_not, decide_true, decide_false, and_self, and_true, true_and, beq_self_eq_true, beq_true, beq_false, bne_self_eq_false, Int.reduceBNe, Int.reduceBEq, Int.reduceLT, Int.reduceLE, Int.reduceGT, Bool.false_eq_true, Nat.zero_lt_succ, Nat.zero_lt_one, Nat.add_assoc, Nat.left_eq_add, Nat.add_eq_left, h1, h2, h3, hv6, w1, w2, w3, e1]
    have e6 := e4 σ2 (fun _ _ => rfl)
    have e7 : some (lst (cM j) ++ [yM j]) = cM (j + 1) := by
      rw [cM, cM, lst_opt, List.range_succ, List.map_append, List.map_cons, List.map_nil, opt_snoc']
    rw [e7] at e6
    exact e6
  · intro env σ n ⟨h3, h4⟩ h1 h2
    generalize hv6 : env 6 = v6 at h4
    have hlen : (lst (cM N)).length = N := by rw [cM, lst_opt]; simp
    have hmem : ∀ x ∈ lst (cM N), x.v = some [1] := fun x hx => by
      rw [cM, lst_opt] at hx
      obtain ⟨i, -, rfl⟩ := List.mem_map.1 hx
      rfl
    have hs : Sm (cM N) := ⟨by omega, fun x hx => by rw [hmem x hx]; simp [lst]⟩
    have hf : FitC (cM N) := ⟨by rw [hlen]; unfold LIM; omega, fun x hx => by unfold Fit; rw [hmem x hx]; unfold LIM; simp [lst]⟩
    have hf' : ((lst (cM N)).length + 1) * 40 ≤ LIM := by rw [hlen]; unfold LIM; omega
    have ha : AllS (lst (cM N)) := fun x hx => by rw [hmem x hx]; rfl
    have h15 := r15u 0 ts true (some [2]) (cM N) (by simp [lst]) hs hf hf' ha (by decide) (by decide)
    have h16 := r16u 0 ts true (some [2]) (cM N) (by simp [lst]) hs hf hf' (by decide) (by decide)
    have hm15 : T.mode 15 ≠ .raw := by decide
    have hm16 : T.mode 16 ≠ .raw := by decide
    have hm17 : T.mode 17 ≠ .raw := by decide
    generalize opTs 0 ts true (lastR (lst (cM N))) = tt at h15 h16
    have hl5 : (vec5 (some [2])).length * 4 ≤ LIM := vec5_len _
    generalize vec5 (some [2]) = l5 at h15 h16 hl5
    have hsl : slV 1 i32V (some [2]) = .sl 1 [.int .i32 2] := rfl
    rw [hsl] at h15 h16
    have he2 : ∀ f : V → Option V, elemM f (.int .i32 2) = f (.int .i32 2) := fun _ => rfl
    have kA : Chn (upd (upd (upd σ n (some (.row 1 [.int .i32 2]))) (n + 1) (some (.row 4 [.agg [.int .i64 0, .int .u64 0, .bool false, .nilS]]))) (n + 1) (some (.row 4 [.agg [.int .i64 0, .int .u64 ts, .bool true, .ref n 0 1 1]]))) 0 n v6 (cM N) := by
      refine h4.loc (fun i _ hi => ?_) (Nat.le_refl _) (Nat.le_refl _)
      have a1 : i ≠ n := by omega
      have a2 : i ≠ n + 1 := by omega
      simp only [upd_get, a1, a2, if_false]
    have hfA := kA.frz ha 9
    obtain ⟨v', σ', n', t1, t2, t3, t4⟩ := thaw_ownC (upd (upd (upd σ n (some (.row 1 [.int .i32 2]))) (n + 1) (some (.row 4 [.agg [.int .i64 0, .int .u64 0, .bool false, .nilS]]))) (n + 1) (some (.row 4 [.agg [.int .i64 0, .int .u64 ts, .bool true, .ref n 0 1 1]]))) (n + 2) (putC (cM N) tt l5)
    have hB1 : σ' (n + 1) = some (.row 4 [.agg [.int .i64 0, .int .u64 ts, .bool true, .ref n 0 1 1]]) := by rw [t4 (n + 1) (by omega)]; simp [upd]
    have hB0 : σ' n = some (.row 1 [.int .i32 2]) := by rw [t4 n (by omega)]; simp [upd]
    have kB : Chn σ' 0 n v6 (cM N) := kA.loc (fun i _ hi => t4 i (by omega)) (Nat.le_refl _) (Nat.le_refl _)
    have hfB := kB.frz ha 9
    simp +contextual -implicitDefEqProofs (maxSteps := 2000000) only [↓wP, wQ, wQ1, wQ2, wQ3, boxE, List.take_length, partsOf, ↓reduceIte, Nat.reduceEqDiff, Nat.reduceAdd, Nat.reduceSub, Nat.reduceLeDiff, Nat.reduceLT, Nat.reduceMul, Nat.zero_add, Nat.add_zero, Nat.mul_zero, Nat.le_refl, Nat.zero_le, Nat.one_ne_zero, Nat.zero_ne_one, reduceCtorEq, List.map_cons, List.map_nil, List.mapM_cons, List.mapM_nil, List.flatMap_cons, List.flatMap_nil, List.append_nil, List.nil_append, List.cons_append, List.drop_zero, List.drop_succ_cons, List.take_zero, List.take_succ_cons, List.take_nil, List.drop_nil, List.length_cons, List.length_nil, List.getElem?_cons_zero, List.getElem?_cons_succ, List.getElem?_nil, List.set_cons_zero, List.set_cons_succ, List.all_cons, List.all_nil, Option.bind_some, Option.bind_none, Option.map_some, Option.map_none, Option.pure_def, Option.bind_eq_bind, Bool.and_true, Bool.true_and, Bool.and_self, Bool.or_false, Bool.false_or, Bool.and_false, Bool.false_and, Bool.or_true, Bool.true_or, Bool.not_true, Bool.not_false, Bool.not_not, decide_true, decide_false, and_self, and_true, true_and, beq_self_eq_true, beq_true, beq_false, bne_self_eq_false, Int.reduceBNe, Int.reduceBEq, Int.reduceLT, Int.reduceLE, Int.reduceGT, Bool.false_eq_true, Nat.zero_lt_succ, Nat.zero_lt_one, Nat.add_assoc, Nat.left_eq_add, Nat.add_eq_left, h3, hv6, callE_eq hm15, frz_rf, he2, hfA, h15, bk_trip, t1, callE_eq hm16, hB1, hB0, hfB, h16]
    have hnw : Nw 12 (.tup [slV 3 verV (wantC (cM N) tt l5), .nilS, .int .i64 (wantE (cM N) tt l5)]) = true := by simp [Nw, Nw_slV]
    obtain ⟨σ2, hb, hσ2⟩ := bk_any hnw (rch σ' 11 (.ref n 0 1 1) ++ rch σ' 12 v6) σ' n'
    have hD : ∀ i, n + 2 ≤ i → i ∉ rch σ' 11 (.ref n 0 1 1) ++ rch σ' 12 v6 := fun i hi hm => by
      rcases List.mem_append.1 hm with hm | hm
      · rw [rch_rf, hB0] at hm
        simp [elemsO_row, V.cells, rch_int] at hm
        omega
      · have := (kB.rch 9 i hm).2
        omega
    have kC : Chn σ2 (n + 2) n' v' (putC (cM N) tt l5) := t2.loc (fun i hi _ => hσ2 i (hD i hi)) (Nat.le_refl _) (Nat.le_refl _)
    have hfC := kC.frz (put_all ha) 9
    obtain ⟨q1, q2⟩ := put_eq (cM N) tt l5
    have h17 := r17 (putC (cM N) tt l5) (wantC (cM N) tt l5) (put_sm hs (by omega) (by unfold LIM at hl5; omega))
    rw [q2] at h17
    rw [hb, q1]
    simp +contextual -implicitDefEqProofs (maxSteps := 2000000) only [↓wP, wQ, wQ1, wQ2, wQ3, boxE, List.take_length, partsOf, ↓reduceIte, Nat.reduceEqDiff, Nat.reduceAdd, Nat.reduceSub, Nat.reduceLeDiff, Nat.reduceLT, Nat.reduceMul, Nat.zero_add, Nat.add_zero, Nat.mul_zero, Nat.le_refl, Nat.zero_le, Nat.one_ne_zero, Nat.zero_ne_one, reduceCtorEq, List.map_cons, List.map_nil, List.mapM_cons, List.mapM_nil, List.flatMap_cons, List.flatMap_nil, List.append_nil, List.nil_append, List.cons_append, List.drop_zero, List.drop_succ_cons, List.take_zero, List.take_succ_cons, List.take_nil, List.drop_nil, List.length_cons, List.length_nil, List.getElem?_cons_zero, List.getElem?_cons_succ, List.getElem?_nil, List.set_cons_zero, List.set_cons_succ, List.all_cons, List.all_nil, Option.bind_some, Option.bind_none, Option.map_some, Option.map_none, Option.pure_def, Option.bind_eq_bind, Bool.and_true, Bool.true_and, Bool.and_self, Bool.or_false, Bool.false_or, Bool.and_false, Bool.false_and, Bool.or_true, Bool.true_or, Bool.not_true, Bool.not_false, Bool.not_not, decide_true, decide_false, and_self, and_true, true_and, beq_self_eq_true, beq_true, beq_false, bne_self_eq_false, Int.reduceBNe, Int.reduceBEq, Int.reduceLT, Int.reduceLE, Int.reduceGT, Bool.false_eq_true, Nat.zero_lt_succ, Nat.zero_lt_one, Nat.add_assoc, Nat.left_eq_add, Nat.add_eq_left, callE_eq hm17, hfC, h17]
  · exact ⟨rfl, rfl⟩

theorem f5 (more ts : Int) (fs : Bool) (σ : Sto) (n lk : Nat) : callE T fs 5 [.int .i64 more, .int .u64 ts] σ n lk = some (.bool true, σ, n) :=
  callE_tr (by decide) (r5 more ts) (by simp [Tr, Tr_slV]) rfl fs σ n lk

end Go.Q.S3
end

section
/- The table is the program's. -/
namespace Go.Q.S3
open Go.Proofs
def Has (f : Nat) (fn : Fn) : Prop := ∃ F, Try.prog.funcs[f]? = some F ∧ cFunc Try.prog (ownB T) F = some fn ∧ (F.name == "runtime.NumGoroutine") = false
theorem h3 : Has 3 g3 := ⟨Try.f3, Try.func3, by kernel_rfl, by kernel_rfl⟩
theorem h4 : Has 4 g4 := ⟨Try.f4, Try.func4, by kernel_rfl, by kernel_rfl⟩
theorem h5 : Has 5 g5 := ⟨Try.f5, Try.func5, by kernel_rfl, by kernel_rfl⟩
theorem h6 : Has 6 g6 := ⟨Try.f6, Try.func6, by kernel_rfl, by kernel_rfl⟩
theorem h7 : Has 7 g7 := ⟨Try.f7, Try.func7, by kernel_rfl, by kernel_rfl⟩
theorem h8 : Has 8 g8 := ⟨Try.f8, Try.func8, by kernel_rfl, by kernel_rfl⟩
theorem h9 : Has 9 g9 := ⟨Try.f9, Try.func9, by kernel_rfl, by kernel_rfl⟩
theorem h10 : Has 10 g10 := ⟨Try.f10, Try.func10, by kernel_rfl, by kernel_rfl⟩
theorem h11 : Has 11 g11 := ⟨Try.f11, Try.func11, by kernel_rfl, by kernel_rfl⟩
theorem h12 : Has 12 g12 := ⟨Try.f12, Try.func12, by kernel_rfl, by kernel_rfl⟩
theorem h13 : Has 13 g13 := ⟨Try.f13, Try.func13, by kernel_rfl, by kernel_rfl⟩
theorem h14 : Has 14 g14 := ⟨Try.f14, Try.func14, by kernel_rfl, by kernel_rfl⟩
theorem h15 : Has 15 g15 := ⟨Try.f15, Try.func15, by kernel_rfl, by kernel_rfl⟩
theorem h16 : Has 16 g16 := ⟨Try.f16, Try.func16, by kernel_rfl, by kernel_rfl⟩
theorem h17 : Has 17 g17 := ⟨Try.f17, Try.func17, by kernel_rfl, by kernel_rfl⟩
theorem h18 : Has 18 g18 := ⟨Try.f18, Try.func18, by kernel_rfl, by kernel_rfl⟩
theorem h19 : Has 19 g19 := ⟨Try.f19, Try.func19, by kernel_rfl, by kernel_rfl⟩
theorem h20 : Has 20 g20 := ⟨Try.f20, Try.func20, by kernel_rfl, by kernel_rfl⟩
theorem h21 : Has 21 g21 := ⟨Try.f21, Try.func21, by kernel_rfl, by kernel_rfl⟩
theorem h22 : Has 22 g22 := ⟨Try.f22, Try.func22, by kernel_rfl, by kernel_rfl⟩
theorem h23 : Has 23 g23 := ⟨Try.f23, Try.func23, by kernel_rfl, by kernel_rfl⟩
theorem h24 : Has 24 g24 := ⟨Try.f24, Try.func24, by kernel_rfl, by kernel_rfl⟩
theorem h25 : Has 25 g25 := ⟨Try.f25, Try.func25, by kernel_rfl, by kernel_rfl⟩
theorem h26 : Has 26 g26 := ⟨Try.f26, Try.func26, by kernel_rfl, by kernel_rfl⟩
theorem h27 : Has 27 g27 := ⟨Try.f27, Try.func27, by kernel_rfl, by kernel_rfl⟩
theorem h28 : Has 28 g28 := ⟨Try.f28, Try.func28, by kernel_rfl, by kernel_rfl⟩
theorem h29 : Has 29 g29 := ⟨Try.f29, Try.func29, by kernel_rfl, by kernel_rfl⟩
theorem h30 : Has 30 g30 := ⟨Try.f30, Try.func30, by kernel_rfl, by kernel_rfl⟩
theorem h31 : Has 31 g31 := ⟨Try.f31, Try.func31, by kernel_rfl, by kernel_rfl⟩
theorem h32 : Has 32 g32 := ⟨Try.f32, Try.func32, by kernel_rfl, by kernel_rfl⟩
theorem h33 : Has 33 g33 := ⟨Try.f33, Try.func33, by kernel_rfl, by kernel_rfl⟩
theorem h34 : Has 34 g34 := ⟨Try.f34, Try.func34, by kernel_rfl, by kernel_rfl⟩
theorem h35 : Has 35 g35 := ⟨Try.f35, Try.func35, by kernel_rfl, by kernel_rfl⟩
theorem h36 : Has 36 g36 := ⟨Try.f36, Try.func36, by kernel_rfl, by kernel_rfl⟩
theorem h37 : Has 37 g37 := ⟨Try.f37, Try.func37, by kernel_rfl, by kernel_rfl⟩
theorem h38 : Has 38 g38 := ⟨Try.f38, Try.func38, by kernel_rfl, by kernel_rfl⟩
theorem h39 : Has 39 g39 := ⟨Try.f39, Try.func39, by kernel_rfl, by kernel_rfl⟩
theorem h40 : Has 40 g40 := ⟨Try.f40, Try.func40, by kernel_rfl, by kernel_rfl⟩
theorem h41 : Has 41 g41 := ⟨Try.f41, Try.func41, by kernel_rfl, by kernel_rfl⟩
theorem h42 : Has 42 g42 := ⟨Try.f42, Try.func42, by kernel_rfl, by kernel_rfl⟩
theorem h43 : Has 43 g43 := ⟨Try.f43, Try.func43, by kernel_rfl, by kernel_rfl⟩
theorem h44 : Has 44 g44 := ⟨Try.f44, Try.func44, by kernel_rfl, by kernel_rfl⟩
theorem h45 : Has 45 g45 := ⟨Try.f45, Try.func45, by kernel_rfl, by kernel_rfl⟩
theorem h46 : Has 46 g46 := ⟨Try.f46, Try.func46, by kernel_rfl, by kernel_rfl⟩
theorem h47 : Has 47 g47 := ⟨Try.f47, Try.func47, by kernel_rfl, by kernel_rfl⟩
theorem h48 : Has 48 g48 := ⟨Try.f48, Try.func48, by kernel_rfl, by kernel_rfl⟩
theorem h49 : Has 49 g49 := ⟨Try.f49, Try.func49, by kernel_rfl, by kernel_rfl⟩
theorem h50 : Has 50 g50 := ⟨Try.f50, Try.func50, by kernel_rfl, by kernel_rfl⟩
theorem h51 : Has 51 g51 := ⟨Try.f51, Try.func51, by kernel_rfl, by kernel_rfl⟩
theorem h52 : Has 52 g52 := ⟨Try.f52, Try.func52, by kernel_rfl, by kernel_rfl⟩
theorem h53 : Has 53 g53 := ⟨Try.f53, Try.func53, by kernel_rfl, by kernel_rfl⟩
theorem h54 : Has 54 g54 := ⟨Try.f54, Try.func54, by kernel_rfl, by kernel_rfl⟩
theorem h55 : Has 55 g55 := ⟨Try.f55, Try.func55, by kernel_rfl, by kernel_rfl⟩
theorem h56 : Has 56 g56 := ⟨Try.f56, Try.func56, by kernel_rfl, by kernel_rfl⟩
theorem h57 : Has 57 g57 := ⟨Try.f57, Try.func57, by kernel_rfl, by kernel_rfl⟩
theorem h58 : Has 58 g58 := ⟨Try.f58, Try.func58, by kernel_rfl, by kernel_rfl⟩
theorem h59 : Has 59 g59 := ⟨Try.f59, Try.func59, by kernel_rfl, by kernel_rfl⟩
theorem h60 : Has 60 g60 := ⟨Try.f60, Try.func60, by kernel_rfl, by kernel_rfl⟩
theorem tabOf : TabOf Try.prog T := by
  intro f fn h
  simp only [T] at h
  unfold fnOf at h
  split at h
  all_goals first | (cases h; done) | skip
  all_goals (simp only [Option.some.injEq] at h; subst h)
  · exact h3
  · exact h4
  · exact h5
  · exact h6
  · exact h7
  · exact h8
  · exact h9
  · exact h10
  · exact h11
  · exact h12
  · exact h13
  · exact h14
  · exact h15
  · exact h16
  · exact h17
  · exact h18
  · exact h19
  · exact h20
  · exact h21
  · exact h22
  · exact h23
  · exact h24
  · exact h25
  · exact h26
  · exact h27
  · exact h28
  · exact h29
  · exact h30
  · exact h31
  · exact h32
  · exact h33
  · exact h34
  · exact h35
  · exact h36
  · exact h37
  · exact h38
  · exact h39
  · exact h40
  · exact h41
  · exact h42
  · exact h43
  · exact h44
  · exact h45
  · exact h46
  · exact h47
  · exact h48
  · exact h49
  · exact h50
  · exact h51
  · exact h52
  · exact h53
  · exact h54
  · exact h55
  · exact h56
  · exact h57
  · exact h58
  · exact h59
  · exact h60
theorem mixed : Try.prog.follows .mixedOrders = true := by kernel_rfl
end Go.Q.S3
end
