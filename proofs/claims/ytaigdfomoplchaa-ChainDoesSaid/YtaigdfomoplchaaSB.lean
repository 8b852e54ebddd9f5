/- More functions of seat 08: equality, what may be, last traces. -/
import Derived.Test.YtaigdfomoplchaaSA
section
set_option linter.unusedSimpArgs false
set_option linter.unusedVariables false
namespace Go.Q.S3
open Go.Q

theorem eq_drop {α : Type} [BEq α] {a b : List α} {j : Nat} (ha : j < a.length) (hb : j < b.length) : (a.drop j == b.drop j) = (a[j] == b[j] && a.drop (j + 1) == b.drop (j + 1)) := by
  rw [List.drop_eq_getElem_cons ha, List.drop_eq_getElem_cons hb]
  rfl

theorem eq_len {α : Type} [BEq α] : ∀ {a b : List α}, a.length ≠ b.length → (a == b) = false
  | [], [], h => absurd rfl h
  | [], _ :: _, _ => rfl
  | _ :: _, [], _ => rfl
  | x :: a, y :: b, h => by
    show (x == y && a == b) = false
    rw [eq_len (a := a) (b := b) (by simpa using h)]
    simp

theorem r38 (a b : Option (List Int)) (ha : (lst a).length < 9223372036854775808) : res T 38 [slV 1 i32V a, slV 1 i32V b] = some (.bool (lst a == lst b)) := by
  refine run_res (run_pure (fn := g38) rfl rfl (by decide) ?_)
  simp only [g38, b38]
  simp +contextual -implicitDefEqProofs (maxSteps := 2000000) only [↓wP, wQ, wQ1, wQ2, wQ3, boxE, List.take_length, partsOf, ↓reduceIte, Nat.reduceEqDiff, Nat.reduceAdd, Nat.reduceSub, Nat.reduceLeDiff, Nat.reduceLT, Nat.reduceMul, Nat.zero_add, Nat.add_zero, Nat.mul_zero, Nat.le_refl, Nat.zero_le, Nat.one_ne_zero, Nat.zero_ne_one, reduceCtorEq, List.map_cons, List.map_nil, List.mapM_cons, List.mapM_nil, List.flatMap_cons, List.flatMap_nil, List.append_nil, List.nil_append, List.cons_append, List.drop_zero, List.drop_succ_cons, List.take_zero, List.take_succ_cons, List.take_nil, List.drop_nil, List.length_cons, List.length_nil, List.getElem?_cons_zero, List.getElem?_cons_succ, List.getElem?_nil, List.set_cons_zero, List.set_cons_succ, List.all_cons, List.all_nil, Option.bind_some, Option.bind_none, Option.map_some, Option.map_none, Option.pure_def, Option.bind_eq_bind, Bool.and_true, Bool.true_and, Bool.and_self, Bool.or_false, Bool.false_or, Bool.and_false, Bool.false_and, Bool.or_true, Bool.true_or, Bool.not_true, Bool.not_false, Bool.not_not, decide_true, decide_false, and_self, and_true, true_and, beq_self_eq_true, beq_true, beq_false, bne_self_eq_false, Int.reduceBNe, Int.reduceBEq, Int.reduceLT, Int.reduceLE, Int.reduceGT, Bool.false_eq_true, Nat.zero_lt_succ, Nat.zero_lt_one, Nat.add_assoc, Nat.left_eq_add, Nat.add_eq_left]
  by_cases hl : (lst a).length = (lst b).length
  · have hd : (((lst a).length : Int) != ((lst b).length : Int)) = false := by simp [hl]
    simp +contextual -implicitDefEqProofs (maxSteps := 2000000) only [↓wP, wQ, wQ1, wQ2, wQ3, boxE, List.take_length, partsOf, ↓reduceIte, Nat.reduceEqDiff, Nat.reduceAdd, Nat.reduceSub, Nat.reduceLeDiff, Nat.reduceLT, Nat.reduceMul, Nat.zero_add, Nat.add_zero, Nat.mul_zero, Nat.le_refl, Nat.zero_le, Nat.one_ne_zero, Nat.zero_ne_one, reduceCtorEq, List.map_cons, List.map_nil, List.mapM_cons, List.mapM_nil, List.flatMap_cons, List.flatMap_nil, List.append_nil, List.nil_append, List.cons_append, List.drop_zero, List.drop_succ_cons, List.take_zero, List.take_succ_cons, List.take_nil, List.drop_nil, List.length_cons, List.length_nil, List.getElem?_cons_zero, List.getElem?_cons_succ, List.getElem?_nil, List.set_cons_zero, List.set_cons_succ, List.all_cons, List.all_nil, Option.bind_some, Option.bind_none, Option.map_some, Option.map_none, Option.pure_def, Option.bind_eq_bind, Bool.and_true, Bool.true_and, Bool.and_self, Bool.or_false, Bool.false_or, Bool.and_false, Bool.false_and, Bool.or_true, Bool.true_or, Bool.not_true, Bool.not_false, Bool.not_not, decide_true, decide_false, and_self, and_true, true_and, beq_self_eq_true, beq_true, beq_false, bne_self_eq_false, Int.reduceBNe, Int.reduceBEq, Int.reduceLT, Int.reduceLE, Int.reduceGT, Bool.false_eq_true, Nat.zero_lt_succ, Nat.zero_lt_one, Nat.add_assoc, Nat.left_eq_add, Nat.add_eq_left, hd]
    refine WC_for (lst a).length 0 (fun (j : Nat) env _ _ => env 0 = slV 1 i32V a ∧ env 1 = slV 1 i32V b ∧ (lst a == lst b) = ((lst a).drop j == (lst b).drop j)) (by omega) (by decide) (by decide) (fun _ _ => rfl) (fun _ _ _ => rfl) ?_ ?_ _ _ _ rfl rfl ?_
    · intro j env σ n hj h1 h2 ⟨h3, h4, h5⟩
      simp only [vl_tmp] at h2
      have hjb : j < (lst b).length := by omega
      have hx : (lst a)[j]? = some (lst a)[j] := List.getElem?_eq_getElem hj
      have hy : (lst b)[j]? = some (lst b)[j] := List.getElem?_eq_getElem hjb
      rw [eq_drop hj hjb] at h5
      simp +contextual -implicitDefEqProofs (maxSteps := 2000000) only [↓wP, wQ, wQ1, wQ2, wQ3, boxE, List.take_length, partsOf, ↓reduceIte, Nat.reduceEqDiff, Nat.reduceAdd, Nat.reduceSub, Nat.reduceLeDiff, Nat.reduceLT, Nat.reduceMul, Nat.zero_add, Nat.add_zero, Nat.mul_zero, Nat.le_refl, Nat.zero_le, Nat.one_ne_zero, Nat.zero_ne_one, reduceCtorEq, List.map_cons, List.map_nil, List.mapM_cons, List.mapM_nil, List.flatMap_cons, List.flatMap_nil, List.append_nil, List.nil_append, List.cons_append, List.drop_zero, List.drop_succ_cons, List.take_zero, List.take_succ_cons, List.take_nil, List.drop_nil, List.length_cons, List.length_nil, List.getElem?_cons_zero, List.getElem?_cons_succ, List.getElem?_nil, List.set_cons_zero, List.set_cons_succ, List.all_cons, List.all_nil, Option.bind_some, Option.bind_none, Option.map_some, Option.map_none, Option.pure_def, Option.bind_eq_bind, Bool.and_true, Bool.true_and, Bool.and_self, Bool.or_false, Bool.false_or, Bool.and_false, Bool.false_and, Bool.or_true, Bool.true_or, Bool.not_true, Bool.not_false, Bool.not_not, decide_true, decide_false, and_self, and_true, true_and, beq_self_eq_true, beq_true, beq_false, bne_self_eq_false, Int.reduceBNe, Int.reduceBEq, Int.reduceLT, Int.reduceLE, Int.reduceGT, Bool.false_eq_true, Nat.zero_lt_succ, Nat.zero_lt_one, Nat.add_assoc, Nat.left_eq_add, Nat.add_eq_left, h1, h2, h3, h4, hx, hy, i32V]
      refine condC_split (fun hb => ?_) (fun hb => ?_)
      · have e1 : ((lst a)[j] == (lst b)[j]) = false := by simpa using hb
        rw [e1, Bool.false_and] at h5
        simp +contextual -implicitDefEqProofs (maxSteps := 2000000) only [↓wP, wQ, wQ1, wQ2, wQ3, boxE, List.take_length, partsOf, ↓reduceIte, Nat.reduceEqDiff, Nat.reduceAdd, Nat.reduceSub, Nat.reduceLeDiff, Nat.reduceLT, Nat.reduceMul, Nat.zero_add, Nat.add_zero, Nat.mul_zero, Nat.le_refl, Nat.zero_le, Nat.one_ne_zero, Nat.zero_ne_one, reduceCtorEq, List.map_cons, List.map_nil, List.mapM_cons, List.mapM_nil, List.flatMap_cons, List.flatMap_nil, List.append_nil, List.nil_append, List.cons_append, List.drop_zero, List.drop_succ_cons, List.take_zero, List.take_succ_cons, List.take_nil, List.drop_nil, List.length_cons, List.length_nil, List.getElem?_cons_zero, List.getElem?_cons_succ, List.getElem?_nil, List.set_cons_zero, List.set_cons_succ, List.all_cons, List.all_nil, Option.bind_some, Option.bind_none, Option.map_some, Option.map_none, Option.pure_def, Option.bind_eq_bind, Bool.and_true, Bool.true_and, Bool.and_self, Bool.or_false, Bool.false_or, Bool.and_false, Bool.false_and, Bool.or_true, Bool.true_or, Bool.not_true, Bool.not_false, Bool.not_not, decide_true, decide_false, and_self, and_true, true_and, beq_self_eq_true, beq_true, beq_false, bne_self_eq_false, Int.reduceBNe, Int.reduceBEq, Int.reduceLT, Int.reduceLE, Int.reduceGT, Bool.false_eq_true, Nat.zero_lt_succ, Nat.zero_lt_one, Nat.add_assoc, Nat.left_eq_add, Nat.add_eq_left, h5]
      · have e1 : ((lst a)[j] == (lst b)[j]) = true := by simpa using hb
        rw [e1, Bool.true_and] at h5
        simp +contextual -implicitDefEqProofs (maxSteps := 2000000) only [↓wP, wQ, wQ1, wQ2, wQ3, boxE, List.take_length, partsOf, ↓reduceIte, Nat.reduceEqDiff, Nat.reduceAdd, Nat.reduceSub, Nat.reduceLeDiff, Nat.reduceLT, Nat.reduceMul, Nat.zero_add, Nat.add_zero, Nat.mul_zero, Nat.le_refl, Nat.zero_le, Nat.one_ne_zero, Nat.zero_ne_one, reduceCtorEq, List.map_cons, List.map_nil, List.mapM_cons, List.mapM_nil, List.flatMap_cons, List.flatMap_nil, List.append_nil, List.nil_append, List.cons_append, List.drop_zero, List.drop_succ_cons, List.take_zero, List.take_succ_cons, List.take_nil, List.drop_nil, List.length_cons, List.length_nil, List.getElem?_cons_zero, List.getElem?_cons_succ, List.getElem?_nil, List.set_cons_zero, List.set_cons_succ, List.all_cons, List.all_nil, Option.bind_some, Option.bind_none, Option.map_some, Option.map_none, Option.pure_def, Option.bind_eq_bind, Bool.and_true, Bool.true_and, Bool.and_self, Bool.or_false, Bool.false_or, Bool.and_false, Bool.false_and, Bool.or_true, Bool.true_or, Bool.not_true, Bool.not_false, Bool.not_not, decide_true, decide_false, and_self, and_true, true_and, beq_self_eq_true, beq_true, beq_false, bne_self_eq_false, Int.reduceBNe, Int.reduceBEq, Int.reduceLT, Int.reduceLE, Int.reduceGT, Bool.false_eq_true, Nat.zero_lt_succ, Nat.zero_lt_one, Nat.add_assoc, Nat.left_eq_add, Nat.add_eq_left, h1, h2, h3, h4, h5]
    · intro env σ n ⟨h3, h4, h5⟩ h1 h2
      have e : (lst b).drop (lst a).length = [] := by rw [hl, List.drop_length]
      rw [List.drop_length, e] at h5
      simp +contextual -implicitDefEqProofs (maxSteps := 2000000) only [↓wP, wQ, wQ1, wQ2, wQ3, boxE, List.take_length, partsOf, ↓reduceIte, Nat.reduceEqDiff, Nat.reduceAdd, Nat.reduceSub, Nat.reduceLeDiff, Nat.reduceLT, Nat.reduceMul, Nat.zero_add, Nat.add_zero, Nat.mul_zero, Nat.le_refl, Nat.zero_le, Nat.one_ne_zero, Nat.zero_ne_one, reduceCtorEq, List.map_cons, List.map_nil, List.mapM_cons, List.mapM_nil, List.flatMap_cons, List.flatMap_nil, List.append_nil, List.nil_append, List.cons_append, List.drop_zero, List.drop_succ_cons, List.take_zero, List.take_succ_cons, List.take_nil, List.drop_nil, List.length_cons, List.length_nil, List.getElem?_cons_zero, List.getElem?_cons_succ, List.getElem?_nil, List.set_cons_zero, List.set_cons_succ, List.all_cons, List.all_nil, Option.bind_some, Option.bind_none, Option.map_some, Option.map_none, Option.pure_def, Option.bind_eq_bind, Bool.and_true, Bool.true_and, Bool.and_self, Bool.or_false, Bool.false_or, Bool.and_false, Bool.false_and, Bool.or_true, Bool.true_or, Bool.not_true, Bool.not_false, Bool.not_not, decide_true, decide_false, and_self, and_true, true_and, beq_self_eq_true, beq_true, beq_false, bne_self_eq_false, Int.reduceBNe, Int.reduceBEq, Int.reduceLT, Int.reduceLE, Int.reduceGT, Bool.false_eq_true, Nat.zero_lt_succ, Nat.zero_lt_one, Nat.add_assoc, Nat.left_eq_add, Nat.add_eq_left, h5]
    · exact ⟨rfl, rfl, by simp⟩
  · have hd : (((lst a).length : Int) != ((lst b).length : Int)) = true := by simp; omega
    have h5 := eq_len (a := lst a) (b := lst b) hl
    simp +contextual -implicitDefEqProofs (maxSteps := 2000000) only [↓wP, wQ, wQ1, wQ2, wQ3, boxE, List.take_length, partsOf, ↓reduceIte, Nat.reduceEqDiff, Nat.reduceAdd, Nat.reduceSub, Nat.reduceLeDiff, Nat.reduceLT, Nat.reduceMul, Nat.zero_add, Nat.add_zero, Nat.mul_zero, Nat.le_refl, Nat.zero_le, Nat.one_ne_zero, Nat.zero_ne_one, reduceCtorEq, List.map_cons, List.map_nil, List.mapM_cons, List.mapM_nil, List.flatMap_cons, List.flatMap_nil, List.append_nil, List.nil_append, List.cons_append, List.drop_zero, List.drop_succ_cons, List.take_zero, List.take_succ_cons, List.take_nil, List.drop_nil, List.length_cons, List.length_nil, List.getElem?_cons_zero, List.getElem?_cons_succ, List.getElem?_nil, List.set_cons_zero, List.set_cons_succ, List.all_cons, List.all_nil, Option.bind_some, Option.bind_none, Option.map_some, Option.map_none, Option.pure_def, Option.bind_eq_bind, Bool.and_true, Bool.true_and, Bool.and_self, Bool.or_false, Bool.false_or, Bool.and_false, Bool.false_and, Bool.or_true, Bool.true_or, Bool.not_true, Bool.not_false, Bool.not_not, decide_true, decide_false, and_self, and_true, true_and, beq_self_eq_true, beq_true, beq_false, bne_self_eq_false, Int.reduceBNe, Int.reduceBEq, Int.reduceLT, Int.reduceLE, Int.reduceGT, Bool.false_eq_true, Nat.zero_lt_succ, Nat.zero_lt_one, Nat.add_assoc, Nat.left_eq_add, Nat.add_eq_left, hd, h5]

theorem f38 (a b : Option (List Int)) (ha : (lst a).length < 9223372036854775808) (fs : Bool) (σ : Sto) (n lk : Nat) : callE T fs 38 [slV 1 i32V a, slV 1 i32V b] σ n lk = some (.bool (lst a == lst b), σ, n) :=
  callE_tr (by decide) (r38 a b ha) (by simp [Tr, Tr_slV]) rfl fs σ n lk

theorem r19 (a b : Option (List Int)) (ha : (lst a).length < 9223372036854775808) : res T 19 [slV 1 i32V a, slV 1 i32V b] = some (.bool (lst a == lst b)) := by
  refine run_res (run_pure (fn := g19) rfl rfl (by decide) ?_)
  simp only [g19, b19]
  have h := f38 a b ha
  simp +contextual -implicitDefEqProofs (maxSteps := 2000000) only [↓wP, wQ, wQ1, wQ2, wQ3, boxE, List.take_length, partsOf, ↓reduceIte, Nat.reduceEqDiff, Nat.reduceAdd, Nat.reduceSub, Nat.reduceLeDiff, Nat.reduceLT, Nat.reduceMul, Nat.zero_add, Nat.add_zero, Nat.mul_zero, Nat.le_refl, Nat.zero_le, Nat.one_ne_zero, Nat.zero_ne_one, reduceCtorEq, List.map_cons, List.map_nil, List.mapM_cons, List.mapM_nil, List.flatMap_cons, List.flatMap_nil, List.append_nil, List.nil_append, List.cons_append, List.drop_zero, List.drop_succ_cons, List.take_zero, List.take_succ_cons, List.take_nil, List.drop_nil, List.length_cons, List.length_nil, List.getElem?_cons_zero, List.getElem?_cons_succ, List.getElem?_nil, List.set_cons_zero, List.set_cons_succ, List.all_cons, List.all_nil, Option.bind_some, Option.bind_none, Option.map_some, Option.map_none, Option.pure_def, Option.bind_eq_bind, Bool.and_true, Bool.true_and, Bool.and_self, Bool.or_false, Bool.false_or, Bool.and_false, Bool.false_and, Bool.or_true, Bool.true_or, Bool.not_true, Bool.not_false, Bool.not_not, decide_true, decide_false, and_self, and_true, true_and, beq_self_eq_true, beq_true, beq_false, bne_self_eq_false, Int.reduceBNe, Int.reduceBEq, Int.reduceLT, Int.reduceLE, Int.reduceGT, Bool.false_eq_true, Nat.zero_lt_succ, Nat.zero_lt_one, Nat.add_assoc, Nat.left_eq_add, Nat.add_eq_left, h]

theorem f19 (a b : Option (List Int)) (ha : (lst a).length < 9223372036854775808) (fs : Bool) (σ : Sto) (n lk : Nat) : callE T fs 19 [slV 1 i32V a, slV 1 i32V b] σ n lk = some (.bool (lst a == lst b), σ, n) :=
  callE_tr (by decide) (r19 a b ha) (by simp [Tr, Tr_slV]) rfl fs σ n lk

theorem r37 (a b : Option (List Int)) (ha : (lst a).length < 9223372036854775808) : res T 37 [slV 1 i32V a, slV 1 i32V b] = some (.bool (lst a == lst b)) := by
  refine run_res (run_pure (fn := g37) rfl rfl (by decide) ?_)
  simp only [g37, b37]
  simp +contextual -implicitDefEqProofs (maxSteps := 2000000) only [↓wP, wQ, wQ1, wQ2, wQ3, boxE, List.take_length, partsOf, ↓reduceIte, Nat.reduceEqDiff, Nat.reduceAdd, Nat.reduceSub, Nat.reduceLeDiff, Nat.reduceLT, Nat.reduceMul, Nat.zero_add, Nat.add_zero, Nat.mul_zero, Nat.le_refl, Nat.zero_le, Nat.one_ne_zero, Nat.zero_ne_one, reduceCtorEq, List.map_cons, List.map_nil, List.mapM_cons, List.mapM_nil, List.flatMap_cons, List.flatMap_nil, List.append_nil, List.nil_append, List.cons_append, List.drop_zero, List.drop_succ_cons, List.take_zero, List.take_succ_cons, List.take_nil, List.drop_nil, List.length_cons, List.length_nil, List.getElem?_cons_zero, List.getElem?_cons_succ, List.getElem?_nil, List.set_cons_zero, List.set_cons_succ, List.all_cons, List.all_nil, Option.bind_some, Option.bind_none, Option.map_some, Option.map_none, Option.pure_def, Option.bind_eq_bind, Bool.and_true, Bool.true_and, Bool.and_self, Bool.or_false, Bool.false_or, Bool.and_false, Bool.false_and, Bool.or_true, Bool.true_or, Bool.not_true, Bool.not_false, Bool.not_not, decide_true, decide_false, and_self, and_true, true_and, beq_self_eq_true, beq_true, beq_false, bne_self_eq_false, Int.reduceBNe, Int.reduceBEq, Int.reduceLT, Int.reduceLE, Int.reduceGT, Bool.false_eq_true, Nat.zero_lt_succ, Nat.zero_lt_one, Nat.add_assoc, Nat.left_eq_add, Nat.add_eq_left]
  by_cases hl : (lst a).length = (lst b).length
  · have hd : (((lst a).length : Int) != ((lst b).length : Int)) = false := by simp [hl]
    simp +contextual -implicitDefEqProofs (maxSteps := 2000000) only [↓wP, wQ, wQ1, wQ2, wQ3, boxE, List.take_length, partsOf, ↓reduceIte, Nat.reduceEqDiff, Nat.reduceAdd, Nat.reduceSub, Nat.reduceLeDiff, Nat.reduceLT, Nat.reduceMul, Nat.zero_add, Nat.add_zero, Nat.mul_zero, Nat.le_refl, Nat.zero_le, Nat.one_ne_zero, Nat.zero_ne_one, reduceCtorEq, List.map_cons, List.map_nil, List.mapM_cons, List.mapM_nil, List.flatMap_cons, List.flatMap_nil, List.append_nil, List.nil_append, List.cons_append, List.drop_zero, List.drop_succ_cons, List.take_zero, List.take_succ_cons, List.take_nil, List.drop_nil, List.length_cons, List.length_nil, List.getElem?_cons_zero, List.getElem?_cons_succ, List.getElem?_nil, List.set_cons_zero, List.set_cons_succ, List.all_cons, List.all_nil, Option.bind_some, Option.bind_none, Option.map_some, Option.map_none, Option.pure_def, Option.bind_eq_bind, Bool.and_true, Bool.true_and, Bool.and_self, Bool.or_false, Bool.false_or, Bool.and_false, Bool.false_and, Bool.or_true, Bool.true_or, Bool.not_true, Bool.not_false, Bool.not_not, decide_true, decide_false, and_self, and_true, true_and, beq_self_eq_true, beq_true, beq_false, bne_self_eq_false, Int.reduceBNe, Int.reduceBEq, Int.reduceLT, Int.reduceLE, Int.reduceGT, Bool.false_eq_true, Nat.zero_lt_succ, Nat.zero_lt_one, Nat.add_assoc, Nat.left_eq_add, Nat.add_eq_left, hd]
    refine WC_loopI 0 (fun (j : Nat) env _ _ => j ≤ (lst a).length ∧ env 5 = .int .i64 (j : Int) ∧ env 0 = slV 1 i32V a ∧ env 1 = slV 1 i32V b ∧ (lst a == lst b) = ((lst a).drop j == (lst b).drop j))
      (fun j => (lst a).length - j) ?_ 0 _ _ _ ⟨Nat.zero_le _, rfl, rfl, rfl, by simp⟩
    intro j env σ n ⟨h0, h1, h3, h4, h5⟩
    by_cases hj : j < (lst a).length
    · have hd : decide ((j : Int) < ((lst a).length : Int)) = true := by simp [hj]
      have hw : IntKind.i64.wrap ((j : Int) + 1) = ((j + 1 : Nat) : Int) := by rw [wrap_i64] <;> omega
      have hjb : j < (lst b).length := by omega
      have hx : (lst a)[j]? = some (lst a)[j] := List.getElem?_eq_getElem hj
      have hy : (lst b)[j]? = some (lst b)[j] := List.getElem?_eq_getElem hjb
      rw [eq_drop hj hjb] at h5
      simp +contextual -implicitDefEqProofs (maxSteps := 2000000) only [↓wP, wQ, wQ1, wQ2, wQ3, boxE, List.take_length, partsOf, ↓reduceIte, Nat.reduceEqDiff, Nat.reduceAdd, Nat.reduceSub, Nat.reduceLeDiff, Nat.reduceLT, Nat.reduceMul, Nat.zero_add, Nat.add_zero, Nat.mul_zero, Nat.le_refl, Nat.zero_le, Nat.one_ne_zero, Nat.zero_ne_one, reduceCtorEq, List.map_cons, List.map_nil, List.mapM_cons, List.mapM_nil, List.flatMap_cons, List.flatMap_nil, List.append_nil, List.nil_append, List.cons_append, List.drop_zero, List.drop_succ_cons, List.take_zero, List.take_succ_cons, List.take_nil, List.drop_nil, List.length_cons, List.length_nil, List.getElem?_cons_zero, List.getElem?_cons_succ, List.getElem?_nil, List.set_cons_zero, List.set_cons_succ, List.all_cons, List.all_nil, Option.bind_some, Option.bind_none, Option.map_some, Option.map_none, Option.pure_def, Option.bind_eq_bind, Bool.and_true, Bool.true_and, Bool.and_self, Bool.or_false, Bool.false_or, Bool.and_false, Bool.false_and, Bool.or_true, Bool.true_or, Bool.not_true, Bool.not_false, Bool.not_not, decide_true, decide_false, and_self, and_true, true_and, beq_self_eq_true, beq_true, beq_false, bne_self_eq_false, Int.reduceBNe, Int.reduceBEq, Int.reduceLT, Int.reduceLE, Int.reduceGT, Bool.false_eq_true, Nat.zero_lt_succ, Nat.zero_lt_one, Nat.add_assoc, Nat.left_eq_add, Nat.add_eq_left, h1, h3, h4, hx, hy, i32V, hd]
      refine condC_split (fun hb => ?_) (fun hb => ?_)
      · have e1 : ((lst a)[j] == (lst b)[j]) = false := by simpa using hb
        rw [e1, Bool.false_and] at h5
        simp +contextual -implicitDefEqProofs (maxSteps := 2000000) only [↓wP, wQ, wQ1, wQ2, wQ3, boxE, List.take_length, partsOf, ↓reduceIte, Nat.reduceEqDiff, Nat.reduceAdd, Nat.reduceSub, Nat.reduceLeDiff, Nat.reduceLT, Nat.reduceMul, Nat.zero_add, Nat.add_zero, Nat.mul_zero, Nat.le_refl, Nat.zero_le, Nat.one_ne_zero, Nat.zero_ne_one, reduceCtorEq, List.map_cons, List.map_nil, List.mapM_cons, List.mapM_nil, List.flatMap_cons, List.flatMap_nil, List.append_nil, List.nil_append, List.cons_append, List.drop_zero, List.drop_succ_cons, List.take_zero, List.take_succ_cons, List.take_nil, List.drop_nil, List.length_cons, List.length_nil, List.getElem?_cons_zero, List.getElem?_cons_succ, List.getElem?_nil, List.set_cons_zero, List.set_cons_succ, List.all_cons, List.all_nil, Option.bind_some, Option.bind_none, Option.map_some, Option.map_none, Option.pure_def, Option.bind_eq_bind, Bool.and_true, Bool.true_and, Bool.and_self, Bool.or_false, Bool.false_or, Bool.and_false, Bool.false_and, Bool.or_true, Bool.true_or, Bool.not_true, Bool.not_false, Bool.not_not, decide_true, decide_false, and_self, and_true, true_and, beq_self_eq_true, beq_true, beq_false, bne_self_eq_false, Int.reduceBNe, Int.reduceBEq, Int.reduceLT, Int.reduceLE, Int.reduceGT, Bool.false_eq_true, Nat.zero_lt_succ, Nat.zero_lt_one, Nat.add_assoc, Nat.left_eq_add, Nat.add_eq_left, h5]
      · have e1 : ((lst a)[j] == (lst b)[j]) = true := by simpa using hb
        rw [e1, Bool.true_and] at h5
        simp +contextual -implicitDefEqProofs (maxSteps := 2000000) only [↓wP, wQ, wQ1, wQ2, wQ3, boxE, List.take_length, partsOf, ↓reduceIte, Nat.reduceEqDiff, Nat.reduceAdd, Nat.reduceSub, Nat.reduceLeDiff, Nat.reduceLT, Nat.reduceMul, Nat.zero_add, Nat.add_zero, Nat.mul_zero, Nat.le_refl, Nat.zero_le, Nat.one_ne_zero, Nat.zero_ne_one, reduceCtorEq, List.map_cons, List.map_nil, List.mapM_cons, List.mapM_nil, List.flatMap_cons, List.flatMap_nil, List.append_nil, List.nil_append, List.cons_append, List.drop_zero, List.drop_succ_cons, List.take_zero, List.take_succ_cons, List.take_nil, List.drop_nil, List.length_cons, List.length_nil, List.getElem?_cons_zero, List.getElem?_cons_succ, List.getElem?_nil, List.set_cons_zero, List.set_cons_succ, List.all_cons, List.all_nil, Option.bind_some, Option.bind_none, Option.map_some, Option.map_none, Option.pure_def, Option.bind_eq_bind, Bool.and_true, Bool.true_and, Bool.and_self, Bool.or_false, Bool.false_or, Bool.and_false, Bool.false_and, Bool.or_true, Bool.true_or, Bool.not_true, Bool.not_false, Bool.not_not, decide_true, decide_false, and_self, and_true, true_and, beq_self_eq_true, beq_true, beq_false, bne_self_eq_false, Int.reduceBNe, Int.reduceBEq, Int.reduceLT, Int.reduceLE, Int.reduceGT, Bool.false_eq_true, Nat.zero_lt_succ, Nat.zero_lt_one, Nat.add_assoc, Nat.left_eq_add, Nat.add_eq_left, h1, h3, h4, hw]
        exact ⟨j + 1, by omega, by omega, rfl, h5⟩
    · have hd : decide ((j : Int) < ((lst a).length : Int)) = false := by simp; omega
      have e1 : (lst a).drop j = [] := by rw [List.drop_eq_nil_iff]; omega
      have e2 : (lst b).drop j = [] := by rw [List.drop_eq_nil_iff]; omega
      rw [e1, e2] at h5
      simp +contextual -implicitDefEqProofs (maxSteps := 2000000) only [↓wP, wQ, wQ1, wQ2, wQ3, boxE, List.take_length, partsOf, ↓reduceIte, Nat.reduceEqDiff, Nat.reduceAdd, Nat.reduceSub, Nat.reduceLeDiff, Nat.reduceLT, Nat.reduceMul, Nat.zero_add, Nat.add_zero, Nat.mul_zero, Nat.le_refl, Nat.zero_le, Nat.one_ne_zero, Nat.zero_ne_one, reduceCtorEq, List.map_cons, List.map_nil, List.mapM_cons, List.mapM_nil, List.flatMap_cons, List.flatMap_nil, List.append_nil, List.nil_append, List.cons_append, List.drop_zero, List.drop_succ_cons, List.take_zero, List.take_succ_cons, List.take_nil, List.drop_nil, List.length_cons, List.length_nil, List.getElem?_cons_zero, List.getElem?_cons_succ, List.getElem?_nil, List.set_cons_zero, List.set_cons_succ, List.all_cons, List.all_nil, Option.bind_some, Option.bind_none, Option.map_some, Option.map_none, Option.pure_def, Option.bind_eq_bind, Bool.and_true, Bool.true_and, Bool.and_self, Bool.or_false, Bool.false_or, Bool.and_false, Bool.false_and, Bool.or_true, Bool.true_or, Bool.not_true, Bool.not_false, Bool.not_not, decide_true, decide_false, and_self, and_true, true_and, beq_self_eq_true, beq_true, beq_false, bne_self_eq_false, Int.reduceBNe, Int.reduceBEq, Int.reduceLT, Int.reduceLE, Int.reduceGT, Bool.false_eq_true, Nat.zero_lt_succ, Nat.zero_lt_one, Nat.add_assoc, Nat.left_eq_add, Nat.add_eq_left, h1, h3, h4, hd, h5]
  · have hd : (((lst a).length : Int) != ((lst b).length : Int)) = true := by simp; omega
    have h5 := eq_len (a := lst a) (b := lst b) hl
    simp +contextual -implicitDefEqProofs (maxSteps := 2000000) only [↓wP, wQ, wQ1, wQ2, wQ3, boxE, List.take_length, partsOf, ↓reduceIte, Nat.reduceEqDiff, Nat.reduceAdd, Nat.reduceSub, Nat.reduceLeDiff, Nat.reduceLT, Nat.reduceMul, Nat.zero_add, Nat.add_zero, Nat.mul_zero, Nat.le_refl, Nat.zero_le, Nat.one_ne_zero, Nat.zero_ne_one, reduceCtorEq, List.map_cons, List.map_nil, List.mapM_cons, List.mapM_nil, List.flatMap_cons, List.flatMap_nil, List.append_nil, List.nil_append, List.cons_append, List.drop_zero, List.drop_succ_cons, List.take_zero, List.take_succ_cons, List.take_nil, List.drop_nil, List.length_cons, List.length_nil, List.getElem?_cons_zero, List.getElem?_cons_succ, List.getElem?_nil, List.set_cons_zero, List.set_cons_succ, List.all_cons, List.all_nil, Option.bind_some, Option.bind_none, Option.map_some, Option.map_none, Option.pure_def, Option.bind_eq_bind, Bool.and_true, Bool.true_and, Bool.and_self, Bool.or_false, Bool.false_or, Bool.and_false, Bool.false_and, Bool.or_true, Bool.true_or, Bool.not_true, Bool.not_false, Bool.not_not, decide_true, decide_false, and_self, and_true, true_and, beq_self_eq_true, beq_true, beq_false, bne_self_eq_false, Int.reduceBNe, Int.reduceBEq, Int.reduceLT, Int.reduceLE, Int.reduceGT, Bool.false_eq_true, Nat.zero_lt_succ, Nat.zero_lt_one, Nat.add_assoc, Nat.left_eq_add, Nat.add_eq_left, hd, h5]

theorem f37 (a b : Option (List Int)) (ha : (lst a).length < 9223372036854775808) (fs : Bool) (σ : Sto) (n lk : Nat) : callE T fs 37 [slV 1 i32V a, slV 1 i32V b] σ n lk = some (.bool (lst a == lst b), σ, n) :=
  callE_tr (by decide) (r37 a b ha) (by simp [Tr, Tr_slV]) rfl fs σ n lk

theorem r40 (a : Option (List Int)) (ha : (lst a).length < 9223372036854775808) : res T 40 [slV 1 i32V a] = some (.bool (okV a)) := by
  refine run_res (run_pure (fn := g40) rfl rfl (by decide) ?_)
  simp only [g40, b40]
  simp +contextual -implicitDefEqProofs (maxSteps := 2000000) only [↓wP, wQ, wQ1, wQ2, wQ3, boxE, List.take_length, partsOf, ↓reduceIte, Nat.reduceEqDiff, Nat.reduceAdd, Nat.reduceSub, Nat.reduceLeDiff, Nat.reduceLT, Nat.reduceMul, Nat.zero_add, Nat.add_zero, Nat.mul_zero, Nat.le_refl, Nat.zero_le, Nat.one_ne_zero, Nat.zero_ne_one, reduceCtorEq, List.map_cons, List.map_nil, List.mapM_cons, List.mapM_nil, List.flatMap_cons, List.flatMap_nil, List.append_nil, List.nil_append, List.cons_append, List.drop_zero, List.drop_succ_cons, List.take_zero, List.take_succ_cons, List.take_nil, List.drop_nil, List.length_cons, List.length_nil, List.getElem?_cons_zero, List.getElem?_cons_succ, List.getElem?_nil, List.set_cons_zero, List.set_cons_succ, List.all_cons, List.all_nil, Option.bind_some, Option.bind_none, Option.map_some, Option.map_none, Option.pure_def, Option.bind_eq_bind, Bool.and_true, Bool.true_and, Bool.and_self, Bool.or_false, Bool.false_or, Bool.and_false, Bool.false_and, Bool.or_true, Bool.true_or, Bool.not_true, Bool.not_false, Bool.not_not, decide_true, decide_false, and_self, and_true, true_and, beq_self_eq_true, beq_true, beq_false, bne_self_eq_false, Int.reduceBNe, Int.reduceBEq, Int.reduceLT, Int.reduceLE, Int.reduceGT, Bool.false_eq_true, Nat.zero_lt_succ, Nat.zero_lt_one, Nat.add_assoc, Nat.left_eq_add, Nat.add_eq_left]
  refine WC_loopI 0 (fun (j : Nat) env _ _ => j ≤ (lst a).length ∧ env 3 = .int .i64 (j : Int) ∧ env 0 = slV 1 i32V a ∧ (lst a).all okI = ((lst a).drop j).all okI)
    (fun j => (lst a).length - j) ?_ 0 _ _ _ ⟨Nat.zero_le _, rfl, rfl, by simp⟩
  intro j env σ n ⟨h0, h1, h3, h5⟩
  by_cases hj : j < (lst a).length
  · have hd : decide ((j : Int) < ((lst a).length : Int)) = true := by simp [hj]
    have hw : IntKind.i64.wrap ((j : Int) + 1) = ((j + 1 : Nat) : Int) := by rw [wrap_i64] <;> omega
    have hx : (lst a)[j]? = some (lst a)[j] := List.getElem?_eq_getElem hj
    rw [List.drop_eq_getElem_cons hj, List.all_cons] at h5
    simp +contextual -implicitDefEqProofs (maxSteps := 2000000) only [↓wP, wQ, wQ1, wQ2, wQ3, boxE, List.take_length, partsOf, ↓reduceIte, Nat.reduceEqDiff, Nat.reduceAdd, Nat.reduceSub, Nat.reduceLeDiff, Nat.reduceLT, Nat.reduceMul, Nat.zero_add, Nat.add_zero, Nat.mul_zero, Nat.le_refl, Nat.zero_le, Nat.one_ne_zero, Nat.zero_ne_one, reduceCtorEq, List.map_cons, List.map_nil, List.mapM_cons, List.mapM_nil, List.flatMap_cons, List.flatMap_nil, List.append_nil, List.nil_append, List.cons_append, List.drop_zero, List.drop_succ_cons, List.take_zero, List.take_succ_cons, List.take_nil, List.drop_nil, List.length_cons, List.length_nil, List.getElem?_cons_zero, List.getElem?_cons_succ, List.getElem?_nil, List.set_cons_zero, List.set_cons_succ, List.all_cons, List.all_nil, Option.bind_some, Option.bind_none, Option.map_some, Option.map_none, Option.pure_def, Option.bind_eq_bind, Bool.and_true, Bool.true_and, Bool.and_self, Bool.or_false, Bool.false_or, Bool.and_false, Bool.false_and, Bool.or_true, Bool.true_or, Bool.not_true, Bool.not_false, Bool.not_not, decide_true, decide_false, and_self, and_true, true_and, beq_self_eq_true, beq_true, beq_false, bne_self_eq_false, Int.reduceBNe, Int.reduceBEq, Int.reduceLT, Int.reduceLE, Int.reduceGT, Bool.false_eq_true, Nat.zero_lt_succ, Nat.zero_lt_one, Nat.add_assoc, Nat.left_eq_add, Nat.add_eq_left, h1, h3, hx, i32V, hd]
    refine condC_split (fun hb => ?_) (fun hb => ?_)
    · have e1 : okI (lst a)[j] = false := by simp [okI] at hb ⊢; omega
      rw [e1, Bool.false_and] at h5
      have h6 : okV a = false := by simp [okV, h5]
      simp +contextual -implicitDefEqProofs (maxSteps := 2000000) only [↓wP, wQ, wQ1, wQ2, wQ3, boxE, List.take_length, partsOf, ↓reduceIte, Nat.reduceEqDiff, Nat.reduceAdd, Nat.reduceSub, Nat.reduceLeDiff, Nat.reduceLT, Nat.reduceMul, Nat.zero_add, Nat.add_zero, Nat.mul_zero, Nat.le_refl, Nat.zero_le, Nat.one_ne_zero, Nat.zero_ne_one, reduceCtorEq, List.map_cons, List.map_nil, List.mapM_cons, List.mapM_nil, List.flatMap_cons, List.flatMap_nil, List.append_nil, List.nil_append, List.cons_append, List.drop_zero, List.drop_succ_cons, List.take_zero, List.take_succ_cons, List.take_nil, List.drop_nil, List.length_cons, List.length_nil, List.getElem?_cons_zero, List.getElem?_cons_succ, List.getElem?_nil, List.set_cons_zero, List.set_cons_succ, List.all_cons, List.all_nil, Option.bind_some, Option.bind_none, Option.map_some, Option.map_none, Option.pure_def, Option.bind_eq_bind, Bool.and_true, Bool.true_and, Bool.and_self, Bool.or_false, Bool.false_or, Bool.and_false, Bool.false_and, Bool.or_true, Bool.true_or, Bool.not_true, Bool.not_false, Bool.not_not, decide_true, decide_false, and_self, and_true, true_and, beq_self_eq_true, beq_true, beq_false, bne_self_eq_false, Int.reduceBNe, Int.reduceBEq, Int.reduceLT, Int.reduceLE, Int.reduceGT, Bool.false_eq_true, Nat.zero_lt_succ, Nat.zero_lt_one, Nat.add_assoc, Nat.left_eq_add, Nat.add_eq_left, h6]
    · have e1 : okI (lst a)[j] = true := by simp [okI] at hb ⊢; omega
      rw [e1, Bool.true_and] at h5
      simp +contextual -implicitDefEqProofs (maxSteps := 2000000) only [↓wP, wQ, wQ1, wQ2, wQ3, boxE, List.take_length, partsOf, ↓reduceIte, Nat.reduceEqDiff, Nat.reduceAdd, Nat.reduceSub, Nat.reduceLeDiff, Nat.reduceLT, Nat.reduceMul, Nat.zero_add, Nat.add_zero, Nat.mul_zero, Nat.le_refl, Nat.zero_le, Nat.one_ne_zero, Nat.zero_ne_one, reduceCtorEq, List.map_cons, List.map_nil, List.mapM_cons, List.mapM_nil, List.flatMap_cons, List.flatMap_nil, List.append_nil, List.nil_append, List.cons_append, List.drop_zero, List.drop_succ_cons, List.take_zero, List.take_succ_cons, List.take_nil, List.drop_nil, List.length_cons, List.length_nil, List.getElem?_cons_zero, List.getElem?_cons_succ, List.getElem?_nil, List.set_cons_zero, List.set_cons_succ, List.all_cons, List.all_nil, Option.bind_some, Option.bind_none, Option.map_some, Option.map_none, Option.pure_def, Option.bind_eq_bind, Bool.and_true, Bool.true_and, Bool.and_self, Bool.or_false, Bool.false_or, Bool.and_false, Bool.false_and, Bool.or_true, Bool.true_or, Bool.not_true, Bool.not_false, Bool.not_not, decide_true, decide_false, and_self, and_true, true_and, beq_self_eq_true, beq_true, beq_false, bne_self_eq_false, Int.reduceBNe, Int.reduceBEq, Int.reduceLT, Int.reduceLE, Int.reduceGT, Bool.false_eq_true, Nat.zero_lt_succ, Nat.zero_lt_one, Nat.add_assoc, Nat.left_eq_add, Nat.add_eq_left, h1, h3, hw]
      exact ⟨j + 1, by omega, by omega, rfl, h5⟩
  · have hd : decide ((j : Int) < ((lst a).length : Int)) = false := by simp; omega
    have e1 : (lst a).drop j = [] := by rw [List.drop_eq_nil_iff]; omega
    rw [e1, List.all_nil] at h5
    have h6 : okV a = (decide (1 ≤ ((lst a).length : Int)) && decide (((lst a).length : Int) ≤ 4)) := by
      unfold okV
      rw [h5, Bool.and_true]
      congr 1 <;> exact decide_eq_decide.2 (by omega)
    simp +contextual -implicitDefEqProofs (maxSteps := 2000000) only [↓wP, wQ, wQ1, wQ2, wQ3, boxE, List.take_length, partsOf, ↓reduceIte, Nat.reduceEqDiff, Nat.reduceAdd, Nat.reduceSub, Nat.reduceLeDiff, Nat.reduceLT, Nat.reduceMul, Nat.zero_add, Nat.add_zero, Nat.mul_zero, Nat.le_refl, Nat.zero_le, Nat.one_ne_zero, Nat.zero_ne_one, reduceCtorEq, List.map_cons, List.map_nil, List.mapM_cons, List.mapM_nil, List.flatMap_cons, List.flatMap_nil, List.append_nil, List.nil_append, List.cons_append, List.drop_zero, List.drop_succ_cons, List.take_zero, List.take_succ_cons, List.take_nil, List.drop_nil, List.length_cons, List.length_nil, List.getElem?_cons_zero, List.getElem?_cons_succ, List.getElem?_nil, List.set_cons_zero, List.set_cons_succ, List.all_cons, List.all_nil, Option.bind_some, Option.bind_none, Option.map_some, Option.map_none, Option.pure_def, Option.bind_eq_bind, Bool.and_true, Bool.true_and, Bool.and_self, Bool.or_false, Bool.false_or, Bool.and_false, Bool.false_and, Bool.or_true, Bool.true_or, Bool.not_true, Bool.not_false, Bool.not_not, decide_true, decide_false, and_self, and_true, true_and, beq_self_eq_true, beq_true, beq_false, bne_self_eq_false, Int.reduceBNe, Int.reduceBEq, Int.reduceLT, Int.reduceLE, Int.reduceGT, Bool.false_eq_true, Nat.zero_lt_succ, Nat.zero_lt_one, Nat.add_assoc, Nat.left_eq_add, Nat.add_eq_left, h1, h3, hd, h6]

theorem f40 (a : Option (List Int)) (ha : (lst a).length < 9223372036854775808) (fs : Bool) (σ : Sto) (n lk : Nat) : callE T fs 40 [slV 1 i32V a] σ n lk = some (.bool (okV a), σ, n) :=
  callE_tr (by decide) (r40 a ha) (by simp [Tr, Tr_slV]) rfl fs σ n lk

def verEq (x y : Ver) : Bool := x.b == y.b && x.e == y.e && lst x.v == lst y.v
instance : BEq Ver := ⟨verEq⟩
theorem ver_beq (x y : Ver) : (x == y) = (x.b == y.b && x.e == y.e && lst x.v == lst y.v) := rfl

def mx (x y : Int) : Int := if x < y then y else x
theorem mx_fold (x y : Int) : (if x < y then y else x) = mx x y := rfl

theorem r17 (a b : Option (List Ver)) (ha : Sm a) : res T 17 [slV 3 verV a, slV 3 verV b] = some (.bool (lst a == lst b)) := by
  refine run_res (run_pure (fn := g17) rfl rfl (by decide) ?_)
  simp only [g17, b17]
  simp +contextual -implicitDefEqProofs (maxSteps := 2000000) only [↓wP, wQ, wQ1, wQ2, wQ3, boxE, List.take_length, partsOf, ↓reduceIte, Nat.reduceEqDiff, Nat.reduceAdd, Nat.reduceSub, Nat.reduceLeDiff, Nat.reduceLT, Nat.reduceMul, Nat.zero_add, Nat.add_zero, Nat.mul_zero, Nat.le_refl, Nat.zero_le, Nat.one_ne_zero, Nat.zero_ne_one, reduceCtorEq, List.map_cons, List.map_nil, List.mapM_cons, List.mapM_nil, List.flatMap_cons, List.flatMap_nil, List.append_nil, List.nil_append, List.cons_append, List.drop_zero, List.drop_succ_cons, List.take_zero, List.take_succ_cons, List.take_nil, List.drop_nil, List.length_cons, List.length_nil, List.getElem?_cons_zero, List.getElem?_cons_succ, List.getElem?_nil, List.set_cons_zero, List.set_cons_succ, List.all_cons, List.all_nil, Option.bind_some, Option.bind_none, Option.map_some, Option.map_none, Option.pure_def, Option.bind_eq_bind, Bool.and_true, Bool.true_and, Bool.and_self, Bool.or_false, Bool.false_or, Bool.and_false, Bool.false_and, Bool.or_true, Bool.true_or, Bool.not_true, Bool.not_false, Bool.not_not, decide_true, decide_false, and_self, and_true, true_and, beq_self_eq_true, beq_true, beq_false, bne_self_eq_false, Int.reduceBNe, Int.reduceBEq, Int.reduceLT, Int.reduceLE, Int.reduceGT, Bool.false_eq_true, Nat.zero_lt_succ, Nat.zero_lt_one, Nat.add_assoc, Nat.left_eq_add, Nat.add_eq_left]
  by_cases hl : (lst a).length = (lst b).length
  · have hd : (((lst a).length : Int) != ((lst b).length : Int)) = false := by simp [hl]
    simp +contextual -implicitDefEqProofs (maxSteps := 2000000) only [↓wP, wQ, wQ1, wQ2, wQ3, boxE, List.take_length, partsOf, ↓reduceIte, Nat.reduceEqDiff, Nat.reduceAdd, Nat.reduceSub, Nat.reduceLeDiff, Nat.reduceLT, Nat.reduceMul, Nat.zero_add, Nat.add_zero, Nat.mul_zero, Nat.le_refl, Nat.zero_le, Nat.one_ne_zero, Nat.zero_ne_one, reduceCtorEq, List.map_cons, List.map_nil, List.mapM_cons, List.mapM_nil, List.flatMap_cons, List.flatMap_nil, List.append_nil, List.nil_append, List.cons_append, List.drop_zero, List.drop_succ_cons, List.take_zero, List.take_succ_cons, List.take_nil, List.drop_nil, List.length_cons, List.length_nil, List.getElem?_cons_zero, List.getElem?_cons_succ, List.getElem?_nil, List.set_cons_zero, List.set_cons_succ, List.all_cons, List.all_nil, Option.bind_some, Option.bind_none, Option.map_some, Option.map_none, Option.pure_def, Option.bind_eq_bind, Bool.and_true, Bool.true_and, Bool.and_self, Bool.or_false, Bool.false_or, Bool.and_false, Bool.false_and, Bool.or_true, Bool.true_or, Bool.not_true, Bool.not_false, Bool.not_not, decide_true, decide_false, and_self, and_true, true_and, beq_self_eq_true, beq_true, beq_false, bne_self_eq_false, Int.reduceBNe, Int.reduceBEq, Int.reduceLT, Int.reduceLE, Int.reduceGT, Bool.false_eq_true, Nat.zero_lt_succ, Nat.zero_lt_one, Nat.add_assoc, Nat.left_eq_add, Nat.add_eq_left, hd]
    refine WC_for (lst a).length 0 (fun (j : Nat) env _ _ => env 0 = slV 3 verV a ∧ env 1 = slV 3 verV b ∧ (lst a == lst b) = ((lst a).drop j == (lst b).drop j))
      (by have := ha.1; omega) (by decide) (by decide) (fun _ _ => rfl) (fun _ _ _ => rfl) ?_ ?_ _ _ _ rfl rfl ?_
    · intro j env σ n hj h1 h2 ⟨h3, h4, h5⟩
      simp only [vl_tmp] at h2
      have hjb : j < (lst b).length := by omega
      have hx : (lst a)[j]? = some (lst a)[j] := List.getElem?_eq_getElem hj
      have hy : (lst b)[j]? = some (lst b)[j] := List.getElem?_eq_getElem hjb
      have h37 := f37 (lst a)[j].v (lst b)[j].v (ha.2 _ (List.getElem_mem hj))
      rw [eq_drop hj hjb] at h5
      simp +contextual -implicitDefEqProofs (maxSteps := 2000000) only [↓wP, wQ, wQ1, wQ2, wQ3, boxE, List.take_length, partsOf, ↓reduceIte, Nat.reduceEqDiff, Nat.reduceAdd, Nat.reduceSub, Nat.reduceLeDiff, Nat.reduceLT, Nat.reduceMul, Nat.zero_add, Nat.add_zero, Nat.mul_zero, Nat.le_refl, Nat.zero_le, Nat.one_ne_zero, Nat.zero_ne_one, reduceCtorEq, List.map_cons, List.map_nil, List.mapM_cons, List.mapM_nil, List.flatMap_cons, List.flatMap_nil, List.append_nil, List.nil_append, List.cons_append, List.drop_zero, List.drop_succ_cons, List.take_zero, List.take_succ_cons, List.take_nil, List.drop_nil, List.length_cons, List.length_nil, List.getElem?_cons_zero, List.getElem?_cons_succ, List.getElem?_nil, List.set_cons_zero, List.set_cons_succ, List.all_cons, List.all_nil, Option.bind_some, Option.bind_none, Option.map_some, Option.map_none, Option.pure_def, Option.bind_eq_bind, Bool.and_true, Bool.true_and, Bool.and_self, Bool.or_false, Bool.false_or, Bool.and_false, Bool.false_and, Bool.or_true, Bool.true_or, Bool.not_true, Bool.not_false, Bool.not_not, decide_true, decide_false, and_self, and_true, true_and, beq_self_eq_true, beq_true, beq_false, bne_self_eq_false, Int.reduceBNe, Int.reduceBEq, Int.reduceLT, Int.reduceLE, Int.reduceGT, Bool.false_eq_true, Nat.zero_lt_succ, Nat.zero_lt_one, Nat.add_assoc, Nat.left_eq_add, Nat.add_eq_left, h1, h2, h3, h4, hx, hy, verV, h37]
      refine condC_split (fun hb => ?_) (fun hb => ?_)
      · have e1 : ((lst a)[j] == (lst b)[j]) = false := by
          rw [ver_beq]
          simp only [bne] at hb
          revert hb
          generalize ((lst a)[j].b == (lst b)[j].b) = p
          generalize ((lst a)[j].e == (lst b)[j].e) = q
          generalize (lst (lst a)[j].v == lst (lst b)[j].v) = r
          cases p <;> cases q <;> cases r <;> simp
        rw [e1, Bool.false_and] at h5
        simp +contextual -implicitDefEqProofs (maxSteps := 2000000) only [↓wP, wQ, wQ1, wQ2, wQ3, boxE, List.take_length, partsOf, ↓reduceIte, Nat.reduceEqDiff, Nat.reduceAdd, Nat.reduceSub, Nat.reduceLeDiff, Nat.reduceLT, Nat.reduceMul, Nat.zero_add, Nat.add_zero, Nat.mul_zero, Nat.le_refl, Nat.zero_le, Nat.one_ne_zero, Nat.zero_ne_one, reduceCtorEq, List.map_cons, List.map_nil, List.mapM_cons, List.mapM_nil, List.flatMap_cons, List.flatMap_nil, List.append_nil, List.nil_append, List.cons_append, List.drop_zero, List.drop_succ_cons, List.take_zero, List.take_succ_cons, List.take_nil, List.drop_nil, List.length_cons, List.length_nil, List.getElem?_cons_zero, List.getElem?_cons_succ, List.getElem?_nil, List.set_cons_zero, List.set_cons_succ, List.all_cons, List.all_nil, Option.bind_some, Option.bind_none, Option.map_some, Option.map_none, Option.pure_def, Option.bind_eq_bind, Bool.and_true, Bool.true_and, Bool.and_self, Bool.or_false, Bool.false_or, Bool.and_false, Bool.false_and, Bool.or_true, Bool.true_or, Bool.not_true, Bool.not_false, Bool.not_not, decide_true, decide_false, and_self, and_true, true_and, beq_self_eq_true, beq_true, beq_false, bne_self_eq_false, Int.reduceBNe, Int.reduceBEq, Int.reduceLT, Int.reduceLE, Int.reduceGT, Bool.false_eq_true, Nat.zero_lt_succ, Nat.zero_lt_one, Nat.add_assoc, Nat.left_eq_add, Nat.add_eq_left, h5]
      · have e1 : ((lst a)[j] == (lst b)[j]) = true := by
          rw [ver_beq]
          simp only [bne] at hb
          revert hb
          generalize ((lst a)[j].b == (lst b)[j].b) = p
          generalize ((lst a)[j].e == (lst b)[j].e) = q
          generalize (lst (lst a)[j].v == lst (lst b)[j].v) = r
          cases p <;> cases q <;> cases r <;> simp
        rw [e1, Bool.true_and] at h5
        simp +contextual -implicitDefEqProofs (maxSteps := 2000000) only [↓wP, wQ, wQ1, wQ2, wQ3, boxE, List.take_length, partsOf, ↓reduceIte, Nat.reduceEqDiff, Nat.reduceAdd, Nat.reduceSub, Nat.reduceLeDiff, Nat.reduceLT, Nat.reduceMul, Nat.zero_add, Nat.add_zero, Nat.mul_zero, Nat.le_refl, Nat.zero_le, Nat.one_ne_zero, Nat.zero_ne_one, reduceCtorEq, List.map_cons, List.map_nil, List.mapM_cons, List.mapM_nil, List.flatMap_cons, List.flatMap_nil, List.append_nil, List.nil_append, List.cons_append, List.drop_zero, List.drop_succ_cons, List.take_zero, List.take_succ_cons, List.take_nil, List.drop_nil, List.length_cons, List.length_nil, List.getElem?_cons_zero, List.getElem?_cons_succ, List.getElem?_nil, List.set_cons_zero, List.set_cons_succ, List.all_cons, List.all_nil, Option.bind_some, Option.bind_none, Option.map_some, Option.map_none, Option.pure_def, Option.bind_eq_bind, Bool.and_true, Bool.true_and, Bool.and_self, Bool.or_false, Bool.false_or, Bool.and_false, Bool.false_and, Bool.or_true, Bool.true_or, Bool.not_true, Bool.not_false, Bool.not_not, decide_true, decide_false, and_self, and_true, true_and, beq_self_eq_true, beq_true, beq_false, bne_self_eq_false, Int.reduceBNe, Int.reduceBEq, Int.reduceLT, Int.reduceLE, Int.reduceGT, Bool.false_eq_true, Nat.zero_lt_succ, Nat.zero_lt_one, Nat.add_assoc, Nat.left_eq_add, Nat.add_eq_left, h1, h2, h3, h4, h5]
    · intro env σ n ⟨h3, h4, h5⟩ h1 h2
      have e : (lst b).drop (lst a).length = [] := by rw [hl, List.drop_length]
      rw [List.drop_length, e] at h5
      simp +contextual -implicitDefEqProofs (maxSteps := 2000000) only [↓wP, wQ, wQ1, wQ2, wQ3, boxE, List.take_length, partsOf, ↓reduceIte, Nat.reduceEqDiff, Nat.reduceAdd, Nat.reduceSub, Nat.reduceLeDiff, Nat.reduceLT, Nat.reduceMul, Nat.zero_add, Nat.add_zero, Nat.mul_zero, Nat.le_refl, Nat.zero_le, Nat.one_ne_zero, Nat.zero_ne_one, reduceCtorEq, List.map_cons, List.map_nil, List.mapM_cons, List.mapM_nil, List.flatMap_cons, List.flatMap_nil, List.append_nil, List.nil_append, List.cons_append, List.drop_zero, List.drop_succ_cons, List.take_zero, List.take_succ_cons, List.take_nil, List.drop_nil, List.length_cons, List.length_nil, List.getElem?_cons_zero, List.getElem?_cons_succ, List.getElem?_nil, List.set_cons_zero, List.set_cons_succ, List.all_cons, List.all_nil, Option.bind_some, Option.bind_none, Option.map_some, Option.map_none, Option.pure_def, Option.bind_eq_bind, Bool.and_true, Bool.true_and, Bool.and_self, Bool.or_false, Bool.false_or, Bool.and_false, Bool.false_and, Bool.or_true, Bool.true_or, Bool.not_true, Bool.not_false, Bool.not_not, decide_true, decide_false, and_self, and_true, true_and, beq_self_eq_true, beq_true, beq_false, bne_self_eq_false, Int.reduceBNe, Int.reduceBEq, Int.reduceLT, Int.reduceLE, Int.reduceGT, Bool.false_eq_true, Nat.zero_lt_succ, Nat.zero_lt_one, Nat.add_assoc, Nat.left_eq_add, Nat.add_eq_left, h5]
      rfl
    · exact ⟨rfl, rfl, by simp⟩
  · have hd : (((lst a).length : Int) != ((lst b).length : Int)) = true := by simp; omega
    have h5 := eq_len (a := lst a) (b := lst b) hl
    simp +contextual -implicitDefEqProofs (maxSteps := 2000000) only [↓wP, wQ, wQ1, wQ2, wQ3, boxE, List.take_length, partsOf, ↓reduceIte, Nat.reduceEqDiff, Nat.reduceAdd, Nat.reduceSub, Nat.reduceLeDiff, Nat.reduceLT, Nat.reduceMul, Nat.zero_add, Nat.add_zero, Nat.mul_zero, Nat.le_refl, Nat.zero_le, Nat.one_ne_zero, Nat.zero_ne_one, reduceCtorEq, List.map_cons, List.map_nil, List.mapM_cons, List.mapM_nil, List.flatMap_cons, List.flatMap_nil, List.append_nil, List.nil_append, List.cons_append, List.drop_zero, List.drop_succ_cons, List.take_zero, List.take_succ_cons, List.take_nil, List.drop_nil, List.length_cons, List.length_nil, List.getElem?_cons_zero, List.getElem?_cons_succ, List.getElem?_nil, List.set_cons_zero, List.set_cons_succ, List.all_cons, List.all_nil, Option.bind_some, Option.bind_none, Option.map_some, Option.map_none, Option.pure_def, Option.bind_eq_bind, Bool.and_true, Bool.true_and, Bool.and_self, Bool.or_false, Bool.false_or, Bool.and_false, Bool.false_and, Bool.or_true, Bool.true_or, Bool.not_true, Bool.not_false, Bool.not_not, decide_true, decide_false, and_self, and_true, true_and, beq_self_eq_true, beq_true, beq_false, bne_self_eq_false, Int.reduceBNe, Int.reduceBEq, Int.reduceLT, Int.reduceLE, Int.reduceGT, Bool.false_eq_true, Nat.zero_lt_succ, Nat.zero_lt_one, Nat.add_assoc, Nat.left_eq_add, Nat.add_eq_left, hd, h5]

theorem f17 (a b : Option (List Ver)) (ha : Sm a) (fs : Bool) (σ : Sto) (n lk : Nat) : callE T fs 17 [slV 3 verV a, slV 3 verV b] σ n lk = some (.bool (lst a == lst b), σ, n) :=
  callE_tr (by decide) (r17 a b ha) (by simp [Tr, Tr_slV]) rfl fs σ n lk

theorem r42 (b e : Int) (v : Option (List Int)) (b' e' : Int) (v' : Option (List Int)) (hv : (lst v).length < 9223372036854775808) : res T 42 [.agg [.int .u64 b, .int .u64 e, slV 1 i32V v], .agg [.int .u64 b', .int .u64 e', slV 1 i32V v']] = some (.bool (verEq ⟨b, e, v⟩ ⟨b', e', v'⟩)) := by
  refine run_res (run_pure (fn := g42) rfl rfl (by decide) ?_)
  simp only [g42, b42]
  have h := f19 v v' hv
  simp +contextual -implicitDefEqProofs (maxSteps := 2000000) only [↓wP, wQ, wQ1, wQ2, wQ3, boxE, List.take_length, partsOf, ↓reduceIte, Nat.reduceEqDiff, Nat.reduceAdd, Nat.reduceSub, Nat.reduceLeDiff, Nat.reduceLT, Nat.reduceMul, Nat.zero_add, Nat.add_zero, Nat.mul_zero, Nat.le_refl, Nat.zero_le, Nat.one_ne_zero, Nat.zero_ne_one, reduceCtorEq, List.map_cons, List.map_nil, List.mapM_cons, List.mapM_nil, List.flatMap_cons, List.flatMap_nil, List.append_nil, List.nil_append, List.cons_append, List.drop_zero, List.drop_succ_cons, List.take_zero, List.take_succ_cons, List.take_nil, List.drop_nil, List.length_cons, List.length_nil, List.getElem?_cons_zero, List.getElem?_cons_succ, List.getElem?_nil, List.set_cons_zero, List.set_cons_succ, List.all_cons, List.all_nil, Option.bind_some, Option.bind_none, Option.map_some, Option.map_none, Option.pure_def, Option.bind_eq_bind, Bool.and_true, Bool.true_and, Bool.and_self, Bool.or_false, Bool.false_or, Bool.and_false, Bool.false_and, Bool.or_true, Bool.true_or, Bool.not_true, Bool.not_false, Bool.not_not, decide_true, decide_false, and_self, and_true, true_and, beq_self_eq_true, beq_true, beq_false, bne_self_eq_false, Int.reduceBNe, Int.reduceBEq, Int.reduceLT, Int.reduceLE, Int.reduceGT, Bool.false_eq_true, Nat.zero_lt_succ, Nat.zero_lt_one, Nat.add_assoc, Nat.left_eq_add, Nat.add_eq_left, h]
  rfl

theorem f42 (b e : Int) (v : Option (List Int)) (b' e' : Int) (v' : Option (List Int)) (hv : (lst v).length < 9223372036854775808) (fs : Bool) (σ : Sto) (n lk : Nat) : callE T fs 42 [.agg [.int .u64 b, .int .u64 e, slV 1 i32V v], .agg [.int .u64 b', .int .u64 e', slV 1 i32V v']] σ n lk = some (.bool (verEq ⟨b, e, v⟩ ⟨b', e', v'⟩), σ, n) :=
  callE_tr (by decide) (r42 b e v b' e' v' hv) (by simp [Tr, Tr_slV]) rfl fs σ n lk

theorem r41 (a b : Option (List Ver)) (ha : Sm a) : res T 41 [slV 3 verV a, slV 3 verV b, .fn 42 []] = some (.bool (lst a == lst b)) := by
  refine run_res (run_pure (fn := g41) rfl rfl (by decide) ?_)
  simp only [g41, b41]
  simp +contextual -implicitDefEqProofs (maxSteps := 2000000) only [↓wP, wQ, wQ1, wQ2, wQ3, boxE, List.take_length, partsOf, ↓reduceIte, Nat.reduceEqDiff, Nat.reduceAdd, Nat.reduceSub, Nat.reduceLeDiff, Nat.reduceLT, Nat.reduceMul, Nat.zero_add, Nat.add_zero, Nat.mul_zero, Nat.le_refl, Nat.zero_le, Nat.one_ne_zero, Nat.zero_ne_one, reduceCtorEq, List.map_cons, List.map_nil, List.mapM_cons, List.mapM_nil, List.flatMap_cons, List.flatMap_nil, List.append_nil, List.nil_append, List.cons_append, List.drop_zero, List.drop_succ_cons, List.take_zero, List.take_succ_cons, List.take_nil, List.drop_nil, List.length_cons, List.length_nil, List.getElem?_cons_zero, List.getElem?_cons_succ, List.getElem?_nil, List.set_cons_zero, List.set_cons_succ, List.all_cons, List.all_nil, Option.bind_some, Option.bind_none, Option.map_some, Option.map_none, Option.pure_def, Option.bind_eq_bind, Bool.and_true, Bool.true_and, Bool.and_self, Bool.or_false, Bool.false_or, Bool.and_false, Bool.false_and, Bool.or_true, Bool.true_or, Bool.not_true, Bool.not_false, Bool.not_not, decide_true, decide_false, and_self, and_true, true_and, beq_self_eq_true, beq_true, beq_false, bne_self_eq_false, Int.reduceBNe, Int.reduceBEq, Int.reduceLT, Int.reduceLE, Int.reduceGT, Bool.false_eq_true, Nat.zero_lt_succ, Nat.zero_lt_one, Nat.add_assoc, Nat.left_eq_add, Nat.add_eq_left]
  by_cases hl : (lst a).length = (lst b).length
  · have hd : (((lst a).length : Int) != ((lst b).length : Int)) = false := by simp [hl]
    simp +contextual -implicitDefEqProofs (maxSteps := 2000000) only [↓wP, wQ, wQ1, wQ2, wQ3, boxE, List.take_length, partsOf, ↓reduceIte, Nat.reduceEqDiff, Nat.reduceAdd, Nat.reduceSub, Nat.reduceLeDiff, Nat.reduceLT, Nat.reduceMul, Nat.zero_add, Nat.add_zero, Nat.mul_zero, Nat.le_refl, Nat.zero_le, Nat.one_ne_zero, Nat.zero_ne_one, reduceCtorEq, List.map_cons, List.map_nil, List.mapM_cons, List.mapM_nil, List.flatMap_cons, List.flatMap_nil, List.append_nil, List.nil_append, List.cons_append, List.drop_zero, List.drop_succ_cons, List.take_zero, List.take_succ_cons, List.take_nil, List.drop_nil, List.length_cons, List.length_nil, List.getElem?_cons_zero, List.getElem?_cons_succ, List.getElem?_nil, List.set_cons_zero, List.set_cons_succ, List.all_cons, List.all_nil, Option.bind_some, Option.bind_none, Option.map_some, Option.map_none, Option.pure_def, Option.bind_eq_bind, Bool.and_true, Bool.true_and, Bool.and_self, Bool.or_false, Bool.false_or, Bool.and_false, Bool.false_and, Bool.or_true, Bool.true_or, Bool.not_true, Bool.not_false, Bool.not_not, decide_true, decide_false, and_self, and_true, true_and, beq_self_eq_true, beq_true, beq_false, bne_self_eq_false, Int.reduceBNe, Int.reduceBEq, Int.reduceLT, Int.reduceLE, Int.reduceGT, Bool.false_eq_true, Nat.zero_lt_succ, Nat.zero_lt_one, Nat.add_assoc, Nat.left_eq_add, Nat.add_eq_left, hd]
    refine WC_for (lst a).length 0 (fun (j : Nat) env _ _ => env 15 = slV 3 verV a ∧ env 1 = slV 3 verV b ∧ env 2 = .fn 42 [] ∧ (lst a == lst b) = ((lst a).drop j == (lst b).drop j))
      (by have := ha.1; omega) (by decide) (by decide) (fun _ _ => rfl) (fun _ _ _ => rfl) ?_ ?_ _ _ _ rfl rfl ?_
    · intro j env σ n hj h1 h2 ⟨h3, h4, h6, h5⟩
      simp only [vl_tmp] at h2
      have hjb : j < (lst b).length := by omega
      have hx : (lst a)[j]? = some (lst a)[j] := List.getElem?_eq_getElem hj
      have hy : (lst b)[j]? = some (lst b)[j] := List.getElem?_eq_getElem hjb
      have h42 := f42 (lst a)[j].b (lst a)[j].e (lst a)[j].v (lst b)[j].b (lst b)[j].e (lst b)[j].v (ha.2 _ (List.getElem_mem hj))
      rw [eq_drop hj hjb] at h5
      have he : verEq ⟨(lst a)[j].b, (lst a)[j].e, (lst a)[j].v⟩ ⟨(lst b)[j].b, (lst b)[j].e, (lst b)[j].v⟩ = ((lst a)[j] == (lst b)[j]) := rfl
      rw [he] at h42
      simp +contextual -implicitDefEqProofs (maxSteps := 2000000) only [↓wP, wQ, wQ1, wQ2, wQ3, boxE, List.take_length, partsOf, ↓reduceIte, Nat.reduceEqDiff, Nat.reduceAdd, Nat.reduceSub, Nat.reduceLeDiff, Nat.reduceLT, Nat.reduceMul, Nat.zero_add, Nat.add_zero, Nat.mul_zero, Nat.le_refl, Nat.zero_le, Nat.one_ne_zero, Nat.zero_ne_one, reduceCtorEq, List.map_cons, List.map_nil, List.mapM_cons, List.mapM_nil, List.flatMap_cons, List.flatMap_nil, List.append_nil, List.nil_append, List.cons_append, List.drop_zero, List.drop_succ_cons, List.take_zero, List.take_succ_cons, List.take_nil, List.drop_nil, List.length_cons, List.length_nil, List.getElem?_cons_zero, List.getElem?_cons_succ, List.getElem?_nil, List.set_cons_zero, List.set_cons_succ, List.all_cons, List.all_nil, Option.bind_some, Option.bind_none, Option.map_some, Option.map_none, Option.pure_def, Option.bind_eq_bind, Bool.and_true, Bool.true_and, Bool.and_self, Bool.or_false, Bool.false_or, Bool.and_false, Bool.false_and, Bool.or_true, Bool.true_or, Bool.not_true, Bool.not_false, Bool.not_not, decide_true, decide_false, and_self, and_true, true_and, beq_self_eq_true, beq_true, beq_false, bne_self_eq_false, Int.reduceBNe, Int.reduceBEq, Int.reduceLT, Int.reduceLE, Int.reduceGT, Bool.false_eq_true, Nat.zero_lt_succ, Nat.zero_lt_one, Nat.add_assoc, Nat.left_eq_add, Nat.add_eq_left, h1, h2, h3, h4, h6, hx, hy, verV, h42]
      refine condC_split (fun hb => ?_) (fun hb => ?_)
      · have e1 : ((lst a)[j] == (lst b)[j]) = false := by simpa using hb
        rw [e1, Bool.false_and] at h5
        simp +contextual -implicitDefEqProofs (maxSteps := 2000000) only [↓wP, wQ, wQ1, wQ2, wQ3, boxE, List.take_length, partsOf, ↓reduceIte, Nat.reduceEqDiff, Nat.reduceAdd, Nat.reduceSub, Nat.reduceLeDiff, Nat.reduceLT, Nat.reduceMul, Nat.zero_add, Nat.add_zero, Nat.mul_zero, Nat.le_refl, Nat.zero_le, Nat.one_ne_zero, Nat.zero_ne_one, reduceCtorEq, List.map_cons, List.map_nil, List.mapM_cons, List.mapM_nil, List.flatMap_cons, List.flatMap_nil, List.append_nil, List.nil_append, List.cons_append, List.drop_zero, List.drop_succ_cons, List.take_zero, List.take_succ_cons, List.take_nil, List.drop_nil, List.length_cons, List.length_nil, List.getElem?_cons_zero, List.getElem?_cons_succ, List.getElem?_nil, List.set_cons_zero, List.set_cons_succ, List.all_cons, List.all_nil, Option.bind_some, Option.bind_none, Option.map_some, Option.map_none, Option.pure_def, Option.bind_eq_bind, Bool.and_true, Bool.true_and, Bool.and_self, Bool.or_false, Bool.false_or, Bool.and_false, Bool.false_and, Bool.or_true, Bool.true_or, Bool.not_true, Bool.not_false, Bool.not_not, decide_true, decide_false, and_self, and_true, true_and, beq_self_eq_true, beq_true, beq_false, bne_self_eq_false, Int.reduceBNe, Int.reduceBEq, Int.reduceLT, Int.reduceLE, Int.reduceGT, Bool.false_eq_true, Nat.zero_lt_succ, Nat.zero_lt_one, Nat.add_assoc, Nat.left_eq_add, Nat.add_eq_left, h5]
      · have e1 : ((lst a)[j] == (lst b)[j]) = true := by simpa using hb
        rw [e1, Bool.true_and] at h5
        simp +contextual -implicitDefEqProofs (maxSteps := 2000000) only [↓wP, wQ, wQ1, wQ2, wQ3, boxE, List.take_length, partsOf, ↓reduceIte, Nat.reduceEqDiff, Nat.reduceAdd, Nat.reduceSub, Nat.reduceLeDiff, Nat.reduceLT, Nat.reduceMul, Nat.zero_add, Nat.add_zero, Nat.mul_zero, Nat.le_refl, Nat.zero_le, Nat.one_ne_zero, Nat.zero_ne_one, reduceCtorEq, List.map_cons, List.map_nil, List.mapM_cons, List.mapM_nil, List.flatMap_cons, List.flatMap_nil, List.append_nil, List.nil_append, List.cons_append, List.drop_zero, List.drop_succ_cons, List.take_zero, List.take_succ_cons, List.take_nil, List.drop_nil, List.length_cons, List.length_nil, List.getElem?_cons_zero, List.getElem?_cons_succ, List.getElem?_nil, List.set_cons_zero, List.set_cons_succ, List.all_cons, List.all_nil, Option.bind_some, Option.bind_none, Option.map_some, Option.map_none, Option.pure_def, Option.bind_eq_bind, Bool.and_true, Bool.true_and, Bool.and_self, Bool.or_false, Bool.false_or, Bool.and_false, Bool.false_and, Bool.or_true, Bool.true_or, Bool.not_true, Bool.not_false, Bool.not_not, decide_true, decide_false, and_self, and_true, true_and, beq_self_eq_true, beq_true, beq_false, bne_self_eq_false, Int.reduceBNe, Int.reduceBEq, Int.reduceLT, Int.reduceLE, Int.reduceGT, Bool.false_eq_true, Nat.zero_lt_succ, Nat.zero_lt_one, Nat.add_assoc, Nat.left_eq_add, Nat.add_eq_left, h1, h2, h3, h4, h5, h6]
    · intro env σ n ⟨h3, h4, h6, h5⟩ h1 h2
      have e : (lst b).drop (lst a).length = [] := by rw [hl, List.drop_length]
      rw [List.drop_length, e] at h5
      simp +contextual -implicitDefEqProofs (maxSteps := 2000000) only [↓wP, wQ, wQ1, wQ2, wQ3, boxE, List.take_length, partsOf, ↓reduceIte, Nat.reduceEqDiff, Nat.reduceAdd, Nat.reduceSub, Nat.reduceLeDiff, Nat.reduceLT, Nat.reduceMul, Nat.zero_add, Nat.add_zero, Nat.mul_zero, Nat.le_refl, Nat.zero_le, Nat.one_ne_zero, Nat.zero_ne_one, reduceCtorEq, List.map_cons, List.map_nil, List.mapM_cons, List.mapM_nil, List.flatMap_cons, List.flatMap_nil, List.append_nil, List.nil_append, List.cons_append, List.drop_zero, List.drop_succ_cons, List.take_zero, List.take_succ_cons, List.take_nil, List.drop_nil, List.length_cons, List.length_nil, List.getElem?_cons_zero, List.getElem?_cons_succ, List.getElem?_nil, List.set_cons_zero, List.set_cons_succ, List.all_cons, List.all_nil, Option.bind_some, Option.bind_none, Option.map_some, Option.map_none, Option.pure_def, Option.bind_eq_bind, Bool.and_true, Bool.true_and, Bool.and_self, Bool.or_false, Bool.false_or, Bool.and_false, Bool.false_and, Bool.or_true, Bool.true_or, Bool.not_true, Bool.not_false, Bool.not_not, decide_true, decide_false, and_self, and_true, true_and, beq_self_eq_true, beq_true, beq_false, bne_self_eq_false, Int.reduceBNe, Int.reduceBEq, Int.reduceLT, Int.reduceLE, Int.reduceGT, Bool.false_eq_true, Nat.zero_lt_succ, Nat.zero_lt_one, Nat.add_assoc, Nat.left_eq_add, Nat.add_eq_left, h5]
      rfl
    · exact ⟨rfl, rfl, rfl, by simp⟩
  · have hd : (((lst a).length : Int) != ((lst b).length : Int)) = true := by simp; omega
    have h5 := eq_len (a := lst a) (b := lst b) hl
    simp +contextual -implicitDefEqProofs (maxSteps := 2000000) only [↓wP, wQ, wQ1, wQ2, wQ3, boxE, List.take_length, partsOf, ↓reduceIte, Nat.reduceEqDiff, Nat.reduceAdd, Nat.reduceSub, Nat.reduceLeDiff, Nat.reduceLT, Nat.reduceMul, Nat.zero_add, Nat.add_zero, Nat.mul_zero, Nat.le_refl, Nat.zero_le, Nat.one_ne_zero, Nat.zero_ne_one, reduceCtorEq, List.map_cons, List.map_nil, List.mapM_cons, List.mapM_nil, List.flatMap_cons, List.flatMap_nil, List.append_nil, List.nil_append, List.cons_append, List.drop_zero, List.drop_succ_cons, List.take_zero, List.take_succ_cons, List.take_nil, List.drop_nil, List.length_cons, List.length_nil, List.getElem?_cons_zero, List.getElem?_cons_succ, List.getElem?_nil, List.set_cons_zero, List.set_cons_succ, List.all_cons, List.all_nil, Option.bind_some, Option.bind_none, Option.map_some, Option.map_none, Option.pure_def, Option.bind_eq_bind, Bool.and_true, Bool.true_and, Bool.and_self, Bool.or_false, Bool.false_or, Bool.and_false, Bool.false_and, Bool.or_true, Bool.true_or, Bool.not_true, Bool.not_false, Bool.not_not, decide_true, decide_false, and_self, and_true, true_and, beq_self_eq_true, beq_true, beq_false, bne_self_eq_false, Int.reduceBNe, Int.reduceBEq, Int.reduceLT, Int.reduceLE, Int.reduceGT, Bool.false_eq_true, Nat.zero_lt_succ, Nat.zero_lt_one, Nat.add_assoc, Nat.left_eq_add, Nat.add_eq_left, hd, h5]

theorem f41 (a b : Option (List Ver)) (ha : Sm a) (fs : Bool) (σ : Sto) (n lk : Nat) : callE T fs 41 [slV 3 verV a, slV 3 verV b, .fn 42 []] σ n lk = some (.bool (lst a == lst b), σ, n) :=
  callE_tr (by decide) (r41 a b ha) (by simp [Tr, Tr_slV]) rfl fs σ n lk

theorem r24 (a b : Option (List Ver)) (ha : Sm a) : res T 24 [slV 3 verV a, slV 3 verV b] = some (.bool (lst a == lst b)) := by
  refine run_res (run_pure (fn := g24) rfl rfl (by decide) ?_)
  simp only [g24, b24]
  have h := f41 a b ha
  simp +contextual -implicitDefEqProofs (maxSteps := 2000000) only [↓wP, wQ, wQ1, wQ2, wQ3, boxE, List.take_length, partsOf, ↓reduceIte, Nat.reduceEqDiff, Nat.reduceAdd, Nat.reduceSub, Nat.reduceLeDiff, Nat.reduceLT, Nat.reduceMul, Nat.zero_add, Nat.add_zero, Nat.mul_zero, Nat.le_refl, Nat.zero_le, Nat.one_ne_zero, Nat.zero_ne_one, reduceCtorEq, List.map_cons, List.map_nil, List.mapM_cons, List.mapM_nil, List.flatMap_cons, List.flatMap_nil, List.append_nil, List.nil_append, List.cons_append, List.drop_zero, List.drop_succ_cons, List.take_zero, List.take_succ_cons, List.take_nil, List.drop_nil, List.length_cons, List.length_nil, List.getElem?_cons_zero, List.getElem?_cons_succ, List.getElem?_nil, List.set_cons_zero, List.set_cons_succ, List.all_cons, List.all_nil, Option.bind_some, Option.bind_none, Option.map_some, Option.map_none, Option.pure_def, Option.bind_eq_bind, Bool.and_true, Bool.true_and, Bool.and_self, Bool.or_false, Bool.false_or, Bool.and_false, Bool.false_and, Bool.or_true, Bool.true_or, Bool.not_true, Bool.not_false, Bool.not_not, decide_true, decide_false, and_self, and_true, true_and, beq_self_eq_true, beq_true, beq_false, bne_self_eq_false, Int.reduceBNe, Int.reduceBEq, Int.reduceLT, Int.reduceLE, Int.reduceGT, Bool.false_eq_true, Nat.zero_lt_succ, Nat.zero_lt_one, Nat.add_assoc, Nat.left_eq_add, Nat.add_eq_left, h]

theorem f24 (a b : Option (List Ver)) (ha : Sm a) (fs : Bool) (σ : Sto) (n lk : Nat) : callE T fs 24 [slV 3 verV a, slV 3 verV b] σ n lk = some (.bool (lst a == lst b), σ, n) :=
  callE_tr (by decide) (r24 a b ha) (by simp [Tr, Tr_slV]) rfl fs σ n lk

def lastR (l : List Ver) : Int := l.foldl (fun n v => mx (mx n v.b) v.e) 0
def lastC (l : List Ver) : Int := match l.getLast? with
  | some v => mx v.b v.e
  | none => 0

theorem r25 (o : Option (List Ver)) (hs : Sm o) : res T 25 [slV 3 verV o] = some (.int .u64 (lastR (lst o))) := by
  refine run_res (run_pure (fn := g25) rfl rfl (by decide) ?_)
  simp only [g25, b25]
  simp +contextual -implicitDefEqProofs (maxSteps := 2000000) only [↓wP, wQ, wQ1, wQ2, wQ3, boxE, List.take_length, partsOf, ↓reduceIte, Nat.reduceEqDiff, Nat.reduceAdd, Nat.reduceSub, Nat.reduceLeDiff, Nat.reduceLT, Nat.reduceMul, Nat.zero_add, Nat.add_zero, Nat.mul_zero, Nat.le_refl, Nat.zero_le, Nat.one_ne_zero, Nat.zero_ne_one, reduceCtorEq, List.map_cons, List.map_nil, List.mapM_cons, List.mapM_nil, List.flatMap_cons, List.flatMap_nil, List.append_nil, List.nil_append, List.cons_append, List.drop_zero, List.drop_succ_cons, List.take_zero, List.take_succ_cons, List.take_nil, List.drop_nil, List.length_cons, List.length_nil, List.getElem?_cons_zero, List.getElem?_cons_succ, List.getElem?_nil, List.set_cons_zero, List.set_cons_succ, List.all_cons, List.all_nil, Option.bind_some, Option.bind_none, Option.map_some, Option.map_none, Option.pure_def, Option.bind_eq_bind, Bool.and_true, Bool.true_and, Bool.and_self, Bool.or_false, Bool.false_or, Bool.and_false, Bool.false_and, Bool.or_true, Bool.true_or, Bool.not_true, Bool.not_false, Bool.not_not, decide_true, decide_false, and_self, and_true, true_and, beq_self_eq_true, beq_true, beq_false, bne_self_eq_false, Int.reduceBNe, Int.reduceBEq, Int.reduceLT, Int.reduceLE, Int.reduceGT, Bool.false_eq_true, Nat.zero_lt_succ, Nat.zero_lt_one, Nat.add_assoc, Nat.left_eq_add, Nat.add_eq_left]
  refine WC_for (lst o).length 0 (fun (j : Nat) env _ _ => env 6 = slV 3 verV o ∧ env 3 = .int .u64 (lastR ((lst o).take j)))
    (by have := hs.1; omega) (by decide) (by decide) (fun _ _ => rfl) (fun _ _ _ => rfl) ?_ ?_ _ _ _ rfl rfl ?_
  · intro j env σ n hj h1 h2 ⟨h3, h4⟩
    simp only [vl_tmp] at h2
    have hx : (lst o)[j]? = some (lst o)[j] := List.getElem?_eq_getElem hj
    have hn : lastR ((lst o).take (j + 1)) = mx (mx (lastR ((lst o).take j)) (lst o)[j].b) (lst o)[j].e := by
      unfold lastR
      rw [← List.take_append_getElem hj, List.foldl_append]
      rfl
    simp +contextual -implicitDefEqProofs (maxSteps := 2000000) only [↓wP, wQ, wQ1, wQ2, wQ3, boxE, List.take_length, partsOf, ↓reduceIte, Nat.reduceEqDiff, Nat.reduceAdd, Nat.reduceSub, Nat.reduceLeDiff, Nat.reduceLT, Nat.reduceMul, Nat.zero_add, Nat.add_zero, Nat.mul_zero, Nat.le_refl, Nat.zero_le, Nat.one_ne_zero, Nat.zero_ne_one, reduceCtorEq, List.map_cons, List.map_nil, List.mapM_cons, List.mapM_nil, List.flatMap_cons, List.flatMap_nil, List.append_nil, List.nil_append, List.cons_append, List.drop_zero, List.drop_succ_cons, List.take_zero, List.take_succ_cons, List.take_nil, List.drop_nil, List.length_cons, List.length_nil, List.getElem?_cons_zero, List.getElem?_cons_succ, List.getElem?_nil, List.set_cons_zero, List.set_cons_succ, List.all_cons, List.all_nil, Option.bind_some, Option.bind_none, Option.map_some, Option.map_none, Option.pure_def, Option.bind_eq_bind, Bool.and_true, Bool.true_and, Bool.and_self, Bool.or_false, Bool.false_or, Bool.and_false, Bool.false_and, Bool.or_true, Bool.true_or, Bool.not_true, Bool.not_false, Bool.not_not, decide_true, decide_false, and_self, and_true, true_and, beq_self_eq_true, beq_true, beq_false, bne_self_eq_false, Int.reduceBNe, Int.reduceBEq, Int.reduceLT, Int.reduceLE, Int.reduceGT, Bool.false_eq_true, Nat.zero_lt_succ, Nat.zero_lt_one, Nat.add_assoc, Nat.left_eq_add, Nat.add_eq_left, h1, h2, h3, h4, hx, verV, mx_fold, hn]
  · intro env σ n ⟨h3, h4⟩ h1 h2
    rw [List.take_length] at h4
    simp +contextual -implicitDefEqProofs (maxSteps := 2000000) only [↓wP, wQ, wQ1, wQ2, wQ3, boxE, List.take_length, partsOf, ↓reduceIte, Nat.reduceEqDiff, Nat.reduceAdd, Nat.reduceSub, Nat.reduceLeDiff, Nat.reduceLT, Nat.reduceMul, Nat.zero_add, Nat.add_zero, Nat.mul_zero, Nat.le_refl, Nat.zero_le, Nat.one_ne_zero, Nat.zero_ne_one, reduceCtorEq, List.map_cons, List.map_nil, List.mapM_cons, List.mapM_nil, List.flatMap_cons, List.flatMap_nil, List.append_nil, List.nil_append, List.cons_append, List.drop_zero, List.drop_succ_cons, List.take_zero, List.take_succ_cons, List.take_nil, List.drop_nil, List.length_cons, List.length_nil, List.getElem?_cons_zero, List.getElem?_cons_succ, List.getElem?_nil, List.set_cons_zero, List.set_cons_succ, List.all_cons, List.all_nil, Option.bind_some, Option.bind_none, Option.map_some, Option.map_none, Option.pure_def, Option.bind_eq_bind, Bool.and_true, Bool.true_and, Bool.and_self, Bool.or_false, Bool.false_or, Bool.and_false, Bool.false_and, Bool.or_true, Bool.true_or, Bool.not_true, Bool.not_false, Bool.not_not, decide_true, decide_false, and_self, and_true, true_and, beq_self_eq_true, beq_true, beq_false, bne_self_eq_false, Int.reduceBNe, Int.reduceBEq, Int.reduceLT, Int.reduceLE, Int.reduceGT, Bool.false_eq_true, Nat.zero_lt_succ, Nat.zero_lt_one, Nat.add_assoc, Nat.left_eq_add, Nat.add_eq_left, h4]
  · exact ⟨rfl, rfl⟩

theorem f25 (o : Option (List Ver)) (hs : Sm o) (fs : Bool) (σ : Sto) (n lk : Nat) : callE T fs 25 [slV 3 verV o] σ n lk = some (.int .u64 (lastR (lst o)), σ, n) :=
  callE_tr (by decide) (r25 o hs) (by simp [Tr, Tr_slV]) rfl fs σ n lk

theorem r43 (b e : Int) (v : Option (List Int)) (t : Int) : res T 43 [.agg [.int .u64 b, .int .u64 e, slV 1 i32V v], .int .u64 t] = some (.bool (vis ⟨b, e, v⟩ t)) := by
  refine run_res (run_pure (fn := g43) rfl rfl (by decide) ?_)
  simp only [g43, b43]
  simp +contextual -implicitDefEqProofs (maxSteps := 2000000) only [↓wP, wQ, wQ1, wQ2, wQ3, boxE, List.take_length, partsOf, ↓reduceIte, Nat.reduceEqDiff, Nat.reduceAdd, Nat.reduceSub, Nat.reduceLeDiff, Nat.reduceLT, Nat.reduceMul, Nat.zero_add, Nat.add_zero, Nat.mul_zero, Nat.le_refl, Nat.zero_le, Nat.one_ne_zero, Nat.zero_ne_one, reduceCtorEq, List.map_cons, List.map_nil, List.mapM_cons, List.mapM_nil, List.flatMap_cons, List.flatMap_nil, List.append_nil, List.nil_append, List.cons_append, List.drop_zero, List.drop_succ_cons, List.take_zero, List.take_succ_cons, List.take_nil, List.drop_nil, List.length_cons, List.length_nil, List.getElem?_cons_zero, List.getElem?_cons_succ, List.getElem?_nil, List.set_cons_zero, List.set_cons_succ, List.all_cons, List.all_nil, Option.bind_some, Option.bind_none, Option.map_some, Option.map_none, Option.pure_def, Option.bind_eq_bind, Bool.and_true, Bool.true_and, Bool.and_self, Bool.or_false, Bool.false_or, Bool.and_false, Bool.false_and, Bool.or_true, Bool.true_or, Bool.not_true, Bool.not_false, Bool.not_not, decide_true, decide_false, and_self, and_true, true_and, beq_self_eq_true, beq_true, beq_false, bne_self_eq_false, Int.reduceBNe, Int.reduceBEq, Int.reduceLT, Int.reduceLE, Int.reduceGT, Bool.false_eq_true, Nat.zero_lt_succ, Nat.zero_lt_one, Nat.add_assoc, Nat.left_eq_add, Nat.add_eq_left]
  rfl

theorem f43 (b e : Int) (v : Option (List Int)) (t : Int) (fs : Bool) (σ : Sto) (n lk : Nat) : callE T fs 43 [.agg [.int .u64 b, .int .u64 e, slV 1 i32V v], .int .u64 t] σ n lk = some (.bool (vis ⟨b, e, v⟩ t), σ, n) :=
  callE_tr (by decide) (r43 b e v t) (by simp [Tr, Tr_slV]) rfl fs σ n lk

theorem r26 (o : Option (List Ver)) (t : Int) (hs : Sm o) : res T 26 [slV 3 verV o, .int .u64 t] = some (.tup [.int .i64 (if 0 ≤ posV o t then posV o t else 0), .bool (decide (0 ≤ posV o t))]) := by
  refine run_res (run_pure (fn := g26) rfl rfl (by decide) ?_)
  simp only [g26, b26]
  simp +contextual -implicitDefEqProofs (maxSteps := 2000000) only [↓wP, wQ, wQ1, wQ2, wQ3, boxE, List.take_length, partsOf, ↓reduceIte, Nat.reduceEqDiff, Nat.reduceAdd, Nat.reduceSub, Nat.reduceLeDiff, Nat.reduceLT, Nat.reduceMul, Nat.zero_add, Nat.add_zero, Nat.mul_zero, Nat.le_refl, Nat.zero_le, Nat.one_ne_zero, Nat.zero_ne_one, reduceCtorEq, List.map_cons, List.map_nil, List.mapM_cons, List.mapM_nil, List.flatMap_cons, List.flatMap_nil, List.append_nil, List.nil_append, List.cons_append, List.drop_zero, List.drop_succ_cons, List.take_zero, List.take_succ_cons, List.take_nil, List.drop_nil, List.length_cons, List.length_nil, List.getElem?_cons_zero, List.getElem?_cons_succ, List.getElem?_nil, List.set_cons_zero, List.set_cons_succ, List.all_cons, List.all_nil, Option.bind_some, Option.bind_none, Option.map_some, Option.map_none, Option.pure_def, Option.bind_eq_bind, Bool.and_true, Bool.true_and, Bool.and_self, Bool.or_false, Bool.false_or, Bool.and_false, Bool.false_and, Bool.or_true, Bool.true_or, Bool.not_true, Bool.not_false, Bool.not_not, decide_true, decide_false, and_self, and_true, true_and, beq_self_eq_true, beq_true, beq_false, bne_self_eq_false, Int.reduceBNe, Int.reduceBEq, Int.reduceLT, Int.reduceLE, Int.reduceGT, Bool.false_eq_true, Nat.zero_lt_succ, Nat.zero_lt_one, Nat.add_assoc, Nat.left_eq_add, Nat.add_eq_left]
  refine WC_for (lst o).length 0 (fun (j : Nat) env _ _ => env 8 = slV 3 verV o ∧ env 1 = .int .u64 t ∧ (lst o).findIdx? (fun x => vis x t) = (((lst o).drop j).findIdx? (fun x => vis x t)).map (· + j))
    (by have := hs.1; omega) (by decide) (by decide) (fun _ _ => rfl) (fun _ _ _ => rfl) ?_ ?_ _ _ _ rfl rfl ?_
  · intro j env σ n hj h1 h2 ⟨h3, h4, h5⟩
    simp only [vl_tmp] at h2
    have hx : (lst o)[j]? = some (lst o)[j] := List.getElem?_eq_getElem hj
    have h43 := f43 (lst o)[j].b (lst o)[j].e (lst o)[j].v t
    rw [List.drop_eq_getElem_cons hj, List.findIdx?_cons] at h5
    simp +contextual -implicitDefEqProofs (maxSteps := 2000000) only [↓wP, wQ, wQ1, wQ2, wQ3, boxE, List.take_length, partsOf, ↓reduceIte, Nat.reduceEqDiff, Nat.reduceAdd, Nat.reduceSub, Nat.reduceLeDiff, Nat.reduceLT, Nat.reduceMul, Nat.zero_add, Nat.add_zero, Nat.mul_zero, Nat.le_refl, Nat.zero_le, Nat.one_ne_zero, Nat.zero_ne_one, reduceCtorEq, List.map_cons, List.map_nil, List.mapM_cons, List.mapM_nil, List.flatMap_cons, List.flatMap_nil, List.append_nil, List.nil_append, List.cons_append, List.drop_zero, List.drop_succ_cons, List.take_zero, List.take_succ_cons, List.take_nil, List.drop_nil, List.length_cons, List.length_nil, List.getElem?_cons_zero, List.getElem?_cons_succ, List.getElem?_nil, List.set_cons_zero, List.set_cons_succ, List.all_cons, List.all_nil, Option.bind_some, Option.bind_none, Option.map_some, Option.map_none, Option.pure_def, Option.bind_eq_bind, Bool.and_true, Bool.true_and, Bool.and_self, Bool.or_false, Bool.false_or, Bool.and_false, Bool.false_and, Bool.or_true, Bool.true_or, Bool.not_true, Bool.not_false, Bool.not_not, decide_true, decide_false, and_self, and_true, true_and, beq_self_eq_true, beq_true, beq_false, bne_self_eq_false, Int.reduceBNe, Int.reduceBEq, Int.reduceLT, Int.reduceLE, Int.reduceGT, Bool.false_eq_true, Nat.zero_lt_succ, Nat.zero_lt_one, Nat.add_assoc, Nat.left_eq_add, Nat.add_eq_left, h1, h2, h3, h4, hx, verV, h43]
    refine condC_split (fun hb => ?_) (fun hb => ?_)
    · have hb : vis (lst o)[j] t = true := hb
      have hp : posV o t = (j : Int) := by simp [posV, idxF, h5, hb]
      have h0 : (0 : Int) ≤ (j : Int) := by omega
      simp +contextual -implicitDefEqProofs (maxSteps := 2000000) only [↓wP, wQ, wQ1, wQ2, wQ3, boxE, List.take_length, partsOf, ↓reduceIte, Nat.reduceEqDiff, Nat.reduceAdd, Nat.reduceSub, Nat.reduceLeDiff, Nat.reduceLT, Nat.reduceMul, Nat.zero_add, Nat.add_zero, Nat.mul_zero, Nat.le_refl, Nat.zero_le, Nat.one_ne_zero, Nat.zero_ne_one, reduceCtorEq, List.map_cons, List.map_nil, List.mapM_cons, List.mapM_nil, List.flatMap_cons, List.flatMap_nil, List.append_nil, List.nil_append, List.cons_append, List.drop_zero, List.drop_succ_cons, List.take_zero, List.take_succ_cons, List.take_nil, List.drop_nil, List.length_cons, List.length_nil, List.getElem?_cons_zero, List.getElem?_cons_succ, List.getElem?_nil, List.set_cons_zero, List.set_cons_succ, List.all_cons, List.all_nil, Option.bind_some, Option.bind_none, Option.map_some, Option.map_none, Option.pure_def, Option.bind_eq_bind, Bool.and_true, Bool.true_and, Bool.and_self, Bool.or_false, Bool.false_or, Bool.and_false, Bool.false_and, Bool.or_true, Bool.true_or, Bool.not_true, Bool.not_false, Bool.not_not, decide_true, decide_false, and_self, and_true, true_and, beq_self_eq_true, beq_true, beq_false, bne_self_eq_false, Int.reduceBNe, Int.reduceBEq, Int.reduceLT, Int.reduceLE, Int.reduceGT, Bool.false_eq_true, Nat.zero_lt_succ, Nat.zero_lt_one, Nat.add_assoc, Nat.left_eq_add, Nat.add_eq_left, hp, h0]
    · have hb : vis (lst o)[j] t = false := hb
      simp +contextual -implicitDefEqProofs (maxSteps := 2000000) only [↓wP, wQ, wQ1, wQ2, wQ3, boxE, List.take_length, partsOf, ↓reduceIte, Nat.reduceEqDiff, Nat.reduceAdd, Nat.reduceSub, Nat.reduceLeDiff, Nat.reduceLT, Nat.reduceMul, Nat.zero_add, Nat.add_zero, Nat.mul_zero, Nat.le_refl, Nat.zero_le, Nat.one_ne_zero, Nat.zero_ne_one, reduceCtorEq, List.map_cons, List.map_nil, List.mapM_cons, List.mapM_nil, List.flatMap_cons, List.flatMap_nil, List.append_nil, List.nil_append, List.cons_append, List.drop_zero, List.drop_succ_cons, List.take_zero, List.take_succ_cons, List.take_nil, List.drop_nil, List.length_cons, List.length_nil, List.getElem?_cons_zero, List.getElem?_cons_succ, List.getElem?_nil, List.set_cons_zero, List.set_cons_succ, List.all_cons, List.all_nil, Option.bind_some, Option.bind_none, Option.map_some, Option.map_none, Option.pure_def, Option.bind_eq_bind, Bool.and_true, Bool.true_and, Bool.and_self, Bool.or_false, Bool.false_or, Bool.and_false, Bool.false_and, Bool.or_true, Bool.true_or, Bool.not_true, Bool.not_false, Bool.not_not, decide_true, decide_false, and_self, and_true, true_and, beq_self_eq_true, beq_true, beq_false, bne_self_eq_false, Int.reduceBNe, Int.reduceBEq, Int.reduceLT, Int.reduceLE, Int.reduceGT, Bool.false_eq_true, Nat.zero_lt_succ, Nat.zero_lt_one, Nat.add_assoc, Nat.left_eq_add, Nat.add_eq_left, h1, h2, h3, h4]
      rw [h5, hb]
      simp only [Bool.false_eq_true, if_false, Option.map_map, Function.comp_def]
      congr 1; funext i; omega
  · intro env σ n ⟨h3, h4, h5⟩ h1 h2
    have hp : posV o t = -1 := by simp [posV, idxF, h5]
    have h0 : ¬ (0 : Int) ≤ -1 := by omega
    simp +contextual -implicitDefEqProofs (maxSteps := 2000000) only [↓wP, wQ, wQ1, wQ2, wQ3, boxE, List.take_length, partsOf, ↓reduceIte, Nat.reduceEqDiff, Nat.reduceAdd, Nat.reduceSub, Nat.reduceLeDiff, Nat.reduceLT, Nat.reduceMul, Nat.zero_add, Nat.add_zero, Nat.mul_zero, Nat.le_refl, Nat.zero_le, Nat.one_ne_zero, Nat.zero_ne_one, reduceCtorEq, List.map_cons, List.map_nil, List.mapM_cons, List.mapM_nil, List.flatMap_cons, List.flatMap_nil, List.append_nil, List.nil_append, List.cons_append, List.drop_zero, List.drop_succ_cons, List.take_zero, List.take_succ_cons, List.take_nil, List.drop_nil, List.length_cons, List.length_nil, List.getElem?_cons_zero, List.getElem?_cons_succ, List.getElem?_nil, List.set_cons_zero, List.set_cons_succ, List.all_cons, List.all_nil, Option.bind_some, Option.bind_none, Option.map_some, Option.map_none, Option.pure_def, Option.bind_eq_bind, Bool.and_true, Bool.true_and, Bool.and_self, Bool.or_false, Bool.false_or, Bool.and_false, Bool.false_and, Bool.or_true, Bool.true_or, Bool.not_true, Bool.not_false, Bool.not_not, decide_true, decide_false, and_self, and_true, true_and, beq_self_eq_true, beq_true, beq_false, bne_self_eq_false, Int.reduceBNe, Int.reduceBEq, Int.reduceLT, Int.reduceLE, Int.reduceGT, Bool.false_eq_true, Nat.zero_lt_succ, Nat.zero_lt_one, Nat.add_assoc, Nat.left_eq_add, Nat.add_eq_left, hp, h0]
  · exact ⟨rfl, rfl, by simp⟩

theorem f26 (o : Option (List Ver)) (t : Int) (hs : Sm o) (fs : Bool) (σ : Sto) (n lk : Nat) : callE T fs 26 [slV 3 verV o, .int .u64 t] σ n lk = some (.tup [.int .i64 (if 0 ≤ posV o t then posV o t else 0), .bool (decide (0 ≤ posV o t))], σ, n) :=
  callE_tr (by decide) (r26 o t hs) (by simp [Tr, Tr_slV]) rfl fs σ n lk

theorem r39 (o : Option (List Ver)) (hs : Sm o) : res T 39 [slV 3 verV o] = some (.int .u64 (lastC (lst o))) := by
  refine run_res (run_pure (fn := g39) rfl rfl (by decide) ?_)
  simp only [g39, b39]
  simp +contextual -implicitDefEqProofs (maxSteps := 2000000) only [↓wP, wQ, wQ1, wQ2, wQ3, boxE, List.take_length, partsOf, ↓reduceIte, Nat.reduceEqDiff, Nat.reduceAdd, Nat.reduceSub, Nat.reduceLeDiff, Nat.reduceLT, Nat.reduceMul, Nat.zero_add, Nat.add_zero, Nat.mul_zero, Nat.le_refl, Nat.zero_le, Nat.one_ne_zero, Nat.zero_ne_one, reduceCtorEq, List.map_cons, List.map_nil, List.mapM_cons, List.mapM_nil, List.flatMap_cons, List.flatMap_nil, List.append_nil, List.nil_append, List.cons_append, List.drop_zero, List.drop_succ_cons, List.take_zero, List.take_succ_cons, List.take_nil, List.drop_nil, List.length_cons, List.length_nil, List.getElem?_cons_zero, List.getElem?_cons_succ, List.getElem?_nil, List.set_cons_zero, List.set_cons_succ, List.all_cons, List.all_nil, Option.bind_some, Option.bind_none, Option.map_some, Option.map_none, Option.pure_def, Option.bind_eq_bind, Bool.and_true, Bool.true_and, Bool.and_self, Bool.or_false, Bool.false_or, Bool.and_false, Bool.false_and, Bool.or_true, Bool.true_or, Bool.not_true, Bool.not_false, Bool.not_not, decide_true, decide_false, and_self, and_true, true_and, beq_self_eq_true, beq_true, beq_false, bne_self_eq_false, Int.reduceBNe, Int.reduceBEq, Int.reduceLT, Int.reduceLE, Int.reduceGT, Bool.false_eq_true, Nat.zero_lt_succ, Nat.zero_lt_one, Nat.add_assoc, Nat.left_eq_add, Nat.add_eq_left]
  by_cases h0 : (lst o).length = 0
  · have e : lst o = [] := List.length_eq_zero_iff.1 h0
    have hl : lastC (lst o) = 0 := by rw [e]; rfl
    have hd : (((lst o).length : Int) == 0) = true := by simpa using h0
    simp +contextual -implicitDefEqProofs (maxSteps := 2000000) only [↓wP, wQ, wQ1, wQ2, wQ3, boxE, List.take_length, partsOf, ↓reduceIte, Nat.reduceEqDiff, Nat.reduceAdd, Nat.reduceSub, Nat.reduceLeDiff, Nat.reduceLT, Nat.reduceMul, Nat.zero_add, Nat.add_zero, Nat.mul_zero, Nat.le_refl, Nat.zero_le, Nat.one_ne_zero, Nat.zero_ne_one, reduceCtorEq, List.map_cons, List.map_nil, List.mapM_cons, List.mapM_nil, List.flatMap_cons, List.flatMap_nil, List.append_nil, List.nil_append, List.cons_append, List.drop_zero, List.drop_succ_cons, List.take_zero, List.take_succ_cons, List.take_nil, List.drop_nil, List.length_cons, List.length_nil, List.getElem?_cons_zero, List.getElem?_cons_succ, List.getElem?_nil, List.set_cons_zero, List.set_cons_succ, List.all_cons, List.all_nil, Option.bind_some, Option.bind_none, Option.map_some, Option.map_none, Option.pure_def, Option.bind_eq_bind, Bool.and_true, Bool.true_and, Bool.and_self, Bool.or_false, Bool.false_or, Bool.and_false, Bool.false_and, Bool.or_true, Bool.true_or, Bool.not_true, Bool.not_false, Bool.not_not, decide_true, decide_false, and_self, and_true, true_and, beq_self_eq_true, beq_true, beq_false, bne_self_eq_false, Int.reduceBNe, Int.reduceBEq, Int.reduceLT, Int.reduceLE, Int.reduceGT, Bool.false_eq_true, Nat.zero_lt_succ, Nat.zero_lt_one, Nat.add_assoc, Nat.left_eq_add, Nat.add_eq_left, hd, hl]
  · have hd : (((lst o).length : Int) == 0) = false := by simpa using h0
    have hw : IntKind.i64.wrap (((lst o).length : Int) - 1) = (((lst o).length - 1 : Nat) : Int) := by have := hs.1; rw [wrap_i64] <;> omega
    have hx : (lst o)[(lst o).length - 1]? = some (lst o)[(lst o).length - 1] := List.getElem?_eq_getElem (by omega)
    have hl : lastC (lst o) = mx (lst o)[(lst o).length - 1].b (lst o)[(lst o).length - 1].e := by
      unfold lastC
      rw [List.getLast?_eq_getElem?, hx]
    simp +contextual -implicitDefEqProofs (maxSteps := 2000000) only [↓wP, wQ, wQ1, wQ2, wQ3, boxE, List.take_length, partsOf, ↓reduceIte, Nat.reduceEqDiff, Nat.reduceAdd, Nat.reduceSub, Nat.reduceLeDiff, Nat.reduceLT, Nat.reduceMul, Nat.zero_add, Nat.add_zero, Nat.mul_zero, Nat.le_refl, Nat.zero_le, Nat.one_ne_zero, Nat.zero_ne_one, reduceCtorEq, List.map_cons, List.map_nil, List.mapM_cons, List.mapM_nil, List.flatMap_cons, List.flatMap_nil, List.append_nil, List.nil_append, List.cons_append, List.drop_zero, List.drop_succ_cons, List.take_zero, List.take_succ_cons, List.take_nil, List.drop_nil, List.length_cons, List.length_nil, List.getElem?_cons_zero, List.getElem?_cons_succ, List.getElem?_nil, List.set_cons_zero, List.set_cons_succ, List.all_cons, List.all_nil, Option.bind_some, Option.bind_none, Option.map_some, Option.map_none, Option.pure_def, Option.bind_eq_bind, Bool.and_true, Bool.true_and, Bool.and_self, Bool.or_false, Bool.false_or, Bool.and_false, Bool.false_and, Bool.or_true, Bool.true_or, Bool.not_true, Bool.not_false, Bool.not_not, decide_true, decide_false, and_self, and_true, true_and, beq_self_eq_true, beq_true, beq_false, bne_self_eq_false, Int.reduceBNe, Int.reduceBEq, Int.reduceLT, Int.reduceLE, Int.reduceGT, Bool.false_eq_true, Nat.zero_lt_succ, Nat.zero_lt_one, Nat.add_assoc, Nat.left_eq_add, Nat.add_eq_left, hd, hw, hx, verV, mx_fold, hl]

theorem f39 (o : Option (List Ver)) (hs : Sm o) (fs : Bool) (σ : Sto) (n lk : Nat) : callE T fs 39 [slV 3 verV o] σ n lk = some (.int .u64 (lastC (lst o)), σ, n) :=
  callE_tr (by decide) (r39 o hs) (by simp [Tr, Tr_slV]) rfl fs σ n lk

theorem r21 (o : Option (List Ver)) (hs : Sm o) : res T 21 [slV 3 verV o] = some (.int .u64 (if okC o = true then lastC (lst o) else 0)) := by
  refine run_res (run_pure (fn := g21) rfl rfl (by decide) ?_)
  simp only [g21, b21]
  have h11 := f11 o hs
  have h39 := f39 o hs
  cases hc : okC o <;> simp +contextual -implicitDefEqProofs (maxSteps := 2000000) only [↓wP, wQ, wQ1, wQ2, wQ3, boxE, List.take_length, partsOf, ↓reduceIte, Nat.reduceEqDiff, Nat.reduceAdd, Nat.reduceSub, Nat.reduceLeDiff, Nat.reduceLT, Nat.reduceMul, Nat.zero_add, Nat.add_zero, Nat.mul_zero, Nat.le_refl, Nat.zero_le, Nat.one_ne_zero, Nat.zero_ne_one, reduceCtorEq, List.map_cons, List.map_nil, List.mapM_cons, List.mapM_nil, List.flatMap_cons, List.flatMap_nil, List.append_nil, List.nil_append, List.cons_append, List.drop_zero, List.drop_succ_cons, List.take_zero, List.take_succ_cons, List.take_nil, List.drop_nil, List.length_cons, List.length_nil, List.getElem?_cons_zero, List.getElem?_cons_succ, List.getElem?_nil, List.set_cons_zero, List.set_cons_succ, List.all_cons, List.all_nil, Option.bind_some, Option.bind_none, Option.map_some, Option.map_none, Option.pure_def, Option.bind_eq_bind, Bool.and_true, Bool.true_and, Bool.and_self, Bool.or_false, Bool.false_or, Bool.and_false, Bool.false_and, Bool.or_true, Bool.true_or, Bool.not_true, Bool.not_false, Bool.not_not, decide_true, decide_false, and_self, and_true, true_and, beq_self_eq_true, beq_true, beq_false, bne_self_eq_false, Int.reduceBNe, Int.reduceBEq, Int.reduceLT, Int.reduceLE, Int.reduceGT, Bool.false_eq_true, Nat.zero_lt_succ, Nat.zero_lt_one, Nat.add_assoc, Nat.left_eq_add, Nat.add_eq_left, h11, h39, hc]

theorem f21 (o : Option (List Ver)) (hs : Sm o) (fs : Bool) (σ : Sto) (n lk : Nat) : callE T fs 21 [slV 3 verV o] σ n lk = some (.int .u64 (if okC o = true then lastC (lst o) else 0), σ, n) :=
  callE_tr (by decide) (r21 o hs) (by simp [Tr, Tr_slV]) rfl fs σ n lk

end Go.Q.S3
end

section
/- Chains whose rows are a caller's own, vectors and all. -/
set_option linter.unusedSimpArgs false
set_option linter.unusedVariables false
namespace Go.Q.S3
open Go.Q

def vref (i : Nat) (x : Ver) : V := .ref i 0 (lst x.v).length 1
def erow (x : Ver) (i : Nat) : V := .agg [.int .u64 x.b, .int .u64 x.e, vref i x]
def vown (x : Ver) : V := .own 1 ((lst x.v).map i32V)
def ownVer (x : Ver) : V := .agg [.int .u64 x.b, .int .u64 x.e, vown x]

/-- Each vector is there. -/
def AllS (l : List Ver) : Prop := ∀ x ∈ l, x.v = some (lst x.v)

/-- The vectors' rows, one by one. -/
def Vecs (σ : Sto) (L : List Ver) (ids : List Nat) : Prop := ids.length = L.length ∧ ∀ (j : Nat) (x : Ver) (i : Nat), L[j]? = some x → ids[j]? = some i → σ i = some (.row 1 ((lst x.v).map i32V))

theorem Vecs.cons {σ : Sto} {x : Ver} {L : List Ver} {i : Nat} {ids : List Nat} : Vecs σ (x :: L) (i :: ids) ↔ σ i = some (.row 1 ((lst x.v).map i32V)) ∧ Vecs σ L ids := by
  constructor
  · rintro ⟨h1, h2⟩
    exact ⟨h2 0 x i rfl rfl, by simpa using h1, fun j y k hy hk => h2 (j + 1) y k (by simpa using hy) (by simpa using hk)⟩
  · rintro ⟨h0, h1, h2⟩
    refine ⟨by simpa using h1, fun j y k hy hk => ?_⟩
    cases j with
    | zero => simp at hy hk; subst hy; subst hk; exact h0
    | succ j => exact h2 j y k (by simpa using hy) (by simpa using hk)

theorem Vecs.loc {σ σ' : Sto} {L : List Ver} {ids : List Nat} (h : Vecs σ L ids) (hs : ∀ i ∈ ids, σ' i = σ i) : Vecs σ' L ids :=
  ⟨h.1, fun j x i hx hi => (hs i (List.mem_of_getElem? hi)).trans (h.2 j x i hx hi)⟩

theorem Vecs.append {σ : Sto} {L M : List Ver} {ids jds : List Nat} (h : Vecs σ L ids) (h' : Vecs σ M jds) : Vecs σ (L ++ M) (ids ++ jds) := by
  refine ⟨by simp [h.1, h'.1], fun j x i hx hi => ?_⟩
  rw [List.getElem?_append] at hx hi
  rw [h.1] at hi
  split at hx <;> rename_i hj
  · rw [if_pos hj] at hi; exact h.2 j x i hx hi
  · rw [if_neg hj] at hi; exact h'.2 _ x i hx hi

/-- A chain in the store. -/
def Chn (σ : Sto) (m n : Nat) (v : V) (o : Option (List Ver)) : Prop := match o with
  | none => v = .nilS
  | some L => ∃ id ids, v = .ref id 0 L.length 3 ∧ σ id = some (.row 3 (L.zipWith erow ids)) ∧ (id :: ids).Nodup ∧ (∀ i ∈ id :: ids, m ≤ i ∧ i < n) ∧ Vecs σ L ids

theorem Chn.loc {σ σ' : Sto} {m n m' n' : Nat} {v : V} {o : Option (List Ver)} (h : Chn σ m n v o) (hs : ∀ i, m ≤ i → i < n → σ' i = σ i) (hm : m' ≤ m) (hn : n ≤ n') : Chn σ' m' n' v o := by
  cases o with
  | none => exact h
  | some L =>
    obtain ⟨id, ids, rfl, h1, h2, h3, h4⟩ := h
    refine ⟨id, ids, rfl, ?_, h2, fun i hi => ⟨by have := (h3 i hi).1; omega, by have := (h3 i hi).2; omega⟩, h4.loc fun i hi => ?_⟩
    · have := h3 id (by simp)
      rw [hs id this.1 this.2, h1]
    · have := h3 i (List.mem_cons_of_mem _ hi)
      exact hs i this.1 this.2

theorem zip_len {σ : Sto} {L : List Ver} {ids : List Nat} (h : Vecs σ L ids) : (L.zipWith erow ids).length = L.length := by simp [h.1]

def ownC : Option (List Ver) → V
  | none => .nilS
  | some L => .own 3 (L.map ownVer)

theorem giv_vec {σ : Sto} {x : Ver} {i : Nat} (h : σ i = some (.row 1 ((lst x.v).map i32V))) (k : Nat) : giv σ (k + 2) (vref i x) = some (vown x) ∧ gids σ (k + 2) (vref i x) = [i] := by
  constructor
  · simp only [vref, vown, giv, h, List.length_map, and_self, if_true]
    rw [mapM_id (fun y hy => by obtain ⟨t, -, rfl⟩ := List.mem_map.1 hy; rfl)]
    rfl
  · simp only [vref, gids, h]
    rw [List.flatMap_eq_nil_iff.2 fun y hy => List.flatMap_eq_nil_iff.2 fun c hc => ?_]
    obtain ⟨t, -, rfl⟩ := List.mem_map.1 hy
    simp [i32V, V.cells] at hc
    subst hc
    rfl

theorem giv_rows {σ : Sto} (k : Nat) : ∀ {L : List Ver} {ids : List Nat}, Vecs σ L ids → (L.zipWith erow ids).mapM (elemM (giv σ (k + 2))) = some (L.map ownVer) ∧ ((L.zipWith erow ids).flatMap fun x => x.cells.flatMap (gids σ (k + 2))) = ids
  | [], [], _ => ⟨rfl, rfl⟩
  | [], _ :: _, h => by simp [Vecs] at h
  | _ :: _, [], h => by simp [Vecs] at h
  | x :: L, i :: ids, h => by
    obtain ⟨h0, h1⟩ := Vecs.cons.1 h
    obtain ⟨g1, g2⟩ := giv_vec h0 k
    obtain ⟨r1, r2⟩ := giv_rows k h1
    constructor
    · rw [List.zipWith_cons_cons, List.mapM_cons, r1]
      simp only [erow, elemM, List.mapM_cons, List.mapM_nil, g1]
      rfl
    · rw [List.zipWith_cons_cons, List.flatMap_cons, r2]
      simp only [erow, V.cells, List.flatMap_cons, List.flatMap_nil, g2]
      rfl

theorem Chn.giv {σ : Sto} {m n : Nat} {v : V} {o : Option (List Ver)} (h : Chn σ m n v o) (k : Nat) : Go.Q.giv σ (k + 3) v = some (ownC o) ∧ (gids σ (k + 3) v).Nodup ∧ ∀ i ∈ gids σ (k + 3) v, m ≤ i ∧ i < n := by
  cases o with
  | none => simp only [Chn] at h; subst h; exact ⟨rfl, by simp [gids], by simp [gids]⟩
  | some L =>
    obtain ⟨id, ids, rfl, h1, h2, h3, h4⟩ := h
    obtain ⟨r1, r2⟩ := giv_rows k h4
    have hl := zip_len h4
    have e : gids σ (k + 3) (.ref id 0 L.length 3) = id :: ids := by
      simp only [gids, h1]
      rw [r2]
    refine ⟨?_, by rw [e]; exact h2, by rw [e]; exact h3⟩
    simp only [Go.Q.giv, h1, hl, and_self, if_true, r1]
    rfl

theorem frz_vec {σ : Sto} {x : Ver} {i : Nat} (hx : x.v = some (lst x.v)) (h : σ i = some (.row 1 ((lst x.v).map i32V))) (k : Nat) : Go.Q.frz σ (k + 2) (vref i x) = some (slV 1 i32V x.v) := by
  have := (Fz.ref (k := k + 1) (S := fun _ => True) h trivial (FzL.trees (fun y hy => by obtain ⟨t, -, rfl⟩ := List.mem_map.1 hy; rfl) (fun y hy c hc => by obtain ⟨t, -, rfl⟩ := List.mem_map.1 hy; simp [i32V, V.cells] at hc; subst hc; rfl))).1
  rw [List.length_map] at this
  rw [hx]
  exact this

theorem frz_rows {σ : Sto} (k : Nat) : ∀ {L : List Ver} {ids : List Nat}, Vecs σ L ids → AllS L → (L.zipWith erow ids).mapM (elemM (Go.Q.frz σ (k + 2))) = some (L.map verV)
  | [], [], _, _ => rfl
  | [], _ :: _, h, _ => by simp [Vecs] at h
  | _ :: _, [], h, _ => by simp [Vecs] at h
  | x :: L, i :: ids, h, ha => by
    obtain ⟨h0, h1⟩ := Vecs.cons.1 h
    have g1 := frz_vec (ha x (by simp)) h0 k
    have r1 := frz_rows k h1 (fun y hy => ha y (List.mem_cons_of_mem _ hy))
    rw [List.zipWith_cons_cons, List.mapM_cons, r1]
    simp only [erow, elemM, List.mapM_cons, List.mapM_nil, g1]
    rfl

theorem Chn.frz {σ : Sto} {m n : Nat} {v : V} {o : Option (List Ver)} (h : Chn σ m n v o) (ha : AllS (lst o)) (k : Nat) : Go.Q.frz σ (k + 3) v = some (slV 3 verV o) := by
  cases o with
  | none => simp only [Chn] at h; subst h; rfl
  | some L =>
    obtain ⟨id, ids, rfl, h1, h2, h3, h4⟩ := h
    rw [frz_rf, h1, elemsO_row, if_pos (by rw [zip_len h4]; omega), List.drop_zero]
    rw [show L.length = (L.zipWith erow ids).length from (zip_len h4).symm, List.take_length, Option.bind_some, frz_rows k h4 ha]
    rfl

/-- A chain of one's own, when it has come. -/
theorem thaw_rows (σ : Sto) (m : Nat) : ∀ (L : List Ver) (σ0 : Sto) (n : Nat), m ≤ n → ∃ ids σ' n', thawL σ0 n (L.map ownVer) = (L.zipWith erow ids, σ', n') ∧ Vecs σ' L ids ∧ ids.Nodup ∧ (∀ i ∈ ids, n ≤ i ∧ i < n') ∧ n' = n + L.length ∧ ∀ i, i < n → σ' i = σ0 i
  | [], σ0, n, hm => ⟨[], σ0, n, rfl, ⟨rfl, fun j x i hx => by simp at hx⟩, by simp, by simp, rfl, fun _ _ => rfl⟩
  | x :: L, σ0, n, hm => by
    obtain ⟨ids, σ', n', h1, h2, h3, h4, h5, h6⟩ := thaw_rows σ m L (upd σ0 n (some (.row 1 ((lst x.v).map i32V)))) (n + 1) (by omega)
    refine ⟨n :: ids, σ', n', ?_, Vecs.cons.2 ⟨?_, h2⟩, List.nodup_cons.2 ⟨fun hn => by have := (h4 n hn).1; omega, h3⟩, ?_, by rw [h5, List.length_cons]; omega, fun i hi => ?_⟩
    · rw [List.map_cons, thawL_cons]
      have e : thaw σ0 n (ownVer x) = (erow x n, upd σ0 n (some (.row 1 ((lst x.v).map i32V))), n + 1) := by
        have hn : thawL σ0 n ((lst x.v).map i32V) = ((lst x.v).map i32V, σ0, n) := thawL_nw 1 (fun c hc => by obtain ⟨t, -, rfl⟩ := List.mem_map.1 hc; rfl)
        simp only [ownVer, vown, thaw_agg, thawL_cons, thawL_nil, thaw_int, thaw_own, hn, erow, vref, List.length_map]
      rw [e, h1]
      rfl
    · rw [h6 n (by omega)]; simp [upd]
    · intro i hi
      rcases List.mem_cons.1 hi with rfl | hi
      · exact ⟨Nat.le_refl _, by omega⟩
      · have := h4 i hi; omega
    · rw [h6 i (by omega)]
      have : i ≠ n := by omega
      simp [upd, this]

theorem thaw_ownC (σ : Sto) (n : Nat) (o : Option (List Ver)) : ∃ v' σ' n', thaw σ n (ownC o) = (v', σ', n') ∧ Chn σ' n n' v' o ∧ n ≤ n' ∧ ∀ i, i < n → σ' i = σ i := by
  cases o with
  | none => exact ⟨_, _, _, rfl, rfl, Nat.le_refl _, fun _ _ => rfl⟩
  | some L =>
    obtain ⟨ids, σ', n', h1, h2, h3, h4, h5, h6⟩ := thaw_rows σ n L σ n (Nat.le_refl _)
    refine ⟨.ref n' 0 L.length 3, upd σ' n' (some (.row 3 (L.zipWith erow ids))), n' + 1, ?_, ⟨n', ids, rfl, by simp [upd], List.nodup_cons.2 ⟨fun hn => by have := (h4 n' hn).2; omega, h3⟩, ?_, h2.loc fun i hi => ?_⟩, by omega, fun i hi => ?_⟩
    · simp only [ownC, thaw_own, h1, List.length_map]
    · intro i hi
      rcases List.mem_cons.1 hi with rfl | hi
      · exact ⟨by omega, by omega⟩
      · have := h4 i hi; omega
    · have := h4 i hi
      have : i ≠ n' := by omega
      simp [upd, this]
    · have : i ≠ n' := by omega
      simp [upd, this, h6 i hi]

theorem thaw_ownCn (σ : Sto) (n : Nat) (o : Option (List Ver)) : (thaw σ n (ownC o)).2.2 ≤ n + (lst o).length + 1 := by
  cases o with
  | none => simp only [ownC, thaw_nilS]; omega
  | some L =>
    obtain ⟨ids, σ', n', h1, h2, h3, h4, h5, h6⟩ := thaw_rows σ n L σ n (Nat.le_refl _)
    simp only [ownC, thaw_own, h1, lst_some]
    omega

end Go.Q.S3
end

section
/- Copies with vectors of their own; the open version ends. -/
set_option linter.unusedSimpArgs false
set_option linter.unusedVariables false
namespace Go.Q.S3
open Go.Q

def Fit (o : Option (List Int)) : Prop := (lst o).length * 4 ≤ LIM
def FitC (o : Option (List Ver)) : Prop := (lst o).length * 40 ≤ LIM ∧ ∀ x ∈ lst o, Fit x.v

theorem r51 (l : List Int) (h : l.length * 4 ≤ LIM) : res T 51 [slV 1 i32V (some l)] = some (.own 1 (l.map i32V)) := by
  refine run_res (run_own (fn := g51) rfl rfl (by decide) ?_)
  simp only [g51, b51]
  have hl : (l.map i32V).length * 4 ≤ LIM := by simpa using h
  simp +contextual -implicitDefEqProofs (maxSteps := 2000000) only [↓wP, wQ, wQ1, wQ2, wQ3, boxE, List.take_length, partsOf, ↓reduceIte, Nat.reduceEqDiff, Nat.reduceAdd, Nat.reduceSub, Nat.reduceLeDiff, Nat.reduceLT, Nat.reduceMul, Nat.zero_add, Nat.add_zero, Nat.mul_zero, Nat.le_refl, Nat.zero_le, Nat.one_ne_zero, Nat.zero_ne_one, reduceCtorEq, List.map_cons, List.map_nil, List.mapM_cons, List.mapM_nil, List.flatMap_cons, List.flatMap_nil, List.append_nil, List.nil_append, List.cons_append, List.drop_zero, List.drop_succ_cons, List.take_zero, List.take_succ_cons, List.take_nil, List.drop_nil, List.length_cons, List.length_nil, List.getElem?_cons_zero, List.getElem?_cons_succ, List.getElem?_nil, List.set_cons_zero, List.set_cons_succ, List.all_cons, List.all_nil, Option.bind_some, Option.bind_none, Option.map_some, Option.map_none, Option.pure_def, Option.bind_eq_bind, Bool.and_true, Bool.true_and, Bool.and_self, Bool.or_false, Bool.false_or, Bool.and_false, Bool.false_and, Bool.or_true, Bool.true_or, Bool.not_true, Bool.not_false, Bool.not_not, decide_true, decide_false, and_self, and_true, true_and, beq_self_eq_true, beq_true, beq_false, bne_self_eq_false, Int.reduceBNe, Int.reduceBEq, Int.reduceLT, Int.reduceLE, Int.reduceGT, Bool.false_eq_true, Nat.zero_lt_succ, Nat.zero_lt_one, Nat.add_assoc, Nat.left_eq_add, Nat.add_eq_left, slV_some, hl]
  have := giv_row (σ := upd (upd (upd Sto.empty 0 (some (.row 1 []))) 0 none) 1 (some (.row 1 (l.map i32V)))) (id := 1) (sz := 1) (xs := l.map i32V) (by simp [upd])
    (fun x hx => by obtain ⟨t, -, rfl⟩ := List.mem_map.1 hx; rfl) (fun x hx c hc => by obtain ⟨t, -, rfl⟩ := List.mem_map.1 hx; simp [i32V, V.cells] at hc; subst hc; rfl)
  simpa using this

theorem f51 (l : List Int) (h : l.length * 4 ≤ LIM) (fs : Bool) (σ : Sto) (n lk : Nat) : callE T fs 51 [slV 1 i32V (some l)] σ n lk = some (.ref n 0 l.length 1, upd σ n (some (.row 1 (l.map i32V))), n + 1) := by
  have := callE_own (by decide) (r51 l h) (by simp [Tr, Tr_slV]) (fun x hx => by obtain ⟨t, -, rfl⟩ := List.mem_map.1 hx; rfl) fs σ n lk
  rw [List.length_map] at this
  exact this

theorem r57 (L : List Ver) (h : L.length * 40 ≤ LIM) : res T 57 [slV 3 verV (some L)] = some (.own 3 (L.map verV)) := by
  refine run_res (run_own (fn := g57) rfl rfl (by decide) ?_)
  simp only [g57, b57]
  have hl : (L.map verV).length * 40 ≤ LIM := by simpa [lst] using h
  simp +contextual -implicitDefEqProofs (maxSteps := 2000000) only [↓wP, wQ, wQ1, wQ2, wQ3, boxE, List.take_length, partsOf, ↓reduceIte, Nat.reduceEqDiff, Nat.reduceAdd, Nat.reduceSub, Nat.reduceLeDiff, Nat.reduceLT, Nat.reduceMul, Nat.zero_add, Nat.add_zero, Nat.mul_zero, Nat.le_refl, Nat.zero_le, Nat.one_ne_zero, Nat.zero_ne_one, reduceCtorEq, List.map_cons, List.map_nil, List.mapM_cons, List.mapM_nil, List.flatMap_cons, List.flatMap_nil, List.append_nil, List.nil_append, List.cons_append, List.drop_zero, List.drop_succ_cons, List.take_zero, List.take_succ_cons, List.take_nil, List.drop_nil, List.length_cons, List.length_nil, List.getElem?_cons_zero, List.getElem?_cons_succ, List.getElem?_nil, List.set_cons_zero, List.set_cons_succ, List.all_cons, List.all_nil, Option.bind_some, Option.bind_none, Option.map_some, Option.map_none, Option.pure_def, Option.bind_eq_bind, Bool.and_true, Bool.true_and, Bool.and_self, Bool.or_false, Bool.false_or, Bool.and_false, Bool.false_and, Bool.or_true, Bool.true_or, Bool.not_true, Bool.not_false, Bool.not_not, decide_true, decide_false, and_self, and_true, true_and, beq_self_eq_true, beq_true, beq_false, bne_self_eq_false, Int.reduceBNe, Int.reduceBEq, Int.reduceLT, Int.reduceLE, Int.reduceGT, Bool.false_eq_true, Nat.zero_lt_succ, Nat.zero_lt_one, Nat.add_assoc, Nat.left_eq_add, Nat.add_eq_left, slV_some, hl]
  have := giv_row (σ := upd (upd (upd Sto.empty 0 (some (.row 3 []))) 0 none) 1 (some (.row 3 (L.map verV)))) (id := 1) (sz := 3) (xs := L.map verV) (by simp [upd])
    (fun x hx => by obtain ⟨t, -, rfl⟩ := List.mem_map.1 hx; cases ht : t.v <;> simp [verV, elemM, giv, slV, ht])
    (fun x hx c hc => by
      obtain ⟨t, -, rfl⟩ := List.mem_map.1 hx
      simp only [verV, V.cells, List.mem_cons, List.not_mem_nil, or_false] at hc
      rcases hc with rfl | rfl | rfl
      · rfl
      · rfl
      · cases t.v <;> rfl)
  simpa using this

theorem f57 (L : List Ver) (h : L.length * 40 ≤ LIM) (fs : Bool) (σ : Sto) (n lk : Nat) : callE T fs 57 [slV 3 verV (some L)] σ n lk = some (.ref n 0 (L.map verV).length 3, upd σ n (some (.row 3 (L.map verV))), n + 1) :=
  callE_own (by decide) (r57 L h) (by simp [Tr, Tr_slV]) (fun x hx => by obtain ⟨t, -, rfl⟩ := List.mem_map.1 hx; simp [verV, Nw, Nw_slV]) fs σ n lk

theorem set_mid {α : Type} (A B : List α) (x y : α) (j : Nat) (h : A.length = j) : (A ++ x :: B).set j y = A ++ y :: B := by
  subst h
  simp

theorem r46 (L : List Ver) (h : FitC (some L)) (ha : AllS L) : res T 46 [slV 3 verV (some L)] = some (ownC (some L)) := by
  refine run_res (run_own (fn := g46) rfl rfl (by decide) ?_)
  simp only [g46, b46]
  have hl : L.length * 40 ≤ LIM := by simpa [lst] using h.1
  have h57 := f57 L hl
  simp +contextual -implicitDefEqProofs (maxSteps := 2000000) only [↓wP, wQ, wQ1, wQ2, wQ3, boxE, List.take_length, partsOf, ↓reduceIte, Nat.reduceEqDiff, Nat.reduceAdd, Nat.reduceSub, Nat.reduceLeDiff, Nat.reduceLT, Nat.reduceMul, Nat.zero_add, Nat.add_zero, Nat.mul_zero, Nat.le_refl, Nat.zero_le, Nat.one_ne_zero, Nat.zero_ne_one, reduceCtorEq, List.map_cons, List.map_nil, List.mapM_cons, List.mapM_nil, List.flatMap_cons, List.flatMap_nil, List.append_nil, List.nil_append, List.cons_append, List.drop_zero, List.drop_succ_cons, List.take_zero, List.take_succ_cons, List.take_nil, List.drop_nil, List.length_cons, List.length_nil, List.getElem?_cons_zero, List.getElem?_cons_succ, List.getElem?_nil, List.set_cons_zero, List.set_cons_succ, List.all_cons, List.all_nil, Option.bind_some, Option.bind_none, Option.map_some, Option.map_none, Option.pure_def, Option.bind_eq_bind, Bool.and_true, Bool.true_and, Bool.and_self, Bool.or_false, Bool.false_or, Bool.and_false, Bool.false_and, Bool.or_true, Bool.true_or, Bool.not_true, Bool.not_false, Bool.not_not, decide_true, decide_false, and_self, and_true, true_and, beq_self_eq_true, beq_true, beq_false, bne_self_eq_false, Int.reduceBNe, Int.reduceBEq, Int.reduceLT, Int.reduceLE, Int.reduceGT, Bool.false_eq_true, Nat.zero_lt_succ, Nat.zero_lt_one, Nat.add_assoc, Nat.left_eq_add, Nat.add_eq_left, h57]
  refine WC_for (L.map verV).length 0 (fun (j : Nat) env σ n => env 3 = .ref 0 0 (L.map verV).length 3 ∧ ∃ ids, σ 0 = some (.row 3 ((L.take j).zipWith erow ids ++ (L.drop j).map verV)) ∧ (0 :: ids).Nodup ∧ (∀ i ∈ ids, 1 ≤ i ∧ i < n) ∧ 1 ≤ n ∧ Vecs σ (L.take j) ids)
    (by unfold LIM at hl; simp; omega) (by decide) (by decide) (fun _ _ => rfl) (fun _ _ _ => rfl) ?_ ?_ _ _ _ rfl rfl ?_
  · intro j env σ n hj h1 h2 ⟨h3, ids, h4, h5, h6, h7, h8⟩
    simp only [vl_tmp] at h2
    have hj' : j < L.length := by simpa using hj
    have hz : ((L.take j).zipWith erow ids).length = j := by rw [zip_len h8, List.length_take]; omega
    have hvs := ha L[j] (List.getElem_mem hj')
    have hx : ((L.take j).zipWith erow ids ++ (L.drop j).map verV)[j]? = some (.agg [.int .u64 L[j].b, .int .u64 L[j].e, slV 1 i32V (some (lst L[j].v))]) := by
      rw [List.getElem?_append_right (by omega), hz, Nat.sub_self, List.getElem?_map, List.getElem?_drop, Nat.add_zero, List.getElem?_eq_getElem hj']
      simp only [Option.map_some, verV]
      rw [← hvs]
    have h51 := f51 (lst L[j].v) (h.2 _ (by rw [lst_some]; exact List.getElem_mem hj'))
    have hn0 : (0 = n) = False := by simp; omega
    have hset : ((L.take j).zipWith erow ids ++ (L.drop j).map verV).set j (.agg [.int .u64 L[j].b, .int .u64 L[j].e, .ref n 0 (lst L[j].v).length 1]) = (L.take (j + 1)).zipWith erow (ids ++ [n]) ++ (L.drop (j + 1)).map verV := by
      rw [List.drop_eq_getElem_cons hj', List.map_cons, set_mid _ _ _ _ j hz, ← List.take_append_getElem hj', List.zipWith_append (by rw [h8.1]), List.append_assoc]
      rfl
    simp +contextual -implicitDefEqProofs (maxSteps := 2000000) only [↓wP, wQ, wQ1, wQ2, wQ3, boxE, List.take_length, partsOf, ↓reduceIte, Nat.reduceEqDiff, Nat.reduceAdd, Nat.reduceSub, Nat.reduceLeDiff, Nat.reduceLT, Nat.reduceMul, Nat.zero_add, Nat.add_zero, Nat.mul_zero, Nat.le_refl, Nat.zero_le, Nat.one_ne_zero, Nat.zero_ne_one, reduceCtorEq, List.map_cons, List.map_nil, List.mapM_cons, List.mapM_nil, List.flatMap_cons, List.flatMap_nil, List.append_nil, List.nil_append, List.cons_append, List.drop_zero, List.drop_succ_cons, List.take_zero, List.take_succ_cons, List.take_nil, List.drop_nil, List.length_cons, List.length_nil, List.getElem?_cons_zero, List.getElem?_cons_succ, List.getElem?_nil, List.set_cons_zero, List.set_cons_succ, List.all_cons, List.all_nil, Option.bind_some, Option.bind_none, Option.map_some, Option.map_none, Option.pure_def, Option.bind_eq_bind, Bool.and_true, Bool.true_and, Bool.and_self, Bool.or_false, Bool.false_or, Bool.and_false, Bool.false_and, Bool.or_true, Bool.true_or, Bool.not_true, Bool.not_false, Bool.not_not, decide_true, decide_false, and_self, and_true, true_and, beq_self_eq_true, beq_true, beq_false, bne_self_eq_false, Int.reduceBNe, Int.reduceBEq, Int.reduceLT, Int.reduceLE, Int.reduceGT, Bool.false_eq_true, Nat.zero_lt_succ, Nat.zero_lt_one, Nat.add_assoc, Nat.left_eq_add, Nat.add_eq_left, h1, h2, h3, h4, hj, hx, h51, hn0, hset]
    refine ⟨ids ++ [n], rfl, ?_, ?_, ?_⟩
    · rw [← List.cons_append]
      refine List.nodup_append.2 ⟨h5, by simp, fun a ha' b hb => ?_⟩
      rw [List.mem_singleton.1 hb]
      rcases List.mem_cons.1 ha' with rfl | ha'
      · omega
      · have := (h6 a ha').2; omega
    · intro i hi
      rcases List.mem_append.1 hi with hi | hi
      · have := h6 i hi; omega
      · rw [List.mem_singleton.1 hi]; omega
    · rw [← List.take_append_getElem hj']
      refine Vecs.append (h8.loc fun i hi => ?_) ⟨rfl, fun k x i hx' hi => ?_⟩
      · have := h6 i hi
        have a1 : i ≠ 0 := by omega
        have a2 : i ≠ n := by omega
        simp only [upd_get, a1, a2, if_false]
      · cases k with
        | succ k => simp at hx'
        | zero =>
          simp at hx' hi
          subst hx'; subst hi
          have a1 : n ≠ 0 := by omega
          simp only [upd_get, a1, if_false, if_true]
  · intro env σ n ⟨h3, ids, h4, h5, h6, h7, h8⟩ h1 h2
    rw [List.length_map, List.drop_length, List.take_length, List.map_nil, List.append_nil] at h4
    rw [List.length_map, List.take_length] at h8
    simp +contextual -implicitDefEqProofs (maxSteps := 2000000) only [↓wP, wQ, wQ1, wQ2, wQ3, boxE, List.take_length, partsOf, ↓reduceIte, Nat.reduceEqDiff, Nat.reduceAdd, Nat.reduceSub, Nat.reduceLeDiff, Nat.reduceLT, Nat.reduceMul, Nat.zero_add, Nat.add_zero, Nat.mul_zero, Nat.le_refl, Nat.zero_le, Nat.one_ne_zero, Nat.zero_ne_one, reduceCtorEq, List.map_cons, List.map_nil, List.mapM_cons, List.mapM_nil, List.flatMap_cons, List.flatMap_nil, List.append_nil, List.nil_append, List.cons_append, List.drop_zero, List.drop_succ_cons, List.take_zero, List.take_succ_cons, List.take_nil, List.drop_nil, List.length_cons, List.length_nil, List.getElem?_cons_zero, List.getElem?_cons_succ, List.getElem?_nil, List.set_cons_zero, List.set_cons_succ, List.all_cons, List.all_nil, Option.bind_some, Option.bind_none, Option.map_some, Option.map_none, Option.pure_def, Option.bind_eq_bind, Bool.and_true, Bool.true_and, Bool.and_self, Bool.or_false, Bool.false_or, Bool.and_false, Bool.false_and, Bool.or_true, Bool.true_or, Bool.not_true, Bool.not_false, Bool.not_not, decide_true, decide_false, and_self, and_true, true_and, beq_self_eq_true, beq_true, beq_false, bne_self_eq_false, Int.reduceBNe, Int.reduceBEq, Int.reduceLT, Int.reduceLE, Int.reduceGT, Bool.false_eq_true, Nat.zero_lt_succ, Nat.zero_lt_one, Nat.add_assoc, Nat.left_eq_add, Nat.add_eq_left, h3]
    have hc : Chn σ 0 n (.ref 0 0 L.length 3) (some L) := ⟨0, ids, rfl, h4, h5, fun i hi => by
      rcases List.mem_cons.1 hi with rfl | hi
      · omega
      · have := h6 i hi; omega, h8⟩
    have := hc.giv 9
    rw [List.length_map]
    exact ⟨this.1, this.2.1⟩
  · exact ⟨rfl, [], by simp [upd], by simp, by simp, by omega, by simp, fun j x i hx => by simp at hx⟩

theorem r57n : res T 57 [slV 3 verV none] = some .nilS := by
  refine run_res (run_own (fn := g57) rfl rfl (by decide) ?_)
  simp only [g57, b57]
  simp +contextual -implicitDefEqProofs (maxSteps := 2000000) only [↓wP, wQ, wQ1, wQ2, wQ3, boxE, List.take_length, partsOf, ↓reduceIte, Nat.reduceEqDiff, Nat.reduceAdd, Nat.reduceSub, Nat.reduceLeDiff, Nat.reduceLT, Nat.reduceMul, Nat.zero_add, Nat.add_zero, Nat.mul_zero, Nat.le_refl, Nat.zero_le, Nat.one_ne_zero, Nat.zero_ne_one, reduceCtorEq, List.map_cons, List.map_nil, List.mapM_cons, List.mapM_nil, List.flatMap_cons, List.flatMap_nil, List.append_nil, List.nil_append, List.cons_append, List.drop_zero, List.drop_succ_cons, List.take_zero, List.take_succ_cons, List.take_nil, List.drop_nil, List.length_cons, List.length_nil, List.getElem?_cons_zero, List.getElem?_cons_succ, List.getElem?_nil, List.set_cons_zero, List.set_cons_succ, List.all_cons, List.all_nil, Option.bind_some, Option.bind_none, Option.map_some, Option.map_none, Option.pure_def, Option.bind_eq_bind, Bool.and_true, Bool.true_and, Bool.and_self, Bool.or_false, Bool.false_or, Bool.and_false, Bool.false_and, Bool.or_true, Bool.true_or, Bool.not_true, Bool.not_false, Bool.not_not, decide_true, decide_false, and_self, and_true, true_and, beq_self_eq_true, beq_true, beq_false, bne_self_eq_false, Int.reduceBNe, Int.reduceBEq, Int.reduceLT, Int.reduceLE, Int.reduceGT, Bool.false_eq_true, Nat.zero_lt_succ, Nat.zero_lt_one, Nat.add_assoc, Nat.left_eq_add, Nat.add_eq_left, slV_none, Option.isNone_none]
  exact ⟨rfl, by simp [gids]⟩
theorem f57n (fs : Bool) (σ : Sto) (n lk : Nat) : callE T fs 57 [slV 3 verV none] σ n lk = some (.nilS, σ, n) := callE_tr (by decide) r57n (by simp [Tr, Tr_slV]) rfl fs σ n lk
theorem r46n : res T 46 [slV 3 verV none] = some .nilS := by
  refine run_res (run_own (fn := g46) rfl rfl (by decide) ?_)
  simp only [g46, b46]
  simp +contextual -implicitDefEqProofs (maxSteps := 2000000) only [↓wP, wQ, wQ1, wQ2, wQ3, boxE, List.take_length, partsOf, ↓reduceIte, Nat.reduceEqDiff, Nat.reduceAdd, Nat.reduceSub, Nat.reduceLeDiff, Nat.reduceLT, Nat.reduceMul, Nat.zero_add, Nat.add_zero, Nat.mul_zero, Nat.le_refl, Nat.zero_le, Nat.one_ne_zero, Nat.zero_ne_one, reduceCtorEq, List.map_cons, List.map_nil, List.mapM_cons, List.mapM_nil, List.flatMap_cons, List.flatMap_nil, List.append_nil, List.nil_append, List.cons_append, List.drop_zero, List.drop_succ_cons, List.take_zero, List.take_succ_cons, List.take_nil, List.drop_nil, List.length_cons, List.length_nil, List.getElem?_cons_zero, List.getElem?_cons_succ, List.getElem?_nil, List.set_cons_zero, List.set_cons_succ, List.all_cons, List.all_nil, Option.bind_some, Option.bind_none, Option.map_some, Option.map_none, Option.pure_def, Option.bind_eq_bind, Bool.and_true, Bool.true_and, Bool.and_self, Bool.or_false, Bool.false_or, Bool.and_false, Bool.false_and, Bool.or_true, Bool.true_or, Bool.not_true, Bool.not_false, Bool.not_not, decide_true, decide_false, and_self, and_true, true_and, beq_self_eq_true, beq_true, beq_false, bne_self_eq_false, Int.reduceBNe, Int.reduceBEq, Int.reduceLT, Int.reduceLE, Int.reduceGT, Bool.false_eq_true, Nat.zero_lt_succ, Nat.zero_lt_one, Nat.add_assoc, Nat.left_eq_add, Nat.add_eq_left, f57n]
  refine WC_for 0 0 (fun _ env σ n => env 3 = .nilS) (by omega) (by decide) (by decide) (fun _ _ => rfl) (fun _ _ _ => rfl) (fun j _ _ _ hj => absurd hj (by omega)) ?_ _ _ _ rfl rfl rfl
  intro env σ n h3 h1 h2
  simp +contextual -implicitDefEqProofs (maxSteps := 2000000) only [↓wP, wQ, wQ1, wQ2, wQ3, boxE, List.take_length, partsOf, ↓reduceIte, Nat.reduceEqDiff, Nat.reduceAdd, Nat.reduceSub, Nat.reduceLeDiff, Nat.reduceLT, Nat.reduceMul, Nat.zero_add, Nat.add_zero, Nat.mul_zero, Nat.le_refl, Nat.zero_le, Nat.one_ne_zero, Nat.zero_ne_one, reduceCtorEq, List.map_cons, List.map_nil, List.mapM_cons, List.mapM_nil, List.flatMap_cons, List.flatMap_nil, List.append_nil, List.nil_append, List.cons_append, List.drop_zero, List.drop_succ_cons, List.take_zero, List.take_succ_cons, List.take_nil, List.drop_nil, List.length_cons, List.length_nil, List.getElem?_cons_zero, List.getElem?_cons_succ, List.getElem?_nil, List.set_cons_zero, List.set_cons_succ, List.all_cons, List.all_nil, Option.bind_some, Option.bind_none, Option.map_some, Option.map_none, Option.pure_def, Option.bind_eq_bind, Bool.and_true, Bool.true_and, Bool.and_self, Bool.or_false, Bool.false_or, Bool.and_false, Bool.false_and, Bool.or_true, Bool.true_or, Bool.not_true, Bool.not_false, Bool.not_not, decide_true, decide_false, and_self, and_true, true_and, beq_self_eq_true, beq_true, beq_false, bne_self_eq_false, Int.reduceBNe, Int.reduceBEq, Int.reduceLT, Int.reduceLE, Int.reduceGT, Bool.false_eq_true, Nat.zero_lt_succ, Nat.zero_lt_one, Nat.add_assoc, Nat.left_eq_add, Nat.add_eq_left, h3]
  exact ⟨rfl, by simp [gids]⟩

theorem t46 (o : Option (List Ver)) (h : FitC o) (ha : AllS (lst o)) (fs : Bool) (σ : Sto) (n lk : Nat) : callE T fs 46 [slV 3 verV o] σ n lk = some (thaw σ n (ownC o)) := by
  cases o with
  | none => exact callE_thaw (by decide) r46n (by simp [Tr, Tr_slV]) fs σ n lk
  | some L => exact callE_thaw (by decide) (r46 L h ha) (by simp [Tr, Tr_slV]) fs σ n lk

end Go.Q.S3
end

section
/- The open version ends; a version is put behind the others. -/
set_option linter.unusedSimpArgs false
set_option linter.unusedVariables false
namespace Go.Q.S3
open Go.Q

theorem raw50 (σ : Sto) (n id : Nat) (rows : List V) (N : Nat) (b e : Int) (w : V) (ts : Int) (hN : rows.length = N) (hpos : 0 < N) (hlt : N < 9223372036854775808) (hσ : σ id = some (.row 3 rows)) (hx : rows[N - 1]? = some (.agg [.int .u64 b, .int .u64 e, w])) (hw : w.one = true)
    {Q : V → Sto → Nat → Prop} (hQ : Q (.bool (e == 0)) (if e = 0 then upd σ id (some (.row 3 (rows.set (N - 1) (.agg [.int .u64 b, .int .u64 ts, w])))) else σ) n) :
    run T (.raw 50 [.ref id 0 N 3, .int .u64 ts] σ n 0) (memQ Q) := by
  refine run_rawE (fn := g50) rfl rfl ?_
  simp only [g50, b50]
  have h0 : ((N : Int) == 0) = false := by simp; omega
  have hw1 : IntKind.i64.wrap ((N : Int) - 1) = ((N - 1 : Nat) : Int) := by rw [wrap_i64] <;> omega
  have hl : N - 1 < N := by omega
  cases he : e == 0
  · have he' : e ≠ 0 := by simpa using he
    have hd : (e != 0) = true := by simpa using he'
    rw [he, if_neg he'] at hQ
    simp +contextual -implicitDefEqProofs (maxSteps := 2000000) only [↓wP, wQ, wQ1, wQ2, wQ3, boxE, List.take_length, partsOf, ↓reduceIte, Nat.reduceEqDiff, Nat.reduceAdd, Nat.reduceSub, Nat.reduceLeDiff, Nat.reduceLT, Nat.reduceMul, Nat.zero_add, Nat.add_zero, Nat.mul_zero, Nat.le_refl, Nat.zero_le, Nat.one_ne_zero, Nat.zero_ne_one, reduceCtorEq, List.map_cons, List.map_nil, List.mapM_cons, List.mapM_nil, List.flatMap_cons, List.flatMap_nil, List.append_nil, List.nil_append, List.cons_append, List.drop_zero, List.drop_succ_cons, List.take_zero, List.take_succ_cons, List.take_nil, List.drop_nil, List.length_cons, List.length_nil, List.getElem?_cons_zero, List.getElem?_cons_succ, List.getElem?_nil, List.set_cons_zero, List.set_cons_succ, List.all_cons, List.all_nil, Option.bind_some, Option.bind_none, Option.map_some, Option.map_none, Option.pure_def, Option.bind_eq_bind, Bool.and_true, Bool.true_and, Bool.and_self, Bool.or_false, Bool.false_or, Bool.and_false, Bool.false_and, Bool.or_true, Bool.true_or, Bool.not_true, Bool.not_false, Bool.not_not, decide_true, decide_false, and_self, and_true, true_and, beq_self_eq_true, beq_true, beq_false, bne_self_eq_false, Int.reduceBNe, Int.reduceBEq, Int.reduceLT, Int.reduceLE, Int.reduceGT, Bool.false_eq_true, Nat.zero_lt_succ, Nat.zero_lt_one, Nat.add_assoc, Nat.left_eq_add, Nat.add_eq_left, h0, hw1, hl, hσ, hx, hd]
    exact hQ
  · have he' : e = 0 := by simpa using he
    subst he'
    rw [he, if_pos rfl] at hQ
    simp +contextual -implicitDefEqProofs (maxSteps := 2000000) only [↓wP, wQ, wQ1, wQ2, wQ3, boxE, List.take_length, partsOf, ↓reduceIte, Nat.reduceEqDiff, Nat.reduceAdd, Nat.reduceSub, Nat.reduceLeDiff, Nat.reduceLT, Nat.reduceMul, Nat.zero_add, Nat.add_zero, Nat.mul_zero, Nat.le_refl, Nat.zero_le, Nat.one_ne_zero, Nat.zero_ne_one, reduceCtorEq, List.map_cons, List.map_nil, List.mapM_cons, List.mapM_nil, List.flatMap_cons, List.flatMap_nil, List.append_nil, List.nil_append, List.cons_append, List.drop_zero, List.drop_succ_cons, List.take_zero, List.take_succ_cons, List.take_nil, List.drop_nil, List.length_cons, List.length_nil, List.getElem?_cons_zero, List.getElem?_cons_succ, List.getElem?_nil, List.set_cons_zero, List.set_cons_succ, List.all_cons, List.all_nil, Option.bind_some, Option.bind_none, Option.map_some, Option.map_none, Option.pure_def, Option.bind_eq_bind, Bool.and_true, Bool.true_and, Bool.and_self, Bool.or_false, Bool.false_or, Bool.and_false, Bool.false_and, Bool.or_true, Bool.true_or, Bool.not_true, Bool.not_false, Bool.not_not, decide_true, decide_false, and_self, and_true, true_and, beq_self_eq_true, beq_true, beq_false, bne_self_eq_false, Int.reduceBNe, Int.reduceBEq, Int.reduceLT, Int.reduceLE, Int.reduceGT, Bool.false_eq_true, Nat.zero_lt_succ, Nat.zero_lt_one, Nat.add_assoc, Nat.left_eq_add, Nat.add_eq_left, h0, hw1, hl, hσ, hx, hw]
    exact hQ

theorem raw50n (σ : Sto) (n : Nat) (ts : Int) {Q : V → Sto → Nat → Prop} (hQ : Q (.bool false) σ n) : run T (.raw 50 [.nilS, .int .u64 ts] σ n 0) (memQ Q) := by
  refine run_rawE (fn := g50) rfl rfl ?_
  simp only [g50, b50]
  have h0 : (((0 : Nat) : Int) == 0) = true := rfl
  simp +contextual -implicitDefEqProofs (maxSteps := 2000000) only [↓wP, wQ, wQ1, wQ2, wQ3, boxE, List.take_length, partsOf, ↓reduceIte, Nat.reduceEqDiff, Nat.reduceAdd, Nat.reduceSub, Nat.reduceLeDiff, Nat.reduceLT, Nat.reduceMul, Nat.zero_add, Nat.add_zero, Nat.mul_zero, Nat.le_refl, Nat.zero_le, Nat.one_ne_zero, Nat.zero_ne_one, reduceCtorEq, List.map_cons, List.map_nil, List.mapM_cons, List.mapM_nil, List.flatMap_cons, List.flatMap_nil, List.append_nil, List.nil_append, List.cons_append, List.drop_zero, List.drop_succ_cons, List.take_zero, List.take_succ_cons, List.take_nil, List.drop_nil, List.length_cons, List.length_nil, List.getElem?_cons_zero, List.getElem?_cons_succ, List.getElem?_nil, List.set_cons_zero, List.set_cons_succ, List.all_cons, List.all_nil, Option.bind_some, Option.bind_none, Option.map_some, Option.map_none, Option.pure_def, Option.bind_eq_bind, Bool.and_true, Bool.true_and, Bool.and_self, Bool.or_false, Bool.false_or, Bool.and_false, Bool.false_and, Bool.or_true, Bool.true_or, Bool.not_true, Bool.not_false, Bool.not_not, decide_true, decide_false, and_self, and_true, true_and, beq_self_eq_true, beq_true, beq_false, bne_self_eq_false, Int.reduceBNe, Int.reduceBEq, Int.reduceLT, Int.reduceLE, Int.reduceGT, Bool.false_eq_true, Nat.zero_lt_succ, Nat.zero_lt_one, Nat.add_assoc, Nat.left_eq_add, Nat.add_eq_left, h0]
  exact hQ

/-- Is the last one open? -/
def openL (L : List Ver) : Bool := match L.getLast? with
  | some x => x.e == 0
  | none => false
/-- The open one ends. -/
def closeL (ts : Int) (L : List Ver) : List Ver := match L.getLast? with
  | some x => if x.e = 0 then L.dropLast ++ [⟨x.b, ts, x.v⟩] else L
  | none => L

theorem chn50 {σ : Sto} {m n0 n : Nat} {v : V} {o : Option (List Ver)} (h : Chn σ m n0 v o) (hlen : (lst o).length < 9223372036854775808) (ts : Int) {Q : V → Sto → Nat → Prop}
    (hQ : ∀ σ', Chn σ' m n0 v (o.map (closeL ts)) → (∀ i, ¬ (m ≤ i ∧ i < n0) → σ' i = σ i) → Q (.bool (openL (lst o))) σ' n) : run T (.raw 50 [v, .int .u64 ts] σ n 0) (memQ Q) := by
  cases o with
  | none =>
    simp only [Chn] at h
    subst h
    exact raw50n σ n ts (hQ σ rfl (fun _ _ => rfl))
  | some L =>
    obtain ⟨id, ids, rfl, h1, h2, h3, h4⟩ := h
    rcases List.eq_nil_or_concat L with rfl | ⟨A, x, rfl⟩
    · have : run T (.raw 50 [.ref id 0 0 3, .int .u64 ts] σ n 0) (memQ Q) := by
        refine run_rawE (fn := g50) rfl rfl ?_
        simp only [g50, b50]
        have h0 : (((0 : Nat) : Int) == 0) = true := rfl
        simp +contextual -implicitDefEqProofs (maxSteps := 2000000) only [↓wP, wQ, wQ1, wQ2, wQ3, boxE, List.take_length, partsOf, ↓reduceIte, Nat.reduceEqDiff, Nat.reduceAdd, Nat.reduceSub, Nat.reduceLeDiff, Nat.reduceLT, Nat.reduceMul, Nat.zero_add, Nat.add_zero, Nat.mul_zero, Nat.le_refl, Nat.zero_le, Nat.one_ne_zero, Nat.zero_ne_one, reduceCtorEq, List.map_cons, List.map_nil, List.mapM_cons, List.mapM_nil, List.flatMap_cons, List.flatMap_nil, List.append_nil, List.nil_append, List.cons_append, List.drop_zero, List.drop_succ_cons, List.take_zero, List.take_succ_cons, List.take_nil, List.drop_nil, List.length_cons, List.length_nil, List.getElem?_cons_zero, List.getElem?_cons_succ, List.getElem?_nil, List.set_cons_zero, List.set_cons_succ, List.all_cons, List.all_nil, Option.bind_some, Option.bind_none, Option.map_some, Option.map_none, Option.pure_def, Option.bind_eq_bind, Bool.and_true, Bool.true_and, Bool.and_self, Bool.or_false, Bool.false_or, Bool.and_false, Bool.false_and, Bool.or_true, Bool.true_or, Bool.not_true, Bool.not_false, Bool.not_not, decide_true, decide_false, and_self, and_true, true_and, beq_self_eq_true, beq_true, beq_false, bne_self_eq_false, Int.reduceBNe, Int.reduceBEq, Int.reduceLT, Int.reduceLE, Int.reduceGT, Bool.false_eq_true, Nat.zero_lt_succ, Nat.zero_lt_one, Nat.add_assoc, Nat.left_eq_add, Nat.add_eq_left, h0]
        exact hQ σ ⟨id, ids, rfl, h1, h2, h3, h4⟩ (fun _ _ => rfl)
      exact this
    · have hlast : (A ++ [x]).getLast? = some x := by simp
      have hidl : ids.length = A.length + 1 := by rw [h4.1]; simp
      obtain ⟨B, i, rfl⟩ : ∃ B i, ids = B ++ [i] := by
        rcases List.eq_nil_or_concat ids with rfl | ⟨B, i, rfl⟩
        · simp at hidl
        · exact ⟨B, i, by simp⟩
      have hB : B.length = A.length := by simpa using hidl
      have hz : (A.zipWith erow B).length = A.length := by simp [hB]
      rw [List.concat_eq_append] at *
      have hrows : (A ++ [x]).zipWith erow (B ++ [i]) = A.zipWith erow B ++ [erow x i] := by rw [List.zipWith_append (by rw [hB])]; rfl
      rw [hrows] at h1
      have hlen' : (A ++ [x]).length = A.length + 1 := by simp
      rw [hlen']
      rw [lst_some] at hlen
      refine raw50 σ n id (A.zipWith erow B ++ [erow x i]) (A.length + 1) x.b x.e (vref i x) ts (by simp [hB]) (by omega) (by rw [hlen'] at hlen; exact hlen) h1 ?_ rfl ?_
      · rw [Nat.add_sub_cancel, List.getElem?_append_right (by omega), hz, Nat.sub_self]; rfl
      · have ho : openL (lst (some (A ++ [x]))) = (x.e == 0) := by simp [openL, lst_some]
        rw [← ho]
        have hc : closeL ts (A ++ [x]) = if x.e = 0 then A ++ [⟨x.b, ts, x.v⟩] else A ++ [x] := by simp [closeL]
        by_cases he : x.e = 0
        · rw [if_pos he] at hc ⊢
          refine hQ _ ?_ ?_
          · rw [Option.map_some, hc]
            refine ⟨id, B ++ [i], by simp, ?_, h2, h3, ?_⟩
            · rw [Nat.add_sub_cancel, set_mid _ _ _ _ _ hz, List.zipWith_append (by rw [hB])]
              simp only [upd_get, if_true]
              rfl
            · refine ⟨by simp [hB], fun j y k hy hk => ?_⟩
              have hkid : k ≠ id := fun e => by
                subst e
                exact (List.nodup_cons.1 h2).1 (List.mem_of_getElem? hk)
              simp only [upd_get, hkid, if_false]
              rw [List.getElem?_append] at hy
              split at hy <;> rename_i hj
              · exact h4.2 j y k (by rw [List.getElem?_append_left hj]; exact hy) hk
              · have hj0 : j - A.length = 0 := by
                  rcases Nat.eq_zero_or_pos (j - A.length) with h | h
                  · exact h
                  · rw [List.getElem?_eq_none (by simp; omega)] at hy; cases hy
                rw [hj0] at hy
                simp only [List.getElem?_cons_zero, Option.some.injEq] at hy
                subst hy
                exact h4.2 j x k (by rw [List.getElem?_append_right (by omega), hj0]; rfl) hk
          · intro k hk
            have : k ≠ id := fun e => hk (by subst e; exact h3 k (by simp))
            simp only [upd_get, this, if_false]
        · rw [if_neg he] at hc ⊢
          refine hQ _ ?_ (fun _ _ => rfl)
          rw [Option.map_some, hc]
          exact ⟨id, B ++ [i], by simp, by rw [h1, hrows], h2, h3, h4⟩

theorem Chn.append {σ : Sto} {m n0 lab i : Nat} {v : V} {o : Option (List Ver)} {y : Ver} (h : Chn σ m n0 v o) (hn : n0 ≤ lab) (hi : n0 ≤ i) (hi' : i < lab) (hmi : m ≤ i)
    (hv : σ i = some (.row 1 ((lst y.v).map i32V))) (hl : ((lst o).length + 1) * 40 ≤ LIM) :
    ∃ v' σ', appendE 3 40 0 v (some [erow y i]) σ lab = some (v', σ', lab + 1) ∧ v'.cells = [v'] ∧ v'.one = true ∧ (∀ σ2 : Sto, (∀ k, (m ≤ k ∧ k < n0) ∨ k = i ∨ k = lab → σ2 k = σ' k) → Chn σ2 m (lab + 1) v' (some (lst o ++ [y]))) ∧ ∀ k, k < lab → ¬ (m ≤ k ∧ k < n0) → σ' k = σ k := by
  cases o with
  | none =>
    simp only [Chn] at h
    subst h
    have h1 : (1 : Nat) * 40 ≤ LIM := by unfold LIM; omega
    rw [appendE_nil]
    simp only [List.isEmpty_cons, Bool.false_eq_true, if_false, List.length_cons, List.length_nil, Nat.zero_add, h1, if_true]
    refine ⟨_, _, rfl, rfl, rfl, fun σ2 hσ2 => ⟨lab, [i], rfl, by rw [hσ2 lab (.inr (.inr rfl))]; simp [upd, lst, erow], by simp; omega, ?_, ?_⟩, fun k hk _ => ?_⟩
    · intro k hk
      simp at hk
      omega
    · refine ⟨rfl, fun j x k hx hk => ?_⟩
      cases j with
      | succ j => simp [lst] at hx
      | zero =>
        simp [lst] at hx hk
        subst hx; subst hk
        have a1 : i ≠ lab := by omega
        rw [hσ2 i (.inr (.inl rfl))]
        simp only [upd_get, a1, if_false]
        exact hv
    · have a1 : k ≠ lab := by omega
      simp only [upd_get, a1, if_false]
  | some L =>
    obtain ⟨id, ids, rfl, h1, h2, h3, h4⟩ := h
    have hz := zip_len h4
    rw [lst_some] at hl
    have hid := h3 id (by simp)
    rw [appendE_ref, h1, appE_row', if_pos ⟨hz.symm, Nat.zero_le _, by simpa using hl⟩]
    refine ⟨_, _, rfl, rfl, rfl, fun σ2 hσ2 => ⟨lab, ids ++ [i], by simp [lst], ?_, ?_, ?_, ?_⟩, fun k hk hk' => ?_⟩
    · rw [hσ2 lab (.inr (.inr rfl))]
      simp only [upd_get, if_true, lst_some]
      rw [List.zipWith_append (by rw [h4.1])]
      rfl
    · refine List.nodup_cons.2 ⟨fun hk => ?_, List.nodup_append.2 ⟨(List.nodup_cons.1 h2).2, by simp, fun a ha b hb => ?_⟩⟩
      · rcases List.mem_append.1 hk with hk | hk
        · have := h3 lab (List.mem_cons_of_mem _ hk); omega
        · simp at hk; omega
      · have := h3 a (List.mem_cons_of_mem _ ha)
        simp at hb
        omega
    · intro k hk
      rcases List.mem_cons.1 hk with rfl | hk
      · omega
      · rcases List.mem_append.1 hk with hk | hk
        · have := h3 k (List.mem_cons_of_mem _ hk); omega
        · simp at hk; omega
    · refine Vecs.append (h4.loc fun k hk => ?_) ⟨rfl, fun j x k hx hk => ?_⟩
      · have h5 := h3 k (List.mem_cons_of_mem _ hk)
        have a1 : k ≠ lab := by omega
        have a2 : k ≠ id := fun e => by subst e; exact (List.nodup_cons.1 h2).1 hk
        rw [hσ2 k (.inl ⟨h5.1, h5.2⟩)]
        simp only [upd_get, a1, a2, if_false]
      · cases j with
        | succ j => simp at hx
        | zero =>
          simp at hx hk
          subst hx; subst hk
          have a1 : i ≠ lab := by omega
          have a2 : i ≠ id := by omega
          rw [hσ2 i (.inr (.inl rfl))]
          simp only [upd_get, a1, a2, if_false]
          exact hv
    · have a1 : k ≠ lab := by omega
      have a2 : k ≠ id := by omega
      simp only [upd_get, a1, a2, if_false]

theorem Chn.len {σ : Sto} {m n : Nat} {v : V} {o : Option (List Ver)} (h : Chn σ m n v o) : lenE v = some (.int .i64 ((lst o).length : Int)) := by
  cases o with
  | none => simp only [Chn] at h; subst h; rfl
  | some L => obtain ⟨id, ids, rfl, -⟩ := h; rfl
theorem Chn.cells {σ : Sto} {m n : Nat} {v : V} {o : Option (List Ver)} (h : Chn σ m n v o) : v.cells = [v] := by
  cases o with
  | none => simp only [Chn] at h; subst h; rfl
  | some L => obtain ⟨id, ids, rfl, -⟩ := h; rfl
theorem Chn.one {σ : Sto} {m n : Nat} {v : V} {o : Option (List Ver)} (h : Chn σ m n v o) : v.one = true := by
  cases o with
  | none => simp only [Chn] at h; subst h; rfl
  | some L => obtain ⟨id, ids, rfl, -⟩ := h; rfl

theorem raw53 {σ : Sto} {m n0 n pc : Nat} {cv : V} {o : Option (List Ver)} (hc : Chn σ m n0 cv o) (hp : σ pc = some (.row 1 [cv])) (hlen : (lst o).length < 9223372036854775808) (ts : Int) {Q : V → Sto → Nat → Prop}
    (hQ : ∀ σ', Chn σ' m n0 cv (o.map (closeL ts)) → (∀ i, ¬ (m ≤ i ∧ i < n0) → σ' i = σ i) → Q (.int .i64 (if openL (lst o) = true then 0 else 4)) σ' n) :
    run T (.raw 53 [.ptr pc 1 0 0, .box [.int .u64 ts]] σ n 0) (memQ Q) := by
  refine run_rawE (fn := g53) rfl rfl ?_
  simp only [g53, b53]
  have hcl := hc.cells
  simp +contextual -implicitDefEqProofs (maxSteps := 2000000) only [↓wP, wQ, wQ1, wQ2, wQ3, boxE, List.take_length, partsOf, ↓reduceIte, Nat.reduceEqDiff, Nat.reduceAdd, Nat.reduceSub, Nat.reduceLeDiff, Nat.reduceLT, Nat.reduceMul, Nat.zero_add, Nat.add_zero, Nat.mul_zero, Nat.le_refl, Nat.zero_le, Nat.one_ne_zero, Nat.zero_ne_one, reduceCtorEq, List.map_cons, List.map_nil, List.mapM_cons, List.mapM_nil, List.flatMap_cons, List.flatMap_nil, List.append_nil, List.nil_append, List.cons_append, List.drop_zero, List.drop_succ_cons, List.take_zero, List.take_succ_cons, List.take_nil, List.drop_nil, List.length_cons, List.length_nil, List.getElem?_cons_zero, List.getElem?_cons_succ, List.getElem?_nil, List.set_cons_zero, List.set_cons_succ, List.all_cons, List.all_nil, Option.bind_some, Option.bind_none, Option.map_some, Option.map_none, Option.pure_def, Option.bind_eq_bind, Bool.and_true, Bool.true_and, Bool.and_self, Bool.or_false, Bool.false_or, Bool.and_false, Bool.false_and, Bool.or_true, Bool.true_or, Bool.not_true, Bool.not_false, Bool.not_not, decide_true, decide_false, and_self, and_true, true_and, beq_self_eq_true, beq_true, beq_false, bne_self_eq_false, Int.reduceBNe, Int.reduceBEq, Int.reduceLT, Int.reduceLE, Int.reduceGT, Bool.false_eq_true, Nat.zero_lt_succ, Nat.zero_lt_one, Nat.add_assoc, Nat.left_eq_add, Nat.add_eq_left, hp, hcl]
  refine stepW_raw (by decide) (chn50 hc hlen ts fun σ' h1 h2 => ?_)
  have hQ := hQ σ' h1 h2
  cases ho : openL (lst o) <;> rw [ho] at hQ <;> simp +contextual -implicitDefEqProofs (maxSteps := 2000000) only [↓wP, wQ, wQ1, wQ2, wQ3, boxE, List.take_length, partsOf, ↓reduceIte, Nat.reduceEqDiff, Nat.reduceAdd, Nat.reduceSub, Nat.reduceLeDiff, Nat.reduceLT, Nat.reduceMul, Nat.zero_add, Nat.add_zero, Nat.mul_zero, Nat.le_refl, Nat.zero_le, Nat.one_ne_zero, Nat.zero_ne_one, reduceCtorEq, List.map_cons, List.map_nil, List.mapM_cons, List.mapM_nil, List.flatMap_cons, List.flatMap_nil, List.append_nil, List.nil_append, List.cons_append, List.drop_zero, List.drop_succ_cons, List.take_zero, List.take_succ_cons, List.take_nil, List.drop_nil, List.length_cons, List.length_nil, List.getElem?_cons_zero, List.getElem?_cons_succ, List.getElem?_nil, List.set_cons_zero, List.set_cons_succ, List.all_cons, List.all_nil, Option.bind_some, Option.bind_none, Option.map_some, Option.map_none, Option.pure_def, Option.bind_eq_bind, Bool.and_true, Bool.true_and, Bool.and_self, Bool.or_false, Bool.false_or, Bool.and_false, Bool.false_and, Bool.or_true, Bool.true_or, Bool.not_true, Bool.not_false, Bool.not_not, decide_true, decide_false, and_self, and_true, true_and, beq_self_eq_true, beq_true, beq_false, bne_self_eq_false, Int.reduceBNe, Int.reduceBEq, Int.reduceLT, Int.reduceLE, Int.reduceGT, Bool.false_eq_true, Nat.zero_lt_succ, Nat.zero_lt_one, Nat.add_assoc, Nat.left_eq_add, Nat.add_eq_left] <;> exact hQ

def delO (o : Option (List Ver)) (ts : Int) : Option (List Ver) := if okC o = true ∧ lastC (lst o) < ts ∧ ts ≤ 1099511627776 ∧ openL (lst o) = true then o.map (closeL ts) else none
def delE (o : Option (List Ver)) (ts : Int) : Int := if okC o = false then 180 else if ts ≤ lastC (lst o) ∨ 1099511627776 < ts then 181 else if openL (lst o) = true then 0 else 4

/-- A chain and an error are handed back. -/
theorem giv_pair {σ : Sto} {m n : Nat} {v : V} {o : Option (List Ver)} (h : Chn σ m n v o) (e : Int) : giv σ 12 (.tup [v, .int .i64 e]) = some (.tup [ownC o, .int .i64 e]) ∧ (gids σ 12 (.tup [v, .int .i64 e])).Nodup := by
  have h1 := h.giv 8
  constructor
  · simp only [giv, List.mapM_cons, List.mapM_nil, h1.1]
    rfl
  · simp only [gids, List.flatMap_cons, List.flatMap_nil, List.append_nil]
    exact h1.2.1

theorem r48 (o : Option (List Ver)) (ts : Int) (hs : Sm o) (hf : FitC o) (ha : AllS (lst o)) : res T 48 [slV 3 verV o, .int .u64 ts, .fn 53 [.box [.int .u64 ts]]] = some (.tup [ownC (delO o ts), .int .i64 (delE o ts)]) := by
  refine run_res (run_own (fn := g48) rfl rfl (by decide) ?_)
  simp only [g48, b48]
  have h11 := f11 o hs
  have h39 := f39 o hs
  have hm : T.mode 53 = .raw := by decide
  cases hc : okC o
  · have e1 : delO o ts = none := by simp [delO, hc]
    have e2 : delE o ts = 180 := by simp [delE, hc]
    rw [e1, e2]
    simp +contextual -implicitDefEqProofs (maxSteps := 2000000) only [↓wP, wQ, wQ1, wQ2, wQ3, boxE, List.take_length, partsOf, ↓reduceIte, Nat.reduceEqDiff, Nat.reduceAdd, Nat.reduceSub, Nat.reduceLeDiff, Nat.reduceLT, Nat.reduceMul, Nat.zero_add, Nat.add_zero, Nat.mul_zero, Nat.le_refl, Nat.zero_le, Nat.one_ne_zero, Nat.zero_ne_one, reduceCtorEq, List.map_cons, List.map_nil, List.mapM_cons, List.mapM_nil, List.flatMap_cons, List.flatMap_nil, List.append_nil, List.nil_append, List.cons_append, List.drop_zero, List.drop_succ_cons, List.take_zero, List.take_succ_cons, List.take_nil, List.drop_nil, List.length_cons, List.length_nil, List.getElem?_cons_zero, List.getElem?_cons_succ, List.getElem?_nil, List.set_cons_zero, List.set_cons_succ, List.all_cons, List.all_nil, Option.bind_some, Option.bind_none, Option.map_some, Option.map_none, Option.pure_def, Option.bind_eq_bind, Bool.and_true, Bool.true_and, Bool.and_self, Bool.or_false, Bool.false_or, Bool.and_false, Bool.false_and, Bool.or_true, Bool.true_or, Bool.not_true, Bool.not_false, Bool.not_not, decide_true, decide_false, and_self, and_true, true_and, beq_self_eq_true, beq_true, beq_false, bne_self_eq_false, Int.reduceBNe, Int.reduceBEq, Int.reduceLT, Int.reduceLE, Int.reduceGT, Bool.false_eq_true, Nat.zero_lt_succ, Nat.zero_lt_one, Nat.add_assoc, Nat.left_eq_add, Nat.add_eq_left, h11, hc]
    exact giv_pair (o := none) (m := 0) (n := 0) rfl 180
  · by_cases ht : ts ≤ lastC (lst o) ∨ 1099511627776 < ts
    · have e1 : delO o ts = none := by unfold delO; rw [if_neg]; omega
      have e2 : delE o ts = 181 := by simp [delE, hc, ht]
      have hd : (decide (ts ≤ lastC (lst o)) || decide (1099511627776 < ts)) = true := by simpa using ht
      rw [e1, e2]
      simp +contextual -implicitDefEqProofs (maxSteps := 2000000) only [↓wP, wQ, wQ1, wQ2, wQ3, boxE, List.take_length, partsOf, ↓reduceIte, Nat.reduceEqDiff, Nat.reduceAdd, Nat.reduceSub, Nat.reduceLeDiff, Nat.reduceLT, Nat.reduceMul, Nat.zero_add, Nat.add_zero, Nat.mul_zero, Nat.le_refl, Nat.zero_le, Nat.one_ne_zero, Nat.zero_ne_one, reduceCtorEq, List.map_cons, List.map_nil, List.mapM_cons, List.mapM_nil, List.flatMap_cons, List.flatMap_nil, List.append_nil, List.nil_append, List.cons_append, List.drop_zero, List.drop_succ_cons, List.take_zero, List.take_succ_cons, List.take_nil, List.drop_nil, List.length_cons, List.length_nil, List.getElem?_cons_zero, List.getElem?_cons_succ, List.getElem?_nil, List.set_cons_zero, List.set_cons_succ, List.all_cons, List.all_nil, Option.bind_some, Option.bind_none, Option.map_some, Option.map_none, Option.pure_def, Option.bind_eq_bind, Bool.and_true, Bool.true_and, Bool.and_self, Bool.or_false, Bool.false_or, Bool.and_false, Bool.false_and, Bool.or_true, Bool.true_or, Bool.not_true, Bool.not_false, Bool.not_not, decide_true, decide_false, and_self, and_true, true_and, beq_self_eq_true, beq_true, beq_false, bne_self_eq_false, Int.reduceBNe, Int.reduceBEq, Int.reduceLT, Int.reduceLE, Int.reduceGT, Bool.false_eq_true, Nat.zero_lt_succ, Nat.zero_lt_one, Nat.add_assoc, Nat.left_eq_add, Nat.add_eq_left, h11, h39, hc, hd]
      exact giv_pair (o := none) (m := 0) (n := 0) rfl 181
    · have hd : (decide (ts ≤ lastC (lst o)) || decide (1099511627776 < ts)) = false := by simp; omega
      obtain ⟨v', σ', n', h1, h2, h3, h4⟩ := thaw_ownC Sto.empty 0 o
      have h46 := t46 o hf ha true Sto.empty 0 0
      rw [h1] at h46
      have hcl := h2.cells
      have hon := h2.one
      have hsp : spliceC .nilS 0 [v'] = v' := rfl
      simp +contextual -implicitDefEqProofs (maxSteps := 2000000) only [↓wP, wQ, wQ1, wQ2, wQ3, boxE, List.take_length, partsOf, ↓reduceIte, Nat.reduceEqDiff, Nat.reduceAdd, Nat.reduceSub, Nat.reduceLeDiff, Nat.reduceLT, Nat.reduceMul, Nat.zero_add, Nat.add_zero, Nat.mul_zero, Nat.le_refl, Nat.zero_le, Nat.one_ne_zero, Nat.zero_ne_one, reduceCtorEq, List.map_cons, List.map_nil, List.mapM_cons, List.mapM_nil, List.flatMap_cons, List.flatMap_nil, List.append_nil, List.nil_append, List.cons_append, List.drop_zero, List.drop_succ_cons, List.take_zero, List.take_succ_cons, List.take_nil, List.drop_nil, List.length_cons, List.length_nil, List.getElem?_cons_zero, List.getElem?_cons_succ, List.getElem?_nil, List.set_cons_zero, List.set_cons_succ, List.all_cons, List.all_nil, Option.bind_some, Option.bind_none, Option.map_some, Option.map_none, Option.pure_def, Option.bind_eq_bind, Bool.and_true, Bool.true_and, Bool.and_self, Bool.or_false, Bool.false_or, Bool.and_false, Bool.false_and, Bool.or_true, Bool.true_or, Bool.not_true, Bool.not_false, Bool.not_not, decide_true, decide_false, and_self, and_true, true_and, beq_self_eq_true, beq_true, beq_false, bne_self_eq_false, Int.reduceBNe, Int.reduceBEq, Int.reduceLT, Int.reduceLE, Int.reduceGT, Bool.false_eq_true, Nat.zero_lt_succ, Nat.zero_lt_one, Nat.add_assoc, Nat.left_eq_add, Nat.add_eq_left, h11, h39, hc, hd, h46, hcl, hon]
      have h2' : Chn (upd (upd σ' n' (some (.row 1 [.nilS]))) n' (some (.row 1 [v']))) 0 n' v' o := h2.loc (fun i _ hi => by
        have : i ≠ n' := by omega
        simp only [upd_get, this, if_false]) (Nat.le_refl _) (Nat.le_refl _)
      refine stepW_raw hm (raw53 h2' (by simp [upd]) hs.1 ts fun σ2 k1 k2 => ?_)
      have hp : σ2 n' = some (.row 1 [v']) := by rw [k2 n' (by omega)]; simp [upd]
      cases ho : openL (lst o)
      · have e1 : delO o ts = none := by unfold delO; rw [if_neg]; simp [ho]
        have e2 : delE o ts = 4 := by simp [delE, hc, ht, ho]
        rw [e1, e2]
        simp +contextual -implicitDefEqProofs (maxSteps := 2000000) only [↓wP, wQ, wQ1, wQ2, wQ3, boxE, List.take_length, partsOf, ↓reduceIte, Nat.reduceEqDiff, Nat.reduceAdd, Nat.reduceSub, Nat.reduceLeDiff, Nat.reduceLT, Nat.reduceMul, Nat.zero_add, Nat.add_zero, Nat.mul_zero, Nat.le_refl, Nat.zero_le, Nat.one_ne_zero, Nat.zero_ne_one, reduceCtorEq, List.map_cons, List.map_nil, List.mapM_cons, List.mapM_nil, List.flatMap_cons, List.flatMap_nil, List.append_nil, List.nil_append, List.cons_append, List.drop_zero, List.drop_succ_cons, List.take_zero, List.take_succ_cons, List.take_nil, List.drop_nil, List.length_cons, List.length_nil, List.getElem?_cons_zero, List.getElem?_cons_succ, List.getElem?_nil, List.set_cons_zero, List.set_cons_succ, List.all_cons, List.all_nil, Option.bind_some, Option.bind_none, Option.map_some, Option.map_none, Option.pure_def, Option.bind_eq_bind, Bool.and_true, Bool.true_and, Bool.and_self, Bool.or_false, Bool.false_or, Bool.and_false, Bool.false_and, Bool.or_true, Bool.true_or, Bool.not_true, Bool.not_false, Bool.not_not, decide_true, decide_false, and_self, and_true, true_and, beq_self_eq_true, beq_true, beq_false, bne_self_eq_false, Int.reduceBNe, Int.reduceBEq, Int.reduceLT, Int.reduceLE, Int.reduceGT, Bool.false_eq_true, Nat.zero_lt_succ, Nat.zero_lt_one, Nat.add_assoc, Nat.left_eq_add, Nat.add_eq_left]
        exact giv_pair (o := none) (m := 0) (n := 0) rfl 4
      · have e1 : delO o ts = o.map (closeL ts) := by unfold delO; rw [if_pos]; exact ⟨hc, by omega, by omega, ho⟩
        have e2 : delE o ts = 0 := by simp [delE, hc, ht, ho]
        rw [e1, e2]
        simp +contextual -implicitDefEqProofs (maxSteps := 2000000) only [↓wP, wQ, wQ1, wQ2, wQ3, boxE, List.take_length, partsOf, ↓reduceIte, Nat.reduceEqDiff, Nat.reduceAdd, Nat.reduceSub, Nat.reduceLeDiff, Nat.reduceLT, Nat.reduceMul, Nat.zero_add, Nat.add_zero, Nat.mul_zero, Nat.le_refl, Nat.zero_le, Nat.one_ne_zero, Nat.zero_ne_one, reduceCtorEq, List.map_cons, List.map_nil, List.mapM_cons, List.mapM_nil, List.flatMap_cons, List.flatMap_nil, List.append_nil, List.nil_append, List.cons_append, List.drop_zero, List.drop_succ_cons, List.take_zero, List.take_succ_cons, List.take_nil, List.drop_nil, List.length_cons, List.length_nil, List.getElem?_cons_zero, List.getElem?_cons_succ, List.getElem?_nil, List.set_cons_zero, List.set_cons_succ, List.all_cons, List.all_nil, Option.bind_some, Option.bind_none, Option.map_some, Option.map_none, Option.pure_def, Option.bind_eq_bind, Bool.and_true, Bool.true_and, Bool.and_self, Bool.or_false, Bool.false_or, Bool.and_false, Bool.false_and, Bool.or_true, Bool.true_or, Bool.not_true, Bool.not_false, Bool.not_not, decide_true, decide_false, and_self, and_true, true_and, beq_self_eq_true, beq_true, beq_false, bne_self_eq_false, Int.reduceBNe, Int.reduceBEq, Int.reduceLT, Int.reduceLE, Int.reduceGT, Bool.false_eq_true, Nat.zero_lt_succ, Nat.zero_lt_one, Nat.add_assoc, Nat.left_eq_add, Nat.add_eq_left, hp, hcl]
        exact giv_pair k1 0

end Go.Q.S3
end

section
/- A version is put behind the others. -/
set_option linter.unusedSimpArgs false
set_option linter.unusedVariables false
namespace Go.Q.S3
open Go.Q

def dimP (o : Option (List Ver)) (l : List Int) : Int := match lst o with
  | [] => (l.length : Int)
  | x :: _ => ((lst x.v).length : Int)
def putN (o : Option (List Ver)) (l : List Int) : Int := if okV (some l) = true then (if (l.length : Int) = dimP o l then (if (lst o).length = 96 then 6 else 0) else 151) else 150

theorem len_cases {σ : Sto} {m n : Nat} {v : V} {o : Option (List Ver)} (h : Chn σ m n v o) (hne : 0 < (lst o).length) :
    ∃ (id N : Nat) (x : Ver) (i : Nat) (rows : List V), v = .ref id 0 N 3 ∧ 0 < N ∧ σ id = some (.row 3 rows) ∧ rows[0]? = some (.agg [.int .u64 x.b, .int .u64 x.e, .ref i 0 (lst x.v).length 1]) ∧ ∀ l, dimP o l = ((lst x.v).length : Int) := by
  cases o with
  | none => simp [lst] at hne
  | some L =>
    obtain ⟨id, ids, rfl, h1, h2, h3, h4⟩ := h
    cases L with
    | nil => simp [lst] at hne
    | cons x L =>
      cases ids with
      | nil => simp [Vecs] at h4
      | cons i ids => exact ⟨id, _, x, i, _, rfl, by simp, h1, rfl, fun l => rfl⟩

theorem raw49 {σ : Sto} {m n0 n pc : Nat} {cv : V} {o : Option (List Ver)} (hc : Chn σ m n0 cv o) (hmn : m ≤ n0) (hn : n0 ≤ n) (hpn : pc < n) (hpc : ¬ (m ≤ pc ∧ pc < n0)) (hp : σ pc = some (.row 1 [cv]))
    (hlen : (lst o).length < 9223372036854775808) (hf : ((lst o).length + 1) * 40 ≤ LIM) (l : List Int) (hl : l.length * 4 ≤ LIM) (ts : Int) {Q : V → Sto → Nat → Prop}
    (hQ0 : putN o l ≠ 0 → Q (.int .i64 (putN o l)) σ n)
    (hQ1 : putN o l = 0 → ∀ σ' n' cv', σ' pc = some (.row 1 [cv']) → Chn σ' m n' cv' (some (lst (o.map (closeL ts)) ++ [⟨ts, 0, some l⟩])) → Q (.int .i64 0) σ' n') :
    run T (.raw 49 [.ptr pc 1 0 0, .box [slV 1 i32V (some l)], .box [.int .u64 ts]] σ n 0) (memQ Q) := by
  refine run_rawE (fn := g49) rfl rfl ?_
  simp only [g49, b49]
  have hcl := hc.cells
  have hle := hc.len
  have h29 := f29 (some l) (dimP o l) (by rw [lst_some]; unfold LIM at hl; omega)
  have hm50 : T.mode 50 = .raw := by decide
  by_cases h0 : 0 < (lst o).length
  · obtain ⟨id, N, x, i, rows, hcv, hN, r1, r2, r3⟩ := len_cases hc h0
    have hia : iaddrE 3 cv (.int .i64 0) = some (.ptr id 3 0 0) := by rw [hcv, iaddrE_r0, if_pos hN]
    have hd : decide ((0 : Int) < ((lst o).length : Int)) = true := by simp; omega
    have hdim := r3 l
    rw [hdim] at h29
    by_cases hok : okV (some l) = true
    · by_cases hdm : (l.length : Int) = ((lst x.v).length : Int)
      · by_cases h96 : (lst o).length = 96
        · have hp6 : putN o l = 6 := by simp [putN, hok, hdim, hdm, h96]
          have hd6 : (((lst o).length : Int) == 96) = true := by simp; omega
          rw [hp6] at hQ0
          simp +contextual -implicitDefEqProofs (maxSteps := 2000000) only [↓wP, wQ, wQ1, wQ2, wQ3, boxE, List.take_length, partsOf, ↓reduceIte, Nat.reduceEqDiff, Nat.reduceAdd, Nat.reduceSub, Nat.reduceLeDiff, Nat.reduceLT, Nat.reduceMul, Nat.zero_add, Nat.add_zero, Nat.mul_zero, Nat.le_refl, Nat.zero_le, Nat.one_ne_zero, Nat.zero_ne_one, reduceCtorEq, List.map_cons, List.map_nil, List.mapM_cons, List.mapM_nil, List.flatMap_cons, List.flatMap_nil, List.append_nil, List.nil_append, List.cons_append, List.drop_zero, List.drop_succ_cons, List.take_zero, List.take_succ_cons, List.take_nil, List.drop_nil, List.length_cons, List.length_nil, List.getElem?_cons_zero, List.getElem?_cons_succ, List.getElem?_nil, List.set_cons_zero, List.set_cons_succ, List.all_cons, List.all_nil, Option.bind_some, Option.bind_none, Option.map_some, Option.map_none, Option.pure_def, Option.bind_eq_bind, Bool.and_true, Bool.true_and, Bool.and_self, Bool.or_false, Bool.false_or, Bool.and_false, Bool.false_and, Bool.or_true, Bool.true_or, Bool.not_true, Bool.not_false, Bool.not_not, decide_true, decide_false, and_self, and_true, true_and, beq_self_eq_true, beq_true, beq_false, bne_self_eq_false, Int.reduceBNe, Int.reduceBEq, Int.reduceLT, Int.reduceLE, Int.reduceGT, Bool.false_eq_true, Nat.zero_lt_succ, Nat.zero_lt_one, Nat.add_assoc, Nat.left_eq_add, Nat.add_eq_left, hp, hcl, hle, hd, lst_some, hia, r1, r2, h29, hok, hdm, hd6]
          exact hQ0 (by decide)
        · have hp0 : putN o l = 0 := by simp [putN, hok, hdim, hdm, h96]
          have hd6 : (((lst o).length : Int) == 96) = false := by simp; omega
          have hQ1 := hQ1 hp0
          simp +contextual -implicitDefEqProofs (maxSteps := 2000000) only [↓wP, wQ, wQ1, wQ2, wQ3, boxE, List.take_length, partsOf, ↓reduceIte, Nat.reduceEqDiff, Nat.reduceAdd, Nat.reduceSub, Nat.reduceLeDiff, Nat.reduceLT, Nat.reduceMul, Nat.zero_add, Nat.add_zero, Nat.mul_zero, Nat.le_refl, Nat.zero_le, Nat.one_ne_zero, Nat.zero_ne_one, reduceCtorEq, List.map_cons, List.map_nil, List.mapM_cons, List.mapM_nil, List.flatMap_cons, List.flatMap_nil, List.append_nil, List.nil_append, List.cons_append, List.drop_zero, List.drop_succ_cons, List.take_zero, List.take_succ_cons, List.take_nil, List.drop_nil, List.length_cons, List.length_nil, List.getElem?_cons_zero, List.getElem?_cons_succ, List.getElem?_nil, List.set_cons_zero, List.set_cons_succ, List.all_cons, List.all_nil, Option.bind_some, Option.bind_none, Option.map_some, Option.map_none, Option.pure_def, Option.bind_eq_bind, Bool.and_true, Bool.true_and, Bool.and_self, Bool.or_false, Bool.false_or, Bool.and_false, Bool.false_and, Bool.or_true, Bool.true_or, Bool.not_true, Bool.not_false, Bool.not_not, decide_true, decide_false, and_self, and_true, true_and, beq_self_eq_true, beq_true, beq_false, bne_self_eq_false, Int.reduceBNe, Int.reduceBEq, Int.reduceLT, Int.reduceLE, Int.reduceGT, Bool.false_eq_true, Nat.zero_lt_succ, Nat.zero_lt_one, Nat.add_assoc, Nat.left_eq_add, Nat.add_eq_left, hp, hcl, hle, hd, lst_some, hia, r1, r2, h29, hok, hdm, hd6]
          refine stepW_raw hm50 (chn50 hc hlen ts fun σ1 k1 k2 => ?_)
          have hp1 : σ1 pc = some (.row 1 [cv]) := by rw [k2 pc hpc, hp]
          have h51 := f51 l hl
          have hB := big_le
          have x1 : hide σ1 n n [0, 1] pc = σ1 pc := hide_low σ1 n n _ hpn (Nat.le_refl _)
          have x2 : (n + 1 ≤ n + BIG) = True := by simp; omega
          have x3 : (n + (BIG * 1 + 1) ≤ n + (BIG * 1 + BIG)) = True := by simp; omega
          have x4 : ∀ a b : Sto, merge a b (n + BIG * 1) (n + BIG * 1) = b (n + BIG * 1) := fun a b => merge_in a b _ (Nat.le_refl _) (by omega)
          simp +contextual -implicitDefEqProofs (maxSteps := 2000000) only [↓wP, wQ, wQ1, wQ2, wQ3, boxE, List.take_length, partsOf, ↓reduceIte, Nat.reduceEqDiff, Nat.reduceAdd, Nat.reduceSub, Nat.reduceLeDiff, Nat.reduceLT, Nat.reduceMul, Nat.zero_add, Nat.add_zero, Nat.mul_zero, Nat.le_refl, Nat.zero_le, Nat.one_ne_zero, Nat.zero_ne_one, reduceCtorEq, List.map_cons, List.map_nil, List.mapM_cons, List.mapM_nil, List.flatMap_cons, List.flatMap_nil, List.append_nil, List.nil_append, List.cons_append, List.drop_zero, List.drop_succ_cons, List.take_zero, List.take_succ_cons, List.take_nil, List.drop_nil, List.length_cons, List.length_nil, List.getElem?_cons_zero, List.getElem?_cons_succ, List.getElem?_nil, List.set_cons_zero, List.set_cons_succ, List.all_cons, List.all_nil, Option.bind_some, Option.bind_none, Option.map_some, Option.map_none, Option.pure_def, Option.bind_eq_bind, Bool.and_true, Bool.true_and, Bool.and_self, Bool.or_false, Bool.false_or, Bool.and_false, Bool.false_and, Bool.or_true, Bool.true_or, Bool.not_true, Bool.not_false, Bool.not_not, decide_true, decide_false, and_self, and_true, true_and, beq_self_eq_true, beq_true, beq_false, bne_self_eq_false, Int.reduceBNe, Int.reduceBEq, Int.reduceLT, Int.reduceLE, Int.reduceGT, Bool.false_eq_true, Nat.zero_lt_succ, Nat.zero_lt_one, Nat.add_assoc, Nat.left_eq_add, Nat.add_eq_left, hp1, hcl, h51, x1, x2, x3, x4]
          have k3 : Chn (merge (merge σ1 (upd σ1 n (some (.row 1 (l.map i32V)))) n) (upd (merge σ1 (upd σ1 n (some (.row 1 (l.map i32V)))) n) (n + BIG * 1) (some (.row 3 [.agg [.int .u64 ts, .int .u64 0, .ref n 0 l.length 1]]))) (n + BIG * 1)) m n0 cv (o.map (closeL ts)) := by
            refine k1.loc (fun i _ hi => ?_) (Nat.le_refl _) (Nat.le_refl _)
            rw [merge_low _ _ _ (by omega), merge_low _ _ _ (by omega)]
          have hlc : (lst (o.map (closeL ts))).length = (lst o).length := by
            cases o with
            | none => rfl
            | some L =>
              simp only [Option.map_some, lst_some, closeL]
              rcases List.eq_nil_or_concat L with rfl | ⟨A, x, rfl⟩
              · rfl
              · rw [List.concat_eq_append]
                simp only [List.getLast?_append, List.getLast?_singleton, Option.some_or]
                split <;> simp
          obtain ⟨v2, σ2, a1, b1, b2, a2, a3⟩ := k3.append (y := ⟨ts, 0, some l⟩) (lab := n + BIG * 2) (i := n) (by omega) (by omega) (by omega) (by omega) (by
            rw [merge_low _ _ _ (by omega), merge_in _ _ _ (Nat.le_refl _) (by omega)]; simp [upd, lst]) (by rw [hlc]; exact hf)
          have a1' : appendE 3 40 0 cv (some [.agg [.int .u64 ts, .int .u64 0, .ref n 0 l.length 1]]) _ _ = _ := a1
          have x5 : (n + (BIG * 2 + 1) ≤ n + (BIG * 2 + BIG)) = True := by simp; omega
          have a4 := a3 pc (by omega) hpc
          rw [merge_low _ _ _ (by omega), merge_low _ _ _ (by omega), hp1] at a4
          have b3 := spl_one hc.one 0 v2
          simp +contextual -implicitDefEqProofs (maxSteps := 2000000) only [↓wP, wQ, wQ1, wQ2, wQ3, boxE, List.take_length, partsOf, ↓reduceIte, Nat.reduceEqDiff, Nat.reduceAdd, Nat.reduceSub, Nat.reduceLeDiff, Nat.reduceLT, Nat.reduceMul, Nat.zero_add, Nat.add_zero, Nat.mul_zero, Nat.le_refl, Nat.zero_le, Nat.one_ne_zero, Nat.zero_ne_one, reduceCtorEq, List.map_cons, List.map_nil, List.mapM_cons, List.mapM_nil, List.flatMap_cons, List.flatMap_nil, List.append_nil, List.nil_append, List.cons_append, List.drop_zero, List.drop_succ_cons, List.take_zero, List.take_succ_cons, List.take_nil, List.drop_nil, List.length_cons, List.length_nil, List.getElem?_cons_zero, List.getElem?_cons_succ, List.getElem?_nil, List.set_cons_zero, List.set_cons_succ, List.all_cons, List.all_nil, Option.bind_some, Option.bind_none, Option.map_some, Option.map_none, Option.pure_def, Option.bind_eq_bind, Bool.and_true, Bool.true_and, Bool.and_self, Bool.or_false, Bool.false_or, Bool.and_false, Bool.false_and, Bool.or_true, Bool.true_or, Bool.not_true, Bool.not_false, Bool.not_not, decide_true, decide_false, and_self, and_true, true_and, beq_self_eq_true, beq_true, beq_false, bne_self_eq_false, Int.reduceBNe, Int.reduceBEq, Int.reduceLT, Int.reduceLE, Int.reduceGT, Bool.false_eq_true, Nat.zero_lt_succ, Nat.zero_lt_one, Nat.add_assoc, Nat.left_eq_add, Nat.add_eq_left, a1', x5, a4, b1, b2, b3]
          refine hQ1 _ _ v2 (by simp [upd]) ((a2 _ fun k hk => ?_).loc (fun _ _ _ => rfl) (Nat.le_refl _) (by omega))
          have : k ≠ pc := by omega
          simp only [upd_get, this, if_false]
      · have hp6 : putN o l = 151 := by simp [putN, hok, hdim, hdm]
        rw [hp6] at hQ0
        simp +contextual -implicitDefEqProofs (maxSteps := 2000000) only [↓wP, wQ, wQ1, wQ2, wQ3, boxE, List.take_length, partsOf, ↓reduceIte, Nat.reduceEqDiff, Nat.reduceAdd, Nat.reduceSub, Nat.reduceLeDiff, Nat.reduceLT, Nat.reduceMul, Nat.zero_add, Nat.add_zero, Nat.mul_zero, Nat.le_refl, Nat.zero_le, Nat.one_ne_zero, Nat.zero_ne_one, reduceCtorEq, List.map_cons, List.map_nil, List.mapM_cons, List.mapM_nil, List.flatMap_cons, List.flatMap_nil, List.append_nil, List.nil_append, List.cons_append, List.drop_zero, List.drop_succ_cons, List.take_zero, List.take_succ_cons, List.take_nil, List.drop_nil, List.length_cons, List.length_nil, List.getElem?_cons_zero, List.getElem?_cons_succ, List.getElem?_nil, List.set_cons_zero, List.set_cons_succ, List.all_cons, List.all_nil, Option.bind_some, Option.bind_none, Option.map_some, Option.map_none, Option.pure_def, Option.bind_eq_bind, Bool.and_true, Bool.true_and, Bool.and_self, Bool.or_false, Bool.false_or, Bool.and_false, Bool.false_and, Bool.or_true, Bool.true_or, Bool.not_true, Bool.not_false, Bool.not_not, decide_true, decide_false, and_self, and_true, true_and, beq_self_eq_true, beq_true, beq_false, bne_self_eq_false, Int.reduceBNe, Int.reduceBEq, Int.reduceLT, Int.reduceLE, Int.reduceGT, Bool.false_eq_true, Nat.zero_lt_succ, Nat.zero_lt_one, Nat.add_assoc, Nat.left_eq_add, Nat.add_eq_left, hp, hcl, hle, hd, lst_some, hia, r1, r2, h29, hok, hdm]
        exact hQ0 (by decide)
    · have hok' : okV (some l) = false := by simpa using hok
      have hp6 : putN o l = 150 := by simp [putN, hok']
      rw [hp6] at hQ0
      simp +contextual -implicitDefEqProofs (maxSteps := 2000000) only [↓wP, wQ, wQ1, wQ2, wQ3, boxE, List.take_length, partsOf, ↓reduceIte, Nat.reduceEqDiff, Nat.reduceAdd, Nat.reduceSub, Nat.reduceLeDiff, Nat.reduceLT, Nat.reduceMul, Nat.zero_add, Nat.add_zero, Nat.mul_zero, Nat.le_refl, Nat.zero_le, Nat.one_ne_zero, Nat.zero_ne_one, reduceCtorEq, List.map_cons, List.map_nil, List.mapM_cons, List.mapM_nil, List.flatMap_cons, List.flatMap_nil, List.append_nil, List.nil_append, List.cons_append, List.drop_zero, List.drop_succ_cons, List.take_zero, List.take_succ_cons, List.take_nil, List.drop_nil, List.length_cons, List.length_nil, List.getElem?_cons_zero, List.getElem?_cons_succ, List.getElem?_nil, List.set_cons_zero, List.set_cons_succ, List.all_cons, List.all_nil, Option.bind_some, Option.bind_none, Option.map_some, Option.map_none, Option.pure_def, Option.bind_eq_bind, Bool.and_true, Bool.true_and, Bool.and_self, Bool.or_false, Bool.false_or, Bool.and_false, Bool.false_and, Bool.or_true, Bool.true_or, Bool.not_true, Bool.not_false, Bool.not_not, decide_true, decide_false, and_self, and_true, true_and, beq_self_eq_true, beq_true, beq_false, bne_self_eq_false, Int.reduceBNe, Int.reduceBEq, Int.reduceLT, Int.reduceLE, Int.reduceGT, Bool.false_eq_true, Nat.zero_lt_succ, Nat.zero_lt_one, Nat.add_assoc, Nat.left_eq_add, Nat.add_eq_left, hp, hcl, hle, hd, lst_some, hia, r1, r2, h29, hok']
      exact hQ0 (by decide)
  · have hd : decide ((0 : Int) < ((lst o).length : Int)) = false := decide_eq_false (by omega)
    have hdim : dimP o l = (l.length : Int) := by
      unfold dimP
      rw [List.length_eq_zero_iff.1 (show (lst o).length = 0 by omega)]
    rw [hdim] at h29
    by_cases hok : okV (some l) = true
    · by_cases hdm : (l.length : Int) = (l.length : Int)
      · by_cases h96 : (lst o).length = 96
        · have hp6 : putN o l = 6 := by simp [putN, hok, hdim, hdm, h96]
          have hd6 : (((lst o).length : Int) == 96) = true := by simp; omega
          rw [hp6] at hQ0
          simp +contextual -implicitDefEqProofs (maxSteps := 2000000) only [↓wP, wQ, wQ1, wQ2, wQ3, boxE, List.take_length, partsOf, ↓reduceIte, Nat.reduceEqDiff, Nat.reduceAdd, Nat.reduceSub, Nat.reduceLeDiff, Nat.reduceLT, Nat.reduceMul, Nat.zero_add, Nat.add_zero, Nat.mul_zero, Nat.le_refl, Nat.zero_le, Nat.one_ne_zero, Nat.zero_ne_one, reduceCtorEq, List.map_cons, List.map_nil, List.mapM_cons, List.mapM_nil, List.flatMap_cons, List.flatMap_nil, List.append_nil, List.nil_append, List.cons_append, List.drop_zero, List.drop_succ_cons, List.take_zero, List.take_succ_cons, List.take_nil, List.drop_nil, List.length_cons, List.length_nil, List.getElem?_cons_zero, List.getElem?_cons_succ, List.getElem?_nil, List.set_cons_zero, List.set_cons_succ, List.all_cons, List.all_nil, Option.bind_some, Option.bind_none, Option.map_some, Option.map_none, Option.pure_def, Option.bind_eq_bind, Bool.and_true, Bool.true_and, Bool.and_self, Bool.or_false, Bool.false_or, Bool.and_false, Bool.false_and, Bool.or_true, Bool.true_or, Bool.not_true, Bool.not_false, Bool.not_not, decide_true, decide_false, and_self, and_true, true_and, beq_self_eq_true, beq_true, beq_false, bne_self_eq_false, Int.reduceBNe, Int.reduceBEq, Int.reduceLT, Int.reduceLE, Int.reduceGT, Bool.false_eq_true, Nat.zero_lt_succ, Nat.zero_lt_one, Nat.add_assoc, Nat.left_eq_add, Nat.add_eq_left, hp, hcl, hle, hd, lst_some, hdim, h29, hok, hdm, hd6]
          exact hQ0 (by decide)
        · have hp0 : putN o l = 0 := by simp [putN, hok, hdim, hdm, h96]
          have hd6 : (((lst o).length : Int) == 96) = false := by simp; omega
          have hQ1 := hQ1 hp0
          simp +contextual -implicitDefEqProofs (maxSteps := 2000000) only [↓wP, wQ, wQ1, wQ2, wQ3, boxE, List.take_length, partsOf, ↓reduceIte, Nat.reduceEqDiff, Nat.reduceAdd, Nat.reduceSub, Nat.reduceLeDiff, Nat.reduceLT, Nat.reduceMul, Nat.zero_add, Nat.add_zero, Nat.mul_zero, Nat.le_refl, Nat.zero_le, Nat.one_ne_zero, Nat.zero_ne_one, reduceCtorEq, List.map_cons, List.map_nil, List.mapM_cons, List.mapM_nil, List.flatMap_cons, List.flatMap_nil, List.append_nil, List.nil_append, List.cons_append, List.drop_zero, List.drop_succ_cons, List.take_zero, List.take_succ_cons, List.take_nil, List.drop_nil, List.length_cons, List.length_nil, List.getElem?_cons_zero, List.getElem?_cons_succ, List.getElem?_nil, List.set_cons_zero, List.set_cons_succ, List.all_cons, List.all_nil, Option.bind_some, Option.bind_none, Option.map_some, Option.map_none, Option.pure_def, Option.bind_eq_bind, Bool.and_true, Bool.true_and, Bool.and_self, Bool.or_false, Bool.false_or, Bool.and_false, Bool.false_and, Bool.or_true, Bool.true_or, Bool.not_true, Bool.not_false, Bool.not_not, decide_true, decide_false, and_self, and_true, true_and, beq_self_eq_true, beq_true, beq_false, bne_self_eq_false, Int.reduceBNe, Int.reduceBEq, Int.reduceLT, Int.reduceLE, Int.reduceGT, Bool.false_eq_true, Nat.zero_lt_succ, Nat.zero_lt_one, Nat.add_assoc, Nat.left_eq_add, Nat.add_eq_left, hp, hcl, hle, hd, lst_some, hdim, h29, hok, hdm, hd6]
          refine stepW_raw hm50 (chn50 hc hlen ts fun σ1 k1 k2 => ?_)
          have hp1 : σ1 pc = some (.row 1 [cv]) := by rw [k2 pc hpc, hp]
          have h51 := f51 l hl
          have hB := big_le
          have x1 : hide σ1 n n [0, 1] pc = σ1 pc := hide_low σ1 n n _ hpn (Nat.le_refl _)
          have x2 : (n + 1 ≤ n + BIG) = True := by simp; omega
          have x3 : (n + (BIG * 1 + 1) ≤ n + (BIG * 1 + BIG)) = True := by simp; omega
          have x4 : ∀ a b : Sto, merge a b (n + BIG * 1) (n + BIG * 1) = b (n + BIG * 1) := fun a b => merge_in a b _ (Nat.le_refl _) (by omega)
          simp +contextual -implicitDefEqProofs (maxSteps := 2000000) only [↓wP, wQ, wQ1, wQ2, wQ3, boxE, List.take_length, partsOf, ↓reduceIte, Nat.reduceEqDiff, Nat.reduceAdd, Nat.reduceSub, Nat.reduceLeDiff, Nat.reduceLT, Nat.reduceMul, Nat.zero_add, Nat.add_zero, Nat.mul_zero, Nat.le_refl, Nat.zero_le, Nat.one_ne_zero, Nat.zero_ne_one, reduceCtorEq, List.map_cons, List.map_nil, List.mapM_cons, List.mapM_nil, List.flatMap_cons, List.flatMap_nil, List.append_nil, List.nil_append, List.cons_append, List.drop_zero, List.drop_succ_cons, List.take_zero, List.take_succ_cons, List.take_nil, List.drop_nil, List.length_cons, List.length_nil, List.getElem?_cons_zero, List.getElem?_cons_succ, List.getElem?_nil, List.set_cons_zero, List.set_cons_succ, List.all_cons, List.all_nil, Option.bind_some, Option.bind_none, Option.map_some, Option.map_none, Option.pure_def, Option.bind_eq_bind, Bool.and_true, Bool.true_and, Bool.and_self, Bool.or_false, Bool.false_or, Bool.and_false, Bool.false_and, Bool.or_true, Bool.true_or, Bool.not_true, Bool.not_false, Bool.not_not, decide_true, decide_false, and_self, and_true, true_and, beq_self_eq_true, beq_true, beq_false, bne_self_eq_false, Int.reduceBNe, Int.reduceBEq, Int.reduceLT, Int.reduceLE, Int.reduceGT, Bool.false_eq_true, Nat.zero_lt_succ, Nat.zero_lt_one, Nat.add_assoc, Nat.left_eq_add, Nat.add_eq_left, hp1, hcl, h51, x1, x2, x3, x4]
          have k3 : Chn (merge (merge σ1 (upd σ1 n (some (.row 1 (l.map i32V)))) n) (upd (merge σ1 (upd σ1 n (some (.row 1 (l.map i32V)))) n) (n + BIG * 1) (some (.row 3 [.agg [.int .u64 ts, .int .u64 0, .ref n 0 l.length 1]]))) (n + BIG * 1)) m n0 cv (o.map (closeL ts)) := by
            refine k1.loc (fun i _ hi => ?_) (Nat.le_refl _) (Nat.le_refl _)
            rw [merge_low _ _ _ (by omega), merge_low _ _ _ (by omega)]
          have hlc : (lst (o.map (closeL ts))).length = (lst o).length := by
            cases o with
            | none => rfl
            | some L =>
              simp only [Option.map_some, lst_some, closeL]
              rcases List.eq_nil_or_concat L with rfl | ⟨A, x, rfl⟩
              · rfl
              · rw [List.concat_eq_append]
                simp only [List.getLast?_append, List.getLast?_singleton, Option.some_or]
                split <;> simp
          obtain ⟨v2, σ2, a1, b1, b2, a2, a3⟩ := k3.append (y := ⟨ts, 0, some l⟩) (lab := n + BIG * 2) (i := n) (by omega) (by omega) (by omega) (by omega) (by
            rw [merge_low _ _ _ (by omega), merge_in _ _ _ (Nat.le_refl _) (by omega)]; simp [upd, lst]) (by rw [hlc]; exact hf)
          have a1' : appendE 3 40 0 cv (some [.agg [.int .u64 ts, .int .u64 0, .ref n 0 l.length 1]]) _ _ = _ := a1
          have x5 : (n + (BIG * 2 + 1) ≤ n + (BIG * 2 + BIG)) = True := by simp; omega
          have a4 := a3 pc (by omega) hpc
          rw [merge_low _ _ _ (by omega), merge_low _ _ _ (by omega), hp1] at a4
          have b3 := spl_one hc.one 0 v2
          simp +contextual -implicitDefEqProofs (maxSteps := 2000000) only [↓wP, wQ, wQ1, wQ2, wQ3, boxE, List.take_length, partsOf, ↓reduceIte, Nat.reduceEqDiff, Nat.reduceAdd, Nat.reduceSub, Nat.reduceLeDiff, Nat.reduceLT, Nat.reduceMul, Nat.zero_add, Nat.add_zero, Nat.mul_zero, Nat.le_refl, Nat.zero_le, Nat.one_ne_zero, Nat.zero_ne_one, reduceCtorEq, List.map_cons, List.map_nil, List.mapM_cons, List.mapM_nil, List.flatMap_cons, List.flatMap_nil, List.append_nil, List.nil_append, List.cons_append, List.drop_zero, List.drop_succ_cons, List.take_zero, List.take_succ_cons, List.take_nil, List.drop_nil, List.length_cons, List.length_nil, List.getElem?_cons_zero, List.getElem?_cons_succ, List.getElem?_nil, List.set_cons_zero, List.set_cons_succ, List.all_cons, List.all_nil, Option.bind_some, Option.bind_none, Option.map_some, Option.map_none, Option.pure_def, Option.bind_eq_bind, Bool.and_true, Bool.true_and, Bool.and_self, Bool.or_false, Bool.false_or, Bool.and_false, Bool.false_and, Bool.or_true, Bool.true_or, Bool.not_true, Bool.not_false, Bool.not_not, decide_true, decide_false, and_self, and_true, true_and, beq_self_eq_true, beq_true, beq_false, bne_self_eq_false, Int.reduceBNe, Int.reduceBEq, Int.reduceLT, Int.reduceLE, Int.reduceGT, Bool.false_eq_true, Nat.zero_lt_succ, Nat.zero_lt_one, Nat.add_assoc, Nat.left_eq_add, Nat.add_eq_left, a1', x5, a4, b1, b2, b3]
          refine hQ1 _ _ v2 (by simp [upd]) ((a2 _ fun k hk => ?_).loc (fun _ _ _ => rfl) (Nat.le_refl _) (by omega))
          have : k ≠ pc := by omega
          simp only [upd_get, this, if_false]
      · exact absurd rfl hdm
    · have hok' : okV (some l) = false := by simpa using hok
      have hp6 : putN o l = 150 := by simp [putN, hok']
      rw [hp6] at hQ0
      simp +contextual -implicitDefEqProofs (maxSteps := 2000000) only [↓wP, wQ, wQ1, wQ2, wQ3, boxE, List.take_length, partsOf, ↓reduceIte, Nat.reduceEqDiff, Nat.reduceAdd, Nat.reduceSub, Nat.reduceLeDiff, Nat.reduceLT, Nat.reduceMul, Nat.zero_add, Nat.add_zero, Nat.mul_zero, Nat.le_refl, Nat.zero_le, Nat.one_ne_zero, Nat.zero_ne_one, reduceCtorEq, List.map_cons, List.map_nil, List.mapM_cons, List.mapM_nil, List.flatMap_cons, List.flatMap_nil, List.append_nil, List.nil_append, List.cons_append, List.drop_zero, List.drop_succ_cons, List.take_zero, List.take_succ_cons, List.take_nil, List.drop_nil, List.length_cons, List.length_nil, List.getElem?_cons_zero, List.getElem?_cons_succ, List.getElem?_nil, List.set_cons_zero, List.set_cons_succ, List.all_cons, List.all_nil, Option.bind_some, Option.bind_none, Option.map_some, Option.map_none, Option.pure_def, Option.bind_eq_bind, Bool.and_true, Bool.true_and, Bool.and_self, Bool.or_false, Bool.false_or, Bool.and_false, Bool.false_and, Bool.or_true, Bool.true_or, Bool.not_true, Bool.not_false, Bool.not_not, decide_true, decide_false, and_self, and_true, true_and, beq_self_eq_true, beq_true, beq_false, bne_self_eq_false, Int.reduceBNe, Int.reduceBEq, Int.reduceLT, Int.reduceLE, Int.reduceGT, Bool.false_eq_true, Nat.zero_lt_succ, Nat.zero_lt_one, Nat.add_assoc, Nat.left_eq_add, Nat.add_eq_left, hp, hcl, hle, hd, lst_some, hdim, h29, hok']
      exact hQ0 (by decide)

end Go.Q.S3
end

section
/- Put and Del, and what is done by an op. -/
set_option linter.unusedSimpArgs false
set_option linter.unusedVariables false
namespace Go.Q.S3
open Go.Q

def putC (o : Option (List Ver)) (ts : Int) (l : List Int) : Option (List Ver) :=
  if okC o = true ∧ lastC (lst o) < ts ∧ ts ≤ 1099511627776 ∧ putN o l = 0 then some (lst (o.map (closeL ts)) ++ [⟨ts, 0, some l⟩]) else none
def putE (o : Option (List Ver)) (ts : Int) (l : List Int) : Int := if okC o = false then 180 else if ts ≤ lastC (lst o) ∨ 1099511627776 < ts then 181 else putN o l

theorem r48p (o : Option (List Ver)) (ts : Int) (l : List Int) (hs : Sm o) (hf : FitC o) (hf' : ((lst o).length + 1) * 40 ≤ LIM) (hl : l.length * 4 ≤ LIM) (ha : AllS (lst o)) :
    res T 48 [slV 3 verV o, .int .u64 ts, .fn 49 [.box [slV 1 i32V (some l)], .box [.int .u64 ts]]] = some (.tup [ownC (putC o ts l), .int .i64 (putE o ts l)]) := by
  refine run_res (run_own (fn := g48) rfl rfl (by decide) ?_)
  simp only [g48, b48]
  have h11 := f11 o hs
  have h39 := f39 o hs
  have hm : T.mode 49 = .raw := by decide
  cases hc : okC o
  · have e1 : putC o ts l = none := by simp [putC, hc]
    have e2 : putE o ts l = 180 := by simp [putE, hc]
    rw [e1, e2]
    simp +contextual -implicitDefEqProofs (maxSteps := 2000000) only [↓wP, wQ, wQ1, wQ2, wQ3, boxE, List.take_length, partsOf, ↓reduceIte, Nat.reduceEqDiff, Nat.reduceAdd, Nat.reduceSub, Nat.reduceLeDiff, Nat.reduceLT, Nat.reduceMul, Nat.zero_add, Nat.add_zero, Nat.mul_zero, Nat.le_refl, Nat.zero_le, Nat.one_ne_zero, Nat.zero_ne_one, reduceCtorEq, List.map_cons, List.map_nil, List.mapM_cons, List.mapM_nil, List.flatMap_cons, List.flatMap_nil, List.append_nil, List.nil_append, List.cons_append, List.drop_zero, List.drop_succ_cons, List.take_zero, List.take_succ_cons, List.take_nil, List.drop_nil, List.length_cons, List.length_nil, List.getElem?_cons_zero, List.getElem?_cons_succ, List.getElem?_nil, List.set_cons_zero, List.set_cons_succ, List.all_cons, List.all_nil, Option.bind_some, Option.bind_none, Option.map_some, Option.map_none, Option.pure_def, Option.bind_eq_bind, Bool.and_true, Bool.true_and, Bool.and_self, Bool.or_false, Bool.false_or, Bool.and_false, Bool.false_and, Bool.or_true, Bool.true_or, Bool.not_true, Bool.not_false, Bool.not_not, decide_true, decide_false, and_self, and_true, true_and, beq_self_eq_true, beq_true, beq_false, bne_self_eq_false, Int.reduceBNe, Int.reduceBEq, Int.reduceLT, Int.reduceLE, Int.reduceGT, Bool.false_eq_true, Nat.zero_lt_succ, Nat.zero_lt_one, Nat.add_assoc, Nat.left_eq_add, Nat.add_eq_left, h11, hc]
    exact giv_pair (o := none) (m := 0) (n := 0) rfl 180
  · by_cases ht : ts ≤ lastC (lst o) ∨ 1099511627776 < ts
    · have e1 : putC o ts l = none := by unfold putC; rw [if_neg]; omega
      have e2 : putE o ts l = 181 := by simp [putE, hc, ht]
      have hd : (decide (ts ≤ lastC (lst o)) || decide (1099511627776 < ts)) = true := by simpa using ht
      rw [e1, e2]
      simp +contextual -implicitDefEqProofs (maxSteps := 2000000) only [↓wP, wQ, wQ1, wQ2, wQ3, boxE, List.take_length, partsOf, ↓reduceIte, Nat.reduceEqDiff, Nat.reduceAdd, Nat.reduceSub, Nat.reduceLeDiff, Nat.reduceLT, Nat.reduceMul, Nat.zero_add, Nat.add_zero, Nat.mul_zero, Nat.le_refl, Nat.zero_le, Nat.one_ne_zero, Nat.zero_ne_one, reduceCtorEq, List.map_cons, List.map_nil, List.mapM_cons, List.mapM_nil, List.flatMap_cons, List.flatMap_nil, List.append_nil, List.nil_append, List.cons_append, List.drop_zero, List.drop_succ_cons, List.take_zero, List.take_succ_cons, List.take_nil, List.drop_nil, List.length_cons, List.length_nil, List.getElem?_cons_zero, List.getElem?_cons_succ, List.getElem?_nil, List.set_cons_zero, List.set_cons_succ, List.all_cons, List.all_nil, Option.bind_some, Option.bind_none, Option.map_some, Option.map_none, Option.pure_def, Option.bind_eq_bind, Bool.and_true, Bool.true_and, Bool.and_self, Bool.or_false, Bool.false_or, Bool.and_false, Bool.false_and, Bool.or_true, Bool.true_or, Bool.not_true, Bool.not_false, Bool.not_not, decide_true, decide_false, and_self, and_true, true_and, beq_self_eq_true, beq_true, beq_false, bne_self_eq_false, Int.reduceBNe, Int.reduceBEq, Int.reduceLT, Int.reduceLE, Int.reduceGT, Bool.false_eq_true, Nat.zero_lt_succ, Nat.zero_lt_one, Nat.add_assoc, Nat.left_eq_add, Nat.add_eq_left, h11, h39, hc, hd]
      exact giv_pair (o := none) (m := 0) (n := 0) rfl 181
    · have hd : (decide (ts ≤ lastC (lst o)) || decide (1099511627776 < ts)) = false := by simp; omega
      obtain ⟨v', σ', n', h1, h2, h3, h4⟩ := thaw_ownC Sto.empty 0 o
      have h46 := t46 o hf ha true Sto.empty 0 0
      rw [h1] at h46
      have hcl := h2.cells
      have hon := h2.one
      have e2 : putE o ts l = putN o l := by simp [putE, hc, ht]
      rw [e2]
      simp +contextual -implicitDefEqProofs (maxSteps := 2000000) only [↓wP, wQ, wQ1, wQ2, wQ3, boxE, List.take_length, partsOf, ↓reduceIte, Nat.reduceEqDiff, Nat.reduceAdd, Nat.reduceSub, Nat.reduceLeDiff, Nat.reduceLT, Nat.reduceMul, Nat.zero_add, Nat.add_zero, Nat.mul_zero, Nat.le_refl, Nat.zero_le, Nat.one_ne_zero, Nat.zero_ne_one, reduceCtorEq, List.map_cons, List.map_nil, List.mapM_cons, List.mapM_nil, List.flatMap_cons, List.flatMap_nil, List.append_nil, List.nil_append, List.cons_append, List.drop_zero, List.drop_succ_cons, List.take_zero, List.take_succ_cons, List.take_nil, List.drop_nil, List.length_cons, List.length_nil, List.getElem?_cons_zero, List.getElem?_cons_succ, List.getElem?_nil, List.set_cons_zero, List.set_cons_succ, List.all_cons, List.all_nil, Option.bind_some, Option.bind_none, Option.map_some, Option.map_none, Option.pure_def, Option.bind_eq_bind, Bool.and_true, Bool.true_and, Bool.and_self, Bool.or_false, Bool.false_or, Bool.and_false, Bool.false_and, Bool.or_true, Bool.true_or, Bool.not_true, Bool.not_false, Bool.not_not, decide_true, decide_false, and_self, and_true, true_and, beq_self_eq_true, beq_true, beq_false, bne_self_eq_false, Int.reduceBNe, Int.reduceBEq, Int.reduceLT, Int.reduceLE, Int.reduceGT, Bool.false_eq_true, Nat.zero_lt_succ, Nat.zero_lt_one, Nat.add_assoc, Nat.left_eq_add, Nat.add_eq_left, h11, h39, hc, hd, h46, hcl, hon]
      have h2' : Chn (upd (upd σ' n' (some (.row 1 [.nilS]))) n' (some (.row 1 [v']))) 0 n' v' o := h2.loc (fun i _ hi => by
        have : i ≠ n' := by omega
        simp only [upd_get, this, if_false]) (Nat.le_refl _) (Nat.le_refl _)
      refine stepW_raw hm (raw49 h2' (Nat.zero_le _) (by omega) (by omega) (by omega) (by simp [upd]) hs.1 hf' l hl ts (fun hne => ?_) (fun h0 σ2 n2 cv k1 k2 => ?_))
      · have e1 : putC o ts l = none := by unfold putC; rw [if_neg]; omega
        have hd2 : (putN o l != 0) = true := by simpa using hne
        rw [e1]
        simp +contextual -implicitDefEqProofs (maxSteps := 2000000) only [↓wP, wQ, wQ1, wQ2, wQ3, boxE, List.take_length, partsOf, ↓reduceIte, Nat.reduceEqDiff, Nat.reduceAdd, Nat.reduceSub, Nat.reduceLeDiff, Nat.reduceLT, Nat.reduceMul, Nat.zero_add, Nat.add_zero, Nat.mul_zero, Nat.le_refl, Nat.zero_le, Nat.one_ne_zero, Nat.zero_ne_one, reduceCtorEq, List.map_cons, List.map_nil, List.mapM_cons, List.mapM_nil, List.flatMap_cons, List.flatMap_nil, List.append_nil, List.nil_append, List.cons_append, List.drop_zero, List.drop_succ_cons, List.take_zero, List.take_succ_cons, List.take_nil, List.drop_nil, List.length_cons, List.length_nil, List.getElem?_cons_zero, List.getElem?_cons_succ, List.getElem?_nil, List.set_cons_zero, List.set_cons_succ, List.all_cons, List.all_nil, Option.bind_some, Option.bind_none, Option.map_some, Option.map_none, Option.pure_def, Option.bind_eq_bind, Bool.and_true, Bool.true_and, Bool.and_self, Bool.or_false, Bool.false_or, Bool.and_false, Bool.false_and, Bool.or_true, Bool.true_or, Bool.not_true, Bool.not_false, Bool.not_not, decide_true, decide_false, and_self, and_true, true_and, beq_self_eq_true, beq_true, beq_false, bne_self_eq_false, Int.reduceBNe, Int.reduceBEq, Int.reduceLT, Int.reduceLE, Int.reduceGT, Bool.false_eq_true, Nat.zero_lt_succ, Nat.zero_lt_one, Nat.add_assoc, Nat.left_eq_add, Nat.add_eq_left, hd2]
        exact giv_pair (o := none) (m := 0) (n := 0) rfl _
      · have e1 : putC o ts l = some (lst (o.map (closeL ts)) ++ [⟨ts, 0, some l⟩]) := by unfold putC; rw [if_pos]; exact ⟨hc, by omega, by omega, h0⟩
        have hcv := k2.cells
        rw [e1, h0]
        simp +contextual -implicitDefEqProofs (maxSteps := 2000000) only [↓wP, wQ, wQ1, wQ2, wQ3, boxE, List.take_length, partsOf, ↓reduceIte, Nat.reduceEqDiff, Nat.reduceAdd, Nat.reduceSub, Nat.reduceLeDiff, Nat.reduceLT, Nat.reduceMul, Nat.zero_add, Nat.add_zero, Nat.mul_zero, Nat.le_refl, Nat.zero_le, Nat.one_ne_zero, Nat.zero_ne_one, reduceCtorEq, List.map_cons, List.map_nil, List.mapM_cons, List.mapM_nil, List.flatMap_cons, List.flatMap_nil, List.append_nil, List.nil_append, List.cons_append, List.drop_zero, List.drop_succ_cons, List.take_zero, List.take_succ_cons, List.take_nil, List.drop_nil, List.length_cons, List.length_nil, List.getElem?_cons_zero, List.getElem?_cons_succ, List.getElem?_nil, List.set_cons_zero, List.set_cons_succ, List.all_cons, List.all_nil, Option.bind_some, Option.bind_none, Option.map_some, Option.map_none, Option.pure_def, Option.bind_eq_bind, Bool.and_true, Bool.true_and, Bool.and_self, Bool.or_false, Bool.false_or, Bool.and_false, Bool.false_and, Bool.or_true, Bool.true_or, Bool.not_true, Bool.not_false, Bool.not_not, decide_true, decide_false, and_self, and_true, true_and, beq_self_eq_true, beq_true, beq_false, bne_self_eq_false, Int.reduceBNe, Int.reduceBEq, Int.reduceLT, Int.reduceLE, Int.reduceGT, Bool.false_eq_true, Nat.zero_lt_succ, Nat.zero_lt_one, Nat.add_assoc, Nat.left_eq_add, Nat.add_eq_left, k1, hcv]
        exact giv_pair k2 0

theorem flat_ownC (o : Option (List Ver)) : flat (ownC o) = true := by
  cases o with
  | none => rfl
  | some L =>
    simp only [ownC, flat]
    induction L with
    | nil => rfl
    | cons x L ih =>
      rw [List.map_cons, flatL, ih, Bool.and_true]
      simp only [ownVer, vown, flat, flatL, Bool.true_and, Bool.and_true]
      induction lst x.v with
      | nil => rfl
      | cons y l ih2 => rw [List.map_cons, flatL, ih2]; rfl
theorem bk_pair (o : Option (List Ver)) (e : Int) (fs : Bool) (D : List Nat) (σ : Sto) (n lk : Nat) : backE fs D (.tup [ownC o, .int .i64 e]) σ n lk = some (thaw σ n (.tup [ownC o, .int .i64 e])) :=
  backE_flat (by simp only [flat, flatL, flat_ownC, Bool.and_self]) fs D σ n lk

theorem r28 (o : Option (List Ver)) (ts : Int) (l : List Int) (hs : Sm o) (hf : FitC o) (hf' : ((lst o).length + 1) * 40 ≤ LIM) (hl : l.length * 4 ≤ LIM) (ha : AllS (lst o)) : res T 28 [slV 3 verV o, .int .u64 ts, slV 1 i32V (some l)] = some (.tup [ownC (putC o ts l), .int .i64 (putE o ts l)]) := by
  refine run_res (run_own (fn := g28) rfl rfl (by decide) ?_)
  simp only [g28, b28]
  have h48 := r48p o ts l hs hf hf' hl ha
  have hm : T.mode 48 ≠ .raw := by decide
  obtain ⟨v', σ', n', h1, h2, h3, h4⟩ := thaw_ownC (upd (upd Sto.empty 0 (some (.row 1 [.int .u64 ts]))) 1 (some (.row 1 [slV 1 i32V (some l)]))) 2 (putC o ts l)
  simp +contextual -implicitDefEqProofs (maxSteps := 2000000) only [↓wP, wQ, wQ1, wQ2, wQ3, boxE, List.take_length, partsOf, ↓reduceIte, Nat.reduceEqDiff, Nat.reduceAdd, Nat.reduceSub, Nat.reduceLeDiff, Nat.reduceLT, Nat.reduceMul, Nat.zero_add, Nat.add_zero, Nat.mul_zero, Nat.le_refl, Nat.zero_le, Nat.one_ne_zero, Nat.zero_ne_one, reduceCtorEq, List.map_cons, List.map_nil, List.mapM_cons, List.mapM_nil, List.flatMap_cons, List.flatMap_nil, List.append_nil, List.nil_append, List.cons_append, List.drop_zero, List.drop_succ_cons, List.take_zero, List.take_succ_cons, List.take_nil, List.drop_nil, List.length_cons, List.length_nil, List.getElem?_cons_zero, List.getElem?_cons_succ, List.getElem?_nil, List.set_cons_zero, List.set_cons_succ, List.all_cons, List.all_nil, Option.bind_some, Option.bind_none, Option.map_some, Option.map_none, Option.pure_def, Option.bind_eq_bind, Bool.and_true, Bool.true_and, Bool.and_self, Bool.or_false, Bool.false_or, Bool.and_false, Bool.false_and, Bool.or_true, Bool.true_or, Bool.not_true, Bool.not_false, Bool.not_not, decide_true, decide_false, and_self, and_true, true_and, beq_self_eq_true, beq_true, beq_false, bne_self_eq_false, Int.reduceBNe, Int.reduceBEq, Int.reduceLT, Int.reduceLE, Int.reduceGT, Bool.false_eq_true, Nat.zero_lt_succ, Nat.zero_lt_one, Nat.add_assoc, Nat.left_eq_add, Nat.add_eq_left, callE_eq hm, h48, bk_pair, h1]
  exact giv_pair h2 _

theorem r33 (o : Option (List Ver)) (ts : Int) (hs : Sm o) (hf : FitC o) (ha : AllS (lst o)) : res T 33 [slV 3 verV o, .int .u64 ts] = some (.tup [ownC (delO o ts), .int .i64 (delE o ts)]) := by
  refine run_res (run_own (fn := g33) rfl rfl (by decide) ?_)
  simp only [g33, b33]
  have h48 := r48 o ts hs hf ha
  have hm : T.mode 48 ≠ .raw := by decide
  obtain ⟨v', σ', n', h1, h2, h3, h4⟩ := thaw_ownC (upd Sto.empty 0 (some (.row 1 [.int .u64 ts]))) 1 (delO o ts)
  simp +contextual -implicitDefEqProofs (maxSteps := 2000000) only [↓wP, wQ, wQ1, wQ2, wQ3, boxE, List.take_length, partsOf, ↓reduceIte, Nat.reduceEqDiff, Nat.reduceAdd, Nat.reduceSub, Nat.reduceLeDiff, Nat.reduceLT, Nat.reduceMul, Nat.zero_add, Nat.add_zero, Nat.mul_zero, Nat.le_refl, Nat.zero_le, Nat.one_ne_zero, Nat.zero_ne_one, reduceCtorEq, List.map_cons, List.map_nil, List.mapM_cons, List.mapM_nil, List.flatMap_cons, List.flatMap_nil, List.append_nil, List.nil_append, List.cons_append, List.drop_zero, List.drop_succ_cons, List.take_zero, List.take_succ_cons, List.take_nil, List.drop_nil, List.length_cons, List.length_nil, List.getElem?_cons_zero, List.getElem?_cons_succ, List.getElem?_nil, List.set_cons_zero, List.set_cons_succ, List.all_cons, List.all_nil, Option.bind_some, Option.bind_none, Option.map_some, Option.map_none, Option.pure_def, Option.bind_eq_bind, Bool.and_true, Bool.true_and, Bool.and_self, Bool.or_false, Bool.false_or, Bool.and_false, Bool.false_and, Bool.or_true, Bool.true_or, Bool.not_true, Bool.not_false, Bool.not_not, decide_true, decide_false, and_self, and_true, true_and, beq_self_eq_true, beq_true, beq_false, bne_self_eq_false, Int.reduceBNe, Int.reduceBEq, Int.reduceLT, Int.reduceLE, Int.reduceGT, Bool.false_eq_true, Nat.zero_lt_succ, Nat.zero_lt_one, Nat.add_assoc, Nat.left_eq_add, Nat.add_eq_left, callE_eq hm, h48, bk_pair, h1]
  exact giv_pair h2 _

def vec5 (v : Option (List Int)) : List Int := (lst v).take 5

theorem r22 (k ts : Int) (near : Bool) (v : Option (List Int)) (hv : (lst v).length < 9223372036854775808) : res T 22 [.agg [.int .i64 k, .int .u64 ts, .bool near, slV 1 i32V v]] = some (.own 1 ((vec5 v).map i32V)) := by
  refine run_res (run_own (fn := g22) rfl rfl (by decide) ?_)
  simp only [g22, b22]
  have hmin : (if (5 : Int) < ((lst v).length : Int) then 5 else ((lst v).length : Int)) = ((min (lst v).length 5 : Nat) : Int) := by split <;> omega
  have hsub : lst (sub v 0 (min (lst v).length 5)) = vec5 v := by
    rw [lst_sub, List.drop_zero, Nat.min_comm, ← List.take_take, List.take_length, vec5]
  have hlim : ((vec5 v).map i32V).length * 4 ≤ LIM := by unfold LIM vec5; simp; omega
  simp +contextual -implicitDefEqProofs (maxSteps := 2000000) only [↓wP, wQ, wQ1, wQ2, wQ3, boxE, List.take_length, partsOf, ↓reduceIte, Nat.reduceEqDiff, Nat.reduceAdd, Nat.reduceSub, Nat.reduceLeDiff, Nat.reduceLT, Nat.reduceMul, Nat.zero_add, Nat.add_zero, Nat.mul_zero, Nat.le_refl, Nat.zero_le, Nat.one_ne_zero, Nat.zero_ne_one, reduceCtorEq, List.map_cons, List.map_nil, List.mapM_cons, List.mapM_nil, List.flatMap_cons, List.flatMap_nil, List.append_nil, List.nil_append, List.cons_append, List.drop_zero, List.drop_succ_cons, List.take_zero, List.take_succ_cons, List.take_nil, List.drop_nil, List.length_cons, List.length_nil, List.getElem?_cons_zero, List.getElem?_cons_succ, List.getElem?_nil, List.set_cons_zero, List.set_cons_succ, List.all_cons, List.all_nil, Option.bind_some, Option.bind_none, Option.map_some, Option.map_none, Option.pure_def, Option.bind_eq_bind, Bool.and_true, Bool.true_and, Bool.and_self, Bool.or_false, Bool.false_or, Bool.and_false, Bool.false_and, Bool.or_true, Bool.true_or, Bool.not_true, Bool.not_false, Bool.not_not, decide_true, decide_false, and_self, and_true, true_and, beq_self_eq_true, beq_true, beq_false, bne_self_eq_false, Int.reduceBNe, Int.reduceBEq, Int.reduceLT, Int.reduceLE, Int.reduceGT, Bool.false_eq_true, Nat.zero_lt_succ, Nat.zero_lt_one, Nat.add_assoc, Nat.left_eq_add, Nat.add_eq_left, hmin, Nat.min_le_left, hsub, hlim]
  have := giv_row (σ := upd (upd (upd (upd Sto.empty 0 (some (.row 4 [.agg [.int .i64 k, .int .u64 ts, .bool near, slV 1 i32V v]]))) 1 (some (.row 1 []))) 1 none) 2 (some (.row 1 ((vec5 v).map i32V)))) (id := 2) (sz := 1) (xs := (vec5 v).map i32V) (by simp [upd])
    (fun x hx => by obtain ⟨t, -, rfl⟩ := List.mem_map.1 hx; rfl) (fun x hx c hc => by obtain ⟨t, -, rfl⟩ := List.mem_map.1 hx; simp [i32V, V.cells] at hc; subst hc; rfl)
  exact this

theorem f22 (k ts : Int) (near : Bool) (v : Option (List Int)) (hv : (lst v).length < 9223372036854775808) (fs : Bool) (σ : Sto) (n lk : Nat) :
    callE T fs 22 [.agg [.int .i64 k, .int .u64 ts, .bool near, slV 1 i32V v]] σ n lk = some (.ref n 0 (vec5 v).length 1, upd σ n (some (.row 1 ((vec5 v).map i32V))), n + 1) := by
  have := callE_own (by decide) (r22 k ts near v hv) (by simp [Tr, Tr_slV]) (fun x hx => by obtain ⟨t, -, rfl⟩ := List.mem_map.1 hx; rfl) fs σ n lk
  rw [List.length_map] at this
  exact this

def k5 (k : Int) : Int := (IntKind.u64.wrap k).tmod 5
def opTs (k ts : Int) (near : Bool) (n : Int) : Int :=
  if near = false then ts else if k5 k = 4 then IntKind.u64.wrap (n - (if ts.tmod 10 < n then ts.tmod 10 else n)) else IntKind.u64.wrap (n + ts.tmod 6)

theorem r18 (k ts : Int) (near : Bool) (v : Option (List Int)) (o : Option (List Ver)) (hs : Sm o) : res T 18 [.agg [.int .i64 k, .int .u64 ts, .bool near, slV 1 i32V v], slV 3 verV o] = some (.int .u64 (opTs k ts near (lastR (lst o)))) := by
  refine run_res (run_pure (fn := g18) rfl rfl (by decide) ?_)
  simp only [g18, b18]
  have h25 := f25 o hs
  have m5 := bin_rem .u64 (IntKind.u64.wrap k) 5 (by decide)
  have m10 := bin_rem .u64 ts 10 (by decide)
  have m6 := bin_rem .u64 ts 6 (by decide)
  cases near
  · simp +contextual -implicitDefEqProofs (maxSteps := 2000000) only [↓wP, wQ, wQ1, wQ2, wQ3, boxE, List.take_length, partsOf, ↓reduceIte, Nat.reduceEqDiff, Nat.reduceAdd, Nat.reduceSub, Nat.reduceLeDiff, Nat.reduceLT, Nat.reduceMul, Nat.zero_add, Nat.add_zero, Nat.mul_zero, Nat.le_refl, Nat.zero_le, Nat.one_ne_zero, Nat.zero_ne_one, reduceCtorEq, List.map_cons, List.map_nil, List.mapM_cons, List.mapM_nil, List.flatMap_cons, List.flatMap_nil, List.append_nil, List.nil_append, List.cons_append, List.drop_zero, List.drop_succ_cons, List.take_zero, List.take_succ_cons, List.take_nil, List.drop_nil, List.length_cons, List.length_nil, List.getElem?_cons_zero, List.getElem?_cons_succ, List.getElem?_nil, List.set_cons_zero, List.set_cons_succ, List.all_cons, List.all_nil, Option.bind_some, Option.bind_none, Option.map_some, Option.map_none, Option.pure_def, Option.bind_eq_bind, Bool.and_true, Bool.true_and, Bool.and_self, Bool.or_false, Bool.false_or, Bool.and_false, Bool.false_and, Bool.or_true, Bool.true_or, Bool.not_true, Bool.not_false, Bool.not_not, decide_true, decide_false, and_self, and_true, true_and, beq_self_eq_true, beq_true, beq_false, bne_self_eq_false, Int.reduceBNe, Int.reduceBEq, Int.reduceLT, Int.reduceLE, Int.reduceGT, Bool.false_eq_true, Nat.zero_lt_succ, Nat.zero_lt_one, Nat.add_assoc, Nat.left_eq_add, Nat.add_eq_left, h25, opTs]
  · by_cases h4 : k5 k = 4
    · have hd : ((IntKind.u64.wrap k).tmod 5 == 4) = true := by simpa [k5] using h4
      simp +contextual -implicitDefEqProofs (maxSteps := 2000000) only [↓wP, wQ, wQ1, wQ2, wQ3, boxE, List.take_length, partsOf, ↓reduceIte, Nat.reduceEqDiff, Nat.reduceAdd, Nat.reduceSub, Nat.reduceLeDiff, Nat.reduceLT, Nat.reduceMul, Nat.zero_add, Nat.add_zero, Nat.mul_zero, Nat.le_refl, Nat.zero_le, Nat.one_ne_zero, Nat.zero_ne_one, reduceCtorEq, List.map_cons, List.map_nil, List.mapM_cons, List.mapM_nil, List.flatMap_cons, List.flatMap_nil, List.append_nil, List.nil_append, List.cons_append, List.drop_zero, List.drop_succ_cons, List.take_zero, List.take_succ_cons, List.take_nil, List.drop_nil, List.length_cons, List.length_nil, List.getElem?_cons_zero, List.getElem?_cons_succ, List.getElem?_nil, List.set_cons_zero, List.set_cons_succ, List.all_cons, List.all_nil, Option.bind_some, Option.bind_none, Option.map_some, Option.map_none, Option.pure_def, Option.bind_eq_bind, Bool.and_true, Bool.true_and, Bool.and_self, Bool.or_false, Bool.false_or, Bool.and_false, Bool.false_and, Bool.or_true, Bool.true_or, Bool.not_true, Bool.not_false, Bool.not_not, decide_true, decide_false, and_self, and_true, true_and, beq_self_eq_true, beq_true, beq_false, bne_self_eq_false, Int.reduceBNe, Int.reduceBEq, Int.reduceLT, Int.reduceLE, Int.reduceGT, Bool.false_eq_true, Nat.zero_lt_succ, Nat.zero_lt_one, Nat.add_assoc, Nat.left_eq_add, Nat.add_eq_left, h25, m5, m10, m6, hd, opTs, h4]
    · have hd : ((IntKind.u64.wrap k).tmod 5 == 4) = false := by simpa [k5] using h4
      simp +contextual -implicitDefEqProofs (maxSteps := 2000000) only [↓wP, wQ, wQ1, wQ2, wQ3, boxE, List.take_length, partsOf, ↓reduceIte, Nat.reduceEqDiff, Nat.reduceAdd, Nat.reduceSub, Nat.reduceLeDiff, Nat.reduceLT, Nat.reduceMul, Nat.zero_add, Nat.add_zero, Nat.mul_zero, Nat.le_refl, Nat.zero_le, Nat.one_ne_zero, Nat.zero_ne_one, reduceCtorEq, List.map_cons, List.map_nil, List.mapM_cons, List.mapM_nil, List.flatMap_cons, List.flatMap_nil, List.append_nil, List.nil_append, List.cons_append, List.drop_zero, List.drop_succ_cons, List.take_zero, List.take_succ_cons, List.take_nil, List.drop_nil, List.length_cons, List.length_nil, List.getElem?_cons_zero, List.getElem?_cons_succ, List.getElem?_nil, List.set_cons_zero, List.set_cons_succ, List.all_cons, List.all_nil, Option.bind_some, Option.bind_none, Option.map_some, Option.map_none, Option.pure_def, Option.bind_eq_bind, Bool.and_true, Bool.true_and, Bool.and_self, Bool.or_false, Bool.false_or, Bool.and_false, Bool.false_and, Bool.or_true, Bool.true_or, Bool.not_true, Bool.not_false, Bool.not_not, decide_true, decide_false, and_self, and_true, true_and, beq_self_eq_true, beq_true, beq_false, bne_self_eq_false, Int.reduceBNe, Int.reduceBEq, Int.reduceLT, Int.reduceLE, Int.reduceGT, Bool.false_eq_true, Nat.zero_lt_succ, Nat.zero_lt_one, Nat.add_assoc, Nat.left_eq_add, Nat.add_eq_left, h25, m5, m10, m6, hd, opTs, h4]

theorem f18 (k ts : Int) (near : Bool) (v : Option (List Int)) (o : Option (List Ver)) (hs : Sm o) (fs : Bool) (σ : Sto) (n lk : Nat) : callE T fs 18 [.agg [.int .i64 k, .int .u64 ts, .bool near, slV 1 i32V v], slV 3 verV o] σ n lk = some (.int .u64 (opTs k ts near (lastR (lst o))), σ, n) :=
  callE_tr (by decide) (r18 k ts near v o hs) (by simp [Tr, Tr_slV]) rfl fs σ n lk

end Go.Q.S3
end

section
/- What an op does with the layer: Put and Del. -/
set_option linter.unusedSimpArgs false
set_option linter.unusedVariables false
namespace Go.Q.S3
open Go.Q

theorem giv_trip {σ : Sto} {m n m' n' : Nat} {v w : V} {o o' : Option (List Ver)} (h : Chn σ m n v o) (h' : Chn σ m' n' w o') (hd : n ≤ m' ∨ n' ≤ m) (e : Int) :
    giv σ 12 (.tup [v, w, .int .i64 e]) = some (.tup [ownC o, ownC o', .int .i64 e]) ∧ (gids σ 12 (.tup [v, w, .int .i64 e])).Nodup := by
  have h1 := h.giv 8
  have h2 := h'.giv 8
  constructor
  · simp only [giv, List.mapM_cons, List.mapM_nil, h1.1, h2.1]
    rfl
  · simp only [gids, List.flatMap_cons, List.flatMap_nil, List.append_nil]
    refine List.nodup_append.2 ⟨h1.2.1, h2.2.1, fun a ha b hb => ?_⟩
    have := h1.2.2 a ha
    have := h2.2.2 b hb
    omega

theorem vec5_len (v : Option (List Int)) : (vec5 v).length * 4 ≤ LIM := by unfold vec5 LIM; simp; omega

theorem r15u (k ts : Int) (near : Bool) (v : Option (List Int)) (o : Option (List Ver)) (hv : (lst v).length < 9223372036854775808) (hs : Sm o) (hf : FitC o) (hf' : ((lst o).length + 1) * 40 ≤ LIM) (ha : AllS (lst o)) (h3 : k5 k ≠ 3) (h4 : k5 k ≠ 4) :
    res T 15 [.agg [.int .i64 k, .int .u64 ts, .bool near, slV 1 i32V v], slV 3 verV o] =
      some (.tup [ownC (putC o (opTs k ts near (lastR (lst o))) (vec5 v)), .nilS, .int .i64 (putE o (opTs k ts near (lastR (lst o))) (vec5 v))]) := by
  refine run_res (run_own (fn := g15) rfl rfl (by decide) ?_)
  simp only [g15, b15]
  have h18 := f18 k ts near v o hs
  have h22 := f22 k ts near v hv
  generalize hL : vec5 v = l at h22
  have hl : l.length * 4 ≤ LIM := by rw [← hL]; exact vec5_len v
  generalize opTs k ts near (lastR (lst o)) = tt at h18
  have m5 := bin_rem .u64 (IntKind.u64.wrap k) 5 (by decide)
  have d3 : ((IntKind.u64.wrap k).tmod 5 == 3) = false := by simpa [k5] using h3
  have d4 : ((IntKind.u64.wrap k).tmod 5 == 4) = false := by simpa [k5] using h4
  have h28 := r28 o tt l hs hf hf' hl ha
  have hm28 : T.mode 28 ≠ .raw := by decide
  have hmm := mapM_enc i32V (fun _ => rfl)
  have hle : (l.length ≤ (l.map i32V).length) = True := by simp
  have htk : (l.map i32V).take l.length = l.map i32V := by rw [List.take_of_length_le]; simp
  rw [slV_some] at h28
  obtain ⟨v', σ', n', h1, h2, h5, h6⟩ := thaw_ownC (upd (upd Sto.empty 0 (some (.row 4 [.agg [.int .i64 k, .int .u64 ts, .bool near, slV 1 i32V v]]))) 1 (some (.row 1 (l.map i32V)))) 2 (putC o tt l)
  simp +contextual -implicitDefEqProofs (maxSteps := 2000000) only [↓wP, wQ, wQ1, wQ2, wQ3, boxE, List.take_length, partsOf, ↓reduceIte, Nat.reduceEqDiff, Nat.reduceAdd, Nat.reduceSub, Nat.reduceLeDiff, Nat.reduceLT, Nat.reduceMul, Nat.zero_add, Nat.add_zero, Nat.mul_zero, Nat.le_refl, Nat.zero_le, Nat.one_ne_zero, Nat.zero_ne_one, reduceCtorEq, List.map_cons, List.map_nil, List.mapM_cons, List.mapM_nil, List.flatMap_cons, List.flatMap_nil, List.append_nil, List.nil_append, List.cons_append, List.drop_zero, List.drop_succ_cons, List.take_zero, List.take_succ_cons, List.take_nil, List.drop_nil, List.length_cons, List.length_nil, List.getElem?_cons_zero, List.getElem?_cons_succ, List.getElem?_nil, List.set_cons_zero, List.set_cons_succ, List.all_cons, List.all_nil, Option.bind_some, Option.bind_none, Option.map_some, Option.map_none, Option.pure_def, Option.bind_eq_bind, Bool.and_true, Bool.true_and, Bool.and_self, Bool.or_false, Bool.false_or, Bool.and_false, Bool.false_and, Bool.or_true, Bool.true_or, Bool.not_true, Bool.not_false, Bool.not_not, decide_true, decide_false, and_self, and_true, true_and, beq_self_eq_true, beq_true, beq_false, bne_self_eq_false, Int.reduceBNe, Int.reduceBEq, Int.reduceLT, Int.reduceLE, Int.reduceGT, Bool.false_eq_true, Nat.zero_lt_succ, Nat.zero_lt_one, Nat.add_assoc, Nat.left_eq_add, Nat.add_eq_left, h18, h22, m5, d3, d4, callE_eq hm28, frz_rf, rch_rf, hmm, hle, htk, h28, bk_pair, h1]
  have hv1 : σ' 1 = some (.row 1 (l.map i32V)) := by rw [h6 1 (by omega)]; simp [upd]
  refine WC_for l.length 0 (fun (j : Nat) env σ n => env 8 = .ref 1 0 l.length 1 ∧ env 4 = v' ∧ env 5 = .nilS ∧ env 6 = .int .i64 (putE o tt l) ∧ Chn σ 2 n' v' (putC o tt l) ∧
      ∃ xs : List V, σ 1 = some (.row 1 xs) ∧ xs.length = l.length ∧ ∀ x ∈ xs, ∃ t, x = .int .i32 t)
    (by unfold LIM at hl; omega) (by decide) (by decide) (fun _ _ => rfl) (fun _ _ _ => rfl) ?_ ?_ _ _ _ rfl rfl ?_
  · intro j env σ n hj k1 k2 ⟨k3, k4, k5, k6, k7, xs, k8, k9, k10⟩
    simp only [vl_tmp] at k2
    have hjx : j < xs.length := by omega
    obtain ⟨t, ht⟩ := k10 _ (List.getElem_mem hjx)
    have hx : xs[j]? = some (.int .i32 t) := by rw [List.getElem?_eq_getElem hjx, ht]
    simp +contextual -implicitDefEqProofs (maxSteps := 2000000) only [↓wP, wQ, wQ1, wQ2, wQ3, boxE, List.take_length, partsOf, ↓reduceIte, Nat.reduceEqDiff, Nat.reduceAdd, Nat.reduceSub, Nat.reduceLeDiff, Nat.reduceLT, Nat.reduceMul, Nat.zero_add, Nat.add_zero, Nat.mul_zero, Nat.le_refl, Nat.zero_le, Nat.one_ne_zero, Nat.zero_ne_one, reduceCtorEq, List.map_cons, List.map_nil, List.mapM_cons, List.mapM_nil, List.flatMap_cons, List.flatMap_nil, List.append_nil, List.nil_append, List.cons_append, List.drop_zero, List.drop_succ_cons, List.take_zero, List.take_succ_cons, List.take_nil, List.drop_nil, List.length_cons, List.length_nil, List.getElem?_cons_zero, List.getElem?_cons_succ, List.getElem?_nil, List.set_cons_zero, List.set_cons_succ, List.all_cons, List.all_nil, Option.bind_some, Option.bind_none, Option.map_some, Option.map_none, Option.pure_def, Option.bind_eq_bind, Bool.and_true, Bool.true_and, Bool.and_self, Bool.or_false, Bool.false_or, Bool.and_false, Bool.false_and, Bool.or_true, Bool.true_or, Bool.not_true, Bool.not_false, Bool.not_not, decide_true, decide_false, and_self, and_true, true_and, beq_self_eq_true, beq_true, beq_false, bne_self_eq_false, Int.reduceBNe, Int.reduceBEq, Int.reduceLT, Int.reduceLE, Int.reduceGT, Bool.false_eq_true, Nat.zero_lt_succ, Nat.zero_lt_one, Nat.add_assoc, Nat.left_eq_add, Nat.add_eq_left, k1, k2, k3, k4, k5, k6, k8, hj, hx, bin_xor]
    refine ⟨k7.loc (fun i hi _ => ?_) (Nat.le_refl _) (Nat.le_refl _), _, rfl, by simpa using k9, fun x hx => ?_⟩
    · have a1 : i ≠ 1 := by omega
      simp only [upd_get, a1, if_false]
    · rcases List.mem_or_eq_of_mem_set hx with hx | hx
      · exact k10 x hx
      · exact ⟨_, hx⟩
  · intro env σ n ⟨k3, k4, k5, k6, k7, xs, k8, k9, k10⟩ k1 k2
    simp +contextual -implicitDefEqProofs (maxSteps := 2000000) only [↓wP, wQ, wQ1, wQ2, wQ3, boxE, List.take_length, partsOf, ↓reduceIte, Nat.reduceEqDiff, Nat.reduceAdd, Nat.reduceSub, Nat.reduceLeDiff, Nat.reduceLT, Nat.reduceMul, Nat.zero_add, Nat.add_zero, Nat.mul_zero, Nat.le_refl, Nat.zero_le, Nat.one_ne_zero, Nat.zero_ne_one, reduceCtorEq, List.map_cons, List.map_nil, List.mapM_cons, List.mapM_nil, List.flatMap_cons, List.flatMap_nil, List.append_nil, List.nil_append, List.cons_append, List.drop_zero, List.drop_succ_cons, List.take_zero, List.take_succ_cons, List.take_nil, List.drop_nil, List.length_cons, List.length_nil, List.getElem?_cons_zero, List.getElem?_cons_succ, List.getElem?_nil, List.set_cons_zero, List.set_cons_succ, List.all_cons, List.all_nil, Option.bind_some, Option.bind_none, Option.map_some, Option.map_none, Option.pure_def, Option.bind_eq_bind, Bool.and_true, Bool.true_and, Bool.and_self, Bool.or_false, Bool.false_or, Bool.and_false, Bool.false_and, Bool.or_true, Bool.true_or, Bool.not_true, Bool.not_false, Bool.not_not, decide_true, decide_false, and_self, and_true, true_and, beq_self_eq_true, beq_true, beq_false, bne_self_eq_false, Int.reduceBNe, Int.reduceBEq, Int.reduceLT, Int.reduceLE, Int.reduceGT, Bool.false_eq_true, Nat.zero_lt_succ, Nat.zero_lt_one, Nat.add_assoc, Nat.left_eq_add, Nat.add_eq_left, k3, k4, k5, k6]
    exact giv_trip (o' := none) (m' := n') (n' := n') k7 rfl (.inl (Nat.le_refl _)) _
  · exact ⟨rfl, rfl, rfl, rfl, h2, _, hv1, by simp, fun x hx => by obtain ⟨t, -, rfl⟩ := List.mem_map.1 hx; exact ⟨t, rfl⟩⟩

theorem r15d (k ts : Int) (near : Bool) (v : Option (List Int)) (o : Option (List Ver)) (hv : (lst v).length < 9223372036854775808) (hs : Sm o) (hf : FitC o) (ha : AllS (lst o)) (h3 : k5 k = 3) :
    res T 15 [.agg [.int .i64 k, .int .u64 ts, .bool near, slV 1 i32V v], slV 3 verV o] =
      some (.tup [ownC (delO o (opTs k ts near (lastR (lst o)))), .nilS, .int .i64 (delE o (opTs k ts near (lastR (lst o))))]) := by
  refine run_res (run_own (fn := g15) rfl rfl (by decide) ?_)
  simp only [g15, b15]
  have h18 := f18 k ts near v o hs
  have h22 := f22 k ts near v hv
  generalize hL : vec5 v = l at h22
  generalize opTs k ts near (lastR (lst o)) = tt at h18
  have m5 := bin_rem .u64 (IntKind.u64.wrap k) 5 (by decide)
  have d3 : ((IntKind.u64.wrap k).tmod 5 == 3) = true := by simpa [k5] using h3
  have h33 := callE_thaw (by decide) (r33 o tt hs hf ha) (by simp [Tr, Tr_slV]) true (upd (upd Sto.empty 0 (some (.row 4 [.agg [.int .i64 k, .int .u64 ts, .bool near, slV 1 i32V v]]))) 1 (some (.row 1 (l.map i32V)))) 2 0
  obtain ⟨v', σ', n', h1, h2, h5, h6⟩ := thaw_ownC (upd (upd Sto.empty 0 (some (.row 4 [.agg [.int .i64 k, .int .u64 ts, .bool near, slV 1 i32V v]]))) 1 (some (.row 1 (l.map i32V)))) 2 (delO o tt)
  simp +contextual -implicitDefEqProofs (maxSteps := 2000000) only [↓wP, wQ, wQ1, wQ2, wQ3, boxE, List.take_length, partsOf, ↓reduceIte, Nat.reduceEqDiff, Nat.reduceAdd, Nat.reduceSub, Nat.reduceLeDiff, Nat.reduceLT, Nat.reduceMul, Nat.zero_add, Nat.add_zero, Nat.mul_zero, Nat.le_refl, Nat.zero_le, Nat.one_ne_zero, Nat.zero_ne_one, reduceCtorEq, List.map_cons, List.map_nil, List.mapM_cons, List.mapM_nil, List.flatMap_cons, List.flatMap_nil, List.append_nil, List.nil_append, List.cons_append, List.drop_zero, List.drop_succ_cons, List.take_zero, List.take_succ_cons, List.take_nil, List.drop_nil, List.length_cons, List.length_nil, List.getElem?_cons_zero, List.getElem?_cons_succ, List.getElem?_nil, List.set_cons_zero, List.set_cons_succ, List.all_cons, List.all_nil, Option.bind_some, Option.bind_none, Option.map_some, Option.map_none, Option.pure_def, Option.bind_eq_bind, Bool.and_true, Bool.true_and, Bool.and_self, Bool.or_false, Bool.false_or, Bool.and_false, Bool.false_and, Bool.or_true, Bool.true_or, Bool.not_true, Bool.not_false, Bool.not_not, decide_true, decide_false, and_self, and_true, true_and, beq_self_eq_true, beq_true, beq_false, bne_self_eq_false, Int.reduceBNe, Int.reduceBEq, Int.reduceLT, Int.reduceLE, Int.reduceGT, Bool.false_eq_true, Nat.zero_lt_succ, Nat.zero_lt_one, Nat.add_assoc, Nat.left_eq_add, Nat.add_eq_left, h18, h22, m5, d3, h33, h1]
  exact giv_trip (o' := none) (m' := n') (n' := n') h2 rfl (.inl (Nat.le_refl _)) _

end Go.Q.S3
end

section
/- The layer does something. -/
set_option linter.unusedSimpArgs false
set_option linter.unusedVariables false
namespace Go.Q.S3
open Go.Q

def isTrue' : Option Out → Bool
  | some (.val (.bool true)) => true
  | _ => false
theorem isTrue_eq {o : Option Out} (h : isTrue' o = true) : o = some (.val (.bool true)) := by
  unfold isTrue' at h
  split at h
  · rfl
  · cases h

theorem r9 : res T 9 [] = some (.bool true) := by
  have h : isTrue' (exJob T 60 (.pure 9 [])) = true := by decide +kernel
  exact run_res (exJob_sound 60 _ _ (isTrue_eq h))
theorem f9 (fs : Bool) (σ : Sto) (n lk : Nat) : callE T fs 9 [] σ n lk = some (.bool true, σ, n) := callE_tr (by decide) r9 rfl rfl fs σ n lk
end Go.Q.S3
end

section
/- At each time one version is visible at most. -/
set_option linter.unusedSimpArgs false
set_option linter.unusedVariables false
namespace Go.Q.S3
open Go.Q

theorem chk_le {d : Int} : ∀ {last : Int} {l : List Ver}, chk d last l = true → ∀ y ∈ l, last ≤ y.b
  | _, [], _, y, hy => by simp at hy
  | last, x :: xs, h, y, hy => by
    simp only [chk, okVer, Bool.and_eq_true, decide_eq_true_eq, Bool.or_eq_true, beq_iff_eq, Bool.not_eq_true', beq_eq_false_iff_ne] at h
    rcases List.mem_cons.1 hy with rfl | hy
    · exact h.1.1.1.1.1.1.2
    · have h1 := chk_le h.2 y hy
      have h2 := h.1.1.1.2
      have h3 := h.1.2
      have h4 := h.1.1.1.1.1.1.2
      cases xs with
      | nil => simp at hy
      | cons z zs =>
        simp only [List.isEmpty_cons, Bool.false_eq_true, or_false] at h3
        omega

theorem chk_uniq {d t : Int} : ∀ {last : Int} {l : List Ver}, chk d last l = true → ∀ (a b : Nat) (x y : Ver), a < b → l[a]? = some x → l[b]? = some y → vis x t = true → vis y t = true → False
  | _, [], _, a, b, x, y, _, ha, _, _, _ => by simp at ha
  | last, z :: zs, h, a, b, x, y, hab, ha, hb, hx, hy => by
    cases b with
    | zero => omega
    | succ b =>
      simp only [List.getElem?_cons_succ] at hb
      have hc : chk d z.e zs = true := by simp only [chk, Bool.and_eq_true] at h; exact h.2
      cases a with
      | succ a => exact chk_uniq hc a b x y (by omega) (by simpa using ha) hb hx hy
      | zero =>
        simp only [List.getElem?_cons_zero, Option.some.injEq] at ha
        subst ha
        have h1 := chk_le hc y (List.mem_of_getElem? hb)
        have hne : zs.isEmpty = false := by cases zs <;> simp at hb ⊢
        simp only [chk, okVer, hne, Bool.and_eq_true, decide_eq_true_eq, Bool.or_eq_true, beq_iff_eq, Bool.not_eq_true', beq_eq_false_iff_ne, Bool.false_eq_true, or_false] at h
        simp only [vis, Bool.and_eq_true, decide_eq_true_eq, Bool.or_eq_true, beq_iff_eq] at hx hy
        have h3 := h.1.2
        omega

/-- In a chain that may be: what is visible is where it is found. -/
theorem vis_pos {o : Option (List Ver)} {t : Int} (h : okC o = true) {k : Nat} {x : Ver} (hk : (lst o)[k]? = some x) (hv : vis x t = true) : posV o t = (k : Int) := by
  unfold okC at h
  rw [Bool.and_eq_true] at h
  unfold posV idxF
  cases hf : (lst o).findIdx? (fun x => vis x t) with
  | none =>
    rw [List.findIdx?_eq_none_iff] at hf
    have := hf x (List.mem_of_getElem? hk)
    rw [this] at hv; cases hv
  | some i =>
    rw [List.findIdx?_eq_some_iff_getElem] at hf
    obtain ⟨hi, hp, hmin⟩ := hf
    have e1 : (lst o)[i]? = some (lst o)[i] := List.getElem?_eq_getElem hi
    rcases Nat.lt_trichotomy i k with hik | hik | hik
    · exact (chk_uniq h.2 i k _ _ hik e1 hk hp hv).elim
    · simp [hik]
    · exact (chk_uniq h.2 k i _ _ hik hk e1 hv hp).elim

theorem pos_lt (o : Option (List Ver)) (t : Int) : posV o t < ((lst o).length : Int) := by
  unfold posV idxF
  cases hf : (lst o).findIdx? (fun x => vis x t) with
  | none => simp only; omega
  | some i =>
    rw [List.findIdx?_eq_some_iff_getElem] at hf
    obtain ⟨hi, -⟩ := hf
    simp only; omega

theorem pos_ge (o : Option (List Ver)) (t : Int) : -1 ≤ posV o t := by
  unfold posV idxF
  split <;> omega

theorem pos_vis {o : Option (List Ver)} {t : Int} {k : Nat} {x : Ver} (hk : (lst o)[k]? = some x) (hp : posV o t = (k : Int)) : vis x t = true := by
  unfold posV idxF at hp
  cases hf : (lst o).findIdx? (fun x => vis x t) with
  | none => rw [hf] at hp; simp only at hp; omega
  | some i =>
    rw [hf] at hp
    rw [List.findIdx?_eq_some_iff_getElem] at hf
    obtain ⟨hi, hv, -⟩ := hf
    simp only [Int.ofNat_inj] at hp
    subst hp
    rw [List.getElem?_eq_getElem hi] at hk
    cases hk
    exact hv

theorem few_len (o : Option (List Ver)) : (lst (fewO o)).length ≤ 97 := by rw [fewO, lst_opt]; simp; omega
theorem few_sm (o : Option (List Ver)) : Sm (fewO o) := by
  refine ⟨by have := few_len o; omega, fun x hx => ?_⟩
  rw [fewO, lst_opt] at hx
  obtain ⟨y, -, rfl⟩ := List.mem_map.1 hx
  simp only [fewV, lst_some, List.length_take]
  omega

/-- How many are visible among the first ones. -/
def cnt (o : Option (List Ver)) (t : Int) (k : Nat) : Int := if 0 ≤ posV o t ∧ posV o t < (k : Int) then 1 else 0

theorem cnt_end {o : Option (List Ver)} {t : Int} (h : okC o = true) : (decide (1 < cnt o t (lst o).length) || ((cnt o t (lst o).length == 1) == atB o t) != true) = false := by
  have := pos_lt o t
  unfold cnt atB
  by_cases h0 : 0 ≤ posV o t
  · rw [if_pos ⟨h0, this⟩]; simp [h0, h]
  · rw [if_neg (fun hh => h0 hh.1)]; simp [h0]

theorem r3 (o : Option (List Ver)) (l : Option (List Int)) (hs : Sm o) (hl : (lst l).length * 8 ≤ 140737488351232) : res T 3 [slV 3 verV o, slV 1 u64V l] = some (.bool true) := by
  refine run_res (run_pure (fn := g3) rfl rfl (by decide) ?_)
  simp only [g3, b3]
  have h10 := f10 o hs
  have h11 := f11 (fewO o) (few_sm o)
  have h12 := f12 (fewO o) (few_len o)
  simp +contextual -implicitDefEqProofs (maxSteps := 2000000) only [↓wP, wQ, wQ1, wQ2, wQ3, boxE, List.take_length, partsOf, ↓reduceIte, Nat.reduceEqDiff, Nat.reduceAdd, Nat.reduceSub, Nat.reduceLeDiff, Nat.reduceLT, Nat.reduceMul, Nat.zero_add, Nat.add_zero, Nat.mul_zero, Nat.le_refl, Nat.zero_le, Nat.one_ne_zero, Nat.zero_ne_one, reduceCtorEq, List.map_cons, List.map_nil, List.mapM_cons, List.mapM_nil, List.flatMap_cons, List.flatMap_nil, List.append_nil, List.nil_append, List.cons_append, List.drop_zero, List.drop_succ_cons, List.take_zero, List.take_succ_cons, List.take_nil, List.drop_nil, List.length_cons, List.length_nil, List.getElem?_cons_zero, List.getElem?_cons_succ, List.getElem?_nil, List.set_cons_zero, List.set_cons_succ, List.all_cons, List.all_nil, Option.bind_some, Option.bind_none, Option.map_some, Option.map_none, Option.pure_def, Option.bind_eq_bind, Bool.and_true, Bool.true_and, Bool.and_self, Bool.or_false, Bool.false_or, Bool.and_false, Bool.false_and, Bool.or_true, Bool.true_or, Bool.not_true, Bool.not_false, Bool.not_not, decide_true, decide_false, and_self, and_true, true_and, beq_self_eq_true, beq_true, beq_false, bne_self_eq_false, Int.reduceBNe, Int.reduceBEq, Int.reduceLT, Int.reduceLE, Int.reduceGT, Bool.false_eq_true, Nat.zero_lt_succ, Nat.zero_lt_one, Nat.add_assoc, Nat.left_eq_add, Nat.add_eq_left, f9, h10, h11]
  cases hc : okC (fewO o)
  · simp +contextual -implicitDefEqProofs (maxSteps := 2000000) only [↓wP, wQ, wQ1, wQ2, wQ3, boxE, List.take_length, partsOf, ↓reduceIte, Nat.reduceEqDiff, Nat.reduceAdd, Nat.reduceSub, Nat.reduceLeDiff, Nat.reduceLT, Nat.reduceMul, Nat.zero_add, Nat.add_zero, Nat.mul_zero, Nat.le_refl, Nat.zero_le, Nat.one_ne_zero, Nat.zero_ne_one, reduceCtorEq, List.map_cons, List.map_nil, List.mapM_cons, List.mapM_nil, List.flatMap_cons, List.flatMap_nil, List.append_nil, List.nil_append, List.cons_append, List.drop_zero, List.drop_succ_cons, List.take_zero, List.take_succ_cons, List.take_nil, List.drop_nil, List.length_cons, List.length_nil, List.getElem?_cons_zero, List.getElem?_cons_succ, List.getElem?_nil, List.set_cons_zero, List.set_cons_succ, List.all_cons, List.all_nil, Option.bind_some, Option.bind_none, Option.map_some, Option.map_none, Option.pure_def, Option.bind_eq_bind, Bool.and_true, Bool.true_and, Bool.and_self, Bool.or_false, Bool.false_or, Bool.and_false, Bool.false_and, Bool.or_true, Bool.true_or, Bool.not_true, Bool.not_false, Bool.not_not, decide_true, decide_false, and_self, and_true, true_and, beq_self_eq_true, beq_true, beq_false, bne_self_eq_false, Int.reduceBNe, Int.reduceBEq, Int.reduceLT, Int.reduceLE, Int.reduceGT, Bool.false_eq_true, Nat.zero_lt_succ, Nat.zero_lt_one, Nat.add_assoc, Nat.left_eq_add, Nat.add_eq_left]
  · have hlen := timL_len (lst (fewO o))
    have hfl := few_len o
    have hlim : (((timL (lst (fewO o))).map u64V).length + ((lst l).map u64V).length) * 8 ≤ LIM := by unfold LIM; simp; omega
    simp +contextual -implicitDefEqProofs (maxSteps := 2000000) only [↓wP, wQ, wQ1, wQ2, wQ3, boxE, List.take_length, partsOf, ↓reduceIte, Nat.reduceEqDiff, Nat.reduceAdd, Nat.reduceSub, Nat.reduceLeDiff, Nat.reduceLT, Nat.reduceMul, Nat.zero_add, Nat.add_zero, Nat.mul_zero, Nat.le_refl, Nat.zero_le, Nat.one_ne_zero, Nat.zero_ne_one, reduceCtorEq, List.map_cons, List.map_nil, List.mapM_cons, List.mapM_nil, List.flatMap_cons, List.flatMap_nil, List.append_nil, List.nil_append, List.cons_append, List.drop_zero, List.drop_succ_cons, List.take_zero, List.take_succ_cons, List.take_nil, List.drop_nil, List.length_cons, List.length_nil, List.getElem?_cons_zero, List.getElem?_cons_succ, List.getElem?_nil, List.set_cons_zero, List.set_cons_succ, List.all_cons, List.all_nil, Option.bind_some, Option.bind_none, Option.map_some, Option.map_none, Option.pure_def, Option.bind_eq_bind, Bool.and_true, Bool.true_and, Bool.and_self, Bool.or_false, Bool.false_or, Bool.and_false, Bool.false_and, Bool.or_true, Bool.true_or, Bool.not_true, Bool.not_false, Bool.not_not, decide_true, decide_false, and_self, and_true, true_and, beq_self_eq_true, beq_true, beq_false, bne_self_eq_false, Int.reduceBNe, Int.reduceBEq, Int.reduceLT, Int.reduceLE, Int.reduceGT, Bool.false_eq_true, Nat.zero_lt_succ, Nat.zero_lt_one, Nat.add_assoc, Nat.left_eq_add, Nat.add_eq_left, h12, hlim]
    generalize hA : (timL (lst (fewO o))).map u64V = A at hlim ⊢
    generalize hB : (lst l).map u64V = B at hlim ⊢
    have hR : ∀ j, j < A.length + B.length → ∃ t, (A ++ B)[j]? = some (V.int .u64 t) := by
      intro j hj
      have : A ++ B = (timL (lst (fewO o)) ++ lst l).map u64V := by rw [List.map_append, hA, hB]
      have hj' : j < ((timL (lst (fewO o)) ++ lst l).map u64V).length := by rw [← this, List.length_append]; exact hj
      exact ⟨_, by rw [this, List.getElem?_eq_getElem hj', List.getElem_map]; rfl⟩
    refine WC_for (A.length + B.length) 0 (fun (j : Nat) env σ n => env 5 = slV 3 verV (fewO o) ∧ ∃ i, env 23 = .ref i 0 (A.length + B.length) 1 ∧ σ i = some (.row 1 (A ++ B)) ∧ i < n)
      (by unfold LIM at hlim; omega) (by decide) (by decide) (fun _ _ => rfl) (fun _ _ _ => rfl) ?_ ?_ _ _ _ rfl rfl ?_
    · intro j env σ n hj h1 h2 ⟨h3, i, h4, h5, h6⟩
      simp only [vl_tmp] at h2
      obtain ⟨t, hx⟩ := hR j hj
      have h13 := f13 (fewO o) t (few_sm o)
      by_cases h400 : (j : Int) = 400
      · have hd : ((j : Int) == 400) = true := by simpa using h400
        simp +contextual -implicitDefEqProofs (maxSteps := 2000000) only [↓wP, wQ, wQ1, wQ2, wQ3, boxE, List.take_length, partsOf, ↓reduceIte, Nat.reduceEqDiff, Nat.reduceAdd, Nat.reduceSub, Nat.reduceLeDiff, Nat.reduceLT, Nat.reduceMul, Nat.zero_add, Nat.add_zero, Nat.mul_zero, Nat.le_refl, Nat.zero_le, Nat.one_ne_zero, Nat.zero_ne_one, reduceCtorEq, List.map_cons, List.map_nil, List.mapM_cons, List.mapM_nil, List.flatMap_cons, List.flatMap_nil, List.append_nil, List.nil_append, List.cons_append, List.drop_zero, List.drop_succ_cons, List.take_zero, List.take_succ_cons, List.take_nil, List.drop_nil, List.length_cons, List.length_nil, List.getElem?_cons_zero, List.getElem?_cons_succ, List.getElem?_nil, List.set_cons_zero, List.set_cons_succ, List.all_cons, List.all_nil, Option.bind_some, Option.bind_none, Option.map_some, Option.map_none, Option.pure_def, Option.bind_eq_bind, Bool.and_true, Bool.true_and, Bool.and_self, Bool.or_false, Bool.false_or, Bool.and_false, Bool.false_and, Bool.or_true, Bool.true_or, Bool.not_true, Bool.not_false, Bool.not_not, decide_true, decide_false, and_self, and_true, true_and, beq_self_eq_true, beq_true, beq_false, bne_self_eq_false, Int.reduceBNe, Int.reduceBEq, Int.reduceLT, Int.reduceLE, Int.reduceGT, Bool.false_eq_true, Nat.zero_lt_succ, Nat.zero_lt_one, Nat.add_assoc, Nat.left_eq_add, Nat.add_eq_left, h1, h2, h3, h4, h5, hx, hj, hd]
      · have hd : ((j : Int) == 400) = false := by simpa using h400
        simp +contextual -implicitDefEqProofs (maxSteps := 2000000) only [↓wP, wQ, wQ1, wQ2, wQ3, boxE, List.take_length, partsOf, ↓reduceIte, Nat.reduceEqDiff, Nat.reduceAdd, Nat.reduceSub, Nat.reduceLeDiff, Nat.reduceLT, Nat.reduceMul, Nat.zero_add, Nat.add_zero, Nat.mul_zero, Nat.le_refl, Nat.zero_le, Nat.one_ne_zero, Nat.zero_ne_one, reduceCtorEq, List.map_cons, List.map_nil, List.mapM_cons, List.mapM_nil, List.flatMap_cons, List.flatMap_nil, List.append_nil, List.nil_append, List.cons_append, List.drop_zero, List.drop_succ_cons, List.take_zero, List.take_succ_cons, List.take_nil, List.drop_nil, List.length_cons, List.length_nil, List.getElem?_cons_zero, List.getElem?_cons_succ, List.getElem?_nil, List.set_cons_zero, List.set_cons_succ, List.all_cons, List.all_nil, Option.bind_some, Option.bind_none, Option.map_some, Option.map_none, Option.pure_def, Option.bind_eq_bind, Bool.and_true, Bool.true_and, Bool.and_self, Bool.or_false, Bool.false_or, Bool.and_false, Bool.false_and, Bool.or_true, Bool.true_or, Bool.not_true, Bool.not_false, Bool.not_not, decide_true, decide_false, and_self, and_true, true_and, beq_self_eq_true, beq_true, beq_false, bne_self_eq_false, Int.reduceBNe, Int.reduceBEq, Int.reduceLT, Int.reduceLE, Int.reduceGT, Bool.false_eq_true, Nat.zero_lt_succ, Nat.zero_lt_one, Nat.add_assoc, Nat.left_eq_add, Nat.add_eq_left, h1, h2, h3, h4, h5, hx, hj, hd, h13]
        refine WC_for (lst (fewO o)).length 0 (fun (k : Nat) env σ n => env 5 = slV 3 verV (fewO o) ∧ env 23 = .ref i 0 (A.length + B.length) 1 ∧ env 24 = .int .i64 ((A.length + B.length : Nat) : Int) ∧
              env 25 = .int .i64 (j : Int) ∧ σ i = some (.row 1 (A ++ B)) ∧ i < n ∧ env 38 = slV 3 verV (fewO o) ∧ env 7 = .int .u64 t ∧
              env 9 = .int .i64 (atI (fewO o) t) ∧ env 10 = .bool (atB (fewO o) t) ∧ env 8 = .int .i64 (cnt (fewO o) t k))
            (by omega) (by decide) (by decide) (fun _ _ => rfl) (fun _ _ _ => rfl) ?_ ?_ _ _ _ rfl rfl ?_
        · clear h1 h2 h3 h4 h5 h6
          intro k env σ n hk k1 k2 ⟨k3, k4, k5, k6, k7, k8, k9, k10, k11, k12, k13⟩
          simp only [vl_tmp] at k2
          have hxk : (lst (fewO o))[k]? = some (lst (fewO o))[k] := List.getElem?_eq_getElem hk
          have hvis : (decide ((lst (fewO o))[k].b ≤ t) && ((lst (fewO o))[k].e == 0 || decide (t < (lst (fewO o))[k].e))) = vis (lst (fewO o))[k] t := rfl
          have hin : (i = n) = False := by simp; omega
          simp +contextual -implicitDefEqProofs (maxSteps := 2000000) only [↓wP, wQ, wQ1, wQ2, wQ3, boxE, List.take_length, partsOf, ↓reduceIte, Nat.reduceEqDiff, Nat.reduceAdd, Nat.reduceSub, Nat.reduceLeDiff, Nat.reduceLT, Nat.reduceMul, Nat.zero_add, Nat.add_zero, Nat.mul_zero, Nat.le_refl, Nat.zero_le, Nat.one_ne_zero, Nat.zero_ne_one, reduceCtorEq, List.map_cons, List.map_nil, List.mapM_cons, List.mapM_nil, List.flatMap_cons, List.flatMap_nil, List.append_nil, List.nil_append, List.cons_append, List.drop_zero, List.drop_succ_cons, List.take_zero, List.take_succ_cons, List.take_nil, List.drop_nil, List.length_cons, List.length_nil, List.getElem?_cons_zero, List.getElem?_cons_succ, List.getElem?_nil, List.set_cons_zero, List.set_cons_succ, List.all_cons, List.all_nil, Option.bind_some, Option.bind_none, Option.map_some, Option.map_none, Option.pure_def, Option.bind_eq_bind, Bool.and_true, Bool.true_and, Bool.and_self, Bool.or_false, Bool.false_or, Bool.and_false, Bool.false_and, Bool.or_true, Bool.true_or, Bool.not_true, Bool.not_false, Bool.not_not, decide_true, decide_false, and_self, and_true, true_and, beq_self_eq_true, beq_true, beq_false, bne_self_eq_false, Int.reduceBNe, Int.reduceBEq, Int.reduceLT, Int.reduceLE, Int.reduceGT, Bool.false_eq_true, Nat.zero_lt_succ, Nat.zero_lt_one, Nat.add_assoc, Nat.left_eq_add, Nat.add_eq_left, k1, k2, k3, k4, k5, k6, k7, k8, k9, k10, k11, k12, k13, hxk, verV, hvis]
          refine condC_split (fun hv => ?_) (fun hv => ?_)
          · have hp := vis_pos hc hxk hv
            have c0 : cnt (fewO o) t k = 0 := by unfold cnt; rw [hp]; simp
            have c1 : cnt (fewO o) t (k + 1) = 1 := by unfold cnt; rw [hp]; simp; omega
            have hB : atB (fewO o) t = true := by unfold atB; rw [hp, hc]; simp
            have hI : ((k : Int) != atI (fewO o) t) = false := by unfold atI; rw [hB, if_pos rfl, hp]; simp
            have hw : IntKind.i64.wrap (0 + 1) = 1 := by decide
            simp +contextual -implicitDefEqProofs (maxSteps := 2000000) only [↓wP, wQ, wQ1, wQ2, wQ3, boxE, List.take_length, partsOf, ↓reduceIte, Nat.reduceEqDiff, Nat.reduceAdd, Nat.reduceSub, Nat.reduceLeDiff, Nat.reduceLT, Nat.reduceMul, Nat.zero_add, Nat.add_zero, Nat.mul_zero, Nat.le_refl, Nat.zero_le, Nat.one_ne_zero, Nat.zero_ne_one, reduceCtorEq, List.map_cons, List.map_nil, List.mapM_cons, List.mapM_nil, List.flatMap_cons, List.flatMap_nil, List.append_nil, List.nil_append, List.cons_append, List.drop_zero, List.drop_succ_cons, List.take_zero, List.take_succ_cons, List.take_nil, List.drop_nil, List.length_cons, List.length_nil, List.getElem?_cons_zero, List.getElem?_cons_succ, List.getElem?_nil, List.set_cons_zero, List.set_cons_succ, List.all_cons, List.all_nil, Option.bind_some, Option.bind_none, Option.map_some, Option.map_none, Option.pure_def, Option.bind_eq_bind, Bool.and_true, Bool.true_and, Bool.and_self, Bool.or_false, Bool.false_or, Bool.and_false, Bool.false_and, Bool.or_true, Bool.true_or, Bool.not_true, Bool.not_false, Bool.not_not, decide_true, decide_false, and_self, and_true, true_and, beq_self_eq_true, beq_true, beq_false, bne_self_eq_false, Int.reduceBNe, Int.reduceBEq, Int.reduceLT, Int.reduceLE, Int.reduceGT, Bool.false_eq_true, Nat.zero_lt_succ, Nat.zero_lt_one, Nat.add_assoc, Nat.left_eq_add, Nat.add_eq_left, k1, k2, k3, k4, k5, k6, k7, k8, k9, k10, k11, k12, k13, c0, c1, hI, hw, hin]
            omega
          · have c1 : cnt (fewO o) t (k + 1) = cnt (fewO o) t k := by
              unfold cnt
              have : posV (fewO o) t ≠ (k : Int) := fun hp => by rw [pos_vis hxk hp] at hv; cases hv
              split <;> split <;> omega
            simp +contextual -implicitDefEqProofs (maxSteps := 2000000) only [↓wP, wQ, wQ1, wQ2, wQ3, boxE, List.take_length, partsOf, ↓reduceIte, Nat.reduceEqDiff, Nat.reduceAdd, Nat.reduceSub, Nat.reduceLeDiff, Nat.reduceLT, Nat.reduceMul, Nat.zero_add, Nat.add_zero, Nat.mul_zero, Nat.le_refl, Nat.zero_le, Nat.one_ne_zero, Nat.zero_ne_one, reduceCtorEq, List.map_cons, List.map_nil, List.mapM_cons, List.mapM_nil, List.flatMap_cons, List.flatMap_nil, List.append_nil, List.nil_append, List.cons_append, List.drop_zero, List.drop_succ_cons, List.take_zero, List.take_succ_cons, List.take_nil, List.drop_nil, List.length_cons, List.length_nil, List.getElem?_cons_zero, List.getElem?_cons_succ, List.getElem?_nil, List.set_cons_zero, List.set_cons_succ, List.all_cons, List.all_nil, Option.bind_some, Option.bind_none, Option.map_some, Option.map_none, Option.pure_def, Option.bind_eq_bind, Bool.and_true, Bool.true_and, Bool.and_self, Bool.or_false, Bool.false_or, Bool.and_false, Bool.false_and, Bool.or_true, Bool.true_or, Bool.not_true, Bool.not_false, Bool.not_not, decide_true, decide_false, and_self, and_true, true_and, beq_self_eq_true, beq_true, beq_false, bne_self_eq_false, Int.reduceBNe, Int.reduceBEq, Int.reduceLT, Int.reduceLE, Int.reduceGT, Bool.false_eq_true, Nat.zero_lt_succ, Nat.zero_lt_one, Nat.add_assoc, Nat.left_eq_add, Nat.add_eq_left, k1, k2, k3, k4, k5, k6, k7, k8, k9, k10, k11, k12, k13, c1, hin]
            omega
        · clear h1 h2 h3 h4 h5 h6
          intro env σ n ⟨k3, k4, k5, k6, k7, k8, k9, k10, k11, k12, k13⟩ k1 k2
          have hend := cnt_end (t := t) hc
          simp +contextual -implicitDefEqProofs (maxSteps := 2000000) only [↓wP, wQ, wQ1, wQ2, wQ3, boxE, List.take_length, partsOf, ↓reduceIte, Nat.reduceEqDiff, Nat.reduceAdd, Nat.reduceSub, Nat.reduceLeDiff, Nat.reduceLT, Nat.reduceMul, Nat.zero_add, Nat.add_zero, Nat.mul_zero, Nat.le_refl, Nat.zero_le, Nat.one_ne_zero, Nat.zero_ne_one, reduceCtorEq, List.map_cons, List.map_nil, List.mapM_cons, List.mapM_nil, List.flatMap_cons, List.flatMap_nil, List.append_nil, List.nil_append, List.cons_append, List.drop_zero, List.drop_succ_cons, List.take_zero, List.take_succ_cons, List.take_nil, List.drop_nil, List.length_cons, List.length_nil, List.getElem?_cons_zero, List.getElem?_cons_succ, List.getElem?_nil, List.set_cons_zero, List.set_cons_succ, List.all_cons, List.all_nil, Option.bind_some, Option.bind_none, Option.map_some, Option.map_none, Option.pure_def, Option.bind_eq_bind, Bool.and_true, Bool.true_and, Bool.and_self, Bool.or_false, Bool.false_or, Bool.and_false, Bool.false_and, Bool.or_true, Bool.true_or, Bool.not_true, Bool.not_false, Bool.not_not, decide_true, decide_false, and_self, and_true, true_and, beq_self_eq_true, beq_true, beq_false, bne_self_eq_false, Int.reduceBNe, Int.reduceBEq, Int.reduceLT, Int.reduceLE, Int.reduceGT, Bool.false_eq_true, Nat.zero_lt_succ, Nat.zero_lt_one, Nat.add_assoc, Nat.left_eq_add, Nat.add_eq_left, k1, k2, k3, k4, k5, k6, k7, k8, k9, k10, k11, k12, k13, hend]
          exact ⟨i, rfl, k7, k8⟩
        · have c0 : cnt (fewO o) t 0 = 0 := by unfold cnt; rw [if_neg]; omega
          simp +contextual -implicitDefEqProofs (maxSteps := 2000000) only [↓wP, wQ, wQ1, wQ2, wQ3, boxE, List.take_length, partsOf, ↓reduceIte, Nat.reduceEqDiff, Nat.reduceAdd, Nat.reduceSub, Nat.reduceLeDiff, Nat.reduceLT, Nat.reduceMul, Nat.zero_add, Nat.add_zero, Nat.mul_zero, Nat.le_refl, Nat.zero_le, Nat.one_ne_zero, Nat.zero_ne_one, reduceCtorEq, List.map_cons, List.map_nil, List.mapM_cons, List.mapM_nil, List.flatMap_cons, List.flatMap_nil, List.append_nil, List.nil_append, List.cons_append, List.drop_zero, List.drop_succ_cons, List.take_zero, List.take_succ_cons, List.take_nil, List.drop_nil, List.length_cons, List.length_nil, List.getElem?_cons_zero, List.getElem?_cons_succ, List.getElem?_nil, List.set_cons_zero, List.set_cons_succ, List.all_cons, List.all_nil, Option.bind_some, Option.bind_none, Option.map_some, Option.map_none, Option.pure_def, Option.bind_eq_bind, Bool.and_true, Bool.true_and, Bool.and_self, Bool.or_false, Bool.false_or, Bool.and_false, Bool.false_and, Bool.or_true, Bool.true_or, Bool.not_true, Bool.not_false, Bool.not_not, decide_true, decide_false, and_self, and_true, true_and, beq_self_eq_true, beq_true, beq_false, bne_self_eq_false, Int.reduceBNe, Int.reduceBEq, Int.reduceLT, Int.reduceLE, Int.reduceGT, Bool.false_eq_true, Nat.zero_lt_succ, Nat.zero_lt_one, Nat.add_assoc, Nat.left_eq_add, Nat.add_eq_left, h1, h2, h3, h4, h5, h6, c0]
    · intro env σ n ⟨h3, i, h4, h5, h6⟩ h1 h2
      simp +contextual -implicitDefEqProofs (maxSteps := 2000000) only [↓wP, wQ, wQ1, wQ2, wQ3, boxE, List.take_length, partsOf, ↓reduceIte, Nat.reduceEqDiff, Nat.reduceAdd, Nat.reduceSub, Nat.reduceLeDiff, Nat.reduceLT, Nat.reduceMul, Nat.zero_add, Nat.add_zero, Nat.mul_zero, Nat.le_refl, Nat.zero_le, Nat.one_ne_zero, Nat.zero_ne_one, reduceCtorEq, List.map_cons, List.map_nil, List.mapM_cons, List.mapM_nil, List.flatMap_cons, List.flatMap_nil, List.append_nil, List.nil_append, List.cons_append, List.drop_zero, List.drop_succ_cons, List.take_zero, List.take_succ_cons, List.take_nil, List.drop_nil, List.length_cons, List.length_nil, List.getElem?_cons_zero, List.getElem?_cons_succ, List.getElem?_nil, List.set_cons_zero, List.set_cons_succ, List.all_cons, List.all_nil, Option.bind_some, Option.bind_none, Option.map_some, Option.map_none, Option.pure_def, Option.bind_eq_bind, Bool.and_true, Bool.true_and, Bool.and_self, Bool.or_false, Bool.false_or, Bool.and_false, Bool.false_and, Bool.or_true, Bool.true_or, Bool.not_true, Bool.not_false, Bool.not_not, decide_true, decide_false, and_self, and_true, true_and, beq_self_eq_true, beq_true, beq_false, bne_self_eq_false, Int.reduceBNe, Int.reduceBEq, Int.reduceLT, Int.reduceLE, Int.reduceGT, Bool.false_eq_true, Nat.zero_lt_succ, Nat.zero_lt_one, Nat.add_assoc, Nat.left_eq_add, Nat.add_eq_left]
    · simp +contextual -implicitDefEqProofs (maxSteps := 2000000) only [↓wP, wQ, wQ1, wQ2, wQ3, boxE, List.take_length, partsOf, ↓reduceIte, Nat.reduceEqDiff, Nat.reduceAdd, Nat.reduceSub, Nat.reduceLeDiff, Nat.reduceLT, Nat.reduceMul, Nat.zero_add, Nat.add_zero, Nat.mul_zero, Nat.le_refl, Nat.zero_le, Nat.one_ne_zero, Nat.zero_ne_one, reduceCtorEq, List.map_cons, List.map_nil, List.mapM_cons, List.mapM_nil, List.flatMap_cons, List.flatMap_nil, List.append_nil, List.nil_append, List.cons_append, List.drop_zero, List.drop_succ_cons, List.take_zero, List.take_succ_cons, List.take_nil, List.drop_nil, List.length_cons, List.length_nil, List.getElem?_cons_zero, List.getElem?_cons_succ, List.getElem?_nil, List.set_cons_zero, List.set_cons_succ, List.all_cons, List.all_nil, Option.bind_some, Option.bind_none, Option.map_some, Option.map_none, Option.pure_def, Option.bind_eq_bind, Bool.and_true, Bool.true_and, Bool.and_self, Bool.or_false, Bool.false_or, Bool.and_false, Bool.false_and, Bool.or_true, Bool.true_or, Bool.not_true, Bool.not_false, Bool.not_not, decide_true, decide_false, and_self, and_true, true_and, beq_self_eq_true, beq_true, beq_false, bne_self_eq_false, Int.reduceBNe, Int.reduceBEq, Int.reduceLT, Int.reduceLE, Int.reduceGT, Bool.false_eq_true, Nat.zero_lt_succ, Nat.zero_lt_one, Nat.add_assoc, Nat.left_eq_add, Nat.add_eq_left]
      exact ⟨1, rfl, by simp [upd], by omega⟩

theorem f3 (o : Option (List Ver)) (l : Option (List Int)) (hs : Sm o) (hl : (lst l).length * 8 ≤ 140737488351232) (fs : Bool) (σ : Sto) (n lk : Nat) : callE T fs 3 [slV 3 verV o, slV 1 u64V l] σ n lk = some (.bool true, σ, n) :=
  callE_tr (by decide) (r3 o l hs hl) (by simp [Tr, Tr_slV]) rfl fs σ n lk

end Go.Q.S3
end
