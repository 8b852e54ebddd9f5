/- What comes of chains by what is done: the statement's function. -/
import Derived.Test.YtaigdfomoplchaaSC
import Derived.Test.YtaigdfomoplchaaProg
import Derived.KernelRfl
section
set_option linter.unusedSimpArgs false
set_option linter.unusedVariables false
namespace Go.Q.S3
open Go.Q

theorem r4 (o : Option (List Ver)) (l : Option (List OpV)) (hs : Sm o) (hl : (lst l).length < 9223372036854775808) (hv : ∀ x ∈ lst l, (lst x.v).length < 9223372036854775808) : res T 4 [slV 3 verV o, slV 4 opV l] = some (.bool true) := by
  refine run_res (run_pure (fn := g4) rfl rfl (by decide) ?_)
  simp only [g4, b4]
  have h10 := f10 o hs
  have hm14 : T.mode 14 ≠ .raw := by decide
  have hm15 : T.mode 15 ≠ .raw := by decide
  have hm16 : T.mode 16 ≠ .raw := by decide
  have hm17 : T.mode 17 ≠ .raw := by decide
  simp +contextual -implicitDefEqProofs (maxSteps := 2000000) only [↓wP, wQ, wQ1, wQ2, wQ3, boxE, List.take_length, partsOf, ↓reduceIte, Nat.reduceEqDiff, Nat.reduceAdd, Nat.reduceSub, Nat.reduceLeDiff, Nat.reduceLT, Nat.reduceMul, Nat.zero_add, Nat.add_zero, Nat.mul_zero, Nat.le_refl, Nat.zero_le, Nat.one_ne_zero, Nat.zero_ne_one, reduceCtorEq, List.map_cons, List.map_nil, List.mapM_cons, List.mapM_nil, List.flatMap_cons, List.flatMap_nil, List.append_nil, List.nil_append, List.cons_append, List.drop_zero, List.drop_succ_cons, List.take_zero, List.take_succ_cons, List.take_nil, List.drop_nil, List.length_cons, List.length_nil, List.getElem?_cons_zero, List.getElem?_cons_succ, List.getElem?_nil, List.set_cons_zero, List.set_cons_succ, List.all_cons, List.all_nil, Option.bind_some, Option.bind_none, Option.map_some, Option.map_none, Option.pure_def, Option.bind_eq_bind, Bool.and_true, Bool.true_and, Bool.and_self, Bool.or_false, Bool.false_or, Bool.and_false, Bool.false_and, Bool.or_true, Bool.true_or, Bool.not_true, Bool.not_false, Bool.not_not, decide_true, decide_false, and_self, and_true, true_and, beq_self_eq_true, beq_true, beq_false, bne_self_eq_false, Int.reduceBNe, Int.reduceBEq, Int.reduceLT, Int.reduceLE, Int.reduceGT, Bool.false_eq_true, Nat.zero_lt_succ, Nat.zero_lt_one, Nat.add_assoc, Nat.left_eq_add, Nat.add_eq_left, f9, h10]
  refine WC_for (lst l).length 0 (fun (j : Nat) env σ n => env 21 = slV 4 opV l ∧ ∃ oc, Small oc ∧ Fz σ 12 (env 5) (slV 3 verV oc) (fun i => i < n)) (by omega) (by decide) (by decide) (fun _ _ => rfl) (fun _ _ _ => rfl) ?_ ?_ _ _ _ rfl rfl ?_
  · intro j env σ n hj h1 h2 ⟨h3, oc, hsm, hfz⟩
    simp only [vl_tmp] at h2
    have hx : (lst l)[j]? = some (lst l)[j] := List.getElem?_eq_getElem hj
    have hvx := hv _ (List.getElem_mem hj)
    generalize (lst l)[j] = x at hx hvx
    obtain ⟨k, ts, near, v⟩ := x
    simp only at hvx
    by_cases h40 : (j : Int) = 40
    · have hd : ((j : Int) == 40) = true := by simpa using h40
      simp +contextual -implicitDefEqProofs (maxSteps := 2000000) only [↓wP, wQ, wQ1, wQ2, wQ3, boxE, List.take_length, partsOf, ↓reduceIte, Nat.reduceEqDiff, Nat.reduceAdd, Nat.reduceSub, Nat.reduceLeDiff, Nat.reduceLT, Nat.reduceMul, Nat.zero_add, Nat.add_zero, Nat.mul_zero, Nat.le_refl, Nat.zero_le, Nat.one_ne_zero, Nat.zero_ne_one, reduceCtorEq, List.map_cons, List.map_nil, List.mapM_cons, List.mapM_nil, List.flatMap_cons, List.flatMap_nil, List.append_nil, List.nil_append, List.cons_append, List.drop_zero, List.drop_succ_cons, List.take_zero, List.take_succ_cons, List.take_nil, List.drop_nil, List.length_cons, List.length_nil, List.getElem?_cons_zero, List.getElem?_cons_succ, List.getElem?_nil, List.set_cons_zero, List.set_cons_succ, List.all_cons, List.all_nil, Option.bind_some, Option.bind_none, Option.map_some, Option.map_none, Option.pure_def, Option.bind_eq_bind, Bool.and_true, Bool.true_and, Bool.and_self, Bool.or_false, Bool.false_or, Bool.and_false, Bool.false_and, Bool.or_true, Bool.true_or, Bool.not_true, Bool.not_false, Bool.not_not, decide_true, decide_false, and_self, and_true, true_and, beq_self_eq_true, beq_true, beq_false, bne_self_eq_false, Int.reduceBNe, Int.reduceBEq, Int.reduceLT, Int.reduceLE, Int.reduceGT, Bool.false_eq_true, Nat.zero_lt_succ, Nat.zero_lt_one, Nat.add_assoc, Nat.left_eq_add, Nat.add_eq_left, h1, h2, h3, hx, opV, hd]
    · have hd : ((j : Int) == 40) = false := by simpa using h40
      generalize hv5 : env 5 = v5 at hfz
      have ha := hsm.2.1
      have hcp := cp_id ha
      -- the copy of what was
      have hfz1 : Fz (upd (upd σ n (some (.row 4 [.agg [.int .i64 0, .int .u64 0, .bool false, .nilS]]))) n (some (.row 4 [.agg [.int .i64 k, .int .u64 ts, .bool near, slV 1 i32V v]]))) 12 v5 (slV 3 verV oc) (fun i => i < n) :=
        hfz.loc (fun i hi => by
          have : i ≠ n := by omega
          simp only [upd_get, this, if_false]) (fun _ h => h)
      have hop1 : (upd (upd σ n (some (.row 4 [.agg [.int .i64 0, .int .u64 0, .bool false, .nilS]]))) n (some (.row 4 [.agg [.int .i64 k, .int .u64 ts, .bool near, slV 1 i32V v]]))) n = some (.row 4 [.agg [.int .i64 k, .int .u64 ts, .bool near, slV 1 i32V v]]) := by simp [upd]
      obtain ⟨w1, σ1, n1, t1, t2, t3, t4⟩ := thaw_ownC (upd (upd σ n (some (.row 4 [.agg [.int .i64 0, .int .u64 0, .bool false, .nilS]]))) n (some (.row 4 [.agg [.int .i64 k, .int .u64 ts, .bool near, slV 1 i32V v]]))) (n + 1) (opt ((lst oc).map cpV))
      have hfr1 := hfz1.1
      have h14a := r14 oc hsm.fit
      -- the op is done
      have hfz2 : Fz σ1 12 v5 (slV 3 verV oc) (fun i => i < n) := hfz1.loc (fun i hi => t4 i (by omega)) (fun _ h => h)
      have hfr2 := hfz2.1
      have hop2 : σ1 n = some (.row 4 [.agg [.int .i64 k, .int .u64 ts, .bool near, slV 1 i32V v]]) := by rw [t4 n (by omega), hop1]
      have h15 := r15 k ts near v oc hvx hsm.sm hsm.fit hsm.fit' ha
      obtain ⟨w2, σ2, n2, u1, u2, u3, u4⟩ := thaw_ownC σ1 n1 (runC k ts near v oc)
      obtain ⟨w3, σ3, n3, x1, x2, x3, x4⟩ := thaw_ownC σ2 n2 (runG k ts near oc)
      have hop3 : σ3 n = some (.row 4 [.agg [.int .i64 k, .int .u64 ts, .bool near, slV 1 i32V v]]) := by rw [x4 n (by omega), u4 n (by omega), hop2]
      -- the second copy
      have ew : lst (opt ((lst oc).map cpV)) = lst oc := cpo oc ha
      have hsm1 : Small (opt ((lst oc).map cpV)) := small_congr hsm ew
      have kw3 : Chn σ3 (n + 1) n1 w1 (opt ((lst oc).map cpV)) := t2.loc (fun i hi hi' => by rw [x4 i (by omega), u4 i (by omega)]) (Nat.le_refl _) (Nat.le_refl _)
      have hfw3 := kw3.frz hsm1.2.1 9
      have h14b := r14 (opt ((lst oc).map cpV)) hsm1.fit
      obtain ⟨w4, σ4, n4, y1, y2, y3, y4⟩ := thaw_ownC σ3 n3 (opt ((lst (opt ((lst oc).map cpV))).map cpV))
      have yn := thaw_ownCn σ3 n3 (opt ((lst (opt ((lst oc).map cpV))).map cpV))
      rw [y1] at yn
      have hB := big_le
      have ew2 : lst (opt ((lst (opt ((lst oc).map cpV))).map cpV)) = lst oc := by rw [cpo _ hsm1.2.1, ew]
      have hlb : (n4 ≤ n3 + BIG) = True := by
        simp only [eq_iff_iff, iff_true]
        rw [ew2] at yn
        have := hsm.1
        simp only at yn
        omega
      have hhop : hide σ3 n3 n3 [0] n = σ3 n := hide_low σ3 n3 n3 _ (by omega) (Nat.le_refl _)
      simp +contextual -implicitDefEqProofs (maxSteps := 2000000) only [↓wP, wQ, wQ1, wQ2, wQ3, boxE, List.take_length, partsOf, ↓reduceIte, Nat.reduceEqDiff, Nat.reduceAdd, Nat.reduceSub, Nat.reduceLeDiff, Nat.reduceLT, Nat.reduceMul, Nat.zero_add, Nat.add_zero, Nat.mul_zero, Nat.le_refl, Nat.zero_le, Nat.one_ne_zero, Nat.zero_ne_one, reduceCtorEq, List.map_cons, List.map_nil, List.mapM_cons, List.mapM_nil, List.flatMap_cons, List.flatMap_nil, List.append_nil, List.nil_append, List.cons_append, List.drop_zero, List.drop_succ_cons, List.take_zero, List.take_succ_cons, List.take_nil, List.drop_nil, List.length_cons, List.length_nil, List.getElem?_cons_zero, List.getElem?_cons_succ, List.getElem?_nil, List.set_cons_zero, List.set_cons_succ, List.all_cons, List.all_nil, Option.bind_some, Option.bind_none, Option.map_some, Option.map_none, Option.pure_def, Option.bind_eq_bind, Bool.and_true, Bool.true_and, Bool.and_self, Bool.or_false, Bool.false_or, Bool.and_false, Bool.false_and, Bool.or_true, Bool.true_or, Bool.not_true, Bool.not_false, Bool.not_not, decide_true, decide_false, and_self, and_true, true_and, beq_self_eq_true, beq_true, beq_false, bne_self_eq_false, Int.reduceBNe, Int.reduceBEq, Int.reduceLT, Int.reduceLE, Int.reduceGT, Bool.false_eq_true, Nat.zero_lt_succ, Nat.zero_lt_one, Nat.add_assoc, Nat.left_eq_add, Nat.add_eq_left, h1, h2, h3, hv5, hx, opV, hd, callE_eq hm14, hfr1, h14a, bk_own, t1, hop2, callE_eq hm15, hfr2, h15, bk_trip3, u1, x1, hop3, hhop, hfw3, h14b, y1, hlb]
      -- what the document says
      have hsm2 : Small (opt ((lst (opt ((lst oc).map cpV))).map cpV)) := small_congr hsm ew2
      have kM : Chn (merge σ3 σ4 n3) n3 n4 w4 (opt ((lst (opt ((lst oc).map cpV))).map cpV)) := y2.loc (fun i hi hi' => merge_in σ3 σ4 n3 hi (by simp only [eq_iff_iff, iff_true] at hlb; omega)) (Nat.le_refl _) (Nat.le_refl _)
      have hfw4 := kM.frz hsm2.2.1 9
      have h16 := r16 k ts near v (opt ((lst (opt ((lst oc).map cpV))).map cpV)) hvx hsm2.sm hsm2.fit hsm2.fit'
      obtain ⟨g1, g2, g3⟩ := w_congr k ts near v ew2
      rw [g1, g2, g3] at h16
      obtain ⟨q1, q2, q3⟩ := does_eq k ts near v ha
      have hnw : Nw 12 (.tup [slV 3 verV (wC k ts near v oc), slV 3 verV (wG k ts near oc), .int .i64 (wE k ts near v oc)]) = true := by simp [Nw, Nw_slV]
      obtain ⟨σ5, hb, hσ5⟩ := bk_any hnw (rch (merge σ3 σ4 n3) 12 w4) (merge σ3 σ4 n3) (n3 + BIG * 1)
      have lo5 : ∀ i, i < n3 → σ5 i = σ3 i := fun i hi => by
        rw [hσ5 i (fun hm => by have := (kM.rch 9 i hm).1; omega), merge_low _ _ _ hi]
      have e1 : n + 1 ≤ n1 := t3
      have hfv5 : Fz σ5 12 v5 (slV 3 verV oc) (fun i => i < n) := hfz2.loc (fun i hi => by rw [lo5 i (by omega), x4 i (by omega), u4 i (by omega)]) (fun _ h => h)
      have kw5 : Chn σ5 (n + 1) n1 w1 (opt ((lst oc).map cpV)) := kw3.loc (fun i hi hi' => lo5 i (by omega)) (Nat.le_refl _) (Nat.le_refl _)
      have ka5 : Chn σ5 n1 n2 w2 (runC k ts near v oc) := u2.loc (fun i hi hi' => by rw [lo5 i (by omega), x4 i (by omega)]) (Nat.le_refl _) (Nat.le_refl _)
      have kb5 : Chn σ5 n2 n3 w3 (runG k ts near oc) := x2.loc (fun i hi hi' => lo5 i (by omega)) (Nat.le_refl _) (Nat.le_refl _)
      obtain ⟨ra, rb⟩ := run_all k ts near v (o := oc) ha
      have f5v := hfv5.1
      have f5w := kw5.frz hsm1.2.1 9
      have f5a := ka5.frz ra 9
      have f5b := kb5.frz rb 9
      have h17a := r17 (runC k ts near v oc) (wC k ts near v oc) (run_sm k ts near v hsm)
      have h17b := r17 (runG k ts near oc) (wG k ts near oc) (run_smG k ts near hsm)
      have h17c := r17 oc (opt ((lst oc).map cpV)) hsm.sm
      rw [q2] at h17a
      rw [q3] at h17b
      rw [ew, vers_refl] at h17c
      have hsw := small_w k ts near v hsm
      obtain ⟨w6, σ6, n6, z1, z2, z3, z4⟩ := thaw_ownC σ5 (n3 + BIG * 1) (opt ((lst (wC k ts near v oc)).map cpV))
      have h14c := callE_thaw hm14 (r14 (wC k ts near v oc) hsw.fit) (by simp [Tr, Tr_slV]) true σ5 (n3 + BIG * 1) 0
      rw [z1] at h14c
      rw [q1]
      have hle2 := ka5.len
      have hn5 : n3 ≤ n3 + BIG * 1 := by omega
      simp +contextual -implicitDefEqProofs (maxSteps := 2000000) only [↓wP, wQ, wQ1, wQ2, wQ3, boxE, List.take_length, partsOf, ↓reduceIte, Nat.reduceEqDiff, Nat.reduceAdd, Nat.reduceSub, Nat.reduceLeDiff, Nat.reduceLT, Nat.reduceMul, Nat.zero_add, Nat.add_zero, Nat.mul_zero, Nat.le_refl, Nat.zero_le, Nat.one_ne_zero, Nat.zero_ne_one, reduceCtorEq, List.map_cons, List.map_nil, List.mapM_cons, List.mapM_nil, List.flatMap_cons, List.flatMap_nil, List.append_nil, List.nil_append, List.cons_append, List.drop_zero, List.drop_succ_cons, List.take_zero, List.take_succ_cons, List.take_nil, List.drop_nil, List.length_cons, List.length_nil, List.getElem?_cons_zero, List.getElem?_cons_succ, List.getElem?_nil, List.set_cons_zero, List.set_cons_succ, List.all_cons, List.all_nil, Option.bind_some, Option.bind_none, Option.map_some, Option.map_none, Option.pure_def, Option.bind_eq_bind, Bool.and_true, Bool.true_and, Bool.and_self, Bool.or_false, Bool.false_or, Bool.and_false, Bool.false_and, Bool.or_true, Bool.true_or, Bool.not_true, Bool.not_false, Bool.not_not, decide_true, decide_false, and_self, and_true, true_and, beq_self_eq_true, beq_true, beq_false, bne_self_eq_false, Int.reduceBNe, Int.reduceBEq, Int.reduceLT, Int.reduceLE, Int.reduceGT, Bool.false_eq_true, Nat.zero_lt_succ, Nat.zero_lt_one, Nat.add_assoc, Nat.left_eq_add, Nat.add_eq_left, h1, h2, h3, hv5, callE_eq hm16, hfw4, h16, hb, callE_eq hm17, f5v, f5w, f5a, f5b, h17a, h17b, h17c, h14c, hle2]
      have kf : Fz σ6 12 v5 (slV 3 verV oc) (fun i => i < n) := hfv5.loc (fun i hi => z4 i (by omega)) (fun _ h => h)
      have kg : Chn σ6 (n + 1) n1 w1 (opt ((lst oc).map cpV)) := kw5.loc (fun i hi hi' => z4 i (by omega)) (Nat.le_refl _) (Nat.le_refl _)
      have ka6 : Chn σ6 n1 n2 w2 (runC k ts near v oc) := ka5.loc (fun i hi hi' => z4 i (by omega)) (Nat.le_refl _) (Nat.le_refl _)
      have hsn := hsw.2.1
      have hcpw : lst (opt ((lst (wC k ts near v oc)).map cpV)) = lst (wC k ts near v oc) := cpo _ hsn
      have hsm6 : Small (opt ((lst (wC k ts near v oc)).map cpV)) := small_congr hsw hcpw
      have hrs := (run_sm k ts near v hsm).1
      have hrs2 := (run_sm k ts near v hsm).2
      generalize runC k ts near v oc = oR at *
      generalize wE k ts near v oc = ee at *
      refine WC_for (lst oR).length 0 (fun (q : Nat) env σ nn => env 5 = v5 ∧ env 8 = w1 ∧ env 9 = w2 ∧ env 11 = .int .i64 ee ∧ env 12 = w6 ∧ env 21 = slV 4 opV l ∧ env 23 = .int .i64 (j : Int) ∧ env 22 = .int .i64 ((lst l).length : Int) ∧ nn = n6 ∧
          (∀ i, ¬ (n1 ≤ i ∧ i < n2) → σ i = σ6 i) ∧ ∀ L, oR = some L → ∃ id ids, w2 = .ref id 0 L.length 3 ∧ (∀ i ∈ id :: ids, n1 ≤ i ∧ i < n2) ∧ Shp σ id L ids) (by omega) (by decide) (by decide) (fun _ _ => rfl) (fun _ _ _ => rfl) ?_ ?_ _ _ _ rfl rfl ?_
      · intro q env σ nn hq k1 k2 ⟨p1, p2, p3, p4, p5, p6, p7, p8, p9, p10, p11⟩
        simp only [vl_tmp] at k2
        subst p9
        cases oR with
        | none => simp [lst] at hq
        | some L =>
          obtain ⟨id, ids, rfl, r1, r2⟩ := p11 L rfl
          rw [lst_some] at hq k2
          have hqi : q < ids.length := by rw [r2.len]; exact hq
          obtain ⟨rows, m1, m2, m3⟩ := r2.row
          obtain ⟨bb, eb, hrow⟩ := m3 q L[q] ids[q] (List.getElem?_eq_getElem hq) (List.getElem?_eq_getElem hqi)
          have hql : q < rows.length := by omega
          have r3 := r2.set1 (c := .int .u64 77) m1 hrow
          have hset : (rows.set q (.agg [bb, .int .u64 77, .ref ids[q] 0 (lst L[q].v).length 1]))[q]? = some (.agg [bb, .int .u64 77, .ref ids[q] 0 (lst L[q].v).length 1]) := List.getElem?_set_self hql
          simp +contextual -implicitDefEqProofs (maxSteps := 2000000) only [↓wP, wQ, wQ1, wQ2, wQ3, boxE, List.take_length, partsOf, ↓reduceIte, Nat.reduceEqDiff, Nat.reduceAdd, Nat.reduceSub, Nat.reduceLeDiff, Nat.reduceLT, Nat.reduceMul, Nat.zero_add, Nat.add_zero, Nat.mul_zero, Nat.le_refl, Nat.zero_le, Nat.one_ne_zero, Nat.zero_ne_one, reduceCtorEq, List.map_cons, List.map_nil, List.mapM_cons, List.mapM_nil, List.flatMap_cons, List.flatMap_nil, List.append_nil, List.nil_append, List.cons_append, List.drop_zero, List.drop_succ_cons, List.take_zero, List.take_succ_cons, List.take_nil, List.drop_nil, List.length_cons, List.length_nil, List.getElem?_cons_zero, List.getElem?_cons_succ, List.getElem?_nil, List.set_cons_zero, List.set_cons_succ, List.all_cons, List.all_nil, Option.bind_some, Option.bind_none, Option.map_some, Option.map_none, Option.pure_def, Option.bind_eq_bind, Bool.and_true, Bool.true_and, Bool.and_self, Bool.or_false, Bool.false_or, Bool.and_false, Bool.false_and, Bool.or_true, Bool.true_or, Bool.not_true, Bool.not_false, Bool.not_not, decide_true, decide_false, and_self, and_true, true_and, beq_self_eq_true, beq_true, beq_false, bne_self_eq_false, Int.reduceBNe, Int.reduceBEq, Int.reduceLT, Int.reduceLE, Int.reduceGT, Bool.false_eq_true, Nat.zero_lt_succ, Nat.zero_lt_one, Nat.add_assoc, Nat.left_eq_add, Nat.add_eq_left, k1, k2, p1, p2, p3, p4, p5, p6, p7, p8, hq, m1, hrow, hset]
          have hlv : (lst L[q].v).length < 9223372036854775808 := hrs2 L[q] (List.getElem_mem hq)
          refine WC_for (lst L[q].v).length 0 (fun (p : Nat) env σ nn' => env 5 = v5 ∧ env 8 = w1 ∧ env 9 = .ref id 0 L.length 3 ∧ env 11 = .int .i64 ee ∧ env 12 = w6 ∧ env 21 = slV 4 opV l ∧ env 23 = .int .i64 (j : Int) ∧ env 22 = .int .i64 ((lst l).length : Int) ∧
              env 72 = .int .i64 (q : Int) ∧ env 71 = .int .i64 (L.length : Int) ∧ env 15 = .int .i64 (q : Int) ∧ nn' = nn ∧ (∀ i, ¬ (n1 ≤ i ∧ i < n2) → σ i = σ6 i) ∧ Shp σ id L ids) hlv (by decide) (by decide) (fun _ _ => rfl) (fun _ _ _ => rfl) ?_ ?_ _ _ _ rfl rfl ?_
          · clear k1 k2 p1 p2 p3 p4 p5 p6 p7 p8 p10 p11 r2 m1 m2 m3 hrow hql r3 hset
            intro p env σ nn' hp k1 k2 ⟨p1, p2, p3, p4, p5, p6, p7, p8, p9, p10, p11, p12, p13, r2⟩
            simp only [vl_tmp] at k2
            subst p12
            obtain ⟨rows, m1, m2, m3⟩ := r2.row
            obtain ⟨bb, eb, hrow⟩ := m3 q L[q] ids[q] (List.getElem?_eq_getElem hq) (List.getElem?_eq_getElem hqi)
            obtain ⟨ys, s1, s2, s3⟩ := r2.vec q L[q] ids[q] (List.getElem?_eq_getElem hq) (List.getElem?_eq_getElem hqi)
            have hpy : p < ys.length := by omega
            obtain ⟨t, ht⟩ := s3 _ (List.getElem_mem hpy)
            have hyp : ys[p]? = some (.int .i32 t) := by rw [List.getElem?_eq_getElem hpy, ht]
            simp +contextual -implicitDefEqProofs (maxSteps := 2000000) only [↓wP, wQ, wQ1, wQ2, wQ3, boxE, List.take_length, partsOf, ↓reduceIte, Nat.reduceEqDiff, Nat.reduceAdd, Nat.reduceSub, Nat.reduceLeDiff, Nat.reduceLT, Nat.reduceMul, Nat.zero_add, Nat.add_zero, Nat.mul_zero, Nat.le_refl, Nat.zero_le, Nat.one_ne_zero, Nat.zero_ne_one, reduceCtorEq, List.map_cons, List.map_nil, List.mapM_cons, List.mapM_nil, List.flatMap_cons, List.flatMap_nil, List.append_nil, List.nil_append, List.cons_append, List.drop_zero, List.drop_succ_cons, List.take_zero, List.take_succ_cons, List.take_nil, List.drop_nil, List.length_cons, List.length_nil, List.getElem?_cons_zero, List.getElem?_cons_succ, List.getElem?_nil, List.set_cons_zero, List.set_cons_succ, List.all_cons, List.all_nil, Option.bind_some, Option.bind_none, Option.map_some, Option.map_none, Option.pure_def, Option.bind_eq_bind, Bool.and_true, Bool.true_and, Bool.and_self, Bool.or_false, Bool.false_or, Bool.and_false, Bool.false_and, Bool.or_true, Bool.true_or, Bool.not_true, Bool.not_false, Bool.not_not, decide_true, decide_false, and_self, and_true, true_and, beq_self_eq_true, beq_true, beq_false, bne_self_eq_false, Int.reduceBNe, Int.reduceBEq, Int.reduceLT, Int.reduceLE, Int.reduceGT, Bool.false_eq_true, Nat.zero_lt_succ, Nat.zero_lt_one, Nat.add_assoc, Nat.left_eq_add, Nat.add_eq_left, k1, k2, p1, p2, p3, p4, p5, p6, p7, p8, p9, p10, p11, hq, m1, hrow, hp, s1, hyp, bin_xor]
            refine ⟨fun i hi => ?_, r2.set2 (List.getElem?_eq_getElem hqi) s1⟩
            have : i ≠ ids[q] := fun e => hi (by rw [e]; exact r1 _ (List.mem_cons_of_mem _ (List.getElem_mem hqi)))
            simp only [upd_get, this, if_false]
            exact p13 i hi
          · clear k1 k2 p1 p2 p3 p4 p5 p6 p7 p8 p10 p11 r2 m1 m2 m3 hrow hql r3 hset
            intro env σ nn' ⟨p1, p2, p3, p4, p5, p6, p7, p8, p9, p10, p11, p12, p13, r2⟩ k1 k2
            subst p12
            simp +contextual -implicitDefEqProofs (maxSteps := 2000000) only [↓wP, wQ, wQ1, wQ2, wQ3, boxE, List.take_length, partsOf, ↓reduceIte, Nat.reduceEqDiff, Nat.reduceAdd, Nat.reduceSub, Nat.reduceLeDiff, Nat.reduceLT, Nat.reduceMul, Nat.zero_add, Nat.add_zero, Nat.mul_zero, Nat.le_refl, Nat.zero_le, Nat.one_ne_zero, Nat.zero_ne_one, reduceCtorEq, List.map_cons, List.map_nil, List.mapM_cons, List.mapM_nil, List.flatMap_cons, List.flatMap_nil, List.append_nil, List.nil_append, List.cons_append, List.drop_zero, List.drop_succ_cons, List.take_zero, List.take_succ_cons, List.take_nil, List.drop_nil, List.length_cons, List.length_nil, List.getElem?_cons_zero, List.getElem?_cons_succ, List.getElem?_nil, List.set_cons_zero, List.set_cons_succ, List.all_cons, List.all_nil, Option.bind_some, Option.bind_none, Option.map_some, Option.map_none, Option.pure_def, Option.bind_eq_bind, Bool.and_true, Bool.true_and, Bool.and_self, Bool.or_false, Bool.false_or, Bool.and_false, Bool.false_and, Bool.or_true, Bool.true_or, Bool.not_true, Bool.not_false, Bool.not_not, decide_true, decide_false, and_self, and_true, true_and, beq_self_eq_true, beq_true, beq_false, bne_self_eq_false, Int.reduceBNe, Int.reduceBEq, Int.reduceLT, Int.reduceLE, Int.reduceGT, Bool.false_eq_true, Nat.zero_lt_succ, Nat.zero_lt_one, Nat.add_assoc, Nat.left_eq_add, Nat.add_eq_left, p1, p2, p3, p4, p5, p6, p7, p8, p9, p10]
            refine ⟨rfl, p13, fun L' hL' => ?_⟩
            cases hL'
            exact ⟨id, ids, rfl, r1, r2⟩
          · simp +contextual -implicitDefEqProofs (maxSteps := 2000000) only [↓wP, wQ, wQ1, wQ2, wQ3, boxE, List.take_length, partsOf, ↓reduceIte, Nat.reduceEqDiff, Nat.reduceAdd, Nat.reduceSub, Nat.reduceLeDiff, Nat.reduceLT, Nat.reduceMul, Nat.zero_add, Nat.add_zero, Nat.mul_zero, Nat.le_refl, Nat.zero_le, Nat.one_ne_zero, Nat.zero_ne_one, reduceCtorEq, List.map_cons, List.map_nil, List.mapM_cons, List.mapM_nil, List.flatMap_cons, List.flatMap_nil, List.append_nil, List.nil_append, List.cons_append, List.drop_zero, List.drop_succ_cons, List.take_zero, List.take_succ_cons, List.take_nil, List.drop_nil, List.length_cons, List.length_nil, List.getElem?_cons_zero, List.getElem?_cons_succ, List.getElem?_nil, List.set_cons_zero, List.set_cons_succ, List.all_cons, List.all_nil, Option.bind_some, Option.bind_none, Option.map_some, Option.map_none, Option.pure_def, Option.bind_eq_bind, Bool.and_true, Bool.true_and, Bool.and_self, Bool.or_false, Bool.false_or, Bool.and_false, Bool.false_and, Bool.or_true, Bool.true_or, Bool.not_true, Bool.not_false, Bool.not_not, decide_true, decide_false, and_self, and_true, true_and, beq_self_eq_true, beq_true, beq_false, bne_self_eq_false, Int.reduceBNe, Int.reduceBEq, Int.reduceLT, Int.reduceLE, Int.reduceGT, Bool.false_eq_true, Nat.zero_lt_succ, Nat.zero_lt_one, Nat.add_assoc, Nat.left_eq_add, Nat.add_eq_left, k1, k2, p1, p2, p3, p4, p5, p6, p7, p8]
            refine ⟨fun i hi => ?_, r3⟩
            have : i ≠ id := fun e => hi (by rw [e]; exact r1 _ (by simp))
            simp only [upd_get, this, if_false]
            exact p10 i hi
      · clear h1 h2 h3 hv5
        intro env σ nn ⟨p1, p2, p3, p4, p5, p6, p7, p8, p9, p10, p11⟩ k1 k2
        subst p9
        have kf7 : Fz σ 12 v5 (slV 3 verV oc) (fun i => i < n) := kf.loc (fun i hi => p10 i (by omega)) (fun _ h => h)
        have kg7 : Chn σ (n + 1) n1 w1 (opt ((lst oc).map cpV)) := kg.loc (fun i hi hi' => p10 i (by omega)) (Nat.le_refl _) (Nat.le_refl _)
        have kz7 : Chn σ (n3 + BIG * 1) nn w6 (opt ((lst (wC k ts near v oc)).map cpV)) := z2.loc (fun i hi hi' => p10 i (by omega)) (Nat.le_refl _) (Nat.le_refl _)
        have f7v := kf7.1
        have f7w := kg7.frz hsm1.2.1 9
        simp +contextual -implicitDefEqProofs (maxSteps := 2000000) only [↓wP, wQ, wQ1, wQ2, wQ3, boxE, List.take_length, partsOf, ↓reduceIte, Nat.reduceEqDiff, Nat.reduceAdd, Nat.reduceSub, Nat.reduceLeDiff, Nat.reduceLT, Nat.reduceMul, Nat.zero_add, Nat.add_zero, Nat.mul_zero, Nat.le_refl, Nat.zero_le, Nat.one_ne_zero, Nat.zero_ne_one, reduceCtorEq, List.map_cons, List.map_nil, List.mapM_cons, List.mapM_nil, List.flatMap_cons, List.flatMap_nil, List.append_nil, List.nil_append, List.cons_append, List.drop_zero, List.drop_succ_cons, List.take_zero, List.take_succ_cons, List.take_nil, List.drop_nil, List.length_cons, List.length_nil, List.getElem?_cons_zero, List.getElem?_cons_succ, List.getElem?_nil, List.set_cons_zero, List.set_cons_succ, List.all_cons, List.all_nil, Option.bind_some, Option.bind_none, Option.map_some, Option.map_none, Option.pure_def, Option.bind_eq_bind, Bool.and_true, Bool.true_and, Bool.and_self, Bool.or_false, Bool.false_or, Bool.and_false, Bool.false_and, Bool.or_true, Bool.true_or, Bool.not_true, Bool.not_false, Bool.not_not, decide_true, decide_false, and_self, and_true, true_and, beq_self_eq_true, beq_true, beq_false, bne_self_eq_false, Int.reduceBNe, Int.reduceBEq, Int.reduceLT, Int.reduceLE, Int.reduceGT, Bool.false_eq_true, Nat.zero_lt_succ, Nat.zero_lt_one, Nat.add_assoc, Nat.left_eq_add, Nat.add_eq_left, p1, p2, p3, p4, p5, p6, p7, p8, callE_eq hm17, f7v, f7w, h17c]
        refine condC_split (fun hb => ?_) (fun hb => ?_)
        · simp +contextual -implicitDefEqProofs (maxSteps := 2000000) only [↓wP, wQ, wQ1, wQ2, wQ3, boxE, List.take_length, partsOf, ↓reduceIte, Nat.reduceEqDiff, Nat.reduceAdd, Nat.reduceSub, Nat.reduceLeDiff, Nat.reduceLT, Nat.reduceMul, Nat.zero_add, Nat.add_zero, Nat.mul_zero, Nat.le_refl, Nat.zero_le, Nat.one_ne_zero, Nat.zero_ne_one, reduceCtorEq, List.map_cons, List.map_nil, List.mapM_cons, List.mapM_nil, List.flatMap_cons, List.flatMap_nil, List.append_nil, List.nil_append, List.cons_append, List.drop_zero, List.drop_succ_cons, List.take_zero, List.take_succ_cons, List.take_nil, List.drop_nil, List.length_cons, List.length_nil, List.getElem?_cons_zero, List.getElem?_cons_succ, List.getElem?_nil, List.set_cons_zero, List.set_cons_succ, List.all_cons, List.all_nil, Option.bind_some, Option.bind_none, Option.map_some, Option.map_none, Option.pure_def, Option.bind_eq_bind, Bool.and_true, Bool.true_and, Bool.and_self, Bool.or_false, Bool.false_or, Bool.and_false, Bool.false_and, Bool.or_true, Bool.true_or, Bool.not_true, Bool.not_false, Bool.not_not, decide_true, decide_false, and_self, and_true, true_and, beq_self_eq_true, beq_true, beq_false, bne_self_eq_false, Int.reduceBNe, Int.reduceBEq, Int.reduceLT, Int.reduceLE, Int.reduceGT, Bool.false_eq_true, Nat.zero_lt_succ, Nat.zero_lt_one, Nat.add_assoc, Nat.left_eq_add, Nat.add_eq_left, p5, p6, p7, p8]
          exact ⟨_, hsm6, kz7.fz hsm6.2.1 (Nat.le_refl _)⟩
        · simp +contextual -implicitDefEqProofs (maxSteps := 2000000) only [↓wP, wQ, wQ1, wQ2, wQ3, boxE, List.take_length, partsOf, ↓reduceIte, Nat.reduceEqDiff, Nat.reduceAdd, Nat.reduceSub, Nat.reduceLeDiff, Nat.reduceLT, Nat.reduceMul, Nat.zero_add, Nat.add_zero, Nat.mul_zero, Nat.le_refl, Nat.zero_le, Nat.one_ne_zero, Nat.zero_ne_one, reduceCtorEq, List.map_cons, List.map_nil, List.mapM_cons, List.mapM_nil, List.flatMap_cons, List.flatMap_nil, List.append_nil, List.nil_append, List.cons_append, List.drop_zero, List.drop_succ_cons, List.take_zero, List.take_succ_cons, List.take_nil, List.drop_nil, List.length_cons, List.length_nil, List.getElem?_cons_zero, List.getElem?_cons_succ, List.getElem?_nil, List.set_cons_zero, List.set_cons_succ, List.all_cons, List.all_nil, Option.bind_some, Option.bind_none, Option.map_some, Option.map_none, Option.pure_def, Option.bind_eq_bind, Bool.and_true, Bool.true_and, Bool.and_self, Bool.or_false, Bool.false_or, Bool.and_false, Bool.false_and, Bool.or_true, Bool.true_or, Bool.not_true, Bool.not_false, Bool.not_not, decide_true, decide_false, and_self, and_true, true_and, beq_self_eq_true, beq_true, beq_false, bne_self_eq_false, Int.reduceBNe, Int.reduceBEq, Int.reduceLT, Int.reduceLE, Int.reduceGT, Bool.false_eq_true, Nat.zero_lt_succ, Nat.zero_lt_one, Nat.add_assoc, Nat.left_eq_add, Nat.add_eq_left, p1, p6, p7, p8]
          exact ⟨oc, hsm, kf7.loc (fun _ _ => rfl) (fun i hi => by omega)⟩
      · simp +contextual -implicitDefEqProofs (maxSteps := 2000000) only [↓wP, wQ, wQ1, wQ2, wQ3, boxE, List.take_length, partsOf, ↓reduceIte, Nat.reduceEqDiff, Nat.reduceAdd, Nat.reduceSub, Nat.reduceLeDiff, Nat.reduceLT, Nat.reduceMul, Nat.zero_add, Nat.add_zero, Nat.mul_zero, Nat.le_refl, Nat.zero_le, Nat.one_ne_zero, Nat.zero_ne_one, reduceCtorEq, List.map_cons, List.map_nil, List.mapM_cons, List.mapM_nil, List.flatMap_cons, List.flatMap_nil, List.append_nil, List.nil_append, List.cons_append, List.drop_zero, List.drop_succ_cons, List.take_zero, List.take_succ_cons, List.take_nil, List.drop_nil, List.length_cons, List.length_nil, List.getElem?_cons_zero, List.getElem?_cons_succ, List.getElem?_nil, List.set_cons_zero, List.set_cons_succ, List.all_cons, List.all_nil, Option.bind_some, Option.bind_none, Option.map_some, Option.map_none, Option.pure_def, Option.bind_eq_bind, Bool.and_true, Bool.true_and, Bool.and_self, Bool.or_false, Bool.false_or, Bool.and_false, Bool.false_and, Bool.or_true, Bool.true_or, Bool.not_true, Bool.not_false, Bool.not_not, decide_true, decide_false, and_self, and_true, true_and, beq_self_eq_true, beq_true, beq_false, bne_self_eq_false, Int.reduceBNe, Int.reduceBEq, Int.reduceLT, Int.reduceLE, Int.reduceGT, Bool.false_eq_true, Nat.zero_lt_succ, Nat.zero_lt_one, Nat.add_assoc, Nat.left_eq_add, Nat.add_eq_left, h1, h2, h3, hv5]
        refine ⟨fun _ _ => trivial, fun L hL => ?_⟩
        subst hL
        exact ka6.shp
  · intro env σ n ⟨h3, oc, hsm, hfz⟩ h1 h2
    simp +contextual -implicitDefEqProofs (maxSteps := 2000000) only [↓wP, wQ, wQ1, wQ2, wQ3, boxE, List.take_length, partsOf, ↓reduceIte, Nat.reduceEqDiff, Nat.reduceAdd, Nat.reduceSub, Nat.reduceLeDiff, Nat.reduceLT, Nat.reduceMul, Nat.zero_add, Nat.add_zero, Nat.mul_zero, Nat.le_refl, Nat.zero_le, Nat.one_ne_zero, Nat.zero_ne_one, reduceCtorEq, List.map_cons, List.map_nil, List.mapM_cons, List.mapM_nil, List.flatMap_cons, List.flatMap_nil, List.append_nil, List.nil_append, List.cons_append, List.drop_zero, List.drop_succ_cons, List.take_zero, List.take_succ_cons, List.take_nil, List.drop_nil, List.length_cons, List.length_nil, List.getElem?_cons_zero, List.getElem?_cons_succ, List.getElem?_nil, List.set_cons_zero, List.set_cons_succ, List.all_cons, List.all_nil, Option.bind_some, Option.bind_none, Option.map_some, Option.map_none, Option.pure_def, Option.bind_eq_bind, Bool.and_true, Bool.true_and, Bool.and_self, Bool.or_false, Bool.false_or, Bool.and_false, Bool.false_and, Bool.or_true, Bool.true_or, Bool.not_true, Bool.not_false, Bool.not_not, decide_true, decide_false, and_self, and_true, true_and, beq_self_eq_true, beq_true, beq_false, bne_self_eq_false, Int.reduceBNe, Int.reduceBEq, Int.reduceLT, Int.reduceLE, Int.reduceGT, Bool.false_eq_true, Nat.zero_lt_succ, Nat.zero_lt_one, Nat.add_assoc, Nat.left_eq_add, Nat.add_eq_left]
  · refine ⟨rfl, fewO o, small_few o, ?_⟩
    exact Fz.tree (Tr_slV _ _ _ 11)

end Go.Q.S3
end

section
/- The table is the program's. -/
namespace Go.Q.S3
open Go.Proofs
def Has (f : Nat) (fn : Fn) : Prop := ∃ F, Try.prog.funcs[f]? = some F ∧ cFunc Try.prog (ownB T) F = some fn ∧ (F.name == "runtime.NumGoroutine") = false
theorem h3 : Has 3 g3 := ⟨Try.f3, Try.func3, by kernel_rfl, by kernel_rfl⟩
theorem h4 : Has 4 g4 := ⟨Try.f4, Try.func4, by kernel_rfl, by kernel_rfl⟩
theorem h5 : Has 5 g5 := ⟨Try.f5, Try.func5, by kernel_rfl, by kernel_rfl⟩
theorem h6 : Has 6 g6 := ⟨Try.f6, Try.func6, by kernel_rfl, by kernel_rfl⟩
theorem h7 : Has 7 g7 := ⟨Try.f7, Try.func7, by kernel_rfl, by kernel_rfl⟩
theorem h8 : Has 8 g8 := ⟨Try.f8, Try.func8, by kernel_rfl, by kernel_rfl⟩
theorem h9 : Has 9 g9 := ⟨Try.f9, Try.func9, by kernel_rfl, by kernel_rfl⟩
theorem h10 : Has 10 g10 := ⟨Try.f10, Try.func10, by kernel_rfl, by kernel_rfl⟩
theorem h11 : Has 11 g11 := ⟨Try.f11, Try.func11, by kernel_rfl, by kernel_rfl⟩
theorem h12 : Has 12 g12 := ⟨Try.f12, Try.func12, by kernel_rfl, by kernel_rfl⟩
theorem h13 : Has 13 g13 := ⟨Try.f13, Try.func13, by kernel_rfl, by kernel_rfl⟩
theorem h14 : Has 14 g14 := ⟨Try.f14, Try.func14, by kernel_rfl, by kernel_rfl⟩
theorem h15 : Has 15 g15 := ⟨Try.f15, Try.func15, by kernel_rfl, by kernel_rfl⟩
theorem h16 : Has 16 g16 := ⟨Try.f16, Try.func16, by kernel_rfl, by kernel_rfl⟩
theorem h17 : Has 17 g17 := ⟨Try.f17, Try.func17, by kernel_rfl, by kernel_rfl⟩
theorem h18 : Has 18 g18 := ⟨Try.f18, Try.func18, by kernel_rfl, by kernel_rfl⟩
theorem h19 : Has 19 g19 := ⟨Try.f19, Try.func19, by kernel_rfl, by kernel_rfl⟩
theorem h20 : Has 20 g20 := ⟨Try.f20, Try.func20, by kernel_rfl, by kernel_rfl⟩
theorem h21 : Has 21 g21 := ⟨Try.f21, Try.func21, by kernel_rfl, by kernel_rfl⟩
theorem h22 : Has 22 g22 := ⟨Try.f22, Try.func22, by kernel_rfl, by kernel_rfl⟩
theorem h23 : Has 23 g23 := ⟨Try.f23, Try.func23, by kernel_rfl, by kernel_rfl⟩
theorem h24 : Has 24 g24 := ⟨Try.f24, Try.func24, by kernel_rfl, by kernel_rfl⟩
theorem h25 : Has 25 g25 := ⟨Try.f25, Try.func25, by kernel_rfl, by kernel_rfl⟩
theorem h26 : Has 26 g26 := ⟨Try.f26, Try.func26, by kernel_rfl, by kernel_rfl⟩
theorem h27 : Has 27 g27 := ⟨Try.f27, Try.func27, by kernel_rfl, by kernel_rfl⟩
theorem h28 : Has 28 g28 := ⟨Try.f28, Try.func28, by kernel_rfl, by kernel_rfl⟩
theorem h29 : Has 29 g29 := ⟨Try.f29, Try.func29, by kernel_rfl, by kernel_rfl⟩
theorem h30 : Has 30 g30 := ⟨Try.f30, Try.func30, by kernel_rfl, by kernel_rfl⟩
theorem h31 : Has 31 g31 := ⟨Try.f31, Try.func31, by kernel_rfl, by kernel_rfl⟩
theorem h32 : Has 32 g32 := ⟨Try.f32, Try.func32, by kernel_rfl, by kernel_rfl⟩
theorem h33 : Has 33 g33 := ⟨Try.f33, Try.func33, by kernel_rfl, by kernel_rfl⟩
theorem h34 : Has 34 g34 := ⟨Try.f34, Try.func34, by kernel_rfl, by kernel_rfl⟩
theorem h35 : Has 35 g35 := ⟨Try.f35, Try.func35, by kernel_rfl, by kernel_rfl⟩
theorem h36 : Has 36 g36 := ⟨Try.f36, Try.func36, by kernel_rfl, by kernel_rfl⟩
theorem h37 : Has 37 g37 := ⟨Try.f37, Try.func37, by kernel_rfl, by kernel_rfl⟩
theorem h38 : Has 38 g38 := ⟨Try.f38, Try.func38, by kernel_rfl, by kernel_rfl⟩
theorem h39 : Has 39 g39 := ⟨Try.f39, Try.func39, by kernel_rfl, by kernel_rfl⟩
theorem h40 : Has 40 g40 := ⟨Try.f40, Try.func40, by kernel_rfl, by kernel_rfl⟩
theorem h41 : Has 41 g41 := ⟨Try.f41, Try.func41, by kernel_rfl, by kernel_rfl⟩
theorem h42 : Has 42 g42 := ⟨Try.f42, Try.func42, by kernel_rfl, by kernel_rfl⟩
theorem h43 : Has 43 g43 := ⟨Try.f43, Try.func43, by kernel_rfl, by kernel_rfl⟩
theorem h44 : Has 44 g44 := ⟨Try.f44, Try.func44, by kernel_rfl, by kernel_rfl⟩
theorem h45 : Has 45 g45 := ⟨Try.f45, Try.func45, by kernel_rfl, by kernel_rfl⟩
theorem h46 : Has 46 g46 := ⟨Try.f46, Try.func46, by kernel_rfl, by kernel_rfl⟩
theorem h47 : Has 47 g47 := ⟨Try.f47, Try.func47, by kernel_rfl, by kernel_rfl⟩
theorem h48 : Has 48 g48 := ⟨Try.f48, Try.func48, by kernel_rfl, by kernel_rfl⟩
theorem h49 : Has 49 g49 := ⟨Try.f49, Try.func49, by kernel_rfl, by kernel_rfl⟩
theorem h50 : Has 50 g50 := ⟨Try.f50, Try.func50, by kernel_rfl, by kernel_rfl⟩
theorem h51 : Has 51 g51 := ⟨Try.f51, Try.func51, by kernel_rfl, by kernel_rfl⟩
theorem h52 : Has 52 g52 := ⟨Try.f52, Try.func52, by kernel_rfl, by kernel_rfl⟩
theorem h53 : Has 53 g53 := ⟨Try.f53, Try.func53, by kernel_rfl, by kernel_rfl⟩
theorem h54 : Has 54 g54 := ⟨Try.f54, Try.func54, by kernel_rfl, by kernel_rfl⟩
theorem h55 : Has 55 g55 := ⟨Try.f55, Try.func55, by kernel_rfl, by kernel_rfl⟩
theorem h56 : Has 56 g56 := ⟨Try.f56, Try.func56, by kernel_rfl, by kernel_rfl⟩
theorem h57 : Has 57 g57 := ⟨Try.f57, Try.func57, by kernel_rfl, by kernel_rfl⟩
theorem h58 : Has 58 g58 := ⟨Try.f58, Try.func58, by kernel_rfl, by kernel_rfl⟩
theorem h59 : Has 59 g59 := ⟨Try.f59, Try.func59, by kernel_rfl, by kernel_rfl⟩
theorem h60 : Has 60 g60 := ⟨Try.f60, Try.func60, by kernel_rfl, by kernel_rfl⟩
theorem tabOf : TabOf Try.prog T := by
  intro f fn h
  simp only [T] at h
  unfold fnOf at h
  split at h
  all_goals first | (cases h; done) | skip
  all_goals (simp only [Option.some.injEq] at h; subst h)
  · exact h3
  · exact h4
  · exact h5
  · exact h6
  · exact h7
  · exact h8
  · exact h9
  · exact h10
  · exact h11
  · exact h12
  · exact h13
  · exact h14
  · exact h15
  · exact h16
  · exact h17
  · exact h18
  · exact h19
  · exact h20
  · exact h21
  · exact h22
  · exact h23
  · exact h24
  · exact h25
  · exact h26
  · exact h27
  · exact h28
  · exact h29
  · exact h30
  · exact h31
  · exact h32
  · exact h33
  · exact h34
  · exact h35
  · exact h36
  · exact h37
  · exact h38
  · exact h39
  · exact h40
  · exact h41
  · exact h42
  · exact h43
  · exact h44
  · exact h45
  · exact h46
  · exact h47
  · exact h48
  · exact h49
  · exact h50
  · exact h51
  · exact h52
  · exact h53
  · exact h54
  · exact h55
  · exact h56
  · exact h57
  · exact h58
  · exact h59
  · exact h60
theorem mixed : Try.prog.follows .mixedOrders = true := by kernel_rfl
end Go.Q.S3
end
