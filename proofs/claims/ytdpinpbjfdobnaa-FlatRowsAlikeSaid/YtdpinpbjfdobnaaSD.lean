/- Found both ways. -/
import Derived.Test.YtdpinpbjfdobnaaSC
import Derived.Test.YtdpinpbjfdobnaaProg
import Derived.KernelRfl
section
set_option linter.unusedSimpArgs false
set_option linter.unusedVariables false
namespace Go.Q.S11
open Go.Q Go.Sort

theorem fnd_it {q : Option (List Int)} {k : Nat} {l : List Rw} : fndB q l = l.all (sameD q) ∧ fndL q k l = itL q k l := by
  have h1 : fndB q l = l.all (sameD q) := by
    unfold fndB sameD
    congr 1
    funext r
    exact decide_eq_decide.2 ⟨Eq.symm, Eq.symm⟩
  refine ⟨h1, ?_⟩
  unfold fndL itL
  rw [h1]
  split
  · rename_i h
    congr 1
    refine List.map_congr_left (fun r hr => ?_)
    have := List.all_eq_true.1 h r hr
    simp only [sameD, decide_eq_true_eq] at this
    simp [hitR, hitQ, distI_comm this]
  · rfl

theorem f15 (o : Option (List Rw)) (q : Option (List Int)) (k : Nat) (hk : 1 ≤ k) (hk' : k ≤ 16) (hq : okV q = true) (ho : ∀ r ∈ lst o, okV r.v = true) (hl : (lst o).length < 1000000) (fs : Bool) (σ : Sto) (n lk : Nat) :
    callE T fs 15 [slV 2 rwV o, .agg [slV 1 i32V q, .int .i64 (k : Int)]] σ n lk = some (.tup [slV 2 hitV (optH (fndL q k (lst o))), .bool (fndB q (lst o))], σ, n) :=
  callE_tr (by decide) (r15 o q k hk hk' hq ho hl) (by simp [Tr, Tr_slV]) (Nw_tup2 (Nw_slV 2 hitV _ 10) rfl) fs σ n lk

theorem itL_len (q : Option (List Int)) (k : Nat) (l : List Rw) : (itL q k l).length ≤ k := by
  unfold itL
  split
  · rw [fst_len]; omega
  · simp

end Go.Q.S11
end

section
/- FlatRowsAlike. -/
set_option linter.unusedSimpArgs false
set_option linter.unusedVariables false
namespace Go.Q.S11
open Go.Q Go.Sort

/-- Two rows under way, of rows and of cells. -/
def TS (σ : Sto) (n : Nat) (v w : V) (C : List Cel) : Prop := (C = [] ∧ v = .nilS ∧ w = .nilS) ∨
  ∃ i k, v = .ref i 0 C.length 2 ∧ w = .ref k 0 C.length 5 ∧ C ≠ [] ∧ σ i = some (.row 2 ((C.map rowC).map rwV)) ∧ σ k = some (.row 5 (C.map celV)) ∧ 3 ≤ i ∧ i < n ∧ 3 ≤ k ∧ k < n ∧ i ≠ k

theorem TS.loc {σ σ' : Sto} {n n' : Nat} {v w : V} {C : List Cel} (h : TS σ n v w C) (hn : n ≤ n') (hs : ∀ i, 3 ≤ i → i < n → σ' i = σ i) : TS σ' n' v w C := by
  rcases h with h | ⟨i, k, h1, h2, h3, h4, h5, h6, h7, h8, h9, h10⟩
  · exact .inl h
  · exact .inr ⟨i, k, h1, h2, h3, by rw [hs i h6 h7, h4], by rw [hs k h8 h9, h5], h6, by omega, h8, by omega, h10⟩

theorem lim56 {n : Nat} (h : n ≤ 1000000) : (n * 56 ≤ LIM) = True := by unfold LIM; simp; omega
theorem lim32' {n : Nat} (h : n ≤ 1000000) : (n * 32 ≤ LIM) = True := by unfold LIM; simp; omega

theorem f19 {σ : Sto} {v w : V} {a b : List Hit} (ha : Hf σ v a) (hb : Hf σ w b) (hl : a.length < 9223372036854775808) (fs : Bool) (n lk : Nat) : callE T fs 19 [v, w] σ n lk = some (.bool (decide (a = b)), σ, n) := by
  obtain ⟨o, rfl, h1⟩ := ha
  obtain ⟨q, rfl, h2⟩ := hb
  have e : [v, w].mapM (frz σ 12) = some [slV 2 hitV o, slV 2 hitV q] := by simp only [List.mapM_cons, List.mapM_nil, h1, h2]; rfl
  rw [callE_flat (by decide) e (r19 o q hl) rfl]; rfl

theorem callE_dr {f : Nat} {args ts : List V} {r : V} {σ : Sto} (hm : T.mode f ≠ .raw) (hts : args.mapM (frz σ 12) = some ts) (hr : res T f ts = some r) (ht : ∀ σ n, thaw σ n r = (r, σ, n)) (n : Nat) :
    ∃ σ', callE T true f args σ n 0 = some (r, σ', n) ∧ ∀ i, i ∉ args.flatMap (rch σ 12) → σ' i = σ i := by
  rw [callE_eq hm, hts, callR_some, hr, retE_some]
  unfold backE
  split
  · exact ⟨σ, by rw [ht], fun _ _ => rfl⟩
  · refine ⟨dropL σ (args.flatMap (rch σ 12)), ?_, fun i hi => by simp [dropL, hi]⟩
    rw [if_pos (by simp), ht]

theorem raw28n (n : Nat) (σ : Sto) {Q : V → Sto → Nat → Prop} (hQ : Q .undef σ n) : run T (.raw 28 [.nilS] σ n 0) (memQ Q) := by
  refine run_rawE (fn := g28) rfl rfl ?_
  simp only [g28, b28]
  have w1 : IntKind.i64.wrap ((0 : Int) - 1) = -1 := by decide
  simp +contextual -implicitDefEqProofs (maxSteps := 2000000) only [↓wP, wQ, wQ1, wQ2, wQ3, wR, boxE, partsOf, ↓reduceIte, Nat.reduceEqDiff, Nat.reduceAdd, Nat.reduceSub, Nat.reduceLeDiff, Nat.reduceLT, Nat.reduceMul, reduceCtorEq, Int.reduceBNe, Int.reduceBEq, Int.reduceLT, Int.reduceLE, Int.reduceGT, w1]
  refine WC_loopI 0 (fun (s : Nat) env σ' n' => n' = n ∧ σ' = σ ∧ env 2 = .int .i64 0 ∧ env 3 = .int .i64 (-1)) (fun s => s) ?_ 0 _ _ _ ?_
  · intro _ env σ' n' ⟨h1, h2, h3, h4⟩
    subst h1 h2
    have h : ¬ (0 : Int) < -1 := by decide
    simp +contextual -implicitDefEqProofs (maxSteps := 2000000) only [↓wP, wQ, wQ1, wQ2, wQ3, wR, boxE, partsOf, ↓reduceIte, Nat.reduceEqDiff, Nat.reduceAdd, Nat.reduceSub, Nat.reduceLeDiff, Nat.reduceLT, Nat.reduceMul, reduceCtorEq, Int.reduceBNe, Int.reduceBEq, Int.reduceLT, Int.reduceLE, Int.reduceGT, h3, h4, h]
    exact hQ
  · simp +contextual -implicitDefEqProofs (maxSteps := 2000000) only [↓wP, wQ, wQ1, wQ2, wQ3, wR, boxE, partsOf, ↓reduceIte, Nat.reduceEqDiff, Nat.reduceAdd, Nat.reduceSub, Nat.reduceLeDiff, Nat.reduceLT, Nat.reduceMul, reduceCtorEq, Int.reduceBNe, Int.reduceBEq, Int.reduceLT, Int.reduceLE, Int.reduceGT]
    first | done | rfl | exact w1 | trace_state

theorem cs_row' {σ : Sto} {id : Nat} {l : List Cel} (h : σ id = some (.row 5 (l.map celV))) : frz σ 12 (.ref id 0 l.length 5) = some (slV 5 celV (some l)) ∧ ∀ i ∈ rch σ 12 (.ref id 0 l.length 5), i = id := by
  have := (Fz.ref (σ := σ) (id := id) (sz := 5) (xs := l.map celV) (ts := l.map celV) (k := 11) (S := fun i => i = id) h rfl
    (FzL.trees (fun x hx => by obtain ⟨c, -, rfl⟩ := List.mem_map.1 hx; simp [celV, Tr, Tr_slV]) (fun x hx c hc => by
      obtain ⟨d, -, rfl⟩ := List.mem_map.1 hx
      simp only [celV, V.cells, List.mem_cons, List.not_mem_nil, or_false] at hc
      rcases hc with rfl | rfl | rfl | rfl | rfl <;> first | rfl | exact Tr_slV _ _ _ _)))
  rw [List.length_map] at this
  exact this
theorem rw_row' {σ : Sto} {id : Nat} {l : List Cel} (h : σ id = some (.row 2 ((l.map rowC).map rwV))) : frz σ 12 (.ref id 0 l.length 2) = some (slV 2 rwV (some (l.map rowC))) ∧ ∀ i ∈ rch σ 12 (.ref id 0 l.length 2), i = id := by
  have := (Fz.ref (σ := σ) (id := id) (sz := 2) (xs := (l.map rowC).map rwV) (ts := (l.map rowC).map rwV) (k := 11) (S := fun i => i = id) h rfl
    (FzL.trees (fun x hx => by obtain ⟨c, -, rfl⟩ := List.mem_map.1 hx; simp [rwV, Tr, Tr_slV]) (fun x hx c hc => by
      obtain ⟨d, -, rfl⟩ := List.mem_map.1 hx
      simp only [rwV, V.cells, List.mem_cons, List.not_mem_nil, or_false] at hc
      rcases hc with rfl | rfl <;> first | rfl | exact Tr_slV _ _ _ _)))
  rw [List.length_map, List.length_map] at this
  exact this

theorem full_tb (i : Nat) (hi : i < 128) : tb 18446744073709551615 18446744073709551615 i = true := by
  unfold tb
  have e : (18446744073709551615 : Nat) = 2 ^ 64 - 1 := rfl
  split
  · rw [e, Nat.testBit_two_pow_sub_one]; simpa using by assumption
  · rw [e, Nat.testBit_two_pow_sub_one]; simp; omega

theorem sel_app (m0 m1 : Nat) (l : List Cel) : ∀ r : List Cel, (∀ c ∈ r, c.u = false) → sel m0 m1 (l ++ r) = sel m0 m1 l := by
  intro r hr
  unfold sel
  rw [List.zipIdx_append, List.filter_append, List.map_append]
  have : (r.zipIdx l.length).filter (fun p => p.1.u && tb m0 m1 p.2) = [] := by
    rw [List.filter_eq_nil_iff]
    intro p hp
    have := hr p.1 (List.mem_of_getElem? (List.mem_zipIdx_iff_le_and_getElem?_sub.1 hp).2)
    simp [this]
  have h2 : (r.zipIdx (0 + l.length)).filter (fun p => p.1.u && tb m0 m1 p.2) = [] := by simpa using this
  rw [h2]; simp

theorem sel_full {l : List Cel} (hl : l.length ≤ 96) (hu : ∀ c ∈ l, c.u = true) : sel 18446744073709551615 18446744073709551615 l = l.map rowC := by
  rw [sel_selC]
  congr 1
  unfold selC
  rw [List.filter_eq_self.2 (fun p hp => ?_), List.zipIdx_map_fst]
  have hm := List.mem_zipIdx_iff_getElem?.1 hp
  have hlt := (List.getElem?_eq_some_iff.1 hm).1
  rw [hu p.1 (List.mem_of_getElem? hm), full_tb p.2 (by omega)]
  rfl
theorem sel_pk {l : List Cel} (hl : l.length ≤ 96) (hu : ∀ c ∈ l, c.u = true) : sel 18446744073709551615 18446744073709551615 (pk l l.length) = l.map rowC := by
  unfold pk
  rw [List.take_length, sel_app _ _ _ _ (fun c hc => by rw [List.eq_of_mem_replicate hc]; rfl), sel_full hl hu]
theorem okA_pk {l : List Cel} (hl : l.length ≤ 96) (hc : ∀ c ∈ l, okCel c = true) : okA (some (pk l l.length)) = true := by
  unfold okA
  rw [lst_some, pk_len (Nat.le_refl _) hl]
  simp only [decide_true, Bool.true_and, List.all_eq_true]
  intro c h
  unfold pk at h
  rcases List.mem_append.1 h with h | h
  · exact hc c (List.mem_of_mem_take h)
  · rw [List.eq_of_mem_replicate h]; rfl

theorem scan_ok {a : Option (List Cel)} {m0 m1 : Nat} {q : Option (List Int)} {k : Int} (h : scanE a m0 m1 q k = 0) : qE q k = 0 ∧ okA a = true ∧ (sel m0 m1 (lst a)).all (sameD q) = true ∧ scanL a m0 m1 q k = fst' k.toNat ((sel m0 m1 (lst a)).map (hitQ q)) := by
  unfold scanE at h
  by_cases he : qE q k = 0
  · cases hA : okA a
    · simp [he, hA] at h
    · simp only [he, hA, ne_eq, not_true_eq_false, if_false, Bool.true_eq_false] at h
      unfold itE at h
      split at h
      · rename_i h1
        refine ⟨he, rfl, h1, ?_⟩
        simp [scanL, he, hA, itL, h1]
      · cases h
  · simp [he] at h
theorem scan_mk {a : Option (List Cel)} {m0 m1 : Nat} {q : Option (List Int)} {k : Int} (he : qE q k = 0) (hA : okA a = true) (h : (sel m0 m1 (lst a)).all (sameD q) = true) : scanE a m0 m1 q k = 0 ∧ scanL a m0 m1 q k = fst' k.toNat ((sel m0 m1 (lst a)).map (hitQ q)) := by
  have h1 : scanE a m0 m1 q k = 0 := by simp [scanE, he, hA, itE, h]
  exact ⟨h1, (scan_ok h1).2.2.2⟩

theorem scan_err {a : Option (List Cel)} {m0 m1 : Nat} {q : Option (List Int)} {k : Int} (h : scanE a m0 m1 q k ≠ 0) : scanL a m0 m1 q k = [] := by
  by_cases he : qE q k = 0
  · cases hA : okA a
    · simp [scanL, he, hA]
    · by_cases hS : (sel m0 m1 (lst a)).all (sameD q) = true
      · exact absurd (scan_mk he hA hS).1 h
      · simp only [Bool.not_eq_true] at hS
        simp [scanL, he, hA, itL, hS]
  · simp [scanL, he]


theorem r8 (a : Option (List Cel)) (m0 m1 : Nat) (q : Option (List Int)) (k : Int) (ha : SmA a) (h0 : W64 m0) (h1 : W64 m1) (hq0 : (lst q).length < 4611686018427387904) : res T 8 [.agg [slV 5 celV a], .agg [.int .u64 (m0 : Int), .int .u64 (m1 : Int)], .agg [slV 1 i32V q, .int .i64 k]] = some (.bool true) := by
  refine run_res (run_pure (fn := g8) rfl rfl (by decide) ?_)
  simp only [g8, b8]
  have hq : (lst q).length < 9223372036854775808 := by omega
  have f1 := f10 a ha
  have f9' := f9
  cases hov : overA a
  · rw [hov] at f1
    by_cases hq50 : 50 < (lst q).length
    · have hd : (50 : Int) < ((lst q).length : Int) := by omega
      simp +contextual -implicitDefEqProofs (maxSteps := 2000000) only [↓wP, wQ, wQ1, wQ2, wQ3, wR, boxE, partsOf, ↓reduceIte, Nat.reduceEqDiff, Nat.reduceAdd, Nat.reduceSub, Nat.reduceLeDiff, Nat.reduceLT, Nat.reduceMul, reduceCtorEq, Int.reduceBNe, Int.reduceBEq, Int.reduceLT, Int.reduceLE, Int.reduceGT, f9', f1, hd]
    · have hd : ¬ (50 : Int) < ((lst q).length : Int) := by omega
      have fA := f11 a m0 m1 q k ha h0 h1 hq
      by_cases hz : scanE a m0 m1 q k = 0
      · obtain ⟨he, hA, hS, hL⟩ := scan_ok hz
        rw [hz] at fA
        have hl96 : (lst a).length = 96 := by simp only [okA, Bool.and_eq_true, decide_eq_true_eq] at hA; exact hA.1
        obtain ⟨zs, hzs⟩ : ∃ zs, zs = scanL a m0 m1 q k := ⟨_, rfl⟩
        rw [← hzs] at fA hL
        simp +contextual -implicitDefEqProofs (maxSteps := 2000000) only [↓wP, wQ, wQ1, wQ2, wQ3, wR, boxE, partsOf, ↓reduceIte, Nat.reduceEqDiff, Nat.reduceAdd, Nat.reduceSub, Nat.reduceLeDiff, Nat.reduceLT, Nat.reduceMul, reduceCtorEq, Int.reduceBNe, Int.reduceBEq, Int.reduceLT, Int.reduceLE, Int.reduceGT, f9', f1, hd, fA, BEq.rfl, bne_self_eq_false]
        refine WC_for (lst a).length 0 (fun (j : Nat) env σ n => 3 ≤ n ∧ env 3 = .ptr 0 1 0 0 ∧ env 4 = .ptr 1 2 0 0 ∧ env 5 = .ptr 2 2 0 0 ∧ env 7 = slV 2 hitV (optH zs) ∧ env 40 = slV 5 celV a ∧ σ 0 = some (.row 1 [.agg [slV 5 celV a]]) ∧
          σ 1 = some (.row 2 [.agg [.int .u64 (m0 : Int), .int .u64 (m1 : Int)]]) ∧ σ 2 = some (.row 2 [.agg [slV 1 i32V q, .int .i64 k]]) ∧ TS σ n (env 9) (env 10) (selC m0 m1 ((lst a).take j))) (by omega) (by decide) (by decide) (fun _ _ => rfl) (fun _ _ _ => rfl) ?_ ?_ _ _ _ rfl rfl ?_
        · intro j env σ n hj g1 g2 ⟨g3, g4, g5, g6, g7, g8, g9, g10, g11, g12⟩
          simp only [vl_tmp] at g2
          have hx : (lst a)[j]? = some (lst a)[j] := List.getElem?_eq_getElem hj
          have ht : selC m0 m1 ((lst a).take (j + 1)) = selC m0 m1 ((lst a).take j) ++ if ((lst a)[j].u && tb m0 m1 j) = true then [(lst a)[j]] else [] := by
            rw [← List.take_append_getElem hj, selC_snoc, List.length_take, Nat.min_eq_left (by omega)]
          have hsl : (selC m0 m1 ((lst a).take j)).length ≤ 96 := by
            have := sel_len m0 m1 ((lst a).take j)
            rw [sel_selC, List.length_map, List.length_take] at this
            omega
          generalize (lst a)[j] = c at *
          generalize selC m0 m1 ((lst a).take j) = C at *
          generalize hv9 : env 9 = v9 at g12
          generalize hv10 : env 10 = v10 at g12
          have q0 : (0 = n) = False := by simp; omega
          have q1 : (1 = n) = False := by simp; omega
          have q2 : (2 = n) = False := by simp; omega
          have bitT : ∃ (w mm kk : Nat), binV .quo (.int .i64 (j : Int)) (.int .i64 64) = some (.int .i64 (w : Int)) ∧ w < 2 ∧ binV .rem (.int .i64 (j : Int)) (.int .i64 64) = some (.int .i64 (kk : Int)) ∧ kk < 64 ∧ mm = (if w = 0 then m0 else m1) ∧ tb m0 m1 j = mm.testBit kk := by
            have qq := quo64 j (by omega)
            have rr := rem64 j (by omega)
            refine ⟨j / 64, _, j % 64, qq, by omega, rr, Nat.mod_lt _ (by decide), rfl, ?_⟩
            unfold tb
            by_cases h : j < 64
            · have e1 : j / 64 = 0 := by omega
              have e2 : j % 64 = j := by omega
              simp [h, e1, e2]
            · have e1 : j / 64 = 1 := by omega
              have e2 : j % 64 = j - 64 := by omega
              simp [h, e1, e2]
          obtain ⟨w, mm, kk, b1, b2, b3, b4, b5, b6⟩ := bitT
          have hmm : W64 mm := by rw [b5]; split <;> assumption
          have b7 := b_shr mm kk b4
          have b8 := and_one mm kk hmm
          have b9 := tb_lo mm kk
          rw [← b6] at b9
          have mld : ∀ (σ' : Sto), σ' 1 = σ 1 → True := fun _ _ => trivial
          cases hu : c.u
          · simp only [hu, Bool.false_and, Bool.false_eq_true, if_false, List.append_nil] at ht
            rw [ht]
            simp +contextual -implicitDefEqProofs (maxSteps := 2000000) only [↓wP, wQ, wQ1, wQ2, wQ3, wR, boxE, partsOf, ↓reduceIte, Nat.reduceEqDiff, Nat.reduceAdd, Nat.reduceSub, Nat.reduceLeDiff, Nat.reduceLT, Nat.reduceMul, reduceCtorEq, Int.reduceBNe, Int.reduceBEq, Int.reduceLT, Int.reduceLE, Int.reduceGT, g1, g2, g4, g5, g6, g7, g8, g9, g10, g11, hx, celV_eq, hu, q0, q1, q2, hv9, hv10]
            exact ⟨by omega, g12.loc (by omega) (fun i a1 a2 => by
              have : i ≠ n := by omega
              simp [upd, this])⟩
          · cases hb : tb m0 m1 j
            · simp only [hb, Bool.and_false, Bool.false_eq_true, if_false, List.append_nil] at ht
              rw [hb] at b9
              rw [ht]
              obtain rfl | rfl : w = 0 ∨ w = 1 := by omega
              · simp only [Int.natCast_zero] at b1
                rw [if_pos rfl] at b5
                subst b5
                simp +contextual -implicitDefEqProofs (maxSteps := 2000000) only [↓wP, wQ, wQ1, wQ2, wQ3, wR, boxE, partsOf, ↓reduceIte, Nat.reduceEqDiff, Nat.reduceAdd, Nat.reduceSub, Nat.reduceLeDiff, Nat.reduceLT, Nat.reduceMul, reduceCtorEq, Int.reduceBNe, Int.reduceBEq, Int.reduceLT, Int.reduceLE, Int.reduceGT, g1, g2, g4, g5, g6, g7, g8, g9, g10, g11, hx, celV_eq, hu, q0, q1, q2, hv9, hv10, b1, b3, b7, b8, b9]
                exact ⟨by omega, g12.loc (by omega) (fun i a1 a2 => by
                  have : i ≠ n := by omega
                  simp [upd, this])⟩
              · simp only [Int.natCast_one] at b1
                rw [if_neg (by decide)] at b5
                subst b5
                simp +contextual -implicitDefEqProofs (maxSteps := 2000000) only [↓wP, wQ, wQ1, wQ2, wQ3, wR, boxE, partsOf, ↓reduceIte, Nat.reduceEqDiff, Nat.reduceAdd, Nat.reduceSub, Nat.reduceLeDiff, Nat.reduceLT, Nat.reduceMul, reduceCtorEq, Int.reduceBNe, Int.reduceBEq, Int.reduceLT, Int.reduceLE, Int.reduceGT, g1, g2, g4, g5, g6, g7, g8, g9, g10, g11, hx, celV_eq, hu, q0, q1, q2, hv9, hv10, b1, b3, b7, b8, b9]
                exact ⟨by omega, g12.loc (by omega) (fun i a1 a2 => by
                  have : i ≠ n := by omega
                  simp [upd, this])⟩
            · simp only [hu, hb, Bool.and_self, if_true] at ht
              rw [hb] at b9
              rw [ht]
              have l56 : (56 ≤ LIM) = True := by unfold LIM; simp
              have l32 : (32 ≤ LIM) = True := by unfold LIM; simp
              have p0 : (n = 0) = False := by simp; omega
              have p1 : (n = 1) = False := by simp; omega
              have p2 : (n = 2) = False := by simp; omega
              rcases g12 with ⟨rfl, rfl, rfl⟩ | ⟨i, k', rfl, rfl, t3, t4, t5, t6, t7, t8, t9, t10⟩
              · obtain rfl | rfl : w = 0 ∨ w = 1 := by omega
                · simp only [Int.natCast_zero] at b1
                  rw [if_pos rfl] at b5
                  subst b5
                  simp +contextual -implicitDefEqProofs (maxSteps := 2000000) only [↓wP, wQ, wQ1, wQ2, wQ3, wR, boxE, partsOf, ↓reduceIte, Nat.reduceEqDiff, Nat.reduceAdd, Nat.reduceSub, Nat.reduceLeDiff, Nat.reduceLT, Nat.reduceMul, reduceCtorEq, Int.reduceBNe, Int.reduceBEq, Int.reduceLT, Int.reduceLE, Int.reduceGT, g1, g2, g4, g5, g6, g7, g8, g9, g10, g11, hx, celV_eq, hu, q0, q1, q2, p0, p1, p2, hv9, hv10, b1, b3, b7, b8, b9, appendE_nil, List.isEmpty_cons, l56, l32]
                  exact Or.inr ⟨n + 2, n + 4, rfl, rfl, by simp, by simp [upd, rowC, rwV], by simp [upd, celV, hu], by omega, by omega, by omega, by omega, by omega⟩
                · simp only [Int.natCast_one] at b1
                  rw [if_neg (by decide)] at b5
                  subst b5
                  simp +contextual -implicitDefEqProofs (maxSteps := 2000000) only [↓wP, wQ, wQ1, wQ2, wQ3, wR, boxE, partsOf, ↓reduceIte, Nat.reduceEqDiff, Nat.reduceAdd, Nat.reduceSub, Nat.reduceLeDiff, Nat.reduceLT, Nat.reduceMul, reduceCtorEq, Int.reduceBNe, Int.reduceBEq, Int.reduceLT, Int.reduceLE, Int.reduceGT, g1, g2, g4, g5, g6, g7, g8, g9, g10, g11, hx, celV_eq, hu, q0, q1, q2, p0, p1, p2, hv9, hv10, b1, b3, b7, b8, b9, appendE_nil, List.isEmpty_cons, l56, l32]
                  exact Or.inr ⟨n + 2, n + 4, rfl, rfl, by simp, by simp [upd, rowC, rwV], by simp [upd, celV, hu], by omega, by omega, by omega, by omega, by omega⟩
              · have i1 : (i = n) = False := by simp; omega
                have y0 : (0 = i) = False := by simp; omega
                have y1 : (1 = i) = False := by simp; omega
                have y2 : (2 = i) = False := by simp; omega
                have y3 : (0 = k') = False := by simp; omega
                have y4 : (1 = k') = False := by simp; omega
                have y5 : (2 = k') = False := by simp; omega
                have y6 : (n = i) = False := by simp; omega
                have y7 : (n = k') = False := by simp; omega
                have i2 : (i = n + 1) = False := by simp; omega
                have i3 : (k' = n) = False := by simp; omega
                have i4 : (k' = n + 1) = False := by simp; omega
                have i5 : (k' = n + 2) = False := by simp; omega
                have i6 : (k' = n + 3) = False := by simp; omega
                have i7 : (k' = i) = False := by simp; omega
                have r1 : ((C.map rowC).map rwV).length = C.length := by simp
                have r2 : ((C.map rowC).map rwV).take C.length = (C.map rowC).map rwV := List.take_of_length_le (by simp)
                have r3 : (C.map celV).length = C.length := by simp
                have r4 : (C.map celV).take C.length = C.map celV := List.take_of_length_le (by simp)
                have c56 : ((C.length + 1) * 56 ≤ LIM) = True := lim56 (by omega)
                have c32 : ((C.length + 1) * 32 ≤ LIM) = True := lim32' (by omega)
                have c1 : (C.length ≤ C.length) = True := by simp
                obtain rfl | rfl : w = 0 ∨ w = 1 := by omega
                · simp only [Int.natCast_zero] at b1
                  rw [if_pos rfl] at b5
                  subst b5
                  simp +contextual -implicitDefEqProofs (maxSteps := 2000000) only [↓wP, wQ, wQ1, wQ2, wQ3, wR, boxE, partsOf, ↓reduceIte, Nat.reduceEqDiff, Nat.reduceAdd, Nat.reduceSub, Nat.reduceLeDiff, Nat.reduceLT, Nat.reduceMul, reduceCtorEq, Int.reduceBNe, Int.reduceBEq, Int.reduceLT, Int.reduceLE, Int.reduceGT, g1, g2, g4, g5, g6, g7, g8, g9, g10, g11, hx, celV_eq, hu, q0, q1, q2, p0, p1, p2, hv9, hv10, b1, b3, b7, b8, b9, appendE_ref, t4, t5, i1, i2, i3, i4, i5, i6, i7, r1, r2, r3, r4, c56, c32, c1, true_or, y0, y1, y2, y3, y4, y5, y6, y7]
                  refine Or.inr ⟨n + 2, n + 4, by simp, by simp, by simp, ?_, ?_, by omega, by omega, by omega, by omega, by omega⟩
                  · simp [upd, rowC, rwV]; omega
                  · simp [upd, celV, hu]
                · simp only [Int.natCast_one] at b1
                  rw [if_neg (by decide)] at b5
                  subst b5
                  simp +contextual -implicitDefEqProofs (maxSteps := 2000000) only [↓wP, wQ, wQ1, wQ2, wQ3, wR, boxE, partsOf, ↓reduceIte, Nat.reduceEqDiff, Nat.reduceAdd, Nat.reduceSub, Nat.reduceLeDiff, Nat.reduceLT, Nat.reduceMul, reduceCtorEq, Int.reduceBNe, Int.reduceBEq, Int.reduceLT, Int.reduceLE, Int.reduceGT, g1, g2, g4, g5, g6, g7, g8, g9, g10, g11, hx, celV_eq, hu, q0, q1, q2, p0, p1, p2, hv9, hv10, b1, b3, b7, b8, b9, appendE_ref, t4, t5, i1, i2, i3, i4, i5, i6, i7, r1, r2, r3, r4, c56, c32, c1, true_or, y0, y1, y2, y3, y4, y5, y6, y7]
                  refine Or.inr ⟨n + 2, n + 4, by simp, by simp, by simp, ?_, ?_, by omega, by omega, by omega, by omega, by omega⟩
                  · simp [upd, rowC, rwV]; omega
                  · simp [upd, celV, hu]
        · intro env σ n ⟨g3, g4, g5, g6, g7, g8, g9, g10, g11, g12⟩ g1 g2
          rw [List.take_length] at g12
          obtain ⟨oq, hk1, hk2⟩ := qE_ok he
          obtain ⟨kn, rfl⟩ : ∃ kn : Nat, k = (kn : Int) := ⟨k.toNat, by omega⟩
          have hCs := sel_selC m0 m1 (lst a)
          have hso := sel_ok m0 m1 hA
          have hsl := sel_len m0 m1 (lst a)
          rw [hCs] at hso hsl hS hL
          have hCu : ∀ c ∈ selC m0 m1 (lst a), c.u = true ∧ okCel c = true ∧ (lst c.v).length < 9223372036854775808 := by
            intro c hc
            unfold selC at hc
            obtain ⟨p, hp, rfl⟩ := List.mem_map.1 hc
            obtain ⟨hp1, hp2⟩ := List.mem_filter.1 hp
            have hm : p.1 ∈ lst a := List.mem_of_getElem? (List.mem_zipIdx_iff_getElem?.1 hp1)
            simp only [okA, Bool.and_eq_true] at hA
            simp only [Bool.and_eq_true] at hp2
            exact ⟨hp2.1, List.all_eq_true.1 hA.2 _ hm, ha.2 _ hm⟩
          have hCl : (selC m0 m1 (lst a)).length ≤ 96 := by rw [List.length_map] at hsl; omega
          generalize selC m0 m1 (lst a) = C at *
          generalize hv9 : env 9 = v9 at g12
          generalize hv10 : env 10 = v10 at g12
          simp only [Int.toNat_natCast] at hL
          have hRe : rowsE q (kn : Int) (C.map rowC) = 0 := by
            have h1 : (C.map rowC).all okR = true := List.all_eq_true.2 hso
            simp [rowsE, he, h1, itE, hS]
          have hRl : rowsL q (kn : Int) (C.map rowC) = zs := by
            have h1 : (C.map rowC).all okR = true := List.all_eq_true.2 hso
            simp [rowsL, he, h1, itL, hS, hL]
          have f21' := r21 (optR (C.map rowC)) q (kn : Int) (by rw [lst_optR]; omega) (fun r hr => by rw [lst_optR] at hr; have := (okV_len (hso r hr)).1; omega) hq
          rw [lst_optR, hRe, hRl] at f21'
          have hD : C.reverse.length ≤ 96 := by simpa using hCl
          have hDu : ∀ c ∈ C.reverse, c.u = true ∧ okCel c = true := fun c hc => ⟨(hCu c (by simpa using hc)).1, (hCu c (by simpa using hc)).2.1⟩
          have okp := okA_pk hD (fun c hc => (hDu c hc).2)
          have sp := sel_pk hD (fun c hc => (hDu c hc).1)
          have fP := f11 (some (pk C.reverse C.reverse.length)) 18446744073709551615 18446744073709551615 q (kn : Int) ⟨by rw [lst_some, pk_len (Nat.le_refl _) hD]; omega, fun c hc => by
            rw [lst_some] at hc
            unfold pk at hc
            rcases List.mem_append.1 hc with h | h
            · exact (hCu c (by simpa using List.mem_of_mem_take h)).2.2
            · rw [List.eq_of_mem_replicate h]; simp [zeroC, lst]⟩ (by unfold W64; omega) (by unfold W64; omega) hq
          obtain ⟨sE, sL⟩ := scan_mk (a := some (pk C.reverse C.reverse.length)) (m0 := 18446744073709551615) (m1 := 18446744073709551615) he okp (by
            rw [lst_some, sp, List.map_reverse, List.all_reverse]; exact hS)
          rw [lst_some, sp, Int.toNat_natCast, List.map_reverse, List.map_reverse] at sL
          rw [fst_of_perm kn (List.reverse_perm _), ← hL] at sL
          rw [sE, sL] at fP
          have fc : ((18446744073709551615 : Nat) : Int) = 18446744073709551615 := rfl
          rw [fc] at fP
          have lz : zs.length ≤ 16 := by rw [hL, fst_len]; omega
          have fE := fun fs σ n lk => f19 (Hf.tree σ (optH zs)) (Hf.tree σ (optH zs)) (by rw [lst_optH]; omega) fs n lk
          simp only [decide_true] at fE
          have f29' := fun o (h1 : lst o = C.reverse) => r29 o (by rw [h1]; exact hD) (fun c hc => by rw [h1] at hc; exact hDu c hc) (fun c hc => by rw [h1] at hc; exact (hCu c (by simpa using hc)).2.2)
          rcases g12 with ⟨rfl, rfl, rfl⟩ | ⟨i, k', rfl, rfl, t3, t4, t5, t6, t7, t8, t9, t10⟩
          · have x21 := fun fs σ n lk => callE_tr (T := T) (by decide) f21' (by simp [Tr, Tr_slV]) (Nw_tup2 (Nw_slV 2 hitV _ 10) rfl) fs σ n lk
            have x29 := fun fs σ n lk => callE_tr (T := T) (by decide) (f29' none rfl) (by simp [Tr, Tr_slV]) (by simp [Nw, Nw_slV]) fs σ n lk
            have n1 : slV 2 rwV (optR (([] : List Cel).map rowC)) = .nilS := rfl
            have n2 : slV 5 celV none = .nilS := rfl
            rw [n1] at x21
            rw [n2] at x29
            have ln : lst (none : Option (List Cel)) = [] := rfl
            simp only [ln, List.length_nil, List.reverse_nil] at x29 fP
            have q2 : (2 = n) = False := by simp; omega
            simp +contextual -implicitDefEqProofs (maxSteps := 2000000) only [↓wP, wQ, wQ1, wQ2, wQ3, wR, boxE, partsOf, ↓reduceIte, Nat.reduceEqDiff, Nat.reduceAdd, Nat.reduceSub, Nat.reduceLeDiff, Nat.reduceLT, Nat.reduceMul, reduceCtorEq, Int.reduceBNe, Int.reduceBEq, Int.reduceLT, Int.reduceLE, Int.reduceGT, g4, g5, g6, g7, g9, g11, hv9, hv10, x21]
            refine stepW_raw (by decide) (raw28n _ _ ?_)
            simp +contextual -implicitDefEqProofs (maxSteps := 2000000) only [↓wP, wQ, wQ1, wQ2, wQ3, wR, boxE, partsOf, ↓reduceIte, Nat.reduceEqDiff, Nat.reduceAdd, Nat.reduceSub, Nat.reduceLeDiff, Nat.reduceLT, Nat.reduceMul, reduceCtorEq, Int.reduceBNe, Int.reduceBEq, Int.reduceLT, Int.reduceLE, Int.reduceGT, g4, g5, g6, g7, g9, g11, hv9, hv10, x29]
            simp +contextual -implicitDefEqProofs (maxSteps := 2000000) only [fE, fP, ↓wP, wQ, wQ1, wQ2, wQ3, wR, boxE, partsOf, ↓reduceIte, Nat.reduceEqDiff, Nat.reduceAdd, Nat.reduceSub, Nat.reduceLeDiff, Nat.reduceLT, Nat.reduceMul, reduceCtorEq, Int.reduceBNe, Int.reduceBEq, Int.reduceLT, Int.reduceLE, Int.reduceGT, q2, g4, g5, g6, g7, g9, g11, hv9, hv10, BEq.rfl]
          · obtain ⟨R1, R2⟩ := rw_row' t4
            have oC : optR (C.map rowC) = some (C.map rowC) := if_neg (by simpa using t3)
            rw [oC] at f21'
            have e21 : [V.ref i 0 C.length 2, .agg [slV 1 i32V q, .int .i64 (kn : Int)]].mapM (frz σ 12) = some [slV 2 rwV (some (C.map rowC)), .agg [slV 1 i32V q, .int .i64 (kn : Int)]] := by
              simp only [List.mapM_cons, List.mapM_nil, R1, frz_agg, frz_slV, frz_int]; rfl
            obtain ⟨σ1, c21, d21⟩ := callE_dr (by decide) e21 f21' (fun σ n => thaw_nw σ n 12 _ (Nw_tup2 (Nw_slV 2 hitV _ 10) rfl)) n
            have d21' : ∀ j, j ≠ i → σ1 j = σ j := fun j hj => d21 j (by
              simp only [List.flatMap_cons, List.flatMap_nil, List.append_nil, rch_agg, rch_slV, rch_int, List.mem_append, List.not_mem_nil, or_false]
              exact fun h => hj (R2 _ h))
            clear d21
            have s1 : σ1 2 = some (.row 2 [.agg [slV 1 i32V q, .int .i64 (kn : Int)]]) := by rw [d21' 2 (by omega), g11]
            have s2 : σ1 k' = some (.row 5 (C.map celV)) := by rw [d21' k' (by omega), t5]
            simp +contextual -implicitDefEqProofs (maxSteps := 2000000) only [↓wP, wQ, wQ1, wQ2, wQ3, wR, boxE, partsOf, ↓reduceIte, Nat.reduceEqDiff, Nat.reduceAdd, Nat.reduceSub, Nat.reduceLeDiff, Nat.reduceLT, Nat.reduceMul, reduceCtorEq, Int.reduceBNe, Int.reduceBEq, Int.reduceLT, Int.reduceLE, Int.reduceGT, g4, g5, g6, g7, g9, g11, hv9, hv10, c21]
            refine stepW_raw (by decide) (raw28 C k' n σ1 (by omega) s2 fun σ2 u1 u2 => ?_)
            obtain ⟨R3, R4⟩ := cs_row' u1
            rw [List.length_reverse] at R3 R4
            have e29 : [V.ref k' 0 C.length 5].mapM (frz σ2 12) = some [slV 5 celV (some C.reverse)] := by
              simp only [List.mapM_cons, List.mapM_nil, R3]; rfl
            obtain ⟨σ3, c29, d29⟩ := callE_dr (by decide) e29 (f29' (some C.reverse) rfl) (fun σ n => thaw_nw σ n 12 _ (by simp [Nw, Nw_slV])) n
            have s3 : σ3 2 = some (.row 2 [.agg [slV 1 i32V q, .int .i64 (kn : Int)]]) := by
              rw [d29 2 (by simp only [List.flatMap_cons, List.flatMap_nil, List.append_nil]; exact fun h => absurd (R4 _ h) (by omega)), u2 2 (by omega), s1]
            have q2 : (2 = n) = False := by simp; omega
            simp only [lst_some] at c29
            simp +contextual -implicitDefEqProofs (maxSteps := 2000000) only [fE, fP, ↓wP, wQ, wQ1, wQ2, wQ3, wR, boxE, partsOf, ↓reduceIte, Nat.reduceEqDiff, Nat.reduceAdd, Nat.reduceSub, Nat.reduceLeDiff, Nat.reduceLT, Nat.reduceMul, reduceCtorEq, Int.reduceBNe, Int.reduceBEq, Int.reduceLT, Int.reduceLE, Int.reduceGT, c29, q2, g4, g5, g6, g7, g9, s3, hv9, hv10, BEq.rfl]
        · simp +contextual -implicitDefEqProofs (maxSteps := 2000000) only [↓wP, wQ, wQ1, wQ2, wQ3, wR, boxE, partsOf, ↓reduceIte, Nat.reduceEqDiff, Nat.reduceAdd, Nat.reduceSub, Nat.reduceLeDiff, Nat.reduceLT, Nat.reduceMul, reduceCtorEq, Int.reduceBNe, Int.reduceBEq, Int.reduceLT, Int.reduceLE, Int.reduceGT]
          exact .inl ⟨by simp [selC], rfl, rfl⟩
      · have hb : (scanE a m0 m1 q k != 0) = true := by simpa using hz
        have hL := scan_err hz
        rw [hL] at fA
        generalize scanE a m0 m1 q k = ee at *
        have hl6 : lenE (slV 2 hitV (optH [])) = some (.int .i64 0) := rfl
        simp +contextual -implicitDefEqProofs (maxSteps := 2000000) only [↓wP, wQ, wQ1, wQ2, wQ3, wR, boxE, partsOf, ↓reduceIte, Nat.reduceEqDiff, Nat.reduceAdd, Nat.reduceSub, Nat.reduceLeDiff, Nat.reduceLT, Nat.reduceMul, reduceCtorEq, Int.reduceBNe, Int.reduceBEq, Int.reduceLT, Int.reduceLE, Int.reduceGT, f9', f1, hd, fA, hb, hl6, BEq.rfl]
  · rw [hov] at f1
    simp +contextual -implicitDefEqProofs (maxSteps := 2000000) only [↓wP, wQ, wQ1, wQ2, wQ3, wR, boxE, partsOf, ↓reduceIte, Nat.reduceEqDiff, Nat.reduceAdd, Nat.reduceSub, Nat.reduceLeDiff, Nat.reduceLT, Nat.reduceMul, reduceCtorEq, Int.reduceBNe, Int.reduceBEq, Int.reduceLT, Int.reduceLE, Int.reduceGT, f9', f1]
end Go.Q.S11
end

section
/- The table is the program's. -/
namespace Go.Q.S11
open Go.Proofs
def Has (f : Nat) (fn : Fn) : Prop := ∃ F, Try.prog.funcs[f]? = some F ∧ cFunc Try.prog (ownB T) F = some fn ∧ (F.name == "runtime.NumGoroutine") = false
theorem h3 : Has 3 g3 := ⟨Try.f3, Try.func3, by kernel_rfl, by kernel_rfl⟩
theorem h4 : Has 4 g4 := ⟨Try.f4, Try.func4, by kernel_rfl, by kernel_rfl⟩
theorem h5 : Has 5 g5 := ⟨Try.f5, Try.func5, by kernel_rfl, by kernel_rfl⟩
theorem h7 : Has 7 g7 := ⟨Try.f7, Try.func7, by kernel_rfl, by kernel_rfl⟩
theorem h8 : Has 8 g8 := ⟨Try.f8, Try.func8, by kernel_rfl, by kernel_rfl⟩
theorem h9 : Has 9 g9 := ⟨Try.f9, Try.func9, by kernel_rfl, by kernel_rfl⟩
theorem h10 : Has 10 g10 := ⟨Try.f10, Try.func10, by kernel_rfl, by kernel_rfl⟩
theorem h11 : Has 11 g11 := ⟨Try.f11, Try.func11, by kernel_rfl, by kernel_rfl⟩
theorem h12 : Has 12 g12 := ⟨Try.f12, Try.func12, by kernel_rfl, by kernel_rfl⟩
theorem h13 : Has 13 g13 := ⟨Try.f13, Try.func13, by kernel_rfl, by kernel_rfl⟩
theorem h14 : Has 14 g14 := ⟨Try.f14, Try.func14, by kernel_rfl, by kernel_rfl⟩
theorem h15 : Has 15 g15 := ⟨Try.f15, Try.func15, by kernel_rfl, by kernel_rfl⟩
theorem h16 : Has 16 g16 := ⟨Try.f16, Try.func16, by kernel_rfl, by kernel_rfl⟩
theorem h17 : Has 17 g17 := ⟨Try.f17, Try.func17, by kernel_rfl, by kernel_rfl⟩
theorem h18 : Has 18 g18 := ⟨Try.f18, Try.func18, by kernel_rfl, by kernel_rfl⟩
theorem h19 : Has 19 g19 := ⟨Try.f19, Try.func19, by kernel_rfl, by kernel_rfl⟩
theorem h20 : Has 20 g20 := ⟨Try.f20, Try.func20, by kernel_rfl, by kernel_rfl⟩
theorem h21 : Has 21 g21 := ⟨Try.f21, Try.func21, by kernel_rfl, by kernel_rfl⟩
theorem h22 : Has 22 g22 := ⟨Try.f22, Try.func22, by kernel_rfl, by kernel_rfl⟩
theorem h23 : Has 23 g23 := ⟨Try.f23, Try.func23, by kernel_rfl, by kernel_rfl⟩
theorem h24 : Has 24 g24 := ⟨Try.f24, Try.func24, by kernel_rfl, by kernel_rfl⟩
theorem h25 : Has 25 g25 := ⟨Try.f25, Try.func25, by kernel_rfl, by kernel_rfl⟩
theorem h26 : Has 26 g26 := ⟨Try.f26, Try.func26, by kernel_rfl, by kernel_rfl⟩
theorem h27 : Has 27 g27 := ⟨Try.f27, Try.func27, by kernel_rfl, by kernel_rfl⟩
theorem h28 : Has 28 g28 := ⟨Try.f28, Try.func28, by kernel_rfl, by kernel_rfl⟩
theorem h29 : Has 29 g29 := ⟨Try.f29, Try.func29, by kernel_rfl, by kernel_rfl⟩
theorem h30 : Has 30 g30 := ⟨Try.f30, Try.func30, by kernel_rfl, by kernel_rfl⟩
theorem h31 : Has 31 g31 := ⟨Try.f31, Try.func31, by kernel_rfl, by kernel_rfl⟩
theorem h32 : Has 32 g32 := ⟨Try.f32, Try.func32, by kernel_rfl, by kernel_rfl⟩
theorem h33 : Has 33 g33 := ⟨Try.f33, Try.func33, by kernel_rfl, by kernel_rfl⟩
theorem h34 : Has 34 g34 := ⟨Try.f34, Try.func34, by kernel_rfl, by kernel_rfl⟩
theorem h35 : Has 35 g35 := ⟨Try.f35, Try.func35, by kernel_rfl, by kernel_rfl⟩
theorem h36 : Has 36 g36 := ⟨Try.f36, Try.func36, by kernel_rfl, by kernel_rfl⟩
theorem h37 : Has 37 g37 := ⟨Try.f37, Try.func37, by kernel_rfl, by kernel_rfl⟩
theorem h38 : Has 38 g38 := ⟨Try.f38, Try.func38, by kernel_rfl, by kernel_rfl⟩
theorem h39 : Has 39 g39 := ⟨Try.f39, Try.func39, by kernel_rfl, by kernel_rfl⟩
theorem h40 : Has 40 g40 := ⟨Try.f40, Try.func40, by kernel_rfl, by kernel_rfl⟩
theorem h41 : Has 41 g41 := ⟨Try.f41, Try.func41, by kernel_rfl, by kernel_rfl⟩
theorem h42 : Has 42 g42 := ⟨Try.f42, Try.func42, by kernel_rfl, by kernel_rfl⟩
theorem h43 : Has 43 g43 := ⟨Try.f43, Try.func43, by kernel_rfl, by kernel_rfl⟩
theorem h44 : Has 44 g44 := ⟨Try.f44, Try.func44, by kernel_rfl, by kernel_rfl⟩
theorem h45 : Has 45 g45 := ⟨Try.f45, Try.func45, by kernel_rfl, by kernel_rfl⟩
theorem h46 : Has 46 g46 := ⟨Try.f46, Try.func46, by kernel_rfl, by kernel_rfl⟩
theorem h47 : Has 47 g47 := ⟨Try.f47, Try.func47, by kernel_rfl, by kernel_rfl⟩
theorem h48 : Has 48 g48 := ⟨Try.f48, Try.func48, by kernel_rfl, by kernel_rfl⟩
theorem h49 : Has 49 g49 := ⟨Try.f49, Try.func49, by kernel_rfl, by kernel_rfl⟩
theorem h50 : Has 50 g50 := ⟨Try.f50, Try.func50, by kernel_rfl, by kernel_rfl⟩
theorem h51 : Has 51 g51 := ⟨Try.f51, Try.func51, by kernel_rfl, by kernel_rfl⟩
theorem h52 : Has 52 g52 := ⟨Try.f52, Try.func52, by kernel_rfl, by kernel_rfl⟩
theorem h53 : Has 53 g53 := ⟨Try.f53, Try.func53, by kernel_rfl, by kernel_rfl⟩
theorem h54 : Has 54 g54 := ⟨Try.f54, Try.func54, by kernel_rfl, by kernel_rfl⟩
theorem h55 : Has 55 g55 := ⟨Try.f55, Try.func55, by kernel_rfl, by kernel_rfl⟩
theorem h56 : Has 56 g56 := ⟨Try.f56, Try.func56, by kernel_rfl, by kernel_rfl⟩
theorem h57 : Has 57 g57 := ⟨Try.f57, Try.func57, by kernel_rfl, by kernel_rfl⟩
theorem h58 : Has 58 g58 := ⟨Try.f58, Try.func58, by kernel_rfl, by kernel_rfl⟩
theorem h59 : Has 59 g59 := ⟨Try.f59, Try.func59, by kernel_rfl, by kernel_rfl⟩
theorem h60 : Has 60 g60 := ⟨Try.f60, Try.func60, by kernel_rfl, by kernel_rfl⟩
theorem h61 : Has 61 g61 := ⟨Try.f61, Try.func61, by kernel_rfl, by kernel_rfl⟩
theorem h62 : Has 62 g62 := ⟨Try.f62, Try.func62, by kernel_rfl, by kernel_rfl⟩
theorem h63 : Has 63 g63 := ⟨Try.f63, Try.func63, by kernel_rfl, by kernel_rfl⟩
theorem h64 : Has 64 g64 := ⟨Try.f64, Try.func64, by kernel_rfl, by kernel_rfl⟩
theorem h65 : Has 65 g65 := ⟨Try.f65, Try.func65, by kernel_rfl, by kernel_rfl⟩
theorem h66 : Has 66 g66 := ⟨Try.f66, Try.func66, by kernel_rfl, by kernel_rfl⟩
theorem h67 : Has 67 g67 := ⟨Try.f67, Try.func67, by kernel_rfl, by kernel_rfl⟩
theorem h68 : Has 68 g68 := ⟨Try.f68, Try.func68, by kernel_rfl, by kernel_rfl⟩
theorem h69 : Has 69 g69 := ⟨Try.f69, Try.func69, by kernel_rfl, by kernel_rfl⟩
theorem h70 : Has 70 g70 := ⟨Try.f70, Try.func70, by kernel_rfl, by kernel_rfl⟩
theorem h71 : Has 71 g71 := ⟨Try.f71, Try.func71, by kernel_rfl, by kernel_rfl⟩
theorem h72 : Has 72 g72 := ⟨Try.f72, Try.func72, by kernel_rfl, by kernel_rfl⟩
theorem h73 : Has 73 g73 := ⟨Try.f73, Try.func73, by kernel_rfl, by kernel_rfl⟩
theorem h74 : Has 74 g74 := ⟨Try.f74, Try.func74, by kernel_rfl, by kernel_rfl⟩
theorem h75 : Has 75 g75 := ⟨Try.f75, Try.func75, by kernel_rfl, by kernel_rfl⟩
theorem h76 : Has 76 g76 := ⟨Try.f76, Try.func76, by kernel_rfl, by kernel_rfl⟩
theorem h77 : Has 77 g77 := ⟨Try.f77, Try.func77, by kernel_rfl, by kernel_rfl⟩
theorem h78 : Has 78 g78 := ⟨Try.f78, Try.func78, by kernel_rfl, by kernel_rfl⟩
theorem h79 : Has 79 g79 := ⟨Try.f79, Try.func79, by kernel_rfl, by kernel_rfl⟩
theorem h80 : Has 80 g80 := ⟨Try.f80, Try.func80, by kernel_rfl, by kernel_rfl⟩
theorem h81 : Has 81 g81 := ⟨Try.f81, Try.func81, by kernel_rfl, by kernel_rfl⟩
theorem h82 : Has 82 g82 := ⟨Try.f82, Try.func82, by kernel_rfl, by kernel_rfl⟩
theorem h83 : Has 83 g83 := ⟨Try.f83, Try.func83, by kernel_rfl, by kernel_rfl⟩
theorem h84 : Has 84 g84 := ⟨Try.f84, Try.func84, by kernel_rfl, by kernel_rfl⟩
theorem h85 : Has 85 g85 := ⟨Try.f85, Try.func85, by kernel_rfl, by kernel_rfl⟩
theorem h86 : Has 86 g86 := ⟨Try.f86, Try.func86, by kernel_rfl, by kernel_rfl⟩
theorem h87 : Has 87 g87 := ⟨Try.f87, Try.func87, by kernel_rfl, by kernel_rfl⟩
theorem h88 : Has 88 g88 := ⟨Try.f88, Try.func88, by kernel_rfl, by kernel_rfl⟩
theorem h89 : Has 89 g89 := ⟨Try.f89, Try.func89, by kernel_rfl, by kernel_rfl⟩
theorem h90 : Has 90 g90 := ⟨Try.f90, Try.func90, by kernel_rfl, by kernel_rfl⟩
theorem h91 : Has 91 g91 := ⟨Try.f91, Try.func91, by kernel_rfl, by kernel_rfl⟩
theorem h92 : Has 92 g92 := ⟨Try.f92, Try.func92, by kernel_rfl, by kernel_rfl⟩
theorem h93 : Has 93 g93 := ⟨Try.f93, Try.func93, by kernel_rfl, by kernel_rfl⟩
theorem h94 : Has 94 g94 := ⟨Try.f94, Try.func94, by kernel_rfl, by kernel_rfl⟩
theorem h95 : Has 95 g95 := ⟨Try.f95, Try.func95, by kernel_rfl, by kernel_rfl⟩
theorem h96 : Has 96 g96 := ⟨Try.f96, Try.func96, by kernel_rfl, by kernel_rfl⟩
theorem h97 : Has 97 g97 := ⟨Try.f97, Try.func97, by kernel_rfl, by kernel_rfl⟩
theorem h98 : Has 98 g98 := ⟨Try.f98, Try.func98, by kernel_rfl, by kernel_rfl⟩
theorem h99 : Has 99 g99 := ⟨Try.f99, Try.func99, by kernel_rfl, by kernel_rfl⟩
theorem h100 : Has 100 g100 := ⟨Try.f100, Try.func100, by kernel_rfl, by kernel_rfl⟩
theorem h101 : Has 101 g101 := ⟨Try.f101, Try.func101, by kernel_rfl, by kernel_rfl⟩
theorem h102 : Has 102 g102 := ⟨Try.f102, Try.func102, by kernel_rfl, by kernel_rfl⟩
theorem h103 : Has 103 g103 := ⟨Try.f103, Try.func103, by kernel_rfl, by kernel_rfl⟩
theorem h104 : Has 104 g104 := ⟨Try.f104, Try.func104, by kernel_rfl, by kernel_rfl⟩
theorem h105 : Has 105 g105 := ⟨Try.f105, Try.func105, by kernel_rfl, by kernel_rfl⟩
theorem h106 : Has 106 g106 := ⟨Try.f106, Try.func106, by kernel_rfl, by kernel_rfl⟩
theorem h107 : Has 107 g107 := ⟨Try.f107, Try.func107, by kernel_rfl, by kernel_rfl⟩
theorem h108 : Has 108 g108 := ⟨Try.f108, Try.func108, by kernel_rfl, by kernel_rfl⟩
theorem h109 : Has 109 g109 := ⟨Try.f109, Try.func109, by kernel_rfl, by kernel_rfl⟩
theorem h110 : Has 110 g110 := ⟨Try.f110, Try.func110, by kernel_rfl, by kernel_rfl⟩
theorem h111 : Has 111 g111 := ⟨Try.f111, Try.func111, by kernel_rfl, by kernel_rfl⟩
theorem h112 : Has 112 g112 := ⟨Try.f112, Try.func112, by kernel_rfl, by kernel_rfl⟩
theorem h113 : Has 113 g113 := ⟨Try.f113, Try.func113, by kernel_rfl, by kernel_rfl⟩
theorem h130 : Has 130 g130 := ⟨Try.f130, Try.func130, by kernel_rfl, by kernel_rfl⟩
theorem h131 : Has 131 g131 := ⟨Try.f131, Try.func131, by kernel_rfl, by kernel_rfl⟩
theorem h132 : Has 132 g132 := ⟨Try.f132, Try.func132, by kernel_rfl, by kernel_rfl⟩
theorem h133 : Has 133 g133 := ⟨Try.f133, Try.func133, by kernel_rfl, by kernel_rfl⟩
theorem tabOf : TabOf Try.prog T := by
  intro f fn h
  simp only [T] at h
  unfold fnOf at h
  split at h
  all_goals first | (cases h; done) | skip
  all_goals (simp only [Option.some.injEq] at h; subst h)
  · exact h3
  · exact h4
  · exact h5
  · exact h7
  · exact h8
  · exact h9
  · exact h10
  · exact h11
  · exact h12
  · exact h13
  · exact h14
  · exact h15
  · exact h16
  · exact h17
  · exact h18
  · exact h19
  · exact h20
  · exact h21
  · exact h22
  · exact h23
  · exact h24
  · exact h25
  · exact h26
  · exact h27
  · exact h28
  · exact h29
  · exact h30
  · exact h31
  · exact h32
  · exact h33
  · exact h34
  · exact h35
  · exact h36
  · exact h37
  · exact h38
  · exact h39
  · exact h40
  · exact h41
  · exact h42
  · exact h43
  · exact h44
  · exact h45
  · exact h46
  · exact h47
  · exact h48
  · exact h49
  · exact h50
  · exact h51
  · exact h52
  · exact h53
  · exact h54
  · exact h55
  · exact h56
  · exact h57
  · exact h58
  · exact h59
  · exact h60
  · exact h61
  · exact h62
  · exact h63
  · exact h64
  · exact h65
  · exact h66
  · exact h67
  · exact h68
  · exact h69
  · exact h70
  · exact h71
  · exact h72
  · exact h73
  · exact h74
  · exact h75
  · exact h76
  · exact h77
  · exact h78
  · exact h79
  · exact h80
  · exact h81
  · exact h82
  · exact h83
  · exact h84
  · exact h85
  · exact h86
  · exact h87
  · exact h88
  · exact h89
  · exact h90
  · exact h91
  · exact h92
  · exact h93
  · exact h94
  · exact h95
  · exact h96
  · exact h97
  · exact h98
  · exact h99
  · exact h100
  · exact h101
  · exact h102
  · exact h103
  · exact h104
  · exact h105
  · exact h106
  · exact h107
  · exact h108
  · exact h109
  · exact h110
  · exact h111
  · exact h112
  · exact h113
  · exact h130
  · exact h131
  · exact h132
  · exact h133
theorem mixed : Try.prog.follows .mixedOrders = true := by kernel_rfl
end Go.Q.S11
end
