/- FlatParts. -/
import Derived.Test.YtdpinpbjfdobnaaSC
import Derived.Test.YtdpinpbjfdobnaaProg
import Derived.KernelRfl
section
set_option linter.unusedSimpArgs false
set_option linter.unusedVariables false
namespace Go.Q.S11
open Go.Q Go.Sort

def an (x y : Nat) : Nat := (BitVec.ofNat 64 x &&& ~~~ BitVec.ofNat 64 y).toNat
theorem an_lt (x y : Nat) : W64 (an x y) := (BitVec.ofNat 64 x &&& ~~~ BitVec.ofNat 64 y).isLt
theorem an_bit (x y i : Nat) (hi : i < 64) : (an x y).testBit i = (x.testBit i && !y.testBit i) := by
  unfold an
  rw [← BitVec.getLsbD, BitVec.getLsbD_and, BitVec.getLsbD_not, BitVec.getLsbD_ofNat, BitVec.getLsbD_ofNat]
  simp [hi]
theorem b_an (x y : Nat) : binV .andNot (.int .u64 (x : Int)) (.int .u64 (y : Int)) = some (.int .u64 ((an x y : Nat) : Int)) := by
  have e : (BitVec.ofInt IntKind.u64.bits (x : Int) &&& ~~~BitVec.ofInt IntKind.u64.bits (y : Int)).toNat = an x y := by
    show (BitVec.ofInt 64 (x : Int) &&& ~~~BitVec.ofInt 64 (y : Int)).toNat = an x y
    rw [BitVec.ofInt_natCast, BitVec.ofInt_natCast]; rfl
  have hlt := an_lt x y
  unfold W64 at hlt
  have hw : IntKind.u64.wrap ((an x y : Nat) : Int) = ((an x y : Nat) : Int) := by rw [wrap_u64] <;> omega
  simp only [binV, pureV, Go.binOp, Op.intBits, ne_eq, not_true_eq_false, if_false, e, hw]
  rfl
theorem tb_or (a b c d i : Nat) : tb (a ||| c) (b ||| d) i = (tb a b i || tb c d i) := by
  unfold tb; split <;> simp [Nat.testBit_or]
theorem tb_an (a b c d i : Nat) (hi : i < 128) : tb (an a c) (an b d) i = (tb a b i && !tb c d i) := by
  unfold tb; split
  · rename_i h; rw [an_bit _ _ _ h]
  · rename_i h; rw [an_bit _ _ _ (by omega)]

theorem filter_or {α : Type} (p q : α → Bool) (h : ∀ x, p x = true → q x = false) : ∀ l : List α, (l.filter fun x => p x || q x).Perm (l.filter p ++ l.filter q)
  | [] => by simp
  | x :: l => by
    have ih := filter_or p q h l
    cases hp : p x
    · cases hq : q x
      · simpa [hp, hq] using ih
      · simp only [List.filter_cons, hp, hq, Bool.false_or, if_true, Bool.false_eq_true, if_false]
        exact (ih.cons x).trans List.perm_middle.symm
    · have hq := h x hp
      simp only [List.filter_cons, hp, hq, Bool.true_or, if_true, Bool.false_eq_true, if_false, List.cons_append]
      exact ih.cons x

theorem sel_parts (m0 m1 n0 n1 : Nat) (l : List Cel) (hl : l.length ≤ 128) : (sel (m0 ||| an n0 m0) (m1 ||| an n1 m1) l).Perm (sel m0 m1 l ++ sel (an n0 m0) (an n1 m1) l) := by
  unfold sel
  rw [← List.map_append]
  apply List.Perm.map
  have e : (l.zipIdx.filter fun p => p.1.u && tb (m0 ||| an n0 m0) (m1 ||| an n1 m1) p.2) = l.zipIdx.filter fun p => (p.1.u && tb m0 m1 p.2) || (p.1.u && (tb n0 n1 p.2 && !tb m0 m1 p.2)) := by
    apply List.filter_congr
    intro p hp
    have hi : p.2 < 128 := by
      have := List.mem_zipIdx_iff_getElem?.1 hp
      have := (List.getElem?_eq_some_iff.1 this).1
      omega
    rw [tb_or, tb_an _ _ _ _ _ hi, ← Bool.and_or_distrib_left]
  have e2 : (l.zipIdx.filter fun p => p.1.u && tb (an n0 m0) (an n1 m1) p.2) = l.zipIdx.filter fun p => p.1.u && (tb n0 n1 p.2 && !tb m0 m1 p.2) := by
    apply List.filter_congr
    intro p hp
    have hi : p.2 < 128 := by
      have := List.mem_zipIdx_iff_getElem?.1 hp
      have := (List.getElem?_eq_some_iff.1 this).1
      omega
    rw [tb_an _ _ _ _ _ hi]
  rw [e, e2]
  exact filter_or (fun p : Cel × Nat => p.1.u && tb m0 m1 p.2) (fun p => p.1.u && (tb n0 n1 p.2 && !tb m0 m1 p.2)) (fun p hp => by
    simp only [Bool.and_eq_true] at hp
    simp [hp.2]) l.zipIdx

theorem f19 {σ : Sto} {v w : V} {a b : List Hit} (ha : Hf σ v a) (hb : Hf σ w b) (hl : a.length < 9223372036854775808) (fs : Bool) (n lk : Nat) : callE T fs 19 [v, w] σ n lk = some (.bool (decide (a = b)), σ, n) := by
  obtain ⟨o, rfl, h1⟩ := ha
  obtain ⟨q, rfl, h2⟩ := hb
  have e : [v, w].mapM (frz σ 12) = some [slV 2 hitV o, slV 2 hitV q] := by simp only [List.mapM_cons, List.mapM_nil, h1, h2]; rfl
  rw [callE_flat (by decide) e (r19 o q hl) rfl]; rfl

theorem scan_ok {a : Option (List Cel)} {m0 m1 : Nat} {q : Option (List Int)} {k : Int} (h : scanE a m0 m1 q k = 0) : qE q k = 0 ∧ okA a = true ∧ (sel m0 m1 (lst a)).all (sameD q) = true ∧ scanL a m0 m1 q k = fst' k.toNat ((sel m0 m1 (lst a)).map (hitQ q)) := by
  unfold scanE at h
  by_cases he : qE q k = 0
  · cases hA : okA a
    · simp [he, hA] at h
    · simp only [he, hA, ne_eq, not_true_eq_false, if_false, Bool.true_eq_false] at h
      unfold itE at h
      split at h
      · rename_i h1
        refine ⟨he, rfl, h1, ?_⟩
        simp [scanL, he, hA, itL, h1]
      · cases h
  · simp [he] at h
theorem scan_mk {a : Option (List Cel)} {m0 m1 : Nat} {q : Option (List Int)} {k : Int} (he : qE q k = 0) (hA : okA a = true) (h : (sel m0 m1 (lst a)).all (sameD q) = true) : scanE a m0 m1 q k = 0 ∧ scanL a m0 m1 q k = fst' k.toNat ((sel m0 m1 (lst a)).map (hitQ q)) := by
  have h1 : scanE a m0 m1 q k = 0 := by simp [scanE, he, hA, itE, h]
  exact ⟨h1, (scan_ok h1).2.2.2⟩

theorem scan_err {a : Option (List Cel)} {m0 m1 : Nat} {q : Option (List Int)} {k : Int} (h : scanE a m0 m1 q k ≠ 0) : scanL a m0 m1 q k = [] := by
  by_cases he : qE q k = 0
  · cases hA : okA a
    · simp [scanL, he, hA]
    · by_cases hS : (sel m0 m1 (lst a)).all (sameD q) = true
      · exact absurd (scan_mk he hA hS).1 h
      · simp only [Bool.not_eq_true] at hS
        simp [scanL, he, hA, itL, hS]
  · simp [scanL, he]

theorem r4 (a : Option (List Cel)) (m0 m1 n0 n1 : Nat) (q : Option (List Int)) (k : Int) (ha : SmA a) (h0 : W64 m0) (h1 : W64 m1) (h2 : W64 n0) (h3 : W64 n1) (hq0 : (lst q).length < 4611686018427387904) : res T 4 [.agg [slV 5 celV a], .agg [.int .u64 (m0 : Int), .int .u64 (m1 : Int), .int .u64 (n0 : Int), .int .u64 (n1 : Int)], .agg [slV 1 i32V q, .int .i64 k]] = some (.bool true) := by
  refine run_res (run_pure (fn := g4) rfl rfl (by decide) ?_)
  simp only [g4, b4]
  have hq : (lst q).length < 9223372036854775808 := by omega
  have f1 := f10 a ha
  have f9' := f9
  cases hov : overA a
  · rw [hov] at f1
    by_cases hq50 : 50 < (lst q).length
    · have hd : (50 : Int) < ((lst q).length : Int) := by omega
      simp +contextual -implicitDefEqProofs (maxSteps := 2000000) only [↓wP, wQ, wQ1, wQ2, wQ3, wR, boxE, partsOf, ↓reduceIte, Nat.reduceEqDiff, Nat.reduceAdd, Nat.reduceSub, Nat.reduceLeDiff, Nat.reduceLT, Nat.reduceMul, reduceCtorEq, Int.reduceBNe, Int.reduceBEq, Int.reduceLT, Int.reduceLE, Int.reduceGT, f9', f1, hd]
    · have hd : ¬ (50 : Int) < ((lst q).length : Int) := by omega
      have fA := f11 a (m0 ||| an n0 m0) (m1 ||| an n1 m1) q k ha (Nat.or_lt_two_pow (n := 64) h0 (an_lt _ _)) (Nat.or_lt_two_pow (n := 64) h1 (an_lt _ _)) hq
      have fB := f11 a m0 m1 q k ha h0 h1 hq
      have fC := f11 a (an n0 m0) (an n1 m1) q k ha (an_lt _ _) (an_lt _ _) hq
      have o0 := b_or m0 (an n0 m0) h0 (an_lt _ _)
      have o1 := b_or m1 (an n1 m1) h1 (an_lt _ _)
      have b0 := b_an n0 m0
      have b1 := b_an n1 m1
      have hbig := big_le
      let Z : Ob := .row 2 [.agg [.int .u64 0, .int .u64 0]]
      obtain ⟨σ0, hσ0⟩ : ∃ σ0, σ0 = upd (upd (upd Sto.empty 0 (some (.row 1 [.agg [slV 5 celV a]]))) 1 (some (.row 4 [.agg [.int .u64 (m0 : Int), .int .u64 (m1 : Int), .int .u64 (n0 : Int), .int .u64 (n1 : Int)]]))) 2 (some (.row 2 [.agg [slV 1 i32V q, .int .i64 k]])) := ⟨_, rfl⟩
      have z0 : σ0 0 = some (.row 1 [.agg [slV 5 celV a]]) := by rw [hσ0]; simp [upd]
      have z1 : σ0 1 = some (.row 4 [.agg [.int .u64 (m0 : Int), .int .u64 (m1 : Int), .int .u64 (n0 : Int), .int .u64 (n1 : Int)]]) := by rw [hσ0]; simp [upd]
      have z2 : σ0 2 = some (.row 2 [.agg [slV 1 i32V q, .int .i64 k]]) := by rw [hσ0]; simp [upd]
      have zh : hide σ0 3 3 [0, 1] 1 = some (.row 4 [.agg [.int .u64 (m0 : Int), .int .u64 (m1 : Int), .int .u64 (n0 : Int), .int .u64 (n1 : Int)]]) := by rw [hide_low _ _ _ _ (by decide) (Nat.le_refl _)]; exact z1
      obtain ⟨σa, hσa⟩ : ∃ σa, σa = merge σ0 (upd (hide σ0 3 3 [1]) 3 (some (.row 2 [.agg [.int .u64 0, .int .u64 0]]))) 3 := ⟨_, rfl⟩
      obtain ⟨σb, hσb⟩ : ∃ σb, σb = merge σa (upd (hide σa 3 (3 + BIG) [0]) (3 + BIG) (some (.row 2 [.agg [.int .u64 0, .int .u64 0]]))) (3 + BIG) := ⟨_, rfl⟩
      obtain ⟨σc, hσc⟩ : ∃ σc, σc = mergeL σb (upd σb 3 (some (.row 2 [.agg [.int .u64 (m0 : Int), .int .u64 (m1 : Int)]]))) 3 0 (3 + BIG * 2) [] := ⟨_, rfl⟩
      have a3 : σa 3 = some (.row 2 [.agg [.int .u64 0, .int .u64 0]]) := by rw [hσa, merge_in _ _ _ (Nat.le_refl _) (by omega)]; simp [upd]
      have alo : ∀ i, i < 3 → σa i = σ0 i := fun i hi => by rw [hσa, merge_low _ _ _ hi]
      have b3 : σb 3 = some (.row 2 [.agg [.int .u64 0, .int .u64 0]]) := by rw [hσb, merge_low _ _ _ (by omega)]; exact a3
      have bB : σb (3 + BIG) = some (.row 2 [.agg [.int .u64 0, .int .u64 0]]) := by rw [hσb, merge_in _ _ _ (Nat.le_refl _) (by omega)]; simp [upd]
      have blo : ∀ i, i < 3 → σb i = σ0 i := fun i hi => by rw [hσb, merge_low _ _ _ (by omega)]; exact alo i hi
      have cne : ∀ i, i ≠ 3 → σc i = σb i := fun i hi => by rw [hσc]; unfold mergeL; split <;> simp [upd, hi]
      have c3 : σc 3 = some (.row 2 [.agg [.int .u64 (m0 : Int), .int .u64 (m1 : Int)]]) := by
        rw [hσc]; unfold mergeL
        rw [if_pos ⟨by omega, by omega, by rintro ⟨_, h, _⟩; cases h⟩]; simp [upd]
      have cB : σc (3 + BIG) = some (.row 2 [.agg [.int .u64 0, .int .u64 0]]) := (cne _ (by omega)).trans bB
      have c0 := (cne 0 (by decide)).trans ((blo 0 (by decide)).trans z0)
      have c2 := (cne 2 (by decide)).trans ((blo 2 (by decide)).trans z2)
      have l1 : (4 ≤ 3 + BIG) = True := by simp; omega
      have l2 : (3 + BIG + 1 ≤ 3 + BIG + BIG) = True := by simp; omega
      have l3 : (3 + (BIG + 1) ≤ 3 + (BIG + BIG)) = True := by simp; omega
      have q0 : (0 = 3 + BIG) = False := by simp; omega
      have q2 : (2 = 3 + BIG) = False := by simp; omega
      have q3 : (3 = 3 + BIG) = False := by simp; omega
      simp +contextual -implicitDefEqProofs (maxSteps := 2000000) only [↓wP, wQ, wQ1, wQ2, wQ3, wR, boxE, partsOf, ↓reduceIte, Nat.reduceEqDiff, Nat.reduceAdd, Nat.reduceSub, Nat.reduceLeDiff, Nat.reduceLT, Nat.reduceMul, reduceCtorEq, Int.reduceBNe, Int.reduceBEq, Int.reduceLT, Int.reduceLE, Int.reduceGT, f9', f1, hd, b0, b1, ← hσ0, z0, z2, zh, ← hσa, ← hσb, ← hσc, b3, bB, c3, cB, c0, c2, l1, l2, l3, q0, q2, q3, Nat.mul_zero, Nat.mul_one, Nat.le_refl, o0, o1, fA]
      by_cases hz : scanE a (m0 ||| an n0 m0) (m1 ||| an n1 m1) q k = 0
      · obtain ⟨he, hA, hS, hL⟩ := scan_ok hz
        obtain ⟨oq, hk1, hk2⟩ := qE_ok he
        obtain ⟨kn, rfl⟩ : ∃ kn : Nat, k = (kn : Int) := ⟨k.toNat, by omega⟩
        have hl96 : (lst a).length = 96 := by simp only [okA, Bool.and_eq_true, decide_eq_true_eq] at hA; exact hA.1
        have hp := sel_parts m0 m1 n0 n1 (lst a) (by omega)
        have hS2 : (sel m0 m1 (lst a) ++ sel (an n0 m0) (an n1 m1) (lst a)).all (sameD q) = true := by
          rw [List.all_eq_true]
          intro x hx
          exact List.all_eq_true.1 hS x (hp.mem_iff.2 hx)
        rw [List.all_append, Bool.and_eq_true] at hS2
        obtain ⟨eB, lB⟩ := scan_mk (m0 := m0) (m1 := m1) he hA hS2.1
        obtain ⟨eC, lC⟩ := scan_mk (m0 := an n0 m0) (m1 := an n1 m1) he hA hS2.2
        simp only [Int.toNat_natCast] at hL lB lC
        have hmer : fst' kn (scanL a m0 m1 q (kn : Int) ++ scanL a (an n0 m0) (an n1 m1) q (kn : Int)) = scanL a (m0 ||| an n0 m0) (m1 ||| an n1 m1) q (kn : Int) := by
          rw [hL, lB, lC, ← fst_app2, ← List.map_append]
          exact (fst_of_perm kn (hp.map (hitQ q))).symm
        have lenB : (scanL a m0 m1 q (kn : Int)).length ≤ 16 := by rw [lB, fst_len]; omega
        have lenC : (scanL a (an n0 m0) (an n1 m1) q (kn : Int)).length ≤ 16 := by rw [lC, fst_len]; omega
        have lenA : (scanL a (m0 ||| an n0 m0) (m1 ||| an n1 m1) q (kn : Int)).length ≤ 16 := by rw [hL, fst_len]; omega
        rw [hz]
        rw [eB] at fB
        rw [eC] at fC
        generalize scanL a m0 m1 q (kn : Int) = xs at *
        generalize scanL a (an n0 m0) (an n1 m1) q (kn : Int) = ys at *
        generalize scanL a (m0 ||| an n0 m0) (m1 ||| an n1 m1) q (kn : Int) = zs at *
        have h18 := r18 (kn : Int) (some [optH xs, optH ys]) (by simp [lst]) (fun r hr => by
          simp only [lst_some, List.mem_cons, List.not_mem_nil, or_false] at hr
          rcases hr with rfl | rfl <;> rw [lst_optH] <;> omega)
        have hfl : (lst (some [optH xs, optH ys])).flatMap lst = xs ++ ys := by simp [lst_some, lst_optH]
        rw [hfl] at h18
        have mE : merE (kn : Int) (xs ++ ys) = 0 := by unfold merE; rw [if_neg (by omega), if_neg (by rw [List.length_append]; omega)]
        have mV : merV (kn : Int) (xs ++ ys) = zs := by unfold merV; rw [if_pos mE]; exact hmer
        rw [mE, mV] at h18
        obtain ⟨S, hSS⟩ : ∃ S, S = upd (upd σc (3 + BIG) (some (.row 2 [.agg [.int .u64 ((an n0 m0 : Nat) : Int), .int .u64 ((an n1 m1 : Nat) : Int)]]))) (3 + BIG * 2) (some (.row 1 [slV 2 hitV (optH xs), slV 2 hitV (optH ys)])) := ⟨_, rfl⟩
        have sS : S (3 + BIG * 2) = some (.row 1 [slV 2 hitV (optH xs), slV 2 hitV (optH ys)]) := by rw [hSS]; simp [upd]
        have hx : frz S 12 (.ref (3 + BIG * 2) 0 2 1) = some (slV 1 (slV 2 hitV) (some [optH xs, optH ys])) := by
          have ht : ∀ x ∈ [slV 2 hitV (optH xs), slV 2 hitV (optH ys)], x = slV 2 hitV (optH xs) ∨ x = slV 2 hitV (optH ys) := fun x hx => by simpa using hx
          exact (Fz.ref (σ := S) (id := 3 + BIG * 2) (sz := 1) (xs := [slV 2 hitV (optH xs), slV 2 hitV (optH ys)]) (ts := [slV 2 hitV (optH xs), slV 2 hitV (optH ys)]) (k := 11) (S := fun _ => True) sS trivial
            (FzL.trees (fun x hx => by rcases ht x hx with rfl | rfl <;> exact Tr_slV 2 _ _ _) (fun x hx c hc => by rcases ht x hx with rfl | rfl <;> (rw [cl_slV, List.mem_singleton] at hc; subst hc; exact Tr_slV 2 _ _ _)))).1
        have e : [V.int .i64 (kn : Int), .ref (3 + BIG * 2) 0 2 1].mapM (frz S 12) = some [V.int .i64 (kn : Int), slV 1 (slV 2 hitV) (some [optH xs, optH ys])] := by
          simp only [List.mapM_cons, List.mapM_nil, hx, frz_int]
          rfl
        have f18 := fun n lk => callE_flat (fs := true) (n := n) (lk := lk) (by decide) e h18 (flat_tup2 (flat_ownH _) rfl)
        simp only [thaw_hTup] at f18
        have fE := fun n fs n' lk => f19 (σ := hSto S n zs) (v := slV 2 hitV (optH zs)) (w := hVal n zs) (a := zs) (b := zs) ⟨optH zs, lst_optH zs, frz_slV 2 _ _ _ 11⟩ ⟨optH zs, lst_optH zs, hVal_frz (fun hne => by unfold hSto; rw [if_neg hne]; simp [upd]) 9⟩ (by omega) fs n' lk
        simp only [decide_true] at fE
        have q4 : (3 + BIG = 3 + BIG * 2) = False := by simp; omega
        simp +contextual -implicitDefEqProofs (maxSteps := 2000000) only [↓wP, wQ, wQ1, wQ2, wQ3, wR, boxE, partsOf, ↓reduceIte, Nat.reduceEqDiff, Nat.reduceAdd, Nat.reduceSub, Nat.reduceLeDiff, Nat.reduceLT, Nat.reduceMul, reduceCtorEq, Int.reduceBNe, Int.reduceBEq, Int.reduceLT, Int.reduceLE, Int.reduceGT, fB, fC, c3, cB, c0, c2, q0, q2, q3, ← hSS, f18, fE, BEq.rfl, bne_self_eq_false]
      · have hb : (scanE a (m0 ||| an n0 m0) (m1 ||| an n1 m1) q k != 0) = true := by simpa using hz
        have hL := scan_err hz
        rw [hL]
        generalize scanE a (m0 ||| an n0 m0) (m1 ||| an n1 m1) q k = ee at *
        have hl6 : lenE (slV 2 hitV (optH [])) = some (.int .i64 0) := rfl
        simp +contextual -implicitDefEqProofs (maxSteps := 2000000) only [↓wP, wQ, wQ1, wQ2, wQ3, wR, boxE, partsOf, ↓reduceIte, Nat.reduceEqDiff, Nat.reduceAdd, Nat.reduceSub, Nat.reduceLeDiff, Nat.reduceLT, Nat.reduceMul, reduceCtorEq, Int.reduceBNe, Int.reduceBEq, Int.reduceLT, Int.reduceLE, Int.reduceGT, hb, hl6, BEq.rfl]
  · rw [hov] at f1
    simp +contextual -implicitDefEqProofs (maxSteps := 2000000) only [↓wP, wQ, wQ1, wQ2, wQ3, wR, boxE, partsOf, ↓reduceIte, Nat.reduceEqDiff, Nat.reduceAdd, Nat.reduceSub, Nat.reduceLeDiff, Nat.reduceLT, Nat.reduceMul, reduceCtorEq, Int.reduceBNe, Int.reduceBEq, Int.reduceLT, Int.reduceLE, Int.reduceGT, f9', f1]
end Go.Q.S11
end

section
/- The table is the program's. -/
namespace Go.Q.S11
open Go.Proofs
def Has (f : Nat) (fn : Fn) : Prop := ∃ F, Try.prog.funcs[f]? = some F ∧ cFunc Try.prog (ownB T) F = some fn ∧ (F.name == "runtime.NumGoroutine") = false
theorem h3 : Has 3 g3 := ⟨Try.f3, Try.func3, by kernel_rfl, by kernel_rfl⟩
theorem h4 : Has 4 g4 := ⟨Try.f4, Try.func4, by kernel_rfl, by kernel_rfl⟩
theorem h5 : Has 5 g5 := ⟨Try.f5, Try.func5, by kernel_rfl, by kernel_rfl⟩
theorem h7 : Has 7 g7 := ⟨Try.f7, Try.func7, by kernel_rfl, by kernel_rfl⟩
theorem h8 : Has 8 g8 := ⟨Try.f8, Try.func8, by kernel_rfl, by kernel_rfl⟩
theorem h9 : Has 9 g9 := ⟨Try.f9, Try.func9, by kernel_rfl, by kernel_rfl⟩
theorem h10 : Has 10 g10 := ⟨Try.f10, Try.func10, by kernel_rfl, by kernel_rfl⟩
theorem h11 : Has 11 g11 := ⟨Try.f11, Try.func11, by kernel_rfl, by kernel_rfl⟩
theorem h12 : Has 12 g12 := ⟨Try.f12, Try.func12, by kernel_rfl, by kernel_rfl⟩
theorem h13 : Has 13 g13 := ⟨Try.f13, Try.func13, by kernel_rfl, by kernel_rfl⟩
theorem h14 : Has 14 g14 := ⟨Try.f14, Try.func14, by kernel_rfl, by kernel_rfl⟩
theorem h15 : Has 15 g15 := ⟨Try.f15, Try.func15, by kernel_rfl, by kernel_rfl⟩
theorem h16 : Has 16 g16 := ⟨Try.f16, Try.func16, by kernel_rfl, by kernel_rfl⟩
theorem h17 : Has 17 g17 := ⟨Try.f17, Try.func17, by kernel_rfl, by kernel_rfl⟩
theorem h18 : Has 18 g18 := ⟨Try.f18, Try.func18, by kernel_rfl, by kernel_rfl⟩
theorem h19 : Has 19 g19 := ⟨Try.f19, Try.func19, by kernel_rfl, by kernel_rfl⟩
theorem h20 : Has 20 g20 := ⟨Try.f20, Try.func20, by kernel_rfl, by kernel_rfl⟩
theorem h21 : Has 21 g21 := ⟨Try.f21, Try.func21, by kernel_rfl, by kernel_rfl⟩
theorem h22 : Has 22 g22 := ⟨Try.f22, Try.func22, by kernel_rfl, by kernel_rfl⟩
theorem h23 : Has 23 g23 := ⟨Try.f23, Try.func23, by kernel_rfl, by kernel_rfl⟩
theorem h24 : Has 24 g24 := ⟨Try.f24, Try.func24, by kernel_rfl, by kernel_rfl⟩
theorem h25 : Has 25 g25 := ⟨Try.f25, Try.func25, by kernel_rfl, by kernel_rfl⟩
theorem h26 : Has 26 g26 := ⟨Try.f26, Try.func26, by kernel_rfl, by kernel_rfl⟩
theorem h27 : Has 27 g27 := ⟨Try.f27, Try.func27, by kernel_rfl, by kernel_rfl⟩
theorem h28 : Has 28 g28 := ⟨Try.f28, Try.func28, by kernel_rfl, by kernel_rfl⟩
theorem h29 : Has 29 g29 := ⟨Try.f29, Try.func29, by kernel_rfl, by kernel_rfl⟩
theorem h30 : Has 30 g30 := ⟨Try.f30, Try.func30, by kernel_rfl, by kernel_rfl⟩
theorem h31 : Has 31 g31 := ⟨Try.f31, Try.func31, by kernel_rfl, by kernel_rfl⟩
theorem h32 : Has 32 g32 := ⟨Try.f32, Try.func32, by kernel_rfl, by kernel_rfl⟩
theorem h33 : Has 33 g33 := ⟨Try.f33, Try.func33, by kernel_rfl, by kernel_rfl⟩
theorem h34 : Has 34 g34 := ⟨Try.f34, Try.func34, by kernel_rfl, by kernel_rfl⟩
theorem h35 : Has 35 g35 := ⟨Try.f35, Try.func35, by kernel_rfl, by kernel_rfl⟩
theorem h36 : Has 36 g36 := ⟨Try.f36, Try.func36, by kernel_rfl, by kernel_rfl⟩
theorem h37 : Has 37 g37 := ⟨Try.f37, Try.func37, by kernel_rfl, by kernel_rfl⟩
theorem h38 : Has 38 g38 := ⟨Try.f38, Try.func38, by kernel_rfl, by kernel_rfl⟩
theorem h39 : Has 39 g39 := ⟨Try.f39, Try.func39, by kernel_rfl, by kernel_rfl⟩
theorem h40 : Has 40 g40 := ⟨Try.f40, Try.func40, by kernel_rfl, by kernel_rfl⟩
theorem h41 : Has 41 g41 := ⟨Try.f41, Try.func41, by kernel_rfl, by kernel_rfl⟩
theorem h42 : Has 42 g42 := ⟨Try.f42, Try.func42, by kernel_rfl, by kernel_rfl⟩
theorem h43 : Has 43 g43 := ⟨Try.f43, Try.func43, by kernel_rfl, by kernel_rfl⟩
theorem h44 : Has 44 g44 := ⟨Try.f44, Try.func44, by kernel_rfl, by kernel_rfl⟩
theorem h45 : Has 45 g45 := ⟨Try.f45, Try.func45, by kernel_rfl, by kernel_rfl⟩
theorem h46 : Has 46 g46 := ⟨Try.f46, Try.func46, by kernel_rfl, by kernel_rfl⟩
theorem h47 : Has 47 g47 := ⟨Try.f47, Try.func47, by kernel_rfl, by kernel_rfl⟩
theorem h48 : Has 48 g48 := ⟨Try.f48, Try.func48, by kernel_rfl, by kernel_rfl⟩
theorem h49 : Has 49 g49 := ⟨Try.f49, Try.func49, by kernel_rfl, by kernel_rfl⟩
theorem h50 : Has 50 g50 := ⟨Try.f50, Try.func50, by kernel_rfl, by kernel_rfl⟩
theorem h51 : Has 51 g51 := ⟨Try.f51, Try.func51, by kernel_rfl, by kernel_rfl⟩
theorem h52 : Has 52 g52 := ⟨Try.f52, Try.func52, by kernel_rfl, by kernel_rfl⟩
theorem h53 : Has 53 g53 := ⟨Try.f53, Try.func53, by kernel_rfl, by kernel_rfl⟩
theorem h54 : Has 54 g54 := ⟨Try.f54, Try.func54, by kernel_rfl, by kernel_rfl⟩
theorem h55 : Has 55 g55 := ⟨Try.f55, Try.func55, by kernel_rfl, by kernel_rfl⟩
theorem h56 : Has 56 g56 := ⟨Try.f56, Try.func56, by kernel_rfl, by kernel_rfl⟩
theorem h57 : Has 57 g57 := ⟨Try.f57, Try.func57, by kernel_rfl, by kernel_rfl⟩
theorem h58 : Has 58 g58 := ⟨Try.f58, Try.func58, by kernel_rfl, by kernel_rfl⟩
theorem h59 : Has 59 g59 := ⟨Try.f59, Try.func59, by kernel_rfl, by kernel_rfl⟩
theorem h60 : Has 60 g60 := ⟨Try.f60, Try.func60, by kernel_rfl, by kernel_rfl⟩
theorem h61 : Has 61 g61 := ⟨Try.f61, Try.func61, by kernel_rfl, by kernel_rfl⟩
theorem h62 : Has 62 g62 := ⟨Try.f62, Try.func62, by kernel_rfl, by kernel_rfl⟩
theorem h63 : Has 63 g63 := ⟨Try.f63, Try.func63, by kernel_rfl, by kernel_rfl⟩
theorem h64 : Has 64 g64 := ⟨Try.f64, Try.func64, by kernel_rfl, by kernel_rfl⟩
theorem h65 : Has 65 g65 := ⟨Try.f65, Try.func65, by kernel_rfl, by kernel_rfl⟩
theorem h66 : Has 66 g66 := ⟨Try.f66, Try.func66, by kernel_rfl, by kernel_rfl⟩
theorem h67 : Has 67 g67 := ⟨Try.f67, Try.func67, by kernel_rfl, by kernel_rfl⟩
theorem h68 : Has 68 g68 := ⟨Try.f68, Try.func68, by kernel_rfl, by kernel_rfl⟩
theorem h69 : Has 69 g69 := ⟨Try.f69, Try.func69, by kernel_rfl, by kernel_rfl⟩
theorem h70 : Has 70 g70 := ⟨Try.f70, Try.func70, by kernel_rfl, by kernel_rfl⟩
theorem h71 : Has 71 g71 := ⟨Try.f71, Try.func71, by kernel_rfl, by kernel_rfl⟩
theorem h72 : Has 72 g72 := ⟨Try.f72, Try.func72, by kernel_rfl, by kernel_rfl⟩
theorem h73 : Has 73 g73 := ⟨Try.f73, Try.func73, by kernel_rfl, by kernel_rfl⟩
theorem h74 : Has 74 g74 := ⟨Try.f74, Try.func74, by kernel_rfl, by kernel_rfl⟩
theorem h75 : Has 75 g75 := ⟨Try.f75, Try.func75, by kernel_rfl, by kernel_rfl⟩
theorem h76 : Has 76 g76 := ⟨Try.f76, Try.func76, by kernel_rfl, by kernel_rfl⟩
theorem h77 : Has 77 g77 := ⟨Try.f77, Try.func77, by kernel_rfl, by kernel_rfl⟩
theorem h78 : Has 78 g78 := ⟨Try.f78, Try.func78, by kernel_rfl, by kernel_rfl⟩
theorem h79 : Has 79 g79 := ⟨Try.f79, Try.func79, by kernel_rfl, by kernel_rfl⟩
theorem h80 : Has 80 g80 := ⟨Try.f80, Try.func80, by kernel_rfl, by kernel_rfl⟩
theorem h81 : Has 81 g81 := ⟨Try.f81, Try.func81, by kernel_rfl, by kernel_rfl⟩
theorem h82 : Has 82 g82 := ⟨Try.f82, Try.func82, by kernel_rfl, by kernel_rfl⟩
theorem h83 : Has 83 g83 := ⟨Try.f83, Try.func83, by kernel_rfl, by kernel_rfl⟩
theorem h84 : Has 84 g84 := ⟨Try.f84, Try.func84, by kernel_rfl, by kernel_rfl⟩
theorem h85 : Has 85 g85 := ⟨Try.f85, Try.func85, by kernel_rfl, by kernel_rfl⟩
theorem h86 : Has 86 g86 := ⟨Try.f86, Try.func86, by kernel_rfl, by kernel_rfl⟩
theorem h87 : Has 87 g87 := ⟨Try.f87, Try.func87, by kernel_rfl, by kernel_rfl⟩
theorem h88 : Has 88 g88 := ⟨Try.f88, Try.func88, by kernel_rfl, by kernel_rfl⟩
theorem h89 : Has 89 g89 := ⟨Try.f89, Try.func89, by kernel_rfl, by kernel_rfl⟩
theorem h90 : Has 90 g90 := ⟨Try.f90, Try.func90, by kernel_rfl, by kernel_rfl⟩
theorem h91 : Has 91 g91 := ⟨Try.f91, Try.func91, by kernel_rfl, by kernel_rfl⟩
theorem h92 : Has 92 g92 := ⟨Try.f92, Try.func92, by kernel_rfl, by kernel_rfl⟩
theorem h93 : Has 93 g93 := ⟨Try.f93, Try.func93, by kernel_rfl, by kernel_rfl⟩
theorem h94 : Has 94 g94 := ⟨Try.f94, Try.func94, by kernel_rfl, by kernel_rfl⟩
theorem h95 : Has 95 g95 := ⟨Try.f95, Try.func95, by kernel_rfl, by kernel_rfl⟩
theorem h96 : Has 96 g96 := ⟨Try.f96, Try.func96, by kernel_rfl, by kernel_rfl⟩
theorem h97 : Has 97 g97 := ⟨Try.f97, Try.func97, by kernel_rfl, by kernel_rfl⟩
theorem h98 : Has 98 g98 := ⟨Try.f98, Try.func98, by kernel_rfl, by kernel_rfl⟩
theorem h99 : Has 99 g99 := ⟨Try.f99, Try.func99, by kernel_rfl, by kernel_rfl⟩
theorem h100 : Has 100 g100 := ⟨Try.f100, Try.func100, by kernel_rfl, by kernel_rfl⟩
theorem h101 : Has 101 g101 := ⟨Try.f101, Try.func101, by kernel_rfl, by kernel_rfl⟩
theorem h102 : Has 102 g102 := ⟨Try.f102, Try.func102, by kernel_rfl, by kernel_rfl⟩
theorem h103 : Has 103 g103 := ⟨Try.f103, Try.func103, by kernel_rfl, by kernel_rfl⟩
theorem h104 : Has 104 g104 := ⟨Try.f104, Try.func104, by kernel_rfl, by kernel_rfl⟩
theorem h105 : Has 105 g105 := ⟨Try.f105, Try.func105, by kernel_rfl, by kernel_rfl⟩
theorem h106 : Has 106 g106 := ⟨Try.f106, Try.func106, by kernel_rfl, by kernel_rfl⟩
theorem h107 : Has 107 g107 := ⟨Try.f107, Try.func107, by kernel_rfl, by kernel_rfl⟩
theorem h108 : Has 108 g108 := ⟨Try.f108, Try.func108, by kernel_rfl, by kernel_rfl⟩
theorem h109 : Has 109 g109 := ⟨Try.f109, Try.func109, by kernel_rfl, by kernel_rfl⟩
theorem h110 : Has 110 g110 := ⟨Try.f110, Try.func110, by kernel_rfl, by kernel_rfl⟩
theorem h111 : Has 111 g111 := ⟨Try.f111, Try.func111, by kernel_rfl, by kernel_rfl⟩
theorem h112 : Has 112 g112 := ⟨Try.f112, Try.func112, by kernel_rfl, by kernel_rfl⟩
theorem h113 : Has 113 g113 := ⟨Try.f113, Try.func113, by kernel_rfl, by kernel_rfl⟩
theorem h130 : Has 130 g130 := ⟨Try.f130, Try.func130, by kernel_rfl, by kernel_rfl⟩
theorem h131 : Has 131 g131 := ⟨Try.f131, Try.func131, by kernel_rfl, by kernel_rfl⟩
theorem h132 : Has 132 g132 := ⟨Try.f132, Try.func132, by kernel_rfl, by kernel_rfl⟩
theorem h133 : Has 133 g133 := ⟨Try.f133, Try.func133, by kernel_rfl, by kernel_rfl⟩
theorem tabOf : TabOf Try.prog T := by
  intro f fn h
  simp only [T] at h
  unfold fnOf at h
  split at h
  all_goals first | (cases h; done) | skip
  all_goals (simp only [Option.some.injEq] at h; subst h)
  · exact h3
  · exact h4
  · exact h5
  · exact h7
  · exact h8
  · exact h9
  · exact h10
  · exact h11
  · exact h12
  · exact h13
  · exact h14
  · exact h15
  · exact h16
  · exact h17
  · exact h18
  · exact h19
  · exact h20
  · exact h21
  · exact h22
  · exact h23
  · exact h24
  · exact h25
  · exact h26
  · exact h27
  · exact h28
  · exact h29
  · exact h30
  · exact h31
  · exact h32
  · exact h33
  · exact h34
  · exact h35
  · exact h36
  · exact h37
  · exact h38
  · exact h39
  · exact h40
  · exact h41
  · exact h42
  · exact h43
  · exact h44
  · exact h45
  · exact h46
  · exact h47
  · exact h48
  · exact h49
  · exact h50
  · exact h51
  · exact h52
  · exact h53
  · exact h54
  · exact h55
  · exact h56
  · exact h57
  · exact h58
  · exact h59
  · exact h60
  · exact h61
  · exact h62
  · exact h63
  · exact h64
  · exact h65
  · exact h66
  · exact h67
  · exact h68
  · exact h69
  · exact h70
  · exact h71
  · exact h72
  · exact h73
  · exact h74
  · exact h75
  · exact h76
  · exact h77
  · exact h78
  · exact h79
  · exact h80
  · exact h81
  · exact h82
  · exact h83
  · exact h84
  · exact h85
  · exact h86
  · exact h87
  · exact h88
  · exact h89
  · exact h90
  · exact h91
  · exact h92
  · exact h93
  · exact h94
  · exact h95
  · exact h96
  · exact h97
  · exact h98
  · exact h99
  · exact h100
  · exact h101
  · exact h102
  · exact h103
  · exact h104
  · exact h105
  · exact h106
  · exact h107
  · exact h108
  · exact h109
  · exact h110
  · exact h111
  · exact h112
  · exact h113
  · exact h130
  · exact h131
  · exact h132
  · exact h133
theorem mixed : Try.prog.follows .mixedOrders = true := by kernel_rfl
end Go.Q.S11
end
