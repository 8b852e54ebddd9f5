/- Add: facts, and those of writes. -/
import Derived.Test.YtfbkhkihiohfkaaSB
import Derived.Test.YtfbkhkihiohfkaaProg
import Derived.KernelRfl
section
set_option linter.unusedSimpArgs false
set_option linter.unusedVariables false
namespace Go.Q.SB
open Go.Q
open Nat renaming reduceEqDiff → n1w, reduceAdd → n2w, reduceSub → n3w, reduceLeDiff → n4w, reduceLT → n5w, reduceMul → n6w
open Int renaming reduceBNe → i1w, reduceBEq → i2w, reduceLT → i3w, reduceLE → i4w, reduceGT → i5w
def mkF (ts : Int) (x : Wr) : Fa := ⟨ts, x⟩
def refE (l : List Fa) (ts : Int) (w : List Wr) : Int :=
  if ts ≤ lastT l ∨ 1099511627776 < ts then 181 else if (w.any fun x => x.g && !isB l (key x)) = true then 4 else if dimB (l ++ w.map (mkF ts)) = false then 151 else if 2000 < (l ++ w.map (mkF ts)).length then 6 else 0
def noneAt (l : List Fa) (w : List Wr) : Bool := w.any fun x => x.g && !isB l (key x)
theorem noneAt_snoc (l : List Fa) (w : List Wr) (x : Wr) : noneAt l (w ++ [x]) = (noneAt l w || (x.g && !isB l (key x))) := by simp [noneAt]
theorem noneAt_take {l : List Fa} {w : List Wr} {j : Nat} (h : noneAt l (w.take j) = true) : noneAt l w = true := by
  unfold noneAt at *
  rw [List.any_eq_true] at *
  obtain ⟨x, hx, h⟩ := h
  exact ⟨x, List.mem_of_mem_take hx, h⟩
theorem refE_eq (l : List Fa) (ts : Int) (w : List Wr) : refE l ts w = if ts ≤ lastT l ∨ 1099511627776 < ts then 181 else if noneAt l w = true then 4 else if dimB (l ++ w.map (mkF ts)) = false then 151 else if 2000 < (l ++ w.map (mkF ts)).length then 6 else 0 := rfl
theorem r48 (L : List Fa) (h : L.length * 56 ≤ LIM) : res T 48 [slV 5 faV (some L)] = some (.own 5 (L.map faV)) := by
  refine run_res (run_own (fn := g48) rfl rfl (by decide) ?_)
  simp only [g48, b48, oO, oN, mV, lD, gO, pP, qQ, cI, aR]
  have hl : (L.map faV).length * 56 ≤ LIM := by simpa [lst] using h
  simp +contextual -implicitDefEqProofs (maxSteps := 2000000) only [↓wP, wQ, wQ1, wQ2, wQ3, wR, boxE, partsOf, ↓reduceIte, n1w, n2w, n3w, n4w, n5w, n6w, reduceCtorEq, i1w, i2w, i3w, i4w, i5w, slV_some, hl, true_or]
  have := giv_row (σ := upd (upd (upd Sto.empty 0 (some (.row 5 []))) 0 none) 1 (some (.row 5 (L.map faV)))) (id := 1) (sz := 5) (xs := L.map faV) (by simp [upd])
    (fun x hx => by obtain ⟨t, -, rfl⟩ := List.mem_map.1 hx; cases ht : t.w.v <;> simp [faV, elemM, giv, slV, ht])
    (fun x hx c hc => by
      obtain ⟨t, -, rfl⟩ := List.mem_map.1 hx
      simp only [faV, V.cells, List.mem_cons, List.not_mem_nil, or_false] at hc
      rcases hc with rfl | rfl | rfl | rfl | rfl
      · rfl
      · rfl
      · rfl
      · rfl
      · cases t.w.v <;> rfl)
  simpa using this
theorem f48 (L : List Fa) (h : L.length * 56 ≤ LIM) (fs : Bool) (σ : Sto) (n lk : Nat) : callE T fs 48 [slV 5 faV (some L)] σ n lk = some (.ref n 0 (L.map faV).length 5, upd σ n (some (.row 5 (L.map faV))), n + 1) :=
  callE_own (by decide) (r48 L h) (by simp [Tr, Tr_slV]) (fun x hx => by obtain ⟨t, -, rfl⟩ := List.mem_map.1 hx; simp [faV, Nw, Nw_slV]) fs σ n lk
theorem r48n : res T 48 [slV 5 faV none] = some .nilS := by
  refine run_res (run_own (fn := g48) rfl rfl (by decide) ?_)
  simp only [g48, b48, oO, oN, mV, lD, gO, pP, qQ, cI, aR]
  simp +contextual -implicitDefEqProofs (maxSteps := 2000000) only [↓wP, wQ, wQ1, wQ2, wQ3, wR, boxE, partsOf, ↓reduceIte, n1w, n2w, n3w, n4w, n5w, n6w, reduceCtorEq, i1w, i2w, i3w, i4w, i5w, slV_none, Option.isNone_none]
  exact ⟨rfl, by simp [gids]⟩
theorem f48n (fs : Bool) (σ : Sto) (n lk : Nat) : callE T fs 48 [slV 5 faV none] σ n lk = some (.nilS, σ, n) := callE_tr (by decide) r48n (by simp [Tr, Tr_slV]) rfl fs σ n lk
def addE (l : List Fa) (ts : Int) (w : List Wr) : Int := if rightF l = false then 280 else if rightW w = false then 260 else refE l ts w
def addO (l : Option (List Fa)) (ts : Int) (w : List Wr) : Option (List Fa) := if addE (lst l) ts w = 0 then appO l (w.map (mkF ts)) else none
theorem t48 (o : Option (List Fa)) (h : FitF (lst o)) (σ : Sto) (n lk : Nat) : ∃ v σ' n', callE T true 48 [slV 5 faV o] σ n lk = some (v, σ', n') ∧ Pl σ' n n' 5 v (o.map (List.map faV)) ∧ n ≤ n' ∧ ∀ i, i < n → σ' i = σ i := by
  cases o with
  | none => exact ⟨_, _, _, f48n true σ n lk, rfl, Nat.le_refl _, fun _ _ => rfl⟩
  | some L => exact ⟨_, _, _, f48 L (by have := h.1; rw [lst_some] at this; unfold LIM; omega) true σ n lk, ⟨n, rfl, by rw [upd_self], Nat.le_refl _, by omega⟩, by omega, fun i hi => upd_ne (by omega)⟩
theorem callE_flat {f : Nat} {args ts : List V} {r : V} {σ : Sto} (hm : T.mode f ≠ .raw) (hts : args.mapM (frz σ 12) = some ts) (hr : res T f ts = some r) (hf : flat r = true) (fs : Bool) (n lk : Nat) :
    callE T fs f args σ n lk = some (thaw σ n r) := by
  rw [callE_eq hm, hts, callR_some, hr, retE_some, backE_flat hf]
theorem lst_map {α β : Type} (f : α → β) (o : Option (List α)) : lst (o.map (List.map f)) = (lst o).map f := by cases o <;> rfl
theorem appO_some {α : Type} (o : Option (List α)) (x : α) (xs : List α) : appO o (xs ++ [x]) = some (lst o ++ (xs ++ [x])) := by
  cases o with
  | none => cases xs <;> rfl
  | some l => rfl
theorem r50 (o : Option (List Fa)) (h : (lst o).length ≤ 3000000 ∧ ∀ f ∈ lst o, (lst f.w.v).length ≤ 1000000) : res T 50 [slV 5 faV o] = some (slV 5 faV o) := by
  refine run_res (run_pure (fn := g50) rfl rfl (by decide) ?_)
  simp only [g50, b50, oO, oN, mV, lD, gO, pP, qQ, cI, aR]
  have hl := h.1
  cases o with
  | none =>
    have f := f48n
    simp +contextual -implicitDefEqProofs (maxSteps := 2000000) only [↓wP, wQ, wQ1, wQ2, wQ3, wR, boxE, partsOf, ↓reduceIte, n1w, n2w, n3w, n4w, n5w, n6w, reduceCtorEq, i1w, i2w, i3w, i4w, i5w, f]
    refine WC_for 0 0 (fun _ env σ n => env 3 = .nilS) (by omega) (by decide) (by decide) (fun _ _ => rfl) (fun _ _ _ => rfl) (fun j _ _ _ hj => absurd hj (by omega)) ?_ _ _ _ rfl rfl rfl
    intro env σ n h3 h1 h2
    simp +contextual -implicitDefEqProofs (maxSteps := 2000000) only [↓wP, wQ, wQ1, wQ2, wQ3, wR, boxE, partsOf, ↓reduceIte, n1w, n2w, n3w, n4w, n5w, n6w, reduceCtorEq, i1w, i2w, i3w, i4w, i5w, h3]
    rfl
  | some L =>
    rw [lst_some] at hl h
    have f := f48 L (by unfold LIM; omega)
    have hml : (L.map faV).length = L.length := List.length_map _
    simp +contextual -implicitDefEqProofs (maxSteps := 2000000) only [↓wP, wQ, wQ1, wQ2, wQ3, wR, boxE, partsOf, ↓reduceIte, n1w, n2w, n3w, n4w, n5w, n6w, reduceCtorEq, i1w, i2w, i3w, i4w, i5w, f]
    refine WC_for (L.map faV).length 0 (fun (j : Nat) env σ n => env 3 = .ref 0 0 (L.map faV).length 5 ∧ σ 0 = some (.row 5 (L.map faV))) (by omega) (by decide) (by decide) (fun _ _ => rfl) (fun _ _ _ => rfl) ?_ ?_ _ _ _ rfl rfl ?_
    · intro j env σ n hj h1 h2 ⟨g1, g2⟩
      simp only [vl_tmp] at h2
      have hj' : j < L.length := by omega
      have hx : (L.map faV)[j]? = some (faV L[j]) := by rw [List.getElem?_map, List.getElem?_eq_getElem hj']; rfl
      have hset : (L.map faV).set j (faV L[j]) = L.map faV := by
        have : (L.map faV)[j] = faV L[j] := by simp
        rw [← this, List.set_getElem_self]
      have hv := h.2 _ (List.getElem_mem hj')
      generalize L[j] = x at *
      rw [faV_eq] at hx hset
      have f := f74 x.w.v hv
      simp +contextual -implicitDefEqProofs (maxSteps := 2000000) only [↓wP, wQ, wQ1, wQ2, wQ3, wR, boxE, partsOf, ↓reduceIte, n1w, n2w, n3w, n4w, n5w, n6w, reduceCtorEq, i1w, i2w, i3w, i4w, i5w, h1, h2, g1, g2, hj, hx, f, hset]
    · intro env σ n ⟨g1, g2⟩ h1 h2
      have hf := (Fz.ref (S := fun _ => True) (k := 11) g2 trivial (FzL.trees fa_fz.1 fa_fz.2)).1
      simp +contextual -implicitDefEqProofs (maxSteps := 2000000) only [↓wP, wQ, wQ1, wQ2, wQ3, wR, boxE, partsOf, ↓reduceIte, n1w, n2w, n3w, n4w, n5w, n6w, reduceCtorEq, i1w, i2w, i3w, i4w, i5w, g1, hf]
      rfl
    · exact ⟨rfl, by rw [upd_self]⟩
theorem r13 (l : Option (List Fa)) (ts : Int) (w : Option (List Wr)) (h : FitF (lst l)) (hw : FitW (lst w)) : res T 13 [slV 5 faV l, .int .u64 ts, slV 4 wrV w] = some (.tup [slV 5 faV (addO l ts (lst w)), .int .i64 (addE (lst l) ts (lst w))]) := by
  refine run_res (run_pure (fn := g13) rfl rfl (by decide) ?_)
  simp only [g13, b13, oO, oN, mV, lD, gO, pP, qQ, cI, aR]
  have f24' := f24 l h.sm
  have hsw : SmW w := ⟨by have := hw.1; omega, fun x hx => by have := hw.2 x hx; unfold Sm; omega⟩
  have f45' := f45 w hsw
  have f46' := f46 l h.sm.1
  have hl := h.1
  have hl2 := hw.1
  have hm44 : T.mode 44 ≠ .raw := by decide
  have hm49 : T.mode 49 ≠ .raw := by decide
  have hm50 : T.mode 50 ≠ .raw := by decide
  obtain ⟨E, hE⟩ : ∃ E, E = addE (lst l) ts (lst w) := ⟨_, rfl⟩
  obtain ⟨L, hL⟩ : ∃ L, L = addO l ts (lst w) := ⟨_, rfl⟩
  rw [← hE, ← hL]
  unfold addO at hL
  rw [← hE] at hL
  unfold addE at hE
  have bad : ∀ e : Int, e ≠ 0 → E = e → L = none := fun e h0 he => by rw [hL, if_neg (by rw [he]; exact h0)]
  have r44' := fun a b => r44 a b
  cases hrf : rightF (lst l)
  · rw [hrf] at hE f24'
    rw [if_pos rfl] at hE
    rw [if_neg (by decide)] at f24'
    have r := r44 280 (if rightW (lst w) = true then 0 else 260)
    rw [if_neg (show ¬ (280 : Int) = 0 by decide)] at r
    have z0 : ((280 : Int) != 0) = true := rfl
    simp +contextual -implicitDefEqProofs (maxSteps := 2000000) only [↓wP, wQ, wQ1, wQ2, wQ3, wR, boxE, partsOf, ↓reduceIte, n1w, n2w, n3w, n4w, n5w, n6w, reduceCtorEq, i1w, i2w, i3w, i4w, i5w, f24', f45', callE_eq hm44, frz_rf, rch_rf, r, z0]
    rw [bad 280 (by decide) hE, hE]
    rfl
  rw [hrf] at hE f24'
  rw [if_neg (by decide)] at hE
  rw [if_pos rfl] at f24'
  cases hrw : rightW (lst w)
  · rw [hrw] at hE f45'
    rw [if_pos rfl] at hE
    rw [if_neg (by decide)] at f45'
    have r := r44 0 260
    rw [if_pos rfl] at r
    have z0 : ((260 : Int) != 0) = true := rfl
    simp +contextual -implicitDefEqProofs (maxSteps := 2000000) only [↓wP, wQ, wQ1, wQ2, wQ3, wR, boxE, partsOf, ↓reduceIte, n1w, n2w, n3w, n4w, n5w, n6w, reduceCtorEq, i1w, i2w, i3w, i4w, i5w, f24', f45', callE_eq hm44, frz_rf, rch_rf, r, z0]
    rw [bad 260 (by decide) hE, hE]
    rfl
  rw [hrw] at hE f45'
  rw [if_neg (by decide), refE_eq] at hE
  rw [if_pos rfl] at f45'
  have r := r44 0 0
  rw [if_pos rfl] at r
  have z0 : ((0 : Int) != 0) = false := rfl
  by_cases b1 : ts ≤ lastT (lst l)
  · rw [if_pos (Or.inl b1)] at hE
    simp +contextual -implicitDefEqProofs (maxSteps := 2000000) only [↓wP, wQ, wQ1, wQ2, wQ3, wR, boxE, partsOf, ↓reduceIte, n1w, n2w, n3w, n4w, n5w, n6w, reduceCtorEq, i1w, i2w, i3w, i4w, i5w, f24', f45', f46', callE_eq hm44, frz_rf, rch_rf, r, z0, b1]
    rw [bad 181 (by decide) hE, hE]
    rfl
  by_cases b2 : 1099511627776 < ts
  · rw [if_pos (Or.inr b2)] at hE
    simp +contextual -implicitDefEqProofs (maxSteps := 2000000) only [↓wP, wQ, wQ1, wQ2, wQ3, wR, boxE, partsOf, ↓reduceIte, n1w, n2w, n3w, n4w, n5w, n6w, reduceCtorEq, i1w, i2w, i3w, i4w, i5w, f24', f45', f46', callE_eq hm44, frz_rf, rch_rf, r, z0, b1, b2]
    rw [bad 181 (by decide) hE, hE]
    rfl
  rw [if_neg (by omega)] at hE
  simp +contextual -implicitDefEqProofs (maxSteps := 2000000) only [↓wP, wQ, wQ1, wQ2, wQ3, wR, boxE, partsOf, ↓reduceIte, n1w, n2w, n3w, n4w, n5w, n6w, reduceCtorEq, i1w, i2w, i3w, i4w, i5w, f24', f45', f46', callE_eq hm44, frz_rf, rch_rf, r, z0, b1, b2]
  refine WC_cutB (fun env σ n => env 0 = slV 5 faV l ∧ env 1 = .int .u64 ts ∧ env 2 = slV 4 wrV w ∧ env 9 = .mp 1 ∧ 2 ≤ n ∧ ∃ Lm clk, MOk Lm clk ∧ σ 1 = some (.map (ens kyV bV Lm) clk) ∧ ∀ k, (vw Lm k).getD false = isB (lst l) k) ?_ ?_
  · refine WC_for (lst l).length 0 (fun (j : Nat) env σ n => env 0 = slV 5 faV l ∧ env 1 = .int .u64 ts ∧ env 2 = slV 4 wrV w ∧ env 33 = slV 5 faV l ∧ env 9 = .mp 1 ∧ 2 ≤ n ∧ ∃ Lm clk, MOk Lm clk ∧ σ 1 = some (.map (ens kyV bV Lm) clk) ∧ ∀ k, (vw Lm k).getD false = isB ((lst l).take j) k) (by omega) (by decide) (by decide) (fun _ _ => rfl) (fun _ _ _ => rfl) ?_ ?_ _ _ _ rfl rfl ?_
    · intro j env σ n hj h1 h2 ⟨g0, g1, g2, g3, g4, g5, Lm, clk, m1, m2, m3⟩
      simp only [vl_tmp] at h2
      have hx : (lst l)[j]? = some (lst l)[j] := List.getElem?_eq_getElem hj
      have hds := isB_snoc ((lst l).take j) (lst l)[j]
      rw [List.take_append_getElem hj] at hds
      generalize (lst l)[j] = x at *
      obtain ⟨σ1, hσ1⟩ : ∃ σ1, σ1 = upd (upd σ n (some (.row 5 [.agg [.int .u64 0, .int .i64 0, .int .u64 0, .bool false, .nilS]]))) n (some (.row 5 [.agg [.int .u64 x.ts, .int .i64 x.w.c, .int .u64 x.w.id, .bool x.w.g, slV 1 i32V x.w.v]])) := ⟨_, rfl⟩
      have so : ∀ i, i < n → σ1 i = σ i := fun i hi => by rw [hσ1, upd_ne (by omega), upd_ne (by omega)]
      have sn : σ1 n = some (.row 5 [.agg [.int .u64 x.ts, .int .i64 x.w.c, .int .u64 x.w.id, .bool x.w.g, slV 1 i32V x.w.v]]) := by rw [hσ1, upd_self]
      have s0 : σ1 1 = some (.map (ens kyV bV Lm) clk) := by rw [so 1 (by omega)]; exact m2
      have pu := mupd_ens (ke := kyV) (ve := bV) (lk := 0) keyK m1 s0 (Nat.zero_le _) (key x.w) (!x.w.g) (n + 1)
      have fk := f47 x.w
      rw [wrV_eq] at fk
      simp only [bV] at pu
      simp +contextual -implicitDefEqProofs (maxSteps := 2000000) only [↓wP, wQ, wQ1, wQ2, wQ3, wR, boxE, partsOf, ↓reduceIte, n1w, n2w, n3w, n4w, n5w, n6w, reduceCtorEq, i1w, i2w, i3w, i4w, i5w, h1, h2, g0, g1, g2, g3, g4, hx, faV_eq, ← hσ1, sn, s0, pu, fk]
      refine ⟨by omega, _, _, mput_ok m1 _ _, rfl, fun k => ?_⟩
      rw [vw_mput, hds]
      by_cases e : k = key x.w
      · rw [if_pos e, if_pos e.symm]; rfl
      · rw [if_neg e, if_neg (fun h => e h.symm)]; exact m3 k
    · intro env σ n ⟨g0, g1, g2, g3, g4, g5, Lm, clk, m1, m2, m3⟩ h1 h2
      rw [List.take_length] at m3
      exact ⟨rfl, rfl, g0, g1, g2, g4, g5, Lm, clk, m1, m2, m3⟩
    · exact ⟨rfl, rfl, rfl, rfl, rfl, Nat.le_refl _, [], 0, MOk.nil, rfl, fun k => rfl⟩
  · intro env σ n ⟨g0, g1, g2, g4, g5, Lm, clk, m1, m2, m3⟩
    obtain ⟨cv, σc, nc, t1, t2, t3, t4⟩ := t48 l h σ n 0
    simp +contextual -implicitDefEqProofs (maxSteps := 2000000) only [↓wP, wQ, wQ1, wQ2, wQ3, wR, boxE, partsOf, ↓reduceIte, n1w, n2w, n3w, n4w, n5w, n6w, reduceCtorEq, i1w, i2w, i3w, i4w, i5w, g0, g1, g2, g4, t1]
    have m2' : σc 1 = some (.map (ens kyV bV Lm) clk) := by rw [t4 1 (by omega)]; exact m2
    refine WC_for (lst w).length 0 (fun (j : Nat) env σ n => env 1 = .int .u64 ts ∧ env 9 = .mp 1 ∧ env 50 = slV 4 wrV w ∧ 2 ≤ n ∧ σ 1 = some (.map (ens kyV bV Lm) clk) ∧ noneAt (lst l) ((lst w).take j) = false ∧ ∃ v, env 12 = v ∧ Pl σ 2 n 5 v ((appO l (((lst w).take j).map (mkF ts))).map (List.map faV))) (by omega) (by decide) (by decide) (fun _ _ => rfl) (fun _ _ _ => rfl) ?_ ?_ _ _ _ rfl rfl ?_
    · clear g0 g1 g2 g4 g5 m2 m2' t1 t2 t3 t4
      intro j env σ n hj h1 h2 ⟨g1, g2, g3, g4, m2, g5, v, g6, g7⟩
      simp only [vl_tmp] at h2
      have hx : (lst w)[j]? = some (lst w)[j] := List.getElem?_eq_getElem hj
      have ht : (lst w).take (j + 1) = (lst w).take j ++ [(lst w)[j]] := (List.take_append_getElem hj).symm
      have hns := noneAt_snoc (lst l) ((lst w).take j) (lst w)[j]
      rw [← ht, g5, Bool.false_or] at hns
      have hno : noneAt (lst l) ((lst w).take (j + 1)) = true → noneAt (lst l) (lst w) = true := noneAt_take
      generalize (lst w)[j] = x at *
      have hc := g7.cells
      have hsp := spl g7
      have hap : (appO l (((lst w).take (j + 1)).map (mkF ts))).map (List.map faV) = some ((lst ((appO l (((lst w).take j).map (mkF ts))).map (List.map faV))) ++ [.agg [.int .u64 ts, .int .i64 x.c, .int .u64 x.id, .bool x.g, slV 1 i32V x.v]]) := by
        rw [ht, List.map_append, List.map_cons, List.map_nil, appO_some, Option.map_some, ← List.append_assoc, List.map_append, ← lst_appO]
        cases appO l (((lst w).take j).map (mkF ts)) <;> rfl
      have hlen : (lst ((appO l (((lst w).take j).map (mkF ts))).map (List.map faV))).length ≤ 2000000 := by
        rw [lst_map, List.length_map, lst_appO, List.length_append, List.length_map, List.length_take]; omega
      obtain ⟨σ1, hσ1⟩ : ∃ σ1, σ1 = upd (upd σ n (some (.row 4 [.agg [.int .i64 0, .int .u64 0, .bool false, .nilS]]))) n (some (.row 4 [.agg [.int .i64 x.c, .int .u64 x.id, .bool x.g, slV 1 i32V x.v]])) := ⟨_, rfl⟩
      have so : ∀ i, i < n → σ1 i = σ i := fun i hi => by rw [hσ1, upd_ne (by omega), upd_ne (by omega)]
      have sn : σ1 n = some (.row 4 [.agg [.int .i64 x.c, .int .u64 x.id, .bool x.g, slV 1 i32V x.v]]) := by rw [hσ1, upd_self]
      have s1 : σ1 1 = some (.map (ens kyV bV Lm) clk) := by rw [so 1 (by omega)]; exact m2
      have hmg : mgetE false (.agg [.int, .int]) (.bool false) (some (ens kyV bV Lm)) (kyV (key x)) = some (.bool (isB (lst l) (key x))) := by
        rw [mget_ens (ve := bV) keyK false (.bool false) (key x) Lm, ← m3 (key x)]
        cases vw Lm (key x) <;> rfl
      have fk := f47 x
      rw [wrV_eq] at fk
      have hv1 : ∀ off len s, v ≠ .ref 1 off len s := by
        intro off len s e
        subst e
        cases ho' : (appO l (((lst w).take j).map (mkF ts))).map (List.map faV) with
        | none => rw [ho'] at g7; cases g7
        | some xs => rw [ho'] at g7; obtain ⟨i, e, -, e2, -⟩ := g7; simp only [V.ref.injEq] at e; omega
      have go : ∀ (Q : Prop), Q → Q := fun Q h => h
      cases hg : x.g
      all_goals rw [hg] at hσ1 sn fk hns hap
      · simp +contextual -implicitDefEqProofs (maxSteps := 2000000) only [↓wP, wQ, wQ1, wQ2, wQ3, wR, boxE, partsOf, ↓reduceIte, n1w, n2w, n3w, n4w, n5w, n6w, reduceCtorEq, i1w, i2w, i3w, i4w, i5w, h1, h2, g1, g2, g3, g6, hx, wrV_eq, hg, ← hσ1, sn]
        refine stepW_app1 (m := 2) (n0 := n) (σ0 := σ) g7 (fun i a1 a2 => ?_) (by omega) (by omega) (Nat.zero_le _) ?_ (fun _ σ3 a1 a2 => ?_)
        · rw [upd_ne (by omega), so i a2]
        · unfold LIM; omega
        · have m2' : σ3 1 = some (.map (ens kyV bV Lm) clk) := by rw [a2 1 (by omega) hv1, upd_ne (by omega)]; exact s1
          simp +contextual -implicitDefEqProofs (maxSteps := 2000000) only [↓wP, wQ, wQ1, wQ2, wQ3, wR, boxE, partsOf, ↓reduceIte, n1w, n2w, n3w, n4w, n5w, n6w, reduceCtorEq, i1w, i2w, i3w, i4w, i5w, h1, h2, g1, g2, g3, hc, hsp]
          rw [hns, hap]
          exact ⟨m2', by simp, _, rfl, a1⟩
      · cases hb : isB (lst l) (key x)
        · rw [hb] at hmg hns
          have hE4 : E = 4 := by rw [hE, if_pos (hno (by rw [hns]; rfl))]
          simp +contextual -implicitDefEqProofs (maxSteps := 2000000) only [↓wP, wQ, wQ1, wQ2, wQ3, wR, boxE, partsOf, ↓reduceIte, n1w, n2w, n3w, n4w, n5w, n6w, reduceCtorEq, i1w, i2w, i3w, i4w, i5w, h1, h2, g1, g2, g3, g6, hx, wrV_eq, hg, ← hσ1, sn, s1, fk, hmg]
          rw [bad 4 (by decide) hE4, hE4]
          rfl
        · rw [hb] at hmg hns
          simp +contextual -implicitDefEqProofs (maxSteps := 2000000) only [↓wP, wQ, wQ1, wQ2, wQ3, wR, boxE, partsOf, ↓reduceIte, n1w, n2w, n3w, n4w, n5w, n6w, reduceCtorEq, i1w, i2w, i3w, i4w, i5w, h1, h2, g1, g2, g3, g6, hx, wrV_eq, hg, ← hσ1, sn, s1, fk, hmg]
          refine stepW_app1 (m := 2) (n0 := n) (σ0 := σ) g7 (fun i a1 a2 => ?_) (by omega) (by omega) (Nat.zero_le _) ?_ (fun _ σ3 a1 a2 => ?_)
          · rw [upd_ne (by omega), so i a2]
          · unfold LIM; omega
          · have m2' : σ3 1 = some (.map (ens kyV bV Lm) clk) := by rw [a2 1 (by omega) hv1, upd_ne (by omega)]; exact s1
            simp +contextual -implicitDefEqProofs (maxSteps := 2000000) only [↓wP, wQ, wQ1, wQ2, wQ3, wR, boxE, partsOf, ↓reduceIte, n1w, n2w, n3w, n4w, n5w, n6w, reduceCtorEq, i1w, i2w, i3w, i4w, i5w, h1, h2, g1, g2, g3, hc, hsp]
            rw [hns, hap]
            exact ⟨m2', by simp, _, rfl, a1⟩
    · clear g0 g1 g2 g4 g5 m2 m2' t1 t2 t3 t4
      intro env σ n ⟨g1', g2', g3', g4', m2, g1, v, g2, g3⟩ h1 h2
      rw [List.take_length] at g1 g3
      rw [if_neg (by rw [g1]; decide)] at hE
      obtain ⟨O, hO⟩ : ∃ O, O = appO l ((lst w).map (mkF ts)) := ⟨_, rfl⟩
      have hOl : lst O = lst l ++ (lst w).map (mkF ts) := by rw [hO, lst_appO]
      rw [← hOl] at hE
      rw [← hO] at hL g3
      have hfa : ∀ f ∈ lst O, (lst f.w.v).length ≤ 1000000 := fun f hf => by
        rw [hOl] at hf
        rcases List.mem_append.1 hf with hf | hf
        · exact h.2 f hf
        · obtain ⟨x, hx, rfl⟩ := List.mem_map.1 hf
          exact hw.2 x hx
      have hOn : (lst O).length ≤ 2000000 := by rw [hOl, List.length_append, List.length_map]; omega
      have hfr := g3.frz (by rw [lst_map]; exact fa_fz.1) (by rw [lst_map]; exact fa_fz.2)
      rw [slV_map] at hfr
      have hle : lenE v = some (.int .i64 ((lst O).length : Int)) := by
        cases hO2 : O with
        | none => rw [hO2] at g3; simp only [Option.map_none, Pl] at g3; subst g3; rfl
        | some xs => rw [hO2] at g3; obtain ⟨i, rfl, -⟩ := g3; rw [lenE_ref, List.length_map]; rfl
      have r49' := r49 O ⟨by omega, fun f hf => by have := hfa f hf; unfold Sm; omega⟩
      have hfm : [v].mapM (frz σ 12) = some [slV 5 faV O] := by simp only [List.mapM_cons, List.mapM_nil, hfr]; rfl
      have f49' := callE_flat hm49 hfm r49' rfl true n 0
      rw [thaw_bool] at f49'
      have r50' := r50 O ⟨by omega, hfa⟩
      obtain ⟨σ', f50', -⟩ := callE_sh' hm50 hfm r50' (fun σ n => by rw [thaw_slV]) n
      cases hd : dimB (lst O)
      · rw [hd] at f49' hE
        rw [if_pos rfl] at hE
        simp +contextual -implicitDefEqProofs (maxSteps := 2000000) only [↓wP, wQ, wQ1, wQ2, wQ3, wR, boxE, partsOf, ↓reduceIte, n1w, n2w, n3w, n4w, n5w, n6w, reduceCtorEq, i1w, i2w, i3w, i4w, i5w, g2, f49']
        rw [bad 151 (by decide) hE, hE]
        rfl
      · rw [hd] at f49' hE
        rw [if_neg (by decide)] at hE
        by_cases hn : 2000 < (lst O).length
        · have hn' : (2000 : Int) < ((lst O).length : Int) := by omega
          rw [if_pos hn] at hE
          simp +contextual -implicitDefEqProofs (maxSteps := 2000000) only [↓wP, wQ, wQ1, wQ2, wQ3, wR, boxE, partsOf, ↓reduceIte, n1w, n2w, n3w, n4w, n5w, n6w, reduceCtorEq, i1w, i2w, i3w, i4w, i5w, g2, f49', hle, hn']
          rw [bad 6 (by decide) hE, hE]
          rfl
        · have hn' : ¬ (2000 : Int) < ((lst O).length : Int) := by omega
          rw [if_neg hn] at hE
          rw [hE, if_pos rfl] at hL
          simp +contextual -implicitDefEqProofs (maxSteps := 2000000) only [↓wP, wQ, wQ1, wQ2, wQ3, wR, boxE, partsOf, ↓reduceIte, n1w, n2w, n3w, n4w, n5w, n6w, reduceCtorEq, i1w, i2w, i3w, i4w, i5w, g2, f49', hle, hn', f50']
          rw [hE, hL]
    · simp +contextual -implicitDefEqProofs (maxSteps := 2000000) only [↓wP, wQ, wQ1, wQ2, wQ3, wR, boxE, partsOf, ↓reduceIte, n1w, n2w, n3w, n4w, n5w, n6w, reduceCtorEq, i1w, i2w, i3w, i4w, i5w, g1, g4]
      refine ⟨by omega, m2', rfl, _, rfl, ?_⟩
      have e : appO l (([] : List Wr).map (mkF ts)) = l := by
        cases l with
        | none => rfl
        | some l => show some (l ++ []) = some l; rw [List.append_nil]
      simp only [List.map_nil] at e
      rw [e]
      cases hl0 : l with
      | none => rw [hl0] at t2; exact t2
      | some l' => rw [hl0] at t2; obtain ⟨i, e1, e2, e3, e4⟩ := t2; exact ⟨i, e1, e2, by omega, e4⟩
end Go.Q.SB
end

section
/- Add: plain laws. -/
set_option linter.unusedSimpArgs false
set_option linter.unusedVariables false
namespace Go.Q.SB
open Go.Q Go.Sort
theorem rightF_okU {l : List Fa} (h : rightF l = true) : okU l l.length = true ∧ dimB l = true ∧ l.length ≤ 2000 := by
  unfold rightF at h
  simp only [Bool.and_eq_true, decide_eq_true_eq] at h
  exact ⟨h.1.2, h.2, h.1.1⟩
theorem dmp_some {l : List Fa} {c n : Int} (h : dmp l c = some n) : ∃ f ∈ l, f.w.g = false ∧ f.w.c = c ∧ ((lst f.w.v).length : Int) = n := by
  have key : ∀ (l : List Fa) (b : Option Int), l.foldl (fun b f => if f.w.g then b else if f.w.c = c then some ((lst f.w.v).length : Int) else b) b = some n → b = some n ∨ ∃ f ∈ l, f.w.g = false ∧ f.w.c = c ∧ ((lst f.w.v).length : Int) = n := by
    intro l
    induction l with
    | nil => intro b h; exact .inl h
    | cons f l ih =>
      intro b h
      rcases ih _ h with h | ⟨g, hg, h⟩
      · dsimp only at h
        split at h
        · exact .inl h
        · split at h
          · rename_i h1 h2
            exact .inr ⟨f, List.mem_cons_self, by simpa using h1, h2, by simpa using h⟩
          · exact .inl h
      · exact .inr ⟨g, List.mem_cons_of_mem _ hg, h⟩
  rcases key l none h with h | h
  · cases h
  · exact h
theorem dmp_none {l : List Fa} {c : Int} (h : dmp l c = none) : ∀ f ∈ l, f.w.g = false → f.w.c ≠ c := by
  have key : ∀ (l : List Fa) (b : Option Int), l.foldl (fun b f => if f.w.g then b else if f.w.c = c then some ((lst f.w.v).length : Int) else b) b = none → b = none ∧ ∀ f ∈ l, f.w.g = false → f.w.c ≠ c := by
    intro l
    induction l with
    | nil => intro b h; exact ⟨h, fun f hf => by simp at hf⟩
    | cons f l ih =>
      intro b h
      obtain ⟨h1, h2⟩ := ih _ h
      dsimp only at h1
      split at h1
      · rename_i hg
        refine ⟨h1, fun x hx hxg => ?_⟩
        rcases List.mem_cons.1 hx with rfl | hx
        · rw [hxg] at hg; cases hg
        · exact h2 x hx hxg
      · split at h1
        · cases h1
        · rename_i hc
          refine ⟨h1, fun x hx hxg => ?_⟩
          rcases List.mem_cons.1 hx with rfl | hx
          · exact hc
          · exact h2 x hx hxg
  exact (key l none h).2
theorem dimB_iff (l : List Fa) : dimB l = true ↔ ∀ f ∈ l, ∀ g ∈ l, f.w.g = false → g.w.g = false → f.w.c = g.w.c → (lst f.w.v).length = (lst g.w.v).length := by
  have key : ∀ n, n ≤ l.length → (dimU l n = true ↔ ∀ f ∈ l.take n, ∀ g ∈ l.take n, f.w.g = false → g.w.g = false → f.w.c = g.w.c → (lst f.w.v).length = (lst g.w.v).length) := by
    intro n
    induction n with
    | zero => intro _; simp [dimU]
    | succ n ih =>
      intro hn
      rw [dimU_step (by omega : n < l.length), Bool.and_eq_true, ih (by omega), ← List.take_append_getElem (by omega : n < l.length)]
      unfold dim1
      generalize l[n]'(by omega) = x
      generalize l.take n = T
      constructor
      · rintro ⟨h1, h2⟩ f hf g hg a b c
        have hx : ∀ f ∈ T, f.w.g = false → x.w.g = false → f.w.c = x.w.c → (lst f.w.v).length = (lst x.w.v).length := by
          intro f hf a b c
          rw [b, Bool.false_or] at h2
          cases hd : dmp T x.w.c with
          | none => exact absurd c (dmp_none hd f hf a)
          | some m =>
            rw [hd] at h2
            obtain ⟨g, hg, g1, g2, g3⟩ := dmp_some hd
            have := h1 f hf g hg a g1 (by rw [c, g2])
            simp only [beq_iff_eq] at h2
            omega
        rcases List.mem_append.1 hf with kf | kf <;> rcases List.mem_append.1 hg with kg | kg
        · exact h1 f kf g kg a b c
        · rw [List.mem_singleton] at kg; rw [kg] at b c ⊢; exact hx f kf a b c
        · rw [List.mem_singleton] at kf; rw [kf] at a c ⊢; exact (hx g kg b a c.symm).symm
        · rw [List.mem_singleton] at kf kg; rw [kf, kg]
      · intro h
        refine ⟨fun f hf g hg => h f (List.mem_append_left _ hf) g (List.mem_append_left _ hg), ?_⟩
        cases hxg : x.w.g
        · rw [Bool.false_or]
          cases hd : dmp T x.w.c with
          | none => rfl
          | some m =>
            obtain ⟨g, hg, g1, g2, g3⟩ := dmp_some hd
            have := h g (List.mem_append_left _ hg) x (List.mem_append_right _ List.mem_cons_self) g1 hxg g2
            simp only [beq_iff_eq]
            omega
        · rfl
  have := key l.length (Nat.le_refl _)
  rw [List.take_length] at this
  exact this
end Go.Q.SB
end

section
/- IdealApart. -/
set_option linter.unusedSimpArgs false
set_option linter.unusedVariables false
namespace Go.Q.SB
open Go.Q Go.Sort
open Nat renaming reduceEqDiff → n1w, reduceAdd → n2w, reduceSub → n3w, reduceLeDiff → n4w, reduceLT → n5w, reduceMul → n6w
open Int renaming reduceBNe → i1w, reduceBEq → i2w, reduceLT → i3w, reduceLE → i4w, reduceGT → i5w
def lastE (l : List Fa) : Int := if rightF l = true then lastT l else 0
theorem r20 (l : Option (List Fa)) (h : FitF (lst l)) : res T 20 [slV 5 faV l] = some (.int .u64 (lastE (lst l))) := by
  refine run_res (run_pure (fn := g20) rfl rfl (by decide) ?_)
  simp only [g20, b20, oO, oN, mV, lD, gO, pP, qQ, cI, aR]
  have f24' := f24 l h.sm
  have f46' := f46 l h.sm.1
  unfold lastE
  cases hr : rightF (lst l)
  · rw [hr] at f24'
    rw [if_neg (by decide)] at f24'
    have z0 : ((280 : Int) != 0) = true := rfl
    simp +contextual -implicitDefEqProofs (maxSteps := 2000000) only [↓wP, wQ, wQ1, wQ2, wQ3, wR, boxE, partsOf, ↓reduceIte, n1w, n2w, n3w, n4w, n5w, n6w, reduceCtorEq, i1w, i2w, i3w, i4w, i5w, f24', z0]
  · rw [hr] at f24'
    rw [if_pos rfl] at f24'
    have z0 : ((0 : Int) != 0) = false := rfl
    simp +contextual -implicitDefEqProofs (maxSteps := 2000000) only [↓wP, wQ, wQ1, wQ2, wQ3, wR, boxE, partsOf, ↓reduceIte, n1w, n2w, n3w, n4w, n5w, n6w, reduceCtorEq, i1w, i2w, i3w, i4w, i5w, f24', f46', z0]
theorem f20 (l : Option (List Fa)) (h : FitF (lst l)) (fs : Bool) (σ : Sto) (n lk : Nat) : callE T fs 20 [slV 5 faV l] σ n lk = some (.int .u64 (lastE (lst l)), σ, n) :=
  callE_tr (by decide) (r20 l h) (by simp [Tr, Tr_slV]) rfl fs σ n lk
theorem fit5 {L : List Fa} {N : Nat} (hN : N ≤ 1000) (h : L.length ≤ N ∧ ∀ f ∈ L, (lst f.w.v).length ≤ 5) : FitF L := ⟨by have := h.1; omega, fun f hf => by have := h.2 f hf; omega⟩
theorem few5 {L : List Fa} {N : Nat} (hN : N ≤ 128) (h : L.length ≤ N ∧ ∀ f ∈ L, (lst f.w.v).length ≤ 5) : Few L := ⟨by have := h.1; omega, fun f hf => by have := h.2 f hf; omega⟩
theorem f13 (l : Option (List Fa)) (ts : Int) (w : Option (List Wr)) (h : FitF (lst l)) (hw : FitW (lst w)) (fs : Bool) (σ : Sto) (n lk : Nat) :
    callE T fs 13 [slV 5 faV l, .int .u64 ts, slV 4 wrV w] σ n lk = some (.tup [slV 5 faV (addO l ts (lst w)), .int .i64 (addE (lst l) ts (lst w))], σ, n) :=
  callE_tr (by decide) (r13 l ts w h hw) (by simp [Tr, Tr_slV]) (by simp [Nw, Nw_slV]) fs σ n lk
end Go.Q.SB
end

section
/- Which facts are the same; facts but a collection's. -/
set_option linter.unusedSimpArgs false
set_option linter.unusedVariables false
namespace Go.Q.SB
open Go.Q Go.Sort
open Nat renaming reduceEqDiff → n1w, reduceAdd → n2w, reduceSub → n3w, reduceLeDiff → n4w, reduceLT → n5w, reduceMul → n6w
open Int renaming reduceBNe → i1w, reduceBEq → i2w, reduceLT → i3w, reduceLE → i4w, reduceGT → i5w
end Go.Q.SB
end

section
/- How many rows are stored. -/
set_option linter.unusedSimpArgs false
set_option linter.unusedVariables false
namespace Go.Q.SB
open Go.Q Go.Sort
open Nat renaming reduceEqDiff → n1w, reduceAdd → n2w, reduceSub → n3w, reduceLeDiff → n4w, reduceLT → n5w, reduceMul → n6w
open Int renaming reduceBNe → i1w, reduceBEq → i2w, reduceLT → i3w, reduceLE → i4w, reduceGT → i5w
def nx : List Fa → Int → Int → Option Int
  | [], _, _ => none
  | f :: l, c, id => if f.w.c = c ∧ f.w.id = id then some f.ts else nx l c id
def ok1 (c fl : Int) (f : Fa) (o : Option Int) : Bool := decide (f.w.c = c) && (!f.w.g && match o with | none => true | some t => decide (fl < t))
def stN (c fl : Int) : List Fa → Nat
  | [] => 0
  | f :: l => (if ok1 c fl f (nx l c f.w.id) = true then 1 else 0) + stN c fl l
theorem stN_le (c fl : Int) : ∀ l : List Fa, stN c fl l ≤ l.length
  | [] => Nat.le_refl _
  | f :: l => by have := stN_le c fl l; simp only [stN, List.length_cons]; split <;> omega
theorem stN_drop {c fl : Int} {l : List Fa} {j : Nat} (h : j < l.length) : stN c fl (l.drop j) = (if ok1 c fl l[j] (nx (l.drop (j + 1)) c l[j].w.id) = true then 1 else 0) + stN c fl (l.drop (j + 1)) := by
  rw [List.drop_eq_getElem_cons h]; rfl
theorem nx_drop {c id : Int} {l : List Fa} {j : Nat} (h : j < l.length) : nx (l.drop j) c id = if l[j].w.c = c ∧ l[j].w.id = id then some l[j].ts else nx (l.drop (j + 1)) c id := by
  rw [List.drop_eq_getElem_cons h]; rfl
theorem nx_snoc (c id : Int) (f : Fa) : ∀ l : List Fa, nx (l ++ [f]) c id = if (nx l c id).isSome = true then nx l c id else if f.w.c = c ∧ f.w.id = id then some f.ts else none
  | [] => by simp [nx]
  | g :: l => by
    have ih := nx_snoc c id f l
    rw [List.cons_append]
    simp only [nx]
    by_cases h : g.w.c = c ∧ g.w.id = id
    · simp only [if_pos h]; rfl
    · simp only [if_neg h]; exact ih
theorem nx_pos {c id : Int} : ∀ {l : List Fa}, (∀ f ∈ l, 1 ≤ f.ts) → ∀ t, nx l c id = some t → 1 ≤ t
  | [], _, t, h => by simp [nx] at h
  | g :: l, hl, t, h => by
    simp only [nx] at h
    split at h
    · simp only [Option.some.injEq] at h; subst h; exact hl g (List.mem_cons_self ..)
    · exact nx_pos (fun f hf => hl f (List.mem_cons_of_mem _ hf)) t h
theorem r67 (l : Option (List Fa)) : res T 67 [slV 5 faV l] = some (.fn 98 [.box [slV 5 faV l]]) := by
  refine run_res (run_pure (fn := g67) rfl rfl (by decide) ?_)
  simp only [g67, b67, oO, oN, mV, lD, gO, pP, qQ, cI, aR]
  simp +contextual -implicitDefEqProofs (maxSteps := 2000000) only [↓wP, wQ, wQ1, wQ2, wQ3, wR, boxE, partsOf, ↓reduceIte, n1w, n2w, n3w, n4w, n5w, n6w, reduceCtorEq, i1w, i2w, i3w, i4w, i5w]
theorem f67 {σ : Sto} {n : Nat} (l : Option (List Fa)) : ∃ σ', callE T true 67 [slV 5 faV l] σ n 0 = some (.fn 98 [.box [slV 5 faV l]], σ', n) ∧ ∀ i, σ' i = σ i := by
  have m : [slV 5 faV l].mapM (frz σ 12) = some [slV 5 faV l] := by simp only [List.mapM_cons, List.mapM_nil, frz_slV]; rfl
  obtain ⟨σ', e1, e2⟩ := callE_sh' (by decide) m (r67 l) (fun σ n => rfl) n
  refine ⟨σ', e1, fun i => e2 i (fun hd => ?_)⟩
  simp only [List.flatMap_cons, List.flatMap_nil, rch_slV, List.nil_append, List.append_nil] at hd
  simp at hd
theorem that98 (l : Option (List Fa)) (J : Nat → Sto → Nat → Prop) (lid : Nat) (hl : (lst l).length ≤ 1000000)
    (hy : ∀ j σ n (h : j < (lst l).length), J (j + 1) σ n → yieldW (run T) lid [.int .i64 (j : Int), faV (lst l)[j]] σ n 0 (fun y σ' n' => y = .bool true ∧ J j σ' n'))
    (σ0 : Sto) (n0 : Nat) (h0 : J (lst l).length σ0 n0) : run T (.raw 98 [.yld lid, .box [slV 5 faV l]] σ0 n0 0) (memQ fun _ σ' n' => J 0 σ' n') := by
  refine run_rawE (fn := g98) rfl rfl ?_
  simp only [g98, b98, oO, oN, mV, lD, gO, pP, qQ, cI, aR]
  have hw0 : IntKind.i64.wrap (((lst l).length : Int) - 1) = ((lst l).length : Int) - 1 := by rw [wrap_i64] <;> omega
  simp +contextual -implicitDefEqProofs (maxSteps := 2000000) only [↓wP, wQ, wQ1, wQ2, wQ3, wR, boxE, partsOf, ↓reduceIte, n1w, n2w, n3w, n4w, n5w, n6w, reduceCtorEq, i1w, i2w, i3w, i4w, i5w, hw0]
  refine WC_loopI 0 (fun (j : Nat) env σ n => j ≤ (lst l).length ∧ env 0 = .yld lid ∧ env 1 = .box [slV 5 faV l] ∧ env 3 = .int .i64 ((j : Int) - 1) ∧ J j σ n) (fun j => j) ?_ (lst l).length _ _ _ ⟨Nat.le_refl _, rfl, rfl, rfl, h0⟩
  intro j env σ n ⟨hj, g1, g2, g3, g4⟩
  cases j with
  | zero =>
    have hd : decide ((0 : Int) ≤ ((0 : Nat) : Int) - 1) = false := by decide
    simp +contextual -implicitDefEqProofs (maxSteps := 2000000) only [↓wP, wQ, wQ1, wQ2, wQ3, wR, boxE, partsOf, ↓reduceIte, n1w, n2w, n3w, n4w, n5w, n6w, reduceCtorEq, i1w, i2w, i3w, i4w, i5w, g1, g2, g3, hd]
    exact g4
  | succ j =>
    have hj1 : (((j + 1 : Nat) : Int) - 1) = (j : Int) := by omega
    rw [hj1] at g3
    have hd : decide ((0 : Int) ≤ (j : Int)) = true := by simp
    have hwj : IntKind.i64.wrap ((j : Int) - 1) = (j : Int) - 1 := by rw [wrap_i64] <;> omega
    have hx : (lst l)[j]? = some (lst l)[j] := List.getElem?_eq_getElem (by omega)
    have hn := hy j σ n (by omega) g4
    generalize (lst l)[j] = x at *
    rw [faV_eq] at hn
    simp +contextual -implicitDefEqProofs (maxSteps := 2000000) only [↓wP, wQ, wQ1, wQ2, wQ3, wR, boxE, partsOf, ↓reduceIte, n1w, n2w, n3w, n4w, n5w, n6w, reduceCtorEq, i1w, i2w, i3w, i4w, i5w, g1, g2, g3, hd, hx, faV_eq]
    refine stepW_yld (yieldW_mono (fun _ _ x => x) run_mono (fun y σ' n' ⟨hy1, hy2⟩ => ?_) hn)
    subst hy1
    simp +contextual -implicitDefEqProofs (maxSteps := 2000000) only [↓wP, wQ, wQ1, wQ2, wQ3, wR, boxE, partsOf, ↓reduceIte, n1w, n2w, n3w, n4w, n5w, n6w, reduceCtorEq, i1w, i2w, i3w, i4w, i5w, g1, g2, g3, hwj]
    exact ⟨j, by omega, by omega, rfl, hy2⟩
theorem storedLoop {env : Nat → V} {σ : Sto} {n : Nat} {Q : Ex → St → Prop} (l : Option (List Fa)) (c fl : Int) (hl : (lst l).length ≤ 1000000)
    (hg : env 26 = .fn 98 [.box [slV 5 faV l]]) (h4 : env 4 = .ptr 0 1 0 0) (h5 : env 5 = .ptr 1 1 0 0) (h9 : env 9 = .ptr 4 1 0 0) (h10 : env 10 = .ptr 5 1 0 0)
    (s0 : σ 0 = some (.row 1 [.int .i64 c])) (s01 : σ 1 = some (.row 1 [.int .u64 fl])) (s1 : σ 3 = some (.map (ens uV uV []) 0)) (s2 : σ 4 = some (.row 1 [.mp 3])) (s3 : σ 5 = some (.row 1 [.int .i64 0])) (hn : 6 ≤ n)
    (hQ : ∀ σ' n', n ≤ n' → σ' 5 = some (.row 1 [.int .i64 (stN c fl (lst l) : Int)]) → Q .normal ⟨env, σ', n', 0⟩) :
    WC T (.rangeF (.tmp 26) [27, 28] (.reg [⟨(some 12), none, .alloc (.agg [(.int .u64 0), (.int .i64 0), (.int .u64 0), (.bool false), .nilS])⟩, ⟨none, none, .store 5 (.tmp 12) (.tmp 28)⟩]) (.block 1 (.seq (.seq (.reg [⟨(some 29), none, .faddr (.tmp 12) 1⟩, ⟨(some 30), none, .faddr (.tmp 29) 0⟩, ⟨(some 31), none, .load false 1 (.tmp 30)⟩, ⟨(some 32), none, .load false 1 (.tmp 4)⟩, ⟨(some 33), none, .bin .neq (.tmp 31) (.tmp 32)⟩]) (.cond (.tmp 33) (.exit 1) .skip)) (.seq (.seq (.reg [⟨(some 35), none, .load false 1 (.tmp 9)⟩, ⟨(some 36), none, .faddr (.tmp 12) 1⟩, ⟨(some 37), none, .faddr (.tmp 36) 1⟩, ⟨(some 38), none, .load false 1 (.tmp 37)⟩, ⟨(some 39), none, .mget true (.one .int) (.int .u64 0) (.tmp 35) (.tmp 38)⟩, ⟨(some 34), none, .mov (.tmp 39)⟩, ⟨(some 40), none, .ext (.tmp 34) 0⟩, ⟨(some 41), none, .ext (.tmp 34) 1⟩, ⟨(some 13), none, .mov (.tmp 40)⟩, ⟨(some 14), none, .mov (.tmp 41)⟩]) (.seq (.reg [⟨(some 42), none, .faddr (.tmp 12) 1⟩, ⟨(some 43), none, .faddr (.tmp 42) 2⟩, ⟨(some 44), none, .load false 1 (.tmp 43)⟩, ⟨(some 45), none, .un .not (.tmp 44)⟩, ⟨(some 46), none, .mov (.tmp 45)⟩, ⟨(some 47), (some (46, true)), .mov (.tmp 14)⟩, ⟨(some 48), (some (46, true)), .un .not (.tmp 47)⟩, ⟨(some 49), (some (46, true)), .mov (.tmp 48)⟩, ⟨(some 50), (some (49, false)), .mov (.tmp 13)⟩, ⟨(some 51), (some (49, false)), .load false 1 (.tmp 5)⟩, ⟨(some 52), (some (49, false)), .bin .gtr (.tmp 50) (.tmp 51)⟩, ⟨(some 53), (some (46, true)), .pick (.tmp 49) (.con (.bool true)) (.tmp 52)⟩, ⟨(some 54), none, .pick (.tmp 46) (.tmp 53) (.con (.bool false))⟩]) (.cond (.tmp 54) (.reg [⟨(some 55), none, .load false 1 (.tmp 10)⟩, ⟨(some 56), none, .bin .add (.tmp 55) (.con (.int .i64 1))⟩, ⟨none, none, .store 1 (.tmp 10) (.tmp 56)⟩]) .skip))) (.reg [⟨(some 57), none, .load false 1 (.tmp 9)⟩, ⟨(some 58), none, .faddr (.tmp 12) 1⟩, ⟨(some 59), none, .faddr (.tmp 58) 1⟩, ⟨(some 60), none, .load false 1 (.tmp 59)⟩, ⟨(some 61), none, .faddr (.tmp 12) 0⟩, ⟨(some 62), none, .load false 1 (.tmp 61)⟩, ⟨none, none, .mupd (.one .int) (.tmp 57) (.tmp 60) (.tmp 62)⟩]))))) env σ n 0 Q := by
  refine WC_rangeF hg (Nat.zero_le _) ?_
  generalize hA : AC.reg [⟨some 12, none, .alloc _⟩, ⟨none, none, .store 5 (.tmp 12) (.tmp 28)⟩] = asg
  generalize hB : AC.block 1 _ = bd
  refine run_mono _ _ _ (fun o ho => ?_) (that98 l (fun j σ' n' => n < n' ∧ σ' n = some (.loop env [27, 28] asg bd .ready none) ∧ σ' 0 = some (.row 1 [.int .i64 c]) ∧ σ' 1 = some (.row 1 [.int .u64 fl]) ∧ σ' 4 = some (.row 1 [.mp 3]) ∧ σ' 5 = some (.row 1 [.int .i64 (stN c fl ((lst l).drop j) : Int)]) ∧
    ∃ Lm clk, MOk Lm clk ∧ σ' 3 = some (.map (ens uV uV Lm) clk) ∧ ∀ id, vw Lm id = nx ((lst l).drop j) c id) n hl ?_ _ _ ?_)
  · cases o <;> try exact ho.elim
    obtain ⟨e1, e2, d1, d2, e3, e4, -⟩ := ho
    refine ⟨_, _, _, _, _, _, e2, by decide, ?_⟩
    exact hQ _ _ (by omega) (by rw [upd_ne (by omega)]; exact e4)
  · rintro j σ' n' hj ⟨e1, e2, d1, d2, e3, e4, Lm, clk, m1, m2, m3⟩
    have hst := stN_drop (c := c) (fl := fl) hj
    have hnx := fun id => nx_drop (c := c) (id := id) hj
    have hlen := stN_le c fl ((lst l).drop (j + 1))
    rw [List.length_drop] at hlen
    generalize stN c fl ((lst l).drop (j + 1)) = N at *
    generalize stN c fl ((lst l).drop j) = M at *
    generalize nx ((lst l).drop (j + 1)) c = F at *
    generalize nx ((lst l).drop j) c = G at *
    generalize (lst l)[j] = x at *
    refine yieldW_go e2 rfl (Nat.zero_le _) ?_ (hd := ⟨by rw [← hA]; rfl, by rw [← hB]; rfl⟩)
    obtain ⟨LR, hLR⟩ : ∃ LR, LR = Ob.loop env [27, 28] asg bd .ready none := ⟨_, rfl⟩
    obtain ⟨LB, hLB⟩ : ∃ LB, LB = Ob.loop env [27, 28] asg bd .busy none := ⟨_, rfl⟩
    rw [← hLR] at e2 ⊢
    rw [← hLB]
    subst hA
    subst hB
    have a1 : (0 = n) = False := by simp; omega
    have a2 : (n = 0) = False := by simp; omega
    have a3 : (0 = n') = False := by simp; omega
    have a4 : (n' = 0) = False := by simp; omega
    have a5 : (1 = n) = False := by simp; omega
    have a6 : (n = 1) = False := by simp; omega
    have a7 : (1 = n') = False := by simp; omega
    have a8 : (n' = 1) = False := by simp; omega
    have a9 : (3 = n) = False := by simp; omega
    have a10 : (n = 3) = False := by simp; omega
    have a11 : (3 = n') = False := by simp; omega
    have a12 : (n' = 3) = False := by simp; omega
    have a13 : (4 = n) = False := by simp; omega
    have a14 : (n = 4) = False := by simp; omega
    have a15 : (4 = n') = False := by simp; omega
    have a16 : (n' = 4) = False := by simp; omega
    have a17 : (5 = n) = False := by simp; omega
    have a18 : (n = 5) = False := by simp; omega
    have a19 : (5 = n') = False := by simp; omega
    have a20 : (n' = 5) = False := by simp; omega
    have a21 : (n = n') = False := by simp; omega
    have a22 : (n' = n) = False := by simp; omega
    have a23 : ((0 : Nat) = 3) = False := by simp
    have a24 : ((0 : Nat) = 5) = False := by simp
    have a25 : ((1 : Nat) = 3) = False := by simp
    have a26 : ((1 : Nat) = 5) = False := by simp
    have a27 : ((3 : Nat) = 5) = False := by simp
    have a28 : ((4 : Nat) = 3) = False := by simp
    have a29 : ((4 : Nat) = 5) = False := by simp
    have a30 : ((5 : Nat) = 3) = False := by simp
    rw [faV_eq]
    by_cases hc : x.w.c = c
    · have hb : (x.w.c != c) = false := by simp [hc]
      have hmg : mgetE true (.one .int) (.int .u64 0) (some (ens uV uV Lm)) (.int .u64 x.w.id) = some (.tup [.int .u64 ((F x.w.id).getD 0), .bool (F x.w.id).isSome]) := by
        have := mget_ens (ve := uV) keyU true (.int .u64 0) x.w.id Lm
        simp only [uV] at this
        rw [this, m3]
        cases F x.w.id <;> rfl
      have pu := fun (σX : Sto) (h : σX 3 = some (.map (ens uV uV Lm) clk)) (nn : Nat) => mupd_ens (ke := uV) (ve := uV) (lk := 0) keyU m1 h (Nat.zero_le _) x.w.id x.ts nn
      simp only [uV] at pu
      have hnew : ∀ id, vw (mput Lm clk x.w.id x.ts).1 id = G id := by
        intro id
        rw [vw_mput, m3, hnx]
        by_cases e : id = x.w.id
        · rw [if_pos e, if_pos ⟨hc, e.symm⟩]
        · rw [if_neg e, if_neg (fun h => e h.2.symm)]
      have hwN : IntKind.i64.wrap ((N : Int) + 1) = (N : Int) + 1 := by rw [wrap_i64] <;> omega
      have hN1 : ((1 + N : Nat) : Int) = (N : Int) + 1 := by omega
      unfold ok1 at hst
      rw [decide_eq_true hc, Bool.true_and] at hst
      cases hg : x.w.g
      all_goals rw [hg] at hst
      · cases hv : F x.w.id with
        | none =>
          rw [hv] at hmg hst
          rw [if_pos (by rfl), ] at hst
          simp only [Option.getD_none, Option.isSome_none] at hmg
          simp +contextual -implicitDefEqProofs (maxSteps := 2000000) only [↓wP, wQ, wQ1, wQ2, wQ3, wR, boxE, partsOf, ↓reduceIte, n1w, n2w, n3w, n4w, n5w, n6w, reduceCtorEq, i1w, i2w, i3w, i4w, i5w, bind_cons, bind_nil, h4, h5, h9, h10, e2, d1, d2, e3, e4, m2, a1, a2, a3, a4, a5, a6, a7, a8, a9, a10, a11, a12, a13, a14, a15, a16, a17, a18, a19, a20, a21, a22, a23, a24, a25, a26, a27, a28, a29, a30, hb, hmg, hg, hwN, pu]
          exact ⟨by omega, by rw [hst, hN1], _, _, mput_ok m1 _ _, rfl, hnew⟩
        | some t =>
          rw [hv] at hmg hst
          simp only [Option.getD_some, Option.isSome_some] at hmg
          by_cases ht : fl < t
          · have hdt : decide (fl < t) = true := decide_eq_true ht
            simp only [hdt, Bool.not_false, Bool.and_self, if_true] at hst
            simp +contextual -implicitDefEqProofs (maxSteps := 2000000) only [↓wP, wQ, wQ1, wQ2, wQ3, wR, boxE, partsOf, ↓reduceIte, n1w, n2w, n3w, n4w, n5w, n6w, reduceCtorEq, i1w, i2w, i3w, i4w, i5w, bind_cons, bind_nil, h4, h5, h9, h10, e2, d1, d2, e3, e4, m2, a1, a2, a3, a4, a5, a6, a7, a8, a9, a10, a11, a12, a13, a14, a15, a16, a17, a18, a19, a20, a21, a22, a23, a24, a25, a26, a27, a28, a29, a30, hb, hmg, hg, hdt, hwN, pu]
            exact ⟨by omega, by rw [hst, hN1], _, _, mput_ok m1 _ _, rfl, hnew⟩
          · have hdt : decide (fl < t) = false := decide_eq_false ht
            simp only [hdt, Bool.and_false, Bool.false_eq_true, if_false, Nat.zero_add] at hst
            simp +contextual -implicitDefEqProofs (maxSteps := 2000000) only [↓wP, wQ, wQ1, wQ2, wQ3, wR, boxE, partsOf, ↓reduceIte, n1w, n2w, n3w, n4w, n5w, n6w, reduceCtorEq, i1w, i2w, i3w, i4w, i5w, bind_cons, bind_nil, h4, h5, h9, h10, e2, d1, d2, e3, e4, m2, a1, a2, a3, a4, a5, a6, a7, a8, a9, a10, a11, a12, a13, a14, a15, a16, a17, a18, a19, a20, a21, a22, a23, a24, a25, a26, a27, a28, a29, a30, hb, hmg, hg, hdt, hwN, pu]
            exact ⟨by omega, by rw [hst], _, _, mput_ok m1 _ _, rfl, hnew⟩
      · simp only [Bool.not_true, Bool.false_and, Bool.false_eq_true, if_false, Nat.zero_add] at hst
        simp +contextual -implicitDefEqProofs (maxSteps := 2000000) only [↓wP, wQ, wQ1, wQ2, wQ3, wR, boxE, partsOf, ↓reduceIte, n1w, n2w, n3w, n4w, n5w, n6w, reduceCtorEq, i1w, i2w, i3w, i4w, i5w, bind_cons, bind_nil, h4, h5, h9, h10, e2, d1, d2, e3, e4, m2, a1, a2, a3, a4, a5, a6, a7, a8, a9, a10, a11, a12, a13, a14, a15, a16, a17, a18, a19, a20, a21, a22, a23, a24, a25, a26, a27, a28, a29, a30, hb, hmg, hg, hwN, pu]
        exact ⟨by omega, by rw [hst], _, _, mput_ok m1 _ _, rfl, hnew⟩
    · have hb : (x.w.c != c) = true := by simp [hc]
      unfold ok1 at hst
      rw [decide_eq_false hc, Bool.false_and, if_neg (by decide), Nat.zero_add] at hst
      simp +contextual -implicitDefEqProofs (maxSteps := 2000000) only [↓wP, wQ, wQ1, wQ2, wQ3, wR, boxE, partsOf, ↓reduceIte, n1w, n2w, n3w, n4w, n5w, n6w, reduceCtorEq, i1w, i2w, i3w, i4w, i5w, bind_cons, bind_nil, h4, h5, h9, h10, e2, d1, d2, e3, e4, m2, a1, a2, a3, a4, a5, a6, a7, a8, a9, a10, a11, a12, a13, a14, a15, a16, a17, a18, a19, a20, a21, a22, a23, a24, a25, a26, a27, a28, a29, a30, hb]
      exact ⟨by omega, by rw [hst], _, _, m1, rfl, fun id => by rw [m3, hnx, if_neg (fun h => hc h.1)]⟩
  · refine ⟨by omega, upd_self _ _ _, by rw [upd_ne (by omega)]; exact s0, by rw [upd_ne (by omega)]; exact s01, by rw [upd_ne (by omega)]; exact s2, ?_, [], 0, MOk.nil, by rw [upd_ne (by omega)]; exact s1, fun id => ?_⟩
    · rw [upd_ne (by omega), List.drop_length]; exact s3
    · rw [List.drop_length]; rfl
end Go.Q.SB
end

section
/- How many rows are stored; a collection's facts dropped, by the document. -/
set_option linter.unusedSimpArgs false
set_option linter.unusedVariables false
namespace Go.Q.SB
open Go.Q Go.Sort
open Nat renaming reduceEqDiff → n1w, reduceAdd → n2w, reduceSub → n3w, reduceLeDiff → n4w, reduceLT → n5w, reduceMul → n6w
open Int renaming reduceBNe → i1w, reduceBEq → i2w, reduceLT → i3w, reduceLE → i4w, reduceGT → i5w
def stdN (l : List Fa) (c fl : Int) : Int := if stE l c = 0 then (stN c fl l : Int) else 0
theorem r30 (l : Option (List Fa)) (c fl : Int) (h : FitF (lst l)) : res T 30 [slV 5 faV l, .int .i64 c, .int .u64 fl] = some (.tup [.int .i64 (stdN (lst l) c fl), .int .i64 (stE (lst l) c)]) := by
  refine run_res (run_pure (fn := g30) rfl rfl (by decide) ?_)
  simp only [g30, b30, oO, oN, mV, lD, gO, pP, qQ, cI, aR]
  have f24' := f24 l h.sm
  have f59' := f59 c
  have hl := h.1
  have hm44 : T.mode 44 ≠ .raw := by decide
  unfold stdN stE
  cases hrf : rightF (lst l)
  · rw [hrf] at f24'
    rw [if_neg (by decide)] at f24'
    have r := r44 280 (if collB c = true then 0 else 2)
    rw [if_neg (show ¬ (280 : Int) = 0 by decide)] at r
    have z0 : ((280 : Int) != 0) = true := rfl
    simp +contextual -implicitDefEqProofs (maxSteps := 2000000) only [↓wP, wQ, wQ1, wQ2, wQ3, wR, boxE, partsOf, ↓reduceIte, n1w, n2w, n3w, n4w, n5w, n6w, reduceCtorEq, i1w, i2w, i3w, i4w, i5w, f24', f59', callE_eq hm44, frz_rf, rch_rf, r, z0, Nat.mul_zero, Nat.le_refl]
    rfl
  rw [hrf] at f24'
  rw [if_pos rfl] at f24'
  cases hrw : collB c
  · rw [hrw] at f59'
    rw [if_neg (by decide)] at f59'
    have r := r44 0 2
    rw [if_pos rfl] at r
    have z0 : ((2 : Int) != 0) = true := rfl
    simp +contextual -implicitDefEqProofs (maxSteps := 2000000) only [↓wP, wQ, wQ1, wQ2, wQ3, wR, boxE, partsOf, ↓reduceIte, n1w, n2w, n3w, n4w, n5w, n6w, reduceCtorEq, i1w, i2w, i3w, i4w, i5w, f24', f59', callE_eq hm44, frz_rf, rch_rf, r, z0, Nat.mul_zero, Nat.le_refl]
    rfl
  rw [hrw] at f59'
  rw [if_pos rfl] at f59'
  have r := r44 0 0
  rw [if_pos rfl] at r
  have z0 : ((0 : Int) != 0) = false := rfl
  obtain ⟨σ0, hσ0⟩ : ∃ σ0, σ0 = upd (upd (upd (upd (upd (upd (upd (upd Sto.empty 0 (some (.row 1 [.int .i64 c]))) 1 (some (.row 1 [.int .u64 fl]))) 2 (some (.row 1 [.int .i64 0, .int .i64 0]))) 3 (some (.map [] 0))) 4 (some (.row 1 [.nilM]))) 4 (some (.row 1 [.mp 3]))) 5 (some (.row 1 [.int .i64 0]))) 5 (some (.row 1 [.int .i64 0])) := ⟨_, rfl⟩
  have t0 : σ0 0 = some (.row 1 [.int .i64 c]) := by rw [hσ0]; simp [upd]
  have t01 : σ0 1 = some (.row 1 [.int .u64 fl]) := by rw [hσ0]; simp [upd]
  have t1 : σ0 3 = some (.map (ens uV uV []) 0) := by rw [hσ0]; simp [upd, ens]
  have t2 : σ0 4 = some (.row 1 [.mp 3]) := by rw [hσ0]; simp [upd]
  have t3 : σ0 5 = some (.row 1 [.int .i64 0]) := by rw [hσ0]; simp [upd]
  obtain ⟨σa, a1, a2⟩ := f67 (σ := σ0) (n := 6) l
  simp +contextual -implicitDefEqProofs (maxSteps := 2000000) only [↓wP, wQ, wQ1, wQ2, wQ3, wR, boxE, partsOf, ↓reduceIte, n1w, n2w, n3w, n4w, n5w, n6w, reduceCtorEq, i1w, i2w, i3w, i4w, i5w, f24', f59', callE_eq hm44, frz_rf, rch_rf, r, z0, Nat.mul_zero, Nat.le_refl, ← hσ0, a1]
  refine storedLoop l c fl hl rfl rfl rfl rfl rfl (by rw [a2]; exact t0) (by rw [a2]; exact t01) (by rw [a2]; exact t1) (by rw [a2]; exact t2) (by rw [a2]; exact t3) (by omega) (fun σ1 n1 e1 e2 => ?_)
  simp +contextual -implicitDefEqProofs (maxSteps := 2000000) only [↓wP, wQ, wQ1, wQ2, wQ3, wR, boxE, partsOf, ↓reduceIte, n1w, n2w, n3w, n4w, n5w, n6w, reduceCtorEq, i1w, i2w, i3w, i4w, i5w, e2]
theorem f30 (l : Option (List Fa)) (c fl : Int) (h : FitF (lst l)) (fs : Bool) (σ : Sto) (n lk : Nat) : callE T fs 30 [slV 5 faV l, .int .i64 c, .int .u64 fl] σ n lk = some (.tup [.int .i64 (stdN (lst l) c fl), .int .i64 (stE (lst l) c)], σ, n) :=
  callE_tr (by decide) (r30 l c fl h) (by simp [Tr, Tr_slV]) (by simp [Nw, Nw_slV]) fs σ n lk
def okZ (c fl : Int) (f : Fa) (t : Int) : Bool := t == 0 || decide (fl < t)
theorem ok1_z {c fl : Int} {f : Fa} {o : Option Int} (hc : f.w.c = c) (hg : f.w.g = false) (ho : ∀ t, o = some t → 1 ≤ t) : ok1 c fl f o = okZ c fl f (o.getD 0) := by
  unfold ok1 okZ
  rw [decide_eq_true hc, hg]
  cases o with
  | none => rfl
  | some t => have := ho t rfl; have h0 : (t == 0) = false := by simp; omega
              simp [h0]
end Go.Q.SB
end

section
/- IdealTells. -/
set_option linter.unusedSimpArgs false
set_option linter.unusedVariables false
namespace Go.Q.SB
open Go.Q Go.Sort
theorem okU_ll {l : List Fa} : ∀ (n : Nat), okU l n = true → ∀ j (hj : j < l.length), j < n → oneF l j l[j] = true
  | 0, _, j, _, h => absurd h (by omega)
  | n + 1, hk, j, hj, h => by
    by_cases hn : n < l.length
    · have := okU_step hn hk
      by_cases e : j = n
      · subst e; exact this.2
      · exact okU_ll n this.1 j hj (by omega)
    · unfold okU at hk
      rw [Bool.and_eq_true] at hk
      exact okU_ll n hk.1 j hj (by omega)
end Go.Q.SB
end

section
/- IdealGrows. -/
set_option linter.unusedSimpArgs false
set_option linter.unusedVariables false
namespace Go.Q.SB
open Go.Q Go.Sort
theorem right_ts2 {l : List Fa} (h : rightF l = true) : ∀ f ∈ l, 1 ≤ f.ts ∧ f.ts ≤ 1099511627776 := by
  unfold rightF at h
  simp only [Bool.and_eq_true] at h
  intro f hf
  obtain ⟨j, hj, rfl⟩ := List.mem_iff_getElem.1 hf
  have := okU_ll _ h.1.2 j hj hj
  unfold oneF one1 at this
  simp only [Bool.and_eq_true, decide_eq_true_eq] at this
  exact this.1.1.1
end Go.Q.SB
end

section
/- Chains: Put and Del. -/
set_option linter.unusedSimpArgs false
set_option linter.unusedVariables false
namespace Go.Q.SB.Ch
open Go.Q
open Nat renaming reduceEqDiff → n1w, reduceAdd → n2w, reduceSub → n3w, reduceLeDiff → n4w, reduceLT → n5w, reduceMul → n6w
open Int renaming reduceBNe → i1w, reduceBEq → i2w, reduceLT → i3w, reduceLE → i4w, reduceGT → i5w
theorem verV_eq (x : Ver) : verV x = .agg [.int .u64 x.b, .int .u64 x.e, slV 1 i32V x.v] := rfl
def vs (o : Option (List Ver)) : Option (List V) := o.map (List.map verV)
theorem slV_vs (o : Option (List Ver)) : slV 3 id (vs o) = slV 3 verV o := by cases o <;> simp [vs, slV]
theorem raw81 (σ : Sto) (n id : Nat) (rows : List V) (N : Nat) (b e : Int) (w : V) (ts : Int) (hN : rows.length = N) (hpos : 0 < N) (hlt : N < 9223372036854775808) (hσ : σ id = some (.row 3 rows)) (hx : rows[N - 1]? = some (.agg [.int .u64 b, .int .u64 e, w])) (hw : w.one = true)
    {Q : V → Sto → Nat → Prop} (hQ : Q (.bool (e == 0)) (if e = 0 then upd σ id (some (.row 3 (rows.set (N - 1) (.agg [.int .u64 b, .int .u64 ts, w])))) else σ) n) :
    run T (.raw 81 [.ref id 0 N 3, .int .u64 ts] σ n 0) (memQ Q) := by
  refine run_rawE (fn := g81) rfl rfl ?_
  simp only [g81, b81, oO, oN, mV, lD, gO, pP, qQ, cI, aR]
  have h0 : ((N : Int) == 0) = false := by simp; omega
  have hw1 : IntKind.i64.wrap ((N : Int) - 1) = ((N - 1 : Nat) : Int) := by rw [wrap_i64] <;> omega
  have hl : N - 1 < N := by omega
  cases he : e == 0
  · have he' : e ≠ 0 := by simpa using he
    have hd : (e != 0) = true := by simpa using he'
    rw [he, if_neg he'] at hQ
    simp +contextual -implicitDefEqProofs (maxSteps := 2000000) only [↓wP, wQ, wQ1, wQ2, wQ3, wR, boxE, partsOf, ↓reduceIte, n1w, n2w, n3w, n4w, n5w, n6w, reduceCtorEq, i1w, i2w, i3w, i4w, i5w, h0, hw1, hl, hσ, hx, hd]
    exact hQ
  · have he' : e = 0 := by simpa using he
    subst he'
    rw [he, if_pos rfl] at hQ
    simp +contextual -implicitDefEqProofs (maxSteps := 2000000) only [↓wP, wQ, wQ1, wQ2, wQ3, wR, boxE, partsOf, ↓reduceIte, n1w, n2w, n3w, n4w, n5w, n6w, reduceCtorEq, i1w, i2w, i3w, i4w, i5w, h0, hw1, hl, hσ, hx, hw]
    exact hQ
theorem raw81n (σ : Sto) (n : Nat) (ts : Int) {Q : V → Sto → Nat → Prop} (hQ : Q (.bool false) σ n) : run T (.raw 81 [.nilS, .int .u64 ts] σ n 0) (memQ Q) := by
  refine run_rawE (fn := g81) rfl rfl ?_
  simp only [g81, b81, oO, oN, mV, lD, gO, pP, qQ, cI, aR]
  have h0 : (((0 : Nat) : Int) == 0) = true := rfl
  simp +contextual -implicitDefEqProofs (maxSteps := 2000000) only [↓wP, wQ, wQ1, wQ2, wQ3, wR, boxE, partsOf, ↓reduceIte, n1w, n2w, n3w, n4w, n5w, n6w, reduceCtorEq, i1w, i2w, i3w, i4w, i5w, h0]
  exact hQ
def openL (L : List Ver) : Bool := match L.getLast? with
  | some x => x.e == 0
  | none => false
def closeL (ts : Int) (L : List Ver) : List Ver := match L.getLast? with
  | some x => if x.e = 0 then L.dropLast ++ [⟨x.b, ts, x.v⟩] else L
  | none => L
theorem closeL_len (ts : Int) (L : List Ver) : (closeL ts L).length = L.length := by
  rcases List.eq_nil_or_concat L with rfl | ⟨A, x, rfl⟩
  · rfl
  · rw [List.concat_eq_append]
    unfold closeL
    simp only [List.getLast?_append, List.getLast?_singleton, Option.some_or]
    split <;> simp
theorem pl81 {σ : Sto} {m n0 n : Nat} {v : V} {o : Option (List Ver)} (h : Pl σ m n0 3 v (vs o)) (hlen : (lst o).length < 9223372036854775808) (ts : Int) {Q : V → Sto → Nat → Prop}
    (hQ : ∀ σ', Pl σ' m n0 3 v (vs (o.map (closeL ts))) → (∀ i, ¬ (m ≤ i ∧ i < n0) → σ' i = σ i) → Q (.bool (openL (lst o))) σ' n) : run T (.raw 81 [v, .int .u64 ts] σ n 0) (memQ Q) := by
  cases o with
  | none =>
    have h' : v = .nilS := h
    subst h'
    exact raw81n σ n ts (hQ σ rfl (fun _ _ => rfl))
  | some L =>
    obtain ⟨id, rfl, h1, h2, h3⟩ := h
    rcases List.eq_nil_or_concat L with rfl | ⟨A, x, rfl⟩
    · have : run T (.raw 81 [.ref id 0 0 3, .int .u64 ts] σ n 0) (memQ Q) := by
        refine run_rawE (fn := g81) rfl rfl ?_
        simp only [g81, b81, oO, oN, mV, lD, gO, pP, qQ, cI, aR]
        have h0 : (((0 : Nat) : Int) == 0) = true := rfl
        simp +contextual -implicitDefEqProofs (maxSteps := 2000000) only [↓wP, wQ, wQ1, wQ2, wQ3, wR, boxE, partsOf, ↓reduceIte, n1w, n2w, n3w, n4w, n5w, n6w, reduceCtorEq, i1w, i2w, i3w, i4w, i5w, h0]
        exact hQ σ ⟨id, rfl, h1, h2, h3⟩ (fun _ _ => rfl)
      exact this
    · rw [List.concat_eq_append] at *
      have hlen' : ((A ++ [x]).map verV).length = A.length + 1 := by simp
      rw [hlen']
      rw [lst_some] at hlen
      refine raw81 σ n id ((A ++ [x]).map verV) (A.length + 1) x.b x.e (slV 1 i32V x.v) ts hlen' (by omega) (by simpa using hlen) h1 (by simp [verV]) (by cases x.v <;> rfl) ?_
      have ho : openL (lst (some (A ++ [x]))) = (x.e == 0) := by simp [openL, lst_some]
      rw [← ho]
      have hc : closeL ts (A ++ [x]) = if x.e = 0 then A ++ [⟨x.b, ts, x.v⟩] else A ++ [x] := by simp [closeL]
      by_cases he : x.e = 0
      · rw [if_pos he] at hc ⊢
        refine hQ _ ?_ (fun k hk => upd_ne (fun e => hk (by subst e; exact ⟨h2, h3⟩)))
        unfold vs
        rw [Option.map_some, Option.map_some, hc]
        refine ⟨id, by simp, ?_, h2, h3⟩
        rw [upd_self, Nat.add_sub_cancel, List.map_append, List.map_append, List.set_append_right _ _ (by simp)]
        simp [verV]
      · rw [if_neg he] at hc ⊢
        refine hQ _ ?_ (fun _ _ => rfl)
        unfold vs
        rw [Option.map_some, Option.map_some, hc]
        exact ⟨id, by simp, h1, h2, h3⟩
theorem pl_append {σ : Sto} {m n0 lab : Nat} {v : V} {o : Option (List Ver)} {y : Ver} (h : Pl σ m n0 3 v (vs o)) (hn : n0 ≤ lab) (hml : m ≤ lab) (hl : ((lst o).length + 1) * 40 ≤ LIM) :
    ∃ v' σ', appendE 3 40 0 v (some [verV y]) σ lab = some (v', σ', lab + 1) ∧ v'.cells = [v'] ∧ v'.one = true ∧ (∀ σ2 : Sto, σ2 lab = σ' lab → Pl σ2 m (lab + 1) 3 v' (vs (some (lst o ++ [y])))) ∧ ∀ k, k < lab → ¬ (m ≤ k ∧ k < n0) → σ' k = σ k := by
  cases o with
  | none =>
    have h' : v = .nilS := h
    subst h'
    have h1 : (1 : Nat) * 40 ≤ LIM := by unfold LIM; omega
    rw [appendE_nil]
    simp only [List.isEmpty_cons, Bool.false_eq_true, if_false, List.length_cons, List.length_nil, Nat.zero_add, h1, if_true]
    exact ⟨_, _, rfl, rfl, rfl, fun σ2 hσ2 => ⟨lab, rfl, by rw [hσ2]; simp [upd, lst, vs], hml, by omega⟩, fun k hk _ => upd_ne (by omega)⟩
  | some L =>
    obtain ⟨i, rfl, h1, h2, h3⟩ := h
    rw [lst_some] at hl
    rw [appendE_ref, h1, appE_row', if_pos ⟨.inl rfl, Nat.zero_le _, by simpa using hl⟩]
    refine ⟨_, _, rfl, rfl, rfl, fun σ2 hσ2 => ⟨lab, by simp [lst, vs], ?_, hml, by omega⟩, fun k hk hk' => ?_⟩
    · rw [hσ2]
      simp [lst, vs, upd]
    · have a1 : k ≠ lab := by omega
      have a2 : k ≠ i := fun e => hk' (by subst e; exact ⟨h2, h3⟩)
      simp only [if_true, upd_get, a1, a2, if_false]
theorem raw82 {σ : Sto} {m n0 n pc : Nat} {cv : V} {o : Option (List Ver)} (hc : Pl σ m n0 3 cv (vs o)) (hp : σ pc = some (.row 1 [cv])) (hlen : (lst o).length < 9223372036854775808) (ts : Int) {Q : V → Sto → Nat → Prop}
    (hQ : ∀ σ', Pl σ' m n0 3 cv (vs (o.map (closeL ts))) → (∀ i, ¬ (m ≤ i ∧ i < n0) → σ' i = σ i) → Q (.int .i64 (if openL (lst o) = true then 0 else 4)) σ' n) :
    run T (.raw 82 [.ptr pc 1 0 0, .box [.int .u64 ts]] σ n 0) (memQ Q) := by
  refine run_rawE (fn := g82) rfl rfl ?_
  simp only [g82, b82, oO, oN, mV, lD, gO, pP, qQ, cI, aR]
  have hcl := hc.cells
  simp +contextual -implicitDefEqProofs (maxSteps := 2000000) only [↓wP, wQ, wQ1, wQ2, wQ3, wR, boxE, partsOf, ↓reduceIte, n1w, n2w, n3w, n4w, n5w, n6w, reduceCtorEq, i1w, i2w, i3w, i4w, i5w, hp, hcl]
  refine stepW_raw (by decide) (pl81 hc hlen ts fun σ' h1 h2 => ?_)
  have hQ := hQ σ' h1 h2
  cases ho : openL (lst o) <;> rw [ho] at hQ <;> simp +contextual -implicitDefEqProofs (maxSteps := 2000000) only [↓wP, wQ, wQ1, wQ2, wQ3, wR, boxE, partsOf, ↓reduceIte, n1w, n2w, n3w, n4w, n5w, n6w, reduceCtorEq, i1w, i2w, i3w, i4w, i5w] <;> exact hQ
def delO (o : Option (List Ver)) (ts : Int) : Option (List Ver) := if okC o = true ∧ lastC (lst o) < ts ∧ ts ≤ 1099511627776 ∧ openL (lst o) = true then o.map (closeL ts) else none
def delE (o : Option (List Ver)) (ts : Int) : Int := if okC o = false then 180 else if ts ≤ lastC (lst o) ∨ 1099511627776 < ts then 181 else if openL (lst o) = true then 0 else 4
def dimP (o : Option (List Ver)) (l : Option (List Int)) : Int := match lst o with
  | [] => ((lst l).length : Int)
  | x :: _ => ((lst x.v).length : Int)
def putN (o : Option (List Ver)) (l : Option (List Int)) : Int := if okV l = true then (if ((lst l).length : Int) = dimP o l then (if (lst o).length = 96 then 6 else 0) else 151) else 150
theorem pl_len {σ : Sto} {m n : Nat} {v : V} {o : Option (List Ver)} (h : Pl σ m n 3 v (vs o)) : lenE v = some (.int .i64 ((lst o).length : Int)) := by
  cases o with
  | none => have h' : v = .nilS := h; subst h'; rfl
  | some L => obtain ⟨i, rfl, -⟩ := h; simp [lst]; rfl
theorem len_cases {σ : Sto} {m n : Nat} {v : V} {o : Option (List Ver)} (h : Pl σ m n 3 v (vs o)) (hne : 0 < (lst o).length) :
    ∃ (id N : Nat) (x : Ver) (rows : List V), v = .ref id 0 N 3 ∧ 0 < N ∧ σ id = some (.row 3 rows) ∧ rows[0]? = some (.agg [.int .u64 x.b, .int .u64 x.e, slV 1 i32V x.v]) ∧ ∀ l, dimP o l = ((lst x.v).length : Int) := by
  cases o with
  | none => simp [lst] at hne
  | some L =>
    obtain ⟨id, rfl, h1, -, -⟩ := h
    cases L with
    | nil => simp [lst] at hne
    | cons x L => exact ⟨id, _, x, _, rfl, by simp, h1, rfl, fun l => rfl⟩
theorem raw79 {σ : Sto} {m n0 n pc : Nat} {cv : V} {o : Option (List Ver)} (hc : Pl σ m n0 3 cv (vs o)) (hmn : m ≤ n0) (hn : n0 ≤ n) (hpn : pc < n) (hpc : ¬ (m ≤ pc ∧ pc < n0)) (hp : σ pc = some (.row 1 [cv]))
    (hlen : (lst o).length < 9223372036854775808) (hf : ((lst o).length + 1) * 40 ≤ LIM) (l : Option (List Int)) (hl : (lst l).length * 4 ≤ LIM) (ts : Int) {Q : V → Sto → Nat → Prop}
    (hQ0 : putN o l ≠ 0 → Q (.int .i64 (putN o l)) σ n)
    (hQ1 : putN o l = 0 → ∀ σ' n' cv', σ' pc = some (.row 1 [cv']) → Pl σ' m n' 3 cv' (vs (some (lst (o.map (closeL ts)) ++ [⟨ts, 0, l⟩]))) → Q (.int .i64 0) σ' n') :
    run T (.raw 79 [.ptr pc 1 0 0, .box [slV 1 i32V l], .box [.int .u64 ts]] σ n 0) (memQ Q) := by
  refine run_rawE (fn := g79) rfl rfl ?_
  simp only [g79, b79, oO, oN, mV, lD, gO, pP, qQ, cI, aR]
  have hcl := hc.cells
  have hle := pl_len hc
  have h29 := f80 l (dimP o l) (by unfold LIM at hl; omega)
  have hm50 : T.mode 81 = .raw := by decide
  by_cases h0 : 0 < (lst o).length
  · obtain ⟨id, N, x, rows, hcv, hN, r1, r2, r3⟩ := len_cases hc h0
    have hia : iaddrE 3 cv (.int .i64 0) = some (.ptr id 3 0 0) := by rw [hcv, iaddrE_r0, if_pos hN]
    have hd : decide ((0 : Int) < ((lst o).length : Int)) = true := by simp; omega
    have hdim := r3 l
    rw [hdim] at h29
    by_cases hok : okV l = true
    · by_cases hdm : ((lst l).length : Int) = ((lst x.v).length : Int)
      · by_cases h96 : (lst o).length = 96
        · have hp6 : putN o l = 6 := by simp [putN, hok, hdim, hdm, h96]
          have hd6 : (((lst o).length : Int) == 96) = true := by simp; omega
          rw [hp6] at hQ0
          simp +contextual -implicitDefEqProofs (maxSteps := 2000000) only [↓wP, wQ, wQ1, wQ2, wQ3, wR, boxE, partsOf, ↓reduceIte, n1w, n2w, n3w, n4w, n5w, n6w, reduceCtorEq, i1w, i2w, i3w, i4w, i5w, hp, hcl, hle, hd, hia, r1, r2, h29, hok, hdm, hd6]
          exact hQ0 (by decide)
        · have hp0 : putN o l = 0 := by simp [putN, hok, hdim, hdm, h96]
          have hd6 : (((lst o).length : Int) == 96) = false := by simp; omega
          have hQ1 := hQ1 hp0
          simp +contextual -implicitDefEqProofs (maxSteps := 2000000) only [↓wP, wQ, wQ1, wQ2, wQ3, wR, boxE, partsOf, ↓reduceIte, n1w, n2w, n3w, n4w, n5w, n6w, reduceCtorEq, i1w, i2w, i3w, i4w, i5w, hp, hcl, hle, hd, hia, r1, r2, h29, hok, hdm, hd6]
          refine stepW_raw hm50 (pl81 hc hlen ts fun σ1 k1 k2 => ?_)
          have hp1 : σ1 pc = some (.row 1 [cv]) := by rw [k2 pc hpc, hp]
          have h74 := f74 l hl
          have hB := big_le
          have x1 : hide σ1 n n [0] pc = σ1 pc := hide_low σ1 n n _ hpn (Nat.le_refl _)
          have x2 : (n + 1 ≤ n + BIG) = True := by simp; omega
          have x4 : ∀ a b : Sto, merge a b n n = b n := fun a b => merge_in a b _ (Nat.le_refl _) (by omega)
          simp +contextual -implicitDefEqProofs (maxSteps := 2000000) only [↓wP, wQ, wQ1, wQ2, wQ3, wR, boxE, partsOf, ↓reduceIte, n1w, n2w, n3w, n4w, n5w, n6w, reduceCtorEq, i1w, i2w, i3w, i4w, i5w, hp1, hcl, h74, x1, x2, x4]
          have k3 : Pl (merge σ1 (upd σ1 n (some (.row 3 [.agg [.int .u64 ts, .int .u64 0, slV 1 i32V l]]))) n) m n0 3 cv (vs (o.map (closeL ts))) := by
            refine k1.loc (fun i _ hi => ?_) (Nat.le_refl _)
            rw [merge_low _ _ _ (by omega)]
          have hlc : (lst (o.map (closeL ts))).length = (lst o).length := by
            cases o with
            | none => rfl
            | some L => exact closeL_len ts L
          obtain ⟨v2, σ2, a1, b1, b2, a2, a3⟩ := pl_append (y := ⟨ts, 0, l⟩) (lab := n + BIG * 1) k3 (by omega) (by omega) (by rw [hlc]; exact hf)
          have a1' : appendE 3 40 0 cv (some [.agg [.int .u64 ts, .int .u64 0, slV 1 i32V l]]) _ _ = _ := a1
          have x5 : (n + (BIG * 1 + 1) ≤ n + (BIG * 1 + BIG)) = True := by simp; omega
          have a4 := a3 pc (by omega) hpc
          rw [merge_low _ _ _ (by omega), hp1] at a4
          have b3 := spl_one hc.one 0 v2
          simp +contextual -implicitDefEqProofs (maxSteps := 2000000) only [↓wP, wQ, wQ1, wQ2, wQ3, wR, boxE, partsOf, ↓reduceIte, n1w, n2w, n3w, n4w, n5w, n6w, reduceCtorEq, i1w, i2w, i3w, i4w, i5w, a1', x5, a4, b1, b2, b3]
          refine hQ1 _ _ v2 (by simp [upd]) ((a2 _ ?_).loc (fun _ _ _ => rfl) (by omega))
          have : n + BIG * 1 ≠ pc := by omega
          simp only [upd_get, this, if_false]
      · have hp6 : putN o l = 151 := by simp [putN, hok, hdim, hdm]
        rw [hp6] at hQ0
        simp +contextual -implicitDefEqProofs (maxSteps := 2000000) only [↓wP, wQ, wQ1, wQ2, wQ3, wR, boxE, partsOf, ↓reduceIte, n1w, n2w, n3w, n4w, n5w, n6w, reduceCtorEq, i1w, i2w, i3w, i4w, i5w, hp, hcl, hle, hd, hia, r1, r2, h29, hok, hdm]
        exact hQ0 (by decide)
    · have hok' : okV l = false := by simpa using hok
      have hp6 : putN o l = 150 := by simp [putN, hok']
      rw [hp6] at hQ0
      simp +contextual -implicitDefEqProofs (maxSteps := 2000000) only [↓wP, wQ, wQ1, wQ2, wQ3, wR, boxE, partsOf, ↓reduceIte, n1w, n2w, n3w, n4w, n5w, n6w, reduceCtorEq, i1w, i2w, i3w, i4w, i5w, hp, hcl, hle, hd, hia, r1, r2, h29, hok']
      exact hQ0 (by decide)
  · have hd : decide ((0 : Int) < ((lst o).length : Int)) = false := decide_eq_false (by omega)
    have hdim : dimP o l = ((lst l).length : Int) := by
      unfold dimP
      rw [List.length_eq_zero_iff.1 (show (lst o).length = 0 by omega)]
    rw [hdim] at h29
    by_cases hok : okV l = true
    · have h96 : (lst o).length ≠ 96 := by omega
      have hdm : ((lst l).length : Int) = ((lst l).length : Int) := rfl
      have hp0 : putN o l = 0 := by simp [putN, hok, hdim, h96]
      have hd6 : (((lst o).length : Int) == 96) = false := by simp; omega
      have hQ1 := hQ1 hp0
      simp +contextual -implicitDefEqProofs (maxSteps := 2000000) only [↓wP, wQ, wQ1, wQ2, wQ3, wR, boxE, partsOf, ↓reduceIte, n1w, n2w, n3w, n4w, n5w, n6w, reduceCtorEq, i1w, i2w, i3w, i4w, i5w, hp, hcl, hle, hd, hdim, h29, hok, hd6]
      refine stepW_raw hm50 (pl81 hc hlen ts fun σ1 k1 k2 => ?_)
      have hp1 : σ1 pc = some (.row 1 [cv]) := by rw [k2 pc hpc, hp]
      have h74 := f74 l hl
      have hB := big_le
      have x1 : hide σ1 n n [0] pc = σ1 pc := hide_low σ1 n n _ hpn (Nat.le_refl _)
      have x2 : (n + 1 ≤ n + BIG) = True := by simp; omega
      have x4 : ∀ a b : Sto, merge a b n n = b n := fun a b => merge_in a b _ (Nat.le_refl _) (by omega)
      simp +contextual -implicitDefEqProofs (maxSteps := 2000000) only [↓wP, wQ, wQ1, wQ2, wQ3, wR, boxE, partsOf, ↓reduceIte, n1w, n2w, n3w, n4w, n5w, n6w, reduceCtorEq, i1w, i2w, i3w, i4w, i5w, hp1, hcl, h74, x1, x2, x4]
      have k3 : Pl (merge σ1 (upd σ1 n (some (.row 3 [.agg [.int .u64 ts, .int .u64 0, slV 1 i32V l]]))) n) m n0 3 cv (vs (o.map (closeL ts))) := by
        refine k1.loc (fun i _ hi => ?_) (Nat.le_refl _)
        rw [merge_low _ _ _ (by omega)]
      have hlc : (lst (o.map (closeL ts))).length = (lst o).length := by
        cases o with
        | none => rfl
        | some L => exact closeL_len ts L
      obtain ⟨v2, σ2, a1, b1, b2, a2, a3⟩ := pl_append (y := ⟨ts, 0, l⟩) (lab := n + BIG * 1) k3 (by omega) (by omega) (by rw [hlc]; exact hf)
      have a1' : appendE 3 40 0 cv (some [.agg [.int .u64 ts, .int .u64 0, slV 1 i32V l]]) _ _ = _ := a1
      have x5 : (n + (BIG * 1 + 1) ≤ n + (BIG * 1 + BIG)) = True := by simp; omega
      have a4 := a3 pc (by omega) hpc
      rw [merge_low _ _ _ (by omega), hp1] at a4
      have b3 := spl_one hc.one 0 v2
      simp +contextual -implicitDefEqProofs (maxSteps := 2000000) only [↓wP, wQ, wQ1, wQ2, wQ3, wR, boxE, partsOf, ↓reduceIte, n1w, n2w, n3w, n4w, n5w, n6w, reduceCtorEq, i1w, i2w, i3w, i4w, i5w, a1', x5, a4, b1, b2, b3]
      refine hQ1 _ _ v2 (by simp [upd]) ((a2 _ ?_).loc (fun _ _ _ => rfl) (by omega))
      have : n + BIG * 1 ≠ pc := by omega
      simp only [upd_get, this, if_false]
    · have hok' : okV l = false := by simpa using hok
      have hp6 : putN o l = 150 := by simp [putN, hok']
      rw [hp6] at hQ0
      simp +contextual -implicitDefEqProofs (maxSteps := 2000000) only [↓wP, wQ, wQ1, wQ2, wQ3, wR, boxE, partsOf, ↓reduceIte, n1w, n2w, n3w, n4w, n5w, n6w, reduceCtorEq, i1w, i2w, i3w, i4w, i5w, hp, hcl, hle, hd, hdim, h29, hok']
      exact hQ0 (by decide)
def putC (o : Option (List Ver)) (ts : Int) (l : Option (List Int)) : Option (List Ver) :=
  if okC o = true ∧ lastC (lst o) < ts ∧ ts ≤ 1099511627776 ∧ putN o l = 0 then some (lst (o.map (closeL ts)) ++ [⟨ts, 0, l⟩]) else none
def putE (o : Option (List Ver)) (ts : Int) (l : Option (List Int)) : Int := if okC o = false then 180 else if ts ≤ lastC (lst o) ∨ 1099511627776 < ts then 181 else putN o l
theorem t86 (o : Option (List Ver)) (h : FitC o) (σ : Sto) (n lk : Nat) : ∃ v σ' n', callE T true 86 [slV 3 verV o] σ n lk = some (v, σ', n') ∧ Pl σ' n n' 3 v (vs o) ∧ n ≤ n' ∧ ∀ i, i < n → σ' i = σ i := by
  have f := f86 o h true σ n lk
  cases o with
  | none => exact ⟨_, _, _, f, rfl, Nat.le_refl _, fun _ _ => rfl⟩
  | some L => exact ⟨_, _, _, f, ⟨n, rfl, by rw [upd_self], Nat.le_refl _, by omega⟩, by omega, fun i hi => upd_ne (by omega)⟩
theorem frz_pair {σ : Sto} {m n : Nat} {v : V} {o : Option (List Ver)} (h : Pl σ m n 3 v (vs o)) (e : Int) : frz σ 12 (.tup [v, .int .i64 e]) = some (.tup [slV 3 verV o, .int .i64 e]) := by
  have h1 := h.frzk 10 (by cases o with
    | none => simp [vs, lst]
    | some L => exact fun x hx => by obtain ⟨y, -, rfl⟩ := List.mem_map.1 hx; exact tr_ver _ y) (by cases o with
    | none => simp [vs, lst]
    | some L => exact fun x hx c hc => by obtain ⟨y, -, rfl⟩ := List.mem_map.1 hx; exact trc_ver 9 y c hc)
  rw [slV_vs] at h1
  simp only [frz, List.mapM_cons, List.mapM_nil]
  rw [h1]
  rfl
theorem r78 (o : Option (List Ver)) (ts : Int) (hs : Sm o) (hf : FitC o) : res T 78 [slV 3 verV o, .int .u64 ts, .fn 82 [.box [.int .u64 ts]]] = some (.tup [slV 3 verV (delO o ts), .int .i64 (delE o ts)]) := by
  refine run_res (run_pure (fn := g78) rfl rfl (by decide) ?_)
  simp only [g78, b78, oO, oN, mV, lD, gO, pP, qQ, cI, aR]
  have h11 := f83 o hs
  have h39 := f106 o hs
  have hm : T.mode 82 = .raw := by decide
  cases hc : okC o
  · have e1 : delO o ts = none := by simp [delO, hc]
    have e2 : delE o ts = 180 := by simp [delE, hc]
    rw [e1, e2]
    simp +contextual -implicitDefEqProofs (maxSteps := 2000000) only [↓wP, wQ, wQ1, wQ2, wQ3, wR, boxE, partsOf, ↓reduceIte, n1w, n2w, n3w, n4w, n5w, n6w, reduceCtorEq, i1w, i2w, i3w, i4w, i5w, h11, hc]
    rfl
  · by_cases ht : ts ≤ lastC (lst o) ∨ 1099511627776 < ts
    · have e1 : delO o ts = none := by unfold delO; rw [if_neg]; omega
      have e2 : delE o ts = 181 := by simp [delE, hc, ht]
      have hd : (decide (ts ≤ lastC (lst o)) || decide (1099511627776 < ts)) = true := by simpa using ht
      rw [e1, e2]
      simp +contextual -implicitDefEqProofs (maxSteps := 2000000) only [↓wP, wQ, wQ1, wQ2, wQ3, wR, boxE, partsOf, ↓reduceIte, n1w, n2w, n3w, n4w, n5w, n6w, reduceCtorEq, i1w, i2w, i3w, i4w, i5w, h11, h39, hc, hd]
      rfl
    · have hd : (decide (ts ≤ lastC (lst o)) || decide (1099511627776 < ts)) = false := by simp; omega
      obtain ⟨v', σ', n', h1, h2, h3, h4⟩ := t86 o hf Sto.empty 0 0
      have hcl := h2.cells
      have hon := h2.one
      simp +contextual -implicitDefEqProofs (maxSteps := 2000000) only [↓wP, wQ, wQ1, wQ2, wQ3, wR, boxE, partsOf, ↓reduceIte, n1w, n2w, n3w, n4w, n5w, n6w, reduceCtorEq, i1w, i2w, i3w, i4w, i5w, h11, h39, hc, hd, h1, hcl, hon]
      have h2' : Pl (upd (upd σ' n' (some (.row 1 [.nilS]))) n' (some (.row 1 [v']))) 0 n' 3 v' (vs o) := h2.loc (fun i _ hi => by rw [upd_ne (by omega), upd_ne (by omega)]) (Nat.le_refl _)
      refine stepW_raw hm (raw82 h2' (by rw [upd_self]) hs.1 ts fun σ2 k1 k2 => ?_)
      have hk : σ2 n' = some (.row 1 [v']) := by rw [k2 n' (by omega), upd_self]
      cases hop : openL (lst o)
      · have e1 : delO o ts = none := by unfold delO; rw [if_neg]; rw [hop]; simp
        have e2 : delE o ts = 4 := by simp [delE, hc, ht, hop]
        rw [e1, e2]
        simp +contextual -implicitDefEqProofs (maxSteps := 2000000) only [↓wP, wQ, wQ1, wQ2, wQ3, wR, boxE, partsOf, ↓reduceIte, n1w, n2w, n3w, n4w, n5w, n6w, reduceCtorEq, i1w, i2w, i3w, i4w, i5w, hop]
        rfl
      · have e1 : delO o ts = o.map (closeL ts) := by unfold delO; rw [if_pos]; exact ⟨hc, by omega, by omega, hop⟩
        have e2 : delE o ts = 0 := by simp [delE, hc, ht, hop]
        have hcv := k1.cells
        rw [e1, e2]
        simp +contextual -implicitDefEqProofs (maxSteps := 2000000) only [↓wP, wQ, wQ1, wQ2, wQ3, wR, boxE, partsOf, ↓reduceIte, n1w, n2w, n3w, n4w, n5w, n6w, reduceCtorEq, i1w, i2w, i3w, i4w, i5w, hop, hk, hcv]
        exact frz_pair k1 0
theorem r78p (o : Option (List Ver)) (ts : Int) (l : Option (List Int)) (hs : Sm o) (hf : FitC o) (hf' : ((lst o).length + 1) * 40 ≤ LIM) (hl : (lst l).length * 4 ≤ LIM) :
    res T 78 [slV 3 verV o, .int .u64 ts, .fn 79 [.box [slV 1 i32V l], .box [.int .u64 ts]]] = some (.tup [slV 3 verV (putC o ts l), .int .i64 (putE o ts l)]) := by
  refine run_res (run_pure (fn := g78) rfl rfl (by decide) ?_)
  simp only [g78, b78, oO, oN, mV, lD, gO, pP, qQ, cI, aR]
  have h11 := f83 o hs
  have h39 := f106 o hs
  have hm : T.mode 79 = .raw := by decide
  cases hc : okC o
  · have e1 : putC o ts l = none := by simp [putC, hc]
    have e2 : putE o ts l = 180 := by simp [putE, hc]
    rw [e1, e2]
    simp +contextual -implicitDefEqProofs (maxSteps := 2000000) only [↓wP, wQ, wQ1, wQ2, wQ3, wR, boxE, partsOf, ↓reduceIte, n1w, n2w, n3w, n4w, n5w, n6w, reduceCtorEq, i1w, i2w, i3w, i4w, i5w, h11, hc]
    rfl
  · by_cases ht : ts ≤ lastC (lst o) ∨ 1099511627776 < ts
    · have e1 : putC o ts l = none := by unfold putC; rw [if_neg]; omega
      have e2 : putE o ts l = 181 := by simp [putE, hc, ht]
      have hd : (decide (ts ≤ lastC (lst o)) || decide (1099511627776 < ts)) = true := by simpa using ht
      rw [e1, e2]
      simp +contextual -implicitDefEqProofs (maxSteps := 2000000) only [↓wP, wQ, wQ1, wQ2, wQ3, wR, boxE, partsOf, ↓reduceIte, n1w, n2w, n3w, n4w, n5w, n6w, reduceCtorEq, i1w, i2w, i3w, i4w, i5w, h11, h39, hc, hd]
      rfl
    · have hd : (decide (ts ≤ lastC (lst o)) || decide (1099511627776 < ts)) = false := by simp; omega
      obtain ⟨v', σ', n', h1, h2, h3, h4⟩ := t86 o hf Sto.empty 0 0
      have hcl := h2.cells
      have hon := h2.one
      have e2 : putE o ts l = putN o l := by simp [putE, hc, ht]
      rw [e2]
      simp +contextual -implicitDefEqProofs (maxSteps := 2000000) only [↓wP, wQ, wQ1, wQ2, wQ3, wR, boxE, partsOf, ↓reduceIte, n1w, n2w, n3w, n4w, n5w, n6w, reduceCtorEq, i1w, i2w, i3w, i4w, i5w, h11, h39, hc, hd, h1, hcl, hon]
      have h2' : Pl (upd (upd σ' n' (some (.row 1 [.nilS]))) n' (some (.row 1 [v']))) 0 n' 3 v' (vs o) := h2.loc (fun i _ hi => by rw [upd_ne (by omega), upd_ne (by omega)]) (Nat.le_refl _)
      refine stepW_raw hm (raw79 h2' (Nat.zero_le _) (by omega) (by omega) (by omega) (by rw [upd_self]) hs.1 hf' l hl ts (fun hne => ?_) (fun h0 σ2 n2 cv k1 k2 => ?_))
      · have e1 : putC o ts l = none := by unfold putC; rw [if_neg]; omega
        have hd2 : (putN o l != 0) = true := by simpa using hne
        rw [e1]
        simp +contextual -implicitDefEqProofs (maxSteps := 2000000) only [↓wP, wQ, wQ1, wQ2, wQ3, wR, boxE, partsOf, ↓reduceIte, n1w, n2w, n3w, n4w, n5w, n6w, reduceCtorEq, i1w, i2w, i3w, i4w, i5w, hd2]
        rfl
      · have e1 : putC o ts l = some (lst (o.map (closeL ts)) ++ [⟨ts, 0, l⟩]) := by unfold putC; rw [if_pos]; exact ⟨hc, by omega, by omega, h0⟩
        have hcv := k2.cells
        rw [e1, h0]
        simp +contextual -implicitDefEqProofs (maxSteps := 2000000) only [↓wP, wQ, wQ1, wQ2, wQ3, wR, boxE, partsOf, ↓reduceIte, n1w, n2w, n3w, n4w, n5w, n6w, reduceCtorEq, i1w, i2w, i3w, i4w, i5w, k1, hcv]
        exact frz_pair k2 0
theorem frzB {σ : Sto} {i : Nat} {v : V} (h : σ i = some (.row 1 [v])) (hc : v.cells = [v]) (hf : Go.Q.frz σ 10 v = some v) : Go.Q.frz σ 11 (.ptr i 1 0 0) = some (.box [v]) := by
  simp only [frz, rowAt, h, List.mapM_cons, List.mapM_nil, if_true, List.getElem?_cons_zero, Option.bind_some, hc, List.drop_zero, hf]
  rfl
theorem nwP (a : Option (List Ver)) (e : Int) : ∀ σ n, thaw σ n (.tup [slV 3 verV a, .int .i64 e]) = (.tup [slV 3 verV a, .int .i64 e], σ, n) := fun σ n => thaw_nw σ n 12 _ (by simp [Nw, Nw_slV])
theorem r38 (o : Option (List Ver)) (ts : Int) (l : Option (List Int)) (hs : Sm o) (hf : FitC o) (hf' : ((lst o).length + 1) * 40 ≤ LIM) (hl : (lst l).length * 4 ≤ LIM) : res T 38 [slV 3 verV o, .int .u64 ts, slV 1 i32V l] = some (.tup [slV 3 verV (putC o ts l), .int .i64 (putE o ts l)]) := by
  refine run_res (run_pure (fn := g38) rfl rfl (by decide) ?_)
  simp only [g38, b38, oO, oN, mV, lD, gO, pP, qQ, cI, aR]
  have h48 := r78p o ts l hs hf hf' hl
  obtain ⟨σ0, hσ0⟩ : ∃ σ0, σ0 = upd (upd Sto.empty 0 (some (.row 1 [.int .u64 ts]))) 1 (some (.row 1 [slV 1 i32V l])) := ⟨_, rfl⟩
  have t0 : σ0 0 = some (.row 1 [.int .u64 ts]) := by rw [hσ0]; simp [upd]
  have t1 : σ0 1 = some (.row 1 [slV 1 i32V l]) := by rw [hσ0]; simp [upd]
  have m : [slV 3 verV o, .int .u64 ts, V.fn 79 [.ptr 1 1 0 0, .ptr 0 1 0 0]].mapM (frz σ0 12) = some [slV 3 verV o, .int .u64 ts, .fn 79 [.box [slV 1 i32V l], .box [.int .u64 ts]]] := by
    have x1 := frzB t1 (by cases l <;> rfl) (by cases l <;> rfl)
    have x0 := frzB t0 rfl rfl
    have x3 : frz σ0 12 (.fn 79 [.ptr 1 1 0 0, .ptr 0 1 0 0]) = some (.fn 79 [.box [slV 1 i32V l], .box [.int .u64 ts]]) := by
      show (List.mapM (frz σ0 11) [.ptr 1 1 0 0, .ptr 0 1 0 0]).map (V.fn 79) = _
      simp only [List.mapM_cons, List.mapM_nil, x1, x0]; rfl
    simp only [List.mapM_cons, List.mapM_nil, x3, frz_slV]; rfl
  obtain ⟨σ', e1, -⟩ := callE_sh' (by decide) m h48 (nwP _ _) 2
  simp +contextual -implicitDefEqProofs (maxSteps := 2000000) only [↓wP, wQ, wQ1, wQ2, wQ3, wR, boxE, partsOf, ↓reduceIte, n1w, n2w, n3w, n4w, n5w, n6w, reduceCtorEq, i1w, i2w, i3w, i4w, i5w, ← hσ0, t0, e1]
theorem f38 (o : Option (List Ver)) (ts : Int) (l : Option (List Int)) (hs : Sm o) (hf : FitC o) (hf' : ((lst o).length + 1) * 40 ≤ LIM) (hl : (lst l).length * 4 ≤ LIM) (fs : Bool) (σ : Sto) (n lk : Nat) :
    callE T fs 38 [slV 3 verV o, .int .u64 ts, slV 1 i32V l] σ n lk = some (.tup [slV 3 verV (putC o ts l), .int .i64 (putE o ts l)], σ, n) :=
  callE_tr (by decide) (r38 o ts l hs hf hf' hl) (by simp [Tr, Tr_slV]) (by simp [Nw, Nw_slV]) fs σ n lk
theorem r39 (o : Option (List Ver)) (ts : Int) (hs : Sm o) (hf : FitC o) : res T 39 [slV 3 verV o, .int .u64 ts] = some (.tup [slV 3 verV (delO o ts), .int .i64 (delE o ts)]) := by
  refine run_res (run_pure (fn := g39) rfl rfl (by decide) ?_)
  simp only [g39, b39, oO, oN, mV, lD, gO, pP, qQ, cI, aR]
  have h48 := r78 o ts hs hf
  obtain ⟨σ0, hσ0⟩ : ∃ σ0, σ0 = upd Sto.empty 0 (some (.row 1 [.int .u64 ts])) := ⟨_, rfl⟩
  have t0 : σ0 0 = some (.row 1 [.int .u64 ts]) := by rw [hσ0]; simp [upd]
  have m : [slV 3 verV o, .int .u64 ts, V.fn 82 [.ptr 0 1 0 0]].mapM (frz σ0 12) = some [slV 3 verV o, .int .u64 ts, .fn 82 [.box [.int .u64 ts]]] := by
    have x0 := frzB t0 rfl rfl
    have x3 : frz σ0 12 (.fn 82 [.ptr 0 1 0 0]) = some (.fn 82 [.box [.int .u64 ts]]) := by
      show (List.mapM (frz σ0 11) [.ptr 0 1 0 0]).map (V.fn 82) = _
      simp only [List.mapM_cons, List.mapM_nil, x0]; rfl
    simp only [List.mapM_cons, List.mapM_nil, x3, frz_slV]; rfl
  obtain ⟨σ', e1, -⟩ := callE_sh' (by decide) m h48 (nwP _ _) 1
  simp +contextual -implicitDefEqProofs (maxSteps := 2000000) only [↓wP, wQ, wQ1, wQ2, wQ3, wR, boxE, partsOf, ↓reduceIte, n1w, n2w, n3w, n4w, n5w, n6w, reduceCtorEq, i1w, i2w, i3w, i4w, i5w, ← hσ0, t0, e1]
theorem f39 (o : Option (List Ver)) (ts : Int) (hs : Sm o) (hf : FitC o) (fs : Bool) (σ : Sto) (n lk : Nat) :
    callE T fs 39 [slV 3 verV o, .int .u64 ts] σ n lk = some (.tup [slV 3 verV (delO o ts), .int .i64 (delE o ts)], σ, n) :=
  callE_tr (by decide) (r39 o ts hs hf) (by simp [Tr, Tr_slV]) (by simp [Nw, Nw_slV]) fs σ n lk
end Go.Q.SB.Ch
end

section
/- A row's chain out of the facts. -/
set_option linter.unusedSimpArgs false
set_option linter.unusedVariables false
namespace Go.Q.SB.Ch
open Go.Q
def at' (f : Fa) (c id : Int) : Prop := f.w.c = c ∧ f.w.id = id
instance (f : Fa) (c id : Int) : Decidable (at' f c id) := inferInstanceAs (Decidable (_ ∧ _))
def nz (l : List Fa) (c id : Int) : Int := (nx l c id).getD 0
def vers : List Fa → Int → Int → List Ver
  | [], _, _ => []
  | f :: l, c, id => if at' f c id ∧ f.w.g = false then ⟨f.ts, nz l c id, f.w.v⟩ :: vers l c id else vers l c id
theorem vers_len (c id : Int) : ∀ l : List Fa, (vers l c id).length ≤ l.length
  | [] => Nat.le_refl _
  | f :: l => by have := vers_len c id l; simp only [vers]; split <;> simp only [List.length_cons] <;> omega
theorem nx_mem {c id : Int} : ∀ {l : List Fa} {t : Int}, nx l c id = some t → ∃ f ∈ l, at' f c id ∧ f.ts = t
  | [], _, h => by simp [nx] at h
  | g :: l, t, h => by
    simp only [nx] at h
    split at h
    · rename_i hk
      exact ⟨g, List.mem_cons_self, hk, by simpa using h⟩
    · obtain ⟨f, h1, h2⟩ := nx_mem h
      exact ⟨f, List.mem_cons_of_mem _ h1, h2⟩
theorem nx_none {c id : Int} : ∀ {l : List Fa}, nx l c id = none → ∀ f ∈ l, ¬ at' f c id
  | [], _, f, hf => by simp at hf
  | g :: l, h, f, hf => by
    simp only [nx] at h
    split at h
    · cases h
    · rename_i hk
      rcases List.mem_cons.1 hf with rfl | hf
      · exact hk
      · exact nx_none h f hf
theorem vers_none {c id : Int} : ∀ {l : List Fa}, (∀ f ∈ l, ¬ at' f c id) → vers l c id = []
  | [], _ => rfl
  | g :: l, h => by
    simp only [vers]
    rw [if_neg (fun hk => h g List.mem_cons_self hk.1)]
    exact vers_none (fun f hf => h f (List.mem_cons_of_mem _ hf))
theorem mem_vers {c id : Int} : ∀ {l : List Fa} {x : Ver}, x ∈ vers l c id → (∃ f ∈ l, at' f c id ∧ f.w.g = false ∧ f.ts = x.b ∧ f.w.v = x.v) ∧ (x.e = 0 ∨ ∃ f ∈ l, at' f c id ∧ f.ts = x.e)
  | [], x, h => by simp [vers] at h
  | g :: l, x, h => by
    have rest : x ∈ vers l c id → (∃ f ∈ g :: l, at' f c id ∧ f.w.g = false ∧ f.ts = x.b ∧ f.w.v = x.v) ∧ (x.e = 0 ∨ ∃ f ∈ g :: l, at' f c id ∧ f.ts = x.e) := fun h => by
      obtain ⟨⟨f, h1, h2⟩, h3⟩ := mem_vers h
      refine ⟨⟨f, List.mem_cons_of_mem _ h1, h2⟩, ?_⟩
      rcases h3 with h3 | ⟨f, h3, h4⟩
      · exact .inl h3
      · exact .inr ⟨f, List.mem_cons_of_mem _ h3, h4⟩
    simp only [vers] at h
    split at h
    · rename_i hk
      rcases List.mem_cons.1 h with rfl | h
      · refine ⟨⟨g, List.mem_cons_self, hk.1, hk.2, rfl, rfl⟩, ?_⟩
        unfold nz
        cases hn : nx l c id with
        | none => exact .inl rfl
        | some t =>
          obtain ⟨f, h1, h2, h3⟩ := nx_mem hn
          exact .inr ⟨f, List.mem_cons_of_mem _ h1, h2, h3⟩
      · exact rest h
    · exact rest h
def endA (ts : Int) (l : List Ver) : List Ver := l.map fun x => if x.e = 0 then ⟨x.b, ts, x.v⟩ else x
theorem vers_snoc {c id : Int} (f : Fa) (hf : 1 ≤ f.ts) : ∀ {l : List Fa}, (∀ g ∈ l, 1 ≤ g.ts) →
    vers (l ++ [f]) c id = if at' f c id then endA f.ts (vers l c id) ++ (if f.w.g = false then [⟨f.ts, 0, f.w.v⟩] else []) else vers l c id
  | [], _ => by
    simp only [List.nil_append, vers, endA, List.map_nil]
    by_cases h1 : at' f c id
    · by_cases h2 : f.w.g = false
      · simp [h1, h2, nz, nx]
      · simp [h1, h2]
    · simp [h1]
  | g :: l, h => by
    have ih := vers_snoc (c := c) (id := id) f hf (l := l) (fun x hx => h x (List.mem_cons_of_mem _ hx))
    rw [List.cons_append]
    simp only [vers]
    have hz : nz (l ++ [f]) c id = if nz l c id = 0 then (if at' f c id then f.ts else 0) else nz l c id := by
      unfold nz
      rw [nx_snoc]
      cases hn : nx l c id with
      | none =>
        simp only [Option.isSome_none, Bool.false_eq_true, if_false, Option.getD_none, if_true]
        show (if at' f c id then some f.ts else none).getD 0 = _
        split <;> rfl
      | some t =>
        have := nx_pos (fun x hx => h x (List.mem_cons_of_mem _ hx)) t hn
        simp only [Option.isSome_some, if_true, Option.getD_some]
        rw [if_neg (by omega)]
    rw [ih, hz]
    by_cases hg : at' g c id ∧ g.w.g = false
    · rw [if_pos hg, if_pos hg]
      by_cases h1 : at' f c id
      · rw [if_pos h1, if_pos h1]
        simp only [endA, List.map_cons, List.cons_append]
        rw [if_pos h1]
        by_cases h2 : nz l c id = 0
        · rw [if_pos h2, if_pos h2]
        · rw [if_neg h2, if_neg h2]
      · simp only [if_neg h1]
        by_cases h2 : nz l c id = 0
        · rw [if_pos h2, h2]
        · rw [if_neg h2]
    · rw [if_neg hg, if_neg hg]
theorem endA_close {d ts : Int} : ∀ {L : Int} {l : List Ver}, chk d L l = true → endA ts l = closeL ts l
  | _, [], _ => rfl
  | _, [x], _ => by
    unfold endA closeL
    simp only [List.map_cons, List.map_nil, List.getLast?_singleton]
    split <;> simp
  | L, x :: y :: ys, h => by
    have ih := endA_close (d := d) (ts := ts) (L := x.e) (l := y :: ys) (by
      rw [chk, Bool.and_eq_true] at h
      exact h.2)
    rw [chk, Bool.and_eq_true] at h
    have hx := h.1
    unfold okVer at hx
    simp only [Bool.and_eq_true, List.isEmpty_cons, Bool.or_false] at hx
    have he : x.e ≠ 0 := by
      have := hx.2
      simpa using this
    have e1 : endA ts (x :: y :: ys) = x :: endA ts (y :: ys) := by
      show (if x.e = 0 then _ else x) :: _ = _
      rw [if_neg he]; rfl
    rw [e1, ih]
    unfold closeL
    rw [List.getLast?_cons_cons]
    cases hl : (y :: ys).getLast? with
    | none => rfl
    | some z =>
      simp only
      split
      · show _ = (x :: (y :: ys).dropLast) ++ _
        rfl
      · rfl
structure Ord (l : List Fa) : Prop where
  ts : ∀ f ∈ l, 1 ≤ f.ts ∧ f.ts ≤ 1099511627776
  ok : ∀ f ∈ l, f.w.g = false → okV f.w.v = true
  asc : l.Pairwise fun f g => f.w.c = g.w.c → f.w.id = g.w.id → f.ts < g.ts
  dim : ∀ f ∈ l, ∀ g ∈ l, f.w.g = false → g.w.g = false → f.w.c = g.w.c → (lst f.w.v).length = (lst g.w.v).length
theorem chk_vers {c id d : Int} : ∀ {l : List Fa} {L : Int}, Ord l → (∀ f ∈ l, at' f c id → f.w.g = false → ((lst f.w.v).length : Int) = d) → (∀ f ∈ l, at' f c id → L ≤ f.ts) → chk d L (vers l c id) = true
  | [], _, _, _, _ => rfl
  | f :: l, L, h, hd, hL => by
    have ho : Ord l := ⟨fun g hg => h.ts g (List.mem_cons_of_mem _ hg), fun g hg => h.ok g (List.mem_cons_of_mem _ hg), (List.pairwise_cons.1 h.asc).2,
      fun g hg g' hg' => h.dim g (List.mem_cons_of_mem _ hg) g' (List.mem_cons_of_mem _ hg')⟩
    have hd' := fun g hg => hd g (List.mem_cons_of_mem f hg)
    simp only [vers]
    by_cases hk : at' f c id ∧ f.w.g = false
    · rw [if_pos hk, chk]
      have hT := h.ts f List.mem_cons_self
      have hlt : ∀ g ∈ l, at' g c id → f.ts < g.ts := fun g hg hgk => (List.pairwise_cons.1 h.asc).1 g hg (by rw [hk.1.1, hgk.1]) (by rw [hk.1.2, hgk.2])
      have hz : nz l c id = 0 ∧ (vers l c id).isEmpty = true ∨ f.ts < nz l c id ∧ nz l c id ≤ 1099511627776 := by
        unfold nz
        cases hn : nx l c id with
        | none => exact .inl ⟨rfl, by rw [vers_none (nx_none hn)]; rfl⟩
        | some t =>
          obtain ⟨g, h1, h2, rfl⟩ := nx_mem hn
          exact .inr ⟨hlt g h1 h2, (ho.ts g h1).2⟩
      have hle : ∀ g ∈ l, at' g c id → nz l c id ≤ g.ts := by
        intro g hg hgk
        have key : ∀ {l : List Fa}, Ord l → g ∈ l → nz l c id ≤ g.ts := by
          intro l
          induction l with
          | nil => intro _ h; simp at h
          | cons x xs ih =>
            intro ho hm
            unfold nz
            simp only [nx]
            by_cases hx : x.w.c = c ∧ x.w.id = id
            · rw [if_pos hx]
              rcases List.mem_cons.1 hm with rfl | hm
              · exact Int.le_refl _
              · have := (List.pairwise_cons.1 ho.asc).1 g hm (by rw [hx.1, hgk.1]) (by rw [hx.2, hgk.2])
                simp only [Option.getD_some]; omega
            · rw [if_neg hx]
              rcases List.mem_cons.1 hm with rfl | hm
              · exact absurd hgk hx
              · exact ih ⟨fun g hg => ho.ts g (List.mem_cons_of_mem _ hg), fun g hg => ho.ok g (List.mem_cons_of_mem _ hg), (List.pairwise_cons.1 ho.asc).2,
                  fun g hg g' hg' => ho.dim g (List.mem_cons_of_mem _ hg) g' (List.mem_cons_of_mem _ hg')⟩ hm
        exact key ho hg
      have hb := hL f List.mem_cons_self hk.1
      rw [chk_vers ho hd' hle, Bool.and_true]
      unfold okVer
      have hv := h.ok f List.mem_cons_self hk.2
      have hdm := hd f List.mem_cons_self hk.1 hk.2
      simp only [hv, hdm, beq_self_eq_true, Bool.and_true, Bool.and_eq_true, decide_eq_true_eq, Bool.or_eq_true, beq_iff_eq]
      rcases hz with ⟨h1, h2⟩ | ⟨h1, h2⟩
      · rw [h1, h2]
        simp
        omega
      · refine ⟨⟨⟨⟨⟨by omega, hb⟩, hT.2⟩, h2⟩, .inr h1⟩, ?_⟩
        left
        have : (nz l c id == 0) = false := by simp; omega
        simp [this]
    · rw [if_neg hk]
      exact chk_vers ho hd' (fun g hg => hL g (List.mem_cons_of_mem _ hg))
theorem ok_vers {l : List Fa} (h : Ord l) (hl : l.length ≤ 96) (c id : Int) (o : Option (List Ver)) (ho : lst o = vers l c id) : okC o = true := by
  unfold okC
  rw [ho, decide_eq_true (by have := vers_len c id l; omega), Bool.true_and]
  have key : ∀ d : Int, (∀ f ∈ l, at' f c id → f.w.g = false → ((lst f.w.v).length : Int) = d) → chk d 0 (vers l c id) = true := fun d hd => chk_vers h hd (fun f hf _ => by have := h.ts f hf; omega)
  cases hv : vers l c id with
  | nil => rfl
  | cons x xs =>
    rw [← hv]
    refine key _ (fun f hf h1 h2 => ?_)
    obtain ⟨⟨g, g1, g2, g3, g4, g5⟩, -⟩ := mem_vers (x := x) (l := l) (c := c) (id := id) (by rw [hv]; exact List.mem_cons_self)
    have : dimOf (vers l c id) = ((lst x.v).length : Int) := by rw [hv]; rfl
    rw [this, ← g5, h.dim f hf g g1 h2 g3 (by rw [h1.1, g2.1])]
theorem last_vers {l : List Fa} {c id t : Int} (ht : 0 < t) (h : ∀ f ∈ l, at' f c id → f.ts < t) : lastC (vers l c id) < t := by
  unfold lastC
  cases hv : (vers l c id).getLast? with
  | none => exact ht
  | some x =>
    obtain ⟨⟨g, g1, g2, g3, g4, g5⟩, h3⟩ := mem_vers (x := x) (l := l) (c := c) (id := id) (List.mem_of_getLast? hv)
    have h1 := h g g1 g2
    have h2 : x.e < t := by
      rcases h3 with h3 | ⟨f, f1, f2, f3⟩
      · omega
      · have := h f f1 f2; omega
    show mx x.b x.e < t
    unfold mx
    split <;> omega
end Go.Q.SB.Ch
end

section
/- Chains of facts: what is put, what is kept, what is seen. -/
set_option linter.unusedSimpArgs false
set_option linter.unusedVariables false
namespace Go.Q.SB.Ch
open Go.Q
theorem right_ord {l : List Fa} (h : rightF l = true) : Ord l := by
  obtain ⟨h1, h2, h3⟩ := rightF_okU h
  refine ⟨right_ts2 h, fun f hf hg => ?_, ?_, (dimB_iff l).1 h2⟩
  · have := okU_all h1 f hf
    unfold okW at this
    rw [hg] at this
    simp only [Bool.and_eq_true, Bool.false_eq_true, if_false] at this
    exact this.2
  · rw [List.pairwise_iff_getElem]
    intro i j hi hj hij hc hid
    obtain ⟨g1, g2⟩ := okU_step hj (okU_le (by omega) h1)
    unfold oneF at g2
    rw [Bool.and_eq_true] at g2
    rcases lt3_all j hj g1 g2.1 i hij with h | ⟨-, h⟩
    · exact h
    · exact absurd (by unfold key; rw [hc, hid]) (bef_key h)
theorem Ord.take {l : List Fa} (h : Ord l) (n : Nat) : Ord (l.take n) :=
  ⟨fun f hf => h.ts f (List.mem_of_mem_take hf), fun f hf => h.ok f (List.mem_of_mem_take hf), h.asc.sublist (List.take_sublist _ _), fun f hf g hg => h.dim f (List.mem_of_mem_take hf) g (List.mem_of_mem_take hg)⟩
theorem open_end {ts : Int} (ht : ts ≠ 0) (L : List Ver) : openL (endA ts L) = false := by
  unfold openL
  cases hl : (endA ts L).getLast? with
  | none => rfl
  | some x =>
    have := List.mem_of_getLast? hl
    obtain ⟨y, -, rfl⟩ := List.mem_map.1 this
    by_cases he : y.e = 0
    · simp [he, ht]
    · simp [he]
theorem key_at {f : Fa} {c id : Int} : key f.w = (c, id) ↔ at' f c id := by
  unfold key at'
  rw [Prod.mk.injEq]
theorem open_vers {l : List Fa} (h : ∀ f ∈ l, 1 ≤ f.ts) (c id : Int) : openL (vers l c id) = isB l (c, id) := by
  have key : ∀ n, n ≤ l.length → openL (vers (l.take n) c id) = isB (l.take n) (c, id) := by
    intro n
    induction n with
    | zero => intro _; rfl
    | succ n ih =>
      intro hn
      have hf := h (l[n]'(by omega)) (List.getElem_mem _)
      rw [← List.take_append_getElem (by omega : n < l.length), vers_snoc _ hf (fun g hg => h g (List.mem_of_mem_take hg)), isB_snoc]
      have ih' := ih (by omega)
      generalize l[n]'(by omega) = f at *
      by_cases hk : at' f c id
      · rw [if_pos hk, if_pos (key_at.2 hk)]
        cases hg : f.w.g
        · rw [if_pos rfl]
          unfold openL
          simp
        · rw [if_neg (by decide), List.append_nil, open_end (by omega)]; rfl
      · rw [if_neg hk, if_neg (fun h => hk (key_at.1 h)), ih']
  have := key l.length (Nat.le_refl _)
  rwa [List.take_length] at this
theorem close_lst (ts : Int) (o : Option (List Ver)) : lst (o.map (closeL ts)) = closeL ts (lst o) := by cases o <;> rfl
theorem asc_last {l : List Fa} {f : Fa} (h : Ord (l ++ [f])) : ∀ g ∈ l, at' g f.w.c f.w.id → g.ts < f.ts := by
  intro g hg hk
  exact (List.pairwise_append.1 h.asc).2.2 g hg f (by simp) hk.1 hk.2
theorem Ord.left {l m : List Fa} (h : Ord (l ++ m)) : Ord l := by
  have := h.take l.length
  rwa [List.take_left'  rfl] at this
theorem put_step {l : List Fa} {f : Fa} (h : Ord (l ++ [f])) (hl : l.length ≤ 90) (hg : f.w.g = false) (o : Option (List Ver)) (ho : lst o = vers l f.w.c f.w.id) :
    putE o f.ts f.w.v = 0 ∧ putC o f.ts f.w.v = some (vers (l ++ [f]) f.w.c f.w.id) := by
  have hf := h.ts f (by simp)
  have hok := ok_vers h.left (by omega) f.w.c f.w.id o ho
  have hla := last_vers (by omega) (asc_last h)
  rw [← ho] at hla
  have hv := h.ok f (by simp) hg
  have hdim : ((lst f.w.v).length : Int) = dimP o f.w.v := by
    unfold dimP
    cases hlo : lst o with
    | nil => rfl
    | cons x xs =>
      rw [hlo] at ho
      obtain ⟨⟨g, g1, g2, g3, g4, g5⟩, -⟩ := mem_vers (x := x) (l := l) (c := f.w.c) (id := f.w.id) (by rw [← ho]; exact List.mem_cons_self)
      simp only
      rw [← g5, h.dim f (by simp) g (List.mem_append_left _ g1) hg g3 (g2.1.symm)]
  have h96 : (lst o).length ≠ 96 := by rw [ho]; have := vers_len f.w.c f.w.id l; omega
  have hN : putN o f.w.v = 0 := by unfold putN; rw [if_pos hv, if_pos hdim, if_neg h96]
  refine ⟨by unfold putE; rw [hok, if_neg (by decide), if_neg (by omega), hN], ?_⟩
  unfold putC
  rw [if_pos ⟨hok, hla, hf.2, hN⟩, close_lst, vers_snoc f hf.1 (fun g hg => (h.ts g (List.mem_append_left _ hg)).1), if_pos ⟨rfl, rfl⟩, if_pos hg]
  have : chk (dimOf (lst o)) 0 (lst o) = true := by
    unfold okC at hok
    rw [Bool.and_eq_true] at hok
    exact hok.2
  rw [← endA_close this, ho]
theorem del_step {l : List Fa} {f : Fa} (h : Ord (l ++ [f])) (hl : l.length ≤ 90) (hg : f.w.g = true) (hb : isB l (key f.w) = true) (o : Option (List Ver)) (ho : lst o = vers l f.w.c f.w.id) :
    delE o f.ts = 0 ∧ delO o f.ts = some (vers (l ++ [f]) f.w.c f.w.id) := by
  have hf := h.ts f (by simp)
  have hok := ok_vers h.left (by omega) f.w.c f.w.id o ho
  have hla := last_vers (by omega) (asc_last h)
  rw [← ho] at hla
  have hop : openL (lst o) = true := by
    rw [ho, open_vers (fun g hg => (h.ts g (List.mem_append_left _ hg)).1)]
    exact hb
  refine ⟨by unfold delE; rw [hok, if_neg (by decide), if_neg (by omega), hop, if_pos rfl], ?_⟩
  unfold delO
  rw [if_pos ⟨hok, hla, hf.2, hop⟩, vers_snoc f hf.1 (fun g hg => (h.ts g (List.mem_append_left _ hg)).1), if_pos ⟨rfl, rfl⟩, if_neg (by rw [hg]; decide), List.append_nil]
  have : chk (dimOf (lst o)) 0 (lst o) = true := by
    unfold okC at hok
    rw [Bool.and_eq_true] at hok
    exact hok.2
  cases o with
  | none => simp [lst, openL] at hop
  | some L =>
    rw [lst_some] at this ho
    rw [Option.map_some, ← endA_close this, ho]
def chM (l : List Fa) (k : Ky) : Option (Option (List Ver)) := if l.any (fun f => decide (key f.w = k)) = true then some (some (vers l k.1 k.2)) else none
theorem chM_lst (l : List Fa) (k : Ky) : lst ((chM l k).getD none) = vers l k.1 k.2 := by
  unfold chM
  split
  · rfl
  · rename_i h
    refine (vers_none (fun f hf hk => h ?_)).symm
    exact List.any_eq_true.2 ⟨f, hf, decide_eq_true (key_at.2 hk)⟩
theorem chM_snoc {l : List Fa} {f : Fa} (hf : 1 ≤ f.ts) (h : ∀ g ∈ l, 1 ≤ g.ts) (k : Ky) : chM (l ++ [f]) k = if k = key f.w then some (some (vers (l ++ [f]) f.w.c f.w.id)) else chM l k := by
  unfold chM
  rw [List.any_append]
  by_cases hk : k = key f.w
  · subst hk
    rw [if_pos rfl]
    simp [key]
  · rw [if_neg hk, vers_snoc f hf h, if_neg (fun ha => hk (key_at.2 ha).symm)]
    have hk' : ¬ key f.w = k := fun h => hk h.symm
    simp [hk']
def cnt (fl c : Int) (l : List Fa) (id : Int) : Nat := ((vers l c id).filter fun x => !goesP fl x).length
theorem cnt_cons {fl c : Int} {f : Fa} {l : List Fa} (h : ∀ g ∈ l, 1 ≤ g.ts) (id : Int) :
    cnt fl c (f :: l) id = cnt fl c l id + if id = f.w.id then (if ok1 c fl f (nx l c f.w.id) = true then 1 else 0) else 0 := by
  unfold cnt
  simp only [vers]
  by_cases hid : id = f.w.id
  · rw [if_pos hid]
    by_cases hc : f.w.c = c
    · cases hg : f.w.g
      · rw [if_pos ⟨⟨hc, hid.symm⟩, rfl⟩, List.filter_cons, ok1_z hc hg (fun t ht => nx_pos h t ht)]
        have : (!goesP fl ⟨f.ts, nz l c id, f.w.v⟩) = okZ c fl f ((nx l c f.w.id).getD 0) := by
          rw [hid]
          unfold goesP okZ nz
          generalize (nx l c f.w.id).getD 0 = z
          simp only [Bool.not_and, bne, Bool.not_not]
          congr 1
          rw [Bool.eq_iff_iff]; simp
        rw [this]
        split <;> simp
      · rw [if_neg (by simp)]
        have : ok1 c fl f (nx l c f.w.id) = false := by unfold ok1; rw [hg]; simp
        rw [this]; rfl
    · rw [if_neg (fun h => hc h.1.1)]
      have : ok1 c fl f (nx l c f.w.id) = false := by unfold ok1; rw [decide_eq_false hc]; rfl
      rw [this]; rfl
  · rw [if_neg hid, if_neg (fun h => hid h.1.2.symm)]; rfl
theorem sum_one {I : List Int} (hI : I.Nodup) (g : Int → Nat) (a : Int) (ha : a ∈ I) (d : Nat) : (I.map fun i => g i + if i = a then d else 0).sum = (I.map g).sum + d := by
  induction I with
  | nil => simp at ha
  | cons x I ih =>
    obtain ⟨h1, h2⟩ := List.nodup_cons.1 hI
    simp only [List.map_cons, List.sum_cons]
    by_cases hx : x = a
    · subst hx
      have : ∀ (J : List Int), x ∉ J → (J.map fun i => g i + if i = x then d else 0).sum = (J.map g).sum := by
        intro J hJ
        congr 1
        refine List.map_congr_left (fun i hi => ?_)
        rw [if_neg (fun e => hJ (by subst e; exact hi))]; rfl
      rw [if_pos rfl, this I h1]; omega
    · rw [if_neg hx]
      rcases List.mem_cons.1 ha with h | h
      · exact absurd h.symm hx
      · rw [ih h2 h]; omega
theorem stN_sum (fl c : Int) {I : List Int} (hI : I.Nodup) : ∀ {l : List Fa}, (∀ g ∈ l, 1 ≤ g.ts) → (∀ f ∈ l, f.w.c = c → f.w.id ∈ I) → (I.map (cnt fl c l)).sum = stN c fl l
  | [], _, _ => by
    have : ∀ i, cnt fl c [] i = 0 := fun _ => rfl
    simp only [stN]
    induction I with
    | nil => rfl
    | cons x I ih => rw [List.map_cons, List.sum_cons, this, ih (List.nodup_cons.1 hI).2 (fun f hf => by simp at hf)]
  | f :: l, h, hm => by
    have hl := fun g hg => h g (List.mem_cons_of_mem f hg)
    have ih := stN_sum fl c hI (l := l) hl (fun g hg => hm g (List.mem_cons_of_mem _ hg))
    have e : cnt fl c (f :: l) = fun id => cnt fl c l id + if id = f.w.id then (if ok1 c fl f (nx l c f.w.id) = true then 1 else 0) else 0 := funext fun id => cnt_cons hl id
    rw [e]
    simp only [stN]
    by_cases hc : f.w.c = c
    · rw [sum_one hI _ _ (hm f List.mem_cons_self hc), ih]; omega
    · have : ok1 c fl f (nx l c f.w.id) = false := by unfold ok1; rw [decide_eq_false hc]; rfl
      rw [this]
      simp only [Bool.false_eq_true, if_false, ite_self, Nat.add_zero, Nat.zero_add]
      exact ih
end Go.Q.SB.Ch
end

section
/- Chains of facts: what is visible; sums over a map. -/
set_option linter.unusedSimpArgs false
set_option linter.unusedVariables false
namespace Go.Q.SB.Ch
open Go.Q
theorem vis_now {l : List Fa} (h : Ord l) (c t id : Int) (v : Vc) : (⟨id, v⟩ : Rw) ∈ nowR l c t ↔ ∃ x ∈ vers l c id, vis x t = true ∧ x.v = v := by
  have main : ∀ n, n ≤ l.length → ∀ id v, (⟨id, v⟩ : Rw) ∈ nowR (l.take n) c t ↔ ∃ x ∈ vers (l.take n) c id, vis x t = true ∧ x.v = v := by
    intro n
    induction n with
    | zero => intro _ id v; simp [nowR, vers]
    | succ n ih =>
      intro hn id v
      have ih' := ih (by omega)
      have hO := h.take (n + 1)
      rw [← List.take_append_getElem (by omega : n < l.length)] at hO ⊢
      have hf := hO.ts (l[n]'(by omega)) (List.mem_append_right _ (List.mem_singleton_self _))
      have hlt := asc_last hO
      rw [nowR_snoc, vers_snoc _ hf.1 (fun g hg => (hO.ts g (List.mem_append_left _ hg)).1)]
      have hO' := hO.left
      generalize l[n]'(by omega) = f at *
      generalize l.take n = L at *
      unfold nowStep SB.cnt
      by_cases hc : f.w.c = c
      · have hcb : (f.w.c == c) = true := by simp [hc]
        rw [hcb, Bool.true_and]
        by_cases ht : f.ts ≤ t
        · rw [decide_eq_true ht, if_pos rfl]
          by_cases hid : f.w.id = id
          · rw [if_pos ⟨hc, hid⟩]
            have old : ∀ x ∈ endA f.ts (vers L c id), vis x t = false := by
              intro x hx
              obtain ⟨y, hy, rfl⟩ := List.mem_map.1 hx
              obtain ⟨-, h3⟩ := mem_vers hy
              unfold vis
              by_cases he : y.e = 0
              · rw [if_pos he]
                simp
                omega
              · rw [if_neg he]
                rcases h3 with h3 | ⟨g, g1, g2, g3⟩
                · exact absurd h3 he
                · have := hlt g g1 (by rw [hc, hid]; exact g2)
                  simp
                  omega
            unfold ovStep
            cases hg : f.w.g
            · rw [if_neg (by decide), if_pos rfl]
              have : (⟨id, v⟩ : Rw) ∈ putR (nowR L c t) ⟨f.w.id, f.w.v⟩ ↔ v = f.w.v := by
                rw [mem_putR, hid]
                constructor
                · rintro (h | h)
                  · injection h
                  · exact absurd rfl h.2
                · intro h; exact .inl (by rw [h])
              rw [this]
              constructor
              · rintro rfl
                exact ⟨⟨f.ts, 0, f.w.v⟩, by simp, by unfold vis; simp; exact ht, rfl⟩
              · rintro ⟨x, hx, h1, h2⟩
                rcases List.mem_append.1 hx with hx | hx
                · rw [old x hx] at h1; cases h1
                · rw [List.mem_singleton] at hx
                  subst hx; exact h2.symm
            · rw [if_pos rfl, if_neg (by decide), List.append_nil]
              constructor
              · intro h
                exact absurd hid.symm (mem_delR.1 h).2
              · rintro ⟨x, hx, h1, -⟩
                rw [old x hx] at h1; cases h1
          · rw [if_neg (fun h => hid h.2), ← ih' id v]
            unfold ovStep
            have hne : id ≠ f.w.id := fun h => hid h.symm
            cases hg : f.w.g
            · rw [if_neg (by decide), mem_putR]
              constructor
              · rintro (h | h)
                · injection h with h1; exact absurd h1 hne
                · exact h.1
              · intro h; exact .inr ⟨h, hne⟩
            · rw [if_pos rfl, mem_delR]
              exact ⟨fun h => h.1, fun h => ⟨h, hne⟩⟩
        · rw [decide_eq_false ht, if_neg (by decide), ih' id v]
          by_cases hid : f.w.id = id
          · rw [if_pos ⟨hc, hid⟩]
            have same : ∀ y : Ver, vis (if y.e = 0 then ⟨y.b, f.ts, y.v⟩ else y) t = vis y t := by
              intro y
              unfold vis
              by_cases he : y.e = 0
              · rw [if_pos he, he]
                have h1 : (f.ts == 0) = false := by simp; omega
                have h2 : decide (t < f.ts) = true := decide_eq_true (by omega)
                rw [h1, h2]; rfl
              · rw [if_neg he]
            constructor
            · rintro ⟨x, hx, h1, h2⟩
              refine ⟨_, List.mem_append_left _ (List.mem_map_of_mem hx), by rw [same]; exact h1, ?_⟩
              split <;> exact h2
            · rintro ⟨x, hx, h1, h2⟩
              rcases List.mem_append.1 hx with hx | hx
              · obtain ⟨y, hy, rfl⟩ := List.mem_map.1 hx
                rw [same] at h1
                refine ⟨y, hy, h1, ?_⟩
                rw [← h2]
                split <;> rfl
              · split at hx
                · rw [List.mem_singleton] at hx
                  subst hx
                  unfold vis at h1
                  simp at h1
                  omega
                · simp at hx
          · rw [if_neg (fun h => hid h.2)]
      · have hcb : (f.w.c == c) = false := by simp [hc]
        rw [hcb, Bool.false_and, if_neg (by decide), if_neg (fun h => hc h.1), ih' id v]
  have := main l.length (Nat.le_refl _) id v
  rwa [List.take_length] at this
def seenB (l : List Fa) (c t id : Int) : Bool := (vers l c id).any fun x => vis x t
theorem count_now {l : List Fa} (h : Ord l) (c t : Int) {I : List Int} (hI : I.Nodup) (hm : ∀ f ∈ l, f.w.c = c → f.w.id ∈ I) : (I.filter (seenB l c t)).length = (nowR l c t).length := by
  have hasc : ((nowR l c t).map (·.id)).Nodup := by
    rw [List.nodup_iff_pairwise_ne, List.pairwise_map]
    exact (nowR_asc l c t).imp fun h => by omega
  have hlm : (nowR l c t).length = ((nowR l c t).map fun r : Rw => r.id).length := (List.length_map _).symm
  rw [hlm]
  refine ((List.perm_ext_iff_of_nodup (hI.filter _) hasc).2 fun id => ?_).length_eq
  rw [List.mem_filter, List.mem_map]
  unfold seenB
  constructor
  · rintro ⟨h1, h2⟩
    obtain ⟨x, hx, hv⟩ := List.any_eq_true.1 h2
    exact ⟨⟨id, x.v⟩, (vis_now h c t id x.v).2 ⟨x, hx, hv, rfl⟩, rfl⟩
  · rintro ⟨⟨i, v⟩, h1, rfl⟩
    obtain ⟨x, hx, hv, -⟩ := (vis_now h c t i v).1 h1
    obtain ⟨⟨g, g1, g2, -⟩, -⟩ := mem_vers hx
    refine ⟨?_, List.any_eq_true.2 ⟨x, hx, hv⟩⟩
    rw [← g2.2]
    exact hm g g1 g2.1
section
variable {α β : Type}
def sumS (w : En α β → Nat) (L : List (En α β)) (seen : List Nat) : Nat := ((L.filter fun e => decide (e.2.2 ∈ seen)).map w).sum
theorem sumS_nil (w : En α β → Nat) (L : List (En α β)) : sumS w L [] = 0 := by
  unfold sumS
  rw [List.filter_eq_nil_iff.2 (fun e _ => by simp)]; rfl
theorem sumS_all (w : En α β → Nat) {L : List (En α β)} {seen : List Nat} (h : ∀ e ∈ L, e.2.2 ∈ seen) : sumS w L seen = (L.map w).sum := by
  unfold sumS
  rw [List.filter_eq_self.2 (fun e he => decide_eq_true (h e he))]
theorem sumS_le (w : En α β → Nat) (L : List (En α β)) (seen : List Nat) : sumS w L seen ≤ (L.map w).sum := by
  unfold sumS
  induction L with
  | nil => exact Nat.le_refl _
  | cons x L ih =>
    rw [List.filter_cons, List.map_cons, List.sum_cons]
    split
    · rw [List.map_cons, List.sum_cons]; omega
    · omega
theorem sumS_snoc (w : En α β → Nat) {L : List (En α β)} (hb : (L.map (·.2.2)).Nodup) {e : En α β} (he : e ∈ L) {seen : List Nat} (hs : e.2.2 ∉ seen) : sumS w L (seen ++ [e.2.2]) = sumS w L seen + w e := by
  unfold sumS
  induction L with
  | nil => simp at he
  | cons x L ih =>
    rw [List.map_cons, List.nodup_cons] at hb
    rw [List.filter_cons, List.filter_cons]
    rcases List.mem_cons.1 he with rfl | he'
    · rw [if_pos (by simp), if_neg (by simpa using hs), List.map_cons, List.sum_cons]
      have : (L.filter fun y => decide (y.2.2 ∈ seen ++ [e.2.2])) = L.filter fun y => decide (y.2.2 ∈ seen) := by
        refine List.filter_congr (fun y hy => ?_)
        have hne : y.2.2 ≠ e.2.2 := fun h => hb.1 (by rw [← h]; exact List.mem_map_of_mem hy)
        simp [hne]
      rw [this]; omega
    · have hne : x.2.2 ≠ e.2.2 := fun h => hb.1 (by rw [h]; exact List.mem_map_of_mem he')
      have ih' := ih hb.2 he'
      by_cases hx : x.2.2 ∈ seen
      · rw [if_pos (by simp [hx]), if_pos (by simp [hx]), List.map_cons, List.map_cons, List.sum_cons, List.sum_cons, ih']; omega
      · rw [if_neg (by simp [hx, hne]), if_neg (by simp [hx])]; exact ih'
theorem sum_ite {γ : Type} (p : γ → Bool) (g : γ → Nat) (L : List γ) : (L.map fun e => if p e = true then g e else 0).sum = ((L.filter p).map g).sum := by
  induction L with
  | nil => rfl
  | cons x L ih =>
    rw [List.map_cons, List.sum_cons, List.filter_cons, ih]
    cases p x
    · simp
    · simp
theorem sum_len {γ : Type} (L : List γ) (p : γ → Bool) : (L.map fun e => if p e = true then 1 else 0).sum = (L.filter p).length := by
  induction L with
  | nil => rfl
  | cons x L ih =>
    rw [List.map_cons, List.sum_cons, List.filter_cons, ih]
    cases p x
    · simp
    · simp; omega
end
structure Map (l : List Fa) (L : List (En Ky (Option (List Ver)))) (clk : Nat) : Prop where
  ok : MOk L clk
  is : ∀ k, vw L k = chM l k
theorem Map.val {l : List Fa} {L : List (En Ky (Option (List Ver)))} {clk : Nat} (h : Map l L clk) {e : En Ky (Option (List Ver))} (he : e ∈ L) : e.2.1 = some (vers l e.1.1 e.1.2) := by
  obtain ⟨k, o, s⟩ := e
  have := (vw_some h.ok.keys (a := k) (b := o)).2 ⟨s, he⟩
  rw [h.is] at this
  unfold chM at this
  split at this
  · simpa using this.symm
  · cases this
def idsOf (L : List (En Ky (Option (List Ver)))) (c : Int) : List Int := (L.filter fun e => decide (e.1.1 = c)).map fun e => e.1.2
theorem Map.ids {l : List Fa} {L : List (En Ky (Option (List Ver)))} {clk : Nat} (h : Map l L clk) (c : Int) : (idsOf L c).Nodup ∧ ∀ f ∈ l, f.w.c = c → f.w.id ∈ idsOf L c := by
  refine ⟨?_, fun f hf hc => ?_⟩
  · have hk := h.ok.keys
    unfold idsOf
    rw [List.nodup_iff_pairwise_ne, List.pairwise_map] at hk ⊢
    refine List.Pairwise.imp_of_mem (fun {a b} ha hb hab e => hab ?_) (hk.filter _)
    have h1 := of_decide_eq_true (List.mem_filter.1 ha).2
    have h2 := of_decide_eq_true (List.mem_filter.1 hb).2
    exact Prod.ext (by rw [h1, h2]) e
  · have hv : vw L (key f.w) = some (some (vers l f.w.c f.w.id)) := by
      rw [h.is]
      unfold chM
      rw [if_pos (List.any_eq_true.2 ⟨f, hf, by simp⟩)]; rfl
    obtain ⟨s, hs⟩ := (vw_some h.ok.keys).1 hv
    exact List.mem_map.2 ⟨_, List.mem_filter.2 ⟨hs, decide_eq_true hc⟩, rfl⟩
theorem Map.kept {l : List Fa} {L : List (En Ky (Option (List Ver)))} {clk : Nat} (h : Map l L clk) (hl : ∀ g ∈ l, 1 ≤ g.ts) (fl c : Int) :
    (L.map fun e => if decide (e.1.1 = c) = true then cnt fl c l e.1.2 else 0).sum = stN c fl l := by
  rw [sum_ite, ← stN_sum fl c (h.ids c).1 hl (h.ids c).2]
  unfold idsOf
  rw [List.map_map]; rfl
theorem Map.seen {l : List Fa} {L : List (En Ky (Option (List Ver)))} {clk : Nat} (h : Map l L clk) (hl : Ord l) (c t : Int) :
    (L.map fun e => if (decide (e.1.1 = c) && seenB l c t e.1.2) = true then 1 else 0).sum = (nowR l c t).length := by
  rw [sum_len, ← count_now hl c t (h.ids c).1 (h.ids c).2]
  unfold idsOf
  rw [List.filter_map, List.length_map, List.filter_filter]
  congr 1
  refine List.filter_congr (fun e _ => ?_)
  simp only [Function.comp, Bool.and_comm]
end Go.Q.SB.Ch
end

section
/- IdealChains. -/
set_option linter.unusedSimpArgs false
set_option linter.unusedVariables false
namespace Go.Q.SB.Ch
open Go.Q
open Nat renaming reduceEqDiff → n1w, reduceAdd → n2w, reduceSub → n3w, reduceLeDiff → n4w, reduceLT → n5w, reduceMul → n6w
open Int renaming reduceBNe → i1w, reduceBEq → i2w, reduceLT → i3w, reduceLE → i4w, reduceGT → i5w
def kuV (k : Ky) : V := .agg [.int .u64 k.1, .int .u64 k.2]
def cV (o : Option (List Ver)) : V := slV 3 verV o
theorem keyU2 : KeyOk (.agg [.int, .int]) kuV := by
  intro a b
  obtain ⟨a1, a2⟩ := a
  obtain ⟨b1, b2⟩ := b
  simp only [kuV, eqKey, eqCells, eqCell, Option.bind_some, Prod.mk.injEq]
  by_cases h1 : a1 = b1 <;> by_cases h2 : a2 = b2 <;> simp [h1, h2]
theorem Map.snoc {l : List Fa} {f : Fa} {L : List (En Ky (Option (List Ver)))} {clk : Nat} (h : Map l L clk) (hf : 1 ≤ f.ts) (hl : ∀ g ∈ l, 1 ≤ g.ts) :
    Map (l ++ [f]) (mput L clk (key f.w) (some (vers (l ++ [f]) f.w.c f.w.id))).1 (mput L clk (key f.w) (some (vers (l ++ [f]) f.w.c f.w.id))).2 := by
  refine ⟨mput_ok h.ok _ _, fun k => ?_⟩
  rw [vw_mput, chM_snoc hf hl, h.is]
theorem vers_sm {l : List Fa} (hl : l.length ≤ 60 ∧ ∀ f ∈ l, (lst f.w.v).length ≤ 5) (c id : Int) (o : Option (List Ver)) (ho : lst o = vers l c id) : Sm o ∧ FitC o ∧ ((lst o).length + 1) * 40 ≤ LIM := by
  have h1 := vers_len c id l
  have h2 : ∀ x ∈ vers l c id, (lst x.v).length ≤ 5 := by
    intro x hx
    obtain ⟨⟨g, g1, -, -, -, g5⟩, -⟩ := mem_vers hx
    rw [← g5]; exact hl.2 g g1
  rw [← ho] at h1 h2
  refine ⟨⟨by omega, fun x hx => by have := h2 x hx; omega⟩, ⟨by unfold LIM; omega, fun x hx => by have := h2 x hx; unfold Fit LIM; omega⟩, by unfold LIM; omega⟩
theorem at_idx {o : Option (List Ver)} {t : Int} (h : atB o t = true) : ∃ i x, atI o t = ((i : Nat) : Int) ∧ (lst o)[i]? = some x ∧ vis x t = true ∧ x ∈ lst o := by
  unfold atI
  rw [if_pos h]
  unfold atB at h
  rw [Bool.and_eq_true, decide_eq_true_eq] at h
  have h1 := h.1
  unfold posV idxF at h1 ⊢
  cases hf : (lst o).findIdx? fun x => vis x t with
  | none => rw [hf] at h1; simp at h1
  | some i =>
    obtain ⟨g1, g2, -⟩ := List.findIdx?_eq_some_iff_getElem.1 hf
    exact ⟨i, (lst o)[i], rfl, List.getElem?_eq_getElem g1, g2, List.getElem_mem g1⟩
theorem atB_any {o : Option (List Ver)} {t : Int} (h : okC o = true) : atB o t = (lst o).any fun x => vis x t := by
  unfold atB posV
  rw [h, Bool.and_true, idxF_any]
theorem r8 (x : Option (List Fa)) (fl : Int) (ts : Option (List Int)) (hx : SmF x) (htl : ((lst ts).length + 2) * 8 ≤ LIM) : res T 8 [slV 5 faV x, .int .u64 fl, slV 1 uV ts] = some (.bool true) := by
  refine run_res (run_pure (fn := g8) rfl rfl (by decide) ?_)
  simp only [g8, b8, oO, oN, mV, lD, gO, pP, qQ, cI, aR]
  have f10' := f10 x hx
  obtain ⟨l, hl⟩ : ∃ l, l = cutFs x := ⟨_, rfl⟩
  have L1 := few_len x
  rw [← hl] at f10' L1
  have hlf : FitF (lst l) := fit5 (by omega) L1
  have f24' := f24 l hlf.sm
  cases hR : rightF (lst l)
  · rw [hR, if_neg (by decide)] at f24'
    have z6 : ((280 : Int) != 0) = true := rfl
    simp +contextual -implicitDefEqProofs (maxSteps := 2000000) only [↓wP, wQ, wQ1, wQ2, wQ3, wR, boxE, partsOf, ↓reduceIte, n1w, n2w, n3w, n4w, n5w, n6w, reduceCtorEq, i1w, i2w, i3w, i4w, i5w, f9, f10', f24', z6]
  rw [hR, if_pos rfl] at f24'
  have z0 : ((0 : Int) != 0) = false := rfl
  have hO := right_ord hR
  simp +contextual -implicitDefEqProofs (maxSteps := 2000000) only [↓wP, wQ, wQ1, wQ2, wQ3, wR, boxE, partsOf, ↓reduceIte, n1w, n2w, n3w, n4w, n5w, n6w, reduceCtorEq, i1w, i2w, i3w, i4w, i5w, f9, f10', f24', z0]
  refine WC_cutB (fun env σ n => env 1 = .int .u64 fl ∧ env 2 = slV 1 uV ts ∧ env 7 = slV 5 faV l ∧ env 8 = .mp 0 ∧ 1 ≤ n ∧ ∃ Lm clk, Map (lst l) Lm clk ∧ σ 0 = some (.map (ens kuV cV Lm) clk)) ?_ ?_
  · refine WC_for (lst l).length 0 (fun (j : Nat) env σ n => env 1 = .int .u64 fl ∧ env 2 = slV 1 uV ts ∧ env 7 = slV 5 faV l ∧ env 8 = .mp 0 ∧ env 42 = slV 5 faV l ∧ 1 ≤ n ∧ ∃ Lm clk, Map ((lst l).take j) Lm clk ∧ σ 0 = some (.map (ens kuV cV Lm) clk)) (by omega) (by decide) (by decide) (fun _ _ => rfl) (fun _ _ _ => rfl) ?_ ?_ _ _ _ rfl rfl ?_
    · intro j env σ n hj h1 h2 ⟨k1, k2, k3, k4, k5, k6, Lm, clk, hM, hσ⟩
      simp only [vl_tmp] at h2
      have hxj : (lst l)[j]? = some (lst l)[j] := List.getElem?_eq_getElem hj
      have hOj := hO.take (j + 1)
      have htk := List.take_append_getElem hj
      rw [← htk] at hOj
      have hlj : ((lst l).take j).length ≤ 60 ∧ ∀ f ∈ (lst l).take j, (lst f.w.v).length ≤ 5 := ⟨by rw [List.length_take]; omega, fun f hf => L1.2 f (List.mem_of_mem_take hf)⟩
      have hf5 := L1.2 _ (List.getElem_mem hj)
      have hok := okU_ll _ (rightF_okU hR).1 j hj hj
      have hfts := hO.ts _ (List.getElem_mem hj)
      have hg1 : ∀ g ∈ (lst l).take j, 1 ≤ g.ts := fun g hg => (hO.ts g (List.mem_of_mem_take hg)).1
      have hgB : (lst l)[j].w.g = true → isB ((lst l).take j) (key (lst l)[j].w) = true := by
        intro hg
        unfold oneF at hok
        rw [hg, Bool.and_eq_true] at hok
        simpa using hok.2
      rw [← htk]
      generalize (lst l)[j] = f at *
      generalize (lst l).take j = P at *
      have hcc : 0 ≤ f.w.c ∧ f.w.c < 3 := by
        unfold oneF one1 at hok
        simp only [Bool.and_eq_true] at hok
        have := hok.1.1.2
        unfold okW at this
        simp only [Bool.and_eq_true, decide_eq_true_eq] at this
        exact this.1
      have hwc : IntKind.u64.wrap f.w.c = f.w.c := by rw [wrap_u64] <;> omega
      obtain ⟨o, ho⟩ : ∃ o, o = (vw Lm (key f.w)).getD none := ⟨_, rfl⟩
      have hol : lst o = vers P f.w.c f.w.id := by rw [ho, hM.is]; exact chM_lst P (key f.w)
      obtain ⟨q1, q2, q3⟩ := vers_sm hlj f.w.c f.w.id o hol
      have f38' := f38 o f.ts f.w.v q1 q2 q3 (by unfold LIM; omega)
      have f39' := f39 o f.ts q1 q2
      have hmg : mgetE false (.agg [.int, .int]) .nilS (some (ens kuV cV Lm)) (.agg [.int .u64 f.w.c, .int .u64 f.w.id]) = some (slV 3 verV o) := by
        have := mget_ens (ve := cV) keyU2 false .nilS (key f.w) Lm
        simp only [kuV, key] at this
        rw [this, ho]
        unfold key
        cases vw Lm (f.w.c, f.w.id) <;> rfl
      obtain ⟨σ1, hσ1⟩ : ∃ σ1, σ1 = upd (upd (upd (upd σ n (some (.row 5 [.agg [.int .u64 0, .int .i64 0, .int .u64 0, .bool false, .nilS]]))) n (some (.row 5 [.agg [.int .u64 f.ts, .int .i64 f.w.c, .int .u64 f.w.id, .bool f.w.g, slV 1 i32V f.w.v]]))) (n + 1) (some (.row 2 [.agg [.int .u64 0, .int .u64 0]]))) (n + 1) (some (.row 2 [.agg [.int .u64 f.w.c, .int .u64 f.w.id]])) := ⟨_, rfl⟩
      have sn : σ1 n = some (.row 5 [.agg [.int .u64 f.ts, .int .i64 f.w.c, .int .u64 f.w.id, .bool f.w.g, slV 1 i32V f.w.v]]) := by rw [hσ1, upd_ne (by omega), upd_ne (by omega), upd_self]
      have sn1 : σ1 (n + 1) = some (.row 2 [.agg [.int .u64 f.w.c, .int .u64 f.w.id]]) := by rw [hσ1, upd_self]
      have s0 : σ1 0 = some (.map (ens kuV cV Lm) clk) := by rw [hσ1, upd_ne (by omega), upd_ne (by omega), upd_ne (by omega), upd_ne (by omega)]; exact hσ
      have pu := mupd_ens (ke := kuV) (ve := cV) (lk := 0) keyU2 hM.ok s0 (Nat.zero_le _) (key f.w) (some (vers (P ++ [f]) f.w.c f.w.id)) (n + 2)
      simp only [kuV, cV, key] at pu
      have hMs := hM.snoc hfts.1 hg1
      have a1 : (n = n + 1) = False := by simp
      cases hg : f.w.g
      · obtain ⟨p1, p2⟩ := put_step hOj (by omega) hg o hol
        rw [p1, p2] at f38'
        rw [hg] at hσ1 sn
        simp +contextual -implicitDefEqProofs (maxSteps := 2000000) only [↓wP, wQ, wQ1, wQ2, wQ3, wR, boxE, partsOf, ↓reduceIte, n1w, n2w, n3w, n4w, n5w, n6w, reduceCtorEq, i1w, i2w, i3w, i4w, i5w, h1, h2, k1, k2, k3, k4, k5, hxj, faV_eq, hg, hwc, a1, ← hσ1, sn, sn1, s0, hmg, f38', z0, pu]
        exact ⟨_, _, hMs, rfl⟩
      · obtain ⟨p1, p2⟩ := del_step hOj (by omega) hg (hgB hg) o hol
        rw [p1, p2] at f39'
        rw [hg] at hσ1 sn
        simp +contextual -implicitDefEqProofs (maxSteps := 2000000) only [↓wP, wQ, wQ1, wQ2, wQ3, wR, boxE, partsOf, ↓reduceIte, n1w, n2w, n3w, n4w, n5w, n6w, reduceCtorEq, i1w, i2w, i3w, i4w, i5w, h1, h2, k1, k2, k3, k4, k5, hxj, faV_eq, hg, hwc, a1, ← hσ1, sn, sn1, s0, hmg, f38', f39', z0, pu]
        exact ⟨_, _, hMs, rfl⟩
    · intro env σ n ⟨k1, k2, k3, k4, k5, k6, Lm, clk, hM, hσ⟩ h1 h2
      rw [List.take_length] at hM
      simp only [exQ_exit]
      exact ⟨trivial, trivial, k1, k2, k3, k4, k6, Lm, clk, hM, hσ⟩
    · exact ⟨rfl, rfl, rfl, rfl, rfl, by omega, [], 0, ⟨MOk.nil, fun k => rfl⟩, rfl⟩
  · intro env σ n ⟨k1, k2, k3, k4, k5, Lm, clk, hM, hσ⟩
    simp only [seqQ_normal]
    simp +contextual -implicitDefEqProofs (maxSteps := 2000000) only [↓wP, wQ, wQ1, wQ2, wQ3, wR, boxE, partsOf, ↓reduceIte, n1w, n2w, n3w, n4w, n5w, n6w, reduceCtorEq, i1w, i2w, i3w, i4w, i5w]
    refine WC_for 3 0 (fun (c : Nat) env σ n => env 1 = .int .u64 fl ∧ env 2 = slV 1 uV ts ∧ env 7 = slV 5 faV l ∧ env 8 = .mp 0 ∧ 1 ≤ n ∧ σ 0 = some (.map (ens kuV cV Lm) clk)) (by omega) (by decide) (by decide) (fun _ _ => rfl) (fun _ _ _ => rfl) ?_ ?_ _ _ _ rfl rfl ?_
    · intro c env σ n hc3 h1 h2 ⟨k1, k2, k3, k4, k5, hσ⟩
      have hc : collB (c : Int) = true := by unfold collB; rw [decide_eq_true (by omega), decide_eq_true (by omega)]; rfl
      have s1 : stE (lst l) (c : Int) = 0 := by unfold stE; rw [hR, hc]; rfl
      have f30' := f30 l (c : Int) fl hlf
      have hsd : stdN (lst l) (c : Int) fl = (stN (c : Int) fl (lst l) : Int) := by unfold stdN; rw [s1, if_pos rfl]
      rw [s1, hsd] at f30'
      have hwc : IntKind.u64.wrap (c : Int) = (c : Int) := by rw [wrap_u64] <;> omega
      have hstN := stN_le (c : Int) fl (lst l)
      have hrg : rangeE (.mp 0) σ n = some (.it n, upd σ n (some (.iter 0 clk [] clk)), n + 1) := by simp [rangeE, hσ]
      obtain ⟨w, hw⟩ : ∃ w : En Ky (Option (List Ver)) → Nat, w = fun e => if decide (e.1.1 = (c : Int)) = true then cnt fl c (lst l) e.1.2 else 0 := ⟨_, rfl⟩
      have hkept := hM.kept (fun g hg => (hO.ts g hg).1) fl (c : Int)
      rw [← hw] at hkept
      simp +contextual -implicitDefEqProofs (maxSteps := 2000000) only [↓wP, wQ, wQ1, wQ2, wQ3, wR, boxE, partsOf, ↓reduceIte, n1w, n2w, n3w, n4w, n5w, n6w, reduceCtorEq, i1w, i2w, i3w, i4w, i5w, h1, k1, k2, k3, k4, f30', hrg]
      refine WC_cutB (fun env σ n => env 1 = .int .u64 fl ∧ env 2 = slV 1 uV ts ∧ env 7 = slV 5 faV l ∧ env 8 = .mp 0 ∧ 1 ≤ n ∧ σ 0 = some (.map (ens kuV cV Lm) clk) ∧ env 14 = .int .i64 (c : Int) ∧ env 86 = .int .i64 (c : Int) ∧ env 15 = .int .i64 0 ∧ env 16 = .int .i64 0) ?_ ?_
      · refine WC_loopM 0 (fun (seen : List Nat) env σ' n' => env 1 = .int .u64 fl ∧ env 2 = slV 1 uV ts ∧ env 7 = slV 5 faV l ∧ env 8 = .mp 0 ∧ env 97 = .it n ∧ n < n' ∧ σ' 0 = some (.map (ens kuV cV Lm) clk) ∧ σ' n = some (.iter 0 clk seen clk) ∧ env 14 = .int .i64 (c : Int) ∧ env 86 = .int .i64 (c : Int) ∧ env 16 = .int .i64 0 ∧ env 15 = .int .i64 ((stN (c : Int) fl (lst l) : Int) - (sumS w Lm seen : Int)) ∧ sumS w Lm seen ≤ stN (c : Int) fl (lst l)) (fun seen => (Lm.filter fun x => decide (x.2.2 ∉ seen)).length) ?_ [] _ _ _ ?_
        · intro seen env σ' n' ⟨j1, j2, j3, j4, j5, j6, j7, j8, j9, ja, jb, jc, jd⟩
          rw [vl_tmp, j5]
          refine nextW_ens hM.ok j8 j7 (Nat.zero_le _) (fun e he hn => ?_) (fun hall => ?_)
          · obtain ⟨S0, hS0⟩ : ∃ S, S = upd σ' n (some (.iter 0 clk (seen ++ [e.2.2]) clk)) := ⟨_, rfl⟩
            rw [← hS0]
            have b1 : S0 0 = some (.map (ens kuV cV Lm) clk) := by rw [hS0, upd_ne (by omega)]; exact j7
            have b2 : S0 n = some (.iter 0 clk (seen ++ [e.2.2]) clk) := by rw [hS0, upd_self]
            have hen := entry_ens hM.ok b2 b1 he
            have hlt := unseen_lt he hn
            have hsum := sumS_snoc w hM.ok.born he hn
            have hle : sumS w Lm (seen ++ [e.2.2]) ≤ stN (c : Int) fl (lst l) := by
              rw [← hkept]
              exact sumS_le _ _ _
            have hval := hM.val he
            obtain ⟨⟨ka, kb⟩, o, s⟩ := e
            simp only at hval
            change sumS w Lm (seen ++ [s]) = sumS w Lm seen + w ((ka, kb), o, s) at hsum
            change sumS w Lm (seen ++ [s]) ≤ _ at hle
            obtain ⟨q1, q2, q3⟩ := vers_sm L1 ka kb o (by rw [hval]; rfl)
            have q4 := ok_vers hO (by omega) ka kb o (by rw [hval]; rfl)
            have f40' := f40 o fl q1 q2 q4
            obtain ⟨K, hK⟩ : ∃ K, K = opt ((lst o).filter fun x => !goesP fl x) := ⟨_, rfl⟩
            have hKl : (lst K).length = cnt fl ka (lst l) kb := by rw [hK, lst_opt, hval]; rfl
            rw [← hK] at f40'
            simp only [kuV, cV] at hen
            obtain ⟨σ2, hσ2⟩ : ∃ σ2, σ2 = upd (upd S0 n' (some (.row 2 [.agg [.int .u64 0, .int .u64 0]]))) n' (some (.row 2 [.agg [.int .u64 ka, .int .u64 kb]])) := ⟨_, rfl⟩
            have s2 : σ2 n' = some (.row 2 [.agg [.int .u64 ka, .int .u64 kb]]) := by rw [hσ2, upd_self]
            have s3 : ∀ i, i < n' → σ2 i = S0 i := fun i hi => by rw [hσ2, upd_ne (by omega), upd_ne (by omega)]
            have hwe : w ((ka, kb), o, s) = if decide (ka = (c : Int)) = true then cnt fl c (lst l) kb else 0 := by rw [hw]
            have t0 : σ2 0 = some (.map (ens kuV cV Lm) clk) := by rw [s3 0 (by omega)]; exact b1
            have t1 : σ2 n = some (.iter 0 clk (seen ++ [s]) clk) := by rw [s3 n (by omega)]; exact b2
            by_cases hk : ka = (c : Int)
            · have hkb : (ka == (c : Int)) = true := by simp [hk]
              rw [decide_eq_true hk, if_pos rfl, ← hk, ← hKl] at hwe
              rw [hwe] at hsum
              have hww : IntKind.i64.wrap ((stN (c : Int) fl (lst l) : Int) - (sumS w Lm seen : Int) - ((lst K).length : Int)) = (stN (c : Int) fl (lst l) : Int) - (sumS w Lm (seen ++ [s]) : Int) := by
                rw [wrap_i64] <;> omega
              simp +contextual -implicitDefEqProofs (maxSteps := 2000000) only [↓wP, wQ, wQ1, wQ2, wQ3, wR, boxE, partsOf, ↓reduceIte, n1w, n2w, n3w, n4w, n5w, n6w, reduceCtorEq, i1w, i2w, i3w, i4w, i5w, j1, j2, j3, j4, j5, j9, ja, jb, jc, hen, ← hσ2, f40', s2, hwc, hkb, hww, z0]
              exact ⟨seen ++ [s], hlt, by omega, t0, t1, rfl, hle⟩
            · have hkb : (ka == (c : Int)) = false := by simp [hk]
              rw [decide_eq_false hk, if_neg (by decide)] at hwe
              rw [hwe, Nat.add_zero] at hsum
              simp +contextual -implicitDefEqProofs (maxSteps := 2000000) only [↓wP, wQ, wQ1, wQ2, wQ3, wR, boxE, partsOf, ↓reduceIte, n1w, n2w, n3w, n4w, n5w, n6w, reduceCtorEq, i1w, i2w, i3w, i4w, i5w, j1, j2, j3, j4, j5, j9, ja, jb, jc, hen, ← hσ2, f40', s2, hwc, hkb]
              exact ⟨seen ++ [s], hlt, by omega, t0, t1, by rw [hsum], hle⟩
          · rw [sumS_all w hall, hkept] at jc
            have z1 : (stN (c : Int) fl (lst l) : Int) - (stN (c : Int) fl (lst l) : Int) = 0 := by omega
            rw [z1] at jc
            simp +contextual -implicitDefEqProofs (maxSteps := 2000000) only [↓wP, wQ, wQ1, wQ2, wQ3, wR, boxE, partsOf, ↓reduceIte, n1w, n2w, n3w, n4w, n5w, n6w, reduceCtorEq, i1w, i2w, i3w, i4w, i5w, j1, j2, j3, j4, j7, j9, ja, jb, jc]
            simp only [exQ_exit]
            exact ⟨trivial, trivial, j1, j2, j3, j4, by omega, j7, j9, ja, jc, jb⟩
        · exact ⟨k1, k2, k3, k4, rfl, by omega, by rw [upd_ne (by omega)]; exact hσ, upd_self _ _ _, rfl, h1, rfl, by rw [sumS_nil]; show V.int IntKind.i64 _ = _; simp, by rw [sumS_nil]; omega⟩
      · intro env σ n ⟨k1, k2, k3, k4, k5, hσ, k6, k7, k8, k9⟩
        simp only [seqQ_normal]
        have f20' := f20 l hlf
        have hLIM : (2 : Nat) * 8 ≤ LIM := by unfold LIM; omega
        have hLIM2 : (2 + (lst ts).length) * 8 ≤ LIM := by omega
        have hlm : (List.map uV (lst ts)).length = (lst ts).length := List.length_map _
        obtain ⟨W, hW⟩ : ∃ W, W = fl :: lastE (lst l) :: lst ts := ⟨_, rfl⟩
        have hWl : W.length = 2 + (lst ts).length := by rw [hW, List.length_cons, List.length_cons]; omega
        obtain ⟨σA, hσA⟩ : ∃ σA, σA = upd (upd (upd σ n (some (.row 1 [.int .u64 fl, .int .u64 (lastE (lst l))]))) n none) (n + 1) (some (.row 1 (.int .u64 fl :: .int .u64 (lastE (lst l)) :: List.map uV (lst ts)))) := ⟨_, rfl⟩
        have tA : σA (n + 1) = some (.row 1 (W.map uV)) := by rw [hσA, upd_self, hW]; rfl
        have tB : σA 0 = some (.map (ens kuV cV Lm) clk) := by rw [hσA, upd_ne (by omega), upd_ne (by omega), upd_ne (by omega)]; exact hσ
        simp +contextual -implicitDefEqProofs (maxSteps := 2000000) only [↓wP, wQ, wQ1, wQ2, wQ3, wR, boxE, partsOf, ↓reduceIte, n1w, n2w, n3w, n4w, n5w, n6w, reduceCtorEq, i1w, i2w, i3w, i4w, i5w, k1, k2, k3, k4, k6, k7, k8, k9, z0, f20', hLIM, hlm, hLIM2, true_or, true_and, ← hσA]
        refine WC_for (2 + (lst ts).length) 0 (fun (j : Nat) env σ' n' => env 1 = .int .u64 fl ∧ env 2 = slV 1 uV ts ∧ env 7 = slV 5 faV l ∧ env 8 = .mp 0 ∧ env 14 = .int .i64 (c : Int) ∧ env 86 = .int .i64 (c : Int) ∧ env 132 = .ref (n + 1) 0 (2 + (lst ts).length) 1 ∧ n + 1 < n' ∧ σ' 0 = some (.map (ens kuV cV Lm) clk) ∧ σ' (n + 1) = some (.row 1 (W.map uV))) (by unfold LIM at hLIM2; omega) (by decide) (by decide) (fun _ _ => rfl) (fun _ _ _ => rfl) ?_ ?_ _ _ _ rfl rfl ?_
        · intro j env σ' n' hj h1 h2 ⟨k1, k2, k3, k4, k5, k6, k7, k8, k9, ka⟩
          simp only [vl_tmp] at h2
          have hjW : j < W.length := by omega
          have hxj : (W.map uV)[j]? = some (.int .u64 W[j]) := by rw [List.getElem?_map, List.getElem?_eq_getElem hjW]; rfl
          generalize W[j] = t at *
          by_cases h12 : j = 12
          · have hd : ((j : Int) == 12) = true := by rw [h12]; rfl
            simp +contextual -implicitDefEqProofs (maxSteps := 2000000) only [↓wP, wQ, wQ1, wQ2, wQ3, wR, boxE, partsOf, ↓reduceIte, n1w, n2w, n3w, n4w, n5w, n6w, reduceCtorEq, i1w, i2w, i3w, i4w, i5w, h1, h2, k1, k2, k3, k4, k5, k6, k7, ka, hj, hxj, hd]
            exact ⟨rfl, by omega, k9⟩
          have hd : ((j : Int) == 12) = false := by simp; omega
          have f22' := f22 l (c : Int) t (few5 (by omega) L1)
          have hst : stO (lst l) (c : Int) t = nowR (lst l) c t := by unfold stO; rw [s1, if_pos rfl]
          rw [s1, hst] at f22'
          have hnl := nowR_len (lst l) (c : Int) t
          have hnv : ∀ r ∈ nowR (lst l) c t, (lst r.v).length ≤ 5 := nowR_all (P := fun v => (lst v).length ≤ 5) L1.2 c t
          have hseen := hM.seen hO (c : Int) t
          have hvis := fun id v => vis_now hO (c : Int) t id v
          obtain ⟨R, hR2⟩ : ∃ R, R = nowR (lst l) c t := ⟨_, rfl⟩
          rw [← hR2] at f22' hnl hnv hseen
          have hRo : lst (oL R) = R := lst_oL R
          have hrg' : rangeE (.mp 0) σ' n' = some (.it n', upd σ' n' (some (.iter 0 clk [] clk)), n' + 1) := by simp [rangeE, k9]
          obtain ⟨w2, hw2⟩ : ∃ w : En Ky (Option (List Ver)) → Nat, w = fun e => if (decide (e.1.1 = (c : Int)) && seenB (lst l) c t e.1.2) = true then 1 else 0 := ⟨_, rfl⟩
          rw [← hw2] at hseen
          simp +contextual -implicitDefEqProofs (maxSteps := 2000000) only [↓wP, wQ, wQ1, wQ2, wQ3, wR, boxE, partsOf, ↓reduceIte, n1w, n2w, n3w, n4w, n5w, n6w, reduceCtorEq, i1w, i2w, i3w, i4w, i5w, h1, h2, k1, k2, k3, k4, k5, k6, k7, ka, hj, hxj, hd, f22', z0, hrg']
          refine WC_cutB (fun env σ' n' => env 1 = .int .u64 fl ∧ env 2 = slV 1 uV ts ∧ env 7 = slV 5 faV l ∧ env 8 = .mp 0 ∧ env 14 = .int .i64 (c : Int) ∧ env 86 = .int .i64 (c : Int) ∧ env 132 = .ref (n + 1) 0 (2 + (lst ts).length) 1 ∧ env 133 = .int .i64 ((2 + (lst ts).length : Nat) : Int) ∧ env 134 = .int .i64 (j : Int) ∧ n + 1 < n' ∧ σ' 0 = some (.map (ens kuV cV Lm) clk) ∧ σ' (n + 1) = some (.row 1 (W.map uV)) ∧ env 24 = slV 2 rwV (oL R) ∧ env 26 = .int .i64 (R.length : Int)) ?_ ?_
          · refine WC_loopM 0 (fun (seen : List Nat) env σ'' n'' => env 1 = .int .u64 fl ∧ env 2 = slV 1 uV ts ∧ env 7 = slV 5 faV l ∧ env 8 = .mp 0 ∧ env 14 = .int .i64 (c : Int) ∧ env 86 = .int .i64 (c : Int) ∧ env 132 = .ref (n + 1) 0 (2 + (lst ts).length) 1 ∧ env 133 = .int .i64 ((2 + (lst ts).length : Nat) : Int) ∧ env 134 = .int .i64 (j : Int) ∧ n' < n'' ∧ σ'' 0 = some (.map (ens kuV cV Lm) clk) ∧ σ'' (n + 1) = some (.row 1 (W.map uV)) ∧ env 24 = slV 2 rwV (oL R) ∧
              env 151 = .it n' ∧ env 23 = .int .u64 t ∧ σ'' n' = some (.iter 0 clk seen clk) ∧ env 26 = .int .i64 (sumS w2 Lm seen : Int) ∧ sumS w2 Lm seen ≤ R.length) (fun seen => (Lm.filter fun x => decide (x.2.2 ∉ seen)).length) ?_ [] _ _ _ ?_
            · intro seen env σ'' n'' ⟨j1, j2, j3, j4, j5, j6, j7, j8, j9, ja, jb, jc, jd, je, jf, jg, jh, ji⟩
              rw [vl_tmp, je]
              refine nextW_ens hM.ok jg jb (Nat.zero_le _) (fun e he hn => ?_) (fun hall => ?_)
              · obtain ⟨S0, hS0⟩ : ∃ S, S = upd σ'' n' (some (.iter 0 clk (seen ++ [e.2.2]) clk)) := ⟨_, rfl⟩
                rw [← hS0]
                have b1 : S0 0 = some (.map (ens kuV cV Lm) clk) := by rw [hS0, upd_ne (by omega)]; exact jb
                have b2 : S0 n' = some (.iter 0 clk (seen ++ [e.2.2]) clk) := by rw [hS0, upd_self]
                have b3 : S0 (n + 1) = some (.row 1 (W.map uV)) := by rw [hS0, upd_ne (by omega)]; exact jc
                have hen := entry_ens hM.ok b2 b1 he
                have hlt := unseen_lt he hn
                have hsum := sumS_snoc w2 hM.ok.born he hn
                have hle : sumS w2 Lm (seen ++ [e.2.2]) ≤ R.length := by
                  rw [← hseen]
                  exact sumS_le _ _ _
                have hval := hM.val he
                obtain ⟨⟨ea, eb⟩, o, s⟩ := e
                simp only at hval
                change sumS w2 Lm (seen ++ [s]) = sumS w2 Lm seen + w2 ((ea, eb), o, s) at hsum
                change sumS w2 Lm (seen ++ [s]) ≤ _ at hle
                have hlo : lst o = vers (lst l) ea eb := by rw [hval]; rfl
                obtain ⟨q1, q2, q3⟩ := vers_sm L1 ea eb o hlo
                have q4 := ok_vers hO (by omega) ea eb o hlo
                have f41' := f41 o t q1
                have hany := atB_any (t := t) q4
                simp only [kuV, cV] at hen
                obtain ⟨σ2, hσ2⟩ : ∃ σ2, σ2 = upd (upd S0 n'' (some (.row 2 [.agg [.int .u64 0, .int .u64 0]]))) n'' (some (.row 2 [.agg [.int .u64 ea, .int .u64 eb]])) := ⟨_, rfl⟩
                have s2 : σ2 n'' = some (.row 2 [.agg [.int .u64 ea, .int .u64 eb]]) := by rw [hσ2, upd_self]
                have s3 : ∀ i, i < n'' → σ2 i = S0 i := fun i hi => by rw [hσ2, upd_ne (by omega), upd_ne (by omega)]
                have hwe : w2 ((ea, eb), o, s) = if (decide (ea = (c : Int)) && seenB (lst l) c t eb) = true then 1 else 0 := by rw [hw2]
                have t0 : σ2 0 = some (.map (ens kuV cV Lm) clk) := by rw [s3 0 (by omega)]; exact b1
                have t1 : σ2 n' = some (.iter 0 clk (seen ++ [s]) clk) := by rw [s3 n' (by omega)]; exact b2
                have t2 : σ2 (n + 1) = some (.row 1 (W.map uV)) := by rw [s3 (n + 1) (by omega)]; exact b3
                cases hat : atB o t
                · rw [hat] at f41' hany
                  have hw0 : w2 ((ea, eb), o, s) = 0 := by
                    rw [hwe, if_neg]
                    intro h
                    rw [Bool.and_eq_true, decide_eq_true_eq] at h
                    unfold seenB at h
                    rw [← h.1, ← hlo, ← hany] at h
                    exact absurd h.2 (by decide)
                  rw [hw0, Nat.add_zero] at hsum
                  simp +contextual -implicitDefEqProofs (maxSteps := 2000000) only [↓wP, wQ, wQ1, wQ2, wQ3, wR, boxE, partsOf, ↓reduceIte, n1w, n2w, n3w, n4w, n5w, n6w, reduceCtorEq, i1w, i2w, i3w, i4w, i5w, j1, j2, j3, j4, j5, j6, j7, j8, j9, jd, je, jf, jh, hen, ← hσ2, f41']
                  exact ⟨seen ++ [s], hlt, by omega, t0, t2, t1, by rw [hsum], hle⟩
                obtain ⟨i, x, i1, i2, i3, i4⟩ := at_idx hat
                rw [hat, i1] at f41'
                rw [hat] at hany
                by_cases hk : ea = (c : Int)
                rotate_left
                · have hkb : (ea == (c : Int)) = false := by simp [hk]
                  rw [decide_eq_false hk, Bool.false_and, if_neg (by decide)] at hwe
                  rw [hwe, Nat.add_zero] at hsum
                  simp +contextual -implicitDefEqProofs (maxSteps := 2000000) only [↓wP, wQ, wQ1, wQ2, wQ3, wR, boxE, partsOf, ↓reduceIte, n1w, n2w, n3w, n4w, n5w, n6w, reduceCtorEq, i1w, i2w, i3w, i4w, i5w, j1, j2, j3, j4, j5, j6, j7, j8, j9, jd, je, jf, jh, hen, ← hσ2, f41', s2, hwc, hkb]
                  exact ⟨seen ++ [s], hlt, by omega, t0, t2, t1, by rw [hsum], hle⟩
                have hkb : (ea == (c : Int)) = true := by simp [hk]
                rw [decide_eq_true hk, Bool.true_and] at hwe
                have hsb : seenB (lst l) c t eb = true := by unfold seenB; rw [← hk, ← hlo, ← hany]
                rw [hsb, if_pos rfl] at hwe
                rw [hwe] at hsum
                have hmemR : (⟨eb, x.v⟩ : Rw) ∈ R := by
                  rw [hR2, hvis eb x.v]
                  exact ⟨x, by rw [← hk, ← hlo]; exact i4, i3, rfl⟩
                have hww : IntKind.i64.wrap ((sumS w2 Lm seen : Int) + 1) = (sumS w2 Lm (seen ++ [s]) : Int) := by rw [wrap_i64] <;> omega
                simp +contextual -implicitDefEqProofs (maxSteps := 2000000) only [↓wP, wQ, wQ1, wQ2, wQ3, wR, boxE, partsOf, ↓reduceIte, n1w, n2w, n3w, n4w, n5w, n6w, reduceCtorEq, i1w, i2w, i3w, i4w, i5w, j1, j2, j3, j4, j5, j6, j7, j8, j9, jd, je, jf, jh, hen, ← hσ2, f41', s2, hwc, hkb, hww, hRo]
                obtain ⟨p, hp⟩ : ∃ p : Rw → Bool, p = fun r => r.id == eb && (lst r.v == lst x.v) := ⟨_, rfl⟩
                have hpa : R.any p = true := List.any_eq_true.2 ⟨_, hmemR, by rw [hp]; simp⟩
                refine WC_for R.length 0 (fun (q : Nat) env σ3 n3 => env 1 = .int .u64 fl ∧ env 2 = slV 1 uV ts ∧ env 7 = slV 5 faV l ∧ env 8 = .mp 0 ∧ env 14 = .int .i64 (c : Int) ∧ env 86 = .int .i64 (c : Int) ∧ env 132 = .ref (n + 1) 0 (2 + (lst ts).length) 1 ∧ env 133 = .int .i64 ((2 + (lst ts).length : Nat) : Int) ∧ env 134 = .int .i64 (j : Int) ∧ env 24 = slV 2 rwV (oL R) ∧
                  env 151 = .it n' ∧ env 23 = .int .u64 t ∧ env 26 = .int .i64 (sumS w2 Lm (seen ++ [s]) : Int) ∧ env 27 = .ptr n'' 2 0 0 ∧ env 28 = slV 3 verV o ∧ env 29 = .int .i64 (i : Int) ∧ env 173 = slV 2 rwV (oL R) ∧
                  n'' < n3 ∧ (∀ a, a ≤ n'' → σ3 a = σ2 a) ∧ env 31 = .bool ((R.take q).any p)) (by omega) (by decide) (by decide) (fun _ _ => rfl) (fun _ _ _ => rfl) ?_ ?_ _ _ _ rfl rfl ?_
                · intro q env σ3 n3 hq h1 h2 ⟨m1, m2, m3, m4, m5, m6, m7, m8, m9, ma, mb, mc, md, me, mf, mg, mh, mi, mj, mk⟩
                  simp only [vl_tmp] at h2
                  have hxq : R[q]? = some R[q] := List.getElem?_eq_getElem hq
                  have hrv := hnv _ (List.getElem_mem hq)
                  have htq : (R.take (q + 1)).any p = ((R.take q).any p || p R[q]) := by
                    rw [← List.take_append_getElem hq, List.any_append]; simp
                  generalize R[q] = r at *
                  have f42' := f42 r.v x.v (by omega)
                  have hs2 : σ3 n'' = some (.row 2 [.agg [.int .u64 ea, .int .u64 eb]]) := by rw [mj n'' (Nat.le_refl _)]; exact s2
                  have a1 : (n'' = n3) = False := by simp; omega
                  have fr : ∀ a, a ≤ n'' → upd (upd σ3 n3 (some (.row 2 [.agg [.int .u64 0, .nilS]]))) n3 (some (.row 2 [.agg [.int .u64 r.id, slV 1 i32V r.v]])) a = σ2 a := fun a ha => by rw [upd_ne (by omega), upd_ne (by omega)]; exact mj a ha
                  cases hA : (R.take q).any p
                  · rw [hA] at mk htq
                    rw [Bool.false_or] at htq
                    cases hr1 : (r.id == eb)
                    · have hpr : p r = false := by rw [hp]; simp [hr1]
                      rw [hpr] at htq
                      simp +contextual -implicitDefEqProofs (maxSteps := 2000000) only [↓wP, wQ, wQ1, wQ2, wQ3, wR, boxE, partsOf, ↓reduceIte, n1w, n2w, n3w, n4w, n5w, n6w, reduceCtorEq, i1w, i2w, i3w, i4w, i5w, h1, h2, m1, m2, m3, m4, m5, m6, m7, m8, m9, ma, mb, mc, md, me, mf, mg, mh, mk, hRo, hxq, rwV_eq, hs2, a1, hr1]
                      exact ⟨by omega, fun a ha => by rw [if_neg (by omega)]; exact mj a ha, by rw [htq]⟩
                    · have hpr : p r = (lst r.v == lst x.v) := by rw [hp]; simp [hr1]
                      rw [hpr] at htq
                      simp +contextual -implicitDefEqProofs (maxSteps := 2000000) only [↓wP, wQ, wQ1, wQ2, wQ3, wR, boxE, partsOf, ↓reduceIte, n1w, n2w, n3w, n4w, n5w, n6w, reduceCtorEq, i1w, i2w, i3w, i4w, i5w, h1, h2, m1, m2, m3, m4, m5, m6, m7, m8, m9, ma, mb, mc, md, me, mf, mg, mh, mk, hRo, hxq, rwV_eq, hs2, a1, hr1, i2, verV_eq, f42']
                      exact ⟨by omega, fun a ha => by rw [if_neg (by omega)]; exact mj a ha, by rw [htq]⟩
                  · rw [hA] at mk htq
                    rw [Bool.true_or] at htq
                    simp +contextual -implicitDefEqProofs (maxSteps := 2000000) only [↓wP, wQ, wQ1, wQ2, wQ3, wR, boxE, partsOf, ↓reduceIte, n1w, n2w, n3w, n4w, n5w, n6w, reduceCtorEq, i1w, i2w, i3w, i4w, i5w, h1, h2, m1, m2, m3, m4, m5, m6, m7, m8, m9, ma, mb, mc, md, me, mf, mg, mh, mk, hRo, hxq, rwV_eq, hs2, a1]
                    exact ⟨by omega, fun a ha => by rw [if_neg (by omega)]; exact mj a ha, by rw [htq]⟩
                · intro env σ3 n3 ⟨m1, m2, m3, m4, m5, m6, m7, m8, m9, ma, mb, mc, md, me, mf, mg, mh, mi, mj, mk⟩ h1 h2
                  rw [List.take_length, hpa] at mk
                  simp +contextual -implicitDefEqProofs (maxSteps := 2000000) only [↓wP, wQ, wQ1, wQ2, wQ3, wR, boxE, partsOf, ↓reduceIte, n1w, n2w, n3w, n4w, n5w, n6w, reduceCtorEq, i1w, i2w, i3w, i4w, i5w, m1, m2, m3, m4, m5, m6, m7, m8, m9, ma, mb, mc, md, mk]
                  exact ⟨seen ++ [s], hlt, by omega, by rw [mj 0 (by omega)]; exact t0, by rw [mj (n + 1) (by omega)]; exact t2, by rw [mj n' (by omega)]; exact t1, rfl, hle⟩
                · exact ⟨j1, j2, j3, j4, j5, j6, j7, j8, j9, jd, je, jf, rfl, rfl, rfl, rfl, rfl, by omega, fun _ _ => rfl, rfl⟩
              · rw [sumS_all w2 hall, hseen] at jh
                simp +contextual -implicitDefEqProofs (maxSteps := 2000000) only [↓wP, wQ, wQ1, wQ2, wQ3, wR, boxE, partsOf, ↓reduceIte, n1w, n2w, n3w, n4w, n5w, n6w, reduceCtorEq, i1w, i2w, i3w, i4w, i5w, j1, j2, j3, j4, jh]
                simp only [exQ_exit]
                exact ⟨trivial, trivial, j1, j2, j3, j4, j5, j6, j7, j8, j9, by omega, jb, jc, jd, jh⟩
            · exact ⟨k1, k2, k3, k4, k5, k6, k7, h2, h1, by omega, by rw [upd_ne (by omega)]; exact k9, by rw [upd_ne (by omega)]; exact ka, rfl, rfl, rfl, upd_self _ _ _, by rw [sumS_nil]; rfl, by rw [sumS_nil]; omega⟩
          · intro env σ' n' ⟨k1, k2, k3, k4, k5, k6, k7, k8, k9, ka, kb, kc, kd, ke⟩
            have hdl : ((R.length : Int) != (R.length : Int)) = false := by simp
            simp only [seqQ_normal]
            simp +contextual -implicitDefEqProofs (maxSteps := 2000000) only [↓wP, wQ, wQ1, wQ2, wQ3, wR, boxE, partsOf, ↓reduceIte, n1w, n2w, n3w, n4w, n5w, n6w, reduceCtorEq, i1w, i2w, i3w, i4w, i5w, k1, k2, k3, k4, k5, k6, k7, k8, k9, kd, ke, hRo, hdl]
            exact ⟨ka, kb, kc⟩
        · intro env σ' n' ⟨k1, k2, k3, k4, k5, k6, k7, k8, k9, ka⟩ h1 h2
          simp +contextual -implicitDefEqProofs (maxSteps := 2000000) only [↓wP, wQ, wQ1, wQ2, wQ3, wR, boxE, partsOf, ↓reduceIte, n1w, n2w, n3w, n4w, n5w, n6w, reduceCtorEq, i1w, i2w, i3w, i4w, i5w, k1, k2, k3, k4, k5, k6]
          exact ⟨rfl, by omega, k9⟩
        · exact ⟨k1, k2, k3, k4, k6, k7, rfl, by omega, tB, tA⟩
    · intro env σ n ⟨k1, k2, k3, k4, k5, hσ⟩ h1 h2
      simp +contextual -implicitDefEqProofs (maxSteps := 2000000) only [↓wP, wQ, wQ1, wQ2, wQ3, wR, boxE, partsOf, ↓reduceIte, n1w, n2w, n3w, n4w, n5w, n6w, reduceCtorEq, i1w, i2w, i3w, i4w, i5w]
    · exact ⟨k1, k2, k3, k4, k5, hσ⟩
end Go.Q.SB.Ch
end

section
/- Rows of row of facts, of times and of numbers, as trees. -/
set_option linter.unusedSimpArgs false
set_option linter.unusedVariables false
set_option maxRecDepth 20000
namespace Go.Q.SB
open Go.Q Go.Proofs
def eTss : Enc Try.prog 53 (Option (List Int)) := Enc.slice eU64 Try.underlying53 1 (by kernel_rfl) (by decide) 8 (by kernel_rfl)
theorem okTss2 {o : Option (List Int)} (h : eTss.ok o) : ((lst o).length + 2) * 8 ≤ LIM := by
  cases o with
  | none => simp [lst, LIM]
  | some l =>
    obtain ⟨h1, h2, h3⟩ := h l rfl
    rw [reach_eq] at h2
    rw [lst_some]
    unfold LIM
    omega
end Go.Q.SB
end

section
/- The table is the program's. -/
namespace Go.Q.SB
open Go.Proofs
def Has (f : Nat) (fn : Fn) : Prop := ∃ F, Try.prog.funcs[f]? = some F ∧ cFunc Try.prog (ownB T) F = some fn ∧ (F.name == "runtime.NumGoroutine") = false
theorem h8 : Has 8 g8 := ⟨Try.f8, Try.func8, by kernel_rfl, by kernel_rfl⟩
theorem h9 : Has 9 g9 := ⟨Try.f9, Try.func9, by kernel_rfl, by kernel_rfl⟩
theorem h10 : Has 10 g10 := ⟨Try.f10, Try.func10, by kernel_rfl, by kernel_rfl⟩
theorem h13 : Has 13 g13 := ⟨Try.f13, Try.func13, by kernel_rfl, by kernel_rfl⟩
theorem h20 : Has 20 g20 := ⟨Try.f20, Try.func20, by kernel_rfl, by kernel_rfl⟩
theorem h21 : Has 21 g21 := ⟨Try.f21, Try.func21, by kernel_rfl, by kernel_rfl⟩
theorem h22 : Has 22 g22 := ⟨Try.f22, Try.func22, by kernel_rfl, by kernel_rfl⟩
theorem h24 : Has 24 g24 := ⟨Try.f24, Try.func24, by kernel_rfl, by kernel_rfl⟩
theorem h30 : Has 30 g30 := ⟨Try.f30, Try.func30, by kernel_rfl, by kernel_rfl⟩
theorem h38 : Has 38 g38 := ⟨Try.f38, Try.func38, by kernel_rfl, by kernel_rfl⟩
theorem h39 : Has 39 g39 := ⟨Try.f39, Try.func39, by kernel_rfl, by kernel_rfl⟩
theorem h40 : Has 40 g40 := ⟨Try.f40, Try.func40, by kernel_rfl, by kernel_rfl⟩
theorem h41 : Has 41 g41 := ⟨Try.f41, Try.func41, by kernel_rfl, by kernel_rfl⟩
theorem h42 : Has 42 g42 := ⟨Try.f42, Try.func42, by kernel_rfl, by kernel_rfl⟩
theorem h43 : Has 43 g43 := ⟨Try.f43, Try.func43, by kernel_rfl, by kernel_rfl⟩
theorem h44 : Has 44 g44 := ⟨Try.f44, Try.func44, by kernel_rfl, by kernel_rfl⟩
theorem h45 : Has 45 g45 := ⟨Try.f45, Try.func45, by kernel_rfl, by kernel_rfl⟩
theorem h46 : Has 46 g46 := ⟨Try.f46, Try.func46, by kernel_rfl, by kernel_rfl⟩
theorem h47 : Has 47 g47 := ⟨Try.f47, Try.func47, by kernel_rfl, by kernel_rfl⟩
theorem h48 : Has 48 g48 := ⟨Try.f48, Try.func48, by kernel_rfl, by kernel_rfl⟩
theorem h49 : Has 49 g49 := ⟨Try.f49, Try.func49, by kernel_rfl, by kernel_rfl⟩
theorem h50 : Has 50 g50 := ⟨Try.f50, Try.func50, by kernel_rfl, by kernel_rfl⟩
theorem h57 : Has 57 g57 := ⟨Try.f57, Try.func57, by kernel_rfl, by kernel_rfl⟩
theorem h58 : Has 58 g58 := ⟨Try.f58, Try.func58, by kernel_rfl, by kernel_rfl⟩
theorem h59 : Has 59 g59 := ⟨Try.f59, Try.func59, by kernel_rfl, by kernel_rfl⟩
theorem h60 : Has 60 g60 := ⟨Try.f60, Try.func60, by kernel_rfl, by kernel_rfl⟩
theorem h62 : Has 62 g62 := ⟨Try.f62, Try.func62, by kernel_rfl, by kernel_rfl⟩
theorem h65 : Has 65 g65 := ⟨Try.f65, Try.func65, by kernel_rfl, by kernel_rfl⟩
theorem h67 : Has 67 g67 := ⟨Try.f67, Try.func67, by kernel_rfl, by kernel_rfl⟩
theorem h70 : Has 70 g70 := ⟨Try.f70, Try.func70, by kernel_rfl, by kernel_rfl⟩
theorem h71 : Has 71 g71 := ⟨Try.f71, Try.func71, by kernel_rfl, by kernel_rfl⟩
theorem h74 : Has 74 g74 := ⟨Try.f74, Try.func74, by kernel_rfl, by kernel_rfl⟩
theorem h75 : Has 75 g75 := ⟨Try.f75, Try.func75, by kernel_rfl, by kernel_rfl⟩
theorem h77 : Has 77 g77 := ⟨Try.f77, Try.func77, by kernel_rfl, by kernel_rfl⟩
theorem h78 : Has 78 g78 := ⟨Try.f78, Try.func78, by kernel_rfl, by kernel_rfl⟩
theorem h79 : Has 79 g79 := ⟨Try.f79, Try.func79, by kernel_rfl, by kernel_rfl⟩
theorem h80 : Has 80 g80 := ⟨Try.f80, Try.func80, by kernel_rfl, by kernel_rfl⟩
theorem h81 : Has 81 g81 := ⟨Try.f81, Try.func81, by kernel_rfl, by kernel_rfl⟩
theorem h82 : Has 82 g82 := ⟨Try.f82, Try.func82, by kernel_rfl, by kernel_rfl⟩
theorem h83 : Has 83 g83 := ⟨Try.f83, Try.func83, by kernel_rfl, by kernel_rfl⟩
theorem h84 : Has 84 g84 := ⟨Try.f84, Try.func84, by kernel_rfl, by kernel_rfl⟩
theorem h85 : Has 85 g85 := ⟨Try.f85, Try.func85, by kernel_rfl, by kernel_rfl⟩
theorem h86 : Has 86 g86 := ⟨Try.f86, Try.func86, by kernel_rfl, by kernel_rfl⟩
theorem h87 : Has 87 g87 := ⟨Try.f87, Try.func87, by kernel_rfl, by kernel_rfl⟩
theorem h88 : Has 88 g88 := ⟨Try.f88, Try.func88, by kernel_rfl, by kernel_rfl⟩
theorem h89 : Has 89 g89 := ⟨Try.f89, Try.func89, by kernel_rfl, by kernel_rfl⟩
theorem h90 : Has 90 g90 := ⟨Try.f90, Try.func90, by kernel_rfl, by kernel_rfl⟩
theorem h91 : Has 91 g91 := ⟨Try.f91, Try.func91, by kernel_rfl, by kernel_rfl⟩
theorem h92 : Has 92 g92 := ⟨Try.f92, Try.func92, by kernel_rfl, by kernel_rfl⟩
theorem h93 : Has 93 g93 := ⟨Try.f93, Try.func93, by kernel_rfl, by kernel_rfl⟩
theorem h94 : Has 94 g94 := ⟨Try.f94, Try.func94, by kernel_rfl, by kernel_rfl⟩
theorem h95 : Has 95 g95 := ⟨Try.f95, Try.func95, by kernel_rfl, by kernel_rfl⟩
theorem h96 : Has 96 g96 := ⟨Try.f96, Try.func96, by kernel_rfl, by kernel_rfl⟩
theorem h97 : Has 97 g97 := ⟨Try.f97, Try.func97, by kernel_rfl, by kernel_rfl⟩
theorem h98 : Has 98 g98 := ⟨Try.f98, Try.func98, by kernel_rfl, by kernel_rfl⟩
theorem h100 : Has 100 g100 := ⟨Try.f100, Try.func100, by kernel_rfl, by kernel_rfl⟩
theorem h101 : Has 101 g101 := ⟨Try.f101, Try.func101, by kernel_rfl, by kernel_rfl⟩
theorem h103 : Has 103 g103 := ⟨Try.f103, Try.func103, by kernel_rfl, by kernel_rfl⟩
theorem h104 : Has 104 g104 := ⟨Try.f104, Try.func104, by kernel_rfl, by kernel_rfl⟩
theorem h105 : Has 105 g105 := ⟨Try.f105, Try.func105, by kernel_rfl, by kernel_rfl⟩
theorem h106 : Has 106 g106 := ⟨Try.f106, Try.func106, by kernel_rfl, by kernel_rfl⟩
theorem h107 : Has 107 g107 := ⟨Try.f107, Try.func107, by kernel_rfl, by kernel_rfl⟩
theorem h108 : Has 108 g108 := ⟨Try.f108, Try.func108, by kernel_rfl, by kernel_rfl⟩
theorem h109 : Has 109 g109 := ⟨Try.f109, Try.func109, by kernel_rfl, by kernel_rfl⟩
theorem h110 : Has 110 g110 := ⟨Try.f110, Try.func110, by kernel_rfl, by kernel_rfl⟩
theorem h111 : Has 111 g111 := ⟨Try.f111, Try.func111, by kernel_rfl, by kernel_rfl⟩
theorem h112 : Has 112 g112 := ⟨Try.f112, Try.func112, by kernel_rfl, by kernel_rfl⟩
theorem h113 : Has 113 g113 := ⟨Try.f113, Try.func113, by kernel_rfl, by kernel_rfl⟩
theorem h114 : Has 114 g114 := ⟨Try.f114, Try.func114, by kernel_rfl, by kernel_rfl⟩
theorem h115 : Has 115 g115 := ⟨Try.f115, Try.func115, by kernel_rfl, by kernel_rfl⟩
theorem h116 : Has 116 g116 := ⟨Try.f116, Try.func116, by kernel_rfl, by kernel_rfl⟩
theorem h117 : Has 117 g117 := ⟨Try.f117, Try.func117, by kernel_rfl, by kernel_rfl⟩
theorem h118 : Has 118 g118 := ⟨Try.f118, Try.func118, by kernel_rfl, by kernel_rfl⟩
theorem h119 : Has 119 g119 := ⟨Try.f119, Try.func119, by kernel_rfl, by kernel_rfl⟩
theorem h120 : Has 120 g120 := ⟨Try.f120, Try.func120, by kernel_rfl, by kernel_rfl⟩
theorem h121 : Has 121 g121 := ⟨Try.f121, Try.func121, by kernel_rfl, by kernel_rfl⟩
theorem h122 : Has 122 g122 := ⟨Try.f122, Try.func122, by kernel_rfl, by kernel_rfl⟩
theorem h123 : Has 123 g123 := ⟨Try.f123, Try.func123, by kernel_rfl, by kernel_rfl⟩
theorem h124 : Has 124 g124 := ⟨Try.f124, Try.func124, by kernel_rfl, by kernel_rfl⟩
theorem h125 : Has 125 g125 := ⟨Try.f125, Try.func125, by kernel_rfl, by kernel_rfl⟩
theorem h126 : Has 126 g126 := ⟨Try.f126, Try.func126, by kernel_rfl, by kernel_rfl⟩
theorem h127 : Has 127 g127 := ⟨Try.f127, Try.func127, by kernel_rfl, by kernel_rfl⟩
theorem h128 : Has 128 g128 := ⟨Try.f128, Try.func128, by kernel_rfl, by kernel_rfl⟩
theorem tabOf : TabOf Try.prog T := by
  intro f fn h
  simp only [T] at h
  unfold fnOf at h
  split at h
  all_goals first | (cases h; done) | skip
  all_goals (simp only [Option.some.injEq] at h; subst h)
  · exact h8
  · exact h9
  · exact h10
  · exact h13
  · exact h20
  · exact h21
  · exact h22
  · exact h24
  · exact h30
  · exact h38
  · exact h39
  · exact h40
  · exact h41
  · exact h42
  · exact h43
  · exact h44
  · exact h45
  · exact h46
  · exact h47
  · exact h48
  · exact h49
  · exact h50
  · exact h57
  · exact h58
  · exact h59
  · exact h60
  · exact h62
  · exact h65
  · exact h67
  · exact h70
  · exact h71
  · exact h74
  · exact h75
  · exact h77
  · exact h78
  · exact h79
  · exact h80
  · exact h81
  · exact h82
  · exact h83
  · exact h84
  · exact h85
  · exact h86
  · exact h87
  · exact h88
  · exact h89
  · exact h90
  · exact h91
  · exact h92
  · exact h93
  · exact h94
  · exact h95
  · exact h96
  · exact h97
  · exact h98
  · exact h100
  · exact h101
  · exact h103
  · exact h104
  · exact h105
  · exact h106
  · exact h107
  · exact h108
  · exact h109
  · exact h110
  · exact h111
  · exact h112
  · exact h113
  · exact h114
  · exact h115
  · exact h116
  · exact h117
  · exact h118
  · exact h119
  · exact h120
  · exact h121
  · exact h122
  · exact h123
  · exact h124
  · exact h125
  · exact h126
  · exact h127
  · exact h128
theorem mixed : Try.prog.follows .mixedOrders = true := by kernel_rfl
end Go.Q.SB
end
