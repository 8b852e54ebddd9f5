/- Add: facts, and those of writes. -/
import Derived.Test.YtfbkhkihiohfkaaSB
import Derived.Test.YtfbkhkihiohfkaaProg
import Derived.KernelRfl
section
set_option linter.unusedSimpArgs false
set_option linter.unusedVariables false
namespace Go.Q.SB
open Go.Q
open Nat renaming reduceEqDiff → n1w, reduceAdd → n2w, reduceSub → n3w, reduceLeDiff → n4w, reduceLT → n5w, reduceMul → n6w
open Int renaming reduceBNe → i1w, reduceBEq → i2w, reduceLT → i3w, reduceLE → i4w, reduceGT → i5w
structure Cm where
  ts : Int
  near : Bool
  ws : Option (List Wr)
def cmV (c : Cm) : V := .agg [.int .u64 c.ts, .bool c.near, slV 4 wrV c.ws]
theorem cmV_eq (c : Cm) : cmV c = .agg [.int .u64 c.ts, .bool c.near, slV 4 wrV c.ws] := rfl
def tsC (c : Cm) (l : List Fa) : Int := if c.near then IntKind.u64.wrap (lastT l + c.ts.tmod 4) else c.ts
theorem r14 (c : Cm) (o : Option (List Fa)) (h : (lst o).length < 4611686018427387904) : res T 14 [cmV c, slV 5 faV o] = some (.int .u64 (tsC c (lst o))) := by
  refine run_res (run_pure (fn := g14) rfl rfl (by decide) ?_)
  simp only [g14, b14, oO, oN, mV, lD, gO, pP, qQ, cI, aR]
  have f := f26 o h
  obtain ⟨ts, near, ws⟩ := c
  unfold tsC
  cases near
  · simp +contextual -implicitDefEqProofs (maxSteps := 2000000) only [↓wP, wQ, wQ1, wQ2, wQ3, wR, boxE, partsOf, ↓reduceIte, n1w, n2w, n3w, n4w, n5w, n6w, reduceCtorEq, i1w, i2w, i3w, i4w, i5w, cmV_eq]
  · have hr : ∀ (k : IntKind) (a : Int), binV .rem (.int k a) (.int k 4) = some (.int k (a.tmod 4)) := fun k a => bin_rem k a 4 (by decide)
    simp +contextual -implicitDefEqProofs (maxSteps := 2000000) only [↓wP, wQ, wQ1, wQ2, wQ3, wR, boxE, partsOf, ↓reduceIte, n1w, n2w, n3w, n4w, n5w, n6w, reduceCtorEq, i1w, i2w, i3w, i4w, i5w, cmV_eq, f, hr]
theorem f14 (c : Cm) (o : Option (List Fa)) (h : (lst o).length < 4611686018427387904) (fs : Bool) (σ : Sto) (n lk : Nat) : callE T fs 14 [cmV c, slV 5 faV o] σ n lk = some (.int .u64 (tsC c (lst o)), σ, n) :=
  callE_tr (by decide) (r14 c o h) (by simp [Tr, Tr_slV, cmV_eq]) rfl fs σ n lk
def mkF (ts : Int) (x : Wr) : Fa := ⟨ts, x⟩
def refE (l : List Fa) (ts : Int) (w : List Wr) : Int :=
  if ts ≤ lastT l ∨ 1099511627776 < ts then 181 else if (w.any fun x => x.g && !isB l (key x)) = true then 4 else if dimB (l ++ w.map (mkF ts)) = false then 151 else if 2000 < (l ++ w.map (mkF ts)).length then 6 else 0
def noneAt (l : List Fa) (w : List Wr) : Bool := w.any fun x => x.g && !isB l (key x)
theorem noneAt_snoc (l : List Fa) (w : List Wr) (x : Wr) : noneAt l (w ++ [x]) = (noneAt l w || (x.g && !isB l (key x))) := by simp [noneAt]
theorem noneAt_take {l : List Fa} {w : List Wr} {j : Nat} (h : noneAt l (w.take j) = true) : noneAt l w = true := by
  unfold noneAt at *
  rw [List.any_eq_true] at *
  obtain ⟨x, hx, h⟩ := h
  exact ⟨x, List.mem_of_mem_take hx, h⟩
theorem refE_eq (l : List Fa) (ts : Int) (w : List Wr) : refE l ts w = if ts ≤ lastT l ∨ 1099511627776 < ts then 181 else if noneAt l w = true then 4 else if dimB (l ++ w.map (mkF ts)) = false then 151 else if 2000 < (l ++ w.map (mkF ts)).length then 6 else 0 := rfl
theorem r48 (L : List Fa) (h : L.length * 56 ≤ LIM) : res T 48 [slV 5 faV (some L)] = some (.own 5 (L.map faV)) := by
  refine run_res (run_own (fn := g48) rfl rfl (by decide) ?_)
  simp only [g48, b48, oO, oN, mV, lD, gO, pP, qQ, cI, aR]
  have hl : (L.map faV).length * 56 ≤ LIM := by simpa [lst] using h
  simp +contextual -implicitDefEqProofs (maxSteps := 2000000) only [↓wP, wQ, wQ1, wQ2, wQ3, wR, boxE, partsOf, ↓reduceIte, n1w, n2w, n3w, n4w, n5w, n6w, reduceCtorEq, i1w, i2w, i3w, i4w, i5w, slV_some, hl, true_or]
  have := giv_row (σ := upd (upd (upd Sto.empty 0 (some (.row 5 []))) 0 none) 1 (some (.row 5 (L.map faV)))) (id := 1) (sz := 5) (xs := L.map faV) (by simp [upd])
    (fun x hx => by obtain ⟨t, -, rfl⟩ := List.mem_map.1 hx; cases ht : t.w.v <;> simp [faV, elemM, giv, slV, ht])
    (fun x hx c hc => by
      obtain ⟨t, -, rfl⟩ := List.mem_map.1 hx
      simp only [faV, V.cells, List.mem_cons, List.not_mem_nil, or_false] at hc
      rcases hc with rfl | rfl | rfl | rfl | rfl
      · rfl
      · rfl
      · rfl
      · rfl
      · cases t.w.v <;> rfl)
  simpa using this
theorem f48 (L : List Fa) (h : L.length * 56 ≤ LIM) (fs : Bool) (σ : Sto) (n lk : Nat) : callE T fs 48 [slV 5 faV (some L)] σ n lk = some (.ref n 0 (L.map faV).length 5, upd σ n (some (.row 5 (L.map faV))), n + 1) :=
  callE_own (by decide) (r48 L h) (by simp [Tr, Tr_slV]) (fun x hx => by obtain ⟨t, -, rfl⟩ := List.mem_map.1 hx; simp [faV, Nw, Nw_slV]) fs σ n lk
theorem r48n : res T 48 [slV 5 faV none] = some .nilS := by
  refine run_res (run_own (fn := g48) rfl rfl (by decide) ?_)
  simp only [g48, b48, oO, oN, mV, lD, gO, pP, qQ, cI, aR]
  simp +contextual -implicitDefEqProofs (maxSteps := 2000000) only [↓wP, wQ, wQ1, wQ2, wQ3, wR, boxE, partsOf, ↓reduceIte, n1w, n2w, n3w, n4w, n5w, n6w, reduceCtorEq, i1w, i2w, i3w, i4w, i5w, slV_none, Option.isNone_none]
  exact ⟨rfl, by simp [gids]⟩
theorem f48n (fs : Bool) (σ : Sto) (n lk : Nat) : callE T fs 48 [slV 5 faV none] σ n lk = some (.nilS, σ, n) := callE_tr (by decide) r48n (by simp [Tr, Tr_slV]) rfl fs σ n lk
def addE (l : List Fa) (ts : Int) (w : List Wr) : Int := if rightF l = false then 280 else if rightW w = false then 260 else refE l ts w
def addO (l : Option (List Fa)) (ts : Int) (w : List Wr) : Option (List Fa) := if addE (lst l) ts w = 0 then appO l (w.map (mkF ts)) else none
theorem t48 (o : Option (List Fa)) (h : FitF (lst o)) (σ : Sto) (n lk : Nat) : ∃ v σ' n', callE T true 48 [slV 5 faV o] σ n lk = some (v, σ', n') ∧ Pl σ' n n' 5 v (o.map (List.map faV)) ∧ n ≤ n' ∧ ∀ i, i < n → σ' i = σ i := by
  cases o with
  | none => exact ⟨_, _, _, f48n true σ n lk, rfl, Nat.le_refl _, fun _ _ => rfl⟩
  | some L => exact ⟨_, _, _, f48 L (by have := h.1; rw [lst_some] at this; unfold LIM; omega) true σ n lk, ⟨n, rfl, by rw [upd_self], Nat.le_refl _, by omega⟩, by omega, fun i hi => upd_ne (by omega)⟩
theorem callE_flat {f : Nat} {args ts : List V} {r : V} {σ : Sto} (hm : T.mode f ≠ .raw) (hts : args.mapM (frz σ 12) = some ts) (hr : res T f ts = some r) (hf : flat r = true) (fs : Bool) (n lk : Nat) :
    callE T fs f args σ n lk = some (thaw σ n r) := by
  rw [callE_eq hm, hts, callR_some, hr, retE_some, backE_flat hf]
theorem lst_map {α β : Type} (f : α → β) (o : Option (List α)) : lst (o.map (List.map f)) = (lst o).map f := by cases o <;> rfl
theorem appO_some {α : Type} (o : Option (List α)) (x : α) (xs : List α) : appO o (xs ++ [x]) = some (lst o ++ (xs ++ [x])) := by
  cases o with
  | none => cases xs <;> rfl
  | some l => rfl
theorem r50 (o : Option (List Fa)) (h : (lst o).length ≤ 3000000 ∧ ∀ f ∈ lst o, (lst f.w.v).length ≤ 1000000) : res T 50 [slV 5 faV o] = some (slV 5 faV o) := by
  refine run_res (run_pure (fn := g50) rfl rfl (by decide) ?_)
  simp only [g50, b50, oO, oN, mV, lD, gO, pP, qQ, cI, aR]
  have hl := h.1
  cases o with
  | none =>
    have f := f48n
    simp +contextual -implicitDefEqProofs (maxSteps := 2000000) only [↓wP, wQ, wQ1, wQ2, wQ3, wR, boxE, partsOf, ↓reduceIte, n1w, n2w, n3w, n4w, n5w, n6w, reduceCtorEq, i1w, i2w, i3w, i4w, i5w, f]
    refine WC_for 0 0 (fun _ env σ n => env 3 = .nilS) (by omega) (by decide) (by decide) (fun _ _ => rfl) (fun _ _ _ => rfl) (fun j _ _ _ hj => absurd hj (by omega)) ?_ _ _ _ rfl rfl rfl
    intro env σ n h3 h1 h2
    simp +contextual -implicitDefEqProofs (maxSteps := 2000000) only [↓wP, wQ, wQ1, wQ2, wQ3, wR, boxE, partsOf, ↓reduceIte, n1w, n2w, n3w, n4w, n5w, n6w, reduceCtorEq, i1w, i2w, i3w, i4w, i5w, h3]
    rfl
  | some L =>
    rw [lst_some] at hl h
    have f := f48 L (by unfold LIM; omega)
    have hml : (L.map faV).length = L.length := List.length_map _
    simp +contextual -implicitDefEqProofs (maxSteps := 2000000) only [↓wP, wQ, wQ1, wQ2, wQ3, wR, boxE, partsOf, ↓reduceIte, n1w, n2w, n3w, n4w, n5w, n6w, reduceCtorEq, i1w, i2w, i3w, i4w, i5w, f]
    refine WC_for (L.map faV).length 0 (fun (j : Nat) env σ n => env 3 = .ref 0 0 (L.map faV).length 5 ∧ σ 0 = some (.row 5 (L.map faV))) (by omega) (by decide) (by decide) (fun _ _ => rfl) (fun _ _ _ => rfl) ?_ ?_ _ _ _ rfl rfl ?_
    · intro j env σ n hj h1 h2 ⟨g1, g2⟩
      simp only [vl_tmp] at h2
      have hj' : j < L.length := by omega
      have hx : (L.map faV)[j]? = some (faV L[j]) := by rw [List.getElem?_map, List.getElem?_eq_getElem hj']; rfl
      have hset : (L.map faV).set j (faV L[j]) = L.map faV := by
        have : (L.map faV)[j] = faV L[j] := by simp
        rw [← this, List.set_getElem_self]
      have hv := h.2 _ (List.getElem_mem hj')
      generalize L[j] = x at *
      rw [faV_eq] at hx hset
      have f := f74 x.w.v hv
      simp +contextual -implicitDefEqProofs (maxSteps := 2000000) only [↓wP, wQ, wQ1, wQ2, wQ3, wR, boxE, partsOf, ↓reduceIte, n1w, n2w, n3w, n4w, n5w, n6w, reduceCtorEq, i1w, i2w, i3w, i4w, i5w, h1, h2, g1, g2, hj, hx, f, hset]
    · intro env σ n ⟨g1, g2⟩ h1 h2
      have hf := (Fz.ref (S := fun _ => True) (k := 11) g2 trivial (FzL.trees fa_fz.1 fa_fz.2)).1
      simp +contextual -implicitDefEqProofs (maxSteps := 2000000) only [↓wP, wQ, wQ1, wQ2, wQ3, wR, boxE, partsOf, ↓reduceIte, n1w, n2w, n3w, n4w, n5w, n6w, reduceCtorEq, i1w, i2w, i3w, i4w, i5w, g1, hf]
      rfl
    · exact ⟨rfl, by rw [upd_self]⟩
theorem r13 (l : Option (List Fa)) (ts : Int) (w : Option (List Wr)) (h : FitF (lst l)) (hw : FitW (lst w)) : res T 13 [slV 5 faV l, .int .u64 ts, slV 4 wrV w] = some (.tup [slV 5 faV (addO l ts (lst w)), .int .i64 (addE (lst l) ts (lst w))]) := by
  refine run_res (run_pure (fn := g13) rfl rfl (by decide) ?_)
  simp only [g13, b13, oO, oN, mV, lD, gO, pP, qQ, cI, aR]
  have f24' := f24 l h.sm
  have hsw : SmW w := ⟨by have := hw.1; omega, fun x hx => by have := hw.2 x hx; unfold Sm; omega⟩
  have f45' := f45 w hsw
  have f46' := f46 l h.sm.1
  have hl := h.1
  have hl2 := hw.1
  have hm44 : T.mode 44 ≠ .raw := by decide
  have hm49 : T.mode 49 ≠ .raw := by decide
  have hm50 : T.mode 50 ≠ .raw := by decide
  obtain ⟨E, hE⟩ : ∃ E, E = addE (lst l) ts (lst w) := ⟨_, rfl⟩
  obtain ⟨L, hL⟩ : ∃ L, L = addO l ts (lst w) := ⟨_, rfl⟩
  rw [← hE, ← hL]
  unfold addO at hL
  rw [← hE] at hL
  unfold addE at hE
  have bad : ∀ e : Int, e ≠ 0 → E = e → L = none := fun e h0 he => by rw [hL, if_neg (by rw [he]; exact h0)]
  have r44' := fun a b => r44 a b
  cases hrf : rightF (lst l)
  · rw [hrf] at hE f24'
    rw [if_pos rfl] at hE
    rw [if_neg (by decide)] at f24'
    have r := r44 280 (if rightW (lst w) = true then 0 else 260)
    rw [if_neg (show ¬ (280 : Int) = 0 by decide)] at r
    have z0 : ((280 : Int) != 0) = true := rfl
    simp +contextual -implicitDefEqProofs (maxSteps := 2000000) only [↓wP, wQ, wQ1, wQ2, wQ3, wR, boxE, partsOf, ↓reduceIte, n1w, n2w, n3w, n4w, n5w, n6w, reduceCtorEq, i1w, i2w, i3w, i4w, i5w, f24', f45', callE_eq hm44, frz_rf, rch_rf, r, z0]
    rw [bad 280 (by decide) hE, hE]
    rfl
  rw [hrf] at hE f24'
  rw [if_neg (by decide)] at hE
  rw [if_pos rfl] at f24'
  cases hrw : rightW (lst w)
  · rw [hrw] at hE f45'
    rw [if_pos rfl] at hE
    rw [if_neg (by decide)] at f45'
    have r := r44 0 260
    rw [if_pos rfl] at r
    have z0 : ((260 : Int) != 0) = true := rfl
    simp +contextual -implicitDefEqProofs (maxSteps := 2000000) only [↓wP, wQ, wQ1, wQ2, wQ3, wR, boxE, partsOf, ↓reduceIte, n1w, n2w, n3w, n4w, n5w, n6w, reduceCtorEq, i1w, i2w, i3w, i4w, i5w, f24', f45', callE_eq hm44, frz_rf, rch_rf, r, z0]
    rw [bad 260 (by decide) hE, hE]
    rfl
  rw [hrw] at hE f45'
  rw [if_neg (by decide), refE_eq] at hE
  rw [if_pos rfl] at f45'
  have r := r44 0 0
  rw [if_pos rfl] at r
  have z0 : ((0 : Int) != 0) = false := rfl
  by_cases b1 : ts ≤ lastT (lst l)
  · rw [if_pos (Or.inl b1)] at hE
    simp +contextual -implicitDefEqProofs (maxSteps := 2000000) only [↓wP, wQ, wQ1, wQ2, wQ3, wR, boxE, partsOf, ↓reduceIte, n1w, n2w, n3w, n4w, n5w, n6w, reduceCtorEq, i1w, i2w, i3w, i4w, i5w, f24', f45', f46', callE_eq hm44, frz_rf, rch_rf, r, z0, b1]
    rw [bad 181 (by decide) hE, hE]
    rfl
  by_cases b2 : 1099511627776 < ts
  · rw [if_pos (Or.inr b2)] at hE
    simp +contextual -implicitDefEqProofs (maxSteps := 2000000) only [↓wP, wQ, wQ1, wQ2, wQ3, wR, boxE, partsOf, ↓reduceIte, n1w, n2w, n3w, n4w, n5w, n6w, reduceCtorEq, i1w, i2w, i3w, i4w, i5w, f24', f45', f46', callE_eq hm44, frz_rf, rch_rf, r, z0, b1, b2]
    rw [bad 181 (by decide) hE, hE]
    rfl
  rw [if_neg (by omega)] at hE
  simp +contextual -implicitDefEqProofs (maxSteps := 2000000) only [↓wP, wQ, wQ1, wQ2, wQ3, wR, boxE, partsOf, ↓reduceIte, n1w, n2w, n3w, n4w, n5w, n6w, reduceCtorEq, i1w, i2w, i3w, i4w, i5w, f24', f45', f46', callE_eq hm44, frz_rf, rch_rf, r, z0, b1, b2]
  refine WC_cutB (fun env σ n => env 0 = slV 5 faV l ∧ env 1 = .int .u64 ts ∧ env 2 = slV 4 wrV w ∧ env 9 = .mp 1 ∧ 2 ≤ n ∧ ∃ Lm clk, MOk Lm clk ∧ σ 1 = some (.map (ens kyV bV Lm) clk) ∧ ∀ k, (vw Lm k).getD false = isB (lst l) k) ?_ ?_
  · refine WC_for (lst l).length 0 (fun (j : Nat) env σ n => env 0 = slV 5 faV l ∧ env 1 = .int .u64 ts ∧ env 2 = slV 4 wrV w ∧ env 33 = slV 5 faV l ∧ env 9 = .mp 1 ∧ 2 ≤ n ∧ ∃ Lm clk, MOk Lm clk ∧ σ 1 = some (.map (ens kyV bV Lm) clk) ∧ ∀ k, (vw Lm k).getD false = isB ((lst l).take j) k) (by omega) (by decide) (by decide) (fun _ _ => rfl) (fun _ _ _ => rfl) ?_ ?_ _ _ _ rfl rfl ?_
    · intro j env σ n hj h1 h2 ⟨g0, g1, g2, g3, g4, g5, Lm, clk, m1, m2, m3⟩
      simp only [vl_tmp] at h2
      have hx : (lst l)[j]? = some (lst l)[j] := List.getElem?_eq_getElem hj
      have hds := isB_snoc ((lst l).take j) (lst l)[j]
      rw [List.take_append_getElem hj] at hds
      generalize (lst l)[j] = x at *
      obtain ⟨σ1, hσ1⟩ : ∃ σ1, σ1 = upd (upd σ n (some (.row 5 [.agg [.int .u64 0, .int .i64 0, .int .u64 0, .bool false, .nilS]]))) n (some (.row 5 [.agg [.int .u64 x.ts, .int .i64 x.w.c, .int .u64 x.w.id, .bool x.w.g, slV 1 i32V x.w.v]])) := ⟨_, rfl⟩
      have so : ∀ i, i < n → σ1 i = σ i := fun i hi => by rw [hσ1, upd_ne (by omega), upd_ne (by omega)]
      have sn : σ1 n = some (.row 5 [.agg [.int .u64 x.ts, .int .i64 x.w.c, .int .u64 x.w.id, .bool x.w.g, slV 1 i32V x.w.v]]) := by rw [hσ1, upd_self]
      have s0 : σ1 1 = some (.map (ens kyV bV Lm) clk) := by rw [so 1 (by omega)]; exact m2
      have pu := mupd_ens (ke := kyV) (ve := bV) (lk := 0) keyK m1 s0 (Nat.zero_le _) (key x.w) (!x.w.g) (n + 1)
      have fk := f47 x.w
      rw [wrV_eq] at fk
      simp only [bV] at pu
      simp +contextual -implicitDefEqProofs (maxSteps := 2000000) only [↓wP, wQ, wQ1, wQ2, wQ3, wR, boxE, partsOf, ↓reduceIte, n1w, n2w, n3w, n4w, n5w, n6w, reduceCtorEq, i1w, i2w, i3w, i4w, i5w, h1, h2, g0, g1, g2, g3, g4, hx, faV_eq, ← hσ1, sn, s0, pu, fk]
      refine ⟨by omega, _, _, mput_ok m1 _ _, rfl, fun k => ?_⟩
      rw [vw_mput, hds]
      by_cases e : k = key x.w
      · rw [if_pos e, if_pos e.symm]; rfl
      · rw [if_neg e, if_neg (fun h => e h.symm)]; exact m3 k
    · intro env σ n ⟨g0, g1, g2, g3, g4, g5, Lm, clk, m1, m2, m3⟩ h1 h2
      rw [List.take_length] at m3
      exact ⟨rfl, rfl, g0, g1, g2, g4, g5, Lm, clk, m1, m2, m3⟩
    · exact ⟨rfl, rfl, rfl, rfl, rfl, Nat.le_refl _, [], 0, MOk.nil, rfl, fun k => rfl⟩
  · intro env σ n ⟨g0, g1, g2, g4, g5, Lm, clk, m1, m2, m3⟩
    obtain ⟨cv, σc, nc, t1, t2, t3, t4⟩ := t48 l h σ n 0
    simp +contextual -implicitDefEqProofs (maxSteps := 2000000) only [↓wP, wQ, wQ1, wQ2, wQ3, wR, boxE, partsOf, ↓reduceIte, n1w, n2w, n3w, n4w, n5w, n6w, reduceCtorEq, i1w, i2w, i3w, i4w, i5w, g0, g1, g2, g4, t1]
    have m2' : σc 1 = some (.map (ens kyV bV Lm) clk) := by rw [t4 1 (by omega)]; exact m2
    refine WC_for (lst w).length 0 (fun (j : Nat) env σ n => env 1 = .int .u64 ts ∧ env 9 = .mp 1 ∧ env 50 = slV 4 wrV w ∧ 2 ≤ n ∧ σ 1 = some (.map (ens kyV bV Lm) clk) ∧ noneAt (lst l) ((lst w).take j) = false ∧ ∃ v, env 12 = v ∧ Pl σ 2 n 5 v ((appO l (((lst w).take j).map (mkF ts))).map (List.map faV))) (by omega) (by decide) (by decide) (fun _ _ => rfl) (fun _ _ _ => rfl) ?_ ?_ _ _ _ rfl rfl ?_
    · clear g0 g1 g2 g4 g5 m2 m2' t1 t2 t3 t4
      intro j env σ n hj h1 h2 ⟨g1, g2, g3, g4, m2, g5, v, g6, g7⟩
      simp only [vl_tmp] at h2
      have hx : (lst w)[j]? = some (lst w)[j] := List.getElem?_eq_getElem hj
      have ht : (lst w).take (j + 1) = (lst w).take j ++ [(lst w)[j]] := (List.take_append_getElem hj).symm
      have hns := noneAt_snoc (lst l) ((lst w).take j) (lst w)[j]
      rw [← ht, g5, Bool.false_or] at hns
      have hno : noneAt (lst l) ((lst w).take (j + 1)) = true → noneAt (lst l) (lst w) = true := noneAt_take
      generalize (lst w)[j] = x at *
      have hc := g7.cells
      have hsp := spl g7
      have hap : (appO l (((lst w).take (j + 1)).map (mkF ts))).map (List.map faV) = some ((lst ((appO l (((lst w).take j).map (mkF ts))).map (List.map faV))) ++ [.agg [.int .u64 ts, .int .i64 x.c, .int .u64 x.id, .bool x.g, slV 1 i32V x.v]]) := by
        rw [ht, List.map_append, List.map_cons, List.map_nil, appO_some, Option.map_some, ← List.append_assoc, List.map_append, ← lst_appO]
        cases appO l (((lst w).take j).map (mkF ts)) <;> rfl
      have hlen : (lst ((appO l (((lst w).take j).map (mkF ts))).map (List.map faV))).length ≤ 2000000 := by
        rw [lst_map, List.length_map, lst_appO, List.length_append, List.length_map, List.length_take]; omega
      obtain ⟨σ1, hσ1⟩ : ∃ σ1, σ1 = upd (upd σ n (some (.row 4 [.agg [.int .i64 0, .int .u64 0, .bool false, .nilS]]))) n (some (.row 4 [.agg [.int .i64 x.c, .int .u64 x.id, .bool x.g, slV 1 i32V x.v]])) := ⟨_, rfl⟩
      have so : ∀ i, i < n → σ1 i = σ i := fun i hi => by rw [hσ1, upd_ne (by omega), upd_ne (by omega)]
      have sn : σ1 n = some (.row 4 [.agg [.int .i64 x.c, .int .u64 x.id, .bool x.g, slV 1 i32V x.v]]) := by rw [hσ1, upd_self]
      have s1 : σ1 1 = some (.map (ens kyV bV Lm) clk) := by rw [so 1 (by omega)]; exact m2
      have hmg : mgetE false (.agg [.int, .int]) (.bool false) (some (ens kyV bV Lm)) (kyV (key x)) = some (.bool (isB (lst l) (key x))) := by
        rw [mget_ens (ve := bV) keyK false (.bool false) (key x) Lm, ← m3 (key x)]
        cases vw Lm (key x) <;> rfl
      have fk := f47 x
      rw [wrV_eq] at fk
      have hv1 : ∀ off len s, v ≠ .ref 1 off len s := by
        intro off len s e
        subst e
        cases ho' : (appO l (((lst w).take j).map (mkF ts))).map (List.map faV) with
        | none => rw [ho'] at g7; cases g7
        | some xs => rw [ho'] at g7; obtain ⟨i, e, -, e2, -⟩ := g7; simp only [V.ref.injEq] at e; omega
      have go : ∀ (Q : Prop), Q → Q := fun Q h => h
      cases hg : x.g
      all_goals rw [hg] at hσ1 sn fk hns hap
      · simp +contextual -implicitDefEqProofs (maxSteps := 2000000) only [↓wP, wQ, wQ1, wQ2, wQ3, wR, boxE, partsOf, ↓reduceIte, n1w, n2w, n3w, n4w, n5w, n6w, reduceCtorEq, i1w, i2w, i3w, i4w, i5w, h1, h2, g1, g2, g3, g6, hx, wrV_eq, hg, ← hσ1, sn]
        refine stepW_app1 (m := 2) (n0 := n) (σ0 := σ) g7 (fun i a1 a2 => ?_) (by omega) (by omega) (Nat.zero_le _) ?_ (fun _ σ3 a1 a2 => ?_)
        · rw [upd_ne (by omega), so i a2]
        · unfold LIM; omega
        · have m2' : σ3 1 = some (.map (ens kyV bV Lm) clk) := by rw [a2 1 (by omega) hv1, upd_ne (by omega)]; exact s1
          simp +contextual -implicitDefEqProofs (maxSteps := 2000000) only [↓wP, wQ, wQ1, wQ2, wQ3, wR, boxE, partsOf, ↓reduceIte, n1w, n2w, n3w, n4w, n5w, n6w, reduceCtorEq, i1w, i2w, i3w, i4w, i5w, h1, h2, g1, g2, g3, hc, hsp]
          rw [hns, hap]
          exact ⟨m2', by simp, _, rfl, a1⟩
      · cases hb : isB (lst l) (key x)
        · rw [hb] at hmg hns
          have hE4 : E = 4 := by rw [hE, if_pos (hno (by rw [hns]; rfl))]
          simp +contextual -implicitDefEqProofs (maxSteps := 2000000) only [↓wP, wQ, wQ1, wQ2, wQ3, wR, boxE, partsOf, ↓reduceIte, n1w, n2w, n3w, n4w, n5w, n6w, reduceCtorEq, i1w, i2w, i3w, i4w, i5w, h1, h2, g1, g2, g3, g6, hx, wrV_eq, hg, ← hσ1, sn, s1, fk, hmg]
          rw [bad 4 (by decide) hE4, hE4]
          rfl
        · rw [hb] at hmg hns
          simp +contextual -implicitDefEqProofs (maxSteps := 2000000) only [↓wP, wQ, wQ1, wQ2, wQ3, wR, boxE, partsOf, ↓reduceIte, n1w, n2w, n3w, n4w, n5w, n6w, reduceCtorEq, i1w, i2w, i3w, i4w, i5w, h1, h2, g1, g2, g3, g6, hx, wrV_eq, hg, ← hσ1, sn, s1, fk, hmg]
          refine stepW_app1 (m := 2) (n0 := n) (σ0 := σ) g7 (fun i a1 a2 => ?_) (by omega) (by omega) (Nat.zero_le _) ?_ (fun _ σ3 a1 a2 => ?_)
          · rw [upd_ne (by omega), so i a2]
          · unfold LIM; omega
          · have m2' : σ3 1 = some (.map (ens kyV bV Lm) clk) := by rw [a2 1 (by omega) hv1, upd_ne (by omega)]; exact s1
            simp +contextual -implicitDefEqProofs (maxSteps := 2000000) only [↓wP, wQ, wQ1, wQ2, wQ3, wR, boxE, partsOf, ↓reduceIte, n1w, n2w, n3w, n4w, n5w, n6w, reduceCtorEq, i1w, i2w, i3w, i4w, i5w, h1, h2, g1, g2, g3, hc, hsp]
            rw [hns, hap]
            exact ⟨m2', by simp, _, rfl, a1⟩
    · clear g0 g1 g2 g4 g5 m2 m2' t1 t2 t3 t4
      intro env σ n ⟨g1', g2', g3', g4', m2, g1, v, g2, g3⟩ h1 h2
      rw [List.take_length] at g1 g3
      rw [if_neg (by rw [g1]; decide)] at hE
      obtain ⟨O, hO⟩ : ∃ O, O = appO l ((lst w).map (mkF ts)) := ⟨_, rfl⟩
      have hOl : lst O = lst l ++ (lst w).map (mkF ts) := by rw [hO, lst_appO]
      rw [← hOl] at hE
      rw [← hO] at hL g3
      have hfa : ∀ f ∈ lst O, (lst f.w.v).length ≤ 1000000 := fun f hf => by
        rw [hOl] at hf
        rcases List.mem_append.1 hf with hf | hf
        · exact h.2 f hf
        · obtain ⟨x, hx, rfl⟩ := List.mem_map.1 hf
          exact hw.2 x hx
      have hOn : (lst O).length ≤ 2000000 := by rw [hOl, List.length_append, List.length_map]; omega
      have hfr := g3.frz (by rw [lst_map]; exact fa_fz.1) (by rw [lst_map]; exact fa_fz.2)
      rw [slV_map] at hfr
      have hle : lenE v = some (.int .i64 ((lst O).length : Int)) := by
        cases hO2 : O with
        | none => rw [hO2] at g3; simp only [Option.map_none, Pl] at g3; subst g3; rfl
        | some xs => rw [hO2] at g3; obtain ⟨i, rfl, -⟩ := g3; rw [lenE_ref, List.length_map]; rfl
      have r49' := r49 O ⟨by omega, fun f hf => by have := hfa f hf; unfold Sm; omega⟩
      have hfm : [v].mapM (frz σ 12) = some [slV 5 faV O] := by simp only [List.mapM_cons, List.mapM_nil, hfr]; rfl
      have f49' := callE_flat hm49 hfm r49' rfl true n 0
      rw [thaw_bool] at f49'
      have r50' := r50 O ⟨by omega, hfa⟩
      obtain ⟨σ', f50', -⟩ := callE_sh' hm50 hfm r50' (fun σ n => by rw [thaw_slV]) n
      cases hd : dimB (lst O)
      · rw [hd] at f49' hE
        rw [if_pos rfl] at hE
        simp +contextual -implicitDefEqProofs (maxSteps := 2000000) only [↓wP, wQ, wQ1, wQ2, wQ3, wR, boxE, partsOf, ↓reduceIte, n1w, n2w, n3w, n4w, n5w, n6w, reduceCtorEq, i1w, i2w, i3w, i4w, i5w, g2, f49']
        rw [bad 151 (by decide) hE, hE]
        rfl
      · rw [hd] at f49' hE
        rw [if_neg (by decide)] at hE
        by_cases hn : 2000 < (lst O).length
        · have hn' : (2000 : Int) < ((lst O).length : Int) := by omega
          rw [if_pos hn] at hE
          simp +contextual -implicitDefEqProofs (maxSteps := 2000000) only [↓wP, wQ, wQ1, wQ2, wQ3, wR, boxE, partsOf, ↓reduceIte, n1w, n2w, n3w, n4w, n5w, n6w, reduceCtorEq, i1w, i2w, i3w, i4w, i5w, g2, f49', hle, hn']
          rw [bad 6 (by decide) hE, hE]
          rfl
        · have hn' : ¬ (2000 : Int) < ((lst O).length : Int) := by omega
          rw [if_neg hn] at hE
          rw [hE, if_pos rfl] at hL
          simp +contextual -implicitDefEqProofs (maxSteps := 2000000) only [↓wP, wQ, wQ1, wQ2, wQ3, wR, boxE, partsOf, ↓reduceIte, n1w, n2w, n3w, n4w, n5w, n6w, reduceCtorEq, i1w, i2w, i3w, i4w, i5w, g2, f49', hle, hn', f50']
          rw [hE, hL]
    · simp +contextual -implicitDefEqProofs (maxSteps := 2000000) only [↓wP, wQ, wQ1, wQ2, wQ3, wR, boxE, partsOf, ↓reduceIte, n1w, n2w, n3w, n4w, n5w, n6w, reduceCtorEq, i1w, i2w, i3w, i4w, i5w, g1, g4]
      refine ⟨by omega, m2', rfl, _, rfl, ?_⟩
      have e : appO l (([] : List Wr).map (mkF ts)) = l := by
        cases l with
        | none => rfl
        | some l => show some (l ++ []) = some l; rw [List.append_nil]
      simp only [List.map_nil] at e
      rw [e]
      cases hl0 : l with
      | none => rw [hl0] at t2; exact t2
      | some l' => rw [hl0] at t2; obtain ⟨i, e1, e2, e3, e4⟩ := t2; exact ⟨i, e1, e2, by omega, e4⟩
end Go.Q.SB
end

section
/- Add: plain laws. -/
set_option linter.unusedSimpArgs false
set_option linter.unusedVariables false
namespace Go.Q.SB
open Go.Q Go.Sort
theorem getElem?_pre {L M : List Fa} {i : Nat} (h : i < L.length) : (L ++ M)[i]? = L[i]? := List.getElem?_append_left h
theorem okU_pre (L M : List Fa) : ∀ n, n ≤ L.length → okU (L ++ M) n = okU L n
  | 0, _ => rfl
  | n + 1, h => by
    show (okU (L ++ M) n && _) = (okU L n && _)
    rw [okU_pre L M n (by omega), getElem?_pre (by omega : n < L.length)]
    cases hx : L[n]? with
    | none => rfl
    | some f =>
      show (_ && oneF (L ++ M) n f) = (_ && oneF L n f)
      have e1 : one1 (L ++ M) n f = one1 L n f := by
        unfold one1
        cases n with
        | zero => rfl
        | succ j => simp only [getElem?_pre (show j < L.length by omega)]
      unfold oneF
      rw [e1, List.take_append_of_le_length (by omega)]
theorem okU_snoc (L : List Fa) (f : Fa) : okU (L ++ [f]) (L.length + 1) = (okU L L.length && oneF L L.length f) := by
  show (okU (L ++ [f]) L.length && _) = _
  rw [okU_pre L [f] _ (Nat.le_refl _)]
  have : (L ++ [f])[L.length]? = some f := by simp
  rw [this]
  have e1 : one1 (L ++ [f]) L.length f = one1 L L.length f := by
    unfold one1
    cases hn : L.length with
    | zero => rfl
    | succ j => simp only [getElem?_pre (show j < L.length by omega)]
  show (_ && oneF (L ++ [f]) L.length f) = _
  unfold oneF
  rw [e1, List.take_append_of_le_length (Nat.le_refl _)]
theorem isB_app (l : List Fa) (ts : Int) : ∀ (w : List Wr) (k : Ky), (∀ x ∈ w, key x ≠ k) → isB (l ++ w.map (mkF ts)) k = isB l k := by
  intro w k h
  have key2 : ∀ (w : List Wr), (∀ x ∈ w, key x ≠ k) → ∀ b, (w.map (mkF ts)).foldl (fun b f => if key f.w = k then !f.w.g else b) b = b := by
    intro w
    induction w with
    | nil => intro _ b; rfl
    | cons x w ih =>
      intro h b
      rw [List.map_cons, List.foldl_cons]
      show List.foldl _ (if key x = k then _ else b) _ = b
      rw [if_neg (h x List.mem_cons_self)]
      exact ih (fun y hy => h y (List.mem_cons_of_mem _ hy)) b
  unfold isB
  rw [List.foldl_append]
  exact key2 w h _
theorem lastT_nonneg {l : List Fa} (h : okU l l.length = true) : 0 ≤ lastT l := by
  unfold lastT
  cases hl : l.getLast? with
  | none => exact Int.le_refl _
  | some f =>
    obtain ⟨n, hn⟩ : ∃ n, l.length = n + 1 := by
      cases l with
      | nil => simp at hl
      | cons a b => exact ⟨b.length, rfl⟩
    rw [List.getLast?_eq_getElem?, show l.length - 1 = n by omega, List.getElem?_eq_getElem (by omega), Option.some.injEq] at hl
    rw [hn] at h
    obtain ⟨-, h2⟩ := okU_step (by omega : n < l.length) h
    rw [hl] at h2
    unfold oneF one1 at h2
    simp only [Bool.and_eq_true, decide_eq_true_eq] at h2
    show 0 ≤ f.ts
    omega
theorem getLast_app (l : List Fa) (ts : Int) (w : List Wr) (x : Wr) : (l ++ (w ++ [x]).map (mkF ts)).getLast? = some (mkF ts x) := by
  rw [List.map_append, ← List.append_assoc]; simp
theorem bef_ne {l : List Wr} (h : rightW l = true) {i j : Nat} (hj : j < l.length) (hij : i < j) : bef (l[i]'(by omega)) l[j] = true := by
  have := w_pair h
  rw [List.pairwise_iff_getElem] at this
  exact this i j (by omega) hj hij
theorem right_okW {l : List Wr} (h : rightW l = true) : ∀ x ∈ l, okW x = true := by
  unfold rightW at h
  rw [Bool.and_eq_true] at h
  intro x hx
  obtain ⟨j, hj, rfl⟩ := List.mem_iff_getElem.1 hx
  have pre : ∀ n, n ≤ l.length → wU l n = true → ∀ j, j < n → (hj : j < l.length) → okN l j l[j] = true := by
    intro n
    induction n with
    | zero => intro _ _ j hj; omega
    | succ n ih =>
      intro hn hw j hj hjl
      rw [wU_step (by omega : n < l.length), Bool.and_eq_true] at hw
      by_cases e : j = n
      · subst e; exact hw.2
      · exact ih (by omega) hw.1 j (by omega) hjl
  have := pre _ (Nat.le_refl _) h.2 j hj hj
  unfold okN at this
  rw [Bool.and_eq_true] at this
  exact this.1
theorem okU_add {l : List Fa} {ts : Int} {w : List Wr} (h : okU l l.length = true) (hw : rightW w = true) (h1 : lastT l < ts) (h2 : ts ≤ 1099511627776) (hn : noneAt l w = false) :
    ∀ j, j ≤ w.length → okU (l ++ (w.take j).map (mkF ts)) (l ++ (w.take j).map (mkF ts)).length = true := by
  intro j
  induction j with
  | zero => intro _; simpa using h
  | succ j ih =>
    intro hj
    have ih' := ih (by omega)
    have hx : w.take (j + 1) = w.take j ++ [w[j]'(by omega)] := (List.take_append_getElem (by omega)).symm
    have hok := right_okW hw _ (List.getElem_mem (show j < w.length by omega))
    have hlt := lastT_nonneg h
    have hgone : (w[j]'(by omega)).g = true → isB l (key (w[j]'(by omega))) = true := fun hg => by
      unfold noneAt at hn
      have := List.any_eq_false.1 hn _ (List.getElem_mem (show j < w.length by omega))
      rw [hg] at this
      simpa using this
    have hkeys : ∀ x ∈ w.take j, key x ≠ key (w[j]'(by omega)) := fun x hx => by
      obtain ⟨i, hi, rfl⟩ := List.mem_iff_getElem.1 hx
      rw [List.length_take] at hi
      rw [List.getElem_take]
      exact bef_key (bef_ne hw (by omega) (by omega))
    have hprev : ∀ i, j = i + 1 → bef (w[i]?.getD (w[j]'(by omega))) (w[j]'(by omega)) = true := fun i hi => by
      rw [List.getElem?_eq_getElem (by omega)]
      exact bef_ne hw (by omega) (by omega)
    have hokp : ∀ i, j = i + 1 → ∃ p, w.take j = w.take i ++ [p] ∧ okW p = true ∧ bef p (w[j]'(by omega)) = true := fun i hi => by
      subst hi
      refine ⟨w[i]'(by omega), (List.take_append_getElem (by omega)).symm, right_okW hw _ (List.getElem_mem _), bef_ne hw (by omega) (by omega)⟩
    rw [hx, List.map_append, ← List.append_assoc]
    simp only [List.map_cons, List.map_nil]
    generalize w[j]'(by omega) = x at *
    obtain ⟨L, hL⟩ : ∃ L, L = l ++ (w.take j).map (mkF ts) := ⟨_, rfl⟩
    rw [← hL] at ih' ⊢
    rw [List.length_append, List.length_singleton, okU_snoc, ih', Bool.true_and]
    unfold oneF one1
    have hB : isB (L.take L.length) (key (mkF ts x).w) = isB l (key x) := by rw [List.take_length, hL]; exact isB_app l ts _ _ hkeys
    rw [hB]
    have h1' : decide (1 ≤ (mkF ts x).ts) = true := decide_eq_true (show (1 : Int) ≤ ts by omega)
    have h2' : decide ((mkF ts x).ts ≤ 1099511627776) = true := decide_eq_true h2
    have h3' : okW (mkF ts x).w = true := hok
    rw [h1', h2', h3', Bool.true_and, Bool.true_and, Bool.true_and]
    have hpr : ∀ p, L.getLast? = some p → aft p (mkF ts x) = true := by
      intro p hp
      cases j with
      | zero =>
        have e : L = l := by rw [hL]; simp
        rw [e] at hp
        unfold lastT at h1
        rw [hp] at h1
        simp only at h1
        unfold aft
        rw [decide_eq_true (show p.ts < (mkF ts x).ts from h1)]
        rfl
      | succ j =>
        obtain ⟨q, e1, e2, e3⟩ := hokp j rfl
        rw [hL, e1, getLast_app, Option.some.injEq] at hp
        subst hp
        unfold aft
        show (_ || ((ts == ts) && (okW q && okW x && bef q x))) = true
        rw [e2, hok, e3]
        simp
    have hmm : ∀ N, N = L.length → (match N with | 0 => true | j + 1 => match L[j]? with | some p => aft p (mkF ts x) | none => true) = true := by
      intro N hN
      cases N with
      | zero => rfl
      | succ i =>
        have hg : L[i]? = L.getLast? := by rw [List.getLast?_eq_getElem?, ← hN]; rfl
        simp only [hg]
        cases hq : L.getLast? with
        | none => rfl
        | some p => exact hpr p hq
    have hmm' := hmm _ rfl
    refine Bool.and_eq_true_iff.2 ⟨hmm', ?_⟩
    show (!x.g || isB l (key x)) = true
    cases hg : x.g
    · rfl
    · rw [hgone hg]; rfl
theorem refE_zero {l : List Fa} {ts : Int} {w : List Wr} (h : refE l ts w = 0) : lastT l < ts ∧ ts ≤ 1099511627776 ∧ noneAt l w = false ∧ dimB (l ++ w.map (mkF ts)) = true ∧ (l ++ w.map (mkF ts)).length ≤ 2000 := by
  rw [refE_eq] at h
  split at h
  · cases h
  · split at h
    · cases h
    · split at h
      · cases h
      · split at h
        · cases h
        · rename_i h1 h2 h3 h4
          exact ⟨by omega, by omega, by simpa using h2, by simpa using h3, by omega⟩
theorem addE_zero {l : List Fa} {ts : Int} {w : List Wr} (h : addE l ts w = 0) : rightF l = true ∧ rightW w = true ∧ refE l ts w = 0 := by
  unfold addE at h
  split at h
  · cases h
  · split at h
    · cases h
    · rename_i h1 h2
      exact ⟨by simpa using h1, by simpa using h2, h⟩
theorem rightF_okU {l : List Fa} (h : rightF l = true) : okU l l.length = true ∧ dimB l = true ∧ l.length ≤ 2000 := by
  unfold rightF at h
  simp only [Bool.and_eq_true, decide_eq_true_eq] at h
  exact ⟨h.1.2, h.2, h.1.1⟩
theorem right_add {l : List Fa} {ts : Int} {w : List Wr} (h : addE l ts w = 0) : rightF (l ++ w.map (mkF ts)) = true := by
  obtain ⟨h1, h2, h3⟩ := addE_zero h
  obtain ⟨r1, r2, r3, r4, r5⟩ := refE_zero h3
  obtain ⟨o1, o2, o3⟩ := rightF_okU h1
  have := okU_add o1 h2 r1 r2 r3 w.length (Nat.le_refl _)
  rw [List.take_length] at this
  unfold rightF
  rw [this, r4, decide_eq_true r5]; rfl
theorem last_add (l : List Fa) (ts : Int) (w : List Wr) : lastT (l ++ w.map (mkF ts)) = if w = [] then lastT l else ts := by
  rcases List.eq_nil_or_concat w with rfl | ⟨w', x, rfl⟩
  · simp
  · rw [List.concat_eq_append, if_neg (by simp)]
    unfold lastT
    rw [getLast_app]
    rfl
theorem dmp_some {l : List Fa} {c n : Int} (h : dmp l c = some n) : ∃ f ∈ l, f.w.g = false ∧ f.w.c = c ∧ ((lst f.w.v).length : Int) = n := by
  have key : ∀ (l : List Fa) (b : Option Int), l.foldl (fun b f => if f.w.g then b else if f.w.c = c then some ((lst f.w.v).length : Int) else b) b = some n → b = some n ∨ ∃ f ∈ l, f.w.g = false ∧ f.w.c = c ∧ ((lst f.w.v).length : Int) = n := by
    intro l
    induction l with
    | nil => intro b h; exact .inl h
    | cons f l ih =>
      intro b h
      rcases ih _ h with h | ⟨g, hg, h⟩
      · dsimp only at h
        split at h
        · exact .inl h
        · split at h
          · rename_i h1 h2
            exact .inr ⟨f, List.mem_cons_self, by simpa using h1, h2, by simpa using h⟩
          · exact .inl h
      · exact .inr ⟨g, List.mem_cons_of_mem _ hg, h⟩
  rcases key l none h with h | h
  · cases h
  · exact h
theorem dmp_none {l : List Fa} {c : Int} (h : dmp l c = none) : ∀ f ∈ l, f.w.g = false → f.w.c ≠ c := by
  have key : ∀ (l : List Fa) (b : Option Int), l.foldl (fun b f => if f.w.g then b else if f.w.c = c then some ((lst f.w.v).length : Int) else b) b = none → b = none ∧ ∀ f ∈ l, f.w.g = false → f.w.c ≠ c := by
    intro l
    induction l with
    | nil => intro b h; exact ⟨h, fun f hf => by simp at hf⟩
    | cons f l ih =>
      intro b h
      obtain ⟨h1, h2⟩ := ih _ h
      dsimp only at h1
      split at h1
      · rename_i hg
        refine ⟨h1, fun x hx hxg => ?_⟩
        rcases List.mem_cons.1 hx with rfl | hx
        · rw [hxg] at hg; cases hg
        · exact h2 x hx hxg
      · split at h1
        · cases h1
        · rename_i hc
          refine ⟨h1, fun x hx hxg => ?_⟩
          rcases List.mem_cons.1 hx with rfl | hx
          · exact hc
          · exact h2 x hx hxg
  exact (key l none h).2
theorem dimB_iff (l : List Fa) : dimB l = true ↔ ∀ f ∈ l, ∀ g ∈ l, f.w.g = false → g.w.g = false → f.w.c = g.w.c → (lst f.w.v).length = (lst g.w.v).length := by
  have key : ∀ n, n ≤ l.length → (dimU l n = true ↔ ∀ f ∈ l.take n, ∀ g ∈ l.take n, f.w.g = false → g.w.g = false → f.w.c = g.w.c → (lst f.w.v).length = (lst g.w.v).length) := by
    intro n
    induction n with
    | zero => intro _; simp [dimU]
    | succ n ih =>
      intro hn
      rw [dimU_step (by omega : n < l.length), Bool.and_eq_true, ih (by omega), ← List.take_append_getElem (by omega : n < l.length)]
      unfold dim1
      generalize l[n]'(by omega) = x
      generalize l.take n = T
      constructor
      · rintro ⟨h1, h2⟩ f hf g hg a b c
        have hx : ∀ f ∈ T, f.w.g = false → x.w.g = false → f.w.c = x.w.c → (lst f.w.v).length = (lst x.w.v).length := by
          intro f hf a b c
          rw [b, Bool.false_or] at h2
          cases hd : dmp T x.w.c with
          | none => exact absurd c (dmp_none hd f hf a)
          | some m =>
            rw [hd] at h2
            obtain ⟨g, hg, g1, g2, g3⟩ := dmp_some hd
            have := h1 f hf g hg a g1 (by rw [c, g2])
            simp only [beq_iff_eq] at h2
            omega
        rcases List.mem_append.1 hf with kf | kf <;> rcases List.mem_append.1 hg with kg | kg
        · exact h1 f kf g kg a b c
        · rw [List.mem_singleton] at kg; rw [kg] at b c ⊢; exact hx f kf a b c
        · rw [List.mem_singleton] at kf; rw [kf] at a c ⊢; exact (hx g kg b a c.symm).symm
        · rw [List.mem_singleton] at kf kg; rw [kf, kg]
      · intro h
        refine ⟨fun f hf g hg => h f (List.mem_append_left _ hf) g (List.mem_append_left _ hg), ?_⟩
        cases hxg : x.w.g
        · rw [Bool.false_or]
          cases hd : dmp T x.w.c with
          | none => rfl
          | some m =>
            obtain ⟨g, hg, g1, g2, g3⟩ := dmp_some hd
            have := h g (List.mem_append_left _ hg) x (List.mem_append_right _ List.mem_cons_self) g1 hxg g2
            simp only [beq_iff_eq]
            omega
        · rfl
  have := key l.length (Nat.le_refl _)
  rw [List.take_length] at this
  exact this
theorem now_add (l : List Fa) (ts : Int) (w : List Wr) (c t : Int) (h : ts ≤ t) : nowR (l ++ w.map (mkF ts)) c t = (w.filter fun x => x.c == c).foldl ovStep (nowR l c t) := by
  unfold nowR
  rw [List.foldl_append]
  generalize l.foldl (nowStep c t) [] = R
  induction w generalizing R with
  | nil => rfl
  | cons x w ih =>
    rw [List.map_cons, List.foldl_cons, ih, List.filter_cons]
    unfold nowStep cnt
    have e : decide ((mkF ts x).ts ≤ t) = true := decide_eq_true h
    rw [e, Bool.and_true]
    show _ = List.foldl ovStep R (if (x.c == c) = true then _ else _)
    cases hk : (x.c == c)
    · have : ((mkF ts x).w.c == c) = false := hk
      rw [this]; rfl
    · have : ((mkF ts x).w.c == c) = true := hk
      rw [this]; rfl
theorem now_before (l : List Fa) (ts : Int) (w : List Wr) (c t : Int) (h : t < ts) : nowR (l ++ w.map (mkF ts)) c t = nowR l c t := by
  unfold nowR
  rw [List.foldl_append]
  generalize l.foldl (nowStep c t) [] = R
  induction w generalizing R with
  | nil => rfl
  | cons x w ih =>
    rw [List.map_cons, List.foldl_cons]
    have : nowStep c t R (mkF ts x) = R := by
      unfold nowStep cnt
      have e : decide ((mkF ts x).ts ≤ t) = false := decide_eq_false (by show ¬ ts ≤ t; omega)
      rw [e, Bool.and_false]; rfl
    rw [this]
    exact ih R
end Go.Q.SB
end

section
/- IdealApart. -/
set_option linter.unusedSimpArgs false
set_option linter.unusedVariables false
namespace Go.Q.SB
open Go.Q Go.Sort
open Nat renaming reduceEqDiff → n1w, reduceAdd → n2w, reduceSub → n3w, reduceLeDiff → n4w, reduceLT → n5w, reduceMul → n6w
open Int renaming reduceBNe → i1w, reduceBEq → i2w, reduceLT → i3w, reduceLE → i4w, reduceGT → i5w
def lastE (l : List Fa) : Int := if rightF l = true then lastT l else 0
theorem r20 (l : Option (List Fa)) (h : FitF (lst l)) : res T 20 [slV 5 faV l] = some (.int .u64 (lastE (lst l))) := by
  refine run_res (run_pure (fn := g20) rfl rfl (by decide) ?_)
  simp only [g20, b20, oO, oN, mV, lD, gO, pP, qQ, cI, aR]
  have f24' := f24 l h.sm
  have f46' := f46 l h.sm.1
  unfold lastE
  cases hr : rightF (lst l)
  · rw [hr] at f24'
    rw [if_neg (by decide)] at f24'
    have z0 : ((280 : Int) != 0) = true := rfl
    simp +contextual -implicitDefEqProofs (maxSteps := 2000000) only [↓wP, wQ, wQ1, wQ2, wQ3, wR, boxE, partsOf, ↓reduceIte, n1w, n2w, n3w, n4w, n5w, n6w, reduceCtorEq, i1w, i2w, i3w, i4w, i5w, f24', z0]
  · rw [hr] at f24'
    rw [if_pos rfl] at f24'
    have z0 : ((0 : Int) != 0) = false := rfl
    simp +contextual -implicitDefEqProofs (maxSteps := 2000000) only [↓wP, wQ, wQ1, wQ2, wQ3, wR, boxE, partsOf, ↓reduceIte, n1w, n2w, n3w, n4w, n5w, n6w, reduceCtorEq, i1w, i2w, i3w, i4w, i5w, f24', f46', z0]
theorem f20 (l : Option (List Fa)) (h : FitF (lst l)) (fs : Bool) (σ : Sto) (n lk : Nat) : callE T fs 20 [slV 5 faV l] σ n lk = some (.int .u64 (lastE (lst l)), σ, n) :=
  callE_tr (by decide) (r20 l h) (by simp [Tr, Tr_slV]) rfl fs σ n lk
theorem lastE_le (l : List Fa) : 0 ≤ lastE l ∧ lastE l ≤ 1099511627776 := by
  unfold lastE
  split
  · rename_i h
    obtain ⟨h1, -, -⟩ := rightF_okU h
    refine ⟨lastT_nonneg h1, ?_⟩
    unfold lastT
    cases hl : l.getLast? with
    | none => decide
    | some f =>
      obtain ⟨n, hn⟩ : ∃ n, l.length = n + 1 := by
        cases l with
        | nil => simp at hl
        | cons a b => exact ⟨b.length, rfl⟩
      rw [List.getLast?_eq_getElem?, show l.length - 1 = n by omega, List.getElem?_eq_getElem (by omega), Option.some.injEq] at hl
      rw [hn] at h1
      obtain ⟨-, h2⟩ := okU_step (by omega : n < l.length) h1
      rw [hl] at h2
      unfold oneF one1 at h2
      simp only [Bool.and_eq_true, decide_eq_true_eq] at h2
      show f.ts ≤ _
      omega
  · exact ⟨Int.le_refl _, by decide⟩
theorem addO_lst {l : Option (List Fa)} {ts : Int} {w : List Wr} (h : addE (lst l) ts w = 0) : lst (addO l ts w) = lst l ++ w.map (mkF ts) := by unfold addO; rw [if_pos h, lst_appO]
theorem addO_fit {l : Option (List Fa)} {ts : Int} {w : Option (List Wr)} {N : Nat} (h1 : (lst l).length ≤ N) (h2 : ∀ f ∈ lst l, (lst f.w.v).length ≤ 5) (h3 : (lst w).length ≤ 13) (h4 : ∀ f ∈ lst w, (lst f.v).length ≤ 5) :
    (lst (addO l ts (lst w))).length ≤ N + 13 ∧ ∀ f ∈ lst (addO l ts (lst w)), (lst f.w.v).length ≤ 5 := by
  unfold addO
  split
  · rw [lst_appO]
    refine ⟨by rw [List.length_append, List.length_map]; omega, fun f hf => ?_⟩
    rcases List.mem_append.1 hf with hf | hf
    · exact h2 f hf
    · obtain ⟨x, hx, rfl⟩ := List.mem_map.1 hf
      exact h4 x hx
  · exact ⟨by simp [lst], fun f hf => by simp [lst] at hf⟩
theorem fit5 {L : List Fa} {N : Nat} (hN : N ≤ 1000) (h : L.length ≤ N ∧ ∀ f ∈ L, (lst f.w.v).length ≤ 5) : FitF L := ⟨by have := h.1; omega, fun f hf => by have := h.2 f hf; omega⟩
theorem few5 {L : List Fa} {N : Nat} (hN : N ≤ 128) (h : L.length ≤ N ∧ ∀ f ∈ L, (lst f.w.v).length ≤ 5) : Few L := ⟨by have := h.1; omega, fun f hf => by have := h.2 f hf; omega⟩
theorem f13 (l : Option (List Fa)) (ts : Int) (w : Option (List Wr)) (h : FitF (lst l)) (hw : FitW (lst w)) (fs : Bool) (σ : Sto) (n lk : Nat) :
    callE T fs 13 [slV 5 faV l, .int .u64 ts, slV 4 wrV w] σ n lk = some (.tup [slV 5 faV (addO l ts (lst w)), .int .i64 (addE (lst l) ts (lst w))], σ, n) :=
  callE_tr (by decide) (r13 l ts w h hw) (by simp [Tr, Tr_slV]) (by simp [Nw, Nw_slV]) fs σ n lk
theorem same_self (l : List Rw) : sameL sameR1 l l = true := same_r rfl
def SmC (c : Cm) : Prop := SmW c.ws
end Go.Q.SB
end

section
/- Which facts are the same; facts but a collection's. -/
set_option linter.unusedSimpArgs false
set_option linter.unusedVariables false
namespace Go.Q.SB
open Go.Q Go.Sort
open Nat renaming reduceEqDiff → n1w, reduceAdd → n2w, reduceSub → n3w, reduceLeDiff → n4w, reduceLT → n5w, reduceMul → n6w
open Int renaming reduceBNe → i1w, reduceBEq → i2w, reduceLT → i3w, reduceLE → i4w, reduceGT → i5w
end Go.Q.SB
end

section
/- How many rows are stored. -/
set_option linter.unusedSimpArgs false
set_option linter.unusedVariables false
namespace Go.Q.SB
open Go.Q Go.Sort
open Nat renaming reduceEqDiff → n1w, reduceAdd → n2w, reduceSub → n3w, reduceLeDiff → n4w, reduceLT → n5w, reduceMul → n6w
open Int renaming reduceBNe → i1w, reduceBEq → i2w, reduceLT → i3w, reduceLE → i4w, reduceGT → i5w
def nx : List Fa → Int → Int → Option Int
  | [], _, _ => none
  | f :: l, c, id => if f.w.c = c ∧ f.w.id = id then some f.ts else nx l c id
def ok1 (c fl : Int) (f : Fa) (o : Option Int) : Bool := decide (f.w.c = c) && (!f.w.g && match o with | none => true | some t => decide (fl < t))
def stN (c fl : Int) : List Fa → Nat
  | [] => 0
  | f :: l => (if ok1 c fl f (nx l c f.w.id) = true then 1 else 0) + stN c fl l
theorem stN_le (c fl : Int) : ∀ l : List Fa, stN c fl l ≤ l.length
  | [] => Nat.le_refl _
  | f :: l => by have := stN_le c fl l; simp only [stN, List.length_cons]; split <;> omega
theorem stN_drop {c fl : Int} {l : List Fa} {j : Nat} (h : j < l.length) : stN c fl (l.drop j) = (if ok1 c fl l[j] (nx (l.drop (j + 1)) c l[j].w.id) = true then 1 else 0) + stN c fl (l.drop (j + 1)) := by
  rw [List.drop_eq_getElem_cons h]; rfl
theorem nx_drop {c id : Int} {l : List Fa} {j : Nat} (h : j < l.length) : nx (l.drop j) c id = if l[j].w.c = c ∧ l[j].w.id = id then some l[j].ts else nx (l.drop (j + 1)) c id := by
  rw [List.drop_eq_getElem_cons h]; rfl
theorem r67 (l : Option (List Fa)) : res T 67 [slV 5 faV l] = some (.fn 98 [.box [slV 5 faV l]]) := by
  refine run_res (run_pure (fn := g67) rfl rfl (by decide) ?_)
  simp only [g67, b67, oO, oN, mV, lD, gO, pP, qQ, cI, aR]
  simp +contextual -implicitDefEqProofs (maxSteps := 2000000) only [↓wP, wQ, wQ1, wQ2, wQ3, wR, boxE, partsOf, ↓reduceIte, n1w, n2w, n3w, n4w, n5w, n6w, reduceCtorEq, i1w, i2w, i3w, i4w, i5w]
theorem f67 {σ : Sto} {n : Nat} (l : Option (List Fa)) : ∃ σ', callE T true 67 [slV 5 faV l] σ n 0 = some (.fn 98 [.box [slV 5 faV l]], σ', n) ∧ ∀ i, σ' i = σ i := by
  have m : [slV 5 faV l].mapM (frz σ 12) = some [slV 5 faV l] := by simp only [List.mapM_cons, List.mapM_nil, frz_slV]; rfl
  obtain ⟨σ', e1, e2⟩ := callE_sh' (by decide) m (r67 l) (fun σ n => rfl) n
  refine ⟨σ', e1, fun i => e2 i (fun hd => ?_)⟩
  simp only [List.flatMap_cons, List.flatMap_nil, rch_slV, List.nil_append, List.append_nil] at hd
  simp at hd
theorem that98 (l : Option (List Fa)) (J : Nat → Sto → Nat → Prop) (lid : Nat) (hl : (lst l).length ≤ 1000000)
    (hy : ∀ j σ n (h : j < (lst l).length), J (j + 1) σ n → yieldW (run T) lid [.int .i64 (j : Int), faV (lst l)[j]] σ n 0 (fun y σ' n' => y = .bool true ∧ J j σ' n'))
    (σ0 : Sto) (n0 : Nat) (h0 : J (lst l).length σ0 n0) : run T (.raw 98 [.yld lid, .box [slV 5 faV l]] σ0 n0 0) (memQ fun _ σ' n' => J 0 σ' n') := by
  refine run_rawE (fn := g98) rfl rfl ?_
  simp only [g98, b98, oO, oN, mV, lD, gO, pP, qQ, cI, aR]
  have hw0 : IntKind.i64.wrap (((lst l).length : Int) - 1) = ((lst l).length : Int) - 1 := by rw [wrap_i64] <;> omega
  simp +contextual -implicitDefEqProofs (maxSteps := 2000000) only [↓wP, wQ, wQ1, wQ2, wQ3, wR, boxE, partsOf, ↓reduceIte, n1w, n2w, n3w, n4w, n5w, n6w, reduceCtorEq, i1w, i2w, i3w, i4w, i5w, hw0]
  refine WC_loopI 0 (fun (j : Nat) env σ n => j ≤ (lst l).length ∧ env 0 = .yld lid ∧ env 1 = .box [slV 5 faV l] ∧ env 3 = .int .i64 ((j : Int) - 1) ∧ J j σ n) (fun j => j) ?_ (lst l).length _ _ _ ⟨Nat.le_refl _, rfl, rfl, rfl, h0⟩
  intro j env σ n ⟨hj, g1, g2, g3, g4⟩
  cases j with
  | zero =>
    have hd : decide ((0 : Int) ≤ ((0 : Nat) : Int) - 1) = false := by decide
    simp +contextual -implicitDefEqProofs (maxSteps := 2000000) only [↓wP, wQ, wQ1, wQ2, wQ3, wR, boxE, partsOf, ↓reduceIte, n1w, n2w, n3w, n4w, n5w, n6w, reduceCtorEq, i1w, i2w, i3w, i4w, i5w, g1, g2, g3, hd]
    exact g4
  | succ j =>
    have hj1 : (((j + 1 : Nat) : Int) - 1) = (j : Int) := by omega
    rw [hj1] at g3
    have hd : decide ((0 : Int) ≤ (j : Int)) = true := by simp
    have hwj : IntKind.i64.wrap ((j : Int) - 1) = (j : Int) - 1 := by rw [wrap_i64] <;> omega
    have hx : (lst l)[j]? = some (lst l)[j] := List.getElem?_eq_getElem (by omega)
    have hn := hy j σ n (by omega) g4
    generalize (lst l)[j] = x at *
    rw [faV_eq] at hn
    simp +contextual -implicitDefEqProofs (maxSteps := 2000000) only [↓wP, wQ, wQ1, wQ2, wQ3, wR, boxE, partsOf, ↓reduceIte, n1w, n2w, n3w, n4w, n5w, n6w, reduceCtorEq, i1w, i2w, i3w, i4w, i5w, g1, g2, g3, hd, hx, faV_eq]
    refine stepW_yld (yieldW_mono (fun _ _ x => x) run_mono (fun y σ' n' ⟨hy1, hy2⟩ => ?_) hn)
    subst hy1
    simp +contextual -implicitDefEqProofs (maxSteps := 2000000) only [↓wP, wQ, wQ1, wQ2, wQ3, wR, boxE, partsOf, ↓reduceIte, n1w, n2w, n3w, n4w, n5w, n6w, reduceCtorEq, i1w, i2w, i3w, i4w, i5w, g1, g2, g3, hwj]
    exact ⟨j, by omega, by omega, rfl, hy2⟩
theorem storedLoop {env : Nat → V} {σ : Sto} {n : Nat} {Q : Ex → St → Prop} (l : Option (List Fa)) (c fl : Int) (hl : (lst l).length ≤ 1000000)
    (hg : env 26 = .fn 98 [.box [slV 5 faV l]]) (h4 : env 4 = .ptr 0 1 0 0) (h5 : env 5 = .ptr 1 1 0 0) (h9 : env 9 = .ptr 4 1 0 0) (h10 : env 10 = .ptr 5 1 0 0)
    (s0 : σ 0 = some (.row 1 [.int .i64 c])) (s01 : σ 1 = some (.row 1 [.int .u64 fl])) (s1 : σ 3 = some (.map (ens uV uV []) 0)) (s2 : σ 4 = some (.row 1 [.mp 3])) (s3 : σ 5 = some (.row 1 [.int .i64 0])) (hn : 6 ≤ n)
    (hQ : ∀ σ' n', n ≤ n' → σ' 5 = some (.row 1 [.int .i64 (stN c fl (lst l) : Int)]) → Q .normal ⟨env, σ', n', 0⟩) :
    WC T (.rangeF (.tmp 26) [27, 28] (.reg [⟨(some 12), none, .alloc (.agg [(.int .u64 0), (.int .i64 0), (.int .u64 0), (.bool false), .nilS])⟩, ⟨none, none, .store 5 (.tmp 12) (.tmp 28)⟩]) (.block 1 (.seq (.seq (.reg [⟨(some 29), none, .faddr (.tmp 12) 1⟩, ⟨(some 30), none, .faddr (.tmp 29) 0⟩, ⟨(some 31), none, .load false 1 (.tmp 30)⟩, ⟨(some 32), none, .load false 1 (.tmp 4)⟩, ⟨(some 33), none, .bin .neq (.tmp 31) (.tmp 32)⟩]) (.cond (.tmp 33) (.exit 1) .skip)) (.seq (.seq (.reg [⟨(some 35), none, .load false 1 (.tmp 9)⟩, ⟨(some 36), none, .faddr (.tmp 12) 1⟩, ⟨(some 37), none, .faddr (.tmp 36) 1⟩, ⟨(some 38), none, .load false 1 (.tmp 37)⟩, ⟨(some 39), none, .mget true (.one .int) (.int .u64 0) (.tmp 35) (.tmp 38)⟩, ⟨(some 34), none, .mov (.tmp 39)⟩, ⟨(some 40), none, .ext (.tmp 34) 0⟩, ⟨(some 41), none, .ext (.tmp 34) 1⟩, ⟨(some 13), none, .mov (.tmp 40)⟩, ⟨(some 14), none, .mov (.tmp 41)⟩]) (.seq (.reg [⟨(some 42), none, .faddr (.tmp 12) 1⟩, ⟨(some 43), none, .faddr (.tmp 42) 2⟩, ⟨(some 44), none, .load false 1 (.tmp 43)⟩, ⟨(some 45), none, .un .not (.tmp 44)⟩, ⟨(some 46), none, .mov (.tmp 45)⟩, ⟨(some 47), (some (46, true)), .mov (.tmp 14)⟩, ⟨(some 48), (some (46, true)), .un .not (.tmp 47)⟩, ⟨(some 49), (some (46, true)), .mov (.tmp 48)⟩, ⟨(some 50), (some (49, false)), .mov (.tmp 13)⟩, ⟨(some 51), (some (49, false)), .load false 1 (.tmp 5)⟩, ⟨(some 52), (some (49, false)), .bin .gtr (.tmp 50) (.tmp 51)⟩, ⟨(some 53), (some (46, true)), .pick (.tmp 49) (.con (.bool true)) (.tmp 52)⟩, ⟨(some 54), none, .pick (.tmp 46) (.tmp 53) (.con (.bool false))⟩]) (.cond (.tmp 54) (.reg [⟨(some 55), none, .load false 1 (.tmp 10)⟩, ⟨(some 56), none, .bin .add (.tmp 55) (.con (.int .i64 1))⟩, ⟨none, none, .store 1 (.tmp 10) (.tmp 56)⟩]) .skip))) (.reg [⟨(some 57), none, .load false 1 (.tmp 9)⟩, ⟨(some 58), none, .faddr (.tmp 12) 1⟩, ⟨(some 59), none, .faddr (.tmp 58) 1⟩, ⟨(some 60), none, .load false 1 (.tmp 59)⟩, ⟨(some 61), none, .faddr (.tmp 12) 0⟩, ⟨(some 62), none, .load false 1 (.tmp 61)⟩, ⟨none, none, .mupd (.one .int) (.tmp 57) (.tmp 60) (.tmp 62)⟩]))))) env σ n 0 Q := by
  refine WC_rangeF hg (Nat.zero_le _) ?_
  generalize hA : AC.reg [⟨some 12, none, .alloc _⟩, ⟨none, none, .store 5 (.tmp 12) (.tmp 28)⟩] = asg
  generalize hB : AC.block 1 _ = bd
  refine run_mono _ _ _ (fun o ho => ?_) (that98 l (fun j σ' n' => n < n' ∧ σ' n = some (.loop env [27, 28] asg bd .ready none) ∧ σ' 0 = some (.row 1 [.int .i64 c]) ∧ σ' 1 = some (.row 1 [.int .u64 fl]) ∧ σ' 4 = some (.row 1 [.mp 3]) ∧ σ' 5 = some (.row 1 [.int .i64 (stN c fl ((lst l).drop j) : Int)]) ∧
    ∃ Lm clk, MOk Lm clk ∧ σ' 3 = some (.map (ens uV uV Lm) clk) ∧ ∀ id, vw Lm id = nx ((lst l).drop j) c id) n hl ?_ _ _ ?_)
  · cases o <;> try exact ho.elim
    obtain ⟨e1, e2, d1, d2, e3, e4, -⟩ := ho
    refine ⟨_, _, _, _, _, _, e2, by decide, ?_⟩
    exact hQ _ _ (by omega) (by rw [upd_ne (by omega)]; exact e4)
  · rintro j σ' n' hj ⟨e1, e2, d1, d2, e3, e4, Lm, clk, m1, m2, m3⟩
    have hst := stN_drop (c := c) (fl := fl) hj
    have hnx := fun id => nx_drop (c := c) (id := id) hj
    have hlen := stN_le c fl ((lst l).drop (j + 1))
    rw [List.length_drop] at hlen
    generalize stN c fl ((lst l).drop (j + 1)) = N at *
    generalize stN c fl ((lst l).drop j) = M at *
    generalize nx ((lst l).drop (j + 1)) c = F at *
    generalize nx ((lst l).drop j) c = G at *
    generalize (lst l)[j] = x at *
    refine yieldW_go e2 rfl (Nat.zero_le _) ?_ (hd := ⟨by rw [← hA]; rfl, by rw [← hB]; rfl⟩)
    obtain ⟨LR, hLR⟩ : ∃ LR, LR = Ob.loop env [27, 28] asg bd .ready none := ⟨_, rfl⟩
    obtain ⟨LB, hLB⟩ : ∃ LB, LB = Ob.loop env [27, 28] asg bd .busy none := ⟨_, rfl⟩
    rw [← hLR] at e2 ⊢
    rw [← hLB]
    subst hA
    subst hB
    have a1 : (0 = n) = False := by simp; omega
    have a2 : (n = 0) = False := by simp; omega
    have a3 : (0 = n') = False := by simp; omega
    have a4 : (n' = 0) = False := by simp; omega
    have a5 : (1 = n) = False := by simp; omega
    have a6 : (n = 1) = False := by simp; omega
    have a7 : (1 = n') = False := by simp; omega
    have a8 : (n' = 1) = False := by simp; omega
    have a9 : (3 = n) = False := by simp; omega
    have a10 : (n = 3) = False := by simp; omega
    have a11 : (3 = n') = False := by simp; omega
    have a12 : (n' = 3) = False := by simp; omega
    have a13 : (4 = n) = False := by simp; omega
    have a14 : (n = 4) = False := by simp; omega
    have a15 : (4 = n') = False := by simp; omega
    have a16 : (n' = 4) = False := by simp; omega
    have a17 : (5 = n) = False := by simp; omega
    have a18 : (n = 5) = False := by simp; omega
    have a19 : (5 = n') = False := by simp; omega
    have a20 : (n' = 5) = False := by simp; omega
    have a21 : (n = n') = False := by simp; omega
    have a22 : (n' = n) = False := by simp; omega
    have a23 : ((0 : Nat) = 3) = False := by simp
    have a24 : ((0 : Nat) = 5) = False := by simp
    have a25 : ((1 : Nat) = 3) = False := by simp
    have a26 : ((1 : Nat) = 5) = False := by simp
    have a27 : ((3 : Nat) = 5) = False := by simp
    have a28 : ((4 : Nat) = 3) = False := by simp
    have a29 : ((4 : Nat) = 5) = False := by simp
    have a30 : ((5 : Nat) = 3) = False := by simp
    rw [faV_eq]
    by_cases hc : x.w.c = c
    · have hb : (x.w.c != c) = false := by simp [hc]
      have hmg : mgetE true (.one .int) (.int .u64 0) (some (ens uV uV Lm)) (.int .u64 x.w.id) = some (.tup [.int .u64 ((F x.w.id).getD 0), .bool (F x.w.id).isSome]) := by
        have := mget_ens (ve := uV) keyU true (.int .u64 0) x.w.id Lm
        simp only [uV] at this
        rw [this, m3]
        cases F x.w.id <;> rfl
      have pu := fun (σX : Sto) (h : σX 3 = some (.map (ens uV uV Lm) clk)) (nn : Nat) => mupd_ens (ke := uV) (ve := uV) (lk := 0) keyU m1 h (Nat.zero_le _) x.w.id x.ts nn
      simp only [uV] at pu
      have hnew : ∀ id, vw (mput Lm clk x.w.id x.ts).1 id = G id := by
        intro id
        rw [vw_mput, m3, hnx]
        by_cases e : id = x.w.id
        · rw [if_pos e, if_pos ⟨hc, e.symm⟩]
        · rw [if_neg e, if_neg (fun h => e h.2.symm)]
      have hwN : IntKind.i64.wrap ((N : Int) + 1) = (N : Int) + 1 := by rw [wrap_i64] <;> omega
      have hN1 : ((1 + N : Nat) : Int) = (N : Int) + 1 := by omega
      unfold ok1 at hst
      rw [decide_eq_true hc, Bool.true_and] at hst
      cases hg : x.w.g
      all_goals rw [hg] at hst
      · cases hv : F x.w.id with
        | none =>
          rw [hv] at hmg hst
          rw [if_pos (by rfl), ] at hst
          simp only [Option.getD_none, Option.isSome_none] at hmg
          simp +contextual -implicitDefEqProofs (maxSteps := 2000000) only [↓wP, wQ, wQ1, wQ2, wQ3, wR, boxE, partsOf, ↓reduceIte, n1w, n2w, n3w, n4w, n5w, n6w, reduceCtorEq, i1w, i2w, i3w, i4w, i5w, bind_cons, bind_nil, h4, h5, h9, h10, e2, d1, d2, e3, e4, m2, a1, a2, a3, a4, a5, a6, a7, a8, a9, a10, a11, a12, a13, a14, a15, a16, a17, a18, a19, a20, a21, a22, a23, a24, a25, a26, a27, a28, a29, a30, hb, hmg, hg, hwN, pu]
          exact ⟨by omega, by rw [hst, hN1], _, _, mput_ok m1 _ _, rfl, hnew⟩
        | some t =>
          rw [hv] at hmg hst
          simp only [Option.getD_some, Option.isSome_some] at hmg
          by_cases ht : fl < t
          · have hdt : decide (fl < t) = true := decide_eq_true ht
            simp only [hdt, Bool.not_false, Bool.and_self, if_true] at hst
            simp +contextual -implicitDefEqProofs (maxSteps := 2000000) only [↓wP, wQ, wQ1, wQ2, wQ3, wR, boxE, partsOf, ↓reduceIte, n1w, n2w, n3w, n4w, n5w, n6w, reduceCtorEq, i1w, i2w, i3w, i4w, i5w, bind_cons, bind_nil, h4, h5, h9, h10, e2, d1, d2, e3, e4, m2, a1, a2, a3, a4, a5, a6, a7, a8, a9, a10, a11, a12, a13, a14, a15, a16, a17, a18, a19, a20, a21, a22, a23, a24, a25, a26, a27, a28, a29, a30, hb, hmg, hg, hdt, hwN, pu]
            exact ⟨by omega, by rw [hst, hN1], _, _, mput_ok m1 _ _, rfl, hnew⟩
          · have hdt : decide (fl < t) = false := decide_eq_false ht
            simp only [hdt, Bool.and_false, Bool.false_eq_true, if_false, Nat.zero_add] at hst
            simp +contextual -implicitDefEqProofs (maxSteps := 2000000) only [↓wP, wQ, wQ1, wQ2, wQ3, wR, boxE, partsOf, ↓reduceIte, n1w, n2w, n3w, n4w, n5w, n6w, reduceCtorEq, i1w, i2w, i3w, i4w, i5w, bind_cons, bind_nil, h4, h5, h9, h10, e2, d1, d2, e3, e4, m2, a1, a2, a3, a4, a5, a6, a7, a8, a9, a10, a11, a12, a13, a14, a15, a16, a17, a18, a19, a20, a21, a22, a23, a24, a25, a26, a27, a28, a29, a30, hb, hmg, hg, hdt, hwN, pu]
            exact ⟨by omega, by rw [hst], _, _, mput_ok m1 _ _, rfl, hnew⟩
      · simp only [Bool.not_true, Bool.false_and, Bool.false_eq_true, if_false, Nat.zero_add] at hst
        simp +contextual -implicitDefEqProofs (maxSteps := 2000000) only [↓wP, wQ, wQ1, wQ2, wQ3, wR, boxE, partsOf, ↓reduceIte, n1w, n2w, n3w, n4w, n5w, n6w, reduceCtorEq, i1w, i2w, i3w, i4w, i5w, bind_cons, bind_nil, h4, h5, h9, h10, e2, d1, d2, e3, e4, m2, a1, a2, a3, a4, a5, a6, a7, a8, a9, a10, a11, a12, a13, a14, a15, a16, a17, a18, a19, a20, a21, a22, a23, a24, a25, a26, a27, a28, a29, a30, hb, hmg, hg, hwN, pu]
        exact ⟨by omega, by rw [hst], _, _, mput_ok m1 _ _, rfl, hnew⟩
    · have hb : (x.w.c != c) = true := by simp [hc]
      unfold ok1 at hst
      rw [decide_eq_false hc, Bool.false_and, if_neg (by decide), Nat.zero_add] at hst
      simp +contextual -implicitDefEqProofs (maxSteps := 2000000) only [↓wP, wQ, wQ1, wQ2, wQ3, wR, boxE, partsOf, ↓reduceIte, n1w, n2w, n3w, n4w, n5w, n6w, reduceCtorEq, i1w, i2w, i3w, i4w, i5w, bind_cons, bind_nil, h4, h5, h9, h10, e2, d1, d2, e3, e4, m2, a1, a2, a3, a4, a5, a6, a7, a8, a9, a10, a11, a12, a13, a14, a15, a16, a17, a18, a19, a20, a21, a22, a23, a24, a25, a26, a27, a28, a29, a30, hb]
      exact ⟨by omega, by rw [hst], _, _, m1, rfl, fun id => by rw [m3, hnx, if_neg (fun h => hc h.1)]⟩
  · refine ⟨by omega, upd_self _ _ _, by rw [upd_ne (by omega)]; exact s0, by rw [upd_ne (by omega)]; exact s01, by rw [upd_ne (by omega)]; exact s2, ?_, [], 0, MOk.nil, by rw [upd_ne (by omega)]; exact s1, fun id => ?_⟩
    · rw [upd_ne (by omega), List.drop_length]; exact s3
    · rw [List.drop_length]; rfl
end Go.Q.SB
end

section
/- How many rows are stored; a collection's facts dropped, by the document. -/
set_option linter.unusedSimpArgs false
set_option linter.unusedVariables false
namespace Go.Q.SB
open Go.Q Go.Sort
open Nat renaming reduceEqDiff → n1w, reduceAdd → n2w, reduceSub → n3w, reduceLeDiff → n4w, reduceLT → n5w, reduceMul → n6w
open Int renaming reduceBNe → i1w, reduceBEq → i2w, reduceLT → i3w, reduceLE → i4w, reduceGT → i5w
def stdN (l : List Fa) (c fl : Int) : Int := if stE l c = 0 then (stN c fl l : Int) else 0
theorem r30 (l : Option (List Fa)) (c fl : Int) (h : FitF (lst l)) : res T 30 [slV 5 faV l, .int .i64 c, .int .u64 fl] = some (.tup [.int .i64 (stdN (lst l) c fl), .int .i64 (stE (lst l) c)]) := by
  refine run_res (run_pure (fn := g30) rfl rfl (by decide) ?_)
  simp only [g30, b30, oO, oN, mV, lD, gO, pP, qQ, cI, aR]
  have f24' := f24 l h.sm
  have f59' := f59 c
  have hl := h.1
  have hm44 : T.mode 44 ≠ .raw := by decide
  unfold stdN stE
  cases hrf : rightF (lst l)
  · rw [hrf] at f24'
    rw [if_neg (by decide)] at f24'
    have r := r44 280 (if collB c = true then 0 else 2)
    rw [if_neg (show ¬ (280 : Int) = 0 by decide)] at r
    have z0 : ((280 : Int) != 0) = true := rfl
    simp +contextual -implicitDefEqProofs (maxSteps := 2000000) only [↓wP, wQ, wQ1, wQ2, wQ3, wR, boxE, partsOf, ↓reduceIte, n1w, n2w, n3w, n4w, n5w, n6w, reduceCtorEq, i1w, i2w, i3w, i4w, i5w, f24', f59', callE_eq hm44, frz_rf, rch_rf, r, z0, Nat.mul_zero, Nat.le_refl]
    rfl
  rw [hrf] at f24'
  rw [if_pos rfl] at f24'
  cases hrw : collB c
  · rw [hrw] at f59'
    rw [if_neg (by decide)] at f59'
    have r := r44 0 2
    rw [if_pos rfl] at r
    have z0 : ((2 : Int) != 0) = true := rfl
    simp +contextual -implicitDefEqProofs (maxSteps := 2000000) only [↓wP, wQ, wQ1, wQ2, wQ3, wR, boxE, partsOf, ↓reduceIte, n1w, n2w, n3w, n4w, n5w, n6w, reduceCtorEq, i1w, i2w, i3w, i4w, i5w, f24', f59', callE_eq hm44, frz_rf, rch_rf, r, z0, Nat.mul_zero, Nat.le_refl]
    rfl
  rw [hrw] at f59'
  rw [if_pos rfl] at f59'
  have r := r44 0 0
  rw [if_pos rfl] at r
  have z0 : ((0 : Int) != 0) = false := rfl
  obtain ⟨σ0, hσ0⟩ : ∃ σ0, σ0 = upd (upd (upd (upd (upd (upd (upd (upd Sto.empty 0 (some (.row 1 [.int .i64 c]))) 1 (some (.row 1 [.int .u64 fl]))) 2 (some (.row 1 [.int .i64 0, .int .i64 0]))) 3 (some (.map [] 0))) 4 (some (.row 1 [.nilM]))) 4 (some (.row 1 [.mp 3]))) 5 (some (.row 1 [.int .i64 0]))) 5 (some (.row 1 [.int .i64 0])) := ⟨_, rfl⟩
  have t0 : σ0 0 = some (.row 1 [.int .i64 c]) := by rw [hσ0]; simp [upd]
  have t01 : σ0 1 = some (.row 1 [.int .u64 fl]) := by rw [hσ0]; simp [upd]
  have t1 : σ0 3 = some (.map (ens uV uV []) 0) := by rw [hσ0]; simp [upd, ens]
  have t2 : σ0 4 = some (.row 1 [.mp 3]) := by rw [hσ0]; simp [upd]
  have t3 : σ0 5 = some (.row 1 [.int .i64 0]) := by rw [hσ0]; simp [upd]
  obtain ⟨σa, a1, a2⟩ := f67 (σ := σ0) (n := 6) l
  simp +contextual -implicitDefEqProofs (maxSteps := 2000000) only [↓wP, wQ, wQ1, wQ2, wQ3, wR, boxE, partsOf, ↓reduceIte, n1w, n2w, n3w, n4w, n5w, n6w, reduceCtorEq, i1w, i2w, i3w, i4w, i5w, f24', f59', callE_eq hm44, frz_rf, rch_rf, r, z0, Nat.mul_zero, Nat.le_refl, ← hσ0, a1]
  refine storedLoop l c fl hl rfl rfl rfl rfl rfl (by rw [a2]; exact t0) (by rw [a2]; exact t01) (by rw [a2]; exact t1) (by rw [a2]; exact t2) (by rw [a2]; exact t3) (by omega) (fun σ1 n1 e1 e2 => ?_)
  simp +contextual -implicitDefEqProofs (maxSteps := 2000000) only [↓wP, wQ, wQ1, wQ2, wQ3, wR, boxE, partsOf, ↓reduceIte, n1w, n2w, n3w, n4w, n5w, n6w, reduceCtorEq, i1w, i2w, i3w, i4w, i5w, e2]
theorem f30 (l : Option (List Fa)) (c fl : Int) (h : FitF (lst l)) (fs : Bool) (σ : Sto) (n lk : Nat) : callE T fs 30 [slV 5 faV l, .int .i64 c, .int .u64 fl] σ n lk = some (.tup [.int .i64 (stdN (lst l) c fl), .int .i64 (stE (lst l) c)], σ, n) :=
  callE_tr (by decide) (r30 l c fl h) (by simp [Tr, Tr_slV]) (by simp [Nw, Nw_slV]) fs σ n lk
end Go.Q.SB
end

section
/- IdealTells. -/
set_option linter.unusedSimpArgs false
set_option linter.unusedVariables false
namespace Go.Q.SB
open Go.Q Go.Sort
theorem okU_ll {l : List Fa} : ∀ (n : Nat), okU l n = true → ∀ j (hj : j < l.length), j < n → oneF l j l[j] = true
  | 0, _, j, _, h => absurd h (by omega)
  | n + 1, hk, j, hj, h => by
    by_cases hn : n < l.length
    · have := okU_step hn hk
      by_cases e : j = n
      · subst e; exact this.2
      · exact okU_ll n this.1 j hj (by omega)
    · unfold okU at hk
      rw [Bool.and_eq_true] at hk
      exact okU_ll n hk.1 j hj (by omega)
end Go.Q.SB
end

section
/- IdealGrows. -/
set_option linter.unusedSimpArgs false
set_option linter.unusedVariables false
namespace Go.Q.SB
open Go.Q Go.Sort
open Nat renaming reduceEqDiff → n1w, reduceAdd → n2w, reduceSub → n3w, reduceLeDiff → n4w, reduceLT → n5w, reduceMul → n6w
open Int renaming reduceBNe → i1w, reduceBEq → i2w, reduceLT → i3w, reduceLE → i4w, reduceGT → i5w
theorem right_take {l : List Fa} (h : rightF l = true) (i : Nat) : rightF (l.take i) = true := by
  obtain ⟨h1, h2, h3⟩ := rightF_okU h
  unfold rightF
  have hl : (l.take i).length ≤ l.length := by rw [List.length_take]; omega
  have e1 : okU (l.take i) (l.take i).length = true := by
    have := okU_pre (l.take i) (l.drop i) _ (Nat.le_refl _)
    rw [List.take_append_drop] at this
    rw [← this]
    exact okU_le hl h1
  have e2 : dimB (l.take i) = true := by
    rw [dimB_iff] at h2 ⊢
    exact fun f hf g hg => h2 f (List.mem_of_mem_take hf) g (List.mem_of_mem_take hg)
  rw [e1, e2, decide_eq_true (by omega)]; rfl
theorem now_take {l : List Fa} (h : rightF l = true) (c t : Int) (i : Nat) (hi : i < l.length) (ht : t < l[i].ts) : nowR (l.take i) c t = nowR l c t := by
  obtain ⟨h1, h2, h3⟩ := rightF_okU h
  have hd : ∀ f ∈ l.drop i, t < f.ts := by
    intro f hf
    obtain ⟨j, hj, rfl⟩ := List.mem_iff_getElem.1 hf
    rw [List.length_drop] at hj
    rw [List.getElem_drop]
    have := okU_ts (l := l) (j := i + j) (by omega) (okU_le (by omega) h1) i (by omega)
    omega
  have key : ∀ (d : List Fa) (R : List Rw), (∀ f ∈ d, t < f.ts) → d.foldl (nowStep c t) R = R := by
    intro d
    induction d with
    | nil => intro R _; rfl
    | cons f d ih =>
      intro R h
      have hf := h f List.mem_cons_self
      rw [List.foldl_cons, ih _ (fun g hg => h g (List.mem_cons_of_mem _ hg))]
      unfold nowStep cnt
      rw [decide_eq_false (by omega : ¬ f.ts ≤ t), Bool.and_false]; rfl
  have : nowR l c t = (l.drop i).foldl (nowStep c t) (nowR (l.take i) c t) := by
    unfold nowR
    rw [← List.foldl_append, List.take_append_drop]
  rw [this, key _ _ hd]
def atT (s ts : Int) : List Int := [0, 1, s / 2, s, ts - 1, ts]
theorem right_ts2 {l : List Fa} (h : rightF l = true) : ∀ f ∈ l, 1 ≤ f.ts ∧ f.ts ≤ 1099511627776 := by
  unfold rightF at h
  simp only [Bool.and_eq_true] at h
  intro f hf
  obtain ⟨j, hj, rfl⟩ := List.mem_iff_getElem.1 hf
  have := okU_ll _ h.1.2 j hj hj
  unfold oneF one1 at this
  simp only [Bool.and_eq_true, decide_eq_true_eq] at this
  exact this.1.1.1
def atV (s ts : Int) : V := .agg ((atT s ts).map uV)
theorem atV_idx {s ts : Int} (hs : 0 ≤ s) (h : s < ts) {j : Nat} (hj : j < 6) : ∃ a, idxAE false 6 1 (atV s ts) (.int .i64 (j : Int)) = some (.int .u64 a) ∧ a ≤ ts := by
  match j, hj with
  | 0, _ => exact ⟨0, rfl, by omega⟩
  | 1, _ => exact ⟨1, rfl, by omega⟩
  | 2, _ => exact ⟨s / 2, rfl, by omega⟩
  | 3, _ => exact ⟨s, rfl, by omega⟩
  | 4, _ => exact ⟨ts - 1, rfl, by omega⟩
  | 5, _ => exact ⟨ts, rfl, by omega⟩
theorem r7 (x : Option (List Fa)) (cm : Cm) (hx : SmF x) (hcm : SmC cm) : res T 7 [slV 5 faV x, cmV cm] = some (.bool true) := by
  refine run_res (run_pure (fn := g7) rfl rfl (by decide) ?_)
  simp only [g7, b7, oO, oN, mV, lD, gO, pP, qQ, cI, aR]
  have f10' := f10 x hx
  obtain ⟨l, hl⟩ : ∃ l, l = cutFs x := ⟨_, rfl⟩
  have L1 := few_len x
  rw [← hl] at f10' L1
  have fa := f12 cm.ws hcm
  obtain ⟨w, hw⟩ : ∃ w, w = cutWs cm.ws := ⟨_, rfl⟩
  have W1 := wrs_len cm.ws
  have W2 := wrs_fit cm.ws
  rw [← hw] at fa W1 W2
  have hlf : FitF (lst l) := fit5 (by omega) L1
  have f14' := f14 cm l (by omega)
  rw [cmV_eq] at f14'
  obtain ⟨ts, hts⟩ : ∃ ts, ts = tsC cm (lst l) := ⟨_, rfl⟩
  rw [← hts] at f14'
  have g1 := f13 l ts w hlf W2
  obtain ⟨m, hm⟩ : ∃ m, m = addO l ts (lst w) := ⟨_, rfl⟩
  have M1 := addO_fit (ts := ts) L1.1 L1.2 W1.1 W1.2
  rw [← hm] at g1 M1
  obtain ⟨E1, hE1⟩ : ∃ E, E = addE (lst l) ts (lst w) := ⟨_, rfl⟩
  rw [← hE1] at g1
  by_cases z1 : E1 = 0
  rotate_left
  · have z1' : (E1 != 0) = true := by simp [z1]
    have hm0 : lst m = [] := by rw [hm]; unfold addO; rw [if_neg (by rw [← hE1]; exact z1)]; rfl
    have z8 : (((0 : Nat) : Int) == 0) = true := rfl
    simp +contextual -implicitDefEqProofs (maxSteps := 2000000) only [↓wP, wQ, wQ1, wQ2, wQ3, wR, boxE, partsOf, ↓reduceIte, n1w, n2w, n3w, n4w, n5w, n6w, reduceCtorEq, i1w, i2w, i3w, i4w, i5w, cmV_eq, f9, f10', fa, f14', Nat.mul_zero, Nat.le_refl, g1, z1', hm0, List.length_nil, z8]
  have z1' : (E1 != 0) = false := by simp [z1]
  rw [z1] at hE1
  obtain ⟨a1, a2, a3⟩ := addE_zero hE1.symm
  obtain ⟨r1, r2, r3, r4, r5⟩ := refE_zero a3
  have hml : lst m = lst l ++ (lst w).map (mkF ts) := by rw [hm]; exact addO_lst hE1.symm
  have hrm : rightF (lst m) = true := by rw [hml]; exact right_add hE1.symm
  have hmf : FitF (lst m) := fit5 (by omega) M1
  have f24' := f24 m hmf.sm
  rw [hrm, if_pos rfl] at f24'
  have f20m := f20 m hmf
  have hlm : lastE (lst m) = if lst w = [] then lastT (lst l) else ts := by unfold lastE; rw [if_pos hrm, hml, last_add]
  have f20l := f20 l hlf
  obtain ⟨s, hs⟩ : ∃ s, s = lastE (lst l) := ⟨_, rfl⟩
  have hsb := lastE_le (lst l)
  have hsl : lastT (lst l) = s := by rw [hs]; unfold lastE; rw [if_pos a1]
  rw [← hs] at f20l hsb
  rw [hsl] at hlm
  have hst : s < ts := by omega
  have hq : IntKind.u64.wrap (s.tdiv 2) = s / 2 := by rw [Int.tdiv_eq_ediv_of_nonneg (by omega), wrap_u64] <;> omega
  have hw1 : IntKind.u64.wrap (ts - 1) = ts - 1 := by rw [wrap_u64] <;> omega
  have hb2 : binV .quo (.int .u64 s) (.int .u64 2) = some (.int .u64 (s / 2)) := by rw [bin_quo .u64 s 2 (by decide), hq]
  have z0 : ((0 : Int) != 0) = false := rfl
  have hba : V.agg [.int .u64 0, .int .u64 1, .int .u64 (s / 2), .int .u64 s, .int .u64 (ts - 1), .int .u64 ts] = atV s ts := rfl
  have hYK : ((lastE (lst m) != ts) && decide ((0 : Int) < ((lst w).length : Int))) = false := by
    rw [hlm]
    by_cases hw0 : lst w = []
    · rw [hw0]; simp
    · rw [if_neg hw0]; simp
  generalize lastE (lst m) = LM at *
  simp +contextual -implicitDefEqProofs (maxSteps := 2000000) only [↓wP, wQ, wQ1, wQ2, wQ3, wR, boxE, partsOf, ↓reduceIte, n1w, n2w, n3w, n4w, n5w, n6w, reduceCtorEq, i1w, i2w, i3w, i4w, i5w, cmV_eq, f9, f10', fa, f14', Nat.mul_zero, Nat.le_refl, g1, z1', z0, f24', f20m, f20l, hYK]
  refine WC_for 3 0 (fun (c : Nat) env σ n => env 5 = slV 5 faV l ∧ env 6 = slV 4 wrV w ∧ env 7 = .int .u64 ts ∧ env 8 = slV 5 faV m ∧ env 10 = .int .u64 s) (by omega) (by decide) (by decide) (fun _ _ => rfl) (fun _ _ _ => rfl) ?_ ?_ _ _ _ rfl rfl ?_
  · intro c env σ n hc3 h1 h2 ⟨k1, k2, k3, k4, k5⟩
    have hc : collB (c : Int) = true := by unfold collB; rw [decide_eq_true (by omega), decide_eq_true (by omega)]; rfl
    have s1 : stE (lst l) (c : Int) = 0 := by unfold stE; rw [a1, hc]; rfl
    have s2 : stE (lst m) (c : Int) = 0 := by unfold stE; rw [hrm, hc]; rfl
    have hO1 : ∀ t, stO (lst l) (c : Int) t = nowR (lst l) c t := fun t => by unfold stO; rw [s1, if_pos rfl]
    have hO2 : ∀ t, stO (lst m) (c : Int) t = nowR (lst m) c t := fun t => by unfold stO; rw [s2, if_pos rfl]
    have hSm : ∀ (L : List Fa) (t : Int), (L.length ≤ 73 ∧ ∀ f ∈ L, (lst f.w.v).length ≤ 5) → SmR (oL (nowR L c t)) := fun L t hL =>
      ⟨by rw [lst_oL]; have := nowR_len L c t; omega, fun r hr => by rw [lst_oL] at hr; have := nowR_all (P := fun v => (lst v).length ≤ 5) hL.2 c t r hr; unfold Sm; omega⟩
    simp +contextual -implicitDefEqProofs (maxSteps := 2000000) only [↓wP, wQ, wQ1, wQ2, wQ3, wR, boxE, partsOf, ↓reduceIte, n1w, n2w, n3w, n4w, n5w, n6w, reduceCtorEq, i1w, i2w, i3w, i4w, i5w, h1, k1, k2, k3, k4, k5, hb2, hq, hw1, hba]
    refine WC_cutB (fun env σ n => env 5 = slV 5 faV l ∧ env 6 = slV 4 wrV w ∧ env 7 = .int .u64 ts ∧ env 8 = slV 5 faV m ∧ env 10 = .int .u64 s ∧ env 11 = .int .i64 (c : Int) ∧ env 62 = .int .i64 (c : Int)) ?_ ?_
    · refine WC_for 6 0 (fun (j : Nat) env σ n => env 5 = slV 5 faV l ∧ env 6 = slV 4 wrV w ∧ env 7 = .int .u64 ts ∧ env 8 = slV 5 faV m ∧ env 10 = .int .u64 s ∧ env 11 = .int .i64 (c : Int) ∧ env 62 = .int .i64 (c : Int) ∧ env 71 = atV s ts) (by omega) (by decide) (by decide) (fun _ _ => rfl) (fun _ _ _ => rfl) ?_ ?_ _ _ _ rfl rfl ?_
      · intro j env σ n hj h1 h2 ⟨k1, k2, k3, k4, k5, k6, k7, k8⟩
        obtain ⟨a, hidx, hle⟩ := atV_idx hsb.1 hst hj
        have e1 := f22 l (c : Int) a (few5 (by omega) L1)
        have e2 := f22 m (c : Int) a (few5 (by omega) M1)
        rw [s1, hO1] at e1
        rw [s2, hO2] at e2
        by_cases hat : a = ts
        · subst hat
          have hat' : (a == a) = true := by simp
          have hNl := nowR_len (lst l) c a
          have e3 := f37 w (c : Int) (oL (nowR (lst l) c a)) W2 ⟨by rw [lst_oL]; omega, fun r hr => by rw [lst_oL] at hr; have := nowR_all (P := fun v => (lst v).length ≤ 5) L1.2 c a r hr; omega⟩
          have hovE : ovE (lst w) (c : Int) (nowR (lst l) c a) = 0 := by unfold ovE; rw [a2, hc, now_ro a1]; rfl
          have hovL : ovL (lst w) (c : Int) (nowR (lst l) c a) = nowR (lst m) c a := by
            unfold ovL
            rw [hovE, if_pos rfl, hml, now_add _ _ _ _ _ (Int.le_refl _)]
            unfold ovR
            rw [fold_put (nowR_asc _ _ _)]
          rw [lst_oL, hovE, hovL] at e3
          have e4 := f23 (oL (nowR (lst m) c a)) (oL (nowR (lst m) c a)) (hSm _ _ M1) (hSm _ _ M1)
          rw [same_self] at e4
          simp +contextual -implicitDefEqProofs (maxSteps := 2000000) only [↓wP, wQ, wQ1, wQ2, wQ3, wR, boxE, partsOf, ↓reduceIte, n1w, n2w, n3w, n4w, n5w, n6w, reduceCtorEq, i1w, i2w, i3w, i4w, i5w, h1, k1, k2, k3, k4, k5, k6, k7, k8, hidx, e1, e2, z0, hat', e3, e4]
          rfl
        · have hat' : (a == ts) = false := by simp [hat]
          have hnb : nowR (lst m) (c : Int) a = nowR (lst l) c a := by rw [hml]; exact now_before _ _ _ _ _ (by omega)
          rw [hnb] at e2
          have e4 := f23 (oL (nowR (lst l) c a)) (oL (nowR (lst l) c a)) (hSm _ _ ⟨by omega, L1.2⟩) (hSm _ _ ⟨by omega, L1.2⟩)
          rw [same_self] at e4
          simp +contextual -implicitDefEqProofs (maxSteps := 2000000) only [↓wP, wQ, wQ1, wQ2, wQ3, wR, boxE, partsOf, ↓reduceIte, n1w, n2w, n3w, n4w, n5w, n6w, reduceCtorEq, i1w, i2w, i3w, i4w, i5w, h1, k1, k2, k3, k4, k5, k6, k7, k8, hidx, e1, e2, z0, hat', e4]
          rfl
      · intro env σ n ⟨k1, k2, k3, k4, k5, k6, k7, k8⟩ h1 h2
        simp only [exQ_exit]
        exact ⟨trivial, trivial, k1, k2, k3, k4, k5, k6, k7⟩
      · exact ⟨k1, k2, k3, k4, k5, rfl, h1, rfl⟩
    · intro env σ n ⟨k1, k2, k3, k4, k5, k6, k7⟩
      simp only [seqQ_normal]
      simp +contextual -implicitDefEqProofs (maxSteps := 2000000) only [↓wP, wQ, wQ1, wQ2, wQ3, wR, boxE, partsOf, ↓reduceIte, n1w, n2w, n3w, n4w, n5w, n6w, reduceCtorEq, i1w, i2w, i3w, i4w, i5w, k1, k2, k3, k4, k5, k6, k7]
      refine WC_for (lst l).length 0 (fun (i : Nat) env σ n => env 5 = slV 5 faV l ∧ env 6 = slV 4 wrV w ∧ env 7 = .int .u64 ts ∧ env 8 = slV 5 faV m ∧ env 10 = .int .u64 s ∧ env 11 = .int .i64 (c : Int) ∧ env 62 = .int .i64 (c : Int) ∧ env 112 = slV 5 faV l) (by omega) (by decide) (by decide) (fun _ _ => rfl) (fun _ _ _ => rfl) ?_ ?_ _ _ _ rfl rfl ?_
      · intro i env σ n hi h1 h2 ⟨k1, k2, k3, k4, k5, k6, k7, k8⟩
        simp only [vl_tmp] at h2
        have hxi : (lst l)[i]? = some (lst l)[i] := List.getElem?_eq_getElem hi
        have hb := right_ts2 a1 _ (List.getElem_mem hi)
        have hle : i ≤ (lst l).length := by omega
        have hle0 : 0 ≤ i := by omega
        obtain ⟨sD, hsD⟩ : ∃ sD, sD = sub l 0 i := ⟨_, rfl⟩
        have hlD : lst sD = (lst l).take i := by rw [hsD, lst_sub, List.drop_zero]
        have hnt := now_take a1 (c : Int) ((lst l)[i].ts - 1) i hi (by omega)
        have hDl : (lst sD).length ≤ 60 ∧ ∀ f ∈ lst sD, (lst f.w.v).length ≤ 5 := by
          rw [hlD]
          exact ⟨by rw [List.length_take]; omega, fun f hf => L1.2 f (List.mem_of_mem_take hf)⟩
        have s3 : stE (lst sD) (c : Int) = 0 := by unfold stE; rw [hlD, right_take a1 i, hc]; rfl
        have hO3 : ∀ t, stO (lst sD) (c : Int) t = nowR (lst sD) c t := fun t => by unfold stO; rw [s3, if_pos rfl]
        have e1 := f22 sD (c : Int) ((lst l)[i].ts - 1) (few5 (by omega) hDl)
        rw [s3, hO3, hlD, hnt] at e1
        have e2 := f22 l (c : Int) ((lst l)[i].ts - 1) (few5 (by omega) L1)
        rw [s1, hO1] at e2
        have e4 := f23 (oL (nowR (lst l) c ((lst l)[i].ts - 1))) (oL (nowR (lst l) c ((lst l)[i].ts - 1))) (hSm _ _ ⟨by omega, L1.2⟩) (hSm _ _ ⟨by omega, L1.2⟩)
        rw [same_self] at e4
        have hwt : IntKind.u64.wrap ((lst l)[i].ts - 1) = (lst l)[i].ts - 1 := by rw [wrap_u64] <;> omega
        generalize (lst l)[i] = f at *
        obtain ⟨σ1, hσ1⟩ : ∃ σ1, σ1 = upd (upd σ n (some (.row 5 [.agg [.int .u64 0, .int .i64 0, .int .u64 0, .bool false, .nilS]]))) n (some (.row 5 [.agg [.int .u64 f.ts, .int .i64 f.w.c, .int .u64 f.w.id, .bool f.w.g, slV 1 i32V f.w.v]])) := ⟨_, rfl⟩
        have sn : σ1 n = some (.row 5 [.agg [.int .u64 f.ts, .int .i64 f.w.c, .int .u64 f.w.id, .bool f.w.g, slV 1 i32V f.w.v]]) := by rw [hσ1, upd_self]
        cases i with
        | zero =>
          have z9 : decide ((0 : Int) < ((0 : Nat) : Int)) = false := rfl
          simp +contextual -implicitDefEqProofs (maxSteps := 2000000) only [↓wP, wQ, wQ1, wQ2, wQ3, wR, boxE, partsOf, ↓reduceIte, n1w, n2w, n3w, n4w, n5w, n6w, reduceCtorEq, i1w, i2w, i3w, i4w, i5w, h1, h2, k1, k2, k3, k4, k5, k6, k7, k8, hxi, faV_eq, ← hσ1, sn, z9, hle, hle0, Nat.zero_le, if_pos, ← hsD, hwt, e1, e2, e4, z0]
          try exact ⟨rfl, rfl, rfl, rfl, rfl, rfl, rfl, rfl⟩
        | succ i =>
          have z9 : decide ((0 : Int) < ((i + 1 : Nat) : Int)) = true := decide_eq_true (by omega)
          have hwi : IntKind.i64.wrap (((i + 1 : Nat) : Int) - 1) = (i : Int) := by rw [wrap_i64] <;> omega
          have hxp : (lst l)[i]? = some (lst l)[i] := List.getElem?_eq_getElem (by omega)
          generalize (lst l)[i] = p at *
          cases hk : (p.ts == f.ts)
          · simp +contextual -implicitDefEqProofs (maxSteps := 2000000) only [↓wP, wQ, wQ1, wQ2, wQ3, wR, boxE, partsOf, ↓reduceIte, n1w, n2w, n3w, n4w, n5w, n6w, reduceCtorEq, i1w, i2w, i3w, i4w, i5w, h1, h2, k1, k2, k3, k4, k5, k6, k7, k8, hxi, hxp, faV_eq, ← hσ1, sn, z9, hwi, hk, hle, hle0, Nat.zero_le, if_pos, ← hsD, hwt, e1, e2, e4, z0]
            try exact ⟨rfl, rfl, rfl, rfl, rfl, rfl, rfl, rfl⟩
          · simp +contextual -implicitDefEqProofs (maxSteps := 2000000) only [↓wP, wQ, wQ1, wQ2, wQ3, wR, boxE, partsOf, ↓reduceIte, n1w, n2w, n3w, n4w, n5w, n6w, reduceCtorEq, i1w, i2w, i3w, i4w, i5w, h1, h2, k1, k2, k3, k4, k5, k6, k7, k8, hxi, hxp, faV_eq, ← hσ1, sn, z9, hwi, hk]
            try exact ⟨rfl, rfl, rfl, rfl, rfl, rfl, rfl, rfl⟩
      · intro env σ n ⟨k1, k2, k3, k4, k5, k6, k7, k8⟩ h1 h2
        simp +contextual -implicitDefEqProofs (maxSteps := 2000000) only [↓wP, wQ, wQ1, wQ2, wQ3, wR, boxE, partsOf, ↓reduceIte, n1w, n2w, n3w, n4w, n5w, n6w, reduceCtorEq, i1w, i2w, i3w, i4w, i5w, k1, k2, k3, k4, k5, k6, k7]
        rfl
      · exact ⟨k1, k2, k3, k4, k5, k6, k7, rfl⟩
  · intro env σ n ⟨k1, k2, k3, k4, k5⟩ h1 h2
    simp +contextual -implicitDefEqProofs (maxSteps := 2000000) only [↓wP, wQ, wQ1, wQ2, wQ3, wR, boxE, partsOf, ↓reduceIte, n1w, n2w, n3w, n4w, n5w, n6w, reduceCtorEq, i1w, i2w, i3w, i4w, i5w]
  · exact ⟨rfl, rfl, rfl, rfl, rfl⟩
end Go.Q.SB
end

section
/- Commits, as trees. -/
set_option linter.unusedSimpArgs false
set_option linter.unusedVariables false
set_option maxRecDepth 20000
namespace Go.Q.SB
open Go.Q Go.Proofs
def eCm : Enc Try.prog 29 Cm := Enc.map
  (Enc.struct (EncF.cons (off := 0) (sz := 1) eU64 rfl (by kernel_rfl) (EncF.cons (sz := 1) eBool rfl (by kernel_rfl) (EncF.cons (sz := 1) eWrs rfl (by kernel_rfl) EncF.nil))) Try.underlying29 (by kernel_rfl))
  (fun x => ⟨x.1, x.2.1, x.2.2.1⟩) cmV (fun r => SmC r) (fun a _ => by obtain ⟨a, b, c, u⟩ := a; cases c <;> rfl) (fun a h => okWrs h.2.2.1)
end Go.Q.SB
end

section
/- The table is the program's. -/
namespace Go.Q.SB
open Go.Proofs
def Has (f : Nat) (fn : Fn) : Prop := ∃ F, Try.prog.funcs[f]? = some F ∧ cFunc Try.prog (ownB T) F = some fn ∧ (F.name == "runtime.NumGoroutine") = false
theorem h7 : Has 7 g7 := ⟨Try.f7, Try.func7, by kernel_rfl, by kernel_rfl⟩
theorem h9 : Has 9 g9 := ⟨Try.f9, Try.func9, by kernel_rfl, by kernel_rfl⟩
theorem h10 : Has 10 g10 := ⟨Try.f10, Try.func10, by kernel_rfl, by kernel_rfl⟩
theorem h12 : Has 12 g12 := ⟨Try.f12, Try.func12, by kernel_rfl, by kernel_rfl⟩
theorem h13 : Has 13 g13 := ⟨Try.f13, Try.func13, by kernel_rfl, by kernel_rfl⟩
theorem h14 : Has 14 g14 := ⟨Try.f14, Try.func14, by kernel_rfl, by kernel_rfl⟩
theorem h20 : Has 20 g20 := ⟨Try.f20, Try.func20, by kernel_rfl, by kernel_rfl⟩
theorem h21 : Has 21 g21 := ⟨Try.f21, Try.func21, by kernel_rfl, by kernel_rfl⟩
theorem h22 : Has 22 g22 := ⟨Try.f22, Try.func22, by kernel_rfl, by kernel_rfl⟩
theorem h23 : Has 23 g23 := ⟨Try.f23, Try.func23, by kernel_rfl, by kernel_rfl⟩
theorem h24 : Has 24 g24 := ⟨Try.f24, Try.func24, by kernel_rfl, by kernel_rfl⟩
theorem h26 : Has 26 g26 := ⟨Try.f26, Try.func26, by kernel_rfl, by kernel_rfl⟩
theorem h30 : Has 30 g30 := ⟨Try.f30, Try.func30, by kernel_rfl, by kernel_rfl⟩
theorem h37 : Has 37 g37 := ⟨Try.f37, Try.func37, by kernel_rfl, by kernel_rfl⟩
theorem h42 : Has 42 g42 := ⟨Try.f42, Try.func42, by kernel_rfl, by kernel_rfl⟩
theorem h43 : Has 43 g43 := ⟨Try.f43, Try.func43, by kernel_rfl, by kernel_rfl⟩
theorem h44 : Has 44 g44 := ⟨Try.f44, Try.func44, by kernel_rfl, by kernel_rfl⟩
theorem h45 : Has 45 g45 := ⟨Try.f45, Try.func45, by kernel_rfl, by kernel_rfl⟩
theorem h46 : Has 46 g46 := ⟨Try.f46, Try.func46, by kernel_rfl, by kernel_rfl⟩
theorem h47 : Has 47 g47 := ⟨Try.f47, Try.func47, by kernel_rfl, by kernel_rfl⟩
theorem h48 : Has 48 g48 := ⟨Try.f48, Try.func48, by kernel_rfl, by kernel_rfl⟩
theorem h49 : Has 49 g49 := ⟨Try.f49, Try.func49, by kernel_rfl, by kernel_rfl⟩
theorem h50 : Has 50 g50 := ⟨Try.f50, Try.func50, by kernel_rfl, by kernel_rfl⟩
theorem h57 : Has 57 g57 := ⟨Try.f57, Try.func57, by kernel_rfl, by kernel_rfl⟩
theorem h58 : Has 58 g58 := ⟨Try.f58, Try.func58, by kernel_rfl, by kernel_rfl⟩
theorem h59 : Has 59 g59 := ⟨Try.f59, Try.func59, by kernel_rfl, by kernel_rfl⟩
theorem h60 : Has 60 g60 := ⟨Try.f60, Try.func60, by kernel_rfl, by kernel_rfl⟩
theorem h61 : Has 61 g61 := ⟨Try.f61, Try.func61, by kernel_rfl, by kernel_rfl⟩
theorem h62 : Has 62 g62 := ⟨Try.f62, Try.func62, by kernel_rfl, by kernel_rfl⟩
theorem h65 : Has 65 g65 := ⟨Try.f65, Try.func65, by kernel_rfl, by kernel_rfl⟩
theorem h67 : Has 67 g67 := ⟨Try.f67, Try.func67, by kernel_rfl, by kernel_rfl⟩
theorem h70 : Has 70 g70 := ⟨Try.f70, Try.func70, by kernel_rfl, by kernel_rfl⟩
theorem h71 : Has 71 g71 := ⟨Try.f71, Try.func71, by kernel_rfl, by kernel_rfl⟩
theorem h72 : Has 72 g72 := ⟨Try.f72, Try.func72, by kernel_rfl, by kernel_rfl⟩
theorem h73 : Has 73 g73 := ⟨Try.f73, Try.func73, by kernel_rfl, by kernel_rfl⟩
theorem h74 : Has 74 g74 := ⟨Try.f74, Try.func74, by kernel_rfl, by kernel_rfl⟩
theorem h75 : Has 75 g75 := ⟨Try.f75, Try.func75, by kernel_rfl, by kernel_rfl⟩
theorem h76 : Has 76 g76 := ⟨Try.f76, Try.func76, by kernel_rfl, by kernel_rfl⟩
theorem h77 : Has 77 g77 := ⟨Try.f77, Try.func77, by kernel_rfl, by kernel_rfl⟩
theorem h91 : Has 91 g91 := ⟨Try.f91, Try.func91, by kernel_rfl, by kernel_rfl⟩
theorem h92 : Has 92 g92 := ⟨Try.f92, Try.func92, by kernel_rfl, by kernel_rfl⟩
theorem h93 : Has 93 g93 := ⟨Try.f93, Try.func93, by kernel_rfl, by kernel_rfl⟩
theorem h94 : Has 94 g94 := ⟨Try.f94, Try.func94, by kernel_rfl, by kernel_rfl⟩
theorem h95 : Has 95 g95 := ⟨Try.f95, Try.func95, by kernel_rfl, by kernel_rfl⟩
theorem h96 : Has 96 g96 := ⟨Try.f96, Try.func96, by kernel_rfl, by kernel_rfl⟩
theorem h97 : Has 97 g97 := ⟨Try.f97, Try.func97, by kernel_rfl, by kernel_rfl⟩
theorem h98 : Has 98 g98 := ⟨Try.f98, Try.func98, by kernel_rfl, by kernel_rfl⟩
theorem h100 : Has 100 g100 := ⟨Try.f100, Try.func100, by kernel_rfl, by kernel_rfl⟩
theorem h101 : Has 101 g101 := ⟨Try.f101, Try.func101, by kernel_rfl, by kernel_rfl⟩
theorem h102 : Has 102 g102 := ⟨Try.f102, Try.func102, by kernel_rfl, by kernel_rfl⟩
theorem h103 : Has 103 g103 := ⟨Try.f103, Try.func103, by kernel_rfl, by kernel_rfl⟩
theorem h104 : Has 104 g104 := ⟨Try.f104, Try.func104, by kernel_rfl, by kernel_rfl⟩
theorem h105 : Has 105 g105 := ⟨Try.f105, Try.func105, by kernel_rfl, by kernel_rfl⟩
theorem h109 : Has 109 g109 := ⟨Try.f109, Try.func109, by kernel_rfl, by kernel_rfl⟩
theorem h110 : Has 110 g110 := ⟨Try.f110, Try.func110, by kernel_rfl, by kernel_rfl⟩
theorem h111 : Has 111 g111 := ⟨Try.f111, Try.func111, by kernel_rfl, by kernel_rfl⟩
theorem h112 : Has 112 g112 := ⟨Try.f112, Try.func112, by kernel_rfl, by kernel_rfl⟩
theorem h113 : Has 113 g113 := ⟨Try.f113, Try.func113, by kernel_rfl, by kernel_rfl⟩
theorem h114 : Has 114 g114 := ⟨Try.f114, Try.func114, by kernel_rfl, by kernel_rfl⟩
theorem h115 : Has 115 g115 := ⟨Try.f115, Try.func115, by kernel_rfl, by kernel_rfl⟩
theorem h116 : Has 116 g116 := ⟨Try.f116, Try.func116, by kernel_rfl, by kernel_rfl⟩
theorem h117 : Has 117 g117 := ⟨Try.f117, Try.func117, by kernel_rfl, by kernel_rfl⟩
theorem h118 : Has 118 g118 := ⟨Try.f118, Try.func118, by kernel_rfl, by kernel_rfl⟩
theorem h119 : Has 119 g119 := ⟨Try.f119, Try.func119, by kernel_rfl, by kernel_rfl⟩
theorem h120 : Has 120 g120 := ⟨Try.f120, Try.func120, by kernel_rfl, by kernel_rfl⟩
theorem h121 : Has 121 g121 := ⟨Try.f121, Try.func121, by kernel_rfl, by kernel_rfl⟩
theorem h122 : Has 122 g122 := ⟨Try.f122, Try.func122, by kernel_rfl, by kernel_rfl⟩
theorem h123 : Has 123 g123 := ⟨Try.f123, Try.func123, by kernel_rfl, by kernel_rfl⟩
theorem h124 : Has 124 g124 := ⟨Try.f124, Try.func124, by kernel_rfl, by kernel_rfl⟩
theorem h125 : Has 125 g125 := ⟨Try.f125, Try.func125, by kernel_rfl, by kernel_rfl⟩
theorem h126 : Has 126 g126 := ⟨Try.f126, Try.func126, by kernel_rfl, by kernel_rfl⟩
theorem h127 : Has 127 g127 := ⟨Try.f127, Try.func127, by kernel_rfl, by kernel_rfl⟩
theorem h128 : Has 128 g128 := ⟨Try.f128, Try.func128, by kernel_rfl, by kernel_rfl⟩
theorem tabOf : TabOf Try.prog T := by
  intro f fn h
  simp only [T] at h
  unfold fnOf at h
  split at h
  all_goals first | (cases h; done) | skip
  all_goals (simp only [Option.some.injEq] at h; subst h)
  · exact h7
  · exact h9
  · exact h10
  · exact h12
  · exact h13
  · exact h14
  · exact h20
  · exact h21
  · exact h22
  · exact h23
  · exact h24
  · exact h26
  · exact h30
  · exact h37
  · exact h42
  · exact h43
  · exact h44
  · exact h45
  · exact h46
  · exact h47
  · exact h48
  · exact h49
  · exact h50
  · exact h57
  · exact h58
  · exact h59
  · exact h60
  · exact h61
  · exact h62
  · exact h65
  · exact h67
  · exact h70
  · exact h71
  · exact h72
  · exact h73
  · exact h74
  · exact h75
  · exact h76
  · exact h77
  · exact h91
  · exact h92
  · exact h93
  · exact h94
  · exact h95
  · exact h96
  · exact h97
  · exact h98
  · exact h100
  · exact h101
  · exact h102
  · exact h103
  · exact h104
  · exact h105
  · exact h109
  · exact h110
  · exact h111
  · exact h112
  · exact h113
  · exact h114
  · exact h115
  · exact h116
  · exact h117
  · exact h118
  · exact h119
  · exact h120
  · exact h121
  · exact h122
  · exact h123
  · exact h124
  · exact h125
  · exact h126
  · exact h127
  · exact h128
theorem mixed : Try.prog.follows .mixedOrders = true := by kernel_rfl
end Go.Q.SB
end
